/- What the functions say: equations. Printed by out.py. -/
import Derived.Test.YtnodjiikdgmeaaaGreatDoorZQAD
import Derived.Test.YtnodjiikdgmeaaaGreatDoorZM2
import Derived.Test.YtnodjiikdgmeaaaGreatDoorZM3
set_option linter.unusedVariables false
set_option linter.unusedSimpArgs false
set_option maxRecDepth 100000
namespace Go.Proofs.YtnodjiikdgmeaaaGreatDoor.Abs
open Go Go.Proofs.YtnodjiikdgmeaaaGreatDoor
theorem CN {x0 x1 x2 x3 x4}:qf x0 x1 x2 x3 x4=if(decide (x4≥0))=true then(ix x0 x1 (ai.dflt) fun y1=>(ix y1.2.2.2.2.2.1 x4 0 fun y2=>(if(y2 != (IntKind.i64.wrap (x3 - 1)))=true then(some (((-1),()),(()))) else(if(decide (y2 < 0))=true then(some (((-1),()),(()))) else(ix x0 y2 (ai.dflt) fun y3=>(if(y3.1 == 3)=true then(ix x0 x1 (ai.dflt) fun y4=>(if(y4.1 != 6)=true then(some (((-1),()),(()))) else((yv x0 y2 (IntKind.i64.wrap (x2+1))).bind fun z1=>(if(decide (z1.1.1 < 0))=true then(some (((-1),()),(()))) else(qf x0 x1 x2 z1.1.1 (IntKind.i64.wrap (x4 - 1))))))) else((yv x0 y2 (IntKind.i64.wrap (x2+1))).bind fun z2=>(if(decide (z2.1.1 < 0))=true then(some (((-1),()),(()))) else(qf x0 x1 x2 z2.1.1 (IntKind.i64.wrap (x4 - 1))))))))))) else(some ((x3,()),(()))):=bc (by kernel_rfl)
theorem pL {x0 x1 x2 x3 x4 x5 x6 x7 x8 x9 x10}:jU x0 x1 x2 x3 x4 x5 x6 x7 x8 x9 x10=if(decide (x3 < x2))=true then(ix x1 x3 0 fun y1=>((fI x0 y1 1).bind fun z1=>(app x10 ([z1.1.1]:(List ByteArray)) 16 fun y2=>(jU x0 x1 x2 (IntKind.i64.wrap (x3+1)) x4 x5 x6 x7 x8 x9 y2)))) else((BW x5).bind fun z2=>(cats z2.1.1 (⟨#[40]⟩:ByteArray) fun y3=>((strings_Join x10 (⟨#[44]⟩:ByteArray)).bind fun z3=>(cats y3 z3.1.1 fun y4=>(cats y4 (⟨#[41]⟩:ByteArray) fun y5=>(some ((y5,()),(())))))))):=bc (by kernel_rfl)
theorem xv {x0 x1 x2 x3}:mT x0 x1 x2 x3=if(decide (x3 < x2))=true then(ix x1 x3 (ap.dflt) fun y1=>((rh y1.1).bind fun z1=>(if(!z1.1.1)=true then(some ((false,()),(()))) else(if(decide (x3 > 0))=true then(ix x0 (IntKind.i64.wrap (x3 - 1)) (ap.dflt) fun y2=>((lp y2.1 y1.1).bind fun z2=>(if(decide (z2.1.1≥0))=true then(some ((false,()),(()))) else((u4 y1.2.1).bind fun z3=>(if(!z3.1.1)=true then(some ((false,()),(()))) else(mT x0 x1 x2 (IntKind.i64.wrap (x3+1)))))))) else((u4 y1.2.1).bind fun z4=>(if(!z4.1.1)=true then(some ((false,()),(()))) else(mT x0 x1 x2 (IntKind.i64.wrap (x3+1))))))))) else(some (((decide ((List.length x0:Int)≤120)),()),(()))):=bc (by kernel_rfl)
theorem xw {x0 x1 x2 x3}:kw x0 x1 x2 x3=if(decide (x2 < x1))=true then(ix x0 x2 (ai.dflt) fun y1=>(if(y1.1 == 2)=true then((iY y1).bind fun z1=>(app x3 ([z1.1.1]:(List aJ)) 32 fun y2=>(kw x0 x1 (IntKind.i64.wrap (x2+1)) y2))) else(if(y1.1 == 3)=true then((iY y1).bind fun z2=>(app x3 ([z2.1.1]:(List aJ)) 32 fun y3=>(kw x0 x1 (IntKind.i64.wrap (x2+1)) y3))) else(kw x0 x1 (IntKind.i64.wrap (x2+1)) x3)))) else(some ((x3,()),(()))):=bc (by kernel_rfl)
theorem ml {x0 x1 x2 x3 x4}:eA x0 x1 x2 x3 x4=if(decide (x2 < x1))=true then(ix x0 x2 (bp.dflt) fun y1=>((NI y1 x3 x4).bind fun z1=>(if z1.1.1=true then(some ((x2,()),(z1.2.1,()))) else(bL x0 x1 (IntKind.i64.wrap (x2+1)) z1.2.1)))) else(some (((-1),()),((x3,x4,()),()))):=bc (by kernel_rfl)
theorem vl {x0 x1 x2 x3 x4 x5 x6 x7 x8 x9}:lC x0 x1 x2 x3 x4 x5 x6 x7 x8 x9=if(decide (x3 < x2))=true then(ix x1 x3 (ap.dflt) fun y1=>((yy y1.2.1).bind fun z1=>((yz z1.1.1).bind fun z2=>(lH x0 x1 x2 x3 x0 (List.length x0:Int) 0 x4 z1.1.1 z2.1.1 ([]:(List Int)) x5 x6 x7 x8 x9)))) else(some (((x4,x8,x9,()),()),(()))):=bc (by kernel_rfl)
theorem pM {x0 x1 x2 x3 x4 x5 x6}:fu x0 x1 x2 x3 x4 x5 x6=if(decide (x1 < (List.length x6:Int)))=true then(inb x6 x1 (if((List.getD x6 (Int.toNat x1) 0) == x0)=true then(some ((true,()),(()))) else(inb x5 (List.getD x6 (Int.toNat x1) 0) (if(!(List.getD x5 (Int.toNat (List.getD x6 (Int.toNat x1) 0)) false))=true then(inb x5 (List.getD x6 (Int.toNat x1) 0) (ix x4 (List.getD x6 (Int.toNat x1) 0) ([]:(List Int)) fun y1=>(app x6 y1 8 fun y2=>(fu x0 (IntKind.i64.wrap (x1+1)) x2 x3 x4 (List.set x5 (Int.toNat (List.getD x6 (Int.toNat x1) 0)) true) y2)))) else(fu x0 (IntKind.i64.wrap (x1+1)) x2 x3 x4 x5 x6))))) else(some ((false,()),(()))):=bc (by kernel_rfl)
theorem kD {x0 x1 x2 x3 x4 x5 x6 x7 x8}:dM x0 x1 x2 x3 x4 x5 x6 x7 x8=if(decide (x3 < x2))=true then(ix x1 x3 0 fun y1=>((cq y1 x4 x5 x6 x7 x8).bind fun z1=>(bE x0 x1 x2 (IntKind.i64.wrap (x3+1)) z1.2.2.1 z1.2.1 z1.2.2.2.1))) else(ix x5 x0 ([]:(List aa)) fun y2=>((u6 y2 x8).bind fun z2=>(inb x8 x0 (gj (ae.dflt) x8 x0 (fun e=>(e.1,z2.1.1,())) fun w3=>(some ((()),(x7,(x4,x5,x6,()),w3,()))))))):=bc (by kernel_rfl)
theorem ff {x0 x1 x2 x3 x4 x5 x6}:bU x0 x1 x2 x3 x4 x5 x6=if(decide (x3 < x2))=true then(ix x1 x3 0 fun y1=>((bh y1 x4 x5 x6).bind fun z1=>(bE x0 x1 x2 (IntKind.i64.wrap (x3+1)) z1.2.2.1 z1.2.1 z1.2.2.2.1))) else(ix x4.2.1 x0 ([]:(List aa)) fun y2=>((u6 y2 x6).bind fun z2=>(inb x6 x0 (gj (ae.dflt) x6 x0 (fun e=>(e.1,z2.1.1,())) fun w3=>(some ((()),(x5,x4,w3,()))))))):=bc (by kernel_rfl)
theorem zI {x0 x1 x2 x3 x4 x5 x6 x7}:sO x0 x1 x2 x3 x4 x5 x6 x7=if(decide (x2 < x1))=true then(ix x0 x2 (ae.dflt) fun y1=>(if(bN ao y1.1 (x3,x4,()))=true then(some ((y1.2.1,()),(()))) else(sO x0 x1 (IntKind.i64.wrap (x2+1)) x3 x4 x5 x6 x7))) else(some (((0,0,(⟨#[]⟩:ByteArray),()),()),(()))):=bc (by kernel_rfl)
theorem vm {x0 x1 x2 x3 x4 x5}:ju x0 x1 x2 x3 x4 x5=if(decide (x4 < x3))=true then(ix x2 x4 0 fun y1=>(ix x0 y1 (ai.dflt) fun y2=>(if(y2.1 != 3)=true then((iz x0 y1 x1).bind fun z1=>(app x5 ([z1.1.1]:(List ab)) 32 fun y3=>(ju x0 x1 x2 x3 (IntKind.i64.wrap (x4+1)) y3))) else(g7 x0 x1 y1 x2 x3 x4 x1 (List.length x1:Int) 0 x5)))) else(some ((x5,()),(()))):=bc (by kernel_rfl)
theorem vn {x0 x1 x2 x3 x4 x5 x6 x7 x8}:gY x0 x1 x2 x3 x4 x5 x6 x7 x8=if(decide (x5 < x4))=true then(ix x3 x5 (ag.dflt) fun y1=>((tL y1).bind fun z1=>(if(!z1.1.2.1)=true then((iA y1).bind fun z2=>(some ((z2.1.1,()),(())))) else(if x1=true then(if x2=true then(gY x0 z1.1.1 true x3 x4 (IntKind.i64.wrap (x5+1)) x6 x7 x8) else(gY x0 z1.1.1 z1.1.1 x3 x4 (IntKind.i64.wrap (x5+1)) x6 x7 x8)) else(if x2=true then(gY x0 false true x3 x4 (IntKind.i64.wrap (x5+1)) x6 x7 x8) else(gY x0 false z1.1.1 x3 x4 (IntKind.i64.wrap (x5+1)) x6 x7 x8)))))) else(if(x0 == 6)=true then((lq x1).bind fun z3=>(some ((z3.1.1,()),(())))) else((lq x2).bind fun z4=>(some ((z4.1.1,()),(()))))):=bc (by kernel_rfl)
theorem Ru {x0 x1}:Q6 x0 x1=(nr (IntKind.i64.wrap (x0+x1))).bind fun z1=>(some ((z1.1.1,()),(()))):=aq (by kernel_rfl)
theorem zJ {x0 x1 x2 x3 x4 x5 x6 x7 x8}:pm x0 x1 x2 x3 x4 x5 x6 x7 x8=if(decide (x2 < x1))=true then(ix x0 x2 (ag.dflt) fun y1=>(if(y1.1 == 4)=true then(some ((y1,()),(()))) else(if(y1.1 == 1)=true then((Ke (x6,x7,x8,()) y1).bind fun z1=>(if(z1.1.1.1 == 4)=true then(some ((z1.1.1,()),(()))) else(pm x0 x1 (IntKind.i64.wrap (x2+1)) x3 x4 x5 z1.1.1.1 z1.1.1.2.1 z1.1.1.2.2.1))) else(if(x6 == 4)=true then(some (((x6,x7,x8,()),()),(()))) else(pm x0 x1 (IntKind.i64.wrap (x2+1)) x3 x4 x5 x6 x7 x8))))) else(some (((x6,x7,x8,()),()),(()))):=bc (by kernel_rfl)
theorem vo {x0 x1 x2 x3 x4 x5 x6 x7 x8 x9}:eU x0 x1 x2 x3 x4 x5 x6 x7 x8 x9=if(decide (x6 < x5))=true then(ix x4 x6 (ag.dflt) fun y1=>(if(y1.1 == 4)=true then(if(x0 != 4)=true then(some ((y1,()),(()))) else(if(y1.1 != 1)=true then(eU x0 x1 x2 x3 x4 x5 (IntKind.i64.wrap (x6+1)) x7 x8 x9) else(if(x3 == 0)=true then(eU x0 (if y1.2.1 < y1.2.1 then y1.2.1 else y1.2.1) (if y1.2.1 < y1.2.1 then y1.2.1 else y1.2.1) (IntKind.i64.wrap (x3+1)) x4 x5 (IntKind.i64.wrap (x6+1)) x7 x8 x9) else(eU x0 (if y1.2.1 < x1 then y1.2.1 else x1) (if x2 < y1.2.1 then y1.2.1 else x2) (IntKind.i64.wrap (x3+1)) x4 x5 (IntKind.i64.wrap (x6+1)) x7 x8 x9)))) else(if(y1.1 != 1)=true then(eU x0 x1 x2 x3 x4 x5 (IntKind.i64.wrap (x6+1)) x7 x8 x9) else(if(x3 == 0)=true then(eU x0 (if y1.2.1 < y1.2.1 then y1.2.1 else y1.2.1) (if y1.2.1 < y1.2.1 then y1.2.1 else y1.2.1) (IntKind.i64.wrap (x3+1)) x4 x5 (IntKind.i64.wrap (x6+1)) x7 x8 x9) else(eU x0 (if y1.2.1 < x1 then y1.2.1 else x1) (if x2 < y1.2.1 then y1.2.1 else x2) (IntKind.i64.wrap (x3+1)) x4 x5 (IntKind.i64.wrap (x6+1)) x7 x8 x9))))) else(if(x0 == 2)=true then((ik x1).bind fun z1=>(some ((z1.1.1,()),(())))) else(if(x0 == 3)=true then((ik x2).bind fun z2=>(some ((z2.1.1,()),(())))) else((ik x3).bind fun z3=>(some ((z3.1.1,()),(())))))):=bc (by kernel_rfl)
theorem MP {x0 x1}:Kg x0 x1=if(x1 != 0)=true then(nz (if x1 < (IntKind.i64.wrap (0 - x1)) then(IntKind.i64.wrap (0 - x1)) else x1) (if(decide ((if x0 < (IntKind.i64.wrap (0 - x0)) then(IntKind.i64.wrap (0 - x0)) else x0) > (IntKind.i64.wrap (Int.tdiv 1000000000000000 (if x1 < (IntKind.i64.wrap (0 - x1)) then(IntKind.i64.wrap (0 - x1)) else x1)))))=true then((fH 4).bind fun z1=>(some ((z1.1.1,()),(())))) else((nr (IntKind.i64.wrap (x0*x1))).bind fun z2=>(some ((z2.1.1,()),(())))))) else((nr (IntKind.i64.wrap (x0*x1))).bind fun z3=>(some ((z3.1.1,()),(())))):=aq (by kernel_rfl)
theorem Ps {x0 x1}:NM x0 x1=if(x1 == 0)=true then((fH 1).bind fun z1=>(some ((z1.1.1,()),(())))) else(nz x1 ((nr (IntKind.i64.wrap (Int.tdiv x0 x1))).bind fun z2=>(some ((z2.1.1,()),(()))))):=aq (by kernel_rfl)
theorem pN {x0 x1 x2 x3 x4 x5 x6 x7 x8}:gZ x0 x1 x2 x3 x4 x5 x6 x7 x8=if(decide (x3 < x2))=true then(ix x1 x3 (ap.dflt) fun y1=>(ix x0 x3 (ag.dflt) fun y2=>(inb x8 x3 (gZ x0 x1 x2 (IntKind.i64.wrap (x3+1)) x4 x5 x6 x7 (List.set x8 (Int.toNat x3) (y1.1,y2,())))))) else(ji (List.length x8:Int) 0 x8 x4 x5 x6 x7):=bc (by kernel_rfl)
theorem Ab {x0 x1 x2}:nw x0 x1 x2=if(decide (x2 < (List.length x0:Int)))=true then(ix x0 x2 (ae.dflt) fun y1=>(ix x1 x2 (ae.dflt) fun y2=>((oW y1 y2).bind fun z1=>(if(!z1.1.1)=true then(some ((false,()),(()))) else(nw x0 x1 (IntKind.i64.wrap (x2+1))))))) else(some ((true,()),(()))):=bc (by kernel_rfl)
theorem GC {x0 x1 x2}:vX x0 x1 x2=if(decide (x2 < (List.length x0:Int)))=true then(ix x0 x2 (ap.dflt) fun y1=>(ix x1 x2 (ap.dflt) fun y2=>((B1 y1 y2).bind fun z1=>(if(!z1.1.1)=true then(some ((false,()),(()))) else(vX x0 x1 (IntKind.i64.wrap (x2+1))))))) else(some ((true,()),(()))):=bc (by kernel_rfl)
theorem vp {x0 x1}:po x0 x1=if(decide (x0 > 0))=true then(cats (strOfNums ([(IntKind.u8.wrap (IntKind.i64.wrap (48+(Int.tmod x0 10))))]:(List Int))) x1 fun y1=>(po (IntKind.i64.wrap (Int.tdiv x0 10)) y1)) else(cats (⟨#[109]⟩:ByteArray) x1 fun y2=>(some ((y2,()),(())))):=bc (by kernel_rfl)
theorem rB {x0 x1 x2}:kP x0 x1 x2=if(decide (x1 < (List.length x2:Int)))=true then(inb x2 x1 (gj (ap.dflt) x2 x1 (fun e=>((x0,e.1.2.1,()),e.2.1,())) fun w1=>(inb w1 x1 (gj (ap.dflt) w1 x1 (fun e=>((e.1.1,(IntKind.i64.wrap (x0+1)),()),e.2.1,())) fun w2=>((rk (IntKind.i64.wrap ((IntKind.i64.wrap (x0+1))+1))).bind fun z1=>(inb w2 x1 (gj (ap.dflt) w2 x1 (fun e=>(e.1,z1.1.1,())) fun w3=>(kP (IntKind.i64.wrap ((IntKind.i64.wrap ((IntKind.i64.wrap (x0+1))+1))+1)) (IntKind.i64.wrap (x1+1)) w3)))))))) else(some ((x0,()),(x2,()))):=bc (by kernel_rfl)
theorem mt {x0 x1 x2}:gn x0 x1 x2=if(decide (x1 < (List.length x2:Int)))=true then(inb x2 x1 (gj (ae.dflt) x2 x1 (fun e=>((x0,e.1.2.1,()),e.2.1,())) fun w1=>(inb w1 x1 (gj (ae.dflt) w1 x1 (fun e=>((e.1.1,(IntKind.i64.wrap (x0+1)),()),e.2.1,())) fun w2=>(inb w2 x1 (gj (ae.dflt) w2 x1 (fun e=>(e.1,((IntKind.i64.wrap ((IntKind.i64.wrap (x0+1))+1)),e.2.1.2.1,e.2.1.2.2.1,()),())) fun w3=>(inb w3 x1 (gj (ae.dflt) w3 x1 (fun e=>(e.1,(e.2.1.1,(IntKind.i64.wrap ((IntKind.i64.wrap ((IntKind.i64.wrap (x0+1))+1))+1)),e.2.1.2.2.1,()),())) fun w4=>((rk (IntKind.i64.wrap ((IntKind.i64.wrap ((IntKind.i64.wrap ((IntKind.i64.wrap (x0+1))+1))+1))+1))).bind fun z1=>(inb w4 x1 (gj (ae.dflt) w4 x1 (fun e=>(e.1,(e.2.1.1,e.2.1.2.1,z1.1.1,()),())) fun w5=>(gn (IntKind.i64.wrap ((IntKind.i64.wrap ((IntKind.i64.wrap ((IntKind.i64.wrap ((IntKind.i64.wrap (x0+1))+1))+1))+1))+1)) (IntKind.i64.wrap (x1+1)) w5)))))))))))) else(some ((x0,()),(x2,()))):=bc (by kernel_rfl)
theorem n4 {x0 x1 x2}:iE x0 x1 x2=if(decide (x2 < (List.length x0:Int)))=true then(ix x0 x2 (ae.dflt) fun y1=>(if(y1.1.1 != x1)=true then(some (((-1),()),(()))) else(ix x0 x2 (ae.dflt) fun y2=>(if(y2.1.2.1 != (IntKind.i64.wrap (x1+1)))=true then(some (((-1),()),(()))) else(ix x0 x2 (ae.dflt) fun y3=>(if(y3.2.1.1 != (IntKind.i64.wrap ((IntKind.i64.wrap (x1+1))+1)))=true then(some (((-1),()),(()))) else(ix x0 x2 (ae.dflt) fun y4=>(if(y4.2.1.2.1 != (IntKind.i64.wrap ((IntKind.i64.wrap ((IntKind.i64.wrap (x1+1))+1))+1)))=true then(some (((-1),()),(()))) else(ix x0 x2 (ae.dflt) fun y5=>((rk (IntKind.i64.wrap ((IntKind.i64.wrap ((IntKind.i64.wrap ((IntKind.i64.wrap (x1+1))+1))+1))+1))).bind fun z1=>(if(!(ByteArray.toList y5.2.1.2.2.1 == ByteArray.toList z1.1.1))=true then(some (((-1),()),(()))) else(iE x0 (IntKind.i64.wrap ((IntKind.i64.wrap ((IntKind.i64.wrap ((IntKind.i64.wrap ((IntKind.i64.wrap (x1+1))+1))+1))+1))+1)) (IntKind.i64.wrap (x2+1)))))))))))))) else(some ((x1,()),(()))):=bc (by kernel_rfl)
theorem Ac {x0 x1 x2}:nD x0 x1 x2=if(decide (x2 < (List.length x0:Int)))=true then(ix x0 x2 (ae.dflt) fun y1=>((oY y1 x1).bind fun z1=>(if(decide (z1.1.1 < 0))=true then(some (((-1),()),(()))) else(nD x0 z1.1.1 (IntKind.i64.wrap (x2+1)))))) else(some ((x1,()),(()))):=bc (by kernel_rfl)
theorem Ad {x0 x1 x2}:nE x0 x1 x2=if(decide (x1 < (List.length x0:Int)))=true then(ix x0 x1 (ae.dflt) fun y1=>((oZ y1).bind fun z1=>(inb x2 x1 (nE x0 (IntKind.i64.wrap (x1+1)) (List.set x2 (Int.toNat x1) z1.1.1))))) else(some ((x2,()),(()))):=bc (by kernel_rfl)
theorem IX {x0 x1 x2}:yF x0 x1 x2=if(decide (x1 < (List.length x0:Int)))=true then(ix x0 x1 (ao.dflt) fun y1=>((wT y1).bind fun z1=>(inb x2 x1 (yF x0 (IntKind.i64.wrap (x1+1)) (List.set x2 (Int.toNat x1) z1.1.1))))) else(some ((x2,()),(()))):=bc (by kernel_rfl)
theorem uf {x0 x1 x2}:kf x0 x1 x2=if x1=true then(fe x0 false 0 x2) else(gG x0 0 x2 ([]:(List al))):=bc (by kernel_rfl)
theorem vq {x0 x1 x2 x3}:lE x0 x1 x2 x3=if(decide (x3 < x2))=true then(ix x1 x3 (ae.dflt) fun y1=>((rh y1.1).bind fun z1=>(if(!z1.1.1)=true then(some ((false,()),(()))) else(if(decide (x3 > 0))=true then(ix x0 (IntKind.i64.wrap (x3 - 1)) (ae.dflt) fun y2=>((lp y2.1 y1.1).bind fun z2=>(if(decide (z2.1.1≥0))=true then(some ((false,()),(()))) else((cI y1.2.1).bind fun z3=>(if(!z3.1.1)=true then(some ((false,()),(()))) else(lE x0 x1 x2 (IntKind.i64.wrap (x3+1)))))))) else((cI y1.2.1).bind fun z4=>(if(!z4.1.1)=true then(some ((false,()),(()))) else(lE x0 x1 x2 (IntKind.i64.wrap (x3+1))))))))) else(some (((decide ((List.length x0:Int)≤120)),()),(()))):=bc (by kernel_rfl)
theorem vZ {x0 x1 x2 x3 x4}:fj x0 x1 x2 x3 x4=if(decide (x2 < x1))=true then(ix x0 x2 (ao.dflt) fun y1=>(if(bN ao (x3,x4,()) y1)=true then(some ((x2,()),(()))) else(fj x0 x1 (IntKind.i64.wrap (x2+1)) x3 x4))) else(some (((-1),()),(()))):=bc (by kernel_rfl)
theorem jd {x0 x1 x2 x3}:cZ x0 x1 x2 x3=if(decide (x2 < x1))=true then(ix x0 x2 (ao.dflt) fun y1=>((nu y1 x3).bind fun z1=>(if z1.1.1=true then(some ((x2,()),(z1.2.1,()))) else(bn x0 x1 (IntKind.i64.wrap (x2+1)) z1.2.1)))) else(some (((-1),()),(x3,()))):=bc (by kernel_rfl)
theorem gJ {x0 x1 x2 x3}:cC x0 x1 x2 x3=if(decide (x2 < x1))=true then(ix x0 x2 0 fun y1=>((nv y1 x3).bind fun z1=>(if z1.1.1=true then(some ((x2,()),(z1.2.1,()))) else(aZ x0 x1 (IntKind.i64.wrap (x2+1)) z1.2.1)))) else(some (((-1),()),(x3,()))):=bc (by kernel_rfl)
theorem pp {x0 x1 x2 x3 x4 x5 x6 x7}:dS x0 x1 x2 x3 x4 x5 x6 x7=if(decide (x3 < x2))=true then(ix x1 x3 (ap.dflt) fun y1=>(ix x5 x3 ([]:(List aa)) fun y2=>((yz y2).bind fun z1=>((kB x0 y1.1).bind fun z2=>(if z2.1.1=true then(inb x7 x3 (dS x0 x1 x2 (IntKind.i64.wrap (x3+1)) x4 x5 x6 (List.set x7 (Int.toNat x3) true))) else((ce x0 z1.1.1).bind fun z3=>(inb x7 x3 (dS x0 x1 x2 (IntKind.i64.wrap (x3+1)) x4 x5 x6 (List.set x7 (Int.toNat x3) z3.1.1))))))))) else(e8 true x4 x5 x6 x7):=bc (by kernel_rfl)
theorem pO {x0 x1 x2 x3 x4 x5 x6 x7 x8}:g6 x0 x1 x2 x3 x4 x5 x6 x7 x8=if(decide (x3 < x2))=true then(ix x1 x3 (ap.dflt) fun y1=>(inb x6 x3 (inb x6 x3 ((BZ x0 y1.1).bind fun z1=>(app x5 ([z1.1.1]:(List ab)) 32 fun y2=>(g6 x0 x1 x2 (IntKind.i64.wrap (x3+1)) x4 y2 (List.set x6 (Int.toNat x3) (!(List.getD x6 (Int.toNat x3) false))) x7 x8)))))) else((kb (x4,x7,x8,()) x6 x5).bind fun z2=>(some ((z2.1.1,()),(())))):=bc (by kernel_rfl)
theorem IY {x0 x1 x2}:yG x0 x1 x2=if(decide (x2 < (List.length x0:Int)))=true then(ix x0 x2 (ao.dflt) fun y1=>(ix x1 x2 (ao.dflt) fun y2=>((xb y1 y2).bind fun z1=>(if(!z1.1.1)=true then(some ((false,()),(()))) else(yG x0 x1 (IntKind.i64.wrap (x2+1))))))) else(some ((true,()),(()))):=bc (by kernel_rfl)
theorem si {x0 x1 x2}:mh x0 x1 x2=if(decide (x1 < (List.length x2:Int)))=true then(inb x2 x1 (gj (ao.dflt) x2 x1 (fun e=>(x0,e.2.1,())) fun w1=>(inb w1 x1 (gj (ao.dflt) w1 x1 (fun e=>(e.1,(IntKind.i64.wrap (x0+1)),())) fun w2=>(mh (IntKind.i64.wrap ((IntKind.i64.wrap (x0+1))+1)) (IntKind.i64.wrap (x1+1)) w2))))) else(some ((x0,()),(x2,()))):=bc (by kernel_rfl)
theorem mB {x0 x1 x2 x3 x4 x5}:cN x0 x1 x2 x3 x4 x5=if(!x3)=true then((rf x1 x2 x3 x5).bind fun z1=>(app x4 ([z1.1.1]:(List Int)) 8 fun y1=>((dB (⟨#[41]⟩:ByteArray) z1.2.1.1 z1.2.1.2.1 z1.2.1.2.2.1 z1.2.1.2.2.2.1).bind fun z2=>(if z2.1.1=true then((bT (6,x0,(0,0,(⟨#[]⟩:ByteArray),()),((0,0,()),false,false,()),((0,0,()),false,false,()),y1,()) z2.2.1.1 z2.2.1.2.1 z2.2.1.2.2.1 z2.2.1.2.2.2.1).bind fun z3=>(some ((z3.1.1,()),(z3.2.1,())))) else((dB (⟨#[44]⟩:ByteArray) z2.2.1.1 z2.2.1.2.1 z2.2.1.2.2.1 z2.2.1.2.2.2.1).bind fun z4=>(if(!z4.1.1)=true then(cN x0 z4.2.1.1 z4.2.1.2.1 true y1 z4.2.1.2.2.2.1) else(cN x0 z4.2.1.1 z4.2.1.2.1 z4.2.1.2.2.1 y1 z4.2.1.2.2.2.1))))))) else(some ((0,()),((x1,x2,x3,x5,()),()))):=bc (by kernel_rfl)
theorem vr {x0 x1 x2 x3 x4 x5 x6}:lF x0 x1 x2 x3 x4 x5 x6=if(decide (x1 < (List.length x5:Int)))=true then(inb x5 x1 ((tF (List.getD x5 (Int.toNat x1) 0)).bind fun z1=>(if(z1.1.1 == x0)=true then(inb x5 x1 ((wV (List.getD x5 (Int.toNat x1) 0)).bind fun z2=>((dB z2.1.1 x2 x3 x4 x6).bind fun z3=>(if z3.1.1=true then(inb x5 x1 (some (((List.getD x5 (Int.toNat x1) 0),()),(z3.2.1,())))) else(lF x0 (IntKind.i64.wrap (x1+1)) z3.2.1.1 z3.2.1.2.1 z3.2.1.2.2.1 x5 z3.2.1.2.2.2.1))))) else(lF x0 (IntKind.i64.wrap (x1+1)) x2 x3 x4 x5 x6)))) else(some ((0,()),((x2,x3,x4,x6,()),()))):=bc (by kernel_rfl)
theorem ug {x0 x1 x2}:kg x0 x1 x2=ix x0 x1 (ai.dflt) fun y1=>(if(decide (x2 < (List.length y1.2.2.2.2.2.1:Int)))=true then(ix x0 x1 (ai.dflt) fun y2=>(ix y2.2.2.2.2.2.1 x2 0 fun y3=>((kM y3 0 (IntKind.i64.wrap (x1 - 1))).bind fun z1=>(if(!z1.1.1)=true then(some ((false,()),(()))) else(ix x0 y3 (ai.dflt) fun y4=>(if(y4.1 == 3)=true then(ix x0 x1 (ai.dflt) fun y5=>(if(y5.1 != 6)=true then(some ((false,()),(()))) else(kg x0 x1 (IntKind.i64.wrap (x2+1))))) else(kg x0 x1 (IntKind.i64.wrap (x2+1))))))))) else(ep x0 (IntKind.i64.wrap (x1+1)))):=bc (by kernel_rfl)
theorem xx {x0 x1 x2 x3 x4 x5}:mW x0 x1 x2 x3 x4 x5=if(decide (x3 < (List.length x5:Int)))=true then(if x2=true then(mW x0 x1 true (IntKind.i64.wrap (x3+1)) x4 x5) else(ix x0 x1 (ap.dflt) fun y1=>(inb x5 x3 ((rg y1.1 (List.getD x5 (Int.toNat x3) (bp.dflt))).bind fun z1=>(mW x0 x1 z1.1.1 (IntKind.i64.wrap (x3+1)) x4 x5))))) else(if x2=true then(ix x0 x1 (ap.dflt) fun y2=>(app x4 ([y2.1]:(List al)) 16 fun y3=>(iZ x0 (IntKind.i64.wrap (x1+1)) y3 x5))) else(iZ x0 (IntKind.i64.wrap (x1+1)) x4 x5)):=bc (by kernel_rfl)
theorem vt {x0 x1 x2 x3 x4 x5 x6}:lG x0 x1 x2 x3 x4 x5 x6=if(decide (x2 < (List.length x6:Int)))=true then(inb x6 x2 ((lm x5 (List.getD x6 (Int.toNat x2) (ao.dflt))).bind fun z1=>(if(!z1.1.1)=true then(inb x6 x2 (app x5 ([(List.getD x6 (Int.toNat x2) (ao.dflt))]:(List al)) 16 fun y1=>(lG x0 x1 (IntKind.i64.wrap (x2+1)) x3 x4 y1 x6))) else(lG x0 x1 (IntKind.i64.wrap (x2+1)) x3 x4 x5 x6)))) else(lz x0 (IntKind.i64.wrap (x1+1)) x3 x4 x5):=bc (by kernel_rfl)
theorem xy {x0 x1 x2 x3 x4 x5 x6 x7}:i6 x0 x1 x2 x3 x4 x5 x6 x7=if(decide (x4 < (List.length x2:Int)))=true then(ix x2 x4 (ae.dflt) fun y1=>((rg y1.1 (x6,x7,())).bind fun z1=>(if z1.1.1=true then(ix x2 x4 (ae.dflt) fun y2=>(app x5 ([y2.2.1]:(List ab)) 32 fun y3=>(i6 x0 x1 x2 x3 (IntKind.i64.wrap (x4+1)) y3 x6 x7))) else(i6 x0 x1 x2 x3 (IntKind.i64.wrap (x4+1)) x5 x6 x7)))) else(me x0 x1 x2 (IntKind.i64.wrap (x3+1)) x5):=bc (by kernel_rfl)
theorem zK {x0 x1 x2}:iJ x0 x1 x2=if(decide ((List.length x2:Int) > 0))=true then(gw x0 0 x1 x2 ([]:(List al))) else(some ((x1,()),(()))):=bc (by kernel_rfl)
theorem pq {x0 x1 x2 x3 x4 x5 x6 x7}:cd x0 x1 x2 x3 x4 x5 x6 x7=if(decide (x4≤11))=true then((oT x5 x6 x7).bind fun z1=>((w9 x4).bind fun z2=>(if(ByteArray.toList z1.1.1 == ByteArray.toList z2.1.1)=true then(cd x0 x1 x2 x4 (IntKind.i64.wrap (x4+1)) z1.2.1.1 z1.2.1.2.2.1 z1.2.1.2.1) else(cd x0 x1 x2 x3 (IntKind.i64.wrap (x4+1)) z1.2.1.1 z1.2.1.2.2.1 z1.2.1.2.1)))) else(if(x3 == 0)=true then(some ((x2,()),((x5,x7,x6,()),()))) else((AM x3).bind fun z3=>(if(decide (z3.1.1 < x0))=true then(some ((x2,()),((x5,x7,x6,()),()))) else((w9 x3).bind fun z4=>((bz z4.1.1 x5 x6 x7).bind fun z5=>((AM x3).bind fun z6=>((bC (IntKind.i64.wrap (z6.1.1+1)) x1 z5.2.1.1 z5.2.1.2.2.1 z5.2.1.2.1).bind fun z7=>((aR (5,x3,(0,0,(⟨#[]⟩:ByteArray),()),((0,0,()),false,false,()),((0,0,()),false,false,()),([x2,z7.1.1]:(List Int)),()) z7.2.1.1 z7.2.1.2.2.1 z7.2.1.2.1).bind fun z8=>(eZ x0 x1 z8.1.1 z8.2.1.1 z8.2.1.2.2.1 z8.2.1.2.1))))))))):=bc (by kernel_rfl)
theorem fM {x0 x1 x2 x3}:bL x0 x1 x2 x3=if(decide (x2 < x1))=true then(ix x0 x2 (bp.dflt) fun y1=>((Kd y1 x3).bind fun z1=>(if z1.1.1=true then(some ((x2,()),(z1.2.1,()))) else(bL x0 x1 (IntKind.i64.wrap (x2+1)) z1.2.1)))) else(some (((-1),()),(x3,()))):=bc (by kernel_rfl)
theorem vu {x0 x1 x2 x3 x4 x5 x6 x7 x8 x9 x10 x11 x12 x13 x14 x15}:lH x0 x1 x2 x3 x4 x5 x6 x7 x8 x9 x10 x11 x12 x13 x14 x15=if(decide (x6 < x5))=true then(ix x4 x6 (ap.dflt) fun y1=>((Ja x9 y1.1).bind fun z1=>(if z1.1.1=true then(app x10 ([x6]:(List Int)) 8 fun y2=>(lH x0 x1 x2 x3 x4 x5 (IntKind.i64.wrap (x6+1)) x7 x8 x9 y2 x11 x12 x13 x14 x15)) else(lH x0 x1 x2 x3 x4 x5 (IntKind.i64.wrap (x6+1)) x7 x8 x9 x10 x11 x12 x13 x14 x15)))) else(app x14 ([x8]:(List (List aa))) 24 fun y3=>(app x15 ([x10]:(List (List Int))) 24 fun y4=>(lC x0 x1 x2 (IntKind.i64.wrap (x3+1)) x7 x11 x12 x13 y3 y4))):=bc (by kernel_rfl)
theorem db {x0 x1 x2 x3 x4 x5 x6}:bE x0 x1 x2 x3 x4 x5 x6=if(decide (x3 < x2))=true then(ix x1 x3 0 fun y1=>((bh y1 x4 x5 x6).bind fun z1=>(bE x0 x1 x2 (IntKind.i64.wrap (x3+1)) z1.2.2.1 z1.2.1 z1.2.2.2.1))) else(ix x4.2.1 x0 ([]:(List aa)) fun y2=>((u6 y2 x6).bind fun z2=>(inb x6 x0 (gj (ae.dflt) x6 x0 (fun e=>(e.1,z2.1.1,())) fun w3=>(some ((()),(x5,x4,w3,()))))))):=bc (by kernel_rfl)
theorem vv {x0 x1 x2 x3 x4 x5 x6 x7 x8 x9}:g7 x0 x1 x2 x3 x4 x5 x6 x7 x8 x9=if(decide (x8 < x7))=true then(ix x6 x8 (ae.dflt) fun y1=>(ix x0 x2 (ai.dflt) fun y2=>((iY y2).bind fun z1=>((ri z1.1.1 y1.1).bind fun z2=>(if z2.1.1=true then(app x9 ([y1.2.1]:(List ab)) 32 fun y3=>(g7 x0 x1 x2 x3 x4 x5 x6 x7 (IntKind.i64.wrap (x8+1)) y3)) else(g7 x0 x1 x2 x3 x4 x5 x6 x7 (IntKind.i64.wrap (x8+1)) x9)))))) else(ju x0 x1 x3 x4 (IntKind.i64.wrap (x5+1)) x9):=bc (by kernel_rfl)
theorem yP {x0 x1 x2 x3 x4 x5 x6}:ji x0 x1 x2 x3 x4 x5 x6=if(decide (x1 < x0))=true then((cq x1 x3 x4 x5 x6 x2).bind fun z1=>(fL x0 (IntKind.i64.wrap (x1+1)) z1.2.2.2.1 z1.2.2.1 z1.2.1)) else(some ((x2,()),(()))):=bc (by kernel_rfl)
theorem uh {x0 x1 x2 x3}:fe x0 x1 x2 x3=if(decide (x2 < (List.length x0:Int)))=true then(ix x0 x2 (ap.dflt) fun y1=>((lm x3 y1.1).bind fun z1=>(if z1.1.1=true then(fe x0 x1 (IntKind.i64.wrap (x2+1)) x3) else(ix x0 x2 (ap.dflt) fun y2=>((tH y2.2.1).bind fun z2=>(gH x0 x1 x2 false 0 x3 z2.1.1)))))) else(kf x0 x1 x3):=bc (by kernel_rfl)
theorem sj {x0 x1 x2 x3}:gG x0 x1 x2 x3=if(decide (x1 < (List.length x0:Int)))=true then(ix x0 x1 (ap.dflt) fun y1=>((lm x2 y1.1).bind fun z1=>(if z1.1.1=true then(ix x0 x1 (ap.dflt) fun y2=>(app x3 ([y2.1]:(List al)) 16 fun y3=>(gG x0 (IntKind.i64.wrap (x1+1)) x2 y3))) else(gG x0 (IntKind.i64.wrap (x1+1)) x2 x3)))) else(some ((x3,()),(()))):=bc (by kernel_rfl)
theorem ee {x0 x1 x2 x3}:bn x0 x1 x2 x3=if(decide (x2 < x1))=true then(ix x0 x2 (ao.dflt) fun y1=>((nu y1 x3).bind fun z1=>(if z1.1.1=true then(some ((x2,()),(z1.2.1,()))) else(bn x0 x1 (IntKind.i64.wrap (x2+1)) z1.2.1)))) else(some (((-1),()),(x3,()))):=bc (by kernel_rfl)
end Go.Proofs.YtnodjiikdgmeaaaGreatDoor.Abs
namespace Go.Proofs.YtnodjiikdgmeaaaGreatDoor.Abs
open Go Go.Proofs.YtnodjiikdgmeaaaGreatDoor
theorem cf {x0 x1 x2 x3}:aZ x0 x1 x2 x3=if(decide (x2 < x1))=true then(ix x0 x2 0 fun y1=>((nv y1 x3).bind fun z1=>(if z1.1.1=true then(some ((x2,()),(z1.2.1,()))) else(aZ x0 x1 (IntKind.i64.wrap (x2+1)) z1.2.1)))) else(some (((-1),()),(x3,()))):=bc (by kernel_rfl)
theorem pu {x0 x1 x2 x3 x4}:e8 x0 x1 x2 x3 x4=if x0=true then(eK false x3 (List.length x3:Int) 0 x1 x2 x3 x4) else(some ((x4,()),(()))):=bc (by kernel_rfl)
theorem xz {x0 x1 x2 x3 x4}:gw x0 x1 x2 x3 x4=if(decide (x1 < (List.length x3:Int)))=true then(inb x3 x1 ((EY x0 (List.getD x3 (Int.toNat x1) (ao.dflt))).bind fun z1=>((oQ z1.1.1).bind fun z2=>((jQ z1.1.1).bind fun z3=>(if z2.1.2.1=true then((cp 5).bind fun z4=>(inb x3 x1 ((u1 x0 (List.getD x3 (Int.toNat x1) (ao.dflt))).bind fun z5=>(if(!z5.1.1)=true then(inb x3 x1 ((nq x0 (List.getD x3 (Int.toNat x1) (ao.dflt))).bind fun z6=>(qV x0 x1 false 0 x2 x3 x4 z2.1.1 z4.1.1.1 z4.1.1.2.1 z4.1.1.2.2.1 z6.1.1))) else(inb x3 x1 ((j7 x2 ((List.getD x3 (Int.toNat x1) (ao.dflt)),z4.1.1,())).bind fun z7=>(gw x0 (IntKind.i64.wrap (x1+1)) z7.1.1 x3 x4))))))) else(inb x3 x1 ((j7 x2 ((List.getD x3 (Int.toNat x1) (ao.dflt)),z3.1.1,())).bind fun z8=>(gw x0 (IntKind.i64.wrap (x1+1)) z8.1.1 x3 x4)))))))) else(iJ x0 x2 x4):=bc (by kernel_rfl)
theorem jw {x0 x1 x2 x3 x4}:fL x0 x1 x2 x3 x4=if(decide (x1 < x0))=true then((bh x1 x3 x4 x2).bind fun z1=>(fL x0 (IntKind.i64.wrap (x1+1)) z1.2.2.2.1 z1.2.2.1 z1.2.1)) else(some ((x2,()),(()))):=bc (by kernel_rfl)
theorem sk {x0 x1 x2 x3 x4 x5 x6}:gH x0 x1 x2 x3 x4 x5 x6=if(decide (x4 < (List.length x6:Int)))=true then(jv x0 x1 x2 x3 x4 0 x5 x6) else(if x3=true then(ix x0 x2 (ap.dflt) fun y1=>(app x5 ([y1.1]:(List al)) 16 fun y2=>(fe x0 true (IntKind.i64.wrap (x2+1)) y2))) else(fe x0 x1 (IntKind.i64.wrap (x2+1)) x5)):=bc (by kernel_rfl)
theorem n5 {x0 x1 x2 x3 x4 x5 x6 x7}:eK x0 x1 x2 x3 x4 x5 x6 x7=if(decide (x3 < x2))=true then(ix x1 x3 ([]:(List Int)) fun y1=>(inb x7 x3 (if(!(List.getD x7 (Int.toNat x3) false))=true then((cB y1 x7).bind fun z1=>(if z1.1.1=true then(inb z1.2.1 x3 (eK true x1 x2 (IntKind.i64.wrap (x3+1)) x4 x5 x6 (List.set z1.2.1 (Int.toNat x3) true))) else(eK x0 x1 x2 (IntKind.i64.wrap (x3+1)) x4 x5 x6 z1.2.1))) else(eK x0 x1 x2 (IntKind.i64.wrap (x3+1)) x4 x5 x6 x7)))) else(e8 x0 x4 x5 x6 x7):=bc (by kernel_rfl)
theorem xA {x0 x1 x2 x3 x4 x5 x6 x7 x8 x9 x10 x11}:qV x0 x1 x2 x3 x4 x5 x6 x7 x8 x9 x10 x11=if(decide (x3 < (List.length x11:Int)))=true then(if x2=true then(qV x0 x1 true (IntKind.i64.wrap (x3+1)) x4 x5 x6 x7 x8 x9 x10 x11) else(Ns x5 x1 fun y1=>(inb x11 x3 ((lm y1 (List.getD x11 (Int.toNat x3) (ao.dflt))).bind fun z1=>(if z1.1.1=true then(eV x0 x1 true (IntKind.i64.wrap (x3+1)) x4 x5 x6 x7 x8 x9 x10 x11) else(inb x11 x3 ((lm x6 (List.getD x11 (Int.toNat x3) (ao.dflt))).bind fun z2=>(eV x0 x1 z2.1.1 (IntKind.i64.wrap (x3+1)) x4 x5 x6 x7 x8 x9 x10 x11)))))))) else(if x2=true then(inb x5 x1 (app x6 ([(List.getD x5 (Int.toNat x1) (ao.dflt))]:(List al)) 16 fun y2=>(gw x0 (IntKind.i64.wrap (x1+1)) x4 x5 y2))) else((u3 x7 x4).bind fun z3=>(inb x5 x1 ((j7 x4 ((List.getD x5 (Int.toNat x1) (ao.dflt)),z3.1.1,())).bind fun z4=>(gw x0 (IntKind.i64.wrap (x1+1)) z4.1.1 x5 x6))))):=bc (by kernel_rfl)
theorem sn {x0 x1 x2 x3 x4 x5 x6 x7}:jv x0 x1 x2 x3 x4 x5 x6 x7=if(decide (x5 < (List.length x6:Int)))=true then(if x3=true then(jv x0 x1 x2 true x4 (IntKind.i64.wrap (x5+1)) x6 x7) else(inb x6 x5 (inb x7 x4 ((rg (List.getD x6 (Int.toNat x5) (ao.dflt)) (List.getD x7 (Int.toNat x4) (bp.dflt))).bind fun z1=>(jv x0 x1 x2 z1.1.1 x4 (IntKind.i64.wrap (x5+1)) x6 x7))))) else(gH x0 x1 x2 x3 (IntKind.i64.wrap (x4+1)) x6 x7):=bc (by kernel_rfl)
theorem vw {x0 x1 x2 x3 x4 x5 x6 x7 x8 x9 x10 x11}:eV x0 x1 x2 x3 x4 x5 x6 x7 x8 x9 x10 x11=if(decide (x3 < (List.length x11:Int)))=true then(if x2=true then(eV x0 x1 true (IntKind.i64.wrap (x3+1)) x4 x5 x6 x7 x8 x9 x10 x11) else(Ns x5 x1 fun y1=>(inb x11 x3 ((lm y1 (List.getD x11 (Int.toNat x3) (ao.dflt))).bind fun z1=>(if z1.1.1=true then(eV x0 x1 true (IntKind.i64.wrap (x3+1)) x4 x5 x6 x7 x8 x9 x10 x11) else(inb x11 x3 ((lm x6 (List.getD x11 (Int.toNat x3) (ao.dflt))).bind fun z2=>(eV x0 x1 z2.1.1 (IntKind.i64.wrap (x3+1)) x4 x5 x6 x7 x8 x9 x10 x11)))))))) else(if x2=true then(ix x5 x1 (ao.dflt) fun y2=>(app x6 ([y2]:(List al)) 16 fun y3=>(ed x0 (IntKind.i64.wrap (x1+1)) x4 x5 y3))) else((u3 x7 x4).bind fun z3=>(ix x5 x1 (ao.dflt) fun y4=>((j7 x4 (y4,z3.1.1,())).bind fun z4=>(ed x0 (IntKind.i64.wrap (x1+1)) z4.1.1 x5 x6))))):=bc (by kernel_rfl)
theorem vx {x0 x1 x2 x3 x4}:ed x0 x1 x2 x3 x4=if(decide (x1 < (List.length x3:Int)))=true then(ix x3 x1 (ao.dflt) fun y1=>((EY x0 y1).bind fun z1=>((oQ z1.1.1).bind fun z2=>((jQ z1.1.1).bind fun z3=>(if z2.1.2.1=true then((cp 5).bind fun z4=>(ix x3 x1 (ao.dflt) fun y2=>((u1 x0 y2).bind fun z5=>(if(!z5.1.1)=true then(ix x3 x1 (ao.dflt) fun y3=>((nq x0 y3).bind fun z6=>(eV x0 x1 false 0 x2 x3 x4 z2.1.1 z4.1.1.1 z4.1.1.2.1 z4.1.1.2.2.1 z6.1.1))) else(ix x3 x1 (ao.dflt) fun y4=>((j7 x2 (y4,z4.1.1,())).bind fun z7=>(ed x0 (IntKind.i64.wrap (x1+1)) z7.1.1 x3 x4))))))) else(ix x3 x1 (ao.dflt) fun y5=>((j7 x2 (y5,z3.1.1,())).bind fun z8=>(ed x0 (IntKind.i64.wrap (x1+1)) z8.1.1 x3 x4)))))))) else(iJ x0 x2 x4):=bc (by kernel_rfl)
end Go.Proofs.YtnodjiikdgmeaaaGreatDoor.Abs
set_option linter.unusedSectionVars false
namespace Go.Proofs.YtnodjiikdgmeaaaGreatDoor.Abs
open Go
abbrev eS:ByteArray:=⟨#[]⟩
theorem A2 (a b:Int):(a == b)=decide (a=b):=rfl
def cw (n lo hi:Int):Bool:=decide (lo≤n∧n≤hi)
theorem iK (n lo hi:Int):eH n lo hi=some ((cw n lo hi,()),()):=by
 rw[O8]
 unfold cw
 by_cases h:lo≤n <;> simp[h]
theorem lJ (n lo hi:Int):kM n lo hi=some ((cw n lo hi,()),()):=by
 rw[Tb]
 unfold cw
 by_cases h:lo≤n <;> simp[h]
theorem bA {n lo hi:Int}:cw n lo hi=true↔lo≤n∧n≤hi:=by simp[cw]
def ca (r:al):Bool:=cw r.1 1 52 && cw r.2.1 1 99
theorem n6 (r:al):d7 r=some ((ca r,()),()):=by
 rw[Rd]
 unfold ca
 simp only[lJ,Option.bind_some]
 cases cw r.1 1 52 <;> simp
theorem rC (r:al):rh r=some ((ca r,()),()):=by
 rw[Rn]
 unfold ca
 simp only[iK,Option.bind_some]
 cases cw r.1 1 52 <;> simp
def pv (a:aJ):Bool:=ca a.1 && ca a.2.1 && decide (a.1.1≤a.2.1.1) && decide (a.1.2.1≤a.2.1.2.1)
theorem Pt (a:aJ):Gi a=some ((pv a,()),()):=by
 rw[OO]
 unfold pv
 simp only[n6,Option.bind_some]
 cases ca a.1 <;> cases ca a.2.1 <;> by_cases h:a.1.1≤a.2.1.1 <;> simp[h]
theorem Pu (a:aJ):BX a=some ((pv a,()),()):=by
 rw[Pd]
 unfold pv
 simp only[rC,Option.bind_some]
 cases ca a.1 <;> cases ca a.2.1 <;> by_cases h:a.1.1≤a.2.1.1 <;> simp[h]
def so (b:Int):Bool:=decide (32≤b∧b≤126)
def plain (s:ByteArray):Bool:=(mr s).all so
theorem zL {s:ByteArray} (hs:s.size≤9223372036854775807) : ∀(ys pre:List Int),mr s=pre++ys→qP s (pre.length:Int)=some ((ys.all so && decide ((s.size:Int)≤200),()),())
 | [],pre,he=>by
  rw[xn,aw (NN he)]
  simp
 | y :: ys,pre,he=>by
  rw[xn,az (Rb he),AQ he,AQ he,Kj he hs,zL hs ys _ (av he)]
  by_cases h1:y < 32
  ·have:so y=false:=by simp[so]; omega
   simp[h1,this]
  ·by_cases h2:y > 126
   ·have:so y=false:=by simp[so]; omega
    simp[h1,h2,this]
   ·have:so y=true:=by simp[so]; omega
    simp[h1,h2,this]
theorem v6 {s:ByteArray} (hs:s.size≤9223372036854775807):tD s=some ((plain s && decide ((s.size:Int)≤200),()),()):=by
 rw[Mm]
 exact zL hs (mr s) [] rfl
theorem A3 {s:ByteArray} {m:Int} (hs:s.size≤9223372036854775807) : ∀(ys pre:List Int),mr s=pre++ys→sL s m (s.size:Int) (pre.length:Int)=some ((ys.all so && decide ((s.size:Int)≤m),()),())
 | [],pre,he=>by
  rw[zH,aw (NN he)]
  simp
 | y :: ys,pre,he=>by
  rw[zH,az (Rb he),AQ he,AQ he,Kj he hs,A3 hs ys _ (av he)]
  by_cases h1:y < 32
  ·have:so y=false:=by simp[so]; omega
   simp[h1,this]
  ·by_cases h2:y > 126
   ·have:so y=false:=by simp[so]; omega
    simp[h1,h2,this]
   ·have:so y=true:=by simp[so]; omega
    simp[h1,h2,this]
theorem yQ {s:ByteArray} {m:Int} (hs:s.size≤9223372036854775807):w8 s m=some ((plain s && decide ((s.size:Int)≤m),()),()):=by
 rw[O9]
 exact A3 hs (mr s) [] rfl
def an (v:ab):Bool :=
 if v.1=2 then decide (v.2.1=0) && (plain v.2.2.1 && decide ((v.2.2.1.size:Int)≤200)) else
 decide (v.2.2.1=eS) && (if v.1=0 then decide (v.2.1=0) else if v.1=1 then cw v.2.1 (-1000000000000000) 1000000000000000 else if v.1=3 then cw v.2.1 0 1 else if v.1=4 then cw v.2.1 1 5 else false)
theorem eP {v:ab} (h:v.2.2.1.size≤9223372036854775807):dQ v=some ((an v,()),()):=by
 rw[Mo]
 unfold an
 simp only[lJ,v6 h,Option.bind_some,beq_iff_eq,Ct]
 by_cases h0:v.1=0
 ·by_cases h1:v.2.1=0 <;> simp[h0,h1]
 by_cases h1:v.1=1
 ·cases cw v.2.1 (-1000000000000000) 1000000000000000 <;> simp[h1]
 by_cases h2:v.1=2
 ·by_cases h1:v.2.1=0 <;> simp[h2,h1]
 by_cases h3:v.1=3
 ·cases cw v.2.1 0 1 <;> simp[h3]
 by_cases h4:v.1=4
 ·cases cw v.2.1 1 5 <;> simp[h4]
 simp[h0,h1,h2,h3,h4]
theorem ef {v:ab} (h:v.2.2.1.size≤9223372036854775807):cI v=some ((an v,()),()):=by
 rw[MB]
 unfold an
 simp only[iK,yQ h,Option.bind_some,beq_iff_eq,Ct]
 by_cases h2:v.1=2
 ·by_cases h1:v.2.1=0 <;> simp[h2,h1]
 by_cases he:v.2.2.1=eS
 ·by_cases h0:v.1=0
  ·by_cases h1:v.2.1=0 <;> simp[h0,h1,he]
  by_cases h1:v.1=1
  ·cases cw v.2.1 (-1000000000000000) 1000000000000000 <;> simp[h1,he]
  by_cases h3:v.1=3
  ·cases cw v.2.1 0 1 <;> simp[h3,he]
  by_cases h4:v.1=4
  ·cases cw v.2.1 1 5 <;> simp[h4,he]
  simp[h0,h1,h2,h3,h4,he]
 ·simp[h2,he]
theorem et {v:ab} (h:an v=true):v.2.2.1.size≤200:=by
 unfold an at h
 split at h
 ·simp only[Bool.and_eq_true,decide_eq_true_eq] at h
  omega
 ·simp only[Bool.and_eq_true,decide_eq_true_eq] at h
  rw[h.1]
  decide
theorem dk {v:ab} (h:an v=true):v.2.2.1.size≤9223372036854775807:=Nat.le_trans (et h) (by decide)
def vN (n:Int):ab:=(1,n,eS,())
def vE (n:Int):ab:=(4,n,eS,())
def vB (b:Bool):ab:=(3,if b=true then 1 else 0,eS,())
def vT (s:ByteArray):ab:=(2,0,s,())
def v0:ab:=(0,0,eS,())
theorem dj (n:Int):cp n=some ((vE n,()),()):=Mp
theorem gx (n:Int):fH n=some ((vE n,()),()):=Ro
theorem iL (n:Int):ik n=some ((vN n,()),()):=Pa
theorem sS (b:Bool):ij b=some ((vB b,()),()):=by
 rw[OZ]
 cases b <;> rfl
theorem rD (b:Bool):lq b=some ((vB b,()),()):=by
 rw[Rp]
 cases b <;> rfl
def bnd (n:Int):ab:=if cw n (-1000000000000000) 1000000000000000=true then vN n else vE 4
theorem jG (n:Int):gR n=some ((bnd n,()),()):=by
 rw[Ri]
 unfold bnd
 simp only[lJ,dj,Option.bind_some]
 cases cw n (-1000000000000000) 1000000000000000 <;> rfl
theorem qW (n:Int):nr n=some ((bnd n,()),()):=by
 rw[MI]
 unfold bnd
 simp only[iK,gx,iL,Option.bind_some]
 cases cw n (-1000000000000000) 1000000000000000 <;> rfl
def f6 (v:ab):ab:=if an v=true then(if v.1=4 then v else vE 2) else vE 2
theorem fw {v:ab} (h:v.2.2.1.size≤9223372036854775807):iA v=some ((f6 v,()),()):=by
 rw[Tm]
 unfold f6
 simp only[ef h,gx,Option.bind_some,beq_iff_eq]
 cases an v
 ·rfl
 ·by_cases h4:v.1=4 <;> simp[h4]
def cA (v:ab):Bool:=an v && (decide (v.1=0) || decide (v.1=1))
theorem eW {v:ab} (h:v.2.2.1.size≤9223372036854775807):fJ v=some ((v.2.1,cA v,()),()):=by
 rw[Kz]
 unfold cA
 simp only[ef h,Option.bind_some,beq_iff_eq]
 cases an v
 ·rfl
 ·by_cases h0:v.1=0
  ·simp[h0]
  ·simp[h0,A2]
theorem A4 {v:ab} (h:v.2.2.1.size≤9223372036854775807):AK v=some ((if cA v=true then v.2.1 else 0,if cA v=true then v0 else f6 v,()),()):=by
 rw[Rh]
 unfold cA f6
 simp only[eP h,dj,Option.bind_some,beq_iff_eq]
 cases an v
 ·rfl
 ·by_cases h0:v.1=0
  ·simp[h0,v0]
  ·by_cases h1:v.1=1
   ·simp[h1,v0]
   ·by_cases h4:v.1=4 <;> simp[h0,h1,h4]
theorem dn (v:ab):(f6 v).1=4:=by
 unfold f6
 split
 ·split
  ·assumption
  ·rfl
 ·rfl
theorem cj {v:ab} (h:cA v=true) : -1000000000000000≤v.2.1∧v.2.1≤1000000000000000:=by
 unfold cA an at h
 by_cases h2:v.1=2
 ·simp[h2] at h
 ·rw[if_neg h2] at h
  simp only[Bool.and_eq_true,Bool.or_eq_true,decide_eq_true_eq] at h
  obtain⟨⟨_,h⟩,h0 | h1⟩:=h
  ·rw[if_pos h0] at h
   simp only[decide_eq_true_eq] at h
   omega
  ·rw[if_neg (by omega),if_pos h1] at h
   exact bA.1 h
def pP (f:Int→Int→ab) (a b:ab):ab:=if cA a=true then(if cA b=true then f a.2.1 b.2.1 else f6 b) else f6 a
def i7:=pP fun x y=>bnd (x+y)
def yR:=pP fun x y=>bnd (x - y)
def GD:=pP fun x y=>if y=0 then vE 1 else bnd (Int.tdiv x y)
def DI (a:ab):ab:=yR v0 a
theorem vy {a b:ab} (ha:a.2.2.1.size≤9223372036854775807) (hb:b.2.2.1.size≤9223372036854775807):wY a b=some ((if cA a=true then(if cA b=true then(a.2.1,b.2.1,v0,()) else(a.2.1,0,f6 b,())) else(0,0,f6 a,())),()):=by
 rw[Rj]
 simp only[A4 ha,A4 hb,Option.bind_some,bne_iff_ne,ne_eq]
 cases ia:cA a
 ·have:=dn a
  simp[this]
 ·cases ib:cA b <;> simp[v0]
theorem yS {x y:Int} (hx : -1000000000000000≤x∧x≤1000000000000000) (hy:y≠0) : -1000000000000000≤Int.tdiv x y∧Int.tdiv x y≤1000000000000000:=by
 have h1:(Int.tdiv x y).natAbs≤x.natAbs:=by
  rw[Int.natAbs_tdiv]
  exact Nat.div_le_self _ _
 omega
section
variable {a b:ab} (ha:a.2.2.1.size≤9223372036854775807) (hb:b.2.2.1.size≤9223372036854775807)
include ha hb
theorem GE:Dq a b=some ((i7 a b,()),()):=by
 rw[UR]
 unfold i7 pP
 simp only[vy ha hb,jG,Option.bind_some,bne_iff_ne,ne_eq]
 cases ia:cA a
 ·have:=dn a
  simp[this]
 ·cases ib:cA b
  ·have:=dn b
   simp[this]
  ·have h1:=cj ia
   have h2:=cj ib
   simp[v0,wr (n:=a.2.1+b.2.1) (by omega) (by omega)]
theorem Ts:OD a b=some ((yR a b,()),()):=by
 rw[Tf]
 unfold yR pP
 simp only[vy ha hb,jG,Option.bind_some,bne_iff_ne,ne_eq]
 cases ia:cA a
 ·have:=dn a
  simp[this]
 ·cases ib:cA b
  ·have:=dn b
   simp[this]
  ·have h1:=cj ia
   have h2:=cj ib
   simp[v0,wr (n:=a.2.1 - b.2.1) (by omega) (by omega)]
theorem NP:Ke a b=some ((i7 a b,()),()):=by
 rw[US,zW]
 unfold i7 pP
 simp only[eW ha,eW hb,fw ha,fw hb,Ru,qW,Option.bind_some]
 cases ia:cA a
 ·simp
 ·cases ib:cA b
  ·simp
  ·have h1:=cj ia
   have h2:=cj ib
   simp[wr (n:=a.2.1+b.2.1) (by omega) (by omega)]
theorem KG:Jb a b=some ((yR a b,()),()):=by
 rw[Tn,yL]
 unfold yR pP
 simp only[eW ha,eW hb,fw ha,fw hb,Pg,qW,Option.bind_some]
 cases ia:cA a
 ·simp
 ·cases ib:cA b
  ·simp
  ·have h1:=cj ia
   have h2:=cj ib
   simp[wr (n:=a.2.1 - b.2.1) (by omega) (by omega)]
theorem Tt:OE a b=some ((GD a b,()),()):=by
 rw[Tg]
 unfold GD pP
 simp only[vy ha hb,jG,dj,Option.bind_some,bne_iff_ne,ne_eq,beq_iff_eq]
 cases ia:cA a
 ·have:=dn a
  simp[this]
 ·cases ib:cA b
  ·have:=dn b
   simp[this]
  ·have h1:=cj ia
   by_cases h0:b.2.1=0
   ·simp[v0,h0]
   ·have h2:=yS h1 h0
    simp[v0,h0,E0,wr (n:=Int.tdiv a.2.1 b.2.1) (by omega) (by omega)]
theorem Tu:OG a b=some ((GD a b,()),()):=by
 rw[To,yM]
 unfold GD pP
 simp only[eW ha,eW hb,fw ha,fw hb,Ps,qW,gx,Option.bind_some,beq_iff_eq]
 cases ia:cA a
 ·simp
 ·cases ib:cA b
  ·simp
  ·have h1:=cj ia
   by_cases h0:b.2.1=0
   ·simp[h0]
   ·have h2:=yS h1 h0
    simp[h0,E0,wr (n:=Int.tdiv a.2.1 b.2.1) (by omega) (by omega)]
end
def Pv (x y:Int):ab:=if(x*y).natAbs≤1000000000000000 then vN (x*y) else vE 4
def GF:=pP Pv
theorem yT {p q:Int} (hq:0 < q):Int.tdiv 1000000000000000 q < p ↔ ¬p*q≤1000000000000000:=by
 rw[Int.tdiv_eq_ediv_of_nonneg (by decide),←Int.not_le,Int.le_ediv_iff_mul_le hq]
theorem VH {q:Int} (hq:0 < q):IntKind.i64.wrap (Int.tdiv 1000000000000000 q)=Int.tdiv 1000000000000000 q:=by
 have:=yS (x:=1000000000000000) (y:=q) (by omega) (by omega)
 exact wr (by omega) (by omega)
theorem NQ {x y:Int} (h:(x*y).natAbs≤1000000000000000):bnd (IntKind.i64.wrap (x*y))=vN (x*y):=by
 rw[wr (by omega) (by omega)]
 unfold bnd
 rw[if_pos (bA.2 (by omega))]
theorem NR (x y:Int):(x.natAbs:Int)*(y.natAbs:Int)=((x*y).natAbs:Int):=by rw[Int.natAbs_mul]; simp
section
variable {a b:ab} (ha:a.2.2.1.size≤9223372036854775807) (hb:b.2.2.1.size≤9223372036854775807)
include ha hb
theorem Rv:Ka a b=some ((GF a b,()),()):=by
 rw[Rk]
 unfold GF pP
 simp only[vy ha hb,jG,dj,Option.bind_some]
 cases ia:cA a
 ·have:=dn a
  simp[this]
 ·cases ib:cA b
  ·have:=dn b
   simp[this]
  ·have h1:=cj ia
   have h2:=cj ib
   generalize a.2.1=x at h1
   generalize b.2.1=y at h2
   unfold Pv
   by_cases hx:x=0
   ·simp[hx,v0,bnd,cw]
   by_cases hy:y=0
   ·simp[hx,hy,v0,bnd,cw]
   have hm:=NR x y
   have w1:IntKind.i64.wrap (0 - x) = - x:=by rw[wr (by omega) (by omega)]; omega
   have w2:IntKind.i64.wrap (0 - y) = - y:=by rw[wr (by omega) (by omega)]; omega
   have aM : ∀ p q:Int,p=(x.natAbs:Int)→q=(y.natAbs:Int)→(nz q (if decide (p > IntKind.i64.wrap (Int.tdiv 1000000000000000 q))=true then some ((vE 4,()),()) else some ((bnd (IntKind.i64.wrap (x*y)),()),())))=some ((if(x*y).natAbs≤1000000000000000 then vN (x*y) else vE 4,()),()):=by
    intro p q hp hq
    have hq0:0 < q:=by omega
    rw[E0 (by omega),VH hq0]
    by_cases hc:(x*y).natAbs≤1000000000000000
    ·rw[aw (by rw[gt_iff_lt,yT hq0,hp,hq,hm]; omega),if_pos hc,NQ hc]
    ·rw[az (by rw[gt_iff_lt,yT hq0,hp,hq,hm]; omega),if_neg hc]
   by_cases nx:x < 0 <;> by_cases ny:y < 0 <;> simp only[v0,hx,hy,nx,ny,A2,w1,w2,if_true,if_false,decide_true,decide_false,Bool.false_eq_true,bne_self_eq_false,Option.bind_some] <;> refine aM _ _ ?_ ?_ <;> omega
theorem Rx:Kf a b=some ((GF a b,()),()):=by
 rw[Rr,xl]
 unfold GF pP
 simp only[eW ha,eW hb,fw ha,fw hb,MP,qW,gx,Option.bind_some]
 cases ia:cA a
 ·simp
 ·cases ib:cA b
  ·simp
  ·have h1:=cj ia
   have h2:=cj ib
   generalize a.2.1=x at h1
   generalize b.2.1=y at h2
   unfold Pv
   have hm:=NR x y
   have w1:(if x < IntKind.i64.wrap (0 - x) then IntKind.i64.wrap (0 - x) else x)=(x.natAbs:Int):=by
    rw[wr (by omega) (by omega)]
    split <;> omega
   have w2:(if y < IntKind.i64.wrap (0 - y) then IntKind.i64.wrap (0 - y) else y)=(y.natAbs:Int):=by
    rw[wr (by omega) (by omega)]
    split <;> omega
   simp only[w1,w2,Bool.not_true,Bool.false_eq_true,if_false,if_true]
   by_cases hy:y=0
   ·simp[hy,bnd,cw,wr (n:=0) (by decide) (by decide)]
   ·have hq0:0 < (y.natAbs:Int):=by omega
    rw[if_pos (by simpa using hy),E0 (by omega),VH hq0]
    by_cases hc:(x*y).natAbs≤1000000000000000
    ·rw[aw (by rw[gt_iff_lt,yT hq0,hm]; omega),if_pos hc,NQ hc]
     rfl
    ·rw[az (by rw[gt_iff_lt,yT hq0,hm]; omega),if_neg hc]
     rfl
end
theorem CO {a:ab} (ha:a.2.2.1.size≤9223372036854775807):yu a=some ((DI a,()),()):=by
 rw[MA]
 unfold DI yR pP
 have h0:cA v0=true:=by decide
 simp only[A4 ha,jG,Option.bind_some,h0,if_true]
 cases ia:cA a
 ·have:=dn a
  simp[this]
 ·have h1:=cj ia
  simp[v0,wr (n := -a.2.1) (by omega) (by omega)]
theorem MQ {a:ab} (ha:a.2.2.1.size≤9223372036854775807):Ds a=some ((DI a,()),()):=by
 rw[MJ,show((0,0,({data := #[]}:ByteArray),()):ab)=v0 from rfl,KG (by decide) ha]
 rfl
theorem Wu {n:Int} (h0:0≤n) (h1:n≤255):IntKind.u8.wrap n=n:=by
 simp only[IntKind.wrap,IntKind.bits,IntKind.signed]
 simp
 omega
theorem Fm : ∀(k u:Nat),u < 10 ^ (k+1)→(Lib.decDigits u).length≤k+1
 | 0,u,h=>by
  have h:u < 10:=by simpa using h
  rw[Lib.decDigits,dif_pos h]
  simp
 | k+1,u,h=>by
  rw[Lib.decDigits]
  split
  ·simp
  ·have:=Fm k (u / 10) (by rw[Nat.pow_succ] at h; exact Nat.div_lt_of_lt_mul (by omega))
   rw[List.length_append]
   simp only[List.length_singleton]
   omega
theorem sT {x:Nat} (h:x < 10):strOfNums ([IntKind.u8.wrap (IntKind.i64.wrap (48+(x:Int)))]:List Int)=⟨#[UInt8.ofNat (48+x)]⟩:=by
 rw[wr (by omega) (by omega),Wu (by omega) (by omega)]
 unfold strOfNums
 simp only[List.map_cons,List.map_nil]
 congr 3
theorem xB {a b:ByteArray} (h:a.data.toList=b.data.toList):a=b:=by
 cases a; cases b
 congr 1
 exact Array.toList_inj.1 h
theorem A5 : ∀(n u:Nat) (acc:ByteArray),u≤n→u≤9223372036854775807→acc.size+n≤9223372036854775806→rn (u:Int) acc=some ((⟨(Lib.decDigits u).toArray⟩++acc,()),()):=by
 intro n
 induction n with
 | zero =>
  intro u acc h1 h2 h3
  have:u=0:=by omega
  subst this
  rw[uc,aw (by decide),show((0:Nat):Int)=((0:Nat):Int) from rfl,sT (x:=0) (by decide),ip (by simp only[ByteArray.size]; simp; have:acc.data.size=acc.size:=rfl; omega)]
  rw[Lib.decDigits,dif_pos (by decide)]
 | succ n ih =>
  intro u acc h1 h2 h3
  rw[uc]
  have hs : ∀ c:UInt8,(⟨#[c]⟩:ByteArray).size=1:=fun _=>rfl
  by_cases h:u < 10
  ·rw[aw (by omega),sT h,ip (by rw[hs]; omega)]
   rw[Lib.decDigits,dif_pos h]
  ·have e1:Int.tmod (u:Int) 10=((u % 10:Nat):Int):=by
    rw[Int.tmod_eq_emod_of_nonneg (by omega)]
    omega
   have e2:Int.tdiv (u:Int) 10=((u / 10:Nat):Int):=by
    rw[Int.tdiv_eq_ediv_of_nonneg (by omega)]
    omega
   rw[az (by omega),e1,e2,sT (Nat.mod_lt _ (by decide)),ip (by rw[hs]; omega),wr (by omega) (by omega),ih (u / 10) _ (by omega) (by omega) (by rw[size_append,hs]; omega)]
   conv=>rhs; rw[Lib.decDigits,dif_neg h]
   congr 3
   apply xB
   simp
theorem n7 (u:Nat):gi (u:Int)=⟨(Lib.decDigits u).toArray⟩:=by
 unfold gi Lib.itoa
 rw[if_neg (by omega)]
 simp
theorem vz {n:Int} (h:n < 0):gi n=⟨#[45]⟩++gi (-n):=by
 unfold gi Lib.itoa
 rw[if_pos h,if_neg (by omega)]
 apply xB
 simp
 congr 1
 omega
theorem GG {u:Nat} (h:u≤9223372036854775807):(⟨(Lib.decDigits u).toArray⟩:ByteArray).size≤19:=by
 have:=Fm 18 u (by omega)
 simpa[ByteArray.size] using this
theorem yU {n:Int} (h0 : -9223372036854775807≤n) (h1:n≤9223372036854775807):(gi n).size≤20:=by
 by_cases h:n < 0
 ·rw[vz h,size_append,show -n=((-n).toNat:Int) by omega,n7]
  have:=GG (u:=(-n).toNat) (by omega)
  have h1:(⟨#[45]⟩:ByteArray).size=1:=rfl
  omega
 ·rw[show n=(n.toNat:Int) by omega,n7]
  have:=GG (u:=n.toNat) (by omega)
  omega
theorem Fo {u:Nat} (h:u≤9223372036854775807):mL (u:Int)=some ((gi (u:Int),()),()):=by
 have h19:=GG h
 rw[HW,aw (by omega),n7]
 have h2 : ∀ acc:ByteArray,acc.size=0→rn (u:Int) acc=some ((⟨(Lib.decDigits u).toArray⟩++acc,()),()):=by
  intro acc ha
  by_cases hu:u≤9223372036854775806
  ·exact A5 u u acc (Nat.le_refl _) h (by omega)
  ·have hu:u=9223372036854775807:=by omega
   subst hu
   have hs : ∀ c:UInt8,(⟨#[c]⟩:ByteArray).size=1:=fun _=>rfl
   have e1:Int.tmod ((9223372036854775807:Nat):Int) 10=((7:Nat):Int):=by decide
   have e2:Int.tdiv ((9223372036854775807:Nat):Int) 10=((922337203685477580:Nat):Int):=by decide
   rw[uc,az (by decide),e1,e2,sT (by decide),ip (by rw[hs]; omega),wr (by omega) (by omega),A5 922337203685477580 _ _ (by omega) (by omega) (by rw[size_append,hs]; omega)]
   conv=>rhs; rw[Lib.decDigits,dif_neg (by decide)]
   congr 3
   apply xB
   simp
 rw[h2 _ rfl]
 congr 3
 apply xB
 simp
theorem HX {n:Int} (h0 : -9223372036854775807≤n) (h1:n≤9223372036854775807):mL n=some ((gi n,()),()):=by
 by_cases h:n < 0
 ·have hz:=yU (n := -n) (by omega) (by omega)
  have h45:(⟨#[45]⟩:ByteArray).size=1:=rfl
  rw[HW,az h,wr (by omega) (by omega),show(0 - n:Int)=((-n).toNat:Int) by omega,Fo (by omega),show(((-n).toNat:Nat):Int) = -n by omega]
  simp only[Option.bind_some]
  rw[ip (by omega),←vz h]
 ·rw[show n=(n.toNat:Int) by omega]
  exact Fo (by omega)
theorem v7 {n:Int} (h0 : -9223372036854775808≤n) (h1:n≤9223372036854775807):jR n=some ((gi n,()),()):=by
 rw[MC,yK]
 show(if(10:Int)=10∧_∧_ then _ else _:Option _).bind _=_
 rw[if_pos ⟨rfl,h0,h1⟩]
 rfl
def Tv:List ByteArray:=[(⟨#[]⟩:ByteArray),(⟨#[35,68,73,86,33]⟩:ByteArray),(⟨#[35,84,89,80,69,33]⟩:ByteArray),(⟨#[35,82,69,70,33]⟩:ByteArray),(⟨#[35,79,86,69,82,33]⟩:ByteArray),(⟨#[35,67,89,67,76,69,33]⟩:ByteArray)]
def dp (n:Int):ByteArray:=Tv.getD n.toNat eS
theorem yV {n:Int} (h0:0≤n) (h1:n≤5):wU n=some ((dp n,()),()):=by
 rw[OQ,bu h0 (by show n < 6; omega)]
 rfl
theorem rS {n:Int} (h0:0≤n) (h1:n≤5):oU n=some ((dp n,()),()):=by
 rw[IL,bu h0 (by show n < 6; omega)]
 rfl
def B2 (n:Int):ByteArray:=if n=1 then⟨#[84,82,85,69]⟩ else⟨#[70,65,76,83,69]⟩
theorem Pw (n:Int):Gk n=some ((B2 n,()),()):=by
 rw[OV]
 unfold B2
 by_cases h:n=1 <;> simp[h]
def dq (v:ab):ByteArray:=if v.1=1 then gi v.2.1 else if v.1=2 then(⟨#[39]⟩:ByteArray)++v.2.2.1 else if v.1=3 then B2 v.2.1 else if v.1=4 then dp v.2.1 else eS
theorem xC {v:ab} (h:an v=true) (k:v.1=1) : -1000000000000000≤v.2.1∧v.2.1≤1000000000000000:=by
 unfold an at h
 rw[if_neg (by omega),if_neg (by omega),if_pos k] at h
 simp only[Bool.and_eq_true,decide_eq_true_eq] at h
 exact bA.1 h.2
theorem GH {v:ab} (h:an v=true) (k:v.1=3):0≤v.2.1∧v.2.1≤1:=by
 unfold an at h
 rw[if_neg (by omega),if_neg (by omega),if_neg (by omega),if_pos k] at h
 simp only[Bool.and_eq_true,decide_eq_true_eq] at h
 exact bA.1 h.2
theorem B3 {v:ab} (h:an v=true) (k:v.1=4):1≤v.2.1∧v.2.1≤5:=by
 unfold an at h
 rw[if_neg (by omega),if_neg (by omega),if_neg (by omega),if_neg (by omega),if_pos k] at h
 simp only[Bool.and_eq_true,decide_eq_true_eq] at h
 exact bA.1 h.2
theorem Fp {v:ab} (h:an v=true):v.1=0∨v.1=1∨v.1=2∨v.1=3∨v.1=4:=by
 unfold an at h
 split at h
 ·omega
 ·simp only[Bool.and_eq_true] at h
  have h:=h.2
  split at h
  ·omega
  ·split at h
   ·omega
   ·split at h
    ·omega
    ·split at h
     ·omega
     ·cases h
theorem Ry (n:Int):(dp n).size≤10:=by
 have h : ∀ i:Nat,i < 6→(Tv.getD i eS).size≤10:=by decide
 unfold dp
 by_cases hn:n.toNat < 6
 ·exact h _ hn
 ·rw[List.getD_eq_getElem?_getD,List.getElem?_eq_none (by show 6≤n.toNat; omega)]
  decide
theorem HY {v:ab} (h:an v=true):(dq v).size≤201:=by
 have hs:=et h
 unfold dq
 split
 ·have:=xC h ‹_›
  exact Nat.le_trans (yU (by omega) (by omega)) (by decide)
 ·split
  ·rw[size_append]
   have:(⟨#[39]⟩:ByteArray).size=1:=rfl
   omega
  ·split
   ·unfold B2
    split <;> decide
   ·split
    ·exact Nat.le_trans (Ry _) (by decide)
    ·decide
theorem Px {β:Type} {s:ByteArray} {f:ByteArray→Option β} (h:s.size≤9223372036854775806):cats (⟨#[39]⟩:ByteArray) s f=f ((⟨#[39]⟩:ByteArray)++s):=ip (by
 have:(⟨#[39]⟩:ByteArray).size=1:=rfl
 omega)
theorem kj {v:ab} (hs:v.2.2.1.size≤9223372036854775807):gl v=some ((if an v=true then dq v else eS,()),()):=by
 rw[IG,eP hs,Option.bind_some]
 unfold dq
 cases h:an v
 ·rfl
 ·have hz:=et h
  simp only[Bool.not_true,Bool.false_eq_true,if_false,if_true,beq_iff_eq]
  by_cases h1:v.1=1
  ·have:=xC h h1
   simp[h1,HX (n:=v.2.1) (by omega) (by omega)]
  by_cases h2:v.1=2
  ·simp only[h2,if_true,Px (s:=v.2.2.1) (by omega)]
   rfl
  by_cases h3:v.1=3
  ·simp[h3,Pw]
  by_cases h4:v.1=4
  ·have:=B3 h h4
   simp[h4,yV (n:=v.2.1) (by omega) (by omega)]
  simp[h1,h2,h3,h4]
theorem rT {v:ab} (h:an v=true):eT v=some ((dq v,()),()):=by
 rw[IM]
 unfold dq
 have hz:=et h
 simp only[beq_iff_eq]
 by_cases h1:v.1=1
 ·have:=xC h h1
  simp[h1,v7 (n:=v.2.1) (by omega) (by omega)]
 by_cases h2:v.1=2
 ·simp only[h2,if_true,Px (s:=v.2.2.1) (by omega)]
  rfl
 by_cases h3:v.1=3
 ·have:=GH h h3
  simp only[h3,if_true]
  rw[if_neg (by decide),if_neg (by decide),if_neg (by decide),if_neg (by decide),bu (by omega) (by show v.2.1 < 2; omega)]
  unfold B2
  by_cases h5:v.2.1=1
  ·rw[h5]
   rfl
  ·rw[show v.2.1=0 by omega]
   rfl
 by_cases h4:v.1=4
 ·have:=B3 h h4
  simp[h4,rS (n:=v.2.1) (by omega) (by omega)]
 simp[h1,h2,h3,h4]
theorem IZ {v:ab} (hs:v.2.2.1.size≤9223372036854775807):yA v=some ((if an v=true then dq v else eS,()),()):=by
 rw[IV,ef hs,Option.bind_some]
 cases h:an v
 ·rfl
 ·rw[rT h]
  rfl
def mC (v:ab):Bool:=an v && !decide (v.1=4)
def px (v:ab):ByteArray:=if v.1=2 then v.2.2.1 else dq v
theorem ui {v:ab} (h:an v=true):(px v).size≤201:=by
 unfold px
 split
 ·exact Nat.le_trans (et h) (by decide)
 ·exact HY h
theorem yW {v:ab} (hs:v.2.2.1.size≤9223372036854775807) : ∃ t,xa v=some ((t,mC v,()),())∧(mC v=true→t=px v):=by
 rw[Pi]
 unfold mC px
 simp only[ef hs,IZ hs,Option.bind_some,beq_iff_eq]
 by_cases h2:v.1=2
 ·refine⟨_,by simp[h2]; rfl,fun _=>by simp[h2]⟩
 ·cases h:an v
  ·exact⟨_,by simp[h2]; rfl,fun h=>by cases h⟩
  ·refine⟨dq v,?_,fun _=>by simp[h2]⟩
   simp only[h2,if_false,if_true,Bool.true_and]
   rfl
theorem yX {v:ab} (hs:v.2.2.1.size≤9223372036854775807):wZ v=some ((if mC v=true then px v else eS,if mC v=true then v0 else f6 v,()),()):=by
 rw[O0]
 unfold mC px f6
 simp only[eP hs,dj,kj hs,Option.bind_some,beq_iff_eq]
 cases h:an v
 ·rfl
 ·by_cases h4:v.1=4
  ·simp[h4]
  ·by_cases h2:v.1=2 <;> simp[h2,h4,v0]
theorem tc {v:ab} (h:mC v=true):an v=true:=by
 unfold mC at h
 simp only[Bool.and_eq_true] at h
 exact h.1
def yY (a b:ab):ab:=if mC a=true then(if mC b=true then(if 200 < (px a).size+(px b).size then vE 4 else vT (px a++px b)) else f6 b) else f6 a
section
variable {a b:ab} (ha:a.2.2.1.size≤9223372036854775807) (hb:b.2.2.1.size≤9223372036854775807)
include ha hb
theorem Py:Gn a b=some ((yY a b,()),()):=by
 rw[O4]
 unfold yY
 simp only[yX ha,yX hb,dj,Option.bind_some,bne_iff_ne,ne_eq]
 cases ia:mC a
 ·have:=dn a
  simp[this]
 ·cases ib:mC b
  ·have:=dn b
   simp[this,v0]
  ·have h1:=ui (tc ia)
   have h2:=ui (tc ib)
   simp only[if_true,v0,not_true,if_false]
   rw[wr (by omega) (by omega)]
   by_cases hc:200 < (px a).size+(px b).size
   ·rw[az (by omega),if_pos hc]
   ·rw[aw (by omega),if_neg hc,ip (by omega)]
    rfl
theorem Pz:Gr a b=some ((yY a b,()),()):=by
 rw[Pm]
 unfold yY
 obtain⟨t,e1,e2⟩:=yW ha
 obtain⟨u,e3,e4⟩:=yW hb
 simp only[e1,e3,fw ha,fw hb,gx,Option.bind_some]
 cases ia:mC a
 ·simp
 ·cases ib:mC b
  ·simp
  ·have h1:=ui (tc ia)
   have h2:=ui (tc ib)
   rw[e2 ia,e4 ib]
   simp only[if_true,Bool.not_true,Bool.false_eq_true,if_false]
   rw[wr (by omega) (by omega)]
   by_cases hc:200 < (px a).size+(px b).size
   ·rw[az (by omega),if_pos hc]
   ·rw[aw (by omega),if_neg hc,ip (by omega)]
    rfl
end
def jx (x y:Int):Int:=if x < y then -1 else if y < x then 1 else 0
def KH (x y:ByteArray):Int:=if Hl x y=true then -1 else if x=y then 0 else 1
def KI (a b:ab):Int:=if a.1≠b.1 then jx a.1 b.1 else if a.2.1≠b.2.1 then jx a.2.1 b.2.1 else KH a.2.2.1 b.2.2.1
theorem PA (p q:Bool):w6 p q=some ((if p=true then -1 else if q=true then 1 else 0,()),()):=by
 rw[O6]
 cases p <;> cases q <;> rfl
theorem Rz (a b:ab):Kb a b=some ((KI a b,()),()):=by
 rw[Rl]
 unfold KI jx KH
 simp only[PA,Option.bind_some,bne_iff_ne,decide_eq_true_eq,Ct]
 by_cases h1:a.1=b.1
 ·by_cases h2:a.2.1=b.2.1
  ·simp only[h1,h2,ne_eq,not_true,if_false]
   change _=some ((if Hl a.2.2.1 b.2.2.1=true then _ else _,()),())
   change some ((if Hl a.2.2.1 b.2.2.1=true then _ else if(!(Hl a.2.2.1 b.2.2.1 || _))=true then _ else _,()),())=_
   cases Hl a.2.2.1 b.2.2.1
   ·by_cases h3:a.2.2.1=b.2.2.1 <;> simp[h3]
   ·rfl
  ·simp only[h1,h2,ne_eq,not_true,not_false_eq_true,if_false,if_true]
   by_cases h3:a.2.1 < b.2.1
   ·simp[h3]
   ·have h4:b.2.1 < a.2.1:=by omega
    simp[h3,h4]
 ·simp only[h1,ne_eq,not_true,not_false_eq_true,if_true]
  by_cases h3:a.1 < b.1
  ·simp[h3]
  ·have h4:b.1 < a.1:=by omega
   simp[h3,h4]
theorem vA (x y:Int):eY x y=some ((jx x y,()),()):=by
 rw[yH,ru,ru]
 unfold jx
 simp
 by_cases h:x < y
 ·simp[h]
 ·by_cases h2:y < x <;> simp[h,h2]
theorem RA (x y:ByteArray):lv x y=some ((KH x y,()),()):=by
 rw[xm,pJ,pJ]
 unfold KH
 simp only[Ct,decide_true,Bool.not_true,Option.bind_some,Bool.false_eq_true,if_false]
 change (if Hl x y=true then _ else if(!(Hl x y || _))=true then _ else _)=_
 cases Hl x y
 ·by_cases h3:x=y <;> simp[h3]
 ·rfl
theorem KJ {l:List Int} (hl:l.length≤100) : ∀(ys pre:List Int),l=pre++ys→m9 0 l (l.length:Int) (pre.length:Int)=some (((ys.find? fun y=>decide (y≠0)).getD 0,()),())
 | [],pre,he=>by
  rw[ud,aw (bi he)]
  rfl
 | y :: ys,pre,he=>by
  rw[ud,az (bq he),bk he,aL he (by omega),KJ hl ys _ (av he)]
  by_cases h:y=0
  ·simp[h]
  ·simp[h]
theorem DJ {l:List Int} (hl:l.length≤100):sH l=some (((l.find? fun y=>decide (y≠0)).getD 0,()),()):=by
 rw[IK]
 exact KJ hl l [] rfl
theorem Fq {x y:Int}:jx x y=0↔x=y:=by
 unfold jx
 split
 ·omega
 ·split <;> omega
theorem RB (a b:ab):AO a b=some ((KI a b,()),()):=by
 rw[Rs]
 simp only[vA,RA,Option.bind_some]
 rw[DJ (by simp)]
 unfold KI
 by_cases h1:a.1=b.1
 ·have e1:=Fq.2 h1
  rw[if_neg (by simp[h1])]
  by_cases h2:a.2.1=b.2.1
  ·have e2:=Fq.2 h2
   rw[if_neg (by simp[h2])]
   by_cases h3:KH a.2.2.1 b.2.2.1=0 <;> simp[List.find?,e1,e2,h3]
  ·have e2:jx a.2.1 b.2.1≠0:=fun h=>h2 (Fq.1 h)
   rw[if_pos (by simp[h2])]
   simp[List.find?,e1,e2]
 ·have e1:jx a.1 b.1≠0:=fun h=>h1 (Fq.1 h)
  rw[if_pos (by simp[h1])]
  simp[List.find?,e1]
def KK (a b:ab):ab:=if a.1=0 then(b.1,a.2.1,a.2.2.1,()) else a
def VI (op o:Int):Bool:=if op=6 then decide (o=0) else if op=7 then !decide (o=0) else if op=8 then decide (o < 0) else if op=9 then decide (o≤0) else if op=10 then decide (0 < o) else decide (0≤o)
def yZ (op:Int) (a b:ab):ab:=if an a=true then(if an b=true then(if cw op 6 11=true then(if a.1=4 then a else if b.1=4 then b else vB (VI op (KI (KK a b) (KK b a)))) else vE 2) else vE 2) else vE 2
theorem PB (a b:ab):BV a b=some ((KK a b,()),()):=by
 rw[O5]
 unfold KK
 by_cases h:a.1=0 <;> simp[h]
theorem Wh {op o:Int} (h:cw op 6 11=true):List.getD [(o == 0),(o != 0),decide (o < 0),decide (o≤0),decide (o > 0),decide (o≥0)] (Int.toNat (IntKind.i64.wrap (op - 6))) false=VI op o:=by
 have:=bA.1 h
 rw[wr (by omega) (by omega)]
 have h6:op=6∨op=7∨op=8∨op=9∨op=10∨op=11:=by omega
 rcases h6 with rfl | rfl | rfl | rfl | rfl | rfl <;> rfl
section
variable {op:Int} {a b:ab} (ha:a.2.2.1.size≤9223372036854775807) (hb:b.2.2.1.size≤9223372036854775807)
include ha hb
theorem Tw:OF op a b=some ((yZ op a b,()),()):=by
 rw[Th]
 unfold yZ VI
 simp only[eP ha,eP hb,dj,lJ,PB,Rz,sS,Option.bind_some,beq_iff_eq]
 cases an a
 ·rfl
 cases an b
 ·rfl
 cases cw op 6 11
 ·rfl
 simp only[Bool.not_true,Bool.false_eq_true,if_false,if_true]
 by_cases h1:a.1=4
 ·simp[h1]
 by_cases h2:b.1=4
 ·simp[h1,h2]
 simp only[h1,h2,if_false]
 by_cases o6:op=6
 ·simp[o6,A2]
 by_cases o7:op=7
 ·simp[o7]; rfl
 by_cases o8:op=8
 ·simp[o8]
 by_cases o9:op=9
 ·simp[o9]
 by_cases o10:op=10
 ·simp[o10]
 simp[o6,o7,o8,o9,o10]
theorem Tx:OH op a b=some ((yZ op a b,()),()):=by
 rw[Tp]
 unfold yZ
 simp only[ef ha,ef hb,gx,iK,RB,Option.bind_some,beq_iff_eq]
 cases an a
 ·rfl
 cases an b
 ·rfl
 cases hi:cw op 6 11
 ·rfl
 have hio:=bA.1 hi
 simp only[Bool.not_true,Bool.false_eq_true,if_false,if_true]
 by_cases h1:a.1=4
 ·simp[h1]
 by_cases h2:b.1=4
 ·simp[h1,h2]
 have hin : ∀(x1 x2 x3 x4 x5 x6:Bool) (k:Option ((ab×Unit)×Unit)),inb [x1,x2,x3,x4,x5,x6] (IntKind.i64.wrap (op - 6)) k=k:=fun x1 x2 x3 x4 x5 x6 k=>by
  rw[wr (by omega) (by omega)]
  exact bu (by omega) (by show op - 6 < 6; omega)
 simp only[h1,h2,if_false,hin,Wh hi,rD,Option.bind_some]
 unfold KK
 by_cases h3:a.1=0
 ·by_cases h4:b.1=0
  ·have eb:((0,b.2.1,b.2.2.1,()):ab)=b:=by rw[←h4]
   simp only[h3,h4,if_true,eb]
  ·simp[h3,h4]
 ·by_cases h4:b.1=0
  ·simp[h3,h4]
  ·simp[h3,h4]
end
abbrev p0:bS:=((0,0,()),false,false,())
abbrev aa.kids (x:aa):List Int:=x.2.2.2.2.2.1
def mX (op k:Int):Bool:=if op=5 then(decide (k=2) || decide (k=3)) else if cw op 1 7=true then cw k 1 10 else if cw op 8 10=true then decide (k=1) else false
def kl (x:aa):Int:=(List.length x.2.2.2.2.2.1:Int)
def du (x:aa):Bool :=
 if x.1=1 then decide (x.2.1=0) && decide (x.2.2.2.1=p0) && decide (x.2.2.2.2.1=p0) && decide (kl x=0) && an x.2.2.1 && !decide (x.2.2.1.1=0) && (!decide (x.2.2.1.1=1) || decide (0≤x.2.2.1.2.1))
 else if x.1=2 then decide (x.2.1=0) && decide (x.2.2.1=v0) && decide (x.2.2.2.2.1=p0) && decide (kl x=0) && ca x.2.2.2.1.1
 else if x.1=3 then decide (x.2.1=0) && decide (x.2.2.1=v0) && decide (kl x=0) && pv (x.2.2.2.1.1,x.2.2.2.2.1.1,())
 else if x.1=4 then decide (x.2.1=0) && decide (x.2.2.1=v0) && decide (x.2.2.2.1=p0) && decide (x.2.2.2.2.1=p0) && decide (kl x=1)
 else if x.1=5 then cw x.2.1 1 11 && decide (x.2.2.1=v0) && decide (x.2.2.2.1=p0) && decide (x.2.2.2.2.1=p0) && decide (kl x=2)
 else if x.1=6 then mX x.2.1 (kl x) && decide (x.2.2.1=v0) && decide (x.2.2.2.1=p0) && decide (x.2.2.2.2.1=p0)
 else false
theorem Tz {a b:bS}:(bN bw a b=true)=(a=b):=propext (qg rfl)
theorem TA {a b:ab}:(bN ag a b=true)=(a=b):=propext (qg rfl)
theorem Ur (a b:bS):bN bw a b=decide (a=b):=by
 rw[Bool.eq_iff_iff,decide_eq_true_eq,Tz]
theorem Us (a b:ab):bN ag a b=decide (a=b):=by
 rw[Bool.eq_iff_iff,decide_eq_true_eq,TA]
theorem PC (op k:Int):Gj op k=some ((mX op k,()),()):=by
 rw[OP]
 unfold mX cw
 simp only[beq_iff_eq,decide_eq_true_eq,ge_iff_le,A2]
 by_cases h:op=1∨op=2∨op=3∨op=4∨op=5∨op=6∨op=7∨op=8∨op=9∨op=10
 ·by_cases hk:1≤k <;> by_cases hk2:k=2 <;> rcases h with rfl | rfl | rfl | rfl | rfl | rfl | rfl | rfl | rfl | rfl <;> simp[hk,hk2] <;> omega
 ·have h1:op≠1:=by omega
  have h2:op≠2:=by omega
  have h3:op≠3:=by omega
  have h4:op≠4:=by omega
  have h5:op≠5:=by omega
  have h6:op≠6:=by omega
  have h7:op≠7:=by omega
  have h8:op≠8:=by omega
  have h9:op≠9:=by omega
  have h10:op≠10:=by omega
  have h11 : ¬(1≤op∧op≤7):=by omega
  have h12 : ¬(8≤op∧op≤10):=by omega
  simp only[h1,h2,h3,h4,h5,h6,h7,h8,h9,h10,h11,h12,if_false]
theorem A6 {x:aa} (h:x.2.2.1.2.2.1.size≤9223372036854775807):uY x=some ((du x,()),()):=by
 rw[Kl]
 unfold du kl
 simp only[eP h,n6,Pt,lJ,PC,Option.bind_some,beq_iff_eq,bne_iff_ne,ne_eq,Tz,TA,Ur,Us,A2,v0,ge_iff_le]
 generalize (List.length x.2.2.2.2.2.1:Int)=k
 by_cases h1:x.1=1
 ·by_cases a1:x.2.1=0 <;> by_cases a2:x.2.2.2.1=p0 <;> by_cases a3:x.2.2.2.2.1=p0 <;> by_cases a4:k=0 <;> cases ov:an x.2.2.1 <;> by_cases a5:x.2.2.1.1=0 <;> by_cases a6:x.2.2.1.1=1 <;> simp[a1,a2,a3,a4,a5,a6,h1,ov]
 by_cases h2:x.1=2
 ·by_cases a1:x.2.1=0 <;> by_cases a2:x.2.2.1=(0,0,eS,()) <;> by_cases a3:x.2.2.2.2.1=p0 <;> by_cases a4:k=0 <;> simp[a1,a2,a3,a4,h2]
 by_cases h3:x.1=3
 ·by_cases a1:x.2.1=0 <;> by_cases a2:x.2.2.1=(0,0,eS,()) <;> by_cases a4:k=0 <;> simp[a1,a2,a4,h3]
 by_cases h4:x.1=4
 ·by_cases a1:x.2.1=0 <;> by_cases a2:x.2.2.1=(0,0,eS,()) <;> by_cases a3:x.2.2.2.1=p0 <;> by_cases a4:x.2.2.2.2.1=p0 <;> simp[a1,a2,a3,a4,h4]
 by_cases h5:x.1=5
 ·cases hi:cw x.2.1 1 11 <;> by_cases a2:x.2.2.1=(0,0,eS,()) <;> by_cases a3:x.2.2.2.1=p0 <;> by_cases a4:x.2.2.2.2.1=p0 <;> simp[a2,a3,a4,h5,hi]
 by_cases h6:x.1=6
 ·cases hi:mX x.2.1 k <;> by_cases a2:x.2.2.1=(0,0,eS,()) <;> by_cases a3:x.2.2.2.1=p0 <;> simp[a2,a3,h6,hi]
 simp[h1,h2,h3,h4,h5,h6]
theorem Fs {x:aa} (h:x.2.2.1.2.2.1.size≤9223372036854775807):tI x=some ((du x,()),()):=by
 have c1 : ∀ a:bS,(p0=a)=(a=p0):=fun a=>propext eq_comm
 have c2 : ∀ a:ab,((0,0,eS,())=a)=(a=(0,0,eS,())):=fun a=>propext eq_comm
 rw[Fa,AV,Dy]
 unfold du kl mX
 simp only[ef h,xi,Pu,iK,Option.bind_some,beq_iff_eq,bne_iff_ne,ne_eq,Tz,TA,Ur,Us,A2,v0,ge_iff_le,c1,c2]
 generalize (List.length x.2.2.2.2.2.1:Int)=k
 by_cases h1:x.1=1
 ·simp only[h1,if_true]
  by_cases a1:x.2.1=0 <;> by_cases a2:x.2.2.2.1=p0 <;> by_cases a3:x.2.2.2.2.1=p0 <;> by_cases a4:k=0 <;> cases an x.2.2.1 <;> by_cases a5:x.2.2.1.1=0 <;> by_cases a6:x.2.2.1.1=1 <;> by_cases a7:x.2.2.1.2.1 < 0 <;> have a8:(0≤x.2.2.1.2.1) = ¬x.2.2.1.2.1 < 0:=propext (by omega) <;> simp[a1,a2,a3,a4,a5,a6,a7,a8]
 by_cases h2:x.1=2
 ·have e:pv (x.2.2.2.1.1,x.2.2.2.1.1,())=ca x.2.2.2.1.1:=by
   unfold pv
   simp
  by_cases a1:x.2.1=0 <;> by_cases a2:x.2.2.1=(0,0,eS,()) <;> by_cases a3:x.2.2.2.2.1=p0 <;> by_cases a4:k=0 <;> cases hr:ca x.2.2.2.1.1 <;> simp[a1,a2,a3,a4,h2,e,hr]
 by_cases h3:x.1=3
 ·by_cases a1:x.2.1=0 <;> by_cases a2:x.2.2.1=(0,0,eS,()) <;> by_cases a4:k=0 <;> cases hr:pv (x.2.2.2.1.1,x.2.2.2.2.1.1,()) <;> simp[a1,a2,a4,h3,hr]
 by_cases h4:x.1=4
 ·by_cases a1:x.2.1=0 <;> by_cases a2:x.2.2.1=(0,0,eS,()) <;> by_cases a3:x.2.2.2.1=p0 <;> by_cases a4:x.2.2.2.2.1=p0 <;> by_cases a5:k=1 <;> simp[a1,a2,a3,a4,a5,h4]
 by_cases h5:x.1=5
 ·cases hi:cw x.2.1 1 11 <;> by_cases a2:x.2.2.1=(0,0,eS,()) <;> by_cases a3:x.2.2.2.1=p0 <;> by_cases a4:x.2.2.2.2.1=p0 <;> by_cases a5:k=2 <;> simp[a2,a3,a4,a5,h5,hi]
 by_cases h6:x.1=6
 ·by_cases a2:x.2.2.1=(0,0,eS,()) <;> by_cases a3:x.2.2.2.1=p0 <;> by_cases a4:x.2.2.2.2.1=p0 <;> simp only[a2,a3,a4,h6,if_true,if_false,decide_true,decide_false,Bool.and_false,Bool.and_true]
  all_goals
   generalize x.2.1=op
   unfold cw
   by_cases b1:1≤op∧op≤10
   ·by_cases b2:op=5
    ·subst b2
     by_cases b3:2≤k∧k≤3
     ·have:k=2∨k=3:=by omega
      rcases this with rfl | rfl <;> simp
     ·have : ¬k=2:=by omega
      have : ¬k=3:=by omega
      simp[b3, *]
    ·by_cases b3:8≤op
     ·have b4 : ¬(op≤7):=by omega
      have b5:op≤10:=by omega
      by_cases b6:k=1 <;> simp[b1,b2,b3,b4,b5,b6]
     ·have b4:op≤7:=by omega
      by_cases b6:1≤k∧k≤10 <;> simp[b1,b2,b3,b4,b6]
   ·have b2 : ¬op=5:=by omega
    have b3 : ¬(1≤op∧op≤7):=by omega
    have b4 : ¬(8≤op∧op≤10):=by omega
    simp[b1,b2,b3,b4]
 simp[h1,h2,h3,h4,h5,h6]
def mD (f:List aa) (i:Int):Bool:=decide ((f.getD i.toNat ai.dflt).1=3)
def fk (f:List aa) (k:Int):aa:=f.getD k.toNat ai.dflt
def fC (c:Int→Option (Int×Nat)) (f:List aa) (call:Bool):List Int→Int→Nat→Option (Int×Nat)
 | [],cur,h=>some (cur,h+1)
 | kid :: l,cur,h=>if kid=cur - 1∧0≤kid∧(mD f kid=true→call=true) then(c kid).bind fun p=>fC c f call l p.1 (max h p.2) else none
def fm (f:List aa):Nat→Int→Option (Int×Nat)
 | 0,_=>none
 | n+1,k=>if 0≤k then match f[k.toNat]? with
  | none=>none
  | some x=>if du x=true then fC (fm f n) f (decide (x.1=6)) x.2.2.2.2.2.1.reverse k 0 else none
  else none
def lK (f:List aa) (i:Nat) (x:aa):Prop:=du x=true ∧ ∀ k∈x.2.2.2.2.2.1,0≤k∧k < i∧(mD f k=true→x.1=6)
theorem rE {c:Int→Option (Int×Nat)} {f:List aa} {call:Bool} (hc : ∀ k s h,c k=some (s,h)→0≤s∧s≤k ∧ ∀ i:Nat,s≤i→(i:Int)≤k → ∃ x,f[i]? = some x∧lK f i x) :
  ∀(l:List Int) (cur:Int) (h:Nat) (s:Int) (h':Nat),0≤cur→fC c f call l cur h=some (s,h')→0≤s∧s≤cur∧h+1≤h'∧(∀ i:Nat,s≤i→(i:Int) < cur → ∃ x,f[i]? = some x∧lK f i x) ∧ ∀ k∈l,0≤k∧k < cur∧(mD f k=true→call=true)
 | [],cur,h,s,h',h0,e=>by
  simp only[fC,Option.some.injEq,Prod.mk.injEq] at e
  obtain⟨rfl,rfl⟩:=e
  exact⟨h0,Int.le_refl _,Nat.le_refl _,fun i h1 h2=>by omega,fun k hk=>by cases hk⟩
 | kid :: l,cur,h,s,h',h0,e=>by
  simp only[fC] at e
  split at e
  ·rename_i hk
   rw[Option.bind_eq_some_iff] at e
   obtain⟨⟨t,ht⟩,e1,e2⟩:=e
   obtain⟨a1,a2,a3⟩:=hc _ _ _ e1
   obtain⟨b1,b2,b3,b4,b5⟩:=rE hc l t (max h ht) s h' a1 e2
   refine⟨b1,by omega,by omega,fun i h1 h2 => ?_,fun k hm => ?_⟩
   ·by_cases hi:(i:Int) < t
    ·exact b4 i h1 hi
    ·exact a3 i (by omega) (by omega)
   ·rcases List.mem_cons.1 hm with rfl | hm
    ·exact⟨hk.2.1,by omega,hk.2.2⟩
    ·have:=b5 k hm
     exact⟨this.1,by omega,this.2.2⟩
  ·cases e
theorem ir (f:List aa) : ∀(n:Nat) (k s:Int) (h:Nat),fm f n k=some (s,h)→0≤s∧s≤k ∧ ∀ i:Nat,s≤i→(i:Int)≤k → ∃ x,f[i]? = some x∧lK f i x
 | 0,_,_,_,e=>by cases e
 | n+1,k,s,h,e=>by
  simp only[fm] at e
  split at e
  ·rename_i h0
   split at e
   ·cases e
   ·rename_i x hx
    split at e
    ·rename_i ho
     obtain⟨b1,b2,b3,b4,b5⟩:=rE (ir f n) _ _ _ _ _ h0 e
     refine⟨b1,b2,fun i h1 h2 => ?_⟩
     by_cases hi:(i:Int) < k
     ·exact b4 i h1 hi
     ·have hik:i=k.toNat:=by omega
      refine⟨x,by rw[hik,hx],ho,fun k' hk' => ?_⟩
      have:=b5 k' (by simpa using hk')
      exact⟨this.1,by omega,fun ha=>by simpa using this.2.2 ha⟩
    ·cases e
  ·cases e
theorem UT {f:List aa} {n:Nat} {k s:Int} {h:Nat} (e:fm f n k=some (s,h)):1≤h:=by
 cases n with
 | zero=>cases e
 | succ n =>
  simp only[fm] at e
  split at e
  ·rename_i h0
   split at e
   ·cases e
   ·split at e
    ·exact Nat.le_trans (by omega) (rE (ir f n) _ _ _ _ _ h0 e).2.2.1
    ·cases e
  ·cases e
def na (deep:Int):Option (Int×Nat)→Int
 | some (s,h)=>if deep+h≤12 then s else -1
 | none => -1
theorem kR {n:Int} (h0 : -1000000000≤n) (h1:n≤1000000000):IntKind.i64.wrap n=n:=wr (by omega) (by omega)
section
variable {f:List aa} (hl:f.length≤10000000) (hs : ∀ x∈f,x.2.2.1.2.2.1.size≤9223372036854775807)
include hl hs
theorem Ft {n:Nat} (ih : ∀(k deep:Int),0≤k→k < n→k < f.length→0≤deep→deep≤12→yv f k deep=some ((na deep (fm f n k),()),())) {x:aa} {k:Int} (h0:0≤k) (hk:f[k.toNat]? = some x) (hkn:k≤n) (hkl:x.2.2.2.2.2.1.length≤10000000) :
  ∀(r suf:List Int) (cur:Int) (h:Nat) (deep:Int),x.2.2.2.2.2.1=r.reverse++suf→0≤cur→cur≤k→0≤deep→deep+h+1≤12→qf f k deep cur ((r.length:Int) - 1)=some ((na deep (fC (fm f n) f (decide (x.1=6)) r cur h),()),())
 | [],suf,cur,h,deep,he,c0,c1,d0,d1=>by
  rw[CN,aw (by simp)]
  simp only[fC,na]
  rw[if_pos (by omega)]
 | kid :: r,suf,cur,h,deep,he,c0,c1,d0,d1=>by
  have hkl2:k < (f.length:Int):=by
   have:=(List.getElem?_eq_some_iff.1 hk).1
   omega
  have he':x.2.2.2.2.2.1=r.reverse++kid :: suf:=by rw[he]; simp
  have hlen:(((kid :: r).length:Int) - 1)=((r.reverse).length:Int):=by simp
  rw[CN,az (by rw[hlen]; exact nn _),bP h0 hk,hlen,bk he',kR (n:=cur - 1) (by omega) (by omega)]
  simp only[fC]
  by_cases e1:kid=cur - 1
  ·rw[if_neg (by simp[e1])]
   by_cases e2:kid < 0
   ·rw[az e2,if_neg (by omega)]
    rfl
   ·rw[aw e2]
    have hkd:kid < (f.length:Int):=by omega
    obtain⟨y,hy⟩ : ∃ y,f[kid.toNat]? = some y:=⟨f[kid.toNat]'(by omega),List.getElem?_eq_getElem _⟩
    rw[bP (by omega) hy]
    have har:mD f kid=decide (y.1=3):=by
     unfold mD
     rw[List.getD_eq_getElem?_getD,hy]
     rfl
    have go:((yv f kid (IntKind.i64.wrap (deep+1))).bind fun z1=>if decide (z1.1.1 < 0)=true then some ((-1,()),()) else qf f k deep z1.1.1 (IntKind.i64.wrap (((r.reverse).length:Int) - 1)))=some ((na deep ((fm f n kid).bind fun p=>fC (fm f n) f (decide (x.1=6)) r p.1 (max h p.2)),()),()):=by
     have hlr:(r.reverse).length≤10000000:=by
      rw[he',List.length_append] at hkl
      omega
     rw[kR (by omega) (by omega),kR (by omega) (by omega),ih kid (deep+1) (by omega) (by omega) hkd (by omega) (by omega),Option.bind_some]
     cases hc:fm f n kid with
     | none=>rfl
     | some p =>
      obtain⟨t,ht⟩:=p
      have ha:=ir f n _ _ _ hc
      by_cases hd:deep+1+ht≤12
      ·have er:na (deep+1) (some (t,ht))=t:=if_pos hd
       simp only[er,Option.bind_some]
       rw[aw (by omega),List.length_reverse,Ft ih h0 hk hkn hkl r (kid :: suf) t (max h ht) deep he' (by omega) (by omega) d0 (by omega)]
      ·have er:na (deep+1) (some (t,ht)) = -1:=if_neg hd
       simp only[er,Option.bind_some]
       rw[az (by decide)]
       cases hq:fC (fm f n) f (decide (x.1=6)) r t (max h ht) with
       | none=>rfl
       | some q =>
        obtain⟨s',h'⟩:=q
        have:=(rE (ir f n) _ _ _ _ _ (by omega) hq).2.2.1
        simp only[na]
        rw[if_neg (by omega)]
    by_cases e3:y.1=3
    ·rw[if_pos (by simp[e3]),bP h0 hk]
     by_cases e4:x.1=6
     ·rw[if_neg (by simp[e4]),if_pos ⟨e1,by omega,fun _=>by simp[e4]⟩]
      exact go
     ·rw[if_pos (by simp[e4]),if_neg (by rw[har]; simp[e3,e4])]
      rfl
    ·rw[if_neg (by simp[e3]),if_pos ⟨e1,by omega,fun h=>by rw[har] at h; simp[e3] at h⟩]
     exact go
  ·rw[if_pos (by simpa using e1),if_neg (fun h=>e1 h.1)]
   rfl
theorem KL : ∀(n:Nat) (k deep:Int),0≤k→k < n→k < f.length→0≤deep→deep≤12→(∀ x∈f,x.2.2.2.2.2.1.length≤10000000)→yv f k deep=some ((na deep (fm f n k),()),())
 | 0,k,deep,h0,h1,_,_,_,_=>by omega
 | n+1,k,deep,h0,h1,h2,d0,d1,hkl=>by
  obtain⟨x,hx⟩ : ∃ y,f[k.toNat]? = some y:=⟨f[k.toNat]'(by omega),List.getElem?_eq_getElem _⟩
  have hm:x∈f:=List.mem_of_getElem? hx
  rw[Tj,aw (by omega)]
  by_cases hd:deep≥12
  ·rw[az hd]
   cases hc:fm f (n+1) k with
   | none=>rfl
   | some p =>
    obtain⟨s,h⟩:=p
    have:=UT hc
    simp only[na]
    rw[if_neg (by omega)]
  ·have:=hkl x hm
   rw[aw hd,bP h0 hx,Fs (hs x hm),Option.bind_some,bP h0 hx,kR (by omega) (by omega)]
   simp only[fm,if_pos h0,hx]
   cases ho:du x with
   | false=>rfl
   | true =>
    simp only[Bool.not_true,Bool.false_eq_true,if_false,if_true]
    have:=Ft hl hs (n:=n) (fun k deep a b c d e=>KL n k deep a b c d e hkl) h0 hx (by omega) this x.2.2.2.2.2.1.reverse [] k 0 deep (by simp) h0 (Int.le_refl _) d0 (by omega)
    rw[List.length_reverse] at this
    exact this
def GI:Option (Int×Nat)→Int
 | some (s,_)=>s
 | none => -1
theorem A7 {n:Nat} (A : ∀(i:Nat) (x:aa),f[i]? = some x→lK f i x) (ih : ∀(k:Int),0≤k→k < n→k < f.length→wW f k=some ((GI (fm f n k),()),())) {x:aa} {k:Int} (h0:0≤k) (hk:f[k.toNat]? = some x) (hkn:k≤n) (hkl:x.2.2.2.2.2.1.length≤10000000) :
  ∀(r suf:List Int) (cur:Int) (h:Nat),x.2.2.2.2.2.1=r.reverse++suf→0≤cur→cur≤k→sJ f k (cur - 1) ((r.length:Int) - 1)=some ((GI (fC (fm f n) f (decide (x.1=6)) r cur h),()),())
 | [],suf,cur,h,he,c0,c1=>by
  have hkl2:k < (f.length:Int):=by
   have:=(List.getElem?_eq_some_iff.1 hk).1
   omega
  rw[zD,aw (by simp),kR (by omega) (by omega)]
  simp only[fC,GI]
  congr 3
  omega
 | kid :: r,suf,cur,h,he,c0,c1=>by
  have hkl2:k < (f.length:Int):=by
   have:=(List.getElem?_eq_some_iff.1 hk).1
   omega
  have he':x.2.2.2.2.2.1=r.reverse++kid :: suf:=by rw[he]; simp
  have hlen:(((kid :: r).length:Int) - 1)=((r.reverse).length:Int):=by simp
  have hmem:kid∈x.2.2.2.2.2.1:=by rw[he']; simp
  have hst:=(A _ _ hk).2 kid hmem
  rw[zD,az (by rw[hlen]; exact nn _)]
  simp only[fC]
  by_cases e0:cur - 1 < 0
  ·rw[az e0,if_neg (by omega)]
   rfl
  ·rw[aw e0,bP h0 hk,hlen,bk he']
   by_cases e1:kid=cur - 1
   ·have hkd:kid < (f.length:Int):=by omega
    have hlr:(r.reverse).length≤10000000:=by
     rw[he',List.length_append] at hkl
     omega
    rw[if_neg (by simp[e1]),if_pos ⟨e1,hst.1,fun ha=>by simpa using hst.2.2 ha⟩,←e1,ih kid hst.1 (by omega) hkd,Option.bind_some,kR (n:=(r.reverse.length:Int) - 1) (by omega) (by omega)]
    cases hc:fm f n kid with
    | none=>rfl
    | some p =>
     obtain⟨t,ht⟩:=p
     have ha:=ir f n _ _ _ hc
     have er:GI (some (t,ht))=t:=rfl
     simp only[er,Option.bind_some]
     rw[aw (by omega),kR (n:=t - 1) (by omega) (by omega),List.length_reverse,A7 A ih h0 hk hkn hkl r (kid :: suf) t (max h ht) he' (by omega) (by omega)]
   ·rw[if_pos (by simpa using e1),if_neg (fun h=>e1 h.1)]
    rfl
theorem Fu (A : ∀(i:Nat) (x:aa),f[i]? = some x→lK f i x) (hkl : ∀ x∈f,x.2.2.2.2.2.1.length≤10000000) : ∀(n:Nat) (k:Int),0≤k→k < n→k < f.length→wW f k=some ((GI (fm f n k),()),())
 | 0,k,h0,h1,_=>by omega
 | n+1,k,h0,h1,h2=>by
  obtain⟨x,hx⟩ : ∃ y,f[k.toNat]? = some y:=⟨f[k.toNat]'(by omega),List.getElem?_eq_getElem _⟩
  have hm:x∈f:=List.mem_of_getElem? hx
  have hk:=hkl x hm
  rw[OT,bP h0 hx,kR (n:=k - 1) (by omega) (by omega),kR (by omega) (by omega)]
  simp only[fm,if_pos h0,hx,(A _ _ hx).1,if_true]
  have:=A7 hl hs (n:=n) A (Fu A hkl n) h0 hx (by omega) hk x.2.2.2.2.2.1.reverse [] k 0 (by simp) h0 (Int.le_refl _)
  rw[List.length_reverse] at this
  exact this
def mu (c:Int→Option (Int×Nat)):List Int→Nat
 | []=>0
 | k :: l=>max (((c k).map (·.2)).getD 0) (mu c l)
omit hl hs in
theorem DK (c:Int→Option (Int×Nat)) (k:Int) : ∀ l,mu c (l++[k])=max (mu c l) (((c k).map (·.2)).getD 0)
 | []=>by simp[mu]
 | y :: l=>by
  simp only[List.cons_append,mu,DK c k l]
  omega
omit hl hs in
theorem NS (c:Int→Option (Int×Nat)) : ∀ l,mu c l.reverse=mu c l
 | []=>rfl
 | y :: l=>by
  rw[List.reverse_cons,DK,NS c l]
  simp only[mu]
  omega
omit hl hs in
theorem HZ {c:Int→Option (Int×Nat)} {call:Bool} : ∀(l:List Int) (cur:Int) (h:Nat) (s:Int) (h':Nat),fC c f call l cur h=some (s,h')→h'=max h (mu c l)+1 ∧ ∀ k∈l,∃ p,c k=some p
 | [],cur,h,s,h',e=>by
  simp only[fC,Option.some.injEq,Prod.mk.injEq] at e
  exact⟨by simp only[mu]; omega,fun k hk=>by cases hk⟩
 | kid :: l,cur,h,s,h',e=>by
  simp only[fC] at e
  split at e
  ·rw[Option.bind_eq_some_iff] at e
   obtain⟨⟨t,ht⟩,e1,e2⟩:=e
   obtain⟨b1,b2⟩:=HZ l t (max h ht) s h' e2
   refine⟨?_,fun k hk => ?_⟩
   ·simp only[mu,e1,Option.map_some,Option.getD_some]
    omega
   ·rcases List.mem_cons.1 hk with rfl | hk
    ·exact⟨_,e1⟩
    ·exact b2 k hk
  ·cases e
theorem A8 {n:Nat} {c:Int→Option (Int×Nat)} (ih : ∀(k:Int) (s:Int) (h:Nat),k < n→c k=some (s,h)→wX f k=some (((h:Int),()),())) {x:aa} {k:Int} (h0:0≤k) (hk:f[k.toNat]? = some x) (hkn:k≤n) (hkl:x.2.2.2.2.2.1.length≤10000000) (hall : ∀ k'∈x.2.2.2.2.2.1,(∃ p,c k'=some p)∧k' < k) (hb:mu c x.2.2.2.2.2.1≤10000000) :
  ∀(ys pre:List Int),x.2.2.2.2.2.1=pre++ys→sK f k (mu c pre:Int) (pre.length:Int)=some ((((mu c x.2.2.2.2.2.1+1:Nat):Int),()),())
 | [],pre,he=>by
  have:pre=x.2.2.2.2.2.1:=by rw[he]; simp
  rw[zE,bP h0 hk,aw (bi he),this,kR (by omega) (by omega)]
  rfl
 | y :: ys,pre,he=>by
  obtain⟨⟨⟨s,h⟩,hc⟩,hlt⟩:=hall y (by rw[he]; simp)
  rw[zE,bP h0 hk,az (bq he),bP h0 hk,bk he,ih y s h (by omega) hc,Option.bind_some,aL he (by omega)]
  have:(if((mu c pre:Nat):Int) < (h:Int) then(h:Int) else((mu c pre:Nat):Int))=(mu c (pre++[y]):Int):=by
   rw[DK,hc]
   simp only[Option.map_some,Option.getD_some]
   split <;> omega
  rw[this]
  exact A8 ih h0 hk hkn hkl hall hb ys _ (av he)
theorem za (hkl : ∀ x∈f,x.2.2.2.2.2.1.length≤10000000) : ∀(n:Nat) (k s:Int) (h:Nat),fm f n k=some (s,h)→n≤10000000→h≤n∧wX f k=some (((h:Int),()),())
 | 0,_,_,_,e,_=>by cases e
 | n+1,k,s,h,e,hn=>by
  have hall:=ir f _ _ _ _ e
  simp only[fm] at e
  split at e
  ·rename_i h0
   split at e
   ·cases e
   ·rename_i x hx
    split at e
    ·have hm:x∈f:=List.mem_of_getElem? hx
     obtain⟨b1,b2⟩:=HZ _ _ _ _ _ e
     have hst:=rE (ir f n) _ _ _ _ _ h0 e
     have hhm:mu (fm f n) x.2.2.2.2.2.1≤n:=by
      have : ∀ l:List Int,mu (fm f n) l≤n:=by
       intro l
       induction l with
       | nil=>exact Nat.zero_le _
       | cons y l ih =>
        simp only[mu]
        cases hc:fm f n y with
        | none=>simpa using ih
        | some p =>
         have:=(za hkl n y p.1 p.2 hc (by omega)).1
         simp only[Option.map_some,Option.getD_some]
         omega
      exact this _
     rw[NS] at b1
     refine⟨by omega,?_⟩
     rw[OU]
     have hk2 : ∀ k'∈x.2.2.2.2.2.1,(∃ p,fm f n k'=some p)∧k' < k:=fun k' hk'=>⟨b2 k' (by simpa using hk'),(hst.2.2.2.2 k' (by simpa using hk')).2.1⟩
     have:=A8 hl hs (n:=k.toNat) (c:=fm f n) (fun k' s' h' _ hc=>(za hkl n k' s' h' hc (by omega)).2) h0 hx (by omega) (hkl x hm) hk2 (by omega) x.2.2.2.2.2.1 [] rfl
     rw[b1]
     have hz:max 0 (mu (fm f n) x.2.2.2.2.2.1)=mu (fm f n) x.2.2.2.2.2.1:=by omega
     rw[hz]
     exact this
    ·cases e
  ·cases e
end
end Go.Proofs.YtnodjiikdgmeaaaGreatDoor.Abs
