/- What the functions say: equations. Printed by out.py. -/
import Derived.Test.YtipnjpfdlolhmaaGreatDoorZQAD
import Derived.Test.YtipnjpfdlolhmaaGreatDoorZM2
import Derived.Test.YtipnjpfdlolhmaaGreatDoorZM3
set_option linter.unusedVariables false
set_option linter.unusedSimpArgs false
set_option maxRecDepth 100000
open Bool renaming and_eq_true→Z8,eq_iff_iff→ci_,false_eq_true→Z5,not_true→aj_
open ByteArray renaming size→ao_,toList→Z6
open Go.IntKind renaming i64→gu_,wrap→gt_
open Go.Lib renaming decDigits→am_
open Int renaming tdiv→ef_,toNat→an_
open List renaming getD→aw_,length→ac_,replicate→az_,set→ee_
open Nat renaming le_trans→bf_
open Option renaming bind_some→Z1
open _root_ renaming ByteArray→Z0,beq_iff_eq→bk_,decide_eq_true_eq→Z9,if_false→ad_,if_neg→Z2,if_pos→Z3,if_true→al_
namespace Go.Proofs.YtipnjpfdlolhmaaGreatDoor.Abs
open Go Go.Proofs.YtipnjpfdlolhmaaGreatDoor
theorem xj {x0 x1}:nl x0 x1=if(decide (x1 < (ac_ x0:Int)))=true then ix x0 x1 (ak.dflt) fun y1=>(qb y1.2.1).bind fun z1=>ix x0 x1 (ak.dflt) fun y2=>(c7 y2.1).bind fun z2=>if(!z2.1.1)=true then some ((false,()),()) else if(!z1.1.2.1)=true then some ((false,()),()) else ix x0 x1 (ak.dflt) fun y3=>if(Z6 y3.2.1 == Z6 ⟨#[]⟩)=true then some ((false,()),()) else ix x0 x1 (ak.dflt) fun y4=>if(! (Z6 z1.1.1 == Z6 y4.2.1))=true then some ((false,()),()) else if(decide (x1 > 0))=true then ix x0 (gt_ gu_ (x1 - 1)) (ak.dflt) fun y5=>ix x0 x1 (ak.dflt) fun y6=>(yr y5.1 y6.1).bind fun z3=>if(!z3.1.1)=true then some ((false,()),()) else nl x0 (gt_ gu_ (x1+1)) else nl x0 (gt_ gu_ (x1+1)) else some ((true,()),()):=bM
theorem pp {x0 x1 x2 x3 x4 x5 x6}:iy x0 x1 x2 x3 x4 x5 x6=if(decide (x3 < (ac_ x0:Int)))=true then if(!x2)=true then ix x0 x3 (ak.dflt) fun y1=>(yr y1.1 (x4,x5,())).bind fun z1=>if(!z1.1.1)=true then app x6 ([((x4,x5,()),x1,())]:(List ac)) 32 fun y2=>ix x0 x3 (ak.dflt) fun y3=>if(! (bP aK y3.1 (x4,x5,())))=true then ix x0 x3 (ak.dflt) fun y4=>app y2 ([y4]:(List ac)) 32 fun y5=>iy x0 x1 true (gt_ gu_ (x3+1)) x4 x5 y5 else iy x0 x1 true (gt_ gu_ (x3+1)) x4 x5 y2 else ix x0 x3 (ak.dflt) fun y6=>if(! (bP aK y6.1 (x4,x5,())))=true then ix x0 x3 (ak.dflt) fun y7=>app x6 ([y7]:(List ac)) 32 fun y8=>iy x0 x1 x2 (gt_ gu_ (x3+1)) x4 x5 y8 else iy x0 x1 x2 (gt_ gu_ (x3+1)) x4 x5 x6 else ix x0 x3 (ak.dflt) fun y9=>if(! (bP aK y9.1 (x4,x5,())))=true then ix x0 x3 (ak.dflt) fun y10=>app x6 ([y10]:(List ac)) 32 fun y11=>iy x0 x1 x2 (gt_ gu_ (x3+1)) x4 x5 y11 else iy x0 x1 x2 (gt_ gu_ (x3+1)) x4 x5 x6 else if(!x2)=true then app x6 ([((x4,x5,()),x1,())]:(List ac)) 32 fun y12=>some ((y12,()),()) else some ((x6,()),()):=bM
theorem rV {x0 x1 x2}:j9 x0 x1 x2=if(decide (x0 > 0))=true then(fe x1).bind fun z1=>(nh z1.2.1).bind fun z2=>(AP x2 z1.1.1 z2.1.1).bind fun z3=>if z3.1.2.1=true then j9 (gt_ gu_ (x0 - 1)) z2.2.1 z3.1.1 else j9 (gt_ gu_ (x0 - 1)) z2.2.1 x2 else(cG 40 x1).bind fun z4=>if z4.1.1=true then(fe z4.2.1).bind fun z5=>(nh z5.2.1).bind fun z6=>app x2 ([(z5.1.1,z6.1.1,())]:(List ac)) 32 fun y1=>some ((y1,()),(z6.2.1,())) else some ((x2,()),(z4.2.1,())):=bM
theorem tZ {x0 x1 x2 x3}:nK x0 x1 x2 x3=if(decide (x3 < x2))=true then ix x1 x3 0 fun y1=>if(y1 != x0)=true then some ((y1,()),()) else nK x0 x1 x2 (gt_ gu_ (x3+1)) else some ((x0,()),()):=bM
theorem zx {x0 x1 x2 x3}:si x0 x1 x2 x3=if(decide (x3 < x2))=true then ex x0 x3 fun y1=>if(decide (y1 < 32))=true then some ((false,()),()) else ex x0 x3 fun y2=>if(decide (y2 > 126))=true then some ((false,()),()) else si x0 x1 x2 (gt_ gu_ (x3+1)) else some (((decide ((ao_ x0:Int)≤x1)),()),()):=bM
theorem rm {x0 x1 x2 x3 x4 x5}:lx x0 x1 x2 x3 x4 x5=if(decide (x1 < x0))=true then inb x4 x1 ((eA x2 (aw_ x4 (an_ x1) ⟨#[]⟩)).bind fun z1=>if z1.1.1=true then some (((aw_ x4 (an_ x1) ⟨#[]⟩),()),((x2,x5,x3,()),())) else lx x0 (gt_ gu_ (x1+1)) x2 x3 x4 x5) else some ((⟨#[]⟩,()),((x2,x5,x3,()),())):=bM
theorem yI {x0 x1 x2 x3 x4}:jT x0 x1 x2 x3 x4=(strings_Cut x1 ⟨#[34]⟩).bind fun z1=>if(!z1.1.2.2.1)=true then some (((-1),()),((x2,x4,true,()),())) else cats x0 z1.1.1 fun y1=>(eA z1.1.2.1 ⟨#[34]⟩).bind fun z2=>if(!z2.1.1)=true then(bS (2,0,y1,()) z1.1.2.1 x3 x4).bind fun z3=>some ((z3.1.1,()),(z3.2.1,())) else cats y1 ⟨#[34]⟩ fun y2=>iJ z1.1.2.1 1 fun y3=>jT y2 y3 x2 x3 x4:=bM
theorem t6 {x0 x1 x2 x3 x4 x5 x6 x7}:g9 x0 x1 x2 x3 x4 x5 x6 x7=if(decide (x1≤5))=true then(pj x1).bind fun z1=>if(Z6 z1.1.1 == Z6 x0)=true then(dG x1).bind fun z2=>g9 x0 (gt_ gu_ (x1+1)) x2 x3 x4 z2.1.1.1 z2.1.1.2.1 z2.1.1.2.2.1 else g9 x0 (gt_ gu_ (x1+1)) x2 x3 x4 x5 x6 x7 else(dc (x5,x6,x7,())).bind fun z3=>if(!z3.1.1)=true then some (((0,0,⟨#[]⟩,()),false,()),()) else(fw (x5,x6,x7,())).bind fun z4=>if(! (Z6 z4.1.1 == Z6 x0))=true then some (((0,0,⟨#[]⟩,()),false,()),()) else some (((x5,x6,x7,()),true,()),()):=bM
theorem GZ {x0 x1}:vS x0 x1=if(decide (x1≤52))=true then(qc x1).bind fun z1=>if(Z6 z1.1.1 == Z6 x0)=true then some ((x1,()),()) else vS x0 (gt_ gu_ (x1+1)) else some ((0,()),()):=bM
theorem fz {x0 x1 x2 x3 x4 x5}:cE x0 x1 x2 x3 x4 x5=if(!x4)=true then cF x0 x1 x2 0 1 x3 x4 x5 else some ((x2,()),((x3,x5,x4,()),())):=bM
theorem Ba {x0 x1 x2 x3 x4 x5}:uT x0 x1 x2 x3 x4 x5=if(!x3)=true then(kD x2 x3 x4).bind fun z1=>if z1.1.2.1=true then(aI z1.1.1 z1.2.1.1 z1.2.1.2.2.1 z1.2.1.2.1).bind fun z2=>app x5 ([z2.1.1]:(List Int)) 8 fun y1=>(bn ⟨#[44]⟩ z2.2.1.1 z2.2.1.2.2.1 z2.2.1.2.1).bind fun z3=>if(!z3.1.1)=true then if z3.2.1.2.2.1=true then(aI (6,x0,(0,0,⟨#[]⟩,()),((0,0,()),false,false,()),((0,0,()),false,false,()),y1,()) z3.2.1.1 true z3.2.1.2.1).bind fun z4=>some ((z4.1.1,()),(z4.2.1,())) else(bn ⟨#[41]⟩ z3.2.1.1 z3.2.1.2.2.1 z3.2.1.2.1).bind fun z5=>(aI (6,x0,(0,0,⟨#[]⟩,()),((0,0,()),false,false,()),((0,0,()),false,false,()),y1,()) z5.2.1.1 (!z5.1.1) z5.2.1.2.1).bind fun z6=>some ((z6.1.1,()),(z6.2.1,())) else b7 x0 x1 z3.2.1.1 z3.2.1.2.2.1 y1 z3.2.1.2.1 else(bv 1 (gt_ gu_ (x1+1)) z1.2.1.1 z1.2.1.2.2.1 z1.2.1.2.1).bind fun z7=>app x5 ([z7.1.1]:(List Int)) 8 fun y2=>(bn ⟨#[44]⟩ z7.2.1.1 z7.2.1.2.2.1 z7.2.1.2.1).bind fun z8=>if(!z8.1.1)=true then if z8.2.1.2.2.1=true then(aI (6,x0,(0,0,⟨#[]⟩,()),((0,0,()),false,false,()),((0,0,()),false,false,()),y2,()) z8.2.1.1 true z8.2.1.2.1).bind fun z9=>some ((z9.1.1,()),(z9.2.1,())) else(bn ⟨#[41]⟩ z8.2.1.1 z8.2.1.2.2.1 z8.2.1.2.1).bind fun z10=>(aI (6,x0,(0,0,⟨#[]⟩,()),((0,0,()),false,false,()),((0,0,()),false,false,()),y2,()) z10.2.1.1 (!z10.1.1) z10.2.1.2.1).bind fun z11=>some ((z11.1.1,()),(z11.2.1,())) else b7 x0 x1 z8.2.1.1 z8.2.1.2.2.1 y2 z8.2.1.2.1 else(aI (6,x0,(0,0,⟨#[]⟩,()),((0,0,()),false,false,()),((0,0,()),false,false,()),x5,()) x2 x3 x4).bind fun z12=>some ((z12.1.1,()),(z12.2.1,())):=bM
theorem je {x0 x1 x2 x3 x4 x5}:b7 x0 x1 x2 x3 x4 x5=if(!x3)=true then(kD x2 x3 x5).bind fun z1=>if z1.1.2.1=true then(aI z1.1.1 z1.2.1.1 z1.2.1.2.2.1 z1.2.1.2.1).bind fun z2=>app x4 ([z2.1.1]:(List Int)) 8 fun y1=>(bn ⟨#[44]⟩ z2.2.1.1 z2.2.1.2.2.1 z2.2.1.2.1).bind fun z3=>if(!z3.1.1)=true then if z3.2.1.2.2.1=true then(aI (6,x0,(0,0,⟨#[]⟩,()),((0,0,()),false,false,()),((0,0,()),false,false,()),y1,()) z3.2.1.1 true z3.2.1.2.1).bind fun z4=>some ((z4.1.1,()),(z4.2.1,())) else(bn ⟨#[41]⟩ z3.2.1.1 z3.2.1.2.2.1 z3.2.1.2.1).bind fun z5=>(aI (6,x0,(0,0,⟨#[]⟩,()),((0,0,()),false,false,()),((0,0,()),false,false,()),y1,()) z5.2.1.1 (!z5.1.1) z5.2.1.2.1).bind fun z6=>some ((z6.1.1,()),(z6.2.1,())) else b7 x0 x1 z3.2.1.1 z3.2.1.2.2.1 y1 z3.2.1.2.1 else(bv 1 (gt_ gu_ (x1+1)) z1.2.1.1 z1.2.1.2.2.1 z1.2.1.2.1).bind fun z7=>app x4 ([z7.1.1]:(List Int)) 8 fun y2=>(bn ⟨#[44]⟩ z7.2.1.1 z7.2.1.2.2.1 z7.2.1.2.1).bind fun z8=>if(!z8.1.1)=true then if z8.2.1.2.2.1=true then(aI (6,x0,(0,0,⟨#[]⟩,()),((0,0,()),false,false,()),((0,0,()),false,false,()),y2,()) z8.2.1.1 true z8.2.1.2.1).bind fun z9=>some ((z9.1.1,()),(z9.2.1,())) else(bn ⟨#[41]⟩ z8.2.1.1 z8.2.1.2.2.1 z8.2.1.2.1).bind fun z10=>(aI (6,x0,(0,0,⟨#[]⟩,()),((0,0,()),false,false,()),((0,0,()),false,false,()),y2,()) z10.2.1.1 (!z10.1.1) z10.2.1.2.1).bind fun z11=>some ((z11.1.1,()),(z11.2.1,())) else b7 x0 x1 z8.2.1.1 z8.2.1.2.2.1 y2 z8.2.1.2.1 else(aI (6,x0,(0,0,⟨#[]⟩,()),((0,0,()),false,false,()),((0,0,()),false,false,()),x4,()) x2 x3 x5).bind fun z12=>some ((z12.1.1,()),(z12.2.1,())):=bM
theorem rn {x0 x1 x2 x3 x4}:dS x0 x1 x2 x3 x4=if(decide (x1≤5))=true then(pj x1).bind fun z1=>(cD x2 z1.1.1).bind fun z2=>if z2.1.2.1=true then(dG x1).bind fun z3=>(bS z3.1.1 z2.1.1 x3 x4).bind fun z4=>some ((z4.1.1,()),(z4.2.1,())) else dS x0 (gt_ gu_ (x1+1)) x2 x3 x4 else(j6 x2 x3 x4).bind fun z5=>(eR z5.1.1).bind fun z6=>if z6.1.2.1=true then if(z6.1.1.1 == 1)=true then(bS z6.1.1 z5.2.1.1 z5.2.1.2.2.1 z5.2.1.2.1).bind fun z7=>some ((z7.1.1,()),(z7.2.1,())) else if(z6.1.1.1 == 3)=true then(bS z6.1.1 z5.2.1.1 z5.2.1.2.2.1 z5.2.1.2.1).bind fun z8=>some ((z8.1.1,()),(z8.2.1,())) else(ir z5.1.1).bind fun z9=>if z9.1.2.1=true then(aI (2,0,(0,0,⟨#[]⟩,()),z9.1.1,((0,0,()),false,false,()),([]:(List Int)),()) z5.2.1.1 z5.2.1.2.2.1 z5.2.1.2.1).bind fun z10=>some ((z10.1.1,()),(z10.2.1,())) else dY x0 z5.1.1 1 z5.2.1.1 z5.2.1.2.2.1 z5.2.1.2.1 else(ir z5.1.1).bind fun z11=>if z11.1.2.1=true then(aI (2,0,(0,0,⟨#[]⟩,()),z11.1.1,((0,0,()),false,false,()),([]:(List Int)),()) z5.2.1.1 z5.2.1.2.2.1 z5.2.1.2.1).bind fun z12=>some ((z12.1.1,()),(z12.2.1,())) else dY x0 z5.1.1 1 z5.2.1.1 z5.2.1.2.2.1 z5.2.1.2.1:=bM
theorem pK {x0 x1 x2 x3 x4 x5}:dY x0 x1 x2 x3 x4 x5=if(decide (x2≤10))=true then(BW x2).bind fun z1=>if(Z6 x1 == Z6 z1.1.1)=true then(gB x2 x0 x3 x4 x5).bind fun z2=>some ((z2.1.1,()),(z2.2.1,())) else dY x0 x1 (gt_ gu_ (x2+1)) x3 x4 x5 else some (((-1),()),((x3,x5,true,()),())):=bM
theorem C3 {x0 x1 x2 x3 x4}:qe x0 x1 x2 x3 x4=if(decide (x4≥0))=true then ix x0 x1 (af.dflt) fun y1=>ix y1.2.2.2.2.2.1 x4 0 fun y2=>if(y2 != (gt_ gu_ (x3 - 1)))=true then some (((-1),()),()) else if(decide (y2 < 0))=true then some (((-1),()),()) else ix x0 y2 (af.dflt) fun y3=>if(y3.1 == 3)=true then ix x0 x1 (af.dflt) fun y4=>if(y4.1 != 6)=true then some (((-1),()),()) else(yu x0 y2 (gt_ gu_ (x2+1))).bind fun z1=>if(decide (z1.1.1 < 0))=true then some (((-1),()),()) else qe x0 x1 x2 z1.1.1 (gt_ gu_ (x4 - 1)) else(yu x0 y2 (gt_ gu_ (x2+1))).bind fun z2=>if(decide (z2.1.1 < 0))=true then some (((-1),()),()) else qe x0 x1 x2 z2.1.1 (gt_ gu_ (x4 - 1)) else some ((x3,()),()):=bM
theorem pL {x0 x1 x2 x3 x4 x5 x6 x7 x8 x9 x10}:kG x0 x1 x2 x3 x4 x5 x6 x7 x8 x9 x10=if(decide (x3 < x2))=true then ix x1 x3 0 fun y1=>(gC x0 y1 1).bind fun z1=>app x10 ([z1.1.1]:(List Z0)) 16 fun y2=>kG x0 x1 x2 (gt_ gu_ (x3+1)) x4 x5 x6 x7 x8 x9 y2 else(BW x5).bind fun z2=>cats z2.1.1 ⟨#[40]⟩ fun y3=>(strings_Join x10 ⟨#[44]⟩).bind fun z3=>cats y3 z3.1.1 fun y4=>cats y4 ⟨#[41]⟩ fun y5=>some ((y5,()),()):=bM
theorem xk {x0 x1 x2 x3}:np x0 x1 x2 x3=if(decide (x3 < x2))=true then ix x1 x3 (ak.dflt) fun y1=>(gA y1.1).bind fun z1=>if(!z1.1.1)=true then some ((false,()),()) else if(decide (x3 > 0))=true then ix x0 (gt_ gu_ (x3 - 1)) (ak.dflt) fun y2=>(lQ y2.1 y1.1).bind fun z2=>if(decide (z2.1.1≥0))=true then some ((false,()),()) else(uO y1.2.1).bind fun z3=>if(!z3.1.1)=true then some ((false,()),()) else np x0 x1 x2 (gt_ gu_ (x3+1)) else(uO y1.2.1).bind fun z4=>if(!z4.1.1)=true then some ((false,()),()) else np x0 x1 x2 (gt_ gu_ (x3+1)) else some (((decide ((ac_ x0:Int)≤120)),()),()):=bM
theorem ln {x0 x1 x2 x3 x4}:gT x0 x1 x2 x3 x4=if(decide (x2 < x1))=true then ix x0 x2 (ak.dflt) fun y1=>(Fa y1 x3 x4).bind fun z1=>if z1.1.1=true then some ((x2,()),(z1.2.1,())) else co x0 x1 (gt_ gu_ (x2+1)) z1.2.1 else some (((-1),()),((x3,x4,()),())):=bM
theorem kf {x0 x1 x2 x3}:cc x0 x1 x2 x3=if(decide (x1 < (ac_ x2:Int)))=true then inb x2 x1 ((vP (aw_ x2 (an_ x1) (ak.dflt)) x3).bind fun z1=>if(!z1.1.1)=true then inb x2 x0 (cc (gt_ gu_ (x0+1)) (gt_ gu_ (x1+1)) (ee_ x2 (an_ x0) (aw_ x2 (an_ x1) (ak.dflt))) z1.2.1) else cc x0 (gt_ gu_ (x1+1)) x2 z1.2.1) else if(0:Int)≤x0 then if x0 < (ac_ x2:Int) then OF (List.take (an_ x0) x2++az_ (ac_ x2 - an_ x0) (ak.dflt)) x0 fun y1=>some ((y1,()),(x3,())) else none else none:=bM
theorem lp {x0 x1 x2 x3 x4 x5 x6 x7 x8}:gU x0 x1 x2 x3 x4 x5 x6 x7 x8=if(decide (x2 < x1))=true then ix x0 x2 (ak.dflt) fun y1=>(yv y1 x3 x4 x5 x6 x7 x8).bind fun z1=>if z1.1.1=true then some ((x2,()),(z1.2.1,())) else cp x0 x1 (gt_ gu_ (x2+1)) z1.2.1 else some (((-1),()),((x3,x4,x5,x6,x7,x8,()),())):=bM
theorem kg {x0 x1 x2 x3}:cd x0 x1 x2 x3=if(decide (x1 < (ac_ x2:Int)))=true then inb x2 x1 ((qM (aw_ x2 (an_ x1) (ak.dflt)) x3).bind fun z1=>if(!z1.1.1)=true then inb x2 x0 (cd (gt_ gu_ (x0+1)) (gt_ gu_ (x1+1)) (ee_ x2 (an_ x0) (aw_ x2 (an_ x1) (ak.dflt))) z1.2.1) else cd x0 (gt_ gu_ (x1+1)) x2 z1.2.1) else if(0:Int)≤x0 then if x0 < (ac_ x2:Int) then OF (List.take (an_ x0) x2++az_ (ac_ x2 - an_ x0) (ak.dflt)) x0 fun y1=>some ((y1,()),(x3,())) else none else none:=bM
theorem t7 {x0 x1 x2 x3 x4 x5}:cw x0 x1 x2 x3 x4 x5=if(decide (x2 < x1))=true then ix x0 x2 (af.dflt) fun y1=>if(y1.1 == 2)=true then(uP y1 x3 x4).bind fun z1=>(bG z1.1.1).bind fun z2=>if(!z2.1.1)=true then(dG 3).bind fun z3=>(ax ([]:(List Int))).bind fun z4=>app x5 ([(1,0,z3.1.1,((0,0,()),false,false,()),((0,0,()),false,false,()),z4.1.1,())]:(List ab)) 120 fun y2=>cw x0 x1 (gt_ gu_ (x2+1)) z1.2.1 z1.2.2.1 y2 else(ax z1.1.1.2.2.2.2.2.1).bind fun z5=>app x5 ([(z1.1.1.1,z1.1.1.2.1,z1.1.1.2.2.1,z1.1.1.2.2.2.1,z1.1.1.2.2.2.2.1,z5.1.1,())]:(List ab)) 120 fun y3=>cw x0 x1 (gt_ gu_ (x2+1)) z1.2.1 z1.2.2.1 y3 else if(y1.1 == 3)=true then(uP y1 x3 x4).bind fun z6=>(bG z6.1.1).bind fun z7=>if(!z7.1.1)=true then(dG 3).bind fun z8=>(ax ([]:(List Int))).bind fun z9=>app x5 ([(1,0,z8.1.1,((0,0,()),false,false,()),((0,0,()),false,false,()),z9.1.1,())]:(List ab)) 120 fun y4=>cw x0 x1 (gt_ gu_ (x2+1)) z6.2.1 z6.2.2.1 y4 else(ax z6.1.1.2.2.2.2.2.1).bind fun z10=>app x5 ([(z6.1.1.1,z6.1.1.2.1,z6.1.1.2.2.1,z6.1.1.2.2.2.1,z6.1.1.2.2.2.2.1,z10.1.1,())]:(List ab)) 120 fun y5=>cw x0 x1 (gt_ gu_ (x2+1)) z6.2.1 z6.2.2.1 y5 else(ax y1.2.2.2.2.2.1).bind fun z11=>app x5 ([(y1.1,y1.2.1,y1.2.2.1,y1.2.2.2.1,y1.2.2.2.2.1,z11.1.1,())]:(List ab)) 120 fun y6=>cw x0 x1 (gt_ gu_ (x2+1)) x3 x4 y6 else some ((x5,()),(x3,x4,())):=bM
theorem mL {x0 x1 x2 x3 x4 x5}:bw x0 x1 x2 x3 x4 x5=if(decide (x2 < x1))=true then ix x0 x2 (af.dflt) fun y1=>if(y1.1 == 2)=true then(it y1 x3 x4).bind fun z1=>(bG z1.1.1).bind fun z2=>if(!z2.1.1)=true then(dG 3).bind fun z3=>(ax ([]:(List Int))).bind fun z4=>app x5 ([(1,0,z3.1.1,((0,0,()),false,false,()),((0,0,()),false,false,()),z4.1.1,())]:(List ab)) 120 fun y2=>bw x0 x1 (gt_ gu_ (x2+1)) z1.2.1 z1.2.2.1 y2 else(ax z1.1.1.2.2.2.2.2.1).bind fun z5=>app x5 ([(z1.1.1.1,z1.1.1.2.1,z1.1.1.2.2.1,z1.1.1.2.2.2.1,z1.1.1.2.2.2.2.1,z5.1.1,())]:(List ab)) 120 fun y3=>bw x0 x1 (gt_ gu_ (x2+1)) z1.2.1 z1.2.2.1 y3 else if(y1.1 == 3)=true then(it y1 x3 x4).bind fun z6=>(bG z6.1.1).bind fun z7=>if(!z7.1.1)=true then(dG 3).bind fun z8=>(ax ([]:(List Int))).bind fun z9=>app x5 ([(1,0,z8.1.1,((0,0,()),false,false,()),((0,0,()),false,false,()),z9.1.1,())]:(List ab)) 120 fun y4=>bw x0 x1 (gt_ gu_ (x2+1)) z6.2.1 z6.2.2.1 y4 else(ax z6.1.1.2.2.2.2.2.1).bind fun z10=>app x5 ([(z6.1.1.1,z6.1.1.2.1,z6.1.1.2.2.1,z6.1.1.2.2.2.1,z6.1.1.2.2.2.2.1,z10.1.1,())]:(List ab)) 120 fun y5=>bw x0 x1 (gt_ gu_ (x2+1)) z6.2.1 z6.2.2.1 y5 else(ax y1.2.2.2.2.2.1).bind fun z11=>app x5 ([(y1.1,y1.2.1,y1.2.2.1,y1.2.2.2.1,y1.2.2.2.2.1,z11.1.1,())]:(List ab)) 120 fun y6=>bw x0 x1 (gt_ gu_ (x2+1)) x3 x4 y6 else some ((x5,()),(x3,x4,())):=bM
theorem LI {x0 x1}:Ie x0 x1=if(x1.1 == 3)=true then(BX x0 x1.2.2.2.2.1 x1.2.2.2.2.2.1).bind fun z1=>some ((z1.1.1,()),(x1,())) else(BZ x0 x1.2.2.2.2.1 x1.2.2.2.2.2.1).bind fun z2=>some ((z2.1.1,()),(x1,())):=av
theorem Bb {x0 x1 x2 x3 x4 x5 x6 x7 x8 x9}:uU x0 x1 x2 x3 x4 x5 x6 x7 x8 x9=if(decide (x2 < x1))=true then ix x0 x2 (ak.dflt) fun y1=>if(decide (y1.1.2.1 < x7))=true then(eF y1.2.1 x3 x4 x5 x6 x7 x8).bind fun z1=>if(!z1.1.2.1)=true then some ((([]:(List ac)),false,()),()) else(gA y1.1).bind fun z2=>if(!z2.1.1)=true then some ((([]:(List ac)),false,()),()) else app x9 ([(y1.1,z1.1.1,())]:(List ac)) 32 fun y2=>da x0 x1 (gt_ gu_ (x2+1)) z1.2.1 y2 else if(x3 == 3)=true then(eF y1.2.1 x3 x4 x5 x6 x7 x8).bind fun z3=>if(!z3.1.2.1)=true then some ((([]:(List ac)),false,()),()) else(gA (y1.1.1,(gt_ gu_ (y1.1.2.1+x8)),())).bind fun z4=>if(!z4.1.1)=true then some ((([]:(List ac)),false,()),()) else app x9 ([((y1.1.1,(gt_ gu_ (y1.1.2.1+x8)),()),z3.1.1,())]:(List ac)) 32 fun y3=>da x0 x1 (gt_ gu_ (x2+1)) z3.2.1 y3 else if(decide (y1.1.2.1 < (gt_ gu_ (x7+x8))))=true then uU x0 x1 (gt_ gu_ (x2+1)) x3 x4 x5 x6 x7 x8 x9 else(eF y1.2.1 x3 x4 x5 x6 x7 x8).bind fun z5=>if(!z5.1.2.1)=true then some ((([]:(List ac)),false,()),()) else(gA (y1.1.1,(gt_ gu_ (y1.1.2.1 - x8)),())).bind fun z6=>if(!z6.1.1)=true then some ((([]:(List ac)),false,()),()) else app x9 ([((y1.1.1,(gt_ gu_ (y1.1.2.1 - x8)),()),z5.1.1,())]:(List ac)) 32 fun y4=>da x0 x1 (gt_ gu_ (x2+1)) z5.2.1 y4 else some ((x9,true,()),()):=bM
theorem lA {x0 x1 x2 x3 x4}:ik x0 x1 x2 x3 x4=if(decide (x2 < x1))=true then ix x0 x2 (ak.dflt) fun y1=>(AV y1 x3 x4).bind fun z1=>if z1.1.1=true then some ((x2,()),(z1.2.1,())) else cx x0 x1 (gt_ gu_ (x2+1)) z1.2.1 else some (((-1),()),((x3,x4,()),())):=bM
theorem kI {x0 x1 x2 x3}:cg x0 x1 x2 x3=if(decide (x1 < (ac_ x2:Int)))=true then inb x2 x1 ((sd (aw_ x2 (an_ x1) (ak.dflt)) x3).bind fun z1=>if(!z1.1.1)=true then inb x2 x0 (cg (gt_ gu_ (x0+1)) (gt_ gu_ (x1+1)) (ee_ x2 (an_ x0) (aw_ x2 (an_ x1) (ak.dflt))) z1.2.1) else cg x0 (gt_ gu_ (x1+1)) x2 z1.2.1) else if(0:Int)≤x0 then if x0 < (ac_ x2:Int) then OF (List.take (an_ x0) x2++az_ (ac_ x2 - an_ x0) (ak.dflt)) x0 fun y1=>some ((y1,()),(x3,())) else none else none:=bM
theorem sq {x0 x1 x2 x3 x4 x5}:ck x0 x1 x2 x3 x4 x5=if(decide (x2 < x1))=true then ix x0 x2 (af.dflt) fun y1=>if(y1.1 == 2)=true then(sk y1 x3 x4).bind fun z1=>(bG z1.1.1).bind fun z2=>if(!z2.1.1)=true then(dG 3).bind fun z3=>(ax ([]:(List Int))).bind fun z4=>app x5 ([(1,0,z3.1.1,((0,0,()),false,false,()),((0,0,()),false,false,()),z4.1.1,())]:(List ab)) 120 fun y2=>ck x0 x1 (gt_ gu_ (x2+1)) z1.2.1 z1.2.2.1 y2 else(ax z1.1.1.2.2.2.2.2.1).bind fun z5=>app x5 ([(z1.1.1.1,z1.1.1.2.1,z1.1.1.2.2.1,z1.1.1.2.2.2.1,z1.1.1.2.2.2.2.1,z5.1.1,())]:(List ab)) 120 fun y3=>ck x0 x1 (gt_ gu_ (x2+1)) z1.2.1 z1.2.2.1 y3 else if(y1.1 == 3)=true then(sk y1 x3 x4).bind fun z6=>(bG z6.1.1).bind fun z7=>if(!z7.1.1)=true then(dG 3).bind fun z8=>(ax ([]:(List Int))).bind fun z9=>app x5 ([(1,0,z8.1.1,((0,0,()),false,false,()),((0,0,()),false,false,()),z9.1.1,())]:(List ab)) 120 fun y4=>ck x0 x1 (gt_ gu_ (x2+1)) z6.2.1 z6.2.2.1 y4 else(ax z6.1.1.2.2.2.2.2.1).bind fun z10=>app x5 ([(z6.1.1.1,z6.1.1.2.1,z6.1.1.2.2.1,z6.1.1.2.2.2.1,z6.1.1.2.2.2.2.1,z10.1.1,())]:(List ab)) 120 fun y5=>ck x0 x1 (gt_ gu_ (x2+1)) z6.2.1 z6.2.2.1 y5 else(ax y1.2.2.2.2.2.1).bind fun z11=>app x5 ([(y1.1,y1.2.1,y1.2.2.1,y1.2.2.2.1,y1.2.2.2.2.1,z11.1.1,())]:(List ab)) 120 fun y6=>ck x0 x1 (gt_ gu_ (x2+1)) x3 x4 y6 else some ((x5,()),(x3,x4,())):=bM
theorem zy {x0 x1 x2 x3 x4 x5 x6 x7 x8 x9 x10 x11}:mA x0 x1 x2 x3 x4 x5 x6 x7 x8 x9 x10 x11=if(decide (x2 < x1))=true then ix x0 x2 (ak.dflt) fun y1=>(gD x6 y1.1).bind fun z1=>if(!z1.1.1)=true then mA x0 x1 (gt_ gu_ (x2+1)) x3 x4 x5 x6 x7 x8 x9 x10 x11 else(kE y1.2.1 x9 x10).bind fun z2=>if(!z2.1.2.1)=true then some ((([]:(List ac)),false,()),()) else app x11 ([(((gt_ gu_ (y1.1.1+z2.2.1)),(gt_ gu_ (y1.1.2.1+z2.2.2.1)),()),z2.1.1,())]:(List ac)) 32 fun y2=>mA x0 x1 (gt_ gu_ (x2+1)) x3 x4 x5 x6 x7 x8 z2.2.1 z2.2.2.1 y2 else(AW x11).bind fun z3=>some ((z3.1.1,(decide ((ac_ x11:Int)≤120)),()),()):=bM
end Go.Proofs.YtipnjpfdlolhmaaGreatDoor.Abs
namespace Go.Proofs.YtipnjpfdlolhmaaGreatDoor.Abs
open Go Go.Proofs.YtipnjpfdlolhmaaGreatDoor
theorem zz {x0 x1 x2 x3 x4 x5}:bo x0 x1 x2 x3 x4 x5=if(decide (x4 < (ac_ x0:Int)))=true then ix x0 x4 (af.dflt) fun y1=>app ([]:(List Int)) y1.2.2.2.2.2.1 8 fun y2=>if(y1.1 == 2)=true then if(y1.1 == 2)=true then if x3=true then(iq y1.2.2.2.1.1.2.1 x1 (gt_ gu_ ((gt_ gu_ (x1+x2)) - 1))).bind fun z1=>(fh y1.2.2.2.1.1.2.1 x1 x2 x3 x1).bind fun z2=>if(y1.1 == 3)=true then(fh y1.2.2.2.2.1.1.2.1 x1 x2 x3 (gt_ gu_ (x1 - 1))).bind fun z3=>if z1.1.1=true then(dB).bind fun z4=>app x5 ([z4.1.1]:(List ab)) 120 fun y3=>bo x0 x1 x2 x3 (gt_ gu_ (x4+1)) y3 else(bH (y1.1,y1.2.1,y1.2.2.1,((y1.2.2.2.1.1.1,z2.1.1,()),y1.2.2.2.1.2.1,y1.2.2.2.1.2.2.1,()),((y1.2.2.2.2.1.1.1,z3.1.1,()),y1.2.2.2.2.1.2.1,y1.2.2.2.2.1.2.2.1,()),y2,())).bind fun z5=>if(!z5.1.1)=true then(dB).bind fun z6=>app x5 ([z6.1.1]:(List ab)) 120 fun y4=>bo x0 x1 x2 x3 (gt_ gu_ (x4+1)) y4 else app x5 ([(y1.1,y1.2.1,y1.2.2.1,((y1.2.2.2.1.1.1,z2.1.1,()),y1.2.2.2.1.2.1,y1.2.2.2.1.2.2.1,()),((y1.2.2.2.2.1.1.1,z3.1.1,()),y1.2.2.2.2.1.2.1,y1.2.2.2.2.1.2.2.1,()),y2,())]:(List ab)) 120 fun y5=>bo x0 x1 x2 x3 (gt_ gu_ (x4+1)) y5 else if z1.1.1=true then(dB).bind fun z7=>app x5 ([z7.1.1]:(List ab)) 120 fun y6=>bo x0 x1 x2 x3 (gt_ gu_ (x4+1)) y6 else(bH (y1.1,y1.2.1,y1.2.2.1,((y1.2.2.2.1.1.1,z2.1.1,()),y1.2.2.2.1.2.1,y1.2.2.2.1.2.2.1,()),y1.2.2.2.2.1,y2,())).bind fun z8=>if(!z8.1.1)=true then(dB).bind fun z9=>app x5 ([z9.1.1]:(List ab)) 120 fun y7=>bo x0 x1 x2 x3 (gt_ gu_ (x4+1)) y7 else app x5 ([(y1.1,y1.2.1,y1.2.2.1,((y1.2.2.2.1.1.1,z2.1.1,()),y1.2.2.2.1.2.1,y1.2.2.2.1.2.2.1,()),y1.2.2.2.2.1,y2,())]:(List ab)) 120 fun y8=>bo x0 x1 x2 x3 (gt_ gu_ (x4+1)) y8 else(fh y1.2.2.2.1.1.2.1 x1 x2 x3 x1).bind fun z10=>if(y1.1 == 3)=true then(fh y1.2.2.2.2.1.1.2.1 x1 x2 x3 (gt_ gu_ (x1 - 1))).bind fun z11=>(bH (y1.1,y1.2.1,y1.2.2.1,((y1.2.2.2.1.1.1,z10.1.1,()),y1.2.2.2.1.2.1,y1.2.2.2.1.2.2.1,()),((y1.2.2.2.2.1.1.1,z11.1.1,()),y1.2.2.2.2.1.2.1,y1.2.2.2.2.1.2.2.1,()),y2,())).bind fun z12=>if(!z12.1.1)=true then(dB).bind fun z13=>app x5 ([z13.1.1]:(List ab)) 120 fun y9=>bo x0 x1 x2 x3 (gt_ gu_ (x4+1)) y9 else app x5 ([(y1.1,y1.2.1,y1.2.2.1,((y1.2.2.2.1.1.1,z10.1.1,()),y1.2.2.2.1.2.1,y1.2.2.2.1.2.2.1,()),((y1.2.2.2.2.1.1.1,z11.1.1,()),y1.2.2.2.2.1.2.1,y1.2.2.2.2.1.2.2.1,()),y2,())]:(List ab)) 120 fun y10=>bo x0 x1 x2 x3 (gt_ gu_ (x4+1)) y10 else(bH (y1.1,y1.2.1,y1.2.2.1,((y1.2.2.2.1.1.1,z10.1.1,()),y1.2.2.2.1.2.1,y1.2.2.2.1.2.2.1,()),y1.2.2.2.2.1,y2,())).bind fun z14=>if(!z14.1.1)=true then(dB).bind fun z15=>app x5 ([z15.1.1]:(List ab)) 120 fun y11=>bo x0 x1 x2 x3 (gt_ gu_ (x4+1)) y11 else app x5 ([(y1.1,y1.2.1,y1.2.2.1,((y1.2.2.2.1.1.1,z10.1.1,()),y1.2.2.2.1.2.1,y1.2.2.2.1.2.2.1,()),y1.2.2.2.2.1,y2,())]:(List ab)) 120 fun y12=>bo x0 x1 x2 x3 (gt_ gu_ (x4+1)) y12 else(fh y1.2.2.2.1.1.2.1 x1 x2 x3 x1).bind fun z16=>if(y1.1 == 3)=true then(fh y1.2.2.2.2.1.1.2.1 x1 x2 x3 (gt_ gu_ (x1 - 1))).bind fun z17=>(bH (y1.1,y1.2.1,y1.2.2.1,((y1.2.2.2.1.1.1,z16.1.1,()),y1.2.2.2.1.2.1,y1.2.2.2.1.2.2.1,()),((y1.2.2.2.2.1.1.1,z17.1.1,()),y1.2.2.2.2.1.2.1,y1.2.2.2.2.1.2.2.1,()),y2,())).bind fun z18=>if(!z18.1.1)=true then(dB).bind fun z19=>app x5 ([z19.1.1]:(List ab)) 120 fun y13=>bo x0 x1 x2 x3 (gt_ gu_ (x4+1)) y13 else app x5 ([(y1.1,y1.2.1,y1.2.2.1,((y1.2.2.2.1.1.1,z16.1.1,()),y1.2.2.2.1.2.1,y1.2.2.2.1.2.2.1,()),((y1.2.2.2.2.1.1.1,z17.1.1,()),y1.2.2.2.2.1.2.1,y1.2.2.2.2.1.2.2.1,()),y2,())]:(List ab)) 120 fun y14=>bo x0 x1 x2 x3 (gt_ gu_ (x4+1)) y14 else(bH (y1.1,y1.2.1,y1.2.2.1,((y1.2.2.2.1.1.1,z16.1.1,()),y1.2.2.2.1.2.1,y1.2.2.2.1.2.2.1,()),y1.2.2.2.2.1,y2,())).bind fun z20=>if(!z20.1.1)=true then(dB).bind fun z21=>app x5 ([z21.1.1]:(List ab)) 120 fun y15=>bo x0 x1 x2 x3 (gt_ gu_ (x4+1)) y15 else app x5 ([(y1.1,y1.2.1,y1.2.2.1,((y1.2.2.2.1.1.1,z16.1.1,()),y1.2.2.2.1.2.1,y1.2.2.2.1.2.2.1,()),y1.2.2.2.2.1,y2,())]:(List ab)) 120 fun y16=>bo x0 x1 x2 x3 (gt_ gu_ (x4+1)) y16 else if(y1.1 == 3)=true then if(y1.1 == 2)=true then if x3=true then(iq y1.2.2.2.1.1.2.1 x1 (gt_ gu_ ((gt_ gu_ (x1+x2)) - 1))).bind fun z22=>(fh y1.2.2.2.1.1.2.1 x1 x2 x3 x1).bind fun z23=>if(y1.1 == 3)=true then(fh y1.2.2.2.2.1.1.2.1 x1 x2 x3 (gt_ gu_ (x1 - 1))).bind fun z24=>if z22.1.1=true then(dB).bind fun z25=>app x5 ([z25.1.1]:(List ab)) 120 fun y17=>bo x0 x1 x2 x3 (gt_ gu_ (x4+1)) y17 else(bH (y1.1,y1.2.1,y1.2.2.1,((y1.2.2.2.1.1.1,z23.1.1,()),y1.2.2.2.1.2.1,y1.2.2.2.1.2.2.1,()),((y1.2.2.2.2.1.1.1,z24.1.1,()),y1.2.2.2.2.1.2.1,y1.2.2.2.2.1.2.2.1,()),y2,())).bind fun z26=>if(!z26.1.1)=true then(dB).bind fun z27=>app x5 ([z27.1.1]:(List ab)) 120 fun y18=>bo x0 x1 x2 x3 (gt_ gu_ (x4+1)) y18 else app x5 ([(y1.1,y1.2.1,y1.2.2.1,((y1.2.2.2.1.1.1,z23.1.1,()),y1.2.2.2.1.2.1,y1.2.2.2.1.2.2.1,()),((y1.2.2.2.2.1.1.1,z24.1.1,()),y1.2.2.2.2.1.2.1,y1.2.2.2.2.1.2.2.1,()),y2,())]:(List ab)) 120 fun y19=>bo x0 x1 x2 x3 (gt_ gu_ (x4+1)) y19 else if z22.1.1=true then(dB).bind fun z28=>app x5 ([z28.1.1]:(List ab)) 120 fun y20=>bo x0 x1 x2 x3 (gt_ gu_ (x4+1)) y20 else(bH (y1.1,y1.2.1,y1.2.2.1,((y1.2.2.2.1.1.1,z23.1.1,()),y1.2.2.2.1.2.1,y1.2.2.2.1.2.2.1,()),y1.2.2.2.2.1,y2,())).bind fun z29=>if(!z29.1.1)=true then(dB).bind fun z30=>app x5 ([z30.1.1]:(List ab)) 120 fun y21=>bo x0 x1 x2 x3 (gt_ gu_ (x4+1)) y21 else app x5 ([(y1.1,y1.2.1,y1.2.2.1,((y1.2.2.2.1.1.1,z23.1.1,()),y1.2.2.2.1.2.1,y1.2.2.2.1.2.2.1,()),y1.2.2.2.2.1,y2,())]:(List ab)) 120 fun y22=>bo x0 x1 x2 x3 (gt_ gu_ (x4+1)) y22 else(fh y1.2.2.2.1.1.2.1 x1 x2 x3 x1).bind fun z31=>if(y1.1 == 3)=true then(fh y1.2.2.2.2.1.1.2.1 x1 x2 x3 (gt_ gu_ (x1 - 1))).bind fun z32=>(bH (y1.1,y1.2.1,y1.2.2.1,((y1.2.2.2.1.1.1,z31.1.1,()),y1.2.2.2.1.2.1,y1.2.2.2.1.2.2.1,()),((y1.2.2.2.2.1.1.1,z32.1.1,()),y1.2.2.2.2.1.2.1,y1.2.2.2.2.1.2.2.1,()),y2,())).bind fun z33=>if(!z33.1.1)=true then(dB).bind fun z34=>app x5 ([z34.1.1]:(List ab)) 120 fun y23=>bo x0 x1 x2 x3 (gt_ gu_ (x4+1)) y23 else app x5 ([(y1.1,y1.2.1,y1.2.2.1,((y1.2.2.2.1.1.1,z31.1.1,()),y1.2.2.2.1.2.1,y1.2.2.2.1.2.2.1,()),((y1.2.2.2.2.1.1.1,z32.1.1,()),y1.2.2.2.2.1.2.1,y1.2.2.2.2.1.2.2.1,()),y2,())]:(List ab)) 120 fun y24=>bo x0 x1 x2 x3 (gt_ gu_ (x4+1)) y24 else(bH (y1.1,y1.2.1,y1.2.2.1,((y1.2.2.2.1.1.1,z31.1.1,()),y1.2.2.2.1.2.1,y1.2.2.2.1.2.2.1,()),y1.2.2.2.2.1,y2,())).bind fun z35=>if(!z35.1.1)=true then(dB).bind fun z36=>app x5 ([z36.1.1]:(List ab)) 120 fun y25=>bo x0 x1 x2 x3 (gt_ gu_ (x4+1)) y25 else app x5 ([(y1.1,y1.2.1,y1.2.2.1,((y1.2.2.2.1.1.1,z31.1.1,()),y1.2.2.2.1.2.1,y1.2.2.2.1.2.2.1,()),y1.2.2.2.2.1,y2,())]:(List ab)) 120 fun y26=>bo x0 x1 x2 x3 (gt_ gu_ (x4+1)) y26 else(fh y1.2.2.2.1.1.2.1 x1 x2 x3 x1).bind fun z37=>if(y1.1 == 3)=true then(fh y1.2.2.2.2.1.1.2.1 x1 x2 x3 (gt_ gu_ (x1 - 1))).bind fun z38=>(bH (y1.1,y1.2.1,y1.2.2.1,((y1.2.2.2.1.1.1,z37.1.1,()),y1.2.2.2.1.2.1,y1.2.2.2.1.2.2.1,()),((y1.2.2.2.2.1.1.1,z38.1.1,()),y1.2.2.2.2.1.2.1,y1.2.2.2.2.1.2.2.1,()),y2,())).bind fun z39=>if(!z39.1.1)=true then(dB).bind fun z40=>app x5 ([z40.1.1]:(List ab)) 120 fun y27=>bo x0 x1 x2 x3 (gt_ gu_ (x4+1)) y27 else app x5 ([(y1.1,y1.2.1,y1.2.2.1,((y1.2.2.2.1.1.1,z37.1.1,()),y1.2.2.2.1.2.1,y1.2.2.2.1.2.2.1,()),((y1.2.2.2.2.1.1.1,z38.1.1,()),y1.2.2.2.2.1.2.1,y1.2.2.2.2.1.2.2.1,()),y2,())]:(List ab)) 120 fun y28=>bo x0 x1 x2 x3 (gt_ gu_ (x4+1)) y28 else(bH (y1.1,y1.2.1,y1.2.2.1,((y1.2.2.2.1.1.1,z37.1.1,()),y1.2.2.2.1.2.1,y1.2.2.2.1.2.2.1,()),y1.2.2.2.2.1,y2,())).bind fun z41=>if(!z41.1.1)=true then(dB).bind fun z42=>app x5 ([z42.1.1]:(List ab)) 120 fun y29=>bo x0 x1 x2 x3 (gt_ gu_ (x4+1)) y29 else app x5 ([(y1.1,y1.2.1,y1.2.2.1,((y1.2.2.2.1.1.1,z37.1.1,()),y1.2.2.2.1.2.1,y1.2.2.2.1.2.2.1,()),y1.2.2.2.2.1,y2,())]:(List ab)) 120 fun y30=>bo x0 x1 x2 x3 (gt_ gu_ (x4+1)) y30 else app x5 ([(y1.1,y1.2.1,y1.2.2.1,y1.2.2.2.1,y1.2.2.2.2.1,y2,())]:(List ab)) 120 fun y31=>bo x0 x1 x2 x3 (gt_ gu_ (x4+1)) y31 else some ((x5,()),()):=bM
theorem zA {x0 x1 x2 x3 x4 x5 x6 x7 x8}:gk x0 x1 x2 x3 x4 x5 x6 x7 x8=if(decide (x1 < (ac_ x0:Int)))=true then ix x0 x1 (ak.dflt) fun y1=>if(x2 == 4)=true then(iq y1.1.2.1 x6 (gt_ gu_ ((gt_ gu_ (x6+x7)) - 1))).bind fun z1=>if z1.1.1=true then gk x0 (gt_ gu_ (x1+1)) x2 x3 x4 x5 x6 x7 x8 else(fh y1.1.2.1 x6 x7 (x2 == 4) 0).bind fun z2=>(mz y1.2.1).bind fun z3=>if z3.1.2.1=true then(sM z3.1.1 x6 x7 (x2 == 4)).bind fun z4=>(oA z4.1.1 true).bind fun z5=>if(Z6 z5.1.1 == Z6 ⟨#[]⟩)=true then some ((([]:(List ac)),false,()),()) else(c7 (y1.1.1,z2.1.1,())).bind fun z6=>if(!z6.1.1)=true then some ((([]:(List ac)),false,()),()) else app x8 ([((y1.1.1,z2.1.1,()),z5.1.1,())]:(List ac)) 32 fun y2=>gk x0 (gt_ gu_ (x1+1)) x2 x3 x4 x5 x6 x7 y2 else if(Z6 y1.2.1 == Z6 ⟨#[]⟩)=true then some ((([]:(List ac)),false,()),()) else(c7 (y1.1.1,z2.1.1,())).bind fun z7=>if(!z7.1.1)=true then some ((([]:(List ac)),false,()),()) else app x8 ([((y1.1.1,z2.1.1,()),y1.2.1,())]:(List ac)) 32 fun y3=>gk x0 (gt_ gu_ (x1+1)) x2 x3 x4 x5 x6 x7 y3 else(fh y1.1.2.1 x6 x7 (x2 == 4) 0).bind fun z8=>(mz y1.2.1).bind fun z9=>if z9.1.2.1=true then(sM z9.1.1 x6 x7 (x2 == 4)).bind fun z10=>(oA z10.1.1 true).bind fun z11=>if(Z6 z11.1.1 == Z6 ⟨#[]⟩)=true then some ((([]:(List ac)),false,()),()) else(c7 (y1.1.1,z8.1.1,())).bind fun z12=>if(!z12.1.1)=true then some ((([]:(List ac)),false,()),()) else app x8 ([((y1.1.1,z8.1.1,()),z11.1.1,())]:(List ac)) 32 fun y4=>gk x0 (gt_ gu_ (x1+1)) x2 x3 x4 x5 x6 x7 y4 else if(Z6 y1.2.1 == Z6 ⟨#[]⟩)=true then some ((([]:(List ac)),false,()),()) else(c7 (y1.1.1,z8.1.1,())).bind fun z13=>if(!z13.1.1)=true then some ((([]:(List ac)),false,()),()) else app x8 ([((y1.1.1,z8.1.1,()),y1.2.1,())]:(List ac)) 32 fun y5=>gk x0 (gt_ gu_ (x1+1)) x2 x3 x4 x5 x6 x7 y5 else some ((x8,true,()),()):=bM
theorem xl {x0 x1 x2 x3 x4}:eI x0 x1 x2 x3 x4=if(decide (x3 < (ac_ x0:Int)))=true then ix x0 x3 (af.dflt) fun y1=>app ([]:(List Int)) y1.2.2.2.2.2.1 8 fun y2=>if(y1.1 == 2)=true then(n7 y1.2.2.2.1 x1 x2).bind fun z1=>if(y1.1 == 3)=true then(n7 z1.1.1 x1 x2).bind fun z2=>(n7 y1.2.2.2.2.1 x1 x2).bind fun z3=>(bH (y1.1,y1.2.1,y1.2.2.1,z2.1.1,z3.1.1,y2,())).bind fun z4=>if(!z4.1.1)=true then(dB).bind fun z5=>app x4 ([z5.1.1]:(List ab)) 120 fun y3=>eI x0 x1 x2 (gt_ gu_ (x3+1)) y3 else app x4 ([(y1.1,y1.2.1,y1.2.2.1,z2.1.1,z3.1.1,y2,())]:(List ab)) 120 fun y4=>eI x0 x1 x2 (gt_ gu_ (x3+1)) y4 else(bH (y1.1,y1.2.1,y1.2.2.1,z1.1.1,y1.2.2.2.2.1,y2,())).bind fun z6=>if(!z6.1.1)=true then(dB).bind fun z7=>app x4 ([z7.1.1]:(List ab)) 120 fun y5=>eI x0 x1 x2 (gt_ gu_ (x3+1)) y5 else app x4 ([(y1.1,y1.2.1,y1.2.2.1,z1.1.1,y1.2.2.2.2.1,y2,())]:(List ab)) 120 fun y6=>eI x0 x1 x2 (gt_ gu_ (x3+1)) y6 else if(y1.1 == 3)=true then(n7 y1.2.2.2.1 x1 x2).bind fun z8=>(n7 y1.2.2.2.2.1 x1 x2).bind fun z9=>(bH (y1.1,y1.2.1,y1.2.2.1,z8.1.1,z9.1.1,y2,())).bind fun z10=>if(!z10.1.1)=true then(dB).bind fun z11=>app x4 ([z11.1.1]:(List ab)) 120 fun y7=>eI x0 x1 x2 (gt_ gu_ (x3+1)) y7 else app x4 ([(y1.1,y1.2.1,y1.2.2.1,z8.1.1,z9.1.1,y2,())]:(List ab)) 120 fun y8=>eI x0 x1 x2 (gt_ gu_ (x3+1)) y8 else(bH (y1.1,y1.2.1,y1.2.2.1,y1.2.2.2.1,y1.2.2.2.2.1,y2,())).bind fun z12=>if(!z12.1.1)=true then(dB).bind fun z13=>app x4 ([z13.1.1]:(List ab)) 120 fun y9=>eI x0 x1 x2 (gt_ gu_ (x3+1)) y9 else app x4 ([(y1.1,y1.2.1,y1.2.2.1,y1.2.2.2.1,y1.2.2.2.2.1,y2,())]:(List ab)) 120 fun y10=>eI x0 x1 x2 (gt_ gu_ (x3+1)) y10 else some ((x4,true,()),()):=bM
theorem zB {x0 x1 x2 x3 x4 x5 x6 x7 x8 x9 x10 x11 x12}:mB x0 x1 x2 x3 x4 x5 x6 x7 x8 x9 x10 x11 x12=if(decide (x3 < (ac_ x0:Int)))=true then ix x0 x3 (ak.dflt) fun y1=>(lT y1.1 (x5,(x10,x11,()),())).bind fun z1=>if(!z1.1.1)=true then ix x0 x3 (ak.dflt) fun y2=>app x12 ([y2]:(List ac)) 32 fun y3=>mB x0 x1 x2 (gt_ gu_ (x3+1)) x4 x5 x6 x7 x8 x9 x10 x11 y3 else mB x0 x1 x2 (gt_ gu_ (x3+1)) x4 x5 x6 x7 x8 x9 x10 x11 x12 else jL x0 x1 x2 0 x4 x5 x6 x7 x8 x9 x12:=bM
theorem t8 {x0 x1 x2 x3 x4 x5 x6 x7 x8}:kT x0 x1 x2 x3 x4 x5 x6 x7 x8=if(decide (x1 < (ac_ x0:Int)))=true then ix x0 x1 (ak.dflt) fun y1=>(lT y1.1 x5).bind fun z1=>if(!z1.1.1)=true then ix x0 x1 (ak.dflt) fun y2=>app x8 ([y2]:(List ac)) 32 fun y3=>kT x0 (gt_ gu_ (x1+1)) x2 x3 x4 x5 x6 x7 y3 else kT x0 (gt_ gu_ (x1+1)) x2 x3 x4 x5 x6 x7 x8 else some ((x8,true,()),()):=bM
theorem DW {x0 x1 x2}:nL x0 x1 x2=if(decide (x2 < (ac_ x0:Int)))=true then ix x0 x2 (ak.dflt) fun y1=>ix x1 x2 (ak.dflt) fun y2=>if(! (bP ak y1 y2))=true then some ((false,()),()) else nL x0 x1 (gt_ gu_ (x2+1)) else some ((true,()),()):=bM
theorem xm {x0 x1 x2}:lg x0 x1 x2=if(decide (x1 < (ac_ x0:Int)))=true then ix x0 x1 (af.dflt) fun y1=>if(y1.1 == 2)=true then ix x0 x1 (af.dflt) fun y2=>ix x0 x1 (af.dflt) fun y3=>app x2 ([(y2.2.2.2.1.1,y3.2.2.2.1.1,())]:(List aB)) 32 fun y4=>lg x0 (gt_ gu_ (x1+1)) y4 else if(y1.1 == 3)=true then ix x0 x1 (af.dflt) fun y5=>ix x0 x1 (af.dflt) fun y6=>app x2 ([(y5.2.2.2.1.1,y6.2.2.2.2.1.1,())]:(List aB)) 32 fun y7=>lg x0 (gt_ gu_ (x1+1)) y7 else lg x0 (gt_ gu_ (x1+1)) x2 else some ((x2,()),()):=bM
theorem xn {x0 x1 x2 x3}:lh x0 x1 x2 x3=if(decide (x2 < x1))=true then ix x0 x2 (af.dflt) fun y1=>if(y1.1 == 2)=true then(jK y1).bind fun z1=>app x3 ([z1.1.1]:(List aB)) 32 fun y2=>lh x0 x1 (gt_ gu_ (x2+1)) y2 else if(y1.1 == 3)=true then(jK y1).bind fun z2=>app x3 ([z2.1.1]:(List aB)) 32 fun y3=>lh x0 x1 (gt_ gu_ (x2+1)) y3 else lh x0 x1 (gt_ gu_ (x2+1)) x3 else some ((x3,()),()):=bM
theorem mM {x0 x1 x2 x3 x4}:eZ x0 x1 x2 x3 x4=if(decide (x2 < x1))=true then ix x0 x2 (bC.dflt) fun y1=>(OT y1 x3 x4).bind fun z1=>if z1.1.1=true then some ((x2,()),(z1.2.1,())) else ca x0 x1 (gt_ gu_ (x2+1)) z1.2.1 else some (((-1),()),((x3,x4,()),())):=bM
theorem u4 {x0 x1 x2 x3 x4 x5 x6 x7 x8 x9}:lV x0 x1 x2 x3 x4 x5 x6 x7 x8 x9=if(decide (x3 < x2))=true then ix x1 x3 (ak.dflt) fun y1=>(my y1.2.1).bind fun z1=>(DL z1.1.1).bind fun z2=>lY x0 x1 x2 x3 x0 (ac_ x0:Int) 0 x4 z1.1.1 z2.1.1 ([]:(List Int)) x5 x6 x7 x8 x9 else some (((x4,x8,x9,()),()),()):=bM
theorem pM {x0 x1 x2 x3 x4 x5 x6}:gd x0 x1 x2 x3 x4 x5 x6=if(decide (x1 < (ac_ x6:Int)))=true then inb x6 x1 (if((aw_ x6 (an_ x1) 0) == x0)=true then some ((true,()),()) else inb x5 (aw_ x6 (an_ x1) 0) (if(! (aw_ x5 (an_ (aw_ x6 (an_ x1) 0)) false))=true then inb x5 (aw_ x6 (an_ x1) 0) (ix x4 (aw_ x6 (an_ x1) 0) ([]:(List Int)) fun y1=>app x6 y1 8 fun y2=>gd x0 (gt_ gu_ (x1+1)) x2 x3 x4 (ee_ x5 (an_ (aw_ x6 (an_ x1) 0)) true) y2) else gd x0 (gt_ gu_ (x1+1)) x2 x3 x4 x5 x6)) else some ((false,()),()):=bM
theorem lq {x0 x1 x2 x3 x4 x5 x6 x7 x8}:ep x0 x1 x2 x3 x4 x5 x6 x7 x8=if(decide (x3 < x2))=true then ix x1 x3 0 fun y1=>(cN y1 x4 x5 x6 x7 x8).bind fun z1=>bT x0 x1 x2 (gt_ gu_ (x3+1)) z1.2.2.1 z1.2.1 z1.2.2.2.1 else ix x5 x0 ([]:(List ab)) fun y2=>(uR y2 x8).bind fun z2=>inb x8 x0 (rB (ao.dflt) x8 x0 (fun e=>(e.1,z2.1.1,())) fun w3=>some ((),(x7,(x4,x5,x6,()),w3,()))):=bM
theorem fM {x0 x1 x2 x3 x4 x5 x6}:cn x0 x1 x2 x3 x4 x5 x6=if(decide (x3 < x2))=true then ix x1 x3 0 fun y1=>(bE y1 x4 x5 x6).bind fun z1=>bT x0 x1 x2 (gt_ gu_ (x3+1)) z1.2.2.1 z1.2.1 z1.2.2.2.1 else ix x4.2.1 x0 ([]:(List ab)) fun y2=>(uR y2 x6).bind fun z2=>inb x6 x0 (rB (ao.dflt) x6 x0 (fun e=>(e.1,z2.1.1,())) fun w3=>some ((),(x5,x4,w3,()))):=bM
theorem zC {x0 x1 x2 x3 x4 x5 x6 x7}:sj x0 x1 x2 x3 x4 x5 x6 x7=if(decide (x2 < x1))=true then ix x0 x2 (ao.dflt) fun y1=>if(bP aK y1.1 (x3,x4,()))=true then some ((y1.2.1,()),()) else sj x0 x1 (gt_ gu_ (x2+1)) x3 x4 x5 x6 x7 else some (((0,0,⟨#[]⟩,()),()),()):=bM
theorem u5 {x0 x1 x2 x3 x4 x5}:kb x0 x1 x2 x3 x4 x5=if(decide (x4 < x3))=true then ix x2 x4 0 fun y1=>ix x0 y1 (af.dflt) fun y2=>if(y2.1 != 3)=true then(jv x0 y1 x1).bind fun z1=>app x5 ([z1.1.1]:(List ae)) 32 fun y3=>kb x0 x1 x2 x3 (gt_ gu_ (x4+1)) y3 else iY x0 x1 y1 x2 x3 x4 x1 (ac_ x1:Int) 0 x5 else some ((x5,()),()):=bM
theorem u6 {x0 x1 x2 x3 x4 x5 x6 x7 x8}:iW x0 x1 x2 x3 x4 x5 x6 x7 x8=if(decide (x5 < x4))=true then ix x3 x5 (aq.dflt) fun y1=>(tK y1).bind fun z1=>if(!z1.1.2.1)=true then(jw y1).bind fun z2=>some ((z2.1.1,()),()) else if x1=true then if x2=true then iW x0 z1.1.1 true x3 x4 (gt_ gu_ (x5+1)) x6 x7 x8 else iW x0 z1.1.1 z1.1.1 x3 x4 (gt_ gu_ (x5+1)) x6 x7 x8 else if x2=true then iW x0 false true x3 x4 (gt_ gu_ (x5+1)) x6 x7 x8 else iW x0 false z1.1.1 x3 x4 (gt_ gu_ (x5+1)) x6 x7 x8 else if(x0 == 6)=true then(lR x1).bind fun z3=>some ((z3.1.1,()),()) else(lR x2).bind fun z4=>some ((z4.1.1,()),()):=bM
theorem SZ {x0 x1}:SC x0 x1=(n8 (gt_ gu_ (x0+x1))).bind fun z1=>some ((z1.1.1,()),()):=av
theorem zD {x0 x1 x2 x3 x4 x5 x6 x7 x8}:pl x0 x1 x2 x3 x4 x5 x6 x7 x8=if(decide (x2 < x1))=true then ix x0 x2 (aq.dflt) fun y1=>if(y1.1 == 4)=true then some ((y1,()),()) else if(y1.1 == 1)=true then(K4 (x6,x7,x8,()) y1).bind fun z1=>if(z1.1.1.1 == 4)=true then some ((z1.1.1,()),()) else pl x0 x1 (gt_ gu_ (x2+1)) x3 x4 x5 z1.1.1.1 z1.1.1.2.1 z1.1.1.2.2.1 else if(x6 == 4)=true then some (((x6,x7,x8,()),()),()) else pl x0 x1 (gt_ gu_ (x2+1)) x3 x4 x5 x6 x7 x8 else some (((x6,x7,x8,()),()),()):=bM
theorem u7 {x0 x1 x2 x3 x4 x5 x6 x7 x8 x9}:fy x0 x1 x2 x3 x4 x5 x6 x7 x8 x9=if(decide (x6 < x5))=true then ix x4 x6 (aq.dflt) fun y1=>if(y1.1 == 4)=true then if(x0 != 4)=true then some ((y1,()),()) else if(y1.1 != 1)=true then fy x0 x1 x2 x3 x4 x5 (gt_ gu_ (x6+1)) x7 x8 x9 else if(x3 == 0)=true then fy x0 (if y1.2.1 < y1.2.1 then y1.2.1 else y1.2.1) (if y1.2.1 < y1.2.1 then y1.2.1 else y1.2.1) (gt_ gu_ (x3+1)) x4 x5 (gt_ gu_ (x6+1)) x7 x8 x9 else fy x0 (if y1.2.1 < x1 then y1.2.1 else x1) (if x2 < y1.2.1 then y1.2.1 else x2) (gt_ gu_ (x3+1)) x4 x5 (gt_ gu_ (x6+1)) x7 x8 x9 else if(y1.1 != 1)=true then fy x0 x1 x2 x3 x4 x5 (gt_ gu_ (x6+1)) x7 x8 x9 else if(x3 == 0)=true then fy x0 (if y1.2.1 < y1.2.1 then y1.2.1 else y1.2.1) (if y1.2.1 < y1.2.1 then y1.2.1 else y1.2.1) (gt_ gu_ (x3+1)) x4 x5 (gt_ gu_ (x6+1)) x7 x8 x9 else fy x0 (if y1.2.1 < x1 then y1.2.1 else x1) (if x2 < y1.2.1 then y1.2.1 else x2) (gt_ gu_ (x3+1)) x4 x5 (gt_ gu_ (x6+1)) x7 x8 x9 else if(x0 == 2)=true then(jl x1).bind fun z1=>some ((z1.1.1,()),()) else if(x0 == 3)=true then(jl x2).bind fun z2=>some ((z2.1.1,()),()) else(jl x3).bind fun z3=>some ((z3.1.1,()),()):=bM
theorem NT {x0 x1}:Lf x0 x1=if(x1 != 0)=true then nz (if x1 < (gt_ gu_ (0 - x1)) then IntKind.i64.wrap (0 - x1) else x1) (if(decide ((if x0 < (gt_ gu_ (0 - x0)) then IntKind.i64.wrap (0 - x0) else x0) > (gt_ gu_ (ef_ 1000000000000000 (if x1 < (gt_ gu_ (0 - x1)) then IntKind.i64.wrap (0 - x1) else x1)))))=true then(dG 4).bind fun z1=>some ((z1.1.1,()),()) else(n8 (gt_ gu_ (x0*x1))).bind fun z2=>some ((z2.1.1,()),())) else(n8 (gt_ gu_ (x0*x1))).bind fun z3=>some ((z3.1.1,()),()):=av
theorem QL {x0 x1}:OX x0 x1=if(x1 == 0)=true then(dG 1).bind fun z1=>some ((z1.1.1,()),()) else nz x1 ((n8 (gt_ gu_ (ef_ x0 x1))).bind fun z2=>some ((z2.1.1,()),())):=av
theorem pN {x0 x1 x2 x3 x4 x5 x6 x7 x8}:iX x0 x1 x2 x3 x4 x5 x6 x7 x8=if(decide (x3 < x2))=true then ix x1 x3 (ak.dflt) fun y1=>ix x0 x3 (aq.dflt) fun y2=>inb x8 x3 (iX x0 x1 x2 (gt_ gu_ (x3+1)) x4 x5 x6 x7 (ee_ x8 (an_ x3) (y1.1,y2,()))) else jU (ac_ x8:Int) 0 x8 x4 x5 x6 x7:=bM
theorem u9 {x0 x1 x2 x3}:lW x0 x1 x2 x3=if(decide (x3 < x2))=true then ix x1 x3 (ao.dflt) fun y1=>(gA y1.1).bind fun z1=>if(!z1.1.1)=true then some ((false,()),()) else if(decide (x3 > 0))=true then ix x0 (gt_ gu_ (x3 - 1)) (ao.dflt) fun y2=>(lQ y2.1 y1.1).bind fun z2=>if(decide (z2.1.1≥0))=true then some ((false,()),()) else(dc y1.2.1).bind fun z3=>if(!z3.1.1)=true then some ((false,()),()) else lW x0 x1 x2 (gt_ gu_ (x3+1)) else(dc y1.2.1).bind fun z4=>if(!z4.1.1)=true then some ((false,()),()) else lW x0 x1 x2 (gt_ gu_ (x3+1)) else some (((decide ((ac_ x0:Int)≤120)),()),()):=bM
theorem pO {x0 x1 x2 x3 x4}:ge x0 x1 x2 x3 x4=if(decide (x2 < (ac_ x3:Int)))=true then inb x3 x2 ((iP (aw_ x3 (an_ x2) (ak.dflt)).2.1).bind fun z1=>inb x3 x2 (ex (aw_ x3 (an_ x2) (ak.dflt)).2.1 0 fun y1=>if(y1 == 61)=true then inb x3 x2 (iJ (aw_ x3 (an_ x2) (ak.dflt)).2.1 1 fun y2=>(iP y2).bind fun z2=>(GL z2.1.1 x0 x1).bind fun z3=>if(!z2.1.2.1)=true then some ((true,()),()) else(yy z2.1.1).bind fun z4=>(yy z3.1.1).bind fun z5=>if((ac_ z4.1.1:Int) != (ac_ z5.1.1:Int))=true then some ((true,()),()) else ge x0 x1 (gt_ gu_ (x2+1)) x3 x4) else ge x0 x1 (gt_ gu_ (x2+1)) x3 x4)) else(uS x3).bind fun z6=>(uS x4).bind fun z7=>iZ x0 x1 0 z6.1.1 z7.1.1:=bM
theorem m9 {x0 x1 x2 x3 x4 x5}:dl x0 x1 x2 x3 x4 x5=if(!x3)=true then(ra x1 x2 x3 x5).bind fun z1=>app x4 ([z1.1.1]:(List Int)) 8 fun y1=>(dX ⟨#[41]⟩ z1.2.1.1 z1.2.1.2.1 z1.2.1.2.2.1 z1.2.1.2.2.2.1).bind fun z2=>if z2.1.1=true then(cm (6,x0,(0,0,⟨#[]⟩,()),((0,0,()),false,false,()),((0,0,()),false,false,()),y1,()) z2.2.1.1 z2.2.1.2.1 z2.2.1.2.2.1 z2.2.1.2.2.2.1).bind fun z3=>some ((z3.1.1,()),(z3.2.1,())) else(dX ⟨#[44]⟩ z2.2.1.1 z2.2.1.2.1 z2.2.1.2.2.1 z2.2.1.2.2.2.1).bind fun z4=>if(!z4.1.1)=true then dl x0 z4.2.1.1 z4.2.1.2.1 true y1 z4.2.1.2.2.2.1 else dl x0 z4.2.1.1 z4.2.1.2.1 z4.2.1.2.2.1 y1 z4.2.1.2.2.2.1 else some ((0,()),((x1,x2,x3,x5,()),())):=bM
theorem va {x0 x1 x2 x3 x4 x5 x6}:lX x0 x1 x2 x3 x4 x5 x6=if(decide (x1 < (ac_ x5:Int)))=true then inb x5 x1 ((tF (aw_ x5 (an_ x1) 0)).bind fun z1=>if(z1.1.1 == x0)=true then inb x5 x1 ((lf (aw_ x5 (an_ x1) 0)).bind fun z2=>(dX z2.1.1 x2 x3 x4 x6).bind fun z3=>if z3.1.1=true then inb x5 x1 (some (((aw_ x5 (an_ x1) 0),()),(z3.2.1,()))) else lX x0 (gt_ gu_ (x1+1)) z3.2.1.1 z3.2.1.2.1 z3.2.1.2.2.1 x5 z3.2.1.2.2.2.1) else lX x0 (gt_ gu_ (x1+1)) x2 x3 x4 x5 x6) else some ((0,()),((x2,x3,x4,x6,()),())):=bM
theorem ua {x0 x1 x2}:kU x0 x1 x2=ix x0 x1 (af.dflt) fun y1=>if(decide (x2 < (ac_ y1.2.2.2.2.2.1:Int)))=true then ix x0 x1 (af.dflt) fun y2=>ix y2.2.2.2.2.2.1 x2 0 fun y3=>(iq y3 0 (gt_ gu_ (x1 - 1))).bind fun z1=>if(!z1.1.1)=true then some ((false,()),()) else ix x0 y3 (af.dflt) fun y4=>if(y4.1 == 3)=true then ix x0 x1 (af.dflt) fun y5=>if(y5.1 != 6)=true then some ((false,()),()) else kU x0 x1 (gt_ gu_ (x2+1)) else kU x0 x1 (gt_ gu_ (x2+1)) else eT x0 (gt_ gu_ (x1+1)):=bM
theorem pq {x0 x1 x2 x3 x4 x5 x6 x7}:cF x0 x1 x2 x3 x4 x5 x6 x7=if(decide (x4≤11))=true then(pi x5 x6 x7).bind fun z1=>(wU x4).bind fun z2=>if(Z6 z1.1.1 == Z6 z2.1.1)=true then cF x0 x1 x2 x4 (gt_ gu_ (x4+1)) z1.2.1.1 z1.2.1.2.2.1 z1.2.1.2.1 else cF x0 x1 x2 x3 (gt_ gu_ (x4+1)) z1.2.1.1 z1.2.1.2.2.1 z1.2.1.2.1 else if(x3 == 0)=true then some ((x2,()),((x5,x7,x6,()),())) else(AQ x3).bind fun z3=>if(decide (z3.1.1 < x0))=true then some ((x2,()),((x5,x7,x6,()),())) else(wU x3).bind fun z4=>(bn z4.1.1 x5 x6 x7).bind fun z5=>(AQ x3).bind fun z6=>(bv (gt_ gu_ (z6.1.1+1)) x1 z5.2.1.1 z5.2.1.2.2.1 z5.2.1.2.1).bind fun z7=>(aI (5,x3,(0,0,⟨#[]⟩,()),((0,0,()),false,false,()),((0,0,()),false,false,()),([x2,z7.1.1]:(List Int)),()) z7.2.1.1 z7.2.1.2.2.1 z7.2.1.2.1).bind fun z8=>cE x0 x1 z8.1.1 z8.2.1.1 z8.2.1.2.2.1 z8.2.1.2.1:=bM
end Go.Proofs.YtipnjpfdlolhmaaGreatDoor.Abs
namespace Go.Proofs.YtipnjpfdlolhmaaGreatDoor.Abs
open Go Go.Proofs.YtipnjpfdlolhmaaGreatDoor
theorem kV {x0 x1 x2 x3}:co x0 x1 x2 x3=if(decide (x2 < x1))=true then ix x0 x2 (ak.dflt) fun y1=>(vP y1 x3).bind fun z1=>if z1.1.1=true then some ((x2,()),(z1.2.1,())) else co x0 x1 (gt_ gu_ (x2+1)) z1.2.1 else some (((-1),()),(x3,())):=bM
theorem kW {x0 x1 x2 x3}:cp x0 x1 x2 x3=if(decide (x2 < x1))=true then ix x0 x2 (ak.dflt) fun y1=>(qM y1 x3).bind fun z1=>if z1.1.1=true then some ((x2,()),(z1.2.1,())) else cp x0 x1 (gt_ gu_ (x2+1)) z1.2.1 else some (((-1),()),(x3,())):=bM
theorem zE {x0 x1 x2 x3 x4}:da x0 x1 x2 x3 x4=if(decide (x2 < x1))=true then ix x0 x2 (ak.dflt) fun y1=>if(decide (y1.1.2.1 < x3.2.2.2.2.1))=true then(en y1.2.1 x3).bind fun z1=>if(!z1.1.2.1)=true then some ((([]:(List ac)),false,()),()) else(gA y1.1).bind fun z2=>if(!z2.1.1)=true then some ((([]:(List ac)),false,()),()) else app x4 ([(y1.1,z1.1.1,())]:(List ac)) 32 fun y2=>da x0 x1 (gt_ gu_ (x2+1)) z1.2.1 y2 else if(x3.1 == 3)=true then(en y1.2.1 x3).bind fun z3=>if(!z3.1.2.1)=true then some ((([]:(List ac)),false,()),()) else(gA (y1.1.1,(gt_ gu_ (y1.1.2.1+x3.2.2.2.2.2.1)),())).bind fun z4=>if(!z4.1.1)=true then some ((([]:(List ac)),false,()),()) else app x4 ([((y1.1.1,(gt_ gu_ (y1.1.2.1+x3.2.2.2.2.2.1)),()),z3.1.1,())]:(List ac)) 32 fun y3=>da x0 x1 (gt_ gu_ (x2+1)) z3.2.1 y3 else if(decide (y1.1.2.1 < (gt_ gu_ (x3.2.2.2.2.1+x3.2.2.2.2.2.1))))=true then da x0 x1 (gt_ gu_ (x2+1)) x3 x4 else(en y1.2.1 x3).bind fun z5=>if(!z5.1.2.1)=true then some ((([]:(List ac)),false,()),()) else(gA (y1.1.1,(gt_ gu_ (y1.1.2.1 - x3.2.2.2.2.2.1)),())).bind fun z6=>if(!z6.1.1)=true then some ((([]:(List ac)),false,()),()) else app x4 ([((y1.1.1,(gt_ gu_ (y1.1.2.1 - x3.2.2.2.2.2.1)),()),z5.1.1,())]:(List ac)) 32 fun y4=>da x0 x1 (gt_ gu_ (x2+1)) z5.2.1 y4 else some ((x4,true,()),()):=bM
theorem lr {x0 x1 x2 x3}:cx x0 x1 x2 x3=if(decide (x2 < x1))=true then ix x0 x2 (ak.dflt) fun y1=>(sd y1 x3).bind fun z1=>if z1.1.1=true then some ((x2,()),(z1.2.1,())) else cx x0 x1 (gt_ gu_ (x2+1)) z1.2.1 else some (((-1),()),(x3,())):=bM
theorem Cy {x0 x1 x2}:mC x0 x1 x2=if(!x0.2.1)=true then if(!x0.2.2.1)=true then some (((((gt_ gu_ (x0.1.1+x1)),(gt_ gu_ (x0.1.2.1+x2)),()),x0.2.1,x0.2.2.1,()),()),()) else some (((((gt_ gu_ (x0.1.1+x1)),x0.1.2.1,()),x0.2.1,x0.2.2.1,()),()),()) else if(!x0.2.2.1)=true then some ((((x0.1.1,(gt_ gu_ (x0.1.2.1+x2)),()),x0.2.1,x0.2.2.1,()),()),()) else some ((x0,()),()):=av
theorem zF {x0 x1 x2}:sk x0 x1 x2=(mC x0.2.2.2.1 x1 x2).bind fun z1=>if(x0.1 == 3)=true then(mC x0.2.2.2.2.1 x1 x2).bind fun z2=>some (((x0.1,x0.2.1,x0.2.2.1,z1.1.1,z2.1.1,x0.2.2.2.2.2.1,()),()),(x1,x2,())) else some (((x0.1,x0.2.1,x0.2.2.1,z1.1.1,x0.2.2.2.2.1,x0.2.2.2.2.2.1,()),()),(x1,x2,())):=av
theorem xo {x0 x1 x2 x3 x4 x5 x6 x7 x8 x9 x10}:jL x0 x1 x2 x3 x4 x5 x6 x7 x8 x9 x10=if(decide (x3 < (ac_ x0:Int)))=true then ix x0 x3 (ak.dflt) fun y1=>(lT y1.1 x7).bind fun z1=>if(!z1.1.1)=true then jL x0 x1 x2 (gt_ gu_ (x3+1)) x4 x5 x6 x7 x8 x9 x10 else ix x0 x3 (ak.dflt) fun y2=>(mz y2.2.1).bind fun z2=>if z2.1.2.1=true then(DJ z2.1.1 x1 x2).bind fun z3=>(oA z3.1.1 z3.1.2.1).bind fun z4=>if(Z6 z4.1.1 == Z6 ⟨#[]⟩)=true then some ((([]:(List ac)),false,()),()) else ix x0 x3 (ak.dflt) fun y3=>ix x0 x3 (ak.dflt) fun y4=>(wS x10 ((gt_ gu_ (y3.1.1+x1)),(gt_ gu_ (y4.1.2.1+x2)),()) z4.1.1).bind fun z5=>jL x0 x1 x2 (gt_ gu_ (x3+1)) x4 x5 x6 x7 x8 x9 z5.1.1 else if(Z6 y2.2.1 == Z6 ⟨#[]⟩)=true then some ((([]:(List ac)),false,()),()) else ix x0 x3 (ak.dflt) fun y5=>ix x0 x3 (ak.dflt) fun y6=>(wS x10 ((gt_ gu_ (y5.1.1+x1)),(gt_ gu_ (y6.1.2.1+x2)),()) y2.2.1).bind fun z6=>jL x0 x1 x2 (gt_ gu_ (x3+1)) x4 x5 x6 x7 x8 x9 z6.1.1 else some ((x10,(decide ((ac_ x10:Int)≤120)),()),()):=bM
theorem gH {x0 x1 x2 x3}:ca x0 x1 x2 x3=if(decide (x2 < x1))=true then ix x0 x2 (bC.dflt) fun y1=>(K3 y1 x3).bind fun z1=>if z1.1.1=true then some ((x2,()),(z1.2.1,())) else ca x0 x1 (gt_ gu_ (x2+1)) z1.2.1 else some (((-1),()),(x3,())):=bM
theorem vb {x0 x1 x2 x3 x4 x5 x6 x7 x8 x9 x10 x11 x12 x13 x14 x15}:lY x0 x1 x2 x3 x4 x5 x6 x7 x8 x9 x10 x11 x12 x13 x14 x15=if(decide (x6 < x5))=true then ix x4 x6 (ak.dflt) fun y1=>(PV x9 y1.1).bind fun z1=>if z1.1.1=true then app x10 ([x6]:(List Int)) 8 fun y2=>lY x0 x1 x2 x3 x4 x5 (gt_ gu_ (x6+1)) x7 x8 x9 y2 x11 x12 x13 x14 x15 else lY x0 x1 x2 x3 x4 x5 (gt_ gu_ (x6+1)) x7 x8 x9 x10 x11 x12 x13 x14 x15 else app x14 ([x8]:(List (List ab))) 24 fun y3=>app x15 ([x10]:(List (List Int))) 24 fun y4=>lV x0 x1 x2 (gt_ gu_ (x3+1)) x7 x11 x12 x13 y3 y4:=bM
theorem dI {x0 x1 x2 x3 x4 x5 x6}:bT x0 x1 x2 x3 x4 x5 x6=if(decide (x3 < x2))=true then ix x1 x3 0 fun y1=>(bE y1 x4 x5 x6).bind fun z1=>bT x0 x1 x2 (gt_ gu_ (x3+1)) z1.2.2.1 z1.2.1 z1.2.2.2.1 else ix x4.2.1 x0 ([]:(List ab)) fun y2=>(uR y2 x6).bind fun z2=>inb x6 x0 (rB (ao.dflt) x6 x0 (fun e=>(e.1,z2.1.1,())) fun w3=>some ((),(x5,x4,w3,()))):=bM
theorem vc {x0 x1 x2 x3 x4 x5 x6 x7 x8 x9}:iY x0 x1 x2 x3 x4 x5 x6 x7 x8 x9=if(decide (x8 < x7))=true then ix x6 x8 (ao.dflt) fun y1=>ix x0 x2 (af.dflt) fun y2=>(jK y2).bind fun z1=>(gD z1.1.1 y1.1).bind fun z2=>if z2.1.1=true then app x9 ([y1.2.1]:(List ae)) 32 fun y3=>iY x0 x1 x2 x3 x4 x5 x6 x7 (gt_ gu_ (x8+1)) y3 else iY x0 x1 x2 x3 x4 x5 x6 x7 (gt_ gu_ (x8+1)) x9 else kb x0 x1 x3 x4 (gt_ gu_ (x5+1)) x9:=bM
theorem yJ {x0 x1 x2 x3 x4 x5 x6}:jU x0 x1 x2 x3 x4 x5 x6=if(decide (x1 < x0))=true then(cN x1 x3 x4 x5 x6 x2).bind fun z1=>gG x0 (gt_ gu_ (x1+1)) z1.2.2.2.1 z1.2.2.1 z1.2.1 else some ((x2,()),()):=bM
theorem pP {x0 x1 x2 x3 x4}:iZ x0 x1 x2 x3 x4=if(decide (x2 < (ac_ x3:Int)))=true then inb x3 x2 (if(decide ((aw_ x3 (an_ x2) (ao.dflt)).1.2.1≥x0))=true then(sN x4 ((aw_ x3 (an_ x2) (ao.dflt)).1.1,(gt_ gu_ ((aw_ x3 (an_ x2) (ao.dflt)).1.2.1+x1)),())).bind fun z1=>inb x3 x2 (if(! (bP aq z1.1.1 (aw_ x3 (an_ x2) (ao.dflt)).2.1))=true then some ((false,()),()) else iZ x0 x1 (gt_ gu_ (x2+1)) x3 x4) else(sN x4 (aw_ x3 (an_ x2) (ao.dflt)).1).bind fun z2=>inb x3 x2 (if(! (bP aq z2.1.1 (aw_ x3 (an_ x2) (ao.dflt)).2.1))=true then some ((false,()),()) else iZ x0 x1 (gt_ gu_ (x2+1)) x3 x4)) else some ((((ac_ x3:Int) == (ac_ x4:Int)),()),()):=bM
theorem ke {x0 x1 x2 x3 x4}:gG x0 x1 x2 x3 x4=if(decide (x1 < x0))=true then(bE x1 x3 x4 x2).bind fun z1=>gG x0 (gt_ gu_ (x1+1)) z1.2.2.2.1 z1.2.2.1 z1.2.1 else some ((x2,()),()):=bM
end Go.Proofs.YtipnjpfdlolhmaaGreatDoor.Abs
set_option linter.unusedSectionVars false
namespace Go.Proofs.YtipnjpfdlolhmaaGreatDoor.Abs
open Go
abbrev eS:Z0:=⟨#[]⟩
theorem G0 (a b:Int):(a == b)=decide (a=b):=rfl
def bA (n lo hi:Int):Bool:=decide (lo≤n∧n≤hi)
theorem gl (n lo hi:Int):eE n lo hi=some ((bA n lo hi,()),()):=by
 rw[Qn]
 unfold bA
 by_cases h:lo≤n <;> simp[h]
theorem eB (n lo hi:Int):iq n lo hi=some ((bA n lo hi,()),()):=by
 rw[U9]
 unfold bA
 by_cases h:lo≤n <;> simp[h]
theorem aH {n lo hi:Int}:bA n lo hi=true↔lo≤n∧n≤hi:=by simp[bA]
def aA (r:aw):Bool:=bA r.1 1 52 && bA r.2.1 1 99
theorem iz (r:aw):c7 r=some ((aA r,()),()):=by
 rw[SK]
 unfold aA
 simp only[eB,Z1]
 cases bA r.1 1 52 <;> simp
theorem l5 (r:aw):gA r=some ((aA r,()),()):=by
 rw[SO]
 unfold aA
 simp only[gl,Z1]
 cases bA r.1 1 52 <;> simp
def cy (a:aB):Bool:=aA a.1 && aA a.2.1 && decide (a.1.1≤a.2.1.1) && decide (a.1.2.1≤a.2.1.2.1)
theorem yK (a:aB):wO a=some ((cy a,()),()):=by
 rw[Qg]
 unfold cy
 simp only[iz,Z1]
 cases aA a.1 <;> cases aA a.2.1 <;> by_cases h:a.1.1≤a.2.1.1 <;> simp[h]
theorem mN (a:aB):qd a=some ((cy a,()),()):=by
 rw[Qs]
 unfold cy
 simp only[l5,Z1]
 cases aA a.1 <;> cases aA a.2.1 <;> by_cases h:a.1.1≤a.2.1.1 <;> simp[h]
def rp (b:Int):Bool:=decide (32≤b∧b≤126)
def plain (s:Z0):Bool:=(mV s).all rp
theorem zG {s:Z0} (hs:s.size≤9223372036854775807) : ∀(ys pre:List Int),mV s=pre++ys→qN s (pre.length:Int)=some ((ys.all rp && decide ((s.size:Int)≤200),()),())
 | [],pre,he=>by
  rw[xf,aL (OZ he)]
  simp
 | y :: ys,pre,he=>by
  rw[xf,aQ (SJ he),A4 he,A4 he,Lj he hs,zG hs ys _ (aU he)]
  by_cases h1:y < 32
  ·have:rp y=false:=by simp[rp]; omega
   simp[h1,this]
  ·by_cases h2:y > 126
   ·have:rp y=false:=by simp[rp]; omega
    simp[h1,h2,this]
   ·have:rp y=true:=by simp[rp]; omega
    simp[h1,h2,this]
theorem qQ {s:Z0} (hs:s.size≤9223372036854775807):tE s=some ((plain s && decide ((s.size:Int)≤200),()),()):=by
 rw[Np]
 exact zG hs (mV s) [] rfl
theorem Bc {s:Z0} {m:Int} (hs:s.size≤9223372036854775807) : ∀(ys pre:List Int),mV s=pre++ys→si s m (s.size:Int) (pre.length:Int)=some ((ys.all rp && decide ((s.size:Int)≤m),()),())
 | [],pre,he=>by
  rw[zx,aL (OZ he)]
  simp
 | y :: ys,pre,he=>by
  rw[zx,aQ (SJ he),A4 he,A4 he,Lj he hs,Bc hs ys _ (aU he)]
  by_cases h1:y < 32
  ·have:rp y=false:=by simp[rp]; omega
   simp[h1,this]
  ·by_cases h2:y > 126
   ·have:rp y=false:=by simp[rp]; omega
    simp[h1,h2,this]
   ·have:rp y=true:=by simp[rp]; omega
    simp[h1,h2,this]
theorem sr {s:Z0} {m:Int} (hs:s.size≤9223372036854775807):wT s m=some ((plain s && decide ((s.size:Int)≤m),()),()):=by
 rw[Qo]
 exact Bc hs (mV s) [] rfl
def au (v:ae):Bool :=
 if v.1=2 then decide (v.2.1=0) && (plain v.2.2.1 && decide ((v.2.2.1.size:Int)≤200)) else
 decide (v.2.2.1=eS) && (if v.1=0 then decide (v.2.1=0) else if v.1=1 then bA v.2.1 (-1000000000000000) 1000000000000000 else if v.1=3 then bA v.2.1 0 1 else if v.1=4 then bA v.2.1 1 5 else false)
theorem nr {v:ae} (h:v.2.2.1.size≤9223372036854775807):iO v=some ((au v,()),()):=by
 rw[Nr]
 unfold au
 simp only[eB,qQ h,Z1,bk_,q6]
 by_cases h0:v.1=0
 ·by_cases h1:v.2.1=0 <;> simp[h0,h1]
 by_cases h1:v.1=1
 ·cases bA v.2.1 (-1000000000000000) 1000000000000000 <;> simp[h1]
 by_cases h2:v.1=2
 ·by_cases h1:v.2.1=0 <;> simp[h2,h1]
 by_cases h3:v.1=3
 ·cases bA v.2.1 0 1 <;> simp[h3]
 by_cases h4:v.1=4
 ·cases bA v.2.1 1 5 <;> simp[h4]
 simp[h0,h1,h2,h3,h4]
theorem eJ {v:ae} (h:v.2.2.1.size≤9223372036854775807):dc v=some ((au v,()),()):=by
 rw[Nz]
 unfold au
 simp only[gl,sr h,Z1,bk_,q6]
 by_cases h2:v.1=2
 ·by_cases h1:v.2.1=0 <;> simp[h2,h1]
 by_cases he:v.2.2.1=eS
 ·by_cases h0:v.1=0
  ·by_cases h1:v.2.1=0 <;> simp[h0,h1,he]
  by_cases h1:v.1=1
  ·cases bA v.2.1 (-1000000000000000) 1000000000000000 <;> simp[h1,he]
  by_cases h3:v.1=3
  ·cases bA v.2.1 0 1 <;> simp[h3,he]
  by_cases h4:v.1=4
  ·cases bA v.2.1 1 5 <;> simp[h4,he]
  simp[h0,h1,h2,h3,h4,he]
 ·simp[h2,he]
theorem eU {v:ae} (h:au v=true):v.2.2.1.size≤200:=by
 unfold au at h
 split at h
 ·simp only[Z8,Z9] at h
  omega
 ·simp only[Z8,Z9] at h
  rw[h.1]
  decide
theorem dM {v:ae} (h:au v=true):v.2.2.1.size≤9223372036854775807:=bf_ (eU h) (by decide)
def vN (n:Int):ae:=(1,n,eS,())
def vE (n:Int):ae:=(4,n,eS,())
def vB (b:Bool):ae:=(3,if b=true then 1 else 0,eS,())
def vT (s:Z0):ae:=(2,0,s,())
def v0:ae:=(0,0,eS,())
theorem C4 (n:Int):yp n=some ((vE n,()),()):=Ns
theorem fN (n:Int):dG n=some ((vE n,()),()):=SP
theorem jx (n:Int):jl n=some ((vN n,()),()):=Qp
theorem rq (b:Bool):lR b=some ((vB b,()),()):=by
 rw[SQ]
 cases b <;> rfl
def bnd (n:Int):ae:=if bA n (-1000000000000000) 1000000000000000=true then vN n else vE 4
theorem qR (n:Int):n8 n=some ((bnd n,()),()):=by
 rw[NQ]
 unfold bnd
 simp only[gl,fN,jx,Z1]
 cases bA n (-1000000000000000) 1000000000000000 <;> rfl
def na (v:ae):ae:=if au v=true then(if v.1=4 then v else vE 2) else vE 2
theorem gf {v:ae} (h:v.2.2.1.size≤9223372036854775807):jw v=some ((na v,()),()):=by
 rw[Ve]
 unfold na
 simp only[eJ h,fN,Z1,bk_]
 cases au v
 ·rfl
 ·by_cases h4:v.1=4 <;> simp[h4]
def jy (v:ae):Bool:=au v && (decide (v.1=0) || decide (v.1=1))
theorem fA {v:ae} (h:v.2.2.1.size≤9223372036854775807):gE v=some ((v.2.1,jy v,()),()):=by
 rw[LB]
 unfold jy
 simp only[eJ h,Z1,bk_]
 cases au v
 ·rfl
 ·by_cases h0:v.1=0
  ·simp[h0]
  ·simp[h0,G0]
theorem yL (v:ae):(na v).1=4:=by
 unfold na
 split
 ·split
  ·assumption
  ·rfl
 ·rfl
theorem gm {v:ae} (h:jy v=true) : -1000000000000000≤v.2.1∧v.2.1≤1000000000000000:=by
 unfold jy au at h
 by_cases h2:v.1=2
 ·simp[h2] at h
 ·rw[Z2 h2] at h
  simp only[Z8,Bool.or_eq_true,Z9] at h
  obtain⟨⟨_,h⟩,h0 | h1⟩:=h
  ·rw[Z3 h0] at h
   simp only[Z9] at h
   omega
  ·rw[Z2 (by omega),Z3 h1] at h
   exact aH.1 h
def C5 (f:Int→Int→ae) (a b:ae):ae:=if jy a=true then(if jy b=true then f a.2.1 b.2.1 else na b) else na a
def rJ:=C5 fun x y=>bnd (x+y)
def LJ:=C5 fun x y=>bnd (x - y)
def QM:=C5 fun x y=>if y=0 then vE 1 else bnd (ef_ x y)
def Vj (a:ae):ae:=LJ v0 a
theorem Fz {x y:Int} (hx : -1000000000000000≤x∧x≤1000000000000000) (hy:y≠0) : -1000000000000000≤ef_ x y∧ef_ x y≤1000000000000000:=by
 have h1:(ef_ x y).natAbs≤x.natAbs:=by
  rw[Int.natAbs_tdiv]
  exact Nat.div_le_self _ _
 omega
section
variable {a b:ae} (ha:a.2.2.1.size≤9223372036854775807) (hb:b.2.2.1.size≤9223372036854775807)
include ha hb
theorem O0:K4 a b=some ((rJ a b,()),()):=by
 rw[WV,zR]
 unfold rJ C5
 simp only[fA ha,fA hb,gf ha,gf hb,SZ,qR,Z1]
 cases ia:jy a
 ·simp
 ·cases ib:jy b
  ·simp
  ·have h1:=gm ia
   have h2:=gm ib
   simp[wr (n:=a.2.1+b.2.1) (by omega) (by omega)]
theorem LK:JX a b=some ((LJ a b,()),()):=by
 rw[Vf,yG]
 unfold LJ C5
 simp only[fA ha,fA hb,gf ha,gf hb,QD,qR,Z1]
 cases ia:jy a
 ·simp
 ·cases ib:jy b
  ·simp
  ·have h1:=gm ia
   have h2:=gm ib
   simp[wr (n:=a.2.1 - b.2.1) (by omega) (by omega)]
theorem Vk:PW a b=some ((QM a b,()),()):=by
 rw[Vg,yH]
 unfold QM C5
 simp only[fA ha,fA hb,gf ha,gf hb,QL,qR,fN,Z1,bk_]
 cases ia:jy a
 ·simp
 ·cases ib:jy b
  ·simp
  ·have h1:=gm ia
   by_cases h0:b.2.1=0
   ·simp[h0]
   ·have h2:=Fz h1 h0
    simp[h0,Qd,wr (n:=ef_ a.2.1 b.2.1) (by omega) (by omega)]
end
def Vl (x y:Int):ae:=if(x*y).natAbs≤1000000000000000 then vN (x*y) else vE 4
def QN:=C5 Vl
theorem LL {p q:Int} (hq:0 < q):ef_ 1000000000000000 q < p ↔ ¬p*q≤1000000000000000:=by
 rw[Int.tdiv_eq_ediv_of_nonneg (by decide),←Int.not_le,Int.le_ediv_iff_mul_le hq]
theorem ZJ {q:Int} (hq:0 < q):IntKind.i64.wrap (ef_ 1000000000000000 q)=ef_ 1000000000000000 q:=by
 have:=Fz (x:=1000000000000000) (y:=q) (by omega) (by omega)
 exact wr (by omega) (by omega)
theorem WW {x y:Int} (h:(x*y).natAbs≤1000000000000000):bnd (gt_ gu_ (x*y))=vN (x*y):=by
 rw[wr (by omega) (by omega)]
 unfold bnd
 rw[Z3 (aH.2 (by omega))]
theorem WX (x y:Int):(x.natAbs:Int)*(y.natAbs:Int)=((x*y).natAbs:Int):=by rw[Int.natAbs_mul]; simp
section
variable {a b:ae} (ha:a.2.2.1.size≤9223372036854775807) (hb:b.2.2.1.size≤9223372036854775807)
include ha hb
theorem S0:K5 a b=some ((QN a b,()),()):=by
 rw[SX,xc]
 unfold QN C5
 simp only[fA ha,fA hb,gf ha,gf hb,NT,qR,fN,Z1]
 cases ia:jy a
 ·simp
 ·cases ib:jy b
  ·simp
  ·have h1:=gm ia
   have h2:=gm ib
   generalize a.2.1=x at h1
   generalize b.2.1=y at h2
   unfold Vl
   have hm:=WX x y
   have w1:(if x < IntKind.i64.wrap (0 - x) then IntKind.i64.wrap (0 - x) else x)=(x.natAbs:Int):=by
    rw[wr (by omega) (by omega)]
    split <;> omega
   have w2:(if y < IntKind.i64.wrap (0 - y) then IntKind.i64.wrap (0 - y) else y)=(y.natAbs:Int):=by
    rw[wr (by omega) (by omega)]
    split <;> omega
   simp only[w1,w2,aj_,Z5,ad_,al_]
   by_cases hy:y=0
   ·simp[hy,bnd,bA,wr (n:=0) (by decide) (by decide)]
   ·have hq0:0 < (y.natAbs:Int):=by omega
    rw[Z3 (by simpa using hy),Qd (by omega),ZJ hq0]
    by_cases hc:(x*y).natAbs≤1000000000000000
    ·rw[aL (by rw[gt_iff_lt,LL hq0,hm]; omega),Z3 hc,WW hc]
     rfl
    ·rw[aQ (by rw[gt_iff_lt,LL hq0,hm]; omega),Z2 hc]
     rfl
end
theorem NU {a:ae} (ha:a.2.2.1.size≤9223372036854775807):DM a=some ((Vj a,()),()):=by
 rw[NR,show((0,0,({data := #[]}:Z0),()):ae)=v0 from rfl,LK (by decide) ha]
 rfl
theorem Zy {n:Int} (h0:0≤n) (h1:n≤255):IntKind.u8.wrap n=n:=by
 simp only[IntKind.wrap,IntKind.bits,IntKind.signed]
 simp
 omega
theorem FA : ∀(k u:Nat),u < 10 ^ (k+1)→(am_ u).length≤k+1
 | 0,u,h=>by
  have h:u < 10:=by simpa using h
  rw[am_,dif_pos h]
  simp
 | k+1,u,h=>by
  rw[am_]
  split
  ·simp
  ·have:=FA k (u / 10) (by rw[Nat.pow_succ] at h; exact Nat.div_lt_of_lt_mul (by omega))
   rw[List.length_append]
   simp only[List.length_singleton]
   omega
theorem ss {x:Nat} (h:x < 10):strOfNums ([IntKind.u8.wrap (gt_ gu_ (48+(x:Int)))]:List Int)=⟨#[UInt8.ofNat (48+x)]⟩:=by
 rw[wr (by omega) (by omega),Zy (by omega) (by omega)]
 unfold strOfNums
 simp only[List.map_cons,List.map_nil]
 congr 3
theorem xp {a b:Z0} (h:a.data.toList=b.data.toList):a=b:=by
 cases a; cases b
 congr 1
 exact Array.toList_inj.1 h
theorem Bd : ∀(n u:Nat) (acc:Z0),u≤n→u≤9223372036854775807→acc.size+n≤9223372036854775806→rg (u:Int) acc=some ((⟨(am_ u).toArray⟩++acc,()),()):=by
 intro n
 induction n with
 | zero =>
  intro u acc h1 h2 h3
  have:u=0:=by omega
  subst this
  rw[tS,aL (by decide),show((0:Nat):Int)=((0:Nat):Int) from rfl,ss (x:=0) (by decide),mD (by simp only[ao_]; simp; have:acc.data.size=acc.size:=rfl; omega)]
  rw[am_,dif_pos (by decide)]
 | succ n ih =>
  intro u acc h1 h2 h3
  rw[tS]
  have hs : ∀ c:UInt8,(⟨#[c]⟩:Z0).size=1:=fun _=>rfl
  by_cases h:u < 10
  ·rw[aL (by omega),ss h,mD (by rw[hs]; omega)]
   rw[am_,dif_pos h]
  ·have e1:Int.tmod (u:Int) 10=((u % 10:Nat):Int):=by
    rw[Int.tmod_eq_emod_of_nonneg (by omega)]
    omega
   have e2:ef_ (u:Int) 10=((u / 10:Nat):Int):=by
    rw[Int.tdiv_eq_ediv_of_nonneg (by omega)]
    omega
   rw[aQ (by omega),e1,e2,ss (Nat.mod_lt _ (by decide)),mD (by rw[hs]; omega),wr (by omega) (by omega),ih (u / 10) _ (by omega) (by omega) (by rw[size_append,hs]; omega)]
   conv=>rhs; rw[am_,dif_neg h]
   congr 3
   apply xp
   simp
theorem oD (u:Nat):dr (u:Int)=⟨(am_ u).toArray⟩:=by
 unfold dr Lib.itoa
 rw[Z2 (by omega)]
 simp
theorem vd {n:Int} (h:n < 0):dr n=⟨#[45]⟩++dr (-n):=by
 unfold dr Lib.itoa
 rw[Z3 h,Z2 (by omega)]
 apply xp
 simp
 congr 1
 omega
theorem G1 {u:Nat} (h:u≤9223372036854775807):(⟨(am_ u).toArray⟩:Z0).size≤19:=by
 have:=FA 18 u (by omega)
 simpa[ao_] using this
theorem pu {n:Int} (h0 : -9223372036854775807≤n) (h1:n≤9223372036854775807):(dr n).size≤20:=by
 by_cases h:n < 0
 ·rw[vd h,size_append,show -n=((-n).toNat:Int) by omega,oD]
  have:=G1 (u:=(-n).toNat) (by omega)
  have h1:(⟨#[45]⟩:Z0).size=1:=rfl
  omega
 ·rw[show n=(n.toNat:Int) by omega,oD]
  have:=G1 (u:=n.toNat) (by omega)
  omega
theorem FB {u:Nat} (h:u≤9223372036854775807):dR (u:Int)=some ((dr (u:Int),()),()):=by
 have h19:=G1 h
 rw[Ii,aL (by omega),oD]
 have h2 : ∀ acc:Z0,acc.size=0→rg (u:Int) acc=some ((⟨(am_ u).toArray⟩++acc,()),()):=by
  intro acc ha
  by_cases hu:u≤9223372036854775806
  ·exact Bd u u acc (Nat.le_refl _) h (by omega)
  ·have hu:u=9223372036854775807:=by omega
   subst hu
   have hs : ∀ c:UInt8,(⟨#[c]⟩:Z0).size=1:=fun _=>rfl
   have e1:Int.tmod ((9223372036854775807:Nat):Int) 10=((7:Nat):Int):=by decide
   have e2:ef_ ((9223372036854775807:Nat):Int) 10=((922337203685477580:Nat):Int):=by decide
   rw[tS,aQ (by decide),e1,e2,ss (by decide),mD (by rw[hs]; omega),wr (by omega) (by omega),Bd 922337203685477580 _ _ (by omega) (by omega) (by rw[size_append,hs]; omega)]
   conv=>rhs; rw[am_,dif_neg (by decide)]
   congr 3
   apply xp
   simp
 rw[h2 _ rfl]
 congr 3
 apply xp
 simp
theorem Be {n:Int} (h0 : -9223372036854775807≤n) (h1:n≤9223372036854775807):dR n=some ((dr n,()),()):=by
 by_cases h:n < 0
 ·have hz:=pu (n := -n) (by omega) (by omega)
  have h45:(⟨#[45]⟩:Z0).size=1:=rfl
  rw[Ii,aQ h,wr (by omega) (by omega),show(0 - n:Int)=((-n).toNat:Int) by omega,FB (by omega),show(((-n).toNat:Nat):Int) = -n by omega]
  simp only[Z1]
  rw[mD (by omega),←vd h]
 ·rw[show n=(n.toNat:Int) by omega]
  exact FB (by omega)
theorem vX {n:Int} (h0 : -9223372036854775808≤n) (h1:n≤9223372036854775807):kC n=some ((dr n,()),()):=by
 rw[NA,yE]
 show(if(10:Int)=10∧_∧_ then _ else _:Option _).bind _=_
 rw[Z3 ⟨rfl,h0,h1⟩]
 rfl
def Vm:List Z0:=[(⟨#[]⟩:Z0),(⟨#[35,68,73,86,33]⟩:Z0),(⟨#[35,84,89,80,69,33]⟩:Z0),(⟨#[35,82,69,70,33]⟩:Z0),(⟨#[35,79,86,69,82,33]⟩:Z0),(⟨#[35,67,89,67,76,69,33]⟩:Z0)]
def df (n:Int):Z0:=Vm.getD n.toNat eS
theorem yM {n:Int} (h0:0≤n) (h1:n≤5):wP n=some ((df n,()),()):=by
 rw[Qi,dx h0 (by show n < 6; omega)]
 rfl
theorem rK {n:Int} (h0:0≤n) (h1:n≤5):pj n=some ((df n,()),()):=by
 rw[Jx,dx h0 (by show n < 6; omega)]
 rfl
def B4 (n:Int):Z0:=if n=1 then⟨#[84,82,85,69]⟩ else⟨#[70,65,76,83,69]⟩
theorem QO (n:Int):GJ n=some ((B4 n,()),()):=by
 rw[Ql]
 unfold B4
 by_cases h:n=1 <;> simp[h]
def cH (v:ae):Z0:=if v.1=1 then dr v.2.1 else if v.1=2 then(⟨#[39]⟩:Z0)++v.2.2.1 else if v.1=3 then B4 v.2.1 else if v.1=4 then df v.2.1 else eS
theorem xq {v:ae} (h:au v=true) (k:v.1=1) : -1000000000000000≤v.2.1∧v.2.1≤1000000000000000:=by
 unfold au at h
 rw[Z2 (by omega),Z2 (by omega),Z3 k] at h
 simp only[Z8,Z9] at h
 exact aH.1 h.2
theorem O1 {v:ae} (h:au v=true) (k:v.1=3):0≤v.2.1∧v.2.1≤1:=by
 unfold au at h
 rw[Z2 (by omega),Z2 (by omega),Z2 (by omega),Z3 k] at h
 simp only[Z8,Z9] at h
 exact aH.1 h.2
theorem B5 {v:ae} (h:au v=true) (k:v.1=4):1≤v.2.1∧v.2.1≤5:=by
 unfold au at h
 rw[Z2 (by omega),Z2 (by omega),Z2 (by omega),Z2 (by omega),Z3 k] at h
 simp only[Z8,Z9] at h
 exact aH.1 h.2
theorem QP {v:ae} (h:au v=true):v.1=0∨v.1=1∨v.1=2∨v.1=3∨v.1=4:=by
 unfold au at h
 split at h
 ·omega
 ·simp only[Z8] at h
  have h:=h.2
  split at h
  ·omega
  ·split at h
   ·omega
   ·split at h
    ·omega
    ·split at h
     ·omega
     ·cases h
theorem S1 (n:Int):(df n).size≤10:=by
 have h : ∀ i:Nat,i < 6→(Vm.getD i eS).size≤10:=by decide
 unfold df
 by_cases hn:n.toNat < 6
 ·exact h _ hn
 ·rw[List.getD_eq_getElem?_getD,List.getElem?_eq_none (by show 6≤n.toNat; omega)]
  decide
theorem Ij {v:ae} (h:au v=true):(cH v).size≤201:=by
 have hs:=eU h
 unfold cH
 split
 ·have:=xq h ‹_›
  exact bf_ (pu (by omega) (by omega)) (by decide)
 ·split
  ·rw[size_append]
   have:(⟨#[39]⟩:Z0).size=1:=rfl
   omega
  ·split
   ·unfold B4
    split <;> decide
   ·split
    ·exact bf_ (S1 _) (by decide)
    ·decide
theorem QQ {β:Type} {s:Z0} {f:Z0→Option β} (h:s.size≤9223372036854775806):cats (⟨#[39]⟩:Z0) s f=f ((⟨#[39]⟩:Z0)++s):=mD (by
 have:(⟨#[39]⟩:Z0).size=1:=rfl
 omega)
theorem hJ {v:ae} (hs:v.2.2.1.size≤9223372036854775807):ju v=some ((if au v=true then cH v else eS,()),()):=by
 rw[Jv,nr hs,Z1]
 unfold cH
 cases h:au v
 ·rfl
 ·have hz:=eU h
  simp only[aj_,Z5,ad_,al_,bk_]
  by_cases h1:v.1=1
  ·have:=xq h h1
   simp[h1,Be (n:=v.2.1) (by omega) (by omega)]
  by_cases h2:v.1=2
  ·simp only[h2,al_,QQ (s:=v.2.2.1) (by omega)]
   rfl
  by_cases h3:v.1=3
  ·simp[h3,QO]
  by_cases h4:v.1=4
  ·have:=B5 h h4
   simp[h4,yM (n:=v.2.1) (by omega) (by omega)]
  simp[h1,h2,h3,h4]
theorem rL {v:ae} (h:au v=true):fw v=some ((cH v,()),()):=by
 rw[Jy]
 unfold cH
 have hz:=eU h
 simp only[bk_]
 by_cases h1:v.1=1
 ·have:=xq h h1
  simp[h1,vX (n:=v.2.1) (by omega) (by omega)]
 by_cases h2:v.1=2
 ·simp only[h2,al_,QQ (s:=v.2.2.1) (by omega)]
  rfl
 by_cases h3:v.1=3
 ·have:=O1 h h3
  simp only[h3,al_]
  rw[Z2 (by decide),Z2 (by decide),Z2 (by decide),Z2 (by decide),dx (by omega) (by show v.2.1 < 2; omega)]
  unfold B4
  by_cases h5:v.2.1=1
  ·rw[h5]
   rfl
  ·rw[show v.2.1=0 by omega]
   rfl
 by_cases h4:v.1=4
 ·have:=B5 h h4
  simp[h4,rK (n:=v.2.1) (by omega) (by omega)]
 simp[h1,h2,h3,h4]
theorem JM {v:ae} (hs:v.2.2.1.size≤9223372036854775807):yz v=some ((if au v=true then cH v else eS,()),()):=by
 rw[JL,eJ hs,Z1]
 cases h:au v
 ·rfl
 ·rw[rL h]
  rfl
def uc (v:ae):Bool:=au v && !decide (v.1=4)
def ve (v:ae):Z0:=if v.1=2 then v.2.2.1 else cH v
theorem DX {v:ae} (h:au v=true):(ve v).size≤201:=by
 unfold ve
 split
 ·exact bf_ (eU h) (by decide)
 ·exact Ij h
theorem yN {v:ae} (hs:v.2.2.1.size≤9223372036854775807) : ∃ t,wW v=some ((t,uc v,()),())∧(uc v=true→t=ve v):=by
 rw[QF]
 unfold uc ve
 simp only[eJ hs,JM hs,Z1,bk_]
 by_cases h2:v.1=2
 ·refine⟨_,by simp[h2]; rfl,fun _=>by simp[h2]⟩
 ·cases h:au v
  ·exact⟨_,by simp[h2]; rfl,fun h=>by cases h⟩
  ·refine⟨cH v,?_,fun _=>by simp[h2]⟩
   simp only[h2,ad_,al_,Bool.true_and]
   rfl
theorem B6 {v:ae} (h:uc v=true):au v=true:=by
 unfold uc at h
 simp only[Z8] at h
 exact h.1
def FC (a b:ae):ae:=if uc a=true then(if uc b=true then(if 200 < (ve a).size+(ve b).size then vE 4 else vT (ve a++ve b)) else na b) else na a
section
variable {a b:ae} (ha:a.2.2.1.size≤9223372036854775807) (hb:b.2.2.1.size≤9223372036854775807)
include ha hb
theorem QR:GM a b=some ((FC a b,()),()):=by
 rw[QJ]
 unfold FC
 obtain⟨t,e1,e2⟩:=yN ha
 obtain⟨u,e3,e4⟩:=yN hb
 simp only[e1,e3,gf ha,gf hb,fN,Z1]
 cases ia:uc a
 ·simp
 ·cases ib:uc b
  ·simp
  ·have h1:=DX (B6 ia)
   have h2:=DX (B6 ib)
   rw[e2 ia,e4 ib]
   simp only[al_,aj_,Z5,ad_]
   rw[wr (by omega) (by omega)]
   by_cases hc:200 < (ve a).size+(ve b).size
   ·rw[aQ (by omega),Z3 hc]
   ·rw[aL (by omega),Z2 hc,mD (by omega)]
    rfl
end
def kJ (x y:Int):Int:=if x < y then -1 else if y < x then 1 else 0
def QS (x y:Z0):Int:=if Wl x y=true then -1 else if x=y then 0 else 1
def Vn (a b:ae):Int:=if a.1≠b.1 then kJ a.1 b.1 else if a.2.1≠b.2.1 then kJ a.2.1 b.2.1 else QS a.2.2.1 b.2.2.1
theorem vf (x y:Int):fI x y=some ((kJ x y,()),()):=by
 rw[yB,rj,rj]
 unfold kJ
 simp
 by_cases h:x < y
 ·simp[h]
 ·by_cases h2:y < x <;> simp[h,h2]
theorem S2 (x y:Z0):lU x y=some ((QS x y,()),()):=by
 rw[xe,pJ,pJ]
 unfold QS
 simp only[q6,decide_true,aj_,Z1,Z5,ad_]
 change (if Wl x y=true then _ else if(!(Wl x y || _))=true then _ else _)=_
 cases Wl x y
 ·by_cases h3:x=y <;> simp[h3]
 ·rfl
theorem LM {l:List Int} (hl:l.length≤100) : ∀(ys pre:List Int),l=pre++ys→nK 0 l (l.length:Int) (pre.length:Int)=some (((ys.find? fun y=>decide (y≠0)).getD 0,()),())
 | [],pre,he=>by
  rw[tZ,aL (ci he)]
  rfl
 | y :: ys,pre,he=>by
  rw[tZ,aQ (cr he),bI he,bi he (by omega),LM hl ys _ (aU he)]
  by_cases h:y=0
  ·simp[h]
  ·simp[h]
theorem DY {l:List Int} (hl:l.length≤100):r9 l=some (((l.find? fun y=>decide (y≠0)).getD 0,()),()):=by
 rw[Jw]
 exact LM hl l [] rfl
theorem FD {x y:Int}:kJ x y=0↔x=y:=by
 unfold kJ
 split
 ·omega
 ·split <;> omega
theorem S3 (a b:ae):AY a b=some ((Vn a b,()),()):=by
 rw[SY]
 simp only[vf,S2,Z1]
 rw[DY (by simp)]
 unfold Vn
 by_cases h1:a.1=b.1
 ·have e1:=FD.2 h1
  rw[Z2 (by simp[h1])]
  by_cases h2:a.2.1=b.2.1
  ·have e2:=FD.2 h2
   rw[Z2 (by simp[h2])]
   by_cases h3:QS a.2.2.1 b.2.2.1=0 <;> simp[List.find?,e1,e2,h3]
  ·have e2:kJ a.2.1 b.2.1≠0:=fun h=>h2 (FD.1 h)
   rw[Z3 (by simp[h2])]
   simp[List.find?,e1,e2]
 ·have e1:kJ a.1 b.1≠0:=fun h=>h1 (FD.1 h)
  rw[Z3 (by simp[h1])]
  simp[List.find?,e1]
def Vo (a b:ae):ae:=if a.1=0 then(b.1,a.2.1,a.2.2.1,()) else a
def Zz (op o:Int):Bool:=if op=6 then decide (o=0) else if op=7 then !decide (o=0) else if op=8 then decide (o < 0) else if op=9 then decide (o≤0) else if op=10 then decide (0 < o) else decide (0≤o)
def FE (op:Int) (a b:ae):ae:=if au a=true then(if au b=true then(if bA op 6 11=true then(if a.1=4 then a else if b.1=4 then b else vB (Zz op (Vn (Vo a b) (Vo b a)))) else vE 2) else vE 2) else vE 2
theorem Y5 {op o:Int} (h:bA op 6 11=true):aw_ [(o == 0),(o != 0),decide (o < 0),decide (o≤0),decide (o > 0),decide (o≥0)] (an_ (gt_ gu_ (op - 6))) false=Zz op o:=by
 have:=aH.1 h
 rw[wr (by omega) (by omega)]
 have h6:op=6∨op=7∨op=8∨op=9∨op=10∨op=11:=by omega
 rcases h6 with rfl | rfl | rfl | rfl | rfl | rfl <;> rfl
section
variable {op:Int} {a b:ae} (ha:a.2.2.1.size≤9223372036854775807) (hb:b.2.2.1.size≤9223372036854775807)
include ha hb
theorem Vp:PX op a b=some ((FE op a b,()),()):=by
 rw[Vh]
 unfold FE
 simp only[eJ ha,eJ hb,fN,gl,S3,Z1,bk_]
 cases au a
 ·rfl
 cases au b
 ·rfl
 cases hi:bA op 6 11
 ·rfl
 have hio:=aH.1 hi
 simp only[aj_,Z5,ad_,al_]
 by_cases h1:a.1=4
 ·simp[h1]
 by_cases h2:b.1=4
 ·simp[h1,h2]
 have hin : ∀(x1 x2 x3 x4 x5 x6:Bool) (k:Option ((ae×Unit)×Unit)),inb [x1,x2,x3,x4,x5,x6] (gt_ gu_ (op - 6)) k=k:=fun x1 x2 x3 x4 x5 x6 k=>by
  rw[wr (by omega) (by omega)]
  exact dx (by omega) (by show op - 6 < 6; omega)
 simp only[h1,h2,ad_,hin,Y5 hi,rq,Z1]
 unfold Vo
 by_cases h3:a.1=0
 ·by_cases h4:b.1=0
  ·have eb:((0,b.2.1,b.2.2.1,()):ae)=b:=by rw[←h4]
   simp only[h3,h4,al_,eb]
  ·simp[h3,h4]
 ·by_cases h4:b.1=0
  ·simp[h3,h4]
  ·simp[h3,h4]
end
abbrev p0:aM:=((0,0,()),false,false,())
abbrev ab.kids (x:ab):List Int:=x.2.2.2.2.2.1
def i7 (op k:Int):Bool:=if op=5 then(decide (k=2) || decide (k=3)) else if bA op 1 7=true then bA k 1 10 else if bA op 8 10=true then decide (k=1) else false
def kl (x:ab):Int:=(ac_ x.2.2.2.2.2.1:Int)
def bR (x:ab):Bool :=
 if x.1=1 then decide (x.2.1=0) && decide (x.2.2.2.1=p0) && decide (x.2.2.2.2.1=p0) && decide (kl x=0) && au x.2.2.1 && !decide (x.2.2.1.1=0) && (!decide (x.2.2.1.1=1) || decide (0≤x.2.2.1.2.1))
 else if x.1=2 then decide (x.2.1=0) && decide (x.2.2.1=v0) && decide (x.2.2.2.2.1=p0) && decide (kl x=0) && aA x.2.2.2.1.1
 else if x.1=3 then decide (x.2.1=0) && decide (x.2.2.1=v0) && decide (kl x=0) && cy (x.2.2.2.1.1,x.2.2.2.2.1.1,())
 else if x.1=4 then decide (x.2.1=0) && decide (x.2.2.1=v0) && decide (x.2.2.2.1=p0) && decide (x.2.2.2.2.1=p0) && decide (kl x=1)
 else if x.1=5 then bA x.2.1 1 11 && decide (x.2.2.1=v0) && decide (x.2.2.2.1=p0) && decide (x.2.2.2.2.1=p0) && decide (kl x=2)
 else if x.1=6 then i7 x.2.1 (kl x) && decide (x.2.2.1=v0) && decide (x.2.2.2.1=p0) && decide (x.2.2.2.2.1=p0)
 else false
theorem Vq {a b:aM}:(bP br a b=true)=(a=b):=propext (mE rfl)
theorem Vr {a b:ae}:(bP aq a b=true)=(a=b):=propext (mE rfl)
theorem Wn (a b:aM):bP br a b=decide (a=b):=by
 rw[ci_,Z9,Vq]
theorem JY (a b:ae):bP aq a b=decide (a=b):=by
 rw[ci_,Z9,Vr]
theorem QT (op k:Int):GI op k=some ((i7 op k,()),()):=by
 rw[Qh]
 unfold i7 bA
 simp only[bk_,Z9,ge_iff_le,G0]
 by_cases h:op=1∨op=2∨op=3∨op=4∨op=5∨op=6∨op=7∨op=8∨op=9∨op=10
 ·by_cases hk:1≤k <;> by_cases hk2:k=2 <;> rcases h with rfl | rfl | rfl | rfl | rfl | rfl | rfl | rfl | rfl | rfl <;> simp[hk,hk2] <;> omega
 ·have h1:op≠1:=by omega
  have h2:op≠2:=by omega
  have h3:op≠3:=by omega
  have h4:op≠4:=by omega
  have h5:op≠5:=by omega
  have h6:op≠6:=by omega
  have h7:op≠7:=by omega
  have h8:op≠8:=by omega
  have h9:op≠9:=by omega
  have h10:op≠10:=by omega
  have h11 : ¬(1≤op∧op≤7):=by omega
  have h12 : ¬(8≤op∧op≤10):=by omega
  simp only[h1,h2,h3,h4,h5,h6,h7,h8,h9,h10,h11,h12,ad_]
theorem gI {x:ab} (h:x.2.2.1.2.2.1.size≤9223372036854775807):bH x=some ((bR x,()),()):=by
 rw[Lo]
 unfold bR kl
 simp only[nr h,iz,yK,eB,QT,Z1,bk_,bne_iff_ne,ne_eq,Vq,Vr,Wn,JY,G0,v0,ge_iff_le]
 generalize (ac_ x.2.2.2.2.2.1:Int)=k
 by_cases h1:x.1=1
 ·by_cases a1:x.2.1=0 <;> by_cases a2:x.2.2.2.1=p0 <;> by_cases a3:x.2.2.2.2.1=p0 <;> by_cases a4:k=0 <;> cases ov:au x.2.2.1 <;> by_cases a5:x.2.2.1.1=0 <;> by_cases a6:x.2.2.1.1=1 <;> simp[a1,a2,a3,a4,a5,a6,h1,ov]
 by_cases h2:x.1=2
 ·by_cases a1:x.2.1=0 <;> by_cases a2:x.2.2.1=(0,0,eS,()) <;> by_cases a3:x.2.2.2.2.1=p0 <;> by_cases a4:k=0 <;> simp[a1,a2,a3,a4,h2]
 by_cases h3:x.1=3
 ·by_cases a1:x.2.1=0 <;> by_cases a2:x.2.2.1=(0,0,eS,()) <;> by_cases a4:k=0 <;> simp[a1,a2,a4,h3]
 by_cases h4:x.1=4
 ·by_cases a1:x.2.1=0 <;> by_cases a2:x.2.2.1=(0,0,eS,()) <;> by_cases a3:x.2.2.2.1=p0 <;> by_cases a4:x.2.2.2.2.1=p0 <;> simp[a1,a2,a3,a4,h4]
 by_cases h5:x.1=5
 ·cases hi:bA x.2.1 1 11 <;> by_cases a2:x.2.2.1=(0,0,eS,()) <;> by_cases a3:x.2.2.2.1=p0 <;> by_cases a4:x.2.2.2.2.1=p0 <;> simp[a2,a3,a4,h5,hi]
 by_cases h6:x.1=6
 ·cases hi:i7 x.2.1 k <;> by_cases a2:x.2.2.1=(0,0,eS,()) <;> by_cases a3:x.2.2.2.1=p0 <;> simp[a2,a3,h6,hi]
 simp[h1,h2,h3,h4,h5,h6]
theorem FF {x:ab} (h:x.2.2.1.2.2.1.size≤9223372036854775807):tG x=some ((bR x,()),()):=by
 have c1 : ∀ a:aM,(p0=a)=(a=p0):=fun a=>propext eq_comm
 have c2 : ∀ a:ae,((0,0,eS,())=a)=(a=(0,0,eS,())):=fun a=>propext eq_comm
 rw[Fq,lZ,DR]
 unfold bR kl i7
 simp only[eJ h,mF,mN,gl,Z1,bk_,bne_iff_ne,ne_eq,Vq,Vr,Wn,JY,G0,v0,ge_iff_le,c1,c2]
 generalize (ac_ x.2.2.2.2.2.1:Int)=k
 by_cases h1:x.1=1
 ·simp only[h1,al_]
  by_cases a1:x.2.1=0 <;> by_cases a2:x.2.2.2.1=p0 <;> by_cases a3:x.2.2.2.2.1=p0 <;> by_cases a4:k=0 <;> cases au x.2.2.1 <;> by_cases a5:x.2.2.1.1=0 <;> by_cases a6:x.2.2.1.1=1 <;> by_cases a7:x.2.2.1.2.1 < 0 <;> have a8:(0≤x.2.2.1.2.1) = ¬x.2.2.1.2.1 < 0:=propext (by omega) <;> simp[a1,a2,a3,a4,a5,a6,a7,a8]
 by_cases h2:x.1=2
 ·have e:cy (x.2.2.2.1.1,x.2.2.2.1.1,())=aA x.2.2.2.1.1:=by
   unfold cy
   simp
  by_cases a1:x.2.1=0 <;> by_cases a2:x.2.2.1=(0,0,eS,()) <;> by_cases a3:x.2.2.2.2.1=p0 <;> by_cases a4:k=0 <;> cases hr:aA x.2.2.2.1.1 <;> simp[a1,a2,a3,a4,h2,e,hr]
 by_cases h3:x.1=3
 ·by_cases a1:x.2.1=0 <;> by_cases a2:x.2.2.1=(0,0,eS,()) <;> by_cases a4:k=0 <;> cases hr:cy (x.2.2.2.1.1,x.2.2.2.2.1.1,()) <;> simp[a1,a2,a4,h3,hr]
 by_cases h4:x.1=4
 ·by_cases a1:x.2.1=0 <;> by_cases a2:x.2.2.1=(0,0,eS,()) <;> by_cases a3:x.2.2.2.1=p0 <;> by_cases a4:x.2.2.2.2.1=p0 <;> by_cases a5:k=1 <;> simp[a1,a2,a3,a4,a5,h4]
 by_cases h5:x.1=5
 ·cases hi:bA x.2.1 1 11 <;> by_cases a2:x.2.2.1=(0,0,eS,()) <;> by_cases a3:x.2.2.2.1=p0 <;> by_cases a4:x.2.2.2.2.1=p0 <;> by_cases a5:k=2 <;> simp[a2,a3,a4,a5,h5,hi]
 by_cases h6:x.1=6
 ·by_cases a2:x.2.2.1=(0,0,eS,()) <;> by_cases a3:x.2.2.2.1=p0 <;> by_cases a4:x.2.2.2.2.1=p0 <;> simp only[a2,a3,a4,h6,al_,ad_,decide_true,decide_false,Bool.and_false,Bool.and_true]
  all_goals
   generalize x.2.1=op
   unfold bA
   by_cases b1:1≤op∧op≤10
   ·by_cases b2:op=5
    ·subst b2
     by_cases b3:2≤k∧k≤3
     ·have:k=2∨k=3:=by omega
      rcases this with rfl | rfl <;> simp
     ·have : ¬k=2:=by omega
      have : ¬k=3:=by omega
      simp[b3, *]
    ·by_cases b3:8≤op
     ·have b4 : ¬(op≤7):=by omega
      have b5:op≤10:=by omega
      by_cases b6:k=1 <;> simp[b1,b2,b3,b4,b5,b6]
     ·have b4:op≤7:=by omega
      by_cases b6:1≤k∧k≤10 <;> simp[b1,b2,b3,b4,b6]
   ·have b2 : ¬op=5:=by omega
    have b3 : ¬(1≤op∧op≤7):=by omega
    have b4 : ¬(8≤op∧op≤10):=by omega
    simp[b1,b2,b3,b4]
 simp[h1,h2,h3,h4,h5,h6]
end Go.Proofs.YtipnjpfdlolhmaaGreatDoor.Abs
