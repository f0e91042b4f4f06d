/- What the functions say: equations. Printed by out.py. -/
import Derived.Test.YtfffplonjaigkaaGreatDoorZQAD
import Derived.Test.YtfffplonjaigkaaGreatDoorZM2
set_option linter.unusedVariables false
set_option linter.unusedSimpArgs false
set_option maxRecDepth 100000
open Bool renaming and_eq_true→M7,and_true→Z0,eq_iff_iff→R8,false_eq_true→M8,not_true→O5,or_eq_true→V9
open ByteArray renaming size→N6,toList→M1
open Go.IntKind renaming i64→ar_,wrap→aq_
open Go.Lib renaming decDigits→O1
open Int renaming le_refl→V2,toNat→P9
open List renaming all_append→W1,all_cons→U1,getD_eq_getElem?_getD→P7,getD→R0,getElem?_eq_getElem→N8,getElem?_eq_some_iff→N7,head?_cons→T5,isPrefixOf_iff_prefix→V0,length_append→M6,length_reverse→ak_,length_singleton→M3,length→N0,mem_cons→O9,mem_of_getElem?→P5
open Nat renaming le_refl→N4,le_trans→Q3,zero_le→W5
open Option renaming bind_eq_some_iff→M4,bind_some→M0,getD_some→S7,map_some→V8
open Option.some renaming injEq→O2,inj→R5
open Prod.mk renaming injEq→Y7
open _root_ renaming ByteArray→L9,beq_iff_eq→S1,decide_eq_true_eq→M9,if_false→O0,if_neg→M2,if_pos→M5,if_true→O4
namespace Go.Proofs.YtfffplonjaigkaaGreatDoor.Abs
open Go Go.Proofs.YtfffplonjaigkaaGreatDoor
theorem nW {x0 x1 x2 x3 x4 x5}:dn x0 x1 x2 x3 x4 x5=if(decide (x1≤10))=true then(A9 x1).bind fun z1=>if(M1 z1.1.1 == M1 x0)=true then(cy ⟨#[40]⟩ x2 x3 x4 x5).bind fun z2=>if z2.1.1=true then(rg x1 z2.2.1.1 z2.2.1.2.1 z2.2.1.2.2.1 z2.2.1.2.2.2.1).bind fun z3=>some ((z3.1.1,()),(z3.2.1,())) else dn x0 (aq_ ar_ (x1+1)) z2.2.1.1 z2.2.1.2.1 z2.2.1.2.2.1 z2.2.1.2.2.2.1 else dn x0 (aq_ ar_ (x1+1)) x2 x3 x4 x5 else(mt x0).bind fun z4=>if z4.1.2.1=true then if(! (M1 x0 == M1 ⟨#[]⟩))=true then(bz (1,0,z4.1.1,((0,0,()),false,false,()),((0,0,()),false,false,()),([]:(List Int)),()) x2 x3 x4 x5).bind fun z5=>some ((z5.1.1,()),(z5.2.1,())) else(hJ x0).bind fun z6=>if(!z6.1.2.1)=true then some ((0,()),((x2,x3,true,x5,()),())) else(bz (2,0,(0,0,⟨#[]⟩,()),z6.1.1,((0,0,()),false,false,()),([]:(List Int)),()) x2 x3 x4 x5).bind fun z7=>some ((z7.1.1,()),(z7.2.1,())) else(hJ x0).bind fun z8=>if(!z8.1.2.1)=true then some ((0,()),((x2,x3,true,x5,()),())) else(bz (2,0,(0,0,⟨#[]⟩,()),z8.1.1,((0,0,()),false,false,()),([]:(List Int)),()) x2 x3 x4 x5).bind fun z9=>some ((z9.1.1,()),(z9.2.1,())):=bA
theorem ql {x0 x1 x2 x3 x4 x5 x6}:lq x0 x1 x2 x3 x4 x5 x6=if(decide (x1 < (N0 x6:Int)))=true then fq x6 x1 ((nD (R0 x6 (P9 x1) 0)).bind fun z1=>if(z1.1.1 == x0)=true then fq x6 x1 ((p6 (R0 x6 (P9 x1) 0)).bind fun z2=>(cy z2.1.1 x2 x3 x4 x5).bind fun z3=>if z3.1.1=true then fq x6 x1 (some (((R0 x6 (P9 x1) 0),()),(z3.2.1,()))) else gL x0 (aq_ ar_ (x1+1)) z3.2.1.1 z3.2.1.2.1 z3.2.1.2.2.1 x6 z3.2.1.2.2.2.1) else lq x0 (aq_ ar_ (x1+1)) x2 x3 x4 x5 x6) else some ((0,()),((x2,x3,x4,x5,()),())):=bA
theorem rY {x0 x1 x2 x3}:mA x0 x1 x2 x3=if(decide (x3≥0))=true then if(decide (x2 < 0))=true then some (((-1),()),()) else ix x0 x1 (af.dflt) fun y1=>ix y1.2.2.2.2.2.1 x3 0 fun y2=>if(y2 != x2)=true then some (((-1),()),()) else(p7 x0 x2).bind fun z1=>if(decide (z1.1.1 < 0))=true then some (((-1),()),()) else mA x0 x1 (aq_ ar_ (z1.1.1 - 1)) (aq_ ar_ (x3 - 1)) else some (((aq_ ar_ (x2+1)),()),()):=bA
theorem rZ {x0 x1 x2 x3}:mB x0 x1 x2 x3=ix x0 x1 (af.dflt) fun y1=>if(decide (x3 < (N0 y1.2.2.2.2.2.1:Int)))=true then ix x0 x1 (af.dflt) fun y2=>ix y2.2.2.2.2.2.1 x3 0 fun y3=>(p8 x0 y3).bind fun z1=>mB x0 x1 (if x2 < z1.1.1 then z1.1.1 else x2) (aq_ ar_ (x3+1)) else some (((aq_ ar_ (x2+1)),()),()):=bA
theorem nX {x0 x1}:cW x0 x1=if(decide (x1 < (N0 x0:Int)))=true then ix x0 x1 (af.dflt) fun y1=>(oE y1).bind fun z1=>if(!z1.1.1)=true then some ((false,()),()) else ge x0 x1 0 else(p7 x0 (aq_ ar_ ((N0 x0:Int) - 1))).bind fun z2=>if(z2.1.1 == 0)=true then ix x0 (aq_ ar_ ((N0 x0:Int) - 1)) (af.dflt) fun y2=>if(y2.1 != 3)=true then(p8 x0 (aq_ ar_ ((N0 x0:Int) - 1))).bind fun z3=>some (((decide (z3.1.1≤12)),()),()) else some ((false,()),()) else some ((false,()),()):=bA
theorem qm {x0 x1 x2}:iA x0 x1 x2=if(decide (x2 < (N6 x0:Int)))=true then cM x0 x2 fun y1=>if(y1 == 34)=true then aZ x1 ⟨#[34]⟩ fun y2=>oz x0 x2 (aq_ ar_ (x2+1)) fun y3=>aZ y2 y3 fun y4=>iA x0 y4 (aq_ ar_ (x2+1)) else oz x0 x2 (aq_ ar_ (x2+1)) fun y5=>aZ x1 y5 fun y6=>iA x0 y6 (aq_ ar_ (x2+1)) else aZ x1 ⟨#[34]⟩ fun y7=>some ((y7,()),()):=bA
theorem nY {x0 x1}:lF x0 x1=if(decide (x0≥10))=true then aZ (strOfNums ([(IntKind.u8.wrap (aq_ ar_ (48+(Int.tmod x0 10))))]:(List Int))) x1 fun y1=>lF (aq_ ar_ (Int.tdiv x0 10)) y1 else aZ (strOfNums ([(IntKind.u8.wrap (aq_ ar_ (48+x0)))]:(List Int))) x1 fun y2=>some ((y2,()),()):=bA
theorem qn {x0 x1 x2 x3 x4 x5 x6 x7 x8}:iB x0 x1 x2 x3 x4 x5 x6 x7 x8=if(decide (x2 < (N0 x8:Int)))=true then if(decide (x2 > 0))=true then aZ x1 ⟨#[44]⟩ fun y1=>ix x8 x2 0 fun y2=>(hO x0 y2 0).bind fun z1=>aZ y1 z1.1.1 fun y3=>iB x0 y3 (aq_ ar_ (x2+1)) x3 x4 x5 x6 x7 x8 else ix x8 x2 0 fun y4=>(hO x0 y4 0).bind fun z2=>aZ x1 z2.1.1 fun y5=>iB x0 y5 (aq_ ar_ (x2+1)) x3 x4 x5 x6 x7 x8 else aZ x1 ⟨#[41]⟩ fun y6=>some ((y6,()),()):=bA
theorem xt {x0 x1 x2 x3 x4}:fG x0 x1 x2 x3 x4=if(decide ((N6 x0:Int) > 1))=true then cM x0 0 fun y1=>if(y1 == 48)=true then fC x0 1 fun y2=>fG y2 x1 x2 x3 x4 else(cb x0 16).bind fun z1=>if x1=true then if z1.1.2.1=true then(eC (1,(aq_ ar_ (0 - z1.1.1)),⟨#[]⟩,())).bind fun z2=>some (((1,(aq_ ar_ (0 - z1.1.1)),⟨#[]⟩,()),z2.1.1,()),()) else some (((1,(aq_ ar_ (0 - z1.1.1)),⟨#[]⟩,()),false,()),()) else if z1.1.2.1=true then(eC (1,z1.1.1,⟨#[]⟩,())).bind fun z3=>some (((1,z1.1.1,⟨#[]⟩,()),z3.1.1,()),()) else some (((1,z1.1.1,⟨#[]⟩,()),false,()),()) else(cb x0 16).bind fun z4=>if x1=true then if z4.1.2.1=true then(eC (1,(aq_ ar_ (0 - z4.1.1)),⟨#[]⟩,())).bind fun z5=>some (((1,(aq_ ar_ (0 - z4.1.1)),⟨#[]⟩,()),z5.1.1,()),()) else some (((1,(aq_ ar_ (0 - z4.1.1)),⟨#[]⟩,()),false,()),()) else if z4.1.2.1=true then(eC (1,z4.1.1,⟨#[]⟩,())).bind fun z6=>some (((1,z4.1.1,⟨#[]⟩,()),z6.1.1,()),()) else some (((1,z4.1.1,⟨#[]⟩,()),false,()),()):=bA
theorem qo {x0 x1}:iC x0 x1=if(decide (x1 < (N0 x0:Int)))=true then ix x0 x1 (bq.dflt) fun y1=>(rh y1.2.1).bind fun z1=>ix x0 x1 (bq.dflt) fun y2=>(db y2.1).bind fun z2=>if(!z2.1.1)=true then some ((false,()),()) else if(!z1.1.2.1)=true then some ((false,()),()) else ix x0 x1 (bq.dflt) fun y3=>if(M1 y3.2.1 == M1 ⟨#[]⟩)=true then some ((false,()),()) else ix x0 x1 (bq.dflt) fun y4=>if(! (M1 z1.1.1 == M1 y4.2.1))=true then some ((false,()),()) else if(decide (x1 > 0))=true then ix x0 (aq_ ar_ (x1 - 1)) (bq.dflt) fun y5=>ix x0 x1 (bq.dflt) fun y6=>(vK y5.1 y6.1).bind fun z3=>if(!z3.1.1)=true then some ((false,()),()) else iC x0 (aq_ ar_ (x1+1)) else iC x0 (aq_ ar_ (x1+1)) else some ((true,()),()):=bA
theorem yF {x0 x1 x2 x3 x4}:lr x0 x1 x2 x3 x4=if(decide (x1 < (N0 x3:Int)))=true then ix x3 x1 (aC.dflt) fun y1=>if(y1.1 == x0)=true then some ((x1,()),()) else lr x0 (aq_ ar_ (x1+1)) x2 x3 x4 else some (((-1),()),()):=bA
theorem qp {x0 x1}:lu x0 x1=if(decide (x1 < (N6 x0:Int)))=true then cM x0 x1 fun y1=>if(decide (y1 < 97))=true then some ((false,()),()) else cM x0 x1 fun y2=>if(decide (y2 > 122))=true then some ((false,()),()) else lu x0 (aq_ ar_ (x1+1)) else some ((true,()),()):=bA
theorem nZ {x0 x1 x2 x3}:ep x0 x1 x2 x3=if(decide (x0 < (N0 x2:Int)))=true then ix x2 x0 (aC.dflt) fun y1=>(iT y1.1 1 (aq_ ar_ (x1 - 1))).bind fun z1=>if(!z1.1.1)=true then some ((false,()),()) else if(decide (x0 > 0))=true then ix x2 (aq_ ar_ (x0 - 1)) (aC.dflt) fun y2=>if(decide (y2.1≥y1.1))=true then some ((false,()),()) else if(decide ((N0 y1.2.1:Int) > 2))=true then some ((false,()),()) else(ri y1.2.2.1).bind fun z2=>if(!z2.1.1)=true then some ((false,()),()) else dE x0 0 x1 x2 x3 y1.1 y1.2.1 y1.2.2.1 else if(decide ((N0 y1.2.1:Int) > 2))=true then some ((false,()),()) else(ri y1.2.2.1).bind fun z3=>if(!z3.1.1)=true then some ((false,()),()) else dE x0 0 x1 x2 x3 y1.1 y1.2.1 y1.2.2.1 else dF 0 x1 x2 x3:=bA
theorem r5 {x0 x1 x2}:mC x0 x1 x2=if(decide (x2 < (N0 x0:Int)))=true then ix x0 x2 0 fun y1=>if(y1 == x1)=true then some ((true,()),()) else mC x0 x1 (aq_ ar_ (x2+1)) else some ((false,()),()):=bA
theorem kb {x0 x1 x2 x3 x4}:gK x0 x1 x2 x3 x4=if(decide (x0 < (N0 x4:Int)))=true then fq x4 x0 ((jf (x1,x2,x3,()) (R0 x4 (P9 x0) 0)).bind fun z1=>ix x2 z1.1.1 (aC.dflt) fun y1=>fH x0 0 x1 x2 x3 x4 y1.1 y1.2.1 y1.2.2.1) else gf 0 x1 x2 x3 x4 ([]:(List Int)):=bA
theorem r6 {x0 x1 x2 x3}:j9 x0 x1 x2 x3=if(decide (x1 < (N0 x2:Int)))=true then fq x2 x1 ((p9 x3 (R0 x2 (P9 x1) 0)).bind fun z1=>if z1.1.1=true then fq x2 x1 (j9 (R0 x2 (P9 x1) 0) (aq_ ar_ (x1+1)) x2 x3) else j9 x0 (aq_ ar_ (x1+1)) x2 x3) else some ((x0,()),()):=bA
theorem ff {x0 x1 x2 x3}:bc x0 x1 x2 x3=if(decide (x2 < x1))=true then ix x0 x2 (aC.dflt) fun y1=>(qa y1 x3).bind fun z1=>if z1.1.1=true then some ((x2,()),(z1.2.1,())) else bc x0 x1 (aq_ ar_ (x2+1)) z1.2.1 else some (((-1),()),(x3,())):=bA
theorem jh {x0 x1 x2 x3 x4 x5 x6 x7}:cX x0 x1 x2 x3 x4 x5 x6 x7=if(decide (x4 < x3))=true then ix x2 x4 0 fun y1=>if(decide (y1≥x1))=true then some ((false,()),()) else(dN (x5,x6,x7,()) y1).bind fun z1=>if(decide (z1.1.1 < 0))=true then some ((false,()),()) else if(decide (x4 > 0))=true then ix x0 (aq_ ar_ (x4 - 1)) 0 fun y2=>if(decide (y2≥y1))=true then some ((false,()),()) else cX x0 x1 x2 x3 (aq_ ar_ (x4+1)) x5 x6 x7 else cX x0 x1 x2 x3 (aq_ ar_ (x4+1)) x5 x6 x7 else some (((decide ((N0 x0:Int)≤2)),()),()):=bA
theorem n3 {x0 x1 x2 x3}:iU x0 x1 x2 x3=if(decide (x3 < x2))=true then ix x1 x3 0 fun y1=>if(y1 != x0)=true then some ((y1,()),()) else iU x0 x1 x2 (aq_ ar_ (x3+1)) else some ((x0,()),()):=bA
theorem r7 {x0 x1 x2 x3}:mD x0 x1 x2 x3=if(decide (x3 < x2))=true then cM x0 x3 fun y1=>if(decide (y1 < 32))=true then some ((false,()),()) else cM x0 x3 fun y2=>if(decide (y2 > 126))=true then some ((false,()),()) else mD x0 x1 x2 (aq_ ar_ (x3+1)) else some (((decide ((N6 x0:Int)≤x1)),()),()):=bA
theorem lI {x0 x1 x2 x3 x4 x5}:gr x0 x1 x2 x3 x4 x5=if(decide (x1 < x0))=true then fq x4 x1 ((cK x2 (R0 x4 (P9 x1) ⟨#[]⟩)).bind fun z1=>if z1.1.1=true then some (((R0 x4 (P9 x1) ⟨#[]⟩),()),((x2,x5,x3,()),())) else gr x0 (aq_ ar_ (x1+1)) x2 x3 x4 x5) else some ((⟨#[]⟩,()),((x2,x5,x3,()),())):=bA
theorem ry {x0 x1 x2 x3 x4}:fx x0 x1 x2 x3 x4=(strings_Cut x1 ⟨#[34]⟩).bind fun z1=>if(!z1.1.2.2.1)=true then some (((-1),()),((x2,x4,true,()),())) else aZ x0 z1.1.1 fun y1=>(cK z1.1.2.1 ⟨#[34]⟩).bind fun z2=>if(!z2.1.1)=true then(bm (2,0,y1,()) z1.1.2.1 x3 x4).bind fun z3=>some ((z3.1.1,()),(z3.2.1,())) else aZ y1 ⟨#[34]⟩ fun y2=>fC z1.1.2.1 1 fun y3=>fx y2 y3 x2 x3 x4:=bA
theorem n4 {x0 x1 x2 x3 x4 x5 x6 x7}:eb x0 x1 x2 x3 x4 x5 x6 x7=if(decide (x1≤5))=true then(j7 x1).bind fun z1=>if(M1 z1.1.1 == M1 x0)=true then(w8 x1).bind fun z2=>eb x0 (aq_ ar_ (x1+1)) x2 x3 x4 z2.1.1.1 z2.1.1.2.1 z2.1.1.2.2.1 else eb x0 (aq_ ar_ (x1+1)) x2 x3 x4 x5 x6 x7 else(eE (x5,x6,x7,())).bind fun z3=>if(!z3.1.1)=true then some (((0,0,⟨#[]⟩,()),false,()),()) else(dD (x5,x6,x7,())).bind fun z4=>if(! (M1 z4.1.1 == M1 x0))=true then some (((0,0,⟨#[]⟩,()),false,()),()) else some (((x5,x6,x7,()),true,()),()):=bA
theorem yG {x0 x1}:pk x0 x1=if(decide (x1≤52))=true then(kP x1).bind fun z1=>if(M1 z1.1.1 == M1 x0)=true then some ((x1,()),()) else pk x0 (aq_ ar_ (x1+1)) else some ((0,()),()):=bA
theorem f5 {x0 x1 x2 x3 x4 x5}:dj x0 x1 x2 x3 x4 x5=if(!x4)=true then bF x0 x1 x2 0 1 x3 x4 x5 else some ((x2,()),((x3,x5,x4,()),())):=bA
theorem tz {x0 x1 x2 x3 x4 x5}:oJ x0 x1 x2 x3 x4 x5=if(!x3)=true then(f2 x2 x3 x4).bind fun z1=>if z1.1.2.1=true then(aG z1.1.1 z1.2.1.1 z1.2.1.2.2.1 z1.2.1.2.1).bind fun z2=>mf x5 ([z2.1.1]:(List Int)) 8 fun y1=>(aY ⟨#[44]⟩ z2.2.1.1 z2.2.1.2.2.1 z2.2.1.2.1).bind fun z3=>if(!z3.1.1)=true then if z3.2.1.2.2.1=true then(aG (6,x0,(0,0,⟨#[]⟩,()),((0,0,()),false,false,()),((0,0,()),false,false,()),y1,()) z3.2.1.1 true z3.2.1.2.1).bind fun z4=>some ((z4.1.1,()),(z4.2.1,())) else(aY ⟨#[41]⟩ z3.2.1.1 z3.2.1.2.2.1 z3.2.1.2.1).bind fun z5=>(aG (6,x0,(0,0,⟨#[]⟩,()),((0,0,()),false,false,()),((0,0,()),false,false,()),y1,()) z5.2.1.1 (!z5.1.1) z5.2.1.2.1).bind fun z6=>some ((z6.1.1,()),(z6.2.1,())) else bN x0 x1 z3.2.1.1 z3.2.1.2.2.1 y1 z3.2.1.2.1 else(bb 1 (aq_ ar_ (x1+1)) z1.2.1.1 z1.2.1.2.2.1 z1.2.1.2.1).bind fun z7=>mf x5 ([z7.1.1]:(List Int)) 8 fun y2=>(aY ⟨#[44]⟩ z7.2.1.1 z7.2.1.2.2.1 z7.2.1.2.1).bind fun z8=>if(!z8.1.1)=true then if z8.2.1.2.2.1=true then(aG (6,x0,(0,0,⟨#[]⟩,()),((0,0,()),false,false,()),((0,0,()),false,false,()),y2,()) z8.2.1.1 true z8.2.1.2.1).bind fun z9=>some ((z9.1.1,()),(z9.2.1,())) else(aY ⟨#[41]⟩ z8.2.1.1 z8.2.1.2.2.1 z8.2.1.2.1).bind fun z10=>(aG (6,x0,(0,0,⟨#[]⟩,()),((0,0,()),false,false,()),((0,0,()),false,false,()),y2,()) z10.2.1.1 (!z10.1.1) z10.2.1.2.1).bind fun z11=>some ((z11.1.1,()),(z11.2.1,())) else bN x0 x1 z8.2.1.1 z8.2.1.2.2.1 y2 z8.2.1.2.1 else(aG (6,x0,(0,0,⟨#[]⟩,()),((0,0,()),false,false,()),((0,0,()),false,false,()),x5,()) x2 x3 x4).bind fun z12=>some ((z12.1.1,()),(z12.2.1,())):=bA
theorem gn {x0 x1 x2 x3 x4 x5}:bN x0 x1 x2 x3 x4 x5=if(!x3)=true then(f2 x2 x3 x5).bind fun z1=>if z1.1.2.1=true then(aG z1.1.1 z1.2.1.1 z1.2.1.2.2.1 z1.2.1.2.1).bind fun z2=>mf x4 ([z2.1.1]:(List Int)) 8 fun y1=>(aY ⟨#[44]⟩ z2.2.1.1 z2.2.1.2.2.1 z2.2.1.2.1).bind fun z3=>if(!z3.1.1)=true then if z3.2.1.2.2.1=true then(aG (6,x0,(0,0,⟨#[]⟩,()),((0,0,()),false,false,()),((0,0,()),false,false,()),y1,()) z3.2.1.1 true z3.2.1.2.1).bind fun z4=>some ((z4.1.1,()),(z4.2.1,())) else(aY ⟨#[41]⟩ z3.2.1.1 z3.2.1.2.2.1 z3.2.1.2.1).bind fun z5=>(aG (6,x0,(0,0,⟨#[]⟩,()),((0,0,()),false,false,()),((0,0,()),false,false,()),y1,()) z5.2.1.1 (!z5.1.1) z5.2.1.2.1).bind fun z6=>some ((z6.1.1,()),(z6.2.1,())) else bN x0 x1 z3.2.1.1 z3.2.1.2.2.1 y1 z3.2.1.2.1 else(bb 1 (aq_ ar_ (x1+1)) z1.2.1.1 z1.2.1.2.2.1 z1.2.1.2.1).bind fun z7=>mf x4 ([z7.1.1]:(List Int)) 8 fun y2=>(aY ⟨#[44]⟩ z7.2.1.1 z7.2.1.2.2.1 z7.2.1.2.1).bind fun z8=>if(!z8.1.1)=true then if z8.2.1.2.2.1=true then(aG (6,x0,(0,0,⟨#[]⟩,()),((0,0,()),false,false,()),((0,0,()),false,false,()),y2,()) z8.2.1.1 true z8.2.1.2.1).bind fun z9=>some ((z9.1.1,()),(z9.2.1,())) else(aY ⟨#[41]⟩ z8.2.1.1 z8.2.1.2.2.1 z8.2.1.2.1).bind fun z10=>(aG (6,x0,(0,0,⟨#[]⟩,()),((0,0,()),false,false,()),((0,0,()),false,false,()),y2,()) z10.2.1.1 (!z10.1.1) z10.2.1.2.1).bind fun z11=>some ((z11.1.1,()),(z11.2.1,())) else bN x0 x1 z8.2.1.1 z8.2.1.2.2.1 y2 z8.2.1.2.1 else(aG (6,x0,(0,0,⟨#[]⟩,()),((0,0,()),false,false,()),((0,0,()),false,false,()),x4,()) x2 x3 x5).bind fun z12=>some ((z12.1.1,()),(z12.2.1,())):=bA
theorem lJ {x0 x1 x2 x3 x4}:cp x0 x1 x2 x3 x4=if(decide (x1≤5))=true then(j7 x1).bind fun z1=>(b8 x2 z1.1.1).bind fun z2=>if z2.1.2.1=true then(w8 x1).bind fun z3=>(bm z3.1.1 z2.1.1 x3 x4).bind fun z4=>some ((z4.1.1,()),(z4.2.1,())) else cp x0 (aq_ ar_ (x1+1)) x2 x3 x4 else(fF x2 x3 x4).bind fun z5=>(f0 z5.1.1).bind fun z6=>if z6.1.2.1=true then if(z6.1.1.1 == 1)=true then(bm z6.1.1 z5.2.1.1 z5.2.1.2.2.1 z5.2.1.2.1).bind fun z7=>some ((z7.1.1,()),(z7.2.1,())) else if(z6.1.1.1 == 3)=true then(bm z6.1.1 z5.2.1.1 z5.2.1.2.2.1 z5.2.1.2.1).bind fun z8=>some ((z8.1.1,()),(z8.2.1,())) else(ek z5.1.1).bind fun z9=>if z9.1.2.1=true then(aG (2,0,(0,0,⟨#[]⟩,()),z9.1.1,((0,0,()),false,false,()),([]:(List Int)),()) z5.2.1.1 z5.2.1.2.2.1 z5.2.1.2.1).bind fun z10=>some ((z10.1.1,()),(z10.2.1,())) else cz x0 z5.1.1 1 z5.2.1.1 z5.2.1.2.2.1 z5.2.1.2.1 else(ek z5.1.1).bind fun z11=>if z11.1.2.1=true then(aG (2,0,(0,0,⟨#[]⟩,()),z11.1.1,((0,0,()),false,false,()),([]:(List Int)),()) z5.2.1.1 z5.2.1.2.2.1 z5.2.1.2.1).bind fun z12=>some ((z12.1.1,()),(z12.2.1,())) else cz x0 z5.1.1 1 z5.2.1.1 z5.2.1.2.2.1 z5.2.1.2.1:=bA
theorem ku {x0 x1 x2 x3 x4 x5}:cz x0 x1 x2 x3 x4 x5=if(decide (x2≤10))=true then(uj x2).bind fun z1=>if(M1 x1 == M1 z1.1.1)=true then(eG x2 x0 x3 x4 x5).bind fun z2=>some ((z2.1.1,()),(z2.2.1,())) else cz x0 x1 (aq_ ar_ (x2+1)) x3 x4 x5 else some (((-1),()),((x3,x5,true,()),())):=bA
theorem va {x0 x1 x2 x3 x4}:kS x0 x1 x2 x3 x4=if(decide (x4≥0))=true then ix x0 x1 (af.dflt) fun y1=>ix y1.2.2.2.2.2.1 x4 0 fun y2=>if(y2 != (aq_ ar_ (x3 - 1)))=true then some (((-1),()),()) else if(decide (y2 < 0))=true then some (((-1),()),()) else ix x0 y2 (af.dflt) fun y3=>if(y3.1 == 3)=true then ix x0 x1 (af.dflt) fun y4=>if(y4.1 != 6)=true then some (((-1),()),()) else(rk x0 y2 (aq_ ar_ (x2+1))).bind fun z1=>if(decide (z1.1.1 < 0))=true then some (((-1),()),()) else kS x0 x1 x2 z1.1.1 (aq_ ar_ (x4 - 1)) else(rk x0 y2 (aq_ ar_ (x2+1))).bind fun z2=>if(decide (z2.1.1 < 0))=true then some (((-1),()),()) else kS x0 x1 x2 z2.1.1 (aq_ ar_ (x4 - 1)) else some ((x3,()),()):=bA
theorem kv {x0 x1 x2 x3 x4 x5 x6 x7 x8 x9 x10}:f4 x0 x1 x2 x3 x4 x5 x6 x7 x8 x9 x10=if(decide (x3 < x2))=true then ix x1 x3 0 fun y1=>(dP x0 y1 1).bind fun z1=>mf x10 ([z1.1.1]:(List L9)) 16 fun y2=>f4 x0 x1 x2 (aq_ ar_ (x3+1)) x4 x5 x6 x7 x8 x9 y2 else(uj x5).bind fun z2=>aZ z2.1.1 ⟨#[40]⟩ fun y3=>(strings_Join x10 ⟨#[44]⟩).bind fun z3=>aZ y3 z3.1.1 fun y4=>aZ y4 ⟨#[41]⟩ fun y5=>some ((y5,()),()):=bA
theorem qq {x0 x1 x2 x3}:iE x0 x1 x2 x3=if(decide (x3 < x2))=true then ix x1 x3 (bq.dflt) fun y1=>(nH y1.1).bind fun z1=>if(!z1.1.1)=true then some ((false,()),()) else if(decide (x3 > 0))=true then ix x0 (aq_ ar_ (x3 - 1)) (bq.dflt) fun y2=>(nI y2.1 y1.1).bind fun z2=>if(decide (z2.1.1≥0))=true then some ((false,()),()) else(oH y1.2.1).bind fun z3=>if(!z3.1.1)=true then some ((false,()),()) else iE x0 x1 x2 (aq_ ar_ (x3+1)) else(oH y1.2.1).bind fun z4=>if(!z4.1.1)=true then some ((false,()),()) else iE x0 x1 x2 (aq_ ar_ (x3+1)) else some (((decide ((N0 x0:Int)≤120)),()),()):=bA
theorem n5 {x0 x1 x2 x3 x4 x5}:fd x0 x1 x2 x3 x4 x5=if(decide (x2 < x1))=true then ix x0 x2 (aC.dflt) fun y1=>(dc y1.1 1 (aq_ ar_ (x3 - 1))).bind fun z1=>if(!z1.1.1)=true then some ((false,()),()) else if(decide (x2 > 0))=true then ix x4 (aq_ ar_ (x2 - 1)) (aC.dflt) fun y2=>if(decide (y2.1≥y1.1))=true then some ((false,()),()) else(mv (x3,x4,x5,()) y1.2.1 y1.1).bind fun z2=>if(!z2.1.1)=true then some ((false,()),()) else(rm y1.2.2.1).bind fun z3=>if(!z3.1.1)=true then some ((false,()),()) else fd x0 x1 (aq_ ar_ (x2+1)) x3 x4 x5 else(mv (x3,x4,x5,()) y1.2.1 y1.1).bind fun z4=>if(!z4.1.1)=true then some ((false,()),()) else(rm y1.2.2.1).bind fun z5=>if(!z5.1.1)=true then some ((false,()),()) else fd x0 x1 (aq_ ar_ (x2+1)) x3 x4 x5 else dG x5 (N0 x5:Int) 0 x3 x4 x5:=bA
theorem ji {x0 x1 x2 x3}:b7 x0 x1 x2 x3=if(decide (x3 < x2))=true then ix x0 x3 0 fun y1=>if(x1 == y1)=true then some ((x3,()),()) else b7 x0 x1 x2 (aq_ ar_ (x3+1)) else some (((-1),()),()):=bA
theorem jj {x0 x1 x2 x3 x4}:gd x0 x1 x2 x3 x4=if(decide (x0 < (N0 x4:Int)))=true then fq x4 x0 ((dN (x1,x2,x3,()) (R0 x4 (P9 x0) 0)).bind fun z1=>ix x2 z1.1.1 (aC.dflt) fun y1=>eU x0 y1.2.1 (N0 y1.2.1:Int) 0 x1 x2 x3 x4) else(dQ x4).bind fun z2=>some ((z2.2.1,()),()):=bA
theorem qr {x0 x1 x2 x3 x4}:iG x0 x1 x2 x3 x4=if(decide (x2 < x1))=true then fq x4 x2 ((cu x3 (R0 x4 (P9 x2) 0)).bind fun z1=>if z1.1.1=true then iG (R0 x4 (P9 x2) 0) x1 (aq_ ar_ (x2+1)) x3 x4 else iG x0 x1 (aq_ ar_ (x2+1)) x3 x4) else some ((x0,()),()):=bA
theorem xu {x0 x1 x2}:nO x0 x1 x2=if(decide (x2 < (N0 x0:Int)))=true then ix x0 x2 0 fun y1=>ix x1 x2 0 fun y2=>if(y1 != y2)=true then some ((false,()),()) else nO x0 x1 (aq_ ar_ (x2+1)) else some ((true,()),()):=bA
theorem yH {x0 x1 x2}:pl x0 x1 x2=if(decide (x2 < (N0 x0:Int)))=true then ix x0 x2 (bq.dflt) fun y1=>ix x1 x2 (bq.dflt) fun y2=>(um y1 y2).bind fun z1=>if(!z1.1.1)=true then some ((false,()),()) else pl x0 x1 (aq_ ar_ (x2+1)) else some ((true,()),()):=bA
theorem uL {x0 x1 x2}:kU x0 x1 x2=if(decide (x2 < (N0 x0:Int)))=true then ix x0 x2 (aC.dflt) fun y1=>ix x1 x2 (aC.dflt) fun y2=>(mz y1 y2).bind fun z1=>if(!z1.1.1)=true then some ((false,()),()) else kU x0 x1 (aq_ ar_ (x2+1)) else some ((true,()),()):=bA
theorem vZ {x0 x1 x2}:l4 x0 x1 x2=if(decide (x2 < (N0 x0:Int)))=true then ix x0 x2 (aN.dflt) fun y1=>ix x1 x2 (aN.dflt) fun y2=>(oI y1 y2).bind fun z1=>if(!z1.1.1)=true then some ((false,()),()) else l4 x0 x1 (aq_ ar_ (x2+1)) else some ((true,()),()):=bA
theorem io {x0 x1 x2 x3 x4 x5}:cc x0 x1 x2 x3 x4 x5=if(!x3)=true then(lE x1 x2 x3 x5).bind fun z1=>mf x4 ([z1.1.1]:(List Int)) 8 fun y1=>(cy ⟨#[41]⟩ z1.2.1.1 z1.2.1.2.1 z1.2.1.2.2.1 z1.2.1.2.2.2.1).bind fun z2=>if z2.1.1=true then(bz (6,x0,(0,0,⟨#[]⟩,()),((0,0,()),false,false,()),((0,0,()),false,false,()),y1,()) z2.2.1.1 z2.2.1.2.1 z2.2.1.2.2.1 z2.2.1.2.2.2.1).bind fun z3=>some ((z3.1.1,()),(z3.2.1,())) else(cy ⟨#[44]⟩ z2.2.1.1 z2.2.1.2.1 z2.2.1.2.2.1 z2.2.1.2.2.2.1).bind fun z4=>if(!z4.1.1)=true then cc x0 z4.2.1.1 z4.2.1.2.1 true y1 z4.2.1.2.2.2.1 else cc x0 z4.2.1.1 z4.2.1.2.1 z4.2.1.2.2.1 y1 z4.2.1.2.2.2.1 else some ((0,()),((x1,x2,x3,x5,()),())):=bA
theorem oO {x0 x1 x2 x3 x4 x5 x6}:gL x0 x1 x2 x3 x4 x5 x6=if(decide (x1 < (N0 x5:Int)))=true then fq x5 x1 ((nD (R0 x5 (P9 x1) 0)).bind fun z1=>if(z1.1.1 == x0)=true then fq x5 x1 ((p6 (R0 x5 (P9 x1) 0)).bind fun z2=>(cy z2.1.1 x2 x3 x4 x6).bind fun z3=>if z3.1.1=true then fq x5 x1 (some (((R0 x5 (P9 x1) 0),()),(z3.2.1,()))) else gL x0 (aq_ ar_ (x1+1)) z3.2.1.1 z3.2.1.2.1 z3.2.1.2.2.1 x5 z3.2.1.2.2.2.1) else gL x0 (aq_ ar_ (x1+1)) x2 x3 x4 x5 x6) else some ((0,()),((x2,x3,x4,x6,()),())):=bA
theorem n6 {x0 x1 x2}:ge x0 x1 x2=ix x0 x1 (af.dflt) fun y1=>if(decide (x2 < (N0 y1.2.2.2.2.2.1:Int)))=true then ix x0 x1 (af.dflt) fun y2=>ix y2.2.2.2.2.2.1 x2 0 fun y3=>(iT y3 0 (aq_ ar_ (x1 - 1))).bind fun z1=>if(!z1.1.1)=true then some ((false,()),()) else ix x0 y3 (af.dflt) fun y4=>if(y4.1 == 3)=true then ix x0 x1 (af.dflt) fun y5=>if(y5.1 != 6)=true then some ((false,()),()) else ge x0 x1 (aq_ ar_ (x2+1)) else ge x0 x1 (aq_ ar_ (x2+1)) else cW x0 (aq_ ar_ (x1+1)):=bA
theorem l6 {x0 x1 x2 x3 x4 x5 x6 x7}:dE x0 x1 x2 x3 x4 x5 x6 x7=if(decide (x1 < (N0 x6:Int)))=true then ix x6 x1 0 fun y1=>if(decide (y1≥x5))=true then some ((false,()),()) else ix x6 x1 0 fun y2=>(jf (x2,x3,x4,()) y2).bind fun z1=>if(decide (z1.1.1 < 0))=true then some ((false,()),()) else if(decide (x1 > 0))=true then ix x6 (aq_ ar_ (x1 - 1)) 0 fun y3=>ix x6 x1 0 fun y4=>if(decide (y3≥y4))=true then some ((false,()),()) else dE x0 (aq_ ar_ (x1+1)) x2 x3 x4 x5 x6 x7 else dE x0 (aq_ ar_ (x1+1)) x2 x3 x4 x5 x6 x7 else ep (aq_ ar_ (x0+1)) x2 x3 x4:=bA
end Go.Proofs.YtfffplonjaigkaaGreatDoor.Abs
namespace Go.Proofs.YtfffplonjaigkaaGreatDoor.Abs
open Go Go.Proofs.YtfffplonjaigkaaGreatDoor
theorem l7 {x0 x1 x2 x3}:dF x0 x1 x2 x3=if(decide (x0 < (N0 x3:Int)))=true then ix x3 x0 (aN.dflt) fun y1=>(vL y1.1).bind fun z1=>if(!z1.1.1)=true then some ((false,()),()) else(jf (x1,x2,x3,()) y1.2.1).bind fun z2=>if(decide (z2.1.1 < 0))=true then some ((false,()),()) else if(decide (x0 > 0))=true then ix x3 (aq_ ar_ (x0 - 1)) (aN.dflt) fun y2=>if(!Op.bytesLess (M1 y2.1) (M1 y1.1))=true then some ((false,()),()) else dF (aq_ ar_ (x0+1)) x1 x2 x3 else dF (aq_ ar_ (x0+1)) x1 x2 x3 else some ((true,()),()):=bA
theorem oP {x0 x1 x2 x3 x4 x5 x6 x7 x8}:fH x0 x1 x2 x3 x4 x5 x6 x7 x8=if(decide (x1 < (N0 x7:Int)))=true then ix x7 x1 0 fun y1=>(p9 x5 y1).bind fun z1=>if(!z1.1.1)=true then ix x7 x1 0 fun y2=>mf x5 ([y2]:(List Int)) 8 fun y3=>fH x0 (aq_ ar_ (x1+1)) x2 x3 x4 y3 x6 x7 x8 else fH x0 (aq_ ar_ (x1+1)) x2 x3 x4 x5 x6 x7 x8 else gK (aq_ ar_ (x0+1)) x2 x3 x4 x5:=bA
theorem n7 {x0 x1 x2 x3 x4 x5}:gf x0 x1 x2 x3 x4 x5=if(decide (x0 < (N0 x2:Int)))=true then ix x2 x0 (aC.dflt) fun y1=>(p9 x4 y1.1).bind fun z1=>if z1.1.1=true then ix x2 x0 (aC.dflt) fun y2=>mf x5 ([y2.1]:(List Int)) 8 fun y3=>gf (aq_ ar_ (x0+1)) x1 x2 x3 x4 y3 else gf (aq_ ar_ (x0+1)) x1 x2 x3 x4 x5 else some ((x5,()),()):=bA
theorem ke {x0 x1 x2 x3 x4 x5 x6 x7}:bF x0 x1 x2 x3 x4 x5 x6 x7=if(decide (x4≤11))=true then(j6 x5 x6 x7).bind fun z1=>(qc x4).bind fun z2=>if(M1 z1.1.1 == M1 z2.1.1)=true then bF x0 x1 x2 x4 (aq_ ar_ (x4+1)) z1.2.1.1 z1.2.1.2.2.1 z1.2.1.2.1 else bF x0 x1 x2 x3 (aq_ ar_ (x4+1)) z1.2.1.1 z1.2.1.2.2.1 z1.2.1.2.1 else if(x3 == 0)=true then some ((x2,()),((x5,x7,x6,()),())) else(tk x3).bind fun z3=>if(decide (z3.1.1 < x0))=true then some ((x2,()),((x5,x7,x6,()),())) else(qc x3).bind fun z4=>(aY z4.1.1 x5 x6 x7).bind fun z5=>(tk x3).bind fun z6=>(bb (aq_ ar_ (z6.1.1+1)) x1 z5.2.1.1 z5.2.1.2.2.1 z5.2.1.2.1).bind fun z7=>(aG (5,x3,(0,0,⟨#[]⟩,()),((0,0,()),false,false,()),((0,0,()),false,false,()),([x2,z7.1.1]:(List Int)),()) z7.2.1.1 z7.2.1.2.2.1 z7.2.1.2.1).bind fun z8=>dj x0 x1 z8.1.1 z8.2.1.1 z8.2.1.2.2.1 z8.2.1.2.1:=bA
theorem l8 {x0 x1 x2 x3 x4 x5}:dG x0 x1 x2 x3 x4 x5=if(decide (x2 < x1))=true then ix x0 x2 (aN.dflt) fun y1=>(yp y1.1).bind fun z1=>if(!z1.1.1)=true then some ((false,()),()) else if(decide (x2 > 0))=true then ix x5 (aq_ ar_ (x2 - 1)) (aN.dflt) fun y2=>if(!Op.bytesLess (M1 y2.1) (M1 y1.1))=true then some ((false,()),()) else(dN (x3,x4,x5,()) y1.2.1).bind fun z2=>if(decide (z2.1.1 < 0))=true then some ((false,()),()) else dG x0 x1 (aq_ ar_ (x2+1)) x3 x4 x5 else(dN (x3,x4,x5,()) y1.2.1).bind fun z3=>if(decide (z3.1.1 < 0))=true then some ((false,()),()) else dG x0 x1 (aq_ ar_ (x2+1)) x3 x4 x5 else some ((true,()),()):=bA
theorem n8 {x0 x1 x2 x3 x4 x5 x6 x7}:eU x0 x1 x2 x3 x4 x5 x6 x7=if(decide (x3 < x2))=true then ix x1 x3 0 fun y1=>(cu x7 y1).bind fun z1=>if(!z1.1.1)=true then mf x7 ([y1]:(List Int)) 8 fun y2=>eU x0 x1 x2 (aq_ ar_ (x3+1)) x4 x5 x6 y2 else eU x0 x1 x2 (aq_ ar_ (x3+1)) x4 x5 x6 x7 else gd (aq_ ar_ (x0+1)) x4 x5 x6 x7:=bA
end Go.Proofs.YtfffplonjaigkaaGreatDoor.Abs
set_option linter.unusedSectionVars false
namespace Go.Proofs.YtfffplonjaigkaaGreatDoor.Abs
open Go
abbrev eS:L9:=⟨#[]⟩
theorem Ga (a b:Int):(a == b)=decide (a=b):=rfl
def bV (n lo hi:Int):Bool:=decide (lo≤n∧n≤hi)
theorem dH (n lo hi:Int):dc n lo hi=some ((bV n lo hi,()),()):=by
 rw[F2]
 unfold bV
 by_cases h:lo≤n <;> simp[h]
theorem gN (n lo hi:Int):iT n lo hi=some ((bV n lo hi,()),()):=by
 rw[Jk]
 unfold bV
 by_cases h:lo≤n <;> simp[h]
theorem bu {n lo hi:Int}:bV n lo hi=true↔lo≤n∧n≤hi:=by simp[bV]
def bS (r:eB):Bool:=bV r.1 1 52 && bV r.2.1 1 99
theorem lK (r:eB):db r=some ((bS r,()),()):=by
 rw[HD]
 unfold bS
 simp only[gN,M0]
 cases bV r.1 1 52 <;> simp
theorem oQ (r:eB):nH r=some ((bS r,()),()):=by
 rw[HG]
 unfold bS
 simp only[dH,M0]
 cases bV r.1 1 52 <;> simp
def kf (a:uf):Bool:=bS a.1 && bS a.2.1 && decide (a.1.1≤a.2.1.1) && decide (a.1.2.1≤a.2.1.2.1)
theorem Gb (a:uf):yl a=some ((kf a,()),()):=by
 rw[FS]
 unfold kf
 simp only[lK,M0]
 cases bS a.1 <;> cases bS a.2.1 <;> by_cases h:a.1.1≤a.2.1.1 <;> simp[h]
theorem Gc (a:uf):uk a=some ((kf a,()),()):=by
 rw[F7]
 unfold kf
 simp only[oQ,M0]
 cases bS a.1 <;> cases bS a.2.1 <;> by_cases h:a.1.1≤a.2.1.1 <;> simp[h]
def n9 (b:Int):Bool:=decide (32≤b∧b≤126)
def plain (s:L9):Bool:=(jz s).all n9
theorem r8 {s:L9} (hs:s.size≤9223372036854775807) : ∀(ys pre:List Int),jz s=pre++ys→lp s (pre.length:Int)=some ((ys.all n9 && decide ((s.size:Int)≤200),()),())
 | [],pre,he=>by
  rw[qk,aq (EU he)]
  simp
 | y :: ys,pre,he=>by
  rw[qk,av (Hx he),tu he,tu he,Cl he hs,r8 hs ys _ (bh he)]
  by_cases h1:y < 32
  ·have:n9 y=false:=by simp[n9]; omega
   simp[h1,this]
  ·by_cases h2:y > 126
   ·have:n9 y=false:=by simp[n9]; omega
    simp[h1,h2,this]
   ·have:n9 y=true:=by simp[n9]; omega
    simp[h1,h2,this]
theorem pm {s:L9} (hs:s.size≤9223372036854775807):ny s=some ((plain s && decide ((s.size:Int)≤200),()),()):=by
 rw[DU]
 exact r8 hs (jz s) [] rfl
theorem tA {s:L9} {m:Int} (hs:s.size≤9223372036854775807) : ∀(ys pre:List Int),jz s=pre++ys→mD s m (s.size:Int) (pre.length:Int)=some ((ys.all n9 && decide ((s.size:Int)≤m),()),())
 | [],pre,he=>by
  rw[r7,aq (EU he)]
  simp
 | y :: ys,pre,he=>by
  rw[r7,av (Hx he),tu he,tu he,Cl he hs,tA hs ys _ (bh he)]
  by_cases h1:y < 32
  ·have:n9 y=false:=by simp[n9]; omega
   simp[h1,this]
  ·by_cases h2:y > 126
   ·have:n9 y=false:=by simp[n9]; omega
    simp[h1,h2,this]
   ·have:n9 y=true:=by simp[n9]; omega
    simp[h1,h2,this]
theorem rz {s:L9} {m:Int} (hs:s.size≤9223372036854775807):qb s m=some ((plain s && decide ((s.size:Int)≤m),()),()):=by
 rw[F3]
 exact tA hs (jz s) [] rfl
def aM (v:ay):Bool :=
 if v.1=2 then decide (v.2.1=0) && (plain v.2.2.1 && decide ((v.2.2.1.size:Int)≤200)) else
 decide (v.2.2.1=eS) && (if v.1=0 then decide (v.2.1=0) else if v.1=1 then bV v.2.1 (-1000000000000000) 1000000000000000 else if v.1=3 then bV v.2.1 0 1 else if v.1=4 then bV v.2.1 1 5 else false)
theorem iJ {v:ay} (h:v.2.2.1.size≤9223372036854775807):eC v=some ((aM v,()),()):=by
 rw[DW]
 unfold aM
 simp only[gN,pm h,M0,S1,zz]
 by_cases h0:v.1=0
 ·by_cases h1:v.2.1=0 <;> simp[h0,h1]
 by_cases h1:v.1=1
 ·cases bV v.2.1 (-1000000000000000) 1000000000000000 <;> simp[h1]
 by_cases h2:v.1=2
 ·by_cases h1:v.2.1=0 <;> simp[h2,h1]
 by_cases h3:v.1=3
 ·cases bV v.2.1 0 1 <;> simp[h3]
 by_cases h4:v.1=4
 ·cases bV v.2.1 1 5 <;> simp[h4]
 simp[h0,h1,h2,h3,h4]
theorem pn {v:ay} (h:v.2.2.1.size≤9223372036854775807):eE v=some ((aM v,()),()):=by
 rw[D8]
 unfold aM
 simp only[dH,rz h,M0,S1,zz]
 by_cases h2:v.1=2
 ·by_cases h1:v.2.1=0 <;> simp[h2,h1]
 by_cases he:v.2.2.1=eS
 ·by_cases h0:v.1=0
  ·by_cases h1:v.2.1=0 <;> simp[h0,h1,he]
  by_cases h1:v.1=1
  ·cases bV v.2.1 (-1000000000000000) 1000000000000000 <;> simp[h1,he]
  by_cases h3:v.1=3
  ·cases bV v.2.1 0 1 <;> simp[h3,he]
  by_cases h4:v.1=4
  ·cases bV v.2.1 1 5 <;> simp[h4,he]
  simp[h0,h1,h2,h3,h4,he]
 ·simp[h2,he]
theorem fg {v:ay} (h:aM v=true):v.2.2.1.size≤200:=by
 unfold aM at h
 split at h
 ·simp only[M7,M9] at h
  omega
 ·simp only[M7,M9] at h
  rw[h.1]
  decide
theorem oS {v:ay} (h:aM v=true):v.2.2.1.size≤9223372036854775807:=Q3 (fg h) (by decide)
def vN (n:Int):ay:=(1,n,eS,())
def vE (n:Int):ay:=(4,n,eS,())
def vB (b:Bool):ay:=(3,if b=true then 1 else 0,eS,())
def vT (s:L9):ay:=(2,0,s,())
def v0:ay:=(0,0,eS,())
theorem Eg (n:Int):vH n=some ((vE n,()),()):=DX
theorem zR (n:Int):w8 n=some ((vE n,()),()):=HH
theorem xv (n:Int):ui n=some ((vN n,()),()):=F4
theorem HN (b:Bool):w9 b=some ((vB b,()),()):=by
 rw[HI]
 cases b <;> rfl
section
variable {a b:ay} (ha:a.2.2.1.size≤9223372036854775807) (hb:b.2.2.1.size≤9223372036854775807)
include ha hb
end
section
variable {a b:ay} (ha:a.2.2.1.size≤9223372036854775807) (hb:b.2.2.1.size≤9223372036854775807)
include ha hb
end
theorem L1 {n:Int} (h0:0≤n) (h1:n≤255):IntKind.u8.wrap n=n:=by
 simp only[IntKind.wrap,IntKind.bits,IntKind.signed]
 simp
 omega
theorem xw : ∀(k u:Nat),u < 10 ^ (k+1)→(O1 u).length≤k+1
 | 0,u,h=>by
  have h:u < 10:=by simpa using h
  rw[O1,dif_pos h]
  simp
 | k+1,u,h=>by
  rw[O1]
  split
  ·simp
  ·have:=xw k (u / 10) (by rw[Nat.pow_succ] at h; exact Nat.div_lt_of_lt_mul (by omega))
   rw[M6]
   simp only[M3]
   omega
theorem mF {x:Nat} (h:x < 10):strOfNums ([IntKind.u8.wrap (aq_ ar_ (48+(x:Int)))]:List Int)=⟨#[UInt8.ofNat (48+x)]⟩:=by
 rw[wr (by omega) (by omega),L1 (by omega) (by omega)]
 unfold strOfNums
 simp only[List.map_cons,List.map_nil]
 congr 3
theorem qu {a b:L9} (h:a.data.toList=b.data.toList):a=b:=by
 cases a; cases b
 congr 1
 exact Array.toList_inj.1 h
theorem tB : ∀(n u:Nat) (acc:L9),u≤n→u≤9223372036854775807→acc.size+n≤9223372036854775806→lF (u:Int) acc=some ((⟨(O1 u).toArray⟩++acc,()),()):=by
 intro n
 induction n with
 | zero =>
  intro u acc h1 h2 h3
  have:u=0:=by omega
  subst this
  rw[nY,aq (by decide),show((0:Nat):Int)=((0:Nat):Int) from rfl,mF (x:=0) (by decide),kV (by simp only[N6]; simp; have:acc.data.size=acc.size:=rfl; omega)]
  rw[O1,dif_pos (by decide)]
 | succ n ih =>
  intro u acc h1 h2 h3
  rw[nY]
  have hs : ∀ c:UInt8,(⟨#[c]⟩:L9).size=1:=fun _=>rfl
  by_cases h:u < 10
  ·rw[aq (by omega),mF h,kV (by rw[hs]; omega)]
   rw[O1,dif_pos h]
  ·have e1:Int.tmod (u:Int) 10=((u % 10:Nat):Int):=by
    rw[Int.tmod_eq_emod_of_nonneg (by omega)]
    omega
   have e2:Int.tdiv (u:Int) 10=((u / 10:Nat):Int):=by
    rw[Int.tdiv_eq_ediv_of_nonneg (by omega)]
    omega
   rw[av (by omega),e1,e2,mF (Nat.mod_lt _ (by decide)),kV (by rw[hs]; omega),wr (by omega) (by omega),ih (u / 10) _ (by omega) (by omega) (by rw[size_append,hs]; omega)]
   conv=>rhs; rw[O1,dif_neg h]
   congr 3
   apply qu
   simp
theorem oT (u:Nat):eL (u:Int)=⟨(O1 u).toArray⟩:=by
 unfold eL Lib.itoa
 rw[M2 (by omega)]
 simp
theorem tC {n:Int} (h:n < 0):eL n=⟨#[45]⟩++eL (-n):=by
 unfold eL Lib.itoa
 rw[M5 h,M2 (by omega)]
 apply qu
 simp
 congr 1
 omega
theorem yI {u:Nat} (h:u≤9223372036854775807):(⟨(O1 u).toArray⟩:L9).size≤19:=by
 have:=xw 18 u (by omega)
 simpa[N6] using this
theorem rA {n:Int} (h0 : -9223372036854775807≤n) (h1:n≤9223372036854775807):(eL n).size≤20:=by
 by_cases h:n < 0
 ·rw[tC h,size_append,show -n=((-n).toNat:Int) by omega,oT]
  have:=yI (u:=(-n).toNat) (by omega)
  have h1:(⟨#[45]⟩:L9).size=1:=rfl
  omega
 ·rw[show n=(n.toNat:Int) by omega,oT]
  have:=yI (u:=n.toNat) (by omega)
  omega
theorem xx {u:Nat} (h:u≤9223372036854775807):iy (u:Int)=some ((eL (u:Int),()),()):=by
 have h19:=yI h
 rw[zQ,aq (by omega),oT]
 have h2 : ∀ acc:L9,acc.size=0→lF (u:Int) acc=some ((⟨(O1 u).toArray⟩++acc,()),()):=by
  intro acc ha
  by_cases hu:u≤9223372036854775806
  ·exact tB u u acc (N4 _) h (by omega)
  ·have hu:u=9223372036854775807:=by omega
   subst hu
   have hs : ∀ c:UInt8,(⟨#[c]⟩:L9).size=1:=fun _=>rfl
   have e1:Int.tmod ((9223372036854775807:Nat):Int) 10=((7:Nat):Int):=by decide
   have e2:Int.tdiv ((9223372036854775807:Nat):Int) 10=((922337203685477580:Nat):Int):=by decide
   rw[nY,av (by decide),e1,e2,mF (by decide),kV (by rw[hs]; omega),wr (by omega) (by omega),tB 922337203685477580 _ _ (by omega) (by omega) (by rw[size_append,hs]; omega)]
   conv=>rhs; rw[O1,dif_neg (by decide)]
   congr 3
   apply qu
   simp
 rw[h2 _ rfl]
 congr 3
 apply qu
 simp
theorem zS {n:Int} (h0 : -9223372036854775807≤n) (h1:n≤9223372036854775807):iy n=some ((eL n,()),()):=by
 by_cases h:n < 0
 ·have hz:=rA (n := -n) (by omega) (by omega)
  have h45:(⟨#[45]⟩:L9).size=1:=rfl
  rw[zQ,av h,wr (by omega) (by omega),show(0 - n:Int)=((-n).toNat:Int) by omega,xx (by omega),show(((-n).toNat:Nat):Int) = -n by omega]
  simp only[M0]
  rw[kV (by omega),←tC h]
 ·rw[show n=(n.toNat:Int) by omega]
  exact xx (by omega)
theorem po {n:Int} (h0 : -9223372036854775808≤n) (h1:n≤9223372036854775807):fZ n=some ((eL n,()),()):=by
 rw[D9,rx]
 show(if(10:Int)=10∧_∧_ then _ else _:Option _).bind _=_
 rw[M5 ⟨rfl,h0,h1⟩]
 rfl
def K7:List L9:=[(⟨#[]⟩:L9),(⟨#[35,68,73,86,33]⟩:L9),(⟨#[35,84,89,80,69,33]⟩:L9),(⟨#[35,82,69,70,33]⟩:L9),(⟨#[35,79,86,69,82,33]⟩:L9),(⟨#[35,67,89,67,76,69,33]⟩:L9)]
def cA (n:Int):L9:=K7.getD n.toNat eS
theorem rB {n:Int} (h0:0≤n) (h1:n≤5):p5 n=some ((cA n,()),()):=by
 rw[FU,iH h0 (by show n < 6; omega)]
 rfl
theorem l9 {n:Int} (h0:0≤n) (h1:n≤5):j7 n=some ((cA n,()),()):=by
 rw[AL,iH h0 (by show n < 6; omega)]
 rfl
def xy (n:Int):L9:=if n=1 then⟨#[84,82,85,69]⟩ else⟨#[70,65,76,83,69]⟩
theorem Gd (n:Int):yn n=some ((xy n,()),()):=by
 rw[FY]
 unfold xy
 by_cases h:n=1 <;> simp[h]
def cT (v:ay):L9:=if v.1=1 then eL v.2.1 else if v.1=2 then(⟨#[39]⟩:L9)++v.2.2.1 else if v.1=3 then xy v.2.1 else if v.1=4 then cA v.2.1 else eS
theorem uq {v:ay} (h:aM v=true) (k:v.1=1) : -1000000000000000≤v.2.1∧v.2.1≤1000000000000000:=by
 unfold aM at h
 rw[M2 (by omega),M2 (by omega),M5 k] at h
 simp only[M7,M9] at h
 exact bu.1 h.2
theorem EV {v:ay} (h:aM v=true) (k:v.1=3):0≤v.2.1∧v.2.1≤1:=by
 unfold aM at h
 rw[M2 (by omega),M2 (by omega),M2 (by omega),M5 k] at h
 simp only[M7,M9] at h
 exact bu.1 h.2
theorem ur {v:ay} (h:aM v=true) (k:v.1=4):1≤v.2.1∧v.2.1≤5:=by
 unfold aM at h
 rw[M2 (by omega),M2 (by omega),M2 (by omega),M2 (by omega),M5 k] at h
 simp only[M7,M9] at h
 exact bu.1 h.2
theorem Ge {v:ay} (h:aM v=true):v.1=0∨v.1=1∨v.1=2∨v.1=3∨v.1=4:=by
 unfold aM at h
 split at h
 ·omega
 ·simp only[M7] at h
  have h:=h.2
  split at h
  ·omega
  ·split at h
   ·omega
   ·split at h
    ·omega
    ·split at h
     ·omega
     ·cases h
theorem HO (n:Int):(cA n).size≤10:=by
 have h : ∀ i:Nat,i < 6→(K7.getD i eS).size≤10:=by decide
 unfold cA
 by_cases hn:n.toNat < 6
 ·exact h _ hn
 ·rw[P7,List.getElem?_eq_none (by show 6≤n.toNat; omega)]
  decide
theorem HP {v:ay} (h:aM v=true):(cT v).size≤201:=by
 have hs:=fg h
 unfold cT
 split
 ·have:=uq h ‹_›
  exact Q3 (rA (by omega) (by omega)) (by decide)
 ·split
  ·rw[size_append]
   have:(⟨#[39]⟩:L9).size=1:=rfl
   omega
  ·split
   ·unfold xy
    split <;> decide
   ·split
    ·exact Q3 (HO _) (by decide)
    ·decide
theorem Gf {β:Type} {s:L9} {f:L9→Option β} (h:s.size≤9223372036854775806):aZ (⟨#[39]⟩:L9) s f=f ((⟨#[39]⟩:L9)++s):=kV (by
 have:(⟨#[39]⟩:L9).size=1:=rfl
 omega)
theorem iV {v:ay} (hs:v.2.2.1.size≤9223372036854775807):fb v=some ((if aM v=true then cT v else eS,()),()):=by
 rw[AH,iJ hs,M0]
 unfold cT
 cases h:aM v
 ·rfl
 ·have hz:=fg h
  simp only[O5,M8,O0,O4,S1]
  by_cases h1:v.1=1
  ·have:=uq h h1
   simp[h1,zS (n:=v.2.1) (by omega) (by omega)]
  by_cases h2:v.1=2
  ·simp only[h2,O4,Gf (s:=v.2.2.1) (by omega)]
   rfl
  by_cases h3:v.1=3
  ·simp[h3,Gd]
  by_cases h4:v.1=4
  ·have:=ur h h4
   simp[h4,rB (n:=v.2.1) (by omega) (by omega)]
  simp[h1,h2,h3,h4]
theorem r9 {v:ay} (h:aM v=true):dD v=some ((cT v,()),()):=by
 rw[AM]
 unfold cT
 have hz:=fg h
 simp only[S1]
 by_cases h1:v.1=1
 ·have:=uq h h1
  simp[h1,po (n:=v.2.1) (by omega) (by omega)]
 by_cases h2:v.1=2
 ·simp only[h2,O4,Gf (s:=v.2.2.1) (by omega)]
  rfl
 by_cases h3:v.1=3
 ·have:=EV h h3
  simp only[h3,O4]
  rw[M2 (by decide),M2 (by decide),M2 (by decide),M2 (by decide),iH (by omega) (by show v.2.1 < 2; omega)]
  unfold xy
  by_cases h5:v.2.1=1
  ·rw[h5]
   rfl
  ·rw[show v.2.1=0 by omega]
   rfl
 by_cases h4:v.1=4
 ·have:=ur h h4
  simp[h4,l9 (n:=v.2.1) (by omega) (by omega)]
 simp[h1,h2,h3,h4]
section
variable {a b:ay} (ha:a.2.2.1.size≤9223372036854775807) (hb:b.2.2.1.size≤9223372036854775807)
include ha hb
end
def v6 (x y:Int):Int:=if x < y then -1 else if y < x then 1 else 0
theorem zT (x y:Int):fw x y=some ((v6 x y,()),()):=by
 rw[rs,lG,lG]
 unfold v6
 simp
 by_cases h:x < y
 ·simp[h]
 ·by_cases h2:y < x <;> simp[h,h2]
theorem CB {l:List Int} (hl:l.length≤100) : ∀(ys pre:List Int),l=pre++ys→iU 0 l (l.length:Int) (pre.length:Int)=some (((ys.find? fun y=>decide (y≠0)).getD 0,()),())
 | [],pre,he=>by
  rw[n3,aq (df he)]
  rfl
 | y :: ys,pre,he=>by
  rw[n3,av (bQ he),bG he,aV he (by omega),CB hl ys _ (bh he)]
  by_cases h:y=0
  ·simp[h]
  ·simp[h]
theorem Jn {l:List Int} (hl:l.length≤100):rj l=some (((l.find? fun y=>decide (y≠0)).getD 0,()),()):=by
 rw[AK]
 exact CB hl l [] rfl
section
variable {op:Int} {a b:ay} (ha:a.2.2.1.size≤9223372036854775807) (hb:b.2.2.1.size≤9223372036854775807)
include ha hb
end
abbrev p0:bM:=((0,0,()),false,false,())
abbrev ab.kids (x:ab):List Int:=x.2.2.2.2.2.1
def oa (op k:Int):Bool:=if op=5 then(decide (k=2) || decide (k=3)) else if bV op 1 7=true then bV k 1 10 else if bV op 8 10=true then decide (k=1) else false
def kl (x:ab):Int:=(N0 x.2.2.2.2.2.1:Int)
def dw (x:ab):Bool :=
 if x.1=1 then decide (x.2.1=0) && decide (x.2.2.2.1=p0) && decide (x.2.2.2.2.1=p0) && decide (kl x=0) && aM x.2.2.1 && !decide (x.2.2.1.1=0) && (!decide (x.2.2.1.1=1) || decide (0≤x.2.2.1.2.1))
 else if x.1=2 then decide (x.2.1=0) && decide (x.2.2.1=v0) && decide (x.2.2.2.2.1=p0) && decide (kl x=0) && bS x.2.2.2.1.1
 else if x.1=3 then decide (x.2.1=0) && decide (x.2.2.1=v0) && decide (kl x=0) && kf (x.2.2.2.1.1,x.2.2.2.2.1.1,())
 else if x.1=4 then decide (x.2.1=0) && decide (x.2.2.1=v0) && decide (x.2.2.2.1=p0) && decide (x.2.2.2.2.1=p0) && decide (kl x=1)
 else if x.1=5 then bV x.2.1 1 11 && decide (x.2.2.1=v0) && decide (x.2.2.2.1=p0) && decide (x.2.2.2.2.1=p0) && decide (kl x=2)
 else if x.1=6 then oa x.2.1 (kl x) && decide (x.2.2.1=v0) && decide (x.2.2.2.1=p0) && decide (x.2.2.2.2.1=p0)
 else false
theorem Jo {a b:bM}:(bZ aX a b=true)=(a=b):=propext (qg rfl)
theorem Jp {a b:ay}:(bZ aU a b=true)=(a=b):=propext (qg rfl)
theorem JV (a b:bM):bZ aX a b=decide (a=b):=by
 rw[R8,M9,Jo]
theorem JW (a b:ay):bZ aU a b=decide (a=b):=by
 rw[R8,M9,Jp]
theorem Gg (op k:Int):ym op k=some ((oa op k,()),()):=by
 rw[FT]
 unfold oa bV
 simp only[S1,M9,ge_iff_le,Ga]
 by_cases h:op=1∨op=2∨op=3∨op=4∨op=5∨op=6∨op=7∨op=8∨op=9∨op=10
 ·by_cases hk:1≤k <;> by_cases hk2:k=2 <;> rcases h with rfl | rfl | rfl | rfl | rfl | rfl | rfl | rfl | rfl | rfl <;> simp[hk,hk2] <;> omega
 ·have h1:op≠1:=by omega
  have h2:op≠2:=by omega
  have h3:op≠3:=by omega
  have h4:op≠4:=by omega
  have h5:op≠5:=by omega
  have h6:op≠6:=by omega
  have h7:op≠7:=by omega
  have h8:op≠8:=by omega
  have h9:op≠9:=by omega
  have h10:op≠10:=by omega
  have h11 : ¬(1≤op∧op≤7):=by omega
  have h12 : ¬(8≤op∧op≤10):=by omega
  simp only[h1,h2,h3,h4,h5,h6,h7,h8,h9,h10,h11,h12,O0]
theorem tD {x:ab} (h:x.2.2.1.2.2.1.size≤9223372036854775807):oE x=some ((dw x,()),()):=by
 rw[Cq]
 unfold dw kl
 simp only[iJ h,lK,Gb,gN,Gg,M0,S1,bne_iff_ne,ne_eq,Jo,Jp,JV,JW,Ga,v0,ge_iff_le]
 generalize (N0 x.2.2.2.2.2.1:Int)=k
 by_cases h1:x.1=1
 ·by_cases a1:x.2.1=0 <;> by_cases a2:x.2.2.2.1=p0 <;> by_cases a3:x.2.2.2.2.1=p0 <;> by_cases a4:k=0 <;> cases ov:aM x.2.2.1 <;> by_cases a5:x.2.2.1.1=0 <;> by_cases a6:x.2.2.1.1=1 <;> simp[a1,a2,a3,a4,a5,a6,h1,ov]
 by_cases h2:x.1=2
 ·by_cases a1:x.2.1=0 <;> by_cases a2:x.2.2.1=(0,0,eS,()) <;> by_cases a3:x.2.2.2.2.1=p0 <;> by_cases a4:k=0 <;> simp[a1,a2,a3,a4,h2]
 by_cases h3:x.1=3
 ·by_cases a1:x.2.1=0 <;> by_cases a2:x.2.2.1=(0,0,eS,()) <;> by_cases a4:k=0 <;> simp[a1,a2,a4,h3]
 by_cases h4:x.1=4
 ·by_cases a1:x.2.1=0 <;> by_cases a2:x.2.2.1=(0,0,eS,()) <;> by_cases a3:x.2.2.2.1=p0 <;> by_cases a4:x.2.2.2.2.1=p0 <;> simp[a1,a2,a3,a4,h4]
 by_cases h5:x.1=5
 ·cases hi:bV x.2.1 1 11 <;> by_cases a2:x.2.2.1=(0,0,eS,()) <;> by_cases a3:x.2.2.2.1=p0 <;> by_cases a4:x.2.2.2.2.1=p0 <;> simp[a2,a3,a4,h5,hi]
 by_cases h6:x.1=6
 ·cases hi:oa x.2.1 k <;> by_cases a2:x.2.2.1=(0,0,eS,()) <;> by_cases a3:x.2.2.2.1=p0 <;> simp[a2,a3,h6,hi]
 simp[h1,h2,h3,h4,h5,h6]
theorem xz {x:ab} (h:x.2.2.1.2.2.1.size≤9223372036854775807):nJ x=some ((dw x,()),()):=by
 have c1 : ∀ a:bM,(p0=a)=(a=p0):=fun a=>propext eq_comm
 have c2 : ∀ a:ay,((0,0,eS,())=a)=(a=(0,0,eS,())):=fun a=>propext eq_comm
 rw[xm,tw,vU]
 unfold dw kl oa
 simp only[pn h,yz,Gc,dH,M0,S1,bne_iff_ne,ne_eq,Jo,Jp,JV,JW,Ga,v0,ge_iff_le,c1,c2]
 generalize (N0 x.2.2.2.2.2.1:Int)=k
 by_cases h1:x.1=1
 ·simp only[h1,O4]
  by_cases a1:x.2.1=0 <;> by_cases a2:x.2.2.2.1=p0 <;> by_cases a3:x.2.2.2.2.1=p0 <;> by_cases a4:k=0 <;> cases aM x.2.2.1 <;> by_cases a5:x.2.2.1.1=0 <;> by_cases a6:x.2.2.1.1=1 <;> by_cases a7:x.2.2.1.2.1 < 0 <;> have a8:(0≤x.2.2.1.2.1) = ¬x.2.2.1.2.1 < 0:=propext (by omega) <;> simp[a1,a2,a3,a4,a5,a6,a7,a8]
 by_cases h2:x.1=2
 ·have e:kf (x.2.2.2.1.1,x.2.2.2.1.1,())=bS x.2.2.2.1.1:=by
   unfold kf
   simp
  by_cases a1:x.2.1=0 <;> by_cases a2:x.2.2.1=(0,0,eS,()) <;> by_cases a3:x.2.2.2.2.1=p0 <;> by_cases a4:k=0 <;> cases hr:bS x.2.2.2.1.1 <;> simp[a1,a2,a3,a4,h2,e,hr]
 by_cases h3:x.1=3
 ·by_cases a1:x.2.1=0 <;> by_cases a2:x.2.2.1=(0,0,eS,()) <;> by_cases a4:k=0 <;> cases hr:kf (x.2.2.2.1.1,x.2.2.2.2.1.1,()) <;> simp[a1,a2,a4,h3,hr]
 by_cases h4:x.1=4
 ·by_cases a1:x.2.1=0 <;> by_cases a2:x.2.2.1=(0,0,eS,()) <;> by_cases a3:x.2.2.2.1=p0 <;> by_cases a4:x.2.2.2.2.1=p0 <;> by_cases a5:k=1 <;> simp[a1,a2,a3,a4,a5,h4]
 by_cases h5:x.1=5
 ·cases hi:bV x.2.1 1 11 <;> by_cases a2:x.2.2.1=(0,0,eS,()) <;> by_cases a3:x.2.2.2.1=p0 <;> by_cases a4:x.2.2.2.2.1=p0 <;> by_cases a5:k=2 <;> simp[a2,a3,a4,a5,h5,hi]
 by_cases h6:x.1=6
 ·by_cases a2:x.2.2.1=(0,0,eS,()) <;> by_cases a3:x.2.2.2.1=p0 <;> by_cases a4:x.2.2.2.2.1=p0 <;> simp only[a2,a3,a4,h6,O4,O0,decide_true,decide_false,Bool.and_false,Z0]
  all_goals
   generalize x.2.1=op
   unfold bV
   by_cases b1:1≤op∧op≤10
   ·by_cases b2:op=5
    ·subst b2
     by_cases b3:2≤k∧k≤3
     ·have:k=2∨k=3:=by omega
      rcases this with rfl | rfl <;> simp
     ·have : ¬k=2:=by omega
      have : ¬k=3:=by omega
      simp[b3, *]
    ·by_cases b3:8≤op
     ·have b4 : ¬(op≤7):=by omega
      have b5:op≤10:=by omega
      by_cases b6:k=1 <;> simp[b1,b2,b3,b4,b5,b6]
     ·have b4:op≤7:=by omega
      by_cases b6:1≤k∧k≤10 <;> simp[b1,b2,b3,b4,b6]
   ·have b2 : ¬op=5:=by omega
    have b3 : ¬(1≤op∧op≤7):=by omega
    have b4 : ¬(8≤op∧op≤10):=by omega
    simp[b1,b2,b3,b4]
 simp[h1,h2,h3,h4,h5,h6]
def ip (f:List ab) (i:Int):Bool:=decide ((f.getD i.toNat af.dflt).1=3)
def CC (f:List ab) (k:Int):ab:=f.getD k.toNat af.dflt
def dI (c:Int→Option (Int×Nat)) (f:List ab) (call:Bool):List Int→Int→Nat→Option (Int×Nat)
 | [],cur,h=>some (cur,h+1)
 | kid :: l,cur,h=>if kid=cur - 1∧0≤kid∧(ip f kid=true→call=true) then(c kid).bind fun p=>dI c f call l p.1 (max h p.2) else none
def dx (f:List ab):Nat→Int→Option (Int×Nat)
 | 0,_=>none
 | n+1,k=>if 0≤k then match f[k.toNat]? with
  | none=>none
  | some x=>if dw x=true then dI (dx f n) f (decide (x.1=6)) x.2.2.2.2.2.1.reverse k 0 else none
  else none
def kg (f:List ab) (i:Nat) (x:ab):Prop:=dw x=true ∧ ∀ k∈x.2.2.2.2.2.1,0≤k∧k < i∧(ip f k=true→x.1=6)
theorem lL {c:Int→Option (Int×Nat)} {f:List ab} {call:Bool} (hc : ∀ k s h,c k=some (s,h)→0≤s∧s≤k ∧ ∀ i:Nat,s≤i→(i:Int)≤k → ∃ x,f[i]? = some x∧kg f i x) :
  ∀(l:List Int) (cur:Int) (h:Nat) (s:Int) (h':Nat),0≤cur→dI c f call l cur h=some (s,h')→0≤s∧s≤cur∧h+1≤h'∧(∀ i:Nat,s≤i→(i:Int) < cur → ∃ x,f[i]? = some x∧kg f i x) ∧ ∀ k∈l,0≤k∧k < cur∧(ip f k=true→call=true)
 | [],cur,h,s,h',h0,e=>by
  simp only[dI,O2,Y7] at e
  obtain⟨rfl,rfl⟩:=e
  exact⟨h0,V2 _,N4 _,fun i h1 h2=>by omega,fun k hk=>by cases hk⟩
 | kid :: l,cur,h,s,h',h0,e=>by
  simp only[dI] at e
  split at e
  ·rename_i hk
   rw[M4] at e
   obtain⟨⟨t,ht⟩,e1,e2⟩:=e
   obtain⟨a1,a2,a3⟩:=hc _ _ _ e1
   obtain⟨b1,b2,b3,b4,b5⟩:=lL hc l t (max h ht) s h' a1 e2
   refine⟨b1,by omega,by omega,fun i h1 h2 => ?_,fun k hm => ?_⟩
   ·by_cases hi:(i:Int) < t
    ·exact b4 i h1 hi
    ·exact a3 i (by omega) (by omega)
   ·rcases O9.1 hm with rfl | hm
    ·exact⟨hk.2.1,by omega,hk.2.2⟩
    ·have:=b5 k hm
     exact⟨this.1,by omega,this.2.2⟩
  ·cases e
theorem eV (f:List ab) : ∀(n:Nat) (k s:Int) (h:Nat),dx f n k=some (s,h)→0≤s∧s≤k ∧ ∀ i:Nat,s≤i→(i:Int)≤k → ∃ x,f[i]? = some x∧kg f i x
 | 0,_,_,_,e=>by cases e
 | n+1,k,s,h,e=>by
  simp only[dx] at e
  split at e
  ·rename_i h0
   split at e
   ·cases e
   ·rename_i x hx
    split at e
    ·rename_i ho
     obtain⟨b1,b2,b3,b4,b5⟩:=lL (eV f n) _ _ _ _ _ h0 e
     refine⟨b1,b2,fun i h1 h2 => ?_⟩
     by_cases hi:(i:Int) < k
     ·exact b4 i h1 hi
     ·have hik:i=k.toNat:=by omega
      refine⟨x,by rw[hik,hx],ho,fun k' hk' => ?_⟩
      have:=b5 k' (by simpa using hk')
      exact⟨this.1,by omega,fun ha=>by simpa using this.2.2 ha⟩
    ·cases e
  ·cases e
theorem Kj {f:List ab} {n:Nat} {k s:Int} {h:Nat} (e:dx f n k=some (s,h)):1≤h:=by
 cases n with
 | zero=>cases e
 | succ n =>
  simp only[dx] at e
  split at e
  ·rename_i h0
   split at e
   ·cases e
   ·split at e
    ·exact Q3 (by omega) (lL (eV f n) _ _ _ _ _ h0 e).2.2.1
    ·cases e
  ·cases e
def iW (deep:Int):Option (Int×Nat)→Int
 | some (s,h)=>if deep+h≤12 then s else -1
 | none => -1
theorem mm {n:Int} (h0 : -1000000000≤n) (h1:n≤1000000000):IntKind.i64.wrap n=n:=wr (by omega) (by omega)
section
variable {f:List ab} (hl:f.length≤10000000) (hs : ∀ x∈f,x.2.2.1.2.2.1.size≤9223372036854775807)
include hl hs
theorem xA {n:Nat} (ih : ∀(k deep:Int),0≤k→k < n→k < f.length→0≤deep→deep≤12→rk f k deep=some ((iW deep (dx f n k),()),())) {x:ab} {k:Int} (h0:0≤k) (hk:f[k.toNat]? = some x) (hkn:k≤n) (hkl:x.2.2.2.2.2.1.length≤10000000) :
  ∀(r suf:List Int) (cur:Int) (h:Nat) (deep:Int),x.2.2.2.2.2.1=r.reverse++suf→0≤cur→cur≤k→0≤deep→deep+h+1≤12→kS f k deep cur ((r.length:Int) - 1)=some ((iW deep (dI (dx f n) f (decide (x.1=6)) r cur h),()),())
 | [],suf,cur,h,deep,he,c0,c1,d0,d1=>by
  rw[va,aq (by simp)]
  simp only[dI,iW]
  rw[M5 (by omega)]
 | kid :: r,suf,cur,h,deep,he,c0,c1,d0,d1=>by
  have hkl2:k < (f.length:Int):=by
   have:=(N7.1 hk).1
   omega
  have he':x.2.2.2.2.2.1=r.reverse++kid :: suf:=by rw[he]; simp
  have hlen:(((kid :: r).length:Int) - 1)=((r.reverse).length:Int):=by simp
  rw[va,av (by rw[hlen]; exact nn _),cO h0 hk,hlen,bG he',mm (n:=cur - 1) (by omega) (by omega)]
  simp only[dI]
  by_cases e1:kid=cur - 1
  ·rw[M2 (by simp[e1])]
   by_cases e2:kid < 0
   ·rw[av e2,M2 (by omega)]
    rfl
   ·rw[aq e2]
    have hkd:kid < (f.length:Int):=by omega
    obtain⟨y,hy⟩ : ∃ y,f[kid.toNat]? = some y:=⟨f[kid.toNat]'(by omega),N8 _⟩
    rw[cO (by omega) hy]
    have har:ip f kid=decide (y.1=3):=by
     unfold ip
     rw[P7,hy]
     rfl
    have go:((rk f kid (aq_ ar_ (deep+1))).bind fun z1=>if decide (z1.1.1 < 0)=true then some ((-1,()),()) else kS f k deep z1.1.1 (aq_ ar_ (((r.reverse).length:Int) - 1)))=some ((iW deep ((dx f n kid).bind fun p=>dI (dx f n) f (decide (x.1=6)) r p.1 (max h p.2)),()),()):=by
     have hlr:(r.reverse).length≤10000000:=by
      rw[he',M6] at hkl
      omega
     rw[mm (by omega) (by omega),mm (by omega) (by omega),ih kid (deep+1) (by omega) (by omega) hkd (by omega) (by omega),M0]
     cases hc:dx f n kid with
     | none=>rfl
     | some p =>
      obtain⟨t,ht⟩:=p
      have ha:=eV f n _ _ _ hc
      by_cases hd:deep+1+ht≤12
      ·have er:iW (deep+1) (some (t,ht))=t:=M5 hd
       simp only[er,M0]
       rw[aq (by omega),ak_,xA ih h0 hk hkn hkl r (kid :: suf) t (max h ht) deep he' (by omega) (by omega) d0 (by omega)]
      ·have er:iW (deep+1) (some (t,ht)) = -1:=M2 hd
       simp only[er,M0]
       rw[av (by decide)]
       cases hq:dI (dx f n) f (decide (x.1=6)) r t (max h ht) with
       | none=>rfl
       | some q =>
        obtain⟨s',h'⟩:=q
        have:=(lL (eV f n) _ _ _ _ _ (by omega) hq).2.2.1
        simp only[iW]
        rw[M2 (by omega)]
    by_cases e3:y.1=3
    ·rw[M5 (by simp[e3]),cO h0 hk]
     by_cases e4:x.1=6
     ·rw[M2 (by simp[e4]),M5 ⟨e1,by omega,fun _=>by simp[e4]⟩]
      exact go
     ·rw[M5 (by simp[e4]),M2 (by rw[har]; simp[e3,e4])]
      rfl
    ·rw[M2 (by simp[e3]),M5 ⟨e1,by omega,fun h=>by rw[har] at h; simp[e3] at h⟩]
     exact go
  ·rw[M5 (by simpa using e1),M2 (fun h=>e1 h.1)]
   rfl
theorem CD : ∀(n:Nat) (k deep:Int),0≤k→k < n→k < f.length→0≤deep→deep≤12→(∀ x∈f,x.2.2.2.2.2.1.length≤10000000)→rk f k deep=some ((iW deep (dx f n k),()),())
 | 0,k,deep,h0,h1,_,_,_,_=>by omega
 | n+1,k,deep,h0,h1,h2,d0,d1,hkl=>by
  obtain⟨x,hx⟩ : ∃ y,f[k.toNat]? = some y:=⟨f[k.toNat]'(by omega),N8 _⟩
  have hm:x∈f:=P5 hx
  rw[Jm,aq (by omega)]
  by_cases hd:deep≥12
  ·rw[av hd]
   cases hc:dx f (n+1) k with
   | none=>rfl
   | some p =>
    obtain⟨s,h⟩:=p
    have:=Kj hc
    simp only[iW]
    rw[M2 (by omega)]
  ·have:=hkl x hm
   rw[aq hd,cO h0 hx,xz (hs x hm),M0,cO h0 hx,mm (by omega) (by omega)]
   simp only[dx,M5 h0,hx]
   cases ho:dw x with
   | false=>rfl
   | true =>
    simp only[O5,M8,O0,O4]
    have:=xA hl hs (n:=n) (fun k deep a b c d e=>CD n k deep a b c d e hkl) h0 hx (by omega) this x.2.2.2.2.2.1.reverse [] k 0 deep (by simp) h0 (V2 _) d0 (by omega)
    rw[ak_] at this
    exact this
def yJ:Option (Int×Nat)→Int
 | some (s,_)=>s
 | none => -1
theorem tE {n:Nat} (A : ∀(i:Nat) (x:ab),f[i]? = some x→kg f i x) (ih : ∀(k:Int),0≤k→k < n→k < f.length→p7 f k=some ((yJ (dx f n k),()),())) {x:ab} {k:Int} (h0:0≤k) (hk:f[k.toNat]? = some x) (hkn:k≤n) (hkl:x.2.2.2.2.2.1.length≤10000000) :
  ∀(r suf:List Int) (cur:Int) (h:Nat),x.2.2.2.2.2.1=r.reverse++suf→0≤cur→cur≤k→mA f k (cur - 1) ((r.length:Int) - 1)=some ((yJ (dI (dx f n) f (decide (x.1=6)) r cur h),()),())
 | [],suf,cur,h,he,c0,c1=>by
  have hkl2:k < (f.length:Int):=by
   have:=(N7.1 hk).1
   omega
  rw[rY,aq (by simp),mm (by omega) (by omega)]
  simp only[dI,yJ]
  congr 3
  omega
 | kid :: r,suf,cur,h,he,c0,c1=>by
  have hkl2:k < (f.length:Int):=by
   have:=(N7.1 hk).1
   omega
  have he':x.2.2.2.2.2.1=r.reverse++kid :: suf:=by rw[he]; simp
  have hlen:(((kid :: r).length:Int) - 1)=((r.reverse).length:Int):=by simp
  have hmem:kid∈x.2.2.2.2.2.1:=by rw[he']; simp
  have hst:=(A _ _ hk).2 kid hmem
  rw[rY,av (by rw[hlen]; exact nn _)]
  simp only[dI]
  by_cases e0:cur - 1 < 0
  ·rw[av e0,M2 (by omega)]
   rfl
  ·rw[aq e0,cO h0 hk,hlen,bG he']
   by_cases e1:kid=cur - 1
   ·have hkd:kid < (f.length:Int):=by omega
    have hlr:(r.reverse).length≤10000000:=by
     rw[he',M6] at hkl
     omega
    rw[M2 (by simp[e1]),M5 ⟨e1,hst.1,fun ha=>by simpa using hst.2.2 ha⟩,←e1,ih kid hst.1 (by omega) hkd,M0,mm (n:=(r.reverse.length:Int) - 1) (by omega) (by omega)]
    cases hc:dx f n kid with
    | none=>rfl
    | some p =>
     obtain⟨t,ht⟩:=p
     have ha:=eV f n _ _ _ hc
     have er:yJ (some (t,ht))=t:=rfl
     simp only[er,M0]
     rw[aq (by omega),mm (n:=t - 1) (by omega) (by omega),ak_,tE A ih h0 hk hkn hkl r (kid :: suf) t (max h ht) he' (by omega) (by omega)]
   ·rw[M5 (by simpa using e1),M2 (fun h=>e1 h.1)]
    rfl
theorem xB (A : ∀(i:Nat) (x:ab),f[i]? = some x→kg f i x) (hkl : ∀ x∈f,x.2.2.2.2.2.1.length≤10000000) : ∀(n:Nat) (k:Int),0≤k→k < n→k < f.length→p7 f k=some ((yJ (dx f n k),()),())
 | 0,k,h0,h1,_=>by omega
 | n+1,k,h0,h1,h2=>by
  obtain⟨x,hx⟩ : ∃ y,f[k.toNat]? = some y:=⟨f[k.toNat]'(by omega),N8 _⟩
  have hm:x∈f:=P5 hx
  have hk:=hkl x hm
  rw[FW,cO h0 hx,mm (n:=k - 1) (by omega) (by omega),mm (by omega) (by omega)]
  simp only[dx,M5 h0,hx,(A _ _ hx).1,O4]
  have:=tE hl hs (n:=n) A (xB A hkl n) h0 hx (by omega) hk x.2.2.2.2.2.1.reverse [] k 0 (by simp) h0 (V2 _)
  rw[ak_] at this
  exact this
def ie (c:Int→Option (Int×Nat)):List Int→Nat
 | []=>0
 | k :: l=>max (((c k).map (·.2)).getD 0) (ie c l)
omit hl hs in
theorem v7 (c:Int→Option (Int×Nat)) (k:Int) : ∀ l,ie c (l++[k])=max (ie c l) (((c k).map (·.2)).getD 0)
 | []=>by simp[ie]
 | y :: l=>by
  simp only[List.cons_append,ie,v7 c k l]
  omega
omit hl hs in
theorem EW (c:Int→Option (Int×Nat)) : ∀ l,ie c l.reverse=ie c l
 | []=>rfl
 | y :: l=>by
  rw[List.reverse_cons,v7,EW c l]
  simp only[ie]
  omega
omit hl hs in
theorem zU {c:Int→Option (Int×Nat)} {call:Bool} : ∀(l:List Int) (cur:Int) (h:Nat) (s:Int) (h':Nat),dI c f call l cur h=some (s,h')→h'=max h (ie c l)+1 ∧ ∀ k∈l,∃ p,c k=some p
 | [],cur,h,s,h',e=>by
  simp only[dI,O2,Y7] at e
  exact⟨by simp only[ie]; omega,fun k hk=>by cases hk⟩
 | kid :: l,cur,h,s,h',e=>by
  simp only[dI] at e
  split at e
  ·rw[M4] at e
   obtain⟨⟨t,ht⟩,e1,e2⟩:=e
   obtain⟨b1,b2⟩:=zU l t (max h ht) s h' e2
   refine⟨?_,fun k hk => ?_⟩
   ·simp only[ie,e1,V8,S7]
    omega
   ·rcases O9.1 hk with rfl | hk
    ·exact⟨_,e1⟩
    ·exact b2 k hk
  ·cases e
theorem tF {n:Nat} {c:Int→Option (Int×Nat)} (ih : ∀(k:Int) (s:Int) (h:Nat),k < n→c k=some (s,h)→p8 f k=some (((h:Int),()),())) {x:ab} {k:Int} (h0:0≤k) (hk:f[k.toNat]? = some x) (hkn:k≤n) (hkl:x.2.2.2.2.2.1.length≤10000000) (hall : ∀ k'∈x.2.2.2.2.2.1,(∃ p,c k'=some p)∧k' < k) (hb:ie c x.2.2.2.2.2.1≤10000000) :
  ∀(ys pre:List Int),x.2.2.2.2.2.1=pre++ys→mB f k (ie c pre:Int) (pre.length:Int)=some ((((ie c x.2.2.2.2.2.1+1:Nat):Int),()),())
 | [],pre,he=>by
  have:pre=x.2.2.2.2.2.1:=by rw[he]; simp
  rw[rZ,cO h0 hk,aq (df he),this,mm (by omega) (by omega)]
  rfl
 | y :: ys,pre,he=>by
  obtain⟨⟨⟨s,h⟩,hc⟩,hlt⟩:=hall y (by rw[he]; simp)
  rw[rZ,cO h0 hk,av (bQ he),cO h0 hk,bG he,ih y s h (by omega) hc,M0,aV he (by omega)]
  have:(if((ie c pre:Nat):Int) < (h:Int) then(h:Int) else((ie c pre:Nat):Int))=(ie c (pre++[y]):Int):=by
   rw[v7,hc]
   simp only[V8,S7]
   split <;> omega
  rw[this]
  exact tF ih h0 hk hkn hkl hall hb ys _ (bh he)
theorem rC (hkl : ∀ x∈f,x.2.2.2.2.2.1.length≤10000000) : ∀(n:Nat) (k s:Int) (h:Nat),dx f n k=some (s,h)→n≤10000000→h≤n∧p8 f k=some (((h:Int),()),())
 | 0,_,_,_,e,_=>by cases e
 | n+1,k,s,h,e,hn=>by
  have hall:=eV f _ _ _ _ e
  simp only[dx] at e
  split at e
  ·rename_i h0
   split at e
   ·cases e
   ·rename_i x hx
    split at e
    ·have hm:x∈f:=P5 hx
     obtain⟨b1,b2⟩:=zU _ _ _ _ _ e
     have hst:=lL (eV f n) _ _ _ _ _ h0 e
     have hhm:ie (dx f n) x.2.2.2.2.2.1≤n:=by
      have : ∀ l:List Int,ie (dx f n) l≤n:=by
       intro l
       induction l with
       | nil=>exact W5 _
       | cons y l ih =>
        simp only[ie]
        cases hc:dx f n y with
        | none=>simpa using ih
        | some p =>
         have:=(rC hkl n y p.1 p.2 hc (by omega)).1
         simp only[V8,S7]
         omega
      exact this _
     rw[EW] at b1
     refine⟨by omega,?_⟩
     rw[FX]
     have hk2 : ∀ k'∈x.2.2.2.2.2.1,(∃ p,dx f n k'=some p)∧k' < k:=fun k' hk'=>⟨b2 k' (by simpa using hk'),(hst.2.2.2.2 k' (by simpa using hk')).2.1⟩
     have:=tF hl hs (n:=k.toNat) (c:=dx f n) (fun k' s' h' _ hc=>(rC hkl n k' s' h' hc (by omega)).2) h0 hx (by omega) (hkl x hm) hk2 (by omega) x.2.2.2.2.2.1 [] rfl
     rw[b1]
     have hz:max 0 (ie (dx f n) x.2.2.2.2.2.1)=ie (dx f n) x.2.2.2.2.2.1:=by omega
     rw[hz]
     exact this
    ·cases e
  ·cases e
end
def qv (f:List ab):Bool:=match dx f f.length ((f.length:Int) - 1) with
 | some (s,h)=>decide (s=0) && (!ip f ((f.length:Int) - 1) && decide ((h:Int)≤12))
 | none=>false
def mn (f:List ab):Bool:=bV (f.length:Int) 1 60 && qv f
theorem rD {f:List ab} (h:mn f=true) (i:Nat) (x:ab) (hx:f[i]? = some x):kg f i x:=by
 unfold mn qv at h
 simp only[M7] at h
 obtain⟨h1,h2⟩:=h
 have h1:=bu.1 h1
 cases hc:dx f f.length ((f.length:Int) - 1) with
 | none=>rw[hc] at h2; cases h2
 | some p =>
  obtain⟨s,d⟩:=p
  rw[hc] at h2
  simp only[M7,M9] at h2
  have hl:=(N7.1 hx).1
  obtain⟨y,hy,hs⟩:=(eV f _ _ _ _ hc).2.2 i (by omega) (by omega)
  rw[hx] at hy
  rw[R5 hy]
  exact hs
section
variable {f:List ab} (hl:f.length≤10000000) (hs : ∀ x∈f,x.2.2.1.2.2.1.size≤9223372036854775807) (hkl : ∀ x∈f,x.2.2.2.2.2.1.length≤10000000)
include hl hs hkl
theorem ma:mw f=some ((mn f,()),()):=by
 rw[AQ]
 unfold mn
 simp only[dH,M0]
 cases hb:bV (f.length:Int) 1 60 with
 | false=>rfl
 | true =>
  have hb:=bu.1 hb
  obtain⟨x,hx⟩ : ∃ y,f[((f.length:Int) - 1).toNat]? = some y:=⟨f[((f.length:Int) - 1).toNat]'(by omega),N8 _⟩
  have har:ip f ((f.length:Int) - 1)=decide (x.1=3):=by
   unfold ip
   rw[P7,hx]
   rfl
  have hfr:=CD hl hs f.length ((f.length:Int) - 1) 0 (by omega) (by omega) (by omega) (by decide) (by decide) hkl
  simp only[O4]
  rw[mm (by omega) (by omega),cO (by omega) hx,hfr]
  unfold qv
  rw[har]
  cases hc:dx f f.length ((f.length:Int) - 1) with
  | none=>by_cases h3:x.1=3 <;> simp[h3,iW]
  | some p =>
   obtain⟨s,h⟩:=p
   have hp:=(eV f _ _ _ _ hc).1
   by_cases h3:x.1=3
   ·simp[h3]
   ·by_cases h4:(h:Int)≤12
    ·simp[h3,iW,h4,Ga]
    ·simp[h3,iW,h4]
theorem oU {x:ab} {i:Nat} (hi:f[i]? = some x) (hil:i≤10000000) : ∀(ys pre:List Int),x.2.2.2.2.2.1=pre++ys →
  ge f (i:Int) (pre.length:Int)=if(ys.all fun k=>bV k 0 ((i:Int) - 1) && (!ip f k || decide (x.1=6)))=true then cW f ((i+1:Nat):Int) else some ((false,()),())
 | [],pre,he=>by
  rw[n6,cO (nn _) (by simpa using hi),aq (df he),mm (by omega) (by omega)]
  simp
 | y :: ys,pre,he=>by
  have hm:x∈f:=P5 hi
  have:=hkl x hm
  rw[n6,cO (nn _) (by simpa using hi),av (bQ he),cO (nn _) (by simpa using hi),bG he,gN,M0,mm (n:=(i:Int) - 1) (by omega) (by omega),aV he (by omega)]
  have ih:=oU hi hil ys _ (bh he)
  have hlt:=(N7.1 hi).1
  cases hy:bV y 0 ((i:Int) - 1) with
  | false=>simp[hy]
  | true =>
   have hy2:=bu.1 hy
   obtain⟨z,hz⟩ : ∃ z,f[y.toNat]? = some z:=⟨f[y.toNat]'(by omega),N8 _⟩
   have har:ip f y=decide (z.1=3):=by
    unfold ip
    rw[P7,hz]
    rfl
   simp only[O5,M8,O0]
   rw[cO (by omega) hz]
   by_cases h3:z.1=3
   ·rw[M5 (by simp[h3]),cO (nn _) (by simpa using hi)]
    by_cases h6:x.1=6
    ·rw[M2 (by simp[h6]),ih]
     simp[hy,har,h6]
    ·rw[M5 (by simp[h6])]
     simp[hy,har,h3,h6]
   ·rw[M2 (by simp[h3]),ih]
    simp[hy,har,h3]
def ia (f:List ab) (i:Nat):Bool:=match f[i]? with
 | some x=>dw x && x.2.2.2.2.2.1.all fun k=>bV k 0 ((i:Int) - 1) && (!ip f k || decide (x.1=6))
 | none=>true
omit hl hs hkl in
theorem vb {i:Nat} {x:ab} (hx:f[i]? = some x):ia f i=true↔kg f i x:=by
 unfold ia kg
 rw[hx]
 simp only[M7,List.all_eq_true,bu,V9,Bool.not_eq_true',M9]
 constructor
 ·rintro⟨h1,h2⟩
  refine⟨h1,fun k hk => ?_⟩
  obtain⟨⟨a,b⟩,c⟩:=h2 k hk
  refine⟨a,by omega,fun ha => ?_⟩
  rcases c with c | c
  ·rw[c] at ha
   cases ha
  ·exact c
 ·rintro⟨h1,h2⟩
  refine⟨h1,fun k hk => ?_⟩
  obtain⟨a,b,c⟩:=h2 k hk
  refine⟨⟨a,by omega⟩,?_⟩
  cases ha:ip f k with
  | true=>exact .inr (c ha)
  | false=>exact .inl rfl
theorem xC (hne:1≤f.length) (A : ∀(i:Nat) (x:ab),f[i]? = some x→kg f i x):cW f (f.length:Int)=some ((qv f,()),()):=by
 obtain⟨x,hx⟩ : ∃ y,f[((f.length:Int) - 1).toNat]? = some y:=⟨f[((f.length:Int) - 1).toNat]'(by omega),N8 _⟩
 have har:ip f ((f.length:Int) - 1)=decide (x.1=3):=by
  unfold ip
  rw[P7,hx]
  rfl
 rw[nX,aq (Int.lt_irrefl _),mm (by omega) (by omega),xB hl hs A hkl f.length _ (by omega) (by omega) (by omega),M0,cO (by omega) hx]
 unfold qv
 rw[har]
 cases hc:dx f f.length ((f.length:Int) - 1) with
 | none=>rfl
 | some p =>
  obtain⟨s,h⟩:=p
  have er:yJ (some (s,h))=s:=rfl
  simp only[er]
  by_cases h0:s=0
  ·by_cases h3:x.1=3
   ·simp[h0,h3]
   ·rw[M5 (by simp[h0]),M5 (by simp[h3]),(rC hl hs hkl _ _ _ _ hc hl).2]
    simp[h0,h3]
  ·rw[M2 (by simp[h0])]
   simp[h0]
theorem xD {i:Nat} (hi:i < f.length):cW f (i:Int)=if ia f i=true then cW f ((i+1:Nat):Int) else some ((false,()),()):=by
 obtain⟨x,hx⟩ : ∃ y,f[i]? = some y:=⟨f[i],N8 _⟩
 have hm:x∈f:=P5 hx
 rw[nX,av (by omega),cO (nn _) (by simpa using hx),tD (hs x hm),M0]
 have es:ia f i=(dw x && x.2.2.2.2.2.1.all fun k=>bV k 0 ((i:Int) - 1) && (!ip f k || decide (x.1=6))):=by
  unfold ia
  rw[hx]
 rw[es]
 cases ho:dw x with
 | false=>simp
 | true =>
  have:=oU hl hs hkl hx (by omega) x.2.2.2.2.2.1 [] rfl
  simp only[O5,M8,O0,Bool.true_and]
  exact this
open Classical in
theorem ob : ∀(n i:Nat),i+n=f.length→cW f (i:Int)=if(∀ j,i≤j→j < f.length→ia f j=true) then cW f (f.length:Int) else some ((false,()),())
 | 0,i,h=>by
  have:i=f.length:=by omega
  rw[this,M5 (fun j h1 h2=>by omega)]
 | n+1,i,h=>by
  rw[xD hl hs hkl (by omega),ob n (i+1) (by omega)]
  by_cases h1:ia f i=true
  ·rw[M5 h1]
   by_cases h2 : ∀ j,i+1≤j→j < f.length→ia f j=true
   ·rw[M5 h2,M5 (fun j a b=>by
     by_cases hj:j=i
     ·rw[hj]; exact h1
     ·exact h2 j (by omega) b)]
   ·rw[M2 h2,M2 (fun h3=>h2 fun j a b=>h3 j (by omega) b)]
  ·rw[M2 h1,M2 (fun h3=>h1 (h3 i (N4 _) (by omega)))]
theorem sc:mu f=some ((mn f,()),()):=by
 rw[AG]
 by_cases h1:(f.length:Int) < 1
 ·rw[av h1]
  have:bV (f.length:Int) 1 60=false:=by simp[bV]; omega
  simp[mn,this]
 ·rw[aq h1]
  by_cases h2:(f.length:Int) > 60
  ·rw[av h2]
   have:bV (f.length:Int) 1 60=false:=by simp[bV]; omega
   simp[mn,this]
  ·have hb:bV (f.length:Int) 1 60=true:=bu.2 (by omega)
   rw[aq h2,show(0:Int)=((0:Nat):Int) from rfl,ob hl hs hkl f.length 0 (by omega)]
   by_cases A : ∀ j,0≤j→j < f.length→ia f j=true
   ·rw[M5 A,xC hl hs hkl (by omega) fun i x hx=>(vb hx).1 (A i (W5 _) (N7.1 hx).1)]
    simp[mn,hb]
   ·rw[M2 A]
    have:mn f=false:=by
     cases ho:mn f with
     | false=>rfl
     | true =>
      refine absurd (fun j _ hj => ?_) A
      have hx:f[j]? = some f[j]:=N8 _
      exact(vb hx).2 (rD ho j _ hx)
    rw[this]
end
abbrev ae:=List UInt8
abbrev lb (s:L9):ae:=s.data.toList
abbrev ba (l:ae):L9:=⟨l.toArray⟩
theorem cP (l:ae):lb (ba l)=l:=by simp
theorem gt (s:L9):ba (lb s)=s:=by cases s; simp
theorem aB (l:ae):(ba l).size=l.length:=by
 show(ba l).data.size=_
 simp
theorem ut (s:L9):(lb s).length=s.size:=by
 rw[Array.length_toList]
 rfl
theorem xE {a b:ae} (h:ba a=ba b):a=b:=by
 rw[←cP a,h,cP]
theorem LI {a b:ae}:(ba a=ba b)=(a=b):=propext ⟨xE,fun h=>by rw[h]⟩
theorem Gh (l:ae) (i j:Nat):(ba l).extract i j=ba ((l.take j).drop i):=by
 apply qu
 simp[ByteArray.data_extract,List.extract_eq_take_drop,List.drop_take]
theorem lM (a b:ae):ba a++ba b=ba (a++b):=by
 apply qu
 simp
theorem cI {a b:ae}:(M1 (ba a) == M1 (ba b))=decide (a=b):=by
 rw[zz,R8,M9,M9,LI]
theorem K8 (l:ae):jz (ba l)=l.map fun b=>(b.toNat:Int):=by simp[jz]
theorem fh {β:Type} {l pre ys:ae} {y:UInt8} {f:Int→Option β} (h:l=pre++y :: ys):cM (ba l) (pre.length:Int) f=f (y.toNat:Int):=by
 have:=tu (β:=β) (s:=ba l) (pre:=pre.map fun b=>(b.toNat:Int)) (ys:=ys.map fun b=>(b.toNat:Int)) (y:=(y.toNat:Int)) (f:=f) (by rw[K8,h]; simp)
 rw[List.length_map] at this
 exact this
theorem oc {β:Type} {y:UInt8} {ys:ae} {f:Int→Option β}:cM (ba (y :: ys)) 0 f=f (y.toNat:Int):=fh (pre:=[]) rfl
theorem xF {β:Type} {l:ae} {n:Nat} {f:L9→Option β} (h:n≤l.length):uS (ba l) (n:Int) f=f (ba (l.take n)):=by
 rw[K2 (nn _) (by rw[aB]; omega),Gh]
 simp
theorem eg {β:Type} {l:ae} {n:Nat} {f:L9→Option β} (h:n≤l.length):fC (ba l) (n:Int) f=f (ba (l.drop n)):=by
 rw[K3 (nn _) (by rw[aB]; omega),Gh,aB]
 simp
theorem qw {β:Type} {l:ae} {i j:Nat} {f:L9→Option β} (h:i≤j) (hj:j≤l.length):oz (ba l) (i:Int) (j:Int) f=f (ba ((l.take j).drop i)):=by
 rw[K4 (nn _) (by omega) (by rw[aB]; omega),Gh]
 simp
theorem aW {β:Type} {a b:ae} {f:L9→Option β} (h:a.length+b.length≤9223372036854775807):aZ (ba a) (ba b) f=f (ba (a++b)):=by
 rw[kV (by rw[aB,aB]; exact h),lM]
theorem pp (s p:ae) (hs:s.length≤9223372036854775807):dd (ba s) (ba p)=some ((p.isPrefixOf s,()),()):=by
 rw[nQ,aB,aB]
 by_cases h:p.length≤s.length
 ·rw[av (by omega),xF h,cI]
  congr 3
  rw[R8,M9,V0,List.prefix_iff_eq_take]
  exact eq_comm
 ·rw[aq (by omega)]
  congr 3
  symm
  rw[Bool.eq_false_iff]
  intro hp
  exact h (V0.1 hp).length_le
theorem lN (s p:ae) (hs:s.length≤9223372036854775807):cK (ba s) (ba p)=some ((p.isPrefixOf s,()),()):=by
 rw[ru,pp s p hs]
 rfl
theorem oV (s p:ae) (hs:s.length≤9223372036854775807):b8 (ba s) (ba p)=some ((ba (if p.isPrefixOf s=true then s.drop p.length else s),p.isPrefixOf s,()),()):=by
 rw[rt,nR,pp s p hs]
 simp only[M0]
 cases hp:p.isPrefixOf s with
 | false=>rfl
 | true =>
  have:=(V0.1 hp).length_le
  simp only[O5,M8,O0,O4,aB]
  rw[eg this]
  rfl
theorem pq (s c:ae) (hc:lB (ba c)=true):eD (ba s) (ba c)=some ((ba (s.dropWhile (c.contains ·)),()),()):=by
 rw[so]
 show(if lB (ba c)=true then some (((⟨(Lib.trimLeftS (lb (ba s)) (lb (ba c))).toArray⟩:L9),()),()) else none)=_
 rw[M5 hc,cP,cP]
 rfl
theorem tG {α:Type} (p:α→Bool) (l:List α):l.take (l.length - (l.dropWhile p).length)=l.takeWhile p∧l.drop (l.length - (l.dropWhile p).length)=l.dropWhile p∧(l.dropWhile p).length≤l.length:=by
 have h:=List.takeWhile_append_dropWhile (p:=p) (l:=l)
 have hl:(l.takeWhile p).length+(l.dropWhile p).length=l.length:=by rw[←M6,h]
 have e:l.length - (l.dropWhile p).length=(l.takeWhile p).length:=by omega
 refine⟨?_,?_,by omega⟩
 ·rw[e]
  have:=List.take_left' (l₁:=l.takeWhile p) (l₂:=l.dropWhile p) rfl
  rw[h] at this
  exact this
 ·rw[e]
  have:=List.drop_left' (l₁:=l.takeWhile p) (l₂:=l.dropWhile p) rfl
  rw[h] at this
  exact this
theorem dW (c:UInt8) (l:ae) (a:UInt8):([a]:ae).isPrefixOf (c :: l)=decide (c=a):=by
 show(a == c && ([]:ae).isPrefixOf l)=_
 rw[show([]:ae).isPrefixOf l=true by cases l <;> rfl,Z0,R8,S1,M9]
 exact eq_comm
theorem v8 (c:UInt8) (t:ae):([c]:ae).isPrefixOf t=decide (t.head? = some c):=by
 cases t with
 | nil=>rfl
 | cons y t=>rw[dW]; simp
theorem wa (y:UInt8) (t:ae) (a c:UInt8):([a,c]:ae).isPrefixOf (y :: t)=(decide (y=a) && decide (t.head? = some c)):=by
 show(a == y && ([c]:ae).isPrefixOf t)=_
 rw[v8]
 congr 1
 rw[R8,S1,M9]
 exact eq_comm
theorem yK (y c:UInt8) {n:Int} (hn:(c.toNat:Int)=n):((y.toNat:Int) == n)=decide (y=c):=by
 rw[R8,S1,M9,←hn]
 constructor
 ·intro e
  apply UInt8.toNat_inj.1
  omega
 ·intro e
  rw[e]
theorem wb {p:UInt8→Prop} [DecidablePred p] (h : ∀ n:Fin 256,p (UInt8.ofNat n.val)) (c:UInt8):p c:=by
 have:=h ⟨c.toNat,c.toNat_lt⟩
 simpa using this
def dp (c:UInt8):Bool:=decide (65≤c.toNat) && decide (c.toNat≤90)
def cB (c:UInt8):Bool:=decide (48≤c.toNat) && decide (c.toNat≤57)
def aR (a:Nat) (l:ae):Nat:=l.foldl (fun a c=>a*10+(c.toNat - 48)) a
theorem tH (a:Nat) (l:ae) (c:UInt8):aR a (l++[c])=aR a l*10+(c.toNat - 48):=by simp[aR]
theorem xG {u:Nat} (h:u < 10):O1 u=[UInt8.ofNat (48+u)]:=Lib.decDigits_one h
theorem CE {u:Nat} (h : ¬u < 10):O1 u=O1 (u / 10)++[UInt8.ofNat (48+u % 10)]:=by
 rw[O1,dif_neg h]
theorem Gi {x:Nat} (h:x < 10):(UInt8.ofNat (48+x)).toNat=48+x:=by
 rw[UInt8.toNat_ofNat']
 omega
theorem HQ {m x:ae} (h:m≠[]):(m++x).head? = m.head? := by
 cases m with
 | nil=>exact absurd rfl h
 | cons a m=>rfl
def fK (l:ae):Bool:=l.all cB && decide (1≤l.length) && (decide (l.length=1) || !decide (l.head? = some 48))
theorem CF : ∀(n u:Nat),u≤n→aR 0 (O1 u)=u∧fK (O1 u)=true∧(10≤u→2≤(O1 u).length)∧(1≤u→(O1 u).head? ≠ some 48)
 | n,u,hn=>by
  by_cases h:u < 10
  ·rw[xG h]
   have e:=Gi h
   refine⟨by simp[aR]; omega,?_,fun h2=>by omega,fun h1 h2 => ?_⟩
   ·simp only[fK,cB,U1,List.all_nil,e]
    simp
    omega
   ·simp only[T5,O2] at h2
    rw[h2] at e
    have:(48:UInt8).toNat=48:=rfl
    omega
  ·cases n with
   | zero=>omega
   | succ n =>
    obtain⟨h1,h2,h3,h4⟩:=CF n (u / 10) (by omega)
    rw[CE h,tH,h1,Gi (Nat.mod_lt _ (by decide))]
    have h4:=h4 (by omega)
    simp only[fK,M7,M9] at h2
    obtain⟨⟨k1,k2⟩,k3⟩:=h2
    have hne:O1 (u / 10)≠[]:=by
     intro e
     rw[e] at k2
     simp at k2
    have hh:(O1 (u / 10)++[UInt8.ofNat (48+u % 10)]).head? ≠ some 48:=by
     rw[HQ hne]
     exact h4
    refine⟨by omega,?_,fun _=>by rw[M6,M3]; omega,fun _=>hh⟩
    simp only[fK,W1,k1,U1,List.all_nil,cB,Gi (Nat.mod_lt u (show 0 < 10 by decide)),M7,V9,M9]
    refine⟨⟨by simp; omega,by simp⟩,.inr (by simpa using hh)⟩
theorem od (u:Nat):aR 0 (O1 u)=u:=(CF u u (N4 _)).1
theorem wc (u:Nat):fK (O1 u)=true:=(CF u u (N4 _)).2.1
theorem EX {c:UInt8} (h:cB c=true):UInt8.ofNat (48+(c.toNat - 48))=c:=by
 simp only[cB,M7,M9] at h
 have:48+(c.toNat - 48)=c.toNat:=by omega
 rw[this]
 simp
theorem EY : ∀(l:ae),fK l=true→O1 (aR 0 l)=l∧(l.head? ≠ some 48→1≤aR 0 l):=by
 intro l
 induction hn:l.length using Nat.strongRecOn generalizing l with
 | ind n ih =>
  intro h
  rcases List.eq_nil_or_concat l with rfl | ⟨m,c,rfl⟩
  ·simp[fK] at h
  ·rw[List.concat_eq_append] at *
   simp only[fK,M7,V9,M9,W1,U1,List.all_nil,Z0] at h
   obtain⟨⟨⟨k1,k0⟩,k2⟩,k3⟩:=h
   have kd:48≤c.toNat∧c.toNat≤57:=by simpa[cB] using k0
   rw[tH]
   by_cases hm:m=[]
   ·subst hm
    have e:aR 0 []*10+(c.toNat - 48)=c.toNat - 48:=by simp[aR]
    rw[e,xG (by omega),EX k0]
    refine⟨rfl,fun hh => ?_⟩
    have:c.toNat≠48:=by
     intro e
     apply hh
     simp only[List.nil_append,T5]
     congr 1
     exact UInt8.toNat_inj.1 e
    omega
   ·have hm1:1≤m.length:=List.length_pos_iff.2 hm
    have hh:(m++[c]).head? = m.head? := HQ hm
    have k4:m.head? ≠ some 48:=by
     rcases k3 with k3 | k3
     ·rw[M6,M3] at k3
      omega
     ·rw[hh] at k3
      simpa using k3
    obtain⟨i1,i2⟩:=ih m.length (by rw[←hn,M6,M3]; omega) m rfl (by
     simp only[fK,M7,V9,M9]
     exact⟨⟨k1,hm1⟩,.inr (by simpa using k4)⟩)
    have i2:=i2 k4
    refine⟨?_,fun _=>by omega⟩
    rw[CE (by omega)]
    have e1:(aR 0 m*10+(c.toNat - 48)) / 10=aR 0 m:=by omega
    have e2:(aR 0 m*10+(c.toNat - 48)) % 10=c.toNat - 48:=by omega
    rw[e1,e2,i1,EX k0]
theorem kW (u:Nat):eL (u:Int)=ba (O1 u):=oT u
theorem uu : ∀(l:ae) (a:Nat),l.all cB=true→aR a l < (a+1)*10 ^ l.length
 | [],a,_=>by simp[aR]
 | c :: l,a,h=>by
  simp only[U1,M7] at h
  have kd:48≤c.toNat∧c.toNat≤57:=by simpa[cB] using h.1
  have:=uu l (a*10+(c.toNat - 48)) h.2
  show aR (a*10+(c.toNat - 48)) l < _
  refine Nat.lt_of_lt_of_le this ?_
  rw[List.length_cons,Nat.pow_succ]
  have:a*10+(c.toNat - 48)+1≤(a+1)*10:=by omega
  calc (a*10+(c.toNat - 48)+1)*10 ^ l.length≤((a+1)*10)*10 ^ l.length:=Nat.mul_le_mul_right _ this
   _=(a+1)*(10 ^ l.length*10):=by rw[Nat.mul_assoc,Nat.mul_comm 10]
end Go.Proofs.YtfffplonjaigkaaGreatDoor.Abs
