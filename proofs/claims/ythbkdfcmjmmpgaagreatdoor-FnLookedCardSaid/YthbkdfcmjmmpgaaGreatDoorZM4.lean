/- What the functions say: equations. Printed by out.py. -/
import Derived.Test.YthbkdfcmjmmpgaaGreatDoorZQAD
import Derived.Test.YthbkdfcmjmmpgaaGreatDoorZM2
import Derived.Test.YthbkdfcmjmmpgaaGreatDoorZM3
set_option linter.unusedVariables false
set_option linter.unusedSimpArgs false
set_option maxRecDepth 100000
open Bool renaming and_eq_true→ag_
open ByteArray renaming size→ay_,toList→ah_
open Go.IntKind renaming i64→hf_,wrap→he_
open Int renaming tdiv→dw_,toNat→ap_
open List renaming getD→aw_,length→am_,set→fa_
open Option renaming bind_some→ab_
open _root_ renaming ByteArray→aa_,beq_iff_eq→bx_,decide_eq_true_eq→ai_
namespace Go.Proofs.YthbkdfcmjmmpgaaGreatDoor.Abs
open Go Go.Proofs.YthbkdfcmjmmpgaaGreatDoor
theorem qR {x0 x1 x2 x3 x4 x5}:d8 x0 x1 x2 x3 x4 x5=if(decide (x2≤10))=true then(DW x2).bind fun z1=>if(ah_ x1 == ah_ z1.1.1)=true then(gB x2 x0 x3 x4 x5).bind fun z2=>some ((z2.1.1,()),(z2.2.1,())) else d8 x0 x1 (he_ hf_ (x2+1)) x3 x4 x5 else some (((-1),()),((x3,x5,true,()),())):=bz
theorem E0 {x0 x1 x2 x3 x4}:rq x0 x1 x2 x3 x4=if(decide (x4≥0))=true then ix x0 x1 (aq.dflt) fun y1=>ix y1.2.2.2.2.2.1 x4 0 fun y2=>if(y2 != (he_ hf_ (x3 - 1)))=true then some (((-1),()),()) else if(decide (y2 < 0))=true then some (((-1),()),()) else ix x0 y2 (aq.dflt) fun y3=>if(y3.1 == 3)=true then ix x0 x1 (aq.dflt) fun y4=>if(y4.1 != 6)=true then some (((-1),()),()) else(An x0 y2 (he_ hf_ (x2+1))).bind fun z1=>if(decide (z1.1.1 < 0))=true then some (((-1),()),()) else rq x0 x1 x2 z1.1.1 (he_ hf_ (x4 - 1)) else(An x0 y2 (he_ hf_ (x2+1))).bind fun z2=>if(decide (z2.1.1 < 0))=true then some (((-1),()),()) else rq x0 x1 x2 z2.1.1 (he_ hf_ (x4 - 1)) else some ((x3,()),()):=bz
theorem qS {x0 x1 x2 x3 x4 x5 x6 x7 x8 x9 x10}:lh x0 x1 x2 x3 x4 x5 x6 x7 x8 x9 x10=if(decide (x3 < x2))=true then ix x1 x3 0 fun y1=>(gC x0 y1 1).bind fun z1=>app x10 ([z1.1.1]:(List aa_)) 16 fun y2=>lh x0 x1 x2 (he_ hf_ (x3+1)) x4 x5 x6 x7 x8 x9 y2 else(DW x5).bind fun z2=>cats z2.1.1 ⟨#[40]⟩ fun y3=>(strings_Join x10 ⟨#[44]⟩).bind fun z3=>cats y3 z3.1.1 fun y4=>cats y4 ⟨#[41]⟩ fun y5=>some ((y5,()),()):=bz
theorem za {x0 x1 x2 x3}:oh x0 x1 x2 x3=if(decide (x3 < x2))=true then ix x1 x3 (av.dflt) fun y1=>(oa y1.1).bind fun z1=>if(!z1.1.1)=true then some ((false,()),()) else if(decide (x3 > 0))=true then ix x0 (he_ hf_ (x3 - 1)) (av.dflt) fun y2=>(va y2.1 y1.1).bind fun z2=>if(decide (z2.1.1≥0))=true then some ((false,()),()) else(pq y1.2.1).bind fun z3=>if(!z3.1.1)=true then some ((false,()),()) else oh x0 x1 x2 (he_ hf_ (x3+1)) else(pq y1.2.1).bind fun z4=>if(!z4.1.1)=true then some ((false,()),()) else oh x0 x1 x2 (he_ hf_ (x3+1)) else some (((decide ((am_ x0:Int)≤120)),()),()):=bz
theorem zb {x0 x1 x2 x3}:sr x0 x1 x2 x3=if(decide (x3 < x2))=true then ix x1 x3 (aX.dflt) fun y1=>(vf y1 x3 (he_ hf_ ((he_ hf_ ((am_ x0:Int) - 1)) - x3))).bind fun z1=>if(!z1.1.1)=true then some ((false,()),()) else sr x0 x1 x2 (he_ hf_ (x3+1)) else some (((decide ((am_ x0:Int)≤30)),()),()):=bz
theorem zd {x0 x1 x2 x3}:lN x0 x1 x2 x3=if(decide (x2 < x1))=true then ix x0 x2 (aq.dflt) fun y1=>if(y1.1 == 2)=true then(j9 y1).bind fun z1=>app x3 ([z1.1.1]:(List ak)) 32 fun y2=>lN x0 x1 (he_ hf_ (x2+1)) y2 else if(y1.1 == 3)=true then(j9 y1).bind fun z2=>app x3 ([z2.1.1]:(List ak)) 32 fun y3=>lN x0 x1 (he_ hf_ (x2+1)) y3 else lN x0 x1 (he_ hf_ (x2+1)) x3 else some ((x3,()),()):=bz
theorem v8 {x0 x1 x2 x3 x4}:fG x0 x1 x2 x3 x4=if(decide (x2 < x1))=true then ix x0 x2 (ax.dflt) fun y1=>if(bq ax (x3,x4,()) y1)=true then some ((x2,()),()) else fG x0 x1 (he_ hf_ (x2+1)) x3 x4 else some (((-1),()),()):=bz
theorem pB {x0 x1 x2 x3}:jQ x0 x1 x2 x3=if(decide (x2 < x1))=true then ix x0 x2 (ax.dflt) fun y1=>(eu x3 y1).bind fun z1=>if(!z1.1.1)=true then app x3 ([y1]:(List ak)) 32 fun y2=>gd x0 x1 (he_ hf_ (x2+1)) y2 else jQ x0 x1 (he_ hf_ (x2+1)) x3 else some ((),(x3,())):=bz
theorem qU {x0 x1 x2 x3 x4}:jd x0 x1 x2 x3 x4=if(decide (x0 < (am_ x4:Int)))=true then jg x0 (am_ x1:Int) 0 x1 x2 x3 x4 else im (am_ x4:Int) 0 x1 x2 x3 x4:=bz
theorem nr {x0 x1 x2 x3 x4}:fb x0 x1 x2 x3 x4=if(decide (x2 < x1))=true then ix x0 x2 (ax.dflt) fun y1=>(RX y1 x3 x4).bind fun z1=>if z1.1.1=true then some ((x2,()),(z1.2.1,())) else cm x0 x1 (he_ hf_ (x2+1)) z1.2.1 else some (((-1),()),((x3,x4,()),())):=bz
theorem wG {x0 x1 x2 x3 x4 x5 x6 x7 x8 x9}:my x0 x1 x2 x3 x4 x5 x6 x7 x8 x9=if(decide (x3 < x2))=true then ix x1 x3 (av.dflt) fun y1=>(tR y1.2.1).bind fun z1=>(vg z1.1.1).bind fun z2=>mC x0 x1 x2 x3 x0 (am_ x0:Int) 0 x4 z1.1.1 z2.1.1 ([]:(List Int)) x5 x6 x7 x8 x9 else some (((x4,x8,x9,()),()),()):=bz
theorem qV {x0 x1 x2 x3 x4 x5 x6}:gi x0 x1 x2 x3 x4 x5 x6=if(decide (x1 < (am_ x6:Int)))=true then inb x6 x1 (if((aw_ x6 (ap_ x1) 0) == x0)=true then some ((true,()),()) else inb x5 (aw_ x6 (ap_ x1) 0) (if(! (aw_ x5 (ap_ (aw_ x6 (ap_ x1) 0)) false))=true then inb x5 (aw_ x6 (ap_ x1) 0) (ix x4 (aw_ x6 (ap_ x1) 0) ([]:(List Int)) fun y1=>app x6 y1 8 fun y2=>gi x0 (he_ hf_ (x1+1)) x2 x3 x4 (fa_ x5 (ap_ (aw_ x6 (ap_ x1) 0)) true) y2) else gi x0 (he_ hf_ (x1+1)) x2 x3 x4 x5 x6)) else some ((false,()),()):=bz
theorem lX {x0 x1 x2 x3 x4 x5 x6 x7 x8}:ez x0 x1 x2 x3 x4 x5 x6 x7 x8=if(decide (x3 < x2))=true then ix x1 x3 0 fun y1=>(cS y1 x4 x5 x6 x7 x8).bind fun z1=>cc x0 x1 x2 (he_ hf_ (x3+1)) z1.2.2.1 z1.2.1 z1.2.2.2.1 else ix x5 x0 ([]:(List ab)) fun y2=>(tS y2 x8).bind fun z2=>inb x8 x0 (tm (aw.dflt) x8 x0 (fun e=>(e.1,z2.1.1,())) fun w3=>some ((),(x7,(x4,x5,x6,()),w3,()))):=bz
theorem fV {x0 x1 x2 x3 x4 x5 x6}:cy x0 x1 x2 x3 x4 x5 x6=if(decide (x3 < x2))=true then ix x1 x3 0 fun y1=>(bR y1 x4 x5 x6).bind fun z1=>cc x0 x1 x2 (he_ hf_ (x3+1)) z1.2.2.1 z1.2.1 z1.2.2.2.1 else ix x4.2.1 x0 ([]:(List ab)) fun y2=>(tS y2 x6).bind fun z2=>inb x6 x0 (tm (aw.dflt) x6 x0 (fun e=>(e.1,z2.1.1,())) fun w3=>some ((),(x5,x4,w3,()))):=bz
theorem Bz {x0 x1 x2 x3 x4 x5 x6 x7}:tX x0 x1 x2 x3 x4 x5 x6 x7=if(decide (x2 < x1))=true then ix x0 x2 (aw.dflt) fun y1=>if(bq au y1.1 (x3,x4,()))=true then some ((y1.2.1,()),()) else tX x0 x1 (he_ hf_ (x2+1)) x3 x4 x5 x6 x7 else some (((0,0,⟨#[]⟩,()),()),()):=bz
theorem wH {x0 x1 x2 x3 x4 x5}:kI x0 x1 x2 x3 x4 x5=if(decide (x4 < x3))=true then ix x2 x4 0 fun y1=>ix x0 y1 (aq.dflt) fun y2=>if(y2.1 != 3)=true then(gq x0 y1 x1).bind fun z1=>app x5 ([z1.1.1]:(List ac)) 32 fun y3=>kI x0 x1 x2 x3 (he_ hf_ (x4+1)) y3 else jh x0 x1 y1 x2 x3 x4 x1 (am_ x1:Int) 0 x5 else some ((x5,()),()):=bz
theorem wI {x0 x1 x2 x3 x4 x5 x6 x7 x8}:je x0 x1 x2 x3 x4 x5 x6 x7 x8=if(decide (x5 < x4))=true then ix x3 x5 (ap.dflt) fun y1=>(oX y1).bind fun z1=>if(!z1.1.2.1)=true then(jP y1).bind fun z2=>some ((z2.1.1,()),()) else if x1=true then if x2=true then je x0 z1.1.1 true x3 x4 (he_ hf_ (x5+1)) x6 x7 x8 else je x0 z1.1.1 z1.1.1 x3 x4 (he_ hf_ (x5+1)) x6 x7 x8 else if x2=true then je x0 false true x3 x4 (he_ hf_ (x5+1)) x6 x7 x8 else je x0 false z1.1.1 x3 x4 (he_ hf_ (x5+1)) x6 x7 x8 else if(x0 == 6)=true then(mu x1).bind fun z3=>some ((z3.1.1,()),()) else(mu x2).bind fun z4=>some ((z4.1.1,()),()):=bz
theorem Wm {x0 x1}:VU x0 x1=(oW (he_ hf_ (x0+x1))).bind fun z1=>some ((z1.1.1,()),()):=aB
theorem BA {x0 x1 x2 x3 x4 x5 x6 x7 x8}:qn x0 x1 x2 x3 x4 x5 x6 x7 x8=if(decide (x2 < x1))=true then ix x0 x2 (ap.dflt) fun y1=>if(y1.1 == 4)=true then some ((y1,()),()) else if(y1.1 == 1)=true then(NQ (x6,x7,x8,()) y1).bind fun z1=>if(z1.1.1.1 == 4)=true then some ((z1.1.1,()),()) else qn x0 x1 (he_ hf_ (x2+1)) x3 x4 x5 z1.1.1.1 z1.1.1.2.1 z1.1.1.2.2.1 else if(x6 == 4)=true then some (((x6,x7,x8,()),()),()) else qn x0 x1 (he_ hf_ (x2+1)) x3 x4 x5 x6 x7 x8 else some (((x6,x7,x8,()),()),()):=bz
theorem wJ {x0 x1 x2 x3 x4 x5 x6 x7 x8 x9}:fH x0 x1 x2 x3 x4 x5 x6 x7 x8 x9=if(decide (x6 < x5))=true then ix x4 x6 (ap.dflt) fun y1=>if(y1.1 == 4)=true then if(x0 != 4)=true then some ((y1,()),()) else if(y1.1 != 1)=true then fH x0 x1 x2 x3 x4 x5 (he_ hf_ (x6+1)) x7 x8 x9 else if(x3 == 0)=true then fH x0 (if y1.2.1 < y1.2.1 then y1.2.1 else y1.2.1) (if y1.2.1 < y1.2.1 then y1.2.1 else y1.2.1) (he_ hf_ (x3+1)) x4 x5 (he_ hf_ (x6+1)) x7 x8 x9 else fH x0 (if y1.2.1 < x1 then y1.2.1 else x1) (if x2 < y1.2.1 then y1.2.1 else x2) (he_ hf_ (x3+1)) x4 x5 (he_ hf_ (x6+1)) x7 x8 x9 else if(y1.1 != 1)=true then fH x0 x1 x2 x3 x4 x5 (he_ hf_ (x6+1)) x7 x8 x9 else if(x3 == 0)=true then fH x0 (if y1.2.1 < y1.2.1 then y1.2.1 else y1.2.1) (if y1.2.1 < y1.2.1 then y1.2.1 else y1.2.1) (he_ hf_ (x3+1)) x4 x5 (he_ hf_ (x6+1)) x7 x8 x9 else fH x0 (if y1.2.1 < x1 then y1.2.1 else x1) (if x2 < y1.2.1 then y1.2.1 else x2) (he_ hf_ (x3+1)) x4 x5 (he_ hf_ (x6+1)) x7 x8 x9 else if(x0 == 2)=true then(jD x1).bind fun z1=>some ((z1.1.1,()),()) else if(x0 == 3)=true then(jD x2).bind fun z2=>some ((z2.1.1,()),()) else(jD x3).bind fun z3=>some ((z3.1.1,()),()):=bz
theorem Q1 {x0 x1}:N5 x0 x1=if(x1 != 0)=true then nz (if x1 < (he_ hf_ (0 - x1)) then IntKind.i64.wrap (0 - x1) else x1) (if(decide ((if x0 < (he_ hf_ (0 - x0)) then IntKind.i64.wrap (0 - x0) else x0) > (he_ hf_ (dw_ 1000000000000000 (if x1 < (he_ hf_ (0 - x1)) then IntKind.i64.wrap (0 - x1) else x1)))))=true then(gA 4).bind fun z1=>some ((z1.1.1,()),()) else(oW (he_ hf_ (x0*x1))).bind fun z2=>some ((z2.1.1,()),())) else(oW (he_ hf_ (x0*x1))).bind fun z3=>some ((z3.1.1,()),()):=aB
theorem Ui {x0 x1}:R4 x0 x1=if(x1 == 0)=true then(gA 1).bind fun z1=>some ((z1.1.1,()),()) else nz x1 ((oW (he_ hf_ (dw_ x0 x1))).bind fun z2=>some ((z2.1.1,()),())):=aB
theorem qW {x0 x1 x2 x3 x4 x5 x6 x7 x8}:jf x0 x1 x2 x3 x4 x5 x6 x7 x8=if(decide (x3 < x2))=true then ix x1 x3 (av.dflt) fun y1=>ix x0 x3 (ap.dflt) fun y2=>inb x8 x3 (jf x0 x1 x2 (he_ hf_ (x3+1)) x4 x5 x6 x7 (fa_ x8 (ap_ x3) (y1.1,y2,()))) else kz (am_ x8:Int) 0 x8 x4 x5 x6 x7:=bz
theorem lY {x0 x1 x2 x3 x4}:gW x0 x1 x2 x3 x4=if(decide (x2 < x1))=true then ix x0 x2 (av.dflt) fun y1=>(Hj y1 x3 x4).bind fun z1=>if z1.1.1=true then some ((x2,()),(z1.2.1,())) else cz x0 x1 (he_ hf_ (x2+1)) z1.2.1 else some (((-1),()),((x3,x4,()),())):=bz
theorem kP {x0 x1 x2 x3}:co x0 x1 x2 x3=if(decide (x1 < (am_ x2:Int)))=true then inb x2 x1 ((xz (aw_ x2 (ap_ x1) (av.dflt)) x3).bind fun z1=>if(!z1.1.1)=true then inb x2 x0 (co (he_ hf_ (x0+1)) (he_ hf_ (x1+1)) (fa_ x2 (ap_ x0) (aw_ x2 (ap_ x1) (av.dflt))) z1.2.1) else co x0 (he_ hf_ (x1+1)) x2 z1.2.1) else if(0:Int)≤x0 then if x0 < (am_ x2:Int) then RB (List.take (ap_ x0) x2++List.replicate (am_ x2 - ap_ x0) (av.dflt)) x0 fun y1=>some ((y1,()),(x3,())) else none else none:=bz
theorem xH {x0 x1 x2 x3 x4}:gb x0 x1 x2 x3 x4=if(decide (x2 < x1))=true then ix x0 x2 (au.dflt) fun y1=>if(bq au (x3,x4,()) y1)=true then some ((x2,()),()) else gb x0 x1 (he_ hf_ (x2+1)) x3 x4 else some (((-1),()),()):=bz
theorem CZ {x0 x1 x2 x3 x4 x5 x6}:l9 x0 x1 x2 x3 x4 x5 x6=if(decide (x3 < (am_ x0:Int)))=true then if(x2 == x1)=true then some ((3,x2,()),((x4,x5,x6,()),())) else ix x0 x3 (aX.dflt) fun y1=>if(y1.1 != 2)=true then(oA y1.2.2.1 x4 x5 x6).bind fun z1=>(oX z1.1.1).bind fun z2=>if z2.1.1=true then if(y1.1 == 1)=true then(lg z1.1.1).bind fun z3=>if(decide ((ay_ z3.1.1:Int) > 200))=true then(ir 4).bind fun z4=>if(decide (y1.1≤2))=true then(aG y1.2.1 z4.1.1 z1.2.1.1 z1.2.1.2.1 z1.2.1.2.2.1).bind fun z5=>if(!z5.1.1)=true then some ((5,(he_ hf_ (x2+1)),()),(z5.2.1,())) else af x0 x1 (he_ hf_ (x2+1)) (he_ hf_ (x3+1)) z5.2.1.1 z5.2.1.2.1 z5.2.1.2.2.1 else af x0 x1 (he_ hf_ (x2+1)) (he_ hf_ (x3+1)) z1.2.1.1 z1.2.1.2.1 z1.2.1.2.2.1 else if(decide (y1.1≤2))=true then(aG y1.2.1 z3.1.1 z1.2.1.1 z1.2.1.2.1 z1.2.1.2.2.1).bind fun z6=>if(!z6.1.1)=true then some ((5,(he_ hf_ (x2+1)),()),(z6.2.1,())) else af x0 x1 (he_ hf_ (x2+1)) (he_ hf_ (x3+1)) z6.2.1.1 z6.2.1.2.1 z6.2.1.2.2.1 else af x0 x1 (he_ hf_ (x2+1)) (he_ hf_ (x3+1)) z1.2.1.1 z1.2.1.2.1 z1.2.1.2.2.1 else if(y1.1 == 3)=true then if(!z2.1.2.1)=true then if(decide (y1.1≤2))=true then(aG y1.2.1 y1.2.2.1 z1.2.1.1 z1.2.1.2.1 z1.2.1.2.2.1).bind fun z7=>if(!z7.1.1)=true then some ((5,(he_ hf_ (x2+1)),()),(z7.2.1,())) else af x0 x1 (he_ hf_ (x2+1)) (he_ hf_ ((he_ hf_ (x3+y1.2.2.2.1))+1)) z7.2.1.1 z7.2.1.2.1 z7.2.1.2.2.1 else af x0 x1 (he_ hf_ (x2+1)) (he_ hf_ ((he_ hf_ (x3+y1.2.2.2.1))+1)) z1.2.1.1 z1.2.1.2.1 z1.2.1.2.2.1 else if(y1.1 == 4)=true then if z2.1.2.1=true then if(decide (y1.1≤2))=true then(aG y1.2.1 y1.2.2.1 z1.2.1.1 z1.2.1.2.1 z1.2.1.2.2.1).bind fun z8=>if(!z8.1.1)=true then some ((5,(he_ hf_ (x2+1)),()),(z8.2.1,())) else af x0 x1 (he_ hf_ (x2+1)) (he_ hf_ ((he_ hf_ (x3 - (he_ hf_ (y1.2.2.2.1+1))))+1)) z8.2.1.1 z8.2.1.2.1 z8.2.1.2.2.1 else af x0 x1 (he_ hf_ (x2+1)) (he_ hf_ ((he_ hf_ (x3 - (he_ hf_ (y1.2.2.2.1+1))))+1)) z1.2.1.1 z1.2.1.2.1 z1.2.1.2.2.1 else if(y1.1 == 5)=true then if z2.1.2.1=true then some ((4,(he_ hf_ (x2+1)),()),(z1.2.1,())) else if(decide (y1.1≤2))=true then(aG y1.2.1 y1.2.2.1 z1.2.1.1 z1.2.1.2.1 z1.2.1.2.2.1).bind fun z9=>if(!z9.1.1)=true then some ((5,(he_ hf_ (x2+1)),()),(z9.2.1,())) else af x0 x1 (he_ hf_ (x2+1)) (he_ hf_ (x3+1)) z9.2.1.1 z9.2.1.2.1 z9.2.1.2.2.1 else af x0 x1 (he_ hf_ (x2+1)) (he_ hf_ (x3+1)) z1.2.1.1 z1.2.1.2.1 z1.2.1.2.2.1 else if(decide (y1.1≤2))=true then(aG y1.2.1 y1.2.2.1 z1.2.1.1 z1.2.1.2.1 z1.2.1.2.2.1).bind fun z10=>if(!z10.1.1)=true then some ((5,(he_ hf_ (x2+1)),()),(z10.2.1,())) else af x0 x1 (he_ hf_ (x2+1)) (he_ hf_ (x3+1)) z10.2.1.1 z10.2.1.2.1 z10.2.1.2.2.1 else af x0 x1 (he_ hf_ (x2+1)) (he_ hf_ (x3+1)) z1.2.1.1 z1.2.1.2.1 z1.2.1.2.2.1 else if(y1.1 == 5)=true then if z2.1.2.1=true then some ((4,(he_ hf_ (x2+1)),()),(z1.2.1,())) else if(decide (y1.1≤2))=true then(aG y1.2.1 y1.2.2.1 z1.2.1.1 z1.2.1.2.1 z1.2.1.2.2.1).bind fun z11=>if(!z11.1.1)=true then some ((5,(he_ hf_ (x2+1)),()),(z11.2.1,())) else af x0 x1 (he_ hf_ (x2+1)) (he_ hf_ (x3+1)) z11.2.1.1 z11.2.1.2.1 z11.2.1.2.2.1 else af x0 x1 (he_ hf_ (x2+1)) (he_ hf_ (x3+1)) z1.2.1.1 z1.2.1.2.1 z1.2.1.2.2.1 else if(decide (y1.1≤2))=true then(aG y1.2.1 y1.2.2.1 z1.2.1.1 z1.2.1.2.1 z1.2.1.2.2.1).bind fun z12=>if(!z12.1.1)=true then some ((5,(he_ hf_ (x2+1)),()),(z12.2.1,())) else af x0 x1 (he_ hf_ (x2+1)) (he_ hf_ (x3+1)) z12.2.1.1 z12.2.1.2.1 z12.2.1.2.2.1 else af x0 x1 (he_ hf_ (x2+1)) (he_ hf_ (x3+1)) z1.2.1.1 z1.2.1.2.1 z1.2.1.2.2.1 else if(y1.1 == 4)=true then if z2.1.2.1=true then if(decide (y1.1≤2))=true then(aG y1.2.1 y1.2.2.1 z1.2.1.1 z1.2.1.2.1 z1.2.1.2.2.1).bind fun z13=>if(!z13.1.1)=true then some ((5,(he_ hf_ (x2+1)),()),(z13.2.1,())) else af x0 x1 (he_ hf_ (x2+1)) (he_ hf_ ((he_ hf_ (x3 - (he_ hf_ (y1.2.2.2.1+1))))+1)) z13.2.1.1 z13.2.1.2.1 z13.2.1.2.2.1 else af x0 x1 (he_ hf_ (x2+1)) (he_ hf_ ((he_ hf_ (x3 - (he_ hf_ (y1.2.2.2.1+1))))+1)) z1.2.1.1 z1.2.1.2.1 z1.2.1.2.2.1 else if(y1.1 == 5)=true then if z2.1.2.1=true then some ((4,(he_ hf_ (x2+1)),()),(z1.2.1,())) else if(decide (y1.1≤2))=true then(aG y1.2.1 y1.2.2.1 z1.2.1.1 z1.2.1.2.1 z1.2.1.2.2.1).bind fun z14=>if(!z14.1.1)=true then some ((5,(he_ hf_ (x2+1)),()),(z14.2.1,())) else af x0 x1 (he_ hf_ (x2+1)) (he_ hf_ (x3+1)) z14.2.1.1 z14.2.1.2.1 z14.2.1.2.2.1 else af x0 x1 (he_ hf_ (x2+1)) (he_ hf_ (x3+1)) z1.2.1.1 z1.2.1.2.1 z1.2.1.2.2.1 else if(decide (y1.1≤2))=true then(aG y1.2.1 y1.2.2.1 z1.2.1.1 z1.2.1.2.1 z1.2.1.2.2.1).bind fun z15=>if(!z15.1.1)=true then some ((5,(he_ hf_ (x2+1)),()),(z15.2.1,())) else af x0 x1 (he_ hf_ (x2+1)) (he_ hf_ (x3+1)) z15.2.1.1 z15.2.1.2.1 z15.2.1.2.2.1 else af x0 x1 (he_ hf_ (x2+1)) (he_ hf_ (x3+1)) z1.2.1.1 z1.2.1.2.1 z1.2.1.2.2.1 else if(y1.1 == 5)=true then if z2.1.2.1=true then some ((4,(he_ hf_ (x2+1)),()),(z1.2.1,())) else if(decide (y1.1≤2))=true then(aG y1.2.1 y1.2.2.1 z1.2.1.1 z1.2.1.2.1 z1.2.1.2.2.1).bind fun z16=>if(!z16.1.1)=true then some ((5,(he_ hf_ (x2+1)),()),(z16.2.1,())) else af x0 x1 (he_ hf_ (x2+1)) (he_ hf_ (x3+1)) z16.2.1.1 z16.2.1.2.1 z16.2.1.2.2.1 else af x0 x1 (he_ hf_ (x2+1)) (he_ hf_ (x3+1)) z1.2.1.1 z1.2.1.2.1 z1.2.1.2.2.1 else if(decide (y1.1≤2))=true then(aG y1.2.1 y1.2.2.1 z1.2.1.1 z1.2.1.2.1 z1.2.1.2.2.1).bind fun z17=>if(!z17.1.1)=true then some ((5,(he_ hf_ (x2+1)),()),(z17.2.1,())) else af x0 x1 (he_ hf_ (x2+1)) (he_ hf_ (x3+1)) z17.2.1.1 z17.2.1.2.1 z17.2.1.2.2.1 else af x0 x1 (he_ hf_ (x2+1)) (he_ hf_ (x3+1)) z1.2.1.1 z1.2.1.2.1 z1.2.1.2.2.1 else if(y1.1 == 1)=true then(lg z1.1.1).bind fun z18=>if(decide ((ay_ z18.1.1:Int) > 200))=true then(ir 4).bind fun z19=>if(decide (y1.1≤2))=true then(aG y1.2.1 z19.1.1 z1.2.1.1 z1.2.1.2.1 z1.2.1.2.2.1).bind fun z20=>if(!z20.1.1)=true then some ((5,(he_ hf_ (x2+1)),()),(z20.2.1,())) else af x0 x1 (he_ hf_ (x2+1)) (he_ hf_ (x3+1)) z20.2.1.1 z20.2.1.2.1 z20.2.1.2.2.1 else af x0 x1 (he_ hf_ (x2+1)) (he_ hf_ (x3+1)) z1.2.1.1 z1.2.1.2.1 z1.2.1.2.2.1 else if(decide (y1.1≤2))=true then(aG y1.2.1 z18.1.1 z1.2.1.1 z1.2.1.2.1 z1.2.1.2.2.1).bind fun z21=>if(!z21.1.1)=true then some ((5,(he_ hf_ (x2+1)),()),(z21.2.1,())) else af x0 x1 (he_ hf_ (x2+1)) (he_ hf_ (x3+1)) z21.2.1.1 z21.2.1.2.1 z21.2.1.2.2.1 else af x0 x1 (he_ hf_ (x2+1)) (he_ hf_ (x3+1)) z1.2.1.1 z1.2.1.2.1 z1.2.1.2.2.1 else if(y1.1 == 3)=true then if(decide (y1.1≤2))=true then(aG y1.2.1 y1.2.2.1 z1.2.1.1 z1.2.1.2.1 z1.2.1.2.2.1).bind fun z22=>if(!z22.1.1)=true then some ((5,(he_ hf_ (x2+1)),()),(z22.2.1,())) else af x0 x1 (he_ hf_ (x2+1)) (he_ hf_ ((he_ hf_ (x3+y1.2.2.2.1))+1)) z22.2.1.1 z22.2.1.2.1 z22.2.1.2.2.1 else af x0 x1 (he_ hf_ (x2+1)) (he_ hf_ ((he_ hf_ (x3+y1.2.2.2.1))+1)) z1.2.1.1 z1.2.1.2.1 z1.2.1.2.2.1 else if(y1.1 == 4)=true then if(y1.1 == 5)=true then if(decide (y1.1≤2))=true then(aG y1.2.1 y1.2.2.1 z1.2.1.1 z1.2.1.2.1 z1.2.1.2.2.1).bind fun z23=>if(!z23.1.1)=true then some ((5,(he_ hf_ (x2+1)),()),(z23.2.1,())) else af x0 x1 (he_ hf_ (x2+1)) (he_ hf_ (x3+1)) z23.2.1.1 z23.2.1.2.1 z23.2.1.2.2.1 else af x0 x1 (he_ hf_ (x2+1)) (he_ hf_ (x3+1)) z1.2.1.1 z1.2.1.2.1 z1.2.1.2.2.1 else if(decide (y1.1≤2))=true then(aG y1.2.1 y1.2.2.1 z1.2.1.1 z1.2.1.2.1 z1.2.1.2.2.1).bind fun z24=>if(!z24.1.1)=true then some ((5,(he_ hf_ (x2+1)),()),(z24.2.1,())) else af x0 x1 (he_ hf_ (x2+1)) (he_ hf_ (x3+1)) z24.2.1.1 z24.2.1.2.1 z24.2.1.2.2.1 else af x0 x1 (he_ hf_ (x2+1)) (he_ hf_ (x3+1)) z1.2.1.1 z1.2.1.2.1 z1.2.1.2.2.1 else if(y1.1 == 5)=true then if(decide (y1.1≤2))=true then(aG y1.2.1 y1.2.2.1 z1.2.1.1 z1.2.1.2.1 z1.2.1.2.2.1).bind fun z25=>if(!z25.1.1)=true then some ((5,(he_ hf_ (x2+1)),()),(z25.2.1,())) else af x0 x1 (he_ hf_ (x2+1)) (he_ hf_ (x3+1)) z25.2.1.1 z25.2.1.2.1 z25.2.1.2.2.1 else af x0 x1 (he_ hf_ (x2+1)) (he_ hf_ (x3+1)) z1.2.1.1 z1.2.1.2.1 z1.2.1.2.2.1 else if(decide (y1.1≤2))=true then(aG y1.2.1 y1.2.2.1 z1.2.1.1 z1.2.1.2.1 z1.2.1.2.2.1).bind fun z26=>if(!z26.1.1)=true then some ((5,(he_ hf_ (x2+1)),()),(z26.2.1,())) else af x0 x1 (he_ hf_ (x2+1)) (he_ hf_ (x3+1)) z26.2.1.1 z26.2.1.2.1 z26.2.1.2.2.1 else af x0 x1 (he_ hf_ (x2+1)) (he_ hf_ (x3+1)) z1.2.1.1 z1.2.1.2.1 z1.2.1.2.2.1 else if(decide (y1.1≤2))=true then(aG y1.2.1 y1.2.2.1 x4 x5 x6).bind fun z27=>if(!z27.1.1)=true then some ((5,(he_ hf_ (x2+1)),()),(z27.2.1,())) else af x0 x1 (he_ hf_ (x2+1)) (he_ hf_ (x3+1)) z27.2.1.1 z27.2.1.2.1 z27.2.1.2.2.1 else l9 x0 x1 (he_ hf_ (x2+1)) (he_ hf_ (x3+1)) x4 x5 x6 else some ((0,x2,()),((x4,x5,x6,()),())):=bz
theorem C0 {x0 x1 x2 x3}:wz x0 x1 x2 x3=if(decide (x1 < (am_ x0:Int)))=true then ix x0 x1 (au.dflt) fun y1=>if(bq au y1 (x2,x3,()))=true then some ((true,()),()) else wz x0 (he_ hf_ (x1+1)) x2 x3 else some ((false,()),()):=bz
theorem ze {x0 x1 x2}:lO x0 x1 x2=if(decide (x1 < (am_ x0:Int)))=true then ix x0 x1 (aq.dflt) fun y1=>if(y1.1 == 2)=true then ix x0 x1 (aq.dflt) fun y2=>ix x0 x1 (aq.dflt) fun y3=>app x2 ([(y2.2.2.2.1.1,y3.2.2.2.1.1,())]:(List ak)) 32 fun y4=>lO x0 (he_ hf_ (x1+1)) y4 else if(y1.1 == 3)=true then ix x0 x1 (aq.dflt) fun y5=>ix x0 x1 (aq.dflt) fun y6=>app x2 ([(y5.2.2.2.1.1,y6.2.2.2.2.1.1,())]:(List ak)) 32 fun y7=>lO x0 (he_ hf_ (x1+1)) y7 else lO x0 (he_ hf_ (x1+1)) x2 else some ((x2,()),()):=bz
theorem zf {x0 x1 x2 x3 x4 x5 x6 x7 x8 x9 x10 x11 x12 x13}:lP x0 x1 x2 x3 x4 x5 x6 x7 x8 x9 x10 x11 x12 x13=if(decide (x0 < (am_ x10:Int)))=true then oi x0 false 0 x1 x2 x3 x4 x5 x6 x7 x8 x9 x10 x11 x12 x13 else some (((x1,x2,x3,x4,x5,x6,()),()),()):=bz
theorem E1 {x0 x1 x2 x3 x4 x5 x6}:Av x0 x1 x2 x3 x4 x5 x6=if(decide (x1 < (am_ x0:Int)))=true then ix x0 x1 (aw.dflt) fun y1=>if(bq au y1.1 (x2,x3,()))=true then ix x0 x1 (aw.dflt) fun y2=>some ((y2.2.1,()),()) else Av x0 (he_ hf_ (x1+1)) x2 x3 x4 x5 x6 else some (((0,0,⟨#[]⟩,()),()),()):=bz
theorem E2 {x0 x1 x2 x3}:Aw x0 x1 x2 x3=if(decide (x1 < (am_ x0:Int)))=true then ix x0 x1 (av.dflt) fun y1=>if(bq au y1.1 (x2,x3,()))=true then ix x0 x1 (av.dflt) fun y2=>some ((y2.2.1,()),()) else Aw x0 (he_ hf_ (x1+1)) x2 x3 else some ((⟨#[]⟩,()),()):=bz
theorem zg {x0 x1 x2 x3}:kb x0 x1 x2 x3=if(decide (x1 < (am_ x0:Int)))=true then oj x0 x1 false 0 x2 x3 else some ((x2,()),()):=bz
theorem wK {x0 x1 x2 x3 x4}:mz x0 x1 x2 x3 x4=if(decide (x1 < (am_ x4:Int)))=true then inb x4 x1 (if(bq au (aw_ x4 (ap_ x1) (au.dflt)) (x2,x3,()))=true then some ((true,()),()) else inb x4 x1 ((oZ x0 (aw_ x4 (ap_ x1) (au.dflt))).bind fun z1=>mD x0 x1 0 x2 x3 x4 z1.1.1)) else some ((false,()),()):=bz
theorem C1 {x0 x1 x2 x3}:wA x0 x1 x2 x3=if(decide (x1 < (am_ x0:Int)))=true then ix x0 x1 (aw.dflt) fun y1=>(oV y1.1 x2).bind fun z1=>if z1.1.1=true then wA x0 (he_ hf_ (x1+1)) x2 x3 else RB x0 x1 fun y2=>app ([]:(List ah)) y2 48 fun y3=>app y3 ([(x2,x3,())]:(List ah)) 48 fun y4=>RC x0 x1 fun y5=>app y4 y5 48 fun y6=>some ((y6,()),()) else RB x0 x1 fun y7=>app ([]:(List ah)) y7 48 fun y8=>app y8 ([(x2,x3,())]:(List ah)) 48 fun y9=>RC x0 x1 fun y10=>app y9 y10 48 fun y11=>some ((y11,()),()):=bz
theorem wL {x0 x1}:mA x0 x1=if(decide (x1 < (am_ x0:Int)))=true then ix x0 x1 (aw.dflt) fun y1=>(dA y1.1).bind fun z1=>if(!z1.1.1)=true then some ((false,()),()) else ix x0 x1 (aw.dflt) fun y2=>(eE y2.2.1).bind fun z2=>if(!z2.1.1)=true then some ((false,()),()) else if(decide (x1 > 0))=true then ix x0 (he_ hf_ (x1 - 1)) (aw.dflt) fun y3=>ix x0 x1 (aw.dflt) fun y4=>(oV y3.1 y4.1).bind fun z3=>if(!z3.1.1)=true then some ((false,()),()) else mA x0 (he_ hf_ (x1+1)) else mA x0 (he_ hf_ (x1+1)) else some ((true,()),()):=bz
end Go.Proofs.YthbkdfcmjmmpgaaGreatDoor.Abs
namespace Go.Proofs.YthbkdfcmjmmpgaaGreatDoor.Abs
open Go Go.Proofs.YthbkdfcmjmmpgaaGreatDoor
theorem BB {x0 x1 x2 x3 x4}:nk x0 x1 x2 x3 x4=ix x0 x1 (aq.dflt) fun y1=>if(decide (x3 < (am_ y1.2.2.2.2.2.1:Int)))=true then ix x0 x1 (aq.dflt) fun y2=>ix y2.2.2.2.2.2.1 x3 0 fun y3=>ix x0 y3 (aq.dflt) fun y4=>if(y4.1 != 3)=true then ix x0 x1 (aq.dflt) fun y5=>ix y5.2.2.2.2.2.1 x3 0 fun y6=>(fm x0 y6 x2).bind fun z1=>app x4 ([z1.1.1]:(List ac)) 32 fun y7=>nk x0 x1 x2 (he_ hf_ (x3+1)) y7 else ke x0 x1 x2 x3 0 x4 y4.2.2.2.1.1 y4.2.2.2.2.1.1 else some ((x4,()),()):=bz
theorem jH {x0 x1 x2 x3 x4 x5 x6 x7 x8 x9 x10 x11}:bC x0 x1 x2 x3 x4 x5 x6 x7 x8 x9 x10 x11=if(decide (x5 < (am_ x1:Int)))=true then ix x1 x5 (ap.dflt) fun y1=>if(x0 == 6)=true then(py y1).bind fun z1=>if(z1.1.2.1.1 != 0)=true then some ((z1.1.2.1,()),()) else if x3=true then if x4=true then bC x0 x1 x2 z1.1.1 true (he_ hf_ (x5+1)) x6 x7 x8 x9 x10 x11 else bC x0 x1 x2 z1.1.1 z1.1.1 (he_ hf_ (x5+1)) x6 x7 x8 x9 x10 x11 else if x4=true then bC x0 x1 x2 false true (he_ hf_ (x5+1)) x6 x7 x8 x9 x10 x11 else bC x0 x1 x2 false z1.1.1 (he_ hf_ (x5+1)) x6 x7 x8 x9 x10 x11 else if(x0 == 7)=true then(py y1).bind fun z2=>if(z2.1.2.1.1 != 0)=true then some ((z2.1.2.1,()),()) else if x3=true then if x4=true then bC x0 x1 x2 z2.1.1 true (he_ hf_ (x5+1)) x6 x7 x8 x9 x10 x11 else bC x0 x1 x2 z2.1.1 z2.1.1 (he_ hf_ (x5+1)) x6 x7 x8 x9 x10 x11 else if x4=true then bC x0 x1 x2 false true (he_ hf_ (x5+1)) x6 x7 x8 x9 x10 x11 else bC x0 x1 x2 false z2.1.1 (he_ hf_ (x5+1)) x6 x7 x8 x9 x10 x11 else if(y1.1 == 4)=true then if(x0 != 4)=true then some ((y1,()),()) else if(y1.1 != 1)=true then bC x0 x1 x2 x3 x4 (he_ hf_ (x5+1)) x6 x7 x8 x9 x10 x11 else if(x0 == 1)=true then(FP (x9,x10,x11,()) y1).bind fun z3=>if(z3.1.1.1 == 4)=true then some ((z3.1.1,()),()) else bC x0 x1 (he_ hf_ (x2+1)) x3 x4 (he_ hf_ (x5+1)) x6 x7 x8 z3.1.1.1 z3.1.1.2.1 z3.1.1.2.2.1 else if((he_ hf_ (x2+1)) == 1)=true then bC x0 x1 (he_ hf_ (x2+1)) x3 x4 (he_ hf_ (x5+1)) x6 x7 x8 y1.1 y1.2.1 y1.2.2.1 else if(x0 == 2)=true then if(decide (y1.2.1 < x10))=true then bC x0 x1 (he_ hf_ (x2+1)) x3 x4 (he_ hf_ (x5+1)) x6 x7 x8 y1.1 y1.2.1 y1.2.2.1 else if(x0 == 3)=true then if(decide (y1.2.1 > x10))=true then bC x0 x1 (he_ hf_ (x2+1)) x3 x4 (he_ hf_ (x5+1)) x6 x7 x8 y1.1 y1.2.1 y1.2.2.1 else bC x0 x1 (he_ hf_ (x2+1)) x3 x4 (he_ hf_ (x5+1)) x6 x7 x8 x9 x10 x11 else bC x0 x1 (he_ hf_ (x2+1)) x3 x4 (he_ hf_ (x5+1)) x6 x7 x8 x9 x10 x11 else if(x0 == 3)=true then if(decide (y1.2.1 > x10))=true then bC x0 x1 (he_ hf_ (x2+1)) x3 x4 (he_ hf_ (x5+1)) x6 x7 x8 y1.1 y1.2.1 y1.2.2.1 else bC x0 x1 (he_ hf_ (x2+1)) x3 x4 (he_ hf_ (x5+1)) x6 x7 x8 x9 x10 x11 else bC x0 x1 (he_ hf_ (x2+1)) x3 x4 (he_ hf_ (x5+1)) x6 x7 x8 x9 x10 x11 else if(y1.1 != 1)=true then bC x0 x1 x2 x3 x4 (he_ hf_ (x5+1)) x6 x7 x8 x9 x10 x11 else if(x0 == 1)=true then(FP (x9,x10,x11,()) y1).bind fun z4=>if(z4.1.1.1 == 4)=true then some ((z4.1.1,()),()) else bC x0 x1 (he_ hf_ (x2+1)) x3 x4 (he_ hf_ (x5+1)) x6 x7 x8 z4.1.1.1 z4.1.1.2.1 z4.1.1.2.2.1 else if((he_ hf_ (x2+1)) == 1)=true then bC x0 x1 (he_ hf_ (x2+1)) x3 x4 (he_ hf_ (x5+1)) x6 x7 x8 y1.1 y1.2.1 y1.2.2.1 else if(x0 == 2)=true then if(decide (y1.2.1 < x10))=true then bC x0 x1 (he_ hf_ (x2+1)) x3 x4 (he_ hf_ (x5+1)) x6 x7 x8 y1.1 y1.2.1 y1.2.2.1 else if(x0 == 3)=true then if(decide (y1.2.1 > x10))=true then bC x0 x1 (he_ hf_ (x2+1)) x3 x4 (he_ hf_ (x5+1)) x6 x7 x8 y1.1 y1.2.1 y1.2.2.1 else bC x0 x1 (he_ hf_ (x2+1)) x3 x4 (he_ hf_ (x5+1)) x6 x7 x8 x9 x10 x11 else bC x0 x1 (he_ hf_ (x2+1)) x3 x4 (he_ hf_ (x5+1)) x6 x7 x8 x9 x10 x11 else if(x0 == 3)=true then if(decide (y1.2.1 > x10))=true then bC x0 x1 (he_ hf_ (x2+1)) x3 x4 (he_ hf_ (x5+1)) x6 x7 x8 y1.1 y1.2.1 y1.2.2.1 else bC x0 x1 (he_ hf_ (x2+1)) x3 x4 (he_ hf_ (x5+1)) x6 x7 x8 x9 x10 x11 else bC x0 x1 (he_ hf_ (x2+1)) x3 x4 (he_ hf_ (x5+1)) x6 x7 x8 x9 x10 x11 else if(x0 == 4)=true then(jc x2).bind fun z5=>some ((z5.1.1,()),()) else if(x0 == 6)=true then(jE x3).bind fun z6=>some ((z6.1.1,()),()) else if(x0 == 7)=true then(jE x4).bind fun z7=>some ((z7.1.1,()),()) else some (((x9,x10,x11,()),()),()):=bz
theorem BC {x0 x1 x2 x3 x4 x5}:qp x0 x1 x2 x3 x4 x5=if(decide (x3 < (am_ x0:Int)))=true then ix x0 x3 (av.dflt) fun y1=>(oc x2 y1.1).bind fun z1=>if z1.1.1=true then ix x0 x3 (av.dflt) fun y2=>app x5 ([y2.1]:(List am)) 16 fun y3=>qp x0 x1 x2 (he_ hf_ (x3+1)) x4 y3 else ix x0 x3 (av.dflt) fun y4=>ix x0 x3 (av.dflt) fun y5=>(MI x1 y5.1).bind fun z2=>app x4 ([(y4.1,z2.1.1,())]:(List ah)) 48 fun y6=>qp x0 x1 x2 (he_ hf_ (x3+1)) y6 x5 else jS x0 x4 x5:=bz
theorem C2 {x0 x1 x2}:wB x0 x1 x2=if(decide (x1 < (am_ x0:Int)))=true then ix x0 x1 (av.dflt) fun y1=>app x2 ([y1.1]:(List am)) 16 fun y2=>wB x0 (he_ hf_ (x1+1)) y2 else(D0 x0 ([]:(List ah)) x2).bind fun z1=>some ((z1.1.1,()),()):=bz
theorem Mx {x0 x1 x2 x3 x4 x5 x6 x7 x8 x9 x10 x11 x12 x13}:Ax x0 x1 x2 x3 x4 x5 x6 x7 x8 x9 x10 x11 x12 x13=if(x7 == 0)=true then if(decide (x5 < (am_ x0:Int)))=true then if(x6 == x1)=true then some (((x11,x5,x6,3,x12,x13,()),()),()) else ix x0 x5 (aX.dflt) fun y1=>if(y1.1 == 2)=true then(iO (x11,(he_ hf_ (x5+1)),(he_ hf_ (x6+1)),x7,x12,x13,()) y1.2.1 y1.2.2.1).bind fun z1=>bd x0 x1 x2 x3 x4 z1.1.1.1 z1.1.1.2.1 z1.1.1.2.2.1 z1.1.1.2.2.2.1 z1.1.1.2.2.2.2.1 z1.1.1.2.2.2.2.2.1 x8 x9 x10 else(Aq (x11,(he_ hf_ (x5+1)),(he_ hf_ (x6+1)),x7,x12,x13,()) y1.2.2.1).bind fun z2=>(wu z2.1.1 y1.2.2.1).bind fun z3=>(py z3.1.1).bind fun z4=>if z4.1.1=true then if(y1.1 == 1)=true then(et z3.1.1).bind fun z5=>if(decide ((ay_ z5.1.1:Int) > 200))=true then(nc 4).bind fun z6=>(iO z2.1.1 y1.2.1 z6.1.1).bind fun z7=>bd x0 x1 x2 x3 x4 z7.1.1.1 z7.1.1.2.1 z7.1.1.2.2.1 z7.1.1.2.2.2.1 z7.1.1.2.2.2.2.1 z7.1.1.2.2.2.2.2.1 x8 x9 x10 else(iO z2.1.1 y1.2.1 z5.1.1).bind fun z8=>bd x0 x1 x2 x3 x4 z8.1.1.1 z8.1.1.2.1 z8.1.1.2.2.1 z8.1.1.2.2.2.1 z8.1.1.2.2.2.2.1 z8.1.1.2.2.2.2.2.1 x8 x9 x10 else if(y1.1 == 3)=true then if(! (z4.1.2.1.1 == 0))=true then bd x0 x1 x2 x3 x4 z2.1.1.1 (he_ hf_ (z2.1.1.2.1+y1.2.2.2.1)) z2.1.1.2.2.1 z2.1.1.2.2.2.1 z2.1.1.2.2.2.2.1 z2.1.1.2.2.2.2.2.1 x8 x9 x10 else bd x0 x1 x2 x3 x4 z2.1.1.1 z2.1.1.2.1 z2.1.1.2.2.1 z2.1.1.2.2.2.1 z2.1.1.2.2.2.2.1 z2.1.1.2.2.2.2.2.1 x8 x9 x10 else if(y1.1 == 4)=true then if(z4.1.2.1.1 == 0)=true then bd x0 x1 x2 x3 x4 z2.1.1.1 (he_ hf_ ((he_ hf_ (z2.1.1.2.1 - 1)) - y1.2.2.2.1)) z2.1.1.2.2.1 z2.1.1.2.2.2.1 z2.1.1.2.2.2.2.1 z2.1.1.2.2.2.2.2.1 x8 x9 x10 else bd x0 x1 x2 x3 x4 z2.1.1.1 z2.1.1.2.1 z2.1.1.2.2.1 z2.1.1.2.2.2.1 z2.1.1.2.2.2.2.1 z2.1.1.2.2.2.2.2.1 x8 x9 x10 else if(y1.1 == 5)=true then if(z4.1.2.1.1 == 0)=true then bd x0 x1 x2 x3 x4 z2.1.1.1 z2.1.1.2.1 z2.1.1.2.2.1 4 z2.1.1.2.2.2.2.1 z2.1.1.2.2.2.2.2.1 x8 x9 x10 else bd x0 x1 x2 x3 x4 z2.1.1.1 z2.1.1.2.1 z2.1.1.2.2.1 z2.1.1.2.2.2.1 z2.1.1.2.2.2.2.1 z2.1.1.2.2.2.2.2.1 x8 x9 x10 else bd x0 x1 x2 x3 x4 z2.1.1.1 z2.1.1.2.1 z2.1.1.2.2.1 z2.1.1.2.2.2.1 z2.1.1.2.2.2.2.1 z2.1.1.2.2.2.2.2.1 x8 x9 x10 else if(y1.1 == 1)=true then(et z3.1.1).bind fun z9=>if(decide ((ay_ z9.1.1:Int) > 200))=true then(nc 4).bind fun z10=>(iO z2.1.1 y1.2.1 z10.1.1).bind fun z11=>bd x0 x1 x2 x3 x4 z11.1.1.1 z11.1.1.2.1 z11.1.1.2.2.1 z11.1.1.2.2.2.1 z11.1.1.2.2.2.2.1 z11.1.1.2.2.2.2.2.1 x8 x9 x10 else(iO z2.1.1 y1.2.1 z9.1.1).bind fun z12=>bd x0 x1 x2 x3 x4 z12.1.1.1 z12.1.1.2.1 z12.1.1.2.2.1 z12.1.1.2.2.2.1 z12.1.1.2.2.2.2.1 z12.1.1.2.2.2.2.2.1 x8 x9 x10 else if(y1.1 == 3)=true then bd x0 x1 x2 x3 x4 z2.1.1.1 (he_ hf_ (z2.1.1.2.1+y1.2.2.2.1)) z2.1.1.2.2.1 z2.1.1.2.2.2.1 z2.1.1.2.2.2.2.1 z2.1.1.2.2.2.2.2.1 x8 x9 x10 else if(y1.1 == 4)=true then bd x0 x1 x2 x3 x4 z2.1.1.1 z2.1.1.2.1 z2.1.1.2.2.1 z2.1.1.2.2.2.1 z2.1.1.2.2.2.2.1 z2.1.1.2.2.2.2.2.1 x8 x9 x10 else if(y1.1 == 5)=true then bd x0 x1 x2 x3 x4 z2.1.1.1 z2.1.1.2.1 z2.1.1.2.2.1 z2.1.1.2.2.2.1 z2.1.1.2.2.2.2.1 z2.1.1.2.2.2.2.2.1 x8 x9 x10 else bd x0 x1 x2 x3 x4 z2.1.1.1 z2.1.1.2.1 z2.1.1.2.2.1 z2.1.1.2.2.2.1 z2.1.1.2.2.2.2.1 z2.1.1.2.2.2.2.2.1 x8 x9 x10 else some (((x11,x5,x6,x7,x12,x13,()),()),()) else some (((x11,x5,x6,x7,x12,x13,()),()),()):=bz
theorem HQ {x0 x1 x2}:qq x0 x1 x2=if(decide (x2 < (am_ x0:Int)))=true then ix x0 x2 (au.dflt) fun y1=>ix x1 x2 (au.dflt) fun y2=>if(! (bq au y1 y2))=true then some ((false,()),()) else qq x0 x1 (he_ hf_ (x2+1)) else some ((true,()),()):=bz
theorem wM {x0 x1 x2 x3 x4}:qr x0 x1 x2 x3 x4=if(decide (x2 < x1))=true then ix x0 x2 (av.dflt) fun y1=>if(bq au y1.1 (x3,x4,()))=true then some ((y1.2.1,()),()) else qr x0 x1 (he_ hf_ (x2+1)) x3 x4 else some ((⟨#[]⟩,()),()):=bz
theorem vy {x0 x1 x2 x3 x4 x5 x6 x7 x8 x9 x10}:ly x0 x1 x2 x3 x4 x5 x6 x7 x8 x9 x10=if(decide (x4 < (am_ x5:Int)))=true then inb x5 x4 (ix x2 x4 (ax.dflt) fun y1=>if(! (bq ax (aw_ x5 (ap_ x4) (ax.dflt)) y1))=true then some ((false,()),()) else inb x5 x4 ((D1 (x8,x9,()) (aw_ x5 (ap_ x4) (ax.dflt))).bind fun z1=>if z1.1.1=true then some ((true,()),()) else ly x0 x1 x2 x3 (he_ hf_ (x4+1)) x5 x6 x7 x8 x9 x10)) else(ww x10 x0 x1).bind fun z2=>if(z2.1.2.1 != 0)=true then some ((false,()),()) else if(z2.1.2.2.1 != x3)=true then some ((false,()),()) else oD 0 x6 x7 z2.1.1:=bz
theorem nS {x0 x1 x2 x3 x4 x5}:dt x0 x1 x2 x3 x4 x5=if(!x3)=true then(sL x1 x2 x3 x5).bind fun z1=>app x4 ([z1.1.1]:(List Int)) 8 fun y1=>(dZ ⟨#[41]⟩ z1.2.1.1 z1.2.1.2.1 z1.2.1.2.2.1 z1.2.1.2.2.2.1).bind fun z2=>if z2.1.1=true then(cx (6,x0,(0,0,⟨#[]⟩,()),((0,0,()),false,false,()),((0,0,()),false,false,()),y1,()) z2.2.1.1 z2.2.1.2.1 z2.2.1.2.2.1 z2.2.1.2.2.2.1).bind fun z3=>some ((z3.1.1,()),(z3.2.1,())) else(dZ ⟨#[44]⟩ z2.2.1.1 z2.2.1.2.1 z2.2.1.2.2.1 z2.2.1.2.2.2.1).bind fun z4=>if(!z4.1.1)=true then dt x0 z4.2.1.1 z4.2.1.2.1 true y1 z4.2.1.2.2.2.1 else dt x0 z4.2.1.1 z4.2.1.2.1 z4.2.1.2.2.1 y1 z4.2.1.2.2.2.1 else some ((0,()),((x1,x2,x3,x5,()),())):=bz
theorem wN {x0 x1 x2 x3 x4 x5 x6}:mB x0 x1 x2 x3 x4 x5 x6=if(decide (x1 < (am_ x5:Int)))=true then inb x5 x1 ((u9 (aw_ x5 (ap_ x1) 0)).bind fun z1=>if(z1.1.1 == x0)=true then inb x5 x1 ((lL (aw_ x5 (ap_ x1) 0)).bind fun z2=>(dZ z2.1.1 x2 x3 x4 x6).bind fun z3=>if z3.1.1=true then inb x5 x1 (some (((aw_ x5 (ap_ x1) 0),()),(z3.2.1,()))) else mB x0 (he_ hf_ (x1+1)) z3.2.1.1 z3.2.1.2.1 z3.2.1.2.2.1 x5 z3.2.1.2.2.2.1) else mB x0 (he_ hf_ (x1+1)) x2 x3 x4 x5 x6) else some ((0,()),((x2,x3,x4,x6,()),())):=bz
theorem vz {x0 x1 x2}:lz x0 x1 x2=ix x0 x1 (aq.dflt) fun y1=>if(decide (x2 < (am_ y1.2.2.2.2.2.1:Int)))=true then ix x0 x1 (aq.dflt) fun y2=>ix y2.2.2.2.2.2.1 x2 0 fun y3=>(iq y3 0 (he_ hf_ (x1 - 1))).bind fun z1=>if(!z1.1.1)=true then some ((false,()),()) else ix x0 y3 (aq.dflt) fun y4=>if(y4.1 == 3)=true then ix x0 x1 (aq.dflt) fun y5=>if(y5.1 != 6)=true then some ((false,()),()) else lz x0 x1 (he_ hf_ (x2+1)) else lz x0 x1 (he_ hf_ (x2+1)) else eX x0 (he_ hf_ (x1+1)):=bz
theorem sU {x0 x1 x2}:jR x0 x1 x2=if(decide (x0 > 0))=true then app ([]:(List bg)) x2 48 fun y1=>(lc x1).bind fun z1=>app y1 ([z1.1.1]:(List bg)) 48 fun y2=>(j8 y2).bind fun z2=>if z2.1.1=true then ey (he_ hf_ (x0 - 1)) z1.2.1 y2 else inb y2 (he_ hf_ ((am_ y2:Int) - 1)) (if((aw_ y2 (ap_ (he_ hf_ ((am_ y2:Int) - 1))) (aX.dflt)).1 == 3)=true then ey (he_ hf_ (x0 - 1)) z1.2.1 y2 else jR (he_ hf_ (x0 - 1)) z1.2.1 x2) else(j8 x2).bind fun z3=>if(!z3.1.1)=true then(b8 20 x1).bind fun z4=>if(!z4.1.1)=true then(bI z4.2.1).bind fun z5=>(bI z5.2.1).bind fun z6=>app x2 ([(1,z5.1.1,⟨#[49]⟩,0,()),(1,z6.1.1,⟨#[65,49,43,66,50]⟩,0,())]:(List bg)) 48 fun y3=>some ((y3,()),(z6.2.1,())) else some ((x2,()),(z4.2.1,())) else some ((x2,()),(x1,())):=bz
theorem qw {x0 x1 x2 x3 x4 x5 x6 x7}:cJ x0 x1 x2 x3 x4 x5 x6 x7=if(decide (x4≤11))=true then(qj x5 x6 x7).bind fun z1=>(yD x4).bind fun z2=>if(ah_ z1.1.1 == ah_ z2.1.1)=true then cJ x0 x1 x2 x4 (he_ hf_ (x4+1)) z1.2.1.1 z1.2.1.2.2.1 z1.2.1.2.1 else cJ x0 x1 x2 x3 (he_ hf_ (x4+1)) z1.2.1.1 z1.2.1.2.2.1 z1.2.1.2.1 else if(x3 == 0)=true then some ((x2,()),((x5,x7,x6,()),())) else(CH x3).bind fun z3=>if(decide (z3.1.1 < x0))=true then some ((x2,()),((x5,x7,x6,()),())) else(yD x3).bind fun z4=>(bE z4.1.1 x5 x6 x7).bind fun z5=>(CH x3).bind fun z6=>(bJ (he_ hf_ (z6.1.1+1)) x1 z5.2.1.1 z5.2.1.2.2.1 z5.2.1.2.1).bind fun z7=>(aU (5,x3,(0,0,⟨#[]⟩,()),((0,0,()),false,false,()),((0,0,()),false,false,()),([x2,z7.1.1]:(List Int)),()) z7.2.1.1 z7.2.1.2.2.1 z7.2.1.2.1).bind fun z8=>cI x0 x1 z8.1.1 z8.2.1.1 z8.2.1.2.2.1 z8.2.1.2.1:=bz
theorem ol {x0 x1 x2 x3}:gd x0 x1 x2 x3=if(decide (x2 < x1))=true then ix x0 x2 (ax.dflt) fun y1=>(eu x3 y1).bind fun z1=>if(!z1.1.1)=true then app x3 ([y1]:(List ak)) 32 fun y2=>gd x0 x1 (he_ hf_ (x2+1)) y2 else gd x0 x1 (he_ hf_ (x2+1)) x3 else some ((),(x3,())):=bz
theorem qX {x0 x1 x2 x3 x4 x5 x6}:jg x0 x1 x2 x3 x4 x5 x6=if(decide (x2 < x1))=true then inb x3 x2 (inb x6 x0 ((pu (aw_ x6 (ap_ x0) (ax.dflt)) (aw_ x3 (ap_ x2) (av.dflt)).1).bind fun z1=>if z1.1.1=true then(tR (aw_ x3 (ap_ x2) (av.dflt)).2.1).bind fun z2=>(vg z2.1.1).bind fun z3=>(jO z3.1.1 x6).bind fun z4=>jg x0 x1 (he_ hf_ (x2+1)) x3 x4 x5 z4.2.1 else jg x0 x1 (he_ hf_ (x2+1)) x3 x4 x5 x6)) else jd (he_ hf_ (x0+1)) x3 x4 x5 x6:=bz
theorem qx {x0 x1 x2 x3 x4 x5}:im x0 x1 x2 x3 x4 x5=if(decide (x1 < x0))=true then inb x5 x1 ((eu x3 (aw_ x5 (ap_ x1) (ax.dflt))).bind fun z1=>if(!z1.1.1)=true then app x3 ([(aw_ x5 (ap_ x1) (ax.dflt))]:(List ak)) 32 fun y1=>gE x0 (he_ hf_ (x1+1)) x2 x4 x5 y1 else im x0 (he_ hf_ (x1+1)) x2 x3 x4 x5) else some ((),((x2,x3,x4,()),())):=bz
theorem gI {x0 x1 x2 x3}:cm x0 x1 x2 x3=if(decide (x2 < x1))=true then ix x0 x2 (ax.dflt) fun y1=>(NP y1 x3).bind fun z1=>if z1.1.1=true then some ((x2,()),(z1.2.1,())) else cm x0 x1 (he_ hf_ (x2+1)) z1.2.1 else some (((-1),()),(x3,())):=bz
theorem wO {x0 x1 x2 x3 x4 x5 x6 x7 x8 x9 x10 x11 x12 x13 x14 x15}:mC x0 x1 x2 x3 x4 x5 x6 x7 x8 x9 x10 x11 x12 x13 x14 x15=if(decide (x6 < x5))=true then ix x4 x6 (av.dflt) fun y1=>(Tj x9 y1.1).bind fun z1=>if z1.1.1=true then app x10 ([x6]:(List Int)) 8 fun y2=>mC x0 x1 x2 x3 x4 x5 (he_ hf_ (x6+1)) x7 x8 x9 y2 x11 x12 x13 x14 x15 else mC x0 x1 x2 x3 x4 x5 (he_ hf_ (x6+1)) x7 x8 x9 x10 x11 x12 x13 x14 x15 else app x14 ([x8]:(List (List ab))) 24 fun y3=>app x15 ([x10]:(List (List Int))) 24 fun y4=>my x0 x1 x2 (he_ hf_ (x3+1)) x7 x11 x12 x13 y3 y4:=bz
theorem dJ {x0 x1 x2 x3 x4 x5 x6}:cc x0 x1 x2 x3 x4 x5 x6=if(decide (x3 < x2))=true then ix x1 x3 0 fun y1=>(bR y1 x4 x5 x6).bind fun z1=>cc x0 x1 x2 (he_ hf_ (x3+1)) z1.2.2.1 z1.2.1 z1.2.2.2.1 else ix x4.2.1 x0 ([]:(List ab)) fun y2=>(tS y2 x6).bind fun z2=>inb x6 x0 (tm (aw.dflt) x6 x0 (fun e=>(e.1,z2.1.1,())) fun w3=>some ((),(x5,x4,w3,()))):=bz
theorem wP {x0 x1 x2 x3 x4 x5 x6 x7 x8 x9}:jh x0 x1 x2 x3 x4 x5 x6 x7 x8 x9=if(decide (x8 < x7))=true then ix x6 x8 (aw.dflt) fun y1=>ix x0 x2 (aq.dflt) fun y2=>(j9 y2).bind fun z1=>(pu z1.1.1 y1.1).bind fun z2=>if z2.1.1=true then app x9 ([y1.2.1]:(List ac)) 32 fun y3=>jh x0 x1 x2 x3 x4 x5 x6 x7 (he_ hf_ (x8+1)) y3 else jh x0 x1 x2 x3 x4 x5 x6 x7 (he_ hf_ (x8+1)) x9 else kI x0 x1 x3 x4 (he_ hf_ (x5+1)) x9:=bz
theorem AH {x0 x1 x2 x3 x4 x5 x6}:kz x0 x1 x2 x3 x4 x5 x6=if(decide (x1 < x0))=true then(cS x1 x3 x4 x5 x6 x2).bind fun z1=>gG x0 (he_ hf_ (x1+1)) z1.2.2.2.1 z1.2.2.1 z1.2.1 else some ((x2,()),()):=bz
theorem lB {x0 x1 x2 x3}:cz x0 x1 x2 x3=if(decide (x2 < x1))=true then ix x0 x2 (av.dflt) fun y1=>(xz y1 x3).bind fun z1=>if z1.1.1=true then some ((x2,()),(z1.2.1,())) else cz x0 x1 (he_ hf_ (x2+1)) z1.2.1 else some (((-1),()),(x3,())):=bz
end Go.Proofs.YthbkdfcmjmmpgaaGreatDoor.Abs
namespace Go.Proofs.YthbkdfcmjmmpgaaGreatDoor.Abs
open Go Go.Proofs.YthbkdfcmjmmpgaaGreatDoor
theorem jp {x0 x1 x2 x3 x4 x5 x6}:af x0 x1 x2 x3 x4 x5 x6=if(decide (x3 < (am_ x0:Int)))=true then if(x2 == x1)=true then some ((3,x2,()),((x4,x5,x6,()),())) else ix x0 x3 (aX.dflt) fun y1=>if(y1.1 != 2)=true then(oA y1.2.2.1 x4 x5 x6).bind fun z1=>(oX z1.1.1).bind fun z2=>if z2.1.1=true then if(y1.1 == 1)=true then(lg z1.1.1).bind fun z3=>if(decide ((ay_ z3.1.1:Int) > 200))=true then(ir 4).bind fun z4=>if(decide (y1.1≤2))=true then(aG y1.2.1 z4.1.1 z1.2.1.1 z1.2.1.2.1 z1.2.1.2.2.1).bind fun z5=>if(!z5.1.1)=true then some ((5,(he_ hf_ (x2+1)),()),(z5.2.1,())) else af x0 x1 (he_ hf_ (x2+1)) (he_ hf_ (x3+1)) z5.2.1.1 z5.2.1.2.1 z5.2.1.2.2.1 else af x0 x1 (he_ hf_ (x2+1)) (he_ hf_ (x3+1)) z1.2.1.1 z1.2.1.2.1 z1.2.1.2.2.1 else if(decide (y1.1≤2))=true then(aG y1.2.1 z3.1.1 z1.2.1.1 z1.2.1.2.1 z1.2.1.2.2.1).bind fun z6=>if(!z6.1.1)=true then some ((5,(he_ hf_ (x2+1)),()),(z6.2.1,())) else af x0 x1 (he_ hf_ (x2+1)) (he_ hf_ (x3+1)) z6.2.1.1 z6.2.1.2.1 z6.2.1.2.2.1 else af x0 x1 (he_ hf_ (x2+1)) (he_ hf_ (x3+1)) z1.2.1.1 z1.2.1.2.1 z1.2.1.2.2.1 else if(y1.1 == 3)=true then if(!z2.1.2.1)=true then if(decide (y1.1≤2))=true then(aG y1.2.1 y1.2.2.1 z1.2.1.1 z1.2.1.2.1 z1.2.1.2.2.1).bind fun z7=>if(!z7.1.1)=true then some ((5,(he_ hf_ (x2+1)),()),(z7.2.1,())) else af x0 x1 (he_ hf_ (x2+1)) (he_ hf_ ((he_ hf_ (x3+y1.2.2.2.1))+1)) z7.2.1.1 z7.2.1.2.1 z7.2.1.2.2.1 else af x0 x1 (he_ hf_ (x2+1)) (he_ hf_ ((he_ hf_ (x3+y1.2.2.2.1))+1)) z1.2.1.1 z1.2.1.2.1 z1.2.1.2.2.1 else if(y1.1 == 4)=true then if z2.1.2.1=true then if(decide (y1.1≤2))=true then(aG y1.2.1 y1.2.2.1 z1.2.1.1 z1.2.1.2.1 z1.2.1.2.2.1).bind fun z8=>if(!z8.1.1)=true then some ((5,(he_ hf_ (x2+1)),()),(z8.2.1,())) else af x0 x1 (he_ hf_ (x2+1)) (he_ hf_ ((he_ hf_ (x3 - (he_ hf_ (y1.2.2.2.1+1))))+1)) z8.2.1.1 z8.2.1.2.1 z8.2.1.2.2.1 else af x0 x1 (he_ hf_ (x2+1)) (he_ hf_ ((he_ hf_ (x3 - (he_ hf_ (y1.2.2.2.1+1))))+1)) z1.2.1.1 z1.2.1.2.1 z1.2.1.2.2.1 else if(y1.1 == 5)=true then if z2.1.2.1=true then some ((4,(he_ hf_ (x2+1)),()),(z1.2.1,())) else if(decide (y1.1≤2))=true then(aG y1.2.1 y1.2.2.1 z1.2.1.1 z1.2.1.2.1 z1.2.1.2.2.1).bind fun z9=>if(!z9.1.1)=true then some ((5,(he_ hf_ (x2+1)),()),(z9.2.1,())) else af x0 x1 (he_ hf_ (x2+1)) (he_ hf_ (x3+1)) z9.2.1.1 z9.2.1.2.1 z9.2.1.2.2.1 else af x0 x1 (he_ hf_ (x2+1)) (he_ hf_ (x3+1)) z1.2.1.1 z1.2.1.2.1 z1.2.1.2.2.1 else if(decide (y1.1≤2))=true then(aG y1.2.1 y1.2.2.1 z1.2.1.1 z1.2.1.2.1 z1.2.1.2.2.1).bind fun z10=>if(!z10.1.1)=true then some ((5,(he_ hf_ (x2+1)),()),(z10.2.1,())) else af x0 x1 (he_ hf_ (x2+1)) (he_ hf_ (x3+1)) z10.2.1.1 z10.2.1.2.1 z10.2.1.2.2.1 else af x0 x1 (he_ hf_ (x2+1)) (he_ hf_ (x3+1)) z1.2.1.1 z1.2.1.2.1 z1.2.1.2.2.1 else if(y1.1 == 5)=true then if z2.1.2.1=true then some ((4,(he_ hf_ (x2+1)),()),(z1.2.1,())) else if(decide (y1.1≤2))=true then(aG y1.2.1 y1.2.2.1 z1.2.1.1 z1.2.1.2.1 z1.2.1.2.2.1).bind fun z11=>if(!z11.1.1)=true then some ((5,(he_ hf_ (x2+1)),()),(z11.2.1,())) else af x0 x1 (he_ hf_ (x2+1)) (he_ hf_ (x3+1)) z11.2.1.1 z11.2.1.2.1 z11.2.1.2.2.1 else af x0 x1 (he_ hf_ (x2+1)) (he_ hf_ (x3+1)) z1.2.1.1 z1.2.1.2.1 z1.2.1.2.2.1 else if(decide (y1.1≤2))=true then(aG y1.2.1 y1.2.2.1 z1.2.1.1 z1.2.1.2.1 z1.2.1.2.2.1).bind fun z12=>if(!z12.1.1)=true then some ((5,(he_ hf_ (x2+1)),()),(z12.2.1,())) else af x0 x1 (he_ hf_ (x2+1)) (he_ hf_ (x3+1)) z12.2.1.1 z12.2.1.2.1 z12.2.1.2.2.1 else af x0 x1 (he_ hf_ (x2+1)) (he_ hf_ (x3+1)) z1.2.1.1 z1.2.1.2.1 z1.2.1.2.2.1 else if(y1.1 == 4)=true then if z2.1.2.1=true then if(decide (y1.1≤2))=true then(aG y1.2.1 y1.2.2.1 z1.2.1.1 z1.2.1.2.1 z1.2.1.2.2.1).bind fun z13=>if(!z13.1.1)=true then some ((5,(he_ hf_ (x2+1)),()),(z13.2.1,())) else af x0 x1 (he_ hf_ (x2+1)) (he_ hf_ ((he_ hf_ (x3 - (he_ hf_ (y1.2.2.2.1+1))))+1)) z13.2.1.1 z13.2.1.2.1 z13.2.1.2.2.1 else af x0 x1 (he_ hf_ (x2+1)) (he_ hf_ ((he_ hf_ (x3 - (he_ hf_ (y1.2.2.2.1+1))))+1)) z1.2.1.1 z1.2.1.2.1 z1.2.1.2.2.1 else if(y1.1 == 5)=true then if z2.1.2.1=true then some ((4,(he_ hf_ (x2+1)),()),(z1.2.1,())) else if(decide (y1.1≤2))=true then(aG y1.2.1 y1.2.2.1 z1.2.1.1 z1.2.1.2.1 z1.2.1.2.2.1).bind fun z14=>if(!z14.1.1)=true then some ((5,(he_ hf_ (x2+1)),()),(z14.2.1,())) else af x0 x1 (he_ hf_ (x2+1)) (he_ hf_ (x3+1)) z14.2.1.1 z14.2.1.2.1 z14.2.1.2.2.1 else af x0 x1 (he_ hf_ (x2+1)) (he_ hf_ (x3+1)) z1.2.1.1 z1.2.1.2.1 z1.2.1.2.2.1 else if(decide (y1.1≤2))=true then(aG y1.2.1 y1.2.2.1 z1.2.1.1 z1.2.1.2.1 z1.2.1.2.2.1).bind fun z15=>if(!z15.1.1)=true then some ((5,(he_ hf_ (x2+1)),()),(z15.2.1,())) else af x0 x1 (he_ hf_ (x2+1)) (he_ hf_ (x3+1)) z15.2.1.1 z15.2.1.2.1 z15.2.1.2.2.1 else af x0 x1 (he_ hf_ (x2+1)) (he_ hf_ (x3+1)) z1.2.1.1 z1.2.1.2.1 z1.2.1.2.2.1 else if(y1.1 == 5)=true then if z2.1.2.1=true then some ((4,(he_ hf_ (x2+1)),()),(z1.2.1,())) else if(decide (y1.1≤2))=true then(aG y1.2.1 y1.2.2.1 z1.2.1.1 z1.2.1.2.1 z1.2.1.2.2.1).bind fun z16=>if(!z16.1.1)=true then some ((5,(he_ hf_ (x2+1)),()),(z16.2.1,())) else af x0 x1 (he_ hf_ (x2+1)) (he_ hf_ (x3+1)) z16.2.1.1 z16.2.1.2.1 z16.2.1.2.2.1 else af x0 x1 (he_ hf_ (x2+1)) (he_ hf_ (x3+1)) z1.2.1.1 z1.2.1.2.1 z1.2.1.2.2.1 else if(decide (y1.1≤2))=true then(aG y1.2.1 y1.2.2.1 z1.2.1.1 z1.2.1.2.1 z1.2.1.2.2.1).bind fun z17=>if(!z17.1.1)=true then some ((5,(he_ hf_ (x2+1)),()),(z17.2.1,())) else af x0 x1 (he_ hf_ (x2+1)) (he_ hf_ (x3+1)) z17.2.1.1 z17.2.1.2.1 z17.2.1.2.2.1 else af x0 x1 (he_ hf_ (x2+1)) (he_ hf_ (x3+1)) z1.2.1.1 z1.2.1.2.1 z1.2.1.2.2.1 else if(y1.1 == 1)=true then(lg z1.1.1).bind fun z18=>if(decide ((ay_ z18.1.1:Int) > 200))=true then(ir 4).bind fun z19=>if(decide (y1.1≤2))=true then(aG y1.2.1 z19.1.1 z1.2.1.1 z1.2.1.2.1 z1.2.1.2.2.1).bind fun z20=>if(!z20.1.1)=true then some ((5,(he_ hf_ (x2+1)),()),(z20.2.1,())) else af x0 x1 (he_ hf_ (x2+1)) (he_ hf_ (x3+1)) z20.2.1.1 z20.2.1.2.1 z20.2.1.2.2.1 else af x0 x1 (he_ hf_ (x2+1)) (he_ hf_ (x3+1)) z1.2.1.1 z1.2.1.2.1 z1.2.1.2.2.1 else if(decide (y1.1≤2))=true then(aG y1.2.1 z18.1.1 z1.2.1.1 z1.2.1.2.1 z1.2.1.2.2.1).bind fun z21=>if(!z21.1.1)=true then some ((5,(he_ hf_ (x2+1)),()),(z21.2.1,())) else af x0 x1 (he_ hf_ (x2+1)) (he_ hf_ (x3+1)) z21.2.1.1 z21.2.1.2.1 z21.2.1.2.2.1 else af x0 x1 (he_ hf_ (x2+1)) (he_ hf_ (x3+1)) z1.2.1.1 z1.2.1.2.1 z1.2.1.2.2.1 else if(y1.1 == 3)=true then if(decide (y1.1≤2))=true then(aG y1.2.1 y1.2.2.1 z1.2.1.1 z1.2.1.2.1 z1.2.1.2.2.1).bind fun z22=>if(!z22.1.1)=true then some ((5,(he_ hf_ (x2+1)),()),(z22.2.1,())) else af x0 x1 (he_ hf_ (x2+1)) (he_ hf_ ((he_ hf_ (x3+y1.2.2.2.1))+1)) z22.2.1.1 z22.2.1.2.1 z22.2.1.2.2.1 else af x0 x1 (he_ hf_ (x2+1)) (he_ hf_ ((he_ hf_ (x3+y1.2.2.2.1))+1)) z1.2.1.1 z1.2.1.2.1 z1.2.1.2.2.1 else if(y1.1 == 4)=true then if(y1.1 == 5)=true then if(decide (y1.1≤2))=true then(aG y1.2.1 y1.2.2.1 z1.2.1.1 z1.2.1.2.1 z1.2.1.2.2.1).bind fun z23=>if(!z23.1.1)=true then some ((5,(he_ hf_ (x2+1)),()),(z23.2.1,())) else af x0 x1 (he_ hf_ (x2+1)) (he_ hf_ (x3+1)) z23.2.1.1 z23.2.1.2.1 z23.2.1.2.2.1 else af x0 x1 (he_ hf_ (x2+1)) (he_ hf_ (x3+1)) z1.2.1.1 z1.2.1.2.1 z1.2.1.2.2.1 else if(decide (y1.1≤2))=true then(aG y1.2.1 y1.2.2.1 z1.2.1.1 z1.2.1.2.1 z1.2.1.2.2.1).bind fun z24=>if(!z24.1.1)=true then some ((5,(he_ hf_ (x2+1)),()),(z24.2.1,())) else af x0 x1 (he_ hf_ (x2+1)) (he_ hf_ (x3+1)) z24.2.1.1 z24.2.1.2.1 z24.2.1.2.2.1 else af x0 x1 (he_ hf_ (x2+1)) (he_ hf_ (x3+1)) z1.2.1.1 z1.2.1.2.1 z1.2.1.2.2.1 else if(y1.1 == 5)=true then if(decide (y1.1≤2))=true then(aG y1.2.1 y1.2.2.1 z1.2.1.1 z1.2.1.2.1 z1.2.1.2.2.1).bind fun z25=>if(!z25.1.1)=true then some ((5,(he_ hf_ (x2+1)),()),(z25.2.1,())) else af x0 x1 (he_ hf_ (x2+1)) (he_ hf_ (x3+1)) z25.2.1.1 z25.2.1.2.1 z25.2.1.2.2.1 else af x0 x1 (he_ hf_ (x2+1)) (he_ hf_ (x3+1)) z1.2.1.1 z1.2.1.2.1 z1.2.1.2.2.1 else if(decide (y1.1≤2))=true then(aG y1.2.1 y1.2.2.1 z1.2.1.1 z1.2.1.2.1 z1.2.1.2.2.1).bind fun z26=>if(!z26.1.1)=true then some ((5,(he_ hf_ (x2+1)),()),(z26.2.1,())) else af x0 x1 (he_ hf_ (x2+1)) (he_ hf_ (x3+1)) z26.2.1.1 z26.2.1.2.1 z26.2.1.2.2.1 else af x0 x1 (he_ hf_ (x2+1)) (he_ hf_ (x3+1)) z1.2.1.1 z1.2.1.2.1 z1.2.1.2.2.1 else if(decide (y1.1≤2))=true then(aG y1.2.1 y1.2.2.1 x4 x5 x6).bind fun z27=>if(!z27.1.1)=true then some ((5,(he_ hf_ (x2+1)),()),(z27.2.1,())) else af x0 x1 (he_ hf_ (x2+1)) (he_ hf_ (x3+1)) z27.2.1.1 z27.2.1.2.1 z27.2.1.2.2.1 else af x0 x1 (he_ hf_ (x2+1)) (he_ hf_ (x3+1)) x4 x5 x6 else some ((0,x2,()),((x4,x5,x6,()),())):=bz
theorem zh {x0 x1 x2 x3 x4 x5 x6 x7 x8 x9 x10 x11 x12 x13 x14 x15}:oi x0 x1 x2 x3 x4 x5 x6 x7 x8 x9 x10 x11 x12 x13 x14 x15=if(decide (x2 < (am_ x7:Int)))=true then if x1=true then oi x0 true (he_ hf_ (x2+1)) x3 x4 x5 x6 x7 x8 x9 x10 x11 x12 x13 x14 x15 else ix x7 x2 (ax.dflt) fun y1=>inb x12 x0 (oi x0 (bq ax y1 (aw_ x12 (ap_ x0) (ax.dflt))) (he_ hf_ (x2+1)) x3 x4 x5 x6 x7 x8 x9 x10 x11 x12 x13 x14 x15) else if(!x1)=true then app ([]:(List ak)) x7 32 fun y2=>inb x12 x0 (app y2 ([(aw_ x12 (ap_ x0) (ax.dflt))]:(List ak)) 32 fun y3=>d9 x0 0 x3 x4 x5 x6 x8 x9 x10 x11 x12 y3 x13 x14 x15) else ic x0 0 x3 x4 x5 x6 x7 x8 x9 x10 x11 x12 x13 x14 x15:=bz
theorem zi {x0 x1 x2 x3 x4 x5}:oj x0 x1 x2 x3 x4 x5=if(decide (x3 < (am_ x5:Int)))=true then if x2=true then oj x0 x1 true (he_ hf_ (x3+1)) x4 x5 else ix x0 x1 (av.dflt) fun y1=>inb x5 x3 ((px y1.1 (aw_ x5 (ap_ x3) (ax.dflt))).bind fun z1=>oj x0 x1 z1.1.1 (he_ hf_ (x3+1)) x4 x5) else if x2=true then ix x0 x1 (av.dflt) fun y2=>app x4 ([y2.1]:(List am)) 16 fun y3=>kb x0 (he_ hf_ (x1+1)) y3 x5 else kb x0 (he_ hf_ (x1+1)) x4 x5:=bz
theorem wQ {x0 x1 x2 x3 x4 x5 x6}:mD x0 x1 x2 x3 x4 x5 x6=if(decide (x2 < (am_ x6:Int)))=true then inb x6 x2 ((oc x5 (aw_ x6 (ap_ x2) (au.dflt))).bind fun z1=>if(!z1.1.1)=true then inb x6 x2 (app x5 ([(aw_ x6 (ap_ x2) (au.dflt))]:(List am)) 16 fun y1=>mD x0 x1 (he_ hf_ (x2+1)) x3 x4 y1 x6) else mD x0 x1 (he_ hf_ (x2+1)) x3 x4 x5 x6) else mz x0 (he_ hf_ (x1+1)) x3 x4 x5:=bz
theorem zj {x0 x1 x2 x3 x4 x5 x6 x7}:ke x0 x1 x2 x3 x4 x5 x6 x7=if(decide (x4 < (am_ x2:Int)))=true then ix x2 x4 (aw.dflt) fun y1=>(px y1.1 (x6,x7,())).bind fun z1=>if z1.1.1=true then ix x2 x4 (aw.dflt) fun y2=>app x5 ([y2.2.1]:(List ac)) 32 fun y3=>ke x0 x1 x2 x3 (he_ hf_ (x4+1)) y3 x6 x7 else ke x0 x1 x2 x3 (he_ hf_ (x4+1)) x5 x6 x7 else nk x0 x1 x2 (he_ hf_ (x3+1)) x5:=bz
theorem BD {x0 x1 x2}:jS x0 x1 x2=if(decide ((am_ x2:Int) > 0))=true then iC x0 0 x1 x2 ([]:(List am)) else some ((x1,()),()):=bz
theorem kK {x0 x1 x2 x3 x4 x5 x6 x7 x8 x9 x10 x11 x12 x13}:bd x0 x1 x2 x3 x4 x5 x6 x7 x8 x9 x10 x11 x12 x13=if(x8 == 0)=true then if(decide (x6 < (am_ x0:Int)))=true then if(x7 == x1)=true then some (((x5,x6,x7,3,x9,x10,()),()),()) else ix x0 x6 (aX.dflt) fun y1=>if(y1.1 == 2)=true then(iO (x5,(he_ hf_ (x6+1)),(he_ hf_ (x7+1)),x8,x9,x10,()) y1.2.1 y1.2.2.1).bind fun z1=>bd x0 x1 x2 x3 x4 z1.1.1.1 z1.1.1.2.1 z1.1.1.2.2.1 z1.1.1.2.2.2.1 z1.1.1.2.2.2.2.1 z1.1.1.2.2.2.2.2.1 x11 x12 x13 else(Aq (x5,(he_ hf_ (x6+1)),(he_ hf_ (x7+1)),x8,x9,x10,()) y1.2.2.1).bind fun z2=>(wu z2.1.1 y1.2.2.1).bind fun z3=>(py z3.1.1).bind fun z4=>if z4.1.1=true then if(y1.1 == 1)=true then(et z3.1.1).bind fun z5=>if(decide ((ay_ z5.1.1:Int) > 200))=true then(nc 4).bind fun z6=>(iO z2.1.1 y1.2.1 z6.1.1).bind fun z7=>bd x0 x1 x2 x3 x4 z7.1.1.1 z7.1.1.2.1 z7.1.1.2.2.1 z7.1.1.2.2.2.1 z7.1.1.2.2.2.2.1 z7.1.1.2.2.2.2.2.1 x11 x12 x13 else(iO z2.1.1 y1.2.1 z5.1.1).bind fun z8=>bd x0 x1 x2 x3 x4 z8.1.1.1 z8.1.1.2.1 z8.1.1.2.2.1 z8.1.1.2.2.2.1 z8.1.1.2.2.2.2.1 z8.1.1.2.2.2.2.2.1 x11 x12 x13 else if(y1.1 == 3)=true then if(! (z4.1.2.1.1 == 0))=true then bd x0 x1 x2 x3 x4 z2.1.1.1 (he_ hf_ (z2.1.1.2.1+y1.2.2.2.1)) z2.1.1.2.2.1 z2.1.1.2.2.2.1 z2.1.1.2.2.2.2.1 z2.1.1.2.2.2.2.2.1 x11 x12 x13 else bd x0 x1 x2 x3 x4 z2.1.1.1 z2.1.1.2.1 z2.1.1.2.2.1 z2.1.1.2.2.2.1 z2.1.1.2.2.2.2.1 z2.1.1.2.2.2.2.2.1 x11 x12 x13 else if(y1.1 == 4)=true then if(z4.1.2.1.1 == 0)=true then bd x0 x1 x2 x3 x4 z2.1.1.1 (he_ hf_ ((he_ hf_ (z2.1.1.2.1 - 1)) - y1.2.2.2.1)) z2.1.1.2.2.1 z2.1.1.2.2.2.1 z2.1.1.2.2.2.2.1 z2.1.1.2.2.2.2.2.1 x11 x12 x13 else bd x0 x1 x2 x3 x4 z2.1.1.1 z2.1.1.2.1 z2.1.1.2.2.1 z2.1.1.2.2.2.1 z2.1.1.2.2.2.2.1 z2.1.1.2.2.2.2.2.1 x11 x12 x13 else if(y1.1 == 5)=true then if(z4.1.2.1.1 == 0)=true then bd x0 x1 x2 x3 x4 z2.1.1.1 z2.1.1.2.1 z2.1.1.2.2.1 4 z2.1.1.2.2.2.2.1 z2.1.1.2.2.2.2.2.1 x11 x12 x13 else bd x0 x1 x2 x3 x4 z2.1.1.1 z2.1.1.2.1 z2.1.1.2.2.1 z2.1.1.2.2.2.1 z2.1.1.2.2.2.2.1 z2.1.1.2.2.2.2.2.1 x11 x12 x13 else bd x0 x1 x2 x3 x4 z2.1.1.1 z2.1.1.2.1 z2.1.1.2.2.1 z2.1.1.2.2.2.1 z2.1.1.2.2.2.2.1 z2.1.1.2.2.2.2.2.1 x11 x12 x13 else if(y1.1 == 1)=true then(et z3.1.1).bind fun z9=>if(decide ((ay_ z9.1.1:Int) > 200))=true then(nc 4).bind fun z10=>(iO z2.1.1 y1.2.1 z10.1.1).bind fun z11=>bd x0 x1 x2 x3 x4 z11.1.1.1 z11.1.1.2.1 z11.1.1.2.2.1 z11.1.1.2.2.2.1 z11.1.1.2.2.2.2.1 z11.1.1.2.2.2.2.2.1 x11 x12 x13 else(iO z2.1.1 y1.2.1 z9.1.1).bind fun z12=>bd x0 x1 x2 x3 x4 z12.1.1.1 z12.1.1.2.1 z12.1.1.2.2.1 z12.1.1.2.2.2.1 z12.1.1.2.2.2.2.1 z12.1.1.2.2.2.2.2.1 x11 x12 x13 else if(y1.1 == 3)=true then bd x0 x1 x2 x3 x4 z2.1.1.1 (he_ hf_ (z2.1.1.2.1+y1.2.2.2.1)) z2.1.1.2.2.1 z2.1.1.2.2.2.1 z2.1.1.2.2.2.2.1 z2.1.1.2.2.2.2.2.1 x11 x12 x13 else if(y1.1 == 4)=true then bd x0 x1 x2 x3 x4 z2.1.1.1 z2.1.1.2.1 z2.1.1.2.2.1 z2.1.1.2.2.2.1 z2.1.1.2.2.2.2.1 z2.1.1.2.2.2.2.2.1 x11 x12 x13 else if(y1.1 == 5)=true then bd x0 x1 x2 x3 x4 z2.1.1.1 z2.1.1.2.1 z2.1.1.2.2.1 z2.1.1.2.2.2.1 z2.1.1.2.2.2.2.1 z2.1.1.2.2.2.2.2.1 x11 x12 x13 else bd x0 x1 x2 x3 x4 z2.1.1.1 z2.1.1.2.1 z2.1.1.2.2.1 z2.1.1.2.2.2.1 z2.1.1.2.2.2.2.1 z2.1.1.2.2.2.2.2.1 x11 x12 x13 else some (((x5,x6,x7,x8,x9,x10,()),()),()) else some (((x5,x6,x7,x8,x9,x10,()),()),()):=bz
theorem vA {x0 x1 x2 x3}:oD x0 x1 x2 x3=if(decide (x0 < (am_ x1:Int)))=true then inb x1 x0 ((wx x3 (aw_ x1 (ap_ x0) (au.dflt))).bind fun z1=>inb x1 x0 ((wx x2 (aw_ x1 (ap_ x0) (au.dflt))).bind fun z2=>if(! (ah_ z1.1.1 == ah_ z2.1.1))=true then some ((false,()),()) else oD (he_ hf_ (x0+1)) x1 x2 x3)) else some ((true,()),()):=bz
theorem pC {x0 x1 x2 x3 x4 x5}:gE x0 x1 x2 x3 x4 x5=if(decide (x1 < x0))=true then inb x4 x1 ((eu x5 (aw_ x4 (ap_ x1) (ax.dflt))).bind fun z1=>if(!z1.1.1)=true then app x5 ([(aw_ x4 (ap_ x1) (ax.dflt))]:(List ak)) 32 fun y1=>gE x0 (he_ hf_ (x1+1)) x2 x3 x4 y1 else gE x0 (he_ hf_ (x1+1)) x2 x3 x4 x5) else some ((),((x2,x5,x3,()),())):=bz
theorem kL {x0 x1 x2 x3 x4}:gG x0 x1 x2 x3 x4=if(decide (x1 < x0))=true then(bR x1 x3 x4 x2).bind fun z1=>gG x0 (he_ hf_ (x1+1)) z1.2.2.2.1 z1.2.2.1 z1.2.1 else some ((x2,()),()):=bz
theorem wR {x0 x1 x2 x3 x4 x5 x6 x7 x8 x9 x10 x11 x12 x13 x14}:d9 x0 x1 x2 x3 x4 x5 x6 x7 x8 x9 x10 x11 x12 x13 x14=if(decide (x1 < (am_ x2:Int)))=true then ix x2 x1 (av.dflt) fun y1=>inb x10 x0 ((px y1.1 (aw_ x10 (ap_ x0) (ax.dflt))).bind fun z1=>if(!z1.1.1)=true then d9 x0 (he_ hf_ (x1+1)) x2 x3 x4 x5 x6 x7 x8 x9 x10 x11 x12 x13 x14 else ix x2 x1 (av.dflt) fun y2=>(rp y2.2.1).bind fun z2=>ji x0 x1 0 x2 x3 x4 x5 x6 x7 x8 x9 x10 z2.1.1 x11 x12 x13 x14) else mE (he_ hf_ (x0+1)) x2 x3 x4 x5 x6 x7 x8 x9 x10 x11 x12 x13 x14:=bz
theorem vC {x0 x1 x2 x3 x4 x5 x6 x7 x8 x9 x10 x11 x12 x13 x14}:ic x0 x1 x2 x3 x4 x5 x6 x7 x8 x9 x10 x11 x12 x13 x14=if(decide (x1 < (am_ x2:Int)))=true then ix x2 x1 (av.dflt) fun y1=>inb x11 x0 ((px y1.1 (aw_ x11 (ap_ x0) (ax.dflt))).bind fun z1=>if(!z1.1.1)=true then ic x0 (he_ hf_ (x1+1)) x2 x3 x4 x5 x6 x7 x8 x9 x10 x11 x12 x13 x14 else ix x2 x1 (av.dflt) fun y2=>(rp y2.2.1).bind fun z2=>ie x0 x1 0 x2 x3 x4 x5 x6 x7 x8 x9 x10 x11 z2.1.1 x12 x13 x14) else lP (he_ hf_ (x0+1)) x2 x3 x4 x5 x6 x7 x8 x9 x10 x11 x12 x13 x14:=bz
theorem zk {x0 x1 x2 x3 x4}:iC x0 x1 x2 x3 x4=if(decide (x1 < (am_ x3:Int)))=true then inb x3 x1 ((Hk x0 (aw_ x3 (ap_ x1) (au.dflt))).bind fun z1=>(qm z1.1.1).bind fun z2=>(la z1.1.1).bind fun z3=>if z2.1.2.1=true then(cR 5).bind fun z4=>inb x3 x1 ((wt x0 (aw_ x3 (ap_ x1) (au.dflt))).bind fun z5=>if(!z5.1.1)=true then inb x3 x1 ((oZ x0 (aw_ x3 (ap_ x1) (au.dflt))).bind fun z6=>ss x0 x1 false 0 x2 x3 x4 z2.1.1 z4.1.1.1 z4.1.1.2.1 z4.1.1.2.2.1 z6.1.1) else inb x3 x1 ((lw x2 ((aw_ x3 (ap_ x1) (au.dflt)),z4.1.1,())).bind fun z7=>iC x0 (he_ hf_ (x1+1)) z7.1.1 x3 x4)) else inb x3 x1 ((lw x2 ((aw_ x3 (ap_ x1) (au.dflt)),z3.1.1,())).bind fun z8=>iC x0 (he_ hf_ (x1+1)) z8.1.1 x3 x4)) else jS x0 x2 x4:=bz
theorem wS {x0 x1 x2 x3 x4 x5 x6 x7 x8 x9 x10 x11 x12 x13 x14 x15 x16}:ji x0 x1 x2 x3 x4 x5 x6 x7 x8 x9 x10 x11 x12 x13 x14 x15 x16=if(decide (x2 < (am_ x12:Int)))=true then mF x0 x1 x2 false 0 x3 x4 x5 x6 x7 x8 x9 x10 x11 x12 x13 x14 x15 x16 else d9 x0 (he_ hf_ (x1+1)) x3 x4 x5 x6 x7 x8 x9 x10 x11 x13 x14 x15 x16:=bz
theorem wT {x0 x1 x2 x3 x4 x5 x6 x7 x8 x9 x10 x11 x12 x13}:mE x0 x1 x2 x3 x4 x5 x6 x7 x8 x9 x10 x11 x12 x13=if(decide (x0 < (am_ x9:Int)))=true then mG x0 false 0 x1 x2 x3 x4 x5 x6 x7 x8 x9 x10 x11 x12 x13 else some (((x1,x2,x3,x4,x10,x5,()),()),()):=bz
theorem vD {x0 x1 x2 x3 x4 x5 x6 x7 x8 x9 x10 x11 x12 x13 x14 x15 x16}:ie x0 x1 x2 x3 x4 x5 x6 x7 x8 x9 x10 x11 x12 x13 x14 x15 x16=if(decide (x2 < (am_ x13:Int)))=true then lA x0 x1 x2 false 0 x3 x4 x5 x6 x7 x8 x9 x10 x11 x12 x13 x14 x15 x16 else ic x0 (he_ hf_ (x1+1)) x3 x4 x5 x6 x7 x8 x9 x10 x11 x12 x14 x15 x16:=bz
theorem zl {x0 x1 x2 x3 x4 x5 x6 x7 x8 x9 x10 x11}:ss x0 x1 x2 x3 x4 x5 x6 x7 x8 x9 x10 x11=if(decide (x3 < (am_ x11:Int)))=true then if x2=true then ss x0 x1 true (he_ hf_ (x3+1)) x4 x5 x6 x7 x8 x9 x10 x11 else RC x5 x1 fun y1=>inb x11 x3 ((oc y1 (aw_ x11 (ap_ x3) (au.dflt))).bind fun z1=>if z1.1.1=true then fI x0 x1 true (he_ hf_ (x3+1)) x4 x5 x6 x7 x8 x9 x10 x11 else inb x11 x3 ((oc x6 (aw_ x11 (ap_ x3) (au.dflt))).bind fun z2=>fI x0 x1 z2.1.1 (he_ hf_ (x3+1)) x4 x5 x6 x7 x8 x9 x10 x11)) else if x2=true then inb x5 x1 (app x6 ([(aw_ x5 (ap_ x1) (au.dflt))]:(List am)) 16 fun y2=>iC x0 (he_ hf_ (x1+1)) x4 x5 y2) else(tT x7 x4).bind fun z3=>inb x5 x1 ((lw x4 ((aw_ x5 (ap_ x1) (au.dflt)),z3.1.1,())).bind fun z4=>iC x0 (he_ hf_ (x1+1)) z4.1.1 x5 x6):=bz
theorem wU {x0 x1 x2 x3 x4 x5 x6 x7 x8 x9 x10 x11 x12 x13 x14 x15 x16 x17 x18}:mF x0 x1 x2 x3 x4 x5 x6 x7 x8 x9 x10 x11 x12 x13 x14 x15 x16 x17 x18=if(decide (x4 < (am_ x13:Int)))=true then if x3=true then mF x0 x1 x2 true (he_ hf_ (x4+1)) x5 x6 x7 x8 x9 x10 x11 x12 x13 x14 x15 x16 x17 x18 else inb x13 x4 (inb x14 x2 (mF x0 x1 x2 (bq ax (aw_ x13 (ap_ x4) (ax.dflt)) (aw_ x14 (ap_ x2) (ax.dflt))) (he_ hf_ (x4+1)) x5 x6 x7 x8 x9 x10 x11 x12 x13 x14 x15 x16 x17 x18)) else if(!x3)=true then inb x14 x2 (app x13 ([(aw_ x14 (ap_ x2) (ax.dflt))]:(List ak)) 32 fun y1=>ji x0 x1 (he_ hf_ (x2+1)) x5 x6 x7 x8 x9 x10 x11 x12 y1 x14 x15 x16 x17 x18) else ji x0 x1 (he_ hf_ (x2+1)) x5 x6 x7 x8 x9 x10 x11 x12 x13 x14 x15 x16 x17 x18:=bz
theorem wV {x0 x1 x2 x3 x4 x5 x6 x7 x8 x9 x10 x11 x12 x13 x14 x15}:mG x0 x1 x2 x3 x4 x5 x6 x7 x8 x9 x10 x11 x12 x13 x14 x15=if(decide (x2 < (am_ x12:Int)))=true then if x1=true then mG x0 true (he_ hf_ (x2+1)) x3 x4 x5 x6 x7 x8 x9 x10 x11 x12 x13 x14 x15 else inb x12 x2 (inb x11 x0 (mG x0 (bq ax (aw_ x12 (ap_ x2) (ax.dflt)) (aw_ x11 (ap_ x0) (ax.dflt))) (he_ hf_ (x2+1)) x3 x4 x5 x6 x7 x8 x9 x10 x11 x12 x13 x14 x15)) else if(!x1)=true then app ([]:(List ak)) x12 32 fun y1=>inb x11 x0 (app y1 ([(aw_ x11 (ap_ x0) (ax.dflt))]:(List ak)) 32 fun y2=>d9 x0 0 x3 x4 x5 x6 x7 x8 x9 x10 x11 y2 x13 x14 x15) else d9 x0 0 x3 x4 x5 x6 x7 x8 x9 x10 x11 x12 x13 x14 x15:=bz
theorem vF {x0 x1 x2 x3 x4 x5 x6 x7 x8 x9 x10 x11 x12 x13 x14 x15 x16 x17 x18}:lA x0 x1 x2 x3 x4 x5 x6 x7 x8 x9 x10 x11 x12 x13 x14 x15 x16 x17 x18=if(decide (x4 < (am_ x14:Int)))=true then if x3=true then lA x0 x1 x2 true (he_ hf_ (x4+1)) x5 x6 x7 x8 x9 x10 x11 x12 x13 x14 x15 x16 x17 x18 else inb x14 x4 (inb x15 x2 (lA x0 x1 x2 (bq ax (aw_ x14 (ap_ x4) (ax.dflt)) (aw_ x15 (ap_ x2) (ax.dflt))) (he_ hf_ (x4+1)) x5 x6 x7 x8 x9 x10 x11 x12 x13 x14 x15 x16 x17 x18)) else if(!x3)=true then inb x15 x2 (app x14 ([(aw_ x15 (ap_ x2) (ax.dflt))]:(List ak)) 32 fun y1=>ie x0 x1 (he_ hf_ (x2+1)) x5 x6 x7 x8 x9 x10 x11 x12 x13 y1 x15 x16 x17 x18) else ie x0 x1 (he_ hf_ (x2+1)) x5 x6 x7 x8 x9 x10 x11 x12 x13 x14 x15 x16 x17 x18:=bz
theorem wW {x0 x1 x2 x3 x4 x5 x6 x7 x8 x9 x10 x11}:fI x0 x1 x2 x3 x4 x5 x6 x7 x8 x9 x10 x11=if(decide (x3 < (am_ x11:Int)))=true then if x2=true then fI x0 x1 true (he_ hf_ (x3+1)) x4 x5 x6 x7 x8 x9 x10 x11 else RC x5 x1 fun y1=>inb x11 x3 ((oc y1 (aw_ x11 (ap_ x3) (au.dflt))).bind fun z1=>if z1.1.1=true then fI x0 x1 true (he_ hf_ (x3+1)) x4 x5 x6 x7 x8 x9 x10 x11 else inb x11 x3 ((oc x6 (aw_ x11 (ap_ x3) (au.dflt))).bind fun z2=>fI x0 x1 z2.1.1 (he_ hf_ (x3+1)) x4 x5 x6 x7 x8 x9 x10 x11)) else if x2=true then ix x5 x1 (au.dflt) fun y2=>app x6 ([y2]:(List am)) 16 fun y3=>eO x0 (he_ hf_ (x1+1)) x4 x5 y3 else(tT x7 x4).bind fun z3=>ix x5 x1 (au.dflt) fun y4=>(lw x4 (y4,z3.1.1,())).bind fun z4=>eO x0 (he_ hf_ (x1+1)) z4.1.1 x5 x6:=bz
theorem wX {x0 x1 x2 x3 x4}:eO x0 x1 x2 x3 x4=if(decide (x1 < (am_ x3:Int)))=true then ix x3 x1 (au.dflt) fun y1=>(Hk x0 y1).bind fun z1=>(qm z1.1.1).bind fun z2=>(la z1.1.1).bind fun z3=>if z2.1.2.1=true then(cR 5).bind fun z4=>ix x3 x1 (au.dflt) fun y2=>(wt x0 y2).bind fun z5=>if(!z5.1.1)=true then ix x3 x1 (au.dflt) fun y3=>(oZ x0 y3).bind fun z6=>fI x0 x1 false 0 x2 x3 x4 z2.1.1 z4.1.1.1 z4.1.1.2.1 z4.1.1.2.2.1 z6.1.1 else ix x3 x1 (au.dflt) fun y4=>(lw x2 (y4,z4.1.1,())).bind fun z7=>eO x0 (he_ hf_ (x1+1)) z7.1.1 x3 x4 else ix x3 x1 (au.dflt) fun y5=>(lw x2 (y5,z3.1.1,())).bind fun z8=>eO x0 (he_ hf_ (x1+1)) z8.1.1 x3 x4 else jS x0 x2 x4:=bz
end Go.Proofs.YthbkdfcmjmmpgaaGreatDoor.Abs
set_option linter.unusedSectionVars false
namespace Go.Proofs.YthbkdfcmjmmpgaaGreatDoor.Abs
open Go
abbrev eS:aa_:=⟨#[]⟩
theorem pc (a b:Int):(a == b)=decide (a=b):=rfl
def cu (n lo hi:Int):Bool:=decide (lo≤n∧n≤hi)
theorem gu (n lo hi:Int):dX n lo hi=some ((cu n lo hi,()),()):=by
 rw[TQ]
 unfold cu
 by_cases h:lo≤n <;> simp[h]
theorem kf (n lo hi:Int):iq n lo hi=some ((cu n lo hi,()),()):=by
 rw[Yl]
 unfold cu
 by_cases h:lo≤n <;> simp[h]
theorem bm {n lo hi:Int}:cu n lo hi=true↔lo≤n∧n≤hi:=by simp[cu]
def bM (r:am):Bool:=cu r.1 1 52 && cu r.2.1 1 99
theorem kW (r:am):dA r=some ((bM r,()),()):=by
 rw[V2]
 unfold bM
 simp only[kf,ab_]
 cases cu r.1 1 52 <;> simp
theorem pD (r:am):oa r=some ((bM r,()),()):=by
 rw[V6]
 unfold bM
 simp only[gu,ab_]
 cases cu r.1 1 52 <;> simp
def lC (a:ak):Bool:=bM a.1 && bM a.2.1 && decide (a.1.1≤a.2.1.1) && decide (a.1.2.1≤a.2.1.2.1)
theorem Uj (a:ak):I9 a=some ((lC a,()),()):=by
 rw[TJ]
 unfold lC
 simp only[kW,ab_]
 cases bM a.1 <;> cases bM a.2.1 <;> by_cases h:a.1.1≤a.2.1.1 <;> simp[h]
theorem Uk (a:ak):DX a=some ((lC a,()),()):=by
 rw[TV]
 unfold lC
 simp only[pD,ab_]
 cases bM a.1 <;> cases bM a.2.1 <;> by_cases h:a.1.1≤a.2.1.1 <;> simp[h]
def sV (b:Int):Bool:=decide (32≤b∧b≤126)
def plain (s:aa_):Bool:=(nK s).all sV
theorem BE {s:aa_} (hs:s.size≤9223372036854775807) : ∀(ys pre:List Int),nK s=pre++ys→so s (pre.length:Int)=some ((ys.all sV && decide ((s.size:Int)≤200),()),())
 | [],pre,he=>by
  rw[yU,aE (R6 he)]
  simp
 | y :: ys,pre,he=>by
  rw[yU,aJ (V1 he),CS he,CS he,Ob he hs,BE hs ys _ (aC he)]
  by_cases h1:y < 32
  ·have:sV y=false:=by simp[sV]; omega
   simp[h1,this]
  ·by_cases h2:y > 126
   ·have:sV y=false:=by simp[sV]; omega
    simp[h1,h2,this]
   ·have:sV y=true:=by simp[sV]; omega
    simp[h1,h2,this]
theorem om {s:aa_} (hs:s.size≤9223372036854775807):u7 s=some ((plain s && decide ((s.size:Int)≤200),()),()):=by
 rw[Qz]
 exact BE hs (nK s) [] rfl
theorem C3 {s:aa_} {m:Int} (hs:s.size≤9223372036854775807) : ∀(ys pre:List Int),nK s=pre++ys→tW s m (s.size:Int) (pre.length:Int)=some ((ys.all sV && decide ((s.size:Int)≤m),()),())
 | [],pre,he=>by
  rw[Bx,aE (R6 he)]
  simp
 | y :: ys,pre,he=>by
  rw[Bx,aJ (V1 he),CS he,CS he,Ob he hs,C3 hs ys _ (aC he)]
  by_cases h1:y < 32
  ·have:sV y=false:=by simp[sV]; omega
   simp[h1,this]
  ·by_cases h2:y > 126
   ·have:sV y=false:=by simp[sV]; omega
    simp[h1,h2,this]
   ·have:sV y=true:=by simp[sV]; omega
    simp[h1,h2,this]
theorem t6 {s:aa_} {m:Int} (hs:s.size≤9223372036854775807):yC s m=some ((plain s && decide ((s.size:Int)≤m),()),()):=by
 rw[TR]
 exact C3 hs (nK s) [] rfl
def az (v:ac):Bool :=
 if v.1=2 then decide (v.2.1=0) && (plain v.2.2.1 && decide ((v.2.2.1.size:Int)≤200)) else
 decide (v.2.2.1=eS) && (if v.1=0 then decide (v.2.1=0) else if v.1=1 then cu v.2.1 (-1000000000000000) 1000000000000000 else if v.1=3 then cu v.2.1 0 1 else if v.1=4 then cu v.2.1 1 5 else false)
theorem fA {v:ac} (h:v.2.2.1.size≤9223372036854775807):eE v=some ((az v,()),()):=by
 rw[QB]
 unfold az
 simp only[kf,om h,ab_,bx_,sG]
 by_cases h0:v.1=0
 ·by_cases h1:v.2.1=0 <;> simp[h0,h1]
 by_cases h1:v.1=1
 ·cases cu v.2.1 (-1000000000000000) 1000000000000000 <;> simp[h1]
 by_cases h2:v.1=2
 ·by_cases h1:v.2.1=0 <;> simp[h2,h1]
 by_cases h3:v.1=3
 ·cases cu v.2.1 0 1 <;> simp[h3]
 by_cases h4:v.1=4
 ·cases cu v.2.1 1 5 <;> simp[h4]
 simp[h0,h1,h2,h3,h4]
theorem fB {v:ac} (h:v.2.2.1.size≤9223372036854775807):dE v=some ((az v,()),()):=by
 rw[QJ]
 unfold az
 simp only[gu,t6 h,ab_,bx_,sG]
 by_cases h2:v.1=2
 ·by_cases h1:v.2.1=0 <;> simp[h2,h1]
 by_cases he:v.2.2.1=eS
 ·by_cases h0:v.1=0
  ·by_cases h1:v.2.1=0 <;> simp[h0,h1,he]
  by_cases h1:v.1=1
  ·cases cu v.2.1 (-1000000000000000) 1000000000000000 <;> simp[h1,he]
  by_cases h3:v.1=3
  ·cases cu v.2.1 0 1 <;> simp[h3,he]
  by_cases h4:v.1=4
  ·cases cu v.2.1 1 5 <;> simp[h4,he]
  simp[h0,h1,h2,h3,h4,he]
 ·simp[h2,he]
theorem dV {v:ac} (h:az v=true):v.2.2.1.size≤200:=by
 unfold az at h
 split at h
 ·simp only[ag_,ai_] at h
  omega
 ·simp only[ag_,ai_] at h
  rw[h.1]
  decide
theorem cg {v:ac} (h:az v=true):v.2.2.1.size≤9223372036854775807:=Nat.le_trans (dV h) (by decide)
def vN (n:Int):ac:=(1,n,eS,())
def vE (n:Int):ac:=(4,n,eS,())
def vB (b:Bool):ac:=(3,if b=true then 1 else 0,eS,())
def vT (s:aa_):ac:=(2,0,s,())
def v0:ac:=(0,0,eS,())
theorem dQ (n:Int):cR n=some ((vE n,()),()):=QC
theorem gJ (n:Int):gA n=some ((vE n,()),()):=V7
theorem iv (n:Int):jD n=some ((vN n,()),()):=TS
theorem t7 (b:Bool):jE b=some ((vB b,()),()):=by
 rw[T6]
 cases b <;> rfl
theorem mI (b:Bool):mu b=some ((vB b,()),()):=by
 rw[V8]
 cases b <;> rfl
def bnd (n:Int):ac:=if cu n (-1000000000000000) 1000000000000000=true then vN n else vE 4
theorem kX (n:Int):jc n=some ((bnd n,()),()):=by
 rw[Wg]
 unfold bnd
 simp only[kf,dQ,ab_]
 cases cu n (-1000000000000000) 1000000000000000 <;> rfl
theorem su (n:Int):oW n=some ((bnd n,()),()):=by
 rw[QS]
 unfold bnd
 simp only[gu,gJ,iv,ab_]
 cases cu n (-1000000000000000) 1000000000000000 <;> rfl
def ig (v:ac):ac:=if az v=true then(if v.1=4 then v else vE 2) else vE 2
theorem fd {v:ac} (h:v.2.2.1.size≤9223372036854775807):jP v=some ((ig v,()),()):=by
 rw[Yp]
 unfold ig
 simp only[fB h,gJ,ab_,bx_]
 cases az v
 ·rfl
 ·by_cases h4:v.1=4 <;> simp[h4]
def cW (v:ac):Bool:=az v && (decide (v.1=0) || decide (v.1=1))
theorem eP {v:ac} (h:v.2.2.1.size≤9223372036854775807):gD v=some ((v.2.1,cW v,()),()):=by
 rw[Ou]
 unfold cW
 simp only[fB h,ab_,bx_]
 cases az v
 ·rfl
 ·by_cases h0:v.1=0
  ·simp[h0]
  ·simp[h0,pc]
theorem C4 {v:ac} (h:v.2.2.1.size≤9223372036854775807):CM v=some ((if cW v=true then v.2.1 else 0,if cW v=true then v0 else ig v,()),()):=by
 rw[Wf]
 unfold cW ig
 simp only[fA h,dQ,ab_,bx_]
 cases az v
 ·rfl
 ·by_cases h0:v.1=0
  ·simp[h0,v0]
  ·by_cases h1:v.1=1
   ·simp[h1,v0]
   ·by_cases h4:v.1=4 <;> simp[h0,h1,h4]
theorem cT (v:ac):(ig v).1=4:=by
 unfold ig
 split
 ·split
  ·assumption
  ·rfl
 ·rfl
theorem cF {v:ac} (h:cW v=true) : -1000000000000000≤v.2.1∧v.2.1≤1000000000000000:=by
 unfold cW az at h
 by_cases h2:v.1=2
 ·simp[h2] at h
 ·rw[if_neg h2] at h
  simp only[ag_,Bool.or_eq_true,ai_] at h
  obtain⟨⟨_,h⟩,h0 | h1⟩:=h
  ·rw[if_pos h0] at h
   simp only[ai_] at h
   omega
  ·rw[if_neg (by omega),if_pos h1] at h
   exact bm.1 h
def qY (f:Int→Int→ac) (a b:ac):ac:=if cW a=true then(if cW b=true then f a.2.1 b.2.1 else ig b) else ig a
def kg:=qY fun x y=>bnd (x+y)
def AI:=qY fun x y=>bnd (x - y)
def Jy:=qY fun x y=>if y=0 then vE 1 else bnd (dw_ x y)
def FZ (a:ac):ac:=AI v0 a
theorem wY {a b:ac} (ha:a.2.2.1.size≤9223372036854775807) (hb:b.2.2.1.size≤9223372036854775807):yF a b=some ((if cW a=true then(if cW b=true then(a.2.1,b.2.1,v0,()) else(a.2.1,0,ig b,())) else(0,0,ig a,())),()):=by
 rw[Wh]
 simp only[C4 ha,C4 hb,ab_,bne_iff_ne,ne_eq]
 cases ia:cW a
 ·have:=cT a
  simp[this]
 ·cases ib:cW b <;> simp[v0]
theorem AJ {x y:Int} (hx : -1000000000000000≤x∧x≤1000000000000000) (hy:y≠0) : -1000000000000000≤dw_ x y∧dw_ x y≤1000000000000000:=by
 have h1:(dw_ x y).natAbs≤x.natAbs:=by
  rw[Int.natAbs_tdiv]
  exact Nat.div_le_self _ _
 omega
section
variable {a b:ac} (ha:a.2.2.1.size≤9223372036854775807) (hb:b.2.2.1.size≤9223372036854775807)
include ha hb
theorem Jz:FP a b=some ((kg a b,()),()):=by
 rw[aam]
 unfold kg qY
 simp only[wY ha hb,kX,ab_,bne_iff_ne,ne_eq]
 cases ia:cW a
 ·have:=cT a
  simp[this]
 ·cases ib:cW b
  ·have:=cT b
   simp[this]
  ·have h1:=cF ia
   have h2:=cF ib
   simp[v0,wr (n:=a.2.1+b.2.1) (by omega) (by omega)]
theorem YA:Tm a b=some ((AI a b,()),()):=by
 rw[Yw]
 unfold AI qY
 simp only[wY ha hb,kX,ab_,bne_iff_ne,ne_eq]
 cases ia:cW a
 ·have:=cT a
  simp[this]
 ·cases ib:cW b
  ·have:=cT b
   simp[this]
  ·have h1:=cF ia
   have h2:=cF ib
   simp[v0,wr (n:=a.2.1 - b.2.1) (by omega) (by omega)]
theorem JA:NQ a b=some ((kg a b,()),()):=by
 rw[aal,BS]
 unfold kg qY
 simp only[eP ha,eP hb,fd ha,fd hb,Wm,su,ab_]
 cases ia:cW a
 ·simp
 ·cases ib:cW b
  ·simp
  ·have h1:=cF ia
   have h2:=cF ib
   simp[wr (n:=a.2.1+b.2.1) (by omega) (by omega)]
theorem F0:MH a b=some ((AI a b,()),()):=by
 rw[Yq,AE]
 unfold AI qY
 simp only[eP ha,eP hb,fd ha,fd hb,TY,su,ab_]
 cases ia:cW a
 ·simp
 ·cases ib:cW b
  ·simp
  ·have h1:=cF ia
   have h2:=cF ib
   simp[wr (n:=a.2.1 - b.2.1) (by omega) (by omega)]
theorem YB:Tn a b=some ((Jy a b,()),()):=by
 rw[Yx]
 unfold Jy qY
 simp only[wY ha hb,kX,dQ,ab_,bne_iff_ne,ne_eq,bx_]
 cases ia:cW a
 ·have:=cT a
  simp[this]
 ·cases ib:cW b
  ·have:=cT b
   simp[this]
  ·have h1:=cF ia
   by_cases h0:b.2.1=0
   ·simp[v0,h0]
   ·have h2:=AJ h1 h0
    simp[v0,h0,Hs,wr (n:=dw_ a.2.1 b.2.1) (by omega) (by omega)]
theorem OG:Tk a b=some ((Jy a b,()),()):=by
 rw[Yr,AF]
 unfold Jy qY
 simp only[eP ha,eP hb,fd ha,fd hb,Ui,su,gJ,ab_,bx_]
 cases ia:cW a
 ·simp
 ·cases ib:cW b
  ·simp
  ·have h1:=cF ia
   by_cases h0:b.2.1=0
   ·simp[h0]
   ·have h2:=AJ h1 h0
    simp[h0,Hs,wr (n:=dw_ a.2.1 b.2.1) (by omega) (by omega)]
end
end Go.Proofs.YthbkdfcmjmmpgaaGreatDoor.Abs
