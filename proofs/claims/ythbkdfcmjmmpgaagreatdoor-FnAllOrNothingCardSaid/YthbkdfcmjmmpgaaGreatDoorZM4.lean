/- What the functions say: equations. Printed by out.py. -/
import Derived.Test.YthbkdfcmjmmpgaaGreatDoorZQAD
import Derived.Test.YthbkdfcmjmmpgaaGreatDoorZM2
import Derived.Test.YthbkdfcmjmmpgaaGreatDoorZM3
set_option linter.unusedVariables false
set_option linter.unusedSimpArgs false
set_option maxRecDepth 100000
open Bool renaming and_eq_true→ah_
open ByteArray renaming size→ay_,toList→ag_
open Go.IntKind renaming i64→hb_,wrap→ha_
open Int renaming tdiv→dn_,toNat→ap_
open List renaming getD→au_,length→al_,replicate→bl_,set→ep_
open Option renaming bind_some→ab_
open _root_ renaming ByteArray→aa_,beq_iff_eq→bt_,decide_eq_true_eq→ai_
namespace Go.Proofs.YthbkdfcmjmmpgaaGreatDoor.Abs
open Go Go.Proofs.YthbkdfcmjmmpgaaGreatDoor
theorem sD {x0 x1 x2 x3 x4}:dD x0 x1 x2 x3 x4=if(decide (x1≤5))=true then(ii x1).bind fun z1=>(cx x2 z1.1.1).bind fun z2=>if z2.1.2.1=true then(gu x1).bind fun z3=>(cc z3.1.1 z2.1.1 x3 x4).bind fun z4=>some ((z4.1.1,()),(z4.2.1,())) else dD x0 (ha_ hb_ (x1+1)) x2 x3 x4 else(kf x2 x3 x4).bind fun z5=>(eN z5.1.1).bind fun z6=>if z6.1.2.1=true then if(z6.1.1.1 == 1)=true then(cc z6.1.1 z5.2.1.1 z5.2.1.2.2.1 z5.2.1.2.1).bind fun z7=>some ((z7.1.1,()),(z7.2.1,())) else if(z6.1.1.1 == 3)=true then(cc z6.1.1 z5.2.1.1 z5.2.1.2.2.1 z5.2.1.2.1).bind fun z8=>some ((z8.1.1,()),(z8.2.1,())) else(ij z5.1.1).bind fun z9=>if z9.1.2.1=true then(bq (2,0,(0,0,⟨#[]⟩,()),z9.1.1,((0,0,()),false,false,()),([]:(List Int)),()) z5.2.1.1 z5.2.1.2.2.1 z5.2.1.2.1).bind fun z10=>some ((z10.1.1,()),(z10.2.1,())) else dS x0 z5.1.1 1 z5.2.1.1 z5.2.1.2.2.1 z5.2.1.2.1 else(ij z5.1.1).bind fun z11=>if z11.1.2.1=true then(bq (2,0,(0,0,⟨#[]⟩,()),z11.1.1,((0,0,()),false,false,()),([]:(List Int)),()) z5.2.1.1 z5.2.1.2.2.1 z5.2.1.2.1).bind fun z12=>some ((z12.1.1,()),(z12.2.1,())) else dS x0 z5.1.1 1 z5.2.1.1 z5.2.1.2.2.1 z5.2.1.2.1:=bn
theorem qJ {x0 x1 x2 x3 x4 x5}:dS x0 x1 x2 x3 x4 x5=if(decide (x2≤10))=true then(Dw x2).bind fun z1=>if(ag_ x1 == ag_ z1.1.1)=true then(iO x2 x0 x3 x4 x5).bind fun z2=>some ((z2.1.1,()),(z2.2.1,())) else dS x0 x1 (ha_ hb_ (x2+1)) x3 x4 x5 else some (((-1),()),((x3,x5,true,()),())):=bn
theorem En {x0 x1 x2 x3 x4}:rh x0 x1 x2 x3 x4=if(decide (x4≥0))=true then ix x0 x1 (au.dflt) fun y1=>ix y1.2.2.2.2.2.1 x4 0 fun y2=>if(y2 != (ha_ hb_ (x3 - 1)))=true then some (((-1),()),()) else if(decide (y2 < 0))=true then some (((-1),()),()) else ix x0 y2 (au.dflt) fun y3=>if(y3.1 == 3)=true then ix x0 x1 (au.dflt) fun y4=>if(y4.1 != 6)=true then some (((-1),()),()) else(zS x0 y2 (ha_ hb_ (x2+1))).bind fun z1=>if(decide (z1.1.1 < 0))=true then some (((-1),()),()) else rh x0 x1 x2 z1.1.1 (ha_ hb_ (x4 - 1)) else(zS x0 y2 (ha_ hb_ (x2+1))).bind fun z2=>if(decide (z2.1.1 < 0))=true then some (((-1),()),()) else rh x0 x1 x2 z2.1.1 (ha_ hb_ (x4 - 1)) else some ((x3,()),()):=bn
theorem qK {x0 x1 x2 x3 x4 x5 x6 x7 x8 x9 x10}:kT x0 x1 x2 x3 x4 x5 x6 x7 x8 x9 x10=if(decide (x3 < x2))=true then ix x1 x3 0 fun y1=>(gw x0 y1 1).bind fun z1=>app x10 ([z1.1.1]:(List aa_)) 16 fun y2=>kT x0 x1 x2 (ha_ hb_ (x3+1)) x4 x5 x6 x7 x8 x9 y2 else(Dw x5).bind fun z2=>cats z2.1.1 ⟨#[40]⟩ fun y3=>(strings_Join x10 ⟨#[44]⟩).bind fun z3=>cats y3 z3.1.1 fun y4=>cats y4 ⟨#[41]⟩ fun y5=>some ((y5,()),()):=bn
theorem yH {x0 x1 x2 x3}:nU x0 x1 x2 x3=if(decide (x3 < x2))=true then ix x1 x3 (av.dflt) fun y1=>(qa y1.1).bind fun z1=>if(!z1.1.1)=true then some ((false,()),()) else if(decide (x3 > 0))=true then ix x0 (ha_ hb_ (x3 - 1)) (av.dflt) fun y2=>(uQ y2.1 y1.1).bind fun z2=>if(decide (z2.1.1≥0))=true then some ((false,()),()) else(pl y1.2.1).bind fun z3=>if(!z3.1.1)=true then some ((false,()),()) else nU x0 x1 x2 (ha_ hb_ (x3+1)) else(pl y1.2.1).bind fun z4=>if(!z4.1.1)=true then some ((false,()),()) else nU x0 x1 x2 (ha_ hb_ (x3+1)) else some (((decide ((al_ x0:Int)≤120)),()),()):=bn
theorem yI {x0 x1 x2 x3}:rZ x0 x1 x2 x3=if(decide (x3 < x2))=true then ix x1 x3 (aW.dflt) fun y1=>(uT y1 x3 (ha_ hb_ ((ha_ hb_ ((al_ x0:Int) - 1)) - x3))).bind fun z1=>if(!z1.1.1)=true then some ((false,()),()) else rZ x0 x1 x2 (ha_ hb_ (x3+1)) else some (((decide ((al_ x0:Int)≤30)),()),()):=bn
theorem yJ {x0 x1 x2 x3}:lB x0 x1 x2 x3=if(decide (x2 < x1))=true then ix x0 x2 (au.dflt) fun y1=>if(y1.1 == 2)=true then(jO y1).bind fun z1=>app x3 ([z1.1.1]:(List am)) 32 fun y2=>lB x0 x1 (ha_ hb_ (x2+1)) y2 else if(y1.1 == 3)=true then(jO y1).bind fun z2=>app x3 ([z2.1.1]:(List am)) 32 fun y3=>lB x0 x1 (ha_ hb_ (x2+1)) y3 else lB x0 x1 (ha_ hb_ (x2+1)) x3 else some ((x3,()),()):=bn
theorem vL {x0 x1 x2 x3 x4}:ft x0 x1 x2 x3 x4=if(decide (x2 < x1))=true then ix x0 x2 (ay.dflt) fun y1=>if(bk ay (x3,x4,()) y1)=true then some ((x2,()),()) else ft x0 x1 (ha_ hb_ (x2+1)) x3 x4 else some (((-1),()),()):=bn
theorem pv {x0 x1 x2 x3}:jB x0 x1 x2 x3=if(decide (x2 < x1))=true then ix x0 x2 (ay.dflt) fun y1=>(dZ x3 y1).bind fun z1=>if(!z1.1.1)=true then app x3 ([y1]:(List am)) 32 fun y2=>fV x0 x1 (ha_ hb_ (x2+1)) y2 else jB x0 x1 (ha_ hb_ (x2+1)) x3 else some ((),(x3,())):=bn
theorem qL {x0 x1 x2 x3 x4}:iU x0 x1 x2 x3 x4=if(decide (x0 < (al_ x4:Int)))=true then iX x0 (al_ x1:Int) 0 x1 x2 x3 x4 else hZ (al_ x4:Int) 0 x1 x2 x3 x4:=bn
theorem nc {x0 x1 x2 x3 x4}:eT x0 x1 x2 x3 x4=if(decide (x2 < x1))=true then ix x0 x2 (ay.dflt) fun y1=>(Ra y1 x3 x4).bind fun z1=>if z1.1.1=true then some ((x2,()),(z1.2.1,())) else ce x0 x1 (ha_ hb_ (x2+1)) z1.2.1 else some (((-1),()),((x3,x4,()),())):=bn
theorem wt {x0 x1 x2 x3 x4 x5 x6 x7 x8 x9}:mj x0 x1 x2 x3 x4 x5 x6 x7 x8 x9=if(decide (x3 < x2))=true then ix x1 x3 (av.dflt) fun y1=>(tC y1.2.1).bind fun z1=>(uU z1.1.1).bind fun z2=>mo x0 x1 x2 x3 x0 (al_ x0:Int) 0 x4 z1.1.1 z2.1.1 ([]:(List Int)) x5 x6 x7 x8 x9 else some (((x4,x8,x9,()),()),()):=bn
theorem qM {x0 x1 x2 x3 x4 x5 x6}:f0 x0 x1 x2 x3 x4 x5 x6=if(decide (x1 < (al_ x6:Int)))=true then inb x6 x1 (if((au_ x6 (ap_ x1) 0) == x0)=true then some ((true,()),()) else inb x5 (au_ x6 (ap_ x1) 0) (if(! (au_ x5 (ap_ (au_ x6 (ap_ x1) 0)) false))=true then inb x5 (au_ x6 (ap_ x1) 0) (ix x4 (au_ x6 (ap_ x1) 0) ([]:(List Int)) fun y1=>app x6 y1 8 fun y2=>f0 x0 (ha_ hb_ (x1+1)) x2 x3 x4 (ep_ x5 (ap_ (au_ x6 (ap_ x1) 0)) true) y2) else f0 x0 (ha_ hb_ (x1+1)) x2 x3 x4 x5 x6)) else some ((false,()),()):=bn
theorem lM {x0 x1 x2 x3 x4 x5 x6 x7 x8}:d9 x0 x1 x2 x3 x4 x5 x6 x7 x8=if(decide (x3 < x2))=true then ix x1 x3 0 fun y1=>(cG y1 x4 x5 x6 x7 x8).bind fun z1=>bX x0 x1 x2 (ha_ hb_ (x3+1)) z1.2.2.1 z1.2.1 z1.2.2.2.1 else ix x5 x0 ([]:(List ab)) fun y2=>(tD y2 x8).bind fun z2=>inb x8 x0 (sV (aw.dflt) x8 x0 (fun e=>(e.1,z2.1.1,())) fun w3=>some ((),(x7,(x4,x5,x6,()),w3,()))):=bn
theorem fF {x0 x1 x2 x3 x4 x5 x6}:cn x0 x1 x2 x3 x4 x5 x6=if(decide (x3 < x2))=true then ix x1 x3 0 fun y1=>(bK y1 x4 x5 x6).bind fun z1=>bX x0 x1 x2 (ha_ hb_ (x3+1)) z1.2.2.1 z1.2.1 z1.2.2.2.1 else ix x4.2.1 x0 ([]:(List ab)) fun y2=>(tD y2 x6).bind fun z2=>inb x6 x0 (sV (aw.dflt) x6 x0 (fun e=>(e.1,z2.1.1,())) fun w3=>some ((),(x5,x4,w3,()))):=bn
theorem A8 {x0 x1 x2 x3 x4 x5 x6 x7}:tI x0 x1 x2 x3 x4 x5 x6 x7=if(decide (x2 < x1))=true then ix x0 x2 (aw.dflt) fun y1=>if(bk ak y1.1 (x3,x4,()))=true then some ((y1.2.1,()),()) else tI x0 x1 (ha_ hb_ (x2+1)) x3 x4 x5 x6 x7 else some (((0,0,⟨#[]⟩,()),()),()):=bn
theorem wu {x0 x1 x2 x3 x4 x5}:kk x0 x1 x2 x3 x4 x5=if(decide (x4 < x3))=true then ix x2 x4 0 fun y1=>ix x0 y1 (au.dflt) fun y2=>if(y2.1 != 3)=true then(gh x0 y1 x1).bind fun z1=>app x5 ([z1.1.1]:(List ac)) 32 fun y3=>kk x0 x1 x2 x3 (ha_ hb_ (x4+1)) y3 else iY x0 x1 y1 x2 x3 x4 x1 (al_ x1:Int) 0 x5 else some ((x5,()),()):=bn
theorem wv {x0 x1 x2 x3 x4 x5 x6 x7 x8}:iV x0 x1 x2 x3 x4 x5 x6 x7 x8=if(decide (x5 < x4))=true then ix x3 x5 (aq.dflt) fun y1=>(oL y1).bind fun z1=>if(!z1.1.2.1)=true then(jA y1).bind fun z2=>some ((z2.1.1,()),()) else if x1=true then if x2=true then iV x0 z1.1.1 true x3 x4 (ha_ hb_ (x5+1)) x6 x7 x8 else iV x0 z1.1.1 z1.1.1 x3 x4 (ha_ hb_ (x5+1)) x6 x7 x8 else if x2=true then iV x0 false true x3 x4 (ha_ hb_ (x5+1)) x6 x7 x8 else iV x0 false z1.1.1 x3 x4 (ha_ hb_ (x5+1)) x6 x7 x8 else if(x0 == 6)=true then(mg x1).bind fun z3=>some ((z3.1.1,()),()) else(mg x2).bind fun z4=>some ((z4.1.1,()),()):=bn
theorem VC {x0 x1}:U9 x0 x1=(oK (ha_ hb_ (x0+x1))).bind fun z1=>some ((z1.1.1,()),()):=aC
theorem A9 {x0 x1 x2 x3 x4 x5 x6 x7 x8}:qh x0 x1 x2 x3 x4 x5 x6 x7 x8=if(decide (x2 < x1))=true then ix x0 x2 (aq.dflt) fun y1=>if(y1.1 == 4)=true then some ((y1,()),()) else if(y1.1 == 1)=true then(M1 (x6,x7,x8,()) y1).bind fun z1=>if(z1.1.1.1 == 4)=true then some ((z1.1.1,()),()) else qh x0 x1 (ha_ hb_ (x2+1)) x3 x4 x5 z1.1.1.1 z1.1.1.2.1 z1.1.1.2.2.1 else if(x6 == 4)=true then some (((x6,x7,x8,()),()),()) else qh x0 x1 (ha_ hb_ (x2+1)) x3 x4 x5 x6 x7 x8 else some (((x6,x7,x8,()),()),()):=bn
theorem ww {x0 x1 x2 x3 x4 x5 x6 x7 x8 x9}:fu x0 x1 x2 x3 x4 x5 x6 x7 x8 x9=if(decide (x6 < x5))=true then ix x4 x6 (aq.dflt) fun y1=>if(y1.1 == 4)=true then if(x0 != 4)=true then some ((y1,()),()) else if(y1.1 != 1)=true then fu x0 x1 x2 x3 x4 x5 (ha_ hb_ (x6+1)) x7 x8 x9 else if(x3 == 0)=true then fu x0 (if y1.2.1 < y1.2.1 then y1.2.1 else y1.2.1) (if y1.2.1 < y1.2.1 then y1.2.1 else y1.2.1) (ha_ hb_ (x3+1)) x4 x5 (ha_ hb_ (x6+1)) x7 x8 x9 else fu x0 (if y1.2.1 < x1 then y1.2.1 else x1) (if x2 < y1.2.1 then y1.2.1 else x2) (ha_ hb_ (x3+1)) x4 x5 (ha_ hb_ (x6+1)) x7 x8 x9 else if(y1.1 != 1)=true then fu x0 x1 x2 x3 x4 x5 (ha_ hb_ (x6+1)) x7 x8 x9 else if(x3 == 0)=true then fu x0 (if y1.2.1 < y1.2.1 then y1.2.1 else y1.2.1) (if y1.2.1 < y1.2.1 then y1.2.1 else y1.2.1) (ha_ hb_ (x3+1)) x4 x5 (ha_ hb_ (x6+1)) x7 x8 x9 else fu x0 (if y1.2.1 < x1 then y1.2.1 else x1) (if x2 < y1.2.1 then y1.2.1 else x2) (ha_ hb_ (x3+1)) x4 x5 (ha_ hb_ (x6+1)) x7 x8 x9 else if(x0 == 2)=true then(jo x1).bind fun z1=>some ((z1.1.1,()),()) else if(x0 == 3)=true then(jo x2).bind fun z2=>some ((z2.1.1,()),()) else(jo x3).bind fun z3=>some ((z3.1.1,()),()):=bn
theorem Ql {x0 x1}:Nd x0 x1=if(x1 != 0)=true then nz (if x1 < (ha_ hb_ (0 - x1)) then IntKind.i64.wrap (0 - x1) else x1) (if(decide ((if x0 < (ha_ hb_ (0 - x0)) then IntKind.i64.wrap (0 - x0) else x0) > (ha_ hb_ (dn_ 1000000000000000 (if x1 < (ha_ hb_ (0 - x1)) then IntKind.i64.wrap (0 - x1) else x1)))))=true then(gu 4).bind fun z1=>some ((z1.1.1,()),()) else(oK (ha_ hb_ (x0*x1))).bind fun z2=>some ((z2.1.1,()),())) else(oK (ha_ hb_ (x0*x1))).bind fun z3=>some ((z3.1.1,()),()):=aC
theorem Tx {x0 x1}:Rg x0 x1=if(x1 == 0)=true then(gu 1).bind fun z1=>some ((z1.1.1,()),()) else nz x1 ((oK (ha_ hb_ (dn_ x0 x1))).bind fun z2=>some ((z2.1.1,()),())):=aC
theorem qN {x0 x1 x2 x3 x4 x5 x6 x7 x8}:iW x0 x1 x2 x3 x4 x5 x6 x7 x8=if(decide (x3 < x2))=true then ix x1 x3 (av.dflt) fun y1=>ix x0 x3 (aq.dflt) fun y2=>inb x8 x3 (iW x0 x1 x2 (ha_ hb_ (x3+1)) x4 x5 x6 x7 (ep_ x8 (ap_ x3) (y1.1,y2,()))) else j6 (al_ x8:Int) 0 x8 x4 x5 x6 x7:=bn
theorem lN {x0 x1 x2 x3 x4}:gN x0 x1 x2 x3 x4=if(decide (x2 < x1))=true then ix x0 x2 (av.dflt) fun y1=>(GI y1 x3 x4).bind fun z1=>if z1.1.1=true then some ((x2,()),(z1.2.1,())) else co x0 x1 (ha_ hb_ (x2+1)) z1.2.1 else some (((-1),()),((x3,x4,()),())):=bn
theorem kv {x0 x1 x2 x3}:cg x0 x1 x2 x3=if(decide (x1 < (al_ x2:Int)))=true then inb x2 x1 ((xh (au_ x2 (ap_ x1) (av.dflt)) x3).bind fun z1=>if(!z1.1.1)=true then inb x2 x0 (cg (ha_ hb_ (x0+1)) (ha_ hb_ (x1+1)) (ep_ x2 (ap_ x0) (au_ x2 (ap_ x1) (av.dflt))) z1.2.1) else cg x0 (ha_ hb_ (x1+1)) x2 z1.2.1) else if(0:Int)≤x0 then if x0 < (al_ x2:Int) then MG (List.take (ap_ x0) x2++bl_ (al_ x2 - ap_ x0) (av.dflt)) x0 fun y1=>some ((y1,()),(x3,())) else none else none:=bn
theorem xp {x0 x1 x2 x3 x4}:fR x0 x1 x2 x3 x4=if(decide (x2 < x1))=true then ix x0 x2 (ak.dflt) fun y1=>if(bk ak (x3,x4,()) y1)=true then some ((x2,()),()) else fR x0 x1 (ha_ hb_ (x2+1)) x3 x4 else some (((-1),()),()):=bn
theorem CB {x0 x1 x2 x3 x4 x5 x6}:lU x0 x1 x2 x3 x4 x5 x6=if(decide (x3 < (al_ x0:Int)))=true then if(x2 == x1)=true then some ((3,x2,()),((x4,x5,x6,()),())) else ix x0 x3 (aW.dflt) fun y1=>if(y1.1 != 2)=true then(oi y1.2.2.1 x4 x5 x6).bind fun z1=>(oL z1.1.1).bind fun z2=>if z2.1.1=true then if(y1.1 == 1)=true then(kR z1.1.1).bind fun z3=>if(decide ((ay_ z3.1.1:Int) > 200))=true then(ii 4).bind fun z4=>if(decide (y1.1≤2))=true then(aG y1.2.1 z4.1.1 z1.2.1.1 z1.2.1.2.1 z1.2.1.2.2.1).bind fun z5=>if(!z5.1.1)=true then some ((5,(ha_ hb_ (x2+1)),()),(z5.2.1,())) else ag x0 x1 (ha_ hb_ (x2+1)) (ha_ hb_ (x3+1)) z5.2.1.1 z5.2.1.2.1 z5.2.1.2.2.1 else ag x0 x1 (ha_ hb_ (x2+1)) (ha_ hb_ (x3+1)) z1.2.1.1 z1.2.1.2.1 z1.2.1.2.2.1 else if(decide (y1.1≤2))=true then(aG y1.2.1 z3.1.1 z1.2.1.1 z1.2.1.2.1 z1.2.1.2.2.1).bind fun z6=>if(!z6.1.1)=true then some ((5,(ha_ hb_ (x2+1)),()),(z6.2.1,())) else ag x0 x1 (ha_ hb_ (x2+1)) (ha_ hb_ (x3+1)) z6.2.1.1 z6.2.1.2.1 z6.2.1.2.2.1 else ag x0 x1 (ha_ hb_ (x2+1)) (ha_ hb_ (x3+1)) z1.2.1.1 z1.2.1.2.1 z1.2.1.2.2.1 else if(y1.1 == 3)=true then if(!z2.1.2.1)=true then if(decide (y1.1≤2))=true then(aG y1.2.1 y1.2.2.1 z1.2.1.1 z1.2.1.2.1 z1.2.1.2.2.1).bind fun z7=>if(!z7.1.1)=true then some ((5,(ha_ hb_ (x2+1)),()),(z7.2.1,())) else ag x0 x1 (ha_ hb_ (x2+1)) (ha_ hb_ ((ha_ hb_ (x3+y1.2.2.2.1))+1)) z7.2.1.1 z7.2.1.2.1 z7.2.1.2.2.1 else ag x0 x1 (ha_ hb_ (x2+1)) (ha_ hb_ ((ha_ hb_ (x3+y1.2.2.2.1))+1)) z1.2.1.1 z1.2.1.2.1 z1.2.1.2.2.1 else if(y1.1 == 4)=true then if z2.1.2.1=true then if(decide (y1.1≤2))=true then(aG y1.2.1 y1.2.2.1 z1.2.1.1 z1.2.1.2.1 z1.2.1.2.2.1).bind fun z8=>if(!z8.1.1)=true then some ((5,(ha_ hb_ (x2+1)),()),(z8.2.1,())) else ag x0 x1 (ha_ hb_ (x2+1)) (ha_ hb_ ((ha_ hb_ (x3 - (ha_ hb_ (y1.2.2.2.1+1))))+1)) z8.2.1.1 z8.2.1.2.1 z8.2.1.2.2.1 else ag x0 x1 (ha_ hb_ (x2+1)) (ha_ hb_ ((ha_ hb_ (x3 - (ha_ hb_ (y1.2.2.2.1+1))))+1)) z1.2.1.1 z1.2.1.2.1 z1.2.1.2.2.1 else if(y1.1 == 5)=true then if z2.1.2.1=true then some ((4,(ha_ hb_ (x2+1)),()),(z1.2.1,())) else if(decide (y1.1≤2))=true then(aG y1.2.1 y1.2.2.1 z1.2.1.1 z1.2.1.2.1 z1.2.1.2.2.1).bind fun z9=>if(!z9.1.1)=true then some ((5,(ha_ hb_ (x2+1)),()),(z9.2.1,())) else ag x0 x1 (ha_ hb_ (x2+1)) (ha_ hb_ (x3+1)) z9.2.1.1 z9.2.1.2.1 z9.2.1.2.2.1 else ag x0 x1 (ha_ hb_ (x2+1)) (ha_ hb_ (x3+1)) z1.2.1.1 z1.2.1.2.1 z1.2.1.2.2.1 else if(decide (y1.1≤2))=true then(aG y1.2.1 y1.2.2.1 z1.2.1.1 z1.2.1.2.1 z1.2.1.2.2.1).bind fun z10=>if(!z10.1.1)=true then some ((5,(ha_ hb_ (x2+1)),()),(z10.2.1,())) else ag x0 x1 (ha_ hb_ (x2+1)) (ha_ hb_ (x3+1)) z10.2.1.1 z10.2.1.2.1 z10.2.1.2.2.1 else ag x0 x1 (ha_ hb_ (x2+1)) (ha_ hb_ (x3+1)) z1.2.1.1 z1.2.1.2.1 z1.2.1.2.2.1 else if(y1.1 == 5)=true then if z2.1.2.1=true then some ((4,(ha_ hb_ (x2+1)),()),(z1.2.1,())) else if(decide (y1.1≤2))=true then(aG y1.2.1 y1.2.2.1 z1.2.1.1 z1.2.1.2.1 z1.2.1.2.2.1).bind fun z11=>if(!z11.1.1)=true then some ((5,(ha_ hb_ (x2+1)),()),(z11.2.1,())) else ag x0 x1 (ha_ hb_ (x2+1)) (ha_ hb_ (x3+1)) z11.2.1.1 z11.2.1.2.1 z11.2.1.2.2.1 else ag x0 x1 (ha_ hb_ (x2+1)) (ha_ hb_ (x3+1)) z1.2.1.1 z1.2.1.2.1 z1.2.1.2.2.1 else if(decide (y1.1≤2))=true then(aG y1.2.1 y1.2.2.1 z1.2.1.1 z1.2.1.2.1 z1.2.1.2.2.1).bind fun z12=>if(!z12.1.1)=true then some ((5,(ha_ hb_ (x2+1)),()),(z12.2.1,())) else ag x0 x1 (ha_ hb_ (x2+1)) (ha_ hb_ (x3+1)) z12.2.1.1 z12.2.1.2.1 z12.2.1.2.2.1 else ag x0 x1 (ha_ hb_ (x2+1)) (ha_ hb_ (x3+1)) z1.2.1.1 z1.2.1.2.1 z1.2.1.2.2.1 else if(y1.1 == 4)=true then if z2.1.2.1=true then if(decide (y1.1≤2))=true then(aG y1.2.1 y1.2.2.1 z1.2.1.1 z1.2.1.2.1 z1.2.1.2.2.1).bind fun z13=>if(!z13.1.1)=true then some ((5,(ha_ hb_ (x2+1)),()),(z13.2.1,())) else ag x0 x1 (ha_ hb_ (x2+1)) (ha_ hb_ ((ha_ hb_ (x3 - (ha_ hb_ (y1.2.2.2.1+1))))+1)) z13.2.1.1 z13.2.1.2.1 z13.2.1.2.2.1 else ag x0 x1 (ha_ hb_ (x2+1)) (ha_ hb_ ((ha_ hb_ (x3 - (ha_ hb_ (y1.2.2.2.1+1))))+1)) z1.2.1.1 z1.2.1.2.1 z1.2.1.2.2.1 else if(y1.1 == 5)=true then if z2.1.2.1=true then some ((4,(ha_ hb_ (x2+1)),()),(z1.2.1,())) else if(decide (y1.1≤2))=true then(aG y1.2.1 y1.2.2.1 z1.2.1.1 z1.2.1.2.1 z1.2.1.2.2.1).bind fun z14=>if(!z14.1.1)=true then some ((5,(ha_ hb_ (x2+1)),()),(z14.2.1,())) else ag x0 x1 (ha_ hb_ (x2+1)) (ha_ hb_ (x3+1)) z14.2.1.1 z14.2.1.2.1 z14.2.1.2.2.1 else ag x0 x1 (ha_ hb_ (x2+1)) (ha_ hb_ (x3+1)) z1.2.1.1 z1.2.1.2.1 z1.2.1.2.2.1 else if(decide (y1.1≤2))=true then(aG y1.2.1 y1.2.2.1 z1.2.1.1 z1.2.1.2.1 z1.2.1.2.2.1).bind fun z15=>if(!z15.1.1)=true then some ((5,(ha_ hb_ (x2+1)),()),(z15.2.1,())) else ag x0 x1 (ha_ hb_ (x2+1)) (ha_ hb_ (x3+1)) z15.2.1.1 z15.2.1.2.1 z15.2.1.2.2.1 else ag x0 x1 (ha_ hb_ (x2+1)) (ha_ hb_ (x3+1)) z1.2.1.1 z1.2.1.2.1 z1.2.1.2.2.1 else if(y1.1 == 5)=true then if z2.1.2.1=true then some ((4,(ha_ hb_ (x2+1)),()),(z1.2.1,())) else if(decide (y1.1≤2))=true then(aG y1.2.1 y1.2.2.1 z1.2.1.1 z1.2.1.2.1 z1.2.1.2.2.1).bind fun z16=>if(!z16.1.1)=true then some ((5,(ha_ hb_ (x2+1)),()),(z16.2.1,())) else ag x0 x1 (ha_ hb_ (x2+1)) (ha_ hb_ (x3+1)) z16.2.1.1 z16.2.1.2.1 z16.2.1.2.2.1 else ag x0 x1 (ha_ hb_ (x2+1)) (ha_ hb_ (x3+1)) z1.2.1.1 z1.2.1.2.1 z1.2.1.2.2.1 else if(decide (y1.1≤2))=true then(aG y1.2.1 y1.2.2.1 z1.2.1.1 z1.2.1.2.1 z1.2.1.2.2.1).bind fun z17=>if(!z17.1.1)=true then some ((5,(ha_ hb_ (x2+1)),()),(z17.2.1,())) else ag x0 x1 (ha_ hb_ (x2+1)) (ha_ hb_ (x3+1)) z17.2.1.1 z17.2.1.2.1 z17.2.1.2.2.1 else ag x0 x1 (ha_ hb_ (x2+1)) (ha_ hb_ (x3+1)) z1.2.1.1 z1.2.1.2.1 z1.2.1.2.2.1 else if(y1.1 == 1)=true then(kR z1.1.1).bind fun z18=>if(decide ((ay_ z18.1.1:Int) > 200))=true then(ii 4).bind fun z19=>if(decide (y1.1≤2))=true then(aG y1.2.1 z19.1.1 z1.2.1.1 z1.2.1.2.1 z1.2.1.2.2.1).bind fun z20=>if(!z20.1.1)=true then some ((5,(ha_ hb_ (x2+1)),()),(z20.2.1,())) else ag x0 x1 (ha_ hb_ (x2+1)) (ha_ hb_ (x3+1)) z20.2.1.1 z20.2.1.2.1 z20.2.1.2.2.1 else ag x0 x1 (ha_ hb_ (x2+1)) (ha_ hb_ (x3+1)) z1.2.1.1 z1.2.1.2.1 z1.2.1.2.2.1 else if(decide (y1.1≤2))=true then(aG y1.2.1 z18.1.1 z1.2.1.1 z1.2.1.2.1 z1.2.1.2.2.1).bind fun z21=>if(!z21.1.1)=true then some ((5,(ha_ hb_ (x2+1)),()),(z21.2.1,())) else ag x0 x1 (ha_ hb_ (x2+1)) (ha_ hb_ (x3+1)) z21.2.1.1 z21.2.1.2.1 z21.2.1.2.2.1 else ag x0 x1 (ha_ hb_ (x2+1)) (ha_ hb_ (x3+1)) z1.2.1.1 z1.2.1.2.1 z1.2.1.2.2.1 else if(y1.1 == 3)=true then if(decide (y1.1≤2))=true then(aG y1.2.1 y1.2.2.1 z1.2.1.1 z1.2.1.2.1 z1.2.1.2.2.1).bind fun z22=>if(!z22.1.1)=true then some ((5,(ha_ hb_ (x2+1)),()),(z22.2.1,())) else ag x0 x1 (ha_ hb_ (x2+1)) (ha_ hb_ ((ha_ hb_ (x3+y1.2.2.2.1))+1)) z22.2.1.1 z22.2.1.2.1 z22.2.1.2.2.1 else ag x0 x1 (ha_ hb_ (x2+1)) (ha_ hb_ ((ha_ hb_ (x3+y1.2.2.2.1))+1)) z1.2.1.1 z1.2.1.2.1 z1.2.1.2.2.1 else if(y1.1 == 4)=true then if(y1.1 == 5)=true then if(decide (y1.1≤2))=true then(aG y1.2.1 y1.2.2.1 z1.2.1.1 z1.2.1.2.1 z1.2.1.2.2.1).bind fun z23=>if(!z23.1.1)=true then some ((5,(ha_ hb_ (x2+1)),()),(z23.2.1,())) else ag x0 x1 (ha_ hb_ (x2+1)) (ha_ hb_ (x3+1)) z23.2.1.1 z23.2.1.2.1 z23.2.1.2.2.1 else ag x0 x1 (ha_ hb_ (x2+1)) (ha_ hb_ (x3+1)) z1.2.1.1 z1.2.1.2.1 z1.2.1.2.2.1 else if(decide (y1.1≤2))=true then(aG y1.2.1 y1.2.2.1 z1.2.1.1 z1.2.1.2.1 z1.2.1.2.2.1).bind fun z24=>if(!z24.1.1)=true then some ((5,(ha_ hb_ (x2+1)),()),(z24.2.1,())) else ag x0 x1 (ha_ hb_ (x2+1)) (ha_ hb_ (x3+1)) z24.2.1.1 z24.2.1.2.1 z24.2.1.2.2.1 else ag x0 x1 (ha_ hb_ (x2+1)) (ha_ hb_ (x3+1)) z1.2.1.1 z1.2.1.2.1 z1.2.1.2.2.1 else if(y1.1 == 5)=true then if(decide (y1.1≤2))=true then(aG y1.2.1 y1.2.2.1 z1.2.1.1 z1.2.1.2.1 z1.2.1.2.2.1).bind fun z25=>if(!z25.1.1)=true then some ((5,(ha_ hb_ (x2+1)),()),(z25.2.1,())) else ag x0 x1 (ha_ hb_ (x2+1)) (ha_ hb_ (x3+1)) z25.2.1.1 z25.2.1.2.1 z25.2.1.2.2.1 else ag x0 x1 (ha_ hb_ (x2+1)) (ha_ hb_ (x3+1)) z1.2.1.1 z1.2.1.2.1 z1.2.1.2.2.1 else if(decide (y1.1≤2))=true then(aG y1.2.1 y1.2.2.1 z1.2.1.1 z1.2.1.2.1 z1.2.1.2.2.1).bind fun z26=>if(!z26.1.1)=true then some ((5,(ha_ hb_ (x2+1)),()),(z26.2.1,())) else ag x0 x1 (ha_ hb_ (x2+1)) (ha_ hb_ (x3+1)) z26.2.1.1 z26.2.1.2.1 z26.2.1.2.2.1 else ag x0 x1 (ha_ hb_ (x2+1)) (ha_ hb_ (x3+1)) z1.2.1.1 z1.2.1.2.1 z1.2.1.2.2.1 else if(decide (y1.1≤2))=true then(aG y1.2.1 y1.2.2.1 x4 x5 x6).bind fun z27=>if(!z27.1.1)=true then some ((5,(ha_ hb_ (x2+1)),()),(z27.2.1,())) else ag x0 x1 (ha_ hb_ (x2+1)) (ha_ hb_ (x3+1)) z27.2.1.1 z27.2.1.2.1 z27.2.1.2.2.1 else lU x0 x1 (ha_ hb_ (x2+1)) (ha_ hb_ (x3+1)) x4 x5 x6 else some ((0,x2,()),((x4,x5,x6,()),())):=bn
theorem CC {x0 x1 x2 x3}:wj x0 x1 x2 x3=if(decide (x1 < (al_ x0:Int)))=true then ix x0 x1 (ak.dflt) fun y1=>if(bk ak y1 (x2,x3,()))=true then some ((true,()),()) else wj x0 (ha_ hb_ (x1+1)) x2 x3 else some ((false,()),()):=bn
theorem yK {x0 x1 x2}:lC x0 x1 x2=if(decide (x1 < (al_ x0:Int)))=true then ix x0 x1 (au.dflt) fun y1=>if(y1.1 == 2)=true then ix x0 x1 (au.dflt) fun y2=>ix x0 x1 (au.dflt) fun y3=>app x2 ([(y2.2.2.2.1.1,y3.2.2.2.1.1,())]:(List am)) 32 fun y4=>lC x0 (ha_ hb_ (x1+1)) y4 else if(y1.1 == 3)=true then ix x0 x1 (au.dflt) fun y5=>ix x0 x1 (au.dflt) fun y6=>app x2 ([(y5.2.2.2.1.1,y6.2.2.2.2.1.1,())]:(List am)) 32 fun y7=>lC x0 (ha_ hb_ (x1+1)) y7 else lC x0 (ha_ hb_ (x1+1)) x2 else some ((x2,()),()):=bn
theorem yL {x0 x1 x2 x3 x4 x5 x6 x7 x8 x9 x10 x11 x12 x13}:lD x0 x1 x2 x3 x4 x5 x6 x7 x8 x9 x10 x11 x12 x13=if(decide (x0 < (al_ x10:Int)))=true then nV x0 false 0 x1 x2 x3 x4 x5 x6 x7 x8 x9 x10 x11 x12 x13 else some (((x1,x2,x3,x4,x5,x6,()),()),()):=bn
theorem Eo {x0 x1 x2 x3 x4 x5 x6}:zX x0 x1 x2 x3 x4 x5 x6=if(decide (x1 < (al_ x0:Int)))=true then ix x0 x1 (aw.dflt) fun y1=>if(bk ak y1.1 (x2,x3,()))=true then ix x0 x1 (aw.dflt) fun y2=>some ((y2.2.1,()),()) else zX x0 (ha_ hb_ (x1+1)) x2 x3 x4 x5 x6 else some (((0,0,⟨#[]⟩,()),()),()):=bn
theorem Ep {x0 x1 x2 x3}:zY x0 x1 x2 x3=if(decide (x1 < (al_ x0:Int)))=true then ix x0 x1 (av.dflt) fun y1=>if(bk ak y1.1 (x2,x3,()))=true then ix x0 x1 (av.dflt) fun y2=>some ((y2.2.1,()),()) else zY x0 (ha_ hb_ (x1+1)) x2 x3 else some ((⟨#[]⟩,()),()):=bn
theorem yM {x0 x1 x2 x3}:jP x0 x1 x2 x3=if(decide (x1 < (al_ x0:Int)))=true then nW x0 x1 false 0 x2 x3 else some ((x2,()),()):=bn
theorem wx {x0 x1 x2 x3 x4}:ml x0 x1 x2 x3 x4=if(decide (x1 < (al_ x4:Int)))=true then inb x4 x1 (if(bk ak (au_ x4 (ap_ x1) (ak.dflt)) (x2,x3,()))=true then some ((true,()),()) else inb x4 x1 ((oO x0 (au_ x4 (ap_ x1) (ak.dflt))).bind fun z1=>mq x0 x1 0 x2 x3 x4 z1.1.1)) else some ((false,()),()):=bn
end Go.Proofs.YthbkdfcmjmmpgaaGreatDoor.Abs
namespace Go.Proofs.YthbkdfcmjmmpgaaGreatDoor.Abs
open Go Go.Proofs.YthbkdfcmjmmpgaaGreatDoor
theorem CD {x0 x1 x2 x3}:wk x0 x1 x2 x3=if(decide (x1 < (al_ x0:Int)))=true then ix x0 x1 (aw.dflt) fun y1=>(oI y1.1 x2).bind fun z1=>if z1.1.1=true then wk x0 (ha_ hb_ (x1+1)) x2 x3 else MG x0 x1 fun y2=>app ([]:(List aj)) y2 48 fun y3=>app y3 ([(x2,x3,())]:(List aj)) 48 fun y4=>QT x0 x1 fun y5=>app y4 y5 48 fun y6=>some ((y6,()),()) else MG x0 x1 fun y7=>app ([]:(List aj)) y7 48 fun y8=>app y8 ([(x2,x3,())]:(List aj)) 48 fun y9=>QT x0 x1 fun y10=>app y9 y10 48 fun y11=>some ((y11,()),()):=bn
theorem wy {x0 x1}:mm x0 x1=if(decide (x1 < (al_ x0:Int)))=true then ix x0 x1 (aw.dflt) fun y1=>(dl y1.1).bind fun z1=>if(!z1.1.1)=true then some ((false,()),()) else ix x0 x1 (aw.dflt) fun y2=>(ej y2.2.1).bind fun z2=>if(!z2.1.1)=true then some ((false,()),()) else if(decide (x1 > 0))=true then ix x0 (ha_ hb_ (x1 - 1)) (aw.dflt) fun y3=>ix x0 x1 (aw.dflt) fun y4=>(oI y3.1 y4.1).bind fun z3=>if(!z3.1.1)=true then some ((false,()),()) else mm x0 (ha_ hb_ (x1+1)) else mm x0 (ha_ hb_ (x1+1)) else some ((true,()),()):=bn
theorem Ba {x0 x1 x2 x3 x4}:m7 x0 x1 x2 x3 x4=ix x0 x1 (au.dflt) fun y1=>if(decide (x3 < (al_ y1.2.2.2.2.2.1:Int)))=true then ix x0 x1 (au.dflt) fun y2=>ix y2.2.2.2.2.2.1 x3 0 fun y3=>ix x0 y3 (au.dflt) fun y4=>if(y4.1 != 3)=true then ix x0 x1 (au.dflt) fun y5=>ix y5.2.2.2.2.2.1 x3 0 fun y6=>(e8 x0 y6 x2).bind fun z1=>app x4 ([z1.1.1]:(List ac)) 32 fun y7=>m7 x0 x1 x2 (ha_ hb_ (x3+1)) y7 else jQ x0 x1 x2 x3 0 x4 y4.2.2.2.1.1 y4.2.2.2.2.1.1 else some ((x4,()),()):=bn
theorem js {x0 x1 x2 x3 x4 x5 x6 x7 x8 x9 x10 x11}:bB x0 x1 x2 x3 x4 x5 x6 x7 x8 x9 x10 x11=if(decide (x5 < (al_ x1:Int)))=true then ix x1 x5 (aq.dflt) fun y1=>if(x0 == 6)=true then(pp y1).bind fun z1=>if(z1.1.2.1.1 != 0)=true then some ((z1.1.2.1,()),()) else if x3=true then if x4=true then bB x0 x1 x2 z1.1.1 true (ha_ hb_ (x5+1)) x6 x7 x8 x9 x10 x11 else bB x0 x1 x2 z1.1.1 z1.1.1 (ha_ hb_ (x5+1)) x6 x7 x8 x9 x10 x11 else if x4=true then bB x0 x1 x2 false true (ha_ hb_ (x5+1)) x6 x7 x8 x9 x10 x11 else bB x0 x1 x2 false z1.1.1 (ha_ hb_ (x5+1)) x6 x7 x8 x9 x10 x11 else if(x0 == 7)=true then(pp y1).bind fun z2=>if(z2.1.2.1.1 != 0)=true then some ((z2.1.2.1,()),()) else if x3=true then if x4=true then bB x0 x1 x2 z2.1.1 true (ha_ hb_ (x5+1)) x6 x7 x8 x9 x10 x11 else bB x0 x1 x2 z2.1.1 z2.1.1 (ha_ hb_ (x5+1)) x6 x7 x8 x9 x10 x11 else if x4=true then bB x0 x1 x2 false true (ha_ hb_ (x5+1)) x6 x7 x8 x9 x10 x11 else bB x0 x1 x2 false z2.1.1 (ha_ hb_ (x5+1)) x6 x7 x8 x9 x10 x11 else if(y1.1 == 4)=true then if(x0 != 4)=true then some ((y1,()),()) else if(y1.1 != 1)=true then bB x0 x1 x2 x3 x4 (ha_ hb_ (x5+1)) x6 x7 x8 x9 x10 x11 else if(x0 == 1)=true then(Fe (x9,x10,x11,()) y1).bind fun z3=>if(z3.1.1.1 == 4)=true then some ((z3.1.1,()),()) else bB x0 x1 (ha_ hb_ (x2+1)) x3 x4 (ha_ hb_ (x5+1)) x6 x7 x8 z3.1.1.1 z3.1.1.2.1 z3.1.1.2.2.1 else if((ha_ hb_ (x2+1)) == 1)=true then bB x0 x1 (ha_ hb_ (x2+1)) x3 x4 (ha_ hb_ (x5+1)) x6 x7 x8 y1.1 y1.2.1 y1.2.2.1 else if(x0 == 2)=true then if(decide (y1.2.1 < x10))=true then bB x0 x1 (ha_ hb_ (x2+1)) x3 x4 (ha_ hb_ (x5+1)) x6 x7 x8 y1.1 y1.2.1 y1.2.2.1 else if(x0 == 3)=true then if(decide (y1.2.1 > x10))=true then bB x0 x1 (ha_ hb_ (x2+1)) x3 x4 (ha_ hb_ (x5+1)) x6 x7 x8 y1.1 y1.2.1 y1.2.2.1 else bB x0 x1 (ha_ hb_ (x2+1)) x3 x4 (ha_ hb_ (x5+1)) x6 x7 x8 x9 x10 x11 else bB x0 x1 (ha_ hb_ (x2+1)) x3 x4 (ha_ hb_ (x5+1)) x6 x7 x8 x9 x10 x11 else if(x0 == 3)=true then if(decide (y1.2.1 > x10))=true then bB x0 x1 (ha_ hb_ (x2+1)) x3 x4 (ha_ hb_ (x5+1)) x6 x7 x8 y1.1 y1.2.1 y1.2.2.1 else bB x0 x1 (ha_ hb_ (x2+1)) x3 x4 (ha_ hb_ (x5+1)) x6 x7 x8 x9 x10 x11 else bB x0 x1 (ha_ hb_ (x2+1)) x3 x4 (ha_ hb_ (x5+1)) x6 x7 x8 x9 x10 x11 else if(y1.1 != 1)=true then bB x0 x1 x2 x3 x4 (ha_ hb_ (x5+1)) x6 x7 x8 x9 x10 x11 else if(x0 == 1)=true then(Fe (x9,x10,x11,()) y1).bind fun z4=>if(z4.1.1.1 == 4)=true then some ((z4.1.1,()),()) else bB x0 x1 (ha_ hb_ (x2+1)) x3 x4 (ha_ hb_ (x5+1)) x6 x7 x8 z4.1.1.1 z4.1.1.2.1 z4.1.1.2.2.1 else if((ha_ hb_ (x2+1)) == 1)=true then bB x0 x1 (ha_ hb_ (x2+1)) x3 x4 (ha_ hb_ (x5+1)) x6 x7 x8 y1.1 y1.2.1 y1.2.2.1 else if(x0 == 2)=true then if(decide (y1.2.1 < x10))=true then bB x0 x1 (ha_ hb_ (x2+1)) x3 x4 (ha_ hb_ (x5+1)) x6 x7 x8 y1.1 y1.2.1 y1.2.2.1 else if(x0 == 3)=true then if(decide (y1.2.1 > x10))=true then bB x0 x1 (ha_ hb_ (x2+1)) x3 x4 (ha_ hb_ (x5+1)) x6 x7 x8 y1.1 y1.2.1 y1.2.2.1 else bB x0 x1 (ha_ hb_ (x2+1)) x3 x4 (ha_ hb_ (x5+1)) x6 x7 x8 x9 x10 x11 else bB x0 x1 (ha_ hb_ (x2+1)) x3 x4 (ha_ hb_ (x5+1)) x6 x7 x8 x9 x10 x11 else if(x0 == 3)=true then if(decide (y1.2.1 > x10))=true then bB x0 x1 (ha_ hb_ (x2+1)) x3 x4 (ha_ hb_ (x5+1)) x6 x7 x8 y1.1 y1.2.1 y1.2.2.1 else bB x0 x1 (ha_ hb_ (x2+1)) x3 x4 (ha_ hb_ (x5+1)) x6 x7 x8 x9 x10 x11 else bB x0 x1 (ha_ hb_ (x2+1)) x3 x4 (ha_ hb_ (x5+1)) x6 x7 x8 x9 x10 x11 else if(x0 == 4)=true then(iT x2).bind fun z5=>some ((z5.1.1,()),()) else if(x0 == 6)=true then(jp x3).bind fun z6=>some ((z6.1.1,()),()) else if(x0 == 7)=true then(jp x4).bind fun z7=>some ((z7.1.1,()),()) else some (((x9,x10,x11,()),()),()):=bn
theorem Bb {x0 x1 x2 x3 x4 x5}:qj x0 x1 x2 x3 x4 x5=if(decide (x3 < (al_ x0:Int)))=true then ix x0 x3 (av.dflt) fun y1=>(nQ x2 y1.1).bind fun z1=>if z1.1.1=true then ix x0 x3 (av.dflt) fun y2=>app x5 ([y2.1]:(List ah)) 16 fun y3=>qj x0 x1 x2 (ha_ hb_ (x3+1)) x4 y3 else ix x0 x3 (av.dflt) fun y4=>ix x0 x3 (av.dflt) fun y5=>(LX x1 y5.1).bind fun z2=>app x4 ([(y4.1,z2.1.1,())]:(List aj)) 48 fun y6=>qj x0 x1 x2 (ha_ hb_ (x3+1)) y6 x5 else jD x0 x4 x5:=bn
theorem CE {x0 x1 x2}:wl x0 x1 x2=if(decide (x1 < (al_ x0:Int)))=true then ix x0 x1 (av.dflt) fun y1=>app x2 ([y1.1]:(List ah)) 16 fun y2=>wl x0 (ha_ hb_ (x1+1)) y2 else(DA x0 ([]:(List aj)) x2).bind fun z1=>some ((z1.1.1,()),()):=bn
theorem LK {x0 x1 x2 x3 x4 x5 x6 x7 x8 x9 x10 x11 x12 x13}:zZ x0 x1 x2 x3 x4 x5 x6 x7 x8 x9 x10 x11 x12 x13=if(x7 == 0)=true then if(decide (x5 < (al_ x0:Int)))=true then if(x6 == x1)=true then some (((x11,x5,x6,3,x12,x13,()),()),()) else ix x0 x5 (aW.dflt) fun y1=>if(y1.1 == 2)=true then(iz (x11,(ha_ hb_ (x5+1)),(ha_ hb_ (x6+1)),x7,x12,x13,()) y1.2.1 y1.2.2.1).bind fun z1=>aX x0 x1 x2 x3 x4 z1.1.1.1 z1.1.1.2.1 z1.1.1.2.2.1 z1.1.1.2.2.2.1 z1.1.1.2.2.2.2.1 z1.1.1.2.2.2.2.2.1 x8 x9 x10 else(zV (x11,(ha_ hb_ (x5+1)),(ha_ hb_ (x6+1)),x7,x12,x13,()) y1.2.2.1).bind fun z2=>(we z2.1.1 y1.2.2.1).bind fun z3=>(pp z3.1.1).bind fun z4=>if z4.1.1=true then if(y1.1 == 1)=true then(dY z3.1.1).bind fun z5=>if(decide ((ay_ z5.1.1:Int) > 200))=true then(mV 4).bind fun z6=>(iz z2.1.1 y1.2.1 z6.1.1).bind fun z7=>aX x0 x1 x2 x3 x4 z7.1.1.1 z7.1.1.2.1 z7.1.1.2.2.1 z7.1.1.2.2.2.1 z7.1.1.2.2.2.2.1 z7.1.1.2.2.2.2.2.1 x8 x9 x10 else(iz z2.1.1 y1.2.1 z5.1.1).bind fun z8=>aX x0 x1 x2 x3 x4 z8.1.1.1 z8.1.1.2.1 z8.1.1.2.2.1 z8.1.1.2.2.2.1 z8.1.1.2.2.2.2.1 z8.1.1.2.2.2.2.2.1 x8 x9 x10 else if(y1.1 == 3)=true then if(! (z4.1.2.1.1 == 0))=true then aX x0 x1 x2 x3 x4 z2.1.1.1 (ha_ hb_ (z2.1.1.2.1+y1.2.2.2.1)) z2.1.1.2.2.1 z2.1.1.2.2.2.1 z2.1.1.2.2.2.2.1 z2.1.1.2.2.2.2.2.1 x8 x9 x10 else aX x0 x1 x2 x3 x4 z2.1.1.1 z2.1.1.2.1 z2.1.1.2.2.1 z2.1.1.2.2.2.1 z2.1.1.2.2.2.2.1 z2.1.1.2.2.2.2.2.1 x8 x9 x10 else if(y1.1 == 4)=true then if(z4.1.2.1.1 == 0)=true then aX x0 x1 x2 x3 x4 z2.1.1.1 (ha_ hb_ ((ha_ hb_ (z2.1.1.2.1 - 1)) - y1.2.2.2.1)) z2.1.1.2.2.1 z2.1.1.2.2.2.1 z2.1.1.2.2.2.2.1 z2.1.1.2.2.2.2.2.1 x8 x9 x10 else aX x0 x1 x2 x3 x4 z2.1.1.1 z2.1.1.2.1 z2.1.1.2.2.1 z2.1.1.2.2.2.1 z2.1.1.2.2.2.2.1 z2.1.1.2.2.2.2.2.1 x8 x9 x10 else if(y1.1 == 5)=true then if(z4.1.2.1.1 == 0)=true then aX x0 x1 x2 x3 x4 z2.1.1.1 z2.1.1.2.1 z2.1.1.2.2.1 4 z2.1.1.2.2.2.2.1 z2.1.1.2.2.2.2.2.1 x8 x9 x10 else aX x0 x1 x2 x3 x4 z2.1.1.1 z2.1.1.2.1 z2.1.1.2.2.1 z2.1.1.2.2.2.1 z2.1.1.2.2.2.2.1 z2.1.1.2.2.2.2.2.1 x8 x9 x10 else aX x0 x1 x2 x3 x4 z2.1.1.1 z2.1.1.2.1 z2.1.1.2.2.1 z2.1.1.2.2.2.1 z2.1.1.2.2.2.2.1 z2.1.1.2.2.2.2.2.1 x8 x9 x10 else if(y1.1 == 1)=true then(dY z3.1.1).bind fun z9=>if(decide ((ay_ z9.1.1:Int) > 200))=true then(mV 4).bind fun z10=>(iz z2.1.1 y1.2.1 z10.1.1).bind fun z11=>aX x0 x1 x2 x3 x4 z11.1.1.1 z11.1.1.2.1 z11.1.1.2.2.1 z11.1.1.2.2.2.1 z11.1.1.2.2.2.2.1 z11.1.1.2.2.2.2.2.1 x8 x9 x10 else(iz z2.1.1 y1.2.1 z9.1.1).bind fun z12=>aX x0 x1 x2 x3 x4 z12.1.1.1 z12.1.1.2.1 z12.1.1.2.2.1 z12.1.1.2.2.2.1 z12.1.1.2.2.2.2.1 z12.1.1.2.2.2.2.2.1 x8 x9 x10 else if(y1.1 == 3)=true then aX x0 x1 x2 x3 x4 z2.1.1.1 (ha_ hb_ (z2.1.1.2.1+y1.2.2.2.1)) z2.1.1.2.2.1 z2.1.1.2.2.2.1 z2.1.1.2.2.2.2.1 z2.1.1.2.2.2.2.2.1 x8 x9 x10 else if(y1.1 == 4)=true then aX x0 x1 x2 x3 x4 z2.1.1.1 z2.1.1.2.1 z2.1.1.2.2.1 z2.1.1.2.2.2.1 z2.1.1.2.2.2.2.1 z2.1.1.2.2.2.2.2.1 x8 x9 x10 else if(y1.1 == 5)=true then aX x0 x1 x2 x3 x4 z2.1.1.1 z2.1.1.2.1 z2.1.1.2.2.1 z2.1.1.2.2.2.1 z2.1.1.2.2.2.2.1 z2.1.1.2.2.2.2.2.1 x8 x9 x10 else aX x0 x1 x2 x3 x4 z2.1.1.1 z2.1.1.2.1 z2.1.1.2.2.1 z2.1.1.2.2.2.1 z2.1.1.2.2.2.2.1 z2.1.1.2.2.2.2.2.1 x8 x9 x10 else some (((x11,x5,x6,x7,x12,x13,()),()),()) else some (((x11,x5,x6,x7,x12,x13,()),()),()):=bn
theorem Fp {x0 x1 x2}:om x0 x1 x2=if(decide (x2 < (al_ x0:Int)))=true then ix x0 x2 (av.dflt) fun y1=>ix x1 x2 (av.dflt) fun y2=>if(! (bk av y1 y2))=true then some ((false,()),()) else om x0 x1 (ha_ hb_ (x2+1)) else some ((true,()),()):=bn
theorem ll {x0 x1}:fL x0 x1=if(decide (x0 < (al_ x1:Int)))=true then inb x1 x0 (inb x1 (ha_ hb_ (x0 - 1)) (if(bk ak (au_ x1 (ap_ x0) (ak.dflt)) (au_ x1 (ap_ (ha_ hb_ (x0 - 1))) (ak.dflt)))=true then if(0:Int)≤x0 then if x0 < (al_ x1:Int) then ee x0 x0 1 x1 else none else none else fL (ha_ hb_ (x0+1)) x1)) else some ((x1,()),()):=bn
theorem Bc {x0 x1 x2 x3}:ql x0 x1 x2 x3=if(decide (x2 < x1))=true then ix x0 x2 ([]:(List ae)) fun y1=>tK x0 x1 x2 y1 (al_ y1:Int) 0 x3 else(ep x3).bind fun z1=>(kS z1.2.1).bind fun z2=>some ((z2.1.1,()),()):=bn
theorem wz {x0 x1 x2 x3 x4}:qm x0 x1 x2 x3 x4=if(decide (x2 < x1))=true then ix x0 x2 (av.dflt) fun y1=>if(bk ak y1.1 (x3,x4,()))=true then some ((y1.2.1,()),()) else qm x0 x1 (ha_ hb_ (x2+1)) x3 x4 else some ((⟨#[]⟩,()),()):=bn
theorem Er {x0 x1 x2 x3 x4 x5}:u3 x0 x1 x2 x3 x4 x5=if(decide (x3 < x2))=true then inb x5 x3 ((wg x0 (au_ x5 (ap_ x3) (ak.dflt))).bind fun z1=>(wg x1 (au_ x5 (ap_ x3) (ak.dflt))).bind fun z2=>if(! (ag_ z1.1.1 == ag_ z2.1.1))=true then app x4 ([((au_ x5 (ap_ x3) (ak.dflt)),z1.1.1,z2.1.1,())]:(List db)) 48 fun y1=>u3 x0 x1 x2 (ha_ hb_ (x3+1)) y1 x5 else u3 x0 x1 x2 (ha_ hb_ (x3+1)) x4 x5) else some ((x4,()),()):=bn
theorem Bd {x0 x1 x2 x3}:tJ x0 x1 x2 x3=if(decide (x1 < (al_ x0:Int)))=true then ix x0 x1 (ak.dflt) fun y1=>if(bk ak y1 (x2,x3,()))=true then some ((true,()),()) else tJ x0 (ha_ hb_ (x1+1)) x2 x3 else some ((false,()),()):=bn
theorem nX {x0 x1 x2 x3 x4 x5 x6 x7}:fU x0 x1 x2 x3 x4 x5 x6 x7=if(decide (x3 < (al_ x7:Int)))=true then inb x7 x3 ((Iv x6 (au_ x7 (ap_ x3) (mP.dflt)).1).bind fun z1=>if(!z1.1.1)=true then some ((false,()),()) else fU x0 x1 x2 (ha_ hb_ (x3+1)) x4 x5 x6 x7) else if(x1 == 400)=true then(oJ x5).bind fun z2=>some ((z2.1.1,()),()) else(wc x4 x0 (ha_ hb_ (x1+1))).bind fun z3=>(oJ x5).bind fun z4=>if z4.1.1=true then if(z3.1.2.1 == 0)=true then if(z3.1.2.2.1 == x2)=true then(fq z3.1.1 x5).bind fun z5=>some ((z5.1.1,()),()) else some ((false,()),()) else some ((false,()),()) else some ((false,()),()):=bn
theorem nE {x0 x1 x2 x3 x4 x5}:de x0 x1 x2 x3 x4 x5=if(!x3)=true then(su x1 x2 x3 x5).bind fun z1=>app x4 ([z1.1.1]:(List Int)) 8 fun y1=>(dQ ⟨#[41]⟩ z1.2.1.1 z1.2.1.2.1 z1.2.1.2.2.1 z1.2.1.2.2.2.1).bind fun z2=>if z2.1.1=true then(cm (6,x0,(0,0,⟨#[]⟩,()),((0,0,()),false,false,()),((0,0,()),false,false,()),y1,()) z2.2.1.1 z2.2.1.2.1 z2.2.1.2.2.1 z2.2.1.2.2.2.1).bind fun z3=>some ((z3.1.1,()),(z3.2.1,())) else(dQ ⟨#[44]⟩ z2.2.1.1 z2.2.1.2.1 z2.2.1.2.2.1 z2.2.1.2.2.2.1).bind fun z4=>if(!z4.1.1)=true then de x0 z4.2.1.1 z4.2.1.2.1 true y1 z4.2.1.2.2.2.1 else de x0 z4.2.1.1 z4.2.1.2.1 z4.2.1.2.2.1 y1 z4.2.1.2.2.2.1 else some ((0,()),((x1,x2,x3,x5,()),())):=bn
theorem wA {x0 x1 x2 x3 x4 x5 x6}:mn x0 x1 x2 x3 x4 x5 x6=if(decide (x1 < (al_ x5:Int)))=true then inb x5 x1 ((uP (au_ x5 (ap_ x1) 0)).bind fun z1=>if(z1.1.1 == x0)=true then inb x5 x1 ((lA (au_ x5 (ap_ x1) 0)).bind fun z2=>(dQ z2.1.1 x2 x3 x4 x6).bind fun z3=>if z3.1.1=true then inb x5 x1 (some (((au_ x5 (ap_ x1) 0),()),(z3.2.1,()))) else mn x0 (ha_ hb_ (x1+1)) z3.2.1.1 z3.2.1.2.1 z3.2.1.2.2.1 x5 z3.2.1.2.2.2.1) else mn x0 (ha_ hb_ (x1+1)) x2 x3 x4 x5 x6) else some ((0,()),((x2,x3,x4,x6,()),())):=bn
theorem vh {x0 x1 x2}:li x0 x1 x2=ix x0 x1 (au.dflt) fun y1=>if(decide (x2 < (al_ y1.2.2.2.2.2.1:Int)))=true then ix x0 x1 (au.dflt) fun y2=>ix y2.2.2.2.2.2.1 x2 0 fun y3=>(ig y3 0 (ha_ hb_ (x1 - 1))).bind fun z1=>if(!z1.1.1)=true then some ((false,()),()) else ix x0 y3 (au.dflt) fun y4=>if(y4.1 == 3)=true then ix x0 x1 (au.dflt) fun y5=>if(y5.1 != 6)=true then some ((false,()),()) else li x0 x1 (ha_ hb_ (x2+1)) else li x0 x1 (ha_ hb_ (x2+1)) else eO x0 (ha_ hb_ (x1+1)):=bn
theorem sE {x0 x1 x2}:jC x0 x1 x2=if(decide (x0 > 0))=true then app ([]:(List aZ)) x2 48 fun y1=>(kO x1).bind fun z1=>app y1 ([z1.1.1]:(List aZ)) 48 fun y2=>(jN y2).bind fun z2=>if z2.1.1=true then d8 (ha_ hb_ (x0 - 1)) z1.2.1 y2 else inb y2 (ha_ hb_ ((al_ y2:Int) - 1)) (if((au_ y2 (ap_ (ha_ hb_ ((al_ y2:Int) - 1))) (aW.dflt)).1 == 3)=true then d8 (ha_ hb_ (x0 - 1)) z1.2.1 y2 else jC (ha_ hb_ (x0 - 1)) z1.2.1 x2) else(jN x2).bind fun z3=>if(!z3.1.1)=true then(bZ 20 x1).bind fun z4=>if(!z4.1.1)=true then(bH z4.2.1).bind fun z5=>(bH z5.2.1).bind fun z6=>app x2 ([(1,z5.1.1,⟨#[49]⟩,0,()),(1,z6.1.1,⟨#[65,49,43,66,50]⟩,0,())]:(List aZ)) 48 fun y3=>some ((y3,()),(z6.2.1,())) else some ((x2,()),(z4.2.1,())) else some ((x2,()),(x1,())):=bn
theorem qo {x0 x1 x2 x3 x4 x5 x6 x7}:cy x0 x1 x2 x3 x4 x5 x6 x7=if(decide (x4≤11))=true then(qc x5 x6 x7).bind fun z1=>(yk x4).bind fun z2=>if(ag_ z1.1.1 == ag_ z2.1.1)=true then cy x0 x1 x2 x4 (ha_ hb_ (x4+1)) z1.2.1.1 z1.2.1.2.2.1 z1.2.1.2.1 else cy x0 x1 x2 x3 (ha_ hb_ (x4+1)) z1.2.1.1 z1.2.1.2.2.1 z1.2.1.2.1 else if(x3 == 0)=true then some ((x2,()),((x5,x7,x6,()),())) else(Ci x3).bind fun z3=>if(decide (z3.1.1 < x0))=true then some ((x2,()),((x5,x7,x6,()),())) else(yk x3).bind fun z4=>(bS z4.1.1 x5 x6 x7).bind fun z5=>(Ci x3).bind fun z6=>(bW (ha_ hb_ (z6.1.1+1)) x1 z5.2.1.1 z5.2.1.2.2.1 z5.2.1.2.1).bind fun z7=>(bq (5,x3,(0,0,⟨#[]⟩,()),((0,0,()),false,false,()),((0,0,()),false,false,()),([x2,z7.1.1]:(List Int)),()) z7.2.1.1 z7.2.1.2.2.1 z7.2.1.2.1).bind fun z8=>fC x0 x1 z8.1.1 z8.2.1.1 z8.2.1.2.2.1 z8.2.1.2.1:=bn
theorem nY {x0 x1 x2 x3}:fV x0 x1 x2 x3=if(decide (x2 < x1))=true then ix x0 x2 (ay.dflt) fun y1=>(dZ x3 y1).bind fun z1=>if(!z1.1.1)=true then app x3 ([y1]:(List am)) 32 fun y2=>fV x0 x1 (ha_ hb_ (x2+1)) y2 else fV x0 x1 (ha_ hb_ (x2+1)) x3 else some ((),(x3,())):=bn
theorem qO {x0 x1 x2 x3 x4 x5 x6}:iX x0 x1 x2 x3 x4 x5 x6=if(decide (x2 < x1))=true then inb x3 x2 (inb x6 x0 ((pm (au_ x6 (ap_ x0) (ay.dflt)) (au_ x3 (ap_ x2) (av.dflt)).1).bind fun z1=>if z1.1.1=true then(tC (au_ x3 (ap_ x2) (av.dflt)).2.1).bind fun z2=>(uU z2.1.1).bind fun z3=>(jz z3.1.1 x6).bind fun z4=>iX x0 x1 (ha_ hb_ (x2+1)) x3 x4 x5 z4.2.1 else iX x0 x1 (ha_ hb_ (x2+1)) x3 x4 x5 x6)) else iU (ha_ hb_ (x0+1)) x3 x4 x5 x6:=bn
theorem qp {x0 x1 x2 x3 x4 x5}:hZ x0 x1 x2 x3 x4 x5=if(decide (x1 < x0))=true then inb x5 x1 ((dZ x3 (au_ x5 (ap_ x1) (ay.dflt))).bind fun z1=>if(!z1.1.1)=true then app x3 ([(au_ x5 (ap_ x1) (ay.dflt))]:(List am)) 32 fun y1=>gy x0 (ha_ hb_ (x1+1)) x2 x4 x5 y1 else hZ x0 (ha_ hb_ (x1+1)) x2 x3 x4 x5) else some ((),((x2,x3,x4,()),())):=bn
theorem gB {x0 x1 x2 x3}:ce x0 x1 x2 x3=if(decide (x2 < x1))=true then ix x0 x2 (ay.dflt) fun y1=>(M0 y1 x3).bind fun z1=>if z1.1.1=true then some ((x2,()),(z1.2.1,())) else ce x0 x1 (ha_ hb_ (x2+1)) z1.2.1 else some (((-1),()),(x3,())):=bn
theorem wB {x0 x1 x2 x3 x4 x5 x6 x7 x8 x9 x10 x11 x12 x13 x14 x15}:mo x0 x1 x2 x3 x4 x5 x6 x7 x8 x9 x10 x11 x12 x13 x14 x15=if(decide (x6 < x5))=true then ix x4 x6 (av.dflt) fun y1=>(Sw x9 y1.1).bind fun z1=>if z1.1.1=true then app x10 ([x6]:(List Int)) 8 fun y2=>mo x0 x1 x2 x3 x4 x5 (ha_ hb_ (x6+1)) x7 x8 x9 y2 x11 x12 x13 x14 x15 else mo x0 x1 x2 x3 x4 x5 (ha_ hb_ (x6+1)) x7 x8 x9 x10 x11 x12 x13 x14 x15 else app x14 ([x8]:(List (List ab))) 24 fun y3=>app x15 ([x10]:(List (List Int))) 24 fun y4=>mj x0 x1 x2 (ha_ hb_ (x3+1)) x7 x11 x12 x13 y3 y4:=bn
theorem dv {x0 x1 x2 x3 x4 x5 x6}:bX x0 x1 x2 x3 x4 x5 x6=if(decide (x3 < x2))=true then ix x1 x3 0 fun y1=>(bK y1 x4 x5 x6).bind fun z1=>bX x0 x1 x2 (ha_ hb_ (x3+1)) z1.2.2.1 z1.2.1 z1.2.2.2.1 else ix x4.2.1 x0 ([]:(List ab)) fun y2=>(tD y2 x6).bind fun z2=>inb x6 x0 (sV (aw.dflt) x6 x0 (fun e=>(e.1,z2.1.1,())) fun w3=>some ((),(x5,x4,w3,()))):=bn
theorem wC {x0 x1 x2 x3 x4 x5 x6 x7 x8 x9}:iY x0 x1 x2 x3 x4 x5 x6 x7 x8 x9=if(decide (x8 < x7))=true then ix x6 x8 (aw.dflt) fun y1=>ix x0 x2 (au.dflt) fun y2=>(jO y2).bind fun z1=>(pm z1.1.1 y1.1).bind fun z2=>if z2.1.1=true then app x9 ([y1.2.1]:(List ac)) 32 fun y3=>iY x0 x1 x2 x3 x4 x5 x6 x7 (ha_ hb_ (x8+1)) y3 else iY x0 x1 x2 x3 x4 x5 x6 x7 (ha_ hb_ (x8+1)) x9 else kk x0 x1 x3 x4 (ha_ hb_ (x5+1)) x9:=bn
theorem Aj {x0 x1 x2 x3 x4 x5 x6}:j6 x0 x1 x2 x3 x4 x5 x6=if(decide (x1 < x0))=true then(cG x1 x3 x4 x5 x6 x2).bind fun z1=>gz x0 (ha_ hb_ (x1+1)) z1.2.2.2.1 z1.2.2.1 z1.2.1 else some ((x2,()),()):=bn
theorem lm {x0 x1 x2 x3}:co x0 x1 x2 x3=if(decide (x2 < x1))=true then ix x0 x2 (av.dflt) fun y1=>(xh y1 x3).bind fun z1=>if z1.1.1=true then some ((x2,()),(z1.2.1,())) else co x0 x1 (ha_ hb_ (x2+1)) z1.2.1 else some (((-1),()),(x3,())):=bn
end Go.Proofs.YthbkdfcmjmmpgaaGreatDoor.Abs
namespace Go.Proofs.YthbkdfcmjmmpgaaGreatDoor.Abs
open Go Go.Proofs.YthbkdfcmjmmpgaaGreatDoor
theorem je {x0 x1 x2 x3 x4 x5 x6}:ag x0 x1 x2 x3 x4 x5 x6=if(decide (x3 < (al_ x0:Int)))=true then if(x2 == x1)=true then some ((3,x2,()),((x4,x5,x6,()),())) else ix x0 x3 (aW.dflt) fun y1=>if(y1.1 != 2)=true then(oi y1.2.2.1 x4 x5 x6).bind fun z1=>(oL z1.1.1).bind fun z2=>if z2.1.1=true then if(y1.1 == 1)=true then(kR z1.1.1).bind fun z3=>if(decide ((ay_ z3.1.1:Int) > 200))=true then(ii 4).bind fun z4=>if(decide (y1.1≤2))=true then(aG y1.2.1 z4.1.1 z1.2.1.1 z1.2.1.2.1 z1.2.1.2.2.1).bind fun z5=>if(!z5.1.1)=true then some ((5,(ha_ hb_ (x2+1)),()),(z5.2.1,())) else ag x0 x1 (ha_ hb_ (x2+1)) (ha_ hb_ (x3+1)) z5.2.1.1 z5.2.1.2.1 z5.2.1.2.2.1 else ag x0 x1 (ha_ hb_ (x2+1)) (ha_ hb_ (x3+1)) z1.2.1.1 z1.2.1.2.1 z1.2.1.2.2.1 else if(decide (y1.1≤2))=true then(aG y1.2.1 z3.1.1 z1.2.1.1 z1.2.1.2.1 z1.2.1.2.2.1).bind fun z6=>if(!z6.1.1)=true then some ((5,(ha_ hb_ (x2+1)),()),(z6.2.1,())) else ag x0 x1 (ha_ hb_ (x2+1)) (ha_ hb_ (x3+1)) z6.2.1.1 z6.2.1.2.1 z6.2.1.2.2.1 else ag x0 x1 (ha_ hb_ (x2+1)) (ha_ hb_ (x3+1)) z1.2.1.1 z1.2.1.2.1 z1.2.1.2.2.1 else if(y1.1 == 3)=true then if(!z2.1.2.1)=true then if(decide (y1.1≤2))=true then(aG y1.2.1 y1.2.2.1 z1.2.1.1 z1.2.1.2.1 z1.2.1.2.2.1).bind fun z7=>if(!z7.1.1)=true then some ((5,(ha_ hb_ (x2+1)),()),(z7.2.1,())) else ag x0 x1 (ha_ hb_ (x2+1)) (ha_ hb_ ((ha_ hb_ (x3+y1.2.2.2.1))+1)) z7.2.1.1 z7.2.1.2.1 z7.2.1.2.2.1 else ag x0 x1 (ha_ hb_ (x2+1)) (ha_ hb_ ((ha_ hb_ (x3+y1.2.2.2.1))+1)) z1.2.1.1 z1.2.1.2.1 z1.2.1.2.2.1 else if(y1.1 == 4)=true then if z2.1.2.1=true then if(decide (y1.1≤2))=true then(aG y1.2.1 y1.2.2.1 z1.2.1.1 z1.2.1.2.1 z1.2.1.2.2.1).bind fun z8=>if(!z8.1.1)=true then some ((5,(ha_ hb_ (x2+1)),()),(z8.2.1,())) else ag x0 x1 (ha_ hb_ (x2+1)) (ha_ hb_ ((ha_ hb_ (x3 - (ha_ hb_ (y1.2.2.2.1+1))))+1)) z8.2.1.1 z8.2.1.2.1 z8.2.1.2.2.1 else ag x0 x1 (ha_ hb_ (x2+1)) (ha_ hb_ ((ha_ hb_ (x3 - (ha_ hb_ (y1.2.2.2.1+1))))+1)) z1.2.1.1 z1.2.1.2.1 z1.2.1.2.2.1 else if(y1.1 == 5)=true then if z2.1.2.1=true then some ((4,(ha_ hb_ (x2+1)),()),(z1.2.1,())) else if(decide (y1.1≤2))=true then(aG y1.2.1 y1.2.2.1 z1.2.1.1 z1.2.1.2.1 z1.2.1.2.2.1).bind fun z9=>if(!z9.1.1)=true then some ((5,(ha_ hb_ (x2+1)),()),(z9.2.1,())) else ag x0 x1 (ha_ hb_ (x2+1)) (ha_ hb_ (x3+1)) z9.2.1.1 z9.2.1.2.1 z9.2.1.2.2.1 else ag x0 x1 (ha_ hb_ (x2+1)) (ha_ hb_ (x3+1)) z1.2.1.1 z1.2.1.2.1 z1.2.1.2.2.1 else if(decide (y1.1≤2))=true then(aG y1.2.1 y1.2.2.1 z1.2.1.1 z1.2.1.2.1 z1.2.1.2.2.1).bind fun z10=>if(!z10.1.1)=true then some ((5,(ha_ hb_ (x2+1)),()),(z10.2.1,())) else ag x0 x1 (ha_ hb_ (x2+1)) (ha_ hb_ (x3+1)) z10.2.1.1 z10.2.1.2.1 z10.2.1.2.2.1 else ag x0 x1 (ha_ hb_ (x2+1)) (ha_ hb_ (x3+1)) z1.2.1.1 z1.2.1.2.1 z1.2.1.2.2.1 else if(y1.1 == 5)=true then if z2.1.2.1=true then some ((4,(ha_ hb_ (x2+1)),()),(z1.2.1,())) else if(decide (y1.1≤2))=true then(aG y1.2.1 y1.2.2.1 z1.2.1.1 z1.2.1.2.1 z1.2.1.2.2.1).bind fun z11=>if(!z11.1.1)=true then some ((5,(ha_ hb_ (x2+1)),()),(z11.2.1,())) else ag x0 x1 (ha_ hb_ (x2+1)) (ha_ hb_ (x3+1)) z11.2.1.1 z11.2.1.2.1 z11.2.1.2.2.1 else ag x0 x1 (ha_ hb_ (x2+1)) (ha_ hb_ (x3+1)) z1.2.1.1 z1.2.1.2.1 z1.2.1.2.2.1 else if(decide (y1.1≤2))=true then(aG y1.2.1 y1.2.2.1 z1.2.1.1 z1.2.1.2.1 z1.2.1.2.2.1).bind fun z12=>if(!z12.1.1)=true then some ((5,(ha_ hb_ (x2+1)),()),(z12.2.1,())) else ag x0 x1 (ha_ hb_ (x2+1)) (ha_ hb_ (x3+1)) z12.2.1.1 z12.2.1.2.1 z12.2.1.2.2.1 else ag x0 x1 (ha_ hb_ (x2+1)) (ha_ hb_ (x3+1)) z1.2.1.1 z1.2.1.2.1 z1.2.1.2.2.1 else if(y1.1 == 4)=true then if z2.1.2.1=true then if(decide (y1.1≤2))=true then(aG y1.2.1 y1.2.2.1 z1.2.1.1 z1.2.1.2.1 z1.2.1.2.2.1).bind fun z13=>if(!z13.1.1)=true then some ((5,(ha_ hb_ (x2+1)),()),(z13.2.1,())) else ag x0 x1 (ha_ hb_ (x2+1)) (ha_ hb_ ((ha_ hb_ (x3 - (ha_ hb_ (y1.2.2.2.1+1))))+1)) z13.2.1.1 z13.2.1.2.1 z13.2.1.2.2.1 else ag x0 x1 (ha_ hb_ (x2+1)) (ha_ hb_ ((ha_ hb_ (x3 - (ha_ hb_ (y1.2.2.2.1+1))))+1)) z1.2.1.1 z1.2.1.2.1 z1.2.1.2.2.1 else if(y1.1 == 5)=true then if z2.1.2.1=true then some ((4,(ha_ hb_ (x2+1)),()),(z1.2.1,())) else if(decide (y1.1≤2))=true then(aG y1.2.1 y1.2.2.1 z1.2.1.1 z1.2.1.2.1 z1.2.1.2.2.1).bind fun z14=>if(!z14.1.1)=true then some ((5,(ha_ hb_ (x2+1)),()),(z14.2.1,())) else ag x0 x1 (ha_ hb_ (x2+1)) (ha_ hb_ (x3+1)) z14.2.1.1 z14.2.1.2.1 z14.2.1.2.2.1 else ag x0 x1 (ha_ hb_ (x2+1)) (ha_ hb_ (x3+1)) z1.2.1.1 z1.2.1.2.1 z1.2.1.2.2.1 else if(decide (y1.1≤2))=true then(aG y1.2.1 y1.2.2.1 z1.2.1.1 z1.2.1.2.1 z1.2.1.2.2.1).bind fun z15=>if(!z15.1.1)=true then some ((5,(ha_ hb_ (x2+1)),()),(z15.2.1,())) else ag x0 x1 (ha_ hb_ (x2+1)) (ha_ hb_ (x3+1)) z15.2.1.1 z15.2.1.2.1 z15.2.1.2.2.1 else ag x0 x1 (ha_ hb_ (x2+1)) (ha_ hb_ (x3+1)) z1.2.1.1 z1.2.1.2.1 z1.2.1.2.2.1 else if(y1.1 == 5)=true then if z2.1.2.1=true then some ((4,(ha_ hb_ (x2+1)),()),(z1.2.1,())) else if(decide (y1.1≤2))=true then(aG y1.2.1 y1.2.2.1 z1.2.1.1 z1.2.1.2.1 z1.2.1.2.2.1).bind fun z16=>if(!z16.1.1)=true then some ((5,(ha_ hb_ (x2+1)),()),(z16.2.1,())) else ag x0 x1 (ha_ hb_ (x2+1)) (ha_ hb_ (x3+1)) z16.2.1.1 z16.2.1.2.1 z16.2.1.2.2.1 else ag x0 x1 (ha_ hb_ (x2+1)) (ha_ hb_ (x3+1)) z1.2.1.1 z1.2.1.2.1 z1.2.1.2.2.1 else if(decide (y1.1≤2))=true then(aG y1.2.1 y1.2.2.1 z1.2.1.1 z1.2.1.2.1 z1.2.1.2.2.1).bind fun z17=>if(!z17.1.1)=true then some ((5,(ha_ hb_ (x2+1)),()),(z17.2.1,())) else ag x0 x1 (ha_ hb_ (x2+1)) (ha_ hb_ (x3+1)) z17.2.1.1 z17.2.1.2.1 z17.2.1.2.2.1 else ag x0 x1 (ha_ hb_ (x2+1)) (ha_ hb_ (x3+1)) z1.2.1.1 z1.2.1.2.1 z1.2.1.2.2.1 else if(y1.1 == 1)=true then(kR z1.1.1).bind fun z18=>if(decide ((ay_ z18.1.1:Int) > 200))=true then(ii 4).bind fun z19=>if(decide (y1.1≤2))=true then(aG y1.2.1 z19.1.1 z1.2.1.1 z1.2.1.2.1 z1.2.1.2.2.1).bind fun z20=>if(!z20.1.1)=true then some ((5,(ha_ hb_ (x2+1)),()),(z20.2.1,())) else ag x0 x1 (ha_ hb_ (x2+1)) (ha_ hb_ (x3+1)) z20.2.1.1 z20.2.1.2.1 z20.2.1.2.2.1 else ag x0 x1 (ha_ hb_ (x2+1)) (ha_ hb_ (x3+1)) z1.2.1.1 z1.2.1.2.1 z1.2.1.2.2.1 else if(decide (y1.1≤2))=true then(aG y1.2.1 z18.1.1 z1.2.1.1 z1.2.1.2.1 z1.2.1.2.2.1).bind fun z21=>if(!z21.1.1)=true then some ((5,(ha_ hb_ (x2+1)),()),(z21.2.1,())) else ag x0 x1 (ha_ hb_ (x2+1)) (ha_ hb_ (x3+1)) z21.2.1.1 z21.2.1.2.1 z21.2.1.2.2.1 else ag x0 x1 (ha_ hb_ (x2+1)) (ha_ hb_ (x3+1)) z1.2.1.1 z1.2.1.2.1 z1.2.1.2.2.1 else if(y1.1 == 3)=true then if(decide (y1.1≤2))=true then(aG y1.2.1 y1.2.2.1 z1.2.1.1 z1.2.1.2.1 z1.2.1.2.2.1).bind fun z22=>if(!z22.1.1)=true then some ((5,(ha_ hb_ (x2+1)),()),(z22.2.1,())) else ag x0 x1 (ha_ hb_ (x2+1)) (ha_ hb_ ((ha_ hb_ (x3+y1.2.2.2.1))+1)) z22.2.1.1 z22.2.1.2.1 z22.2.1.2.2.1 else ag x0 x1 (ha_ hb_ (x2+1)) (ha_ hb_ ((ha_ hb_ (x3+y1.2.2.2.1))+1)) z1.2.1.1 z1.2.1.2.1 z1.2.1.2.2.1 else if(y1.1 == 4)=true then if(y1.1 == 5)=true then if(decide (y1.1≤2))=true then(aG y1.2.1 y1.2.2.1 z1.2.1.1 z1.2.1.2.1 z1.2.1.2.2.1).bind fun z23=>if(!z23.1.1)=true then some ((5,(ha_ hb_ (x2+1)),()),(z23.2.1,())) else ag x0 x1 (ha_ hb_ (x2+1)) (ha_ hb_ (x3+1)) z23.2.1.1 z23.2.1.2.1 z23.2.1.2.2.1 else ag x0 x1 (ha_ hb_ (x2+1)) (ha_ hb_ (x3+1)) z1.2.1.1 z1.2.1.2.1 z1.2.1.2.2.1 else if(decide (y1.1≤2))=true then(aG y1.2.1 y1.2.2.1 z1.2.1.1 z1.2.1.2.1 z1.2.1.2.2.1).bind fun z24=>if(!z24.1.1)=true then some ((5,(ha_ hb_ (x2+1)),()),(z24.2.1,())) else ag x0 x1 (ha_ hb_ (x2+1)) (ha_ hb_ (x3+1)) z24.2.1.1 z24.2.1.2.1 z24.2.1.2.2.1 else ag x0 x1 (ha_ hb_ (x2+1)) (ha_ hb_ (x3+1)) z1.2.1.1 z1.2.1.2.1 z1.2.1.2.2.1 else if(y1.1 == 5)=true then if(decide (y1.1≤2))=true then(aG y1.2.1 y1.2.2.1 z1.2.1.1 z1.2.1.2.1 z1.2.1.2.2.1).bind fun z25=>if(!z25.1.1)=true then some ((5,(ha_ hb_ (x2+1)),()),(z25.2.1,())) else ag x0 x1 (ha_ hb_ (x2+1)) (ha_ hb_ (x3+1)) z25.2.1.1 z25.2.1.2.1 z25.2.1.2.2.1 else ag x0 x1 (ha_ hb_ (x2+1)) (ha_ hb_ (x3+1)) z1.2.1.1 z1.2.1.2.1 z1.2.1.2.2.1 else if(decide (y1.1≤2))=true then(aG y1.2.1 y1.2.2.1 z1.2.1.1 z1.2.1.2.1 z1.2.1.2.2.1).bind fun z26=>if(!z26.1.1)=true then some ((5,(ha_ hb_ (x2+1)),()),(z26.2.1,())) else ag x0 x1 (ha_ hb_ (x2+1)) (ha_ hb_ (x3+1)) z26.2.1.1 z26.2.1.2.1 z26.2.1.2.2.1 else ag x0 x1 (ha_ hb_ (x2+1)) (ha_ hb_ (x3+1)) z1.2.1.1 z1.2.1.2.1 z1.2.1.2.2.1 else if(decide (y1.1≤2))=true then(aG y1.2.1 y1.2.2.1 x4 x5 x6).bind fun z27=>if(!z27.1.1)=true then some ((5,(ha_ hb_ (x2+1)),()),(z27.2.1,())) else ag x0 x1 (ha_ hb_ (x2+1)) (ha_ hb_ (x3+1)) z27.2.1.1 z27.2.1.2.1 z27.2.1.2.2.1 else ag x0 x1 (ha_ hb_ (x2+1)) (ha_ hb_ (x3+1)) x4 x5 x6 else some ((0,x2,()),((x4,x5,x6,()),())):=bn
theorem yN {x0 x1 x2 x3 x4 x5 x6 x7 x8 x9 x10 x11 x12 x13 x14 x15}:nV x0 x1 x2 x3 x4 x5 x6 x7 x8 x9 x10 x11 x12 x13 x14 x15=if(decide (x2 < (al_ x7:Int)))=true then if x1=true then nV x0 true (ha_ hb_ (x2+1)) x3 x4 x5 x6 x7 x8 x9 x10 x11 x12 x13 x14 x15 else ix x7 x2 (ay.dflt) fun y1=>inb x12 x0 (nV x0 (bk ay y1 (au_ x12 (ap_ x0) (ay.dflt))) (ha_ hb_ (x2+1)) x3 x4 x5 x6 x7 x8 x9 x10 x11 x12 x13 x14 x15) else if(!x1)=true then app ([]:(List am)) x7 32 fun y2=>inb x12 x0 (app y2 ([(au_ x12 (ap_ x0) (ay.dflt))]:(List am)) 32 fun y3=>dT x0 0 x3 x4 x5 x6 x8 x9 x10 x11 x12 y3 x13 x14 x15) else g5 x0 0 x3 x4 x5 x6 x7 x8 x9 x10 x11 x12 x13 x14 x15:=bn
theorem yO {x0 x1 x2 x3 x4 x5}:nW x0 x1 x2 x3 x4 x5=if(decide (x3 < (al_ x5:Int)))=true then if x2=true then nW x0 x1 true (ha_ hb_ (x3+1)) x4 x5 else ix x0 x1 (av.dflt) fun y1=>inb x5 x3 ((po y1.1 (au_ x5 (ap_ x3) (ay.dflt))).bind fun z1=>nW x0 x1 z1.1.1 (ha_ hb_ (x3+1)) x4 x5) else if x2=true then ix x0 x1 (av.dflt) fun y2=>app x4 ([y2.1]:(List ah)) 16 fun y3=>jP x0 (ha_ hb_ (x1+1)) y3 x5 else jP x0 (ha_ hb_ (x1+1)) x4 x5:=bn
theorem wD {x0 x1 x2 x3 x4 x5 x6}:mq x0 x1 x2 x3 x4 x5 x6=if(decide (x2 < (al_ x6:Int)))=true then inb x6 x2 ((nQ x5 (au_ x6 (ap_ x2) (ak.dflt))).bind fun z1=>if(!z1.1.1)=true then inb x6 x2 (app x5 ([(au_ x6 (ap_ x2) (ak.dflt))]:(List ah)) 16 fun y1=>mq x0 x1 (ha_ hb_ (x2+1)) x3 x4 y1 x6) else mq x0 x1 (ha_ hb_ (x2+1)) x3 x4 x5 x6) else ml x0 (ha_ hb_ (x1+1)) x3 x4 x5:=bn
theorem yP {x0 x1 x2 x3 x4 x5 x6 x7}:jQ x0 x1 x2 x3 x4 x5 x6 x7=if(decide (x4 < (al_ x2:Int)))=true then ix x2 x4 (aw.dflt) fun y1=>(po y1.1 (x6,x7,())).bind fun z1=>if z1.1.1=true then ix x2 x4 (aw.dflt) fun y2=>app x5 ([y2.2.1]:(List ac)) 32 fun y3=>jQ x0 x1 x2 x3 (ha_ hb_ (x4+1)) y3 x6 x7 else jQ x0 x1 x2 x3 (ha_ hb_ (x4+1)) x5 x6 x7 else m7 x0 x1 x2 (ha_ hb_ (x3+1)) x5:=bn
theorem Be {x0 x1 x2}:jD x0 x1 x2=if(decide ((al_ x2:Int) > 0))=true then iu x0 0 x1 x2 ([]:(List ah)) else some ((x1,()),()):=bn
theorem kn {x0 x1 x2 x3 x4 x5 x6 x7 x8 x9 x10 x11 x12 x13}:aX x0 x1 x2 x3 x4 x5 x6 x7 x8 x9 x10 x11 x12 x13=if(x8 == 0)=true then if(decide (x6 < (al_ x0:Int)))=true then if(x7 == x1)=true then some (((x5,x6,x7,3,x9,x10,()),()),()) else ix x0 x6 (aW.dflt) fun y1=>if(y1.1 == 2)=true then(iz (x5,(ha_ hb_ (x6+1)),(ha_ hb_ (x7+1)),x8,x9,x10,()) y1.2.1 y1.2.2.1).bind fun z1=>aX x0 x1 x2 x3 x4 z1.1.1.1 z1.1.1.2.1 z1.1.1.2.2.1 z1.1.1.2.2.2.1 z1.1.1.2.2.2.2.1 z1.1.1.2.2.2.2.2.1 x11 x12 x13 else(zV (x5,(ha_ hb_ (x6+1)),(ha_ hb_ (x7+1)),x8,x9,x10,()) y1.2.2.1).bind fun z2=>(we z2.1.1 y1.2.2.1).bind fun z3=>(pp z3.1.1).bind fun z4=>if z4.1.1=true then if(y1.1 == 1)=true then(dY z3.1.1).bind fun z5=>if(decide ((ay_ z5.1.1:Int) > 200))=true then(mV 4).bind fun z6=>(iz z2.1.1 y1.2.1 z6.1.1).bind fun z7=>aX x0 x1 x2 x3 x4 z7.1.1.1 z7.1.1.2.1 z7.1.1.2.2.1 z7.1.1.2.2.2.1 z7.1.1.2.2.2.2.1 z7.1.1.2.2.2.2.2.1 x11 x12 x13 else(iz z2.1.1 y1.2.1 z5.1.1).bind fun z8=>aX x0 x1 x2 x3 x4 z8.1.1.1 z8.1.1.2.1 z8.1.1.2.2.1 z8.1.1.2.2.2.1 z8.1.1.2.2.2.2.1 z8.1.1.2.2.2.2.2.1 x11 x12 x13 else if(y1.1 == 3)=true then if(! (z4.1.2.1.1 == 0))=true then aX x0 x1 x2 x3 x4 z2.1.1.1 (ha_ hb_ (z2.1.1.2.1+y1.2.2.2.1)) z2.1.1.2.2.1 z2.1.1.2.2.2.1 z2.1.1.2.2.2.2.1 z2.1.1.2.2.2.2.2.1 x11 x12 x13 else aX x0 x1 x2 x3 x4 z2.1.1.1 z2.1.1.2.1 z2.1.1.2.2.1 z2.1.1.2.2.2.1 z2.1.1.2.2.2.2.1 z2.1.1.2.2.2.2.2.1 x11 x12 x13 else if(y1.1 == 4)=true then if(z4.1.2.1.1 == 0)=true then aX x0 x1 x2 x3 x4 z2.1.1.1 (ha_ hb_ ((ha_ hb_ (z2.1.1.2.1 - 1)) - y1.2.2.2.1)) z2.1.1.2.2.1 z2.1.1.2.2.2.1 z2.1.1.2.2.2.2.1 z2.1.1.2.2.2.2.2.1 x11 x12 x13 else aX x0 x1 x2 x3 x4 z2.1.1.1 z2.1.1.2.1 z2.1.1.2.2.1 z2.1.1.2.2.2.1 z2.1.1.2.2.2.2.1 z2.1.1.2.2.2.2.2.1 x11 x12 x13 else if(y1.1 == 5)=true then if(z4.1.2.1.1 == 0)=true then aX x0 x1 x2 x3 x4 z2.1.1.1 z2.1.1.2.1 z2.1.1.2.2.1 4 z2.1.1.2.2.2.2.1 z2.1.1.2.2.2.2.2.1 x11 x12 x13 else aX x0 x1 x2 x3 x4 z2.1.1.1 z2.1.1.2.1 z2.1.1.2.2.1 z2.1.1.2.2.2.1 z2.1.1.2.2.2.2.1 z2.1.1.2.2.2.2.2.1 x11 x12 x13 else aX x0 x1 x2 x3 x4 z2.1.1.1 z2.1.1.2.1 z2.1.1.2.2.1 z2.1.1.2.2.2.1 z2.1.1.2.2.2.2.1 z2.1.1.2.2.2.2.2.1 x11 x12 x13 else if(y1.1 == 1)=true then(dY z3.1.1).bind fun z9=>if(decide ((ay_ z9.1.1:Int) > 200))=true then(mV 4).bind fun z10=>(iz z2.1.1 y1.2.1 z10.1.1).bind fun z11=>aX x0 x1 x2 x3 x4 z11.1.1.1 z11.1.1.2.1 z11.1.1.2.2.1 z11.1.1.2.2.2.1 z11.1.1.2.2.2.2.1 z11.1.1.2.2.2.2.2.1 x11 x12 x13 else(iz z2.1.1 y1.2.1 z9.1.1).bind fun z12=>aX x0 x1 x2 x3 x4 z12.1.1.1 z12.1.1.2.1 z12.1.1.2.2.1 z12.1.1.2.2.2.1 z12.1.1.2.2.2.2.1 z12.1.1.2.2.2.2.2.1 x11 x12 x13 else if(y1.1 == 3)=true then aX x0 x1 x2 x3 x4 z2.1.1.1 (ha_ hb_ (z2.1.1.2.1+y1.2.2.2.1)) z2.1.1.2.2.1 z2.1.1.2.2.2.1 z2.1.1.2.2.2.2.1 z2.1.1.2.2.2.2.2.1 x11 x12 x13 else if(y1.1 == 4)=true then aX x0 x1 x2 x3 x4 z2.1.1.1 z2.1.1.2.1 z2.1.1.2.2.1 z2.1.1.2.2.2.1 z2.1.1.2.2.2.2.1 z2.1.1.2.2.2.2.2.1 x11 x12 x13 else if(y1.1 == 5)=true then aX x0 x1 x2 x3 x4 z2.1.1.1 z2.1.1.2.1 z2.1.1.2.2.1 z2.1.1.2.2.2.1 z2.1.1.2.2.2.2.1 z2.1.1.2.2.2.2.2.1 x11 x12 x13 else aX x0 x1 x2 x3 x4 z2.1.1.1 z2.1.1.2.1 z2.1.1.2.2.1 z2.1.1.2.2.2.1 z2.1.1.2.2.2.2.1 z2.1.1.2.2.2.2.2.1 x11 x12 x13 else some (((x5,x6,x7,x8,x9,x10,()),()),()) else some (((x5,x6,x7,x8,x9,x10,()),()),()):=bn
theorem lp {x0 x1 x2 x3}:ee x0 x1 x2 x3=if(decide (x2 < ((al_ x3:Int) - x1)))=true then if(0:Int)≤x2 then if x2 < ((al_ x3:Int) - x1) then if(0:Int)≤(ha_ hb_ (x2 - 1)) then if(ha_ hb_ (x2 - 1)) < ((al_ x3:Int) - x1) then if(! (bk ak (au_ x3 (ap_ (x1+x2)) (ak.dflt)) (au_ x3 (ap_ (x1+(ha_ hb_ (x2 - 1)))) (ak.dflt))))=true then if(0:Int)≤x2 then if x2 < ((al_ x3:Int) - x1) then inb x3 x0 (ee (ha_ hb_ (x0+1)) x1 (ha_ hb_ (x2+1)) (ep_ x3 (ap_ x0) (au_ x3 (ap_ (x1+x2)) (ak.dflt)))) else none else none else ee x0 x1 (ha_ hb_ (x2+1)) x3 else none else none else none else none else if(0:Int)≤x0 then if x0 < (al_ x3:Int) then MG (List.take (ap_ x0) x3++bl_ (al_ x3 - ap_ x0) (ak.dflt)) x0 fun y1=>some ((y1,()),()) else none else none:=bn
theorem Bf {x0 x1 x2 x3 x4 x5 x6}:tK x0 x1 x2 x3 x4 x5 x6=if(decide (x5 < x4))=true then ix x3 x5 (av.dflt) fun y1=>app x6 ([y1.1]:(List ah)) 16 fun y2=>tK x0 x1 x2 x3 x4 (ha_ hb_ (x5+1)) y2 else ql x0 x1 (ha_ hb_ (x2+1)) x6:=bn
theorem px {x0 x1 x2 x3 x4 x5}:gy x0 x1 x2 x3 x4 x5=if(decide (x1 < x0))=true then inb x4 x1 ((dZ x5 (au_ x4 (ap_ x1) (ay.dflt))).bind fun z1=>if(!z1.1.1)=true then app x5 ([(au_ x4 (ap_ x1) (ay.dflt))]:(List am)) 32 fun y1=>gy x0 (ha_ hb_ (x1+1)) x2 x3 x4 y1 else gy x0 (ha_ hb_ (x1+1)) x2 x3 x4 x5) else some ((),((x2,x5,x3,()),())):=bn
theorem ko {x0 x1 x2 x3 x4}:gz x0 x1 x2 x3 x4=if(decide (x1 < x0))=true then(bK x1 x3 x4 x2).bind fun z1=>gz x0 (ha_ hb_ (x1+1)) z1.2.2.2.1 z1.2.2.1 z1.2.1 else some ((x2,()),()):=bn
theorem wE {x0 x1 x2 x3 x4 x5 x6 x7 x8 x9 x10 x11 x12 x13 x14}:dT x0 x1 x2 x3 x4 x5 x6 x7 x8 x9 x10 x11 x12 x13 x14=if(decide (x1 < (al_ x2:Int)))=true then ix x2 x1 (av.dflt) fun y1=>inb x10 x0 ((po y1.1 (au_ x10 (ap_ x0) (ay.dflt))).bind fun z1=>if(!z1.1.1)=true then dT x0 (ha_ hb_ (x1+1)) x2 x3 x4 x5 x6 x7 x8 x9 x10 x11 x12 x13 x14 else ix x2 x1 (av.dflt) fun y2=>(rg y2.2.1).bind fun z2=>iZ x0 x1 0 x2 x3 x4 x5 x6 x7 x8 x9 x10 z2.1.1 x11 x12 x13 x14) else mr (ha_ hb_ (x0+1)) x2 x3 x4 x5 x6 x7 x8 x9 x10 x11 x12 x13 x14:=bn
theorem vi {x0 x1 x2 x3 x4 x5 x6 x7 x8 x9 x10 x11 x12 x13 x14}:g5 x0 x1 x2 x3 x4 x5 x6 x7 x8 x9 x10 x11 x12 x13 x14=if(decide (x1 < (al_ x2:Int)))=true then ix x2 x1 (av.dflt) fun y1=>inb x11 x0 ((po y1.1 (au_ x11 (ap_ x0) (ay.dflt))).bind fun z1=>if(!z1.1.1)=true then g5 x0 (ha_ hb_ (x1+1)) x2 x3 x4 x5 x6 x7 x8 x9 x10 x11 x12 x13 x14 else ix x2 x1 (av.dflt) fun y2=>(rg y2.2.1).bind fun z2=>g6 x0 x1 0 x2 x3 x4 x5 x6 x7 x8 x9 x10 x11 z2.1.1 x12 x13 x14) else lD (ha_ hb_ (x0+1)) x2 x3 x4 x5 x6 x7 x8 x9 x10 x11 x12 x13 x14:=bn
theorem yQ {x0 x1 x2 x3 x4}:iu x0 x1 x2 x3 x4=if(decide (x1 < (al_ x3:Int)))=true then inb x3 x1 ((GJ x0 (au_ x3 (ap_ x1) (ak.dflt))).bind fun z1=>(qg z1.1.1).bind fun z2=>(kN z1.1.1).bind fun z3=>if z2.1.2.1=true then(cF 5).bind fun z4=>inb x3 x1 ((wd x0 (au_ x3 (ap_ x1) (ak.dflt))).bind fun z5=>if(!z5.1.1)=true then inb x3 x1 ((oO x0 (au_ x3 (ap_ x1) (ak.dflt))).bind fun z6=>r7 x0 x1 false 0 x2 x3 x4 z2.1.1 z4.1.1.1 z4.1.1.2.1 z4.1.1.2.2.1 z6.1.1) else inb x3 x1 ((lg x2 ((au_ x3 (ap_ x1) (ak.dflt)),z4.1.1,())).bind fun z7=>iu x0 (ha_ hb_ (x1+1)) z7.1.1 x3 x4)) else inb x3 x1 ((lg x2 ((au_ x3 (ap_ x1) (ak.dflt)),z3.1.1,())).bind fun z8=>iu x0 (ha_ hb_ (x1+1)) z8.1.1 x3 x4)) else jD x0 x2 x4:=bn
theorem wF {x0 x1 x2 x3 x4 x5 x6 x7 x8 x9 x10 x11 x12 x13 x14 x15 x16}:iZ x0 x1 x2 x3 x4 x5 x6 x7 x8 x9 x10 x11 x12 x13 x14 x15 x16=if(decide (x2 < (al_ x12:Int)))=true then mt x0 x1 x2 false 0 x3 x4 x5 x6 x7 x8 x9 x10 x11 x12 x13 x14 x15 x16 else dT x0 (ha_ hb_ (x1+1)) x3 x4 x5 x6 x7 x8 x9 x10 x11 x13 x14 x15 x16:=bn
theorem wG {x0 x1 x2 x3 x4 x5 x6 x7 x8 x9 x10 x11 x12 x13}:mr x0 x1 x2 x3 x4 x5 x6 x7 x8 x9 x10 x11 x12 x13=if(decide (x0 < (al_ x9:Int)))=true then mu x0 false 0 x1 x2 x3 x4 x5 x6 x7 x8 x9 x10 x11 x12 x13 else some (((x1,x2,x3,x4,x10,x5,()),()),()):=bn
theorem vj {x0 x1 x2 x3 x4 x5 x6 x7 x8 x9 x10 x11 x12 x13 x14 x15 x16}:g6 x0 x1 x2 x3 x4 x5 x6 x7 x8 x9 x10 x11 x12 x13 x14 x15 x16=if(decide (x2 < (al_ x13:Int)))=true then lj x0 x1 x2 false 0 x3 x4 x5 x6 x7 x8 x9 x10 x11 x12 x13 x14 x15 x16 else g5 x0 (ha_ hb_ (x1+1)) x3 x4 x5 x6 x7 x8 x9 x10 x11 x12 x14 x15 x16:=bn
theorem yR {x0 x1 x2 x3 x4 x5 x6 x7 x8 x9 x10 x11}:r7 x0 x1 x2 x3 x4 x5 x6 x7 x8 x9 x10 x11=if(decide (x3 < (al_ x11:Int)))=true then if x2=true then r7 x0 x1 true (ha_ hb_ (x3+1)) x4 x5 x6 x7 x8 x9 x10 x11 else QT x5 x1 fun y1=>inb x11 x3 ((nQ y1 (au_ x11 (ap_ x3) (ak.dflt))).bind fun z1=>if z1.1.1=true then fw x0 x1 true (ha_ hb_ (x3+1)) x4 x5 x6 x7 x8 x9 x10 x11 else inb x11 x3 ((nQ x6 (au_ x11 (ap_ x3) (ak.dflt))).bind fun z2=>fw x0 x1 z2.1.1 (ha_ hb_ (x3+1)) x4 x5 x6 x7 x8 x9 x10 x11)) else if x2=true then inb x5 x1 (app x6 ([(au_ x5 (ap_ x1) (ak.dflt))]:(List ah)) 16 fun y2=>iu x0 (ha_ hb_ (x1+1)) x4 x5 y2) else(tE x7 x4).bind fun z3=>inb x5 x1 ((lg x4 ((au_ x5 (ap_ x1) (ak.dflt)),z3.1.1,())).bind fun z4=>iu x0 (ha_ hb_ (x1+1)) z4.1.1 x5 x6):=bn
theorem wH {x0 x1 x2 x3 x4 x5 x6 x7 x8 x9 x10 x11 x12 x13 x14 x15 x16 x17 x18}:mt x0 x1 x2 x3 x4 x5 x6 x7 x8 x9 x10 x11 x12 x13 x14 x15 x16 x17 x18=if(decide (x4 < (al_ x13:Int)))=true then if x3=true then mt x0 x1 x2 true (ha_ hb_ (x4+1)) x5 x6 x7 x8 x9 x10 x11 x12 x13 x14 x15 x16 x17 x18 else inb x13 x4 (inb x14 x2 (mt x0 x1 x2 (bk ay (au_ x13 (ap_ x4) (ay.dflt)) (au_ x14 (ap_ x2) (ay.dflt))) (ha_ hb_ (x4+1)) x5 x6 x7 x8 x9 x10 x11 x12 x13 x14 x15 x16 x17 x18)) else if(!x3)=true then inb x14 x2 (app x13 ([(au_ x14 (ap_ x2) (ay.dflt))]:(List am)) 32 fun y1=>iZ x0 x1 (ha_ hb_ (x2+1)) x5 x6 x7 x8 x9 x10 x11 x12 y1 x14 x15 x16 x17 x18) else iZ x0 x1 (ha_ hb_ (x2+1)) x5 x6 x7 x8 x9 x10 x11 x12 x13 x14 x15 x16 x17 x18:=bn
theorem wI {x0 x1 x2 x3 x4 x5 x6 x7 x8 x9 x10 x11 x12 x13 x14 x15}:mu x0 x1 x2 x3 x4 x5 x6 x7 x8 x9 x10 x11 x12 x13 x14 x15=if(decide (x2 < (al_ x12:Int)))=true then if x1=true then mu x0 true (ha_ hb_ (x2+1)) x3 x4 x5 x6 x7 x8 x9 x10 x11 x12 x13 x14 x15 else inb x12 x2 (inb x11 x0 (mu x0 (bk ay (au_ x12 (ap_ x2) (ay.dflt)) (au_ x11 (ap_ x0) (ay.dflt))) (ha_ hb_ (x2+1)) x3 x4 x5 x6 x7 x8 x9 x10 x11 x12 x13 x14 x15)) else if(!x1)=true then app ([]:(List am)) x12 32 fun y1=>inb x11 x0 (app y1 ([(au_ x11 (ap_ x0) (ay.dflt))]:(List am)) 32 fun y2=>dT x0 0 x3 x4 x5 x6 x7 x8 x9 x10 x11 y2 x13 x14 x15) else dT x0 0 x3 x4 x5 x6 x7 x8 x9 x10 x11 x12 x13 x14 x15:=bn
theorem vk {x0 x1 x2 x3 x4 x5 x6 x7 x8 x9 x10 x11 x12 x13 x14 x15 x16 x17 x18}:lj x0 x1 x2 x3 x4 x5 x6 x7 x8 x9 x10 x11 x12 x13 x14 x15 x16 x17 x18=if(decide (x4 < (al_ x14:Int)))=true then if x3=true then lj x0 x1 x2 true (ha_ hb_ (x4+1)) x5 x6 x7 x8 x9 x10 x11 x12 x13 x14 x15 x16 x17 x18 else inb x14 x4 (inb x15 x2 (lj x0 x1 x2 (bk ay (au_ x14 (ap_ x4) (ay.dflt)) (au_ x15 (ap_ x2) (ay.dflt))) (ha_ hb_ (x4+1)) x5 x6 x7 x8 x9 x10 x11 x12 x13 x14 x15 x16 x17 x18)) else if(!x3)=true then inb x15 x2 (app x14 ([(au_ x15 (ap_ x2) (ay.dflt))]:(List am)) 32 fun y1=>g6 x0 x1 (ha_ hb_ (x2+1)) x5 x6 x7 x8 x9 x10 x11 x12 x13 y1 x15 x16 x17 x18) else g6 x0 x1 (ha_ hb_ (x2+1)) x5 x6 x7 x8 x9 x10 x11 x12 x13 x14 x15 x16 x17 x18:=bn
theorem wJ {x0 x1 x2 x3 x4 x5 x6 x7 x8 x9 x10 x11}:fw x0 x1 x2 x3 x4 x5 x6 x7 x8 x9 x10 x11=if(decide (x3 < (al_ x11:Int)))=true then if x2=true then fw x0 x1 true (ha_ hb_ (x3+1)) x4 x5 x6 x7 x8 x9 x10 x11 else QT x5 x1 fun y1=>inb x11 x3 ((nQ y1 (au_ x11 (ap_ x3) (ak.dflt))).bind fun z1=>if z1.1.1=true then fw x0 x1 true (ha_ hb_ (x3+1)) x4 x5 x6 x7 x8 x9 x10 x11 else inb x11 x3 ((nQ x6 (au_ x11 (ap_ x3) (ak.dflt))).bind fun z2=>fw x0 x1 z2.1.1 (ha_ hb_ (x3+1)) x4 x5 x6 x7 x8 x9 x10 x11)) else if x2=true then ix x5 x1 (ak.dflt) fun y2=>app x6 ([y2]:(List ah)) 16 fun y3=>eH x0 (ha_ hb_ (x1+1)) x4 x5 y3 else(tE x7 x4).bind fun z3=>ix x5 x1 (ak.dflt) fun y4=>(lg x4 (y4,z3.1.1,())).bind fun z4=>eH x0 (ha_ hb_ (x1+1)) z4.1.1 x5 x6:=bn
theorem wK {x0 x1 x2 x3 x4}:eH x0 x1 x2 x3 x4=if(decide (x1 < (al_ x3:Int)))=true then ix x3 x1 (ak.dflt) fun y1=>(GJ x0 y1).bind fun z1=>(qg z1.1.1).bind fun z2=>(kN z1.1.1).bind fun z3=>if z2.1.2.1=true then(cF 5).bind fun z4=>ix x3 x1 (ak.dflt) fun y2=>(wd x0 y2).bind fun z5=>if(!z5.1.1)=true then ix x3 x1 (ak.dflt) fun y3=>(oO x0 y3).bind fun z6=>fw x0 x1 false 0 x2 x3 x4 z2.1.1 z4.1.1.1 z4.1.1.2.1 z4.1.1.2.2.1 z6.1.1 else ix x3 x1 (ak.dflt) fun y4=>(lg x2 (y4,z4.1.1,())).bind fun z7=>eH x0 (ha_ hb_ (x1+1)) z7.1.1 x3 x4 else ix x3 x1 (ak.dflt) fun y5=>(lg x2 (y5,z3.1.1,())).bind fun z8=>eH x0 (ha_ hb_ (x1+1)) z8.1.1 x3 x4 else jD x0 x2 x4:=bn
end Go.Proofs.YthbkdfcmjmmpgaaGreatDoor.Abs
set_option linter.unusedSectionVars false
namespace Go.Proofs.YthbkdfcmjmmpgaaGreatDoor.Abs
open Go
abbrev eS:aa_:=⟨#[]⟩
theorem oQ (a b:Int):(a == b)=decide (a=b):=rfl
def cq (n lo hi:Int):Bool:=decide (lo≤n∧n≤hi)
theorem gj (n lo hi:Int):dJ n lo hi=some ((cq n lo hi,()),()):=by
 rw[S3]
 unfold cq
 by_cases h:lo≤n <;> simp[h]
theorem jR (n lo hi:Int):ig n lo hi=some ((cq n lo hi,()),()):=by
 rw[Xy]
 unfold cq
 by_cases h:lo≤n <;> simp[h]
theorem bC {n lo hi:Int}:cq n lo hi=true↔lo≤n∧n≤hi:=by simp[cq]
def bT (r:ah):Bool:=cq r.1 1 52 && cq r.2.1 1 99
theorem kE (r:ah):dl r=some ((bT r,()),()):=by
 rw[Vj]
 unfold bT
 simp only[jR,ab_]
 cases cq r.1 1 52 <;> simp
theorem sF (r:ah):qa r=some ((bT r,()),()):=by
 rw[Vn]
 unfold bT
 simp only[gj,ab_]
 cases cq r.1 1 52 <;> simp
def qq (a:am):Bool:=bT a.1 && bT a.2.1 && decide (a.1.1≤a.2.1.1) && decide (a.1.2.1≤a.2.1.2.1)
theorem Tz (a:am):Ih a=some ((qq a,()),()):=by
 rw[SW]
 unfold qq
 simp only[kE,ab_]
 cases bT a.1 <;> cases bT a.2.1 <;> by_cases h:a.1.1≤a.2.1.1 <;> simp[h]
theorem TA (a:am):Dx a=some ((qq a,()),()):=by
 rw[S8]
 unfold qq
 simp only[sF,ab_]
 cases bT a.1 <;> cases bT a.2.1 <;> by_cases h:a.1.1≤a.2.1.1 <;> simp[h]
def sG (b:Int):Bool:=decide (32≤b∧b≤126)
def plain (s:aa_):Bool:=(nr s).all sG
theorem Bg {s:aa_} (hs:s.size≤9223372036854775807) : ∀(ys pre:List Int),nr s=pre++ys→rX s (pre.length:Int)=some ((ys.all sG && decide ((s.size:Int)≤200),()),())
 | [],pre,he=>by
  rw[yB,aD (Rj he)]
  simp
 | y :: ys,pre,he=>by
  rw[yB,aI (Vi he),Ct he,Ct he,Nm he hs,Bg hs ys _ (aB he)]
  by_cases h1:y < 32
  ·have:sG y=false:=by simp[sG]; omega
   simp[h1,this]
  ·by_cases h2:y > 126
   ·have:sG y=false:=by simp[sG]; omega
    simp[h1,h2,this]
   ·have:sG y=true:=by simp[sG]; omega
    simp[h1,h2,this]
theorem nZ {s:aa_} (hs:s.size≤9223372036854775807):uO s=some ((plain s && decide ((s.size:Int)≤200),()),()):=by
 rw[PT]
 exact Bg hs (nr s) [] rfl
theorem CF {s:aa_} {m:Int} (hs:s.size≤9223372036854775807) : ∀(ys pre:List Int),nr s=pre++ys→tH s m (s.size:Int) (pre.length:Int)=some ((ys.all sG && decide ((s.size:Int)≤m),()),())
 | [],pre,he=>by
  rw[A7,aD (Rj he)]
  simp
 | y :: ys,pre,he=>by
  rw[A7,aI (Vi he),Ct he,Ct he,Nm he hs,CF hs ys _ (aB he)]
  by_cases h1:y < 32
  ·have:sG y=false:=by simp[sG]; omega
   simp[h1,this]
  ·by_cases h2:y > 126
   ·have:sG y=false:=by simp[sG]; omega
    simp[h1,h2,this]
   ·have:sG y=true:=by simp[sG]; omega
    simp[h1,h2,this]
theorem Ak {s:aa_} {m:Int} (hs:s.size≤9223372036854775807):yj s m=some ((plain s && decide ((s.size:Int)≤m),()),()):=by
 rw[S4]
 exact CF hs (nr s) [] rfl
def aA (v:ac):Bool :=
 if v.1=2 then decide (v.2.1=0) && (plain v.2.2.1 && decide ((v.2.2.1.size:Int)≤200)) else
 decide (v.2.2.1=eS) && (if v.1=0 then decide (v.2.1=0) else if v.1=1 then cq v.2.1 (-1000000000000000) 1000000000000000 else if v.1=3 then cq v.2.1 0 1 else if v.1=4 then cq v.2.1 1 5 else false)
theorem fi {v:ac} (h:v.2.2.1.size≤9223372036854775807):ej v=some ((aA v,()),()):=by
 rw[PV]
 unfold aA
 simp only[jR,nZ h,ab_,bt_,so]
 by_cases h0:v.1=0
 ·by_cases h1:v.2.1=0 <;> simp[h0,h1]
 by_cases h1:v.1=1
 ·cases cq v.2.1 (-1000000000000000) 1000000000000000 <;> simp[h1]
 by_cases h2:v.1=2
 ·by_cases h1:v.2.1=0 <;> simp[h2,h1]
 by_cases h3:v.1=3
 ·cases cq v.2.1 0 1 <;> simp[h3]
 by_cases h4:v.1=4
 ·cases cq v.2.1 1 5 <;> simp[h4]
 simp[h0,h1,h2,h3,h4]
theorem fj {v:ac} (h:v.2.2.1.size≤9223372036854775807):dr v=some ((aA v,()),()):=by
 rw[P3]
 unfold aA
 simp only[gj,Ak h,ab_,bt_,so]
 by_cases h2:v.1=2
 ·by_cases h1:v.2.1=0 <;> simp[h2,h1]
 by_cases he:v.2.2.1=eS
 ·by_cases h0:v.1=0
  ·by_cases h1:v.2.1=0 <;> simp[h0,h1,he]
  by_cases h1:v.1=1
  ·cases cq v.2.1 (-1000000000000000) 1000000000000000 <;> simp[h1,he]
  by_cases h3:v.1=3
  ·cases cq v.2.1 0 1 <;> simp[h3,he]
  by_cases h4:v.1=4
  ·cases cq v.2.1 1 5 <;> simp[h4,he]
  simp[h0,h1,h2,h3,h4,he]
 ·simp[h2,he]
theorem dE {v:ac} (h:aA v=true):v.2.2.1.size≤200:=by
 unfold aA at h
 split at h
 ·simp only[ah_,ai_] at h
  omega
 ·simp only[ah_,ai_] at h
  rw[h.1]
  decide
theorem ca {v:ac} (h:aA v=true):v.2.2.1.size≤9223372036854775807:=Nat.le_trans (dE h) (by decide)
def vN (n:Int):ac:=(1,n,eS,())
def vE (n:Int):ac:=(4,n,eS,())
def vB (b:Bool):ac:=(3,if b=true then 1 else 0,eS,())
def vT (s:aa_):ac:=(2,0,s,())
def v0:ac:=(0,0,eS,())
theorem dA (n:Int):cF n=some ((vE n,()),()):=PW
theorem gC (n:Int):gu n=some ((vE n,()),()):=Vo
theorem ik (n:Int):jo n=some ((vN n,()),()):=S5
theorem tN (b:Bool):jp b=some ((vB b,()),()):=by
 rw[Ti]
 cases b <;> rfl
theorem mw (b:Bool):mg b=some ((vB b,()),()):=by
 rw[Vp]
 cases b <;> rfl
def bnd (n:Int):ac:=if cq n (-1000000000000000) 1000000000000000=true then vN n else vE 4
theorem kF (n:Int):iT n=some ((bnd n,()),()):=by
 rw[Vx]
 unfold bnd
 simp only[jR,dA,ab_]
 cases cq n (-1000000000000000) 1000000000000000 <;> rfl
theorem r8 (n:Int):oK n=some ((bnd n,()),()):=by
 rw[Qc]
 unfold bnd
 simp only[gj,gC,ik,ab_]
 cases cq n (-1000000000000000) 1000000000000000 <;> rfl
def g7 (v:ac):ac:=if aA v=true then(if v.1=4 then v else vE 2) else vE 2
theorem eU {v:ac} (h:v.2.2.1.size≤9223372036854775807):jA v=some ((g7 v,()),()):=by
 rw[XC]
 unfold g7
 simp only[fj h,gC,ab_,bt_]
 cases aA v
 ·rfl
 ·by_cases h4:v.1=4 <;> simp[h4]
def cJ (v:ac):Bool:=aA v && (decide (v.1=0) || decide (v.1=1))
theorem eI {v:ac} (h:v.2.2.1.size≤9223372036854775807):gx v=some ((v.2.1,cJ v,()),()):=by
 rw[NA]
 unfold cJ
 simp only[fj h,ab_,bt_]
 cases aA v
 ·rfl
 ·by_cases h0:v.1=0
  ·simp[h0]
  ·simp[h0,oQ]
theorem CG {v:ac} (h:v.2.2.1.size≤9223372036854775807):Cn v=some ((if cJ v=true then v.2.1 else 0,if cJ v=true then v0 else g7 v,()),()):=by
 rw[Vw]
 unfold cJ g7
 simp only[fi h,dA,ab_,bt_]
 cases aA v
 ·rfl
 ·by_cases h0:v.1=0
  ·simp[h0,v0]
  ·by_cases h1:v.1=1
   ·simp[h1,v0]
   ·by_cases h4:v.1=4 <;> simp[h0,h1,h4]
theorem cI (v:ac):(g7 v).1=4:=by
 unfold g7
 split
 ·split
  ·assumption
  ·rfl
 ·rfl
theorem cu {v:ac} (h:cJ v=true) : -1000000000000000≤v.2.1∧v.2.1≤1000000000000000:=by
 unfold cJ aA at h
 by_cases h2:v.1=2
 ·simp[h2] at h
 ·rw[if_neg h2] at h
  simp only[ah_,Bool.or_eq_true,ai_] at h
  obtain⟨⟨_,h⟩,h0 | h1⟩:=h
  ·rw[if_pos h0] at h
   simp only[ai_] at h
   omega
  ·rw[if_neg (by omega),if_pos h1] at h
   exact bC.1 h
def qP (f:Int→Int→ac) (a b:ac):ac:=if cJ a=true then(if cJ b=true then f a.2.1 b.2.1 else g7 b) else g7 a
def jS:=qP fun x y=>bnd (x+y)
def Al:=qP fun x y=>bnd (x - y)
def IQ:=qP fun x y=>if y=0 then vE 1 else bnd (dn_ x y)
def Fq (a:ac):ac:=Al v0 a
theorem wL {a b:ac} (ha:a.2.2.1.size≤9223372036854775807) (hb:b.2.2.1.size≤9223372036854775807):ym a b=some ((if cJ a=true then(if cJ b=true then(a.2.1,b.2.1,v0,()) else(a.2.1,0,g7 b,())) else(0,0,g7 a,())),()):=by
 rw[Vy]
 simp only[CG ha,CG hb,ab_,bne_iff_ne,ne_eq]
 cases ia:cJ a
 ·have:=cI a
  simp[this]
 ·cases ib:cJ b <;> simp[v0]
theorem Am {x y:Int} (hx : -1000000000000000≤x∧x≤1000000000000000) (hy:y≠0) : -1000000000000000≤dn_ x y∧dn_ x y≤1000000000000000:=by
 have h1:(dn_ x y).natAbs≤x.natAbs:=by
  rw[Int.natAbs_tdiv]
  exact Nat.div_le_self _ _
 omega
section
variable {a b:ac} (ha:a.2.2.1.size≤9223372036854775807) (hb:b.2.2.1.size≤9223372036854775807)
include ha hb
theorem IR:Fe a b=some ((jS a b,()),()):=by
 rw[Zw]
 unfold jS qP
 simp only[wL ha hb,kF,ab_,bne_iff_ne,ne_eq]
 cases ia:cJ a
 ·have:=cI a
  simp[this]
 ·cases ib:cJ b
  ·have:=cI b
   simp[this]
  ·have h1:=cu ia
   have h2:=cu ib
   simp[v0,wr (n:=a.2.1+b.2.1) (by omega) (by omega)]
theorem XO:Sz a b=some ((Al a b,()),()):=by
 rw[XJ]
 unfold Al qP
 simp only[wL ha hb,kF,ab_,bne_iff_ne,ne_eq]
 cases ia:cJ a
 ·have:=cI a
  simp[this]
 ·cases ib:cJ b
  ·have:=cI b
   simp[this]
  ·have h1:=cu ia
   have h2:=cu ib
   simp[v0,wr (n:=a.2.1 - b.2.1) (by omega) (by omega)]
theorem IT:M1 a b=some ((jS a b,()),()):=by
 rw[Zv,Bs]
 unfold jS qP
 simp only[eI ha,eI hb,eU ha,eU hb,VC,r8,ab_]
 cases ia:cJ a
 ·simp
 ·cases ib:cJ b
  ·simp
  ·have h1:=cu ia
   have h2:=cu ib
   simp[wr (n:=a.2.1+b.2.1) (by omega) (by omega)]
theorem Fs:LW a b=some ((Al a b,()),()):=by
 rw[XD,Ag]
 unfold Al qP
 simp only[eI ha,eI hb,eU ha,eU hb,Tb,r8,ab_]
 cases ia:cJ a
 ·simp
 ·cases ib:cJ b
  ·simp
  ·have h1:=cu ia
   have h2:=cu ib
   simp[wr (n:=a.2.1 - b.2.1) (by omega) (by omega)]
theorem XP:SA a b=some ((IQ a b,()),()):=by
 rw[XK]
 unfold IQ qP
 simp only[wL ha hb,kF,dA,ab_,bne_iff_ne,ne_eq,bt_]
 cases ia:cJ a
 ·have:=cI a
  simp[this]
 ·cases ib:cJ b
  ·have:=cI b
   simp[this]
  ·have h1:=cu ia
   by_cases h0:b.2.1=0
   ·simp[v0,h0]
   ·have h2:=Am h1 h0
    simp[v0,h0,GU,wr (n:=dn_ a.2.1 b.2.1) (by omega) (by omega)]
theorem NK:Sx a b=some ((IQ a b,()),()):=by
 rw[XE,Ah]
 unfold IQ qP
 simp only[eI ha,eI hb,eU ha,eU hb,Tx,r8,gC,ab_,bt_]
 cases ia:cJ a
 ·simp
 ·cases ib:cJ b
  ·simp
  ·have h1:=cu ia
   by_cases h0:b.2.1=0
   ·simp[h0]
   ·have h2:=Am h1 h0
    simp[h0,GU,wr (n:=dn_ a.2.1 b.2.1) (by omega) (by omega)]
end
end Go.Proofs.YthbkdfcmjmmpgaaGreatDoor.Abs
