/- What the functions say: equations. Printed by out.py. -/
import Derived.Test.YtnodjiikdgmeaaaGreatDoorZQAD
import Derived.Test.YtnodjiikdgmeaaaGreatDoorZM2
import Derived.Test.YtnodjiikdgmeaaaGreatDoorZM3
set_option linter.unusedVariables false
set_option linter.unusedSimpArgs false
set_option maxRecDepth 100000
namespace Go.Proofs.YtnodjiikdgmeaaaGreatDoor.Abs
open Go Go.Proofs.YtnodjiikdgmeaaaGreatDoor
theorem vo {x0 x1}:fb x0 x1=if(decide (x1 < (List.length x0:Int)))=true then(ix x0 x1 (aj.dflt) fun y1=>((wq y1).bind fun z1=>(if(!z1.1.1)=true then(some ((false,()),(()))) else(lr x0 x1 0)))) else((yi x0 (IntKind.i64.wrap ((List.length x0:Int) - 1))).bind fun z2=>(if(z2.1.1 == 0)=true then(ix x0 (IntKind.i64.wrap ((List.length x0:Int) - 1)) (aj.dflt) fun y2=>(if(y2.1 != 3)=true then((yj x0 (IntKind.i64.wrap ((List.length x0:Int) - 1))).bind fun z3=>(some (((decide (z3.1.1≤12)),()),(())))) else(some ((false,()),(()))))) else(some ((false,()),(()))))):=bn (by kernel_rfl)
theorem yH {x0 x1 x2}:ob x0 x1 x2=if(decide (x2 < (ByteArray.size x0:Int)))=true then(eF x0 x2 fun y1=>(if(y1 == 34)=true then(cats x1 (⟨#[34]⟩:ByteArray) fun y2=>(wb x0 x2 (IntKind.i64.wrap (x2+1)) fun y3=>(cats y2 y3 fun y4=>(ob x0 y4 (IntKind.i64.wrap (x2+1)))))) else(wb x0 x2 (IntKind.i64.wrap (x2+1)) fun y5=>(cats x1 y5 fun y6=>(ob x0 y6 (IntKind.i64.wrap (x2+1))))))) else(cats x1 (⟨#[34]⟩:ByteArray) fun y7=>(some ((y7,()),(())))):=bn (by kernel_rfl)
theorem yI {x0 x1 x2 x3 x4 x5 x6 x7 x8}:oc x0 x1 x2 x3 x4 x5 x6 x7 x8=if(decide (x2 < (List.length x8:Int)))=true then(if(decide (x2 > 0))=true then(cats x1 (⟨#[44]⟩:ByteArray) fun y1=>(ix x8 x2 0 fun y2=>((nh x0 y2 0).bind fun z1=>(cats y1 z1.1.1 fun y3=>(oc x0 y3 (IntKind.i64.wrap (x2+1)) x3 x4 x5 x6 x7 x8))))) else(ix x8 x2 0 fun y4=>((nh x0 y4 0).bind fun z2=>(cats x1 z2.1.1 fun y5=>(oc x0 y5 (IntKind.i64.wrap (x2+1)) x3 x4 x5 x6 x7 x8))))) else(cats x1 (⟨#[41]⟩:ByteArray) fun y6=>(some ((y6,()),(())))):=bn (by kernel_rfl)
theorem GS {x0 x1 x2 x3 x4}:kz x0 x1 x2 x3 x4=if(decide ((ByteArray.size x0:Int) > 1))=true then(eF x0 0 fun y1=>(if(y1 == 48)=true then(iT x0 1 fun y2=>(kz y2 x1 x2 x3 x4)) else((dn x0 16).bind fun z1=>(if x1=true then(if z1.1.2.1=true then((eI (1,(IntKind.i64.wrap (0 - z1.1.1)),(⟨#[]⟩:ByteArray),())).bind fun z2=>(some (((1,(IntKind.i64.wrap (0 - z1.1.1)),(⟨#[]⟩:ByteArray),()),z2.1.1,()),(())))) else(some (((1,(IntKind.i64.wrap (0 - z1.1.1)),(⟨#[]⟩:ByteArray),()),false,()),(())))) else(if z1.1.2.1=true then((eI (1,z1.1.1,(⟨#[]⟩:ByteArray),())).bind fun z3=>(some (((1,z1.1.1,(⟨#[]⟩:ByteArray),()),z3.1.1,()),(())))) else(some (((1,z1.1.1,(⟨#[]⟩:ByteArray),()),false,()),(())))))))) else((dn x0 16).bind fun z4=>(if x1=true then(if z4.1.2.1=true then((eI (1,(IntKind.i64.wrap (0 - z4.1.1)),(⟨#[]⟩:ByteArray),())).bind fun z5=>(some (((1,(IntKind.i64.wrap (0 - z4.1.1)),(⟨#[]⟩:ByteArray),()),z5.1.1,()),(())))) else(some (((1,(IntKind.i64.wrap (0 - z4.1.1)),(⟨#[]⟩:ByteArray),()),false,()),(())))) else(if z4.1.2.1=true then((eI (1,z4.1.1,(⟨#[]⟩:ByteArray),())).bind fun z6=>(some (((1,z4.1.1,(⟨#[]⟩:ByteArray),()),z6.1.1,()),(())))) else(some (((1,z4.1.1,(⟨#[]⟩:ByteArray),()),false,()),(())))))):=bn (by kernel_rfl)
theorem yJ {x0 x1}:oe x0 x1=if(decide (x1 < (List.length x0:Int)))=true then(ix x0 x1 (ap.dflt) fun y1=>((rl y1.2.1).bind fun z1=>(ix x0 x1 (ap.dflt) fun y2=>((eG y2.1).bind fun z2=>(if(!z2.1.1)=true then(some ((false,()),(()))) else(if(!z1.1.2.1)=true then(some ((false,()),(()))) else(ix x0 x1 (ap.dflt) fun y3=>(if(ByteArray.toList y3.2.1 == ByteArray.toList (⟨#[]⟩:ByteArray))=true then(some ((false,()),(()))) else(ix x0 x1 (ap.dflt) fun y4=>(if(!(ByteArray.toList z1.1.1 == ByteArray.toList y4.2.1))=true then(some ((false,()),(()))) else(if(decide (x1 > 0))=true then(ix x0 (IntKind.i64.wrap (x1 - 1)) (ap.dflt) fun y5=>(ix x0 x1 (ap.dflt) fun y6=>((oS y5.1 y6.1).bind fun z3=>(if(!z3.1.1)=true then(some ((false,()),(()))) else(oe x0 (IntKind.i64.wrap (x1+1))))))) else(oe x0 (IntKind.i64.wrap (x1+1)))))))))))))) else(some ((true,()),(()))):=bn (by kernel_rfl)
theorem qv {x0 x1 x2 x3 x4 x5 x6}:iu x0 x1 x2 x3 x4 x5 x6=if(decide (x3 < (List.length x0:Int)))=true then(if(!x2)=true then(ix x0 x3 (ap.dflt) fun y1=>((oS y1.1 (x4,x5,())).bind fun z1=>(if(!z1.1.1)=true then(app x6 ([((x4,x5,()),x1,())]:(List ae)) 32 fun y2=>(ix x0 x3 (ap.dflt) fun y3=>(if(!(bv am y3.1 (x4,x5,())))=true then(ix x0 x3 (ap.dflt) fun y4=>(app y2 ([y4]:(List ae)) 32 fun y5=>(iu x0 x1 true (IntKind.i64.wrap (x3+1)) x4 x5 y5))) else(iu x0 x1 true (IntKind.i64.wrap (x3+1)) x4 x5 y2)))) else(ix x0 x3 (ap.dflt) fun y6=>(if(!(bv am y6.1 (x4,x5,())))=true then(ix x0 x3 (ap.dflt) fun y7=>(app x6 ([y7]:(List ae)) 32 fun y8=>(iu x0 x1 x2 (IntKind.i64.wrap (x3+1)) x4 x5 y8))) else(iu x0 x1 x2 (IntKind.i64.wrap (x3+1)) x4 x5 x6)))))) else(ix x0 x3 (ap.dflt) fun y9=>(if(!(bv am y9.1 (x4,x5,())))=true then(ix x0 x3 (ap.dflt) fun y10=>(app x6 ([y10]:(List ae)) 32 fun y11=>(iu x0 x1 x2 (IntKind.i64.wrap (x3+1)) x4 x5 y11))) else(iu x0 x1 x2 (IntKind.i64.wrap (x3+1)) x4 x5 x6)))) else(if(!x2)=true then(app x6 ([((x4,x5,()),x1,())]:(List ae)) 32 fun y12=>(some ((y12,()),(())))) else(some ((x6,()),(())))):=bn (by kernel_rfl)
theorem tG {x0 x1 x2}:kA x0 x1 x2=if(decide (x0 > 0))=true then((ef x1).bind fun z1=>((jW z1.2.1).bind fun z2=>((yk x2 z1.1.1 z2.1.1).bind fun z3=>(if z3.1.2.1=true then(kA (IntKind.i64.wrap (x0 - 1)) z2.2.1 z3.1.1) else(kA (IntKind.i64.wrap (x0 - 1)) z2.2.1 x2))))) else((cy 40 x1).bind fun z4=>(if z4.1.1=true then((ef z4.2.1).bind fun z5=>((jW z5.2.1).bind fun z6=>(app x2 ([(z5.1.1,z6.1.1,())]:(List ae)) 32 fun y1=>(some ((y1,()),(z6.2.1,())))))) else(some ((x2,()),(z4.2.1,()))))):=bn (by kernel_rfl)
theorem vp {x0 x1 x2 x3}:oD x0 x1 x2 x3=if(decide (x3 < x2))=true then(ix x1 x3 0 fun y1=>(if(y1 != x0)=true then(some ((y1,()),(()))) else(oD x0 x1 x2 (IntKind.i64.wrap (x3+1))))) else(some ((x0,()),(()))):=bn (by kernel_rfl)
theorem A4 {x0 x1 x2 x3}:t8 x0 x1 x2 x3=if(decide (x3 < x2))=true then(eF x0 x3 fun y1=>(if(decide (y1 < 32))=true then(some ((false,()),(()))) else(eF x0 x3 fun y2=>(if(decide (y2 > 126))=true then(some ((false,()),(()))) else(t8 x0 x1 x2 (IntKind.i64.wrap (x3+1))))))) else(some (((decide ((ByteArray.size x0:Int)≤x1)),()),(()))):=bn (by kernel_rfl)
theorem sU {x0 x1 x2 x3 x4 x5}:l4 x0 x1 x2 x3 x4 x5=if(decide (x1 < x0))=true then(inb x4 x1 ((eJ x2 (List.getD x4 (Int.toNat x1) (⟨#[]⟩:ByteArray))).bind fun z1=>(if z1.1.1=true then(some (((List.getD x4 (Int.toNat x1) (⟨#[]⟩:ByteArray)),()),((x2,x5,x3,()),()))) else(l4 x0 (IntKind.i64.wrap (x1+1)) x2 x3 x4 x5)))) else(some (((⟨#[]⟩:ByteArray),()),((x2,x5,x3,()),()))):=bn (by kernel_rfl)
theorem Ag {x0 x1 x2 x3 x4}:kj x0 x1 x2 x3 x4=(strings_Cut x1 (⟨#[34]⟩:ByteArray)).bind fun z1=>(if(!z1.1.2.2.1)=true then(some (((-1),()),((x2,x4,true,()),()))) else(cats x0 z1.1.1 fun y1=>((eJ z1.1.2.1 (⟨#[34]⟩:ByteArray)).bind fun z2=>(if(!z2.1.1)=true then((bO (2,0,y1,()) z1.1.2.1 x3 x4).bind fun z3=>(some ((z3.1.1,()),(z3.2.1,())))) else(cats y1 (⟨#[34]⟩:ByteArray) fun y2=>(iT z1.1.2.1 1 fun y3=>(kj y2 y3 x2 x3 x4))))))):=bn (by kernel_rfl)
theorem vq {x0 x1 x2 x3 x4 x5 x6 x7}:g8 x0 x1 x2 x3 x4 x5 x6 x7=if(decide (x1≤5))=true then((qc x1).bind fun z1=>(if(ByteArray.toList z1.1.1 == ByteArray.toList x0)=true then((fI x1).bind fun z2=>(g8 x0 (IntKind.i64.wrap (x1+1)) x2 x3 x4 z2.1.1.1 z2.1.1.2.1 z2.1.1.2.2.1)) else(g8 x0 (IntKind.i64.wrap (x1+1)) x2 x3 x4 x5 x6 x7))) else((dc (x5,x6,x7,())).bind fun z3=>(if(!z3.1.1)=true then(some (((0,0,(⟨#[]⟩:ByteArray),()),false,()),(()))) else((fJ (x5,x6,x7,())).bind fun z4=>(if(!(ByteArray.toList z4.1.1 == ByteArray.toList x0))=true then(some (((0,0,(⟨#[]⟩:ByteArray),()),false,()),(()))) else(some (((x5,x6,x7,()),true,()),(()))))))):=bn (by kernel_rfl)
theorem Ib {x0 x1}:xr x0 x1=if(decide (x1≤52))=true then((rm x1).bind fun z1=>(if(ByteArray.toList z1.1.1 == ByteArray.toList x0)=true then(some ((x1,()),(()))) else(xr x0 (IntKind.i64.wrap (x1+1))))) else(some ((0,()),(()))):=bn (by kernel_rfl)
theorem fN {x0 x1 x2 x3 x4 x5}:cw x0 x1 x2 x3 x4 x5=if(!x4)=true then(cx x0 x1 x2 0 1 x3 x4 x5) else(some ((x2,()),((x3,x5,x4,()),()))):=bn (by kernel_rfl)
theorem Cb {x0 x1 x2 x3 x4 x5}:wB x0 x1 x2 x3 x4 x5=if(!x3)=true then((kY x2 x3 x4).bind fun z1=>(if z1.1.2.1=true then((aG z1.1.1 z1.2.1.1 z1.2.1.2.2.1 z1.2.1.2.1).bind fun z2=>(app x5 ([z2.1.1]:(List Int)) 8 fun y1=>((bi (⟨#[44]⟩:ByteArray) z2.2.1.1 z2.2.1.2.2.1 z2.2.1.2.1).bind fun z3=>(if(!z3.1.1)=true then(if z3.2.1.2.2.1=true then((aG (6,x0,(0,0,(⟨#[]⟩:ByteArray),()),((0,0,()),false,false,()),((0,0,()),false,false,()),y1,()) z3.2.1.1 true z3.2.1.2.1).bind fun z4=>(some ((z4.1.1,()),(z4.2.1,())))) else((bi (⟨#[41]⟩:ByteArray) z3.2.1.1 z3.2.1.2.2.1 z3.2.1.2.1).bind fun z5=>((aG (6,x0,(0,0,(⟨#[]⟩:ByteArray),()),((0,0,()),false,false,()),((0,0,()),false,false,()),y1,()) z5.2.1.1 (!z5.1.1) z5.2.1.2.1).bind fun z6=>(some ((z6.1.1,()),(z6.2.1,())))))) else(bZ x0 x1 z3.2.1.1 z3.2.1.2.2.1 y1 z3.2.1.2.1))))) else((bo 1 (IntKind.i64.wrap (x1+1)) z1.2.1.1 z1.2.1.2.2.1 z1.2.1.2.1).bind fun z7=>(app x5 ([z7.1.1]:(List Int)) 8 fun y2=>((bi (⟨#[44]⟩:ByteArray) z7.2.1.1 z7.2.1.2.2.1 z7.2.1.2.1).bind fun z8=>(if(!z8.1.1)=true then(if z8.2.1.2.2.1=true then((aG (6,x0,(0,0,(⟨#[]⟩:ByteArray),()),((0,0,()),false,false,()),((0,0,()),false,false,()),y2,()) z8.2.1.1 true z8.2.1.2.1).bind fun z9=>(some ((z9.1.1,()),(z9.2.1,())))) else((bi (⟨#[41]⟩:ByteArray) z8.2.1.1 z8.2.1.2.2.1 z8.2.1.2.1).bind fun z10=>((aG (6,x0,(0,0,(⟨#[]⟩:ByteArray),()),((0,0,()),false,false,()),((0,0,()),false,false,()),y2,()) z10.2.1.1 (!z10.1.1) z10.2.1.2.1).bind fun z11=>(some ((z11.1.1,()),(z11.2.1,())))))) else(bZ x0 x1 z8.2.1.1 z8.2.1.2.2.1 y2 z8.2.1.2.1))))))) else((aG (6,x0,(0,0,(⟨#[]⟩:ByteArray),()),((0,0,()),false,false,()),((0,0,()),false,false,()),x5,()) x2 x3 x4).bind fun z12=>(some ((z12.1.1,()),(z12.2.1,())))):=bn (by kernel_rfl)
theorem jg {x0 x1 x2 x3 x4 x5}:bZ x0 x1 x2 x3 x4 x5=if(!x3)=true then((kY x2 x3 x5).bind fun z1=>(if z1.1.2.1=true then((aG z1.1.1 z1.2.1.1 z1.2.1.2.2.1 z1.2.1.2.1).bind fun z2=>(app x4 ([z2.1.1]:(List Int)) 8 fun y1=>((bi (⟨#[44]⟩:ByteArray) z2.2.1.1 z2.2.1.2.2.1 z2.2.1.2.1).bind fun z3=>(if(!z3.1.1)=true then(if z3.2.1.2.2.1=true then((aG (6,x0,(0,0,(⟨#[]⟩:ByteArray),()),((0,0,()),false,false,()),((0,0,()),false,false,()),y1,()) z3.2.1.1 true z3.2.1.2.1).bind fun z4=>(some ((z4.1.1,()),(z4.2.1,())))) else((bi (⟨#[41]⟩:ByteArray) z3.2.1.1 z3.2.1.2.2.1 z3.2.1.2.1).bind fun z5=>((aG (6,x0,(0,0,(⟨#[]⟩:ByteArray),()),((0,0,()),false,false,()),((0,0,()),false,false,()),y1,()) z5.2.1.1 (!z5.1.1) z5.2.1.2.1).bind fun z6=>(some ((z6.1.1,()),(z6.2.1,())))))) else(bZ x0 x1 z3.2.1.1 z3.2.1.2.2.1 y1 z3.2.1.2.1))))) else((bo 1 (IntKind.i64.wrap (x1+1)) z1.2.1.1 z1.2.1.2.2.1 z1.2.1.2.1).bind fun z7=>(app x4 ([z7.1.1]:(List Int)) 8 fun y2=>((bi (⟨#[44]⟩:ByteArray) z7.2.1.1 z7.2.1.2.2.1 z7.2.1.2.1).bind fun z8=>(if(!z8.1.1)=true then(if z8.2.1.2.2.1=true then((aG (6,x0,(0,0,(⟨#[]⟩:ByteArray),()),((0,0,()),false,false,()),((0,0,()),false,false,()),y2,()) z8.2.1.1 true z8.2.1.2.1).bind fun z9=>(some ((z9.1.1,()),(z9.2.1,())))) else((bi (⟨#[41]⟩:ByteArray) z8.2.1.1 z8.2.1.2.2.1 z8.2.1.2.1).bind fun z10=>((aG (6,x0,(0,0,(⟨#[]⟩:ByteArray),()),((0,0,()),false,false,()),((0,0,()),false,false,()),y2,()) z10.2.1.1 (!z10.1.1) z10.2.1.2.1).bind fun z11=>(some ((z11.1.1,()),(z11.2.1,())))))) else(bZ x0 x1 z8.2.1.1 z8.2.1.2.2.1 y2 z8.2.1.2.1))))))) else((aG (6,x0,(0,0,(⟨#[]⟩:ByteArray),()),((0,0,()),false,false,()),((0,0,()),false,false,()),x4,()) x2 x3 x5).bind fun z12=>(some ((z12.1.1,()),(z12.2.1,())))):=bn (by kernel_rfl)
theorem sV {x0 x1 x2 x3 x4}:d7 x0 x1 x2 x3 x4=if(decide (x1≤5))=true then((qc x1).bind fun z1=>((cu x2 z1.1.1).bind fun z2=>(if z2.1.2.1=true then((fI x1).bind fun z3=>((bO z3.1.1 z2.1.1 x3 x4).bind fun z4=>(some ((z4.1.1,()),(z4.2.1,()))))) else(d7 x0 (IntKind.i64.wrap (x1+1)) x2 x3 x4)))) else((kw x2 x3 x4).bind fun z5=>((dZ z5.1.1).bind fun z6=>(if z6.1.2.1=true then(if(z6.1.1.1 == 1)=true then((bO z6.1.1 z5.2.1.1 z5.2.1.2.2.1 z5.2.1.2.1).bind fun z7=>(some ((z7.1.1,()),(z7.2.1,())))) else(if(z6.1.1.1 == 3)=true then((bO z6.1.1 z5.2.1.1 z5.2.1.2.2.1 z5.2.1.2.1).bind fun z8=>(some ((z8.1.1,()),(z8.2.1,())))) else((im z5.1.1).bind fun z9=>(if z9.1.2.1=true then((aG (2,0,(0,0,(⟨#[]⟩:ByteArray),()),z9.1.1,((0,0,()),false,false,()),([]:(List Int)),()) z5.2.1.1 z5.2.1.2.2.1 z5.2.1.2.1).bind fun z10=>(some ((z10.1.1,()),(z10.2.1,())))) else(en x0 z5.1.1 1 z5.2.1.1 z5.2.1.2.2.1 z5.2.1.2.1))))) else((im z5.1.1).bind fun z11=>(if z11.1.2.1=true then((aG (2,0,(0,0,(⟨#[]⟩:ByteArray),()),z11.1.1,((0,0,()),false,false,()),([]:(List Int)),()) z5.2.1.1 z5.2.1.2.2.1 z5.2.1.2.1).bind fun z12=>(some ((z12.1.1,()),(z12.2.1,())))) else(en x0 z5.1.1 1 z5.2.1.1 z5.2.1.2.2.1 z5.2.1.2.1)))))):=bn (by kernel_rfl)
theorem qR {x0 x1 x2 x3 x4 x5}:en x0 x1 x2 x3 x4 x5=if(decide (x2≤10))=true then((Db x2).bind fun z1=>(if(ByteArray.toList x1 == ByteArray.toList z1.1.1)=true then((gG x2 x0 x3 x4 x5).bind fun z2=>(some ((z2.1.1,()),(z2.2.1,())))) else(en x0 x1 (IntKind.i64.wrap (x2+1)) x3 x4 x5))) else(some (((-1),()),((x3,x5,true,()),()))):=bn (by kernel_rfl)
theorem Ep {x0 x1 x2 x3 x4}:rp x0 x1 x2 x3 x4=if(decide (x4≥0))=true then(ix x0 x1 (aj.dflt) fun y1=>(ix y1.2.2.2.2.2.1 x4 0 fun y2=>(if(y2 != (IntKind.i64.wrap (x3 - 1)))=true then(some (((-1),()),(()))) else(if(decide (y2 < 0))=true then(some (((-1),()),(()))) else(ix x0 y2 (aj.dflt) fun y3=>(if(y3.1 == 3)=true then(ix x0 x1 (aj.dflt) fun y4=>(if(y4.1 != 6)=true then(some (((-1),()),(()))) else((zR x0 y2 (IntKind.i64.wrap (x2+1))).bind fun z1=>(if(decide (z1.1.1 < 0))=true then(some (((-1),()),(()))) else(rp x0 x1 x2 z1.1.1 (IntKind.i64.wrap (x4 - 1))))))) else((zR x0 y2 (IntKind.i64.wrap (x2+1))).bind fun z2=>(if(decide (z2.1.1 < 0))=true then(some (((-1),()),(()))) else(rp x0 x1 x2 z2.1.1 (IntKind.i64.wrap (x4 - 1))))))))))) else(some ((x3,()),(()))):=bn (by kernel_rfl)
theorem qS {x0 x1 x2 x3 x4 x5 x6 x7 x8 x9 x10}:k7 x0 x1 x2 x3 x4 x5 x6 x7 x8 x9 x10=if(decide (x3 < x2))=true then(ix x1 x3 0 fun y1=>((gH x0 y1 1).bind fun z1=>(app x10 ([z1.1.1]:(List ByteArray)) 16 fun y2=>(k7 x0 x1 x2 (IntKind.i64.wrap (x3+1)) x4 x5 x6 x7 x8 x9 y2)))) else((Db x5).bind fun z2=>(cats z2.1.1 (⟨#[40]⟩:ByteArray) fun y3=>((strings_Join x10 (⟨#[44]⟩:ByteArray)).bind fun z3=>(cats y3 z3.1.1 fun y4=>(cats y4 (⟨#[41]⟩:ByteArray) fun y5=>(some ((y5,()),(())))))))):=bn (by kernel_rfl)
theorem yK {x0 x1 x2 x3}:og x0 x1 x2 x3=if(decide (x3 < x2))=true then(ix x1 x3 (ap.dflt) fun y1=>((sF y1.1).bind fun z1=>(if(!z1.1.1)=true then(some ((false,()),(()))) else(if(decide (x3 > 0))=true then(ix x0 (IntKind.i64.wrap (x3 - 1)) (ap.dflt) fun y2=>((mq y2.1 y1.1).bind fun z2=>(if(decide (z2.1.1≥0))=true then(some ((false,()),(()))) else((wu y1.2.1).bind fun z3=>(if(!z3.1.1)=true then(some ((false,()),(()))) else(og x0 x1 x2 (IntKind.i64.wrap (x3+1)))))))) else((wu y1.2.1).bind fun z4=>(if(!z4.1.1)=true then(some ((false,()),(()))) else(og x0 x1 x2 (IntKind.i64.wrap (x3+1))))))))) else(some (((decide ((List.length x0:Int)≤120)),()),(()))):=bn (by kernel_rfl)
theorem yL {x0 x1 x2 x3}:lJ x0 x1 x2 x3=if(decide (x2 < x1))=true then(ix x0 x2 (aj.dflt) fun y1=>(if(y1.1 == 2)=true then((jX y1).bind fun z1=>(app x3 ([z1.1.1]:(List aM)) 32 fun y2=>(lJ x0 x1 (IntKind.i64.wrap (x2+1)) y2))) else(if(y1.1 == 3)=true then((jX y1).bind fun z2=>(app x3 ([z2.1.1]:(List aM)) 32 fun y3=>(lJ x0 x1 (IntKind.i64.wrap (x2+1)) y3))) else(lJ x0 x1 (IntKind.i64.wrap (x2+1)) x3)))) else(some ((x3,()),(()))):=bn (by kernel_rfl)
theorem nv {x0 x1 x2 x3 x4}:fg x0 x1 x2 x3 x4=if(decide (x2 < x1))=true then(ix x0 x2 (bG.dflt) fun y1=>((PC y1 x3 x4).bind fun z1=>(if z1.1.1=true then(some ((x2,()),(z1.2.1,()))) else(b8 x0 x1 (IntKind.i64.wrap (x2+1)) z1.2.1)))) else(some (((-1),()),((x3,x4,()),()))):=bn (by kernel_rfl)
theorem wN {x0 x1 x2 x3 x4 x5 x6 x7 x8 x9}:mC x0 x1 x2 x3 x4 x5 x6 x7 x8 x9=if(decide (x3 < x2))=true then(ix x1 x3 (ap.dflt) fun y1=>((zT y1.2.1).bind fun z1=>((zU z1.1.1).bind fun z2=>(mH x0 x1 x2 x3 x0 (List.length x0:Int) 0 x4 z1.1.1 z2.1.1 ([]:(List Int)) x5 x6 x7 x8 x9)))) else(some (((x4,x8,x9,()),()),(()))):=bn (by kernel_rfl)
theorem qU {x0 x1 x2 x3 x4 x5 x6}:gp x0 x1 x2 x3 x4 x5 x6=if(decide (x1 < (List.length x6:Int)))=true then(inb x6 x1 (if((List.getD x6 (Int.toNat x1) 0) == x0)=true then(some ((true,()),(()))) else(inb x5 (List.getD x6 (Int.toNat x1) 0) (if(!(List.getD x5 (Int.toNat (List.getD x6 (Int.toNat x1) 0)) false))=true then(inb x5 (List.getD x6 (Int.toNat x1) 0) (ix x4 (List.getD x6 (Int.toNat x1) 0) ([]:(List Int)) fun y1=>(app x6 y1 8 fun y2=>(gp x0 (IntKind.i64.wrap (x1+1)) x2 x3 x4 (List.set x5 (Int.toNat (List.getD x6 (Int.toNat x1) 0)) true) y2)))) else(gp x0 (IntKind.i64.wrap (x1+1)) x2 x3 x4 x5 x6))))) else(some ((false,()),(()))):=bn (by kernel_rfl)
theorem lS {x0 x1 x2 x3 x4 x5 x6 x7 x8}:eC x0 x1 x2 x3 x4 x5 x6 x7 x8=if(decide (x3 < x2))=true then(ix x1 x3 0 fun y1=>((cM y1 x4 x5 x6 x7 x8).bind fun z1=>(bR x0 x1 x2 (IntKind.i64.wrap (x3+1)) z1.2.2.1 z1.2.1 z1.2.2.2.1))) else(ix x5 x0 ([]:(List aa)) fun y2=>((tY y2 x8).bind fun z2=>(inb x8 x0 (tj (af.dflt) x8 x0 (fun e=>(e.1,z2.1.1,())) fun w3=>(some ((()),(x7,(x4,x5,x6,()),w3,()))))))):=bn (by kernel_rfl)
theorem gb {x0 x1 x2 x3 x4 x5 x6}:cf x0 x1 x2 x3 x4 x5 x6=if(decide (x3 < x2))=true then(ix x1 x3 0 fun y1=>((bz y1 x4 x5 x6).bind fun z1=>(bR x0 x1 x2 (IntKind.i64.wrap (x3+1)) z1.2.2.1 z1.2.1 z1.2.2.2.1))) else(ix x4.2.1 x0 ([]:(List aa)) fun y2=>((tY y2 x6).bind fun z2=>(inb x6 x0 (tj (af.dflt) x6 x0 (fun e=>(e.1,z2.1.1,())) fun w3=>(some ((()),(x5,x4,w3,()))))))):=bn (by kernel_rfl)
theorem A5 {x0 x1 x2 x3 x4 x5 x6 x7}:ud x0 x1 x2 x3 x4 x5 x6 x7=if(decide (x2 < x1))=true then(ix x0 x2 (af.dflt) fun y1=>(if(bv am y1.1 (x3,x4,()))=true then(some ((y1.2.1,()),(()))) else(ud x0 x1 (IntKind.i64.wrap (x2+1)) x3 x4 x5 x6 x7))) else(some (((0,0,(⟨#[]⟩:ByteArray),()),()),(()))):=bn (by kernel_rfl)
theorem wO {x0 x1 x2 x3 x4 x5}:kB x0 x1 x2 x3 x4 x5=if(decide (x4 < x3))=true then(ix x2 x4 0 fun y1=>(ix x0 y1 (aj.dflt) fun y2=>(if(y2.1 != 3)=true then((jE x0 y1 x1).bind fun z1=>(app x5 ([z1.1.1]:(List ab)) 32 fun y3=>(kB x0 x1 x2 x3 (IntKind.i64.wrap (x4+1)) y3))) else(jc x0 x1 y1 x2 x3 x4 x1 (List.length x1:Int) 0 x5)))) else(some ((x5,()),(()))):=bn (by kernel_rfl)
theorem wP {x0 x1 x2 x3 x4 x5 x6 x7 x8}:i8 x0 x1 x2 x3 x4 x5 x6 x7 x8=if(decide (x5 < x4))=true then(ix x3 x5 (ai.dflt) fun y1=>((u4 y1).bind fun z1=>(if(!z1.1.2.1)=true then((jF y1).bind fun z2=>(some ((z2.1.1,()),(())))) else(if x1=true then(if x2=true then(i8 x0 z1.1.1 true x3 x4 (IntKind.i64.wrap (x5+1)) x6 x7 x8) else(i8 x0 z1.1.1 z1.1.1 x3 x4 (IntKind.i64.wrap (x5+1)) x6 x7 x8)) else(if x2=true then(i8 x0 false true x3 x4 (IntKind.i64.wrap (x5+1)) x6 x7 x8) else(i8 x0 false z1.1.1 x3 x4 (IntKind.i64.wrap (x5+1)) x6 x7 x8)))))) else(if(x0 == 6)=true then((mr x1).bind fun z3=>(some ((z3.1.1,()),(())))) else((mr x2).bind fun z4=>(some ((z4.1.1,()),(()))))):=bn (by kernel_rfl)
theorem TL {x0 x1}:Tl x0 x1=(oT (IntKind.i64.wrap (x0+x1))).bind fun z1=>(some ((z1.1.1,()),(()))):=aq (by kernel_rfl)
theorem A6 {x0 x1 x2 x3 x4 x5 x6 x7 x8}:qn x0 x1 x2 x3 x4 x5 x6 x7 x8=if(decide (x2 < x1))=true then(ix x0 x2 (ai.dflt) fun y1=>(if(y1.1 == 4)=true then(some ((y1,()),(()))) else(if(y1.1 == 1)=true then((L4 (x6,x7,x8,()) y1).bind fun z1=>(if(z1.1.1.1 == 4)=true then(some ((z1.1.1,()),(()))) else(qn x0 x1 (IntKind.i64.wrap (x2+1)) x3 x4 x5 z1.1.1.1 z1.1.1.2.1 z1.1.1.2.2.1))) else(if(x6 == 4)=true then(some (((x6,x7,x8,()),()),(()))) else(qn x0 x1 (IntKind.i64.wrap (x2+1)) x3 x4 x5 x6 x7 x8))))) else(some (((x6,x7,x8,()),()),(()))):=bn (by kernel_rfl)
theorem wQ {x0 x1 x2 x3 x4 x5 x6 x7 x8 x9}:fL x0 x1 x2 x3 x4 x5 x6 x7 x8 x9=if(decide (x6 < x5))=true then(ix x4 x6 (ai.dflt) fun y1=>(if(y1.1 == 4)=true then(if(x0 != 4)=true then(some ((y1,()),(()))) else(if(y1.1 != 1)=true then(fL x0 x1 x2 x3 x4 x5 (IntKind.i64.wrap (x6+1)) x7 x8 x9) else(if(x3 == 0)=true then(fL x0 (if y1.2.1 < y1.2.1 then y1.2.1 else y1.2.1) (if y1.2.1 < y1.2.1 then y1.2.1 else y1.2.1) (IntKind.i64.wrap (x3+1)) x4 x5 (IntKind.i64.wrap (x6+1)) x7 x8 x9) else(fL x0 (if y1.2.1 < x1 then y1.2.1 else x1) (if x2 < y1.2.1 then y1.2.1 else x2) (IntKind.i64.wrap (x3+1)) x4 x5 (IntKind.i64.wrap (x6+1)) x7 x8 x9)))) else(if(y1.1 != 1)=true then(fL x0 x1 x2 x3 x4 x5 (IntKind.i64.wrap (x6+1)) x7 x8 x9) else(if(x3 == 0)=true then(fL x0 (if y1.2.1 < y1.2.1 then y1.2.1 else y1.2.1) (if y1.2.1 < y1.2.1 then y1.2.1 else y1.2.1) (IntKind.i64.wrap (x3+1)) x4 x5 (IntKind.i64.wrap (x6+1)) x7 x8 x9) else(fL x0 (if y1.2.1 < x1 then y1.2.1 else x1) (if x2 < y1.2.1 then y1.2.1 else x2) (IntKind.i64.wrap (x3+1)) x4 x5 (IntKind.i64.wrap (x6+1)) x7 x8 x9))))) else(if(x0 == 2)=true then((jq x1).bind fun z1=>(some ((z1.1.1,()),(())))) else(if(x0 == 3)=true then((jq x2).bind fun z2=>(some ((z2.1.1,()),(())))) else((jq x3).bind fun z3=>(some ((z3.1.1,()),(())))))):=bn (by kernel_rfl)
theorem OK {x0 x1}:L9 x0 x1=if(x1 != 0)=true then(nz (if x1 < (IntKind.i64.wrap (0 - x1)) then(IntKind.i64.wrap (0 - x1)) else x1) (if(decide ((if x0 < (IntKind.i64.wrap (0 - x0)) then(IntKind.i64.wrap (0 - x0)) else x0) > (IntKind.i64.wrap (Int.tdiv 1000000000000000 (if x1 < (IntKind.i64.wrap (0 - x1)) then(IntKind.i64.wrap (0 - x1)) else x1)))))=true then((fI 4).bind fun z1=>(some ((z1.1.1,()),(())))) else((oT (IntKind.i64.wrap (x0*x1))).bind fun z2=>(some ((z2.1.1,()),(())))))) else((oT (IntKind.i64.wrap (x0*x1))).bind fun z3=>(some ((z3.1.1,()),(())))):=aq (by kernel_rfl)
theorem Ru {x0 x1}:PH x0 x1=if(x1 == 0)=true then((fI 1).bind fun z1=>(some ((z1.1.1,()),(())))) else(nz x1 ((oT (IntKind.i64.wrap (Int.tdiv x0 x1))).bind fun z2=>(some ((z2.1.1,()),(()))))):=aq (by kernel_rfl)
theorem qV {x0 x1 x2 x3 x4 x5 x6 x7 x8}:ja x0 x1 x2 x3 x4 x5 x6 x7 x8=if(decide (x3 < x2))=true then(ix x1 x3 (ap.dflt) fun y1=>(ix x0 x3 (ai.dflt) fun y2=>(inb x8 x3 (ja x0 x1 x2 (IntKind.i64.wrap (x3+1)) x4 x5 x6 x7 (List.set x8 (Int.toNat x3) (y1.1,y2,())))))) else(kk (List.length x8:Int) 0 x8 x4 x5 x6 x7):=bn (by kernel_rfl)
theorem Cc {x0 x1 x2 x3}:wE x0 x1 x2 x3=if(decide (x1 < (List.length x0:Int)))=true then(ix x0 x1 (am.dflt) fun y1=>(if(bv am y1 (x2,x3,()))=true then(some ((true,()),(()))) else(wE x0 (IntKind.i64.wrap (x1+1)) x2 x3))) else(some ((false,()),(()))):=bn (by kernel_rfl)
theorem Er {x0 x1 x2 x3 x4 x5 x6}:zX x0 x1 x2 x3 x4 x5 x6=if(decide (x1 < (List.length x0:Int)))=true then(ix x0 x1 (af.dflt) fun y1=>(if(bv am y1.1 (x2,x3,()))=true then(ix x0 x1 (af.dflt) fun y2=>(some ((y2.2.1,()),(())))) else(zX x0 (IntKind.i64.wrap (x1+1)) x2 x3 x4 x5 x6))) else(some (((0,0,(⟨#[]⟩:ByteArray),()),()),(()))):=bn (by kernel_rfl)
theorem Es {x0 x1 x2 x3}:zY x0 x1 x2 x3=if(decide (x1 < (List.length x0:Int)))=true then(ix x0 x1 (ap.dflt) fun y1=>(if(bv am y1.1 (x2,x3,()))=true then(ix x0 x1 (ap.dflt) fun y2=>(some ((y2.2.1,()),(())))) else(zY x0 (IntKind.i64.wrap (x1+1)) x2 x3))) else(some (((⟨#[]⟩:ByteArray),()),(()))):=bn (by kernel_rfl)
theorem yM {x0 x1 x2}:lK x0 x1 x2=if(decide (x1 < (List.length x0:Int)))=true then(ix x0 x1 (aj.dflt) fun y1=>(if(y1.1 == 2)=true then(ix x0 x1 (aj.dflt) fun y2=>(ix x0 x1 (aj.dflt) fun y3=>(app x2 ([(y2.2.2.2.1.1,y3.2.2.2.1.1,())]:(List aM)) 32 fun y4=>(lK x0 (IntKind.i64.wrap (x1+1)) y4)))) else(if(y1.1 == 3)=true then(ix x0 x1 (aj.dflt) fun y5=>(ix x0 x1 (aj.dflt) fun y6=>(app x2 ([(y5.2.2.2.1.1,y6.2.2.2.2.1.1,())]:(List aM)) 32 fun y7=>(lK x0 (IntKind.i64.wrap (x1+1)) y7)))) else(lK x0 (IntKind.i64.wrap (x1+1)) x2)))) else(some ((x2,()),(()))):=bn (by kernel_rfl)
theorem yN {x0 x1 x2 x3}:jY x0 x1 x2 x3=if(decide (x1 < (List.length x0:Int)))=true then(ol x0 x1 false 0 x2 x3) else(some ((x2,()),(()))):=bn (by kernel_rfl)
theorem wR {x0 x1 x2 x3 x4}:mD x0 x1 x2 x3 x4=if(decide (x1 < (List.length x4:Int)))=true then(inb x4 x1 (if(bv am (List.getD x4 (Int.toNat x1) (am.dflt)) (x2,x3,()))=true then(some ((true,()),(()))) else(inb x4 x1 ((oV x0 (List.getD x4 (Int.toNat x1) (am.dflt))).bind fun z1=>(mI x0 x1 0 x2 x3 x4 z1.1.1))))) else(some ((false,()),(()))):=bn (by kernel_rfl)
theorem Cd {x0 x1 x2 x3}:wF x0 x1 x2 x3=if(decide (x1 < (List.length x0:Int)))=true then(ix x0 x1 (af.dflt) fun y1=>((oS y1.1 x2).bind fun z1=>(if z1.1.1=true then(wF x0 (IntKind.i64.wrap (x1+1)) x2 x3) else(WT x0 x1 fun y2=>(app ([]:(List ac)) y2 48 fun y3=>(app y3 ([(x2,x3,())]:(List ac)) 48 fun y4=>(Pk x0 x1 fun y5=>(app y4 y5 48 fun y6=>(some ((y6,()),(()))))))))))) else(WT x0 x1 fun y7=>(app ([]:(List ac)) y7 48 fun y8=>(app y8 ([(x2,x3,())]:(List ac)) 48 fun y9=>(Pk x0 x1 fun y10=>(app y9 y10 48 fun y11=>(some ((y11,()),(())))))))):=bn (by kernel_rfl)
end Go.Proofs.YtnodjiikdgmeaaaGreatDoor.Abs
namespace Go.Proofs.YtnodjiikdgmeaaaGreatDoor.Abs
open Go Go.Proofs.YtnodjiikdgmeaaaGreatDoor
theorem wS {x0 x1}:mE x0 x1=if(decide (x1 < (List.length x0:Int)))=true then(ix x0 x1 (af.dflt) fun y1=>((eG y1.1).bind fun z1=>(if(!z1.1.1)=true then(some ((false,()),(()))) else(ix x0 x1 (af.dflt) fun y2=>((eI y2.2.1).bind fun z2=>(if(!z2.1.1)=true then(some ((false,()),(()))) else(if(decide (x1 > 0))=true then(ix x0 (IntKind.i64.wrap (x1 - 1)) (af.dflt) fun y3=>(ix x0 x1 (af.dflt) fun y4=>((oS y3.1 y4.1).bind fun z3=>(if(!z3.1.1)=true then(some ((false,()),(()))) else(mE x0 (IntKind.i64.wrap (x1+1))))))) else(mE x0 (IntKind.i64.wrap (x1+1)))))))))) else(some ((true,()),(()))):=bn (by kernel_rfl)
theorem A7 {x0 x1 x2 x3 x4}:nq x0 x1 x2 x3 x4=ix x0 x1 (aj.dflt) fun y1=>(if(decide (x3 < (List.length y1.2.2.2.2.2.1:Int)))=true then(ix x0 x1 (aj.dflt) fun y2=>(ix y2.2.2.2.2.2.1 x3 0 fun y3=>(ix x0 y3 (aj.dflt) fun y4=>(if(y4.1 != 3)=true then(ix x0 x1 (aj.dflt) fun y5=>(ix y5.2.2.2.2.2.1 x3 0 fun y6=>((fu x0 y6 x2).bind fun z1=>(app x4 ([z1.1.1]:(List ab)) 32 fun y7=>(nq x0 x1 x2 (IntKind.i64.wrap (x3+1)) y7))))) else(jZ x0 x1 x2 x3 0 x4 y4.2.2.2.1.1 y4.2.2.2.2.1.1))))) else(some ((x4,()),(())))):=bn (by kernel_rfl)
theorem jw {x0 x1 x2 x3 x4 x5 x6 x7 x8 x9 x10 x11}:bh x0 x1 x2 x3 x4 x5 x6 x7 x8 x9 x10 x11=if(decide (x5 < (List.length x1:Int)))=true then(ix x1 x5 (ai.dflt) fun y1=>(if(x0 == 6)=true then((uA y1).bind fun z1=>(if(z1.1.2.1.1 != 0)=true then(some ((z1.1.2.1,()),(()))) else(if x3=true then(if x4=true then(bh x0 x1 x2 z1.1.1 true (IntKind.i64.wrap (x5+1)) x6 x7 x8 x9 x10 x11) else(bh x0 x1 x2 z1.1.1 z1.1.1 (IntKind.i64.wrap (x5+1)) x6 x7 x8 x9 x10 x11)) else(if x4=true then(bh x0 x1 x2 false true (IntKind.i64.wrap (x5+1)) x6 x7 x8 x9 x10 x11) else(bh x0 x1 x2 false z1.1.1 (IntKind.i64.wrap (x5+1)) x6 x7 x8 x9 x10 x11))))) else(if(x0 == 7)=true then((uA y1).bind fun z2=>(if(z2.1.2.1.1 != 0)=true then(some ((z2.1.2.1,()),(()))) else(if x3=true then(if x4=true then(bh x0 x1 x2 z2.1.1 true (IntKind.i64.wrap (x5+1)) x6 x7 x8 x9 x10 x11) else(bh x0 x1 x2 z2.1.1 z2.1.1 (IntKind.i64.wrap (x5+1)) x6 x7 x8 x9 x10 x11)) else(if x4=true then(bh x0 x1 x2 false true (IntKind.i64.wrap (x5+1)) x6 x7 x8 x9 x10 x11) else(bh x0 x1 x2 false z2.1.1 (IntKind.i64.wrap (x5+1)) x6 x7 x8 x9 x10 x11))))) else(if(y1.1 == 4)=true then(if(x0 != 4)=true then(some ((y1,()),(()))) else(if(y1.1 != 1)=true then(bh x0 x1 x2 x3 x4 (IntKind.i64.wrap (x5+1)) x6 x7 x8 x9 x10 x11) else(if(x0 == 1)=true then((E5 (x9,x10,x11,()) y1).bind fun z3=>(if(z3.1.1.1 == 4)=true then(some ((z3.1.1,()),(()))) else(bh x0 x1 (IntKind.i64.wrap (x2+1)) x3 x4 (IntKind.i64.wrap (x5+1)) x6 x7 x8 z3.1.1.1 z3.1.1.2.1 z3.1.1.2.2.1))) else(if((IntKind.i64.wrap (x2+1)) == 1)=true then(bh x0 x1 (IntKind.i64.wrap (x2+1)) x3 x4 (IntKind.i64.wrap (x5+1)) x6 x7 x8 y1.1 y1.2.1 y1.2.2.1) else(if(x0 == 2)=true then(if(decide (y1.2.1 < x10))=true then(bh x0 x1 (IntKind.i64.wrap (x2+1)) x3 x4 (IntKind.i64.wrap (x5+1)) x6 x7 x8 y1.1 y1.2.1 y1.2.2.1) else(if(x0 == 3)=true then(if(decide (y1.2.1 > x10))=true then(bh x0 x1 (IntKind.i64.wrap (x2+1)) x3 x4 (IntKind.i64.wrap (x5+1)) x6 x7 x8 y1.1 y1.2.1 y1.2.2.1) else(bh x0 x1 (IntKind.i64.wrap (x2+1)) x3 x4 (IntKind.i64.wrap (x5+1)) x6 x7 x8 x9 x10 x11)) else(bh x0 x1 (IntKind.i64.wrap (x2+1)) x3 x4 (IntKind.i64.wrap (x5+1)) x6 x7 x8 x9 x10 x11))) else(if(x0 == 3)=true then(if(decide (y1.2.1 > x10))=true then(bh x0 x1 (IntKind.i64.wrap (x2+1)) x3 x4 (IntKind.i64.wrap (x5+1)) x6 x7 x8 y1.1 y1.2.1 y1.2.2.1) else(bh x0 x1 (IntKind.i64.wrap (x2+1)) x3 x4 (IntKind.i64.wrap (x5+1)) x6 x7 x8 x9 x10 x11)) else(bh x0 x1 (IntKind.i64.wrap (x2+1)) x3 x4 (IntKind.i64.wrap (x5+1)) x6 x7 x8 x9 x10 x11))))))) else(if(y1.1 != 1)=true then(bh x0 x1 x2 x3 x4 (IntKind.i64.wrap (x5+1)) x6 x7 x8 x9 x10 x11) else(if(x0 == 1)=true then((E5 (x9,x10,x11,()) y1).bind fun z4=>(if(z4.1.1.1 == 4)=true then(some ((z4.1.1,()),(()))) else(bh x0 x1 (IntKind.i64.wrap (x2+1)) x3 x4 (IntKind.i64.wrap (x5+1)) x6 x7 x8 z4.1.1.1 z4.1.1.2.1 z4.1.1.2.2.1))) else(if((IntKind.i64.wrap (x2+1)) == 1)=true then(bh x0 x1 (IntKind.i64.wrap (x2+1)) x3 x4 (IntKind.i64.wrap (x5+1)) x6 x7 x8 y1.1 y1.2.1 y1.2.2.1) else(if(x0 == 2)=true then(if(decide (y1.2.1 < x10))=true then(bh x0 x1 (IntKind.i64.wrap (x2+1)) x3 x4 (IntKind.i64.wrap (x5+1)) x6 x7 x8 y1.1 y1.2.1 y1.2.2.1) else(if(x0 == 3)=true then(if(decide (y1.2.1 > x10))=true then(bh x0 x1 (IntKind.i64.wrap (x2+1)) x3 x4 (IntKind.i64.wrap (x5+1)) x6 x7 x8 y1.1 y1.2.1 y1.2.2.1) else(bh x0 x1 (IntKind.i64.wrap (x2+1)) x3 x4 (IntKind.i64.wrap (x5+1)) x6 x7 x8 x9 x10 x11)) else(bh x0 x1 (IntKind.i64.wrap (x2+1)) x3 x4 (IntKind.i64.wrap (x5+1)) x6 x7 x8 x9 x10 x11))) else(if(x0 == 3)=true then(if(decide (y1.2.1 > x10))=true then(bh x0 x1 (IntKind.i64.wrap (x2+1)) x3 x4 (IntKind.i64.wrap (x5+1)) x6 x7 x8 y1.1 y1.2.1 y1.2.2.1) else(bh x0 x1 (IntKind.i64.wrap (x2+1)) x3 x4 (IntKind.i64.wrap (x5+1)) x6 x7 x8 x9 x10 x11)) else(bh x0 x1 (IntKind.i64.wrap (x2+1)) x3 x4 (IntKind.i64.wrap (x5+1)) x6 x7 x8 x9 x10 x11)))))))))) else(if(x0 == 4)=true then((i7 x2).bind fun z5=>(some ((z5.1.1,()),(())))) else(if(x0 == 6)=true then((js x3).bind fun z6=>(some ((z6.1.1,()),(())))) else(if(x0 == 7)=true then((js x4).bind fun z7=>(some ((z7.1.1,()),(())))) else(some (((x9,x10,x11,()),()),(())))))):=bn (by kernel_rfl)
theorem A8 {x0 x1 x2 x3 x4 x5}:qp x0 x1 x2 x3 x4 x5=if(decide (x3 < (List.length x0:Int)))=true then(ix x0 x3 (ap.dflt) fun y1=>((mv x2 y1.1).bind fun z1=>(if z1.1.1=true then(ix x0 x3 (ap.dflt) fun y2=>(app x5 ([y2.1]:(List al)) 16 fun y3=>(qp x0 x1 x2 (IntKind.i64.wrap (x3+1)) x4 y3))) else(ix x0 x3 (ap.dflt) fun y4=>(ix x0 x3 (ap.dflt) fun y5=>((KW x1 y5.1).bind fun z2=>(app x4 ([(y4.1,z2.1.1,())]:(List ac)) 48 fun y6=>(qp x0 x1 x2 (IntKind.i64.wrap (x3+1)) y6 x5)))))))) else(jJ x0 x4 x5):=bn (by kernel_rfl)
theorem Ce {x0 x1 x2}:wG x0 x1 x2=if(decide (x1 < (List.length x0:Int)))=true then(ix x0 x1 (ap.dflt) fun y1=>(app x2 ([y1.1]:(List al)) 16 fun y2=>(wG x0 (IntKind.i64.wrap (x1+1)) y2))) else((yt x0 ([]:(List ac)) x2).bind fun z1=>(some ((z1.1.1,()),(())))):=bn (by kernel_rfl)
theorem DU {x0 x1 x2}:nr x0 x1 x2=if(decide (x2 < (List.length x0:Int)))=true then(ix x0 x2 (af.dflt) fun y1=>(ix x1 x2 (af.dflt) fun y2=>(if(!(bv af y1 y2))=true then(some ((false,()),(()))) else(nr x0 x1 (IntKind.i64.wrap (x2+1)))))) else(some ((true,()),(()))):=bn (by kernel_rfl)
theorem wT {x0 x1 x2 x3}:mF x0 x1 x2 x3=if(decide (x3 < x2))=true then(ix x1 x3 (af.dflt) fun y1=>((sF y1.1).bind fun z1=>(if(!z1.1.1)=true then(some ((false,()),(()))) else(if(decide (x3 > 0))=true then(ix x0 (IntKind.i64.wrap (x3 - 1)) (af.dflt) fun y2=>((mq y2.1 y1.1).bind fun z2=>(if(decide (z2.1.1≥0))=true then(some ((false,()),(()))) else((dc y1.2.1).bind fun z3=>(if(!z3.1.1)=true then(some ((false,()),(()))) else(mF x0 x1 x2 (IntKind.i64.wrap (x3+1)))))))) else((dc y1.2.1).bind fun z4=>(if(!z4.1.1)=true then(some ((false,()),(()))) else(mF x0 x1 x2 (IntKind.i64.wrap (x3+1))))))))) else(some (((decide ((List.length x0:Int)≤120)),()),(()))):=bn (by kernel_rfl)
theorem lv {x0 x1 x2 x3 x4}:ep x0 x1 x2 x3 x4=if(decide (x2 < x1))=true then(ix x0 x2 (ap.dflt) fun y1=>((Ej y1 x3 x4).bind fun z1=>(if z1.1.1=true then(some ((x2,()),(z1.2.1,()))) else(bN x0 x1 (IntKind.i64.wrap (x2+1)) z1.2.1)))) else(some (((-1),()),((x3,x4,()),()))):=bn (by kernel_rfl)
theorem qW {x0 x1 x2}:gq x0 x1 x2=if(decide (x0 < (List.length x1:Int)))=true then(inb x1 x0 ((yu x2 (List.getD x1 (Int.toNat x0) (ap.dflt)).1).bind fun z1=>(inb x1 x0 (eF (List.getD x1 (Int.toNat x0) (ap.dflt)).2.1 0 fun y1=>(if(y1 != 61)=true then(inb x1 x0 ((dZ (List.getD x1 (Int.toNat x0) (ap.dflt)).2.1).bind fun z2=>(if(!(bv ai z1.1.1 z2.1.1))=true then(some ((false,()),(()))) else(gq (IntKind.i64.wrap (x0+1)) x1 x2)))) else(inb x1 x0 ((B4 x1 (List.getD x1 (Int.toNat x0) (ap.dflt)).1).bind fun z3=>(if z3.1.1=true then(if(!(bv ai z1.1.1 (4,5,(⟨#[]⟩:ByteArray),())))=true then(some ((false,()),(()))) else(gq (IntKind.i64.wrap (x0+1)) x1 x2)) else(inb x1 x0 (iT (List.getD x1 (Int.toNat x0) (ap.dflt)).2.1 1 fun y2=>((QO y2 x2).bind fun z4=>(if(!(bv ai z1.1.1 z4.1.1))=true then(some ((false,()),(()))) else(gq (IntKind.i64.wrap (x0+1)) x1 x2))))))))))))) else(if((List.length x2:Int) == (List.length x1:Int))=true then((pv x2).bind fun z5=>(some ((z5.1.1,()),(())))) else(some ((false,()),(())))):=bn (by kernel_rfl)
theorem nL {x0 x1 x2 x3}:io x0 x1 x2 x3=if(decide (x0 > 0))=true then((ef x1).bind fun z1=>((jW z1.2.1).bind fun z2=>((yk x2 z1.1.1 z2.1.1).bind fun z3=>(if z3.1.2.1=true then(app x3 ([z1.1.1]:(List al)) 16 fun y1=>(fx (IntKind.i64.wrap (x0 - 1)) z2.2.1 x2 y1 z3.1.1)) else(io (IntKind.i64.wrap (x0 - 1)) z2.2.1 x2 x3))))) else((kN x2).bind fun z4=>(some ((x2,z4.1.1,x3,()),(())))):=bn (by kernel_rfl)
theorem xu {x0 x1 x2 x3 x4}:gj x0 x1 x2 x3 x4=if(decide (x2 < x1))=true then(ix x0 x2 (am.dflt) fun y1=>(if(bv am (x3,x4,()) y1)=true then(some ((x2,()),(()))) else(gj x0 x1 (IntKind.i64.wrap (x2+1)) x3 x4))) else(some (((-1),()),(()))):=bn (by kernel_rfl)
theorem kg {x0 x1 x2 x3}:dE x0 x1 x2 x3=if(decide (x2 < x1))=true then(ix x0 x2 (am.dflt) fun y1=>((oW y1 x3).bind fun z1=>(if z1.1.1=true then(some ((x2,()),(z1.2.1,()))) else(bE x0 x1 (IntKind.i64.wrap (x2+1)) z1.2.1)))) else(some (((-1),()),(x3,()))):=bn (by kernel_rfl)
theorem iL {x0 x1 x2 x3}:cX x0 x1 x2 x3=if(decide (x2 < x1))=true then(ix x0 x2 0 fun y1=>((oX y1 x3).bind fun z1=>(if z1.1.1=true then(some ((x2,()),(z1.2.1,()))) else(bj x0 x1 (IntKind.i64.wrap (x2+1)) z1.2.1)))) else(some (((-1),()),(x3,()))):=bn (by kernel_rfl)
theorem qw {x0 x1 x2 x3 x4 x5 x6 x7}:eK x0 x1 x2 x3 x4 x5 x6 x7=if(decide (x3 < x2))=true then(ix x1 x3 (ap.dflt) fun y1=>(ix x5 x3 ([]:(List aa)) fun y2=>((zU y2).bind fun z1=>((lR x0 y1.1).bind fun z2=>(if z2.1.1=true then(inb x7 x3 (eK x0 x1 x2 (IntKind.i64.wrap (x3+1)) x4 x5 x6 (List.set x7 (Int.toNat x3) true))) else((cz x0 z1.1.1).bind fun z3=>(inb x7 x3 (eK x0 x1 x2 (IntKind.i64.wrap (x3+1)) x4 x5 x6 (List.set x7 (Int.toNat x3) z3.1.1))))))))) else(fW true x4 x5 x6 x7):=bn (by kernel_rfl)
theorem qX {x0 x1 x2 x3 x4 x5 x6 x7 x8}:jb x0 x1 x2 x3 x4 x5 x6 x7 x8=if(decide (x3 < x2))=true then(ix x1 x3 (ap.dflt) fun y1=>(inb x6 x3 (inb x6 x3 ((yn x0 y1.1).bind fun z1=>(app x5 ([z1.1.1]:(List ab)) 32 fun y2=>(jb x0 x1 x2 (IntKind.i64.wrap (x3+1)) x4 y2 (List.set x6 (Int.toNat x3) (!(List.getD x6 (Int.toNat x3) false))) x7 x8)))))) else((lj (x4,x7,x8,()) x6 x5).bind fun z2=>(some ((z2.1.1,()),(())))):=bn (by kernel_rfl)
theorem vr {x0 x1 x2}:lq x0 x1 x2=if x1=true then(ga x0 false 0 x2) else(iI x0 0 x2 ([]:(List al))):=bn (by kernel_rfl)
theorem yO {x0 x1 x2 x3 x4}:oi x0 x1 x2 x3 x4=if(decide (x2 < x1))=true then(inb x4 x2 (if(List.getD x4 (Int.toNat x2) false)=true then(ix x0 x2 (ap.dflt) fun y1=>(app x3 ([y1.1]:(List al)) 16 fun y2=>(oi x0 x1 (IntKind.i64.wrap (x2+1)) y2 x4))) else(oi x0 x1 (IntKind.i64.wrap (x2+1)) x3 x4))) else(some ((x3,()),(()))):=bn (by kernel_rfl)
theorem GT {x0 x1 x2}:qq x0 x1 x2=if(decide (x2 < (List.length x0:Int)))=true then(ix x0 x2 (am.dflt) fun y1=>(ix x1 x2 (am.dflt) fun y2=>(if(!(bv am y1 y2))=true then(some ((false,()),(()))) else(qq x0 x1 (IntKind.i64.wrap (x2+1)))))) else(some ((true,()),(()))):=bn (by kernel_rfl)
theorem A9 {x0 x1 x2 x3}:uf x0 x1 x2 x3=if(decide (x1 < (List.length x0:Int)))=true then(ix x0 x1 (am.dflt) fun y1=>(if(bv am y1 (x2,x3,()))=true then(some ((true,()),(()))) else(uf x0 (IntKind.i64.wrap (x1+1)) x2 x3))) else(some ((false,()),(()))):=bn (by kernel_rfl)
theorem om {x0 x1 x2 x3}:gk x0 x1 x2 x3=if(decide (x0 < (List.length x2:Int)))=true then(inb x2 x0 ((H0 x3 (List.getD x2 (Int.toNat x0) (af.dflt)).1).bind fun z1=>(if(!z1.1.1)=true then(inb x2 x0 (inb x2 x0 ((yu x1 (List.getD x2 (Int.toNat x0) (af.dflt)).1).bind fun z2=>(if(!(bv ai (List.getD x2 (Int.toNat x0) (af.dflt)).2.1 z2.1.1))=true then(some ((false,()),(()))) else(gk (IntKind.i64.wrap (x0+1)) x1 x2 x3))))) else(gk (IntKind.i64.wrap (x0+1)) x1 x2 x3)))) else(some ((true,()),(()))):=bn (by kernel_rfl)
theorem nT {x0 x1 x2 x3 x4 x5}:dp x0 x1 x2 x3 x4 x5=if(!x3)=true then((sE x1 x2 x3 x5).bind fun z1=>(app x4 ([z1.1.1]:(List Int)) 8 fun y1=>((ej (⟨#[41]⟩:ByteArray) z1.2.1.1 z1.2.1.2.1 z1.2.1.2.2.1 z1.2.1.2.2.2.1).bind fun z2=>(if z2.1.1=true then((ce (6,x0,(0,0,(⟨#[]⟩:ByteArray),()),((0,0,()),false,false,()),((0,0,()),false,false,()),y1,()) z2.2.1.1 z2.2.1.2.1 z2.2.1.2.2.1 z2.2.1.2.2.2.1).bind fun z3=>(some ((z3.1.1,()),(z3.2.1,())))) else((ej (⟨#[44]⟩:ByteArray) z2.2.1.1 z2.2.1.2.1 z2.2.1.2.2.1 z2.2.1.2.2.2.1).bind fun z4=>(if(!z4.1.1)=true then(dp x0 z4.2.1.1 z4.2.1.2.1 true y1 z4.2.1.2.2.2.1) else(dp x0 z4.2.1.1 z4.2.1.2.1 z4.2.1.2.2.1 y1 z4.2.1.2.2.2.1))))))) else(some ((0,()),((x1,x2,x3,x5,()),()))):=bn (by kernel_rfl)
theorem wU {x0 x1 x2 x3 x4 x5 x6}:mG x0 x1 x2 x3 x4 x5 x6=if(decide (x1 < (List.length x5:Int)))=true then(inb x5 x1 ((u1 (List.getD x5 (Int.toNat x1) 0)).bind fun z1=>(if(z1.1.1 == x0)=true then(inb x5 x1 ((lI (List.getD x5 (Int.toNat x1) 0)).bind fun z2=>((ej z2.1.1 x2 x3 x4 x6).bind fun z3=>(if z3.1.1=true then(inb x5 x1 (some (((List.getD x5 (Int.toNat x1) 0),()),(z3.2.1,())))) else(mG x0 (IntKind.i64.wrap (x1+1)) z3.2.1.1 z3.2.1.2.1 z3.2.1.2.2.1 x5 z3.2.1.2.2.2.1))))) else(mG x0 (IntKind.i64.wrap (x1+1)) x2 x3 x4 x5 x6)))) else(some ((0,()),((x2,x3,x4,x6,()),()))):=bn (by kernel_rfl)
theorem vt {x0 x1 x2}:lr x0 x1 x2=ix x0 x1 (aj.dflt) fun y1=>(if(decide (x2 < (List.length y1.2.2.2.2.2.1:Int)))=true then(ix x0 x1 (aj.dflt) fun y2=>(ix y2.2.2.2.2.2.1 x2 0 fun y3=>((lY y3 0 (IntKind.i64.wrap (x1 - 1))).bind fun z1=>(if(!z1.1.1)=true then(some ((false,()),(()))) else(ix x0 y3 (aj.dflt) fun y4=>(if(y4.1 == 3)=true then(ix x0 x1 (aj.dflt) fun y5=>(if(y5.1 != 6)=true then(some ((false,()),(()))) else(lr x0 x1 (IntKind.i64.wrap (x2+1))))) else(lr x0 x1 (IntKind.i64.wrap (x2+1))))))))) else(fb x0 (IntKind.i64.wrap (x1+1)))):=bn (by kernel_rfl)
theorem qx {x0 x1 x2 x3 x4 x5 x6 x7}:cx x0 x1 x2 x3 x4 x5 x6 x7=if(decide (x4≤11))=true then((qb x5 x6 x7).bind fun z1=>((ym x4).bind fun z2=>(if(ByteArray.toList z1.1.1 == ByteArray.toList z2.1.1)=true then(cx x0 x1 x2 x4 (IntKind.i64.wrap (x4+1)) z1.2.1.1 z1.2.1.2.2.1 z1.2.1.2.1) else(cx x0 x1 x2 x3 (IntKind.i64.wrap (x4+1)) z1.2.1.1 z1.2.1.2.2.1 z1.2.1.2.1)))) else(if(x3 == 0)=true then(some ((x2,()),((x5,x7,x6,()),()))) else((BZ x3).bind fun z3=>(if(decide (z3.1.1 < x0))=true then(some ((x2,()),((x5,x7,x6,()),()))) else((ym x3).bind fun z4=>((bi z4.1.1 x5 x6 x7).bind fun z5=>((BZ x3).bind fun z6=>((bo (IntKind.i64.wrap (z6.1.1+1)) x1 z5.2.1.1 z5.2.1.2.2.1 z5.2.1.2.1).bind fun z7=>((aG (5,x3,(0,0,(⟨#[]⟩:ByteArray),()),((0,0,()),false,false,()),((0,0,()),false,false,()),([x2,z7.1.1]:(List Int)),()) z7.2.1.1 z7.2.1.2.2.1 z7.2.1.2.1).bind fun z8=>(cw x0 x1 z8.1.1 z8.2.1.1 z8.2.1.2.2.1 z8.2.1.2.1))))))))):=bn (by kernel_rfl)
theorem gM {x0 x1 x2 x3}:b8 x0 x1 x2 x3=if(decide (x2 < x1))=true then(ix x0 x2 (bG.dflt) fun y1=>((L3 y1 x3).bind fun z1=>(if z1.1.1=true then(some ((x2,()),(z1.2.1,()))) else(b8 x0 x1 (IntKind.i64.wrap (x2+1)) z1.2.1)))) else(some (((-1),()),(x3,()))):=bn (by kernel_rfl)
theorem wV {x0 x1 x2 x3 x4 x5 x6 x7 x8 x9 x10 x11 x12 x13 x14 x15}:mH x0 x1 x2 x3 x4 x5 x6 x7 x8 x9 x10 x11 x12 x13 x14 x15=if(decide (x6 < x5))=true then(ix x4 x6 (ap.dflt) fun y1=>((KU x9 y1.1).bind fun z1=>(if z1.1.1=true then(app x10 ([x6]:(List Int)) 8 fun y2=>(mH x0 x1 x2 x3 x4 x5 (IntKind.i64.wrap (x6+1)) x7 x8 x9 y2 x11 x12 x13 x14 x15)) else(mH x0 x1 x2 x3 x4 x5 (IntKind.i64.wrap (x6+1)) x7 x8 x9 x10 x11 x12 x13 x14 x15)))) else(app x14 ([x8]:(List (List aa))) 24 fun y3=>(app x15 ([x10]:(List (List Int))) 24 fun y4=>(mC x0 x1 x2 (IntKind.i64.wrap (x3+1)) x7 x11 x12 x13 y3 y4))):=bn (by kernel_rfl)
theorem dK {x0 x1 x2 x3 x4 x5 x6}:bR x0 x1 x2 x3 x4 x5 x6=if(decide (x3 < x2))=true then(ix x1 x3 0 fun y1=>((bz y1 x4 x5 x6).bind fun z1=>(bR x0 x1 x2 (IntKind.i64.wrap (x3+1)) z1.2.2.1 z1.2.1 z1.2.2.2.1))) else(ix x4.2.1 x0 ([]:(List aa)) fun y2=>((tY y2 x6).bind fun z2=>(inb x6 x0 (tj (af.dflt) x6 x0 (fun e=>(e.1,z2.1.1,())) fun w3=>(some ((()),(x5,x4,w3,()))))))):=bn (by kernel_rfl)
theorem wW {x0 x1 x2 x3 x4 x5 x6 x7 x8 x9}:jc x0 x1 x2 x3 x4 x5 x6 x7 x8 x9=if(decide (x8 < x7))=true then(ix x6 x8 (af.dflt) fun y1=>(ix x0 x2 (aj.dflt) fun y2=>((jX y2).bind fun z1=>((sG z1.1.1 y1.1).bind fun z2=>(if z2.1.1=true then(app x9 ([y1.2.1]:(List ab)) 32 fun y3=>(jc x0 x1 x2 x3 x4 x5 x6 x7 (IntKind.i64.wrap (x8+1)) y3)) else(jc x0 x1 x2 x3 x4 x5 x6 x7 (IntKind.i64.wrap (x8+1)) x9)))))) else(kB x0 x1 x3 x4 (IntKind.i64.wrap (x5+1)) x9):=bn (by kernel_rfl)
theorem Ah {x0 x1 x2 x3 x4 x5 x6}:kk x0 x1 x2 x3 x4 x5 x6=if(decide (x1 < x0))=true then((cM x1 x3 x4 x5 x6 x2).bind fun z1=>(gK x0 (IntKind.i64.wrap (x1+1)) z1.2.2.2.1 z1.2.2.1 z1.2.1)) else(some ((x2,()),(()))):=bn (by kernel_rfl)
theorem yP {x0 x1 x2 x3 x4 x5}:ol x0 x1 x2 x3 x4 x5=if(decide (x3 < (List.length x5:Int)))=true then(if x2=true then(ol x0 x1 true (IntKind.i64.wrap (x3+1)) x4 x5) else(ix x0 x1 (ap.dflt) fun y1=>(inb x5 x3 ((sI y1.1 (List.getD x5 (Int.toNat x3) (bG.dflt))).bind fun z1=>(ol x0 x1 z1.1.1 (IntKind.i64.wrap (x3+1)) x4 x5))))) else(if x2=true then(ix x0 x1 (ap.dflt) fun y2=>(app x4 ([y2.1]:(List al)) 16 fun y3=>(jY x0 (IntKind.i64.wrap (x1+1)) y3 x5))) else(jY x0 (IntKind.i64.wrap (x1+1)) x4 x5)):=bn (by kernel_rfl)
theorem wX {x0 x1 x2 x3 x4 x5 x6}:mI x0 x1 x2 x3 x4 x5 x6=if(decide (x2 < (List.length x6:Int)))=true then(inb x6 x2 ((mv x5 (List.getD x6 (Int.toNat x2) (am.dflt))).bind fun z1=>(if(!z1.1.1)=true then(inb x6 x2 (app x5 ([(List.getD x6 (Int.toNat x2) (am.dflt))]:(List al)) 16 fun y1=>(mI x0 x1 (IntKind.i64.wrap (x2+1)) x3 x4 y1 x6))) else(mI x0 x1 (IntKind.i64.wrap (x2+1)) x3 x4 x5 x6)))) else(mD x0 (IntKind.i64.wrap (x1+1)) x3 x4 x5):=bn (by kernel_rfl)
theorem yQ {x0 x1 x2 x3 x4 x5 x6 x7}:jZ x0 x1 x2 x3 x4 x5 x6 x7=if(decide (x4 < (List.length x2:Int)))=true then(ix x2 x4 (af.dflt) fun y1=>((sI y1.1 (x6,x7,())).bind fun z1=>(if z1.1.1=true then(ix x2 x4 (af.dflt) fun y2=>(app x5 ([y2.2.1]:(List ab)) 32 fun y3=>(jZ x0 x1 x2 x3 (IntKind.i64.wrap (x4+1)) y3 x6 x7))) else(jZ x0 x1 x2 x3 (IntKind.i64.wrap (x4+1)) x5 x6 x7)))) else(nq x0 x1 x2 (IntKind.i64.wrap (x3+1)) x5):=bn (by kernel_rfl)
theorem Ba {x0 x1 x2}:jJ x0 x1 x2=if(decide ((List.length x2:Int) > 0))=true then(iv x0 0 x1 x2 ([]:(List al))) else(some ((x1,()),(()))):=bn (by kernel_rfl)
theorem fO {x0 x1 x2 x3}:bN x0 x1 x2 x3=if(decide (x2 < x1))=true then(ix x0 x2 (ap.dflt) fun y1=>((B3 y1 x3).bind fun z1=>(if z1.1.1=true then(some ((x2,()),(z1.2.1,()))) else(bN x0 x1 (IntKind.i64.wrap (x2+1)) z1.2.1)))) else(some (((-1),()),(x3,()))):=bn (by kernel_rfl)
theorem mK {x0 x1 x2 x3 x4}:fx x0 x1 x2 x3 x4=if(decide (x0 > 0))=true then((ef x1).bind fun z1=>((jW z1.2.1).bind fun z2=>((yk x4 z1.1.1 z2.1.1).bind fun z3=>(if z3.1.2.1=true then(app x3 ([z1.1.1]:(List al)) 16 fun y1=>(fx (IntKind.i64.wrap (x0 - 1)) z2.2.1 x2 y1 z3.1.1)) else(fx (IntKind.i64.wrap (x0 - 1)) z2.2.1 x2 x3 x4))))) else((kN x2).bind fun z4=>(some ((x4,z4.1.1,x3,()),(())))):=bn (by kernel_rfl)
theorem eX {x0 x1 x2 x3}:bE x0 x1 x2 x3=if(decide (x2 < x1))=true then(ix x0 x2 (am.dflt) fun y1=>((oW y1 x3).bind fun z1=>(if z1.1.1=true then(some ((x2,()),(z1.2.1,()))) else(bE x0 x1 (IntKind.i64.wrap (x2+1)) z1.2.1)))) else(some (((-1),()),(x3,()))):=bn (by kernel_rfl)
theorem cA {x0 x1 x2 x3}:bj x0 x1 x2 x3=if(decide (x2 < x1))=true then(ix x0 x2 0 fun y1=>((oX y1 x3).bind fun z1=>(if z1.1.1=true then(some ((x2,()),(z1.2.1,()))) else(bj x0 x1 (IntKind.i64.wrap (x2+1)) z1.2.1)))) else(some (((-1),()),(x3,()))):=bn (by kernel_rfl)
theorem qy {x0 x1 x2 x3 x4}:fW x0 x1 x2 x3 x4=if x0=true then(fy false x3 (List.length x3:Int) 0 x1 x2 x3 x4) else(some ((x4,()),(()))):=bn (by kernel_rfl)
theorem vu {x0 x1 x2 x3}:ga x0 x1 x2 x3=if(decide (x2 < (List.length x0:Int)))=true then(ix x0 x2 (ap.dflt) fun y1=>((mv x3 y1.1).bind fun z1=>(if z1.1.1=true then(ga x0 x1 (IntKind.i64.wrap (x2+1)) x3) else(ix x0 x2 (ap.dflt) fun y2=>((u7 y2.2.1).bind fun z2=>(iJ x0 x1 x2 false 0 x3 z2.1.1)))))) else(lq x0 x1 x3):=bn (by kernel_rfl)
theorem tH {x0 x1 x2 x3}:iI x0 x1 x2 x3=if(decide (x1 < (List.length x0:Int)))=true then(ix x0 x1 (ap.dflt) fun y1=>((mv x2 y1.1).bind fun z1=>(if z1.1.1=true then(ix x0 x1 (ap.dflt) fun y2=>(app x3 ([y2.1]:(List al)) 16 fun y3=>(iI x0 (IntKind.i64.wrap (x1+1)) x2 y3))) else(iI x0 (IntKind.i64.wrap (x1+1)) x2 x3)))) else(some ((x3,()),(()))):=bn (by kernel_rfl)
theorem kE {x0 x1 x2 x3 x4}:gK x0 x1 x2 x3 x4=if(decide (x1 < x0))=true then((bz x1 x3 x4 x2).bind fun z1=>(gK x0 (IntKind.i64.wrap (x1+1)) z1.2.2.2.1 z1.2.2.1 z1.2.1)) else(some ((x2,()),(()))):=bn (by kernel_rfl)
theorem yR {x0 x1 x2 x3 x4}:iv x0 x1 x2 x3 x4=if(decide (x1 < (List.length x3:Int)))=true then(inb x3 x1 ((GC x0 (List.getD x3 (Int.toNat x1) (am.dflt))).bind fun z1=>((qf z1.1.1).bind fun z2=>((kW z1.1.1).bind fun z3=>(if z2.1.2.1=true then((cL 5).bind fun z4=>(inb x3 x1 ((ww x0 (List.getD x3 (Int.toNat x1) (am.dflt))).bind fun z5=>(if(!z5.1.1)=true then(inb x3 x1 ((oV x0 (List.getD x3 (Int.toNat x1) (am.dflt))).bind fun z6=>(si x0 x1 false 0 x2 x3 x4 z2.1.1 z4.1.1.1 z4.1.1.2.1 z4.1.1.2.2.1 z6.1.1))) else(inb x3 x1 ((lk x2 ((List.getD x3 (Int.toNat x1) (am.dflt)),z4.1.1,())).bind fun z7=>(iv x0 (IntKind.i64.wrap (x1+1)) z7.1.1 x3 x4))))))) else(inb x3 x1 ((lk x2 ((List.getD x3 (Int.toNat x1) (am.dflt)),z3.1.1,())).bind fun z8=>(iv x0 (IntKind.i64.wrap (x1+1)) z8.1.1 x3 x4)))))))) else(jJ x0 x2 x4):=bn (by kernel_rfl)
theorem py {x0 x1 x2 x3 x4 x5 x6 x7}:fy x0 x1 x2 x3 x4 x5 x6 x7=if(decide (x3 < x2))=true then(ix x1 x3 ([]:(List Int)) fun y1=>(inb x7 x3 (if(!(List.getD x7 (Int.toNat x3) false))=true then((cW y1 x7).bind fun z1=>(if z1.1.1=true then(inb z1.2.1 x3 (fy true x1 x2 (IntKind.i64.wrap (x3+1)) x4 x5 x6 (List.set z1.2.1 (Int.toNat x3) true))) else(fy x0 x1 x2 (IntKind.i64.wrap (x3+1)) x4 x5 x6 z1.2.1))) else(fy x0 x1 x2 (IntKind.i64.wrap (x3+1)) x4 x5 x6 x7)))) else(fW x0 x4 x5 x6 x7):=bn (by kernel_rfl)
theorem tI {x0 x1 x2 x3 x4 x5 x6}:iJ x0 x1 x2 x3 x4 x5 x6=if(decide (x4 < (List.length x6:Int)))=true then(kC x0 x1 x2 x3 x4 0 x5 x6) else(if x3=true then(ix x0 x2 (ap.dflt) fun y1=>(app x5 ([y1.1]:(List al)) 16 fun y2=>(ga x0 true (IntKind.i64.wrap (x2+1)) y2))) else(ga x0 x1 (IntKind.i64.wrap (x2+1)) x5)):=bn (by kernel_rfl)
theorem yS {x0 x1 x2 x3 x4 x5 x6 x7 x8 x9 x10 x11}:si x0 x1 x2 x3 x4 x5 x6 x7 x8 x9 x10 x11=if(decide (x3 < (List.length x11:Int)))=true then(if x2=true then(si x0 x1 true (IntKind.i64.wrap (x3+1)) x4 x5 x6 x7 x8 x9 x10 x11) else(Pk x5 x1 fun y1=>(inb x11 x3 ((mv y1 (List.getD x11 (Int.toNat x3) (am.dflt))).bind fun z1=>(if z1.1.1=true then(fM x0 x1 true (IntKind.i64.wrap (x3+1)) x4 x5 x6 x7 x8 x9 x10 x11) else(inb x11 x3 ((mv x6 (List.getD x11 (Int.toNat x3) (am.dflt))).bind fun z2=>(fM x0 x1 z2.1.1 (IntKind.i64.wrap (x3+1)) x4 x5 x6 x7 x8 x9 x10 x11)))))))) else(if x2=true then(inb x5 x1 (app x6 ([(List.getD x5 (Int.toNat x1) (am.dflt))]:(List al)) 16 fun y2=>(iv x0 (IntKind.i64.wrap (x1+1)) x4 x5 y2))) else((wx x7 x4).bind fun z3=>(inb x5 x1 ((lk x4 ((List.getD x5 (Int.toNat x1) (am.dflt)),z3.1.1,())).bind fun z4=>(iv x0 (IntKind.i64.wrap (x1+1)) z4.1.1 x5 x6))))):=bn (by kernel_rfl)
theorem tJ {x0 x1 x2 x3 x4 x5 x6 x7}:kC x0 x1 x2 x3 x4 x5 x6 x7=if(decide (x5 < (List.length x6:Int)))=true then(if x3=true then(kC x0 x1 x2 true x4 (IntKind.i64.wrap (x5+1)) x6 x7) else(inb x6 x5 (inb x7 x4 ((sI (List.getD x6 (Int.toNat x5) (am.dflt)) (List.getD x7 (Int.toNat x4) (bG.dflt))).bind fun z1=>(kC x0 x1 x2 z1.1.1 x4 (IntKind.i64.wrap (x5+1)) x6 x7))))) else(iJ x0 x1 x2 x3 (IntKind.i64.wrap (x4+1)) x6 x7):=bn (by kernel_rfl)
end Go.Proofs.YtnodjiikdgmeaaaGreatDoor.Abs
namespace Go.Proofs.YtnodjiikdgmeaaaGreatDoor.Abs
open Go Go.Proofs.YtnodjiikdgmeaaaGreatDoor
theorem wY {x0 x1 x2 x3 x4 x5 x6 x7 x8 x9 x10 x11}:fM x0 x1 x2 x3 x4 x5 x6 x7 x8 x9 x10 x11=if(decide (x3 < (List.length x11:Int)))=true then(if x2=true then(fM x0 x1 true (IntKind.i64.wrap (x3+1)) x4 x5 x6 x7 x8 x9 x10 x11) else(Pk x5 x1 fun y1=>(inb x11 x3 ((mv y1 (List.getD x11 (Int.toNat x3) (am.dflt))).bind fun z1=>(if z1.1.1=true then(fM x0 x1 true (IntKind.i64.wrap (x3+1)) x4 x5 x6 x7 x8 x9 x10 x11) else(inb x11 x3 ((mv x6 (List.getD x11 (Int.toNat x3) (am.dflt))).bind fun z2=>(fM x0 x1 z2.1.1 (IntKind.i64.wrap (x3+1)) x4 x5 x6 x7 x8 x9 x10 x11)))))))) else(if x2=true then(ix x5 x1 (am.dflt) fun y2=>(app x6 ([y2]:(List al)) 16 fun y3=>(eW x0 (IntKind.i64.wrap (x1+1)) x4 x5 y3))) else((wx x7 x4).bind fun z3=>(ix x5 x1 (am.dflt) fun y4=>((lk x4 (y4,z3.1.1,())).bind fun z4=>(eW x0 (IntKind.i64.wrap (x1+1)) z4.1.1 x5 x6))))):=bn (by kernel_rfl)
theorem wZ {x0 x1 x2 x3 x4}:eW x0 x1 x2 x3 x4=if(decide (x1 < (List.length x3:Int)))=true then(ix x3 x1 (am.dflt) fun y1=>((GC x0 y1).bind fun z1=>((qf z1.1.1).bind fun z2=>((kW z1.1.1).bind fun z3=>(if z2.1.2.1=true then((cL 5).bind fun z4=>(ix x3 x1 (am.dflt) fun y2=>((ww x0 y2).bind fun z5=>(if(!z5.1.1)=true then(ix x3 x1 (am.dflt) fun y3=>((oV x0 y3).bind fun z6=>(fM x0 x1 false 0 x2 x3 x4 z2.1.1 z4.1.1.1 z4.1.1.2.1 z4.1.1.2.2.1 z6.1.1))) else(ix x3 x1 (am.dflt) fun y4=>((lk x2 (y4,z4.1.1,())).bind fun z7=>(eW x0 (IntKind.i64.wrap (x1+1)) z7.1.1 x3 x4))))))) else(ix x3 x1 (am.dflt) fun y5=>((lk x2 (y5,z3.1.1,())).bind fun z8=>(eW x0 (IntKind.i64.wrap (x1+1)) z8.1.1 x3 x4)))))))) else(jJ x0 x2 x4):=bn (by kernel_rfl)
end Go.Proofs.YtnodjiikdgmeaaaGreatDoor.Abs
set_option linter.unusedSectionVars false
namespace Go.Proofs.YtnodjiikdgmeaaaGreatDoor.Abs
open Go
abbrev eS:ByteArray:=⟨#[]⟩
theorem Cf (a b:Int):(a == b)=decide (a=b):=rfl
def cQ (n lo hi:Int):Bool:=decide (lo≤n∧n≤hi)
theorem jK (n lo hi:Int):fq n lo hi=some ((cQ n lo hi,()),()):=by
 rw[Q1]
 unfold cQ
 by_cases h:lo≤n <;> simp[h]
theorem mL (n lo hi:Int):lY n lo hi=some ((cQ n lo hi,()),()):=by
 rw[Vu]
 unfold cQ
 by_cases h:lo≤n <;> simp[h]
theorem bu {n lo hi:Int}:cQ n lo hi=true↔lo≤n∧n≤hi:=by simp[cQ]
def bK (r:al):Bool:=cQ r.1 1 52 && cQ r.2.1 1 99
theorem mM (r:al):eG r=some ((bK r,()),()):=by
 rw[Ts]
 unfold bK
 simp only[mL,Option.bind_some]
 cases cQ r.1 1 52 <;> simp
theorem sW (r:al):sF r=some ((bK r,()),()):=by
 rw[Tw]
 unfold bK
 simp only[jK,Option.bind_some]
 cases cQ r.1 1 52 <;> simp
def lw (a:aM):Bool:=bK a.1 && bK a.2.1 && decide (a.1.1≤a.2.1.1) && decide (a.1.2.1≤a.2.1.2.1)
theorem Rv (a:aM):HT a=some ((lw a,()),()):=by
 rw[QU]
 unfold lw
 simp only[mM,Option.bind_some]
 cases bK a.1 <;> cases bK a.2.1 <;> by_cases h:a.1.1≤a.2.1.1 <;> simp[h]
theorem Rx (a:aM):Dc a=some ((lw a,()),()):=by
 rw[Q6]
 unfold lw
 simp only[sW,Option.bind_some]
 cases bK a.1 <;> cases bK a.2.1 <;> by_cases h:a.1.1≤a.2.1.1 <;> simp[h]
def sX (b:Int):Bool:=decide (32≤b∧b≤126)
def plain (s:ByteArray):Bool:=(nK s).all sX
theorem Bb {s:ByteArray} (hs:s.size≤9223372036854775807) : ∀(ys pre:List Int),nK s=pre++ys→r9 s (pre.length:Int)=some ((ys.all sX && decide ((s.size:Int)≤200),()),())
 | [],pre,he=>by
  rw[yF,ax (PI he)]
  simp
 | y :: ys,pre,he=>by
  rw[yF,aF (Tq he),B6 he,B6 he,Mc he hs,Bb hs ys _ (av he)]
  by_cases h1:y < 32
  ·have:sX y=false:=by simp[sX]; omega
   simp[h1,this]
  ·by_cases h2:y > 126
   ·have:sX y=false:=by simp[sX]; omega
    simp[h1,h2,this]
   ·have:sX y=true:=by simp[sX]; omega
    simp[h1,h2,this]
theorem sj {s:ByteArray} (hs:s.size≤9223372036854775807):uZ s=some ((plain s && decide ((s.size:Int)≤200),()),()):=by
 rw[Og]
 exact Bb hs (nK s) [] rfl
theorem Cg {s:ByteArray} {m:Int} (hs:s.size≤9223372036854775807) : ∀(ys pre:List Int),nK s=pre++ys→t8 s m (s.size:Int) (pre.length:Int)=some ((ys.all sX && decide ((s.size:Int)≤m),()),())
 | [],pre,he=>by
  rw[A4,ax (PI he)]
  simp
 | y :: ys,pre,he=>by
  rw[A4,aF (Tq he),B6 he,B6 he,Mc he hs,Cg hs ys _ (av he)]
  by_cases h1:y < 32
  ·have:sX y=false:=by simp[sX]; omega
   simp[h1,this]
  ·by_cases h2:y > 126
   ·have:sX y=false:=by simp[sX]; omega
    simp[h1,h2,this]
   ·have:sX y=true:=by simp[sX]; omega
    simp[h1,h2,this]
theorem ui {s:ByteArray} {m:Int} (hs:s.size≤9223372036854775807):yl s m=some ((plain s && decide ((s.size:Int)≤m),()),()):=by
 rw[Q2]
 exact Cg hs (nK s) [] rfl
def ao (v:ab):Bool :=
 if v.1=2 then decide (v.2.1=0) && (plain v.2.2.1 && decide ((v.2.2.1.size:Int)≤200)) else
 decide (v.2.2.1=eS) && (if v.1=0 then decide (v.2.1=0) else if v.1=1 then cQ v.2.1 (-1000000000000000) 1000000000000000 else if v.1=3 then cQ v.2.1 0 1 else if v.1=4 then cQ v.2.1 1 5 else false)
theorem fG {v:ab} (h:v.2.2.1.size≤9223372036854775807):eI v=some ((ao v,()),()):=by
 rw[Oi]
 unfold ao
 simp only[mL,sj h,Option.bind_some,beq_iff_eq,AV]
 by_cases h0:v.1=0
 ·by_cases h1:v.2.1=0 <;> simp[h0,h1]
 by_cases h1:v.1=1
 ·cases cQ v.2.1 (-1000000000000000) 1000000000000000 <;> simp[h1]
 by_cases h2:v.1=2
 ·by_cases h1:v.2.1=0 <;> simp[h2,h1]
 by_cases h3:v.1=3
 ·cases cQ v.2.1 0 1 <;> simp[h3]
 by_cases h4:v.1=4
 ·cases cQ v.2.1 1 5 <;> simp[h4]
 simp[h0,h1,h2,h3,h4]
theorem eY {v:ab} (h:v.2.2.1.size≤9223372036854775807):dc v=some ((ao v,()),()):=by
 rw[Ou]
 unfold ao
 simp only[jK,ui h,Option.bind_some,beq_iff_eq,AV]
 by_cases h2:v.1=2
 ·by_cases h1:v.2.1=0 <;> simp[h2,h1]
 by_cases he:v.2.2.1=eS
 ·by_cases h0:v.1=0
  ·by_cases h1:v.2.1=0 <;> simp[h0,h1,he]
  by_cases h1:v.1=1
  ·cases cQ v.2.1 (-1000000000000000) 1000000000000000 <;> simp[h1,he]
  by_cases h3:v.1=3
  ·cases cQ v.2.1 0 1 <;> simp[h3,he]
  by_cases h4:v.1=4
  ·cases cQ v.2.1 1 5 <;> simp[h4,he]
  simp[h0,h1,h2,h3,h4,he]
 ·simp[h2,he]
theorem dj {v:ab} (h:ao v=true):v.2.2.1.size≤200:=by
 unfold ao at h
 split at h
 ·simp only[Bool.and_eq_true,decide_eq_true_eq] at h
  omega
 ·simp only[Bool.and_eq_true,decide_eq_true_eq] at h
  rw[h.1]
  decide
theorem da {v:ab} (h:ao v=true):v.2.2.1.size≤9223372036854775807:=Nat.le_trans (dj h) (by decide)
def vN (n:Int):ab:=(1,n,eS,())
def vE (n:Int):ab:=(4,n,eS,())
def vB (b:Bool):ab:=(3,if b=true then 1 else 0,eS,())
def vT (s:ByteArray):ab:=(2,0,s,())
def v0:ab:=(0,0,eS,())
theorem dU (n:Int):cL n=some ((vE n,()),()):=Oj
theorem gc (n:Int):fI n=some ((vE n,()),()):=Tx
theorem jL (n:Int):jq n=some ((vN n,()),()):=Q3
theorem uj (b:Bool):js b=some ((vB b,()),()):=by
 rw[Rj]
 cases b <;> rfl
theorem sY (b:Bool):mr b=some ((vB b,()),()):=by
 rw[Tz]
 cases b <;> rfl
def bnd (n:Int):ab:=if cQ n (-1000000000000000) 1000000000000000=true then vN n else vE 4
theorem kO (n:Int):i7 n=some ((bnd n,()),()):=by
 rw[TG]
 unfold bnd
 simp only[mL,dU,Option.bind_some]
 cases cQ n (-1000000000000000) 1000000000000000 <;> rfl
theorem sk (n:Int):oT n=some ((bnd n,()),()):=by
 rw[OB]
 unfold bnd
 simp only[jK,gc,jL,Option.bind_some]
 cases cQ n (-1000000000000000) 1000000000000000 <;> rfl
def g9 (v:ab):ab:=if ao v=true then(if v.1=4 then v else vE 2) else vE 2
theorem gt {v:ab} (h:v.2.2.1.size≤9223372036854775807):jF v=some ((g9 v,()),()):=by
 rw[Vz]
 unfold g9
 simp only[eY h,gc,Option.bind_some,beq_iff_eq]
 cases ao v
 ·rfl
 ·by_cases h4:v.1=4 <;> simp[h4]
def cT (v:ab):Bool:=ao v && (decide (v.1=0) || decide (v.1=1))
theorem fP {v:ab} (h:v.2.2.1.size≤9223372036854775807):gI v=some ((v.2.1,cT v,()),()):=by
 rw[Mp]
 unfold cT
 simp only[eY h,Option.bind_some,beq_iff_eq]
 cases ao v
 ·rfl
 ·by_cases h0:v.1=0
  ·simp[h0]
  ·simp[h0,Cf]
theorem Ch {v:ab} (h:v.2.2.1.size≤9223372036854775807):B2 v=some ((if cT v=true then v.2.1 else 0,if cT v=true then v0 else g9 v,()),()):=by
 rw[TF]
 unfold cT g9
 simp only[fG h,dU,Option.bind_some,beq_iff_eq]
 cases ao v
 ·rfl
 ·by_cases h0:v.1=0
  ·simp[h0,v0]
  ·by_cases h1:v.1=1
   ·simp[h1,v0]
   ·by_cases h4:v.1=4 <;> simp[h0,h1,h4]
theorem dW (v:ab):(g9 v).1=4:=by
 unfold g9
 split
 ·split
  ·assumption
  ·rfl
 ·rfl
theorem cE {v:ab} (h:cT v=true) : -1000000000000000≤v.2.1∧v.2.1≤1000000000000000:=by
 unfold cT ao at h
 by_cases h2:v.1=2
 ·simp[h2] at h
 ·rw[if_neg h2] at h
  simp only[Bool.and_eq_true,Bool.or_eq_true,decide_eq_true_eq] at h
  obtain⟨⟨_,h⟩,h0 | h1⟩:=h
  ·rw[if_pos h0] at h
   simp only[decide_eq_true_eq] at h
   omega
  ·rw[if_neg (by omega),if_pos h1] at h
   exact bu.1 h
def qY (f:Int→Int→ab) (a b:ab):ab:=if cT a=true then(if cT b=true then f a.2.1 b.2.1 else g9 b) else g9 a
def j0:=qY fun x y=>bnd (x+y)
def Ai:=qY fun x y=>bnd (x - y)
def Ic:=qY fun x y=>if y=0 then vE 1 else bnd (Int.tdiv x y)
def Fh (a:ab):ab:=Ai v0 a
theorem w5 {a b:ab} (ha:a.2.2.1.size≤9223372036854775807) (hb:b.2.2.1.size≤9223372036854775807):yp a b=some ((if cT a=true then(if cT b=true then(a.2.1,b.2.1,v0,()) else(a.2.1,0,g9 b,())) else(0,0,g9 a,())),()):=by
 rw[TH]
 simp only[Ch ha,Ch hb,Option.bind_some,bne_iff_ne,ne_eq]
 cases ia:cT a
 ·have:=dW a
  simp[this]
 ·cases ib:cT b <;> simp[v0]
theorem Aj {x y:Int} (hx : -1000000000000000≤x∧x≤1000000000000000) (hy:y≠0) : -1000000000000000≤Int.tdiv x y∧Int.tdiv x y≤1000000000000000:=by
 have h1:(Int.tdiv x y).natAbs≤x.natAbs:=by
  rw[Int.natAbs_tdiv]
  exact Nat.div_le_self _ _
 omega
section
variable {a b:ab} (ha:a.2.2.1.size≤9223372036854775807) (hb:b.2.2.1.size≤9223372036854775807)
include ha hb
theorem Ie:E5 a b=some ((j0 a b,()),()):=by
 rw[Xn]
 unfold j0 qY
 simp only[w5 ha hb,kO,Option.bind_some,bne_iff_ne,ne_eq]
 cases ia:cT a
 ·have:=dW a
  simp[this]
 ·cases ib:cT b
  ·have:=dW b
   simp[this]
  ·have h1:=cE ia
   have h2:=cE ib
   simp[v0,wr (n:=a.2.1+b.2.1) (by omega) (by omega)]
theorem VM:QK a b=some ((Ai a b,()),()):=by
 rw[VG]
 unfold Ai qY
 simp only[w5 ha hb,kO,Option.bind_some,bne_iff_ne,ne_eq]
 cases ia:cT a
 ·have:=dW a
  simp[this]
 ·cases ib:cT b
  ·have:=dW b
   simp[this]
  ·have h1:=cE ia
   have h2:=cE ib
   simp[v0,wr (n:=a.2.1 - b.2.1) (by omega) (by omega)]
theorem PJ:L4 a b=some ((j0 a b,()),()):=by
 rw[Xm,Bm]
 unfold j0 qY
 simp only[fP ha,fP hb,gt ha,gt hb,TL,sk,Option.bind_some]
 cases ia:cT a
 ·simp
 ·cases ib:cT b
  ·simp
  ·have h1:=cE ia
   have h2:=cE ib
   simp[wr (n:=a.2.1+b.2.1) (by omega) (by omega)]
theorem MB:KV a b=some ((Ai a b,()),()):=by
 rw[VA,Ad]
 unfold Ai qY
 simp only[fP ha,fP hb,gt ha,gt hb,Q9,sk,Option.bind_some]
 cases ia:cT a
 ·simp
 ·cases ib:cT b
  ·simp
  ·have h1:=cE ia
   have h2:=cE ib
   simp[wr (n:=a.2.1 - b.2.1) (by omega) (by omega)]
theorem VN:QL a b=some ((Ic a b,()),()):=by
 rw[VH]
 unfold Ic qY
 simp only[w5 ha hb,kO,dU,Option.bind_some,bne_iff_ne,ne_eq,beq_iff_eq]
 cases ia:cT a
 ·have:=dW a
  simp[this]
 ·cases ib:cT b
  ·have:=dW b
   simp[this]
  ·have h1:=cE ia
   by_cases h0:b.2.1=0
   ·simp[v0,h0]
   ·have h2:=Aj h1 h0
    simp[v0,h0,GE,wr (n:=Int.tdiv a.2.1 b.2.1) (by omega) (by omega)]
theorem VO:QI a b=some ((Ic a b,()),()):=by
 rw[VB,Ae]
 unfold Ic qY
 simp only[fP ha,fP hb,gt ha,gt hb,Ru,sk,gc,Option.bind_some,beq_iff_eq]
 cases ia:cT a
 ·simp
 ·cases ib:cT b
  ·simp
  ·have h1:=cE ia
   by_cases h0:b.2.1=0
   ·simp[h0]
   ·have h2:=Aj h1 h0
    simp[h0,GE,wr (n:=Int.tdiv a.2.1 b.2.1) (by omega) (by omega)]
end
def Ry (x y:Int):ab:=if(x*y).natAbs≤1000000000000000 then vN (x*y) else vE 4
def Ig:=qY Ry
theorem Ak {p q:Int} (hq:0 < q):Int.tdiv 1000000000000000 q < p ↔ ¬p*q≤1000000000000000:=by
 rw[Int.tdiv_eq_ediv_of_nonneg (by decide),←Int.not_le,Int.le_ediv_iff_mul_le hq]
theorem Yj {q:Int} (hq:0 < q):IntKind.i64.wrap (Int.tdiv 1000000000000000 q)=Int.tdiv 1000000000000000 q:=by
 have:=Aj (x:=1000000000000000) (y:=q) (by omega) (by omega)
 exact wr (by omega) (by omega)
theorem PK {x y:Int} (h:(x*y).natAbs≤1000000000000000):bnd (IntKind.i64.wrap (x*y))=vN (x*y):=by
 rw[wr (by omega) (by omega)]
 unfold bnd
 rw[if_pos (bu.2 (by omega))]
theorem PL (x y:Int):(x.natAbs:Int)*(y.natAbs:Int)=((x*y).natAbs:Int):=by rw[Int.natAbs_mul]; simp
section
variable {a b:ab} (ha:a.2.2.1.size≤9223372036854775807) (hb:b.2.2.1.size≤9223372036854775807)
include ha hb
theorem TM:L6 a b=some ((Ig a b,()),()):=by
 rw[TI]
 unfold Ig qY
 simp only[w5 ha hb,kO,dU,Option.bind_some]
 cases ia:cT a
 ·have:=dW a
  simp[this]
 ·cases ib:cT b
  ·have:=dW b
   simp[this]
  ·have h1:=cE ia
   have h2:=cE ib
   generalize a.2.1=x at h1
   generalize b.2.1=y at h2
   unfold Ry
   by_cases hx:x=0
   ·simp[hx,v0,bnd,cQ]
   by_cases hy:y=0
   ·simp[hx,hy,v0,bnd,cQ]
   have hm:=PL x y
   have w1:IntKind.i64.wrap (0 - x) = - x:=by rw[wr (by omega) (by omega)]; omega
   have w2:IntKind.i64.wrap (0 - y) = - y:=by rw[wr (by omega) (by omega)]; omega
   have aR : ∀ p q:Int,p=(x.natAbs:Int)→q=(y.natAbs:Int)→(nz q (if decide (p > IntKind.i64.wrap (Int.tdiv 1000000000000000 q))=true then some ((vE 4,()),()) else some ((bnd (IntKind.i64.wrap (x*y)),()),())))=some ((if(x*y).natAbs≤1000000000000000 then vN (x*y) else vE 4,()),()):=by
    intro p q hp hq
    have hq0:0 < q:=by omega
    rw[GE (by omega),Yj hq0]
    by_cases hc:(x*y).natAbs≤1000000000000000
    ·rw[ax (by rw[gt_iff_lt,Ak hq0,hp,hq,hm]; omega),if_pos hc,PK hc]
    ·rw[aF (by rw[gt_iff_lt,Ak hq0,hp,hq,hm]; omega),if_neg hc]
   by_cases nx:x < 0 <;> by_cases ny:y < 0 <;> simp only[v0,hx,hy,nx,ny,Cf,w1,w2,if_true,if_false,decide_true,decide_false,Bool.false_eq_true,bne_self_eq_false,Option.bind_some] <;> refine aR _ _ ?_ ?_ <;> omega
theorem TN:L5 a b=some ((Ig a b,()),()):=by
 rw[TB,yD]
 unfold Ig qY
 simp only[fP ha,fP hb,gt ha,gt hb,OK,sk,gc,Option.bind_some]
 cases ia:cT a
 ·simp
 ·cases ib:cT b
  ·simp
  ·have h1:=cE ia
   have h2:=cE ib
   generalize a.2.1=x at h1
   generalize b.2.1=y at h2
   unfold Ry
   have hm:=PL x y
   have w1:(if x < IntKind.i64.wrap (0 - x) then IntKind.i64.wrap (0 - x) else x)=(x.natAbs:Int):=by
    rw[wr (by omega) (by omega)]
    split <;> omega
   have w2:(if y < IntKind.i64.wrap (0 - y) then IntKind.i64.wrap (0 - y) else y)=(y.natAbs:Int):=by
    rw[wr (by omega) (by omega)]
    split <;> omega
   simp only[w1,w2,Bool.not_true,Bool.false_eq_true,if_false,if_true]
   by_cases hy:y=0
   ·simp[hy,bnd,cQ,wr (n:=0) (by decide) (by decide)]
   ·have hq0:0 < (y.natAbs:Int):=by omega
    rw[if_pos (by simpa using hy),GE (by omega),Yj hq0]
    by_cases hc:(x*y).natAbs≤1000000000000000
    ·rw[ax (by rw[gt_iff_lt,Ak hq0,hm]; omega),if_pos hc,PK hc]
     rfl
    ·rw[aF (by rw[gt_iff_lt,Ak hq0,hm]; omega),if_neg hc]
     rfl
end
theorem Et {a:ab} (ha:a.2.2.1.size≤9223372036854775807):zW a=some ((Fh a,()),()):=by
 rw[OH]
 unfold Fh Ai qY
 have h0:cT v0=true:=by decide
 simp only[Ch ha,kO,Option.bind_some,h0,if_true]
 cases ia:cT a
 ·have:=dW a
  simp[this]
 ·have h1:=cE ia
  simp[v0,wr (n := -a.2.1) (by omega) (by omega)]
theorem OL {a:ab} (ha:a.2.2.1.size≤9223372036854775807):E3 a=some ((Fh a,()),()):=by
 rw[OC,show((0,0,({data := #[]}:ByteArray),()):ab)=v0 from rfl,MB (by decide) ha]
 rfl
theorem Zi {n:Int} (h0:0≤n) (h1:n≤255):IntKind.u8.wrap n=n:=by
 simp only[IntKind.wrap,IntKind.bits,IntKind.signed]
 simp
 omega
theorem GU : ∀(k u:Nat),u < 10 ^ (k+1)→(Lib.decDigits u).length≤k+1
 | 0,u,h=>by
  have h:u < 10:=by simpa using h
  rw[Lib.decDigits,dif_pos h]
  simp
 | k+1,u,h=>by
  rw[Lib.decDigits]
  split
  ·simp
  ·have:=GU k (u / 10) (by rw[Nat.pow_succ] at h; exact Nat.div_lt_of_lt_mul (by omega))
   rw[List.length_append]
   simp only[List.length_singleton]
   omega
theorem uk {x:Nat} (h:x < 10):strOfNums ([IntKind.u8.wrap (IntKind.i64.wrap (48+(x:Int)))]:List Int)=⟨#[UInt8.ofNat (48+x)]⟩:=by
 rw[wr (by omega) (by omega),Zi (by omega) (by omega)]
 unfold strOfNums
 simp only[List.map_cons,List.map_nil]
 congr 3
theorem yT {a b:ByteArray} (h:a.data.toList=b.data.toList):a=b:=by
 cases a; cases b
 congr 1
 exact Array.toList_inj.1 h
theorem Ci : ∀(n u:Nat) (acc:ByteArray),u≤n→u≤9223372036854775807→acc.size+n≤9223372036854775806→sK (u:Int) acc=some ((⟨(Lib.decDigits u).toArray⟩++acc,()),()):=by
 intro n
 induction n with
 | zero =>
  intro u acc h1 h2 h3
  have:u=0:=by omega
  subst this
  rw[vi,ax (by decide),show((0:Nat):Int)=((0:Nat):Int) from rfl,uk (x:=0) (by decide),lL (by simp only[ByteArray.size]; simp; have:acc.data.size=acc.size:=rfl; omega)]
  rw[Lib.decDigits,dif_pos (by decide)]
 | succ n ih =>
  intro u acc h1 h2 h3
  rw[vi]
  have hs : ∀ c:UInt8,(⟨#[c]⟩:ByteArray).size=1:=fun _=>rfl
  by_cases h:u < 10
  ·rw[ax (by omega),uk h,lL (by rw[hs]; omega)]
   rw[Lib.decDigits,dif_pos h]
  ·have e1:Int.tmod (u:Int) 10=((u % 10:Nat):Int):=by
    rw[Int.tmod_eq_emod_of_nonneg (by omega)]
    omega
   have e2:Int.tdiv (u:Int) 10=((u / 10:Nat):Int):=by
    rw[Int.tdiv_eq_ediv_of_nonneg (by omega)]
    omega
   rw[aF (by omega),e1,e2,uk (Nat.mod_lt _ (by decide)),lL (by rw[hs]; omega),wr (by omega) (by omega),ih (u / 10) _ (by omega) (by omega) (by rw[size_append,hs]; omega)]
   conv=>rhs; rw[Lib.decDigits,dif_neg h]
   congr 3
   apply yT
   simp
theorem pz (u:Nat):dr (u:Int)=⟨(Lib.decDigits u).toArray⟩:=by
 unfold dr Lib.itoa
 rw[if_neg (by omega)]
 simp
theorem w6 {n:Int} (h:n < 0):dr n=⟨#[45]⟩++dr (-n):=by
 unfold dr Lib.itoa
 rw[if_pos h,if_neg (by omega)]
 apply yT
 simp
 congr 1
 omega
theorem Ih {u:Nat} (h:u≤9223372036854775807):(⟨(Lib.decDigits u).toArray⟩:ByteArray).size≤19:=by
 have:=GU 18 u (by omega)
 simpa[ByteArray.size] using this
theorem qz {n:Int} (h0 : -9223372036854775807≤n) (h1:n≤9223372036854775807):(dr n).size≤20:=by
 by_cases h:n < 0
 ·rw[w6 h,size_append,show -n=((-n).toNat:Int) by omega,pz]
  have:=Ih (u:=(-n).toNat) (by omega)
  have h1:(⟨#[45]⟩:ByteArray).size=1:=rfl
  omega
 ·rw[show n=(n.toNat:Int) by omega,pz]
  have:=Ih (u:=n.toNat) (by omega)
  omega
theorem GV {u:Nat} (h:u≤9223372036854775807):dY (u:Int)=some ((dr (u:Int),()),()):=by
 have h19:=Ih h
 rw[JL,ax (by omega),pz]
 have h2 : ∀ acc:ByteArray,acc.size=0→sK (u:Int) acc=some ((⟨(Lib.decDigits u).toArray⟩++acc,()),()):=by
  intro acc ha
  by_cases hu:u≤9223372036854775806
  ·exact Ci u u acc (Nat.le_refl _) h (by omega)
  ·have hu:u=9223372036854775807:=by omega
   subst hu
   have hs : ∀ c:UInt8,(⟨#[c]⟩:ByteArray).size=1:=fun _=>rfl
   have e1:Int.tmod ((9223372036854775807:Nat):Int) 10=((7:Nat):Int):=by decide
   have e2:Int.tdiv ((9223372036854775807:Nat):Int) 10=((922337203685477580:Nat):Int):=by decide
   rw[vi,aF (by decide),e1,e2,uk (by decide),lL (by rw[hs]; omega),wr (by omega) (by omega),Ci 922337203685477580 _ _ (by omega) (by omega) (by rw[size_append,hs]; omega)]
   conv=>rhs; rw[Lib.decDigits,dif_neg (by decide)]
   congr 3
   apply yT
   simp
 rw[h2 _ rfl]
 congr 3
 apply yT
 simp
theorem Cj {n:Int} (h0 : -9223372036854775807≤n) (h1:n≤9223372036854775807):dY n=some ((dr n,()),()):=by
 by_cases h:n < 0
 ·have hz:=qz (n := -n) (by omega) (by omega)
  have h45:(⟨#[45]⟩:ByteArray).size=1:=rfl
  rw[JL,aF h,wr (by omega) (by omega),show(0 - n:Int)=((-n).toNat:Int) by omega,GV (by omega),show(((-n).toNat:Nat):Int) = -n by omega]
  simp only[Option.bind_some]
  rw[lL (by omega),←w6 h]
 ·rw[show n=(n.toNat:Int) by omega]
  exact GV (by omega)
theorem xv {n:Int} (h0 : -9223372036854775808≤n) (h1:n≤9223372036854775807):kX n=some ((dr n,()),()):=by
 rw[Ov,Ac]
 show(if(10:Int)=10∧_∧_ then _ else _:Option _).bind _=_
 rw[if_pos ⟨rfl,h0,h1⟩]
 rfl
def VP:List ByteArray:=[(⟨#[]⟩:ByteArray),(⟨#[35,68,73,86,33]⟩:ByteArray),(⟨#[35,84,89,80,69,33]⟩:ByteArray),(⟨#[35,82,69,70,33]⟩:ByteArray),(⟨#[35,79,86,69,82,33]⟩:ByteArray),(⟨#[35,67,89,67,76,69,33]⟩:ByteArray)]
def dg (n:Int):ByteArray:=VP.getD n.toNat eS
theorem Al {n:Int} (h0:0≤n) (h1:n≤5):yh n=some ((dg n,()),()):=by
 rw[QW,bD h0 (by show n < 6; omega)]
 rfl
theorem tu {n:Int} (h0:0≤n) (h1:n≤5):qc n=some ((dg n,()),()):=by
 rw[KC,bD h0 (by show n < 6; omega)]
 rfl
def Df (n:Int):ByteArray:=if n=1 then⟨#[84,82,85,69]⟩ else⟨#[70,65,76,83,69]⟩
theorem Rz (n:Int):HV n=some ((Df n,()),()):=by
 rw[QZ]
 unfold Df
 by_cases h:n=1 <;> simp[h]
def cB (v:ab):ByteArray:=if v.1=1 then dr v.2.1 else if v.1=2 then(⟨#[39]⟩:ByteArray)++v.2.2.1 else if v.1=3 then Df v.2.1 else if v.1=4 then dg v.2.1 else eS
theorem yU {v:ab} (h:ao v=true) (k:v.1=1) : -1000000000000000≤v.2.1∧v.2.1≤1000000000000000:=by
 unfold ao at h
 rw[if_neg (by omega),if_neg (by omega),if_pos k] at h
 simp only[Bool.and_eq_true,decide_eq_true_eq] at h
 exact bu.1 h.2
theorem Ii {v:ab} (h:ao v=true) (k:v.1=3):0≤v.2.1∧v.2.1≤1:=by
 unfold ao at h
 rw[if_neg (by omega),if_neg (by omega),if_neg (by omega),if_pos k] at h
 simp only[Bool.and_eq_true,decide_eq_true_eq] at h
 exact bu.1 h.2
theorem Dg {v:ab} (h:ao v=true) (k:v.1=4):1≤v.2.1∧v.2.1≤5:=by
 unfold ao at h
 rw[if_neg (by omega),if_neg (by omega),if_neg (by omega),if_neg (by omega),if_pos k] at h
 simp only[Bool.and_eq_true,decide_eq_true_eq] at h
 exact bu.1 h.2
theorem GW {v:ab} (h:ao v=true):v.1=0∨v.1=1∨v.1=2∨v.1=3∨v.1=4:=by
 unfold ao at h
 split at h
 ·omega
 ·simp only[Bool.and_eq_true] at h
  have h:=h.2
  split at h
  ·omega
  ·split at h
   ·omega
   ·split at h
    ·omega
    ·split at h
     ·omega
     ·cases h
theorem TO (n:Int):(dg n).size≤10:=by
 have h : ∀ i:Nat,i < 6→(VP.getD i eS).size≤10:=by decide
 unfold dg
 by_cases hn:n.toNat < 6
 ·exact h _ hn
 ·rw[List.getD_eq_getElem?_getD,List.getElem?_eq_none (by show 6≤n.toNat; omega)]
  decide
theorem JM {v:ab} (h:ao v=true):(cB v).size≤201:=by
 have hs:=dj h
 unfold cB
 split
 ·have:=yU h ‹_›
  exact Nat.le_trans (qz (by omega) (by omega)) (by decide)
 ·split
  ·rw[size_append]
   have:(⟨#[39]⟩:ByteArray).size=1:=rfl
   omega
  ·split
   ·unfold Df
    split <;> decide
   ·split
    ·exact Nat.le_trans (TO _) (by decide)
    ·decide
theorem RA {β:Type} {s:ByteArray} {f:ByteArray→Option β} (h:s.size≤9223372036854775806):cats (⟨#[39]⟩:ByteArray) s f=f ((⟨#[39]⟩:ByteArray)++s):=lL (by
 have:(⟨#[39]⟩:ByteArray).size=1:=rfl
 omega)
theorem gd {v:ab} (hs:v.2.2.1.size≤9223372036854775807):il v=some ((if ao v=true then cB v else eS,()),()):=by
 rw[KA,fG hs,Option.bind_some]
 unfold cB
 cases h:ao v
 ·rfl
 ·have hz:=dj h
  simp only[Bool.not_true,Bool.false_eq_true,if_false,if_true,beq_iff_eq]
  by_cases h1:v.1=1
  ·have:=yU h h1
   simp[h1,Cj (n:=v.2.1) (by omega) (by omega)]
  by_cases h2:v.1=2
  ·simp only[h2,if_true,RA (s:=v.2.2.1) (by omega)]
   rfl
  by_cases h3:v.1=3
  ·simp[h3,Rz]
  by_cases h4:v.1=4
  ·have:=Dg h h4
   simp[h4,Al (n:=v.2.1) (by omega) (by omega)]
  simp[h1,h2,h3,h4]
theorem tv {v:ab} (h:ao v=true):fJ v=some ((cB v,()),()):=by
 rw[KD]
 unfold cB
 have hz:=dj h
 simp only[beq_iff_eq]
 by_cases h1:v.1=1
 ·have:=yU h h1
  simp[h1,xv (n:=v.2.1) (by omega) (by omega)]
 by_cases h2:v.1=2
 ·simp only[h2,if_true,RA (s:=v.2.2.1) (by omega)]
  rfl
 by_cases h3:v.1=3
 ·have:=Ii h h3
  simp only[h3,if_true]
  rw[if_neg (by decide),if_neg (by decide),if_neg (by decide),if_neg (by decide),bD (by omega) (by show v.2.1 < 2; omega)]
  unfold Df
  by_cases h5:v.2.1=1
  ·rw[h5]
   rfl
  ·rw[show v.2.1=0 by omega]
   rfl
 by_cases h4:v.1=4
 ·have:=Dg h h4
  simp[h4,tu (n:=v.2.1) (by omega) (by omega)]
 simp[h1,h2,h3,h4]
theorem KM {v:ab} (hs:v.2.2.1.size≤9223372036854775807):zV v=some ((if ao v=true then cB v else eS,()),()):=by
 rw[KJ,eY hs,Option.bind_some]
 cases h:ao v
 ·rfl
 ·rw[tv h]
  rfl
def nU (v:ab):Bool:=ao v && !decide (v.1=4)
def qA (v:ab):ByteArray:=if v.1=2 then v.2.2.1 else cB v
theorem vv {v:ab} (h:ao v=true):(qA v).size≤201:=by
 unfold qA
 split
 ·exact Nat.le_trans (dj h) (by decide)
 ·exact JM h
theorem Am {v:ab} (hs:v.2.2.1.size≤9223372036854775807) : ∃ t,yo v=some ((t,nU v,()),())∧(nU v=true→t=qA v):=by
 rw[Rb]
 unfold nU qA
 simp only[eY hs,KM hs,Option.bind_some,beq_iff_eq]
 by_cases h2:v.1=2
 ·refine⟨_,by simp[h2]; rfl,fun _=>by simp[h2]⟩
 ·cases h:ao v
  ·exact⟨_,by simp[h2]; rfl,fun h=>by cases h⟩
  ·refine⟨cB v,?_,fun _=>by simp[h2]⟩
   simp only[h2,if_false,if_true,Bool.true_and]
   rfl
theorem An {v:ab} (hs:v.2.2.1.size≤9223372036854775807):yq v=some ((if nU v=true then qA v else eS,if nU v=true then v0 else g9 v,()),()):=by
 rw[Rk]
 unfold nU qA g9
 simp only[fG hs,dU,gd hs,Option.bind_some,beq_iff_eq]
 cases h:ao v
 ·rfl
 ·by_cases h4:v.1=4
  ·simp[h4]
  ·by_cases h2:v.1=2 <;> simp[h2,h4,v0]
theorem uB {v:ab} (h:nU v=true):ao v=true:=by
 unfold nU at h
 simp only[Bool.and_eq_true] at h
 exact h.1
def Ao (a b:ab):ab:=if nU a=true then(if nU b=true then(if 200 < (qA a).size+(qA b).size then vE 4 else vT (qA a++qA b)) else g9 b) else g9 a
section
variable {a b:ab} (ha:a.2.2.1.size≤9223372036854775807) (hb:b.2.2.1.size≤9223372036854775807)
include ha hb
theorem RB:HZ a b=some ((Ao a b,()),()):=by
 rw[Ro]
 unfold Ao
 simp only[An ha,An hb,dU,Option.bind_some,bne_iff_ne,ne_eq]
 cases ia:nU a
 ·have:=dW a
  simp[this]
 ·cases ib:nU b
  ·have:=dW b
   simp[this,v0]
  ·have h1:=vv (uB ia)
   have h2:=vv (uB ib)
   simp only[if_true,v0,not_true,if_false]
   rw[wr (by omega) (by omega)]
   by_cases hc:200 < (qA a).size+(qA b).size
   ·rw[aF (by omega),if_pos hc]
   ·rw[ax (by omega),if_neg hc,lL (by omega)]
    rfl
theorem RC:HW a b=some ((Ao a b,()),()):=by
 rw[Rg]
 unfold Ao
 obtain⟨t,e1,e2⟩:=Am ha
 obtain⟨u,e3,e4⟩:=Am hb
 simp only[e1,e3,gt ha,gt hb,gc,Option.bind_some]
 cases ia:nU a
 ·simp
 ·cases ib:nU b
  ·simp
  ·have h1:=vv (uB ia)
   have h2:=vv (uB ib)
   rw[e2 ia,e4 ib]
   simp only[if_true,Bool.not_true,Bool.false_eq_true,if_false]
   rw[wr (by omega) (by omega)]
   by_cases hc:200 < (qA a).size+(qA b).size
   ·rw[aF (by omega),if_pos hc]
   ·rw[ax (by omega),if_neg hc,lL (by omega)]
    rfl
end
def kF (x y:Int):Int:=if x < y then -1 else if y < x then 1 else 0
def MC (x y:ByteArray):Int:=if Jd x y=true then -1 else if x=y then 0 else 1
def MD (a b:ab):Int:=if a.1≠b.1 then kF a.1 b.1 else if a.2.1≠b.2.1 then kF a.2.1 b.2.1 else MC a.2.2.1 b.2.2.1
theorem RD (p q:Bool):yr p q=some ((if p=true then -1 else if q=true then 1 else 0,()),()):=by
 rw[Rq]
 cases p <;> cases q <;> rfl
theorem TP (a b:ab):L7 a b=some ((MD a b,()),()):=by
 rw[TJ]
 unfold MD kF MC
 simp only[RD,Option.bind_some,bne_iff_ne,decide_eq_true_eq,AV]
 by_cases h1:a.1=b.1
 ·by_cases h2:a.2.1=b.2.1
  ·simp only[h1,h2,ne_eq,not_true,if_false]
   change _=some ((if Jd a.2.2.1 b.2.2.1=true then _ else _,()),())
   change some ((if Jd a.2.2.1 b.2.2.1=true then _ else if(!(Jd a.2.2.1 b.2.2.1 || _))=true then _ else _,()),())=_
   cases Jd a.2.2.1 b.2.2.1
   ·by_cases h3:a.2.2.1=b.2.2.1 <;> simp[h3]
   ·rfl
  ·simp only[h1,h2,ne_eq,not_true,not_false_eq_true,if_false,if_true]
   by_cases h3:a.2.1 < b.2.1
   ·simp[h3]
   ·have h4:b.2.1 < a.2.1:=by omega
    simp[h3,h4]
 ·simp only[h1,ne_eq,not_true,not_false_eq_true,if_true]
  by_cases h3:a.1 < b.1
  ·simp[h3]
  ·have h4:b.1 < a.1:=by omega
   simp[h3,h4]
theorem w7 (x y:Int):fV x y=some ((kF x y,()),()):=by
 rw[zZ,sR,sR]
 unfold kF
 simp
 by_cases h:x < y
 ·simp[h]
 ·by_cases h2:y < x <;> simp[h,h2]
theorem TQ (x y:ByteArray):mu x y=some ((MC x y,()),()):=by
 rw[yE,qQ,qQ]
 unfold MC
 simp only[AV,decide_true,Bool.not_true,Option.bind_some,Bool.false_eq_true,if_false]
 change (if Jd x y=true then _ else if(!(Jd x y || _))=true then _ else _)=_
 cases Jd x y
 ·by_cases h3:x=y <;> simp[h3]
 ·rfl
theorem ME {l:List Int} (hl:l.length≤100) : ∀(ys pre:List Int),l=pre++ys→oD 0 l (l.length:Int) (pre.length:Int)=some (((ys.find? fun y=>decide (y≠0)).getD 0,()),())
 | [],pre,he=>by
  rw[vp,ax (bw he)]
  rfl
 | y :: ys,pre,he=>by
  rw[vp,aF (bH he),bC he,aO he (by omega),ME hl ys _ (av he)]
  by_cases h:y=0
  ·simp[h]
  ·simp[h]
theorem Fi {l:List Int} (hl:l.length≤100):tX l=some (((l.find? fun y=>decide (y≠0)).getD 0,()),()):=by
 rw[KB]
 exact ME hl l [] rfl
theorem GX {x y:Int}:kF x y=0↔x=y:=by
 unfold kF
 split
 ·omega
 ·split <;> omega
theorem TR (a b:ab):B1 a b=some ((MD a b,()),()):=by
 rw[TC]
 simp only[w7,TQ,Option.bind_some]
 rw[Fi (by simp)]
 unfold MD
 by_cases h1:a.1=b.1
 ·have e1:=GX.2 h1
  rw[if_neg (by simp[h1])]
  by_cases h2:a.2.1=b.2.1
  ·have e2:=GX.2 h2
   rw[if_neg (by simp[h2])]
   by_cases h3:MC a.2.2.1 b.2.2.1=0 <;> simp[List.find?,e1,e2,h3]
  ·have e2:kF a.2.1 b.2.1≠0:=fun h=>h2 (GX.1 h)
   rw[if_pos (by simp[h2])]
   simp[List.find?,e1,e2]
 ·have e1:kF a.1 b.1≠0:=fun h=>h1 (GX.1 h)
  rw[if_pos (by simp[h1])]
  simp[List.find?,e1]
def MF (a b:ab):ab:=if a.1=0 then(b.1,a.2.1,a.2.2.1,()) else a
def Yk (op o:Int):Bool:=if op=6 then decide (o=0) else if op=7 then !decide (o=0) else if op=8 then decide (o < 0) else if op=9 then decide (o≤0) else if op=10 then decide (0 < o) else decide (0≤o)
def Ap (op:Int) (a b:ab):ab:=if ao a=true then(if ao b=true then(if cQ op 6 11=true then(if a.1=4 then a else if b.1=4 then b else vB (Yk op (MD (MF a b) (MF b a)))) else vE 2) else vE 2) else vE 2
theorem RE (a b:ab):De a b=some ((MF a b,()),()):=by
 rw[Rp]
 unfold MF
 by_cases h:a.1=0 <;> simp[h]
theorem YZ {op o:Int} (h:cQ op 6 11=true):List.getD [(o == 0),(o != 0),decide (o < 0),decide (o≤0),decide (o > 0),decide (o≥0)] (Int.toNat (IntKind.i64.wrap (op - 6))) false=Yk op o:=by
 have:=bu.1 h
 rw[wr (by omega) (by omega)]
 have h6:op=6∨op=7∨op=8∨op=9∨op=10∨op=11:=by omega
 rcases h6 with rfl | rfl | rfl | rfl | rfl | rfl <;> rfl
section
variable {op:Int} {a b:ab} (ha:a.2.2.1.size≤9223372036854775807) (hb:b.2.2.1.size≤9223372036854775807)
include ha hb
theorem VQ:QM op a b=some ((Ap op a b,()),()):=by
 rw[VI]
 unfold Ap Yk
 simp only[fG ha,fG hb,dU,mL,RE,TP,uj,Option.bind_some,beq_iff_eq]
 cases ao a
 ·rfl
 cases ao b
 ·rfl
 cases cQ op 6 11
 ·rfl
 simp only[Bool.not_true,Bool.false_eq_true,if_false,if_true]
 by_cases h1:a.1=4
 ·simp[h1]
 by_cases h2:b.1=4
 ·simp[h1,h2]
 simp only[h1,h2,if_false]
 by_cases o6:op=6
 ·simp[o6,Cf]
 by_cases o7:op=7
 ·simp[o7]; rfl
 by_cases o8:op=8
 ·simp[o8]
 by_cases o9:op=9
 ·simp[o9]
 by_cases o10:op=10
 ·simp[o10]
 simp[o6,o7,o8,o9,o10]
theorem VR:QJ op a b=some ((Ap op a b,()),()):=by
 rw[VC]
 unfold Ap
 simp only[eY ha,eY hb,gc,jK,TR,Option.bind_some,beq_iff_eq]
 cases ao a
 ·rfl
 cases ao b
 ·rfl
 cases hi:cQ op 6 11
 ·rfl
 have hio:=bu.1 hi
 simp only[Bool.not_true,Bool.false_eq_true,if_false,if_true]
 by_cases h1:a.1=4
 ·simp[h1]
 by_cases h2:b.1=4
 ·simp[h1,h2]
 have hin : ∀(x1 x2 x3 x4 x5 x6:Bool) (k:Option ((ab×Unit)×Unit)),inb [x1,x2,x3,x4,x5,x6] (IntKind.i64.wrap (op - 6)) k=k:=fun x1 x2 x3 x4 x5 x6 k=>by
  rw[wr (by omega) (by omega)]
  exact bD (by omega) (by show op - 6 < 6; omega)
 simp only[h1,h2,if_false,hin,YZ hi,sY,Option.bind_some]
 unfold MF
 by_cases h3:a.1=0
 ·by_cases h4:b.1=0
  ·have eb:((0,b.2.1,b.2.2.1,()):ab)=b:=by rw[←h4]
   simp only[h3,h4,if_true,eb]
  ·simp[h3,h4]
 ·by_cases h4:b.1=0
  ·simp[h3,h4]
  ·simp[h3,h4]
end
end Go.Proofs.YtnodjiikdgmeaaaGreatDoor.Abs
