/- What the functions are, as the reader reads them. Printed by out.py. -/
import Derived.Test.YtnodjiikdgmeaaaGreatDoorZA3
import Derived.Test.YtnodjiikdgmeaaaGreatDoorProg
set_option linter.unusedVariables false
set_option linter.unusedSimpArgs false
set_option maxRecDepth 100000
namespace Go.Proofs.YtnodjiikdgmeaaaGreatDoor.Abs
open Go Go.Proofs.YtnodjiikdgmeaaaGreatDoor
abbrev Vt:TypeId:=9
abbrev am:Ty := .agg (.pair (.int .i64) (.pair (.int .i64) .unit))
abbrev al:=Int×Int×Unit
abbrev ai:Ty := .agg (.pair (.int .i64) (.pair (.int .i64) (.pair .str .unit)))
abbrev ab:=Int×Int×ByteArray×Unit
abbrev af:Ty := .agg (.pair am (.pair ai .unit))
abbrev ac:=al×ab×Unit
abbrev ap:Ty := .agg (.pair am (.pair .str .unit))
abbrev ae:=al×ByteArray×Unit
abbrev bL:Ty := .agg (.pair am (.pair .bool (.pair .bool .unit)))
abbrev bJ:=al×Bool×Bool×Unit
abbrev aj:Ty := .agg (.pair (.int .i64) (.pair (.int .i64) (.pair ai (.pair bL (.pair bL (.pair (.slice 2 (.int .i64)) .unit))))))
abbrev aa:=Int×Int×ab×bJ×bJ×(List Int)×Unit
abbrev br:Ty := .agg (.pair (.slice 54 ap) (.pair (.slice 110 (.slice 163 aj)) (.pair (.slice 133 (.slice 3 (.int .i64))) .unit)))
abbrev lg:=(List ae)×(List (List aa))×(List (List Int))×Unit
abbrev bG:Ty := .agg (.pair am (.pair am .unit))
abbrev aM:=al×al×Unit
abbrev aN:Ty := .agg (.pair (.slice 5 (.int .u8)) (.pair (.int .i64) .unit))
abbrev aV:=(List Int)×Int×Unit
abbrev be:Ty := .agg (.pair .str (.pair (.slice 163 aj) (.pair .bool .unit)))
abbrev rh:=ByteArray×(List aa)×Bool×Unit
abbrev aZ:Ty := .agg (.pair .str (.pair (.int .i64) (.pair .bool (.pair (.slice 163 aj) .unit))))
abbrev lD:=ByteArray×Int×Bool×(List aa)×Unit
noncomputable def jC:an:={g:=5,fn:=Tryz.f5,sh:=(.pair (.val .bool) .unit),bx := .unit,own:=[],live:=[(8,[3,4,5])]}
noncomputable def ic:an:={g:=6,fn:=Tryz.f6,sh:=(.pair (.val .bool) .unit),bx := .unit,own:=[],live:=[(11,[4,6,7,8])]}
noncomputable def D5:an:={g:=8,fn:=Tryz.f8,sh:=(.pair (.row 65 af false) .unit),bx := .unit,own:=[],live:=[]}
noncomputable def D6:an:={g:=10,fn:=Tryz.f10,sh:=(.pair (.row 65 af false) .unit),bx := .unit,own:=[],live:=[]}
noncomputable def wc:an:={g:=18,fn:=Tryz.f18,sh:=(.pair (.row 65 af false) .unit),bx := .unit,own:=[],live:=[]}
noncomputable def lV:an:={g:=21,fn:=Tryz.f21,sh:=(.pair (.row 65 af false) .unit),bx := .unit,own:=[],live:=[(6,[1,7,8,9,31,32,33])]}
noncomputable def Ti:an:={g:=24,fn:=Tryz.f24,sh:=(.pair (.val .bool) .unit),bx := .unit,own:=[],live:=[]}
noncomputable def wd:an:={g:=25,fn:=Tryz.f25,sh:=(.pair (.row 54 ap false) .unit),bx := .unit,own:=[],live:=[]}
noncomputable def oA:an:={g:=26,fn:=Tryz.f26,sh:=(.pair (.val .bool) .unit),bx := .unit,own:=[],live:=[(4,[0,1,5])]}
noncomputable def tM:an:={g:=27,fn:=Tryz.f27,sh:=(.pair (.val .bool) .unit),bx := .unit,own:=[],live:=[(4,[0,3])]}
noncomputable def Jh:an:={g:=28,fn:=Tryz.f28,sh:=(.pair (.val ai) .unit),bx := .unit,own:=[],live:=[]}
noncomputable def pX:an:={g:=29,fn:=Tryz.f29,sh:=(.pair (.val ai) (.pair (.val .bool) .unit)),bx := .unit,own:=[],live:=[(9,[0,2,4,7])]}
noncomputable def D7:an:={g:=30,fn:=Tryz.f30,sh:=(.pair (.val .bool) .unit),bx := .unit,own:=[],live:=[]}
noncomputable def Pm:an:={g:=31,fn:=Tryz.f31,sh:=(.pair (.val ai) .unit),bx := .unit,own:=[],live:=[]}
noncomputable def rX:an:={g:=32,fn:=Tryz.f32,sh:=(.pair (.val .bool) .unit),bx := .unit,own:=[],live:=[(2,[0,5,6,7])]}
noncomputable def eQ:an:={g:=33,fn:=Tryz.f33,sh:=(.pair (.row 54 ap false) (.pair (.row 65 af false) (.pair (.row 52 am false) .unit))),bx := .unit,own:=[],live:=[(6,[5,6,7,8,9])]}
noncomputable def rY:an:={g:=34,fn:=Tryz.f34,sh:=(.pair (.val .bool) .unit),bx := .unit,own:=[],live:=[(4,[0,3])]}
noncomputable def tN:an:={g:=35,fn:=Tryz.f35,sh:=(.pair (.row 52 am false) .unit),bx := .unit,own:=[],live:=[(5,[0,5,20,21,22])]}
noncomputable def rZ:an:={g:=36,fn:=Tryz.f36,sh:=(.pair (.val .bool) .unit),bx := .unit,own:=[],live:=[(4,[0,1,5])]}
noncomputable def Gi:an:={g:=37,fn:=Tryz.f37,sh:=(.pair (.row 52 am false) .unit),bx := .unit,own:=[],live:=[]}
noncomputable def we:an:={g:=38,fn:=Tryz.f38,sh:=(.pair (.val .bool) .unit),bx := .unit,own:=[],live:=[(2,[0,3,5])]}
noncomputable def zH:an:={g:=40,fn:=Tryz.f40,sh:=(.pair (.row 65 af false) .unit),bx := .unit,own:=[],live:=[(3,[0,3,4])]}
noncomputable def tO:an:={g:=42,fn:=Tryz.f42,sh:=(.pair (.val .bool) .unit),bx := .unit,own:=[],live:=[(2,[0,5,6,7])]}
noncomputable def xX:an:={g:=43,fn:=Tryz.f43,sh:=(.pair (.row 65 af false) .unit),bx := .unit,own:=[],live:=[]}
noncomputable def eL:an:={g:=48,fn:=Tryz.f48,sh:=(.pair (.row 65 af false) .unit),bx := .unit,own:=[],live:=[(4,[0,1,2,7,8,9]),(9,[0,7,8]),(12,[0,7,8,10,11]),(23,[0,7,8,10,11,13,15,17,18,19])]}
noncomputable def dH:an:={g:=49,fn:=Tryz.f49,sh:=(.pair (.row 52 am false) .unit),bx := .unit,own:=[],live:=[(3,[0,5,6]),(6,[0,5,6,7]),(12,[0,5,6,7,8,9,10]),(15,[0,5,6,7,8,9,10,11]),(23,[0,5,12,13])]}
noncomputable def lE:an:={g:=52,fn:=Tryz.f52,sh:=(.pair (.strct (.pair (.val (.slice 54 ap)) (.pair (.row 110 (.slice 163 aj) false) (.pair (.row 133 (.slice 3 (.int .i64)) false) .unit)))) .unit),bx := .unit,own:=[],live:=[(3,[0,2,3,14,15,16]),(8,[0,2,3,6,8,9,14,15,16,29,30,31])]}
noncomputable def ee:an:={g:=53,fn:=Tryz.f53,sh:=(.pair (.row 4 .bool false) .unit),bx := .unit,own:=[],live:=[(3,[1,2,5,17,18,19]),(9,[2,5,9]),(12,[2,5,9,45,46,47])]}
noncomputable def wg:an:={g:=54,fn:=Tryz.f54,sh:=(.pair (.val ai) .unit),bx := .unit,own:=[],live:=[(2,[3,4,7,8,9])]}
noncomputable def eM:an:={g:=55,fn:=Tryz.f55,sh:=(.pair (.row 65 af false) .unit),bx := .unit,own:=[],live:=[(3,[2,3,7,8,20,21,22]),(10,[8,11,40,41])]}
noncomputable def Ji:an:={g:=57,fn:=Tryz.f57,sh:=(.pair (.ptr aN) .unit),bx := .unit,own:=[],live:=[]}
noncomputable def oB:an:={g:=58,fn:=Tryz.f58,sh:=(.pair (.row 54 ap false) .unit),bx:=(.pair (.val aN) .unit),own:=[],live:=[(3,[0,5,6])]}
noncomputable def Gj:an:={g:=59,fn:=Tryz.f59,sh:=(.pair (.val .str) (.pair (.val .bool) .unit)),bx := .unit,own:=[],live:=[]}
noncomputable def LN:an:={g:=60,fn:=Tryz.f60,sh:=(.pair (.val .bool) .unit),bx := .unit,own:=[],live:=[]}
noncomputable def Gk:an:={g:=61,fn:=Tryz.f61,sh:=(.pair (.val .bool) .unit),bx := .unit,own:=[],live:=[]}
noncomputable def qN:an:={g:=62,fn:=Tryz.f62,sh:=(.pair (.val .str) (.pair (.val .bool) .unit)),bx := .unit,own:=[],live:=[]}
noncomputable def LO:an:={g:=63,fn:=Tryz.f63,sh:=(.pair (.val ai) .unit),bx := .unit,own:=[],live:=[]}
noncomputable def qO:an:={g:=64,fn:=Tryz.f64,sh:=(.pair (.val .bool) .unit),bx := .unit,own:=[],live:=[]}
noncomputable def BI:an:={g:=65,fn:=Tryz.f65,sh:=(.pair (.val .str) .unit),bx := .unit,own:=[],live:=[]}
noncomputable def LP:an:={g:=66,fn:=Tryz.f66,sh:=(.pair (.val ai) .unit),bx := .unit,own:=[],live:=[]}
noncomputable def mj:an:={g:=67,fn:=Tryz.f67,sh:=(.pair (.val (.int .i64)) (.pair (.val .err) .unit)),bx := .unit,own:=[],live:=[],prim:=some (pW)}
noncomputable def Jj:an:={g:=68,fn:=Tryz.f68,sh:=(.pair (.val ai) .unit),bx := .unit,own:=[],live:=[]}
noncomputable def Gl:an:={g:=69,fn:=Tryz.f69,sh:=(.pair (.val .bool) .unit),bx := .unit,own:=[],live:=[]}
noncomputable def BJ:an:={g:=70,fn:=Tryz.f70,sh:=(.pair (.val .str) .unit),bx := .unit,own:=[],live:=[]}
noncomputable def dC:an:={g:=71,fn:=Tryz.f71,sh:=(.pair (.val (.int .i64)) .unit),bx:=(.pair (.val am) .unit),own:=[],live:=[(2,[0,1,7,8])]}
noncomputable def tm:an:={g:=72,fn:=Tryz.f72,sh:=(.pair (.val .bool) .unit),bx:=(.pair (.val am) .unit),own:=[],live:=[]}
noncomputable def lW:an:={g:=73,fn:=Tryz.f73,sh:=(.pair (.val .bool) .unit),bx := .unit,own:=[],live:=[(4,[1,2,5,6,7])]}
noncomputable def xY:an:={g:=74,fn:=Tryz.f74,sh:=(.pair (.row 163 aj false) (.pair (.val .bool) .unit)),bx := .unit,own:=[],live:=[]}
noncomputable def Pn:an:={g:=75,fn:=Tryz.f75,sh:=(.pair (.val ai) .unit),bx := .unit,own:=[],live:=[]}
noncomputable def LQ:an:={g:=76,fn:=Tryz.f76,sh:=(.pair (.val .bool) .unit),bx := .unit,own:=[],live:=[]}
noncomputable def xZ:an:={g:=77,fn:=Tryz.f77,sh:=(.pair (.val (.int .i64)) .unit),bx := .unit,own:=[],live:=[]}
noncomputable def tn:an:={g:=78,fn:=Tryz.f78,sh:=(.pair (.val (.int .i64)) .unit),bx:=(.pair (.val aN) .unit),own:=[],live:=[]}
noncomputable def D8:an:={g:=79,fn:=Tryz.f79,sh:=(.pair (.val am) .unit),bx:=(.pair (.val aN) .unit),own:=[],live:=[]}
noncomputable def LR:an:={g:=80,fn:=Tryz.f80,sh:=(.pair (.row 54 ap false) (.pair (.val .bool) .unit)),bx := .unit,own:=[],live:=[]}
noncomputable def AX:an:={g:=81,fn:=Tryz.f81,sh:=(.pair (.val .str) .unit),bx:=(.pair (.val aN) .unit),own:=[],live:=[]}
noncomputable def Gm:an:={g:=82,fn:=Tryz.f82,sh:=(.pair (.val .bool) .unit),bx := .unit,own:=[],live:=[]}
noncomputable def D9:an:={g:=83,fn:=Tryz.f83,sh:=(.pair (.val .bool) .unit),bx := .unit,own:=[],live:=[]}
noncomputable def zI:an:={g:=86,fn:=Tryz.f86,sh:=(.pair (.val .bool) .unit),bx := .unit,own:=[],live:=[(2,[0,3,5])]}
noncomputable def C7:an:={g:=87,fn:=Tryz.f87,sh:=(.pair (.val ai) .unit),bx := .unit,own:=[],live:=[(2,[0,3,4,5])]}
noncomputable def C8:an:={g:=88,fn:=Tryz.f88,sh:=(.pair (.val .str) .unit),bx := .unit,own:=[],live:=[(2,[0,3,5])]}
noncomputable def BK:an:={g:=89,fn:=Tryz.f89,sh:=(.pair (.row 163 aj false) (.pair (.val .bool) .unit)),bx := .unit,own:=[],live:=[]}
noncomputable def kp:an:={g:=90,fn:=Tryz.f90,sh:=(.pair (.val ai) (.pair (.val .bool) .unit)),bx := .unit,own:=[],live:=[(23,[0,2,4,5]),(27,[2,4])]}
noncomputable def Gn:an:={g:=91,fn:=Tryz.f91,sh:=(.pair (.val ai) .unit),bx := .unit,own:=[],live:=[]}
noncomputable def lF:an:={g:=92,fn:=Tryz.f92,sh:=(.pair (.val .bool) .unit),bx := .unit,own:=[],live:=[(3,[0,3,5,6]),(9,[0,3,5,6,7,8])]}
noncomputable def m8:an:={g:=93,fn:=Tryz.f93,sh:=(.pair (.row 52 am false) .unit),bx := .unit,own:=[],live:=[(4,[0,5,6,7]),(8,[0,5,6,7,8,9])]}
noncomputable def Po:an:={g:=94,fn:=Tryz.f94,sh:=(.pair (.val ai) .unit),bx := .unit,own:=[],live:=[]}
noncomputable def zJ:an:={g:=95,fn:=Tryz.f95,sh:=(.pair (.row 65 af false) .unit),bx := .unit,own:=[],live:=[(2,[0,3,5])]}
noncomputable def Gr:an:={g:=96,fn:=Tryz.f96,sh:=(.pair (.row 130 bG false) .unit),bx := .unit,own:=[],live:=[]}
noncomputable def Ea:an:={g:=97,fn:=Tryz.f97,sh:=(.pair (.val .bool) .unit),bx := .unit,own:=[],live:=[]}
noncomputable def BL:an:={g:=99,fn:=Tryz.f99,sh:=(.pair (.row 163 aj false) (.pair (.val .bool) .unit)),bx := .unit,own:=[],live:=[]}
noncomputable def tP:an:={g:=100,fn:=Tryz.f100,sh:=(.pair (.row 130 bG false) .unit),bx := .unit,own:=[],live:=[(3,[3,7,8,9])]}
noncomputable def Pp:an:={g:=101,fn:=Tryz.f101,sh:=(.pair (.val .bool) .unit),bx := .unit,own:=[],live:=[]}
noncomputable def pn:an:={g:=102,fn:=Tryz.f102,sh:=(.pair (.val .bool) .unit),bx := .unit,own:=[],live:=[]}
noncomputable def lX:an:={g:=103,fn:=Tryz.f103,sh:=(.pair (.val .bool) .unit),bx:=(.pair (.row 130 bG false) .unit),own:=[],live:=[]}
noncomputable def sy:an:={g:=104,fn:=Tryz.f104,sh:=(.pair (.val .bool) .unit),bx:=(.pair (.row 130 bG false) .unit),own:=[],live:=[]}
noncomputable def jk:an:={g:=105,fn:=Tryz.f105,sh:=(.pair (.val .bool) .unit),bx:=(.pair (.row 4 .bool false) .unit),own:=[],live:=[]}
noncomputable def sA:an:={g:=106,fn:=Tryz.f106,sh:=(.pair (.val .bool) .unit),bx:=(.pair (.row 4 .bool false) .unit),own:=[],live:=[]}
noncomputable def lh:an:={g:=107,fn:=Tryz.f107,sh:=(.pair (.row 4 .bool false) .unit),bx := .unit,own:=[],live:=[],prim:=some (fm 4 .bool 1)}
noncomputable def di:an:={g:=108,fn:=Tryz.f108,sh := .unit,bx:=(.pair (.row 4 .bool false) (.pair (.val br) (.pair (.row 65 af false) .unit))),own:=[],live:=[(3,[0,2,3,4,19,20,21])]}
noncomputable def Pq:an:={g:=109,fn:=Tryz.f109,sh:=(.pair (.val ai) .unit),bx := .unit,own:=[],live:=[]}
noncomputable def BM:an:={g:=110,fn:=Tryz.f110,sh:=(.pair (.val .bool) .unit),bx:=(.pair (.val aN) .unit),own:=[],live:=[]}
noncomputable def tQ:an:={g:=111,fn:=Tryz.f111,sh:=(.pair (.val .bool) .unit),bx := .unit,own:=[],live:=[(2,[0,3])]}
noncomputable def ya:an:={g:=112,fn:=Tryz.f112,sh:=(.pair (.row 163 aj false) (.pair (.val .bool) .unit)),bx := .unit,own:=[],live:=[]}
noncomputable def yb:an:={g:=113,fn:=Tryz.f113,sh:=(.pair (.val .str) .unit),bx := .unit,own:=[],live:=[]}
noncomputable def r5:an:={g:=114,fn:=Tryz.f114,sh:=(.pair (.val ai) (.pair (.val .bool) .unit)),bx := .unit,own:=[],live:=[(6,[0,2,4])]}
noncomputable def BN:an:={g:=115,fn:=Tryz.f115,sh:=(.pair (.val .str) .unit),bx := .unit,own:=[],live:=[]}
noncomputable def Ps:an:={g:=116,fn:=Tryz.f116,sh:=(.pair (.val .bool) .unit),bx := .unit,own:=[],live:=[]}
noncomputable def nI:an:={g:=117,fn:=Tryz.f117,sh:=(.pair (.val .str) (.pair (.val .bool) .unit)),bx := .unit,own:=[],live:=[]}
noncomputable def nJ:an:={g:=118,fn:=Tryz.f118,sh:=(.pair (.val .bool) .unit),bx := .unit,own:=[],live:=[]}
noncomputable def wh:an:={g:=121,fn:=Tryz.f121,sh:=(.pair (.val .bool) .unit),bx := .unit,own:=[],live:=[(2,[0,1,7,8])]}
noncomputable def Jk:an:={g:=122,fn:=Tryz.f122,sh:=(.pair (.val .bool) .unit),bx := .unit,own:=[],live:=[]}
noncomputable def Gs:an:={g:=123,fn:=Tryz.f123,sh:=(.pair (.val .str) .unit),bx := .unit,own:=[],live:=[]}
noncomputable def ml:an:={g:=124,fn:=Tryz.f124,sh:=(.pair (.row 3 (.int .i64) false) .unit),bx := .unit,own:=[],live:=[],prim:=some (fm 3 (.int .i64) 8)}
noncomputable def gn:an:={g:=125,fn:=Tryz.f125,sh:=(.pair (.val (.int .i64)) .unit),bx:=(.pair (.strct (.pair (.val .str) (.pair (.row 163 aj false) (.pair (.val .bool) .unit)))) .unit),own:=[],live:=[(2,[0,1,2,7]),(5,[0,1,2,7,8,9])]}
noncomputable def uW:an:={g:=126,fn:=Tryz.f126,sh := .unit,bx:=(.pair (.strct (.pair (.val .str) (.pair (.row 163 aj false) (.pair (.val .bool) .unit)))) .unit),own:=[],live:=[]}
noncomputable def BO:an:={g:=127,fn:=Tryz.f127,sh:=(.pair (.val .bool) .unit),bx := .unit,own:=[],live:=[]}
noncomputable def pY:an:={g:=128,fn:=Tryz.f128,sh:=(.pair (.val (.int .i64)) .unit),bx := .unit,own:=[],live:=[(3,[3,6,7,8])]}
noncomputable def qP:an:={g:=129,fn:=Tryz.f129,sh:=(.pair (.val (.int .i64)) .unit),bx := .unit,own:=[],live:=[]}
noncomputable def uX:an:={g:=130,fn:=Tryz.f130,sh:=(.pair (.val (.int .i64)) .unit),bx:=(.pair (.val aN) .unit),own:=[],live:=[]}
noncomputable def zK:an:={g:=131,fn:=Tryz.f131,sh:=(.pair (.row 54 ap false) .unit),bx := .unit,own:=[],live:=[(4,[0,2,4,7,8,9])]}
noncomputable def AY:an:={g:=132,fn:=Tryz.f132,sh:=(.pair (.val .str) .unit),bx:=(.pair (.val aN) .unit),own:=[],live:=[]}
noncomputable def zL:an:={g:=133,fn:=Tryz.f133,sh:=(.pair (.val .str) .unit),bx := .unit,own:=[],live:=[(4,[0,3])]}
noncomputable def Gt:an:={g:=134,fn:=Tryz.f134,sh:=(.pair (.val .str) (.pair (.val .bool) .unit)),bx := .unit,own:=[],live:=[]}
noncomputable def Jl:an:={g:=135,fn:=Tryz.f135,sh:=(.pair (.val .str) .unit),bx := .unit,own:=[],live:=[]}
noncomputable def zM:an:={g:=136,fn:=Tryz.f136,sh:=(.pair (.val (.int .i64)) (.pair (.val .bool) .unit)),bx := .unit,own:=[],live:=[(5,[0,6,7])]}
noncomputable def kq:an:={g:=137,fn:=Tryz.f137,sh:=(.pair (.val .bool) .unit),bx := .unit,own:=[],live:=[(4,[0,3]),(9,[0,3,4])]}
noncomputable def Jm:an:={g:=138,fn:=Tryz.f138,sh:=(.pair (.val ai) .unit),bx := .unit,own:=[],live:=[]}
noncomputable def LS:an:={g:=139,fn:=Tryz.f139,sh:=(.pair (.val ai) .unit),bx := .unit,own:=[],live:=[]}
noncomputable def tR:an:={g:=140,fn:=Tryz.f140,sh:=(.pair (.row 130 bG false) .unit),bx := .unit,own:=[],live:=[(5,[0,3,4])]}
noncomputable def AZ:an:={g:=141,fn:=Tryz.f141,sh:=(.pair (.val bG) .unit),bx := .unit,own:=[],live:=[]}
noncomputable def li:an:={g:=142,fn:=Tryz.f142,sh:=(.pair (.val .bool) .unit),bx:=(.pair (.val am) .unit),own:=[],live:=[]}
noncomputable def BP:an:={g:=143,fn:=Tryz.f143,sh:=(.pair (.val .bool) .unit),bx:=(.pair (.val am) .unit),own:=[],live:=[]}
noncomputable def Eb:an:={g:=144,fn:=Tryz.f144,sh:=(.pair (.val .bool) .unit),bx := .unit,own:=[],live:=[]}
noncomputable def jD:an:={g:=145,fn:=Tryz.f145,sh:=(.pair (.val (.int .i64)) .unit),bx := .unit,own:=[],live:=[(2,[0,3,7,8])]}
noncomputable def dR:an:={g:=146,fn:=Tryz.f146,sh:=(.pair (.val (.int .i64)) .unit),bx:=(.pair (.row 130 bG false) .unit),own:=[],live:=[(2,[0,1,7,8])]}
noncomputable def cG:an:={g:=147,fn:=Tryz.f147,sh:=(.pair (.val (.int .i64)) .unit),bx:=(.pair (.row 4 .bool false) .unit),own:=[],live:=[(2,[0,1,7,8])]}
noncomputable def Pt:an:={g:=148,fn:=Tryz.f148,sh:=(.pair (.val ai) .unit),bx := .unit,own:=[],live:=[]}
noncomputable def r6:an:={g:=149,fn:=Tryz.f149,sh:=(.pair (.val (.int .i64)) .unit),bx:=(.pair (.strct (.pair (.val .str) (.pair (.val (.int .i64)) (.pair (.val .bool) (.pair (.row 163 aj false) .unit))))) .unit),own:=[],live:=[(6,[0,1,5])]}
noncomputable def m9:an:={g:=150,fn:=Tryz.f150,sh := .unit,bx:=(.pair (.strct (.pair (.val .str) (.pair (.val (.int .i64)) (.pair (.val .bool) (.pair (.row 163 aj false) .unit))))) .unit),own:=[],live:=[(0,[0])]}
noncomputable def wi:an:={g:=151,fn:=Tryz.f151,sh:=(.pair (.val .str) .unit),bx := .unit,own:=[],live:=[(21,[0,7,10,11])]}
noncomputable def Jn:an:={g:=152,fn:=Tryz.f152,sh:=(.pair (.val .str) .unit),bx := .unit,own:=[],live:=[]}
noncomputable def lQ:an:={g:=158,fn:=Tryz.f158,sh:=(.pair (.val .str) .unit),bx := .unit,own:=[],live:=[],prim:=some (C5)}
noncomputable def wj:an:={g:=159,fn:=Tryz.f159,sh:=(.pair (.val (.int .i64)) .unit),bx:=(.pair (.strct (.pair (.val .str) (.pair (.row 163 aj false) (.pair (.val .bool) .unit)))) .unit),own:=[],live:=[]}
noncomputable def na:an:={g:=160,fn:=Tryz.f160,sh:=(.pair (.val .str) .unit),bx:=(.pair (.strct (.pair (.val .str) (.pair (.row 163 aj false) (.pair (.val .bool) .unit)))) .unit),own:=[],live:=[(3,[0,7,8,9])]}
noncomputable def Jo:an:={g:=161,fn:=Tryz.f161,sh:=(.pair (.val .str) .unit),bx := .unit,own:=[],live:=[]}
noncomputable def LU:an:={g:=162,fn:=Tryz.f162,sh:=(.pair (.val (.int .i64)) .unit),bx := .unit,own:=[],live:=[]}
noncomputable def yc:an:={g:=163,fn:=Tryz.f163,sh:=(.pair (.val .bool) .unit),bx:=(.pair (.strct (.pair (.val .str) (.pair (.row 163 aj false) (.pair (.val .bool) .unit)))) .unit),own:=[],live:=[]}
noncomputable def A0:an:={g:=164,fn:=Tryz.f164,sh:=(.pair (.val (.int .i64)) .unit),bx:=(.pair (.strct (.pair (.val .str) (.pair (.row 163 aj false) (.pair (.val .bool) .unit)))) .unit),own:=[],live:=[]}
noncomputable def mm:an:={g:=165,fn:=Tryz.f165,sh:=(.pair (.val .str) .unit),bx := .unit,own:=[],live:=[],prim:=some (pV)}
noncomputable def C9:an:={g:=166,fn:=Tryz.f166,sh:=(.pair (.val (.int .i64)) .unit),bx := .unit,own:=[],live:=[(5,[0,1,2,7,8])]}
noncomputable def tA:an:={g:=167,fn:=Tryz.f167,sh:=(.pair (.val .bool) .unit),bx := .unit,own:=[],live:=[]}
noncomputable def BQ:an:={g:=168,fn:=Tryz.f168,sh:=(.pair (.val .str) .unit),bx := .unit,own:=[],live:=[]}
noncomputable def BR:an:={g:=169,fn:=Tryz.f169,sh:=(.pair (.val bG) .unit),bx:=(.pair (.val aN) .unit),own:=[],live:=[]}
noncomputable def Jp:an:={g:=170,fn:=Tryz.f170,sh:=(.pair (.val .str) .unit),bx := .unit,own:=[],live:=[]}
noncomputable def Ec:an:={g:=171,fn:=Tryz.f171,sh:=(.pair (.val .str) (.pair (.val .bool) .unit)),bx := .unit,own:=[],live:=[]}
noncomputable def Ed:an:={g:=172,fn:=Tryz.f172,sh:=(.pair (.val .bool) .unit),bx := .unit,own:=[],live:=[]}
noncomputable def Ee:an:={g:=173,fn:=Tryz.f173,sh:=(.pair (.val .bool) .unit),bx := .unit,own:=[],live:=[]}
noncomputable def wk:an:={g:=174,fn:=Tryz.f174,sh:=(.pair (.val (.int .i64)) .unit),bx := .unit,own:=[],live:=[(3,[0,1,5,6])]}
noncomputable def wl:an:={g:=175,fn:=Tryz.f175,sh:=(.pair (.val (.int .i64)) .unit),bx := .unit,own:=[],live:=[(3,[0,1,5,6])]}
noncomputable def Gu:an:={g:=176,fn:=Tryz.f176,sh:=(.pair (.val ai) .unit),bx := .unit,own:=[],live:=[]}
noncomputable def Jq:an:={g:=177,fn:=Tryz.f177,sh:=(.pair (.val ai) .unit),bx := .unit,own:=[],live:=[]}
noncomputable def Tj:an:={g:=178,fn:=Tryz.f178,sh:=(.pair (.val ai) .unit),bx := .unit,own:=[],live:=[]}
noncomputable def Pu:an:={g:=179,fn:=Tryz.f179,sh:=(.pair (.val ai) .unit),bx := .unit,own:=[],live:=[]}
noncomputable def LV:an:={g:=180,fn:=Tryz.f180,sh:=(.pair (.val ai) .unit),bx := .unit,own:=[],live:=[]}
noncomputable def Pv:an:={g:=181,fn:=Tryz.f181,sh:=(.pair (.val ai) .unit),bx := .unit,own:=[],live:=[]}
noncomputable def Jr:an:={g:=182,fn:=Tryz.f182,sh:=(.pair (.val ai) .unit),bx := .unit,own:=[],live:=[]}
noncomputable def Pw:an:={g:=183,fn:=Tryz.f183,sh:=(.pair (.val ai) .unit),bx := .unit,own:=[],live:=[]}
noncomputable def dD:an:={g:=184,fn:=Tryz.f184,sh:=(.pair (.val (.int .i64)) .unit),bx:=(.pair (.val am) .unit),own:=[],live:=[(2,[0,1,7,8])]}
noncomputable def Gv:an:={g:=185,fn:=Tryz.f185,sh:=(.pair (.val ai) .unit),bx := .unit,own:=[],live:=[]}
noncomputable def Js:an:={g:=186,fn:=Tryz.f186,sh:=(.pair (.val ai) .unit),bx := .unit,own:=[],live:=[]}
noncomputable def Tk:an:={g:=187,fn:=Tryz.f187,sh:=(.pair (.val ai) .unit),bx := .unit,own:=[],live:=[]}
noncomputable def Px:an:={g:=188,fn:=Tryz.f188,sh:=(.pair (.val ai) .unit),bx := .unit,own:=[],live:=[]}
noncomputable def LW:an:={g:=189,fn:=Tryz.f189,sh:=(.pair (.val ai) .unit),bx := .unit,own:=[],live:=[]}
noncomputable def Py:an:={g:=190,fn:=Tryz.f190,sh:=(.pair (.val ai) .unit),bx := .unit,own:=[],live:=[]}
noncomputable def Jt:an:={g:=191,fn:=Tryz.f191,sh:=(.pair (.val ai) .unit),bx := .unit,own:=[],live:=[]}
noncomputable def Pz:an:={g:=192,fn:=Tryz.f192,sh:=(.pair (.val ai) .unit),bx := .unit,own:=[],live:=[]}
noncomputable def lG:an:={g:=193,fn:=Tryz.f193,sh:=(.pair (.val (.int .i64)) .unit),bx:=(.pair (.strct (.pair (.val .str) (.pair (.val (.int .i64)) (.pair (.val .bool) (.pair (.row 163 aj false) .unit))))) .unit),own:=[],live:=[(13,[0,5]),(23,[0,7,8])]}
noncomputable def nc:an:={g:=194,fn:=Tryz.f194,sh:=(.pair (.val (.int .i64)) .unit),bx:=(.pair (.strct (.pair (.val .str) (.pair (.val (.int .i64)) (.pair (.val .bool) (.pair (.row 163 aj false) .unit))))) .unit),own:=[],live:=[(3,[0,1,5,6])]}
noncomputable def Ef:an:={g:=195,fn:=Tryz.f195,sh:=(.pair (.val (.int .i64)) .unit),bx:=(.pair (.strct (.pair (.val .str) (.pair (.val (.int .i64)) (.pair (.val .bool) (.pair (.row 163 aj false) .unit))))) .unit),own:=[],live:=[]}
noncomputable def tS:an:={g:=196,fn:=Tryz.f196,sh:=(.pair (.val .str) .unit),bx := .unit,own:=[],live:=[(3,[0,3,4])]}
noncomputable def Gw:an:={g:=197,fn:=Tryz.f197,sh:=(.pair (.val (.int .i64)) .unit),bx := .unit,own:=[],live:=[]}
noncomputable def PA:an:={g:=198,fn:=Tryz.f198,sh:=(.pair (.val .str) .unit),bx := .unit,own:=[],live:=[]}
noncomputable def iE:an:={g:=205,fn:=Tryz.f205,sh:=(.pair (.val (.int .i64)) .unit),bx:=(.pair (.strct (.pair (.val .str) (.pair (.row 163 aj false) (.pair (.val .bool) .unit)))) .unit),own:=[],live:=[(6,[0,1,5]),(24,[0,1,9,14])]}
noncomputable def ye:an:={g:=210,fn:=Tryz.f210,sh:=(.pair (.val .bool) .unit),bx := .unit,own:=[],live:=[]}
noncomputable def tT:an:={g:=211,fn:=Tryz.f211,sh:=(.pair (.val .str) .unit),bx := .unit,own:=[],live:=[(4,[0,3])]}
noncomputable def Eg:an:={g:=212,fn:=Tryz.f212,sh:=(.pair (.val (.int .i64)) .unit),bx:=(.pair (.val aN) .unit),own:=[],live:=[]}
noncomputable def yf:an:={g:=213,fn:=Tryz.f213,sh:=(.pair (.val .str) .unit),bx := .unit,own:=[],live:=[]}
noncomputable def pZ:an:={g:=214,fn:=Tryz.f214,sh:=(.pair (.val .str) .unit),bx := .unit,own:=[],live:=[]}
noncomputable def ri:an:={g:=215,fn:=Tryz.f215,sh:=(.pair (.val .str) .unit),bx := .unit,own:=[],live:=[],prim:=some (zF)}
noncomputable def Ju:an:={g:=216,fn:=Tryz.f216,sh:=(.pair (.val .bool) .unit),bx := .unit,own:=[],live:=[]}
noncomputable def Jv:an:={g:=217,fn:=Tryz.f217,sh:=(.pair (.val .bool) .unit),bx := .unit,own:=[],live:=[]}
noncomputable def LX:an:={g:=218,fn:=Tryz.f218,sh:=(.pair (.val (.int .i64)) (.pair (.val ai) .unit)),bx := .unit,own:=[],live:=[]}
noncomputable def Jw:an:={g:=219,fn:=Tryz.f219,sh:=(.pair (.val .bool) (.pair (.val ai) .unit)),bx := .unit,own:=[],live:=[]}
noncomputable def Jx:an:={g:=220,fn:=Tryz.f220,sh:=(.pair (.val ai) .unit),bx := .unit,own:=[],live:=[]}
noncomputable def Jy:an:={g:=221,fn:=Tryz.f221,sh:=(.pair (.val .str) (.pair (.val ai) .unit)),bx := .unit,own:=[],live:=[]}
noncomputable def wm:an:={g:=222,fn:=Tryz.f222,sh:=(.pair (.val ai) .unit),bx := .unit,own:=[],live:=[(6,[0,1,4,5,6,7,8,9])]}
noncomputable def po:an:={g:=223,fn:=Tryz.f223,sh:=(.pair (.row 49 ai false) .unit),bx := .unit,own:=[],live:=[(3,[0,1,2,7,8]),(10,[0,1,2,7,8,10,11])]}
noncomputable def LY:an:={g:=224,fn:=Tryz.f224,sh:=(.pair (.val (.int .i64)) (.pair (.val (.int .i64)) (.pair (.val ai) .unit))),bx := .unit,own:=[],live:=[]}
noncomputable def LZ:an:={g:=225,fn:=Tryz.f225,sh:=(.pair (.val (.int .i64)) .unit),bx := .unit,own:=[],live:=[]}
noncomputable def Jz:an:={g:=226,fn:=Tryz.f226,sh:=(.pair (.val ai) .unit),bx := .unit,own:=[],live:=[]}
noncomputable def JA:an:={g:=227,fn:=Tryz.f227,sh:=(.pair (.val ai) .unit),bx := .unit,own:=[],live:=[]}
noncomputable def JB:an:={g:=228,fn:=Tryz.f228,sh:=(.pair (.val ai) .unit),bx := .unit,own:=[],live:=[]}
noncomputable def r7:an:={g:=229,fn:=Tryz.f229,sh:=(.pair (.val ai) .unit),bx := .unit,own:=[],live:=[(3,[0,4,5,6,11,12,13])]}
noncomputable def lH:an:={g:=230,fn:=Tryz.f230,sh:=(.pair (.row 49 ai false) .unit),bx := .unit,own:=[],live:=[(3,[0,2,7,14,15,16]),(8,[0,2,7,9,14,15,16,33,34,35])]}
noncomputable def wn:an:={g:=231,fn:=Tryz.f231,sh:=(.pair (.val ai) .unit),bx := .unit,own:=[],live:=[(3,[2,3,7,8,9])]}
noncomputable def r8:an:={g:=232,fn:=Tryz.f232,sh:=(.pair (.val ai) .unit),bx := .unit,own:=[],live:=[(3,[0,4,5,6,7,10,11,12])]}
noncomputable def n7:an:={g:=233,fn:=Tryz.f233,sh:=(.pair (.val ai) .unit),bx := .unit,own:=[],live:=[]}
noncomputable def L0:an:={g:=234,fn:=Tryz.f234,sh:=(.pair (.val ai) .unit),bx := .unit,own:=[],live:=[]}
noncomputable def Gx:an:={g:=235,fn:=Tryz.f235,sh:=(.pair (.val ai) .unit),bx := .unit,own:=[],live:=[]}
noncomputable def JC:an:={g:=236,fn:=Tryz.f236,sh:=(.pair (.val ai) .unit),bx := .unit,own:=[],live:=[]}
noncomputable def Gy:an:={g:=237,fn:=Tryz.f237,sh:=(.pair (.val ai) .unit),bx := .unit,own:=[],live:=[]}
noncomputable def JD:an:={g:=238,fn:=Tryz.f238,sh:=(.pair (.val ai) .unit),bx := .unit,own:=[],live:=[]}
noncomputable def JE:an:={g:=239,fn:=Tryz.f239,sh:=(.pair (.val .str) (.pair (.val .bool) .unit)),bx := .unit,own:=[],live:=[]}
noncomputable def PB:an:={g:=240,fn:=Tryz.f240,sh:=(.pair (.val ai) .unit),bx := .unit,own:=[],live:=[]}
noncomputable def L1:an:={g:=241,fn:=Tryz.f241,sh:=(.pair (.val (.int .i64)) .unit),bx := .unit,own:=[],live:=[]}
noncomputable def Gz:an:={g:=242,fn:=Tryz.f242,sh:=(.pair (.val .bool) .unit),bx:=(.pair (.strct (.pair (.val .str) (.pair (.val (.int .i64)) (.pair (.val .bool) (.pair (.row 163 aj false) .unit))))) .unit),own:=[],live:=[]}
noncomputable def p3:an:={g:=243,fn:=Tryz.f243,sh:=(.pair (.val (.int .i64)) .unit),bx:=(.pair (.strct (.pair (.val .str) (.pair (.val (.int .i64)) (.pair (.val .bool) (.pair (.row 163 aj false) .unit))))) .unit),own:=[],live:=[(2,[0,3])]}
noncomputable def p4:an:={g:=244,fn:=Tryz.f244,sh:=(.pair (.val .str) .unit),bx:=(.pair (.strct (.pair (.val .str) (.pair (.val (.int .i64)) (.pair (.val .bool) (.pair (.row 163 aj false) .unit))))) .unit),own:=[],live:=[(2,[0,3])]}
noncomputable def kt:an:={g:=245,fn:=Tryz.f245,sh:=(.pair (.val (.int .i64)) .unit),bx:=(.pair (.strct (.pair (.val .str) (.pair (.val (.int .i64)) (.pair (.val .bool) (.pair (.row 163 aj false) .unit))))) .unit),own:=[],live:=[(2,[0,1,5])]}
noncomputable def p5:an:={g:=246,fn:=Tryz.f246,sh:=(.pair (.val bL) (.pair (.val .bool) .unit)),bx := .unit,own:=[],live:=[(6,[0,2,4,5])]}
noncomputable def kU:an:={g:=252,fn:=Tryz.f252,sh:=(.pair (.val (.int .i64)) .unit),bx:=(.pair (.strct (.pair (.val .str) (.pair (.row 163 aj false) (.pair (.val .bool) .unit)))) .unit),own:=[],live:=[(2,[0,3,4])]}
noncomputable def sB:an:={g:=253,fn:=Tryz.f253,sh:=(.pair (.val (.int .i64)) .unit),bx:=(.pair (.strct (.pair (.val .str) (.pair (.row 163 aj false) (.pair (.val .bool) .unit)))) .unit),own:=[],live:=[]}
noncomputable def yg:an:={g:=254,fn:=Tryz.f254,sh:=(.pair (.val .str) .unit),bx:=(.pair (.strct (.pair (.val .str) (.pair (.row 163 aj false) (.pair (.val .bool) .unit)))) .unit),own:=[],live:=[]}
noncomputable def BS:an:={g:=255,fn:=Tryz.f255,sh:=(.pair (.val bL) (.pair (.val .bool) .unit)),bx := .unit,own:=[],live:=[]}
noncomputable def JF:an:={g:=256,fn:=Tryz.f256,sh:=(.pair (.val .str) .unit),bx := .unit,own:=[],live:=[]}
noncomputable def iG:an:={g:=257,fn:=Tryz.f257,sh:=(.pair (.val (.int .i64)) .unit),bx:=(.pair (.strct (.pair (.val .str) (.pair (.row 163 aj false) (.pair (.val .bool) .unit)))) .unit),own:=[],live:=[(3,[0,1,2,7])]}
noncomputable def tB:an:={g:=261,fn:=Tryz.f261,sh:=(.pair (.val .bool) .unit),bx := .unit,own:=[],live:=[]}
noncomputable def wo:an:={g:=262,fn:=Tryz.f262,sh:=(.pair (.val .bool) .unit),bx := .unit,own:=[],live:=[]}
noncomputable def BT:an:={g:=263,fn:=Tryz.f263,sh:=(.pair (.val (.int .i64)) .unit),bx:=(.pair (.val aN) .unit),own:=[],live:=[]}
noncomputable def nd:an:={g:=264,fn:=Tryz.f264,sh:=(.pair (.val .str) .unit),bx := .unit,own:=[],live:=[(21,[0,7,10,92,93,94])]}
noncomputable def mn:an:={g:=265,fn:=Tryz.f265,sh:=(.pair (.val .str) .unit),bx := .unit,own:=[],live:=[]}
noncomputable def JG:an:={g:=269,fn:=Tryz.f269,sh:=(.pair (.val (.int .i64)) .unit),bx := .unit,own:=[],live:=[]}
noncomputable def GA:an:={g:=270,fn:=Tryz.f270,sh:=(.pair (.val .bool) (.pair (.val .bool) .unit)),bx := .unit,own:=[],live:=[]}
noncomputable def Eh:an:={g:=271,fn:=Tryz.f271,sh:=(.pair (.val (.int .i64)) (.pair (.val .bool) .unit)),bx := .unit,own:=[],live:=[]}
noncomputable def BU:an:={g:=272,fn:=Tryz.f272,sh:=(.pair (.val .str) .unit),bx := .unit,own:=[],live:=[]}
noncomputable def p6:an:={g:=273,fn:=Tryz.f273,sh:=(.pair (.val (.int .i64)) .unit),bx := .unit,own:=[],live:=[]}
noncomputable def Ei:an:={g:=274,fn:=Tryz.f274,sh:=(.pair (.val (.int .i64)) .unit),bx:=(.pair (.strct (.pair (.val .str) (.pair (.val (.int .i64)) (.pair (.val .bool) (.pair (.row 163 aj false) .unit))))) .unit),own:=[],live:=[]}
noncomputable def tU:an:={g:=275,fn:=Tryz.f275,sh:=(.pair (.val (.int .i64)) .unit),bx := .unit,own:=[],live:=[(2,[0,3])]}
noncomputable def to:an:={g:=281,fn:=Tryz.f281,sh:=(.pair (.val .str) (.pair (.val .str) (.pair (.val .bool) .unit))),bx := .unit,own:=[],live:=[],prim:=some (C6)}
noncomputable def tV:an:={g:=282,fn:=Tryz.f282,sh:=(.pair (.val (.int .i64)) .unit),bx := .unit,own:=[],live:=[(2,[0,3])]}
noncomputable def BV:an:={g:=283,fn:=Tryz.f283,sh:=(.pair (.val .str) .unit),bx := .unit,own:=[],live:=[]}
noncomputable def sC:an:={g:=284,fn:=Tryz.f284,sh:=(.pair (.strct (.pair (.val (.int .i64)) (.pair (.val (.int .i64)) (.pair (.val ai) (.pair (.val bL) (.pair (.val bL) (.pair (.row 2 (.int .i64) false) .unit))))))) (.pair (.val .bool) .unit)),bx:=(.pair (.strct (.pair (.val .str) (.pair (.row 163 aj false) (.pair (.val .bool) .unit)))) .unit),own:=[],live:=[]}
noncomputable def JH:an:={g:=287,fn:=Tryz.f287,sh:=(.pair (.val .bool) .unit),bx := .unit,own:=[],live:=[]}
noncomputable def p7:an:={g:=288,fn:=Tryz.f288,sh:=(.pair (.val (.int .u64)) .unit),bx:=(.pair (.val aN) .unit),own:=[],live:=[(3,[0,3,4])]}
noncomputable def kV:an:={g:=289,fn:=Tryz.f289,sh:=(.pair (.val .str) .unit),bx := .unit,own:=[],live:=[],prim:=some (rV)}
noncomputable def rj:an:={g:=290,fn:=Tryz.f290,sh:=(.pair (.val .str) .unit),bx := .unit,own:=[],live:=[],prim:=some (zG Vt)}
noncomputable def sD:an:={g:=292,fn:=Tryz.f292,sh:=(.pair (.val .bool) .unit),bx := .unit,own:=[],live:=[]}
noncomputable def GB:an:={g:=296,fn:=Tryz.f296,sh:=(.pair (.val .str) .unit),bx := .unit,own:=[],live:=[]}
noncomputable def E:cO:={ty:=[(2,(.int .i64)),(3,(.int .i64)),(4,.bool),(5,(.int .u8)),(9,.str),(24,(.slice 65 af)),(26,(.slice 54 ap)),(39,(.slice 52 am)),(44,(.slice 5 (.int .u8))),(49,ai),(52,am),(54,ap),(65,af),(80,(.slice 110 (.slice 163 aj))),(81,(.slice 133 (.slice 3 (.int .i64)))),(83,br),(85,(.slice 49 ai)),(86,(.slice 4 .bool)),(95,.fn),(102,.err),(108,.fn),(109,.fn),(110,(.slice 163 aj)),(126,(.slice 130 bG)),(130,bG),(133,(.slice 3 (.int .i64))),(138,.fn),(140,aN),(143,(.slice 9 .str)),(149,be),(160,bL),(161,(.slice 2 (.int .i64))),(163,aj),(166,.fn),(172,aZ),(176,(.int .u64)),(230,.fn)],by_:=[(2,8),(3,8),(4,1),(9,16),(49,32),(52,16),(54,32),(65,48),(110,24),(130,32),(133,24),(163,120)],fns:=[(5,jC),(6,ic),(8,D5),(10,D6),(18,wc),(21,lV),(24,Ti),(25,wd),(26,oA),(27,tM),(28,Jh),(29,pX),(30,D7),(31,Pm),(32,rX),(33,eQ),(34,rY),(35,tN),(36,rZ),(37,Gi),(38,we),(40,zH),(42,tO),(43,xX),(48,eL),(49,dH),(52,lE),(53,ee),(54,wg),(55,eM),(57,Ji),(58,oB),(59,Gj),(60,LN),(61,Gk),(62,qN),(63,LO),(64,qO),(65,BI),(66,LP),(67,mj),(68,Jj),(69,Gl),(70,BJ),(71,dC),(72,tm),(73,lW),(74,xY),(75,Pn),(76,LQ),(77,xZ),(78,tn),(79,D8),(80,LR),(81,AX),(82,Gm),(83,D9),(86,zI),(87,C7),(88,C8),(89,BK),(90,kp),(91,Gn),(92,lF),(93,m8),(94,Po),(95,zJ),(96,Gr),(97,Ea),(99,BL),(100,tP),(101,Pp),(102,pn),(103,lX),(104,sy),(105,jk),(106,sA),(107,lh),(108,di),(109,Pq),(110,BM),(111,tQ),(112,ya),(113,yb),(114,r5),(115,BN),(116,Ps),(117,nI),(118,nJ),(121,wh),(122,Jk),(123,Gs),(124,ml),(125,gn),(126,uW),(127,BO),(128,pY),(129,qP),(130,uX),(131,zK),(132,AY),(133,zL),(134,Gt),(135,Jl),(136,zM),(137,kq),(138,Jm),(139,LS),(140,tR),(141,AZ),(142,li),(143,BP),(144,Eb),(145,jD),(146,dR),(147,cG),(148,Pt),(149,r6),(150,m9),(151,wi),(152,Jn),(158,lQ),(159,wj),(160,na),(161,Jo),(162,LU),(163,yc),(164,A0),(165,mm),(166,C9),(167,tA),(168,BQ),(169,BR),(170,Jp),(171,Ec),(172,Ed),(173,Ee),(174,wk),(175,wl),(176,Gu),(177,Jq),(178,Tj),(179,Pu),(180,LV),(181,Pv),(182,Jr),(183,Pw),(184,dD),(185,Gv),(186,Js),(187,Tk),(188,Px),(189,LW),(190,Py),(191,Jt),(192,Pz),(193,lG),(194,nc),(195,Ef),(196,tS),(197,Gw),(198,PA),(205,iE),(210,ye),(211,tT),(212,Eg),(213,yf),(214,pZ),(215,ri),(216,Ju),(217,Jv),(218,LX),(219,Jw),(220,Jx),(221,Jy),(222,wm),(223,po),(224,LY),(225,LZ),(226,Jz),(227,JA),(228,JB),(229,r7),(230,lH),(231,wn),(232,r8),(233,n7),(234,L0),(235,Gx),(236,JC),(237,Gy),(238,JD),(239,JE),(240,PB),(241,L1),(242,Gz),(243,p3),(244,p4),(245,kt),(246,p5),(252,kU),(253,sB),(254,yg),(255,BS),(256,JF),(257,iG),(261,tB),(262,wo),(263,BT),(264,nd),(265,mn),(269,JG),(270,GA),(271,Eh),(272,BU),(273,p6),(274,Ei),(275,tU),(281,to),(282,tV),(283,BV),(284,sC),(287,JH),(288,p7),(289,kV),(290,rj),(292,sD),(296,GB)],eqs:=[(49,ai),(52,am),(65,af),(160,bL)],tails:=[],cuts:=[]}
noncomputable def QH (x0:(List Int)):Option ((Bool×Unit)×Unit):=ah E Ti [.val (.slice 5 (.int .u8)) x0] []
noncomputable def Da (x0:(List Int)):Option ((aV×Unit)×Unit):=ah E Ji [.val (.slice 5 (.int .u8)) x0] []
noncomputable def tW (x0:(List Int)) (x1:Int):Option ((Int×Unit)×(aV×Unit)):=ah E uX [.ptr 0 aN []] [(0,.box aN (.strct [.val (.slice 5 (.int .u8)) x0,.val (.int .i64) x1]))]
noncomputable def jV (x0:aV):Option ((Int×Unit)×(aV×Unit)):=ah E uX [.ptr 0 aN []] [(0,.box aN (.val aN x0))]
noncomputable def xo (x0:Int) (x1:(List Int)) (x2:Int):Option ((Int×Unit)×(aV×Unit)):=ah E tn [.ptr 0 aN [],.val (.int .i64) x0] [(0,.box aN (.strct [.val (.slice 5 (.int .u8)) x1,.val (.int .i64) x2]))]
noncomputable def aA (x0:Int) (x1:aV):Option ((Int×Unit)×(aV×Unit)):=ah E tn [.ptr 0 aN [],.val (.int .i64) x0] [(0,.box aN (.val aN x1))]
noncomputable def ef (x0:aV):Option ((al×Unit)×(aV×Unit)):=ah E D8 [.ptr 0 aN []] [(0,.box aN (.val aN x0))]
noncomputable def cy (x0:Int) (x1:aV):Option ((Bool×Unit)×(aV×Unit)):=ah E BM [.ptr 0 aN [],.val (.int .i64) x0] [(0,.box aN (.val aN x1))]
noncomputable def lY (x0:Int) (x1:Int) (x2:Int):Option ((Bool×Unit)×Unit):=ah E Ps [.val (.int .i64) x0,.val (.int .i64) x1,.val (.int .i64) x2] []
noncomputable def eG (x0:al):Option ((Bool×Unit)×Unit):=ah E LN [.val am x0] []
noncomputable def uY (x0:Int):Option ((ByteArray×Unit)×Unit):=ah E tT [.val (.int .i64) x0] []
noncomputable def dY (x0:Int):Option ((ByteArray×Unit)×Unit):=ah E zL [.val (.int .i64) x0] []
noncomputable def c8 (x0:bJ):Option ((ByteArray×Unit)×Unit):=ah E BQ [.val bL x0] []
noncomputable def bg (x0:Int) (x1:aV):Option ((ByteArray×Unit)×(aV×Unit)):=ah E AY [.ptr 0 aN [],.val (.int .i64) x0] [(0,.box aN (.val aN x1))]
noncomputable def zN (x0:aV):Option ((Int×Unit)×(aV×Unit)):=ah E p7 [.ptr 0 aN []] [(0,.box aN (.val aN x0))]
noncomputable def zO (x0:Int) (x1:Int) (x2:aV):Option ((Int×Unit)×(aV×Unit)):=ah E BT [.ptr 0 aN [],.val (.int .i64) x0,.val (.int .i64) x1] [(0,.box aN (.val aN x2))]
noncomputable def BW (x0:Int) (x1:Int) (x2:aV):Option ((Int×Unit)×(aV×Unit)):=ah E Eg [.ptr 0 aN [],.val (.int .i64) x0,.val (.int .i64) x1] [(0,.box aN (.val aN x2))]
noncomputable def p8 (x0:aV):Option ((aM×Unit)×(aV×Unit)):=ah E BR [.ptr 0 aN []] [(0,.box aN (.val aN x0))]
noncomputable def lI (x0:Int):Option ((ByteArray×Unit)×Unit):=ah E Jp [.val (.int .i64) x0] []
noncomputable def jW (x0:aV):Option ((ByteArray×Unit)×(aV×Unit)):=ah E AX [.ptr 0 aN []] [(0,.box aN (.val aN x0))]
noncomputable def uZ (x0:ByteArray):Option ((Bool×Unit)×Unit):=ah E tQ [.val .str x0] []
noncomputable def ku (x0:ByteArray) (x1:Int) (x2:Bool) (x3:(List aa)):Option (Unit×((ByteArray×(Int×(Bool×((List aa)×Unit))))×Unit)):=ah E m9 [.ptr 0 aZ []] [(0,.box aZ (.strct [.val .str x0,.val (.int .i64) x1,.val .bool x2,.row 1])),(1,.row 163 aj x3 false)]
noncomputable def ej (x0:ByteArray) (x1:ByteArray) (x2:Int) (x3:Bool) (x4:(List aa)):Option ((Bool×Unit)×((ByteArray×(Int×(Bool×((List aa)×Unit))))×Unit)):=ah E Gz [.ptr 0 aZ [],.val .str x0] [(0,.box aZ (.strct [.val .str x1,.val (.int .i64) x2,.val .bool x3,.row 1])),(1,.row 163 aj x4 false)]
noncomputable def fp (x0:Int) (x1:ByteArray) (x2:Int) (x3:Bool) (x4:(List aa)):Option ((Int×Unit)×((ByteArray×(Int×(Bool×((List aa)×Unit))))×Unit)):=ah E r6 [.ptr 0 aZ [],.val (.int .i64) x0] [(0,.box aZ (.strct [.val .str x1,.val (.int .i64) x2,.val .bool x3,.row 1])),(1,.row 163 aj x4 false)]
noncomputable def eI (x0:ab):Option ((Bool×Unit)×Unit):=ah E Gm [.val ai x0] []
noncomputable def HT (x0:aM):Option ((Bool×Unit)×Unit):=ah E Ju [.val bG x0] []
noncomputable def HU (x0:Int) (x1:Int):Option ((Bool×Unit)×Unit):=ah E Jv [.val (.int .i64) x0,.val (.int .i64) x1] []
noncomputable def wq (x0:aa):Option ((Bool×Unit)×Unit):=ah E Ee [.val aj x0] []
noncomputable def ce (x0:aa) (x1:ByteArray) (x2:Int) (x3:Bool) (x4:(List aa)):Option ((Int×Unit)×((ByteArray×(Int×(Bool×((List aa)×Unit))))×Unit)):=ah E Ef [.ptr 0 aZ [],.val aj x0] [(0,.box aZ (.strct [.val .str x1,.val (.int .i64) x2,.val .bool x3,.row 1])),(1,.row 163 aj x4 false)]
noncomputable def zP (x0:ByteArray) (x1:Int) (x2:Bool) (x3:(List aa)):Option ((Int×Unit)×((ByteArray×(Int×(Bool×((List aa)×Unit))))×Unit)):=ah E p3 [.ptr 0 aZ []] [(0,.box aZ (.strct [.val .str x0,.val (.int .i64) x1,.val .bool x2,.row 1])),(1,.row 163 aj x3 false)]
noncomputable def yh (x0:Int):Option ((ByteArray×Unit)×Unit):=ah E Jl [.val (.int .i64) x0] []
noncomputable def cL (x0:Int):Option ((ab×Unit)×Unit):=ah E Gn [.val (.int .i64) x0] []
noncomputable def ne (x0:ByteArray) (x1:Int) (x2:Bool) (x3:(List aa)):Option ((ByteArray×Unit)×((ByteArray×(Int×(Bool×((List aa)×Unit))))×Unit)):=ah E p4 [.ptr 0 aZ []] [(0,.box aZ (.strct [.val .str x0,.val (.int .i64) x1,.val .bool x2,.row 1])),(1,.row 163 aj x3 false)]
noncomputable def KT (x0:Int):Option ((ByteArray×Unit)×Unit):=ah E PA [.val (.int .i64) x0] []
noncomputable def rk (x0:ByteArray):Option ((Int×Unit)×Unit):=ah E tU [.val .str x0] []
noncomputable def dn (x0:ByteArray) (x1:Int):Option ((Int×(Bool×Unit))×Unit):=ah E zM [.val .str x0,.val (.int .i64) x1] []
noncomputable def nf (x0:ByteArray):Option ((bJ×(Bool×Unit))×Unit):=ah E p5 [.val .str x0] []
noncomputable def sE (x0:ByteArray) (x1:Int) (x2:Bool) (x3:(List aa)):Option ((Int×Unit)×((ByteArray×(Int×(Bool×((List aa)×Unit))))×Unit)):=ah E Ei [.ptr 0 aZ []] [(0,.box aZ (.strct [.val .str x0,.val (.int .i64) x1,.val .bool x2,.row 1])),(1,.row 163 aj x3 false)]
noncomputable def zQ (x0:Int) (x1:ByteArray) (x2:Int) (x3:Bool) (x4:(List aa)):Option ((Int×Unit)×((ByteArray×(Int×(Bool×((List aa)×Unit))))×Unit)):=ah E kt [.ptr 0 aZ [],.val (.int .i64) x0] [(0,.box aZ (.strct [.val .str x1,.val (.int .i64) x2,.val .bool x3,.row 1])),(1,.row 163 aj x4 false)]
noncomputable def kW (x0:ByteArray):Option ((ab×(Bool×Unit))×Unit):=ah E kp [.val .str x0] []
noncomputable def wt (x0:ByteArray) (x1:Int) (x2:Bool) (x3:(List aa)):Option ((Int×Unit)×((ByteArray×(Int×(Bool×((List aa)×Unit))))×Unit)):=ah E lG [.ptr 0 aZ []] [(0,.box aZ (.strct [.val .str x0,.val (.int .i64) x1,.val .bool x2,.row 1])),(1,.row 163 aj x3 false)]
noncomputable def u1 (x0:Int):Option ((Int×Unit)×Unit):=ah E Gw [.val (.int .i64) x0] []
noncomputable def E0 (x0:Int) (x1:ByteArray) (x2:Int) (x3:Bool) (x4:(List aa)):Option ((Int×Unit)×((ByteArray×(Int×(Bool×((List aa)×Unit))))×Unit)):=ah E nc [.ptr 0 aZ [],.val (.int .i64) x0] [(0,.box aZ (.strct [.val .str x1,.val (.int .i64) x2,.val .bool x3,.row 1])),(1,.row 163 aj x4 false)]
noncomputable def yi (x0:(List aa)) (x1:Int):Option ((Int×Unit)×Unit):=ah E wk [.val (.slice 163 aj) x0,.val (.int .i64) x1] []
noncomputable def yj (x0:(List aa)) (x1:Int):Option ((Int×Unit)×Unit):=ah E wl [.val (.slice 163 aj) x0,.val (.int .i64) x1] []
noncomputable def ng (x0:(List aa)):Option ((Bool×Unit)×Unit):=ah E kq [.val (.slice 163 aj) x0] []
noncomputable def mo (x0:ByteArray):Option (((List aa)×(Bool×Unit))×Unit):=ah E ya [.val .str x0] []
noncomputable def E1 (x0:ByteArray):Option ((ByteArray×Unit)×Unit):=ah E tS [.val .str x0] []
noncomputable def HV (x0:Int):Option ((ByteArray×Unit)×Unit):=ah E Jn [.val (.int .i64) x0] []
noncomputable def il (x0:ab):Option ((ByteArray×Unit)×Unit):=ah E BN [.val ai x0] []
noncomputable def nh (x0:(List aa)) (x1:Int) (x2:Int):Option ((ByteArray×Unit)×Unit):=ah E wi [.val (.slice 163 aj) x0,.val (.int .i64) x1,.val (.int .i64) x2] []
noncomputable def p9 (x0:(List aa)):Option ((ByteArray×Unit)×Unit):=ah E yb [.val (.slice 163 aj) x0] []
noncomputable def BX (x0:ByteArray):Option ((ab×(Bool×Unit))×Unit):=ah E r5 [.val .str x0] []
noncomputable def rl (x0:ByteArray):Option ((ByteArray×(Bool×Unit))×Unit):=ah E Gj [.val .str x0] []
noncomputable def oS (x0:al) (x1:al):Option ((Bool×Unit)×Unit):=ah E Gk [.val am x0,.val am x1] []
noncomputable def mp (x0:(List ae)):Option ((Bool×Unit)×Unit):=ah E tM [.val (.slice 54 ap) x0] []
noncomputable def L2 (x0:(List ae)) (x1:al) (x2:ByteArray):Option (((List ae)×Unit)×Unit):=ah E zK [.val (.slice 54 ap) x0,.val am x1,.val .str x2] []
noncomputable def yk (x0:(List ae)) (x1:al) (x2:ByteArray):Option (((List ae)×(Bool×Unit))×Unit):=ah E LR [.val (.slice 54 ap) x0,.val am x1,.val .str x2] []
noncomputable def n8 (x0:Int) (x1:(List Int)) (x2:Int):Option (((List ae)×Unit)×(aV×Unit)):=ah E oB [.ptr 0 aN [],.val (.int .i64) x0] [(0,.box aN (.strct [.val (.slice 5 (.int .u8)) x1,.val (.int .i64) x2]))]
noncomputable def tq (x0:(List Int)):Option (((List ae)×Unit)×Unit):=ah E wd [.val (.slice 5 (.int .u8)) x0] []
noncomputable def fq (x0:Int) (x1:Int) (x2:Int):Option ((Bool×Unit)×Unit):=ah E Jk [.val (.int .i64) x0,.val (.int .i64) x1,.val (.int .i64) x2] []
noncomputable def sF (x0:al):Option ((Bool×Unit)×Unit):=ah E LQ [.val am x0] []
noncomputable def qa (x0:Int):Option ((Bool×Unit)×Unit):=ah E tA [.val (.int .i64) x0] []
noncomputable def fV (x0:Int) (x1:Int):Option ((Int×Unit)×Unit):=ah E qP [.val (.int .i64) x0,.val (.int .i64) x1] []
noncomputable def tX (x0:(List Int)):Option ((Int×Unit)×Unit):=ah E pY [.val (.slice 3 (.int .i64)) x0] []
noncomputable def mq (x0:al) (x1:al):Option ((Int×Unit)×Unit):=ah E xZ [.val am x0,.val am x1] []
noncomputable def yl (x0:ByteArray) (x1:Int):Option ((Bool×Unit)×Unit):=ah E wh [.val .str x0,.val (.int .i64) x1] []
noncomputable def ft (x0:ByteArray) (x1:ByteArray):Option ((Bool×Unit)×Unit):=ah E nJ [.val .str x0,.val .str x1] []
noncomputable def pp (x0:ByteArray) (x1:ByteArray):Option ((ByteArray×(Bool×Unit))×Unit):=ah E nI [.val .str x0,.val .str x1] []
noncomputable def cu (x0:ByteArray) (x1:ByteArray):Option ((ByteArray×(Bool×Unit))×Unit):=ah E qN [.val .str x0,.val .str x1] []
noncomputable def iV (x0:ByteArray) (x1:ByteArray):Option ((ByteArray×Unit)×Unit):=ah E mm [.val .str x0,.val .str x1] []
noncomputable def iH (x0:ByteArray) (x1:Bool) (x2:(List aa)):Option (Unit×((ByteArray×((List aa)×(Bool×Unit)))×Unit)):=ah E uW [.ptr 0 be []] [(0,.box be (.strct [.val .str x0,.row 1,.val .bool x1])),(1,.row 163 aj x2 false)]
noncomputable def eJ (x0:ByteArray) (x1:ByteArray):Option ((Bool×Unit)×Unit):=ah E qO [.val .str x0,.val .str x1] []
noncomputable def qb (x0:ByteArray) (x1:Bool) (x2:(List aa)):Option ((ByteArray×Unit)×((ByteArray×((List aa)×(Bool×Unit)))×Unit)):=ah E na [.ptr 0 be []] [(0,.box be (.strct [.val .str x0,.row 1,.val .bool x1])),(1,.row 163 aj x2 false)]
noncomputable def bi (x0:ByteArray) (x1:ByteArray) (x2:Bool) (x3:(List aa)):Option ((Bool×Unit)×((ByteArray×((List aa)×(Bool×Unit)))×Unit)):=ah E yc [.ptr 0 be [],.val .str x0] [(0,.box be (.strct [.val .str x1,.row 1,.val .bool x2])),(1,.row 163 aj x3 false)]
noncomputable def fa (x0:Int) (x1:ByteArray) (x2:Bool) (x3:(List aa)):Option ((Int×Unit)×((ByteArray×((List aa)×(Bool×Unit)))×Unit)):=ah E wj [.ptr 0 be [],.val (.int .i64) x0] [(0,.box be (.strct [.val .str x1,.row 1,.val .bool x2])),(1,.row 163 aj x3 false)]
noncomputable def aG (x0:aa) (x1:ByteArray) (x2:Bool) (x3:(List aa)):Option ((Int×Unit)×((ByteArray×((List aa)×(Bool×Unit)))×Unit)):=ah E A0 [.ptr 0 be [],.val aj x0] [(0,.box be (.strct [.val .str x1,.row 1,.val .bool x2])),(1,.row 163 aj x3 false)]
noncomputable def strings_Cut (x0:ByteArray) (x1:ByteArray):Option ((ByteArray×(ByteArray×(Bool×Unit)))×Unit):=ah E to [.val .str x0,.val .str x1] []
noncomputable def bO (x0:ab) (x1:ByteArray) (x2:Bool) (x3:(List aa)):Option ((Int×Unit)×((ByteArray×((List aa)×(Bool×Unit)))×Unit)):=ah E sB [.ptr 0 be [],.val ai x0] [(0,.box be (.strct [.val .str x1,.row 1,.val .bool x2])),(1,.row 163 aj x3 false)]
noncomputable def kv (x0:ByteArray) (x1:Bool) (x2:(List aa)):Option ((Int×Unit)×((ByteArray×((List aa)×(Bool×Unit)))×Unit)):=ah E kU [.ptr 0 be []] [(0,.box be (.strct [.val .str x0,.row 1,.val .bool x1])),(1,.row 163 aj x2 false)]
noncomputable def qc (x0:Int):Option ((ByteArray×Unit)×Unit):=ah E BI [.val (.int .i64) x0] []
noncomputable def fI (x0:Int):Option ((ab×Unit)×Unit):=ah E LP [.val (.int .i64) x0] []
noncomputable def kw (x0:ByteArray) (x1:Bool) (x2:(List aa)):Option ((ByteArray×Unit)×((ByteArray×((List aa)×(Bool×Unit)))×Unit)):=ah E yg [.ptr 0 be []] [(0,.box be (.strct [.val .str x0,.row 1,.val .bool x1])),(1,.row 163 aj x2 false)]
noncomputable def dc (x0:ab):Option ((Bool×Unit)×Unit):=ah E Gl [.val ai x0] []
noncomputable def tC (x0:Int) (x1:Int):Option ((ByteArray×Unit)×Unit):=ah E lQ [.val (.int .i64) x0,.val (.int .i64) x1] []
noncomputable def kX (x0:Int):Option ((ByteArray×Unit)×Unit):=ah E Gs [.val (.int .i64) x0] []
noncomputable def fJ (x0:ab):Option ((ByteArray×Unit)×Unit):=ah E BJ [.val ai x0] []
noncomputable def mr (x0:Bool):Option ((ab×Unit)×Unit):=ah E LO [.val .bool x0] []
noncomputable def iW (x0:ByteArray) (x1:Int) (x2:Int):Option ((Int×(Bool×Unit))×Unit):=ah E mj [.val .str x0,.val (.int .i64) x1,.val (.int .i64) x2] []
noncomputable def jq (x0:Int):Option ((ab×Unit)×Unit):=ah E Jj [.val (.int .i64) x0] []
noncomputable def dZ (x0:ByteArray):Option ((ab×(Bool×Unit))×Unit):=ah E pX [.val .str x0] []
noncomputable def rm (x0:Int):Option ((ByteArray×Unit)×Unit):=ah E GB [.val (.int .i64) x0] []
noncomputable def E2 (x0:ByteArray):Option ((Int×Unit)×Unit):=ah E tV [.val .str x0] []
noncomputable def ni (x0:bJ):Option ((ByteArray×Unit)×Unit):=ah E BV [.val bL x0] []
noncomputable def im (x0:ByteArray):Option ((bJ×(Bool×Unit))×Unit):=ah E BS [.val .str x0] []
noncomputable def Db (x0:Int):Option ((ByteArray×Unit)×Unit):=ah E JF [.val (.int .i64) x0] []
noncomputable def kY (x0:ByteArray) (x1:Bool) (x2:(List aa)):Option (((Int×(Int×(ab×(bJ×(bJ×((List Int)×Unit))))))×(Bool×Unit))×((ByteArray×((List aa)×(Bool×Unit)))×Unit)):=ah E sC [.ptr 0 be []] [(0,.box be (.strct [.val .str x0,.row 1,.val .bool x1])),(1,.row 163 aj x2 false)]
noncomputable def bo (x0:Int) (x1:Int) (x2:ByteArray) (x3:Bool) (x4:(List aa)):Option ((Int×Unit)×((ByteArray×((List aa)×(Bool×Unit)))×Unit)):=ah E gn [.ptr 0 be [],.val (.int .i64) x0,.val (.int .i64) x1] [(0,.box be (.strct [.val .str x2,.row 1,.val .bool x3])),(1,.row 163 aj x4 false)]
noncomputable def gG (x0:Int) (x1:Int) (x2:ByteArray) (x3:Bool) (x4:(List aa)):Option ((Int×Unit)×((ByteArray×((List aa)×(Bool×Unit)))×Unit)):=ah E iG [.ptr 0 be [],.val (.int .i64) x0,.val (.int .i64) x1] [(0,.box be (.strct [.val .str x2,.row 1,.val .bool x3])),(1,.row 163 aj x4 false)]
noncomputable def fK (x0:Int) (x1:ByteArray) (x2:Bool) (x3:(List aa)):Option ((Int×Unit)×((ByteArray×((List aa)×(Bool×Unit)))×Unit)):=ah E iE [.ptr 0 be [],.val (.int .i64) x0] [(0,.box be (.strct [.val .str x1,.row 1,.val .bool x2])),(1,.row 163 aj x3 false)]
noncomputable def ym (x0:Int):Option ((ByteArray×Unit)×Unit):=ah E Jo [.val (.int .i64) x0] []
noncomputable def BZ (x0:Int):Option ((Int×Unit)×Unit):=ah E LU [.val (.int .i64) x0] []
noncomputable def jX (x0:aa):Option ((aM×Unit)×Unit):=ah E AZ [.val aj x0] []
noncomputable def Dc (x0:aM):Option ((Bool×Unit)×Unit):=ah E JH [.val bG x0] []
noncomputable def eN (x0:aa):Option ((Bool×Unit)×Unit):=ah E tB [.val aj x0] []
noncomputable def fY (x0:aa):Option ((Bool×Unit)×Unit):=ah E wo [.val aj x0] []
noncomputable def u2 (x0:aa):Option ((Bool×Unit)×Unit):=ah E ye [.val aj x0] []
noncomputable def zR (x0:(List aa)) (x1:Int) (x2:Int):Option ((Int×Unit)×Unit):=ah E C9 [.val (.slice 163 aj) x0,.val (.int .i64) x1,.val (.int .i64) x2] []
noncomputable def qd (x0:(List aa)):Option ((Bool×Unit)×Unit):=ah E BO [.val (.slice 163 aj) x0] []
noncomputable def iX (x0:ByteArray):Option (((List aa)×(Bool×Unit))×Unit):=ah E xY [.val .str x0] []
noncomputable def strings_ReplaceAll (x0:ByteArray) (x1:ByteArray) (x2:ByteArray):Option ((ByteArray×Unit)×Unit):=ah E kV [.val .str x0,.val .str x1,.val .str x2] []
noncomputable def gH (x0:(List aa)) (x1:Int) (x2:Int):Option ((ByteArray×Unit)×Unit):=ah E nd [.val (.slice 163 aj) x0,.val (.int .i64) x1,.val (.int .i64) x2] []
noncomputable def strings_Join (x0:(List ByteArray)) (x1:ByteArray):Option ((ByteArray×Unit)×Unit):=ah E rj [.val (.slice 9 .str) x0,.val .str x1] []
noncomputable def qe (x0:(List aa)):Option ((ByteArray×Unit)×Unit):=ah E yf [.val (.slice 163 aj) x0] []
noncomputable def JI (x0:(List aa)):Option ((ByteArray×(Bool×Unit))×Unit):=ah E Ec [.val (.slice 163 aj) x0] []
noncomputable def n9 (x0:ByteArray) (x1:ByteArray):Option ((ByteArray×Unit)×Unit):=ah E mn [.val .str x0,.val .str x1] []
noncomputable def mt (x0:ByteArray) (x1:ByteArray):Option ((ByteArray×Unit)×Unit):=ah E pZ [.val .str x0,.val .str x1] []
noncomputable def u3 (x0:ByteArray) (x1:ByteArray):Option ((ByteArray×Unit)×Unit):=ah E ri [.val .str x0,.val .str x1] []
noncomputable def B0 (x0:ByteArray):Option ((Bool×Unit)×Unit):=ah E Ed [.val .str x0] []
noncomputable def zS (x0:ByteArray):Option ((ByteArray×(Bool×Unit))×Unit):=ah E Gt [.val .str x0] []
noncomputable def wu (x0:ByteArray):Option ((Bool×Unit)×Unit):=ah E D9 [.val .str x0] []
noncomputable def rn (x0:(List ae)):Option ((Bool×Unit)×Unit):=ah E tO [.val (.slice 54 ap) x0] []
noncomputable def zT (x0:ByteArray):Option (((List aa)×(Bool×Unit))×Unit):=ah E BL [.val .str x0] []
noncomputable def zU (x0:(List aa)):Option (((List aM)×Unit)×Unit):=ah E tP [.val (.slice 163 aj) x0] []
noncomputable def sG (x0:aM) (x1:al):Option ((Bool×Unit)×Unit):=ah E Eb [.val bG x0,.val am x1] []
noncomputable def PC (x0:aM) (x1:Int) (x2:Int):Option ((Bool×Unit)×(al×Unit)):=ah E BP [.val bG x0,.ptr 0 am []] [(0,.box am (.strct [.val (.int .i64) x1,.val (.int .i64) x2]))]
noncomputable def L3 (x0:aM) (x1:al):Option ((Bool×Unit)×(al×Unit)):=ah E BP [.val bG x0,.ptr 0 am []] [(0,.box am (.val am x1))]
noncomputable def kb (x0:(List aM)) (x1:Int) (x2:Int):Option ((Int×Unit)×(al×Unit)):=ah E dD [.val (.slice 130 bG) x0,.fn 143 [.ptr 0 am []]] [(0,.box am (.strct [.val (.int .i64) x1,.val (.int .i64) x2]))]
noncomputable def iY (x0:(List aM)) (x1:Int) (x2:Int):Option ((Bool×Unit)×(al×Unit)):=ah E li [.val (.slice 130 bG) x0,.fn 143 [.ptr 0 am []]] [(0,.box am (.strct [.val (.int .i64) x1,.val (.int .i64) x2]))]
noncomputable def KU (x0:(List aM)) (x1:al):Option ((Bool×Unit)×Unit):=ah E Pp [.val (.slice 130 bG) x0,.val am x1] []
noncomputable def pq (x0:(List ae)):Option ((((List ae)×((List (List aa))×((List (List Int))×Unit)))×Unit)×Unit):=ah E lE [.val (.slice 54 ap) x0] []
noncomputable def iZ (x0:(List Bool)):Option (((List Bool)×Unit)×Unit):=ah E lh [.val (.slice 4 .bool) x0] []
noncomputable def gx (x0:(List Int)):Option (((List Int)×Unit)×Unit):=ah E ml [.val (.slice 3 (.int .i64)) x0] []
noncomputable def jr (x0:lg) (x1:Int):Option ((Bool×Unit)×Unit):=ah E lW [.val br x0,.val (.int .i64) x1] []
noncomputable def cM (x0:Int) (x1:(List ae)) (x2:(List (List aa))) (x3:(List (List Int))) (x4:(List Bool)) (x5:(List ac)):Option (Unit×((List Bool)×(lg×((List ac)×Unit)))):=ah E di [.val (.int .i64) x0,.ptr 0 (.slice 4 .bool) [],.ptr 1 br [],.ptr 2 (.slice 65 af) [],.ptr 3 .fn []] [(0,.box (.slice 4 .bool) (.row 4)),(1,.box br (.strct [.val (.slice 54 ap) x1,.val (.slice 110 (.slice 163 aj)) x2,.val (.slice 133 (.slice 3 (.int .i64))) x3])),(2,.box (.slice 65 af) (.row 5)),(3,.keepF 108 [.ptr 0 (.slice 4 .bool) [],.ptr 1 br [],.ptr 2 (.slice 65 af) [],.ptr 3 .fn []]),(4,.row 4 .bool x4 false),(5,.row 65 af x5 false)]
noncomputable def bz (x0:Int) (x1:lg) (x2:(List Bool)) (x3:(List ac)):Option (Unit×((List Bool)×(lg×((List ac)×Unit)))):=ah E di [.val (.int .i64) x0,.ptr 0 (.slice 4 .bool) [],.ptr 1 br [],.ptr 2 (.slice 65 af) [],.ptr 3 .fn []] [(0,.box (.slice 4 .bool) (.row 4)),(1,.box br (.val br x1)),(2,.box (.slice 65 af) (.row 5)),(3,.keepF 108 [.ptr 0 (.slice 4 .bool) [],.ptr 1 br [],.ptr 2 (.slice 65 af) [],.ptr 3 .fn []]),(4,.row 4 .bool x2 false),(5,.row 65 af x3 false)]
noncomputable def yn (x0:(List ac)) (x1:al):Option ((ab×Unit)×Unit):=ah E wg [.val (.slice 65 af) x0,.val am x1] []
noncomputable def jE (x0:(List aa)) (x1:Int) (x2:(List ac)):Option ((ab×Unit)×Unit):=ah E Pt [.val (.slice 163 aj) x0,.val (.int .i64) x1,.val (.slice 65 af) x2] []
noncomputable def gI (x0:ab):Option ((Int×(Bool×Unit))×Unit):=ah E Eh [.val ai x0] []
noncomputable def jF (x0:ab):Option ((ab×Unit)×Unit):=ah E PB [.val ai x0] []
noncomputable def oT (x0:Int):Option ((ab×Unit)×Unit):=ah E Gx [.val (.int .i64) x0] []
noncomputable def PD (x0:Int) (x1:Int):Option ((ab×Unit)×Unit):=ah E JC [.val (.int .i64) x0,.val (.int .i64) x1] []
noncomputable def tD (x0:ab) (x1:ab):Option ((ab×Unit)×Unit):=ah E n7 [.val ai x0,.val ai x1,.fn 236 []] []
noncomputable def KV (x0:ab) (x1:ab):Option ((ab×Unit)×Unit):=ah E Px [.val ai x0,.val ai x1] []
noncomputable def E3 (x0:ab):Option ((ab×Unit)×Unit):=ah E Gv [.val ai x0] []
noncomputable def u4 (x0:ab):Option ((Bool×(Bool×Unit))×Unit):=ah E GA [.val ai x0] []
noncomputable def PE (x0:(List aa)) (x1:aa) (x2:(List ac)):Option ((ab×Unit)×Unit):=ah E JA [.val (.slice 163 aj) x0,.val aj x1,.val (.slice 65 af) x2] []
noncomputable def zV (x0:ab):Option ((ByteArray×Unit)×Unit):=ah E BU [.val ai x0] []
noncomputable def yo (x0:ab):Option ((ByteArray×(Bool×Unit))×Unit):=ah E JE [.val ai x0] []
noncomputable def Dd (x0:Int) (x1:ab):Option ((ab×Unit)×Unit):=ah E JB [.val (.int .i64) x0,.val ai x1] []
noncomputable def cP (x0:(List aa)) (x1:aa) (x2:(List ac)):Option (((List ab)×Unit)×Unit):=ah E lH [.val (.slice 163 aj) x0,.val aj x1,.val (.slice 65 af) x2] []
noncomputable def kL (x0:Int) (x1:(List ab)):Option ((ab×Unit)×Unit):=ah E r7 [.val (.int .i64) x0,.val (.slice 49 ai) x1] []
noncomputable def u5 (x0:ab) (x1:ab):Option ((ab×Unit)×Unit):=ah E n7 [.val ai x0,.val ai x1,.fn 234 []] []
noncomputable def L4 (x0:ab) (x1:ab):Option ((ab×Unit)×Unit):=ah E Tk [.val ai x0,.val ai x1] []
noncomputable def pu (x0:(List ab)):Option ((ab×Unit)×Unit):=ah E wn [.val (.slice 49 ai) x0] []
noncomputable def kM (x0:Int) (x1:(List ab)):Option ((ab×Unit)×Unit):=ah E r8 [.val (.int .i64) x0,.val (.slice 49 ai) x1] []
noncomputable def PF (x0:(List aa)) (x1:aa) (x2:(List ac)):Option ((ab×Unit)×Unit):=ah E Js [.val (.slice 163 aj) x0,.val aj x1,.val (.slice 65 af) x2] []
noncomputable def sH (x0:ab) (x1:ab):Option ((ab×Unit)×Unit):=ah E n7 [.val ai x0,.val ai x1,.fn 237 []] []
noncomputable def L5 (x0:ab) (x1:ab):Option ((ab×Unit)×Unit):=ah E LW [.val ai x0,.val ai x1] []
noncomputable def tE (x0:ab) (x1:ab):Option ((ab×Unit)×Unit):=ah E n7 [.val ai x0,.val ai x1,.fn 238 []] []
noncomputable def QI (x0:ab) (x1:ab):Option ((ab×Unit)×Unit):=ah E Py [.val ai x0,.val ai x1] []
noncomputable def HW (x0:ab) (x1:ab):Option ((ab×Unit)×Unit):=ah E Jt [.val ai x0,.val ai x1] []
noncomputable def oU (x0:ByteArray):Option ((Bool×Unit)×Unit):=ah E sD [.val .str x0] []
noncomputable def mu (x0:ByteArray) (x1:ByteArray):Option ((Int×Unit)×Unit):=ah E p6 [.val .str x0,.val .str x1] []
noncomputable def B1 (x0:ab) (x1:ab):Option ((Int×Unit)×Unit):=ah E L1 [.val ai x0,.val ai x1] []
noncomputable def QJ (x0:Int) (x1:ab) (x2:ab):Option ((ab×Unit)×Unit):=ah E Pz [.val (.int .i64) x0,.val ai x1,.val ai x2] []
noncomputable def tY (x0:(List aa)) (x1:(List ac)):Option ((ab×Unit)×Unit):=ah E Pq [.val (.slice 163 aj) x0,.val (.slice 65 af) x1] []
noncomputable def lj (x0:lg) (x1:(List Bool)) (x2:(List ab)):Option (((List ac)×Unit)×Unit):=ah E eM [.val br x0,.val (.slice 4 .bool) x1,.val (.slice 49 ai) x2] []
noncomputable def u6 (x0:(List ae)):Option (((List ac)×Unit)×Unit):=ah E xX [.val (.slice 54 ap) x0] []
noncomputable def wv (x0:(List ae)):Option (((List ac)×Unit)×Unit):=ah E D6 [.val (.slice 54 ap) x0] []
noncomputable def mv (x0:(List al)) (x1:al):Option ((Bool×Unit)×Unit):=ah E zI [.val (.slice 52 am) x0,.val am x1] []
noncomputable def KW (x0:(List ac)) (x1:al):Option ((ab×Unit)×Unit):=ah E C7 [.val (.slice 65 af) x0,.val am x1] []
noncomputable def GC (x0:(List ae)) (x1:al):Option ((ByteArray×Unit)×Unit):=ah E C8 [.val (.slice 54 ap) x0,.val am x1] []
noncomputable def qf (x0:ByteArray):Option (((List aa)×(Bool×Unit))×Unit):=ah E BK [.val .str x0] []
noncomputable def E4 (x0:(List aa)):Option (((List aM)×Unit)×Unit):=ah E tR [.val (.slice 163 aj) x0] []
noncomputable def u7 (x0:ByteArray):Option (((List aM)×Unit)×Unit):=ah E Gr [.val .str x0] []
noncomputable def sI (x0:al) (x1:aM):Option ((Bool×Unit)×Unit):=ah E Ea [.val am x0,.val bG x1] []
noncomputable def oV (x0:(List ae)) (x1:al):Option (((List al)×Unit)×Unit):=ah E m8 [.val (.slice 54 ap) x0,.val am x1] []
noncomputable def ww (x0:(List ae)) (x1:al):Option ((Bool×Unit)×Unit):=ah E lF [.val (.slice 54 ap) x0,.val am x1] []
noncomputable def lk (x0:(List ac)) (x1:ac):Option (((List ac)×Unit)×Unit):=ah E zJ [.val (.slice 65 af) x0,.val af x1] []
noncomputable def sJ (x0:(List ac)):Option ((Bool×Unit)×Unit):=ah E rY [.val (.slice 65 af) x0] []
noncomputable def fu (x0:(List aa)) (x1:Int) (x2:(List ac)):Option ((ab×Unit)×Unit):=ah E Jm [.val (.slice 163 aj) x0,.val (.int .i64) x1,.val (.slice 65 af) x2] []
noncomputable def B2 (x0:ab):Option ((Int×(ab×Unit))×Unit):=ah E LX [.val ai x0] []
noncomputable def i7 (x0:Int):Option ((ab×Unit)×Unit):=ah E LS [.val (.int .i64) x0] []
noncomputable def zW (x0:ab):Option ((ab×Unit)×Unit):=ah E Gu [.val ai x0] []
noncomputable def uA (x0:ab):Option ((Bool×(ab×Unit))×Unit):=ah E Jw [.val ai x0] []
noncomputable def js (x0:Bool):Option ((ab×Unit)×Unit):=ah E Jx [.val .bool x0] []
noncomputable def yp (x0:ab) (x1:ab):Option ((Int×(Int×(ab×Unit)))×Unit):=ah E LY [.val ai x0,.val ai x1] []
noncomputable def E5 (x0:ab) (x1:ab):Option ((ab×Unit)×Unit):=ah E Tj [.val ai x0,.val ai x1] []
noncomputable def yq (x0:ab):Option ((ByteArray×(ab×Unit))×Unit):=ah E Jy [.val ai x0] []
noncomputable def HX (x0:(List aa)) (x1:Int) (x2:(List ac)):Option (((List ab)×Unit)×Unit):=ah E po [.val (.slice 163 aj) x0,.val (.int .i64) x1,.val (.slice 65 af) x2] []
noncomputable def HY (x0:Int) (x1:(List ab)):Option ((ab×Unit)×Unit):=ah E wm [.val (.int .i64) x0,.val (.slice 49 ai) x1] []
noncomputable def PG (x0:(List aa)) (x1:Int) (x2:(List ac)):Option ((ab×Unit)×Unit):=ah E Jq [.val (.slice 163 aj) x0,.val (.int .i64) x1,.val (.slice 65 af) x2] []
noncomputable def QK (x0:ab) (x1:ab):Option ((ab×Unit)×Unit):=ah E Pu [.val ai x0,.val ai x1] []
noncomputable def L6 (x0:ab) (x1:ab):Option ((ab×Unit)×Unit):=ah E LV [.val ai x0,.val ai x1] []
noncomputable def QL (x0:ab) (x1:ab):Option ((ab×Unit)×Unit):=ah E Pv [.val ai x0,.val ai x1] []
noncomputable def HZ (x0:ab) (x1:ab):Option ((ab×Unit)×Unit):=ah E Jr [.val ai x0,.val ai x1] []
noncomputable def De (x0:ab) (x1:ab):Option ((ab×Unit)×Unit):=ah E Jz [.val ai x0,.val ai x1] []
noncomputable def yr (x0:Bool) (x1:Bool):Option ((Int×Unit)×Unit):=ah E JG [.val .bool x0,.val .bool x1] []
noncomputable def L7 (x0:ab) (x1:ab):Option ((Int×Unit)×Unit):=ah E LZ [.val ai x0,.val ai x1] []
noncomputable def QM (x0:Int) (x1:ab) (x2:ab):Option ((ab×Unit)×Unit):=ah E Pw [.val (.int .i64) x0,.val ai x1,.val ai x2] []
noncomputable def wx (x0:(List aa)) (x1:(List ac)):Option ((ab×Unit)×Unit):=ah E Po [.val (.slice 163 aj) x0,.val (.slice 65 af) x1] []
noncomputable def yt (x0:(List ae)) (x1:(List ac)) (x2:(List al)):Option (((List ac)×Unit)×Unit):=ah E eL [.val (.slice 54 ap) x0,.val (.slice 65 af) x1,.val (.slice 52 am) x2] []
noncomputable def L8 (x0:(List ae)):Option (((List ac)×Unit)×Unit):=ah E zH [.val (.slice 54 ap) x0] []
noncomputable def kN (x0:(List ae)):Option (((List ac)×Unit)×Unit):=ah E D5 [.val (.slice 54 ap) x0] []
noncomputable def eu (x0:(List ac)) (x1:(List ac)):Option ((Bool×Unit)×Unit):=ah E oA [.val (.slice 65 af) x0,.val (.slice 65 af) x1] []
noncomputable def pv (x0:(List ac)):Option ((Bool×Unit)×Unit):=ah E rX [.val (.slice 65 af) x0] []
noncomputable def yu (x0:(List ac)) (x1:al):Option ((ab×Unit)×Unit):=ah E Jh [.val (.slice 65 af) x0,.val am x1] []
noncomputable def Ej (x0:ae) (x1:Int) (x2:Int):Option ((Bool×Unit)×(al×Unit)):=ah E tm [.val ap x0,.ptr 0 am []] [(0,.box am (.strct [.val (.int .i64) x1,.val (.int .i64) x2]))]
noncomputable def B3 (x0:ae) (x1:al):Option ((Bool×Unit)×(al×Unit)):=ah E tm [.val ap x0,.ptr 0 am []] [(0,.box am (.val am x1))]
noncomputable def ir (x0:(List ae)) (x1:Int) (x2:Int):Option ((Int×Unit)×(al×Unit)):=ah E dC [.val (.slice 54 ap) x0,.fn 72 [.ptr 0 am []]] [(0,.box am (.strct [.val (.int .i64) x1,.val (.int .i64) x2]))]
noncomputable def B4 (x0:(List ae)) (x1:al):Option ((Bool×Unit)×Unit):=ah E D7 [.val (.slice 54 ap) x0,.val am x1] []
noncomputable def QN (x0:(List aa)) (x1:(List ac)):Option ((ab×Unit)×Unit):=ah E Pn [.val (.slice 163 aj) x0,.val (.slice 65 af) x1] []
noncomputable def QO (x0:ByteArray) (x1:(List ac)):Option ((ab×Unit)×Unit):=ah E Pm [.val .str x0,.val (.slice 65 af) x1] []
noncomputable def A1 (x0:(List Int)):Option ((Bool×Unit)×Unit):=ah E jC [.val (.slice 5 (.int .u8)) x0] []
noncomputable def nR (x0:(List Int)):Option (((List ae)×((List ac)×((List al)×Unit)))×Unit):=ah E eQ [.val (.slice 5 (.int .u8)) x0] []
noncomputable def u9 (x0:(List al)) (x1:al):Option ((Int×Unit)×Unit):=ah E jD [.val (.slice 52 am) x0,.val am x1] []
noncomputable def lR (x0:(List al)) (x1:al):Option ((Bool×Unit)×Unit):=ah E pn [.val (.slice 52 am) x0,.val am x1] []
noncomputable def oW (x0:al) (x1:(List aM)):Option ((Bool×Unit)×((List aM)×Unit)):=ah E sy [.val am x0,.ptr 0 (.slice 130 bG) []] [(0,.box (.slice 130 bG) (.row 1)),(1,.row 130 bG x1 false)]
noncomputable def gw (x0:(List al)) (x1:(List aM)):Option ((Int×Unit)×((List aM)×Unit)):=ah E dR [.val (.slice 52 am) x0,.fn 104 [.ptr 0 (.slice 130 bG) []]] [(0,.box (.slice 130 bG) (.row 1)),(1,.row 130 bG x1 false)]
noncomputable def cz (x0:(List al)) (x1:(List aM)):Option ((Bool×Unit)×((List aM)×Unit)):=ah E lX [.val (.slice 52 am) x0,.fn 104 [.ptr 0 (.slice 130 bG) []]] [(0,.box (.slice 130 bG) (.row 1)),(1,.row 130 bG x1 false)]
noncomputable def oX (x0:Int) (x1:(List Bool)):Option ((Bool×Unit)×((List Bool)×Unit)):=ah E sA [.val (.int .i64) x0,.ptr 0 (.slice 4 .bool) []] [(0,.box (.slice 4 .bool) (.row 1)),(1,.row 4 .bool x1 false)]
noncomputable def fd (x0:(List Int)) (x1:(List Bool)):Option ((Int×Unit)×((List Bool)×Unit)):=ah E cG [.val (.slice 3 (.int .i64)) x0,.fn 106 [.ptr 0 (.slice 4 .bool) []]] [(0,.box (.slice 4 .bool) (.row 1)),(1,.row 4 .bool x1 false)]
noncomputable def cW (x0:(List Int)) (x1:(List Bool)):Option ((Bool×Unit)×((List Bool)×Unit)):=ah E jk [.val (.slice 3 (.int .i64)) x0,.fn 106 [.ptr 0 (.slice 4 .bool) []]] [(0,.box (.slice 4 .bool) (.row 1)),(1,.row 4 .bool x1 false)]
noncomputable def nj (x0:lg) (x1:(List al)):Option (((List Bool)×Unit)×Unit):=ah E ee [.val br x0,.val (.slice 52 am) x1] []
noncomputable def tr (x0:(List ae)) (x1:(List ac)) (x2:(List al)):Option (((List ac)×Unit)×Unit):=ah E lV [.val (.slice 54 ap) x0,.val (.slice 65 af) x1,.val (.slice 52 am) x2] []
noncomputable def tZ (x0:(List ae)) (x1:(List al)):Option (((List al)×Unit)×Unit):=ah E dH [.val (.slice 54 ap) x0,.val (.slice 52 am) x1] []
noncomputable def jt (x0:(List ae)) (x1:(List ac)) (x2:(List al)):Option (((List ac)×Unit)×Unit):=ah E wc [.val (.slice 54 ap) x0,.val (.slice 65 af) x1,.val (.slice 52 am) x2] []
noncomputable def E6 (x0:(List ae)) (x1:(List al)):Option (((List al)×Unit)×Unit):=ah E tN [.val (.slice 54 ap) x0,.val (.slice 52 am) x1] []
noncomputable def E7 (x0:(List ae)) (x1:(List al)):Option (((List al)×Unit)×Unit):=ah E Gi [.val (.slice 54 ap) x0,.val (.slice 52 am) x1] []
noncomputable def wy (x0:(List al)) (x1:(List al)):Option ((Bool×Unit)×Unit):=ah E rZ [.val (.slice 52 am) x0,.val (.slice 52 am) x1] []
noncomputable def H0 (x0:(List al)) (x1:al):Option ((Bool×Unit)×Unit):=ah E we [.val (.slice 52 am) x0,.val am x1] []
noncomputable def wz (x0:(List Int)):Option ((Bool×Unit)×Unit):=ah E ic [.val (.slice 5 (.int .u8)) x0] []
noncomputable def qg:Code:=aJ Tryz.f211
def unU (n:Nat):List SV:=List.replicate n .undef
noncomputable def xp (x0:Int) (x1:ByteArray):Option ((ByteArray×Unit)×Unit):=pt E (aE E) tT (aR E tT []) (at_ qg [1,1,1,0,0,0,0,0]) [.seq (at_ qg [1,1,1,0,0,0,0,1]),.seq (at_ qg [1,1,1,0,0,0,1]),.loop (at_ qg [1,1,1,0,0,0]),.block 0,.seq (at_ qg [1,1,1,1])] {slots:=[.val (.int .i64) x0,.undef,.undef,.val .str x1]++unU 18,res:=[],nx:=0,n0:=0}
noncomputable def va:Code:=aJ Tryz.f133
noncomputable def sK (x0:Int) (x1:ByteArray):Option ((ByteArray×Unit)×Unit):=pt E (aE E) zL (aR E zL []) (at_ va [1,1,1,0,0,0,0,0]) [.seq (at_ va [1,1,1,0,0,0,0,1]),.seq (at_ va [1,1,1,0,0,0,1]),.loop (at_ va [1,1,1,0,0,0]),.block 0,.seq (at_ va [1,1,1,1])] {slots:=[.val (.int .i64) x0,.undef,.undef,.val .str x1]++unU 25,res:=[],nx:=0,n0:=0}
noncomputable def mw:Code:=aJ Tryz.f288
noncomputable def oC (x0:Int) (x1:Int) (x2:aV):Option ((Int×Unit)×(aV×Unit)):=pt E (aE E) p7 (aR E p7 [(0,.box aN (.undef))]) (at_ mw [1,1,0,1,0,0,0,0]) [.seq (at_ mw [1,1,0,1,0,0,0,1]),.seq (at_ mw [1,1,0,1,0,0,1]),.loop (at_ mw [1,1,0,1,0,0]),.block 0,.seq (at_ mw [1,1,1])] {slots:=[.ptr 0 aN [],.undef,.undef,.val (.int .u64) x0,.val (.int .i64) x1]++unU 11,res:=[(0,.box aN (.val aN x2))],nx:=1,n0:=1}
noncomputable def qh:Code:=aJ Tryz.f111
noncomputable def r9 (x0:ByteArray) (x1:Int):Option ((Bool×Unit)×Unit):=pt E (aE E) tQ (aR E tQ []) (at_ qh [1,0,1,0,0,0,0]) [.seq (at_ qh [1,0,1,0,0,0,1]),.seq (at_ qh [1,0,1,0,0,1]),.loop (at_ qh [1,0,1,0,0]),.block 0,.seq (at_ qh [1,1])] {slots:=[.val .str x0,.undef,.undef,.val (.int .i64) x1]++unU 19,res:=[],nx:=0,n0:=0}
noncomputable def nk:Code:=aJ Tryz.f150
noncomputable def lZ (x0:ByteArray) (x1:Int) (x2:Bool) (x3:(List aa)):Option (Unit×((ByteArray×(Int×(Bool×((List aa)×Unit))))×Unit)):=pt E (aE E) m9 (aR E m9 [(0,.box aZ (.undef)),(1,.row 163 aj [] false)]) (at_ nk [0,0,0,0]) [.seq (at_ nk [0,0,0,1]),.seq (at_ nk [0,0,1]),.loop (at_ nk [0,0]),.block 0] {slots:=[.ptr 0 aZ []]++unU 30,res:=[(0,.box aZ (.strct [.val .str x0,.val (.int .i64) x1,.val .bool x2,.row 1])),(1,.row 163 aj x3 false)],nx:=2,n0:=2}
noncomputable def oa:Code:=aJ Tryz.f149
noncomputable def dI (x0:Int) (x1:Int) (x2:ByteArray) (x3:Int) (x4:Bool) (x5:(List aa)):Option ((Int×Unit)×((ByteArray×(Int×(Bool×((List aa)×Unit))))×Unit)):=pt E (aE E) r6 (aR E r6 [(0,.box aZ (.undef)),(1,.row 163 aj [] false)]) (at_ oa [1,1,1,1,0,0,0,0,0]) [.seq (at_ oa [1,1,1,1,0,0,0,0,1]),.seq (at_ oa [1,1,1,1,0,0,0,1]),.loop (at_ oa [1,1,1,1,0,0,0]),.block 0,.seq (at_ oa [1,1,1,1,1])] {slots:=[.ptr 0 aZ [],.val (.int .i64) x0,.undef,.undef,.undef,.val (.int .i64) x1]++unU 37,res:=[(0,.box aZ (.strct [.val .str x2,.val (.int .i64) x3,.val .bool x4,.row 2])),(2,.row 163 aj x5 false)],nx:=3,n0:=2}
noncomputable def my:Code:=aJ Tryz.f243
noncomputable def ll (x0:ByteArray) (x1:ByteArray) (x2:Int) (x3:Bool) (x4:(List aa)):Option ((Int×Unit)×((ByteArray×(Int×(Bool×((List aa)×Unit))))×Unit)):=pt E (aE E) p3 (aR E p3 [(0,.box aZ (.undef)),(1,.row 163 aj [] false)]) (at_ my [1,1,0,0,0,0,0]) [.seq (at_ my [1,1,0,0,0,0,1]),.seq (at_ my [1,1,0,0,0,1]),.loop (at_ my [1,1,0,0,0]),.block 0,.seq (at_ my [1,1,1])] {slots:=[.ptr 0 aZ [],.undef,.undef,.val .str x0]++unU 89,res:=[(0,.box aZ (.strct [.val .str x1,.val (.int .i64) x2,.val .bool x3,.row 1])),(1,.row 163 aj x4 false)],nx:=2,n0:=2}
noncomputable def mz:Code:=aJ Tryz.f244
noncomputable def ew (x0:Int) (x1:ByteArray) (x2:Int) (x3:Bool) (x4:(List aa)):Option ((ByteArray×Unit)×((ByteArray×(Int×(Bool×((List aa)×Unit))))×Unit)):=pt E (aE E) p4 (aR E p4 [(0,.box aZ (.undef)),(1,.row 163 aj [] false)]) (at_ mz [1,1,0,0,0,0,0]) [.seq (at_ mz [1,1,0,0,0,0,1]),.seq (at_ mz [1,1,0,0,0,1]),.loop (at_ mz [1,1,0,0,0]),.block 0,.seq (at_ mz [1,1,1])] {slots:=[.ptr 0 aZ [],.undef,.undef,.val (.int .i64) x0]++unU 91,res:=[(0,.box aZ (.strct [.val .str x1,.val (.int .i64) x2,.val .bool x3,.row 1])),(1,.row 163 aj x4 false)],nx:=2,n0:=2}
noncomputable def qi:Code:=aJ Tryz.f275
noncomputable def xq (x0:ByteArray) (x1:Int):Option ((Int×Unit)×Unit):=pt E (aE E) tU (aR E tU []) (at_ qi [1,0,1,0,0,0,0]) [.seq (at_ qi [1,0,1,0,0,0,1]),.seq (at_ qi [1,0,1,0,0,1]),.loop (at_ qi [1,0,1,0,0]),.block 0,.seq (at_ qi [1,1])] {slots:=[.val .str x0,.undef,.undef,.val (.int .i64) x1]++unU 9,res:=[],nx:=0,n0:=0}
noncomputable def vb:Code:=aJ Tryz.f136
noncomputable def px (x0:ByteArray) (x1:Int) (x2:Int):Option ((Int×(Bool×Unit))×Unit):=pt E (aE E) zM (aR E zM []) (at_ vb [1,1,1,0,1,0,0,0,0]) [.seq (at_ vb [1,1,1,0,1,0,0,0,1]),.seq (at_ vb [1,1,1,0,1,0,0,1]),.loop (at_ vb [1,1,1,0,1,0,0]),.block 0,.seq (at_ vb [1,1,1,1])] {slots:=[.val .str x0,.undef,.undef,.undef,.undef,.undef,.val (.int .i64) x1,.val (.int .i64) x2]++unU 44,res:=[],nx:=0,n0:=0}
noncomputable def mA:Code:=aJ Tryz.f246
noncomputable def ju (x0:ByteArray) (x1:Int) (x2:Int) (x3:Int) (x4:Bool) (x5:Bool) (x6:Int) (x7:Int) (x8:Bool) (x9:Bool):Option ((bJ×(Bool×Unit))×Unit):=pt E (aE E) p5 (aR E p5 []) (at_ mA [1,1,1,1,0,0,0,0,0]) [.seq (at_ mA [1,1,1,1,0,0,0,0,1]),.seq (at_ mA [1,1,1,1,0,0,0,1]),.loop (at_ mA [1,1,1,1,0,0,0]),.block 0,.seq (at_ mA [1,1,1,1,1])] {slots:=[.val .str x0,.undef,.ptr 0 bL [],.undef,.ptr 1 bL [],.val (.int .i64) x1]++unU 70,res:=[(0,.box bL (.strct [.strct [.val (.int .i64) x2,.val (.int .i64) x3],.val .bool x4,.val .bool x5])),(1,.box bL (.strct [.strct [.val (.int .i64) x6,.val (.int .i64) x7],.val .bool x8,.val .bool x9]))],nx:=2,n0:=0}
noncomputable def eT:Code:=aJ Tryz.f245
noncomputable def tt (x0:Int) (x1:ByteArray) (x2:Int) (x3:Bool) (x4:(List aa)) (x5:(List Int)):Option ((Int×Unit)×((ByteArray×(Int×(Bool×((List aa)×Unit))))×Unit)):=pt E (aE E) kt (aR E kt [(0,.box aZ (.undef)),(1,.row 163 aj [] false)]) (at_ eT [1,1,0,0,0,0,0]) [.seq (at_ eT [1,1,0,0,0,0,1]),.seq (at_ eT [1,1,0,0,0,1]),.loop (at_ eT [1,1,0,0,0]),.block 0,.seq (at_ eT [1,1,1])] {slots:=[.ptr 0 aZ [],.val (.int .i64) x0,.undef,.undef,.undef,.row 2]++unU 24,res:=[(0,.box aZ (.strct [.val .str x1,.val (.int .i64) x2,.val .bool x3,.row 1])),(1,.row 163 aj x4 false),(2,.row 2 (.int .i64) x5 false)],nx:=3,n0:=2}
noncomputable def gJ:Code:=aJ Tryz.f90
noncomputable def aK (x0:Int) (x1:Int) (x2:ByteArray) (x3:Int) (x4:Int) (x5:ByteArray):Option ((ab×(Bool×Unit))×Unit):=pt E (aE E) kp (aR E kp []) (at_ gJ [1,1,1,0,0]) [.seq (at_ gJ [1,1,1,0,1]),.seq (at_ gJ [1,1,1,1])] {slots:=[.undef,.undef,.ptr 0 ai [],.undef,.ptr 1 ai []]++unU 71,res:=[(0,.box ai (.strct [.val (.int .i64) x0,.val (.int .i64) x1,.val .str x2])),(1,.box ai (.strct [.val (.int .i64) x3,.val (.int .i64) x4,.val .str x5]))],nx:=2,n0:=0}
noncomputable def fw (x0:ByteArray) (x1:Int) (x2:Int) (x3:Int) (x4:ByteArray) (x5:Int) (x6:Int) (x7:ByteArray):Option ((ab×(Bool×Unit))×Unit):=pt E (aE E) kp (aR E kp []) (at_ gJ [1,1,0,0,1,1,1,1,1,1,1,0,1,1,0,0,0,0]) [.seq (at_ gJ [1,1,0,0,1,1,1,1,1,1,1,0,1,1,0,0,0,1]),.seq (at_ gJ [1,1,0,0,1,1,1,1,1,1,1,0,1,1,0,0,1]),.loop (at_ gJ [1,1,0,0,1,1,1,1,1,1,1,0,1,1,0,0]),.block 1,.block 0,.seq (at_ gJ [1,1,1])] {slots:=[.val .str x0,.undef,.ptr 0 ai [],.undef,.ptr 1 ai [],.val (.int .i64) x1]++unU 70,res:=[(0,.box ai (.strct [.val (.int .i64) x2,.val (.int .i64) x3,.val .str x4])),(1,.box ai (.strct [.val (.int .i64) x5,.val (.int .i64) x6,.val .str x7]))],nx:=2,n0:=0}
noncomputable def eU:Code:=aJ Tryz.f193
noncomputable def jv (x0:Int) (x1:ByteArray) (x2:Int) (x3:Bool) (x4:(List aa)):Option ((Int×Unit)×((ByteArray×(Int×(Bool×((List aa)×Unit))))×Unit)):=pt E (aE E) lG (aR E lG [(0,.box aZ (.undef)),(1,.row 163 aj [] false)]) (at_ eU [1,0,0,1,1,1,1,1,1,1,0,0,1,0,0,0,0]) [.seq (at_ eU [1,0,0,1,1,1,1,1,1,1,0,0,1,0,0,0,1]),.seq (at_ eU [1,0,0,1,1,1,1,1,1,1,0,0,1,0,0,1]),.loop (at_ eU [1,0,0,1,1,1,1,1,1,1,0,0,1,0,0]),.block 1,.seq (at_ eU [1,0,0,1,1,1,1,1,1,1,0,1]),.block 0,.seq (at_ eU [1,1])] {slots:=[.ptr 0 aZ [],.undef,.undef,.undef,.undef,.val (.int .i64) x0]++unU 140,res:=[(0,.box aZ (.strct [.val .str x1,.val (.int .i64) x2,.val .bool x3,.row 2])),(2,.row 163 aj x4 false)],nx:=3,n0:=2}
noncomputable def fZ (x0:ByteArray) (x1:Int) (x2:ByteArray) (x3:Int) (x4:Bool) (x5:(List aa)):Option ((Int×Unit)×((ByteArray×(Int×(Bool×((List aa)×Unit))))×Unit)):=pt E (aE E) lG (aR E lG [(0,.box aZ (.undef)),(1,.row 163 aj [] false)]) (at_ eU [1,1,1,0,1,0,0,0,0]) [.seq (at_ eU [1,1,1,0,1,0,0,0,1]),.seq (at_ eU [1,1,1,0,1,0,0,1]),.loop (at_ eU [1,1,1,0,1,0,0]),.block 3,.seq (at_ eU [1,1,1,1])] {slots:=[.ptr 0 aZ [],.undef,.undef,.undef,.undef,.undef,.undef,.val .str x0,.val (.int .i64) x1]++unU 137,res:=[(0,.box aZ (.strct [.val .str x2,.val (.int .i64) x3,.val .bool x4,.row 2])),(2,.row 163 aj x5 false)],nx:=3,n0:=2}
noncomputable def gy:Code:=aJ Tryz.f194
noncomputable def sc (x0:Int) (x1:Int) (x2:ByteArray) (x3:Int) (x4:Bool) (x5:(List aa)) (x6:(List Int)):Option ((Int×Unit)×((ByteArray×(Int×(Bool×((List aa)×Unit))))×Unit)):=pt E (aE E) nc (aR E nc [(0,.box aZ (.undef)),(1,.row 163 aj [] false)]) (at_ gy [1,1,0,1,0,0,0,0]) [.seq (at_ gy [1,1,0,1,0,0,0,1]),.seq (at_ gy [1,1,0,1,0,0,1]),.loop (at_ gy [1,1,0,1,0,0]),.block 0,.seq (at_ gy [1,1,1])] {slots:=[.ptr 0 aZ [],.val (.int .i64) x0,.undef,.undef,.undef,.row 2,.val (.int .i64) x1]++unU 27,res:=[(0,.box aZ (.strct [.val .str x2,.val (.int .i64) x3,.val .bool x4,.row 1])),(1,.row 163 aj x5 false),(2,.row 2 (.int .i64) x6 false)],nx:=3,n0:=2}
noncomputable def sL:Code:=aJ Tryz.f174
noncomputable def t6 (x0:(List aa)) (x1:Int) (x2:Int) (x3:Int):Option ((Int×Unit)×Unit):=pt E (aE E) wk (aR E wk []) (at_ sL [1,1,0,1,0,0,0,0]) [.seq (at_ sL [1,1,0,1,0,0,0,1]),.seq (at_ sL [1,1,0,1,0,0,1]),.loop (at_ sL [1,1,0,1,0,0]),.block 0,.seq (at_ sL [1,1,1])] {slots:=[.val (.slice 163 aj) x0,.val (.int .i64) x1,.undef,.undef,.undef,.val (.int .i64) x2,.val (.int .i64) x3]++unU 37,res:=[],nx:=0,n0:=0}
noncomputable def sM:Code:=aJ Tryz.f175
noncomputable def t7 (x0:(List aa)) (x1:Int) (x2:Int) (x3:Int):Option ((Int×Unit)×Unit):=pt E (aE E) wl (aR E wl []) (at_ sM [1,1,0,1,0,0,0,0]) [.seq (at_ sM [1,1,0,1,0,0,0,1]),.seq (at_ sM [1,1,0,1,0,0,1]),.loop (at_ sM [1,1,0,1,0,0]),.block 0,.seq (at_ sM [1,1,1])] {slots:=[.val (.slice 163 aj) x0,.val (.int .i64) x1,.undef,.undef,.undef,.val (.int .i64) x2,.val (.int .i64) x3]++unU 24,res:=[],nx:=0,n0:=0}
noncomputable def dJ:Code:=aJ Tryz.f137
noncomputable def fb (x0:(List aa)) (x1:Int):Option ((Bool×Unit)×Unit):=pt E (aE E) kq (aR E kq []) (at_ dJ [1,1,0,1,0,0,0,0]) [.seq (at_ dJ [1,1,0,1,0,0,0,1]),.seq (at_ dJ [1,1,0,1,0,0,1]),.loop (at_ dJ [1,1,0,1,0,0]),.block 0,.seq (at_ dJ [1,1,1])] {slots:=[.val (.slice 163 aj) x0,.undef,.undef,.val (.int .i64) x1]++unU 83,res:=[],nx:=0,n0:=0}
noncomputable def qj:Code:=aJ Tryz.f196
noncomputable def ob (x0:ByteArray) (x1:ByteArray) (x2:Int):Option ((ByteArray×Unit)×Unit):=pt E (aE E) tS (aR E tS []) (at_ qj [1,1,0,1,0,0,0,0]) [.seq (at_ qj [1,1,0,1,0,0,0,1]),.seq (at_ qj [1,1,0,1,0,0,1]),.loop (at_ qj [1,1,0,1,0,0]),.block 0,.seq (at_ qj [1,1,1])] {slots:=[.val .str x0,.undef,.undef,.val .str x1,.val (.int .i64) x2]++unU 21,res:=[],nx:=0,n0:=0}
noncomputable def sN:Code:=aJ Tryz.f151
noncomputable def oc (x0:(List aa)) (x1:ByteArray) (x2:Int) (x3:Int) (x4:Int) (x5:ab) (x6:bJ) (x7:bJ) (x8:(List Int)):Option ((ByteArray×Unit)×Unit):=pt E (aE E) wi (aR E wi []) (at_ sN [1,1,1,1,0,1,0,0,0,0]) [.seq (at_ sN [1,1,1,1,0,1,0,0,0,1]),.seq (at_ sN [1,1,1,1,0,1,0,0,1]),.loop (at_ sN [1,1,1,1,0,1,0,0]),.block 1,.seq (at_ sN [1,1,1,1,1])] {slots:=[.val (.slice 163 aj) x0,.undef,.undef,.undef,.undef,.undef,.undef,.ptr 0 aj [],.undef,.undef,.val .str x1,.val (.int .i64) x2]++unU 101,res:=[(0,.box aj (.strct [.val (.int .i64) x3,.val (.int .i64) x4,.val ai x5,.val bL x6,.val bL x7,.val (.slice 2 (.int .i64)) x8]))],nx:=1,n0:=0}
noncomputable def od:Code:=aJ Tryz.f114
noncomputable def kz (x0:ByteArray) (x1:Bool) (x2:Int) (x3:Int) (x4:ByteArray):Option ((ab×(Bool×Unit))×Unit):=pt E (aE E) r5 (aR E r5 []) (at_ od [1,1,1,1,0,0,0,0,0]) [.seq (at_ od [1,1,1,1,0,0,0,0,1]),.seq (at_ od [1,1,1,1,0,0,0,1]),.loop (at_ od [1,1,1,1,0,0,0]),.block 0,.seq (at_ od [1,1,1,1,1])] {slots:=[.val .str x0,.undef,.ptr 0 ai [],.undef,.val .bool x1]++unU 43,res:=[(0,.box ai (.strct [.val (.int .i64) x2,.val (.int .i64) x3,.val .str x4]))],nx:=1,n0:=0}
noncomputable def qk:Code:=aJ Tryz.f27
noncomputable def oe (x0:(List ae)) (x1:Int):Option ((Bool×Unit)×Unit):=pt E (aE E) tM (aR E tM []) (at_ qk [1,1,0,1,0,0,0,0]) [.seq (at_ qk [1,1,0,1,0,0,0,1]),.seq (at_ qk [1,1,0,1,0,0,1]),.loop (at_ qk [1,1,0,1,0,0]),.block 0,.seq (at_ qk [1,1,1])] {slots:=[.val (.slice 54 ap) x0,.undef,.undef,.val (.int .i64) x1]++unU 67,res:=[],nx:=0,n0:=0}
noncomputable def vc:Code:=aJ Tryz.f131
noncomputable def iu (x0:(List ae)) (x1:ByteArray) (x2:Bool) (x3:Int) (x4:Int) (x5:Int) (x6:(List ae)):Option (((List ae)×Unit)×Unit):=pt E (aE E) zK (aR E zK []) (at_ vc [1,1,1,0,1,0,0,0,0]) [.seq (at_ vc [1,1,1,0,1,0,0,0,1]),.seq (at_ vc [1,1,1,0,1,0,0,1]),.loop (at_ vc [1,1,1,0,1,0,0]),.block 0,.seq (at_ vc [1,1,1,1])] {slots:=[.val (.slice 54 ap) x0,.undef,.val .str x1,.undef,.ptr 0 am [],.undef,.undef,.row 1,.val .bool x2,.val (.int .i64) x3]++unU 50,res:=[(0,.box am (.strct [.val (.int .i64) x4,.val (.int .i64) x5])),(1,.row 54 ap x6 false)],nx:=2,n0:=0}
noncomputable def lm:Code:=aJ Tryz.f58
noncomputable def kA (x0:Int) (x1:aV) (x2:(List ae)):Option (((List ae)×Unit)×(aV×Unit)):=pt E (aE E) oB (aR E oB [(0,.box aN (.undef))]) (at_ lm [1,1,0,1,0,0,0,0]) [.seq (at_ lm [1,1,0,1,0,0,0,1]),.seq (at_ lm [1,1,0,1,0,0,1]),.loop (at_ lm [1,1,0,1,0,0]),.block 0,.seq (at_ lm [1,1,1])] {slots:=[.ptr 0 aN [],.undef,.undef,.undef,.undef,.row 1,.val (.int .i64) x0]++unU 33,res:=[(0,.box aN (.val aN x1)),(1,.row 54 ap x2 false)],nx:=2,n0:=1}
noncomputable def ql:Code:=aJ Tryz.f128
noncomputable def oD (x0:Int) (x1:(List Int)) (x2:Int) (x3:Int):Option ((Int×Unit)×Unit):=pt E (aE E) pY (aR E pY []) (at_ ql [1,1,0,1,0,0,0]) [.seq (at_ ql [1,1,0,1,0,0,1]),.loop (at_ ql [1,1,0,1,0,0]),.block 0,.seq (at_ ql [1,1,1])] {slots:=[.undef,.undef,.undef,.val (.int .i64) x0,.undef,.undef,.val (.slice 3 (.int .i64)) x1,.val (.int .i64) x2,.val (.int .i64) x3]++unU 9,res:=[],nx:=0,n0:=0}
noncomputable def wA:Code:=aJ Tryz.f121
noncomputable def t8 (x0:ByteArray) (x1:Int) (x2:Int) (x3:Int):Option ((Bool×Unit)×Unit):=pt E (aE E) wh (aR E wh []) (at_ wA [1,0,1,0,0,0]) [.seq (at_ wA [1,0,1,0,0,1]),.loop (at_ wA [1,0,1,0,0]),.block 0,.seq (at_ wA [1,1])] {slots:=[.val .str x0,.val (.int .i64) x1,.undef,.undef,.undef,.undef,.undef,.val (.int .i64) x2,.val (.int .i64) x3]++unU 17,res:=[],nx:=0,n0:=0}
noncomputable def nl:Code:=aJ Tryz.f160
noncomputable def l4 (x0:Int) (x1:Int) (x2:ByteArray) (x3:Bool) (x4:(List ByteArray)) (x5:(List aa)):Option ((ByteArray×Unit)×((ByteArray×((List aa)×(Bool×Unit)))×Unit)):=pt E (aE E) na (aR E na [(0,.box be (.undef)),(1,.row 163 aj [] false)]) (at_ nl [1,1,0,1,0,0,0]) [.seq (at_ nl [1,1,0,1,0,0,1]),.loop (at_ nl [1,1,0,1,0,0]),.block 0,.seq (at_ nl [1,1,1])] {slots:=[.ptr 0 be [],.undef,.undef,.undef,.undef,.undef,.undef,.row 2,.val (.int .i64) x0,.val (.int .i64) x1]++unU 11,res:=[(0,.box be (.strct [.val .str x2,.row 3,.val .bool x3])),(2,.row 9 .str x4 false),(3,.row 163 aj x5 false)],nx:=4,n0:=2}
noncomputable def kZ:Code:=aJ Tryz.f252
noncomputable def kj (x0:ByteArray) (x1:ByteArray) (x2:ByteArray) (x3:Bool) (x4:(List aa)):Option ((Int×Unit)×((ByteArray×((List aa)×(Bool×Unit)))×Unit)):=pt E (aE E) kU (aR E kU [(0,.box be (.undef)),(1,.row 163 aj [] false)]) (at_ kZ [1,1,0,0,0,0,0]) [.seq (at_ kZ [1,1,0,0,0,0,1]),.block 1,.loop (at_ kZ [1,1,0,0,0]),.block 0,.seq (at_ kZ [1,1,1])] {slots:=[.ptr 0 be [],.undef,.undef,.val .str x0,.val .str x1]++unU 38,res:=[(0,.box be (.strct [.val .str x2,.row 1,.val .bool x3])),(1,.row 163 aj x4 false)],nx:=2,n0:=2}
noncomputable def mB:Code:=aJ Tryz.f29
noncomputable def g8 (x0:ByteArray) (x1:Int) (x2:Int) (x3:Int) (x4:ByteArray) (x5:Int) (x6:Int) (x7:ByteArray):Option ((ab×(Bool×Unit))×Unit):=pt E (aE E) pX (aR E pX []) (at_ mB [1,1,0,1,0,1,1,1,1,1,0,1,0,0,0,0]) [.seq (at_ mB [1,1,0,1,0,1,1,1,1,1,0,1,0,0,0,1]),.seq (at_ mB [1,1,0,1,0,1,1,1,1,1,0,1,0,0,1]),.loop (at_ mB [1,1,0,1,0,1,1,1,1,1,0,1,0,0]),.block 1,.block 0,.seq (at_ mB [1,1,1])] {slots:=[.val .str x0,.undef,.ptr 0 ai [],.undef,.ptr 1 ai [],.undef,.undef,.val (.int .i64) x1]++unU 56,res:=[(0,.box ai (.strct [.val (.int .i64) x2,.val (.int .i64) x3,.val .str x4])),(1,.box ai (.strct [.val (.int .i64) x5,.val (.int .i64) x6,.val .str x7]))],nx:=2,n0:=0}
noncomputable def qm:Code:=aJ Tryz.f282
noncomputable def xr (x0:ByteArray) (x1:Int):Option ((Int×Unit)×Unit):=pt E (aE E) tV (aR E tV []) (at_ qm [1,0,1,0,0,0,0]) [.seq (at_ qm [1,0,1,0,0,0,1]),.seq (at_ qm [1,0,1,0,0,1]),.loop (at_ qm [1,0,1,0,0]),.block 0,.seq (at_ qm [1,1])] {slots:=[.val .str x0,.undef,.undef,.val (.int .i64) x1]++unU 9,res:=[],nx:=0,n0:=0}
noncomputable def cp:Code:=aJ Tryz.f125
noncomputable def cw (x0:Int) (x1:Int) (x2:Int) (x3:ByteArray) (x4:Bool) (x5:(List aa)):Option ((Int×Unit)×((ByteArray×((List aa)×(Bool×Unit)))×Unit)):=pt E (aE E) gn (aR E gn [(0,.box be (.undef)),(1,.row 163 aj [] false)]) (at_ cp [1,1,0,0,0,0,0]) [.seq (at_ cp [1,1,0,0,0,0,1]),.seq (at_ cp [1,1,0,0,0,1]),.loop (at_ cp [1,1,0,0,0]),.block 0,.seq (at_ cp [1,1,1])] {slots:=[.ptr 0 be [],.val (.int .i64) x0,.val (.int .i64) x1,.undef,.undef,.undef,.undef,.val (.int .i64) x2]++unU 47,res:=[(0,.box be (.strct [.val .str x3,.row 2,.val .bool x4])),(2,.row 163 aj x5 false)],nx:=3,n0:=2}
noncomputable def dS:Code:=aJ Tryz.f257
noncomputable def wB (x0:Int) (x1:Int) (x2:ByteArray) (x3:Bool) (x4:(List aa)) (x5:(List Int)):Option ((Int×Unit)×((ByteArray×((List aa)×(Bool×Unit)))×Unit)):=pt E (aE E) iG (aR E iG [(0,.box be (.undef)),(1,.row 163 aj [] false)]) (at_ dS [1,1,1,0,0,0,0,0]) [.seq (at_ dS [1,1,1,0,0,0,0,1]),.seq (at_ dS [1,1,1,0,0,0,1]),.loop (at_ dS [1,1,1,0,0,0]),.block 0,.seq (at_ dS [1,1,1,1])] {slots:=[.ptr 0 be [],.val (.int .i64) x0,.val (.int .i64) x1,.undef,.undef,.undef,.undef,.row 2]++unU 59,res:=[(0,.box be (.strct [.val .str x2,.row 1,.val .bool x3])),(1,.row 163 aj x4 false),(2,.row 2 (.int .i64) x5 false)],nx:=3,n0:=2}
noncomputable def bZ (x0:Int) (x1:Int) (x2:ByteArray) (x3:Bool) (x4:(List Int)) (x5:(List aa)):Option ((Int×Unit)×((ByteArray×((List aa)×(Bool×Unit)))×Unit)):=pt E (aE E) iG (aR E iG [(0,.box be (.undef)),(1,.row 163 aj [] false)]) (at_ dS [1,1,1,0,0,0,0,0]) [.seq (at_ dS [1,1,1,0,0,0,0,1]),.seq (at_ dS [1,1,1,0,0,0,1]),.loop (at_ dS [1,1,1,0,0,0]),.block 0,.seq (at_ dS [1,1,1,1])] {slots:=[.ptr 0 be [],.val (.int .i64) x0,.val (.int .i64) x1,.undef,.undef,.undef,.undef,.row 2]++unU 59,res:=[(0,.box be (.strct [.val .str x2,.row 3,.val .bool x3])),(2,.row 2 (.int .i64) x4 false),(3,.row 163 aj x5 false)],nx:=4,n0:=2}
noncomputable def dT:Code:=aJ Tryz.f205
noncomputable def d7 (x0:Int) (x1:Int) (x2:ByteArray) (x3:Bool) (x4:(List aa)):Option ((Int×Unit)×((ByteArray×((List aa)×(Bool×Unit)))×Unit)):=pt E (aE E) iE (aR E iE [(0,.box be (.undef)),(1,.row 163 aj [] false)]) (at_ dT [1,1,0,0,1,1,1,0,1,0,0,0,0]) [.seq (at_ dT [1,1,0,0,1,1,1,0,1,0,0,0,1]),.seq (at_ dT [1,1,0,0,1,1,1,0,1,0,0,1]),.loop (at_ dT [1,1,0,0,1,1,1,0,1,0,0]),.block 1,.block 0,.seq (at_ dT [1,1,1])] {slots:=[.ptr 0 be [],.val (.int .i64) x0,.undef,.undef,.undef,.val (.int .i64) x1]++unU 114,res:=[(0,.box be (.strct [.val .str x2,.row 2,.val .bool x3])),(2,.row 163 aj x4 false)],nx:=3,n0:=2}
noncomputable def en (x0:Int) (x1:ByteArray) (x2:Int) (x3:ByteArray) (x4:Bool) (x5:(List aa)):Option ((Int×Unit)×((ByteArray×((List aa)×(Bool×Unit)))×Unit)):=pt E (aE E) iE (aR E iE [(0,.box be (.undef)),(1,.row 163 aj [] false)]) (at_ dT [1,1,1,1,1,1,0,1,0,0,0,0]) [.seq (at_ dT [1,1,1,1,1,1,0,1,0,0,0,1]),.seq (at_ dT [1,1,1,1,1,1,0,1,0,0,1]),.loop (at_ dT [1,1,1,1,1,1,0,1,0,0]),.block 3,.seq (at_ dT [1,1,1,1,1,1,1])] {slots:=[.ptr 0 be [],.val (.int .i64) x0,.undef,.undef,.undef,.undef,.undef,.undef,.undef,.val .str x1,.undef,.undef,.undef,.undef,.val (.int .i64) x2]++unU 105,res:=[(0,.box be (.strct [.val .str x3,.row 2,.val .bool x4])),(2,.row 163 aj x5 false)],nx:=3,n0:=2}
noncomputable def yv:Code:=aJ Tryz.f166
noncomputable def rp (x0:(List aa)) (x1:Int) (x2:Int) (x3:Int) (x4:Int):Option ((Int×Unit)×Unit):=pt E (aE E) C9 (aR E C9 []) (at_ yv [1,1,1,0,1,0,0,0,0]) [.seq (at_ yv [1,1,1,0,1,0,0,0,1]),.seq (at_ yv [1,1,1,0,1,0,0,1]),.loop (at_ yv [1,1,1,0,1,0,0]),.block 0,.seq (at_ yv [1,1,1,1])] {slots:=[.val (.slice 163 aj) x0,.val (.int .i64) x1,.val (.int .i64) x2,.undef,.undef,.undef,.undef,.val (.int .i64) x3,.val (.int .i64) x4]++unU 67,res:=[],nx:=0,n0:=0}
noncomputable def np:Code:=aJ Tryz.f264
noncomputable def k7 (x0:(List aa)) (x1:(List Int)) (x2:Int) (x3:Int) (x4:Int) (x5:Int) (x6:ab) (x7:bJ) (x8:bJ) (x9:(List Int)) (x10:(List ByteArray)):Option ((ByteArray×Unit)×Unit):=pt E (aE E) nd (aR E nd []) (at_ np [1,1,1,1,0,1,0,0,0]) [.seq (at_ np [1,1,1,1,0,1,0,0,1]),.loop (at_ np [1,1,1,1,0,1,0,0]),.block 1,.seq (at_ np [1,1,1,1,1])] {slots:=[.val (.slice 163 aj) x0,.undef,.undef,.undef,.undef,.undef,.undef,.ptr 0 aj [],.undef,.undef,.row 1,.undef,.undef,.undef,.undef,.undef,.undef,.undef,.undef,.undef,.undef,.undef,.undef,.undef,.undef,.undef,.undef,.undef,.undef,.undef,.undef,.undef,.undef,.undef,.undef,.undef,.undef,.undef,.undef,.undef,.undef,.undef,.undef,.undef,.undef,.undef,.undef,.undef,.undef,.undef,.undef,.undef,.undef,.undef,.undef,.undef,.undef,.undef,.undef,.undef,.undef,.undef,.undef,.undef,.undef,.undef,.undef,.undef,.undef,.undef,.undef,.undef,.undef,.undef,.undef,.undef,.undef,.undef,.undef,.undef,.undef,.undef,.undef,.undef,.undef,.undef,.undef,.undef,.undef,.undef,.undef,.undef,.val (.slice 2 (.int .i64)) x1,.val (.int .i64) x2,.val (.int .i64) x3]++unU 18,res:=[(0,.box aj (.strct [.val (.int .i64) x4,.val (.int .i64) x5,.val ai x6,.val bL x7,.val bL x8,.val (.slice 2 (.int .i64)) x9])),(1,.row 9 .str x10 false)],nx:=2,n0:=0}
noncomputable def ua:Code:=aJ Tryz.f42
noncomputable def og (x0:(List ae)) (x1:(List ae)) (x2:Int) (x3:Int):Option ((Bool×Unit)×Unit):=pt E (aE E) tO (aR E tO []) (at_ ua [1,0,1,0,0,0]) [.seq (at_ ua [1,0,1,0,0,1]),.loop (at_ ua [1,0,1,0,0]),.block 0,.seq (at_ ua [1,1])] {slots:=[.val (.slice 54 ap) x0,.undef,.undef,.undef,.undef,.val (.slice 54 ap) x1,.val (.int .i64) x2,.val (.int .i64) x3]++unU 34,res:=[],nx:=0,n0:=0}
noncomputable def uc:Code:=aJ Tryz.f100
noncomputable def lJ (x0:(List aa)) (x1:Int) (x2:Int) (x3:(List aM)):Option (((List aM)×Unit)×Unit):=pt E (aE E) tP (aR E tP []) (at_ uc [1,1,0,1,0,0,0]) [.seq (at_ uc [1,1,0,1,0,0,1]),.loop (at_ uc [1,1,0,1,0,0]),.block 0,.seq (at_ uc [1,1,1])] {slots:=[.undef,.undef,.undef,.row 0,.undef,.undef,.undef,.val (.slice 163 aj) x0,.val (.int .i64) x1,.val (.int .i64) x2]++unU 18,res:=[(0,.row 130 bG x3 false)],nx:=1,n0:=0}
noncomputable def cq:Code:=aJ Tryz.f184
noncomputable def fg (x0:(List aM)) (x1:Int) (x2:Int) (x3:Int) (x4:Int):Option ((Int×Unit)×(al×Unit)):=pt E (aE E) dD (aR E dD [(0,.box am (.undef))]) (at_ cq [1,0,1,0,0,0]) [.seq (at_ cq [1,0,1,0,0,1]),.loop (at_ cq [1,0,1,0,0]),.block 0,.seq (at_ cq [1,1])] {slots:=[.val (.slice 130 bG) x0,.fn 143 [.ptr 0 am []],.undef,.undef,.undef,.undef,.undef,.val (.int .i64) x1,.val (.int .i64) x2]++unU 10,res:=[(0,.box am (.strct [.val (.int .i64) x3,.val (.int .i64) x4]))],nx:=1,n0:=1}
noncomputable def eV:Code:=aJ Tryz.f52
noncomputable def mC (x0:(List ae)) (x1:(List ae)) (x2:Int) (x3:Int) (x4:(List ae)) (x5:(List ae)) (x6:(List (List aa))) (x7:(List (List Int))) (x8:(List (List aa))) (x9:(List (List Int))):Option ((((List ae)×((List (List aa))×((List (List Int))×Unit)))×Unit)×Unit):=pt E (aE E) lE (aR E lE []) (at_ eV [1,1,0,1,0,0,0]) [.seq (at_ eV [1,1,0,1,0,0,1]),.loop (at_ eV [1,1,0,1,0,0]),.block 0,.seq (at_ eV [1,1,1])] {slots:=[.val (.slice 54 ap) x0,.undef,.ptr 0 br [],.ptr 1 br [],.undef,.undef,.undef,.undef,.undef,.undef,.undef,.undef,.undef,.undef,.val (.slice 54 ap) x1,.val (.int .i64) x2,.val (.int .i64) x3]++unU 42,res:=[(0,.box br (.strct [.row 2,.row 3,.row 4])),(1,.box br (.strct [.val (.slice 54 ap) x4,.row 5,.row 6])),(2,.row 54 ap x5 false),(3,.row 110 (.slice 163 aj) x6 false),(4,.row 133 (.slice 3 (.int .i64)) x7 false),(5,.row 110 (.slice 163 aj) x8 false),(6,.row 133 (.slice 3 (.int .i64)) x9 false)],nx:=7,n0:=0}
noncomputable def jG:Code:=aJ Tryz.f73
noncomputable def gp (x0:Int) (x1:Int) (x2:(List ae)) (x3:(List (List aa))) (x4:(List (List Int))) (x5:(List Bool)) (x6:(List Int)):Option ((Bool×Unit)×Unit):=pt E (aE E) lW (aR E lW []) (at_ jG [1,1,1,0,1,0,0,0,0]) [.seq (at_ jG [1,1,1,0,1,0,0,0,1]),.seq (at_ jG [1,1,1,0,1,0,0,1]),.loop (at_ jG [1,1,1,0,1,0,0]),.block 0,.seq (at_ jG [1,1,1,1])] {slots:=[.undef,.val (.int .i64) x0,.ptr 0 br [],.undef,.undef,.row 1,.row 2,.val (.int .i64) x1]++unU 39,res:=[(0,.box br (.strct [.val (.slice 54 ap) x2,.val (.slice 110 (.slice 163 aj)) x3,.val (.slice 133 (.slice 3 (.int .i64))) x4])),(1,.row 4 .bool x5 false),(2,.row 3 (.int .i64) x6 false)],nx:=3,n0:=0}
noncomputable def cc:Code:=aJ Tryz.f108
noncomputable def eC (x0:Int) (x1:(List Int)) (x2:Int) (x3:Int) (x4:(List ae)) (x5:(List (List aa))) (x6:(List (List Int))) (x7:(List Bool)) (x8:(List ac)):Option (Unit×((List Bool)×(lg×((List ac)×Unit)))):=pt E (aE E) di (aR E di [(0,.box (.slice 4 .bool) (.undef)),(1,.box br (.undef)),(2,.box (.slice 65 af) (.undef)),(3,.keepF 108 []),(4,.row 4 .bool [] false),(5,.row 65 af [] false)]) (at_ cc [1,1,0,1,1,1,1,0,1,0,0,0]) [.seq (at_ cc [1,1,0,1,1,1,1,0,1,0,0,1]),.loop (at_ cc [1,1,0,1,1,1,1,0,1,0,0]),.block 1,.seq (at_ cc [1,1,0,1,1,1,1,1]),.block 0] {slots:=[.val (.int .i64) x0,.undef,.ptr 1 br [],.ptr 2 (.slice 65 af) [],.ptr 3 .fn [],.undef,.undef,.undef,.undef,.undef,.undef,.undef,.undef,.undef,.undef,.undef,.undef,.undef,.undef,.val (.slice 3 (.int .i64)) x1,.val (.int .i64) x2,.val (.int .i64) x3]++unU 49,res:=[(0,.box (.slice 4 .bool) (.row 4)),(1,.box br (.strct [.val (.slice 54 ap) x4,.val (.slice 110 (.slice 163 aj)) x5,.val (.slice 133 (.slice 3 (.int .i64))) x6])),(2,.box (.slice 65 af) (.row 5)),(3,.keepF 108 [.ptr 0 (.slice 4 .bool) [],.ptr 1 br [],.ptr 2 (.slice 65 af) [],.ptr 3 .fn []]),(4,.row 4 .bool x7 false),(5,.row 65 af x8 false)],nx:=6,n0:=6}
noncomputable def cf (x0:Int) (x1:(List Int)) (x2:Int) (x3:Int) (x4:lg) (x5:(List Bool)) (x6:(List ac)):Option (Unit×((List Bool)×(lg×((List ac)×Unit)))):=pt E (aE E) di (aR E di [(0,.box (.slice 4 .bool) (.undef)),(1,.box br (.undef)),(2,.box (.slice 65 af) (.undef)),(3,.keepF 108 []),(4,.row 4 .bool [] false),(5,.row 65 af [] false)]) (at_ cc [1,1,0,1,1,1,1,0,1,0,0,0]) [.seq (at_ cc [1,1,0,1,1,1,1,0,1,0,0,1]),.loop (at_ cc [1,1,0,1,1,1,1,0,1,0,0]),.block 1,.seq (at_ cc [1,1,0,1,1,1,1,1]),.block 0] {slots:=[.val (.int .i64) x0,.undef,.ptr 1 br [],.ptr 2 (.slice 65 af) [],.ptr 3 .fn [],.undef,.undef,.undef,.undef,.undef,.undef,.undef,.undef,.undef,.undef,.undef,.undef,.undef,.undef,.val (.slice 3 (.int .i64)) x1,.val (.int .i64) x2,.val (.int .i64) x3]++unU 49,res:=[(0,.box (.slice 4 .bool) (.row 4)),(1,.box br (.val br x4)),(2,.box (.slice 65 af) (.row 5)),(3,.keepF 108 [.ptr 0 (.slice 4 .bool) [],.ptr 1 br [],.ptr 2 (.slice 65 af) [],.ptr 3 .fn []]),(4,.row 4 .bool x5 false),(5,.row 65 af x6 false)],nx:=6,n0:=6}
noncomputable def wC:Code:=aJ Tryz.f54
noncomputable def ud (x0:(List ac)) (x1:Int) (x2:Int) (x3:Int) (x4:Int) (x5:Int) (x6:Int) (x7:ByteArray):Option ((ab×Unit)×Unit):=pt E (aE E) wg (aR E wg []) (at_ wC [1,0,1,0,0,0]) [.seq (at_ wC [1,0,1,0,0,1]),.loop (at_ wC [1,0,1,0,0]),.block 0,.seq (at_ wC [1,1])] {slots:=[.undef,.undef,.undef,.ptr 0 am [],.ptr 1 ai [],.undef,.undef,.val (.slice 65 af) x0,.val (.int .i64) x1,.val (.int .i64) x2]++unU 11,res:=[(0,.box am (.strct [.val (.int .i64) x3,.val (.int .i64) x4])),(1,.box ai (.strct [.val (.int .i64) x5,.val (.int .i64) x6,.val .str x7]))],nx:=2,n0:=0}
noncomputable def fF:Code:=aJ Tryz.f230
noncomputable def kB (x0:(List aa)) (x1:(List ac)) (x2:(List Int)) (x3:Int) (x4:Int) (x5:(List ab)):Option (((List ab)×Unit)×Unit):=pt E (aE E) lH (aR E lH []) (at_ fF [1,1,0,1,0,0,0]) [.seq (at_ fF [1,1,0,1,0,0,1]),.loop (at_ fF [1,1,0,1,0,0]),.block 0,.seq (at_ fF [1,1,1])] {slots:=[.val (.slice 163 aj) x0,.undef,.val (.slice 65 af) x1,.undef,.undef,.undef,.undef,.row 0,.undef,.undef,.undef,.undef,.undef,.undef,.val (.slice 2 (.int .i64)) x2,.val (.int .i64) x3,.val (.int .i64) x4]++unU 38,res:=[(0,.row 49 ai x5 false)],nx:=1,n0:=0}
noncomputable def sd:Code:=aJ Tryz.f229
noncomputable def i8 (x0:Int) (x1:Bool) (x2:Bool) (x3:(List ab)) (x4:Int) (x5:Int) (x6:Int) (x7:Int) (x8:ByteArray):Option ((ab×Unit)×Unit):=pt E (aE E) r7 (aR E r7 []) (at_ sd [1,1,0,1,0,0,0]) [.seq (at_ sd [1,1,0,1,0,0,1]),.loop (at_ sd [1,1,0,1,0,0]),.block 0,.seq (at_ sd [1,1,1])] {slots:=[.val (.int .i64) x0,.undef,.undef,.undef,.ptr 0 ai [],.val .bool x1,.val .bool x2,.undef,.undef,.undef,.undef,.val (.slice 49 ai) x3,.val (.int .i64) x4,.val (.int .i64) x5]++unU 27,res:=[(0,.box ai (.strct [.val (.int .i64) x6,.val (.int .i64) x7,.val .str x8]))],nx:=1,n0:=0}
noncomputable def Tl (x0:Int) (x1:Int):Option ((ab×Unit)×Unit):=ah E L0 [.val (.int .i64) x0,.val (.int .i64) x1] []
noncomputable def wD:Code:=aJ Tryz.f231
noncomputable def qn (x0:(List ab)) (x1:Int) (x2:Int) (x3:Int) (x4:Int) (x5:ByteArray) (x6:Int) (x7:Int) (x8:ByteArray):Option ((ab×Unit)×Unit):=pt E (aE E) wn (aR E wn []) (at_ wD [1,1,0,1,0,0,0]) [.seq (at_ wD [1,1,0,1,0,0,1]),.loop (at_ wD [1,1,0,1,0,0]),.block 0,.seq (at_ wD [1,1,1])] {slots:=[.undef,.undef,.ptr 0 ai [],.ptr 1 ai [],.undef,.undef,.undef,.val (.slice 49 ai) x0,.val (.int .i64) x1,.val (.int .i64) x2]++unU 19,res:=[(0,.box ai (.strct [.val (.int .i64) x3,.val (.int .i64) x4,.val .str x5])),(1,.box ai (.strct [.val (.int .i64) x6,.val (.int .i64) x7,.val .str x8]))],nx:=2,n0:=0}
noncomputable def se:Code:=aJ Tryz.f232
noncomputable def fL (x0:Int) (x1:Int) (x2:Int) (x3:Int) (x4:(List ab)) (x5:Int) (x6:Int) (x7:Int) (x8:Int) (x9:ByteArray):Option ((ab×Unit)×Unit):=pt E (aE E) r8 (aR E r8 []) (at_ se [1,1,0,1,0,0,0]) [.seq (at_ se [1,1,0,1,0,0,1]),.loop (at_ se [1,1,0,1,0,0]),.block 0,.seq (at_ se [1,1,1])] {slots:=[.val (.int .i64) x0,.undef,.undef,.undef,.ptr 0 ai [],.val (.int .i64) x1,.val (.int .i64) x2,.val (.int .i64) x3,.undef,.undef,.val (.slice 49 ai) x4,.val (.int .i64) x5,.val (.int .i64) x6]++unU 42,res:=[(0,.box ai (.strct [.val (.int .i64) x7,.val (.int .i64) x8,.val .str x9]))],nx:=1,n0:=0}
noncomputable def L9 (x0:Int) (x1:Int):Option ((ab×Unit)×Unit):=ah E Gy [.val (.int .i64) x0,.val (.int .i64) x1] []
noncomputable def PH (x0:Int) (x1:Int):Option ((ab×Unit)×Unit):=ah E JD [.val (.int .i64) x0,.val (.int .i64) x1] []
noncomputable def cJ:Code:=aJ Tryz.f55
noncomputable def ja (x0:(List ab)) (x1:(List ae)) (x2:Int) (x3:Int) (x4:(List ae)) (x5:(List (List aa))) (x6:(List (List Int))) (x7:(List Bool)) (x8:(List ac)):Option (((List ac)×Unit)×Unit):=pt E (aE E) eM (aR E eM []) (at_ cJ [1,1,0,1,0,0,0]) [.seq (at_ cJ [1,1,0,1,0,0,1]),.loop (at_ cJ [1,1,0,1,0,0]),.block 0,.seq (at_ cJ [1,1,1])] {slots:=[.undef,.undef,.val (.slice 49 ai) x0,.ptr 0 br [],.undef,.undef,.undef,.ptr 1 (.slice 4 .bool) [],.ptr 2 (.slice 65 af) [],.undef,.undef,.undef,.undef,.undef,.undef,.undef,.undef,.undef,.undef,.undef,.val (.slice 54 ap) x1,.val (.int .i64) x2,.val (.int .i64) x3]++unU 26,res:=[(0,.box br (.strct [.val (.slice 54 ap) x4,.val (.slice 110 (.slice 163 aj)) x5,.val (.slice 133 (.slice 3 (.int .i64))) x6])),(1,.box (.slice 4 .bool) (.row 3)),(2,.box (.slice 65 af) (.row 4)),(3,.row 4 .bool x7 false),(4,.row 65 af x8 false)],nx:=5,n0:=0}
noncomputable def vd:Code:=aJ Tryz.f86
noncomputable def wE (x0:(List al)) (x1:Int) (x2:Int) (x3:Int):Option ((Bool×Unit)×Unit):=pt E (aE E) zI (aR E zI []) (at_ vd [1,0,1,0,0,0,0]) [.seq (at_ vd [1,0,1,0,0,0,1]),.seq (at_ vd [1,0,1,0,0,1]),.loop (at_ vd [1,0,1,0,0]),.block 0,.seq (at_ vd [1,1])] {slots:=[.val (.slice 52 am) x0,.undef,.undef,.ptr 0 am [],.undef,.val (.int .i64) x1]++unU 12,res:=[(0,.box am (.strct [.val (.int .i64) x2,.val (.int .i64) x3]))],nx:=1,n0:=0}
noncomputable def yw:Code:=aJ Tryz.f87
noncomputable def zX (x0:(List ac)) (x1:Int) (x2:Int) (x3:Int) (x4:Int) (x5:Int) (x6:ByteArray):Option ((ab×Unit)×Unit):=pt E (aE E) C7 (aR E C7 []) (at_ yw [1,0,1,0,0,0,0]) [.seq (at_ yw [1,0,1,0,0,0,1]),.seq (at_ yw [1,0,1,0,0,1]),.loop (at_ yw [1,0,1,0,0]),.block 0,.seq (at_ yw [1,1])] {slots:=[.val (.slice 65 af) x0,.undef,.undef,.ptr 0 am [],.ptr 1 ai [],.val (.int .i64) x1]++unU 19,res:=[(0,.box am (.strct [.val (.int .i64) x2,.val (.int .i64) x3])),(1,.box ai (.strct [.val (.int .i64) x4,.val (.int .i64) x5,.val .str x6]))],nx:=2,n0:=0}
noncomputable def yx:Code:=aJ Tryz.f88
noncomputable def zY (x0:(List ae)) (x1:Int) (x2:Int) (x3:Int):Option ((ByteArray×Unit)×Unit):=pt E (aE E) C8 (aR E C8 []) (at_ yx [1,0,1,0,0,0,0]) [.seq (at_ yx [1,0,1,0,0,0,1]),.seq (at_ yx [1,0,1,0,0,1]),.loop (at_ yx [1,0,1,0,0]),.block 0,.seq (at_ yx [1,1])] {slots:=[.val (.slice 54 ap) x0,.undef,.undef,.ptr 0 am [],.undef,.val (.int .i64) x1]++unU 18,res:=[(0,.box am (.strct [.val (.int .i64) x2,.val (.int .i64) x3]))],nx:=1,n0:=0}
noncomputable def qo:Code:=aJ Tryz.f140
noncomputable def lK (x0:(List aa)) (x1:Int) (x2:(List aM)):Option (((List aM)×Unit)×Unit):=pt E (aE E) tR (aR E tR []) (at_ qo [1,1,1,0,1,0,0,0,0]) [.seq (at_ qo [1,1,1,0,1,0,0,0,1]),.seq (at_ qo [1,1,1,0,1,0,0,1]),.loop (at_ qo [1,1,1,0,1,0,0]),.block 0,.seq (at_ qo [1,1,1,1])] {slots:=[.val (.slice 163 aj) x0,.undef,.undef,.row 0,.val (.int .i64) x1]++unU 53,res:=[(0,.row 130 bG x2 false)],nx:=1,n0:=0}
noncomputable def eD:Code:=aJ Tryz.f93
noncomputable def jY (x0:(List ae)) (x1:Int) (x2:(List al)) (x3:(List aM)):Option (((List al)×Unit)×Unit):=pt E (aE E) m8 (aR E m8 []) (at_ eD [1,1,1,0,1,0,0,0,0]) [.seq (at_ eD [1,1,1,0,1,0,0,0,1]),.seq (at_ eD [1,1,1,0,1,0,0,1]),.loop (at_ eD [1,1,1,0,1,0,0]),.block 0,.seq (at_ eD [1,1,1,1])] {slots:=[.val (.slice 54 ap) x0,.undef,.undef,.undef,.undef,.row 0,.row 1,.val (.int .i64) x1]++unU 42,res:=[(0,.row 52 am x2 false),(1,.row 130 bG x3 false)],nx:=2,n0:=0}
noncomputable def ey:Code:=aJ Tryz.f92
noncomputable def mD (x0:(List ae)) (x1:Int) (x2:Int) (x3:Int) (x4:(List al)):Option ((Bool×Unit)×Unit):=pt E (aE E) lF (aR E lF []) (at_ ey [1,1,0,1,0,0,0,0]) [.seq (at_ ey [1,1,0,1,0,0,0,1]),.seq (at_ ey [1,1,0,1,0,0,1]),.loop (at_ ey [1,1,0,1,0,0]),.block 0,.seq (at_ ey [1,1,1])] {slots:=[.val (.slice 54 ap) x0,.undef,.undef,.ptr 0 am [],.undef,.row 1,.val (.int .i64) x1]++unU 43,res:=[(0,.box am (.strct [.val (.int .i64) x2,.val (.int .i64) x3])),(1,.row 52 am x4 false)],nx:=2,n0:=0}
noncomputable def ve:Code:=aJ Tryz.f95
noncomputable def wF (x0:(List ac)) (x1:Int) (x2:al) (x3:ab):Option (((List ac)×Unit)×Unit):=pt E (aE E) zJ (aR E zJ []) (at_ ve [1,1,0,0,0,0,0]) [.seq (at_ ve [1,1,0,0,0,0,1]),.seq (at_ ve [1,1,0,0,0,1]),.loop (at_ ve [1,1,0,0,0]),.block 0,.seq (at_ ve [1,1,1])] {slots:=[.val (.slice 65 af) x0,.undef,.undef,.ptr 0 af [],.undef,.val (.int .i64) x1]++unU 31,res:=[(0,.box af (.strct [.val am x2,.val ai x3]))],nx:=1,n0:=0}
noncomputable def oh:Code:=aJ Tryz.f34
noncomputable def mE (x0:(List ac)) (x1:Int):Option ((Bool×Unit)×Unit):=pt E (aE E) rY (aR E rY []) (at_ oh [1,1,0,1,0,0,0,0]) [.seq (at_ oh [1,1,0,1,0,0,0,1]),.seq (at_ oh [1,1,0,1,0,0,1]),.loop (at_ oh [1,1,0,1,0,0]),.block 0,.seq (at_ oh [1,1,1])] {slots:=[.val (.slice 65 af) x0,.undef,.undef,.val (.int .i64) x1]++unU 44,res:=[],nx:=0,n0:=0}
noncomputable def f0:Code:=aJ Tryz.f223
noncomputable def nq (x0:(List aa)) (x1:Int) (x2:(List ac)) (x3:Int) (x4:(List ab)):Option (((List ab)×Unit)×Unit):=pt E (aE E) po (aR E po []) (at_ f0 [1,1,0,1,0,0,0,0]) [.seq (at_ f0 [1,1,0,1,0,0,0,1]),.seq (at_ f0 [1,1,0,1,0,0,1]),.loop (at_ f0 [1,1,0,1,0,0]),.block 0,.seq (at_ f0 [1,1,1])] {slots:=[.val (.slice 163 aj) x0,.val (.int .i64) x1,.val (.slice 65 af) x2,.undef,.undef,.undef,.undef,.row 0,.val (.int .i64) x3]++unU 71,res:=[(0,.row 49 ai x4 false)],nx:=1,n0:=0}
noncomputable def sO:Code:=aJ Tryz.f222
noncomputable def bh (x0:Int) (x1:(List ab)) (x2:Int) (x3:Bool) (x4:Bool) (x5:Int) (x6:Int) (x7:Int) (x8:ByteArray) (x9:Int) (x10:Int) (x11:ByteArray):Option ((ab×Unit)×Unit):=pt E (aE E) wm (aR E wm []) (at_ sO [1,1,1,1,1,0,1,0,0,0,0]) [.seq (at_ sO [1,1,1,1,1,0,1,0,0,0,1]),.seq (at_ sO [1,1,1,1,1,0,1,0,0,1]),.loop (at_ sO [1,1,1,1,1,0,1,0,0]),.block 0,.seq (at_ sO [1,1,1,1,1,1])] {slots:=[.val (.int .i64) x0,.val (.slice 49 ai) x1,.undef,.undef,.ptr 0 ai [],.ptr 1 ai [],.val (.int .i64) x2,.val .bool x3,.val .bool x4,.val (.int .i64) x5]++unU 100,res:=[(0,.box ai (.strct [.val (.int .i64) x6,.val (.int .i64) x7,.val .str x8])),(1,.box ai (.strct [.val (.int .i64) x9,.val (.int .i64) x10,.val .str x11]))],nx:=2,n0:=0}
noncomputable def aU:Code:=aJ Tryz.f48
noncomputable def qp (x0:(List ae)) (x1:(List ac)) (x2:(List al)) (x3:Int) (x4:(List ac)) (x5:(List al)):Option (((List ac)×Unit)×Unit):=pt E (aE E) eL (aR E eL []) (at_ aU [1,1,1,0,1,0,0,0,0]) [.seq (at_ aU [1,1,1,0,1,0,0,0,1]),.seq (at_ aU [1,1,1,0,1,0,0,1]),.loop (at_ aU [1,1,1,0,1,0,0]),.block 0,.seq (at_ aU [1,1,1,1])] {slots:=[.val (.slice 54 ap) x0,.val (.slice 65 af) x1,.val (.slice 52 am) x2,.undef,.undef,.undef,.undef,.row 0,.row 1,.val (.int .i64) x3]++unU 136,res:=[(0,.row 65 af x4 false),(1,.row 52 am x5 false)],nx:=2,n0:=0}
noncomputable def vf:Code:=aJ Tryz.f40
noncomputable def wG (x0:(List ae)) (x1:Int) (x2:(List al)):Option (((List ac)×Unit)×Unit):=pt E (aE E) zH (aR E zH []) (at_ vf [1,1,0,1,0,0,0,0]) [.seq (at_ vf [1,1,0,1,0,0,0,1]),.seq (at_ vf [1,1,0,1,0,0,1]),.loop (at_ vf [1,1,0,1,0,0]),.block 0,.seq (at_ vf [1,1,1])] {slots:=[.val (.slice 54 ap) x0,.undef,.undef,.row 0,.val (.int .i64) x1]++unU 18,res:=[(0,.row 52 am x2 false)],nx:=1,n0:=0}
noncomputable def lp:Code:=aJ Tryz.f26
noncomputable def nr (x0:(List ac)) (x1:(List ac)) (x2:Int):Option ((Bool×Unit)×Unit):=pt E (aE E) oA (aR E oA []) (at_ lp [1,1,0,1,0,0,0,0]) [.seq (at_ lp [1,1,0,1,0,0,0,1]),.seq (at_ lp [1,1,0,1,0,0,1]),.loop (at_ lp [1,1,0,1,0,0]),.block 0,.seq (at_ lp [1,1,1])] {slots:=[.val (.slice 65 af) x0,.val (.slice 65 af) x1,.undef,.undef,.undef,.val (.int .i64) x2]++unU 20,res:=[],nx:=0,n0:=0}
noncomputable def sf:Code:=aJ Tryz.f32
noncomputable def mF (x0:(List ac)) (x1:(List ac)) (x2:Int) (x3:Int):Option ((Bool×Unit)×Unit):=pt E (aE E) rX (aR E rX []) (at_ sf [1,0,1,0,0,0]) [.seq (at_ sf [1,0,1,0,0,1]),.loop (at_ sf [1,0,1,0,0]),.block 0,.seq (at_ sf [1,1])] {slots:=[.val (.slice 65 af) x0,.undef,.undef,.undef,.undef,.val (.slice 65 af) x1,.val (.int .i64) x2,.val (.int .i64) x3]++unU 34,res:=[],nx:=0,n0:=0}
noncomputable def cr:Code:=aJ Tryz.f71
noncomputable def ep (x0:(List ae)) (x1:Int) (x2:Int) (x3:Int) (x4:Int):Option ((Int×Unit)×(al×Unit)):=pt E (aE E) dC (aR E dC [(0,.box am (.undef))]) (at_ cr [1,0,1,0,0,0]) [.seq (at_ cr [1,0,1,0,0,1]),.loop (at_ cr [1,0,1,0,0]),.block 0,.seq (at_ cr [1,1])] {slots:=[.val (.slice 54 ap) x0,.fn 72 [.ptr 0 am []],.undef,.undef,.undef,.undef,.undef,.val (.int .i64) x1,.val (.int .i64) x2]++unU 10,res:=[(0,.box am (.strct [.val (.int .i64) x3,.val (.int .i64) x4]))],nx:=1,n0:=1}
noncomputable def jH:Code:=aJ Tryz.f5
noncomputable def gq (x0:Int) (x1:(List ae)) (x2:(List ac)):Option ((Bool×Unit)×Unit):=pt E (aE E) jC (aR E jC []) (at_ jH [1,1,1,1,1,0,1,0,0,0,0]) [.seq (at_ jH [1,1,1,1,1,0,1,0,0,0,1]),.seq (at_ jH [1,1,1,1,1,0,1,0,0,1]),.loop (at_ jH [1,1,1,1,1,0,1,0,0]),.block 0,.seq (at_ jH [1,1,1,1,1,1])] {slots:=[.undef,.undef,.undef,.row 0,.row 1,.val (.int .i64) x0]++unU 86,res:=[(0,.row 54 ap x1 false),(1,.row 65 af x2 false)],nx:=2,n0:=0}
noncomputable def co:Code:=aJ Tryz.f33
noncomputable def io (x0:Int) (x1:aV) (x2:(List ae)) (x3:(List al)):Option (((List ae)×((List ac)×((List al)×Unit)))×Unit):=pt E (aE E) eQ (aR E eQ []) (at_ co [1,1,1,1,1,0,1,0,0,0,0]) [.seq (at_ co [1,1,1,1,1,0,1,0,0,0,1]),.seq (at_ co [1,1,1,1,1,0,1,0,0,1]),.loop (at_ co [1,1,1,1,1,0,1,0,0]),.block 0,.seq (at_ co [1,1,1,1,1,1])] {slots:=[.undef,.undef,.undef,.undef,.undef,.ptr 0 aN [],.row 1,.row 2,.row 1,.val (.int .i64) x0]++unU 36,res:=[(0,.box aN (.val aN x1)),(1,.row 54 ap x2 false),(2,.row 52 am x3 false)],nx:=3,n0:=0}
noncomputable def jI:Code:=aJ Tryz.f145
noncomputable def gj (x0:(List al)) (x1:Int) (x2:Int) (x3:Int) (x4:Int):Option ((Int×Unit)×Unit):=pt E (aE E) jD (aR E jD []) (at_ jI [1,0,1,0,0,0]) [.seq (at_ jI [1,0,1,0,0,1]),.loop (at_ jI [1,0,1,0,0]),.block 0,.seq (at_ jI [1,1])] {slots:=[.val (.slice 52 am) x0,.undef,.undef,.ptr 0 am [],.undef,.undef,.undef,.val (.int .i64) x1,.val (.int .i64) x2]++unU 10,res:=[(0,.box am (.strct [.val (.int .i64) x3,.val (.int .i64) x4]))],nx:=1,n0:=0}
noncomputable def cD:Code:=aJ Tryz.f146
noncomputable def dE (x0:(List al)) (x1:Int) (x2:Int) (x3:(List aM)):Option ((Int×Unit)×((List aM)×Unit)):=pt E (aE E) dR (aR E dR [(0,.box (.slice 130 bG) (.undef)),(1,.row 130 bG [] false)]) (at_ cD [1,0,1,0,0,0]) [.seq (at_ cD [1,0,1,0,0,1]),.loop (at_ cD [1,0,1,0,0]),.block 0,.seq (at_ cD [1,1])] {slots:=[.val (.slice 52 am) x0,.fn 104 [.ptr 0 (.slice 130 bG) []],.undef,.undef,.undef,.undef,.undef,.val (.int .i64) x1,.val (.int .i64) x2]++unU 10,res:=[(0,.box (.slice 130 bG) (.row 1)),(1,.row 130 bG x3 false)],nx:=2,n0:=2}
noncomputable def bQ:Code:=aJ Tryz.f147
noncomputable def cX (x0:(List Int)) (x1:Int) (x2:Int) (x3:(List Bool)):Option ((Int×Unit)×((List Bool)×Unit)):=pt E (aE E) cG (aR E cG [(0,.box (.slice 4 .bool) (.undef)),(1,.row 4 .bool [] false)]) (at_ bQ [1,0,1,0,0,0]) [.seq (at_ bQ [1,0,1,0,0,1]),.loop (at_ bQ [1,0,1,0,0]),.block 0,.seq (at_ bQ [1,1])] {slots:=[.val (.slice 3 (.int .i64)) x0,.fn 106 [.ptr 0 (.slice 4 .bool) []],.undef,.undef,.undef,.undef,.undef,.val (.int .i64) x1,.val (.int .i64) x2]++unU 10,res:=[(0,.box (.slice 4 .bool) (.row 1)),(1,.row 4 .bool x3 false)],nx:=2,n0:=2}
noncomputable def b7:Code:=aJ Tryz.f53
noncomputable def eK (x0:(List al)) (x1:(List ae)) (x2:Int) (x3:Int) (x4:(List ae)) (x5:(List (List aa))) (x6:(List (List Int))) (x7:(List Bool)):Option (((List Bool)×Unit)×Unit):=pt E (aE E) ee (aR E ee []) (at_ b7 [1,1,0,1,0,0,0]) [.seq (at_ b7 [1,1,0,1,0,0,1]),.loop (at_ b7 [1,1,0,1,0,0]),.block 0,.seq (at_ b7 [1,1,1])] {slots:=[.undef,.val (.slice 52 am) x0,.ptr 0 br [],.undef,.undef,.ptr 1 (.slice 4 .bool) [],.undef,.undef,.undef,.undef,.undef,.undef,.undef,.undef,.undef,.undef,.undef,.val (.slice 54 ap) x1,.val (.int .i64) x2,.val (.int .i64) x3]++unU 47,res:=[(0,.box br (.strct [.val (.slice 54 ap) x4,.val (.slice 110 (.slice 163 aj)) x5,.val (.slice 133 (.slice 3 (.int .i64))) x6])),(1,.box (.slice 4 .bool) (.row 2)),(2,.row 4 .bool x7 false)],nx:=3,n0:=0}
noncomputable def l5:Code:=aJ Tryz.f21
noncomputable def jb (x0:(List ac)) (x1:(List ae)) (x2:Int) (x3:Int) (x4:(List ae)) (x5:(List ab)) (x6:(List Bool)) (x7:(List (List aa))) (x8:(List (List Int))):Option (((List ac)×Unit)×Unit):=pt E (aE E) lV (aR E lV []) (at_ l5 [1,1,1,1,0,1,0,0,0]) [.seq (at_ l5 [1,1,1,1,0,1,0,0,1]),.loop (at_ l5 [1,1,1,1,0,1,0,0]),.block 0,.seq (at_ l5 [1,1,1,1,1])] {slots:=[.undef,.val (.slice 65 af) x0,.undef,.undef,.undef,.undef,.undef,.ptr 0 br [],.row 1,.row 2,.undef,.undef,.undef,.undef,.undef,.undef,.undef,.undef,.undef,.undef,.undef,.undef,.undef,.undef,.undef,.undef,.undef,.undef,.undef,.undef,.undef,.val (.slice 54 ap) x1,.val (.int .i64) x2,.val (.int .i64) x3]++unU 24,res:=[(0,.box br (.strct [.val (.slice 54 ap) x4,.row 3,.row 4])),(1,.row 49 ai x5 false),(2,.row 4 .bool x6 false),(3,.row 110 (.slice 163 aj) x7 false),(4,.row 133 (.slice 3 (.int .i64)) x8 false)],nx:=5,n0:=0}
noncomputable def aQ:Code:=aJ Tryz.f49
noncomputable def lq (x0:(List ae)) (x1:Bool) (x2:(List al)):Option (((List al)×Unit)×Unit):=pt E (aE E) dH (aR E dH []) (at_ aQ [1,1,0,1,0,0,0,0]) [.seq (at_ aQ [1,1,0,1,0,0,0,1]),.seq (at_ aQ [1,1,0,1,0,0,1]),.loop (at_ aQ [1,1,0,1,0,0]),.block 0,.seq (at_ aQ [1,1,1])] {slots:=[.val (.slice 54 ap) x0,.undef,.undef,.undef,.undef,.row 0,.val .bool x1]++unU 86,res:=[(0,.row 52 am x2 false)],nx:=1,n0:=0}
noncomputable def ue:Code:=aJ Tryz.f35
noncomputable def oi (x0:(List ae)) (x1:Int) (x2:Int) (x3:(List al)) (x4:(List Bool)):Option (((List al)×Unit)×Unit):=pt E (aE E) tN (aR E tN []) (at_ ue [1,1,1,0,1,0,0,0]) [.seq (at_ ue [1,1,1,0,1,0,0,1]),.loop (at_ ue [1,1,1,0,1,0,0]),.block 0,.seq (at_ ue [1,1,1,1])] {slots:=[.val (.slice 54 ap) x0,.undef,.undef,.undef,.undef,.row 0,.undef,.undef,.undef,.undef,.undef,.undef,.undef,.undef,.undef,.undef,.undef,.undef,.undef,.undef,.row 1,.val (.int .i64) x1,.val (.int .i64) x2]++unU 15,res:=[(0,.row 52 am x3 false),(1,.row 4 .bool x4 false)],nx:=2,n0:=0}
noncomputable def oj:Code:=aJ Tryz.f36
noncomputable def qq (x0:(List al)) (x1:(List al)) (x2:Int):Option ((Bool×Unit)×Unit):=pt E (aE E) rZ (aR E rZ []) (at_ oj [1,1,0,1,0,0,0,0]) [.seq (at_ oj [1,1,0,1,0,0,0,1]),.seq (at_ oj [1,1,0,1,0,0,1]),.loop (at_ oj [1,1,0,1,0,0]),.block 0,.seq (at_ oj [1,1,1])] {slots:=[.val (.slice 52 am) x0,.val (.slice 52 am) x1,.undef,.undef,.undef,.val (.int .i64) x2]++unU 20,res:=[],nx:=0,n0:=0}
noncomputable def sP:Code:=aJ Tryz.f38
noncomputable def uf (x0:(List al)) (x1:Int) (x2:Int) (x3:Int):Option ((Bool×Unit)×Unit):=pt E (aE E) we (aR E we []) (at_ sP [1,0,1,0,0,0,0]) [.seq (at_ sP [1,0,1,0,0,0,1]),.seq (at_ sP [1,0,1,0,0,1]),.loop (at_ sP [1,0,1,0,0]),.block 0,.seq (at_ sP [1,1])] {slots:=[.val (.slice 52 am) x0,.undef,.undef,.ptr 0 am [],.undef,.val (.int .i64) x1]++unU 12,res:=[(0,.box am (.strct [.val (.int .i64) x2,.val (.int .i64) x3]))],nx:=1,n0:=0}
noncomputable def ie:Code:=aJ Tryz.f6
noncomputable def gk (x0:Int) (x1:(List ac)) (x2:(List ac)) (x3:(List al)):Option ((Bool×Unit)×Unit):=pt E (aE E) ic (aR E ic []) (at_ ie [1,1,1,1,1,1,1,0,1,0,0,0,0]) [.seq (at_ ie [1,1,1,1,1,1,1,0,1,0,0,0,1]),.seq (at_ ie [1,1,1,1,1,1,1,0,1,0,0,1]),.loop (at_ ie [1,1,1,1,1,1,1,0,1,0,0]),.block 0,.seq (at_ ie [1,1,1,1,1,1,1,1])] {slots:=[.undef,.undef,.undef,.undef,.row 0,.undef,.row 1,.row 2,.val (.int .i64) x0]++unU 80,res:=[(0,.row 65 af x1 false),(1,.row 65 af x2 false),(2,.row 52 am x3 false)],nx:=3,n0:=0}
noncomputable def dp (x0:Int) (x1:ByteArray) (x2:Int) (x3:Bool) (x4:(List Int)) (x5:(List aa)):Option ((Int×Unit)×((ByteArray×(Int×(Bool×((List aa)×Unit))))×Unit)):=pt E (aE E) kt (aR E kt [(0,.box aZ (.undef)),(1,.row 163 aj [] false)]) (at_ eT [1,1,0,0,0,0,0]) [.seq (at_ eT [1,1,0,0,0,0,1]),.seq (at_ eT [1,1,0,0,0,1]),.loop (at_ eT [1,1,0,0,0]),.block 0,.seq (at_ eT [1,1,1])] {slots:=[.ptr 0 aZ [],.val (.int .i64) x0,.undef,.undef,.undef,.row 2]++unU 24,res:=[(0,.box aZ (.strct [.val .str x1,.val (.int .i64) x2,.val .bool x3,.row 3])),(2,.row 2 (.int .i64) x4 false),(3,.row 163 aj x5 false)],nx:=4,n0:=2}
noncomputable def mG (x0:Int) (x1:Int) (x2:ByteArray) (x3:Int) (x4:Bool) (x5:(List Int)) (x6:(List aa)):Option ((Int×Unit)×((ByteArray×(Int×(Bool×((List aa)×Unit))))×Unit)):=pt E (aE E) nc (aR E nc [(0,.box aZ (.undef)),(1,.row 163 aj [] false)]) (at_ gy [1,1,0,1,0,0,0,0]) [.seq (at_ gy [1,1,0,1,0,0,0,1]),.seq (at_ gy [1,1,0,1,0,0,1]),.loop (at_ gy [1,1,0,1,0,0]),.block 0,.seq (at_ gy [1,1,1])] {slots:=[.ptr 0 aZ [],.val (.int .i64) x0,.undef,.undef,.undef,.row 2,.val (.int .i64) x1]++unU 27,res:=[(0,.box aZ (.strct [.val .str x2,.val (.int .i64) x3,.val .bool x4,.row 3])),(2,.row 2 (.int .i64) x5 false),(3,.row 163 aj x6 false)],nx:=4,n0:=2}
noncomputable def lr (x0:(List aa)) (x1:Int) (x2:Int):Option ((Bool×Unit)×Unit):=pt E (aE E) kq (aR E kq []) (at_ dJ [1,1,0,1,0,0,1,0,0,1,1,0,0,0,0]) [.seq (at_ dJ [1,1,0,1,0,0,1,0,0,1,1,0,0,0,1]),.seq (at_ dJ [1,1,0,1,0,0,1,0,0,1,1,0,0,1]),.loop (at_ dJ [1,1,0,1,0,0,1,0,0,1,1,0,0]),.block 2,.block 1,.seq (at_ dJ [1,1,0,1,0,0,1,1]),.loop (at_ dJ [1,1,0,1,0,0]),.block 0,.seq (at_ dJ [1,1,1])] {slots:=[.val (.slice 163 aj) x0,.undef,.undef,.val (.int .i64) x1,.val (.int .i64) x2]++unU 82,res:=[],nx:=0,n0:=0}
noncomputable def cx (x0:Int) (x1:Int) (x2:Int) (x3:Int) (x4:Int) (x5:ByteArray) (x6:Bool) (x7:(List aa)):Option ((Int×Unit)×((ByteArray×((List aa)×(Bool×Unit)))×Unit)):=pt E (aE E) gn (aR E gn [(0,.box be (.undef)),(1,.row 163 aj [] false)]) (at_ cp [1,1,0,0,0,1,0,1,0,1,0,0,0,0]) [.seq (at_ cp [1,1,0,0,0,1,0,1,0,1,0,0,0,1]),.seq (at_ cp [1,1,0,0,0,1,0,1,0,1,0,0,1]),.loop (at_ cp [1,1,0,0,0,1,0,1,0,1,0,0]),.block 2,.seq (at_ cp [1,1,0,0,0,1,0,1,1]),.block 1,.loop (at_ cp [1,1,0,0,0]),.block 0,.seq (at_ cp [1,1,1])] {slots:=[.ptr 0 be [],.val (.int .i64) x0,.val (.int .i64) x1,.undef,.undef,.undef,.undef,.val (.int .i64) x2,.val (.int .i64) x3,.val (.int .i64) x4]++unU 45,res:=[(0,.box be (.strct [.val .str x5,.row 2,.val .bool x6])),(2,.row 163 aj x7 false)],nx:=3,n0:=2}
noncomputable def b8 (x0:(List aM)) (x1:Int) (x2:Int) (x3:al):Option ((Int×Unit)×(al×Unit)):=pt E (aE E) dD (aR E dD [(0,.box am (.undef))]) (at_ cq [1,0,1,0,0,0]) [.seq (at_ cq [1,0,1,0,0,1]),.loop (at_ cq [1,0,1,0,0]),.block 0,.seq (at_ cq [1,1])] {slots:=[.val (.slice 130 bG) x0,.fn 143 [.ptr 0 am []],.undef,.undef,.undef,.undef,.undef,.val (.int .i64) x1,.val (.int .i64) x2]++unU 10,res:=[(0,.box am (.val am x3))],nx:=1,n0:=1}
noncomputable def mH (x0:(List ae)) (x1:(List ae)) (x2:Int) (x3:Int) (x4:(List ae)) (x5:Int) (x6:Int) (x7:(List ae)) (x8:(List aa)) (x9:(List aM)) (x10:(List Int)) (x11:(List ae)) (x12:(List (List aa))) (x13:(List (List Int))) (x14:(List (List aa))) (x15:(List (List Int))):Option ((((List ae)×((List (List aa))×((List (List Int))×Unit)))×Unit)×Unit):=pt E (aE E) lE (aR E lE []) (at_ eV [1,1,0,1,0,0,1,1,0,0,1,1,1,0,1,0,0,0]) [.seq (at_ eV [1,1,0,1,0,0,1,1,0,0,1,1,1,0,1,0,0,1]),.loop (at_ eV [1,1,0,1,0,0,1,1,0,0,1,1,1,0,1,0,0]),.block 2,.seq (at_ eV [1,1,0,1,0,0,1,1,0,0,1,1,1,1]),.block 1,.seq (at_ eV [1,1,0,1,0,0,1,1,1]),.loop (at_ eV [1,1,0,1,0,0]),.block 0,.seq (at_ eV [1,1,1])] {slots:=[.val (.slice 54 ap) x0,.undef,.ptr 0 br [],.ptr 1 br [],.undef,.undef,.row 2,.undef,.row 3,.row 4,.undef,.undef,.undef,.undef,.val (.slice 54 ap) x1,.val (.int .i64) x2,.val (.int .i64) x3,.undef,.undef,.undef,.undef,.undef,.undef,.undef,.undef,.undef,.undef,.undef,.undef,.val (.slice 54 ap) x4,.val (.int .i64) x5,.val (.int .i64) x6]++unU 27,res:=[(0,.box br (.strct [.row 5,.row 6,.row 7])),(1,.box br (.strct [.val (.slice 54 ap) x7,.row 8,.row 9])),(2,.row 163 aj x8 false),(3,.row 130 bG x9 false),(4,.row 3 (.int .i64) x10 false),(5,.row 54 ap x11 false),(6,.row 110 (.slice 163 aj) x12 false),(7,.row 133 (.slice 3 (.int .i64)) x13 false),(8,.row 110 (.slice 163 aj) x14 false),(9,.row 133 (.slice 3 (.int .i64)) x15 false)],nx:=10,n0:=0}
noncomputable def bR (x0:Int) (x1:(List Int)) (x2:Int) (x3:Int) (x4:lg) (x5:(List Bool)) (x6:(List ac)):Option (Unit×((List Bool)×(lg×((List ac)×Unit)))):=pt E (aE E) di (aR E di [(0,.box (.slice 4 .bool) (.undef)),(1,.box br (.undef)),(2,.box (.slice 65 af) (.undef)),(3,.keepF 108 []),(4,.row 4 .bool [] false),(5,.row 65 af [] false)]) (at_ cc [1,1,0,1,1,1,1,0,1,0,0,0]) [.seq (at_ cc [1,1,0,1,1,1,1,0,1,0,0,1]),.loop (at_ cc [1,1,0,1,1,1,1,0,1,0,0]),.block 1,.seq (at_ cc [1,1,0,1,1,1,1,1]),.block 0] {slots:=[.val (.int .i64) x0,.undef,.ptr 1 br [],.ptr 2 (.slice 65 af) [],.ptr 3 .fn [],.undef,.undef,.undef,.undef,.undef,.undef,.undef,.undef,.undef,.undef,.undef,.undef,.undef,.undef,.val (.slice 3 (.int .i64)) x1,.val (.int .i64) x2,.val (.int .i64) x3]++unU 49,res:=[(0,.box (.slice 4 .bool) (.row 6)),(1,.box br (.val br x4)),(2,.box (.slice 65 af) (.row 7)),(3,.keepF 108 [.ptr 0 (.slice 4 .bool) [],.ptr 1 br [],.ptr 2 (.slice 65 af) [],.ptr 3 .fn []]),(6,.row 4 .bool x5 false),(7,.row 65 af x6 false)],nx:=8,n0:=6}
noncomputable def jc (x0:(List aa)) (x1:(List ac)) (x2:Int) (x3:(List Int)) (x4:Int) (x5:Int) (x6:(List ac)) (x7:Int) (x8:Int) (x9:(List ab)):Option (((List ab)×Unit)×Unit):=pt E (aE E) lH (aR E lH []) (at_ fF [1,1,0,1,0,0,1,1,0,0,1,1,1,0,0,0]) [.seq (at_ fF [1,1,0,1,0,0,1,1,0,0,1,1,1,0,0,1]),.loop (at_ fF [1,1,0,1,0,0,1,1,0,0,1,1,1,0,0]),.block 2,.block 1,.seq (at_ fF [1,1,0,1,0,0,1,1,1]),.loop (at_ fF [1,1,0,1,0,0]),.block 0,.seq (at_ fF [1,1,1])] {slots:=[.val (.slice 163 aj) x0,.undef,.val (.slice 65 af) x1,.undef,.undef,.undef,.undef,.row 0,.undef,.val (.int .i64) x2,.undef,.undef,.undef,.undef,.val (.slice 2 (.int .i64)) x3,.val (.int .i64) x4,.val (.int .i64) x5,.undef,.undef,.undef,.undef,.undef,.undef,.undef,.undef,.undef,.undef,.undef,.undef,.undef,.undef,.undef,.undef,.val (.slice 65 af) x6,.val (.int .i64) x7,.val (.int .i64) x8]++unU 19,res:=[(0,.row 49 ai x9 false)],nx:=1,n0:=0}
noncomputable def kk (x0:Int) (x1:Int) (x2:(List ac)) (x3:(List ae)) (x4:(List (List aa))) (x5:(List (List Int))) (x6:(List Bool)):Option (((List ac)×Unit)×Unit):=pt E (aE E) eM (aR E eM []) (at_ cJ [1,1,1,1,1,0,1,0,0,0]) [.seq (at_ cJ [1,1,1,1,1,0,1,0,0,1]),.loop (at_ cJ [1,1,1,1,1,0,1,0,0]),.block 2,.seq (at_ cJ [1,1,1,1,1,1])] {slots:=[.undef,.undef,.undef,.undef,.undef,.undef,.undef,.undef,.ptr 0 (.slice 65 af) [],.undef,.undef,.ptr 1 .fn [],.undef,.undef,.undef,.undef,.undef,.undef,.undef,.undef,.undef,.undef,.undef,.undef,.undef,.undef,.undef,.undef,.undef,.undef,.undef,.undef,.undef,.undef,.undef,.undef,.undef,.undef,.undef,.undef,.val (.int .i64) x0,.val (.int .i64) x1]++unU 7,res:=[(0,.box (.slice 65 af) (.row 2)),(1,.keepF 108 [.ptr 3 (.slice 4 .bool) [],.ptr 4 br [],.ptr 0 (.slice 65 af) [],.ptr 1 .fn []]),(2,.row 65 af x2 false),(3,.box (.slice 4 .bool) (.row 5)),(4,.box br (.strct [.val (.slice 54 ap) x3,.val (.slice 110 (.slice 163 aj)) x4,.val (.slice 133 (.slice 3 (.int .i64))) x5])),(5,.row 4 .bool x6 false)],nx:=6,n0:=0}
noncomputable def ol (x0:(List ae)) (x1:Int) (x2:Bool) (x3:Int) (x4:(List al)) (x5:(List aM)):Option (((List al)×Unit)×Unit):=pt E (aE E) m8 (aR E m8 []) (at_ eD [1,1,1,0,1,0,0,1,0,0,1,0,1,0,0,0,0]) [.seq (at_ eD [1,1,1,0,1,0,0,1,0,0,1,0,1,0,0,0,1]),.seq (at_ eD [1,1,1,0,1,0,0,1,0,0,1,0,1,0,0,1]),.loop (at_ eD [1,1,1,0,1,0,0,1,0,0,1,0,1,0,0]),.block 2,.seq (at_ eD [1,1,1,0,1,0,0,1,0,0,1,1]),.block 1,.seq (at_ eD [1,1,1,0,1,0,0,1,1]),.loop (at_ eD [1,1,1,0,1,0,0]),.block 0,.seq (at_ eD [1,1,1,1])] {slots:=[.val (.slice 54 ap) x0,.undef,.undef,.undef,.undef,.row 0,.row 1,.val (.int .i64) x1,.val .bool x2,.val (.int .i64) x3]++unU 40,res:=[(0,.row 52 am x4 false),(1,.row 130 bG x5 false)],nx:=2,n0:=0}
noncomputable def mI (x0:(List ae)) (x1:Int) (x2:Int) (x3:Int) (x4:Int) (x5:(List al)) (x6:(List al)):Option ((Bool×Unit)×Unit):=pt E (aE E) lF (aR E lF []) (at_ ey [1,1,0,1,0,0,1,0,0,1,1,1,0,0,0,0]) [.seq (at_ ey [1,1,0,1,0,0,1,0,0,1,1,1,0,0,0,1]),.seq (at_ ey [1,1,0,1,0,0,1,0,0,1,1,1,0,0,1]),.loop (at_ ey [1,1,0,1,0,0,1,0,0,1,1,1,0,0]),.block 2,.block 1,.seq (at_ ey [1,1,0,1,0,0,1,1]),.loop (at_ ey [1,1,0,1,0,0]),.block 0,.seq (at_ ey [1,1,1])] {slots:=[.val (.slice 54 ap) x0,.undef,.undef,.ptr 0 am [],.undef,.row 1,.val (.int .i64) x1,.row 2,.val (.int .i64) x2]++unU 41,res:=[(0,.box am (.strct [.val (.int .i64) x3,.val (.int .i64) x4])),(1,.row 52 am x5 false),(2,.row 52 am x6 false)],nx:=3,n0:=0}
noncomputable def jZ (x0:(List aa)) (x1:Int) (x2:(List ac)) (x3:Int) (x4:Int) (x5:(List ab)) (x6:al) (x7:al):Option (((List ab)×Unit)×Unit):=pt E (aE E) po (aR E po []) (at_ f0 [1,1,0,1,0,0,1,0,0,1,1,1,1,0,0,0,0]) [.seq (at_ f0 [1,1,0,1,0,0,1,0,0,1,1,1,1,0,0,0,1]),.seq (at_ f0 [1,1,0,1,0,0,1,0,0,1,1,1,1,0,0,1]),.loop (at_ f0 [1,1,0,1,0,0,1,0,0,1,1,1,1,0,0]),.block 2,.block 1,.seq (at_ f0 [1,1,0,1,0,0,1,1]),.loop (at_ f0 [1,1,0,1,0,0]),.block 0,.seq (at_ f0 [1,1,1])] {slots:=[.val (.slice 163 aj) x0,.val (.int .i64) x1,.val (.slice 65 af) x2,.undef,.undef,.undef,.undef,.row 0,.val (.int .i64) x3,.undef,.ptr 1 bG [],.val (.int .i64) x4]++unU 68,res:=[(0,.row 49 ai x5 false),(1,.box bG (.strct [.val am x6,.val am x7]))],nx:=2,n0:=0}
noncomputable def jJ (x0:(List ae)) (x1:(List ac)) (x2:(List al)):Option (((List ac)×Unit)×Unit):=pt E (aE E) eL (aR E eL []) (at_ aU [1,1,1,1,0,0,0,0,0]) [.seq (at_ aU [1,1,1,1,0,0,0,0,1]),.seq (at_ aU [1,1,1,1,0,0,0,1]),.loop (at_ aU [1,1,1,1,0,0,0]),.block 2,.seq (at_ aU [1,1,1,1,1])] {slots:=[.val (.slice 54 ap) x0,.undef,.undef,.undef,.undef,.undef,.undef,.row 0,.row 1]++unU 137,res:=[(0,.row 65 af x1 false),(1,.row 52 am x2 false)],nx:=2,n0:=0}
noncomputable def bN (x0:(List ae)) (x1:Int) (x2:Int) (x3:al):Option ((Int×Unit)×(al×Unit)):=pt E (aE E) dC (aR E dC [(0,.box am (.undef))]) (at_ cr [1,0,1,0,0,0]) [.seq (at_ cr [1,0,1,0,0,1]),.loop (at_ cr [1,0,1,0,0]),.block 0,.seq (at_ cr [1,1])] {slots:=[.val (.slice 54 ap) x0,.fn 72 [.ptr 0 am []],.undef,.undef,.undef,.undef,.undef,.val (.int .i64) x1,.val (.int .i64) x2]++unU 10,res:=[(0,.box am (.val am x3))],nx:=1,n0:=1}
noncomputable def fx (x0:Int) (x1:aV) (x2:(List ae)) (x3:(List al)) (x4:(List ae)):Option (((List ae)×((List ac)×((List al)×Unit)))×Unit):=pt E (aE E) eQ (aR E eQ []) (at_ co [1,1,1,1,1,0,1,0,0,0,0]) [.seq (at_ co [1,1,1,1,1,0,1,0,0,0,1]),.seq (at_ co [1,1,1,1,1,0,1,0,0,1]),.loop (at_ co [1,1,1,1,1,0,1,0,0]),.block 0,.seq (at_ co [1,1,1,1,1,1])] {slots:=[.undef,.undef,.undef,.undef,.undef,.ptr 0 aN [],.row 1,.row 2,.row 3,.val (.int .i64) x0]++unU 36,res:=[(0,.box aN (.val aN x1)),(1,.row 54 ap x2 false),(2,.row 52 am x3 false),(3,.row 54 ap x4 false)],nx:=4,n0:=0}
noncomputable def bE (x0:(List al)) (x1:Int) (x2:Int) (x3:(List aM)):Option ((Int×Unit)×((List aM)×Unit)):=pt E (aE E) dR (aR E dR [(0,.box (.slice 130 bG) (.undef)),(1,.row 130 bG [] false)]) (at_ cD [1,0,1,0,0,0]) [.seq (at_ cD [1,0,1,0,0,1]),.loop (at_ cD [1,0,1,0,0]),.block 0,.seq (at_ cD [1,1])] {slots:=[.val (.slice 52 am) x0,.fn 104 [.ptr 0 (.slice 130 bG) []],.undef,.undef,.undef,.undef,.undef,.val (.int .i64) x1,.val (.int .i64) x2]++unU 10,res:=[(0,.box (.slice 130 bG) (.row 2)),(2,.row 130 bG x3 false)],nx:=3,n0:=2}
noncomputable def bj (x0:(List Int)) (x1:Int) (x2:Int) (x3:(List Bool)):Option ((Int×Unit)×((List Bool)×Unit)):=pt E (aE E) cG (aR E cG [(0,.box (.slice 4 .bool) (.undef)),(1,.row 4 .bool [] false)]) (at_ bQ [1,0,1,0,0,0]) [.seq (at_ bQ [1,0,1,0,0,1]),.loop (at_ bQ [1,0,1,0,0]),.block 0,.seq (at_ bQ [1,1])] {slots:=[.val (.slice 3 (.int .i64)) x0,.fn 106 [.ptr 0 (.slice 4 .bool) []],.undef,.undef,.undef,.undef,.undef,.val (.int .i64) x1,.val (.int .i64) x2]++unU 10,res:=[(0,.box (.slice 4 .bool) (.row 2)),(2,.row 4 .bool x3 false)],nx:=3,n0:=2}
noncomputable def fW (x0:Bool) (x1:(List ae)) (x2:(List (List aa))) (x3:(List (List Int))) (x4:(List Bool)):Option (((List Bool)×Unit)×Unit):=pt E (aE E) ee (aR E ee []) (at_ b7 [1,1,1,0,1,0,0,0,0]) [.seq (at_ b7 [1,1,1,0,1,0,0,0,1]),.seq (at_ b7 [1,1,1,0,1,0,0,1]),.loop (at_ b7 [1,1,1,0,1,0,0]),.block 2,.seq (at_ b7 [1,1,1,1])] {slots:=[.undef,.undef,.ptr 0 br [],.undef,.undef,.ptr 1 (.slice 4 .bool) [],.undef,.undef,.undef,.val .bool x0]++unU 57,res:=[(0,.box br (.strct [.val (.slice 54 ap) x1,.val (.slice 110 (.slice 163 aj)) x2,.val (.slice 133 (.slice 3 (.int .i64))) x3])),(1,.box (.slice 4 .bool) (.row 2)),(2,.row 4 .bool x4 false)],nx:=3,n0:=0}
noncomputable def ga (x0:(List ae)) (x1:Bool) (x2:Int) (x3:(List al)):Option (((List al)×Unit)×Unit):=pt E (aE E) dH (aR E dH []) (at_ aQ [1,1,0,1,0,0,1,0,1,1,0,0,0,0]) [.seq (at_ aQ [1,1,0,1,0,0,1,0,1,1,0,0,0,1]),.seq (at_ aQ [1,1,0,1,0,0,1,0,1,1,0,0,1]),.loop (at_ aQ [1,1,0,1,0,0,1,0,1,1,0,0]),.block 2,.block 1,.loop (at_ aQ [1,1,0,1,0,0]),.block 0,.seq (at_ aQ [1,1,1])] {slots:=[.val (.slice 54 ap) x0,.undef,.undef,.undef,.undef,.row 0,.val .bool x1,.val (.int .i64) x2]++unU 85,res:=[(0,.row 52 am x3 false)],nx:=1,n0:=0}
noncomputable def iI (x0:(List ae)) (x1:Int) (x2:(List al)) (x3:(List al)):Option (((List al)×Unit)×Unit):=pt E (aE E) dH (aR E dH []) (at_ aQ [1,1,1,1,0,1,0,0,0,0]) [.seq (at_ aQ [1,1,1,1,0,1,0,0,0,1]),.seq (at_ aQ [1,1,1,1,0,1,0,0,1]),.loop (at_ aQ [1,1,1,1,0,1,0,0]),.block 8,.seq (at_ aQ [1,1,1,1,1])] {slots:=[.val (.slice 54 ap) x0,.undef,.undef,.undef,.undef,.row 0,.undef,.undef,.undef,.undef,.undef,.undef,.row 1,.val (.int .i64) x1]++unU 79,res:=[(0,.row 52 am x2 false),(1,.row 52 am x3 false)],nx:=2,n0:=0}
noncomputable def gK (x0:Int) (x1:Int) (x2:(List ac)) (x3:lg) (x4:(List Bool)):Option (((List ac)×Unit)×Unit):=pt E (aE E) eM (aR E eM []) (at_ cJ [1,1,1,1,1,0,1,0,0,0]) [.seq (at_ cJ [1,1,1,1,1,0,1,0,0,1]),.loop (at_ cJ [1,1,1,1,1,0,1,0,0]),.block 2,.seq (at_ cJ [1,1,1,1,1,1])] {slots:=[.undef,.undef,.undef,.undef,.undef,.undef,.undef,.undef,.ptr 0 (.slice 65 af) [],.undef,.undef,.ptr 1 .fn [],.undef,.undef,.undef,.undef,.undef,.undef,.undef,.undef,.undef,.undef,.undef,.undef,.undef,.undef,.undef,.undef,.undef,.undef,.undef,.undef,.undef,.undef,.undef,.undef,.undef,.undef,.undef,.undef,.val (.int .i64) x0,.val (.int .i64) x1]++unU 7,res:=[(0,.box (.slice 65 af) (.row 2)),(1,.keepF 108 [.ptr 3 (.slice 4 .bool) [],.ptr 4 br [],.ptr 0 (.slice 65 af) [],.ptr 1 .fn []]),(2,.row 65 af x2 false),(3,.box (.slice 4 .bool) (.row 5)),(4,.box br (.val br x3)),(5,.row 4 .bool x4 false)],nx:=6,n0:=0}
noncomputable def iv (x0:(List ae)) (x1:Int) (x2:(List ac)) (x3:(List al)) (x4:(List al)):Option (((List ac)×Unit)×Unit):=pt E (aE E) eL (aR E eL []) (at_ aU [1,1,1,1,0,0,0,1,0,1,0,1,0,0,0,0]) [.seq (at_ aU [1,1,1,1,0,0,0,1,0,1,0,1,0,0,0,1]),.seq (at_ aU [1,1,1,1,0,0,0,1,0,1,0,1,0,0,1]),.loop (at_ aU [1,1,1,1,0,0,0,1,0,1,0,1,0,0]),.block 4,.seq (at_ aU [1,1,1,1,0,0,0,1,0,1,1]),.block 3,.loop (at_ aU [1,1,1,1,0,0,0]),.block 2,.seq (at_ aU [1,1,1,1,1])] {slots:=[.val (.slice 54 ap) x0,.undef,.undef,.undef,.undef,.undef,.undef,.row 0,.row 1,.undef,.row 2,.val (.int .i64) x1]++unU 134,res:=[(0,.row 65 af x2 false),(1,.row 52 am x3 false),(2,.row 52 am x4 false)],nx:=3,n0:=0}
noncomputable def fy (x0:Bool) (x1:(List (List Int))) (x2:Int) (x3:Int) (x4:(List ae)) (x5:(List (List aa))) (x6:(List (List Int))) (x7:(List Bool)):Option (((List Bool)×Unit)×Unit):=pt E (aE E) ee (aR E ee []) (at_ b7 [1,1,1,0,1,0,0,1,0,1,1,0,0,0]) [.seq (at_ b7 [1,1,1,0,1,0,0,1,0,1,1,0,0,1]),.loop (at_ b7 [1,1,1,0,1,0,0,1,0,1,1,0,0]),.block 4,.block 3,.loop (at_ b7 [1,1,1,0,1,0,0]),.block 2,.seq (at_ b7 [1,1,1,1])] {slots:=[.undef,.undef,.ptr 0 br [],.undef,.undef,.ptr 1 (.slice 4 .bool) [],.undef,.undef,.undef,.val .bool x0,.undef,.undef,.undef,.undef,.undef,.undef,.undef,.undef,.undef,.undef,.undef,.undef,.undef,.undef,.undef,.undef,.undef,.undef,.undef,.undef,.undef,.undef,.undef,.undef,.undef,.undef,.undef,.undef,.undef,.undef,.undef,.undef,.undef,.undef,.undef,.val (.slice 133 (.slice 3 (.int .i64))) x1,.val (.int .i64) x2,.val (.int .i64) x3]++unU 19,res:=[(0,.box br (.strct [.val (.slice 54 ap) x4,.val (.slice 110 (.slice 163 aj)) x5,.val (.slice 133 (.slice 3 (.int .i64))) x6])),(1,.box (.slice 4 .bool) (.row 2)),(2,.row 4 .bool x7 false)],nx:=3,n0:=0}
noncomputable def iJ (x0:(List ae)) (x1:Bool) (x2:Int) (x3:Bool) (x4:Int) (x5:(List al)) (x6:(List aM)):Option (((List al)×Unit)×Unit):=pt E (aE E) dH (aR E dH []) (at_ aQ [1,1,0,1,0,0,1,0,1,1,0,0,1,0,0,1,1,1,0,1,0,0,0,0]) [.seq (at_ aQ [1,1,0,1,0,0,1,0,1,1,0,0,1,0,0,1,1,1,0,1,0,0,0,1]),.seq (at_ aQ [1,1,0,1,0,0,1,0,1,1,0,0,1,0,0,1,1,1,0,1,0,0,1]),.loop (at_ aQ [1,1,0,1,0,0,1,0,1,1,0,0,1,0,0,1,1,1,0,1,0,0]),.block 4,.seq (at_ aQ [1,1,0,1,0,0,1,0,1,1,0,0,1,0,0,1,1,1,1]),.block 3,.seq (at_ aQ [1,1,0,1,0,0,1,0,1,1,0,0,1,1]),.loop (at_ aQ [1,1,0,1,0,0,1,0,1,1,0,0]),.block 2,.block 1,.loop (at_ aQ [1,1,0,1,0,0]),.block 0,.seq (at_ aQ [1,1,1])] {slots:=[.val (.slice 54 ap) x0,.undef,.undef,.undef,.undef,.row 0,.val .bool x1,.val (.int .i64) x2,.row 1,.val .bool x3,.val (.int .i64) x4]++unU 82,res:=[(0,.row 52 am x5 false),(1,.row 130 bG x6 false)],nx:=2,n0:=0}
noncomputable def si (x0:(List ae)) (x1:Int) (x2:Bool) (x3:Int) (x4:(List ac)) (x5:(List al)) (x6:(List al)) (x7:(List aa)) (x8:Int) (x9:Int) (x10:ByteArray) (x11:(List al)):Option (((List ac)×Unit)×Unit):=pt E (aE E) eL (aR E eL []) (at_ aU [1,1,1,1,0,0,0,1,0,1,0,1,0,0,1,0,0,1,1,1,0,1,0,1,1,0,1,1,0,1,0,0,0,0]) [.seq (at_ aU [1,1,1,1,0,0,0,1,0,1,0,1,0,0,1,0,0,1,1,1,0,1,0,1,1,0,1,1,0,1,0,0,0,1]),.seq (at_ aU [1,1,1,1,0,0,0,1,0,1,0,1,0,0,1,0,0,1,1,1,0,1,0,1,1,0,1,1,0,1,0,0,1]),.loop (at_ aU [1,1,1,1,0,0,0,1,0,1,0,1,0,0,1,0,0,1,1,1,0,1,0,1,1,0,1,1,0,1,0,0]),.block 6,.seq (at_ aU [1,1,1,1,0,0,0,1,0,1,0,1,0,0,1,0,0,1,1,1,0,1,0,1,1,0,1,1,1]),.seq (at_ aU [1,1,1,1,0,0,0,1,0,1,0,1,0,0,1,0,0,1,1,1,1]),.block 5,.seq (at_ aU [1,1,1,1,0,0,0,1,0,1,0,1,0,0,1,1]),.loop (at_ aU [1,1,1,1,0,0,0,1,0,1,0,1,0,0]),.block 4,.seq (at_ aU [1,1,1,1,0,0,0,1,0,1,1]),.block 3,.loop (at_ aU [1,1,1,1,0,0,0]),.block 2,.seq (at_ aU [1,1,1,1,1])] {slots:=[.val (.slice 54 ap) x0,.undef,.undef,.undef,.undef,.undef,.undef,.row 0,.row 1,.undef,.row 2,.val (.int .i64) x1,.undef,.row 3,.undef,.ptr 4 ai [],.undef,.row 5,.val .bool x2,.val (.int .i64) x3]++unU 126,res:=[(0,.row 65 af x4 false),(1,.row 52 am x5 false),(2,.row 52 am x6 false),(3,.row 163 aj x7 false),(4,.box ai (.strct [.val (.int .i64) x8,.val (.int .i64) x9,.val .str x10])),(5,.row 52 am x11 false)],nx:=6,n0:=0}
noncomputable def kC (x0:(List ae)) (x1:Bool) (x2:Int) (x3:Bool) (x4:Int) (x5:Int) (x6:(List al)) (x7:(List aM)):Option (((List al)×Unit)×Unit):=pt E (aE E) dH (aR E dH []) (at_ aQ [1,1,0,1,0,0,1,0,1,1,0,0,1,0,0,1,1,1,0,1,0,0,1,0,0,1,0,0,0,0]) [.seq (at_ aQ [1,1,0,1,0,0,1,0,1,1,0,0,1,0,0,1,1,1,0,1,0,0,1,0,0,1,0,0,0,1]),.seq (at_ aQ [1,1,0,1,0,0,1,0,1,1,0,0,1,0,0,1,1,1,0,1,0,0,1,0,0,1,0,0,1]),.loop (at_ aQ [1,1,0,1,0,0,1,0,1,1,0,0,1,0,0,1,1,1,0,1,0,0,1,0,0,1,0,0]),.block 6,.block 5,.seq (at_ aQ [1,1,0,1,0,0,1,0,1,1,0,0,1,0,0,1,1,1,0,1,0,0,1,1]),.loop (at_ aQ [1,1,0,1,0,0,1,0,1,1,0,0,1,0,0,1,1,1,0,1,0,0]),.block 4,.seq (at_ aQ [1,1,0,1,0,0,1,0,1,1,0,0,1,0,0,1,1,1,1]),.block 3,.seq (at_ aQ [1,1,0,1,0,0,1,0,1,1,0,0,1,1]),.loop (at_ aQ [1,1,0,1,0,0,1,0,1,1,0,0]),.block 2,.block 1,.loop (at_ aQ [1,1,0,1,0,0]),.block 0,.seq (at_ aQ [1,1,1])] {slots:=[.val (.slice 54 ap) x0,.undef,.undef,.undef,.undef,.row 0,.val .bool x1,.val (.int .i64) x2,.row 1,.val .bool x3,.val (.int .i64) x4,.val (.int .i64) x5]++unU 81,res:=[(0,.row 52 am x6 false),(1,.row 130 bG x7 false)],nx:=2,n0:=0}
noncomputable def fM (x0:(List ae)) (x1:Int) (x2:Bool) (x3:Int) (x4:(List ac)) (x5:(List al)) (x6:(List al)) (x7:(List aa)) (x8:Int) (x9:Int) (x10:ByteArray) (x11:(List al)):Option (((List ac)×Unit)×Unit):=pt E (aE E) eL (aR E eL []) (at_ aU [1,1,1,1,0,0,0,1,0,1,0,1,0,0,1,0,0,1,1,1,0,1,0,1,1,0,1,1,0,1,0,0,0,0]) [.seq (at_ aU [1,1,1,1,0,0,0,1,0,1,0,1,0,0,1,0,0,1,1,1,0,1,0,1,1,0,1,1,0,1,0,0,0,1]),.seq (at_ aU [1,1,1,1,0,0,0,1,0,1,0,1,0,0,1,0,0,1,1,1,0,1,0,1,1,0,1,1,0,1,0,0,1]),.loop (at_ aU [1,1,1,1,0,0,0,1,0,1,0,1,0,0,1,0,0,1,1,1,0,1,0,1,1,0,1,1,0,1,0,0]),.block 6,.seq (at_ aU [1,1,1,1,0,0,0,1,0,1,0,1,0,0,1,0,0,1,1,1,0,1,0,1,1,0,1,1,1]),.seq (at_ aU [1,1,1,1,0,0,0,1,0,1,0,1,0,0,1,0,0,1,1,1,1]),.block 5,.seq (at_ aU [1,1,1,1,0,0,0,1,0,1,0,1,0,0,1,1]),.loop (at_ aU [1,1,1,1,0,0,0,1,0,1,0,1,0,0]),.block 4,.seq (at_ aU [1,1,1,1,0,0,0,1,0,1,1]),.block 3,.loop (at_ aU [1,1,1,1,0,0,0]),.block 2,.seq (at_ aU [1,1,1,1,1])] {slots:=[.val (.slice 54 ap) x0,.undef,.undef,.undef,.undef,.undef,.undef,.row 0,.row 1,.undef,.row 2,.val (.int .i64) x1,.undef,.row 3,.undef,.ptr 4 ai [],.undef,.row 5,.val .bool x2,.val (.int .i64) x3]++unU 126,res:=[(0,.row 65 af x4 false),(1,.row 52 am x5 true),(2,.row 52 am x6 false),(3,.row 163 aj x7 false),(4,.box ai (.strct [.val (.int .i64) x8,.val (.int .i64) x9,.val .str x10])),(5,.row 52 am x11 false)],nx:=6,n0:=0}
noncomputable def eW (x0:(List ae)) (x1:Int) (x2:(List ac)) (x3:(List al)) (x4:(List al)):Option (((List ac)×Unit)×Unit):=pt E (aE E) eL (aR E eL []) (at_ aU [1,1,1,1,0,0,0,1,0,1,0,1,0,0,0,0]) [.seq (at_ aU [1,1,1,1,0,0,0,1,0,1,0,1,0,0,0,1]),.seq (at_ aU [1,1,1,1,0,0,0,1,0,1,0,1,0,0,1]),.loop (at_ aU [1,1,1,1,0,0,0,1,0,1,0,1,0,0]),.block 4,.seq (at_ aU [1,1,1,1,0,0,0,1,0,1,1]),.block 3,.loop (at_ aU [1,1,1,1,0,0,0]),.block 2,.seq (at_ aU [1,1,1,1,1])] {slots:=[.val (.slice 54 ap) x0,.undef,.undef,.undef,.undef,.undef,.undef,.row 0,.row 1,.undef,.row 2,.val (.int .i64) x1]++unU 134,res:=[(0,.row 65 af x2 false),(1,.row 52 am x3 true),(2,.row 52 am x4 false)],nx:=3,n0:=0}
end Go.Proofs.YtnodjiikdgmeaaaGreatDoor.Abs
