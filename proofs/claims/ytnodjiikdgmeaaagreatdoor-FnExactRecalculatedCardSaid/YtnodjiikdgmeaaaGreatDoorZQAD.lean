/- What the functions are, as the reader reads them. Printed by out.py. -/
import Derived.Test.YtnodjiikdgmeaaaGreatDoorZA3
import Derived.Test.YtnodjiikdgmeaaaGreatDoorProg
set_option linter.unusedVariables false
set_option linter.unusedSimpArgs false
set_option maxRecDepth 100000
namespace Go.Proofs.YtnodjiikdgmeaaaGreatDoor.Abs
open Go Go.Proofs.YtnodjiikdgmeaaaGreatDoor
abbrev S9:TypeId:=9
abbrev ao:Ty := .agg (.pair (.int .i64) (.pair (.int .i64) .unit))
abbrev al:=Int×Int×Unit
abbrev ap:Ty := .agg (.pair ao (.pair .str .unit))
abbrev aj:=al×ByteArray×Unit
abbrev ag:Ty := .agg (.pair (.int .i64) (.pair (.int .i64) (.pair .str .unit)))
abbrev ab:=Int×Int×ByteArray×Unit
abbrev ae:Ty := .agg (.pair ao (.pair ag .unit))
abbrev ac:=al×ab×Unit
abbrev bw:Ty := .agg (.pair ao (.pair .bool (.pair .bool .unit)))
abbrev bS:=al×Bool×Bool×Unit
abbrev ai:Ty := .agg (.pair (.int .i64) (.pair (.int .i64) (.pair ag (.pair bw (.pair bw (.pair (.slice 2 (.int .i64)) .unit))))))
abbrev aa:=Int×Int×ab×bS×bS×(List Int)×Unit
abbrev bg:Ty := .agg (.pair (.slice 54 ap) (.pair (.slice 110 (.slice 163 ai)) (.pair (.slice 133 (.slice 3 (.int .i64))) .unit)))
abbrev jZ:=(List aj)×(List (List aa))×(List (List Int))×Unit
abbrev bp:Ty := .agg (.pair ao (.pair ao .unit))
abbrev aJ:=al×al×Unit
abbrev aW:Ty := .agg (.pair .str (.pair (.slice 163 ai) (.pair .bool .unit)))
abbrev p8:=ByteArray×(List aa)×Bool×Unit
abbrev aQ:Ty := .agg (.pair .str (.pair (.int .i64) (.pair .bool (.pair (.slice 163 ai) .unit))))
abbrev ko:=ByteArray×Int×Bool×(List aa)×Unit
noncomputable def lg:am:={g:=3,fn:=Tryz.f3,sh:=(.pair (.val .bool) .unit),bx := .unit,own:=[],live:=[]}
noncomputable def iW:am:={g:=4,fn:=Tryz.f4,sh:=(.pair (.val .bool) .unit),bx := .unit,own:=[],live:=[]}
noncomputable def ss:am:={g:=7,fn:=Tryz.f7,sh:=(.pair (.val (.int .i64)) .unit),bx := .unit,own:=[],live:=[(5,[0,1,5])]}
noncomputable def Cw:am:={g:=8,fn:=Tryz.f8,sh:=(.pair (.row 65 ae false) .unit),bx := .unit,own:=[],live:=[]}
noncomputable def su:am:={g:=9,fn:=Tryz.f9,sh:=(.pair (.row 54 ap false) .unit),bx := .unit,own:=[],live:=[(3,[0,3,4])]}
noncomputable def Cx:am:={g:=10,fn:=Tryz.f10,sh:=(.pair (.row 65 ae false) .unit),bx := .unit,own:=[],live:=[]}
noncomputable def kG:am:={g:=11,fn:=Tryz.f11,sh:=(.pair (.val .bool) .unit),bx := .unit,own:=[],live:=[(4,[0,1,5])]}
noncomputable def sw:am:={g:=12,fn:=Tryz.f12,sh:=(.pair (.val .bool) .unit),bx := .unit,own:=[],live:=[(4,[0,1,5])]}
noncomputable def oG:am:={g:=13,fn:=Tryz.f13,sh:=(.pair (.val (.int .i64)) .unit),bx:=(.pair (.row 54 ap false) .unit),own:=[true,false],live:=[(2,[0,1,5])],rb:=true}
noncomputable def jf:am:={g:=14,fn:=Tryz.f14,sh:=(.pair (.val (.int .i64)) .unit),bx:=(.pair (.row 65 ae false) .unit),own:=[true,false],live:=[(2,[0,1,5])],rb:=true}
noncomputable def jg:am:={g:=15,fn:=Tryz.f15,sh:=(.pair (.val (.int .i64)) .unit),bx := .unit,own:=[],live:=[(2,[0,1,5])]}
noncomputable def kH:am:={g:=16,fn:=Tryz.f16,sh:=(.pair (.val (.int .i64)) .unit),bx := .unit,own:=[],live:=[(5,[0,1,5])]}
noncomputable def Hp:am:={g:=17,fn:=Tryz.f17,sh:=(.pair (.val (.int .i64)) .unit),bx := .unit,own:=[],live:=[]}
noncomputable def uM:am:={g:=18,fn:=Tryz.f18,sh:=(.pair (.row 65 ae false) .unit),bx := .unit,own:=[],live:=[]}
noncomputable def kI:am:={g:=19,fn:=Tryz.f19,sh:=(.pair (.row 65 ae false) .unit),bx := .unit,own:=[],live:=[(3,[0,3,4])]}
noncomputable def uN:am:={g:=20,fn:=Tryz.f20,sh:=(.pair (.row 52 ao false) .unit),bx := .unit,own:=[],live:=[(3,[0,3,4])]}
noncomputable def kJ:am:={g:=21,fn:=Tryz.f21,sh:=(.pair (.row 65 ae false) .unit),bx := .unit,own:=[],live:=[(6,[1,7,8,9,31,32,33])]}
noncomputable def uO:am:={g:=22,fn:=Tryz.f22,sh:=(.pair (.val .bool) .unit),bx := .unit,own:=[],live:=[(4,[0,1,5])]}
noncomputable def qH:am:={g:=23,fn:=Tryz.f23,sh:=(.pair (.val (.int .i64)) .unit),bx:=(.pair (.row 52 ao false) .unit),own:=[true,false],live:=[(2,[0,1,5])],rb:=true}
noncomputable def sx:am:={g:=27,fn:=Tryz.f27,sh:=(.pair (.val .bool) .unit),bx := .unit,own:=[],live:=[(4,[0,3])]}
noncomputable def oH:am:={g:=29,fn:=Tryz.f29,sh:=(.pair (.val ag) (.pair (.val .bool) .unit)),bx := .unit,own:=[],live:=[(9,[0,2,4,7])]}
noncomputable def qI:am:={g:=32,fn:=Tryz.f32,sh:=(.pair (.val .bool) .unit),bx := .unit,own:=[],live:=[(2,[0,5,6,7])]}
noncomputable def qJ:am:={g:=34,fn:=Tryz.f34,sh:=(.pair (.val .bool) .unit),bx := .unit,own:=[],live:=[(4,[0,3])]}
noncomputable def Hq:am:={g:=39,fn:=Tryz.f39,sh:=(.pair (.val (.int .i64)) .unit),bx := .unit,own:=[],live:=[]}
noncomputable def yj:am:={g:=40,fn:=Tryz.f40,sh:=(.pair (.row 65 ae false) .unit),bx := .unit,own:=[],live:=[(3,[0,3,4])]}
noncomputable def Hr:am:={g:=41,fn:=Tryz.f41,sh:=(.pair (.val ap) .unit),bx := .unit,own:=[],live:=[]}
noncomputable def sy:am:={g:=42,fn:=Tryz.f42,sh:=(.pair (.val .bool) .unit),bx := .unit,own:=[],live:=[(2,[0,5,6,7])]}
noncomputable def wH:am:={g:=43,fn:=Tryz.f43,sh:=(.pair (.row 65 ae false) .unit),bx := .unit,own:=[],live:=[]}
noncomputable def wI:am:={g:=44,fn:=Tryz.f44,sh:=(.pair (.val .bool) .unit),bx := .unit,own:=[],live:=[]}
noncomputable def Hs:am:={g:=45,fn:=Tryz.f45,sh:=(.pair (.val .bool) .unit),bx := .unit,own:=[],live:=[]}
noncomputable def qK:am:={g:=46,fn:=Tryz.f46,sh:=(.pair (.val .str) .unit),bx := .unit,own:=[],live:=[(4,[0,3])]}
noncomputable def wJ:am:={g:=47,fn:=Tryz.f47,sh:=(.pair (.val (.int .i64)) .unit),bx := .unit,own:=[],live:=[]}
noncomputable def dU:am:={g:=48,fn:=Tryz.f48,sh:=(.pair (.row 65 ae false) .unit),bx := .unit,own:=[],live:=[(4,[0,1,2,7,8,9]),(9,[0,7,8]),(12,[0,7,8,10,11]),(23,[0,7,8,10,11,13,15,17,18,19])]}
noncomputable def c7:am:={g:=49,fn:=Tryz.f49,sh:=(.pair (.row 52 ao false) .unit),bx := .unit,own:=[],live:=[(3,[0,5,6]),(6,[0,5,6,7]),(12,[0,5,6,7,8,9,10]),(15,[0,5,6,7,8,9,10,11]),(23,[0,5,12,13])]}
noncomputable def wK:am:={g:=50,fn:=Tryz.f50,sh:=(.pair (.val ae) .unit),bx := .unit,own:=[],live:=[]}
noncomputable def JV:am:={g:=51,fn:=Tryz.f51,sh:=(.pair (.val ao) .unit),bx := .unit,own:=[],live:=[]}
noncomputable def kp:am:={g:=52,fn:=Tryz.f52,sh:=(.pair (.strct (.pair (.val (.slice 54 ap)) (.pair (.row 110 (.slice 163 ai) false) (.pair (.row 133 (.slice 3 (.int .i64)) false) .unit)))) .unit),bx := .unit,own:=[],live:=[(3,[0,2,3,14,15,16]),(8,[0,2,3,6,8,9,14,15,16,29,30,31])]}
noncomputable def dA:am:={g:=53,fn:=Tryz.f53,sh:=(.pair (.row 4 .bool false) .unit),bx := .unit,own:=[],live:=[(3,[1,2,5,17,18,19]),(9,[2,5,9]),(12,[2,5,9,45,46,47])]}
noncomputable def uP:am:={g:=54,fn:=Tryz.f54,sh:=(.pair (.val ag) .unit),bx := .unit,own:=[],live:=[(2,[3,4,7,8,9])]}
noncomputable def dV:am:={g:=55,fn:=Tryz.f55,sh:=(.pair (.row 65 ae false) .unit),bx := .unit,own:=[],live:=[(3,[2,3,7,8,20,21,22]),(10,[8,11,40,41])]}
noncomputable def JW:am:={g:=56,fn:=Tryz.f56,sh:=(.pair (.val .bool) .unit),bx := .unit,own:=[],live:=[]}
noncomputable def EF:am:={g:=59,fn:=Tryz.f59,sh:=(.pair (.val .str) (.pair (.val .bool) .unit)),bx := .unit,own:=[],live:=[]}
noncomputable def JX:am:={g:=60,fn:=Tryz.f60,sh:=(.pair (.val .bool) .unit),bx := .unit,own:=[],live:=[]}
noncomputable def EG:am:={g:=61,fn:=Tryz.f61,sh:=(.pair (.val .bool) .unit),bx := .unit,own:=[],live:=[]}
noncomputable def pG:am:={g:=62,fn:=Tryz.f62,sh:=(.pair (.val .str) (.pair (.val .bool) .unit)),bx := .unit,own:=[],live:=[]}
noncomputable def JY:am:={g:=63,fn:=Tryz.f63,sh:=(.pair (.val ag) .unit),bx := .unit,own:=[],live:=[]}
noncomputable def pH:am:={g:=64,fn:=Tryz.f64,sh:=(.pair (.val .bool) .unit),bx := .unit,own:=[],live:=[]}
noncomputable def Ay:am:={g:=65,fn:=Tryz.f65,sh:=(.pair (.val .str) .unit),bx := .unit,own:=[],live:=[]}
noncomputable def JZ:am:={g:=66,fn:=Tryz.f66,sh:=(.pair (.val ag) .unit),bx := .unit,own:=[],live:=[]}
noncomputable def lh:am:={g:=67,fn:=Tryz.f67,sh:=(.pair (.val (.int .i64)) (.pair (.val .err) .unit)),bx := .unit,own:=[],live:=[],prim:=some (oE)}
noncomputable def Ht:am:={g:=68,fn:=Tryz.f68,sh:=(.pair (.val ag) .unit),bx := .unit,own:=[],live:=[]}
noncomputable def EH:am:={g:=69,fn:=Tryz.f69,sh:=(.pair (.val .bool) .unit),bx := .unit,own:=[],live:=[]}
noncomputable def Az:am:={g:=70,fn:=Tryz.f70,sh:=(.pair (.val .str) .unit),bx := .unit,own:=[],live:=[]}
noncomputable def kK:am:={g:=73,fn:=Tryz.f73,sh:=(.pair (.val .bool) .unit),bx := .unit,own:=[],live:=[(4,[1,2,5,6,7])]}
noncomputable def wL:am:={g:=74,fn:=Tryz.f74,sh:=(.pair (.row 163 ai false) (.pair (.val .bool) .unit)),bx := .unit,own:=[],live:=[]}
noncomputable def J0:am:={g:=76,fn:=Tryz.f76,sh:=(.pair (.val .bool) .unit),bx := .unit,own:=[],live:=[]}
noncomputable def wM:am:={g:=77,fn:=Tryz.f77,sh:=(.pair (.val (.int .i64)) .unit),bx := .unit,own:=[],live:=[]}
noncomputable def EI:am:={g:=82,fn:=Tryz.f82,sh:=(.pair (.val .bool) .unit),bx := .unit,own:=[],live:=[]}
noncomputable def Cy:am:={g:=83,fn:=Tryz.f83,sh:=(.pair (.val .bool) .unit),bx := .unit,own:=[],live:=[]}
noncomputable def EJ:am:={g:=84,fn:=Tryz.f84,sh:=(.pair (.val .bool) .unit),bx := .unit,own:=[],live:=[]}
noncomputable def EK:am:={g:=85,fn:=Tryz.f85,sh:=(.pair (.val (.int .i64)) .unit),bx := .unit,own:=[],live:=[]}
noncomputable def yk:am:={g:=86,fn:=Tryz.f86,sh:=(.pair (.val .bool) .unit),bx := .unit,own:=[],live:=[(2,[0,3,5])]}
noncomputable def BQ:am:={g:=87,fn:=Tryz.f87,sh:=(.pair (.val ag) .unit),bx := .unit,own:=[],live:=[(2,[0,3,4,5])]}
noncomputable def BR:am:={g:=88,fn:=Tryz.f88,sh:=(.pair (.val .str) .unit),bx := .unit,own:=[],live:=[(2,[0,3,5])]}
noncomputable def AA:am:={g:=89,fn:=Tryz.f89,sh:=(.pair (.row 163 ai false) (.pair (.val .bool) .unit)),bx := .unit,own:=[],live:=[]}
noncomputable def jn:am:={g:=90,fn:=Tryz.f90,sh:=(.pair (.val ag) (.pair (.val .bool) .unit)),bx := .unit,own:=[],live:=[(23,[0,2,4,5]),(27,[2,4])]}
noncomputable def EL:am:={g:=91,fn:=Tryz.f91,sh:=(.pair (.val ag) .unit),bx := .unit,own:=[],live:=[]}
noncomputable def kq:am:={g:=92,fn:=Tryz.f92,sh:=(.pair (.val .bool) .unit),bx := .unit,own:=[],live:=[(3,[0,3,5,6]),(9,[0,3,5,6,7,8])]}
noncomputable def lZ:am:={g:=93,fn:=Tryz.f93,sh:=(.pair (.row 52 ao false) .unit),bx := .unit,own:=[],live:=[(4,[0,5,6,7]),(8,[0,5,6,7,8,9])]}
noncomputable def Nu:am:={g:=94,fn:=Tryz.f94,sh:=(.pair (.val ag) .unit),bx := .unit,own:=[],live:=[]}
noncomputable def yl:am:={g:=95,fn:=Tryz.f95,sh:=(.pair (.row 65 ae false) .unit),bx := .unit,own:=[],live:=[(2,[0,3,5])]}
noncomputable def EM:am:={g:=96,fn:=Tryz.f96,sh:=(.pair (.row 130 bp false) .unit),bx := .unit,own:=[],live:=[]}
noncomputable def Cz:am:={g:=97,fn:=Tryz.f97,sh:=(.pair (.val .bool) .unit),bx := .unit,own:=[],live:=[]}
noncomputable def EN:am:={g:=98,fn:=Tryz.f98,sh:=(.pair (.val ag) .unit),bx := .unit,own:=[],live:=[]}
noncomputable def AB:am:={g:=99,fn:=Tryz.f99,sh:=(.pair (.row 163 ai false) (.pair (.val .bool) .unit)),bx := .unit,own:=[],live:=[]}
noncomputable def sA:am:={g:=100,fn:=Tryz.f100,sh:=(.pair (.row 130 bp false) .unit),bx := .unit,own:=[],live:=[(3,[3,7,8,9])]}
noncomputable def Nv:am:={g:=101,fn:=Tryz.f101,sh:=(.pair (.val .bool) .unit),bx := .unit,own:=[],live:=[]}
noncomputable def nU:am:={g:=102,fn:=Tryz.f102,sh:=(.pair (.val .bool) .unit),bx := .unit,own:=[],live:=[]}
noncomputable def kL:am:={g:=103,fn:=Tryz.f103,sh:=(.pair (.val .bool) .unit),bx:=(.pair (.row 130 bp false) .unit),own:=[],live:=[]}
noncomputable def q8:am:={g:=104,fn:=Tryz.f104,sh:=(.pair (.val .bool) .unit),bx:=(.pair (.row 130 bp false) .unit),own:=[],live:=[]}
noncomputable def ic:am:={g:=105,fn:=Tryz.f105,sh:=(.pair (.val .bool) .unit),bx:=(.pair (.row 4 .bool false) .unit),own:=[],live:=[]}
noncomputable def q9:am:={g:=106,fn:=Tryz.f106,sh:=(.pair (.val .bool) .unit),bx:=(.pair (.row 4 .bool false) .unit),own:=[],live:=[]}
noncomputable def j0:am:={g:=107,fn:=Tryz.f107,sh:=(.pair (.row 4 .bool false) .unit),bx := .unit,own:=[],live:=[],prim:=some (eD 4 .bool 1)}
noncomputable def cK:am:={g:=108,fn:=Tryz.f108,sh := .unit,bx:=(.pair (.row 4 .bool false) (.pair (.val bg) (.pair (.row 65 ae false) .unit))),own:=[],live:=[(3,[0,2,3,4,19,20,21])]}
noncomputable def Nw:am:={g:=109,fn:=Tryz.f109,sh:=(.pair (.val ag) .unit),bx := .unit,own:=[],live:=[]}
noncomputable def sB:am:={g:=111,fn:=Tryz.f111,sh:=(.pair (.val .bool) .unit),bx := .unit,own:=[],live:=[(2,[0,3])]}
noncomputable def wN:am:={g:=112,fn:=Tryz.f112,sh:=(.pair (.row 163 ai false) (.pair (.val .bool) .unit)),bx := .unit,own:=[],live:=[]}
noncomputable def wO:am:={g:=113,fn:=Tryz.f113,sh:=(.pair (.val .str) .unit),bx := .unit,own:=[],live:=[]}
noncomputable def qL:am:={g:=114,fn:=Tryz.f114,sh:=(.pair (.val ag) (.pair (.val .bool) .unit)),bx := .unit,own:=[],live:=[(6,[0,2,4])]}
noncomputable def AC:am:={g:=115,fn:=Tryz.f115,sh:=(.pair (.val .str) .unit),bx := .unit,own:=[],live:=[]}
noncomputable def Nx:am:={g:=116,fn:=Tryz.f116,sh:=(.pair (.val .bool) .unit),bx := .unit,own:=[],live:=[]}
noncomputable def mp:am:={g:=117,fn:=Tryz.f117,sh:=(.pair (.val .str) (.pair (.val .bool) .unit)),bx := .unit,own:=[],live:=[]}
noncomputable def mq:am:={g:=118,fn:=Tryz.f118,sh:=(.pair (.val .bool) .unit),bx := .unit,own:=[],live:=[]}
noncomputable def uQ:am:={g:=121,fn:=Tryz.f121,sh:=(.pair (.val .bool) .unit),bx := .unit,own:=[],live:=[(2,[0,1,7,8])]}
noncomputable def Hu:am:={g:=122,fn:=Tryz.f122,sh:=(.pair (.val .bool) .unit),bx := .unit,own:=[],live:=[]}
noncomputable def EO:am:={g:=123,fn:=Tryz.f123,sh:=(.pair (.val .str) .unit),bx := .unit,own:=[],live:=[]}
noncomputable def li:am:={g:=124,fn:=Tryz.f124,sh:=(.pair (.row 3 (.int .i64) false) .unit),bx := .unit,own:=[],live:=[],prim:=some (eD 3 (.int .i64) 8)}
noncomputable def ft:am:={g:=125,fn:=Tryz.f125,sh:=(.pair (.val (.int .i64)) .unit),bx:=(.pair (.strct (.pair (.val .str) (.pair (.row 163 ai false) (.pair (.val .bool) .unit)))) .unit),own:=[],live:=[(2,[0,1,2,7]),(5,[0,1,2,7,8,9])]}
noncomputable def tC:am:={g:=126,fn:=Tryz.f126,sh := .unit,bx:=(.pair (.strct (.pair (.val .str) (.pair (.row 163 ai false) (.pair (.val .bool) .unit)))) .unit),own:=[],live:=[]}
noncomputable def AD:am:={g:=127,fn:=Tryz.f127,sh:=(.pair (.val .bool) .unit),bx := .unit,own:=[],live:=[]}
noncomputable def oI:am:={g:=128,fn:=Tryz.f128,sh:=(.pair (.val (.int .i64)) .unit),bx := .unit,own:=[],live:=[(3,[3,6,7,8])]}
noncomputable def pI:am:={g:=129,fn:=Tryz.f129,sh:=(.pair (.val (.int .i64)) .unit),bx := .unit,own:=[],live:=[]}
noncomputable def ym:am:={g:=133,fn:=Tryz.f133,sh:=(.pair (.val .str) .unit),bx := .unit,own:=[],live:=[(4,[0,3])]}
noncomputable def EP:am:={g:=134,fn:=Tryz.f134,sh:=(.pair (.val .str) (.pair (.val .bool) .unit)),bx := .unit,own:=[],live:=[]}
noncomputable def Hv:am:={g:=135,fn:=Tryz.f135,sh:=(.pair (.val .str) .unit),bx := .unit,own:=[],live:=[]}
noncomputable def yn:am:={g:=136,fn:=Tryz.f136,sh:=(.pair (.val (.int .i64)) (.pair (.val .bool) .unit)),bx := .unit,own:=[],live:=[(5,[0,6,7])]}
noncomputable def jo:am:={g:=137,fn:=Tryz.f137,sh:=(.pair (.val .bool) .unit),bx := .unit,own:=[],live:=[(4,[0,3]),(9,[0,3,4])]}
noncomputable def Hw:am:={g:=138,fn:=Tryz.f138,sh:=(.pair (.val ag) .unit),bx := .unit,own:=[],live:=[]}
noncomputable def J1:am:={g:=139,fn:=Tryz.f139,sh:=(.pair (.val ag) .unit),bx := .unit,own:=[],live:=[]}
noncomputable def sC:am:={g:=140,fn:=Tryz.f140,sh:=(.pair (.row 130 bp false) .unit),bx := .unit,own:=[],live:=[(5,[0,3,4])]}
noncomputable def zB:am:={g:=141,fn:=Tryz.f141,sh:=(.pair (.val bp) .unit),bx := .unit,own:=[],live:=[]}
noncomputable def j6:am:={g:=142,fn:=Tryz.f142,sh:=(.pair (.val .bool) .unit),bx:=(.pair (.val ao) .unit),own:=[],live:=[]}
noncomputable def AE:am:={g:=143,fn:=Tryz.f143,sh:=(.pair (.val .bool) .unit),bx:=(.pair (.val ao) .unit),own:=[],live:=[]}
noncomputable def CA:am:={g:=144,fn:=Tryz.f144,sh:=(.pair (.val .bool) .unit),bx := .unit,own:=[],live:=[]}
noncomputable def iy:am:={g:=145,fn:=Tryz.f145,sh:=(.pair (.val (.int .i64)) .unit),bx := .unit,own:=[],live:=[(2,[0,3,7,8])]}
noncomputable def dg:am:={g:=146,fn:=Tryz.f146,sh:=(.pair (.val (.int .i64)) .unit),bx:=(.pair (.row 130 bp false) .unit),own:=[],live:=[(2,[0,1,7,8])]}
noncomputable def ck:am:={g:=147,fn:=Tryz.f147,sh:=(.pair (.val (.int .i64)) .unit),bx:=(.pair (.row 4 .bool false) .unit),own:=[],live:=[(2,[0,1,7,8])]}
noncomputable def Ny:am:={g:=148,fn:=Tryz.f148,sh:=(.pair (.val ag) .unit),bx := .unit,own:=[],live:=[]}
noncomputable def qM:am:={g:=149,fn:=Tryz.f149,sh:=(.pair (.val (.int .i64)) .unit),bx:=(.pair (.strct (.pair (.val .str) (.pair (.val (.int .i64)) (.pair (.val .bool) (.pair (.row 163 ai false) .unit))))) .unit),own:=[],live:=[(6,[0,1,5])]}
noncomputable def l4:am:={g:=150,fn:=Tryz.f150,sh := .unit,bx:=(.pair (.strct (.pair (.val .str) (.pair (.val (.int .i64)) (.pair (.val .bool) (.pair (.row 163 ai false) .unit))))) .unit),own:=[],live:=[(0,[0])]}
noncomputable def uR:am:={g:=151,fn:=Tryz.f151,sh:=(.pair (.val .str) .unit),bx := .unit,own:=[],live:=[(21,[0,7,10,11])]}
noncomputable def Hx:am:={g:=152,fn:=Tryz.f152,sh:=(.pair (.val .str) .unit),bx := .unit,own:=[],live:=[]}
noncomputable def kA:am:={g:=158,fn:=Tryz.f158,sh:=(.pair (.val .str) .unit),bx := .unit,own:=[],live:=[],prim:=some (BO)}
noncomputable def uS:am:={g:=159,fn:=Tryz.f159,sh:=(.pair (.val (.int .i64)) .unit),bx:=(.pair (.strct (.pair (.val .str) (.pair (.row 163 ai false) (.pair (.val .bool) .unit)))) .unit),own:=[],live:=[]}
noncomputable def l5:am:={g:=160,fn:=Tryz.f160,sh:=(.pair (.val .str) .unit),bx:=(.pair (.strct (.pair (.val .str) (.pair (.row 163 ai false) (.pair (.val .bool) .unit)))) .unit),own:=[],live:=[(3,[0,7,8,9])]}
noncomputable def Hy:am:={g:=161,fn:=Tryz.f161,sh:=(.pair (.val .str) .unit),bx := .unit,own:=[],live:=[]}
noncomputable def J2:am:={g:=162,fn:=Tryz.f162,sh:=(.pair (.val (.int .i64)) .unit),bx := .unit,own:=[],live:=[]}
noncomputable def wP:am:={g:=163,fn:=Tryz.f163,sh:=(.pair (.val .bool) .unit),bx:=(.pair (.strct (.pair (.val .str) (.pair (.row 163 ai false) (.pair (.val .bool) .unit)))) .unit),own:=[],live:=[]}
noncomputable def zC:am:={g:=164,fn:=Tryz.f164,sh:=(.pair (.val (.int .i64)) .unit),bx:=(.pair (.strct (.pair (.val .str) (.pair (.row 163 ai false) (.pair (.val .bool) .unit)))) .unit),own:=[],live:=[]}
noncomputable def lj:am:={g:=165,fn:=Tryz.f165,sh:=(.pair (.val .str) .unit),bx := .unit,own:=[],live:=[],prim:=some (oD)}
noncomputable def BS:am:={g:=166,fn:=Tryz.f166,sh:=(.pair (.val (.int .i64)) .unit),bx := .unit,own:=[],live:=[(5,[0,1,2,7,8])]}
noncomputable def r7:am:={g:=167,fn:=Tryz.f167,sh:=(.pair (.val .bool) .unit),bx := .unit,own:=[],live:=[]}
noncomputable def AF:am:={g:=168,fn:=Tryz.f168,sh:=(.pair (.val .str) .unit),bx := .unit,own:=[],live:=[]}
noncomputable def Hz:am:={g:=170,fn:=Tryz.f170,sh:=(.pair (.val .str) .unit),bx := .unit,own:=[],live:=[]}
noncomputable def CB:am:={g:=171,fn:=Tryz.f171,sh:=(.pair (.val .str) (.pair (.val .bool) .unit)),bx := .unit,own:=[],live:=[]}
noncomputable def CC:am:={g:=172,fn:=Tryz.f172,sh:=(.pair (.val .bool) .unit),bx := .unit,own:=[],live:=[]}
noncomputable def CD:am:={g:=173,fn:=Tryz.f173,sh:=(.pair (.val .bool) .unit),bx := .unit,own:=[],live:=[]}
noncomputable def uT:am:={g:=174,fn:=Tryz.f174,sh:=(.pair (.val (.int .i64)) .unit),bx := .unit,own:=[],live:=[(3,[0,1,5,6])]}
noncomputable def uU:am:={g:=175,fn:=Tryz.f175,sh:=(.pair (.val (.int .i64)) .unit),bx := .unit,own:=[],live:=[(3,[0,1,5,6])]}
noncomputable def EQ:am:={g:=176,fn:=Tryz.f176,sh:=(.pair (.val ag) .unit),bx := .unit,own:=[],live:=[]}
noncomputable def HA:am:={g:=177,fn:=Tryz.f177,sh:=(.pair (.val ag) .unit),bx := .unit,own:=[],live:=[]}
noncomputable def Q4:am:={g:=178,fn:=Tryz.f178,sh:=(.pair (.val ag) .unit),bx := .unit,own:=[],live:=[]}
noncomputable def Nz:am:={g:=179,fn:=Tryz.f179,sh:=(.pair (.val ag) .unit),bx := .unit,own:=[],live:=[]}
noncomputable def J3:am:={g:=180,fn:=Tryz.f180,sh:=(.pair (.val ag) .unit),bx := .unit,own:=[],live:=[]}
noncomputable def NA:am:={g:=181,fn:=Tryz.f181,sh:=(.pair (.val ag) .unit),bx := .unit,own:=[],live:=[]}
noncomputable def HC:am:={g:=182,fn:=Tryz.f182,sh:=(.pair (.val ag) .unit),bx := .unit,own:=[],live:=[]}
noncomputable def NB:am:={g:=183,fn:=Tryz.f183,sh:=(.pair (.val ag) .unit),bx := .unit,own:=[],live:=[]}
noncomputable def cY:am:={g:=184,fn:=Tryz.f184,sh:=(.pair (.val (.int .i64)) .unit),bx:=(.pair (.val ao) .unit),own:=[],live:=[(2,[0,1,7,8])]}
noncomputable def ER:am:={g:=185,fn:=Tryz.f185,sh:=(.pair (.val ag) .unit),bx := .unit,own:=[],live:=[]}
noncomputable def HD:am:={g:=186,fn:=Tryz.f186,sh:=(.pair (.val ag) .unit),bx := .unit,own:=[],live:=[]}
noncomputable def Q5:am:={g:=187,fn:=Tryz.f187,sh:=(.pair (.val ag) .unit),bx := .unit,own:=[],live:=[]}
noncomputable def NC:am:={g:=188,fn:=Tryz.f188,sh:=(.pair (.val ag) .unit),bx := .unit,own:=[],live:=[]}
noncomputable def J4:am:={g:=189,fn:=Tryz.f189,sh:=(.pair (.val ag) .unit),bx := .unit,own:=[],live:=[]}
noncomputable def ND:am:={g:=190,fn:=Tryz.f190,sh:=(.pair (.val ag) .unit),bx := .unit,own:=[],live:=[]}
noncomputable def HE:am:={g:=191,fn:=Tryz.f191,sh:=(.pair (.val ag) .unit),bx := .unit,own:=[],live:=[]}
noncomputable def NE:am:={g:=192,fn:=Tryz.f192,sh:=(.pair (.val ag) .unit),bx := .unit,own:=[],live:=[]}
noncomputable def kt:am:={g:=193,fn:=Tryz.f193,sh:=(.pair (.val (.int .i64)) .unit),bx:=(.pair (.strct (.pair (.val .str) (.pair (.val (.int .i64)) (.pair (.val .bool) (.pair (.row 163 ai false) .unit))))) .unit),own:=[],live:=[(13,[0,5]),(23,[0,7,8])]}
noncomputable def l6:am:={g:=194,fn:=Tryz.f194,sh:=(.pair (.val (.int .i64)) .unit),bx:=(.pair (.strct (.pair (.val .str) (.pair (.val (.int .i64)) (.pair (.val .bool) (.pair (.row 163 ai false) .unit))))) .unit),own:=[],live:=[(3,[0,1,5,6])]}
noncomputable def CE:am:={g:=195,fn:=Tryz.f195,sh:=(.pair (.val (.int .i64)) .unit),bx:=(.pair (.strct (.pair (.val .str) (.pair (.val (.int .i64)) (.pair (.val .bool) (.pair (.row 163 ai false) .unit))))) .unit),own:=[],live:=[]}
noncomputable def sD:am:={g:=196,fn:=Tryz.f196,sh:=(.pair (.val .str) .unit),bx := .unit,own:=[],live:=[(3,[0,3,4])]}
noncomputable def ES:am:={g:=197,fn:=Tryz.f197,sh:=(.pair (.val (.int .i64)) .unit),bx := .unit,own:=[],live:=[]}
noncomputable def NF:am:={g:=198,fn:=Tryz.f198,sh:=(.pair (.val .str) .unit),bx := .unit,own:=[],live:=[]}
noncomputable def gC:am:={g:=205,fn:=Tryz.f205,sh:=(.pair (.val (.int .i64)) .unit),bx:=(.pair (.strct (.pair (.val .str) (.pair (.row 163 ai false) (.pair (.val .bool) .unit)))) .unit),own:=[],live:=[(6,[0,1,5]),(24,[0,1,9,14])]}
noncomputable def wQ:am:={g:=210,fn:=Tryz.f210,sh:=(.pair (.val .bool) .unit),bx := .unit,own:=[],live:=[]}
noncomputable def sE:am:={g:=211,fn:=Tryz.f211,sh:=(.pair (.val .str) .unit),bx := .unit,own:=[],live:=[(4,[0,3])]}
noncomputable def wR:am:={g:=213,fn:=Tryz.f213,sh:=(.pair (.val .str) .unit),bx := .unit,own:=[],live:=[]}
noncomputable def oJ:am:={g:=214,fn:=Tryz.f214,sh:=(.pair (.val .str) .unit),bx := .unit,own:=[],live:=[]}
noncomputable def p9:am:={g:=215,fn:=Tryz.f215,sh:=(.pair (.val .str) .unit),bx := .unit,own:=[],live:=[],prim:=some (yh)}
noncomputable def HF:am:={g:=216,fn:=Tryz.f216,sh:=(.pair (.val .bool) .unit),bx := .unit,own:=[],live:=[]}
noncomputable def HG:am:={g:=217,fn:=Tryz.f217,sh:=(.pair (.val .bool) .unit),bx := .unit,own:=[],live:=[]}
noncomputable def J5:am:={g:=218,fn:=Tryz.f218,sh:=(.pair (.val (.int .i64)) (.pair (.val ag) .unit)),bx := .unit,own:=[],live:=[]}
noncomputable def HH:am:={g:=219,fn:=Tryz.f219,sh:=(.pair (.val .bool) (.pair (.val ag) .unit)),bx := .unit,own:=[],live:=[]}
noncomputable def HI:am:={g:=220,fn:=Tryz.f220,sh:=(.pair (.val ag) .unit),bx := .unit,own:=[],live:=[]}
noncomputable def HJ:am:={g:=221,fn:=Tryz.f221,sh:=(.pair (.val .str) (.pair (.val ag) .unit)),bx := .unit,own:=[],live:=[]}
noncomputable def uV:am:={g:=222,fn:=Tryz.f222,sh:=(.pair (.val ag) .unit),bx := .unit,own:=[],live:=[(6,[0,1,4,5,6,7,8,9])]}
noncomputable def nV:am:={g:=223,fn:=Tryz.f223,sh:=(.pair (.row 49 ag false) .unit),bx := .unit,own:=[],live:=[(3,[0,1,2,7,8]),(10,[0,1,2,7,8,10,11])]}
noncomputable def J6:am:={g:=224,fn:=Tryz.f224,sh:=(.pair (.val (.int .i64)) (.pair (.val (.int .i64)) (.pair (.val ag) .unit))),bx := .unit,own:=[],live:=[]}
noncomputable def J7:am:={g:=225,fn:=Tryz.f225,sh:=(.pair (.val (.int .i64)) .unit),bx := .unit,own:=[],live:=[]}
noncomputable def HK:am:={g:=226,fn:=Tryz.f226,sh:=(.pair (.val ag) .unit),bx := .unit,own:=[],live:=[]}
noncomputable def HL:am:={g:=227,fn:=Tryz.f227,sh:=(.pair (.val ag) .unit),bx := .unit,own:=[],live:=[]}
noncomputable def HM:am:={g:=228,fn:=Tryz.f228,sh:=(.pair (.val ag) .unit),bx := .unit,own:=[],live:=[]}
noncomputable def qN:am:={g:=229,fn:=Tryz.f229,sh:=(.pair (.val ag) .unit),bx := .unit,own:=[],live:=[(3,[0,4,5,6,11,12,13])]}
noncomputable def ku:am:={g:=230,fn:=Tryz.f230,sh:=(.pair (.row 49 ag false) .unit),bx := .unit,own:=[],live:=[(3,[0,2,7,14,15,16]),(8,[0,2,7,9,14,15,16,33,34,35])]}
noncomputable def uW:am:={g:=231,fn:=Tryz.f231,sh:=(.pair (.val ag) .unit),bx := .unit,own:=[],live:=[(3,[2,3,7,8,9])]}
noncomputable def qO:am:={g:=232,fn:=Tryz.f232,sh:=(.pair (.val ag) .unit),bx := .unit,own:=[],live:=[(3,[0,4,5,6,7,10,11,12])]}
noncomputable def mK:am:={g:=233,fn:=Tryz.f233,sh:=(.pair (.val ag) .unit),bx := .unit,own:=[],live:=[]}
noncomputable def J8:am:={g:=234,fn:=Tryz.f234,sh:=(.pair (.val ag) .unit),bx := .unit,own:=[],live:=[]}
noncomputable def ET:am:={g:=235,fn:=Tryz.f235,sh:=(.pair (.val ag) .unit),bx := .unit,own:=[],live:=[]}
noncomputable def HN:am:={g:=236,fn:=Tryz.f236,sh:=(.pair (.val ag) .unit),bx := .unit,own:=[],live:=[]}
noncomputable def EU:am:={g:=237,fn:=Tryz.f237,sh:=(.pair (.val ag) .unit),bx := .unit,own:=[],live:=[]}
noncomputable def HO:am:={g:=238,fn:=Tryz.f238,sh:=(.pair (.val ag) .unit),bx := .unit,own:=[],live:=[]}
noncomputable def HP:am:={g:=239,fn:=Tryz.f239,sh:=(.pair (.val .str) (.pair (.val .bool) .unit)),bx := .unit,own:=[],live:=[]}
noncomputable def NG:am:={g:=240,fn:=Tryz.f240,sh:=(.pair (.val ag) .unit),bx := .unit,own:=[],live:=[]}
noncomputable def J9:am:={g:=241,fn:=Tryz.f241,sh:=(.pair (.val (.int .i64)) .unit),bx := .unit,own:=[],live:=[]}
noncomputable def EV:am:={g:=242,fn:=Tryz.f242,sh:=(.pair (.val .bool) .unit),bx:=(.pair (.strct (.pair (.val .str) (.pair (.val (.int .i64)) (.pair (.val .bool) (.pair (.row 163 ai false) .unit))))) .unit),own:=[],live:=[]}
noncomputable def oK:am:={g:=243,fn:=Tryz.f243,sh:=(.pair (.val (.int .i64)) .unit),bx:=(.pair (.strct (.pair (.val .str) (.pair (.val (.int .i64)) (.pair (.val .bool) (.pair (.row 163 ai false) .unit))))) .unit),own:=[],live:=[(2,[0,3])]}
noncomputable def oL:am:={g:=244,fn:=Tryz.f244,sh:=(.pair (.val .str) .unit),bx:=(.pair (.strct (.pair (.val .str) (.pair (.val (.int .i64)) (.pair (.val .bool) (.pair (.row 163 ai false) .unit))))) .unit),own:=[],live:=[(2,[0,3])]}
noncomputable def jp:am:={g:=245,fn:=Tryz.f245,sh:=(.pair (.val (.int .i64)) .unit),bx:=(.pair (.strct (.pair (.val .str) (.pair (.val (.int .i64)) (.pair (.val .bool) (.pair (.row 163 ai false) .unit))))) .unit),own:=[],live:=[(2,[0,1,5])]}
noncomputable def oM:am:={g:=246,fn:=Tryz.f246,sh:=(.pair (.val bw) (.pair (.val .bool) .unit)),bx := .unit,own:=[],live:=[(6,[0,2,4,5])]}
noncomputable def jO:am:={g:=252,fn:=Tryz.f252,sh:=(.pair (.val (.int .i64)) .unit),bx:=(.pair (.strct (.pair (.val .str) (.pair (.row 163 ai false) (.pair (.val .bool) .unit)))) .unit),own:=[],live:=[(2,[0,3,4])]}
noncomputable def ra:am:={g:=253,fn:=Tryz.f253,sh:=(.pair (.val (.int .i64)) .unit),bx:=(.pair (.strct (.pair (.val .str) (.pair (.row 163 ai false) (.pair (.val .bool) .unit)))) .unit),own:=[],live:=[]}
noncomputable def wS:am:={g:=254,fn:=Tryz.f254,sh:=(.pair (.val .str) .unit),bx:=(.pair (.strct (.pair (.val .str) (.pair (.row 163 ai false) (.pair (.val .bool) .unit)))) .unit),own:=[],live:=[]}
noncomputable def AG:am:={g:=255,fn:=Tryz.f255,sh:=(.pair (.val bw) (.pair (.val .bool) .unit)),bx := .unit,own:=[],live:=[]}
noncomputable def HQ:am:={g:=256,fn:=Tryz.f256,sh:=(.pair (.val .str) .unit),bx := .unit,own:=[],live:=[]}
noncomputable def gD:am:={g:=257,fn:=Tryz.f257,sh:=(.pair (.val (.int .i64)) .unit),bx:=(.pair (.strct (.pair (.val .str) (.pair (.row 163 ai false) (.pair (.val .bool) .unit)))) .unit),own:=[],live:=[(3,[0,1,2,7])]}
noncomputable def r8:am:={g:=261,fn:=Tryz.f261,sh:=(.pair (.val .bool) .unit),bx := .unit,own:=[],live:=[]}
noncomputable def uX:am:={g:=262,fn:=Tryz.f262,sh:=(.pair (.val .bool) .unit),bx := .unit,own:=[],live:=[]}
noncomputable def l7:am:={g:=264,fn:=Tryz.f264,sh:=(.pair (.val .str) .unit),bx := .unit,own:=[],live:=[(21,[0,7,10,92,93,94])]}
noncomputable def lk:am:={g:=265,fn:=Tryz.f265,sh:=(.pair (.val .str) .unit),bx := .unit,own:=[],live:=[]}
noncomputable def HR:am:={g:=269,fn:=Tryz.f269,sh:=(.pair (.val (.int .i64)) .unit),bx := .unit,own:=[],live:=[]}
noncomputable def EW:am:={g:=270,fn:=Tryz.f270,sh:=(.pair (.val .bool) (.pair (.val .bool) .unit)),bx := .unit,own:=[],live:=[]}
noncomputable def CF:am:={g:=271,fn:=Tryz.f271,sh:=(.pair (.val (.int .i64)) (.pair (.val .bool) .unit)),bx := .unit,own:=[],live:=[]}
noncomputable def AH:am:={g:=272,fn:=Tryz.f272,sh:=(.pair (.val .str) .unit),bx := .unit,own:=[],live:=[]}
noncomputable def oO:am:={g:=273,fn:=Tryz.f273,sh:=(.pair (.val (.int .i64)) .unit),bx := .unit,own:=[],live:=[]}
noncomputable def CG:am:={g:=274,fn:=Tryz.f274,sh:=(.pair (.val (.int .i64)) .unit),bx:=(.pair (.strct (.pair (.val .str) (.pair (.val (.int .i64)) (.pair (.val .bool) (.pair (.row 163 ai false) .unit))))) .unit),own:=[],live:=[]}
noncomputable def sF:am:={g:=275,fn:=Tryz.f275,sh:=(.pair (.val (.int .i64)) .unit),bx := .unit,own:=[],live:=[(2,[0,3])]}
noncomputable def rO:am:={g:=281,fn:=Tryz.f281,sh:=(.pair (.val .str) (.pair (.val .str) (.pair (.val .bool) .unit))),bx := .unit,own:=[],live:=[],prim:=some (BP)}
noncomputable def sG:am:={g:=282,fn:=Tryz.f282,sh:=(.pair (.val (.int .i64)) .unit),bx := .unit,own:=[],live:=[(2,[0,3])]}
noncomputable def AI:am:={g:=283,fn:=Tryz.f283,sh:=(.pair (.val .str) .unit),bx := .unit,own:=[],live:=[]}
noncomputable def rd:am:={g:=284,fn:=Tryz.f284,sh:=(.pair (.strct (.pair (.val (.int .i64)) (.pair (.val (.int .i64)) (.pair (.val ag) (.pair (.val bw) (.pair (.val bw) (.pair (.row 2 (.int .i64) false) .unit))))))) (.pair (.val .bool) .unit)),bx:=(.pair (.strct (.pair (.val .str) (.pair (.row 163 ai false) (.pair (.val .bool) .unit)))) .unit),own:=[],live:=[]}
noncomputable def HS:am:={g:=287,fn:=Tryz.f287,sh:=(.pair (.val .bool) .unit),bx := .unit,own:=[],live:=[]}
noncomputable def jP:am:={g:=289,fn:=Tryz.f289,sh:=(.pair (.val .str) .unit),bx := .unit,own:=[],live:=[],prim:=some (qG)}
noncomputable def qa:am:={g:=290,fn:=Tryz.f290,sh:=(.pair (.val .str) .unit),bx := .unit,own:=[],live:=[],prim:=some (yi S9)}
noncomputable def re:am:={g:=292,fn:=Tryz.f292,sh:=(.pair (.val .bool) .unit),bx := .unit,own:=[],live:=[]}
noncomputable def EX:am:={g:=296,fn:=Tryz.f296,sh:=(.pair (.val .str) .unit),bx := .unit,own:=[],live:=[]}
noncomputable def E:ct:={ty:=[(2,(.int .i64)),(3,(.int .i64)),(4,.bool),(5,(.int .u8)),(9,.str),(22,(.slice 69 ap)),(24,(.slice 65 ae)),(26,(.slice 54 ap)),(33,(.slice 77 ae)),(34,(.slice 67 ao)),(39,(.slice 52 ao)),(44,(.slice 5 (.int .u8))),(49,ag),(52,ao),(54,ap),(65,ae),(67,ao),(69,ap),(75,ag),(77,ae),(80,(.slice 110 (.slice 163 ai))),(81,(.slice 133 (.slice 3 (.int .i64)))),(83,bg),(85,(.slice 49 ag)),(86,(.slice 4 .bool)),(95,.fn),(102,.err),(109,.fn),(110,(.slice 163 ai)),(126,(.slice 130 bp)),(130,bp),(133,(.slice 3 (.int .i64))),(138,.fn),(143,(.slice 9 .str)),(149,aW),(160,bw),(161,(.slice 2 (.int .i64))),(163,ai),(166,.fn),(172,aQ),(230,.fn)],by_:=[(2,8),(3,8),(4,1),(9,16),(49,32),(52,16),(54,32),(65,48),(110,24),(130,32),(133,24),(163,120)],fns:=[(3,lg),(4,iW),(7,ss),(8,Cw),(9,su),(10,Cx),(11,kG),(12,sw),(13,oG),(14,jf),(15,jg),(16,kH),(17,Hp),(18,uM),(19,kI),(20,uN),(21,kJ),(22,uO),(23,qH),(27,sx),(29,oH),(32,qI),(34,qJ),(39,Hq),(40,yj),(41,Hr),(42,sy),(43,wH),(44,wI),(45,Hs),(46,qK),(47,wJ),(48,dU),(49,c7),(50,wK),(51,JV),(52,kp),(53,dA),(54,uP),(55,dV),(56,JW),(59,EF),(60,JX),(61,EG),(62,pG),(63,JY),(64,pH),(65,Ay),(66,JZ),(67,lh),(68,Ht),(69,EH),(70,Az),(73,kK),(74,wL),(76,J0),(77,wM),(82,EI),(83,Cy),(84,EJ),(85,EK),(86,yk),(87,BQ),(88,BR),(89,AA),(90,jn),(91,EL),(92,kq),(93,lZ),(94,Nu),(95,yl),(96,EM),(97,Cz),(98,EN),(99,AB),(100,sA),(101,Nv),(102,nU),(103,kL),(104,q8),(105,ic),(106,q9),(107,j0),(108,cK),(109,Nw),(111,sB),(112,wN),(113,wO),(114,qL),(115,AC),(116,Nx),(117,mp),(118,mq),(121,uQ),(122,Hu),(123,EO),(124,li),(125,ft),(126,tC),(127,AD),(128,oI),(129,pI),(133,ym),(134,EP),(135,Hv),(136,yn),(137,jo),(138,Hw),(139,J1),(140,sC),(141,zB),(142,j6),(143,AE),(144,CA),(145,iy),(146,dg),(147,ck),(148,Ny),(149,qM),(150,l4),(151,uR),(152,Hx),(158,kA),(159,uS),(160,l5),(161,Hy),(162,J2),(163,wP),(164,zC),(165,lj),(166,BS),(167,r7),(168,AF),(170,Hz),(171,CB),(172,CC),(173,CD),(174,uT),(175,uU),(176,EQ),(177,HA),(178,Q4),(179,Nz),(180,J3),(181,NA),(182,HC),(183,NB),(184,cY),(185,ER),(186,HD),(187,Q5),(188,NC),(189,J4),(190,ND),(191,HE),(192,NE),(193,kt),(194,l6),(195,CE),(196,sD),(197,ES),(198,NF),(205,gC),(210,wQ),(211,sE),(213,wR),(214,oJ),(215,p9),(216,HF),(217,HG),(218,J5),(219,HH),(220,HI),(221,HJ),(222,uV),(223,nV),(224,J6),(225,J7),(226,HK),(227,HL),(228,HM),(229,qN),(230,ku),(231,uW),(232,qO),(233,mK),(234,J8),(235,ET),(236,HN),(237,EU),(238,HO),(239,HP),(240,NG),(241,J9),(242,EV),(243,oK),(244,oL),(245,jp),(246,oM),(252,jO),(253,ra),(254,wS),(255,AG),(256,HQ),(257,gD),(261,r8),(262,uX),(264,l7),(265,lk),(269,HR),(270,EW),(271,CF),(272,AH),(273,oO),(274,CG),(275,sF),(281,rO),(282,sG),(283,AI),(284,rd),(287,HS),(289,jP),(290,qa),(292,re),(296,EX)],eqs:=[(49,ag),(52,ao),(160,bw)],tails:=[],cuts:=[]}
noncomputable def BT (x0:aj) (x1:Int):Option ((Int×Unit)×Unit):=af E Hq [.val ap x0,.val (.int .i64) x1] []
noncomputable def yo (x0:(List aj)) (x1:Int):Option ((Int×Unit)×Unit):=af E ss [.val (.slice 69 ap) x0,.val (.int .i64) x1] []
noncomputable def wT (x0:al):Option ((al×Unit)×Unit):=af E JV [.val ao x0] []
noncomputable def BU (x0:aj):Option ((aj×Unit)×Unit):=af E Hr [.val ap x0] []
noncomputable def iX (x0:(List aj)):Option (((List aj)×Unit)×Unit):=af E su [.val (.slice 69 ap) x0] []
noncomputable def tD (x0:ByteArray):Option ((Bool×Unit)×Unit):=af E sB [.val .str x0] []
noncomputable def jq (x0:ByteArray) (x1:Int) (x2:Bool) (x3:(List aa)):Option (Unit×((ByteArray×(Int×(Bool×((List aa)×Unit))))×Unit)):=af E l4 [.ptr 0 aQ []] [(0,.box aQ (.strct [.val .str x0,.val (.int .i64) x1,.val .bool x2,.row 1])),(1,.row 163 ai x3 false)]
noncomputable def dB (x0:ByteArray) (x1:ByteArray) (x2:Int) (x3:Bool) (x4:(List aa)):Option ((Bool×Unit)×((ByteArray×(Int×(Bool×((List aa)×Unit))))×Unit)):=af E EV [.ptr 0 aQ [],.val .str x0] [(0,.box aQ (.strct [.val .str x1,.val (.int .i64) x2,.val .bool x3,.row 1])),(1,.row 163 ai x4 false)]
noncomputable def eF (x0:Int) (x1:ByteArray) (x2:Int) (x3:Bool) (x4:(List aa)):Option ((Int×Unit)×((ByteArray×(Int×(Bool×((List aa)×Unit))))×Unit)):=af E qM [.ptr 0 aQ [],.val (.int .i64) x0] [(0,.box aQ (.strct [.val .str x1,.val (.int .i64) x2,.val .bool x3,.row 1])),(1,.row 163 ai x4 false)]
noncomputable def kM (x0:Int) (x1:Int) (x2:Int):Option ((Bool×Unit)×Unit):=af E Nx [.val (.int .i64) x0,.val (.int .i64) x1,.val (.int .i64) x2] []
noncomputable def dQ (x0:ab):Option ((Bool×Unit)×Unit):=af E EI [.val ag x0] []
noncomputable def d7 (x0:al):Option ((Bool×Unit)×Unit):=af E JX [.val ao x0] []
noncomputable def Gi (x0:aJ):Option ((Bool×Unit)×Unit):=af E HF [.val bp x0] []
noncomputable def Gj (x0:Int) (x1:Int):Option ((Bool×Unit)×Unit):=af E HG [.val (.int .i64) x0,.val (.int .i64) x1] []
noncomputable def uY (x0:aa):Option ((Bool×Unit)×Unit):=af E CD [.val ai x0] []
noncomputable def bT (x0:aa) (x1:ByteArray) (x2:Int) (x3:Bool) (x4:(List aa)):Option ((Int×Unit)×((ByteArray×(Int×(Bool×((List aa)×Unit))))×Unit)):=af E CE [.ptr 0 aQ [],.val ai x0] [(0,.box aQ (.strct [.val .str x1,.val (.int .i64) x2,.val .bool x3,.row 1])),(1,.row 163 ai x4 false)]
noncomputable def yp (x0:ByteArray) (x1:Int) (x2:Bool) (x3:(List aa)):Option ((Int×Unit)×((ByteArray×(Int×(Bool×((List aa)×Unit))))×Unit)):=af E oK [.ptr 0 aQ []] [(0,.box aQ (.strct [.val .str x0,.val (.int .i64) x1,.val .bool x2,.row 1])),(1,.row 163 ai x3 false)]
noncomputable def wU (x0:Int):Option ((ByteArray×Unit)×Unit):=af E Hv [.val (.int .i64) x0] []
noncomputable def cp (x0:Int):Option ((ab×Unit)×Unit):=af E EL [.val (.int .i64) x0] []
noncomputable def l8 (x0:ByteArray) (x1:Int) (x2:Bool) (x3:(List aa)):Option ((ByteArray×Unit)×((ByteArray×(Int×(Bool×((List aa)×Unit))))×Unit)):=af E oL [.ptr 0 aQ []] [(0,.box aQ (.strct [.val .str x0,.val (.int .i64) x1,.val .bool x2,.row 1])),(1,.row 163 ai x3 false)]
noncomputable def I8 (x0:Int):Option ((ByteArray×Unit)×Unit):=af E NF [.val (.int .i64) x0] []
noncomputable def tE (x0:Int):Option ((ByteArray×Unit)×Unit):=af E sE [.val (.int .i64) x0] []
noncomputable def qb (x0:ByteArray):Option ((Int×Unit)×Unit):=af E sF [.val .str x0] []
noncomputable def cM (x0:ByteArray) (x1:Int):Option ((Int×(Bool×Unit))×Unit):=af E yn [.val .str x0,.val (.int .i64) x1] []
noncomputable def l9 (x0:ByteArray):Option ((bS×(Bool×Unit))×Unit):=af E oM [.val .str x0] []
noncomputable def rf (x0:ByteArray) (x1:Int) (x2:Bool) (x3:(List aa)):Option ((Int×Unit)×((ByteArray×(Int×(Bool×((List aa)×Unit))))×Unit)):=af E CG [.ptr 0 aQ []] [(0,.box aQ (.strct [.val .str x0,.val (.int .i64) x1,.val .bool x2,.row 1])),(1,.row 163 ai x3 false)]
noncomputable def yq (x0:Int) (x1:ByteArray) (x2:Int) (x3:Bool) (x4:(List aa)):Option ((Int×Unit)×((ByteArray×(Int×(Bool×((List aa)×Unit))))×Unit)):=af E jp [.ptr 0 aQ [],.val (.int .i64) x0] [(0,.box aQ (.strct [.val .str x1,.val (.int .i64) x2,.val .bool x3,.row 1])),(1,.row 163 ai x4 false)]
noncomputable def jQ (x0:ByteArray):Option ((ab×(Bool×Unit))×Unit):=af E jn [.val .str x0] []
noncomputable def uZ (x0:ByteArray) (x1:Int) (x2:Bool) (x3:(List aa)):Option ((Int×Unit)×((ByteArray×(Int×(Bool×((List aa)×Unit))))×Unit)):=af E kt [.ptr 0 aQ []] [(0,.box aQ (.strct [.val .str x0,.val (.int .i64) x1,.val .bool x2,.row 1])),(1,.row 163 ai x3 false)]
noncomputable def tF (x0:Int):Option ((Int×Unit)×Unit):=af E ES [.val (.int .i64) x0] []
noncomputable def wV (x0:Int):Option ((ByteArray×Unit)×Unit):=af E Hz [.val (.int .i64) x0] []
noncomputable def Dl (x0:Int) (x1:ByteArray) (x2:Int) (x3:Bool) (x4:(List aa)):Option ((Int×Unit)×((ByteArray×(Int×(Bool×((List aa)×Unit))))×Unit)):=af E l6 [.ptr 0 aQ [],.val (.int .i64) x0] [(0,.box aQ (.strct [.val .str x1,.val (.int .i64) x2,.val .bool x3,.row 1])),(1,.row 163 ai x4 false)]
noncomputable def wW (x0:(List aa)) (x1:Int):Option ((Int×Unit)×Unit):=af E uT [.val (.slice 163 ai) x0,.val (.int .i64) x1] []
noncomputable def wX (x0:(List aa)) (x1:Int):Option ((Int×Unit)×Unit):=af E uU [.val (.slice 163 ai) x0,.val (.int .i64) x1] []
noncomputable def ma (x0:(List aa)):Option ((Bool×Unit)×Unit):=af E jo [.val (.slice 163 ai) x0] []
noncomputable def ll (x0:ByteArray):Option (((List aa)×(Bool×Unit))×Unit):=af E wN [.val .str x0] []
noncomputable def Dn (x0:ByteArray):Option ((ByteArray×Unit)×Unit):=af E sD [.val .str x0] []
noncomputable def mL (x0:Int):Option ((ByteArray×Unit)×Unit):=af E ym [.val (.int .i64) x0] []
noncomputable def Gk (x0:Int):Option ((ByteArray×Unit)×Unit):=af E Hx [.val (.int .i64) x0] []
noncomputable def gl (x0:ab):Option ((ByteArray×Unit)×Unit):=af E AC [.val ag x0] []
noncomputable def oP (x0:bS):Option ((ByteArray×Unit)×Unit):=af E AF [.val bw x0] []
noncomputable def mb (x0:(List aa)) (x1:Int) (x2:Int):Option ((ByteArray×Unit)×Unit):=af E uR [.val (.slice 163 ai) x0,.val (.int .i64) x1,.val (.int .i64) x2] []
noncomputable def tG (x0:(List aa)):Option ((ByteArray×Unit)×Unit):=af E wO [.val (.slice 163 ai) x0] []
noncomputable def AJ (x0:ByteArray):Option ((ab×(Bool×Unit))×Unit):=af E qL [.val .str x0] []
noncomputable def yr (x0:ByteArray):Option ((ByteArray×(Bool×Unit))×Unit):=af E EF [.val .str x0] []
noncomputable def qc (x0:al) (x1:al):Option ((Bool×Unit)×Unit):=af E EG [.val ao x0,.val ao x1] []
noncomputable def yt (x0:(List aj)):Option ((Bool×Unit)×Unit):=af E sx [.val (.slice 54 ap) x0] []
noncomputable def lm (x0:(List al)) (x1:al):Option ((Bool×Unit)×Unit):=af E yk [.val (.slice 52 ao) x0,.val ao x1] []
noncomputable def I9 (x0:(List ac)) (x1:al):Option ((ab×Unit)×Unit):=af E BQ [.val (.slice 65 ae) x0,.val ao x1] []
noncomputable def EY (x0:(List aj)) (x1:al):Option ((ByteArray×Unit)×Unit):=af E BR [.val (.slice 54 ap) x0,.val ao x1] []
noncomputable def oQ (x0:ByteArray):Option (((List aa)×(Bool×Unit))×Unit):=af E AA [.val .str x0] []
noncomputable def Dp (x0:(List aa)):Option (((List aJ)×Unit)×Unit):=af E sC [.val (.slice 163 ai) x0] []
noncomputable def tH (x0:ByteArray):Option (((List aJ)×Unit)×Unit):=af E EM [.val .str x0] []
noncomputable def rg (x0:al) (x1:aJ):Option ((Bool×Unit)×Unit):=af E Cz [.val ao x0,.val bp x1] []
noncomputable def nq (x0:(List aj)) (x1:al):Option (((List al)×Unit)×Unit):=af E lZ [.val (.slice 54 ap) x0,.val ao x1] []
noncomputable def u1 (x0:(List aj)) (x1:al):Option ((Bool×Unit)×Unit):=af E kq [.val (.slice 54 ap) x0,.val ao x1] []
noncomputable def j7 (x0:(List ac)) (x1:ac):Option (((List ac)×Unit)×Unit):=af E yl [.val (.slice 65 ae) x0,.val ae x1] []
noncomputable def u2 (x0:(List ac)):Option ((Bool×Unit)×Unit):=af E qJ [.val (.slice 65 ae) x0] []
noncomputable def eG (x0:(List aa)) (x1:Int) (x2:(List ac)):Option ((ab×Unit)×Unit):=af E Hw [.val (.slice 163 ai) x0,.val (.int .i64) x1,.val (.slice 65 ae) x2] []
noncomputable def AK (x0:ab):Option ((Int×(ab×Unit))×Unit):=af E J5 [.val ag x0] []
noncomputable def gR (x0:Int):Option ((ab×Unit)×Unit):=af E J1 [.val (.int .i64) x0] []
noncomputable def yu (x0:ab):Option ((ab×Unit)×Unit):=af E EQ [.val ag x0] []
noncomputable def s8 (x0:ab):Option ((Bool×(ab×Unit))×Unit):=af E HH [.val ag x0] []
noncomputable def ij (x0:Bool):Option ((ab×Unit)×Unit):=af E HI [.val .bool x0] []
noncomputable def wY (x0:ab) (x1:ab):Option ((Int×(Int×(ab×Unit)))×Unit):=af E J6 [.val ag x0,.val ag x1] []
noncomputable def Dq (x0:ab) (x1:ab):Option ((ab×Unit)×Unit):=af E Q4 [.val ag x0,.val ag x1] []
noncomputable def wZ (x0:ab):Option ((ByteArray×(ab×Unit))×Unit):=af E HJ [.val ag x0] []
noncomputable def Gl (x0:(List aa)) (x1:Int) (x2:(List ac)):Option (((List ab)×Unit)×Unit):=af E nV [.val (.slice 163 ai) x0,.val (.int .i64) x1,.val (.slice 65 ae) x2] []
noncomputable def Gm (x0:Int) (x1:(List ab)):Option ((ab×Unit)×Unit):=af E uV [.val (.int .i64) x0,.val (.slice 49 ag) x1] []
noncomputable def NH (x0:(List aa)) (x1:Int) (x2:(List ac)):Option ((ab×Unit)×Unit):=af E HA [.val (.slice 163 ai) x0,.val (.int .i64) x1,.val (.slice 65 ae) x2] []
noncomputable def OD (x0:ab) (x1:ab):Option ((ab×Unit)×Unit):=af E Nz [.val ag x0,.val ag x1] []
noncomputable def Ka (x0:ab) (x1:ab):Option ((ab×Unit)×Unit):=af E J3 [.val ag x0,.val ag x1] []
noncomputable def OE (x0:ab) (x1:ab):Option ((ab×Unit)×Unit):=af E NA [.val ag x0,.val ag x1] []
noncomputable def Gn (x0:ab) (x1:ab):Option ((ab×Unit)×Unit):=af E HC [.val ag x0,.val ag x1] []
noncomputable def BV (x0:ab) (x1:ab):Option ((ab×Unit)×Unit):=af E HK [.val ag x0,.val ag x1] []
noncomputable def w6 (x0:Bool) (x1:Bool):Option ((Int×Unit)×Unit):=af E HR [.val .bool x0,.val .bool x1] []
noncomputable def Kb (x0:ab) (x1:ab):Option ((Int×Unit)×Unit):=af E J7 [.val ag x0,.val ag x1] []
noncomputable def OF (x0:Int) (x1:ab) (x2:ab):Option ((ab×Unit)×Unit):=af E NB [.val (.int .i64) x0,.val ag x1,.val ag x2] []
noncomputable def u3 (x0:(List aa)) (x1:(List ac)):Option ((ab×Unit)×Unit):=af E Nu [.val (.slice 163 ai) x0,.val (.slice 65 ae) x1] []
noncomputable def w7 (x0:(List aj)) (x1:(List ac)) (x2:(List al)):Option (((List ac)×Unit)×Unit):=af E dU [.val (.slice 54 ap) x0,.val (.slice 65 ae) x1,.val (.slice 52 ao) x2] []
noncomputable def Kc (x0:(List aj)):Option (((List ac)×Unit)×Unit):=af E yj [.val (.slice 54 ap) x0] []
noncomputable def AL (x0:(List aj)):Option (((List ac)×Unit)×Unit):=af E Cw [.val (.slice 54 ap) x0] []
noncomputable def eH (x0:Int) (x1:Int) (x2:Int):Option ((Bool×Unit)×Unit):=af E Hu [.val (.int .i64) x0,.val (.int .i64) x1,.val (.int .i64) x2] []
noncomputable def rh (x0:al):Option ((Bool×Unit)×Unit):=af E J0 [.val ao x0] []
noncomputable def oS (x0:Int):Option ((Bool×Unit)×Unit):=af E r7 [.val (.int .i64) x0] []
noncomputable def eY (x0:Int) (x1:Int):Option ((Int×Unit)×Unit):=af E pI [.val (.int .i64) x0,.val (.int .i64) x1] []
noncomputable def sH (x0:(List Int)):Option ((Int×Unit)×Unit):=af E oI [.val (.slice 3 (.int .i64)) x0] []
noncomputable def lp (x0:al) (x1:al):Option ((Int×Unit)×Unit):=af E wM [.val ao x0,.val ao x1] []
noncomputable def w8 (x0:ByteArray) (x1:Int):Option ((Bool×Unit)×Unit):=af E uQ [.val .str x0,.val (.int .i64) x1] []
noncomputable def eI (x0:ByteArray) (x1:ByteArray):Option ((Bool×Unit)×Unit):=af E mq [.val .str x0,.val .str x1] []
noncomputable def nW (x0:ByteArray) (x1:ByteArray):Option ((ByteArray×(Bool×Unit))×Unit):=af E mp [.val .str x0,.val .str x1] []
noncomputable def cc (x0:ByteArray) (x1:ByteArray):Option ((ByteArray×(Bool×Unit))×Unit):=af E pG [.val .str x0,.val .str x1] []
noncomputable def gT (x0:ByteArray) (x1:ByteArray):Option ((ByteArray×Unit)×Unit):=af E lj [.val .str x0,.val .str x1] []
noncomputable def gE (x0:ByteArray) (x1:Bool) (x2:(List aa)):Option (Unit×((ByteArray×((List aa)×(Bool×Unit)))×Unit)):=af E tC [.ptr 0 aW []] [(0,.box aW (.strct [.val .str x0,.row 1,.val .bool x1])),(1,.row 163 ai x2 false)]
noncomputable def dR (x0:ByteArray) (x1:ByteArray):Option ((Bool×Unit)×Unit):=af E pH [.val .str x0,.val .str x1] []
noncomputable def oT (x0:ByteArray) (x1:Bool) (x2:(List aa)):Option ((ByteArray×Unit)×((ByteArray×((List aa)×(Bool×Unit)))×Unit)):=af E l5 [.ptr 0 aW []] [(0,.box aW (.strct [.val .str x0,.row 1,.val .bool x1])),(1,.row 163 ai x2 false)]
noncomputable def bz (x0:ByteArray) (x1:ByteArray) (x2:Bool) (x3:(List aa)):Option ((Bool×Unit)×((ByteArray×((List aa)×(Bool×Unit)))×Unit)):=af E wP [.ptr 0 aW [],.val .str x0] [(0,.box aW (.strct [.val .str x1,.row 1,.val .bool x2])),(1,.row 163 ai x3 false)]
noncomputable def j8 (x0:Int) (x1:ByteArray) (x2:Bool) (x3:(List aa)):Option ((Int×Unit)×((ByteArray×((List aa)×(Bool×Unit)))×Unit)):=af E uS [.ptr 0 aW [],.val (.int .i64) x0] [(0,.box aW (.strct [.val .str x1,.row 1,.val .bool x2])),(1,.row 163 ai x3 false)]
noncomputable def aR (x0:aa) (x1:ByteArray) (x2:Bool) (x3:(List aa)):Option ((Int×Unit)×((ByteArray×((List aa)×(Bool×Unit)))×Unit)):=af E zC [.ptr 0 aW [],.val ai x0] [(0,.box aW (.strct [.val .str x1,.row 1,.val .bool x2])),(1,.row 163 ai x3 false)]
noncomputable def strings_Cut (x0:ByteArray) (x1:ByteArray):Option ((ByteArray×(ByteArray×(Bool×Unit)))×Unit):=af E rO [.val .str x0,.val .str x1] []
noncomputable def bJ (x0:ab) (x1:ByteArray) (x2:Bool) (x3:(List aa)):Option ((Int×Unit)×((ByteArray×((List aa)×(Bool×Unit)))×Unit)):=af E ra [.ptr 0 aW [],.val ag x0] [(0,.box aW (.strct [.val .str x1,.row 1,.val .bool x2])),(1,.row 163 ai x3 false)]
noncomputable def jr (x0:ByteArray) (x1:Bool) (x2:(List aa)):Option ((Int×Unit)×((ByteArray×((List aa)×(Bool×Unit)))×Unit)):=af E jO [.ptr 0 aW []] [(0,.box aW (.strct [.val .str x0,.row 1,.val .bool x1])),(1,.row 163 ai x2 false)]
noncomputable def oU (x0:Int):Option ((ByteArray×Unit)×Unit):=af E Ay [.val (.int .i64) x0] []
noncomputable def fH (x0:Int):Option ((ab×Unit)×Unit):=af E JZ [.val (.int .i64) x0] []
noncomputable def js (x0:ByteArray) (x1:Bool) (x2:(List aa)):Option ((ByteArray×Unit)×((ByteArray×((List aa)×(Bool×Unit)))×Unit)):=af E wS [.ptr 0 aW []] [(0,.box aW (.strct [.val .str x0,.row 1,.val .bool x1])),(1,.row 163 ai x2 false)]
noncomputable def cI (x0:ab):Option ((Bool×Unit)×Unit):=af E EH [.val ag x0] []
noncomputable def r9 (x0:Int) (x1:Int):Option ((ByteArray×Unit)×Unit):=af E kA [.val (.int .i64) x0,.val (.int .i64) x1] []
noncomputable def jR (x0:Int):Option ((ByteArray×Unit)×Unit):=af E EO [.val (.int .i64) x0] []
noncomputable def eT (x0:ab):Option ((ByteArray×Unit)×Unit):=af E Az [.val ag x0] []
noncomputable def lq (x0:Bool):Option ((ab×Unit)×Unit):=af E JY [.val .bool x0] []
noncomputable def gU (x0:ByteArray) (x1:Int) (x2:Int):Option ((Int×(Bool×Unit))×Unit):=af E lh [.val .str x0,.val (.int .i64) x1,.val (.int .i64) x2] []
noncomputable def ik (x0:Int):Option ((ab×Unit)×Unit):=af E Ht [.val (.int .i64) x0] []
noncomputable def ej (x0:ByteArray):Option ((ab×(Bool×Unit))×Unit):=af E oH [.val .str x0] []
noncomputable def qd (x0:Int):Option ((ByteArray×Unit)×Unit):=af E EX [.val (.int .i64) x0] []
noncomputable def Dr (x0:ByteArray):Option ((Int×Unit)×Unit):=af E sG [.val .str x0] []
noncomputable def mc (x0:bS):Option ((ByteArray×Unit)×Unit):=af E AI [.val bw x0] []
noncomputable def gm (x0:ByteArray):Option ((bS×(Bool×Unit))×Unit):=af E AG [.val .str x0] []
noncomputable def BW (x0:Int):Option ((ByteArray×Unit)×Unit):=af E HQ [.val (.int .i64) x0] []
noncomputable def jS (x0:ByteArray) (x1:Bool) (x2:(List aa)):Option (((Int×(Int×(ab×(bS×(bS×((List Int)×Unit))))))×(Bool×Unit))×((ByteArray×((List aa)×(Bool×Unit)))×Unit)):=af E rd [.ptr 0 aW []] [(0,.box aW (.strct [.val .str x0,.row 1,.val .bool x1])),(1,.row 163 ai x2 false)]
noncomputable def bC (x0:Int) (x1:Int) (x2:ByteArray) (x3:Bool) (x4:(List aa)):Option ((Int×Unit)×((ByteArray×((List aa)×(Bool×Unit)))×Unit)):=af E ft [.ptr 0 aW [],.val (.int .i64) x0,.val (.int .i64) x1] [(0,.box aW (.strct [.val .str x2,.row 1,.val .bool x3])),(1,.row 163 ai x4 false)]
noncomputable def gV (x0:Int) (x1:Int) (x2:ByteArray) (x3:Bool) (x4:(List aa)):Option ((Int×Unit)×((ByteArray×((List aa)×(Bool×Unit)))×Unit)):=af E gD [.ptr 0 aW [],.val (.int .i64) x0,.val (.int .i64) x1] [(0,.box aW (.strct [.val .str x2,.row 1,.val .bool x3])),(1,.row 163 ai x4 false)]
noncomputable def oV (x0:Int) (x1:ByteArray) (x2:Bool) (x3:(List aa)):Option ((Int×Unit)×((ByteArray×((List aa)×(Bool×Unit)))×Unit)):=af E gC [.ptr 0 aW [],.val (.int .i64) x0] [(0,.box aW (.strct [.val .str x1,.row 1,.val .bool x2])),(1,.row 163 ai x3 false)]
noncomputable def w9 (x0:Int):Option ((ByteArray×Unit)×Unit):=af E Hy [.val (.int .i64) x0] []
noncomputable def AM (x0:Int):Option ((Int×Unit)×Unit):=af E J2 [.val (.int .i64) x0] []
noncomputable def iY (x0:aa):Option ((aJ×Unit)×Unit):=af E zB [.val ai x0] []
noncomputable def BX (x0:aJ):Option ((Bool×Unit)×Unit):=af E HS [.val bp x0] []
noncomputable def dW (x0:aa):Option ((Bool×Unit)×Unit):=af E r8 [.val ai x0] []
noncomputable def fa (x0:aa):Option ((Bool×Unit)×Unit):=af E uX [.val ai x0] []
noncomputable def tI (x0:aa):Option ((Bool×Unit)×Unit):=af E wQ [.val ai x0] []
noncomputable def yv (x0:(List aa)) (x1:Int) (x2:Int):Option ((Int×Unit)×Unit):=af E BS [.val (.slice 163 ai) x0,.val (.int .i64) x1,.val (.int .i64) x2] []
noncomputable def sI (x0:(List aa)):Option ((Bool×Unit)×Unit):=af E AD [.val (.slice 163 ai) x0] []
noncomputable def lr (x0:ByteArray):Option (((List aa)×(Bool×Unit))×Unit):=af E wL [.val .str x0] []
noncomputable def strings_ReplaceAll (x0:ByteArray) (x1:ByteArray) (x2:ByteArray):Option ((ByteArray×Unit)×Unit):=af E jP [.val .str x0,.val .str x1,.val .str x2] []
noncomputable def fI (x0:(List aa)) (x1:Int) (x2:Int):Option ((ByteArray×Unit)×Unit):=af E l7 [.val (.slice 163 ai) x0,.val (.int .i64) x1,.val (.int .i64) x2] []
noncomputable def strings_Join (x0:(List ByteArray)) (x1:ByteArray):Option ((ByteArray×Unit)×Unit):=af E qa [.val (.slice 9 .str) x0,.val .str x1] []
noncomputable def tJ (x0:(List aa)):Option ((ByteArray×Unit)×Unit):=af E wR [.val (.slice 163 ai) x0] []
noncomputable def HT (x0:(List aa)):Option ((ByteArray×(Bool×Unit))×Unit):=af E CB [.val (.slice 163 ai) x0] []
noncomputable def mM (x0:ByteArray) (x1:ByteArray):Option ((ByteArray×Unit)×Unit):=af E lk [.val .str x0,.val .str x1] []
noncomputable def lu (x0:ByteArray) (x1:ByteArray):Option ((ByteArray×Unit)×Unit):=af E oJ [.val .str x0,.val .str x1] []
noncomputable def tK (x0:ByteArray) (x1:ByteArray):Option ((ByteArray×Unit)×Unit):=af E p9 [.val .str x0,.val .str x1] []
noncomputable def AN (x0:ByteArray):Option ((Bool×Unit)×Unit):=af E CC [.val .str x0] []
noncomputable def yw (x0:ByteArray):Option ((ByteArray×(Bool×Unit))×Unit):=af E EP [.val .str x0] []
noncomputable def u4 (x0:ByteArray):Option ((Bool×Unit)×Unit):=af E Cy [.val .str x0] []
noncomputable def yx (x0:(List aj)):Option ((Bool×Unit)×Unit):=af E sy [.val (.slice 54 ap) x0] []
noncomputable def yy (x0:ByteArray):Option (((List aa)×(Bool×Unit))×Unit):=af E AB [.val .str x0] []
noncomputable def yz (x0:(List aa)):Option (((List aJ)×Unit)×Unit):=af E sA [.val (.slice 163 ai) x0] []
noncomputable def ri (x0:aJ) (x1:al):Option ((Bool×Unit)×Unit):=af E CA [.val bp x0,.val ao x1] []
noncomputable def NI (x0:aJ) (x1:Int) (x2:Int):Option ((Bool×Unit)×(al×Unit)):=af E AE [.val bp x0,.ptr 0 ao []] [(0,.box ao (.strct [.val (.int .i64) x1,.val (.int .i64) x2]))]
noncomputable def Kd (x0:aJ) (x1:al):Option ((Bool×Unit)×(al×Unit)):=af E AE [.val bp x0,.ptr 0 ao []] [(0,.box ao (.val ao x1))]
noncomputable def ja (x0:(List aJ)) (x1:Int) (x2:Int):Option ((Int×Unit)×(al×Unit)):=af E cY [.val (.slice 130 bp) x0,.fn 143 [.ptr 0 ao []]] [(0,.box ao (.strct [.val (.int .i64) x1,.val (.int .i64) x2]))]
noncomputable def gW (x0:(List aJ)) (x1:Int) (x2:Int):Option ((Bool×Unit)×(al×Unit)):=af E j6 [.val (.slice 130 bp) x0,.fn 143 [.ptr 0 ao []]] [(0,.box ao (.strct [.val (.int .i64) x1,.val (.int .i64) x2]))]
noncomputable def Ja (x0:(List aJ)) (x1:al):Option ((Bool×Unit)×Unit):=af E Nv [.val (.slice 130 bp) x0,.val ao x1] []
noncomputable def u5 (x0:(List aj)):Option ((((List aj)×((List (List aa))×((List (List Int))×Unit)))×Unit)×Unit):=af E kp [.val (.slice 54 ap) x0] []
noncomputable def gX (x0:(List Bool)):Option (((List Bool)×Unit)×Unit):=af E j0 [.val (.slice 4 .bool) x0] []
noncomputable def fA (x0:(List Int)):Option (((List Int)×Unit)×Unit):=af E li [.val (.slice 3 (.int .i64)) x0] []
noncomputable def j9 (x0:jZ) (x1:Int):Option ((Bool×Unit)×Unit):=af E kK [.val bg x0,.val (.int .i64) x1] []
noncomputable def cq (x0:Int) (x1:(List aj)) (x2:(List (List aa))) (x3:(List (List Int))) (x4:(List Bool)) (x5:(List ac)):Option (Unit×((List Bool)×(jZ×((List ac)×Unit)))):=af E cK [.val (.int .i64) x0,.ptr 0 (.slice 4 .bool) [],.ptr 1 bg [],.ptr 2 (.slice 65 ae) [],.ptr 3 .fn []] [(0,.box (.slice 4 .bool) (.row 4)),(1,.box bg (.strct [.val (.slice 54 ap) x1,.val (.slice 110 (.slice 163 ai)) x2,.val (.slice 133 (.slice 3 (.int .i64))) x3])),(2,.box (.slice 65 ae) (.row 5)),(3,.keepF 108 [.ptr 0 (.slice 4 .bool) [],.ptr 1 bg [],.ptr 2 (.slice 65 ae) [],.ptr 3 .fn []]),(4,.row 4 .bool x4 false),(5,.row 65 ae x5 false)]
noncomputable def bh (x0:Int) (x1:jZ) (x2:(List Bool)) (x3:(List ac)):Option (Unit×((List Bool)×(jZ×((List ac)×Unit)))):=af E cK [.val (.int .i64) x0,.ptr 0 (.slice 4 .bool) [],.ptr 1 bg [],.ptr 2 (.slice 65 ae) [],.ptr 3 .fn []] [(0,.box (.slice 4 .bool) (.row 4)),(1,.box bg (.val bg x1)),(2,.box (.slice 65 ae) (.row 5)),(3,.keepF 108 [.ptr 0 (.slice 4 .bool) [],.ptr 1 bg [],.ptr 2 (.slice 65 ae) [],.ptr 3 .fn []]),(4,.row 4 .bool x2 false),(5,.row 65 ae x3 false)]
noncomputable def BZ (x0:(List ac)) (x1:al):Option ((ab×Unit)×Unit):=af E uP [.val (.slice 65 ae) x0,.val ao x1] []
noncomputable def iz (x0:(List aa)) (x1:Int) (x2:(List ac)):Option ((ab×Unit)×Unit):=af E Ny [.val (.slice 163 ai) x0,.val (.int .i64) x1,.val (.slice 65 ae) x2] []
noncomputable def fJ (x0:ab):Option ((Int×(Bool×Unit))×Unit):=af E CF [.val ag x0] []
noncomputable def iA (x0:ab):Option ((ab×Unit)×Unit):=af E NG [.val ag x0] []
noncomputable def nr (x0:Int):Option ((ab×Unit)×Unit):=af E ET [.val (.int .i64) x0] []
noncomputable def NJ (x0:Int) (x1:Int):Option ((ab×Unit)×Unit):=af E HN [.val (.int .i64) x0,.val (.int .i64) x1] []
noncomputable def sc (x0:ab) (x1:ab):Option ((ab×Unit)×Unit):=af E mK [.val ag x0,.val ag x1,.fn 236 []] []
noncomputable def Jb (x0:ab) (x1:ab):Option ((ab×Unit)×Unit):=af E NC [.val ag x0,.val ag x1] []
noncomputable def Ds (x0:ab):Option ((ab×Unit)×Unit):=af E ER [.val ag x0] []
noncomputable def tL (x0:ab):Option ((Bool×(Bool×Unit))×Unit):=af E EW [.val ag x0] []
noncomputable def NK (x0:(List aa)) (x1:aa) (x2:(List ac)):Option ((ab×Unit)×Unit):=af E HL [.val (.slice 163 ai) x0,.val ai x1,.val (.slice 65 ae) x2] []
noncomputable def yA (x0:ab):Option ((ByteArray×Unit)×Unit):=af E AH [.val ag x0] []
noncomputable def xa (x0:ab):Option ((ByteArray×(Bool×Unit))×Unit):=af E HP [.val ag x0] []
noncomputable def B0 (x0:Int) (x1:ab):Option ((ab×Unit)×Unit):=af E HM [.val (.int .i64) x0,.val ag x1] []
noncomputable def cu (x0:(List aa)) (x1:aa) (x2:(List ac)):Option (((List ab)×Unit)×Unit):=af E ku [.val (.slice 163 ai) x0,.val ai x1,.val (.slice 65 ae) x2] []
noncomputable def jE (x0:Int) (x1:(List ab)):Option ((ab×Unit)×Unit):=af E qN [.val (.int .i64) x0,.val (.slice 49 ag) x1] []
noncomputable def tM (x0:ab) (x1:ab):Option ((ab×Unit)×Unit):=af E mK [.val ag x0,.val ag x1,.fn 234 []] []
noncomputable def Ke (x0:ab) (x1:ab):Option ((ab×Unit)×Unit):=af E Q5 [.val ag x0,.val ag x1] []
noncomputable def nX (x0:(List ab)):Option ((ab×Unit)×Unit):=af E uW [.val (.slice 49 ag) x0] []
noncomputable def jF (x0:Int) (x1:(List ab)):Option ((ab×Unit)×Unit):=af E qO [.val (.int .i64) x0,.val (.slice 49 ag) x1] []
noncomputable def NL (x0:(List aa)) (x1:aa) (x2:(List ac)):Option ((ab×Unit)×Unit):=af E HD [.val (.slice 163 ai) x0,.val ai x1,.val (.slice 65 ae) x2] []
noncomputable def rj (x0:ab) (x1:ab):Option ((ab×Unit)×Unit):=af E mK [.val ag x0,.val ag x1,.fn 237 []] []
noncomputable def Kf (x0:ab) (x1:ab):Option ((ab×Unit)×Unit):=af E J4 [.val ag x0,.val ag x1] []
noncomputable def sd (x0:ab) (x1:ab):Option ((ab×Unit)×Unit):=af E mK [.val ag x0,.val ag x1,.fn 238 []] []
noncomputable def OG (x0:ab) (x1:ab):Option ((ab×Unit)×Unit):=af E ND [.val ag x0,.val ag x1] []
noncomputable def Gr (x0:ab) (x1:ab):Option ((ab×Unit)×Unit):=af E HE [.val ag x0,.val ag x1] []
noncomputable def nt (x0:ByteArray):Option ((Bool×Unit)×Unit):=af E re [.val .str x0] []
noncomputable def lv (x0:ByteArray) (x1:ByteArray):Option ((Int×Unit)×Unit):=af E oO [.val .str x0,.val .str x1] []
noncomputable def AO (x0:ab) (x1:ab):Option ((Int×Unit)×Unit):=af E J9 [.val ag x0,.val ag x1] []
noncomputable def OH (x0:Int) (x1:ab) (x2:ab):Option ((ab×Unit)×Unit):=af E NE [.val (.int .i64) x0,.val ag x1,.val ag x2] []
noncomputable def u6 (x0:(List aa)) (x1:(List ac)):Option ((ab×Unit)×Unit):=af E Nw [.val (.slice 163 ai) x0,.val (.slice 65 ae) x1] []
noncomputable def kb (x0:jZ) (x1:(List Bool)) (x2:(List ab)):Option (((List ac)×Unit)×Unit):=af E dV [.val bg x0,.val (.slice 4 .bool) x1,.val (.slice 49 ag) x2] []
noncomputable def tN (x0:(List aj)):Option (((List ac)×Unit)×Unit):=af E wH [.val (.slice 54 ap) x0] []
noncomputable def u7 (x0:(List aj)):Option (((List ac)×Unit)×Unit):=af E Cx [.val (.slice 54 ap) x0] []
noncomputable def xb (x0:al) (x1:al):Option ((Bool×Unit)×Unit):=af E JW [.val ao x0,.val ao x1] []
noncomputable def Dt (x0:ab) (x1:ab):Option ((Bool×Unit)×Unit):=af E EJ [.val ag x0,.val ag x1] []
noncomputable def oW (x0:ac) (x1:ac):Option ((Bool×Unit)×Unit):=af E wI [.val ae x0,.val ae x1] []
noncomputable def en (x0:(List ac)) (x1:(List ac)):Option ((Bool×Unit)×Unit):=af E kG [.val (.slice 65 ae) x0,.val (.slice 65 ae) x1] []
noncomputable def B1 (x0:aj) (x1:aj):Option ((Bool×Unit)×Unit):=af E Hs [.val ap x0,.val ap x1] []
noncomputable def yB (x0:(List aj)) (x1:(List aj)):Option ((Bool×Unit)×Unit):=af E sw [.val (.slice 54 ap) x0,.val (.slice 54 ap) x1] []
noncomputable def rk (x0:Int):Option ((ByteArray×Unit)×Unit):=af E qK [.val (.int .i64) x0] []
noncomputable def oX (x0:Int) (x1:(List aj)):Option ((Int×Unit)×((List aj)×Unit)):=af E oG [.row 0,.val (.int .i64) x0] [(0,.row 54 ap x1 false)]
noncomputable def ge (x0:Int) (x1:(List ac)):Option ((Int×Unit)×((List ac)×Unit)):=af E jf [.row 0,.val (.int .i64) x0] [(0,.row 65 ae x1 false)]
noncomputable def fT (x0:(List ac)) (x1:Int):Option ((Int×Unit)×Unit):=af E jg [.val (.slice 65 ae) x0,.val (.int .i64) x1] []
noncomputable def tO (x0:(List aj)):Option ((Bool×Unit)×Unit):=af E lg [.val (.slice 69 ap) x0] []
noncomputable def Du (x0:ab) (x1:Int):Option ((Int×Unit)×Unit):=af E EK [.val ag x0,.val (.int .i64) x1] []
noncomputable def oY (x0:ac) (x1:Int):Option ((Int×Unit)×Unit):=af E wJ [.val ae x0,.val (.int .i64) x1] []
noncomputable def rP (x0:(List ac)) (x1:Int):Option ((Int×Unit)×Unit):=af E kH [.val (.slice 77 ae) x0,.val (.int .i64) x1] []
noncomputable def Gs (x0:(List al)) (x1:Int):Option ((Int×Unit)×Unit):=af E Hp [.val (.slice 67 ao) x0,.val (.int .i64) x1] []
noncomputable def Dv (x0:ab):Option ((ab×Unit)×Unit):=af E EN [.val ag x0] []
noncomputable def oZ (x0:ac):Option ((ac×Unit)×Unit):=af E wK [.val ae x0] []
noncomputable def il (x0:(List ac)):Option (((List ac)×Unit)×Unit):=af E kI [.val (.slice 77 ae) x0] []
noncomputable def s9 (x0:(List al)):Option (((List al)×Unit)×Unit):=af E uN [.val (.slice 67 ao) x0] []
noncomputable def yC (x0:(List aj)) (x1:(List al)):Option (((List al)×Unit)×Unit):=af E c7 [.val (.slice 54 ap) x0,.val (.slice 52 ao) x1] []
noncomputable def rQ (x0:(List aj)) (x1:(List ac)) (x2:(List al)):Option (((List ac)×Unit)×Unit):=af E uM [.val (.slice 54 ap) x0,.val (.slice 65 ae) x1,.val (.slice 52 ao) x2] []
noncomputable def AP (x0:(List ac)):Option ((Bool×Unit)×Unit):=af E qI [.val (.slice 65 ae) x0] []
noncomputable def tP (x0:(List al)) (x1:al):Option ((Int×Unit)×Unit):=af E iy [.val (.slice 52 ao) x0,.val ao x1] []
noncomputable def kB (x0:(List al)) (x1:al):Option ((Bool×Unit)×Unit):=af E nU [.val (.slice 52 ao) x0,.val ao x1] []
noncomputable def nu (x0:al) (x1:(List aJ)):Option ((Bool×Unit)×((List aJ)×Unit)):=af E q8 [.val ao x0,.ptr 0 (.slice 130 bp) []] [(0,.box (.slice 130 bp) (.row 1)),(1,.row 130 bp x1 false)]
noncomputable def fy (x0:(List al)) (x1:(List aJ)):Option ((Int×Unit)×((List aJ)×Unit)):=af E dg [.val (.slice 52 ao) x0,.fn 104 [.ptr 0 (.slice 130 bp) []]] [(0,.box (.slice 130 bp) (.row 1)),(1,.row 130 bp x1 false)]
noncomputable def ce (x0:(List al)) (x1:(List aJ)):Option ((Bool×Unit)×((List aJ)×Unit)):=af E kL [.val (.slice 52 ao) x0,.fn 104 [.ptr 0 (.slice 130 bp) []]] [(0,.box (.slice 130 bp) (.row 1)),(1,.row 130 bp x1 false)]
noncomputable def nv (x0:Int) (x1:(List Bool)):Option ((Bool×Unit)×((List Bool)×Unit)):=af E q9 [.val (.int .i64) x0,.ptr 0 (.slice 4 .bool) []] [(0,.box (.slice 4 .bool) (.row 1)),(1,.row 4 .bool x1 false)]
noncomputable def ew (x0:(List Int)) (x1:(List Bool)):Option ((Int×Unit)×((List Bool)×Unit)):=af E ck [.val (.slice 3 (.int .i64)) x0,.fn 106 [.ptr 0 (.slice 4 .bool) []]] [(0,.box (.slice 4 .bool) (.row 1)),(1,.row 4 .bool x1 false)]
noncomputable def cB (x0:(List Int)) (x1:(List Bool)):Option ((Bool×Unit)×((List Bool)×Unit)):=af E ic [.val (.slice 3 (.int .i64)) x0,.fn 106 [.ptr 0 (.slice 4 .bool) []]] [(0,.box (.slice 4 .bool) (.row 1)),(1,.row 4 .bool x1 false)]
noncomputable def qe (x0:jZ) (x1:(List al)):Option (((List Bool)×Unit)×Unit):=af E dA [.val bg x0,.val (.slice 52 ao) x1] []
noncomputable def m8 (x0:(List aj)) (x1:(List ac)) (x2:(List al)):Option (((List ac)×Unit)×Unit):=af E kJ [.val (.slice 54 ap) x0,.val (.slice 65 ae) x1,.val (.slice 52 ao) x2] []
noncomputable def Gt (x0:(List al)) (x1:(List al)):Option ((Bool×Unit)×Unit):=af E uO [.val (.slice 52 ao) x0,.val (.slice 52 ao) x1] []
noncomputable def vQ (x0:Int) (x1:(List al)):Option ((Int×Unit)×((List al)×Unit)):=af E qH [.row 0,.val (.int .i64) x0] [(0,.row 52 ao x1 false)]
noncomputable def o0 (x0:(List aj)) (x1:(List ac)) (x2:(List al)):Option ((Bool×Unit)×Unit):=af E iW [.val (.slice 69 ap) x0,.val (.slice 77 ae) x1,.val (.slice 67 ao) x2] []
noncomputable def pb:Code:=aE Tryz.f7
def unU (n:Nat):List SV:=List.replicate n .undef
noncomputable def vR (x0:(List aj)) (x1:Int) (x2:Int):Option ((Int×Unit)×Unit):=pt E (aB E) ss (aM E ss []) (at_ pb [1,1,1,0,1,0,0,0,0]) [.seq (at_ pb [1,1,1,0,1,0,0,0,1]),.seq (at_ pb [1,1,1,0,1,0,0,1]),.loop (at_ pb [1,1,1,0,1,0,0]),.block 0,.seq (at_ pb [1,1,1,1])] {slots:=[.val (.slice 69 ap) x0,.val (.int .i64) x1,.undef,.undef,.undef,.val (.int .i64) x2]++unU 21,res:=[],nx:=0,n0:=0}
noncomputable def pc:Code:=aE Tryz.f9
noncomputable def vS (x0:(List aj)) (x1:Int) (x2:(List aj)):Option (((List aj)×Unit)×Unit):=pt E (aB E) su (aM E su []) (at_ pc [1,1,0,1,0,0,0,0]) [.seq (at_ pc [1,1,0,1,0,0,0,1]),.seq (at_ pc [1,1,0,1,0,0,1]),.loop (at_ pc [1,1,0,1,0,0]),.block 0,.seq (at_ pc [1,1,1])] {slots:=[.val (.slice 69 ap) x0,.undef,.undef,.row 0,.val (.int .i64) x1]++unU 18,res:=[(0,.row 54 ap x2 false)],nx:=1,n0:=0}
noncomputable def pd:Code:=aE Tryz.f111
noncomputable def qP (x0:ByteArray) (x1:Int):Option ((Bool×Unit)×Unit):=pt E (aB E) sB (aM E sB []) (at_ pd [1,0,1,0,0,0,0]) [.seq (at_ pd [1,0,1,0,0,0,1]),.seq (at_ pd [1,0,1,0,0,1]),.loop (at_ pd [1,0,1,0,0]),.block 0,.seq (at_ pd [1,1])] {slots:=[.val .str x0,.undef,.undef,.val (.int .i64) x1]++unU 19,res:=[],nx:=0,n0:=0}
noncomputable def md:Code:=aE Tryz.f150
noncomputable def kN (x0:ByteArray) (x1:Int) (x2:Bool) (x3:(List aa)):Option (Unit×((ByteArray×(Int×(Bool×((List aa)×Unit))))×Unit)):=pt E (aB E) l4 (aM E l4 [(0,.box aQ (.undef)),(1,.row 163 ai [] false)]) (at_ md [0,0,0,0]) [.seq (at_ md [0,0,0,1]),.seq (at_ md [0,0,1]),.loop (at_ md [0,0]),.block 0] {slots:=[.ptr 0 aQ []]++unU 30,res:=[(0,.box aQ (.strct [.val .str x0,.val (.int .i64) x1,.val .bool x2,.row 1])),(1,.row 163 ai x3 false)],nx:=2,n0:=2}
noncomputable def mN:Code:=aE Tryz.f149
noncomputable def c8 (x0:Int) (x1:Int) (x2:ByteArray) (x3:Int) (x4:Bool) (x5:(List aa)):Option ((Int×Unit)×((ByteArray×(Int×(Bool×((List aa)×Unit))))×Unit)):=pt E (aB E) qM (aM E qM [(0,.box aQ (.undef)),(1,.row 163 ai [] false)]) (at_ mN [1,1,1,1,0,0,0,0,0]) [.seq (at_ mN [1,1,1,1,0,0,0,0,1]),.seq (at_ mN [1,1,1,1,0,0,0,1]),.loop (at_ mN [1,1,1,1,0,0,0]),.block 0,.seq (at_ mN [1,1,1,1,1])] {slots:=[.ptr 0 aQ [],.val (.int .i64) x0,.undef,.undef,.undef,.val (.int .i64) x1]++unU 37,res:=[(0,.box aQ (.strct [.val .str x2,.val (.int .i64) x3,.val .bool x4,.row 2])),(2,.row 163 ai x5 false)],nx:=3,n0:=2}
noncomputable def lw:Code:=aE Tryz.f243
noncomputable def ke (x0:ByteArray) (x1:ByteArray) (x2:Int) (x3:Bool) (x4:(List aa)):Option ((Int×Unit)×((ByteArray×(Int×(Bool×((List aa)×Unit))))×Unit)):=pt E (aB E) oK (aM E oK [(0,.box aQ (.undef)),(1,.row 163 ai [] false)]) (at_ lw [1,1,0,0,0,0,0]) [.seq (at_ lw [1,1,0,0,0,0,1]),.seq (at_ lw [1,1,0,0,0,1]),.loop (at_ lw [1,1,0,0,0]),.block 0,.seq (at_ lw [1,1,1])] {slots:=[.ptr 0 aQ [],.undef,.undef,.val .str x0]++unU 89,res:=[(0,.box aQ (.strct [.val .str x1,.val (.int .i64) x2,.val .bool x3,.row 1])),(1,.row 163 ai x4 false)],nx:=2,n0:=2}
noncomputable def lx:Code:=aE Tryz.f244
noncomputable def dF (x0:Int) (x1:ByteArray) (x2:Int) (x3:Bool) (x4:(List aa)):Option ((ByteArray×Unit)×((ByteArray×(Int×(Bool×((List aa)×Unit))))×Unit)):=pt E (aB E) oL (aM E oL [(0,.box aQ (.undef)),(1,.row 163 ai [] false)]) (at_ lx [1,1,0,0,0,0,0]) [.seq (at_ lx [1,1,0,0,0,0,1]),.seq (at_ lx [1,1,0,0,0,1]),.loop (at_ lx [1,1,0,0,0]),.block 0,.seq (at_ lx [1,1,1])] {slots:=[.ptr 0 aQ [],.undef,.undef,.val (.int .i64) x0]++unU 91,res:=[(0,.box aQ (.strct [.val .str x1,.val (.int .i64) x2,.val .bool x3,.row 1])),(1,.row 163 ai x4 false)],nx:=2,n0:=2}
noncomputable def pe:Code:=aE Tryz.f211
noncomputable def vU (x0:Int) (x1:ByteArray):Option ((ByteArray×Unit)×Unit):=pt E (aB E) sE (aM E sE []) (at_ pe [1,1,1,0,0,0,0,0]) [.seq (at_ pe [1,1,1,0,0,0,0,1]),.seq (at_ pe [1,1,1,0,0,0,1]),.loop (at_ pe [1,1,1,0,0,0]),.block 0,.seq (at_ pe [1,1,1,1])] {slots:=[.val (.int .i64) x0,.undef,.undef,.val .str x1]++unU 18,res:=[],nx:=0,n0:=0}
noncomputable def pf:Code:=aE Tryz.f275
noncomputable def vV (x0:ByteArray) (x1:Int):Option ((Int×Unit)×Unit):=pt E (aB E) sF (aM E sF []) (at_ pf [1,0,1,0,0,0,0]) [.seq (at_ pf [1,0,1,0,0,0,1]),.seq (at_ pf [1,0,1,0,0,1]),.loop (at_ pf [1,0,1,0,0]),.block 0,.seq (at_ pf [1,1])] {slots:=[.val .str x0,.undef,.undef,.val (.int .i64) x1]++unU 9,res:=[],nx:=0,n0:=0}
noncomputable def tQ:Code:=aE Tryz.f136
noncomputable def nY (x0:ByteArray) (x1:Int) (x2:Int):Option ((Int×(Bool×Unit))×Unit):=pt E (aB E) yn (aM E yn []) (at_ tQ [1,1,1,0,1,0,0,0,0]) [.seq (at_ tQ [1,1,1,0,1,0,0,0,1]),.seq (at_ tQ [1,1,1,0,1,0,0,1]),.loop (at_ tQ [1,1,1,0,1,0,0]),.block 0,.seq (at_ tQ [1,1,1,1])] {slots:=[.val .str x0,.undef,.undef,.undef,.undef,.undef,.val (.int .i64) x1,.val (.int .i64) x2]++unU 44,res:=[],nx:=0,n0:=0}
noncomputable def ly:Code:=aE Tryz.f246
noncomputable def im (x0:ByteArray) (x1:Int) (x2:Int) (x3:Int) (x4:Bool) (x5:Bool) (x6:Int) (x7:Int) (x8:Bool) (x9:Bool):Option ((bS×(Bool×Unit))×Unit):=pt E (aB E) oM (aM E oM []) (at_ ly [1,1,1,1,0,0,0,0,0]) [.seq (at_ ly [1,1,1,1,0,0,0,0,1]),.seq (at_ ly [1,1,1,1,0,0,0,1]),.loop (at_ ly [1,1,1,1,0,0,0]),.block 0,.seq (at_ ly [1,1,1,1,1])] {slots:=[.val .str x0,.undef,.ptr 0 bw [],.undef,.ptr 1 bw [],.val (.int .i64) x1]++unU 70,res:=[(0,.box bw (.strct [.strct [.val (.int .i64) x2,.val (.int .i64) x3],.val .bool x4,.val .bool x5])),(1,.box bw (.strct [.strct [.val (.int .i64) x6,.val (.int .i64) x7],.val .bool x8,.val .bool x9]))],nx:=2,n0:=0}
noncomputable def d8:Code:=aE Tryz.f245
noncomputable def rR (x0:Int) (x1:ByteArray) (x2:Int) (x3:Bool) (x4:(List aa)) (x5:(List Int)):Option ((Int×Unit)×((ByteArray×(Int×(Bool×((List aa)×Unit))))×Unit)):=pt E (aB E) jp (aM E jp [(0,.box aQ (.undef)),(1,.row 163 ai [] false)]) (at_ d8 [1,1,0,0,0,0,0]) [.seq (at_ d8 [1,1,0,0,0,0,1]),.seq (at_ d8 [1,1,0,0,0,1]),.loop (at_ d8 [1,1,0,0,0]),.block 0,.seq (at_ d8 [1,1,1])] {slots:=[.ptr 0 aQ [],.val (.int .i64) x0,.undef,.undef,.undef,.row 2]++unU 24,res:=[(0,.box aQ (.strct [.val .str x1,.val (.int .i64) x2,.val .bool x3,.row 1])),(1,.row 163 ai x4 false),(2,.row 2 (.int .i64) x5 false)],nx:=3,n0:=2}
noncomputable def fK:Code:=aE Tryz.f90
noncomputable def aG (x0:Int) (x1:Int) (x2:ByteArray) (x3:Int) (x4:Int) (x5:ByteArray):Option ((ab×(Bool×Unit))×Unit):=pt E (aB E) jn (aM E jn []) (at_ fK [1,1,1,0,0]) [.seq (at_ fK [1,1,1,0,1]),.seq (at_ fK [1,1,1,1])] {slots:=[.undef,.undef,.ptr 0 ag [],.undef,.ptr 1 ag []]++unU 71,res:=[(0,.box ag (.strct [.val (.int .i64) x0,.val (.int .i64) x1,.val .str x2])),(1,.box ag (.strct [.val (.int .i64) x3,.val (.int .i64) x4,.val .str x5]))],nx:=2,n0:=0}
noncomputable def eJ (x0:ByteArray) (x1:Int) (x2:Int) (x3:Int) (x4:ByteArray) (x5:Int) (x6:Int) (x7:ByteArray):Option ((ab×(Bool×Unit))×Unit):=pt E (aB E) jn (aM E jn []) (at_ fK [1,1,0,0,1,1,1,1,1,1,1,0,1,1,0,0,0,0]) [.seq (at_ fK [1,1,0,0,1,1,1,1,1,1,1,0,1,1,0,0,0,1]),.seq (at_ fK [1,1,0,0,1,1,1,1,1,1,1,0,1,1,0,0,1]),.loop (at_ fK [1,1,0,0,1,1,1,1,1,1,1,0,1,1,0,0]),.block 1,.block 0,.seq (at_ fK [1,1,1])] {slots:=[.val .str x0,.undef,.ptr 0 ag [],.undef,.ptr 1 ag [],.val (.int .i64) x1]++unU 70,res:=[(0,.box ag (.strct [.val (.int .i64) x2,.val (.int .i64) x3,.val .str x4])),(1,.box ag (.strct [.val (.int .i64) x5,.val (.int .i64) x6,.val .str x7]))],nx:=2,n0:=0}
noncomputable def d9:Code:=aE Tryz.f193
noncomputable def io (x0:Int) (x1:ByteArray) (x2:Int) (x3:Bool) (x4:(List aa)):Option ((Int×Unit)×((ByteArray×(Int×(Bool×((List aa)×Unit))))×Unit)):=pt E (aB E) kt (aM E kt [(0,.box aQ (.undef)),(1,.row 163 ai [] false)]) (at_ d9 [1,0,0,1,1,1,1,1,1,1,0,0,1,0,0,0,0]) [.seq (at_ d9 [1,0,0,1,1,1,1,1,1,1,0,0,1,0,0,0,1]),.seq (at_ d9 [1,0,0,1,1,1,1,1,1,1,0,0,1,0,0,1]),.loop (at_ d9 [1,0,0,1,1,1,1,1,1,1,0,0,1,0,0]),.block 1,.seq (at_ d9 [1,0,0,1,1,1,1,1,1,1,0,1]),.block 0,.seq (at_ d9 [1,1])] {slots:=[.ptr 0 aQ [],.undef,.undef,.undef,.undef,.val (.int .i64) x0]++unU 140,res:=[(0,.box aQ (.strct [.val .str x1,.val (.int .i64) x2,.val .bool x3,.row 2])),(2,.row 163 ai x4 false)],nx:=3,n0:=2}
noncomputable def fb (x0:ByteArray) (x1:Int) (x2:ByteArray) (x3:Int) (x4:Bool) (x5:(List aa)):Option ((Int×Unit)×((ByteArray×(Int×(Bool×((List aa)×Unit))))×Unit)):=pt E (aB E) kt (aM E kt [(0,.box aQ (.undef)),(1,.row 163 ai [] false)]) (at_ d9 [1,1,1,0,1,0,0,0,0]) [.seq (at_ d9 [1,1,1,0,1,0,0,0,1]),.seq (at_ d9 [1,1,1,0,1,0,0,1]),.loop (at_ d9 [1,1,1,0,1,0,0]),.block 3,.seq (at_ d9 [1,1,1,1])] {slots:=[.ptr 0 aQ [],.undef,.undef,.undef,.undef,.undef,.undef,.val .str x0,.val (.int .i64) x1]++unU 137,res:=[(0,.box aQ (.strct [.val .str x2,.val (.int .i64) x3,.val .bool x4,.row 2])),(2,.row 163 ai x5 false)],nx:=3,n0:=2}
noncomputable def fB:Code:=aE Tryz.f194
noncomputable def qQ (x0:Int) (x1:Int) (x2:ByteArray) (x3:Int) (x4:Bool) (x5:(List aa)) (x6:(List Int)):Option ((Int×Unit)×((ByteArray×(Int×(Bool×((List aa)×Unit))))×Unit)):=pt E (aB E) l6 (aM E l6 [(0,.box aQ (.undef)),(1,.row 163 ai [] false)]) (at_ fB [1,1,0,1,0,0,0,0]) [.seq (at_ fB [1,1,0,1,0,0,0,1]),.seq (at_ fB [1,1,0,1,0,0,1]),.loop (at_ fB [1,1,0,1,0,0]),.block 0,.seq (at_ fB [1,1,1])] {slots:=[.ptr 0 aQ [],.val (.int .i64) x0,.undef,.undef,.undef,.row 2,.val (.int .i64) x1]++unU 27,res:=[(0,.box aQ (.strct [.val .str x2,.val (.int .i64) x3,.val .bool x4,.row 1])),(1,.row 163 ai x5 false),(2,.row 2 (.int .i64) x6 false)],nx:=3,n0:=2}
noncomputable def rl:Code:=aE Tryz.f174
noncomputable def sJ (x0:(List aa)) (x1:Int) (x2:Int) (x3:Int):Option ((Int×Unit)×Unit):=pt E (aB E) uT (aM E uT []) (at_ rl [1,1,0,1,0,0,0,0]) [.seq (at_ rl [1,1,0,1,0,0,0,1]),.seq (at_ rl [1,1,0,1,0,0,1]),.loop (at_ rl [1,1,0,1,0,0]),.block 0,.seq (at_ rl [1,1,1])] {slots:=[.val (.slice 163 ai) x0,.val (.int .i64) x1,.undef,.undef,.undef,.val (.int .i64) x2,.val (.int .i64) x3]++unU 37,res:=[],nx:=0,n0:=0}
noncomputable def rm:Code:=aE Tryz.f175
noncomputable def sK (x0:(List aa)) (x1:Int) (x2:Int) (x3:Int):Option ((Int×Unit)×Unit):=pt E (aB E) uU (aM E uU []) (at_ rm [1,1,0,1,0,0,0,0]) [.seq (at_ rm [1,1,0,1,0,0,0,1]),.seq (at_ rm [1,1,0,1,0,0,1]),.loop (at_ rm [1,1,0,1,0,0]),.block 0,.seq (at_ rm [1,1,1])] {slots:=[.val (.slice 163 ai) x0,.val (.int .i64) x1,.undef,.undef,.undef,.val (.int .i64) x2,.val (.int .i64) x3]++unU 24,res:=[],nx:=0,n0:=0}
noncomputable def da:Code:=aE Tryz.f137
noncomputable def ep (x0:(List aa)) (x1:Int):Option ((Bool×Unit)×Unit):=pt E (aB E) jo (aM E jo []) (at_ da [1,1,0,1,0,0,0,0]) [.seq (at_ da [1,1,0,1,0,0,0,1]),.seq (at_ da [1,1,0,1,0,0,1]),.loop (at_ da [1,1,0,1,0,0]),.block 0,.seq (at_ da [1,1,1])] {slots:=[.val (.slice 163 ai) x0,.undef,.undef,.val (.int .i64) x1]++unU 83,res:=[],nx:=0,n0:=0}
noncomputable def pg:Code:=aE Tryz.f196
noncomputable def mO (x0:ByteArray) (x1:ByteArray) (x2:Int):Option ((ByteArray×Unit)×Unit):=pt E (aB E) sD (aM E sD []) (at_ pg [1,1,0,1,0,0,0,0]) [.seq (at_ pg [1,1,0,1,0,0,0,1]),.seq (at_ pg [1,1,0,1,0,0,1]),.loop (at_ pg [1,1,0,1,0,0]),.block 0,.seq (at_ pg [1,1,1])] {slots:=[.val .str x0,.undef,.undef,.val .str x1,.val (.int .i64) x2]++unU 21,res:=[],nx:=0,n0:=0}
noncomputable def tR:Code:=aE Tryz.f133
noncomputable def rn (x0:Int) (x1:ByteArray):Option ((ByteArray×Unit)×Unit):=pt E (aB E) ym (aM E ym []) (at_ tR [1,1,1,0,0,0,0,0]) [.seq (at_ tR [1,1,1,0,0,0,0,1]),.seq (at_ tR [1,1,1,0,0,0,1]),.loop (at_ tR [1,1,1,0,0,0]),.block 0,.seq (at_ tR [1,1,1,1])] {slots:=[.val (.int .i64) x0,.undef,.undef,.val .str x1]++unU 25,res:=[],nx:=0,n0:=0}
noncomputable def rp:Code:=aE Tryz.f151
noncomputable def mP (x0:(List aa)) (x1:ByteArray) (x2:Int) (x3:Int) (x4:Int) (x5:ab) (x6:bS) (x7:bS) (x8:(List Int)):Option ((ByteArray×Unit)×Unit):=pt E (aB E) uR (aM E uR []) (at_ rp [1,1,1,1,0,1,0,0,0,0]) [.seq (at_ rp [1,1,1,1,0,1,0,0,0,1]),.seq (at_ rp [1,1,1,1,0,1,0,0,1]),.loop (at_ rp [1,1,1,1,0,1,0,0]),.block 1,.seq (at_ rp [1,1,1,1,1])] {slots:=[.val (.slice 163 ai) x0,.undef,.undef,.undef,.undef,.undef,.undef,.ptr 0 ai [],.undef,.undef,.val .str x1,.val (.int .i64) x2]++unU 101,res:=[(0,.box ai (.strct [.val (.int .i64) x3,.val (.int .i64) x4,.val ag x5,.val bw x6,.val bw x7,.val (.slice 2 (.int .i64)) x8]))],nx:=1,n0:=0}
noncomputable def mQ:Code:=aE Tryz.f114
noncomputable def jt (x0:ByteArray) (x1:Bool) (x2:Int) (x3:Int) (x4:ByteArray):Option ((ab×(Bool×Unit))×Unit):=pt E (aB E) qL (aM E qL []) (at_ mQ [1,1,1,1,0,0,0,0,0]) [.seq (at_ mQ [1,1,1,1,0,0,0,0,1]),.seq (at_ mQ [1,1,1,1,0,0,0,1]),.loop (at_ mQ [1,1,1,1,0,0,0]),.block 0,.seq (at_ mQ [1,1,1,1,1])] {slots:=[.val .str x0,.undef,.ptr 0 ag [],.undef,.val .bool x1]++unU 43,res:=[(0,.box ag (.strct [.val (.int .i64) x2,.val (.int .i64) x3,.val .str x4]))],nx:=1,n0:=0}
noncomputable def ph:Code:=aE Tryz.f27
noncomputable def mR (x0:(List aj)) (x1:Int):Option ((Bool×Unit)×Unit):=pt E (aB E) sx (aM E sx []) (at_ ph [1,1,0,1,0,0,0,0]) [.seq (at_ ph [1,1,0,1,0,0,0,1]),.seq (at_ ph [1,1,0,1,0,0,1]),.loop (at_ ph [1,1,0,1,0,0]),.block 0,.seq (at_ ph [1,1,1])] {slots:=[.val (.slice 54 ap) x0,.undef,.undef,.val (.int .i64) x1]++unU 67,res:=[],nx:=0,n0:=0}
noncomputable def tS:Code:=aE Tryz.f86
noncomputable def u9 (x0:(List al)) (x1:Int) (x2:Int) (x3:Int):Option ((Bool×Unit)×Unit):=pt E (aB E) yk (aM E yk []) (at_ tS [1,0,1,0,0,0,0]) [.seq (at_ tS [1,0,1,0,0,0,1]),.seq (at_ tS [1,0,1,0,0,1]),.loop (at_ tS [1,0,1,0,0]),.block 0,.seq (at_ tS [1,1])] {slots:=[.val (.slice 52 ao) x0,.undef,.undef,.ptr 0 ao [],.undef,.val (.int .i64) x1]++unU 12,res:=[(0,.box ao (.strct [.val (.int .i64) x2,.val (.int .i64) x3]))],nx:=1,n0:=0}
noncomputable def xc:Code:=aE Tryz.f87
noncomputable def yD (x0:(List ac)) (x1:Int) (x2:Int) (x3:Int) (x4:Int) (x5:Int) (x6:ByteArray):Option ((ab×Unit)×Unit):=pt E (aB E) BQ (aM E BQ []) (at_ xc [1,0,1,0,0,0,0]) [.seq (at_ xc [1,0,1,0,0,0,1]),.seq (at_ xc [1,0,1,0,0,1]),.loop (at_ xc [1,0,1,0,0]),.block 0,.seq (at_ xc [1,1])] {slots:=[.val (.slice 65 ae) x0,.undef,.undef,.ptr 0 ao [],.ptr 1 ag [],.val (.int .i64) x1]++unU 19,res:=[(0,.box ao (.strct [.val (.int .i64) x2,.val (.int .i64) x3])),(1,.box ag (.strct [.val (.int .i64) x4,.val (.int .i64) x5,.val .str x6]))],nx:=2,n0:=0}
noncomputable def xe:Code:=aE Tryz.f88
noncomputable def yE (x0:(List aj)) (x1:Int) (x2:Int) (x3:Int):Option ((ByteArray×Unit)×Unit):=pt E (aB E) BR (aM E BR []) (at_ xe [1,0,1,0,0,0,0]) [.seq (at_ xe [1,0,1,0,0,0,1]),.seq (at_ xe [1,0,1,0,0,1]),.loop (at_ xe [1,0,1,0,0]),.block 0,.seq (at_ xe [1,1])] {slots:=[.val (.slice 54 ap) x0,.undef,.undef,.ptr 0 ao [],.undef,.val (.int .i64) x1]++unU 18,res:=[(0,.box ao (.strct [.val (.int .i64) x2,.val (.int .i64) x3]))],nx:=1,n0:=0}
noncomputable def pi:Code:=aE Tryz.f140
noncomputable def kv (x0:(List aa)) (x1:Int) (x2:(List aJ)):Option (((List aJ)×Unit)×Unit):=pt E (aB E) sC (aM E sC []) (at_ pi [1,1,1,0,1,0,0,0,0]) [.seq (at_ pi [1,1,1,0,1,0,0,0,1]),.seq (at_ pi [1,1,1,0,1,0,0,1]),.loop (at_ pi [1,1,1,0,1,0,0]),.block 0,.seq (at_ pi [1,1,1,1])] {slots:=[.val (.slice 163 ai) x0,.undef,.undef,.row 0,.val (.int .i64) x1]++unU 53,res:=[(0,.row 130 bp x2 false)],nx:=1,n0:=0}
noncomputable def dL:Code:=aE Tryz.f93
noncomputable def iZ (x0:(List aj)) (x1:Int) (x2:(List al)) (x3:(List aJ)):Option (((List al)×Unit)×Unit):=pt E (aB E) lZ (aM E lZ []) (at_ dL [1,1,1,0,1,0,0,0,0]) [.seq (at_ dL [1,1,1,0,1,0,0,0,1]),.seq (at_ dL [1,1,1,0,1,0,0,1]),.loop (at_ dL [1,1,1,0,1,0,0]),.block 0,.seq (at_ dL [1,1,1,1])] {slots:=[.val (.slice 54 ap) x0,.undef,.undef,.undef,.undef,.row 0,.row 1,.val (.int .i64) x1]++unU 42,res:=[(0,.row 52 ao x2 false),(1,.row 130 bp x3 false)],nx:=2,n0:=0}
noncomputable def dG:Code:=aE Tryz.f92
noncomputable def lz (x0:(List aj)) (x1:Int) (x2:Int) (x3:Int) (x4:(List al)):Option ((Bool×Unit)×Unit):=pt E (aB E) kq (aM E kq []) (at_ dG [1,1,0,1,0,0,0,0]) [.seq (at_ dG [1,1,0,1,0,0,0,1]),.seq (at_ dG [1,1,0,1,0,0,1]),.loop (at_ dG [1,1,0,1,0,0]),.block 0,.seq (at_ dG [1,1,1])] {slots:=[.val (.slice 54 ap) x0,.undef,.undef,.ptr 0 ao [],.undef,.row 1,.val (.int .i64) x1]++unU 43,res:=[(0,.box ao (.strct [.val (.int .i64) x2,.val (.int .i64) x3])),(1,.row 52 ao x4 false)],nx:=2,n0:=0}
noncomputable def tT:Code:=aE Tryz.f95
noncomputable def va (x0:(List ac)) (x1:Int) (x2:al) (x3:ab):Option (((List ac)×Unit)×Unit):=pt E (aB E) yl (aM E yl []) (at_ tT [1,1,0,0,0,0,0]) [.seq (at_ tT [1,1,0,0,0,0,1]),.seq (at_ tT [1,1,0,0,0,1]),.loop (at_ tT [1,1,0,0,0]),.block 0,.seq (at_ tT [1,1,1])] {slots:=[.val (.slice 65 ae) x0,.undef,.undef,.ptr 0 ae [],.undef,.val (.int .i64) x1]++unU 31,res:=[(0,.box ae (.strct [.val ao x2,.val ag x3]))],nx:=1,n0:=0}
noncomputable def mS:Code:=aE Tryz.f34
noncomputable def lA (x0:(List ac)) (x1:Int):Option ((Bool×Unit)×Unit):=pt E (aB E) qJ (aM E qJ []) (at_ mS [1,1,0,1,0,0,0,0]) [.seq (at_ mS [1,1,0,1,0,0,0,1]),.seq (at_ mS [1,1,0,1,0,0,1]),.loop (at_ mS [1,1,0,1,0,0]),.block 0,.seq (at_ mS [1,1,1])] {slots:=[.val (.slice 65 ae) x0,.undef,.undef,.val (.int .i64) x1]++unU 44,res:=[],nx:=0,n0:=0}
noncomputable def fd:Code:=aE Tryz.f223
noncomputable def me (x0:(List aa)) (x1:Int) (x2:(List ac)) (x3:Int) (x4:(List ab)):Option (((List ab)×Unit)×Unit):=pt E (aB E) nV (aM E nV []) (at_ fd [1,1,0,1,0,0,0,0]) [.seq (at_ fd [1,1,0,1,0,0,0,1]),.seq (at_ fd [1,1,0,1,0,0,1]),.loop (at_ fd [1,1,0,1,0,0]),.block 0,.seq (at_ fd [1,1,1])] {slots:=[.val (.slice 163 ai) x0,.val (.int .i64) x1,.val (.slice 65 ae) x2,.undef,.undef,.undef,.undef,.row 0,.val (.int .i64) x3]++unU 71,res:=[(0,.row 49 ag x4 false)],nx:=1,n0:=0}
noncomputable def rq:Code:=aE Tryz.f222
noncomputable def aY (x0:Int) (x1:(List ab)) (x2:Int) (x3:Bool) (x4:Bool) (x5:Int) (x6:Int) (x7:Int) (x8:ByteArray) (x9:Int) (x10:Int) (x11:ByteArray):Option ((ab×Unit)×Unit):=pt E (aB E) uV (aM E uV []) (at_ rq [1,1,1,1,1,0,1,0,0,0,0]) [.seq (at_ rq [1,1,1,1,1,0,1,0,0,0,1]),.seq (at_ rq [1,1,1,1,1,0,1,0,0,1]),.loop (at_ rq [1,1,1,1,1,0,1,0,0]),.block 0,.seq (at_ rq [1,1,1,1,1,1])] {slots:=[.val (.int .i64) x0,.val (.slice 49 ag) x1,.undef,.undef,.ptr 0 ag [],.ptr 1 ag [],.val (.int .i64) x2,.val .bool x3,.val .bool x4,.val (.int .i64) x5]++unU 100,res:=[(0,.box ag (.strct [.val (.int .i64) x6,.val (.int .i64) x7,.val .str x8])),(1,.box ag (.strct [.val (.int .i64) x9,.val (.int .i64) x10,.val .str x11]))],nx:=2,n0:=0}
noncomputable def aK:Code:=aE Tryz.f48
noncomputable def pj (x0:(List aj)) (x1:(List ac)) (x2:(List al)) (x3:Int) (x4:(List ac)) (x5:(List al)):Option (((List ac)×Unit)×Unit):=pt E (aB E) dU (aM E dU []) (at_ aK [1,1,1,0,1,0,0,0,0]) [.seq (at_ aK [1,1,1,0,1,0,0,0,1]),.seq (at_ aK [1,1,1,0,1,0,0,1]),.loop (at_ aK [1,1,1,0,1,0,0]),.block 0,.seq (at_ aK [1,1,1,1])] {slots:=[.val (.slice 54 ap) x0,.val (.slice 65 ae) x1,.val (.slice 52 ao) x2,.undef,.undef,.undef,.undef,.row 0,.row 1,.val (.int .i64) x3]++unU 136,res:=[(0,.row 65 ae x4 false),(1,.row 52 ao x5 false)],nx:=2,n0:=0}
noncomputable def tU:Code:=aE Tryz.f40
noncomputable def vb (x0:(List aj)) (x1:Int) (x2:(List al)):Option (((List ac)×Unit)×Unit):=pt E (aB E) yj (aM E yj []) (at_ tU [1,1,0,1,0,0,0,0]) [.seq (at_ tU [1,1,0,1,0,0,0,1]),.seq (at_ tU [1,1,0,1,0,0,1]),.loop (at_ tU [1,1,0,1,0,0]),.block 0,.seq (at_ tU [1,1,1])] {slots:=[.val (.slice 54 ap) x0,.undef,.undef,.row 0,.val (.int .i64) x1]++unU 18,res:=[(0,.row 52 ao x2 false)],nx:=1,n0:=0}
noncomputable def pk:Code:=aE Tryz.f128
noncomputable def m9 (x0:Int) (x1:(List Int)) (x2:Int) (x3:Int):Option ((Int×Unit)×Unit):=pt E (aB E) oI (aM E oI []) (at_ pk [1,1,0,1,0,0,0]) [.seq (at_ pk [1,1,0,1,0,0,1]),.loop (at_ pk [1,1,0,1,0,0]),.block 0,.seq (at_ pk [1,1,1])] {slots:=[.undef,.undef,.undef,.val (.int .i64) x0,.undef,.undef,.val (.slice 3 (.int .i64)) x1,.val (.int .i64) x2,.val (.int .i64) x3]++unU 9,res:=[],nx:=0,n0:=0}
noncomputable def vc:Code:=aE Tryz.f121
noncomputable def sL (x0:ByteArray) (x1:Int) (x2:Int) (x3:Int):Option ((Bool×Unit)×Unit):=pt E (aB E) uQ (aM E uQ []) (at_ vc [1,0,1,0,0,0]) [.seq (at_ vc [1,0,1,0,0,1]),.loop (at_ vc [1,0,1,0,0]),.block 0,.seq (at_ vc [1,1])] {slots:=[.val .str x0,.val (.int .i64) x1,.undef,.undef,.undef,.undef,.undef,.val (.int .i64) x2,.val (.int .i64) x3]++unU 17,res:=[],nx:=0,n0:=0}
noncomputable def mf:Code:=aE Tryz.f160
noncomputable def kO (x0:Int) (x1:Int) (x2:ByteArray) (x3:Bool) (x4:(List ByteArray)) (x5:(List aa)):Option ((ByteArray×Unit)×((ByteArray×((List aa)×(Bool×Unit)))×Unit)):=pt E (aB E) l5 (aM E l5 [(0,.box aW (.undef)),(1,.row 163 ai [] false)]) (at_ mf [1,1,0,1,0,0,0]) [.seq (at_ mf [1,1,0,1,0,0,1]),.loop (at_ mf [1,1,0,1,0,0]),.block 0,.seq (at_ mf [1,1,1])] {slots:=[.ptr 0 aW [],.undef,.undef,.undef,.undef,.undef,.undef,.row 2,.val (.int .i64) x0,.val (.int .i64) x1]++unU 11,res:=[(0,.box aW (.strct [.val .str x2,.row 3,.val .bool x3])),(2,.row 9 .str x4 false),(3,.row 163 ai x5 false)],nx:=4,n0:=2}
noncomputable def jT:Code:=aE Tryz.f252
noncomputable def jh (x0:ByteArray) (x1:ByteArray) (x2:ByteArray) (x3:Bool) (x4:(List aa)):Option ((Int×Unit)×((ByteArray×((List aa)×(Bool×Unit)))×Unit)):=pt E (aB E) jO (aM E jO [(0,.box aW (.undef)),(1,.row 163 ai [] false)]) (at_ jT [1,1,0,0,0,0,0]) [.seq (at_ jT [1,1,0,0,0,0,1]),.block 1,.loop (at_ jT [1,1,0,0,0]),.block 0,.seq (at_ jT [1,1,1])] {slots:=[.ptr 0 aW [],.undef,.undef,.val .str x0,.val .str x1]++unU 38,res:=[(0,.box aW (.strct [.val .str x2,.row 1,.val .bool x3])),(1,.row 163 ai x4 false)],nx:=2,n0:=2}
noncomputable def lB:Code:=aE Tryz.f29
noncomputable def f5 (x0:ByteArray) (x1:Int) (x2:Int) (x3:Int) (x4:ByteArray) (x5:Int) (x6:Int) (x7:ByteArray):Option ((ab×(Bool×Unit))×Unit):=pt E (aB E) oH (aM E oH []) (at_ lB [1,1,0,1,0,1,1,1,1,1,0,1,0,0,0,0]) [.seq (at_ lB [1,1,0,1,0,1,1,1,1,1,0,1,0,0,0,1]),.seq (at_ lB [1,1,0,1,0,1,1,1,1,1,0,1,0,0,1]),.loop (at_ lB [1,1,0,1,0,1,1,1,1,1,0,1,0,0]),.block 1,.block 0,.seq (at_ lB [1,1,1])] {slots:=[.val .str x0,.undef,.ptr 0 ag [],.undef,.ptr 1 ag [],.undef,.undef,.val (.int .i64) x1]++unU 56,res:=[(0,.box ag (.strct [.val (.int .i64) x2,.val (.int .i64) x3,.val .str x4])),(1,.box ag (.strct [.val (.int .i64) x5,.val (.int .i64) x6,.val .str x7]))],nx:=2,n0:=0}
noncomputable def pl:Code:=aE Tryz.f282
noncomputable def vW (x0:ByteArray) (x1:Int):Option ((Int×Unit)×Unit):=pt E (aB E) sG (aM E sG []) (at_ pl [1,0,1,0,0,0,0]) [.seq (at_ pl [1,0,1,0,0,0,1]),.seq (at_ pl [1,0,1,0,0,1]),.loop (at_ pl [1,0,1,0,0]),.block 0,.seq (at_ pl [1,1])] {slots:=[.val .str x0,.undef,.undef,.val (.int .i64) x1]++unU 9,res:=[],nx:=0,n0:=0}
noncomputable def bZ:Code:=aE Tryz.f125
noncomputable def eZ (x0:Int) (x1:Int) (x2:Int) (x3:ByteArray) (x4:Bool) (x5:(List aa)):Option ((Int×Unit)×((ByteArray×((List aa)×(Bool×Unit)))×Unit)):=pt E (aB E) ft (aM E ft [(0,.box aW (.undef)),(1,.row 163 ai [] false)]) (at_ bZ [1,1,0,0,0,0,0]) [.seq (at_ bZ [1,1,0,0,0,0,1]),.seq (at_ bZ [1,1,0,0,0,1]),.loop (at_ bZ [1,1,0,0,0]),.block 0,.seq (at_ bZ [1,1,1])] {slots:=[.ptr 0 aW [],.val (.int .i64) x0,.val (.int .i64) x1,.undef,.undef,.undef,.undef,.val (.int .i64) x2]++unU 47,res:=[(0,.box aW (.strct [.val .str x3,.row 2,.val .bool x4])),(2,.row 163 ai x5 false)],nx:=3,n0:=2}
noncomputable def dh:Code:=aE Tryz.f257
noncomputable def vd (x0:Int) (x1:Int) (x2:ByteArray) (x3:Bool) (x4:(List aa)) (x5:(List Int)):Option ((Int×Unit)×((ByteArray×((List aa)×(Bool×Unit)))×Unit)):=pt E (aB E) gD (aM E gD [(0,.box aW (.undef)),(1,.row 163 ai [] false)]) (at_ dh [1,1,1,0,0,0,0,0]) [.seq (at_ dh [1,1,1,0,0,0,0,1]),.seq (at_ dh [1,1,1,0,0,0,1]),.loop (at_ dh [1,1,1,0,0,0]),.block 0,.seq (at_ dh [1,1,1,1])] {slots:=[.ptr 0 aW [],.val (.int .i64) x0,.val (.int .i64) x1,.undef,.undef,.undef,.undef,.row 2]++unU 59,res:=[(0,.box aW (.strct [.val .str x2,.row 1,.val .bool x3])),(1,.row 163 ai x4 false),(2,.row 2 (.int .i64) x5 false)],nx:=3,n0:=2}
noncomputable def cr (x0:Int) (x1:Int) (x2:ByteArray) (x3:Bool) (x4:(List Int)) (x5:(List aa)):Option ((Int×Unit)×((ByteArray×((List aa)×(Bool×Unit)))×Unit)):=pt E (aB E) gD (aM E gD [(0,.box aW (.undef)),(1,.row 163 ai [] false)]) (at_ dh [1,1,1,0,0,0,0,0]) [.seq (at_ dh [1,1,1,0,0,0,0,1]),.seq (at_ dh [1,1,1,0,0,0,1]),.loop (at_ dh [1,1,1,0,0,0]),.block 0,.seq (at_ dh [1,1,1,1])] {slots:=[.ptr 0 aW [],.val (.int .i64) x0,.val (.int .i64) x1,.undef,.undef,.undef,.undef,.row 2]++unU 59,res:=[(0,.box aW (.strct [.val .str x2,.row 3,.val .bool x3])),(2,.row 2 (.int .i64) x4 false),(3,.row 163 ai x5 false)],nx:=4,n0:=2}
noncomputable def di:Code:=aE Tryz.f205
noncomputable def dt (x0:Int) (x1:Int) (x2:ByteArray) (x3:Bool) (x4:(List aa)):Option ((Int×Unit)×((ByteArray×((List aa)×(Bool×Unit)))×Unit)):=pt E (aB E) gC (aM E gC [(0,.box aW (.undef)),(1,.row 163 ai [] false)]) (at_ di [1,1,0,0,1,1,1,0,1,0,0,0,0]) [.seq (at_ di [1,1,0,0,1,1,1,0,1,0,0,0,1]),.seq (at_ di [1,1,0,0,1,1,1,0,1,0,0,1]),.loop (at_ di [1,1,0,0,1,1,1,0,1,0,0]),.block 1,.block 0,.seq (at_ di [1,1,1])] {slots:=[.ptr 0 aW [],.val (.int .i64) x0,.undef,.undef,.undef,.val (.int .i64) x1]++unU 114,res:=[(0,.box aW (.strct [.val .str x2,.row 2,.val .bool x3])),(2,.row 163 ai x4 false)],nx:=3,n0:=2}
noncomputable def dC (x0:Int) (x1:ByteArray) (x2:Int) (x3:ByteArray) (x4:Bool) (x5:(List aa)):Option ((Int×Unit)×((ByteArray×((List aa)×(Bool×Unit)))×Unit)):=pt E (aB E) gC (aM E gC [(0,.box aW (.undef)),(1,.row 163 ai [] false)]) (at_ di [1,1,1,1,1,1,0,1,0,0,0,0]) [.seq (at_ di [1,1,1,1,1,1,0,1,0,0,0,1]),.seq (at_ di [1,1,1,1,1,1,0,1,0,0,1]),.loop (at_ di [1,1,1,1,1,1,0,1,0,0]),.block 3,.seq (at_ di [1,1,1,1,1,1,1])] {slots:=[.ptr 0 aW [],.val (.int .i64) x0,.undef,.undef,.undef,.undef,.undef,.undef,.undef,.val .str x1,.undef,.undef,.undef,.undef,.val (.int .i64) x2]++unU 105,res:=[(0,.box aW (.strct [.val .str x3,.row 2,.val .bool x4])),(2,.row 163 ai x5 false)],nx:=3,n0:=2}
noncomputable def xf:Code:=aE Tryz.f166
noncomputable def qf (x0:(List aa)) (x1:Int) (x2:Int) (x3:Int) (x4:Int):Option ((Int×Unit)×Unit):=pt E (aB E) BS (aM E BS []) (at_ xf [1,1,1,0,1,0,0,0,0]) [.seq (at_ xf [1,1,1,0,1,0,0,0,1]),.seq (at_ xf [1,1,1,0,1,0,0,1]),.loop (at_ xf [1,1,1,0,1,0,0]),.block 0,.seq (at_ xf [1,1,1,1])] {slots:=[.val (.slice 163 ai) x0,.val (.int .i64) x1,.val (.int .i64) x2,.undef,.undef,.undef,.undef,.val (.int .i64) x3,.val (.int .i64) x4]++unU 67,res:=[],nx:=0,n0:=0}
noncomputable def mg:Code:=aE Tryz.f264
noncomputable def jU (x0:(List aa)) (x1:(List Int)) (x2:Int) (x3:Int) (x4:Int) (x5:Int) (x6:ab) (x7:bS) (x8:bS) (x9:(List Int)) (x10:(List ByteArray)):Option ((ByteArray×Unit)×Unit):=pt E (aB E) l7 (aM E l7 []) (at_ mg [1,1,1,1,0,1,0,0,0]) [.seq (at_ mg [1,1,1,1,0,1,0,0,1]),.loop (at_ mg [1,1,1,1,0,1,0,0]),.block 1,.seq (at_ mg [1,1,1,1,1])] {slots:=[.val (.slice 163 ai) x0,.undef,.undef,.undef,.undef,.undef,.undef,.ptr 0 ai [],.undef,.undef,.row 1,.undef,.undef,.undef,.undef,.undef,.undef,.undef,.undef,.undef,.undef,.undef,.undef,.undef,.undef,.undef,.undef,.undef,.undef,.undef,.undef,.undef,.undef,.undef,.undef,.undef,.undef,.undef,.undef,.undef,.undef,.undef,.undef,.undef,.undef,.undef,.undef,.undef,.undef,.undef,.undef,.undef,.undef,.undef,.undef,.undef,.undef,.undef,.undef,.undef,.undef,.undef,.undef,.undef,.undef,.undef,.undef,.undef,.undef,.undef,.undef,.undef,.undef,.undef,.undef,.undef,.undef,.undef,.undef,.undef,.undef,.undef,.undef,.undef,.undef,.undef,.undef,.undef,.undef,.undef,.undef,.undef,.val (.slice 2 (.int .i64)) x1,.val (.int .i64) x2,.val (.int .i64) x3]++unU 18,res:=[(0,.box ai (.strct [.val (.int .i64) x4,.val (.int .i64) x5,.val ag x6,.val bw x7,.val bw x8,.val (.slice 2 (.int .i64)) x9])),(1,.row 9 .str x10 false)],nx:=2,n0:=0}
noncomputable def sM:Code:=aE Tryz.f42
noncomputable def mT (x0:(List aj)) (x1:(List aj)) (x2:Int) (x3:Int):Option ((Bool×Unit)×Unit):=pt E (aB E) sy (aM E sy []) (at_ sM [1,0,1,0,0,0]) [.seq (at_ sM [1,0,1,0,0,1]),.loop (at_ sM [1,0,1,0,0]),.block 0,.seq (at_ sM [1,1])] {slots:=[.val (.slice 54 ap) x0,.undef,.undef,.undef,.undef,.val (.slice 54 ap) x1,.val (.int .i64) x2,.val (.int .i64) x3]++unU 34,res:=[],nx:=0,n0:=0}
noncomputable def sN:Code:=aE Tryz.f100
noncomputable def kw (x0:(List aa)) (x1:Int) (x2:Int) (x3:(List aJ)):Option (((List aJ)×Unit)×Unit):=pt E (aB E) sA (aM E sA []) (at_ sN [1,1,0,1,0,0,0]) [.seq (at_ sN [1,1,0,1,0,0,1]),.loop (at_ sN [1,1,0,1,0,0]),.block 0,.seq (at_ sN [1,1,1])] {slots:=[.undef,.undef,.undef,.row 0,.undef,.undef,.undef,.val (.slice 163 ai) x0,.val (.int .i64) x1,.val (.int .i64) x2]++unU 18,res:=[(0,.row 130 bp x3 false)],nx:=1,n0:=0}
noncomputable def b8:Code:=aE Tryz.f184
noncomputable def eA (x0:(List aJ)) (x1:Int) (x2:Int) (x3:Int) (x4:Int):Option ((Int×Unit)×(al×Unit)):=pt E (aB E) cY (aM E cY [(0,.box ao (.undef))]) (at_ b8 [1,0,1,0,0,0]) [.seq (at_ b8 [1,0,1,0,0,1]),.loop (at_ b8 [1,0,1,0,0]),.block 0,.seq (at_ b8 [1,1])] {slots:=[.val (.slice 130 bp) x0,.fn 143 [.ptr 0 ao []],.undef,.undef,.undef,.undef,.undef,.val (.int .i64) x1,.val (.int .i64) x2]++unU 10,res:=[(0,.box ao (.strct [.val (.int .i64) x3,.val (.int .i64) x4]))],nx:=1,n0:=1}
noncomputable def ec:Code:=aE Tryz.f52
noncomputable def lC (x0:(List aj)) (x1:(List aj)) (x2:Int) (x3:Int) (x4:(List aj)) (x5:(List aj)) (x6:(List (List aa))) (x7:(List (List Int))) (x8:(List (List aa))) (x9:(List (List Int))):Option ((((List aj)×((List (List aa))×((List (List Int))×Unit)))×Unit)×Unit):=pt E (aB E) kp (aM E kp []) (at_ ec [1,1,0,1,0,0,0]) [.seq (at_ ec [1,1,0,1,0,0,1]),.loop (at_ ec [1,1,0,1,0,0]),.block 0,.seq (at_ ec [1,1,1])] {slots:=[.val (.slice 54 ap) x0,.undef,.ptr 0 bg [],.ptr 1 bg [],.undef,.undef,.undef,.undef,.undef,.undef,.undef,.undef,.undef,.undef,.val (.slice 54 ap) x1,.val (.int .i64) x2,.val (.int .i64) x3]++unU 42,res:=[(0,.box bg (.strct [.row 2,.row 3,.row 4])),(1,.box bg (.strct [.val (.slice 54 ap) x4,.row 5,.row 6])),(2,.row 54 ap x5 false),(3,.row 110 (.slice 163 ai) x6 false),(4,.row 133 (.slice 3 (.int .i64)) x7 false),(5,.row 110 (.slice 163 ai) x8 false),(6,.row 133 (.slice 3 (.int .i64)) x9 false)],nx:=7,n0:=0}
noncomputable def iB:Code:=aE Tryz.f73
noncomputable def fu (x0:Int) (x1:Int) (x2:(List aj)) (x3:(List (List aa))) (x4:(List (List Int))) (x5:(List Bool)) (x6:(List Int)):Option ((Bool×Unit)×Unit):=pt E (aB E) kK (aM E kK []) (at_ iB [1,1,1,0,1,0,0,0,0]) [.seq (at_ iB [1,1,1,0,1,0,0,0,1]),.seq (at_ iB [1,1,1,0,1,0,0,1]),.loop (at_ iB [1,1,1,0,1,0,0]),.block 0,.seq (at_ iB [1,1,1,1])] {slots:=[.undef,.val (.int .i64) x0,.ptr 0 bg [],.undef,.undef,.row 1,.row 2,.val (.int .i64) x1]++unU 39,res:=[(0,.box bg (.strct [.val (.slice 54 ap) x2,.val (.slice 110 (.slice 163 ai)) x3,.val (.slice 133 (.slice 3 (.int .i64))) x4])),(1,.row 4 .bool x5 false),(2,.row 3 (.int .i64) x6 false)],nx:=3,n0:=0}
noncomputable def bO:Code:=aE Tryz.f108
noncomputable def dM (x0:Int) (x1:(List Int)) (x2:Int) (x3:Int) (x4:(List aj)) (x5:(List (List aa))) (x6:(List (List Int))) (x7:(List Bool)) (x8:(List ac)):Option (Unit×((List Bool)×(jZ×((List ac)×Unit)))):=pt E (aB E) cK (aM E cK [(0,.box (.slice 4 .bool) (.undef)),(1,.box bg (.undef)),(2,.box (.slice 65 ae) (.undef)),(3,.keepF 108 []),(4,.row 4 .bool [] false),(5,.row 65 ae [] false)]) (at_ bO [1,1,0,1,1,1,1,0,1,0,0,0]) [.seq (at_ bO [1,1,0,1,1,1,1,0,1,0,0,1]),.loop (at_ bO [1,1,0,1,1,1,1,0,1,0,0]),.block 1,.seq (at_ bO [1,1,0,1,1,1,1,1]),.block 0] {slots:=[.val (.int .i64) x0,.undef,.ptr 1 bg [],.ptr 2 (.slice 65 ae) [],.ptr 3 .fn [],.undef,.undef,.undef,.undef,.undef,.undef,.undef,.undef,.undef,.undef,.undef,.undef,.undef,.undef,.val (.slice 3 (.int .i64)) x1,.val (.int .i64) x2,.val (.int .i64) x3]++unU 49,res:=[(0,.box (.slice 4 .bool) (.row 4)),(1,.box bg (.strct [.val (.slice 54 ap) x4,.val (.slice 110 (.slice 163 ai)) x5,.val (.slice 133 (.slice 3 (.int .i64))) x6])),(2,.box (.slice 65 ae) (.row 5)),(3,.keepF 108 [.ptr 0 (.slice 4 .bool) [],.ptr 1 bg [],.ptr 2 (.slice 65 ae) [],.ptr 3 .fn []]),(4,.row 4 .bool x7 false),(5,.row 65 ae x8 false)],nx:=6,n0:=6}
noncomputable def bU (x0:Int) (x1:(List Int)) (x2:Int) (x3:Int) (x4:jZ) (x5:(List Bool)) (x6:(List ac)):Option (Unit×((List Bool)×(jZ×((List ac)×Unit)))):=pt E (aB E) cK (aM E cK [(0,.box (.slice 4 .bool) (.undef)),(1,.box bg (.undef)),(2,.box (.slice 65 ae) (.undef)),(3,.keepF 108 []),(4,.row 4 .bool [] false),(5,.row 65 ae [] false)]) (at_ bO [1,1,0,1,1,1,1,0,1,0,0,0]) [.seq (at_ bO [1,1,0,1,1,1,1,0,1,0,0,1]),.loop (at_ bO [1,1,0,1,1,1,1,0,1,0,0]),.block 1,.seq (at_ bO [1,1,0,1,1,1,1,1]),.block 0] {slots:=[.val (.int .i64) x0,.undef,.ptr 1 bg [],.ptr 2 (.slice 65 ae) [],.ptr 3 .fn [],.undef,.undef,.undef,.undef,.undef,.undef,.undef,.undef,.undef,.undef,.undef,.undef,.undef,.undef,.val (.slice 3 (.int .i64)) x1,.val (.int .i64) x2,.val (.int .i64) x3]++unU 49,res:=[(0,.box (.slice 4 .bool) (.row 4)),(1,.box bg (.val bg x4)),(2,.box (.slice 65 ae) (.row 5)),(3,.keepF 108 [.ptr 0 (.slice 4 .bool) [],.ptr 1 bg [],.ptr 2 (.slice 65 ae) [],.ptr 3 .fn []]),(4,.row 4 .bool x5 false),(5,.row 65 ae x6 false)],nx:=6,n0:=6}
noncomputable def ve:Code:=aE Tryz.f54
noncomputable def sO (x0:(List ac)) (x1:Int) (x2:Int) (x3:Int) (x4:Int) (x5:Int) (x6:Int) (x7:ByteArray):Option ((ab×Unit)×Unit):=pt E (aB E) uP (aM E uP []) (at_ ve [1,0,1,0,0,0]) [.seq (at_ ve [1,0,1,0,0,1]),.loop (at_ ve [1,0,1,0,0]),.block 0,.seq (at_ ve [1,1])] {slots:=[.undef,.undef,.undef,.ptr 0 ao [],.ptr 1 ag [],.undef,.undef,.val (.slice 65 ae) x0,.val (.int .i64) x1,.val (.int .i64) x2]++unU 11,res:=[(0,.box ao (.strct [.val (.int .i64) x3,.val (.int .i64) x4])),(1,.box ag (.strct [.val (.int .i64) x5,.val (.int .i64) x6,.val .str x7]))],nx:=2,n0:=0}
noncomputable def eO:Code:=aE Tryz.f230
noncomputable def ju (x0:(List aa)) (x1:(List ac)) (x2:(List Int)) (x3:Int) (x4:Int) (x5:(List ab)):Option (((List ab)×Unit)×Unit):=pt E (aB E) ku (aM E ku []) (at_ eO [1,1,0,1,0,0,0]) [.seq (at_ eO [1,1,0,1,0,0,1]),.loop (at_ eO [1,1,0,1,0,0]),.block 0,.seq (at_ eO [1,1,1])] {slots:=[.val (.slice 163 ai) x0,.undef,.val (.slice 65 ae) x1,.undef,.undef,.undef,.undef,.row 0,.undef,.undef,.undef,.undef,.undef,.undef,.val (.slice 2 (.int .i64)) x2,.val (.int .i64) x3,.val (.int .i64) x4]++unU 38,res:=[(0,.row 49 ag x5 false)],nx:=1,n0:=0}
noncomputable def qR:Code:=aE Tryz.f229
noncomputable def gY (x0:Int) (x1:Bool) (x2:Bool) (x3:(List ab)) (x4:Int) (x5:Int) (x6:Int) (x7:Int) (x8:ByteArray):Option ((ab×Unit)×Unit):=pt E (aB E) qN (aM E qN []) (at_ qR [1,1,0,1,0,0,0]) [.seq (at_ qR [1,1,0,1,0,0,1]),.loop (at_ qR [1,1,0,1,0,0]),.block 0,.seq (at_ qR [1,1,1])] {slots:=[.val (.int .i64) x0,.undef,.undef,.undef,.ptr 0 ag [],.val .bool x1,.val .bool x2,.undef,.undef,.undef,.undef,.val (.slice 49 ag) x3,.val (.int .i64) x4,.val (.int .i64) x5]++unU 27,res:=[(0,.box ag (.strct [.val (.int .i64) x6,.val (.int .i64) x7,.val .str x8]))],nx:=1,n0:=0}
noncomputable def Q6 (x0:Int) (x1:Int):Option ((ab×Unit)×Unit):=af E J8 [.val (.int .i64) x0,.val (.int .i64) x1] []
noncomputable def vf:Code:=aE Tryz.f231
noncomputable def pm (x0:(List ab)) (x1:Int) (x2:Int) (x3:Int) (x4:Int) (x5:ByteArray) (x6:Int) (x7:Int) (x8:ByteArray):Option ((ab×Unit)×Unit):=pt E (aB E) uW (aM E uW []) (at_ vf [1,1,0,1,0,0,0]) [.seq (at_ vf [1,1,0,1,0,0,1]),.loop (at_ vf [1,1,0,1,0,0]),.block 0,.seq (at_ vf [1,1,1])] {slots:=[.undef,.undef,.ptr 0 ag [],.ptr 1 ag [],.undef,.undef,.undef,.val (.slice 49 ag) x0,.val (.int .i64) x1,.val (.int .i64) x2]++unU 19,res:=[(0,.box ag (.strct [.val (.int .i64) x3,.val (.int .i64) x4,.val .str x5])),(1,.box ag (.strct [.val (.int .i64) x6,.val (.int .i64) x7,.val .str x8]))],nx:=2,n0:=0}
noncomputable def qS:Code:=aE Tryz.f232
noncomputable def eU (x0:Int) (x1:Int) (x2:Int) (x3:Int) (x4:(List ab)) (x5:Int) (x6:Int) (x7:Int) (x8:Int) (x9:ByteArray):Option ((ab×Unit)×Unit):=pt E (aB E) qO (aM E qO []) (at_ qS [1,1,0,1,0,0,0]) [.seq (at_ qS [1,1,0,1,0,0,1]),.loop (at_ qS [1,1,0,1,0,0]),.block 0,.seq (at_ qS [1,1,1])] {slots:=[.val (.int .i64) x0,.undef,.undef,.undef,.ptr 0 ag [],.val (.int .i64) x1,.val (.int .i64) x2,.val (.int .i64) x3,.undef,.undef,.val (.slice 49 ag) x4,.val (.int .i64) x5,.val (.int .i64) x6]++unU 42,res:=[(0,.box ag (.strct [.val (.int .i64) x7,.val (.int .i64) x8,.val .str x9]))],nx:=1,n0:=0}
noncomputable def Kg (x0:Int) (x1:Int):Option ((ab×Unit)×Unit):=af E EU [.val (.int .i64) x0,.val (.int .i64) x1] []
noncomputable def NM (x0:Int) (x1:Int):Option ((ab×Unit)×Unit):=af E HO [.val (.int .i64) x0,.val (.int .i64) x1] []
noncomputable def cn:Code:=aE Tryz.f55
noncomputable def gZ (x0:(List ab)) (x1:(List aj)) (x2:Int) (x3:Int) (x4:(List aj)) (x5:(List (List aa))) (x6:(List (List Int))) (x7:(List Bool)) (x8:(List ac)):Option (((List ac)×Unit)×Unit):=pt E (aB E) dV (aM E dV []) (at_ cn [1,1,0,1,0,0,0]) [.seq (at_ cn [1,1,0,1,0,0,1]),.loop (at_ cn [1,1,0,1,0,0]),.block 0,.seq (at_ cn [1,1,1])] {slots:=[.undef,.undef,.val (.slice 49 ag) x0,.ptr 0 bg [],.undef,.undef,.undef,.ptr 1 (.slice 4 .bool) [],.ptr 2 (.slice 65 ae) [],.undef,.undef,.undef,.undef,.undef,.undef,.undef,.undef,.undef,.undef,.undef,.val (.slice 54 ap) x1,.val (.int .i64) x2,.val (.int .i64) x3]++unU 26,res:=[(0,.box bg (.strct [.val (.slice 54 ap) x4,.val (.slice 110 (.slice 163 ai)) x5,.val (.slice 133 (.slice 3 (.int .i64))) x6])),(1,.box (.slice 4 .bool) (.row 3)),(2,.box (.slice 65 ae) (.row 4)),(3,.row 4 .bool x7 false),(4,.row 65 ae x8 false)],nx:=5,n0:=0}
noncomputable def iC:Code:=aE Tryz.f11
noncomputable def nw (x0:(List ac)) (x1:(List ac)) (x2:Int):Option ((Bool×Unit)×Unit):=pt E (aB E) kG (aM E kG []) (at_ iC [1,1,0,1,0,0,0,0]) [.seq (at_ iC [1,1,0,1,0,0,0,1]),.seq (at_ iC [1,1,0,1,0,0,1]),.loop (at_ iC [1,1,0,1,0,0]),.block 0,.seq (at_ iC [1,1,1])] {slots:=[.val (.slice 65 ae) x0,.val (.slice 65 ae) x1,.undef,.undef,.undef,.val (.int .i64) x2]++unU 21,res:=[],nx:=0,n0:=0}
noncomputable def pn:Code:=aE Tryz.f12
noncomputable def vX (x0:(List aj)) (x1:(List aj)) (x2:Int):Option ((Bool×Unit)×Unit):=pt E (aB E) sw (aM E sw []) (at_ pn [1,1,0,1,0,0,0,0]) [.seq (at_ pn [1,1,0,1,0,0,0,1]),.seq (at_ pn [1,1,0,1,0,0,1]),.loop (at_ pn [1,1,0,1,0,0]),.block 0,.seq (at_ pn [1,1,1])] {slots:=[.val (.slice 54 ap) x0,.val (.slice 54 ap) x1,.undef,.undef,.undef,.val (.int .i64) x2]++unU 21,res:=[],nx:=0,n0:=0}
noncomputable def mU:Code:=aE Tryz.f46
noncomputable def po (x0:Int) (x1:ByteArray):Option ((ByteArray×Unit)×Unit):=pt E (aB E) qK (aM E qK []) (at_ mU [1,1,1,0,0,0,0,0]) [.seq (at_ mU [1,1,1,0,0,0,0,1]),.seq (at_ mU [1,1,1,0,0,0,1]),.loop (at_ mU [1,1,1,0,0,0]),.block 0,.seq (at_ mU [1,1,1,1])] {slots:=[.val (.int .i64) x0,.undef,.undef,.val .str x1]++unU 16,res:=[],nx:=0,n0:=0}
noncomputable def lD:Code:=aE Tryz.f13
noncomputable def kP (x0:Int) (x1:Int) (x2:(List aj)):Option ((Int×Unit)×((List aj)×Unit)):=pt E (aB E) oG (aM E oG [(0,.row 54 ap [] false)]) (at_ lD [1,0,1,0,0,0,0]) [.seq (at_ lD [1,0,1,0,0,0,1]),.seq (at_ lD [1,0,1,0,0,1]),.loop (at_ lD [1,0,1,0,0]),.block 0,.seq (at_ lD [1,1])] {slots:=[.row 0,.val (.int .i64) x0,.undef,.undef,.undef,.val (.int .i64) x1]++unU 31,res:=[(0,.row 54 ap x2 false)],nx:=1,n0:=1}
noncomputable def gf:Code:=aE Tryz.f14
noncomputable def gn (x0:Int) (x1:Int) (x2:(List ac)):Option ((Int×Unit)×((List ac)×Unit)):=pt E (aB E) jf (aM E jf [(0,.row 65 ae [] false)]) (at_ gf [1,0,1,0,0,0,0]) [.seq (at_ gf [1,0,1,0,0,0,1]),.seq (at_ gf [1,0,1,0,0,1]),.loop (at_ gf [1,0,1,0,0]),.block 0,.seq (at_ gf [1,1])] {slots:=[.row 0,.val (.int .i64) x0,.undef,.undef,.undef,.val (.int .i64) x1]++unU 48,res:=[(0,.row 65 ae x2 false)],nx:=1,n0:=1}
noncomputable def gh:Code:=aE Tryz.f15
noncomputable def iE (x0:(List ac)) (x1:Int) (x2:Int):Option ((Int×Unit)×Unit):=pt E (aB E) jg (aM E jg []) (at_ gh [1,0,1,0,0,0,0]) [.seq (at_ gh [1,0,1,0,0,0,1]),.seq (at_ gh [1,0,1,0,0,1]),.loop (at_ gh [1,0,1,0,0]),.block 0,.seq (at_ gh [1,1])] {slots:=[.val (.slice 65 ae) x0,.val (.int .i64) x1,.undef,.undef,.undef,.val (.int .i64) x2]++unU 58,res:=[],nx:=0,n0:=0}
noncomputable def iG:Code:=aE Tryz.f16
noncomputable def nD (x0:(List ac)) (x1:Int) (x2:Int):Option ((Int×Unit)×Unit):=pt E (aB E) kH (aM E kH []) (at_ iG [1,1,1,0,1,0,0,0,0]) [.seq (at_ iG [1,1,1,0,1,0,0,0,1]),.seq (at_ iG [1,1,1,0,1,0,0,1]),.loop (at_ iG [1,1,1,0,1,0,0]),.block 0,.seq (at_ iG [1,1,1,1])] {slots:=[.val (.slice 77 ae) x0,.val (.int .i64) x1,.undef,.undef,.undef,.val (.int .i64) x2]++unU 21,res:=[],nx:=0,n0:=0}
noncomputable def iH:Code:=aE Tryz.f19
noncomputable def nE (x0:(List ac)) (x1:Int) (x2:(List ac)):Option (((List ac)×Unit)×Unit):=pt E (aB E) kI (aM E kI []) (at_ iH [1,1,0,1,0,0,0,0]) [.seq (at_ iH [1,1,0,1,0,0,0,1]),.seq (at_ iH [1,1,0,1,0,0,1]),.loop (at_ iH [1,1,0,1,0,0]),.block 0,.seq (at_ iH [1,1,1])] {slots:=[.val (.slice 77 ae) x0,.undef,.undef,.row 0,.val (.int .i64) x1]++unU 18,res:=[(0,.row 65 ae x2 false)],nx:=1,n0:=0}
noncomputable def rr:Code:=aE Tryz.f20
noncomputable def yF (x0:(List al)) (x1:Int) (x2:(List al)):Option (((List al)×Unit)×Unit):=pt E (aB E) uN (aM E uN []) (at_ rr [1,1,0,1,0,0,0,0]) [.seq (at_ rr [1,1,0,1,0,0,0,1]),.seq (at_ rr [1,1,0,1,0,0,1]),.loop (at_ rr [1,1,0,1,0,0]),.block 0,.seq (at_ rr [1,1,1])] {slots:=[.val (.slice 67 ao) x0,.undef,.undef,.row 0,.val (.int .i64) x1]++unU 18,res:=[(0,.row 52 ao x2 false)],nx:=1,n0:=0}
noncomputable def aI:Code:=aE Tryz.f49
noncomputable def kf (x0:(List aj)) (x1:Bool) (x2:(List al)):Option (((List al)×Unit)×Unit):=pt E (aB E) c7 (aM E c7 []) (at_ aI [1,1,0,1,0,0,0,0]) [.seq (at_ aI [1,1,0,1,0,0,0,1]),.seq (at_ aI [1,1,0,1,0,0,1]),.loop (at_ aI [1,1,0,1,0,0]),.block 0,.seq (at_ aI [1,1,1])] {slots:=[.val (.slice 54 ap) x0,.undef,.undef,.undef,.undef,.row 0,.val .bool x1]++unU 86,res:=[(0,.row 52 ao x2 false)],nx:=1,n0:=0}
noncomputable def qU:Code:=aE Tryz.f32
noncomputable def lE (x0:(List ac)) (x1:(List ac)) (x2:Int) (x3:Int):Option ((Bool×Unit)×Unit):=pt E (aB E) qI (aM E qI []) (at_ qU [1,0,1,0,0,0]) [.seq (at_ qU [1,0,1,0,0,1]),.loop (at_ qU [1,0,1,0,0]),.block 0,.seq (at_ qU [1,1])] {slots:=[.val (.slice 65 ae) x0,.undef,.undef,.undef,.undef,.val (.slice 65 ae) x1,.val (.int .i64) x2,.val (.int .i64) x3]++unU 34,res:=[],nx:=0,n0:=0}
noncomputable def iI:Code:=aE Tryz.f145
noncomputable def fj (x0:(List al)) (x1:Int) (x2:Int) (x3:Int) (x4:Int):Option ((Int×Unit)×Unit):=pt E (aB E) iy (aM E iy []) (at_ iI [1,0,1,0,0,0]) [.seq (at_ iI [1,0,1,0,0,1]),.loop (at_ iI [1,0,1,0,0]),.block 0,.seq (at_ iI [1,1])] {slots:=[.val (.slice 52 ao) x0,.undef,.undef,.ptr 0 ao [],.undef,.undef,.undef,.val (.int .i64) x1,.val (.int .i64) x2]++unU 10,res:=[(0,.box ao (.strct [.val (.int .i64) x3,.val (.int .i64) x4]))],nx:=1,n0:=0}
noncomputable def ci:Code:=aE Tryz.f146
noncomputable def cZ (x0:(List al)) (x1:Int) (x2:Int) (x3:(List aJ)):Option ((Int×Unit)×((List aJ)×Unit)):=pt E (aB E) dg (aM E dg [(0,.box (.slice 130 bp) (.undef)),(1,.row 130 bp [] false)]) (at_ ci [1,0,1,0,0,0]) [.seq (at_ ci [1,0,1,0,0,1]),.loop (at_ ci [1,0,1,0,0]),.block 0,.seq (at_ ci [1,1])] {slots:=[.val (.slice 52 ao) x0,.fn 104 [.ptr 0 (.slice 130 bp) []],.undef,.undef,.undef,.undef,.undef,.val (.int .i64) x1,.val (.int .i64) x2]++unU 10,res:=[(0,.box (.slice 130 bp) (.row 1)),(1,.row 130 bp x3 false)],nx:=2,n0:=2}
noncomputable def bD:Code:=aE Tryz.f147
noncomputable def cC (x0:(List Int)) (x1:Int) (x2:Int) (x3:(List Bool)):Option ((Int×Unit)×((List Bool)×Unit)):=pt E (aB E) ck (aM E ck [(0,.box (.slice 4 .bool) (.undef)),(1,.row 4 .bool [] false)]) (at_ bD [1,0,1,0,0,0]) [.seq (at_ bD [1,0,1,0,0,1]),.loop (at_ bD [1,0,1,0,0]),.block 0,.seq (at_ bD [1,1])] {slots:=[.val (.slice 3 (.int .i64)) x0,.fn 106 [.ptr 0 (.slice 4 .bool) []],.undef,.undef,.undef,.undef,.undef,.val (.int .i64) x1,.val (.int .i64) x2]++unU 10,res:=[(0,.box (.slice 4 .bool) (.row 1)),(1,.row 4 .bool x3 false)],nx:=2,n0:=2}
noncomputable def bK:Code:=aE Tryz.f53
noncomputable def dS (x0:(List al)) (x1:(List aj)) (x2:Int) (x3:Int) (x4:(List aj)) (x5:(List (List aa))) (x6:(List (List Int))) (x7:(List Bool)):Option (((List Bool)×Unit)×Unit):=pt E (aB E) dA (aM E dA []) (at_ bK [1,1,0,1,0,0,0]) [.seq (at_ bK [1,1,0,1,0,0,1]),.loop (at_ bK [1,1,0,1,0,0]),.block 0,.seq (at_ bK [1,1,1])] {slots:=[.undef,.val (.slice 52 ao) x0,.ptr 0 bg [],.undef,.undef,.ptr 1 (.slice 4 .bool) [],.undef,.undef,.undef,.undef,.undef,.undef,.undef,.undef,.undef,.undef,.undef,.val (.slice 54 ap) x1,.val (.int .i64) x2,.val (.int .i64) x3]++unU 47,res:=[(0,.box bg (.strct [.val (.slice 54 ap) x4,.val (.slice 110 (.slice 163 ai)) x5,.val (.slice 133 (.slice 3 (.int .i64))) x6])),(1,.box (.slice 4 .bool) (.row 2)),(2,.row 4 .bool x7 false)],nx:=3,n0:=0}
noncomputable def kQ:Code:=aE Tryz.f21
noncomputable def g6 (x0:(List ac)) (x1:(List aj)) (x2:Int) (x3:Int) (x4:(List aj)) (x5:(List ab)) (x6:(List Bool)) (x7:(List (List aa))) (x8:(List (List Int))):Option (((List ac)×Unit)×Unit):=pt E (aB E) kJ (aM E kJ []) (at_ kQ [1,1,1,1,0,1,0,0,0]) [.seq (at_ kQ [1,1,1,1,0,1,0,0,1]),.loop (at_ kQ [1,1,1,1,0,1,0,0]),.block 0,.seq (at_ kQ [1,1,1,1,1])] {slots:=[.undef,.val (.slice 65 ae) x0,.undef,.undef,.undef,.undef,.undef,.ptr 0 bg [],.row 1,.row 2,.undef,.undef,.undef,.undef,.undef,.undef,.undef,.undef,.undef,.undef,.undef,.undef,.undef,.undef,.undef,.undef,.undef,.undef,.undef,.undef,.undef,.val (.slice 54 ap) x1,.val (.int .i64) x2,.val (.int .i64) x3]++unU 24,res:=[(0,.box bg (.strct [.val (.slice 54 ap) x4,.row 3,.row 4])),(1,.row 49 ag x5 false),(2,.row 4 .bool x6 false),(3,.row 110 (.slice 163 ai) x7 false),(4,.row 133 (.slice 3 (.int .i64)) x8 false)],nx:=5,n0:=0}
noncomputable def rs:Code:=aE Tryz.f22
noncomputable def yG (x0:(List al)) (x1:(List al)) (x2:Int):Option ((Bool×Unit)×Unit):=pt E (aB E) uO (aM E uO []) (at_ rs [1,1,0,1,0,0,0,0]) [.seq (at_ rs [1,1,0,1,0,0,0,1]),.seq (at_ rs [1,1,0,1,0,0,1]),.loop (at_ rs [1,1,0,1,0,0]),.block 0,.seq (at_ rs [1,1,1])] {slots:=[.val (.slice 52 ao) x0,.val (.slice 52 ao) x1,.undef,.undef,.undef,.val (.int .i64) x2]++unU 21,res:=[],nx:=0,n0:=0}
noncomputable def mV:Code:=aE Tryz.f23
noncomputable def mh (x0:Int) (x1:Int) (x2:(List al)):Option ((Int×Unit)×((List al)×Unit)):=pt E (aB E) qH (aM E qH [(0,.row 52 ao [] false)]) (at_ mV [1,0,1,0,0,0,0]) [.seq (at_ mV [1,0,1,0,0,0,1]),.seq (at_ mV [1,0,1,0,0,1]),.loop (at_ mV [1,0,1,0,0]),.block 0,.seq (at_ mV [1,1])] {slots:=[.row 0,.val (.int .i64) x0,.undef,.undef,.undef,.val (.int .i64) x1]++unU 21,res:=[(0,.row 52 ao x2 false)],nx:=1,n0:=1}
noncomputable def cN (x0:Int) (x1:ByteArray) (x2:Int) (x3:Bool) (x4:(List Int)) (x5:(List aa)):Option ((Int×Unit)×((ByteArray×(Int×(Bool×((List aa)×Unit))))×Unit)):=pt E (aB E) jp (aM E jp [(0,.box aQ (.undef)),(1,.row 163 ai [] false)]) (at_ d8 [1,1,0,0,0,0,0]) [.seq (at_ d8 [1,1,0,0,0,0,1]),.seq (at_ d8 [1,1,0,0,0,1]),.loop (at_ d8 [1,1,0,0,0]),.block 0,.seq (at_ d8 [1,1,1])] {slots:=[.ptr 0 aQ [],.val (.int .i64) x0,.undef,.undef,.undef,.row 2]++unU 24,res:=[(0,.box aQ (.strct [.val .str x1,.val (.int .i64) x2,.val .bool x3,.row 3])),(2,.row 2 (.int .i64) x4 false),(3,.row 163 ai x5 false)],nx:=4,n0:=2}
noncomputable def lF (x0:Int) (x1:Int) (x2:ByteArray) (x3:Int) (x4:Bool) (x5:(List Int)) (x6:(List aa)):Option ((Int×Unit)×((ByteArray×(Int×(Bool×((List aa)×Unit))))×Unit)):=pt E (aB E) l6 (aM E l6 [(0,.box aQ (.undef)),(1,.row 163 ai [] false)]) (at_ fB [1,1,0,1,0,0,0,0]) [.seq (at_ fB [1,1,0,1,0,0,0,1]),.seq (at_ fB [1,1,0,1,0,0,1]),.loop (at_ fB [1,1,0,1,0,0]),.block 0,.seq (at_ fB [1,1,1])] {slots:=[.ptr 0 aQ [],.val (.int .i64) x0,.undef,.undef,.undef,.row 2,.val (.int .i64) x1]++unU 27,res:=[(0,.box aQ (.strct [.val .str x2,.val (.int .i64) x3,.val .bool x4,.row 3])),(2,.row 2 (.int .i64) x5 false),(3,.row 163 ai x6 false)],nx:=4,n0:=2}
noncomputable def kg (x0:(List aa)) (x1:Int) (x2:Int):Option ((Bool×Unit)×Unit):=pt E (aB E) jo (aM E jo []) (at_ da [1,1,0,1,0,0,1,0,0,1,1,0,0,0,0]) [.seq (at_ da [1,1,0,1,0,0,1,0,0,1,1,0,0,0,1]),.seq (at_ da [1,1,0,1,0,0,1,0,0,1,1,0,0,1]),.loop (at_ da [1,1,0,1,0,0,1,0,0,1,1,0,0]),.block 2,.block 1,.seq (at_ da [1,1,0,1,0,0,1,1]),.loop (at_ da [1,1,0,1,0,0]),.block 0,.seq (at_ da [1,1,1])] {slots:=[.val (.slice 163 ai) x0,.undef,.undef,.val (.int .i64) x1,.val (.int .i64) x2]++unU 82,res:=[],nx:=0,n0:=0}
noncomputable def mW (x0:(List aj)) (x1:Int) (x2:Bool) (x3:Int) (x4:(List al)) (x5:(List aJ)):Option (((List al)×Unit)×Unit):=pt E (aB E) lZ (aM E lZ []) (at_ dL [1,1,1,0,1,0,0,1,0,0,1,0,1,0,0,0,0]) [.seq (at_ dL [1,1,1,0,1,0,0,1,0,0,1,0,1,0,0,0,1]),.seq (at_ dL [1,1,1,0,1,0,0,1,0,0,1,0,1,0,0,1]),.loop (at_ dL [1,1,1,0,1,0,0,1,0,0,1,0,1,0,0]),.block 2,.seq (at_ dL [1,1,1,0,1,0,0,1,0,0,1,1]),.block 1,.seq (at_ dL [1,1,1,0,1,0,0,1,1]),.loop (at_ dL [1,1,1,0,1,0,0]),.block 0,.seq (at_ dL [1,1,1,1])] {slots:=[.val (.slice 54 ap) x0,.undef,.undef,.undef,.undef,.row 0,.row 1,.val (.int .i64) x1,.val .bool x2,.val (.int .i64) x3]++unU 40,res:=[(0,.row 52 ao x4 false),(1,.row 130 bp x5 false)],nx:=2,n0:=0}
noncomputable def lG (x0:(List aj)) (x1:Int) (x2:Int) (x3:Int) (x4:Int) (x5:(List al)) (x6:(List al)):Option ((Bool×Unit)×Unit):=pt E (aB E) kq (aM E kq []) (at_ dG [1,1,0,1,0,0,1,0,0,1,1,1,0,0,0,0]) [.seq (at_ dG [1,1,0,1,0,0,1,0,0,1,1,1,0,0,0,1]),.seq (at_ dG [1,1,0,1,0,0,1,0,0,1,1,1,0,0,1]),.loop (at_ dG [1,1,0,1,0,0,1,0,0,1,1,1,0,0]),.block 2,.block 1,.seq (at_ dG [1,1,0,1,0,0,1,1]),.loop (at_ dG [1,1,0,1,0,0]),.block 0,.seq (at_ dG [1,1,1])] {slots:=[.val (.slice 54 ap) x0,.undef,.undef,.ptr 0 ao [],.undef,.row 1,.val (.int .i64) x1,.row 2,.val (.int .i64) x2]++unU 41,res:=[(0,.box ao (.strct [.val (.int .i64) x3,.val (.int .i64) x4])),(1,.row 52 ao x5 false),(2,.row 52 ao x6 false)],nx:=3,n0:=0}
noncomputable def i6 (x0:(List aa)) (x1:Int) (x2:(List ac)) (x3:Int) (x4:Int) (x5:(List ab)) (x6:al) (x7:al):Option (((List ab)×Unit)×Unit):=pt E (aB E) nV (aM E nV []) (at_ fd [1,1,0,1,0,0,1,0,0,1,1,1,1,0,0,0,0]) [.seq (at_ fd [1,1,0,1,0,0,1,0,0,1,1,1,1,0,0,0,1]),.seq (at_ fd [1,1,0,1,0,0,1,0,0,1,1,1,1,0,0,1]),.loop (at_ fd [1,1,0,1,0,0,1,0,0,1,1,1,1,0,0]),.block 2,.block 1,.seq (at_ fd [1,1,0,1,0,0,1,1]),.loop (at_ fd [1,1,0,1,0,0]),.block 0,.seq (at_ fd [1,1,1])] {slots:=[.val (.slice 163 ai) x0,.val (.int .i64) x1,.val (.slice 65 ae) x2,.undef,.undef,.undef,.undef,.row 0,.val (.int .i64) x3,.undef,.ptr 1 bp [],.val (.int .i64) x4]++unU 68,res:=[(0,.row 49 ag x5 false),(1,.box bp (.strct [.val ao x6,.val ao x7]))],nx:=2,n0:=0}
noncomputable def iJ (x0:(List aj)) (x1:(List ac)) (x2:(List al)):Option (((List ac)×Unit)×Unit):=pt E (aB E) dU (aM E dU []) (at_ aK [1,1,1,1,0,0,0,0,0]) [.seq (at_ aK [1,1,1,1,0,0,0,0,1]),.seq (at_ aK [1,1,1,1,0,0,0,1]),.loop (at_ aK [1,1,1,1,0,0,0]),.block 2,.seq (at_ aK [1,1,1,1,1])] {slots:=[.val (.slice 54 ap) x0,.undef,.undef,.undef,.undef,.undef,.undef,.row 0,.row 1]++unU 137,res:=[(0,.row 65 ae x1 false),(1,.row 52 ao x2 false)],nx:=2,n0:=0}
noncomputable def cd (x0:Int) (x1:Int) (x2:Int) (x3:Int) (x4:Int) (x5:ByteArray) (x6:Bool) (x7:(List aa)):Option ((Int×Unit)×((ByteArray×((List aa)×(Bool×Unit)))×Unit)):=pt E (aB E) ft (aM E ft [(0,.box aW (.undef)),(1,.row 163 ai [] false)]) (at_ bZ [1,1,0,0,0,1,0,1,0,1,0,0,0,0]) [.seq (at_ bZ [1,1,0,0,0,1,0,1,0,1,0,0,0,1]),.seq (at_ bZ [1,1,0,0,0,1,0,1,0,1,0,0,1]),.loop (at_ bZ [1,1,0,0,0,1,0,1,0,1,0,0]),.block 2,.seq (at_ bZ [1,1,0,0,0,1,0,1,1]),.block 1,.loop (at_ bZ [1,1,0,0,0]),.block 0,.seq (at_ bZ [1,1,1])] {slots:=[.ptr 0 aW [],.val (.int .i64) x0,.val (.int .i64) x1,.undef,.undef,.undef,.undef,.val (.int .i64) x2,.val (.int .i64) x3,.val (.int .i64) x4]++unU 45,res:=[(0,.box aW (.strct [.val .str x5,.row 2,.val .bool x6])),(2,.row 163 ai x7 false)],nx:=3,n0:=2}
noncomputable def bL (x0:(List aJ)) (x1:Int) (x2:Int) (x3:al):Option ((Int×Unit)×(al×Unit)):=pt E (aB E) cY (aM E cY [(0,.box ao (.undef))]) (at_ b8 [1,0,1,0,0,0]) [.seq (at_ b8 [1,0,1,0,0,1]),.loop (at_ b8 [1,0,1,0,0]),.block 0,.seq (at_ b8 [1,1])] {slots:=[.val (.slice 130 bp) x0,.fn 143 [.ptr 0 ao []],.undef,.undef,.undef,.undef,.undef,.val (.int .i64) x1,.val (.int .i64) x2]++unU 10,res:=[(0,.box ao (.val ao x3))],nx:=1,n0:=1}
noncomputable def lH (x0:(List aj)) (x1:(List aj)) (x2:Int) (x3:Int) (x4:(List aj)) (x5:Int) (x6:Int) (x7:(List aj)) (x8:(List aa)) (x9:(List aJ)) (x10:(List Int)) (x11:(List aj)) (x12:(List (List aa))) (x13:(List (List Int))) (x14:(List (List aa))) (x15:(List (List Int))):Option ((((List aj)×((List (List aa))×((List (List Int))×Unit)))×Unit)×Unit):=pt E (aB E) kp (aM E kp []) (at_ ec [1,1,0,1,0,0,1,1,0,0,1,1,1,0,1,0,0,0]) [.seq (at_ ec [1,1,0,1,0,0,1,1,0,0,1,1,1,0,1,0,0,1]),.loop (at_ ec [1,1,0,1,0,0,1,1,0,0,1,1,1,0,1,0,0]),.block 2,.seq (at_ ec [1,1,0,1,0,0,1,1,0,0,1,1,1,1]),.block 1,.seq (at_ ec [1,1,0,1,0,0,1,1,1]),.loop (at_ ec [1,1,0,1,0,0]),.block 0,.seq (at_ ec [1,1,1])] {slots:=[.val (.slice 54 ap) x0,.undef,.ptr 0 bg [],.ptr 1 bg [],.undef,.undef,.row 2,.undef,.row 3,.row 4,.undef,.undef,.undef,.undef,.val (.slice 54 ap) x1,.val (.int .i64) x2,.val (.int .i64) x3,.undef,.undef,.undef,.undef,.undef,.undef,.undef,.undef,.undef,.undef,.undef,.undef,.val (.slice 54 ap) x4,.val (.int .i64) x5,.val (.int .i64) x6]++unU 27,res:=[(0,.box bg (.strct [.row 5,.row 6,.row 7])),(1,.box bg (.strct [.val (.slice 54 ap) x7,.row 8,.row 9])),(2,.row 163 ai x8 false),(3,.row 130 bp x9 false),(4,.row 3 (.int .i64) x10 false),(5,.row 54 ap x11 false),(6,.row 110 (.slice 163 ai) x12 false),(7,.row 133 (.slice 3 (.int .i64)) x13 false),(8,.row 110 (.slice 163 ai) x14 false),(9,.row 133 (.slice 3 (.int .i64)) x15 false)],nx:=10,n0:=0}
noncomputable def bE (x0:Int) (x1:(List Int)) (x2:Int) (x3:Int) (x4:jZ) (x5:(List Bool)) (x6:(List ac)):Option (Unit×((List Bool)×(jZ×((List ac)×Unit)))):=pt E (aB E) cK (aM E cK [(0,.box (.slice 4 .bool) (.undef)),(1,.box bg (.undef)),(2,.box (.slice 65 ae) (.undef)),(3,.keepF 108 []),(4,.row 4 .bool [] false),(5,.row 65 ae [] false)]) (at_ bO [1,1,0,1,1,1,1,0,1,0,0,0]) [.seq (at_ bO [1,1,0,1,1,1,1,0,1,0,0,1]),.loop (at_ bO [1,1,0,1,1,1,1,0,1,0,0]),.block 1,.seq (at_ bO [1,1,0,1,1,1,1,1]),.block 0] {slots:=[.val (.int .i64) x0,.undef,.ptr 1 bg [],.ptr 2 (.slice 65 ae) [],.ptr 3 .fn [],.undef,.undef,.undef,.undef,.undef,.undef,.undef,.undef,.undef,.undef,.undef,.undef,.undef,.undef,.val (.slice 3 (.int .i64)) x1,.val (.int .i64) x2,.val (.int .i64) x3]++unU 49,res:=[(0,.box (.slice 4 .bool) (.row 6)),(1,.box bg (.val bg x4)),(2,.box (.slice 65 ae) (.row 7)),(3,.keepF 108 [.ptr 0 (.slice 4 .bool) [],.ptr 1 bg [],.ptr 2 (.slice 65 ae) [],.ptr 3 .fn []]),(6,.row 4 .bool x5 false),(7,.row 65 ae x6 false)],nx:=8,n0:=6}
noncomputable def g7 (x0:(List aa)) (x1:(List ac)) (x2:Int) (x3:(List Int)) (x4:Int) (x5:Int) (x6:(List ac)) (x7:Int) (x8:Int) (x9:(List ab)):Option (((List ab)×Unit)×Unit):=pt E (aB E) ku (aM E ku []) (at_ eO [1,1,0,1,0,0,1,1,0,0,1,1,1,0,0,0]) [.seq (at_ eO [1,1,0,1,0,0,1,1,0,0,1,1,1,0,0,1]),.loop (at_ eO [1,1,0,1,0,0,1,1,0,0,1,1,1,0,0]),.block 2,.block 1,.seq (at_ eO [1,1,0,1,0,0,1,1,1]),.loop (at_ eO [1,1,0,1,0,0]),.block 0,.seq (at_ eO [1,1,1])] {slots:=[.val (.slice 163 ai) x0,.undef,.val (.slice 65 ae) x1,.undef,.undef,.undef,.undef,.row 0,.undef,.val (.int .i64) x2,.undef,.undef,.undef,.undef,.val (.slice 2 (.int .i64)) x3,.val (.int .i64) x4,.val (.int .i64) x5,.undef,.undef,.undef,.undef,.undef,.undef,.undef,.undef,.undef,.undef,.undef,.undef,.undef,.undef,.undef,.undef,.val (.slice 65 ae) x6,.val (.int .i64) x7,.val (.int .i64) x8]++unU 19,res:=[(0,.row 49 ag x9 false)],nx:=1,n0:=0}
noncomputable def ji (x0:Int) (x1:Int) (x2:(List ac)) (x3:(List aj)) (x4:(List (List aa))) (x5:(List (List Int))) (x6:(List Bool)):Option (((List ac)×Unit)×Unit):=pt E (aB E) dV (aM E dV []) (at_ cn [1,1,1,1,1,0,1,0,0,0]) [.seq (at_ cn [1,1,1,1,1,0,1,0,0,1]),.loop (at_ cn [1,1,1,1,1,0,1,0,0]),.block 2,.seq (at_ cn [1,1,1,1,1,1])] {slots:=[.undef,.undef,.undef,.undef,.undef,.undef,.undef,.undef,.ptr 0 (.slice 65 ae) [],.undef,.undef,.ptr 1 .fn [],.undef,.undef,.undef,.undef,.undef,.undef,.undef,.undef,.undef,.undef,.undef,.undef,.undef,.undef,.undef,.undef,.undef,.undef,.undef,.undef,.undef,.undef,.undef,.undef,.undef,.undef,.undef,.undef,.val (.int .i64) x0,.val (.int .i64) x1]++unU 7,res:=[(0,.box (.slice 65 ae) (.row 2)),(1,.keepF 108 [.ptr 3 (.slice 4 .bool) [],.ptr 4 bg [],.ptr 0 (.slice 65 ae) [],.ptr 1 .fn []]),(2,.row 65 ae x2 false),(3,.box (.slice 4 .bool) (.row 5)),(4,.box bg (.strct [.val (.slice 54 ap) x3,.val (.slice 110 (.slice 163 ai)) x4,.val (.slice 133 (.slice 3 (.int .i64))) x5])),(5,.row 4 .bool x6 false)],nx:=6,n0:=0}
noncomputable def fe (x0:(List aj)) (x1:Bool) (x2:Int) (x3:(List al)):Option (((List al)×Unit)×Unit):=pt E (aB E) c7 (aM E c7 []) (at_ aI [1,1,0,1,0,0,1,0,1,1,0,0,0,0]) [.seq (at_ aI [1,1,0,1,0,0,1,0,1,1,0,0,0,1]),.seq (at_ aI [1,1,0,1,0,0,1,0,1,1,0,0,1]),.loop (at_ aI [1,1,0,1,0,0,1,0,1,1,0,0]),.block 2,.block 1,.loop (at_ aI [1,1,0,1,0,0]),.block 0,.seq (at_ aI [1,1,1])] {slots:=[.val (.slice 54 ap) x0,.undef,.undef,.undef,.undef,.row 0,.val .bool x1,.val (.int .i64) x2]++unU 85,res:=[(0,.row 52 ao x3 false)],nx:=1,n0:=0}
noncomputable def gG (x0:(List aj)) (x1:Int) (x2:(List al)) (x3:(List al)):Option (((List al)×Unit)×Unit):=pt E (aB E) c7 (aM E c7 []) (at_ aI [1,1,1,1,0,1,0,0,0,0]) [.seq (at_ aI [1,1,1,1,0,1,0,0,0,1]),.seq (at_ aI [1,1,1,1,0,1,0,0,1]),.loop (at_ aI [1,1,1,1,0,1,0,0]),.block 8,.seq (at_ aI [1,1,1,1,1])] {slots:=[.val (.slice 54 ap) x0,.undef,.undef,.undef,.undef,.row 0,.undef,.undef,.undef,.undef,.undef,.undef,.row 1,.val (.int .i64) x1]++unU 79,res:=[(0,.row 52 ao x2 false),(1,.row 52 ao x3 false)],nx:=2,n0:=0}
noncomputable def bn (x0:(List al)) (x1:Int) (x2:Int) (x3:(List aJ)):Option ((Int×Unit)×((List aJ)×Unit)):=pt E (aB E) dg (aM E dg [(0,.box (.slice 130 bp) (.undef)),(1,.row 130 bp [] false)]) (at_ ci [1,0,1,0,0,0]) [.seq (at_ ci [1,0,1,0,0,1]),.loop (at_ ci [1,0,1,0,0]),.block 0,.seq (at_ ci [1,1])] {slots:=[.val (.slice 52 ao) x0,.fn 104 [.ptr 0 (.slice 130 bp) []],.undef,.undef,.undef,.undef,.undef,.val (.int .i64) x1,.val (.int .i64) x2]++unU 10,res:=[(0,.box (.slice 130 bp) (.row 2)),(2,.row 130 bp x3 false)],nx:=3,n0:=2}
noncomputable def aZ (x0:(List Int)) (x1:Int) (x2:Int) (x3:(List Bool)):Option ((Int×Unit)×((List Bool)×Unit)):=pt E (aB E) ck (aM E ck [(0,.box (.slice 4 .bool) (.undef)),(1,.row 4 .bool [] false)]) (at_ bD [1,0,1,0,0,0]) [.seq (at_ bD [1,0,1,0,0,1]),.loop (at_ bD [1,0,1,0,0]),.block 0,.seq (at_ bD [1,1])] {slots:=[.val (.slice 3 (.int .i64)) x0,.fn 106 [.ptr 0 (.slice 4 .bool) []],.undef,.undef,.undef,.undef,.undef,.val (.int .i64) x1,.val (.int .i64) x2]++unU 10,res:=[(0,.box (.slice 4 .bool) (.row 2)),(2,.row 4 .bool x3 false)],nx:=3,n0:=2}
noncomputable def e8 (x0:Bool) (x1:(List aj)) (x2:(List (List aa))) (x3:(List (List Int))) (x4:(List Bool)):Option (((List Bool)×Unit)×Unit):=pt E (aB E) dA (aM E dA []) (at_ bK [1,1,1,0,1,0,0,0,0]) [.seq (at_ bK [1,1,1,0,1,0,0,0,1]),.seq (at_ bK [1,1,1,0,1,0,0,1]),.loop (at_ bK [1,1,1,0,1,0,0]),.block 2,.seq (at_ bK [1,1,1,1])] {slots:=[.undef,.undef,.ptr 0 bg [],.undef,.undef,.ptr 1 (.slice 4 .bool) [],.undef,.undef,.undef,.val .bool x0]++unU 57,res:=[(0,.box bg (.strct [.val (.slice 54 ap) x1,.val (.slice 110 (.slice 163 ai)) x2,.val (.slice 133 (.slice 3 (.int .i64))) x3])),(1,.box (.slice 4 .bool) (.row 2)),(2,.row 4 .bool x4 false)],nx:=3,n0:=0}
noncomputable def gw (x0:(List aj)) (x1:Int) (x2:(List ac)) (x3:(List al)) (x4:(List al)):Option (((List ac)×Unit)×Unit):=pt E (aB E) dU (aM E dU []) (at_ aK [1,1,1,1,0,0,0,1,0,1,0,1,0,0,0,0]) [.seq (at_ aK [1,1,1,1,0,0,0,1,0,1,0,1,0,0,0,1]),.seq (at_ aK [1,1,1,1,0,0,0,1,0,1,0,1,0,0,1]),.loop (at_ aK [1,1,1,1,0,0,0,1,0,1,0,1,0,0]),.block 4,.seq (at_ aK [1,1,1,1,0,0,0,1,0,1,1]),.block 3,.loop (at_ aK [1,1,1,1,0,0,0]),.block 2,.seq (at_ aK [1,1,1,1,1])] {slots:=[.val (.slice 54 ap) x0,.undef,.undef,.undef,.undef,.undef,.undef,.row 0,.row 1,.undef,.row 2,.val (.int .i64) x1]++unU 134,res:=[(0,.row 65 ae x2 false),(1,.row 52 ao x3 false),(2,.row 52 ao x4 false)],nx:=3,n0:=0}
noncomputable def fL (x0:Int) (x1:Int) (x2:(List ac)) (x3:jZ) (x4:(List Bool)):Option (((List ac)×Unit)×Unit):=pt E (aB E) dV (aM E dV []) (at_ cn [1,1,1,1,1,0,1,0,0,0]) [.seq (at_ cn [1,1,1,1,1,0,1,0,0,1]),.loop (at_ cn [1,1,1,1,1,0,1,0,0]),.block 2,.seq (at_ cn [1,1,1,1,1,1])] {slots:=[.undef,.undef,.undef,.undef,.undef,.undef,.undef,.undef,.ptr 0 (.slice 65 ae) [],.undef,.undef,.ptr 1 .fn [],.undef,.undef,.undef,.undef,.undef,.undef,.undef,.undef,.undef,.undef,.undef,.undef,.undef,.undef,.undef,.undef,.undef,.undef,.undef,.undef,.undef,.undef,.undef,.undef,.undef,.undef,.undef,.undef,.val (.int .i64) x0,.val (.int .i64) x1]++unU 7,res:=[(0,.box (.slice 65 ae) (.row 2)),(1,.keepF 108 [.ptr 3 (.slice 4 .bool) [],.ptr 4 bg [],.ptr 0 (.slice 65 ae) [],.ptr 1 .fn []]),(2,.row 65 ae x2 false),(3,.box (.slice 4 .bool) (.row 5)),(4,.box bg (.val bg x3)),(5,.row 4 .bool x4 false)],nx:=6,n0:=0}
noncomputable def gH (x0:(List aj)) (x1:Bool) (x2:Int) (x3:Bool) (x4:Int) (x5:(List al)) (x6:(List aJ)):Option (((List al)×Unit)×Unit):=pt E (aB E) c7 (aM E c7 []) (at_ aI [1,1,0,1,0,0,1,0,1,1,0,0,1,0,0,1,1,1,0,1,0,0,0,0]) [.seq (at_ aI [1,1,0,1,0,0,1,0,1,1,0,0,1,0,0,1,1,1,0,1,0,0,0,1]),.seq (at_ aI [1,1,0,1,0,0,1,0,1,1,0,0,1,0,0,1,1,1,0,1,0,0,1]),.loop (at_ aI [1,1,0,1,0,0,1,0,1,1,0,0,1,0,0,1,1,1,0,1,0,0]),.block 4,.seq (at_ aI [1,1,0,1,0,0,1,0,1,1,0,0,1,0,0,1,1,1,1]),.block 3,.seq (at_ aI [1,1,0,1,0,0,1,0,1,1,0,0,1,1]),.loop (at_ aI [1,1,0,1,0,0,1,0,1,1,0,0]),.block 2,.block 1,.loop (at_ aI [1,1,0,1,0,0]),.block 0,.seq (at_ aI [1,1,1])] {slots:=[.val (.slice 54 ap) x0,.undef,.undef,.undef,.undef,.row 0,.val .bool x1,.val (.int .i64) x2,.row 1,.val .bool x3,.val (.int .i64) x4]++unU 82,res:=[(0,.row 52 ao x5 false),(1,.row 130 bp x6 false)],nx:=2,n0:=0}
noncomputable def eK (x0:Bool) (x1:(List (List Int))) (x2:Int) (x3:Int) (x4:(List aj)) (x5:(List (List aa))) (x6:(List (List Int))) (x7:(List Bool)):Option (((List Bool)×Unit)×Unit):=pt E (aB E) dA (aM E dA []) (at_ bK [1,1,1,0,1,0,0,1,0,1,1,0,0,0]) [.seq (at_ bK [1,1,1,0,1,0,0,1,0,1,1,0,0,1]),.loop (at_ bK [1,1,1,0,1,0,0,1,0,1,1,0,0]),.block 4,.block 3,.loop (at_ bK [1,1,1,0,1,0,0]),.block 2,.seq (at_ bK [1,1,1,1])] {slots:=[.undef,.undef,.ptr 0 bg [],.undef,.undef,.ptr 1 (.slice 4 .bool) [],.undef,.undef,.undef,.val .bool x0,.undef,.undef,.undef,.undef,.undef,.undef,.undef,.undef,.undef,.undef,.undef,.undef,.undef,.undef,.undef,.undef,.undef,.undef,.undef,.undef,.undef,.undef,.undef,.undef,.undef,.undef,.undef,.undef,.undef,.undef,.undef,.undef,.undef,.undef,.undef,.val (.slice 133 (.slice 3 (.int .i64))) x1,.val (.int .i64) x2,.val (.int .i64) x3]++unU 19,res:=[(0,.box bg (.strct [.val (.slice 54 ap) x4,.val (.slice 110 (.slice 163 ai)) x5,.val (.slice 133 (.slice 3 (.int .i64))) x6])),(1,.box (.slice 4 .bool) (.row 2)),(2,.row 4 .bool x7 false)],nx:=3,n0:=0}
noncomputable def qV (x0:(List aj)) (x1:Int) (x2:Bool) (x3:Int) (x4:(List ac)) (x5:(List al)) (x6:(List al)) (x7:(List aa)) (x8:Int) (x9:Int) (x10:ByteArray) (x11:(List al)):Option (((List ac)×Unit)×Unit):=pt E (aB E) dU (aM E dU []) (at_ aK [1,1,1,1,0,0,0,1,0,1,0,1,0,0,1,0,0,1,1,1,0,1,0,1,1,0,1,1,0,1,0,0,0,0]) [.seq (at_ aK [1,1,1,1,0,0,0,1,0,1,0,1,0,0,1,0,0,1,1,1,0,1,0,1,1,0,1,1,0,1,0,0,0,1]),.seq (at_ aK [1,1,1,1,0,0,0,1,0,1,0,1,0,0,1,0,0,1,1,1,0,1,0,1,1,0,1,1,0,1,0,0,1]),.loop (at_ aK [1,1,1,1,0,0,0,1,0,1,0,1,0,0,1,0,0,1,1,1,0,1,0,1,1,0,1,1,0,1,0,0]),.block 6,.seq (at_ aK [1,1,1,1,0,0,0,1,0,1,0,1,0,0,1,0,0,1,1,1,0,1,0,1,1,0,1,1,1]),.seq (at_ aK [1,1,1,1,0,0,0,1,0,1,0,1,0,0,1,0,0,1,1,1,1]),.block 5,.seq (at_ aK [1,1,1,1,0,0,0,1,0,1,0,1,0,0,1,1]),.loop (at_ aK [1,1,1,1,0,0,0,1,0,1,0,1,0,0]),.block 4,.seq (at_ aK [1,1,1,1,0,0,0,1,0,1,1]),.block 3,.loop (at_ aK [1,1,1,1,0,0,0]),.block 2,.seq (at_ aK [1,1,1,1,1])] {slots:=[.val (.slice 54 ap) x0,.undef,.undef,.undef,.undef,.undef,.undef,.row 0,.row 1,.undef,.row 2,.val (.int .i64) x1,.undef,.row 3,.undef,.ptr 4 ag [],.undef,.row 5,.val .bool x2,.val (.int .i64) x3]++unU 126,res:=[(0,.row 65 ae x4 false),(1,.row 52 ao x5 false),(2,.row 52 ao x6 false),(3,.row 163 ai x7 false),(4,.box ag (.strct [.val (.int .i64) x8,.val (.int .i64) x9,.val .str x10])),(5,.row 52 ao x11 false)],nx:=6,n0:=0}
noncomputable def jv (x0:(List aj)) (x1:Bool) (x2:Int) (x3:Bool) (x4:Int) (x5:Int) (x6:(List al)) (x7:(List aJ)):Option (((List al)×Unit)×Unit):=pt E (aB E) c7 (aM E c7 []) (at_ aI [1,1,0,1,0,0,1,0,1,1,0,0,1,0,0,1,1,1,0,1,0,0,1,0,0,1,0,0,0,0]) [.seq (at_ aI [1,1,0,1,0,0,1,0,1,1,0,0,1,0,0,1,1,1,0,1,0,0,1,0,0,1,0,0,0,1]),.seq (at_ aI [1,1,0,1,0,0,1,0,1,1,0,0,1,0,0,1,1,1,0,1,0,0,1,0,0,1,0,0,1]),.loop (at_ aI [1,1,0,1,0,0,1,0,1,1,0,0,1,0,0,1,1,1,0,1,0,0,1,0,0,1,0,0]),.block 6,.block 5,.seq (at_ aI [1,1,0,1,0,0,1,0,1,1,0,0,1,0,0,1,1,1,0,1,0,0,1,1]),.loop (at_ aI [1,1,0,1,0,0,1,0,1,1,0,0,1,0,0,1,1,1,0,1,0,0]),.block 4,.seq (at_ aI [1,1,0,1,0,0,1,0,1,1,0,0,1,0,0,1,1,1,1]),.block 3,.seq (at_ aI [1,1,0,1,0,0,1,0,1,1,0,0,1,1]),.loop (at_ aI [1,1,0,1,0,0,1,0,1,1,0,0]),.block 2,.block 1,.loop (at_ aI [1,1,0,1,0,0]),.block 0,.seq (at_ aI [1,1,1])] {slots:=[.val (.slice 54 ap) x0,.undef,.undef,.undef,.undef,.row 0,.val .bool x1,.val (.int .i64) x2,.row 1,.val .bool x3,.val (.int .i64) x4,.val (.int .i64) x5]++unU 81,res:=[(0,.row 52 ao x6 false),(1,.row 130 bp x7 false)],nx:=2,n0:=0}
noncomputable def eV (x0:(List aj)) (x1:Int) (x2:Bool) (x3:Int) (x4:(List ac)) (x5:(List al)) (x6:(List al)) (x7:(List aa)) (x8:Int) (x9:Int) (x10:ByteArray) (x11:(List al)):Option (((List ac)×Unit)×Unit):=pt E (aB E) dU (aM E dU []) (at_ aK [1,1,1,1,0,0,0,1,0,1,0,1,0,0,1,0,0,1,1,1,0,1,0,1,1,0,1,1,0,1,0,0,0,0]) [.seq (at_ aK [1,1,1,1,0,0,0,1,0,1,0,1,0,0,1,0,0,1,1,1,0,1,0,1,1,0,1,1,0,1,0,0,0,1]),.seq (at_ aK [1,1,1,1,0,0,0,1,0,1,0,1,0,0,1,0,0,1,1,1,0,1,0,1,1,0,1,1,0,1,0,0,1]),.loop (at_ aK [1,1,1,1,0,0,0,1,0,1,0,1,0,0,1,0,0,1,1,1,0,1,0,1,1,0,1,1,0,1,0,0]),.block 6,.seq (at_ aK [1,1,1,1,0,0,0,1,0,1,0,1,0,0,1,0,0,1,1,1,0,1,0,1,1,0,1,1,1]),.seq (at_ aK [1,1,1,1,0,0,0,1,0,1,0,1,0,0,1,0,0,1,1,1,1]),.block 5,.seq (at_ aK [1,1,1,1,0,0,0,1,0,1,0,1,0,0,1,1]),.loop (at_ aK [1,1,1,1,0,0,0,1,0,1,0,1,0,0]),.block 4,.seq (at_ aK [1,1,1,1,0,0,0,1,0,1,1]),.block 3,.loop (at_ aK [1,1,1,1,0,0,0]),.block 2,.seq (at_ aK [1,1,1,1,1])] {slots:=[.val (.slice 54 ap) x0,.undef,.undef,.undef,.undef,.undef,.undef,.row 0,.row 1,.undef,.row 2,.val (.int .i64) x1,.undef,.row 3,.undef,.ptr 4 ag [],.undef,.row 5,.val .bool x2,.val (.int .i64) x3]++unU 126,res:=[(0,.row 65 ae x4 false),(1,.row 52 ao x5 true),(2,.row 52 ao x6 false),(3,.row 163 ai x7 false),(4,.box ag (.strct [.val (.int .i64) x8,.val (.int .i64) x9,.val .str x10])),(5,.row 52 ao x11 false)],nx:=6,n0:=0}
noncomputable def ed (x0:(List aj)) (x1:Int) (x2:(List ac)) (x3:(List al)) (x4:(List al)):Option (((List ac)×Unit)×Unit):=pt E (aB E) dU (aM E dU []) (at_ aK [1,1,1,1,0,0,0,1,0,1,0,1,0,0,0,0]) [.seq (at_ aK [1,1,1,1,0,0,0,1,0,1,0,1,0,0,0,1]),.seq (at_ aK [1,1,1,1,0,0,0,1,0,1,0,1,0,0,1]),.loop (at_ aK [1,1,1,1,0,0,0,1,0,1,0,1,0,0]),.block 4,.seq (at_ aK [1,1,1,1,0,0,0,1,0,1,1]),.block 3,.loop (at_ aK [1,1,1,1,0,0,0]),.block 2,.seq (at_ aK [1,1,1,1,1])] {slots:=[.val (.slice 54 ap) x0,.undef,.undef,.undef,.undef,.undef,.undef,.row 0,.row 1,.undef,.row 2,.val (.int .i64) x1]++unU 134,res:=[(0,.row 65 ae x2 false),(1,.row 52 ao x3 true),(2,.row 52 ao x4 false)],nx:=3,n0:=0}
end Go.Proofs.YtnodjiikdgmeaaaGreatDoor.Abs
