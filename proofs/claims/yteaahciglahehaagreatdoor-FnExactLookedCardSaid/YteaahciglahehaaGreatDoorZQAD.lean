/- What the functions are, as the reader reads them. Printed by out.py. -/
import Derived.Test.YteaahciglahehaaGreatDoorZA3
import Derived.Test.YteaahciglahehaaGreatDoorProg
set_option linter.unusedVariables false
set_option linter.unusedSimpArgs false
set_option maxRecDepth 100000
namespace Go.Proofs.YteaahciglahehaaGreatDoor.Abs
open Go Go.Proofs.YteaahciglahehaaGreatDoor
noncomputable section
abbrev WO:TypeId:=9
abbrev ap:Ty := .agg (.pair (.int .i64) (.pair (.int .i64) .unit))
abbrev ao:=Int×Int×Unit
abbrev aj:Ty := .agg (.pair ap (.pair .str .unit))
abbrev ae:=ao×ByteArray×Unit
abbrev aG:Ty := .agg (.pair (.int .i64) (.pair ap (.pair .str (.pair (.int .i64) .unit))))
abbrev aV:=Int×ao×ByteArray×Int×Unit
abbrev au:Ty := .agg (.pair ap (.pair ap .unit))
abbrev ag:=ao×ao×Unit
abbrev aZ:Ty := .agg (.pair (.slice 59 aj) (.pair (.int .i64) (.pair (.int .i64) (.pair (.int .i64) (.pair (.slice 75 au) (.pair (.slice 57 ap) .unit))))))
abbrev ew:=(List ae)×Int×Int×Int×(List ag)×(List ao)×Unit
abbrev b8:Ty := .agg (.pair (.slice 59 aj) (.pair (.slice 75 au) (.pair (.slice 57 ap) .unit)))
abbrev am:Ty := .agg (.pair (.int .i64) (.pair (.int .i64) (.pair .str .unit)))
abbrev ab:=Int×Int×ByteArray×Unit
abbrev bI:Ty := .agg (.pair ap (.pair .bool (.pair .bool .unit)))
abbrev cb:=ao×Bool×Bool×Unit
abbrev an:Ty := .agg (.pair (.int .i64) (.pair (.int .i64) (.pair am (.pair bI (.pair bI (.pair (.slice 2 (.int .i64)) .unit))))))
abbrev aa:=Int×Int×ab×cb×cb×(List Int)×Unit
abbrev aq:Ty := .agg (.pair ap (.pair am .unit))
abbrev ah:=ao×ab×Unit
abbrev be:Ty := .agg (.pair .str (.pair (.int .i64) (.pair .bool (.pair (.slice 156 an) .unit))))
abbrev lf:=ByteArray×Int×Bool×(List aa)×Unit
abbrev bm:Ty := .agg (.pair .str (.pair (.slice 156 an) (.pair .bool .unit)))
abbrev rM:=ByteArray×(List aa)×Bool×Unit
abbrev bK:Ty := .agg (.pair (.slice 59 aj) (.pair (.slice 103 (.slice 156 an)) (.pair (.slice 171 (.slice 3 (.int .i64))) .unit)))
abbrev l5:=(List ae)×(List (List aa))×(List (List Int))×Unit
def l6:av:={g:=3,fn:=Tryz.f3,sh:=(.pair (.val .bool) .unit),bx := .unit,own:=[],live:=[]}
def oX:av:={g:=4,fn:=Tryz.f4,sh:=(.pair (.val .bool) .unit),bx := .unit,own:=[],live:=[]}
def uh:av:={g:=5,fn:=Tryz.f5,sh:=(.pair (.val (.int .i64)) .unit),bx := .unit,own:=[],live:=[(5,[0,1,5])]}
def ui:av:={g:=6,fn:=Tryz.f6,sh:=(.pair (.val (.int .i64)) .unit),bx := .unit,own:=[],live:=[(5,[0,1,5])]}
def EP:av:={g:=7,fn:=Tryz.f7,sh:=(.pair (.val (.slice 59 aj)) (.pair (.val (.int .i64)) (.pair (.val (.int .i64)) .unit))),bx := .unit,own:=[],live:=[]}
def uj:av:={g:=8,fn:=Tryz.f8,sh:=(.pair (.row 59 aj false) .unit),bx := .unit,own:=[],live:=[(3,[0,3,4])]}
def uk:av:={g:=9,fn:=Tryz.f9,sh:=(.pair (.row 62 aG false) .unit),bx := .unit,own:=[],live:=[(3,[0,3,4])]}
def EQ:av:={g:=10,fn:=Tryz.f10,sh:=(.pair (.row 59 aj false) (.pair (.val (.int .i64)) (.pair (.val (.int .i64)) .unit))),bx := .unit,own:=[],live:=[]}
def ul:av:={g:=11,fn:=Tryz.f11,sh:=(.pair (.val .bool) .unit),bx := .unit,own:=[],live:=[(4,[0,1,5])]}
def um:av:={g:=12,fn:=Tryz.f12,sh:=(.pair (.val .bool) .unit),bx := .unit,own:=[],live:=[(4,[0,1,5])]}
def qi:av:={g:=13,fn:=Tryz.f13,sh:=(.pair (.val (.int .i64)) .unit),bx:=(.pair (.row 59 aj false) .unit),own:=[true,false],live:=[(2,[0,1,5])],rb:=true}
def qj:av:={g:=14,fn:=Tryz.f14,sh:=(.pair (.val (.int .i64)) .unit),bx:=(.pair (.row 62 aG false) .unit),own:=[true,false],live:=[(2,[0,1,5])],rb:=true}
def qk:av:={g:=15,fn:=Tryz.f15,sh:=(.pair (.val (.int .i64)) .unit),bx := .unit,own:=[],live:=[(2,[0,1,5])]}
def J5:av:={g:=16,fn:=Tryz.f16,sh:=(.pair (.val (.slice 75 au)) (.pair (.val (.slice 57 ap)) .unit)),bx := .unit,own:=[],live:=[]}
def J6:av:={g:=17,fn:=Tryz.f17,sh:=(.pair (.row 75 au false) (.pair (.row 57 ap false) .unit)),bx := .unit,own:=[],live:=[]}
def uo:av:={g:=18,fn:=Tryz.f18,sh:=(.pair (.val .bool) .unit),bx := .unit,own:=[],live:=[(4,[0,1,5])]}
def wX:av:={g:=19,fn:=Tryz.f19,sh:=(.pair (.val .bool) .unit),bx := .unit,own:=[],live:=[(4,[0,1,5])]}
def ql:av:={g:=20,fn:=Tryz.f20,sh:=(.pair (.val (.int .i64)) .unit),bx:=(.pair (.row 75 au false) .unit),own:=[true,false],live:=[(2,[0,1,5])],rb:=true}
def sC:av:={g:=21,fn:=Tryz.f21,sh:=(.pair (.val (.int .i64)) .unit),bx:=(.pair (.row 57 ap false) .unit),own:=[true,false],live:=[(2,[0,1,5])],rb:=true}
def qm:av:={g:=22,fn:=Tryz.f22,sh:=(.pair (.val (.int .i64)) .unit),bx := .unit,own:=[],live:=[(2,[0,1,5])]}
def sD:av:={g:=23,fn:=Tryz.f23,sh:=(.pair (.val (.int .i64)) .unit),bx := .unit,own:=[],live:=[(2,[0,1,5])]}
def J7:av:={g:=24,fn:=Tryz.f24,sh:=(.pair (.val (.int .i64)) .unit),bx := .unit,own:=[],live:=[]}
def J8:av:={g:=25,fn:=Tryz.f25,sh:=(.pair (.val (.int .i64)) .unit),bx := .unit,own:=[],live:=[]}
def MI:av:={g:=26,fn:=Tryz.f26,sh:=(.pair (.val (.int .i64)) .unit),bx := .unit,own:=[],live:=[]}
def pz:av:={g:=27,fn:=Tryz.f27,sh:=(.pair (.val aZ) .unit),bx := .unit,own:=[],live:=[(2,[1,2,6,7])]}
def J9:av:={g:=28,fn:=Tryz.f28,sh:=(.pair (.val aj) .unit),bx := .unit,own:=[],live:=[]}
def Ka:av:={g:=29,fn:=Tryz.f29,sh:=(.pair (.val aG) .unit),bx := .unit,own:=[],live:=[]}
def GV:av:={g:=30,fn:=Tryz.f30,sh:=(.pair (.val (.int .i64)) .unit),bx := .unit,own:=[],live:=[]}
def fN:av:={g:=31,fn:=Tryz.f31,sh:=(.pair (.row 59 aj false) .unit),bx := .unit,own:=[],live:=[],prim:=some (dd 59 aj 32)}
def ip:av:={g:=32,fn:=Tryz.f32,sh:=(.pair (.val (.int .i64)) (.pair (.val (.int .i64)) .unit)),bx:=(.pair (.strct (.pair (.row 59 aj false) (.pair (.row 75 au false) (.pair (.row 57 ap false) .unit)))) .unit),own:=[],live:=[(3,[0,1,2,8,9])]}
def Kb:av:={g:=33,fn:=Tryz.f33,sh:=(.pair (.val .bool) .unit),bx := .unit,own:=[],live:=[]}
def Kc:av:={g:=34,fn:=Tryz.f34,sh:=(.pair (.val .bool) .unit),bx := .unit,own:=[],live:=[]}
def sE:av:={g:=35,fn:=Tryz.f35,sh:=(.pair (.val .str) .unit),bx := .unit,own:=[],live:=[(4,[0,3])]}
def Kd:av:={g:=36,fn:=Tryz.f36,sh:=(.pair (.val .bool) .unit),bx := .unit,own:=[],live:=[]}
def MJ:av:={g:=37,fn:=Tryz.f37,sh:=(.pair (.val .bool) .unit),bx := .unit,own:=[],live:=[]}
def up:av:={g:=38,fn:=Tryz.f38,sh:=(.pair (.val .bool) .unit),bx := .unit,own:=[],live:=[(4,[0,3])]}
def uq:av:={g:=39,fn:=Tryz.f39,sh:=(.pair (.val .bool) .unit),bx := .unit,own:=[],live:=[(4,[0,3])]}
def QP:av:={g:=40,fn:=Tryz.f40,sh:=(.pair (.val .bool) .unit),bx := .unit,own:=[],live:=[]}
def Ke:av:={g:=41,fn:=Tryz.f41,sh:=(.pair (.val aZ) .unit),bx := .unit,own:=[],live:=[]}
def bU:av:={g:=42,fn:=Tryz.f42,sh:=(.pair (.val aZ) .unit),bx := .unit,own:=[],live:=[(3,[2,4,5,6]),(7,[2,4,5,6,7,8]),(13,[2,4,5,6,9]),(18,[2,4,5,6,9,10,11]),(22,[2,4,5,6,9,10,11,12,13])]}
def ER:av:={g:=43,fn:=Tryz.f43,sh:=(.pair (.val am) .unit),bx := .unit,own:=[],live:=[]}
def Kf:av:={g:=44,fn:=Tryz.f44,sh:=(.pair (.val .bool) (.pair (.val am) .unit)),bx := .unit,own:=[],live:=[]}
def CK:av:={g:=45,fn:=Tryz.f45,sh:=(.pair (.val .str) .unit),bx := .unit,own:=[],live:=[]}
def Kg:av:={g:=46,fn:=Tryz.f46,sh:=(.pair (.val .str) .unit),bx := .unit,own:=[],live:=[]}
def MK:av:={g:=47,fn:=Tryz.f47,sh:=(.pair (.val ap) .unit),bx := .unit,own:=[],live:=[]}
def ur:av:={g:=48,fn:=Tryz.f48,sh:=(.pair (.val .bool) .unit),bx := .unit,own:=[],live:=[(2,[0,5,6,7])]}
def ut:av:={g:=49,fn:=Tryz.f49,sh:=(.pair (.val .bool) .unit),bx := .unit,own:=[],live:=[(2,[0,5,6,7])]}
def Kh:av:={g:=50,fn:=Tryz.f50,sh:=(.pair (.val .bool) .unit),bx := .unit,own:=[],live:=[]}
def wY:av:={g:=51,fn:=Tryz.f51,sh:=(.pair (.val am) .unit),bx:=(.pair (.strct (.pair (.row 59 aj false) (.pair (.row 75 au false) (.pair (.row 57 ap false) .unit)))) .unit),own:=[],live:=[]}
def GW:av:={g:=52,fn:=Tryz.f52,sh:=(.pair (.val .bool) (.pair (.val .bool) .unit)),bx := .unit,own:=[],live:=[]}
def CL:av:={g:=53,fn:=Tryz.f53,sh:=(.pair (.val .str) .unit),bx := .unit,own:=[],live:=[]}
def CM:av:={g:=54,fn:=Tryz.f54,sh:=(.pair (.val .str) .unit),bx := .unit,own:=[],live:=[]}
def zn:av:={g:=55,fn:=Tryz.f55,sh:=(.pair (.val .bool) .unit),bx:=(.pair (.strct (.pair (.row 59 aj false) (.pair (.row 75 au false) (.pair (.row 57 ap false) .unit)))) .unit),own:=[],live:=[]}
def GX:av:={g:=56,fn:=Tryz.f56,sh:=(.pair (.val .str) (.pair (.val .bool) .unit)),bx := .unit,own:=[],live:=[]}
def ML:av:={g:=57,fn:=Tryz.f57,sh:=(.pair (.val .bool) .unit),bx := .unit,own:=[],live:=[]}
def GY:av:={g:=58,fn:=Tryz.f58,sh:=(.pair (.val .bool) .unit),bx := .unit,own:=[],live:=[]}
def B0:av:={g:=59,fn:=Tryz.f59,sh:=(.pair (.val .bool) .unit),bx := .unit,own:=[],live:=[]}
def AW:av:={g:=60,fn:=Tryz.f60,sh:=(.pair (.row 59 aj false) .unit),bx := .unit,own:=[],live:=[(4,[0,2,4,7,8,9])]}
def AX:av:={g:=61,fn:=Tryz.f61,sh:=(.pair (.val .bool) .unit),bx := .unit,own:=[],live:=[(2,[0,3,5])]}
def GZ:av:={g:=62,fn:=Tryz.f62,sh:=(.pair (.row 75 au false) .unit),bx := .unit,own:=[],live:=[]}
def ES:av:={g:=63,fn:=Tryz.f63,sh:=(.pair (.val .bool) .unit),bx := .unit,own:=[],live:=[]}
def zo:av:={g:=64,fn:=Tryz.f64,sh:=(.pair (.row 156 an false) (.pair (.val .bool) .unit)),bx := .unit,own:=[],live:=[]}
def QQ:av:={g:=65,fn:=Tryz.f65,sh:=(.pair (.val am) .unit),bx := .unit,own:=[],live:=[]}
def AY:av:={g:=66,fn:=Tryz.f66,sh:=(.pair (.row 162 aq false) .unit),bx := .unit,own:=[],live:=[(3,[0,3,4])]}
def G0:av:={g:=67,fn:=Tryz.f67,sh:=(.pair (.val am) .unit),bx := .unit,own:=[],live:=[]}
def G1:av:={g:=68,fn:=Tryz.f68,sh:=(.pair (.val .bool) .unit),bx := .unit,own:=[],live:=[]}
def AZ:av:={g:=69,fn:=Tryz.f69,sh:=(.pair (.val .str) .unit),bx := .unit,own:=[],live:=[(4,[0,3])]}
def Ki:av:={g:=70,fn:=Tryz.f70,sh:=(.pair (.val .str) .unit),bx := .unit,own:=[],live:=[]}
def MM:av:={g:=71,fn:=Tryz.f71,sh:=(.pair (.val .bool) .unit),bx := .unit,own:=[],live:=[]}
def zp:av:={g:=72,fn:=Tryz.f72,sh:=(.pair (.val (.int .i64)) .unit),bx := .unit,own:=[],live:=[]}
def ET:av:={g:=73,fn:=Tryz.f73,sh:=(.pair (.val .bool) .unit),bx := .unit,own:=[],live:=[]}
def zq:av:={g:=74,fn:=Tryz.f74,sh:=(.pair (.val .bool) .unit),bx := .unit,own:=[],live:=[]}
def zr:av:={g:=75,fn:=Tryz.f75,sh:=(.pair (.row 156 an false) (.pair (.val .bool) .unit)),bx := .unit,own:=[],live:=[]}
def c8:av:={g:=76,fn:=Tryz.f76,sh := .unit,bx:=(.pair (.strct (.pair (.row 59 aj false) (.pair (.row 75 au false) (.pair (.row 57 ap false) .unit)))) .unit),own:=[],live:=[(4,[0,4,5,6]),(7,[0,4,5,6,28,29,30]),(14,[0,52,53,54])]}
def QR:av:={g:=77,fn:=Tryz.f77,sh:=(.pair (.val am) .unit),bx := .unit,own:=[],live:=[]}
def zt:av:={g:=78,fn:=Tryz.f78,sh:=(.pair (.row 162 aq false) .unit),bx := .unit,own:=[],live:=[]}
def G2:av:={g:=79,fn:=Tryz.f79,sh:=(.pair (.val .bool) .unit),bx := .unit,own:=[],live:=[]}
def CN:av:={g:=80,fn:=Tryz.f80,sh:=(.pair (.val .str) .unit),bx := .unit,own:=[],live:=[]}
def G3:av:={g:=81,fn:=Tryz.f81,sh:=(.pair (.row 59 aj false) .unit),bx := .unit,own:=[],live:=[]}
def pA:av:={g:=82,fn:=Tryz.f82,sh:=(.pair (.val .bool) .unit),bx := .unit,own:=[],live:=[]}
def uu:av:={g:=83,fn:=Tryz.f83,sh:=(.pair (.val .bool) .unit),bx := .unit,own:=[],live:=[(2,[0,3])]}
def zu:av:={g:=84,fn:=Tryz.f84,sh:=(.pair (.val .str) .unit),bx := .unit,own:=[],live:=[]}
def sF:av:={g:=85,fn:=Tryz.f85,sh:=(.pair (.val am) (.pair (.val .bool) .unit)),bx := .unit,own:=[],live:=[(6,[0,2,4])]}
def jX:av:={g:=86,fn:=Tryz.f86,sh:=(.pair (.val am) (.pair (.val .bool) .unit)),bx := .unit,own:=[],live:=[(23,[0,2,4,5]),(27,[2,4])]}
def CO:av:={g:=87,fn:=Tryz.f87,sh:=(.pair (.row 156 an false) (.pair (.val .bool) .unit)),bx := .unit,own:=[],live:=[]}
def uv:av:={g:=88,fn:=Tryz.f88,sh:=(.pair (.row 75 au false) .unit),bx := .unit,own:=[],live:=[(5,[0,3,4])]}
def sG:av:={g:=89,fn:=Tryz.f89,sh:=(.pair (.val (.int .i64)) .unit),bx:=(.pair (.strct (.pair (.val .str) (.pair (.val (.int .i64)) (.pair (.val .bool) (.pair (.row 156 an false) .unit))))) .unit),own:=[],live:=[(6,[0,1,5])]}
def mT:av:={g:=90,fn:=Tryz.f90,sh := .unit,bx:=(.pair (.strct (.pair (.val .str) (.pair (.val (.int .i64)) (.pair (.val .bool) (.pair (.row 156 an false) .unit))))) .unit),own:=[],live:=[(0,[0])]}
def jY:av:={g:=91,fn:=Tryz.f91,sh:=(.pair (.val .bool) .unit),bx := .unit,own:=[],live:=[(4,[0,3]),(9,[0,3,4])]}
def sH:av:={g:=92,fn:=Tryz.f92,sh:=(.pair (.val .bool) .unit),bx := .unit,own:=[],live:=[(4,[0,3])]}
def Kj:av:={g:=93,fn:=Tryz.f93,sh:=(.pair (.val am) .unit),bx := .unit,own:=[],live:=[]}
def MN:av:={g:=94,fn:=Tryz.f94,sh:=(.pair (.val am) .unit),bx := .unit,own:=[],live:=[]}
def en:av:={g:=95,fn:=Tryz.f95,sh:=(.pair (.row 162 aq false) .unit),bx := .unit,own:=[],live:=[(4,[0,1,2,7,8,9]),(9,[0,7,8]),(12,[0,7,8,10,11]),(23,[0,7,8,10,11,13,15,17,18,19])]}
def qn:av:={g:=96,fn:=Tryz.f96,sh:=(.pair (.val (.int .i64)) .unit),bx := .unit,own:=[],live:=[(3,[3,6,7,8])]}
def rl:av:={g:=97,fn:=Tryz.f97,sh:=(.pair (.val (.int .i64)) .unit),bx := .unit,own:=[],live:=[]}
def G4:av:={g:=98,fn:=Tryz.f98,sh:=(.pair (.val .str) (.pair (.val .bool) .unit)),bx := .unit,own:=[],live:=[]}
def CP:av:={g:=99,fn:=Tryz.f99,sh:=(.pair (.val .bool) .unit),bx := .unit,own:=[],live:=[]}
def wZ:av:={g:=100,fn:=Tryz.f100,sh:=(.pair (.val .bool) .unit),bx := .unit,own:=[],live:=[(2,[0,1,7,8])]}
def fW:av:={g:=101,fn:=Tryz.f101,sh:=(.pair (.val (.int .i64)) .unit),bx:=(.pair (.strct (.pair (.val .str) (.pair (.row 156 an false) (.pair (.val .bool) .unit)))) .unit),own:=[],live:=[(2,[0,1,2,7]),(5,[0,1,2,7,8,9])]}
def vw:av:={g:=102,fn:=Tryz.f102,sh := .unit,bx:=(.pair (.strct (.pair (.val .str) (.pair (.row 156 an false) (.pair (.val .bool) .unit)))) .unit),own:=[],live:=[]}
def CQ:av:={g:=103,fn:=Tryz.f103,sh:=(.pair (.val .bool) .unit),bx := .unit,own:=[],live:=[]}
def fq:av:={g:=104,fn:=Tryz.f104,sh := .unit,bx:=(.pair (.row 75 au false) .unit),own:=[],live:=[(1,[1,5,6,7])]}
def nU:av:={g:=105,fn:=Tryz.f105,sh:=(.pair (.val .bool) .unit),bx := .unit,own:=[],live:=[]}
def uw:av:={g:=106,fn:=Tryz.f106,sh:=(.pair (.row 75 au false) .unit),bx := .unit,own:=[],live:=[(3,[3,7,8,9])]}
def EU:av:={g:=107,fn:=Tryz.f107,sh:=(.pair (.val .bool) .unit),bx := .unit,own:=[],live:=[]}
def CR:av:={g:=108,fn:=Tryz.f108,sh:=(.pair (.row 156 an false) (.pair (.val .bool) .unit)),bx := .unit,own:=[],live:=[]}
def QS:av:={g:=109,fn:=Tryz.f109,sh:=(.pair (.val am) .unit),bx := .unit,own:=[],live:=[]}
def Kk:av:={g:=110,fn:=Tryz.f110,sh:=(.pair (.val am) .unit),bx := .unit,own:=[],live:=[]}
def lg:av:={g:=111,fn:=Tryz.f111,sh:=(.pair (.strct (.pair (.val (.slice 59 aj)) (.pair (.row 103 (.slice 156 an) false) (.pair (.row 171 (.slice 3 (.int .i64)) false) .unit)))) .unit),bx := .unit,own:=[],live:=[(3,[0,2,3,14,15,16]),(8,[0,2,3,6,8,9,14,15,16,29,30,31])]}
def ep:av:={g:=112,fn:=Tryz.f112,sh:=(.pair (.row 162 aq false) .unit),bx := .unit,own:=[],live:=[(3,[2,3,7,8,20,21,22]),(10,[8,11,40,41])]}
def G5:av:={g:=113,fn:=Tryz.f113,sh:=(.pair (.val .str) .unit),bx := .unit,own:=[],live:=[]}
def fg:av:={g:=114,fn:=Tryz.f114,sh:=(.pair (.row 59 aj false) .unit),bx:=(.pair (.val ap) .unit),own:=[true,false],live:=[(5,[0,1,5,6])]}
def vx:av:={g:=115,fn:=Tryz.f115,sh:=(.pair (.val .bool) .unit),bx:=(.pair (.val ap) .unit),own:=[],live:=[]}
def nV:av:={g:=116,fn:=Tryz.f116,sh := .unit,bx:=(.pair (.row 59 aj false) .unit),own:=[true,false],live:=[],rb:=true,prim:=some (l4 59 aj 117 fun a b=>decide (a.1.2.1 < b.1.2.1) || (decide (a.1.2.1=b.1.2.1) && decide (a.1.1 < b.1.1)))}
def jo:av:={g:=118,fn:=Tryz.f118,sh:=(.pair (.val (.int .i64)) .unit),bx := .unit,own:=[],live:=[(2,[0,3,7,8])]}
def w6:av:={g:=119,fn:=Tryz.f119,sh:=(.pair (.val .str) .unit),bx := .unit,own:=[],live:=[(21,[0,7,10,11])]}
def A0:av:={g:=120,fn:=Tryz.f120,sh:=(.pair (.val (.int .i64)) (.pair (.val .bool) .unit)),bx := .unit,own:=[],live:=[(5,[0,6,7])]}
def lh:av:={g:=121,fn:=Tryz.f121,sh:=(.pair (.val (.int .i64)) .unit),bx:=(.pair (.strct (.pair (.val .str) (.pair (.val (.int .i64)) (.pair (.val .bool) (.pair (.row 156 an false) .unit))))) .unit),own:=[],live:=[(13,[0,5]),(23,[0,7,8])]}
def mU:av:={g:=122,fn:=Tryz.f122,sh:=(.pair (.val (.int .i64)) .unit),bx:=(.pair (.strct (.pair (.val .str) (.pair (.val (.int .i64)) (.pair (.val .bool) (.pair (.row 156 an false) .unit))))) .unit),own:=[],live:=[(3,[0,1,5,6])]}
def EV:av:={g:=123,fn:=Tryz.f123,sh:=(.pair (.val (.int .i64)) .unit),bx:=(.pair (.strct (.pair (.val .str) (.pair (.val (.int .i64)) (.pair (.val .bool) (.pair (.row 156 an false) .unit))))) .unit),own:=[],live:=[]}
def EW:av:={g:=124,fn:=Tryz.f124,sh:=(.pair (.val .bool) .unit),bx := .unit,own:=[],live:=[]}
def w7:av:={g:=125,fn:=Tryz.f125,sh:=(.pair (.val (.int .i64)) .unit),bx := .unit,own:=[],live:=[(3,[0,1,5,6])]}
def w8:av:={g:=126,fn:=Tryz.f126,sh:=(.pair (.val (.int .i64)) .unit),bx := .unit,own:=[],live:=[(3,[0,1,5,6])]}
def D1:av:={g:=127,fn:=Tryz.f127,sh:=(.pair (.val am) .unit),bx := .unit,own:=[],live:=[(2,[0,3,4,5])]}
def G6:av:={g:=128,fn:=Tryz.f128,sh:=(.pair (.val am) .unit),bx := .unit,own:=[],live:=[]}
def Kl:av:={g:=129,fn:=Tryz.f129,sh:=(.pair (.val am) .unit),bx := .unit,own:=[],live:=[]}
def UQ:av:={g:=130,fn:=Tryz.f130,sh:=(.pair (.val am) .unit),bx := .unit,own:=[],live:=[]}
def QT:av:={g:=131,fn:=Tryz.f131,sh:=(.pair (.val am) .unit),bx := .unit,own:=[],live:=[]}
def MO:av:={g:=132,fn:=Tryz.f132,sh:=(.pair (.val am) .unit),bx := .unit,own:=[],live:=[]}
def QU:av:={g:=133,fn:=Tryz.f133,sh:=(.pair (.val am) .unit),bx := .unit,own:=[],live:=[]}
def Km:av:={g:=134,fn:=Tryz.f134,sh:=(.pair (.val am) .unit),bx := .unit,own:=[],live:=[]}
def QV:av:={g:=135,fn:=Tryz.f135,sh:=(.pair (.val am) .unit),bx := .unit,own:=[],live:=[]}
def D2:av:={g:=136,fn:=Tryz.f136,sh:=(.pair (.val .str) .unit),bx := .unit,own:=[],live:=[(2,[0,3,5])]}
def li:av:={g:=137,fn:=Tryz.f137,sh:=(.pair (.val .bool) .unit),bx := .unit,own:=[],live:=[(3,[0,3,5,6]),(9,[0,3,5,6,7,8])]}
def mV:av:={g:=138,fn:=Tryz.f138,sh:=(.pair (.row 57 ap false) .unit),bx := .unit,own:=[],live:=[(4,[0,5,6,7]),(8,[0,5,6,7,8,9])]}
def A1:av:={g:=139,fn:=Tryz.f139,sh:=(.pair (.row 162 aq false) .unit),bx := .unit,own:=[],live:=[(2,[0,3,5])]}
def tY:av:={g:=140,fn:=Tryz.f140,sh:=(.pair (.val .bool) .unit),bx := .unit,own:=[],live:=[]}
def rm:av:={g:=141,fn:=Tryz.f141,sh:=(.pair (.val .str) (.pair (.val .bool) .unit)),bx := .unit,own:=[],live:=[]}
def EX:av:={g:=142,fn:=Tryz.f142,sh:=(.pair (.val .str) (.pair (.val .bool) .unit)),bx := .unit,own:=[],live:=[]}
def l7:av:={g:=143,fn:=Tryz.f143,sh:=(.pair (.val (.int .i64)) (.pair (.val .err) .unit)),bx := .unit,own:=[],live:=[],prim:=some (qh)}
def EY:av:={g:=144,fn:=Tryz.f144,sh:=(.pair (.val .bool) .unit),bx := .unit,own:=[],live:=[]}
def qo:av:={g:=145,fn:=Tryz.f145,sh:=(.pair (.val am) (.pair (.val .bool) .unit)),bx := .unit,own:=[],live:=[(9,[0,2,4,7])]}
def w9:av:={g:=146,fn:=Tryz.f146,sh:=(.pair (.val (.int .i64)) .unit),bx:=(.pair (.strct (.pair (.val .str) (.pair (.row 156 an false) (.pair (.val .bool) .unit)))) .unit),own:=[],live:=[]}
def mW:av:={g:=147,fn:=Tryz.f147,sh:=(.pair (.val .str) .unit),bx:=(.pair (.strct (.pair (.val .str) (.pair (.row 156 an false) (.pair (.val .bool) .unit)))) .unit),own:=[],live:=[(3,[0,7,8,9])]}
def Kn:av:={g:=148,fn:=Tryz.f148,sh:=(.pair (.val .str) .unit),bx := .unit,own:=[],live:=[]}
def MP:av:={g:=149,fn:=Tryz.f149,sh:=(.pair (.val (.int .i64)) .unit),bx := .unit,own:=[],live:=[]}
def zv:av:={g:=150,fn:=Tryz.f150,sh:=(.pair (.val .bool) .unit),bx:=(.pair (.strct (.pair (.val .str) (.pair (.row 156 an false) (.pair (.val .bool) .unit)))) .unit),own:=[],live:=[]}
def B1:av:={g:=151,fn:=Tryz.f151,sh:=(.pair (.val (.int .i64)) .unit),bx:=(.pair (.strct (.pair (.val .str) (.pair (.row 156 an false) (.pair (.val .bool) .unit)))) .unit),own:=[],live:=[]}
def l8:av:={g:=152,fn:=Tryz.f152,sh:=(.pair (.val .str) .unit),bx := .unit,own:=[],live:=[],prim:=some (qg)}
def D3:av:={g:=153,fn:=Tryz.f153,sh:=(.pair (.val (.int .i64)) .unit),bx := .unit,own:=[],live:=[(5,[0,1,2,7,8])]}
def iY:av:={g:=154,fn:=Tryz.f154,sh:=(.pair (.val (.int .i64)) .unit),bx := .unit,own:=[],live:=[(2,[0,3,7,8])]}
def B2:av:={g:=155,fn:=Tryz.f155,sh:=(.pair (.val au) .unit),bx := .unit,own:=[],live:=[]}
def xa:av:={g:=156,fn:=Tryz.f156,sh:=(.pair (.val am) .unit),bx := .unit,own:=[],live:=[(2,[3,4,7,8,9])]}
def MQ:av:={g:=157,fn:=Tryz.f157,sh:=(.pair (.val am) .unit),bx := .unit,own:=[],live:=[]}
def G7:av:={g:=158,fn:=Tryz.f158,sh:=(.pair (.val am) .unit),bx := .unit,own:=[],live:=[]}
def Ko:av:={g:=159,fn:=Tryz.f159,sh:=(.pair (.val am) .unit),bx := .unit,own:=[],live:=[]}
def UR:av:={g:=160,fn:=Tryz.f160,sh:=(.pair (.val am) .unit),bx := .unit,own:=[],live:=[]}
def QW:av:={g:=161,fn:=Tryz.f161,sh:=(.pair (.val am) .unit),bx := .unit,own:=[],live:=[]}
def MR:av:={g:=162,fn:=Tryz.f162,sh:=(.pair (.val am) .unit),bx := .unit,own:=[],live:=[]}
def QX:av:={g:=163,fn:=Tryz.f163,sh:=(.pair (.val am) .unit),bx := .unit,own:=[],live:=[]}
def Kp:av:={g:=164,fn:=Tryz.f164,sh:=(.pair (.val am) .unit),bx := .unit,own:=[],live:=[]}
def QY:av:={g:=165,fn:=Tryz.f165,sh:=(.pair (.val am) .unit),bx := .unit,own:=[],live:=[]}
def QZ:av:={g:=166,fn:=Tryz.f166,sh:=(.pair (.val .bool) .unit),bx := .unit,own:=[],live:=[]}
def kR:av:={g:=167,fn:=Tryz.f167,sh:=(.pair (.row 4 .bool false) .unit),bx := .unit,own:=[],live:=[],prim:=some (dd 4 .bool 1)}
def cQ:av:={g:=168,fn:=Tryz.f168,sh := .unit,bx:=(.pair (.row 4 .bool false) (.pair (.val bK) (.pair (.row 162 aq false) .unit))),own:=[],live:=[(3,[0,2,3,4,19,20,21])]}
def lE:av:={g:=169,fn:=Tryz.f169,sh:=(.pair (.val .bool) .unit),bx := .unit,own:=[],live:=[(4,[1,2,5,6,7])]}
def lu:av:={g:=170,fn:=Tryz.f170,sh:=(.pair (.val .str) .unit),bx := .unit,own:=[],live:=[],prim:=some (DZ)}
def dh:av:={g:=171,fn:=Tryz.f171,sh:=(.pair (.val (.int .i64)) .unit),bx:=(.pair (.val ap) .unit),own:=[],live:=[(2,[0,1,7,8])]}
def ux:av:={g:=174,fn:=Tryz.f174,sh:=(.pair (.val .str) .unit),bx := .unit,own:=[],live:=[(3,[0,3,4])]}
def CS:av:={g:=175,fn:=Tryz.f175,sh:=(.pair (.val .str) .unit),bx := .unit,own:=[],live:=[]}
def G8:av:={g:=176,fn:=Tryz.f176,sh:=(.pair (.val (.int .i64)) .unit),bx := .unit,own:=[],live:=[]}
def Kq:av:={g:=177,fn:=Tryz.f177,sh:=(.pair (.val .str) .unit),bx := .unit,own:=[],live:=[]}
def Q0:av:={g:=178,fn:=Tryz.f178,sh:=(.pair (.val .str) .unit),bx := .unit,own:=[],live:=[]}
def G9:av:={g:=179,fn:=Tryz.f179,sh:=(.pair (.val .bool) .unit),bx:=(.pair (.strct (.pair (.val .str) (.pair (.val (.int .i64)) (.pair (.val .bool) (.pair (.row 156 an false) .unit))))) .unit),own:=[],live:=[]}
def qp:av:={g:=180,fn:=Tryz.f180,sh:=(.pair (.val (.int .i64)) .unit),bx:=(.pair (.strct (.pair (.val .str) (.pair (.val (.int .i64)) (.pair (.val .bool) (.pair (.row 156 an false) .unit))))) .unit),own:=[],live:=[(2,[0,3])]}
def qq:av:={g:=181,fn:=Tryz.f181,sh:=(.pair (.val .str) .unit),bx:=(.pair (.strct (.pair (.val .str) (.pair (.val (.int .i64)) (.pair (.val .bool) (.pair (.row 156 an false) .unit))))) .unit),own:=[],live:=[(2,[0,3])]}
def jZ:av:={g:=182,fn:=Tryz.f182,sh:=(.pair (.val (.int .i64)) .unit),bx:=(.pair (.strct (.pair (.val .str) (.pair (.val (.int .i64)) (.pair (.val .bool) (.pair (.row 156 an false) .unit))))) .unit),own:=[],live:=[(2,[0,1,5])]}
def qr:av:={g:=183,fn:=Tryz.f183,sh:=(.pair (.val bI) (.pair (.val .bool) .unit)),bx := .unit,own:=[],live:=[(6,[0,2,4,5])]}
def Kr:av:={g:=184,fn:=Tryz.f184,sh:=(.pair (.val .bool) .unit),bx := .unit,own:=[],live:=[]}
def Ks:av:={g:=185,fn:=Tryz.f185,sh:=(.pair (.val .bool) .unit),bx := .unit,own:=[],live:=[]}
def MS:av:={g:=186,fn:=Tryz.f186,sh:=(.pair (.val (.int .i64)) (.pair (.val am) .unit)),bx := .unit,own:=[],live:=[]}
def Kt:av:={g:=187,fn:=Tryz.f187,sh:=(.pair (.val am) .unit),bx := .unit,own:=[],live:=[]}
def Ku:av:={g:=188,fn:=Tryz.f188,sh:=(.pair (.val .str) (.pair (.val am) .unit)),bx := .unit,own:=[],live:=[]}
def xb:av:={g:=189,fn:=Tryz.f189,sh:=(.pair (.val am) .unit),bx := .unit,own:=[],live:=[(6,[0,1,4,5,6,7,8,9])]}
def pB:av:={g:=190,fn:=Tryz.f190,sh:=(.pair (.row 83 am false) .unit),bx := .unit,own:=[],live:=[(3,[0,1,2,7,8]),(10,[0,1,2,7,8,10,11])]}
def MT:av:={g:=191,fn:=Tryz.f191,sh:=(.pair (.val (.int .i64)) (.pair (.val (.int .i64)) (.pair (.val am) .unit))),bx := .unit,own:=[],live:=[]}
def MU:av:={g:=192,fn:=Tryz.f192,sh:=(.pair (.val (.int .i64)) .unit),bx := .unit,own:=[],live:=[]}
def Kv:av:={g:=193,fn:=Tryz.f193,sh:=(.pair (.val am) .unit),bx := .unit,own:=[],live:=[]}
def nt:av:={g:=194,fn:=Tryz.f194,sh:=(.pair (.val .str) (.pair (.val .bool) .unit)),bx := .unit,own:=[],live:=[]}
def zw:av:={g:=195,fn:=Tryz.f195,sh:=(.pair (.val .str) .unit),bx := .unit,own:=[],live:=[]}
def qu:av:={g:=198,fn:=Tryz.f198,sh:=(.pair (.val .str) .unit),bx := .unit,own:=[],live:=[]}
def rN:av:={g:=199,fn:=Tryz.f199,sh:=(.pair (.val .str) .unit),bx := .unit,own:=[],live:=[],prim:=some (AU)}
def MV:av:={g:=200,fn:=Tryz.f200,sh:=(.pair (.val am) .unit),bx := .unit,own:=[],live:=[]}
def rn:av:={g:=201,fn:=Tryz.f201,sh:=(.pair (.val .bool) .unit),bx := .unit,own:=[],live:=[]}
def iq:av:={g:=202,fn:=Tryz.f202,sh:=(.pair (.val (.int .i64)) .unit),bx:=(.pair (.strct (.pair (.val .str) (.pair (.row 156 an false) (.pair (.val .bool) .unit)))) .unit),own:=[],live:=[(6,[0,1,5]),(24,[0,1,9,14])]}
def zx:av:={g:=207,fn:=Tryz.f207,sh:=(.pair (.val .bool) .unit),bx := .unit,own:=[],live:=[]}
def Kw:av:={g:=208,fn:=Tryz.f208,sh:=(.pair (.val am) .unit),bx := .unit,own:=[],live:=[]}
def Kx:av:={g:=209,fn:=Tryz.f209,sh:=(.pair (.val am) .unit),bx := .unit,own:=[],live:=[]}
def sI:av:={g:=210,fn:=Tryz.f210,sh:=(.pair (.val am) .unit),bx := .unit,own:=[],live:=[(3,[0,4,5,6,11,12,13])]}
def lj:av:={g:=211,fn:=Tryz.f211,sh:=(.pair (.row 83 am false) .unit),bx := .unit,own:=[],live:=[(3,[0,2,7,14,15,16]),(8,[0,2,7,9,14,15,16,33,34,35])]}
def xc:av:={g:=212,fn:=Tryz.f212,sh:=(.pair (.val am) .unit),bx := .unit,own:=[],live:=[(3,[2,3,7,8,9])]}
def sJ:av:={g:=213,fn:=Tryz.f213,sh:=(.pair (.val am) .unit),bx := .unit,own:=[],live:=[(3,[0,4,5,6,7,10,11,12])]}
def nW:av:={g:=214,fn:=Tryz.f214,sh:=(.pair (.val am) .unit),bx := .unit,own:=[],live:=[]}
def MW:av:={g:=215,fn:=Tryz.f215,sh:=(.pair (.val am) .unit),bx := .unit,own:=[],live:=[]}
def Ha:av:={g:=216,fn:=Tryz.f216,sh:=(.pair (.val am) .unit),bx := .unit,own:=[],live:=[]}
def Ky:av:={g:=217,fn:=Tryz.f217,sh:=(.pair (.val am) .unit),bx := .unit,own:=[],live:=[]}
def Hb:av:={g:=218,fn:=Tryz.f218,sh:=(.pair (.val am) .unit),bx := .unit,own:=[],live:=[]}
def Kz:av:={g:=219,fn:=Tryz.f219,sh:=(.pair (.val am) .unit),bx := .unit,own:=[],live:=[]}
def KA:av:={g:=220,fn:=Tryz.f220,sh:=(.pair (.val .str) (.pair (.val .bool) .unit)),bx := .unit,own:=[],live:=[]}
def Q1:av:={g:=221,fn:=Tryz.f221,sh:=(.pair (.val am) .unit),bx := .unit,own:=[],live:=[]}
def MX:av:={g:=222,fn:=Tryz.f222,sh:=(.pair (.val (.int .i64)) .unit),bx := .unit,own:=[],live:=[]}
def kS:av:={g:=223,fn:=Tryz.f223,sh:=(.pair (.val .bool) .unit),bx:=(.pair (.val ap) .unit),own:=[],live:=[]}
def CT:av:={g:=224,fn:=Tryz.f224,sh:=(.pair (.val .bool) .unit),bx:=(.pair (.val ap) .unit),own:=[],live:=[]}
def l9:av:={g:=225,fn:=Tryz.f225,sh:=(.pair (.row 3 (.int .i64) false) .unit),bx := .unit,own:=[],live:=[],prim:=some (dd 3 (.int .i64) 8)}
def uy:av:={g:=237,fn:=Tryz.f237,sh:=(.pair (.val .str) .unit),bx := .unit,own:=[],live:=[(4,[0,3])]}
def EZ:av:={g:=238,fn:=Tryz.f238,sh:=(.pair (.val (.int .i64)) .unit),bx:=(.pair (.strct (.pair (.val .str) (.pair (.val (.int .i64)) (.pair (.val .bool) (.pair (.row 156 an false) .unit))))) .unit),own:=[],live:=[]}
def uz:av:={g:=239,fn:=Tryz.f239,sh:=(.pair (.val (.int .i64)) .unit),bx := .unit,own:=[],live:=[(2,[0,3])]}
def KB:av:={g:=240,fn:=Tryz.f240,sh:=(.pair (.val (.int .i64)) .unit),bx := .unit,own:=[],live:=[]}
def nu:av:={g:=241,fn:=Tryz.f241,sh:=(.pair (.val .bool) .unit),bx := .unit,own:=[],live:=[]}
def mX:av:={g:=242,fn:=Tryz.f242,sh:=(.pair (.val .str) .unit),bx := .unit,own:=[],live:=[(21,[0,7,10,92,93,94])]}
def ma:av:={g:=248,fn:=Tryz.f248,sh:=(.pair (.val .str) .unit),bx := .unit,own:=[],live:=[]}
def kC:av:={g:=252,fn:=Tryz.f252,sh:=(.pair (.val (.int .i64)) .unit),bx:=(.pair (.strct (.pair (.val .str) (.pair (.row 156 an false) (.pair (.val .bool) .unit)))) .unit),own:=[],live:=[(2,[0,3,4])]}
def s6:av:={g:=253,fn:=Tryz.f253,sh:=(.pair (.val (.int .i64)) .unit),bx:=(.pair (.strct (.pair (.val .str) (.pair (.row 156 an false) (.pair (.val .bool) .unit)))) .unit),own:=[],live:=[]}
def zy:av:={g:=254,fn:=Tryz.f254,sh:=(.pair (.val .str) .unit),bx:=(.pair (.strct (.pair (.val .str) (.pair (.row 156 an false) (.pair (.val .bool) .unit)))) .unit),own:=[],live:=[]}
def CU:av:={g:=255,fn:=Tryz.f255,sh:=(.pair (.val bI) (.pair (.val .bool) .unit)),bx := .unit,own:=[],live:=[]}
def KC:av:={g:=256,fn:=Tryz.f256,sh:=(.pair (.val .str) .unit),bx := .unit,own:=[],live:=[]}
def ir:av:={g:=257,fn:=Tryz.f257,sh:=(.pair (.val (.int .i64)) .unit),bx:=(.pair (.strct (.pair (.val .str) (.pair (.row 156 an false) (.pair (.val .bool) .unit)))) .unit),own:=[],live:=[(3,[0,1,2,7])]}
def tZ:av:={g:=261,fn:=Tryz.f261,sh:=(.pair (.val .bool) .unit),bx := .unit,own:=[],live:=[]}
def xe:av:={g:=262,fn:=Tryz.f262,sh:=(.pair (.val .bool) .unit),bx := .unit,own:=[],live:=[]}
def E0:av:={g:=263,fn:=Tryz.f263,sh:=(.pair (.val (.int .i64)) (.pair (.val .bool) .unit)),bx := .unit,own:=[],live:=[]}
def qv:av:={g:=264,fn:=Tryz.f264,sh:=(.pair (.val (.int .i64)) .unit),bx := .unit,own:=[],live:=[]}
def di:av:={g:=265,fn:=Tryz.f265,sh:=(.pair (.val (.int .i64)) .unit),bx:=(.pair (.val ap) .unit),own:=[],live:=[(2,[0,1,7,8])]}
def kD:av:={g:=275,fn:=Tryz.f275,sh:=(.pair (.val .str) .unit),bx := .unit,own:=[],live:=[],prim:=some (sB)}
def CV:av:={g:=276,fn:=Tryz.f276,sh:=(.pair (.val .str) .unit),bx := .unit,own:=[],live:=[]}
def rO:av:={g:=277,fn:=Tryz.f277,sh:=(.pair (.val .str) .unit),bx := .unit,own:=[],live:=[],prim:=some (AV WO)}
def tO:av:={g:=284,fn:=Tryz.f284,sh:=(.pair (.val .str) (.pair (.val .str) (.pair (.val .bool) .unit))),bx := .unit,own:=[],live:=[],prim:=some (D0)}
def uA:av:={g:=285,fn:=Tryz.f285,sh:=(.pair (.val (.int .i64)) .unit),bx := .unit,own:=[],live:=[(2,[0,3])]}
def s7:av:={g:=286,fn:=Tryz.f286,sh:=(.pair (.strct (.pair (.val (.int .i64)) (.pair (.val (.int .i64)) (.pair (.val am) (.pair (.val bI) (.pair (.val bI) (.pair (.row 2 (.int .i64) false) .unit))))))) (.pair (.val .bool) .unit)),bx:=(.pair (.strct (.pair (.val .str) (.pair (.row 156 an false) (.pair (.val .bool) .unit)))) .unit),own:=[],live:=[]}
def KD:av:={g:=289,fn:=Tryz.f289,sh:=(.pair (.val .bool) .unit),bx := .unit,own:=[],live:=[]}
def s8:av:={g:=290,fn:=Tryz.f290,sh:=(.pair (.val .bool) .unit),bx := .unit,own:=[],live:=[]}
def Hc:av:={g:=297,fn:=Tryz.f297,sh:=(.pair (.val .str) .unit),bx := .unit,own:=[],live:=[]}
def E:cD:={ty:=[(2,(.int .i64)),(3,(.int .i64)),(4,.bool),(5,(.int .u8)),(9,.str),(22,(.slice 49 aj)),(23,(.slice 52 aG)),(26,(.slice 59 aj)),(30,(.slice 62 aG)),(37,(.slice 75 au)),(38,(.slice 57 ap)),(47,ap),(49,aj),(52,aG),(55,aZ),(57,ap),(59,aj),(62,aG),(67,b8),(75,au),(83,am),(94,(.slice 5 (.int .u8))),(103,(.slice 156 an)),(107,(.slice 162 aq)),(111,(.slice 9 .str)),(121,be),(132,bm),(135,.fn),(136,(.slice 103 (.slice 156 an))),(137,(.slice 171 (.slice 3 (.int .i64)))),(139,bK),(142,(.slice 4 .bool)),(143,(.slice 83 am)),(145,.fn),(147,.fn),(153,bI),(154,(.slice 2 (.int .i64))),(156,an),(162,aq),(171,(.slice 3 (.int .i64))),(176,.err),(189,.fn),(200,.fn),(226,.fn)],by_:=[(2,8),(3,8),(4,1),(9,16),(57,16),(59,32),(62,48),(75,32),(83,32),(103,24),(156,120),(162,48),(171,24)],fns:=[(3,l6),(4,oX),(5,uh),(6,ui),(7,EP),(8,uj),(9,uk),(10,EQ),(11,ul),(12,um),(13,qi),(14,qj),(15,qk),(16,J5),(17,J6),(18,uo),(19,wX),(20,ql),(21,sC),(22,qm),(23,sD),(24,J7),(25,J8),(26,MI),(27,pz),(28,J9),(29,Ka),(30,GV),(31,fN),(32,ip),(33,Kb),(34,Kc),(35,sE),(36,Kd),(37,MJ),(38,up),(39,uq),(40,QP),(41,Ke),(42,bU),(43,ER),(44,Kf),(45,CK),(46,Kg),(47,MK),(48,ur),(49,ut),(50,Kh),(51,wY),(52,GW),(53,CL),(54,CM),(55,zn),(56,GX),(57,ML),(58,GY),(59,B0),(60,AW),(61,AX),(62,GZ),(63,ES),(64,zo),(65,QQ),(66,AY),(67,G0),(68,G1),(69,AZ),(70,Ki),(71,MM),(72,zp),(73,ET),(74,zq),(75,zr),(76,c8),(77,QR),(78,zt),(79,G2),(80,CN),(81,G3),(82,pA),(83,uu),(84,zu),(85,sF),(86,jX),(87,CO),(88,uv),(89,sG),(90,mT),(91,jY),(92,sH),(93,Kj),(94,MN),(95,en),(96,qn),(97,rl),(98,G4),(99,CP),(100,wZ),(101,fW),(102,vw),(103,CQ),(104,fq),(105,nU),(106,uw),(107,EU),(108,CR),(109,QS),(110,Kk),(111,lg),(112,ep),(113,G5),(114,fg),(115,vx),(116,nV),(118,jo),(119,w6),(120,A0),(121,lh),(122,mU),(123,EV),(124,EW),(125,w7),(126,w8),(127,D1),(128,G6),(129,Kl),(130,UQ),(131,QT),(132,MO),(133,QU),(134,Km),(135,QV),(136,D2),(137,li),(138,mV),(139,A1),(140,tY),(141,rm),(142,EX),(143,l7),(144,EY),(145,qo),(146,w9),(147,mW),(148,Kn),(149,MP),(150,zv),(151,B1),(152,l8),(153,D3),(154,iY),(155,B2),(156,xa),(157,MQ),(158,G7),(159,Ko),(160,UR),(161,QW),(162,MR),(163,QX),(164,Kp),(165,QY),(166,QZ),(167,kR),(168,cQ),(169,lE),(170,lu),(171,dh),(174,ux),(175,CS),(176,G8),(177,Kq),(178,Q0),(179,G9),(180,qp),(181,qq),(182,jZ),(183,qr),(184,Kr),(185,Ks),(186,MS),(187,Kt),(188,Ku),(189,xb),(190,pB),(191,MT),(192,MU),(193,Kv),(194,nt),(195,zw),(198,qu),(199,rN),(200,MV),(201,rn),(202,iq),(207,zx),(208,Kw),(209,Kx),(210,sI),(211,lj),(212,xc),(213,sJ),(214,nW),(215,MW),(216,Ha),(217,Ky),(218,Hb),(219,Kz),(220,KA),(221,Q1),(222,MX),(223,kS),(224,CT),(225,l9),(237,uy),(238,EZ),(239,uz),(240,KB),(241,nu),(242,mX),(248,ma),(252,kC),(253,s6),(254,zy),(255,CU),(256,KC),(257,ir),(261,tZ),(262,xe),(263,E0),(264,qv),(265,di),(275,kD),(276,CV),(277,rO),(284,tO),(285,uA),(286,s7),(289,KD),(290,s8),(297,Hc)],eqs:=[(57,ap),(75,au),(83,am),(153,bI)],tails:=[(26,38)],cuts:=[]}
def D4 (x0:ae) (x1:Int):Option ((Int×Unit)×Unit):=ai E J7 [.val aj x0,.val (.int .i64) x1] []
def A2 (x0:(List ae)) (x1:Int):Option ((Int×Unit)×Unit):=ai E uh [.val (.slice 49 aj) x0,.val (.int .i64) x1] []
def D5 (x0:aV) (x1:Int):Option ((Int×Unit)×Unit):=ai E J8 [.val aG x0,.val (.int .i64) x1] []
def A3 (x0:(List aV)) (x1:Int):Option ((Int×Unit)×Unit):=ai E ui [.val (.slice 52 aG) x0,.val (.int .i64) x1] []
def Hd (x0:ao):Option ((ao×Unit)×Unit):=ai E MK [.val ap x0] []
def D6 (x0:ae):Option ((ae×Unit)×Unit):=ai E J9 [.val aj x0] []
def jG (x0:(List ae)):Option (((List ae)×Unit)×Unit):=ai E uj [.val (.slice 49 aj) x0] []
def D7 (x0:aV):Option ((aV×Unit)×Unit):=ai E Ka [.val aG x0] []
def jH (x0:(List aV)):Option (((List aV)×Unit)×Unit):=ai E uk [.val (.slice 52 aG) x0] []
def vy (x0:ByteArray):Option ((Bool×Unit)×Unit):=ai E uu [.val .str x0] []
def j0 (x0:ByteArray) (x1:Int) (x2:Bool) (x3:(List aa)):Option (Unit×((ByteArray×(Int×(Bool×((List aa)×Unit))))×Unit)):=ai E mT [.ptr 0 be []] [(0,.box be (.strct [.val .str x0,.val (.int .i64) x1,.val .bool x2,.row 1])),(1,.row 156 an x3 false)]
def dN (x0:ByteArray) (x1:ByteArray) (x2:Int) (x3:Bool) (x4:(List aa)):Option ((Bool×Unit)×((ByteArray×(Int×(Bool×((List aa)×Unit))))×Unit)):=ai E G9 [.ptr 0 be [],.val .str x0] [(0,.box be (.strct [.val .str x1,.val (.int .i64) x2,.val .bool x3,.row 1])),(1,.row 156 an x4 false)]
def eR (x0:Int) (x1:ByteArray) (x2:Int) (x3:Bool) (x4:(List aa)):Option ((Int×Unit)×((ByteArray×(Int×(Bool×((List aa)×Unit))))×Unit)):=ai E sG [.ptr 0 be [],.val (.int .i64) x0] [(0,.box be (.strct [.val .str x1,.val (.int .i64) x2,.val .bool x3,.row 1])),(1,.row 156 an x4 false)]
def g8 (x0:Int) (x1:Int) (x2:Int):Option ((Bool×Unit)×Unit):=ai E QP [.val (.int .i64) x0,.val (.int .i64) x1,.val (.int .i64) x2] []
def ed (x0:ab):Option ((Bool×Unit)×Unit):=ai E G1 [.val am x0] []
def dn (x0:ao):Option ((Bool×Unit)×Unit):=ai E ML [.val ap x0] []
def IB (x0:ag):Option ((Bool×Unit)×Unit):=ai E Kr [.val au x0] []
def IC (x0:Int) (x1:Int):Option ((Bool×Unit)×Unit):=ai E Ks [.val (.int .i64) x0,.val (.int .i64) x1] []
def xf (x0:aa):Option ((Bool×Unit)×Unit):=ai E EW [.val an x0] []
def cc (x0:aa) (x1:ByteArray) (x2:Int) (x3:Bool) (x4:(List aa)):Option ((Int×Unit)×((ByteArray×(Int×(Bool×((List aa)×Unit))))×Unit)):=ai E EV [.ptr 0 be [],.val an x0] [(0,.box be (.strct [.val .str x1,.val (.int .i64) x2,.val .bool x3,.row 1])),(1,.row 156 an x4 false)]
def A4 (x0:ByteArray) (x1:Int) (x2:Bool) (x3:(List aa)):Option ((Int×Unit)×((ByteArray×(Int×(Bool×((List aa)×Unit))))×Unit)):=ai E qp [.ptr 0 be []] [(0,.box be (.strct [.val .str x0,.val (.int .i64) x1,.val .bool x2,.row 1])),(1,.row 156 an x3 false)]
def mY (x0:Int):Option ((ByteArray×Unit)×Unit):=ai E Kg [.val (.int .i64) x0] []
def cA (x0:Int):Option ((ab×Unit)×Unit):=ai E G0 [.val (.int .i64) x0] []
def mZ (x0:ByteArray) (x1:Int) (x2:Bool) (x3:(List aa)):Option ((ByteArray×Unit)×((ByteArray×(Int×(Bool×((List aa)×Unit))))×Unit)):=ai E qq [.ptr 0 be []] [(0,.box be (.strct [.val .str x0,.val (.int .i64) x1,.val .bool x2,.row 1])),(1,.row 156 an x3 false)]
def LW (x0:Int):Option ((ByteArray×Unit)×Unit):=ai E Q0 [.val (.int .i64) x0] []
def vz (x0:Int):Option ((ByteArray×Unit)×Unit):=ai E uy [.val (.int .i64) x0] []
def rP (x0:ByteArray):Option ((Int×Unit)×Unit):=ai E uz [.val .str x0] []
def cW (x0:ByteArray) (x1:Int):Option ((Int×(Bool×Unit))×Unit):=ai E A0 [.val .str x0,.val (.int .i64) x1] []
def m5 (x0:ByteArray):Option ((cb×(Bool×Unit))×Unit):=ai E qr [.val .str x0] []
def s9 (x0:ByteArray) (x1:Int) (x2:Bool) (x3:(List aa)):Option ((Int×Unit)×((ByteArray×(Int×(Bool×((List aa)×Unit))))×Unit)):=ai E EZ [.ptr 0 be []] [(0,.box be (.strct [.val .str x0,.val (.int .i64) x1,.val .bool x2,.row 1])),(1,.row 156 an x3 false)]
def A5 (x0:Int) (x1:ByteArray) (x2:Int) (x3:Bool) (x4:(List aa)):Option ((Int×Unit)×((ByteArray×(Int×(Bool×((List aa)×Unit))))×Unit)):=ai E jZ [.ptr 0 be [],.val (.int .i64) x0] [(0,.box be (.strct [.val .str x1,.val (.int .i64) x2,.val .bool x3,.row 1])),(1,.row 156 an x4 false)]
def kE (x0:ByteArray):Option ((ab×(Bool×Unit))×Unit):=ai E jX [.val .str x0] []
def xg (x0:ByteArray) (x1:Int) (x2:Bool) (x3:(List aa)):Option ((Int×Unit)×((ByteArray×(Int×(Bool×((List aa)×Unit))))×Unit)):=ai E lh [.ptr 0 be []] [(0,.box be (.strct [.val .str x0,.val (.int .i64) x1,.val .bool x2,.row 1])),(1,.row 156 an x3 false)]
def vA (x0:Int):Option ((Int×Unit)×Unit):=ai E G8 [.val (.int .i64) x0] []
def zz (x0:Int):Option ((ByteArray×Unit)×Unit):=ai E Kq [.val (.int .i64) x0] []
def FJ (x0:Int) (x1:ByteArray) (x2:Int) (x3:Bool) (x4:(List aa)):Option ((Int×Unit)×((ByteArray×(Int×(Bool×((List aa)×Unit))))×Unit)):=ai E mU [.ptr 0 be [],.val (.int .i64) x0] [(0,.box be (.strct [.val .str x1,.val (.int .i64) x2,.val .bool x3,.row 1])),(1,.row 156 an x4 false)]
def zA (x0:(List aa)) (x1:Int):Option ((Int×Unit)×Unit):=ai E w7 [.val (.slice 156 an) x0,.val (.int .i64) x1] []
def zB (x0:(List aa)) (x1:Int):Option ((Int×Unit)×Unit):=ai E w8 [.val (.slice 156 an) x0,.val (.int .i64) x1] []
def m6 (x0:(List aa)):Option ((Bool×Unit)×Unit):=ai E jY [.val (.slice 156 an) x0] []
def j6 (x0:ByteArray):Option (((List aa)×(Bool×Unit))×Unit):=ai E zo [.val .str x0] []
def FK (x0:ByteArray):Option ((ByteArray×Unit)×Unit):=ai E ux [.val .str x0] []
def nX (x0:Int):Option ((ByteArray×Unit)×Unit):=ai E AZ [.val (.int .i64) x0] []
def IE (x0:Int):Option ((ByteArray×Unit)×Unit):=ai E Ki [.val (.int .i64) x0] []
def dX (x0:ab):Option ((ByteArray×Unit)×Unit):=ai E CK [.val am x0] []
def qw (x0:cb):Option ((ByteArray×Unit)×Unit):=ai E CS [.val bI x0] []
def m7 (x0:(List aa)) (x1:Int) (x2:Int):Option ((ByteArray×Unit)×Unit):=ai E w6 [.val (.slice 156 an) x0,.val (.int .i64) x1,.val (.int .i64) x2] []
def qx (x0:(List aa)):Option ((ByteArray×Unit)×Unit):=ai E zu [.val (.slice 156 an) x0] []
def CW (x0:ByteArray):Option ((ab×(Bool×Unit))×Unit):=ai E sF [.val .str x0] []
def mb (x0:ByteArray):Option ((ByteArray×(Bool×Unit))×Unit):=ai E GX [.val .str x0] []
def oY (x0:ao) (x1:ao):Option ((Bool×Unit)×Unit):=ai E GY [.val ap x0,.val ap x1] []
def FL (x0:(List ae)):Option ((Bool×Unit)×Unit):=ai E up [.val (.slice 59 aj) x0] []
def fa (x0:ByteArray):Option ((Bool×Unit)×Unit):=ai E B0 [.val .str x0] []
def FM (x0:(List aV)):Option ((Bool×Unit)×Unit):=ai E uq [.val (.slice 62 aG) x0] []
def He (x0:(List ae)) (x1:(List aV)) (x2:Int):Option ((Int×Unit)×Unit):=ai E MI [.val (.slice 59 aj) x0,.val (.slice 62 aG) x1,.val (.int .i64) x2] []
def MY (x0:(List ae)) (x1:ao) (x2:ByteArray):Option (((List ae)×Unit)×Unit):=ai E AW [.val (.slice 59 aj) x0,.val ap x1,.val .str x2] []
def nY (x0:(List ao)) (x1:ao):Option ((Bool×Unit)×Unit):=ai E AX [.val (.slice 57 ap) x0,.val ap x1] []
def iu (x0:ew) (x1:ao) (x2:ByteArray):Option ((ew×Unit)×Unit):=ai E Ke [.val aZ x0,.val ap x1,.val .str x2] []
def qy (x0:ByteArray):Option (((List aa)×(Bool×Unit))×Unit):=ai E CO [.val .str x0] []
def FN (x0:(List aa)):Option (((List ag)×Unit)×Unit):=ai E uv [.val (.slice 156 an) x0] []
def rQ (x0:ByteArray):Option (((List ag)×Unit)×Unit):=ai E GZ [.val .str x0] []
def pC (x0:ao) (x1:ag):Option ((Bool×Unit)×Unit):=ai E ES [.val ap x0,.val au x1] []
def A6 (x0:ew) (x1:ByteArray):Option ((ew×Unit)×Unit):=ai E bU [.val aZ x0,.val .str x1] []
def LX (x0:(List ah)) (x1:ao):Option ((ab×Unit)×Unit):=ai E D1 [.val (.slice 162 aq) x0,.val ap x1] []
def Hf (x0:(List ae)) (x1:ao):Option ((ByteArray×Unit)×Unit):=ai E D2 [.val (.slice 59 aj) x0,.val ap x1] []
def oZ (x0:(List ae)) (x1:ao):Option (((List ao)×Unit)×Unit):=ai E mV [.val (.slice 59 aj) x0,.val ap x1] []
def xh (x0:(List ae)) (x1:ao):Option ((Bool×Unit)×Unit):=ai E li [.val (.slice 59 aj) x0,.val ap x1] []
def kT (x0:(List ah)) (x1:ah):Option (((List ah)×Unit)×Unit):=ai E A1 [.val (.slice 162 aq) x0,.val aq x1] []
def CX (x0:(List ah)):Option ((Bool×Unit)×Unit):=ai E sH [.val (.slice 162 aq) x0] []
def eT (x0:(List aa)) (x1:Int) (x2:(List ah)):Option ((ab×Unit)×Unit):=ai E Kj [.val (.slice 156 an) x0,.val (.int .i64) x1,.val (.slice 162 aq) x2] []
def CY (x0:ab):Option ((Int×(ab×Unit))×Unit):=ai E MS [.val am x0] []
def iC (x0:Int):Option ((ab×Unit)×Unit):=ai E MN [.val (.int .i64) x0] []
def A7 (x0:ab):Option ((ab×Unit)×Unit):=ai E G6 [.val am x0] []
def pD (x0:ab):Option ((Bool×(ab×Unit))×Unit):=ai E Kf [.val am x0] []
def je (x0:Bool):Option ((ab×Unit)×Unit):=ai E Kt [.val .bool x0] []
def zC (x0:ab) (x1:ab):Option ((Int×(Int×(ab×Unit)))×Unit):=ai E MT [.val am x0,.val am x1] []
def FO (x0:ab) (x1:ab):Option ((ab×Unit)×Unit):=ai E UQ [.val am x0,.val am x1] []
def zD (x0:ab):Option ((ByteArray×(ab×Unit))×Unit):=ai E Ku [.val am x0] []
def IG (x0:(List aa)) (x1:Int) (x2:(List ah)):Option (((List ab)×Unit)×Unit):=ai E pB [.val (.slice 156 an) x0,.val (.int .i64) x1,.val (.slice 162 aq) x2] []
def II (x0:Int) (x1:(List ab)):Option ((ab×Unit)×Unit):=ai E xb [.val (.int .i64) x0,.val (.slice 83 am) x1] []
def Q2 (x0:(List aa)) (x1:Int) (x2:(List ah)):Option ((ab×Unit)×Unit):=ai E Kl [.val (.slice 156 an) x0,.val (.int .i64) x1,.val (.slice 162 aq) x2] []
def Se (x0:ab) (x1:ab):Option ((ab×Unit)×Unit):=ai E QT [.val am x0,.val am x1] []
def MZ (x0:ab) (x1:ab):Option ((ab×Unit)×Unit):=ai E MO [.val am x0,.val am x1] []
def Sf (x0:ab) (x1:ab):Option ((ab×Unit)×Unit):=ai E QU [.val am x0,.val am x1] []
def IJ (x0:ab) (x1:ab):Option ((ab×Unit)×Unit):=ai E Km [.val am x0,.val am x1] []
def D8 (x0:ab) (x1:ab):Option ((ab×Unit)×Unit):=ai E Kv [.val am x0,.val am x1] []
def zE (x0:Bool) (x1:Bool):Option ((Int×Unit)×Unit):=ai E KB [.val .bool x0,.val .bool x1] []
def M0 (x0:ab) (x1:ab):Option ((Int×Unit)×Unit):=ai E MU [.val am x0,.val am x1] []
def Sg (x0:Int) (x1:ab) (x2:ab):Option ((ab×Unit)×Unit):=ai E QV [.val (.int .i64) x0,.val am x1,.val am x2] []
def uB (x0:(List aa)) (x1:(List ah)):Option ((ab×Unit)×Unit):=ai E QQ [.val (.slice 156 an) x0,.val (.slice 162 aq) x1] []
def D9 (x0:(List ae)) (x1:(List ah)) (x2:(List ao)):Option (((List ah)×Unit)×Unit):=ai E en [.val (.slice 59 aj) x0,.val (.slice 162 aq) x1,.val (.slice 57 ap) x2] []
def M1 (x0:(List ae)):Option (((List ah)×Unit)×Unit):=ai E AY [.val (.slice 59 aj) x0] []
def xi (x0:ew) (x1:ByteArray):Option ((ab×Unit)×Unit):=ai E ER [.val aZ x0,.val .str x1] []
def Ea (x0:(List ae)) (x1:(List aV)) (x2:Int):Option ((ew×Unit)×Unit):=ai E pz [.val (.slice 59 aj) x0,.val (.slice 62 aG) x1,.val (.int .i64) x2] []
def CZ (x0:(List ae)) (x1:(List aV)) (x2:Int):Option (((List ae)×(Int×(Int×Unit)))×Unit):=ai E EP [.val (.slice 59 aj) x0,.val (.slice 62 aG) x1,.val (.int .i64) x2] []
def dI (x0:Int) (x1:Int) (x2:Int):Option ((Bool×Unit)×Unit):=ai E Kh [.val (.int .i64) x0,.val (.int .i64) x1,.val (.int .i64) x2] []
def qz (x0:ao):Option ((Bool×Unit)×Unit):=ai E MM [.val ap x0] []
def qA (x0:Int):Option ((Bool×Unit)×Unit):=ai E tY [.val (.int .i64) x0] []
def ft (x0:Int) (x1:Int):Option ((Int×Unit)×Unit):=ai E rl [.val (.int .i64) x0,.val (.int .i64) x1] []
def uC (x0:(List Int)):Option ((Int×Unit)×Unit):=ai E qn [.val (.slice 3 (.int .i64)) x0] []
def vC (x0:ao) (x1:ao):Option ((Int×Unit)×Unit):=ai E zp [.val ap x0,.val ap x1] []
def zF (x0:ByteArray) (x1:Int):Option ((Bool×Unit)×Unit):=ai E wZ [.val .str x0,.val (.int .i64) x1] []
def eU (x0:ByteArray) (x1:ByteArray):Option ((Bool×Unit)×Unit):=ai E nu [.val .str x0,.val .str x1] []
def pE (x0:ByteArray) (x1:ByteArray):Option ((ByteArray×(Bool×Unit))×Unit):=ai E nt [.val .str x0,.val .str x1] []
def cq (x0:ByteArray) (x1:ByteArray):Option ((ByteArray×(Bool×Unit))×Unit):=ai E rm [.val .str x0,.val .str x1] []
def iE (x0:ByteArray) (x1:ByteArray):Option ((ByteArray×Unit)×Unit):=ai E l8 [.val .str x0,.val .str x1] []
def iv (x0:ByteArray) (x1:Bool) (x2:(List aa)):Option (Unit×((ByteArray×((List aa)×(Bool×Unit)))×Unit)):=ai E vw [.ptr 0 bm []] [(0,.box bm (.strct [.val .str x0,.row 1,.val .bool x1])),(1,.row 156 an x2 false)]
def ee (x0:ByteArray) (x1:ByteArray):Option ((Bool×Unit)×Unit):=ai E rn [.val .str x0,.val .str x1] []
def qB (x0:ByteArray) (x1:Bool) (x2:(List aa)):Option ((ByteArray×Unit)×((ByteArray×((List aa)×(Bool×Unit)))×Unit)):=ai E mW [.ptr 0 bm []] [(0,.box bm (.strct [.val .str x0,.row 1,.val .bool x1])),(1,.row 156 an x2 false)]
def bJ (x0:ByteArray) (x1:ByteArray) (x2:Bool) (x3:(List aa)):Option ((Bool×Unit)×((ByteArray×((List aa)×(Bool×Unit)))×Unit)):=ai E zv [.ptr 0 bm [],.val .str x0] [(0,.box bm (.strct [.val .str x1,.row 1,.val .bool x2])),(1,.row 156 an x3 false)]
def kU (x0:Int) (x1:ByteArray) (x2:Bool) (x3:(List aa)):Option ((Int×Unit)×((ByteArray×((List aa)×(Bool×Unit)))×Unit)):=ai E w9 [.ptr 0 bm [],.val (.int .i64) x0] [(0,.box bm (.strct [.val .str x1,.row 1,.val .bool x2])),(1,.row 156 an x3 false)]
def bg (x0:aa) (x1:ByteArray) (x2:Bool) (x3:(List aa)):Option ((Int×Unit)×((ByteArray×((List aa)×(Bool×Unit)))×Unit)):=ai E B1 [.ptr 0 bm [],.val an x0] [(0,.box bm (.strct [.val .str x1,.row 1,.val .bool x2])),(1,.row 156 an x3 false)]
def strings_Cut (x0:ByteArray) (x1:ByteArray):Option ((ByteArray×(ByteArray×(Bool×Unit)))×Unit):=ai E tO [.val .str x0,.val .str x1] []
def bQ (x0:ab) (x1:ByteArray) (x2:Bool) (x3:(List aa)):Option ((Int×Unit)×((ByteArray×((List aa)×(Bool×Unit)))×Unit)):=ai E s6 [.ptr 0 bm [],.val am x0] [(0,.box bm (.strct [.val .str x1,.row 1,.val .bool x2])),(1,.row 156 an x3 false)]
def j7 (x0:ByteArray) (x1:Bool) (x2:(List aa)):Option ((Int×Unit)×((ByteArray×((List aa)×(Bool×Unit)))×Unit)):=ai E kC [.ptr 0 bm []] [(0,.box bm (.strct [.val .str x0,.row 1,.val .bool x1])),(1,.row 156 an x2 false)]
def g9 (x0:Int):Option ((ByteArray×Unit)×Unit):=ai E CM [.val (.int .i64) x0] []
def gm (x0:Int):Option ((ab×Unit)×Unit):=ai E MQ [.val (.int .i64) x0] []
def j8 (x0:ByteArray) (x1:Bool) (x2:(List aa)):Option ((ByteArray×Unit)×((ByteArray×((List aa)×(Bool×Unit)))×Unit)):=ai E zy [.ptr 0 bm []] [(0,.box bm (.strct [.val .str x0,.row 1,.val .bool x1])),(1,.row 156 an x2 false)]
def dj (x0:ab):Option ((Bool×Unit)×Unit):=ai E G2 [.val am x0] []
def t6 (x0:Int) (x1:Int):Option ((ByteArray×Unit)×Unit):=ai E lu [.val (.int .i64) x0,.val (.int .i64) x1] []
def kF (x0:Int):Option ((ByteArray×Unit)×Unit):=ai E G5 [.val (.int .i64) x0] []
def fh (x0:ab):Option ((ByteArray×Unit)×Unit):=ai E CN [.val am x0] []
def mc (x0:Bool):Option ((ab×Unit)×Unit):=ai E MV [.val .bool x0] []
def iG (x0:ByteArray) (x1:Int) (x2:Int):Option ((Int×(Bool×Unit))×Unit):=ai E l7 [.val .str x0,.val (.int .i64) x1,.val (.int .i64) x2] []
def jf (x0:Int):Option ((ab×Unit)×Unit):=ai E Kk [.val (.int .i64) x0] []
def eG (x0:ByteArray):Option ((ab×(Bool×Unit))×Unit):=ai E qo [.val .str x0] []
def rR (x0:Int):Option ((ByteArray×Unit)×Unit):=ai E Hc [.val (.int .i64) x0] []
def FP (x0:ByteArray):Option ((Int×Unit)×Unit):=ai E uA [.val .str x0] []
def m8 (x0:cb):Option ((ByteArray×Unit)×Unit):=ai E CV [.val bI x0] []
def hJ (x0:ByteArray):Option ((cb×(Bool×Unit))×Unit):=ai E CU [.val .str x0] []
def Eb (x0:Int):Option ((ByteArray×Unit)×Unit):=ai E KC [.val (.int .i64) x0] []
def kG (x0:ByteArray) (x1:Bool) (x2:(List aa)):Option (((Int×(Int×(ab×(cb×(cb×((List Int)×Unit))))))×(Bool×Unit))×((ByteArray×((List aa)×(Bool×Unit)))×Unit)):=ai E s7 [.ptr 0 bm []] [(0,.box bm (.strct [.val .str x0,.row 1,.val .bool x1])),(1,.row 156 an x2 false)]
def bL (x0:Int) (x1:Int) (x2:ByteArray) (x3:Bool) (x4:(List aa)):Option ((Int×Unit)×((ByteArray×((List aa)×(Bool×Unit)))×Unit)):=ai E fW [.ptr 0 bm [],.val (.int .i64) x0,.val (.int .i64) x1] [(0,.box bm (.strct [.val .str x2,.row 1,.val .bool x3])),(1,.row 156 an x4 false)]
def iH (x0:Int) (x1:Int) (x2:ByteArray) (x3:Bool) (x4:(List aa)):Option ((Int×Unit)×((ByteArray×((List aa)×(Bool×Unit)))×Unit)):=ai E ir [.ptr 0 bm [],.val (.int .i64) x0,.val (.int .i64) x1] [(0,.box bm (.strct [.val .str x2,.row 1,.val .bool x3])),(1,.row 156 an x4 false)]
def qC (x0:Int) (x1:ByteArray) (x2:Bool) (x3:(List aa)):Option ((Int×Unit)×((ByteArray×((List aa)×(Bool×Unit)))×Unit)):=ai E iq [.ptr 0 bm [],.val (.int .i64) x0] [(0,.box bm (.strct [.val .str x1,.row 1,.val .bool x2])),(1,.row 156 an x3 false)]
def zG (x0:Int):Option ((ByteArray×Unit)×Unit):=ai E Kn [.val (.int .i64) x0] []
def C0 (x0:Int):Option ((Int×Unit)×Unit):=ai E MP [.val (.int .i64) x0] []
def jI (x0:aa):Option ((ag×Unit)×Unit):=ai E B2 [.val an x0] []
def Ec (x0:ag):Option ((Bool×Unit)×Unit):=ai E KD [.val au x0] []
def et (x0:aa):Option ((Bool×Unit)×Unit):=ai E tZ [.val an x0] []
def fz (x0:aa):Option ((Bool×Unit)×Unit):=ai E xe [.val an x0] []
def vD (x0:aa):Option ((Bool×Unit)×Unit):=ai E zx [.val an x0] []
def A8 (x0:(List aa)) (x1:Int) (x2:Int):Option ((Int×Unit)×Unit):=ai E D3 [.val (.slice 156 an) x0,.val (.int .i64) x1,.val (.int .i64) x2] []
def uD (x0:(List aa)):Option ((Bool×Unit)×Unit):=ai E CQ [.val (.slice 156 an) x0] []
def j9 (x0:ByteArray):Option (((List aa)×(Bool×Unit))×Unit):=ai E zr [.val .str x0] []
def strings_ReplaceAll (x0:ByteArray) (x1:ByteArray) (x2:ByteArray):Option ((ByteArray×Unit)×Unit):=ai E kD [.val .str x0,.val .str x1,.val .str x2] []
def gn (x0:(List aa)) (x1:Int) (x2:Int):Option ((ByteArray×Unit)×Unit):=ai E mX [.val (.slice 156 an) x0,.val (.int .i64) x1,.val (.int .i64) x2] []
def strings_Join (x0:(List ByteArray)) (x1:ByteArray):Option ((ByteArray×Unit)×Unit):=ai E rO [.val (.slice 9 .str) x0,.val .str x1] []
def qD (x0:(List aa)):Option ((ByteArray×Unit)×Unit):=ai E zw [.val (.slice 156 an) x0] []
def KE (x0:(List aa)):Option ((ByteArray×(Bool×Unit))×Unit):=ai E EX [.val (.slice 156 an) x0] []
def nZ (x0:ByteArray) (x1:ByteArray):Option ((ByteArray×Unit)×Unit):=ai E ma [.val .str x0,.val .str x1] []
def md (x0:ByteArray) (x1:ByteArray):Option ((ByteArray×Unit)×Unit):=ai E qu [.val .str x0,.val .str x1] []
def vF (x0:ByteArray) (x1:ByteArray):Option ((ByteArray×Unit)×Unit):=ai E rN [.val .str x0,.val .str x1] []
def C1 (x0:ByteArray):Option ((Bool×Unit)×Unit):=ai E EY [.val .str x0] []
def A9 (x0:ByteArray):Option ((ByteArray×(Bool×Unit))×Unit):=ai E G4 [.val .str x0] []
def pF (x0:ByteArray):Option ((Bool×Unit)×Unit):=ai E ET [.val .str x0] []
def FQ (x0:(List ae)):Option ((Bool×Unit)×Unit):=ai E ur [.val (.slice 59 aj) x0] []
def m9 (x0:ByteArray):Option ((Bool×Unit)×Unit):=ai E CP [.val .str x0] []
def vG (x0:aV) (x1:Int) (x2:Int):Option ((Bool×Unit)×Unit):=ai E zq [.val aG x0,.val (.int .i64) x1,.val (.int .i64) x2] []
def FR (x0:(List aV)):Option ((Bool×Unit)×Unit):=ai E ut [.val (.slice 62 aG) x0] []
def Ba (x0:(List ae)) (x1:(List aV)) (x2:Int):Option ((Int×Unit)×Unit):=ai E GV [.val (.slice 59 aj) x0,.val (.slice 62 aG) x1,.val (.int .i64) x2] []
def fu (x0:(List ae)):Option (((List ae)×Unit)×Unit):=ai E fN [.val (.slice 59 aj) x0] []
def vH (x0:(List aa)):Option (((List ag)×Unit)×Unit):=ai E uw [.val (.slice 156 an) x0] []
def t7 (x0:(List ag)) (x1:ag):Option ((Int×Unit)×Unit):=ai E iY [.val (.slice 75 au) x0,.val au x1] []
def dY (x0:(List ag)) (x1:ag):Option ((Bool×Unit)×Unit):=ai E nU [.val (.slice 75 au) x0,.val au x1] []
def jp (x0:(List ag)) (x1:(List ag)):Option (Unit×((List ag)×Unit)):=ai E fq [.val (.slice 75 au) x0,.ptr 0 (.slice 75 au) []] [(0,.box (.slice 75 au) (.row 1)),(1,.row 75 au x1 false)]
def pG (x0:ag) (x1:ao):Option ((Bool×Unit)×Unit):=ai E EU [.val au x0,.val ap x1] []
def uE (x0:ByteArray):Option (((List aa)×(Bool×Unit))×Unit):=ai E CR [.val .str x0] []
def tP (x0:(List aa)) (x1:(List ae)) (x2:(List ag)) (x3:(List ao)):Option (Unit×(((List ae)×((List ag)×((List ao)×Unit)))×Unit)):=ai E c8 [.ptr 0 b8 [],.val (.slice 156 an) x0] [(0,.box b8 (.strct [.row 1,.row 2,.row 3])),(1,.row 59 aj x1 false),(2,.row 75 au x2 false),(3,.row 57 ap x3 false)]
def Q3 (x0:ag) (x1:Int) (x2:Int):Option ((Bool×Unit)×(ao×Unit)):=ai E CT [.val au x0,.ptr 0 ap []] [(0,.box ap (.strct [.val (.int .i64) x1,.val (.int .i64) x2]))]
def M2 (x0:ag) (x1:ao):Option ((Bool×Unit)×(ao×Unit)):=ai E CT [.val au x0,.ptr 0 ap []] [(0,.box ap (.val ap x1))]
def jR (x0:(List ag)) (x1:Int) (x2:Int):Option ((Int×Unit)×(ao×Unit)):=ai E di [.val (.slice 75 au) x0,.fn 224 [.ptr 0 ap []]] [(0,.box ap (.strct [.val (.int .i64) x1,.val (.int .i64) x2]))]
def iI (x0:(List ag)) (x1:Int) (x2:Int):Option ((Bool×Unit)×(ao×Unit)):=ai E kS [.val (.slice 75 au) x0,.fn 224 [.ptr 0 ap []]] [(0,.box ap (.strct [.val (.int .i64) x1,.val (.int .i64) x2]))]
def Si (x0:(List ag)) (x1:ao):Option ((Bool×Unit)×Unit):=ai E QZ [.val (.slice 75 au) x0,.val ap x1] []
def C2 (x0:(List ae)):Option ((((List ae)×((List (List aa))×((List (List Int))×Unit)))×Unit)×Unit):=ai E lg [.val (.slice 59 aj) x0] []
def iJ (x0:(List Bool)):Option (((List Bool)×Unit)×Unit):=ai E kR [.val (.slice 4 .bool) x0] []
def gb (x0:(List Int)):Option (((List Int)×Unit)×Unit):=ai E l9 [.val (.slice 3 (.int .i64)) x0] []
def kV (x0:l5) (x1:Int):Option ((Bool×Unit)×Unit):=ai E lE [.val bK x0,.val (.int .i64) x1] []
def cB (x0:Int) (x1:(List ae)) (x2:(List (List aa))) (x3:(List (List Int))) (x4:(List Bool)) (x5:(List ah)):Option (Unit×((List Bool)×(l5×((List ah)×Unit)))):=ai E cQ [.val (.int .i64) x0,.ptr 0 (.slice 4 .bool) [],.ptr 1 bK [],.ptr 2 (.slice 162 aq) [],.ptr 3 .fn []] [(0,.box (.slice 4 .bool) (.row 4)),(1,.box bK (.strct [.val (.slice 59 aj) x1,.val (.slice 103 (.slice 156 an)) x2,.val (.slice 171 (.slice 3 (.int .i64))) x3])),(2,.box (.slice 162 aq) (.row 5)),(3,.keepF 168 [.ptr 0 (.slice 4 .bool) [],.ptr 1 bK [],.ptr 2 (.slice 162 aq) [],.ptr 3 .fn []]),(4,.row 4 .bool x4 false),(5,.row 162 aq x5 false)]
def bD (x0:Int) (x1:l5) (x2:(List Bool)) (x3:(List ah)):Option (Unit×((List Bool)×(l5×((List ah)×Unit)))):=ai E cQ [.val (.int .i64) x0,.ptr 0 (.slice 4 .bool) [],.ptr 1 bK [],.ptr 2 (.slice 162 aq) [],.ptr 3 .fn []] [(0,.box (.slice 4 .bool) (.row 4)),(1,.box bK (.val bK x1)),(2,.box (.slice 162 aq) (.row 5)),(3,.keepF 168 [.ptr 0 (.slice 4 .bool) [],.ptr 1 bK [],.ptr 2 (.slice 162 aq) [],.ptr 3 .fn []]),(4,.row 4 .bool x2 false),(5,.row 162 aq x3 false)]
def IK (x0:(List ah)) (x1:ao):Option ((ab×Unit)×Unit):=ai E xa [.val (.slice 162 aq) x0,.val ap x1] []
def jq (x0:(List aa)) (x1:Int) (x2:(List ah)):Option ((ab×Unit)×Unit):=ai E QS [.val (.slice 156 an) x0,.val (.int .i64) x1,.val (.slice 162 aq) x2] []
def gp (x0:ab):Option ((Int×(Bool×Unit))×Unit):=ai E E0 [.val am x0] []
def jr (x0:ab):Option ((ab×Unit)×Unit):=ai E Q1 [.val am x0] []
def o0 (x0:Int):Option ((ab×Unit)×Unit):=ai E Ha [.val (.int .i64) x0] []
def Q4 (x0:Int) (x1:Int):Option ((ab×Unit)×Unit):=ai E Ky [.val (.int .i64) x0,.val (.int .i64) x1] []
def t8 (x0:ab) (x1:ab):Option ((ab×Unit)×Unit):=ai E nW [.val am x0,.val am x1,.fn 217 []] []
def LY (x0:ab) (x1:ab):Option ((ab×Unit)×Unit):=ai E QW [.val am x0,.val am x1] []
def FS (x0:ab):Option ((ab×Unit)×Unit):=ai E G7 [.val am x0] []
def pb (x0:ab):Option ((Bool×(Bool×Unit))×Unit):=ai E GW [.val am x0] []
def Q5 (x0:(List aa)) (x1:aa) (x2:(List ah)):Option ((ab×Unit)×Unit):=ai E Kw [.val (.slice 156 an) x0,.val an x1,.val (.slice 162 aq) x2] []
def kH (x0:ab):Option ((ByteArray×Unit)×Unit):=ai E CL [.val am x0] []
def zH (x0:ab):Option ((ByteArray×(Bool×Unit))×Unit):=ai E KA [.val am x0] []
def Ed (x0:Int) (x1:ab):Option ((ab×Unit)×Unit):=ai E Kx [.val (.int .i64) x0,.val am x1] []
def cE (x0:(List aa)) (x1:aa) (x2:(List ah)):Option (((List ab)×Unit)×Unit):=ai E lj [.val (.slice 156 an) x0,.val an x1,.val (.slice 162 aq) x2] []
def kp (x0:Int) (x1:(List ab)):Option ((ab×Unit)×Unit):=ai E sI [.val (.int .i64) x0,.val (.slice 83 am) x1] []
def vI (x0:ab) (x1:ab):Option ((ab×Unit)×Unit):=ai E nW [.val am x0,.val am x1,.fn 215 []] []
def M3 (x0:ab) (x1:ab):Option ((ab×Unit)×Unit):=ai E UR [.val am x0,.val am x1] []
def pH (x0:(List ab)):Option ((ab×Unit)×Unit):=ai E xc [.val (.slice 83 am) x0] []
def kq (x0:Int) (x1:(List ab)):Option ((ab×Unit)×Unit):=ai E sJ [.val (.int .i64) x0,.val (.slice 83 am) x1] []
def Q6 (x0:(List aa)) (x1:aa) (x2:(List ah)):Option ((ab×Unit)×Unit):=ai E Ko [.val (.slice 156 an) x0,.val an x1,.val (.slice 162 aq) x2] []
def tc (x0:ab) (x1:ab):Option ((ab×Unit)×Unit):=ai E nW [.val am x0,.val am x1,.fn 218 []] []
def M4 (x0:ab) (x1:ab):Option ((ab×Unit)×Unit):=ai E MR [.val am x0,.val am x1] []
def ua (x0:ab) (x1:ab):Option ((ab×Unit)×Unit):=ai E nW [.val am x0,.val am x1,.fn 219 []] []
def Sj (x0:ab) (x1:ab):Option ((ab×Unit)×Unit):=ai E QX [.val am x0,.val am x1] []
def IL (x0:ab) (x1:ab):Option ((ab×Unit)×Unit):=ai E Kp [.val am x0,.val am x1] []
def pc (x0:ByteArray):Option ((Bool×Unit)×Unit):=ai E s8 [.val .str x0] []
def me (x0:ByteArray) (x1:ByteArray):Option ((Int×Unit)×Unit):=ai E qv [.val .str x0,.val .str x1] []
def C3 (x0:ab) (x1:ab):Option ((Int×Unit)×Unit):=ai E MX [.val am x0,.val am x1] []
def Sk (x0:Int) (x1:ab) (x2:ab):Option ((ab×Unit)×Unit):=ai E QY [.val (.int .i64) x0,.val am x1,.val am x2] []
def uF (x0:(List aa)) (x1:(List ah)):Option ((ab×Unit)×Unit):=ai E QR [.val (.slice 156 an) x0,.val (.slice 162 aq) x1] []
def tQ (x0:l5) (x1:(List Bool)) (x2:(List ab)):Option (((List ah)×Unit)×Unit):=ai E ep [.val bK x0,.val (.slice 4 .bool) x1,.val (.slice 83 am) x2] []
def vJ (x0:(List ae)):Option (((List ah)×Unit)×Unit):=ai E zt [.val (.slice 59 aj) x0] []
def oC (x0:ByteArray) (x1:(List ae)) (x2:(List ag)) (x3:(List ao)):Option ((ab×Unit)×(((List ae)×((List ag)×((List ao)×Unit)))×Unit)):=ai E wY [.ptr 0 b8 [],.val .str x0] [(0,.box b8 (.strct [.row 1,.row 2,.row 3])),(1,.row 59 aj x1 false),(2,.row 75 au x2 false),(3,.row 57 ap x3 false)]
def Hg (x0:ae) (x1:Int) (x2:Int):Option ((Bool×Unit)×(ao×Unit)):=ai E vx [.val aj x0,.ptr 0 ap []] [(0,.box ap (.strct [.val (.int .i64) x1,.val (.int .i64) x2]))]
def yj (x0:ae) (x1:ao):Option ((Bool×Unit)×(ao×Unit)):=ai E vx [.val aj x0,.ptr 0 ap []] [(0,.box ap (.val ap x1))]
def eL (x0:(List ae)) (x1:Int) (x2:Int):Option ((Int×Unit)×(ao×Unit)):=ai E dh [.val (.slice 59 aj) x0,.fn 115 [.ptr 0 ap []]] [(0,.box ap (.strct [.val (.int .i64) x1,.val (.int .i64) x2]))]
def dZ (x0:(List ae)) (x1:Int) (x2:Int):Option (((List ae)×Unit)×(ao×Unit)):=ai E fg [.row 0,.fn 115 [.ptr 1 ap []]] [(0,.row 59 aj x0 false),(1,.box ap (.strct [.val (.int .i64) x1,.val (.int .i64) x2]))]
def eA (x0:(List ae)):Option (Unit×((List ae)×Unit)):=ai E nV [.row 0,.fn 117 []] [(0,.row 59 aj x0 false)]
def FT (x0:(List ae)) (x1:ao) (x2:ByteArray):Option (((List ae)×Unit)×Unit):=ai E G3 [.val (.slice 59 aj) x0,.val ap x1,.val .str x2] []
def vK (x0:(List ao)) (x1:ao):Option ((Int×Unit)×Unit):=ai E jo [.val (.slice 57 ap) x0,.val ap x1] []
def lv (x0:(List ao)) (x1:ao):Option ((Bool×Unit)×Unit):=ai E pA [.val (.slice 57 ap) x0,.val ap x1] []
def aE (x0:ao) (x1:ByteArray) (x2:(List ae)) (x3:(List ag)) (x4:(List ao)):Option ((Bool×Unit)×(((List ae)×((List ag)×((List ao)×Unit)))×Unit)):=ai E zn [.ptr 0 b8 [],.val ap x0,.val .str x1] [(0,.box b8 (.strct [.row 1,.row 2,.row 3])),(1,.row 59 aj x2 false),(2,.row 75 au x3 false),(3,.row 57 ap x4 false)]
def qE (x0:(List aV)) (x1:Int) (x2:(List ae)) (x3:(List ag)) (x4:(List ao)):Option ((Int×(Int×Unit))×(((List ae)×((List ag)×((List ao)×Unit)))×Unit)):=ai E ip [.ptr 0 b8 [],.val (.slice 62 aG) x0,.val (.int .i64) x1] [(0,.box b8 (.strct [.row 1,.row 2,.row 3])),(1,.row 59 aj x2 false),(2,.row 75 au x3 false),(3,.row 57 ap x4 false)]
def xj (x0:(List ae)) (x1:(List aV)) (x2:Int):Option (((List ae)×(Int×(Int×Unit)))×Unit):=ai E EQ [.val (.slice 59 aj) x0,.val (.slice 62 aG) x1,.val (.int .i64) x2] []
def tf (x0:ao) (x1:ao):Option ((Bool×Unit)×Unit):=ai E MJ [.val ap x0,.val ap x1] []
def Ee (x0:ae) (x1:ae):Option ((Bool×Unit)×Unit):=ai E Kb [.val aj x0,.val aj x1] []
def pd (x0:(List ae)) (x1:(List ae)):Option ((Bool×Unit)×Unit):=ai E ul [.val (.slice 59 aj) x0,.val (.slice 59 aj) x1] []
def Ef (x0:aV) (x1:aV):Option ((Bool×Unit)×Unit):=ai E Kc [.val aG x0,.val aG x1] []
def Bb (x0:(List aV)) (x1:(List aV)):Option ((Bool×Unit)×Unit):=ai E um [.val (.slice 62 aG) x0,.val (.slice 62 aG) x1] []
def tg (x0:Int):Option ((ByteArray×Unit)×Unit):=ai E sE [.val (.int .i64) x0] []
def mf (x0:Int) (x1:(List ae)):Option ((Int×Unit)×((List ae)×Unit)):=ai E qi [.row 0,.val (.int .i64) x0] [(0,.row 59 aj x1 false)]
def qF (x0:Int) (x1:(List aV)):Option ((Int×Unit)×((List aV)×Unit)):=ai E qj [.row 0,.val (.int .i64) x0] [(0,.row 62 aG x1 false)]
def uG (x0:(List ae)) (x1:Int):Option ((Int×Unit)×Unit):=ai E qk [.val (.slice 59 aj) x0,.val (.int .i64) x1] []
def vL (x0:(List ae)) (x1:(List aV)) (x2:Int):Option ((Bool×Unit)×Unit):=ai E l6 [.val (.slice 49 aj) x0,.val (.slice 52 aG) x1,.val (.int .i64) x2] []
def IM (x0:(List ae)) (x1:(List aV)) (x2:Int):Option (((List ag)×((List ao)×Unit))×Unit):=ai E J5 [.val (.slice 59 aj) x0,.val (.slice 62 aG) x1,.val (.int .i64) x2] []
def Eg (x0:(List ae)) (x1:(List aV)) (x2:Int):Option (((List ag)×((List ao)×Unit))×Unit):=ai E J6 [.val (.slice 59 aj) x0,.val (.slice 62 aG) x1,.val (.int .i64) x2] []
def Eh (x0:ag) (x1:ag):Option ((Bool×Unit)×Unit):=ai E Kd [.val au x0,.val au x1] []
def vM (x0:(List ag)) (x1:(List ag)):Option ((Bool×Unit)×Unit):=ai E uo [.val (.slice 75 au) x0,.val (.slice 75 au) x1] []
def zI (x0:(List ao)) (x1:(List ao)):Option ((Bool×Unit)×Unit):=ai E wX [.val (.slice 57 ap) x0,.val (.slice 57 ap) x1] []
def vO (x0:Int) (x1:(List ag)):Option ((Int×Unit)×((List ag)×Unit)):=ai E ql [.row 0,.val (.int .i64) x0] [(0,.row 75 au x1 false)]
def yk (x0:Int) (x1:(List ao)):Option ((Int×Unit)×((List ao)×Unit)):=ai E sC [.row 0,.val (.int .i64) x0] [(0,.row 57 ap x1 false)]
def uH (x0:(List ag)) (x1:Int):Option ((Int×Unit)×Unit):=ai E qm [.val (.slice 75 au) x0,.val (.int .i64) x1] []
def xk (x0:(List ao)) (x1:Int):Option ((Int×Unit)×Unit):=ai E sD [.val (.slice 57 ap) x0,.val (.int .i64) x1] []
def zJ (x0:(List ae)) (x1:(List aV)) (x2:Int):Option ((Bool×Unit)×Unit):=ai E oX [.val (.slice 49 aj) x0,.val (.slice 52 aG) x1,.val (.int .i64) x2] []
def qG:Code:=aI Tryz.f5
def unU (n:Nat):List SV:=List.replicate n .undef
def yl (x0:(List ae)) (x1:Int) (x2:Int):Option ((Int×Unit)×Unit):=pt E (aD E) uh (aO E uh []) (at_ qG [1,1,1,0,1,0,0,0,0]) [.seq (at_ qG [1,1,1,0,1,0,0,0,1]),.seq (at_ qG [1,1,1,0,1,0,0,1]),.loop (at_ qG [1,1,1,0,1,0,0]),.block 0,.seq (at_ qG [1,1,1,1])] {slots:=[.val (.slice 49 aj) x0,.val (.int .i64) x1,.undef,.undef,.undef,.val (.int .i64) x2]++unU 21,res:=[],nx:=0,n0:=0}
def qH:Code:=aI Tryz.f6
def ym (x0:(List aV)) (x1:Int) (x2:Int):Option ((Int×Unit)×Unit):=pt E (aD E) ui (aO E ui []) (at_ qH [1,1,1,0,1,0,0,0,0]) [.seq (at_ qH [1,1,1,0,1,0,0,0,1]),.seq (at_ qH [1,1,1,0,1,0,0,1]),.loop (at_ qH [1,1,1,0,1,0,0]),.block 0,.seq (at_ qH [1,1,1,1])] {slots:=[.val (.slice 52 aG) x0,.val (.int .i64) x1,.undef,.undef,.undef,.val (.int .i64) x2]++unU 21,res:=[],nx:=0,n0:=0}
def qI:Code:=aI Tryz.f8
def yn (x0:(List ae)) (x1:Int) (x2:(List ae)):Option (((List ae)×Unit)×Unit):=pt E (aD E) uj (aO E uj []) (at_ qI [1,1,0,1,0,0,0,0]) [.seq (at_ qI [1,1,0,1,0,0,0,1]),.seq (at_ qI [1,1,0,1,0,0,1]),.loop (at_ qI [1,1,0,1,0,0]),.block 0,.seq (at_ qI [1,1,1])] {slots:=[.val (.slice 49 aj) x0,.undef,.undef,.row 0,.val (.int .i64) x1]++unU 18,res:=[(0,.row 59 aj x2 false)],nx:=1,n0:=0}
def qJ:Code:=aI Tryz.f9
def yo (x0:(List aV)) (x1:Int) (x2:(List aV)):Option (((List aV)×Unit)×Unit):=pt E (aD E) uk (aO E uk []) (at_ qJ [1,1,0,1,0,0,0,0]) [.seq (at_ qJ [1,1,0,1,0,0,0,1]),.seq (at_ qJ [1,1,0,1,0,0,1]),.loop (at_ qJ [1,1,0,1,0,0]),.block 0,.seq (at_ qJ [1,1,1])] {slots:=[.val (.slice 52 aG) x0,.undef,.undef,.row 0,.val (.int .i64) x1]++unU 18,res:=[(0,.row 62 aG x2 false)],nx:=1,n0:=0}
def qK:Code:=aI Tryz.f83
def sK (x0:ByteArray) (x1:Int):Option ((Bool×Unit)×Unit):=pt E (aD E) uu (aO E uu []) (at_ qK [1,0,1,0,0,0,0]) [.seq (at_ qK [1,0,1,0,0,0,1]),.seq (at_ qK [1,0,1,0,0,1]),.loop (at_ qK [1,0,1,0,0]),.block 0,.seq (at_ qK [1,1])] {slots:=[.val .str x0,.undef,.undef,.val (.int .i64) x1]++unU 19,res:=[],nx:=0,n0:=0}
def na:Code:=aI Tryz.f90
def lF (x0:ByteArray) (x1:Int) (x2:Bool) (x3:(List aa)):Option (Unit×((ByteArray×(Int×(Bool×((List aa)×Unit))))×Unit)):=pt E (aD E) mT (aO E mT [(0,.box be (.undef)),(1,.row 156 an [] false)]) (at_ na [0,0,0,0]) [.seq (at_ na [0,0,0,1]),.seq (at_ na [0,0,1]),.loop (at_ na [0,0]),.block 0] {slots:=[.ptr 0 be []]++unU 30,res:=[(0,.box be (.strct [.val .str x0,.val (.int .i64) x1,.val .bool x2,.row 1])),(1,.row 156 an x3 false)],nx:=2,n0:=2}
def n4:Code:=aI Tryz.f89
def dp (x0:Int) (x1:Int) (x2:ByteArray) (x3:Int) (x4:Bool) (x5:(List aa)):Option ((Int×Unit)×((ByteArray×(Int×(Bool×((List aa)×Unit))))×Unit)):=pt E (aD E) sG (aO E sG [(0,.box be (.undef)),(1,.row 156 an [] false)]) (at_ n4 [1,1,1,1,0,0,0,0,0]) [.seq (at_ n4 [1,1,1,1,0,0,0,0,1]),.seq (at_ n4 [1,1,1,1,0,0,0,1]),.loop (at_ n4 [1,1,1,1,0,0,0]),.block 0,.seq (at_ n4 [1,1,1,1,1])] {slots:=[.ptr 0 be [],.val (.int .i64) x0,.undef,.undef,.undef,.val (.int .i64) x1]++unU 37,res:=[(0,.box be (.strct [.val .str x2,.val (.int .i64) x3,.val .bool x4,.row 2])),(2,.row 156 an x5 false)],nx:=3,n0:=2}
def mg:Code:=aI Tryz.f180
def kW (x0:ByteArray) (x1:ByteArray) (x2:Int) (x3:Bool) (x4:(List aa)):Option ((Int×Unit)×((ByteArray×(Int×(Bool×((List aa)×Unit))))×Unit)):=pt E (aD E) qp (aO E qp [(0,.box be (.undef)),(1,.row 156 an [] false)]) (at_ mg [1,1,0,0,0,0,0]) [.seq (at_ mg [1,1,0,0,0,0,1]),.seq (at_ mg [1,1,0,0,0,1]),.loop (at_ mg [1,1,0,0,0]),.block 0,.seq (at_ mg [1,1,1])] {slots:=[.ptr 0 be [],.undef,.undef,.val .str x0]++unU 89,res:=[(0,.box be (.strct [.val .str x1,.val (.int .i64) x2,.val .bool x3,.row 1])),(1,.row 156 an x4 false)],nx:=2,n0:=2}
def mh:Code:=aI Tryz.f181
def dS (x0:Int) (x1:ByteArray) (x2:Int) (x3:Bool) (x4:(List aa)):Option ((ByteArray×Unit)×((ByteArray×(Int×(Bool×((List aa)×Unit))))×Unit)):=pt E (aD E) qq (aO E qq [(0,.box be (.undef)),(1,.row 156 an [] false)]) (at_ mh [1,1,0,0,0,0,0]) [.seq (at_ mh [1,1,0,0,0,0,1]),.seq (at_ mh [1,1,0,0,0,1]),.loop (at_ mh [1,1,0,0,0]),.block 0,.seq (at_ mh [1,1,1])] {slots:=[.ptr 0 be [],.undef,.undef,.val (.int .i64) x0]++unU 91,res:=[(0,.box be (.strct [.val .str x1,.val (.int .i64) x2,.val .bool x3,.row 1])),(1,.row 156 an x4 false)],nx:=2,n0:=2}
def qL:Code:=aI Tryz.f237
def yp (x0:Int) (x1:ByteArray):Option ((ByteArray×Unit)×Unit):=pt E (aD E) uy (aO E uy []) (at_ qL [1,1,1,0,0,0,0,0]) [.seq (at_ qL [1,1,1,0,0,0,0,1]),.seq (at_ qL [1,1,1,0,0,0,1]),.loop (at_ qL [1,1,1,0,0,0]),.block 0,.seq (at_ qL [1,1,1,1])] {slots:=[.val (.int .i64) x0,.undef,.undef,.val .str x1]++unU 18,res:=[],nx:=0,n0:=0}
def qM:Code:=aI Tryz.f239
def yq (x0:ByteArray) (x1:Int):Option ((Int×Unit)×Unit):=pt E (aD E) uz (aO E uz []) (at_ qM [1,0,1,0,0,0,0]) [.seq (at_ qM [1,0,1,0,0,0,1]),.seq (at_ qM [1,0,1,0,0,1]),.loop (at_ qM [1,0,1,0,0]),.block 0,.seq (at_ qM [1,1])] {slots:=[.val .str x0,.undef,.undef,.val (.int .i64) x1]++unU 9,res:=[],nx:=0,n0:=0}
def vP:Code:=aI Tryz.f120
def pI (x0:ByteArray) (x1:Int) (x2:Int):Option ((Int×(Bool×Unit))×Unit):=pt E (aD E) A0 (aO E A0 []) (at_ vP [1,1,1,0,1,0,0,0,0]) [.seq (at_ vP [1,1,1,0,1,0,0,0,1]),.seq (at_ vP [1,1,1,0,1,0,0,1]),.loop (at_ vP [1,1,1,0,1,0,0]),.block 0,.seq (at_ vP [1,1,1,1])] {slots:=[.val .str x0,.undef,.undef,.undef,.undef,.undef,.val (.int .i64) x1,.val (.int .i64) x2]++unU 44,res:=[],nx:=0,n0:=0}
def mi:Code:=aI Tryz.f183
def jg (x0:ByteArray) (x1:Int) (x2:Int) (x3:Int) (x4:Bool) (x5:Bool) (x6:Int) (x7:Int) (x8:Bool) (x9:Bool):Option ((cb×(Bool×Unit))×Unit):=pt E (aD E) qr (aO E qr []) (at_ mi [1,1,1,1,0,0,0,0,0]) [.seq (at_ mi [1,1,1,1,0,0,0,0,1]),.seq (at_ mi [1,1,1,1,0,0,0,1]),.loop (at_ mi [1,1,1,1,0,0,0]),.block 0,.seq (at_ mi [1,1,1,1,1])] {slots:=[.val .str x0,.undef,.ptr 0 bI [],.undef,.ptr 1 bI [],.val (.int .i64) x1]++unU 70,res:=[(0,.box bI (.strct [.strct [.val (.int .i64) x2,.val (.int .i64) x3],.val .bool x4,.val .bool x5])),(1,.box bI (.strct [.strct [.val (.int .i64) x6,.val (.int .i64) x7],.val .bool x8,.val .bool x9]))],nx:=2,n0:=0}
def eB:Code:=aI Tryz.f182
def tR (x0:Int) (x1:ByteArray) (x2:Int) (x3:Bool) (x4:(List aa)) (x5:(List Int)):Option ((Int×Unit)×((ByteArray×(Int×(Bool×((List aa)×Unit))))×Unit)):=pt E (aD E) jZ (aO E jZ [(0,.box be (.undef)),(1,.row 156 an [] false)]) (at_ eB [1,1,0,0,0,0,0]) [.seq (at_ eB [1,1,0,0,0,0,1]),.seq (at_ eB [1,1,0,0,0,1]),.loop (at_ eB [1,1,0,0,0]),.block 0,.seq (at_ eB [1,1,1])] {slots:=[.ptr 0 be [],.val (.int .i64) x0,.undef,.undef,.undef,.row 2]++unU 24,res:=[(0,.box be (.strct [.val .str x1,.val (.int .i64) x2,.val .bool x3,.row 1])),(1,.row 156 an x4 false),(2,.row 2 (.int .i64) x5 false)],nx:=3,n0:=2}
def gq:Code:=aI Tryz.f86
def aP (x0:Int) (x1:Int) (x2:ByteArray) (x3:Int) (x4:Int) (x5:ByteArray):Option ((ab×(Bool×Unit))×Unit):=pt E (aD E) jX (aO E jX []) (at_ gq [1,1,1,0,0]) [.seq (at_ gq [1,1,1,0,1]),.seq (at_ gq [1,1,1,1])] {slots:=[.undef,.undef,.ptr 0 am [],.undef,.ptr 1 am []]++unU 71,res:=[(0,.box am (.strct [.val (.int .i64) x0,.val (.int .i64) x1,.val .str x2])),(1,.box am (.strct [.val (.int .i64) x3,.val (.int .i64) x4,.val .str x5]))],nx:=2,n0:=0}
def eV (x0:ByteArray) (x1:Int) (x2:Int) (x3:Int) (x4:ByteArray) (x5:Int) (x6:Int) (x7:ByteArray):Option ((ab×(Bool×Unit))×Unit):=pt E (aD E) jX (aO E jX []) (at_ gq [1,1,0,0,1,1,1,1,1,1,1,0,1,1,0,0,0,0]) [.seq (at_ gq [1,1,0,0,1,1,1,1,1,1,1,0,1,1,0,0,0,1]),.seq (at_ gq [1,1,0,0,1,1,1,1,1,1,1,0,1,1,0,0,1]),.loop (at_ gq [1,1,0,0,1,1,1,1,1,1,1,0,1,1,0,0]),.block 1,.block 0,.seq (at_ gq [1,1,1])] {slots:=[.val .str x0,.undef,.ptr 0 am [],.undef,.ptr 1 am [],.val (.int .i64) x1]++unU 70,res:=[(0,.box am (.strct [.val (.int .i64) x2,.val (.int .i64) x3,.val .str x4])),(1,.box am (.strct [.val (.int .i64) x5,.val (.int .i64) x6,.val .str x7]))],nx:=2,n0:=0}
def eC:Code:=aI Tryz.f121
def jh (x0:Int) (x1:ByteArray) (x2:Int) (x3:Bool) (x4:(List aa)):Option ((Int×Unit)×((ByteArray×(Int×(Bool×((List aa)×Unit))))×Unit)):=pt E (aD E) lh (aO E lh [(0,.box be (.undef)),(1,.row 156 an [] false)]) (at_ eC [1,0,0,1,1,1,1,1,1,1,0,0,1,0,0,0,0]) [.seq (at_ eC [1,0,0,1,1,1,1,1,1,1,0,0,1,0,0,0,1]),.seq (at_ eC [1,0,0,1,1,1,1,1,1,1,0,0,1,0,0,1]),.loop (at_ eC [1,0,0,1,1,1,1,1,1,1,0,0,1,0,0]),.block 1,.seq (at_ eC [1,0,0,1,1,1,1,1,1,1,0,1]),.block 0,.seq (at_ eC [1,1])] {slots:=[.ptr 0 be [],.undef,.undef,.undef,.undef,.val (.int .i64) x0]++unU 140,res:=[(0,.box be (.strct [.val .str x1,.val (.int .i64) x2,.val .bool x3,.row 2])),(2,.row 156 an x4 false)],nx:=3,n0:=2}
def fA (x0:ByteArray) (x1:Int) (x2:ByteArray) (x3:Int) (x4:Bool) (x5:(List aa)):Option ((Int×Unit)×((ByteArray×(Int×(Bool×((List aa)×Unit))))×Unit)):=pt E (aD E) lh (aO E lh [(0,.box be (.undef)),(1,.row 156 an [] false)]) (at_ eC [1,1,1,0,1,0,0,0,0]) [.seq (at_ eC [1,1,1,0,1,0,0,0,1]),.seq (at_ eC [1,1,1,0,1,0,0,1]),.loop (at_ eC [1,1,1,0,1,0,0]),.block 3,.seq (at_ eC [1,1,1,1])] {slots:=[.ptr 0 be [],.undef,.undef,.undef,.undef,.undef,.undef,.val .str x0,.val (.int .i64) x1]++unU 137,res:=[(0,.box be (.strct [.val .str x2,.val (.int .i64) x3,.val .bool x4,.row 2])),(2,.row 156 an x5 false)],nx:=3,n0:=2}
def gd:Code:=aI Tryz.f122
def sL (x0:Int) (x1:Int) (x2:ByteArray) (x3:Int) (x4:Bool) (x5:(List aa)) (x6:(List Int)):Option ((Int×Unit)×((ByteArray×(Int×(Bool×((List aa)×Unit))))×Unit)):=pt E (aD E) mU (aO E mU [(0,.box be (.undef)),(1,.row 156 an [] false)]) (at_ gd [1,1,0,1,0,0,0,0]) [.seq (at_ gd [1,1,0,1,0,0,0,1]),.seq (at_ gd [1,1,0,1,0,0,1]),.loop (at_ gd [1,1,0,1,0,0]),.block 0,.seq (at_ gd [1,1,1])] {slots:=[.ptr 0 be [],.val (.int .i64) x0,.undef,.undef,.undef,.row 2,.val (.int .i64) x1]++unU 27,res:=[(0,.box be (.strct [.val .str x2,.val (.int .i64) x3,.val .bool x4,.row 1])),(1,.row 156 an x5 false),(2,.row 2 (.int .i64) x6 false)],nx:=3,n0:=2}
def th:Code:=aI Tryz.f125
def uI (x0:(List aa)) (x1:Int) (x2:Int) (x3:Int):Option ((Int×Unit)×Unit):=pt E (aD E) w7 (aO E w7 []) (at_ th [1,1,0,1,0,0,0,0]) [.seq (at_ th [1,1,0,1,0,0,0,1]),.seq (at_ th [1,1,0,1,0,0,1]),.loop (at_ th [1,1,0,1,0,0]),.block 0,.seq (at_ th [1,1,1])] {slots:=[.val (.slice 156 an) x0,.val (.int .i64) x1,.undef,.undef,.undef,.val (.int .i64) x2,.val (.int .i64) x3]++unU 37,res:=[],nx:=0,n0:=0}
def tj:Code:=aI Tryz.f126
def uJ (x0:(List aa)) (x1:Int) (x2:Int) (x3:Int):Option ((Int×Unit)×Unit):=pt E (aD E) w8 (aO E w8 []) (at_ tj [1,1,0,1,0,0,0,0]) [.seq (at_ tj [1,1,0,1,0,0,0,1]),.seq (at_ tj [1,1,0,1,0,0,1]),.loop (at_ tj [1,1,0,1,0,0]),.block 0,.seq (at_ tj [1,1,1])] {slots:=[.val (.slice 156 an) x0,.val (.int .i64) x1,.undef,.undef,.undef,.val (.int .i64) x2,.val (.int .i64) x3]++unU 24,res:=[],nx:=0,n0:=0}
def dq:Code:=aI Tryz.f91
def eH (x0:(List aa)) (x1:Int):Option ((Bool×Unit)×Unit):=pt E (aD E) jY (aO E jY []) (at_ dq [1,1,0,1,0,0,0,0]) [.seq (at_ dq [1,1,0,1,0,0,0,1]),.seq (at_ dq [1,1,0,1,0,0,1]),.loop (at_ dq [1,1,0,1,0,0]),.block 0,.seq (at_ dq [1,1,1])] {slots:=[.val (.slice 156 an) x0,.undef,.undef,.val (.int .i64) x1]++unU 83,res:=[],nx:=0,n0:=0}
def qN:Code:=aI Tryz.f174
def n7 (x0:ByteArray) (x1:ByteArray) (x2:Int):Option ((ByteArray×Unit)×Unit):=pt E (aD E) ux (aO E ux []) (at_ qN [1,1,0,1,0,0,0,0]) [.seq (at_ qN [1,1,0,1,0,0,0,1]),.seq (at_ qN [1,1,0,1,0,0,1]),.loop (at_ qN [1,1,0,1,0,0]),.block 0,.seq (at_ qN [1,1,1])] {slots:=[.val .str x0,.undef,.undef,.val .str x1,.val (.int .i64) x2]++unU 21,res:=[],nx:=0,n0:=0}
def vQ:Code:=aI Tryz.f69
def tk (x0:Int) (x1:ByteArray):Option ((ByteArray×Unit)×Unit):=pt E (aD E) AZ (aO E AZ []) (at_ vQ [1,1,1,0,0,0,0,0]) [.seq (at_ vQ [1,1,1,0,0,0,0,1]),.seq (at_ vQ [1,1,1,0,0,0,1]),.loop (at_ vQ [1,1,1,0,0,0]),.block 0,.seq (at_ vQ [1,1,1,1])] {slots:=[.val (.int .i64) x0,.undef,.undef,.val .str x1]++unU 25,res:=[],nx:=0,n0:=0}
def tl:Code:=aI Tryz.f119
def n8 (x0:(List aa)) (x1:ByteArray) (x2:Int) (x3:Int) (x4:Int) (x5:ab) (x6:cb) (x7:cb) (x8:(List Int)):Option ((ByteArray×Unit)×Unit):=pt E (aD E) w6 (aO E w6 []) (at_ tl [1,1,1,1,0,1,0,0,0,0]) [.seq (at_ tl [1,1,1,1,0,1,0,0,0,1]),.seq (at_ tl [1,1,1,1,0,1,0,0,1]),.loop (at_ tl [1,1,1,1,0,1,0,0]),.block 1,.seq (at_ tl [1,1,1,1,1])] {slots:=[.val (.slice 156 an) x0,.undef,.undef,.undef,.undef,.undef,.undef,.ptr 0 an [],.undef,.undef,.val .str x1,.val (.int .i64) x2]++unU 101,res:=[(0,.box an (.strct [.val (.int .i64) x3,.val (.int .i64) x4,.val am x5,.val bI x6,.val bI x7,.val (.slice 2 (.int .i64)) x8]))],nx:=1,n0:=0}
def n9:Code:=aI Tryz.f85
def kb (x0:ByteArray) (x1:Bool) (x2:Int) (x3:Int) (x4:ByteArray):Option ((ab×(Bool×Unit))×Unit):=pt E (aD E) sF (aO E sF []) (at_ n9 [1,1,1,1,0,0,0,0,0]) [.seq (at_ n9 [1,1,1,1,0,0,0,0,1]),.seq (at_ n9 [1,1,1,1,0,0,0,1]),.loop (at_ n9 [1,1,1,1,0,0,0]),.block 0,.seq (at_ n9 [1,1,1,1,1])] {slots:=[.val .str x0,.undef,.ptr 0 am [],.undef,.val .bool x1]++unU 43,res:=[(0,.box am (.strct [.val (.int .i64) x2,.val (.int .i64) x3,.val .str x4]))],nx:=1,n0:=0}
def qO:Code:=aI Tryz.f38
def oa (x0:(List ae)) (x1:Int):Option ((Bool×Unit)×Unit):=pt E (aD E) up (aO E up []) (at_ qO [1,1,0,1,0,0,0,0]) [.seq (at_ qO [1,1,0,1,0,0,0,1]),.seq (at_ qO [1,1,0,1,0,0,1]),.loop (at_ qO [1,1,0,1,0,0]),.block 0,.seq (at_ qO [1,1,1])] {slots:=[.val (.slice 59 aj) x0,.undef,.undef,.val (.int .i64) x1]++unU 67,res:=[],nx:=0,n0:=0}
def qP:Code:=aI Tryz.f39
def ig (x0:(List aV)) (x1:Int):Option ((Bool×Unit)×Unit):=pt E (aD E) uq (aO E uq []) (at_ qP [1,1,0,1,0,0,0,0]) [.seq (at_ qP [1,1,0,1,0,0,0,1]),.seq (at_ qP [1,1,0,1,0,0,1]),.loop (at_ qP [1,1,0,1,0,0]),.block 0,.seq (at_ qP [1,1,1])] {slots:=[.val (.slice 62 aG) x0,.undef,.undef,.val (.int .i64) x1]++unU 120,res:=[],nx:=0,n0:=0}
def vR:Code:=aI Tryz.f60
def ii (x0:(List ae)) (x1:ByteArray) (x2:Bool) (x3:Int) (x4:Int) (x5:Int) (x6:(List ae)):Option (((List ae)×Unit)×Unit):=pt E (aD E) AW (aO E AW []) (at_ vR [1,1,1,0,1,0,0,0,0]) [.seq (at_ vR [1,1,1,0,1,0,0,0,1]),.seq (at_ vR [1,1,1,0,1,0,0,1]),.loop (at_ vR [1,1,1,0,1,0,0]),.block 0,.seq (at_ vR [1,1,1,1])] {slots:=[.val (.slice 59 aj) x0,.undef,.val .str x1,.undef,.ptr 0 ap [],.undef,.undef,.row 1,.val .bool x2,.val (.int .i64) x3]++unU 50,res:=[(0,.box ap (.strct [.val (.int .i64) x4,.val (.int .i64) x5])),(1,.row 59 aj x6 false)],nx:=2,n0:=0}
def vS:Code:=aI Tryz.f61
def xl (x0:(List ao)) (x1:Int) (x2:Int) (x3:Int):Option ((Bool×Unit)×Unit):=pt E (aD E) AX (aO E AX []) (at_ vS [1,0,1,0,0,0,0]) [.seq (at_ vS [1,0,1,0,0,0,1]),.seq (at_ vS [1,0,1,0,0,1]),.loop (at_ vS [1,0,1,0,0]),.block 0,.seq (at_ vS [1,1])] {slots:=[.val (.slice 57 ap) x0,.undef,.undef,.ptr 0 ap [],.undef,.val (.int .i64) x1]++unU 12,res:=[(0,.box ap (.strct [.val (.int .i64) x2,.val (.int .i64) x3]))],nx:=1,n0:=0}
def qQ:Code:=aI Tryz.f88
def ll (x0:(List aa)) (x1:Int) (x2:(List ag)):Option (((List ag)×Unit)×Unit):=pt E (aD E) uv (aO E uv []) (at_ qQ [1,1,1,0,1,0,0,0,0]) [.seq (at_ qQ [1,1,1,0,1,0,0,0,1]),.seq (at_ qQ [1,1,1,0,1,0,0,1]),.loop (at_ qQ [1,1,1,0,1,0,0]),.block 0,.seq (at_ qQ [1,1,1,1])] {slots:=[.val (.slice 156 an) x0,.undef,.undef,.row 0,.val (.int .i64) x1]++unU 53,res:=[(0,.row 75 au x2 false)],nx:=1,n0:=0}
def aw:Code:=aI Tryz.f42
def lm (x0:Int) (x1:(List ae)) (x2:Int) (x3:Int) (x4:Int) (x5:(List ag)) (x6:(List ao)) (x7:Int) (x8:Int) (x9:Int) (x10:(List ag)) (x11:(List ae)) (x12:(List ag)) (x13:(List ao)):Option ((ew×Unit)×Unit):=pt E (aD E) bU (aO E bU []) (at_ aw [1,1,0,1,0,0,0,0]) [.seq (at_ aw [1,1,0,1,0,0,0,1]),.seq (at_ aw [1,1,0,1,0,0,1]),.loop (at_ aw [1,1,0,1,0,0]),.block 0,.seq (at_ aw [1,1,1])] {slots:=[.undef,.undef,.ptr 0 aZ [],.undef,.ptr 1 aZ [],.row 2,.val (.int .i64) x0]++unU 109,res:=[(0,.box aZ (.strct [.val (.slice 59 aj) x1,.val (.int .i64) x2,.val (.int .i64) x3,.val (.int .i64) x4,.val (.slice 75 au) x5,.val (.slice 57 ap) x6])),(1,.box aZ (.strct [.row 3,.val (.int .i64) x7,.val (.int .i64) x8,.val (.int .i64) x9,.row 4,.row 5])),(2,.row 75 au x10 false),(3,.row 59 aj x11 false),(4,.row 75 au x12 false),(5,.row 57 ap x13 false)],nx:=6,n0:=0}
def zK:Code:=aI Tryz.f127
def Bc (x0:(List ah)) (x1:Int) (x2:Int) (x3:Int) (x4:Int) (x5:Int) (x6:ByteArray):Option ((ab×Unit)×Unit):=pt E (aD E) D1 (aO E D1 []) (at_ zK [1,0,1,0,0,0,0]) [.seq (at_ zK [1,0,1,0,0,0,1]),.seq (at_ zK [1,0,1,0,0,1]),.loop (at_ zK [1,0,1,0,0]),.block 0,.seq (at_ zK [1,1])] {slots:=[.val (.slice 162 aq) x0,.undef,.undef,.ptr 0 ap [],.ptr 1 am [],.val (.int .i64) x1]++unU 19,res:=[(0,.box ap (.strct [.val (.int .i64) x2,.val (.int .i64) x3])),(1,.box am (.strct [.val (.int .i64) x4,.val (.int .i64) x5,.val .str x6]))],nx:=2,n0:=0}
def zL:Code:=aI Tryz.f136
def Bd (x0:(List ae)) (x1:Int) (x2:Int) (x3:Int):Option ((ByteArray×Unit)×Unit):=pt E (aD E) D2 (aO E D2 []) (at_ zL [1,0,1,0,0,0,0]) [.seq (at_ zL [1,0,1,0,0,0,1]),.seq (at_ zL [1,0,1,0,0,1]),.loop (at_ zL [1,0,1,0,0]),.block 0,.seq (at_ zL [1,1])] {slots:=[.val (.slice 59 aj) x0,.undef,.undef,.ptr 0 ap [],.undef,.val (.int .i64) x1]++unU 18,res:=[(0,.box ap (.strct [.val (.int .i64) x2,.val (.int .i64) x3]))],nx:=1,n0:=0}
def d7:Code:=aI Tryz.f138
def jJ (x0:(List ae)) (x1:Int) (x2:(List ao)) (x3:(List ag)):Option (((List ao)×Unit)×Unit):=pt E (aD E) mV (aO E mV []) (at_ d7 [1,1,1,0,1,0,0,0,0]) [.seq (at_ d7 [1,1,1,0,1,0,0,0,1]),.seq (at_ d7 [1,1,1,0,1,0,0,1]),.loop (at_ d7 [1,1,1,0,1,0,0]),.block 0,.seq (at_ d7 [1,1,1,1])] {slots:=[.val (.slice 59 aj) x0,.undef,.undef,.undef,.undef,.row 0,.row 1,.val (.int .i64) x1]++unU 42,res:=[(0,.row 57 ap x2 false),(1,.row 75 au x3 false)],nx:=2,n0:=0}
def dT:Code:=aI Tryz.f137
def mj (x0:(List ae)) (x1:Int) (x2:Int) (x3:Int) (x4:(List ao)):Option ((Bool×Unit)×Unit):=pt E (aD E) li (aO E li []) (at_ dT [1,1,0,1,0,0,0,0]) [.seq (at_ dT [1,1,0,1,0,0,0,1]),.seq (at_ dT [1,1,0,1,0,0,1]),.loop (at_ dT [1,1,0,1,0,0]),.block 0,.seq (at_ dT [1,1,1])] {slots:=[.val (.slice 59 aj) x0,.undef,.undef,.ptr 0 ap [],.undef,.row 1,.val (.int .i64) x1]++unU 43,res:=[(0,.box ap (.strct [.val (.int .i64) x2,.val (.int .i64) x3])),(1,.row 57 ap x4 false)],nx:=2,n0:=0}
def vU:Code:=aI Tryz.f139
def xm (x0:(List ah)) (x1:Int) (x2:ao) (x3:ab):Option (((List ah)×Unit)×Unit):=pt E (aD E) A1 (aO E A1 []) (at_ vU [1,1,0,0,0,0,0]) [.seq (at_ vU [1,1,0,0,0,0,1]),.seq (at_ vU [1,1,0,0,0,1]),.loop (at_ vU [1,1,0,0,0]),.block 0,.seq (at_ vU [1,1,1])] {slots:=[.val (.slice 162 aq) x0,.undef,.undef,.ptr 0 aq [],.undef,.val (.int .i64) x1]++unU 31,res:=[(0,.box aq (.strct [.val ap x2,.val am x3]))],nx:=1,n0:=0}
def ob:Code:=aI Tryz.f92
def ml (x0:(List ah)) (x1:Int):Option ((Bool×Unit)×Unit):=pt E (aD E) sH (aO E sH []) (at_ ob [1,1,0,1,0,0,0,0]) [.seq (at_ ob [1,1,0,1,0,0,0,1]),.seq (at_ ob [1,1,0,1,0,0,1]),.loop (at_ ob [1,1,0,1,0,0]),.block 0,.seq (at_ ob [1,1,1])] {slots:=[.val (.slice 162 aq) x0,.undef,.undef,.val (.int .i64) x1]++unU 44,res:=[],nx:=0,n0:=0}
def fB:Code:=aI Tryz.f190
def nc (x0:(List aa)) (x1:Int) (x2:(List ah)) (x3:Int) (x4:(List ab)):Option (((List ab)×Unit)×Unit):=pt E (aD E) pB (aO E pB []) (at_ fB [1,1,0,1,0,0,0,0]) [.seq (at_ fB [1,1,0,1,0,0,0,1]),.seq (at_ fB [1,1,0,1,0,0,1]),.loop (at_ fB [1,1,0,1,0,0]),.block 0,.seq (at_ fB [1,1,1])] {slots:=[.val (.slice 156 an) x0,.val (.int .i64) x1,.val (.slice 162 aq) x2,.undef,.undef,.undef,.undef,.row 0,.val (.int .i64) x3]++unU 71,res:=[(0,.row 83 am x4 false)],nx:=1,n0:=0}
def tm:Code:=aI Tryz.f189
def bo (x0:Int) (x1:(List ab)) (x2:Int) (x3:Bool) (x4:Bool) (x5:Int) (x6:Int) (x7:Int) (x8:ByteArray) (x9:Int) (x10:Int) (x11:ByteArray):Option ((ab×Unit)×Unit):=pt E (aD E) xb (aO E xb []) (at_ tm [1,1,1,1,1,0,1,0,0,0,0]) [.seq (at_ tm [1,1,1,1,1,0,1,0,0,0,1]),.seq (at_ tm [1,1,1,1,1,0,1,0,0,1]),.loop (at_ tm [1,1,1,1,1,0,1,0,0]),.block 0,.seq (at_ tm [1,1,1,1,1,1])] {slots:=[.val (.int .i64) x0,.val (.slice 83 am) x1,.undef,.undef,.ptr 0 am [],.ptr 1 am [],.val (.int .i64) x2,.val .bool x3,.val .bool x4,.val (.int .i64) x5]++unU 100,res:=[(0,.box am (.strct [.val (.int .i64) x6,.val (.int .i64) x7,.val .str x8])),(1,.box am (.strct [.val (.int .i64) x9,.val (.int .i64) x10,.val .str x11]))],nx:=2,n0:=0}
def aU:Code:=aI Tryz.f95
def qR (x0:(List ae)) (x1:(List ah)) (x2:(List ao)) (x3:Int) (x4:(List ah)) (x5:(List ao)):Option (((List ah)×Unit)×Unit):=pt E (aD E) en (aO E en []) (at_ aU [1,1,1,0,1,0,0,0,0]) [.seq (at_ aU [1,1,1,0,1,0,0,0,1]),.seq (at_ aU [1,1,1,0,1,0,0,1]),.loop (at_ aU [1,1,1,0,1,0,0]),.block 0,.seq (at_ aU [1,1,1,1])] {slots:=[.val (.slice 59 aj) x0,.val (.slice 162 aq) x1,.val (.slice 57 ap) x2,.undef,.undef,.undef,.undef,.row 0,.row 1,.val (.int .i64) x3]++unU 136,res:=[(0,.row 162 aq x4 false),(1,.row 57 ap x5 false)],nx:=2,n0:=0}
def vV:Code:=aI Tryz.f66
def xn (x0:(List ae)) (x1:Int) (x2:(List ao)):Option (((List ah)×Unit)×Unit):=pt E (aD E) AY (aO E AY []) (at_ vV [1,1,0,1,0,0,0,0]) [.seq (at_ vV [1,1,0,1,0,0,0,1]),.seq (at_ vV [1,1,0,1,0,0,1]),.loop (at_ vV [1,1,0,1,0,0]),.block 0,.seq (at_ vV [1,1,1])] {slots:=[.val (.slice 59 aj) x0,.undef,.undef,.row 0,.val (.int .i64) x1]++unU 18,res:=[(0,.row 57 ap x2 false)],nx:=1,n0:=0}
def ij:Code:=aI Tryz.f27
def Be (x0:(List aV)) (x1:Int) (x2:Int) (x3:Int) (x4:Int) (x5:Int) (x6:Int) (x7:Int) (x8:(List ae)) (x9:(List ag)) (x10:(List ao)) (x11:(List ae)) (x12:(List ag)) (x13:(List ao)):Option ((ew×Unit)×Unit):=pt E (aD E) pz (aO E pz []) (at_ ij [1,1,0,0,0,0,0]) [.seq (at_ ij [1,1,0,0,0,0,1]),.seq (at_ ij [1,1,0,0,0,1]),.loop (at_ ij [1,1,0,0,0]),.block 0,.seq (at_ ij [1,1,1])] {slots:=[.undef,.val (.slice 62 aG) x0,.val (.int .i64) x1,.undef,.undef,.undef,.ptr 0 aZ [],.ptr 1 aZ []]++unU 106,res:=[(0,.box aZ (.strct [.row 2,.val (.int .i64) x2,.val (.int .i64) x3,.val (.int .i64) x4,.row 3,.row 4])),(1,.box aZ (.strct [.row 5,.val (.int .i64) x5,.val (.int .i64) x6,.val (.int .i64) x7,.row 6,.row 7])),(2,.row 59 aj x8 false),(3,.row 75 au x9 false),(4,.row 57 ap x10 false),(5,.row 59 aj x11 false),(6,.row 75 au x12 false),(7,.row 57 ap x13 false)],nx:=8,n0:=0}
def qS:Code:=aI Tryz.f96
def oD (x0:Int) (x1:(List Int)) (x2:Int) (x3:Int):Option ((Int×Unit)×Unit):=pt E (aD E) qn (aO E qn []) (at_ qS [1,1,0,1,0,0,0]) [.seq (at_ qS [1,1,0,1,0,0,1]),.loop (at_ qS [1,1,0,1,0,0]),.block 0,.seq (at_ qS [1,1,1])] {slots:=[.undef,.undef,.undef,.val (.int .i64) x0,.undef,.undef,.val (.slice 3 (.int .i64)) x1,.val (.int .i64) x2,.val (.int .i64) x3]++unU 9,res:=[],nx:=0,n0:=0}
def xo:Code:=aI Tryz.f100
def uK (x0:ByteArray) (x1:Int) (x2:Int) (x3:Int):Option ((Bool×Unit)×Unit):=pt E (aD E) wZ (aO E wZ []) (at_ xo [1,0,1,0,0,0]) [.seq (at_ xo [1,0,1,0,0,1]),.loop (at_ xo [1,0,1,0,0]),.block 0,.seq (at_ xo [1,1])] {slots:=[.val .str x0,.val (.int .i64) x1,.undef,.undef,.undef,.undef,.undef,.val (.int .i64) x2,.val (.int .i64) x3]++unU 17,res:=[],nx:=0,n0:=0}
def ne:Code:=aI Tryz.f147
def lG (x0:Int) (x1:Int) (x2:ByteArray) (x3:Bool) (x4:(List ByteArray)) (x5:(List aa)):Option ((ByteArray×Unit)×((ByteArray×((List aa)×(Bool×Unit)))×Unit)):=pt E (aD E) mW (aO E mW [(0,.box bm (.undef)),(1,.row 156 an [] false)]) (at_ ne [1,1,0,1,0,0,0]) [.seq (at_ ne [1,1,0,1,0,0,1]),.loop (at_ ne [1,1,0,1,0,0]),.block 0,.seq (at_ ne [1,1,1])] {slots:=[.ptr 0 bm [],.undef,.undef,.undef,.undef,.undef,.undef,.row 2,.val (.int .i64) x0,.val (.int .i64) x1]++unU 11,res:=[(0,.box bm (.strct [.val .str x2,.row 3,.val .bool x3])),(2,.row 9 .str x4 false),(3,.row 156 an x5 false)],nx:=4,n0:=2}
def kI:Code:=aI Tryz.f252
def jT (x0:ByteArray) (x1:ByteArray) (x2:ByteArray) (x3:Bool) (x4:(List aa)):Option ((Int×Unit)×((ByteArray×((List aa)×(Bool×Unit)))×Unit)):=pt E (aD E) kC (aO E kC [(0,.box bm (.undef)),(1,.row 156 an [] false)]) (at_ kI [1,1,0,0,0,0,0]) [.seq (at_ kI [1,1,0,0,0,0,1]),.block 1,.loop (at_ kI [1,1,0,0,0]),.block 0,.seq (at_ kI [1,1,1])] {slots:=[.ptr 0 bm [],.undef,.undef,.val .str x0,.val .str x1]++unU 38,res:=[(0,.box bm (.strct [.val .str x2,.row 1,.val .bool x3])),(1,.row 156 an x4 false)],nx:=2,n0:=2}
def mm:Code:=aI Tryz.f145
def gP (x0:ByteArray) (x1:Int) (x2:Int) (x3:Int) (x4:ByteArray) (x5:Int) (x6:Int) (x7:ByteArray):Option ((ab×(Bool×Unit))×Unit):=pt E (aD E) qo (aO E qo []) (at_ mm [1,1,0,1,0,1,1,1,1,1,0,1,0,0,0,0]) [.seq (at_ mm [1,1,0,1,0,1,1,1,1,1,0,1,0,0,0,1]),.seq (at_ mm [1,1,0,1,0,1,1,1,1,1,0,1,0,0,1]),.loop (at_ mm [1,1,0,1,0,1,1,1,1,1,0,1,0,0]),.block 1,.block 0,.seq (at_ mm [1,1,1])] {slots:=[.val .str x0,.undef,.ptr 0 am [],.undef,.ptr 1 am [],.undef,.undef,.val (.int .i64) x1]++unU 56,res:=[(0,.box am (.strct [.val (.int .i64) x2,.val (.int .i64) x3,.val .str x4])),(1,.box am (.strct [.val (.int .i64) x5,.val (.int .i64) x6,.val .str x7]))],nx:=2,n0:=0}
def qU:Code:=aI Tryz.f285
def yr (x0:ByteArray) (x1:Int):Option ((Int×Unit)×Unit):=pt E (aD E) uA (aO E uA []) (at_ qU [1,0,1,0,0,0,0]) [.seq (at_ qU [1,0,1,0,0,0,1]),.seq (at_ qU [1,0,1,0,0,1]),.loop (at_ qU [1,0,1,0,0]),.block 0,.seq (at_ qU [1,1])] {slots:=[.val .str x0,.undef,.undef,.val (.int .i64) x1]++unU 9,res:=[],nx:=0,n0:=0}
def cl:Code:=aI Tryz.f101
def fw (x0:Int) (x1:Int) (x2:Int) (x3:ByteArray) (x4:Bool) (x5:(List aa)):Option ((Int×Unit)×((ByteArray×((List aa)×(Bool×Unit)))×Unit)):=pt E (aD E) fW (aO E fW [(0,.box bm (.undef)),(1,.row 156 an [] false)]) (at_ cl [1,1,0,0,0,0,0]) [.seq (at_ cl [1,1,0,0,0,0,1]),.seq (at_ cl [1,1,0,0,0,1]),.loop (at_ cl [1,1,0,0,0]),.block 0,.seq (at_ cl [1,1,1])] {slots:=[.ptr 0 bm [],.val (.int .i64) x0,.val (.int .i64) x1,.undef,.undef,.undef,.undef,.val (.int .i64) x2]++unU 47,res:=[(0,.box bm (.strct [.val .str x3,.row 2,.val .bool x4])),(2,.row 156 an x5 false)],nx:=3,n0:=2}
def dx:Code:=aI Tryz.f257
def xp (x0:Int) (x1:Int) (x2:ByteArray) (x3:Bool) (x4:(List aa)) (x5:(List Int)):Option ((Int×Unit)×((ByteArray×((List aa)×(Bool×Unit)))×Unit)):=pt E (aD E) ir (aO E ir [(0,.box bm (.undef)),(1,.row 156 an [] false)]) (at_ dx [1,1,1,0,0,0,0,0]) [.seq (at_ dx [1,1,1,0,0,0,0,1]),.seq (at_ dx [1,1,1,0,0,0,1]),.loop (at_ dx [1,1,1,0,0,0]),.block 0,.seq (at_ dx [1,1,1,1])] {slots:=[.ptr 0 bm [],.val (.int .i64) x0,.val (.int .i64) x1,.undef,.undef,.undef,.undef,.row 2]++unU 59,res:=[(0,.box bm (.strct [.val .str x2,.row 1,.val .bool x3])),(1,.row 156 an x4 false),(2,.row 2 (.int .i64) x5 false)],nx:=3,n0:=2}
def cC (x0:Int) (x1:Int) (x2:ByteArray) (x3:Bool) (x4:(List Int)) (x5:(List aa)):Option ((Int×Unit)×((ByteArray×((List aa)×(Bool×Unit)))×Unit)):=pt E (aD E) ir (aO E ir [(0,.box bm (.undef)),(1,.row 156 an [] false)]) (at_ dx [1,1,1,0,0,0,0,0]) [.seq (at_ dx [1,1,1,0,0,0,0,1]),.seq (at_ dx [1,1,1,0,0,0,1]),.loop (at_ dx [1,1,1,0,0,0]),.block 0,.seq (at_ dx [1,1,1,1])] {slots:=[.ptr 0 bm [],.val (.int .i64) x0,.val (.int .i64) x1,.undef,.undef,.undef,.undef,.row 2]++unU 59,res:=[(0,.box bm (.strct [.val .str x2,.row 3,.val .bool x3])),(2,.row 2 (.int .i64) x4 false),(3,.row 156 an x5 false)],nx:=4,n0:=2}
def dy:Code:=aI Tryz.f202
def dC (x0:Int) (x1:Int) (x2:ByteArray) (x3:Bool) (x4:(List aa)):Option ((Int×Unit)×((ByteArray×((List aa)×(Bool×Unit)))×Unit)):=pt E (aD E) iq (aO E iq [(0,.box bm (.undef)),(1,.row 156 an [] false)]) (at_ dy [1,1,0,0,1,1,1,0,1,0,0,0,0]) [.seq (at_ dy [1,1,0,0,1,1,1,0,1,0,0,0,1]),.seq (at_ dy [1,1,0,0,1,1,1,0,1,0,0,1]),.loop (at_ dy [1,1,0,0,1,1,1,0,1,0,0]),.block 1,.block 0,.seq (at_ dy [1,1,1])] {slots:=[.ptr 0 bm [],.val (.int .i64) x0,.undef,.undef,.undef,.val (.int .i64) x1]++unU 114,res:=[(0,.box bm (.strct [.val .str x2,.row 2,.val .bool x3])),(2,.row 156 an x4 false)],nx:=3,n0:=2}
def dP (x0:Int) (x1:ByteArray) (x2:Int) (x3:ByteArray) (x4:Bool) (x5:(List aa)):Option ((Int×Unit)×((ByteArray×((List aa)×(Bool×Unit)))×Unit)):=pt E (aD E) iq (aO E iq [(0,.box bm (.undef)),(1,.row 156 an [] false)]) (at_ dy [1,1,1,1,1,1,0,1,0,0,0,0]) [.seq (at_ dy [1,1,1,1,1,1,0,1,0,0,0,1]),.seq (at_ dy [1,1,1,1,1,1,0,1,0,0,1]),.loop (at_ dy [1,1,1,1,1,1,0,1,0,0]),.block 3,.seq (at_ dy [1,1,1,1,1,1,1])] {slots:=[.ptr 0 bm [],.val (.int .i64) x0,.undef,.undef,.undef,.undef,.undef,.undef,.undef,.val .str x1,.undef,.undef,.undef,.undef,.val (.int .i64) x2]++unU 105,res:=[(0,.box bm (.strct [.val .str x3,.row 2,.val .bool x4])),(2,.row 156 an x5 false)],nx:=3,n0:=2}
def zM:Code:=aI Tryz.f153
def rS (x0:(List aa)) (x1:Int) (x2:Int) (x3:Int) (x4:Int):Option ((Int×Unit)×Unit):=pt E (aD E) D3 (aO E D3 []) (at_ zM [1,1,1,0,1,0,0,0,0]) [.seq (at_ zM [1,1,1,0,1,0,0,0,1]),.seq (at_ zM [1,1,1,0,1,0,0,1]),.loop (at_ zM [1,1,1,0,1,0,0]),.block 0,.seq (at_ zM [1,1,1,1])] {slots:=[.val (.slice 156 an) x0,.val (.int .i64) x1,.val (.int .i64) x2,.undef,.undef,.undef,.undef,.val (.int .i64) x3,.val (.int .i64) x4]++unU 67,res:=[],nx:=0,n0:=0}
def nf:Code:=aI Tryz.f242
def kJ (x0:(List aa)) (x1:(List Int)) (x2:Int) (x3:Int) (x4:Int) (x5:Int) (x6:ab) (x7:cb) (x8:cb) (x9:(List Int)) (x10:(List ByteArray)):Option ((ByteArray×Unit)×Unit):=pt E (aD E) mX (aO E mX []) (at_ nf [1,1,1,1,0,1,0,0,0]) [.seq (at_ nf [1,1,1,1,0,1,0,0,1]),.loop (at_ nf [1,1,1,1,0,1,0,0]),.block 1,.seq (at_ nf [1,1,1,1,1])] {slots:=[.val (.slice 156 an) x0,.undef,.undef,.undef,.undef,.undef,.undef,.ptr 0 an [],.undef,.undef,.row 1,.undef,.undef,.undef,.undef,.undef,.undef,.undef,.undef,.undef,.undef,.undef,.undef,.undef,.undef,.undef,.undef,.undef,.undef,.undef,.undef,.undef,.undef,.undef,.undef,.undef,.undef,.undef,.undef,.undef,.undef,.undef,.undef,.undef,.undef,.undef,.undef,.undef,.undef,.undef,.undef,.undef,.undef,.undef,.undef,.undef,.undef,.undef,.undef,.undef,.undef,.undef,.undef,.undef,.undef,.undef,.undef,.undef,.undef,.undef,.undef,.undef,.undef,.undef,.undef,.undef,.undef,.undef,.undef,.undef,.undef,.undef,.undef,.undef,.undef,.undef,.undef,.undef,.undef,.undef,.undef,.undef,.val (.slice 2 (.int .i64)) x1,.val (.int .i64) x2,.val (.int .i64) x3]++unU 18,res:=[(0,.box an (.strct [.val (.int .i64) x4,.val (.int .i64) x5,.val am x6,.val bI x7,.val bI x8,.val (.slice 2 (.int .i64)) x9])),(1,.row 9 .str x10 false)],nx:=2,n0:=0}
def uL:Code:=aI Tryz.f48
def oc (x0:(List ae)) (x1:(List ae)) (x2:Int) (x3:Int):Option ((Bool×Unit)×Unit):=pt E (aD E) ur (aO E ur []) (at_ uL [1,0,1,0,0,0]) [.seq (at_ uL [1,0,1,0,0,1]),.loop (at_ uL [1,0,1,0,0]),.block 0,.seq (at_ uL [1,1])] {slots:=[.val (.slice 59 aj) x0,.undef,.undef,.undef,.undef,.val (.slice 59 aj) x1,.val (.int .i64) x2,.val (.int .i64) x3]++unU 34,res:=[],nx:=0,n0:=0}
def uM:Code:=aI Tryz.f49
def sM (x0:(List aV)) (x1:(List aV)) (x2:Int) (x3:Int):Option ((Bool×Unit)×Unit):=pt E (aD E) ut (aO E ut []) (at_ uM [1,0,1,0,0,0]) [.seq (at_ uM [1,0,1,0,0,1]),.loop (at_ uM [1,0,1,0,0]),.block 0,.seq (at_ uM [1,1])] {slots:=[.val (.slice 62 aG) x0,.undef,.undef,.undef,.undef,.val (.slice 62 aG) x1,.val (.int .i64) x2,.val (.int .i64) x3]++unU 17,res:=[],nx:=0,n0:=0}
def uN:Code:=aI Tryz.f106
def lp (x0:(List aa)) (x1:Int) (x2:Int) (x3:(List ag)):Option (((List ag)×Unit)×Unit):=pt E (aD E) uw (aO E uw []) (at_ uN [1,1,0,1,0,0,0]) [.seq (at_ uN [1,1,0,1,0,0,1]),.loop (at_ uN [1,1,0,1,0,0]),.block 0,.seq (at_ uN [1,1,1])] {slots:=[.undef,.undef,.undef,.row 0,.undef,.undef,.undef,.val (.slice 156 an) x0,.val (.int .i64) x1,.val (.int .i64) x2]++unU 18,res:=[(0,.row 75 au x3 false)],nx:=1,n0:=0}
def iZ:Code:=aI Tryz.f154
def fi (x0:(List ag)) (x1:Int) (x2:Int) (x3:ao) (x4:ao):Option ((Int×Unit)×Unit):=pt E (aD E) iY (aO E iY []) (at_ iZ [1,0,1,0,0,0]) [.seq (at_ iZ [1,0,1,0,0,1]),.loop (at_ iZ [1,0,1,0,0]),.block 0,.seq (at_ iZ [1,1])] {slots:=[.val (.slice 75 au) x0,.undef,.undef,.ptr 0 au [],.undef,.undef,.undef,.val (.int .i64) x1,.val (.int .i64) x2]++unU 10,res:=[(0,.box au (.strct [.val ap x3,.val ap x4]))],nx:=1,n0:=0}
def fx:Code:=aI Tryz.f104
def js (x0:(List ag)) (x1:Int) (x2:Int) (x3:(List ag)):Option (Unit×((List ag)×Unit)):=pt E (aD E) fq (aO E fq [(0,.box (.slice 75 au) (.undef)),(1,.row 75 au [] false)]) (at_ fx [1,0,0,0]) [.seq (at_ fx [1,0,0,1]),.loop (at_ fx [1,0,0]),.block 0] {slots:=[.undef,.ptr 0 (.slice 75 au) [],.undef,.undef,.undef,.val (.slice 75 au) x0,.val (.int .i64) x1,.val (.int .i64) x2]++unU 12,res:=[(0,.box (.slice 75 au) (.row 1)),(1,.row 75 au x3 false)],nx:=2,n0:=2}
def bH:Code:=aI Tryz.f76
def iK (x0:Int) (x1:(List ae)) (x2:(List ag)) (x3:(List ao)) (x4:(List ag)):Option (Unit×(((List ae)×((List ag)×((List ao)×Unit)))×Unit)):=pt E (aD E) c8 (aO E c8 [(0,.box b8 (.undef)),(1,.row 59 aj [] false),(2,.row 75 au [] false),(3,.row 57 ap [] false)]) (at_ bH [1,1,1,0,1,0,0,0,0]) [.seq (at_ bH [1,1,1,0,1,0,0,0,1]),.seq (at_ bH [1,1,1,0,1,0,0,1]),.loop (at_ bH [1,1,1,0,1,0,0]),.block 0,.seq (at_ bH [1,1,1,1])] {slots:=[.ptr 0 b8 [],.undef,.undef,.undef,.ptr 4 (.slice 75 au) [],.fn 104 [.ptr 4 (.slice 75 au) []],.val (.int .i64) x0]++unU 69,res:=[(0,.box b8 (.strct [.row 1,.row 2,.row 3])),(1,.row 59 aj x1 false),(2,.row 75 au x2 false),(3,.row 57 ap x3 false),(4,.box (.slice 75 au) (.row 5)),(5,.row 75 au x4 false)],nx:=6,n0:=4}
def cm:Code:=aI Tryz.f265
def eM (x0:(List ag)) (x1:Int) (x2:Int) (x3:Int) (x4:Int):Option ((Int×Unit)×(ao×Unit)):=pt E (aD E) di (aO E di [(0,.box ap (.undef))]) (at_ cm [1,0,1,0,0,0]) [.seq (at_ cm [1,0,1,0,0,1]),.loop (at_ cm [1,0,1,0,0]),.block 0,.seq (at_ cm [1,1])] {slots:=[.val (.slice 75 au) x0,.fn 224 [.ptr 0 ap []],.undef,.undef,.undef,.undef,.undef,.val (.int .i64) x1,.val (.int .i64) x2]++unU 10,res:=[(0,.box ap (.strct [.val (.int .i64) x3,.val (.int .i64) x4]))],nx:=1,n0:=1}
def eD:Code:=aI Tryz.f111
def mn (x0:(List ae)) (x1:(List ae)) (x2:Int) (x3:Int) (x4:(List ae)) (x5:(List ae)) (x6:(List (List aa))) (x7:(List (List Int))) (x8:(List (List aa))) (x9:(List (List Int))):Option ((((List ae)×((List (List aa))×((List (List Int))×Unit)))×Unit)×Unit):=pt E (aD E) lg (aO E lg []) (at_ eD [1,1,0,1,0,0,0]) [.seq (at_ eD [1,1,0,1,0,0,1]),.loop (at_ eD [1,1,0,1,0,0]),.block 0,.seq (at_ eD [1,1,1])] {slots:=[.val (.slice 59 aj) x0,.undef,.ptr 0 bK [],.ptr 1 bK [],.undef,.undef,.undef,.undef,.undef,.undef,.undef,.undef,.undef,.undef,.val (.slice 59 aj) x1,.val (.int .i64) x2,.val (.int .i64) x3]++unU 42,res:=[(0,.box bK (.strct [.row 2,.row 3,.row 4])),(1,.box bK (.strct [.val (.slice 59 aj) x4,.row 5,.row 6])),(2,.row 59 aj x5 false),(3,.row 103 (.slice 156 an) x6 false),(4,.row 171 (.slice 3 (.int .i64)) x7 false),(5,.row 103 (.slice 156 an) x8 false),(6,.row 171 (.slice 3 (.int .i64)) x9 false)],nx:=7,n0:=0}
def jt:Code:=aI Tryz.f169
def fX (x0:Int) (x1:Int) (x2:(List ae)) (x3:(List (List aa))) (x4:(List (List Int))) (x5:(List Bool)) (x6:(List Int)):Option ((Bool×Unit)×Unit):=pt E (aD E) lE (aO E lE []) (at_ jt [1,1,1,0,1,0,0,0,0]) [.seq (at_ jt [1,1,1,0,1,0,0,0,1]),.seq (at_ jt [1,1,1,0,1,0,0,1]),.loop (at_ jt [1,1,1,0,1,0,0]),.block 0,.seq (at_ jt [1,1,1,1])] {slots:=[.undef,.val (.int .i64) x0,.ptr 0 bK [],.undef,.undef,.row 1,.row 2,.val (.int .i64) x1]++unU 39,res:=[(0,.box bK (.strct [.val (.slice 59 aj) x2,.val (.slice 103 (.slice 156 an)) x3,.val (.slice 171 (.slice 3 (.int .i64))) x4])),(1,.row 4 .bool x5 false),(2,.row 3 (.int .i64) x6 false)],nx:=3,n0:=0}
def b9:Code:=aI Tryz.f168
def d8 (x0:Int) (x1:(List Int)) (x2:Int) (x3:Int) (x4:(List ae)) (x5:(List (List aa))) (x6:(List (List Int))) (x7:(List Bool)) (x8:(List ah)):Option (Unit×((List Bool)×(l5×((List ah)×Unit)))):=pt E (aD E) cQ (aO E cQ [(0,.box (.slice 4 .bool) (.undef)),(1,.box bK (.undef)),(2,.box (.slice 162 aq) (.undef)),(3,.keepF 168 []),(4,.row 4 .bool [] false),(5,.row 162 aq [] false)]) (at_ b9 [1,1,0,1,1,1,1,0,1,0,0,0]) [.seq (at_ b9 [1,1,0,1,1,1,1,0,1,0,0,1]),.loop (at_ b9 [1,1,0,1,1,1,1,0,1,0,0]),.block 1,.seq (at_ b9 [1,1,0,1,1,1,1,1]),.block 0] {slots:=[.val (.int .i64) x0,.undef,.ptr 1 bK [],.ptr 2 (.slice 162 aq) [],.ptr 3 .fn [],.undef,.undef,.undef,.undef,.undef,.undef,.undef,.undef,.undef,.undef,.undef,.undef,.undef,.undef,.val (.slice 3 (.int .i64)) x1,.val (.int .i64) x2,.val (.int .i64) x3]++unU 49,res:=[(0,.box (.slice 4 .bool) (.row 4)),(1,.box bK (.strct [.val (.slice 59 aj) x4,.val (.slice 103 (.slice 156 an)) x5,.val (.slice 171 (.slice 3 (.int .i64))) x6])),(2,.box (.slice 162 aq) (.row 5)),(3,.keepF 168 [.ptr 0 (.slice 4 .bool) [],.ptr 1 bK [],.ptr 2 (.slice 162 aq) [],.ptr 3 .fn []]),(4,.row 4 .bool x7 false),(5,.row 162 aq x8 false)],nx:=6,n0:=6}
def cd (x0:Int) (x1:(List Int)) (x2:Int) (x3:Int) (x4:l5) (x5:(List Bool)) (x6:(List ah)):Option (Unit×((List Bool)×(l5×((List ah)×Unit)))):=pt E (aD E) cQ (aO E cQ [(0,.box (.slice 4 .bool) (.undef)),(1,.box bK (.undef)),(2,.box (.slice 162 aq) (.undef)),(3,.keepF 168 []),(4,.row 4 .bool [] false),(5,.row 162 aq [] false)]) (at_ b9 [1,1,0,1,1,1,1,0,1,0,0,0]) [.seq (at_ b9 [1,1,0,1,1,1,1,0,1,0,0,1]),.loop (at_ b9 [1,1,0,1,1,1,1,0,1,0,0]),.block 1,.seq (at_ b9 [1,1,0,1,1,1,1,1]),.block 0] {slots:=[.val (.int .i64) x0,.undef,.ptr 1 bK [],.ptr 2 (.slice 162 aq) [],.ptr 3 .fn [],.undef,.undef,.undef,.undef,.undef,.undef,.undef,.undef,.undef,.undef,.undef,.undef,.undef,.undef,.val (.slice 3 (.int .i64)) x1,.val (.int .i64) x2,.val (.int .i64) x3]++unU 49,res:=[(0,.box (.slice 4 .bool) (.row 4)),(1,.box bK (.val bK x4)),(2,.box (.slice 162 aq) (.row 5)),(3,.keepF 168 [.ptr 0 (.slice 4 .bool) [],.ptr 1 bK [],.ptr 2 (.slice 162 aq) [],.ptr 3 .fn []]),(4,.row 4 .bool x5 false),(5,.row 162 aq x6 false)],nx:=6,n0:=6}
def xq:Code:=aI Tryz.f156
def uO (x0:(List ah)) (x1:Int) (x2:Int) (x3:Int) (x4:Int) (x5:Int) (x6:Int) (x7:ByteArray):Option ((ab×Unit)×Unit):=pt E (aD E) xa (aO E xa []) (at_ xq [1,0,1,0,0,0]) [.seq (at_ xq [1,0,1,0,0,1]),.loop (at_ xq [1,0,1,0,0]),.block 0,.seq (at_ xq [1,1])] {slots:=[.undef,.undef,.undef,.ptr 0 ap [],.ptr 1 am [],.undef,.undef,.val (.slice 162 aq) x0,.val (.int .i64) x1,.val (.int .i64) x2]++unU 11,res:=[(0,.box ap (.strct [.val (.int .i64) x3,.val (.int .i64) x4])),(1,.box am (.strct [.val (.int .i64) x5,.val (.int .i64) x6,.val .str x7]))],nx:=2,n0:=0}
def fb:Code:=aI Tryz.f211
def ke (x0:(List aa)) (x1:(List ah)) (x2:(List Int)) (x3:Int) (x4:Int) (x5:(List ab)):Option (((List ab)×Unit)×Unit):=pt E (aD E) lj (aO E lj []) (at_ fb [1,1,0,1,0,0,0]) [.seq (at_ fb [1,1,0,1,0,0,1]),.loop (at_ fb [1,1,0,1,0,0]),.block 0,.seq (at_ fb [1,1,1])] {slots:=[.val (.slice 156 an) x0,.undef,.val (.slice 162 aq) x1,.undef,.undef,.undef,.undef,.row 0,.undef,.undef,.undef,.undef,.undef,.undef,.val (.slice 2 (.int .i64)) x2,.val (.int .i64) x3,.val (.int .i64) x4]++unU 38,res:=[(0,.row 83 am x5 false)],nx:=1,n0:=0}
def sN:Code:=aI Tryz.f210
def iL (x0:Int) (x1:Bool) (x2:Bool) (x3:(List ab)) (x4:Int) (x5:Int) (x6:Int) (x7:Int) (x8:ByteArray):Option ((ab×Unit)×Unit):=pt E (aD E) sI (aO E sI []) (at_ sN [1,1,0,1,0,0,0]) [.seq (at_ sN [1,1,0,1,0,0,1]),.loop (at_ sN [1,1,0,1,0,0]),.block 0,.seq (at_ sN [1,1,1])] {slots:=[.val (.int .i64) x0,.undef,.undef,.undef,.ptr 0 am [],.val .bool x1,.val .bool x2,.undef,.undef,.undef,.undef,.val (.slice 83 am) x3,.val (.int .i64) x4,.val (.int .i64) x5]++unU 27,res:=[(0,.box am (.strct [.val (.int .i64) x6,.val (.int .i64) x7,.val .str x8]))],nx:=1,n0:=0}
def US (x0:Int) (x1:Int):Option ((ab×Unit)×Unit):=ai E MW [.val (.int .i64) x0,.val (.int .i64) x1] []
def xr:Code:=aI Tryz.f212
def qV (x0:(List ab)) (x1:Int) (x2:Int) (x3:Int) (x4:Int) (x5:ByteArray) (x6:Int) (x7:Int) (x8:ByteArray):Option ((ab×Unit)×Unit):=pt E (aD E) xc (aO E xc []) (at_ xr [1,1,0,1,0,0,0]) [.seq (at_ xr [1,1,0,1,0,0,1]),.loop (at_ xr [1,1,0,1,0,0]),.block 0,.seq (at_ xr [1,1,1])] {slots:=[.undef,.undef,.ptr 0 am [],.ptr 1 am [],.undef,.undef,.undef,.val (.slice 83 am) x0,.val (.int .i64) x1,.val (.int .i64) x2]++unU 19,res:=[(0,.box am (.strct [.val (.int .i64) x3,.val (.int .i64) x4,.val .str x5])),(1,.box am (.strct [.val (.int .i64) x6,.val (.int .i64) x7,.val .str x8]))],nx:=2,n0:=0}
def sO:Code:=aI Tryz.f213
def fj (x0:Int) (x1:Int) (x2:Int) (x3:Int) (x4:(List ab)) (x5:Int) (x6:Int) (x7:Int) (x8:Int) (x9:ByteArray):Option ((ab×Unit)×Unit):=pt E (aD E) sJ (aO E sJ []) (at_ sO [1,1,0,1,0,0,0]) [.seq (at_ sO [1,1,0,1,0,0,1]),.loop (at_ sO [1,1,0,1,0,0]),.block 0,.seq (at_ sO [1,1,1])] {slots:=[.val (.int .i64) x0,.undef,.undef,.undef,.ptr 0 am [],.val (.int .i64) x1,.val (.int .i64) x2,.val (.int .i64) x3,.undef,.undef,.val (.slice 83 am) x4,.val (.int .i64) x5,.val (.int .i64) x6]++unU 42,res:=[(0,.box am (.strct [.val (.int .i64) x7,.val (.int .i64) x8,.val .str x9]))],nx:=1,n0:=0}
def M5 (x0:Int) (x1:Int):Option ((ab×Unit)×Unit):=ai E Hb [.val (.int .i64) x0,.val (.int .i64) x1] []
def Q7 (x0:Int) (x1:Int):Option ((ab×Unit)×Unit):=ai E Kz [.val (.int .i64) x0,.val (.int .i64) x1] []
def cy:Code:=aI Tryz.f112
def iM (x0:(List ab)) (x1:(List ae)) (x2:Int) (x3:Int) (x4:(List ae)) (x5:(List (List aa))) (x6:(List (List Int))) (x7:(List Bool)) (x8:(List ah)):Option (((List ah)×Unit)×Unit):=pt E (aD E) ep (aO E ep []) (at_ cy [1,1,0,1,0,0,0]) [.seq (at_ cy [1,1,0,1,0,0,1]),.loop (at_ cy [1,1,0,1,0,0]),.block 0,.seq (at_ cy [1,1,1])] {slots:=[.undef,.undef,.val (.slice 83 am) x0,.ptr 0 bK [],.undef,.undef,.undef,.ptr 1 (.slice 4 .bool) [],.ptr 2 (.slice 162 aq) [],.undef,.undef,.undef,.undef,.undef,.undef,.undef,.undef,.undef,.undef,.undef,.val (.slice 59 aj) x1,.val (.int .i64) x2,.val (.int .i64) x3]++unU 26,res:=[(0,.box bK (.strct [.val (.slice 59 aj) x4,.val (.slice 103 (.slice 156 an)) x5,.val (.slice 171 (.slice 3 (.int .i64))) x6])),(1,.box (.slice 4 .bool) (.row 3)),(2,.box (.slice 162 aq) (.row 4)),(3,.row 4 .bool x7 false),(4,.row 162 aq x8 false)],nx:=5,n0:=0}
def cn:Code:=aI Tryz.f171
def gD (x0:(List ae)) (x1:Int) (x2:Int) (x3:Int) (x4:Int):Option ((Int×Unit)×(ao×Unit)):=pt E (aD E) dh (aO E dh [(0,.box ap (.undef))]) (at_ cn [1,0,1,0,0,0]) [.seq (at_ cn [1,0,1,0,0,1]),.loop (at_ cn [1,0,1,0,0]),.block 0,.seq (at_ cn [1,1])] {slots:=[.val (.slice 59 aj) x0,.fn 115 [.ptr 0 ap []],.undef,.undef,.undef,.undef,.undef,.val (.int .i64) x1,.val (.int .i64) x2]++unU 10,res:=[(0,.box ap (.strct [.val (.int .i64) x3,.val (.int .i64) x4]))],nx:=1,n0:=1}
def dQ:Code:=aI Tryz.f114
def bZ (x0:Int) (x1:Int) (x2:(List ae)) (x3:ao):Option (((List ae)×Unit)×(ao×Unit)):=pt E (aD E) fg (aO E fg [(0,.row 59 aj [] false),(1,.box ap (.undef))]) (at_ dQ [1,1,1,0,1,0,0,0,0]) [.seq (at_ dQ [1,1,1,0,1,0,0,0,1]),.seq (at_ dQ [1,1,1,0,1,0,0,1]),.loop (at_ dQ [1,1,1,0,1,0,0]),.block 0,.seq (at_ dQ [1,1,1,1])] {slots:=[.row 0,.fn 115 [.ptr 1 ap []],.undef,.undef,.undef,.val (.int .i64) x0,.val (.int .i64) x1]++unU 35,res:=[(0,.row 59 aj x2 false),(1,.box ap (.val ap x3))],nx:=2,n0:=2}
def ju:Code:=aI Tryz.f118
def fO (x0:(List ao)) (x1:Int) (x2:Int) (x3:Int) (x4:Int):Option ((Int×Unit)×Unit):=pt E (aD E) jo (aO E jo []) (at_ ju [1,0,1,0,0,0]) [.seq (at_ ju [1,0,1,0,0,1]),.loop (at_ ju [1,0,1,0,0]),.block 0,.seq (at_ ju [1,1])] {slots:=[.val (.slice 57 ap) x0,.undef,.undef,.ptr 0 ap [],.undef,.undef,.undef,.val (.int .i64) x1,.val (.int .i64) x2]++unU 10,res:=[(0,.box ap (.strct [.val (.int .i64) x3,.val (.int .i64) x4]))],nx:=1,n0:=0}
def dz:Code:=aI Tryz.f32
def lH (x0:(List aV)) (x1:Int) (x2:Int) (x3:Int) (x4:(List ae)) (x5:(List ag)) (x6:(List ao)):Option ((Int×(Int×Unit))×(((List ae)×((List ag)×((List ao)×Unit)))×Unit)):=pt E (aD E) ip (aO E ip [(0,.box b8 (.undef)),(1,.row 59 aj [] false),(2,.row 75 au [] false),(3,.row 57 ap [] false)]) (at_ dz [1,1,0,1,0,0,0,0]) [.seq (at_ dz [1,1,0,1,0,0,0,1]),.seq (at_ dz [1,1,0,1,0,0,1]),.loop (at_ dz [1,1,0,1,0,0]),.block 0,.seq (at_ dz [1,1,1])] {slots:=[.ptr 0 b8 [],.val (.slice 62 aG) x0,.val (.int .i64) x1,.undef,.undef,.undef,.undef,.undef,.val (.int .i64) x2,.val (.int .i64) x3]++unU 94,res:=[(0,.box b8 (.strct [.row 1,.row 2,.row 3])),(1,.row 59 aj x4 false),(2,.row 75 au x5 false),(3,.row 57 ap x6 false)],nx:=4,n0:=4}
def qW:Code:=aI Tryz.f11
def yt (x0:(List ae)) (x1:(List ae)) (x2:Int):Option ((Bool×Unit)×Unit):=pt E (aD E) ul (aO E ul []) (at_ qW [1,1,0,1,0,0,0,0]) [.seq (at_ qW [1,1,0,1,0,0,0,1]),.seq (at_ qW [1,1,0,1,0,0,1]),.loop (at_ qW [1,1,0,1,0,0]),.block 0,.seq (at_ qW [1,1,1])] {slots:=[.val (.slice 59 aj) x0,.val (.slice 59 aj) x1,.undef,.undef,.undef,.val (.int .i64) x2]++unU 21,res:=[],nx:=0,n0:=0}
def qX:Code:=aI Tryz.f12
def yu (x0:(List aV)) (x1:(List aV)) (x2:Int):Option ((Bool×Unit)×Unit):=pt E (aD E) um (aO E um []) (at_ qX [1,1,0,1,0,0,0,0]) [.seq (at_ qX [1,1,0,1,0,0,0,1]),.seq (at_ qX [1,1,0,1,0,0,1]),.loop (at_ qX [1,1,0,1,0,0]),.block 0,.seq (at_ qX [1,1,1])] {slots:=[.val (.slice 62 aG) x0,.val (.slice 62 aG) x1,.undef,.undef,.undef,.val (.int .i64) x2]++unU 21,res:=[],nx:=0,n0:=0}
def od:Code:=aI Tryz.f35
def qY (x0:Int) (x1:ByteArray):Option ((ByteArray×Unit)×Unit):=pt E (aD E) sE (aO E sE []) (at_ od [1,1,1,0,0,0,0,0]) [.seq (at_ od [1,1,1,0,0,0,0,1]),.seq (at_ od [1,1,1,0,0,0,1]),.loop (at_ od [1,1,1,0,0,0]),.block 0,.seq (at_ od [1,1,1,1])] {slots:=[.val (.int .i64) x0,.undef,.undef,.val .str x1]++unU 16,res:=[],nx:=0,n0:=0}
def mo:Code:=aI Tryz.f13
def lI (x0:Int) (x1:Int) (x2:(List ae)):Option ((Int×Unit)×((List ae)×Unit)):=pt E (aD E) qi (aO E qi [(0,.row 59 aj [] false)]) (at_ mo [1,0,1,0,0,0,0]) [.seq (at_ mo [1,0,1,0,0,0,1]),.seq (at_ mo [1,0,1,0,0,1]),.loop (at_ mo [1,0,1,0,0]),.block 0,.seq (at_ mo [1,1])] {slots:=[.row 0,.val (.int .i64) x0,.undef,.undef,.undef,.val (.int .i64) x1]++unU 31,res:=[(0,.row 59 aj x2 false)],nx:=1,n0:=1}
def mq:Code:=aI Tryz.f14
def lJ (x0:Int) (x1:Int) (x2:(List aV)):Option ((Int×Unit)×((List aV)×Unit)):=pt E (aD E) qj (aO E qj [(0,.row 62 aG [] false)]) (at_ mq [1,0,1,0,0,0,0]) [.seq (at_ mq [1,0,1,0,0,0,1]),.seq (at_ mq [1,0,1,0,0,1]),.loop (at_ mq [1,0,1,0,0]),.block 0,.seq (at_ mq [1,1])] {slots:=[.row 0,.val (.int .i64) x0,.undef,.undef,.undef,.val (.int .i64) x1]++unU 45,res:=[(0,.row 62 aG x2 false)],nx:=1,n0:=1}
def mr:Code:=aI Tryz.f15
def oE (x0:(List ae)) (x1:Int) (x2:Int):Option ((Int×Unit)×Unit):=pt E (aD E) qk (aO E qk []) (at_ mr [1,0,1,0,0,0,0]) [.seq (at_ mr [1,0,1,0,0,0,1]),.seq (at_ mr [1,0,1,0,0,1]),.loop (at_ mr [1,0,1,0,0]),.block 0,.seq (at_ mr [1,1])] {slots:=[.val (.slice 59 aj) x0,.val (.int .i64) x1,.undef,.undef,.undef,.val (.int .i64) x2]++unU 37,res:=[],nx:=0,n0:=0}
def qZ:Code:=aI Tryz.f18
def yv (x0:(List ag)) (x1:(List ag)) (x2:Int):Option ((Bool×Unit)×Unit):=pt E (aD E) uo (aO E uo []) (at_ qZ [1,1,0,1,0,0,0,0]) [.seq (at_ qZ [1,1,0,1,0,0,0,1]),.seq (at_ qZ [1,1,0,1,0,0,1]),.loop (at_ qZ [1,1,0,1,0,0]),.block 0,.seq (at_ qZ [1,1,1])] {slots:=[.val (.slice 75 au) x0,.val (.slice 75 au) x1,.undef,.undef,.undef,.val (.int .i64) x2]++unU 21,res:=[],nx:=0,n0:=0}
def tn:Code:=aI Tryz.f19
def Bf (x0:(List ao)) (x1:(List ao)) (x2:Int):Option ((Bool×Unit)×Unit):=pt E (aD E) wX (aO E wX []) (at_ tn [1,1,0,1,0,0,0,0]) [.seq (at_ tn [1,1,0,1,0,0,0,1]),.seq (at_ tn [1,1,0,1,0,0,1]),.loop (at_ tn [1,1,0,1,0,0]),.block 0,.seq (at_ tn [1,1,1])] {slots:=[.val (.slice 57 ap) x0,.val (.slice 57 ap) x1,.undef,.undef,.undef,.val (.int .i64) x2]++unU 21,res:=[],nx:=0,n0:=0}
def mt:Code:=aI Tryz.f20
def lK (x0:Int) (x1:Int) (x2:(List ag)):Option ((Int×Unit)×((List ag)×Unit)):=pt E (aD E) ql (aO E ql [(0,.row 75 au [] false)]) (at_ mt [1,0,1,0,0,0,0]) [.seq (at_ mt [1,0,1,0,0,0,1]),.seq (at_ mt [1,0,1,0,0,1]),.loop (at_ mt [1,0,1,0,0]),.block 0,.seq (at_ mt [1,1])] {slots:=[.row 0,.val (.int .i64) x0,.undef,.undef,.undef,.val (.int .i64) x1]++unU 39,res:=[(0,.row 75 au x2 false)],nx:=1,n0:=1}
def oe:Code:=aI Tryz.f21
def ng (x0:Int) (x1:Int) (x2:(List ao)):Option ((Int×Unit)×((List ao)×Unit)):=pt E (aD E) sC (aO E sC [(0,.row 57 ap [] false)]) (at_ oe [1,0,1,0,0,0,0]) [.seq (at_ oe [1,0,1,0,0,0,1]),.seq (at_ oe [1,0,1,0,0,1]),.loop (at_ oe [1,0,1,0,0]),.block 0,.seq (at_ oe [1,1])] {slots:=[.row 0,.val (.int .i64) x0,.undef,.undef,.undef,.val (.int .i64) x1]++unU 21,res:=[(0,.row 57 ap x2 false)],nx:=1,n0:=1}
def mu:Code:=aI Tryz.f22
def oF (x0:(List ag)) (x1:Int) (x2:Int):Option ((Int×Unit)×Unit):=pt E (aD E) qm (aO E qm []) (at_ mu [1,0,1,0,0,0,0]) [.seq (at_ mu [1,0,1,0,0,0,1]),.seq (at_ mu [1,0,1,0,0,1]),.loop (at_ mu [1,0,1,0,0]),.block 0,.seq (at_ mu [1,1])] {slots:=[.val (.slice 75 au) x0,.val (.int .i64) x1,.undef,.undef,.undef,.val (.int .i64) x2]++unU 47,res:=[],nx:=0,n0:=0}
def og:Code:=aI Tryz.f23
def q5 (x0:(List ao)) (x1:Int) (x2:Int):Option ((Int×Unit)×Unit):=pt E (aD E) sD (aO E sD []) (at_ og [1,0,1,0,0,0,0]) [.seq (at_ og [1,0,1,0,0,0,1]),.seq (at_ og [1,0,1,0,0,1]),.loop (at_ og [1,0,1,0,0]),.block 0,.seq (at_ og [1,1])] {slots:=[.val (.slice 57 ap) x0,.val (.int .i64) x1,.undef,.undef,.undef,.val (.int .i64) x2]++unU 25,res:=[],nx:=0,n0:=0}
def cX (x0:Int) (x1:ByteArray) (x2:Int) (x3:Bool) (x4:(List Int)) (x5:(List aa)):Option ((Int×Unit)×((ByteArray×(Int×(Bool×((List aa)×Unit))))×Unit)):=pt E (aD E) jZ (aO E jZ [(0,.box be (.undef)),(1,.row 156 an [] false)]) (at_ eB [1,1,0,0,0,0,0]) [.seq (at_ eB [1,1,0,0,0,0,1]),.seq (at_ eB [1,1,0,0,0,1]),.loop (at_ eB [1,1,0,0,0]),.block 0,.seq (at_ eB [1,1,1])] {slots:=[.ptr 0 be [],.val (.int .i64) x0,.undef,.undef,.undef,.row 2]++unU 24,res:=[(0,.box be (.strct [.val .str x1,.val (.int .i64) x2,.val .bool x3,.row 3])),(2,.row 2 (.int .i64) x4 false),(3,.row 156 an x5 false)],nx:=4,n0:=2}
def mv (x0:Int) (x1:Int) (x2:ByteArray) (x3:Int) (x4:Bool) (x5:(List Int)) (x6:(List aa)):Option ((Int×Unit)×((ByteArray×(Int×(Bool×((List aa)×Unit))))×Unit)):=pt E (aD E) mU (aO E mU [(0,.box be (.undef)),(1,.row 156 an [] false)]) (at_ gd [1,1,0,1,0,0,0,0]) [.seq (at_ gd [1,1,0,1,0,0,0,1]),.seq (at_ gd [1,1,0,1,0,0,1]),.loop (at_ gd [1,1,0,1,0,0]),.block 0,.seq (at_ gd [1,1,1])] {slots:=[.ptr 0 be [],.val (.int .i64) x0,.undef,.undef,.undef,.row 2,.val (.int .i64) x1]++unU 27,res:=[(0,.box be (.strct [.val .str x2,.val (.int .i64) x3,.val .bool x4,.row 3])),(2,.row 2 (.int .i64) x5 false),(3,.row 156 an x6 false)],nx:=4,n0:=2}
def kX (x0:(List aa)) (x1:Int) (x2:Int):Option ((Bool×Unit)×Unit):=pt E (aD E) jY (aO E jY []) (at_ dq [1,1,0,1,0,0,1,0,0,1,1,0,0,0,0]) [.seq (at_ dq [1,1,0,1,0,0,1,0,0,1,1,0,0,0,1]),.seq (at_ dq [1,1,0,1,0,0,1,0,0,1,1,0,0,1]),.loop (at_ dq [1,1,0,1,0,0,1,0,0,1,1,0,0]),.block 2,.block 1,.seq (at_ dq [1,1,0,1,0,0,1,1]),.loop (at_ dq [1,1,0,1,0,0]),.block 0,.seq (at_ dq [1,1,1])] {slots:=[.val (.slice 156 an) x0,.undef,.undef,.val (.int .i64) x1,.val (.int .i64) x2]++unU 82,res:=[],nx:=0,n0:=0}
def oh (x0:Int) (x1:Bool) (x2:Int) (x3:(List ae)) (x4:Int) (x5:Int) (x6:Int) (x7:(List ag)) (x8:(List ao)) (x9:Int) (x10:Int) (x11:Int) (x12:(List ag)) (x13:(List ae)) (x14:(List ag)) (x15:(List ao)):Option ((ew×Unit)×Unit):=pt E (aD E) bU (aO E bU []) (at_ aw [1,1,0,1,0,0,1,0,0,1,0,1,0,0,0,0]) [.seq (at_ aw [1,1,0,1,0,0,1,0,0,1,0,1,0,0,0,1]),.seq (at_ aw [1,1,0,1,0,0,1,0,0,1,0,1,0,0,1]),.loop (at_ aw [1,1,0,1,0,0,1,0,0,1,0,1,0,0]),.block 2,.seq (at_ aw [1,1,0,1,0,0,1,0,0,1,1]),.block 1,.seq (at_ aw [1,1,0,1,0,0,1,1]),.loop (at_ aw [1,1,0,1,0,0]),.block 0,.seq (at_ aw [1,1,1])] {slots:=[.undef,.undef,.ptr 0 aZ [],.undef,.ptr 1 aZ [],.row 2,.val (.int .i64) x0,.val .bool x1,.val (.int .i64) x2]++unU 107,res:=[(0,.box aZ (.strct [.val (.slice 59 aj) x3,.val (.int .i64) x4,.val (.int .i64) x5,.val (.int .i64) x6,.val (.slice 75 au) x7,.val (.slice 57 ap) x8])),(1,.box aZ (.strct [.row 3,.val (.int .i64) x9,.val (.int .i64) x10,.val (.int .i64) x11,.row 4,.row 5])),(2,.row 75 au x12 false),(3,.row 59 aj x13 false),(4,.row 75 au x14 false),(5,.row 57 ap x15 false)],nx:=6,n0:=0}
def oi (x0:(List ae)) (x1:Int) (x2:Bool) (x3:Int) (x4:(List ao)) (x5:(List ag)):Option (((List ao)×Unit)×Unit):=pt E (aD E) mV (aO E mV []) (at_ d7 [1,1,1,0,1,0,0,1,0,0,1,0,1,0,0,0,0]) [.seq (at_ d7 [1,1,1,0,1,0,0,1,0,0,1,0,1,0,0,0,1]),.seq (at_ d7 [1,1,1,0,1,0,0,1,0,0,1,0,1,0,0,1]),.loop (at_ d7 [1,1,1,0,1,0,0,1,0,0,1,0,1,0,0]),.block 2,.seq (at_ d7 [1,1,1,0,1,0,0,1,0,0,1,1]),.block 1,.seq (at_ d7 [1,1,1,0,1,0,0,1,1]),.loop (at_ d7 [1,1,1,0,1,0,0]),.block 0,.seq (at_ d7 [1,1,1,1])] {slots:=[.val (.slice 59 aj) x0,.undef,.undef,.undef,.undef,.row 0,.row 1,.val (.int .i64) x1,.val .bool x2,.val (.int .i64) x3]++unU 40,res:=[(0,.row 57 ap x4 false),(1,.row 75 au x5 false)],nx:=2,n0:=0}
def mw (x0:(List ae)) (x1:Int) (x2:Int) (x3:Int) (x4:Int) (x5:(List ao)) (x6:(List ao)):Option ((Bool×Unit)×Unit):=pt E (aD E) li (aO E li []) (at_ dT [1,1,0,1,0,0,1,0,0,1,1,1,0,0,0,0]) [.seq (at_ dT [1,1,0,1,0,0,1,0,0,1,1,1,0,0,0,1]),.seq (at_ dT [1,1,0,1,0,0,1,0,0,1,1,1,0,0,1]),.loop (at_ dT [1,1,0,1,0,0,1,0,0,1,1,1,0,0]),.block 2,.block 1,.seq (at_ dT [1,1,0,1,0,0,1,1]),.loop (at_ dT [1,1,0,1,0,0]),.block 0,.seq (at_ dT [1,1,1])] {slots:=[.val (.slice 59 aj) x0,.undef,.undef,.ptr 0 ap [],.undef,.row 1,.val (.int .i64) x1,.row 2,.val (.int .i64) x2]++unU 41,res:=[(0,.box ap (.strct [.val (.int .i64) x3,.val (.int .i64) x4])),(1,.row 57 ap x5 false),(2,.row 57 ap x6 false)],nx:=3,n0:=0}
def jK (x0:(List aa)) (x1:Int) (x2:(List ah)) (x3:Int) (x4:Int) (x5:(List ab)) (x6:ao) (x7:ao):Option (((List ab)×Unit)×Unit):=pt E (aD E) pB (aO E pB []) (at_ fB [1,1,0,1,0,0,1,0,0,1,1,1,1,0,0,0,0]) [.seq (at_ fB [1,1,0,1,0,0,1,0,0,1,1,1,1,0,0,0,1]),.seq (at_ fB [1,1,0,1,0,0,1,0,0,1,1,1,1,0,0,1]),.loop (at_ fB [1,1,0,1,0,0,1,0,0,1,1,1,1,0,0]),.block 2,.block 1,.seq (at_ fB [1,1,0,1,0,0,1,1]),.loop (at_ fB [1,1,0,1,0,0]),.block 0,.seq (at_ fB [1,1,1])] {slots:=[.val (.slice 156 an) x0,.val (.int .i64) x1,.val (.slice 162 aq) x2,.undef,.undef,.undef,.undef,.row 0,.val (.int .i64) x3,.undef,.ptr 1 au [],.val (.int .i64) x4]++unU 68,res:=[(0,.row 83 am x5 false),(1,.box au (.strct [.val ap x6,.val ap x7]))],nx:=2,n0:=0}
def jv (x0:(List ae)) (x1:(List ah)) (x2:(List ao)):Option (((List ah)×Unit)×Unit):=pt E (aD E) en (aO E en []) (at_ aU [1,1,1,1,0,0,0,0,0]) [.seq (at_ aU [1,1,1,1,0,0,0,0,1]),.seq (at_ aU [1,1,1,1,0,0,0,1]),.loop (at_ aU [1,1,1,1,0,0,0]),.block 2,.seq (at_ aU [1,1,1,1,1])] {slots:=[.val (.slice 59 aj) x0,.undef,.undef,.undef,.undef,.undef,.undef,.row 0,.row 1]++unU 137,res:=[(0,.row 162 aq x1 false),(1,.row 57 ap x2 false)],nx:=2,n0:=0}
def aW (x0:(List aV)) (x1:Int) (x2:Int) (x3:Int) (x4:Int) (x5:(List ae)) (x6:Int) (x7:Int) (x8:Int) (x9:(List ag)) (x10:(List ao)) (x11:(List ae)) (x12:(List ag)) (x13:(List ao)):Option ((ew×Unit)×Unit):=pt E (aD E) pz (aO E pz []) (at_ ij [1,1,0,0,0,0,0]) [.seq (at_ ij [1,1,0,0,0,0,1]),.seq (at_ ij [1,1,0,0,0,1]),.loop (at_ ij [1,1,0,0,0]),.block 0,.seq (at_ ij [1,1,1])] {slots:=[.undef,.val (.slice 62 aG) x0,.val (.int .i64) x1,.undef,.undef,.undef,.ptr 0 aZ [],.ptr 1 aZ []]++unU 106,res:=[(0,.box aZ (.strct [.row 2,.val (.int .i64) x2,.val (.int .i64) x3,.val (.int .i64) x4,.row 3,.row 4])),(1,.box aZ (.strct [.val (.slice 59 aj) x5,.val (.int .i64) x6,.val (.int .i64) x7,.val (.int .i64) x8,.val (.slice 75 au) x9,.val (.slice 57 ap) x10])),(2,.row 59 aj x11 false),(3,.row 75 au x12 false),(4,.row 57 ap x13 false)],nx:=5,n0:=0}
def cr (x0:Int) (x1:Int) (x2:Int) (x3:Int) (x4:Int) (x5:ByteArray) (x6:Bool) (x7:(List aa)):Option ((Int×Unit)×((ByteArray×((List aa)×(Bool×Unit)))×Unit)):=pt E (aD E) fW (aO E fW [(0,.box bm (.undef)),(1,.row 156 an [] false)]) (at_ cl [1,1,0,0,0,1,0,1,0,1,0,0,0,0]) [.seq (at_ cl [1,1,0,0,0,1,0,1,0,1,0,0,0,1]),.seq (at_ cl [1,1,0,0,0,1,0,1,0,1,0,0,1]),.loop (at_ cl [1,1,0,0,0,1,0,1,0,1,0,0]),.block 2,.seq (at_ cl [1,1,0,0,0,1,0,1,1]),.block 1,.loop (at_ cl [1,1,0,0,0]),.block 0,.seq (at_ cl [1,1,1])] {slots:=[.ptr 0 bm [],.val (.int .i64) x0,.val (.int .i64) x1,.undef,.undef,.undef,.undef,.val (.int .i64) x2,.val (.int .i64) x3,.val (.int .i64) x4]++unU 45,res:=[(0,.box bm (.strct [.val .str x5,.row 2,.val .bool x6])),(2,.row 156 an x7 false)],nx:=3,n0:=2}
def fP (x0:(List ag)) (x1:Int) (x2:Int) (x3:(List ag)):Option (Unit×((List ag)×Unit)):=pt E (aD E) fq (aO E fq [(0,.box (.slice 75 au) (.undef)),(1,.row 75 au [] false)]) (at_ fx [1,0,0,0]) [.seq (at_ fx [1,0,0,1]),.loop (at_ fx [1,0,0]),.block 0] {slots:=[.undef,.ptr 0 (.slice 75 au) [],.undef,.undef,.undef,.val (.slice 75 au) x0,.val (.int .i64) x1,.val (.int .i64) x2]++unU 12,res:=[(0,.box (.slice 75 au) (.row 2)),(2,.row 75 au x3 false)],nx:=3,n0:=2}
def iO (x0:Int) (x1:Int) (x2:Int) (x3:(List ae)) (x4:(List ag)) (x5:(List ao)) (x6:(List ag)):Option (Unit×(((List ae)×((List ag)×((List ao)×Unit)))×Unit)):=pt E (aD E) c8 (aO E c8 [(0,.box b8 (.undef)),(1,.row 59 aj [] false),(2,.row 75 au [] false),(3,.row 57 ap [] false)]) (at_ bH [1,1,1,0,1,0,0,1,0,0,1,0,0,0]) [.seq (at_ bH [1,1,1,0,1,0,0,1,0,0,1,0,0,1]),.loop (at_ bH [1,1,1,0,1,0,0,1,0,0,1,0,0]),.block 2,.block 1,.seq (at_ bH [1,1,1,0,1,0,0,1,1]),.loop (at_ bH [1,1,1,0,1,0,0]),.block 0,.seq (at_ bH [1,1,1,1])] {slots:=[.ptr 0 b8 [],.undef,.undef,.undef,.ptr 4 (.slice 75 au) [],.fn 104 [.ptr 4 (.slice 75 au) []],.val (.int .i64) x0,.undef,.undef,.undef,.undef,.undef,.undef,.undef,.undef,.undef,.undef,.undef,.undef,.undef,.undef,.undef,.undef,.undef,.undef,.undef,.undef,.undef,.row 1,.val (.int .i64) x1,.val (.int .i64) x2]++unU 45,res:=[(0,.box b8 (.strct [.row 1,.row 2,.row 3])),(1,.row 59 aj x3 false),(2,.row 75 au x4 false),(3,.row 57 ap x5 false),(4,.box (.slice 75 au) (.row 5)),(5,.row 75 au x6 false)],nx:=6,n0:=4}
def gY (x0:Int) (x1:Int) (x2:(List ae)) (x3:(List ag)) (x4:(List ao)) (x5:(List ag)):Option (Unit×(((List ae)×((List ag)×((List ao)×Unit)))×Unit)):=pt E (aD E) c8 (aO E c8 [(0,.box b8 (.undef)),(1,.row 59 aj [] false),(2,.row 75 au [] false),(3,.row 57 ap [] false)]) (at_ bH [1,1,1,1,1,0,0,0]) [.seq (at_ bH [1,1,1,1,1,0,0,1]),.loop (at_ bH [1,1,1,1,1,0,0]),.block 4] {slots:=[.ptr 0 b8 [],.undef,.undef,.undef,.undef,.undef,.undef,.undef,.undef,.undef,.undef,.undef,.undef,.undef,.undef,.undef,.undef,.undef,.undef,.undef,.undef,.undef,.undef,.undef,.undef,.undef,.undef,.undef,.undef,.undef,.undef,.undef,.undef,.undef,.undef,.undef,.undef,.undef,.undef,.undef,.undef,.undef,.undef,.undef,.undef,.undef,.undef,.undef,.undef,.undef,.undef,.undef,.row 4,.val (.int .i64) x0,.val (.int .i64) x1]++unU 21,res:=[(0,.box b8 (.strct [.row 1,.row 2,.row 3])),(1,.row 59 aj x2 false),(2,.row 75 au x3 false),(3,.row 57 ap x4 false),(4,.row 75 au x5 false)],nx:=5,n0:=4}
def bT (x0:(List ag)) (x1:Int) (x2:Int) (x3:ao):Option ((Int×Unit)×(ao×Unit)):=pt E (aD E) di (aO E di [(0,.box ap (.undef))]) (at_ cm [1,0,1,0,0,0]) [.seq (at_ cm [1,0,1,0,0,1]),.loop (at_ cm [1,0,1,0,0]),.block 0,.seq (at_ cm [1,1])] {slots:=[.val (.slice 75 au) x0,.fn 224 [.ptr 0 ap []],.undef,.undef,.undef,.undef,.undef,.val (.int .i64) x1,.val (.int .i64) x2]++unU 10,res:=[(0,.box ap (.val ap x3))],nx:=1,n0:=1}
def my (x0:(List ae)) (x1:(List ae)) (x2:Int) (x3:Int) (x4:(List ae)) (x5:Int) (x6:Int) (x7:(List ae)) (x8:(List aa)) (x9:(List ag)) (x10:(List Int)) (x11:(List ae)) (x12:(List (List aa))) (x13:(List (List Int))) (x14:(List (List aa))) (x15:(List (List Int))):Option ((((List ae)×((List (List aa))×((List (List Int))×Unit)))×Unit)×Unit):=pt E (aD E) lg (aO E lg []) (at_ eD [1,1,0,1,0,0,1,1,0,0,1,1,1,0,1,0,0,0]) [.seq (at_ eD [1,1,0,1,0,0,1,1,0,0,1,1,1,0,1,0,0,1]),.loop (at_ eD [1,1,0,1,0,0,1,1,0,0,1,1,1,0,1,0,0]),.block 2,.seq (at_ eD [1,1,0,1,0,0,1,1,0,0,1,1,1,1]),.block 1,.seq (at_ eD [1,1,0,1,0,0,1,1,1]),.loop (at_ eD [1,1,0,1,0,0]),.block 0,.seq (at_ eD [1,1,1])] {slots:=[.val (.slice 59 aj) x0,.undef,.ptr 0 bK [],.ptr 1 bK [],.undef,.undef,.row 2,.undef,.row 3,.row 4,.undef,.undef,.undef,.undef,.val (.slice 59 aj) x1,.val (.int .i64) x2,.val (.int .i64) x3,.undef,.undef,.undef,.undef,.undef,.undef,.undef,.undef,.undef,.undef,.undef,.undef,.val (.slice 59 aj) x4,.val (.int .i64) x5,.val (.int .i64) x6]++unU 27,res:=[(0,.box bK (.strct [.row 5,.row 6,.row 7])),(1,.box bK (.strct [.val (.slice 59 aj) x7,.row 8,.row 9])),(2,.row 156 an x8 false),(3,.row 75 au x9 false),(4,.row 3 (.int .i64) x10 false),(5,.row 59 aj x11 false),(6,.row 103 (.slice 156 an) x12 false),(7,.row 171 (.slice 3 (.int .i64)) x13 false),(8,.row 103 (.slice 156 an) x14 false),(9,.row 171 (.slice 3 (.int .i64)) x15 false)],nx:=10,n0:=0}
def bM (x0:Int) (x1:(List Int)) (x2:Int) (x3:Int) (x4:l5) (x5:(List Bool)) (x6:(List ah)):Option (Unit×((List Bool)×(l5×((List ah)×Unit)))):=pt E (aD E) cQ (aO E cQ [(0,.box (.slice 4 .bool) (.undef)),(1,.box bK (.undef)),(2,.box (.slice 162 aq) (.undef)),(3,.keepF 168 []),(4,.row 4 .bool [] false),(5,.row 162 aq [] false)]) (at_ b9 [1,1,0,1,1,1,1,0,1,0,0,0]) [.seq (at_ b9 [1,1,0,1,1,1,1,0,1,0,0,1]),.loop (at_ b9 [1,1,0,1,1,1,1,0,1,0,0]),.block 1,.seq (at_ b9 [1,1,0,1,1,1,1,1]),.block 0] {slots:=[.val (.int .i64) x0,.undef,.ptr 1 bK [],.ptr 2 (.slice 162 aq) [],.ptr 3 .fn [],.undef,.undef,.undef,.undef,.undef,.undef,.undef,.undef,.undef,.undef,.undef,.undef,.undef,.undef,.val (.slice 3 (.int .i64)) x1,.val (.int .i64) x2,.val (.int .i64) x3]++unU 49,res:=[(0,.box (.slice 4 .bool) (.row 6)),(1,.box bK (.val bK x4)),(2,.box (.slice 162 aq) (.row 7)),(3,.keepF 168 [.ptr 0 (.slice 4 .bool) [],.ptr 1 bK [],.ptr 2 (.slice 162 aq) [],.ptr 3 .fn []]),(6,.row 4 .bool x5 false),(7,.row 162 aq x6 false)],nx:=8,n0:=6}
def iP (x0:(List aa)) (x1:(List ah)) (x2:Int) (x3:(List Int)) (x4:Int) (x5:Int) (x6:(List ah)) (x7:Int) (x8:Int) (x9:(List ab)):Option (((List ab)×Unit)×Unit):=pt E (aD E) lj (aO E lj []) (at_ fb [1,1,0,1,0,0,1,1,0,0,1,1,1,0,0,0]) [.seq (at_ fb [1,1,0,1,0,0,1,1,0,0,1,1,1,0,0,1]),.loop (at_ fb [1,1,0,1,0,0,1,1,0,0,1,1,1,0,0]),.block 2,.block 1,.seq (at_ fb [1,1,0,1,0,0,1,1,1]),.loop (at_ fb [1,1,0,1,0,0]),.block 0,.seq (at_ fb [1,1,1])] {slots:=[.val (.slice 156 an) x0,.undef,.val (.slice 162 aq) x1,.undef,.undef,.undef,.undef,.row 0,.undef,.val (.int .i64) x2,.undef,.undef,.undef,.undef,.val (.slice 2 (.int .i64)) x3,.val (.int .i64) x4,.val (.int .i64) x5,.undef,.undef,.undef,.undef,.undef,.undef,.undef,.undef,.undef,.undef,.undef,.undef,.undef,.undef,.undef,.undef,.val (.slice 162 aq) x6,.val (.int .i64) x7,.val (.int .i64) x8]++unU 19,res:=[(0,.row 83 am x9 false)],nx:=1,n0:=0}
def jU (x0:Int) (x1:Int) (x2:(List ah)) (x3:(List ae)) (x4:(List (List aa))) (x5:(List (List Int))) (x6:(List Bool)):Option (((List ah)×Unit)×Unit):=pt E (aD E) ep (aO E ep []) (at_ cy [1,1,1,1,1,0,1,0,0,0]) [.seq (at_ cy [1,1,1,1,1,0,1,0,0,1]),.loop (at_ cy [1,1,1,1,1,0,1,0,0]),.block 2,.seq (at_ cy [1,1,1,1,1,1])] {slots:=[.undef,.undef,.undef,.undef,.undef,.undef,.undef,.undef,.ptr 0 (.slice 162 aq) [],.undef,.undef,.ptr 1 .fn [],.undef,.undef,.undef,.undef,.undef,.undef,.undef,.undef,.undef,.undef,.undef,.undef,.undef,.undef,.undef,.undef,.undef,.undef,.undef,.undef,.undef,.undef,.undef,.undef,.undef,.undef,.undef,.undef,.val (.int .i64) x0,.val (.int .i64) x1]++unU 7,res:=[(0,.box (.slice 162 aq) (.row 2)),(1,.keepF 168 [.ptr 3 (.slice 4 .bool) [],.ptr 4 bK [],.ptr 0 (.slice 162 aq) [],.ptr 1 .fn []]),(2,.row 162 aq x2 false),(3,.box (.slice 4 .bool) (.row 5)),(4,.box bK (.strct [.val (.slice 59 aj) x3,.val (.slice 103 (.slice 156 an)) x4,.val (.slice 171 (.slice 3 (.int .i64))) x5])),(5,.row 4 .bool x6 false)],nx:=6,n0:=0}
def ce (x0:(List ae)) (x1:Int) (x2:Int) (x3:ao):Option ((Int×Unit)×(ao×Unit)):=pt E (aD E) dh (aO E dh [(0,.box ap (.undef))]) (at_ cn [1,0,1,0,0,0]) [.seq (at_ cn [1,0,1,0,0,1]),.loop (at_ cn [1,0,1,0,0]),.block 0,.seq (at_ cn [1,1])] {slots:=[.val (.slice 59 aj) x0,.fn 115 [.ptr 0 ap []],.undef,.undef,.undef,.undef,.undef,.val (.int .i64) x1,.val (.int .i64) x2]++unU 10,res:=[(0,.box ap (.val ap x3))],nx:=1,n0:=1}
def af (x0:(List aV)) (x1:Int) (x2:Int) (x3:Int) (x4:(List ae)) (x5:(List ag)) (x6:(List ao)):Option ((Int×(Int×Unit))×(((List ae)×((List ag)×((List ao)×Unit)))×Unit)):=pt E (aD E) ip (aO E ip [(0,.box b8 (.undef)),(1,.row 59 aj [] false),(2,.row 75 au [] false),(3,.row 57 ap [] false)]) (at_ dz [1,1,0,1,0,0,0,0]) [.seq (at_ dz [1,1,0,1,0,0,0,1]),.seq (at_ dz [1,1,0,1,0,0,1]),.loop (at_ dz [1,1,0,1,0,0]),.block 0,.seq (at_ dz [1,1,1])] {slots:=[.ptr 0 b8 [],.val (.slice 62 aG) x0,.val (.int .i64) x1,.undef,.undef,.undef,.undef,.undef,.val (.int .i64) x2,.val (.int .i64) x3]++unU 94,res:=[(0,.box b8 (.strct [.row 4,.row 5,.row 6])),(4,.row 59 aj x4 false),(5,.row 75 au x5 false),(6,.row 57 ap x6 false)],nx:=7,n0:=4}
def dR (x0:Int) (x1:Int) (x2:(List ae)) (x3:Int) (x4:Int) (x5:Int) (x6:(List ao)) (x7:Int) (x8:Int) (x9:Int) (x10:(List ag)) (x11:(List ag)) (x12:(List ae)) (x13:(List ag)) (x14:(List ao)):Option ((ew×Unit)×Unit):=pt E (aD E) bU (aO E bU []) (at_ aw [1,1,0,1,0,0,1,0,0,1,1,1,1,0,0,0,0]) [.seq (at_ aw [1,1,0,1,0,0,1,0,0,1,1,1,1,0,0,0,1]),.seq (at_ aw [1,1,0,1,0,0,1,0,0,1,1,1,1,0,0,1]),.loop (at_ aw [1,1,0,1,0,0,1,0,0,1,1,1,1,0,0]),.block 4,.block 1,.seq (at_ aw [1,1,0,1,0,0,1,1]),.loop (at_ aw [1,1,0,1,0,0]),.block 0,.seq (at_ aw [1,1,1])] {slots:=[.undef,.undef,.ptr 0 aZ [],.undef,.ptr 1 aZ [],.row 2,.val (.int .i64) x0,.undef,.undef,.val (.int .i64) x1]++unU 106,res:=[(0,.box aZ (.strct [.val (.slice 59 aj) x2,.val (.int .i64) x3,.val (.int .i64) x4,.val (.int .i64) x5,.row 3,.val (.slice 57 ap) x6])),(1,.box aZ (.strct [.row 4,.val (.int .i64) x7,.val (.int .i64) x8,.val (.int .i64) x9,.row 5,.row 6])),(2,.row 75 au x10 false),(3,.row 75 au x11 false),(4,.row 59 aj x12 false),(5,.row 75 au x13 false),(6,.row 57 ap x14 false)],nx:=7,n0:=0}
def gQ (x0:Int) (x1:Int) (x2:(List ae)) (x3:Int) (x4:Int) (x5:Int) (x6:(List ag)) (x7:(List ao)) (x8:Int) (x9:Int) (x10:Int) (x11:(List ag)) (x12:(List ae)) (x13:(List ag)) (x14:(List ao)):Option ((ew×Unit)×Unit):=pt E (aD E) bU (aO E bU []) (at_ aw [1,1,0,1,0,0,1,0,0,1,1,1,1,0,0,0,0]) [.seq (at_ aw [1,1,0,1,0,0,1,0,0,1,1,1,1,0,0,0,1]),.seq (at_ aw [1,1,0,1,0,0,1,0,0,1,1,1,1,0,0,1]),.loop (at_ aw [1,1,0,1,0,0,1,0,0,1,1,1,1,0,0]),.block 4,.block 1,.seq (at_ aw [1,1,0,1,0,0,1,1]),.loop (at_ aw [1,1,0,1,0,0]),.block 0,.seq (at_ aw [1,1,1])] {slots:=[.undef,.undef,.ptr 0 aZ [],.undef,.ptr 1 aZ [],.row 2,.val (.int .i64) x0,.undef,.undef,.val (.int .i64) x1]++unU 106,res:=[(0,.box aZ (.strct [.val (.slice 59 aj) x2,.val (.int .i64) x3,.val (.int .i64) x4,.val (.int .i64) x5,.val (.slice 75 au) x6,.val (.slice 57 ap) x7])),(1,.box aZ (.strct [.row 3,.val (.int .i64) x8,.val (.int .i64) x9,.val (.int .i64) x10,.row 4,.row 5])),(2,.row 75 au x11 false),(3,.row 59 aj x12 false),(4,.row 75 au x13 false),(5,.row 57 ap x14 false)],nx:=6,n0:=0}
def ik (x0:(List ae)) (x1:Int) (x2:(List ah)) (x3:(List ao)) (x4:(List ao)):Option (((List ah)×Unit)×Unit):=pt E (aD E) en (aO E en []) (at_ aU [1,1,1,1,0,0,0,1,0,1,0,1,0,0,0,0]) [.seq (at_ aU [1,1,1,1,0,0,0,1,0,1,0,1,0,0,0,1]),.seq (at_ aU [1,1,1,1,0,0,0,1,0,1,0,1,0,0,1]),.loop (at_ aU [1,1,1,1,0,0,0,1,0,1,0,1,0,0]),.block 4,.seq (at_ aU [1,1,1,1,0,0,0,1,0,1,1]),.block 3,.loop (at_ aU [1,1,1,1,0,0,0]),.block 2,.seq (at_ aU [1,1,1,1,1])] {slots:=[.val (.slice 59 aj) x0,.undef,.undef,.undef,.undef,.undef,.undef,.row 0,.row 1,.undef,.row 2,.val (.int .i64) x1]++unU 134,res:=[(0,.row 162 aq x2 false),(1,.row 57 ap x3 false),(2,.row 57 ap x4 false)],nx:=3,n0:=0}
def gt (x0:Int) (x1:Int) (x2:(List ae)) (x3:(List ao)) (x4:(List ag)) (x5:(List ag)):Option (Unit×(((List ae)×((List ag)×((List ao)×Unit)))×Unit)):=pt E (aD E) c8 (aO E c8 [(0,.box b8 (.undef)),(1,.row 59 aj [] false),(2,.row 75 au [] false),(3,.row 57 ap [] false)]) (at_ bH [1,1,1,1,1,0,0,0]) [.seq (at_ bH [1,1,1,1,1,0,0,1]),.loop (at_ bH [1,1,1,1,1,0,0]),.block 4] {slots:=[.ptr 0 b8 [],.undef,.undef,.undef,.undef,.undef,.undef,.undef,.undef,.undef,.undef,.undef,.undef,.undef,.undef,.undef,.undef,.undef,.undef,.undef,.undef,.undef,.undef,.undef,.undef,.undef,.undef,.undef,.undef,.undef,.undef,.undef,.undef,.undef,.undef,.undef,.undef,.undef,.undef,.undef,.undef,.undef,.undef,.undef,.undef,.undef,.undef,.undef,.undef,.undef,.undef,.undef,.row 4,.val (.int .i64) x0,.val (.int .i64) x1]++unU 21,res:=[(0,.box b8 (.strct [.row 1,.row 5,.row 3])),(1,.row 59 aj x2 false),(3,.row 57 ap x3 false),(4,.row 75 au x4 false),(5,.row 75 au x5 false)],nx:=6,n0:=4}
def gu (x0:Int) (x1:Int) (x2:(List ah)) (x3:l5) (x4:(List Bool)):Option (((List ah)×Unit)×Unit):=pt E (aD E) ep (aO E ep []) (at_ cy [1,1,1,1,1,0,1,0,0,0]) [.seq (at_ cy [1,1,1,1,1,0,1,0,0,1]),.loop (at_ cy [1,1,1,1,1,0,1,0,0]),.block 2,.seq (at_ cy [1,1,1,1,1,1])] {slots:=[.undef,.undef,.undef,.undef,.undef,.undef,.undef,.undef,.ptr 0 (.slice 162 aq) [],.undef,.undef,.ptr 1 .fn [],.undef,.undef,.undef,.undef,.undef,.undef,.undef,.undef,.undef,.undef,.undef,.undef,.undef,.undef,.undef,.undef,.undef,.undef,.undef,.undef,.undef,.undef,.undef,.undef,.undef,.undef,.undef,.undef,.val (.int .i64) x0,.val (.int .i64) x1]++unU 7,res:=[(0,.box (.slice 162 aq) (.row 2)),(1,.keepF 168 [.ptr 3 (.slice 4 .bool) [],.ptr 4 bK [],.ptr 0 (.slice 162 aq) [],.ptr 1 .fn []]),(2,.row 162 aq x2 false),(3,.box (.slice 4 .bool) (.row 5)),(4,.box bK (.val bK x3)),(5,.row 4 .bool x4 false)],nx:=6,n0:=0}
def iR (x0:Int) (x1:Int) (x2:Int) (x3:(List ae)) (x4:Int) (x5:Int) (x6:Int) (x7:(List ao)) (x8:Int) (x9:Int) (x10:Int) (x11:(List ag)) (x12:(List ag)) (x13:(List ag)) (x14:(List ae)) (x15:(List ag)) (x16:(List ao)):Option ((ew×Unit)×Unit):=pt E (aD E) bU (aO E bU []) (at_ aw [1,1,0,1,0,0,1,0,0,1,1,1,1,0,0,1,0,0,1,1,1,0,0,0,0]) [.seq (at_ aw [1,1,0,1,0,0,1,0,0,1,1,1,1,0,0,1,0,0,1,1,1,0,0,0,1]),.seq (at_ aw [1,1,0,1,0,0,1,0,0,1,1,1,1,0,0,1,0,0,1,1,1,0,0,1]),.loop (at_ aw [1,1,0,1,0,0,1,0,0,1,1,1,1,0,0,1,0,0,1,1,1,0,0]),.block 6,.block 5,.seq (at_ aw [1,1,0,1,0,0,1,0,0,1,1,1,1,0,0,1,1]),.loop (at_ aw [1,1,0,1,0,0,1,0,0,1,1,1,1,0,0]),.block 4,.block 1,.seq (at_ aw [1,1,0,1,0,0,1,1]),.loop (at_ aw [1,1,0,1,0,0]),.block 0,.seq (at_ aw [1,1,1])] {slots:=[.undef,.undef,.ptr 0 aZ [],.undef,.ptr 1 aZ [],.row 2,.val (.int .i64) x0,.undef,.undef,.val (.int .i64) x1,.row 3,.val (.int .i64) x2]++unU 104,res:=[(0,.box aZ (.strct [.val (.slice 59 aj) x3,.val (.int .i64) x4,.val (.int .i64) x5,.val (.int .i64) x6,.row 4,.val (.slice 57 ap) x7])),(1,.box aZ (.strct [.row 5,.val (.int .i64) x8,.val (.int .i64) x9,.val (.int .i64) x10,.row 6,.row 7])),(2,.row 75 au x11 false),(3,.row 75 au x12 false),(4,.row 75 au x13 false),(5,.row 59 aj x14 false),(6,.row 75 au x15 false),(7,.row 57 ap x16 false)],nx:=8,n0:=0}
def mz (x0:Int) (x1:(List ae)) (x2:Int) (x3:Int) (x4:Int) (x5:(List ao)) (x6:Int) (x7:Int) (x8:Int) (x9:(List ag)) (x10:(List ag)) (x11:(List ae)) (x12:(List ag)) (x13:(List ao)):Option ((ew×Unit)×Unit):=pt E (aD E) bU (aO E bU []) (at_ aw [1,1,0,1,0,0,0,0]) [.seq (at_ aw [1,1,0,1,0,0,0,1]),.seq (at_ aw [1,1,0,1,0,0,1]),.loop (at_ aw [1,1,0,1,0,0]),.block 0,.seq (at_ aw [1,1,1])] {slots:=[.undef,.undef,.ptr 0 aZ [],.undef,.ptr 1 aZ [],.row 2,.val (.int .i64) x0]++unU 109,res:=[(0,.box aZ (.strct [.val (.slice 59 aj) x1,.val (.int .i64) x2,.val (.int .i64) x3,.val (.int .i64) x4,.row 3,.val (.slice 57 ap) x5])),(1,.box aZ (.strct [.row 4,.val (.int .i64) x6,.val (.int .i64) x7,.val (.int .i64) x8,.row 5,.row 6])),(2,.row 75 au x9 false),(3,.row 75 au x10 false),(4,.row 59 aj x11 false),(5,.row 75 au x12 false),(6,.row 57 ap x13 false)],nx:=7,n0:=0}
def gR (x0:Int) (x1:Int) (x2:Int) (x3:(List ae)) (x4:Int) (x5:Int) (x6:Int) (x7:(List ag)) (x8:(List ao)) (x9:Int) (x10:Int) (x11:Int) (x12:(List ag)) (x13:(List ag)) (x14:(List ae)) (x15:(List ag)) (x16:(List ao)):Option ((ew×Unit)×Unit):=pt E (aD E) bU (aO E bU []) (at_ aw [1,1,0,1,0,0,1,0,0,1,1,1,1,0,0,1,0,0,1,1,1,0,0,0,0]) [.seq (at_ aw [1,1,0,1,0,0,1,0,0,1,1,1,1,0,0,1,0,0,1,1,1,0,0,0,1]),.seq (at_ aw [1,1,0,1,0,0,1,0,0,1,1,1,1,0,0,1,0,0,1,1,1,0,0,1]),.loop (at_ aw [1,1,0,1,0,0,1,0,0,1,1,1,1,0,0,1,0,0,1,1,1,0,0]),.block 6,.block 5,.seq (at_ aw [1,1,0,1,0,0,1,0,0,1,1,1,1,0,0,1,1]),.loop (at_ aw [1,1,0,1,0,0,1,0,0,1,1,1,1,0,0]),.block 4,.block 1,.seq (at_ aw [1,1,0,1,0,0,1,1]),.loop (at_ aw [1,1,0,1,0,0]),.block 0,.seq (at_ aw [1,1,1])] {slots:=[.undef,.undef,.ptr 0 aZ [],.undef,.ptr 1 aZ [],.row 2,.val (.int .i64) x0,.undef,.undef,.val (.int .i64) x1,.row 3,.val (.int .i64) x2]++unU 104,res:=[(0,.box aZ (.strct [.val (.slice 59 aj) x3,.val (.int .i64) x4,.val (.int .i64) x5,.val (.int .i64) x6,.val (.slice 75 au) x7,.val (.slice 57 ap) x8])),(1,.box aZ (.strct [.row 4,.val (.int .i64) x9,.val (.int .i64) x10,.val (.int .i64) x11,.row 5,.row 6])),(2,.row 75 au x12 false),(3,.row 75 au x13 false),(4,.row 59 aj x14 false),(5,.row 75 au x15 false),(6,.row 57 ap x16 false)],nx:=7,n0:=0}
def sP (x0:(List ae)) (x1:Int) (x2:Bool) (x3:Int) (x4:(List ah)) (x5:(List ao)) (x6:(List ao)) (x7:(List aa)) (x8:Int) (x9:Int) (x10:ByteArray) (x11:(List ao)):Option (((List ah)×Unit)×Unit):=pt E (aD E) en (aO E en []) (at_ aU [1,1,1,1,0,0,0,1,0,1,0,1,0,0,1,0,0,1,1,1,0,1,0,1,1,0,1,1,0,1,0,0,0,0]) [.seq (at_ aU [1,1,1,1,0,0,0,1,0,1,0,1,0,0,1,0,0,1,1,1,0,1,0,1,1,0,1,1,0,1,0,0,0,1]),.seq (at_ aU [1,1,1,1,0,0,0,1,0,1,0,1,0,0,1,0,0,1,1,1,0,1,0,1,1,0,1,1,0,1,0,0,1]),.loop (at_ aU [1,1,1,1,0,0,0,1,0,1,0,1,0,0,1,0,0,1,1,1,0,1,0,1,1,0,1,1,0,1,0,0]),.block 6,.seq (at_ aU [1,1,1,1,0,0,0,1,0,1,0,1,0,0,1,0,0,1,1,1,0,1,0,1,1,0,1,1,1]),.seq (at_ aU [1,1,1,1,0,0,0,1,0,1,0,1,0,0,1,0,0,1,1,1,1]),.block 5,.seq (at_ aU [1,1,1,1,0,0,0,1,0,1,0,1,0,0,1,1]),.loop (at_ aU [1,1,1,1,0,0,0,1,0,1,0,1,0,0]),.block 4,.seq (at_ aU [1,1,1,1,0,0,0,1,0,1,1]),.block 3,.loop (at_ aU [1,1,1,1,0,0,0]),.block 2,.seq (at_ aU [1,1,1,1,1])] {slots:=[.val (.slice 59 aj) x0,.undef,.undef,.undef,.undef,.undef,.undef,.row 0,.row 1,.undef,.row 2,.val (.int .i64) x1,.undef,.row 3,.undef,.ptr 4 am [],.undef,.row 5,.val .bool x2,.val (.int .i64) x3]++unU 126,res:=[(0,.row 162 aq x4 false),(1,.row 57 ap x5 false),(2,.row 57 ap x6 false),(3,.row 156 an x7 false),(4,.box am (.strct [.val (.int .i64) x8,.val (.int .i64) x9,.val .str x10])),(5,.row 57 ap x11 false)],nx:=6,n0:=0}
def mA (x0:Int) (x1:Int) (x2:Int) (x3:Bool) (x4:Int) (x5:(List ae)) (x6:Int) (x7:Int) (x8:Int) (x9:(List ao)) (x10:Int) (x11:Int) (x12:Int) (x13:(List ag)) (x14:(List ag)) (x15:(List ag)) (x16:(List ae)) (x17:(List ag)) (x18:(List ao)):Option ((ew×Unit)×Unit):=pt E (aD E) bU (aO E bU []) (at_ aw [1,1,0,1,0,0,1,0,0,1,1,1,1,0,0,1,0,0,1,1,1,0,0,1,0,0,1,0,1,0,0,0,0]) [.seq (at_ aw [1,1,0,1,0,0,1,0,0,1,1,1,1,0,0,1,0,0,1,1,1,0,0,1,0,0,1,0,1,0,0,0,1]),.seq (at_ aw [1,1,0,1,0,0,1,0,0,1,1,1,1,0,0,1,0,0,1,1,1,0,0,1,0,0,1,0,1,0,0,1]),.loop (at_ aw [1,1,0,1,0,0,1,0,0,1,1,1,1,0,0,1,0,0,1,1,1,0,0,1,0,0,1,0,1,0,0]),.block 8,.seq (at_ aw [1,1,0,1,0,0,1,0,0,1,1,1,1,0,0,1,0,0,1,1,1,0,0,1,0,0,1,1]),.block 7,.seq (at_ aw [1,1,0,1,0,0,1,0,0,1,1,1,1,0,0,1,0,0,1,1,1,0,0,1,1]),.loop (at_ aw [1,1,0,1,0,0,1,0,0,1,1,1,1,0,0,1,0,0,1,1,1,0,0]),.block 6,.block 5,.seq (at_ aw [1,1,0,1,0,0,1,0,0,1,1,1,1,0,0,1,1]),.loop (at_ aw [1,1,0,1,0,0,1,0,0,1,1,1,1,0,0]),.block 4,.block 1,.seq (at_ aw [1,1,0,1,0,0,1,1]),.loop (at_ aw [1,1,0,1,0,0]),.block 0,.seq (at_ aw [1,1,1])] {slots:=[.undef,.undef,.ptr 0 aZ [],.undef,.ptr 1 aZ [],.row 2,.val (.int .i64) x0,.undef,.undef,.val (.int .i64) x1,.row 3,.val (.int .i64) x2,.val .bool x3,.val (.int .i64) x4]++unU 102,res:=[(0,.box aZ (.strct [.val (.slice 59 aj) x5,.val (.int .i64) x6,.val (.int .i64) x7,.val (.int .i64) x8,.row 4,.val (.slice 57 ap) x9])),(1,.box aZ (.strct [.row 5,.val (.int .i64) x10,.val (.int .i64) x11,.val (.int .i64) x12,.row 6,.row 7])),(2,.row 75 au x13 false),(3,.row 75 au x14 false),(4,.row 75 au x15 false),(5,.row 59 aj x16 false),(6,.row 75 au x17 false),(7,.row 57 ap x18 false)],nx:=8,n0:=0}
def mB (x0:Int) (x1:Bool) (x2:Int) (x3:(List ae)) (x4:Int) (x5:Int) (x6:Int) (x7:(List ao)) (x8:Int) (x9:Int) (x10:Int) (x11:(List ag)) (x12:(List ag)) (x13:(List ae)) (x14:(List ag)) (x15:(List ao)):Option ((ew×Unit)×Unit):=pt E (aD E) bU (aO E bU []) (at_ aw [1,1,0,1,0,0,1,0,0,1,0,1,0,0,0,0]) [.seq (at_ aw [1,1,0,1,0,0,1,0,0,1,0,1,0,0,0,1]),.seq (at_ aw [1,1,0,1,0,0,1,0,0,1,0,1,0,0,1]),.loop (at_ aw [1,1,0,1,0,0,1,0,0,1,0,1,0,0]),.block 2,.seq (at_ aw [1,1,0,1,0,0,1,0,0,1,1]),.block 1,.seq (at_ aw [1,1,0,1,0,0,1,1]),.loop (at_ aw [1,1,0,1,0,0]),.block 0,.seq (at_ aw [1,1,1])] {slots:=[.undef,.undef,.ptr 0 aZ [],.undef,.ptr 1 aZ [],.row 2,.val (.int .i64) x0,.val .bool x1,.val (.int .i64) x2]++unU 107,res:=[(0,.box aZ (.strct [.val (.slice 59 aj) x3,.val (.int .i64) x4,.val (.int .i64) x5,.val (.int .i64) x6,.row 3,.val (.slice 57 ap) x7])),(1,.box aZ (.strct [.row 4,.val (.int .i64) x8,.val (.int .i64) x9,.val (.int .i64) x10,.row 5,.row 6])),(2,.row 75 au x11 false),(3,.row 75 au x12 false),(4,.row 59 aj x13 false),(5,.row 75 au x14 false),(6,.row 57 ap x15 false)],nx:=7,n0:=0}
def kY (x0:Int) (x1:Int) (x2:Int) (x3:Bool) (x4:Int) (x5:(List ae)) (x6:Int) (x7:Int) (x8:Int) (x9:(List ag)) (x10:(List ao)) (x11:Int) (x12:Int) (x13:Int) (x14:(List ag)) (x15:(List ag)) (x16:(List ae)) (x17:(List ag)) (x18:(List ao)):Option ((ew×Unit)×Unit):=pt E (aD E) bU (aO E bU []) (at_ aw [1,1,0,1,0,0,1,0,0,1,1,1,1,0,0,1,0,0,1,1,1,0,0,1,0,0,1,0,1,0,0,0,0]) [.seq (at_ aw [1,1,0,1,0,0,1,0,0,1,1,1,1,0,0,1,0,0,1,1,1,0,0,1,0,0,1,0,1,0,0,0,1]),.seq (at_ aw [1,1,0,1,0,0,1,0,0,1,1,1,1,0,0,1,0,0,1,1,1,0,0,1,0,0,1,0,1,0,0,1]),.loop (at_ aw [1,1,0,1,0,0,1,0,0,1,1,1,1,0,0,1,0,0,1,1,1,0,0,1,0,0,1,0,1,0,0]),.block 8,.seq (at_ aw [1,1,0,1,0,0,1,0,0,1,1,1,1,0,0,1,0,0,1,1,1,0,0,1,0,0,1,1]),.block 7,.seq (at_ aw [1,1,0,1,0,0,1,0,0,1,1,1,1,0,0,1,0,0,1,1,1,0,0,1,1]),.loop (at_ aw [1,1,0,1,0,0,1,0,0,1,1,1,1,0,0,1,0,0,1,1,1,0,0]),.block 6,.block 5,.seq (at_ aw [1,1,0,1,0,0,1,0,0,1,1,1,1,0,0,1,1]),.loop (at_ aw [1,1,0,1,0,0,1,0,0,1,1,1,1,0,0]),.block 4,.block 1,.seq (at_ aw [1,1,0,1,0,0,1,1]),.loop (at_ aw [1,1,0,1,0,0]),.block 0,.seq (at_ aw [1,1,1])] {slots:=[.undef,.undef,.ptr 0 aZ [],.undef,.ptr 1 aZ [],.row 2,.val (.int .i64) x0,.undef,.undef,.val (.int .i64) x1,.row 3,.val (.int .i64) x2,.val .bool x3,.val (.int .i64) x4]++unU 102,res:=[(0,.box aZ (.strct [.val (.slice 59 aj) x5,.val (.int .i64) x6,.val (.int .i64) x7,.val (.int .i64) x8,.val (.slice 75 au) x9,.val (.slice 57 ap) x10])),(1,.box aZ (.strct [.row 4,.val (.int .i64) x11,.val (.int .i64) x12,.val (.int .i64) x13,.row 5,.row 6])),(2,.row 75 au x14 false),(3,.row 75 au x15 false),(4,.row 59 aj x16 false),(5,.row 75 au x17 false),(6,.row 57 ap x18 false)],nx:=7,n0:=0}
def fk (x0:(List ae)) (x1:Int) (x2:Bool) (x3:Int) (x4:(List ah)) (x5:(List ao)) (x6:(List ao)) (x7:(List aa)) (x8:Int) (x9:Int) (x10:ByteArray) (x11:(List ao)):Option (((List ah)×Unit)×Unit):=pt E (aD E) en (aO E en []) (at_ aU [1,1,1,1,0,0,0,1,0,1,0,1,0,0,1,0,0,1,1,1,0,1,0,1,1,0,1,1,0,1,0,0,0,0]) [.seq (at_ aU [1,1,1,1,0,0,0,1,0,1,0,1,0,0,1,0,0,1,1,1,0,1,0,1,1,0,1,1,0,1,0,0,0,1]),.seq (at_ aU [1,1,1,1,0,0,0,1,0,1,0,1,0,0,1,0,0,1,1,1,0,1,0,1,1,0,1,1,0,1,0,0,1]),.loop (at_ aU [1,1,1,1,0,0,0,1,0,1,0,1,0,0,1,0,0,1,1,1,0,1,0,1,1,0,1,1,0,1,0,0]),.block 6,.seq (at_ aU [1,1,1,1,0,0,0,1,0,1,0,1,0,0,1,0,0,1,1,1,0,1,0,1,1,0,1,1,1]),.seq (at_ aU [1,1,1,1,0,0,0,1,0,1,0,1,0,0,1,0,0,1,1,1,1]),.block 5,.seq (at_ aU [1,1,1,1,0,0,0,1,0,1,0,1,0,0,1,1]),.loop (at_ aU [1,1,1,1,0,0,0,1,0,1,0,1,0,0]),.block 4,.seq (at_ aU [1,1,1,1,0,0,0,1,0,1,1]),.block 3,.loop (at_ aU [1,1,1,1,0,0,0]),.block 2,.seq (at_ aU [1,1,1,1,1])] {slots:=[.val (.slice 59 aj) x0,.undef,.undef,.undef,.undef,.undef,.undef,.row 0,.row 1,.undef,.row 2,.val (.int .i64) x1,.undef,.row 3,.undef,.ptr 4 am [],.undef,.row 5,.val .bool x2,.val (.int .i64) x3]++unU 126,res:=[(0,.row 162 aq x4 false),(1,.row 57 ap x5 true),(2,.row 57 ap x6 false),(3,.row 156 an x7 false),(4,.box am (.strct [.val (.int .i64) x8,.val (.int .i64) x9,.val .str x10])),(5,.row 57 ap x11 false)],nx:=6,n0:=0}
def eE (x0:(List ae)) (x1:Int) (x2:(List ah)) (x3:(List ao)) (x4:(List ao)):Option (((List ah)×Unit)×Unit):=pt E (aD E) en (aO E en []) (at_ aU [1,1,1,1,0,0,0,1,0,1,0,1,0,0,0,0]) [.seq (at_ aU [1,1,1,1,0,0,0,1,0,1,0,1,0,0,0,1]),.seq (at_ aU [1,1,1,1,0,0,0,1,0,1,0,1,0,0,1]),.loop (at_ aU [1,1,1,1,0,0,0,1,0,1,0,1,0,0]),.block 4,.seq (at_ aU [1,1,1,1,0,0,0,1,0,1,1]),.block 3,.loop (at_ aU [1,1,1,1,0,0,0]),.block 2,.seq (at_ aU [1,1,1,1,1])] {slots:=[.val (.slice 59 aj) x0,.undef,.undef,.undef,.undef,.undef,.undef,.row 0,.row 1,.undef,.row 2,.val (.int .i64) x1]++unU 134,res:=[(0,.row 162 aq x2 false),(1,.row 57 ap x3 true),(2,.row 57 ap x4 false)],nx:=3,n0:=0}
end
end Go.Proofs.YteaahciglahehaaGreatDoor.Abs
