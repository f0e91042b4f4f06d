/- What the functions are, as the reader reads them. Printed by out.py. -/
import Derived.Test.YtipnjpfdlolhmaaGreatDoorZA3
import Derived.Test.YtipnjpfdlolhmaaGreatDoorProg
set_option linter.unusedVariables false
set_option linter.unusedSimpArgs false
set_option maxRecDepth 100000
open _root_ renaming ByteArray→Z0
namespace Go.Proofs.YtipnjpfdlolhmaaGreatDoor.Abs
open Go Go.Proofs.YtipnjpfdlolhmaaGreatDoor
abbrev U1:TypeId:=9
abbrev aK:Ty := .agg (.pair (.int .i64) (.pair (.int .i64) .unit))
abbrev aw:=Int×Int×Unit
abbrev ak:Ty := .agg (.pair aK (.pair .str .unit))
abbrev ac:=aw×Z0×Unit
abbrev bC:Ty := .agg (.pair aK (.pair aK .unit))
abbrev aB:=aw×aw×Unit
abbrev bD:Ty := .agg (.pair (.int .i64) (.pair aK (.pair .str (.pair bC (.pair (.int .i64) (.pair (.int .i64) .unit))))))
abbrev eN:=Int×aw×Z0×aB×Int×Int×Unit
abbrev aq:Ty := .agg (.pair (.int .i64) (.pair (.int .i64) (.pair .str .unit)))
abbrev ae:=Int×Int×Z0×Unit
abbrev br:Ty := .agg (.pair aK (.pair .bool (.pair .bool .unit)))
abbrev aM:=aw×Bool×Bool×Unit
abbrev af:Ty := .agg (.pair (.int .i64) (.pair (.int .i64) (.pair aq (.pair br (.pair br (.pair (.slice 2 (.int .i64)) .unit))))))
abbrev ab:=Int×Int×ae×aM×aM×(List Int)×Unit
abbrev ao:Ty := .agg (.pair aK (.pair aq .unit))
abbrev ap:=aw×ae×Unit
abbrev bc:Ty := .agg (.pair .str (.pair (.int .i64) (.pair .bool (.pair (.slice 66 af) .unit))))
abbrev ld:=Z0×Int×Bool×(List ab)×Unit
abbrev aX:Ty := .agg (.pair (.slice 5 (.int .u8)) (.pair (.int .i64) .unit))
abbrev aY:=(List Int)×Int×Unit
abbrev bQ:Ty := .agg (.pair (.slice 39 ak) (.pair (.slice 35 (.slice 66 af)) (.pair (.slice 122 (.slice 3 (.int .i64))) .unit)))
abbrev lN:=(List ac)×(List (List ab))×(List (List Int))×Unit
abbrev bh:Ty := .agg (.pair .str (.pair (.slice 66 af) (.pair .bool .unit)))
abbrev p6:=Z0×(List ab)×Bool×Unit
noncomputable def jY:an:=am 3 Tryz.f3 (.pair (.val .bool) .unit) .unit [] [(12,[3,4,5,7,11]),(23,[4,5,16,17,18])]
noncomputable def Sr:an:=am 4 Tryz.f4 (.pair (.val .bool) .unit) .unit [] []
noncomputable def uI:an:=am 5 Tryz.f5 (.pair (.row 39 ak false) .unit) .unit [] []
noncomputable def EQ:an:=am 6 Tryz.f6 (.pair (.row 39 ak false) (.pair (.val .bool) .unit)) .unit [] []
noncomputable def ER:an:=am 7 Tryz.f7 (.pair (.row 39 ak false) (.pair (.val .bool) .unit)) .unit [] []
noncomputable def tk:an:=am 8 Tryz.f8 (.pair (.val .bool) .unit) .unit [] [(4,[0,1,5])]
noncomputable def wF:an:=am 9 Tryz.f9 (.pair (.row 66 af false) (.pair (.val .bool) .unit)) .unit [] []
noncomputable def HN:an:=am 10 Tryz.f10 (.pair (.row 66 af false) (.pair (.val .bool) .unit)) .unit [] []
noncomputable def xZ:an:=am 11 Tryz.f11 (.pair (.row 29 bC false) .unit) .unit [] [(5,[0,3,4])]
noncomputable def CI:an:=am 12 Tryz.f12 (.pair (.row 48 ao false) .unit) .unit [] []
noncomputable def HO:an:=am 13 Tryz.f13 (.pair (.val aq) .unit) .unit [] []
noncomputable def HP:an:=am 14 Tryz.f14 (.pair (.ptr aX) .unit) .unit [] []
noncomputable def rC:an:=am 15 Tryz.f15 (.pair (.row 39 ak false) .unit) (.pair (.val aX) .unit) [] [(3,[0,5,6])]
noncomputable def ya:an:=am 16 Tryz.f16 (.pair (.val .bool) .unit) .unit [] [(2,[0,5,6,7])]
noncomputable def ES:an:={g:=17,fn:=Tryz.f17,sh:=(.pair (.row 39 ak false) (.pair (.val .bool) .unit)),bx := .unit,own:=[],live:=[],sub:=[(38,⟨10038,10038,fun _ _=>some true⟩)]}
noncomputable def yb:an:=am 18 Tryz.f18 (.pair (.val .bool) .unit) .unit [] [(4,[0,3])]
noncomputable def tm:an:=am 19 Tryz.f19 (.pair (.row 39 ak false) (.pair (.val .bool) .unit)) .unit [] [(9,[0,3,6,7])]
noncomputable def yc:an:=am 20 Tryz.f20 (.pair (.val .bool) .unit) .unit [] [(2,[0,3])]
noncomputable def vG:an:=am 21 Tryz.f21 (.pair (.val (.int .i64)) .unit) (.pair (.strct (.pair (.val .str) (.pair (.val (.int .i64)) (.pair (.val .bool) (.pair (.row 66 af false) .unit))))) .unit) [] [(6,[0,1,5])]
noncomputable def p7:an:=am 22 Tryz.f22 .unit (.pair (.strct (.pair (.val .str) (.pair (.val (.int .i64)) (.pair (.val .bool) (.pair (.row 66 af false) .unit))))) .unit) [] [(0,[0])]
noncomputable def o7:an:=am 23 Tryz.f23 (.pair (.val .bool) .unit) .unit [] [(4,[0,3]),(9,[0,3,4])]
noncomputable def HQ:an:=am 24 Tryz.f24 (.pair (.val .bool) .unit) .unit [] []
noncomputable def An:an:=am 25 Tryz.f25 (.pair (.row 66 af false) .unit) .unit [] [(3,[0,1,2,3,9,10])]
noncomputable def wG:an:=am 26 Tryz.f26 (.pair (.row 48 ao false) .unit) .unit [] []
noncomputable def vH:an:=am 27 Tryz.f27 (.pair (.val .bool) .unit) .unit [] [(2,[0,5,6,7])]
noncomputable def Ao:an:=am 28 Tryz.f28 (.pair (.val aq) .unit) .unit [] [(2,[3,4,7,8,9])]
noncomputable def rD:an:=am 29 Tryz.f29 (.pair (.val (.int .i64)) .unit) (.pair (.val aX) .unit) [] []
noncomputable def KP:an:=am 30 Tryz.f30 (.pair (.row 39 ak false) (.pair (.val .bool) .unit)) .unit [] []
noncomputable def CJ:an:=am 31 Tryz.f31 (.pair (.val aK) .unit) (.pair (.val aX) .unit) [] []
noncomputable def zq:an:=am 32 Tryz.f32 (.pair (.val .str) .unit) (.pair (.val aX) .unit) [] []
noncomputable def Ap:an:=am 33 Tryz.f33 (.pair (.val .bool) .unit) (.pair (.val aX) .unit) [] []
noncomputable def KQ:an:=am 34 Tryz.f34 (.pair (.val .bool) .unit) .unit [] []
noncomputable def wH:an:=am 35 Tryz.f35 (.pair (.val (.int .i64)) .unit) .unit [] []
noncomputable def CK:an:=am 36 Tryz.f36 (.pair (.val .bool) .unit) .unit [] []
noncomputable def KR:an:=am 37 Tryz.f37 (.pair (.row 39 ak false) (.pair (.val .bool) .unit)) .unit [] []
noncomputable def iL:an:=am 38 Tryz.f38 (.pair (.row 39 ak false) .unit) (.pair (.val aK) .unit) [true,false] [(5,[0,1,5,6])]
noncomputable def eD:an:={g:=39,fn:=Tryz.f39,sh:=(.pair (.row 39 ak false) .unit),bx := .unit,own:=[],live:=[],prim:=some (ce 39 ak 32)}
noncomputable def tn:an:=am 40 Tryz.f40 (.pair (.val .bool) .unit) (.pair (.val bD) .unit) [] []
noncomputable def CL:an:=am 41 Tryz.f41 (.pair (.val .bool) .unit) .unit [] []
noncomputable def HR:an:=am 42 Tryz.f42 (.pair (.val .bool) .unit) .unit [] []
noncomputable def KS:an:=am 43 Tryz.f43 (.pair (.val .bool) .unit) .unit [] []
noncomputable def ye:an:=am 44 Tryz.f44 (.pair (.row 39 ak false) (.pair (.val .bool) .unit)) .unit [] [(3,[3,6,12,13,14])]
noncomputable def Aq:an:={g:=45,fn:=Tryz.f45,sh:=(.pair (.row 39 ak false) (.pair (.val .bool) .unit)),bx := .unit,own:=[],live:=[(7,[3,6,7,9,59,60,61])],sub:=[(38,⟨20038,20038,fun _ _=>some true⟩),(75,⟨10075,10075,fun _ _=>some true⟩)]}
noncomputable def ET:an:=am 46 Tryz.f46 (.pair (.val .str) (.pair (.val .bool) .unit)) .unit [] []
noncomputable def KT:an:=am 47 Tryz.f47 (.pair (.val .bool) .unit) .unit [] []
noncomputable def EU:an:=am 48 Tryz.f48 (.pair (.val .bool) .unit) .unit [] []
noncomputable def HS:an:=am 49 Tryz.f49 (.pair (.val .bool) .unit) .unit [] []
noncomputable def CM:an:=am 50 Tryz.f50 (.pair (.val .bool) .unit) .unit [] []
noncomputable def Ar:an:=am 51 Tryz.f51 (.pair (.row 39 ak false) (.pair (.val .bool) .unit)) .unit [] [(5,[0,3,6,7])]
noncomputable def uJ:an:=am 52 Tryz.f52 (.pair (.row 39 ak false) (.pair (.val .bool) .unit)) .unit [] [(8,[0,3,6,7,8,9,10]),(13,[0,3,6,7,9,11])]
noncomputable def qI:an:=am 53 Tryz.f53 (.pair (.val (.int .i64)) .unit) (.pair (.strct (.pair (.val .str) (.pair (.val (.int .i64)) (.pair (.val .bool) (.pair (.row 66 af false) .unit))))) .unit) [] [(13,[0,5]),(23,[0,7,8])]
noncomputable def r6:an:=am 54 Tryz.f54 (.pair (.val (.int .i64)) .unit) (.pair (.strct (.pair (.val .str) (.pair (.val (.int .i64)) (.pair (.val .bool) (.pair (.row 66 af false) .unit))))) .unit) [] [(3,[0,1,5,6])]
noncomputable def CN:an:=am 55 Tryz.f55 (.pair (.val (.int .i64)) .unit) (.pair (.strct (.pair (.val .str) (.pair (.val (.int .i64)) (.pair (.val .bool) (.pair (.row 66 af false) .unit))))) .unit) [] []
noncomputable def CO:an:=am 56 Tryz.f56 (.pair (.val .bool) .unit) .unit [] []
noncomputable def OI:an:=am 57 Tryz.f57 (.pair (.val .bool) .unit) .unit [] []
noncomputable def Au:an:=am 58 Tryz.f58 (.pair (.val (.int .i64)) .unit) .unit [] [(3,[0,1,5,6])]
noncomputable def Av:an:=am 59 Tryz.f59 (.pair (.val (.int .i64)) .unit) .unit [] [(3,[0,1,5,6])]
noncomputable def KU:an:=am 60 Tryz.f60 (.pair (.val (.int .i64)) .unit) .unit [] []
noncomputable def HT:an:=am 61 Tryz.f61 (.pair (.strct (.pair (.val (.int .i64)) (.pair (.val (.int .i64)) (.pair (.val aq) (.pair (.val br) (.pair (.val br) (.pair (.row 2 (.int .i64) false) .unit))))))) .unit) .unit [] []
noncomputable def qJ:an:=am 62 Tryz.f62 (.pair (.strct (.pair (.val (.slice 39 ak)) (.pair (.row 35 (.slice 66 af) false) (.pair (.row 122 (.slice 3 (.int .i64)) false) .unit)))) .unit) .unit [] [(3,[0,2,3,14,15,16]),(8,[0,2,3,6,8,9,14,15,16,29,30,31])]
noncomputable def jr:an:=am 63 Tryz.f63 (.pair (.row 48 ao false) .unit) .unit [] [(3,[2,3,7,8,20,21,22]),(10,[8,11,40,41])]
noncomputable def EV:an:=am 64 Tryz.f64 (.pair (.val .bool) .unit) .unit [] []
noncomputable def tq:an:=am 65 Tryz.f65 (.pair (.val (.int .i64)) .unit) (.pair (.val aX) .unit) [] []
noncomputable def Dz:an:=am 66 Tryz.f66 (.pair (.row 39 ak false) .unit) .unit [] [(4,[0,2,4,7,8,9])]
noncomputable def zr:an:=am 67 Tryz.f67 (.pair (.val .str) .unit) (.pair (.val aX) .unit) [] []
noncomputable def DA:an:=am 68 Tryz.f68 (.pair (.val .str) .unit) .unit [] [(4,[0,3])]
noncomputable def HU:an:=am 69 Tryz.f69 (.pair (.val .bool) .unit) .unit [] []
noncomputable def tr:an:=am 70 Tryz.f70 (.pair (.val (.int .i64)) .unit) .unit [] [(3,[3,6,7,8])]
noncomputable def pF:an:=am 71 Tryz.f71 (.pair (.val (.int .i64)) .unit) .unit [] []
noncomputable def EW:an:=am 72 Tryz.f72 (.pair (.val .str) (.pair (.val .bool) .unit)) .unit [] []
noncomputable def EX:an:=am 73 Tryz.f73 (.pair (.row 39 ak false) .unit) .unit [] []
noncomputable def fQ:an:=am 74 Tryz.f74 (.pair (.val (.int .i64)) .unit) (.pair (.val aK) .unit) [] [(2,[0,1,7,8])]
noncomputable def tt:an:=am 75 Tryz.f75 (.pair (.val .str) (.pair (.val .bool) .unit)) (.pair (.val bD) .unit) [] []
noncomputable def yf:an:=am 76 Tryz.f76 (.pair (.row 66 af false) .unit) (.pair (.val bD) .unit) [] []
noncomputable def HV:an:=am 77 Tryz.f77 (.pair (.row 66 af false) .unit) .unit [] []
noncomputable def HW:an:={g:=78,fn:=Tryz.f78,sh:=(.pair (.row 66 af false) .unit),bx := .unit,own:=[],live:=[],sub:=[(125,⟨10125,10125,fun _ _=>some true⟩)]}
noncomputable def vI:an:=am 79 Tryz.f79 (.pair (.val .bool) .unit) (.pair (.val bC) .unit) [] []
noncomputable def CP:an:=am 80 Tryz.f80 (.pair (.row 66 af false) .unit) (.pair (.val (.int .i64)) (.pair (.val (.int .i64)) .unit)) [] []
noncomputable def EY:an:=am 81 Tryz.f81 (.pair (.row 66 af false) .unit) .unit [] []
noncomputable def HX:an:={g:=82,fn:=Tryz.f82,sh:=(.pair (.row 39 ak false) .unit),bx := .unit,own:=[true],live:=[],sub:=[(123,⟨10123,10123,fun _ _=>some true⟩)]}
noncomputable def wI:an:=am 83 Tryz.f83 (.pair (.val .str) .unit) .unit [] []
noncomputable def vJ:an:=am 84 Tryz.f84 (.pair (.val aq) (.pair (.val .bool) .unit)) .unit [] [(6,[0,2,4])]
noncomputable def Aw:an:=am 85 Tryz.f85 (.pair (.val .str) .unit) .unit [] []
noncomputable def o8:an:=am 86 Tryz.f86 (.pair (.val aq) (.pair (.val .bool) .unit)) .unit [] [(23,[0,2,4,5]),(27,[2,4])]
noncomputable def Ax:an:=am 87 Tryz.f87 (.pair (.row 66 af false) (.pair (.val .bool) .unit)) .unit [] []
noncomputable def CQ:an:=am 88 Tryz.f88 (.pair (.val .str) .unit) .unit [] []
noncomputable def yg:an:=am 89 Tryz.f89 (.pair (.row 66 af false) (.pair (.val .bool) .unit)) .unit [] [(5,[0,1,2,8,9])]
noncomputable def EZ:an:=am 90 Tryz.f90 (.pair (.val .bool) .unit) (.pair (.strct (.pair (.val .str) (.pair (.val (.int .i64)) (.pair (.val .bool) (.pair (.row 66 af false) .unit))))) .unit) [] []
noncomputable def tu:an:=am 91 Tryz.f91 (.pair (.val (.int .i64)) .unit) (.pair (.strct (.pair (.val .str) (.pair (.val (.int .i64)) (.pair (.val .bool) (.pair (.row 66 af false) .unit))))) .unit) [] [(2,[0,3])]
noncomputable def HY:an:=am 92 Tryz.f92 (.pair (.val .str) .unit) .unit [] []
noncomputable def E0:an:=am 93 Tryz.f93 (.pair (.val aq) .unit) .unit [] []
noncomputable def tv:an:=am 94 Tryz.f94 (.pair (.val .str) .unit) (.pair (.strct (.pair (.val .str) (.pair (.val (.int .i64)) (.pair (.val .bool) (.pair (.row 66 af false) .unit))))) .unit) [] [(2,[0,3])]
noncomputable def OJ:an:=am 95 Tryz.f95 (.pair (.val .str) .unit) .unit [] []
noncomputable def o9:an:=am 96 Tryz.f96 (.pair (.val (.int .i64)) .unit) (.pair (.strct (.pair (.val .str) (.pair (.val (.int .i64)) (.pair (.val .bool) (.pair (.row 66 af false) .unit))))) .unit) [] [(2,[0,1,5])]
noncomputable def tw:an:=am 97 Tryz.f97 (.pair (.val br) (.pair (.val .bool) .unit)) .unit [] [(6,[0,2,4,5])]
noncomputable def E1:an:=am 98 Tryz.f98 (.pair (.val (.int .i64)) .unit) .unit [] []
noncomputable def HZ:an:=am 99 Tryz.f99 (.pair (.val .str) .unit) .unit [] []
noncomputable def E2:an:=am 100 Tryz.f100 (.pair (.val .bool) .unit) .unit [] []
noncomputable def H0:an:=am 101 Tryz.f101 (.pair (.val .bool) .unit) .unit [] []
noncomputable def Ay:an:=am 102 Tryz.f102 (.pair (.row 66 af false) (.pair (.val .bool) .unit)) .unit [] []
noncomputable def yh:an:=am 103 Tryz.f103 (.pair (.row 29 bC false) .unit) .unit [] [(3,[3,7,8,9])]
noncomputable def OK:an:=am 104 Tryz.f104 (.pair (.val .bool) .unit) .unit [] []
noncomputable def g8:an:={g:=105,fn:=Tryz.f105,sh:=(.pair (.row 4 .bool false) .unit),bx := .unit,own:=[],live:=[],prim:=some (ce 4 .bool 1)}
noncomputable def fH:an:=am 106 Tryz.f106 .unit (.pair (.row 4 .bool false) (.pair (.val bQ) (.pair (.row 48 ao false) .unit))) [] [(3,[0,2,3,4,19,20,21])]
noncomputable def tx:an:=am 107 Tryz.f107 (.pair (.val aq) (.pair (.val .bool) .unit)) .unit [] [(9,[0,2,4,7])]
noncomputable def pc:an:=am 108 Tryz.f108 (.pair (.val .bool) .unit) .unit [] [(4,[1,2,5,6,7])]
noncomputable def KV:an:=am 109 Tryz.f109 (.pair (.val aq) .unit) .unit [] []
noncomputable def OL:an:=am 110 Tryz.f110 (.pair (.val aq) .unit) .unit [] []
noncomputable def Az:an:=am 111 Tryz.f111 (.pair (.val .bool) .unit) .unit [] [(2,[0,1,7,8])]
noncomputable def AA:an:=am 112 Tryz.f112 (.pair (.val .str) .unit) .unit [] []
noncomputable def AB:an:=am 113 Tryz.f113 (.pair (.val bC) .unit) (.pair (.val aX) .unit) [] []
noncomputable def rP:an:=am 114 Tryz.f114 (.pair (.val .bool) .unit) .unit [] []
noncomputable def pG:an:=am 115 Tryz.f115 (.pair (.val .str) (.pair (.val .bool) .unit)) .unit [] []
noncomputable def wJ:an:=am 116 Tryz.f116 (.pair (.row 66 af false) (.pair (.val .bool) .unit)) .unit [] []
noncomputable def CR:an:=am 117 Tryz.f117 (.pair (.val .str) (.pair (.val .bool) .unit)) .unit [] []
noncomputable def js:an:={g:=118,fn:=Tryz.f118,sh:=(.pair (.val (.int .i64)) (.pair (.val .err) .unit)),bx := .unit,own:=[],live:=[],prim:=some (o0)}
noncomputable def CS:an:=am 119 Tryz.f119 (.pair (.val .bool) .unit) .unit [] []
noncomputable def H1:an:=am 120 Tryz.f120 (.pair (.val aq) .unit) .unit [] []
noncomputable def E3:an:=am 121 Tryz.f121 (.pair (.val .str) .unit) .unit [] []
noncomputable def tz:an:=am 122 Tryz.f122 (.pair (.val .bool) .unit) (.pair (.val aK) .unit) [] []
noncomputable def jI:an:={g:=123,fn:=Tryz.f123,sh := .unit,bx:=(.pair (.row 39 ak false) .unit),own:=[true,false],live:=[],rb:=true,prim:=some (f0 39 ak 124 fun a b=>decide (a.1.2.1 < b.1.2.1) || (decide (a.1.2.1=b.1.2.1) && decide (a.1.1 < b.1.1)))}
noncomputable def pd:an:=am 125 Tryz.f125 (.pair (.row 66 af false) .unit) (.pair (.val (.int .i64)) (.pair (.val (.int .i64)) .unit)) [] [(3,[1,5,9,10,11])]
noncomputable def CT:an:=am 126 Tryz.f126 (.pair (.val af) .unit) (.pair (.val (.int .i64)) (.pair (.val (.int .i64)) .unit)) [] []
noncomputable def vK:an:=am 127 Tryz.f127 .unit (.pair (.val af) (.pair (.val (.int .i64)) (.pair (.val (.int .i64)) .unit))) [] []
noncomputable def CU:an:=am 128 Tryz.f128 (.pair (.val af) .unit) (.pair (.val (.int .i64)) (.pair (.val (.int .i64)) .unit)) [] []
noncomputable def AC:an:=am 129 Tryz.f129 (.pair (.val af) .unit) (.pair (.val (.int .i64)) (.pair (.val (.int .i64)) .unit)) [] []
noncomputable def tA:an:=am 130 Tryz.f130 (.pair (.val br) .unit) .unit [] []
noncomputable def AD:an:=am 132 Tryz.f132 (.pair (.val .str) .unit) .unit [] [(21,[0,7,10,11])]
noncomputable def DB:an:=am 133 Tryz.f133 (.pair (.val (.int .i64)) (.pair (.val .bool) .unit)) .unit [] [(5,[0,6,7])]
noncomputable def H2:an:=am 134 Tryz.f134 (.pair (.val .str) .unit) .unit [] []
noncomputable def E4:an:=am 135 Tryz.f135 (.pair (.val br) .unit) .unit [] []
noncomputable def CV:an:=am 136 Tryz.f136 (.pair (.val (.int .i64)) .unit) (.pair (.strct (.pair (.val .str) (.pair (.val (.int .i64)) (.pair (.val .bool) (.pair (.row 66 af false) .unit))))) .unit) [] []
noncomputable def yi:an:=am 137 Tryz.f137 (.pair (.val (.int .i64)) .unit) .unit [] [(2,[0,3])]
noncomputable def zt:an:=am 138 Tryz.f138 (.pair (.val bC) .unit) .unit [] []
noncomputable def kO:an:=am 139 Tryz.f139 (.pair (.val .bool) .unit) (.pair (.val aK) .unit) [] []
noncomputable def AE:an:=am 140 Tryz.f140 (.pair (.val .bool) .unit) (.pair (.val aK) .unit) [] []
noncomputable def KW:an:=am 141 Tryz.f141 (.pair (.val aq) .unit) .unit [] []
noncomputable def pH:an:=am 142 Tryz.f142 (.pair (.val .bool) .unit) .unit [] []
noncomputable def AF:an:=am 143 Tryz.f143 (.pair (.val .str) .unit) .unit [] []
noncomputable def AG:an:=am 144 Tryz.f144 (.pair (.val .str) .unit) .unit [] []
noncomputable def iM:an:={g:=145,fn:=Tryz.f145,sh:=(.pair (.row 3 (.int .i64) false) .unit),bx := .unit,own:=[],live:=[],prim:=some (ce 3 (.int .i64) 8)}
noncomputable def OM:an:=am 146 Tryz.f146 (.pair (.val aq) .unit) .unit [] []
noncomputable def yj:an:=am 147 Tryz.f147 (.pair (.val .str) .unit) .unit [] [(4,[0,3])]
noncomputable def CW:an:=am 148 Tryz.f148 (.pair (.val (.int .i64)) .unit) (.pair (.val aX) .unit) [] []
noncomputable def mR:an:=am 149 Tryz.f149 (.pair (.val .str) (.pair (.val .bool) .unit)) .unit [] []
noncomputable def kA:an:=am 150 Tryz.f150 (.pair (.val (.int .i64)) .unit) (.pair (.strct (.pair (.val .str) (.pair (.row 66 af false) (.pair (.val .bool) .unit)))) .unit) [] [(2,[0,1,2,7]),(5,[0,1,2,7,8,9])]
noncomputable def tB:an:=am 151 Tryz.f151 .unit (.pair (.strct (.pair (.val .str) (.pair (.row 66 af false) (.pair (.val .bool) .unit)))) .unit) [] []
noncomputable def AH:an:=am 152 Tryz.f152 (.pair (.val .bool) .unit) .unit [] []
noncomputable def wK:an:=am 153 Tryz.f153 (.pair (.val .str) .unit) .unit [] []
noncomputable def pe:an:=am 156 Tryz.f156 (.pair (.val .str) .unit) .unit [] []
noncomputable def mn:an:={g:=157,fn:=Tryz.f157,sh:=(.pair (.val .str) .unit),bx := .unit,own:=[],live:=[],prim:=some (xX)}
noncomputable def jd:an:={g:=158,fn:=Tryz.f158,sh:=(.pair (.val .str) .unit),bx := .unit,own:=[],live:=[],prim:=some (BT)}
noncomputable def rQ:an:=am 161 Tryz.f161 (.pair (.val .bool) .unit) .unit [] []
noncomputable def gb:an:={g:=162,fn:=Tryz.f162,sh:=(.pair (.row 2 (.int .i64) false) .unit),bx := .unit,own:=[],live:=[],prim:=some (ce 2 (.int .i64) 8)}
noncomputable def yk:an:=am 163 Tryz.f163 (.pair (.val .str) .unit) .unit [] [(3,[0,3,4])]
noncomputable def fR:an:=am 164 Tryz.f164 (.pair (.val (.int .i64)) .unit) (.pair (.val aK) .unit) [] [(2,[0,1,7,8])]
noncomputable def mS:an:=am 165 Tryz.f165 (.pair (.val .bool) .unit) .unit [] []
noncomputable def E5:an:=am 166 Tryz.f166 (.pair (.val aq) .unit) .unit [] []
noncomputable def H3:an:=am 167 Tryz.f167 (.pair (.val aq) .unit) .unit [] []
noncomputable def Ss:an:=am 168 Tryz.f168 (.pair (.val aq) .unit) .unit [] []
noncomputable def OO:an:=am 169 Tryz.f169 (.pair (.val aq) .unit) .unit [] []
noncomputable def KX:an:=am 170 Tryz.f170 (.pair (.val aq) .unit) .unit [] []
noncomputable def OP:an:=am 171 Tryz.f171 (.pair (.val aq) .unit) .unit [] []
noncomputable def H4:an:=am 172 Tryz.f172 (.pair (.val aq) .unit) .unit [] []
noncomputable def OQ:an:=am 173 Tryz.f173 (.pair (.val aq) .unit) .unit [] []
noncomputable def AI:an:=am 174 Tryz.f174 (.pair (.val (.int .i64)) .unit) (.pair (.val aX) .unit) [] []
noncomputable def uK:an:=am 175 Tryz.f175 (.pair (.val (.int .i64)) .unit) (.pair (.strct (.pair (.val .str) (.pair (.row 66 af false) (.pair (.val .bool) .unit)))) .unit) [] []
noncomputable def p8:an:=am 176 Tryz.f176 (.pair (.val .str) .unit) (.pair (.strct (.pair (.val .str) (.pair (.row 66 af false) (.pair (.val .bool) .unit)))) .unit) [] [(3,[0,7,8,9])]
noncomputable def H5:an:=am 177 Tryz.f177 (.pair (.val .str) .unit) .unit [] []
noncomputable def KY:an:=am 178 Tryz.f178 (.pair (.val (.int .i64)) .unit) .unit [] []
noncomputable def wL:an:=am 179 Tryz.f179 (.pair (.val .bool) .unit) (.pair (.strct (.pair (.val .str) (.pair (.row 66 af false) (.pair (.val .bool) .unit)))) .unit) [] []
noncomputable def zu:an:=am 180 Tryz.f180 (.pair (.val (.int .i64)) .unit) (.pair (.strct (.pair (.val .str) (.pair (.row 66 af false) (.pair (.val .bool) .unit)))) .unit) [] []
noncomputable def jt:an:={g:=181,fn:=Tryz.f181,sh:=(.pair (.val .str) .unit),bx := .unit,own:=[],live:=[],prim:=some (oZ)}
noncomputable def GG:an:=am 182 Tryz.f182 (.pair (.val (.int .i64)) .unit) .unit [] [(5,[0,1,2,7,8])]
noncomputable def p9:an:=am 183 Tryz.f183 (.pair (.val .str) .unit) .unit [] [(21,[0,7,10,92,93,94])]
noncomputable def lO:an:=am 189 Tryz.f189 (.pair (.val .str) .unit) .unit [] []
noncomputable def H6:an:=am 208 Tryz.f208 (.pair (.val aq) .unit) .unit [] []
noncomputable def H7:an:=am 209 Tryz.f209 (.pair (.val aq) .unit) .unit [] []
noncomputable def vL:an:=am 210 Tryz.f210 (.pair (.val aq) .unit) .unit [] [(3,[0,4,5,6,11,12,13])]
noncomputable def qK:an:=am 211 Tryz.f211 (.pair (.row 46 aq false) .unit) .unit [] [(3,[0,2,7,14,15,16]),(8,[0,2,7,9,14,15,16,33,34,35])]
noncomputable def AJ:an:=am 212 Tryz.f212 (.pair (.val aq) .unit) .unit [] [(3,[2,3,7,8,9])]
noncomputable def vM:an:=am 213 Tryz.f213 (.pair (.val aq) .unit) .unit [] [(3,[0,4,5,6,7,10,11,12])]
noncomputable def ng:an:=am 214 Tryz.f214 (.pair (.val aq) .unit) .unit [] []
noncomputable def KZ:an:=am 215 Tryz.f215 (.pair (.val aq) .unit) .unit [] []
noncomputable def E6:an:=am 216 Tryz.f216 (.pair (.val aq) .unit) .unit [] []
noncomputable def H8:an:=am 217 Tryz.f217 (.pair (.val aq) .unit) .unit [] []
noncomputable def E7:an:=am 218 Tryz.f218 (.pair (.val aq) .unit) .unit [] []
noncomputable def H9:an:=am 219 Tryz.f219 (.pair (.val aq) .unit) .unit [] []
noncomputable def Ia:an:=am 220 Tryz.f220 (.pair (.val .str) (.pair (.val .bool) .unit)) .unit [] []
noncomputable def OS:an:=am 221 Tryz.f221 (.pair (.val aq) .unit) .unit [] []
noncomputable def K0:an:=am 222 Tryz.f222 (.pair (.val (.int .i64)) .unit) .unit [] []
noncomputable def tC:an:=am 223 Tryz.f223 (.pair (.val (.int .u64)) .unit) (.pair (.val aX) .unit) [] [(3,[0,3,4])]
noncomputable def mo:an:=am 224 Tryz.f224 (.pair (.val (.int .i64)) .unit) (.pair (.strct (.pair (.val .str) (.pair (.row 66 af false) (.pair (.val .bool) .unit)))) .unit) [] [(6,[0,1,5]),(24,[0,1,9,14])]
noncomputable def wM:an:=am 225 Tryz.f225 (.pair (.val .bool) .unit) .unit [] []
noncomputable def io:an:={g:=226,fn:=Tryz.f226,sh:=(.pair (.val .str) .unit),bx := .unit,own:=[],live:=[],prim:=some (qH)}
noncomputable def AK:an:=am 227 Tryz.f227 (.pair (.val .str) .unit) .unit [] []
noncomputable def Ib:an:=am 228 Tryz.f228 (.pair (.val .str) .unit) .unit [] []
noncomputable def mq:an:={g:=229,fn:=Tryz.f229,sh:=(.pair (.val .str) .unit),bx := .unit,own:=[],live:=[],prim:=some (xY U1)}
noncomputable def E8:an:=am 248 Tryz.f248 (.pair (.val .bool) (.pair (.val .bool) .unit)) .unit [] []
noncomputable def CX:an:=am 249 Tryz.f249 (.pair (.val (.int .i64)) (.pair (.val .bool) .unit)) .unit [] []
noncomputable def AL:an:=am 250 Tryz.f250 (.pair (.val .str) .unit) .unit [] []
noncomputable def pf:an:=am 251 Tryz.f251 (.pair (.val (.int .i64)) .unit) .unit [] []
noncomputable def nZ:an:=am 252 Tryz.f252 (.pair (.val (.int .i64)) .unit) (.pair (.strct (.pair (.val .str) (.pair (.row 66 af false) (.pair (.val .bool) .unit)))) .unit) [] [(2,[0,3,4])]
noncomputable def q7:an:=am 253 Tryz.f253 (.pair (.val (.int .i64)) .unit) (.pair (.strct (.pair (.val .str) (.pair (.row 66 af false) (.pair (.val .bool) .unit)))) .unit) [] []
noncomputable def wN:an:=am 254 Tryz.f254 (.pair (.val .str) .unit) (.pair (.strct (.pair (.val .str) (.pair (.row 66 af false) (.pair (.val .bool) .unit)))) .unit) [] []
noncomputable def AM:an:=am 255 Tryz.f255 (.pair (.val br) (.pair (.val .bool) .unit)) .unit [] []
noncomputable def mr:an:=am 256 Tryz.f256 (.pair (.val (.int .i64)) .unit) (.pair (.strct (.pair (.val .str) (.pair (.row 66 af false) (.pair (.val .bool) .unit)))) .unit) [] [(3,[0,1,2,7])]
noncomputable def uL:an:=am 257 Tryz.f257 (.pair (.val .bool) .unit) .unit [] []
noncomputable def E9:an:=am 259 Tryz.f259 (.pair (.val .str) .unit) .unit [] []
noncomputable def q8:an:=am 272 Tryz.f272 (.pair (.val .bool) .unit) .unit [] []
noncomputable def nI:an:={g:=273,fn:=Tryz.f273,sh:=(.pair (.val .str) (.pair (.val .str) (.pair (.val .bool) .unit))),bx := .unit,own:=[],live:=[],prim:=some (BU)}
noncomputable def yl:an:=am 274 Tryz.f274 (.pair (.val (.int .i64)) .unit) .unit [] [(2,[0,3])]
noncomputable def q9:an:=am 275 Tryz.f275 (.pair (.strct (.pair (.val (.int .i64)) (.pair (.val (.int .i64)) (.pair (.val aq) (.pair (.val br) (.pair (.val br) (.pair (.row 2 (.int .i64) false) .unit))))))) (.pair (.val .bool) .unit)) (.pair (.strct (.pair (.val .str) (.pair (.row 66 af false) (.pair (.val .bool) .unit)))) .unit) [] []
noncomputable def gy:an:={g:=38,fn:=Tryz.f38,sh:=(.pair (.row 39 ak false) .unit),bx:=(.pair (.val bD) .unit),own:=[true,false],live:=[(5,[0,1,5,6])],sub:=[(74,⟨10074,10074,fun _ _=>some true⟩)]}
noncomputable def eO:an:=am 74 Tryz.f74 (.pair (.val (.int .i64)) .unit) (.pair (.val bD) .unit) [] [(2,[0,1,7,8])]
noncomputable def uM:an:=am 75 Tryz.f75 (.pair (.val .str) (.pair (.val .bool) .unit)) (.pair (.val (.int .i64)) (.pair (.val (.int .i64)) .unit)) [] []
noncomputable def ip:an:={g:=123,fn:=Tryz.f123,sh := .unit,bx:=(.pair (.row 39 ak false) .unit),own:=[true,false],live:=[],rb:=true,prim:=some (f0 39 ak 131 fun a b=>decide (a.1.2.1 < b.1.2.1) || (decide (a.1.2.1=b.1.2.1) && decide (a.1.1 < b.1.1)))}
noncomputable def rE:an:=am 125 Tryz.f125 (.pair (.row 66 af false) .unit) (.pair (.val (.int .i64)) (.pair (.val (.int .i64)) .unit)) [] [(3,[1,5,9,10,11])]
noncomputable def gz:an:={g:=38,fn:=Tryz.f38,sh:=(.pair (.row 39 ak false) .unit),bx:=(.pair (.val bC) .unit),own:=[true,false],live:=[(5,[0,1,5,6])],sub:=[(74,⟨20074,20074,fun _ _=>some true⟩)]}
noncomputable def eP:an:=am 74 Tryz.f74 (.pair (.val (.int .i64)) .unit) (.pair (.val bC) .unit) [] [(2,[0,1,7,8])]
noncomputable def E:cL:={ty:=[(2,(.int .i64)),(3,(.int .i64)),(4,.bool),(5,(.int .u8)),(9,.str),(22,(.slice 5 (.int .u8))),(24,(.slice 39 ak)),(27,aK),(29,bC),(31,bD),(35,(.slice 66 af)),(39,ak),(41,(.slice 29 bC)),(43,(.slice 48 ao)),(46,aq),(48,ao),(57,bc),(63,br),(64,(.slice 2 (.int .i64))),(66,af),(69,aX),(79,.fn),(80,.fn),(93,(.slice 35 (.slice 66 af))),(94,(.slice 122 (.slice 3 (.int .i64)))),(96,bQ),(99,(.slice 4 .bool)),(100,(.slice 46 aq)),(106,(.slice 9 .str)),(112,.fn),(122,(.slice 3 (.int .i64))),(125,.fn),(133,.err),(137,.fn),(139,.pt),(140,(.slice 139 .pt)),(141,.fn),(142,.fn),(157,bh),(178,(.int .u64)),(207,.fn)],by_:=[(2,8),(3,8),(4,1),(9,16),(29,32),(35,24),(39,32),(46,32),(48,48),(66,120),(122,24)],fns:=[(3,jY),(4,Sr),(5,uI),(6,EQ),(7,ER),(8,tk),(9,wF),(10,HN),(11,xZ),(12,CI),(13,HO),(14,HP),(15,rC),(16,ya),(17,ES),(18,yb),(19,tm),(20,yc),(21,vG),(22,p7),(23,o7),(24,HQ),(25,An),(26,wG),(27,vH),(28,Ao),(29,rD),(30,KP),(31,CJ),(32,zq),(33,Ap),(34,KQ),(35,wH),(36,CK),(37,KR),(38,iL),(39,eD),(40,tn),(41,CL),(42,HR),(43,KS),(44,ye),(45,Aq),(46,ET),(47,KT),(48,EU),(49,HS),(50,CM),(51,Ar),(52,uJ),(53,qI),(54,r6),(55,CN),(56,CO),(57,OI),(58,Au),(59,Av),(60,KU),(61,HT),(62,qJ),(63,jr),(64,EV),(65,tq),(66,Dz),(67,zr),(68,DA),(69,HU),(70,tr),(71,pF),(72,EW),(73,EX),(74,fQ),(75,tt),(76,yf),(77,HV),(78,HW),(79,vI),(80,CP),(81,EY),(82,HX),(83,wI),(84,vJ),(85,Aw),(86,o8),(87,Ax),(88,CQ),(89,yg),(90,EZ),(91,tu),(92,HY),(93,E0),(94,tv),(95,OJ),(96,o9),(97,tw),(98,E1),(99,HZ),(100,E2),(101,H0),(102,Ay),(103,yh),(104,OK),(105,g8),(106,fH),(107,tx),(108,pc),(109,KV),(110,OL),(111,Az),(112,AA),(113,AB),(114,rP),(115,pG),(116,wJ),(117,CR),(118,js),(119,CS),(120,H1),(121,E3),(122,tz),(123,jI),(125,pd),(126,CT),(127,vK),(128,CU),(129,AC),(130,tA),(132,AD),(133,DB),(134,H2),(135,E4),(136,CV),(137,yi),(138,zt),(139,kO),(140,AE),(141,KW),(142,pH),(143,AF),(144,AG),(145,iM),(146,OM),(147,yj),(148,CW),(149,mR),(150,kA),(151,tB),(152,AH),(153,wK),(156,pe),(157,mn),(158,jd),(161,rQ),(162,gb),(163,yk),(164,fR),(165,mS),(166,E5),(167,H3),(168,Ss),(169,OO),(170,KX),(171,OP),(172,H4),(173,OQ),(174,AI),(175,uK),(176,p8),(177,H5),(178,KY),(179,wL),(180,zu),(181,jt),(182,GG),(183,p9),(189,lO),(208,H6),(209,H7),(210,vL),(211,qK),(212,AJ),(213,vM),(214,ng),(215,KZ),(216,E6),(217,H8),(218,E7),(219,H9),(220,Ia),(221,OS),(222,K0),(223,tC),(224,mo),(225,wM),(226,io),(227,AK),(228,Ib),(229,mq),(248,E8),(249,CX),(250,AL),(251,pf),(252,nZ),(253,q7),(254,wN),(255,AM),(256,mr),(257,uL),(259,E9),(272,q8),(273,nI),(274,yl),(275,q9),(10038,gy),(10074,eO),(10075,uM),(10123,ip),(10125,rE),(20038,gz),(20074,eP)],eqs:=[(27,aK),(39,ak),(46,aq),(63,br)],tails:=[(24,38)],cuts:=[]}
noncomputable def U2 (x0:(List Int)):Option ((Bool×Unit)×Unit):=ai E Sr [.val (.slice 5 (.int .u8)) x0] []
noncomputable def GH (x0:(List Int)):Option ((aY×Unit)×Unit):=ai E HP [.val (.slice 5 (.int .u8)) x0] []
noncomputable def r7 (x0:(List Int)) (x1:Int):Option ((Int×Unit)×aY×Unit):=ai E tq [.ptr 0 aX []] [(0,.box aX (.strct [.val (.slice 5 (.int .u8)) x0,ah x1]))]
noncomputable def jJ (x0:aY):Option ((Int×Unit)×aY×Unit):=ai E tq [.ptr 0 aX []] [(0,.box aX (.val aX x0))]
noncomputable def vO (x0:Int) (x1:(List Int)) (x2:Int):Option ((Int×Unit)×aY×Unit):=ai E rD [.ptr 0 aX [],ah x0] [(0,.box aX (.strct [.val (.slice 5 (.int .u8)) x1,ah x2]))]
noncomputable def aD (x0:Int) (x1:aY):Option ((Int×Unit)×aY×Unit):=ai E rD [.ptr 0 aX [],ah x0] [(0,.box aX (.val aX x1))]
noncomputable def fe (x0:aY):Option ((aw×Unit)×aY×Unit):=ai E CJ [.ptr 0 aX []] [(0,.box aX (.val aX x0))]
noncomputable def cG (x0:Int) (x1:aY):Option ((Bool×Unit)×aY×Unit):=ai E Ap [.ptr 0 aX [],ah x0] [(0,.box aX (.val aX x1))]
noncomputable def iq (x0 x1 x2:Int):Option ((Bool×Unit)×Unit):=ai E OI [ah x0,ah x1,ah x2] []
noncomputable def c7 (x0:aw):Option ((Bool×Unit)×Unit):=ai E KT [.val aK x0] []
noncomputable def tD (x0:Int):Option ((Z0×Unit)×Unit):=ai E yj [ah x0] []
noncomputable def dR (x0:Int):Option ((Z0×Unit)×Unit):=ai E DA [ah x0] []
noncomputable def c8 (x0:aM):Option ((Z0×Unit)×Unit):=ai E AA [.val br x0] []
noncomputable def bj (x0:Int) (x1:aY):Option ((Z0×Unit)×aY×Unit):=ai E zr [.ptr 0 aX [],ah x0] [(0,.box aX (.val aX x1))]
noncomputable def ym (x0:aY):Option ((Int×Unit)×aY×Unit):=ai E tC [.ptr 0 aX []] [(0,.box aX (.val aX x0))]
noncomputable def yn (x0 x1:Int) (x2:aY):Option ((Int×Unit)×aY×Unit):=ai E AI [.ptr 0 aX [],ah x0,ah x1] [(0,.box aX (.val aX x2))]
noncomputable def AN (x0 x1:Int) (x2:aY):Option ((Int×Unit)×aY×Unit):=ai E CW [.ptr 0 aX [],ah x0,ah x1] [(0,.box aX (.val aX x2))]
noncomputable def pg (x0:aY):Option ((aB×Unit)×aY×Unit):=ai E AB [.ptr 0 aX []] [(0,.box aX (.val aX x0))]
noncomputable def lf (x0:Int):Option ((Z0×Unit)×Unit):=ai E HZ [ah x0] []
noncomputable def nh (x0:aY):Option ((Z0×Unit)×aY×Unit):=ai E zq [.ptr 0 aX []] [(0,.box aX (.val aX x0))]
noncomputable def tE (x0:Z0):Option ((Bool×Unit)×Unit):=ai E yc [aV x0] []
noncomputable def jZ (x0:Z0) (x1:Int) (x2:Bool) (x3:(List ab)):Option (Unit×(Z0×Int×Bool×(List ab)×Unit)×Unit):=ai E p7 [.ptr 0 bc []] [(0,.box bc (.strct [aV x0,ah x1,dw x2,.row 1])),(1,.row 66 af x3 false)]
noncomputable def dX (x0 x1:Z0) (x2:Int) (x3:Bool) (x4:(List ab)):Option ((Bool×Unit)×(Z0×Int×Bool×(List ab)×Unit)×Unit):=ai E EZ [.ptr 0 bc [],aV x0] [(0,.box bc (.strct [aV x1,ah x2,dw x3,.row 1])),(1,.row 66 af x4 false)]
noncomputable def ff (x0:Int) (x1:Z0) (x2:Int) (x3:Bool) (x4:(List ab)):Option ((Int×Unit)×(Z0×Int×Bool×(List ab)×Unit)×Unit):=ai E vG [.ptr 0 bc [],ah x0] [(0,.box bc (.strct [aV x1,ah x2,dw x3,.row 1])),(1,.row 66 af x4 false)]
noncomputable def iO (x0:ae):Option ((Bool×Unit)×Unit):=ai E E2 [.val aq x0] []
noncomputable def wO (x0:aB):Option ((Bool×Unit)×Unit):=ai E HS [.val bC x0] []
noncomputable def GI (x0 x1:Int):Option ((Bool×Unit)×Unit):=ai E H0 [ah x0,ah x1] []
noncomputable def bH (x0:ab):Option ((Bool×Unit)×Unit):=ai E CO [.val af x0] []
noncomputable def cm (x0:ab) (x1:Z0) (x2:Int) (x3:Bool) (x4:(List ab)):Option ((Int×Unit)×(Z0×Int×Bool×(List ab)×Unit)×Unit):=ai E CN [.ptr 0 bc [],.val af x0] [(0,.box bc (.strct [aV x1,ah x2,dw x3,.row 1])),(1,.row 66 af x4 false)]
noncomputable def yo (x0:Z0) (x1:Int) (x2:Bool) (x3:(List ab)):Option ((Int×Unit)×(Z0×Int×Bool×(List ab)×Unit)×Unit):=ai E tu [.ptr 0 bc []] [(0,.box bc (.strct [aV x0,ah x1,dw x2,.row 1])),(1,.row 66 af x3 false)]
noncomputable def wP (x0:Int):Option ((Z0×Unit)×Unit):=ai E HY [ah x0] []
noncomputable def yp (x0:Int):Option ((ae×Unit)×Unit):=ai E E0 [ah x0] []
noncomputable def mt (x0:Z0) (x1:Int) (x2:Bool) (x3:(List ab)):Option ((Z0×Unit)×(Z0×Int×Bool×(List ab)×Unit)×Unit):=ai E tv [.ptr 0 bc []] [(0,.box bc (.strct [aV x0,ah x1,dw x2,.row 1])),(1,.row 66 af x3 false)]
noncomputable def JW (x0:Int):Option ((Z0×Unit)×Unit):=ai E OJ [ah x0] []
noncomputable def qa (x0:Z0):Option ((Int×Unit)×Unit):=ai E yi [aV x0] []
noncomputable def dk (x0:Z0) (x1:Int):Option ((Int×Bool×Unit)×Unit):=ai E DB [aV x0,ah x1] []
noncomputable def mu (x0:Z0):Option ((aM×Bool×Unit)×Unit):=ai E tw [aV x0] []
noncomputable def ra (x0:Z0) (x1:Int) (x2:Bool) (x3:(List ab)):Option ((Int×Unit)×(Z0×Int×Bool×(List ab)×Unit)×Unit):=ai E CV [.ptr 0 bc []] [(0,.box bc (.strct [aV x0,ah x1,dw x2,.row 1])),(1,.row 66 af x3 false)]
noncomputable def yq (x0:Int) (x1:Z0) (x2:Int) (x3:Bool) (x4:(List ab)):Option ((Int×Unit)×(Z0×Int×Bool×(List ab)×Unit)×Unit):=ai E o9 [.ptr 0 bc [],ah x0] [(0,.box bc (.strct [aV x1,ah x2,dw x3,.row 1])),(1,.row 66 af x4 false)]
noncomputable def r8 (x0:Z0):Option ((ae×Bool×Unit)×Unit):=ai E o8 [aV x0] []
noncomputable def uN (x0:Z0) (x1:Int) (x2:Bool) (x3:(List ab)):Option ((Int×Unit)×(Z0×Int×Bool×(List ab)×Unit)×Unit):=ai E qI [.ptr 0 bc []] [(0,.box bc (.strct [aV x0,ah x1,dw x2,.row 1])),(1,.row 66 af x3 false)]
noncomputable def tF (x0:Int):Option ((Int×Unit)×Unit):=ai E E1 [ah x0] []
noncomputable def DC (x0:Int) (x1:Z0) (x2:Int) (x3:Bool) (x4:(List ab)):Option ((Int×Unit)×(Z0×Int×Bool×(List ab)×Unit)×Unit):=ai E r6 [.ptr 0 bc [],ah x0] [(0,.box bc (.strct [aV x1,ah x2,dw x3,.row 1])),(1,.row 66 af x4 false)]
noncomputable def wQ (x0:(List ab)) (x1:Int):Option ((Int×Unit)×Unit):=ai E Au [.val (.slice 66 af) x0,ah x1] []
noncomputable def wR (x0:(List ab)) (x1:Int):Option ((Int×Unit)×Unit):=ai E Av [.val (.slice 66 af) x0,ah x1] []
noncomputable def kB (x0:(List ab)):Option ((Bool×Unit)×Unit):=ai E o7 [.val (.slice 66 af) x0] []
noncomputable def iP (x0:Z0):Option (((List ab)×Bool×Unit)×Unit):=ai E wF [aV x0] []
noncomputable def DD (x0:Z0):Option ((Z0×Unit)×Unit):=ai E yk [aV x0] []
noncomputable def GJ (x0:Int):Option ((Z0×Unit)×Unit):=ai E H2 [ah x0] []
noncomputable def ju (x0:ae):Option ((Z0×Unit)×Unit):=ai E Aw [.val aq x0] []
noncomputable def mv (x0:(List ab)) (x1 x2:Int):Option ((Z0×Unit)×Unit):=ai E AD [.val (.slice 66 af) x0,ah x1,ah x2] []
noncomputable def lP (x0:(List ab)):Option ((Z0×Unit)×Unit):=ai E wI [.val (.slice 66 af) x0] []
noncomputable def AO (x0:Z0):Option ((ae×Bool×Unit)×Unit):=ai E vJ [aV x0] []
noncomputable def qb (x0:Z0):Option ((Z0×Bool×Unit)×Unit):=ai E ET [aV x0] []
noncomputable def yr (x0 x1:aw):Option ((Bool×Unit)×Unit):=ai E EU [.val aK x0,.val aK x1] []
noncomputable def yt (x0:(List ac)):Option ((Bool×Unit)×Unit):=ai E yb [.val (.slice 39 ak) x0] []
noncomputable def wS (x0:(List ac)) (x1:aw) (x2:Z0):Option (((List ac)×Unit)×Unit):=ai E Dz [.val (.slice 39 ak) x0,.val aK x1,aV x2] []
noncomputable def AP (x0:(List ac)) (x1:aw) (x2:Z0):Option (((List ac)×Bool×Unit)×Unit):=ai E KP [.val (.slice 39 ak) x0,.val aK x1,aV x2] []
noncomputable def qL (x0:Int) (x1:(List Int)) (x2:Int):Option (((List ac)×Unit)×aY×Unit):=ai E rC [.ptr 0 aX [],ah x0] [(0,.box aX (.strct [.val (.slice 5 (.int .u8)) x1,ah x2]))]
noncomputable def rF (x0:(List Int)):Option (((List ac)×Unit)×Unit):=ai E uI [.val (.slice 5 (.int .u8)) x0] []
noncomputable def eE (x0 x1 x2:Int):Option ((Bool×Unit)×Unit):=ai E HU [ah x0,ah x1,ah x2] []
noncomputable def gA (x0:aw):Option ((Bool×Unit)×Unit):=ai E KQ [.val aK x0] []
noncomputable def ph (x0:Int):Option ((Bool×Unit)×Unit):=ai E rP [ah x0] []
noncomputable def fI (x0 x1:Int):Option ((Int×Unit)×Unit):=ai E pF [ah x0,ah x1] []
noncomputable def r9 (x0:(List Int)):Option ((Int×Unit)×Unit):=ai E tr [.val (.slice 3 (.int .i64)) x0] []
noncomputable def lQ (x0 x1:aw):Option ((Int×Unit)×Unit):=ai E wH [.val aK x0,.val aK x1] []
noncomputable def wT (x0:Z0) (x1:Int):Option ((Bool×Unit)×Unit):=ai E Az [aV x0,ah x1] []
noncomputable def fg (x0 x1:Z0):Option ((Bool×Unit)×Unit):=ai E mS [aV x0,aV x1] []
noncomputable def oy (x0 x1:Z0):Option ((Z0×Bool×Unit)×Unit):=ai E mR [aV x0,aV x1] []
noncomputable def cD (x0 x1:Z0):Option ((Z0×Bool×Unit)×Unit):=ai E pG [aV x0,aV x1] []
noncomputable def iR (x0 x1:Z0):Option ((Z0×Unit)×Unit):=ai E jt [aV x0,aV x1] []
noncomputable def iE (x0:Z0) (x1:Bool) (x2:(List ab)):Option (Unit×(Z0×(List ab)×Bool×Unit)×Unit):=ai E tB [.ptr 0 bh []] [(0,.box bh (.strct [aV x0,.row 1,dw x1])),(1,.row 66 af x2 false)]
noncomputable def eA (x0 x1:Z0):Option ((Bool×Unit)×Unit):=ai E pH [aV x0,aV x1] []
noncomputable def pi (x0:Z0) (x1:Bool) (x2:(List ab)):Option ((Z0×Unit)×(Z0×(List ab)×Bool×Unit)×Unit):=ai E p8 [.ptr 0 bh []] [(0,.box bh (.strct [aV x0,.row 1,dw x1])),(1,.row 66 af x2 false)]
noncomputable def bn (x0 x1:Z0) (x2:Bool) (x3:(List ab)):Option ((Bool×Unit)×(Z0×(List ab)×Bool×Unit)×Unit):=ai E wL [.ptr 0 bh [],aV x0] [(0,.box bh (.strct [aV x1,.row 1,dw x2])),(1,.row 66 af x3 false)]
noncomputable def eQ (x0:Int) (x1:Z0) (x2:Bool) (x3:(List ab)):Option ((Int×Unit)×(Z0×(List ab)×Bool×Unit)×Unit):=ai E uK [.ptr 0 bh [],ah x0] [(0,.box bh (.strct [aV x1,.row 1,dw x2])),(1,.row 66 af x3 false)]
noncomputable def aI (x0:ab) (x1:Z0) (x2:Bool) (x3:(List ab)):Option ((Int×Unit)×(Z0×(List ab)×Bool×Unit)×Unit):=ai E zu [.ptr 0 bh [],.val af x0] [(0,.box bh (.strct [aV x1,.row 1,dw x2])),(1,.row 66 af x3 false)]
noncomputable def strings_Cut (x0 x1:Z0):Option ((Z0×Z0×Bool×Unit)×Unit):=ai E nI [aV x0,aV x1] []
noncomputable def bS (x0:ae) (x1:Z0) (x2:Bool) (x3:(List ab)):Option ((Int×Unit)×(Z0×(List ab)×Bool×Unit)×Unit):=ai E q7 [.ptr 0 bh [],.val aq x0] [(0,.box bh (.strct [aV x1,.row 1,dw x2])),(1,.row 66 af x3 false)]
noncomputable def j0 (x0:Z0) (x1:Bool) (x2:(List ab)):Option ((Int×Unit)×(Z0×(List ab)×Bool×Unit)×Unit):=ai E nZ [.ptr 0 bh []] [(0,.box bh (.strct [aV x0,.row 1,dw x1])),(1,.row 66 af x2 false)]
noncomputable def pj (x0:Int):Option ((Z0×Unit)×Unit):=ai E AF [ah x0] []
noncomputable def dG (x0:Int):Option ((ae×Unit)×Unit):=ai E KV [ah x0] []
noncomputable def j6 (x0:Z0) (x1:Bool) (x2:(List ab)):Option ((Z0×Unit)×(Z0×(List ab)×Bool×Unit)×Unit):=ai E wN [.ptr 0 bh []] [(0,.box bh (.strct [aV x0,.row 1,dw x1])),(1,.row 66 af x2 false)]
noncomputable def dc (x0:ae):Option ((Bool×Unit)×Unit):=ai E EV [.val aq x0] []
noncomputable def rR (x0 x1:Int):Option ((Z0×Unit)×Unit):=ai E jd [ah x0,ah x1] []
noncomputable def kC (x0:Int):Option ((Z0×Unit)×Unit):=ai E E3 [ah x0] []
noncomputable def fw (x0:ae):Option ((Z0×Unit)×Unit):=ai E AG [.val aq x0] []
noncomputable def lR (x0:Bool):Option ((ae×Unit)×Unit):=ai E KW [dw x0] []
noncomputable def iT (x0:Z0) (x1 x2:Int):Option ((Int×Bool×Unit)×Unit):=ai E js [aV x0,ah x1,ah x2] []
noncomputable def jl (x0:Int):Option ((ae×Unit)×Unit):=ai E H1 [ah x0] []
noncomputable def eR (x0:Z0):Option ((ae×Bool×Unit)×Unit):=ai E tx [aV x0] []
noncomputable def qc (x0:Int):Option ((Z0×Unit)×Unit):=ai E E9 [ah x0] []
noncomputable def DE (x0:Z0):Option ((Int×Unit)×Unit):=ai E yl [aV x0] []
noncomputable def mw (x0:aM):Option ((Z0×Unit)×Unit):=ai E AK [.val br x0] []
noncomputable def ir (x0:Z0):Option ((aM×Bool×Unit)×Unit):=ai E AM [aV x0] []
noncomputable def BW (x0:Int):Option ((Z0×Unit)×Unit):=ai E Ib [ah x0] []
noncomputable def kD (x0:Z0) (x1:Bool) (x2:(List ab)):Option (((Int×Int×ae×aM×aM×(List Int)×Unit)×Bool×Unit)×(Z0×(List ab)×Bool×Unit)×Unit):=ai E q9 [.ptr 0 bh []] [(0,.box bh (.strct [aV x0,.row 1,dw x1])),(1,.row 66 af x2 false)]
noncomputable def bv (x0 x1:Int) (x2:Z0) (x3:Bool) (x4:(List ab)):Option ((Int×Unit)×(Z0×(List ab)×Bool×Unit)×Unit):=ai E kA [.ptr 0 bh [],ah x0,ah x1] [(0,.box bh (.strct [aV x2,.row 1,dw x3])),(1,.row 66 af x4 false)]
noncomputable def gB (x0 x1:Int) (x2:Z0) (x3:Bool) (x4:(List ab)):Option ((Int×Unit)×(Z0×(List ab)×Bool×Unit)×Unit):=ai E mr [.ptr 0 bh [],ah x0,ah x1] [(0,.box bh (.strct [aV x2,.row 1,dw x3])),(1,.row 66 af x4 false)]
noncomputable def fx (x0:Int) (x1:Z0) (x2:Bool) (x3:(List ab)):Option ((Int×Unit)×(Z0×(List ab)×Bool×Unit)×Unit):=ai E mo [.ptr 0 bh [],ah x0] [(0,.box bh (.strct [aV x1,.row 1,dw x2])),(1,.row 66 af x3 false)]
noncomputable def wU (x0:Int):Option ((Z0×Unit)×Unit):=ai E H5 [ah x0] []
noncomputable def AQ (x0:Int):Option ((Int×Unit)×Unit):=ai E KY [ah x0] []
noncomputable def jK (x0:ab):Option ((aB×Unit)×Unit):=ai E zt [.val af x0] []
noncomputable def qd (x0:aB):Option ((Bool×Unit)×Unit):=ai E HR [.val bC x0] []
noncomputable def bG (x0:ab):Option ((Bool×Unit)×Unit):=ai E rQ [.val af x0] []
noncomputable def fK (x0:ab):Option ((Bool×Unit)×Unit):=ai E uL [.val af x0] []
noncomputable def tG (x0:ab):Option ((Bool×Unit)×Unit):=ai E wM [.val af x0] []
noncomputable def yu (x0:(List ab)) (x1 x2:Int):Option ((Int×Unit)×Unit):=ai E GG [.val (.slice 66 af) x0,ah x1,ah x2] []
noncomputable def sc (x0:(List ab)):Option ((Bool×Unit)×Unit):=ai E AH [.val (.slice 66 af) x0] []
noncomputable def j7 (x0:Z0):Option (((List ab)×Bool×Unit)×Unit):=ai E wJ [aV x0] []
noncomputable def strings_ReplaceAll (x0 x1 x2:Z0):Option ((Z0×Unit)×Unit):=ai E io [aV x0,aV x1,aV x2] []
noncomputable def gC (x0:(List ab)) (x1 x2:Int):Option ((Z0×Unit)×Unit):=ai E p9 [.val (.slice 66 af) x0,ah x1,ah x2] []
noncomputable def strings_Join (x0:(List Z0)) (x1:Z0):Option ((Z0×Unit)×Unit):=ai E mq [.val (.slice 9 .str) x0,aV x1] []
noncomputable def pk (x0:(List ab)):Option ((Z0×Unit)×Unit):=ai E wK [.val (.slice 66 af) x0] []
noncomputable def oz (x0:(List ab)):Option ((Z0×Bool×Unit)×Unit):=ai E CR [.val (.slice 66 af) x0] []
noncomputable def ni (x0 x1:Z0):Option ((Z0×Unit)×Unit):=ai E lO [aV x0,aV x1] []
noncomputable def lS (x0 x1:Z0):Option ((Z0×Unit)×Unit):=ai E pe [aV x0,aV x1] []
noncomputable def tH (x0 x1:Z0):Option ((Z0×Unit)×Unit):=ai E mn [aV x0,aV x1] []
noncomputable def AR (x0:Z0):Option ((Bool×Unit)×Unit):=ai E CS [aV x0] []
noncomputable def tI (x0:Z0):Option ((Z0×Bool×Unit)×Unit):=ai E EW [aV x0] []
noncomputable def uO (x0:Z0):Option ((Bool×Unit)×Unit):=ai E CK [aV x0] []
noncomputable def tJ (x0:(List ac)):Option ((Bool×Unit)×Unit):=ai E ya [.val (.slice 39 ak) x0] []
noncomputable def ij (x0:(List ac)):Option (((List ac)×Unit)×Unit):=ai E eD [.val (.slice 39 ak) x0] []
noncomputable def Fa (x0:ac) (x1 x2:Int):Option ((Bool×Unit)×aw×Unit):=ai E tz [.val ak x0,.ptr 0 aK []] [(0,.box aK (.strct [ah x1,ah x2]))]
noncomputable def vP (x0:ac) (x1:aw):Option ((Bool×Unit)×aw×Unit):=ai E tz [.val ak x0,.ptr 0 aK []] [(0,.box aK (.val aK x1))]
noncomputable def eW (x0:(List ac)) (x1 x2:Int):Option ((Int×Unit)×aw×Unit):=ai E fQ [.val (.slice 39 ak) x0,.fn 122 [.ptr 0 aK []]] [(0,.box aK (.strct [ah x1,ah x2]))]
noncomputable def ef (x0:(List ac)) (x1 x2:Int):Option (((List ac)×Unit)×aw×Unit):=ai E iL [.row 0,.fn 122 [.ptr 1 aK []]] [(0,.row 39 ak x0 false),(1,.box aK (.strct [ah x1,ah x2]))]
noncomputable def eH (x0:(List ac)):Option (Unit×(List ac)×Unit):=ai E jI [.row 0,.fn 124 []] [(0,.row 39 ak x0 false)]
noncomputable def DF (x0:(List ac)) (x1:aw) (x2:Z0):Option (((List ac)×Unit)×Unit):=ai E EX [.val (.slice 39 ak) x0,.val aK x1,aV x2] []
noncomputable def K1 (x0:(List ac)) (x1:aw) (x2:Z0):Option (((List ac)×Bool×Unit)×Unit):=ai E KR [.val (.slice 39 ak) x0,.val aK x1,aV x2] []
noncomputable def gD (x0:aB) (x1:aw):Option ((Bool×Unit)×Unit):=ai E CL [.val bC x0,.val aK x1] []
noncomputable def yv (x0:ac) (x1:Int) (x2:aw) (x3:Z0) (x4:aB) (x5 x6:Int):Option ((Bool×Unit)×eN×Unit):=ai E tn [.val ak x0,.ptr 0 bD []] [(0,.box bD (.strct [ah x1,.val aK x2,aV x3,.val bC x4,ah x5,ah x6]))]
noncomputable def qM (x0:ac) (x1:eN):Option ((Bool×Unit)×eN×Unit):=ai E tn [.val ak x0,.ptr 0 bD []] [(0,.box bD (.val bD x1))]
noncomputable def eX (x0:(List ac)) (x1:Int) (x2:aw) (x3:Z0) (x4:aB) (x5 x6:Int):Option ((Int×Unit)×eN×Unit):=ai E eO [.val (.slice 39 ak) x0,.fn 40 [.ptr 0 bD []]] [(0,.box bD (.strct [ah x1,.val aK x2,aV x3,.val bC x4,ah x5,ah x6]))]
noncomputable def ej (x0:(List ac)) (x1:Int) (x2:aw) (x3:Z0) (x4:aB) (x5 x6:Int):Option (((List ac)×Unit)×eN×Unit):=ai E gy [.row 0,.fn 40 [.ptr 1 bD []]] [(0,.row 39 ak x0 false),(1,.box bD (.strct [ah x1,.val aK x2,aV x3,.val bC x4,ah x5,ah x6]))]
noncomputable def rd (x0:Int):Option ((Bool×Unit)×Unit):=ai E KS [ah x0] []
noncomputable def my (x0:Z0):Option (((List ab)×Bool×Unit)×Unit):=ai E Ay [aV x0] []
noncomputable def uP (x0:ab) (x1 x2:Int):Option ((ab×Unit)×Int×Int×Unit):=ai E CT [.val af x0,.ptr 0 (.int .i64) [],.ptr 1 (.int .i64) []] [(0,.box (.int .i64) (ah x1)),(1,.box (.int .i64) (ah x2))]
noncomputable def ax (x0:(List Int)):Option (((List Int)×Unit)×Unit):=ai E gb [.val (.slice 2 (.int .i64)) x0] []
noncomputable def re (x0:(List ab)) (x1 x2:Int):Option (((List ab)×Unit)×Int×Int×Unit):=ai E pd [.val (.slice 66 af) x0,.fn 126 [.ptr 0 (.int .i64) [],.ptr 1 (.int .i64) []]] [(0,.box (.int .i64) (ah x1)),(1,.box (.int .i64) (ah x2))]
noncomputable def BX (x0:(List ab)) (x1 x2:Int):Option (((List ab)×Unit)×Unit):=ai E HV [.val (.slice 66 af) x0,ah x1,ah x2] []
noncomputable def uQ (x0 x1 x2:Int) (x3:ae) (x4 x5:aM) (x6:(List Int)) (x7 x8:Int):Option (Unit×ab×Int×Int×Unit):=ai E vK [.ptr 0 br [3],ah x0,.ptr 1 (.int .i64) [],.ptr 2 (.int .i64) []] [(0,.box af (.strct [ah x1,ah x2,.val aq x3,.val br x4,.val br x5,.val (.slice 2 (.int .i64)) x6])),(1,.box (.int .i64) (ah x7)),(2,.box (.int .i64) (ah x8))]
noncomputable def yw (x0:Int) (x1:ab) (x2 x3:Int):Option (Unit×ab×Int×Int×Unit):=ai E vK [.ptr 0 br [4],ah x0,.ptr 1 (.int .i64) [],.ptr 2 (.int .i64) []] [(0,.box af (.val af x1)),(1,.box (.int .i64) (ah x2)),(2,.box (.int .i64) (ah x3))]
noncomputable def it (x0:ab) (x1 x2:Int):Option ((ab×Unit)×Int×Int×Unit):=ai E CU [.val af x0,.ptr 0 .fn [],.ptr 1 (.int .i64) []] [(0,.keepF 127 [.ptr 1 (.int .i64) [],.ptr 2 (.int .i64) []]),(1,.box (.int .i64) (ah x1)),(2,.box (.int .i64) (ah x2))]
noncomputable def jP (x0:(List ab)) (x1 x2:Int):Option (((List ab)×Unit)×Int×Int×Unit):=ai E rE [.val (.slice 66 af) x0,.fn 128 [.ptr 0 .fn [],.ptr 1 (.int .i64) []]] [(0,.keepF 127 [.ptr 1 (.int .i64) [],.ptr 2 (.int .i64) []]),(1,.box (.int .i64) (ah x1)),(2,.box (.int .i64) (ah x2))]
noncomputable def BZ (x0:(List ab)) (x1 x2:Int):Option (((List ab)×Unit)×Unit):=ai E HW [.val (.slice 66 af) x0,ah x1,ah x2] []
noncomputable def K2 (x0:(List ab)) (x1:Int) (x2:aw) (x3:Z0) (x4:aB) (x5 x6:Int):Option (((List ab)×Unit)×eN×Unit):=ai E yf [.val (.slice 66 af) x0,.ptr 0 bD []] [(0,.box bD (.strct [ah x1,.val aK x2,aV x3,.val bC x4,ah x5,ah x6]))]
noncomputable def eF (x0:Z0) (x1:Int) (x2:aw) (x3:Z0) (x4:aB) (x5 x6:Int):Option ((Z0×Bool×Unit)×eN×Unit):=ai E tt [aV x0,.fn 76 [.ptr 0 bD []]] [(0,.box bD (.strct [ah x1,.val aK x2,aV x3,.val bC x4,ah x5,ah x6]))]
noncomputable def en (x0:Z0) (x1:eN):Option ((Z0×Bool×Unit)×eN×Unit):=ai E tt [aV x0,.fn 76 [.ptr 0 bD []]] [(0,.box bD (.val bD x1))]
noncomputable def AU (x0:(List ac)) (x1:eN):Option (((List ac)×Bool×Unit)×Unit):=ai E ye [.val (.slice 39 ak) x0,.val bD x1] []
noncomputable def AV (x0:ac) (x1 x2:aw):Option ((Bool×Unit)×aB×Unit):=ai E vI [.val ak x0,.ptr 0 bC []] [(0,.box bC (.strct [.val aK x1,.val aK x2]))]
noncomputable def sd (x0:ac) (x1:aB):Option ((Bool×Unit)×aB×Unit):=ai E vI [.val ak x0,.ptr 0 bC []] [(0,.box bC (.val bC x1))]
noncomputable def fp (x0:(List ac)) (x1 x2:aw):Option ((Int×Unit)×aB×Unit):=ai E eP [.val (.slice 39 ak) x0,.fn 79 [.ptr 0 bC []]] [(0,.box bC (.strct [.val aK x1,.val aK x2]))]
noncomputable def dg (x0:(List ac)) (x1 x2:aw):Option (((List ac)×Unit)×aB×Unit):=ai E gz [.row 0,.fn 79 [.ptr 1 bC []]] [(0,.row 39 ak x0 false),(1,.box bC (.strct [.val aK x1,.val aK x2]))]
noncomputable def pI (x0:(List ab)) (x1 x2:Int):Option (((List ab)×Unit)×Int×Int×Unit):=ai E pd [.val (.slice 66 af) x0,.fn 129 [.ptr 0 (.int .i64) [],.ptr 1 (.int .i64) []]] [(0,.box (.int .i64) (ah x1)),(1,.box (.int .i64) (ah x2))]
noncomputable def DG (x0:(List ab)) (x1 x2:Int):Option (((List ab)×Unit)×Unit):=ai E EY [.val (.slice 66 af) x0,ah x1,ah x2] []
noncomputable def Ic (x0:(List ab)) (x1 x2:Int):Option (((List ab)×Unit)×Int×Int×Unit):=ai E CP [.val (.slice 66 af) x0,.ptr 0 (.int .i64) [],.ptr 1 (.int .i64) []] [(0,.box (.int .i64) (ah x1)),(1,.box (.int .i64) (ah x2))]
noncomputable def kE (x0:Z0) (x1 x2:Int):Option ((Z0×Bool×Unit)×Int×Int×Unit):=ai E uM [aV x0,.fn 80 [.ptr 0 (.int .i64) [],.ptr 1 (.int .i64) []]] [(0,.box (.int .i64) (ah x1)),(1,.box (.int .i64) (ah x2))]
noncomputable def eY (x0:(List ac)):Option (Unit×(List ac)×Unit):=ai E ip [.row 0,.fn 131 []] [(0,.row 39 ak x0 false)]
noncomputable def AW (x0:(List ac)):Option (((List ac)×Unit)×Unit):=ai E HX [.row 0] [(0,.row 39 ak x0 false)]
noncomputable def B0 (x0:(List ac)) (x1:eN):Option (((List ac)×Bool×Unit)×Unit):=ai E Aq [.val (.slice 39 ak) x0,.val bD x1] []
noncomputable def DH (x0:(List ac)) (x1:eN):Option (((List ac)×Bool×Unit)×Unit):=ai E ES [.val (.slice 39 ak) x0,.val bD x1] []
noncomputable def DI (x0:(List ac)) (x1:eN):Option (((List ac)×Bool×Unit)×Unit):=ai E EQ [.val (.slice 39 ak) x0,.val bD x1] []
noncomputable def lT (x0:aw) (x1:aB):Option ((Bool×Unit)×Unit):=ai E CM [.val aK x0,.val bC x1] []
noncomputable def GK (x0 x1:Int):Option ((Bool×Unit)×Unit):=ai E HQ [ah x0,ah x1] []
noncomputable def fh (x0 x1 x2:Int) (x3:Bool) (x4:Int):Option ((Int×Unit)×Unit):=ai E KU [ah x0,ah x1,ah x2,dw x3,ah x4] []
noncomputable def mz (x0:Z0):Option (((List ab)×Bool×Unit)×Unit):=ai E Ax [aV x0] []
noncomputable def dB:Option (((Int×Int×ae×aM×aM×(List Int)×Unit)×Unit)×Unit):=ai E HT [] []
noncomputable def sM (x0:(List ab)) (x1 x2:Int) (x3:Bool):Option (((List ab)×Unit)×Unit):=ai E An [.val (.slice 66 af) x0,ah x1,ah x2,dw x3] []
noncomputable def oA (x0:(List ab)) (x1:Bool):Option ((Z0×Unit)×Unit):=ai E CQ [.val (.slice 66 af) x0,dw x1] []
noncomputable def wV (x0:(List ac)) (x1:eN):Option (((List ac)×Bool×Unit)×Unit):=ai E Ar [.val (.slice 39 ak) x0,.val bD x1] []
noncomputable def n7 (x0:aM) (x1 x2:Int):Option ((aM×Unit)×Unit):=ai E E4 [.val br x0,ah x1,ah x2] []
noncomputable def DJ (x0:(List ab)) (x1 x2:Int):Option (((List ab)×Bool×Unit)×Unit):=ai E yg [.val (.slice 66 af) x0,ah x1,ah x2] []
noncomputable def B1 (x0:(List ac)) (x1:eN):Option (((List ac)×Bool×Unit)×Unit):=ai E uJ [.val (.slice 39 ak) x0,.val bD x1] []
noncomputable def yx (x0:(List ac)) (x1:eN):Option (((List ac)×Bool×Unit)×Unit):=ai E tm [.val (.slice 39 ak) x0,.val bD x1] []
noncomputable def DK (x0:(List ac)) (x1:eN):Option (((List ac)×Bool×Unit)×Unit):=ai E ER [.val (.slice 39 ak) x0,.val bD x1] []
noncomputable def kF (x0 x1:(List ac)):Option ((Bool×Unit)×Unit):=ai E tk [.val (.slice 39 ak) x0,.val (.slice 39 ak) x1] []
noncomputable def GL (x0:(List ab)) (x1 x2:Int):Option (((List ab)×Bool×Unit)×Unit):=ai E HN [.val (.slice 66 af) x0,ah x1,ah x2] []
noncomputable def yy (x0:(List ab)):Option (((List aB)×Unit)×Unit):=ai E xZ [.val (.slice 66 af) x0] []
noncomputable def DL (x0:(List ab)):Option (((List aB)×Unit)×Unit):=ai E yh [.val (.slice 66 af) x0] []
noncomputable def OT (x0:aB) (x1 x2:Int):Option ((Bool×Unit)×aw×Unit):=ai E AE [.val bC x0,.ptr 0 aK []] [(0,.box aK (.strct [ah x1,ah x2]))]
noncomputable def K3 (x0:aB) (x1:aw):Option ((Bool×Unit)×aw×Unit):=ai E AE [.val bC x0,.ptr 0 aK []] [(0,.box aK (.val aK x1))]
noncomputable def jQ (x0:(List aB)) (x1 x2:Int):Option ((Int×Unit)×aw×Unit):=ai E fR [.val (.slice 29 bC) x0,.fn 140 [.ptr 0 aK []]] [(0,.box aK (.strct [ah x1,ah x2]))]
noncomputable def iU (x0:(List aB)) (x1 x2:Int):Option ((Bool×Unit)×aw×Unit):=ai E kO [.val (.slice 29 bC) x0,.fn 140 [.ptr 0 aK []]] [(0,.box aK (.strct [ah x1,ah x2]))]
noncomputable def PV (x0:(List aB)) (x1:aw):Option ((Bool×Unit)×Unit):=ai E OK [.val (.slice 29 bC) x0,.val aK x1] []
noncomputable def AX (x0:(List ac)):Option ((((List ac)×(List (List ab))×(List (List Int))×Unit)×Unit)×Unit):=ai E qJ [.val (.slice 39 ak) x0] []
noncomputable def iV (x0:(List Bool)):Option (((List Bool)×Unit)×Unit):=ai E g8 [.val (.slice 4 .bool) x0] []
noncomputable def gj (x0:(List Int)):Option (((List Int)×Unit)×Unit):=ai E iM [.val (.slice 3 (.int .i64)) x0] []
noncomputable def kP (x0:lN) (x1:Int):Option ((Bool×Unit)×Unit):=ai E pc [.val bQ x0,ah x1] []
noncomputable def cN (x0:Int) (x1:(List ac)) (x2:(List (List ab))) (x3:(List (List Int))) (x4:(List Bool)) (x5:(List ap)):Option (Unit×(List Bool)×lN×(List ap)×Unit):=ai E fH [ah x0,.ptr 0 (.slice 4 .bool) [],.ptr 1 bQ [],.ptr 2 (.slice 48 ao) [],.ptr 3 .fn []] [(0,.box (.slice 4 .bool) (.row 4)),(1,.box bQ (.strct [.val (.slice 39 ak) x1,.val (.slice 35 (.slice 66 af)) x2,.val (.slice 122 (.slice 3 (.int .i64))) x3])),(2,.box (.slice 48 ao) (.row 5)),(3,.keepF 106 [.ptr 0 (.slice 4 .bool) [],.ptr 1 bQ [],.ptr 2 (.slice 48 ao) [],.ptr 3 .fn []]),(4,.row 4 .bool x4 false),(5,.row 48 ao x5 false)]
noncomputable def bE (x0:Int) (x1:lN) (x2:(List Bool)) (x3:(List ap)):Option (Unit×(List Bool)×lN×(List ap)×Unit):=ai E fH [ah x0,.ptr 0 (.slice 4 .bool) [],.ptr 1 bQ [],.ptr 2 (.slice 48 ao) [],.ptr 3 .fn []] [(0,.box (.slice 4 .bool) (.row 4)),(1,.box bQ (.val bQ x1)),(2,.box (.slice 48 ao) (.row 5)),(3,.keepF 106 [.ptr 0 (.slice 4 .bool) [],.ptr 1 bQ [],.ptr 2 (.slice 48 ao) [],.ptr 3 .fn []]),(4,.row 4 .bool x2 false),(5,.row 48 ao x3 false)]
noncomputable def B2 (x0:(List ap)) (x1:aw):Option ((ae×Unit)×Unit):=ai E Ao [.val (.slice 48 ao) x0,.val aK x1] []
noncomputable def jv (x0:(List ab)) (x1:Int) (x2:(List ap)):Option ((ae×Unit)×Unit):=ai E OM [.val (.slice 66 af) x0,ah x1,.val (.slice 48 ao) x2] []
noncomputable def gE (x0:ae):Option ((Int×Bool×Unit)×Unit):=ai E CX [.val aq x0] []
noncomputable def jw (x0:ae):Option ((ae×Unit)×Unit):=ai E OS [.val aq x0] []
noncomputable def n8 (x0:Int):Option ((ae×Unit)×Unit):=ai E E6 [ah x0] []
noncomputable def OU (x0 x1:Int):Option ((ae×Unit)×Unit):=ai E H8 [ah x0,ah x1] []
noncomputable def rS (x0 x1:ae):Option ((ae×Unit)×Unit):=ai E ng [.val aq x0,.val aq x1,.fn 217 []] []
noncomputable def JX (x0 x1:ae):Option ((ae×Unit)×Unit):=ai E OO [.val aq x0,.val aq x1] []
noncomputable def DM (x0:ae):Option ((ae×Unit)×Unit):=ai E E5 [.val aq x0] []
noncomputable def tK (x0:ae):Option ((Bool×Bool×Unit)×Unit):=ai E E8 [.val aq x0] []
noncomputable def OV (x0:(List ab)) (x1:ab) (x2:(List ap)):Option ((ae×Unit)×Unit):=ai E H6 [.val (.slice 66 af) x0,.val af x1,.val (.slice 48 ao) x2] []
noncomputable def yz (x0:ae):Option ((Z0×Unit)×Unit):=ai E AL [.val aq x0] []
noncomputable def wW (x0:ae):Option ((Z0×Bool×Unit)×Unit):=ai E Ia [.val aq x0] []
noncomputable def B3 (x0:Int) (x1:ae):Option ((ae×Unit)×Unit):=ai E H7 [ah x0,.val aq x1] []
noncomputable def cQ (x0:(List ab)) (x1:ab) (x2:(List ap)):Option (((List ae)×Unit)×Unit):=ai E qK [.val (.slice 66 af) x0,.val af x1,.val (.slice 48 ao) x2] []
noncomputable def kn (x0:Int) (x1:(List ae)):Option ((ae×Unit)×Unit):=ai E vL [ah x0,.val (.slice 46 aq) x1] []
noncomputable def tL (x0 x1:ae):Option ((ae×Unit)×Unit):=ai E ng [.val aq x0,.val aq x1,.fn 215 []] []
noncomputable def K4 (x0 x1:ae):Option ((ae×Unit)×Unit):=ai E Ss [.val aq x0,.val aq x1] []
noncomputable def oB (x0:(List ae)):Option ((ae×Unit)×Unit):=ai E AJ [.val (.slice 46 aq) x0] []
noncomputable def ko (x0:Int) (x1:(List ae)):Option ((ae×Unit)×Unit):=ai E vM [ah x0,.val (.slice 46 aq) x1] []
noncomputable def OW (x0:(List ab)) (x1:ab) (x2:(List ap)):Option ((ae×Unit)×Unit):=ai E H3 [.val (.slice 66 af) x0,.val af x1,.val (.slice 48 ao) x2] []
noncomputable def rf (x0 x1:ae):Option ((ae×Unit)×Unit):=ai E ng [.val aq x0,.val aq x1,.fn 218 []] []
noncomputable def K5 (x0 x1:ae):Option ((ae×Unit)×Unit):=ai E KX [.val aq x0,.val aq x1] []
noncomputable def rT (x0 x1:ae):Option ((ae×Unit)×Unit):=ai E ng [.val aq x0,.val aq x1,.fn 219 []] []
noncomputable def PW (x0 x1:ae):Option ((ae×Unit)×Unit):=ai E OP [.val aq x0,.val aq x1] []
noncomputable def GM (x0 x1:ae):Option ((ae×Unit)×Unit):=ai E H4 [.val aq x0,.val aq x1] []
noncomputable def n9 (x0:Z0):Option ((Bool×Unit)×Unit):=ai E q8 [aV x0] []
noncomputable def lU (x0 x1:Z0):Option ((Int×Unit)×Unit):=ai E pf [aV x0,aV x1] []
noncomputable def AY (x0 x1:ae):Option ((Int×Unit)×Unit):=ai E K0 [.val aq x0,.val aq x1] []
noncomputable def PX (x0:Int) (x1 x2:ae):Option ((ae×Unit)×Unit):=ai E OQ [ah x0,.val aq x1,.val aq x2] []
noncomputable def uR (x0:(List ab)) (x1:(List ap)):Option ((ae×Unit)×Unit):=ai E OL [.val (.slice 66 af) x0,.val (.slice 48 ao) x1] []
noncomputable def rG (x0:lN) (x1:(List Bool)) (x2:(List ae)):Option (((List ap)×Unit)×Unit):=ai E jr [.val bQ x0,.val (.slice 4 .bool) x1,.val (.slice 46 aq) x2] []
noncomputable def tM (x0:(List ac)):Option (((List ap)×Unit)×Unit):=ai E wG [.val (.slice 39 ak) x0] []
noncomputable def uS (x0:(List ac)):Option (((List ap)×Unit)×Unit):=ai E CI [.val (.slice 39 ak) x0] []
noncomputable def AZ (x0:(List ap)):Option ((Bool×Unit)×Unit):=ai E vH [.val (.slice 48 ao) x0] []
noncomputable def sN (x0:(List ap)) (x1:aw):Option ((ae×Unit)×Unit):=ai E HO [.val (.slice 48 ao) x0,.val aK x1] []
noncomputable def A0 (x0:(List Int)):Option ((Bool×Unit)×Unit):=ai E jY [.val (.slice 5 (.int .u8)) x0] []
noncomputable def PY:Code:=aR Tryz.f147
def unU (n:Nat):List SV:=List.replicate n .undef
noncomputable def vQ (x0:Int) (x1:Z0):Option ((Z0×Unit)×Unit):=bN E yj [] PY 480 {slots:=[ah x0,aa,aa,aV x1]++unU 18,res:=[],nx:=0,n0:=0}
noncomputable def U3:Code:=aR Tryz.f68
noncomputable def rg (x0:Int) (x1:Z0):Option ((Z0×Unit)×Unit):=bN E DA [] U3 480 {slots:=[ah x0,aa,aa,aV x1]++unU 25,res:=[],nx:=0,n0:=0}
noncomputable def K6:Code:=aR Tryz.f223
noncomputable def nJ (x0 x1:Int) (x2:aY):Option ((Int×Unit)×aY×Unit):=bN E tC [(0,.box aX (aa))] K6 464 {slots:=[.ptr 0 aX [],aa,aa,.val (.int .u64) x0,ah x1]++unU 11,res:=[(0,.box aX (.val aX x2))],nx:=1,n0:=1}
noncomputable def PZ:Code:=aR Tryz.f20
noncomputable def qN (x0:Z0) (x1:Int):Option ((Bool×Unit)×Unit):=bN E yc [] PZ 208 {slots:=[aV x0,aa,aa,ah x1]++unU 19,res:=[],nx:=0,n0:=0}
noncomputable def GN:Code:=aR Tryz.f22
noncomputable def lw (x0:Z0) (x1:Int) (x2:Bool) (x3:(List ab)):Option (Unit×(Z0×Int×Bool×(List ab)×Unit)×Unit):=bN E p7 [(0,.box bc (aa)),(1,.row 66 af [] false)] GN 16 {slots:=[.ptr 0 bc []]++unU 30,res:=[(0,.box bc (.strct [aV x0,ah x1,dw x2,.row 1])),(1,.row 66 af x3 false)],nx:=2,n0:=2}
noncomputable def Nd:Code:=aR Tryz.f21
noncomputable def dH (x0 x1:Int) (x2:Z0) (x3:Int) (x4:Bool) (x5:(List ab)):Option ((Int×Unit)×(Z0×Int×Bool×(List ab)×Unit)×Unit):=bN E vG [(0,.box bc (aa)),(1,.row 66 af [] false)] Nd 992 {slots:=[.ptr 0 bc [],ah x0,aa,aa,aa,ah x1]++unU 37,res:=[(0,.box bc (.strct [aV x2,ah x3,dw x4,.row 2])),(2,.row 66 af x5 false)],nx:=3,n0:=2}
noncomputable def K7:Code:=aR Tryz.f91
noncomputable def kQ (x0 x1:Z0) (x2:Int) (x3:Bool) (x4:(List ab)):Option ((Int×Unit)×(Z0×Int×Bool×(List ab)×Unit)×Unit):=bN E tu [(0,.box bc (aa)),(1,.row 66 af [] false)] K7 224 {slots:=[.ptr 0 bc [],aa,aa,aV x0]++unU 89,res:=[(0,.box bc (.strct [aV x1,ah x2,dw x3,.row 1])),(1,.row 66 af x4 false)],nx:=2,n0:=2}
noncomputable def K8:Code:=aR Tryz.f94
noncomputable def d7 (x0:Int) (x1:Z0) (x2:Int) (x3:Bool) (x4:(List ab)):Option ((Z0×Unit)×(Z0×Int×Bool×(List ab)×Unit)×Unit):=bN E tv [(0,.box bc (aa)),(1,.row 66 af [] false)] K8 224 {slots:=[.ptr 0 bc [],aa,aa,ah x0]++unU 91,res:=[(0,.box bc (.strct [aV x1,ah x2,dw x3,.row 1])),(1,.row 66 af x4 false)],nx:=2,n0:=2}
noncomputable def P0:Code:=aR Tryz.f137
noncomputable def vR (x0:Z0) (x1:Int):Option ((Int×Unit)×Unit):=bN E yi [] P0 208 {slots:=[aV x0,aa,aa,ah x1]++unU 9,res:=[],nx:=0,n0:=0}
noncomputable def U4:Code:=aR Tryz.f133
noncomputable def oC (x0:Z0) (x1 x2:Int):Option ((Int×Bool×Unit)×Unit):=bN E DB [] U4 976 {slots:=[aV x0,aa,aa,aa,aa,aa,ah x1,ah x2]++unU 44,res:=[],nx:=0,n0:=0}
noncomputable def K9:Code:=aR Tryz.f97
noncomputable def jm (x0:Z0) (x1 x2 x3:Int) (x4 x5:Bool) (x6 x7:Int) (x8 x9:Bool):Option ((aM×Bool×Unit)×Unit):=bN E tw [] K9 992 {slots:=[aV x0,aa,.ptr 0 br [],aa,.ptr 1 br [],ah x1]++unU 70,res:=[(0,.box br (.strct [.strct [ah x2,ah x3],dw x4,dw x5])),(1,.box br (.strct [.strct [ah x6,ah x7],dw x8,dw x9]))],nx:=2,n0:=0}
noncomputable def A1:Code:=aR Tryz.f96
noncomputable def rH (x0:Int) (x1:Z0) (x2:Int) (x3:Bool) (x4:(List ab)) (x5:(List Int)):Option ((Int×Unit)×(Z0×Int×Bool×(List ab)×Unit)×Unit):=bN E o9 [(0,.box bc (aa)),(1,.row 66 af [] false)] A1 224 {slots:=[.ptr 0 bc [],ah x0,aa,aa,aa,.row 2]++unU 24,res:=[(0,.box bc (.strct [aV x1,ah x2,dw x3,.row 1])),(1,.row 66 af x4 false),(2,.row 2 (.int .i64) x5 false)],nx:=3,n0:=2}
noncomputable def A2:Code:=aR Tryz.f86
noncomputable def aN (x0 x1:Int) (x2:Z0) (x3 x4:Int) (x5:Z0):Option ((ae×Bool×Unit)×Unit):=bN E o8 [] A2 60 {slots:=[aa,aa,.ptr 0 aq [],aa,.ptr 1 aq []]++unU 71,res:=[(0,.box aq (.strct [ah x0,ah x1,aV x2])),(1,.box aq (.strct [ah x3,ah x4,aV x5]))],nx:=2,n0:=0}
noncomputable def fi (x0:Z0) (x1 x2 x3:Int) (x4:Z0) (x5 x6:Int) (x7:Z0):Option ((ae×Bool×Unit)×Unit):=bN E o8 [] A2 475056 {slots:=[aV x0,aa,.ptr 0 aq [],aa,.ptr 1 aq [],ah x1]++unU 70,res:=[(0,.box aq (.strct [ah x2,ah x3,aV x4])),(1,.box aq (.strct [ah x5,ah x6,aV x7]))],nx:=2,n0:=0}
noncomputable def CY:Code:=aR Tryz.f53
noncomputable def jn (x0:Int) (x1:Z0) (x2:Int) (x3:Bool) (x4:(List ab)):Option ((Int×Unit)×(Z0×Int×Bool×(List ab)×Unit)×Unit):=bN E qI [(0,.box bc (aa)),(1,.row 66 af [] false)] CY 212880 {slots:=[.ptr 0 bc [],aa,aa,aa,aa,ah x0]++unU 140,res:=[(0,.box bc (.strct [aV x1,ah x2,dw x3,.row 2])),(2,.row 66 af x4 false)],nx:=3,n0:=2}
noncomputable def fL (x0:Z0) (x1:Int) (x2:Z0) (x3:Int) (x4:Bool) (x5:(List ab)):Option ((Int×Unit)×(Z0×Int×Bool×(List ab)×Unit)×Unit):=bN E qI [(0,.box bc (aa)),(1,.row 66 af [] false)] CY 976 {slots:=[.ptr 0 bc [],aa,aa,aa,aa,aa,aa,aV x0,ah x1]++unU 137,res:=[(0,.box bc (.strct [aV x2,ah x3,dw x4,.row 2])),(2,.row 66 af x5 false)],nx:=3,n0:=2}
noncomputable def Fb:Code:=aR Tryz.f54
noncomputable def qO (x0 x1:Int) (x2:Z0) (x3:Int) (x4:Bool) (x5:(List ab)) (x6:(List Int)):Option ((Int×Unit)×(Z0×Int×Bool×(List ab)×Unit)×Unit):=bN E r6 [(0,.box bc (aa)),(1,.row 66 af [] false)] Fb 464 {slots:=[.ptr 0 bc [],ah x0,aa,aa,aa,.row 2,ah x1]++unU 27,res:=[(0,.box bc (.strct [aV x2,ah x3,dw x4,.row 1])),(1,.row 66 af x5 false),(2,.row 2 (.int .i64) x6 false)],nx:=3,n0:=2}
noncomputable def Su:Code:=aR Tryz.f58
noncomputable def se (x0:(List ab)) (x1 x2 x3:Int):Option ((Int×Unit)×Unit):=bN E Au [] Su 464 {slots:=[.val (.slice 66 af) x0,ah x1,aa,aa,aa,ah x2,ah x3]++unU 37,res:=[],nx:=0,n0:=0}
noncomputable def Sv:Code:=aR Tryz.f59
noncomputable def sf (x0:(List ab)) (x1 x2 x3:Int):Option ((Int×Unit)×Unit):=bN E Av [] Sv 464 {slots:=[.val (.slice 66 af) x0,ah x1,aa,aa,aa,ah x2,ah x3]++unU 24,res:=[],nx:=0,n0:=0}
noncomputable def A3:Code:=aR Tryz.f23
noncomputable def eT (x0:(List ab)) (x1:Int):Option ((Bool×Unit)×Unit):=bN E o7 [] A3 464 {slots:=[.val (.slice 66 af) x0,aa,aa,ah x1]++unU 83,res:=[],nx:=0,n0:=0}
noncomputable def P1:Code:=aR Tryz.f163
noncomputable def nj (x0 x1:Z0) (x2:Int):Option ((Z0×Unit)×Unit):=bN E yk [] P1 464 {slots:=[aV x0,aa,aa,aV x1,ah x2]++unU 21,res:=[],nx:=0,n0:=0}
noncomputable def Sw:Code:=aR Tryz.f132
noncomputable def nk (x0:(List ab)) (x1:Z0) (x2 x3 x4:Int) (x5:ae) (x6 x7:aM) (x8:(List Int)):Option ((Z0×Unit)×Unit):=bN E AD [] Sw 2000 {slots:=[.val (.slice 66 af) x0,aa,aa,aa,aa,aa,aa,.ptr 0 af [],aa,aa,aV x1,ah x2]++unU 101,res:=[(0,.box af (.strct [ah x3,ah x4,.val aq x5,.val br x6,.val br x7,.val (.slice 2 (.int .i64)) x8]))],nx:=1,n0:=0}
noncomputable def Nf:Code:=aR Tryz.f84
noncomputable def j8 (x0:Z0) (x1:Bool) (x2 x3:Int) (x4:Z0):Option ((ae×Bool×Unit)×Unit):=bN E vJ [] Nf 992 {slots:=[aV x0,aa,.ptr 0 aq [],aa,dw x1]++unU 43,res:=[(0,.box aq (.strct [ah x2,ah x3,aV x4]))],nx:=1,n0:=0}
noncomputable def P2:Code:=aR Tryz.f18
noncomputable def nl (x0:(List ac)) (x1:Int):Option ((Bool×Unit)×Unit):=bN E yb [] P2 464 {slots:=[.val (.slice 39 ak) x0,aa,aa,ah x1]++unU 67,res:=[],nx:=0,n0:=0}
noncomputable def U5:Code:=aR Tryz.f66
noncomputable def iy (x0:(List ac)) (x1:Z0) (x2:Bool) (x3 x4 x5:Int) (x6:(List ac)):Option (((List ac)×Unit)×Unit):=bN E Dz [] U5 976 {slots:=[.val (.slice 39 ak) x0,aa,aV x1,aa,.ptr 0 aK [],aa,aa,.row 1,dw x2,ah x3]++unU 50,res:=[(0,.box aK (.strct [ah x4,ah x5])),(1,.row 39 ak x6 false)],nx:=2,n0:=0}
noncomputable def Jf:Code:=aR Tryz.f15
noncomputable def j9 (x0:Int) (x1:aY) (x2:(List ac)):Option (((List ac)×Unit)×aY×Unit):=bN E rC [(0,.box aX (aa))] Jf 464 {slots:=[.ptr 0 aX [],aa,aa,aa,aa,.row 1,ah x0]++unU 33,res:=[(0,.box aX (.val aX x1)),(1,.row 39 ak x2 false)],nx:=2,n0:=1}
noncomputable def La:Code:=aR Tryz.f70
noncomputable def nK (x0:Int) (x1:(List Int)) (x2 x3:Int):Option ((Int×Unit)×Unit):=bN E tr [] La 232 {slots:=[aa,aa,aa,ah x0,aa,aa,.val (.slice 3 (.int .i64)) x1,ah x2,ah x3]++unU 9,res:=[],nx:=0,n0:=0}
noncomputable def Sx:Code:=aR Tryz.f111
noncomputable def si (x0:Z0) (x1 x2 x3:Int):Option ((Bool×Unit)×Unit):=bN E Az [] Sx 104 {slots:=[aV x0,ah x1,aa,aa,aa,aa,aa,ah x2,ah x3]++unU 17,res:=[],nx:=0,n0:=0}
noncomputable def GO:Code:=aR Tryz.f176
noncomputable def lx (x0 x1:Int) (x2:Z0) (x3:Bool) (x4:(List Z0)) (x5:(List ab)):Option ((Z0×Unit)×(Z0×(List ab)×Bool×Unit)×Unit):=bN E p8 [(0,.box bh (aa)),(1,.row 66 af [] false)] GO 232 {slots:=[.ptr 0 bh [],aa,aa,aa,aa,aa,aa,.row 2,ah x0,ah x1]++unU 11,res:=[(0,.box bh (.strct [aV x2,.row 3,dw x3])),(2,.row 9 .str x4 false),(3,.row 66 af x5 false)],nx:=4,n0:=2}
noncomputable def DN:Code:=aR Tryz.f252
noncomputable def jT (x0 x1 x2:Z0) (x3:Bool) (x4:(List ab)):Option ((Int×Unit)×(Z0×(List ab)×Bool×Unit)×Unit):=bN E nZ [(0,.box bh (aa)),(1,.row 66 af [] false)] DN 224 {slots:=[.ptr 0 bh [],aa,aa,aV x0,aV x1]++unU 38,res:=[(0,.box bh (.strct [aV x2,.row 1,dw x3])),(1,.row 66 af x4 false)],nx:=2,n0:=2}
noncomputable def Lb:Code:=aR Tryz.f107
noncomputable def g9 (x0:Z0) (x1 x2 x3:Int) (x4:Z0) (x5 x6:Int) (x7:Z0):Option ((ae×Bool×Unit)×Unit):=bN E tx [] Lb 120784 {slots:=[aV x0,aa,.ptr 0 aq [],aa,.ptr 1 aq [],aa,aa,ah x1]++unU 56,res:=[(0,.box aq (.strct [ah x2,ah x3,aV x4])),(1,.box aq (.strct [ah x5,ah x6,aV x7]))],nx:=2,n0:=0}
noncomputable def P3:Code:=aR Tryz.f274
noncomputable def vS (x0:Z0) (x1:Int):Option ((Int×Unit)×Unit):=bN E yl [] P3 208 {slots:=[aV x0,aa,aa,ah x1]++unU 9,res:=[],nx:=0,n0:=0}
noncomputable def tN:Code:=aR Tryz.f150
noncomputable def cE (x0 x1 x2:Int) (x3:Z0) (x4:Bool) (x5:(List ab)):Option ((Int×Unit)×(Z0×(List ab)×Bool×Unit)×Unit):=bN E kA [(0,.box bh (aa)),(1,.row 66 af [] false)] tN 224 {slots:=[.ptr 0 bh [],ah x0,ah x1,aa,aa,aa,aa,ah x2]++unU 47,res:=[(0,.box bh (.strct [aV x3,.row 2,dw x4])),(2,.row 66 af x5 false)],nx:=3,n0:=2}
noncomputable def wX:Code:=aR Tryz.f256
noncomputable def uT (x0 x1:Int) (x2:Z0) (x3:Bool) (x4:(List ab)) (x5:(List Int)):Option ((Int×Unit)×(Z0×(List ab)×Bool×Unit)×Unit):=bN E mr [(0,.box bh (aa)),(1,.row 66 af [] false)] wX 480 {slots:=[.ptr 0 bh [],ah x0,ah x1,aa,aa,aa,aa,.row 2]++unU 59,res:=[(0,.box bh (.strct [aV x2,.row 1,dw x3])),(1,.row 66 af x4 false),(2,.row 2 (.int .i64) x5 false)],nx:=3,n0:=2}
noncomputable def b7 (x0 x1:Int) (x2:Z0) (x3:Bool) (x4:(List Int)) (x5:(List ab)):Option ((Int×Unit)×(Z0×(List ab)×Bool×Unit)×Unit):=bN E mr [(0,.box bh (aa)),(1,.row 66 af [] false)] wX 480 {slots:=[.ptr 0 bh [],ah x0,ah x1,aa,aa,aa,aa,.row 2]++unU 59,res:=[(0,.box bh (.strct [aV x2,.row 3,dw x3])),(2,.row 2 (.int .i64) x4 false),(3,.row 66 af x5 false)],nx:=4,n0:=2}
noncomputable def wY:Code:=aR Tryz.f224
noncomputable def dS (x0 x1:Int) (x2:Z0) (x3:Bool) (x4:(List ab)):Option ((Int×Unit)×(Z0×(List ab)×Bool×Unit)×Unit):=bN E mo [(0,.box bh (aa)),(1,.row 66 af [] false)] wY 14800 {slots:=[.ptr 0 bh [],ah x0,aa,aa,aa,ah x1]++unU 114,res:=[(0,.box bh (.strct [aV x2,.row 2,dw x3])),(2,.row 66 af x4 false)],nx:=3,n0:=2}
noncomputable def dY (x0:Int) (x1:Z0) (x2:Int) (x3:Z0) (x4:Bool) (x5:(List ab)):Option ((Int×Unit)×(Z0×(List ab)×Bool×Unit)×Unit):=bN E mo [(0,.box bh (aa)),(1,.row 66 af [] false)] wY 8144 {slots:=[.ptr 0 bh [],ah x0,aa,aa,aa,aa,aa,aa,aa,aV x1,aa,aa,aa,aa,ah x2]++unU 105,res:=[(0,.box bh (.strct [aV x3,.row 2,dw x4])),(2,.row 66 af x5 false)],nx:=3,n0:=2}
noncomputable def WS:Code:=aR Tryz.f182
noncomputable def qe (x0:(List ab)) (x1 x2 x3 x4:Int):Option ((Int×Unit)×Unit):=bN E GG [] WS 976 {slots:=[.val (.slice 66 af) x0,ah x1,ah x2,aa,aa,aa,aa,ah x3,ah x4]++unU 67,res:=[],nx:=0,n0:=0}
noncomputable def GP:Code:=aR Tryz.f183
noncomputable def kG (x0:(List ab)) (x1:(List Int)) (x2 x3 x4 x5:Int) (x6:ae) (x7 x8:aM) (x9:(List Int)) (x10:(List Z0)):Option ((Z0×Unit)×Unit):=bN E p9 [] GP 1000 {slots:=[.val (.slice 66 af) x0,aa,aa,aa,aa,aa,aa,.ptr 0 af [],aa,aa,.row 1,aa,aa,aa,aa,aa,aa,aa,aa,aa,aa,aa,aa,aa,aa,aa,aa,aa,aa,aa,aa,aa,aa,aa,aa,aa,aa,aa,aa,aa,aa,aa,aa,aa,aa,aa,aa,aa,aa,aa,aa,aa,aa,aa,aa,aa,aa,aa,aa,aa,aa,aa,aa,aa,aa,aa,aa,aa,aa,aa,aa,aa,aa,aa,aa,aa,aa,aa,aa,aa,aa,aa,aa,aa,aa,aa,aa,aa,aa,aa,aa,aa,.val (.slice 2 (.int .i64)) x1,ah x2,ah x3]++unU 18,res:=[(0,.box af (.strct [ah x4,ah x5,.val aq x6,.val br x7,.val br x8,.val (.slice 2 (.int .i64)) x9])),(1,.row 9 .str x10 false)],nx:=2,n0:=0}
noncomputable def P4:Code:=aR Tryz.f16
noncomputable def np (x0 x1:(List ac)) (x2 x3:Int):Option ((Bool×Unit)×Unit):=bN E ya [] P4 104 {slots:=[.val (.slice 39 ak) x0,aa,aa,aa,aa,.val (.slice 39 ak) x1,ah x2,ah x3]++unU 34,res:=[],nx:=0,n0:=0}
noncomputable def mT:Code:=aR Tryz.f74
noncomputable def gT (x0:(List ac)) (x1 x2 x3 x4:Int):Option ((Int×Unit)×aw×Unit):=bN E fQ [(0,.box aK (aa))] mT 104 {slots:=[.val (.slice 39 ak) x0,.fn 122 [.ptr 0 aK []],aa,aa,aa,aa,aa,ah x1,ah x2]++unU 10,res:=[(0,.box aK (.strct [ah x3,ah x4]))],nx:=1,n0:=1}
noncomputable def tO:Code:=aR Tryz.f38
noncomputable def cc (x0 x1:Int) (x2:(List ac)) (x3:aw):Option (((List ac)×Unit)×aw×Unit):=bN E iL [(0,.row 39 ak [] false),(1,.box aK (aa))] tO 976 {slots:=[.row 0,.fn 122 [.ptr 1 aK []],aa,aa,aa,ah x0,ah x1]++unU 35,res:=[(0,.row 39 ak x2 false),(1,.box aK (.val aK x3))],nx:=2,n0:=2}
noncomputable def kR:Code:=aR Tryz.f74
noncomputable def gU (x0:(List ac)) (x1 x2 x3:Int) (x4:aw) (x5:Z0) (x6:aB) (x7 x8:Int):Option ((Int×Unit)×eN×Unit):=bN E eO [(0,.box bD (aa))] kR 104 {slots:=[.val (.slice 39 ak) x0,.fn 40 [.ptr 0 bD []],aa,aa,aa,aa,aa,ah x1,ah x2]++unU 10,res:=[(0,.box bD (.strct [ah x3,.val aK x4,aV x5,.val bC x6,ah x7,ah x8]))],nx:=1,n0:=1}
noncomputable def rh:Code:=aR Tryz.f38
noncomputable def cd (x0 x1:Int) (x2:(List ac)) (x3:eN):Option (((List ac)×Unit)×eN×Unit):=bN E gy [(0,.row 39 ak [] false),(1,.box bD (aa))] rh 976 {slots:=[.row 0,.fn 40 [.ptr 1 bD []],aa,aa,aa,ah x0,ah x1]++unU 35,res:=[(0,.row 39 ak x2 false),(1,.box bD (.val bD x3))],nx:=2,n0:=2}
noncomputable def Fc:Code:=aR Tryz.f125
noncomputable def cw (x0:(List ab)) (x1 x2 x3 x4:Int) (x5:(List ab)):Option (((List ab)×Unit)×Int×Int×Unit):=bN E pd [(0,.box (.int .i64) (aa)),(1,.box (.int .i64) (aa))] Fc 232 {slots:=[aa,.fn 126 [.ptr 0 (.int .i64) [],.ptr 1 (.int .i64) []],aa,aa,aa,.row 2,aa,aa,aa,.val (.slice 66 af) x0,ah x1,ah x2]++unU 29,res:=[(0,.box (.int .i64) (ah x3)),(1,.box (.int .i64) (ah x4)),(2,.row 66 af x5 false)],nx:=3,n0:=2}
noncomputable def Jg:Code:=aR Tryz.f125
noncomputable def bw (x0:(List ab)) (x1 x2 x3 x4:Int) (x5:(List ab)):Option (((List ab)×Unit)×Int×Int×Unit):=bN E rE [(0,.keepF 127 []),(1,.box (.int .i64) (aa)),(2,.box (.int .i64) (aa))] Jg 232 {slots:=[aa,.fn 128 [.ptr 0 .fn [],.ptr 1 (.int .i64) []],aa,aa,aa,.row 3,aa,aa,aa,.val (.slice 66 af) x0,ah x1,ah x2]++unU 29,res:=[(0,.keepF 127 [.ptr 1 (.int .i64) [],.ptr 2 (.int .i64) []]),(1,.box (.int .i64) (ah x3)),(2,.box (.int .i64) (ah x4)),(3,.row 66 af x5 false)],nx:=4,n0:=3}
noncomputable def Ie (x0:(List ab)) (x1:eN):Option (((List ab)×Unit)×eN×Unit):=ai E yf [.val (.slice 66 af) x0,.ptr 0 bD []] [(0,.box bD (.val bD x1))]
noncomputable def Lc:Code:=aR Tryz.f44
noncomputable def uU (x0:(List ac)) (x1 x2 x3:Int) (x4:aw) (x5:Z0) (x6:aB) (x7 x8:Int) (x9:(List ac)):Option (((List ac)×Bool×Unit)×Unit):=bN E ye [] Lc 232 {slots:=[aa,aa,aa,.ptr 0 bD [],aa,aa,.row 1,aa,aa,aa,aa,aa,.val (.slice 39 ak) x0,ah x1,ah x2]++unU 64,res:=[(0,.box bD (.strct [ah x3,.val aK x4,aV x5,.val bC x6,ah x7,ah x8])),(1,.row 39 ak x9 false)],nx:=2,n0:=0}
noncomputable def kS:Code:=aR Tryz.f74
noncomputable def ik (x0:(List ac)) (x1 x2:Int) (x3 x4:aw):Option ((Int×Unit)×aB×Unit):=bN E eP [(0,.box bC (aa))] kS 104 {slots:=[.val (.slice 39 ak) x0,.fn 79 [.ptr 0 bC []],aa,aa,aa,aa,aa,ah x1,ah x2]++unU 10,res:=[(0,.box bC (.strct [.val aK x3,.val aK x4]))],nx:=1,n0:=1}
noncomputable def ri:Code:=aR Tryz.f38
noncomputable def cg (x0 x1:Int) (x2:(List ac)) (x3:aB):Option (((List ac)×Unit)×aB×Unit):=bN E gz [(0,.row 39 ak [] false),(1,.box bC (aa))] ri 976 {slots:=[.row 0,.fn 79 [.ptr 1 bC []],aa,aa,aa,ah x0,ah x1]++unU 35,res:=[(0,.row 39 ak x2 false),(1,.box bC (.val bC x3))],nx:=2,n0:=2}
noncomputable def ck (x0:(List ab)) (x1 x2 x3 x4:Int) (x5:(List ab)):Option (((List ab)×Unit)×Int×Int×Unit):=bN E pd [(0,.box (.int .i64) (aa)),(1,.box (.int .i64) (aa))] Fc 232 {slots:=[aa,.fn 129 [.ptr 0 (.int .i64) [],.ptr 1 (.int .i64) []],aa,aa,aa,.row 2,aa,aa,aa,.val (.slice 66 af) x0,ah x1,ah x2]++unU 29,res:=[(0,.box (.int .i64) (ah x3)),(1,.box (.int .i64) (ah x4)),(2,.row 66 af x5 false)],nx:=3,n0:=2}
noncomputable def Sy:Code:=aR Tryz.f45
noncomputable def mA (x0:(List ac)) (x1 x2 x3:Int) (x4:aw) (x5:Z0) (x6:aB) (x7 x8 x9 x10:Int) (x11:(List ac)):Option (((List ac)×Bool×Unit)×Unit):=bN E Aq [] Sy 2024 {slots:=[aa,aa,aa,.ptr 0 bD [],aa,aa,.ptr 1 (.int .i64) [],.ptr 2 (.int .i64) [],aa,.row 3,aa,aa,aa,aa,aa,aa,aa,aa,aa,aa,aa,aa,aa,aa,aa,aa,aa,aa,aa,aa,aa,aa,aa,aa,aa,aa,aa,aa,aa,aa,aa,aa,aa,aa,aa,aa,aa,aa,aa,aa,aa,aa,aa,aa,aa,aa,aa,aa,aa,.val (.slice 39 ak) x0,ah x1,ah x2]++unU 40,res:=[(0,.box bD (.strct [ah x3,.val aK x4,aV x5,.val bC x6,ah x7,ah x8])),(1,.box (.int .i64) (ah x9)),(2,.box (.int .i64) (ah x10)),(3,.row 39 ak x11 false)],nx:=4,n0:=0}
noncomputable def Sz:Code:=aR Tryz.f25
noncomputable def bo (x0:(List ab)) (x1 x2:Int) (x3:Bool) (x4:Int) (x5:(List ab)):Option (((List ab)×Unit)×Unit):=bN E An [] Sz 464 {slots:=[.val (.slice 66 af) x0,ah x1,ah x2,dw x3,aa,aa,aa,aa,aa,.row 0,ah x4]++unU 85,res:=[(0,.row 66 af x5 false)],nx:=1,n0:=0}
noncomputable def SA:Code:=aR Tryz.f51
noncomputable def gk (x0:(List ac)) (x1 x2:Int) (x3:aw) (x4:Z0) (x5:aB) (x6 x7:Int) (x8:(List ac)):Option (((List ac)×Bool×Unit)×Unit):=bN E Ar [] SA 976 {slots:=[.val (.slice 39 ak) x0,aa,aa,.ptr 0 bD [],aa,aa,.row 1,ah x1]++unU 80,res:=[(0,.box bD (.strct [ah x2,.val aK x3,aV x4,.val bC x5,ah x6,ah x7])),(1,.row 39 ak x8 false)],nx:=2,n0:=0}
noncomputable def P5:Code:=aR Tryz.f89
noncomputable def eI (x0:(List ab)) (x1 x2 x3:Int) (x4:(List ab)):Option (((List ab)×Bool×Unit)×Unit):=bN E yg [] P5 976 {slots:=[.val (.slice 66 af) x0,ah x1,ah x2,aa,aa,aa,aa,aa,.row 0,ah x3]++unU 63,res:=[(0,.row 66 af x4 false)],nx:=1,n0:=0}
noncomputable def Ig:Code:=aR Tryz.f52
noncomputable def mB (x0:(List ac)) (x1 x2 x3 x4:Int) (x5:aw) (x6:Z0) (x7:aB) (x8 x9 x10 x11:Int) (x12:(List ac)):Option (((List ac)×Bool×Unit)×Unit):=bN E uJ [] Ig 8144 {slots:=[.val (.slice 39 ak) x0,aa,aa,.ptr 0 bD [],aa,aa,ah x1,ah x2,.ptr 1 aK [],.row 2,ah x3]++unU 132,res:=[(0,.box bD (.strct [ah x4,.val aK x5,aV x6,.val bC x7,ah x8,ah x9])),(1,.box aK (.strct [ah x10,ah x11])),(2,.row 39 ak x12 false)],nx:=3,n0:=0}
noncomputable def Ld:Code:=aR Tryz.f19
noncomputable def kT (x0:(List ac)) (x1 x2:Int) (x3:aw) (x4:Z0) (x5:aB) (x6 x7:Int) (x8:(List ac)):Option (((List ac)×Bool×Unit)×Unit):=bN E tm [] Ld 110288 {slots:=[.val (.slice 39 ak) x0,aa,aa,.ptr 0 bD [],aa,aa,.row 1,ah x1]++unU 57,res:=[(0,.box bD (.strct [ah x2,.val aK x3,aV x4,.val bC x5,ah x6,ah x7])),(1,.row 39 ak x8 false)],nx:=2,n0:=0}
noncomputable def Le:Code:=aR Tryz.f8
noncomputable def nL (x0 x1:(List ac)) (x2:Int):Option ((Bool×Unit)×Unit):=bN E tk [] Le 464 {slots:=[.val (.slice 39 ak) x0,.val (.slice 39 ak) x1,aa,aa,aa,ah x2]++unU 20,res:=[],nx:=0,n0:=0}
noncomputable def P6:Code:=aR Tryz.f11
noncomputable def lg (x0:(List ab)) (x1:Int) (x2:(List aB)):Option (((List aB)×Unit)×Unit):=bN E xZ [] P6 976 {slots:=[.val (.slice 66 af) x0,aa,aa,.row 0,ah x1]++unU 53,res:=[(0,.row 29 bC x2 false)],nx:=1,n0:=0}
noncomputable def P7:Code:=aR Tryz.f103
noncomputable def lh (x0:(List ab)) (x1 x2:Int) (x3:(List aB)):Option (((List aB)×Unit)×Unit):=bN E yh [] P7 232 {slots:=[aa,aa,aa,.row 0,aa,aa,aa,.val (.slice 66 af) x0,ah x1,ah x2]++unU 18,res:=[(0,.row 29 bC x3 false)],nx:=1,n0:=0}
noncomputable def mU:Code:=aR Tryz.f164
noncomputable def eZ (x0:(List aB)) (x1 x2 x3 x4:Int):Option ((Int×Unit)×aw×Unit):=bN E fR [(0,.box aK (aa))] mU 104 {slots:=[.val (.slice 29 bC) x0,.fn 140 [.ptr 0 aK []],aa,aa,aa,aa,aa,ah x1,ah x2]++unU 10,res:=[(0,.box aK (.strct [ah x3,ah x4]))],nx:=1,n0:=1}
noncomputable def CZ:Code:=aR Tryz.f62
noncomputable def lV (x0 x1:(List ac)) (x2 x3:Int) (x4 x5:(List ac)) (x6:(List (List ab))) (x7:(List (List Int))) (x8:(List (List ab))) (x9:(List (List Int))):Option ((((List ac)×(List (List ab))×(List (List Int))×Unit)×Unit)×Unit):=bN E qJ [] CZ 232 {slots:=[.val (.slice 39 ak) x0,aa,.ptr 0 bQ [],.ptr 1 bQ [],aa,aa,aa,aa,aa,aa,aa,aa,aa,aa,.val (.slice 39 ak) x1,ah x2,ah x3]++unU 42,res:=[(0,.box bQ (.strct [.row 2,.row 3,.row 4])),(1,.box bQ (.strct [.val (.slice 39 ak) x4,.row 5,.row 6])),(2,.row 39 ak x5 false),(3,.row 35 (.slice 66 af) x6 false),(4,.row 122 (.slice 3 (.int .i64)) x7 false),(5,.row 35 (.slice 66 af) x8 false),(6,.row 122 (.slice 3 (.int .i64)) x9 false)],nx:=7,n0:=0}
noncomputable def Fd:Code:=aR Tryz.f108
noncomputable def gd (x0 x1:Int) (x2:(List ac)) (x3:(List (List ab))) (x4:(List (List Int))) (x5:(List Bool)) (x6:(List Int)):Option ((Bool×Unit)×Unit):=bN E pc [] Fd 976 {slots:=[aa,ah x0,.ptr 0 bQ [],aa,aa,.row 1,.row 2,ah x1]++unU 39,res:=[(0,.box bQ (.strct [.val (.slice 39 ak) x2,.val (.slice 35 (.slice 66 af)) x3,.val (.slice 122 (.slice 3 (.int .i64))) x4])),(1,.row 4 .bool x5 false),(2,.row 3 (.int .i64) x6 false)],nx:=3,n0:=0}
noncomputable def m6:Code:=aR Tryz.f106
noncomputable def ep (x0:Int) (x1:(List Int)) (x2 x3:Int) (x4:(List ac)) (x5:(List (List ab))) (x6:(List (List Int))) (x7:(List Bool)) (x8:(List ap)):Option (Unit×(List Bool)×lN×(List ap)×Unit):=bN E fH [(0,.box (.slice 4 .bool) (aa)),(1,.box bQ (aa)),(2,.box (.slice 48 ao) (aa)),(3,.keepF 106 []),(4,.row 4 .bool [] false),(5,.row 48 ao [] false)] m6 7656 {slots:=[ah x0,aa,.ptr 1 bQ [],.ptr 2 (.slice 48 ao) [],.ptr 3 .fn [],aa,aa,aa,aa,aa,aa,aa,aa,aa,aa,aa,aa,aa,aa,.val (.slice 3 (.int .i64)) x1,ah x2,ah x3]++unU 49,res:=[(0,.box (.slice 4 .bool) (.row 4)),(1,.box bQ (.strct [.val (.slice 39 ak) x4,.val (.slice 35 (.slice 66 af)) x5,.val (.slice 122 (.slice 3 (.int .i64))) x6])),(2,.box (.slice 48 ao) (.row 5)),(3,.keepF 106 [.ptr 0 (.slice 4 .bool) [],.ptr 1 bQ [],.ptr 2 (.slice 48 ao) [],.ptr 3 .fn []]),(4,.row 4 .bool x7 false),(5,.row 48 ao x8 false)],nx:=6,n0:=6}
noncomputable def cn (x0:Int) (x1:(List Int)) (x2 x3:Int) (x4:lN) (x5:(List Bool)) (x6:(List ap)):Option (Unit×(List Bool)×lN×(List ap)×Unit):=bN E fH [(0,.box (.slice 4 .bool) (aa)),(1,.box bQ (aa)),(2,.box (.slice 48 ao) (aa)),(3,.keepF 106 []),(4,.row 4 .bool [] false),(5,.row 48 ao [] false)] m6 7656 {slots:=[ah x0,aa,.ptr 1 bQ [],.ptr 2 (.slice 48 ao) [],.ptr 3 .fn [],aa,aa,aa,aa,aa,aa,aa,aa,aa,aa,aa,aa,aa,aa,.val (.slice 3 (.int .i64)) x1,ah x2,ah x3]++unU 49,res:=[(0,.box (.slice 4 .bool) (.row 4)),(1,.box bQ (.val bQ x4)),(2,.box (.slice 48 ao) (.row 5)),(3,.keepF 106 [.ptr 0 (.slice 4 .bool) [],.ptr 1 bQ [],.ptr 2 (.slice 48 ao) [],.ptr 3 .fn []]),(4,.row 4 .bool x5 false),(5,.row 48 ao x6 false)],nx:=6,n0:=6}
noncomputable def SB:Code:=aR Tryz.f28
noncomputable def sj (x0:(List ap)) (x1 x2 x3 x4 x5 x6:Int) (x7:Z0):Option ((ae×Unit)×Unit):=bN E Ao [] SB 104 {slots:=[aa,aa,aa,.ptr 0 aK [],.ptr 1 aq [],aa,aa,.val (.slice 48 ao) x0,ah x1,ah x2]++unU 11,res:=[(0,.box aK (.strct [ah x3,ah x4])),(1,.box aq (.strct [ah x5,ah x6,aV x7]))],nx:=2,n0:=0}
noncomputable def C0:Code:=aR Tryz.f211
noncomputable def kb (x0:(List ab)) (x1:(List ap)) (x2:(List Int)) (x3 x4:Int) (x5:(List ae)):Option (((List ae)×Unit)×Unit):=bN E qK [] C0 232 {slots:=[.val (.slice 66 af) x0,aa,.val (.slice 48 ao) x1,aa,aa,aa,aa,.row 0,aa,aa,aa,aa,aa,aa,.val (.slice 2 (.int .i64)) x2,ah x3,ah x4]++unU 38,res:=[(0,.row 46 aq x5 false)],nx:=1,n0:=0}
noncomputable def Ng:Code:=aR Tryz.f210
noncomputable def iW (x0:Int) (x1 x2:Bool) (x3:(List ae)) (x4 x5 x6 x7:Int) (x8:Z0):Option ((ae×Unit)×Unit):=bN E vL [] Ng 232 {slots:=[ah x0,aa,aa,aa,.ptr 0 aq [],dw x1,dw x2,aa,aa,aa,aa,.val (.slice 46 aq) x3,ah x4,ah x5]++unU 27,res:=[(0,.box aq (.strct [ah x6,ah x7,aV x8]))],nx:=1,n0:=0}
noncomputable def SC (x0 x1:Int):Option ((ae×Unit)×Unit):=ai E KZ [ah x0,ah x1] []
noncomputable def SD:Code:=aR Tryz.f212
noncomputable def pl (x0:(List ae)) (x1 x2 x3 x4:Int) (x5:Z0) (x6 x7:Int) (x8:Z0):Option ((ae×Unit)×Unit):=bN E AJ [] SD 232 {slots:=[aa,aa,.ptr 0 aq [],.ptr 1 aq [],aa,aa,aa,.val (.slice 46 aq) x0,ah x1,ah x2]++unU 19,res:=[(0,.box aq (.strct [ah x3,ah x4,aV x5])),(1,.box aq (.strct [ah x6,ah x7,aV x8]))],nx:=2,n0:=0}
noncomputable def Nh:Code:=aR Tryz.f213
noncomputable def fy (x0 x1 x2 x3:Int) (x4:(List ae)) (x5 x6 x7 x8:Int) (x9:Z0):Option ((ae×Unit)×Unit):=bN E vM [] Nh 232 {slots:=[ah x0,aa,aa,aa,.ptr 0 aq [],ah x1,ah x2,ah x3,aa,aa,.val (.slice 46 aq) x4,ah x5,ah x6]++unU 42,res:=[(0,.box aq (.strct [ah x7,ah x8,aV x9]))],nx:=1,n0:=0}
noncomputable def Lf (x0 x1:Int):Option ((ae×Unit)×Unit):=ai E E7 [ah x0,ah x1] []
noncomputable def OX (x0 x1:Int):Option ((ae×Unit)×Unit):=ai E H9 [ah x0,ah x1] []
noncomputable def pm:Code:=aR Tryz.f63
noncomputable def iX (x0:(List ae)) (x1:(List ac)) (x2 x3:Int) (x4:(List ac)) (x5:(List (List ab))) (x6:(List (List Int))) (x7:(List Bool)) (x8:(List ap)):Option (((List ap)×Unit)×Unit):=bN E jr [] pm 232 {slots:=[aa,aa,.val (.slice 46 aq) x0,.ptr 0 bQ [],aa,aa,aa,.ptr 1 (.slice 4 .bool) [],.ptr 2 (.slice 48 ao) [],aa,aa,aa,aa,aa,aa,aa,aa,aa,aa,aa,.val (.slice 39 ak) x1,ah x2,ah x3]++unU 26,res:=[(0,.box bQ (.strct [.val (.slice 39 ak) x4,.val (.slice 35 (.slice 66 af)) x5,.val (.slice 122 (.slice 3 (.int .i64))) x6])),(1,.box (.slice 4 .bool) (.row 3)),(2,.box (.slice 48 ao) (.row 4)),(3,.row 4 .bool x7 false),(4,.row 48 ao x8 false)],nx:=5,n0:=0}
noncomputable def Ni:Code:=aR Tryz.f27
noncomputable def lW (x0 x1:(List ap)) (x2 x3:Int):Option ((Bool×Unit)×Unit):=bN E vH [] Ni 104 {slots:=[.val (.slice 48 ao) x0,aa,aa,aa,aa,.val (.slice 48 ao) x1,ah x2,ah x3]++unU 34,res:=[],nx:=0,n0:=0}
noncomputable def wZ:Code:=aR Tryz.f3
noncomputable def ge (x0 x1 x2:Int) (x3 x4:(List ac)):Option ((Bool×Unit)×Unit):=bN E jY [] wZ 65488 {slots:=[aa,aa,aa,.row 0,ah x0,ah x1,aa,.row 1,aa,aa,aa,ah x2]++unU 144,res:=[(0,.row 39 ak x3 false),(1,.row 39 ak x4 false)],nx:=2,n0:=0}
noncomputable def dl (x0:Int) (x1:Z0) (x2:Int) (x3:Bool) (x4:(List Int)) (x5:(List ab)):Option ((Int×Unit)×(Z0×Int×Bool×(List ab)×Unit)×Unit):=bN E o9 [(0,.box bc (aa)),(1,.row 66 af [] false)] A1 224 {slots:=[.ptr 0 bc [],ah x0,aa,aa,aa,.row 2]++unU 24,res:=[(0,.box bc (.strct [aV x1,ah x2,dw x3,.row 3])),(2,.row 2 (.int .i64) x4 false),(3,.row 66 af x5 false)],nx:=4,n0:=2}
noncomputable def lX (x0 x1:Int) (x2:Z0) (x3:Int) (x4:Bool) (x5:(List Int)) (x6:(List ab)):Option ((Int×Unit)×(Z0×Int×Bool×(List ab)×Unit)×Unit):=bN E r6 [(0,.box bc (aa)),(1,.row 66 af [] false)] Fb 464 {slots:=[.ptr 0 bc [],ah x0,aa,aa,aa,.row 2,ah x1]++unU 27,res:=[(0,.box bc (.strct [aV x2,ah x3,dw x4,.row 3])),(2,.row 2 (.int .i64) x5 false),(3,.row 66 af x6 false)],nx:=4,n0:=2}
noncomputable def kU (x0:(List ab)) (x1 x2:Int):Option ((Bool×Unit)×Unit):=bN E o7 [] A3 59696 {slots:=[.val (.slice 66 af) x0,aa,aa,ah x1,ah x2]++unU 82,res:=[],nx:=0,n0:=0}
noncomputable def cF (x0 x1 x2 x3 x4:Int) (x5:Z0) (x6:Bool) (x7:(List ab)):Option ((Int×Unit)×(Z0×(List ab)×Bool×Unit)×Unit):=bN E kA [(0,.box bh (aa)),(1,.row 66 af [] false)] tN 29008 {slots:=[.ptr 0 bh [],ah x0,ah x1,aa,aa,aa,aa,ah x2,ah x3,ah x4]++unU 45,res:=[(0,.box bh (.strct [aV x5,.row 2,dw x6])),(2,.row 66 af x7 false)],nx:=3,n0:=2}
noncomputable def co (x0:(List ac)) (x1 x2:Int) (x3:aw):Option ((Int×Unit)×aw×Unit):=bN E fQ [(0,.box aK (aa))] mT 104 {slots:=[.val (.slice 39 ak) x0,.fn 122 [.ptr 0 aK []],aa,aa,aa,aa,aa,ah x1,ah x2]++unU 10,res:=[(0,.box aK (.val aK x3))],nx:=1,n0:=1}
noncomputable def cp (x0:(List ac)) (x1 x2:Int) (x3:eN):Option ((Int×Unit)×eN×Unit):=bN E eO [(0,.box bD (aa))] kR 104 {slots:=[.val (.slice 39 ak) x0,.fn 40 [.ptr 0 bD []],aa,aa,aa,aa,aa,ah x1,ah x2]++unU 10,res:=[(0,.box bD (.val bD x3))],nx:=1,n0:=1}
noncomputable def da (x0:(List ac)) (x1 x2:Int) (x3:eN) (x4:(List ac)):Option (((List ac)×Bool×Unit)×Unit):=bN E ye [] Lc 232 {slots:=[aa,aa,aa,.ptr 0 bD [],aa,aa,.row 1,aa,aa,aa,aa,aa,.val (.slice 39 ak) x0,ah x1,ah x2]++unU 64,res:=[(0,.box bD (.val bD x3)),(1,.row 39 ak x4 false)],nx:=2,n0:=0}
noncomputable def cx (x0:(List ac)) (x1 x2:Int) (x3:aB):Option ((Int×Unit)×aB×Unit):=bN E eP [(0,.box bC (aa))] kS 104 {slots:=[.val (.slice 39 ak) x0,.fn 79 [.ptr 0 bC []],aa,aa,aa,aa,aa,ah x1,ah x2]++unU 10,res:=[(0,.box bC (.val bC x3))],nx:=1,n0:=1}
noncomputable def mC (x0:aM) (x1 x2:Int):Option ((aM×Unit)×Unit):=ai E tA [.val br x0,ah x1,ah x2] []
noncomputable def sk (x0:ab) (x1 x2:Int):Option ((ab×Unit)×Int×Int×Unit):=ai E AC [.val af x0,.ptr 0 (.int .i64) [],.ptr 1 (.int .i64) []] [(0,.box (.int .i64) (ah x1)),(1,.box (.int .i64) (ah x2))]
noncomputable def jL (x0:(List ac)) (x1 x2 x3 x4:Int) (x5:aw) (x6:Z0) (x7:aB) (x8 x9:Int) (x10:(List ac)):Option (((List ac)×Bool×Unit)×Unit):=bN E uJ [] Ig 16336 {slots:=[.val (.slice 39 ak) x0,aa,aa,.ptr 0 bD [],aa,aa,ah x1,ah x2,aa,.row 1,aa,ah x3]++unU 131,res:=[(0,.box bD (.strct [ah x4,.val aK x5,aV x6,.val bC x7,ah x8,ah x9])),(1,.row 39 ak x10 false)],nx:=2,n0:=0}
noncomputable def ca (x0:(List aB)) (x1 x2:Int) (x3:aw):Option ((Int×Unit)×aw×Unit):=bN E fR [(0,.box aK (aa))] mU 104 {slots:=[.val (.slice 29 bC) x0,.fn 140 [.ptr 0 aK []],aa,aa,aa,aa,aa,ah x1,ah x2]++unU 10,res:=[(0,.box aK (.val aK x3))],nx:=1,n0:=1}
noncomputable def lY (x0 x1:(List ac)) (x2 x3:Int) (x4:(List ac)) (x5 x6:Int) (x7:(List ac)) (x8:(List ab)) (x9:(List aB)) (x10:(List Int)) (x11:(List ac)) (x12:(List (List ab))) (x13:(List (List Int))) (x14:(List (List ab))) (x15:(List (List Int))):Option ((((List ac)×(List (List ab))×(List (List Int))×Unit)×Unit)×Unit):=bN E qJ [] CZ 478440 {slots:=[.val (.slice 39 ak) x0,aa,.ptr 0 bQ [],.ptr 1 bQ [],aa,aa,.row 2,aa,.row 3,.row 4,aa,aa,aa,aa,.val (.slice 39 ak) x1,ah x2,ah x3,aa,aa,aa,aa,aa,aa,aa,aa,aa,aa,aa,aa,.val (.slice 39 ak) x4,ah x5,ah x6]++unU 27,res:=[(0,.box bQ (.strct [.row 5,.row 6,.row 7])),(1,.box bQ (.strct [.val (.slice 39 ak) x7,.row 8,.row 9])),(2,.row 66 af x8 false),(3,.row 29 bC x9 false),(4,.row 3 (.int .i64) x10 false),(5,.row 39 ak x11 false),(6,.row 35 (.slice 66 af) x12 false),(7,.row 122 (.slice 3 (.int .i64)) x13 false),(8,.row 35 (.slice 66 af) x14 false),(9,.row 122 (.slice 3 (.int .i64)) x15 false)],nx:=10,n0:=0}
noncomputable def bT (x0:Int) (x1:(List Int)) (x2 x3:Int) (x4:lN) (x5:(List Bool)) (x6:(List ap)):Option (Unit×(List Bool)×lN×(List ap)×Unit):=bN E fH [(0,.box (.slice 4 .bool) (aa)),(1,.box bQ (aa)),(2,.box (.slice 48 ao) (aa)),(3,.keepF 106 []),(4,.row 4 .bool [] false),(5,.row 48 ao [] false)] m6 7656 {slots:=[ah x0,aa,.ptr 1 bQ [],.ptr 2 (.slice 48 ao) [],.ptr 3 .fn [],aa,aa,aa,aa,aa,aa,aa,aa,aa,aa,aa,aa,aa,aa,.val (.slice 3 (.int .i64)) x1,ah x2,ah x3]++unU 49,res:=[(0,.box (.slice 4 .bool) (.row 6)),(1,.box bQ (.val bQ x4)),(2,.box (.slice 48 ao) (.row 7)),(3,.keepF 106 [.ptr 0 (.slice 4 .bool) [],.ptr 1 bQ [],.ptr 2 (.slice 48 ao) [],.ptr 3 .fn []]),(6,.row 4 .bool x5 false),(7,.row 48 ao x6 false)],nx:=8,n0:=6}
noncomputable def iY (x0:(List ab)) (x1:(List ap)) (x2:Int) (x3:(List Int)) (x4 x5:Int) (x6:(List ap)) (x7 x8:Int) (x9:(List ae)):Option (((List ae)×Unit)×Unit):=bN E qK [] C0 119608 {slots:=[.val (.slice 66 af) x0,aa,.val (.slice 48 ao) x1,aa,aa,aa,aa,.row 0,aa,ah x2,aa,aa,aa,aa,.val (.slice 2 (.int .i64)) x3,ah x4,ah x5,aa,aa,aa,aa,aa,aa,aa,aa,aa,aa,aa,aa,aa,aa,aa,aa,.val (.slice 48 ao) x6,ah x7,ah x8]++unU 19,res:=[(0,.row 46 aq x9 false)],nx:=1,n0:=0}
noncomputable def jU (x0 x1:Int) (x2:(List ap)) (x3:(List ac)) (x4:(List (List ab))) (x5:(List (List Int))) (x6:(List Bool)):Option (((List ap)×Unit)×Unit):=bN E jr [] pm 2024 {slots:=[aa,aa,aa,aa,aa,aa,aa,aa,.ptr 0 (.slice 48 ao) [],aa,aa,.ptr 1 .fn [],aa,aa,aa,aa,aa,aa,aa,aa,aa,aa,aa,aa,aa,aa,aa,aa,aa,aa,aa,aa,aa,aa,aa,aa,aa,aa,aa,aa,ah x0,ah x1]++unU 7,res:=[(0,.box (.slice 48 ao) (.row 2)),(1,.keepF 106 [.ptr 3 (.slice 4 .bool) [],.ptr 4 bQ [],.ptr 0 (.slice 48 ao) [],.ptr 1 .fn []]),(2,.row 48 ao x2 false),(3,.box (.slice 4 .bool) (.row 5)),(4,.box bQ (.strct [.val (.slice 39 ak) x3,.val (.slice 35 (.slice 66 af)) x4,.val (.slice 122 (.slice 3 (.int .i64))) x5])),(5,.row 4 .bool x6 false)],nx:=6,n0:=0}
noncomputable def iZ (x0 x1 x2:Int) (x3 x4:(List ap)):Option ((Bool×Unit)×Unit):=bN E jY [] wZ 524240 {slots:=[aa,aa,aa,aa,ah x0,ah x1,aa,aa,aa,aa,aa,aa,aa,aa,aa,aa,.row 0,.row 1,ah x2]++unU 137,res:=[(0,.row 48 ao x3 false),(1,.row 48 ao x4 false)],nx:=2,n0:=0}
noncomputable def gG (x0 x1:Int) (x2:(List ap)) (x3:lN) (x4:(List Bool)):Option (((List ap)×Unit)×Unit):=bN E jr [] pm 2024 {slots:=[aa,aa,aa,aa,aa,aa,aa,aa,.ptr 0 (.slice 48 ao) [],aa,aa,.ptr 1 .fn [],aa,aa,aa,aa,aa,aa,aa,aa,aa,aa,aa,aa,aa,aa,aa,aa,aa,aa,aa,aa,aa,aa,aa,aa,aa,aa,aa,aa,ah x0,ah x1]++unU 7,res:=[(0,.box (.slice 48 ao) (.row 2)),(1,.keepF 106 [.ptr 3 (.slice 4 .bool) [],.ptr 4 bQ [],.ptr 0 (.slice 48 ao) [],.ptr 1 .fn []]),(2,.row 48 ao x2 false),(3,.box (.slice 4 .bool) (.row 5)),(4,.box bQ (.val bQ x3)),(5,.row 4 .bool x4 false)],nx:=6,n0:=0}
end Go.Proofs.YtipnjpfdlolhmaaGreatDoor.Abs
