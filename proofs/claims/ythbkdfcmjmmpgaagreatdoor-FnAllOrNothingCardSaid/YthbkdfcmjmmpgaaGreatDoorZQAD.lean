/- What the functions are, as the reader reads them. Printed by out.py. -/
import Derived.Test.YthbkdfcmjmmpgaaGreatDoorZA3
import Derived.Test.YthbkdfcmjmmpgaaGreatDoorProg
set_option linter.unusedVariables false
set_option linter.unusedSimpArgs false
set_option maxRecDepth 100000
open _root_ renaming ByteArray→aa_
namespace Go.Proofs.YthbkdfcmjmmpgaaGreatDoor.Abs
open Go Go.Proofs.YthbkdfcmjmmpgaaGreatDoor
abbrev Xo:TypeId:=9
abbrev ak:Ty := .agg (.pair (.int .i64) (.pair (.int .i64) .unit))
abbrev ah:=Int×Int×Unit
abbrev av:Ty := .agg (.pair ak (.pair .str .unit))
abbrev ae:=ah×aa_×Unit
abbrev aW:Ty := .agg (.pair (.int .i64) (.pair ak (.pair .str (.pair (.int .i64) .unit))))
abbrev aZ:=Int×ah×aa_×Int×Unit
abbrev ay:Ty := .agg (.pair ak (.pair ak .unit))
abbrev am:=ah×ah×Unit
abbrev mP:Ty := .agg (.pair ak (.pair .str (.pair .str .unit)))
abbrev db:=ah×aa_×aa_×Unit
abbrev cj:Ty := .agg (.pair (.slice 61 av) (.pair (.slice 49 ay) (.pair (.slice 39 ak) .unit)))
abbrev bd:Ty := .agg (.pair (.slice 61 av) (.pair (.int .i64) (.pair (.int .i64) (.pair (.int .i64) (.pair (.slice 49 ay) (.pair (.slice 39 ak) .unit))))))
abbrev eB:=(List ae)×Int×Int×Int×(List am)×(List ah)×Unit
abbrev aE:Ty := .agg (.pair (.slice 5 (.int .u8)) (.pair (.int .i64) .unit))
abbrev aJ:=(List Int)×Int×Unit
abbrev aq:Ty := .agg (.pair (.int .i64) (.pair (.int .i64) (.pair .str .unit)))
abbrev ac:=Int×Int×aa_×Unit
abbrev bR:Ty := .agg (.pair ak (.pair .bool (.pair .bool .unit)))
abbrev cl:=ah×Bool×Bool×Unit
abbrev au:Ty := .agg (.pair (.int .i64) (.pair (.int .i64) (.pair aq (.pair bR (.pair bR (.pair (.slice 2 (.int .i64)) .unit))))))
abbrev ab:=Int×Int×ac×cl×cl×(List Int)×Unit
abbrev aw:Ty := .agg (.pair ak (.pair aq .unit))
abbrev aj:=ah×ac×Unit
abbrev bz:Ty := .agg (.pair .str (.pair (.slice 182 au) (.pair .bool .unit)))
abbrev q8:=aa_×(List ab)×Bool×Unit
abbrev bU:Ty := .agg (.pair (.slice 61 av) (.pair (.slice 108 (.slice 182 au)) (.pair (.slice 135 (.slice 3 (.int .i64))) .unit)))
abbrev md:=(List ae)×(List (List ab))×(List (List Int))×Unit
abbrev bm:Ty := .agg (.pair .str (.pair (.int .i64) (.pair .bool (.pair (.slice 182 au) .unit))))
abbrev lz:=aa_×Int×Bool×(List ab)×Unit
noncomputable def jY:ax:=ao 3 Tryz.f3 (.pair (.val .bool) .unit) .unit [] [(13,[3,4,5,6,8,13,14,15])]
noncomputable def U1:ax:=ao 5 Tryz.f5 (.pair (.val .bool) .unit) .unit [] []
noncomputable def vV:ax:=ao 6 Tryz.f6 (.pair (.row 61 av false) (.pair (.val (.slice 83 aW)) (.pair (.val (.int .i64)) .unit))) .unit [] []
noncomputable def D2:ax:=ao 7 Tryz.f7 (.pair (.row 61 av false) (.pair (.val (.int .i64)) (.pair (.val (.int .i64)) .unit))) .unit [] []
noncomputable def D3:ax:=ao 8 Tryz.f8 (.pair (.val (.slice 61 av)) (.pair (.val (.int .i64)) (.pair (.val (.int .i64)) .unit))) .unit [] []
noncomputable def uD:ax:=ao 9 Tryz.f9 (.pair (.val .bool) .unit) .unit [] [(4,[0,1,5])]
noncomputable def JS:ax:=ao 10 Tryz.f10 (.pair (.row 49 ay false) (.pair (.row 39 ak false) .unit)) .unit [] []
noncomputable def JT:ax:=ao 11 Tryz.f11 (.pair (.row 41 mP false) .unit) .unit [] []
noncomputable def BQ:ax:=ao 12 Tryz.f12 (.pair (.val .bool) .unit) .unit [] [(2,[0,3,5])]
noncomputable def zB:ax:=ao 13 Tryz.f13 (.pair (.val .bool) .unit) .unit [] [(2,[0,5,6,7])]
noncomputable def JU:ax:=ao 21 Tryz.f21 (.pair (.ptr aE) .unit) .unit [] []
noncomputable def sW:ax:=ao 22 Tryz.f22 (.pair (.row 61 av false) .unit) (.pair (.val aE) .unit) [] [(3,[0,5,6])]
noncomputable def og:ax:=ao 23 Tryz.f23 (.pair (.val (.slice 83 aW)) .unit) (.pair (.val aE) .unit) [] [(5,[0,3,4])]
noncomputable def BR:ax:=ao 24 Tryz.f24 (.pair (.val (.int .i64)) .unit) (.pair (.val aE) .unit) [] []
noncomputable def Gm:ax:=ao 25 Tryz.f25 (.pair (.val (.int .i64)) .unit) .unit [] []
noncomputable def eC:ax:={g:=26,fn:=Tryz.f26,sh:=(.pair (.row 61 av false) .unit),bx := .unit,own:=[],live:=[],prim:=some (cP 61 av 32)}
noncomputable def mQ:ax:=ao 27 Tryz.f27 (.pair (.val (.int .i64)) (.pair (.val (.int .i64)) .unit)) (.pair (.strct (.pair (.row 61 av false) (.pair (.row 49 ay false) (.pair (.row 39 ak false) .unit)))) .unit) [] [(3,[0,1,2,8,9])]
noncomputable def MK:ax:=ao 28 Tryz.f28 (.pair (.val (.int .i64)) .unit) .unit [] []
noncomputable def vW:ax:=ao 29 Tryz.f29 (.pair (.val bd) .unit) .unit [] [(2,[1,2,6,7])]
noncomputable def Ib:ax:=ao 30 Tryz.f30 (.pair (.row 41 mP false) .unit) .unit [] [(3,[0,1,5,14,15,16])]
noncomputable def ML:ax:=ao 31 Tryz.f31 (.pair (.val .bool) .unit) .unit [] []
noncomputable def xV:ax:=ao 32 Tryz.f32 (.pair (.val (.int .i64)) .unit) .unit [] []
noncomputable def D4:ax:=ao 33 Tryz.f33 (.pair (.val .bool) .unit) .unit [] []
noncomputable def D5:ax:=ao 34 Tryz.f34 (.pair (.val ak) .unit) (.pair (.val aE) .unit) [] []
noncomputable def BS:ax:=ao 35 Tryz.f35 (.pair (.val .bool) .unit) (.pair (.val aE) .unit) [] []
noncomputable def D6:ax:=ao 36 Tryz.f36 (.pair (.val (.int .i64)) .unit) (.pair (.val aE) .unit) [] []
noncomputable def AZ:ax:=ao 37 Tryz.f37 (.pair (.val .str) .unit) (.pair (.val aE) .unit) [] []
noncomputable def Gn:ax:=ao 38 Tryz.f38 (.pair (.val .str) (.pair (.val .bool) .unit)) .unit [] []
noncomputable def Gr:ax:=ao 39 Tryz.f39 (.pair (.row 61 av false) .unit) .unit [] []
noncomputable def w8:ax:=ao 40 Tryz.f40 (.pair (.val .str) .unit) .unit [] [(2,[3,7,8,9])]
noncomputable def sX:ax:=ao 41 Tryz.f41 (.pair (.val (.int .i64)) .unit) (.pair (.val aE) .unit) [] []
noncomputable def MM:ax:=ao 42 Tryz.f42 (.pair (.row 61 av false) (.pair (.val .bool) .unit)) .unit [] []
noncomputable def E1:ax:=ao 43 Tryz.f43 (.pair (.val .str) .unit) .unit [] [(4,[0,3])]
noncomputable def BT:ax:=ao 44 Tryz.f44 (.pair (.val aW) .unit) (.pair (.val aE) .unit) [] []
noncomputable def zC:ax:=ao 45 Tryz.f45 (.pair (.val .bool) .unit) .unit [] [(4,[0,3])]
noncomputable def zD:ax:=ao 46 Tryz.f46 (.pair (.val .bool) .unit) .unit [] [(2,[0,5,6,7])]
noncomputable def JV:ax:=ao 47 Tryz.f47 (.pair (.val .bool) .unit) .unit [] []
noncomputable def vX:ax:=ao 48 Tryz.f48 (.pair (.val aq) .unit) (.pair (.strct (.pair (.row 61 av false) (.pair (.row 49 ay false) (.pair (.row 39 ak false) .unit)))) .unit) [] []
noncomputable def Gs:ax:=ao 49 Tryz.f49 (.pair (.val .bool) (.pair (.val .bool) .unit)) .unit [] []
noncomputable def BU:ax:=ao 50 Tryz.f50 (.pair (.val .str) .unit) .unit [] []
noncomputable def BV:ax:=ao 51 Tryz.f51 (.pair (.val .str) .unit) .unit [] []
noncomputable def xW:ax:=ao 52 Tryz.f52 (.pair (.val .bool) .unit) (.pair (.strct (.pair (.row 61 av false) (.pair (.row 49 ay false) (.pair (.row 39 ak false) .unit)))) .unit) [] []
noncomputable def zE:ax:=ao 53 Tryz.f53 (.pair (.val .bool) .unit) .unit [] [(4,[0,3])]
noncomputable def QW:ax:=ao 54 Tryz.f54 (.pair (.val .bool) .unit) .unit [] []
noncomputable def JW:ax:=ao 55 Tryz.f55 (.pair (.val bd) .unit) .unit [] []
noncomputable def eL:ax:=ao 56 Tryz.f56 (.pair (.val bd) .unit) .unit [] [(3,[2,4,5,6]),(7,[2,4,5,6,7,8]),(13,[2,4,5,6,9]),(18,[2,4,5,6,9,10,11]),(22,[2,4,5,6,9,10,11,12,13])]
noncomputable def D7:ax:=ao 57 Tryz.f57 (.pair (.val aq) .unit) .unit [] []
noncomputable def JX:ax:=ao 58 Tryz.f58 (.pair (.val .bool) (.pair (.val aq) .unit)) .unit [] []
noncomputable def BW:ax:=ao 59 Tryz.f59 (.pair (.val .str) .unit) .unit [] []
noncomputable def JY:ax:=ao 60 Tryz.f60 (.pair (.val .str) .unit) .unit [] []
noncomputable def vY:ax:=ao 61 Tryz.f61 (.pair (.row 39 ak false) .unit) .unit [] [(3,[3,9,10,11]),(6,[3,9,10,11,15,16,17])]
noncomputable def uE:ax:=ao 62 Tryz.f62 (.pair (.val (.int .i64)) .unit) .unit [] [(3,[3,6,7,8])]
noncomputable def qF:ax:=ao 63 Tryz.f63 (.pair (.val (.int .i64)) .unit) .unit [] []
noncomputable def BX:ax:=ao 64 Tryz.f64 (.pair (.val (.int .i64)) .unit) (.pair (.val aE) .unit) [] []
noncomputable def A0:ax:=ao 65 Tryz.f65 (.pair (.val .str) .unit) (.pair (.val aE) .unit) [] []
noncomputable def BZ:ax:=ao 66 Tryz.f66 (.pair (.val .bool) .unit) .unit [] [(2,[0,1,7,8])]
noncomputable def qG:ax:=ao 67 Tryz.f67 (.pair (.val .str) (.pair (.val .bool) .unit)) .unit [] []
noncomputable def xX:ax:=ao 68 Tryz.f68 (.pair (.row 182 au false) (.pair (.val .bool) .unit)) .unit [] []
noncomputable def D8:ax:=ao 69 Tryz.f69 (.pair (.val .str) (.pair (.val .bool) .unit)) .unit [] []
noncomputable def jw:ax:={g:=70,fn:=Tryz.f70,sh:=(.pair (.val (.int .i64)) (.pair (.val .err) .unit)),bx := .unit,own:=[],live:=[],prim:=some (pX)}
noncomputable def D9:ax:=ao 71 Tryz.f71 (.pair (.val .bool) .unit) .unit [] []
noncomputable def Gt:ax:=ao 72 Tryz.f72 (.pair (.val .bool) .unit) .unit [] []
noncomputable def JZ:ax:=ao 73 Tryz.f73 (.pair (.val aq) .unit) .unit [] []
noncomputable def Gu:ax:=ao 74 Tryz.f74 (.pair (.val .str) .unit) .unit [] []
noncomputable def uF:ax:=ao 75 Tryz.f75 (.pair (.val aq) (.pair (.val .bool) .unit)) .unit [] [(9,[0,2,4,7])]
noncomputable def iJ:ax:=ao 76 Tryz.f76 (.pair (.row 61 av false) .unit) (.pair (.val ak) .unit) [true,false] [(5,[0,1,5,6])]
noncomputable def uG:ax:=ao 77 Tryz.f77 (.pair (.val .bool) .unit) (.pair (.val ak) .unit) [] []
noncomputable def jL:ax:={g:=78,fn:=Tryz.f78,sh := .unit,bx:=(.pair (.row 61 av false) .unit),own:=[true,false],live:=[],rb:=true,prim:=some (gX 61 av 79 fun a b=>decide (a.1.2.1 < b.1.2.1) || (decide (a.1.2.1=b.1.2.1) && decide (a.1.1 < b.1.1)))}
noncomputable def uH:ax:=ao 80 Tryz.f80 (.pair (.val (.int .i64)) .unit) (.pair (.val aE) .unit) [] []
noncomputable def Gv:ax:=ao 81 Tryz.f81 (.pair (.val .str) (.pair (.val .bool) .unit)) .unit [] []
noncomputable def MN:ax:=ao 82 Tryz.f82 (.pair (.val .bool) .unit) .unit [] []
noncomputable def E2:ax:=ao 83 Tryz.f83 (.pair (.row 61 av false) .unit) .unit [] [(4,[0,2,4,7,8,9])]
noncomputable def B0:ax:=ao 84 Tryz.f84 (.pair (.val .str) .unit) (.pair (.val aE) .unit) [] []
noncomputable def A1:ax:=ao 85 Tryz.f85 (.pair (.val .bool) .unit) .unit [] []
noncomputable def xY:ax:=ao 86 Tryz.f86 (.pair (.val .bool) .unit) .unit [] []
noncomputable def gM:ax:=ao 87 Tryz.f87 .unit (.pair (.strct (.pair (.row 61 av false) (.pair (.row 49 ay false) (.pair (.row 39 ak false) .unit)))) .unit) [] [(4,[0,4,5,6]),(7,[0,4,5,6,28,29,30]),(14,[0,52,53,54])]
noncomputable def QX:ax:=ao 88 Tryz.f88 (.pair (.val aq) .unit) .unit [] []
noncomputable def xZ:ax:=ao 89 Tryz.f89 (.pair (.row 221 aw false) .unit) .unit [] []
noncomputable def B1:ax:=ao 90 Tryz.f90 (.pair (.val .str) .unit) .unit [] []
noncomputable def pj:ax:=ao 91 Tryz.f91 (.pair (.val .bool) .unit) .unit [] []
noncomputable def Gw:ax:=ao 92 Tryz.f92 (.pair (.val .bool) .unit) .unit [] []
noncomputable def E3:ax:=ao 93 Tryz.f93 (.pair (.val .bool) .unit) .unit [] [(2,[0,3,5])]
noncomputable def Gx:ax:=ao 94 Tryz.f94 (.pair (.row 49 ay false) .unit) .unit [] []
noncomputable def Ea:ax:=ao 95 Tryz.f95 (.pair (.val .bool) .unit) .unit [] []
noncomputable def ya:ax:=ao 96 Tryz.f96 (.pair (.row 182 au false) (.pair (.val .bool) .unit)) .unit [] []
noncomputable def QY:ax:=ao 97 Tryz.f97 (.pair (.val aq) .unit) .unit [] []
noncomputable def E4:ax:=ao 98 Tryz.f98 (.pair (.row 221 aw false) .unit) .unit [] [(3,[0,3,4])]
noncomputable def Gy:ax:=ao 99 Tryz.f99 (.pair (.val aq) .unit) .unit [] []
noncomputable def Gz:ax:=ao 100 Tryz.f100 (.pair (.val .bool) .unit) .unit [] []
noncomputable def J0:ax:=ao 101 Tryz.f101 (.pair (.val .str) .unit) .unit [] []
noncomputable def dI:ax:={g:=102,fn:=Tryz.f102,sh := .unit,bx:=(.pair (.row 39 ak false) .unit),own:=[true,false],live:=[],rb:=true,prim:=some (gX 39 ak 32 fun a b=>decide (a.2.1 < b.2.1) || (decide (a.2.1=b.2.1) && decide (a.1 < b.1)))}
noncomputable def ic:ax:=ao 103 Tryz.f103 (.pair (.row 39 ak false) .unit) .unit [true] [(4,[0,3]),(9,[0,3,4,5])]
noncomputable def tg:ax:=ao 104 Tryz.f104 (.pair (.val .bool) .unit) .unit [] []
noncomputable def uI:ax:=ao 105 Tryz.f105 (.pair (.val (.int .u64)) .unit) (.pair (.val aE) .unit) [] [(3,[0,3,4])]
noncomputable def B2:ax:=ao 106 Tryz.f106 (.pair (.val .str) .unit) .unit [] []
noncomputable def B3:ax:=ao 107 Tryz.f107 (.pair (.val ay) .unit) (.pair (.val aE) .unit) [] []
noncomputable def J1:ax:=ao 108 Tryz.f108 (.pair (.val .str) .unit) .unit [] []
noncomputable def nk:ax:=ao 109 Tryz.f109 (.pair (.val .str) (.pair (.val .bool) .unit)) .unit [] []
noncomputable def kM:ax:=ao 110 Tryz.f110 (.pair (.val (.int .i64)) .unit) (.pair (.strct (.pair (.val .str) (.pair (.row 182 au false) (.pair (.val .bool) .unit)))) .unit) [] [(2,[0,1,2,7]),(5,[0,1,2,7,8,9])]
noncomputable def uJ:ax:=ao 111 Tryz.f111 .unit (.pair (.strct (.pair (.val .str) (.pair (.row 182 au false) (.pair (.val .bool) .unit)))) .unit) [] []
noncomputable def B4:ax:=ao 112 Tryz.f112 (.pair (.val .bool) .unit) .unit [] []
noncomputable def yb:ax:=ao 113 Tryz.f113 (.pair (.val .str) .unit) .unit [] []
noncomputable def pZ:ax:=ao 116 Tryz.f116 (.pair (.val .str) .unit) .unit [] []
noncomputable def mR:ax:={g:=117,fn:=Tryz.f117,sh:=(.pair (.val .str) .unit),bx := .unit,own:=[],live:=[],prim:=some (zz)}
noncomputable def jd:ax:={g:=118,fn:=Tryz.f118,sh:=(.pair (.val .str) .unit),bx := .unit,own:=[],live:=[],prim:=some (Dt)}
noncomputable def MO:ax:=ao 119 Tryz.f119 (.pair (.val aq) .unit) .unit [] []
noncomputable def qH:ax:=ao 120 Tryz.f120 (.pair (.val .bool) .unit) .unit [] []
noncomputable def MP:ax:=ao 121 Tryz.f121 (.pair (.val aq) .unit) .unit [] []
noncomputable def fJ:ax:=ao 122 Tryz.f122 (.pair (.val (.int .i64)) .unit) (.pair (.val ak) .unit) [] [(2,[0,1,7,8])]
noncomputable def zF:ax:=ao 125 Tryz.f125 (.pair (.val .bool) .unit) .unit [] [(2,[0,3])]
noncomputable def yc:ax:=ao 126 Tryz.f126 (.pair (.val .str) .unit) .unit [] []
noncomputable def w9:ax:=ao 127 Tryz.f127 (.pair (.val aq) (.pair (.val .bool) .unit)) .unit [] [(6,[0,2,4])]
noncomputable def p3:ax:=ao 128 Tryz.f128 (.pair (.val aq) (.pair (.val .bool) .unit)) .unit [] [(23,[0,2,4,5]),(27,[2,4])]
noncomputable def B5:ax:=ao 129 Tryz.f129 (.pair (.val .bool) .unit) .unit [] []
noncomputable def jZ:ax:=ao 130 Tryz.f130 .unit (.pair (.row 49 ay false) .unit) [] [(1,[1,5,6,7])]
noncomputable def nM:ax:=ao 131 Tryz.f131 (.pair (.val .bool) .unit) .unit [] []
noncomputable def zG:ax:=ao 132 Tryz.f132 (.pair (.row 49 ay false) .unit) .unit [] [(3,[3,7,8,9])]
noncomputable def Eb:ax:=ao 133 Tryz.f133 (.pair (.val .bool) .unit) .unit [] []
noncomputable def B6:ax:=ao 134 Tryz.f134 (.pair (.row 182 au false) (.pair (.val .bool) .unit)) .unit [] []
noncomputable def QZ:ax:=ao 135 Tryz.f135 (.pair (.val aq) .unit) .unit [] []
noncomputable def rR:ax:=ao 136 Tryz.f136 (.pair (.strct (.pair (.val (.slice 61 av)) (.pair (.row 108 (.slice 182 au) false) (.pair (.row 135 (.slice 3 (.int .i64)) false) .unit)))) .unit) .unit [] [(3,[0,2,3,14,15,16]),(8,[0,2,3,6,8,9,14,15,16,29,30,31])]
noncomputable def jx:ax:=ao 137 Tryz.f137 (.pair (.row 221 aw false) .unit) .unit [] [(3,[2,3,7,8,20,21,22]),(10,[8,11,40,41])]
noncomputable def me:ax:=ao 138 Tryz.f138 (.pair (.val (.int .i64)) .unit) .unit [] [(2,[0,3,7,8])]
noncomputable def B7:ax:=ao 139 Tryz.f139 (.pair (.row 182 au false) (.pair (.val .bool) .unit)) .unit [] []
noncomputable def zH:ax:=ao 140 Tryz.f140 (.pair (.row 49 ay false) .unit) .unit [] [(5,[0,3,4])]
noncomputable def xa:ax:=ao 141 Tryz.f141 (.pair (.val (.int .i64)) .unit) (.pair (.strct (.pair (.val .str) (.pair (.val (.int .i64)) (.pair (.val .bool) (.pair (.row 182 au false) .unit))))) .unit) [] [(6,[0,1,5])]
noncomputable def q9:ax:=ao 142 Tryz.f142 .unit (.pair (.strct (.pair (.val .str) (.pair (.val (.int .i64)) (.pair (.val .bool) (.pair (.row 182 au false) .unit))))) .unit) [] [(0,[0])]
noncomputable def p4:ax:=ao 143 Tryz.f143 (.pair (.val .bool) .unit) .unit [] [(4,[0,3]),(9,[0,3,4])]
noncomputable def xb:ax:=ao 144 Tryz.f144 (.pair (.val .bool) .unit) .unit [] [(4,[0,3])]
noncomputable def J2:ax:=ao 145 Tryz.f145 (.pair (.val aq) .unit) .unit [] []
noncomputable def MQ:ax:=ao 146 Tryz.f146 (.pair (.val aq) .unit) .unit [] []
noncomputable def kB:ax:=ao 147 Tryz.f147 (.pair (.row 221 aw false) .unit) .unit [] [(4,[0,1,2,7,8,9]),(9,[0,7,8]),(12,[0,7,8,10,11]),(23,[0,7,8,10,11,13,15,17,18,19])]
noncomputable def zI:ax:=ao 149 Tryz.f149 (.pair (.val .str) .unit) .unit [] [(4,[0,3])]
noncomputable def nl:ax:=ao 150 Tryz.f150 (.pair (.val .bool) .unit) .unit [] []
noncomputable def vZ:ax:=ao 151 Tryz.f151 (.pair (.val (.int .i64)) .unit) (.pair (.strct (.pair (.val .str) (.pair (.row 182 au false) (.pair (.val .bool) .unit)))) .unit) [] []
noncomputable def ra:ax:=ao 152 Tryz.f152 (.pair (.val .str) .unit) (.pair (.strct (.pair (.val .str) (.pair (.row 182 au false) (.pair (.val .bool) .unit)))) .unit) [] [(3,[0,7,8,9])]
noncomputable def J3:ax:=ao 153 Tryz.f153 (.pair (.val .str) .unit) .unit [] []
noncomputable def MR:ax:=ao 154 Tryz.f154 (.pair (.val (.int .i64)) .unit) .unit [] []
noncomputable def ye:ax:=ao 155 Tryz.f155 (.pair (.val .bool) .unit) (.pair (.strct (.pair (.val .str) (.pair (.row 182 au false) (.pair (.val .bool) .unit)))) .unit) [] []
noncomputable def A2:ax:=ao 156 Tryz.f156 (.pair (.val (.int .i64)) .unit) (.pair (.strct (.pair (.val .str) (.pair (.row 182 au false) (.pair (.val .bool) .unit)))) .unit) [] []
noncomputable def jy:ax:={g:=157,fn:=Tryz.f157,sh:=(.pair (.val .str) .unit),bx := .unit,own:=[],live:=[],prim:=some (pW)}
noncomputable def Ic:ax:=ao 158 Tryz.f158 (.pair (.val (.int .i64)) .unit) .unit [] [(5,[0,1,2,7,8])]
noncomputable def rd:ax:=ao 159 Tryz.f159 (.pair (.val .str) .unit) .unit [] [(21,[0,7,10,92,93,94])]
noncomputable def mf:ax:=ao 165 Tryz.f165 (.pair (.val .str) .unit) .unit [] []
noncomputable def B8:ax:=ao 184 Tryz.f184 (.pair (.val .str) .unit) .unit [] [(21,[0,7,10,11])]
noncomputable def E5:ax:=ao 185 Tryz.f185 (.pair (.val (.int .i64)) (.pair (.val .bool) .unit)) .unit [] [(5,[0,6,7])]
noncomputable def lI:ax:=ao 186 Tryz.f186 (.pair (.val (.int .i64)) .unit) .unit [] [(2,[0,3,7,8])]
noncomputable def A3:ax:=ao 187 Tryz.f187 (.pair (.val ay) .unit) .unit [] []
noncomputable def B9:ax:=ao 188 Tryz.f188 (.pair (.val aq) .unit) .unit [] [(2,[3,4,7,8,9])]
noncomputable def GA:ax:=ao 189 Tryz.f189 (.pair (.val aq) .unit) .unit [] []
noncomputable def J4:ax:=ao 190 Tryz.f190 (.pair (.val aq) .unit) .unit [] []
noncomputable def U2:ax:=ao 191 Tryz.f191 (.pair (.val aq) .unit) .unit [] []
noncomputable def Q0:ax:=ao 192 Tryz.f192 (.pair (.val aq) .unit) .unit [] []
noncomputable def MS:ax:=ao 193 Tryz.f193 (.pair (.val aq) .unit) .unit [] []
noncomputable def Q1:ax:=ao 194 Tryz.f194 (.pair (.val aq) .unit) .unit [] []
noncomputable def J5:ax:=ao 195 Tryz.f195 (.pair (.val aq) .unit) .unit [] []
noncomputable def Q2:ax:=ao 196 Tryz.f196 (.pair (.val aq) .unit) .unit [] []
noncomputable def Q3:ax:=ao 197 Tryz.f197 (.pair (.val .bool) .unit) .unit [] []
noncomputable def gY:ax:={g:=198,fn:=Tryz.f198,sh:=(.pair (.row 4 .bool false) .unit),bx := .unit,own:=[],live:=[],prim:=some (cP 4 .bool 1)}
noncomputable def fz:ax:=ao 199 Tryz.f199 .unit (.pair (.row 4 .bool false) (.pair (.val bU) (.pair (.row 221 aw false) .unit))) [] [(3,[0,2,3,4,19,20,21])]
noncomputable def p5:ax:=ao 200 Tryz.f200 (.pair (.val .bool) .unit) .unit [] [(4,[1,2,5,6,7])]
noncomputable def rS:ax:=ao 201 Tryz.f201 (.pair (.val (.int .i64)) .unit) (.pair (.strct (.pair (.val .str) (.pair (.val (.int .i64)) (.pair (.val .bool) (.pair (.row 182 au false) .unit))))) .unit) [] [(13,[0,5]),(23,[0,7,8])]
noncomputable def tw:ax:=ao 202 Tryz.f202 (.pair (.val (.int .i64)) .unit) (.pair (.strct (.pair (.val .str) (.pair (.val (.int .i64)) (.pair (.val .bool) (.pair (.row 182 au false) .unit))))) .unit) [] [(3,[0,1,5,6])]
noncomputable def Ec:ax:=ao 203 Tryz.f203 (.pair (.val (.int .i64)) .unit) (.pair (.strct (.pair (.val .str) (.pair (.val (.int .i64)) (.pair (.val .bool) (.pair (.row 182 au false) .unit))))) .unit) [] []
noncomputable def Ed:ax:=ao 204 Tryz.f204 (.pair (.val .bool) .unit) .unit [] []
noncomputable def Ca:ax:=ao 205 Tryz.f205 (.pair (.val (.int .i64)) .unit) .unit [] [(3,[0,1,5,6])]
noncomputable def Cb:ax:=ao 206 Tryz.f206 (.pair (.val (.int .i64)) .unit) .unit [] [(3,[0,1,5,6])]
noncomputable def Ie:ax:=ao 207 Tryz.f207 (.pair (.val aq) .unit) .unit [] [(2,[0,3,4,5])]
noncomputable def GB:ax:=ao 208 Tryz.f208 (.pair (.val aq) .unit) .unit [] []
noncomputable def J6:ax:=ao 209 Tryz.f209 (.pair (.val aq) .unit) .unit [] []
noncomputable def U3:ax:=ao 210 Tryz.f210 (.pair (.val aq) .unit) .unit [] []
noncomputable def Q4:ax:=ao 211 Tryz.f211 (.pair (.val aq) .unit) .unit [] []
noncomputable def MT:ax:=ao 212 Tryz.f212 (.pair (.val aq) .unit) .unit [] []
noncomputable def Q5:ax:=ao 213 Tryz.f213 (.pair (.val aq) .unit) .unit [] []
noncomputable def J7:ax:=ao 214 Tryz.f214 (.pair (.val aq) .unit) .unit [] []
noncomputable def Q6:ax:=ao 215 Tryz.f215 (.pair (.val aq) .unit) .unit [] []
noncomputable def Ig:ax:=ao 216 Tryz.f216 (.pair (.val .str) .unit) .unit [] [(2,[0,3,5])]
noncomputable def rT:ax:=ao 217 Tryz.f217 (.pair (.val .bool) .unit) .unit [] [(3,[0,3,5,6]),(9,[0,3,5,6,7,8])]
noncomputable def tx:ax:=ao 218 Tryz.f218 (.pair (.row 39 ak false) .unit) .unit [] [(4,[0,5,6,7]),(8,[0,5,6,7,8,9])]
noncomputable def E6:ax:=ao 219 Tryz.f219 (.pair (.row 221 aw false) .unit) .unit [] [(2,[0,3,5])]
noncomputable def mS:ax:=ao 228 Tryz.f228 (.pair (.val (.int .i64)) .unit) (.pair (.strct (.pair (.val .str) (.pair (.row 182 au false) (.pair (.val .bool) .unit)))) .unit) [] [(6,[0,1,5]),(24,[0,1,9,14])]
noncomputable def yf:ax:=ao 229 Tryz.f229 (.pair (.val .bool) .unit) .unit [] []
noncomputable def ie:ax:={g:=230,fn:=Tryz.f230,sh:=(.pair (.val .str) .unit),bx := .unit,own:=[],live:=[],prim:=some (rP)}
noncomputable def Cc:ax:=ao 231 Tryz.f231 (.pair (.val .str) .unit) .unit [] []
noncomputable def J8:ax:=ao 232 Tryz.f232 (.pair (.val .str) .unit) .unit [] []
noncomputable def mT:ax:={g:=233,fn:=Tryz.f233,sh:=(.pair (.val .str) .unit),bx := .unit,own:=[],live:=[],prim:=some (zA Xo)}
noncomputable def zJ:ax:=ao 252 Tryz.f252 (.pair (.val .str) .unit) .unit [] [(3,[0,3,4])]
noncomputable def GC:ax:=ao 253 Tryz.f253 (.pair (.val (.int .i64)) .unit) .unit [] []
noncomputable def Q7:ax:=ao 254 Tryz.f254 (.pair (.val .str) .unit) .unit [] []
noncomputable def J9:ax:=ao 255 Tryz.f255 (.pair (.val aq) .unit) .unit [] []
noncomputable def Ka:ax:=ao 256 Tryz.f256 (.pair (.val aq) .unit) .unit [] []
noncomputable def xc:ax:=ao 257 Tryz.f257 (.pair (.val aq) .unit) .unit [] [(3,[0,4,5,6,11,12,13])]
noncomputable def rU:ax:=ao 258 Tryz.f258 (.pair (.row 89 aq false) .unit) .unit [] [(3,[0,2,7,14,15,16]),(8,[0,2,7,9,14,15,16,33,34,35])]
noncomputable def Cd:ax:=ao 259 Tryz.f259 (.pair (.val aq) .unit) .unit [] [(3,[2,3,7,8,9])]
noncomputable def xe:ax:=ao 260 Tryz.f260 (.pair (.val aq) .unit) .unit [] [(3,[0,4,5,6,7,10,11,12])]
noncomputable def nN:ax:=ao 261 Tryz.f261 (.pair (.val aq) .unit) .unit [] []
noncomputable def MU:ax:=ao 262 Tryz.f262 (.pair (.val aq) .unit) .unit [] []
noncomputable def GD:ax:=ao 263 Tryz.f263 (.pair (.val aq) .unit) .unit [] []
noncomputable def Kb:ax:=ao 264 Tryz.f264 (.pair (.val aq) .unit) .unit [] []
noncomputable def GE:ax:=ao 265 Tryz.f265 (.pair (.val aq) .unit) .unit [] []
noncomputable def Kc:ax:=ao 266 Tryz.f266 (.pair (.val aq) .unit) .unit [] []
noncomputable def Kd:ax:=ao 267 Tryz.f267 (.pair (.val .str) (.pair (.val .bool) .unit)) .unit [] []
noncomputable def Q8:ax:=ao 268 Tryz.f268 (.pair (.val aq) .unit) .unit [] []
noncomputable def MV:ax:=ao 269 Tryz.f269 (.pair (.val (.int .i64)) .unit) .unit [] []
noncomputable def lc:ax:=ao 270 Tryz.f270 (.pair (.val .bool) .unit) (.pair (.val ak) .unit) [] []
noncomputable def Ce:ax:=ao 271 Tryz.f271 (.pair (.val .bool) .unit) (.pair (.val ak) .unit) [] []
noncomputable def iK:ax:={g:=272,fn:=Tryz.f272,sh:=(.pair (.row 3 (.int .i64) false) .unit),bx := .unit,own:=[],live:=[],prim:=some (cP 3 (.int .i64) 8)}
noncomputable def GF:ax:=ao 273 Tryz.f273 (.pair (.val .bool) .unit) (.pair (.strct (.pair (.val .str) (.pair (.val (.int .i64)) (.pair (.val .bool) (.pair (.row 182 au false) .unit))))) .unit) [] []
noncomputable def uK:ax:=ao 274 Tryz.f274 (.pair (.val (.int .i64)) .unit) (.pair (.strct (.pair (.val .str) (.pair (.val (.int .i64)) (.pair (.val .bool) (.pair (.row 182 au false) .unit))))) .unit) [] [(2,[0,3])]
noncomputable def uL:ax:=ao 275 Tryz.f275 (.pair (.val .str) .unit) (.pair (.strct (.pair (.val .str) (.pair (.val (.int .i64)) (.pair (.val .bool) (.pair (.row 182 au false) .unit))))) .unit) [] [(2,[0,3])]
noncomputable def p6:ax:=ao 276 Tryz.f276 (.pair (.val (.int .i64)) .unit) (.pair (.strct (.pair (.val .str) (.pair (.val (.int .i64)) (.pair (.val .bool) (.pair (.row 182 au false) .unit))))) .unit) [] [(2,[0,1,5])]
noncomputable def uM:ax:=ao 277 Tryz.f277 (.pair (.val bR) (.pair (.val .bool) .unit)) .unit [] [(6,[0,2,4,5])]
noncomputable def Ke:ax:=ao 278 Tryz.f278 (.pair (.val .bool) .unit) .unit [] []
noncomputable def Kf:ax:=ao 279 Tryz.f279 (.pair (.val .bool) .unit) .unit [] []
noncomputable def MW:ax:=ao 280 Tryz.f280 (.pair (.val (.int .i64)) (.pair (.val aq) .unit)) .unit [] []
noncomputable def Kg:ax:=ao 281 Tryz.f281 (.pair (.val aq) .unit) .unit [] []
noncomputable def Kh:ax:=ao 282 Tryz.f282 (.pair (.val .str) (.pair (.val aq) .unit)) .unit [] []
noncomputable def Cf:ax:=ao 283 Tryz.f283 (.pair (.val aq) .unit) .unit [] [(6,[0,1,4,5,6,7,8,9])]
noncomputable def v6:ax:=ao 284 Tryz.f284 (.pair (.row 89 aq false) .unit) .unit [] [(3,[0,1,2,7,8]),(10,[0,1,2,7,8,10,11])]
noncomputable def MX:ax:=ao 285 Tryz.f285 (.pair (.val (.int .i64)) (.pair (.val (.int .i64)) (.pair (.val aq) .unit))) .unit [] []
noncomputable def MY:ax:=ao 286 Tryz.f286 (.pair (.val (.int .i64)) .unit) .unit [] []
noncomputable def Ki:ax:=ao 287 Tryz.f287 (.pair (.val aq) .unit) .unit [] []
noncomputable def oH:ax:=ao 291 Tryz.f291 (.pair (.val (.int .i64)) .unit) (.pair (.strct (.pair (.val .str) (.pair (.row 182 au false) (.pair (.val .bool) .unit)))) .unit) [] [(2,[0,3,4])]
noncomputable def sq:ax:=ao 292 Tryz.f292 (.pair (.val (.int .i64)) .unit) (.pair (.strct (.pair (.val .str) (.pair (.row 182 au false) (.pair (.val .bool) .unit)))) .unit) [] []
noncomputable def yg:ax:=ao 293 Tryz.f293 (.pair (.val .str) .unit) (.pair (.strct (.pair (.val .str) (.pair (.row 182 au false) (.pair (.val .bool) .unit)))) .unit) [] []
noncomputable def Cg:ax:=ao 294 Tryz.f294 (.pair (.val bR) (.pair (.val .bool) .unit)) .unit [] []
noncomputable def mU:ax:=ao 295 Tryz.f295 (.pair (.val (.int .i64)) .unit) (.pair (.strct (.pair (.val .str) (.pair (.row 182 au false) (.pair (.val .bool) .unit)))) .unit) [] [(3,[0,1,2,7])]
noncomputable def th:ax:=ao 296 Tryz.f296 (.pair (.val .bool) .unit) .unit [] []
noncomputable def v7:ax:=ao 297 Tryz.f297 (.pair (.val .bool) .unit) .unit [] []
noncomputable def GG:ax:=ao 299 Tryz.f299 (.pair (.val .str) .unit) .unit [] []
noncomputable def Ee:ax:=ao 312 Tryz.f312 (.pair (.val (.int .i64)) (.pair (.val .bool) .unit)) .unit [] []
noncomputable def p7:ax:=ao 313 Tryz.f313 (.pair (.val (.int .i64)) .unit) .unit [] []
noncomputable def fK:ax:=ao 314 Tryz.f314 (.pair (.val (.int .i64)) .unit) (.pair (.val ak) .unit) [] [(2,[0,1,7,8])]
noncomputable def Ef:ax:=ao 315 Tryz.f315 (.pair (.val (.int .i64)) .unit) (.pair (.strct (.pair (.val .str) (.pair (.val (.int .i64)) (.pair (.val .bool) (.pair (.row 182 au false) .unit))))) .unit) [] []
noncomputable def zK:ax:=ao 316 Tryz.f316 (.pair (.val (.int .i64)) .unit) .unit [] [(2,[0,3])]
noncomputable def Kj:ax:=ao 317 Tryz.f317 (.pair (.val (.int .i64)) .unit) .unit [] []
noncomputable def oh:ax:={g:=319,fn:=Tryz.f319,sh:=(.pair (.val .str) (.pair (.val .str) (.pair (.val .bool) .unit))),bx := .unit,own:=[],live:=[],prim:=some (Du)}
noncomputable def zL:ax:=ao 320 Tryz.f320 (.pair (.val (.int .i64)) .unit) .unit [] [(2,[0,3])]
noncomputable def sr:ax:=ao 321 Tryz.f321 (.pair (.strct (.pair (.val (.int .i64)) (.pair (.val (.int .i64)) (.pair (.val aq) (.pair (.val bR) (.pair (.val bR) (.pair (.row 2 (.int .i64) false) .unit))))))) (.pair (.val .bool) .unit)) (.pair (.strct (.pair (.val .str) (.pair (.row 182 au false) (.pair (.val .bool) .unit)))) .unit) [] []
noncomputable def Kk:ax:=ao 322 Tryz.f322 (.pair (.val .bool) .unit) .unit [] []
noncomputable def ss:ax:=ao 333 Tryz.f333 (.pair (.val .bool) .unit) .unit [] []
noncomputable def E:cD:={ty:=[(2,(.int .i64)),(3,(.int .i64)),(4,.bool),(5,(.int .u8)),(9,.str),(22,(.slice 5 (.int .u8))),(24,(.slice 61 av)),(25,(.slice 83 aW)),(31,(.slice 49 ay)),(32,(.slice 39 ak)),(35,(.slice 41 mP)),(39,ak),(41,mP),(49,ay),(61,av),(63,cj),(67,bd),(70,.fn),(80,aE),(83,aW),(89,aq),(103,(.slice 2 (.int .i64))),(105,(.slice 9 .str)),(108,(.slice 182 au)),(113,.err),(121,.fn),(123,.fn),(128,(.slice 221 aw)),(132,(.slice 24 (.slice 61 av))),(135,(.slice 3 (.int .i64))),(137,(.int .u64)),(142,bR),(146,bz),(159,.fn),(162,(.slice 108 (.slice 182 au))),(163,(.slice 135 (.slice 3 (.int .i64)))),(165,bU),(168,(.slice 4 .bool)),(169,(.slice 89 aq)),(173,bm),(182,au),(221,aw),(222,.fn),(259,.fn),(263,.fn)],by_:=[(2,8),(3,8),(4,1),(9,16),(39,16),(41,48),(49,32),(61,32),(83,48),(89,32),(108,24),(135,24),(182,120),(221,48)],fns:=[(3,jY),(5,U1),(6,vV),(7,D2),(8,D3),(9,uD),(10,JS),(11,JT),(12,BQ),(13,zB),(21,JU),(22,sW),(23,og),(24,BR),(25,Gm),(26,eC),(27,mQ),(28,MK),(29,vW),(30,Ib),(31,ML),(32,xV),(33,D4),(34,D5),(35,BS),(36,D6),(37,AZ),(38,Gn),(39,Gr),(40,w8),(41,sX),(42,MM),(43,E1),(44,BT),(45,zC),(46,zD),(47,JV),(48,vX),(49,Gs),(50,BU),(51,BV),(52,xW),(53,zE),(54,QW),(55,JW),(56,eL),(57,D7),(58,JX),(59,BW),(60,JY),(61,vY),(62,uE),(63,qF),(64,BX),(65,A0),(66,BZ),(67,qG),(68,xX),(69,D8),(70,jw),(71,D9),(72,Gt),(73,JZ),(74,Gu),(75,uF),(76,iJ),(77,uG),(78,jL),(80,uH),(81,Gv),(82,MN),(83,E2),(84,B0),(85,A1),(86,xY),(87,gM),(88,QX),(89,xZ),(90,B1),(91,pj),(92,Gw),(93,E3),(94,Gx),(95,Ea),(96,ya),(97,QY),(98,E4),(99,Gy),(100,Gz),(101,J0),(102,dI),(103,ic),(104,tg),(105,uI),(106,B2),(107,B3),(108,J1),(109,nk),(110,kM),(111,uJ),(112,B4),(113,yb),(116,pZ),(117,mR),(118,jd),(119,MO),(120,qH),(121,MP),(122,fJ),(125,zF),(126,yc),(127,w9),(128,p3),(129,B5),(130,jZ),(131,nM),(132,zG),(133,Eb),(134,B6),(135,QZ),(136,rR),(137,jx),(138,me),(139,B7),(140,zH),(141,xa),(142,q9),(143,p4),(144,xb),(145,J2),(146,MQ),(147,kB),(149,zI),(150,nl),(151,vZ),(152,ra),(153,J3),(154,MR),(155,ye),(156,A2),(157,jy),(158,Ic),(159,rd),(165,mf),(184,B8),(185,E5),(186,lI),(187,A3),(188,B9),(189,GA),(190,J4),(191,U2),(192,Q0),(193,MS),(194,Q1),(195,J5),(196,Q2),(197,Q3),(198,gY),(199,fz),(200,p5),(201,rS),(202,tw),(203,Ec),(204,Ed),(205,Ca),(206,Cb),(207,Ie),(208,GB),(209,J6),(210,U3),(211,Q4),(212,MT),(213,Q5),(214,J7),(215,Q6),(216,Ig),(217,rT),(218,tx),(219,E6),(228,mS),(229,yf),(230,ie),(231,Cc),(232,J8),(233,mT),(252,zJ),(253,GC),(254,Q7),(255,J9),(256,Ka),(257,xc),(258,rU),(259,Cd),(260,xe),(261,nN),(262,MU),(263,GD),(264,Kb),(265,GE),(266,Kc),(267,Kd),(268,Q8),(269,MV),(270,lc),(271,Ce),(272,iK),(273,GF),(274,uK),(275,uL),(276,p6),(277,uM),(278,Ke),(279,Kf),(280,MW),(281,Kg),(282,Kh),(283,Cf),(284,v6),(285,MX),(286,MY),(287,Ki),(291,oH),(292,sq),(293,yg),(294,Cg),(295,mU),(296,th),(297,v7),(299,GG),(312,Ee),(313,p7),(314,fK),(315,Ef),(316,zK),(317,Kj),(319,oh),(320,zL),(321,sr),(322,Kk),(333,ss)],eqs:=[(39,ak),(49,ay),(61,av),(89,aq),(142,bR)],tails:=[(24,38),(32,28),(32,56)],cuts:=[]}
noncomputable def Xp (x0:(List Int)):Option ((Bool×Unit)×Unit):=ai E U1 [.val (.slice 5 (.int .u8)) x0] []
noncomputable def Q9 (x0:(List Int)):Option ((aJ×Unit)×Unit):=ai E JU [.val (.slice 5 (.int .u8)) x0] []
noncomputable def tz (x0:(List Int)) (x1:Int):Option ((Int×Unit)×aJ×Unit):=ai E uH [.ptr 0 aE []] [(0,.box aE (.strct [.val (.slice 5 (.int .u8)) x0,af x1]))]
noncomputable def jM (x0:aJ):Option ((Int×Unit)×aJ×Unit):=ai E uH [.ptr 0 aE []] [(0,.box aE (.val aE x0))]
noncomputable def xf (x0:Int) (x1:(List Int)) (x2:Int):Option ((Int×Unit)×aJ×Unit):=ai E sX [.ptr 0 aE [],af x0] [(0,.box aE (.strct [.val (.slice 5 (.int .u8)) x1,af x2]))]
noncomputable def az (x0:Int) (x1:aJ):Option ((Int×Unit)×aJ×Unit):=ai E sX [.ptr 0 aE [],af x0] [(0,.box aE (.val aE x1))]
noncomputable def bH (x0:aJ):Option ((ah×Unit)×aJ×Unit):=ai E D5 [.ptr 0 aE []] [(0,.box aE (.val aE x0))]
noncomputable def bZ (x0:Int) (x1:aJ):Option ((Bool×Unit)×aJ×Unit):=ai E BS [.ptr 0 aE [],af x0] [(0,.box aE (.val aE x1))]
noncomputable def ig (x0 x1 x2:Int):Option ((Bool×Unit)×Unit):=ai E QW [af x0,af x1,af x2] []
noncomputable def dl (x0:ah):Option ((Bool×Unit)×Unit):=ai E MN [.val ak x0] []
noncomputable def uN (x0:Int):Option ((aa_×Unit)×Unit):=ai E zI [af x0] []
noncomputable def cf (x0:Int):Option ((aa_×Unit)×Unit):=ai E E1 [af x0] []
noncomputable def cQ (x0:cl):Option ((aa_×Unit)×Unit):=ai E B2 [.val bR x0] []
noncomputable def bu (x0:Int) (x1:aJ):Option ((aa_×Unit)×aJ×Unit):=ai E A0 [.ptr 0 aE [],af x0] [(0,.box aE (.val aE x1))]
noncomputable def zM (x0:aJ):Option ((Int×Unit)×aJ×Unit):=ai E uI [.ptr 0 aE []] [(0,.box aE (.val aE x0))]
noncomputable def zN (x0 x1:Int) (x2:aJ):Option ((Int×Unit)×aJ×Unit):=ai E BX [.ptr 0 aE [],af x0,af x1] [(0,.box aE (.val aE x2))]
noncomputable def v8 (x0 x1:Int) (x2:aJ):Option ((Int×Unit)×aJ×Unit):=ai E D6 [.ptr 0 aE [],af x0,af x1] [(0,.box aE (.val aE x2))]
noncomputable def p8 (x0:aJ):Option ((am×Unit)×aJ×Unit):=ai E B3 [.ptr 0 aE []] [(0,.box aE (.val aE x0))]
noncomputable def lA (x0:Int):Option ((aa_×Unit)×Unit):=ai E J1 [af x0] []
noncomputable def eF (x0:aJ):Option ((aa_×Unit)×aJ×Unit):=ai E AZ [.ptr 0 aE []] [(0,.box aE (.val aE x0))]
noncomputable def uO (x0:aa_):Option ((Bool×Unit)×Unit):=ai E zF [aY x0] []
noncomputable def j9 (x0:aa_) (x1:Int) (x2:Bool) (x3:(List ab)):Option (Unit×(aa_×Int×Bool×(List ab)×Unit)×Unit):=ai E q9 [.ptr 0 bm []] [(0,.box bm (.strct [aY x0,af x1,cL x2,.row 1])),(1,.row 182 au x3 false)]
noncomputable def dQ (x0 x1:aa_) (x2:Int) (x3:Bool) (x4:(List ab)):Option ((Bool×Unit)×(aa_×Int×Bool×(List ab)×Unit)×Unit):=ai E GF [.ptr 0 bm [],aY x0] [(0,.box bm (.strct [aY x1,af x2,cL x3,.row 1])),(1,.row 182 au x4 false)]
noncomputable def eY (x0:Int) (x1:aa_) (x2:Int) (x3:Bool) (x4:(List ab)):Option ((Int×Unit)×(aa_×Int×Bool×(List ab)×Unit)×Unit):=ai E xa [.ptr 0 bm [],af x0] [(0,.box bm (.strct [aY x1,af x2,cL x3,.row 1])),(1,.row 182 au x4 false)]
noncomputable def ej (x0:ac):Option ((Bool×Unit)×Unit):=ai E Gz [.val aq x0] []
noncomputable def Ih (x0:am):Option ((Bool×Unit)×Unit):=ai E Ke [.val ay x0] []
noncomputable def Ii (x0 x1:Int):Option ((Bool×Unit)×Unit):=ai E Kf [af x0,af x1] []
noncomputable def wa (x0:ab):Option ((Bool×Unit)×Unit):=ai E Ed [.val au x0] []
noncomputable def cm (x0:ab) (x1:aa_) (x2:Int) (x3:Bool) (x4:(List ab)):Option ((Int×Unit)×(aa_×Int×Bool×(List ab)×Unit)×Unit):=ai E Ec [.ptr 0 bm [],.val au x0] [(0,.box bm (.strct [aY x1,af x2,cL x3,.row 1])),(1,.row 182 au x4 false)]
noncomputable def zO (x0:aa_) (x1:Int) (x2:Bool) (x3:(List ab)):Option ((Int×Unit)×(aa_×Int×Bool×(List ab)×Unit)×Unit):=ai E uK [.ptr 0 bm []] [(0,.box bm (.strct [aY x0,af x1,cL x2,.row 1])),(1,.row 182 au x3 false)]
noncomputable def mV (x0:Int):Option ((aa_×Unit)×Unit):=ai E JY [af x0] []
noncomputable def cF (x0:Int):Option ((ac×Unit)×Unit):=ai E Gy [af x0] []
noncomputable def mW (x0:aa_) (x1:Int) (x2:Bool) (x3:(List ab)):Option ((aa_×Unit)×(aa_×Int×Bool×(List ab)×Unit)×Unit):=ai E uL [.ptr 0 bm []] [(0,.box bm (.strct [aY x0,af x1,cL x2,.row 1])),(1,.row 182 au x3 false)]
noncomputable def LV (x0:Int):Option ((aa_×Unit)×Unit):=ai E Q7 [af x0] []
noncomputable def re (x0:aa_):Option ((Int×Unit)×Unit):=ai E zK [aY x0] []
noncomputable def dc (x0:aa_) (x1:Int):Option ((Int×Bool×Unit)×Unit):=ai E E5 [aY x0,af x1] []
noncomputable def mX (x0:aa_):Option ((cl×Bool×Unit)×Unit):=ai E uM [aY x0] []
noncomputable def su (x0:aa_) (x1:Int) (x2:Bool) (x3:(List ab)):Option ((Int×Unit)×(aa_×Int×Bool×(List ab)×Unit)×Unit):=ai E Ef [.ptr 0 bm []] [(0,.box bm (.strct [aY x0,af x1,cL x2,.row 1])),(1,.row 182 au x3 false)]
noncomputable def zP (x0:Int) (x1:aa_) (x2:Int) (x3:Bool) (x4:(List ab)):Option ((Int×Unit)×(aa_×Int×Bool×(List ab)×Unit)×Unit):=ai E p6 [.ptr 0 bm [],af x0] [(0,.box bm (.strct [aY x1,af x2,cL x3,.row 1])),(1,.row 182 au x4 false)]
noncomputable def kN (x0:aa_):Option ((ac×Bool×Unit)×Unit):=ai E p3 [aY x0] []
noncomputable def wb (x0:aa_) (x1:Int) (x2:Bool) (x3:(List ab)):Option ((Int×Unit)×(aa_×Int×Bool×(List ab)×Unit)×Unit):=ai E rS [.ptr 0 bm []] [(0,.box bm (.strct [aY x0,af x1,cL x2,.row 1])),(1,.row 182 au x3 false)]
noncomputable def uP (x0:Int):Option ((Int×Unit)×Unit):=ai E GC [af x0] []
noncomputable def E7 (x0:Int) (x1:aa_) (x2:Int) (x3:Bool) (x4:(List ab)):Option ((Int×Unit)×(aa_×Int×Bool×(List ab)×Unit)×Unit):=ai E tw [.ptr 0 bm [],af x0] [(0,.box bm (.strct [aY x1,af x2,cL x3,.row 1])),(1,.row 182 au x4 false)]
noncomputable def yh (x0:(List ab)) (x1:Int):Option ((Int×Unit)×Unit):=ai E Ca [.val (.slice 182 au) x0,af x1] []
noncomputable def yi (x0:(List ab)) (x1:Int):Option ((Int×Unit)×Unit):=ai E Cb [.val (.slice 182 au) x0,af x1] []
noncomputable def mY (x0:(List ab)):Option ((Bool×Unit)×Unit):=ai E p4 [.val (.slice 182 au) x0] []
noncomputable def kb (x0:aa_):Option (((List ab)×Bool×Unit)×Unit):=ai E ya [aY x0] []
noncomputable def E8 (x0:aa_):Option ((aa_×Unit)×Unit):=ai E zJ [aY x0] []
noncomputable def Ij (x0:Int):Option ((aa_×Unit)×Unit):=ai E J0 [af x0] []
noncomputable def dY (x0:ac):Option ((aa_×Unit)×Unit):=ai E BW [.val aq x0] []
noncomputable def mZ (x0:(List ab)) (x1 x2:Int):Option ((aa_×Unit)×Unit):=ai E B8 [.val (.slice 182 au) x0,af x1,af x2] []
noncomputable def p9 (x0:(List ab)):Option ((aa_×Unit)×Unit):=ai E yc [.val (.slice 182 au) x0] []
noncomputable def Ch (x0:aa_):Option ((ac×Bool×Unit)×Unit):=ai E w9 [aY x0] []
noncomputable def dR (x0:aa_):Option ((aa_×Bool×Unit)×Unit):=ai E Gv [aY x0] []
noncomputable def oI (x0 x1:ah):Option ((Bool×Unit)×Unit):=ai E Gw [.val ak x0,.val ak x1] []
noncomputable def zQ (x0:(List ae)):Option ((Bool×Unit)×Unit):=ai E zE [.val (.slice 61 av) x0] []
noncomputable def GH (x0:(List ae)) (x1:ah) (x2:aa_):Option (((List ae)×Unit)×Unit):=ai E E2 [.val (.slice 61 av) x0,.val ak x1,aY x2] []
noncomputable def MZ (x0:(List ae)) (x1:ah) (x2:aa_):Option (((List ae)×Bool×Unit)×Unit):=ai E MM [.val (.slice 61 av) x0,.val ak x1,aY x2] []
noncomputable def xg (x0:Int) (x1:(List Int)) (x2:Int):Option (((List ae)×Unit)×aJ×Unit):=ai E sW [.ptr 0 aE [],af x0] [(0,.box aE (.strct [.val (.slice 5 (.int .u8)) x1,af x2]))]
noncomputable def eM (x0:Int) (x1:aJ):Option ((aa_×Unit)×aJ×Unit):=ai E B0 [.ptr 0 aE [],af x0] [(0,.box aE (.val aE x1))]
noncomputable def kO (x0:aJ):Option ((aZ×Unit)×aJ×Unit):=ai E BT [.ptr 0 aE []] [(0,.box aE (.val aE x0))]
noncomputable def fh (x0:aa_):Option ((Bool×Unit)×Unit):=ai E A1 [aY x0] []
noncomputable def jN (x0:(List aZ)):Option ((Bool×Unit)×Unit):=ai E zC [.val (.slice 83 aW) x0] []
noncomputable def rV (x0:aJ):Option (((List aZ)×Unit)×aJ×Unit):=ai E og [.ptr 0 aE []] [(0,.box aE (.val aE x0))]
noncomputable def zR (x0:aJ):Option ((Int×Unit)×aJ×Unit):=ai E BR [.ptr 0 aE []] [(0,.box aE (.val aE x0))]
noncomputable def sY (x0:(List Int)):Option (((List ae)×(List aZ)×Int×Unit)×Unit):=ai E vV [.val (.slice 5 (.int .u8)) x0] []
noncomputable def dJ (x0 x1 x2:Int):Option ((Bool×Unit)×Unit):=ai E JV [af x0,af x1,af x2] []
noncomputable def qa (x0:ah):Option ((Bool×Unit)×Unit):=ai E ML [.val ak x0] []
noncomputable def qb (x0:Int):Option ((Bool×Unit)×Unit):=ai E tg [af x0] []
noncomputable def fA (x0 x1:Int):Option ((Int×Unit)×Unit):=ai E qF [af x0,af x1] []
noncomputable def tA (x0:(List Int)):Option ((Int×Unit)×Unit):=ai E uE [.val (.slice 3 (.int .i64)) x0] []
noncomputable def uQ (x0 x1:ah):Option ((Int×Unit)×Unit):=ai E xV [.val ak x0,.val ak x1] []
noncomputable def yj (x0:aa_) (x1:Int):Option ((Bool×Unit)×Unit):=ai E BZ [aY x0,af x1] []
noncomputable def eZ (x0 x1:aa_):Option ((Bool×Unit)×Unit):=ai E nl [aY x0,aY x1] []
noncomputable def pk (x0 x1:aa_):Option ((aa_×Bool×Unit)×Unit):=ai E nk [aY x0,aY x1] []
noncomputable def cx (x0 x1:aa_):Option ((aa_×Bool×Unit)×Unit):=ai E qG [aY x0,aY x1] []
noncomputable def iL (x0 x1:aa_):Option ((aa_×Unit)×Unit):=ai E jy [aY x0,aY x1] []
noncomputable def iy (x0:aa_) (x1:Bool) (x2:(List ab)):Option (Unit×(aa_×(List ab)×Bool×Unit)×Unit):=ai E uJ [.ptr 0 bz []] [(0,.box bz (.strct [aY x0,.row 1,cL x1])),(1,.row 182 au x2 false)]
noncomputable def en (x0 x1:aa_):Option ((Bool×Unit)×Unit):=ai E qH [aY x0,aY x1] []
noncomputable def qc (x0:aa_) (x1:Bool) (x2:(List ab)):Option ((aa_×Unit)×(aa_×(List ab)×Bool×Unit)×Unit):=ai E ra [.ptr 0 bz []] [(0,.box bz (.strct [aY x0,.row 1,cL x1])),(1,.row 182 au x2 false)]
noncomputable def bS (x0 x1:aa_) (x2:Bool) (x3:(List ab)):Option ((Bool×Unit)×(aa_×(List ab)×Bool×Unit)×Unit):=ai E ye [.ptr 0 bz [],aY x0] [(0,.box bz (.strct [aY x1,.row 1,cL x2])),(1,.row 182 au x3 false)]
noncomputable def ld (x0:Int) (x1:aa_) (x2:Bool) (x3:(List ab)):Option ((Int×Unit)×(aa_×(List ab)×Bool×Unit)×Unit):=ai E vZ [.ptr 0 bz [],af x0] [(0,.box bz (.strct [aY x1,.row 1,cL x2])),(1,.row 182 au x3 false)]
noncomputable def bq (x0:ab) (x1:aa_) (x2:Bool) (x3:(List ab)):Option ((Int×Unit)×(aa_×(List ab)×Bool×Unit)×Unit):=ai E A2 [.ptr 0 bz [],.val au x0] [(0,.box bz (.strct [aY x1,.row 1,cL x2])),(1,.row 182 au x3 false)]
noncomputable def strings_Cut (x0 x1:aa_):Option ((aa_×aa_×Bool×Unit)×Unit):=ai E oh [aY x0,aY x1] []
noncomputable def cc (x0:ac) (x1:aa_) (x2:Bool) (x3:(List ab)):Option ((Int×Unit)×(aa_×(List ab)×Bool×Unit)×Unit):=ai E sq [.ptr 0 bz [],.val aq x0] [(0,.box bz (.strct [aY x1,.row 1,cL x2])),(1,.row 182 au x3 false)]
noncomputable def ke (x0:aa_) (x1:Bool) (x2:(List ab)):Option ((Int×Unit)×(aa_×(List ab)×Bool×Unit)×Unit):=ai E oH [.ptr 0 bz []] [(0,.box bz (.strct [aY x0,.row 1,cL x1])),(1,.row 182 au x2 false)]
noncomputable def ii (x0:Int):Option ((aa_×Unit)×Unit):=ai E BV [af x0] []
noncomputable def gu (x0:Int):Option ((ac×Unit)×Unit):=ai E MP [af x0] []
noncomputable def kf (x0:aa_) (x1:Bool) (x2:(List ab)):Option ((aa_×Unit)×(aa_×(List ab)×Bool×Unit)×Unit):=ai E yg [.ptr 0 bz []] [(0,.box bz (.strct [aY x0,.row 1,cL x1])),(1,.row 182 au x2 false)]
noncomputable def dr (x0:ac):Option ((Bool×Unit)×Unit):=ai E Gt [.val aq x0] []
noncomputable def tj (x0 x1:Int):Option ((aa_×Unit)×Unit):=ai E jd [af x0,af x1] []
noncomputable def kP (x0:Int):Option ((aa_×Unit)×Unit):=ai E Gu [af x0] []
noncomputable def fp (x0:ac):Option ((aa_×Unit)×Unit):=ai E B1 [.val aq x0] []
noncomputable def mg (x0:Bool):Option ((ac×Unit)×Unit):=ai E MO [cL x0] []
noncomputable def iM (x0:aa_) (x1 x2:Int):Option ((Int×Bool×Unit)×Unit):=ai E jw [aY x0,af x1,af x2] []
noncomputable def jo (x0:Int):Option ((ac×Unit)×Unit):=ai E JZ [af x0] []
noncomputable def eN (x0:aa_):Option ((ac×Bool×Unit)×Unit):=ai E uF [aY x0] []
noncomputable def rf (x0:Int):Option ((aa_×Unit)×Unit):=ai E GG [af x0] []
noncomputable def E9 (x0:aa_):Option ((Int×Unit)×Unit):=ai E zL [aY x0] []
noncomputable def m5 (x0:cl):Option ((aa_×Unit)×Unit):=ai E Cc [.val bR x0] []
noncomputable def ij (x0:aa_):Option ((cl×Bool×Unit)×Unit):=ai E Cg [aY x0] []
noncomputable def Dw (x0:Int):Option ((aa_×Unit)×Unit):=ai E J8 [af x0] []
noncomputable def kQ (x0:aa_) (x1:Bool) (x2:(List ab)):Option (((Int×Int×ac×cl×cl×(List Int)×Unit)×Bool×Unit)×(aa_×(List ab)×Bool×Unit)×Unit):=ai E sr [.ptr 0 bz []] [(0,.box bz (.strct [aY x0,.row 1,cL x1])),(1,.row 182 au x2 false)]
noncomputable def bW (x0 x1:Int) (x2:aa_) (x3:Bool) (x4:(List ab)):Option ((Int×Unit)×(aa_×(List ab)×Bool×Unit)×Unit):=ai E kM [.ptr 0 bz [],af x0,af x1] [(0,.box bz (.strct [aY x2,.row 1,cL x3])),(1,.row 182 au x4 false)]
noncomputable def iO (x0 x1:Int) (x2:aa_) (x3:Bool) (x4:(List ab)):Option ((Int×Unit)×(aa_×(List ab)×Bool×Unit)×Unit):=ai E mU [.ptr 0 bz [],af x0,af x1] [(0,.box bz (.strct [aY x2,.row 1,cL x3])),(1,.row 182 au x4 false)]
noncomputable def qd (x0:Int) (x1:aa_) (x2:Bool) (x3:(List ab)):Option ((Int×Unit)×(aa_×(List ab)×Bool×Unit)×Unit):=ai E mS [.ptr 0 bz [],af x0] [(0,.box bz (.strct [aY x1,.row 1,cL x2])),(1,.row 182 au x3 false)]
noncomputable def yk (x0:Int):Option ((aa_×Unit)×Unit):=ai E J3 [af x0] []
noncomputable def Ci (x0:Int):Option ((Int×Unit)×Unit):=ai E MR [af x0] []
noncomputable def jO (x0:ab):Option ((am×Unit)×Unit):=ai E A3 [.val au x0] []
noncomputable def Dx (x0:am):Option ((Bool×Unit)×Unit):=ai E Kk [.val ay x0] []
noncomputable def ew (x0:ab):Option ((Bool×Unit)×Unit):=ai E th [.val au x0] []
noncomputable def fD (x0:ab):Option ((Bool×Unit)×Unit):=ai E v7 [.val au x0] []
noncomputable def uR (x0:ab):Option ((Bool×Unit)×Unit):=ai E yf [.val au x0] []
noncomputable def zS (x0:(List ab)) (x1 x2:Int):Option ((Int×Unit)×Unit):=ai E Ic [.val (.slice 182 au) x0,af x1,af x2] []
noncomputable def tB (x0:(List ab)):Option ((Bool×Unit)×Unit):=ai E B4 [.val (.slice 182 au) x0] []
noncomputable def kg (x0:aa_):Option (((List ab)×Bool×Unit)×Unit):=ai E xX [aY x0] []
noncomputable def strings_ReplaceAll (x0 x1 x2:aa_):Option ((aa_×Unit)×Unit):=ai E ie [aY x0,aY x1,aY x2] []
noncomputable def gw (x0:(List ab)) (x1 x2:Int):Option ((aa_×Unit)×Unit):=ai E rd [.val (.slice 182 au) x0,af x1,af x2] []
noncomputable def strings_Join (x0:(List aa_)) (x1:aa_):Option ((aa_×Unit)×Unit):=ai E mT [.val (.slice 9 .str) x0,aY x1] []
noncomputable def qe (x0:(List ab)):Option ((aa_×Unit)×Unit):=ai E yb [.val (.slice 182 au) x0] []
noncomputable def Kl (x0:(List ab)):Option ((aa_×Bool×Unit)×Unit):=ai E D8 [.val (.slice 182 au) x0] []
noncomputable def nO (x0 x1:aa_):Option ((aa_×Unit)×Unit):=ai E mf [aY x0,aY x1] []
noncomputable def mh (x0 x1:aa_):Option ((aa_×Unit)×Unit):=ai E pZ [aY x0,aY x1] []
noncomputable def uS (x0 x1:aa_):Option ((aa_×Unit)×Unit):=ai E mR [aY x0,aY x1] []
noncomputable def Cj (x0:aa_):Option ((Bool×Unit)×Unit):=ai E D9 [aY x0] []
noncomputable def zT (x0:aa_):Option ((aa_×Bool×Unit)×Unit):=ai E Gn [aY x0] []
noncomputable def pl (x0:aa_):Option ((Bool×Unit)×Unit):=ai E D4 [aY x0] []
noncomputable def oJ (x0:(List ae)):Option ((Bool×Unit)×Unit):=ai E zB [.val (.slice 61 av) x0] []
noncomputable def m6 (x0:aa_):Option ((Bool×Unit)×Unit):=ai E B5 [aY x0] []
noncomputable def uT (x0:aZ) (x1 x2:Int):Option ((Bool×Unit)×Unit):=ai E xY [.val aW x0,af x1,af x2] []
noncomputable def Fa (x0:(List aZ)):Option ((Bool×Unit)×Unit):=ai E zD [.val (.slice 83 aW) x0] []
noncomputable def zU (x0:(List ae)) (x1:(List aZ)) (x2:Int):Option ((Int×Unit)×Unit):=ai E Gm [.val (.slice 61 av) x0,.val (.slice 83 aW) x1,af x2] []
noncomputable def fB (x0:(List ae)):Option (((List ae)×Unit)×Unit):=ai E eC [.val (.slice 61 av) x0] []
noncomputable def uU (x0:(List ab)):Option (((List am)×Unit)×Unit):=ai E zG [.val (.slice 182 au) x0] []
noncomputable def tk (x0:(List am)) (x1:am):Option ((Int×Unit)×Unit):=ai E lI [.val (.slice 49 ay) x0,.val ay x1] []
noncomputable def dZ (x0:(List am)) (x1:am):Option ((Bool×Unit)×Unit):=ai E nM [.val (.slice 49 ay) x0,.val ay x1] []
noncomputable def jz (x0 x1:(List am)):Option (Unit×(List am)×Unit):=ai E jZ [.val (.slice 49 ay) x0,.ptr 0 (.slice 49 ay) []] [(0,.box (.slice 49 ay) (.row 1)),(1,.row 49 ay x1 false)]
noncomputable def pm (x0:am) (x1:ah):Option ((Bool×Unit)×Unit):=ai E Eb [.val ay x0,.val ak x1] []
noncomputable def tC (x0:aa_):Option (((List ab)×Bool×Unit)×Unit):=ai E B6 [aY x0] []
noncomputable def sZ (x0:(List ab)) (x1:(List ae)) (x2:(List am)) (x3:(List ah)):Option (Unit×((List ae)×(List am)×(List ah)×Unit)×Unit):=ai E gM [.ptr 0 cj [],.val (.slice 182 au) x0] [(0,.box cj (.strct [.row 1,.row 2,.row 3])),(1,.row 61 av x1 false),(2,.row 49 ay x2 false),(3,.row 39 ak x3 false)]
noncomputable def Ra (x0:am) (x1 x2:Int):Option ((Bool×Unit)×ah×Unit):=ai E Ce [.val ay x0,.ptr 0 ak []] [(0,.box ak (.strct [af x1,af x2]))]
noncomputable def M0 (x0:am) (x1:ah):Option ((Bool×Unit)×ah×Unit):=ai E Ce [.val ay x0,.ptr 0 ak []] [(0,.box ak (.val ak x1))]
noncomputable def jW (x0:(List am)) (x1 x2:Int):Option ((Int×Unit)×ah×Unit):=ai E fK [.val (.slice 49 ay) x0,.fn 271 [.ptr 0 ak []]] [(0,.box ak (.strct [af x1,af x2]))]
noncomputable def iP (x0:(List am)) (x1 x2:Int):Option ((Bool×Unit)×ah×Unit):=ai E lc [.val (.slice 49 ay) x0,.fn 271 [.ptr 0 ak []]] [(0,.box ak (.strct [af x1,af x2]))]
noncomputable def Sw (x0:(List am)) (x1:ah):Option ((Bool×Unit)×Unit):=ai E Q3 [.val (.slice 49 ay) x0,.val ak x1] []
noncomputable def Ck (x0:(List ae)):Option ((((List ae)×(List (List ab))×(List (List Int))×Unit)×Unit)×Unit):=ai E rR [.val (.slice 61 av) x0] []
noncomputable def iR (x0:(List Bool)):Option (((List Bool)×Unit)×Unit):=ai E gY [.val (.slice 4 .bool) x0] []
noncomputable def gf (x0:(List Int)):Option (((List Int)×Unit)×Unit):=ai E iK [.val (.slice 3 (.int .i64)) x0] []
noncomputable def lf (x0:md) (x1:Int):Option ((Bool×Unit)×Unit):=ai E p5 [.val bU x0,af x1] []
noncomputable def cG (x0:Int) (x1:(List ae)) (x2:(List (List ab))) (x3:(List (List Int))) (x4:(List Bool)) (x5:(List aj)):Option (Unit×(List Bool)×md×(List aj)×Unit):=ai E fz [af x0,.ptr 0 (.slice 4 .bool) [],.ptr 1 bU [],.ptr 2 (.slice 221 aw) [],.ptr 3 .fn []] [(0,.box (.slice 4 .bool) (.row 4)),(1,.box bU (.strct [.val (.slice 61 av) x1,.val (.slice 108 (.slice 182 au)) x2,.val (.slice 135 (.slice 3 (.int .i64))) x3])),(2,.box (.slice 221 aw) (.row 5)),(3,.keepF 199 [.ptr 0 (.slice 4 .bool) [],.ptr 1 bU [],.ptr 2 (.slice 221 aw) [],.ptr 3 .fn []]),(4,.row 4 .bool x4 false),(5,.row 221 aw x5 false)]
noncomputable def bK (x0:Int) (x1:md) (x2:(List Bool)) (x3:(List aj)):Option (Unit×(List Bool)×md×(List aj)×Unit):=ai E fz [af x0,.ptr 0 (.slice 4 .bool) [],.ptr 1 bU [],.ptr 2 (.slice 221 aw) [],.ptr 3 .fn []] [(0,.box (.slice 4 .bool) (.row 4)),(1,.box bU (.val bU x1)),(2,.box (.slice 221 aw) (.row 5)),(3,.keepF 199 [.ptr 0 (.slice 4 .bool) [],.ptr 1 bU [],.ptr 2 (.slice 221 aw) [],.ptr 3 .fn []]),(4,.row 4 .bool x2 false),(5,.row 221 aw x3 false)]
noncomputable def Ik (x0:(List aj)) (x1:ah):Option ((ac×Unit)×Unit):=ai E B9 [.val (.slice 221 aw) x0,.val ak x1] []
noncomputable def gh (x0:(List ab)) (x1:Int) (x2:(List aj)):Option ((ac×Unit)×Unit):=ai E QZ [.val (.slice 182 au) x0,af x1,.val (.slice 221 aw) x2] []
noncomputable def gx (x0:ac):Option ((Int×Bool×Unit)×Unit):=ai E Ee [.val aq x0] []
noncomputable def jA (x0:ac):Option ((ac×Unit)×Unit):=ai E Q8 [.val aq x0] []
noncomputable def oK (x0:Int):Option ((ac×Unit)×Unit):=ai E GD [af x0] []
noncomputable def Rb (x0 x1:Int):Option ((ac×Unit)×Unit):=ai E Kb [af x0,af x1] []
noncomputable def tl (x0 x1:ac):Option ((ac×Unit)×Unit):=ai E nN [.val aq x0,.val aq x1,.fn 264 []] []
noncomputable def LW (x0 x1:ac):Option ((ac×Unit)×Unit):=ai E Q0 [.val aq x0,.val aq x1] []
noncomputable def Fb (x0:ac):Option ((ac×Unit)×Unit):=ai E GA [.val aq x0] []
noncomputable def oL (x0:ac):Option ((Bool×Bool×Unit)×Unit):=ai E Gs [.val aq x0] []
noncomputable def Rc (x0:(List ab)) (x1:ab) (x2:(List aj)):Option ((ac×Unit)×Unit):=ai E J9 [.val (.slice 182 au) x0,.val au x1,.val (.slice 221 aw) x2] []
noncomputable def kR (x0:ac):Option ((aa_×Unit)×Unit):=ai E BU [.val aq x0] []
noncomputable def yl (x0:ac):Option ((aa_×Bool×Unit)×Unit):=ai E Kd [.val aq x0] []
noncomputable def Dy (x0:Int) (x1:ac):Option ((ac×Unit)×Unit):=ai E Ka [af x0,.val aq x1] []
noncomputable def cA (x0:(List ab)) (x1:ab) (x2:(List aj)):Option (((List ac)×Unit)×Unit):=ai E rU [.val (.slice 182 au) x0,.val au x1,.val (.slice 221 aw) x2] []
noncomputable def kC (x0:Int) (x1:(List ac)):Option ((ac×Unit)×Unit):=ai E xc [af x0,.val (.slice 89 aq) x1] []
noncomputable def uV (x0 x1:ac):Option ((ac×Unit)×Unit):=ai E nN [.val aq x0,.val aq x1,.fn 262 []] []
noncomputable def M1 (x0 x1:ac):Option ((ac×Unit)×Unit):=ai E U2 [.val aq x0,.val aq x1] []
noncomputable def pn (x0:(List ac)):Option ((ac×Unit)×Unit):=ai E Cd [.val (.slice 89 aq) x0] []
noncomputable def kD (x0:Int) (x1:(List ac)):Option ((ac×Unit)×Unit):=ai E xe [af x0,.val (.slice 89 aq) x1] []
noncomputable def Re (x0:(List ab)) (x1:ab) (x2:(List aj)):Option ((ac×Unit)×Unit):=ai E J4 [.val (.slice 182 au) x0,.val au x1,.val (.slice 221 aw) x2] []
noncomputable def sw (x0 x1:ac):Option ((ac×Unit)×Unit):=ai E nN [.val aq x0,.val aq x1,.fn 265 []] []
noncomputable def M2 (x0 x1:ac):Option ((ac×Unit)×Unit):=ai E MS [.val aq x0,.val aq x1] []
noncomputable def tm (x0 x1:ac):Option ((ac×Unit)×Unit):=ai E nN [.val aq x0,.val aq x1,.fn 266 []] []
noncomputable def Sx (x0 x1:ac):Option ((ac×Unit)×Unit):=ai E Q1 [.val aq x0,.val aq x1] []
noncomputable def Il (x0 x1:ac):Option ((ac×Unit)×Unit):=ai E J5 [.val aq x0,.val aq x1] []
noncomputable def oM (x0:aa_):Option ((Bool×Unit)×Unit):=ai E ss [aY x0] []
noncomputable def mi (x0 x1:aa_):Option ((Int×Unit)×Unit):=ai E p7 [aY x0,aY x1] []
noncomputable def Cl (x0 x1:ac):Option ((Int×Unit)×Unit):=ai E MV [.val aq x0,.val aq x1] []
noncomputable def Sy (x0:Int) (x1 x2:ac):Option ((ac×Unit)×Unit):=ai E Q2 [af x0,.val aq x1,.val aq x2] []
noncomputable def tD (x0:(List ab)) (x1:(List aj)):Option ((ac×Unit)×Unit):=ai E QX [.val (.slice 182 au) x0,.val (.slice 221 aw) x1] []
noncomputable def s5 (x0:md) (x1:(List Bool)) (x2:(List ac)):Option (((List aj)×Unit)×Unit):=ai E jx [.val bU x0,.val (.slice 4 .bool) x1,.val (.slice 89 aq) x2] []
noncomputable def uW (x0:(List ae)):Option (((List aj)×Unit)×Unit):=ai E xZ [.val (.slice 61 av) x0] []
noncomputable def oi (x0:aa_) (x1:(List ae)) (x2:(List am)) (x3:(List ah)):Option ((ac×Unit)×((List ae)×(List am)×(List ah)×Unit)×Unit):=ai E vX [.ptr 0 cj [],aY x0] [(0,.box cj (.strct [.row 1,.row 2,.row 3])),(1,.row 61 av x1 false),(2,.row 49 ay x2 false),(3,.row 39 ak x3 false)]
noncomputable def GI (x0:ae) (x1 x2:Int):Option ((Bool×Unit)×ah×Unit):=ai E uG [.val av x0,.ptr 0 ak []] [(0,.box ak (.strct [af x1,af x2]))]
noncomputable def xh (x0:ae) (x1:ah):Option ((Bool×Unit)×ah×Unit):=ai E uG [.val av x0,.ptr 0 ak []] [(0,.box ak (.val ak x1))]
noncomputable def eR (x0:(List ae)) (x1 x2:Int):Option ((Int×Unit)×ah×Unit):=ai E fJ [.val (.slice 61 av) x0,.fn 77 [.ptr 0 ak []]] [(0,.box ak (.strct [af x1,af x2]))]
noncomputable def d7 (x0:(List ae)) (x1 x2:Int):Option (((List ae)×Unit)×ah×Unit):=ai E iJ [.row 0,.fn 77 [.ptr 1 ak []]] [(0,.row 61 av x0 false),(1,.box ak (.strct [af x1,af x2]))]
noncomputable def eG (x0:(List ae)):Option (Unit×(List ae)×Unit):=ai E jL [.row 0,.fn 79 []] [(0,.row 61 av x0 false)]
noncomputable def Fc (x0:(List ae)) (x1:ah) (x2:aa_):Option (((List ae)×Unit)×Unit):=ai E Gr [.val (.slice 61 av) x0,.val ak x1,aY x2] []
noncomputable def uX (x0:(List ah)) (x1:ah):Option ((Int×Unit)×Unit):=ai E me [.val (.slice 39 ak) x0,.val ak x1] []
noncomputable def lJ (x0:(List ah)) (x1:ah):Option ((Bool×Unit)×Unit):=ai E pj [.val (.slice 39 ak) x0,.val ak x1] []
noncomputable def aG (x0:ah) (x1:aa_) (x2:(List ae)) (x3:(List am)) (x4:(List ah)):Option ((Bool×Unit)×((List ae)×(List am)×(List ah)×Unit)×Unit):=ai E xW [.ptr 0 cj [],.val ak x0,aY x1] [(0,.box cj (.strct [.row 1,.row 2,.row 3])),(1,.row 61 av x2 false),(2,.row 49 ay x3 false),(3,.row 39 ak x4 false)]
noncomputable def qf (x0:(List aZ)) (x1:Int) (x2:(List ae)) (x3:(List am)) (x4:(List ah)):Option ((Int×Int×Unit)×((List ae)×(List am)×(List ah)×Unit)×Unit):=ai E mQ [.ptr 0 cj [],.val (.slice 83 aW) x0,af x1] [(0,.box cj (.strct [.row 1,.row 2,.row 3])),(1,.row 61 av x2 false),(2,.row 49 ay x3 false),(3,.row 39 ak x4 false)]
noncomputable def wc (x0:(List ae)) (x1:(List aZ)) (x2:Int):Option (((List ae)×Int×Int×Unit)×Unit):=ai E D2 [.val (.slice 61 av) x0,.val (.slice 83 aW) x1,af x2] []
noncomputable def M3 (x0:(List ae)) (x1:(List aZ)) (x2:Int):Option ((Int×Unit)×Unit):=ai E MK [.val (.slice 61 av) x0,.val (.slice 83 aW) x1,af x2] []
noncomputable def nQ (x0:(List ah)) (x1:ah):Option ((Bool×Unit)×Unit):=ai E E3 [.val (.slice 39 ak) x0,.val ak x1] []
noncomputable def iz (x0:eB) (x1:ah) (x2:aa_):Option ((eB×Unit)×Unit):=ai E JW [.val bd x0,.val ak x1,aY x2] []
noncomputable def qg (x0:aa_):Option (((List ab)×Bool×Unit)×Unit):=ai E B7 [aY x0] []
noncomputable def Fd (x0:(List ab)):Option (((List am)×Unit)×Unit):=ai E zH [.val (.slice 182 au) x0] []
noncomputable def rg (x0:aa_):Option (((List am)×Unit)×Unit):=ai E Gx [aY x0] []
noncomputable def po (x0:ah) (x1:am):Option ((Bool×Unit)×Unit):=ai E Ea [.val ak x0,.val ay x1] []
noncomputable def zV (x0:eB) (x1:aa_):Option ((eB×Unit)×Unit):=ai E eL [.val bd x0,aY x1] []
noncomputable def LX (x0:(List aj)) (x1:ah):Option ((ac×Unit)×Unit):=ai E Ie [.val (.slice 221 aw) x0,.val ak x1] []
noncomputable def GJ (x0:(List ae)) (x1:ah):Option ((aa_×Unit)×Unit):=ai E Ig [.val (.slice 61 av) x0,.val ak x1] []
noncomputable def oO (x0:(List ae)) (x1:ah):Option (((List ah)×Unit)×Unit):=ai E tx [.val (.slice 61 av) x0,.val ak x1] []
noncomputable def wd (x0:(List ae)) (x1:ah):Option ((Bool×Unit)×Unit):=ai E rT [.val (.slice 61 av) x0,.val ak x1] []
noncomputable def lg (x0:(List aj)) (x1:aj):Option (((List aj)×Unit)×Unit):=ai E E6 [.val (.slice 221 aw) x0,.val aw x1] []
noncomputable def Cm (x0:(List aj)):Option ((Bool×Unit)×Unit):=ai E xb [.val (.slice 221 aw) x0] []
noncomputable def e8 (x0:(List ab)) (x1:Int) (x2:(List aj)):Option ((ac×Unit)×Unit):=ai E J2 [.val (.slice 182 au) x0,af x1,.val (.slice 221 aw) x2] []
noncomputable def Cn (x0:ac):Option ((Int×ac×Unit)×Unit):=ai E MW [.val aq x0] []
noncomputable def iT (x0:Int):Option ((ac×Unit)×Unit):=ai E MQ [af x0] []
noncomputable def zW (x0:ac):Option ((ac×Unit)×Unit):=ai E GB [.val aq x0] []
noncomputable def pp (x0:ac):Option ((Bool×ac×Unit)×Unit):=ai E JX [.val aq x0] []
noncomputable def jp (x0:Bool):Option ((ac×Unit)×Unit):=ai E Kg [cL x0] []
noncomputable def ym (x0 x1:ac):Option ((Int×Int×ac×Unit)×Unit):=ai E MX [.val aq x0,.val aq x1] []
noncomputable def Fe (x0 x1:ac):Option ((ac×Unit)×Unit):=ai E U3 [.val aq x0,.val aq x1] []
noncomputable def yn (x0:ac):Option ((aa_×ac×Unit)×Unit):=ai E Kh [.val aq x0] []
noncomputable def Im (x0:(List ab)) (x1:Int) (x2:(List aj)):Option (((List ac)×Unit)×Unit):=ai E v6 [.val (.slice 182 au) x0,af x1,.val (.slice 221 aw) x2] []
noncomputable def Io (x0:Int) (x1:(List ac)):Option ((ac×Unit)×Unit):=ai E Cf [af x0,.val (.slice 89 aq) x1] []
noncomputable def Rf (x0:(List ab)) (x1:Int) (x2:(List aj)):Option ((ac×Unit)×Unit):=ai E J6 [.val (.slice 182 au) x0,af x1,.val (.slice 221 aw) x2] []
noncomputable def Sz (x0 x1:ac):Option ((ac×Unit)×Unit):=ai E Q4 [.val aq x0,.val aq x1] []
noncomputable def M4 (x0 x1:ac):Option ((ac×Unit)×Unit):=ai E MT [.val aq x0,.val aq x1] []
noncomputable def SA (x0 x1:ac):Option ((ac×Unit)×Unit):=ai E Q5 [.val aq x0,.val aq x1] []
noncomputable def Ip (x0 x1:ac):Option ((ac×Unit)×Unit):=ai E J7 [.val aq x0,.val aq x1] []
noncomputable def Dz (x0 x1:ac):Option ((ac×Unit)×Unit):=ai E Ki [.val aq x0,.val aq x1] []
noncomputable def yo (x0 x1:Bool):Option ((Int×Unit)×Unit):=ai E Kj [cL x0,cL x1] []
noncomputable def M5 (x0 x1:ac):Option ((Int×Unit)×Unit):=ai E MY [.val aq x0,.val aq x1] []
noncomputable def SB (x0:Int) (x1 x2:ac):Option ((ac×Unit)×Unit):=ai E Q6 [af x0,.val aq x1,.val aq x2] []
noncomputable def tE (x0:(List ab)) (x1:(List aj)):Option ((ac×Unit)×Unit):=ai E QY [.val (.slice 182 au) x0,.val (.slice 221 aw) x1] []
noncomputable def DA (x0:(List ae)) (x1:(List aj)) (x2:(List ah)):Option (((List aj)×Unit)×Unit):=ai E kB [.val (.slice 61 av) x0,.val (.slice 221 aw) x1,.val (.slice 39 ak) x2] []
noncomputable def M6 (x0:(List ae)):Option (((List aj)×Unit)×Unit):=ai E E4 [.val (.slice 61 av) x0] []
noncomputable def we (x0:eB) (x1:aa_):Option ((ac×Unit)×Unit):=ai E D7 [.val bd x0,aY x1] []
noncomputable def Iq (x0:(List ae)) (x1:(List aZ)) (x2:Int):Option ((eB×Unit)×Unit):=ai E vW [.val (.slice 61 av) x0,.val (.slice 83 aW) x1,af x2] []
noncomputable def Co (x0:(List ae)) (x1:(List aZ)) (x2:Int):Option (((List ae)×Int×Int×Unit)×Unit):=ai E D3 [.val (.slice 61 av) x0,.val (.slice 83 aW) x1,af x2] []
noncomputable def fq (x0 x1:(List ae)):Option ((Bool×Unit)×Unit):=ai E uD [.val (.slice 61 av) x0,.val (.slice 61 av) x1] []
noncomputable def Ir (x0:(List ae)) (x1:(List aZ)) (x2:Int):Option (((List am)×(List ah)×Unit)×Unit):=ai E JS [.val (.slice 61 av) x0,.val (.slice 83 aW) x1,af x2] []
noncomputable def ep (x0:(List ah)):Option (Unit×(List ah)×Unit):=ai E dI [.row 0,.fn 32 []] [(0,.row 39 ak x0 false)]
noncomputable def kS (x0:(List ah)):Option (((List ah)×Unit)×Unit):=ai E ic [.row 0] [(0,.row 39 ak x0 false)]
noncomputable def It (x0:(List (List ae))):Option (((List ah)×Unit)×Unit):=ai E vY [.val (.slice 24 (.slice 61 av)) x0] []
noncomputable def wg (x0:(List ae)) (x1:ah):Option ((aa_×Unit)×Unit):=ai E w8 [.val (.slice 61 av) x0,.val ak x1] []
noncomputable def SC (x0 x1:(List ae)):Option (((List db)×Unit)×Unit):=ai E Ib [.val (.slice 61 av) x0,.val (.slice 61 av) x1] []
noncomputable def Iu (x0 x1:(List ae)):Option (((List db)×Unit)×Unit):=ai E JT [.val (.slice 61 av) x0,.val (.slice 61 av) x1] []
noncomputable def Iv (x0:(List ah)) (x1:ah):Option ((Bool×Unit)×Unit):=ai E BQ [.val (.slice 39 ak) x0,.val ak x1] []
noncomputable def wh (x0:(List Int)):Option ((Bool×Unit)×Unit):=ai E jY [.val (.slice 5 (.int .u8)) x0] []
noncomputable def SD:Code:=aP Tryz.f149
def unU (n:Nat):List SV:=List.replicate n .undef
noncomputable def xi (x0:Int) (x1:aa_):Option ((aa_×Unit)×Unit):=bo E zI [] SD 480 {slots:=[af x0,aa,aa,aY x1]++unU 18,res:=[],nx:=0,n0:=0}
noncomputable def Xq:Code:=aP Tryz.f43
noncomputable def sx (x0:Int) (x1:aa_):Option ((aa_×Unit)×Unit):=bo E E1 [] Xq 480 {slots:=[af x0,aa,aa,aY x1]++unU 25,res:=[],nx:=0,n0:=0}
noncomputable def M7:Code:=aP Tryz.f105
noncomputable def oj (x0 x1:Int) (x2:aJ):Option ((Int×Unit)×aJ×Unit):=bo E uI [(0,.box aE (aa))] M7 464 {slots:=[.ptr 0 aE [],aa,aa,.val (.int .u64) x0,af x1]++unU 11,res:=[(0,.box aE (.val aE x2))],nx:=1,n0:=1}
noncomputable def SE:Code:=aP Tryz.f125
noncomputable def rX (x0:aa_) (x1:Int):Option ((Bool×Unit)×Unit):=bo E zF [] SE 208 {slots:=[aY x0,aa,aa,af x1]++unU 19,res:=[],nx:=0,n0:=0}
noncomputable def Iw:Code:=aP Tryz.f142
noncomputable def lR (x0:aa_) (x1:Int) (x2:Bool) (x3:(List ab)):Option (Unit×(aa_×Int×Bool×(List ab)×Unit)×Unit):=bo E q9 [(0,.box bm (aa)),(1,.row 182 au [] false)] Iw 16 {slots:=[.ptr 0 bm []]++unU 30,res:=[(0,.box bm (.strct [aY x0,af x1,cL x2,.row 1])),(1,.row 182 au x3 false)],nx:=2,n0:=2}
noncomputable def PH:Code:=aP Tryz.f141
noncomputable def du (x0 x1:Int) (x2:aa_) (x3:Int) (x4:Bool) (x5:(List ab)):Option ((Int×Unit)×(aa_×Int×Bool×(List ab)×Unit)×Unit):=bo E xa [(0,.box bm (aa)),(1,.row 182 au [] false)] PH 992 {slots:=[.ptr 0 bm [],af x0,aa,aa,aa,af x1]++unU 37,res:=[(0,.box bm (.strct [aY x2,af x3,cL x4,.row 2])),(2,.row 182 au x5 false)],nx:=3,n0:=2}
noncomputable def M8:Code:=aP Tryz.f274
noncomputable def lh (x0 x1:aa_) (x2:Int) (x3:Bool) (x4:(List ab)):Option ((Int×Unit)×(aa_×Int×Bool×(List ab)×Unit)×Unit):=bo E uK [(0,.box bm (aa)),(1,.row 182 au [] false)] M8 224 {slots:=[.ptr 0 bm [],aa,aa,aY x0]++unU 89,res:=[(0,.box bm (.strct [aY x1,af x2,cL x3,.row 1])),(1,.row 182 au x4 false)],nx:=2,n0:=2}
noncomputable def M9:Code:=aP Tryz.f275
noncomputable def dU (x0:Int) (x1:aa_) (x2:Int) (x3:Bool) (x4:(List ab)):Option ((aa_×Unit)×(aa_×Int×Bool×(List ab)×Unit)×Unit):=bo E uL [(0,.box bm (aa)),(1,.row 182 au [] false)] M9 224 {slots:=[.ptr 0 bm [],aa,aa,af x0]++unU 91,res:=[(0,.box bm (.strct [aY x1,af x2,cL x3,.row 1])),(1,.row 182 au x4 false)],nx:=2,n0:=2}
noncomputable def SF:Code:=aP Tryz.f316
noncomputable def xj (x0:aa_) (x1:Int):Option ((Int×Unit)×Unit):=bo E zK [] SF 208 {slots:=[aY x0,aa,aa,af x1]++unU 9,res:=[],nx:=0,n0:=0}
noncomputable def Xr:Code:=aP Tryz.f185
noncomputable def pq (x0:aa_) (x1 x2:Int):Option ((Int×Bool×Unit)×Unit):=bo E E5 [] Xr 976 {slots:=[aY x0,aa,aa,aa,aa,aa,af x1,af x2]++unU 44,res:=[],nx:=0,n0:=0}
noncomputable def Na:Code:=aP Tryz.f277
noncomputable def jq (x0:aa_) (x1 x2 x3:Int) (x4 x5:Bool) (x6 x7:Int) (x8 x9:Bool):Option ((cl×Bool×Unit)×Unit):=bo E uM [] Na 992 {slots:=[aY x0,aa,.ptr 0 bR [],aa,.ptr 1 bR [],af x1]++unU 70,res:=[(0,.box bR (.strct [.strct [af x2,af x3],cL x4,cL x5])),(1,.box bR (.strct [.strct [af x6,af x7],cL x8,cL x9]))],nx:=2,n0:=0}
noncomputable def Cp:Code:=aP Tryz.f276
noncomputable def s6 (x0:Int) (x1:aa_) (x2:Int) (x3:Bool) (x4:(List ab)) (x5:(List Int)):Option ((Int×Unit)×(aa_×Int×Bool×(List ab)×Unit)×Unit):=bo E p6 [(0,.box bm (aa)),(1,.row 182 au [] false)] Cp 224 {slots:=[.ptr 0 bm [],af x0,aa,aa,aa,.row 2]++unU 24,res:=[(0,.box bm (.strct [aY x1,af x2,cL x3,.row 1])),(1,.row 182 au x4 false),(2,.row 2 (.int .i64) x5 false)],nx:=3,n0:=2}
noncomputable def Cq:Code:=aP Tryz.f128
noncomputable def aU (x0 x1:Int) (x2:aa_) (x3 x4:Int) (x5:aa_):Option ((ac×Bool×Unit)×Unit):=bo E p3 [] Cq 60 {slots:=[aa,aa,.ptr 0 aq [],aa,.ptr 1 aq []]++unU 71,res:=[(0,.box aq (.strct [af x0,af x1,aY x2])),(1,.box aq (.strct [af x3,af x4,aY x5]))],nx:=2,n0:=0}
noncomputable def fa (x0:aa_) (x1 x2 x3:Int) (x4:aa_) (x5 x6:Int) (x7:aa_):Option ((ac×Bool×Unit)×Unit):=bo E p3 [] Cq 475056 {slots:=[aY x0,aa,.ptr 0 aq [],aa,.ptr 1 aq [],af x1]++unU 70,res:=[(0,.box aq (.strct [af x2,af x3,aY x4])),(1,.box aq (.strct [af x5,af x6,aY x7]))],nx:=2,n0:=0}
noncomputable def Eg:Code:=aP Tryz.f201
noncomputable def jr (x0:Int) (x1:aa_) (x2:Int) (x3:Bool) (x4:(List ab)):Option ((Int×Unit)×(aa_×Int×Bool×(List ab)×Unit)×Unit):=bo E rS [(0,.box bm (aa)),(1,.row 182 au [] false)] Eg 212880 {slots:=[.ptr 0 bm [],aa,aa,aa,aa,af x0]++unU 140,res:=[(0,.box bm (.strct [aY x1,af x2,cL x3,.row 2])),(2,.row 182 au x4 false)],nx:=3,n0:=2}
noncomputable def fE (x0:aa_) (x1:Int) (x2:aa_) (x3:Int) (x4:Bool) (x5:(List ab)):Option ((Int×Unit)×(aa_×Int×Bool×(List ab)×Unit)×Unit):=bo E rS [(0,.box bm (aa)),(1,.row 182 au [] false)] Eg 976 {slots:=[.ptr 0 bm [],aa,aa,aa,aa,aa,aa,aY x0,af x1]++unU 137,res:=[(0,.box bm (.strct [aY x2,af x3,cL x4,.row 2])),(2,.row 182 au x5 false)],nx:=3,n0:=2}
noncomputable def GK:Code:=aP Tryz.f202
noncomputable def rY (x0 x1:Int) (x2:aa_) (x3:Int) (x4:Bool) (x5:(List ab)) (x6:(List Int)):Option ((Int×Unit)×(aa_×Int×Bool×(List ab)×Unit)×Unit):=bo E tw [(0,.box bm (aa)),(1,.row 182 au [] false)] GK 464 {slots:=[.ptr 0 bm [],af x0,aa,aa,aa,.row 2,af x1]++unU 27,res:=[(0,.box bm (.strct [aY x2,af x3,cL x4,.row 1])),(1,.row 182 au x5 false),(2,.row 2 (.int .i64) x6 false)],nx:=3,n0:=2}
noncomputable def U4:Code:=aP Tryz.f205
noncomputable def tF (x0:(List ab)) (x1 x2 x3:Int):Option ((Int×Unit)×Unit):=bo E Ca [] U4 464 {slots:=[.val (.slice 182 au) x0,af x1,aa,aa,aa,af x2,af x3]++unU 37,res:=[],nx:=0,n0:=0}
noncomputable def U5:Code:=aP Tryz.f206
noncomputable def tG (x0:(List ab)) (x1 x2 x3:Int):Option ((Int×Unit)×Unit):=bo E Cb [] U5 464 {slots:=[.val (.slice 182 au) x0,af x1,aa,aa,aa,af x2,af x3]++unU 24,res:=[],nx:=0,n0:=0}
noncomputable def Cr:Code:=aP Tryz.f143
noncomputable def eO (x0:(List ab)) (x1:Int):Option ((Bool×Unit)×Unit):=bo E p4 [] Cr 464 {slots:=[.val (.slice 182 au) x0,aa,aa,af x1]++unU 83,res:=[],nx:=0,n0:=0}
noncomputable def SG:Code:=aP Tryz.f252
noncomputable def nR (x0 x1:aa_) (x2:Int):Option ((aa_×Unit)×Unit):=bo E zJ [] SG 464 {slots:=[aY x0,aa,aa,aY x1,af x2]++unU 21,res:=[],nx:=0,n0:=0}
noncomputable def U6:Code:=aP Tryz.f184
noncomputable def nS (x0:(List ab)) (x1:aa_) (x2 x3 x4:Int) (x5:ac) (x6 x7:cl) (x8:(List Int)):Option ((aa_×Unit)×Unit):=bo E B8 [] U6 2000 {slots:=[.val (.slice 182 au) x0,aa,aa,aa,aa,aa,aa,.ptr 0 au [],aa,aa,aY x1,af x2]++unU 101,res:=[(0,.box au (.strct [af x3,af x4,.val aq x5,.val bR x6,.val bR x7,.val (.slice 2 (.int .i64)) x8]))],nx:=1,n0:=0}
noncomputable def PI:Code:=aP Tryz.f127
noncomputable def ki (x0:aa_) (x1:Bool) (x2 x3:Int) (x4:aa_):Option ((ac×Bool×Unit)×Unit):=bo E w9 [] PI 992 {slots:=[aY x0,aa,.ptr 0 aq [],aa,cL x1]++unU 43,res:=[(0,.box aq (.strct [af x2,af x3,aY x4]))],nx:=1,n0:=0}
noncomputable def SH:Code:=aP Tryz.f53
noncomputable def nT (x0:(List ae)) (x1:Int):Option ((Bool×Unit)×Unit):=bo E zE [] SH 464 {slots:=[.val (.slice 61 av) x0,aa,aa,af x1]++unU 67,res:=[],nx:=0,n0:=0}
noncomputable def Xs:Code:=aP Tryz.f83
noncomputable def iq (x0:(List ae)) (x1:aa_) (x2:Bool) (x3 x4 x5:Int) (x6:(List ae)):Option (((List ae)×Unit)×Unit):=bo E E2 [] Xs 976 {slots:=[.val (.slice 61 av) x0,aa,aY x1,aa,.ptr 0 ak [],aa,aa,.row 1,cL x2,af x3]++unU 50,res:=[(0,.box ak (.strct [af x4,af x5])),(1,.row 61 av x6 false)],nx:=2,n0:=0}
noncomputable def Lc:Code:=aP Tryz.f22
noncomputable def kj (x0:Int) (x1:aJ) (x2:(List ae)):Option (((List ae)×Unit)×aJ×Unit):=bo E sW [(0,.box aE (aa))] Lc 464 {slots:=[.ptr 0 aE [],aa,aa,aa,aa,.row 1,af x0]++unU 33,res:=[(0,.box aE (.val aE x1)),(1,.row 61 av x2 false)],nx:=2,n0:=1}
noncomputable def SI:Code:=aP Tryz.f45
noncomputable def ir (x0:(List aZ)) (x1:Int):Option ((Bool×Unit)×Unit):=bo E zC [] SI 464 {slots:=[.val (.slice 83 aW) x0,aa,aa,af x1]++unU 120,res:=[],nx:=0,n0:=0}
noncomputable def A4:Code:=aP Tryz.f23
noncomputable def d8 (x0:Int) (x1:aJ) (x2:(List aZ)):Option (((List aZ)×Unit)×aJ×Unit):=bo E og [(0,.box aE (aa))] A4 976 {slots:=[.ptr 0 aE [],aa,aa,.row 1,af x0]++unU 60,res:=[(0,.box aE (.val aE x1)),(1,.row 83 aW x2 false)],nx:=2,n0:=1}
noncomputable def Nb:Code:=aP Tryz.f62
noncomputable def ol (x0:Int) (x1:(List Int)) (x2 x3:Int):Option ((Int×Unit)×Unit):=bo E uE [] Nb 232 {slots:=[aa,aa,aa,af x0,aa,aa,.val (.slice 3 (.int .i64)) x1,af x2,af x3]++unU 9,res:=[],nx:=0,n0:=0}
noncomputable def U7:Code:=aP Tryz.f66
noncomputable def tH (x0:aa_) (x1 x2 x3:Int):Option ((Bool×Unit)×Unit):=bo E BZ [] U7 104 {slots:=[aY x0,af x1,aa,aa,aa,aa,aa,af x2,af x3]++unU 17,res:=[],nx:=0,n0:=0}
noncomputable def Ix:Code:=aP Tryz.f152
noncomputable def lS (x0 x1:Int) (x2:aa_) (x3:Bool) (x4:(List aa_)) (x5:(List ab)):Option ((aa_×Unit)×(aa_×(List ab)×Bool×Unit)×Unit):=bo E ra [(0,.box bz (aa)),(1,.row 182 au [] false)] Ix 232 {slots:=[.ptr 0 bz [],aa,aa,aa,aa,aa,aa,.row 2,af x0,af x1]++unU 11,res:=[(0,.box bz (.strct [aY x2,.row 3,cL x3])),(2,.row 9 .str x4 false),(3,.row 182 au x5 false)],nx:=4,n0:=2}
noncomputable def Ff:Code:=aP Tryz.f291
noncomputable def j0 (x0 x1 x2:aa_) (x3:Bool) (x4:(List ab)):Option ((Int×Unit)×(aa_×(List ab)×Bool×Unit)×Unit):=bo E oH [(0,.box bz (aa)),(1,.row 182 au [] false)] Ff 224 {slots:=[.ptr 0 bz [],aa,aa,aY x0,aY x1]++unU 38,res:=[(0,.box bz (.strct [aY x2,.row 1,cL x3])),(1,.row 182 au x4 false)],nx:=2,n0:=2}
noncomputable def Nc:Code:=aP Tryz.f75
noncomputable def gZ (x0:aa_) (x1 x2 x3:Int) (x4:aa_) (x5 x6:Int) (x7:aa_):Option ((ac×Bool×Unit)×Unit):=bo E uF [] Nc 120784 {slots:=[aY x0,aa,.ptr 0 aq [],aa,.ptr 1 aq [],aa,aa,af x1]++unU 56,res:=[(0,.box aq (.strct [af x2,af x3,aY x4])),(1,.box aq (.strct [af x5,af x6,aY x7]))],nx:=2,n0:=0}
noncomputable def SJ:Code:=aP Tryz.f320
noncomputable def xk (x0:aa_) (x1:Int):Option ((Int×Unit)×Unit):=bo E zL [] SJ 208 {slots:=[aY x0,aa,aa,af x1]++unU 9,res:=[],nx:=0,n0:=0}
noncomputable def uY:Code:=aP Tryz.f110
noncomputable def fC (x0 x1 x2:Int) (x3:aa_) (x4:Bool) (x5:(List ab)):Option ((Int×Unit)×(aa_×(List ab)×Bool×Unit)×Unit):=bo E kM [(0,.box bz (aa)),(1,.row 182 au [] false)] uY 224 {slots:=[.ptr 0 bz [],af x0,af x1,aa,aa,aa,aa,af x2]++unU 47,res:=[(0,.box bz (.strct [aY x3,.row 2,cL x4])),(2,.row 182 au x5 false)],nx:=3,n0:=2}
noncomputable def yp:Code:=aP Tryz.f295
noncomputable def wi (x0 x1:Int) (x2:aa_) (x3:Bool) (x4:(List ab)) (x5:(List Int)):Option ((Int×Unit)×(aa_×(List ab)×Bool×Unit)×Unit):=bo E mU [(0,.box bz (aa)),(1,.row 182 au [] false)] yp 480 {slots:=[.ptr 0 bz [],af x0,af x1,aa,aa,aa,aa,.row 2]++unU 59,res:=[(0,.box bz (.strct [aY x2,.row 1,cL x3])),(1,.row 182 au x4 false),(2,.row 2 (.int .i64) x5 false)],nx:=3,n0:=2}
noncomputable def cH (x0 x1:Int) (x2:aa_) (x3:Bool) (x4:(List Int)) (x5:(List ab)):Option ((Int×Unit)×(aa_×(List ab)×Bool×Unit)×Unit):=bo E mU [(0,.box bz (aa)),(1,.row 182 au [] false)] yp 480 {slots:=[.ptr 0 bz [],af x0,af x1,aa,aa,aa,aa,.row 2]++unU 59,res:=[(0,.box bz (.strct [aY x2,.row 3,cL x3])),(2,.row 2 (.int .i64) x4 false),(3,.row 182 au x5 false)],nx:=4,n0:=2}
noncomputable def yq:Code:=aP Tryz.f228
noncomputable def dD (x0 x1:Int) (x2:aa_) (x3:Bool) (x4:(List ab)):Option ((Int×Unit)×(aa_×(List ab)×Bool×Unit)×Unit):=bo E mS [(0,.box bz (aa)),(1,.row 182 au [] false)] yq 14800 {slots:=[.ptr 0 bz [],af x0,aa,aa,aa,af x1]++unU 114,res:=[(0,.box bz (.strct [aY x2,.row 2,cL x3])),(2,.row 182 au x4 false)],nx:=3,n0:=2}
noncomputable def dS (x0:Int) (x1:aa_) (x2:Int) (x3:aa_) (x4:Bool) (x5:(List ab)):Option ((Int×Unit)×(aa_×(List ab)×Bool×Unit)×Unit):=bo E mS [(0,.box bz (aa)),(1,.row 182 au [] false)] yq 8144 {slots:=[.ptr 0 bz [],af x0,aa,aa,aa,aa,aa,aa,aa,aY x1,aa,aa,aa,aa,af x2]++unU 105,res:=[(0,.box bz (.strct [aY x3,.row 2,cL x4])),(2,.row 182 au x5 false)],nx:=3,n0:=2}
noncomputable def Zp:Code:=aP Tryz.f158
noncomputable def rh (x0:(List ab)) (x1 x2 x3 x4:Int):Option ((Int×Unit)×Unit):=bo E Ic [] Zp 976 {slots:=[.val (.slice 182 au) x0,af x1,af x2,aa,aa,aa,aa,af x3,af x4]++unU 67,res:=[],nx:=0,n0:=0}
noncomputable def Iy:Code:=aP Tryz.f159
noncomputable def kT (x0:(List ab)) (x1:(List Int)) (x2 x3 x4 x5:Int) (x6:ac) (x7 x8:cl) (x9:(List Int)) (x10:(List aa_)):Option ((aa_×Unit)×Unit):=bo E rd [] Iy 1000 {slots:=[.val (.slice 182 au) x0,aa,aa,aa,aa,aa,aa,.ptr 0 au [],aa,aa,.row 1,aa,aa,aa,aa,aa,aa,aa,aa,aa,aa,aa,aa,aa,aa,aa,aa,aa,aa,aa,aa,aa,aa,aa,aa,aa,aa,aa,aa,aa,aa,aa,aa,aa,aa,aa,aa,aa,aa,aa,aa,aa,aa,aa,aa,aa,aa,aa,aa,aa,aa,aa,aa,aa,aa,aa,aa,aa,aa,aa,aa,aa,aa,aa,aa,aa,aa,aa,aa,aa,aa,aa,aa,aa,aa,aa,aa,aa,aa,aa,aa,aa,.val (.slice 2 (.int .i64)) x1,af x2,af x3]++unU 18,res:=[(0,.box au (.strct [af x4,af x5,.val aq x6,.val bR x7,.val bR x8,.val (.slice 2 (.int .i64)) x9])),(1,.row 9 .str x10 false)],nx:=2,n0:=0}
noncomputable def SK:Code:=aP Tryz.f13
noncomputable def nU (x0 x1:(List ae)) (x2 x3:Int):Option ((Bool×Unit)×Unit):=bo E zB [] SK 104 {slots:=[.val (.slice 61 av) x0,aa,aa,aa,aa,.val (.slice 61 av) x1,af x2,af x3]++unU 34,res:=[],nx:=0,n0:=0}
noncomputable def SL:Code:=aP Tryz.f46
noncomputable def rZ (x0 x1:(List aZ)) (x2 x3:Int):Option ((Bool×Unit)×Unit):=bo E zD [] SL 104 {slots:=[.val (.slice 83 aW) x0,aa,aa,aa,aa,.val (.slice 83 aW) x1,af x2,af x3]++unU 17,res:=[],nx:=0,n0:=0}
noncomputable def SM:Code:=aP Tryz.f132
noncomputable def lB (x0:(List ab)) (x1 x2:Int) (x3:(List am)):Option (((List am)×Unit)×Unit):=bo E zG [] SM 232 {slots:=[aa,aa,aa,.row 0,aa,aa,aa,.val (.slice 182 au) x0,af x1,af x2]++unU 18,res:=[(0,.row 49 ay x3 false)],nx:=1,n0:=0}
noncomputable def Bn:Code:=aP Tryz.f186
noncomputable def ft (x0:(List am)) (x1 x2:Int) (x3 x4:ah):Option ((Int×Unit)×Unit):=bo E lI [] Bn 104 {slots:=[.val (.slice 49 ay) x0,aa,aa,.ptr 0 ay [],aa,aa,aa,af x1,af x2]++unU 10,res:=[(0,.box ay (.strct [.val ak x3,.val ak x4]))],nx:=1,n0:=0}
noncomputable def tn:Code:=aP Tryz.f130
noncomputable def jB (x0:(List am)) (x1 x2:Int) (x3:(List am)):Option (Unit×(List am)×Unit):=bo E jZ [(0,.box (.slice 49 ay) (aa)),(1,.row 49 ay [] false)] tn 24 {slots:=[aa,.ptr 0 (.slice 49 ay) [],aa,aa,aa,.val (.slice 49 ay) x0,af x1,af x2]++unU 12,res:=[(0,.box (.slice 49 ay) (.row 1)),(1,.row 49 ay x3 false)],nx:=2,n0:=2}
noncomputable def lT:Code:=aP Tryz.f87
noncomputable def iU (x0:Int) (x1:(List ae)) (x2:(List am)) (x3:(List ah)) (x4:(List am)):Option (Unit×((List ae)×(List am)×(List ah)×Unit)×Unit):=bo E gM [(0,.box cj (aa)),(1,.row 61 av [] false),(2,.row 49 ay [] false),(3,.row 39 ak [] false)] lT 976 {slots:=[.ptr 0 cj [],aa,aa,aa,.ptr 4 (.slice 49 ay) [],.fn 130 [.ptr 4 (.slice 49 ay) []],af x0]++unU 69,res:=[(0,.box cj (.strct [.row 1,.row 2,.row 3])),(1,.row 61 av x1 false),(2,.row 49 ay x2 false),(3,.row 39 ak x3 false),(4,.box (.slice 49 ay) (.row 5)),(5,.row 49 ay x4 false)],nx:=6,n0:=4}
noncomputable def np:Code:=aP Tryz.f314
noncomputable def eT (x0:(List am)) (x1 x2 x3 x4:Int):Option ((Int×Unit)×ah×Unit):=bo E fK [(0,.box ak (aa))] np 104 {slots:=[.val (.slice 49 ay) x0,.fn 271 [.ptr 0 ak []],aa,aa,aa,aa,aa,af x1,af x2]++unU 10,res:=[(0,.box ak (.strct [af x3,af x4]))],nx:=1,n0:=1}
noncomputable def Eh:Code:=aP Tryz.f136
noncomputable def mj (x0 x1:(List ae)) (x2 x3:Int) (x4 x5:(List ae)) (x6:(List (List ab))) (x7:(List (List Int))) (x8:(List (List ab))) (x9:(List (List Int))):Option ((((List ae)×(List (List ab))×(List (List Int))×Unit)×Unit)×Unit):=bo E rR [] Eh 232 {slots:=[.val (.slice 61 av) x0,aa,.ptr 0 bU [],.ptr 1 bU [],aa,aa,aa,aa,aa,aa,aa,aa,aa,aa,.val (.slice 61 av) x1,af x2,af x3]++unU 42,res:=[(0,.box bU (.strct [.row 2,.row 3,.row 4])),(1,.box bU (.strct [.val (.slice 61 av) x4,.row 5,.row 6])),(2,.row 61 av x5 false),(3,.row 108 (.slice 182 au) x6 false),(4,.row 135 (.slice 3 (.int .i64)) x7 false),(5,.row 108 (.slice 182 au) x8 false),(6,.row 135 (.slice 3 (.int .i64)) x9 false)],nx:=7,n0:=0}
noncomputable def GL:Code:=aP Tryz.f200
noncomputable def f0 (x0 x1:Int) (x2:(List ae)) (x3:(List (List ab))) (x4:(List (List Int))) (x5:(List Bool)) (x6:(List Int)):Option ((Bool×Unit)×Unit):=bo E p5 [] GL 976 {slots:=[aa,af x0,.ptr 0 bU [],aa,aa,.row 1,.row 2,af x1]++unU 39,res:=[(0,.box bU (.strct [.val (.slice 61 av) x2,.val (.slice 108 (.slice 182 au)) x3,.val (.slice 135 (.slice 3 (.int .i64))) x4])),(1,.row 4 .bool x5 false),(2,.row 3 (.int .i64) x6 false)],nx:=3,n0:=0}
noncomputable def nD:Code:=aP Tryz.f199
noncomputable def d9 (x0:Int) (x1:(List Int)) (x2 x3:Int) (x4:(List ae)) (x5:(List (List ab))) (x6:(List (List Int))) (x7:(List Bool)) (x8:(List aj)):Option (Unit×(List Bool)×md×(List aj)×Unit):=bo E fz [(0,.box (.slice 4 .bool) (aa)),(1,.box bU (aa)),(2,.box (.slice 221 aw) (aa)),(3,.keepF 199 []),(4,.row 4 .bool [] false),(5,.row 221 aw [] false)] nD 7656 {slots:=[af x0,aa,.ptr 1 bU [],.ptr 2 (.slice 221 aw) [],.ptr 3 .fn [],aa,aa,aa,aa,aa,aa,aa,aa,aa,aa,aa,aa,aa,aa,.val (.slice 3 (.int .i64)) x1,af x2,af x3]++unU 49,res:=[(0,.box (.slice 4 .bool) (.row 4)),(1,.box bU (.strct [.val (.slice 61 av) x4,.val (.slice 108 (.slice 182 au)) x5,.val (.slice 135 (.slice 3 (.int .i64))) x6])),(2,.box (.slice 221 aw) (.row 5)),(3,.keepF 199 [.ptr 0 (.slice 4 .bool) [],.ptr 1 bU [],.ptr 2 (.slice 221 aw) [],.ptr 3 .fn []]),(4,.row 4 .bool x7 false),(5,.row 221 aw x8 false)],nx:=6,n0:=6}
noncomputable def cn (x0:Int) (x1:(List Int)) (x2 x3:Int) (x4:md) (x5:(List Bool)) (x6:(List aj)):Option (Unit×(List Bool)×md×(List aj)×Unit):=bo E fz [(0,.box (.slice 4 .bool) (aa)),(1,.box bU (aa)),(2,.box (.slice 221 aw) (aa)),(3,.keepF 199 []),(4,.row 4 .bool [] false),(5,.row 221 aw [] false)] nD 7656 {slots:=[af x0,aa,.ptr 1 bU [],.ptr 2 (.slice 221 aw) [],.ptr 3 .fn [],aa,aa,aa,aa,aa,aa,aa,aa,aa,aa,aa,aa,aa,aa,.val (.slice 3 (.int .i64)) x1,af x2,af x3]++unU 49,res:=[(0,.box (.slice 4 .bool) (.row 4)),(1,.box bU (.val bU x4)),(2,.box (.slice 221 aw) (.row 5)),(3,.keepF 199 [.ptr 0 (.slice 4 .bool) [],.ptr 1 bU [],.ptr 2 (.slice 221 aw) [],.ptr 3 .fn []]),(4,.row 4 .bool x5 false),(5,.row 221 aw x6 false)],nx:=6,n0:=6}
noncomputable def U8:Code:=aP Tryz.f188
noncomputable def tI (x0:(List aj)) (x1 x2 x3 x4 x5 x6:Int) (x7:aa_):Option ((ac×Unit)×Unit):=bo E B9 [] U8 104 {slots:=[aa,aa,aa,.ptr 0 ak [],.ptr 1 aq [],aa,aa,.val (.slice 221 aw) x0,af x1,af x2]++unU 11,res:=[(0,.box ak (.strct [af x3,af x4])),(1,.box aq (.strct [af x5,af x6,aY x7]))],nx:=2,n0:=0}
noncomputable def Ei:Code:=aP Tryz.f258
noncomputable def kk (x0:(List ab)) (x1:(List aj)) (x2:(List Int)) (x3 x4:Int) (x5:(List ac)):Option (((List ac)×Unit)×Unit):=bo E rU [] Ei 232 {slots:=[.val (.slice 182 au) x0,aa,.val (.slice 221 aw) x1,aa,aa,aa,aa,.row 0,aa,aa,aa,aa,aa,aa,.val (.slice 2 (.int .i64)) x2,af x3,af x4]++unU 38,res:=[(0,.row 89 aq x5 false)],nx:=1,n0:=0}
noncomputable def PJ:Code:=aP Tryz.f257
noncomputable def iV (x0:Int) (x1 x2:Bool) (x3:(List ac)) (x4 x5 x6 x7:Int) (x8:aa_):Option ((ac×Unit)×Unit):=bo E xc [] PJ 232 {slots:=[af x0,aa,aa,aa,.ptr 0 aq [],cL x1,cL x2,aa,aa,aa,aa,.val (.slice 89 aq) x3,af x4,af x5]++unU 27,res:=[(0,.box aq (.strct [af x6,af x7,aY x8]))],nx:=1,n0:=0}
noncomputable def U9 (x0 x1:Int):Option ((ac×Unit)×Unit):=ai E MU [af x0,af x1] []
noncomputable def Va:Code:=aP Tryz.f259
noncomputable def qh (x0:(List ac)) (x1 x2 x3 x4:Int) (x5:aa_) (x6 x7:Int) (x8:aa_):Option ((ac×Unit)×Unit):=bo E Cd [] Va 232 {slots:=[aa,aa,.ptr 0 aq [],.ptr 1 aq [],aa,aa,aa,.val (.slice 89 aq) x0,af x1,af x2]++unU 19,res:=[(0,.box aq (.strct [af x3,af x4,aY x5])),(1,.box aq (.strct [af x6,af x7,aY x8]))],nx:=2,n0:=0}
noncomputable def PK:Code:=aP Tryz.f260
noncomputable def fu (x0 x1 x2 x3:Int) (x4:(List ac)) (x5 x6 x7 x8:Int) (x9:aa_):Option ((ac×Unit)×Unit):=bo E xe [] PK 232 {slots:=[af x0,aa,aa,aa,.ptr 0 aq [],af x1,af x2,af x3,aa,aa,.val (.slice 89 aq) x4,af x5,af x6]++unU 42,res:=[(0,.box aq (.strct [af x7,af x8,aY x9]))],nx:=1,n0:=0}
noncomputable def Nd (x0 x1:Int):Option ((ac×Unit)×Unit):=ai E GE [af x0,af x1] []
noncomputable def Rg (x0 x1:Int):Option ((ac×Unit)×Unit):=ai E Kc [af x0,af x1] []
noncomputable def qi:Code:=aP Tryz.f137
noncomputable def iW (x0:(List ac)) (x1:(List ae)) (x2 x3:Int) (x4:(List ae)) (x5:(List (List ab))) (x6:(List (List Int))) (x7:(List Bool)) (x8:(List aj)):Option (((List aj)×Unit)×Unit):=bo E jx [] qi 232 {slots:=[aa,aa,.val (.slice 89 aq) x0,.ptr 0 bU [],aa,aa,aa,.ptr 1 (.slice 4 .bool) [],.ptr 2 (.slice 221 aw) [],aa,aa,aa,aa,aa,aa,aa,aa,aa,aa,aa,.val (.slice 61 av) x1,af x2,af x3]++unU 26,res:=[(0,.box bU (.strct [.val (.slice 61 av) x4,.val (.slice 108 (.slice 182 au)) x5,.val (.slice 135 (.slice 3 (.int .i64))) x6])),(1,.box (.slice 4 .bool) (.row 3)),(2,.box (.slice 221 aw) (.row 4)),(3,.row 4 .bool x7 false),(4,.row 221 aw x8 false)],nx:=5,n0:=0}
noncomputable def nq:Code:=aP Tryz.f122
noncomputable def gN (x0:(List ae)) (x1 x2 x3 x4:Int):Option ((Int×Unit)×ah×Unit):=bo E fJ [(0,.box ak (aa))] nq 104 {slots:=[.val (.slice 61 av) x0,.fn 77 [.ptr 0 ak []],aa,aa,aa,aa,aa,af x1,af x2]++unU 10,res:=[(0,.box ak (.strct [af x3,af x4]))],nx:=1,n0:=1}
noncomputable def uZ:Code:=aP Tryz.f76
noncomputable def cg (x0 x1:Int) (x2:(List ae)) (x3:ah):Option (((List ae)×Unit)×ah×Unit):=bo E iJ [(0,.row 61 av [] false),(1,.box ak (aa))] uZ 976 {slots:=[.row 0,.fn 77 [.ptr 1 ak []],aa,aa,aa,af x0,af x1]++unU 35,res:=[(0,.row 61 av x2 false),(1,.box ak (.val ak x3))],nx:=2,n0:=2}
noncomputable def Cs:Code:=aP Tryz.f138
noncomputable def fR (x0:(List ah)) (x1 x2 x3 x4:Int):Option ((Int×Unit)×Unit):=bo E me [] Cs 104 {slots:=[.val (.slice 39 ak) x0,aa,aa,.ptr 0 ak [],aa,aa,aa,af x1,af x2]++unU 10,res:=[(0,.box ak (.strct [af x3,af x4]))],nx:=1,n0:=0}
noncomputable def yr:Code:=aP Tryz.f27
noncomputable def lU (x0:(List aZ)) (x1 x2 x3:Int) (x4:(List ae)) (x5:(List am)) (x6:(List ah)):Option ((Int×Int×Unit)×((List ae)×(List am)×(List ah)×Unit)×Unit):=bo E mQ [(0,.box cj (aa)),(1,.row 61 av [] false),(2,.row 49 ay [] false),(3,.row 39 ak [] false)] yr 464 {slots:=[.ptr 0 cj [],.val (.slice 83 aW) x0,af x1,aa,aa,aa,aa,aa,af x2,af x3]++unU 94,res:=[(0,.box cj (.strct [.row 1,.row 2,.row 3])),(1,.row 61 av x4 false),(2,.row 49 ay x5 false),(3,.row 39 ak x6 false)],nx:=4,n0:=4}
noncomputable def Xt:Code:=aP Tryz.f93
noncomputable def wj (x0:(List ah)) (x1 x2 x3:Int):Option ((Bool×Unit)×Unit):=bo E E3 [] Xt 208 {slots:=[.val (.slice 39 ak) x0,aa,aa,.ptr 0 ak [],aa,af x1]++unU 12,res:=[(0,.box ak (.strct [af x2,af x3]))],nx:=1,n0:=0}
noncomputable def SN:Code:=aP Tryz.f140
noncomputable def lC (x0:(List ab)) (x1:Int) (x2:(List am)):Option (((List am)×Unit)×Unit):=bo E zH [] SN 976 {slots:=[.val (.slice 182 au) x0,aa,aa,.row 0,af x1]++unU 53,res:=[(0,.row 49 ay x2 false)],nx:=1,n0:=0}
noncomputable def gi:Code:=aP Tryz.f56
noncomputable def lD (x0:Int) (x1:(List ae)) (x2 x3 x4:Int) (x5:(List am)) (x6:(List ah)) (x7 x8 x9:Int) (x10:(List am)) (x11:(List ae)) (x12:(List am)) (x13:(List ah)):Option ((eB×Unit)×Unit):=bo E eL [] gi 464 {slots:=[aa,aa,.ptr 0 bd [],aa,.ptr 1 bd [],.row 2,af x0]++unU 109,res:=[(0,.box bd (.strct [.val (.slice 61 av) x1,af x2,af x3,af x4,.val (.slice 49 ay) x5,.val (.slice 39 ak) x6])),(1,.box bd (.strct [.row 3,af x7,af x8,af x9,.row 4,.row 5])),(2,.row 49 ay x10 false),(3,.row 61 av x11 false),(4,.row 49 ay x12 false),(5,.row 39 ak x13 false)],nx:=6,n0:=0}
noncomputable def Zq:Code:=aP Tryz.f207
noncomputable def zX (x0:(List aj)) (x1 x2 x3 x4 x5:Int) (x6:aa_):Option ((ac×Unit)×Unit):=bo E Ie [] Zq 208 {slots:=[.val (.slice 221 aw) x0,aa,aa,.ptr 0 ak [],.ptr 1 aq [],af x1]++unU 19,res:=[(0,.box ak (.strct [af x2,af x3])),(1,.box aq (.strct [af x4,af x5,aY x6]))],nx:=2,n0:=0}
noncomputable def Zr:Code:=aP Tryz.f216
noncomputable def zY (x0:(List ae)) (x1 x2 x3:Int):Option ((aa_×Unit)×Unit):=bo E Ig [] Zr 208 {slots:=[.val (.slice 61 av) x0,aa,aa,.ptr 0 ak [],aa,af x1]++unU 18,res:=[(0,.box ak (.strct [af x2,af x3]))],nx:=1,n0:=0}
noncomputable def GM:Code:=aP Tryz.f218
noncomputable def jP (x0:(List ae)) (x1:Int) (x2:(List ah)) (x3:(List am)):Option (((List ah)×Unit)×Unit):=bo E tx [] GM 976 {slots:=[.val (.slice 61 av) x0,aa,aa,aa,aa,.row 0,.row 1,af x1]++unU 42,res:=[(0,.row 39 ak x2 false),(1,.row 49 ay x3 false)],nx:=2,n0:=0}
noncomputable def Ej:Code:=aP Tryz.f217
noncomputable def ml (x0:(List ae)) (x1 x2 x3:Int) (x4:(List ah)):Option ((Bool×Unit)×Unit):=bo E rT [] Ej 464 {slots:=[.val (.slice 61 av) x0,aa,aa,.ptr 0 ak [],aa,.row 1,af x1]++unU 43,res:=[(0,.box ak (.strct [af x2,af x3])),(1,.row 39 ak x4 false)],nx:=2,n0:=0}
noncomputable def Xu:Code:=aP Tryz.f219
noncomputable def wk (x0:(List aj)) (x1:Int) (x2:ah) (x3:ac):Option (((List aj)×Unit)×Unit):=bo E E6 [] Xu 224 {slots:=[.val (.slice 221 aw) x0,aa,aa,.ptr 0 aw [],aa,af x1]++unU 31,res:=[(0,.box aw (.strct [.val ak x2,.val aq x3]))],nx:=1,n0:=0}
noncomputable def PL:Code:=aP Tryz.f144
noncomputable def mm (x0:(List aj)) (x1:Int):Option ((Bool×Unit)×Unit):=bo E xb [] PL 464 {slots:=[.val (.slice 221 aw) x0,aa,aa,af x1]++unU 44,res:=[],nx:=0,n0:=0}
noncomputable def Km:Code:=aP Tryz.f284
noncomputable def m7 (x0:(List ab)) (x1:Int) (x2:(List aj)) (x3:Int) (x4:(List ac)):Option (((List ac)×Unit)×Unit):=bo E v6 [] Km 464 {slots:=[.val (.slice 182 au) x0,af x1,.val (.slice 221 aw) x2,aa,aa,aa,aa,.row 0,af x3]++unU 71,res:=[(0,.row 89 aq x4 false)],nx:=1,n0:=0}
noncomputable def Vb:Code:=aP Tryz.f283
noncomputable def bB (x0:Int) (x1:(List ac)) (x2:Int) (x3 x4:Bool) (x5 x6 x7:Int) (x8:aa_) (x9 x10:Int) (x11:aa_):Option ((ac×Unit)×Unit):=bo E Cf [] Vb 4048 {slots:=[af x0,.val (.slice 89 aq) x1,aa,aa,.ptr 0 aq [],.ptr 1 aq [],af x2,cL x3,cL x4,af x5]++unU 100,res:=[(0,.box aq (.strct [af x6,af x7,aY x8])),(1,.box aq (.strct [af x9,af x10,aY x11]))],nx:=2,n0:=0}
noncomputable def pu:Code:=aP Tryz.f147
noncomputable def qj (x0:(List ae)) (x1:(List aj)) (x2:(List ah)) (x3:Int) (x4:(List aj)) (x5:(List ah)):Option (((List aj)×Unit)×Unit):=bo E kB [] pu 976 {slots:=[.val (.slice 61 av) x0,.val (.slice 221 aw) x1,.val (.slice 39 ak) x2,aa,aa,aa,aa,.row 0,.row 1,af x3]++unU 136,res:=[(0,.row 221 aw x4 false),(1,.row 39 ak x5 false)],nx:=2,n0:=0}
noncomputable def Xv:Code:=aP Tryz.f98
noncomputable def wl (x0:(List ae)) (x1:Int) (x2:(List ah)):Option (((List aj)×Unit)×Unit):=bo E E4 [] Xv 464 {slots:=[.val (.slice 61 av) x0,aa,aa,.row 0,af x1]++unU 18,res:=[(0,.row 39 ak x2 false)],nx:=1,n0:=0}
noncomputable def Kn:Code:=aP Tryz.f29
noncomputable def zZ (x0:(List aZ)) (x1 x2 x3 x4 x5 x6 x7:Int) (x8:(List ae)) (x9:(List am)) (x10:(List ah)) (x11:(List ae)) (x12:(List am)) (x13:(List ah)):Option ((eB×Unit)×Unit):=bo E vW [] Kn 224 {slots:=[aa,.val (.slice 83 aW) x0,af x1,aa,aa,aa,.ptr 0 bd [],.ptr 1 bd []]++unU 106,res:=[(0,.box bd (.strct [.row 2,af x2,af x3,af x4,.row 3,.row 4])),(1,.box bd (.strct [.row 5,af x5,af x6,af x7,.row 6,.row 7])),(2,.row 61 av x8 false),(3,.row 49 ay x9 false),(4,.row 39 ak x10 false),(5,.row 61 av x11 false),(6,.row 49 ay x12 false),(7,.row 39 ak x13 false)],nx:=8,n0:=0}
noncomputable def Nf:Code:=aP Tryz.f9
noncomputable def om (x0 x1:(List ae)) (x2:Int):Option ((Bool×Unit)×Unit):=bo E uD [] Nf 464 {slots:=[.val (.slice 61 av) x0,.val (.slice 61 av) x1,aa,aa,aa,af x2]++unU 20,res:=[],nx:=0,n0:=0}
noncomputable def qk:Code:=aP Tryz.f103
noncomputable def fL (x0:Int) (x1:(List ah)):Option (((List ah)×Unit)×Unit):=bo E ic [(0,.row 39 ak [] false)] qk 464 {slots:=[.row 0,aa,aa,af x0]++unU 57,res:=[(0,.row 39 ak x1 false)],nx:=1,n0:=1}
noncomputable def Ko:Code:=aP Tryz.f61
noncomputable def ql (x0:(List (List ae))) (x1 x2:Int) (x3:(List ah)):Option (((List ah)×Unit)×Unit):=bo E vY [] Ko 232 {slots:=[aa,aa,aa,.row 0,aa,aa,aa,aa,aa,.val (.slice 24 (.slice 61 av)) x0,af x1,af x2]++unU 20,res:=[(0,.row 39 ak x3 false)],nx:=1,n0:=0}
noncomputable def PM:Code:=aP Tryz.f40
noncomputable def qm (x0:(List ae)) (x1 x2 x3 x4:Int):Option ((aa_×Unit)×Unit):=bo E w8 [] PM 104 {slots:=[aa,aa,aa,.ptr 0 ak [],aa,aa,aa,.val (.slice 61 av) x0,af x1,af x2]++unU 10,res:=[(0,.box ak (.strct [af x3,af x4]))],nx:=1,n0:=0}
noncomputable def Zs:Code:=aP Tryz.f30
noncomputable def u3 (x0 x1:(List ae)) (x2 x3:Int) (x4:(List db)) (x5:(List ah)):Option (((List db)×Unit)×Unit):=bo E Ib [] Zs 232 {slots:=[.val (.slice 61 av) x0,.val (.slice 61 av) x1,aa,aa,aa,.row 0,aa,aa,aa,aa,aa,aa,aa,aa,.row 1,af x2,af x3]++unU 21,res:=[(0,.row 41 mP x4 false),(1,.row 39 ak x5 false)],nx:=2,n0:=0}
noncomputable def Vc:Code:=aP Tryz.f12
noncomputable def tJ (x0:(List ah)) (x1 x2 x3:Int):Option ((Bool×Unit)×Unit):=bo E BQ [] Vc 208 {slots:=[.val (.slice 39 ak) x0,aa,aa,.ptr 0 ak [],aa,af x1]++unU 12,res:=[(0,.box ak (.strct [af x2,af x3]))],nx:=1,n0:=0}
noncomputable def DN:Code:=aP Tryz.f3
noncomputable def fU (x0:(List aZ)) (x1 x2 x3:Int) (x4 x5:(List ae)) (x6:(List ah)) (x7:(List db)):Option ((Bool×Unit)×Unit):=bo E jY [] DN 65488 {slots:=[aa,aa,aa,.row 0,.val (.slice 83 aW) x0,af x1,.row 1,aa,af x2,aa,aa,aa,aa,.row 2,.row 3,af x3]++unU 125,res:=[(0,.row 61 av x4 true),(1,.row 61 av x5 false),(2,.row 39 ak x6 false),(3,.row 41 mP x7 false)],nx:=4,n0:=0}
noncomputable def de (x0:Int) (x1:aa_) (x2:Int) (x3:Bool) (x4:(List Int)) (x5:(List ab)):Option ((Int×Unit)×(aa_×Int×Bool×(List ab)×Unit)×Unit):=bo E p6 [(0,.box bm (aa)),(1,.row 182 au [] false)] Cp 224 {slots:=[.ptr 0 bm [],af x0,aa,aa,aa,.row 2]++unU 24,res:=[(0,.box bm (.strct [aY x1,af x2,cL x3,.row 3])),(2,.row 2 (.int .i64) x4 false),(3,.row 182 au x5 false)],nx:=4,n0:=2}
noncomputable def mn (x0 x1:Int) (x2:aa_) (x3:Int) (x4:Bool) (x5:(List Int)) (x6:(List ab)):Option ((Int×Unit)×(aa_×Int×Bool×(List ab)×Unit)×Unit):=bo E tw [(0,.box bm (aa)),(1,.row 182 au [] false)] GK 464 {slots:=[.ptr 0 bm [],af x0,aa,aa,aa,.row 2,af x1]++unU 27,res:=[(0,.box bm (.strct [aY x2,af x3,cL x4,.row 3])),(2,.row 2 (.int .i64) x5 false),(3,.row 182 au x6 false)],nx:=4,n0:=2}
noncomputable def li (x0:(List ab)) (x1 x2:Int):Option ((Bool×Unit)×Unit):=bo E p4 [] Cr 59696 {slots:=[.val (.slice 182 au) x0,aa,aa,af x1,af x2]++unU 82,res:=[],nx:=0,n0:=0}
noncomputable def jC (x0:Int) (x1:aJ) (x2:(List aZ)):Option (((List aZ)×Unit)×aJ×Unit):=bo E og [(0,.box aE (aa))] A4 976 {slots:=[.ptr 0 aE [],aa,aa,.row 1,af x0]++unU 60,res:=[(0,.box aE (.val aE x1)),(1,.row 83 aW x2 true)],nx:=2,n0:=1}
noncomputable def cy (x0 x1 x2 x3 x4:Int) (x5:aa_) (x6:Bool) (x7:(List ab)):Option ((Int×Unit)×(aa_×(List ab)×Bool×Unit)×Unit):=bo E kM [(0,.box bz (aa)),(1,.row 182 au [] false)] uY 29008 {slots:=[.ptr 0 bz [],af x0,af x1,aa,aa,aa,aa,af x2,af x3,af x4]++unU 45,res:=[(0,.box bz (.strct [aY x5,.row 2,cL x6])),(2,.row 182 au x7 false)],nx:=3,n0:=2}
noncomputable def fV (x0:(List am)) (x1 x2:Int) (x3:(List am)):Option (Unit×(List am)×Unit):=bo E jZ [(0,.box (.slice 49 ay) (aa)),(1,.row 49 ay [] false)] tn 24 {slots:=[aa,.ptr 0 (.slice 49 ay) [],aa,aa,aa,.val (.slice 49 ay) x0,af x1,af x2]++unU 12,res:=[(0,.box (.slice 49 ay) (.row 2)),(2,.row 49 ay x3 false)],nx:=3,n0:=2}
noncomputable def iX (x0 x1 x2:Int) (x3:(List ae)) (x4:(List am)) (x5:(List ah)) (x6:(List am)):Option (Unit×((List ae)×(List am)×(List ah)×Unit)×Unit):=bo E gM [(0,.box cj (aa)),(1,.row 61 av [] false),(2,.row 49 ay [] false),(3,.row 39 ak [] false)] lT 31304 {slots:=[.ptr 0 cj [],aa,aa,aa,.ptr 4 (.slice 49 ay) [],.fn 130 [.ptr 4 (.slice 49 ay) []],af x0,aa,aa,aa,aa,aa,aa,aa,aa,aa,aa,aa,aa,aa,aa,aa,aa,aa,aa,aa,aa,aa,.row 1,af x1,af x2]++unU 45,res:=[(0,.box cj (.strct [.row 1,.row 2,.row 3])),(1,.row 61 av x3 false),(2,.row 49 ay x4 false),(3,.row 39 ak x5 false),(4,.box (.slice 49 ay) (.row 5)),(5,.row 49 ay x6 false)],nx:=6,n0:=4}
noncomputable def hZ (x0 x1:Int) (x2:(List ae)) (x3:(List am)) (x4:(List ah)) (x5:(List am)):Option (Unit×((List ae)×(List am)×(List ah)×Unit)×Unit):=bo E gM [(0,.box cj (aa)),(1,.row 61 av [] false),(2,.row 49 ay [] false),(3,.row 39 ak [] false)] lT 504 {slots:=[.ptr 0 cj [],aa,aa,aa,aa,aa,aa,aa,aa,aa,aa,aa,aa,aa,aa,aa,aa,aa,aa,aa,aa,aa,aa,aa,aa,aa,aa,aa,aa,aa,aa,aa,aa,aa,aa,aa,aa,aa,aa,aa,aa,aa,aa,aa,aa,aa,aa,aa,aa,aa,aa,aa,.row 4,af x0,af x1]++unU 21,res:=[(0,.box cj (.strct [.row 1,.row 2,.row 3])),(1,.row 61 av x2 false),(2,.row 49 ay x3 false),(3,.row 39 ak x4 false),(4,.row 49 ay x5 false)],nx:=5,n0:=4}
noncomputable def ce (x0:(List am)) (x1 x2:Int) (x3:ah):Option ((Int×Unit)×ah×Unit):=bo E fK [(0,.box ak (aa))] np 104 {slots:=[.val (.slice 49 ay) x0,.fn 271 [.ptr 0 ak []],aa,aa,aa,aa,aa,af x1,af x2]++unU 10,res:=[(0,.box ak (.val ak x3))],nx:=1,n0:=1}
noncomputable def mo (x0 x1:(List ae)) (x2 x3:Int) (x4:(List ae)) (x5 x6:Int) (x7:(List ae)) (x8:(List ab)) (x9:(List am)) (x10:(List Int)) (x11:(List ae)) (x12:(List (List ab))) (x13:(List (List Int))) (x14:(List (List ab))) (x15:(List (List Int))):Option ((((List ae)×(List (List ab))×(List (List Int))×Unit)×Unit)×Unit):=bo E rR [] Eh 478440 {slots:=[.val (.slice 61 av) x0,aa,.ptr 0 bU [],.ptr 1 bU [],aa,aa,.row 2,aa,.row 3,.row 4,aa,aa,aa,aa,.val (.slice 61 av) x1,af x2,af x3,aa,aa,aa,aa,aa,aa,aa,aa,aa,aa,aa,aa,.val (.slice 61 av) x4,af x5,af x6]++unU 27,res:=[(0,.box bU (.strct [.row 5,.row 6,.row 7])),(1,.box bU (.strct [.val (.slice 61 av) x7,.row 8,.row 9])),(2,.row 182 au x8 false),(3,.row 49 ay x9 false),(4,.row 3 (.int .i64) x10 false),(5,.row 61 av x11 false),(6,.row 108 (.slice 182 au) x12 false),(7,.row 135 (.slice 3 (.int .i64)) x13 false),(8,.row 108 (.slice 182 au) x14 false),(9,.row 135 (.slice 3 (.int .i64)) x15 false)],nx:=10,n0:=0}
noncomputable def bX (x0:Int) (x1:(List Int)) (x2 x3:Int) (x4:md) (x5:(List Bool)) (x6:(List aj)):Option (Unit×(List Bool)×md×(List aj)×Unit):=bo E fz [(0,.box (.slice 4 .bool) (aa)),(1,.box bU (aa)),(2,.box (.slice 221 aw) (aa)),(3,.keepF 199 []),(4,.row 4 .bool [] false),(5,.row 221 aw [] false)] nD 7656 {slots:=[af x0,aa,.ptr 1 bU [],.ptr 2 (.slice 221 aw) [],.ptr 3 .fn [],aa,aa,aa,aa,aa,aa,aa,aa,aa,aa,aa,aa,aa,aa,.val (.slice 3 (.int .i64)) x1,af x2,af x3]++unU 49,res:=[(0,.box (.slice 4 .bool) (.row 6)),(1,.box bU (.val bU x4)),(2,.box (.slice 221 aw) (.row 7)),(3,.keepF 199 [.ptr 0 (.slice 4 .bool) [],.ptr 1 bU [],.ptr 2 (.slice 221 aw) [],.ptr 3 .fn []]),(6,.row 4 .bool x5 false),(7,.row 221 aw x6 false)],nx:=8,n0:=6}
noncomputable def iY (x0:(List ab)) (x1:(List aj)) (x2:Int) (x3:(List Int)) (x4 x5:Int) (x6:(List aj)) (x7 x8:Int) (x9:(List ac)):Option (((List ac)×Unit)×Unit):=bo E rU [] Ei 119608 {slots:=[.val (.slice 182 au) x0,aa,.val (.slice 221 aw) x1,aa,aa,aa,aa,.row 0,aa,af x2,aa,aa,aa,aa,.val (.slice 2 (.int .i64)) x3,af x4,af x5,aa,aa,aa,aa,aa,aa,aa,aa,aa,aa,aa,aa,aa,aa,aa,aa,.val (.slice 221 aw) x6,af x7,af x8]++unU 19,res:=[(0,.row 89 aq x9 false)],nx:=1,n0:=0}
noncomputable def j6 (x0 x1:Int) (x2:(List aj)) (x3:(List ae)) (x4:(List (List ab))) (x5:(List (List Int))) (x6:(List Bool)):Option (((List aj)×Unit)×Unit):=bo E jx [] qi 2024 {slots:=[aa,aa,aa,aa,aa,aa,aa,aa,.ptr 0 (.slice 221 aw) [],aa,aa,.ptr 1 .fn [],aa,aa,aa,aa,aa,aa,aa,aa,aa,aa,aa,aa,aa,aa,aa,aa,aa,aa,aa,aa,aa,aa,aa,aa,aa,aa,aa,aa,af x0,af x1]++unU 7,res:=[(0,.box (.slice 221 aw) (.row 2)),(1,.keepF 199 [.ptr 3 (.slice 4 .bool) [],.ptr 4 bU [],.ptr 0 (.slice 221 aw) [],.ptr 1 .fn []]),(2,.row 221 aw x2 false),(3,.box (.slice 4 .bool) (.row 5)),(4,.box bU (.strct [.val (.slice 61 av) x3,.val (.slice 108 (.slice 182 au)) x4,.val (.slice 135 (.slice 3 (.int .i64))) x5])),(5,.row 4 .bool x6 false)],nx:=6,n0:=0}
noncomputable def co (x0:(List ae)) (x1 x2:Int) (x3:ah):Option ((Int×Unit)×ah×Unit):=bo E fJ [(0,.box ak (aa))] nq 104 {slots:=[.val (.slice 61 av) x0,.fn 77 [.ptr 0 ak []],aa,aa,aa,aa,aa,af x1,af x2]++unU 10,res:=[(0,.box ak (.val ak x3))],nx:=1,n0:=1}
noncomputable def ag (x0:(List aZ)) (x1 x2 x3:Int) (x4:(List ae)) (x5:(List am)) (x6:(List ah)):Option ((Int×Int×Unit)×((List ae)×(List am)×(List ah)×Unit)×Unit):=bo E mQ [(0,.box cj (aa)),(1,.row 61 av [] false),(2,.row 49 ay [] false),(3,.row 39 ak [] false)] yr 464 {slots:=[.ptr 0 cj [],.val (.slice 83 aW) x0,af x1,aa,aa,aa,aa,aa,af x2,af x3]++unU 94,res:=[(0,.box cj (.strct [.row 4,.row 5,.row 6])),(4,.row 61 av x4 false),(5,.row 49 ay x5 false),(6,.row 39 ak x6 false)],nx:=7,n0:=4}
noncomputable def nV (x0:Int) (x1:Bool) (x2:Int) (x3:(List ae)) (x4 x5 x6:Int) (x7:(List am)) (x8:(List ah)) (x9 x10 x11:Int) (x12:(List am)) (x13:(List ae)) (x14:(List am)) (x15:(List ah)):Option ((eB×Unit)×Unit):=bo E eL [] gi 119376 {slots:=[aa,aa,.ptr 0 bd [],aa,.ptr 1 bd [],.row 2,af x0,cL x1,af x2]++unU 107,res:=[(0,.box bd (.strct [.val (.slice 61 av) x3,af x4,af x5,af x6,.val (.slice 49 ay) x7,.val (.slice 39 ak) x8])),(1,.box bd (.strct [.row 3,af x9,af x10,af x11,.row 4,.row 5])),(2,.row 49 ay x12 false),(3,.row 61 av x13 false),(4,.row 49 ay x14 false),(5,.row 39 ak x15 false)],nx:=6,n0:=0}
noncomputable def nW (x0:(List ae)) (x1:Int) (x2:Bool) (x3:Int) (x4:(List ah)) (x5:(List am)):Option (((List ah)×Unit)×Unit):=bo E tx [] GM 250448 {slots:=[.val (.slice 61 av) x0,aa,aa,aa,aa,.row 0,.row 1,af x1,cL x2,af x3]++unU 40,res:=[(0,.row 39 ak x4 false),(1,.row 49 ay x5 false)],nx:=2,n0:=0}
noncomputable def mq (x0:(List ae)) (x1 x2 x3 x4:Int) (x5 x6:(List ah)):Option ((Bool×Unit)×Unit):=bo E rT [] Ej 119408 {slots:=[.val (.slice 61 av) x0,aa,aa,.ptr 0 ak [],aa,.row 1,af x1,.row 2,af x2]++unU 41,res:=[(0,.box ak (.strct [af x3,af x4])),(1,.row 39 ak x5 false),(2,.row 39 ak x6 false)],nx:=3,n0:=0}
noncomputable def jQ (x0:(List ab)) (x1:Int) (x2:(List aj)) (x3 x4:Int) (x5:(List ac)) (x6 x7:ah):Option (((List ac)×Unit)×Unit):=bo E v6 [] Km 238832 {slots:=[.val (.slice 182 au) x0,af x1,.val (.slice 221 aw) x2,aa,aa,aa,aa,.row 0,af x3,aa,.ptr 1 ay [],af x4]++unU 68,res:=[(0,.row 89 aq x5 false),(1,.box ay (.strct [.val ak x6,.val ak x7]))],nx:=2,n0:=0}
noncomputable def jD (x0:(List ae)) (x1:(List aj)) (x2:(List ah)):Option (((List aj)×Unit)×Unit):=bo E kB [] pu 992 {slots:=[.val (.slice 61 av) x0,aa,aa,aa,aa,aa,aa,.row 0,.row 1]++unU 137,res:=[(0,.row 221 aw x1 false),(1,.row 39 ak x2 false)],nx:=2,n0:=0}
noncomputable def aX (x0:(List aZ)) (x1 x2 x3 x4:Int) (x5:(List ae)) (x6 x7 x8:Int) (x9:(List am)) (x10:(List ah)) (x11:(List ae)) (x12:(List am)) (x13:(List ah)):Option ((eB×Unit)×Unit):=bo E vW [] Kn 224 {slots:=[aa,.val (.slice 83 aW) x0,af x1,aa,aa,aa,.ptr 0 bd [],.ptr 1 bd []]++unU 106,res:=[(0,.box bd (.strct [.row 2,af x2,af x3,af x4,.row 3,.row 4])),(1,.box bd (.strct [.val (.slice 61 av) x5,af x6,af x7,af x8,.val (.slice 49 ay) x9,.val (.slice 39 ak) x10])),(2,.row 61 av x11 false),(3,.row 49 ay x12 false),(4,.row 39 ak x13 false)],nx:=5,n0:=0}
noncomputable def ee (x0 x1 x2:Int) (x3:(List ah)):Option (((List ah)×Unit)×Unit):=bo E ic [(0,.row 39 ak [] false)] qk 477520 {slots:=[.row 0,aa,aa,af x0,.tail 0 x1,af x2]++unU 55,res:=[(0,.row 39 ak x3 false)],nx:=1,n0:=1}
noncomputable def tK (x0:(List (List ae))) (x1 x2:Int) (x3:(List ae)) (x4 x5:Int) (x6:(List ah)):Option (((List ah)×Unit)×Unit):=bo E vY [] Ko 59800 {slots:=[aa,aa,aa,.row 0,aa,aa,aa,aa,aa,.val (.slice 24 (.slice 61 av)) x0,af x1,af x2,aa,aa,aa,.val (.slice 61 av) x3,af x4,af x5]++unU 14,res:=[(0,.row 39 ak x6 false)],nx:=1,n0:=0}
noncomputable def gy (x0 x1:Int) (x2:(List ae)) (x3:(List ah)) (x4 x5:(List am)):Option (Unit×((List ae)×(List am)×(List ah)×Unit)×Unit):=bo E gM [(0,.box cj (aa)),(1,.row 61 av [] false),(2,.row 49 ay [] false),(3,.row 39 ak [] false)] lT 504 {slots:=[.ptr 0 cj [],aa,aa,aa,aa,aa,aa,aa,aa,aa,aa,aa,aa,aa,aa,aa,aa,aa,aa,aa,aa,aa,aa,aa,aa,aa,aa,aa,aa,aa,aa,aa,aa,aa,aa,aa,aa,aa,aa,aa,aa,aa,aa,aa,aa,aa,aa,aa,aa,aa,aa,aa,.row 4,af x0,af x1]++unU 21,res:=[(0,.box cj (.strct [.row 1,.row 5,.row 3])),(1,.row 61 av x2 false),(3,.row 39 ak x3 false),(4,.row 49 ay x4 false),(5,.row 49 ay x5 false)],nx:=6,n0:=4}
noncomputable def gz (x0 x1:Int) (x2:(List aj)) (x3:md) (x4:(List Bool)):Option (((List aj)×Unit)×Unit):=bo E jx [] qi 2024 {slots:=[aa,aa,aa,aa,aa,aa,aa,aa,.ptr 0 (.slice 221 aw) [],aa,aa,.ptr 1 .fn [],aa,aa,aa,aa,aa,aa,aa,aa,aa,aa,aa,aa,aa,aa,aa,aa,aa,aa,aa,aa,aa,aa,aa,aa,aa,aa,aa,aa,af x0,af x1]++unU 7,res:=[(0,.box (.slice 221 aw) (.row 2)),(1,.keepF 199 [.ptr 3 (.slice 4 .bool) [],.ptr 4 bU [],.ptr 0 (.slice 221 aw) [],.ptr 1 .fn []]),(2,.row 221 aw x2 false),(3,.box (.slice 4 .bool) (.row 5)),(4,.box bU (.val bU x3)),(5,.row 4 .bool x4 false)],nx:=6,n0:=0}
noncomputable def dT (x0 x1:Int) (x2:(List ae)) (x3 x4 x5:Int) (x6:(List ah)) (x7 x8 x9:Int) (x10 x11:(List am)) (x12:(List ae)) (x13:(List am)) (x14:(List ah)):Option ((eB×Unit)×Unit):=bo E eL [] gi 238832 {slots:=[aa,aa,.ptr 0 bd [],aa,.ptr 1 bd [],.row 2,af x0,aa,aa,af x1]++unU 106,res:=[(0,.box bd (.strct [.val (.slice 61 av) x2,af x3,af x4,af x5,.row 3,.val (.slice 39 ak) x6])),(1,.box bd (.strct [.row 4,af x7,af x8,af x9,.row 5,.row 6])),(2,.row 49 ay x10 false),(3,.row 49 ay x11 false),(4,.row 61 av x12 false),(5,.row 49 ay x13 false),(6,.row 39 ak x14 false)],nx:=7,n0:=0}
noncomputable def g5 (x0 x1:Int) (x2:(List ae)) (x3 x4 x5:Int) (x6:(List am)) (x7:(List ah)) (x8 x9 x10:Int) (x11:(List am)) (x12:(List ae)) (x13:(List am)) (x14:(List ah)):Option ((eB×Unit)×Unit):=bo E eL [] gi 238832 {slots:=[aa,aa,.ptr 0 bd [],aa,.ptr 1 bd [],.row 2,af x0,aa,aa,af x1]++unU 106,res:=[(0,.box bd (.strct [.val (.slice 61 av) x2,af x3,af x4,af x5,.val (.slice 49 ay) x6,.val (.slice 39 ak) x7])),(1,.box bd (.strct [.row 3,af x8,af x9,af x10,.row 4,.row 5])),(2,.row 49 ay x11 false),(3,.row 61 av x12 false),(4,.row 49 ay x13 false),(5,.row 39 ak x14 false)],nx:=6,n0:=0}
noncomputable def iu (x0:(List ae)) (x1:Int) (x2:(List aj)) (x3 x4:(List ah)):Option (((List aj)×Unit)×Unit):=bo E kB [] pu 127312 {slots:=[.val (.slice 61 av) x0,aa,aa,aa,aa,aa,aa,.row 0,.row 1,aa,.row 2,af x1]++unU 134,res:=[(0,.row 221 aw x2 false),(1,.row 39 ak x3 false),(2,.row 39 ak x4 false)],nx:=3,n0:=0}
noncomputable def iZ (x0 x1 x2:Int) (x3:(List ae)) (x4 x5 x6:Int) (x7:(List ah)) (x8 x9 x10:Int) (x11 x12 x13:(List am)) (x14:(List ae)) (x15:(List am)) (x16:(List ah)):Option ((eB×Unit)×Unit):=bo E eL [] gi 61141616 {slots:=[aa,aa,.ptr 0 bd [],aa,.ptr 1 bd [],.row 2,af x0,aa,aa,af x1,.row 3,af x2]++unU 104,res:=[(0,.box bd (.strct [.val (.slice 61 av) x3,af x4,af x5,af x6,.row 4,.val (.slice 39 ak) x7])),(1,.box bd (.strct [.row 5,af x8,af x9,af x10,.row 6,.row 7])),(2,.row 49 ay x11 false),(3,.row 49 ay x12 false),(4,.row 49 ay x13 false),(5,.row 61 av x14 false),(6,.row 49 ay x15 false),(7,.row 39 ak x16 false)],nx:=8,n0:=0}
noncomputable def mr (x0:Int) (x1:(List ae)) (x2 x3 x4:Int) (x5:(List ah)) (x6 x7 x8:Int) (x9 x10:(List am)) (x11:(List ae)) (x12:(List am)) (x13:(List ah)):Option ((eB×Unit)×Unit):=bo E eL [] gi 464 {slots:=[aa,aa,.ptr 0 bd [],aa,.ptr 1 bd [],.row 2,af x0]++unU 109,res:=[(0,.box bd (.strct [.val (.slice 61 av) x1,af x2,af x3,af x4,.row 3,.val (.slice 39 ak) x5])),(1,.box bd (.strct [.row 4,af x6,af x7,af x8,.row 5,.row 6])),(2,.row 49 ay x9 false),(3,.row 49 ay x10 false),(4,.row 61 av x11 false),(5,.row 49 ay x12 false),(6,.row 39 ak x13 false)],nx:=7,n0:=0}
noncomputable def g6 (x0 x1 x2:Int) (x3:(List ae)) (x4 x5 x6:Int) (x7:(List am)) (x8:(List ah)) (x9 x10 x11:Int) (x12 x13:(List am)) (x14:(List ae)) (x15:(List am)) (x16:(List ah)):Option ((eB×Unit)×Unit):=bo E eL [] gi 61141616 {slots:=[aa,aa,.ptr 0 bd [],aa,.ptr 1 bd [],.row 2,af x0,aa,aa,af x1,.row 3,af x2]++unU 104,res:=[(0,.box bd (.strct [.val (.slice 61 av) x3,af x4,af x5,af x6,.val (.slice 49 ay) x7,.val (.slice 39 ak) x8])),(1,.box bd (.strct [.row 4,af x9,af x10,af x11,.row 5,.row 6])),(2,.row 49 ay x12 false),(3,.row 49 ay x13 false),(4,.row 61 av x14 false),(5,.row 49 ay x15 false),(6,.row 39 ak x16 false)],nx:=7,n0:=0}
noncomputable def r7 (x0:(List ae)) (x1:Int) (x2:Bool) (x3:Int) (x4:(List aj)) (x5 x6:(List ah)) (x7:(List ab)) (x8 x9:Int) (x10:aa_) (x11:(List ah)):Option (((List aj)×Unit)×Unit):=bo E kB [] pu 33374721744 {slots:=[.val (.slice 61 av) x0,aa,aa,aa,aa,aa,aa,.row 0,.row 1,aa,.row 2,af x1,aa,.row 3,aa,.ptr 4 aq [],aa,.row 5,cL x2,af x3]++unU 126,res:=[(0,.row 221 aw x4 false),(1,.row 39 ak x5 false),(2,.row 39 ak x6 false),(3,.row 182 au x7 false),(4,.box aq (.strct [af x8,af x9,aY x10])),(5,.row 39 ak x11 false)],nx:=6,n0:=0}
noncomputable def mt (x0 x1 x2:Int) (x3:Bool) (x4:Int) (x5:(List ae)) (x6 x7 x8:Int) (x9:(List ah)) (x10 x11 x12:Int) (x13 x14 x15:(List am)) (x16:(List ae)) (x17:(List am)) (x18:(List ah)):Option ((eB×Unit)×Unit):=bo E eL [] gi 15652254288 {slots:=[aa,aa,.ptr 0 bd [],aa,.ptr 1 bd [],.row 2,af x0,aa,aa,af x1,.row 3,af x2,cL x3,af x4]++unU 102,res:=[(0,.box bd (.strct [.val (.slice 61 av) x5,af x6,af x7,af x8,.row 4,.val (.slice 39 ak) x9])),(1,.box bd (.strct [.row 5,af x10,af x11,af x12,.row 6,.row 7])),(2,.row 49 ay x13 false),(3,.row 49 ay x14 false),(4,.row 49 ay x15 false),(5,.row 61 av x16 false),(6,.row 49 ay x17 false),(7,.row 39 ak x18 false)],nx:=8,n0:=0}
noncomputable def mu (x0:Int) (x1:Bool) (x2:Int) (x3:(List ae)) (x4 x5 x6:Int) (x7:(List ah)) (x8 x9 x10:Int) (x11 x12:(List am)) (x13:(List ae)) (x14:(List am)) (x15:(List ah)):Option ((eB×Unit)×Unit):=bo E eL [] gi 119376 {slots:=[aa,aa,.ptr 0 bd [],aa,.ptr 1 bd [],.row 2,af x0,cL x1,af x2]++unU 107,res:=[(0,.box bd (.strct [.val (.slice 61 av) x3,af x4,af x5,af x6,.row 3,.val (.slice 39 ak) x7])),(1,.box bd (.strct [.row 4,af x8,af x9,af x10,.row 5,.row 6])),(2,.row 49 ay x11 false),(3,.row 49 ay x12 false),(4,.row 61 av x13 false),(5,.row 49 ay x14 false),(6,.row 39 ak x15 false)],nx:=7,n0:=0}
noncomputable def lj (x0 x1 x2:Int) (x3:Bool) (x4:Int) (x5:(List ae)) (x6 x7 x8:Int) (x9:(List am)) (x10:(List ah)) (x11 x12 x13:Int) (x14 x15:(List am)) (x16:(List ae)) (x17:(List am)) (x18:(List ah)):Option ((eB×Unit)×Unit):=bo E eL [] gi 15652254288 {slots:=[aa,aa,.ptr 0 bd [],aa,.ptr 1 bd [],.row 2,af x0,aa,aa,af x1,.row 3,af x2,cL x3,af x4]++unU 102,res:=[(0,.box bd (.strct [.val (.slice 61 av) x5,af x6,af x7,af x8,.val (.slice 49 ay) x9,.val (.slice 39 ak) x10])),(1,.box bd (.strct [.row 4,af x11,af x12,af x13,.row 5,.row 6])),(2,.row 49 ay x14 false),(3,.row 49 ay x15 false),(4,.row 61 av x16 false),(5,.row 49 ay x17 false),(6,.row 39 ak x18 false)],nx:=7,n0:=0}
noncomputable def fw (x0:(List ae)) (x1:Int) (x2:Bool) (x3:Int) (x4:(List aj)) (x5 x6:(List ah)) (x7:(List ab)) (x8 x9:Int) (x10:aa_) (x11:(List ah)):Option (((List aj)×Unit)×Unit):=bo E kB [] pu 33374721744 {slots:=[.val (.slice 61 av) x0,aa,aa,aa,aa,aa,aa,.row 0,.row 1,aa,.row 2,af x1,aa,.row 3,aa,.ptr 4 aq [],aa,.row 5,cL x2,af x3]++unU 126,res:=[(0,.row 221 aw x4 false),(1,.row 39 ak x5 true),(2,.row 39 ak x6 false),(3,.row 182 au x7 false),(4,.box aq (.strct [af x8,af x9,aY x10])),(5,.row 39 ak x11 false)],nx:=6,n0:=0}
noncomputable def eH (x0:(List ae)) (x1:Int) (x2:(List aj)) (x3 x4:(List ah)):Option (((List aj)×Unit)×Unit):=bo E kB [] pu 127312 {slots:=[.val (.slice 61 av) x0,aa,aa,aa,aa,aa,aa,.row 0,.row 1,aa,.row 2,af x1]++unU 134,res:=[(0,.row 221 aw x2 false),(1,.row 39 ak x3 true),(2,.row 39 ak x4 false)],nx:=3,n0:=0}
end Go.Proofs.YthbkdfcmjmmpgaaGreatDoor.Abs
