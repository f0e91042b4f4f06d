/- What the functions are, as the reader reads them. Printed by out.py. -/
import Derived.Test.YthbkdfcmjmmpgaaGreatDoorZA3
import Derived.Test.YthbkdfcmjmmpgaaGreatDoorProg
set_option linter.unusedVariables false
set_option linter.unusedSimpArgs false
set_option maxRecDepth 100000
open _root_ renaming ByteArray→aa_
namespace Go.Proofs.YthbkdfcmjmmpgaaGreatDoor.Abs
open Go Go.Proofs.YthbkdfcmjmmpgaaGreatDoor
abbrev Ya:TypeId:=9
abbrev au:Ty := .agg (.pair (.int .i64) (.pair (.int .i64) .unit))
abbrev am:=Int×Int×Unit
abbrev av:Ty := .agg (.pair au (.pair .str .unit))
abbrev ae:=am×aa_×Unit
abbrev aX:Ty := .agg (.pair (.int .i64) (.pair au (.pair .str (.pair (.int .i64) .unit))))
abbrev bg:=Int×am×aa_×Int×Unit
abbrev ax:Ty := .agg (.pair au (.pair au .unit))
abbrev ak:=am×am×Unit
abbrev cp:Ty := .agg (.pair (.slice 61 av) (.pair (.slice 49 ax) (.pair (.slice 39 au) .unit)))
abbrev bh:Ty := .agg (.pair (.slice 61 av) (.pair (.int .i64) (.pair (.int .i64) (.pair (.int .i64) (.pair (.slice 49 ax) (.pair (.slice 39 au) .unit))))))
abbrev eJ:=(List ae)×Int×Int×Int×(List ak)×(List am)×Unit
abbrev aF:Ty := .agg (.pair (.slice 5 (.int .u8)) (.pair (.int .i64) .unit))
abbrev aI:=(List Int)×Int×Unit
abbrev ap:Ty := .agg (.pair (.int .i64) (.pair (.int .i64) (.pair .str .unit)))
abbrev ac:=Int×Int×aa_×Unit
abbrev bW:Ty := .agg (.pair au (.pair .bool (.pair .bool .unit)))
abbrev bX:=am×Bool×Bool×Unit
abbrev aq:Ty := .agg (.pair (.int .i64) (.pair (.int .i64) (.pair ap (.pair bW (.pair bW (.pair (.slice 2 (.int .i64)) .unit))))))
abbrev ab:=Int×Int×ac×bX×bX×(List Int)×Unit
abbrev aw:Ty := .agg (.pair au (.pair ap .unit))
abbrev ah:=am×ac×Unit
abbrev bw:Ty := .agg (.pair .str (.pair (.slice 182 aq) (.pair .bool .unit)))
abbrev ri:=aa_×(List ab)×Bool×Unit
abbrev b9:Ty := .agg (.pair (.slice 61 av) (.pair (.slice 108 (.slice 182 aq)) (.pair (.slice 135 (.slice 3 (.int .i64))) .unit)))
abbrev mq:=(List ae)×(List (List ab))×(List (List Int))×Unit
abbrev bn:Ty := .agg (.pair .str (.pair (.int .i64) (.pair .bool (.pair (.slice 182 aq) .unit))))
abbrev lK:=aa_×Int×Bool×(List ab)×Unit
noncomputable def n7:ay:=ao 4 Tryz.f4 (.pair (.val .bool) .unit) .unit [] [(14,[4,5,6,7,8,10,12,14,16,18]),(24,[7,10,19,22])]
noncomputable def VM:ay:=ao 5 Tryz.f5 (.pair (.val .bool) .unit) .unit [] []
noncomputable def wi:ay:=ao 6 Tryz.f6 (.pair (.row 61 av false) (.pair (.val (.slice 83 aX)) (.pair (.val (.int .i64)) .unit))) .unit [] []
noncomputable def EE:ay:=ao 7 Tryz.f7 (.pair (.row 61 av false) (.pair (.val (.int .i64)) (.pair (.val (.int .i64)) .unit))) .unit [] []
noncomputable def KA:ay:=ao 10 Tryz.f10 (.pair (.row 49 ax false) (.pair (.row 39 au false) .unit)) .unit [] []
noncomputable def zW:ay:=ao 13 Tryz.f13 (.pair (.val .bool) .unit) .unit [] [(2,[0,5,6,7])]
noncomputable def Bo:ay:=ao 14 Tryz.f14 (.pair (.row 61 av false) (.pair (.val (.slice 83 aX)) (.pair (.val (.int .i64)) .unit))) .unit [] []
noncomputable def KB:ay:=ao 15 Tryz.f15 (.pair (.val (.slice 49 ax)) (.pair (.val (.slice 39 au)) .unit)) .unit [] []
noncomputable def xq:ay:=ao 16 Tryz.f16 (.pair (.val .bool) .unit) .unit [] [(4,[0,1,5])]
noncomputable def Cg:ay:=ao 17 Tryz.f17 (.pair (.row 61 av false) (.pair (.val au) (.pair (.val .str) .unit))) .unit [] []
noncomputable def Ny:ay:=ao 18 Tryz.f18 (.pair (.row 61 av false) (.pair (.val .bool) .unit)) .unit [] []
noncomputable def KC:ay:=ao 19 Tryz.f19 (.pair (.val .bool) .unit) .unit [] []
noncomputable def EF:ay:=ao 20 Tryz.f20 (.pair (.val .str) .unit) .unit [] []
noncomputable def KD:ay:=ao 21 Tryz.f21 (.pair (.ptr aF) .unit) .unit [] []
noncomputable def tn:ay:=ao 22 Tryz.f22 (.pair (.row 61 av false) .unit) (.pair (.val aF) .unit) [] [(3,[0,5,6])]
noncomputable def oy:ay:=ao 23 Tryz.f23 (.pair (.val (.slice 83 aX)) .unit) (.pair (.val aF) .unit) [] [(5,[0,3,4])]
noncomputable def Ch:ay:=ao 24 Tryz.f24 (.pair (.val (.int .i64)) .unit) (.pair (.val aF) .unit) [] []
noncomputable def GZ:ay:=ao 25 Tryz.f25 (.pair (.val (.int .i64)) .unit) .unit [] []
noncomputable def eK:ay:={g:=26,fn:=Tryz.f26,sh:=(.pair (.row 61 av false) .unit),bx := .unit,own:=[],live:=[],prim:=some (dc 61 av 32)}
noncomputable def m6:ay:=ao 27 Tryz.f27 (.pair (.val (.int .i64)) (.pair (.val (.int .i64)) .unit)) (.pair (.strct (.pair (.row 61 av false) (.pair (.row 49 ax false) (.pair (.row 39 au false) .unit)))) .unit) [] [(3,[0,1,2,8,9])]
noncomputable def Nz:ay:=ao 28 Tryz.f28 (.pair (.val (.int .i64)) .unit) .unit [] []
noncomputable def wj:ay:=ao 29 Tryz.f29 (.pair (.val bh) .unit) .unit [] [(2,[1,2,6,7])]
noncomputable def NA:ay:=ao 31 Tryz.f31 (.pair (.val .bool) .unit) .unit [] []
noncomputable def yo:ay:=ao 32 Tryz.f32 (.pair (.val (.int .i64)) .unit) .unit [] []
noncomputable def EG:ay:=ao 33 Tryz.f33 (.pair (.val .bool) .unit) .unit [] []
noncomputable def EH:ay:=ao 34 Tryz.f34 (.pair (.val au) .unit) (.pair (.val aF) .unit) [] []
noncomputable def Ci:ay:=ao 35 Tryz.f35 (.pair (.val .bool) .unit) (.pair (.val aF) .unit) [] []
noncomputable def EI:ay:=ao 36 Tryz.f36 (.pair (.val (.int .i64)) .unit) (.pair (.val aF) .unit) [] []
noncomputable def Bp:ay:=ao 37 Tryz.f37 (.pair (.val .str) .unit) (.pair (.val aF) .unit) [] []
noncomputable def G0:ay:=ao 38 Tryz.f38 (.pair (.val .str) (.pair (.val .bool) .unit)) .unit [] []
noncomputable def G1:ay:=ao 39 Tryz.f39 (.pair (.row 61 av false) .unit) .unit [] []
noncomputable def xr:ay:=ao 40 Tryz.f40 (.pair (.val .str) .unit) .unit [] [(2,[3,7,8,9])]
noncomputable def to:ay:=ao 41 Tryz.f41 (.pair (.val (.int .i64)) .unit) (.pair (.val aF) .unit) [] []
noncomputable def NB:ay:=ao 42 Tryz.f42 (.pair (.row 61 av false) (.pair (.val .bool) .unit)) .unit [] []
noncomputable def FC:ay:=ao 43 Tryz.f43 (.pair (.val .str) .unit) .unit [] [(4,[0,3])]
noncomputable def Cj:ay:=ao 44 Tryz.f44 (.pair (.val aX) .unit) (.pair (.val aF) .unit) [] []
noncomputable def zX:ay:=ao 45 Tryz.f45 (.pair (.val .bool) .unit) .unit [] [(4,[0,3])]
noncomputable def zY:ay:=ao 46 Tryz.f46 (.pair (.val .bool) .unit) .unit [] [(2,[0,5,6,7])]
noncomputable def KE:ay:=ao 47 Tryz.f47 (.pair (.val .bool) .unit) .unit [] []
noncomputable def wk:ay:=ao 48 Tryz.f48 (.pair (.val ap) .unit) (.pair (.strct (.pair (.row 61 av false) (.pair (.row 49 ax false) (.pair (.row 39 au false) .unit)))) .unit) [] []
noncomputable def G2:ay:=ao 49 Tryz.f49 (.pair (.val .bool) (.pair (.val .bool) .unit)) .unit [] []
noncomputable def Ck:ay:=ao 50 Tryz.f50 (.pair (.val .str) .unit) .unit [] []
noncomputable def Cl:ay:=ao 51 Tryz.f51 (.pair (.val .str) .unit) .unit [] []
noncomputable def yp:ay:=ao 52 Tryz.f52 (.pair (.val .bool) .unit) (.pair (.strct (.pair (.row 61 av false) (.pair (.row 49 ax false) (.pair (.row 39 au false) .unit)))) .unit) [] []
noncomputable def zZ:ay:=ao 53 Tryz.f53 (.pair (.val .bool) .unit) .unit [] [(4,[0,3])]
noncomputable def RE:ay:=ao 54 Tryz.f54 (.pair (.val .bool) .unit) .unit [] []
noncomputable def KF:ay:=ao 55 Tryz.f55 (.pair (.val bh) .unit) .unit [] []
noncomputable def eT:ay:=ao 56 Tryz.f56 (.pair (.val bh) .unit) .unit [] [(3,[2,4,5,6]),(7,[2,4,5,6,7,8]),(13,[2,4,5,6,9]),(18,[2,4,5,6,9,10,11]),(22,[2,4,5,6,9,10,11,12,13])]
noncomputable def EJ:ay:=ao 57 Tryz.f57 (.pair (.val ap) .unit) .unit [] []
noncomputable def KG:ay:=ao 58 Tryz.f58 (.pair (.val .bool) (.pair (.val ap) .unit)) .unit [] []
noncomputable def Cm:ay:=ao 59 Tryz.f59 (.pair (.val .str) .unit) .unit [] []
noncomputable def KH:ay:=ao 60 Tryz.f60 (.pair (.val .str) .unit) .unit [] []
noncomputable def uU:ay:=ao 62 Tryz.f62 (.pair (.val (.int .i64)) .unit) .unit [] [(3,[3,6,7,8])]
noncomputable def qN:ay:=ao 63 Tryz.f63 (.pair (.val (.int .i64)) .unit) .unit [] []
noncomputable def Cn:ay:=ao 64 Tryz.f64 (.pair (.val (.int .i64)) .unit) (.pair (.val aF) .unit) [] []
noncomputable def Bq:ay:=ao 65 Tryz.f65 (.pair (.val .str) .unit) (.pair (.val aF) .unit) [] []
noncomputable def Co:ay:=ao 66 Tryz.f66 (.pair (.val .bool) .unit) .unit [] [(2,[0,1,7,8])]
noncomputable def qO:ay:=ao 67 Tryz.f67 (.pair (.val .str) (.pair (.val .bool) .unit)) .unit [] []
noncomputable def yq:ay:=ao 68 Tryz.f68 (.pair (.row 182 aq false) (.pair (.val .bool) .unit)) .unit [] []
noncomputable def EK:ay:=ao 69 Tryz.f69 (.pair (.val .str) (.pair (.val .bool) .unit)) .unit [] []
noncomputable def jL:ay:={g:=70,fn:=Tryz.f70,sh:=(.pair (.val (.int .i64)) (.pair (.val .err) .unit)),bx := .unit,own:=[],live:=[],prim:=some (p8)}
noncomputable def EL:ay:=ao 71 Tryz.f71 (.pair (.val .bool) .unit) .unit [] []
noncomputable def G3:ay:=ao 72 Tryz.f72 (.pair (.val .bool) .unit) .unit [] []
noncomputable def KI:ay:=ao 73 Tryz.f73 (.pair (.val ap) .unit) .unit [] []
noncomputable def G4:ay:=ao 74 Tryz.f74 (.pair (.val .str) .unit) .unit [] []
noncomputable def uV:ay:=ao 75 Tryz.f75 (.pair (.val ap) (.pair (.val .bool) .unit)) .unit [] [(9,[0,2,4,7])]
noncomputable def iX:ay:=ao 76 Tryz.f76 (.pair (.row 61 av false) .unit) (.pair (.val au) .unit) [true,false] [(5,[0,1,5,6])]
noncomputable def uW:ay:=ao 77 Tryz.f77 (.pair (.val .bool) .unit) (.pair (.val au) .unit) [] []
noncomputable def j6:ay:={g:=78,fn:=Tryz.f78,sh := .unit,bx:=(.pair (.row 61 av false) .unit),own:=[true,false],live:=[],rb:=true,prim:=some (mo 61 av 79 fun a b=>decide (a.1.2.1 < b.1.2.1) || (decide (a.1.2.1=b.1.2.1) && decide (a.1.1 < b.1.1)))}
noncomputable def uX:ay:=ao 80 Tryz.f80 (.pair (.val (.int .i64)) .unit) (.pair (.val aF) .unit) [] []
noncomputable def G5:ay:=ao 81 Tryz.f81 (.pair (.val .str) (.pair (.val .bool) .unit)) .unit [] []
noncomputable def NC:ay:=ao 82 Tryz.f82 (.pair (.val .bool) .unit) .unit [] []
noncomputable def FD:ay:=ao 83 Tryz.f83 (.pair (.row 61 av false) .unit) .unit [] [(4,[0,2,4,7,8,9])]
noncomputable def Cp:ay:=ao 84 Tryz.f84 (.pair (.val .str) .unit) (.pair (.val aF) .unit) [] []
noncomputable def Br:ay:=ao 85 Tryz.f85 (.pair (.val .bool) .unit) .unit [] []
noncomputable def yr:ay:=ao 86 Tryz.f86 (.pair (.val .bool) .unit) .unit [] []
noncomputable def gV:ay:=ao 87 Tryz.f87 .unit (.pair (.strct (.pair (.row 61 av false) (.pair (.row 49 ax false) (.pair (.row 39 au false) .unit)))) .unit) [] [(4,[0,4,5,6]),(7,[0,4,5,6,28,29,30]),(14,[0,52,53,54])]
noncomputable def RF:ay:=ao 88 Tryz.f88 (.pair (.val ap) .unit) .unit [] []
noncomputable def yt:ay:=ao 89 Tryz.f89 (.pair (.row 221 aw false) .unit) .unit [] []
noncomputable def Cq:ay:=ao 90 Tryz.f90 (.pair (.val .str) .unit) .unit [] []
noncomputable def po:ay:=ao 91 Tryz.f91 (.pair (.val .bool) .unit) .unit [] []
noncomputable def G6:ay:=ao 92 Tryz.f92 (.pair (.val .bool) .unit) .unit [] []
noncomputable def FE:ay:=ao 93 Tryz.f93 (.pair (.val .bool) .unit) .unit [] [(2,[0,3,5])]
noncomputable def G7:ay:=ao 94 Tryz.f94 (.pair (.row 49 ax false) .unit) .unit [] []
noncomputable def EM:ay:=ao 95 Tryz.f95 (.pair (.val .bool) .unit) .unit [] []
noncomputable def yu:ay:=ao 96 Tryz.f96 (.pair (.row 182 aq false) (.pair (.val .bool) .unit)) .unit [] []
noncomputable def RG:ay:=ao 97 Tryz.f97 (.pair (.val ap) .unit) .unit [] []
noncomputable def FF:ay:=ao 98 Tryz.f98 (.pair (.row 221 aw false) .unit) .unit [] [(3,[0,3,4])]
noncomputable def G8:ay:=ao 99 Tryz.f99 (.pair (.val ap) .unit) .unit [] []
noncomputable def G9:ay:=ao 100 Tryz.f100 (.pair (.val .bool) .unit) .unit [] []
noncomputable def KJ:ay:=ao 101 Tryz.f101 (.pair (.val .str) .unit) .unit [] []
noncomputable def tB:ay:=ao 104 Tryz.f104 (.pair (.val .bool) .unit) .unit [] []
noncomputable def uY:ay:=ao 105 Tryz.f105 (.pair (.val (.int .u64)) .unit) (.pair (.val aF) .unit) [] [(3,[0,3,4])]
noncomputable def Cr:ay:=ao 106 Tryz.f106 (.pair (.val .str) .unit) .unit [] []
noncomputable def Cs:ay:=ao 107 Tryz.f107 (.pair (.val ax) .unit) (.pair (.val aF) .unit) [] []
noncomputable def KK:ay:=ao 108 Tryz.f108 (.pair (.val .str) .unit) .unit [] []
noncomputable def nG:ay:=ao 109 Tryz.f109 (.pair (.val .str) (.pair (.val .bool) .unit)) .unit [] []
noncomputable def k9:ay:=ao 110 Tryz.f110 (.pair (.val (.int .i64)) .unit) (.pair (.strct (.pair (.val .str) (.pair (.row 182 aq false) (.pair (.val .bool) .unit)))) .unit) [] [(2,[0,1,2,7]),(5,[0,1,2,7,8,9])]
noncomputable def uZ:ay:=ao 111 Tryz.f111 .unit (.pair (.strct (.pair (.val .str) (.pair (.row 182 aq false) (.pair (.val .bool) .unit)))) .unit) [] []
noncomputable def Ct:ay:=ao 112 Tryz.f112 (.pair (.val .bool) .unit) .unit [] []
noncomputable def yv:ay:=ao 113 Tryz.f113 (.pair (.val .str) .unit) .unit [] []
noncomputable def qa:ay:=ao 116 Tryz.f116 (.pair (.val .str) .unit) .unit [] []
noncomputable def m7:ay:={g:=117,fn:=Tryz.f117,sh:=(.pair (.val .str) .unit),bx := .unit,own:=[],live:=[],prim:=some (zU)}
noncomputable def jn:ay:={g:=118,fn:=Tryz.f118,sh:=(.pair (.val .str) .unit),bx := .unit,own:=[],live:=[],prim:=some (DT)}
noncomputable def ND:ay:=ao 119 Tryz.f119 (.pair (.val ap) .unit) .unit [] []
noncomputable def qP:ay:=ao 120 Tryz.f120 (.pair (.val .bool) .unit) .unit [] []
noncomputable def NE:ay:=ao 121 Tryz.f121 (.pair (.val ap) .unit) .unit [] []
noncomputable def fZ:ay:=ao 122 Tryz.f122 (.pair (.val (.int .i64)) .unit) (.pair (.val au) .unit) [] [(2,[0,1,7,8])]
noncomputable def Aa:ay:=ao 125 Tryz.f125 (.pair (.val .bool) .unit) .unit [] [(2,[0,3])]
noncomputable def yw:ay:=ao 126 Tryz.f126 (.pair (.val .str) .unit) .unit [] []
noncomputable def xt:ay:=ao 127 Tryz.f127 (.pair (.val ap) (.pair (.val .bool) .unit)) .unit [] [(6,[0,2,4])]
noncomputable def qb:ay:=ao 128 Tryz.f128 (.pair (.val ap) (.pair (.val .bool) .unit)) .unit [] [(23,[0,2,4,5]),(27,[2,4])]
noncomputable def Cu:ay:=ao 129 Tryz.f129 (.pair (.val .bool) .unit) .unit [] []
noncomputable def kv:ay:=ao 130 Tryz.f130 .unit (.pair (.row 49 ax false) .unit) [] [(1,[1,5,6,7])]
noncomputable def n8:ay:=ao 131 Tryz.f131 (.pair (.val .bool) .unit) .unit [] []
noncomputable def Ab:ay:=ao 132 Tryz.f132 (.pair (.row 49 ax false) .unit) .unit [] [(3,[3,7,8,9])]
noncomputable def EN:ay:=ao 133 Tryz.f133 (.pair (.val .bool) .unit) .unit [] []
noncomputable def Cv:ay:=ao 134 Tryz.f134 (.pair (.row 182 aq false) (.pair (.val .bool) .unit)) .unit [] []
noncomputable def RH:ay:=ao 135 Tryz.f135 (.pair (.val ap) .unit) .unit [] []
noncomputable def sf:ay:=ao 136 Tryz.f136 (.pair (.strct (.pair (.val (.slice 61 av)) (.pair (.row 108 (.slice 182 aq) false) (.pair (.row 135 (.slice 3 (.int .i64)) false) .unit)))) .unit) .unit [] [(3,[0,2,3,14,15,16]),(8,[0,2,3,6,8,9,14,15,16,29,30,31])]
noncomputable def jM:ay:=ao 137 Tryz.f137 (.pair (.row 221 aw false) .unit) .unit [] [(3,[2,3,7,8,20,21,22]),(10,[8,11,40,41])]
noncomputable def mr:ay:=ao 138 Tryz.f138 (.pair (.val (.int .i64)) .unit) .unit [] [(2,[0,3,7,8])]
noncomputable def Cw:ay:=ao 139 Tryz.f139 (.pair (.row 182 aq false) (.pair (.val .bool) .unit)) .unit [] []
noncomputable def Ac:ay:=ao 140 Tryz.f140 (.pair (.row 49 ax false) .unit) .unit [] [(5,[0,3,4])]
noncomputable def xu:ay:=ao 141 Tryz.f141 (.pair (.val (.int .i64)) .unit) (.pair (.strct (.pair (.val .str) (.pair (.val (.int .i64)) (.pair (.val .bool) (.pair (.row 182 aq false) .unit))))) .unit) [] [(6,[0,1,5])]
noncomputable def rj:ay:=ao 142 Tryz.f142 .unit (.pair (.strct (.pair (.val .str) (.pair (.val (.int .i64)) (.pair (.val .bool) (.pair (.row 182 aq false) .unit))))) .unit) [] [(0,[0])]
noncomputable def qc:ay:=ao 143 Tryz.f143 (.pair (.val .bool) .unit) .unit [] [(4,[0,3]),(9,[0,3,4])]
noncomputable def xv:ay:=ao 144 Tryz.f144 (.pair (.val .bool) .unit) .unit [] [(4,[0,3])]
noncomputable def KL:ay:=ao 145 Tryz.f145 (.pair (.val ap) .unit) .unit [] []
noncomputable def NF:ay:=ao 146 Tryz.f146 (.pair (.val ap) .unit) .unit [] []
noncomputable def kT:ay:=ao 147 Tryz.f147 (.pair (.row 221 aw false) .unit) .unit [] [(4,[0,1,2,7,8,9]),(9,[0,7,8]),(12,[0,7,8,10,11]),(23,[0,7,8,10,11,13,15,17,18,19])]
noncomputable def Ad:ay:=ao 149 Tryz.f149 (.pair (.val .str) .unit) .unit [] [(4,[0,3])]
noncomputable def nH:ay:=ao 150 Tryz.f150 (.pair (.val .bool) .unit) .unit [] []
noncomputable def wl:ay:=ao 151 Tryz.f151 (.pair (.val (.int .i64)) .unit) (.pair (.strct (.pair (.val .str) (.pair (.row 182 aq false) (.pair (.val .bool) .unit)))) .unit) [] []
noncomputable def rk:ay:=ao 152 Tryz.f152 (.pair (.val .str) .unit) (.pair (.strct (.pair (.val .str) (.pair (.row 182 aq false) (.pair (.val .bool) .unit)))) .unit) [] [(3,[0,7,8,9])]
noncomputable def KM:ay:=ao 153 Tryz.f153 (.pair (.val .str) .unit) .unit [] []
noncomputable def NG:ay:=ao 154 Tryz.f154 (.pair (.val (.int .i64)) .unit) .unit [] []
noncomputable def yx:ay:=ao 155 Tryz.f155 (.pair (.val .bool) .unit) (.pair (.strct (.pair (.val .str) (.pair (.row 182 aq false) (.pair (.val .bool) .unit)))) .unit) [] []
noncomputable def Bs:ay:=ao 156 Tryz.f156 (.pair (.val (.int .i64)) .unit) (.pair (.strct (.pair (.val .str) (.pair (.row 182 aq false) (.pair (.val .bool) .unit)))) .unit) [] []
noncomputable def jN:ay:={g:=157,fn:=Tryz.f157,sh:=(.pair (.val .str) .unit),bx := .unit,own:=[],live:=[],prim:=some (p7)}
noncomputable def I6:ay:=ao 158 Tryz.f158 (.pair (.val (.int .i64)) .unit) .unit [] [(5,[0,1,2,7,8])]
noncomputable def rl:ay:=ao 159 Tryz.f159 (.pair (.val .str) .unit) .unit [] [(21,[0,7,10,92,93,94])]
noncomputable def mt:ay:=ao 165 Tryz.f165 (.pair (.val .str) .unit) .unit [] []
noncomputable def Cx:ay:=ao 184 Tryz.f184 (.pair (.val .str) .unit) .unit [] [(21,[0,7,10,11])]
noncomputable def FH:ay:=ao 185 Tryz.f185 (.pair (.val (.int .i64)) (.pair (.val .bool) .unit)) .unit [] [(5,[0,6,7])]
noncomputable def lU:ay:=ao 186 Tryz.f186 (.pair (.val (.int .i64)) .unit) .unit [] [(2,[0,3,7,8])]
noncomputable def Bt:ay:=ao 187 Tryz.f187 (.pair (.val ax) .unit) .unit [] []
noncomputable def Cy:ay:=ao 188 Tryz.f188 (.pair (.val ap) .unit) .unit [] [(2,[3,4,7,8,9])]
noncomputable def Ha:ay:=ao 189 Tryz.f189 (.pair (.val ap) .unit) .unit [] []
noncomputable def KN:ay:=ao 190 Tryz.f190 (.pair (.val ap) .unit) .unit [] []
noncomputable def VN:ay:=ao 191 Tryz.f191 (.pair (.val ap) .unit) .unit [] []
noncomputable def RJ:ay:=ao 192 Tryz.f192 (.pair (.val ap) .unit) .unit [] []
noncomputable def NH:ay:=ao 193 Tryz.f193 (.pair (.val ap) .unit) .unit [] []
noncomputable def RL:ay:=ao 194 Tryz.f194 (.pair (.val ap) .unit) .unit [] []
noncomputable def KO:ay:=ao 195 Tryz.f195 (.pair (.val ap) .unit) .unit [] []
noncomputable def RM:ay:=ao 196 Tryz.f196 (.pair (.val ap) .unit) .unit [] []
noncomputable def RN:ay:=ao 197 Tryz.f197 (.pair (.val .bool) .unit) .unit [] []
noncomputable def hY:ay:={g:=198,fn:=Tryz.f198,sh:=(.pair (.row 4 .bool false) .unit),bx := .unit,own:=[],live:=[],prim:=some (dc 4 .bool 1)}
noncomputable def fN:ay:=ao 199 Tryz.f199 .unit (.pair (.row 4 .bool false) (.pair (.val b9) (.pair (.row 221 aw false) .unit))) [] [(3,[0,2,3,4,19,20,21])]
noncomputable def qd:ay:=ao 200 Tryz.f200 (.pair (.val .bool) .unit) .unit [] [(4,[1,2,5,6,7])]
noncomputable def si:ay:=ao 201 Tryz.f201 (.pair (.val (.int .i64)) .unit) (.pair (.strct (.pair (.val .str) (.pair (.val (.int .i64)) (.pair (.val .bool) (.pair (.row 182 aq false) .unit))))) .unit) [] [(13,[0,5]),(23,[0,7,8])]
noncomputable def tM:ay:=ao 202 Tryz.f202 (.pair (.val (.int .i64)) .unit) (.pair (.strct (.pair (.val .str) (.pair (.val (.int .i64)) (.pair (.val .bool) (.pair (.row 182 aq false) .unit))))) .unit) [] [(3,[0,1,5,6])]
noncomputable def EO:ay:=ao 203 Tryz.f203 (.pair (.val (.int .i64)) .unit) (.pair (.strct (.pair (.val .str) (.pair (.val (.int .i64)) (.pair (.val .bool) (.pair (.row 182 aq false) .unit))))) .unit) [] []
noncomputable def EP:ay:=ao 204 Tryz.f204 (.pair (.val .bool) .unit) .unit [] []
noncomputable def Cz:ay:=ao 205 Tryz.f205 (.pair (.val (.int .i64)) .unit) .unit [] [(3,[0,1,5,6])]
noncomputable def CA:ay:=ao 206 Tryz.f206 (.pair (.val (.int .i64)) .unit) .unit [] [(3,[0,1,5,6])]
noncomputable def I7:ay:=ao 207 Tryz.f207 (.pair (.val ap) .unit) .unit [] [(2,[0,3,4,5])]
noncomputable def Hb:ay:=ao 208 Tryz.f208 (.pair (.val ap) .unit) .unit [] []
noncomputable def KP:ay:=ao 209 Tryz.f209 (.pair (.val ap) .unit) .unit [] []
noncomputable def VO:ay:=ao 210 Tryz.f210 (.pair (.val ap) .unit) .unit [] []
noncomputable def RO:ay:=ao 211 Tryz.f211 (.pair (.val ap) .unit) .unit [] []
noncomputable def NI:ay:=ao 212 Tryz.f212 (.pair (.val ap) .unit) .unit [] []
noncomputable def RP:ay:=ao 213 Tryz.f213 (.pair (.val ap) .unit) .unit [] []
noncomputable def KQ:ay:=ao 214 Tryz.f214 (.pair (.val ap) .unit) .unit [] []
noncomputable def RQ:ay:=ao 215 Tryz.f215 (.pair (.val ap) .unit) .unit [] []
noncomputable def I8:ay:=ao 216 Tryz.f216 (.pair (.val .str) .unit) .unit [] [(2,[0,3,5])]
noncomputable def sj:ay:=ao 217 Tryz.f217 (.pair (.val .bool) .unit) .unit [] [(3,[0,3,5,6]),(9,[0,3,5,6,7,8])]
noncomputable def tN:ay:=ao 218 Tryz.f218 (.pair (.row 39 au false) .unit) .unit [] [(4,[0,5,6,7]),(8,[0,5,6,7,8,9])]
noncomputable def FI:ay:=ao 219 Tryz.f219 (.pair (.row 221 aw false) .unit) .unit [] [(2,[0,3,5])]
noncomputable def m8:ay:=ao 228 Tryz.f228 (.pair (.val (.int .i64)) .unit) (.pair (.strct (.pair (.val .str) (.pair (.row 182 aq false) (.pair (.val .bool) .unit)))) .unit) [] [(6,[0,1,5]),(24,[0,1,9,14])]
noncomputable def yy:ay:=ao 229 Tryz.f229 (.pair (.val .bool) .unit) .unit [] []
noncomputable def ip:ay:={g:=230,fn:=Tryz.f230,sh:=(.pair (.val .str) .unit),bx := .unit,own:=[],live:=[],prim:=some (sd)}
noncomputable def CB:ay:=ao 231 Tryz.f231 (.pair (.val .str) .unit) .unit [] []
noncomputable def KR:ay:=ao 232 Tryz.f232 (.pair (.val .str) .unit) .unit [] []
noncomputable def m9:ay:={g:=233,fn:=Tryz.f233,sh:=(.pair (.val .str) .unit),bx := .unit,own:=[],live:=[],prim:=some (zV Ya)}
noncomputable def Ae:ay:=ao 252 Tryz.f252 (.pair (.val .str) .unit) .unit [] [(3,[0,3,4])]
noncomputable def Hc:ay:=ao 253 Tryz.f253 (.pair (.val (.int .i64)) .unit) .unit [] []
noncomputable def RR:ay:=ao 254 Tryz.f254 (.pair (.val .str) .unit) .unit [] []
noncomputable def KS:ay:=ao 255 Tryz.f255 (.pair (.val ap) .unit) .unit [] []
noncomputable def KT:ay:=ao 256 Tryz.f256 (.pair (.val ap) .unit) .unit [] []
noncomputable def xw:ay:=ao 257 Tryz.f257 (.pair (.val ap) .unit) .unit [] [(3,[0,4,5,6,11,12,13])]
noncomputable def sk:ay:=ao 258 Tryz.f258 (.pair (.row 89 ap false) .unit) .unit [] [(3,[0,2,7,14,15,16]),(8,[0,2,7,9,14,15,16,33,34,35])]
noncomputable def CC:ay:=ao 259 Tryz.f259 (.pair (.val ap) .unit) .unit [] [(3,[2,3,7,8,9])]
noncomputable def xx:ay:=ao 260 Tryz.f260 (.pair (.val ap) .unit) .unit [] [(3,[0,4,5,6,7,10,11,12])]
noncomputable def n9:ay:=ao 261 Tryz.f261 (.pair (.val ap) .unit) .unit [] []
noncomputable def NJ:ay:=ao 262 Tryz.f262 (.pair (.val ap) .unit) .unit [] []
noncomputable def Hd:ay:=ao 263 Tryz.f263 (.pair (.val ap) .unit) .unit [] []
noncomputable def KU:ay:=ao 264 Tryz.f264 (.pair (.val ap) .unit) .unit [] []
noncomputable def He:ay:=ao 265 Tryz.f265 (.pair (.val ap) .unit) .unit [] []
noncomputable def KV:ay:=ao 266 Tryz.f266 (.pair (.val ap) .unit) .unit [] []
noncomputable def KW:ay:=ao 267 Tryz.f267 (.pair (.val .str) (.pair (.val .bool) .unit)) .unit [] []
noncomputable def RU:ay:=ao 268 Tryz.f268 (.pair (.val ap) .unit) .unit [] []
noncomputable def NL:ay:=ao 269 Tryz.f269 (.pair (.val (.int .i64)) .unit) .unit [] []
noncomputable def lu:ay:=ao 270 Tryz.f270 (.pair (.val .bool) .unit) (.pair (.val au) .unit) [] []
noncomputable def CD:ay:=ao 271 Tryz.f271 (.pair (.val .bool) .unit) (.pair (.val au) .unit) [] []
noncomputable def iY:ay:={g:=272,fn:=Tryz.f272,sh:=(.pair (.row 3 (.int .i64) false) .unit),bx := .unit,own:=[],live:=[],prim:=some (dc 3 (.int .i64) 8)}
noncomputable def Hf:ay:=ao 273 Tryz.f273 (.pair (.val .bool) .unit) (.pair (.strct (.pair (.val .str) (.pair (.val (.int .i64)) (.pair (.val .bool) (.pair (.row 182 aq false) .unit))))) .unit) [] []
noncomputable def u3:ay:=ao 274 Tryz.f274 (.pair (.val (.int .i64)) .unit) (.pair (.strct (.pair (.val .str) (.pair (.val (.int .i64)) (.pair (.val .bool) (.pair (.row 182 aq false) .unit))))) .unit) [] [(2,[0,3])]
noncomputable def u4:ay:=ao 275 Tryz.f275 (.pair (.val .str) .unit) (.pair (.strct (.pair (.val .str) (.pair (.val (.int .i64)) (.pair (.val .bool) (.pair (.row 182 aq false) .unit))))) .unit) [] [(2,[0,3])]
noncomputable def qe:ay:=ao 276 Tryz.f276 (.pair (.val (.int .i64)) .unit) (.pair (.strct (.pair (.val .str) (.pair (.val (.int .i64)) (.pair (.val .bool) (.pair (.row 182 aq false) .unit))))) .unit) [] [(2,[0,1,5])]
noncomputable def u5:ay:=ao 277 Tryz.f277 (.pair (.val bW) (.pair (.val .bool) .unit)) .unit [] [(6,[0,2,4,5])]
noncomputable def KX:ay:=ao 278 Tryz.f278 (.pair (.val .bool) .unit) .unit [] []
noncomputable def KY:ay:=ao 279 Tryz.f279 (.pair (.val .bool) .unit) .unit [] []
noncomputable def NM:ay:=ao 280 Tryz.f280 (.pair (.val (.int .i64)) (.pair (.val ap) .unit)) .unit [] []
noncomputable def KZ:ay:=ao 281 Tryz.f281 (.pair (.val ap) .unit) .unit [] []
noncomputable def K0:ay:=ao 282 Tryz.f282 (.pair (.val .str) (.pair (.val ap) .unit)) .unit [] []
noncomputable def CE:ay:=ao 283 Tryz.f283 (.pair (.val ap) .unit) .unit [] [(6,[0,1,4,5,6,7,8,9])]
noncomputable def wm:ay:=ao 284 Tryz.f284 (.pair (.row 89 ap false) .unit) .unit [] [(3,[0,1,2,7,8]),(10,[0,1,2,7,8,10,11])]
noncomputable def NN:ay:=ao 285 Tryz.f285 (.pair (.val (.int .i64)) (.pair (.val (.int .i64)) (.pair (.val ap) .unit))) .unit [] []
noncomputable def NO:ay:=ao 286 Tryz.f286 (.pair (.val (.int .i64)) .unit) .unit [] []
noncomputable def K1:ay:=ao 287 Tryz.f287 (.pair (.val ap) .unit) .unit [] []
noncomputable def oU:ay:=ao 291 Tryz.f291 (.pair (.val (.int .i64)) .unit) (.pair (.strct (.pair (.val .str) (.pair (.row 182 aq false) (.pair (.val .bool) .unit)))) .unit) [] [(2,[0,3,4])]
noncomputable def sH:ay:=ao 292 Tryz.f292 (.pair (.val (.int .i64)) .unit) (.pair (.strct (.pair (.val .str) (.pair (.row 182 aq false) (.pair (.val .bool) .unit)))) .unit) [] []
noncomputable def yz:ay:=ao 293 Tryz.f293 (.pair (.val .str) .unit) (.pair (.strct (.pair (.val .str) (.pair (.row 182 aq false) (.pair (.val .bool) .unit)))) .unit) [] []
noncomputable def CF:ay:=ao 294 Tryz.f294 (.pair (.val bW) (.pair (.val .bool) .unit)) .unit [] []
noncomputable def na:ay:=ao 295 Tryz.f295 (.pair (.val (.int .i64)) .unit) (.pair (.strct (.pair (.val .str) (.pair (.row 182 aq false) (.pair (.val .bool) .unit)))) .unit) [] [(3,[0,1,2,7])]
noncomputable def tC:ay:=ao 296 Tryz.f296 (.pair (.val .bool) .unit) .unit [] []
noncomputable def wn:ay:=ao 297 Tryz.f297 (.pair (.val .bool) .unit) .unit [] []
noncomputable def Hg:ay:=ao 299 Tryz.f299 (.pair (.val .str) .unit) .unit [] []
noncomputable def EQ:ay:=ao 312 Tryz.f312 (.pair (.val (.int .i64)) (.pair (.val .bool) .unit)) .unit [] []
noncomputable def qf:ay:=ao 313 Tryz.f313 (.pair (.val (.int .i64)) .unit) .unit [] []
noncomputable def f0:ay:=ao 314 Tryz.f314 (.pair (.val (.int .i64)) .unit) (.pair (.val au) .unit) [] [(2,[0,1,7,8])]
noncomputable def ER:ay:=ao 315 Tryz.f315 (.pair (.val (.int .i64)) .unit) (.pair (.strct (.pair (.val .str) (.pair (.val (.int .i64)) (.pair (.val .bool) (.pair (.row 182 aq false) .unit))))) .unit) [] []
noncomputable def Af:ay:=ao 316 Tryz.f316 (.pair (.val (.int .i64)) .unit) .unit [] [(2,[0,3])]
noncomputable def K2:ay:=ao 317 Tryz.f317 (.pair (.val (.int .i64)) .unit) .unit [] []
noncomputable def oz:ay:={g:=319,fn:=Tryz.f319,sh:=(.pair (.val .str) (.pair (.val .str) (.pair (.val .bool) .unit))),bx := .unit,own:=[],live:=[],prim:=some (DU)}
noncomputable def Ag:ay:=ao 320 Tryz.f320 (.pair (.val (.int .i64)) .unit) .unit [] [(2,[0,3])]
noncomputable def sI:ay:=ao 321 Tryz.f321 (.pair (.strct (.pair (.val (.int .i64)) (.pair (.val (.int .i64)) (.pair (.val ap) (.pair (.val bW) (.pair (.val bW) (.pair (.row 2 (.int .i64) false) .unit))))))) (.pair (.val .bool) .unit)) (.pair (.strct (.pair (.val .str) (.pair (.row 182 aq false) (.pair (.val .bool) .unit)))) .unit) [] []
noncomputable def K3:ay:=ao 322 Tryz.f322 (.pair (.val .bool) .unit) .unit [] []
noncomputable def sJ:ay:=ao 333 Tryz.f333 (.pair (.val .bool) .unit) .unit [] []
noncomputable def E:cP:={ty:=[(2,(.int .i64)),(3,(.int .i64)),(4,.bool),(5,(.int .u8)),(9,.str),(22,(.slice 5 (.int .u8))),(24,(.slice 61 av)),(25,(.slice 83 aX)),(31,(.slice 49 ax)),(32,(.slice 39 au)),(39,au),(49,ax),(61,av),(63,cp),(67,bh),(80,aF),(83,aX),(89,ap),(103,(.slice 2 (.int .i64))),(105,(.slice 9 .str)),(108,(.slice 182 aq)),(113,.err),(121,.fn),(123,.fn),(128,(.slice 221 aw)),(135,(.slice 3 (.int .i64))),(137,(.int .u64)),(142,bW),(146,bw),(159,.fn),(162,(.slice 108 (.slice 182 aq))),(163,(.slice 135 (.slice 3 (.int .i64)))),(165,b9),(168,(.slice 4 .bool)),(169,(.slice 89 ap)),(173,bn),(182,aq),(221,aw),(222,.fn),(259,.fn),(263,.fn)],by_:=[(2,8),(3,8),(4,1),(9,16),(39,16),(49,32),(61,32),(83,48),(89,32),(108,24),(135,24),(182,120),(221,48)],fns:=[(4,n7),(5,VM),(6,wi),(7,EE),(10,KA),(13,zW),(14,Bo),(15,KB),(16,xq),(17,Cg),(18,Ny),(19,KC),(20,EF),(21,KD),(22,tn),(23,oy),(24,Ch),(25,GZ),(26,eK),(27,m6),(28,Nz),(29,wj),(31,NA),(32,yo),(33,EG),(34,EH),(35,Ci),(36,EI),(37,Bp),(38,G0),(39,G1),(40,xr),(41,to),(42,NB),(43,FC),(44,Cj),(45,zX),(46,zY),(47,KE),(48,wk),(49,G2),(50,Ck),(51,Cl),(52,yp),(53,zZ),(54,RE),(55,KF),(56,eT),(57,EJ),(58,KG),(59,Cm),(60,KH),(62,uU),(63,qN),(64,Cn),(65,Bq),(66,Co),(67,qO),(68,yq),(69,EK),(70,jL),(71,EL),(72,G3),(73,KI),(74,G4),(75,uV),(76,iX),(77,uW),(78,j6),(80,uX),(81,G5),(82,NC),(83,FD),(84,Cp),(85,Br),(86,yr),(87,gV),(88,RF),(89,yt),(90,Cq),(91,po),(92,G6),(93,FE),(94,G7),(95,EM),(96,yu),(97,RG),(98,FF),(99,G8),(100,G9),(101,KJ),(104,tB),(105,uY),(106,Cr),(107,Cs),(108,KK),(109,nG),(110,k9),(111,uZ),(112,Ct),(113,yv),(116,qa),(117,m7),(118,jn),(119,ND),(120,qP),(121,NE),(122,fZ),(125,Aa),(126,yw),(127,xt),(128,qb),(129,Cu),(130,kv),(131,n8),(132,Ab),(133,EN),(134,Cv),(135,RH),(136,sf),(137,jM),(138,mr),(139,Cw),(140,Ac),(141,xu),(142,rj),(143,qc),(144,xv),(145,KL),(146,NF),(147,kT),(149,Ad),(150,nH),(151,wl),(152,rk),(153,KM),(154,NG),(155,yx),(156,Bs),(157,jN),(158,I6),(159,rl),(165,mt),(184,Cx),(185,FH),(186,lU),(187,Bt),(188,Cy),(189,Ha),(190,KN),(191,VN),(192,RJ),(193,NH),(194,RL),(195,KO),(196,RM),(197,RN),(198,hY),(199,fN),(200,qd),(201,si),(202,tM),(203,EO),(204,EP),(205,Cz),(206,CA),(207,I7),(208,Hb),(209,KP),(210,VO),(211,RO),(212,NI),(213,RP),(214,KQ),(215,RQ),(216,I8),(217,sj),(218,tN),(219,FI),(228,m8),(229,yy),(230,ip),(231,CB),(232,KR),(233,m9),(252,Ae),(253,Hc),(254,RR),(255,KS),(256,KT),(257,xw),(258,sk),(259,CC),(260,xx),(261,n9),(262,NJ),(263,Hd),(264,KU),(265,He),(266,KV),(267,KW),(268,RU),(269,NL),(270,lu),(271,CD),(272,iY),(273,Hf),(274,u3),(275,u4),(276,qe),(277,u5),(278,KX),(279,KY),(280,NM),(281,KZ),(282,K0),(283,CE),(284,wm),(285,NN),(286,NO),(287,K1),(291,oU),(292,sH),(293,yz),(294,CF),(295,na),(296,tC),(297,wn),(299,Hg),(312,EQ),(313,qf),(314,f0),(315,ER),(316,Af),(317,K2),(319,oz),(320,Ag),(321,sI),(322,K3),(333,sJ)],eqs:=[(39,au),(49,ax),(89,ap),(142,bW)],tails:=[(24,38)],cuts:=[]}
noncomputable def Yb (x0:(List Int)):Option ((Bool×Unit)×Unit):=ai E VM [.val (.slice 5 (.int .u8)) x0] []
noncomputable def DV (x0:(List Int)):Option ((aI×Unit)×Unit):=ai E KD [.val (.slice 5 (.int .u8)) x0] []
noncomputable def tO (x0:(List Int)) (x1:Int):Option ((Int×Unit)×aI×Unit):=ai E uX [.ptr 0 aF []] [(0,.box aF (.strct [.val (.slice 5 (.int .u8)) x0,ag x1]))]
noncomputable def j7 (x0:aI):Option ((Int×Unit)×aI×Unit):=ai E uX [.ptr 0 aF []] [(0,.box aF (.val aF x0))]
noncomputable def xy (x0:Int) (x1:(List Int)) (x2:Int):Option ((Int×Unit)×aI×Unit):=ai E to [.ptr 0 aF [],ag x0] [(0,.box aF (.strct [.val (.slice 5 (.int .u8)) x1,ag x2]))]
noncomputable def aA (x0:Int) (x1:aI):Option ((Int×Unit)×aI×Unit):=ai E to [.ptr 0 aF [],ag x0] [(0,.box aF (.val aF x1))]
noncomputable def bI (x0:aI):Option ((am×Unit)×aI×Unit):=ai E EH [.ptr 0 aF []] [(0,.box aF (.val aF x0))]
noncomputable def b8 (x0:Int) (x1:aI):Option ((Bool×Unit)×aI×Unit):=ai E Ci [.ptr 0 aF [],ag x0] [(0,.box aF (.val aF x1))]
noncomputable def iq (x0 x1 x2:Int):Option ((Bool×Unit)×Unit):=ai E RE [ag x0,ag x1,ag x2] []
noncomputable def dA (x0:am):Option ((Bool×Unit)×Unit):=ai E NC [.val au x0] []
noncomputable def u6 (x0:Int):Option ((aa_×Unit)×Unit):=ai E Ad [ag x0] []
noncomputable def cn (x0:Int):Option ((aa_×Unit)×Unit):=ai E FC [ag x0] []
noncomputable def dd (x0:bX):Option ((aa_×Unit)×Unit):=ai E Cr [.val bW x0] []
noncomputable def bu (x0:Int) (x1:aI):Option ((aa_×Unit)×aI×Unit):=ai E Bq [.ptr 0 aF [],ag x0] [(0,.box aF (.val aF x1))]
noncomputable def Ah (x0:aI):Option ((Int×Unit)×aI×Unit):=ai E uY [.ptr 0 aF []] [(0,.box aF (.val aF x0))]
noncomputable def Ai (x0 x1:Int) (x2:aI):Option ((Int×Unit)×aI×Unit):=ai E Cn [.ptr 0 aF [],ag x0,ag x1] [(0,.box aF (.val aF x2))]
noncomputable def sK (x0 x1:Int) (x2:aI):Option ((Int×Unit)×aI×Unit):=ai E EI [.ptr 0 aF [],ag x0,ag x1] [(0,.box aF (.val aF x2))]
noncomputable def qg (x0:aI):Option ((ak×Unit)×aI×Unit):=ai E Cs [.ptr 0 aF []] [(0,.box aF (.val aF x0))]
noncomputable def lL (x0:Int):Option ((aa_×Unit)×Unit):=ai E KK [ag x0] []
noncomputable def dP (x0:aI):Option ((aa_×Unit)×aI×Unit):=ai E Bp [.ptr 0 aF []] [(0,.box aF (.val aF x0))]
noncomputable def u7 (x0:aa_):Option ((Bool×Unit)×Unit):=ai E Aa [be x0] []
noncomputable def kD (x0:aa_) (x1:Int) (x2:Bool) (x3:(List ab)):Option (Unit×(aa_×Int×Bool×(List ab)×Unit)×Unit):=ai E rj [.ptr 0 bn []] [(0,.box bn (.strct [be x0,ag x1,cZ x2,.row 1])),(1,.row 182 aq x3 false)]
noncomputable def dZ (x0 x1:aa_) (x2:Int) (x3:Bool) (x4:(List ab)):Option ((Bool×Unit)×(aa_×Int×Bool×(List ab)×Unit)×Unit):=ai E Hf [.ptr 0 bn [],be x0] [(0,.box bn (.strct [be x1,ag x2,cZ x3,.row 1])),(1,.row 182 aq x4 false)]
noncomputable def fj (x0:Int) (x1:aa_) (x2:Int) (x3:Bool) (x4:(List ab)):Option ((Int×Unit)×(aa_×Int×Bool×(List ab)×Unit)×Unit):=ai E xu [.ptr 0 bn [],ag x0] [(0,.box bn (.strct [be x1,ag x2,cZ x3,.row 1])),(1,.row 182 aq x4 false)]
noncomputable def eE (x0:ac):Option ((Bool×Unit)×Unit):=ai E G9 [.val ap x0] []
noncomputable def I9 (x0:ak):Option ((Bool×Unit)×Unit):=ai E KX [.val ax x0] []
noncomputable def Ja (x0 x1:Int):Option ((Bool×Unit)×Unit):=ai E KY [ag x0,ag x1] []
noncomputable def wo (x0:ab):Option ((Bool×Unit)×Unit):=ai E EP [.val aq x0] []
noncomputable def cx (x0:ab) (x1:aa_) (x2:Int) (x3:Bool) (x4:(List ab)):Option ((Int×Unit)×(aa_×Int×Bool×(List ab)×Unit)×Unit):=ai E EO [.ptr 0 bn [],.val aq x0] [(0,.box bn (.strct [be x1,ag x2,cZ x3,.row 1])),(1,.row 182 aq x4 false)]
noncomputable def Aj (x0:aa_) (x1:Int) (x2:Bool) (x3:(List ab)):Option ((Int×Unit)×(aa_×Int×Bool×(List ab)×Unit)×Unit):=ai E u3 [.ptr 0 bn []] [(0,.box bn (.strct [be x0,ag x1,cZ x2,.row 1])),(1,.row 182 aq x3 false)]
noncomputable def nc (x0:Int):Option ((aa_×Unit)×Unit):=ai E KH [ag x0] []
noncomputable def cR (x0:Int):Option ((ac×Unit)×Unit):=ai E G8 [ag x0] []
noncomputable def ne (x0:aa_) (x1:Int) (x2:Bool) (x3:(List ab)):Option ((aa_×Unit)×(aa_×Int×Bool×(List ab)×Unit)×Unit):=ai E u4 [.ptr 0 bn []] [(0,.box bn (.strct [be x0,ag x1,cZ x2,.row 1])),(1,.row 182 aq x3 false)]
noncomputable def MG (x0:Int):Option ((aa_×Unit)×Unit):=ai E RR [ag x0] []
noncomputable def rm (x0:aa_):Option ((Int×Unit)×Unit):=ai E Af [be x0] []
noncomputable def dr (x0:aa_) (x1:Int):Option ((Int×Bool×Unit)×Unit):=ai E FH [be x0,ag x1] []
noncomputable def nf (x0:aa_):Option ((bX×Bool×Unit)×Unit):=ai E u5 [be x0] []
noncomputable def sL (x0:aa_) (x1:Int) (x2:Bool) (x3:(List ab)):Option ((Int×Unit)×(aa_×Int×Bool×(List ab)×Unit)×Unit):=ai E ER [.ptr 0 bn []] [(0,.box bn (.strct [be x0,ag x1,cZ x2,.row 1])),(1,.row 182 aq x3 false)]
noncomputable def Ak (x0:Int) (x1:aa_) (x2:Int) (x3:Bool) (x4:(List ab)):Option ((Int×Unit)×(aa_×Int×Bool×(List ab)×Unit)×Unit):=ai E qe [.ptr 0 bn [],ag x0] [(0,.box bn (.strct [be x1,ag x2,cZ x3,.row 1])),(1,.row 182 aq x4 false)]
noncomputable def la (x0:aa_):Option ((ac×Bool×Unit)×Unit):=ai E qb [be x0] []
noncomputable def wq (x0:aa_) (x1:Int) (x2:Bool) (x3:(List ab)):Option ((Int×Unit)×(aa_×Int×Bool×(List ab)×Unit)×Unit):=ai E si [.ptr 0 bn []] [(0,.box bn (.strct [be x0,ag x1,cZ x2,.row 1])),(1,.row 182 aq x3 false)]
noncomputable def u9 (x0:Int):Option ((Int×Unit)×Unit):=ai E Hc [ag x0] []
noncomputable def FJ (x0:Int) (x1:aa_) (x2:Int) (x3:Bool) (x4:(List ab)):Option ((Int×Unit)×(aa_×Int×Bool×(List ab)×Unit)×Unit):=ai E tM [.ptr 0 bn [],ag x0] [(0,.box bn (.strct [be x1,ag x2,cZ x3,.row 1])),(1,.row 182 aq x4 false)]
noncomputable def yA (x0:(List ab)) (x1:Int):Option ((Int×Unit)×Unit):=ai E Cz [.val (.slice 182 aq) x0,ag x1] []
noncomputable def yB (x0:(List ab)) (x1:Int):Option ((Int×Unit)×Unit):=ai E CA [.val (.slice 182 aq) x0,ag x1] []
noncomputable def ng (x0:(List ab)):Option ((Bool×Unit)×Unit):=ai E qc [.val (.slice 182 aq) x0] []
noncomputable def kE (x0:aa_):Option (((List ab)×Bool×Unit)×Unit):=ai E yu [be x0] []
noncomputable def FK (x0:aa_):Option ((aa_×Unit)×Unit):=ai E Ae [be x0] []
noncomputable def Jb (x0:Int):Option ((aa_×Unit)×Unit):=ai E KJ [ag x0] []
noncomputable def et (x0:ac):Option ((aa_×Unit)×Unit):=ai E Cm [.val ap x0] []
noncomputable def nh (x0:(List ab)) (x1 x2:Int):Option ((aa_×Unit)×Unit):=ai E Cx [.val (.slice 182 aq) x0,ag x1,ag x2] []
noncomputable def qh (x0:(List ab)):Option ((aa_×Unit)×Unit):=ai E yw [.val (.slice 182 aq) x0] []
noncomputable def CG (x0:aa_):Option ((ac×Bool×Unit)×Unit):=ai E xt [be x0] []
noncomputable def d7 (x0:aa_):Option ((aa_×Bool×Unit)×Unit):=ai E G5 [be x0] []
noncomputable def oV (x0 x1:am):Option ((Bool×Unit)×Unit):=ai E G6 [.val au x0,.val au x1] []
noncomputable def Al (x0:(List ae)):Option ((Bool×Unit)×Unit):=ai E zZ [.val (.slice 61 av) x0] []
noncomputable def Hh (x0:(List ae)) (x1:am) (x2:aa_):Option (((List ae)×Unit)×Unit):=ai E FD [.val (.slice 61 av) x0,.val au x1,be x2] []
noncomputable def Hi (x0:(List ae)) (x1:am) (x2:aa_):Option (((List ae)×Bool×Unit)×Unit):=ai E NB [.val (.slice 61 av) x0,.val au x1,be x2] []
noncomputable def lM (x0:Int) (x1:(List Int)) (x2:Int):Option (((List ae)×Unit)×aI×Unit):=ai E tn [.ptr 0 aF [],ag x0] [(0,.box aF (.strct [.val (.slice 5 (.int .u8)) x1,ag x2]))]
noncomputable def eU (x0:Int) (x1:aI):Option ((aa_×Unit)×aI×Unit):=ai E Cp [.ptr 0 aF [],ag x0] [(0,.box aF (.val aF x1))]
noncomputable def lc (x0:aI):Option ((bg×Unit)×aI×Unit):=ai E Cj [.ptr 0 aF []] [(0,.box aF (.val aF x0))]
noncomputable def fz (x0:aa_):Option ((Bool×Unit)×Unit):=ai E Br [be x0] []
noncomputable def j8 (x0:(List bg)):Option ((Bool×Unit)×Unit):=ai E zX [.val (.slice 83 aX) x0] []
noncomputable def sn (x0:aI):Option (((List bg)×Unit)×aI×Unit):=ai E oy [.ptr 0 aF []] [(0,.box aF (.val aF x0))]
noncomputable def Am (x0:aI):Option ((Int×Unit)×aI×Unit):=ai E Ch [.ptr 0 aF []] [(0,.box aF (.val aF x0))]
noncomputable def tq (x0:(List Int)):Option (((List ae)×(List bg)×Int×Unit)×Unit):=ai E wi [.val (.slice 5 (.int .u8)) x0] []
noncomputable def ES (x0:(List Int)):Option (((List ae)×(List bg)×Int×Unit)×Unit):=ai E Bo [.val (.slice 5 (.int .u8)) x0] []
noncomputable def dX (x0 x1 x2:Int):Option ((Bool×Unit)×Unit):=ai E KE [ag x0,ag x1,ag x2] []
noncomputable def oa (x0:am):Option ((Bool×Unit)×Unit):=ai E NA [.val au x0] []
noncomputable def qi (x0:Int):Option ((Bool×Unit)×Unit):=ai E tB [ag x0] []
noncomputable def fO (x0 x1:Int):Option ((Int×Unit)×Unit):=ai E qN [ag x0,ag x1] []
noncomputable def tP (x0:(List Int)):Option ((Int×Unit)×Unit):=ai E uU [.val (.slice 3 (.int .i64)) x0] []
noncomputable def va (x0 x1:am):Option ((Int×Unit)×Unit):=ai E yo [.val au x0,.val au x1] []
noncomputable def yC (x0:aa_) (x1:Int):Option ((Bool×Unit)×Unit):=ai E Co [be x0,ag x1] []
noncomputable def fk (x0 x1:aa_):Option ((Bool×Unit)×Unit):=ai E nH [be x0,be x1] []
noncomputable def pp (x0 x1:aa_):Option ((aa_×Bool×Unit)×Unit):=ai E nG [be x0,be x1] []
noncomputable def cH (x0 x1:aa_):Option ((aa_×Bool×Unit)×Unit):=ai E qO [be x0,be x1] []
noncomputable def iZ (x0 x1:aa_):Option ((aa_×Unit)×Unit):=ai E jN [be x0,be x1] []
noncomputable def iM (x0:aa_) (x1:Bool) (x2:(List ab)):Option (Unit×(aa_×(List ab)×Bool×Unit)×Unit):=ai E uZ [.ptr 0 bw []] [(0,.box bw (.strct [be x0,.row 1,cZ x1])),(1,.row 182 aq x2 false)]
noncomputable def eF (x0 x1:aa_):Option ((Bool×Unit)×Unit):=ai E qP [be x0,be x1] []
noncomputable def qj (x0:aa_) (x1:Bool) (x2:(List ab)):Option ((aa_×Unit)×(aa_×(List ab)×Bool×Unit)×Unit):=ai E rk [.ptr 0 bw []] [(0,.box bw (.strct [be x0,.row 1,cZ x1])),(1,.row 182 aq x2 false)]
noncomputable def bE (x0 x1:aa_) (x2:Bool) (x3:(List ab)):Option ((Bool×Unit)×(aa_×(List ab)×Bool×Unit)×Unit):=ai E yx [.ptr 0 bw [],be x0] [(0,.box bw (.strct [be x1,.row 1,cZ x2])),(1,.row 182 aq x3 false)]
noncomputable def eV (x0:Int) (x1:aa_) (x2:Bool) (x3:(List ab)):Option ((Int×Unit)×(aa_×(List ab)×Bool×Unit)×Unit):=ai E wl [.ptr 0 bw [],ag x0] [(0,.box bw (.strct [be x1,.row 1,cZ x2])),(1,.row 182 aq x3 false)]
noncomputable def aU (x0:ab) (x1:aa_) (x2:Bool) (x3:(List ab)):Option ((Int×Unit)×(aa_×(List ab)×Bool×Unit)×Unit):=ai E Bs [.ptr 0 bw [],.val aq x0] [(0,.box bw (.strct [be x1,.row 1,cZ x2])),(1,.row 182 aq x3 false)]
noncomputable def strings_Cut (x0 x1:aa_):Option ((aa_×aa_×Bool×Unit)×Unit):=ai E oz [be x0,be x1] []
noncomputable def ca (x0:ac) (x1:aa_) (x2:Bool) (x3:(List ab)):Option ((Int×Unit)×(aa_×(List ab)×Bool×Unit)×Unit):=ai E sH [.ptr 0 bw [],.val ap x0] [(0,.box bw (.strct [be x1,.row 1,cZ x2])),(1,.row 182 aq x3 false)]
noncomputable def kF (x0:aa_) (x1:Bool) (x2:(List ab)):Option ((Int×Unit)×(aa_×(List ab)×Bool×Unit)×Unit):=ai E oU [.ptr 0 bw []] [(0,.box bw (.strct [be x0,.row 1,cZ x1])),(1,.row 182 aq x2 false)]
noncomputable def ir (x0:Int):Option ((aa_×Unit)×Unit):=ai E Cl [ag x0] []
noncomputable def gA (x0:Int):Option ((ac×Unit)×Unit):=ai E NE [ag x0] []
noncomputable def kG (x0:aa_) (x1:Bool) (x2:(List ab)):Option ((aa_×Unit)×(aa_×(List ab)×Bool×Unit)×Unit):=ai E yz [.ptr 0 bw []] [(0,.box bw (.strct [be x0,.row 1,cZ x1])),(1,.row 182 aq x2 false)]
noncomputable def dE (x0:ac):Option ((Bool×Unit)×Unit):=ai E G3 [.val ap x0] []
noncomputable def tD (x0 x1:Int):Option ((aa_×Unit)×Unit):=ai E jn [ag x0,ag x1] []
noncomputable def ld (x0:Int):Option ((aa_×Unit)×Unit):=ai E G4 [ag x0] []
noncomputable def fE (x0:ac):Option ((aa_×Unit)×Unit):=ai E Cq [.val ap x0] []
noncomputable def mu (x0:Bool):Option ((ac×Unit)×Unit):=ai E ND [cZ x0] []
noncomputable def i7 (x0:aa_) (x1 x2:Int):Option ((Int×Bool×Unit)×Unit):=ai E jL [be x0,ag x1,ag x2] []
noncomputable def jD (x0:Int):Option ((ac×Unit)×Unit):=ai E KI [ag x0] []
noncomputable def eW (x0:aa_):Option ((ac×Bool×Unit)×Unit):=ai E uV [be x0] []
noncomputable def rn (x0:Int):Option ((aa_×Unit)×Unit):=ai E Hg [ag x0] []
noncomputable def FL (x0:aa_):Option ((Int×Unit)×Unit):=ai E Ag [be x0] []
noncomputable def ni (x0:bX):Option ((aa_×Unit)×Unit):=ai E CB [.val bW x0] []
noncomputable def iu (x0:aa_):Option ((bX×Bool×Unit)×Unit):=ai E CF [be x0] []
noncomputable def DW (x0:Int):Option ((aa_×Unit)×Unit):=ai E KR [ag x0] []
noncomputable def lf (x0:aa_) (x1:Bool) (x2:(List ab)):Option (((Int×Int×ac×bX×bX×(List Int)×Unit)×Bool×Unit)×(aa_×(List ab)×Bool×Unit)×Unit):=ai E sI [.ptr 0 bw []] [(0,.box bw (.strct [be x0,.row 1,cZ x1])),(1,.row 182 aq x2 false)]
noncomputable def bJ (x0 x1:Int) (x2:aa_) (x3:Bool) (x4:(List ab)):Option ((Int×Unit)×(aa_×(List ab)×Bool×Unit)×Unit):=ai E k9 [.ptr 0 bw [],ag x0,ag x1] [(0,.box bw (.strct [be x2,.row 1,cZ x3])),(1,.row 182 aq x4 false)]
noncomputable def gB (x0 x1:Int) (x2:aa_) (x3:Bool) (x4:(List ab)):Option ((Int×Unit)×(aa_×(List ab)×Bool×Unit)×Unit):=ai E na [.ptr 0 bw [],ag x0,ag x1] [(0,.box bw (.strct [be x2,.row 1,cZ x3])),(1,.row 182 aq x4 false)]
noncomputable def fF (x0:Int) (x1:aa_) (x2:Bool) (x3:(List ab)):Option ((Int×Unit)×(aa_×(List ab)×Bool×Unit)×Unit):=ai E m8 [.ptr 0 bw [],ag x0] [(0,.box bw (.strct [be x1,.row 1,cZ x2])),(1,.row 182 aq x3 false)]
noncomputable def yD (x0:Int):Option ((aa_×Unit)×Unit):=ai E KM [ag x0] []
noncomputable def CH (x0:Int):Option ((Int×Unit)×Unit):=ai E NG [ag x0] []
noncomputable def j9 (x0:ab):Option ((ak×Unit)×Unit):=ai E Bt [.val aq x0] []
noncomputable def DX (x0:ak):Option ((Bool×Unit)×Unit):=ai E K3 [.val ax x0] []
noncomputable def eG (x0:ab):Option ((Bool×Unit)×Unit):=ai E tC [.val aq x0] []
noncomputable def fR (x0:ab):Option ((Bool×Unit)×Unit):=ai E wn [.val aq x0] []
noncomputable def vb (x0:ab):Option ((Bool×Unit)×Unit):=ai E yy [.val aq x0] []
noncomputable def An (x0:(List ab)) (x1 x2:Int):Option ((Int×Unit)×Unit):=ai E I6 [.val (.slice 182 aq) x0,ag x1,ag x2] []
noncomputable def tQ (x0:(List ab)):Option ((Bool×Unit)×Unit):=ai E Ct [.val (.slice 182 aq) x0] []
noncomputable def i8 (x0:aa_):Option (((List ab)×Bool×Unit)×Unit):=ai E yq [be x0] []
noncomputable def strings_ReplaceAll (x0 x1 x2:aa_):Option ((aa_×Unit)×Unit):=ai E ip [be x0,be x1,be x2] []
noncomputable def gC (x0:(List ab)) (x1 x2:Int):Option ((aa_×Unit)×Unit):=ai E rl [.val (.slice 182 aq) x0,ag x1,ag x2] []
noncomputable def strings_Join (x0:(List aa_)) (x1:aa_):Option ((aa_×Unit)×Unit):=ai E m9 [.val (.slice 9 .str) x0,be x1] []
noncomputable def qk (x0:(List ab)):Option ((aa_×Unit)×Unit):=ai E yv [.val (.slice 182 aq) x0] []
noncomputable def K4 (x0:(List ab)):Option ((aa_×Bool×Unit)×Unit):=ai E EK [.val (.slice 182 aq) x0] []
noncomputable def ob (x0 x1:aa_):Option ((aa_×Unit)×Unit):=ai E mt [be x0,be x1] []
noncomputable def mv (x0 x1:aa_):Option ((aa_×Unit)×Unit):=ai E qa [be x0,be x1] []
noncomputable def vc (x0 x1:aa_):Option ((aa_×Unit)×Unit):=ai E m7 [be x0,be x1] []
noncomputable def CI (x0:aa_):Option ((Bool×Unit)×Unit):=ai E EL [be x0] []
noncomputable def vd (x0:aa_):Option ((aa_×Bool×Unit)×Unit):=ai E G0 [be x0] []
noncomputable def pq (x0:aa_):Option ((Bool×Unit)×Unit):=ai E EG [be x0] []
noncomputable def ve (x0:(List ae)):Option ((Bool×Unit)×Unit):=ai E zW [.val (.slice 61 av) x0] []
noncomputable def nj (x0:aa_):Option ((Bool×Unit)×Unit):=ai E Cu [be x0] []
noncomputable def vf (x0:bg) (x1 x2:Int):Option ((Bool×Unit)×Unit):=ai E yr [.val aX x0,ag x1,ag x2] []
noncomputable def FM (x0:(List bg)):Option ((Bool×Unit)×Unit):=ai E zY [.val (.slice 83 aX) x0] []
noncomputable def Ao (x0:(List ae)) (x1:(List bg)) (x2:Int):Option ((Int×Unit)×Unit):=ai E GZ [.val (.slice 61 av) x0,.val (.slice 83 aX) x1,ag x2] []
noncomputable def fP (x0:(List ae)):Option (((List ae)×Unit)×Unit):=ai E eK [.val (.slice 61 av) x0] []
noncomputable def vg (x0:(List ab)):Option (((List ak)×Unit)×Unit):=ai E Ab [.val (.slice 182 aq) x0] []
noncomputable def tE (x0:(List ak)) (x1:ak):Option ((Int×Unit)×Unit):=ai E lU [.val (.slice 49 ax) x0,.val ax x1] []
noncomputable def eu (x0:(List ak)) (x1:ak):Option ((Bool×Unit)×Unit):=ai E n8 [.val (.slice 49 ax) x0,.val ax x1] []
noncomputable def jO (x0 x1:(List ak)):Option (Unit×(List ak)×Unit):=ai E kv [.val (.slice 49 ax) x0,.ptr 0 (.slice 49 ax) []] [(0,.box (.slice 49 ax) (.row 1)),(1,.row 49 ax x1 false)]
noncomputable def pu (x0:ak) (x1:am):Option ((Bool×Unit)×Unit):=ai E EN [.val ax x0,.val au x1] []
noncomputable def tR (x0:aa_):Option (((List ab)×Bool×Unit)×Unit):=ai E Cv [be x0] []
noncomputable def tr (x0:(List ab)) (x1:(List ae)) (x2:(List ak)) (x3:(List am)):Option (Unit×((List ae)×(List ak)×(List am)×Unit)×Unit):=ai E gV [.ptr 0 cp [],.val (.slice 182 aq) x0] [(0,.box cp (.strct [.row 1,.row 2,.row 3])),(1,.row 61 av x1 false),(2,.row 49 ax x2 false),(3,.row 39 au x3 false)]
noncomputable def RX (x0:ak) (x1 x2:Int):Option ((Bool×Unit)×am×Unit):=ai E CD [.val ax x0,.ptr 0 au []] [(0,.box au (.strct [ag x1,ag x2]))]
noncomputable def NP (x0:ak) (x1:am):Option ((Bool×Unit)×am×Unit):=ai E CD [.val ax x0,.ptr 0 au []] [(0,.box au (.val au x1))]
noncomputable def kp (x0:(List ak)) (x1 x2:Int):Option ((Int×Unit)×am×Unit):=ai E f0 [.val (.slice 49 ax) x0,.fn 271 [.ptr 0 au []]] [(0,.box au (.strct [ag x1,ag x2]))]
noncomputable def ja (x0:(List ak)) (x1 x2:Int):Option ((Bool×Unit)×am×Unit):=ai E lu [.val (.slice 49 ax) x0,.fn 271 [.ptr 0 au []]] [(0,.box au (.strct [ag x1,ag x2]))]
noncomputable def Tj (x0:(List ak)) (x1:am):Option ((Bool×Unit)×Unit):=ai E RN [.val (.slice 49 ax) x0,.val au x1] []
noncomputable def CJ (x0:(List ae)):Option ((((List ae)×(List (List ab))×(List (List Int))×Unit)×Unit)×Unit):=ai E sf [.val (.slice 61 av) x0] []
noncomputable def jb (x0:(List Bool)):Option (((List Bool)×Unit)×Unit):=ai E hY [.val (.slice 4 .bool) x0] []
noncomputable def gp (x0:(List Int)):Option (((List Int)×Unit)×Unit):=ai E iY [.val (.slice 3 (.int .i64)) x0] []
noncomputable def lv (x0:mq) (x1:Int):Option ((Bool×Unit)×Unit):=ai E qd [.val b9 x0,ag x1] []
noncomputable def cS (x0:Int) (x1:(List ae)) (x2:(List (List ab))) (x3:(List (List Int))) (x4:(List Bool)) (x5:(List ah)):Option (Unit×(List Bool)×mq×(List ah)×Unit):=ai E fN [ag x0,.ptr 0 (.slice 4 .bool) [],.ptr 1 b9 [],.ptr 2 (.slice 221 aw) [],.ptr 3 .fn []] [(0,.box (.slice 4 .bool) (.row 4)),(1,.box b9 (.strct [.val (.slice 61 av) x1,.val (.slice 108 (.slice 182 aq)) x2,.val (.slice 135 (.slice 3 (.int .i64))) x3])),(2,.box (.slice 221 aw) (.row 5)),(3,.keepF 199 [.ptr 0 (.slice 4 .bool) [],.ptr 1 b9 [],.ptr 2 (.slice 221 aw) [],.ptr 3 .fn []]),(4,.row 4 .bool x4 false),(5,.row 221 aw x5 false)]
noncomputable def bR (x0:Int) (x1:mq) (x2:(List Bool)) (x3:(List ah)):Option (Unit×(List Bool)×mq×(List ah)×Unit):=ai E fN [ag x0,.ptr 0 (.slice 4 .bool) [],.ptr 1 b9 [],.ptr 2 (.slice 221 aw) [],.ptr 3 .fn []] [(0,.box (.slice 4 .bool) (.row 4)),(1,.box b9 (.val b9 x1)),(2,.box (.slice 221 aw) (.row 5)),(3,.keepF 199 [.ptr 0 (.slice 4 .bool) [],.ptr 1 b9 [],.ptr 2 (.slice 221 aw) [],.ptr 3 .fn []]),(4,.row 4 .bool x2 false),(5,.row 221 aw x3 false)]
noncomputable def Jc (x0:(List ah)) (x1:am):Option ((ac×Unit)×Unit):=ai E Cy [.val (.slice 221 aw) x0,.val au x1] []
noncomputable def gq (x0:(List ab)) (x1:Int) (x2:(List ah)):Option ((ac×Unit)×Unit):=ai E RH [.val (.slice 182 aq) x0,ag x1,.val (.slice 221 aw) x2] []
noncomputable def gD (x0:ac):Option ((Int×Bool×Unit)×Unit):=ai E EQ [.val ap x0] []
noncomputable def jP (x0:ac):Option ((ac×Unit)×Unit):=ai E RU [.val ap x0] []
noncomputable def oW (x0:Int):Option ((ac×Unit)×Unit):=ai E Hd [ag x0] []
noncomputable def RY (x0 x1:Int):Option ((ac×Unit)×Unit):=ai E KU [ag x0,ag x1] []
noncomputable def tF (x0 x1:ac):Option ((ac×Unit)×Unit):=ai E n9 [.val ap x0,.val ap x1,.fn 264 []] []
noncomputable def MH (x0 x1:ac):Option ((ac×Unit)×Unit):=ai E RJ [.val ap x0,.val ap x1] []
noncomputable def FN (x0:ac):Option ((ac×Unit)×Unit):=ai E Ha [.val ap x0] []
noncomputable def oX (x0:ac):Option ((Bool×Bool×Unit)×Unit):=ai E G2 [.val ap x0] []
noncomputable def RZ (x0:(List ab)) (x1:ab) (x2:(List ah)):Option ((ac×Unit)×Unit):=ai E KS [.val (.slice 182 aq) x0,.val aq x1,.val (.slice 221 aw) x2] []
noncomputable def lg (x0:ac):Option ((aa_×Unit)×Unit):=ai E Ck [.val ap x0] []
noncomputable def yE (x0:ac):Option ((aa_×Bool×Unit)×Unit):=ai E KW [.val ap x0] []
noncomputable def DY (x0:Int) (x1:ac):Option ((ac×Unit)×Unit):=ai E KT [ag x0,.val ap x1] []
noncomputable def cM (x0:(List ab)) (x1:ab) (x2:(List ah)):Option (((List ac)×Unit)×Unit):=ai E sk [.val (.slice 182 aq) x0,.val aq x1,.val (.slice 221 aw) x2] []
noncomputable def kU (x0:Int) (x1:(List ac)):Option ((ac×Unit)×Unit):=ai E xw [ag x0,.val (.slice 89 ap) x1] []
noncomputable def vh (x0 x1:ac):Option ((ac×Unit)×Unit):=ai E n9 [.val ap x0,.val ap x1,.fn 262 []] []
noncomputable def NQ (x0 x1:ac):Option ((ac×Unit)×Unit):=ai E VN [.val ap x0,.val ap x1] []
noncomputable def pv (x0:(List ac)):Option ((ac×Unit)×Unit):=ai E CC [.val (.slice 89 ap) x0] []
noncomputable def kV (x0:Int) (x1:(List ac)):Option ((ac×Unit)×Unit):=ai E xx [ag x0,.val (.slice 89 ap) x1] []
noncomputable def R0 (x0:(List ab)) (x1:ab) (x2:(List ah)):Option ((ac×Unit)×Unit):=ai E KN [.val (.slice 182 aq) x0,.val aq x1,.val (.slice 221 aw) x2] []
noncomputable def sM (x0 x1:ac):Option ((ac×Unit)×Unit):=ai E n9 [.val ap x0,.val ap x1,.fn 265 []] []
noncomputable def NR (x0 x1:ac):Option ((ac×Unit)×Unit):=ai E NH [.val ap x0,.val ap x1] []
noncomputable def tG (x0 x1:ac):Option ((ac×Unit)×Unit):=ai E n9 [.val ap x0,.val ap x1,.fn 266 []] []
noncomputable def Tk (x0 x1:ac):Option ((ac×Unit)×Unit):=ai E RL [.val ap x0,.val ap x1] []
noncomputable def Jd (x0 x1:ac):Option ((ac×Unit)×Unit):=ai E KO [.val ap x0,.val ap x1] []
noncomputable def oY (x0:aa_):Option ((Bool×Unit)×Unit):=ai E sJ [be x0] []
noncomputable def mw (x0 x1:aa_):Option ((Int×Unit)×Unit):=ai E qf [be x0,be x1] []
noncomputable def CK (x0 x1:ac):Option ((Int×Unit)×Unit):=ai E NL [.val ap x0,.val ap x1] []
noncomputable def Tl (x0:Int) (x1 x2:ac):Option ((ac×Unit)×Unit):=ai E RM [ag x0,.val ap x1,.val ap x2] []
noncomputable def tS (x0:(List ab)) (x1:(List ah)):Option ((ac×Unit)×Unit):=ai E RF [.val (.slice 182 aq) x0,.val (.slice 221 aw) x1] []
noncomputable def tt (x0:mq) (x1:(List Bool)) (x2:(List ac)):Option (((List ah)×Unit)×Unit):=ai E jM [.val b9 x0,.val (.slice 4 .bool) x1,.val (.slice 89 ap) x2] []
noncomputable def vi (x0:(List ae)):Option (((List ah)×Unit)×Unit):=ai E yt [.val (.slice 61 av) x0] []
noncomputable def oA (x0:aa_) (x1:(List ae)) (x2:(List ak)) (x3:(List am)):Option ((ac×Unit)×((List ae)×(List ak)×(List am)×Unit)×Unit):=ai E wk [.ptr 0 cp [],be x0] [(0,.box cp (.strct [.row 1,.row 2,.row 3])),(1,.row 61 av x1 false),(2,.row 49 ax x2 false),(3,.row 39 au x3 false)]
noncomputable def Hj (x0:ae) (x1 x2:Int):Option ((Bool×Unit)×am×Unit):=ai E uW [.val av x0,.ptr 0 au []] [(0,.box au (.strct [ag x1,ag x2]))]
noncomputable def xz (x0:ae) (x1:am):Option ((Bool×Unit)×am×Unit):=ai E uW [.val av x0,.ptr 0 au []] [(0,.box au (.val au x1))]
noncomputable def fa (x0:(List ae)) (x1 x2:Int):Option ((Int×Unit)×am×Unit):=ai E fZ [.val (.slice 61 av) x0,.fn 77 [.ptr 0 au []]] [(0,.box au (.strct [ag x1,ag x2]))]
noncomputable def ew (x0:(List ae)) (x1 x2:Int):Option (((List ae)×Unit)×am×Unit):=ai E iX [.row 0,.fn 77 [.ptr 1 au []]] [(0,.row 61 av x0 false),(1,.box au (.strct [ag x1,ag x2]))]
noncomputable def eN (x0:(List ae)):Option (Unit×(List ae)×Unit):=ai E j6 [.row 0,.fn 79 []] [(0,.row 61 av x0 false)]
noncomputable def Ap (x0:(List ae)) (x1:am) (x2:aa_):Option (((List ae)×Unit)×Unit):=ai E G1 [.val (.slice 61 av) x0,.val au x1,be x2] []
noncomputable def vj (x0:(List am)) (x1:am):Option ((Int×Unit)×Unit):=ai E mr [.val (.slice 39 au) x0,.val au x1] []
noncomputable def lV (x0:(List am)) (x1:am):Option ((Bool×Unit)×Unit):=ai E po [.val (.slice 39 au) x0,.val au x1] []
noncomputable def aG (x0:am) (x1:aa_) (x2:(List ae)) (x3:(List ak)) (x4:(List am)):Option ((Bool×Unit)×((List ae)×(List ak)×(List am)×Unit)×Unit):=ai E yp [.ptr 0 cp [],.val au x0,be x1] [(0,.box cp (.strct [.row 1,.row 2,.row 3])),(1,.row 61 av x2 false),(2,.row 49 ax x3 false),(3,.row 39 au x4 false)]
noncomputable def ql (x0:(List bg)) (x1:Int) (x2:(List ae)) (x3:(List ak)) (x4:(List am)):Option ((Int×Int×Unit)×((List ae)×(List ak)×(List am)×Unit)×Unit):=ai E m6 [.ptr 0 cp [],.val (.slice 83 aX) x0,ag x1] [(0,.box cp (.strct [.row 1,.row 2,.row 3])),(1,.row 61 av x2 false),(2,.row 49 ax x3 false),(3,.row 39 au x4 false)]
noncomputable def Je (x0:(List ae)) (x1:(List bg)) (x2:Int):Option (((List ak)×(List am)×Unit)×Unit):=ai E KA [.val (.slice 61 av) x0,.val (.slice 83 aX) x1,ag x2] []
noncomputable def NS (x0:(List ae)) (x1:(List bg)) (x2:Int):Option ((Int×Unit)×Unit):=ai E Nz [.val (.slice 61 av) x0,.val (.slice 83 aX) x1,ag x2] []
noncomputable def oc (x0:(List am)) (x1:am):Option ((Bool×Unit)×Unit):=ai E FE [.val (.slice 39 au) x0,.val au x1] []
noncomputable def iO (x0:eJ) (x1:am) (x2:aa_):Option ((eJ×Unit)×Unit):=ai E KF [.val bh x0,.val au x1,be x2] []
noncomputable def qm (x0:aa_):Option (((List ab)×Bool×Unit)×Unit):=ai E Cw [be x0] []
noncomputable def FO (x0:(List ab)):Option (((List ak)×Unit)×Unit):=ai E Ac [.val (.slice 182 aq) x0] []
noncomputable def rp (x0:aa_):Option (((List ak)×Unit)×Unit):=ai E G7 [be x0] []
noncomputable def px (x0:am) (x1:ak):Option ((Bool×Unit)×Unit):=ai E EM [.val au x0,.val ax x1] []
noncomputable def Aq (x0:eJ) (x1:aa_):Option ((eJ×Unit)×Unit):=ai E eT [.val bh x0,be x1] []
noncomputable def MI (x0:(List ah)) (x1:am):Option ((ac×Unit)×Unit):=ai E I7 [.val (.slice 221 aw) x0,.val au x1] []
noncomputable def Hk (x0:(List ae)) (x1:am):Option ((aa_×Unit)×Unit):=ai E I8 [.val (.slice 61 av) x0,.val au x1] []
noncomputable def oZ (x0:(List ae)) (x1:am):Option (((List am)×Unit)×Unit):=ai E tN [.val (.slice 61 av) x0,.val au x1] []
noncomputable def wt (x0:(List ae)) (x1:am):Option ((Bool×Unit)×Unit):=ai E sj [.val (.slice 61 av) x0,.val au x1] []
noncomputable def lw (x0:(List ah)) (x1:ah):Option (((List ah)×Unit)×Unit):=ai E FI [.val (.slice 221 aw) x0,.val aw x1] []
noncomputable def CL (x0:(List ah)):Option ((Bool×Unit)×Unit):=ai E xv [.val (.slice 221 aw) x0] []
noncomputable def fm (x0:(List ab)) (x1:Int) (x2:(List ah)):Option ((ac×Unit)×Unit):=ai E KL [.val (.slice 182 aq) x0,ag x1,.val (.slice 221 aw) x2] []
noncomputable def CM (x0:ac):Option ((Int×ac×Unit)×Unit):=ai E NM [.val ap x0] []
noncomputable def jc (x0:Int):Option ((ac×Unit)×Unit):=ai E NF [ag x0] []
noncomputable def Ar (x0:ac):Option ((ac×Unit)×Unit):=ai E Hb [.val ap x0] []
noncomputable def py (x0:ac):Option ((Bool×ac×Unit)×Unit):=ai E KG [.val ap x0] []
noncomputable def jE (x0:Bool):Option ((ac×Unit)×Unit):=ai E KZ [cZ x0] []
noncomputable def yF (x0 x1:ac):Option ((Int×Int×ac×Unit)×Unit):=ai E NN [.val ap x0,.val ap x1] []
noncomputable def FP (x0 x1:ac):Option ((ac×Unit)×Unit):=ai E VO [.val ap x0,.val ap x1] []
noncomputable def yG (x0:ac):Option ((aa_×ac×Unit)×Unit):=ai E K0 [.val ap x0] []
noncomputable def Jf (x0:(List ab)) (x1:Int) (x2:(List ah)):Option (((List ac)×Unit)×Unit):=ai E wm [.val (.slice 182 aq) x0,ag x1,.val (.slice 221 aw) x2] []
noncomputable def Jg (x0:Int) (x1:(List ac)):Option ((ac×Unit)×Unit):=ai E CE [ag x0,.val (.slice 89 ap) x1] []
noncomputable def R3 (x0:(List ab)) (x1:Int) (x2:(List ah)):Option ((ac×Unit)×Unit):=ai E KP [.val (.slice 182 aq) x0,ag x1,.val (.slice 221 aw) x2] []
noncomputable def Tm (x0 x1:ac):Option ((ac×Unit)×Unit):=ai E RO [.val ap x0,.val ap x1] []
noncomputable def NT (x0 x1:ac):Option ((ac×Unit)×Unit):=ai E NI [.val ap x0,.val ap x1] []
noncomputable def Tn (x0 x1:ac):Option ((ac×Unit)×Unit):=ai E RP [.val ap x0,.val ap x1] []
noncomputable def Jh (x0 x1:ac):Option ((ac×Unit)×Unit):=ai E KQ [.val ap x0,.val ap x1] []
noncomputable def DZ (x0 x1:ac):Option ((ac×Unit)×Unit):=ai E K1 [.val ap x0,.val ap x1] []
noncomputable def yH (x0 x1:Bool):Option ((Int×Unit)×Unit):=ai E K2 [cZ x0,cZ x1] []
noncomputable def NU (x0 x1:ac):Option ((Int×Unit)×Unit):=ai E NO [.val ap x0,.val ap x1] []
noncomputable def To (x0:Int) (x1 x2:ac):Option ((ac×Unit)×Unit):=ai E RQ [ag x0,.val ap x1,.val ap x2] []
noncomputable def tT (x0:(List ab)) (x1:(List ah)):Option ((ac×Unit)×Unit):=ai E RG [.val (.slice 182 aq) x0,.val (.slice 221 aw) x1] []
noncomputable def D0 (x0:(List ae)) (x1:(List ah)) (x2:(List am)):Option (((List ah)×Unit)×Unit):=ai E kT [.val (.slice 61 av) x0,.val (.slice 221 aw) x1,.val (.slice 39 au) x2] []
noncomputable def NV (x0:(List ae)):Option (((List ah)×Unit)×Unit):=ai E FF [.val (.slice 61 av) x0] []
noncomputable def wu (x0:eJ) (x1:aa_):Option ((ac×Unit)×Unit):=ai E EJ [.val bh x0,be x1] []
noncomputable def Ji (x0:(List ae)) (x1:(List bg)) (x2:Int):Option ((eJ×Unit)×Unit):=ai E wj [.val (.slice 61 av) x0,.val (.slice 83 aX) x1,ag x2] []
noncomputable def Jj (x0:(List ae)) (x1:(List bg)) (x2:Int):Option (((List ak)×(List am)×Unit)×Unit):=ai E KB [.val (.slice 61 av) x0,.val (.slice 83 aX) x1,ag x2] []
noncomputable def wv (x0 x1:(List am)):Option ((Bool×Unit)×Unit):=ai E xq [.val (.slice 39 au) x0,.val (.slice 39 au) x1] []
noncomputable def ww (x0:(List ae)) (x1:(List bg)) (x2:Int):Option (((List ae)×Int×Int×Unit)×Unit):=ai E EE [.val (.slice 61 av) x0,.val (.slice 83 aX) x1,ag x2] []
noncomputable def Au (x0:(List Int)):Option (((List ae)×am×aa_×Unit)×Unit):=ai E Cg [.val (.slice 5 (.int .u8)) x0] []
noncomputable def NW (x0:(List ae)) (x1:am) (x2:aa_):Option (((List ae)×Bool×Unit)×Unit):=ai E Ny [.val (.slice 61 av) x0,.val au x1,be x2] []
noncomputable def D1 (x0:am) (x1:ak):Option ((Bool×Unit)×Unit):=ai E KC [.val au x0,.val ax x1] []
noncomputable def CN (x0:(List ae)) (x1:am):Option ((aa_×Unit)×Unit):=ai E xr [.val (.slice 61 av) x0,.val au x1] []
noncomputable def wx (x0:(List ae)) (x1:am):Option ((aa_×Unit)×Unit):=ai E EF [.val (.slice 61 av) x0,.val au x1] []
noncomputable def K5 (x0:(List Int)):Option ((Bool×Unit)×Unit):=ai E n7 [.val (.slice 5 (.int .u8)) x0] []
noncomputable def Tp:Code:=aW Tryz.f149
def unU (n:Nat):List SV:=List.replicate n .undef
noncomputable def xA (x0:Int) (x1:aa_):Option ((aa_×Unit)×Unit):=bA E Ad [] Tp 480 {slots:=[ag x0,aa,aa,be x1]++unU 18,res:=[],nx:=0,n0:=0}
noncomputable def Yc:Code:=aW Tryz.f43
noncomputable def sN (x0:Int) (x1:aa_):Option ((aa_×Unit)×Unit):=bA E FC [] Yc 480 {slots:=[ag x0,aa,aa,be x1]++unU 25,res:=[],nx:=0,n0:=0}
noncomputable def NX:Code:=aW Tryz.f105
noncomputable def oB (x0 x1:Int) (x2:aI):Option ((Int×Unit)×aI×Unit):=bA E uY [(0,.box aF (aa))] NX 464 {slots:=[.ptr 0 aF [],aa,aa,.val (.int .u64) x0,ag x1]++unU 11,res:=[(0,.box aF (.val aF x2))],nx:=1,n0:=1}
noncomputable def Tq:Code:=aW Tryz.f125
noncomputable def so (x0:aa_) (x1:Int):Option ((Bool×Unit)×Unit):=bA E Aa [] Tq 208 {slots:=[be x0,aa,aa,ag x1]++unU 19,res:=[],nx:=0,n0:=0}
noncomputable def Jk:Code:=aW Tryz.f142
noncomputable def l6 (x0:aa_) (x1:Int) (x2:Bool) (x3:(List ab)):Option (Unit×(aa_×Int×Bool×(List ab)×Unit)×Unit):=bA E rj [(0,.box bn (aa)),(1,.row 182 aq [] false)] Jk 16 {slots:=[.ptr 0 bn []]++unU 30,res:=[(0,.box bn (.strct [be x0,ag x1,cZ x2,.row 1])),(1,.row 182 aq x3 false)],nx:=2,n0:=2}
noncomputable def Qm:Code:=aW Tryz.f141
noncomputable def dI (x0 x1:Int) (x2:aa_) (x3:Int) (x4:Bool) (x5:(List ab)):Option ((Int×Unit)×(aa_×Int×Bool×(List ab)×Unit)×Unit):=bA E xu [(0,.box bn (aa)),(1,.row 182 aq [] false)] Qm 992 {slots:=[.ptr 0 bn [],ag x0,aa,aa,aa,ag x1]++unU 37,res:=[(0,.box bn (.strct [be x2,ag x3,cZ x4,.row 2])),(2,.row 182 aq x5 false)],nx:=3,n0:=2}
noncomputable def NY:Code:=aW Tryz.f274
noncomputable def lx (x0 x1:aa_) (x2:Int) (x3:Bool) (x4:(List ab)):Option ((Int×Unit)×(aa_×Int×Bool×(List ab)×Unit)×Unit):=bA E u3 [(0,.box bn (aa)),(1,.row 182 aq [] false)] NY 224 {slots:=[.ptr 0 bn [],aa,aa,be x0]++unU 89,res:=[(0,.box bn (.strct [be x1,ag x2,cZ x3,.row 1])),(1,.row 182 aq x4 false)],nx:=2,n0:=2}
noncomputable def NZ:Code:=aW Tryz.f275
noncomputable def ee (x0:Int) (x1:aa_) (x2:Int) (x3:Bool) (x4:(List ab)):Option ((aa_×Unit)×(aa_×Int×Bool×(List ab)×Unit)×Unit):=bA E u4 [(0,.box bn (aa)),(1,.row 182 aq [] false)] NZ 224 {slots:=[.ptr 0 bn [],aa,aa,ag x0]++unU 91,res:=[(0,.box bn (.strct [be x1,ag x2,cZ x3,.row 1])),(1,.row 182 aq x4 false)],nx:=2,n0:=2}
noncomputable def Ts:Code:=aW Tryz.f316
noncomputable def xB (x0:aa_) (x1:Int):Option ((Int×Unit)×Unit):=bA E Af [] Ts 208 {slots:=[be x0,aa,aa,ag x1]++unU 9,res:=[],nx:=0,n0:=0}
noncomputable def Yd:Code:=aW Tryz.f185
noncomputable def pz (x0:aa_) (x1 x2:Int):Option ((Int×Bool×Unit)×Unit):=bA E FH [] Yd 976 {slots:=[be x0,aa,aa,aa,aa,aa,ag x1,ag x2]++unU 44,res:=[],nx:=0,n0:=0}
noncomputable def N0:Code:=aW Tryz.f277
noncomputable def jF (x0:aa_) (x1 x2 x3:Int) (x4 x5:Bool) (x6 x7:Int) (x8 x9:Bool):Option ((bX×Bool×Unit)×Unit):=bA E u5 [] N0 992 {slots:=[be x0,aa,.ptr 0 bW [],aa,.ptr 1 bW [],ag x1]++unU 70,res:=[(0,.box bW (.strct [.strct [ag x2,ag x3],cZ x4,cZ x5])),(1,.box bW (.strct [.strct [ag x6,ag x7],cZ x8,cZ x9]))],nx:=2,n0:=0}
noncomputable def CO:Code:=aW Tryz.f276
noncomputable def tu (x0:Int) (x1:aa_) (x2:Int) (x3:Bool) (x4:(List ab)) (x5:(List Int)):Option ((Int×Unit)×(aa_×Int×Bool×(List ab)×Unit)×Unit):=bA E qe [(0,.box bn (aa)),(1,.row 182 aq [] false)] CO 224 {slots:=[.ptr 0 bn [],ag x0,aa,aa,aa,.row 2]++unU 24,res:=[(0,.box bn (.strct [be x1,ag x2,cZ x3,.row 1])),(1,.row 182 aq x4 false),(2,.row 2 (.int .i64) x5 false)],nx:=3,n0:=2}
noncomputable def CP:Code:=aW Tryz.f128
noncomputable def aY (x0 x1:Int) (x2:aa_) (x3 x4:Int) (x5:aa_):Option ((ac×Bool×Unit)×Unit):=bA E qb [] CP 60 {slots:=[aa,aa,.ptr 0 ap [],aa,.ptr 1 ap []]++unU 71,res:=[(0,.box ap (.strct [ag x0,ag x1,be x2])),(1,.box ap (.strct [ag x3,ag x4,be x5]))],nx:=2,n0:=0}
noncomputable def fo (x0:aa_) (x1 x2 x3:Int) (x4:aa_) (x5 x6:Int) (x7:aa_):Option ((ac×Bool×Unit)×Unit):=bA E qb [] CP 475056 {slots:=[be x0,aa,.ptr 0 ap [],aa,.ptr 1 ap [],ag x1]++unU 70,res:=[(0,.box ap (.strct [ag x2,ag x3,be x4])),(1,.box ap (.strct [ag x5,ag x6,be x7]))],nx:=2,n0:=0}
noncomputable def ET:Code:=aW Tryz.f201
noncomputable def jG (x0:Int) (x1:aa_) (x2:Int) (x3:Bool) (x4:(List ab)):Option ((Int×Unit)×(aa_×Int×Bool×(List ab)×Unit)×Unit):=bA E si [(0,.box bn (aa)),(1,.row 182 aq [] false)] ET 212880 {slots:=[.ptr 0 bn [],aa,aa,aa,aa,ag x0]++unU 140,res:=[(0,.box bn (.strct [be x1,ag x2,cZ x3,.row 2])),(2,.row 182 aq x4 false)],nx:=3,n0:=2}
noncomputable def fU (x0:aa_) (x1:Int) (x2:aa_) (x3:Int) (x4:Bool) (x5:(List ab)):Option ((Int×Unit)×(aa_×Int×Bool×(List ab)×Unit)×Unit):=bA E si [(0,.box bn (aa)),(1,.row 182 aq [] false)] ET 976 {slots:=[.ptr 0 bn [],aa,aa,aa,aa,aa,aa,be x0,ag x1]++unU 137,res:=[(0,.box bn (.strct [be x2,ag x3,cZ x4,.row 2])),(2,.row 182 aq x5 false)],nx:=3,n0:=2}
noncomputable def Hl:Code:=aW Tryz.f202
noncomputable def sq (x0 x1:Int) (x2:aa_) (x3:Int) (x4:Bool) (x5:(List ab)) (x6:(List Int)):Option ((Int×Unit)×(aa_×Int×Bool×(List ab)×Unit)×Unit):=bA E tM [(0,.box bn (aa)),(1,.row 182 aq [] false)] Hl 464 {slots:=[.ptr 0 bn [],ag x0,aa,aa,aa,.row 2,ag x1]++unU 27,res:=[(0,.box bn (.strct [be x2,ag x3,cZ x4,.row 1])),(1,.row 182 aq x5 false),(2,.row 2 (.int .i64) x6 false)],nx:=3,n0:=2}
noncomputable def VP:Code:=aW Tryz.f205
noncomputable def tU (x0:(List ab)) (x1 x2 x3:Int):Option ((Int×Unit)×Unit):=bA E Cz [] VP 464 {slots:=[.val (.slice 182 aq) x0,ag x1,aa,aa,aa,ag x2,ag x3]++unU 37,res:=[],nx:=0,n0:=0}
noncomputable def VQ:Code:=aW Tryz.f206
noncomputable def tV (x0:(List ab)) (x1 x2 x3:Int):Option ((Int×Unit)×Unit):=bA E CA [] VQ 464 {slots:=[.val (.slice 182 aq) x0,ag x1,aa,aa,aa,ag x2,ag x3]++unU 24,res:=[],nx:=0,n0:=0}
noncomputable def CQ:Code:=aW Tryz.f143
noncomputable def eX (x0:(List ab)) (x1:Int):Option ((Bool×Unit)×Unit):=bA E qc [] CQ 464 {slots:=[.val (.slice 182 aq) x0,aa,aa,ag x1]++unU 83,res:=[],nx:=0,n0:=0}
noncomputable def Tt:Code:=aW Tryz.f252
noncomputable def od (x0 x1:aa_) (x2:Int):Option ((aa_×Unit)×Unit):=bA E Ae [] Tt 464 {slots:=[be x0,aa,aa,be x1,ag x2]++unU 21,res:=[],nx:=0,n0:=0}
noncomputable def VR:Code:=aW Tryz.f184
noncomputable def oe (x0:(List ab)) (x1:aa_) (x2 x3 x4:Int) (x5:ac) (x6 x7:bX) (x8:(List Int)):Option ((aa_×Unit)×Unit):=bA E Cx [] VR 2000 {slots:=[.val (.slice 182 aq) x0,aa,aa,aa,aa,aa,aa,.ptr 0 aq [],aa,aa,be x1,ag x2]++unU 101,res:=[(0,.box aq (.strct [ag x3,ag x4,.val ap x5,.val bW x6,.val bW x7,.val (.slice 2 (.int .i64)) x8]))],nx:=1,n0:=0}
noncomputable def Qn:Code:=aW Tryz.f127
noncomputable def kH (x0:aa_) (x1:Bool) (x2 x3:Int) (x4:aa_):Option ((ac×Bool×Unit)×Unit):=bA E xt [] Qn 992 {slots:=[be x0,aa,.ptr 0 ap [],aa,cZ x1]++unU 43,res:=[(0,.box ap (.strct [ag x2,ag x3,be x4]))],nx:=1,n0:=0}
noncomputable def Tu:Code:=aW Tryz.f53
noncomputable def og (x0:(List ae)) (x1:Int):Option ((Bool×Unit)×Unit):=bA E zZ [] Tu 464 {slots:=[.val (.slice 61 av) x0,aa,aa,ag x1]++unU 67,res:=[],nx:=0,n0:=0}
noncomputable def Ye:Code:=aW Tryz.f83
noncomputable def iA (x0:(List ae)) (x1:aa_) (x2:Bool) (x3 x4 x5:Int) (x6:(List ae)):Option (((List ae)×Unit)×Unit):=bA E FD [] Ye 976 {slots:=[.val (.slice 61 av) x0,aa,be x1,aa,.ptr 0 au [],aa,aa,.row 1,cZ x2,ag x3]++unU 50,res:=[(0,.box au (.strct [ag x4,ag x5])),(1,.row 61 av x6 false)],nx:=2,n0:=0}
noncomputable def L2:Code:=aW Tryz.f22
noncomputable def iP (x0:Int) (x1:aI) (x2:(List ae)):Option (((List ae)×Unit)×aI×Unit):=bA E tn [(0,.box aF (aa))] L2 464 {slots:=[.ptr 0 aF [],aa,aa,aa,aa,.row 1,ag x0]++unU 33,res:=[(0,.box aF (.val aF x1)),(1,.row 61 av x2 false)],nx:=2,n0:=1}
noncomputable def Tv:Code:=aW Tryz.f45
noncomputable def iB (x0:(List bg)) (x1:Int):Option ((Bool×Unit)×Unit):=bA E zX [] Tv 464 {slots:=[.val (.slice 83 aX) x0,aa,aa,ag x1]++unU 120,res:=[],nx:=0,n0:=0}
noncomputable def Bu:Code:=aW Tryz.f23
noncomputable def ey (x0:Int) (x1:aI) (x2:(List bg)):Option (((List bg)×Unit)×aI×Unit):=bA E oy [(0,.box aF (aa))] Bu 976 {slots:=[.ptr 0 aF [],aa,aa,.row 1,ag x0]++unU 60,res:=[(0,.box aF (.val aF x1)),(1,.row 83 aX x2 false)],nx:=2,n0:=1}
noncomputable def N3:Code:=aW Tryz.f62
noncomputable def oC (x0:Int) (x1:(List Int)) (x2 x3:Int):Option ((Int×Unit)×Unit):=bA E uU [] N3 232 {slots:=[aa,aa,aa,ag x0,aa,aa,.val (.slice 3 (.int .i64)) x1,ag x2,ag x3]++unU 9,res:=[],nx:=0,n0:=0}
noncomputable def VS:Code:=aW Tryz.f66
noncomputable def tW (x0:aa_) (x1 x2 x3:Int):Option ((Bool×Unit)×Unit):=bA E Co [] VS 104 {slots:=[be x0,ag x1,aa,aa,aa,aa,aa,ag x2,ag x3]++unU 17,res:=[],nx:=0,n0:=0}
noncomputable def Jl:Code:=aW Tryz.f152
noncomputable def l7 (x0 x1:Int) (x2:aa_) (x3:Bool) (x4:(List aa_)) (x5:(List ab)):Option ((aa_×Unit)×(aa_×(List ab)×Bool×Unit)×Unit):=bA E rk [(0,.box bw (aa)),(1,.row 182 aq [] false)] Jl 232 {slots:=[.ptr 0 bw [],aa,aa,aa,aa,aa,aa,.row 2,ag x0,ag x1]++unU 11,res:=[(0,.box bw (.strct [be x2,.row 3,cZ x3])),(2,.row 9 .str x4 false),(3,.row 182 aq x5 false)],nx:=4,n0:=2}
noncomputable def FQ:Code:=aW Tryz.f291
noncomputable def kw (x0 x1 x2:aa_) (x3:Bool) (x4:(List ab)):Option ((Int×Unit)×(aa_×(List ab)×Bool×Unit)×Unit):=bA E oU [(0,.box bw (aa)),(1,.row 182 aq [] false)] FQ 224 {slots:=[.ptr 0 bw [],aa,aa,be x0,be x1]++unU 38,res:=[(0,.box bw (.strct [be x2,.row 1,cZ x3])),(1,.row 182 aq x4 false)],nx:=2,n0:=2}
noncomputable def N4:Code:=aW Tryz.f75
noncomputable def hZ (x0:aa_) (x1 x2 x3:Int) (x4:aa_) (x5 x6:Int) (x7:aa_):Option ((ac×Bool×Unit)×Unit):=bA E uV [] N4 120784 {slots:=[be x0,aa,.ptr 0 ap [],aa,.ptr 1 ap [],aa,aa,ag x1]++unU 56,res:=[(0,.box ap (.strct [ag x2,ag x3,be x4])),(1,.box ap (.strct [ag x5,ag x6,be x7]))],nx:=2,n0:=0}
noncomputable def Tw:Code:=aW Tryz.f320
noncomputable def xC (x0:aa_) (x1:Int):Option ((Int×Unit)×Unit):=bA E Ag [] Tw 208 {slots:=[be x0,aa,aa,ag x1]++unU 9,res:=[],nx:=0,n0:=0}
noncomputable def vk:Code:=aW Tryz.f110
noncomputable def cI (x0 x1 x2:Int) (x3:aa_) (x4:Bool) (x5:(List ab)):Option ((Int×Unit)×(aa_×(List ab)×Bool×Unit)×Unit):=bA E k9 [(0,.box bw (aa)),(1,.row 182 aq [] false)] vk 224 {slots:=[.ptr 0 bw [],ag x0,ag x1,aa,aa,aa,aa,ag x2]++unU 47,res:=[(0,.box bw (.strct [be x3,.row 2,cZ x4])),(2,.row 182 aq x5 false)],nx:=3,n0:=2}
noncomputable def yI:Code:=aW Tryz.f295
noncomputable def wy (x0 x1:Int) (x2:aa_) (x3:Bool) (x4:(List ab)) (x5:(List Int)):Option ((Int×Unit)×(aa_×(List ab)×Bool×Unit)×Unit):=bA E na [(0,.box bw (aa)),(1,.row 182 aq [] false)] yI 480 {slots:=[.ptr 0 bw [],ag x0,ag x1,aa,aa,aa,aa,.row 2]++unU 59,res:=[(0,.box bw (.strct [be x2,.row 1,cZ x3])),(1,.row 182 aq x4 false),(2,.row 2 (.int .i64) x5 false)],nx:=3,n0:=2}
noncomputable def cj (x0 x1:Int) (x2:aa_) (x3:Bool) (x4:(List Int)) (x5:(List ab)):Option ((Int×Unit)×(aa_×(List ab)×Bool×Unit)×Unit):=bA E na [(0,.box bw (aa)),(1,.row 182 aq [] false)] yI 480 {slots:=[.ptr 0 bw [],ag x0,ag x1,aa,aa,aa,aa,.row 2]++unU 59,res:=[(0,.box bw (.strct [be x2,.row 3,cZ x3])),(2,.row 2 (.int .i64) x4 false),(3,.row 182 aq x5 false)],nx:=4,n0:=2}
noncomputable def yJ:Code:=aW Tryz.f228
noncomputable def dU (x0 x1:Int) (x2:aa_) (x3:Bool) (x4:(List ab)):Option ((Int×Unit)×(aa_×(List ab)×Bool×Unit)×Unit):=bA E m8 [(0,.box bw (aa)),(1,.row 182 aq [] false)] yJ 14800 {slots:=[.ptr 0 bw [],ag x0,aa,aa,aa,ag x1]++unU 114,res:=[(0,.box bw (.strct [be x2,.row 2,cZ x3])),(2,.row 182 aq x4 false)],nx:=3,n0:=2}
noncomputable def d8 (x0:Int) (x1:aa_) (x2:Int) (x3:aa_) (x4:Bool) (x5:(List ab)):Option ((Int×Unit)×(aa_×(List ab)×Bool×Unit)×Unit):=bA E m8 [(0,.box bw (aa)),(1,.row 182 aq [] false)] yJ 8144 {slots:=[.ptr 0 bw [],ag x0,aa,aa,aa,aa,aa,aa,aa,be x1,aa,aa,aa,aa,ag x2]++unU 105,res:=[(0,.box bw (.strct [be x3,.row 2,cZ x4])),(2,.row 182 aq x5 false)],nx:=3,n0:=2}
noncomputable def aag:Code:=aW Tryz.f158
noncomputable def rq (x0:(List ab)) (x1 x2 x3 x4:Int):Option ((Int×Unit)×Unit):=bA E I6 [] aag 976 {slots:=[.val (.slice 182 aq) x0,ag x1,ag x2,aa,aa,aa,aa,ag x3,ag x4]++unU 67,res:=[],nx:=0,n0:=0}
noncomputable def Jm:Code:=aW Tryz.f159
noncomputable def lh (x0:(List ab)) (x1:(List Int)) (x2 x3 x4 x5:Int) (x6:ac) (x7 x8:bX) (x9:(List Int)) (x10:(List aa_)):Option ((aa_×Unit)×Unit):=bA E rl [] Jm 1000 {slots:=[.val (.slice 182 aq) x0,aa,aa,aa,aa,aa,aa,.ptr 0 aq [],aa,aa,.row 1,aa,aa,aa,aa,aa,aa,aa,aa,aa,aa,aa,aa,aa,aa,aa,aa,aa,aa,aa,aa,aa,aa,aa,aa,aa,aa,aa,aa,aa,aa,aa,aa,aa,aa,aa,aa,aa,aa,aa,aa,aa,aa,aa,aa,aa,aa,aa,aa,aa,aa,aa,aa,aa,aa,aa,aa,aa,aa,aa,aa,aa,aa,aa,aa,aa,aa,aa,aa,aa,aa,aa,aa,aa,aa,aa,aa,aa,aa,aa,aa,aa,.val (.slice 2 (.int .i64)) x1,ag x2,ag x3]++unU 18,res:=[(0,.box aq (.strct [ag x4,ag x5,.val ap x6,.val bW x7,.val bW x8,.val (.slice 2 (.int .i64)) x9])),(1,.row 9 .str x10 false)],nx:=2,n0:=0}
noncomputable def Tx:Code:=aW Tryz.f13
noncomputable def oh (x0 x1:(List ae)) (x2 x3:Int):Option ((Bool×Unit)×Unit):=bA E zW [] Tx 104 {slots:=[.val (.slice 61 av) x0,aa,aa,aa,aa,.val (.slice 61 av) x1,ag x2,ag x3]++unU 34,res:=[],nx:=0,n0:=0}
noncomputable def Tz:Code:=aW Tryz.f46
noncomputable def sr (x0 x1:(List bg)) (x2 x3:Int):Option ((Bool×Unit)×Unit):=bA E zY [] Tz 104 {slots:=[.val (.slice 83 aX) x0,aa,aa,aa,aa,.val (.slice 83 aX) x1,ag x2,ag x3]++unU 17,res:=[],nx:=0,n0:=0}
noncomputable def TA:Code:=aW Tryz.f132
noncomputable def lN (x0:(List ab)) (x1 x2:Int) (x3:(List ak)):Option (((List ak)×Unit)×Unit):=bA E Ab [] TA 232 {slots:=[aa,aa,aa,.row 0,aa,aa,aa,.val (.slice 182 aq) x0,ag x1,ag x2]++unU 18,res:=[(0,.row 49 ax x3 false)],nx:=1,n0:=0}
noncomputable def BN:Code:=aW Tryz.f186
noncomputable def fG (x0:(List ak)) (x1 x2:Int) (x3 x4:am):Option ((Int×Unit)×Unit):=bA E lU [] BN 104 {slots:=[.val (.slice 49 ax) x0,aa,aa,.ptr 0 ax [],aa,aa,aa,ag x1,ag x2]++unU 10,res:=[(0,.box ax (.strct [.val au x3,.val au x4]))],nx:=1,n0:=0}
noncomputable def tH:Code:=aW Tryz.f130
noncomputable def jQ (x0:(List ak)) (x1 x2:Int) (x3:(List ak)):Option (Unit×(List ak)×Unit):=bA E kv [(0,.box (.slice 49 ax) (aa)),(1,.row 49 ax [] false)] tH 24 {slots:=[aa,.ptr 0 (.slice 49 ax) [],aa,aa,aa,.val (.slice 49 ax) x0,ag x1,ag x2]++unU 12,res:=[(0,.box (.slice 49 ax) (.row 1)),(1,.row 49 ax x3 false)],nx:=2,n0:=2}
noncomputable def l8:Code:=aW Tryz.f87
noncomputable def jd (x0:Int) (x1:(List ae)) (x2:(List ak)) (x3:(List am)) (x4:(List ak)):Option (Unit×((List ae)×(List ak)×(List am)×Unit)×Unit):=bA E gV [(0,.box cp (aa)),(1,.row 61 av [] false),(2,.row 49 ax [] false),(3,.row 39 au [] false)] l8 976 {slots:=[.ptr 0 cp [],aa,aa,aa,.ptr 4 (.slice 49 ax) [],.fn 130 [.ptr 4 (.slice 49 ax) []],ag x0]++unU 69,res:=[(0,.box cp (.strct [.row 1,.row 2,.row 3])),(1,.row 61 av x1 false),(2,.row 49 ax x2 false),(3,.row 39 au x3 false),(4,.box (.slice 49 ax) (.row 5)),(5,.row 49 ax x4 false)],nx:=6,n0:=4}
noncomputable def nI:Code:=aW Tryz.f314
noncomputable def fb (x0:(List ak)) (x1 x2 x3 x4:Int):Option ((Int×Unit)×am×Unit):=bA E f0 [(0,.box au (aa))] nI 104 {slots:=[.val (.slice 49 ax) x0,.fn 271 [.ptr 0 au []],aa,aa,aa,aa,aa,ag x1,ag x2]++unU 10,res:=[(0,.box au (.strct [ag x3,ag x4]))],nx:=1,n0:=1}
noncomputable def EU:Code:=aW Tryz.f136
noncomputable def my (x0 x1:(List ae)) (x2 x3:Int) (x4 x5:(List ae)) (x6:(List (List ab))) (x7:(List (List Int))) (x8:(List (List ab))) (x9:(List (List Int))):Option ((((List ae)×(List (List ab))×(List (List Int))×Unit)×Unit)×Unit):=bA E sf [] EU 232 {slots:=[.val (.slice 61 av) x0,aa,.ptr 0 b9 [],.ptr 1 b9 [],aa,aa,aa,aa,aa,aa,aa,aa,aa,aa,.val (.slice 61 av) x1,ag x2,ag x3]++unU 42,res:=[(0,.box b9 (.strct [.row 2,.row 3,.row 4])),(1,.box b9 (.strct [.val (.slice 61 av) x4,.row 5,.row 6])),(2,.row 61 av x5 false),(3,.row 108 (.slice 182 aq) x6 false),(4,.row 135 (.slice 3 (.int .i64)) x7 false),(5,.row 108 (.slice 182 aq) x8 false),(6,.row 135 (.slice 3 (.int .i64)) x9 false)],nx:=7,n0:=0}
noncomputable def Hm:Code:=aW Tryz.f200
noncomputable def gi (x0 x1:Int) (x2:(List ae)) (x3:(List (List ab))) (x4:(List (List Int))) (x5:(List Bool)) (x6:(List Int)):Option ((Bool×Unit)×Unit):=bA E qd [] Hm 976 {slots:=[aa,ag x0,.ptr 0 b9 [],aa,aa,.row 1,.row 2,ag x1]++unU 39,res:=[(0,.box b9 (.strct [.val (.slice 61 av) x2,.val (.slice 108 (.slice 182 aq)) x3,.val (.slice 135 (.slice 3 (.int .i64))) x4])),(1,.row 4 .bool x5 false),(2,.row 3 (.int .i64) x6 false)],nx:=3,n0:=0}
noncomputable def nQ:Code:=aW Tryz.f199
noncomputable def ez (x0:Int) (x1:(List Int)) (x2 x3:Int) (x4:(List ae)) (x5:(List (List ab))) (x6:(List (List Int))) (x7:(List Bool)) (x8:(List ah)):Option (Unit×(List Bool)×mq×(List ah)×Unit):=bA E fN [(0,.box (.slice 4 .bool) (aa)),(1,.box b9 (aa)),(2,.box (.slice 221 aw) (aa)),(3,.keepF 199 []),(4,.row 4 .bool [] false),(5,.row 221 aw [] false)] nQ 7656 {slots:=[ag x0,aa,.ptr 1 b9 [],.ptr 2 (.slice 221 aw) [],.ptr 3 .fn [],aa,aa,aa,aa,aa,aa,aa,aa,aa,aa,aa,aa,aa,aa,.val (.slice 3 (.int .i64)) x1,ag x2,ag x3]++unU 49,res:=[(0,.box (.slice 4 .bool) (.row 4)),(1,.box b9 (.strct [.val (.slice 61 av) x4,.val (.slice 108 (.slice 182 aq)) x5,.val (.slice 135 (.slice 3 (.int .i64))) x6])),(2,.box (.slice 221 aw) (.row 5)),(3,.keepF 199 [.ptr 0 (.slice 4 .bool) [],.ptr 1 b9 [],.ptr 2 (.slice 221 aw) [],.ptr 3 .fn []]),(4,.row 4 .bool x7 false),(5,.row 221 aw x8 false)],nx:=6,n0:=6}
noncomputable def cy (x0:Int) (x1:(List Int)) (x2 x3:Int) (x4:mq) (x5:(List Bool)) (x6:(List ah)):Option (Unit×(List Bool)×mq×(List ah)×Unit):=bA E fN [(0,.box (.slice 4 .bool) (aa)),(1,.box b9 (aa)),(2,.box (.slice 221 aw) (aa)),(3,.keepF 199 []),(4,.row 4 .bool [] false),(5,.row 221 aw [] false)] nQ 7656 {slots:=[ag x0,aa,.ptr 1 b9 [],.ptr 2 (.slice 221 aw) [],.ptr 3 .fn [],aa,aa,aa,aa,aa,aa,aa,aa,aa,aa,aa,aa,aa,aa,.val (.slice 3 (.int .i64)) x1,ag x2,ag x3]++unU 49,res:=[(0,.box (.slice 4 .bool) (.row 4)),(1,.box b9 (.val b9 x4)),(2,.box (.slice 221 aw) (.row 5)),(3,.keepF 199 [.ptr 0 (.slice 4 .bool) [],.ptr 1 b9 [],.ptr 2 (.slice 221 aw) [],.ptr 3 .fn []]),(4,.row 4 .bool x5 false),(5,.row 221 aw x6 false)],nx:=6,n0:=6}
noncomputable def VT:Code:=aW Tryz.f188
noncomputable def tX (x0:(List ah)) (x1 x2 x3 x4 x5 x6:Int) (x7:aa_):Option ((ac×Unit)×Unit):=bA E Cy [] VT 104 {slots:=[aa,aa,aa,.ptr 0 au [],.ptr 1 ap [],aa,aa,.val (.slice 221 aw) x0,ag x1,ag x2]++unU 11,res:=[(0,.box au (.strct [ag x3,ag x4])),(1,.box ap (.strct [ag x5,ag x6,be x7]))],nx:=2,n0:=0}
noncomputable def EV:Code:=aW Tryz.f258
noncomputable def kI (x0:(List ab)) (x1:(List ah)) (x2:(List Int)) (x3 x4:Int) (x5:(List ac)):Option (((List ac)×Unit)×Unit):=bA E sk [] EV 232 {slots:=[.val (.slice 182 aq) x0,aa,.val (.slice 221 aw) x1,aa,aa,aa,aa,.row 0,aa,aa,aa,aa,aa,aa,.val (.slice 2 (.int .i64)) x2,ag x3,ag x4]++unU 38,res:=[(0,.row 89 ap x5 false)],nx:=1,n0:=0}
noncomputable def Qo:Code:=aW Tryz.f257
noncomputable def je (x0:Int) (x1 x2:Bool) (x3:(List ac)) (x4 x5 x6 x7:Int) (x8:aa_):Option ((ac×Unit)×Unit):=bA E xw [] Qo 232 {slots:=[ag x0,aa,aa,aa,.ptr 0 ap [],cZ x1,cZ x2,aa,aa,aa,aa,.val (.slice 89 ap) x3,ag x4,ag x5]++unU 27,res:=[(0,.box ap (.strct [ag x6,ag x7,be x8]))],nx:=1,n0:=0}
noncomputable def VU (x0 x1:Int):Option ((ac×Unit)×Unit):=ai E NJ [ag x0,ag x1] []
noncomputable def VV:Code:=aW Tryz.f259
noncomputable def qn (x0:(List ac)) (x1 x2 x3 x4:Int) (x5:aa_) (x6 x7:Int) (x8:aa_):Option ((ac×Unit)×Unit):=bA E CC [] VV 232 {slots:=[aa,aa,.ptr 0 ap [],.ptr 1 ap [],aa,aa,aa,.val (.slice 89 ap) x0,ag x1,ag x2]++unU 19,res:=[(0,.box ap (.strct [ag x3,ag x4,be x5])),(1,.box ap (.strct [ag x6,ag x7,be x8]))],nx:=2,n0:=0}
noncomputable def Qp:Code:=aW Tryz.f260
noncomputable def fH (x0 x1 x2 x3:Int) (x4:(List ac)) (x5 x6 x7 x8:Int) (x9:aa_):Option ((ac×Unit)×Unit):=bA E xx [] Qp 232 {slots:=[ag x0,aa,aa,aa,.ptr 0 ap [],ag x1,ag x2,ag x3,aa,aa,.val (.slice 89 ap) x4,ag x5,ag x6]++unU 42,res:=[(0,.box ap (.strct [ag x7,ag x8,be x9]))],nx:=1,n0:=0}
noncomputable def N5 (x0 x1:Int):Option ((ac×Unit)×Unit):=ai E He [ag x0,ag x1] []
noncomputable def R4 (x0 x1:Int):Option ((ac×Unit)×Unit):=ai E KV [ag x0,ag x1] []
noncomputable def qo:Code:=aW Tryz.f137
noncomputable def jf (x0:(List ac)) (x1:(List ae)) (x2 x3:Int) (x4:(List ae)) (x5:(List (List ab))) (x6:(List (List Int))) (x7:(List Bool)) (x8:(List ah)):Option (((List ah)×Unit)×Unit):=bA E jM [] qo 232 {slots:=[aa,aa,.val (.slice 89 ap) x0,.ptr 0 b9 [],aa,aa,aa,.ptr 1 (.slice 4 .bool) [],.ptr 2 (.slice 221 aw) [],aa,aa,aa,aa,aa,aa,aa,aa,aa,aa,aa,.val (.slice 61 av) x1,ag x2,ag x3]++unU 26,res:=[(0,.box b9 (.strct [.val (.slice 61 av) x4,.val (.slice 108 (.slice 182 aq)) x5,.val (.slice 135 (.slice 3 (.int .i64))) x6])),(1,.box (.slice 4 .bool) (.row 3)),(2,.box (.slice 221 aw) (.row 4)),(3,.row 4 .bool x7 false),(4,.row 221 aw x8 false)],nx:=5,n0:=0}
noncomputable def nJ:Code:=aW Tryz.f122
noncomputable def gW (x0:(List ae)) (x1 x2 x3 x4:Int):Option ((Int×Unit)×am×Unit):=bA E fZ [(0,.box au (aa))] nJ 104 {slots:=[.val (.slice 61 av) x0,.fn 77 [.ptr 0 au []],aa,aa,aa,aa,aa,ag x1,ag x2]++unU 10,res:=[(0,.box au (.strct [ag x3,ag x4]))],nx:=1,n0:=1}
noncomputable def vl:Code:=aW Tryz.f76
noncomputable def co (x0 x1:Int) (x2:(List ae)) (x3:am):Option (((List ae)×Unit)×am×Unit):=bA E iX [(0,.row 61 av [] false),(1,.box au (aa))] vl 976 {slots:=[.row 0,.fn 77 [.ptr 1 au []],aa,aa,aa,ag x0,ag x1]++unU 35,res:=[(0,.row 61 av x2 false),(1,.box au (.val au x3))],nx:=2,n0:=2}
noncomputable def CR:Code:=aW Tryz.f138
noncomputable def gb (x0:(List am)) (x1 x2 x3 x4:Int):Option ((Int×Unit)×Unit):=bA E mr [] CR 104 {slots:=[.val (.slice 39 au) x0,aa,aa,.ptr 0 au [],aa,aa,aa,ag x1,ag x2]++unU 10,res:=[(0,.box au (.strct [ag x3,ag x4]))],nx:=1,n0:=0}
noncomputable def yK:Code:=aW Tryz.f27
noncomputable def l9 (x0:(List bg)) (x1 x2 x3:Int) (x4:(List ae)) (x5:(List ak)) (x6:(List am)):Option ((Int×Int×Unit)×((List ae)×(List ak)×(List am)×Unit)×Unit):=bA E m6 [(0,.box cp (aa)),(1,.row 61 av [] false),(2,.row 49 ax [] false),(3,.row 39 au [] false)] yK 464 {slots:=[.ptr 0 cp [],.val (.slice 83 aX) x0,ag x1,aa,aa,aa,aa,aa,ag x2,ag x3]++unU 94,res:=[(0,.box cp (.strct [.row 1,.row 2,.row 3])),(1,.row 61 av x4 false),(2,.row 49 ax x5 false),(3,.row 39 au x6 false)],nx:=4,n0:=4}
noncomputable def Yf:Code:=aW Tryz.f93
noncomputable def wz (x0:(List am)) (x1 x2 x3:Int):Option ((Bool×Unit)×Unit):=bA E FE [] Yf 208 {slots:=[.val (.slice 39 au) x0,aa,aa,.ptr 0 au [],aa,ag x1]++unU 12,res:=[(0,.box au (.strct [ag x2,ag x3]))],nx:=1,n0:=0}
noncomputable def TB:Code:=aW Tryz.f140
noncomputable def lO (x0:(List ab)) (x1:Int) (x2:(List ak)):Option (((List ak)×Unit)×Unit):=bA E Ac [] TB 976 {slots:=[.val (.slice 182 aq) x0,aa,aa,.row 0,ag x1]++unU 53,res:=[(0,.row 49 ax x2 false)],nx:=1,n0:=0}
noncomputable def gt:Code:=aW Tryz.f56
noncomputable def lP (x0:Int) (x1:(List ae)) (x2 x3 x4:Int) (x5:(List ak)) (x6:(List am)) (x7 x8 x9:Int) (x10:(List ak)) (x11:(List ae)) (x12:(List ak)) (x13:(List am)):Option ((eJ×Unit)×Unit):=bA E eT [] gt 464 {slots:=[aa,aa,.ptr 0 bh [],aa,.ptr 1 bh [],.row 2,ag x0]++unU 109,res:=[(0,.box bh (.strct [.val (.slice 61 av) x1,ag x2,ag x3,ag x4,.val (.slice 49 ax) x5,.val (.slice 39 au) x6])),(1,.box bh (.strct [.row 3,ag x7,ag x8,ag x9,.row 4,.row 5])),(2,.row 49 ax x10 false),(3,.row 61 av x11 false),(4,.row 49 ax x12 false),(5,.row 39 au x13 false)],nx:=6,n0:=0}
noncomputable def aah:Code:=aW Tryz.f207
noncomputable def Av (x0:(List ah)) (x1 x2 x3 x4 x5:Int) (x6:aa_):Option ((ac×Unit)×Unit):=bA E I7 [] aah 208 {slots:=[.val (.slice 221 aw) x0,aa,aa,.ptr 0 au [],.ptr 1 ap [],ag x1]++unU 19,res:=[(0,.box au (.strct [ag x2,ag x3])),(1,.box ap (.strct [ag x4,ag x5,be x6]))],nx:=2,n0:=0}
noncomputable def aai:Code:=aW Tryz.f216
noncomputable def Aw (x0:(List ae)) (x1 x2 x3:Int):Option ((aa_×Unit)×Unit):=bA E I8 [] aai 208 {slots:=[.val (.slice 61 av) x0,aa,aa,.ptr 0 au [],aa,ag x1]++unU 18,res:=[(0,.box au (.strct [ag x2,ag x3]))],nx:=1,n0:=0}
noncomputable def Hn:Code:=aW Tryz.f218
noncomputable def kb (x0:(List ae)) (x1:Int) (x2:(List am)) (x3:(List ak)):Option (((List am)×Unit)×Unit):=bA E tN [] Hn 976 {slots:=[.val (.slice 61 av) x0,aa,aa,aa,aa,.row 0,.row 1,ag x1]++unU 42,res:=[(0,.row 39 au x2 false),(1,.row 49 ax x3 false)],nx:=2,n0:=0}
noncomputable def EW:Code:=aW Tryz.f217
noncomputable def mz (x0:(List ae)) (x1 x2 x3:Int) (x4:(List am)):Option ((Bool×Unit)×Unit):=bA E sj [] EW 464 {slots:=[.val (.slice 61 av) x0,aa,aa,.ptr 0 au [],aa,.row 1,ag x1]++unU 43,res:=[(0,.box au (.strct [ag x2,ag x3])),(1,.row 39 au x4 false)],nx:=2,n0:=0}
noncomputable def Yg:Code:=aW Tryz.f219
noncomputable def wA (x0:(List ah)) (x1:Int) (x2:am) (x3:ac):Option (((List ah)×Unit)×Unit):=bA E FI [] Yg 224 {slots:=[.val (.slice 221 aw) x0,aa,aa,.ptr 0 aw [],aa,ag x1]++unU 31,res:=[(0,.box aw (.strct [.val au x2,.val ap x3]))],nx:=1,n0:=0}
noncomputable def Qq:Code:=aW Tryz.f144
noncomputable def mA (x0:(List ah)) (x1:Int):Option ((Bool×Unit)×Unit):=bA E xv [] Qq 464 {slots:=[.val (.slice 221 aw) x0,aa,aa,ag x1]++unU 44,res:=[],nx:=0,n0:=0}
noncomputable def K6:Code:=aW Tryz.f284
noncomputable def nk (x0:(List ab)) (x1:Int) (x2:(List ah)) (x3:Int) (x4:(List ac)):Option (((List ac)×Unit)×Unit):=bA E wm [] K6 464 {slots:=[.val (.slice 182 aq) x0,ag x1,.val (.slice 221 aw) x2,aa,aa,aa,aa,.row 0,ag x3]++unU 71,res:=[(0,.row 89 ap x4 false)],nx:=1,n0:=0}
noncomputable def VW:Code:=aW Tryz.f283
noncomputable def bC (x0:Int) (x1:(List ac)) (x2:Int) (x3 x4:Bool) (x5 x6 x7:Int) (x8:aa_) (x9 x10:Int) (x11:aa_):Option ((ac×Unit)×Unit):=bA E CE [] VW 4048 {slots:=[ag x0,.val (.slice 89 ap) x1,aa,aa,.ptr 0 ap [],.ptr 1 ap [],ag x2,cZ x3,cZ x4,ag x5]++unU 100,res:=[(0,.box ap (.strct [ag x6,ag x7,be x8])),(1,.box ap (.strct [ag x9,ag x10,be x11]))],nx:=2,n0:=0}
noncomputable def pA:Code:=aW Tryz.f147
noncomputable def qp (x0:(List ae)) (x1:(List ah)) (x2:(List am)) (x3:Int) (x4:(List ah)) (x5:(List am)):Option (((List ah)×Unit)×Unit):=bA E kT [] pA 976 {slots:=[.val (.slice 61 av) x0,.val (.slice 221 aw) x1,.val (.slice 39 au) x2,aa,aa,aa,aa,.row 0,.row 1,ag x3]++unU 136,res:=[(0,.row 221 aw x4 false),(1,.row 39 au x5 false)],nx:=2,n0:=0}
noncomputable def Yh:Code:=aW Tryz.f98
noncomputable def wB (x0:(List ae)) (x1:Int) (x2:(List am)):Option (((List ah)×Unit)×Unit):=bA E FF [] Yh 464 {slots:=[.val (.slice 61 av) x0,aa,aa,.row 0,ag x1]++unU 18,res:=[(0,.row 39 au x2 false)],nx:=1,n0:=0}
noncomputable def K7:Code:=aW Tryz.f29
noncomputable def Ax (x0:(List bg)) (x1 x2 x3 x4 x5 x6 x7:Int) (x8:(List ae)) (x9:(List ak)) (x10:(List am)) (x11:(List ae)) (x12:(List ak)) (x13:(List am)):Option ((eJ×Unit)×Unit):=bA E wj [] K7 224 {slots:=[aa,.val (.slice 83 aX) x0,ag x1,aa,aa,aa,.ptr 0 bh [],.ptr 1 bh []]++unU 106,res:=[(0,.box bh (.strct [.row 2,ag x2,ag x3,ag x4,.row 3,.row 4])),(1,.box bh (.strct [.row 5,ag x5,ag x6,ag x7,.row 6,.row 7])),(2,.row 61 av x8 false),(3,.row 49 ax x9 false),(4,.row 39 au x10 false),(5,.row 61 av x11 false),(6,.row 49 ax x12 false),(7,.row 39 au x13 false)],nx:=8,n0:=0}
noncomputable def Qr:Code:=aW Tryz.f16
noncomputable def qq (x0 x1:(List am)) (x2:Int):Option ((Bool×Unit)×Unit):=bA E xq [] Qr 464 {slots:=[.val (.slice 39 au) x0,.val (.slice 39 au) x1,aa,aa,aa,ag x2]++unU 20,res:=[],nx:=0,n0:=0}
noncomputable def Qs:Code:=aW Tryz.f40
noncomputable def qr (x0:(List ae)) (x1 x2 x3 x4:Int):Option ((aa_×Unit)×Unit):=bA E xr [] Qs 104 {slots:=[aa,aa,aa,.ptr 0 au [],aa,aa,aa,.val (.slice 61 av) x0,ag x1,ag x2]++unU 10,res:=[(0,.box au (.strct [ag x3,ag x4]))],nx:=1,n0:=0}
noncomputable def EX:Code:=aW Tryz.f4
noncomputable def ly (x0:(List bg)) (x1:Int) (x2:(List ak)) (x3 x4:Int) (x5:(List ak)) (x6:(List am)) (x7:(List ae)) (x8 x9:Int) (x10:(List ae)):Option ((Bool×Unit)×Unit):=bA E n7 [] EX 131024 {slots:=[aa,aa,aa,aa,.val (.slice 83 aX) x0,ag x1,.row 0,.row 1,.val (.slice 49 ax) x2,aa,.row 2,aa,ag x3,aa,.ptr 3 au [],aa,.row 4,aa,ag x4]++unU 119,res:=[(0,.row 49 ax x5 false),(1,.row 39 au x6 false),(2,.row 61 av x7 false),(3,.box au (.strct [ag x8,ag x9])),(4,.row 61 av x10 false)],nx:=5,n0:=0}
noncomputable def dt (x0:Int) (x1:aa_) (x2:Int) (x3:Bool) (x4:(List Int)) (x5:(List ab)):Option ((Int×Unit)×(aa_×Int×Bool×(List ab)×Unit)×Unit):=bA E qe [(0,.box bn (aa)),(1,.row 182 aq [] false)] CO 224 {slots:=[.ptr 0 bn [],ag x0,aa,aa,aa,.row 2]++unU 24,res:=[(0,.box bn (.strct [be x1,ag x2,cZ x3,.row 3])),(2,.row 2 (.int .i64) x4 false),(3,.row 182 aq x5 false)],nx:=4,n0:=2}
noncomputable def mB (x0 x1:Int) (x2:aa_) (x3:Int) (x4:Bool) (x5:(List Int)) (x6:(List ab)):Option ((Int×Unit)×(aa_×Int×Bool×(List ab)×Unit)×Unit):=bA E tM [(0,.box bn (aa)),(1,.row 182 aq [] false)] Hl 464 {slots:=[.ptr 0 bn [],ag x0,aa,aa,aa,.row 2,ag x1]++unU 27,res:=[(0,.box bn (.strct [be x2,ag x3,cZ x4,.row 3])),(2,.row 2 (.int .i64) x5 false),(3,.row 182 aq x6 false)],nx:=4,n0:=2}
noncomputable def lz (x0:(List ab)) (x1 x2:Int):Option ((Bool×Unit)×Unit):=bA E qc [] CQ 59696 {slots:=[.val (.slice 182 aq) x0,aa,aa,ag x1,ag x2]++unU 82,res:=[],nx:=0,n0:=0}
noncomputable def jR (x0:Int) (x1:aI) (x2:(List bg)):Option (((List bg)×Unit)×aI×Unit):=bA E oy [(0,.box aF (aa))] Bu 976 {slots:=[.ptr 0 aF [],aa,aa,.row 1,ag x0]++unU 60,res:=[(0,.box aF (.val aF x1)),(1,.row 83 aX x2 true)],nx:=2,n0:=1}
noncomputable def cJ (x0 x1 x2 x3 x4:Int) (x5:aa_) (x6:Bool) (x7:(List ab)):Option ((Int×Unit)×(aa_×(List ab)×Bool×Unit)×Unit):=bA E k9 [(0,.box bw (aa)),(1,.row 182 aq [] false)] vk 29008 {slots:=[.ptr 0 bw [],ag x0,ag x1,aa,aa,aa,aa,ag x2,ag x3,ag x4]++unU 45,res:=[(0,.box bw (.strct [be x5,.row 2,cZ x6])),(2,.row 182 aq x7 false)],nx:=3,n0:=2}
noncomputable def gd (x0:(List ak)) (x1 x2:Int) (x3:(List ak)):Option (Unit×(List ak)×Unit):=bA E kv [(0,.box (.slice 49 ax) (aa)),(1,.row 49 ax [] false)] tH 24 {slots:=[aa,.ptr 0 (.slice 49 ax) [],aa,aa,aa,.val (.slice 49 ax) x0,ag x1,ag x2]++unU 12,res:=[(0,.box (.slice 49 ax) (.row 2)),(2,.row 49 ax x3 false)],nx:=3,n0:=2}
noncomputable def jg (x0 x1 x2:Int) (x3:(List ae)) (x4:(List ak)) (x5:(List am)) (x6:(List ak)):Option (Unit×((List ae)×(List ak)×(List am)×Unit)×Unit):=bA E gV [(0,.box cp (aa)),(1,.row 61 av [] false),(2,.row 49 ax [] false),(3,.row 39 au [] false)] l8 31304 {slots:=[.ptr 0 cp [],aa,aa,aa,.ptr 4 (.slice 49 ax) [],.fn 130 [.ptr 4 (.slice 49 ax) []],ag x0,aa,aa,aa,aa,aa,aa,aa,aa,aa,aa,aa,aa,aa,aa,aa,aa,aa,aa,aa,aa,aa,.row 1,ag x1,ag x2]++unU 45,res:=[(0,.box cp (.strct [.row 1,.row 2,.row 3])),(1,.row 61 av x3 false),(2,.row 49 ax x4 false),(3,.row 39 au x5 false),(4,.box (.slice 49 ax) (.row 5)),(5,.row 49 ax x6 false)],nx:=6,n0:=4}
noncomputable def im (x0 x1:Int) (x2:(List ae)) (x3:(List ak)) (x4:(List am)) (x5:(List ak)):Option (Unit×((List ae)×(List ak)×(List am)×Unit)×Unit):=bA E gV [(0,.box cp (aa)),(1,.row 61 av [] false),(2,.row 49 ax [] false),(3,.row 39 au [] false)] l8 504 {slots:=[.ptr 0 cp [],aa,aa,aa,aa,aa,aa,aa,aa,aa,aa,aa,aa,aa,aa,aa,aa,aa,aa,aa,aa,aa,aa,aa,aa,aa,aa,aa,aa,aa,aa,aa,aa,aa,aa,aa,aa,aa,aa,aa,aa,aa,aa,aa,aa,aa,aa,aa,aa,aa,aa,aa,.row 4,ag x0,ag x1]++unU 21,res:=[(0,.box cp (.strct [.row 1,.row 2,.row 3])),(1,.row 61 av x2 false),(2,.row 49 ax x3 false),(3,.row 39 au x4 false),(4,.row 49 ax x5 false)],nx:=5,n0:=4}
noncomputable def cm (x0:(List ak)) (x1 x2:Int) (x3:am):Option ((Int×Unit)×am×Unit):=bA E f0 [(0,.box au (aa))] nI 104 {slots:=[.val (.slice 49 ax) x0,.fn 271 [.ptr 0 au []],aa,aa,aa,aa,aa,ag x1,ag x2]++unU 10,res:=[(0,.box au (.val au x3))],nx:=1,n0:=1}
noncomputable def mC (x0 x1:(List ae)) (x2 x3:Int) (x4:(List ae)) (x5 x6:Int) (x7:(List ae)) (x8:(List ab)) (x9:(List ak)) (x10:(List Int)) (x11:(List ae)) (x12:(List (List ab))) (x13:(List (List Int))) (x14:(List (List ab))) (x15:(List (List Int))):Option ((((List ae)×(List (List ab))×(List (List Int))×Unit)×Unit)×Unit):=bA E sf [] EU 478440 {slots:=[.val (.slice 61 av) x0,aa,.ptr 0 b9 [],.ptr 1 b9 [],aa,aa,.row 2,aa,.row 3,.row 4,aa,aa,aa,aa,.val (.slice 61 av) x1,ag x2,ag x3,aa,aa,aa,aa,aa,aa,aa,aa,aa,aa,aa,aa,.val (.slice 61 av) x4,ag x5,ag x6]++unU 27,res:=[(0,.box b9 (.strct [.row 5,.row 6,.row 7])),(1,.box b9 (.strct [.val (.slice 61 av) x7,.row 8,.row 9])),(2,.row 182 aq x8 false),(3,.row 49 ax x9 false),(4,.row 3 (.int .i64) x10 false),(5,.row 61 av x11 false),(6,.row 108 (.slice 182 aq) x12 false),(7,.row 135 (.slice 3 (.int .i64)) x13 false),(8,.row 108 (.slice 182 aq) x14 false),(9,.row 135 (.slice 3 (.int .i64)) x15 false)],nx:=10,n0:=0}
noncomputable def cc (x0:Int) (x1:(List Int)) (x2 x3:Int) (x4:mq) (x5:(List Bool)) (x6:(List ah)):Option (Unit×(List Bool)×mq×(List ah)×Unit):=bA E fN [(0,.box (.slice 4 .bool) (aa)),(1,.box b9 (aa)),(2,.box (.slice 221 aw) (aa)),(3,.keepF 199 []),(4,.row 4 .bool [] false),(5,.row 221 aw [] false)] nQ 7656 {slots:=[ag x0,aa,.ptr 1 b9 [],.ptr 2 (.slice 221 aw) [],.ptr 3 .fn [],aa,aa,aa,aa,aa,aa,aa,aa,aa,aa,aa,aa,aa,aa,.val (.slice 3 (.int .i64)) x1,ag x2,ag x3]++unU 49,res:=[(0,.box (.slice 4 .bool) (.row 6)),(1,.box b9 (.val b9 x4)),(2,.box (.slice 221 aw) (.row 7)),(3,.keepF 199 [.ptr 0 (.slice 4 .bool) [],.ptr 1 b9 [],.ptr 2 (.slice 221 aw) [],.ptr 3 .fn []]),(6,.row 4 .bool x5 false),(7,.row 221 aw x6 false)],nx:=8,n0:=6}
noncomputable def jh (x0:(List ab)) (x1:(List ah)) (x2:Int) (x3:(List Int)) (x4 x5:Int) (x6:(List ah)) (x7 x8:Int) (x9:(List ac)):Option (((List ac)×Unit)×Unit):=bA E sk [] EV 119608 {slots:=[.val (.slice 182 aq) x0,aa,.val (.slice 221 aw) x1,aa,aa,aa,aa,.row 0,aa,ag x2,aa,aa,aa,aa,.val (.slice 2 (.int .i64)) x3,ag x4,ag x5,aa,aa,aa,aa,aa,aa,aa,aa,aa,aa,aa,aa,aa,aa,aa,aa,.val (.slice 221 aw) x6,ag x7,ag x8]++unU 19,res:=[(0,.row 89 ap x9 false)],nx:=1,n0:=0}
noncomputable def kz (x0 x1:Int) (x2:(List ah)) (x3:(List ae)) (x4:(List (List ab))) (x5:(List (List Int))) (x6:(List Bool)):Option (((List ah)×Unit)×Unit):=bA E jM [] qo 2024 {slots:=[aa,aa,aa,aa,aa,aa,aa,aa,.ptr 0 (.slice 221 aw) [],aa,aa,.ptr 1 .fn [],aa,aa,aa,aa,aa,aa,aa,aa,aa,aa,aa,aa,aa,aa,aa,aa,aa,aa,aa,aa,aa,aa,aa,aa,aa,aa,aa,aa,ag x0,ag x1]++unU 7,res:=[(0,.box (.slice 221 aw) (.row 2)),(1,.keepF 199 [.ptr 3 (.slice 4 .bool) [],.ptr 4 b9 [],.ptr 0 (.slice 221 aw) [],.ptr 1 .fn []]),(2,.row 221 aw x2 false),(3,.box (.slice 4 .bool) (.row 5)),(4,.box b9 (.strct [.val (.slice 61 av) x3,.val (.slice 108 (.slice 182 aq)) x4,.val (.slice 135 (.slice 3 (.int .i64))) x5])),(5,.row 4 .bool x6 false)],nx:=6,n0:=0}
noncomputable def cz (x0:(List ae)) (x1 x2:Int) (x3:am):Option ((Int×Unit)×am×Unit):=bA E fZ [(0,.box au (aa))] nJ 104 {slots:=[.val (.slice 61 av) x0,.fn 77 [.ptr 0 au []],aa,aa,aa,aa,aa,ag x1,ag x2]++unU 10,res:=[(0,.box au (.val au x3))],nx:=1,n0:=1}
noncomputable def af (x0:(List bg)) (x1 x2 x3:Int) (x4:(List ae)) (x5:(List ak)) (x6:(List am)):Option ((Int×Int×Unit)×((List ae)×(List ak)×(List am)×Unit)×Unit):=bA E m6 [(0,.box cp (aa)),(1,.row 61 av [] false),(2,.row 49 ax [] false),(3,.row 39 au [] false)] yK 464 {slots:=[.ptr 0 cp [],.val (.slice 83 aX) x0,ag x1,aa,aa,aa,aa,aa,ag x2,ag x3]++unU 94,res:=[(0,.box cp (.strct [.row 4,.row 5,.row 6])),(4,.row 61 av x4 false),(5,.row 49 ax x5 false),(6,.row 39 au x6 false)],nx:=7,n0:=4}
noncomputable def oi (x0:Int) (x1:Bool) (x2:Int) (x3:(List ae)) (x4 x5 x6:Int) (x7:(List ak)) (x8:(List am)) (x9 x10 x11:Int) (x12:(List ak)) (x13:(List ae)) (x14:(List ak)) (x15:(List am)):Option ((eJ×Unit)×Unit):=bA E eT [] gt 119376 {slots:=[aa,aa,.ptr 0 bh [],aa,.ptr 1 bh [],.row 2,ag x0,cZ x1,ag x2]++unU 107,res:=[(0,.box bh (.strct [.val (.slice 61 av) x3,ag x4,ag x5,ag x6,.val (.slice 49 ax) x7,.val (.slice 39 au) x8])),(1,.box bh (.strct [.row 3,ag x9,ag x10,ag x11,.row 4,.row 5])),(2,.row 49 ax x12 false),(3,.row 61 av x13 false),(4,.row 49 ax x14 false),(5,.row 39 au x15 false)],nx:=6,n0:=0}
noncomputable def oj (x0:(List ae)) (x1:Int) (x2:Bool) (x3:Int) (x4:(List am)) (x5:(List ak)):Option (((List am)×Unit)×Unit):=bA E tN [] Hn 250448 {slots:=[.val (.slice 61 av) x0,aa,aa,aa,aa,.row 0,.row 1,ag x1,cZ x2,ag x3]++unU 40,res:=[(0,.row 39 au x4 false),(1,.row 49 ax x5 false)],nx:=2,n0:=0}
noncomputable def mD (x0:(List ae)) (x1 x2 x3 x4:Int) (x5 x6:(List am)):Option ((Bool×Unit)×Unit):=bA E sj [] EW 119408 {slots:=[.val (.slice 61 av) x0,aa,aa,.ptr 0 au [],aa,.row 1,ag x1,.row 2,ag x2]++unU 41,res:=[(0,.box au (.strct [ag x3,ag x4])),(1,.row 39 au x5 false),(2,.row 39 au x6 false)],nx:=3,n0:=0}
noncomputable def ke (x0:(List ab)) (x1:Int) (x2:(List ah)) (x3 x4:Int) (x5:(List ac)) (x6 x7:am):Option (((List ac)×Unit)×Unit):=bA E wm [] K6 238832 {slots:=[.val (.slice 182 aq) x0,ag x1,.val (.slice 221 aw) x2,aa,aa,aa,aa,.row 0,ag x3,aa,.ptr 1 ax [],ag x4]++unU 68,res:=[(0,.row 89 ap x5 false),(1,.box ax (.strct [.val au x6,.val au x7]))],nx:=2,n0:=0}
noncomputable def jS (x0:(List ae)) (x1:(List ah)) (x2:(List am)):Option (((List ah)×Unit)×Unit):=bA E kT [] pA 992 {slots:=[.val (.slice 61 av) x0,aa,aa,aa,aa,aa,aa,.row 0,.row 1]++unU 137,res:=[(0,.row 221 aw x1 false),(1,.row 39 au x2 false)],nx:=2,n0:=0}
noncomputable def bd (x0:(List bg)) (x1 x2 x3 x4:Int) (x5:(List ae)) (x6 x7 x8:Int) (x9:(List ak)) (x10:(List am)) (x11:(List ae)) (x12:(List ak)) (x13:(List am)):Option ((eJ×Unit)×Unit):=bA E wj [] K7 224 {slots:=[aa,.val (.slice 83 aX) x0,ag x1,aa,aa,aa,.ptr 0 bh [],.ptr 1 bh []]++unU 106,res:=[(0,.box bh (.strct [.row 2,ag x2,ag x3,ag x4,.row 3,.row 4])),(1,.box bh (.strct [.val (.slice 61 av) x5,ag x6,ag x7,ag x8,.val (.slice 49 ax) x9,.val (.slice 39 au) x10])),(2,.row 61 av x11 false),(3,.row 49 ax x12 false),(4,.row 39 au x13 false)],nx:=5,n0:=0}
noncomputable def oD (x0:Int) (x1:(List am)) (x2 x3:(List ae)):Option ((Bool×Unit)×Unit):=bA E n7 [] EX 1048528 {slots:=[aa,aa,aa,aa,aa,aa,aa,.row 0,aa,aa,.row 1,aa,aa,aa,aa,aa,aa,aa,aa,.row 2,aa,aa,ag x0]++unU 115,res:=[(0,.row 39 au x1 false),(1,.row 61 av x2 false),(2,.row 61 av x3 false)],nx:=3,n0:=0}
noncomputable def gE (x0 x1:Int) (x2:(List ae)) (x3:(List am)) (x4 x5:(List ak)):Option (Unit×((List ae)×(List ak)×(List am)×Unit)×Unit):=bA E gV [(0,.box cp (aa)),(1,.row 61 av [] false),(2,.row 49 ax [] false),(3,.row 39 au [] false)] l8 504 {slots:=[.ptr 0 cp [],aa,aa,aa,aa,aa,aa,aa,aa,aa,aa,aa,aa,aa,aa,aa,aa,aa,aa,aa,aa,aa,aa,aa,aa,aa,aa,aa,aa,aa,aa,aa,aa,aa,aa,aa,aa,aa,aa,aa,aa,aa,aa,aa,aa,aa,aa,aa,aa,aa,aa,aa,.row 4,ag x0,ag x1]++unU 21,res:=[(0,.box cp (.strct [.row 1,.row 5,.row 3])),(1,.row 61 av x2 false),(3,.row 39 au x3 false),(4,.row 49 ax x4 false),(5,.row 49 ax x5 false)],nx:=6,n0:=4}
noncomputable def gG (x0 x1:Int) (x2:(List ah)) (x3:mq) (x4:(List Bool)):Option (((List ah)×Unit)×Unit):=bA E jM [] qo 2024 {slots:=[aa,aa,aa,aa,aa,aa,aa,aa,.ptr 0 (.slice 221 aw) [],aa,aa,.ptr 1 .fn [],aa,aa,aa,aa,aa,aa,aa,aa,aa,aa,aa,aa,aa,aa,aa,aa,aa,aa,aa,aa,aa,aa,aa,aa,aa,aa,aa,aa,ag x0,ag x1]++unU 7,res:=[(0,.box (.slice 221 aw) (.row 2)),(1,.keepF 199 [.ptr 3 (.slice 4 .bool) [],.ptr 4 b9 [],.ptr 0 (.slice 221 aw) [],.ptr 1 .fn []]),(2,.row 221 aw x2 false),(3,.box (.slice 4 .bool) (.row 5)),(4,.box b9 (.val b9 x3)),(5,.row 4 .bool x4 false)],nx:=6,n0:=0}
noncomputable def d9 (x0 x1:Int) (x2:(List ae)) (x3 x4 x5:Int) (x6:(List am)) (x7 x8 x9:Int) (x10 x11:(List ak)) (x12:(List ae)) (x13:(List ak)) (x14:(List am)):Option ((eJ×Unit)×Unit):=bA E eT [] gt 238832 {slots:=[aa,aa,.ptr 0 bh [],aa,.ptr 1 bh [],.row 2,ag x0,aa,aa,ag x1]++unU 106,res:=[(0,.box bh (.strct [.val (.slice 61 av) x2,ag x3,ag x4,ag x5,.row 3,.val (.slice 39 au) x6])),(1,.box bh (.strct [.row 4,ag x7,ag x8,ag x9,.row 5,.row 6])),(2,.row 49 ax x10 false),(3,.row 49 ax x11 false),(4,.row 61 av x12 false),(5,.row 49 ax x13 false),(6,.row 39 au x14 false)],nx:=7,n0:=0}
noncomputable def ic (x0 x1:Int) (x2:(List ae)) (x3 x4 x5:Int) (x6:(List ak)) (x7:(List am)) (x8 x9 x10:Int) (x11:(List ak)) (x12:(List ae)) (x13:(List ak)) (x14:(List am)):Option ((eJ×Unit)×Unit):=bA E eT [] gt 238832 {slots:=[aa,aa,.ptr 0 bh [],aa,.ptr 1 bh [],.row 2,ag x0,aa,aa,ag x1]++unU 106,res:=[(0,.box bh (.strct [.val (.slice 61 av) x2,ag x3,ag x4,ag x5,.val (.slice 49 ax) x6,.val (.slice 39 au) x7])),(1,.box bh (.strct [.row 3,ag x8,ag x9,ag x10,.row 4,.row 5])),(2,.row 49 ax x11 false),(3,.row 61 av x12 false),(4,.row 49 ax x13 false),(5,.row 39 au x14 false)],nx:=6,n0:=0}
noncomputable def iC (x0:(List ae)) (x1:Int) (x2:(List ah)) (x3 x4:(List am)):Option (((List ah)×Unit)×Unit):=bA E kT [] pA 127312 {slots:=[.val (.slice 61 av) x0,aa,aa,aa,aa,aa,aa,.row 0,.row 1,aa,.row 2,ag x1]++unU 134,res:=[(0,.row 221 aw x2 false),(1,.row 39 au x3 false),(2,.row 39 au x4 false)],nx:=3,n0:=0}
noncomputable def ji (x0 x1 x2:Int) (x3:(List ae)) (x4 x5 x6:Int) (x7:(List am)) (x8 x9 x10:Int) (x11 x12 x13:(List ak)) (x14:(List ae)) (x15:(List ak)) (x16:(List am)):Option ((eJ×Unit)×Unit):=bA E eT [] gt 61141616 {slots:=[aa,aa,.ptr 0 bh [],aa,.ptr 1 bh [],.row 2,ag x0,aa,aa,ag x1,.row 3,ag x2]++unU 104,res:=[(0,.box bh (.strct [.val (.slice 61 av) x3,ag x4,ag x5,ag x6,.row 4,.val (.slice 39 au) x7])),(1,.box bh (.strct [.row 5,ag x8,ag x9,ag x10,.row 6,.row 7])),(2,.row 49 ax x11 false),(3,.row 49 ax x12 false),(4,.row 49 ax x13 false),(5,.row 61 av x14 false),(6,.row 49 ax x15 false),(7,.row 39 au x16 false)],nx:=8,n0:=0}
noncomputable def mE (x0:Int) (x1:(List ae)) (x2 x3 x4:Int) (x5:(List am)) (x6 x7 x8:Int) (x9 x10:(List ak)) (x11:(List ae)) (x12:(List ak)) (x13:(List am)):Option ((eJ×Unit)×Unit):=bA E eT [] gt 464 {slots:=[aa,aa,.ptr 0 bh [],aa,.ptr 1 bh [],.row 2,ag x0]++unU 109,res:=[(0,.box bh (.strct [.val (.slice 61 av) x1,ag x2,ag x3,ag x4,.row 3,.val (.slice 39 au) x5])),(1,.box bh (.strct [.row 4,ag x6,ag x7,ag x8,.row 5,.row 6])),(2,.row 49 ax x9 false),(3,.row 49 ax x10 false),(4,.row 61 av x11 false),(5,.row 49 ax x12 false),(6,.row 39 au x13 false)],nx:=7,n0:=0}
noncomputable def ie (x0 x1 x2:Int) (x3:(List ae)) (x4 x5 x6:Int) (x7:(List ak)) (x8:(List am)) (x9 x10 x11:Int) (x12 x13:(List ak)) (x14:(List ae)) (x15:(List ak)) (x16:(List am)):Option ((eJ×Unit)×Unit):=bA E eT [] gt 61141616 {slots:=[aa,aa,.ptr 0 bh [],aa,.ptr 1 bh [],.row 2,ag x0,aa,aa,ag x1,.row 3,ag x2]++unU 104,res:=[(0,.box bh (.strct [.val (.slice 61 av) x3,ag x4,ag x5,ag x6,.val (.slice 49 ax) x7,.val (.slice 39 au) x8])),(1,.box bh (.strct [.row 4,ag x9,ag x10,ag x11,.row 5,.row 6])),(2,.row 49 ax x12 false),(3,.row 49 ax x13 false),(4,.row 61 av x14 false),(5,.row 49 ax x15 false),(6,.row 39 au x16 false)],nx:=7,n0:=0}
noncomputable def ss (x0:(List ae)) (x1:Int) (x2:Bool) (x3:Int) (x4:(List ah)) (x5 x6:(List am)) (x7:(List ab)) (x8 x9:Int) (x10:aa_) (x11:(List am)):Option (((List ah)×Unit)×Unit):=bA E kT [] pA 33374721744 {slots:=[.val (.slice 61 av) x0,aa,aa,aa,aa,aa,aa,.row 0,.row 1,aa,.row 2,ag x1,aa,.row 3,aa,.ptr 4 ap [],aa,.row 5,cZ x2,ag x3]++unU 126,res:=[(0,.row 221 aw x4 false),(1,.row 39 au x5 false),(2,.row 39 au x6 false),(3,.row 182 aq x7 false),(4,.box ap (.strct [ag x8,ag x9,be x10])),(5,.row 39 au x11 false)],nx:=6,n0:=0}
noncomputable def mF (x0 x1 x2:Int) (x3:Bool) (x4:Int) (x5:(List ae)) (x6 x7 x8:Int) (x9:(List am)) (x10 x11 x12:Int) (x13 x14 x15:(List ak)) (x16:(List ae)) (x17:(List ak)) (x18:(List am)):Option ((eJ×Unit)×Unit):=bA E eT [] gt 15652254288 {slots:=[aa,aa,.ptr 0 bh [],aa,.ptr 1 bh [],.row 2,ag x0,aa,aa,ag x1,.row 3,ag x2,cZ x3,ag x4]++unU 102,res:=[(0,.box bh (.strct [.val (.slice 61 av) x5,ag x6,ag x7,ag x8,.row 4,.val (.slice 39 au) x9])),(1,.box bh (.strct [.row 5,ag x10,ag x11,ag x12,.row 6,.row 7])),(2,.row 49 ax x13 false),(3,.row 49 ax x14 false),(4,.row 49 ax x15 false),(5,.row 61 av x16 false),(6,.row 49 ax x17 false),(7,.row 39 au x18 false)],nx:=8,n0:=0}
noncomputable def mG (x0:Int) (x1:Bool) (x2:Int) (x3:(List ae)) (x4 x5 x6:Int) (x7:(List am)) (x8 x9 x10:Int) (x11 x12:(List ak)) (x13:(List ae)) (x14:(List ak)) (x15:(List am)):Option ((eJ×Unit)×Unit):=bA E eT [] gt 119376 {slots:=[aa,aa,.ptr 0 bh [],aa,.ptr 1 bh [],.row 2,ag x0,cZ x1,ag x2]++unU 107,res:=[(0,.box bh (.strct [.val (.slice 61 av) x3,ag x4,ag x5,ag x6,.row 3,.val (.slice 39 au) x7])),(1,.box bh (.strct [.row 4,ag x8,ag x9,ag x10,.row 5,.row 6])),(2,.row 49 ax x11 false),(3,.row 49 ax x12 false),(4,.row 61 av x13 false),(5,.row 49 ax x14 false),(6,.row 39 au x15 false)],nx:=7,n0:=0}
noncomputable def lA (x0 x1 x2:Int) (x3:Bool) (x4:Int) (x5:(List ae)) (x6 x7 x8:Int) (x9:(List ak)) (x10:(List am)) (x11 x12 x13:Int) (x14 x15:(List ak)) (x16:(List ae)) (x17:(List ak)) (x18:(List am)):Option ((eJ×Unit)×Unit):=bA E eT [] gt 15652254288 {slots:=[aa,aa,.ptr 0 bh [],aa,.ptr 1 bh [],.row 2,ag x0,aa,aa,ag x1,.row 3,ag x2,cZ x3,ag x4]++unU 102,res:=[(0,.box bh (.strct [.val (.slice 61 av) x5,ag x6,ag x7,ag x8,.val (.slice 49 ax) x9,.val (.slice 39 au) x10])),(1,.box bh (.strct [.row 4,ag x11,ag x12,ag x13,.row 5,.row 6])),(2,.row 49 ax x14 false),(3,.row 49 ax x15 false),(4,.row 61 av x16 false),(5,.row 49 ax x17 false),(6,.row 39 au x18 false)],nx:=7,n0:=0}
noncomputable def fI (x0:(List ae)) (x1:Int) (x2:Bool) (x3:Int) (x4:(List ah)) (x5 x6:(List am)) (x7:(List ab)) (x8 x9:Int) (x10:aa_) (x11:(List am)):Option (((List ah)×Unit)×Unit):=bA E kT [] pA 33374721744 {slots:=[.val (.slice 61 av) x0,aa,aa,aa,aa,aa,aa,.row 0,.row 1,aa,.row 2,ag x1,aa,.row 3,aa,.ptr 4 ap [],aa,.row 5,cZ x2,ag x3]++unU 126,res:=[(0,.row 221 aw x4 false),(1,.row 39 au x5 true),(2,.row 39 au x6 false),(3,.row 182 aq x7 false),(4,.box ap (.strct [ag x8,ag x9,be x10])),(5,.row 39 au x11 false)],nx:=6,n0:=0}
noncomputable def eO (x0:(List ae)) (x1:Int) (x2:(List ah)) (x3 x4:(List am)):Option (((List ah)×Unit)×Unit):=bA E kT [] pA 127312 {slots:=[.val (.slice 61 av) x0,aa,aa,aa,aa,aa,aa,.row 0,.row 1,aa,.row 2,ag x1]++unU 134,res:=[(0,.row 221 aw x2 false),(1,.row 39 au x3 true),(2,.row 39 au x4 false)],nx:=3,n0:=0}
end Go.Proofs.YthbkdfcmjmmpgaaGreatDoor.Abs
