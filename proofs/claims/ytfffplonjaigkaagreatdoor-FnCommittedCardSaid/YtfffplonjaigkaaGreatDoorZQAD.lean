/- What the functions are, as the reader reads them. Printed by out.py. -/
import Derived.Test.YtfffplonjaigkaaGreatDoorZA3
import Derived.Test.YtfffplonjaigkaaGreatDoorProg
set_option linter.unusedVariables false
set_option linter.unusedSimpArgs false
set_option maxRecDepth 100000
open _root_ renaming ByteArray→S0
namespace Go.Proofs.YtfffplonjaigkaaGreatDoor.Abs
open Go Go.Proofs.YtfffplonjaigkaaGreatDoor
abbrev Og:TypeId:=9
abbrev cK:Ty := .agg (.pair (.int .i64) (.pair (.int .i64) .unit))
abbrev aA:=Int×Int×Unit
abbrev ar:Ty := .agg (.pair cK (.pair .str .unit))
abbrev ac:=aA×S0×Unit
abbrev an:Ty := .agg (.pair (.int .i64) (.pair (.slice 2 (.int .i64)) (.pair (.slice 112 ar) .unit)))
abbrev ag:=Int×(List Int)×(List ac)×Unit
abbrev au:Ty := .agg (.pair .str (.pair (.int .i64) .unit))
abbrev ah:=S0×Int×Unit
abbrev aY:Ty := .agg (.pair (.int .i64) (.pair (.slice 59 an) (.pair (.slice 57 au) .unit)))
abbrev aO:=Int×(List ag)×(List ah)×Unit
abbrev bB:Ty := .agg (.pair cK (.pair .bool (.pair .bool .unit)))
abbrev b9:=aA×Bool×Bool×Unit
abbrev aw:Ty := .agg (.pair (.slice 5 (.int .u8)) (.pair (.int .i64) .unit))
abbrev aE:=(List Int)×Int×Unit
abbrev bc:Ty := .agg (.pair (.bp 185) (.pair (.slice 5 (.int .u8)) .unit))
abbrev fA:Ty := .agg (.pair cK (.pair .str (.pair .str .unit)))
abbrev aV:=aA×S0×S0×Unit
abbrev bw:Ty := .agg (.pair (.int .i64) (.pair (.int .i64) (.pair .str .unit)))
abbrev aI:=Int×Int×S0×Unit
abbrev al:Ty := .agg (.pair (.int .i64) (.pair (.int .i64) (.pair bw (.pair bB (.pair bB (.pair (.slice 2 (.int .i64)) .unit))))))
abbrev ab:=Int×Int×aI×b9×b9×(List Int)×Unit
abbrev A8:Ty := .agg (.pair cK (.pair cK .unit))
abbrev rl:=aA×aA×Unit
abbrev aW:Ty := .agg (.pair .str (.pair (.int .i64) (.pair .bool (.pair (.slice 298 al) .unit))))
abbrev iU:=S0×Int×Bool×(List ab)×Unit
abbrev be:Ty := .agg (.pair .str (.pair (.slice 298 al) (.pair .bool .unit)))
abbrev mR:=S0×(List ab)×Bool×Unit
noncomputable def gK:ap:=am 6 Tryz.f6 (.pair (.val .bool) .unit) .unit [] [(14,[3,4,6,14]),(19,[3,6,15])]
noncomputable def Me:ap:=am 19 Tryz.f19 (.pair (.val .bool) .unit) .unit [] []
noncomputable def FZ:ap:=am 21 Tryz.f21 (.pair (.row 2 (.int .i64) false) .unit) .unit [] []
noncomputable def wK:ap:=am 24 Tryz.f24 (.pair (.val .bool) .unit) .unit [] [(2,[0,1,5])]
noncomputable def pW:ap:=am 29 Tryz.f29 (.pair (.strct (.pair (.val (.int .i64)) (.pair (.row 59 an false) (.pair (.row 57 au false) .unit)))) (.pair (.val .str) (.pair (.row 112 ar false) .unit))) .unit [] []
noncomputable def wL:ap:=am 30 Tryz.f30 (.pair (.strct (.pair (.val (.int .i64)) (.pair (.row 59 an false) (.pair (.row 57 au false) .unit)))) (.pair (.val (.int .i64)) (.pair (.val (.int .i64)) .unit))) .unit [] []
noncomputable def wM:ap:=am 31 Tryz.f31 (.pair (.strct (.pair (.val (.int .i64)) (.pair (.row 59 an false) (.pair (.row 57 au false) .unit)))) (.pair (.val (.int .i64)) (.pair (.val (.int .i64)) .unit))) .unit [] []
noncomputable def A9:ap:=am 32 Tryz.f32 (.pair (.val .str) .unit) .unit [] []
noncomputable def Ba:ap:=am 33 Tryz.f33 (.pair (.row 112 ar false) (.pair (.val .bool) .unit)) .unit [] []
noncomputable def pX:ap:=am 34 Tryz.f34 (.pair (.val .bool) .unit) .unit [] [(4,[0,1,5])]
noncomputable def DK:ap:=am 35 Tryz.f35 (.pair (.val (.int .i64)) .unit) .unit [] []
noncomputable def uw:ap:=am 36 Tryz.f36 (.pair (.val .bool) .unit) .unit [] [(4,[1,26,27,28]),(10,[1,73,74,75])]
noncomputable def yT:ap:=am 42 Tryz.f42 (.pair (.strct (.pair (.val (.int .i64)) (.pair (.row 59 an false) (.pair (.row 57 au false) .unit)))) (.pair (.row 110 cK false) (.pair (.val (.int .i64)) .unit))) .unit [] []
noncomputable def rY:ap:=am 50 Tryz.f50 (.pair (.strct (.pair (.val (.int .i64)) (.pair (.row 59 an false) (.pair (.row 57 au false) .unit)))) (.pair (.val (.int .i64)) .unit)) .unit [] [(13,[1,2,3,6,8,9,10,11])]
noncomputable def pY:ap:=am 61 Tryz.f61 (.pair (.val .bool) .unit) .unit [] [(4,[1,3]),(10,[1,3,4,5]),(15,[1,6])]
noncomputable def ux:ap:=am 62 Tryz.f62 (.pair (.val (.int .i64)) .unit) .unit [] [(2,[1,2,5])]
noncomputable def wN:ap:=am 63 Tryz.f63 (.pair (.val (.int .i64)) .unit) .unit [] [(5,[7,8,9,10])]
noncomputable def s4:ap:=am 66 Tryz.f66 (.pair (.val (.int .i64)) .unit) .unit [] []
noncomputable def DL:ap:=am 70 Tryz.f70 (.pair (.ptr aw) .unit) .unit [] []
noncomputable def rZ:ap:=am 71 Tryz.f71 (.pair (.strct (.pair (.val (.int .i64)) (.pair (.row 59 an false) (.pair (.row 57 au false) .unit)))) .unit) (.pair (.val aw) .unit) [] [(3,[0,4,5,6])]
noncomputable def ou:ap:=am 72 Tryz.f72 (.pair (.val (.int .i64)) .unit) (.pair (.val aw) .unit) [] []
noncomputable def lY:ap:=am 73 Tryz.f73 (.pair (.row 2 (.int .i64) false) .unit) .unit [] [(3,[2,5,6]),(6,[2,5,6,27,28,29])]
noncomputable def kn:ap:=am 74 Tryz.f74 (.pair (.row 2 (.int .i64) false) .unit) .unit [] [(3,[2,5,6]),(7,[2,5,6,7,8]),(13,[2,5,9,10])]
noncomputable def ow:ap:=am 77 Tryz.f77 (.pair (.row 112 ar false) .unit) (.pair (.val aw) .unit) [] [(3,[0,5,6])]
noncomputable def uy:ap:=am 78 Tryz.f78 (.pair (.strct (.pair (.val (.int .i64)) (.pair (.row 59 an false) (.pair (.row 57 au false) .unit)))) .unit) .unit [] [(3,[1,2,14,15,16])]
noncomputable def vI:ap:=am 79 Tryz.f79 (.pair (.val (.int .i64)) .unit) .unit [] []
noncomputable def uz:ap:=am 80 Tryz.f80 (.pair (.val .bool) .unit) .unit [] [(2,[0,5,6,7])]
noncomputable def vJ:ap:=am 81 Tryz.f81 (.pair (.val .bool) .unit) .unit [] []
noncomputable def vK:ap:=am 82 Tryz.f82 (.pair (.val (.int .i64)) .unit) (.pair (.strct (.pair (.val (.int .i64)) (.pair (.row 59 an false) (.pair (.row 57 au false) .unit)))) .unit) [] []
noncomputable def uA:ap:=am 83 Tryz.f83 (.pair (.val (.int .i64)) .unit) .unit [] [(2,[1,2,5])]
noncomputable def uB:ap:=am 84 Tryz.f84 (.pair (.strct (.pair (.val (.int .i64)) (.pair (.row 59 an false) (.pair (.row 57 au false) .unit)))) .unit) .unit [] [(3,[1,2,3,4])]
noncomputable def uC:ap:=am 85 Tryz.f85 (.pair (.val .bool) .unit) .unit [] [(4,[0,3])]
noncomputable def Bb:ap:=am 86 Tryz.f86 (.pair (.strct (.pair (.val (.int .i64)) (.pair (.row 59 an false) (.pair (.row 57 au false) .unit)))) (.pair (.val (.int .i64)) (.pair (.val .bool) .unit))) .unit [] []
noncomputable def jP:ap:=am 87 Tryz.f87 (.pair (.val .str) .unit) .unit [] [(4,[1,3,20,21,22]),(9,[3,38,39,40]),(13,[3,7,38,39,40,50,51,52]),(19,[3,38,39,40,63,64,65])]
noncomputable def wO:ap:=am 88 Tryz.f88 (.pair (.row 112 ar false) .unit) .unit [] []
noncomputable def DM:ap:=am 89 Tryz.f89 (.pair (.val .bool) .unit) .unit [] []
noncomputable def pZ:ap:=am 90 Tryz.f90 (.pair (.val .bool) .unit) .unit [] [(2,[1,2,3,9,10,11])]
noncomputable def DN:ap:=am 91 Tryz.f91 (.pair (.val .bool) .unit) .unit [] []
noncomputable def fU:ap:=am 94 Tryz.f94 (.pair (.val .bool) .unit) .unit [] []
noncomputable def wP:ap:=am 97 Tryz.f97 (.pair (.val .bool) .unit) .unit [] [(2,[0,1,5])]
noncomputable def uD:ap:=am 98 Tryz.f98 (.pair (.strct (.pair (.val (.int .i64)) (.pair (.row 59 an false) (.pair (.row 57 au false) .unit)))) .unit) .unit [true,false,false] [(2,[1,2,3,6,7])]
noncomputable def wQ:ap:=am 99 Tryz.f99 (.pair (.row 112 ar false) (.pair (.row 110 cK false) (.pair (.val .bool) .unit))) .unit [] [(7,[1,9,10,11,12])]
noncomputable def yU:ap:=am 100 Tryz.f100 (.pair (.row 112 ar false) .unit) .unit [] []
noncomputable def zH:ap:=am 101 Tryz.f101 (.pair (.val .str) .unit) .unit [] [(4,[0,3])]
noncomputable def wR:ap:=am 102 Tryz.f102 (.pair (.val .str) .unit) .unit [] []
noncomputable def uE:ap:=am 109 Tryz.f109 (.pair (.val .bool) .unit) .unit [] [(4,[0,3])]
noncomputable def kH:ap:={g:=116,fn:=Tryz.f116,sh:=(.pair (.val .str) (.pair (.val .str) (.pair (.val .bool) .unit))),bx := .unit,own:=[],live:=[],prim:=some (yh)}
noncomputable def zI:ap:=am 123 Tryz.f123 (.pair (.val (.int .i64)) (.pair (.val .bool) .unit)) .unit [] [(5,[0,6,7])]
noncomputable def p3:ap:=am 124 Tryz.f124 (.pair (.val bB) (.pair (.val .bool) .unit)) .unit [] [(6,[0,2,4,5])]
noncomputable def I9:ap:=am 127 Tryz.f127 (.pair (.val .bool) .unit) .unit [] []
noncomputable def e8:ap:=am 130 Tryz.f130 (.pair (.val (.int .i64)) .unit) (.pair (.val (.int .i64)) .unit) [] [(2,[0,1,7,8])]
noncomputable def p4:ap:=am 131 Tryz.f131 (.pair (.val .bool) .unit) (.pair (.val (.int .i64)) .unit) [] []
noncomputable def DP:ap:=am 134 Tryz.f134 (.pair (.strct (.pair (.val (.int .i64)) (.pair (.row 59 an false) (.pair (.row 57 au false) .unit)))) .unit) .unit [] []
noncomputable def DQ:ap:=am 135 Tryz.f135 (.pair (.val (.int .i64)) .unit) .unit [] []
noncomputable def lZ:ap:=am 136 Tryz.f136 (.pair (.val (.slice 112 ar)) .unit) (.pair (.val aw) .unit) [] [(2,[0,1,7])]
noncomputable def yV:ap:=am 137 Tryz.f137 (.pair (.val (.int .i64)) .unit) (.pair (.val aw) .unit) [] []
noncomputable def p5:ap:=am 138 Tryz.f138 (.pair (.val (.int .i64)) .unit) (.pair (.val aw) .unit) [] []
noncomputable def eJ:ap:={g:=139,fn:=Tryz.f139,sh := .unit,bx:=(.pair (.row 2 (.int .i64) false) .unit),own:=[true],live:=[],rb:=true,prim:=some (lu 2)}
noncomputable def F0:ap:=am 140 Tryz.f140 (.pair (.row 112 ar false) (.pair (.val .bool) .unit)) .unit [] []
noncomputable def yW:ap:=am 141 Tryz.f141 (.pair (.val cK) .unit) (.pair (.val aw) .unit) [] []
noncomputable def vL:ap:=am 142 Tryz.f142 (.pair (.val .str) .unit) (.pair (.val aw) .unit) [] []
noncomputable def wS:ap:=am 143 Tryz.f143 (.pair (.val .bool) .unit) (.pair (.val aw) .unit) [] []
noncomputable def gL:ap:={g:=144,fn:=Tryz.f144,sh:=(.pair (.row 57 au false) .unit),bx := .unit,own:=[],live:=[],prim:=some (bR 57 au 24)}
noncomputable def gu:ap:={g:=145,fn:=Tryz.f145,sh:=(.pair (.row 59 an false) .unit),bx := .unit,own:=[],live:=[],prim:=some (bR 59 an 56)}
noncomputable def ek:ap:={g:=146,fn:=Tryz.f146,sh:=(.pair (.row 2 (.int .i64) false) .unit),bx := .unit,own:=[],live:=[],prim:=some (bR 2 (.int .i64) 8)}
noncomputable def du:ap:={g:=147,fn:=Tryz.f147,sh:=(.pair (.row 112 ar false) .unit),bx := .unit,own:=[],live:=[],prim:=some (bR 112 ar 32)}
noncomputable def fk:ap:=am 148 Tryz.f148 (.pair (.val (.int .i64)) .unit) (.pair (.val .str) .unit) [] [(2,[0,1,7,8])]
noncomputable def rm:ap:=am 149 Tryz.f149 (.pair (.val .bool) .unit) (.pair (.val .str) .unit) [] []
noncomputable def F1:ap:=am 150 Tryz.f150 (.pair (.val .bool) .unit) .unit [] []
noncomputable def s5:ap:=am 151 Tryz.f151 (.pair (.val (.int .i64)) .unit) .unit [] []
noncomputable def yX:ap:=am 152 Tryz.f152 (.pair (.val .bool) .unit) .unit [] []
noncomputable def Bc:ap:=am 153 Tryz.f153 (.pair (.val .str) (.pair (.val .bool) .unit)) .unit [] []
noncomputable def F2:ap:=am 154 Tryz.f154 (.pair (.val .bool) .unit) .unit [] []
noncomputable def Bd:ap:=am 155 Tryz.f155 (.pair (.val .bool) .unit) .unit [] []
noncomputable def dY:ap:={g:=156,fn:=Tryz.f156,sh:=(.pair (.val (.int .i64)) (.pair (.val .err) .unit)),bx:=(.pair (.strct (.pair (.val (.bp 185)) (.pair (.row 5 (.int .u8) false) .unit))) .unit),own:=[],live:=[],prim:=some (nW 185 5)}
noncomputable def Be:ap:=am 157 Tryz.f157 (.pair (.val .str) .unit) .unit [] []
noncomputable def Bf:ap:=am 158 Tryz.f158 (.pair (.val .str) .unit) .unit [] []
noncomputable def fF:ap:={g:=159,fn:=Tryz.f159,sh:=(.pair (.val .str) .unit),bx:=(.pair (.strct (.pair (.val (.bp 185)) (.pair (.val (.slice 5 (.int .u8))) .unit))) .unit),own:=[],live:=[],prim:=some (lv 185 5)}
noncomputable def jQ:ap:={g:=160,fn:=Tryz.f160,sh:=(.pair (.val .str) .unit),bx := .unit,own:=[],live:=[],prim:=some (ut)}
noncomputable def em:ap:=am 161 Tryz.f161 (.pair (.val (.int .i64)) .unit) .unit [] [(2,[0,1,7,8])]
noncomputable def wT:ap:=am 164 Tryz.f164 (.pair (.row 198 fA false) .unit) .unit [] [(6,[0,1,5,6,7])]
noncomputable def Cv:ap:=am 165 Tryz.f165 (.pair (.val .str) .unit) .unit [] [(2,[0,3,5])]
noncomputable def zJ:ap:=am 166 Tryz.f166 (.pair (.row 112 ar false) .unit) .unit [] [(4,[0,2,4,7,8,9])]
noncomputable def uF:ap:=am 167 Tryz.f167 (.pair (.val .str) .unit) .unit [] [(4,[0,3])]
noncomputable def gd:ap:={g:=178,fn:=Tryz.f178,sh:=(.pair (.val (.int .i64)) (.pair (.val .err) .unit)),bx := .unit,own:=[],live:=[],prim:=some (lX)}
noncomputable def wU:ap:=am 179 Tryz.f179 (.pair (.val bB) (.pair (.val .bool) .unit)) .unit [] []
noncomputable def uG:ap:=am 181 Tryz.f181 (.pair (.val (.int .i64)) .unit) .unit [] [(2,[0,3])]
noncomputable def wV:ap:=am 184 Tryz.f184 (.pair (.val (.int .i64)) .unit) (.pair (.val aw) .unit) [] []
noncomputable def vM:ap:=am 186 Tryz.f186 (.pair (.val .str) .unit) (.pair (.val aw) .unit) [] []
noncomputable def p6:ap:=am 187 Tryz.f187 (.pair (.val (.int .i64)) .unit) .unit [] [(3,[3,6,7,8])]
noncomputable def mz:ap:=am 188 Tryz.f188 (.pair (.val (.int .i64)) .unit) .unit [] []
noncomputable def Bg:ap:=am 189 Tryz.f189 (.pair (.val .str) (.pair (.val .bool) .unit)) .unit [] []
noncomputable def uH:ap:=am 190 Tryz.f190 (.pair (.val .bool) .unit) .unit [] [(2,[0,3])]
noncomputable def s6:ap:=am 191 Tryz.f191 (.pair (.row 298 al false) (.pair (.val .bool) .unit)) .unit [] []
noncomputable def s7:ap:=am 192 Tryz.f192 (.pair (.val .str) .unit) .unit [] []
noncomputable def r5:ap:=am 193 Tryz.f193 (.pair (.val bw) (.pair (.val .bool) .unit)) .unit [] [(6,[0,2,4])]
noncomputable def wW:ap:=am 194 Tryz.f194 (.pair (.val .str) .unit) .unit [] []
noncomputable def l4:ap:=am 195 Tryz.f195 (.pair (.val bw) (.pair (.val .bool) .unit)) .unit [] [(23,[0,2,4,5]),(27,[2,4])]
noncomputable def fR:ap:={g:=197,fn:=Tryz.f197,sh:=(.pair (.val .str) .unit),bx := .unit,own:=[],live:=[],prim:=some (yg)}
noncomputable def wX:ap:=am 198 Tryz.f198 (.pair (.val .str) .unit) .unit [] []
noncomputable def mA:ap:=am 223 Tryz.f223 (.pair (.val .str) (.pair (.val .bool) .unit)) .unit [] []
noncomputable def ge:ap:={g:=224,fn:=Tryz.f224,sh:=(.pair (.val .str) .unit),bx := .unit,own:=[],live:=[],prim:=some (lW)}
noncomputable def uI:ap:=am 225 Tryz.f225 (.pair (.val (.int .i64)) .unit) .unit [] [(2,[0,3])]
noncomputable def p7:ap:=am 226 Tryz.f226 (.pair (.val (.int .u64)) .unit) (.pair (.val aw) .unit) [] [(3,[0,3,4])]
noncomputable def wY:ap:=am 236 Tryz.f236 (.pair (.val A8) .unit) (.pair (.val aw) .unit) [] []
noncomputable def DR:ap:=am 237 Tryz.f237 (.pair (.val .str) .unit) .unit [] []
noncomputable def oJ:ap:=am 238 Tryz.f238 (.pair (.val .bool) .unit) .unit [] []
noncomputable def wZ:ap:=am 239 Tryz.f239 (.pair (.val .bool) .unit) .unit [] [(2,[0,1,7,8])]
noncomputable def s8:ap:=am 240 Tryz.f240 (.pair (.row 298 al false) (.pair (.val .bool) .unit)) .unit [] []
noncomputable def yY:ap:=am 241 Tryz.f241 (.pair (.val .str) (.pair (.val .bool) .unit)) .unit [] []
noncomputable def yZ:ap:=am 242 Tryz.f242 (.pair (.val .bool) .unit) .unit [] []
noncomputable def Bh:ap:=am 243 Tryz.f243 (.pair (.val .bool) .unit) .unit [] []
noncomputable def DS:ap:=am 244 Tryz.f244 (.pair (.val bw) .unit) .unit [] []
noncomputable def p8:ap:=am 245 Tryz.f245 (.pair (.val bw) (.pair (.val .bool) .unit)) .unit [] [(9,[0,2,4,7])]
noncomputable def r6:ap:=am 246 Tryz.f246 (.pair (.val (.int .i64)) .unit) (.pair (.strct (.pair (.val .str) (.pair (.val (.int .i64)) (.pair (.val .bool) (.pair (.row 298 al false) .unit))))) .unit) [] [(6,[0,1,5])]
noncomputable def mS:ap:=am 247 Tryz.f247 .unit (.pair (.strct (.pair (.val .str) (.pair (.val (.int .i64)) (.pair (.val .bool) (.pair (.row 298 al false) .unit))))) .unit) [] [(0,[0])]
noncomputable def l5:ap:=am 248 Tryz.f248 (.pair (.val .bool) .unit) .unit [] [(4,[0,3]),(9,[0,3,4])]
noncomputable def w4:ap:=am 249 Tryz.f249 (.pair (.val .str) .unit) .unit [] [(21,[0,7,10,11])]
noncomputable def Bi:ap:=am 250 Tryz.f250 (.pair (.val .bool) .unit) .unit [] []
noncomputable def DT:ap:=am 251 Tryz.f251 (.pair (.val .str) .unit) .unit [] []
noncomputable def DU:ap:=am 252 Tryz.f252 (.pair (.val .str) .unit) .unit [] []
noncomputable def Bj:ap:=am 255 Tryz.f255 (.pair (.val .str) .unit) .unit [] []
noncomputable def j6:ap:=am 275 Tryz.f275 (.pair (.val .str) (.pair (.val .bool) .unit)) .unit [] []
noncomputable def ij:ap:=am 279 Tryz.f279 (.pair (.val (.int .i64)) .unit) (.pair (.strct (.pair (.val .str) (.pair (.row 298 al false) (.pair (.val .bool) .unit)))) .unit) [] [(2,[0,1,2,7]),(5,[0,1,2,7,8,9])]
noncomputable def p9:ap:=am 280 Tryz.f280 .unit (.pair (.strct (.pair (.val .str) (.pair (.row 298 al false) (.pair (.val .bool) .unit)))) .unit) [] []
noncomputable def w5:ap:=am 281 Tryz.f281 (.pair (.val .bool) .unit) .unit [] []
noncomputable def s9:ap:=am 282 Tryz.f282 (.pair (.val .str) .unit) .unit [] []
noncomputable def l6:ap:=am 283 Tryz.f283 (.pair (.val .str) .unit) .unit [] []
noncomputable def F3:ap:=am 284 Tryz.f284 (.pair (.val bw) .unit) .unit [] []
noncomputable def mB:ap:=am 285 Tryz.f285 (.pair (.val .bool) .unit) .unit [] []
noncomputable def w6:ap:=am 286 Tryz.f286 (.pair (.val .str) .unit) .unit [] []
noncomputable def F4:ap:=am 287 Tryz.f287 (.pair (.val bw) .unit) .unit [] []
noncomputable def w7:ap:=am 288 Tryz.f288 (.pair (.val .str) .unit) .unit [] []
noncomputable def nw:ap:=am 289 Tryz.f289 (.pair (.val (.int .i64)) .unit) (.pair (.strct (.pair (.val .str) (.pair (.val (.int .i64)) (.pair (.val .bool) (.pair (.row 298 al false) .unit))))) .unit) [] [(13,[0,5]),(23,[0,7,8])]
noncomputable def oU:ap:=am 290 Tryz.f290 (.pair (.val (.int .i64)) .unit) (.pair (.strct (.pair (.val .str) (.pair (.val (.int .i64)) (.pair (.val .bool) (.pair (.row 298 al false) .unit))))) .unit) [] [(3,[0,1,5,6])]
noncomputable def za:ap:=am 291 Tryz.f291 (.pair (.val (.int .i64)) .unit) (.pair (.strct (.pair (.val .str) (.pair (.val (.int .i64)) (.pair (.val .bool) (.pair (.row 298 al false) .unit))))) .unit) [] []
noncomputable def zb:ap:=am 292 Tryz.f292 (.pair (.val .bool) .unit) .unit [] []
noncomputable def w8:ap:=am 293 Tryz.f293 (.pair (.val (.int .i64)) .unit) .unit [] [(3,[0,1,5,6])]
noncomputable def w9:ap:=am 294 Tryz.f294 (.pair (.val (.int .i64)) .unit) .unit [] [(3,[0,1,5,6])]
noncomputable def uJ:ap:=am 295 Tryz.f295 (.pair (.val .str) .unit) .unit [] [(3,[0,3,4])]
noncomputable def Bk:ap:=am 296 Tryz.f296 (.pair (.val (.int .i64)) .unit) .unit [] []
noncomputable def Ja:ap:=am 297 Tryz.f297 (.pair (.val .str) .unit) .unit [] []
noncomputable def j7:ap:=am 321 Tryz.f321 (.pair (.val .bool) .unit) .unit [] []
noncomputable def rn:ap:=am 323 Tryz.f323 (.pair (.val (.int .i64)) .unit) (.pair (.strct (.pair (.val .str) (.pair (.row 298 al false) (.pair (.val .bool) .unit)))) .unit) [] []
noncomputable def mT:ap:=am 324 Tryz.f324 (.pair (.val .str) .unit) (.pair (.strct (.pair (.val .str) (.pair (.row 298 al false) (.pair (.val .bool) .unit)))) .unit) [] [(3,[0,7,8,9])]
noncomputable def DV:ap:=am 325 Tryz.f325 (.pair (.val .str) .unit) .unit [] []
noncomputable def F5:ap:=am 326 Tryz.f326 (.pair (.val (.int .i64)) .unit) .unit [] []
noncomputable def tc:ap:=am 327 Tryz.f327 (.pair (.val .bool) .unit) (.pair (.strct (.pair (.val .str) (.pair (.row 298 al false) (.pair (.val .bool) .unit)))) .unit) [] []
noncomputable def vO:ap:=am 328 Tryz.f328 (.pair (.val (.int .i64)) .unit) (.pair (.strct (.pair (.val .str) (.pair (.row 298 al false) (.pair (.val .bool) .unit)))) .unit) [] []
noncomputable def Cw:ap:=am 329 Tryz.f329 (.pair (.val (.int .i64)) .unit) .unit [] [(5,[0,1,2,7,8])]
noncomputable def mU:ap:=am 330 Tryz.f330 (.pair (.val .str) .unit) .unit [] [(21,[0,7,10,92,93,94])]
noncomputable def js:ap:=am 331 Tryz.f331 (.pair (.val .str) .unit) .unit [] []
noncomputable def Bl:ap:=am 332 Tryz.f332 (.pair (.val .bool) .unit) (.pair (.strct (.pair (.val .str) (.pair (.val (.int .i64)) (.pair (.val .bool) (.pair (.row 298 al false) .unit))))) .unit) [] []
noncomputable def qa:ap:=am 333 Tryz.f333 (.pair (.val (.int .i64)) .unit) (.pair (.strct (.pair (.val .str) (.pair (.val (.int .i64)) (.pair (.val .bool) (.pair (.row 298 al false) .unit))))) .unit) [] [(2,[0,3])]
noncomputable def Bm:ap:=am 334 Tryz.f334 (.pair (.val bw) .unit) .unit [] []
noncomputable def qb:ap:=am 335 Tryz.f335 (.pair (.val .str) .unit) (.pair (.strct (.pair (.val .str) (.pair (.val (.int .i64)) (.pair (.val .bool) (.pair (.row 298 al false) .unit))))) .unit) [] [(2,[0,3])]
noncomputable def l7:ap:=am 336 Tryz.f336 (.pair (.val (.int .i64)) .unit) (.pair (.strct (.pair (.val .str) (.pair (.val (.int .i64)) (.pair (.val .bool) (.pair (.row 298 al false) .unit))))) .unit) [] [(2,[0,1,5])]
noncomputable def DW:ap:=am 337 Tryz.f337 (.pair (.val .bool) .unit) .unit [] []
noncomputable def DX:ap:=am 338 Tryz.f338 (.pair (.val .bool) .unit) .unit [] []
noncomputable def jR:ap:=am 349 Tryz.f349 (.pair (.val (.int .i64)) .unit) (.pair (.strct (.pair (.val .str) (.pair (.row 298 al false) (.pair (.val .bool) .unit)))) .unit) [] [(6,[0,1,5]),(24,[0,1,9,14])]
noncomputable def td:ap:=am 350 Tryz.f350 (.pair (.val .bool) .unit) .unit [] []
noncomputable def fm:ap:={g:=351,fn:=Tryz.f351,sh:=(.pair (.val .str) .unit),bx := .unit,own:=[],live:=[],prim:=some (nv)}
noncomputable def DY:ap:=am 352 Tryz.f352 (.pair (.val .str) .unit) .unit [] []
noncomputable def jS:ap:={g:=353,fn:=Tryz.f353,sh:=(.pair (.val .str) .unit),bx := .unit,own:=[],live:=[],prim:=some (uu Og)}
noncomputable def zd:ap:=am 354 Tryz.f354 (.pair (.val (.int .i64)) .unit) (.pair (.strct (.pair (.val .str) (.pair (.val (.int .i64)) (.pair (.val .bool) (.pair (.row 298 al false) .unit))))) .unit) [] []
noncomputable def kX:ap:=am 358 Tryz.f358 (.pair (.val (.int .i64)) .unit) (.pair (.strct (.pair (.val .str) (.pair (.row 298 al false) (.pair (.val .bool) .unit)))) .unit) [] [(2,[0,3,4])]
noncomputable def nX:ap:=am 359 Tryz.f359 (.pair (.val (.int .i64)) .unit) (.pair (.strct (.pair (.val .str) (.pair (.row 298 al false) (.pair (.val .bool) .unit)))) .unit) [] []
noncomputable def tf:ap:=am 360 Tryz.f360 (.pair (.val .str) .unit) (.pair (.strct (.pair (.val .str) (.pair (.row 298 al false) (.pair (.val .bool) .unit)))) .unit) [] []
noncomputable def jT:ap:=am 361 Tryz.f361 (.pair (.val (.int .i64)) .unit) (.pair (.strct (.pair (.val .str) (.pair (.row 298 al false) (.pair (.val .bool) .unit)))) .unit) [] [(3,[0,1,2,7])]
noncomputable def oK:ap:=am 362 Tryz.f362 (.pair (.val .bool) .unit) .unit [] []
noncomputable def rp:ap:=am 363 Tryz.f363 (.pair (.val .bool) .unit) .unit [] []
noncomputable def nY:ap:=am 366 Tryz.f366 (.pair (.strct (.pair (.val (.int .i64)) (.pair (.val (.int .i64)) (.pair (.val bw) (.pair (.val bB) (.pair (.val bB) (.pair (.row 2 (.int .i64) false) .unit))))))) (.pair (.val .bool) .unit)) (.pair (.strct (.pair (.val .str) (.pair (.row 298 al false) (.pair (.val .bool) .unit)))) .unit) [] []
noncomputable def DZ:ap:=am 367 Tryz.f367 (.pair (.val .bool) .unit) .unit [] []
noncomputable def vP:ap:=am 368 Tryz.f368 (.pair (.val A8) .unit) .unit [] []
noncomputable def E:ce:={ty:=[(2,(.int .i64)),(3,(.int .i64)),(4,.bool),(5,(.int .u8)),(9,.str),(28,(.slice 59 an)),(29,(.slice 57 au)),(31,aY),(35,(.slice 5 (.int .u8))),(39,(.slice 2 (.int .i64))),(46,(.slice 112 ar)),(57,au),(59,an),(65,(.slice 110 cK)),(98,(.slice 9 .str)),(110,cK),(112,ar),(116,.fn),(126,bB),(164,aw),(177,.fn),(183,(.bp 185)),(185,bc),(187,.err),(195,(.slice 198 fA)),(198,fA),(211,(.slice 298 al)),(216,bw),(243,(.int .u64)),(255,A8),(257,(.slice 3 (.int .i64))),(265,aW),(291,be),(298,al)],by_:=[(2,8),(9,16),(57,24),(59,56),(110,16),(112,32),(198,48),(298,120)],fns:=[(6,gK),(19,Me),(21,FZ),(24,wK),(29,pW),(30,wL),(31,wM),(32,A9),(33,Ba),(34,pX),(35,DK),(36,uw),(42,yT),(50,rY),(61,pY),(62,ux),(63,wN),(66,s4),(70,DL),(71,rZ),(72,ou),(73,lY),(74,kn),(77,ow),(78,uy),(79,vI),(80,uz),(81,vJ),(82,vK),(83,uA),(84,uB),(85,uC),(86,Bb),(87,jP),(88,wO),(89,DM),(90,pZ),(91,DN),(94,fU),(97,wP),(98,uD),(99,wQ),(100,yU),(101,zH),(102,wR),(109,uE),(116,kH),(123,zI),(124,p3),(127,I9),(130,e8),(131,p4),(134,DP),(135,DQ),(136,lZ),(137,yV),(138,p5),(139,eJ),(140,F0),(141,yW),(142,vL),(143,wS),(144,gL),(145,gu),(146,ek),(147,du),(148,fk),(149,rm),(150,F1),(151,s5),(152,yX),(153,Bc),(154,F2),(155,Bd),(156,dY),(157,Be),(158,Bf),(159,fF),(160,jQ),(161,em),(164,wT),(165,Cv),(166,zJ),(167,uF),(178,gd),(179,wU),(181,uG),(184,wV),(186,vM),(187,p6),(188,mz),(189,Bg),(190,uH),(191,s6),(192,s7),(193,r5),(194,wW),(195,l4),(197,fR),(198,wX),(223,mA),(224,ge),(225,uI),(226,p7),(236,wY),(237,DR),(238,oJ),(239,wZ),(240,s8),(241,yY),(242,yZ),(243,Bh),(244,DS),(245,p8),(246,r6),(247,mS),(248,l5),(249,w4),(250,Bi),(251,DT),(252,DU),(255,Bj),(275,j6),(279,ij),(280,p9),(281,w5),(282,s9),(283,l6),(284,F3),(285,mB),(286,w6),(287,F4),(288,w7),(289,nw),(290,oU),(291,za),(292,zb),(293,w8),(294,w9),(295,uJ),(296,Bk),(297,Ja),(321,j7),(323,rn),(324,mT),(325,DV),(326,F5),(327,tc),(328,vO),(329,Cw),(330,mU),(331,js),(332,Bl),(333,qa),(334,Bm),(335,qb),(336,l7),(337,DW),(338,DX),(349,jR),(350,td),(351,fm),(352,DY),(353,jS),(354,zd),(358,kX),(359,nX),(360,tf),(361,jT),(362,oK),(363,rp),(366,nY),(367,DZ),(368,vP)],eqs:=[(110,cK),(112,ar),(126,bB),(216,bw)],tails:=[],cuts:=[]}
noncomputable def Oh (x0:(List Int)):Option ((Bool×Unit)×Unit):=ai E Me [.val (.slice 5 (.int .u8)) x0] []
noncomputable def Jb (x0:(List Int)):Option ((aE×Unit)×Unit):=ai E DL [.val (.slice 5 (.int .u8)) x0] []
noncomputable def Jc:Option (((Int×(List ag)×(List ah)×Unit)×Unit)×Unit):=ai E DP [] []
noncomputable def oV (x0:(List Int)) (x1:Int):Option ((Int×Unit)×aE×Unit):=ai E p5 [.ptr 0 aw []] [(0,.box aw (.strct [.val (.slice 5 (.int .u8)) x0,aj x1]))]
noncomputable def gv (x0:aE):Option ((Int×Unit)×aE×Unit):=ai E p5 [.ptr 0 aw []] [(0,.box aw (.val aw x0))]
noncomputable def r7 (x0:Int) (x1:(List Int)) (x2:Int):Option ((Int×Unit)×aE×Unit):=ai E ou [.ptr 0 aw [],aj x0] [(0,.box aw (.strct [.val (.slice 5 (.int .u8)) x1,aj x2]))]
noncomputable def aq (x0:Int) (x1:aE):Option ((Int×Unit)×aE×Unit):=ai E ou [.ptr 0 aw [],aj x0] [(0,.box aw (.val aw x1))]
noncomputable def kI (x0 x1 x2:Int):Option ((Bool×Unit)×Unit):=ai E I9 [aj x0,aj x1,aj x2] []
noncomputable def qc (x0:S0):Option ((Bool×Unit)×Unit):=ai E uH [aQ x0] []
noncomputable def gM (x0:S0) (x1:Int) (x2:Bool) (x3:(List ab)):Option (Unit×(S0×Int×Bool×(List ab)×Unit)×Unit):=ai E mS [.ptr 0 aW []] [(0,.box aW (.strct [aQ x0,aj x1,cS x2,.row 1])),(1,.row 298 al x3 false)]
noncomputable def cY (x0 x1:S0) (x2:Int) (x3:Bool) (x4:(List ab)):Option ((Bool×Unit)×(S0×Int×Bool×(List ab)×Unit)×Unit):=ai E Bl [.ptr 0 aW [],aQ x0] [(0,.box aW (.strct [aQ x1,aj x2,cS x3,.row 1])),(1,.row 298 al x4 false)]
noncomputable def dI (x0:Int) (x1:S0) (x2:Int) (x3:Bool) (x4:(List ab)):Option ((Int×Unit)×(S0×Int×Bool×(List ab)×Unit)×Unit):=ai E r6 [.ptr 0 aW [],aj x0] [(0,.box aW (.strct [aQ x1,aj x2,cS x3,.row 1])),(1,.row 298 al x4 false)]
noncomputable def fG (x0:aI):Option ((Bool×Unit)×Unit):=ai E Bi [.val bw x0] []
noncomputable def dx (x0:aA):Option ((Bool×Unit)×Unit):=ai E F2 [.val cK x0] []
noncomputable def Cx (x0:rl):Option ((Bool×Unit)×Unit):=ai E DW [.val A8 x0] []
noncomputable def Cy (x0 x1:Int):Option ((Bool×Unit)×Unit):=ai E DX [aj x0,aj x1] []
noncomputable def rq (x0:ab):Option ((Bool×Unit)×Unit):=ai E zb [.val al x0] []
noncomputable def bW (x0:ab) (x1:S0) (x2:Int) (x3:Bool) (x4:(List ab)):Option ((Int×Unit)×(S0×Int×Bool×(List ab)×Unit)×Unit):=ai E za [.ptr 0 aW [],.val al x0] [(0,.box aW (.strct [aQ x1,aj x2,cS x3,.row 1])),(1,.row 298 al x4 false)]
noncomputable def uK (x0:S0) (x1:Int) (x2:Bool) (x3:(List ab)):Option ((Int×Unit)×(S0×Int×Bool×(List ab)×Unit)×Unit):=ai E qa [.ptr 0 aW []] [(0,.box aW (.strct [aQ x0,aj x1,cS x2,.row 1])),(1,.row 298 al x3 false)]
noncomputable def tg (x0:Int):Option ((S0×Unit)×Unit):=ai E DU [aj x0] []
noncomputable def zK (x0:Int):Option ((aI×Unit)×Unit):=ai E Bm [aj x0] []
noncomputable def jU (x0:S0) (x1:Int) (x2:Bool) (x3:(List ab)):Option ((S0×Unit)×(S0×Int×Bool×(List ab)×Unit)×Unit):=ai E qb [.ptr 0 aW []] [(0,.box aW (.strct [aQ x0,aj x1,cS x2,.row 1])),(1,.row 298 al x3 false)]
noncomputable def Fg (x0:Int):Option ((S0×Unit)×Unit):=ai E Ja [aj x0] []
noncomputable def qd (x0:Int):Option ((S0×Unit)×Unit):=ai E uF [aj x0] []
noncomputable def mV (x0:S0):Option ((Int×Unit)×Unit):=ai E uG [aQ x0] []
noncomputable def cz (x0:S0) (x1:Int):Option ((Int×Bool×Unit)×Unit):=ai E zI [aQ x0,aj x1] []
noncomputable def jV (x0:S0):Option ((b9×Bool×Unit)×Unit):=ai E p3 [aQ x0] []
noncomputable def nZ (x0:S0) (x1:Int) (x2:Bool) (x3:(List ab)):Option ((Int×Unit)×(S0×Int×Bool×(List ab)×Unit)×Unit):=ai E zd [.ptr 0 aW []] [(0,.box aW (.strct [aQ x0,aj x1,cS x2,.row 1])),(1,.row 298 al x3 false)]
noncomputable def uL (x0:Int) (x1:S0) (x2:Int) (x3:Bool) (x4:(List ab)):Option ((Int×Unit)×(S0×Int×Bool×(List ab)×Unit)×Unit):=ai E l7 [.ptr 0 aW [],aj x0] [(0,.box aW (.strct [aQ x1,aj x2,cS x3,.row 1])),(1,.row 298 al x4 false)]
noncomputable def oW (x0:S0):Option ((aI×Bool×Unit)×Unit):=ai E l4 [aQ x0] []
noncomputable def rr (x0:S0) (x1:Int) (x2:Bool) (x3:(List ab)):Option ((Int×Unit)×(S0×Int×Bool×(List ab)×Unit)×Unit):=ai E nw [.ptr 0 aW []] [(0,.box aW (.strct [aQ x0,aj x1,cS x2,.row 1])),(1,.row 298 al x3 false)]
noncomputable def qe (x0:Int):Option ((Int×Unit)×Unit):=ai E Bk [aj x0] []
noncomputable def iV (x0:Int):Option ((S0×Unit)×Unit):=ai E DR [aj x0] []
noncomputable def zL (x0:Int) (x1:S0) (x2:Int) (x3:Bool) (x4:(List ab)):Option ((Int×Unit)×(S0×Int×Bool×(List ab)×Unit)×Unit):=ai E oU [.ptr 0 aW [],aj x0] [(0,.box aW (.strct [aQ x1,aj x2,cS x3,.row 1])),(1,.row 298 al x4 false)]
noncomputable def th (x0:(List ab)) (x1:Int):Option ((Int×Unit)×Unit):=ai E w8 [.val (.slice 298 al) x0,aj x1] []
noncomputable def tj (x0:(List ab)) (x1:Int):Option ((Int×Unit)×Unit):=ai E w9 [.val (.slice 298 al) x0,aj x1] []
noncomputable def oX (x0:(List ab)):Option ((Bool×Unit)×Unit):=ai E l5 [.val (.slice 298 al) x0] []
noncomputable def qf (x0:S0):Option (((List ab)×Bool×Unit)×Unit):=ai E s6 [aQ x0] []
noncomputable def zM (x0:S0):Option ((S0×Unit)×Unit):=ai E uJ [aQ x0] []
noncomputable def cQ (x0:Int):Option ((S0×Unit)×Unit):=ai E zH [aj x0] []
noncomputable def Cz (x0:Int):Option ((S0×Unit)×Unit):=ai E DT [aj x0] []
noncomputable def gf (x0:aI):Option ((S0×Unit)×Unit):=ai E wW [.val bw x0] []
noncomputable def ck (x0:b9):Option ((S0×Unit)×Unit):=ai E wR [.val bB x0] []
noncomputable def jW (x0:(List ab)) (x1 x2:Int):Option ((S0×Unit)×Unit):=ai E w4 [.val (.slice 298 al) x0,aj x1,aj x2] []
noncomputable def qg (x0:(List ab)):Option ((S0×Unit)×Unit):=ai E s7 [.val (.slice 298 al) x0] []
noncomputable def xa (x0:S0):Option ((aI×Bool×Unit)×Unit):=ai E r5 [aQ x0] []
noncomputable def qh (x0:S0):Option ((S0×Bool×Unit)×Unit):=ai E Bc [aQ x0] []
noncomputable def gw (x0 x1:aA):Option ((Bool×Unit)×Unit):=ai E Bd [.val cK x0,.val cK x1] []
noncomputable def fH (x0:(List ac)):Option ((Bool×Unit)×Unit):=ai E uC [.val (.slice 112 ar) x0] []
noncomputable def kY (x0:aO) (x1:Int):Option ((Int×Unit)×Unit):=ai E ux [.val aY x0,aj x1] []
noncomputable def uM (x0:S0):Option ((Bool×Unit)×Unit):=ai E uE [aQ x0] []
noncomputable def tk (x0:aO):Option ((Bool×Unit)×Unit):=ai E pY [.val aY x0] []
noncomputable def kZ (x0:aO):Option (((Int×(List ag)×(List ah)×Unit)×Unit)×Unit):=ai E uB [.val aY x0] []
noncomputable def ik (x0:aO) (x1:S0):Option ((Int×Unit)×Unit):=ai E uA [.val aY x0,aQ x1] []
noncomputable def n3 (x0:aO) (x1:S0) (x2:Int):Option (((Int×(List ag)×(List ah)×Unit)×Int×Unit)×Unit):=ai E rY [.val aY x0,aQ x1,aj x2] []
noncomputable def mW (x0:(List Int)) (x1:Int):Option ((Bool×Unit)×Unit):=ai E wP [.val (.slice 2 (.int .i64)) x0,aj x1] []
noncomputable def lw (x0:aO) (x1:Int):Option (((List Int)×Unit)×Unit):=ai E kn [.val aY x0,aj x1] []
noncomputable def l8 (x0:Int) (x1:S0) (x2:Int) (x3:(List ag)) (x4:(List ah)):Option (((Int×(List ag)×(List ah)×Unit)×Unit)×Unit):=ai E uD [.strct [aj x0,.row 0,.row 1],aQ x1,aj x2] [(0,.row 59 an x3 false),(1,.row 57 au x4 false)]
noncomputable def CA (x0:aO) (x1 x2:Int):Option ((Int×Unit)×Unit):=ai E wN [.val aY x0,aj x1,aj x2] []
noncomputable def hZ (x0:aO) (x1:Int):Option (((List ac)×Unit)×Unit):=ai E yU [.val aY x0,aj x1] []
noncomputable def CB (x0 x1:(List ac)):Option (((List aV)×Unit)×Unit):=ai E wT [.val (.slice 112 ar) x0,.val (.slice 112 ar) x1] []
noncomputable def Kd (x0:(List ac)) (x1:aA):Option ((S0×Unit)×Unit):=ai E Cv [.val (.slice 112 ar) x0,.val cK x1] []
noncomputable def Bn (x0:(List ac)) (x1:aA) (x2:S0):Option (((List ac)×Unit)×Unit):=ai E zJ [.val (.slice 112 ar) x0,.val cK x1,aQ x2] []
noncomputable def CC (x0 x1 x2:(List ac)):Option (((List ac)×(List aA)×Bool×Unit)×Unit):=ai E wQ [.val (.slice 112 ar) x0,.val (.slice 112 ar) x1,.val (.slice 112 ar) x2] []
noncomputable def uN (x0:aO) (x1:S0) (x2:(List Int)) (x3:(List ac)):Option (((Int×(List ag)×(List ah)×Unit)×Int×Bool×Unit)×Unit):=ai E Bb [.val aY x0,aQ x1,.val (.slice 2 (.int .i64)) x2,.val (.slice 112 ar) x3] []
noncomputable def rs (x0:aO) (x1 x2:S0):Option (((Int×(List ag)×(List ah)×Unit)×(List aA)×Int×Unit)×Unit):=ai E yT [.val aY x0,aQ x1,aQ x2] []
noncomputable def tl (x0:aO) (x1:S0):Option ((Int×Unit)×Unit):=ai E DQ [.val aY x0,aQ x1] []
noncomputable def cZ (x0:aE):Option ((aA×Unit)×aE×Unit):=ai E yW [.ptr 0 aw []] [(0,.box aw (.val aw x0))]
noncomputable def tm (x0:(List ac)) (x1:aA) (x2:S0):Option (((List ac)×Bool×Unit)×Unit):=ai E F0 [.val (.slice 112 ar) x0,.val cK x1,aQ x2] []
noncomputable def oY (x0:(List ac)) (x1:Int) (x2:aE):Option (((List ac)×Unit)×aE×Unit):=ai E lZ [.ptr 0 aw [],.val (.slice 112 ar) x0,aj x1] [(0,.box aw (.val aw x2))]
noncomputable def il (x0:aO) (x1:S0) (x2:(List ac)):Option (((Int×(List ag)×(List ah)×Unit)×Int×Int×Unit)×Unit):=ai E wM [.val aY x0,aQ x1,.val (.slice 112 ar) x2] []
noncomputable def cb (x0:Int) (x1:aE):Option ((Bool×Unit)×aE×Unit):=ai E wS [.ptr 0 aw [],aj x0] [(0,.box aw (.val aw x1))]
noncomputable def uO (x0:aE):Option ((Int×Unit)×aE×Unit):=ai E p7 [.ptr 0 aw []] [(0,.box aw (.val aw x0))]
noncomputable def uP (x0 x1:Int) (x2:aE):Option ((Int×Unit)×aE×Unit):=ai E wV [.ptr 0 aw [],aj x0,aj x1] [(0,.box aw (.val aw x2))]
noncomputable def jt (x0 x1:Int) (x2:aE):Option ((Int×Unit)×aE×Unit):=ai E yV [.ptr 0 aw [],aj x0,aj x1] [(0,.box aw (.val aw x2))]
noncomputable def xb (x0:Int) (x1:(List Int)) (x2:Int):Option (((Int×(List ag)×(List ah)×Unit)×Unit)×aE×Unit):=ai E rZ [.ptr 0 aw [],aj x0] [(0,.box aw (.strct [.val (.slice 5 (.int .u8)) x1,aj x2]))]
noncomputable def bh (x0:Int) (x1:aE):Option ((S0×Unit)×aE×Unit):=ai E vM [.ptr 0 aw [],aj x0] [(0,.box aw (.val aw x1))]
noncomputable def l9 (x0:aE):Option ((rl×Unit)×aE×Unit):=ai E wY [.ptr 0 aw []] [(0,.box aw (.val aw x0))]
noncomputable def ko (x0:aE):Option ((S0×Unit)×aE×Unit):=ai E vL [.ptr 0 aw []] [(0,.box aw (.val aw x0))]
noncomputable def qi (x0:Int) (x1:aE):Option (((List ac)×Unit)×aE×Unit):=ai E ow [.ptr 0 aw [],aj x0] [(0,.box aw (.val aw x1))]
noncomputable def mX (x0:(List Int)):Option (((Int×(List ag)×(List ah)×Unit)×S0×(List ac)×Unit)×Unit):=ai E pW [.val (.slice 5 (.int .u8)) x0] []
noncomputable def dJ (x0 x1 x2:Int):Option ((Bool×Unit)×Unit):=ai E DM [aj x0,aj x1,aj x2] []
noncomputable def tn (x0:ag) (x1:Int):Option ((Bool×Unit)×Int×Unit):=ai E p4 [.val an x0,.ptr 0 (.int .i64) []] [(0,.box (.int .i64) (aj x1))]
noncomputable def dT (x0:(List ag)) (x1:Int):Option ((Int×Unit)×Int×Unit):=ai E e8 [.val (.slice 59 an) x0,.fn 131 [.ptr 0 (.int .i64) []]] [(0,.box (.int .i64) (aj x1))]
noncomputable def dQ (x0:aO) (x1:Int):Option ((Int×Unit)×Unit):=ai E s4 [.val aY x0,aj x1] []
noncomputable def oZ (x0:aO) (x1:(List Int)) (x2:Int):Option ((Bool×Unit)×Unit):=ai E pZ [.val aY x0,.val (.slice 2 (.int .i64)) x1,aj x2] []
noncomputable def qj (x0:aA):Option ((Bool×Unit)×Unit):=ai E F1 [.val cK x0] []
noncomputable def ma (x0:Int):Option ((Bool×Unit)×Unit):=ai E oJ [aj x0] []
noncomputable def gD (x0 x1:Int):Option ((Int×Unit)×Unit):=ai E mz [aj x0,aj x1] []
noncomputable def uQ (x0:(List Int)):Option ((Int×Unit)×Unit):=ai E p6 [.val (.slice 3 (.int .i64)) x0] []
noncomputable def qk (x0 x1:aA):Option ((Int×Unit)×Unit):=ai E s5 [.val cK x0,.val cK x1] []
noncomputable def to (x0:S0) (x1:Int):Option ((Bool×Unit)×Unit):=ai E wZ [aQ x0,aj x1] []
noncomputable def dK (x0 x1:S0):Option ((Bool×Unit)×Unit):=ai E j7 [aQ x0,aQ x1] []
noncomputable def lx (x0 x1:S0):Option ((S0×Bool×Unit)×Unit):=ai E j6 [aQ x0,aQ x1] []
noncomputable def cu (x0 x1:S0):Option ((S0×Bool×Unit)×Unit):=ai E mA [aQ x0,aQ x1] []
noncomputable def fI (x0 x1:S0):Option ((S0×Unit)×Unit):=ai E ge [aQ x0,aQ x1] []
noncomputable def fB (x0:S0) (x1:Bool) (x2:(List ab)):Option (Unit×(S0×(List ab)×Bool×Unit)×Unit):=ai E p9 [.ptr 0 be []] [(0,.box be (.strct [aQ x0,.row 1,cS x1])),(1,.row 298 al x2 false)]
noncomputable def dk (x0 x1:S0):Option ((Bool×Unit)×Unit):=ai E mB [aQ x0,aQ x1] []
noncomputable def mb (x0:S0) (x1:Bool) (x2:(List ab)):Option ((S0×Unit)×(S0×(List ab)×Bool×Unit)×Unit):=ai E mT [.ptr 0 be []] [(0,.box be (.strct [aQ x0,.row 1,cS x1])),(1,.row 298 al x2 false)]
noncomputable def bC (x0 x1:S0) (x2:Bool) (x3:(List ab)):Option ((Bool×Unit)×(S0×(List ab)×Bool×Unit)×Unit):=ai E tc [.ptr 0 be [],aQ x0] [(0,.box be (.strct [aQ x1,.row 1,cS x2])),(1,.row 298 al x3 false)]
noncomputable def iE (x0:Int) (x1:S0) (x2:Bool) (x3:(List ab)):Option ((Int×Unit)×(S0×(List ab)×Bool×Unit)×Unit):=ai E rn [.ptr 0 be [],aj x0] [(0,.box be (.strct [aQ x1,.row 1,cS x2])),(1,.row 298 al x3 false)]
noncomputable def aX (x0:ab) (x1:S0) (x2:Bool) (x3:(List ab)):Option ((Int×Unit)×(S0×(List ab)×Bool×Unit)×Unit):=ai E vO [.ptr 0 be [],.val al x0] [(0,.box be (.strct [aQ x1,.row 1,cS x2])),(1,.row 298 al x3 false)]
noncomputable def strings_Cut (x0 x1:S0):Option ((S0×S0×Bool×Unit)×Unit):=ai E kH [aQ x0,aQ x1] []
noncomputable def bN (x0:aI) (x1:S0) (x2:Bool) (x3:(List ab)):Option ((Int×Unit)×(S0×(List ab)×Bool×Unit)×Unit):=ai E nX [.ptr 0 be [],.val bw x0] [(0,.box be (.strct [aQ x1,.row 1,cS x2])),(1,.row 298 al x3 false)]
noncomputable def gN (x0:S0) (x1:Bool) (x2:(List ab)):Option ((Int×Unit)×(S0×(List ab)×Bool×Unit)×Unit):=ai E kX [.ptr 0 be []] [(0,.box be (.strct [aQ x0,.row 1,cS x1])),(1,.row 298 al x2 false)]
noncomputable def mc (x0:Int):Option ((S0×Unit)×Unit):=ai E w6 [aj x0] []
noncomputable def Bo (x0:Int):Option ((aI×Unit)×Unit):=ai E F4 [aj x0] []
noncomputable def gP (x0:S0) (x1:Bool) (x2:(List ab)):Option ((S0×Unit)×(S0×(List ab)×Bool×Unit)×Unit):=ai E tf [.ptr 0 be []] [(0,.box be (.strct [aQ x0,.row 1,cS x1])),(1,.row 298 al x2 false)]
noncomputable def fJ (x0:aI):Option ((Bool×Unit)×Unit):=ai E Bh [.val bw x0] []
noncomputable def oL (x0 x1:Int):Option ((S0×Unit)×Unit):=ai E fR [aj x0,aj x1] []
noncomputable def en (x0:Int):Option ((S0×Unit)×Unit):=ai E Be [aj x0] []
noncomputable def ey (x0:aI):Option ((S0×Unit)×Unit):=ai E w7 [.val bw x0] []
noncomputable def Bp (x0:Bool):Option ((aI×Unit)×Unit):=ai E F3 [cS x0] []
noncomputable def fK (x0:S0) (x1 x2:Int):Option ((Int×Bool×Unit)×Unit):=ai E gd [aQ x0,aj x1,aj x2] []
noncomputable def yi (x0:Int):Option ((aI×Unit)×Unit):=ai E DS [aj x0] []
noncomputable def im (x0:S0):Option ((aI×Bool×Unit)×Unit):=ai E p8 [aQ x0] []
noncomputable def mY (x0:Int):Option ((S0×Unit)×Unit):=ai E Bj [aj x0] []
noncomputable def zN (x0:S0):Option ((Int×Unit)×Unit):=ai E uI [aQ x0] []
noncomputable def io (x0:b9):Option ((S0×Unit)×Unit):=ai E wX [.val bB x0] []
noncomputable def fo (x0:S0):Option ((b9×Bool×Unit)×Unit):=ai E wU [aQ x0] []
noncomputable def yj (x0:Int):Option ((S0×Unit)×Unit):=ai E DY [aj x0] []
noncomputable def ip (x0:S0) (x1:Bool) (x2:(List ab)):Option (((Int×Int×aI×b9×b9×(List Int)×Unit)×Bool×Unit)×(S0×(List ab)×Bool×Unit)×Unit):=ai E nY [.ptr 0 be []] [(0,.box be (.strct [aQ x0,.row 1,cS x1])),(1,.row 298 al x2 false)]
noncomputable def bD (x0 x1:Int) (x2:S0) (x3:Bool) (x4:(List ab)):Option ((Int×Unit)×(S0×(List ab)×Bool×Unit)×Unit):=ai E ij [.ptr 0 be [],aj x0,aj x1] [(0,.box be (.strct [aQ x2,.row 1,cS x3])),(1,.row 298 al x4 false)]
noncomputable def fL (x0 x1:Int) (x2:S0) (x3:Bool) (x4:(List ab)):Option ((Int×Unit)×(S0×(List ab)×Bool×Unit)×Unit):=ai E jT [.ptr 0 be [],aj x0,aj x1] [(0,.box be (.strct [aQ x2,.row 1,cS x3])),(1,.row 298 al x4 false)]
noncomputable def md (x0:Int) (x1:S0) (x2:Bool) (x3:(List ab)):Option ((Int×Unit)×(S0×(List ab)×Bool×Unit)×Unit):=ai E jR [.ptr 0 be [],aj x0] [(0,.box be (.strct [aQ x1,.row 1,cS x2])),(1,.row 298 al x3 false)]
noncomputable def tq (x0:Int):Option ((S0×Unit)×Unit):=ai E DV [aj x0] []
noncomputable def xc (x0:Int):Option ((Int×Unit)×Unit):=ai E F5 [aj x0] []
noncomputable def r8 (x0:ab):Option ((rl×Unit)×Unit):=ai E vP [.val al x0] []
noncomputable def yk (x0:rl):Option ((Bool×Unit)×Unit):=ai E DZ [.val A8 x0] []
noncomputable def dp (x0:ab):Option ((Bool×Unit)×Unit):=ai E oK [.val al x0] []
noncomputable def dU (x0:ab):Option ((Bool×Unit)×Unit):=ai E rp [.val al x0] []
noncomputable def ql (x0:ab):Option ((Bool×Unit)×Unit):=ai E td [.val al x0] []
noncomputable def uR (x0:(List ab)) (x1 x2:Int):Option ((Int×Unit)×Unit):=ai E Cw [.val (.slice 298 al) x0,aj x1,aj x2] []
noncomputable def o0 (x0:(List ab)):Option ((Bool×Unit)×Unit):=ai E w5 [.val (.slice 298 al) x0] []
noncomputable def qm (x0:S0):Option (((List ab)×Bool×Unit)×Unit):=ai E s8 [aQ x0] []
noncomputable def strings_ReplaceAll (x0 x1 x2:S0):Option ((S0×Unit)×Unit):=ai E fm [aQ x0,aQ x1,aQ x2] []
noncomputable def eK (x0:(List ab)) (x1 x2:Int):Option ((S0×Unit)×Unit):=ai E mU [.val (.slice 298 al) x0,aj x1,aj x2] []
noncomputable def strings_Join (x0:(List S0)) (x1:S0):Option ((S0×Unit)×Unit):=ai E jS [.val (.slice 9 .str) x0,aQ x1] []
noncomputable def qn (x0:(List ab)):Option ((S0×Unit)×Unit):=ai E s9 [.val (.slice 298 al) x0] []
noncomputable def D0 (x0:(List ab)):Option ((S0×Bool×Unit)×Unit):=ai E yY [.val (.slice 298 al) x0] []
noncomputable def kp (x0 x1:S0):Option ((S0×Unit)×Unit):=ai E js [aQ x0,aQ x1] []
noncomputable def ju (x0 x1:S0):Option ((S0×Unit)×Unit):=ai E l6 [aQ x0,aQ x1] []
noncomputable def jv (x0 x1:S0):Option ((S0×Unit)×Unit):=ai E jQ [aQ x0,aQ x1] []
noncomputable def xe (x0:S0):Option ((Bool×Unit)×Unit):=ai E yZ [aQ x0] []
noncomputable def uS (x0:S0):Option ((S0×Bool×Unit)×Unit):=ai E Bg [aQ x0] []
noncomputable def rt (x0:S0):Option ((Bool×Unit)×Unit):=ai E yX [aQ x0] []
noncomputable def qo (x0:(List ac)):Option ((Bool×Unit)×Unit):=ai E uz [.val (.slice 112 ar) x0] []
noncomputable def CD (x0:S0):Option ((Bool×Unit)×Unit):=ai E DN [aQ x0] []
noncomputable def n4 (x0:aO):Option ((Bool×Unit)×Unit):=ai E uw [.val aY x0] []
noncomputable def i6 (x0:(List ah)):Option (((List ah)×Unit)×Unit):=ai E gL [.val (.slice 57 au) x0] []
noncomputable def iq (x0:(List ag)):Option (((List ag)×Unit)×Unit):=ai E gu [.val (.slice 59 an) x0] []
noncomputable def fa (x0:(List Int)):Option (((List Int)×Unit)×Unit):=ai E ek [.val (.slice 2 (.int .i64)) x0] []
noncomputable def fh (x0:(List ac)):Option (((List ac)×Unit)×Unit):=ai E du [.val (.slice 112 ar) x0] []
noncomputable def zO (x0:aO):Option (((Int×(List ag)×(List ah)×Unit)×Unit)×Unit):=ai E uy [.val aY x0] []
noncomputable def vQ (x0:ah) (x1:S0):Option ((Bool×Unit)×S0×Unit):=ai E rm [.val au x0,.ptr 0 .str []] [(0,.box .str (aQ x1))]
noncomputable def eu (x0:(List ah)) (x1:S0):Option ((Int×Unit)×S0×Unit):=ai E fk [.val (.slice 57 au) x0,.fn 149 [.ptr 0 .str []]] [(0,.box .str (aQ x1))]
noncomputable def kq (x0:aO) (x1:S0):Option ((Int×Unit)×Unit):=ai E vI [.val aY x0,aQ x1] []
noncomputable def r9 (x0:aO):Option ((Bool×Unit)×Unit):=ai E vJ [.val aY x0] []
noncomputable def sc (x0:Int) (x1:(List Int)) (x2:(List ac)) (x3:Int) (x4:(List ag)) (x5:(List ah)):Option ((Int×Unit)×(Int×(List ag)×(List ah)×Unit)×Unit):=ai E vK [.ptr 0 aY [],aj x0,.val (.slice 2 (.int .i64)) x1,.val (.slice 112 ar) x2] [(0,.box aY (.strct [aj x3,.row 1,.row 2])),(1,.row 59 an x4 false),(2,.row 57 au x5 false)]
noncomputable def uT (x0:aO) (x1:S0) (x2:(List ac)):Option (((Int×(List ag)×(List ah)×Unit)×Int×Int×Unit)×Unit):=ai E wL [.val aY x0,aQ x1,.val (.slice 112 ar) x2] []
noncomputable def bL (x0:S0) (x1:Unit) (x2:(List Int)):Option ((Int×Bool×Unit)×(Unit×(List Int)×Unit)×Unit):=ai E dY [.ptr 0 bc [],aQ x0] [(0,.box bc (.strct [.val (.bp 185) x1,.row 1])),(1,.row 5 (.int .u8) x2 false)]
noncomputable def zP (x0:aA):Option ((S0×Unit)×Unit):=ai E Bf [.val cK x0] []
noncomputable def gx (x0:Unit) (x1:(List Int)):Option ((S0×Unit)×(Unit×(List Int)×Unit)×Unit):=ai E fF [.ptr 0 bc []] [(0,.box bc (.strct [.val (.bp 185) x0,.row 1])),(1,.row 5 (.int .u8) x1 false)]
noncomputable def zQ (x0:aO):Option ((S0×Unit)×Unit):=ai E jP [.val aY x0] []
noncomputable def uU (x0:aO):Option ((S0×Unit)×Unit):=ai E A9 [.val aY x0] []
noncomputable def uV (x0:aO) (x1:Int):Option (((List ac)×Unit)×Unit):=ai E wO [.val aY x0,aj x1] []
noncomputable def uW (x0:aO) (x1:Int):Option (((List ac)×Bool×Unit)×Unit):=ai E Ba [.val aY x0,aj x1] []
noncomputable def o4 (x0 x1:(List ac)):Option ((Bool×Unit)×Unit):=ai E pX [.val (.slice 112 ar) x0,.val (.slice 112 ar) x1] []
noncomputable def pw (x0:aO) (x1:S0):Option ((Int×Unit)×Unit):=ai E DK [.val aY x0,aQ x1] []
noncomputable def iG (x0:(List Int)) (x1:Int):Option ((Int×Unit)×Unit):=ai E em [.val (.slice 2 (.int .i64)) x0,aj x1] []
noncomputable def dZ (x0:(List Int)) (x1:Int):Option ((Bool×Unit)×Unit):=ai E fU [.val (.slice 2 (.int .i64)) x0,aj x1] []
noncomputable def eL (x0:(List Int)):Option (Unit×(List Int)×Unit):=ai E eJ [.row 0] [(0,.row 2 (.int .i64) x0 false)]
noncomputable def uX (x0:aO) (x1:Int):Option (((List Int)×Unit)×Unit):=ai E lY [.val aY x0,aj x1] []
noncomputable def xf (x0:aO) (x1:Int):Option (((List Int)×Unit)×Unit):=ai E FZ [.val aY x0,aj x1] []
noncomputable def CE (x0:(List Int)) (x1:Int):Option ((Bool×Unit)×Unit):=ai E wK [.val (.slice 2 (.int .i64)) x0,aj x1] []
noncomputable def xg (x0:(List Int)):Option ((Bool×Unit)×Unit):=ai E gK [.val (.slice 5 (.int .u8)) x0] []
noncomputable def Ke:Code:=aR Tryz.f190
def unU (n:Nat):List SV:=List.replicate n .undef
noncomputable def ny (x0:S0) (x1:Int):Option ((Bool×Unit)×Unit):=bI E uH [] Ke 208 {slots:=[aQ x0,aa,aa,aj x1]++unU 19,res:=[],nx:=0,n0:=0}
noncomputable def CF:Code:=aR Tryz.f247
noncomputable def ja (x0:S0) (x1:Int) (x2:Bool) (x3:(List ab)):Option (Unit×(S0×Int×Bool×(List ab)×Unit)×Unit):=bI E mS [(0,.box aW (aa)),(1,.row 298 al [] false)] CF 16 {slots:=[.ptr 0 aW []]++unU 30,res:=[(0,.box aW (.strct [aQ x0,aj x1,cS x2,.row 1])),(1,.row 298 al x3 false)],nx:=2,n0:=2}
noncomputable def HX:Code:=aR Tryz.f246
noncomputable def cL (x0 x1:Int) (x2:S0) (x3:Int) (x4:Bool) (x5:(List ab)):Option ((Int×Unit)×(S0×Int×Bool×(List ab)×Unit)×Unit):=bI E r6 [(0,.box aW (aa)),(1,.row 298 al [] false)] HX 992 {slots:=[.ptr 0 aW [],aj x0,aa,aa,aa,aj x1]++unU 37,res:=[(0,.box aW (.strct [aQ x2,aj x3,cS x4,.row 2])),(2,.row 298 al x5 false)],nx:=3,n0:=2}
noncomputable def F6:Code:=aR Tryz.f333
noncomputable def iH (x0 x1:S0) (x2:Int) (x3:Bool) (x4:(List ab)):Option ((Int×Unit)×(S0×Int×Bool×(List ab)×Unit)×Unit):=bI E qa [(0,.box aW (aa)),(1,.row 298 al [] false)] F6 224 {slots:=[.ptr 0 aW [],aa,aa,aQ x0]++unU 89,res:=[(0,.box aW (.strct [aQ x1,aj x2,cS x3,.row 1])),(1,.row 298 al x4 false)],nx:=2,n0:=2}
noncomputable def F7:Code:=aR Tryz.f335
noncomputable def db (x0:Int) (x1:S0) (x2:Int) (x3:Bool) (x4:(List ab)):Option ((S0×Unit)×(S0×Int×Bool×(List ab)×Unit)×Unit):=bI E qb [(0,.box aW (aa)),(1,.row 298 al [] false)] F7 224 {slots:=[.ptr 0 aW [],aa,aa,aj x0]++unU 91,res:=[(0,.box aW (.strct [aQ x1,aj x2,cS x3,.row 1])),(1,.row 298 al x4 false)],nx:=2,n0:=2}
noncomputable def Kf:Code:=aR Tryz.f167
noncomputable def sd (x0:Int) (x1:S0):Option ((S0×Unit)×Unit):=bI E uF [] Kf 480 {slots:=[aj x0,aa,aa,aQ x1]++unU 18,res:=[],nx:=0,n0:=0}
noncomputable def Kg:Code:=aR Tryz.f181
noncomputable def se (x0:S0) (x1:Int):Option ((Int×Unit)×Unit):=bI E uG [] Kg 208 {slots:=[aQ x0,aa,aa,aj x1]++unU 9,res:=[],nx:=0,n0:=0}
noncomputable def Oi:Code:=aR Tryz.f123
noncomputable def ly (x0:S0) (x1 x2:Int):Option ((Int×Bool×Unit)×Unit):=bI E zI [] Oi 976 {slots:=[aQ x0,aa,aa,aa,aa,aa,aj x1,aj x2]++unU 44,res:=[],nx:=0,n0:=0}
noncomputable def F8:Code:=aR Tryz.f124
noncomputable def fZ (x0:S0) (x1 x2 x3:Int) (x4 x5:Bool) (x6 x7:Int) (x8 x9:Bool):Option ((b9×Bool×Unit)×Unit):=bI E p3 [] F8 992 {slots:=[aQ x0,aa,.ptr 0 bB [],aa,.ptr 1 bB [],aj x1]++unU 70,res:=[(0,.box bB (.strct [.strct [aj x2,aj x3],cS x4,cS x5])),(1,.box bB (.strct [.strct [aj x6,aj x7],cS x8,cS x9]))],nx:=2,n0:=0}
noncomputable def xh:Code:=aR Tryz.f336
noncomputable def ox (x0:Int) (x1:S0) (x2:Int) (x3:Bool) (x4:(List ab)) (x5:(List Int)):Option ((Int×Unit)×(S0×Int×Bool×(List ab)×Unit)×Unit):=bI E l7 [(0,.box aW (aa)),(1,.row 298 al [] false)] xh 224 {slots:=[.ptr 0 aW [],aj x0,aa,aa,aa,.row 2]++unU 24,res:=[(0,.box aW (.strct [aQ x1,aj x2,cS x3,.row 1])),(1,.row 298 al x4 false),(2,.row 2 (.int .i64) x5 false)],nx:=3,n0:=2}
noncomputable def xi:Code:=aR Tryz.f195
noncomputable def aJ (x0 x1:Int) (x2:S0) (x3 x4:Int) (x5:S0):Option ((aI×Bool×Unit)×Unit):=bI E l4 [] xi 60 {slots:=[aa,aa,.ptr 0 bw [],aa,.ptr 1 bw []]++unU 71,res:=[(0,.box bw (.strct [aj x0,aj x1,aQ x2])),(1,.box bw (.strct [aj x3,aj x4,aQ x5]))],nx:=2,n0:=0}
noncomputable def dL (x0:S0) (x1 x2 x3:Int) (x4:S0) (x5 x6:Int) (x7:S0):Option ((aI×Bool×Unit)×Unit):=bI E l4 [] xi 475056 {slots:=[aQ x0,aa,.ptr 0 bw [],aa,.ptr 1 bw [],aj x1]++unU 70,res:=[(0,.box bw (.strct [aj x2,aj x3,aQ x4])),(1,.box bw (.strct [aj x5,aj x6,aQ x7]))],nx:=2,n0:=0}
noncomputable def ze:Code:=aR Tryz.f289
noncomputable def f0 (x0:Int) (x1:S0) (x2:Int) (x3:Bool) (x4:(List ab)):Option ((Int×Unit)×(S0×Int×Bool×(List ab)×Unit)×Unit):=bI E nw [(0,.box aW (aa)),(1,.row 298 al [] false)] ze 212880 {slots:=[.ptr 0 aW [],aa,aa,aa,aa,aj x0]++unU 140,res:=[(0,.box aW (.strct [aQ x1,aj x2,cS x3,.row 2])),(2,.row 298 al x4 false)],nx:=3,n0:=2}
noncomputable def dV (x0:S0) (x1:Int) (x2:S0) (x3:Int) (x4:Bool) (x5:(List ab)):Option ((Int×Unit)×(S0×Int×Bool×(List ab)×Unit)×Unit):=bI E nw [(0,.box aW (aa)),(1,.row 298 al [] false)] ze 976 {slots:=[.ptr 0 aW [],aa,aa,aa,aa,aa,aa,aQ x0,aj x1]++unU 137,res:=[(0,.box aW (.strct [aQ x2,aj x3,cS x4,.row 2])),(2,.row 298 al x5 false)],nx:=3,n0:=2}
noncomputable def Bq:Code:=aR Tryz.f290
noncomputable def nD (x0 x1:Int) (x2:S0) (x3:Int) (x4:Bool) (x5:(List ab)) (x6:(List Int)):Option ((Int×Unit)×(S0×Int×Bool×(List ab)×Unit)×Unit):=bI E oU [(0,.box aW (aa)),(1,.row 298 al [] false)] Bq 464 {slots:=[.ptr 0 aW [],aj x0,aa,aa,aa,.row 2,aj x1]++unU 27,res:=[(0,.box aW (.strct [aQ x2,aj x3,cS x4,.row 1])),(1,.row 298 al x5 false),(2,.row 2 (.int .i64) x6 false)],nx:=3,n0:=2}
noncomputable def Mf:Code:=aR Tryz.f293
noncomputable def o5 (x0:(List ab)) (x1 x2 x3:Int):Option ((Int×Unit)×Unit):=bI E w8 [] Mf 464 {slots:=[.val (.slice 298 al) x0,aj x1,aa,aa,aa,aj x2,aj x3]++unU 37,res:=[],nx:=0,n0:=0}
noncomputable def Mg:Code:=aR Tryz.f294
noncomputable def o6 (x0:(List ab)) (x1 x2 x3:Int):Option ((Int×Unit)×Unit):=bI E w9 [] Mg 464 {slots:=[.val (.slice 298 al) x0,aj x1,aa,aa,aa,aj x2,aj x3]++unU 24,res:=[],nx:=0,n0:=0}
noncomputable def xj:Code:=aR Tryz.f248
noncomputable def dD (x0:(List ab)) (x1:Int):Option ((Bool×Unit)×Unit):=bI E l5 [] xj 464 {slots:=[.val (.slice 298 al) x0,aa,aa,aj x1]++unU 83,res:=[],nx:=0,n0:=0}
noncomputable def Kh:Code:=aR Tryz.f295
noncomputable def kt (x0 x1:S0) (x2:Int):Option ((S0×Unit)×Unit):=bI E uJ [] Kh 464 {slots:=[aQ x0,aa,aa,aQ x1,aj x2]++unU 21,res:=[],nx:=0,n0:=0}
noncomputable def Oj:Code:=aR Tryz.f101
noncomputable def n7 (x0:Int) (x1:S0):Option ((S0×Unit)×Unit):=bI E zH [] Oj 480 {slots:=[aj x0,aa,aa,aQ x1]++unU 25,res:=[],nx:=0,n0:=0}
noncomputable def Mh:Code:=aR Tryz.f249
noncomputable def ku (x0:(List ab)) (x1:S0) (x2 x3 x4:Int) (x5:aI) (x6 x7:b9) (x8:(List Int)):Option ((S0×Unit)×Unit):=bI E w4 [] Mh 2000 {slots:=[.val (.slice 298 al) x0,aa,aa,aa,aa,aa,aa,.ptr 0 al [],aa,aa,aQ x1,aj x2]++unU 101,res:=[(0,.box al (.strct [aj x3,aj x4,.val bw x5,.val bB x6,.val bB x7,.val (.slice 2 (.int .i64)) x8]))],nx:=1,n0:=0}
noncomputable def HY:Code:=aR Tryz.f193
noncomputable def gQ (x0:S0) (x1:Bool) (x2 x3:Int) (x4:S0):Option ((aI×Bool×Unit)×Unit):=bI E r5 [] HY 992 {slots:=[aQ x0,aa,.ptr 0 bw [],aa,cS x1]++unU 43,res:=[(0,.box bw (.strct [aj x2,aj x3,aQ x4]))],nx:=1,n0:=0}
noncomputable def Ki:Code:=aR Tryz.f85
noncomputable def kv (x0:(List ac)) (x1:Int):Option ((Bool×Unit)×Unit):=bI E uC [] Ki 464 {slots:=[.val (.slice 112 ar) x0,aa,aa,aj x1]++unU 67,res:=[],nx:=0,n0:=0}
noncomputable def Kj:Code:=aR Tryz.f62
noncomputable def nE (x0 x1 x2:Int) (x3:(List ag)) (x4:(List ah)):Option ((Int×Unit)×Unit):=bI E ux [] Kj 208 {slots:=[aa,aj x0,.ptr 0 aY [],aa,aa,aj x1]++unU 16,res:=[(0,.box aY (.strct [aj x2,.val (.slice 59 an) x3,.val (.slice 57 au) x4]))],nx:=1,n0:=0}
noncomputable def Kk:Code:=aR Tryz.f109
noncomputable def nG (x0:S0) (x1:Int):Option ((Bool×Unit)×Unit):=bI E uE [] Kk 464 {slots:=[aQ x0,aa,aa,aj x1]++unU 24,res:=[],nx:=0,n0:=0}
noncomputable def zR:Code:=aR Tryz.f61
noncomputable def ft (x0 x1:Int) (x2:(List ag)) (x3:(List ah)):Option ((Bool×Unit)×Unit):=bI E pY [] zR 464 {slots:=[aa,.ptr 0 aY [],aa,aj x0]++unU 161,res:=[(0,.box aY (.strct [aj x1,.val (.slice 59 an) x2,.val (.slice 57 au) x3]))],nx:=1,n0:=0}
noncomputable def Kl:Code:=aR Tryz.f84
noncomputable def nH (x0 x1:Int) (x2:(List ag)) (x3:(List ah)) (x4 x5:Int) (x6:(List ag)) (x7:(List ah)) (x8:(List ag)) (x9:(List ah)):Option (((Int×(List ag)×(List ah)×Unit)×Unit)×Unit):=bI E uB [] Kl 464 {slots:=[aa,.ptr 0 aY [],.ptr 1 aY [],.ptr 2 aY [],aj x0]++unU 37,res:=[(0,.box aY (.strct [aj x1,.val (.slice 59 an) x2,.val (.slice 57 au) x3])),(1,.box aY (.strct [aj x4,.row 3,.row 4])),(2,.box aY (.strct [aj x5,.row 5,.row 6])),(3,.row 59 an x6 false),(4,.row 57 au x7 false),(5,.row 59 an x8 false),(6,.row 57 au x9 false)],nx:=7,n0:=0}
noncomputable def Km:Code:=aR Tryz.f83
noncomputable def nI (x0:S0) (x1 x2:Int) (x3:(List ag)) (x4:(List ah)):Option ((Int×Unit)×Unit):=bI E uA [] Km 208 {slots:=[aa,aQ x0,.ptr 0 aY [],aa,aa,aj x1]++unU 21,res:=[(0,.box aY (.strct [aj x2,.val (.slice 59 an) x3,.val (.slice 57 au) x4]))],nx:=1,n0:=0}
noncomputable def HZ:Code:=aR Tryz.f50
noncomputable def dW (x0:S0) (x1:Int) (x2:Bool) (x3 x4:Int) (x5:(List ag)) (x6:(List ah)) (x7 x8:Int) (x9:(List ah)) (x10:(List ag)) (x11:(List ah)) (x12:(List ag)) (x13:(List ah)):Option (((Int×(List ag)×(List ah)×Unit)×Int×Unit)×Unit):=bI E rY [] HZ 8144 {slots:=[aa,aQ x0,aj x1,.ptr 0 aY [],aa,aa,.ptr 1 aY [],aa,.ptr 2 aY [],.row 3,cS x2,aj x3]++unU 74,res:=[(0,.box aY (.strct [aj x4,.val (.slice 59 an) x5,.val (.slice 57 au) x6])),(1,.box aY (.strct [aj x7,.row 4,.row 5])),(2,.box aY (.strct [aj x8,.row 6,.row 7])),(3,.row 57 au x9 false),(4,.row 59 an x10 false),(5,.row 57 au x11 false),(6,.row 59 an x12 false),(7,.row 57 au x13 false)],nx:=8,n0:=0}
noncomputable def Mi:Code:=aR Tryz.f97
noncomputable def o7 (x0:(List Int)) (x1 x2:Int):Option ((Bool×Unit)×Unit):=bI E wP [] Mi 208 {slots:=[.val (.slice 2 (.int .i64)) x0,aj x1,aa,aa,aa,aj x2]++unU 12,res:=[],nx:=0,n0:=0}
noncomputable def sf:Code:=aR Tryz.f74
noncomputable def jw (x0 x1:Int) (x2:(List ag)) (x3:(List ah)) (x4:(List Int)):Option (((List Int)×Unit)×Unit):=bI E kn [] sf 464 {slots:=[aa,aa,.ptr 0 aY [],aa,aa,.row 1,aj x0]++unU 71,res:=[(0,.box aY (.strct [aj x1,.val (.slice 59 an) x2,.val (.slice 57 au) x3])),(1,.row 2 (.int .i64) x4 false)],nx:=2,n0:=0}
noncomputable def Kn:Code:=aR Tryz.f98
noncomputable def gh (x0:S0) (x1 x2:Int) (x3:(List ag)) (x4:(List ah)) (x5 x6:Int) (x7:(List ag)) (x8:(List ah)):Option (((Int×(List ag)×(List ah)×Unit)×Unit)×Unit):=bI E uD [(0,.row 59 an [] false),(1,.row 57 au [] false)] Kn 208 {slots:=[aa,aQ x0,aj x1,.ptr 2 aY [],aa,aa,.ptr 3 aY [],aj x2]++unU 22,res:=[(0,.row 59 an x3 false),(1,.row 57 au x4 false),(2,.box aY (.strct [aj x5,.row 0,.row 1])),(3,.box aY (.strct [aj x6,.row 4,.row 5])),(4,.row 59 an x7 false),(5,.row 57 au x8 false)],nx:=6,n0:=2}
noncomputable def Mj:Code:=aR Tryz.f63
noncomputable def me (x0 x1:Int) (x2 x3:(List Int)):Option ((Int×Unit)×Unit):=bI E wN [] Mj 2000 {slots:=[aa,aa,aa,aa,aa,aa,aa,.row 0,.row 1,aj x0,aj x1]++unU 23,res:=[(0,.row 2 (.int .i64) x2 false),(1,.row 2 (.int .i64) x3 false)],nx:=2,n0:=0}
noncomputable def Mk:Code:=aR Tryz.f164
noncomputable def aZ (x0 x1:(List ac)) (x2 x3:Int) (x4:(List aV)):Option (((List aV)×Unit)×Unit):=bI E wT [] Mk 2016 {slots:=[.val (.slice 112 ar) x0,.val (.slice 112 ar) x1,aa,aa,aa,.row 0,aj x2,aj x3]++unU 120,res:=[(0,.row 198 fA x4 false)],nx:=1,n0:=0}
noncomputable def PD:Code:=aR Tryz.f165
noncomputable def uY (x0:(List ac)) (x1 x2 x3:Int):Option ((S0×Unit)×Unit):=bI E Cv [] PD 208 {slots:=[.val (.slice 112 ar) x0,aa,aa,.ptr 0 cK [],aa,aj x1]++unU 18,res:=[(0,.box cK (.strct [aj x2,aj x3]))],nx:=1,n0:=0}
noncomputable def Ol:Code:=aR Tryz.f166
noncomputable def fu (x0:(List ac)) (x1:S0) (x2:Bool) (x3 x4 x5:Int) (x6:(List ac)):Option (((List ac)×Unit)×Unit):=bI E zJ [] Ol 976 {slots:=[.val (.slice 112 ar) x0,aa,aQ x1,aa,.ptr 0 cK [],aa,aa,.row 1,cS x2,aj x3]++unU 50,res:=[(0,.box cK (.strct [aj x4,aj x5])),(1,.row 112 ar x6 false)],nx:=2,n0:=0}
noncomputable def Ml:Code:=aR Tryz.f99
noncomputable def jX (x0:(List ac)) (x1:Int) (x2:(List ac)) (x3:(List aA)) (x4:(List aV)):Option (((List ac)×(List aA)×Bool×Unit)×Unit):=bI E wQ [] Ml 4048 {slots:=[aa,.val (.slice 112 ar) x0,aa,aa,aa,aa,aa,aa,aa,.row 0,.row 1,.row 2,aj x1]++unU 78,res:=[(0,.row 112 ar x2 false),(1,.row 110 cK x3 false),(2,.row 198 fA x4 false)],nx:=3,n0:=0}
noncomputable def xk:Code:=aR Tryz.f136
noncomputable def kJ (x0:(List ac)) (x1:Int) (x2:aE):Option (((List ac)×Unit)×aE×Unit):=bI E lZ [(0,.box aw (aa))] xk 208 {slots:=[.ptr 0 aw [],.val (.slice 112 ar) x0,aa,aa,aa,aa,aa,aj x1]++unU 25,res:=[(0,.box aw (.val aw x2))],nx:=1,n0:=1}
noncomputable def F9:Code:=aR Tryz.f226
noncomputable def kK (x0 x1:Int) (x2:aE):Option ((Int×Unit)×aE×Unit):=bI E p7 [(0,.box aw (aa))] F9 464 {slots:=[.ptr 0 aw [],aa,aa,.val (.int .u64) x0,aj x1]++unU 11,res:=[(0,.box aw (.val aw x2))],nx:=1,n0:=1}
noncomputable def H0:Code:=aR Tryz.f71
noncomputable def fM (x0:Int) (x1:aE) (x2 x3:Int) (x4:(List ag)) (x5:(List ah)) (x6:(List ag)) (x7:(List ah)):Option (((Int×(List ag)×(List ah)×Unit)×Unit)×aE×Unit):=bI E rZ [(0,.box aw (aa))] H0 464 {slots:=[.ptr 0 aw [],aa,aa,aa,.ptr 1 aY [],.ptr 2 aY [],aj x0]++unU 104,res:=[(0,.box aw (.val aw x1)),(1,.box aY (.strct [aj x2,.row 3,.row 4])),(2,.box aY (.strct [aj x3,.row 5,.row 6])),(3,.row 59 an x4 false),(4,.row 57 au x5 false),(5,.row 59 an x6 false),(6,.row 57 au x7 false)],nx:=7,n0:=1}
noncomputable def EH:Code:=aR Tryz.f77
noncomputable def gi (x0:Int) (x1:aE) (x2:(List ac)):Option (((List ac)×Unit)×aE×Unit):=bI E ow [(0,.box aw (aa))] EH 464 {slots:=[.ptr 0 aw [],aa,aa,aa,aa,.row 1,aj x0]++unU 33,res:=[(0,.box aw (.val aw x1)),(1,.row 112 ar x2 false)],nx:=2,n0:=1}
noncomputable def oy:Code:=aR Tryz.f130
noncomputable def bE (x0:(List ag)) (x1 x2 x3:Int):Option ((Int×Unit)×Int×Unit):=bI E e8 [(0,.box (.int .i64) (aa))] oy 104 {slots:=[.val (.slice 59 an) x0,.fn 131 [.ptr 0 (.int .i64) []],aa,aa,aa,aa,aa,aj x1,aj x2]++unU 10,res:=[(0,.box (.int .i64) (aj x3))],nx:=1,n0:=1}
noncomputable def Ga:Code:=aR Tryz.f90
noncomputable def dE (x0:(List Int)) (x1:Int) (x2:(List Int)) (x3 x4 x5:Int) (x6:(List ag)) (x7:(List ah)):Option ((Bool×Unit)×Unit):=bI E pZ [] Ga 104 {slots:=[aa,.val (.slice 2 (.int .i64)) x0,aj x1,.ptr 0 aY [],aa,aa,aa,aa,aa,.val (.slice 2 (.int .i64)) x2,aj x3,aj x4]++unU 30,res:=[(0,.box aY (.strct [aj x5,.val (.slice 59 an) x6,.val (.slice 57 au) x7]))],nx:=1,n0:=0}
noncomputable def Gb:Code:=aR Tryz.f187
noncomputable def kL (x0:Int) (x1:(List Int)) (x2 x3:Int):Option ((Int×Unit)×Unit):=bI E p6 [] Gb 232 {slots:=[aa,aa,aa,aj x0,aa,aa,.val (.slice 3 (.int .i64)) x1,aj x2,aj x3]++unU 9,res:=[],nx:=0,n0:=0}
noncomputable def Mm:Code:=aR Tryz.f239
noncomputable def o8 (x0:S0) (x1 x2 x3:Int):Option ((Bool×Unit)×Unit):=bI E wZ [] Mm 104 {slots:=[aQ x0,aj x1,aa,aa,aa,aa,aa,aj x2,aj x3]++unU 17,res:=[],nx:=0,n0:=0}
noncomputable def CG:Code:=aR Tryz.f324
noncomputable def jb (x0 x1:Int) (x2:S0) (x3:Bool) (x4:(List S0)) (x5:(List ab)):Option ((S0×Unit)×(S0×(List ab)×Bool×Unit)×Unit):=bI E mT [(0,.box be (aa)),(1,.row 298 al [] false)] CG 232 {slots:=[.ptr 0 be [],aa,aa,aa,aa,aa,aa,.row 2,aj x0,aj x1]++unU 11,res:=[(0,.box be (.strct [aQ x2,.row 3,cS x3])),(2,.row 9 .str x4 false),(3,.row 298 al x5 false)],nx:=4,n0:=2}
noncomputable def zS:Code:=aR Tryz.f358
noncomputable def gE (x0 x1 x2:S0) (x3:Bool) (x4:(List ab)):Option ((Int×Unit)×(S0×(List ab)×Bool×Unit)×Unit):=bI E kX [(0,.box be (aa)),(1,.row 298 al [] false)] zS 224 {slots:=[.ptr 0 be [],aa,aa,aQ x0,aQ x1]++unU 38,res:=[(0,.box be (.strct [aQ x2,.row 1,cS x3])),(1,.row 298 al x4 false)],nx:=2,n0:=2}
noncomputable def Gc:Code:=aR Tryz.f245
noncomputable def fb (x0:S0) (x1 x2 x3:Int) (x4:S0) (x5 x6:Int) (x7:S0):Option ((aI×Bool×Unit)×Unit):=bI E p8 [] Gc 120784 {slots:=[aQ x0,aa,.ptr 0 bw [],aa,.ptr 1 bw [],aa,aa,aj x1]++unU 56,res:=[(0,.box bw (.strct [aj x2,aj x3,aQ x4])),(1,.box bw (.strct [aj x5,aj x6,aQ x7]))],nx:=2,n0:=0}
noncomputable def Ko:Code:=aR Tryz.f225
noncomputable def si (x0:S0) (x1:Int):Option ((Int×Unit)×Unit):=bI E uI [] Ko 208 {slots:=[aQ x0,aa,aa,aj x1]++unU 9,res:=[],nx:=0,n0:=0}
noncomputable def qp:Code:=aR Tryz.f279
noncomputable def dS (x0 x1 x2:Int) (x3:S0) (x4:Bool) (x5:(List ab)):Option ((Int×Unit)×(S0×(List ab)×Bool×Unit)×Unit):=bI E ij [(0,.box be (aa)),(1,.row 298 al [] false)] qp 224 {slots:=[.ptr 0 be [],aj x0,aj x1,aa,aa,aa,aa,aj x2]++unU 47,res:=[(0,.box be (.strct [aQ x3,.row 2,cS x4])),(2,.row 298 al x5 false)],nx:=3,n0:=2}
noncomputable def tr:Code:=aR Tryz.f361
noncomputable def ru (x0 x1:Int) (x2:S0) (x3:Bool) (x4:(List ab)) (x5:(List Int)):Option ((Int×Unit)×(S0×(List ab)×Bool×Unit)×Unit):=bI E jT [(0,.box be (aa)),(1,.row 298 al [] false)] tr 480 {slots:=[.ptr 0 be [],aj x0,aj x1,aa,aa,aa,aa,.row 2]++unU 59,res:=[(0,.box be (.strct [aQ x2,.row 1,cS x3])),(1,.row 298 al x4 false),(2,.row 2 (.int .i64) x5 false)],nx:=3,n0:=2}
noncomputable def cg (x0 x1:Int) (x2:S0) (x3:Bool) (x4:(List Int)) (x5:(List ab)):Option ((Int×Unit)×(S0×(List ab)×Bool×Unit)×Unit):=bI E jT [(0,.box be (aa)),(1,.row 298 al [] false)] tr 480 {slots:=[.ptr 0 be [],aj x0,aj x1,aa,aa,aa,aa,.row 2]++unU 59,res:=[(0,.box be (.strct [aQ x2,.row 3,cS x3])),(2,.row 2 (.int .i64) x4 false),(3,.row 298 al x5 false)],nx:=4,n0:=2}
noncomputable def tt:Code:=aR Tryz.f349
noncomputable def cR (x0 x1:Int) (x2:S0) (x3:Bool) (x4:(List ab)):Option ((Int×Unit)×(S0×(List ab)×Bool×Unit)×Unit):=bI E jR [(0,.box be (aa)),(1,.row 298 al [] false)] tt 14800 {slots:=[.ptr 0 be [],aj x0,aa,aa,aa,aj x1]++unU 114,res:=[(0,.box be (.strct [aQ x2,.row 2,cS x3])),(2,.row 298 al x4 false)],nx:=3,n0:=2}
noncomputable def c7 (x0:Int) (x1:S0) (x2:Int) (x3:S0) (x4:Bool) (x5:(List ab)):Option ((Int×Unit)×(S0×(List ab)×Bool×Unit)×Unit):=bI E jR [(0,.box be (aa)),(1,.row 298 al [] false)] tt 8144 {slots:=[.ptr 0 be [],aj x0,aa,aa,aa,aa,aa,aa,aa,aQ x1,aa,aa,aa,aa,aj x2]++unU 105,res:=[(0,.box be (.strct [aQ x3,.row 2,cS x4])),(2,.row 298 al x5 false)],nx:=3,n0:=2}
noncomputable def PE:Code:=aR Tryz.f329
noncomputable def mZ (x0:(List ab)) (x1 x2 x3 x4:Int):Option ((Int×Unit)×Unit):=bI E Cw [] PE 976 {slots:=[.val (.slice 298 al) x0,aj x1,aj x2,aa,aa,aa,aa,aj x3,aj x4]++unU 67,res:=[],nx:=0,n0:=0}
noncomputable def CH:Code:=aR Tryz.f330
noncomputable def ir (x0:(List ab)) (x1:(List Int)) (x2 x3 x4 x5:Int) (x6:aI) (x7 x8:b9) (x9:(List Int)) (x10:(List S0)):Option ((S0×Unit)×Unit):=bI E mU [] CH 1000 {slots:=[.val (.slice 298 al) x0,aa,aa,aa,aa,aa,aa,.ptr 0 al [],aa,aa,.row 1,aa,aa,aa,aa,aa,aa,aa,aa,aa,aa,aa,aa,aa,aa,aa,aa,aa,aa,aa,aa,aa,aa,aa,aa,aa,aa,aa,aa,aa,aa,aa,aa,aa,aa,aa,aa,aa,aa,aa,aa,aa,aa,aa,aa,aa,aa,aa,aa,aa,aa,aa,aa,aa,aa,aa,aa,aa,aa,aa,aa,aa,aa,aa,aa,aa,aa,aa,aa,aa,aa,aa,aa,aa,aa,aa,aa,aa,aa,aa,aa,aa,.val (.slice 2 (.int .i64)) x1,aj x2,aj x3]++unU 18,res:=[(0,.box al (.strct [aj x4,aj x5,.val bw x6,.val bB x7,.val bB x8,.val (.slice 2 (.int .i64)) x9])),(1,.row 9 .str x10 false)],nx:=2,n0:=0}
noncomputable def Kp:Code:=aR Tryz.f80
noncomputable def kw (x0 x1:(List ac)) (x2 x3:Int):Option ((Bool×Unit)×Unit):=bI E uz [] Kp 104 {slots:=[.val (.slice 112 ar) x0,aa,aa,aa,aa,.val (.slice 112 ar) x1,aj x2,aj x3]++unU 34,res:=[],nx:=0,n0:=0}
noncomputable def Gd:Code:=aR Tryz.f36
noncomputable def gj (x0:(List ag)) (x1 x2 x3:Int) (x4:(List ag)) (x5:(List ah)):Option ((Bool×Unit)×Unit):=bI E uw [] Gd 232 {slots:=[aa,.ptr 0 aY [],aa,aa,aa,aa,aa,aa,aa,aa,aa,aa,aa,aa,aa,aa,aa,aa,aa,aa,aa,aa,aa,aa,aa,aa,.val (.slice 59 an) x0,aj x1,aj x2]++unU 79,res:=[(0,.box aY (.strct [aj x3,.val (.slice 59 an) x4,.val (.slice 57 au) x5]))],nx:=1,n0:=0}
noncomputable def Kq:Code:=aR Tryz.f78
noncomputable def nJ (x0 x1 x2 x3:Int) (x4:(List ag)) (x5:(List ah)) (x6:(List ag)) (x7:(List ah)):Option (((Int×(List ag)×(List ah)×Unit)×Unit)×Unit):=bI E uy [] Kq 232 {slots:=[aa,.ptr 0 aY [],.ptr 1 aY [],aa,aa,aa,aa,aa,aa,aa,aa,aa,aa,aa,.row 2,aj x0,aj x1]++unU 22,res:=[(0,.box aY (.strct [aj x2,.row 2,.row 3])),(1,.box aY (.strct [aj x3,.row 4,.row 5])),(2,.row 59 an x4 false),(3,.row 57 au x5 false),(4,.row 59 an x6 false),(5,.row 57 au x7 false)],nx:=6,n0:=0}
noncomputable def o9:Code:=aR Tryz.f148
noncomputable def bO (x0:(List ah)) (x1 x2:Int) (x3:S0):Option ((Int×Unit)×S0×Unit):=bI E fk [(0,.box .str (aa))] o9 104 {slots:=[.val (.slice 57 au) x0,.fn 149 [.ptr 0 .str []],aa,aa,aa,aa,aa,aj x1,aj x2]++unU 10,res:=[(0,.box .str (aQ x3))],nx:=1,n0:=1}
noncomputable def pc:Code:=aR Tryz.f87
noncomputable def nK (x0:(List ah)) (x1 x2 x3:Int) (x4:(List ag)) (x5:(List ah)) (x6:Unit) (x7:(List Int)):Option ((S0×Unit)×Unit):=bI E jP [] pc 488 {slots:=[aa,.ptr 0 aY [],aa,.ptr 1 bc [],aa,aa,aa,aa,aa,aa,aa,aa,aa,aa,aa,aa,aa,aa,aa,aa,.val (.slice 57 au) x0,aj x1,aj x2]++unU 58,res:=[(0,.box aY (.strct [aj x3,.val (.slice 59 an) x4,.val (.slice 57 au) x5])),(1,.box bc (.strct [.val (.bp 185) x6,.row 2])),(2,.row 5 (.int .u8) x7 false)],nx:=3,n0:=0}
noncomputable def Ge:Code:=aR Tryz.f34
noncomputable def kM (x0 x1:(List ac)) (x2:Int):Option ((Bool×Unit)×Unit):=bI E pX [] Ge 464 {slots:=[.val (.slice 112 ar) x0,.val (.slice 112 ar) x1,aa,aa,aa,aj x2]++unU 20,res:=[],nx:=0,n0:=0}
noncomputable def m5:Code:=aR Tryz.f161
noncomputable def cr (x0:(List Int)) (x1 x2 x3:Int):Option ((Int×Unit)×Unit):=bI E em [] m5 104 {slots:=[.val (.slice 2 (.int .i64)) x0,aj x1,aa,aa,aa,aa,aa,aj x2,aj x3]++unU 10,res:=[],nx:=0,n0:=0}
noncomputable def xl:Code:=aR Tryz.f73
noncomputable def iI (x0 x1:Int) (x2:(List ag)) (x3:(List ah)) (x4:(List Int)):Option (((List Int)×Unit)×Unit):=bI E lY [] xl 464 {slots:=[aa,aa,.ptr 0 aY [],aa,aa,.row 1,aj x0]++unU 38,res:=[(0,.box aY (.strct [aj x1,.val (.slice 59 an) x2,.val (.slice 57 au) x3])),(1,.row 2 (.int .i64) x4 false)],nx:=2,n0:=0}
noncomputable def Mn:Code:=aR Tryz.f24
noncomputable def pd (x0:(List Int)) (x1 x2:Int):Option ((Bool×Unit)×Unit):=bI E wK [] Mn 208 {slots:=[.val (.slice 2 (.int .i64)) x0,aj x1,aa,aa,aa,aj x2]++unU 12,res:=[],nx:=0,n0:=0}
noncomputable def tu:Code:=aR Tryz.f6
noncomputable def fi (x0:S0) (x1 x2 x3:Int) (x4:(List ag)) (x5:(List ah)) (x6:(List ag)) (x7:(List ah)):Option ((Bool×Unit)×Unit):=bI E gK [] tu 65488 {slots:=[aa,aa,aa,.ptr 0 aY [],aQ x0,aa,.ptr 1 aY [],aa,aa,aa,aa,aa,aa,aa,aj x1]++unU 171,res:=[(0,.box aY (.strct [aj x2,.row 2,.row 3])),(1,.box aY (.strct [aj x3,.row 4,.row 5])),(2,.row 59 an x4 true),(3,.row 57 au x5 true),(4,.row 59 an x6 false),(5,.row 57 au x7 false)],nx:=6,n0:=0}
noncomputable def cA (x0:Int) (x1:S0) (x2:Int) (x3:Bool) (x4:(List Int)) (x5:(List ab)):Option ((Int×Unit)×(S0×Int×Bool×(List ab)×Unit)×Unit):=bI E l7 [(0,.box aW (aa)),(1,.row 298 al [] false)] xh 224 {slots:=[.ptr 0 aW [],aj x0,aa,aa,aa,.row 2]++unU 24,res:=[(0,.box aW (.strct [aQ x1,aj x2,cS x3,.row 3])),(2,.row 2 (.int .i64) x4 false),(3,.row 298 al x5 false)],nx:=4,n0:=2}
noncomputable def jx (x0 x1:Int) (x2:S0) (x3:Int) (x4:Bool) (x5:(List Int)) (x6:(List ab)):Option ((Int×Unit)×(S0×Int×Bool×(List ab)×Unit)×Unit):=bI E oU [(0,.box aW (aa)),(1,.row 298 al [] false)] Bq 464 {slots:=[.ptr 0 aW [],aj x0,aa,aa,aa,.row 2,aj x1]++unU 27,res:=[(0,.box aW (.strct [aQ x2,aj x3,cS x4,.row 3])),(2,.row 2 (.int .i64) x5 false),(3,.row 298 al x6 false)],nx:=4,n0:=2}
noncomputable def iJ (x0:(List ab)) (x1 x2:Int):Option ((Bool×Unit)×Unit):=bI E l5 [] xj 59696 {slots:=[.val (.slice 298 al) x0,aa,aa,aj x1,aj x2]++unU 82,res:=[],nx:=0,n0:=0}
noncomputable def ez (x0 x1 x2:Int) (x3:(List ag)) (x4:(List ah)) (x5:Int) (x6:(List Int)) (x7:(List ac)):Option ((Bool×Unit)×Unit):=bI E pY [] zR 119408 {slots:=[aa,.ptr 0 aY [],aa,aj x0,.ptr 1 an [],aj x1]++unU 159,res:=[(0,.box aY (.strct [aj x2,.val (.slice 59 an) x3,.val (.slice 57 au) x4])),(1,.box an (.strct [aj x5,.val (.slice 2 (.int .i64)) x6,.val (.slice 112 ar) x7]))],nx:=2,n0:=0}
noncomputable def eA (x0 x1:Int) (x2:(List ag)) (x3:(List ah)):Option ((Bool×Unit)×Unit):=bI E pY [] zR 976 {slots:=[aa,.ptr 0 aY [],aa,aa,aa,aa,aj x0]++unU 158,res:=[(0,.box aY (.strct [aj x1,.val (.slice 59 an) x2,.val (.slice 57 au) x3]))],nx:=1,n0:=0}
noncomputable def gR (x0 x1 x2:Int) (x3:(List ag)) (x4:(List ah)) (x5:(List Int)) (x6:Int) (x7:(List Int)) (x8:(List ac)):Option (((List Int)×Unit)×Unit):=bI E kn [] sf 59696 {slots:=[aa,aa,.ptr 0 aY [],aa,aa,.row 1,aj x0,.ptr 2 an [],aj x1]++unU 69,res:=[(0,.box aY (.strct [aj x2,.val (.slice 59 an) x3,.val (.slice 57 au) x4])),(1,.row 2 (.int .i64) x5 false),(2,.box an (.strct [aj x6,.val (.slice 2 (.int .i64)) x7,.val (.slice 112 ar) x8]))],nx:=3,n0:=0}
noncomputable def iK (x0 x1:Int) (x2:(List ag)) (x3:(List ah)) (x4 x5:(List Int)):Option (((List Int)×Unit)×Unit):=bI E kn [] sf 2000 {slots:=[aa,aa,.ptr 0 aY [],aa,aa,.row 1,aa,aa,aa,.row 2,aj x0]++unU 67,res:=[(0,.box aY (.strct [aj x1,.val (.slice 59 an) x2,.val (.slice 57 au) x3])),(1,.row 2 (.int .i64) x4 false),(2,.row 2 (.int .i64) x5 false)],nx:=3,n0:=0}
noncomputable def gT (x0:Int) (x1:aE) (x2:(List ac)):Option (((List ac)×Unit)×aE×Unit):=bI E lZ [(0,.box aw (aa))] xk 208 {slots:=[.ptr 0 aw [],.row 1,aa,aa,aa,aa,aa,aj x0]++unU 25,res:=[(0,.box aw (.val aw x1)),(1,.row 112 ar x2 false)],nx:=2,n0:=1}
noncomputable def ca (x0 x1 x2 x3 x4:Int) (x5:S0) (x6:Bool) (x7:(List ab)):Option ((Int×Unit)×(S0×(List ab)×Bool×Unit)×Unit):=bI E ij [(0,.box be (aa)),(1,.row 298 al [] false)] qp 29008 {slots:=[.ptr 0 be [],aj x0,aj x1,aa,aa,aa,aa,aj x2,aj x3,aj x4]++unU 45,res:=[(0,.box be (.strct [aQ x5,.row 2,cS x6])),(2,.row 298 al x7 false)],nx:=3,n0:=2}
noncomputable def eB (x0:(List ah)) (x1 x2 x3:Int) (x4:(List ag)) (x5:(List ah)):Option ((Bool×Unit)×Unit):=bI E uw [] Gd 488 {slots:=[aa,.ptr 0 aY [],aa,aa,aa,aa,aa,aa,aa,aa,aa,aa,aa,aa,aa,aa,aa,aa,aa,aa,aa,aa,aa,aa,aa,aa,aa,aa,aa,aa,aa,aa,aa,aa,aa,aa,aa,aa,aa,aa,aa,aa,aa,aa,aa,aa,aa,aa,aa,aa,aa,aa,aa,aa,aa,aa,aa,aa,aa,aa,aa,aa,aa,aa,aa,aa,aa,aa,aa,aa,aa,aa,aa,.val (.slice 57 au) x0,aj x1,aj x2]++unU 32,res:=[(0,.box aY (.strct [aj x3,.val (.slice 59 an) x4,.val (.slice 57 au) x5]))],nx:=1,n0:=0}
noncomputable def iW (x0:(List ag)) (x1 x2:Int) (x3:Unit) (x4:(List Int)):Option ((S0×Unit)×Unit):=bI E jP [] pc 1000 {slots:=[aa,aa,aa,.ptr 0 bc [],aa,aa,aa,aa,aa,aa,aa,aa,aa,aa,aa,aa,aa,aa,aa,aa,aa,aa,aa,aa,aa,aa,aa,aa,aa,aa,aa,aa,aa,aa,aa,aa,aa,aa,.val (.slice 59 an) x0,aj x1,aj x2]++unU 40,res:=[(0,.box bc (.strct [.val (.bp 185) x3,.row 1])),(1,.row 5 (.int .u8) x4 false)],nx:=2,n0:=0}
noncomputable def f2 (x0:Int) (x1:(List Int)) (x2 x3 x4:Int) (x5:(List ag)) (x6:(List ah)) (x7:(List Int)):Option (((List Int)×Unit)×Unit):=bI E lY [] xl 14920 {slots:=[aa,aa,.ptr 0 aY [],aa,aa,.row 1,aj x0,aa,aa,aa,aa,aa,aa,aa,aa,aa,aa,aa,aa,aa,aa,aa,aa,aa,aa,aa,aa,.val (.slice 2 (.int .i64)) x1,aj x2,aj x3]++unU 15,res:=[(0,.box aY (.strct [aj x4,.val (.slice 59 an) x5,.val (.slice 57 au) x6])),(1,.row 2 (.int .i64) x7 false)],nx:=2,n0:=0}
noncomputable def gF (x0 x1 x2:Int) (x3:(List ag)) (x4:(List ah)) (x5:(List ag)) (x6:(List ah)):Option ((Bool×Unit)×Unit):=bI E gK [] tu 131024 {slots:=[aa,aa,aa,.ptr 0 aY [],aa,aa,.ptr 1 aY [],aa,aa,aa,aa,aa,aa,aa,aa,aj x0]++unU 170,res:=[(0,.box aY (.strct [aj x1,.row 2,.row 3])),(1,.box aY (.strct [aj x2,.row 4,.row 5])),(2,.row 59 an x3 true),(3,.row 57 au x4 true),(4,.row 59 an x5 false),(5,.row 57 au x6 false)],nx:=6,n0:=0}
noncomputable def mf (x0:(List ag)) (x1 x2:Int) (x3:(List Int)) (x4 x5:Int) (x6:Unit) (x7:Int) (x8:(List Int)) (x9:(List ac)) (x10:(List Int)):Option ((S0×Unit)×Unit):=bI E jP [] pc 1025640 {slots:=[aa,aa,aa,.ptr 0 bc [],aa,aa,aa,.ptr 1 an [],aa,aa,aa,aa,aa,aa,aa,aa,aa,aa,aa,aa,aa,aa,aa,aa,aa,aa,aa,aa,aa,aa,aa,aa,aa,aa,aa,aa,aa,aa,.val (.slice 59 an) x0,aj x1,aj x2,aa,aa,aa,aa,aa,aa,aa,aa,aa,.val (.slice 2 (.int .i64)) x3,aj x4,aj x5]++unU 28,res:=[(0,.box bc (.strct [.val (.bp 185) x6,.row 2])),(1,.box an (.strct [aj x7,.val (.slice 2 (.int .i64)) x8,.val (.slice 112 ar) x9])),(2,.row 5 (.int .u8) x10 false)],nx:=3,n0:=0}
noncomputable def jy (x0:(List ag)) (x1 x2:Int) (x3:(List ac)) (x4 x5:Int) (x6:Unit) (x7:(List Int)):Option ((S0×Unit)×Unit):=bI E jP [] pc 2051320 {slots:=[aa,aa,aa,.ptr 0 bc [],aa,aa,aa,aa,aa,aa,aa,aa,aa,aa,aa,aa,aa,aa,aa,aa,aa,aa,aa,aa,aa,aa,aa,aa,aa,aa,aa,aa,aa,aa,aa,aa,aa,aa,.val (.slice 59 an) x0,aj x1,aj x2,aa,aa,aa,aa,aa,aa,aa,aa,aa,aa,aa,aa,aa,aa,aa,aa,aa,aa,aa,aa,aa,aa,.val (.slice 112 ar) x3,aj x4,aj x5]++unU 15,res:=[(0,.box bc (.strct [.val (.bp 185) x6,.row 1])),(1,.row 5 (.int .u8) x7 false)],nx:=2,n0:=0}
end Go.Proofs.YtfffplonjaigkaaGreatDoor.Abs
