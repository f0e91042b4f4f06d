/- What the functions are, as the reader reads them. Printed by out.py. -/
import Derived.Test.YtfffplonjaigkaaGreatDoorZA3
import Derived.Test.YtfffplonjaigkaaGreatDoorProg
set_option linter.unusedVariables false
set_option linter.unusedSimpArgs false
set_option maxRecDepth 100000
open _root_ renaming ByteArray→P0
namespace Go.Proofs.YtfffplonjaigkaaGreatDoor.Abs
open Go Go.Proofs.YtfffplonjaigkaaGreatDoor
abbrev Lu:TypeId:=9
abbrev cD:Ty := .agg (.pair (.int .i64) (.pair (.int .i64) .unit))
abbrev aw:=Int×Int×Unit
abbrev au:Ty := .agg (.pair cD (.pair .str .unit))
abbrev af:=aw×P0×Unit
abbrev ar:Ty := .agg (.pair (.int .i64) (.pair (.slice 2 (.int .i64)) (.pair (.slice 112 au) .unit)))
abbrev ak:=Int×(List Int)×(List af)×Unit
abbrev aO:Ty := .agg (.pair .str (.pair (.int .i64) .unit))
abbrev an:=P0×Int×Unit
abbrev bn:Ty := .agg (.pair (.int .i64) (.pair (.slice 59 ar) (.pair (.slice 57 aO) .unit)))
abbrev aV:=Int×(List ak)×(List an)×Unit
abbrev bq:Ty := .agg (.pair cD (.pair .bool (.pair .bool .unit)))
abbrev b8:=aw×Bool×Bool×Unit
abbrev aG:Ty := .agg (.pair (.slice 5 (.int .u8)) (.pair (.int .i64) .unit))
abbrev aZ:=(List Int)×Int×Unit
abbrev eW:Ty := .agg (.pair cD (.pair .str (.pair .str .unit)))
abbrev aP:=aw×P0×P0×Unit
abbrev bj:Ty := .agg (.pair (.int .i64) (.pair (.int .i64) (.pair .str .unit)))
abbrev aD:=Int×Int×P0×Unit
abbrev ah:Ty := .agg (.pair (.int .i64) (.pair (.int .i64) (.pair bj (.pair bq (.pair bq (.pair (.slice 2 (.int .i64)) .unit))))))
abbrev ab:=Int×Int×aD×b8×b8×(List Int)×Unit
abbrev CS:Ty := .agg (.pair cD (.pair cD .unit))
abbrev wh:=aw×aw×Unit
abbrev aQ:Ty := .agg (.pair .str (.pair (.int .i64) (.pair .bool (.pair (.slice 298 ah) .unit))))
abbrev g8:=P0×Int×Bool×(List ab)×Unit
abbrev aX:Ty := .agg (.pair .str (.pair (.slice 298 ah) (.pair .bool .unit)))
abbrev lV:=P0×(List ab)×Bool×Unit
noncomputable def sD:am:=al 4 Tryz.f4 (.pair (.val .bool) .unit) .unit [] [(11,[5,6,7,8,9,10])]
noncomputable def JA:am:=al 15 Tryz.f15 (.pair (.val (.int .i64)) .unit) .unit [] []
noncomputable def JB:am:=al 17 Tryz.f17 (.pair (.val (.int .i64)) .unit) .unit [] []
noncomputable def JC:am:=al 19 Tryz.f19 (.pair (.val .bool) .unit) .unit [] []
noncomputable def yS:am:=al 20 Tryz.f20 (.pair (.strct (.pair (.val (.int .i64)) (.pair (.row 59 ar false) (.pair (.row 57 aO false) .unit)))) (.pair (.val (.int .i64)) (.pair (.val (.int .i64)) .unit))) .unit [] []
noncomputable def DC:am:=al 21 Tryz.f21 (.pair (.row 2 (.int .i64) false) .unit) .unit [] []
noncomputable def qu:am:=al 22 Tryz.f22 (.pair (.val .bool) .unit) .unit [] [(4,[0,1,5])]
noncomputable def DD:am:=al 23 Tryz.f23 (.pair (.row 2 (.int .i64) false) .unit) .unit [] []
noncomputable def uJ:am:=al 24 Tryz.f24 (.pair (.val .bool) .unit) .unit [] [(2,[0,1,5])]
noncomputable def uK:am:=al 31 Tryz.f31 (.pair (.strct (.pair (.val (.int .i64)) (.pair (.row 59 ar false) (.pair (.row 57 aO false) .unit)))) (.pair (.val (.int .i64)) (.pair (.val (.int .i64)) .unit))) .unit [] []
noncomputable def sE:am:=al 36 Tryz.f36 (.pair (.val .bool) .unit) .unit [] [(4,[1,26,27,28]),(10,[1,73,74,75])]
noncomputable def wS:am:=al 42 Tryz.f42 (.pair (.strct (.pair (.val (.int .i64)) (.pair (.row 59 ar false) (.pair (.row 57 aO false) .unit)))) (.pair (.row 110 cD false) (.pair (.val (.int .i64)) .unit))) .unit [] []
noncomputable def qv:am:=al 50 Tryz.f50 (.pair (.strct (.pair (.val (.int .i64)) (.pair (.row 59 ar false) (.pair (.row 57 aO false) .unit)))) (.pair (.val (.int .i64)) .unit)) .unit [] [(13,[1,2,3,6,8,9,10,11])]
noncomputable def oG:am:=al 61 Tryz.f61 (.pair (.val .bool) .unit) .unit [] [(4,[1,3]),(10,[1,3,4,5]),(15,[1,6])]
noncomputable def sF:am:=al 62 Tryz.f62 (.pair (.val (.int .i64)) .unit) .unit [] [(2,[1,2,5])]
noncomputable def uL:am:=al 63 Tryz.f63 (.pair (.val (.int .i64)) .unit) .unit [] [(5,[7,8,9,10])]
noncomputable def ri:am:=al 66 Tryz.f66 (.pair (.val (.int .i64)) .unit) .unit [] []
noncomputable def sG:am:=al 67 Tryz.f67 (.pair (.val (.int .i64)) .unit) .unit [] [(3,[7,8,16,17,18])]
noncomputable def Bx:am:=al 70 Tryz.f70 (.pair (.ptr aG) .unit) .unit [] []
noncomputable def qw:am:=al 71 Tryz.f71 (.pair (.strct (.pair (.val (.int .i64)) (.pair (.row 59 ar false) (.pair (.row 57 aO false) .unit)))) .unit) (.pair (.val aG) .unit) [] [(3,[0,4,5,6])]
noncomputable def nc:am:=al 72 Tryz.f72 (.pair (.val (.int .i64)) .unit) (.pair (.val aG) .unit) [] []
noncomputable def k8:am:=al 73 Tryz.f73 (.pair (.row 2 (.int .i64) false) .unit) .unit [] [(3,[2,5,6]),(6,[2,5,6,27,28,29])]
noncomputable def jw:am:=al 74 Tryz.f74 (.pair (.row 2 (.int .i64) false) .unit) .unit [] [(3,[2,5,6]),(7,[2,5,6,7,8]),(13,[2,5,9,10])]
noncomputable def sH:am:=al 80 Tryz.f80 (.pair (.val .bool) .unit) .unit [] [(2,[0,5,6,7])]
noncomputable def sI:am:=al 83 Tryz.f83 (.pair (.val (.int .i64)) .unit) .unit [] [(2,[1,2,5])]
noncomputable def sJ:am:=al 84 Tryz.f84 (.pair (.strct (.pair (.val (.int .i64)) (.pair (.row 59 ar false) (.pair (.row 57 aO false) .unit)))) .unit) .unit [] [(3,[1,2,3,4])]
noncomputable def sK:am:=al 85 Tryz.f85 (.pair (.val .bool) .unit) .unit [] [(4,[0,3])]
noncomputable def yT:am:=al 86 Tryz.f86 (.pair (.strct (.pair (.val (.int .i64)) (.pair (.row 59 ar false) (.pair (.row 57 aO false) .unit)))) (.pair (.val (.int .i64)) (.pair (.val .bool) .unit))) .unit [] []
noncomputable def Bz:am:=al 89 Tryz.f89 (.pair (.val .bool) .unit) .unit [] []
noncomputable def oH:am:=al 90 Tryz.f90 (.pair (.val .bool) .unit) .unit [] [(2,[1,2,3,9,10,11])]
noncomputable def BA:am:=al 91 Tryz.f91 (.pair (.val .bool) .unit) .unit [] []
noncomputable def fq:am:=al 94 Tryz.f94 (.pair (.val .bool) .unit) .unit [] []
noncomputable def uM:am:=al 97 Tryz.f97 (.pair (.val .bool) .unit) .unit [] [(2,[0,1,5])]
noncomputable def sL:am:=al 98 Tryz.f98 (.pair (.strct (.pair (.val (.int .i64)) (.pair (.row 59 ar false) (.pair (.row 57 aO false) .unit)))) .unit) .unit [true,false,false] [(2,[1,2,3,6,7])]
noncomputable def uN:am:=al 99 Tryz.f99 (.pair (.row 112 au false) (.pair (.row 110 cD false) (.pair (.val .bool) .unit))) .unit [] [(7,[1,9,10,11,12])]
noncomputable def wT:am:=al 100 Tryz.f100 (.pair (.row 112 au false) .unit) .unit [] []
noncomputable def xy:am:=al 101 Tryz.f101 (.pair (.val .str) .unit) .unit [] [(4,[0,3])]
noncomputable def uO:am:=al 102 Tryz.f102 (.pair (.val .str) .unit) .unit [] []
noncomputable def sM:am:=al 109 Tryz.f109 (.pair (.val .bool) .unit) .unit [] [(4,[0,3])]
noncomputable def jL:am:={g:=116,fn:=Tryz.f116,sh:=(.pair (.val .str) (.pair (.val .str) (.pair (.val .bool) .unit))),bx := .unit,own:=[],live:=[],prim:=some (wg)}
noncomputable def xz:am:=al 123 Tryz.f123 (.pair (.val (.int .i64)) (.pair (.val .bool) .unit)) .unit [] [(5,[0,6,7])]
noncomputable def oI:am:=al 124 Tryz.f124 (.pair (.val bq) (.pair (.val .bool) .unit)) .unit [] [(6,[0,2,4,5])]
noncomputable def GD:am:=al 127 Tryz.f127 (.pair (.val .bool) .unit) .unit [] []
noncomputable def eC:am:=al 130 Tryz.f130 (.pair (.val (.int .i64)) .unit) (.pair (.val (.int .i64)) .unit) [] [(2,[0,1,7,8])]
noncomputable def oJ:am:=al 131 Tryz.f131 (.pair (.val .bool) .unit) (.pair (.val (.int .i64)) .unit) [] []
noncomputable def BB:am:=al 134 Tryz.f134 (.pair (.strct (.pair (.val (.int .i64)) (.pair (.row 59 ar false) (.pair (.row 57 aO false) .unit)))) .unit) .unit [] []
noncomputable def BC:am:=al 135 Tryz.f135 (.pair (.val (.int .i64)) .unit) .unit [] []
noncomputable def k9:am:=al 136 Tryz.f136 (.pair (.val (.slice 112 au)) .unit) (.pair (.val aG) .unit) [] [(2,[0,1,7])]
noncomputable def wU:am:=al 137 Tryz.f137 (.pair (.val (.int .i64)) .unit) (.pair (.val aG) .unit) [] []
noncomputable def oK:am:=al 138 Tryz.f138 (.pair (.val (.int .i64)) .unit) (.pair (.val aG) .unit) [] []
noncomputable def ef:am:={g:=139,fn:=Tryz.f139,sh := .unit,bx:=(.pair (.row 2 (.int .i64) false) .unit),own:=[true],live:=[],rb:=true,prim:=some (kv 2)}
noncomputable def DE:am:=al 140 Tryz.f140 (.pair (.row 112 au false) (.pair (.val .bool) .unit)) .unit [] []
noncomputable def wV:am:=al 141 Tryz.f141 (.pair (.val cD) .unit) (.pair (.val aG) .unit) [] []
noncomputable def uP:am:=al 143 Tryz.f143 (.pair (.val .bool) .unit) (.pair (.val aG) .unit) [] []
noncomputable def DF:am:=al 150 Tryz.f150 (.pair (.val .bool) .unit) .unit [] []
noncomputable def rj:am:=al 151 Tryz.f151 (.pair (.val (.int .i64)) .unit) .unit [] []
noncomputable def wW:am:=al 152 Tryz.f152 (.pair (.val .bool) .unit) .unit [] []
noncomputable def yU:am:=al 153 Tryz.f153 (.pair (.val .str) (.pair (.val .bool) .unit)) .unit [] []
noncomputable def DG:am:=al 154 Tryz.f154 (.pair (.val .bool) .unit) .unit [] []
noncomputable def yV:am:=al 155 Tryz.f155 (.pair (.val .bool) .unit) .unit [] []
noncomputable def yW:am:=al 157 Tryz.f157 (.pair (.val .str) .unit) .unit [] []
noncomputable def iX:am:={g:=160,fn:=Tryz.f160,sh:=(.pair (.val .str) .unit),bx := .unit,own:=[],live:=[],prim:=some (sB)}
noncomputable def dR:am:=al 161 Tryz.f161 (.pair (.val (.int .i64)) .unit) .unit [] [(2,[0,1,7,8])]
noncomputable def uQ:am:=al 164 Tryz.f164 (.pair (.row 198 eW false) .unit) .unit [] [(6,[0,1,5,6,7])]
noncomputable def Ax:am:=al 165 Tryz.f165 (.pair (.val .str) .unit) .unit [] [(2,[0,3,5])]
noncomputable def xA:am:=al 166 Tryz.f166 (.pair (.row 112 au false) .unit) .unit [] [(4,[0,2,4,7,8,9])]
noncomputable def sN:am:=al 167 Tryz.f167 (.pair (.val .str) .unit) .unit [] [(4,[0,3])]
noncomputable def fF:am:={g:=178,fn:=Tryz.f178,sh:=(.pair (.val (.int .i64)) (.pair (.val .err) .unit)),bx := .unit,own:=[],live:=[],prim:=some (k7)}
noncomputable def uR:am:=al 179 Tryz.f179 (.pair (.val bq) (.pair (.val .bool) .unit)) .unit [] []
noncomputable def sO:am:=al 181 Tryz.f181 (.pair (.val (.int .i64)) .unit) .unit [] [(2,[0,3])]
noncomputable def uS:am:=al 184 Tryz.f184 (.pair (.val (.int .i64)) .unit) (.pair (.val aG) .unit) [] []
noncomputable def oL:am:=al 187 Tryz.f187 (.pair (.val (.int .i64)) .unit) .unit [] [(3,[3,6,7,8])]
noncomputable def lE:am:=al 188 Tryz.f188 (.pair (.val (.int .i64)) .unit) .unit [] []
noncomputable def yX:am:=al 189 Tryz.f189 (.pair (.val .str) (.pair (.val .bool) .unit)) .unit [] []
noncomputable def sP:am:=al 190 Tryz.f190 (.pair (.val .bool) .unit) .unit [] [(2,[0,3])]
noncomputable def rk:am:=al 191 Tryz.f191 (.pair (.row 298 ah false) (.pair (.val .bool) .unit)) .unit [] []
noncomputable def rl:am:=al 192 Tryz.f192 (.pair (.val .str) .unit) .unit [] []
noncomputable def qx:am:=al 193 Tryz.f193 (.pair (.val bj) (.pair (.val .bool) .unit)) .unit [] [(6,[0,2,4])]
noncomputable def uT:am:=al 194 Tryz.f194 (.pair (.val .str) .unit) .unit [] []
noncomputable def lc:am:=al 195 Tryz.f195 (.pair (.val bj) (.pair (.val .bool) .unit)) .unit [] [(23,[0,2,4,5]),(27,[2,4])]
noncomputable def fo:am:={g:=197,fn:=Tryz.f197,sh:=(.pair (.val .str) .unit),bx := .unit,own:=[],live:=[],prim:=some (we)}
noncomputable def uU:am:=al 198 Tryz.f198 (.pair (.val .str) .unit) .unit [] []
noncomputable def lF:am:=al 223 Tryz.f223 (.pair (.val .str) (.pair (.val .bool) .unit)) .unit [] []
noncomputable def fG:am:={g:=224,fn:=Tryz.f224,sh:=(.pair (.val .str) .unit),bx := .unit,own:=[],live:=[],prim:=some (k6)}
noncomputable def sR:am:=al 225 Tryz.f225 (.pair (.val (.int .i64)) .unit) .unit [] [(2,[0,3])]
noncomputable def oM:am:=al 226 Tryz.f226 (.pair (.val (.int .u64)) .unit) (.pair (.val aG) .unit) [] [(3,[0,3,4])]
noncomputable def BD:am:=al 237 Tryz.f237 (.pair (.val .str) .unit) .unit [] []
noncomputable def nv:am:=al 238 Tryz.f238 (.pair (.val .bool) .unit) .unit [] []
noncomputable def uV:am:=al 239 Tryz.f239 (.pair (.val .bool) .unit) .unit [] [(2,[0,1,7,8])]
noncomputable def rm:am:=al 240 Tryz.f240 (.pair (.row 298 ah false) (.pair (.val .bool) .unit)) .unit [] []
noncomputable def wX:am:=al 241 Tryz.f241 (.pair (.val .str) (.pair (.val .bool) .unit)) .unit [] []
noncomputable def wY:am:=al 242 Tryz.f242 (.pair (.val .bool) .unit) .unit [] []
noncomputable def yY:am:=al 243 Tryz.f243 (.pair (.val .bool) .unit) .unit [] []
noncomputable def BE:am:=al 244 Tryz.f244 (.pair (.val bj) .unit) .unit [] []
noncomputable def oO:am:=al 245 Tryz.f245 (.pair (.val bj) (.pair (.val .bool) .unit)) .unit [] [(9,[0,2,4,7])]
noncomputable def qy:am:=al 246 Tryz.f246 (.pair (.val (.int .i64)) .unit) (.pair (.strct (.pair (.val .str) (.pair (.val (.int .i64)) (.pair (.val .bool) (.pair (.row 298 ah false) .unit))))) .unit) [] [(6,[0,1,5])]
noncomputable def lW:am:=al 247 Tryz.f247 .unit (.pair (.strct (.pair (.val .str) (.pair (.val (.int .i64)) (.pair (.val .bool) (.pair (.row 298 ah false) .unit))))) .unit) [] [(0,[0])]
noncomputable def ld:am:=al 248 Tryz.f248 (.pair (.val .bool) .unit) .unit [] [(4,[0,3]),(9,[0,3,4])]
noncomputable def uW:am:=al 249 Tryz.f249 (.pair (.val .str) .unit) .unit [] [(21,[0,7,10,11])]
noncomputable def yZ:am:=al 250 Tryz.f250 (.pair (.val .bool) .unit) .unit [] []
noncomputable def BF:am:=al 251 Tryz.f251 (.pair (.val .str) .unit) .unit [] []
noncomputable def BG:am:=al 252 Tryz.f252 (.pair (.val .str) .unit) .unit [] []
noncomputable def za:am:=al 255 Tryz.f255 (.pair (.val .str) .unit) .unit [] []
noncomputable def jf:am:=al 275 Tryz.f275 (.pair (.val .str) (.pair (.val .bool) .unit)) .unit [] []
noncomputable def gE:am:=al 279 Tryz.f279 (.pair (.val (.int .i64)) .unit) (.pair (.strct (.pair (.val .str) (.pair (.row 298 ah false) (.pair (.val .bool) .unit)))) .unit) [] [(2,[0,1,2,7]),(5,[0,1,2,7,8,9])]
noncomputable def oP:am:=al 280 Tryz.f280 .unit (.pair (.strct (.pair (.val .str) (.pair (.row 298 ah false) (.pair (.val .bool) .unit)))) .unit) [] []
noncomputable def uX:am:=al 281 Tryz.f281 (.pair (.val .bool) .unit) .unit [] []
noncomputable def rn:am:=al 282 Tryz.f282 (.pair (.val .str) .unit) .unit [] []
noncomputable def lf:am:=al 283 Tryz.f283 (.pair (.val .str) .unit) .unit [] []
noncomputable def DH:am:=al 284 Tryz.f284 (.pair (.val bj) .unit) .unit [] []
noncomputable def lG:am:=al 285 Tryz.f285 (.pair (.val .bool) .unit) .unit [] []
noncomputable def uY:am:=al 286 Tryz.f286 (.pair (.val .str) .unit) .unit [] []
noncomputable def DI:am:=al 287 Tryz.f287 (.pair (.val bj) .unit) .unit [] []
noncomputable def uZ:am:=al 288 Tryz.f288 (.pair (.val .str) .unit) .unit [] []
noncomputable def mt:am:=al 289 Tryz.f289 (.pair (.val (.int .i64)) .unit) (.pair (.strct (.pair (.val .str) (.pair (.val (.int .i64)) (.pair (.val .bool) (.pair (.row 298 ah false) .unit))))) .unit) [] [(13,[0,5]),(23,[0,7,8])]
noncomputable def nK:am:=al 290 Tryz.f290 (.pair (.val (.int .i64)) .unit) (.pair (.strct (.pair (.val .str) (.pair (.val (.int .i64)) (.pair (.val .bool) (.pair (.row 298 ah false) .unit))))) .unit) [] [(3,[0,1,5,6])]
noncomputable def wZ:am:=al 291 Tryz.f291 (.pair (.val (.int .i64)) .unit) (.pair (.strct (.pair (.val .str) (.pair (.val (.int .i64)) (.pair (.val .bool) (.pair (.row 298 ah false) .unit))))) .unit) [] []
noncomputable def w4:am:=al 292 Tryz.f292 (.pair (.val .bool) .unit) .unit [] []
noncomputable def u2:am:=al 293 Tryz.f293 (.pair (.val (.int .i64)) .unit) .unit [] [(3,[0,1,5,6])]
noncomputable def u3:am:=al 294 Tryz.f294 (.pair (.val (.int .i64)) .unit) .unit [] [(3,[0,1,5,6])]
noncomputable def sS:am:=al 295 Tryz.f295 (.pair (.val .str) .unit) .unit [] [(3,[0,3,4])]
noncomputable def zb:am:=al 296 Tryz.f296 (.pair (.val (.int .i64)) .unit) .unit [] []
noncomputable def GE:am:=al 297 Tryz.f297 (.pair (.val .str) .unit) .unit [] []
noncomputable def jg:am:=al 321 Tryz.f321 (.pair (.val .bool) .unit) .unit [] []
noncomputable def pV:am:=al 323 Tryz.f323 (.pair (.val (.int .i64)) .unit) (.pair (.strct (.pair (.val .str) (.pair (.row 298 ah false) (.pair (.val .bool) .unit)))) .unit) [] []
noncomputable def lX:am:=al 324 Tryz.f324 (.pair (.val .str) .unit) (.pair (.strct (.pair (.val .str) (.pair (.row 298 ah false) (.pair (.val .bool) .unit)))) .unit) [] [(3,[0,7,8,9])]
noncomputable def BH:am:=al 325 Tryz.f325 (.pair (.val .str) .unit) .unit [] []
noncomputable def DJ:am:=al 326 Tryz.f326 (.pair (.val (.int .i64)) .unit) .unit [] []
noncomputable def rp:am:=al 327 Tryz.f327 (.pair (.val .bool) .unit) (.pair (.strct (.pair (.val .str) (.pair (.row 298 ah false) (.pair (.val .bool) .unit)))) .unit) [] []
noncomputable def tP:am:=al 328 Tryz.f328 (.pair (.val (.int .i64)) .unit) (.pair (.strct (.pair (.val .str) (.pair (.row 298 ah false) (.pair (.val .bool) .unit)))) .unit) [] []
noncomputable def Ay:am:=al 329 Tryz.f329 (.pair (.val (.int .i64)) .unit) .unit [] [(5,[0,1,2,7,8])]
noncomputable def lY:am:=al 330 Tryz.f330 (.pair (.val .str) .unit) .unit [] [(21,[0,7,10,92,93,94])]
noncomputable def iw:am:=al 331 Tryz.f331 (.pair (.val .str) .unit) .unit [] []
noncomputable def zd:am:=al 332 Tryz.f332 (.pair (.val .bool) .unit) (.pair (.strct (.pair (.val .str) (.pair (.val (.int .i64)) (.pair (.val .bool) (.pair (.row 298 ah false) .unit))))) .unit) [] []
noncomputable def oQ:am:=al 333 Tryz.f333 (.pair (.val (.int .i64)) .unit) (.pair (.strct (.pair (.val .str) (.pair (.val (.int .i64)) (.pair (.val .bool) (.pair (.row 298 ah false) .unit))))) .unit) [] [(2,[0,3])]
noncomputable def ze:am:=al 334 Tryz.f334 (.pair (.val bj) .unit) .unit [] []
noncomputable def oS:am:=al 335 Tryz.f335 (.pair (.val .str) .unit) (.pair (.strct (.pair (.val .str) (.pair (.val (.int .i64)) (.pair (.val .bool) (.pair (.row 298 ah false) .unit))))) .unit) [] [(2,[0,3])]
noncomputable def lg:am:=al 336 Tryz.f336 (.pair (.val (.int .i64)) .unit) (.pair (.strct (.pair (.val .str) (.pair (.val (.int .i64)) (.pair (.val .bool) (.pair (.row 298 ah false) .unit))))) .unit) [] [(2,[0,1,5])]
noncomputable def BI:am:=al 337 Tryz.f337 (.pair (.val .bool) .unit) .unit [] []
noncomputable def BJ:am:=al 338 Tryz.f338 (.pair (.val .bool) .unit) .unit [] []
noncomputable def iY:am:=al 349 Tryz.f349 (.pair (.val (.int .i64)) .unit) (.pair (.strct (.pair (.val .str) (.pair (.row 298 ah false) (.pair (.val .bool) .unit)))) .unit) [] [(6,[0,1,5]),(24,[0,1,9,14])]
noncomputable def rq:am:=al 350 Tryz.f350 (.pair (.val .bool) .unit) .unit [] []
noncomputable def eL:am:={g:=351,fn:=Tryz.f351,sh:=(.pair (.val .str) .unit),bx := .unit,own:=[],live:=[],prim:=some (mr)}
noncomputable def BK:am:=al 352 Tryz.f352 (.pair (.val .str) .unit) .unit [] []
noncomputable def iZ:am:={g:=353,fn:=Tryz.f353,sh:=(.pair (.val .str) .unit),bx := .unit,own:=[],live:=[],prim:=some (sC Lu)}
noncomputable def w5:am:=al 354 Tryz.f354 (.pair (.val (.int .i64)) .unit) (.pair (.strct (.pair (.val .str) (.pair (.val (.int .i64)) (.pair (.val .bool) (.pair (.row 298 ah false) .unit))))) .unit) [] []
noncomputable def j7:am:=al 358 Tryz.f358 (.pair (.val (.int .i64)) .unit) (.pair (.strct (.pair (.val .str) (.pair (.row 298 ah false) (.pair (.val .bool) .unit)))) .unit) [] [(2,[0,3,4])]
noncomputable def mK:am:=al 359 Tryz.f359 (.pair (.val (.int .i64)) .unit) (.pair (.strct (.pair (.val .str) (.pair (.row 298 ah false) (.pair (.val .bool) .unit)))) .unit) [] []
noncomputable def rr:am:=al 360 Tryz.f360 (.pair (.val .str) .unit) (.pair (.strct (.pair (.val .str) (.pair (.row 298 ah false) (.pair (.val .bool) .unit)))) .unit) [] []
noncomputable def i6:am:=al 361 Tryz.f361 (.pair (.val (.int .i64)) .unit) (.pair (.strct (.pair (.val .str) (.pair (.row 298 ah false) (.pair (.val .bool) .unit)))) .unit) [] [(3,[0,1,2,7])]
noncomputable def nw:am:=al 362 Tryz.f362 (.pair (.val .bool) .unit) .unit [] []
noncomputable def pW:am:=al 363 Tryz.f363 (.pair (.val .bool) .unit) .unit [] []
noncomputable def mL:am:=al 366 Tryz.f366 (.pair (.strct (.pair (.val (.int .i64)) (.pair (.val (.int .i64)) (.pair (.val bj) (.pair (.val bq) (.pair (.val bq) (.pair (.row 2 (.int .i64) false) .unit))))))) (.pair (.val .bool) .unit)) (.pair (.strct (.pair (.val .str) (.pair (.row 298 ah false) (.pair (.val .bool) .unit)))) .unit) [] []
noncomputable def BL:am:=al 367 Tryz.f367 (.pair (.val .bool) .unit) .unit [] []
noncomputable def tQ:am:=al 368 Tryz.f368 (.pair (.val CS) .unit) .unit [] []
noncomputable def E:bZ:={ty:=[(2,(.int .i64)),(3,(.int .i64)),(4,.bool),(5,(.int .u8)),(9,.str),(28,(.slice 59 ar)),(29,(.slice 57 aO)),(31,bn),(35,(.slice 5 (.int .u8))),(39,(.slice 2 (.int .i64))),(46,(.slice 112 au)),(57,aO),(59,ar),(65,(.slice 110 cD)),(98,(.slice 9 .str)),(110,cD),(112,au),(116,.fn),(126,bq),(164,aG),(187,.err),(195,(.slice 198 eW)),(198,eW),(211,(.slice 298 ah)),(216,bj),(243,(.int .u64)),(255,CS),(257,(.slice 3 (.int .i64))),(265,aQ),(291,aX),(298,ah)],by_:=[(2,8),(9,16),(57,24),(59,56),(110,16),(112,32),(198,48),(298,120)],fns:=[(4,sD),(15,JA),(17,JB),(19,JC),(20,yS),(21,DC),(22,qu),(23,DD),(24,uJ),(31,uK),(36,sE),(42,wS),(50,qv),(61,oG),(62,sF),(63,uL),(66,ri),(67,sG),(70,Bx),(71,qw),(72,nc),(73,k8),(74,jw),(80,sH),(83,sI),(84,sJ),(85,sK),(86,yT),(89,Bz),(90,oH),(91,BA),(94,fq),(97,uM),(98,sL),(99,uN),(100,wT),(101,xy),(102,uO),(109,sM),(116,jL),(123,xz),(124,oI),(127,GD),(130,eC),(131,oJ),(134,BB),(135,BC),(136,k9),(137,wU),(138,oK),(139,ef),(140,DE),(141,wV),(143,uP),(150,DF),(151,rj),(152,wW),(153,yU),(154,DG),(155,yV),(157,yW),(160,iX),(161,dR),(164,uQ),(165,Ax),(166,xA),(167,sN),(178,fF),(179,uR),(181,sO),(184,uS),(187,oL),(188,lE),(189,yX),(190,sP),(191,rk),(192,rl),(193,qx),(194,uT),(195,lc),(197,fo),(198,uU),(223,lF),(224,fG),(225,sR),(226,oM),(237,BD),(238,nv),(239,uV),(240,rm),(241,wX),(242,wY),(243,yY),(244,BE),(245,oO),(246,qy),(247,lW),(248,ld),(249,uW),(250,yZ),(251,BF),(252,BG),(255,za),(275,jf),(279,gE),(280,oP),(281,uX),(282,rn),(283,lf),(284,DH),(285,lG),(286,uY),(287,DI),(288,uZ),(289,mt),(290,nK),(291,wZ),(292,w4),(293,u2),(294,u3),(295,sS),(296,zb),(297,GE),(321,jg),(323,pV),(324,lX),(325,BH),(326,DJ),(327,rp),(328,tP),(329,Ay),(330,lY),(331,iw),(332,zd),(333,oQ),(334,ze),(335,oS),(336,lg),(337,BI),(338,BJ),(349,iY),(350,rq),(351,eL),(352,BK),(353,iZ),(354,w5),(358,j7),(359,mK),(360,rr),(361,i6),(362,nw),(363,pW),(366,mL),(367,BL),(368,tQ)],eqs:=[(110,cD),(126,bq),(216,bj)],tails:=[],cuts:=[]}
noncomputable def Lv (x0:(List Int)):Option ((Bool×Unit)×Unit):=ai E JC [.val (.slice 5 (.int .u8)) x0] []
noncomputable def GF (x0:(List Int)):Option ((aZ×Unit)×Unit):=ai E Bx [.val (.slice 5 (.int .u8)) x0] []
noncomputable def GG:Option (((Int×(List ak)×(List an)×Unit)×Unit)×Unit):=ai E BB [] []
noncomputable def nN (x0:(List Int)) (x1:Int):Option ((Int×Unit)×aZ×Unit):=ai E oK [.ptr 0 aG []] [(0,.box aG (.strct [.val (.slice 5 (.int .u8)) x0,ag x1]))]
noncomputable def fW (x0:aZ):Option ((Int×Unit)×aZ×Unit):=ai E oK [.ptr 0 aG []] [(0,.box aG (.val aG x0))]
noncomputable def qz (x0:Int) (x1:(List Int)) (x2:Int):Option ((Int×Unit)×aZ×Unit):=ai E nc [.ptr 0 aG [],ag x0] [(0,.box aG (.strct [.val (.slice 5 (.int .u8)) x1,ag x2]))]
noncomputable def bF (x0:Int) (x1:aZ):Option ((Int×Unit)×aZ×Unit):=ai E nc [.ptr 0 aG [],ag x0] [(0,.box aG (.val aG x1))]
noncomputable def jM (x0 x1 x2:Int):Option ((Bool×Unit)×Unit):=ai E GD [ag x0,ag x1,ag x2] []
noncomputable def oT (x0:P0):Option ((Bool×Unit)×Unit):=ai E sP [aL x0] []
noncomputable def gd (x0:P0) (x1:Int) (x2:Bool) (x3:(List ab)):Option (Unit×(P0×Int×Bool×(List ab)×Unit)×Unit):=ai E lW [.ptr 0 aQ []] [(0,.box aQ (.strct [aL x0,ag x1,cI x2,.row 1])),(1,.row 298 ah x3 false)]
noncomputable def cO (x0 x1:P0) (x2:Int) (x3:Bool) (x4:(List ab)):Option ((Bool×Unit)×(P0×Int×Bool×(List ab)×Unit)×Unit):=ai E zd [.ptr 0 aQ [],aL x0] [(0,.box aQ (.strct [aL x1,ag x2,cI x3,.row 1])),(1,.row 298 ah x4 false)]
noncomputable def dt (x0:Int) (x1:P0) (x2:Int) (x3:Bool) (x4:(List ab)):Option ((Int×Unit)×(P0×Int×Bool×(List ab)×Unit)×Unit):=ai E qy [.ptr 0 aQ [],ag x0] [(0,.box aQ (.strct [aL x1,ag x2,cI x3,.row 1])),(1,.row 298 ah x4 false)]
noncomputable def fa (x0:aD):Option ((Bool×Unit)×Unit):=ai E yZ [.val bj x0] []
noncomputable def dg (x0:aw):Option ((Bool×Unit)×Unit):=ai E DG [.val cD x0] []
noncomputable def Az (x0:wh):Option ((Bool×Unit)×Unit):=ai E BI [.val CS x0] []
noncomputable def AA (x0 x1:Int):Option ((Bool×Unit)×Unit):=ai E BJ [ag x0,ag x1] []
noncomputable def pX (x0:ab):Option ((Bool×Unit)×Unit):=ai E w4 [.val ah x0] []
noncomputable def bM (x0:ab) (x1:P0) (x2:Int) (x3:Bool) (x4:(List ab)):Option ((Int×Unit)×(P0×Int×Bool×(List ab)×Unit)×Unit):=ai E wZ [.ptr 0 aQ [],.val ah x0] [(0,.box aQ (.strct [aL x1,ag x2,cI x3,.row 1])),(1,.row 298 ah x4 false)]
noncomputable def sT (x0:P0) (x1:Int) (x2:Bool) (x3:(List ab)):Option ((Int×Unit)×(P0×Int×Bool×(List ab)×Unit)×Unit):=ai E oQ [.ptr 0 aQ []] [(0,.box aQ (.strct [aL x0,ag x1,cI x2,.row 1])),(1,.row 298 ah x3 false)]
noncomputable def rs (x0:Int):Option ((P0×Unit)×Unit):=ai E BG [ag x0] []
noncomputable def xB (x0:Int):Option ((aD×Unit)×Unit):=ai E ze [ag x0] []
noncomputable def i7 (x0:P0) (x1:Int) (x2:Bool) (x3:(List ab)):Option ((P0×Unit)×(P0×Int×Bool×(List ab)×Unit)×Unit):=ai E oS [.ptr 0 aQ []] [(0,.box aQ (.strct [aL x0,ag x1,cI x2,.row 1])),(1,.row 298 ah x3 false)]
noncomputable def CT (x0:Int):Option ((P0×Unit)×Unit):=ai E GE [ag x0] []
noncomputable def oU (x0:Int):Option ((P0×Unit)×Unit):=ai E sN [ag x0] []
noncomputable def lZ (x0:P0):Option ((Int×Unit)×Unit):=ai E sO [aL x0] []
noncomputable def cq (x0:P0) (x1:Int):Option ((Int×Bool×Unit)×Unit):=ai E xz [aL x0,ag x1] []
noncomputable def i8 (x0:P0):Option ((b8×Bool×Unit)×Unit):=ai E oI [aL x0] []
noncomputable def mM (x0:P0) (x1:Int) (x2:Bool) (x3:(List ab)):Option ((Int×Unit)×(P0×Int×Bool×(List ab)×Unit)×Unit):=ai E w5 [.ptr 0 aQ []] [(0,.box aQ (.strct [aL x0,ag x1,cI x2,.row 1])),(1,.row 298 ah x3 false)]
noncomputable def sU (x0:Int) (x1:P0) (x2:Int) (x3:Bool) (x4:(List ab)):Option ((Int×Unit)×(P0×Int×Bool×(List ab)×Unit)×Unit):=ai E lg [.ptr 0 aQ [],ag x0] [(0,.box aQ (.strct [aL x1,ag x2,cI x3,.row 1])),(1,.row 298 ah x4 false)]
noncomputable def nO (x0:P0):Option ((aD×Bool×Unit)×Unit):=ai E lc [aL x0] []
noncomputable def pY (x0:P0) (x1:Int) (x2:Bool) (x3:(List ab)):Option ((Int×Unit)×(P0×Int×Bool×(List ab)×Unit)×Unit):=ai E mt [.ptr 0 aQ []] [(0,.box aQ (.strct [aL x0,ag x1,cI x2,.row 1])),(1,.row 298 ah x3 false)]
noncomputable def oV (x0:Int):Option ((Int×Unit)×Unit):=ai E zb [ag x0] []
noncomputable def rt (x0:Int):Option ((P0×Unit)×Unit):=ai E BD [ag x0] []
noncomputable def xC (x0:Int) (x1:P0) (x2:Int) (x3:Bool) (x4:(List ab)):Option ((Int×Unit)×(P0×Int×Bool×(List ab)×Unit)×Unit):=ai E nK [.ptr 0 aQ [],ag x0] [(0,.box aQ (.strct [aL x1,ag x2,cI x3,.row 1])),(1,.row 298 ah x4 false)]
noncomputable def ru (x0:(List ab)) (x1:Int):Option ((Int×Unit)×Unit):=ai E u2 [.val (.slice 298 ah) x0,ag x1] []
noncomputable def rx (x0:(List ab)) (x1:Int):Option ((Int×Unit)×Unit):=ai E u3 [.val (.slice 298 ah) x0,ag x1] []
noncomputable def nQ (x0:(List ab)):Option ((Bool×Unit)×Unit):=ai E ld [.val (.slice 298 ah) x0] []
noncomputable def oW (x0:P0):Option (((List ab)×Bool×Unit)×Unit):=ai E rk [aL x0] []
noncomputable def xD (x0:P0):Option ((P0×Unit)×Unit):=ai E sS [aL x0] []
noncomputable def jx (x0:Int):Option ((P0×Unit)×Unit):=ai E xy [ag x0] []
noncomputable def AB (x0:Int):Option ((P0×Unit)×Unit):=ai E BF [ag x0] []
noncomputable def fH (x0:aD):Option ((P0×Unit)×Unit):=ai E uT [.val bj x0] []
noncomputable def lh (x0:b8):Option ((P0×Unit)×Unit):=ai E uO [.val bq x0] []
noncomputable def ja (x0:(List ab)) (x1 x2:Int):Option ((P0×Unit)×Unit):=ai E uW [.val (.slice 298 ah) x0,ag x1,ag x2] []
noncomputable def oX (x0:(List ab)):Option ((P0×Unit)×Unit):=ai E rl [.val (.slice 298 ah) x0] []
noncomputable def u4 (x0:P0):Option ((aD×Bool×Unit)×Unit):=ai E qx [aL x0] []
noncomputable def oY (x0:P0):Option ((P0×Bool×Unit)×Unit):=ai E yU [aL x0] []
noncomputable def fX (x0 x1:aw):Option ((Bool×Unit)×Unit):=ai E yV [.val cD x0,.val cD x1] []
noncomputable def fb (x0:(List af)):Option ((Bool×Unit)×Unit):=ai E sK [.val (.slice 112 au) x0] []
noncomputable def fY (x0:aV) (x1:Int):Option ((Int×Unit)×Unit):=ai E sF [.val bn x0,ag x1] []
noncomputable def sV (x0:P0):Option ((Bool×Unit)×Unit):=ai E sM [aL x0] []
noncomputable def mN (x0:aV):Option ((Bool×Unit)×Unit):=ai E oG [.val bn x0] []
noncomputable def j8 (x0:aV):Option (((Int×(List ak)×(List an)×Unit)×Unit)×Unit):=ai E sJ [.val bn x0] []
noncomputable def gF (x0:aV) (x1:P0):Option ((Int×Unit)×Unit):=ai E sI [.val bn x0,aL x1] []
noncomputable def mO (x0:aV) (x1:P0) (x2:Int):Option (((Int×(List ak)×(List an)×Unit)×Int×Unit)×Unit):=ai E qv [.val bn x0,aL x1,ag x2] []
noncomputable def l4 (x0:(List Int)) (x1:Int):Option ((Bool×Unit)×Unit):=ai E uM [.val (.slice 2 (.int .i64)) x0,ag x1] []
noncomputable def iy (x0:aV) (x1:Int):Option (((List Int)×Unit)×Unit):=ai E jw [.val bn x0,ag x1] []
noncomputable def li (x0:Int) (x1:P0) (x2:Int) (x3:(List ak)) (x4:(List an)):Option (((Int×(List ak)×(List an)×Unit)×Unit)×Unit):=ai E sL [.strct [ag x0,.row 0,.row 1],aL x1,ag x2] [(0,.row 59 ar x3 false),(1,.row 57 aO x4 false)]
noncomputable def wi (x0:aV) (x1 x2:Int):Option ((Int×Unit)×Unit):=ai E uL [.val bn x0,ag x1,ag x2] []
noncomputable def gx (x0:aV) (x1:Int):Option (((List af)×Unit)×Unit):=ai E wT [.val bn x0,ag x1] []
noncomputable def AC (x0 x1:(List af)):Option (((List aP)×Unit)×Unit):=ai E uQ [.val (.slice 112 au) x0,.val (.slice 112 au) x1] []
noncomputable def HA (x0:(List af)) (x1:aw):Option ((P0×Unit)×Unit):=ai E Ax [.val (.slice 112 au) x0,.val cD x1] []
noncomputable def zf (x0:(List af)) (x1:aw) (x2:P0):Option (((List af)×Unit)×Unit):=ai E xA [.val (.slice 112 au) x0,.val cD x1,aL x2] []
noncomputable def AD (x0 x1 x2:(List af)):Option (((List af)×(List aw)×Bool×Unit)×Unit):=ai E uN [.val (.slice 112 au) x0,.val (.slice 112 au) x1,.val (.slice 112 au) x2] []
noncomputable def sW (x0:aV) (x1:P0) (x2:(List Int)) (x3:(List af)):Option (((Int×(List ak)×(List an)×Unit)×Int×Bool×Unit)×Unit):=ai E yT [.val bn x0,aL x1,.val (.slice 2 (.int .i64)) x2,.val (.slice 112 au) x3] []
noncomputable def pZ (x0:aV) (x1 x2:P0):Option (((Int×(List ak)×(List an)×Unit)×(List aw)×Int×Unit)×Unit):=ai E wS [.val bn x0,aL x1,aL x2] []
noncomputable def ry (x0:aV) (x1:P0):Option ((Int×Unit)×Unit):=ai E BC [.val bn x0,aL x1] []
noncomputable def mP (x0:aZ):Option ((aw×Unit)×aZ×Unit):=ai E wV [.ptr 0 aG []] [(0,.box aG (.val aG x0))]
noncomputable def u5 (x0:(List af)) (x1:aw) (x2:P0):Option (((List af)×Bool×Unit)×Unit):=ai E DE [.val (.slice 112 au) x0,.val cD x1,aL x2] []
noncomputable def nR (x0:(List af)) (x1:Int) (x2:aZ):Option (((List af)×Unit)×aZ×Unit):=ai E k9 [.ptr 0 aG [],.val (.slice 112 au) x0,ag x1] [(0,.box aG (.val aG x2))]
noncomputable def lj (x0:aV) (x1:P0) (x2:(List af)):Option (((Int×(List ak)×(List an)×Unit)×Int×Int×Unit)×Unit):=ai E uK [.val bn x0,aL x1,.val (.slice 112 au) x2] []
noncomputable def sX (x0:Int) (x1:aZ):Option ((Bool×Unit)×aZ×Unit):=ai E uP [.ptr 0 aG [],ag x0] [(0,.box aG (.val aG x1))]
noncomputable def sY (x0:aZ):Option ((Int×Unit)×aZ×Unit):=ai E oM [.ptr 0 aG []] [(0,.box aG (.val aG x0))]
noncomputable def sZ (x0 x1:Int) (x2:aZ):Option ((Int×Unit)×aZ×Unit):=ai E uS [.ptr 0 aG [],ag x0,ag x1] [(0,.box aG (.val aG x2))]
noncomputable def kz (x0 x1:Int) (x2:aZ):Option ((Int×Unit)×aZ×Unit):=ai E wU [.ptr 0 aG [],ag x0,ag x1] [(0,.box aG (.val aG x2))]
noncomputable def u6 (x0:Int) (x1:(List Int)) (x2:Int):Option (((Int×(List ak)×(List an)×Unit)×Unit)×aZ×Unit):=ai E qw [.ptr 0 aG [],ag x0] [(0,.box aG (.strct [.val (.slice 5 (.int .u8)) x1,ag x2]))]
noncomputable def xE (x0:(List Int)):Option (((Int×(List ak)×(List an)×Unit)×Int×Int×Unit)×Unit):=ai E yS [.val (.slice 5 (.int .u8)) x0] []
noncomputable def du (x0 x1 x2:Int):Option ((Bool×Unit)×Unit):=ai E Bz [ag x0,ag x1,ag x2] []
noncomputable def rz (x0:ak) (x1:Int):Option ((Bool×Unit)×Int×Unit):=ai E oJ [.val ar x0,.ptr 0 (.int .i64) []] [(0,.box (.int .i64) (ag x1))]
noncomputable def dD (x0:(List ak)) (x1:Int):Option ((Int×Unit)×Int×Unit):=ai E eC [.val (.slice 59 ar) x0,.fn 131 [.ptr 0 (.int .i64) []]] [(0,.box (.int .i64) (ag x1))]
noncomputable def dA (x0:aV) (x1:Int):Option ((Int×Unit)×Unit):=ai E ri [.val bn x0,ag x1] []
noncomputable def nS (x0:aV) (x1:(List Int)) (x2:Int):Option ((Bool×Unit)×Unit):=ai E oH [.val bn x0,.val (.slice 2 (.int .i64)) x1,ag x2] []
noncomputable def oZ (x0:aw):Option ((Bool×Unit)×Unit):=ai E DF [.val cD x0] []
noncomputable def lk (x0:Int):Option ((Bool×Unit)×Unit):=ai E nv [ag x0] []
noncomputable def f6 (x0 x1:Int):Option ((Int×Unit)×Unit):=ai E lE [ag x0,ag x1] []
noncomputable def s4 (x0:(List Int)):Option ((Int×Unit)×Unit):=ai E oL [.val (.slice 3 (.int .i64)) x0] []
noncomputable def o0 (x0 x1:aw):Option ((Int×Unit)×Unit):=ai E rj [.val cD x0,.val cD x1] []
noncomputable def rA (x0:P0) (x1:Int):Option ((Bool×Unit)×Unit):=ai E uV [aL x0,ag x1] []
noncomputable def dv (x0 x1:P0):Option ((Bool×Unit)×Unit):=ai E jg [aL x0,aL x1] []
noncomputable def kA (x0 x1:P0):Option ((P0×Bool×Unit)×Unit):=ai E jf [aL x0,aL x1] []
noncomputable def cn (x0 x1:P0):Option ((P0×Bool×Unit)×Unit):=ai E lF [aL x0,aL x1] []
noncomputable def fd (x0 x1:P0):Option ((P0×Unit)×Unit):=ai E fG [aL x0,aL x1] []
noncomputable def eX (x0:P0) (x1:Bool) (x2:(List ab)):Option (Unit×(P0×(List ab)×Bool×Unit)×Unit):=ai E oP [.ptr 0 aX []] [(0,.box aX (.strct [aL x0,.row 1,cI x1])),(1,.row 298 ah x2 false)]
noncomputable def c7 (x0 x1:P0):Option ((Bool×Unit)×Unit):=ai E lG [aL x0,aL x1] []
noncomputable def ll (x0:P0) (x1:Bool) (x2:(List ab)):Option ((P0×Unit)×(P0×(List ab)×Bool×Unit)×Unit):=ai E lX [.ptr 0 aX []] [(0,.box aX (.strct [aL x0,.row 1,cI x1])),(1,.row 298 ah x2 false)]
noncomputable def bu (x0 x1:P0) (x2:Bool) (x3:(List ab)):Option ((Bool×Unit)×(P0×(List ab)×Bool×Unit)×Unit):=ai E rp [.ptr 0 aX [],aL x0] [(0,.box aX (.strct [aL x1,.row 1,cI x2])),(1,.row 298 ah x3 false)]
noncomputable def gU (x0:Int) (x1:P0) (x2:Bool) (x3:(List ab)):Option ((Int×Unit)×(P0×(List ab)×Bool×Unit)×Unit):=ai E pV [.ptr 0 aX [],ag x0] [(0,.box aX (.strct [aL x1,.row 1,cI x2])),(1,.row 298 ah x3 false)]
noncomputable def aR (x0:ab) (x1:P0) (x2:Bool) (x3:(List ab)):Option ((Int×Unit)×(P0×(List ab)×Bool×Unit)×Unit):=ai E tP [.ptr 0 aX [],.val ah x0] [(0,.box aX (.strct [aL x1,.row 1,cI x2])),(1,.row 298 ah x3 false)]
noncomputable def strings_Cut (x0 x1:P0):Option ((P0×P0×Bool×Unit)×Unit):=ai E jL [aL x0,aL x1] []
noncomputable def bG (x0:aD) (x1:P0) (x2:Bool) (x3:(List ab)):Option ((Int×Unit)×(P0×(List ab)×Bool×Unit)×Unit):=ai E mK [.ptr 0 aX [],.val bj x0] [(0,.box aX (.strct [aL x1,.row 1,cI x2])),(1,.row 298 ah x3 false)]
noncomputable def ge (x0:P0) (x1:Bool) (x2:(List ab)):Option ((Int×Unit)×(P0×(List ab)×Bool×Unit)×Unit):=ai E j7 [.ptr 0 aX []] [(0,.box aX (.strct [aL x0,.row 1,cI x1])),(1,.row 298 ah x2 false)]
noncomputable def lm (x0:Int):Option ((P0×Unit)×Unit):=ai E uY [ag x0] []
noncomputable def zg (x0:Int):Option ((aD×Unit)×Unit):=ai E DI [ag x0] []
noncomputable def gf (x0:P0) (x1:Bool) (x2:(List ab)):Option ((P0×Unit)×(P0×(List ab)×Bool×Unit)×Unit):=ai E rr [.ptr 0 aX []] [(0,.box aX (.strct [aL x0,.row 1,cI x1])),(1,.row 298 ah x2 false)]
noncomputable def fe (x0:aD):Option ((Bool×Unit)×Unit):=ai E yY [.val bj x0] []
noncomputable def ny (x0 x1:Int):Option ((P0×Unit)×Unit):=ai E fo [ag x0,ag x1] []
noncomputable def gG (x0:Int):Option ((P0×Unit)×Unit):=ai E yW [ag x0] []
noncomputable def dU (x0:aD):Option ((P0×Unit)×Unit):=ai E uZ [.val bj x0] []
noncomputable def zh (x0:Bool):Option ((aD×Unit)×Unit):=ai E DH [cI x0] []
noncomputable def ff (x0:P0) (x1 x2:Int):Option ((Int×Bool×Unit)×Unit):=ai E fF [aL x0,ag x1,ag x2] []
noncomputable def wj (x0:Int):Option ((aD×Unit)×Unit):=ai E BE [ag x0] []
noncomputable def gH (x0:P0):Option ((aD×Bool×Unit)×Unit):=ai E oO [aL x0] []
noncomputable def l5 (x0:Int):Option ((P0×Unit)×Unit):=ai E za [ag x0] []
noncomputable def xF (x0:P0):Option ((Int×Unit)×Unit):=ai E sR [aL x0] []
noncomputable def jb (x0:b8):Option ((P0×Unit)×Unit):=ai E uU [.val bq x0] []
noncomputable def eM (x0:P0):Option ((b8×Bool×Unit)×Unit):=ai E uR [aL x0] []
noncomputable def wk (x0:Int):Option ((P0×Unit)×Unit):=ai E BK [ag x0] []
noncomputable def gI (x0:P0) (x1:Bool) (x2:(List ab)):Option (((Int×Int×aD×b8×b8×(List Int)×Unit)×Bool×Unit)×(P0×(List ab)×Bool×Unit)×Unit):=ai E mL [.ptr 0 aX []] [(0,.box aX (.strct [aL x0,.row 1,cI x1])),(1,.row 298 ah x2 false)]
noncomputable def bw (x0 x1:Int) (x2:P0) (x3:Bool) (x4:(List ab)):Option ((Int×Unit)×(P0×(List ab)×Bool×Unit)×Unit):=ai E gE [.ptr 0 aX [],ag x0,ag x1] [(0,.box aX (.strct [aL x2,.row 1,cI x3])),(1,.row 298 ah x4 false)]
noncomputable def fg (x0 x1:Int) (x2:P0) (x3:Bool) (x4:(List ab)):Option ((Int×Unit)×(P0×(List ab)×Bool×Unit)×Unit):=ai E i6 [.ptr 0 aX [],ag x0,ag x1] [(0,.box aX (.strct [aL x2,.row 1,cI x3])),(1,.row 298 ah x4 false)]
noncomputable def ln (x0:Int) (x1:P0) (x2:Bool) (x3:(List ab)):Option ((Int×Unit)×(P0×(List ab)×Bool×Unit)×Unit):=ai E iY [.ptr 0 aX [],ag x0] [(0,.box aX (.strct [aL x1,.row 1,cI x2])),(1,.row 298 ah x3 false)]
noncomputable def rB (x0:Int):Option ((P0×Unit)×Unit):=ai E BH [ag x0] []
noncomputable def u7 (x0:Int):Option ((Int×Unit)×Unit):=ai E DJ [ag x0] []
noncomputable def qA (x0:ab):Option ((wh×Unit)×Unit):=ai E tQ [.val ah x0] []
noncomputable def wl (x0:wh):Option ((Bool×Unit)×Unit):=ai E BL [.val CS x0] []
noncomputable def db (x0:ab):Option ((Bool×Unit)×Unit):=ai E nw [.val ah x0] []
noncomputable def dE (x0:ab):Option ((Bool×Unit)×Unit):=ai E pW [.val ah x0] []
noncomputable def o3 (x0:ab):Option ((Bool×Unit)×Unit):=ai E rq [.val ah x0] []
noncomputable def s5 (x0:(List ab)) (x1 x2:Int):Option ((Int×Unit)×Unit):=ai E Ay [.val (.slice 298 ah) x0,ag x1,ag x2] []
noncomputable def nT (x0:(List ab)):Option ((Bool×Unit)×Unit):=ai E uX [.val (.slice 298 ah) x0] []
noncomputable def o4 (x0:P0):Option (((List ab)×Bool×Unit)×Unit):=ai E rm [aL x0] []
noncomputable def strings_ReplaceAll (x0 x1 x2:P0):Option ((P0×Unit)×Unit):=ai E eL [aL x0,aL x1,aL x2] []
noncomputable def eg (x0:(List ab)) (x1 x2:Int):Option ((P0×Unit)×Unit):=ai E lY [.val (.slice 298 ah) x0,ag x1,ag x2] []
noncomputable def strings_Join (x0:(List P0)) (x1:P0):Option ((P0×Unit)×Unit):=ai E iZ [.val (.slice 9 .str) x0,aL x1] []
noncomputable def o5 (x0:(List ab)):Option ((P0×Unit)×Unit):=ai E rn [.val (.slice 298 ah) x0] []
noncomputable def BM (x0:(List ab)):Option ((P0×Bool×Unit)×Unit):=ai E wX [.val (.slice 298 ah) x0] []
noncomputable def jy (x0 x1:P0):Option ((P0×Unit)×Unit):=ai E iw [aL x0,aL x1] []
noncomputable def iz (x0 x1:P0):Option ((P0×Unit)×Unit):=ai E lf [aL x0,aL x1] []
noncomputable def iA (x0 x1:P0):Option ((P0×Unit)×Unit):=ai E iX [aL x0,aL x1] []
noncomputable def u9 (x0:P0):Option ((Bool×Unit)×Unit):=ai E wY [aL x0] []
noncomputable def s6 (x0:P0):Option ((P0×Bool×Unit)×Unit):=ai E yX [aL x0] []
noncomputable def p3 (x0:P0):Option ((Bool×Unit)×Unit):=ai E wW [aL x0] []
noncomputable def s7 (x0:(List af)):Option ((Bool×Unit)×Unit):=ai E sH [.val (.slice 112 au) x0] []
noncomputable def AE (x0:P0):Option ((Bool×Unit)×Unit):=ai E BA [aL x0] []
noncomputable def zi (x0:aV):Option ((Bool×Unit)×Unit):=ai E sE [.val bn x0] []
noncomputable def gV (x0:(List Int)) (x1:Int):Option ((Int×Unit)×Unit):=ai E dR [.val (.slice 2 (.int .i64)) x0,ag x1] []
noncomputable def cL (x0:(List Int)) (x1:Int):Option ((Bool×Unit)×Unit):=ai E fq [.val (.slice 2 (.int .i64)) x0,ag x1] []
noncomputable def ej (x0:(List Int)):Option (Unit×(List Int)×Unit):=ai E ef [.row 0] [(0,.row 2 (.int .i64) x0 false)]
noncomputable def lp (x0:aV) (x1:Int):Option (((List Int)×Unit)×Unit):=ai E k8 [.val bn x0,ag x1] []
noncomputable def xG (x0:aV) (x1 x2:Int):Option ((Int×Unit)×Unit):=ai E sG [.val bn x0,ag x1,ag x2] []
noncomputable def HC (x0:aV) (x1 x2:Int):Option ((Int×Unit)×Unit):=ai E JB [.val bn x0,ag x1,ag x2] []
noncomputable def zj (x0:aV) (x1:Int):Option (((List Int)×Unit)×Unit):=ai E DC [.val bn x0,ag x1] []
noncomputable def Lw (x0:aV) (x1 x2:Int):Option ((Int×Unit)×Unit):=ai E JA [.val bn x0,ag x1,ag x2] []
noncomputable def DK (x0:aV) (x1:Int):Option (((List Int)×Unit)×Unit):=ai E DD [.val bn x0,ag x1] []
noncomputable def va (x0 x1:(List Int)):Option ((Bool×Unit)×Unit):=ai E qu [.val (.slice 2 (.int .i64)) x0,.val (.slice 2 (.int .i64)) x1] []
noncomputable def wm (x0:(List Int)) (x1:Int):Option ((Bool×Unit)×Unit):=ai E uJ [.val (.slice 2 (.int .i64)) x0,ag x1] []
noncomputable def JD (x0:(List Int)):Option ((Bool×Unit)×Unit):=ai E sD [.val (.slice 5 (.int .u8)) x0] []
noncomputable def HD:Code:=aK Tryz.f190
def unU (n:Nat):List SV:=List.replicate n .undef
noncomputable def mu (x0:P0) (x1:Int):Option ((Bool×Unit)×Unit):=bJ E sP [] HD 208 {slots:=[aL x0,aa,aa,ag x1]++unU 19,res:=[],nx:=0,n0:=0}
noncomputable def AF:Code:=aK Tryz.f247
noncomputable def ia (x0:P0) (x1:Int) (x2:Bool) (x3:(List ab)):Option (Unit×(P0×Int×Bool×(List ab)×Unit)×Unit):=bJ E lW [(0,.box aQ (aa)),(1,.row 298 ah [] false)] AF 16 {slots:=[.ptr 0 aQ []]++unU 30,res:=[(0,.box aQ (.strct [aL x0,ag x1,cI x2,.row 1])),(1,.row 298 ah x3 false)],nx:=2,n0:=2}
noncomputable def Fz:Code:=aK Tryz.f246
noncomputable def cz (x0 x1:Int) (x2:P0) (x3:Int) (x4:Bool) (x5:(List ab)):Option ((Int×Unit)×(P0×Int×Bool×(List ab)×Unit)×Unit):=bJ E qy [(0,.box aQ (aa)),(1,.row 298 ah [] false)] Fz 992 {slots:=[.ptr 0 aQ [],ag x0,aa,aa,aa,ag x1]++unU 37,res:=[(0,.box aQ (.strct [aL x2,ag x3,cI x4,.row 2])),(2,.row 298 ah x5 false)],nx:=3,n0:=2}
noncomputable def DL:Code:=aK Tryz.f333
noncomputable def gW (x0 x1:P0) (x2:Int) (x3:Bool) (x4:(List ab)):Option ((Int×Unit)×(P0×Int×Bool×(List ab)×Unit)×Unit):=bJ E oQ [(0,.box aQ (aa)),(1,.row 298 ah [] false)] DL 224 {slots:=[.ptr 0 aQ [],aa,aa,aL x0]++unU 89,res:=[(0,.box aQ (.strct [aL x1,ag x2,cI x3,.row 1])),(1,.row 298 ah x4 false)],nx:=2,n0:=2}
noncomputable def DM:Code:=aK Tryz.f335
noncomputable def cT (x0:Int) (x1:P0) (x2:Int) (x3:Bool) (x4:(List ab)):Option ((P0×Unit)×(P0×Int×Bool×(List ab)×Unit)×Unit):=bJ E oS [(0,.box aQ (aa)),(1,.row 298 ah [] false)] DM 224 {slots:=[.ptr 0 aQ [],aa,aa,ag x0]++unU 91,res:=[(0,.box aQ (.strct [aL x1,ag x2,cI x3,.row 1])),(1,.row 298 ah x4 false)],nx:=2,n0:=2}
noncomputable def HE:Code:=aK Tryz.f167
noncomputable def qB (x0:Int) (x1:P0):Option ((P0×Unit)×Unit):=bJ E sN [] HE 480 {slots:=[ag x0,aa,aa,aL x1]++unU 18,res:=[],nx:=0,n0:=0}
noncomputable def HF:Code:=aK Tryz.f181
noncomputable def qC (x0:P0) (x1:Int):Option ((Int×Unit)×Unit):=bJ E sO [] HF 208 {slots:=[aL x0,aa,aa,ag x1]++unU 9,res:=[],nx:=0,n0:=0}
noncomputable def Lx:Code:=aK Tryz.f123
noncomputable def kB (x0:P0) (x1 x2:Int):Option ((Int×Bool×Unit)×Unit):=bJ E xz [] Lx 976 {slots:=[aL x0,aa,aa,aa,aa,aa,ag x1,ag x2]++unU 44,res:=[],nx:=0,n0:=0}
noncomputable def DN:Code:=aK Tryz.f124
noncomputable def fx (x0:P0) (x1 x2 x3:Int) (x4 x5:Bool) (x6 x7:Int) (x8 x9:Bool):Option ((b8×Bool×Unit)×Unit):=bJ E oI [] DN 992 {slots:=[aL x0,aa,.ptr 0 bq [],aa,.ptr 1 bq [],ag x1]++unU 70,res:=[(0,.box bq (.strct [.strct [ag x2,ag x3],cI x4,cI x5])),(1,.box bq (.strct [.strct [ag x6,ag x7],cI x8,cI x9]))],nx:=2,n0:=0}
noncomputable def vb:Code:=aK Tryz.f336
noncomputable def nd (x0:Int) (x1:P0) (x2:Int) (x3:Bool) (x4:(List ab)) (x5:(List Int)):Option ((Int×Unit)×(P0×Int×Bool×(List ab)×Unit)×Unit):=bJ E lg [(0,.box aQ (aa)),(1,.row 298 ah [] false)] vb 224 {slots:=[.ptr 0 aQ [],ag x0,aa,aa,aa,.row 2]++unU 24,res:=[(0,.box aQ (.strct [aL x1,ag x2,cI x3,.row 1])),(1,.row 298 ah x4 false),(2,.row 2 (.int .i64) x5 false)],nx:=3,n0:=2}
noncomputable def vc:Code:=aK Tryz.f195
noncomputable def aE (x0 x1:Int) (x2:P0) (x3 x4:Int) (x5:P0):Option ((aD×Bool×Unit)×Unit):=bJ E lc [] vc 60 {slots:=[aa,aa,.ptr 0 bj [],aa,.ptr 1 bj []]++unU 71,res:=[(0,.box bj (.strct [ag x0,ag x1,aL x2])),(1,.box bj (.strct [ag x3,ag x4,aL x5]))],nx:=2,n0:=0}
noncomputable def dw (x0:P0) (x1 x2 x3:Int) (x4:P0) (x5 x6:Int) (x7:P0):Option ((aD×Bool×Unit)×Unit):=bJ E lc [] vc 475056 {slots:=[aL x0,aa,.ptr 0 bj [],aa,.ptr 1 bj [],ag x1]++unU 70,res:=[(0,.box bj (.strct [ag x2,ag x3,aL x4])),(1,.box bj (.strct [ag x5,ag x6,aL x7]))],nx:=2,n0:=0}
noncomputable def w6:Code:=aK Tryz.f289
noncomputable def fy (x0:Int) (x1:P0) (x2:Int) (x3:Bool) (x4:(List ab)):Option ((Int×Unit)×(P0×Int×Bool×(List ab)×Unit)×Unit):=bJ E mt [(0,.box aQ (aa)),(1,.row 298 ah [] false)] w6 212880 {slots:=[.ptr 0 aQ [],aa,aa,aa,aa,ag x0]++unU 140,res:=[(0,.box aQ (.strct [aL x1,ag x2,cI x3,.row 2])),(2,.row 298 ah x4 false)],nx:=3,n0:=2}
noncomputable def dF (x0:P0) (x1:Int) (x2:P0) (x3:Int) (x4:Bool) (x5:(List ab)):Option ((Int×Unit)×(P0×Int×Bool×(List ab)×Unit)×Unit):=bJ E mt [(0,.box aQ (aa)),(1,.row 298 ah [] false)] w6 976 {slots:=[.ptr 0 aQ [],aa,aa,aa,aa,aa,aa,aL x0,ag x1]++unU 137,res:=[(0,.box aQ (.strct [aL x2,ag x3,cI x4,.row 2])),(2,.row 298 ah x5 false)],nx:=3,n0:=2}
noncomputable def zk:Code:=aK Tryz.f290
noncomputable def mv (x0 x1:Int) (x2:P0) (x3:Int) (x4:Bool) (x5:(List ab)) (x6:(List Int)):Option ((Int×Unit)×(P0×Int×Bool×(List ab)×Unit)×Unit):=bJ E nK [(0,.box aQ (aa)),(1,.row 298 ah [] false)] zk 464 {slots:=[.ptr 0 aQ [],ag x0,aa,aa,aa,.row 2,ag x1]++unU 27,res:=[(0,.box aQ (.strct [aL x2,ag x3,cI x4,.row 1])),(1,.row 298 ah x5 false),(2,.row 2 (.int .i64) x6 false)],nx:=3,n0:=2}
noncomputable def JE:Code:=aK Tryz.f293
noncomputable def nU (x0:(List ab)) (x1 x2 x3:Int):Option ((Int×Unit)×Unit):=bJ E u2 [] JE 464 {slots:=[.val (.slice 298 ah) x0,ag x1,aa,aa,aa,ag x2,ag x3]++unU 37,res:=[],nx:=0,n0:=0}
noncomputable def JF:Code:=aK Tryz.f294
noncomputable def nV (x0:(List ab)) (x1 x2 x3:Int):Option ((Int×Unit)×Unit):=bJ E u3 [] JF 464 {slots:=[.val (.slice 298 ah) x0,ag x1,aa,aa,aa,ag x2,ag x3]++unU 24,res:=[],nx:=0,n0:=0}
noncomputable def vd:Code:=aK Tryz.f248
noncomputable def dk (x0:(List ab)) (x1:Int):Option ((Bool×Unit)×Unit):=bJ E ld [] vd 464 {slots:=[.val (.slice 298 ah) x0,aa,aa,ag x1]++unU 83,res:=[],nx:=0,n0:=0}
noncomputable def HG:Code:=aK Tryz.f295
noncomputable def jz (x0 x1:P0) (x2:Int):Option ((P0×Unit)×Unit):=bJ E sS [] HG 464 {slots:=[aL x0,aa,aa,aL x1,ag x2]++unU 21,res:=[],nx:=0,n0:=0}
noncomputable def Ly:Code:=aK Tryz.f101
noncomputable def mQ (x0:Int) (x1:P0):Option ((P0×Unit)×Unit):=bJ E xy [] Ly 480 {slots:=[ag x0,aa,aa,aL x1]++unU 25,res:=[],nx:=0,n0:=0}
noncomputable def JG:Code:=aK Tryz.f249
noncomputable def jA (x0:(List ab)) (x1:P0) (x2 x3 x4:Int) (x5:aD) (x6 x7:b8) (x8:(List Int)):Option ((P0×Unit)×Unit):=bJ E uW [] JG 2000 {slots:=[.val (.slice 298 ah) x0,aa,aa,aa,aa,aa,aa,.ptr 0 ah [],aa,aa,aL x1,ag x2]++unU 101,res:=[(0,.box ah (.strct [ag x3,ag x4,.val bj x5,.val bq x6,.val bq x7,.val (.slice 2 (.int .i64)) x8]))],nx:=1,n0:=0}
noncomputable def FA:Code:=aK Tryz.f193
noncomputable def gh (x0:P0) (x1:Bool) (x2 x3:Int) (x4:P0):Option ((aD×Bool×Unit)×Unit):=bJ E qx [] FA 992 {slots:=[aL x0,aa,.ptr 0 bj [],aa,cI x1]++unU 43,res:=[(0,.box bj (.strct [ag x2,ag x3,aL x4]))],nx:=1,n0:=0}
noncomputable def HH:Code:=aK Tryz.f85
noncomputable def jB (x0:(List af)) (x1:Int):Option ((Bool×Unit)×Unit):=bJ E sK [] HH 464 {slots:=[.val (.slice 112 au) x0,aa,aa,ag x1]++unU 67,res:=[],nx:=0,n0:=0}
noncomputable def HI:Code:=aK Tryz.f62
noncomputable def mw (x0 x1 x2:Int) (x3:(List ak)) (x4:(List an)):Option ((Int×Unit)×Unit):=bJ E sF [] HI 208 {slots:=[aa,ag x0,.ptr 0 bn [],aa,aa,ag x1]++unU 16,res:=[(0,.box bn (.strct [ag x2,.val (.slice 59 ar) x3,.val (.slice 57 aO) x4]))],nx:=1,n0:=0}
noncomputable def HJ:Code:=aK Tryz.f109
noncomputable def my (x0:P0) (x1:Int):Option ((Bool×Unit)×Unit):=bJ E sM [] HJ 464 {slots:=[aL x0,aa,aa,ag x1]++unU 24,res:=[],nx:=0,n0:=0}
noncomputable def xH:Code:=aK Tryz.f61
noncomputable def eP (x0 x1:Int) (x2:(List ak)) (x3:(List an)):Option ((Bool×Unit)×Unit):=bJ E oG [] xH 464 {slots:=[aa,.ptr 0 bn [],aa,ag x0]++unU 161,res:=[(0,.box bn (.strct [ag x1,.val (.slice 59 ar) x2,.val (.slice 57 aO) x3]))],nx:=1,n0:=0}
noncomputable def HK:Code:=aK Tryz.f84
noncomputable def mz (x0 x1:Int) (x2:(List ak)) (x3:(List an)) (x4 x5:Int) (x6:(List ak)) (x7:(List an)) (x8:(List ak)) (x9:(List an)):Option (((Int×(List ak)×(List an)×Unit)×Unit)×Unit):=bJ E sJ [] HK 464 {slots:=[aa,.ptr 0 bn [],.ptr 1 bn [],.ptr 2 bn [],ag x0]++unU 37,res:=[(0,.box bn (.strct [ag x1,.val (.slice 59 ar) x2,.val (.slice 57 aO) x3])),(1,.box bn (.strct [ag x4,.row 3,.row 4])),(2,.box bn (.strct [ag x5,.row 5,.row 6])),(3,.row 59 ar x6 false),(4,.row 57 aO x7 false),(5,.row 59 ar x8 false),(6,.row 57 aO x9 false)],nx:=7,n0:=0}
noncomputable def HL:Code:=aK Tryz.f83
noncomputable def mA (x0:P0) (x1 x2:Int) (x3:(List ak)) (x4:(List an)):Option ((Int×Unit)×Unit):=bJ E sI [] HL 208 {slots:=[aa,aL x0,.ptr 0 bn [],aa,aa,ag x1]++unU 21,res:=[(0,.box bn (.strct [ag x2,.val (.slice 59 ar) x3,.val (.slice 57 aO) x4]))],nx:=1,n0:=0}
noncomputable def FB:Code:=aK Tryz.f50
noncomputable def dG (x0:P0) (x1:Int) (x2:Bool) (x3 x4:Int) (x5:(List ak)) (x6:(List an)) (x7 x8:Int) (x9:(List an)) (x10:(List ak)) (x11:(List an)) (x12:(List ak)) (x13:(List an)):Option (((Int×(List ak)×(List an)×Unit)×Int×Unit)×Unit):=bJ E qv [] FB 8144 {slots:=[aa,aL x0,ag x1,.ptr 0 bn [],aa,aa,.ptr 1 bn [],aa,.ptr 2 bn [],.row 3,cI x2,ag x3]++unU 74,res:=[(0,.box bn (.strct [ag x4,.val (.slice 59 ar) x5,.val (.slice 57 aO) x6])),(1,.box bn (.strct [ag x7,.row 4,.row 5])),(2,.box bn (.strct [ag x8,.row 6,.row 7])),(3,.row 57 aO x9 false),(4,.row 59 ar x10 false),(5,.row 57 aO x11 false),(6,.row 59 ar x12 false),(7,.row 57 aO x13 false)],nx:=8,n0:=0}
noncomputable def JH:Code:=aK Tryz.f97
noncomputable def nW (x0:(List Int)) (x1 x2:Int):Option ((Bool×Unit)×Unit):=bJ E uM [] JH 208 {slots:=[.val (.slice 2 (.int .i64)) x0,ag x1,aa,aa,aa,ag x2]++unU 12,res:=[],nx:=0,n0:=0}
noncomputable def qD:Code:=aK Tryz.f74
noncomputable def iB (x0 x1:Int) (x2:(List ak)) (x3:(List an)) (x4:(List Int)):Option (((List Int)×Unit)×Unit):=bJ E jw [] qD 464 {slots:=[aa,aa,.ptr 0 bn [],aa,aa,.row 1,ag x0]++unU 71,res:=[(0,.box bn (.strct [ag x1,.val (.slice 59 ar) x2,.val (.slice 57 aO) x3])),(1,.row 2 (.int .i64) x4 false)],nx:=2,n0:=0}
noncomputable def HM:Code:=aK Tryz.f98
noncomputable def fI (x0:P0) (x1 x2:Int) (x3:(List ak)) (x4:(List an)) (x5 x6:Int) (x7:(List ak)) (x8:(List an)):Option (((Int×(List ak)×(List an)×Unit)×Unit)×Unit):=bJ E sL [(0,.row 59 ar [] false),(1,.row 57 aO [] false)] HM 208 {slots:=[aa,aL x0,ag x1,.ptr 2 bn [],aa,aa,.ptr 3 bn [],ag x2]++unU 22,res:=[(0,.row 59 ar x3 false),(1,.row 57 aO x4 false),(2,.box bn (.strct [ag x5,.row 0,.row 1])),(3,.box bn (.strct [ag x6,.row 4,.row 5])),(4,.row 59 ar x7 false),(5,.row 57 aO x8 false)],nx:=6,n0:=2}
noncomputable def JI:Code:=aK Tryz.f63
noncomputable def lq (x0 x1:Int) (x2 x3:(List Int)):Option ((Int×Unit)×Unit):=bJ E uL [] JI 2000 {slots:=[aa,aa,aa,aa,aa,aa,aa,.row 0,.row 1,ag x0,ag x1]++unU 23,res:=[(0,.row 2 (.int .i64) x2 false),(1,.row 2 (.int .i64) x3 false)],nx:=2,n0:=0}
noncomputable def JJ:Code:=aK Tryz.f164
noncomputable def aU (x0 x1:(List af)) (x2 x3:Int) (x4:(List aP)):Option (((List aP)×Unit)×Unit):=bJ E uQ [] JJ 2016 {slots:=[.val (.slice 112 au) x0,.val (.slice 112 au) x1,aa,aa,aa,.row 0,ag x2,ag x3]++unU 120,res:=[(0,.row 198 eW x4 false)],nx:=1,n0:=0}
noncomputable def MI:Code:=aK Tryz.f165
noncomputable def s8 (x0:(List af)) (x1 x2 x3:Int):Option ((P0×Unit)×Unit):=bJ E Ax [] MI 208 {slots:=[.val (.slice 112 au) x0,aa,aa,.ptr 0 cD [],aa,ag x1]++unU 18,res:=[(0,.box cD (.strct [ag x2,ag x3]))],nx:=1,n0:=0}
noncomputable def Lz:Code:=aK Tryz.f166
noncomputable def eQ (x0:(List af)) (x1:P0) (x2:Bool) (x3 x4 x5:Int) (x6:(List af)):Option (((List af)×Unit)×Unit):=bJ E xA [] Lz 976 {slots:=[.val (.slice 112 au) x0,aa,aL x1,aa,.ptr 0 cD [],aa,aa,.row 1,cI x2,ag x3]++unU 50,res:=[(0,.box cD (.strct [ag x4,ag x5])),(1,.row 112 au x6 false)],nx:=2,n0:=0}
noncomputable def JK:Code:=aK Tryz.f99
noncomputable def jc (x0:(List af)) (x1:Int) (x2:(List af)) (x3:(List aw)) (x4:(List aP)):Option (((List af)×(List aw)×Bool×Unit)×Unit):=bJ E uN [] JK 4048 {slots:=[aa,.val (.slice 112 au) x0,aa,aa,aa,aa,aa,aa,aa,.row 0,.row 1,.row 2,ag x1]++unU 78,res:=[(0,.row 112 au x2 false),(1,.row 110 cD x3 false),(2,.row 198 eW x4 false)],nx:=3,n0:=0}
noncomputable def ve:Code:=aK Tryz.f136
noncomputable def jN (x0:(List af)) (x1:Int) (x2:aZ):Option (((List af)×Unit)×aZ×Unit):=bJ E k9 [(0,.box aG (aa))] ve 208 {slots:=[.ptr 0 aG [],.val (.slice 112 au) x0,aa,aa,aa,aa,aa,ag x1]++unU 25,res:=[(0,.box aG (.val aG x2))],nx:=1,n0:=1}
noncomputable def DP:Code:=aK Tryz.f226
noncomputable def jO (x0 x1:Int) (x2:aZ):Option ((Int×Unit)×aZ×Unit):=bJ E oM [(0,.box aG (aa))] DP 464 {slots:=[.ptr 0 aG [],aa,aa,.val (.int .u64) x0,ag x1]++unU 11,res:=[(0,.box aG (.val aG x2))],nx:=1,n0:=1}
noncomputable def FC:Code:=aK Tryz.f71
noncomputable def fh (x0:Int) (x1:aZ) (x2 x3:Int) (x4:(List ak)) (x5:(List an)) (x6:(List ak)) (x7:(List an)):Option (((Int×(List ak)×(List an)×Unit)×Unit)×aZ×Unit):=bJ E qw [(0,.box aG (aa))] FC 464 {slots:=[.ptr 0 aG [],aa,aa,aa,.ptr 1 bn [],.ptr 2 bn [],ag x0]++unU 104,res:=[(0,.box aG (.val aG x1)),(1,.box bn (.strct [ag x2,.row 3,.row 4])),(2,.box bn (.strct [ag x3,.row 5,.row 6])),(3,.row 59 ar x4 false),(4,.row 57 aO x5 false),(5,.row 59 ar x6 false),(6,.row 57 aO x7 false)],nx:=7,n0:=1}
noncomputable def ne:Code:=aK Tryz.f130
noncomputable def bz (x0:(List ak)) (x1 x2 x3:Int):Option ((Int×Unit)×Int×Unit):=bJ E eC [(0,.box (.int .i64) (aa))] ne 104 {slots:=[.val (.slice 59 ar) x0,.fn 131 [.ptr 0 (.int .i64) []],aa,aa,aa,aa,aa,ag x1,ag x2]++unU 10,res:=[(0,.box (.int .i64) (ag x3))],nx:=1,n0:=1}
noncomputable def DQ:Code:=aK Tryz.f90
noncomputable def dl (x0:(List Int)) (x1:Int) (x2:(List Int)) (x3 x4 x5:Int) (x6:(List ak)) (x7:(List an)):Option ((Bool×Unit)×Unit):=bJ E oH [] DQ 104 {slots:=[aa,.val (.slice 2 (.int .i64)) x0,ag x1,.ptr 0 bn [],aa,aa,aa,aa,aa,.val (.slice 2 (.int .i64)) x2,ag x3,ag x4]++unU 30,res:=[(0,.box bn (.strct [ag x5,.val (.slice 59 ar) x6,.val (.slice 57 aO) x7]))],nx:=1,n0:=0}
noncomputable def DR:Code:=aK Tryz.f187
noncomputable def jP (x0:Int) (x1:(List Int)) (x2 x3:Int):Option ((Int×Unit)×Unit):=bJ E oL [] DR 232 {slots:=[aa,aa,aa,ag x0,aa,aa,.val (.slice 3 (.int .i64)) x1,ag x2,ag x3]++unU 9,res:=[],nx:=0,n0:=0}
noncomputable def JL:Code:=aK Tryz.f239
noncomputable def nX (x0:P0) (x1 x2 x3:Int):Option ((Bool×Unit)×Unit):=bJ E uV [] JL 104 {slots:=[aL x0,ag x1,aa,aa,aa,aa,aa,ag x2,ag x3]++unU 17,res:=[],nx:=0,n0:=0}
noncomputable def AG:Code:=aK Tryz.f324
noncomputable def ib (x0 x1:Int) (x2:P0) (x3:Bool) (x4:(List P0)) (x5:(List ab)):Option ((P0×Unit)×(P0×(List ab)×Bool×Unit)×Unit):=bJ E lX [(0,.box aX (aa)),(1,.row 298 ah [] false)] AG 232 {slots:=[.ptr 0 aX [],aa,aa,aa,aa,aa,aa,.row 2,ag x0,ag x1]++unU 11,res:=[(0,.box aX (.strct [aL x2,.row 3,cI x3])),(2,.row 9 .str x4 false),(3,.row 298 ah x5 false)],nx:=4,n0:=2}
noncomputable def xI:Code:=aK Tryz.f358
noncomputable def f7 (x0 x1 x2:P0) (x3:Bool) (x4:(List ab)):Option ((Int×Unit)×(P0×(List ab)×Bool×Unit)×Unit):=bJ E j7 [(0,.box aX (aa)),(1,.row 298 ah [] false)] xI 224 {slots:=[.ptr 0 aX [],aa,aa,aL x0,aL x1]++unU 38,res:=[(0,.box aX (.strct [aL x2,.row 1,cI x3])),(1,.row 298 ah x4 false)],nx:=2,n0:=2}
noncomputable def DS:Code:=aK Tryz.f245
noncomputable def eD (x0:P0) (x1 x2 x3:Int) (x4:P0) (x5 x6:Int) (x7:P0):Option ((aD×Bool×Unit)×Unit):=bJ E oO [] DS 120784 {slots:=[aL x0,aa,.ptr 0 bj [],aa,.ptr 1 bj [],aa,aa,ag x1]++unU 56,res:=[(0,.box bj (.strct [ag x2,ag x3,aL x4])),(1,.box bj (.strct [ag x5,ag x6,aL x7]))],nx:=2,n0:=0}
noncomputable def HN:Code:=aK Tryz.f225
noncomputable def qE (x0:P0) (x1:Int):Option ((Int×Unit)×Unit):=bJ E sR [] HN 208 {slots:=[aL x0,aa,aa,ag x1]++unU 9,res:=[],nx:=0,n0:=0}
noncomputable def o6:Code:=aK Tryz.f279
noncomputable def dB (x0 x1 x2:Int) (x3:P0) (x4:Bool) (x5:(List ab)):Option ((Int×Unit)×(P0×(List ab)×Bool×Unit)×Unit):=bJ E gE [(0,.box aX (aa)),(1,.row 298 ah [] false)] o6 224 {slots:=[.ptr 0 aX [],ag x0,ag x1,aa,aa,aa,aa,ag x2]++unU 47,res:=[(0,.box aX (.strct [aL x3,.row 2,cI x4])),(2,.row 298 ah x5 false)],nx:=3,n0:=2}
noncomputable def rC:Code:=aK Tryz.f361
noncomputable def p4 (x0 x1:Int) (x2:P0) (x3:Bool) (x4:(List ab)) (x5:(List Int)):Option ((Int×Unit)×(P0×(List ab)×Bool×Unit)×Unit):=bJ E i6 [(0,.box aX (aa)),(1,.row 298 ah [] false)] rC 480 {slots:=[.ptr 0 aX [],ag x0,ag x1,aa,aa,aa,aa,.row 2]++unU 59,res:=[(0,.box aX (.strct [aL x2,.row 1,cI x3])),(1,.row 298 ah x4 false),(2,.row 2 (.int .i64) x5 false)],nx:=3,n0:=2}
noncomputable def b9 (x0 x1:Int) (x2:P0) (x3:Bool) (x4:(List Int)) (x5:(List ab)):Option ((Int×Unit)×(P0×(List ab)×Bool×Unit)×Unit):=bJ E i6 [(0,.box aX (aa)),(1,.row 298 ah [] false)] rC 480 {slots:=[.ptr 0 aX [],ag x0,ag x1,aa,aa,aa,aa,.row 2]++unU 59,res:=[(0,.box aX (.strct [aL x2,.row 3,cI x3])),(2,.row 2 (.int .i64) x4 false),(3,.row 298 ah x5 false)],nx:=4,n0:=2}
noncomputable def rD:Code:=aK Tryz.f349
noncomputable def cG (x0 x1:Int) (x2:P0) (x3:Bool) (x4:(List ab)):Option ((Int×Unit)×(P0×(List ab)×Bool×Unit)×Unit):=bJ E iY [(0,.box aX (aa)),(1,.row 298 ah [] false)] rD 14800 {slots:=[.ptr 0 aX [],ag x0,aa,aa,aa,ag x1]++unU 114,res:=[(0,.box aX (.strct [aL x2,.row 2,cI x3])),(2,.row 298 ah x4 false)],nx:=3,n0:=2}
noncomputable def cP (x0:Int) (x1:P0) (x2:Int) (x3:P0) (x4:Bool) (x5:(List ab)):Option ((Int×Unit)×(P0×(List ab)×Bool×Unit)×Unit):=bJ E iY [(0,.box aX (aa)),(1,.row 298 ah [] false)] rD 8144 {slots:=[.ptr 0 aX [],ag x0,aa,aa,aa,aa,aa,aa,aa,aL x1,aa,aa,aa,aa,ag x2]++unU 105,res:=[(0,.box aX (.strct [aL x3,.row 2,cI x4])),(2,.row 298 ah x5 false)],nx:=3,n0:=2}
noncomputable def MJ:Code:=aK Tryz.f329
noncomputable def l6 (x0:(List ab)) (x1 x2 x3 x4:Int):Option ((Int×Unit)×Unit):=bJ E Ay [] MJ 976 {slots:=[.val (.slice 298 ah) x0,ag x1,ag x2,aa,aa,aa,aa,ag x3,ag x4]++unU 67,res:=[],nx:=0,n0:=0}
noncomputable def AH:Code:=aK Tryz.f330
noncomputable def gJ (x0:(List ab)) (x1:(List Int)) (x2 x3 x4 x5:Int) (x6:aD) (x7 x8:b8) (x9:(List Int)) (x10:(List P0)):Option ((P0×Unit)×Unit):=bJ E lY [] AH 1000 {slots:=[.val (.slice 298 ah) x0,aa,aa,aa,aa,aa,aa,.ptr 0 ah [],aa,aa,.row 1,aa,aa,aa,aa,aa,aa,aa,aa,aa,aa,aa,aa,aa,aa,aa,aa,aa,aa,aa,aa,aa,aa,aa,aa,aa,aa,aa,aa,aa,aa,aa,aa,aa,aa,aa,aa,aa,aa,aa,aa,aa,aa,aa,aa,aa,aa,aa,aa,aa,aa,aa,aa,aa,aa,aa,aa,aa,aa,aa,aa,aa,aa,aa,aa,aa,aa,aa,aa,aa,aa,aa,aa,aa,aa,aa,aa,aa,aa,aa,aa,aa,.val (.slice 2 (.int .i64)) x1,ag x2,ag x3]++unU 18,res:=[(0,.box ah (.strct [ag x4,ag x5,.val bj x6,.val bq x7,.val bq x8,.val (.slice 2 (.int .i64)) x9])),(1,.row 9 .str x10 false)],nx:=2,n0:=0}
noncomputable def HO:Code:=aK Tryz.f80
noncomputable def jC (x0 x1:(List af)) (x2 x3:Int):Option ((Bool×Unit)×Unit):=bJ E sH [] HO 104 {slots:=[.val (.slice 112 au) x0,aa,aa,aa,aa,.val (.slice 112 au) x1,ag x2,ag x3]++unU 34,res:=[],nx:=0,n0:=0}
noncomputable def DT:Code:=aK Tryz.f36
noncomputable def fJ (x0:(List ak)) (x1 x2 x3:Int) (x4:(List ak)) (x5:(List an)):Option ((Bool×Unit)×Unit):=bJ E sE [] DT 232 {slots:=[aa,.ptr 0 bn [],aa,aa,aa,aa,aa,aa,aa,aa,aa,aa,aa,aa,aa,aa,aa,aa,aa,aa,aa,aa,aa,aa,aa,aa,.val (.slice 59 ar) x0,ag x1,ag x2]++unU 79,res:=[(0,.box bn (.strct [ag x3,.val (.slice 59 ar) x4,.val (.slice 57 aO) x5]))],nx:=1,n0:=0}
noncomputable def l7:Code:=aK Tryz.f161
noncomputable def ck (x0:(List Int)) (x1 x2 x3:Int):Option ((Int×Unit)×Unit):=bJ E dR [] l7 104 {slots:=[.val (.slice 2 (.int .i64)) x0,ag x1,aa,aa,aa,aa,aa,ag x2,ag x3]++unU 10,res:=[],nx:=0,n0:=0}
noncomputable def vf:Code:=aK Tryz.f73
noncomputable def gX (x0 x1:Int) (x2:(List ak)) (x3:(List an)) (x4:(List Int)):Option (((List Int)×Unit)×Unit):=bJ E k8 [] vf 464 {slots:=[aa,aa,.ptr 0 bn [],aa,aa,.row 1,ag x0]++unU 38,res:=[(0,.box bn (.strct [ag x1,.val (.slice 59 ar) x2,.val (.slice 57 aO) x3])),(1,.row 2 (.int .i64) x4 false)],nx:=2,n0:=0}
noncomputable def HP:Code:=aK Tryz.f67
noncomputable def jD (x0 x1 x2:Int) (x3 x4:(List Int)):Option ((Int×Unit)×Unit):=bJ E sG [] HP 232 {slots:=[aa,aa,aa,aa,aa,aa,aa,.row 0,ag x0,aa,aa,aa,aa,aa,aa,aa,.row 1,ag x1,ag x2]++unU 9,res:=[(0,.row 2 (.int .i64) x3 false),(1,.row 2 (.int .i64) x4 false)],nx:=2,n0:=0}
noncomputable def FD:Code:=aK Tryz.f22
noncomputable def o7 (x0 x1:(List Int)) (x2:Int):Option ((Bool×Unit)×Unit):=bJ E qu [] FD 464 {slots:=[.val (.slice 2 (.int .i64)) x0,.val (.slice 2 (.int .i64)) x1,aa,aa,aa,ag x2]++unU 20,res:=[],nx:=0,n0:=0}
noncomputable def JM:Code:=aK Tryz.f24
noncomputable def nY (x0:(List Int)) (x1 x2:Int):Option ((Bool×Unit)×Unit):=bJ E uJ [] JM 208 {slots:=[.val (.slice 2 (.int .i64)) x0,ag x1,aa,aa,aa,ag x2]++unU 12,res:=[],nx:=0,n0:=0}
noncomputable def LA:Code:=aK Tryz.f4
noncomputable def fK (x0 x1 x2 x3:Int) (x4 x5:(List Int)):Option ((Bool×Unit)×Unit):=bJ E sD [] LA 32720 {slots:=[aa,aa,aa,aa,aa,ag x0,ag x1,.row 0,.row 1,ag x2,ag x3]++unU 78,res:=[(0,.row 2 (.int .i64) x4 false),(1,.row 2 (.int .i64) x5 false)],nx:=2,n0:=0}
noncomputable def cr (x0:Int) (x1:P0) (x2:Int) (x3:Bool) (x4:(List Int)) (x5:(List ab)):Option ((Int×Unit)×(P0×Int×Bool×(List ab)×Unit)×Unit):=bJ E lg [(0,.box aQ (aa)),(1,.row 298 ah [] false)] vb 224 {slots:=[.ptr 0 aQ [],ag x0,aa,aa,aa,.row 2]++unU 24,res:=[(0,.box aQ (.strct [aL x1,ag x2,cI x3,.row 3])),(2,.row 2 (.int .i64) x4 false),(3,.row 298 ah x5 false)],nx:=4,n0:=2}
noncomputable def iC (x0 x1:Int) (x2:P0) (x3:Int) (x4:Bool) (x5:(List Int)) (x6:(List ab)):Option ((Int×Unit)×(P0×Int×Bool×(List ab)×Unit)×Unit):=bJ E nK [(0,.box aQ (aa)),(1,.row 298 ah [] false)] zk 464 {slots:=[.ptr 0 aQ [],ag x0,aa,aa,aa,.row 2,ag x1]++unU 27,res:=[(0,.box aQ (.strct [aL x2,ag x3,cI x4,.row 3])),(2,.row 2 (.int .i64) x5 false),(3,.row 298 ah x6 false)],nx:=4,n0:=2}
noncomputable def gY (x0:(List ab)) (x1 x2:Int):Option ((Bool×Unit)×Unit):=bJ E ld [] vd 59696 {slots:=[.val (.slice 298 ah) x0,aa,aa,ag x1,ag x2]++unU 82,res:=[],nx:=0,n0:=0}
noncomputable def dV (x0 x1 x2:Int) (x3:(List ak)) (x4:(List an)) (x5:Int) (x6:(List Int)) (x7:(List af)):Option ((Bool×Unit)×Unit):=bJ E oG [] xH 119408 {slots:=[aa,.ptr 0 bn [],aa,ag x0,.ptr 1 ar [],ag x1]++unU 159,res:=[(0,.box bn (.strct [ag x2,.val (.slice 59 ar) x3,.val (.slice 57 aO) x4])),(1,.box ar (.strct [ag x5,.val (.slice 2 (.int .i64)) x6,.val (.slice 112 au) x7]))],nx:=2,n0:=0}
noncomputable def dW (x0 x1:Int) (x2:(List ak)) (x3:(List an)):Option ((Bool×Unit)×Unit):=bJ E oG [] xH 976 {slots:=[aa,.ptr 0 bn [],aa,aa,aa,aa,ag x0]++unU 158,res:=[(0,.box bn (.strct [ag x1,.val (.slice 59 ar) x2,.val (.slice 57 aO) x3]))],nx:=1,n0:=0}
noncomputable def gi (x0 x1 x2:Int) (x3:(List ak)) (x4:(List an)) (x5:(List Int)) (x6:Int) (x7:(List Int)) (x8:(List af)):Option (((List Int)×Unit)×Unit):=bJ E jw [] qD 59696 {slots:=[aa,aa,.ptr 0 bn [],aa,aa,.row 1,ag x0,.ptr 2 ar [],ag x1]++unU 69,res:=[(0,.box bn (.strct [ag x2,.val (.slice 59 ar) x3,.val (.slice 57 aO) x4])),(1,.row 2 (.int .i64) x5 false),(2,.box ar (.strct [ag x6,.val (.slice 2 (.int .i64)) x7,.val (.slice 112 au) x8]))],nx:=3,n0:=0}
noncomputable def gZ (x0 x1:Int) (x2:(List ak)) (x3:(List an)) (x4 x5:(List Int)):Option (((List Int)×Unit)×Unit):=bJ E jw [] qD 2000 {slots:=[aa,aa,.ptr 0 bn [],aa,aa,.row 1,aa,aa,aa,.row 2,ag x0]++unU 67,res:=[(0,.box bn (.strct [ag x1,.val (.slice 59 ar) x2,.val (.slice 57 aO) x3])),(1,.row 2 (.int .i64) x4 false),(2,.row 2 (.int .i64) x5 false)],nx:=3,n0:=0}
noncomputable def gj (x0:Int) (x1:aZ) (x2:(List af)):Option (((List af)×Unit)×aZ×Unit):=bJ E k9 [(0,.box aG (aa))] ve 208 {slots:=[.ptr 0 aG [],.row 1,aa,aa,aa,aa,aa,ag x0]++unU 25,res:=[(0,.box aG (.val aG x1)),(1,.row 112 au x2 false)],nx:=2,n0:=1}
noncomputable def bS (x0 x1 x2 x3 x4:Int) (x5:P0) (x6:Bool) (x7:(List ab)):Option ((Int×Unit)×(P0×(List ab)×Bool×Unit)×Unit):=bJ E gE [(0,.box aX (aa)),(1,.row 298 ah [] false)] o6 29008 {slots:=[.ptr 0 aX [],ag x0,ag x1,aa,aa,aa,aa,ag x2,ag x3,ag x4]++unU 45,res:=[(0,.box aX (.strct [aL x5,.row 2,cI x6])),(2,.row 298 ah x7 false)],nx:=3,n0:=2}
noncomputable def dX (x0:(List an)) (x1 x2 x3:Int) (x4:(List ak)) (x5:(List an)):Option ((Bool×Unit)×Unit):=bJ E sE [] DT 488 {slots:=[aa,.ptr 0 bn [],aa,aa,aa,aa,aa,aa,aa,aa,aa,aa,aa,aa,aa,aa,aa,aa,aa,aa,aa,aa,aa,aa,aa,aa,aa,aa,aa,aa,aa,aa,aa,aa,aa,aa,aa,aa,aa,aa,aa,aa,aa,aa,aa,aa,aa,aa,aa,aa,aa,aa,aa,aa,aa,aa,aa,aa,aa,aa,aa,aa,aa,aa,aa,aa,aa,aa,aa,aa,aa,aa,aa,.val (.slice 57 aO) x0,ag x1,ag x2]++unU 32,res:=[(0,.box bn (.strct [ag x3,.val (.slice 59 ar) x4,.val (.slice 57 aO) x5]))],nx:=1,n0:=0}
noncomputable def fz (x0:Int) (x1:(List Int)) (x2 x3 x4:Int) (x5:(List ak)) (x6:(List an)) (x7:(List Int)):Option (((List Int)×Unit)×Unit):=bJ E k8 [] vf 14920 {slots:=[aa,aa,.ptr 0 bn [],aa,aa,.row 1,ag x0,aa,aa,aa,aa,aa,aa,aa,aa,aa,aa,aa,aa,aa,aa,aa,aa,aa,aa,aa,aa,.val (.slice 2 (.int .i64)) x1,ag x2,ag x3]++unU 15,res:=[(0,.box bn (.strct [ag x4,.val (.slice 59 ar) x5,.val (.slice 57 aO) x6])),(1,.row 2 (.int .i64) x7 false)],nx:=2,n0:=0}
end Go.Proofs.YtfffplonjaigkaaGreatDoor.Abs
