/- What the functions are, as the reader reads them. Printed by out.py. -/
import Derived.Test.YtfffplonjaigkaaGreatDoorZA3
import Derived.Test.YtfffplonjaigkaaGreatDoorProg
set_option linter.unusedVariables false
set_option linter.unusedSimpArgs false
set_option maxRecDepth 100000
open _root_ renaming ByteArray→L9
namespace Go.Proofs.YtfffplonjaigkaaGreatDoor.Abs
open Go Go.Proofs.YtfffplonjaigkaaGreatDoor
abbrev Jd:TypeId:=9
abbrev im:Ty := .agg (.pair (.int .i64) (.pair (.int .i64) .unit))
abbrev eB:=Int×Int×Unit
abbrev bq:Ty := .agg (.pair im (.pair .str .unit))
abbrev bo:=eB×L9×Unit
abbrev cH:Ty := .agg (.pair (.int .i64) (.pair (.slice 2 (.int .i64)) (.pair (.slice 130 bq) .unit)))
abbrev fX:=Int×(List Int)×(List bo)×Unit
abbrev aN:Ty := .agg (.pair .str (.pair (.int .i64) .unit))
abbrev aA:=L9×Int×Unit
abbrev ng:Ty := .agg (.pair (.int .i64) (.pair (.slice 155 cH) (.pair (.slice 157 aN) .unit)))
abbrev BS:=Int×(List fX)×(List aA)×Unit
abbrev aC:Ty := .agg (.pair (.int .i64) (.pair (.slice 2 (.int .i64)) (.pair (.slice 112 bq) .unit)))
abbrev an:=Int×(List Int)×(List bo)×Unit
abbrev ci:Ty := .agg (.pair (.int .i64) (.pair (.slice 59 aC) (.pair (.slice 57 aN) .unit)))
abbrev bw:=Int×(List an)×(List aA)×Unit
abbrev aX:Ty := .agg (.pair im (.pair .bool (.pair .bool .unit)))
abbrev bM:=eB×Bool×Bool×Unit
abbrev aU:Ty := .agg (.pair (.int .i64) (.pair (.int .i64) (.pair .str .unit)))
abbrev ay:=Int×Int×L9×Unit
abbrev af:Ty := .agg (.pair (.int .i64) (.pair (.int .i64) (.pair aU (.pair aX (.pair aX (.pair (.slice 2 (.int .i64)) .unit))))))
abbrev ab:=Int×Int×ay×bM×bM×(List Int)×Unit
abbrev A8:Ty := .agg (.pair im (.pair im .unit))
abbrev uf:=eB×eB×Unit
abbrev aF:Ty := .agg (.pair .str (.pair (.int .i64) (.pair .bool (.pair (.slice 298 af) .unit))))
abbrev gj:=L9×Int×Bool×(List ab)×Unit
abbrev aJ:Ty := .agg (.pair .str (.pair (.slice 298 af) (.pair .bool .unit)))
abbrev kK:=L9×(List ab)×Bool×Unit
noncomputable def lS:ak:=aj 3 Tryz.f3 (.pair (.val .bool) .unit) .unit [] []
noncomputable def BT:ak:=aj 14 Tryz.f14 (.pair (.val (.int .i64)) .unit) .unit [] []
noncomputable def Hl:ak:=aj 15 Tryz.f15 (.pair (.val (.int .i64)) .unit) .unit [] []
noncomputable def BU:ak:=aj 16 Tryz.f16 (.pair (.strct (.pair (.val (.int .i64)) (.pair (.row 59 aC false) (.pair (.row 57 aN false) .unit)))) .unit) .unit [] []
noncomputable def Hm:ak:=aj 17 Tryz.f17 (.pair (.val (.int .i64)) .unit) .unit [] []
noncomputable def BV:ak:=aj 18 Tryz.f18 (.pair (.val .bool) .unit) .unit [] []
noncomputable def o7:ak:=aj 25 Tryz.f25 (.pair (.val .bool) .unit) .unit [] [(4,[0,1,5])]
noncomputable def qS:ak:=aj 36 Tryz.f36 (.pair (.val .bool) .unit) .unit [] [(4,[1,26,27,28]),(10,[1,73,74,75])]
noncomputable def qU:ak:=aj 45 Tryz.f45 (.pair (.val (.int .i64)) .unit) .unit [] [(5,[0,1,5])]
noncomputable def qV:ak:=aj 46 Tryz.f46 (.pair (.row 112 bq false) .unit) .unit [] [(3,[0,3,4])]
noncomputable def qW:ak:=aj 47 Tryz.f47 (.pair (.val .bool) .unit) .unit [] [(4,[0,1,5])]
noncomputable def lT:ak:=aj 59 Tryz.f59 (.pair (.val (.int .i64)) .unit) .unit [] [(5,[0,1,5])]
noncomputable def nh:ak:=aj 60 Tryz.f60 (.pair (.val (.int .i64)) .unit) .unit [] [(5,[0,1,5])]
noncomputable def ni:ak:=aj 61 Tryz.f61 (.pair (.val .bool) .unit) .unit [] [(4,[1,3]),(10,[1,3,4,5]),(15,[1,6])]
noncomputable def qX:ak:=aj 62 Tryz.f62 (.pair (.val (.int .i64)) .unit) .unit [] [(2,[1,2,5])]
noncomputable def sS:ak:=aj 63 Tryz.f63 (.pair (.val (.int .i64)) .unit) .unit [] [(5,[7,8,9,10])]
noncomputable def lU:ak:=aj 64 Tryz.f64 (.pair (.row 59 aC false) .unit) .unit [] [(3,[0,3,4])]
noncomputable def nj:ak:=aj 65 Tryz.f65 (.pair (.row 57 aN false) .unit) .unit [] [(3,[0,3,4])]
noncomputable def pT:ak:=aj 66 Tryz.f66 (.pair (.val (.int .i64)) .unit) .unit [] []
noncomputable def qY:ak:=aj 67 Tryz.f67 (.pair (.val (.int .i64)) .unit) .unit [] [(3,[7,8,16,17,18])]
noncomputable def lV:ak:=aj 68 Tryz.f68 (.pair (.val .bool) .unit) .unit [] [(4,[0,1,5])]
noncomputable def nk:ak:=aj 69 Tryz.f69 (.pair (.val .bool) .unit) .unit [] [(4,[0,1,5])]
noncomputable def jU:ak:=aj 73 Tryz.f73 (.pair (.row 2 (.int .i64) false) .unit) .unit [] [(3,[2,5,6]),(6,[2,5,6,27,28,29])]
noncomputable def iw:ak:=aj 74 Tryz.f74 (.pair (.row 2 (.int .i64) false) .unit) .unit [] [(3,[2,5,6]),(7,[2,5,6,7,8]),(13,[2,5,9,10])]
noncomputable def qZ:ak:=aj 80 Tryz.f80 (.pair (.val .bool) .unit) .unit [] [(2,[0,5,6,7])]
noncomputable def q4:ak:=aj 85 Tryz.f85 (.pair (.val .bool) .unit) .unit [] [(4,[0,3])]
noncomputable def zB:ak:=aj 89 Tryz.f89 (.pair (.val .bool) .unit) .unit [] []
noncomputable def nl:ak:=aj 90 Tryz.f90 (.pair (.val .bool) .unit) .unit [] [(2,[1,2,3,9,10,11])]
noncomputable def zC:ak:=aj 91 Tryz.f91 (.pair (.val .bool) .unit) .unit [] []
noncomputable def eO:ak:=aj 94 Tryz.f94 (.pair (.val .bool) .unit) .unit [] []
noncomputable def sT:ak:=aj 97 Tryz.f97 (.pair (.val .bool) .unit) .unit [] [(2,[0,1,5])]
noncomputable def vC:ak:=aj 101 Tryz.f101 (.pair (.val .str) .unit) .unit [] [(4,[0,3])]
noncomputable def sU:ak:=aj 102 Tryz.f102 (.pair (.val .str) .unit) .unit [] []
noncomputable def zD:ak:=aj 103 Tryz.f103 (.pair (.val (.int .i64)) .unit) .unit [] []
noncomputable def zE:ak:=aj 104 Tryz.f104 (.pair (.val bq) .unit) .unit [] []
noncomputable def zF:ak:=aj 105 Tryz.f105 (.pair (.val .bool) .unit) .unit [] []
noncomputable def q5:ak:=aj 109 Tryz.f109 (.pair (.val .bool) .unit) .unit [] [(4,[0,3])]
noncomputable def BW:ak:=aj 113 Tryz.f113 (.pair (.val .bool) .unit) .unit [] []
noncomputable def iR:ak:={g:=116,fn:=Tryz.f116,sh:=(.pair (.val .str) (.pair (.val .str) (.pair (.val .bool) .unit))),bx := .unit,own:=[],live:=[],prim:=some (ue)}
noncomputable def vD:ak:=aj 123 Tryz.f123 (.pair (.val (.int .i64)) (.pair (.val .bool) .unit)) .unit [] [(5,[0,6,7])]
noncomputable def np:ak:=aj 124 Tryz.f124 (.pair (.val aX) (.pair (.val .bool) .unit)) .unit [] [(6,[0,2,4,5])]
noncomputable def sV:ak:=aj 125 Tryz.f125 (.pair (.val (.int .i64)) .unit) .unit [] []
noncomputable def uV:ak:=aj 126 Tryz.f126 (.pair (.val (.int .i64)) .unit) .unit [] []
noncomputable def ES:ak:=aj 127 Tryz.f127 (.pair (.val .bool) .unit) .unit [] []
noncomputable def sW:ak:=aj 128 Tryz.f128 (.pair (.strct (.pair (.val (.int .i64)) (.pair (.row 2 (.int .i64) false) (.pair (.row 112 bq false) .unit)))) .unit) .unit [] []
noncomputable def uW:ak:=aj 129 Tryz.f129 (.pair (.val aN) .unit) .unit [] []
noncomputable def d9:ak:=aj 130 Tryz.f130 (.pair (.val (.int .i64)) .unit) (.pair (.val (.int .i64)) .unit) [] [(2,[0,1,7,8])]
noncomputable def nq:ak:=aj 131 Tryz.f131 (.pair (.val .bool) .unit) (.pair (.val (.int .i64)) .unit) [] []
noncomputable def sX:ak:=aj 132 Tryz.f132 (.pair (.val .bool) .unit) .unit [] []
noncomputable def uX:ak:=aj 133 Tryz.f133 (.pair (.val .bool) .unit) .unit [] []
noncomputable def dM:ak:={g:=139,fn:=Tryz.f139,sh := .unit,bx:=(.pair (.row 2 (.int .i64) false) .unit),own:=[true],live:=[],rb:=true,prim:=some (jw 2)}
noncomputable def BX:ak:=aj 150 Tryz.f150 (.pair (.val .bool) .unit) .unit [] []
noncomputable def pU:ak:=aj 151 Tryz.f151 (.pair (.val (.int .i64)) .unit) .unit [] []
noncomputable def uY:ak:=aj 152 Tryz.f152 (.pair (.val .bool) .unit) .unit [] []
noncomputable def wU:ak:=aj 153 Tryz.f153 (.pair (.val .str) (.pair (.val .bool) .unit)) .unit [] []
noncomputable def BZ:ak:=aj 154 Tryz.f154 (.pair (.val .bool) .unit) .unit [] []
noncomputable def wV:ak:=aj 155 Tryz.f155 (.pair (.val .bool) .unit) .unit [] []
noncomputable def wW:ak:=aj 157 Tryz.f157 (.pair (.val .str) .unit) .unit [] []
noncomputable def g5:ak:={g:=160,fn:=Tryz.f160,sh:=(.pair (.val .str) .unit),bx := .unit,own:=[],live:=[],prim:=some (qQ)}
noncomputable def dA:ak:=aj 161 Tryz.f161 (.pair (.val (.int .i64)) .unit) .unit [] [(2,[0,1,7,8])]
noncomputable def q6:ak:=aj 167 Tryz.f167 (.pair (.val .str) .unit) .unit [] [(4,[0,3])]
noncomputable def B0:ak:=aj 168 Tryz.f168 (.pair (.val im) .unit) .unit [] []
noncomputable def e8:ak:={g:=178,fn:=Tryz.f178,sh:=(.pair (.val (.int .i64)) (.pair (.val .err) .unit)),bx := .unit,own:=[],live:=[],prim:=some (jT)}
noncomputable def sY:ak:=aj 179 Tryz.f179 (.pair (.val aX) (.pair (.val .bool) .unit)) .unit [] []
noncomputable def q7:ak:=aj 181 Tryz.f181 (.pair (.val (.int .i64)) .unit) .unit [] [(2,[0,3])]
noncomputable def uZ:ak:=aj 182 Tryz.f182 (.pair (.val (.int .i64)) .unit) .unit [] []
noncomputable def o8:ak:=aj 183 Tryz.f183 (.pair (.row 2 (.int .i64) false) .unit) .unit [] [(3,[0,3,4])]
noncomputable def nr:ak:=aj 187 Tryz.f187 (.pair (.val (.int .i64)) .unit) .unit [] [(3,[3,6,7,8])]
noncomputable def kp:ak:=aj 188 Tryz.f188 (.pair (.val (.int .i64)) .unit) .unit [] []
noncomputable def wX:ak:=aj 189 Tryz.f189 (.pair (.val .str) (.pair (.val .bool) .unit)) .unit [] []
noncomputable def q8:ak:=aj 190 Tryz.f190 (.pair (.val .bool) .unit) .unit [] [(2,[0,3])]
noncomputable def pV:ak:=aj 191 Tryz.f191 (.pair (.row 298 af false) (.pair (.val .bool) .unit)) .unit [] []
noncomputable def pW:ak:=aj 192 Tryz.f192 (.pair (.val .str) .unit) .unit [] []
noncomputable def o9:ak:=aj 193 Tryz.f193 (.pair (.val aU) (.pair (.val .bool) .unit)) .unit [] [(6,[0,2,4])]
noncomputable def sZ:ak:=aj 194 Tryz.f194 (.pair (.val .str) .unit) .unit [] []
noncomputable def jV:ak:=aj 195 Tryz.f195 (.pair (.val aU) (.pair (.val .bool) .unit)) .unit [] [(23,[0,2,4,5]),(27,[2,4])]
noncomputable def eM:ak:={g:=197,fn:=Tryz.f197,sh:=(.pair (.val .str) .unit),bx := .unit,own:=[],live:=[],prim:=some (ud)}
noncomputable def s4:ak:=aj 198 Tryz.f198 (.pair (.val .str) .unit) .unit [] []
noncomputable def kq:ak:=aj 223 Tryz.f223 (.pair (.val .str) (.pair (.val .bool) .unit)) .unit [] []
noncomputable def fa:ak:={g:=224,fn:=Tryz.f224,sh:=(.pair (.val .str) .unit),bx := .unit,own:=[],live:=[],prim:=some (jS)}
noncomputable def q9:ak:=aj 225 Tryz.f225 (.pair (.val (.int .i64)) .unit) .unit [] [(2,[0,3])]
noncomputable def zG:ak:=aj 237 Tryz.f237 (.pair (.val .str) .unit) .unit [] []
noncomputable def mg:ak:=aj 238 Tryz.f238 (.pair (.val .bool) .unit) .unit [] []
noncomputable def s5:ak:=aj 239 Tryz.f239 (.pair (.val .bool) .unit) .unit [] [(2,[0,1,7,8])]
noncomputable def pX:ak:=aj 240 Tryz.f240 (.pair (.row 298 af false) (.pair (.val .bool) .unit)) .unit [] []
noncomputable def u2:ak:=aj 241 Tryz.f241 (.pair (.val .str) (.pair (.val .bool) .unit)) .unit [] []
noncomputable def u3:ak:=aj 242 Tryz.f242 (.pair (.val .bool) .unit) .unit [] []
noncomputable def wY:ak:=aj 243 Tryz.f243 (.pair (.val .bool) .unit) .unit [] []
noncomputable def zH:ak:=aj 244 Tryz.f244 (.pair (.val aU) .unit) .unit [] []
noncomputable def nt:ak:=aj 245 Tryz.f245 (.pair (.val aU) (.pair (.val .bool) .unit)) .unit [] [(9,[0,2,4,7])]
noncomputable def pa:ak:=aj 246 Tryz.f246 (.pair (.val (.int .i64)) .unit) (.pair (.strct (.pair (.val .str) (.pair (.val (.int .i64)) (.pair (.val .bool) (.pair (.row 298 af false) .unit))))) .unit) [] [(6,[0,1,5])]
noncomputable def kL:ak:=aj 247 Tryz.f247 .unit (.pair (.strct (.pair (.val .str) (.pair (.val (.int .i64)) (.pair (.val .bool) (.pair (.row 298 af false) .unit))))) .unit) [] [(0,[0])]
noncomputable def jW:ak:=aj 248 Tryz.f248 (.pair (.val .bool) .unit) .unit [] [(4,[0,3]),(9,[0,3,4])]
noncomputable def s6:ak:=aj 249 Tryz.f249 (.pair (.val .str) .unit) .unit [] [(21,[0,7,10,11])]
noncomputable def wZ:ak:=aj 250 Tryz.f250 (.pair (.val .bool) .unit) .unit [] []
noncomputable def zI:ak:=aj 251 Tryz.f251 (.pair (.val .str) .unit) .unit [] []
noncomputable def zJ:ak:=aj 252 Tryz.f252 (.pair (.val .str) .unit) .unit [] []
noncomputable def w4:ak:=aj 255 Tryz.f255 (.pair (.val .str) .unit) .unit [] []
noncomputable def ib:ak:=aj 275 Tryz.f275 (.pair (.val .str) (.pair (.val .bool) .unit)) .unit [] []
noncomputable def fY:ak:=aj 279 Tryz.f279 (.pair (.val (.int .i64)) .unit) (.pair (.strct (.pair (.val .str) (.pair (.row 298 af false) (.pair (.val .bool) .unit)))) .unit) [] [(2,[0,1,2,7]),(5,[0,1,2,7,8,9])]
noncomputable def nu:ak:=aj 280 Tryz.f280 .unit (.pair (.strct (.pair (.val .str) (.pair (.row 298 af false) (.pair (.val .bool) .unit)))) .unit) [] []
noncomputable def s7:ak:=aj 281 Tryz.f281 (.pair (.val .bool) .unit) .unit [] []
noncomputable def pY:ak:=aj 282 Tryz.f282 (.pair (.val .str) .unit) .unit [] []
noncomputable def jX:ak:=aj 283 Tryz.f283 (.pair (.val .str) .unit) .unit [] []
noncomputable def B1:ak:=aj 284 Tryz.f284 (.pair (.val aU) .unit) .unit [] []
noncomputable def kt:ak:=aj 285 Tryz.f285 (.pair (.val .bool) .unit) .unit [] []
noncomputable def s8:ak:=aj 286 Tryz.f286 (.pair (.val .str) .unit) .unit [] []
noncomputable def B2:ak:=aj 287 Tryz.f287 (.pair (.val aU) .unit) .unit [] []
noncomputable def s9:ak:=aj 288 Tryz.f288 (.pair (.val .str) .unit) .unit [] []
noncomputable def ln:ak:=aj 289 Tryz.f289 (.pair (.val (.int .i64)) .unit) (.pair (.strct (.pair (.val .str) (.pair (.val (.int .i64)) (.pair (.val .bool) (.pair (.row 298 af false) .unit))))) .unit) [] [(13,[0,5]),(23,[0,7,8])]
noncomputable def mp:ak:=aj 290 Tryz.f290 (.pair (.val (.int .i64)) .unit) (.pair (.strct (.pair (.val .str) (.pair (.val (.int .i64)) (.pair (.val .bool) (.pair (.row 298 af false) .unit))))) .unit) [] [(3,[0,1,5,6])]
noncomputable def u4:ak:=aj 291 Tryz.f291 (.pair (.val (.int .i64)) .unit) (.pair (.strct (.pair (.val .str) (.pair (.val (.int .i64)) (.pair (.val .bool) (.pair (.row 298 af false) .unit))))) .unit) [] []
noncomputable def u5:ak:=aj 292 Tryz.f292 (.pair (.val .bool) .unit) .unit [] []
noncomputable def tc:ak:=aj 293 Tryz.f293 (.pair (.val (.int .i64)) .unit) .unit [] [(3,[0,1,5,6])]
noncomputable def td:ak:=aj 294 Tryz.f294 (.pair (.val (.int .i64)) .unit) .unit [] [(3,[0,1,5,6])]
noncomputable def ra:ak:=aj 295 Tryz.f295 (.pair (.val .str) .unit) .unit [] [(3,[0,3,4])]
noncomputable def w5:ak:=aj 296 Tryz.f296 (.pair (.val (.int .i64)) .unit) .unit [] []
noncomputable def ET:ak:=aj 297 Tryz.f297 (.pair (.val .str) .unit) .unit [] []
noncomputable def ic:ak:=aj 321 Tryz.f321 (.pair (.val .bool) .unit) .unit [] []
noncomputable def oA:ak:=aj 323 Tryz.f323 (.pair (.val (.int .i64)) .unit) (.pair (.strct (.pair (.val .str) (.pair (.row 298 af false) (.pair (.val .bool) .unit)))) .unit) [] []
noncomputable def kM:ak:=aj 324 Tryz.f324 (.pair (.val .str) .unit) (.pair (.strct (.pair (.val .str) (.pair (.row 298 af false) (.pair (.val .bool) .unit)))) .unit) [] [(3,[0,7,8,9])]
noncomputable def zK:ak:=aj 325 Tryz.f325 (.pair (.val .str) .unit) .unit [] []
noncomputable def B3:ak:=aj 326 Tryz.f326 (.pair (.val (.int .i64)) .unit) .unit [] []
noncomputable def pZ:ak:=aj 327 Tryz.f327 (.pair (.val .bool) .unit) (.pair (.strct (.pair (.val .str) (.pair (.row 298 af false) (.pair (.val .bool) .unit)))) .unit) [] []
noncomputable def rV:ak:=aj 328 Tryz.f328 (.pair (.val (.int .i64)) .unit) (.pair (.strct (.pair (.val .str) (.pair (.row 298 af false) (.pair (.val .bool) .unit)))) .unit) [] []
noncomputable def yk:ak:=aj 329 Tryz.f329 (.pair (.val (.int .i64)) .unit) .unit [] [(5,[0,1,2,7,8])]
noncomputable def kN:ak:=aj 330 Tryz.f330 (.pair (.val .str) .unit) .unit [] [(21,[0,7,10,92,93,94])]
noncomputable def gH:ak:=aj 331 Tryz.f331 (.pair (.val .str) .unit) .unit [] []
noncomputable def w6:ak:=aj 332 Tryz.f332 (.pair (.val .bool) .unit) (.pair (.strct (.pair (.val .str) (.pair (.val (.int .i64)) (.pair (.val .bool) (.pair (.row 298 af false) .unit))))) .unit) [] []
noncomputable def nv:ak:=aj 333 Tryz.f333 (.pair (.val (.int .i64)) .unit) (.pair (.strct (.pair (.val .str) (.pair (.val (.int .i64)) (.pair (.val .bool) (.pair (.row 298 af false) .unit))))) .unit) [] [(2,[0,3])]
noncomputable def w7:ak:=aj 334 Tryz.f334 (.pair (.val aU) .unit) .unit [] []
noncomputable def nw:ak:=aj 335 Tryz.f335 (.pair (.val .str) .unit) (.pair (.strct (.pair (.val .str) (.pair (.val (.int .i64)) (.pair (.val .bool) (.pair (.row 298 af false) .unit))))) .unit) [] [(2,[0,3])]
noncomputable def jY:ak:=aj 336 Tryz.f336 (.pair (.val (.int .i64)) .unit) (.pair (.strct (.pair (.val .str) (.pair (.val (.int .i64)) (.pair (.val .bool) (.pair (.row 298 af false) .unit))))) .unit) [] [(2,[0,1,5])]
noncomputable def zL:ak:=aj 337 Tryz.f337 (.pair (.val .bool) .unit) .unit [] []
noncomputable def zM:ak:=aj 338 Tryz.f338 (.pair (.val .bool) .unit) .unit [] []
noncomputable def g6:ak:=aj 349 Tryz.f349 (.pair (.val (.int .i64)) .unit) (.pair (.strct (.pair (.val .str) (.pair (.row 298 af false) (.pair (.val .bool) .unit)))) .unit) [] [(6,[0,1,5]),(24,[0,1,9,14])]
noncomputable def p3:ak:=aj 350 Tryz.f350 (.pair (.val .bool) .unit) .unit [] []
noncomputable def ej:ak:={g:=351,fn:=Tryz.f351,sh:=(.pair (.val .str) .unit),bx := .unit,own:=[],live:=[],prim:=some (lm)}
noncomputable def zN:ak:=aj 352 Tryz.f352 (.pair (.val .str) .unit) .unit [] []
noncomputable def g7:ak:={g:=353,fn:=Tryz.f353,sh:=(.pair (.val .str) .unit),bx := .unit,own:=[],live:=[],prim:=some (qR Jd)}
noncomputable def u6:ak:=aj 354 Tryz.f354 (.pair (.val (.int .i64)) .unit) (.pair (.strct (.pair (.val .str) (.pair (.val (.int .i64)) (.pair (.val .bool) (.pair (.row 298 af false) .unit))))) .unit) [] []
noncomputable def je:ak:=aj 358 Tryz.f358 (.pair (.val (.int .i64)) .unit) (.pair (.strct (.pair (.val .str) (.pair (.row 298 af false) (.pair (.val .bool) .unit)))) .unit) [] [(2,[0,3,4])]
noncomputable def lC:ak:=aj 359 Tryz.f359 (.pair (.val (.int .i64)) .unit) (.pair (.strct (.pair (.val .str) (.pair (.row 298 af false) (.pair (.val .bool) .unit)))) .unit) [] []
noncomputable def p4:ak:=aj 360 Tryz.f360 (.pair (.val .str) .unit) (.pair (.strct (.pair (.val .str) (.pair (.row 298 af false) (.pair (.val .bool) .unit)))) .unit) [] []
noncomputable def g8:ak:=aj 361 Tryz.f361 (.pair (.val (.int .i64)) .unit) (.pair (.strct (.pair (.val .str) (.pair (.row 298 af false) (.pair (.val .bool) .unit)))) .unit) [] [(3,[0,1,2,7])]
noncomputable def mh:ak:=aj 362 Tryz.f362 (.pair (.val .bool) .unit) .unit [] []
noncomputable def oB:ak:=aj 363 Tryz.f363 (.pair (.val .bool) .unit) .unit [] []
noncomputable def lD:ak:=aj 366 Tryz.f366 (.pair (.strct (.pair (.val (.int .i64)) (.pair (.val (.int .i64)) (.pair (.val aU) (.pair (.val aX) (.pair (.val aX) (.pair (.row 2 (.int .i64) false) .unit))))))) (.pair (.val .bool) .unit)) (.pair (.strct (.pair (.val .str) (.pair (.row 298 af false) (.pair (.val .bool) .unit)))) .unit) [] []
noncomputable def zO:ak:=aj 367 Tryz.f367 (.pair (.val .bool) .unit) .unit [] []
noncomputable def rX:ak:=aj 368 Tryz.f368 (.pair (.val A8) .unit) .unit [] []
noncomputable def E:bK:={ty:=[(2,(.int .i64)),(3,(.int .i64)),(4,.bool),(5,(.int .u8)),(9,.str),(22,(.slice 155 cH)),(23,(.slice 157 aN)),(25,ng),(28,(.slice 59 aC)),(29,(.slice 57 aN)),(31,ci),(35,(.slice 5 (.int .u8))),(39,(.slice 2 (.int .i64))),(46,(.slice 112 bq)),(57,aN),(59,aC),(69,(.slice 130 bq)),(98,(.slice 9 .str)),(110,im),(112,bq),(116,.fn),(126,aX),(128,im),(130,bq),(155,cH),(157,aN),(187,.err),(211,(.slice 298 af)),(216,aU),(255,A8),(257,(.slice 3 (.int .i64))),(265,aF),(291,aJ),(298,af)],by_:=[(2,8),(9,16),(57,24),(59,56),(112,32),(298,120)],fns:=[(3,lS),(14,BT),(15,Hl),(16,BU),(17,Hm),(18,BV),(25,o7),(36,qS),(45,qU),(46,qV),(47,qW),(59,lT),(60,nh),(61,ni),(62,qX),(63,sS),(64,lU),(65,nj),(66,pT),(67,qY),(68,lV),(69,nk),(73,jU),(74,iw),(80,qZ),(85,q4),(89,zB),(90,nl),(91,zC),(94,eO),(97,sT),(101,vC),(102,sU),(103,zD),(104,zE),(105,zF),(109,q5),(113,BW),(116,iR),(123,vD),(124,np),(125,sV),(126,uV),(127,ES),(128,sW),(129,uW),(130,d9),(131,nq),(132,sX),(133,uX),(139,dM),(150,BX),(151,pU),(152,uY),(153,wU),(154,BZ),(155,wV),(157,wW),(160,g5),(161,dA),(167,q6),(168,B0),(178,e8),(179,sY),(181,q7),(182,uZ),(183,o8),(187,nr),(188,kp),(189,wX),(190,q8),(191,pV),(192,pW),(193,o9),(194,sZ),(195,jV),(197,eM),(198,s4),(223,kq),(224,fa),(225,q9),(237,zG),(238,mg),(239,s5),(240,pX),(241,u2),(242,u3),(243,wY),(244,zH),(245,nt),(246,pa),(247,kL),(248,jW),(249,s6),(250,wZ),(251,zI),(252,zJ),(255,w4),(275,ib),(279,fY),(280,nu),(281,s7),(282,pY),(283,jX),(284,B1),(285,kt),(286,s8),(287,B2),(288,s9),(289,ln),(290,mp),(291,u4),(292,u5),(293,tc),(294,td),(295,ra),(296,w5),(297,ET),(321,ic),(323,oA),(324,kM),(325,zK),(326,B3),(327,pZ),(328,rV),(329,yk),(330,kN),(331,gH),(332,w6),(333,nv),(334,w7),(335,nw),(336,jY),(337,zL),(338,zM),(349,g6),(350,p3),(351,ej),(352,zN),(353,g7),(354,u6),(358,je),(359,lC),(360,p4),(361,g8),(362,mh),(363,oB),(366,lD),(367,zO),(368,rX)],eqs:=[(126,aX),(216,aU)],tails:=[],cuts:=[]}
noncomputable def tf (x0:(List Int)) (x1:Int):Option ((Int×Unit)×Unit):=ag E uZ [.val (.slice 2 (.int .i64)) x0,ai x1] []
noncomputable def ug (x0:bo) (x1:Int):Option ((Int×Unit)×Unit):=ag E zD [.val bq x0,ai x1] []
noncomputable def vF (x0:(List bo)) (x1:Int):Option ((Int×Unit)×Unit):=ag E qU [.val (.slice 130 bq) x0,ai x1] []
noncomputable def mq (x0:fX) (x1:Int):Option ((Int×Unit)×Unit):=ag E sV [.val cH x0,ai x1] []
noncomputable def pb (x0:(List fX)) (x1:Int):Option ((Int×Unit)×Unit):=ag E lT [.val (.slice 155 cH) x0,ai x1] []
noncomputable def oC (x0:aA) (x1:Int):Option ((Int×Unit)×Unit):=ag E uV [.val aN x0,ai x1] []
noncomputable def rd (x0:(List aA)) (x1:Int):Option ((Int×Unit)×Unit):=ag E nh [.val (.slice 157 aN) x0,ai x1] []
noncomputable def B4 (x0:BS) (x1:Int):Option ((Int×Unit)×Unit):=ag E BT [.val ng x0,ai x1] []
noncomputable def tg (x0:(List Int)):Option (((List Int)×Unit)×Unit):=ag E o8 [.val (.slice 2 (.int .i64)) x0] []
noncomputable def B5 (x0:eB):Option ((eB×Unit)×Unit):=ag E B0 [.val im x0] []
noncomputable def uh (x0:bo):Option ((bo×Unit)×Unit):=ag E zE [.val bq x0] []
noncomputable def vG (x0:(List bo)):Option (((List bo)×Unit)×Unit):=ag E qV [.val (.slice 130 bq) x0] []
noncomputable def mr (x0:fX):Option (((Int×(List Int)×(List bo)×Unit)×Unit)×Unit):=ag E sW [.val cH x0] []
noncomputable def pc (x0:(List fX)):Option (((List an)×Unit)×Unit):=ag E lU [.val (.slice 155 cH) x0] []
noncomputable def oD (x0:aA):Option ((aA×Unit)×Unit):=ag E uW [.val aN x0] []
noncomputable def re (x0:(List aA)):Option (((List aA)×Unit)×Unit):=ag E nj [.val (.slice 157 aN) x0] []
noncomputable def th (x0:BS):Option (((Int×(List an)×(List aA)×Unit)×Unit)×Unit):=ag E BU [.val ng x0] []
noncomputable def iT (x0 x1 x2:Int):Option ((Bool×Unit)×Unit):=ag E ES [ai x0,ai x1,ai x2] []
noncomputable def ny (x0:L9):Option ((Bool×Unit)×Unit):=ag E q8 [aL x0] []
noncomputable def fD (x0:L9) (x1:Int) (x2:Bool) (x3:(List ab)):Option (Unit×(L9×Int×Bool×(List ab)×Unit)×Unit):=ag E kL [.ptr 0 aF []] [(0,.box aF (.strct [aL x0,ai x1,cE x2,.row 1])),(1,.row 298 af x3 false)]
noncomputable def cy (x0 x1:L9) (x2:Int) (x3:Bool) (x4:(List ab)):Option ((Bool×Unit)×(L9×Int×Bool×(List ab)×Unit)×Unit):=ag E w6 [.ptr 0 aF [],aL x0] [(0,.box aF (.strct [aL x1,ai x2,cE x3,.row 1])),(1,.row 298 af x4 false)]
noncomputable def da (x0:Int) (x1:L9) (x2:Int) (x3:Bool) (x4:(List ab)):Option ((Int×Unit)×(L9×Int×Bool×(List ab)×Unit)×Unit):=ag E pa [.ptr 0 aF [],ai x0] [(0,.box aF (.strct [aL x1,ai x2,cE x3,.row 1])),(1,.row 298 af x4 false)]
noncomputable def eC (x0:ay):Option ((Bool×Unit)×Unit):=ag E wZ [.val aU x0] []
noncomputable def db (x0:eB):Option ((Bool×Unit)×Unit):=ag E BZ [.val im x0] []
noncomputable def yl (x0:uf):Option ((Bool×Unit)×Unit):=ag E zL [.val A8 x0] []
noncomputable def ym (x0 x1:Int):Option ((Bool×Unit)×Unit):=ag E zM [ai x0,ai x1] []
noncomputable def oE (x0:ab):Option ((Bool×Unit)×Unit):=ag E u5 [.val af x0] []
noncomputable def bz (x0:ab) (x1:L9) (x2:Int) (x3:Bool) (x4:(List ab)):Option ((Int×Unit)×(L9×Int×Bool×(List ab)×Unit)×Unit):=ag E u4 [.ptr 0 aF [],.val af x0] [(0,.box aF (.strct [aL x1,ai x2,cE x3,.row 1])),(1,.row 298 af x4 false)]
noncomputable def rf (x0:L9) (x1:Int) (x2:Bool) (x3:(List ab)):Option ((Int×Unit)×(L9×Int×Bool×(List ab)×Unit)×Unit):=ag E nv [.ptr 0 aF []] [(0,.box aF (.strct [aL x0,ai x1,cE x2,.row 1])),(1,.row 298 af x3 false)]
noncomputable def p5 (x0:Int):Option ((L9×Unit)×Unit):=ag E zJ [ai x0] []
noncomputable def vH (x0:Int):Option ((ay×Unit)×Unit):=ag E w7 [ai x0] []
noncomputable def g9 (x0:L9) (x1:Int) (x2:Bool) (x3:(List ab)):Option ((L9×Unit)×(L9×Int×Bool×(List ab)×Unit)×Unit):=ag E nw [.ptr 0 aF []] [(0,.box aF (.strct [aL x0,ai x1,cE x2,.row 1])),(1,.row 298 af x3 false)]
noncomputable def A9 (x0:Int):Option ((L9×Unit)×Unit):=ag E ET [ai x0] []
noncomputable def nz (x0:Int):Option ((L9×Unit)×Unit):=ag E q6 [ai x0] []
noncomputable def kO (x0:L9):Option ((Int×Unit)×Unit):=ag E q7 [aL x0] []
noncomputable def cb (x0:L9) (x1:Int):Option ((Int×Bool×Unit)×Unit):=ag E vD [aL x0,ai x1] []
noncomputable def hJ (x0:L9):Option ((bM×Bool×Unit)×Unit):=ag E np [aL x0] []
noncomputable def lE (x0:L9) (x1:Int) (x2:Bool) (x3:(List ab)):Option ((Int×Unit)×(L9×Int×Bool×(List ab)×Unit)×Unit):=ag E u6 [.ptr 0 aF []] [(0,.box aF (.strct [aL x0,ai x1,cE x2,.row 1])),(1,.row 298 af x3 false)]
noncomputable def rg (x0:Int) (x1:L9) (x2:Int) (x3:Bool) (x4:(List ab)):Option ((Int×Unit)×(L9×Int×Bool×(List ab)×Unit)×Unit):=ag E jY [.ptr 0 aF [],ai x0] [(0,.box aF (.strct [aL x1,ai x2,cE x3,.row 1])),(1,.row 298 af x4 false)]
noncomputable def mt (x0:L9):Option ((ay×Bool×Unit)×Unit):=ag E jV [aL x0] []
noncomputable def oF (x0:L9) (x1:Int) (x2:Bool) (x3:(List ab)):Option ((Int×Unit)×(L9×Int×Bool×(List ab)×Unit)×Unit):=ag E ln [.ptr 0 aF []] [(0,.box aF (.strct [aL x0,ai x1,cE x2,.row 1])),(1,.row 298 af x3 false)]
noncomputable def nD (x0:Int):Option ((Int×Unit)×Unit):=ag E w5 [ai x0] []
noncomputable def p6 (x0:Int):Option ((L9×Unit)×Unit):=ag E zG [ai x0] []
noncomputable def vI (x0:Int) (x1:L9) (x2:Int) (x3:Bool) (x4:(List ab)):Option ((Int×Unit)×(L9×Int×Bool×(List ab)×Unit)×Unit):=ag E mp [.ptr 0 aF [],ai x0] [(0,.box aF (.strct [aL x1,ai x2,cE x3,.row 1])),(1,.row 298 af x4 false)]
noncomputable def p7 (x0:(List ab)) (x1:Int):Option ((Int×Unit)×Unit):=ag E tc [.val (.slice 298 af) x0,ai x1] []
noncomputable def p8 (x0:(List ab)) (x1:Int):Option ((Int×Unit)×Unit):=ag E td [.val (.slice 298 af) x0,ai x1] []
noncomputable def mu (x0:(List ab)):Option ((Bool×Unit)×Unit):=ag E jW [.val (.slice 298 af) x0] []
noncomputable def nE (x0:L9):Option (((List ab)×Bool×Unit)×Unit):=ag E pV [aL x0] []
noncomputable def vJ (x0:L9):Option ((L9×Unit)×Unit):=ag E ra [aL x0] []
noncomputable def iy (x0:Int):Option ((L9×Unit)×Unit):=ag E vC [ai x0] []
noncomputable def yn (x0:Int):Option ((L9×Unit)×Unit):=ag E zI [ai x0] []
noncomputable def fb (x0:ay):Option ((L9×Unit)×Unit):=ag E sZ [.val aU x0] []
noncomputable def jZ (x0:bM):Option ((L9×Unit)×Unit):=ag E sU [.val aX x0] []
noncomputable def hO (x0:(List ab)) (x1 x2:Int):Option ((L9×Unit)×Unit):=ag E s6 [.val (.slice 298 af) x0,ai x1,ai x2] []
noncomputable def nG (x0:(List ab)):Option ((L9×Unit)×Unit):=ag E pW [.val (.slice 298 af) x0] []
noncomputable def tj (x0:L9):Option ((ay×Bool×Unit)×Unit):=ag E o9 [aL x0] []
noncomputable def rh (x0:L9):Option ((L9×Bool×Unit)×Unit):=ag E wU [aL x0] []
noncomputable def vK (x0 x1:eB):Option ((Bool×Unit)×Unit):=ag E wV [.val im x0,.val im x1] []
noncomputable def ri (x0:(List bo)):Option ((Bool×Unit)×Unit):=ag E q4 [.val (.slice 112 bq) x0] []
noncomputable def jf (x0:bw) (x1:Int):Option ((Int×Unit)×Unit):=ag E qX [.val ci x0,ai x1] []
noncomputable def vL (x0:L9):Option ((Bool×Unit)×Unit):=ag E q5 [aL x0] []
noncomputable def B6 (x0:bw):Option ((Bool×Unit)×Unit):=ag E ni [.val ci x0] []
noncomputable def p9 (x0:(List Int)) (x1:Int):Option ((Bool×Unit)×Unit):=ag E sT [.val (.slice 2 (.int .i64)) x0,ai x1] []
noncomputable def oG (x0:bw) (x1:Int):Option (((List Int)×Unit)×Unit):=ag E iw [.val ci x0,ai x1] []
noncomputable def yo (x0:bw) (x1 x2:Int):Option ((Int×Unit)×Unit):=ag E sS [.val ci x0,ai x1,ai x2] []
noncomputable def Je (x0:bw) (x1 x2:Int):Option ((Int×Unit)×Unit):=ag E Hl [.val ci x0,ai x1,ai x2] []
noncomputable def dc (x0 x1 x2:Int):Option ((Bool×Unit)×Unit):=ag E zB [ai x0,ai x1,ai x2] []
noncomputable def qa (x0:an) (x1:Int):Option ((Bool×Unit)×Int×Unit):=ag E nq [.val aC x0,.ptr 0 (.int .i64) []] [(0,.box (.int .i64) (ai x1))]
noncomputable def dk (x0:(List an)) (x1:Int):Option ((Int×Unit)×Int×Unit):=ag E d9 [.val (.slice 59 aC) x0,.fn 131 [.ptr 0 (.int .i64) []]] [(0,.box (.int .i64) (ai x1))]
noncomputable def dN (x0:bw) (x1:Int):Option ((Int×Unit)×Unit):=ag E pT [.val ci x0,ai x1] []
noncomputable def mv (x0:bw) (x1:(List Int)) (x2:Int):Option ((Bool×Unit)×Unit):=ag E nl [.val ci x0,.val (.slice 2 (.int .i64)) x1,ai x2] []
noncomputable def nH (x0:eB):Option ((Bool×Unit)×Unit):=ag E BX [.val im x0] []
noncomputable def j0 (x0:Int):Option ((Bool×Unit)×Unit):=ag E mg [ai x0] []
noncomputable def fw (x0 x1:Int):Option ((Int×Unit)×Unit):=ag E kp [ai x0,ai x1] []
noncomputable def rj (x0:(List Int)):Option ((Int×Unit)×Unit):=ag E nr [.val (.slice 3 (.int .i64)) x0] []
noncomputable def nI (x0 x1:eB):Option ((Int×Unit)×Unit):=ag E pU [.val im x0,.val im x1] []
noncomputable def qb (x0:L9) (x1:Int):Option ((Bool×Unit)×Unit):=ag E s5 [aL x0,ai x1] []
noncomputable def dd (x0 x1:L9):Option ((Bool×Unit)×Unit):=ag E ic [aL x0,aL x1] []
noncomputable def jx (x0 x1:L9):Option ((L9×Bool×Unit)×Unit):=ag E ib [aL x0,aL x1] []
noncomputable def b8 (x0 x1:L9):Option ((L9×Bool×Unit)×Unit):=ag E kq [aL x0,aL x1] []
noncomputable def eD (x0 x1:L9):Option ((L9×Unit)×Unit):=ag E fa [aL x0,aL x1] []
noncomputable def ew (x0:L9) (x1:Bool) (x2:(List ab)):Option (Unit×(L9×(List ab)×Bool×Unit)×Unit):=ag E nu [.ptr 0 aJ []] [(0,.box aJ (.strct [aL x0,.row 1,cE x1])),(1,.row 298 af x2 false)]
noncomputable def cK (x0 x1:L9):Option ((Bool×Unit)×Unit):=ag E kt [aL x0,aL x1] []
noncomputable def j6 (x0:L9) (x1:Bool) (x2:(List ab)):Option ((L9×Unit)×(L9×(List ab)×Bool×Unit)×Unit):=ag E kM [.ptr 0 aJ []] [(0,.box aJ (.strct [aL x0,.row 1,cE x1])),(1,.row 298 af x2 false)]
noncomputable def aY (x0 x1:L9) (x2:Bool) (x3:(List ab)):Option ((Bool×Unit)×(L9×(List ab)×Bool×Unit)×Unit):=ag E pZ [.ptr 0 aJ [],aL x0] [(0,.box aJ (.strct [aL x1,.row 1,cE x2])),(1,.row 298 af x3 false)]
noncomputable def ga (x0:Int) (x1:L9) (x2:Bool) (x3:(List ab)):Option ((Int×Unit)×(L9×(List ab)×Bool×Unit)×Unit):=ag E oA [.ptr 0 aJ [],ai x0] [(0,.box aJ (.strct [aL x1,.row 1,cE x2])),(1,.row 298 af x3 false)]
noncomputable def aG (x0:ab) (x1:L9) (x2:Bool) (x3:(List ab)):Option ((Int×Unit)×(L9×(List ab)×Bool×Unit)×Unit):=ag E rV [.ptr 0 aJ [],.val af x0] [(0,.box aJ (.strct [aL x1,.row 1,cE x2])),(1,.row 298 af x3 false)]
noncomputable def strings_Cut (x0 x1:L9):Option ((L9×L9×Bool×Unit)×Unit):=ag E iR [aL x0,aL x1] []
noncomputable def bm (x0:ay) (x1:L9) (x2:Bool) (x3:(List ab)):Option ((Int×Unit)×(L9×(List ab)×Bool×Unit)×Unit):=ag E lC [.ptr 0 aJ [],.val aU x0] [(0,.box aJ (.strct [aL x1,.row 1,cE x2])),(1,.row 298 af x3 false)]
noncomputable def fE (x0:L9) (x1:Bool) (x2:(List ab)):Option ((Int×Unit)×(L9×(List ab)×Bool×Unit)×Unit):=ag E je [.ptr 0 aJ []] [(0,.box aJ (.strct [aL x0,.row 1,cE x1])),(1,.row 298 af x2 false)]
noncomputable def j7 (x0:Int):Option ((L9×Unit)×Unit):=ag E s8 [ai x0] []
noncomputable def w8 (x0:Int):Option ((ay×Unit)×Unit):=ag E B2 [ai x0] []
noncomputable def fF (x0:L9) (x1:Bool) (x2:(List ab)):Option ((L9×Unit)×(L9×(List ab)×Bool×Unit)×Unit):=ag E p4 [.ptr 0 aJ []] [(0,.box aJ (.strct [aL x0,.row 1,cE x1])),(1,.row 298 af x2 false)]
noncomputable def eE (x0:ay):Option ((Bool×Unit)×Unit):=ag E wY [.val aU x0] []
noncomputable def mi (x0 x1:Int):Option ((L9×Unit)×Unit):=ag E eM [ai x0,ai x1] []
noncomputable def fZ (x0:Int):Option ((L9×Unit)×Unit):=ag E wW [ai x0] []
noncomputable def dD (x0:ay):Option ((L9×Unit)×Unit):=ag E s9 [.val aU x0] []
noncomputable def w9 (x0:Bool):Option ((ay×Unit)×Unit):=ag E B1 [cE x0] []
noncomputable def eF (x0:L9) (x1 x2:Int):Option ((Int×Bool×Unit)×Unit):=ag E e8 [aL x0,ai x1,ai x2] []
noncomputable def ui (x0:Int):Option ((ay×Unit)×Unit):=ag E zH [ai x0] []
noncomputable def f0 (x0:L9):Option ((ay×Bool×Unit)×Unit):=ag E nt [aL x0] []
noncomputable def kP (x0:Int):Option ((L9×Unit)×Unit):=ag E w4 [ai x0] []
noncomputable def vM (x0:L9):Option ((Int×Unit)×Unit):=ag E q9 [aL x0] []
noncomputable def hY (x0:bM):Option ((L9×Unit)×Unit):=ag E s4 [.val aX x0] []
noncomputable def ek (x0:L9):Option ((bM×Bool×Unit)×Unit):=ag E sY [aL x0] []
noncomputable def uj (x0:Int):Option ((L9×Unit)×Unit):=ag E zN [ai x0] []
noncomputable def f2 (x0:L9) (x1:Bool) (x2:(List ab)):Option (((Int×Int×ay×bM×bM×(List Int)×Unit)×Bool×Unit)×(L9×(List ab)×Bool×Unit)×Unit):=ag E lD [.ptr 0 aJ []] [(0,.box aJ (.strct [aL x0,.row 1,cE x1])),(1,.row 298 af x2 false)]
noncomputable def bb (x0 x1:Int) (x2:L9) (x3:Bool) (x4:(List ab)):Option ((Int×Unit)×(L9×(List ab)×Bool×Unit)×Unit):=ag E fY [.ptr 0 aJ [],ai x0,ai x1] [(0,.box aJ (.strct [aL x2,.row 1,cE x3])),(1,.row 298 af x4 false)]
noncomputable def eG (x0 x1:Int) (x2:L9) (x3:Bool) (x4:(List ab)):Option ((Int×Unit)×(L9×(List ab)×Bool×Unit)×Unit):=ag E g8 [.ptr 0 aJ [],ai x0,ai x1] [(0,.box aJ (.strct [aL x2,.row 1,cE x3])),(1,.row 298 af x4 false)]
noncomputable def j8 (x0:Int) (x1:L9) (x2:Bool) (x3:(List ab)):Option ((Int×Unit)×(L9×(List ab)×Bool×Unit)×Unit):=ag E g6 [.ptr 0 aJ [],ai x0] [(0,.box aJ (.strct [aL x1,.row 1,cE x2])),(1,.row 298 af x3 false)]
noncomputable def qc (x0:Int):Option ((L9×Unit)×Unit):=ag E zK [ai x0] []
noncomputable def tk (x0:Int):Option ((Int×Unit)×Unit):=ag E B3 [ai x0] []
noncomputable def pd (x0:ab):Option ((uf×Unit)×Unit):=ag E rX [.val af x0] []
noncomputable def uk (x0:uf):Option ((Bool×Unit)×Unit):=ag E zO [.val A8 x0] []
noncomputable def cN (x0:ab):Option ((Bool×Unit)×Unit):=ag E mh [.val af x0] []
noncomputable def dl (x0:ab):Option ((Bool×Unit)×Unit):=ag E oB [.val af x0] []
noncomputable def nJ (x0:ab):Option ((Bool×Unit)×Unit):=ag E p3 [.val af x0] []
noncomputable def rk (x0:(List ab)) (x1 x2:Int):Option ((Int×Unit)×Unit):=ag E yk [.val (.slice 298 af) x0,ai x1,ai x2] []
noncomputable def mw (x0:(List ab)):Option ((Bool×Unit)×Unit):=ag E s7 [.val (.slice 298 af) x0] []
noncomputable def nK (x0:L9):Option (((List ab)×Bool×Unit)×Unit):=ag E pX [aL x0] []
noncomputable def strings_ReplaceAll (x0 x1 x2:L9):Option ((L9×Unit)×Unit):=ag E ej [aL x0,aL x1,aL x2] []
noncomputable def dP (x0:(List ab)) (x1 x2:Int):Option ((L9×Unit)×Unit):=ag E kN [.val (.slice 298 af) x0,ai x1,ai x2] []
noncomputable def strings_Join (x0:(List L9)) (x1:L9):Option ((L9×Unit)×Unit):=ag E g7 [.val (.slice 9 .str) x0,aL x1] []
noncomputable def nL (x0:(List ab)):Option ((L9×Unit)×Unit):=ag E pY [.val (.slice 298 af) x0] []
noncomputable def zP (x0:(List ab)):Option ((L9×Bool×Unit)×Unit):=ag E u2 [.val (.slice 298 af) x0] []
noncomputable def iz (x0 x1:L9):Option ((L9×Unit)×Unit):=ag E gH [aL x0,aL x1] []
noncomputable def gI (x0 x1:L9):Option ((L9×Unit)×Unit):=ag E jX [aL x0,aL x1] []
noncomputable def gJ (x0 x1:L9):Option ((L9×Unit)×Unit):=ag E g5 [aL x0,aL x1] []
noncomputable def tl (x0:L9):Option ((Bool×Unit)×Unit):=ag E u3 [aL x0] []
noncomputable def rl (x0:L9):Option ((L9×Bool×Unit)×Unit):=ag E wX [aL x0] []
noncomputable def oH (x0:L9):Option ((Bool×Unit)×Unit):=ag E uY [aL x0] []
noncomputable def rm (x0:(List bo)):Option ((Bool×Unit)×Unit):=ag E qZ [.val (.slice 112 bq) x0] []
noncomputable def yp (x0:L9):Option ((Bool×Unit)×Unit):=ag E zC [aL x0] []
noncomputable def B7 (x0:bw):Option ((Bool×Unit)×Unit):=ag E qS [.val ci x0] []
noncomputable def gb (x0:(List Int)) (x1:Int):Option ((Int×Unit)×Unit):=ag E dA [.val (.slice 2 (.int .i64)) x0,ai x1] []
noncomputable def cu (x0:(List Int)) (x1:Int):Option ((Bool×Unit)×Unit):=ag E eO [.val (.slice 2 (.int .i64)) x0,ai x1] []
noncomputable def dQ (x0:(List Int)):Option (Unit×(List Int)×Unit):=ag E dM [.row 0] [(0,.row 2 (.int .i64) x0 false)]
noncomputable def my (x0:bw) (x1:Int):Option (((List Int)×Unit)×Unit):=ag E jU [.val ci x0,ai x1] []
noncomputable def vO (x0:bw) (x1 x2:Int):Option ((Int×Unit)×Unit):=ag E qY [.val ci x0,ai x1,ai x2] []
noncomputable def Jf (x0:bw) (x1 x2:Int):Option ((Int×Unit)×Unit):=ag E Hm [.val ci x0,ai x1,ai x2] []
noncomputable def tm (x0 x1:(List Int)):Option ((Bool×Unit)×Unit):=ag E o7 [.val (.slice 2 (.int .i64)) x0,.val (.slice 2 (.int .i64)) x1] []
noncomputable def B8 (x0 x1:eB):Option ((Bool×Unit)×Unit):=ag E BW [.val im x0,.val im x1] []
noncomputable def um (x0 x1:bo):Option ((Bool×Unit)×Unit):=ag E zF [.val bq x0,.val bq x1] []
noncomputable def vP (x0 x1:(List bo)):Option ((Bool×Unit)×Unit):=ag E qW [.val (.slice 112 bq) x0,.val (.slice 112 bq) x1] []
noncomputable def mz (x0 x1:an):Option ((Bool×Unit)×Unit):=ag E sX [.val aC x0,.val aC x1] []
noncomputable def pe (x0 x1:(List an)):Option ((Bool×Unit)×Unit):=ag E lV [.val (.slice 59 aC) x0,.val (.slice 59 aC) x1] []
noncomputable def oI (x0 x1:aA):Option ((Bool×Unit)×Unit):=ag E uX [.val aN x0,.val aN x1] []
noncomputable def rn (x0 x1:(List aA)):Option ((Bool×Unit)×Unit):=ag E nk [.val (.slice 57 aN) x0,.val (.slice 57 aN) x1] []
noncomputable def B9 (x0 x1:bw):Option ((Bool×Unit)×Unit):=ag E BV [.val ci x0,.val ci x1] []
noncomputable def u7 (x0:BS) (x1 x2:Int):Option ((Bool×Unit)×Unit):=ag E lS [.val ng x0,ai x1,ai x2] []
noncomputable def FB:Code:=aH Tryz.f45
def unU (n:Nat):List SV:=List.replicate n .undef
noncomputable def pf (x0:(List bo)) (x1 x2:Int):Option ((Int×Unit)×Unit):=bB E qU [] FB 976 {slots:=[.val (.slice 130 bq) x0,ai x1,aa,aa,aa,ai x2]++unU 21,res:=[],nx:=0,n0:=0}
noncomputable def Ar:Code:=aH Tryz.f59
noncomputable def kQ (x0:(List fX)) (x1 x2:Int):Option ((Int×Unit)×Unit):=bB E lT [] Ar 976 {slots:=[.val (.slice 155 cH) x0,ai x1,aa,aa,aa,ai x2]++unU 21,res:=[],nx:=0,n0:=0}
noncomputable def Ca:Code:=aH Tryz.f60
noncomputable def lW (x0:(List aA)) (x1 x2:Int):Option ((Int×Unit)×Unit):=bB E nh [] Ca 976 {slots:=[.val (.slice 157 aN) x0,ai x1,aa,aa,aa,ai x2]++unU 21,res:=[],nx:=0,n0:=0}
noncomputable def DK:Code:=aH Tryz.f183
noncomputable def nM (x0:(List Int)) (x1:Int) (x2:(List Int)):Option (((List Int)×Unit)×Unit):=bB E o8 [] DK 464 {slots:=[.val (.slice 2 (.int .i64)) x0,aa,aa,.row 0,ai x1]++unU 17,res:=[(0,.row 2 (.int .i64) x2 false)],nx:=1,n0:=0}
noncomputable def FC:Code:=aH Tryz.f46
noncomputable def pg (x0:(List bo)) (x1:Int) (x2:(List bo)):Option (((List bo)×Unit)×Unit):=bB E qV [] FC 464 {slots:=[.val (.slice 130 bq) x0,aa,aa,.row 0,ai x1]++unU 18,res:=[(0,.row 112 bq x2 false)],nx:=1,n0:=0}
noncomputable def Au:Code:=aH Tryz.f64
noncomputable def kR (x0:(List fX)) (x1:Int) (x2:(List an)):Option (((List an)×Unit)×Unit):=bB E lU [] Au 464 {slots:=[.val (.slice 155 cH) x0,aa,aa,.row 0,ai x1]++unU 18,res:=[(0,.row 59 aC x2 false)],nx:=1,n0:=0}
noncomputable def Cb:Code:=aH Tryz.f65
noncomputable def lX (x0:(List aA)) (x1:Int) (x2:(List aA)):Option (((List aA)×Unit)×Unit):=bB E nj [] Cb 464 {slots:=[.val (.slice 157 aN) x0,aa,aa,.row 0,ai x1]++unU 18,res:=[(0,.row 57 aN x2 false)],nx:=1,n0:=0}
noncomputable def FD:Code:=aH Tryz.f190
noncomputable def lp (x0:L9) (x1:Int):Option ((Bool×Unit)×Unit):=bB E q8 [] FD 208 {slots:=[aL x0,aa,aa,ai x1]++unU 19,res:=[],nx:=0,n0:=0}
noncomputable def yq:Code:=aH Tryz.f247
noncomputable def gq (x0:L9) (x1:Int) (x2:Bool) (x3:(List ab)):Option (Unit×(L9×Int×Bool×(List ab)×Unit)×Unit):=bB E kL [(0,.box aF (aa)),(1,.row 298 af [] false)] yq 16 {slots:=[.ptr 0 aF []]++unU 30,res:=[(0,.box aF (.strct [aL x0,ai x1,cE x2,.row 1])),(1,.row 298 af x3 false)],nx:=2,n0:=2}
noncomputable def DL:Code:=aH Tryz.f246
noncomputable def cj (x0 x1:Int) (x2:L9) (x3:Int) (x4:Bool) (x5:(List ab)):Option ((Int×Unit)×(L9×Int×Bool×(List ab)×Unit)×Unit):=bB E pa [(0,.box aF (aa)),(1,.row 298 af [] false)] DL 992 {slots:=[.ptr 0 aF [],ai x0,aa,aa,aa,ai x1]++unU 37,res:=[(0,.box aF (.strct [aL x2,ai x3,cE x4,.row 2])),(2,.row 298 af x5 false)],nx:=3,n0:=2}
noncomputable def Cc:Code:=aH Tryz.f333
noncomputable def gc (x0 x1:L9) (x2:Int) (x3:Bool) (x4:(List ab)):Option ((Int×Unit)×(L9×Int×Bool×(List ab)×Unit)×Unit):=bB E nv [(0,.box aF (aa)),(1,.row 298 af [] false)] Cc 224 {slots:=[.ptr 0 aF [],aa,aa,aL x0]++unU 89,res:=[(0,.box aF (.strct [aL x1,ai x2,cE x3,.row 1])),(1,.row 298 af x4 false)],nx:=2,n0:=2}
noncomputable def Cd:Code:=aH Tryz.f335
noncomputable def cD (x0:Int) (x1:L9) (x2:Int) (x3:Bool) (x4:(List ab)):Option ((L9×Unit)×(L9×Int×Bool×(List ab)×Unit)×Unit):=bB E nw [(0,.box aF (aa)),(1,.row 298 af [] false)] Cd 224 {slots:=[.ptr 0 aF [],aa,aa,ai x0]++unU 91,res:=[(0,.box aF (.strct [aL x1,ai x2,cE x3,.row 1])),(1,.row 298 af x4 false)],nx:=2,n0:=2}
noncomputable def FE:Code:=aH Tryz.f167
noncomputable def ph (x0:Int) (x1:L9):Option ((L9×Unit)×Unit):=bB E q6 [] FE 480 {slots:=[ai x0,aa,aa,aL x1]++unU 18,res:=[],nx:=0,n0:=0}
noncomputable def FF:Code:=aH Tryz.f181
noncomputable def pi (x0:L9) (x1:Int):Option ((Int×Unit)×Unit):=bB E q7 [] FF 208 {slots:=[aL x0,aa,aa,ai x1]++unU 9,res:=[],nx:=0,n0:=0}
noncomputable def Jg:Code:=aH Tryz.f123
noncomputable def jy (x0:L9) (x1 x2:Int):Option ((Int×Bool×Unit)×Unit):=bB E vD [] Jg 976 {slots:=[aL x0,aa,aa,aa,aa,aa,ai x1,ai x2]++unU 44,res:=[],nx:=0,n0:=0}
noncomputable def Ce:Code:=aH Tryz.f124
noncomputable def eR (x0:L9) (x1 x2 x3:Int) (x4 x5:Bool) (x6 x7:Int) (x8 x9:Bool):Option ((bM×Bool×Unit)×Unit):=bB E np [] Ce 992 {slots:=[aL x0,aa,.ptr 0 aX [],aa,.ptr 1 aX [],ai x1]++unU 70,res:=[(0,.box aX (.strct [.strct [ai x2,ai x3],cE x4,cE x5])),(1,.box aX (.strct [.strct [ai x6,ai x7],cE x8,cE x9]))],nx:=2,n0:=0}
noncomputable def tn:Code:=aH Tryz.f336
noncomputable def lY (x0:Int) (x1:L9) (x2:Int) (x3:Bool) (x4:(List ab)) (x5:(List Int)):Option ((Int×Unit)×(L9×Int×Bool×(List ab)×Unit)×Unit):=bB E jY [(0,.box aF (aa)),(1,.row 298 af [] false)] tn 224 {slots:=[.ptr 0 aF [],ai x0,aa,aa,aa,.row 2]++unU 24,res:=[(0,.box aF (.strct [aL x1,ai x2,cE x3,.row 1])),(1,.row 298 af x4 false),(2,.row 2 (.int .i64) x5 false)],nx:=3,n0:=2}
noncomputable def to:Code:=aH Tryz.f195
noncomputable def aw (x0 x1:Int) (x2:L9) (x3 x4:Int) (x5:L9):Option ((ay×Bool×Unit)×Unit):=bB E jV [] to 60 {slots:=[aa,aa,.ptr 0 aU [],aa,.ptr 1 aU []]++unU 71,res:=[(0,.box aU (.strct [ai x0,ai x1,aL x2])),(1,.box aU (.strct [ai x3,ai x4,aL x5]))],nx:=2,n0:=0}
noncomputable def de (x0:L9) (x1 x2 x3:Int) (x4:L9) (x5 x6:Int) (x7:L9):Option ((ay×Bool×Unit)×Unit):=bB E jV [] to 475056 {slots:=[aL x0,aa,.ptr 0 aU [],aa,.ptr 1 aU [],ai x1]++unU 70,res:=[(0,.box aU (.strct [ai x2,ai x3,aL x4])),(1,.box aU (.strct [ai x5,ai x6,aL x7]))],nx:=2,n0:=0}
noncomputable def u9:Code:=aH Tryz.f289
noncomputable def eT (x0:Int) (x1:L9) (x2:Int) (x3:Bool) (x4:(List ab)):Option ((Int×Unit)×(L9×Int×Bool×(List ab)×Unit)×Unit):=bB E ln [(0,.box aF (aa)),(1,.row 298 af [] false)] u9 212880 {slots:=[.ptr 0 aF [],aa,aa,aa,aa,ai x0]++unU 140,res:=[(0,.box aF (.strct [aL x1,ai x2,cE x3,.row 2])),(2,.row 298 af x4 false)],nx:=3,n0:=2}
noncomputable def dn (x0:L9) (x1:Int) (x2:L9) (x3:Int) (x4:Bool) (x5:(List ab)):Option ((Int×Unit)×(L9×Int×Bool×(List ab)×Unit)×Unit):=bB E ln [(0,.box aF (aa)),(1,.row 298 af [] false)] u9 976 {slots:=[.ptr 0 aF [],aa,aa,aa,aa,aa,aa,aL x0,ai x1]++unU 137,res:=[(0,.box aF (.strct [aL x2,ai x3,cE x4,.row 2])),(2,.row 298 af x5 false)],nx:=3,n0:=2}
noncomputable def xa:Code:=aH Tryz.f290
noncomputable def lq (x0 x1:Int) (x2:L9) (x3:Int) (x4:Bool) (x5:(List ab)) (x6:(List Int)):Option ((Int×Unit)×(L9×Int×Bool×(List ab)×Unit)×Unit):=bB E mp [(0,.box aF (aa)),(1,.row 298 af [] false)] xa 464 {slots:=[.ptr 0 aF [],ai x0,aa,aa,aa,.row 2,ai x1]++unU 27,res:=[(0,.box aF (.strct [aL x2,ai x3,cE x4,.row 1])),(1,.row 298 af x5 false),(2,.row 2 (.int .i64) x6 false)],nx:=3,n0:=2}
noncomputable def Hn:Code:=aH Tryz.f293
noncomputable def mA (x0:(List ab)) (x1 x2 x3:Int):Option ((Int×Unit)×Unit):=bB E tc [] Hn 464 {slots:=[.val (.slice 298 af) x0,ai x1,aa,aa,aa,ai x2,ai x3]++unU 37,res:=[],nx:=0,n0:=0}
noncomputable def Ho:Code:=aH Tryz.f294
noncomputable def mB (x0:(List ab)) (x1 x2 x3:Int):Option ((Int×Unit)×Unit):=bB E td [] Ho 464 {slots:=[.val (.slice 298 af) x0,ai x1,aa,aa,aa,ai x2,ai x3]++unU 24,res:=[],nx:=0,n0:=0}
noncomputable def tq:Code:=aH Tryz.f248
noncomputable def cW (x0:(List ab)) (x1:Int):Option ((Bool×Unit)×Unit):=bB E jW [] tq 464 {slots:=[.val (.slice 298 af) x0,aa,aa,ai x1]++unU 83,res:=[],nx:=0,n0:=0}
noncomputable def FG:Code:=aH Tryz.f295
noncomputable def iA (x0 x1:L9) (x2:Int):Option ((L9×Unit)×Unit):=bB E ra [] FG 464 {slots:=[aL x0,aa,aa,aL x1,ai x2]++unU 21,res:=[],nx:=0,n0:=0}
noncomputable def Jh:Code:=aH Tryz.f101
noncomputable def lF (x0:Int) (x1:L9):Option ((L9×Unit)×Unit):=bB E vC [] Jh 480 {slots:=[ai x0,aa,aa,aL x1]++unU 25,res:=[],nx:=0,n0:=0}
noncomputable def Hp:Code:=aH Tryz.f249
noncomputable def iB (x0:(List ab)) (x1:L9) (x2 x3 x4:Int) (x5:ay) (x6 x7:bM) (x8:(List Int)):Option ((L9×Unit)×Unit):=bB E s6 [] Hp 2000 {slots:=[.val (.slice 298 af) x0,aa,aa,aa,aa,aa,aa,.ptr 0 af [],aa,aa,aL x1,ai x2]++unU 101,res:=[(0,.box af (.strct [ai x3,ai x4,.val aU x5,.val aX x6,.val aX x7,.val (.slice 2 (.int .i64)) x8]))],nx:=1,n0:=0}
noncomputable def DM:Code:=aH Tryz.f193
noncomputable def fG (x0:L9) (x1:Bool) (x2 x3:Int) (x4:L9):Option ((ay×Bool×Unit)×Unit):=bB E o9 [] DM 992 {slots:=[aL x0,aa,.ptr 0 aU [],aa,cE x1]++unU 43,res:=[(0,.box aU (.strct [ai x2,ai x3,aL x4]))],nx:=1,n0:=0}
noncomputable def FH:Code:=aH Tryz.f85
noncomputable def iC (x0:(List bo)) (x1:Int):Option ((Bool×Unit)×Unit):=bB E q4 [] FH 464 {slots:=[.val (.slice 112 bq) x0,aa,aa,ai x1]++unU 67,res:=[],nx:=0,n0:=0}
noncomputable def FI:Code:=aH Tryz.f62
noncomputable def lr (x0 x1 x2:Int) (x3:(List an)) (x4:(List aA)):Option ((Int×Unit)×Unit):=bB E qX [] FI 208 {slots:=[aa,ai x0,.ptr 0 ci [],aa,aa,ai x1]++unU 16,res:=[(0,.box ci (.strct [ai x2,.val (.slice 59 aC) x3,.val (.slice 57 aN) x4]))],nx:=1,n0:=0}
noncomputable def FJ:Code:=aH Tryz.f109
noncomputable def lu (x0:L9) (x1:Int):Option ((Bool×Unit)×Unit):=bB E q5 [] FJ 464 {slots:=[aL x0,aa,aa,ai x1]++unU 24,res:=[],nx:=0,n0:=0}
noncomputable def vQ:Code:=aH Tryz.f61
noncomputable def ep (x0 x1:Int) (x2:(List an)) (x3:(List aA)):Option ((Bool×Unit)×Unit):=bB E ni [] vQ 464 {slots:=[aa,.ptr 0 ci [],aa,ai x0]++unU 161,res:=[(0,.box ci (.strct [ai x1,.val (.slice 59 aC) x2,.val (.slice 57 aN) x3]))],nx:=1,n0:=0}
noncomputable def Hq:Code:=aH Tryz.f97
noncomputable def mC (x0:(List Int)) (x1 x2:Int):Option ((Bool×Unit)×Unit):=bB E sT [] Hq 208 {slots:=[.val (.slice 2 (.int .i64)) x0,ai x1,aa,aa,aa,ai x2]++unU 12,res:=[],nx:=0,n0:=0}
noncomputable def pj:Code:=aH Tryz.f74
noncomputable def gK (x0 x1:Int) (x2:(List an)) (x3:(List aA)) (x4:(List Int)):Option (((List Int)×Unit)×Unit):=bB E iw [] pj 464 {slots:=[aa,aa,.ptr 0 ci [],aa,aa,.row 1,ai x0]++unU 71,res:=[(0,.box ci (.strct [ai x1,.val (.slice 59 aC) x2,.val (.slice 57 aN) x3])),(1,.row 2 (.int .i64) x4 false)],nx:=2,n0:=0}
noncomputable def Hr:Code:=aH Tryz.f63
noncomputable def j9 (x0 x1:Int) (x2 x3:(List Int)):Option ((Int×Unit)×Unit):=bB E sS [] Hr 2000 {slots:=[aa,aa,aa,aa,aa,aa,aa,.row 0,.row 1,ai x0,ai x1]++unU 23,res:=[(0,.row 2 (.int .i64) x2 false),(1,.row 2 (.int .i64) x3 false)],nx:=2,n0:=0}
noncomputable def lZ:Code:=aH Tryz.f130
noncomputable def bc (x0:(List an)) (x1 x2 x3:Int):Option ((Int×Unit)×Int×Unit):=bB E d9 [(0,.box (.int .i64) (aa))] lZ 104 {slots:=[.val (.slice 59 aC) x0,.fn 131 [.ptr 0 (.int .i64) []],aa,aa,aa,aa,aa,ai x1,ai x2]++unU 10,res:=[(0,.box (.int .i64) (ai x3))],nx:=1,n0:=1}
noncomputable def Cf:Code:=aH Tryz.f90
noncomputable def cX (x0:(List Int)) (x1:Int) (x2:(List Int)) (x3 x4 x5:Int) (x6:(List an)) (x7:(List aA)):Option ((Bool×Unit)×Unit):=bB E nl [] Cf 104 {slots:=[aa,.val (.slice 2 (.int .i64)) x0,ai x1,.ptr 0 ci [],aa,aa,aa,aa,aa,.val (.slice 2 (.int .i64)) x2,ai x3,ai x4]++unU 30,res:=[(0,.box ci (.strct [ai x5,.val (.slice 59 aC) x6,.val (.slice 57 aN) x7]))],nx:=1,n0:=0}
noncomputable def Cg:Code:=aH Tryz.f187
noncomputable def iU (x0:Int) (x1:(List Int)) (x2 x3:Int):Option ((Int×Unit)×Unit):=bB E nr [] Cg 232 {slots:=[aa,aa,aa,ai x0,aa,aa,.val (.slice 3 (.int .i64)) x1,ai x2,ai x3]++unU 9,res:=[],nx:=0,n0:=0}
noncomputable def Hs:Code:=aH Tryz.f239
noncomputable def mD (x0:L9) (x1 x2 x3:Int):Option ((Bool×Unit)×Unit):=bB E s5 [] Hs 104 {slots:=[aL x0,ai x1,aa,aa,aa,aa,aa,ai x2,ai x3]++unU 17,res:=[],nx:=0,n0:=0}
noncomputable def yr:Code:=aH Tryz.f324
noncomputable def gr (x0 x1:Int) (x2:L9) (x3:Bool) (x4:(List L9)) (x5:(List ab)):Option ((L9×Unit)×(L9×(List ab)×Bool×Unit)×Unit):=bB E kM [(0,.box aJ (aa)),(1,.row 298 af [] false)] yr 232 {slots:=[.ptr 0 aJ [],aa,aa,aa,aa,aa,aa,.row 2,ai x0,ai x1]++unU 11,res:=[(0,.box aJ (.strct [aL x2,.row 3,cE x3])),(2,.row 9 .str x4 false),(3,.row 298 af x5 false)],nx:=4,n0:=2}
noncomputable def vR:Code:=aH Tryz.f358
noncomputable def fx (x0 x1 x2:L9) (x3:Bool) (x4:(List ab)):Option ((Int×Unit)×(L9×(List ab)×Bool×Unit)×Unit):=bB E je [(0,.box aJ (aa)),(1,.row 298 af [] false)] vR 224 {slots:=[.ptr 0 aJ [],aa,aa,aL x0,aL x1]++unU 38,res:=[(0,.box aJ (.strct [aL x2,.row 1,cE x3])),(1,.row 298 af x4 false)],nx:=2,n0:=2}
noncomputable def Ch:Code:=aH Tryz.f245
noncomputable def eb (x0:L9) (x1 x2 x3:Int) (x4:L9) (x5 x6:Int) (x7:L9):Option ((ay×Bool×Unit)×Unit):=bB E nt [] Ch 120784 {slots:=[aL x0,aa,.ptr 0 aU [],aa,.ptr 1 aU [],aa,aa,ai x1]++unU 56,res:=[(0,.box aU (.strct [ai x2,ai x3,aL x4])),(1,.box aU (.strct [ai x5,ai x6,aL x7]))],nx:=2,n0:=0}
noncomputable def FK:Code:=aH Tryz.f225
noncomputable def pk (x0:L9) (x1:Int):Option ((Int×Unit)×Unit):=bB E q9 [] FK 208 {slots:=[aL x0,aa,aa,ai x1]++unU 9,res:=[],nx:=0,n0:=0}
noncomputable def nN:Code:=aH Tryz.f279
noncomputable def dj (x0 x1 x2:Int) (x3:L9) (x4:Bool) (x5:(List ab)):Option ((Int×Unit)×(L9×(List ab)×Bool×Unit)×Unit):=bB E fY [(0,.box aJ (aa)),(1,.row 298 af [] false)] nN 224 {slots:=[.ptr 0 aJ [],ai x0,ai x1,aa,aa,aa,aa,ai x2]++unU 47,res:=[(0,.box aJ (.strct [aL x3,.row 2,cE x4])),(2,.row 298 af x5 false)],nx:=3,n0:=2}
noncomputable def qd:Code:=aH Tryz.f361
noncomputable def oJ (x0 x1:Int) (x2:L9) (x3:Bool) (x4:(List ab)) (x5:(List Int)):Option ((Int×Unit)×(L9×(List ab)×Bool×Unit)×Unit):=bB E g8 [(0,.box aJ (aa)),(1,.row 298 af [] false)] qd 480 {slots:=[.ptr 0 aJ [],ai x0,ai x1,aa,aa,aa,aa,.row 2]++unU 59,res:=[(0,.box aJ (.strct [aL x2,.row 1,cE x3])),(1,.row 298 af x4 false),(2,.row 2 (.int .i64) x5 false)],nx:=3,n0:=2}
noncomputable def bN (x0 x1:Int) (x2:L9) (x3:Bool) (x4:(List Int)) (x5:(List ab)):Option ((Int×Unit)×(L9×(List ab)×Bool×Unit)×Unit):=bB E g8 [(0,.box aJ (aa)),(1,.row 298 af [] false)] qd 480 {slots:=[.ptr 0 aJ [],ai x0,ai x1,aa,aa,aa,aa,.row 2]++unU 59,res:=[(0,.box aJ (.strct [aL x2,.row 3,cE x3])),(2,.row 2 (.int .i64) x4 false),(3,.row 298 af x5 false)],nx:=4,n0:=2}
noncomputable def qe:Code:=aH Tryz.f349
noncomputable def cp (x0 x1:Int) (x2:L9) (x3:Bool) (x4:(List ab)):Option ((Int×Unit)×(L9×(List ab)×Bool×Unit)×Unit):=bB E g6 [(0,.box aJ (aa)),(1,.row 298 af [] false)] qe 14800 {slots:=[.ptr 0 aJ [],ai x0,aa,aa,aa,ai x1]++unU 114,res:=[(0,.box aJ (.strct [aL x2,.row 2,cE x3])),(2,.row 298 af x4 false)],nx:=3,n0:=2}
noncomputable def cz (x0:Int) (x1:L9) (x2:Int) (x3:L9) (x4:Bool) (x5:(List ab)):Option ((Int×Unit)×(L9×(List ab)×Bool×Unit)×Unit):=bB E g6 [(0,.box aJ (aa)),(1,.row 298 af [] false)] qe 8144 {slots:=[.ptr 0 aJ [],ai x0,aa,aa,aa,aa,aa,aa,aa,aL x1,aa,aa,aa,aa,ai x2]++unU 105,res:=[(0,.box aJ (.strct [aL x3,.row 2,cE x4])),(2,.row 298 af x5 false)],nx:=3,n0:=2}
noncomputable def Kf:Code:=aH Tryz.f329
noncomputable def kS (x0:(List ab)) (x1 x2 x3 x4:Int):Option ((Int×Unit)×Unit):=bB E yk [] Kf 976 {slots:=[.val (.slice 298 af) x0,ai x1,ai x2,aa,aa,aa,aa,ai x3,ai x4]++unU 67,res:=[],nx:=0,n0:=0}
noncomputable def yt:Code:=aH Tryz.f330
noncomputable def f4 (x0:(List ab)) (x1:(List Int)) (x2 x3 x4 x5:Int) (x6:ay) (x7 x8:bM) (x9:(List Int)) (x10:(List L9)):Option ((L9×Unit)×Unit):=bB E kN [] yt 1000 {slots:=[.val (.slice 298 af) x0,aa,aa,aa,aa,aa,aa,.ptr 0 af [],aa,aa,.row 1,aa,aa,aa,aa,aa,aa,aa,aa,aa,aa,aa,aa,aa,aa,aa,aa,aa,aa,aa,aa,aa,aa,aa,aa,aa,aa,aa,aa,aa,aa,aa,aa,aa,aa,aa,aa,aa,aa,aa,aa,aa,aa,aa,aa,aa,aa,aa,aa,aa,aa,aa,aa,aa,aa,aa,aa,aa,aa,aa,aa,aa,aa,aa,aa,aa,aa,aa,aa,aa,aa,aa,aa,aa,aa,aa,aa,aa,aa,aa,aa,aa,.val (.slice 2 (.int .i64)) x1,ai x2,ai x3]++unU 18,res:=[(0,.box af (.strct [ai x4,ai x5,.val aU x6,.val aX x7,.val aX x8,.val (.slice 2 (.int .i64)) x9])),(1,.row 9 .str x10 false)],nx:=2,n0:=0}
noncomputable def FL:Code:=aH Tryz.f80
noncomputable def iE (x0 x1:(List bo)) (x2 x3:Int):Option ((Bool×Unit)×Unit):=bB E qZ [] FL 104 {slots:=[.val (.slice 112 bq) x0,aa,aa,aa,aa,.val (.slice 112 bq) x1,ai x2,ai x3]++unU 34,res:=[],nx:=0,n0:=0}
noncomputable def Ci:Code:=aH Tryz.f36
noncomputable def fd (x0:(List an)) (x1 x2 x3:Int) (x4:(List an)) (x5:(List aA)):Option ((Bool×Unit)×Unit):=bB E qS [] Ci 232 {slots:=[aa,.ptr 0 ci [],aa,aa,aa,aa,aa,aa,aa,aa,aa,aa,aa,aa,aa,aa,aa,aa,aa,aa,aa,aa,aa,aa,aa,aa,.val (.slice 59 aC) x0,ai x1,ai x2]++unU 79,res:=[(0,.box ci (.strct [ai x3,.val (.slice 59 aC) x4,.val (.slice 57 aN) x5]))],nx:=1,n0:=0}
noncomputable def kT:Code:=aH Tryz.f161
noncomputable def b7 (x0:(List Int)) (x1 x2 x3:Int):Option ((Int×Unit)×Unit):=bB E dA [] kT 104 {slots:=[.val (.slice 2 (.int .i64)) x0,ai x1,aa,aa,aa,aa,aa,ai x2,ai x3]++unU 10,res:=[],nx:=0,n0:=0}
noncomputable def tr:Code:=aH Tryz.f73
noncomputable def gd (x0 x1:Int) (x2:(List an)) (x3:(List aA)) (x4:(List Int)):Option (((List Int)×Unit)×Unit):=bB E jU [] tr 464 {slots:=[aa,aa,.ptr 0 ci [],aa,aa,.row 1,ai x0]++unU 38,res:=[(0,.box ci (.strct [ai x1,.val (.slice 59 aC) x2,.val (.slice 57 aN) x3])),(1,.row 2 (.int .i64) x4 false)],nx:=2,n0:=0}
noncomputable def FM:Code:=aH Tryz.f67
noncomputable def iG (x0 x1 x2:Int) (x3 x4:(List Int)):Option ((Int×Unit)×Unit):=bB E qY [] FM 232 {slots:=[aa,aa,aa,aa,aa,aa,aa,.row 0,ai x0,aa,aa,aa,aa,aa,aa,aa,.row 1,ai x1,ai x2]++unU 9,res:=[(0,.row 2 (.int .i64) x3 false),(1,.row 2 (.int .i64) x4 false)],nx:=2,n0:=0}
noncomputable def DN:Code:=aH Tryz.f25
noncomputable def nO (x0 x1:(List Int)) (x2:Int):Option ((Bool×Unit)×Unit):=bB E o7 [] DN 464 {slots:=[.val (.slice 2 (.int .i64)) x0,.val (.slice 2 (.int .i64)) x1,aa,aa,aa,ai x2]++unU 20,res:=[],nx:=0,n0:=0}
noncomputable def FN:Code:=aH Tryz.f47
noncomputable def pl (x0 x1:(List bo)) (x2:Int):Option ((Bool×Unit)×Unit):=bB E qW [] FN 464 {slots:=[.val (.slice 112 bq) x0,.val (.slice 112 bq) x1,aa,aa,aa,ai x2]++unU 21,res:=[],nx:=0,n0:=0}
noncomputable def Av:Code:=aH Tryz.f68
noncomputable def kU (x0 x1:(List an)) (x2:Int):Option ((Bool×Unit)×Unit):=bB E lV [] Av 464 {slots:=[.val (.slice 59 aC) x0,.val (.slice 59 aC) x1,aa,aa,aa,ai x2]++unU 21,res:=[],nx:=0,n0:=0}
noncomputable def Cj:Code:=aH Tryz.f69
noncomputable def l4 (x0 x1:(List aA)) (x2:Int):Option ((Bool×Unit)×Unit):=bB E nk [] Cj 464 {slots:=[.val (.slice 57 aN) x0,.val (.slice 57 aN) x1,aa,aa,aa,ai x2]++unU 21,res:=[],nx:=0,n0:=0}
noncomputable def cc (x0:Int) (x1:L9) (x2:Int) (x3:Bool) (x4:(List Int)) (x5:(List ab)):Option ((Int×Unit)×(L9×Int×Bool×(List ab)×Unit)×Unit):=bB E jY [(0,.box aF (aa)),(1,.row 298 af [] false)] tn 224 {slots:=[.ptr 0 aF [],ai x0,aa,aa,aa,.row 2]++unU 24,res:=[(0,.box aF (.strct [aL x1,ai x2,cE x3,.row 3])),(2,.row 2 (.int .i64) x4 false),(3,.row 298 af x5 false)],nx:=4,n0:=2}
noncomputable def gL (x0 x1:Int) (x2:L9) (x3:Int) (x4:Bool) (x5:(List Int)) (x6:(List ab)):Option ((Int×Unit)×(L9×Int×Bool×(List ab)×Unit)×Unit):=bB E mp [(0,.box aF (aa)),(1,.row 298 af [] false)] xa 464 {slots:=[.ptr 0 aF [],ai x0,aa,aa,aa,.row 2,ai x1]++unU 27,res:=[(0,.box aF (.strct [aL x2,ai x3,cE x4,.row 3])),(2,.row 2 (.int .i64) x5 false),(3,.row 298 af x6 false)],nx:=4,n0:=2}
noncomputable def ge (x0:(List ab)) (x1 x2:Int):Option ((Bool×Unit)×Unit):=bB E jW [] tq 59696 {slots:=[.val (.slice 298 af) x0,aa,aa,ai x1,ai x2]++unU 82,res:=[],nx:=0,n0:=0}
noncomputable def dE (x0 x1 x2:Int) (x3:(List an)) (x4:(List aA)) (x5:Int) (x6:(List Int)) (x7:(List bo)):Option ((Bool×Unit)×Unit):=bB E ni [] vQ 119408 {slots:=[aa,.ptr 0 ci [],aa,ai x0,.ptr 1 aC [],ai x1]++unU 159,res:=[(0,.box ci (.strct [ai x2,.val (.slice 59 aC) x3,.val (.slice 57 aN) x4])),(1,.box aC (.strct [ai x5,.val (.slice 2 (.int .i64)) x6,.val (.slice 112 bq) x7]))],nx:=2,n0:=0}
noncomputable def dF (x0 x1:Int) (x2:(List an)) (x3:(List aA)):Option ((Bool×Unit)×Unit):=bB E ni [] vQ 976 {slots:=[aa,.ptr 0 ci [],aa,aa,aa,aa,ai x0]++unU 158,res:=[(0,.box ci (.strct [ai x1,.val (.slice 59 aC) x2,.val (.slice 57 aN) x3]))],nx:=1,n0:=0}
noncomputable def fH (x0 x1 x2:Int) (x3:(List an)) (x4:(List aA)) (x5:(List Int)) (x6:Int) (x7:(List Int)) (x8:(List bo)):Option (((List Int)×Unit)×Unit):=bB E iw [] pj 59696 {slots:=[aa,aa,.ptr 0 ci [],aa,aa,.row 1,ai x0,.ptr 2 aC [],ai x1]++unU 69,res:=[(0,.box ci (.strct [ai x2,.val (.slice 59 aC) x3,.val (.slice 57 aN) x4])),(1,.row 2 (.int .i64) x5 false),(2,.box aC (.strct [ai x6,.val (.slice 2 (.int .i64)) x7,.val (.slice 112 bq) x8]))],nx:=3,n0:=0}
noncomputable def gf (x0 x1:Int) (x2:(List an)) (x3:(List aA)) (x4 x5:(List Int)):Option (((List Int)×Unit)×Unit):=bB E iw [] pj 2000 {slots:=[aa,aa,.ptr 0 ci [],aa,aa,.row 1,aa,aa,aa,.row 2,ai x0]++unU 67,res:=[(0,.box ci (.strct [ai x1,.val (.slice 59 aC) x2,.val (.slice 57 aN) x3])),(1,.row 2 (.int .i64) x4 false),(2,.row 2 (.int .i64) x5 false)],nx:=3,n0:=0}
noncomputable def bF (x0 x1 x2 x3 x4:Int) (x5:L9) (x6:Bool) (x7:(List ab)):Option ((Int×Unit)×(L9×(List ab)×Bool×Unit)×Unit):=bB E fY [(0,.box aJ (aa)),(1,.row 298 af [] false)] nN 29008 {slots:=[.ptr 0 aJ [],ai x0,ai x1,aa,aa,aa,aa,ai x2,ai x3,ai x4]++unU 45,res:=[(0,.box aJ (.strct [aL x5,.row 2,cE x6])),(2,.row 298 af x7 false)],nx:=3,n0:=2}
noncomputable def dG (x0:(List aA)) (x1 x2 x3:Int) (x4:(List an)) (x5:(List aA)):Option ((Bool×Unit)×Unit):=bB E qS [] Ci 488 {slots:=[aa,.ptr 0 ci [],aa,aa,aa,aa,aa,aa,aa,aa,aa,aa,aa,aa,aa,aa,aa,aa,aa,aa,aa,aa,aa,aa,aa,aa,aa,aa,aa,aa,aa,aa,aa,aa,aa,aa,aa,aa,aa,aa,aa,aa,aa,aa,aa,aa,aa,aa,aa,aa,aa,aa,aa,aa,aa,aa,aa,aa,aa,aa,aa,aa,aa,aa,aa,aa,aa,aa,aa,aa,aa,aa,aa,.val (.slice 57 aN) x0,ai x1,ai x2]++unU 32,res:=[(0,.box ci (.strct [ai x3,.val (.slice 59 aC) x4,.val (.slice 57 aN) x5]))],nx:=1,n0:=0}
noncomputable def eU (x0:Int) (x1:(List Int)) (x2 x3 x4:Int) (x5:(List an)) (x6:(List aA)) (x7:(List Int)):Option (((List Int)×Unit)×Unit):=bB E jU [] tr 14920 {slots:=[aa,aa,.ptr 0 ci [],aa,aa,.row 1,ai x0,aa,aa,aa,aa,aa,aa,aa,aa,aa,aa,aa,aa,aa,aa,aa,aa,aa,aa,aa,aa,.val (.slice 2 (.int .i64)) x1,ai x2,ai x3]++unU 15,res:=[(0,.box ci (.strct [ai x4,.val (.slice 59 aC) x5,.val (.slice 57 aN) x6])),(1,.row 2 (.int .i64) x7 false)],nx:=2,n0:=0}
end Go.Proofs.YtfffplonjaigkaaGreatDoor.Abs
