/- What is known of the program: its types, its functions, those that are shown otherwise. -/
import Derived.Test.YtnodjiikdgmeaaaGreatDoorZA3
import Derived.Test.YtnodjiikdgmeaaaGreatDoorZQD
import Derived.Test.YtnodjiikdgmeaaaGreatDoorChecked
import Derived.Test.YtnodjiikdgmeaaaGreatDoorZM1
set_option linter.unusedVariables false
namespace Go.Proofs.YtnodjiikdgmeaaaGreatDoor.Abs
open Go
def vars:List iU:=[Gh "strconv.ErrSyntax",Gh "strconv.ErrRange",Ma,xW "internal/bytealg.MaxLen"]
set_option maxRecDepth 100000 in
theorem Yd : ∀ p∈E.fns,Tryz.prog.funcs[p.2.g]? = some p.2.fn∧p.2.fn.body.isSome=true∧(p.2.fn.name == "runtime.NumGoroutine")=false:=by
 unfold E
 intro p h
 rcases List.mem_cons.1 h with rfl | h
 ·exact⟨Tryz.func5,by kernel_rfl,by kernel_rfl⟩
 rcases List.mem_cons.1 h with rfl | h
 ·exact⟨Tryz.func6,by kernel_rfl,by kernel_rfl⟩
 rcases List.mem_cons.1 h with rfl | h
 ·exact⟨Tryz.func8,by kernel_rfl,by kernel_rfl⟩
 rcases List.mem_cons.1 h with rfl | h
 ·exact⟨Tryz.func10,by kernel_rfl,by kernel_rfl⟩
 rcases List.mem_cons.1 h with rfl | h
 ·exact⟨Tryz.func18,by kernel_rfl,by kernel_rfl⟩
 rcases List.mem_cons.1 h with rfl | h
 ·exact⟨Tryz.func21,by kernel_rfl,by kernel_rfl⟩
 rcases List.mem_cons.1 h with rfl | h
 ·exact⟨Tryz.func24,by kernel_rfl,by kernel_rfl⟩
 rcases List.mem_cons.1 h with rfl | h
 ·exact⟨Tryz.func25,by kernel_rfl,by kernel_rfl⟩
 rcases List.mem_cons.1 h with rfl | h
 ·exact⟨Tryz.func26,by kernel_rfl,by kernel_rfl⟩
 rcases List.mem_cons.1 h with rfl | h
 ·exact⟨Tryz.func27,by kernel_rfl,by kernel_rfl⟩
 rcases List.mem_cons.1 h with rfl | h
 ·exact⟨Tryz.func28,by kernel_rfl,by kernel_rfl⟩
 rcases List.mem_cons.1 h with rfl | h
 ·exact⟨Tryz.func29,by kernel_rfl,by kernel_rfl⟩
 rcases List.mem_cons.1 h with rfl | h
 ·exact⟨Tryz.func30,by kernel_rfl,by kernel_rfl⟩
 rcases List.mem_cons.1 h with rfl | h
 ·exact⟨Tryz.func31,by kernel_rfl,by kernel_rfl⟩
 rcases List.mem_cons.1 h with rfl | h
 ·exact⟨Tryz.func32,by kernel_rfl,by kernel_rfl⟩
 rcases List.mem_cons.1 h with rfl | h
 ·exact⟨Tryz.func33,by kernel_rfl,by kernel_rfl⟩
 rcases List.mem_cons.1 h with rfl | h
 ·exact⟨Tryz.func34,by kernel_rfl,by kernel_rfl⟩
 rcases List.mem_cons.1 h with rfl | h
 ·exact⟨Tryz.func35,by kernel_rfl,by kernel_rfl⟩
 rcases List.mem_cons.1 h with rfl | h
 ·exact⟨Tryz.func36,by kernel_rfl,by kernel_rfl⟩
 rcases List.mem_cons.1 h with rfl | h
 ·exact⟨Tryz.func37,by kernel_rfl,by kernel_rfl⟩
 rcases List.mem_cons.1 h with rfl | h
 ·exact⟨Tryz.func38,by kernel_rfl,by kernel_rfl⟩
 rcases List.mem_cons.1 h with rfl | h
 ·exact⟨Tryz.func40,by kernel_rfl,by kernel_rfl⟩
 rcases List.mem_cons.1 h with rfl | h
 ·exact⟨Tryz.func42,by kernel_rfl,by kernel_rfl⟩
 rcases List.mem_cons.1 h with rfl | h
 ·exact⟨Tryz.func43,by kernel_rfl,by kernel_rfl⟩
 rcases List.mem_cons.1 h with rfl | h
 ·exact⟨Tryz.func48,by kernel_rfl,by kernel_rfl⟩
 rcases List.mem_cons.1 h with rfl | h
 ·exact⟨Tryz.func49,by kernel_rfl,by kernel_rfl⟩
 rcases List.mem_cons.1 h with rfl | h
 ·exact⟨Tryz.func52,by kernel_rfl,by kernel_rfl⟩
 rcases List.mem_cons.1 h with rfl | h
 ·exact⟨Tryz.func53,by kernel_rfl,by kernel_rfl⟩
 rcases List.mem_cons.1 h with rfl | h
 ·exact⟨Tryz.func54,by kernel_rfl,by kernel_rfl⟩
 rcases List.mem_cons.1 h with rfl | h
 ·exact⟨Tryz.func55,by kernel_rfl,by kernel_rfl⟩
 rcases List.mem_cons.1 h with rfl | h
 ·exact⟨Tryz.func57,by kernel_rfl,by kernel_rfl⟩
 rcases List.mem_cons.1 h with rfl | h
 ·exact⟨Tryz.func58,by kernel_rfl,by kernel_rfl⟩
 rcases List.mem_cons.1 h with rfl | h
 ·exact⟨Tryz.func59,by kernel_rfl,by kernel_rfl⟩
 rcases List.mem_cons.1 h with rfl | h
 ·exact⟨Tryz.func60,by kernel_rfl,by kernel_rfl⟩
 rcases List.mem_cons.1 h with rfl | h
 ·exact⟨Tryz.func61,by kernel_rfl,by kernel_rfl⟩
 rcases List.mem_cons.1 h with rfl | h
 ·exact⟨Tryz.func62,by kernel_rfl,by kernel_rfl⟩
 rcases List.mem_cons.1 h with rfl | h
 ·exact⟨Tryz.func63,by kernel_rfl,by kernel_rfl⟩
 rcases List.mem_cons.1 h with rfl | h
 ·exact⟨Tryz.func64,by kernel_rfl,by kernel_rfl⟩
 rcases List.mem_cons.1 h with rfl | h
 ·exact⟨Tryz.func65,by kernel_rfl,by kernel_rfl⟩
 rcases List.mem_cons.1 h with rfl | h
 ·exact⟨Tryz.func66,by kernel_rfl,by kernel_rfl⟩
 rcases List.mem_cons.1 h with rfl | h
 ·exact⟨Tryz.func67,by kernel_rfl,by kernel_rfl⟩
 rcases List.mem_cons.1 h with rfl | h
 ·exact⟨Tryz.func68,by kernel_rfl,by kernel_rfl⟩
 rcases List.mem_cons.1 h with rfl | h
 ·exact⟨Tryz.func69,by kernel_rfl,by kernel_rfl⟩
 rcases List.mem_cons.1 h with rfl | h
 ·exact⟨Tryz.func70,by kernel_rfl,by kernel_rfl⟩
 rcases List.mem_cons.1 h with rfl | h
 ·exact⟨Tryz.func71,by kernel_rfl,by kernel_rfl⟩
 rcases List.mem_cons.1 h with rfl | h
 ·exact⟨Tryz.func72,by kernel_rfl,by kernel_rfl⟩
 rcases List.mem_cons.1 h with rfl | h
 ·exact⟨Tryz.func73,by kernel_rfl,by kernel_rfl⟩
 rcases List.mem_cons.1 h with rfl | h
 ·exact⟨Tryz.func74,by kernel_rfl,by kernel_rfl⟩
 rcases List.mem_cons.1 h with rfl | h
 ·exact⟨Tryz.func75,by kernel_rfl,by kernel_rfl⟩
 rcases List.mem_cons.1 h with rfl | h
 ·exact⟨Tryz.func76,by kernel_rfl,by kernel_rfl⟩
 rcases List.mem_cons.1 h with rfl | h
 ·exact⟨Tryz.func77,by kernel_rfl,by kernel_rfl⟩
 rcases List.mem_cons.1 h with rfl | h
 ·exact⟨Tryz.func78,by kernel_rfl,by kernel_rfl⟩
 rcases List.mem_cons.1 h with rfl | h
 ·exact⟨Tryz.func79,by kernel_rfl,by kernel_rfl⟩
 rcases List.mem_cons.1 h with rfl | h
 ·exact⟨Tryz.func80,by kernel_rfl,by kernel_rfl⟩
 rcases List.mem_cons.1 h with rfl | h
 ·exact⟨Tryz.func81,by kernel_rfl,by kernel_rfl⟩
 rcases List.mem_cons.1 h with rfl | h
 ·exact⟨Tryz.func82,by kernel_rfl,by kernel_rfl⟩
 rcases List.mem_cons.1 h with rfl | h
 ·exact⟨Tryz.func83,by kernel_rfl,by kernel_rfl⟩
 rcases List.mem_cons.1 h with rfl | h
 ·exact⟨Tryz.func86,by kernel_rfl,by kernel_rfl⟩
 rcases List.mem_cons.1 h with rfl | h
 ·exact⟨Tryz.func87,by kernel_rfl,by kernel_rfl⟩
 rcases List.mem_cons.1 h with rfl | h
 ·exact⟨Tryz.func88,by kernel_rfl,by kernel_rfl⟩
 rcases List.mem_cons.1 h with rfl | h
 ·exact⟨Tryz.func89,by kernel_rfl,by kernel_rfl⟩
 rcases List.mem_cons.1 h with rfl | h
 ·exact⟨Tryz.func90,by kernel_rfl,by kernel_rfl⟩
 rcases List.mem_cons.1 h with rfl | h
 ·exact⟨Tryz.func91,by kernel_rfl,by kernel_rfl⟩
 rcases List.mem_cons.1 h with rfl | h
 ·exact⟨Tryz.func92,by kernel_rfl,by kernel_rfl⟩
 rcases List.mem_cons.1 h with rfl | h
 ·exact⟨Tryz.func93,by kernel_rfl,by kernel_rfl⟩
 rcases List.mem_cons.1 h with rfl | h
 ·exact⟨Tryz.func94,by kernel_rfl,by kernel_rfl⟩
 rcases List.mem_cons.1 h with rfl | h
 ·exact⟨Tryz.func95,by kernel_rfl,by kernel_rfl⟩
 rcases List.mem_cons.1 h with rfl | h
 ·exact⟨Tryz.func96,by kernel_rfl,by kernel_rfl⟩
 rcases List.mem_cons.1 h with rfl | h
 ·exact⟨Tryz.func97,by kernel_rfl,by kernel_rfl⟩
 rcases List.mem_cons.1 h with rfl | h
 ·exact⟨Tryz.func99,by kernel_rfl,by kernel_rfl⟩
 rcases List.mem_cons.1 h with rfl | h
 ·exact⟨Tryz.func100,by kernel_rfl,by kernel_rfl⟩
 rcases List.mem_cons.1 h with rfl | h
 ·exact⟨Tryz.func101,by kernel_rfl,by kernel_rfl⟩
 rcases List.mem_cons.1 h with rfl | h
 ·exact⟨Tryz.func102,by kernel_rfl,by kernel_rfl⟩
 rcases List.mem_cons.1 h with rfl | h
 ·exact⟨Tryz.func103,by kernel_rfl,by kernel_rfl⟩
 rcases List.mem_cons.1 h with rfl | h
 ·exact⟨Tryz.func104,by kernel_rfl,by kernel_rfl⟩
 rcases List.mem_cons.1 h with rfl | h
 ·exact⟨Tryz.func105,by kernel_rfl,by kernel_rfl⟩
 rcases List.mem_cons.1 h with rfl | h
 ·exact⟨Tryz.func106,by kernel_rfl,by kernel_rfl⟩
 rcases List.mem_cons.1 h with rfl | h
 ·exact⟨Tryz.func107,by kernel_rfl,by kernel_rfl⟩
 rcases List.mem_cons.1 h with rfl | h
 ·exact⟨Tryz.func108,by kernel_rfl,by kernel_rfl⟩
 rcases List.mem_cons.1 h with rfl | h
 ·exact⟨Tryz.func109,by kernel_rfl,by kernel_rfl⟩
 rcases List.mem_cons.1 h with rfl | h
 ·exact⟨Tryz.func110,by kernel_rfl,by kernel_rfl⟩
 rcases List.mem_cons.1 h with rfl | h
 ·exact⟨Tryz.func111,by kernel_rfl,by kernel_rfl⟩
 rcases List.mem_cons.1 h with rfl | h
 ·exact⟨Tryz.func112,by kernel_rfl,by kernel_rfl⟩
 rcases List.mem_cons.1 h with rfl | h
 ·exact⟨Tryz.func113,by kernel_rfl,by kernel_rfl⟩
 rcases List.mem_cons.1 h with rfl | h
 ·exact⟨Tryz.func114,by kernel_rfl,by kernel_rfl⟩
 rcases List.mem_cons.1 h with rfl | h
 ·exact⟨Tryz.func115,by kernel_rfl,by kernel_rfl⟩
 rcases List.mem_cons.1 h with rfl | h
 ·exact⟨Tryz.func116,by kernel_rfl,by kernel_rfl⟩
 rcases List.mem_cons.1 h with rfl | h
 ·exact⟨Tryz.func117,by kernel_rfl,by kernel_rfl⟩
 rcases List.mem_cons.1 h with rfl | h
 ·exact⟨Tryz.func118,by kernel_rfl,by kernel_rfl⟩
 rcases List.mem_cons.1 h with rfl | h
 ·exact⟨Tryz.func121,by kernel_rfl,by kernel_rfl⟩
 rcases List.mem_cons.1 h with rfl | h
 ·exact⟨Tryz.func122,by kernel_rfl,by kernel_rfl⟩
 rcases List.mem_cons.1 h with rfl | h
 ·exact⟨Tryz.func123,by kernel_rfl,by kernel_rfl⟩
 rcases List.mem_cons.1 h with rfl | h
 ·exact⟨Tryz.func124,by kernel_rfl,by kernel_rfl⟩
 rcases List.mem_cons.1 h with rfl | h
 ·exact⟨Tryz.func125,by kernel_rfl,by kernel_rfl⟩
 rcases List.mem_cons.1 h with rfl | h
 ·exact⟨Tryz.func126,by kernel_rfl,by kernel_rfl⟩
 rcases List.mem_cons.1 h with rfl | h
 ·exact⟨Tryz.func127,by kernel_rfl,by kernel_rfl⟩
 rcases List.mem_cons.1 h with rfl | h
 ·exact⟨Tryz.func128,by kernel_rfl,by kernel_rfl⟩
 rcases List.mem_cons.1 h with rfl | h
 ·exact⟨Tryz.func129,by kernel_rfl,by kernel_rfl⟩
 rcases List.mem_cons.1 h with rfl | h
 ·exact⟨Tryz.func130,by kernel_rfl,by kernel_rfl⟩
 rcases List.mem_cons.1 h with rfl | h
 ·exact⟨Tryz.func131,by kernel_rfl,by kernel_rfl⟩
 rcases List.mem_cons.1 h with rfl | h
 ·exact⟨Tryz.func132,by kernel_rfl,by kernel_rfl⟩
 rcases List.mem_cons.1 h with rfl | h
 ·exact⟨Tryz.func133,by kernel_rfl,by kernel_rfl⟩
 rcases List.mem_cons.1 h with rfl | h
 ·exact⟨Tryz.func134,by kernel_rfl,by kernel_rfl⟩
 rcases List.mem_cons.1 h with rfl | h
 ·exact⟨Tryz.func135,by kernel_rfl,by kernel_rfl⟩
 rcases List.mem_cons.1 h with rfl | h
 ·exact⟨Tryz.func136,by kernel_rfl,by kernel_rfl⟩
 rcases List.mem_cons.1 h with rfl | h
 ·exact⟨Tryz.func137,by kernel_rfl,by kernel_rfl⟩
 rcases List.mem_cons.1 h with rfl | h
 ·exact⟨Tryz.func138,by kernel_rfl,by kernel_rfl⟩
 rcases List.mem_cons.1 h with rfl | h
 ·exact⟨Tryz.func139,by kernel_rfl,by kernel_rfl⟩
 rcases List.mem_cons.1 h with rfl | h
 ·exact⟨Tryz.func140,by kernel_rfl,by kernel_rfl⟩
 rcases List.mem_cons.1 h with rfl | h
 ·exact⟨Tryz.func141,by kernel_rfl,by kernel_rfl⟩
 rcases List.mem_cons.1 h with rfl | h
 ·exact⟨Tryz.func142,by kernel_rfl,by kernel_rfl⟩
 rcases List.mem_cons.1 h with rfl | h
 ·exact⟨Tryz.func143,by kernel_rfl,by kernel_rfl⟩
 rcases List.mem_cons.1 h with rfl | h
 ·exact⟨Tryz.func144,by kernel_rfl,by kernel_rfl⟩
 rcases List.mem_cons.1 h with rfl | h
 ·exact⟨Tryz.func145,by kernel_rfl,by kernel_rfl⟩
 rcases List.mem_cons.1 h with rfl | h
 ·exact⟨Tryz.func146,by kernel_rfl,by kernel_rfl⟩
 rcases List.mem_cons.1 h with rfl | h
 ·exact⟨Tryz.func147,by kernel_rfl,by kernel_rfl⟩
 rcases List.mem_cons.1 h with rfl | h
 ·exact⟨Tryz.func148,by kernel_rfl,by kernel_rfl⟩
 rcases List.mem_cons.1 h with rfl | h
 ·exact⟨Tryz.func149,by kernel_rfl,by kernel_rfl⟩
 rcases List.mem_cons.1 h with rfl | h
 ·exact⟨Tryz.func150,by kernel_rfl,by kernel_rfl⟩
 rcases List.mem_cons.1 h with rfl | h
 ·exact⟨Tryz.func151,by kernel_rfl,by kernel_rfl⟩
 rcases List.mem_cons.1 h with rfl | h
 ·exact⟨Tryz.func152,by kernel_rfl,by kernel_rfl⟩
 rcases List.mem_cons.1 h with rfl | h
 ·exact⟨Tryz.func158,by kernel_rfl,by kernel_rfl⟩
 rcases List.mem_cons.1 h with rfl | h
 ·exact⟨Tryz.func159,by kernel_rfl,by kernel_rfl⟩
 rcases List.mem_cons.1 h with rfl | h
 ·exact⟨Tryz.func160,by kernel_rfl,by kernel_rfl⟩
 rcases List.mem_cons.1 h with rfl | h
 ·exact⟨Tryz.func161,by kernel_rfl,by kernel_rfl⟩
 rcases List.mem_cons.1 h with rfl | h
 ·exact⟨Tryz.func162,by kernel_rfl,by kernel_rfl⟩
 rcases List.mem_cons.1 h with rfl | h
 ·exact⟨Tryz.func163,by kernel_rfl,by kernel_rfl⟩
 rcases List.mem_cons.1 h with rfl | h
 ·exact⟨Tryz.func164,by kernel_rfl,by kernel_rfl⟩
 rcases List.mem_cons.1 h with rfl | h
 ·exact⟨Tryz.func165,by kernel_rfl,by kernel_rfl⟩
 rcases List.mem_cons.1 h with rfl | h
 ·exact⟨Tryz.func166,by kernel_rfl,by kernel_rfl⟩
 rcases List.mem_cons.1 h with rfl | h
 ·exact⟨Tryz.func167,by kernel_rfl,by kernel_rfl⟩
 rcases List.mem_cons.1 h with rfl | h
 ·exact⟨Tryz.func168,by kernel_rfl,by kernel_rfl⟩
 rcases List.mem_cons.1 h with rfl | h
 ·exact⟨Tryz.func169,by kernel_rfl,by kernel_rfl⟩
 rcases List.mem_cons.1 h with rfl | h
 ·exact⟨Tryz.func170,by kernel_rfl,by kernel_rfl⟩
 rcases List.mem_cons.1 h with rfl | h
 ·exact⟨Tryz.func171,by kernel_rfl,by kernel_rfl⟩
 rcases List.mem_cons.1 h with rfl | h
 ·exact⟨Tryz.func172,by kernel_rfl,by kernel_rfl⟩
 rcases List.mem_cons.1 h with rfl | h
 ·exact⟨Tryz.func173,by kernel_rfl,by kernel_rfl⟩
 rcases List.mem_cons.1 h with rfl | h
 ·exact⟨Tryz.func174,by kernel_rfl,by kernel_rfl⟩
 rcases List.mem_cons.1 h with rfl | h
 ·exact⟨Tryz.func175,by kernel_rfl,by kernel_rfl⟩
 rcases List.mem_cons.1 h with rfl | h
 ·exact⟨Tryz.func176,by kernel_rfl,by kernel_rfl⟩
 rcases List.mem_cons.1 h with rfl | h
 ·exact⟨Tryz.func177,by kernel_rfl,by kernel_rfl⟩
 rcases List.mem_cons.1 h with rfl | h
 ·exact⟨Tryz.func178,by kernel_rfl,by kernel_rfl⟩
 rcases List.mem_cons.1 h with rfl | h
 ·exact⟨Tryz.func179,by kernel_rfl,by kernel_rfl⟩
 rcases List.mem_cons.1 h with rfl | h
 ·exact⟨Tryz.func180,by kernel_rfl,by kernel_rfl⟩
 rcases List.mem_cons.1 h with rfl | h
 ·exact⟨Tryz.func181,by kernel_rfl,by kernel_rfl⟩
 rcases List.mem_cons.1 h with rfl | h
 ·exact⟨Tryz.func182,by kernel_rfl,by kernel_rfl⟩
 rcases List.mem_cons.1 h with rfl | h
 ·exact⟨Tryz.func183,by kernel_rfl,by kernel_rfl⟩
 rcases List.mem_cons.1 h with rfl | h
 ·exact⟨Tryz.func184,by kernel_rfl,by kernel_rfl⟩
 rcases List.mem_cons.1 h with rfl | h
 ·exact⟨Tryz.func185,by kernel_rfl,by kernel_rfl⟩
 rcases List.mem_cons.1 h with rfl | h
 ·exact⟨Tryz.func186,by kernel_rfl,by kernel_rfl⟩
 rcases List.mem_cons.1 h with rfl | h
 ·exact⟨Tryz.func187,by kernel_rfl,by kernel_rfl⟩
 rcases List.mem_cons.1 h with rfl | h
 ·exact⟨Tryz.func188,by kernel_rfl,by kernel_rfl⟩
 rcases List.mem_cons.1 h with rfl | h
 ·exact⟨Tryz.func189,by kernel_rfl,by kernel_rfl⟩
 rcases List.mem_cons.1 h with rfl | h
 ·exact⟨Tryz.func190,by kernel_rfl,by kernel_rfl⟩
 rcases List.mem_cons.1 h with rfl | h
 ·exact⟨Tryz.func191,by kernel_rfl,by kernel_rfl⟩
 rcases List.mem_cons.1 h with rfl | h
 ·exact⟨Tryz.func192,by kernel_rfl,by kernel_rfl⟩
 rcases List.mem_cons.1 h with rfl | h
 ·exact⟨Tryz.func193,by kernel_rfl,by kernel_rfl⟩
 rcases List.mem_cons.1 h with rfl | h
 ·exact⟨Tryz.func194,by kernel_rfl,by kernel_rfl⟩
 rcases List.mem_cons.1 h with rfl | h
 ·exact⟨Tryz.func195,by kernel_rfl,by kernel_rfl⟩
 rcases List.mem_cons.1 h with rfl | h
 ·exact⟨Tryz.func196,by kernel_rfl,by kernel_rfl⟩
 rcases List.mem_cons.1 h with rfl | h
 ·exact⟨Tryz.func197,by kernel_rfl,by kernel_rfl⟩
 rcases List.mem_cons.1 h with rfl | h
 ·exact⟨Tryz.func198,by kernel_rfl,by kernel_rfl⟩
 rcases List.mem_cons.1 h with rfl | h
 ·exact⟨Tryz.func205,by kernel_rfl,by kernel_rfl⟩
 rcases List.mem_cons.1 h with rfl | h
 ·exact⟨Tryz.func210,by kernel_rfl,by kernel_rfl⟩
 rcases List.mem_cons.1 h with rfl | h
 ·exact⟨Tryz.func211,by kernel_rfl,by kernel_rfl⟩
 rcases List.mem_cons.1 h with rfl | h
 ·exact⟨Tryz.func212,by kernel_rfl,by kernel_rfl⟩
 rcases List.mem_cons.1 h with rfl | h
 ·exact⟨Tryz.func213,by kernel_rfl,by kernel_rfl⟩
 rcases List.mem_cons.1 h with rfl | h
 ·exact⟨Tryz.func214,by kernel_rfl,by kernel_rfl⟩
 rcases List.mem_cons.1 h with rfl | h
 ·exact⟨Tryz.func215,by kernel_rfl,by kernel_rfl⟩
 rcases List.mem_cons.1 h with rfl | h
 ·exact⟨Tryz.func216,by kernel_rfl,by kernel_rfl⟩
 rcases List.mem_cons.1 h with rfl | h
 ·exact⟨Tryz.func217,by kernel_rfl,by kernel_rfl⟩
 rcases List.mem_cons.1 h with rfl | h
 ·exact⟨Tryz.func218,by kernel_rfl,by kernel_rfl⟩
 rcases List.mem_cons.1 h with rfl | h
 ·exact⟨Tryz.func219,by kernel_rfl,by kernel_rfl⟩
 rcases List.mem_cons.1 h with rfl | h
 ·exact⟨Tryz.func220,by kernel_rfl,by kernel_rfl⟩
 rcases List.mem_cons.1 h with rfl | h
 ·exact⟨Tryz.func221,by kernel_rfl,by kernel_rfl⟩
 rcases List.mem_cons.1 h with rfl | h
 ·exact⟨Tryz.func222,by kernel_rfl,by kernel_rfl⟩
 rcases List.mem_cons.1 h with rfl | h
 ·exact⟨Tryz.func223,by kernel_rfl,by kernel_rfl⟩
 rcases List.mem_cons.1 h with rfl | h
 ·exact⟨Tryz.func224,by kernel_rfl,by kernel_rfl⟩
 rcases List.mem_cons.1 h with rfl | h
 ·exact⟨Tryz.func225,by kernel_rfl,by kernel_rfl⟩
 rcases List.mem_cons.1 h with rfl | h
 ·exact⟨Tryz.func226,by kernel_rfl,by kernel_rfl⟩
 rcases List.mem_cons.1 h with rfl | h
 ·exact⟨Tryz.func227,by kernel_rfl,by kernel_rfl⟩
 rcases List.mem_cons.1 h with rfl | h
 ·exact⟨Tryz.func228,by kernel_rfl,by kernel_rfl⟩
 rcases List.mem_cons.1 h with rfl | h
 ·exact⟨Tryz.func229,by kernel_rfl,by kernel_rfl⟩
 rcases List.mem_cons.1 h with rfl | h
 ·exact⟨Tryz.func230,by kernel_rfl,by kernel_rfl⟩
 rcases List.mem_cons.1 h with rfl | h
 ·exact⟨Tryz.func231,by kernel_rfl,by kernel_rfl⟩
 rcases List.mem_cons.1 h with rfl | h
 ·exact⟨Tryz.func232,by kernel_rfl,by kernel_rfl⟩
 rcases List.mem_cons.1 h with rfl | h
 ·exact⟨Tryz.func233,by kernel_rfl,by kernel_rfl⟩
 rcases List.mem_cons.1 h with rfl | h
 ·exact⟨Tryz.func234,by kernel_rfl,by kernel_rfl⟩
 rcases List.mem_cons.1 h with rfl | h
 ·exact⟨Tryz.func235,by kernel_rfl,by kernel_rfl⟩
 rcases List.mem_cons.1 h with rfl | h
 ·exact⟨Tryz.func236,by kernel_rfl,by kernel_rfl⟩
 rcases List.mem_cons.1 h with rfl | h
 ·exact⟨Tryz.func237,by kernel_rfl,by kernel_rfl⟩
 rcases List.mem_cons.1 h with rfl | h
 ·exact⟨Tryz.func238,by kernel_rfl,by kernel_rfl⟩
 rcases List.mem_cons.1 h with rfl | h
 ·exact⟨Tryz.func239,by kernel_rfl,by kernel_rfl⟩
 rcases List.mem_cons.1 h with rfl | h
 ·exact⟨Tryz.func240,by kernel_rfl,by kernel_rfl⟩
 rcases List.mem_cons.1 h with rfl | h
 ·exact⟨Tryz.func241,by kernel_rfl,by kernel_rfl⟩
 rcases List.mem_cons.1 h with rfl | h
 ·exact⟨Tryz.func242,by kernel_rfl,by kernel_rfl⟩
 rcases List.mem_cons.1 h with rfl | h
 ·exact⟨Tryz.func243,by kernel_rfl,by kernel_rfl⟩
 rcases List.mem_cons.1 h with rfl | h
 ·exact⟨Tryz.func244,by kernel_rfl,by kernel_rfl⟩
 rcases List.mem_cons.1 h with rfl | h
 ·exact⟨Tryz.func245,by kernel_rfl,by kernel_rfl⟩
 rcases List.mem_cons.1 h with rfl | h
 ·exact⟨Tryz.func246,by kernel_rfl,by kernel_rfl⟩
 rcases List.mem_cons.1 h with rfl | h
 ·exact⟨Tryz.func252,by kernel_rfl,by kernel_rfl⟩
 rcases List.mem_cons.1 h with rfl | h
 ·exact⟨Tryz.func253,by kernel_rfl,by kernel_rfl⟩
 rcases List.mem_cons.1 h with rfl | h
 ·exact⟨Tryz.func254,by kernel_rfl,by kernel_rfl⟩
 rcases List.mem_cons.1 h with rfl | h
 ·exact⟨Tryz.func255,by kernel_rfl,by kernel_rfl⟩
 rcases List.mem_cons.1 h with rfl | h
 ·exact⟨Tryz.func256,by kernel_rfl,by kernel_rfl⟩
 rcases List.mem_cons.1 h with rfl | h
 ·exact⟨Tryz.func257,by kernel_rfl,by kernel_rfl⟩
 rcases List.mem_cons.1 h with rfl | h
 ·exact⟨Tryz.func261,by kernel_rfl,by kernel_rfl⟩
 rcases List.mem_cons.1 h with rfl | h
 ·exact⟨Tryz.func262,by kernel_rfl,by kernel_rfl⟩
 rcases List.mem_cons.1 h with rfl | h
 ·exact⟨Tryz.func263,by kernel_rfl,by kernel_rfl⟩
 rcases List.mem_cons.1 h with rfl | h
 ·exact⟨Tryz.func264,by kernel_rfl,by kernel_rfl⟩
 rcases List.mem_cons.1 h with rfl | h
 ·exact⟨Tryz.func265,by kernel_rfl,by kernel_rfl⟩
 rcases List.mem_cons.1 h with rfl | h
 ·exact⟨Tryz.func269,by kernel_rfl,by kernel_rfl⟩
 rcases List.mem_cons.1 h with rfl | h
 ·exact⟨Tryz.func270,by kernel_rfl,by kernel_rfl⟩
 rcases List.mem_cons.1 h with rfl | h
 ·exact⟨Tryz.func271,by kernel_rfl,by kernel_rfl⟩
 rcases List.mem_cons.1 h with rfl | h
 ·exact⟨Tryz.func272,by kernel_rfl,by kernel_rfl⟩
 rcases List.mem_cons.1 h with rfl | h
 ·exact⟨Tryz.func273,by kernel_rfl,by kernel_rfl⟩
 rcases List.mem_cons.1 h with rfl | h
 ·exact⟨Tryz.func274,by kernel_rfl,by kernel_rfl⟩
 rcases List.mem_cons.1 h with rfl | h
 ·exact⟨Tryz.func275,by kernel_rfl,by kernel_rfl⟩
 rcases List.mem_cons.1 h with rfl | h
 ·exact⟨Tryz.func281,by kernel_rfl,by kernel_rfl⟩
 rcases List.mem_cons.1 h with rfl | h
 ·exact⟨Tryz.func282,by kernel_rfl,by kernel_rfl⟩
 rcases List.mem_cons.1 h with rfl | h
 ·exact⟨Tryz.func283,by kernel_rfl,by kernel_rfl⟩
 rcases List.mem_cons.1 h with rfl | h
 ·exact⟨Tryz.func284,by kernel_rfl,by kernel_rfl⟩
 rcases List.mem_cons.1 h with rfl | h
 ·exact⟨Tryz.func287,by kernel_rfl,by kernel_rfl⟩
 rcases List.mem_cons.1 h with rfl | h
 ·exact⟨Tryz.func288,by kernel_rfl,by kernel_rfl⟩
 rcases List.mem_cons.1 h with rfl | h
 ·exact⟨Tryz.func289,by kernel_rfl,by kernel_rfl⟩
 rcases List.mem_cons.1 h with rfl | h
 ·exact⟨Tryz.func290,by kernel_rfl,by kernel_rfl⟩
 rcases List.mem_cons.1 h with rfl | h
 ·exact⟨Tryz.func292,by kernel_rfl,by kernel_rfl⟩
 rcases List.mem_cons.1 h with rfl | h
 ·exact⟨Tryz.func296,by kernel_rfl,by kernel_rfl⟩
 cases h
theorem To:gf Tryz.prog E:=Vn (by kernel_rfl) Yd
theorem Mb:xU (fo Tryz.prog vars) Tryz.prog E:=by
 intro I f key hg hf args tab z hz
 have h:=uy hg
 unfold E at h
 rcases List.mem_cons.1 h with he | h
 ·obtain rfl:=(Prod.mk.inj he).2
  cases hf
 rcases List.mem_cons.1 h with he | h
 ·obtain rfl:=(Prod.mk.inj he).2
  cases hf
 rcases List.mem_cons.1 h with he | h
 ·obtain rfl:=(Prod.mk.inj he).2
  cases hf
 rcases List.mem_cons.1 h with he | h
 ·obtain rfl:=(Prod.mk.inj he).2
  cases hf
 rcases List.mem_cons.1 h with he | h
 ·obtain rfl:=(Prod.mk.inj he).2
  cases hf
 rcases List.mem_cons.1 h with he | h
 ·obtain rfl:=(Prod.mk.inj he).2
  cases hf
 rcases List.mem_cons.1 h with he | h
 ·obtain rfl:=(Prod.mk.inj he).2
  cases hf
 rcases List.mem_cons.1 h with he | h
 ·obtain rfl:=(Prod.mk.inj he).2
  cases hf
 rcases List.mem_cons.1 h with he | h
 ·obtain rfl:=(Prod.mk.inj he).2
  cases hf
 rcases List.mem_cons.1 h with he | h
 ·obtain rfl:=(Prod.mk.inj he).2
  cases hf
 rcases List.mem_cons.1 h with he | h
 ·obtain rfl:=(Prod.mk.inj he).2
  cases hf
 rcases List.mem_cons.1 h with he | h
 ·obtain rfl:=(Prod.mk.inj he).2
  cases hf
 rcases List.mem_cons.1 h with he | h
 ·obtain rfl:=(Prod.mk.inj he).2
  cases hf
 rcases List.mem_cons.1 h with he | h
 ·obtain rfl:=(Prod.mk.inj he).2
  cases hf
 rcases List.mem_cons.1 h with he | h
 ·obtain rfl:=(Prod.mk.inj he).2
  cases hf
 rcases List.mem_cons.1 h with he | h
 ·obtain rfl:=(Prod.mk.inj he).2
  cases hf
 rcases List.mem_cons.1 h with he | h
 ·obtain rfl:=(Prod.mk.inj he).2
  cases hf
 rcases List.mem_cons.1 h with he | h
 ·obtain rfl:=(Prod.mk.inj he).2
  cases hf
 rcases List.mem_cons.1 h with he | h
 ·obtain rfl:=(Prod.mk.inj he).2
  cases hf
 rcases List.mem_cons.1 h with he | h
 ·obtain rfl:=(Prod.mk.inj he).2
  cases hf
 rcases List.mem_cons.1 h with he | h
 ·obtain rfl:=(Prod.mk.inj he).2
  cases hf
 rcases List.mem_cons.1 h with he | h
 ·obtain rfl:=(Prod.mk.inj he).2
  cases hf
 rcases List.mem_cons.1 h with he | h
 ·obtain rfl:=(Prod.mk.inj he).2
  cases hf
 rcases List.mem_cons.1 h with he | h
 ·obtain rfl:=(Prod.mk.inj he).2
  cases hf
 rcases List.mem_cons.1 h with he | h
 ·obtain rfl:=(Prod.mk.inj he).2
  cases hf
 rcases List.mem_cons.1 h with he | h
 ·obtain rfl:=(Prod.mk.inj he).2
  cases hf
 rcases List.mem_cons.1 h with he | h
 ·obtain rfl:=(Prod.mk.inj he).2
  cases hf
 rcases List.mem_cons.1 h with he | h
 ·obtain rfl:=(Prod.mk.inj he).2
  cases hf
 rcases List.mem_cons.1 h with he | h
 ·obtain rfl:=(Prod.mk.inj he).2
  cases hf
 rcases List.mem_cons.1 h with he | h
 ·obtain rfl:=(Prod.mk.inj he).2
  cases hf
 rcases List.mem_cons.1 h with he | h
 ·obtain rfl:=(Prod.mk.inj he).2
  cases hf
 rcases List.mem_cons.1 h with he | h
 ·obtain rfl:=(Prod.mk.inj he).2
  cases hf
 rcases List.mem_cons.1 h with he | h
 ·obtain rfl:=(Prod.mk.inj he).2
  cases hf
 rcases List.mem_cons.1 h with he | h
 ·obtain rfl:=(Prod.mk.inj he).2
  cases hf
 rcases List.mem_cons.1 h with he | h
 ·obtain rfl:=(Prod.mk.inj he).2
  cases hf
 rcases List.mem_cons.1 h with he | h
 ·obtain rfl:=(Prod.mk.inj he).2
  cases hf
 rcases List.mem_cons.1 h with he | h
 ·obtain rfl:=(Prod.mk.inj he).2
  cases hf
 rcases List.mem_cons.1 h with he | h
 ·obtain rfl:=(Prod.mk.inj he).2
  cases hf
 rcases List.mem_cons.1 h with he | h
 ·obtain rfl:=(Prod.mk.inj he).2
  cases hf
 rcases List.mem_cons.1 h with he | h
 ·obtain rfl:=(Prod.mk.inj he).2
  cases hf
 rcases List.mem_cons.1 h with he | h
 ·obtain rfl:=(Prod.mk.inj he).2
  have hf:=Option.some.inj hf
  subst hf
  exact(Od (by unfold vars; simp) (by unfold vars; simp)) args tab z hz
 rcases List.mem_cons.1 h with he | h
 ·obtain rfl:=(Prod.mk.inj he).2
  cases hf
 rcases List.mem_cons.1 h with he | h
 ·obtain rfl:=(Prod.mk.inj he).2
  cases hf
 rcases List.mem_cons.1 h with he | h
 ·obtain rfl:=(Prod.mk.inj he).2
  cases hf
 rcases List.mem_cons.1 h with he | h
 ·obtain rfl:=(Prod.mk.inj he).2
  cases hf
 rcases List.mem_cons.1 h with he | h
 ·obtain rfl:=(Prod.mk.inj he).2
  cases hf
 rcases List.mem_cons.1 h with he | h
 ·obtain rfl:=(Prod.mk.inj he).2
  cases hf
 rcases List.mem_cons.1 h with he | h
 ·obtain rfl:=(Prod.mk.inj he).2
  cases hf
 rcases List.mem_cons.1 h with he | h
 ·obtain rfl:=(Prod.mk.inj he).2
  cases hf
 rcases List.mem_cons.1 h with he | h
 ·obtain rfl:=(Prod.mk.inj he).2
  cases hf
 rcases List.mem_cons.1 h with he | h
 ·obtain rfl:=(Prod.mk.inj he).2
  cases hf
 rcases List.mem_cons.1 h with he | h
 ·obtain rfl:=(Prod.mk.inj he).2
  cases hf
 rcases List.mem_cons.1 h with he | h
 ·obtain rfl:=(Prod.mk.inj he).2
  cases hf
 rcases List.mem_cons.1 h with he | h
 ·obtain rfl:=(Prod.mk.inj he).2
  cases hf
 rcases List.mem_cons.1 h with he | h
 ·obtain rfl:=(Prod.mk.inj he).2
  cases hf
 rcases List.mem_cons.1 h with he | h
 ·obtain rfl:=(Prod.mk.inj he).2
  cases hf
 rcases List.mem_cons.1 h with he | h
 ·obtain rfl:=(Prod.mk.inj he).2
  cases hf
 rcases List.mem_cons.1 h with he | h
 ·obtain rfl:=(Prod.mk.inj he).2
  cases hf
 rcases List.mem_cons.1 h with he | h
 ·obtain rfl:=(Prod.mk.inj he).2
  cases hf
 rcases List.mem_cons.1 h with he | h
 ·obtain rfl:=(Prod.mk.inj he).2
  cases hf
 rcases List.mem_cons.1 h with he | h
 ·obtain rfl:=(Prod.mk.inj he).2
  cases hf
 rcases List.mem_cons.1 h with he | h
 ·obtain rfl:=(Prod.mk.inj he).2
  cases hf
 rcases List.mem_cons.1 h with he | h
 ·obtain rfl:=(Prod.mk.inj he).2
  cases hf
 rcases List.mem_cons.1 h with he | h
 ·obtain rfl:=(Prod.mk.inj he).2
  cases hf
 rcases List.mem_cons.1 h with he | h
 ·obtain rfl:=(Prod.mk.inj he).2
  cases hf
 rcases List.mem_cons.1 h with he | h
 ·obtain rfl:=(Prod.mk.inj he).2
  cases hf
 rcases List.mem_cons.1 h with he | h
 ·obtain rfl:=(Prod.mk.inj he).2
  cases hf
 rcases List.mem_cons.1 h with he | h
 ·obtain rfl:=(Prod.mk.inj he).2
  cases hf
 rcases List.mem_cons.1 h with he | h
 ·obtain rfl:=(Prod.mk.inj he).2
  cases hf
 rcases List.mem_cons.1 h with he | h
 ·obtain rfl:=(Prod.mk.inj he).2
  cases hf
 rcases List.mem_cons.1 h with he | h
 ·obtain rfl:=(Prod.mk.inj he).2
  cases hf
 rcases List.mem_cons.1 h with he | h
 ·obtain rfl:=(Prod.mk.inj he).2
  cases hf
 rcases List.mem_cons.1 h with he | h
 ·obtain rfl:=(Prod.mk.inj he).2
  cases hf
 rcases List.mem_cons.1 h with he | h
 ·obtain rfl:=(Prod.mk.inj he).2
  cases hf
 rcases List.mem_cons.1 h with he | h
 ·obtain rfl:=(Prod.mk.inj he).2
  cases hf
 rcases List.mem_cons.1 h with he | h
 ·obtain rfl:=(Prod.mk.inj he).2
  cases hf
 rcases List.mem_cons.1 h with he | h
 ·obtain rfl:=(Prod.mk.inj he).2
  cases hf
 rcases List.mem_cons.1 h with he | h
 ·obtain rfl:=(Prod.mk.inj he).2
  have hf:=Option.some.inj hf
  subst hf
  exact Oe args tab z hz
 rcases List.mem_cons.1 h with he | h
 ·obtain rfl:=(Prod.mk.inj he).2
  cases hf
 rcases List.mem_cons.1 h with he | h
 ·obtain rfl:=(Prod.mk.inj he).2
  cases hf
 rcases List.mem_cons.1 h with he | h
 ·obtain rfl:=(Prod.mk.inj he).2
  cases hf
 rcases List.mem_cons.1 h with he | h
 ·obtain rfl:=(Prod.mk.inj he).2
  cases hf
 rcases List.mem_cons.1 h with he | h
 ·obtain rfl:=(Prod.mk.inj he).2
  cases hf
 rcases List.mem_cons.1 h with he | h
 ·obtain rfl:=(Prod.mk.inj he).2
  cases hf
 rcases List.mem_cons.1 h with he | h
 ·obtain rfl:=(Prod.mk.inj he).2
  cases hf
 rcases List.mem_cons.1 h with he | h
 ·obtain rfl:=(Prod.mk.inj he).2
  cases hf
 rcases List.mem_cons.1 h with he | h
 ·obtain rfl:=(Prod.mk.inj he).2
  cases hf
 rcases List.mem_cons.1 h with he | h
 ·obtain rfl:=(Prod.mk.inj he).2
  cases hf
 rcases List.mem_cons.1 h with he | h
 ·obtain rfl:=(Prod.mk.inj he).2
  cases hf
 rcases List.mem_cons.1 h with he | h
 ·obtain rfl:=(Prod.mk.inj he).2
  cases hf
 rcases List.mem_cons.1 h with he | h
 ·obtain rfl:=(Prod.mk.inj he).2
  cases hf
 rcases List.mem_cons.1 h with he | h
 ·obtain rfl:=(Prod.mk.inj he).2
  cases hf
 rcases List.mem_cons.1 h with he | h
 ·obtain rfl:=(Prod.mk.inj he).2
  have hf:=Option.some.inj hf
  subst hf
  exact QP args tab z hz
 rcases List.mem_cons.1 h with he | h
 ·obtain rfl:=(Prod.mk.inj he).2
  cases hf
 rcases List.mem_cons.1 h with he | h
 ·obtain rfl:=(Prod.mk.inj he).2
  cases hf
 rcases List.mem_cons.1 h with he | h
 ·obtain rfl:=(Prod.mk.inj he).2
  cases hf
 rcases List.mem_cons.1 h with he | h
 ·obtain rfl:=(Prod.mk.inj he).2
  cases hf
 rcases List.mem_cons.1 h with he | h
 ·obtain rfl:=(Prod.mk.inj he).2
  cases hf
 rcases List.mem_cons.1 h with he | h
 ·obtain rfl:=(Prod.mk.inj he).2
  cases hf
 rcases List.mem_cons.1 h with he | h
 ·obtain rfl:=(Prod.mk.inj he).2
  cases hf
 rcases List.mem_cons.1 h with he | h
 ·obtain rfl:=(Prod.mk.inj he).2
  cases hf
 rcases List.mem_cons.1 h with he | h
 ·obtain rfl:=(Prod.mk.inj he).2
  cases hf
 rcases List.mem_cons.1 h with he | h
 ·obtain rfl:=(Prod.mk.inj he).2
  cases hf
 rcases List.mem_cons.1 h with he | h
 ·obtain rfl:=(Prod.mk.inj he).2
  cases hf
 rcases List.mem_cons.1 h with he | h
 ·obtain rfl:=(Prod.mk.inj he).2
  cases hf
 rcases List.mem_cons.1 h with he | h
 ·obtain rfl:=(Prod.mk.inj he).2
  cases hf
 rcases List.mem_cons.1 h with he | h
 ·obtain rfl:=(Prod.mk.inj he).2
  cases hf
 rcases List.mem_cons.1 h with he | h
 ·obtain rfl:=(Prod.mk.inj he).2
  cases hf
 rcases List.mem_cons.1 h with he | h
 ·obtain rfl:=(Prod.mk.inj he).2
  cases hf
 rcases List.mem_cons.1 h with he | h
 ·obtain rfl:=(Prod.mk.inj he).2
  cases hf
 rcases List.mem_cons.1 h with he | h
 ·obtain rfl:=(Prod.mk.inj he).2
  cases hf
 rcases List.mem_cons.1 h with he | h
 ·obtain rfl:=(Prod.mk.inj he).2
  cases hf
 rcases List.mem_cons.1 h with he | h
 ·obtain rfl:=(Prod.mk.inj he).2
  cases hf
 rcases List.mem_cons.1 h with he | h
 ·obtain rfl:=(Prod.mk.inj he).2
  cases hf
 rcases List.mem_cons.1 h with he | h
 ·obtain rfl:=(Prod.mk.inj he).2
  cases hf
 rcases List.mem_cons.1 h with he | h
 ·obtain rfl:=(Prod.mk.inj he).2
  cases hf
 rcases List.mem_cons.1 h with he | h
 ·obtain rfl:=(Prod.mk.inj he).2
  cases hf
 rcases List.mem_cons.1 h with he | h
 ·obtain rfl:=(Prod.mk.inj he).2
  cases hf
 rcases List.mem_cons.1 h with he | h
 ·obtain rfl:=(Prod.mk.inj he).2
  cases hf
 rcases List.mem_cons.1 h with he | h
 ·obtain rfl:=(Prod.mk.inj he).2
  cases hf
 rcases List.mem_cons.1 h with he | h
 ·obtain rfl:=(Prod.mk.inj he).2
  cases hf
 rcases List.mem_cons.1 h with he | h
 ·obtain rfl:=(Prod.mk.inj he).2
  have hf:=Option.some.inj hf
  subst hf
  exact(Tm (by unfold vars; simp)) args tab z hz
 rcases List.mem_cons.1 h with he | h
 ·obtain rfl:=(Prod.mk.inj he).2
  cases hf
 rcases List.mem_cons.1 h with he | h
 ·obtain rfl:=(Prod.mk.inj he).2
  cases hf
 rcases List.mem_cons.1 h with he | h
 ·obtain rfl:=(Prod.mk.inj he).2
  cases hf
 rcases List.mem_cons.1 h with he | h
 ·obtain rfl:=(Prod.mk.inj he).2
  cases hf
 rcases List.mem_cons.1 h with he | h
 ·obtain rfl:=(Prod.mk.inj he).2
  cases hf
 rcases List.mem_cons.1 h with he | h
 ·obtain rfl:=(Prod.mk.inj he).2
  cases hf
 rcases List.mem_cons.1 h with he | h
 ·obtain rfl:=(Prod.mk.inj he).2
  have hf:=Option.some.inj hf
  subst hf
  exact H1 args tab z hz
 rcases List.mem_cons.1 h with he | h
 ·obtain rfl:=(Prod.mk.inj he).2
  cases hf
 rcases List.mem_cons.1 h with he | h
 ·obtain rfl:=(Prod.mk.inj he).2
  cases hf
 rcases List.mem_cons.1 h with he | h
 ·obtain rfl:=(Prod.mk.inj he).2
  cases hf
 rcases List.mem_cons.1 h with he | h
 ·obtain rfl:=(Prod.mk.inj he).2
  cases hf
 rcases List.mem_cons.1 h with he | h
 ·obtain rfl:=(Prod.mk.inj he).2
  cases hf
 rcases List.mem_cons.1 h with he | h
 ·obtain rfl:=(Prod.mk.inj he).2
  cases hf
 rcases List.mem_cons.1 h with he | h
 ·obtain rfl:=(Prod.mk.inj he).2
  cases hf
 rcases List.mem_cons.1 h with he | h
 ·obtain rfl:=(Prod.mk.inj he).2
  cases hf
 rcases List.mem_cons.1 h with he | h
 ·obtain rfl:=(Prod.mk.inj he).2
  cases hf
 rcases List.mem_cons.1 h with he | h
 ·obtain rfl:=(Prod.mk.inj he).2
  cases hf
 rcases List.mem_cons.1 h with he | h
 ·obtain rfl:=(Prod.mk.inj he).2
  cases hf
 rcases List.mem_cons.1 h with he | h
 ·obtain rfl:=(Prod.mk.inj he).2
  cases hf
 rcases List.mem_cons.1 h with he | h
 ·obtain rfl:=(Prod.mk.inj he).2
  cases hf
 rcases List.mem_cons.1 h with he | h
 ·obtain rfl:=(Prod.mk.inj he).2
  cases hf
 rcases List.mem_cons.1 h with he | h
 ·obtain rfl:=(Prod.mk.inj he).2
  cases hf
 rcases List.mem_cons.1 h with he | h
 ·obtain rfl:=(Prod.mk.inj he).2
  cases hf
 rcases List.mem_cons.1 h with he | h
 ·obtain rfl:=(Prod.mk.inj he).2
  cases hf
 rcases List.mem_cons.1 h with he | h
 ·obtain rfl:=(Prod.mk.inj he).2
  cases hf
 rcases List.mem_cons.1 h with he | h
 ·obtain rfl:=(Prod.mk.inj he).2
  cases hf
 rcases List.mem_cons.1 h with he | h
 ·obtain rfl:=(Prod.mk.inj he).2
  cases hf
 rcases List.mem_cons.1 h with he | h
 ·obtain rfl:=(Prod.mk.inj he).2
  cases hf
 rcases List.mem_cons.1 h with he | h
 ·obtain rfl:=(Prod.mk.inj he).2
  cases hf
 rcases List.mem_cons.1 h with he | h
 ·obtain rfl:=(Prod.mk.inj he).2
  cases hf
 rcases List.mem_cons.1 h with he | h
 ·obtain rfl:=(Prod.mk.inj he).2
  cases hf
 rcases List.mem_cons.1 h with he | h
 ·obtain rfl:=(Prod.mk.inj he).2
  cases hf
 rcases List.mem_cons.1 h with he | h
 ·obtain rfl:=(Prod.mk.inj he).2
  cases hf
 rcases List.mem_cons.1 h with he | h
 ·obtain rfl:=(Prod.mk.inj he).2
  cases hf
 rcases List.mem_cons.1 h with he | h
 ·obtain rfl:=(Prod.mk.inj he).2
  cases hf
 rcases List.mem_cons.1 h with he | h
 ·obtain rfl:=(Prod.mk.inj he).2
  cases hf
 rcases List.mem_cons.1 h with he | h
 ·obtain rfl:=(Prod.mk.inj he).2
  cases hf
 rcases List.mem_cons.1 h with he | h
 ·obtain rfl:=(Prod.mk.inj he).2
  cases hf
 rcases List.mem_cons.1 h with he | h
 ·obtain rfl:=(Prod.mk.inj he).2
  cases hf
 rcases List.mem_cons.1 h with he | h
 ·obtain rfl:=(Prod.mk.inj he).2
  cases hf
 rcases List.mem_cons.1 h with he | h
 ·obtain rfl:=(Prod.mk.inj he).2
  cases hf
 rcases List.mem_cons.1 h with he | h
 ·obtain rfl:=(Prod.mk.inj he).2
  cases hf
 rcases List.mem_cons.1 h with he | h
 ·obtain rfl:=(Prod.mk.inj he).2
  cases hf
 rcases List.mem_cons.1 h with he | h
 ·obtain rfl:=(Prod.mk.inj he).2
  cases hf
 rcases List.mem_cons.1 h with he | h
 ·obtain rfl:=(Prod.mk.inj he).2
  cases hf
 rcases List.mem_cons.1 h with he | h
 ·obtain rfl:=(Prod.mk.inj he).2
  cases hf
 rcases List.mem_cons.1 h with he | h
 ·obtain rfl:=(Prod.mk.inj he).2
  have hf:=Option.some.inj hf
  subst hf
  exact QQ args tab z hz
 rcases List.mem_cons.1 h with he | h
 ·obtain rfl:=(Prod.mk.inj he).2
  cases hf
 rcases List.mem_cons.1 h with he | h
 ·obtain rfl:=(Prod.mk.inj he).2
  cases hf
 rcases List.mem_cons.1 h with he | h
 ·obtain rfl:=(Prod.mk.inj he).2
  cases hf
 rcases List.mem_cons.1 h with he | h
 ·obtain rfl:=(Prod.mk.inj he).2
  cases hf
 rcases List.mem_cons.1 h with he | h
 ·obtain rfl:=(Prod.mk.inj he).2
  cases hf
 rcases List.mem_cons.1 h with he | h
 ·obtain rfl:=(Prod.mk.inj he).2
  cases hf
 rcases List.mem_cons.1 h with he | h
 ·obtain rfl:=(Prod.mk.inj he).2
  cases hf
 rcases List.mem_cons.1 h with he | h
 ·obtain rfl:=(Prod.mk.inj he).2
  cases hf
 rcases List.mem_cons.1 h with he | h
 ·obtain rfl:=(Prod.mk.inj he).2
  cases hf
 rcases List.mem_cons.1 h with he | h
 ·obtain rfl:=(Prod.mk.inj he).2
  cases hf
 rcases List.mem_cons.1 h with he | h
 ·obtain rfl:=(Prod.mk.inj he).2
  cases hf
 rcases List.mem_cons.1 h with he | h
 ·obtain rfl:=(Prod.mk.inj he).2
  cases hf
 rcases List.mem_cons.1 h with he | h
 ·obtain rfl:=(Prod.mk.inj he).2
  cases hf
 rcases List.mem_cons.1 h with he | h
 ·obtain rfl:=(Prod.mk.inj he).2
  cases hf
 rcases List.mem_cons.1 h with he | h
 ·obtain rfl:=(Prod.mk.inj he).2
  cases hf
 rcases List.mem_cons.1 h with he | h
 ·obtain rfl:=(Prod.mk.inj he).2
  cases hf
 rcases List.mem_cons.1 h with he | h
 ·obtain rfl:=(Prod.mk.inj he).2
  cases hf
 rcases List.mem_cons.1 h with he | h
 ·obtain rfl:=(Prod.mk.inj he).2
  cases hf
 rcases List.mem_cons.1 h with he | h
 ·obtain rfl:=(Prod.mk.inj he).2
  cases hf
 rcases List.mem_cons.1 h with he | h
 ·obtain rfl:=(Prod.mk.inj he).2
  cases hf
 rcases List.mem_cons.1 h with he | h
 ·obtain rfl:=(Prod.mk.inj he).2
  cases hf
 rcases List.mem_cons.1 h with he | h
 ·obtain rfl:=(Prod.mk.inj he).2
  cases hf
 rcases List.mem_cons.1 h with he | h
 ·obtain rfl:=(Prod.mk.inj he).2
  cases hf
 rcases List.mem_cons.1 h with he | h
 ·obtain rfl:=(Prod.mk.inj he).2
  cases hf
 rcases List.mem_cons.1 h with he | h
 ·obtain rfl:=(Prod.mk.inj he).2
  cases hf
 rcases List.mem_cons.1 h with he | h
 ·obtain rfl:=(Prod.mk.inj he).2
  cases hf
 rcases List.mem_cons.1 h with he | h
 ·obtain rfl:=(Prod.mk.inj he).2
  cases hf
 rcases List.mem_cons.1 h with he | h
 ·obtain rfl:=(Prod.mk.inj he).2
  cases hf
 rcases List.mem_cons.1 h with he | h
 ·obtain rfl:=(Prod.mk.inj he).2
  cases hf
 rcases List.mem_cons.1 h with he | h
 ·obtain rfl:=(Prod.mk.inj he).2
  cases hf
 rcases List.mem_cons.1 h with he | h
 ·obtain rfl:=(Prod.mk.inj he).2
  cases hf
 rcases List.mem_cons.1 h with he | h
 ·obtain rfl:=(Prod.mk.inj he).2
  cases hf
 rcases List.mem_cons.1 h with he | h
 ·obtain rfl:=(Prod.mk.inj he).2
  cases hf
 rcases List.mem_cons.1 h with he | h
 ·obtain rfl:=(Prod.mk.inj he).2
  cases hf
 rcases List.mem_cons.1 h with he | h
 ·obtain rfl:=(Prod.mk.inj he).2
  cases hf
 rcases List.mem_cons.1 h with he | h
 ·obtain rfl:=(Prod.mk.inj he).2
  cases hf
 rcases List.mem_cons.1 h with he | h
 ·obtain rfl:=(Prod.mk.inj he).2
  cases hf
 rcases List.mem_cons.1 h with he | h
 ·obtain rfl:=(Prod.mk.inj he).2
  cases hf
 rcases List.mem_cons.1 h with he | h
 ·obtain rfl:=(Prod.mk.inj he).2
  cases hf
 rcases List.mem_cons.1 h with he | h
 ·obtain rfl:=(Prod.mk.inj he).2
  cases hf
 rcases List.mem_cons.1 h with he | h
 ·obtain rfl:=(Prod.mk.inj he).2
  cases hf
 rcases List.mem_cons.1 h with he | h
 ·obtain rfl:=(Prod.mk.inj he).2
  cases hf
 rcases List.mem_cons.1 h with he | h
 ·obtain rfl:=(Prod.mk.inj he).2
  cases hf
 rcases List.mem_cons.1 h with he | h
 ·obtain rfl:=(Prod.mk.inj he).2
  cases hf
 rcases List.mem_cons.1 h with he | h
 ·obtain rfl:=(Prod.mk.inj he).2
  cases hf
 rcases List.mem_cons.1 h with he | h
 ·obtain rfl:=(Prod.mk.inj he).2
  cases hf
 rcases List.mem_cons.1 h with he | h
 ·obtain rfl:=(Prod.mk.inj he).2
  cases hf
 rcases List.mem_cons.1 h with he | h
 ·obtain rfl:=(Prod.mk.inj he).2
  cases hf
 rcases List.mem_cons.1 h with he | h
 ·obtain rfl:=(Prod.mk.inj he).2
  cases hf
 rcases List.mem_cons.1 h with he | h
 ·obtain rfl:=(Prod.mk.inj he).2
  have hf:=Option.some.inj hf
  subst hf
  exact(Tn (by unfold vars; simp)) args tab z hz
 rcases List.mem_cons.1 h with he | h
 ·obtain rfl:=(Prod.mk.inj he).2
  cases hf
 rcases List.mem_cons.1 h with he | h
 ·obtain rfl:=(Prod.mk.inj he).2
  cases hf
 rcases List.mem_cons.1 h with he | h
 ·obtain rfl:=(Prod.mk.inj he).2
  cases hf
 rcases List.mem_cons.1 h with he | h
 ·obtain rfl:=(Prod.mk.inj he).2
  cases hf
 rcases List.mem_cons.1 h with he | h
 ·obtain rfl:=(Prod.mk.inj he).2
  cases hf
 rcases List.mem_cons.1 h with he | h
 ·obtain rfl:=(Prod.mk.inj he).2
  have hf:=Option.some.inj hf
  subst hf
  exact(Kn (by unfold vars; simp)) args tab z hz
 rcases List.mem_cons.1 h with he | h
 ·obtain rfl:=(Prod.mk.inj he).2
  have hf:=Option.some.inj hf
  subst hf
  exact QR args tab z hz
 rcases List.mem_cons.1 h with he | h
 ·obtain rfl:=(Prod.mk.inj he).2
  cases hf
 rcases List.mem_cons.1 h with he | h
 ·obtain rfl:=(Prod.mk.inj he).2
  cases hf
 cases h
end Go.Proofs.YtnodjiikdgmeaaaGreatDoor.Abs
