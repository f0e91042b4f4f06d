/- What is known of the program: its types, its functions, those that are shown otherwise. -/
import Derived.Test.YteaahciglahehaaGreatDoorZA3
import Derived.Test.YteaahciglahehaaGreatDoorZQD
import Derived.Test.YteaahciglahehaaGreatDoorChecked
import Derived.Test.YteaahciglahehaaGreatDoorZM1
set_option linter.unusedVariables false
namespace Go.Proofs.YteaahciglahehaaGreatDoor.Abs
open Go
def vars:List iB:=[GU "strconv.ErrSyntax",GU "strconv.ErrRange",M8,zm "internal/bytealg.MaxLen"]
theorem ac {α:Type} {a b:α} {l:List α} (h:a∈b :: l):a=b∨a∈l:=List.mem_cons.1 h
set_option maxRecDepth 100000 in
theorem Zx : ∀ p∈E.fns,Tryz.prog.funcs[p.2.g]? = some p.2.fn∧p.2.fn.body.isSome=true∧(p.2.fn.name == "runtime.NumGoroutine")=false:=by
 unfold E
 intro p h
 rcases ac h with rfl | h
 ·exact⟨Tryz.func3,by kernel_rfl,by kernel_rfl⟩
 rcases ac h with rfl | h
 ·exact⟨Tryz.func4,by kernel_rfl,by kernel_rfl⟩
 rcases ac h with rfl | h
 ·exact⟨Tryz.func5,by kernel_rfl,by kernel_rfl⟩
 rcases ac h with rfl | h
 ·exact⟨Tryz.func6,by kernel_rfl,by kernel_rfl⟩
 rcases ac h with rfl | h
 ·exact⟨Tryz.func7,by kernel_rfl,by kernel_rfl⟩
 rcases ac h with rfl | h
 ·exact⟨Tryz.func8,by kernel_rfl,by kernel_rfl⟩
 rcases ac h with rfl | h
 ·exact⟨Tryz.func9,by kernel_rfl,by kernel_rfl⟩
 rcases ac h with rfl | h
 ·exact⟨Tryz.func10,by kernel_rfl,by kernel_rfl⟩
 rcases ac h with rfl | h
 ·exact⟨Tryz.func11,by kernel_rfl,by kernel_rfl⟩
 rcases ac h with rfl | h
 ·exact⟨Tryz.func12,by kernel_rfl,by kernel_rfl⟩
 rcases ac h with rfl | h
 ·exact⟨Tryz.func13,by kernel_rfl,by kernel_rfl⟩
 rcases ac h with rfl | h
 ·exact⟨Tryz.func14,by kernel_rfl,by kernel_rfl⟩
 rcases ac h with rfl | h
 ·exact⟨Tryz.func15,by kernel_rfl,by kernel_rfl⟩
 rcases ac h with rfl | h
 ·exact⟨Tryz.func16,by kernel_rfl,by kernel_rfl⟩
 rcases ac h with rfl | h
 ·exact⟨Tryz.func17,by kernel_rfl,by kernel_rfl⟩
 rcases ac h with rfl | h
 ·exact⟨Tryz.func18,by kernel_rfl,by kernel_rfl⟩
 rcases ac h with rfl | h
 ·exact⟨Tryz.func19,by kernel_rfl,by kernel_rfl⟩
 rcases ac h with rfl | h
 ·exact⟨Tryz.func20,by kernel_rfl,by kernel_rfl⟩
 rcases ac h with rfl | h
 ·exact⟨Tryz.func21,by kernel_rfl,by kernel_rfl⟩
 rcases ac h with rfl | h
 ·exact⟨Tryz.func22,by kernel_rfl,by kernel_rfl⟩
 rcases ac h with rfl | h
 ·exact⟨Tryz.func23,by kernel_rfl,by kernel_rfl⟩
 rcases ac h with rfl | h
 ·exact⟨Tryz.func24,by kernel_rfl,by kernel_rfl⟩
 rcases ac h with rfl | h
 ·exact⟨Tryz.func25,by kernel_rfl,by kernel_rfl⟩
 rcases ac h with rfl | h
 ·exact⟨Tryz.func26,by kernel_rfl,by kernel_rfl⟩
 rcases ac h with rfl | h
 ·exact⟨Tryz.func27,by kernel_rfl,by kernel_rfl⟩
 rcases ac h with rfl | h
 ·exact⟨Tryz.func28,by kernel_rfl,by kernel_rfl⟩
 rcases ac h with rfl | h
 ·exact⟨Tryz.func29,by kernel_rfl,by kernel_rfl⟩
 rcases ac h with rfl | h
 ·exact⟨Tryz.func30,by kernel_rfl,by kernel_rfl⟩
 rcases ac h with rfl | h
 ·exact⟨Tryz.func31,by kernel_rfl,by kernel_rfl⟩
 rcases ac h with rfl | h
 ·exact⟨Tryz.func32,by kernel_rfl,by kernel_rfl⟩
 rcases ac h with rfl | h
 ·exact⟨Tryz.func33,by kernel_rfl,by kernel_rfl⟩
 rcases ac h with rfl | h
 ·exact⟨Tryz.func34,by kernel_rfl,by kernel_rfl⟩
 rcases ac h with rfl | h
 ·exact⟨Tryz.func35,by kernel_rfl,by kernel_rfl⟩
 rcases ac h with rfl | h
 ·exact⟨Tryz.func36,by kernel_rfl,by kernel_rfl⟩
 rcases ac h with rfl | h
 ·exact⟨Tryz.func37,by kernel_rfl,by kernel_rfl⟩
 rcases ac h with rfl | h
 ·exact⟨Tryz.func38,by kernel_rfl,by kernel_rfl⟩
 rcases ac h with rfl | h
 ·exact⟨Tryz.func39,by kernel_rfl,by kernel_rfl⟩
 rcases ac h with rfl | h
 ·exact⟨Tryz.func40,by kernel_rfl,by kernel_rfl⟩
 rcases ac h with rfl | h
 ·exact⟨Tryz.func41,by kernel_rfl,by kernel_rfl⟩
 rcases ac h with rfl | h
 ·exact⟨Tryz.func42,by kernel_rfl,by kernel_rfl⟩
 rcases ac h with rfl | h
 ·exact⟨Tryz.func43,by kernel_rfl,by kernel_rfl⟩
 rcases ac h with rfl | h
 ·exact⟨Tryz.func44,by kernel_rfl,by kernel_rfl⟩
 rcases ac h with rfl | h
 ·exact⟨Tryz.func45,by kernel_rfl,by kernel_rfl⟩
 rcases ac h with rfl | h
 ·exact⟨Tryz.func46,by kernel_rfl,by kernel_rfl⟩
 rcases ac h with rfl | h
 ·exact⟨Tryz.func47,by kernel_rfl,by kernel_rfl⟩
 rcases ac h with rfl | h
 ·exact⟨Tryz.func48,by kernel_rfl,by kernel_rfl⟩
 rcases ac h with rfl | h
 ·exact⟨Tryz.func49,by kernel_rfl,by kernel_rfl⟩
 rcases ac h with rfl | h
 ·exact⟨Tryz.func50,by kernel_rfl,by kernel_rfl⟩
 rcases ac h with rfl | h
 ·exact⟨Tryz.func51,by kernel_rfl,by kernel_rfl⟩
 rcases ac h with rfl | h
 ·exact⟨Tryz.func52,by kernel_rfl,by kernel_rfl⟩
 rcases ac h with rfl | h
 ·exact⟨Tryz.func53,by kernel_rfl,by kernel_rfl⟩
 rcases ac h with rfl | h
 ·exact⟨Tryz.func54,by kernel_rfl,by kernel_rfl⟩
 rcases ac h with rfl | h
 ·exact⟨Tryz.func55,by kernel_rfl,by kernel_rfl⟩
 rcases ac h with rfl | h
 ·exact⟨Tryz.func56,by kernel_rfl,by kernel_rfl⟩
 rcases ac h with rfl | h
 ·exact⟨Tryz.func57,by kernel_rfl,by kernel_rfl⟩
 rcases ac h with rfl | h
 ·exact⟨Tryz.func58,by kernel_rfl,by kernel_rfl⟩
 rcases ac h with rfl | h
 ·exact⟨Tryz.func59,by kernel_rfl,by kernel_rfl⟩
 rcases ac h with rfl | h
 ·exact⟨Tryz.func60,by kernel_rfl,by kernel_rfl⟩
 rcases ac h with rfl | h
 ·exact⟨Tryz.func61,by kernel_rfl,by kernel_rfl⟩
 rcases ac h with rfl | h
 ·exact⟨Tryz.func62,by kernel_rfl,by kernel_rfl⟩
 rcases ac h with rfl | h
 ·exact⟨Tryz.func63,by kernel_rfl,by kernel_rfl⟩
 rcases ac h with rfl | h
 ·exact⟨Tryz.func64,by kernel_rfl,by kernel_rfl⟩
 rcases ac h with rfl | h
 ·exact⟨Tryz.func65,by kernel_rfl,by kernel_rfl⟩
 rcases ac h with rfl | h
 ·exact⟨Tryz.func66,by kernel_rfl,by kernel_rfl⟩
 rcases ac h with rfl | h
 ·exact⟨Tryz.func67,by kernel_rfl,by kernel_rfl⟩
 rcases ac h with rfl | h
 ·exact⟨Tryz.func68,by kernel_rfl,by kernel_rfl⟩
 rcases ac h with rfl | h
 ·exact⟨Tryz.func69,by kernel_rfl,by kernel_rfl⟩
 rcases ac h with rfl | h
 ·exact⟨Tryz.func70,by kernel_rfl,by kernel_rfl⟩
 rcases ac h with rfl | h
 ·exact⟨Tryz.func71,by kernel_rfl,by kernel_rfl⟩
 rcases ac h with rfl | h
 ·exact⟨Tryz.func72,by kernel_rfl,by kernel_rfl⟩
 rcases ac h with rfl | h
 ·exact⟨Tryz.func73,by kernel_rfl,by kernel_rfl⟩
 rcases ac h with rfl | h
 ·exact⟨Tryz.func74,by kernel_rfl,by kernel_rfl⟩
 rcases ac h with rfl | h
 ·exact⟨Tryz.func75,by kernel_rfl,by kernel_rfl⟩
 rcases ac h with rfl | h
 ·exact⟨Tryz.func76,by kernel_rfl,by kernel_rfl⟩
 rcases ac h with rfl | h
 ·exact⟨Tryz.func77,by kernel_rfl,by kernel_rfl⟩
 rcases ac h with rfl | h
 ·exact⟨Tryz.func78,by kernel_rfl,by kernel_rfl⟩
 rcases ac h with rfl | h
 ·exact⟨Tryz.func79,by kernel_rfl,by kernel_rfl⟩
 rcases ac h with rfl | h
 ·exact⟨Tryz.func80,by kernel_rfl,by kernel_rfl⟩
 rcases ac h with rfl | h
 ·exact⟨Tryz.func81,by kernel_rfl,by kernel_rfl⟩
 rcases ac h with rfl | h
 ·exact⟨Tryz.func82,by kernel_rfl,by kernel_rfl⟩
 rcases ac h with rfl | h
 ·exact⟨Tryz.func83,by kernel_rfl,by kernel_rfl⟩
 rcases ac h with rfl | h
 ·exact⟨Tryz.func84,by kernel_rfl,by kernel_rfl⟩
 rcases ac h with rfl | h
 ·exact⟨Tryz.func85,by kernel_rfl,by kernel_rfl⟩
 rcases ac h with rfl | h
 ·exact⟨Tryz.func86,by kernel_rfl,by kernel_rfl⟩
 rcases ac h with rfl | h
 ·exact⟨Tryz.func87,by kernel_rfl,by kernel_rfl⟩
 rcases ac h with rfl | h
 ·exact⟨Tryz.func88,by kernel_rfl,by kernel_rfl⟩
 rcases ac h with rfl | h
 ·exact⟨Tryz.func89,by kernel_rfl,by kernel_rfl⟩
 rcases ac h with rfl | h
 ·exact⟨Tryz.func90,by kernel_rfl,by kernel_rfl⟩
 rcases ac h with rfl | h
 ·exact⟨Tryz.func91,by kernel_rfl,by kernel_rfl⟩
 rcases ac h with rfl | h
 ·exact⟨Tryz.func92,by kernel_rfl,by kernel_rfl⟩
 rcases ac h with rfl | h
 ·exact⟨Tryz.func93,by kernel_rfl,by kernel_rfl⟩
 rcases ac h with rfl | h
 ·exact⟨Tryz.func94,by kernel_rfl,by kernel_rfl⟩
 rcases ac h with rfl | h
 ·exact⟨Tryz.func95,by kernel_rfl,by kernel_rfl⟩
 rcases ac h with rfl | h
 ·exact⟨Tryz.func96,by kernel_rfl,by kernel_rfl⟩
 rcases ac h with rfl | h
 ·exact⟨Tryz.func97,by kernel_rfl,by kernel_rfl⟩
 rcases ac h with rfl | h
 ·exact⟨Tryz.func98,by kernel_rfl,by kernel_rfl⟩
 rcases ac h with rfl | h
 ·exact⟨Tryz.func99,by kernel_rfl,by kernel_rfl⟩
 rcases ac h with rfl | h
 ·exact⟨Tryz.func100,by kernel_rfl,by kernel_rfl⟩
 rcases ac h with rfl | h
 ·exact⟨Tryz.func101,by kernel_rfl,by kernel_rfl⟩
 rcases ac h with rfl | h
 ·exact⟨Tryz.func102,by kernel_rfl,by kernel_rfl⟩
 rcases ac h with rfl | h
 ·exact⟨Tryz.func103,by kernel_rfl,by kernel_rfl⟩
 rcases ac h with rfl | h
 ·exact⟨Tryz.func104,by kernel_rfl,by kernel_rfl⟩
 rcases ac h with rfl | h
 ·exact⟨Tryz.func105,by kernel_rfl,by kernel_rfl⟩
 rcases ac h with rfl | h
 ·exact⟨Tryz.func106,by kernel_rfl,by kernel_rfl⟩
 rcases ac h with rfl | h
 ·exact⟨Tryz.func107,by kernel_rfl,by kernel_rfl⟩
 rcases ac h with rfl | h
 ·exact⟨Tryz.func108,by kernel_rfl,by kernel_rfl⟩
 rcases ac h with rfl | h
 ·exact⟨Tryz.func109,by kernel_rfl,by kernel_rfl⟩
 rcases ac h with rfl | h
 ·exact⟨Tryz.func110,by kernel_rfl,by kernel_rfl⟩
 rcases ac h with rfl | h
 ·exact⟨Tryz.func111,by kernel_rfl,by kernel_rfl⟩
 rcases ac h with rfl | h
 ·exact⟨Tryz.func112,by kernel_rfl,by kernel_rfl⟩
 rcases ac h with rfl | h
 ·exact⟨Tryz.func113,by kernel_rfl,by kernel_rfl⟩
 rcases ac h with rfl | h
 ·exact⟨Tryz.func114,by kernel_rfl,by kernel_rfl⟩
 rcases ac h with rfl | h
 ·exact⟨Tryz.func115,by kernel_rfl,by kernel_rfl⟩
 rcases ac h with rfl | h
 ·exact⟨Tryz.func116,by kernel_rfl,by kernel_rfl⟩
 rcases ac h with rfl | h
 ·exact⟨Tryz.func118,by kernel_rfl,by kernel_rfl⟩
 rcases ac h with rfl | h
 ·exact⟨Tryz.func119,by kernel_rfl,by kernel_rfl⟩
 rcases ac h with rfl | h
 ·exact⟨Tryz.func120,by kernel_rfl,by kernel_rfl⟩
 rcases ac h with rfl | h
 ·exact⟨Tryz.func121,by kernel_rfl,by kernel_rfl⟩
 rcases ac h with rfl | h
 ·exact⟨Tryz.func122,by kernel_rfl,by kernel_rfl⟩
 rcases ac h with rfl | h
 ·exact⟨Tryz.func123,by kernel_rfl,by kernel_rfl⟩
 rcases ac h with rfl | h
 ·exact⟨Tryz.func124,by kernel_rfl,by kernel_rfl⟩
 rcases ac h with rfl | h
 ·exact⟨Tryz.func125,by kernel_rfl,by kernel_rfl⟩
 rcases ac h with rfl | h
 ·exact⟨Tryz.func126,by kernel_rfl,by kernel_rfl⟩
 rcases ac h with rfl | h
 ·exact⟨Tryz.func127,by kernel_rfl,by kernel_rfl⟩
 rcases ac h with rfl | h
 ·exact⟨Tryz.func128,by kernel_rfl,by kernel_rfl⟩
 rcases ac h with rfl | h
 ·exact⟨Tryz.func129,by kernel_rfl,by kernel_rfl⟩
 rcases ac h with rfl | h
 ·exact⟨Tryz.func130,by kernel_rfl,by kernel_rfl⟩
 rcases ac h with rfl | h
 ·exact⟨Tryz.func131,by kernel_rfl,by kernel_rfl⟩
 rcases ac h with rfl | h
 ·exact⟨Tryz.func132,by kernel_rfl,by kernel_rfl⟩
 rcases ac h with rfl | h
 ·exact⟨Tryz.func133,by kernel_rfl,by kernel_rfl⟩
 rcases ac h with rfl | h
 ·exact⟨Tryz.func134,by kernel_rfl,by kernel_rfl⟩
 rcases ac h with rfl | h
 ·exact⟨Tryz.func135,by kernel_rfl,by kernel_rfl⟩
 rcases ac h with rfl | h
 ·exact⟨Tryz.func136,by kernel_rfl,by kernel_rfl⟩
 rcases ac h with rfl | h
 ·exact⟨Tryz.func137,by kernel_rfl,by kernel_rfl⟩
 rcases ac h with rfl | h
 ·exact⟨Tryz.func138,by kernel_rfl,by kernel_rfl⟩
 rcases ac h with rfl | h
 ·exact⟨Tryz.func139,by kernel_rfl,by kernel_rfl⟩
 rcases ac h with rfl | h
 ·exact⟨Tryz.func140,by kernel_rfl,by kernel_rfl⟩
 rcases ac h with rfl | h
 ·exact⟨Tryz.func141,by kernel_rfl,by kernel_rfl⟩
 rcases ac h with rfl | h
 ·exact⟨Tryz.func142,by kernel_rfl,by kernel_rfl⟩
 rcases ac h with rfl | h
 ·exact⟨Tryz.func143,by kernel_rfl,by kernel_rfl⟩
 rcases ac h with rfl | h
 ·exact⟨Tryz.func144,by kernel_rfl,by kernel_rfl⟩
 rcases ac h with rfl | h
 ·exact⟨Tryz.func145,by kernel_rfl,by kernel_rfl⟩
 rcases ac h with rfl | h
 ·exact⟨Tryz.func146,by kernel_rfl,by kernel_rfl⟩
 rcases ac h with rfl | h
 ·exact⟨Tryz.func147,by kernel_rfl,by kernel_rfl⟩
 rcases ac h with rfl | h
 ·exact⟨Tryz.func148,by kernel_rfl,by kernel_rfl⟩
 rcases ac h with rfl | h
 ·exact⟨Tryz.func149,by kernel_rfl,by kernel_rfl⟩
 rcases ac h with rfl | h
 ·exact⟨Tryz.func150,by kernel_rfl,by kernel_rfl⟩
 rcases ac h with rfl | h
 ·exact⟨Tryz.func151,by kernel_rfl,by kernel_rfl⟩
 rcases ac h with rfl | h
 ·exact⟨Tryz.func152,by kernel_rfl,by kernel_rfl⟩
 rcases ac h with rfl | h
 ·exact⟨Tryz.func153,by kernel_rfl,by kernel_rfl⟩
 rcases ac h with rfl | h
 ·exact⟨Tryz.func154,by kernel_rfl,by kernel_rfl⟩
 rcases ac h with rfl | h
 ·exact⟨Tryz.func155,by kernel_rfl,by kernel_rfl⟩
 rcases ac h with rfl | h
 ·exact⟨Tryz.func156,by kernel_rfl,by kernel_rfl⟩
 rcases ac h with rfl | h
 ·exact⟨Tryz.func157,by kernel_rfl,by kernel_rfl⟩
 rcases ac h with rfl | h
 ·exact⟨Tryz.func158,by kernel_rfl,by kernel_rfl⟩
 rcases ac h with rfl | h
 ·exact⟨Tryz.func159,by kernel_rfl,by kernel_rfl⟩
 rcases ac h with rfl | h
 ·exact⟨Tryz.func160,by kernel_rfl,by kernel_rfl⟩
 rcases ac h with rfl | h
 ·exact⟨Tryz.func161,by kernel_rfl,by kernel_rfl⟩
 rcases ac h with rfl | h
 ·exact⟨Tryz.func162,by kernel_rfl,by kernel_rfl⟩
 rcases ac h with rfl | h
 ·exact⟨Tryz.func163,by kernel_rfl,by kernel_rfl⟩
 rcases ac h with rfl | h
 ·exact⟨Tryz.func164,by kernel_rfl,by kernel_rfl⟩
 rcases ac h with rfl | h
 ·exact⟨Tryz.func165,by kernel_rfl,by kernel_rfl⟩
 rcases ac h with rfl | h
 ·exact⟨Tryz.func166,by kernel_rfl,by kernel_rfl⟩
 rcases ac h with rfl | h
 ·exact⟨Tryz.func167,by kernel_rfl,by kernel_rfl⟩
 rcases ac h with rfl | h
 ·exact⟨Tryz.func168,by kernel_rfl,by kernel_rfl⟩
 rcases ac h with rfl | h
 ·exact⟨Tryz.func169,by kernel_rfl,by kernel_rfl⟩
 rcases ac h with rfl | h
 ·exact⟨Tryz.func170,by kernel_rfl,by kernel_rfl⟩
 rcases ac h with rfl | h
 ·exact⟨Tryz.func171,by kernel_rfl,by kernel_rfl⟩
 rcases ac h with rfl | h
 ·exact⟨Tryz.func174,by kernel_rfl,by kernel_rfl⟩
 rcases ac h with rfl | h
 ·exact⟨Tryz.func175,by kernel_rfl,by kernel_rfl⟩
 rcases ac h with rfl | h
 ·exact⟨Tryz.func176,by kernel_rfl,by kernel_rfl⟩
 rcases ac h with rfl | h
 ·exact⟨Tryz.func177,by kernel_rfl,by kernel_rfl⟩
 rcases ac h with rfl | h
 ·exact⟨Tryz.func178,by kernel_rfl,by kernel_rfl⟩
 rcases ac h with rfl | h
 ·exact⟨Tryz.func179,by kernel_rfl,by kernel_rfl⟩
 rcases ac h with rfl | h
 ·exact⟨Tryz.func180,by kernel_rfl,by kernel_rfl⟩
 rcases ac h with rfl | h
 ·exact⟨Tryz.func181,by kernel_rfl,by kernel_rfl⟩
 rcases ac h with rfl | h
 ·exact⟨Tryz.func182,by kernel_rfl,by kernel_rfl⟩
 rcases ac h with rfl | h
 ·exact⟨Tryz.func183,by kernel_rfl,by kernel_rfl⟩
 rcases ac h with rfl | h
 ·exact⟨Tryz.func184,by kernel_rfl,by kernel_rfl⟩
 rcases ac h with rfl | h
 ·exact⟨Tryz.func185,by kernel_rfl,by kernel_rfl⟩
 rcases ac h with rfl | h
 ·exact⟨Tryz.func186,by kernel_rfl,by kernel_rfl⟩
 rcases ac h with rfl | h
 ·exact⟨Tryz.func187,by kernel_rfl,by kernel_rfl⟩
 rcases ac h with rfl | h
 ·exact⟨Tryz.func188,by kernel_rfl,by kernel_rfl⟩
 rcases ac h with rfl | h
 ·exact⟨Tryz.func189,by kernel_rfl,by kernel_rfl⟩
 rcases ac h with rfl | h
 ·exact⟨Tryz.func190,by kernel_rfl,by kernel_rfl⟩
 rcases ac h with rfl | h
 ·exact⟨Tryz.func191,by kernel_rfl,by kernel_rfl⟩
 rcases ac h with rfl | h
 ·exact⟨Tryz.func192,by kernel_rfl,by kernel_rfl⟩
 rcases ac h with rfl | h
 ·exact⟨Tryz.func193,by kernel_rfl,by kernel_rfl⟩
 rcases ac h with rfl | h
 ·exact⟨Tryz.func194,by kernel_rfl,by kernel_rfl⟩
 rcases ac h with rfl | h
 ·exact⟨Tryz.func195,by kernel_rfl,by kernel_rfl⟩
 rcases ac h with rfl | h
 ·exact⟨Tryz.func198,by kernel_rfl,by kernel_rfl⟩
 rcases ac h with rfl | h
 ·exact⟨Tryz.func199,by kernel_rfl,by kernel_rfl⟩
 rcases ac h with rfl | h
 ·exact⟨Tryz.func200,by kernel_rfl,by kernel_rfl⟩
 rcases ac h with rfl | h
 ·exact⟨Tryz.func201,by kernel_rfl,by kernel_rfl⟩
 rcases ac h with rfl | h
 ·exact⟨Tryz.func202,by kernel_rfl,by kernel_rfl⟩
 rcases ac h with rfl | h
 ·exact⟨Tryz.func207,by kernel_rfl,by kernel_rfl⟩
 rcases ac h with rfl | h
 ·exact⟨Tryz.func208,by kernel_rfl,by kernel_rfl⟩
 rcases ac h with rfl | h
 ·exact⟨Tryz.func209,by kernel_rfl,by kernel_rfl⟩
 rcases ac h with rfl | h
 ·exact⟨Tryz.func210,by kernel_rfl,by kernel_rfl⟩
 rcases ac h with rfl | h
 ·exact⟨Tryz.func211,by kernel_rfl,by kernel_rfl⟩
 rcases ac h with rfl | h
 ·exact⟨Tryz.func212,by kernel_rfl,by kernel_rfl⟩
 rcases ac h with rfl | h
 ·exact⟨Tryz.func213,by kernel_rfl,by kernel_rfl⟩
 rcases ac h with rfl | h
 ·exact⟨Tryz.func214,by kernel_rfl,by kernel_rfl⟩
 rcases ac h with rfl | h
 ·exact⟨Tryz.func215,by kernel_rfl,by kernel_rfl⟩
 rcases ac h with rfl | h
 ·exact⟨Tryz.func216,by kernel_rfl,by kernel_rfl⟩
 rcases ac h with rfl | h
 ·exact⟨Tryz.func217,by kernel_rfl,by kernel_rfl⟩
 rcases ac h with rfl | h
 ·exact⟨Tryz.func218,by kernel_rfl,by kernel_rfl⟩
 rcases ac h with rfl | h
 ·exact⟨Tryz.func219,by kernel_rfl,by kernel_rfl⟩
 rcases ac h with rfl | h
 ·exact⟨Tryz.func220,by kernel_rfl,by kernel_rfl⟩
 rcases ac h with rfl | h
 ·exact⟨Tryz.func221,by kernel_rfl,by kernel_rfl⟩
 rcases ac h with rfl | h
 ·exact⟨Tryz.func222,by kernel_rfl,by kernel_rfl⟩
 rcases ac h with rfl | h
 ·exact⟨Tryz.func223,by kernel_rfl,by kernel_rfl⟩
 rcases ac h with rfl | h
 ·exact⟨Tryz.func224,by kernel_rfl,by kernel_rfl⟩
 rcases ac h with rfl | h
 ·exact⟨Tryz.func225,by kernel_rfl,by kernel_rfl⟩
 rcases ac h with rfl | h
 ·exact⟨Tryz.func237,by kernel_rfl,by kernel_rfl⟩
 rcases ac h with rfl | h
 ·exact⟨Tryz.func238,by kernel_rfl,by kernel_rfl⟩
 rcases ac h with rfl | h
 ·exact⟨Tryz.func239,by kernel_rfl,by kernel_rfl⟩
 rcases ac h with rfl | h
 ·exact⟨Tryz.func240,by kernel_rfl,by kernel_rfl⟩
 rcases ac h with rfl | h
 ·exact⟨Tryz.func241,by kernel_rfl,by kernel_rfl⟩
 rcases ac h with rfl | h
 ·exact⟨Tryz.func242,by kernel_rfl,by kernel_rfl⟩
 rcases ac h with rfl | h
 ·exact⟨Tryz.func248,by kernel_rfl,by kernel_rfl⟩
 rcases ac h with rfl | h
 ·exact⟨Tryz.func252,by kernel_rfl,by kernel_rfl⟩
 rcases ac h with rfl | h
 ·exact⟨Tryz.func253,by kernel_rfl,by kernel_rfl⟩
 rcases ac h with rfl | h
 ·exact⟨Tryz.func254,by kernel_rfl,by kernel_rfl⟩
 rcases ac h with rfl | h
 ·exact⟨Tryz.func255,by kernel_rfl,by kernel_rfl⟩
 rcases ac h with rfl | h
 ·exact⟨Tryz.func256,by kernel_rfl,by kernel_rfl⟩
 rcases ac h with rfl | h
 ·exact⟨Tryz.func257,by kernel_rfl,by kernel_rfl⟩
 rcases ac h with rfl | h
 ·exact⟨Tryz.func261,by kernel_rfl,by kernel_rfl⟩
 rcases ac h with rfl | h
 ·exact⟨Tryz.func262,by kernel_rfl,by kernel_rfl⟩
 rcases ac h with rfl | h
 ·exact⟨Tryz.func263,by kernel_rfl,by kernel_rfl⟩
 rcases ac h with rfl | h
 ·exact⟨Tryz.func264,by kernel_rfl,by kernel_rfl⟩
 rcases ac h with rfl | h
 ·exact⟨Tryz.func265,by kernel_rfl,by kernel_rfl⟩
 rcases ac h with rfl | h
 ·exact⟨Tryz.func275,by kernel_rfl,by kernel_rfl⟩
 rcases ac h with rfl | h
 ·exact⟨Tryz.func276,by kernel_rfl,by kernel_rfl⟩
 rcases ac h with rfl | h
 ·exact⟨Tryz.func277,by kernel_rfl,by kernel_rfl⟩
 rcases ac h with rfl | h
 ·exact⟨Tryz.func284,by kernel_rfl,by kernel_rfl⟩
 rcases ac h with rfl | h
 ·exact⟨Tryz.func285,by kernel_rfl,by kernel_rfl⟩
 rcases ac h with rfl | h
 ·exact⟨Tryz.func286,by kernel_rfl,by kernel_rfl⟩
 rcases ac h with rfl | h
 ·exact⟨Tryz.func289,by kernel_rfl,by kernel_rfl⟩
 rcases ac h with rfl | h
 ·exact⟨Tryz.func290,by kernel_rfl,by kernel_rfl⟩
 rcases ac h with rfl | h
 ·exact⟨Tryz.func297,by kernel_rfl,by kernel_rfl⟩
 cases h
theorem UV:fI Tryz.prog E:=WI (by kernel_rfl) Zx
theorem M9:zh (eQ Tryz.prog vars) Tryz.prog E:=by
 intro I f key hg hf args tab z hz
 have h:=va hg
 unfold E at h
 rcases ac h with he | h
 ·obtain rfl:=(Prod.mk.inj he).2
  cases hf
 rcases ac h with he | h
 ·obtain rfl:=(Prod.mk.inj he).2
  cases hf
 rcases ac h with he | h
 ·obtain rfl:=(Prod.mk.inj he).2
  cases hf
 rcases ac h with he | h
 ·obtain rfl:=(Prod.mk.inj he).2
  cases hf
 rcases ac h with he | h
 ·obtain rfl:=(Prod.mk.inj he).2
  cases hf
 rcases ac h with he | h
 ·obtain rfl:=(Prod.mk.inj he).2
  cases hf
 rcases ac h with he | h
 ·obtain rfl:=(Prod.mk.inj he).2
  cases hf
 rcases ac h with he | h
 ·obtain rfl:=(Prod.mk.inj he).2
  cases hf
 rcases ac h with he | h
 ·obtain rfl:=(Prod.mk.inj he).2
  cases hf
 rcases ac h with he | h
 ·obtain rfl:=(Prod.mk.inj he).2
  cases hf
 rcases ac h with he | h
 ·obtain rfl:=(Prod.mk.inj he).2
  cases hf
 rcases ac h with he | h
 ·obtain rfl:=(Prod.mk.inj he).2
  cases hf
 rcases ac h with he | h
 ·obtain rfl:=(Prod.mk.inj he).2
  cases hf
 rcases ac h with he | h
 ·obtain rfl:=(Prod.mk.inj he).2
  cases hf
 rcases ac h with he | h
 ·obtain rfl:=(Prod.mk.inj he).2
  cases hf
 rcases ac h with he | h
 ·obtain rfl:=(Prod.mk.inj he).2
  cases hf
 rcases ac h with he | h
 ·obtain rfl:=(Prod.mk.inj he).2
  cases hf
 rcases ac h with he | h
 ·obtain rfl:=(Prod.mk.inj he).2
  cases hf
 rcases ac h with he | h
 ·obtain rfl:=(Prod.mk.inj he).2
  cases hf
 rcases ac h with he | h
 ·obtain rfl:=(Prod.mk.inj he).2
  cases hf
 rcases ac h with he | h
 ·obtain rfl:=(Prod.mk.inj he).2
  cases hf
 rcases ac h with he | h
 ·obtain rfl:=(Prod.mk.inj he).2
  cases hf
 rcases ac h with he | h
 ·obtain rfl:=(Prod.mk.inj he).2
  cases hf
 rcases ac h with he | h
 ·obtain rfl:=(Prod.mk.inj he).2
  cases hf
 rcases ac h with he | h
 ·obtain rfl:=(Prod.mk.inj he).2
  cases hf
 rcases ac h with he | h
 ·obtain rfl:=(Prod.mk.inj he).2
  cases hf
 rcases ac h with he | h
 ·obtain rfl:=(Prod.mk.inj he).2
  cases hf
 rcases ac h with he | h
 ·obtain rfl:=(Prod.mk.inj he).2
  cases hf
 rcases ac h with he | h
 ·obtain rfl:=(Prod.mk.inj he).2
  have hf:=Option.some.inj hf
  subst hf
  exact Sn args tab z hz
 rcases ac h with he | h
 ·obtain rfl:=(Prod.mk.inj he).2
  cases hf
 rcases ac h with he | h
 ·obtain rfl:=(Prod.mk.inj he).2
  cases hf
 rcases ac h with he | h
 ·obtain rfl:=(Prod.mk.inj he).2
  cases hf
 rcases ac h with he | h
 ·obtain rfl:=(Prod.mk.inj he).2
  cases hf
 rcases ac h with he | h
 ·obtain rfl:=(Prod.mk.inj he).2
  cases hf
 rcases ac h with he | h
 ·obtain rfl:=(Prod.mk.inj he).2
  cases hf
 rcases ac h with he | h
 ·obtain rfl:=(Prod.mk.inj he).2
  cases hf
 rcases ac h with he | h
 ·obtain rfl:=(Prod.mk.inj he).2
  cases hf
 rcases ac h with he | h
 ·obtain rfl:=(Prod.mk.inj he).2
  cases hf
 rcases ac h with he | h
 ·obtain rfl:=(Prod.mk.inj he).2
  cases hf
 rcases ac h with he | h
 ·obtain rfl:=(Prod.mk.inj he).2
  cases hf
 rcases ac h with he | h
 ·obtain rfl:=(Prod.mk.inj he).2
  cases hf
 rcases ac h with he | h
 ·obtain rfl:=(Prod.mk.inj he).2
  cases hf
 rcases ac h with he | h
 ·obtain rfl:=(Prod.mk.inj he).2
  cases hf
 rcases ac h with he | h
 ·obtain rfl:=(Prod.mk.inj he).2
  cases hf
 rcases ac h with he | h
 ·obtain rfl:=(Prod.mk.inj he).2
  cases hf
 rcases ac h with he | h
 ·obtain rfl:=(Prod.mk.inj he).2
  cases hf
 rcases ac h with he | h
 ·obtain rfl:=(Prod.mk.inj he).2
  cases hf
 rcases ac h with he | h
 ·obtain rfl:=(Prod.mk.inj he).2
  cases hf
 rcases ac h with he | h
 ·obtain rfl:=(Prod.mk.inj he).2
  cases hf
 rcases ac h with he | h
 ·obtain rfl:=(Prod.mk.inj he).2
  cases hf
 rcases ac h with he | h
 ·obtain rfl:=(Prod.mk.inj he).2
  cases hf
 rcases ac h with he | h
 ·obtain rfl:=(Prod.mk.inj he).2
  cases hf
 rcases ac h with he | h
 ·obtain rfl:=(Prod.mk.inj he).2
  cases hf
 rcases ac h with he | h
 ·obtain rfl:=(Prod.mk.inj he).2
  cases hf
 rcases ac h with he | h
 ·obtain rfl:=(Prod.mk.inj he).2
  cases hf
 rcases ac h with he | h
 ·obtain rfl:=(Prod.mk.inj he).2
  cases hf
 rcases ac h with he | h
 ·obtain rfl:=(Prod.mk.inj he).2
  cases hf
 rcases ac h with he | h
 ·obtain rfl:=(Prod.mk.inj he).2
  cases hf
 rcases ac h with he | h
 ·obtain rfl:=(Prod.mk.inj he).2
  cases hf
 rcases ac h with he | h
 ·obtain rfl:=(Prod.mk.inj he).2
  cases hf
 rcases ac h with he | h
 ·obtain rfl:=(Prod.mk.inj he).2
  cases hf
 rcases ac h with he | h
 ·obtain rfl:=(Prod.mk.inj he).2
  cases hf
 rcases ac h with he | h
 ·obtain rfl:=(Prod.mk.inj he).2
  cases hf
 rcases ac h with he | h
 ·obtain rfl:=(Prod.mk.inj he).2
  cases hf
 rcases ac h with he | h
 ·obtain rfl:=(Prod.mk.inj he).2
  cases hf
 rcases ac h with he | h
 ·obtain rfl:=(Prod.mk.inj he).2
  cases hf
 rcases ac h with he | h
 ·obtain rfl:=(Prod.mk.inj he).2
  cases hf
 rcases ac h with he | h
 ·obtain rfl:=(Prod.mk.inj he).2
  cases hf
 rcases ac h with he | h
 ·obtain rfl:=(Prod.mk.inj he).2
  cases hf
 rcases ac h with he | h
 ·obtain rfl:=(Prod.mk.inj he).2
  cases hf
 rcases ac h with he | h
 ·obtain rfl:=(Prod.mk.inj he).2
  cases hf
 rcases ac h with he | h
 ·obtain rfl:=(Prod.mk.inj he).2
  cases hf
 rcases ac h with he | h
 ·obtain rfl:=(Prod.mk.inj he).2
  cases hf
 rcases ac h with he | h
 ·obtain rfl:=(Prod.mk.inj he).2
  cases hf
 rcases ac h with he | h
 ·obtain rfl:=(Prod.mk.inj he).2
  cases hf
 rcases ac h with he | h
 ·obtain rfl:=(Prod.mk.inj he).2
  cases hf
 rcases ac h with he | h
 ·obtain rfl:=(Prod.mk.inj he).2
  cases hf
 rcases ac h with he | h
 ·obtain rfl:=(Prod.mk.inj he).2
  cases hf
 rcases ac h with he | h
 ·obtain rfl:=(Prod.mk.inj he).2
  cases hf
 rcases ac h with he | h
 ·obtain rfl:=(Prod.mk.inj he).2
  cases hf
 rcases ac h with he | h
 ·obtain rfl:=(Prod.mk.inj he).2
  cases hf
 rcases ac h with he | h
 ·obtain rfl:=(Prod.mk.inj he).2
  cases hf
 rcases ac h with he | h
 ·obtain rfl:=(Prod.mk.inj he).2
  cases hf
 rcases ac h with he | h
 ·obtain rfl:=(Prod.mk.inj he).2
  cases hf
 rcases ac h with he | h
 ·obtain rfl:=(Prod.mk.inj he).2
  cases hf
 rcases ac h with he | h
 ·obtain rfl:=(Prod.mk.inj he).2
  cases hf
 rcases ac h with he | h
 ·obtain rfl:=(Prod.mk.inj he).2
  cases hf
 rcases ac h with he | h
 ·obtain rfl:=(Prod.mk.inj he).2
  cases hf
 rcases ac h with he | h
 ·obtain rfl:=(Prod.mk.inj he).2
  cases hf
 rcases ac h with he | h
 ·obtain rfl:=(Prod.mk.inj he).2
  cases hf
 rcases ac h with he | h
 ·obtain rfl:=(Prod.mk.inj he).2
  cases hf
 rcases ac h with he | h
 ·obtain rfl:=(Prod.mk.inj he).2
  cases hf
 rcases ac h with he | h
 ·obtain rfl:=(Prod.mk.inj he).2
  cases hf
 rcases ac h with he | h
 ·obtain rfl:=(Prod.mk.inj he).2
  cases hf
 rcases ac h with he | h
 ·obtain rfl:=(Prod.mk.inj he).2
  cases hf
 rcases ac h with he | h
 ·obtain rfl:=(Prod.mk.inj he).2
  cases hf
 rcases ac h with he | h
 ·obtain rfl:=(Prod.mk.inj he).2
  cases hf
 rcases ac h with he | h
 ·obtain rfl:=(Prod.mk.inj he).2
  cases hf
 rcases ac h with he | h
 ·obtain rfl:=(Prod.mk.inj he).2
  cases hf
 rcases ac h with he | h
 ·obtain rfl:=(Prod.mk.inj he).2
  cases hf
 rcases ac h with he | h
 ·obtain rfl:=(Prod.mk.inj he).2
  cases hf
 rcases ac h with he | h
 ·obtain rfl:=(Prod.mk.inj he).2
  cases hf
 rcases ac h with he | h
 ·obtain rfl:=(Prod.mk.inj he).2
  cases hf
 rcases ac h with he | h
 ·obtain rfl:=(Prod.mk.inj he).2
  cases hf
 rcases ac h with he | h
 ·obtain rfl:=(Prod.mk.inj he).2
  cases hf
 rcases ac h with he | h
 ·obtain rfl:=(Prod.mk.inj he).2
  cases hf
 rcases ac h with he | h
 ·obtain rfl:=(Prod.mk.inj he).2
  cases hf
 rcases ac h with he | h
 ·obtain rfl:=(Prod.mk.inj he).2
  cases hf
 rcases ac h with he | h
 ·obtain rfl:=(Prod.mk.inj he).2
  cases hf
 rcases ac h with he | h
 ·obtain rfl:=(Prod.mk.inj he).2
  cases hf
 rcases ac h with he | h
 ·obtain rfl:=(Prod.mk.inj he).2
  cases hf
 rcases ac h with he | h
 ·obtain rfl:=(Prod.mk.inj he).2
  cases hf
 rcases ac h with he | h
 ·obtain rfl:=(Prod.mk.inj he).2
  cases hf
 rcases ac h with he | h
 ·obtain rfl:=(Prod.mk.inj he).2
  have hf:=Option.some.inj hf
  subst hf
  exact Hi args tab z hz
 rcases ac h with he | h
 ·obtain rfl:=(Prod.mk.inj he).2
  cases hf
 rcases ac h with he | h
 ·obtain rfl:=(Prod.mk.inj he).2
  cases hf
 rcases ac h with he | h
 ·obtain rfl:=(Prod.mk.inj he).2
  cases hf
 rcases ac h with he | h
 ·obtain rfl:=(Prod.mk.inj he).2
  cases hf
 rcases ac h with he | h
 ·obtain rfl:=(Prod.mk.inj he).2
  cases hf
 rcases ac h with he | h
 ·obtain rfl:=(Prod.mk.inj he).2
  cases hf
 rcases ac h with he | h
 ·obtain rfl:=(Prod.mk.inj he).2
  cases hf
 rcases ac h with he | h
 ·obtain rfl:=(Prod.mk.inj he).2
  cases hf
 rcases ac h with he | h
 ·obtain rfl:=(Prod.mk.inj he).2
  cases hf
 rcases ac h with he | h
 ·obtain rfl:=(Prod.mk.inj he).2
  cases hf
 rcases ac h with he | h
 ·obtain rfl:=(Prod.mk.inj he).2
  cases hf
 rcases ac h with he | h
 ·obtain rfl:=(Prod.mk.inj he).2
  cases hf
 rcases ac h with he | h
 ·obtain rfl:=(Prod.mk.inj he).2
  cases hf
 rcases ac h with he | h
 ·obtain rfl:=(Prod.mk.inj he).2
  cases hf
 rcases ac h with he | h
 ·obtain rfl:=(Prod.mk.inj he).2
  cases hf
 rcases ac h with he | h
 ·obtain rfl:=(Prod.mk.inj he).2
  cases hf
 rcases ac h with he | h
 ·obtain rfl:=(Prod.mk.inj he).2
  cases hf
 rcases ac h with he | h
 ·obtain rfl:=(Prod.mk.inj he).2
  cases hf
 rcases ac h with he | h
 ·obtain rfl:=(Prod.mk.inj he).2
  cases hf
 rcases ac h with he | h
 ·obtain rfl:=(Prod.mk.inj he).2
  cases hf
 rcases ac h with he | h
 ·obtain rfl:=(Prod.mk.inj he).2
  cases hf
 rcases ac h with he | h
 ·obtain rfl:=(Prod.mk.inj he).2
  cases hf
 rcases ac h with he | h
 ·obtain rfl:=(Prod.mk.inj he).2
  cases hf
 rcases ac h with he | h
 ·obtain rfl:=(Prod.mk.inj he).2
  cases hf
 rcases ac h with he | h
 ·obtain rfl:=(Prod.mk.inj he).2
  cases hf
 rcases ac h with he | h
 ·obtain rfl:=(Prod.mk.inj he).2
  have hf:=Option.some.inj hf
  subst hf
  exact(Px (by unfold vars; simp) (by unfold vars; simp)) args tab z hz
 rcases ac h with he | h
 ·obtain rfl:=(Prod.mk.inj he).2
  cases hf
 rcases ac h with he | h
 ·obtain rfl:=(Prod.mk.inj he).2
  cases hf
 rcases ac h with he | h
 ·obtain rfl:=(Prod.mk.inj he).2
  cases hf
 rcases ac h with he | h
 ·obtain rfl:=(Prod.mk.inj he).2
  cases hf
 rcases ac h with he | h
 ·obtain rfl:=(Prod.mk.inj he).2
  cases hf
 rcases ac h with he | h
 ·obtain rfl:=(Prod.mk.inj he).2
  cases hf
 rcases ac h with he | h
 ·obtain rfl:=(Prod.mk.inj he).2
  cases hf
 rcases ac h with he | h
 ·obtain rfl:=(Prod.mk.inj he).2
  cases hf
 rcases ac h with he | h
 ·obtain rfl:=(Prod.mk.inj he).2
  have hf:=Option.some.inj hf
  subst hf
  exact IP args tab z hz
 rcases ac h with he | h
 ·obtain rfl:=(Prod.mk.inj he).2
  cases hf
 rcases ac h with he | h
 ·obtain rfl:=(Prod.mk.inj he).2
  cases hf
 rcases ac h with he | h
 ·obtain rfl:=(Prod.mk.inj he).2
  cases hf
 rcases ac h with he | h
 ·obtain rfl:=(Prod.mk.inj he).2
  cases hf
 rcases ac h with he | h
 ·obtain rfl:=(Prod.mk.inj he).2
  cases hf
 rcases ac h with he | h
 ·obtain rfl:=(Prod.mk.inj he).2
  cases hf
 rcases ac h with he | h
 ·obtain rfl:=(Prod.mk.inj he).2
  cases hf
 rcases ac h with he | h
 ·obtain rfl:=(Prod.mk.inj he).2
  cases hf
 rcases ac h with he | h
 ·obtain rfl:=(Prod.mk.inj he).2
  cases hf
 rcases ac h with he | h
 ·obtain rfl:=(Prod.mk.inj he).2
  cases hf
 rcases ac h with he | h
 ·obtain rfl:=(Prod.mk.inj he).2
  cases hf
 rcases ac h with he | h
 ·obtain rfl:=(Prod.mk.inj he).2
  cases hf
 rcases ac h with he | h
 ·obtain rfl:=(Prod.mk.inj he).2
  cases hf
 rcases ac h with he | h
 ·obtain rfl:=(Prod.mk.inj he).2
  cases hf
 rcases ac h with he | h
 ·obtain rfl:=(Prod.mk.inj he).2
  have hf:=Option.some.inj hf
  subst hf
  exact Py args tab z hz
 rcases ac h with he | h
 ·obtain rfl:=(Prod.mk.inj he).2
  cases hf
 rcases ac h with he | h
 ·obtain rfl:=(Prod.mk.inj he).2
  cases hf
 rcases ac h with he | h
 ·obtain rfl:=(Prod.mk.inj he).2
  have hf:=Option.some.inj hf
  subst hf
  exact(UT (by unfold vars; simp)) args tab z hz
 rcases ac h with he | h
 ·obtain rfl:=(Prod.mk.inj he).2
  cases hf
 rcases ac h with he | h
 ·obtain rfl:=(Prod.mk.inj he).2
  cases hf
 rcases ac h with he | h
 ·obtain rfl:=(Prod.mk.inj he).2
  cases hf
 rcases ac h with he | h
 ·obtain rfl:=(Prod.mk.inj he).2
  cases hf
 rcases ac h with he | h
 ·obtain rfl:=(Prod.mk.inj he).2
  cases hf
 rcases ac h with he | h
 ·obtain rfl:=(Prod.mk.inj he).2
  cases hf
 rcases ac h with he | h
 ·obtain rfl:=(Prod.mk.inj he).2
  cases hf
 rcases ac h with he | h
 ·obtain rfl:=(Prod.mk.inj he).2
  cases hf
 rcases ac h with he | h
 ·obtain rfl:=(Prod.mk.inj he).2
  cases hf
 rcases ac h with he | h
 ·obtain rfl:=(Prod.mk.inj he).2
  cases hf
 rcases ac h with he | h
 ·obtain rfl:=(Prod.mk.inj he).2
  cases hf
 rcases ac h with he | h
 ·obtain rfl:=(Prod.mk.inj he).2
  cases hf
 rcases ac h with he | h
 ·obtain rfl:=(Prod.mk.inj he).2
  cases hf
 rcases ac h with he | h
 ·obtain rfl:=(Prod.mk.inj he).2
  cases hf
 rcases ac h with he | h
 ·obtain rfl:=(Prod.mk.inj he).2
  cases hf
 rcases ac h with he | h
 ·obtain rfl:=(Prod.mk.inj he).2
  cases hf
 rcases ac h with he | h
 ·obtain rfl:=(Prod.mk.inj he).2
  cases hf
 rcases ac h with he | h
 ·obtain rfl:=(Prod.mk.inj he).2
  cases hf
 rcases ac h with he | h
 ·obtain rfl:=(Prod.mk.inj he).2
  cases hf
 rcases ac h with he | h
 ·obtain rfl:=(Prod.mk.inj he).2
  cases hf
 rcases ac h with he | h
 ·obtain rfl:=(Prod.mk.inj he).2
  cases hf
 rcases ac h with he | h
 ·obtain rfl:=(Prod.mk.inj he).2
  cases hf
 rcases ac h with he | h
 ·obtain rfl:=(Prod.mk.inj he).2
  cases hf
 rcases ac h with he | h
 ·obtain rfl:=(Prod.mk.inj he).2
  cases hf
 rcases ac h with he | h
 ·obtain rfl:=(Prod.mk.inj he).2
  have hf:=Option.some.inj hf
  subst hf
  exact Sp args tab z hz
 rcases ac h with he | h
 ·obtain rfl:=(Prod.mk.inj he).2
  cases hf
 rcases ac h with he | h
 ·obtain rfl:=(Prod.mk.inj he).2
  cases hf
 rcases ac h with he | h
 ·obtain rfl:=(Prod.mk.inj he).2
  cases hf
 rcases ac h with he | h
 ·obtain rfl:=(Prod.mk.inj he).2
  cases hf
 rcases ac h with he | h
 ·obtain rfl:=(Prod.mk.inj he).2
  cases hf
 rcases ac h with he | h
 ·obtain rfl:=(Prod.mk.inj he).2
  cases hf
 rcases ac h with he | h
 ·obtain rfl:=(Prod.mk.inj he).2
  cases hf
 rcases ac h with he | h
 ·obtain rfl:=(Prod.mk.inj he).2
  cases hf
 rcases ac h with he | h
 ·obtain rfl:=(Prod.mk.inj he).2
  cases hf
 rcases ac h with he | h
 ·obtain rfl:=(Prod.mk.inj he).2
  cases hf
 rcases ac h with he | h
 ·obtain rfl:=(Prod.mk.inj he).2
  cases hf
 rcases ac h with he | h
 ·obtain rfl:=(Prod.mk.inj he).2
  cases hf
 rcases ac h with he | h
 ·obtain rfl:=(Prod.mk.inj he).2
  cases hf
 rcases ac h with he | h
 ·obtain rfl:=(Prod.mk.inj he).2
  cases hf
 rcases ac h with he | h
 ·obtain rfl:=(Prod.mk.inj he).2
  cases hf
 rcases ac h with he | h
 ·obtain rfl:=(Prod.mk.inj he).2
  cases hf
 rcases ac h with he | h
 ·obtain rfl:=(Prod.mk.inj he).2
  cases hf
 rcases ac h with he | h
 ·obtain rfl:=(Prod.mk.inj he).2
  cases hf
 rcases ac h with he | h
 ·obtain rfl:=(Prod.mk.inj he).2
  cases hf
 rcases ac h with he | h
 ·obtain rfl:=(Prod.mk.inj he).2
  cases hf
 rcases ac h with he | h
 ·obtain rfl:=(Prod.mk.inj he).2
  cases hf
 rcases ac h with he | h
 ·obtain rfl:=(Prod.mk.inj he).2
  have hf:=Option.some.inj hf
  subst hf
  exact So args tab z hz
 rcases ac h with he | h
 ·obtain rfl:=(Prod.mk.inj he).2
  cases hf
 rcases ac h with he | h
 ·obtain rfl:=(Prod.mk.inj he).2
  cases hf
 rcases ac h with he | h
 ·obtain rfl:=(Prod.mk.inj he).2
  cases hf
 rcases ac h with he | h
 ·obtain rfl:=(Prod.mk.inj he).2
  cases hf
 rcases ac h with he | h
 ·obtain rfl:=(Prod.mk.inj he).2
  cases hf
 rcases ac h with he | h
 ·obtain rfl:=(Prod.mk.inj he).2
  cases hf
 rcases ac h with he | h
 ·obtain rfl:=(Prod.mk.inj he).2
  cases hf
 rcases ac h with he | h
 ·obtain rfl:=(Prod.mk.inj he).2
  cases hf
 rcases ac h with he | h
 ·obtain rfl:=(Prod.mk.inj he).2
  cases hf
 rcases ac h with he | h
 ·obtain rfl:=(Prod.mk.inj he).2
  cases hf
 rcases ac h with he | h
 ·obtain rfl:=(Prod.mk.inj he).2
  cases hf
 rcases ac h with he | h
 ·obtain rfl:=(Prod.mk.inj he).2
  cases hf
 rcases ac h with he | h
 ·obtain rfl:=(Prod.mk.inj he).2
  cases hf
 rcases ac h with he | h
 ·obtain rfl:=(Prod.mk.inj he).2
  cases hf
 rcases ac h with he | h
 ·obtain rfl:=(Prod.mk.inj he).2
  cases hf
 rcases ac h with he | h
 ·obtain rfl:=(Prod.mk.inj he).2
  cases hf
 rcases ac h with he | h
 ·obtain rfl:=(Prod.mk.inj he).2
  cases hf
 rcases ac h with he | h
 ·obtain rfl:=(Prod.mk.inj he).2
  cases hf
 rcases ac h with he | h
 ·obtain rfl:=(Prod.mk.inj he).2
  have hf:=Option.some.inj hf
  subst hf
  exact(Lo (by unfold vars; simp)) args tab z hz
 rcases ac h with he | h
 ·obtain rfl:=(Prod.mk.inj he).2
  cases hf
 rcases ac h with he | h
 ·obtain rfl:=(Prod.mk.inj he).2
  have hf:=Option.some.inj hf
  subst hf
  exact Sq args tab z hz
 rcases ac h with he | h
 ·obtain rfl:=(Prod.mk.inj he).2
  have hf:=Option.some.inj hf
  subst hf
  exact(UU (by unfold vars; simp)) args tab z hz
 rcases ac h with he | h
 ·obtain rfl:=(Prod.mk.inj he).2
  cases hf
 rcases ac h with he | h
 ·obtain rfl:=(Prod.mk.inj he).2
  cases hf
 rcases ac h with he | h
 ·obtain rfl:=(Prod.mk.inj he).2
  cases hf
 rcases ac h with he | h
 ·obtain rfl:=(Prod.mk.inj he).2
  cases hf
 rcases ac h with he | h
 ·obtain rfl:=(Prod.mk.inj he).2
  cases hf
 cases h
end Go.Proofs.YteaahciglahehaaGreatDoor.Abs
