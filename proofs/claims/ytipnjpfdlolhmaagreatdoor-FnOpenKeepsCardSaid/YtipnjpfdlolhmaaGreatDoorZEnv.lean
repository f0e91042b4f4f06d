/- What is known of the program: its types, its functions, those that are shown otherwise. -/
import Derived.Test.YtipnjpfdlolhmaaGreatDoorZA3
import Derived.Test.YtipnjpfdlolhmaaGreatDoorZQD
import Derived.Test.YtipnjpfdlolhmaaGreatDoorChecked
import Derived.Test.YtipnjpfdlolhmaaGreatDoorZM1
set_option linter.unusedVariables false
open Option.some renaming inj→bl_
open Prod.mk renaming inj→dz_
namespace Go.Proofs.YtipnjpfdlolhmaaGreatDoor.Abs
open Go
def vars:List iK:=[EP "strconv.ErrSyntax",EP "strconv.ErrRange",Li,wE "internal/bytealg.MaxLen"]
theorem pn {α:Type} {a b:α} {l:List α} (h:a∈b :: l):a=b∨a∈l:=List.mem_cons.1 h
theorem ZH:(E.fns.all fun p=>p.2.fn.body.isSome && !(p.2.fn.name == "runtime.NumGoroutine"))=true:=by kernel_rfl
theorem al {Q:Nat×an→Prop} {a:Nat×an} {l:List (Nat×an)} (h:Q a) (k : ∀ p∈l,Q p) : ∀ p∈a :: l,Q p:=fun p hp=>(pn hp).elim (fun e=>e ▸ h) (k p)
set_option maxRecDepth 100000 in
theorem Y3 : ∀ p∈E.fns,Tryz.prog.funcs[p.2.g]? = some p.2.fn:=by
 unfold E
 refine al Tryz.func3 ?_
 refine al Tryz.func4 ?_
 refine al Tryz.func5 ?_
 refine al Tryz.func6 ?_
 refine al Tryz.func7 ?_
 refine al Tryz.func8 ?_
 refine al Tryz.func9 ?_
 refine al Tryz.func10 ?_
 refine al Tryz.func11 ?_
 refine al Tryz.func12 ?_
 refine al Tryz.func13 ?_
 refine al Tryz.func14 ?_
 refine al Tryz.func15 ?_
 refine al Tryz.func16 ?_
 refine al Tryz.func17 ?_
 refine al Tryz.func18 ?_
 refine al Tryz.func19 ?_
 refine al Tryz.func20 ?_
 refine al Tryz.func21 ?_
 refine al Tryz.func22 ?_
 refine al Tryz.func23 ?_
 refine al Tryz.func24 ?_
 refine al Tryz.func25 ?_
 refine al Tryz.func26 ?_
 refine al Tryz.func27 ?_
 refine al Tryz.func28 ?_
 refine al Tryz.func29 ?_
 refine al Tryz.func30 ?_
 refine al Tryz.func31 ?_
 refine al Tryz.func32 ?_
 refine al Tryz.func33 ?_
 refine al Tryz.func34 ?_
 refine al Tryz.func35 ?_
 refine al Tryz.func36 ?_
 refine al Tryz.func37 ?_
 refine al Tryz.func38 ?_
 refine al Tryz.func39 ?_
 refine al Tryz.func40 ?_
 refine al Tryz.func41 ?_
 refine al Tryz.func42 ?_
 refine al Tryz.func43 ?_
 refine al Tryz.func44 ?_
 refine al Tryz.func45 ?_
 refine al Tryz.func46 ?_
 refine al Tryz.func47 ?_
 refine al Tryz.func48 ?_
 refine al Tryz.func49 ?_
 refine al Tryz.func50 ?_
 refine al Tryz.func51 ?_
 refine al Tryz.func52 ?_
 refine al Tryz.func53 ?_
 refine al Tryz.func54 ?_
 refine al Tryz.func55 ?_
 refine al Tryz.func56 ?_
 refine al Tryz.func57 ?_
 refine al Tryz.func58 ?_
 refine al Tryz.func59 ?_
 refine al Tryz.func60 ?_
 refine al Tryz.func61 ?_
 refine al Tryz.func62 ?_
 refine al Tryz.func63 ?_
 refine al Tryz.func64 ?_
 refine al Tryz.func65 ?_
 refine al Tryz.func66 ?_
 refine al Tryz.func67 ?_
 refine al Tryz.func68 ?_
 refine al Tryz.func69 ?_
 refine al Tryz.func70 ?_
 refine al Tryz.func71 ?_
 refine al Tryz.func72 ?_
 refine al Tryz.func73 ?_
 refine al Tryz.func74 ?_
 refine al Tryz.func75 ?_
 refine al Tryz.func76 ?_
 refine al Tryz.func77 ?_
 refine al Tryz.func78 ?_
 refine al Tryz.func79 ?_
 refine al Tryz.func80 ?_
 refine al Tryz.func81 ?_
 refine al Tryz.func82 ?_
 refine al Tryz.func83 ?_
 refine al Tryz.func84 ?_
 refine al Tryz.func85 ?_
 refine al Tryz.func86 ?_
 refine al Tryz.func87 ?_
 refine al Tryz.func88 ?_
 refine al Tryz.func89 ?_
 refine al Tryz.func90 ?_
 refine al Tryz.func91 ?_
 refine al Tryz.func92 ?_
 refine al Tryz.func93 ?_
 refine al Tryz.func94 ?_
 refine al Tryz.func95 ?_
 refine al Tryz.func96 ?_
 refine al Tryz.func97 ?_
 refine al Tryz.func98 ?_
 refine al Tryz.func99 ?_
 refine al Tryz.func100 ?_
 refine al Tryz.func101 ?_
 refine al Tryz.func102 ?_
 refine al Tryz.func103 ?_
 refine al Tryz.func104 ?_
 refine al Tryz.func105 ?_
 refine al Tryz.func106 ?_
 refine al Tryz.func107 ?_
 refine al Tryz.func108 ?_
 refine al Tryz.func109 ?_
 refine al Tryz.func110 ?_
 refine al Tryz.func111 ?_
 refine al Tryz.func112 ?_
 refine al Tryz.func113 ?_
 refine al Tryz.func114 ?_
 refine al Tryz.func115 ?_
 refine al Tryz.func116 ?_
 refine al Tryz.func117 ?_
 refine al Tryz.func118 ?_
 refine al Tryz.func119 ?_
 refine al Tryz.func120 ?_
 refine al Tryz.func121 ?_
 refine al Tryz.func122 ?_
 refine al Tryz.func123 ?_
 refine al Tryz.func125 ?_
 refine al Tryz.func126 ?_
 refine al Tryz.func127 ?_
 refine al Tryz.func128 ?_
 refine al Tryz.func129 ?_
 refine al Tryz.func130 ?_
 refine al Tryz.func132 ?_
 refine al Tryz.func133 ?_
 refine al Tryz.func134 ?_
 refine al Tryz.func135 ?_
 refine al Tryz.func136 ?_
 refine al Tryz.func137 ?_
 refine al Tryz.func138 ?_
 refine al Tryz.func139 ?_
 refine al Tryz.func140 ?_
 refine al Tryz.func141 ?_
 refine al Tryz.func142 ?_
 refine al Tryz.func143 ?_
 refine al Tryz.func144 ?_
 refine al Tryz.func145 ?_
 refine al Tryz.func146 ?_
 refine al Tryz.func147 ?_
 refine al Tryz.func148 ?_
 refine al Tryz.func149 ?_
 refine al Tryz.func150 ?_
 refine al Tryz.func151 ?_
 refine al Tryz.func152 ?_
 refine al Tryz.func153 ?_
 refine al Tryz.func156 ?_
 refine al Tryz.func157 ?_
 refine al Tryz.func158 ?_
 refine al Tryz.func161 ?_
 refine al Tryz.func162 ?_
 refine al Tryz.func163 ?_
 refine al Tryz.func164 ?_
 refine al Tryz.func165 ?_
 refine al Tryz.func166 ?_
 refine al Tryz.func167 ?_
 refine al Tryz.func168 ?_
 refine al Tryz.func169 ?_
 refine al Tryz.func170 ?_
 refine al Tryz.func171 ?_
 refine al Tryz.func172 ?_
 refine al Tryz.func173 ?_
 refine al Tryz.func174 ?_
 refine al Tryz.func175 ?_
 refine al Tryz.func176 ?_
 refine al Tryz.func177 ?_
 refine al Tryz.func178 ?_
 refine al Tryz.func179 ?_
 refine al Tryz.func180 ?_
 refine al Tryz.func181 ?_
 refine al Tryz.func182 ?_
 refine al Tryz.func183 ?_
 refine al Tryz.func189 ?_
 refine al Tryz.func208 ?_
 refine al Tryz.func209 ?_
 refine al Tryz.func210 ?_
 refine al Tryz.func211 ?_
 refine al Tryz.func212 ?_
 refine al Tryz.func213 ?_
 refine al Tryz.func214 ?_
 refine al Tryz.func215 ?_
 refine al Tryz.func216 ?_
 refine al Tryz.func217 ?_
 refine al Tryz.func218 ?_
 refine al Tryz.func219 ?_
 refine al Tryz.func220 ?_
 refine al Tryz.func221 ?_
 refine al Tryz.func222 ?_
 refine al Tryz.func223 ?_
 refine al Tryz.func224 ?_
 refine al Tryz.func225 ?_
 refine al Tryz.func226 ?_
 refine al Tryz.func227 ?_
 refine al Tryz.func228 ?_
 refine al Tryz.func229 ?_
 refine al Tryz.func248 ?_
 refine al Tryz.func249 ?_
 refine al Tryz.func250 ?_
 refine al Tryz.func251 ?_
 refine al Tryz.func252 ?_
 refine al Tryz.func253 ?_
 refine al Tryz.func254 ?_
 refine al Tryz.func255 ?_
 refine al Tryz.func256 ?_
 refine al Tryz.func257 ?_
 refine al Tryz.func259 ?_
 refine al Tryz.func272 ?_
 refine al Tryz.func273 ?_
 refine al Tryz.func274 ?_
 refine al Tryz.func275 ?_
 refine al Tryz.func38 ?_
 refine al Tryz.func74 ?_
 refine al Tryz.func75 ?_
 refine al Tryz.func123 ?_
 refine al Tryz.func125 ?_
 refine al Tryz.func38 ?_
 refine al Tryz.func74 ?_
 exact fun p h=>by cases h
theorem X5 : ∀ p∈E.fns,Tryz.prog.funcs[p.2.g]? = some p.2.fn∧p.2.fn.body.isSome=true∧(p.2.fn.name == "runtime.NumGoroutine")=false:=fun p h=>by
 have k:=List.all_eq_true.1 ZH p h
 rw[Bool.and_eq_true,Bool.not_eq_true'] at k
 exact⟨Y3 p h,k.1,k.2⟩
theorem X6:fP Tryz.prog E:=UV (by kernel_rfl) X5
theorem Y4:(E.fns.filter fun p=>p.2.prim.isSome)=[(39,eD),(105,g8),(118,js),(123,jI),(145,iM),(157,mn),(158,jd),(162,gb),(181,jt),(226,io),(229,mq),(273,nI),(10123,ip)]:=by kernel_rfl
theorem U8:wB (gx Tryz.prog vars) Tryz.prog E:=by
 intro I f key hg hf args tab z hz
 have h:(key,I)∈E.fns.filter fun p=>p.2.prim.isSome:=List.mem_filter.2 ⟨sL hg,by show I.prim.isSome=true; rw[hf]; rfl⟩
 rw[Y4] at h
 rcases pn h with he | h
 ·obtain rfl:=(dz_ he).2
  have hf:=bl_ hf
  subst hf
  exact P9 args tab z hz
 rcases pn h with he | h
 ·obtain rfl:=(dz_ he).2
  have hf:=bl_ hf
  subst hf
  exact Nl args tab z hz
 rcases pn h with he | h
 ·obtain rfl:=(dz_ he).2
  have hf:=bl_ hf
  subst hf
  exact(Nm (by unfold vars; simp) (by unfold vars; simp)) args tab z hz
 rcases pn h with he | h
 ·obtain rfl:=(dz_ he).2
  have hf:=bl_ hf
  subst hf
  exact Ff args tab z hz
 rcases pn h with he | h
 ·obtain rfl:=(dz_ he).2
  have hf:=bl_ hf
  subst hf
  exact Qa args tab z hz
 rcases pn h with he | h
 ·obtain rfl:=(dz_ he).2
  have hf:=bl_ hf
  subst hf
  exact Qb args tab z hz
 rcases pn h with he | h
 ·obtain rfl:=(dz_ he).2
  have hf:=bl_ hf
  subst hf
  exact(SF (by unfold vars; simp)) args tab z hz
 rcases pn h with he | h
 ·obtain rfl:=(dz_ he).2
  have hf:=bl_ hf
  subst hf
  exact SG args tab z hz
 rcases pn h with he | h
 ·obtain rfl:=(dz_ he).2
  have hf:=bl_ hf
  subst hf
  exact GQ args tab z hz
 rcases pn h with he | h
 ·obtain rfl:=(dz_ he).2
  have hf:=bl_ hf
  subst hf
  exact(Ji (by unfold vars; simp)) args tab z hz
 rcases pn h with he | h
 ·obtain rfl:=(dz_ he).2
  have hf:=bl_ hf
  subst hf
  exact Qc args tab z hz
 rcases pn h with he | h
 ·obtain rfl:=(dz_ he).2
  have hf:=bl_ hf
  subst hf
  exact(SH (by unfold vars; simp)) args tab z hz
 rcases pn h with he | h
 ·obtain rfl:=(dz_ he).2
  have hf:=bl_ hf
  subst hf
  exact DP args tab z hz
 cases h
end Go.Proofs.YtipnjpfdlolhmaaGreatDoor.Abs
