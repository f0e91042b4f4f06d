/- What is known of the program: its types, its functions, those that are shown otherwise. -/
import Derived.Test.YthbkdfcmjmmpgaaGreatDoorZA3
import Derived.Test.YthbkdfcmjmmpgaaGreatDoorZQD
import Derived.Test.YthbkdfcmjmmpgaaGreatDoorChecked
import Derived.Test.YthbkdfcmjmmpgaaGreatDoorZM1
set_option linter.unusedVariables false
open Option.some renaming inj→cb_
open Prod.mk renaming inj→er_
namespace Go.Proofs.YthbkdfcmjmmpgaaGreatDoor.Abs
open Go
def vars:List iI:=[Gl "strconv.ErrSyntax",Gl "strconv.ErrRange",Nl,xU "internal/bytealg.MaxLen"]
theorem ri {α:Type} {a b:α} {l:List α} (h:a∈b :: l):a=b∨a∈l:=List.mem_cons.1 h
theorem ab5:(E.fns.all fun p=>p.2.fn.body.isSome && !(p.2.fn.name == "runtime.NumGoroutine"))=true:=by kernel_rfl
theorem al {Q:Nat×ax→Prop} {a:Nat×ax} {l:List (Nat×ax)} (h:Q a) (k : ∀ p∈l,Q p) : ∀ p∈a :: l,Q p:=fun p hp=>(ri hp).elim (fun e=>e ▸ h) (k p)
set_option maxRecDepth 100000 in
theorem aby : ∀ p∈E.fns,Tryz.prog.funcs[p.2.g]? = some p.2.fn:=by
 unfold E
 refine al Tryz.func3 ?_
 refine al Tryz.func5 ?_
 refine al Tryz.func6 ?_
 refine al Tryz.func7 ?_
 refine al Tryz.func8 ?_
 refine al Tryz.func9 ?_
 refine al Tryz.func10 ?_
 refine al Tryz.func11 ?_
 refine al Tryz.func12 ?_
 refine al Tryz.func13 ?_
 refine al Tryz.func21 ?_
 refine al Tryz.func22 ?_
 refine al Tryz.func23 ?_
 refine al Tryz.func24 ?_
 refine al Tryz.func25 ?_
 refine al Tryz.func26 ?_
 refine al Tryz.func27 ?_
 refine al Tryz.func28 ?_
 refine al Tryz.func29 ?_
 refine al Tryz.func30 ?_
 refine al Tryz.func31 ?_
 refine al Tryz.func32 ?_
 refine al Tryz.func33 ?_
 refine al Tryz.func34 ?_
 refine al Tryz.func35 ?_
 refine al Tryz.func36 ?_
 refine al Tryz.func37 ?_
 refine al Tryz.func38 ?_
 refine al Tryz.func39 ?_
 refine al Tryz.func40 ?_
 refine al Tryz.func41 ?_
 refine al Tryz.func42 ?_
 refine al Tryz.func43 ?_
 refine al Tryz.func44 ?_
 refine al Tryz.func45 ?_
 refine al Tryz.func46 ?_
 refine al Tryz.func47 ?_
 refine al Tryz.func48 ?_
 refine al Tryz.func49 ?_
 refine al Tryz.func50 ?_
 refine al Tryz.func51 ?_
 refine al Tryz.func52 ?_
 refine al Tryz.func53 ?_
 refine al Tryz.func54 ?_
 refine al Tryz.func55 ?_
 refine al Tryz.func56 ?_
 refine al Tryz.func57 ?_
 refine al Tryz.func58 ?_
 refine al Tryz.func59 ?_
 refine al Tryz.func60 ?_
 refine al Tryz.func61 ?_
 refine al Tryz.func62 ?_
 refine al Tryz.func63 ?_
 refine al Tryz.func64 ?_
 refine al Tryz.func65 ?_
 refine al Tryz.func66 ?_
 refine al Tryz.func67 ?_
 refine al Tryz.func68 ?_
 refine al Tryz.func69 ?_
 refine al Tryz.func70 ?_
 refine al Tryz.func71 ?_
 refine al Tryz.func72 ?_
 refine al Tryz.func73 ?_
 refine al Tryz.func74 ?_
 refine al Tryz.func75 ?_
 refine al Tryz.func76 ?_
 refine al Tryz.func77 ?_
 refine al Tryz.func78 ?_
 refine al Tryz.func80 ?_
 refine al Tryz.func81 ?_
 refine al Tryz.func82 ?_
 refine al Tryz.func83 ?_
 refine al Tryz.func84 ?_
 refine al Tryz.func85 ?_
 refine al Tryz.func86 ?_
 refine al Tryz.func87 ?_
 refine al Tryz.func88 ?_
 refine al Tryz.func89 ?_
 refine al Tryz.func90 ?_
 refine al Tryz.func91 ?_
 refine al Tryz.func92 ?_
 refine al Tryz.func93 ?_
 refine al Tryz.func94 ?_
 refine al Tryz.func95 ?_
 refine al Tryz.func96 ?_
 refine al Tryz.func97 ?_
 refine al Tryz.func98 ?_
 refine al Tryz.func99 ?_
 refine al Tryz.func100 ?_
 refine al Tryz.func101 ?_
 refine al Tryz.func102 ?_
 refine al Tryz.func103 ?_
 refine al Tryz.func104 ?_
 refine al Tryz.func105 ?_
 refine al Tryz.func106 ?_
 refine al Tryz.func107 ?_
 refine al Tryz.func108 ?_
 refine al Tryz.func109 ?_
 refine al Tryz.func110 ?_
 refine al Tryz.func111 ?_
 refine al Tryz.func112 ?_
 refine al Tryz.func113 ?_
 refine al Tryz.func116 ?_
 refine al Tryz.func117 ?_
 refine al Tryz.func118 ?_
 refine al Tryz.func119 ?_
 refine al Tryz.func120 ?_
 refine al Tryz.func121 ?_
 refine al Tryz.func122 ?_
 refine al Tryz.func125 ?_
 refine al Tryz.func126 ?_
 refine al Tryz.func127 ?_
 refine al Tryz.func128 ?_
 refine al Tryz.func129 ?_
 refine al Tryz.func130 ?_
 refine al Tryz.func131 ?_
 refine al Tryz.func132 ?_
 refine al Tryz.func133 ?_
 refine al Tryz.func134 ?_
 refine al Tryz.func135 ?_
 refine al Tryz.func136 ?_
 refine al Tryz.func137 ?_
 refine al Tryz.func138 ?_
 refine al Tryz.func139 ?_
 refine al Tryz.func140 ?_
 refine al Tryz.func141 ?_
 refine al Tryz.func142 ?_
 refine al Tryz.func143 ?_
 refine al Tryz.func144 ?_
 refine al Tryz.func145 ?_
 refine al Tryz.func146 ?_
 refine al Tryz.func147 ?_
 refine al Tryz.func149 ?_
 refine al Tryz.func150 ?_
 refine al Tryz.func151 ?_
 refine al Tryz.func152 ?_
 refine al Tryz.func153 ?_
 refine al Tryz.func154 ?_
 refine al Tryz.func155 ?_
 refine al Tryz.func156 ?_
 refine al Tryz.func157 ?_
 refine al Tryz.func158 ?_
 refine al Tryz.func159 ?_
 refine al Tryz.func165 ?_
 refine al Tryz.func184 ?_
 refine al Tryz.func185 ?_
 refine al Tryz.func186 ?_
 refine al Tryz.func187 ?_
 refine al Tryz.func188 ?_
 refine al Tryz.func189 ?_
 refine al Tryz.func190 ?_
 refine al Tryz.func191 ?_
 refine al Tryz.func192 ?_
 refine al Tryz.func193 ?_
 refine al Tryz.func194 ?_
 refine al Tryz.func195 ?_
 refine al Tryz.func196 ?_
 refine al Tryz.func197 ?_
 refine al Tryz.func198 ?_
 refine al Tryz.func199 ?_
 refine al Tryz.func200 ?_
 refine al Tryz.func201 ?_
 refine al Tryz.func202 ?_
 refine al Tryz.func203 ?_
 refine al Tryz.func204 ?_
 refine al Tryz.func205 ?_
 refine al Tryz.func206 ?_
 refine al Tryz.func207 ?_
 refine al Tryz.func208 ?_
 refine al Tryz.func209 ?_
 refine al Tryz.func210 ?_
 refine al Tryz.func211 ?_
 refine al Tryz.func212 ?_
 refine al Tryz.func213 ?_
 refine al Tryz.func214 ?_
 refine al Tryz.func215 ?_
 refine al Tryz.func216 ?_
 refine al Tryz.func217 ?_
 refine al Tryz.func218 ?_
 refine al Tryz.func219 ?_
 refine al Tryz.func228 ?_
 refine al Tryz.func229 ?_
 refine al Tryz.func230 ?_
 refine al Tryz.func231 ?_
 refine al Tryz.func232 ?_
 refine al Tryz.func233 ?_
 refine al Tryz.func252 ?_
 refine al Tryz.func253 ?_
 refine al Tryz.func254 ?_
 refine al Tryz.func255 ?_
 refine al Tryz.func256 ?_
 refine al Tryz.func257 ?_
 refine al Tryz.func258 ?_
 refine al Tryz.func259 ?_
 refine al Tryz.func260 ?_
 refine al Tryz.func261 ?_
 refine al Tryz.func262 ?_
 refine al Tryz.func263 ?_
 refine al Tryz.func264 ?_
 refine al Tryz.func265 ?_
 refine al Tryz.func266 ?_
 refine al Tryz.func267 ?_
 refine al Tryz.func268 ?_
 refine al Tryz.func269 ?_
 refine al Tryz.func270 ?_
 refine al Tryz.func271 ?_
 refine al Tryz.func272 ?_
 refine al Tryz.func273 ?_
 refine al Tryz.func274 ?_
 refine al Tryz.func275 ?_
 refine al Tryz.func276 ?_
 refine al Tryz.func277 ?_
 refine al Tryz.func278 ?_
 refine al Tryz.func279 ?_
 refine al Tryz.func280 ?_
 refine al Tryz.func281 ?_
 refine al Tryz.func282 ?_
 refine al Tryz.func283 ?_
 refine al Tryz.func284 ?_
 refine al Tryz.func285 ?_
 refine al Tryz.func286 ?_
 refine al Tryz.func287 ?_
 refine al Tryz.func291 ?_
 refine al Tryz.func292 ?_
 refine al Tryz.func293 ?_
 refine al Tryz.func294 ?_
 refine al Tryz.func295 ?_
 refine al Tryz.func296 ?_
 refine al Tryz.func297 ?_
 refine al Tryz.func299 ?_
 refine al Tryz.func312 ?_
 refine al Tryz.func313 ?_
 refine al Tryz.func314 ?_
 refine al Tryz.func315 ?_
 refine al Tryz.func316 ?_
 refine al Tryz.func317 ?_
 refine al Tryz.func319 ?_
 refine al Tryz.func320 ?_
 refine al Tryz.func321 ?_
 refine al Tryz.func322 ?_
 refine al Tryz.func333 ?_
 exact fun p h=>by cases h
theorem aaE : ∀ p∈E.fns,Tryz.prog.funcs[p.2.g]? = some p.2.fn∧p.2.fn.body.isSome=true∧(p.2.fn.name == "runtime.NumGoroutine")=false:=fun p h=>by
 have k:=List.all_eq_true.1 ab5 p h
 rw[Bool.and_eq_true,Bool.not_eq_true'] at k
 exact⟨aby p h,k.1,k.2⟩
theorem aaF:fI Tryz.prog E:=Xi (by kernel_rfl) aaE
theorem abz:(E.fns.filter fun p=>p.2.prim.isSome)=[(26,eC),(70,jw),(78,jL),(102,dI),(117,mR),(118,jd),(157,jy),(198,gY),(230,ie),(233,mT),(272,iK),(319,oh)]:=by kernel_rfl
theorem Xx:xS (gt Tryz.prog vars) Tryz.prog E:=by
 intro I f key hg hf args tab z hz
 have h:(key,I)∈E.fns.filter fun p=>p.2.prim.isSome:=List.mem_filter.2 ⟨ua hg,by show I.prim.isSome=true; rw[hf]; rfl⟩
 rw[abz] at h
 rcases ri h with he | h
 ·obtain rfl:=(er_ he).2
  have hf:=cb_ hf
  subst hf
  exact SO args tab z hz
 rcases ri h with he | h
 ·obtain rfl:=(er_ he).2
  have hf:=cb_ hf
  subst hf
  exact(PP (by unfold vars; simp) (by unfold vars; simp)) args tab z hz
 rcases ri h with he | h
 ·obtain rfl:=(er_ he).2
  have hf:=cb_ hf
  subst hf
  exact GQ args tab z hz
 rcases ri h with he | h
 ·obtain rfl:=(er_ he).2
  have hf:=cb_ hf
  subst hf
  exact Iz args tab z hz
 rcases ri h with he | h
 ·obtain rfl:=(er_ he).2
  have hf:=cb_ hf
  subst hf
  exact SQ args tab z hz
 rcases ri h with he | h
 ·obtain rfl:=(er_ he).2
  have hf:=cb_ hf
  subst hf
  exact(Ve (by unfold vars; simp)) args tab z hz
 rcases ri h with he | h
 ·obtain rfl:=(er_ he).2
  have hf:=cb_ hf
  subst hf
  exact IA args tab z hz
 rcases ri h with he | h
 ·obtain rfl:=(er_ he).2
  have hf:=cb_ hf
  subst hf
  exact PQ args tab z hz
 rcases ri h with he | h
 ·obtain rfl:=(er_ he).2
  have hf:=cb_ hf
  subst hf
  exact(Ld (by unfold vars; simp)) args tab z hz
 rcases ri h with he | h
 ·obtain rfl:=(er_ he).2
  have hf:=cb_ hf
  subst hf
  exact SS args tab z hz
 rcases ri h with he | h
 ·obtain rfl:=(er_ he).2
  have hf:=cb_ hf
  subst hf
  exact SR args tab z hz
 rcases ri h with he | h
 ·obtain rfl:=(er_ he).2
  have hf:=cb_ hf
  subst hf
  exact(Vf (by unfold vars; simp)) args tab z hz
 cases h
end Go.Proofs.YthbkdfcmjmmpgaaGreatDoor.Abs
