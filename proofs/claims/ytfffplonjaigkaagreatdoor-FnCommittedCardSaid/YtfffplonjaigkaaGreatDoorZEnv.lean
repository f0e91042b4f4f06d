/- What is known of the program: its types, its functions, those that are shown otherwise. -/
import Derived.Test.YtfffplonjaigkaaGreatDoorZA3
import Derived.Test.YtfffplonjaigkaaGreatDoorZQD
import Derived.Test.YtfffplonjaigkaaGreatDoorChecked
import Derived.Test.YtfffplonjaigkaaGreatDoorZM1
import Derived.Test.YtfffplonjaigkaaGreatDoorZM2
set_option linter.unusedVariables false
open Option.some renaming inj→X0
open Prod.mk renaming inj→ax_
namespace Go.Proofs.YtfffplonjaigkaaGreatDoor.Abs
open Go
def vars:List fg:=[sZ "internal/bytealg.MaxLen",A7 "strconv.ErrSyntax",A7 "strconv.ErrRange",Gf]
theorem k6 {α:Type} {a b:α} {l:List α} (h:a∈b :: l):a=b∨a∈l:=List.mem_cons.1 h
theorem Si:(E.fns.all fun p=>p.2.fn.body.isSome && !(p.2.fn.name == "runtime.NumGoroutine"))=true:=by kernel_rfl
theorem ak {Q:Nat×ap→Prop} {a:Nat×ap} {l:List (Nat×ap)} (h:Q a) (k : ∀ p∈l,Q p) : ∀ p∈a :: l,Q p:=fun p hp=>(k6 hp).elim (fun e=>e ▸ h) (k p)
set_option maxRecDepth 100000 in
theorem RF : ∀ p∈E.fns,Tryz.prog.funcs[p.2.g]? = some p.2.fn:=by
 unfold E
 refine ak Tryz.func6 ?_
 refine ak Tryz.func19 ?_
 refine ak Tryz.func21 ?_
 refine ak Tryz.func24 ?_
 refine ak Tryz.func29 ?_
 refine ak Tryz.func30 ?_
 refine ak Tryz.func31 ?_
 refine ak Tryz.func32 ?_
 refine ak Tryz.func33 ?_
 refine ak Tryz.func34 ?_
 refine ak Tryz.func35 ?_
 refine ak Tryz.func36 ?_
 refine ak Tryz.func42 ?_
 refine ak Tryz.func50 ?_
 refine ak Tryz.func61 ?_
 refine ak Tryz.func62 ?_
 refine ak Tryz.func63 ?_
 refine ak Tryz.func66 ?_
 refine ak Tryz.func70 ?_
 refine ak Tryz.func71 ?_
 refine ak Tryz.func72 ?_
 refine ak Tryz.func73 ?_
 refine ak Tryz.func74 ?_
 refine ak Tryz.func77 ?_
 refine ak Tryz.func78 ?_
 refine ak Tryz.func79 ?_
 refine ak Tryz.func80 ?_
 refine ak Tryz.func81 ?_
 refine ak Tryz.func82 ?_
 refine ak Tryz.func83 ?_
 refine ak Tryz.func84 ?_
 refine ak Tryz.func85 ?_
 refine ak Tryz.func86 ?_
 refine ak Tryz.func87 ?_
 refine ak Tryz.func88 ?_
 refine ak Tryz.func89 ?_
 refine ak Tryz.func90 ?_
 refine ak Tryz.func91 ?_
 refine ak Tryz.func94 ?_
 refine ak Tryz.func97 ?_
 refine ak Tryz.func98 ?_
 refine ak Tryz.func99 ?_
 refine ak Tryz.func100 ?_
 refine ak Tryz.func101 ?_
 refine ak Tryz.func102 ?_
 refine ak Tryz.func109 ?_
 refine ak Tryz.func116 ?_
 refine ak Tryz.func123 ?_
 refine ak Tryz.func124 ?_
 refine ak Tryz.func127 ?_
 refine ak Tryz.func130 ?_
 refine ak Tryz.func131 ?_
 refine ak Tryz.func134 ?_
 refine ak Tryz.func135 ?_
 refine ak Tryz.func136 ?_
 refine ak Tryz.func137 ?_
 refine ak Tryz.func138 ?_
 refine ak Tryz.func139 ?_
 refine ak Tryz.func140 ?_
 refine ak Tryz.func141 ?_
 refine ak Tryz.func142 ?_
 refine ak Tryz.func143 ?_
 refine ak Tryz.func144 ?_
 refine ak Tryz.func145 ?_
 refine ak Tryz.func146 ?_
 refine ak Tryz.func147 ?_
 refine ak Tryz.func148 ?_
 refine ak Tryz.func149 ?_
 refine ak Tryz.func150 ?_
 refine ak Tryz.func151 ?_
 refine ak Tryz.func152 ?_
 refine ak Tryz.func153 ?_
 refine ak Tryz.func154 ?_
 refine ak Tryz.func155 ?_
 refine ak Tryz.func156 ?_
 refine ak Tryz.func157 ?_
 refine ak Tryz.func158 ?_
 refine ak Tryz.func159 ?_
 refine ak Tryz.func160 ?_
 refine ak Tryz.func161 ?_
 refine ak Tryz.func164 ?_
 refine ak Tryz.func165 ?_
 refine ak Tryz.func166 ?_
 refine ak Tryz.func167 ?_
 refine ak Tryz.func178 ?_
 refine ak Tryz.func179 ?_
 refine ak Tryz.func181 ?_
 refine ak Tryz.func184 ?_
 refine ak Tryz.func186 ?_
 refine ak Tryz.func187 ?_
 refine ak Tryz.func188 ?_
 refine ak Tryz.func189 ?_
 refine ak Tryz.func190 ?_
 refine ak Tryz.func191 ?_
 refine ak Tryz.func192 ?_
 refine ak Tryz.func193 ?_
 refine ak Tryz.func194 ?_
 refine ak Tryz.func195 ?_
 refine ak Tryz.func197 ?_
 refine ak Tryz.func198 ?_
 refine ak Tryz.func223 ?_
 refine ak Tryz.func224 ?_
 refine ak Tryz.func225 ?_
 refine ak Tryz.func226 ?_
 refine ak Tryz.func236 ?_
 refine ak Tryz.func237 ?_
 refine ak Tryz.func238 ?_
 refine ak Tryz.func239 ?_
 refine ak Tryz.func240 ?_
 refine ak Tryz.func241 ?_
 refine ak Tryz.func242 ?_
 refine ak Tryz.func243 ?_
 refine ak Tryz.func244 ?_
 refine ak Tryz.func245 ?_
 refine ak Tryz.func246 ?_
 refine ak Tryz.func247 ?_
 refine ak Tryz.func248 ?_
 refine ak Tryz.func249 ?_
 refine ak Tryz.func250 ?_
 refine ak Tryz.func251 ?_
 refine ak Tryz.func252 ?_
 refine ak Tryz.func255 ?_
 refine ak Tryz.func275 ?_
 refine ak Tryz.func279 ?_
 refine ak Tryz.func280 ?_
 refine ak Tryz.func281 ?_
 refine ak Tryz.func282 ?_
 refine ak Tryz.func283 ?_
 refine ak Tryz.func284 ?_
 refine ak Tryz.func285 ?_
 refine ak Tryz.func286 ?_
 refine ak Tryz.func287 ?_
 refine ak Tryz.func288 ?_
 refine ak Tryz.func289 ?_
 refine ak Tryz.func290 ?_
 refine ak Tryz.func291 ?_
 refine ak Tryz.func292 ?_
 refine ak Tryz.func293 ?_
 refine ak Tryz.func294 ?_
 refine ak Tryz.func295 ?_
 refine ak Tryz.func296 ?_
 refine ak Tryz.func297 ?_
 refine ak Tryz.func321 ?_
 refine ak Tryz.func323 ?_
 refine ak Tryz.func324 ?_
 refine ak Tryz.func325 ?_
 refine ak Tryz.func326 ?_
 refine ak Tryz.func327 ?_
 refine ak Tryz.func328 ?_
 refine ak Tryz.func329 ?_
 refine ak Tryz.func330 ?_
 refine ak Tryz.func331 ?_
 refine ak Tryz.func332 ?_
 refine ak Tryz.func333 ?_
 refine ak Tryz.func334 ?_
 refine ak Tryz.func335 ?_
 refine ak Tryz.func336 ?_
 refine ak Tryz.func337 ?_
 refine ak Tryz.func338 ?_
 refine ak Tryz.func349 ?_
 refine ak Tryz.func350 ?_
 refine ak Tryz.func351 ?_
 refine ak Tryz.func352 ?_
 refine ak Tryz.func353 ?_
 refine ak Tryz.func354 ?_
 refine ak Tryz.func358 ?_
 refine ak Tryz.func359 ?_
 refine ak Tryz.func360 ?_
 refine ak Tryz.func361 ?_
 refine ak Tryz.func362 ?_
 refine ak Tryz.func363 ?_
 refine ak Tryz.func366 ?_
 refine ak Tryz.func367 ?_
 refine ak Tryz.func368 ?_
 exact fun p h=>by cases h
theorem QF : ∀ p∈E.fns,Tryz.prog.funcs[p.2.g]? = some p.2.fn∧p.2.fn.body.isSome=true∧(p.2.fn.name == "runtime.NumGoroutine")=false:=fun p h=>by
 have k:=List.all_eq_true.1 Si p h
 rw[Bool.and_eq_true,Bool.not_eq_true'] at k
 exact⟨RF p h,k.1,k.2⟩
theorem QG:d7 Tryz.prog E:=Oa (by kernel_rfl) QF
theorem RG:(E.fns.filter fun p=>p.2.prim.isSome)=[(116,kH),(139,eJ),(144,gL),(145,gu),(146,ek),(147,du),(156,dY),(159,fF),(160,jQ),(178,gd),(197,fR),(224,ge),(351,fm),(353,jS)]:=by kernel_rfl
theorem Oo:sW (ec Tryz.prog vars) Tryz.prog E:=by
 intro I f key hg hf args tab z hz
 have h:(key,I)∈E.fns.filter fun p=>p.2.prim.isSome:=List.mem_filter.2 ⟨pv hg,by show I.prim.isSome=true; rw[hf]; rfl⟩
 rw[RG] at h
 rcases k6 h with he | h
 ·obtain rfl:=(ax_ he).2
  have hf:=X0 hf
  subst hf
  exact(Mo (by unfold vars; simp)) args tab z hz
 rcases k6 h with he | h
 ·obtain rfl:=(ax_ he).2
  have hf:=X0 hf
  subst hf
  exact H1 args tab z hz
 rcases k6 h with he | h
 ·obtain rfl:=(ax_ he).2
  have hf:=X0 hf
  subst hf
  exact Mr args tab z hz
 rcases k6 h with he | h
 ·obtain rfl:=(ax_ he).2
  have hf:=X0 hf
  subst hf
  exact Mq args tab z hz
 rcases k6 h with he | h
 ·obtain rfl:=(ax_ he).2
  have hf:=X0 hf
  subst hf
  exact Ms args tab z hz
 rcases k6 h with he | h
 ·obtain rfl:=(ax_ he).2
  have hf:=X0 hf
  subst hf
  exact Kr args tab z hz
 rcases k6 h with he | h
 ·obtain rfl:=(ax_ he).2
  have hf:=X0 hf
  subst hf
  exact Om args tab z hz
 rcases k6 h with he | h
 ·obtain rfl:=(ax_ he).2
  have hf:=X0 hf
  subst hf
  exact Mu args tab z hz
 rcases k6 h with he | h
 ·obtain rfl:=(ax_ he).2
  have hf:=X0 hf
  subst hf
  exact Ku args tab z hz
 rcases k6 h with he | h
 ·obtain rfl:=(ax_ he).2
  have hf:=X0 hf
  subst hf
  exact(H3 (by unfold vars; simp) (by unfold vars; simp)) args tab z hz
 rcases k6 h with he | h
 ·obtain rfl:=(ax_ he).2
  have hf:=X0 hf
  subst hf
  exact(Mv (by unfold vars; simp)) args tab z hz
 rcases k6 h with he | h
 ·obtain rfl:=(ax_ he).2
  have hf:=X0 hf
  subst hf
  exact CI args tab z hz
 rcases k6 h with he | h
 ·obtain rfl:=(ax_ he).2
  have hf:=X0 hf
  subst hf
  exact(EI (by unfold vars; simp)) args tab z hz
 rcases k6 h with he | h
 ·obtain rfl:=(ax_ he).2
  have hf:=X0 hf
  subst hf
  exact Kv args tab z hz
 cases h
end Go.Proofs.YtfffplonjaigkaaGreatDoor.Abs
