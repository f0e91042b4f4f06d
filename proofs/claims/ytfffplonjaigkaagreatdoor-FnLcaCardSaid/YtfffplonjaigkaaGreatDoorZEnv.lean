/- What is known of the program: its types, its functions, those that are shown otherwise. -/
import Derived.Test.YtfffplonjaigkaaGreatDoorZA3
import Derived.Test.YtfffplonjaigkaaGreatDoorZQD
import Derived.Test.YtfffplonjaigkaaGreatDoorChecked
import Derived.Test.YtfffplonjaigkaaGreatDoorZM1
set_option linter.unusedVariables false
open Option.some renaming inj→U9
open Prod.mk renaming inj→aw_
namespace Go.Proofs.YtfffplonjaigkaaGreatDoor.Abs
open Go
def vars:List eJ:=[rh "internal/bytealg.MaxLen",yR "strconv.ErrSyntax",yR "strconv.ErrRange",DU]
theorem s9 {α:Type} {a b:α} {l:List α} (h:a∈b :: l):a=b∨a∈l:=List.mem_cons.1 h
theorem Pc:(E.fns.all fun p=>p.2.fn.body.isSome && !(p.2.fn.name == "runtime.NumGoroutine"))=true:=by kernel_rfl
theorem aj {Q:Nat×am→Prop} {a:Nat×am} {l:List (Nat×am)} (h:Q a) (k : ∀ p∈l,Q p) : ∀ p∈a :: l,Q p:=fun p hp=>(s9 hp).elim (fun e=>e ▸ h) (k p)
set_option maxRecDepth 100000 in
theorem OJ : ∀ p∈E.fns,Tryz.prog.funcs[p.2.g]? = some p.2.fn:=by
 unfold E
 refine aj Tryz.func4 ?_
 refine aj Tryz.func15 ?_
 refine aj Tryz.func17 ?_
 refine aj Tryz.func19 ?_
 refine aj Tryz.func20 ?_
 refine aj Tryz.func21 ?_
 refine aj Tryz.func22 ?_
 refine aj Tryz.func23 ?_
 refine aj Tryz.func24 ?_
 refine aj Tryz.func31 ?_
 refine aj Tryz.func36 ?_
 refine aj Tryz.func42 ?_
 refine aj Tryz.func50 ?_
 refine aj Tryz.func61 ?_
 refine aj Tryz.func62 ?_
 refine aj Tryz.func63 ?_
 refine aj Tryz.func66 ?_
 refine aj Tryz.func67 ?_
 refine aj Tryz.func70 ?_
 refine aj Tryz.func71 ?_
 refine aj Tryz.func72 ?_
 refine aj Tryz.func73 ?_
 refine aj Tryz.func74 ?_
 refine aj Tryz.func80 ?_
 refine aj Tryz.func83 ?_
 refine aj Tryz.func84 ?_
 refine aj Tryz.func85 ?_
 refine aj Tryz.func86 ?_
 refine aj Tryz.func89 ?_
 refine aj Tryz.func90 ?_
 refine aj Tryz.func91 ?_
 refine aj Tryz.func94 ?_
 refine aj Tryz.func97 ?_
 refine aj Tryz.func98 ?_
 refine aj Tryz.func99 ?_
 refine aj Tryz.func100 ?_
 refine aj Tryz.func101 ?_
 refine aj Tryz.func102 ?_
 refine aj Tryz.func109 ?_
 refine aj Tryz.func116 ?_
 refine aj Tryz.func123 ?_
 refine aj Tryz.func124 ?_
 refine aj Tryz.func127 ?_
 refine aj Tryz.func130 ?_
 refine aj Tryz.func131 ?_
 refine aj Tryz.func134 ?_
 refine aj Tryz.func135 ?_
 refine aj Tryz.func136 ?_
 refine aj Tryz.func137 ?_
 refine aj Tryz.func138 ?_
 refine aj Tryz.func139 ?_
 refine aj Tryz.func140 ?_
 refine aj Tryz.func141 ?_
 refine aj Tryz.func143 ?_
 refine aj Tryz.func150 ?_
 refine aj Tryz.func151 ?_
 refine aj Tryz.func152 ?_
 refine aj Tryz.func153 ?_
 refine aj Tryz.func154 ?_
 refine aj Tryz.func155 ?_
 refine aj Tryz.func157 ?_
 refine aj Tryz.func160 ?_
 refine aj Tryz.func161 ?_
 refine aj Tryz.func164 ?_
 refine aj Tryz.func165 ?_
 refine aj Tryz.func166 ?_
 refine aj Tryz.func167 ?_
 refine aj Tryz.func178 ?_
 refine aj Tryz.func179 ?_
 refine aj Tryz.func181 ?_
 refine aj Tryz.func184 ?_
 refine aj Tryz.func187 ?_
 refine aj Tryz.func188 ?_
 refine aj Tryz.func189 ?_
 refine aj Tryz.func190 ?_
 refine aj Tryz.func191 ?_
 refine aj Tryz.func192 ?_
 refine aj Tryz.func193 ?_
 refine aj Tryz.func194 ?_
 refine aj Tryz.func195 ?_
 refine aj Tryz.func197 ?_
 refine aj Tryz.func198 ?_
 refine aj Tryz.func223 ?_
 refine aj Tryz.func224 ?_
 refine aj Tryz.func225 ?_
 refine aj Tryz.func226 ?_
 refine aj Tryz.func237 ?_
 refine aj Tryz.func238 ?_
 refine aj Tryz.func239 ?_
 refine aj Tryz.func240 ?_
 refine aj Tryz.func241 ?_
 refine aj Tryz.func242 ?_
 refine aj Tryz.func243 ?_
 refine aj Tryz.func244 ?_
 refine aj Tryz.func245 ?_
 refine aj Tryz.func246 ?_
 refine aj Tryz.func247 ?_
 refine aj Tryz.func248 ?_
 refine aj Tryz.func249 ?_
 refine aj Tryz.func250 ?_
 refine aj Tryz.func251 ?_
 refine aj Tryz.func252 ?_
 refine aj Tryz.func255 ?_
 refine aj Tryz.func275 ?_
 refine aj Tryz.func279 ?_
 refine aj Tryz.func280 ?_
 refine aj Tryz.func281 ?_
 refine aj Tryz.func282 ?_
 refine aj Tryz.func283 ?_
 refine aj Tryz.func284 ?_
 refine aj Tryz.func285 ?_
 refine aj Tryz.func286 ?_
 refine aj Tryz.func287 ?_
 refine aj Tryz.func288 ?_
 refine aj Tryz.func289 ?_
 refine aj Tryz.func290 ?_
 refine aj Tryz.func291 ?_
 refine aj Tryz.func292 ?_
 refine aj Tryz.func293 ?_
 refine aj Tryz.func294 ?_
 refine aj Tryz.func295 ?_
 refine aj Tryz.func296 ?_
 refine aj Tryz.func297 ?_
 refine aj Tryz.func321 ?_
 refine aj Tryz.func323 ?_
 refine aj Tryz.func324 ?_
 refine aj Tryz.func325 ?_
 refine aj Tryz.func326 ?_
 refine aj Tryz.func327 ?_
 refine aj Tryz.func328 ?_
 refine aj Tryz.func329 ?_
 refine aj Tryz.func330 ?_
 refine aj Tryz.func331 ?_
 refine aj Tryz.func332 ?_
 refine aj Tryz.func333 ?_
 refine aj Tryz.func334 ?_
 refine aj Tryz.func335 ?_
 refine aj Tryz.func336 ?_
 refine aj Tryz.func337 ?_
 refine aj Tryz.func338 ?_
 refine aj Tryz.func349 ?_
 refine aj Tryz.func350 ?_
 refine aj Tryz.func351 ?_
 refine aj Tryz.func352 ?_
 refine aj Tryz.func353 ?_
 refine aj Tryz.func354 ?_
 refine aj Tryz.func358 ?_
 refine aj Tryz.func359 ?_
 refine aj Tryz.func360 ?_
 refine aj Tryz.func361 ?_
 refine aj Tryz.func362 ?_
 refine aj Tryz.func363 ?_
 refine aj Tryz.func366 ?_
 refine aj Tryz.func367 ?_
 refine aj Tryz.func368 ?_
 exact fun p h=>by cases h
theorem NM : ∀ p∈E.fns,Tryz.prog.funcs[p.2.g]? = some p.2.fn∧p.2.fn.body.isSome=true∧(p.2.fn.name == "runtime.NumGoroutine")=false:=fun p h=>by
 have k:=List.all_eq_true.1 Pc p h
 rw[Bool.and_eq_true,Bool.not_eq_true'] at k
 exact⟨OJ p h,k.1,k.2⟩
theorem NN:dI Tryz.prog E:=Lo (by kernel_rfl) NM
theorem OK:(E.fns.filter fun p=>p.2.prim.isSome)=[(116,jL),(139,ef),(160,iX),(178,fF),(197,fo),(224,fG),(351,eL),(353,iZ)]:=by kernel_rfl
theorem LB:rf (dL Tryz.prog vars) Tryz.prog E:=by
 intro I f key hg hf args tab z hz
 have h:(key,I)∈E.fns.filter fun p=>p.2.prim.isSome:=List.mem_filter.2 ⟨oc hg,by show I.prim.isSome=true; rw[hf]; rfl⟩
 rw[OK] at h
 rcases s9 h with he | h
 ·obtain rfl:=(aw_ he).2
  have hf:=U9 hf
  subst hf
  exact(JN (by unfold vars; simp)) args tab z hz
 rcases s9 h with he | h
 ·obtain rfl:=(aw_ he).2
  have hf:=U9 hf
  subst hf
  exact FE args tab z hz
 rcases s9 h with he | h
 ·obtain rfl:=(aw_ he).2
  have hf:=U9 hf
  subst hf
  exact HQ args tab z hz
 rcases s9 h with he | h
 ·obtain rfl:=(aw_ he).2
  have hf:=U9 hf
  subst hf
  exact(FF (by unfold vars; simp) (by unfold vars; simp)) args tab z hz
 rcases s9 h with he | h
 ·obtain rfl:=(aw_ he).2
  have hf:=U9 hf
  subst hf
  exact(JP (by unfold vars; simp)) args tab z hz
 rcases s9 h with he | h
 ·obtain rfl:=(aw_ he).2
  have hf:=U9 hf
  subst hf
  exact AI args tab z hz
 rcases s9 h with he | h
 ·obtain rfl:=(aw_ he).2
  have hf:=U9 hf
  subst hf
  exact(Cn (by unfold vars; simp)) args tab z hz
 rcases s9 h with he | h
 ·obtain rfl:=(aw_ he).2
  have hf:=U9 hf
  subst hf
  exact HR args tab z hz
 cases h
end Go.Proofs.YtfffplonjaigkaaGreatDoor.Abs
