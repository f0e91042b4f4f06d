/- What is known of the program: its types, its functions, those that are shown otherwise. -/
import Derived.Test.YtfffplonjaigkaaGreatDoorZA3
import Derived.Test.YtfffplonjaigkaaGreatDoorZQD
import Derived.Test.YtfffplonjaigkaaGreatDoorChecked
import Derived.Test.YtfffplonjaigkaaGreatDoorZM1
set_option linter.unusedVariables false
open Option.some renaming inj→R5
open Prod.mk renaming inj→X9
namespace Go.Proofs.YtfffplonjaigkaaGreatDoor.Abs
open Go
def vars:List ef:=[pR "internal/bytealg.MaxLen",wT "strconv.ErrSyntax",wT "strconv.ErrRange",Ck]
theorem rp {α:Type} {a b:α} {l:List α} (h:a∈b :: l):a=b∨a∈l:=List.mem_cons.1 h
theorem L4:(E.fns.all fun p=>p.2.fn.body.isSome && !(p.2.fn.name == "runtime.NumGoroutine"))=true:=by kernel_rfl
theorem ah {Q:Nat×ak→Prop} {a:Nat×ak} {l:List (Nat×ak)} (h:Q a) (k : ∀ p∈l,Q p) : ∀ p∈a :: l,Q p:=fun p hp=>(rp hp).elim (fun e=>e ▸ h) (k p)
set_option maxRecDepth 100000 in
theorem LF : ∀ p∈E.fns,Tryz.prog.funcs[p.2.g]? = some p.2.fn:=by
 unfold E
 refine ah Tryz.func3 ?_
 refine ah Tryz.func14 ?_
 refine ah Tryz.func15 ?_
 refine ah Tryz.func16 ?_
 refine ah Tryz.func17 ?_
 refine ah Tryz.func18 ?_
 refine ah Tryz.func25 ?_
 refine ah Tryz.func36 ?_
 refine ah Tryz.func45 ?_
 refine ah Tryz.func46 ?_
 refine ah Tryz.func47 ?_
 refine ah Tryz.func59 ?_
 refine ah Tryz.func60 ?_
 refine ah Tryz.func61 ?_
 refine ah Tryz.func62 ?_
 refine ah Tryz.func63 ?_
 refine ah Tryz.func64 ?_
 refine ah Tryz.func65 ?_
 refine ah Tryz.func66 ?_
 refine ah Tryz.func67 ?_
 refine ah Tryz.func68 ?_
 refine ah Tryz.func69 ?_
 refine ah Tryz.func73 ?_
 refine ah Tryz.func74 ?_
 refine ah Tryz.func80 ?_
 refine ah Tryz.func85 ?_
 refine ah Tryz.func89 ?_
 refine ah Tryz.func90 ?_
 refine ah Tryz.func91 ?_
 refine ah Tryz.func94 ?_
 refine ah Tryz.func97 ?_
 refine ah Tryz.func101 ?_
 refine ah Tryz.func102 ?_
 refine ah Tryz.func103 ?_
 refine ah Tryz.func104 ?_
 refine ah Tryz.func105 ?_
 refine ah Tryz.func109 ?_
 refine ah Tryz.func113 ?_
 refine ah Tryz.func116 ?_
 refine ah Tryz.func123 ?_
 refine ah Tryz.func124 ?_
 refine ah Tryz.func125 ?_
 refine ah Tryz.func126 ?_
 refine ah Tryz.func127 ?_
 refine ah Tryz.func128 ?_
 refine ah Tryz.func129 ?_
 refine ah Tryz.func130 ?_
 refine ah Tryz.func131 ?_
 refine ah Tryz.func132 ?_
 refine ah Tryz.func133 ?_
 refine ah Tryz.func139 ?_
 refine ah Tryz.func150 ?_
 refine ah Tryz.func151 ?_
 refine ah Tryz.func152 ?_
 refine ah Tryz.func153 ?_
 refine ah Tryz.func154 ?_
 refine ah Tryz.func155 ?_
 refine ah Tryz.func157 ?_
 refine ah Tryz.func160 ?_
 refine ah Tryz.func161 ?_
 refine ah Tryz.func167 ?_
 refine ah Tryz.func168 ?_
 refine ah Tryz.func178 ?_
 refine ah Tryz.func179 ?_
 refine ah Tryz.func181 ?_
 refine ah Tryz.func182 ?_
 refine ah Tryz.func183 ?_
 refine ah Tryz.func187 ?_
 refine ah Tryz.func188 ?_
 refine ah Tryz.func189 ?_
 refine ah Tryz.func190 ?_
 refine ah Tryz.func191 ?_
 refine ah Tryz.func192 ?_
 refine ah Tryz.func193 ?_
 refine ah Tryz.func194 ?_
 refine ah Tryz.func195 ?_
 refine ah Tryz.func197 ?_
 refine ah Tryz.func198 ?_
 refine ah Tryz.func223 ?_
 refine ah Tryz.func224 ?_
 refine ah Tryz.func225 ?_
 refine ah Tryz.func237 ?_
 refine ah Tryz.func238 ?_
 refine ah Tryz.func239 ?_
 refine ah Tryz.func240 ?_
 refine ah Tryz.func241 ?_
 refine ah Tryz.func242 ?_
 refine ah Tryz.func243 ?_
 refine ah Tryz.func244 ?_
 refine ah Tryz.func245 ?_
 refine ah Tryz.func246 ?_
 refine ah Tryz.func247 ?_
 refine ah Tryz.func248 ?_
 refine ah Tryz.func249 ?_
 refine ah Tryz.func250 ?_
 refine ah Tryz.func251 ?_
 refine ah Tryz.func252 ?_
 refine ah Tryz.func255 ?_
 refine ah Tryz.func275 ?_
 refine ah Tryz.func279 ?_
 refine ah Tryz.func280 ?_
 refine ah Tryz.func281 ?_
 refine ah Tryz.func282 ?_
 refine ah Tryz.func283 ?_
 refine ah Tryz.func284 ?_
 refine ah Tryz.func285 ?_
 refine ah Tryz.func286 ?_
 refine ah Tryz.func287 ?_
 refine ah Tryz.func288 ?_
 refine ah Tryz.func289 ?_
 refine ah Tryz.func290 ?_
 refine ah Tryz.func291 ?_
 refine ah Tryz.func292 ?_
 refine ah Tryz.func293 ?_
 refine ah Tryz.func294 ?_
 refine ah Tryz.func295 ?_
 refine ah Tryz.func296 ?_
 refine ah Tryz.func297 ?_
 refine ah Tryz.func321 ?_
 refine ah Tryz.func323 ?_
 refine ah Tryz.func324 ?_
 refine ah Tryz.func325 ?_
 refine ah Tryz.func326 ?_
 refine ah Tryz.func327 ?_
 refine ah Tryz.func328 ?_
 refine ah Tryz.func329 ?_
 refine ah Tryz.func330 ?_
 refine ah Tryz.func331 ?_
 refine ah Tryz.func332 ?_
 refine ah Tryz.func333 ?_
 refine ah Tryz.func334 ?_
 refine ah Tryz.func335 ?_
 refine ah Tryz.func336 ?_
 refine ah Tryz.func337 ?_
 refine ah Tryz.func338 ?_
 refine ah Tryz.func349 ?_
 refine ah Tryz.func350 ?_
 refine ah Tryz.func351 ?_
 refine ah Tryz.func352 ?_
 refine ah Tryz.func353 ?_
 refine ah Tryz.func354 ?_
 refine ah Tryz.func358 ?_
 refine ah Tryz.func359 ?_
 refine ah Tryz.func360 ?_
 refine ah Tryz.func361 ?_
 refine ah Tryz.func362 ?_
 refine ah Tryz.func363 ?_
 refine ah Tryz.func366 ?_
 refine ah Tryz.func367 ?_
 refine ah Tryz.func368 ?_
 exact fun p h=>by cases h
theorem KZ : ∀ p∈E.fns,Tryz.prog.funcs[p.2.g]? = some p.2.fn∧p.2.fn.body.isSome=true∧(p.2.fn.name == "runtime.NumGoroutine")=false:=fun p h=>by
 have k:=List.all_eq_true.1 L4 p h
 rw[Bool.and_eq_true,Bool.not_eq_true'] at k
 exact⟨LF p h,k.1,k.2⟩
theorem K0:dq Tryz.prog E:=I7 (by kernel_rfl) KZ
theorem LG:(E.fns.filter fun p=>p.2.prim.isSome)=[(116,iR),(139,dM),(160,g5),(178,e8),(197,eM),(224,fa),(351,ej),(353,g7)]:=by kernel_rfl
theorem Ji:pO (du Tryz.prog vars) Tryz.prog E:=by
 intro I f key hg hf args tab z hz
 have h:(key,I)∈E.fns.filter fun p=>p.2.prim.isSome:=List.mem_filter.2 ⟨mP hg,by show I.prim.isSome=true; rw[hf]; rfl⟩
 rw[LG] at h
 rcases rp h with he | h
 ·obtain rfl:=(X9 he).2
  have hf:=R5 hf
  subst hf
  exact(Ht (by unfold vars; simp)) args tab z hz
 rcases rp h with he | h
 ·obtain rfl:=(X9 he).2
  have hf:=R5 hf
  subst hf
  exact DP args tab z hz
 rcases rp h with he | h
 ·obtain rfl:=(X9 he).2
  have hf:=R5 hf
  subst hf
  exact FO args tab z hz
 rcases rp h with he | h
 ·obtain rfl:=(X9 he).2
  have hf:=R5 hf
  subst hf
  exact(DQ (by unfold vars; simp) (by unfold vars; simp)) args tab z hz
 rcases rp h with he | h
 ·obtain rfl:=(X9 he).2
  have hf:=R5 hf
  subst hf
  exact(Hv (by unfold vars; simp)) args tab z hz
 rcases rp h with he | h
 ·obtain rfl:=(X9 he).2
  have hf:=R5 hf
  subst hf
  exact yu args tab z hz
 rcases rp h with he | h
 ·obtain rfl:=(X9 he).2
  have hf:=R5 hf
  subst hf
  exact(Aw (by unfold vars; simp)) args tab z hz
 rcases rp h with he | h
 ·obtain rfl:=(X9 he).2
  have hf:=R5 hf
  subst hf
  exact FP args tab z hz
 cases h
end Go.Proofs.YtfffplonjaigkaaGreatDoor.Abs
