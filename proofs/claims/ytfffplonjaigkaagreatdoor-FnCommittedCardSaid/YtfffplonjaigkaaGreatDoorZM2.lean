/- strconv.ParseInt at base 10, of 64 bits: the library's contract, laid at this program. -/
import Derived.Shelf.Strconv.ErrVarParseInt
import Derived.Test.YtfffplonjaigkaaGreatDoorZA3
import Derived.Test.YtfffplonjaigkaaGreatDoorZQD
import Derived.Shelf.Strconv.Itoa4
import Derived.Lib.AppendIntMem
import Derived.Shelf.Strings.SlTrimAscii
import Derived.Shelf.Strings.Replace
import Derived.Shelf.LaysM
import Derived.Shelf.Strings.OnBuilder
set_option linter.unusedVariables false
set_option linter.unusedSimpArgs false
set_option linter.unusedSectionVars false
open Go.Lib renaming parseIntB→as_
open _root_ renaming ByteArray→S0,congrArg→T4
namespace Go.Proofs
open Go.Shelf Go.RowKit Go.Lib
def Tryz.layParseInt_ren:Go.Shelf.Ren:=⟨fun | 174=>178 | 247=>221 | 245=>222 | 287=>270 | 279=>271 | 280=>272 | 281=>273 | 282=>274 | 321=>316 | 322=>317 | 316=>318 | 171=>320 | 205=>319 | 243=>348 | 246=>254 | 283=>298 | 284=>299 | 285=>300 | 286=>301 | 129=>217 | 317=>339 | 318=>340 | 319=>341 | 320=>342 | 337=>355 | 338=>356 | n=>n,fun | 9=>9 | 3=>3 | 2=>2 | 75=>187 | 85=>206 | 4=>4 | 167=>281 | 5=>5 | 53=>243 | 175=>282 | 46=>203 | 168=>284 | 37=>35 | 0=>0 | 210=>318 | 21=>21 | 127=>221 | 145=>338 | 143=>336 | 171=>301 | 173=>303 | 212=>327 | 51=>241 | 20=>20 | 213=>328 | 232=>346 | 233=>347 | 80=>170 | n=>n,fun | 15=>1 | 16=>2 | 17=>3 | 18=>6 | 19=>7 | n=>n⟩
theorem Tryz.layParseInt:Go.Proofs.LaysC.n174 Tryz.prog Tryz.layParseInt_ren:={
 mixed:=by kernel_rfl
 f129:=Tryz.func217.trans (T4 some (by kernel_rfl))
 f171:=Tryz.func320.trans (T4 some (by kernel_rfl))
 f174:=Tryz.func178.trans (T4 some (by kernel_rfl))
 f205:=Tryz.func319.trans (T4 some (by kernel_rfl))
 f243:=Tryz.func348.trans (T4 some (by kernel_rfl))
 f245:=Tryz.func222.trans (T4 some (by kernel_rfl))
 f246:=Tryz.func254.trans (T4 some (by kernel_rfl))
 f247:=Tryz.func221.trans (T4 some (by kernel_rfl))
 f279:=Tryz.func271.trans (T4 some (by kernel_rfl))
 f280:=Tryz.func272.trans (T4 some (by kernel_rfl))
 f281:=Tryz.func273.trans (T4 some (by kernel_rfl))
 f282:=Tryz.func274.trans (T4 some (by kernel_rfl))
 f283:=Tryz.func298.trans (T4 some (by kernel_rfl))
 f284:=Tryz.func299.trans (T4 some (by kernel_rfl))
 f285:=Tryz.func300.trans (T4 some (by kernel_rfl))
 f286:=Tryz.func301.trans (T4 some (by kernel_rfl))
 f287:=Tryz.func270.trans (T4 some (by kernel_rfl))
 f316:=Tryz.func318.trans (T4 some (by kernel_rfl))
 f317:=Tryz.func339.trans (T4 some (by kernel_rfl))
 f318:=Tryz.func340.trans (T4 some (by kernel_rfl))
 f319:=Tryz.func341.trans (T4 some (by kernel_rfl))
 f320:=Tryz.func342.trans (T4 some (by kernel_rfl))
 f321:=Tryz.func316.trans (T4 some (by kernel_rfl))
 f322:=Tryz.func317.trans (T4 some (by kernel_rfl))
 f337:=Tryz.func355.trans (T4 some (by kernel_rfl))
 f338:=Tryz.func356.trans (T4 some (by kernel_rfl))
 t0:=Tryz.underlying0
 a0:=Tryz.isAgg0
 z0:=Tryz.sizeOf0
 v0:=Tryz.zeroValue0
 t2:=Tryz.underlying2
 a2:=Tryz.isAgg2
 z2:=Tryz.sizeOf2
 v2:=Tryz.zeroValue2
 t3:=Tryz.underlying3
 a3:=Tryz.isAgg3
 z3:=Tryz.sizeOf3
 v3:=Tryz.zeroValue3
 t4:=Tryz.underlying4
 a4:=Tryz.isAgg4
 z4:=Tryz.sizeOf4
 v4:=Tryz.zeroValue4
 t5:=Tryz.underlying5
 a5:=Tryz.isAgg5
 z5:=Tryz.sizeOf5
 v5:=Tryz.zeroValue5
 t9:=Tryz.underlying9
 a9:=Tryz.isAgg9
 z9:=Tryz.sizeOf9
 v9:=Tryz.zeroValue9
 t20:=Tryz.underlying20
 a20:=Tryz.isAgg20
 z20:=Tryz.sizeOf20
 v20:=Tryz.zeroValue20
 t21:=Tryz.underlying21
 a21:=Tryz.isAgg21
 z21:=Tryz.sizeOf21
 v21:=Tryz.zeroValue21
 t37:=Tryz.underlying35
 a37:=Tryz.isAgg35
 z37:=Tryz.sizeOf35
 v37:=Tryz.zeroValue35
 t46:=Tryz.underlying203
 a46:=Tryz.isAgg203
 z46:=Tryz.sizeOf203
 v46:=Tryz.zeroValue203
 t51:=Tryz.underlying241
 a51:=Tryz.isAgg241
 z51:=Tryz.sizeOf241
 v51:=Tryz.zeroValue241
 t53:=Tryz.underlying243
 a53:=Tryz.isAgg243
 z53:=Tryz.sizeOf243
 v53:=Tryz.zeroValue243
 t75:=Tryz.underlying187
 a75:=Tryz.isAgg187
 z75:=Tryz.sizeOf187
 v75:=Tryz.zeroValue187
 t85:=Tryz.underlying206
 a85:=Tryz.isAgg206
 z85:=Tryz.sizeOf206
 v85:=Tryz.zeroValue206
 t127:=Tryz.underlying221
 a127:=Tryz.isAgg221
 z127:=Tryz.sizeOf221
 v127:=Tryz.zeroValue221
 t143:=Tryz.underlying336
 a143:=Tryz.isAgg336
 z143:=Tryz.sizeOf336
 v143:=Tryz.zeroValue336
 t145:=Tryz.underlying338
 a145:=Tryz.isAgg338
 z145:=Tryz.sizeOf338
 v145:=Tryz.zeroValue338
 t167:=Tryz.underlying281
 a167:=Tryz.isAgg281
 z167:=Tryz.sizeOf281
 v167:=Tryz.zeroValue281
 t168:=Tryz.underlying284
 a168:=Tryz.isAgg284
 z168:=Tryz.sizeOf284
 v168:=Tryz.zeroValue284
 t171:=Tryz.underlying301
 a171:=Tryz.isAgg301
 z171:=Tryz.sizeOf301
 v171:=Tryz.zeroValue301
 t173:=Tryz.underlying303
 a173:=Tryz.isAgg303
 z173:=Tryz.sizeOf303
 v173:=Tryz.zeroValue303
 t175:=Tryz.underlying282
 a175:=Tryz.isAgg282
 z175:=Tryz.sizeOf282
 v175:=Tryz.zeroValue282
 t210:=Tryz.underlying318
 a210:=Tryz.isAgg318
 z210:=Tryz.sizeOf318
 v210:=Tryz.zeroValue318
 t212:=Tryz.underlying327
 a212:=Tryz.isAgg327
 z212:=Tryz.sizeOf327
 v212:=Tryz.zeroValue327
 t213:=Tryz.underlying328
 a213:=Tryz.isAgg328
 z213:=Tryz.sizeOf328
 t232:=Tryz.underlying346
 a232:=Tryz.isAgg346
 z232:=Tryz.sizeOf346
 v232:=Tryz.zeroValue346
 t233:=Tryz.underlying347
 a233:=Tryz.isAgg347
 z233:=Tryz.sizeOf347
 v233:=Tryz.zeroValue347
 g15:=by kernel_rfl
 g16:=by kernel_rfl
 g17:=by kernel_rfl
 g18:=by kernel_rfl
 g19:=by kernel_rfl
 t80:=Tryz.underlying170
 a80:=Tryz.isAgg170
 z80:=Tryz.sizeOf170
 v80:=Tryz.zeroValue170
 i0:=by kernel_rfl
 i2:=by kernel_rfl
 i3:=by kernel_rfl
 i4:=by kernel_rfl
 i5:=by kernel_rfl
 i9:=by kernel_rfl
 i20:=by kernel_rfl
 i21:=by kernel_rfl
 i37:=by kernel_rfl
 i46:=by kernel_rfl
 i51:=by kernel_rfl
 i53:=by kernel_rfl
 i75:=by kernel_rfl
 i80:=by kernel_rfl
 i85:=by kernel_rfl
 i127:=by kernel_rfl
 i143:=by kernel_rfl
 i145:=by kernel_rfl
 i167:=by kernel_rfl
 i168:=by kernel_rfl
 i171:=by kernel_rfl
 i173:=by kernel_rfl
 i175:=by kernel_rfl
 i210:=by kernel_rfl
 i212:=by kernel_rfl
 i232:=by kernel_rfl
 i233:=by kernel_rfl
 m15:=by kernel_rfl
 m16:=by kernel_rfl
 m17:=by kernel_rfl
 m18:=by kernel_rfl
 m19:=by kernel_rfl
 c0:=by kernel_rfl
 c2:=by kernel_rfl
 c3:=by kernel_rfl
 c4:=by kernel_rfl
 c5:=by kernel_rfl
 c9:=by kernel_rfl
 c20:=by kernel_rfl
 c21:=by kernel_rfl
 c37:=by kernel_rfl
 c46:=by kernel_rfl
 c51:=by kernel_rfl
 c53:=by kernel_rfl
 c75:=by kernel_rfl
 c80:=by kernel_rfl
 c85:=by kernel_rfl
 c127:=by kernel_rfl
 c143:=by kernel_rfl
 c145:=by kernel_rfl
 c167:=by kernel_rfl
 c168:=by kernel_rfl
 c171:=by kernel_rfl
 c173:=by kernel_rfl
 c175:=by kernel_rfl
 c210:=by kernel_rfl
 c212:=by kernel_rfl
 c213:=by kernel_rfl
 c232:=by kernel_rfl
 c233:=by kernel_rfl}
end Go.Proofs
namespace Go.Proofs.YtfffplonjaigkaaGreatDoor.Abs
open Go Go.Shelf Go.RowKit Go.Lib
theorem H3 {l:List fg} (hm1:A7 "strconv.ErrSyntax" ∈ l) (hm2:A7 "strconv.ErrRange" ∈ l) : ∀(args:List SV) (tab:aB) (z:(Sh.pair (.val (.int .i64)) (.pair (.val .err) .unit)).den×Sh.unit.den),lX args tab=some z→cN (ec Tryz.prog l) Tryz.prog gd args tab z:=by
 intro args tab z hz
 unfold lX at hz
 split at hz
 ·rename_i s p q
  split at hz
  ·rename_i h
   cases hz
   refine ii (sh:=Sh.pair (.val (.int .i64)) (.pair (.val .err) .unit)) (fun _=>rfl) ?_ (fun _ _ h=>h.none)
   intro w Pr γ us hG hPr hu
   cases hu with
   | cons a k =>
    cases k with
    | cons b k =>
     cases k with
     | cons c k =>
      cases k
      obtain rfl:=dt a
      obtain rfl:=dd b
      obtain rfl:=dd c
      obtain⟨h,hb,hq⟩:=h
      rw[show p=(10:Int) from hb,show q=(64:Int) from hq]
      by_cases hok : ∃ v,as_ 64 s.data.toList = .ok v
      ·obtain⟨v,hv⟩:=hok
       refine(Any.strconv_ParseInt_10_at64_ok Tryz.layParseInt s (by omega) v hv w).mono ?_
       rintro e w' ⟨rfl,hw⟩
       have hp:b7 s.data.toList=(v,true):=by unfold b7; rw[hv]
       refine⟨[_,_],rfl,⟨[_],_,rfl,(by rw[hp]; rfl),[_],_,rfl,(by rw[hp]; exact .inl ⟨rfl,rfl⟩),rfl⟩,?_⟩
       rcases hw with rfl | ⟨t,rfl⟩
       ·exact Below.refl _ _
       ·exact Lib.bytesWorld_below _ _ _
      ·cases hq:as_ 64 s.data.toList with
       | ok v=>exact absurd ⟨v,hq⟩ hok
       | range =>
        obtain⟨⟨a',h1,tp,p,rfl⟩,_⟩:=hG _ hm2
        refine(Any.strconv_ParseInt_10_at64_range_var Tryz.layParseInt s h hq tp p w h1).mono ?_
        rintro e w' ⟨N,rfl,_,_,hB⟩
        have hp:b7 s.data.toList=(Lib.intSat 64 s.data.toList,false):=by unfold b7; rw[hq]
        exact⟨[_,_],rfl,⟨[_],_,rfl,(by rw[hp]; rfl),[_],_,rfl,(by rw[hp]; exact .inr ⟨rfl,_,_,rfl⟩),rfl⟩,hB⟩
       | _ =>
        obtain⟨⟨a',h1,tp,p,rfl⟩,_⟩:=hG _ hm1
        refine(Any.strconv_ParseInt_10_at64_syntax_var Tryz.layParseInt s h hq tp p w h1).mono ?_
        rintro e w' ⟨N,rfl,_,_,hB⟩
        have hp:b7 s.data.toList=(0,false):=by unfold b7; rw[hq]
        exact⟨[_,_],rfl,⟨[_],_,rfl,(by rw[hp]; rfl),[_],_,rfl,(by rw[hp]; exact .inr ⟨rfl,_,_,rfl⟩),rfl⟩,hB⟩
  ·cases hz
 ·cases hz
end Go.Proofs.YtfffplonjaigkaaGreatDoor.Abs
namespace Go.Proofs
open Go.Shelf Go.RowKit Go.Lib
def Tryz.layFmt_ren:Go.Shelf.Ren:=⟨fun | 173=>197 | 246=>254 | 283=>298 | 284=>299 | 285=>300 | 286=>301 | 129=>217 | 317=>339 | 318=>340 | 319=>341 | 320=>342 | 337=>355 | 338=>356 | n=>n,fun | 2=>2 | 3=>3 | 9=>9 | 4=>4 | 171=>301 | 0=>0 | 53=>243 | 37=>35 | 5=>5 | 173=>303 | 212=>327 | 51=>241 | 20=>20 | 213=>328 | 46=>203 | 232=>346 | 233=>347 | n=>n,fun | 17=>3 | 18=>6 | 19=>7 | n=>n⟩
theorem Tryz.layFmt:Go.Proofs.LaysM.n173 Tryz.prog Tryz.layFmt_ren:={
 mixed:=by kernel_rfl
 f129:=Tryz.func217.trans (T4 some (by kernel_rfl))
 f173:=Tryz.func197.trans (T4 some (by kernel_rfl))
 f246:=Tryz.func254.trans (T4 some (by kernel_rfl))
 f283:=Tryz.func298.trans (T4 some (by kernel_rfl))
 f284:=Tryz.func299.trans (T4 some (by kernel_rfl))
 f285:=Tryz.func300.trans (T4 some (by kernel_rfl))
 f286:=Tryz.func301.trans (T4 some (by kernel_rfl))
 f317:=Tryz.func339.trans (T4 some (by kernel_rfl))
 f318:=Tryz.func340.trans (T4 some (by kernel_rfl))
 f319:=Tryz.func341.trans (T4 some (by kernel_rfl))
 f320:=Tryz.func342.trans (T4 some (by kernel_rfl))
 f337:=Tryz.func355.trans (T4 some (by kernel_rfl))
 f338:=Tryz.func356.trans (T4 some (by kernel_rfl))
 t0:=Tryz.underlying0
 a0:=Tryz.isAgg0
 z0:=Tryz.sizeOf0
 v0:=Tryz.zeroValue0
 t2:=Tryz.underlying2
 a2:=Tryz.isAgg2
 z2:=Tryz.sizeOf2
 v2:=Tryz.zeroValue2
 t3:=Tryz.underlying3
 a3:=Tryz.isAgg3
 z3:=Tryz.sizeOf3
 v3:=Tryz.zeroValue3
 t4:=Tryz.underlying4
 a4:=Tryz.isAgg4
 z4:=Tryz.sizeOf4
 v4:=Tryz.zeroValue4
 t5:=Tryz.underlying5
 a5:=Tryz.isAgg5
 z5:=Tryz.sizeOf5
 v5:=Tryz.zeroValue5
 t9:=Tryz.underlying9
 a9:=Tryz.isAgg9
 z9:=Tryz.sizeOf9
 v9:=Tryz.zeroValue9
 t20:=Tryz.underlying20
 a20:=Tryz.isAgg20
 z20:=Tryz.sizeOf20
 v20:=Tryz.zeroValue20
 t37:=Tryz.underlying35
 a37:=Tryz.isAgg35
 z37:=Tryz.sizeOf35
 v37:=Tryz.zeroValue35
 t46:=Tryz.underlying203
 a46:=Tryz.isAgg203
 z46:=Tryz.sizeOf203
 v46:=Tryz.zeroValue203
 t51:=Tryz.underlying241
 a51:=Tryz.isAgg241
 z51:=Tryz.sizeOf241
 v51:=Tryz.zeroValue241
 t53:=Tryz.underlying243
 a53:=Tryz.isAgg243
 z53:=Tryz.sizeOf243
 v53:=Tryz.zeroValue243
 t171:=Tryz.underlying301
 a171:=Tryz.isAgg301
 z171:=Tryz.sizeOf301
 v171:=Tryz.zeroValue301
 t173:=Tryz.underlying303
 a173:=Tryz.isAgg303
 z173:=Tryz.sizeOf303
 v173:=Tryz.zeroValue303
 t212:=Tryz.underlying327
 a212:=Tryz.isAgg327
 z212:=Tryz.sizeOf327
 v212:=Tryz.zeroValue327
 t213:=Tryz.underlying328
 a213:=Tryz.isAgg328
 z213:=Tryz.sizeOf328
 t232:=Tryz.underlying346
 a232:=Tryz.isAgg346
 z232:=Tryz.sizeOf346
 v232:=Tryz.zeroValue346
 t233:=Tryz.underlying347
 a233:=Tryz.isAgg347
 z233:=Tryz.sizeOf347
 v233:=Tryz.zeroValue347
 g17:=by kernel_rfl
 g18:=by kernel_rfl
 g19:=by kernel_rfl
 i0:=by kernel_rfl
 i2:=by kernel_rfl
 i3:=by kernel_rfl
 i4:=by kernel_rfl
 i5:=by kernel_rfl
 i9:=by kernel_rfl
 i20:=by kernel_rfl
 i37:=by kernel_rfl
 i46:=by kernel_rfl
 i51:=by kernel_rfl
 i53:=by kernel_rfl
 i171:=by kernel_rfl
 i173:=by kernel_rfl
 i212:=by kernel_rfl
 i232:=by kernel_rfl
 i233:=by kernel_rfl
 m17:=by kernel_rfl
 m18:=by kernel_rfl
 m19:=by kernel_rfl}
end Go.Proofs
namespace Go.Proofs.YtfffplonjaigkaaGreatDoor.Abs
open Go Go.Shelf Go.RowKit Go.Lib
def Gf:fg:=("internal/strconv.uint64pow10",fun a=>a=(Lib.pow10Tab.map fun z=>Value.int .u64 z).toArray)
theorem Mv {l:List fg} (hm:Gf∈l) : ∀(args:List SV) (tab:aB) (z:(Sh.pair (.val .str) .unit).den×Sh.unit.den),yg args tab=some z→cN (ec Tryz.prog l) Tryz.prog fR args tab z:=by
 intro args tab z hz
 unfold yg at hz
 split at hz
 ·rename_i n b
  split at hz
  ·rename_i h
   obtain⟨hb,h0,h1⟩:=h
   cases hz
   refine ii (sh := .pair (.val .str) .unit) (fun _=>rfl) ?_ (fun _ _ h=>h.none)
   intro w Pr γ us hG _ hu
   cases hu with
   | cons a k =>
    cases k with
    | cons c k =>
     cases k
     obtain rfl:=dd a
     obtain rfl:=dd c
     rw[show b=(10:Int) from hb]
     refine(Any.strconv_FormatInt_10 Tryz.layFmt n h0 h1 w (by obtain⟨⟨a,h1,h2⟩,_⟩:=hG Gf hm; rw[show a=_ from h2] at h1; exact h1)).mono ?_
     rintro e w' ⟨rfl,q,os,rfl⟩
     exact⟨[_],rfl,⟨[_],[],rfl,rfl,rfl⟩,below_grow _ w (Nat.le_refl _) q os⟩
  ·cases hz
 ·cases hz
end Go.Proofs.YtfffplonjaigkaaGreatDoor.Abs
namespace Go.Proofs
open Go.Shelf Go.RowKit Go.Lib
def Tryz.layTrimLeft_ren:Go.Shelf.Ren:=⟨fun | 161=>224 | 231=>199 | 227=>201 | 233=>202 | 235=>204 | 228=>256 | 197=>257 | 151=>258 | 260=>302 | 152=>303 | 137=>343 | 119=>344 | 224=>268 | 225=>267 | 217=>266 | 266=>314 | n=>n,fun | 9=>9 | 4=>4 | 3=>3 | 5=>5 | 117=>225 | 116=>224 | 0=>0 | 124=>228 | 105=>272 | 21=>21 | 119=>329 | 46=>203 | 139=>332 | 138=>331 | n=>n,fun | 3=>4 | 4=>5 | n=>n⟩
theorem Tryz.layTrimLeft:Go.Proofs.Lays.n161 Tryz.prog Tryz.layTrimLeft_ren:={
 mixed:=by kernel_rfl
 f119:=Tryz.func344.trans (T4 some (by kernel_rfl))
 f137:=Tryz.func343.trans (T4 some (by kernel_rfl))
 f151:=Tryz.func258.trans (T4 some (by kernel_rfl))
 f152:=Tryz.func303.trans (T4 some (by kernel_rfl))
 f161:=Tryz.func224.trans (T4 some (by kernel_rfl))
 f197:=Tryz.func257.trans (T4 some (by kernel_rfl))
 f217:=Tryz.func266.trans (T4 some (by kernel_rfl))
 f224:=Tryz.func268.trans (T4 some (by kernel_rfl))
 f225:=Tryz.func267.trans (T4 some (by kernel_rfl))
 f227:=Tryz.func201.trans (T4 some (by kernel_rfl))
 f228:=Tryz.func256.trans (T4 some (by kernel_rfl))
 f231:=Tryz.func199.trans (T4 some (by kernel_rfl))
 f233:=Tryz.func202.trans (T4 some (by kernel_rfl))
 f235:=Tryz.func204.trans (T4 some (by kernel_rfl))
 f260:=Tryz.func302.trans (T4 some (by kernel_rfl))
 f266:=Tryz.func314.trans (T4 some (by kernel_rfl))
 t0:=Tryz.underlying0
 a0:=Tryz.isAgg0
 z0:=Tryz.sizeOf0
 v0:=Tryz.zeroValue0
 t3:=Tryz.underlying3
 a3:=Tryz.isAgg3
 z3:=Tryz.sizeOf3
 v3:=Tryz.zeroValue3
 t4:=Tryz.underlying4
 a4:=Tryz.isAgg4
 z4:=Tryz.sizeOf4
 v4:=Tryz.zeroValue4
 t5:=Tryz.underlying5
 a5:=Tryz.isAgg5
 z5:=Tryz.sizeOf5
 v5:=Tryz.zeroValue5
 t9:=Tryz.underlying9
 a9:=Tryz.isAgg9
 z9:=Tryz.sizeOf9
 v9:=Tryz.zeroValue9
 t21:=Tryz.underlying21
 a21:=Tryz.isAgg21
 z21:=Tryz.sizeOf21
 v21:=Tryz.zeroValue21
 t46:=Tryz.underlying203
 a46:=Tryz.isAgg203
 z46:=Tryz.sizeOf203
 v46:=Tryz.zeroValue203
 t105:=Tryz.underlying272
 a105:=Tryz.isAgg272
 z105:=Tryz.sizeOf272
 v105:=Tryz.zeroValue272
 t116:=Tryz.underlying224
 a116:=Tryz.isAgg224
 z116:=Tryz.sizeOf224
 t117:=Tryz.underlying225
 a117:=Tryz.isAgg225
 z117:=Tryz.sizeOf225
 v117:=Tryz.zeroValue225
 t119:=Tryz.underlying329
 a119:=Tryz.isAgg329
 z119:=Tryz.sizeOf329
 t124:=Tryz.underlying228
 a124:=Tryz.isAgg228
 z124:=Tryz.sizeOf228
 v124:=Tryz.zeroValue228
 t138:=Tryz.underlying331
 a138:=Tryz.isAgg331
 z138:=Tryz.sizeOf331
 v138:=Tryz.zeroValue331
 t139:=Tryz.underlying332
 a139:=Tryz.isAgg332
 z139:=Tryz.sizeOf332
 v139:=Tryz.zeroValue332
 g3:=by kernel_rfl
 g4:=by kernel_rfl}
end Go.Proofs
namespace Go.Proofs.YtfffplonjaigkaaGreatDoor.Abs
open Go Go.Shelf Go.RowKit Go.Lib
theorem CI {l:List fg} : ∀(args:List SV) (tab:aB) (z:(Sh.pair (.val .str) .unit).den×Sh.unit.den),lW args tab=some z→cN (ec Tryz.prog l) Tryz.prog ge args tab z:=by
 intro args tab z hz
 unfold lW at hz
 split at hz
 ·rename_i s c
  split at hz
  ·rename_i h
   cases hz
   refine ii (sh := .pair (.val .str) .unit) (fun _=>rfl) ?_ (fun _ _ h=>h.none)
   intro w Pr γ us hG _ hu
   cases hu with
   | cons a k =>
    cases k with
    | cons b k =>
     cases k
     obtain rfl:=dt a
     obtain rfl:=dt b
     obtain⟨h1,h2⟩:=FY h
     refine(Any.strings_TrimLeft_laid Tryz.layTrimLeft (by kernel_rfl) s c w h1 h2).mono ?_
     rintro e w' ⟨rfl,hB⟩
     exact⟨[_],rfl,⟨[_],[],rfl,rfl,rfl⟩,hB⟩
  ·cases hz
 ·cases hz
end Go.Proofs.YtfffplonjaigkaaGreatDoor.Abs
namespace Go.Proofs
open Go.Shelf Go.RowKit Go.Lib
def Tryz.layReplace_ren:Go.Shelf.Ren:=⟨fun | 155=>351 | 154=>364 | 138=>114 | 165=>365 | 143=>175 | 166=>156 | 197=>257 | 169=>159 | 195=>173 | 218=>174 | 240=>196 | 241=>369 | 219=>219 | 260=>302 | 276=>253 | 277=>370 | 217=>266 | 225=>267 | 224=>268 | 267=>269 | 266=>314 | 314=>315 | n=>n,fun | 9=>9 | 3=>3 | 4=>4 | 72=>185 | 0=>0 | 76=>188 | 105=>272 | 21=>21 | 5=>5 | 70=>183 | 20=>20 | 37=>35 | 75=>187 | 127=>221 | 164=>269 | 46=>203 | 119=>329 | 139=>332 | 138=>331 | 146=>314 | 51=>241 | 80=>170 | n=>n,fun | 1=>0 | 3=>4 | 4=>5 | n=>n⟩
theorem Tryz.layReplace:Go.Proofs.LaysM.n155 Tryz.prog Tryz.layReplace_ren:={
 mixed:=by kernel_rfl
 f138:=Tryz.func114.trans (T4 some (by kernel_rfl))
 f143:=Tryz.func175.trans (T4 some (by kernel_rfl))
 f154:=Tryz.func364.trans (T4 some (by kernel_rfl))
 f155:=Tryz.func351.trans (T4 some (by kernel_rfl))
 f165:=Tryz.func365.trans (T4 some (by kernel_rfl))
 f166:=Tryz.func156.trans (T4 some (by kernel_rfl))
 f169:=Tryz.func159.trans (T4 some (by kernel_rfl))
 f195:=Tryz.func173.trans (T4 some (by kernel_rfl))
 f197:=Tryz.func257.trans (T4 some (by kernel_rfl))
 f217:=Tryz.func266.trans (T4 some (by kernel_rfl))
 f218:=Tryz.func174.trans (T4 some (by kernel_rfl))
 f219:=Tryz.func219.trans (T4 some (by kernel_rfl))
 f224:=Tryz.func268.trans (T4 some (by kernel_rfl))
 f225:=Tryz.func267.trans (T4 some (by kernel_rfl))
 f240:=Tryz.func196.trans (T4 some (by kernel_rfl))
 f241:=Tryz.func369.trans (T4 some (by kernel_rfl))
 f260:=Tryz.func302.trans (T4 some (by kernel_rfl))
 f266:=Tryz.func314.trans (T4 some (by kernel_rfl))
 f267:=Tryz.func269.trans (T4 some (by kernel_rfl))
 f276:=Tryz.func253.trans (T4 some (by kernel_rfl))
 f277:=Tryz.func370.trans (T4 some (by kernel_rfl))
 f314:=Tryz.func315.trans (T4 some (by kernel_rfl))
 t0:=Tryz.underlying0
 a0:=Tryz.isAgg0
 z0:=Tryz.sizeOf0
 v0:=Tryz.zeroValue0
 t3:=Tryz.underlying3
 a3:=Tryz.isAgg3
 z3:=Tryz.sizeOf3
 v3:=Tryz.zeroValue3
 t4:=Tryz.underlying4
 a4:=Tryz.isAgg4
 z4:=Tryz.sizeOf4
 v4:=Tryz.zeroValue4
 t5:=Tryz.underlying5
 a5:=Tryz.isAgg5
 z5:=Tryz.sizeOf5
 v5:=Tryz.zeroValue5
 t9:=Tryz.underlying9
 a9:=Tryz.isAgg9
 z9:=Tryz.sizeOf9
 v9:=Tryz.zeroValue9
 t20:=Tryz.underlying20
 a20:=Tryz.isAgg20
 z20:=Tryz.sizeOf20
 v20:=Tryz.zeroValue20
 t21:=Tryz.underlying21
 a21:=Tryz.isAgg21
 z21:=Tryz.sizeOf21
 v21:=Tryz.zeroValue21
 t37:=Tryz.underlying35
 a37:=Tryz.isAgg35
 z37:=Tryz.sizeOf35
 v37:=Tryz.zeroValue35
 t46:=Tryz.underlying203
 a46:=Tryz.isAgg203
 z46:=Tryz.sizeOf203
 v46:=Tryz.zeroValue203
 t51:=Tryz.underlying241
 a51:=Tryz.isAgg241
 z51:=Tryz.sizeOf241
 v51:=Tryz.zeroValue241
 t70:=Tryz.underlying183
 a70:=Tryz.isAgg183
 z70:=Tryz.sizeOf183
 v70:=Tryz.zeroValue183
 t72:=Tryz.underlying185
 a72:=Tryz.isAgg185
 z72:=Tryz.sizeOf185
 v72:=Tryz.zeroValue185
 t75:=Tryz.underlying187
 a75:=Tryz.isAgg187
 z75:=Tryz.sizeOf187
 v75:=Tryz.zeroValue187
 t76:=Tryz.underlying188
 a76:=Tryz.isAgg188
 z76:=Tryz.sizeOf188
 v76:=Tryz.zeroValue188
 t105:=Tryz.underlying272
 a105:=Tryz.isAgg272
 z105:=Tryz.sizeOf272
 v105:=Tryz.zeroValue272
 t119:=Tryz.underlying329
 a119:=Tryz.isAgg329
 z119:=Tryz.sizeOf329
 t127:=Tryz.underlying221
 a127:=Tryz.isAgg221
 z127:=Tryz.sizeOf221
 v127:=Tryz.zeroValue221
 t138:=Tryz.underlying331
 a138:=Tryz.isAgg331
 z138:=Tryz.sizeOf331
 v138:=Tryz.zeroValue331
 t139:=Tryz.underlying332
 a139:=Tryz.isAgg332
 z139:=Tryz.sizeOf332
 v139:=Tryz.zeroValue332
 t146:=Tryz.underlying314
 a146:=Tryz.isAgg314
 z146:=Tryz.sizeOf314
 v146:=Tryz.zeroValue314
 t164:=Tryz.underlying269
 a164:=Tryz.isAgg269
 z164:=Tryz.sizeOf269
 v164:=Tryz.zeroValue269
 g1:=by kernel_rfl
 g3:=by kernel_rfl
 g4:=by kernel_rfl
 t80:=Tryz.underlying170
 a80:=Tryz.isAgg170
 z80:=Tryz.sizeOf170
 v80:=Tryz.zeroValue170
 i0:=by kernel_rfl
 i3:=by kernel_rfl
 i4:=by kernel_rfl
 i5:=by kernel_rfl
 i9:=by kernel_rfl
 i20:=by kernel_rfl
 i21:=by kernel_rfl
 i37:=by kernel_rfl
 i46:=by kernel_rfl
 i51:=by kernel_rfl
 i70:=by kernel_rfl
 i72:=by kernel_rfl
 i75:=by kernel_rfl
 i76:=by kernel_rfl
 i80:=by kernel_rfl
 i105:=by kernel_rfl
 i127:=by kernel_rfl
 i138:=by kernel_rfl
 i139:=by kernel_rfl
 i146:=by kernel_rfl
 i164:=by kernel_rfl
 m1:=by kernel_rfl
 s1_3:=fun w h=>Go.Proofs.cell_of_shapedOpen_int (zero := #[.int .i64 0]) (t:=3) h (of_decide_eq_true (by kernel_rfl)) (by kernel_rfl) rfl (by kernel_rfl) (by kernel_rfl) Tryz.underlying3
 m3:=by kernel_rfl
 m4:=by kernel_rfl}
def Tryz.layExtra_ren:Go.Shelf.Ren:=⟨fun | 155=>351 | 154=>364 | 138=>114 | 165=>365 | 143=>175 | 166=>156 | 197=>257 | 169=>159 | 195=>173 | 218=>174 | 240=>196 | 241=>369 | 219=>219 | 260=>302 | 276=>253 | 277=>370 | 217=>266 | 225=>267 | 224=>268 | 267=>269 | 266=>314 | 314=>315 | n=>n,fun | 9=>9 | 3=>3 | 4=>4 | 72=>185 | 0=>0 | 76=>188 | 105=>272 | 21=>21 | 5=>5 | 70=>183 | 20=>20 | 37=>35 | 75=>187 | 127=>221 | 164=>269 | 46=>203 | 119=>329 | 139=>332 | 138=>331 | 146=>314 | 51=>241 | 80=>170 | n=>n,fun | 1=>0 | 3=>4 | 4=>5 | n=>n⟩
theorem Tryz.layExtra:Go.Proofs.Builder.Extra Tryz.prog Tryz.layExtra_ren:={
 sizeBuilder:=by kernel_rfl
 liesBuilder:=by kernel_rfl
 t5:=Tryz.underlying5
 a5:=Tryz.isAgg5
 z5:=Tryz.sizeOf5
 v5:=Tryz.zeroValue5
 infoByte:=by kernel_rfl
 cellsByte:=by kernel_rfl
 sizeByte:=by kernel_rfl
 neB5:=by decide}
end Go.Proofs
namespace Go.Proofs.YtfffplonjaigkaaGreatDoor.Abs
open Go Go.Shelf Go.RowKit Go.Lib
theorem EI {l:List fg} (hm:sZ "internal/bytealg.MaxLen" ∈ l) : ∀(args:List SV) (tab:aB) (z:(Sh.pair (.val .str) .unit).den×Sh.unit.den),nv args tab=some z→cN (ec Tryz.prog l) Tryz.prog fm args tab z:=by
 intro args tab z hz
 unfold nv at hz
 split at hz
 ·rename_i s c d
  split at hz
  ·rename_i h
   cases hz
   refine ii (sh:=Sh.pair (.val .str) .unit) (fun _=>rfl) ?_ (fun _ _ h=>h.none)
   intro w Pr γ us hG hPr hu
   cases hu with
   | cons a k =>
    cases k with
    | cons b k =>
     cases k with
     | cons c k =>
      cases k
      obtain rfl:=dt a
      obtain rfl:=dt b
      obtain rfl:=dt c
      obtain⟨m,hc⟩:=yS hG hm Tryz.layReplace.m1
      refine(Any.strings_ReplaceAll {Tryz.layReplace with} Tryz.layExtra s _ _ m w h.1 hc h.2.1 h.2.2).mono ?_
      rintro e w' ⟨rfl,hB⟩
      exact⟨[_],rfl,⟨[_],[],rfl,rfl,rfl⟩,hB⟩
  ·cases hz
 ·cases hz
end Go.Proofs.YtfffplonjaigkaaGreatDoor.Abs
namespace Go.Proofs
open Go.Shelf Go.RowKit Go.Lib
def Tryz.layJoin_ren:Go.Shelf.Ren:=⟨fun | 156=>353 | 165=>365 | 166=>156 | 169=>159 | 240=>196 | 241=>369 | 276=>253 | 277=>370 | n=>n,fun | 31=>98 | 9=>9 | 3=>3 | 4=>4 | 0=>0 | 20=>20 | 72=>185 | 76=>188 | 70=>183 | 37=>35 | 75=>187 | 127=>221 | 164=>269 | 5=>5 | 80=>170 | n=>n,fun | n=>n⟩
theorem Tryz.layJoin:Go.Proofs.Lays.n156 Tryz.prog Tryz.layJoin_ren:={
 mixed:=by kernel_rfl
 f156:=Tryz.func353.trans (T4 some (by kernel_rfl))
 f165:=Tryz.func365.trans (T4 some (by kernel_rfl))
 f166:=Tryz.func156.trans (T4 some (by kernel_rfl))
 f169:=Tryz.func159.trans (T4 some (by kernel_rfl))
 f240:=Tryz.func196.trans (T4 some (by kernel_rfl))
 f241:=Tryz.func369.trans (T4 some (by kernel_rfl))
 f276:=Tryz.func253.trans (T4 some (by kernel_rfl))
 f277:=Tryz.func370.trans (T4 some (by kernel_rfl))
 t0:=Tryz.underlying0
 a0:=Tryz.isAgg0
 z0:=Tryz.sizeOf0
 v0:=Tryz.zeroValue0
 t3:=Tryz.underlying3
 a3:=Tryz.isAgg3
 z3:=Tryz.sizeOf3
 v3:=Tryz.zeroValue3
 t4:=Tryz.underlying4
 a4:=Tryz.isAgg4
 z4:=Tryz.sizeOf4
 v4:=Tryz.zeroValue4
 t9:=Tryz.underlying9
 a9:=Tryz.isAgg9
 z9:=Tryz.sizeOf9
 v9:=Tryz.zeroValue9
 t20:=Tryz.underlying20
 a20:=Tryz.isAgg20
 z20:=Tryz.sizeOf20
 v20:=Tryz.zeroValue20
 t31:=Tryz.underlying98
 a31:=Tryz.isAgg98
 z31:=Tryz.sizeOf98
 v31:=Tryz.zeroValue98
 t37:=Tryz.underlying35
 a37:=Tryz.isAgg35
 z37:=Tryz.sizeOf35
 v37:=Tryz.zeroValue35
 t70:=Tryz.underlying183
 a70:=Tryz.isAgg183
 z70:=Tryz.sizeOf183
 v70:=Tryz.zeroValue183
 t72:=Tryz.underlying185
 a72:=Tryz.isAgg185
 z72:=Tryz.sizeOf185
 v72:=Tryz.zeroValue185
 t75:=Tryz.underlying187
 a75:=Tryz.isAgg187
 z75:=Tryz.sizeOf187
 v75:=Tryz.zeroValue187
 t76:=Tryz.underlying188
 a76:=Tryz.isAgg188
 z76:=Tryz.sizeOf188
 v76:=Tryz.zeroValue188
 t127:=Tryz.underlying221
 a127:=Tryz.isAgg221
 z127:=Tryz.sizeOf221
 v127:=Tryz.zeroValue221
 t164:=Tryz.underlying269
 a164:=Tryz.isAgg269
 z164:=Tryz.sizeOf269
 v164:=Tryz.zeroValue269}
theorem Tryz.extraJoin:Builder.Extra Tryz.prog Tryz.layJoin_ren:={
 sizeBuilder:=by kernel_rfl
 liesBuilder:=by kernel_rfl
 t5:=Tryz.underlying5
 a5:=Tryz.isAgg5
 z5:=Tryz.sizeOf5
 v5:=Tryz.zeroValue5
 infoByte:=by kernel_rfl
 cellsByte:=by kernel_rfl
 sizeByte:=by kernel_rfl
 neB5:=by decide}
end Go.Proofs
namespace Go.Proofs.YtfffplonjaigkaaGreatDoor.Abs
open Go Go.Shelf Go.RowKit Go.Lib
theorem Kv {l:List fg} : ∀(args:List SV) (tab:aB) (z:(Sh.pair (.val .str) .unit).den×Sh.unit.den),uu Og args tab=some z→cN (ec Tryz.prog l) Tryz.prog jS args tab z:=by
 intro args tab z hz
 unfold uu at hz
 split at hz
 ·rename_i t xs c
  rw[Option.bind_eq_some_iff] at hz
  obtain⟨xs',hxs,hz⟩:=hz
  obtain⟨rfl,hxs⟩:=eQ hxs
  have hxs:xs=xs':=hxs
  subst hxs
  split at hz
  ·rename_i h
   obtain⟨h1,h2⟩:=h
   cases hz
   refine ii (sh := .pair (.val .str) .unit) (fun _=>rfl) ?_ (fun _ _ h=>h.none)
   intro w Pr γ us hG hPr hu
   cases hu with
   | cons a k =>
    cases k with
    | cons d k =>
     cases k
     obtain rfl:=dt d
     cases a with
     | val ha =>
      obtain⟨A,cap,rfl,hcap,hA⟩:=ha
      by_cases hx:(xs:List S0)=[]
      ·subst hx
       refine(Any.strings_Join_none Tryz.layJoin Tryz.extraJoin A cap c w).mono ?_
       rintro e w' ⟨rfl,rfl⟩
       exact⟨[_],rfl,⟨[_],[],rfl,rfl,rfl⟩,Below.refl _ _⟩
      ·obtain⟨b,o,rfl,hcells⟩:=hA hx
       have hcell : ∀(j:Nat) x,(xs:List S0)[j]? = some x→Pr b (o+j)∧w.cell? ⟨b,o+j,none⟩=some (.string x):=by
        intro j x hj
        obtain⟨hj1,hj2⟩:=List.getElem?_eq_some_iff.1 hj
        obtain⟨cs,hc1,hc2⟩:=hcells j hj1
        have hc1:cs=[.string (xs:List S0)[j]]:=hc1
        subst hc1
        have:=hc2 0 _ rfl
        have e1:o+j*(Ty.str).sz+0=o+j:=by show o+j*1+0=_; omega
        rw[e1] at this
        rw[←hj2]
        exact this
       have hb:b < w.heap.size:=by
        obtain⟨x,r,hxr⟩ : ∃ x r,(xs:List S0)=x :: r:=by
         cases hq:(xs:List S0) with
         | nil=>exact absurd hq hx
         | cons x r=>exact⟨x,r,rfl⟩
        exact hPr b _ (hcell 0 x (by rw[hxr]; rfl)).1
       refine(Any.strings_Join Tryz.layJoin Tryz.extraJoin b o cap xs c w (fun j x hj=>(hcell j x hj).2) hb h1 hcap h2).mono ?_
       rintro e w' ⟨rfl,hB⟩
       exact⟨[_],rfl,⟨[_],[],rfl,rfl,rfl⟩,hB⟩
  ·cases hz
 ·cases hz
end Go.Proofs.YtfffplonjaigkaaGreatDoor.Abs
