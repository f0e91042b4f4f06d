/- strconv.ParseInt at base 10, of 64 bits: the library's contract, laid at this program. -/
import Derived.Shelf.Strconv.ErrVarParseInt
import Derived.Test.YtnodjiikdgmeaaaGreatDoorZA3
import Derived.Test.YtnodjiikdgmeaaaGreatDoorZQD
import Derived.Shelf.SlicesE.Clone
import Derived.Shelf.SlSortCmp.WholeK
import Derived.Shelf.Strconv.Itoa4
import Derived.Lib.AppendIntMem
import Derived.Shelf.Strings.SlTrimAscii
import Derived.Shelf.Strings.Cut
import Derived.Shelf.LaysM
import Derived.Shelf.Strings.Replace
import Derived.Shelf.Strings.OnBuilder
set_option linter.unusedVariables false
set_option linter.unusedSimpArgs false
set_option linter.unusedSectionVars false
namespace Go.Proofs
open Go.Shelf Go.RowKit Go.Lib
def Tryz.layParseInt_ren:Go.Shelf.Ren:=⟨fun | 174=>67 | 247=>119 | 245=>120 | 287=>153 | 279=>154 | 280=>155 | 281=>156 | 282=>157 | 321=>199 | 322=>200 | 316=>201 | 171=>203 | 205=>202 | 243=>247 | 246=>204 | 283=>248 | 284=>249 | 285=>250 | 286=>251 | 129=>277 | 317=>276 | 318=>278 | 319=>279 | 320=>280 | 337=>293 | 338=>294 | n=>n,fun | 9=>9 | 3=>3 | 2=>2 | 75=>102 | 85=>103 | 4=>4 | 167=>175 | 5=>5 | 53=>176 | 175=>177 | 46=>179 | 168=>180 | 37=>44 | 0=>0 | 210=>203 | 21=>21 | 127=>234 | 145=>237 | 143=>235 | 171=>238 | 173=>241 | 212=>257 | 51=>258 | 20=>20 | 213=>259 | 232=>282 | 233=>283 | 80=>119 | n=>n,fun | 15=>0 | 16=>1 | 17=>2 | 18=>5 | 19=>6 | n=>n⟩
theorem Tryz.layParseInt:Go.Proofs.LaysC.n174 Tryz.prog Tryz.layParseInt_ren:={
 mixed:=by kernel_rfl
 f129:=Tryz.func277.trans (congrArg some (by kernel_rfl))
 f171:=Tryz.func203.trans (congrArg some (by kernel_rfl))
 f174:=Tryz.func67.trans (congrArg some (by kernel_rfl))
 f205:=Tryz.func202.trans (congrArg some (by kernel_rfl))
 f243:=Tryz.func247.trans (congrArg some (by kernel_rfl))
 f245:=Tryz.func120.trans (congrArg some (by kernel_rfl))
 f246:=Tryz.func204.trans (congrArg some (by kernel_rfl))
 f247:=Tryz.func119.trans (congrArg some (by kernel_rfl))
 f279:=Tryz.func154.trans (congrArg some (by kernel_rfl))
 f280:=Tryz.func155.trans (congrArg some (by kernel_rfl))
 f281:=Tryz.func156.trans (congrArg some (by kernel_rfl))
 f282:=Tryz.func157.trans (congrArg some (by kernel_rfl))
 f283:=Tryz.func248.trans (congrArg some (by kernel_rfl))
 f284:=Tryz.func249.trans (congrArg some (by kernel_rfl))
 f285:=Tryz.func250.trans (congrArg some (by kernel_rfl))
 f286:=Tryz.func251.trans (congrArg some (by kernel_rfl))
 f287:=Tryz.func153.trans (congrArg some (by kernel_rfl))
 f316:=Tryz.func201.trans (congrArg some (by kernel_rfl))
 f317:=Tryz.func276.trans (congrArg some (by kernel_rfl))
 f318:=Tryz.func278.trans (congrArg some (by kernel_rfl))
 f319:=Tryz.func279.trans (congrArg some (by kernel_rfl))
 f320:=Tryz.func280.trans (congrArg some (by kernel_rfl))
 f321:=Tryz.func199.trans (congrArg some (by kernel_rfl))
 f322:=Tryz.func200.trans (congrArg some (by kernel_rfl))
 f337:=Tryz.func293.trans (congrArg some (by kernel_rfl))
 f338:=Tryz.func294.trans (congrArg some (by kernel_rfl))
 t0:=Tryz.underlying0
 a0:=Tryz.isAgg0
 z0:=Tryz.sizeOf0
 v0:=Tryz.zeroValue0
 t2:=Tryz.underlying2
 a2:=Tryz.isAgg2
 z2:=Tryz.sizeOf2
 v2:=Tryz.zeroValue2
 t3:=Tryz.underlying3
 a3:=Tryz.isAgg3
 z3:=Tryz.sizeOf3
 v3:=Tryz.zeroValue3
 t4:=Tryz.underlying4
 a4:=Tryz.isAgg4
 z4:=Tryz.sizeOf4
 v4:=Tryz.zeroValue4
 t5:=Tryz.underlying5
 a5:=Tryz.isAgg5
 z5:=Tryz.sizeOf5
 v5:=Tryz.zeroValue5
 t9:=Tryz.underlying9
 a9:=Tryz.isAgg9
 z9:=Tryz.sizeOf9
 v9:=Tryz.zeroValue9
 t20:=Tryz.underlying20
 a20:=Tryz.isAgg20
 z20:=Tryz.sizeOf20
 v20:=Tryz.zeroValue20
 t21:=Tryz.underlying21
 a21:=Tryz.isAgg21
 z21:=Tryz.sizeOf21
 v21:=Tryz.zeroValue21
 t37:=Tryz.underlying44
 a37:=Tryz.isAgg44
 z37:=Tryz.sizeOf44
 v37:=Tryz.zeroValue44
 t46:=Tryz.underlying179
 a46:=Tryz.isAgg179
 z46:=Tryz.sizeOf179
 v46:=Tryz.zeroValue179
 t51:=Tryz.underlying258
 a51:=Tryz.isAgg258
 z51:=Tryz.sizeOf258
 v51:=Tryz.zeroValue258
 t53:=Tryz.underlying176
 a53:=Tryz.isAgg176
 z53:=Tryz.sizeOf176
 v53:=Tryz.zeroValue176
 t75:=Tryz.underlying102
 a75:=Tryz.isAgg102
 z75:=Tryz.sizeOf102
 v75:=Tryz.zeroValue102
 t85:=Tryz.underlying103
 a85:=Tryz.isAgg103
 z85:=Tryz.sizeOf103
 v85:=Tryz.zeroValue103
 t127:=Tryz.underlying234
 a127:=Tryz.isAgg234
 z127:=Tryz.sizeOf234
 v127:=Tryz.zeroValue234
 t143:=Tryz.underlying235
 a143:=Tryz.isAgg235
 z143:=Tryz.sizeOf235
 v143:=Tryz.zeroValue235
 t145:=Tryz.underlying237
 a145:=Tryz.isAgg237
 z145:=Tryz.sizeOf237
 v145:=Tryz.zeroValue237
 t167:=Tryz.underlying175
 a167:=Tryz.isAgg175
 z167:=Tryz.sizeOf175
 v167:=Tryz.zeroValue175
 t168:=Tryz.underlying180
 a168:=Tryz.isAgg180
 z168:=Tryz.sizeOf180
 v168:=Tryz.zeroValue180
 t171:=Tryz.underlying238
 a171:=Tryz.isAgg238
 z171:=Tryz.sizeOf238
 v171:=Tryz.zeroValue238
 t173:=Tryz.underlying241
 a173:=Tryz.isAgg241
 z173:=Tryz.sizeOf241
 v173:=Tryz.zeroValue241
 t175:=Tryz.underlying177
 a175:=Tryz.isAgg177
 z175:=Tryz.sizeOf177
 v175:=Tryz.zeroValue177
 t210:=Tryz.underlying203
 a210:=Tryz.isAgg203
 z210:=Tryz.sizeOf203
 v210:=Tryz.zeroValue203
 t212:=Tryz.underlying257
 a212:=Tryz.isAgg257
 z212:=Tryz.sizeOf257
 v212:=Tryz.zeroValue257
 t213:=Tryz.underlying259
 a213:=Tryz.isAgg259
 z213:=Tryz.sizeOf259
 t232:=Tryz.underlying282
 a232:=Tryz.isAgg282
 z232:=Tryz.sizeOf282
 v232:=Tryz.zeroValue282
 t233:=Tryz.underlying283
 a233:=Tryz.isAgg283
 z233:=Tryz.sizeOf283
 v233:=Tryz.zeroValue283
 g15:=by kernel_rfl
 g16:=by kernel_rfl
 g17:=by kernel_rfl
 g18:=by kernel_rfl
 g19:=by kernel_rfl
 t80:=Tryz.underlying119
 a80:=Tryz.isAgg119
 z80:=Tryz.sizeOf119
 v80:=Tryz.zeroValue119
 i0:=by kernel_rfl
 i2:=by kernel_rfl
 i3:=by kernel_rfl
 i4:=by kernel_rfl
 i5:=by kernel_rfl
 i9:=by kernel_rfl
 i20:=by kernel_rfl
 i21:=by kernel_rfl
 i37:=by kernel_rfl
 i46:=by kernel_rfl
 i51:=by kernel_rfl
 i53:=by kernel_rfl
 i75:=by kernel_rfl
 i80:=by kernel_rfl
 i85:=by kernel_rfl
 i127:=by kernel_rfl
 i143:=by kernel_rfl
 i145:=by kernel_rfl
 i167:=by kernel_rfl
 i168:=by kernel_rfl
 i171:=by kernel_rfl
 i173:=by kernel_rfl
 i175:=by kernel_rfl
 i210:=by kernel_rfl
 i212:=by kernel_rfl
 i232:=by kernel_rfl
 i233:=by kernel_rfl
 m15:=by kernel_rfl
 m16:=by kernel_rfl
 m17:=by kernel_rfl
 m18:=by kernel_rfl
 m19:=by kernel_rfl
 c0:=by kernel_rfl
 c2:=by kernel_rfl
 c3:=by kernel_rfl
 c4:=by kernel_rfl
 c5:=by kernel_rfl
 c9:=by kernel_rfl
 c20:=by kernel_rfl
 c21:=by kernel_rfl
 c37:=by kernel_rfl
 c46:=by kernel_rfl
 c51:=by kernel_rfl
 c53:=by kernel_rfl
 c75:=by kernel_rfl
 c80:=by kernel_rfl
 c85:=by kernel_rfl
 c127:=by kernel_rfl
 c143:=by kernel_rfl
 c145:=by kernel_rfl
 c167:=by kernel_rfl
 c168:=by kernel_rfl
 c171:=by kernel_rfl
 c173:=by kernel_rfl
 c175:=by kernel_rfl
 c210:=by kernel_rfl
 c212:=by kernel_rfl
 c213:=by kernel_rfl
 c232:=by kernel_rfl
 c233:=by kernel_rfl}
end Go.Proofs
namespace Go.Proofs.YtnodjiikdgmeaaaGreatDoor.Abs
open Go Go.Shelf Go.RowKit Go.Lib
theorem Od {l:List iU} (hm1:Gh "strconv.ErrSyntax" ∈ l) (hm2:Gh "strconv.ErrRange" ∈ l) : ∀(args:List SV) (tab:aH) (z:(Sh.pair (.val (.int .i64)) (.pair (.val .err) .unit)).den×Sh.unit.den),pW args tab=some z→iB (fo Tryz.prog l) Tryz.prog mj args tab z:=by
 intro args tab z hz
 unfold pW at hz
 split at hz
 ·rename_i s p q
  split at hz
  ·rename_i h
   cases hz
   refine kT (sh:=Sh.pair (.val (.int .i64)) (.pair (.val .err) .unit)) (fun _=>rfl) ?_ (fun _ _ h=>h.none)
   intro w Pr γ us hG hPr hu
   cases hu with
   | cons a k =>
    cases k with
    | cons b k =>
     cases k with
     | cons c k =>
      cases k
      obtain rfl:=fk a
      obtain rfl:=eA b
      obtain rfl:=eA c
      obtain⟨h,hb,hq⟩:=h
      rw[show p=(10:Int) from hb,show q=(64:Int) from hq]
      by_cases hok : ∃ v,Lib.parseIntB 64 s.data.toList = .ok v
      ·obtain⟨v,hv⟩:=hok
       refine(Any.strconv_ParseInt_10_at64_ok Tryz.layParseInt s (by omega) v hv w).mono ?_
       rintro e w' ⟨rfl,hw⟩
       have hp:cl s.data.toList=(v,true):=by unfold cl; rw[hv]
       refine⟨[_,_],rfl,⟨[_],_,rfl,(by rw[hp]; rfl),[_],_,rfl,(by rw[hp]; exact .inl ⟨rfl,rfl⟩),rfl⟩,?_⟩
       rcases hw with rfl | ⟨t,rfl⟩
       ·exact Below.refl _ _
       ·exact Lib.bytesWorld_below _ _ _
      ·cases hq:Lib.parseIntB 64 s.data.toList with
       | ok v=>exact absurd ⟨v,hq⟩ hok
       | range =>
        obtain⟨⟨a',h1,tp,p,rfl⟩,_⟩:=hG _ hm2
        refine(Any.strconv_ParseInt_10_at64_range_var Tryz.layParseInt s h hq tp p w h1).mono ?_
        rintro e w' ⟨N,rfl,_,_,hB⟩
        have hp:cl s.data.toList=(Lib.intSat 64 s.data.toList,false):=by unfold cl; rw[hq]
        exact⟨[_,_],rfl,⟨[_],_,rfl,(by rw[hp]; rfl),[_],_,rfl,(by rw[hp]; exact .inr ⟨rfl,_,_,rfl⟩),rfl⟩,hB⟩
       | _ =>
        obtain⟨⟨a',h1,tp,p,rfl⟩,_⟩:=hG _ hm1
        refine(Any.strconv_ParseInt_10_at64_syntax_var Tryz.layParseInt s h hq tp p w h1).mono ?_
        rintro e w' ⟨N,rfl,_,_,hB⟩
        have hp:cl s.data.toList=(0,false):=by unfold cl; rw[hq]
        exact⟨[_,_],rfl,⟨[_],_,rfl,(by rw[hp]; rfl),[_],_,rfl,(by rw[hp]; exact .inr ⟨rfl,_,_,rfl⟩),rfl⟩,hB⟩
  ·cases hz
 ·cases hz
end Go.Proofs.YtnodjiikdgmeaaaGreatDoor.Abs
namespace Go.Proofs
open Go.Shelf Go.RowKit Go.Lib
variable {P:Program} {ρ:Ren}
set_option maxHeartbeats 2000000 in
set_option maxRecDepth 100000 in
theorem YtnodjiikdgmeaaaGreatDoor.Abs.clone_any (L:SlLaysE0.n41 P ρ) (i0:TypeInfo) (z:Value) (size bytes:Nat) (hi:P.info? (ρ.t 23)=some i0) (hz0:i0.zero=some z) (hz1:i0.size=size) (hz2:i0.bytes=bytes) (hzs:z.cells.size=size) (hsz:0 < size)
  (z23 : ∀ w,(Go.sizeOf (ρ.t 23)).run P w = .ok size w) (a:Addr) (n c:Nat) (news:List Value) (w:World) (hl:news.length=n*size) (hn:n≤maxLen) (hbig:n*bytes≤140737488355328)
  (hc : ∀ j u,news[j]? = some u→w.cell? (a.add j)=some u) (h1 : ∀ u∈news,u.oneCell'=true) :
  Calls P (ρ.f 41) #[.slice (some a) n c] w fun e w' => ∃ v',e = .returned v'∧w'.ownsRow w.heap.size (ρ.t 23) size v' n news∧v' ≠ .slice none 0 0∧Below w.heap.size w w':=by
 have mixed:=L.mixed; have t4:=L.t4; have a4:=L.a4; have z4:=L.z4; have v4:=L.v4; have t22:=L.t22; have a22:=L.a22; have z22:=L.z22; have v22:=L.v22
 have q22 : ∀(w:World) (a:Option Addr) (n c n' c':Nat),(binOp .eql (ρ.t 22) (.slice a n c) (.slice none n' c')).run P w = .ok (.bool a.isNone) w:=fun w a n c n' c'=>Lib.run_eql_slice_nil w _ _ a n c n' c' L.t22
 have u22 : ∀ w,Sem.run P (underlying (ρ.t 22)) w = .ok (TypeDesc.slice (ρ.t 23)) w:=run_underlying t22
 have A:Aside (∀ j u,news[j]? = some u→w.cell? (a.add j)=some u):=hc
 clear hc
 obtain⟨_,_,FG⟩:=L.f41
 go_enter FG,SlBodyN.n41_ntmps ρ
 go_wp2_with (at_builtin; refine wpList_append_own _ rfl _ _ (ρ.t 22) rfl w.heap.size (ρ.t 23) i0 z size bytes t22 hi hz0 hz1 hz2 hzs hsz _ _ _ rfl (World.ownsRow_made w #[] 0 (Nat.le_refl _) (Nat.zero_le _) (by simp)) a n c news rfl ?qc1 ?qc2 ?qc3 ?qc4 ?qc5 ?qc6 ?_)
 case qc1=>exact hl
 case qc2 =>
  intro j u hj
  exact Lib.cell?_alloc_some _ (A.out j u hj)
 case qc3=>exact h1
 case qc4=>rw[Nat.zero_add]; exact hn
 case qc5=>rw[Nat.zero_add]; exact hbig
 case qc6=>simp
 intro v' w1 hown hgrow hnil
 go_wp2
 go_ret
 refine⟨v',rfl,by simpa using hown,?_,?_⟩
 ·exact hnil
 ·exact((Below.refl _ w).alloc (Nat.le_refl _) _).grown hgrow (by simp) (by intro k hk; simp[Value.ownBlock] at hk; omega)
end Go.Proofs
namespace Go.Proofs.YtnodjiikdgmeaaaGreatDoor.Abs
open Go Go.RowKit
theorem JJ {α:Type} [Inhabited α] {enc:α→List Value} {k:Nat} (hk : ∀ x,(enc x).length=k) : ∀ l:List α,(List.range (l.length*k)).map (fun t=>(enc l[t / k]!)[t % k]!)=(l.map enc).flatten
 | []=>by simp
 | x :: l=>by
  have ih:=JJ hk l
  rw[List.length_cons,Nat.add_mul,Nat.one_mul,Nat.add_comm,List.range_add,List.map_append,List.map_cons,List.flatten_cons,←ih,List.map_map]
  congr 1
  ·apply List.ext_getElem
   ·simp[hk]
   ·intro i h1 h2
    have hi:i < k:=by simpa using h1
    simp only[List.getElem_map,List.getElem_range]
    rw[Nat.div_eq_of_lt hi,Nat.mod_eq_of_lt hi]
    simp only[List.getElem!_cons_zero]
    rw[getElem!_pos _ i h2]
  ·apply List.map_congr_left
   intro t ht
   have hk0:0 < k:=by
    rcases Nat.eq_zero_or_pos k with h | h
    ·subst h
     simp at ht
    ·exact h
   simp only[Function.comp]
   rw[Nat.add_div_left _ hk0,Nat.add_mod_left]
   simp
theorem Ek {Gp:WP} {P:Program} {g nb:Nat} {fn:Func} {e:TypeId} {t:Ty} {own:List Bool} {live:List (Nat×List Nat)} (hn:dB t=true) (hsz:0 < t.sz) (hnb:0 < nb)
  (hnil : ∀(n c:Nat) (w:World),Calls P g #[.slice none n c] w fun e w'=>e = .returned (.slice none 0 0)∧w'=w)
  (hcl : ∀(a:Addr) (n c:Nat) (news:List Value) (w:World),news.length=n*t.sz→n≤maxLen→n*nb≤140737488355328→(∀ j u,news[j]? = some u→w.cell? (a.add j)=some u)→(∀ u∈news,u.oneCell'=true) →
   Calls P g #[.slice (some a) n c] w fun e' w' => ∃ v',e' = .returned v'∧w'.ownsRow w.heap.size e t.sz v' n news∧v' ≠ .slice none 0 0∧Below w.heap.size w w') :
  ∀(args:List SV) (tab:aH) (z:(Sh.pair (.row e t false) .unit).den×Sh.unit.den),fm e t nb args tab=some z→iB Gp P {g:=g,fn:=fn,sh := .pair (.row e t false) .unit,bx := .unit,own:=own,live:=live,prim:=some (fm e t nb)} args tab z:=by
 intro args tab z hz
 unfold fm at hz
 split at hz
 ·rename_i s xs
  rw[Option.bind_eq_some_iff] at hz
  obtain⟨xs',hxs,hz⟩:=hz
  obtain⟨rfl,hxs⟩:=kn hxs
  have hxs:xs=xs':=hxs
  subst hxs
  split at hz
  ·rename_i hlen
   cases hz
   intro hcanon w γ Pr us _ hI hlim N hN vs u n bs u' n' ub hm1 hm2 hub
   cases hm1
   cases hm2
   cases hub
   have hsl:=hI.slots
   cases hsl with
   | cons h1 hk =>
   cases hk
   cases h1 with
   | val h1 =>
   obtain⟨A,cap,rfl,hcap,hA⟩:=h1
   have aR : ∀(v:Value) (w':World),Below w.heap.size w w'→w'.ownsRow w.heap.size e t.sz v (xs:List t.den).length ((xs:List t.den).map (tk t)).flatten→zB w (nH [] γ) γ Pr N (N+1) [.row N] [] [(N,some (.row e t xs false))] [v] (fun r=>if r=N then some (.row e t v) else none) Pr w':=by
    intro v w' hB hrow
    have hnew : ∀ r x,nO [(N,some (aY.row e t xs false))] r=some x→r=N∧x = .row e t xs false:=by
     intro r x h
     have h':(if r=N then some (aY.row e t xs false) else none)=some x:=h
     by_cases hr:r=N
     ·rw[if_pos hr] at h'
      exact⟨hr,(Option.some.inj h').symm⟩
     ·rw[if_neg hr] at h'
      cases h'
    have hblk : ∀ b,bB (fun r=>if r=N then some (G.row e t v) else none) N (.row e t xs false)=some b→w.heap.size≤b:=by
     intro b hb
     have:v.ownBlock=some b:=by simpa[bB] using hb
     exact(hrow.lt b this).1
    refine⟨.cons (.row (if_pos rfl)) .nil,?_,?_,?_,?_,?_,?_,?_,?_,?_,hB.size,hB.os,hB.tape,hB.output,?_,?_,?_⟩
    ·intro r g hr
     by_cases h:r=N
     ·rw[if_pos h] at hr
      cases hr
      have : ∃ A n c,v = .slice A n c:=by
       rcases hrow.2 with⟨rfl,_⟩ | ⟨g,cap,cur,rfl,_⟩
       ·exact⟨_,_,_,rfl⟩
       ·exact⟨_,_,_,rfl⟩
      obtain⟨A,n,c,rfl⟩:=this
      exact⟨⟨by omega,by omega⟩,.inl ⟨e,t,A,n,c,rfl⟩⟩
     ·rw[if_neg h] at hr
      cases hr
    ·intro j t' c hj
     simp at hj
    ·intro r x h
     obtain⟨rfl,rfl⟩:=hnew r x h
     exact⟨Nat.le_refl _,Nat.lt_succ_self _,v,_,if_pos rfl,(Xk hn).2 rfl,Zp hrow,fun h=>by cases h⟩
    ·intro r r' x x' b h h' hne
     exact absurd ((hnew r x h).1.trans (hnew r' x' h').1.symm) hne
    ·intro j t' c b hj
     simp at hj
    ·intro j t' c b hj
     simp at hj
    ·intro r x b h hb o ho
     obtain⟨rfl,rfl⟩:=hnew r x h
     have:=hblk b hb
     have:=hI.prIn b o ho
     omega
    ·intro r x b h hb
     obtain⟨rfl,rfl⟩:=hnew r x h
     exact .inr (hblk b hb)
    ·exact fun k hk _=>hB.block k hk
    ·exact fun b o ho=>Nat.lt_of_lt_of_le (hI.prIn b o ho) hB.size
    ·exact fun b hb hx o ho=>ho
    ·intro b o v' hv'
     refine⟨hv'.1,?_⟩
     rw[World.cell?_of_block (hB.block b (hI.prIn b o hv'.1))]
     exact hv'.2
   have hmax:(xs:List t.den).length≤maxLen:=by
    have h1:(xs:List t.den).length*1≤(xs:List t.den).length*nb:=Nat.mul_le_mul_left _ hnb
    simp only[maxLen]
    omega
   cases A with
   | none =>
    have hx0:(xs:List t.den)=[]:=by
     rcases List.eq_nil_or_concat (xs:List t.den) with h | ⟨_,_,h⟩
     ·exact h
     ·obtain⟨b,o,hh,_⟩:=hA (by rw[h]; simp)
      cases hh
    subst hx0
    refine(hnil 0 cap w).mono ?_
    rintro e' w' ⟨rfl,rfl⟩
    refine⟨[.slice none 0 0],_,Pr,rfl,aR _ _ (Below.refl _ _) ?_,fun p hp=>by have hp':p∈([]:List (Nat×Nat)):=hp; cases hp'⟩
    exact World.ownsRow_nil _ _ _ _
   | some a =>
    have hfl:((xs:List t.den).map (tk t)).flatten=(List.range ((xs:List t.den).length*t.sz)).map (fun j=>(tk t (xs:List t.den)[j / t.sz]!)[j % t.sz]!):=(JJ (Pl hn) xs).symm
    refine(hcl a (xs:List t.den).length cap ((xs:List t.den).map (tk t)).flatten w ?_ hmax hlen ?_ ?_).mono ?_
    ·rw[hfl]
     simp
    ·intro j u hj
     rw[hfl] at hj
     obtain⟨hj1,hj2⟩:=List.getElem?_eq_some_iff.1 hj
     have hjl:j < (xs:List t.den).length*t.sz:=by simpa using hj1
     have hne:(xs:List t.den)≠[]:=by
      intro h
      rw[h] at hjl
      simp at hjl
     obtain⟨b,o,hab,hcells⟩:=hA hne
     cases hab
     have hi:j / t.sz < (xs:List t.den).length:=Nat.div_lt_of_lt_mul (by rw[Nat.mul_comm]; exact hjl)
     obtain⟨c,hc1,hc2⟩:=hcells (j / t.sz) hi
     have hcc:=(n6 hn).1 hc1
     have hm:j % t.sz < c.length:=by
      rw[hcc,Pl hn]
      exact Nat.mod_lt _ hsz
     have:=(hc2 (j % t.sz) _ (List.getElem?_eq_getElem hm)).2
     rw[iA]
     have e1:o+j / t.sz*t.sz+j % t.sz=o+j:=by
      rw[Nat.add_assoc,Nat.mul_comm,Nat.div_add_mod]
     rw[e1] at this
     rw[this]
     congr 1
     rw[←hj2]
     simp only[List.getElem_map,List.getElem_range]
     rw[getElem!_pos (xs:List t.den) _ hi]
     subst hcc
     rw[getElem!_pos (tk t (xs:List t.den)[j / t.sz]) (j % t.sz) hm]
    ·intro u hu
     rw[List.mem_flatten] at hu
     obtain⟨l,hl,hu⟩:=hu
     obtain⟨x,_,rfl⟩:=List.mem_map.1 hl
     exact Xj hn x u hu
    ·rintro e' w' ⟨v',rfl,hrow,_,hB⟩
     exact⟨[v'],_,Pr,rfl,aR _ _ hB hrow,fun p hp=>by have hp':p∈([]:List (Nat×Nat)):=hp; cases hp'⟩
  ·cases hz
 ·cases hz
end Go.Proofs.YtnodjiikdgmeaaaGreatDoor.Abs
namespace Go.Proofs
open Go.Shelf Go.RowKit Go.Lib Go.Sort
def Tryz.clIntI_ren:Go.Shelf.Ren:=⟨fun | 41=>124 | n=>n,fun | 22=>133 | 23=>3 | 4=>4 | n=>n,fun | n=>n⟩
theorem Tryz.clIntI:Go.Proofs.SlLaysE0.n41 Tryz.prog Tryz.clIntI_ren:={
 mixed:=by kernel_rfl
 f41:=⟨Tryz.f124.name,by decide,Tryz.func124.trans (congrArg some (by kernel_rfl))⟩
 t4:=Tryz.underlying4
 a4:=Tryz.isAgg4
 z4:=Tryz.sizeOf4
 v4:=Tryz.zeroValue4
 t22:=Tryz.underlying133
 a22:=Tryz.isAgg133
 z22:=Tryz.sizeOf133
 v22:=Tryz.zeroValue133}
def Tryz.clBoolI_ren:Go.Shelf.Ren:=⟨fun | 41=>107 | n=>n,fun | 22=>86 | 23=>4 | 4=>4 | n=>n,fun | n=>n⟩
theorem Tryz.clBoolI:Go.Proofs.SlLaysE0.n41 Tryz.prog Tryz.clBoolI_ren:={
 mixed:=by kernel_rfl
 f41:=⟨Tryz.f107.name,by decide,Tryz.func107.trans (congrArg some (by kernel_rfl))⟩
 t4:=Tryz.underlying4
 a4:=Tryz.isAgg4
 z4:=Tryz.sizeOf4
 v4:=Tryz.zeroValue4
 t22:=Tryz.underlying86
 a22:=Tryz.isAgg86
 z22:=Tryz.sizeOf86
 v22:=Tryz.zeroValue86}
end Go.Proofs
namespace Go.Proofs.YtnodjiikdgmeaaaGreatDoor.Abs
open Go Go.Shelf Go.RowKit Go.Lib Go.Sort
set_option maxRecDepth 100000 in
theorem QP {Gp:WP} : ∀(args:List SV) (tab:aH) (z:(Sh.pair (.row 3 (.int .i64) false) .unit).den×Sh.unit.den),fm 3 (.int .i64) 8 args tab=some z→iB Gp Tryz.prog {g:=124,fn:=Tryz.f124,sh := .pair (.row 3 (.int .i64) false) .unit,bx := .unit,own:=[],live:=[],prim:=some (fm 3 (.int .i64) 8)} args tab z:=by
 refine Ek (P:=Tryz.prog) (g:=124) (nb:=8) (fn:=Tryz.f124) (e:=3) (t:=(.int .i64)) (own:=[]) (live:=[]) rfl (by decide) (by decide) ?_ ?_
 ·exact fun n c w=>AnyE.slices_Clone_nil Tryz.clIntI n c w
 ·exact fun a n c news w h1 h2 h3 h4 h5=>clone_any Tryz.clIntI _ _ 1 8 rfl rfl (by kernel_rfl) (by kernel_rfl) (by kernel_rfl) (by decide) Tryz.sizeOf3 a n c news w h1 h2 h3 h4 h5
set_option maxRecDepth 100000 in
theorem Oe {Gp:WP} : ∀(args:List SV) (tab:aH) (z:(Sh.pair (.row 4 .bool false) .unit).den×Sh.unit.den),fm 4 .bool 1 args tab=some z→iB Gp Tryz.prog {g:=107,fn:=Tryz.f107,sh := .pair (.row 4 .bool false) .unit,bx := .unit,own:=[],live:=[],prim:=some (fm 4 .bool 1)} args tab z:=by
 refine Ek (P:=Tryz.prog) (g:=107) (nb:=1) (fn:=Tryz.f107) (e:=4) (t := .bool) (own:=[]) (live:=[]) rfl (by decide) (by decide) ?_ ?_
 ·exact fun n c w=>AnyE.slices_Clone_nil Tryz.clBoolI n c w
 ·exact fun a n c news w h1 h2 h3 h4 h5=>clone_any Tryz.clBoolI _ _ 1 1 rfl rfl (by kernel_rfl) (by kernel_rfl) (by kernel_rfl) (by decide) Tryz.sizeOf4 a n c news w h1 h2 h3 h4 h5
end Go.Proofs.YtnodjiikdgmeaaaGreatDoor.Abs
namespace Go.Proofs
open Go.Shelf Go.RowKit Go.Lib
def Tryz.layFmt_ren:Go.Shelf.Ren:=⟨fun | 173=>158 | 246=>204 | 283=>248 | 284=>249 | 285=>250 | 286=>251 | 129=>277 | 317=>276 | 318=>278 | 319=>279 | 320=>280 | 337=>293 | 338=>294 | n=>n,fun | 2=>2 | 3=>3 | 9=>9 | 4=>4 | 171=>238 | 0=>0 | 53=>176 | 37=>44 | 5=>5 | 173=>241 | 212=>257 | 51=>258 | 20=>20 | 213=>259 | 46=>179 | 232=>282 | 233=>283 | n=>n,fun | 17=>2 | 18=>5 | 19=>6 | n=>n⟩
theorem Tryz.layFmt:Go.Proofs.LaysM.n173 Tryz.prog Tryz.layFmt_ren:={
 mixed:=by kernel_rfl
 f129:=Tryz.func277.trans (congrArg some (by kernel_rfl))
 f173:=Tryz.func158.trans (congrArg some (by kernel_rfl))
 f246:=Tryz.func204.trans (congrArg some (by kernel_rfl))
 f283:=Tryz.func248.trans (congrArg some (by kernel_rfl))
 f284:=Tryz.func249.trans (congrArg some (by kernel_rfl))
 f285:=Tryz.func250.trans (congrArg some (by kernel_rfl))
 f286:=Tryz.func251.trans (congrArg some (by kernel_rfl))
 f317:=Tryz.func276.trans (congrArg some (by kernel_rfl))
 f318:=Tryz.func278.trans (congrArg some (by kernel_rfl))
 f319:=Tryz.func279.trans (congrArg some (by kernel_rfl))
 f320:=Tryz.func280.trans (congrArg some (by kernel_rfl))
 f337:=Tryz.func293.trans (congrArg some (by kernel_rfl))
 f338:=Tryz.func294.trans (congrArg some (by kernel_rfl))
 t0:=Tryz.underlying0
 a0:=Tryz.isAgg0
 z0:=Tryz.sizeOf0
 v0:=Tryz.zeroValue0
 t2:=Tryz.underlying2
 a2:=Tryz.isAgg2
 z2:=Tryz.sizeOf2
 v2:=Tryz.zeroValue2
 t3:=Tryz.underlying3
 a3:=Tryz.isAgg3
 z3:=Tryz.sizeOf3
 v3:=Tryz.zeroValue3
 t4:=Tryz.underlying4
 a4:=Tryz.isAgg4
 z4:=Tryz.sizeOf4
 v4:=Tryz.zeroValue4
 t5:=Tryz.underlying5
 a5:=Tryz.isAgg5
 z5:=Tryz.sizeOf5
 v5:=Tryz.zeroValue5
 t9:=Tryz.underlying9
 a9:=Tryz.isAgg9
 z9:=Tryz.sizeOf9
 v9:=Tryz.zeroValue9
 t20:=Tryz.underlying20
 a20:=Tryz.isAgg20
 z20:=Tryz.sizeOf20
 v20:=Tryz.zeroValue20
 t37:=Tryz.underlying44
 a37:=Tryz.isAgg44
 z37:=Tryz.sizeOf44
 v37:=Tryz.zeroValue44
 t46:=Tryz.underlying179
 a46:=Tryz.isAgg179
 z46:=Tryz.sizeOf179
 v46:=Tryz.zeroValue179
 t51:=Tryz.underlying258
 a51:=Tryz.isAgg258
 z51:=Tryz.sizeOf258
 v51:=Tryz.zeroValue258
 t53:=Tryz.underlying176
 a53:=Tryz.isAgg176
 z53:=Tryz.sizeOf176
 v53:=Tryz.zeroValue176
 t171:=Tryz.underlying238
 a171:=Tryz.isAgg238
 z171:=Tryz.sizeOf238
 v171:=Tryz.zeroValue238
 t173:=Tryz.underlying241
 a173:=Tryz.isAgg241
 z173:=Tryz.sizeOf241
 v173:=Tryz.zeroValue241
 t212:=Tryz.underlying257
 a212:=Tryz.isAgg257
 z212:=Tryz.sizeOf257
 v212:=Tryz.zeroValue257
 t213:=Tryz.underlying259
 a213:=Tryz.isAgg259
 z213:=Tryz.sizeOf259
 t232:=Tryz.underlying282
 a232:=Tryz.isAgg282
 z232:=Tryz.sizeOf282
 v232:=Tryz.zeroValue282
 t233:=Tryz.underlying283
 a233:=Tryz.isAgg283
 z233:=Tryz.sizeOf283
 v233:=Tryz.zeroValue283
 g17:=by kernel_rfl
 g18:=by kernel_rfl
 g19:=by kernel_rfl
 i0:=by kernel_rfl
 i2:=by kernel_rfl
 i3:=by kernel_rfl
 i4:=by kernel_rfl
 i5:=by kernel_rfl
 i9:=by kernel_rfl
 i20:=by kernel_rfl
 i37:=by kernel_rfl
 i46:=by kernel_rfl
 i51:=by kernel_rfl
 i53:=by kernel_rfl
 i171:=by kernel_rfl
 i173:=by kernel_rfl
 i212:=by kernel_rfl
 i232:=by kernel_rfl
 i233:=by kernel_rfl
 m17:=by kernel_rfl
 m18:=by kernel_rfl
 m19:=by kernel_rfl}
end Go.Proofs
namespace Go.Proofs.YtnodjiikdgmeaaaGreatDoor.Abs
open Go Go.Shelf Go.RowKit Go.Lib
def Ma:iU:=("internal/strconv.uint64pow10",fun a=>a=(Lib.pow10Tab.map fun z=>Value.int .u64 z).toArray)
theorem Tm {l:List iU} (hm:Ma∈l) : ∀(args:List SV) (tab:aH) (z:(Sh.pair (.val .str) .unit).den×Sh.unit.den),C5 args tab=some z→iB (fo Tryz.prog l) Tryz.prog lQ args tab z:=by
 intro args tab z hz
 unfold C5 at hz
 split at hz
 ·rename_i n b
  split at hz
  ·rename_i h
   obtain⟨hb,h0,h1⟩:=h
   cases hz
   refine kT (sh := .pair (.val .str) .unit) (fun _=>rfl) ?_ (fun _ _ h=>h.none)
   intro w Pr γ us hG _ hu
   cases hu with
   | cons a k =>
    cases k with
    | cons c k =>
     cases k
     obtain rfl:=eA a
     obtain rfl:=eA c
     rw[show b=(10:Int) from hb]
     refine(Any.strconv_FormatInt_10 Tryz.layFmt n h0 h1 w (by obtain⟨⟨a,h1,h2⟩,_⟩:=hG Ma hm; rw[show a=_ from h2] at h1; exact h1)).mono ?_
     rintro e w' ⟨rfl,q,os,rfl⟩
     exact⟨[_],rfl,⟨[_],[],rfl,rfl,rfl⟩,below_grow _ w (Nat.le_refl _) q os⟩
  ·cases hz
 ·cases hz
end Go.Proofs.YtnodjiikdgmeaaaGreatDoor.Abs
namespace Go.Proofs
open Go.Shelf Go.RowKit Go.Lib
def Tryz.layTrimLeft_ren:Go.Shelf.Ren:=⟨fun | 161=>165 | 231=>206 | 227=>207 | 233=>208 | 235=>209 | 228=>258 | 197=>259 | 151=>260 | 260=>285 | 152=>286 | 137=>297 | 119=>298 | 224=>299 | 225=>300 | 217=>307 | 266=>313 | n=>n,fun | 9=>9 | 4=>4 | 3=>3 | 5=>5 | 117=>208 | 116=>207 | 0=>0 | 124=>211 | 105=>246 | 21=>21 | 119=>270 | 46=>179 | 139=>273 | 138=>272 | n=>n,fun | 3=>3 | 4=>4 | n=>n⟩
theorem Tryz.layTrimLeft:Go.Proofs.Lays.n161 Tryz.prog Tryz.layTrimLeft_ren:={
 mixed:=by kernel_rfl
 f119:=Tryz.func298.trans (congrArg some (by kernel_rfl))
 f137:=Tryz.func297.trans (congrArg some (by kernel_rfl))
 f151:=Tryz.func260.trans (congrArg some (by kernel_rfl))
 f152:=Tryz.func286.trans (congrArg some (by kernel_rfl))
 f161:=Tryz.func165.trans (congrArg some (by kernel_rfl))
 f197:=Tryz.func259.trans (congrArg some (by kernel_rfl))
 f217:=Tryz.func307.trans (congrArg some (by kernel_rfl))
 f224:=Tryz.func299.trans (congrArg some (by kernel_rfl))
 f225:=Tryz.func300.trans (congrArg some (by kernel_rfl))
 f227:=Tryz.func207.trans (congrArg some (by kernel_rfl))
 f228:=Tryz.func258.trans (congrArg some (by kernel_rfl))
 f231:=Tryz.func206.trans (congrArg some (by kernel_rfl))
 f233:=Tryz.func208.trans (congrArg some (by kernel_rfl))
 f235:=Tryz.func209.trans (congrArg some (by kernel_rfl))
 f260:=Tryz.func285.trans (congrArg some (by kernel_rfl))
 f266:=Tryz.func313.trans (congrArg some (by kernel_rfl))
 t0:=Tryz.underlying0
 a0:=Tryz.isAgg0
 z0:=Tryz.sizeOf0
 v0:=Tryz.zeroValue0
 t3:=Tryz.underlying3
 a3:=Tryz.isAgg3
 z3:=Tryz.sizeOf3
 v3:=Tryz.zeroValue3
 t4:=Tryz.underlying4
 a4:=Tryz.isAgg4
 z4:=Tryz.sizeOf4
 v4:=Tryz.zeroValue4
 t5:=Tryz.underlying5
 a5:=Tryz.isAgg5
 z5:=Tryz.sizeOf5
 v5:=Tryz.zeroValue5
 t9:=Tryz.underlying9
 a9:=Tryz.isAgg9
 z9:=Tryz.sizeOf9
 v9:=Tryz.zeroValue9
 t21:=Tryz.underlying21
 a21:=Tryz.isAgg21
 z21:=Tryz.sizeOf21
 v21:=Tryz.zeroValue21
 t46:=Tryz.underlying179
 a46:=Tryz.isAgg179
 z46:=Tryz.sizeOf179
 v46:=Tryz.zeroValue179
 t105:=Tryz.underlying246
 a105:=Tryz.isAgg246
 z105:=Tryz.sizeOf246
 v105:=Tryz.zeroValue246
 t116:=Tryz.underlying207
 a116:=Tryz.isAgg207
 z116:=Tryz.sizeOf207
 t117:=Tryz.underlying208
 a117:=Tryz.isAgg208
 z117:=Tryz.sizeOf208
 v117:=Tryz.zeroValue208
 t119:=Tryz.underlying270
 a119:=Tryz.isAgg270
 z119:=Tryz.sizeOf270
 t124:=Tryz.underlying211
 a124:=Tryz.isAgg211
 z124:=Tryz.sizeOf211
 v124:=Tryz.zeroValue211
 t138:=Tryz.underlying272
 a138:=Tryz.isAgg272
 z138:=Tryz.sizeOf272
 v138:=Tryz.zeroValue272
 t139:=Tryz.underlying273
 a139:=Tryz.isAgg273
 z139:=Tryz.sizeOf273
 v139:=Tryz.zeroValue273
 g3:=by kernel_rfl
 g4:=by kernel_rfl}
end Go.Proofs
namespace Go.Proofs.YtnodjiikdgmeaaaGreatDoor.Abs
open Go Go.Shelf Go.RowKit Go.Lib
theorem H1 {l:List iU} : ∀(args:List SV) (tab:aH) (z:(Sh.pair (.val .str) .unit).den×Sh.unit.den),pV args tab=some z→iB (fo Tryz.prog l) Tryz.prog mm args tab z:=by
 intro args tab z hz
 unfold pV at hz
 split at hz
 ·rename_i s c
  split at hz
  ·rename_i h
   cases hz
   refine kT (sh := .pair (.val .str) .unit) (fun _=>rfl) ?_ (fun _ _ h=>h.none)
   intro w Pr γ us hG _ hu
   cases hu with
   | cons a k =>
    cases k with
    | cons b k =>
     cases k
     obtain rfl:=fk a
     obtain rfl:=fk b
     obtain⟨h1,h2⟩:=LM h
     refine(Any.strings_TrimLeft_laid Tryz.layTrimLeft (by kernel_rfl) s c w h1 h2).mono ?_
     rintro e w' ⟨rfl,hB⟩
     exact⟨[_],rfl,⟨[_],[],rfl,rfl,rfl⟩,hB⟩
  ·cases hz
 ·cases hz
end Go.Proofs.YtnodjiikdgmeaaaGreatDoor.Abs
namespace Go.Proofs
open Go.Shelf Go.RowKit Go.Lib
def Tryz.layTrim_ren:Go.Shelf.Ren:=⟨fun | 160=>215 | 232=>266 | 231=>206 | 227=>207 | 234=>267 | 233=>208 | 236=>268 | 235=>209 | 228=>258 | 271=>291 | 151=>260 | 197=>259 | 120=>305 | 152=>286 | 260=>285 | 137=>297 | 119=>298 | 224=>299 | 225=>300 | 217=>307 | 266=>313 | n=>n,fun | 9=>9 | 4=>4 | 3=>3 | 5=>5 | 117=>208 | 116=>207 | 0=>0 | 124=>211 | 21=>21 | 105=>246 | 46=>179 | 119=>270 | 139=>273 | 138=>272 | n=>n,fun | 3=>3 | 4=>4 | n=>n⟩
theorem Tryz.layTrim:Go.Proofs.Lays.n160 Tryz.prog Tryz.layTrim_ren:={
 mixed:=by kernel_rfl
 f119:=Tryz.func298.trans (congrArg some (by kernel_rfl))
 f120:=Tryz.func305.trans (congrArg some (by kernel_rfl))
 f137:=Tryz.func297.trans (congrArg some (by kernel_rfl))
 f151:=Tryz.func260.trans (congrArg some (by kernel_rfl))
 f152:=Tryz.func286.trans (congrArg some (by kernel_rfl))
 f160:=Tryz.func215.trans (congrArg some (by kernel_rfl))
 f197:=Tryz.func259.trans (congrArg some (by kernel_rfl))
 f217:=Tryz.func307.trans (congrArg some (by kernel_rfl))
 f224:=Tryz.func299.trans (congrArg some (by kernel_rfl))
 f225:=Tryz.func300.trans (congrArg some (by kernel_rfl))
 f227:=Tryz.func207.trans (congrArg some (by kernel_rfl))
 f228:=Tryz.func258.trans (congrArg some (by kernel_rfl))
 f231:=Tryz.func206.trans (congrArg some (by kernel_rfl))
 f232:=Tryz.func266.trans (congrArg some (by kernel_rfl))
 f233:=Tryz.func208.trans (congrArg some (by kernel_rfl))
 f234:=Tryz.func267.trans (congrArg some (by kernel_rfl))
 f235:=Tryz.func209.trans (congrArg some (by kernel_rfl))
 f236:=Tryz.func268.trans (congrArg some (by kernel_rfl))
 f260:=Tryz.func285.trans (congrArg some (by kernel_rfl))
 f266:=Tryz.func313.trans (congrArg some (by kernel_rfl))
 f271:=Tryz.func291.trans (congrArg some (by kernel_rfl))
 t0:=Tryz.underlying0
 a0:=Tryz.isAgg0
 z0:=Tryz.sizeOf0
 v0:=Tryz.zeroValue0
 t3:=Tryz.underlying3
 a3:=Tryz.isAgg3
 z3:=Tryz.sizeOf3
 v3:=Tryz.zeroValue3
 t4:=Tryz.underlying4
 a4:=Tryz.isAgg4
 z4:=Tryz.sizeOf4
 v4:=Tryz.zeroValue4
 t5:=Tryz.underlying5
 a5:=Tryz.isAgg5
 z5:=Tryz.sizeOf5
 v5:=Tryz.zeroValue5
 t9:=Tryz.underlying9
 a9:=Tryz.isAgg9
 z9:=Tryz.sizeOf9
 v9:=Tryz.zeroValue9
 t21:=Tryz.underlying21
 a21:=Tryz.isAgg21
 z21:=Tryz.sizeOf21
 v21:=Tryz.zeroValue21
 t46:=Tryz.underlying179
 a46:=Tryz.isAgg179
 z46:=Tryz.sizeOf179
 v46:=Tryz.zeroValue179
 t105:=Tryz.underlying246
 a105:=Tryz.isAgg246
 z105:=Tryz.sizeOf246
 v105:=Tryz.zeroValue246
 t116:=Tryz.underlying207
 a116:=Tryz.isAgg207
 z116:=Tryz.sizeOf207
 t117:=Tryz.underlying208
 a117:=Tryz.isAgg208
 z117:=Tryz.sizeOf208
 v117:=Tryz.zeroValue208
 t119:=Tryz.underlying270
 a119:=Tryz.isAgg270
 z119:=Tryz.sizeOf270
 t124:=Tryz.underlying211
 a124:=Tryz.isAgg211
 z124:=Tryz.sizeOf211
 v124:=Tryz.zeroValue211
 t138:=Tryz.underlying272
 a138:=Tryz.isAgg272
 z138:=Tryz.sizeOf272
 v138:=Tryz.zeroValue272
 t139:=Tryz.underlying273
 a139:=Tryz.isAgg273
 z139:=Tryz.sizeOf273
 v139:=Tryz.zeroValue273
 g3:=by kernel_rfl
 g4:=by kernel_rfl}
end Go.Proofs
namespace Go.Proofs.YtnodjiikdgmeaaaGreatDoor.Abs
open Go Go.Shelf Go.RowKit Go.Lib
theorem QQ {l:List iU} : ∀(args:List SV) (tab:aH) (z:(Sh.pair (.val .str) .unit).den×Sh.unit.den),zF args tab=some z→iB (fo Tryz.prog l) Tryz.prog ri args tab z:=by
 intro args tab z hz
 unfold zF at hz
 split at hz
 ·rename_i s c
  split at hz
  ·rename_i h
   cases hz
   refine kT (sh := .pair (.val .str) .unit) (fun _=>rfl) ?_ (fun _ _ h=>h.none)
   intro w Pr γ us hG _ hu
   cases hu with
   | cons a k =>
    cases k with
    | cons b k =>
     cases k
     obtain rfl:=fk a
     obtain rfl:=fk b
     obtain⟨h1,h2⟩:=LM h.1
     refine(Any.strings_Trim_laid Tryz.layTrim (by kernel_rfl) s c w h.2 h1 h2).mono ?_
     rintro e w' ⟨rfl,hB⟩
     exact⟨[_],rfl,⟨[_],[],rfl,rfl,rfl⟩,hB⟩
  ·cases hz
 ·cases hz
end Go.Proofs.YtnodjiikdgmeaaaGreatDoor.Abs
namespace Go.Proofs
open Go.Shelf Go.RowKit Go.Lib
def Tryz.layCut_ren:Go.Shelf.Ren:=⟨fun | 145=>281 | 220=>295 | 219=>306 | 217=>307 | 225=>300 | 224=>299 | 267=>312 | 266=>313 | 314=>318 | n=>n,fun | 9=>9 | 4=>4 | 59=>261 | 3=>3 | 5=>5 | 46=>179 | 146=>288 | 51=>258 | n=>n,fun | 1=>7 | n=>n⟩
theorem Tryz.layCut:Go.Proofs.LaysM.n145 Tryz.prog Tryz.layCut_ren:={
 mixed:=by kernel_rfl
 f145:=Tryz.func281.trans (congrArg some (by kernel_rfl))
 f217:=Tryz.func307.trans (congrArg some (by kernel_rfl))
 f219:=Tryz.func306.trans (congrArg some (by kernel_rfl))
 f220:=Tryz.func295.trans (congrArg some (by kernel_rfl))
 f224:=Tryz.func299.trans (congrArg some (by kernel_rfl))
 f225:=Tryz.func300.trans (congrArg some (by kernel_rfl))
 f266:=Tryz.func313.trans (congrArg some (by kernel_rfl))
 f267:=Tryz.func312.trans (congrArg some (by kernel_rfl))
 f314:=Tryz.func318.trans (congrArg some (by kernel_rfl))
 t3:=Tryz.underlying3
 a3:=Tryz.isAgg3
 z3:=Tryz.sizeOf3
 v3:=Tryz.zeroValue3
 t4:=Tryz.underlying4
 a4:=Tryz.isAgg4
 z4:=Tryz.sizeOf4
 v4:=Tryz.zeroValue4
 t5:=Tryz.underlying5
 a5:=Tryz.isAgg5
 z5:=Tryz.sizeOf5
 v5:=Tryz.zeroValue5
 t9:=Tryz.underlying9
 a9:=Tryz.isAgg9
 z9:=Tryz.sizeOf9
 v9:=Tryz.zeroValue9
 t46:=Tryz.underlying179
 a46:=Tryz.isAgg179
 z46:=Tryz.sizeOf179
 v46:=Tryz.zeroValue179
 t51:=Tryz.underlying258
 a51:=Tryz.isAgg258
 z51:=Tryz.sizeOf258
 v51:=Tryz.zeroValue258
 t59:=Tryz.underlying261
 a59:=Tryz.isAgg261
 z59:=Tryz.sizeOf261
 v59:=Tryz.zeroValue261
 t146:=Tryz.underlying288
 a146:=Tryz.isAgg288
 z146:=Tryz.sizeOf288
 v146:=Tryz.zeroValue288
 g1:=by kernel_rfl
 i3:=by kernel_rfl
 i4:=by kernel_rfl
 i5:=by kernel_rfl
 i9:=by kernel_rfl
 i46:=by kernel_rfl
 i51:=by kernel_rfl
 i59:=by kernel_rfl
 i146:=by kernel_rfl
 m1:=by kernel_rfl
 s1_3:=fun w h=>Go.Proofs.cell_of_shapedOpen_int (zero := #[.int .i64 0]) (t:=3) h (of_decide_eq_true (by kernel_rfl)) (by kernel_rfl) rfl (by kernel_rfl) (by kernel_rfl) Tryz.underlying3}
end Go.Proofs
namespace Go.Proofs.YtnodjiikdgmeaaaGreatDoor.Abs
open Go Go.Shelf Go.RowKit Go.Lib
theorem Tn {l:List iU} (hm:xW "internal/bytealg.MaxLen" ∈ l) : ∀(args:List SV) (tab:aH) (z:(Sh.pair (.val .str) (.pair (.val .str) (.pair (.val .bool) .unit))).den×Sh.unit.den),C6 args tab=some z→iB (fo Tryz.prog l) Tryz.prog to args tab z:=by
 intro args tab z hz
 unfold C6 at hz
 split at hz
 ·rename_i s c
  split at hz
  ·rename_i h
   cases hz
   refine kT (sh := .pair (.val .str) (.pair (.val .str) (.pair (.val .bool) .unit))) (fun _=>rfl) ?_ (fun _ _ h=>h.none)
   intro w Pr γ us hG _ hu
   cases hu with
   | cons a k =>
    cases k with
    | cons b k =>
     cases k
     obtain rfl:=fk a
     obtain rfl:=fk b
     obtain⟨m,hc⟩:=D4 hG hm Tryz.layCut.m1
     refine(Any.strings_Cut {Tryz.layCut with} s c m w h hc).mono ?_
     rintro e w' ⟨rfl,n,rfl⟩
     exact⟨[_,_,_],rfl,⟨[_],_,rfl,rfl,[_],_,rfl,rfl,[_],_,rfl,rfl,rfl⟩,rfl,rfl,rfl,Nat.le_refl _,fun _ _=>rfl⟩
  ·cases hz
 ·cases hz
end Go.Proofs.YtnodjiikdgmeaaaGreatDoor.Abs
namespace Go.Proofs
open Go.Shelf Go.RowKit Go.Lib
def Tryz.layReplace_ren:Go.Shelf.Ren:=⟨fun | 155=>289 | 154=>301 | 138=>308 | 165=>302 | 143=>309 | 166=>303 | 197=>259 | 169=>304 | 195=>314 | 218=>315 | 240=>310 | 241=>311 | 219=>306 | 260=>285 | 276=>316 | 277=>317 | 217=>307 | 225=>300 | 224=>299 | 267=>312 | 266=>313 | 314=>318 | n=>n,fun | 9=>9 | 3=>3 | 4=>4 | 72=>279 | 0=>0 | 76=>280 | 105=>246 | 21=>21 | 5=>5 | 70=>277 | 20=>20 | 37=>44 | 75=>102 | 127=>234 | 164=>285 | 46=>179 | 119=>270 | 139=>273 | 138=>272 | 146=>288 | 51=>258 | 80=>119 | n=>n,fun | 1=>7 | 3=>3 | 4=>4 | n=>n⟩
theorem Tryz.layReplace:Go.Proofs.LaysM.n155 Tryz.prog Tryz.layReplace_ren:={
 mixed:=by kernel_rfl
 f138:=Tryz.func308.trans (congrArg some (by kernel_rfl))
 f143:=Tryz.func309.trans (congrArg some (by kernel_rfl))
 f154:=Tryz.func301.trans (congrArg some (by kernel_rfl))
 f155:=Tryz.func289.trans (congrArg some (by kernel_rfl))
 f165:=Tryz.func302.trans (congrArg some (by kernel_rfl))
 f166:=Tryz.func303.trans (congrArg some (by kernel_rfl))
 f169:=Tryz.func304.trans (congrArg some (by kernel_rfl))
 f195:=Tryz.func314.trans (congrArg some (by kernel_rfl))
 f197:=Tryz.func259.trans (congrArg some (by kernel_rfl))
 f217:=Tryz.func307.trans (congrArg some (by kernel_rfl))
 f218:=Tryz.func315.trans (congrArg some (by kernel_rfl))
 f219:=Tryz.func306.trans (congrArg some (by kernel_rfl))
 f224:=Tryz.func299.trans (congrArg some (by kernel_rfl))
 f225:=Tryz.func300.trans (congrArg some (by kernel_rfl))
 f240:=Tryz.func310.trans (congrArg some (by kernel_rfl))
 f241:=Tryz.func311.trans (congrArg some (by kernel_rfl))
 f260:=Tryz.func285.trans (congrArg some (by kernel_rfl))
 f266:=Tryz.func313.trans (congrArg some (by kernel_rfl))
 f267:=Tryz.func312.trans (congrArg some (by kernel_rfl))
 f276:=Tryz.func316.trans (congrArg some (by kernel_rfl))
 f277:=Tryz.func317.trans (congrArg some (by kernel_rfl))
 f314:=Tryz.func318.trans (congrArg some (by kernel_rfl))
 t0:=Tryz.underlying0
 a0:=Tryz.isAgg0
 z0:=Tryz.sizeOf0
 v0:=Tryz.zeroValue0
 t3:=Tryz.underlying3
 a3:=Tryz.isAgg3
 z3:=Tryz.sizeOf3
 v3:=Tryz.zeroValue3
 t4:=Tryz.underlying4
 a4:=Tryz.isAgg4
 z4:=Tryz.sizeOf4
 v4:=Tryz.zeroValue4
 t5:=Tryz.underlying5
 a5:=Tryz.isAgg5
 z5:=Tryz.sizeOf5
 v5:=Tryz.zeroValue5
 t9:=Tryz.underlying9
 a9:=Tryz.isAgg9
 z9:=Tryz.sizeOf9
 v9:=Tryz.zeroValue9
 t20:=Tryz.underlying20
 a20:=Tryz.isAgg20
 z20:=Tryz.sizeOf20
 v20:=Tryz.zeroValue20
 t21:=Tryz.underlying21
 a21:=Tryz.isAgg21
 z21:=Tryz.sizeOf21
 v21:=Tryz.zeroValue21
 t37:=Tryz.underlying44
 a37:=Tryz.isAgg44
 z37:=Tryz.sizeOf44
 v37:=Tryz.zeroValue44
 t46:=Tryz.underlying179
 a46:=Tryz.isAgg179
 z46:=Tryz.sizeOf179
 v46:=Tryz.zeroValue179
 t51:=Tryz.underlying258
 a51:=Tryz.isAgg258
 z51:=Tryz.sizeOf258
 v51:=Tryz.zeroValue258
 t70:=Tryz.underlying277
 a70:=Tryz.isAgg277
 z70:=Tryz.sizeOf277
 v70:=Tryz.zeroValue277
 t72:=Tryz.underlying279
 a72:=Tryz.isAgg279
 z72:=Tryz.sizeOf279
 v72:=Tryz.zeroValue279
 t75:=Tryz.underlying102
 a75:=Tryz.isAgg102
 z75:=Tryz.sizeOf102
 v75:=Tryz.zeroValue102
 t76:=Tryz.underlying280
 a76:=Tryz.isAgg280
 z76:=Tryz.sizeOf280
 v76:=Tryz.zeroValue280
 t105:=Tryz.underlying246
 a105:=Tryz.isAgg246
 z105:=Tryz.sizeOf246
 v105:=Tryz.zeroValue246
 t119:=Tryz.underlying270
 a119:=Tryz.isAgg270
 z119:=Tryz.sizeOf270
 t127:=Tryz.underlying234
 a127:=Tryz.isAgg234
 z127:=Tryz.sizeOf234
 v127:=Tryz.zeroValue234
 t138:=Tryz.underlying272
 a138:=Tryz.isAgg272
 z138:=Tryz.sizeOf272
 v138:=Tryz.zeroValue272
 t139:=Tryz.underlying273
 a139:=Tryz.isAgg273
 z139:=Tryz.sizeOf273
 v139:=Tryz.zeroValue273
 t146:=Tryz.underlying288
 a146:=Tryz.isAgg288
 z146:=Tryz.sizeOf288
 v146:=Tryz.zeroValue288
 t164:=Tryz.underlying285
 a164:=Tryz.isAgg285
 z164:=Tryz.sizeOf285
 v164:=Tryz.zeroValue285
 g1:=by kernel_rfl
 g3:=by kernel_rfl
 g4:=by kernel_rfl
 t80:=Tryz.underlying119
 a80:=Tryz.isAgg119
 z80:=Tryz.sizeOf119
 v80:=Tryz.zeroValue119
 i0:=by kernel_rfl
 i3:=by kernel_rfl
 i4:=by kernel_rfl
 i5:=by kernel_rfl
 i9:=by kernel_rfl
 i20:=by kernel_rfl
 i21:=by kernel_rfl
 i37:=by kernel_rfl
 i46:=by kernel_rfl
 i51:=by kernel_rfl
 i70:=by kernel_rfl
 i72:=by kernel_rfl
 i75:=by kernel_rfl
 i76:=by kernel_rfl
 i80:=by kernel_rfl
 i105:=by kernel_rfl
 i127:=by kernel_rfl
 i138:=by kernel_rfl
 i139:=by kernel_rfl
 i146:=by kernel_rfl
 i164:=by kernel_rfl
 m1:=by kernel_rfl
 s1_3:=fun w h=>Go.Proofs.cell_of_shapedOpen_int (zero := #[.int .i64 0]) (t:=3) h (of_decide_eq_true (by kernel_rfl)) (by kernel_rfl) rfl (by kernel_rfl) (by kernel_rfl) Tryz.underlying3
 m3:=by kernel_rfl
 m4:=by kernel_rfl}
def Tryz.layExtra_ren:Go.Shelf.Ren:=⟨fun | 155=>289 | 154=>301 | 138=>308 | 165=>302 | 143=>309 | 166=>303 | 197=>259 | 169=>304 | 195=>314 | 218=>315 | 240=>310 | 241=>311 | 219=>306 | 260=>285 | 276=>316 | 277=>317 | 217=>307 | 225=>300 | 224=>299 | 267=>312 | 266=>313 | 314=>318 | n=>n,fun | 9=>9 | 3=>3 | 4=>4 | 72=>279 | 0=>0 | 76=>280 | 105=>246 | 21=>21 | 5=>5 | 70=>277 | 20=>20 | 37=>44 | 75=>102 | 127=>234 | 164=>285 | 46=>179 | 119=>270 | 139=>273 | 138=>272 | 146=>288 | 51=>258 | 80=>119 | n=>n,fun | 1=>7 | 3=>3 | 4=>4 | n=>n⟩
theorem Tryz.layExtra:Go.Proofs.Builder.Extra Tryz.prog Tryz.layExtra_ren:={
 sizeBuilder:=by kernel_rfl
 liesBuilder:=by kernel_rfl
 t5:=Tryz.underlying5
 a5:=Tryz.isAgg5
 z5:=Tryz.sizeOf5
 v5:=Tryz.zeroValue5
 infoByte:=by kernel_rfl
 cellsByte:=by kernel_rfl
 sizeByte:=by kernel_rfl
 neB5:=by decide}
end Go.Proofs
namespace Go.Proofs.YtnodjiikdgmeaaaGreatDoor.Abs
open Go Go.Shelf Go.RowKit Go.Lib
theorem Kn {l:List iU} (hm:xW "internal/bytealg.MaxLen" ∈ l) : ∀(args:List SV) (tab:aH) (z:(Sh.pair (.val .str) .unit).den×Sh.unit.den),rV args tab=some z→iB (fo Tryz.prog l) Tryz.prog kV args tab z:=by
 intro args tab z hz
 unfold rV at hz
 split at hz
 ·rename_i s c d
  split at hz
  ·rename_i h
   cases hz
   refine kT (sh:=Sh.pair (.val .str) .unit) (fun _=>rfl) ?_ (fun _ _ h=>h.none)
   intro w Pr γ us hG hPr hu
   cases hu with
   | cons a k =>
    cases k with
    | cons b k =>
     cases k with
     | cons c k =>
      cases k
      obtain rfl:=fk a
      obtain rfl:=fk b
      obtain rfl:=fk c
      obtain⟨m,hc⟩:=D4 hG hm Tryz.layReplace.m1
      refine(Any.strings_ReplaceAll {Tryz.layReplace with} Tryz.layExtra s _ _ m w h.1 hc h.2.1 h.2.2).mono ?_
      rintro e w' ⟨rfl,hB⟩
      exact⟨[_],rfl,⟨[_],[],rfl,rfl,rfl⟩,hB⟩
  ·cases hz
 ·cases hz
end Go.Proofs.YtnodjiikdgmeaaaGreatDoor.Abs
namespace Go.Proofs
open Go.Shelf Go.RowKit Go.Lib
def Tryz.layJoin_ren:Go.Shelf.Ren:=⟨fun | 156=>290 | 165=>302 | 166=>303 | 169=>304 | 240=>310 | 241=>311 | 276=>316 | 277=>317 | n=>n,fun | 31=>143 | 9=>9 | 3=>3 | 4=>4 | 0=>0 | 20=>20 | 72=>279 | 76=>280 | 70=>277 | 37=>44 | 75=>102 | 127=>234 | 164=>285 | 5=>5 | 80=>119 | n=>n,fun | n=>n⟩
theorem Tryz.layJoin:Go.Proofs.Lays.n156 Tryz.prog Tryz.layJoin_ren:={
 mixed:=by kernel_rfl
 f156:=Tryz.func290.trans (congrArg some (by kernel_rfl))
 f165:=Tryz.func302.trans (congrArg some (by kernel_rfl))
 f166:=Tryz.func303.trans (congrArg some (by kernel_rfl))
 f169:=Tryz.func304.trans (congrArg some (by kernel_rfl))
 f240:=Tryz.func310.trans (congrArg some (by kernel_rfl))
 f241:=Tryz.func311.trans (congrArg some (by kernel_rfl))
 f276:=Tryz.func316.trans (congrArg some (by kernel_rfl))
 f277:=Tryz.func317.trans (congrArg some (by kernel_rfl))
 t0:=Tryz.underlying0
 a0:=Tryz.isAgg0
 z0:=Tryz.sizeOf0
 v0:=Tryz.zeroValue0
 t3:=Tryz.underlying3
 a3:=Tryz.isAgg3
 z3:=Tryz.sizeOf3
 v3:=Tryz.zeroValue3
 t4:=Tryz.underlying4
 a4:=Tryz.isAgg4
 z4:=Tryz.sizeOf4
 v4:=Tryz.zeroValue4
 t9:=Tryz.underlying9
 a9:=Tryz.isAgg9
 z9:=Tryz.sizeOf9
 v9:=Tryz.zeroValue9
 t20:=Tryz.underlying20
 a20:=Tryz.isAgg20
 z20:=Tryz.sizeOf20
 v20:=Tryz.zeroValue20
 t31:=Tryz.underlying143
 a31:=Tryz.isAgg143
 z31:=Tryz.sizeOf143
 v31:=Tryz.zeroValue143
 t37:=Tryz.underlying44
 a37:=Tryz.isAgg44
 z37:=Tryz.sizeOf44
 v37:=Tryz.zeroValue44
 t70:=Tryz.underlying277
 a70:=Tryz.isAgg277
 z70:=Tryz.sizeOf277
 v70:=Tryz.zeroValue277
 t72:=Tryz.underlying279
 a72:=Tryz.isAgg279
 z72:=Tryz.sizeOf279
 v72:=Tryz.zeroValue279
 t75:=Tryz.underlying102
 a75:=Tryz.isAgg102
 z75:=Tryz.sizeOf102
 v75:=Tryz.zeroValue102
 t76:=Tryz.underlying280
 a76:=Tryz.isAgg280
 z76:=Tryz.sizeOf280
 v76:=Tryz.zeroValue280
 t127:=Tryz.underlying234
 a127:=Tryz.isAgg234
 z127:=Tryz.sizeOf234
 v127:=Tryz.zeroValue234
 t164:=Tryz.underlying285
 a164:=Tryz.isAgg285
 z164:=Tryz.sizeOf285
 v164:=Tryz.zeroValue285}
theorem Tryz.extraJoin:Builder.Extra Tryz.prog Tryz.layJoin_ren:={
 sizeBuilder:=by kernel_rfl
 liesBuilder:=by kernel_rfl
 t5:=Tryz.underlying5
 a5:=Tryz.isAgg5
 z5:=Tryz.sizeOf5
 v5:=Tryz.zeroValue5
 infoByte:=by kernel_rfl
 cellsByte:=by kernel_rfl
 sizeByte:=by kernel_rfl
 neB5:=by decide}
end Go.Proofs
namespace Go.Proofs.YtnodjiikdgmeaaaGreatDoor.Abs
open Go Go.Shelf Go.RowKit Go.Lib
theorem QR {l:List iU} : ∀(args:List SV) (tab:aH) (z:(Sh.pair (.val .str) .unit).den×Sh.unit.den),zG Vt args tab=some z→iB (fo Tryz.prog l) Tryz.prog rj args tab z:=by
 intro args tab z hz
 unfold zG at hz
 split at hz
 ·rename_i t xs c
  rw[Option.bind_eq_some_iff] at hz
  obtain⟨xs',hxs,hz⟩:=hz
  obtain⟨rfl,hxs⟩:=kn hxs
  have hxs:xs=xs':=hxs
  subst hxs
  split at hz
  ·rename_i h
   obtain⟨h1,h2⟩:=h
   cases hz
   refine kT (sh := .pair (.val .str) .unit) (fun _=>rfl) ?_ (fun _ _ h=>h.none)
   intro w Pr γ us hG hPr hu
   cases hu with
   | cons a k =>
    cases k with
    | cons d k =>
     cases k
     obtain rfl:=fk d
     cases a with
     | val ha =>
      obtain⟨A,cap,rfl,hcap,hA⟩:=ha
      by_cases hx:(xs:List ByteArray)=[]
      ·subst hx
       refine(Any.strings_Join_none Tryz.layJoin Tryz.extraJoin A cap c w).mono ?_
       rintro e w' ⟨rfl,rfl⟩
       exact⟨[_],rfl,⟨[_],[],rfl,rfl,rfl⟩,Below.refl _ _⟩
      ·obtain⟨b,o,rfl,hcells⟩:=hA hx
       have hcell : ∀(j:Nat) x,(xs:List ByteArray)[j]? = some x→Pr b (o+j)∧w.cell? ⟨b,o+j,none⟩=some (.string x):=by
        intro j x hj
        obtain⟨hj1,hj2⟩:=List.getElem?_eq_some_iff.1 hj
        obtain⟨cs,hc1,hc2⟩:=hcells j hj1
        have hc1:cs=[.string (xs:List ByteArray)[j]]:=hc1
        subst hc1
        have:=hc2 0 _ rfl
        have e1:o+j*(Ty.str).sz+0=o+j:=by show o+j*1+0=_; omega
        rw[e1] at this
        rw[←hj2]
        exact this
       have hb:b < w.heap.size:=by
        obtain⟨x,r,hxr⟩ : ∃ x r,(xs:List ByteArray)=x :: r:=by
         cases hq:(xs:List ByteArray) with
         | nil=>exact absurd hq hx
         | cons x r=>exact⟨x,r,rfl⟩
        exact hPr b _ (hcell 0 x (by rw[hxr]; rfl)).1
       refine(Any.strings_Join Tryz.layJoin Tryz.extraJoin b o cap xs c w (fun j x hj=>(hcell j x hj).2) hb h1 hcap h2).mono ?_
       rintro e w' ⟨rfl,hB⟩
       exact⟨[_],rfl,⟨[_],[],rfl,rfl,rfl⟩,hB⟩
  ·cases hz
 ·cases hz
end Go.Proofs.YtnodjiikdgmeaaaGreatDoor.Abs
