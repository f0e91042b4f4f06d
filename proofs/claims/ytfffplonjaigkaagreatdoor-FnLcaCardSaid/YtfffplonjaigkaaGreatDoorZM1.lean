/- strings.Cut: the library's contract, laid at this program. -/
import Derived.Shelf.Strings.Cut
import Derived.Shelf.LaysM
import Derived.Test.YtfffplonjaigkaaGreatDoorZA3
import Derived.Test.YtfffplonjaigkaaGreatDoorZQD
import Derived.Shelf.SortG.Plain
import Derived.Shelf.SortG.SortNone
import Derived.Shelf.Strings.SlTrimAscii
import Derived.Shelf.Strconv.ErrVarParseInt
import Derived.Shelf.Strconv.Itoa4
import Derived.Lib.AppendIntMem
import Derived.Shelf.Strings.Replace
import Derived.Shelf.Strings.OnBuilder
set_option linter.unusedVariables false
set_option linter.unusedSimpArgs false
set_option linter.unusedSectionVars false
open Array renaming getElem?_eq_getElem→U3,getElem?_toList→V4
open Go.Lib renaming parseIntB→Y1
open List renaming eq_nil_of_length_eq_zero→T9
open Nat renaming le_refl→Q6
open Option renaming bind_eq_some_iff→P7
open Option.some renaming inj→U9
open _root_ renaming ByteArray→P0,absurd→S0,congrArg→Q3,if_neg→P4,if_pos→P5,of_decide_eq_true→U8
namespace Go.Proofs
open Go.Shelf Go.RowKit Go.Lib
def Tryz.layCut_ren:Go.Shelf.Ren:=⟨fun | 145=>116 | 220=>177 | 219=>219 | 217=>266 | 225=>267 | 224=>268 | 267=>269 | 266=>314 | 314=>315 | n=>n,fun | 9=>9 | 4=>4 | 59=>139 | 3=>3 | 5=>5 | 46=>203 | 146=>314 | 51=>241 | n=>n,fun | 1=>0 | n=>n⟩
theorem Tryz.layCut:Go.Proofs.LaysM.n145 Tryz.prog Tryz.layCut_ren:={
 mixed:=by kernel_rfl
 f145:=Tryz.func116.trans (Q3 some (by kernel_rfl))
 f217:=Tryz.func266.trans (Q3 some (by kernel_rfl))
 f219:=Tryz.func219.trans (Q3 some (by kernel_rfl))
 f220:=Tryz.func177.trans (Q3 some (by kernel_rfl))
 f224:=Tryz.func268.trans (Q3 some (by kernel_rfl))
 f225:=Tryz.func267.trans (Q3 some (by kernel_rfl))
 f266:=Tryz.func314.trans (Q3 some (by kernel_rfl))
 f267:=Tryz.func269.trans (Q3 some (by kernel_rfl))
 f314:=Tryz.func315.trans (Q3 some (by kernel_rfl))
 t3:=Tryz.underlying3
 a3:=Tryz.isAgg3
 z3:=Tryz.sizeOf3
 v3:=Tryz.zeroValue3
 t4:=Tryz.underlying4
 a4:=Tryz.isAgg4
 z4:=Tryz.sizeOf4
 v4:=Tryz.zeroValue4
 t5:=Tryz.underlying5
 a5:=Tryz.isAgg5
 z5:=Tryz.sizeOf5
 v5:=Tryz.zeroValue5
 t9:=Tryz.underlying9
 a9:=Tryz.isAgg9
 z9:=Tryz.sizeOf9
 v9:=Tryz.zeroValue9
 t46:=Tryz.underlying203
 a46:=Tryz.isAgg203
 z46:=Tryz.sizeOf203
 v46:=Tryz.zeroValue203
 t51:=Tryz.underlying241
 a51:=Tryz.isAgg241
 z51:=Tryz.sizeOf241
 v51:=Tryz.zeroValue241
 t59:=Tryz.underlying139
 a59:=Tryz.isAgg139
 z59:=Tryz.sizeOf139
 v59:=Tryz.zeroValue139
 t146:=Tryz.underlying314
 a146:=Tryz.isAgg314
 z146:=Tryz.sizeOf314
 v146:=Tryz.zeroValue314
 g1:=by kernel_rfl
 i3:=by kernel_rfl
 i4:=by kernel_rfl
 i5:=by kernel_rfl
 i9:=by kernel_rfl
 i46:=by kernel_rfl
 i51:=by kernel_rfl
 i59:=by kernel_rfl
 i146:=by kernel_rfl
 m1:=by kernel_rfl
 s1_3:=fun w h=>Go.Proofs.cell_of_shapedOpen_int (zero := #[.int .i64 0]) (t:=3) h (U8 (by kernel_rfl)) (by kernel_rfl) rfl (by kernel_rfl) (by kernel_rfl) Tryz.underlying3}
end Go.Proofs
namespace Go.Proofs.YtfffplonjaigkaaGreatDoor.Abs
open Go Go.Shelf Go.RowKit Go.Lib
theorem JN {l:List eJ} (hm:rh "internal/bytealg.MaxLen" ∈ l) : ∀(args:List SV) (tab:az) (z:(Sh.pair (.val .str) (.pair (.val .str) (.pair (.val .bool) .unit))).den×Sh.unit.den),wg args tab=some z→ga (dL Tryz.prog l) Tryz.prog jL args tab z:=by
 intro args tab z hz
 unfold wg at hz
 split at hz
 ·rename_i s c
  split at hz
  ·rename_i h
   cases hz
   refine gD (sh := .pair (.val .str) (.pair (.val .str) (.pair (.val .bool) .unit))) (fun _=>rfl) ?_ (fun _ _ h=>h.none)
   intro w Pr γ us hG _ hu
   cases hu with
   | cons a k =>
    cases k with
    | cons b k =>
     cases k
     obtain rfl:=dr a
     obtain rfl:=dr b
     obtain⟨m,hc⟩:=wR hG hm Tryz.layCut.m1
     refine(Any.strings_Cut {Tryz.layCut with} s c m w h hc).mono ?_
     rintro e w' ⟨rfl,n,rfl⟩
     exact⟨[_,_,_],rfl,⟨[_],_,rfl,rfl,[_],_,rfl,rfl,[_],_,rfl,rfl,rfl⟩,rfl,rfl,rfl,Q6 _,fun _ _=>rfl⟩
  ·cases hz
 ·cases hz
end Go.Proofs.YtfffplonjaigkaaGreatDoor.Abs
namespace Go.Proofs
open Go.Shelf Go.RowKit Go.Lib Go.Sort
def Tryz.sortI64_ren:Go.Shelf.Ren:=⟨fun | 53=>139 | 64=>171 | 63=>185 | 78=>216 | 79=>217 | 70=>227 | 71=>228 | 72=>229 | 73=>230 | 74=>231 | 75=>232 | 59=>233 | 76=>234 | 77=>235 | 88=>276 | 89=>262 | 90=>263 | 91=>277 | 92=>278 | 68=>238 | 96=>322 | n=>n,fun | 22=>39 | 23=>2 | 3=>3 | 51=>203 | 0=>0 | 67=>241 | 69=>243 | 4=>4 | 61=>234 | 60=>233 | 44=>238 | 5=>5 | 9=>9 | 75=>276 | 79=>279 | 83=>311 | 84=>312 | n=>n,fun | n=>n⟩
theorem Tryz.sortI64:Go.Proofs.SlLaysN.n53 Tryz.prog Tryz.sortI64_ren:={
 mixed:=by kernel_rfl
 f53:=⟨Tryz.f139.name,by decide,Tryz.func139.trans (Q3 some (by kernel_rfl))⟩
 f59:=⟨Tryz.f233.name,by decide,Tryz.func233.trans (Q3 some (by kernel_rfl))⟩
 f63:=⟨Tryz.f185.name,by decide,Tryz.func185.trans (Q3 some (by kernel_rfl))⟩
 f64:=Tryz.func171.trans (Q3 some (by kernel_rfl))
 f68:=⟨Tryz.f238.name,by decide,Tryz.func238.trans (Q3 some (by kernel_rfl))⟩
 f70:=⟨Tryz.f227.name,by decide,Tryz.func227.trans (Q3 some (by kernel_rfl))⟩
 f71:=⟨Tryz.f228.name,by decide,Tryz.func228.trans (Q3 some (by kernel_rfl))⟩
 f72:=⟨Tryz.f229.name,by decide,Tryz.func229.trans (Q3 some (by kernel_rfl))⟩
 f73:=⟨Tryz.f230.name,by decide,Tryz.func230.trans (Q3 some (by kernel_rfl))⟩
 f74:=⟨Tryz.f231.name,by decide,Tryz.func231.trans (Q3 some (by kernel_rfl))⟩
 f75:=⟨Tryz.f232.name,by decide,Tryz.func232.trans (Q3 some (by kernel_rfl))⟩
 f76:=⟨Tryz.f234.name,by decide,Tryz.func234.trans (Q3 some (by kernel_rfl))⟩
 f77:=⟨Tryz.f235.name,by decide,Tryz.func235.trans (Q3 some (by kernel_rfl))⟩
 f78:=Tryz.func216.trans (Q3 some (by kernel_rfl))
 f79:=Tryz.func217.trans (Q3 some (by kernel_rfl))
 f88:=⟨Tryz.f276.name,by decide,Tryz.func276.trans (Q3 some (by kernel_rfl))⟩
 f89:=Tryz.func262.trans (Q3 some (by kernel_rfl))
 f90:=Tryz.func263.trans (Q3 some (by kernel_rfl))
 f91:=⟨Tryz.f277.name,by decide,Tryz.func277.trans (Q3 some (by kernel_rfl))⟩
 f92:=⟨Tryz.f278.name,by decide,Tryz.func278.trans (Q3 some (by kernel_rfl))⟩
 f96:=⟨Tryz.f322.name,by decide,Tryz.func322.trans (Q3 some (by kernel_rfl))⟩
 t0:=Tryz.underlying0
 a0:=Tryz.isAgg0
 z0:=Tryz.sizeOf0
 v0:=Tryz.zeroValue0
 t3:=Tryz.underlying3
 a3:=Tryz.isAgg3
 z3:=Tryz.sizeOf3
 v3:=Tryz.zeroValue3
 t4:=Tryz.underlying4
 a4:=Tryz.isAgg4
 z4:=Tryz.sizeOf4
 v4:=Tryz.zeroValue4
 t5:=Tryz.underlying5
 a5:=Tryz.isAgg5
 z5:=Tryz.sizeOf5
 v5:=Tryz.zeroValue5
 t9:=Tryz.underlying9
 a9:=Tryz.isAgg9
 z9:=Tryz.sizeOf9
 v9:=Tryz.zeroValue9
 t22:=Tryz.underlying39
 a22:=Tryz.isAgg39
 z22:=Tryz.sizeOf39
 v22:=Tryz.zeroValue39
 t23:=Tryz.underlying2
 a23:=Tryz.isAgg2
 z23:=Tryz.sizeOf2
 v23:=Tryz.zeroValue2
 t44:=Tryz.underlying238
 a44:=Tryz.isAgg238
 z44:=Tryz.sizeOf238
 v44:=Tryz.zeroValue238
 t51:=Tryz.underlying203
 a51:=Tryz.isAgg203
 z51:=Tryz.sizeOf203
 v51:=Tryz.zeroValue203
 t60:=Tryz.underlying233
 a60:=Tryz.isAgg233
 z60:=Tryz.sizeOf233
 v60:=Tryz.zeroValue233
 t61:=Tryz.underlying234
 a61:=Tryz.isAgg234
 z61:=Tryz.sizeOf234
 v61:=Tryz.zeroValue234
 t67:=Tryz.underlying241
 a67:=Tryz.isAgg241
 z67:=Tryz.sizeOf241
 v67:=Tryz.zeroValue241
 t69:=Tryz.underlying243
 a69:=Tryz.isAgg243
 z69:=Tryz.sizeOf243
 v69:=Tryz.zeroValue243
 t75:=Tryz.underlying276
 a75:=Tryz.isAgg276
 z75:=Tryz.sizeOf276
 v75:=Tryz.zeroValue276
 t79:=Tryz.underlying279
 a79:=Tryz.isAgg279
 z79:=Tryz.sizeOf279
 v79:=Tryz.zeroValue279
 t83:=Tryz.underlying311
 a83:=Tryz.isAgg311
 z83:=Tryz.sizeOf311
 v83:=Tryz.zeroValue311
 t84:=Tryz.underlying312
 a84:=Tryz.isAgg312
 z84:=Tryz.sizeOf312
 v84:=Tryz.zeroValue312}
end Go.Proofs
namespace Go.Proofs.YtfffplonjaigkaaGreatDoor.Abs
open Go Go.Shelf Go.RowKit Go.Lib Go.Sort
theorem vg (xs:List Int):(xs.map (uI (.int .i64))).flatten=xs.map (Value.int .i64):=by
 induction xs with
 | nil=>rfl
 | cons x l ih=>rw[List.map_cons,List.flatten_cons,ih]; rfl
theorem JO (cur:Array Value) (d:Array Int) (h:d.size≤cur.size):(Sort.putCells (Value.int .i64) 0 d cur).toList.take d.size=d.toList.map (Value.int .i64):=by
 apply List.ext_getElem?
 intro i
 rw[List.getElem?_take,List.getElem?_map]
 by_cases hi:i < d.size
 ·rw[P5 hi]
  simp only[Sort.putCells,V4,Array.getElem?_mapIdx]
  rw[U3 (by omega),U3 hi]
  simp[hi]
 ·rw[P4 hi,V4,Array.getElem?_eq_none (by omega)]
  rfl
theorem FE {l:List eJ} : ∀(args:List SV) (tab:az) (z:Sh.unit.den×(Sh.pair (.row 2 (.int .i64) false) .unit).den),kv 2 args tab=some z→ga (dL Tryz.prog l) Tryz.prog {g:=139,fn:=Tryz.f139,sh := .unit,bx := .pair (.row 2 (.int .i64) false) .unit,own:=[true],live:=[],rb:=true,prim:=some (kv 2)} args tab z:=by
 intro args tab z hz
 generalize hE:2=e at *
 unfold kv at hz
 split at hz
 ·rename_i e' s xs
  rw[P7] at hz
  obtain⟨xs',hxs,hz⟩:=hz
  obtain⟨hty,hxs⟩:=f9 hxs
  cases hty
  have hxs:xs=xs':=hxs
  subst hxs
  split at hz
  ·rename_i hlen
   cases hz
   intro hcanon w γ Pr us _ hI hlim N hN vs u n bs u' n' ub hm1 hm2 hub
   cases hm1
   cases hm2
   cases hub
   have hN:1≤N:=hN
   obtain⟨v,css,hγ,hels,hown,hfr⟩:=hI.res 0 (.row e (.int .i64) xs false) rfl
   have hsl:=hI.slots
   cases hsl with
   | cons h1 hk =>
   cases hk
   rename_i u1
   cases h1 with
   | row h1 =>
   rw[hγ] at h1
   cases h1
   have hn:cH (.int .i64)=true:=rfl
   have hcss:=(GC hn).1 hels
   have hdl:(xs.mergeSort fun x y=>decide (x≤y)).length=xs.length:=List.length_mergeSort _
   generalize hys:xs.mergeSort (fun x y=>decide (x≤y))=ys at hdl
   have gu : ∀(w':World),w'.os=w.os→w'.tape=w.tape→w'.output=w.output→w.heap.size≤w'.heap.size→(∀ k,k < w.heap.size→v.ownBlock≠some k→w'.heap[k]? = w.heap[k]?) →
     w'.ownsRow 0 e 1 v ys.length (ys.map (uI (.int .i64))).flatten→sw w (ju [(0,.row e (.int .i64) xs false)] γ) γ Pr N (N+1) [] [none] [(N,some (.row e (.int .i64) ys false))] [] (fun r=>if r=N then γ 0 else none) Pr w':=by
    intro w' hos htp hout hsize hfrm hrow
    have hloose : ∀ b,v.ownBlock=some b → ∀ o,¬Pr b o:=fun b hb o ho=>hI.loose 0 (.row e (.int .i64) xs false) b rfl (by simp[bg,hγ,hb]) o ho
    have hnew : ∀ r x,jl [(N,some (aN.row e (.int .i64) ys false))] r=some x→r=N∧x = .row e (.int .i64) ys false:=by
     intro r x h
     have h':(if r=N then some (aN.row e (.int .i64) ys false) else none)=some x:=h
     by_cases hr:r=N
     ·rw[P5 hr] at h'
      exact⟨hr,(U9 h').symm⟩
     ·rw[P4 hr] at h'
      cases h'
    have hblk : ∀ b,bg (fun r=>if r=N then γ 0 else none) N (.row e (.int .i64) ys false)=some b→v.ownBlock=some b:=by
     intro b hb
     simpa[bg,hγ] using hb
    refine⟨.nil,?_,?_,?_,?_,?_,?_,?_,?_,?_,hsize,hos,htp,hout,?_,?_,?_⟩
    ·intro r g hr
     by_cases h:r=N
     ·rw[P5 h,hγ] at hr
      cases hr
      obtain⟨A,n,c,rfl⟩:=hI.gs 0 e (.int .i64) v hγ
      exact⟨⟨by omega,by omega⟩,.inl ⟨e,.int .i64,A,n,c,rfl⟩⟩
     ·rw[P4 h] at hr
      cases hr
    ·intro j t' c hj
     rcases j with _ | j <;> simp at hj
    ·intro r x h
     obtain⟨rfl,rfl⟩:=hnew r x h
     refine⟨Q6 _,Nat.lt_succ_self _,v,ys.map (uI (.int .i64)),?_,(GC hn).2 rfl,hrow,fun h=>by cases h⟩
     exact(P5 rfl).trans hγ
    ·intro r r' x x' b h h' hne
     exact S0 ((hnew r x h).1.trans (hnew r' x' h').1.symm) hne
    ·intro j t' c b hj
     rcases j with _ | j <;> simp at hj
    ·intro j t' c b hj
     rcases j with _ | j <;> simp at hj
    ·intro r x b h hb o ho
     obtain⟨rfl,rfl⟩:=hnew r x h
     exact S0 ho (hloose b (hblk b hb) o)
    ·intro r x b h hb
     obtain⟨rfl,rfl⟩:=hnew r x h
     exact .inl ⟨0,_,rfl,by simp[bg,hγ,hblk b hb]⟩
    ·intro k hk hx
     refine hfrm k hk fun hb=>hx ⟨0,_,rfl,by simp[bg,hγ,hb]⟩
    ·intro b o ho
     exact Nat.lt_of_lt_of_le (hI.prIn b o ho) hsize
    ·exact fun b hb hx o ho=>ho
    ·intro b o v' hv'
     refine⟨hv'.1,?_⟩
     rw[World.cell?_of_block (hfrm b (hI.prIn b o hv'.1) (fun hb=>hloose b hb o hv'.1))]
     exact hv'.2
   have hsame2 : ∀ p∈cu true [(0,aN.row e (.int .i64) xs false)] [SV.row N],(fun r=>if r=N then γ 0 else none) p.1=γ p.2:=by
    intro p hp
    have:p=(N,0):=by simpa[cu] using hp
    subst this
    exact P5 rfl
   subst hE
   by_cases hx0:xs=[]
   ·subst hx0
    have hs0:ys=[]:=T9 (by simpa using hdl)
    have hv0 : ∃ p cap,v = .slice p 0 cap:=by
     rcases hown.2 with⟨rfl,_⟩ | ⟨g,cap,cur,rfl,_⟩
     ·exact⟨_,_,rfl⟩
     ·exact⟨_,_,rfl⟩
    obtain⟨p,cap,rfl⟩:=hv0
    refine(AnyG.slices_Sort_int_none Tryz.sortI64 p cap w).mono ?_
    rintro e' w' ⟨rfl,rfl⟩
    refine⟨[],_,Pr,rfl,gu w' rfl rfl rfl (Q6 _) (fun _ _ _=>rfl) ?_,hsame2⟩
    rw[hs0]
    rw[hcss] at hown
    exact hown
   ·rcases hown.2 with⟨rfl,h0⟩ | ⟨g,cap,cur,rfl,_,hheap,hnc,hcm,hcs,htake⟩
    ·exact S0 (T9 h0) hx0
    ·have hglt:g < w.heap.size:=(Array.getElem?_eq_some_iff.1 hheap).1
     have hH:Sort.Holds (Value.int .i64) w g 0 xs.toArray:=by
      intro j hj
      have hj':j < xs.length:=by simpa using hj
      have hcell:=hown.cells (g:=g) rfl j (.int .i64 xs[j]) (by rw[hcss,vg,List.getElem?_map,List.getElem?_eq_getElem hj']; rfl)
      rw[eU] at hcell
      refine⟨?_,?_⟩
      ·rw[hcell]
       congr 2
       rw[getElem!_pos _ j hj]
       simp
      ·have:=hown.frozenAt j
       rw[Nat.zero_add]
       exact this
     refine(AnyG.slices_Sort_int Tryz.sortI64 g 0 cap xs w hH hglt hlen).mono ?_
     rintro e' w' ⟨rfl,m,os,rfl⟩
     rw[hys]
     have hw' : ∀ k,k≠g→k < w.heap.size→(Sort.grow (Sort.putRow (Value.int .i64) (Sort.ahead w m) g 0 ys.toArray) os).heap[k]? = w.heap[k]? := by
      intro k hk hkl
      show((w.heap.modify g _)++os)[k]? = w.heap[k]?
      rw[Array.getElem?_append_left (by simpa using hkl),Array.getElem?_modify,P4 (fun e=>hk e.symm)]
     have hwg:(Sort.grow (Sort.putRow (Value.int .i64) (Sort.ahead w m) g 0 ys.toArray) os).heap[g]? = some (.cells (Sort.putCells (Value.int .i64) 0 ys.toArray cur) 2 (0,0)):=by
      show((w.heap.modify g _)++os)[g]? = _
      rw[Array.getElem?_append_left (by simpa using hglt),Array.getElem?_modify,P5 rfl,hheap]
      rfl
     refine⟨[],_,Pr,rfl,gu _ rfl rfl rfl ?_ ?_ ?_,hsame2⟩
     ·show w.heap.size≤((w.heap.modify g _)++os).size
      simp
     ·intro k hk hne
      exact hw' k (fun e=>hne (by rw[e]; rfl)) hk
     ·refine⟨?_,.inr ⟨g,cap,_,by rw[hdl],Nat.zero_le _,hwg,by omega,hcm,?_,?_⟩⟩
      ·rw[vg,List.length_map,Nat.mul_one]
      ·rw[show(Sort.putCells (Value.int .i64) 0 ys.toArray cur).size=cur.size by simp[Sort.putCells]]
       exact hcs
      ·have:=JO cur ys.toArray (by simp only[List.size_toArray]; rw[hdl,hcs,show(Ty.int IntKind.i64).sz=1 from rfl]; omega)
       rw[vg,Nat.mul_one]
       simpa using this
  ·cases hz
 ·cases hz
end Go.Proofs.YtfffplonjaigkaaGreatDoor.Abs
namespace Go.Proofs
open Go.Shelf Go.RowKit Go.Lib
def Tryz.layTrim_ren:Go.Shelf.Ren:=⟨fun | 160=>160 | 232=>200 | 231=>199 | 227=>201 | 234=>203 | 233=>202 | 236=>205 | 235=>204 | 228=>256 | 271=>259 | 151=>258 | 197=>257 | 120=>304 | 152=>303 | 260=>302 | 137=>343 | 119=>344 | 224=>268 | 225=>267 | 217=>266 | 266=>314 | n=>n,fun | 9=>9 | 4=>4 | 3=>3 | 5=>5 | 117=>225 | 116=>224 | 0=>0 | 124=>228 | 21=>21 | 105=>272 | 46=>203 | 119=>329 | 139=>332 | 138=>331 | n=>n,fun | 3=>4 | 4=>5 | n=>n⟩
theorem Tryz.layTrim:Go.Proofs.Lays.n160 Tryz.prog Tryz.layTrim_ren:={
 mixed:=by kernel_rfl
 f119:=Tryz.func344.trans (Q3 some (by kernel_rfl))
 f120:=Tryz.func304.trans (Q3 some (by kernel_rfl))
 f137:=Tryz.func343.trans (Q3 some (by kernel_rfl))
 f151:=Tryz.func258.trans (Q3 some (by kernel_rfl))
 f152:=Tryz.func303.trans (Q3 some (by kernel_rfl))
 f160:=Tryz.func160.trans (Q3 some (by kernel_rfl))
 f197:=Tryz.func257.trans (Q3 some (by kernel_rfl))
 f217:=Tryz.func266.trans (Q3 some (by kernel_rfl))
 f224:=Tryz.func268.trans (Q3 some (by kernel_rfl))
 f225:=Tryz.func267.trans (Q3 some (by kernel_rfl))
 f227:=Tryz.func201.trans (Q3 some (by kernel_rfl))
 f228:=Tryz.func256.trans (Q3 some (by kernel_rfl))
 f231:=Tryz.func199.trans (Q3 some (by kernel_rfl))
 f232:=Tryz.func200.trans (Q3 some (by kernel_rfl))
 f233:=Tryz.func202.trans (Q3 some (by kernel_rfl))
 f234:=Tryz.func203.trans (Q3 some (by kernel_rfl))
 f235:=Tryz.func204.trans (Q3 some (by kernel_rfl))
 f236:=Tryz.func205.trans (Q3 some (by kernel_rfl))
 f260:=Tryz.func302.trans (Q3 some (by kernel_rfl))
 f266:=Tryz.func314.trans (Q3 some (by kernel_rfl))
 f271:=Tryz.func259.trans (Q3 some (by kernel_rfl))
 t0:=Tryz.underlying0
 a0:=Tryz.isAgg0
 z0:=Tryz.sizeOf0
 v0:=Tryz.zeroValue0
 t3:=Tryz.underlying3
 a3:=Tryz.isAgg3
 z3:=Tryz.sizeOf3
 v3:=Tryz.zeroValue3
 t4:=Tryz.underlying4
 a4:=Tryz.isAgg4
 z4:=Tryz.sizeOf4
 v4:=Tryz.zeroValue4
 t5:=Tryz.underlying5
 a5:=Tryz.isAgg5
 z5:=Tryz.sizeOf5
 v5:=Tryz.zeroValue5
 t9:=Tryz.underlying9
 a9:=Tryz.isAgg9
 z9:=Tryz.sizeOf9
 v9:=Tryz.zeroValue9
 t21:=Tryz.underlying21
 a21:=Tryz.isAgg21
 z21:=Tryz.sizeOf21
 v21:=Tryz.zeroValue21
 t46:=Tryz.underlying203
 a46:=Tryz.isAgg203
 z46:=Tryz.sizeOf203
 v46:=Tryz.zeroValue203
 t105:=Tryz.underlying272
 a105:=Tryz.isAgg272
 z105:=Tryz.sizeOf272
 v105:=Tryz.zeroValue272
 t116:=Tryz.underlying224
 a116:=Tryz.isAgg224
 z116:=Tryz.sizeOf224
 t117:=Tryz.underlying225
 a117:=Tryz.isAgg225
 z117:=Tryz.sizeOf225
 v117:=Tryz.zeroValue225
 t119:=Tryz.underlying329
 a119:=Tryz.isAgg329
 z119:=Tryz.sizeOf329
 t124:=Tryz.underlying228
 a124:=Tryz.isAgg228
 z124:=Tryz.sizeOf228
 v124:=Tryz.zeroValue228
 t138:=Tryz.underlying331
 a138:=Tryz.isAgg331
 z138:=Tryz.sizeOf331
 v138:=Tryz.zeroValue331
 t139:=Tryz.underlying332
 a139:=Tryz.isAgg332
 z139:=Tryz.sizeOf332
 v139:=Tryz.zeroValue332
 g3:=by kernel_rfl
 g4:=by kernel_rfl}
end Go.Proofs
namespace Go.Proofs.YtfffplonjaigkaaGreatDoor.Abs
open Go Go.Shelf Go.RowKit Go.Lib
theorem HQ {l:List eJ} : ∀(args:List SV) (tab:az) (z:(Sh.pair (.val .str) .unit).den×Sh.unit.den),sB args tab=some z→ga (dL Tryz.prog l) Tryz.prog iX args tab z:=by
 intro args tab z hz
 unfold sB at hz
 split at hz
 ·rename_i s c
  split at hz
  ·rename_i h
   cases hz
   refine gD (sh := .pair (.val .str) .unit) (fun _=>rfl) ?_ (fun _ _ h=>h.none)
   intro w Pr γ us hG _ hu
   cases hu with
   | cons a k =>
    cases k with
    | cons b k =>
     cases k
     obtain rfl:=dr a
     obtain rfl:=dr b
     obtain⟨h1,h2⟩:=DB h.1
     refine(Any.strings_Trim_laid Tryz.layTrim (by kernel_rfl) s c w h.2 h1 h2).mono ?_
     rintro e w' ⟨rfl,hB⟩
     exact⟨[_],rfl,⟨[_],[],rfl,rfl,rfl⟩,hB⟩
  ·cases hz
 ·cases hz
end Go.Proofs.YtfffplonjaigkaaGreatDoor.Abs
namespace Go.Proofs
open Go.Shelf Go.RowKit Go.Lib
def Tryz.layParseInt_ren:Go.Shelf.Ren:=⟨fun | 174=>178 | 247=>221 | 245=>222 | 287=>270 | 279=>271 | 280=>272 | 281=>273 | 282=>274 | 321=>316 | 322=>317 | 316=>318 | 171=>320 | 205=>319 | 243=>348 | 246=>254 | 283=>298 | 284=>299 | 285=>300 | 286=>301 | 129=>217 | 317=>339 | 318=>340 | 319=>341 | 320=>342 | 337=>355 | 338=>356 | n=>n,fun | 9=>9 | 3=>3 | 2=>2 | 75=>187 | 85=>206 | 4=>4 | 167=>281 | 5=>5 | 53=>243 | 175=>282 | 46=>203 | 168=>284 | 37=>35 | 0=>0 | 210=>318 | 21=>21 | 127=>221 | 145=>338 | 143=>336 | 171=>301 | 173=>303 | 212=>327 | 51=>241 | 20=>20 | 213=>328 | 232=>346 | 233=>347 | 80=>170 | n=>n,fun | 15=>1 | 16=>2 | 17=>3 | 18=>6 | 19=>7 | n=>n⟩
theorem Tryz.layParseInt:Go.Proofs.LaysC.n174 Tryz.prog Tryz.layParseInt_ren:={
 mixed:=by kernel_rfl
 f129:=Tryz.func217.trans (Q3 some (by kernel_rfl))
 f171:=Tryz.func320.trans (Q3 some (by kernel_rfl))
 f174:=Tryz.func178.trans (Q3 some (by kernel_rfl))
 f205:=Tryz.func319.trans (Q3 some (by kernel_rfl))
 f243:=Tryz.func348.trans (Q3 some (by kernel_rfl))
 f245:=Tryz.func222.trans (Q3 some (by kernel_rfl))
 f246:=Tryz.func254.trans (Q3 some (by kernel_rfl))
 f247:=Tryz.func221.trans (Q3 some (by kernel_rfl))
 f279:=Tryz.func271.trans (Q3 some (by kernel_rfl))
 f280:=Tryz.func272.trans (Q3 some (by kernel_rfl))
 f281:=Tryz.func273.trans (Q3 some (by kernel_rfl))
 f282:=Tryz.func274.trans (Q3 some (by kernel_rfl))
 f283:=Tryz.func298.trans (Q3 some (by kernel_rfl))
 f284:=Tryz.func299.trans (Q3 some (by kernel_rfl))
 f285:=Tryz.func300.trans (Q3 some (by kernel_rfl))
 f286:=Tryz.func301.trans (Q3 some (by kernel_rfl))
 f287:=Tryz.func270.trans (Q3 some (by kernel_rfl))
 f316:=Tryz.func318.trans (Q3 some (by kernel_rfl))
 f317:=Tryz.func339.trans (Q3 some (by kernel_rfl))
 f318:=Tryz.func340.trans (Q3 some (by kernel_rfl))
 f319:=Tryz.func341.trans (Q3 some (by kernel_rfl))
 f320:=Tryz.func342.trans (Q3 some (by kernel_rfl))
 f321:=Tryz.func316.trans (Q3 some (by kernel_rfl))
 f322:=Tryz.func317.trans (Q3 some (by kernel_rfl))
 f337:=Tryz.func355.trans (Q3 some (by kernel_rfl))
 f338:=Tryz.func356.trans (Q3 some (by kernel_rfl))
 t0:=Tryz.underlying0
 a0:=Tryz.isAgg0
 z0:=Tryz.sizeOf0
 v0:=Tryz.zeroValue0
 t2:=Tryz.underlying2
 a2:=Tryz.isAgg2
 z2:=Tryz.sizeOf2
 v2:=Tryz.zeroValue2
 t3:=Tryz.underlying3
 a3:=Tryz.isAgg3
 z3:=Tryz.sizeOf3
 v3:=Tryz.zeroValue3
 t4:=Tryz.underlying4
 a4:=Tryz.isAgg4
 z4:=Tryz.sizeOf4
 v4:=Tryz.zeroValue4
 t5:=Tryz.underlying5
 a5:=Tryz.isAgg5
 z5:=Tryz.sizeOf5
 v5:=Tryz.zeroValue5
 t9:=Tryz.underlying9
 a9:=Tryz.isAgg9
 z9:=Tryz.sizeOf9
 v9:=Tryz.zeroValue9
 t20:=Tryz.underlying20
 a20:=Tryz.isAgg20
 z20:=Tryz.sizeOf20
 v20:=Tryz.zeroValue20
 t21:=Tryz.underlying21
 a21:=Tryz.isAgg21
 z21:=Tryz.sizeOf21
 v21:=Tryz.zeroValue21
 t37:=Tryz.underlying35
 a37:=Tryz.isAgg35
 z37:=Tryz.sizeOf35
 v37:=Tryz.zeroValue35
 t46:=Tryz.underlying203
 a46:=Tryz.isAgg203
 z46:=Tryz.sizeOf203
 v46:=Tryz.zeroValue203
 t51:=Tryz.underlying241
 a51:=Tryz.isAgg241
 z51:=Tryz.sizeOf241
 v51:=Tryz.zeroValue241
 t53:=Tryz.underlying243
 a53:=Tryz.isAgg243
 z53:=Tryz.sizeOf243
 v53:=Tryz.zeroValue243
 t75:=Tryz.underlying187
 a75:=Tryz.isAgg187
 z75:=Tryz.sizeOf187
 v75:=Tryz.zeroValue187
 t85:=Tryz.underlying206
 a85:=Tryz.isAgg206
 z85:=Tryz.sizeOf206
 v85:=Tryz.zeroValue206
 t127:=Tryz.underlying221
 a127:=Tryz.isAgg221
 z127:=Tryz.sizeOf221
 v127:=Tryz.zeroValue221
 t143:=Tryz.underlying336
 a143:=Tryz.isAgg336
 z143:=Tryz.sizeOf336
 v143:=Tryz.zeroValue336
 t145:=Tryz.underlying338
 a145:=Tryz.isAgg338
 z145:=Tryz.sizeOf338
 v145:=Tryz.zeroValue338
 t167:=Tryz.underlying281
 a167:=Tryz.isAgg281
 z167:=Tryz.sizeOf281
 v167:=Tryz.zeroValue281
 t168:=Tryz.underlying284
 a168:=Tryz.isAgg284
 z168:=Tryz.sizeOf284
 v168:=Tryz.zeroValue284
 t171:=Tryz.underlying301
 a171:=Tryz.isAgg301
 z171:=Tryz.sizeOf301
 v171:=Tryz.zeroValue301
 t173:=Tryz.underlying303
 a173:=Tryz.isAgg303
 z173:=Tryz.sizeOf303
 v173:=Tryz.zeroValue303
 t175:=Tryz.underlying282
 a175:=Tryz.isAgg282
 z175:=Tryz.sizeOf282
 v175:=Tryz.zeroValue282
 t210:=Tryz.underlying318
 a210:=Tryz.isAgg318
 z210:=Tryz.sizeOf318
 v210:=Tryz.zeroValue318
 t212:=Tryz.underlying327
 a212:=Tryz.isAgg327
 z212:=Tryz.sizeOf327
 v212:=Tryz.zeroValue327
 t213:=Tryz.underlying328
 a213:=Tryz.isAgg328
 z213:=Tryz.sizeOf328
 t232:=Tryz.underlying346
 a232:=Tryz.isAgg346
 z232:=Tryz.sizeOf346
 v232:=Tryz.zeroValue346
 t233:=Tryz.underlying347
 a233:=Tryz.isAgg347
 z233:=Tryz.sizeOf347
 v233:=Tryz.zeroValue347
 g15:=by kernel_rfl
 g16:=by kernel_rfl
 g17:=by kernel_rfl
 g18:=by kernel_rfl
 g19:=by kernel_rfl
 t80:=Tryz.underlying170
 a80:=Tryz.isAgg170
 z80:=Tryz.sizeOf170
 v80:=Tryz.zeroValue170
 i0:=by kernel_rfl
 i2:=by kernel_rfl
 i3:=by kernel_rfl
 i4:=by kernel_rfl
 i5:=by kernel_rfl
 i9:=by kernel_rfl
 i20:=by kernel_rfl
 i21:=by kernel_rfl
 i37:=by kernel_rfl
 i46:=by kernel_rfl
 i51:=by kernel_rfl
 i53:=by kernel_rfl
 i75:=by kernel_rfl
 i80:=by kernel_rfl
 i85:=by kernel_rfl
 i127:=by kernel_rfl
 i143:=by kernel_rfl
 i145:=by kernel_rfl
 i167:=by kernel_rfl
 i168:=by kernel_rfl
 i171:=by kernel_rfl
 i173:=by kernel_rfl
 i175:=by kernel_rfl
 i210:=by kernel_rfl
 i212:=by kernel_rfl
 i232:=by kernel_rfl
 i233:=by kernel_rfl
 m15:=by kernel_rfl
 m16:=by kernel_rfl
 m17:=by kernel_rfl
 m18:=by kernel_rfl
 m19:=by kernel_rfl
 c0:=by kernel_rfl
 c2:=by kernel_rfl
 c3:=by kernel_rfl
 c4:=by kernel_rfl
 c5:=by kernel_rfl
 c9:=by kernel_rfl
 c20:=by kernel_rfl
 c21:=by kernel_rfl
 c37:=by kernel_rfl
 c46:=by kernel_rfl
 c51:=by kernel_rfl
 c53:=by kernel_rfl
 c75:=by kernel_rfl
 c80:=by kernel_rfl
 c85:=by kernel_rfl
 c127:=by kernel_rfl
 c143:=by kernel_rfl
 c145:=by kernel_rfl
 c167:=by kernel_rfl
 c168:=by kernel_rfl
 c171:=by kernel_rfl
 c173:=by kernel_rfl
 c175:=by kernel_rfl
 c210:=by kernel_rfl
 c212:=by kernel_rfl
 c213:=by kernel_rfl
 c232:=by kernel_rfl
 c233:=by kernel_rfl}
end Go.Proofs
namespace Go.Proofs.YtfffplonjaigkaaGreatDoor.Abs
open Go Go.Shelf Go.RowKit Go.Lib
theorem FF {l:List eJ} (hm1:yR "strconv.ErrSyntax" ∈ l) (hm2:yR "strconv.ErrRange" ∈ l) : ∀(args:List SV) (tab:az) (z:(Sh.pair (.val (.int .i64)) (.pair (.val .err) .unit)).den×Sh.unit.den),k7 args tab=some z→ga (dL Tryz.prog l) Tryz.prog fF args tab z:=by
 intro args tab z hz
 unfold k7 at hz
 split at hz
 ·rename_i s p q
  split at hz
  ·rename_i h
   cases hz
   refine gD (sh:=Sh.pair (.val (.int .i64)) (.pair (.val .err) .unit)) (fun _=>rfl) ?_ (fun _ _ h=>h.none)
   intro w Pr γ us hG hPr hu
   cases hu with
   | cons a k =>
    cases k with
    | cons b k =>
     cases k with
     | cons c k =>
      cases k
      obtain rfl:=dr a
      obtain rfl:=cU b
      obtain rfl:=cU c
      obtain⟨h,hb,hq⟩:=h
      rw[show p=(10:Int) from hb,show q=(64:Int) from hq]
      by_cases hok : ∃ v,Y1 64 s.data.toList = .ok v
      ·obtain⟨v,hv⟩:=hok
       refine(Any.strconv_ParseInt_10_at64_ok Tryz.layParseInt s (by omega) v hv w).mono ?_
       rintro e w' ⟨rfl,hw⟩
       have hp:bP s.data.toList=(v,true):=by unfold bP; rw[hv]
       refine⟨[_,_],rfl,⟨[_],_,rfl,(by rw[hp]; rfl),[_],_,rfl,(by rw[hp]; exact .inl ⟨rfl,rfl⟩),rfl⟩,?_⟩
       rcases hw with rfl | ⟨t,rfl⟩
       ·exact Below.refl _ _
       ·exact Lib.bytesWorld_below _ _ _
      ·cases hq:Y1 64 s.data.toList with
       | ok v=>exact S0 ⟨v,hq⟩ hok
       | range =>
        obtain⟨⟨a',h1,tp,p,rfl⟩,_⟩:=hG _ hm2
        refine(Any.strconv_ParseInt_10_at64_range_var Tryz.layParseInt s h hq tp p w h1).mono ?_
        rintro e w' ⟨N,rfl,_,_,hB⟩
        have hp:bP s.data.toList=(Lib.intSat 64 s.data.toList,false):=by unfold bP; rw[hq]
        exact⟨[_,_],rfl,⟨[_],_,rfl,(by rw[hp]; rfl),[_],_,rfl,(by rw[hp]; exact .inr ⟨rfl,_,_,rfl⟩),rfl⟩,hB⟩
       | _ =>
        obtain⟨⟨a',h1,tp,p,rfl⟩,_⟩:=hG _ hm1
        refine(Any.strconv_ParseInt_10_at64_syntax_var Tryz.layParseInt s h hq tp p w h1).mono ?_
        rintro e w' ⟨N,rfl,_,_,hB⟩
        have hp:bP s.data.toList=(0,false):=by unfold bP; rw[hq]
        exact⟨[_,_],rfl,⟨[_],_,rfl,(by rw[hp]; rfl),[_],_,rfl,(by rw[hp]; exact .inr ⟨rfl,_,_,rfl⟩),rfl⟩,hB⟩
  ·cases hz
 ·cases hz
end Go.Proofs.YtfffplonjaigkaaGreatDoor.Abs
namespace Go.Proofs
open Go.Shelf Go.RowKit Go.Lib
def Tryz.layFmt_ren:Go.Shelf.Ren:=⟨fun | 173=>197 | 246=>254 | 283=>298 | 284=>299 | 285=>300 | 286=>301 | 129=>217 | 317=>339 | 318=>340 | 319=>341 | 320=>342 | 337=>355 | 338=>356 | n=>n,fun | 2=>2 | 3=>3 | 9=>9 | 4=>4 | 171=>301 | 0=>0 | 53=>243 | 37=>35 | 5=>5 | 173=>303 | 212=>327 | 51=>241 | 20=>20 | 213=>328 | 46=>203 | 232=>346 | 233=>347 | n=>n,fun | 17=>3 | 18=>6 | 19=>7 | n=>n⟩
theorem Tryz.layFmt:Go.Proofs.LaysM.n173 Tryz.prog Tryz.layFmt_ren:={
 mixed:=by kernel_rfl
 f129:=Tryz.func217.trans (Q3 some (by kernel_rfl))
 f173:=Tryz.func197.trans (Q3 some (by kernel_rfl))
 f246:=Tryz.func254.trans (Q3 some (by kernel_rfl))
 f283:=Tryz.func298.trans (Q3 some (by kernel_rfl))
 f284:=Tryz.func299.trans (Q3 some (by kernel_rfl))
 f285:=Tryz.func300.trans (Q3 some (by kernel_rfl))
 f286:=Tryz.func301.trans (Q3 some (by kernel_rfl))
 f317:=Tryz.func339.trans (Q3 some (by kernel_rfl))
 f318:=Tryz.func340.trans (Q3 some (by kernel_rfl))
 f319:=Tryz.func341.trans (Q3 some (by kernel_rfl))
 f320:=Tryz.func342.trans (Q3 some (by kernel_rfl))
 f337:=Tryz.func355.trans (Q3 some (by kernel_rfl))
 f338:=Tryz.func356.trans (Q3 some (by kernel_rfl))
 t0:=Tryz.underlying0
 a0:=Tryz.isAgg0
 z0:=Tryz.sizeOf0
 v0:=Tryz.zeroValue0
 t2:=Tryz.underlying2
 a2:=Tryz.isAgg2
 z2:=Tryz.sizeOf2
 v2:=Tryz.zeroValue2
 t3:=Tryz.underlying3
 a3:=Tryz.isAgg3
 z3:=Tryz.sizeOf3
 v3:=Tryz.zeroValue3
 t4:=Tryz.underlying4
 a4:=Tryz.isAgg4
 z4:=Tryz.sizeOf4
 v4:=Tryz.zeroValue4
 t5:=Tryz.underlying5
 a5:=Tryz.isAgg5
 z5:=Tryz.sizeOf5
 v5:=Tryz.zeroValue5
 t9:=Tryz.underlying9
 a9:=Tryz.isAgg9
 z9:=Tryz.sizeOf9
 v9:=Tryz.zeroValue9
 t20:=Tryz.underlying20
 a20:=Tryz.isAgg20
 z20:=Tryz.sizeOf20
 v20:=Tryz.zeroValue20
 t37:=Tryz.underlying35
 a37:=Tryz.isAgg35
 z37:=Tryz.sizeOf35
 v37:=Tryz.zeroValue35
 t46:=Tryz.underlying203
 a46:=Tryz.isAgg203
 z46:=Tryz.sizeOf203
 v46:=Tryz.zeroValue203
 t51:=Tryz.underlying241
 a51:=Tryz.isAgg241
 z51:=Tryz.sizeOf241
 v51:=Tryz.zeroValue241
 t53:=Tryz.underlying243
 a53:=Tryz.isAgg243
 z53:=Tryz.sizeOf243
 v53:=Tryz.zeroValue243
 t171:=Tryz.underlying301
 a171:=Tryz.isAgg301
 z171:=Tryz.sizeOf301
 v171:=Tryz.zeroValue301
 t173:=Tryz.underlying303
 a173:=Tryz.isAgg303
 z173:=Tryz.sizeOf303
 v173:=Tryz.zeroValue303
 t212:=Tryz.underlying327
 a212:=Tryz.isAgg327
 z212:=Tryz.sizeOf327
 v212:=Tryz.zeroValue327
 t213:=Tryz.underlying328
 a213:=Tryz.isAgg328
 z213:=Tryz.sizeOf328
 t232:=Tryz.underlying346
 a232:=Tryz.isAgg346
 z232:=Tryz.sizeOf346
 v232:=Tryz.zeroValue346
 t233:=Tryz.underlying347
 a233:=Tryz.isAgg347
 z233:=Tryz.sizeOf347
 v233:=Tryz.zeroValue347
 g17:=by kernel_rfl
 g18:=by kernel_rfl
 g19:=by kernel_rfl
 i0:=by kernel_rfl
 i2:=by kernel_rfl
 i3:=by kernel_rfl
 i4:=by kernel_rfl
 i5:=by kernel_rfl
 i9:=by kernel_rfl
 i20:=by kernel_rfl
 i37:=by kernel_rfl
 i46:=by kernel_rfl
 i51:=by kernel_rfl
 i53:=by kernel_rfl
 i171:=by kernel_rfl
 i173:=by kernel_rfl
 i212:=by kernel_rfl
 i232:=by kernel_rfl
 i233:=by kernel_rfl
 m17:=by kernel_rfl
 m18:=by kernel_rfl
 m19:=by kernel_rfl}
end Go.Proofs
namespace Go.Proofs.YtfffplonjaigkaaGreatDoor.Abs
open Go Go.Shelf Go.RowKit Go.Lib
def DU:eJ:=("internal/strconv.uint64pow10",fun a=>a=(Lib.pow10Tab.map fun z=>Value.int .u64 z).toArray)
theorem JP {l:List eJ} (hm:DU∈l) : ∀(args:List SV) (tab:az) (z:(Sh.pair (.val .str) .unit).den×Sh.unit.den),we args tab=some z→ga (dL Tryz.prog l) Tryz.prog fo args tab z:=by
 intro args tab z hz
 unfold we at hz
 split at hz
 ·rename_i n b
  split at hz
  ·rename_i h
   obtain⟨hb,h0,h1⟩:=h
   cases hz
   refine gD (sh := .pair (.val .str) .unit) (fun _=>rfl) ?_ (fun _ _ h=>h.none)
   intro w Pr γ us hG _ hu
   cases hu with
   | cons a k =>
    cases k with
    | cons c k =>
     cases k
     obtain rfl:=cU a
     obtain rfl:=cU c
     rw[show b=(10:Int) from hb]
     refine(Any.strconv_FormatInt_10 Tryz.layFmt n h0 h1 w (by obtain⟨⟨a,h1,h2⟩,_⟩:=hG DU hm; rw[show a=_ from h2] at h1; exact h1)).mono ?_
     rintro e w' ⟨rfl,q,os,rfl⟩
     exact⟨[_],rfl,⟨[_],[],rfl,rfl,rfl⟩,below_grow _ w (Q6 _) q os⟩
  ·cases hz
 ·cases hz
end Go.Proofs.YtfffplonjaigkaaGreatDoor.Abs
namespace Go.Proofs
open Go.Shelf Go.RowKit Go.Lib
def Tryz.layTrimLeft_ren:Go.Shelf.Ren:=⟨fun | 161=>224 | 231=>199 | 227=>201 | 233=>202 | 235=>204 | 228=>256 | 197=>257 | 151=>258 | 260=>302 | 152=>303 | 137=>343 | 119=>344 | 224=>268 | 225=>267 | 217=>266 | 266=>314 | n=>n,fun | 9=>9 | 4=>4 | 3=>3 | 5=>5 | 117=>225 | 116=>224 | 0=>0 | 124=>228 | 105=>272 | 21=>21 | 119=>329 | 46=>203 | 139=>332 | 138=>331 | n=>n,fun | 3=>4 | 4=>5 | n=>n⟩
theorem Tryz.layTrimLeft:Go.Proofs.Lays.n161 Tryz.prog Tryz.layTrimLeft_ren:={
 mixed:=by kernel_rfl
 f119:=Tryz.func344.trans (Q3 some (by kernel_rfl))
 f137:=Tryz.func343.trans (Q3 some (by kernel_rfl))
 f151:=Tryz.func258.trans (Q3 some (by kernel_rfl))
 f152:=Tryz.func303.trans (Q3 some (by kernel_rfl))
 f161:=Tryz.func224.trans (Q3 some (by kernel_rfl))
 f197:=Tryz.func257.trans (Q3 some (by kernel_rfl))
 f217:=Tryz.func266.trans (Q3 some (by kernel_rfl))
 f224:=Tryz.func268.trans (Q3 some (by kernel_rfl))
 f225:=Tryz.func267.trans (Q3 some (by kernel_rfl))
 f227:=Tryz.func201.trans (Q3 some (by kernel_rfl))
 f228:=Tryz.func256.trans (Q3 some (by kernel_rfl))
 f231:=Tryz.func199.trans (Q3 some (by kernel_rfl))
 f233:=Tryz.func202.trans (Q3 some (by kernel_rfl))
 f235:=Tryz.func204.trans (Q3 some (by kernel_rfl))
 f260:=Tryz.func302.trans (Q3 some (by kernel_rfl))
 f266:=Tryz.func314.trans (Q3 some (by kernel_rfl))
 t0:=Tryz.underlying0
 a0:=Tryz.isAgg0
 z0:=Tryz.sizeOf0
 v0:=Tryz.zeroValue0
 t3:=Tryz.underlying3
 a3:=Tryz.isAgg3
 z3:=Tryz.sizeOf3
 v3:=Tryz.zeroValue3
 t4:=Tryz.underlying4
 a4:=Tryz.isAgg4
 z4:=Tryz.sizeOf4
 v4:=Tryz.zeroValue4
 t5:=Tryz.underlying5
 a5:=Tryz.isAgg5
 z5:=Tryz.sizeOf5
 v5:=Tryz.zeroValue5
 t9:=Tryz.underlying9
 a9:=Tryz.isAgg9
 z9:=Tryz.sizeOf9
 v9:=Tryz.zeroValue9
 t21:=Tryz.underlying21
 a21:=Tryz.isAgg21
 z21:=Tryz.sizeOf21
 v21:=Tryz.zeroValue21
 t46:=Tryz.underlying203
 a46:=Tryz.isAgg203
 z46:=Tryz.sizeOf203
 v46:=Tryz.zeroValue203
 t105:=Tryz.underlying272
 a105:=Tryz.isAgg272
 z105:=Tryz.sizeOf272
 v105:=Tryz.zeroValue272
 t116:=Tryz.underlying224
 a116:=Tryz.isAgg224
 z116:=Tryz.sizeOf224
 t117:=Tryz.underlying225
 a117:=Tryz.isAgg225
 z117:=Tryz.sizeOf225
 v117:=Tryz.zeroValue225
 t119:=Tryz.underlying329
 a119:=Tryz.isAgg329
 z119:=Tryz.sizeOf329
 t124:=Tryz.underlying228
 a124:=Tryz.isAgg228
 z124:=Tryz.sizeOf228
 v124:=Tryz.zeroValue228
 t138:=Tryz.underlying331
 a138:=Tryz.isAgg331
 z138:=Tryz.sizeOf331
 v138:=Tryz.zeroValue331
 t139:=Tryz.underlying332
 a139:=Tryz.isAgg332
 z139:=Tryz.sizeOf332
 v139:=Tryz.zeroValue332
 g3:=by kernel_rfl
 g4:=by kernel_rfl}
end Go.Proofs
namespace Go.Proofs.YtfffplonjaigkaaGreatDoor.Abs
open Go Go.Shelf Go.RowKit Go.Lib
theorem AI {l:List eJ} : ∀(args:List SV) (tab:az) (z:(Sh.pair (.val .str) .unit).den×Sh.unit.den),k6 args tab=some z→ga (dL Tryz.prog l) Tryz.prog fG args tab z:=by
 intro args tab z hz
 unfold k6 at hz
 split at hz
 ·rename_i s c
  split at hz
  ·rename_i h
   cases hz
   refine gD (sh := .pair (.val .str) .unit) (fun _=>rfl) ?_ (fun _ _ h=>h.none)
   intro w Pr γ us hG _ hu
   cases hu with
   | cons a k =>
    cases k with
    | cons b k =>
     cases k
     obtain rfl:=dr a
     obtain rfl:=dr b
     obtain⟨h1,h2⟩:=DB h
     refine(Any.strings_TrimLeft_laid Tryz.layTrimLeft (by kernel_rfl) s c w h1 h2).mono ?_
     rintro e w' ⟨rfl,hB⟩
     exact⟨[_],rfl,⟨[_],[],rfl,rfl,rfl⟩,hB⟩
  ·cases hz
 ·cases hz
end Go.Proofs.YtfffplonjaigkaaGreatDoor.Abs
namespace Go.Proofs
open Go.Shelf Go.RowKit Go.Lib
def Tryz.layReplace_ren:Go.Shelf.Ren:=⟨fun | 155=>351 | 154=>364 | 138=>114 | 165=>365 | 143=>175 | 166=>156 | 197=>257 | 169=>159 | 195=>173 | 218=>174 | 240=>196 | 241=>369 | 219=>219 | 260=>302 | 276=>253 | 277=>370 | 217=>266 | 225=>267 | 224=>268 | 267=>269 | 266=>314 | 314=>315 | n=>n,fun | 9=>9 | 3=>3 | 4=>4 | 72=>185 | 0=>0 | 76=>188 | 105=>272 | 21=>21 | 5=>5 | 70=>183 | 20=>20 | 37=>35 | 75=>187 | 127=>221 | 164=>269 | 46=>203 | 119=>329 | 139=>332 | 138=>331 | 146=>314 | 51=>241 | 80=>170 | n=>n,fun | 1=>0 | 3=>4 | 4=>5 | n=>n⟩
theorem Tryz.layReplace:Go.Proofs.LaysM.n155 Tryz.prog Tryz.layReplace_ren:={
 mixed:=by kernel_rfl
 f138:=Tryz.func114.trans (Q3 some (by kernel_rfl))
 f143:=Tryz.func175.trans (Q3 some (by kernel_rfl))
 f154:=Tryz.func364.trans (Q3 some (by kernel_rfl))
 f155:=Tryz.func351.trans (Q3 some (by kernel_rfl))
 f165:=Tryz.func365.trans (Q3 some (by kernel_rfl))
 f166:=Tryz.func156.trans (Q3 some (by kernel_rfl))
 f169:=Tryz.func159.trans (Q3 some (by kernel_rfl))
 f195:=Tryz.func173.trans (Q3 some (by kernel_rfl))
 f197:=Tryz.func257.trans (Q3 some (by kernel_rfl))
 f217:=Tryz.func266.trans (Q3 some (by kernel_rfl))
 f218:=Tryz.func174.trans (Q3 some (by kernel_rfl))
 f219:=Tryz.func219.trans (Q3 some (by kernel_rfl))
 f224:=Tryz.func268.trans (Q3 some (by kernel_rfl))
 f225:=Tryz.func267.trans (Q3 some (by kernel_rfl))
 f240:=Tryz.func196.trans (Q3 some (by kernel_rfl))
 f241:=Tryz.func369.trans (Q3 some (by kernel_rfl))
 f260:=Tryz.func302.trans (Q3 some (by kernel_rfl))
 f266:=Tryz.func314.trans (Q3 some (by kernel_rfl))
 f267:=Tryz.func269.trans (Q3 some (by kernel_rfl))
 f276:=Tryz.func253.trans (Q3 some (by kernel_rfl))
 f277:=Tryz.func370.trans (Q3 some (by kernel_rfl))
 f314:=Tryz.func315.trans (Q3 some (by kernel_rfl))
 t0:=Tryz.underlying0
 a0:=Tryz.isAgg0
 z0:=Tryz.sizeOf0
 v0:=Tryz.zeroValue0
 t3:=Tryz.underlying3
 a3:=Tryz.isAgg3
 z3:=Tryz.sizeOf3
 v3:=Tryz.zeroValue3
 t4:=Tryz.underlying4
 a4:=Tryz.isAgg4
 z4:=Tryz.sizeOf4
 v4:=Tryz.zeroValue4
 t5:=Tryz.underlying5
 a5:=Tryz.isAgg5
 z5:=Tryz.sizeOf5
 v5:=Tryz.zeroValue5
 t9:=Tryz.underlying9
 a9:=Tryz.isAgg9
 z9:=Tryz.sizeOf9
 v9:=Tryz.zeroValue9
 t20:=Tryz.underlying20
 a20:=Tryz.isAgg20
 z20:=Tryz.sizeOf20
 v20:=Tryz.zeroValue20
 t21:=Tryz.underlying21
 a21:=Tryz.isAgg21
 z21:=Tryz.sizeOf21
 v21:=Tryz.zeroValue21
 t37:=Tryz.underlying35
 a37:=Tryz.isAgg35
 z37:=Tryz.sizeOf35
 v37:=Tryz.zeroValue35
 t46:=Tryz.underlying203
 a46:=Tryz.isAgg203
 z46:=Tryz.sizeOf203
 v46:=Tryz.zeroValue203
 t51:=Tryz.underlying241
 a51:=Tryz.isAgg241
 z51:=Tryz.sizeOf241
 v51:=Tryz.zeroValue241
 t70:=Tryz.underlying183
 a70:=Tryz.isAgg183
 z70:=Tryz.sizeOf183
 v70:=Tryz.zeroValue183
 t72:=Tryz.underlying185
 a72:=Tryz.isAgg185
 z72:=Tryz.sizeOf185
 v72:=Tryz.zeroValue185
 t75:=Tryz.underlying187
 a75:=Tryz.isAgg187
 z75:=Tryz.sizeOf187
 v75:=Tryz.zeroValue187
 t76:=Tryz.underlying188
 a76:=Tryz.isAgg188
 z76:=Tryz.sizeOf188
 v76:=Tryz.zeroValue188
 t105:=Tryz.underlying272
 a105:=Tryz.isAgg272
 z105:=Tryz.sizeOf272
 v105:=Tryz.zeroValue272
 t119:=Tryz.underlying329
 a119:=Tryz.isAgg329
 z119:=Tryz.sizeOf329
 t127:=Tryz.underlying221
 a127:=Tryz.isAgg221
 z127:=Tryz.sizeOf221
 v127:=Tryz.zeroValue221
 t138:=Tryz.underlying331
 a138:=Tryz.isAgg331
 z138:=Tryz.sizeOf331
 v138:=Tryz.zeroValue331
 t139:=Tryz.underlying332
 a139:=Tryz.isAgg332
 z139:=Tryz.sizeOf332
 v139:=Tryz.zeroValue332
 t146:=Tryz.underlying314
 a146:=Tryz.isAgg314
 z146:=Tryz.sizeOf314
 v146:=Tryz.zeroValue314
 t164:=Tryz.underlying269
 a164:=Tryz.isAgg269
 z164:=Tryz.sizeOf269
 v164:=Tryz.zeroValue269
 g1:=by kernel_rfl
 g3:=by kernel_rfl
 g4:=by kernel_rfl
 t80:=Tryz.underlying170
 a80:=Tryz.isAgg170
 z80:=Tryz.sizeOf170
 v80:=Tryz.zeroValue170
 i0:=by kernel_rfl
 i3:=by kernel_rfl
 i4:=by kernel_rfl
 i5:=by kernel_rfl
 i9:=by kernel_rfl
 i20:=by kernel_rfl
 i21:=by kernel_rfl
 i37:=by kernel_rfl
 i46:=by kernel_rfl
 i51:=by kernel_rfl
 i70:=by kernel_rfl
 i72:=by kernel_rfl
 i75:=by kernel_rfl
 i76:=by kernel_rfl
 i80:=by kernel_rfl
 i105:=by kernel_rfl
 i127:=by kernel_rfl
 i138:=by kernel_rfl
 i139:=by kernel_rfl
 i146:=by kernel_rfl
 i164:=by kernel_rfl
 m1:=by kernel_rfl
 s1_3:=fun w h=>Go.Proofs.cell_of_shapedOpen_int (zero := #[.int .i64 0]) (t:=3) h (U8 (by kernel_rfl)) (by kernel_rfl) rfl (by kernel_rfl) (by kernel_rfl) Tryz.underlying3
 m3:=by kernel_rfl
 m4:=by kernel_rfl}
def Tryz.layExtra_ren:Go.Shelf.Ren:=⟨fun | 155=>351 | 154=>364 | 138=>114 | 165=>365 | 143=>175 | 166=>156 | 197=>257 | 169=>159 | 195=>173 | 218=>174 | 240=>196 | 241=>369 | 219=>219 | 260=>302 | 276=>253 | 277=>370 | 217=>266 | 225=>267 | 224=>268 | 267=>269 | 266=>314 | 314=>315 | n=>n,fun | 9=>9 | 3=>3 | 4=>4 | 72=>185 | 0=>0 | 76=>188 | 105=>272 | 21=>21 | 5=>5 | 70=>183 | 20=>20 | 37=>35 | 75=>187 | 127=>221 | 164=>269 | 46=>203 | 119=>329 | 139=>332 | 138=>331 | 146=>314 | 51=>241 | 80=>170 | n=>n,fun | 1=>0 | 3=>4 | 4=>5 | n=>n⟩
theorem Tryz.layExtra:Go.Proofs.Builder.Extra Tryz.prog Tryz.layExtra_ren:={
 sizeBuilder:=by kernel_rfl
 liesBuilder:=by kernel_rfl
 t5:=Tryz.underlying5
 a5:=Tryz.isAgg5
 z5:=Tryz.sizeOf5
 v5:=Tryz.zeroValue5
 infoByte:=by kernel_rfl
 cellsByte:=by kernel_rfl
 sizeByte:=by kernel_rfl
 neB5:=by decide}
end Go.Proofs
namespace Go.Proofs.YtfffplonjaigkaaGreatDoor.Abs
open Go Go.Shelf Go.RowKit Go.Lib
theorem Cn {l:List eJ} (hm:rh "internal/bytealg.MaxLen" ∈ l) : ∀(args:List SV) (tab:az) (z:(Sh.pair (.val .str) .unit).den×Sh.unit.den),mr args tab=some z→ga (dL Tryz.prog l) Tryz.prog eL args tab z:=by
 intro args tab z hz
 unfold mr at hz
 split at hz
 ·rename_i s c d
  split at hz
  ·rename_i h
   cases hz
   refine gD (sh:=Sh.pair (.val .str) .unit) (fun _=>rfl) ?_ (fun _ _ h=>h.none)
   intro w Pr γ us hG hPr hu
   cases hu with
   | cons a k =>
    cases k with
    | cons b k =>
     cases k with
     | cons c k =>
      cases k
      obtain rfl:=dr a
      obtain rfl:=dr b
      obtain rfl:=dr c
      obtain⟨m,hc⟩:=wR hG hm Tryz.layReplace.m1
      refine(Any.strings_ReplaceAll {Tryz.layReplace with} Tryz.layExtra s _ _ m w h.1 hc h.2.1 h.2.2).mono ?_
      rintro e w' ⟨rfl,hB⟩
      exact⟨[_],rfl,⟨[_],[],rfl,rfl,rfl⟩,hB⟩
  ·cases hz
 ·cases hz
end Go.Proofs.YtfffplonjaigkaaGreatDoor.Abs
namespace Go.Proofs
open Go.Shelf Go.RowKit Go.Lib
def Tryz.layJoin_ren:Go.Shelf.Ren:=⟨fun | 156=>353 | 165=>365 | 166=>156 | 169=>159 | 240=>196 | 241=>369 | 276=>253 | 277=>370 | n=>n,fun | 31=>98 | 9=>9 | 3=>3 | 4=>4 | 0=>0 | 20=>20 | 72=>185 | 76=>188 | 70=>183 | 37=>35 | 75=>187 | 127=>221 | 164=>269 | 5=>5 | 80=>170 | n=>n,fun | n=>n⟩
theorem Tryz.layJoin:Go.Proofs.Lays.n156 Tryz.prog Tryz.layJoin_ren:={
 mixed:=by kernel_rfl
 f156:=Tryz.func353.trans (Q3 some (by kernel_rfl))
 f165:=Tryz.func365.trans (Q3 some (by kernel_rfl))
 f166:=Tryz.func156.trans (Q3 some (by kernel_rfl))
 f169:=Tryz.func159.trans (Q3 some (by kernel_rfl))
 f240:=Tryz.func196.trans (Q3 some (by kernel_rfl))
 f241:=Tryz.func369.trans (Q3 some (by kernel_rfl))
 f276:=Tryz.func253.trans (Q3 some (by kernel_rfl))
 f277:=Tryz.func370.trans (Q3 some (by kernel_rfl))
 t0:=Tryz.underlying0
 a0:=Tryz.isAgg0
 z0:=Tryz.sizeOf0
 v0:=Tryz.zeroValue0
 t3:=Tryz.underlying3
 a3:=Tryz.isAgg3
 z3:=Tryz.sizeOf3
 v3:=Tryz.zeroValue3
 t4:=Tryz.underlying4
 a4:=Tryz.isAgg4
 z4:=Tryz.sizeOf4
 v4:=Tryz.zeroValue4
 t9:=Tryz.underlying9
 a9:=Tryz.isAgg9
 z9:=Tryz.sizeOf9
 v9:=Tryz.zeroValue9
 t20:=Tryz.underlying20
 a20:=Tryz.isAgg20
 z20:=Tryz.sizeOf20
 v20:=Tryz.zeroValue20
 t31:=Tryz.underlying98
 a31:=Tryz.isAgg98
 z31:=Tryz.sizeOf98
 v31:=Tryz.zeroValue98
 t37:=Tryz.underlying35
 a37:=Tryz.isAgg35
 z37:=Tryz.sizeOf35
 v37:=Tryz.zeroValue35
 t70:=Tryz.underlying183
 a70:=Tryz.isAgg183
 z70:=Tryz.sizeOf183
 v70:=Tryz.zeroValue183
 t72:=Tryz.underlying185
 a72:=Tryz.isAgg185
 z72:=Tryz.sizeOf185
 v72:=Tryz.zeroValue185
 t75:=Tryz.underlying187
 a75:=Tryz.isAgg187
 z75:=Tryz.sizeOf187
 v75:=Tryz.zeroValue187
 t76:=Tryz.underlying188
 a76:=Tryz.isAgg188
 z76:=Tryz.sizeOf188
 v76:=Tryz.zeroValue188
 t127:=Tryz.underlying221
 a127:=Tryz.isAgg221
 z127:=Tryz.sizeOf221
 v127:=Tryz.zeroValue221
 t164:=Tryz.underlying269
 a164:=Tryz.isAgg269
 z164:=Tryz.sizeOf269
 v164:=Tryz.zeroValue269}
theorem Tryz.extraJoin:Builder.Extra Tryz.prog Tryz.layJoin_ren:={
 sizeBuilder:=by kernel_rfl
 liesBuilder:=by kernel_rfl
 t5:=Tryz.underlying5
 a5:=Tryz.isAgg5
 z5:=Tryz.sizeOf5
 v5:=Tryz.zeroValue5
 infoByte:=by kernel_rfl
 cellsByte:=by kernel_rfl
 sizeByte:=by kernel_rfl
 neB5:=by decide}
end Go.Proofs
namespace Go.Proofs.YtfffplonjaigkaaGreatDoor.Abs
open Go Go.Shelf Go.RowKit Go.Lib
theorem HR {l:List eJ} : ∀(args:List SV) (tab:az) (z:(Sh.pair (.val .str) .unit).den×Sh.unit.den),sC Lu args tab=some z→ga (dL Tryz.prog l) Tryz.prog iZ args tab z:=by
 intro args tab z hz
 unfold sC at hz
 split at hz
 ·rename_i t xs c
  rw[P7] at hz
  obtain⟨xs',hxs,hz⟩:=hz
  obtain⟨rfl,hxs⟩:=f9 hxs
  have hxs:xs=xs':=hxs
  subst hxs
  split at hz
  ·rename_i h
   obtain⟨h1,h2⟩:=h
   cases hz
   refine gD (sh := .pair (.val .str) .unit) (fun _=>rfl) ?_ (fun _ _ h=>h.none)
   intro w Pr γ us hG hPr hu
   cases hu with
   | cons a k =>
    cases k with
    | cons d k =>
     cases k
     obtain rfl:=dr d
     cases a with
     | val ha =>
      obtain⟨A,cap,rfl,hcap,hA⟩:=ha
      by_cases hx:(xs:List P0)=[]
      ·subst hx
       refine(Any.strings_Join_none Tryz.layJoin Tryz.extraJoin A cap c w).mono ?_
       rintro e w' ⟨rfl,rfl⟩
       exact⟨[_],rfl,⟨[_],[],rfl,rfl,rfl⟩,Below.refl _ _⟩
      ·obtain⟨b,o,rfl,hcells⟩:=hA hx
       have hcell : ∀(j:Nat) x,(xs:List P0)[j]? = some x→Pr b (o+j)∧w.cell? ⟨b,o+j,none⟩=some (.string x):=by
        intro j x hj
        obtain⟨hj1,hj2⟩:=List.getElem?_eq_some_iff.1 hj
        obtain⟨cs,hc1,hc2⟩:=hcells j hj1
        have hc1:cs=[.string (xs:List P0)[j]]:=hc1
        subst hc1
        have:=hc2 0 _ rfl
        have e1:o+j*(Ty.str).sz+0=o+j:=by show o+j*1+0=_; omega
        rw[e1] at this
        rw[←hj2]
        exact this
       have hb:b < w.heap.size:=by
        obtain⟨x,r,hxr⟩ : ∃ x r,(xs:List P0)=x :: r:=by
         cases hq:(xs:List P0) with
         | nil=>exact S0 hq hx
         | cons x r=>exact⟨x,r,rfl⟩
        exact hPr b _ (hcell 0 x (by rw[hxr]; rfl)).1
       refine(Any.strings_Join Tryz.layJoin Tryz.extraJoin b o cap xs c w (fun j x hj=>(hcell j x hj).2) hb h1 hcap h2).mono ?_
       rintro e w' ⟨rfl,hB⟩
       exact⟨[_],rfl,⟨[_],[],rfl,rfl,rfl⟩,hB⟩
  ·cases hz
 ·cases hz
end Go.Proofs.YtfffplonjaigkaaGreatDoor.Abs
