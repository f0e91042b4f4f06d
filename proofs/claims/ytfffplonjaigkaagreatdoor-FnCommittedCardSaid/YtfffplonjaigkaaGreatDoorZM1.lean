/- strings.Cut: the library's contract, laid at this program. -/
import Derived.Shelf.Strings.Cut
import Derived.Shelf.LaysM
import Derived.Test.YtfffplonjaigkaaGreatDoorZA3
import Derived.Test.YtfffplonjaigkaaGreatDoorZQD
import Derived.Shelf.SortG.Plain
import Derived.Shelf.SortG.SortNone
import Derived.Shelf.SlicesE.Clone
import Derived.Shelf.SlSortCmp.WholeK
import Derived.Shelf.SlicesG.Cmp
import Derived.Handy
import Derived.StillTailTactics
import Derived.Shelf.SlSortCmp.NoneTotal
import Derived.Shelf.Strings.Builder1
import Derived.Shelf.Strings.SlTrimAscii
set_option linter.unusedVariables false
set_option linter.unusedSimpArgs false
set_option linter.unusedSectionVars false
open Array renaming getElem?_eq_getElem→X9,getElem?_eq_some_iff→V8,getElem?_modify→bk_,getElem?_toList→Y6,toList_inj→ab_
open Classical renaming choose→cs_
open Go.Lib renaming byteCells→dr_,cell_of_heap→aj_
open Go.Value renaming ownBlock→ao_
open List renaming eq_nil_of_length_eq_zero→W8,flatten_cons→ar_,getElem?_cons_zero→Y0,getElem?_eq_getElem→T9,getElem?_eq_some_iff→U0,getElem?_map→de_,getElem?_take→bz_,length_map→X6,map_cons→Y4
open Nat renaming le_refl→T7,lt_of_lt_of_le→X1,lt_succ_self→cr_,mul_comm→ca_,zero_add→Y5,zero_le→aa_
open Option renaming bind_eq_some_iff→S7
open Option.some renaming injEq→U3,inj→X0
open _root_ renaming ByteArray→S0,absurd→V2,congrArg→T4,if_neg→S4,if_pos→S6,of_decide_eq_true→X7
namespace Go.Proofs
open Go.Shelf Go.RowKit Go.Lib
def Tryz.layCut_ren:Go.Shelf.Ren:=⟨fun | 145=>116 | 220=>177 | 219=>219 | 217=>266 | 225=>267 | 224=>268 | 267=>269 | 266=>314 | 314=>315 | n=>n,fun | 9=>9 | 4=>4 | 59=>139 | 3=>3 | 5=>5 | 46=>203 | 146=>314 | 51=>241 | n=>n,fun | 1=>0 | n=>n⟩
theorem Tryz.layCut:Go.Proofs.LaysM.n145 Tryz.prog Tryz.layCut_ren:={
 mixed:=by kernel_rfl
 f145:=Tryz.func116.trans (T4 some (by kernel_rfl))
 f217:=Tryz.func266.trans (T4 some (by kernel_rfl))
 f219:=Tryz.func219.trans (T4 some (by kernel_rfl))
 f220:=Tryz.func177.trans (T4 some (by kernel_rfl))
 f224:=Tryz.func268.trans (T4 some (by kernel_rfl))
 f225:=Tryz.func267.trans (T4 some (by kernel_rfl))
 f266:=Tryz.func314.trans (T4 some (by kernel_rfl))
 f267:=Tryz.func269.trans (T4 some (by kernel_rfl))
 f314:=Tryz.func315.trans (T4 some (by kernel_rfl))
 t3:=Tryz.underlying3
 a3:=Tryz.isAgg3
 z3:=Tryz.sizeOf3
 v3:=Tryz.zeroValue3
 t4:=Tryz.underlying4
 a4:=Tryz.isAgg4
 z4:=Tryz.sizeOf4
 v4:=Tryz.zeroValue4
 t5:=Tryz.underlying5
 a5:=Tryz.isAgg5
 z5:=Tryz.sizeOf5
 v5:=Tryz.zeroValue5
 t9:=Tryz.underlying9
 a9:=Tryz.isAgg9
 z9:=Tryz.sizeOf9
 v9:=Tryz.zeroValue9
 t46:=Tryz.underlying203
 a46:=Tryz.isAgg203
 z46:=Tryz.sizeOf203
 v46:=Tryz.zeroValue203
 t51:=Tryz.underlying241
 a51:=Tryz.isAgg241
 z51:=Tryz.sizeOf241
 v51:=Tryz.zeroValue241
 t59:=Tryz.underlying139
 a59:=Tryz.isAgg139
 z59:=Tryz.sizeOf139
 v59:=Tryz.zeroValue139
 t146:=Tryz.underlying314
 a146:=Tryz.isAgg314
 z146:=Tryz.sizeOf314
 v146:=Tryz.zeroValue314
 g1:=by kernel_rfl
 i3:=by kernel_rfl
 i4:=by kernel_rfl
 i5:=by kernel_rfl
 i9:=by kernel_rfl
 i46:=by kernel_rfl
 i51:=by kernel_rfl
 i59:=by kernel_rfl
 i146:=by kernel_rfl
 m1:=by kernel_rfl
 s1_3:=fun w h=>Go.Proofs.cell_of_shapedOpen_int (zero := #[.int .i64 0]) (t:=3) h (X7 (by kernel_rfl)) (by kernel_rfl) rfl (by kernel_rfl) (by kernel_rfl) Tryz.underlying3}
end Go.Proofs
namespace Go.Proofs.YtfffplonjaigkaaGreatDoor.Abs
open Go Go.Shelf Go.RowKit Go.Lib
theorem Mo {l:List fg} (hm:sZ "internal/bytealg.MaxLen" ∈ l) : ∀(args:List SV) (tab:aB) (z:(Sh.pair (.val .str) (.pair (.val .str) (.pair (.val .bool) .unit))).den×Sh.unit.den),yh args tab=some z→cN (ec Tryz.prog l) Tryz.prog kH args tab z:=by
 intro args tab z hz
 unfold yh at hz
 split at hz
 ·rename_i s c
  split at hz
  ·rename_i h
   cases hz
   refine ii (sh := .pair (.val .str) (.pair (.val .str) (.pair (.val .bool) .unit))) (fun _=>rfl) ?_ (fun _ _ h=>h.none)
   intro w Pr γ us hG _ hu
   cases hu with
   | cons a k =>
    cases k with
    | cons b k =>
     cases k
     obtain rfl:=dt a
     obtain rfl:=dt b
     obtain⟨m,hc⟩:=yS hG hm Tryz.layCut.m1
     refine(Any.strings_Cut {Tryz.layCut with} s c m w h hc).mono ?_
     rintro e w' ⟨rfl,n,rfl⟩
     exact⟨[_,_,_],rfl,⟨[_],_,rfl,rfl,[_],_,rfl,rfl,[_],_,rfl,rfl,rfl⟩,rfl,rfl,rfl,T7 _,fun _ _=>rfl⟩
  ·cases hz
 ·cases hz
end Go.Proofs.YtfffplonjaigkaaGreatDoor.Abs
namespace Go.Proofs
open Go.Shelf Go.RowKit Go.Lib Go.Sort
def Tryz.sortI64_ren:Go.Shelf.Ren:=⟨fun | 53=>139 | 64=>171 | 63=>185 | 78=>216 | 79=>217 | 70=>227 | 71=>228 | 72=>229 | 73=>230 | 74=>231 | 75=>232 | 59=>233 | 76=>234 | 77=>235 | 88=>276 | 89=>262 | 90=>263 | 91=>277 | 92=>278 | 68=>238 | 96=>322 | n=>n,fun | 22=>39 | 23=>2 | 3=>3 | 51=>203 | 0=>0 | 67=>241 | 69=>243 | 4=>4 | 61=>234 | 60=>233 | 44=>238 | 5=>5 | 9=>9 | 75=>276 | 79=>279 | 83=>311 | 84=>312 | n=>n,fun | n=>n⟩
theorem Tryz.sortI64:Go.Proofs.SlLaysN.n53 Tryz.prog Tryz.sortI64_ren:={
 mixed:=by kernel_rfl
 f53:=⟨Tryz.f139.name,by decide,Tryz.func139.trans (T4 some (by kernel_rfl))⟩
 f59:=⟨Tryz.f233.name,by decide,Tryz.func233.trans (T4 some (by kernel_rfl))⟩
 f63:=⟨Tryz.f185.name,by decide,Tryz.func185.trans (T4 some (by kernel_rfl))⟩
 f64:=Tryz.func171.trans (T4 some (by kernel_rfl))
 f68:=⟨Tryz.f238.name,by decide,Tryz.func238.trans (T4 some (by kernel_rfl))⟩
 f70:=⟨Tryz.f227.name,by decide,Tryz.func227.trans (T4 some (by kernel_rfl))⟩
 f71:=⟨Tryz.f228.name,by decide,Tryz.func228.trans (T4 some (by kernel_rfl))⟩
 f72:=⟨Tryz.f229.name,by decide,Tryz.func229.trans (T4 some (by kernel_rfl))⟩
 f73:=⟨Tryz.f230.name,by decide,Tryz.func230.trans (T4 some (by kernel_rfl))⟩
 f74:=⟨Tryz.f231.name,by decide,Tryz.func231.trans (T4 some (by kernel_rfl))⟩
 f75:=⟨Tryz.f232.name,by decide,Tryz.func232.trans (T4 some (by kernel_rfl))⟩
 f76:=⟨Tryz.f234.name,by decide,Tryz.func234.trans (T4 some (by kernel_rfl))⟩
 f77:=⟨Tryz.f235.name,by decide,Tryz.func235.trans (T4 some (by kernel_rfl))⟩
 f78:=Tryz.func216.trans (T4 some (by kernel_rfl))
 f79:=Tryz.func217.trans (T4 some (by kernel_rfl))
 f88:=⟨Tryz.f276.name,by decide,Tryz.func276.trans (T4 some (by kernel_rfl))⟩
 f89:=Tryz.func262.trans (T4 some (by kernel_rfl))
 f90:=Tryz.func263.trans (T4 some (by kernel_rfl))
 f91:=⟨Tryz.f277.name,by decide,Tryz.func277.trans (T4 some (by kernel_rfl))⟩
 f92:=⟨Tryz.f278.name,by decide,Tryz.func278.trans (T4 some (by kernel_rfl))⟩
 f96:=⟨Tryz.f322.name,by decide,Tryz.func322.trans (T4 some (by kernel_rfl))⟩
 t0:=Tryz.underlying0
 a0:=Tryz.isAgg0
 z0:=Tryz.sizeOf0
 v0:=Tryz.zeroValue0
 t3:=Tryz.underlying3
 a3:=Tryz.isAgg3
 z3:=Tryz.sizeOf3
 v3:=Tryz.zeroValue3
 t4:=Tryz.underlying4
 a4:=Tryz.isAgg4
 z4:=Tryz.sizeOf4
 v4:=Tryz.zeroValue4
 t5:=Tryz.underlying5
 a5:=Tryz.isAgg5
 z5:=Tryz.sizeOf5
 v5:=Tryz.zeroValue5
 t9:=Tryz.underlying9
 a9:=Tryz.isAgg9
 z9:=Tryz.sizeOf9
 v9:=Tryz.zeroValue9
 t22:=Tryz.underlying39
 a22:=Tryz.isAgg39
 z22:=Tryz.sizeOf39
 v22:=Tryz.zeroValue39
 t23:=Tryz.underlying2
 a23:=Tryz.isAgg2
 z23:=Tryz.sizeOf2
 v23:=Tryz.zeroValue2
 t44:=Tryz.underlying238
 a44:=Tryz.isAgg238
 z44:=Tryz.sizeOf238
 v44:=Tryz.zeroValue238
 t51:=Tryz.underlying203
 a51:=Tryz.isAgg203
 z51:=Tryz.sizeOf203
 v51:=Tryz.zeroValue203
 t60:=Tryz.underlying233
 a60:=Tryz.isAgg233
 z60:=Tryz.sizeOf233
 v60:=Tryz.zeroValue233
 t61:=Tryz.underlying234
 a61:=Tryz.isAgg234
 z61:=Tryz.sizeOf234
 v61:=Tryz.zeroValue234
 t67:=Tryz.underlying241
 a67:=Tryz.isAgg241
 z67:=Tryz.sizeOf241
 v67:=Tryz.zeroValue241
 t69:=Tryz.underlying243
 a69:=Tryz.isAgg243
 z69:=Tryz.sizeOf243
 v69:=Tryz.zeroValue243
 t75:=Tryz.underlying276
 a75:=Tryz.isAgg276
 z75:=Tryz.sizeOf276
 v75:=Tryz.zeroValue276
 t79:=Tryz.underlying279
 a79:=Tryz.isAgg279
 z79:=Tryz.sizeOf279
 v79:=Tryz.zeroValue279
 t83:=Tryz.underlying311
 a83:=Tryz.isAgg311
 z83:=Tryz.sizeOf311
 v83:=Tryz.zeroValue311
 t84:=Tryz.underlying312
 a84:=Tryz.isAgg312
 z84:=Tryz.sizeOf312
 v84:=Tryz.zeroValue312}
end Go.Proofs
namespace Go.Proofs.YtfffplonjaigkaaGreatDoor.Abs
open Go Go.Shelf Go.RowKit Go.Lib Go.Sort
theorem xm (xs:List Int):(xs.map (rX (.int .i64))).flatten=xs.map (Value.int .i64):=by
 induction xs with
 | nil=>rfl
 | cons x l ih=>rw[Y4,ar_,ih]; rfl
theorem Mp (cur:Array Value) (d:Array Int) (h:d.size≤cur.size):(Sort.putCells (Value.int .i64) 0 d cur).toList.take d.size=d.toList.map (Value.int .i64):=by
 apply List.ext_getElem?
 intro i
 rw[bz_,de_]
 by_cases hi:i < d.size
 ·rw[S6 hi]
  simp only[Sort.putCells,Y6,Array.getElem?_mapIdx]
  rw[X9 (by omega),X9 hi]
  simp[hi]
 ·rw[S4 hi,Y6,Array.getElem?_eq_none (by omega)]
  rfl
theorem H1 {l:List fg} : ∀(args:List SV) (tab:aB) (z:Sh.unit.den×(Sh.pair (.row 2 (.int .i64) false) .unit).den),lu 2 args tab=some z→cN (ec Tryz.prog l) Tryz.prog {g:=139,fn:=Tryz.f139,sh := .unit,bx := .pair (.row 2 (.int .i64) false) .unit,own:=[true],live:=[],rb:=true,prim:=some (lu 2)} args tab z:=by
 intro args tab z hz
 generalize hE:2=e at *
 unfold lu at hz
 split at hz
 ·rename_i e' s xs
  rw[S7] at hz
  obtain⟨xs',hxs,hz⟩:=hz
  obtain⟨hty,hxs⟩:=eQ hxs
  cases hty
  have hxs:xs=xs':=hxs
  subst hxs
  split at hz
  ·rename_i hlen
   cases hz
   intro hcanon w γ Pr us _ hI hlim N hN vs u n bs u' n' ub hm1 hm2 hub
   cases hm1
   cases hm2
   cases hub
   have hN:1≤N:=hN
   obtain⟨v,css,hγ,hels,hown,hfr⟩:=hI.res 0 (.row e (.int .i64) xs false) rfl
   have hsl:=hI.slots
   cases hsl with
   | cons h1 hk =>
   cases hk
   rename_i u1
   cases h1 with
   | row h1 =>
   rw[hγ] at h1
   cases h1
   have hn:cx (.int .i64)=true:=rfl
   have hcss:=(sY hn).1 hels
   have hdl:(xs.mergeSort fun x y=>decide (x≤y)).length=xs.length:=List.length_mergeSort _
   generalize hys:xs.mergeSort (fun x y=>decide (x≤y))=ys at hdl
   have gb : ∀(w':World),w'.os=w.os→w'.tape=w.tape→w'.output=w.output→w.heap.size≤w'.heap.size→(∀ k,k < w.heap.size→v.ownBlock≠some k→w'.heap[k]? = w.heap[k]?) →
     w'.ownsRow 0 e 1 v ys.length (ys.map (rX (.int .i64))).flatten→rS w (iC [(0,.row e (.int .i64) xs false)] γ) γ Pr N (N+1) [] [none] [(N,some (.row e (.int .i64) ys false))] [] (fun r=>if r=N then γ 0 else none) Pr w':=by
    intro w' hos htp hout hsize hfrm hrow
    have hloose : ∀ b,v.ownBlock=some b → ∀ o,¬Pr b o:=fun b hb o ho=>hI.loose 0 (.row e (.int .i64) xs false) b rfl (by simp[bj,hγ,hb]) o ho
    have hnew : ∀ r x,iY [(N,some (aP.row e (.int .i64) ys false))] r=some x→r=N∧x = .row e (.int .i64) ys false:=by
     intro r x h
     have h':(if r=N then some (aP.row e (.int .i64) ys false) else none)=some x:=h
     by_cases hr:r=N
     ·rw[S6 hr] at h'
      exact⟨hr,(X0 h').symm⟩
     ·rw[S4 hr] at h'
      cases h'
    have hblk : ∀ b,bj (fun r=>if r=N then γ 0 else none) N (.row e (.int .i64) ys false)=some b→v.ownBlock=some b:=by
     intro b hb
     simpa[bj,hγ] using hb
    refine⟨.nil,?_,?_,?_,?_,?_,?_,?_,?_,?_,hsize,hos,htp,hout,?_,?_,?_⟩
    ·intro r g hr
     by_cases h:r=N
     ·rw[S6 h,hγ] at hr
      cases hr
      obtain⟨A,n,c,rfl⟩:=hI.gs 0 e (.int .i64) v hγ
      exact⟨⟨by omega,by omega⟩,.inl ⟨e,.int .i64,A,n,c,rfl⟩⟩
     ·rw[S4 h] at hr
      cases hr
    ·intro j t' c hj
     rcases j with _ | j <;> simp at hj
    ·intro r x h
     obtain⟨rfl,rfl⟩:=hnew r x h
     refine⟨T7 _,cr_ _,v,ys.map (rX (.int .i64)),?_,(sY hn).2 rfl,hrow,fun h=>by cases h⟩
     exact(S6 rfl).trans hγ
    ·intro r r' x x' b h h' hne
     exact V2 ((hnew r x h).1.trans (hnew r' x' h').1.symm) hne
    ·intro j t' c b hj
     rcases j with _ | j <;> simp at hj
    ·intro j t' c b hj
     rcases j with _ | j <;> simp at hj
    ·intro r x b h hb o ho
     obtain⟨rfl,rfl⟩:=hnew r x h
     exact V2 ho (hloose b (hblk b hb) o)
    ·intro r x b h hb
     obtain⟨rfl,rfl⟩:=hnew r x h
     exact .inl ⟨0,_,rfl,by simp[bj,hγ,hblk b hb]⟩
    ·intro k hk hx
     refine hfrm k hk fun hb=>hx ⟨0,_,rfl,by simp[bj,hγ,hb]⟩
    ·intro b o ho
     exact X1 (hI.prIn b o ho) hsize
    ·exact fun b hb hx o ho=>ho
    ·intro b o v' hv'
     refine⟨hv'.1,?_⟩
     rw[World.cell?_of_block (hfrm b (hI.prIn b o hv'.1) (fun hb=>hloose b hb o hv'.1))]
     exact hv'.2
   have hsame2 : ∀ p∈cE true [(0,aP.row e (.int .i64) xs false)] [SV.row N],(fun r=>if r=N then γ 0 else none) p.1=γ p.2:=by
    intro p hp
    have:p=(N,0):=by simpa[cE] using hp
    subst this
    exact S6 rfl
   subst hE
   by_cases hx0:xs=[]
   ·subst hx0
    have hs0:ys=[]:=W8 (by simpa using hdl)
    have hv0 : ∃ p cap,v = .slice p 0 cap:=by
     rcases hown.2 with⟨rfl,_⟩ | ⟨g,cap,cur,rfl,_⟩
     ·exact⟨_,_,rfl⟩
     ·exact⟨_,_,rfl⟩
    obtain⟨p,cap,rfl⟩:=hv0
    refine(AnyG.slices_Sort_int_none Tryz.sortI64 p cap w).mono ?_
    rintro e' w' ⟨rfl,rfl⟩
    refine⟨[],_,Pr,rfl,gb w' rfl rfl rfl (T7 _) (fun _ _ _=>rfl) ?_,hsame2⟩
    rw[hs0]
    rw[hcss] at hown
    exact hown
   ·rcases hown.2 with⟨rfl,h0⟩ | ⟨g,cap,cur,rfl,_,hheap,hnc,hcm,hcs,htake⟩
    ·exact V2 (W8 h0) hx0
    ·have hglt:g < w.heap.size:=(V8.1 hheap).1
     have hH:Sort.Holds (Value.int .i64) w g 0 xs.toArray:=by
      intro j hj
      have hj':j < xs.length:=by simpa using hj
      have hcell:=hown.cells (g:=g) rfl j (.int .i64 xs[j]) (by rw[hcss,xm,de_,T9 hj']; rfl)
      rw[add_lit] at hcell
      refine⟨?_,?_⟩
      ·rw[hcell]
       congr 2
       rw[getElem!_pos _ j hj]
       simp
      ·have:=hown.frozenAt j
       rw[Y5]
       exact this
     refine(AnyG.slices_Sort_int Tryz.sortI64 g 0 cap xs w hH hglt hlen).mono ?_
     rintro e' w' ⟨rfl,m,os,rfl⟩
     rw[hys]
     have hw' : ∀ k,k≠g→k < w.heap.size→(Sort.grow (Sort.putRow (Value.int .i64) (Sort.ahead w m) g 0 ys.toArray) os).heap[k]? = w.heap[k]? := by
      intro k hk hkl
      show((w.heap.modify g _)++os)[k]? = w.heap[k]?
      rw[Array.getElem?_append_left (by simpa using hkl),bk_,S4 (fun e=>hk e.symm)]
     have hwg:(Sort.grow (Sort.putRow (Value.int .i64) (Sort.ahead w m) g 0 ys.toArray) os).heap[g]? = some (.cells (Sort.putCells (Value.int .i64) 0 ys.toArray cur) 2 (0,0)):=by
      show((w.heap.modify g _)++os)[g]? = _
      rw[Array.getElem?_append_left (by simpa using hglt),bk_,S6 rfl,hheap]
      rfl
     refine⟨[],_,Pr,rfl,gb _ rfl rfl rfl ?_ ?_ ?_,hsame2⟩
     ·show w.heap.size≤((w.heap.modify g _)++os).size
      simp
     ·intro k hk hne
      exact hw' k (fun e=>hne (by rw[e]; rfl)) hk
     ·refine⟨?_,.inr ⟨g,cap,_,by rw[hdl],aa_ _,hwg,by omega,hcm,?_,?_⟩⟩
      ·rw[xm,X6,Nat.mul_one]
      ·rw[show(Sort.putCells (Value.int .i64) 0 ys.toArray cur).size=cur.size by simp[Sort.putCells]]
       exact hcs
      ·have:=Mp cur ys.toArray (by simp only[List.size_toArray]; rw[hdl,hcs,show(Ty.int IntKind.i64).sz=1 from rfl]; omega)
       rw[xm,Nat.mul_one]
       simpa using this
  ·cases hz
 ·cases hz
end Go.Proofs.YtfffplonjaigkaaGreatDoor.Abs
namespace Go.Proofs
open Go.Shelf Go.RowKit Go.Lib
variable {P:Program} {ρ:Ren}
set_option maxHeartbeats 2000000 in
set_option maxRecDepth 100000 in
theorem YtfffplonjaigkaaGreatDoor.Abs.clone_any (L:SlLaysE0.n41 P ρ) (i0:TypeInfo) (z:Value) (size bytes:Nat) (hi:P.info? (ρ.t 23)=some i0) (hz0:i0.zero=some z) (hz1:i0.size=size) (hz2:i0.bytes=bytes) (hzs:z.cells.size=size) (hsz:0 < size)
  (z23 : ∀ w,(Go.sizeOf (ρ.t 23)).run P w = .ok size w) (a:Addr) (n c:Nat) (news:List Value) (w:World) (hl:news.length=n*size) (hn:n≤maxLen) (hbig:n*bytes≤140737488355328)
  (hc : ∀ j u,news[j]? = some u→w.cell? (a.add j)=some u) (h1 : ∀ u∈news,u.oneCell'=true) :
  Calls P (ρ.f 41) #[.slice (some a) n c] w fun e w' => ∃ v',e = .returned v'∧w'.ownsRow w.heap.size (ρ.t 23) size v' n news∧v' ≠ .slice none 0 0∧Below w.heap.size w w':=by
 have mixed:=L.mixed; have t4:=L.t4; have a4:=L.a4; have z4:=L.z4; have v4:=L.v4; have t22:=L.t22; have a22:=L.a22; have z22:=L.z22; have v22:=L.v22
 have q22 : ∀(w:World) (a:Option Addr) (n c n' c':Nat),(binOp .eql (ρ.t 22) (.slice a n c) (.slice none n' c')).run P w = .ok (.bool a.isNone) w:=fun w a n c n' c'=>Lib.run_eql_slice_nil w _ _ a n c n' c' L.t22
 have u22 : ∀ w,Sem.run P (underlying (ρ.t 22)) w = .ok (TypeDesc.slice (ρ.t 23)) w:=run_underlying t22
 have A:Aside (∀ j u,news[j]? = some u→w.cell? (a.add j)=some u):=hc
 clear hc
 obtain⟨_,_,FG⟩:=L.f41
 go_enter FG,SlBodyN.n41_ntmps ρ
 go_wp2_with (at_builtin; refine wpList_append_own _ rfl _ _ (ρ.t 22) rfl w.heap.size (ρ.t 23) i0 z size bytes t22 hi hz0 hz1 hz2 hzs hsz _ _ _ rfl (World.ownsRow_made w #[] 0 (T7 _) (aa_ _) (by simp)) a n c news rfl ?qc1 ?qc2 ?qc3 ?qc4 ?qc5 ?qc6 ?_)
 case qc1=>exact hl
 case qc2 =>
  intro j u hj
  exact Lib.cell?_alloc_some _ (A.out j u hj)
 case qc3=>exact h1
 case qc4=>rw[Y5]; exact hn
 case qc5=>rw[Y5]; exact hbig
 case qc6=>simp
 intro v' w1 hown hgrow hnil
 go_wp2
 go_ret
 refine⟨v',rfl,by simpa using hown,?_,?_⟩
 ·exact hnil
 ·exact((Below.refl _ w).alloc (T7 _) _).grown hgrow (by simp) (by intro k hk; simp[ao_] at hk; omega)
end Go.Proofs
namespace Go.Proofs.YtfffplonjaigkaaGreatDoor.Abs
open Go Go.RowKit
theorem H2 {L:Lk} {e:TypeId} {t:Ty} {xs:List t.den} {A:Option Addr} {n cap:Nat} (h:RK L (.slice e t) xs [.slice A n cap]) (hsz:0 < t.sz) : ∃ css,hJ L t xs css∧(xs≠[] → ∃ b o,A=some ⟨b,o,none⟩ ∧ ∀ j u,css.flatten[j]? = some u→L b (o+j) u):=by
 obtain⟨A',cap',he,hcap,hA⟩:=h
 cases he
 by_cases hx:xs=[]
 ·subst hx
  exact⟨[],⟨rfl,fun i hi=>by simp at hi⟩,fun h=>V2 rfl h⟩
 ·obtain⟨b,o,rfl,hc⟩:=hA hx
  refine⟨List.ofFn fun i:Fin xs.length=>cs_ (hc i i.2),?_,fun _=>⟨b,o,rfl,?_⟩⟩
  ·refine⟨List.length_ofFn,fun i hi hi' => ?_⟩
   rw[List.getElem_ofFn]
   exact(Classical.choose_spec (hc i hi)).1
  ·have hE:hJ L t xs (List.ofFn fun i:Fin xs.length=>cs_ (hc i i.2)):=by
    refine⟨List.length_ofFn,fun i hi hi' => ?_⟩
    rw[List.getElem_ofFn]
    exact(Classical.choose_spec (hc i hi)).1
   intro j u hj
   have hjl:j < xs.length*t.sz:=by
    rw[←hE.flat]
    exact(U0.1 hj).1
   have hq:j / t.sz < xs.length:=Nat.div_lt_of_lt_mul (by rw[ca_]; exact hjl)
   have h1:=iT hE.lens (i:=j / t.sz) (j:=j % t.sz) (c:=cs_ (hc (j / t.sz) hq)) (by simp[List.getElem?_ofFn,hq]) (Nat.mod_lt _ hsz)
   have e1:j / t.sz*t.sz+j % t.sz=j:=by rw[ca_]; exact Nat.div_add_mod _ _
   rw[e1] at h1
   have h2:=(Classical.choose_spec (hc (j / t.sz) hq)).2 (j % t.sz) u (by rw[←h1]; exact hj)
   rw[Nat.add_assoc,e1] at h2
   exact h2
theorem PF {L:Lk} {t:Ty} {xs:List t.den} {css:List (List Value)} (h:hJ L t xs css) : ∀ u∈css.flatten,u.oneCell'=true:=by
 intro u hu
 rw[List.mem_flatten] at hu
 obtain⟨l,hl,hu⟩:=hu
 obtain⟨i,hi,rfl⟩:=List.getElem_of_mem hl
 exact lI (h.2 i (by rw[←h.1]; exact hi) hi) u hu
theorem qq {Gp:WP} {P:Program} {g nb:Nat} {fn:Func} {e:TypeId} {t:Ty} {own:List Bool} {live:List (Nat×List Nat)} (hsz:0 < t.sz) (hnb:0 < nb)
  (hnil : ∀(n c:Nat) (w:World),Calls P g #[.slice none n c] w fun e w'=>e = .returned (.slice none 0 0)∧w'=w)
  (hcl : ∀(a:Addr) (n c:Nat) (news:List Value) (w:World),news.length=n*t.sz→n≤maxLen→n*nb≤140737488355328→(∀ j u,news[j]? = some u→w.cell? (a.add j)=some u)→(∀ u∈news,u.oneCell'=true) →
   Calls P g #[.slice (some a) n c] w fun e' w' => ∃ v',e' = .returned v'∧w'.ownsRow w.heap.size e t.sz v' n news∧v' ≠ .slice none 0 0∧Below w.heap.size w w') :
  ∀(args:List SV) (tab:aB) (z:(Sh.pair (.row e t false) .unit).den×Sh.unit.den),bR e t nb args tab=some z→cN Gp P {g:=g,fn:=fn,sh := .pair (.row e t false) .unit,bx := .unit,own:=own,live:=live,prim:=some (bR e t nb)} args tab z:=by
 intro args tab z hz
 unfold bR at hz
 split at hz
 ·rename_i s xs
  rw[S7] at hz
  obtain⟨xs',hxs,hz⟩:=hz
  obtain⟨rfl,hxs⟩:=eQ hxs
  have hxs:xs=xs':=hxs
  subst hxs
  split at hz
  ·rename_i hlen
   cases hz
   intro hcanon w γ Pr us _ hI hlim N hN vs u n bs u' n' ub hm1 hm2 hub
   cases hm1
   cases hm2
   cases hub
   have hsl:=hI.slots
   cases hsl with
   | cons h1 hk =>
   cases hk
   cases h1 with
   | val h1 =>
   obtain⟨A,cap,rfl,hcap,hA⟩:=h1
   obtain⟨css,hE,hcells⟩:=H2 (L:=Ln Pr w) (e:=e) (t:=t) (xs:=xs) (A:=A) (n:=(xs:List t.den).length) (cap:=cap) ⟨A,cap,rfl,hcap,hA⟩ hsz
   have gb : ∀(v:Value) (w':World),Below w.heap.size w w'→w'.ownsRow w.heap.size e t.sz v (xs:List t.den).length css.flatten→rS w (iC [] γ) γ Pr N (N+1) [.row N] [] [(N,some (.row e t xs false))] [v] (fun r=>if r=N then some (.row e t v) else none) Pr w':=by
    intro v w' hB hrow
    have hnew : ∀ r x,iY [(N,some (aP.row e t xs false))] r=some x→r=N∧x = .row e t xs false:=by
     intro r x h
     have h':(if r=N then some (aP.row e t xs false) else none)=some x:=h
     by_cases hr:r=N
     ·rw[S6 hr] at h'
      exact⟨hr,(X0 h').symm⟩
     ·rw[S4 hr] at h'
      cases h'
    have hblk : ∀ b,bj (fun r=>if r=N then some (G.row e t v) else none) N (.row e t xs false)=some b→w.heap.size≤b:=by
     intro b hb
     have:v.ownBlock=some b:=by simpa[bj] using hb
     exact(hrow.lt b this).1
    refine⟨.cons (.row (S6 rfl)) .nil,?_,?_,?_,?_,?_,?_,?_,?_,?_,hB.size,hB.os,hB.tape,hB.output,?_,?_,?_⟩
    ·intro r g hr
     by_cases h:r=N
     ·rw[S6 h] at hr
      cases hr
      have : ∃ A n c,v = .slice A n c:=by
       rcases hrow.2 with⟨rfl,_⟩ | ⟨g,cap,cur,rfl,_⟩
       ·exact⟨_,_,_,rfl⟩
       ·exact⟨_,_,_,rfl⟩
      obtain⟨A,n,c,rfl⟩:=this
      exact⟨⟨by omega,by omega⟩,.inl ⟨e,t,A,n,c,rfl⟩⟩
     ·rw[S4 h] at hr
      cases hr
    ·intro j t' c hj
     simp at hj
    ·intro r x h
     obtain⟨rfl,rfl⟩:=hnew r x h
     exact⟨T7 _,cr_ _,v,css,S6 rfl,jk (fun b o u h=>⟨h.1,by rw[World.cell?_of_block (hB.block b (hI.prIn b o h.1))]; exact h.2⟩) hE,Sg hrow,fun h=>by cases h⟩
    ·intro r r' x x' b h h' hne
     exact V2 ((hnew r x h).1.trans (hnew r' x' h').1.symm) hne
    ·intro j t' c b hj
     simp at hj
    ·intro j t' c b hj
     simp at hj
    ·intro r x b h hb o ho
     obtain⟨rfl,rfl⟩:=hnew r x h
     have:=hblk b hb
     have:=hI.prIn b o ho
     omega
    ·intro r x b h hb
     obtain⟨rfl,rfl⟩:=hnew r x h
     exact .inr (hblk b hb)
    ·exact fun k hk _=>hB.block k hk
    ·exact fun b o ho=>X1 (hI.prIn b o ho) hB.size
    ·exact fun b hb hx o ho=>ho
    ·intro b o v' hv'
     refine⟨hv'.1,?_⟩
     rw[World.cell?_of_block (hB.block b (hI.prIn b o hv'.1))]
     exact hv'.2
   have hmax:(xs:List t.den).length≤maxLen:=by
    have h1:(xs:List t.den).length*1≤(xs:List t.den).length*nb:=Nat.mul_le_mul_left _ hnb
    simp only[maxLen]
    omega
   cases A with
   | none =>
    have hx0:(xs:List t.den)=[]:=by
     rcases List.eq_nil_or_concat (xs:List t.den) with h | ⟨_,_,h⟩
     ·exact h
     ·obtain⟨b,o,hh,_⟩:=hA (by rw[h]; simp)
      cases hh
    subst hx0
    refine(hnil 0 cap w).mono ?_
    rintro e' w' ⟨rfl,rfl⟩
    refine⟨[.slice none 0 0],_,Pr,rfl,gb _ _ (Below.refl _ _) ?_,fun p hp=>by have hp':p∈([]:List (Nat×Nat)):=hp; cases hp'⟩
    have:css=[]:=W8 hE.1
    rw[this]
    exact World.ownsRow_nil _ _ _ _
   | some a =>
    refine(hcl a (xs:List t.den).length cap css.flatten w hE.flat hmax hlen ?_ (PF hE)).mono ?_
    ·intro j u hj
     have hjl:j < (xs:List t.den).length*t.sz:=by
      rw[←hE.flat]
      exact(U0.1 hj).1
     have hne:(xs:List t.den)≠[]:=by
      intro h
      rw[h] at hjl
      simp at hjl
     obtain⟨b,o,hab,hc⟩:=hcells hne
     cases hab
     rw[add_lit]
     exact(hc j u hj).2
    ·rintro e' w' ⟨v',rfl,hrow,_,hB⟩
     exact⟨[v'],_,Pr,rfl,gb _ _ hB hrow,fun p hp=>by have hp':p∈([]:List (Nat×Nat)):=hp; cases hp'⟩
  ·cases hz
 ·cases hz
theorem zf {Gp:WP} {P:Program} {g nb:Nat} {fn:Func} {e:TypeId} {t:Ty} {own:List Bool} {live:List (Nat×List Nat)} (hn:cx t=true) (hsz:0 < t.sz) (hnb:0 < nb)
  (hnil : ∀(n c:Nat) (w:World),Calls P g #[.slice none n c] w fun e w'=>e = .returned (.slice none 0 0)∧w'=w)
  (hcl : ∀(a:Addr) (n c:Nat) (news:List Value) (w:World),news.length=n*t.sz→n≤maxLen→n*nb≤140737488355328→(∀ j u,news[j]? = some u→w.cell? (a.add j)=some u)→(∀ u∈news,u.oneCell'=true) →
   Calls P g #[.slice (some a) n c] w fun e' w' => ∃ v',e' = .returned v'∧w'.ownsRow w.heap.size e t.sz v' n news∧v' ≠ .slice none 0 0∧Below w.heap.size w w') :
  ∀(args:List SV) (tab:aB) (z:(Sh.pair (.row e t false) .unit).den×Sh.unit.den),bR e t nb args tab=some z→cN Gp P {g:=g,fn:=fn,sh := .pair (.row e t false) .unit,bx := .unit,own:=own,live:=live,prim:=some (bR e t nb)} args tab z:=qq hsz hnb hnil hcl
end Go.Proofs.YtfffplonjaigkaaGreatDoor.Abs
namespace Go.Proofs
open Go.Shelf Go.RowKit Go.Lib Go.Sort
def Tryz.clVer_ren:Go.Shelf.Ren:=⟨fun | 41=>145 | n=>n,fun | 22=>28 | 23=>59 | 4=>4 | n=>n,fun | n=>n⟩
theorem Tryz.clVer:Go.Proofs.SlLaysE0.n41 Tryz.prog Tryz.clVer_ren:={
 mixed:=by kernel_rfl
 f41:=⟨Tryz.f145.name,by decide,Tryz.func145.trans (T4 some (by kernel_rfl))⟩
 t4:=Tryz.underlying4
 a4:=Tryz.isAgg4
 z4:=Tryz.sizeOf4
 v4:=Tryz.zeroValue4
 t22:=Tryz.underlying28
 a22:=Tryz.isAgg28
 z22:=Tryz.sizeOf28
 v22:=Tryz.zeroValue28}
def Tryz.clBra_ren:Go.Shelf.Ren:=⟨fun | 41=>144 | n=>n,fun | 22=>29 | 23=>57 | 4=>4 | n=>n,fun | n=>n⟩
theorem Tryz.clBra:Go.Proofs.SlLaysE0.n41 Tryz.prog Tryz.clBra_ren:={
 mixed:=by kernel_rfl
 f41:=⟨Tryz.f144.name,by decide,Tryz.func144.trans (T4 some (by kernel_rfl))⟩
 t4:=Tryz.underlying4
 a4:=Tryz.isAgg4
 z4:=Tryz.sizeOf4
 v4:=Tryz.zeroValue4
 t22:=Tryz.underlying29
 a22:=Tryz.isAgg29
 z22:=Tryz.sizeOf29
 v22:=Tryz.zeroValue29}
end Go.Proofs
namespace Go.Proofs.YtfffplonjaigkaaGreatDoor.Abs
open Go Go.Shelf Go.RowKit Go.Lib Go.Sort
set_option maxRecDepth 100000 in
theorem Mq {Gp:WP} : ∀(args:List SV) (tab:aB) (z:(Sh.pair (.row 59 an false) .unit).den×Sh.unit.den),bR 59 an 56 args tab=some z→cN Gp Tryz.prog {g:=145,fn:=Tryz.f145,sh := .pair (.row 59 an false) .unit,bx := .unit,own:=[],live:=[],prim:=some (bR 59 an 56)} args tab z:=by
 refine qq (P:=Tryz.prog) (g:=145) (nb:=56) (fn:=Tryz.f145) (e:=59) (t:=an) (own:=[]) (live:=[]) (by decide) (by decide) ?_ ?_
 ·exact fun n c w=>AnyE.slices_Clone_nil Tryz.clVer n c w
 ·exact fun a n c news w h1 h2 h3 h4 h5=>clone_any Tryz.clVer _ _ 3 56 rfl rfl (by kernel_rfl) (by kernel_rfl) (by kernel_rfl) (by decide) Tryz.sizeOf59 a n c news w h1 h2 h3 h4 h5
set_option maxRecDepth 100000 in
theorem Mr {Gp:WP} : ∀(args:List SV) (tab:aB) (z:(Sh.pair (.row 57 au false) .unit).den×Sh.unit.den),bR 57 au 24 args tab=some z→cN Gp Tryz.prog {g:=144,fn:=Tryz.f144,sh := .pair (.row 57 au false) .unit,bx := .unit,own:=[],live:=[],prim:=some (bR 57 au 24)} args tab z:=by
 refine qq (P:=Tryz.prog) (g:=144) (nb:=24) (fn:=Tryz.f144) (e:=57) (t:=au) (own:=[]) (live:=[]) (by decide) (by decide) ?_ ?_
 ·exact fun n c w=>AnyE.slices_Clone_nil Tryz.clBra n c w
 ·exact fun a n c news w h1 h2 h3 h4 h5=>clone_any Tryz.clBra _ _ 2 24 rfl rfl (by kernel_rfl) (by kernel_rfl) (by kernel_rfl) (by decide) Tryz.sizeOf57 a n c news w h1 h2 h3 h4 h5
end Go.Proofs.YtfffplonjaigkaaGreatDoor.Abs
namespace Go.Proofs
open Go.Shelf Go.RowKit Go.Lib Go.Sort
def Tryz.clInt64_ren:Go.Shelf.Ren:=⟨fun | 41=>146 | n=>n,fun | 22=>39 | 23=>2 | 4=>4 | n=>n,fun | n=>n⟩
theorem Tryz.clInt64:Go.Proofs.SlLaysE0.n41 Tryz.prog Tryz.clInt64_ren:={
 mixed:=by kernel_rfl
 f41:=⟨Tryz.f146.name,by decide,Tryz.func146.trans (T4 some (by kernel_rfl))⟩
 t4:=Tryz.underlying4
 a4:=Tryz.isAgg4
 z4:=Tryz.sizeOf4
 v4:=Tryz.zeroValue4
 t22:=Tryz.underlying39
 a22:=Tryz.isAgg39
 z22:=Tryz.sizeOf39
 v22:=Tryz.zeroValue39}
end Go.Proofs
namespace Go.Proofs.YtfffplonjaigkaaGreatDoor.Abs
open Go Go.Shelf Go.RowKit Go.Lib Go.Sort
set_option maxRecDepth 100000 in
theorem Ms {Gp:WP} : ∀(args:List SV) (tab:aB) (z:(Sh.pair (.row 2 (.int .i64) false) .unit).den×Sh.unit.den),bR 2 (.int .i64) 8 args tab=some z→cN Gp Tryz.prog {g:=146,fn:=Tryz.f146,sh := .pair (.row 2 (.int .i64) false) .unit,bx := .unit,own:=[],live:=[],prim:=some (bR 2 (.int .i64) 8)} args tab z:=by
 refine zf (P:=Tryz.prog) (g:=146) (nb:=8) (fn:=Tryz.f146) (e:=2) (t := .int .i64) (own:=[]) (live:=[]) rfl (by decide) (by decide) ?_ ?_
 ·exact fun n c w=>AnyE.slices_Clone_nil Tryz.clInt64 n c w
 ·exact fun a n c news w h1 h2 h3 h4 h5=>clone_any Tryz.clInt64 _ _ 1 8 rfl rfl (by kernel_rfl) (by kernel_rfl) (by kernel_rfl) (by decide) Tryz.sizeOf2 a n c news w h1 h2 h3 h4 h5
end Go.Proofs.YtfffplonjaigkaaGreatDoor.Abs
namespace Go.Proofs
open Go.Shelf Go.RowKit Go.Lib Go.Sort
def Tryz.cmpInt64_ren:Go.Shelf.Ren:=⟨fun | 5=>188 | 7=>238 | n=>n,fun | 22=>2 | 3=>3 | 4=>4 | n=>n,fun | n=>n⟩
theorem Tryz.cmpInt64:Go.Proofs.SlLaysC2.n5 Tryz.prog Tryz.cmpInt64_ren:={
 mixed:=by kernel_rfl
 f5:=⟨Tryz.f188.name,by decide,Tryz.func188.trans (T4 some (by kernel_rfl))⟩
 f7:=⟨Tryz.f238.name,by decide,Tryz.func238.trans (T4 some (by kernel_rfl))⟩
 t3:=Tryz.underlying3
 a3:=Tryz.isAgg3
 z3:=Tryz.sizeOf3
 v3:=Tryz.zeroValue3
 t4:=Tryz.underlying4
 a4:=Tryz.isAgg4
 z4:=Tryz.sizeOf4
 v4:=Tryz.zeroValue4
 t22:=Tryz.underlying2
 a22:=Tryz.isAgg2
 z22:=Tryz.sizeOf2
 v22:=Tryz.zeroValue2}
def YtfffplonjaigkaaGreatDoor.Abs.orI (x y:Int):Int:=if x=0 then y else x
set_option maxHeartbeats 1000000 in
theorem YtfffplonjaigkaaGreatDoor.Abs.or2 (b:Nat) (x y:Int) (W:World) (h0:W.cell? ⟨b,0,none⟩=some (.int .i64 x)) (h1:W.cell? ⟨b,1,none⟩=some (.int .i64 y)):Calls Tryz.prog 187 #[.slice (some ⟨b,0,none⟩) 2 2] W fun e w'=>e = .returned (.int .i64 (YtfffplonjaigkaaGreatDoor.Abs.orI x y))∧w'=W:=by
 show Calls _ _ _ _ fun e w'=>e = .returned (.int .i64 (if x=0 then y else x))∧w'=W
 go_enter Tryz.func187,Tryz.ntmps187
 go_wp2
 go_rounds 3
 all_goals (try (go_ret; refine⟨?_,rfl⟩; simp_all; done))
theorem YtfffplonjaigkaaGreatDoor.Abs.cell2 (W:World) (x y:Value) (T:TypeId):(W.alloc (.cells #[x,y] T)).cell? ⟨W.heap.size,0,none⟩=some x∧(W.alloc (.cells #[x,y] T)).cell? ⟨W.heap.size,1,none⟩=some y:=by
 rw[World.cell?_alloc_at _ _ _ _ rfl,World.cell?_alloc_at _ _ _ _ rfl]
 exact⟨rfl,rfl⟩
theorem YtfffplonjaigkaaGreatDoor.Abs.grow3 (W:World) (o1 o2 o3:Obj):((W.alloc o1).alloc o2).drew.alloc o3=grow (W.drewN 1) (#[o1] ++ #[o2] ++ #[o3]):=by
 rw[alloc_eq_grow,alloc_eq_grow,alloc_eq_grow,grow_grow]
 show grow (grow (W.drewN 1) (#[o1] ++ #[o2])) #[o3]=_
 rw[grow_grow]
set_option maxRecDepth 100000 in
set_option maxHeartbeats 2000000 in
theorem YtfffplonjaigkaaGreatDoor.Abs.cmpRefs (a1 a2 b1 b2:Int) (W:World):Calls Tryz.prog 151 #[.agg #[.int .i64 a1,.int .i64 a2],.agg #[.int .i64 b1,.int .i64 b2]] W fun e w'=>e = .returned (.int .i64 (YtfffplonjaigkaaGreatDoor.Abs.orI (Lib.compareInt a2 b2) (Lib.compareInt a1 b1))) ∧ ∃ q os',w'=grow (W.drewN q) os':=by
 have hcon:=fun(x y:Int) W'=>AnyG.cmp_Compare_int Tryz.cmpInt64 x y W'
 change ∀(x y:Int) W',Calls Tryz.prog 188 _ _ _ at hcon
 have hor:=YtfffplonjaigkaaGreatDoor.Abs.or2
 go_enter Tryz.func151,Tryz.ntmps151
 go_wp2_with (first | (go_at_call 188; refine(hcon _ _ _).mono ?_; rintro e w' ⟨rfl,rfl⟩) | (go_at_call 187; refine(hor _ _ _ _ ?_ ?_).mono ?_))
 refine wp_region_still_tail 10 (by kernel_rfl) (by kernel_rfl) ?_
 change wpStill _ _ (World.drew _) (fun a'=>wpList _ _ _ _ a' (World.drew _)) _ _
 simp only[List.take_succ_cons,List.take_zero,List.drop_succ_cons,List.drop_zero]
 iterate 4 still_step
 still_call (hcon _ _ _)
 iterate 4 still_step
 still_call (hcon _ _ _)
 refine wpStill_nil ?_
 generalize hw2:World.drew _=w2
 go_wp2_with (go_at_call 187; refine(hor _ _ _ _ (YtfffplonjaigkaaGreatDoor.Abs.cell2 _ _ _ _).1 (YtfffplonjaigkaaGreatDoor.Abs.cell2 _ _ _ _).2).mono ?_; rintro e w' ⟨rfl,rfl⟩)
 go_ret
 subst hw2
 exact⟨rfl,1,_,YtfffplonjaigkaaGreatDoor.Abs.grow3 _ _ _ _⟩
end Go.Proofs
namespace Go.Proofs
open Go.Shelf Go.RowKit Go.Lib Go.Sort
def Tryz.clCell_ren:Go.Shelf.Ren:=⟨fun | 41=>147 | n=>n,fun | 22=>46 | 23=>112 | 4=>4 | n=>n,fun | n=>n⟩
theorem Tryz.clCell:Go.Proofs.SlLaysE0.n41 Tryz.prog Tryz.clCell_ren:={
 mixed:=by kernel_rfl
 f41:=⟨Tryz.f147.name,by decide,Tryz.func147.trans (T4 some (by kernel_rfl))⟩
 t4:=Tryz.underlying4
 a4:=Tryz.isAgg4
 z4:=Tryz.sizeOf4
 v4:=Tryz.zeroValue4
 t22:=Tryz.underlying46
 a22:=Tryz.isAgg46
 z22:=Tryz.sizeOf46
 v22:=Tryz.zeroValue46}
def Tryz.sortRef_ren:Go.Shelf.Ren:=⟨fun | 6=>206 | 15=>171 | 14=>260 | 28=>216 | 29=>217 | 20=>305 | 21=>306 | 22=>307 | 23=>308 | 24=>309 | 25=>310 | 26=>311 | 27=>312 | 46=>345 | 47=>262 | 48=>263 | 49=>346 | 50=>347 | 57=>357 | n=>n,fun | 22=>65 | 24=>110 | 25=>179 | 3=>3 | 39=>203 | 0=>0 | 53=>241 | 55=>243 | 4=>4 | 46=>234 | 45=>233 | 50=>238 | 5=>5 | 9=>9 | 66=>276 | 70=>279 | 76=>311 | 77=>312 | n=>n,fun | n=>n⟩
theorem Tryz.sortRef:Go.Proofs.SlLaysF0.n6 Tryz.prog Tryz.sortRef_ren:={
 mixed:=by kernel_rfl
 f6:=⟨Tryz.f206.name,by decide,Tryz.func206.trans (T4 some (by kernel_rfl))⟩
 f14:=⟨Tryz.f260.name,by decide,Tryz.func260.trans (T4 some (by kernel_rfl))⟩
 f15:=Tryz.func171.trans (T4 some (by kernel_rfl))
 f20:=⟨Tryz.f305.name,by decide,Tryz.func305.trans (T4 some (by kernel_rfl))⟩
 f21:=⟨Tryz.f306.name,by decide,Tryz.func306.trans (T4 some (by kernel_rfl))⟩
 f22:=⟨Tryz.f307.name,by decide,Tryz.func307.trans (T4 some (by kernel_rfl))⟩
 f23:=⟨Tryz.f308.name,by decide,Tryz.func308.trans (T4 some (by kernel_rfl))⟩
 f24:=⟨Tryz.f309.name,by decide,Tryz.func309.trans (T4 some (by kernel_rfl))⟩
 f25:=⟨Tryz.f310.name,by decide,Tryz.func310.trans (T4 some (by kernel_rfl))⟩
 f26:=⟨Tryz.f311.name,by decide,Tryz.func311.trans (T4 some (by kernel_rfl))⟩
 f27:=⟨Tryz.f312.name,by decide,Tryz.func312.trans (T4 some (by kernel_rfl))⟩
 f28:=Tryz.func216.trans (T4 some (by kernel_rfl))
 f29:=Tryz.func217.trans (T4 some (by kernel_rfl))
 f46:=⟨Tryz.f345.name,by decide,Tryz.func345.trans (T4 some (by kernel_rfl))⟩
 f47:=Tryz.func262.trans (T4 some (by kernel_rfl))
 f48:=Tryz.func263.trans (T4 some (by kernel_rfl))
 f49:=⟨Tryz.f346.name,by decide,Tryz.func346.trans (T4 some (by kernel_rfl))⟩
 f50:=⟨Tryz.f347.name,by decide,Tryz.func347.trans (T4 some (by kernel_rfl))⟩
 f57:=⟨Tryz.f357.name,by decide,Tryz.func357.trans (T4 some (by kernel_rfl))⟩
 t0:=Tryz.underlying0
 a0:=Tryz.isAgg0
 z0:=Tryz.sizeOf0
 v0:=Tryz.zeroValue0
 t3:=Tryz.underlying3
 a3:=Tryz.isAgg3
 z3:=Tryz.sizeOf3
 v3:=Tryz.zeroValue3
 t4:=Tryz.underlying4
 a4:=Tryz.isAgg4
 z4:=Tryz.sizeOf4
 v4:=Tryz.zeroValue4
 t5:=Tryz.underlying5
 a5:=Tryz.isAgg5
 z5:=Tryz.sizeOf5
 v5:=Tryz.zeroValue5
 t9:=Tryz.underlying9
 a9:=Tryz.isAgg9
 z9:=Tryz.sizeOf9
 v9:=Tryz.zeroValue9
 t22:=Tryz.underlying65
 a22:=Tryz.isAgg65
 z22:=Tryz.sizeOf65
 v22:=Tryz.zeroValue65
 t25:=Tryz.underlying179
 a25:=Tryz.isAgg179
 z25:=Tryz.sizeOf179
 v25:=Tryz.zeroValue179
 t39:=Tryz.underlying203
 a39:=Tryz.isAgg203
 z39:=Tryz.sizeOf203
 v39:=Tryz.zeroValue203
 t45:=Tryz.underlying233
 a45:=Tryz.isAgg233
 z45:=Tryz.sizeOf233
 v45:=Tryz.zeroValue233
 t46:=Tryz.underlying234
 a46:=Tryz.isAgg234
 z46:=Tryz.sizeOf234
 v46:=Tryz.zeroValue234
 t50:=Tryz.underlying238
 a50:=Tryz.isAgg238
 z50:=Tryz.sizeOf238
 v50:=Tryz.zeroValue238
 t53:=Tryz.underlying241
 a53:=Tryz.isAgg241
 z53:=Tryz.sizeOf241
 v53:=Tryz.zeroValue241
 t55:=Tryz.underlying243
 a55:=Tryz.isAgg243
 z55:=Tryz.sizeOf243
 v55:=Tryz.zeroValue243
 t66:=Tryz.underlying276
 a66:=Tryz.isAgg276
 z66:=Tryz.sizeOf276
 v66:=Tryz.zeroValue276
 t70:=Tryz.underlying279
 a70:=Tryz.isAgg279
 z70:=Tryz.sizeOf279
 v70:=Tryz.zeroValue279
 t76:=Tryz.underlying311
 a76:=Tryz.isAgg311
 z76:=Tryz.sizeOf311
 v76:=Tryz.zeroValue311
 t77:=Tryz.underlying312
 a77:=Tryz.isAgg312
 z77:=Tryz.sizeOf312
 v77:=Tryz.zeroValue312}
end Go.Proofs
namespace Go.Proofs.YtfffplonjaigkaaGreatDoor.Abs
open Go Go.Shelf Go.RowKit Go.Lib Go.Sort
set_option maxRecDepth 100000 in
theorem Kr {Gp:WP} : ∀(args:List SV) (tab:aB) (z:du.sh.den×du.bx.den),bR 112 ar 32 args tab=some z→cN Gp Tryz.prog du args tab z:=by
 refine zf (P:=Tryz.prog) (g:=147) (nb:=32) (fn:=Tryz.f147) (e:=112) (t:=ar) (own:=[]) (live:=[]) rfl (by decide) (by decide) ?_ ?_
 ·exact fun n c w=>AnyE.slices_Clone_nil Tryz.clCell n c w
 ·exact fun a n c news w h1 h2 h3 h4 h5=>clone_any Tryz.clCell _ _ 3 32 rfl rfl (by kernel_rfl) (by kernel_rfl) (by kernel_rfl) (by decide) Tryz.sizeOf112 a n c news w h1 h2 h3 h4 h5
end Go.Proofs.YtfffplonjaigkaaGreatDoor.Abs
namespace Go.Proofs
open Go.Shelf Go.RowKit Go.Lib
def Tryz.layWr_ren:Go.Shelf.Ren:=⟨fun | 166=>156 | 240=>196 | 276=>253 | n=>n,fun | 70=>183 | 9=>9 | 3=>3 | 75=>187 | 0=>0 | 72=>185 | 37=>35 | 4=>4 | 164=>269 | 80=>170 | 5=>5 | n=>n,fun | n=>n⟩
theorem Tryz.layWr:Go.Proofs.Lays.n166 Tryz.prog Tryz.layWr_ren:={
 mixed:=by kernel_rfl
 f166:=Tryz.func156.trans (T4 some (by kernel_rfl))
 f240:=Tryz.func196.trans (T4 some (by kernel_rfl))
 f276:=Tryz.func253.trans (T4 some (by kernel_rfl))
 t0:=Tryz.underlying0
 a0:=Tryz.isAgg0
 z0:=Tryz.sizeOf0
 v0:=Tryz.zeroValue0
 t3:=Tryz.underlying3
 a3:=Tryz.isAgg3
 z3:=Tryz.sizeOf3
 v3:=Tryz.zeroValue3
 t4:=Tryz.underlying4
 a4:=Tryz.isAgg4
 z4:=Tryz.sizeOf4
 v4:=Tryz.zeroValue4
 t9:=Tryz.underlying9
 a9:=Tryz.isAgg9
 z9:=Tryz.sizeOf9
 v9:=Tryz.zeroValue9
 t20:=Tryz.underlying20
 a20:=Tryz.isAgg20
 z20:=Tryz.sizeOf20
 v20:=Tryz.zeroValue20
 t37:=Tryz.underlying35
 a37:=Tryz.isAgg35
 z37:=Tryz.sizeOf35
 v37:=Tryz.zeroValue35
 t70:=Tryz.underlying183
 a70:=Tryz.isAgg183
 z70:=Tryz.sizeOf183
 v70:=Tryz.zeroValue183
 t72:=Tryz.underlying185
 a72:=Tryz.isAgg185
 z72:=Tryz.sizeOf185
 v72:=Tryz.zeroValue185
 t75:=Tryz.underlying187
 a75:=Tryz.isAgg187
 z75:=Tryz.sizeOf187
 v75:=Tryz.zeroValue187
 t164:=Tryz.underlying269
 a164:=Tryz.isAgg269
 z164:=Tryz.sizeOf269
 v164:=Tryz.zeroValue269}
def Tryz.laySt_ren:Go.Shelf.Ren:=⟨fun | 169=>159 | n=>n,fun | 70=>183 | 9=>9 | 0=>0 | 72=>185 | 37=>35 | 127=>221 | 3=>3 | 5=>5 | n=>n,fun | n=>n⟩
theorem Tryz.laySt:Go.Proofs.Lays.n169 Tryz.prog Tryz.laySt_ren:={
 mixed:=by kernel_rfl
 f169:=Tryz.func159.trans (T4 some (by kernel_rfl))
 t0:=Tryz.underlying0
 a0:=Tryz.isAgg0
 z0:=Tryz.sizeOf0
 v0:=Tryz.zeroValue0
 t3:=Tryz.underlying3
 a3:=Tryz.isAgg3
 z3:=Tryz.sizeOf3
 v3:=Tryz.zeroValue3
 t9:=Tryz.underlying9
 a9:=Tryz.isAgg9
 z9:=Tryz.sizeOf9
 v9:=Tryz.zeroValue9
 t37:=Tryz.underlying35
 a37:=Tryz.isAgg35
 z37:=Tryz.sizeOf35
 v37:=Tryz.zeroValue35
 t70:=Tryz.underlying183
 a70:=Tryz.isAgg183
 z70:=Tryz.sizeOf183
 v70:=Tryz.zeroValue183
 t72:=Tryz.underlying185
 a72:=Tryz.isAgg185
 z72:=Tryz.sizeOf185
 v72:=Tryz.zeroValue185
 t127:=Tryz.underlying221
 a127:=Tryz.isAgg221
 z127:=Tryz.sizeOf221
 v127:=Tryz.zeroValue221}
theorem Tryz.extraWr:Builder.Extra Tryz.prog Tryz.layWr_ren:={
 sizeBuilder:=by kernel_rfl
 liesBuilder:=by kernel_rfl
 t5:=Tryz.underlying5
 a5:=Tryz.isAgg5
 z5:=Tryz.sizeOf5
 v5:=Tryz.zeroValue5
 infoByte:=by kernel_rfl
 cellsByte:=by kernel_rfl
 sizeByte:=by kernel_rfl
 neB5:=by decide}
theorem Tryz.extraSt:Builder.Extra Tryz.prog Tryz.laySt_ren:={
 sizeBuilder:=by kernel_rfl
 liesBuilder:=by kernel_rfl
 t5:=Tryz.underlying5
 a5:=Tryz.isAgg5
 z5:=Tryz.sizeOf5
 v5:=Tryz.zeroValue5
 infoByte:=by kernel_rfl
 cellsByte:=by kernel_rfl
 sizeByte:=by kernel_rfl
 neB5:=by decide}
variable {P:Program} {ρ:Ren}
theorem YtfffplonjaigkaaGreatDoor.Abs.append_str_run {w:World} (t u ty e:TypeId) (i:TypeInfo) (ht:P.underlying t=some (.slice e)) (hu:P.underlying u=some .string) (hi:P.info? e=some i) (hz:i.zero=some (.int .u8 0)) (hsize:i.size=1) (hby:i.bytes=1)
  (v:Value) (n:Nat) (xs:List Value) (hown:w.ownsRow 0 e 1 v n xs) (s:S0) (h63:n+s.size≤maxLen) (hbytes:n+s.size≤140737488355328) :
  ∃ v' w',(Builtin.append_ #[t,u] ty #[v,.string s]).run P w = .ok v' w'∧w'.ownsRow 0 e 1 v' (n+s.size) (xs++strCells s)∧w.grownBy w' v.ownBlock ∧ ∀ b,v'.ownBlock=some b→v.ownBlock=some b∨w.heap.size≤b:=by
 obtain⟨v',w',h1,h2,h3,_⟩:=run_append_own_string (P:=P) w 0 t u ty e i ht hu hi hz hsize hby v n xs hown s h63 hbytes (aa_ _)
 refine⟨v',w',h1,h2,h3,fun b hb => ?_⟩
 rcases hown.2 with⟨rfl,hn⟩ | ⟨g,cap,cur,rfl,hbg,hg,hnc,hcm,hcs,htake⟩
 ·obtain⟨v2,w2,k1,k2,_,_⟩:=run_append_own_string (P:=P) w w.heap.size t u ty e i ht hu hi hz hsize hby (.slice none 0 0) n xs ⟨hown.1,.inl ⟨rfl,hn⟩⟩ s h63 hbytes (T7 _)
  rw[k1] at h1
  cases h1
  exact .inr (k2.lt b hb).1
 ·by_cases hroom:n+s.size≤cap
  ·have hcs':cur.size=cap:=by simpa using hcs
   have hr:=run_append_room_string (P:=P) w t u ty e i ht hu hi hsize g n cap cur hg s hroom (by omega)
   rw[hr] at h1
   cases h1
   exact .inl hb
  ·have hxl:xs.length=n:=by simpa using hown.1
   have holds : ∀ j u,xs[j]? = some u→w.cell? ((⟨g,0,none⟩:Addr).add j)=some u:=hown.cells (g:=g) rfl
   have hsmall:n+s.size≤9223372036854775807:=by simp only[maxLen] at h63; omega
   have hr:=run_append_grow_string (P:=P) w t u ty e i (.int .u8 0) ht hu hi hz ⟨g,0,none⟩ n cap xs (by rw[hsize]; simpa using hxl) holds s (by omega) (by omega) (by rw[hby]; exact growslice_fits (by omega) (by omega))
   rw[hr] at h1
   cases h1
   refine .inr ?_
   simp only[ao_,U3] at hb
   omega
theorem YtfffplonjaigkaaGreatDoor.Abs.wpList_append_str {ops:Array Oper} {rest:List Oper} {o:Oper} {a:Act} {w:World} {Q:Exit→Act→World→Prop} (hgd:o.guard=none) (sl x:Operand) (t u:TypeId)
  (ho:o.op = .call {callee := .builtin .append,args := #[sl,x],argTypes := #[t,u]})
  (e:TypeId) (i:TypeInfo) (ht:P.underlying t=some (.slice e)) (hu:P.underlying u=some .string) (hi:P.info? e=some i) (hz:i.zero=some (.int .u8 0)) (hsize:i.size=1) (hby:i.bytes=1)
  (v:Value) (n:Nat) (xs:List Value) (hs:a.eval sl=v) (hown:w.ownsRow 0 e 1 v n xs) (s:S0) (hx:a.eval x = .string s) (h63:n+s.size≤maxLen) (hbytes:n+s.size≤140737488355328)
  (h : ∀ v' w',w'.ownsRow 0 e 1 v' (n+s.size) (xs++strCells s)→w.grownBy w' v.ownBlock→(∀ b,v'.ownBlock=some b→v.ownBlock=some b∨w.heap.size≤b)→wpList P ops Q rest (a.put o.dst v') w'):wpList P ops Q (o :: rest) a w:=by
 refine wpList_plain hgd fun K hK => ?_
 obtain⟨v',w',hr,h2,h3,h4⟩:=YtfffplonjaigkaaGreatDoor.Abs.append_str_run (P:=P) (w:=w) t u o.type e i ht hu hi hz hsize hby v n xs hown s h63 hbytes
 unfold Oper.wp execOp
 simp only[ho,resolve,invoke,builtin,Sem.run_bind,Sem.run_pure,Result.andThen_ok,List.map_toArray,Y4,List.map_nil,hs,hx,hr]
 exact hK _ _ (h v' w' h2 h3 h4)
def YtfffplonjaigkaaGreatDoor.Abs.selfP (b:Nat) (p:Value):Prop:=p = .pointer none∨p = .pointer (some ⟨b,0,none⟩)
set_option maxHeartbeats 2000000 in
set_option maxRecDepth 100000 in
theorem YtfffplonjaigkaaGreatDoor.Abs.write_at (L:Lays.n166 P ρ) (X:Builder.Extra P ρ) (b:Nat) (p v:Value) (bs:List Value) (s:S0) (w:World) (hp:YtfffplonjaigkaaGreatDoor.Abs.selfP b p) (hbk:w.heap[b]? = some (.cells #[p,v] (ρ.t 72) (0,0))) (hown:w.ownsRow 0 (ρ.t 5) 1 v bs.length bs) (hlen:bs.length+s.size≤140737488355328) :
  Calls P (ρ.f 166) #[.pointer (some ⟨b,0,none⟩),.string s] w fun e w'=>e = .returned (.tuple #[.int .i64 s.size,.nilIface]) ∧ ∃ v',w'.heap[b]? = some (.cells #[.pointer (some ⟨b,0,none⟩),v'] (ρ.t 72) (0,0))∧w'.ownsRow 0 (ρ.t 5) 1 v' (bs.length+s.size) (bs++strCells s) ∧
   (∀ k,v'.ownBlock=some k→v.ownBlock=some k∨w.heap.size≤k)∧(∀ k,k < w.heap.size→k≠b→v.ownBlock≠some k→w'.heap[k]? = w.heap[k]?)∧w.heap.size≤w'.heap.size∧w'.os=w.os∧w'.tape=w.tape∧w'.output=w.output:=by
 obtain⟨i0,hi,hz0,hz1,hz2⟩:=info_parts X.infoByte
 have hlt:b < w.heap.size:=(V8.1 hbk).1
 have hne:v.ownBlock≠some b:=Lib.ownBlock_ne hown hbk X.neB5
 have hcheck:Calls P (ρ.f 240) #[.pointer (some ⟨b,0,none⟩)] w fun e w'=>e = .returned (.tuple #[])∧w'.heap[b]? = some (.cells #[.pointer (some ⟨b,0,none⟩),v] (ρ.t 72) (0,0))∧w'.ownsRow 0 (ρ.t 5) 1 v bs.length bs ∧
   (∀ k,k≠b→w'.heap[k]? = w.heap[k]?)∧w'.heap.size=w.heap.size∧w'.os=w.os∧w'.tape=w.tape∧w'.output=w.output:=by
  rcases hp with rfl | rfl
  ·refine(Any.Builder_copyCheck_fresh {L with} X.toX72 b w (by rw[aj_ hbk]; rfl) (by simp[World.shape?,hbk]) (Lib.frozen_of_heap hbk 0)).mono ?_
   rintro e w' ⟨rfl,rfl⟩
   refine⟨rfl,?_,?_,?_,?_,rfl,rfl,rfl⟩
   ·simp[World.setCell,bk_,hbk]
   ·exact hown.kept (row:=some b) ⟨rfl,rfl,rfl,by simp[World.setCell],fun k _ hk=>Below.heap_setCell _ _ _ _ (fun e=>hk (by simp[e]))⟩ (Or.inr hne)
   ·exact fun k hk=>Below.heap_setCell _ _ _ _ hk
   ·simp[World.setCell]
  ·refine(Any.Builder_copyCheck_used {L with} X.toX72 b w (by rw[aj_ hbk]; rfl)).mono ?_
   rintro e w' ⟨rfl,rfl⟩
   exact⟨rfl,hbk,hown,fun _ _=>rfl,rfl,rfl,rfl,rfl⟩
 have mixed:=L.mixed
 have t72:=L.t72; have a72:=L.a72; have z72:=L.z72; have v72:=L.v72; have u72:=run_underlying L.t72
 have t70:=L.t70; have a70:=L.a70; have z70:=L.z70; have v70:=L.v70; have u70:=run_underlying L.t70
 have t37:=L.t37; have a37:=L.a37; have z37:=L.z37; have v37:=L.v37; have u37:=run_underlying L.t37
 have t3:=L.t3; have a3:=L.a3; have z3:=L.z3; have v3:=L.v3; have u3:=run_underlying L.t3
 have t9:=L.t9; have a9:=L.a9; have z9:=L.z9; have v9:=L.v9; have u9:=run_underlying L.t9
 have t4:=L.t4; have a4:=L.a4; have z4:=L.z4; have v4:=L.v4; have u4:=run_underlying L.t4
 have t164:=L.t164; have a164:=L.a164; have z164:=L.z164; have v164:=L.v164; have u164:=run_underlying L.t164
 have t5:=X.t5; have a5:=X.a5; have z5:=X.z5; have v5:=X.v5; have u5:=run_underlying X.t5
 have e240 : ∀ args w,(callFunc (ρ.f 240) args).run P w = .ok (.enter (ρ.f 240) args) w:=enters_of L.f240 (by kernel_rfl) rfl
 go_enter L.f166,Body.n166_ntmps ρ
 go_wp2_with (go_at_fn (ρ.f 240); refine hcheck.mono ?_)
 rintro e w1 ⟨rfl,hb1,hown1,hfr1,hs1,ho1,ht1,hu1⟩
 have c0:w1.cell? ⟨b,0,none⟩=some (.pointer (some ⟨b,0,none⟩)):=by rw[aj_ hb1]; rfl
 have c1:w1.cell? ⟨b,1,none⟩=some v:=by rw[aj_ hb1]; rfl
 go_wp2_with (at_builtin; refine YtfffplonjaigkaaGreatDoor.Abs.wpList_append_str rfl _ _ (ρ.t 37) (ρ.t 9) rfl (ρ.t 5) i0 L.t37 L.t9 hi hz0 hz1 hz2 _ _ _ rfl hown1 s rfl ?c3 ?c4 ?_)
 case c3=>unfold maxLen; omega
 case c4=>omega
 intro v' w2 hown' hgrow hnew
 have hb2:w2.heap[b]? = some (.cells #[.pointer (some ⟨b,0,none⟩),v] (ρ.t 72) (0,0)):=by
  rw[hgrow.block b (by rw[hs1]; exact hlt) (fun e=>hne e.symm)]
  exact hb1
 have d0:w2.cell? ⟨b,0,none⟩=some (.pointer (some ⟨b,0,none⟩)):=by rw[aj_ hb2]; rfl
 have d1:w2.cell? ⟨b,1,none⟩=some v:=by rw[aj_ hb2]; rfl
 have f1:w2.frozen? ⟨b,1,none⟩=false:=Lib.frozen_of_heap hb2 1
 obtain⟨ao,n',cap,rfl⟩ : ∃ ao n' cap,v' = .slice ao n' cap:=by
  rcases hown'.2 with⟨hv,_⟩ | ⟨g,cap,cur,hv,_⟩
  ·exact⟨_,_,_,hv⟩
  ·exact⟨_,_,_,hv⟩
 go_wp2
 go_ret2
 have hne':=Lib.ownBlock_ne hown' hb2 X.neB5
 refine⟨rfl,.slice ao n' cap,?_,?_,?_,?_,?_,?_,?_,?_⟩
 ·simp[World.setCell,bk_,hb2]
 ·exact hown'.kept (row:=some b) ⟨rfl,rfl,rfl,by simp[World.setCell],fun k _ hk=>Below.heap_setCell _ _ _ _ (fun e=>hk (by simp[e]))⟩ (Or.inr hne')
 ·intro k hk
  exact hnew k hk
 ·intro k hk hkb hkv
  rw[Below.heap_setCell _ _ _ _ hkb,hgrow.block k (by rw[hs1]; exact hk) (fun e=>hkv e.symm),hfr1 k hkb]
 ·have:=hgrow.size
  simp[World.setCell]
  omega
 ·exact hgrow.os.trans ho1
 ·exact hgrow.tape.trans ht1
 ·exact hgrow.output.trans hu1
structure YtfffplonjaigkaaGreatDoor.Abs.StrEnd (g:Option Nat) (w w':World):Prop where
 os:w'.os=w.os
 tape:w'.tape=w.tape
 output:w'.output=w.output
 size:w.heap.size≤w'.heap.size
 block : ∀ k,k < w.heap.size→g≠some k→w'.heap[k]? = w.heap[k]?
 cell : ∀ k o v,k < w.heap.size→w.cell? ⟨k,o,none⟩=some v→w'.cell? ⟨k,o,none⟩=some v
theorem YtfffplonjaigkaaGreatDoor.Abs.strEnd_drew (g:Option Nat) (w:World):YtfffplonjaigkaaGreatDoor.Abs.StrEnd g w w.drew:=⟨rfl,rfl,rfl,T7 _,fun _ _ _=>rfl,fun _ _ _ _ h=>h⟩
theorem YtfffplonjaigkaaGreatDoor.Abs.strEnd_freeze (g:Nat) (w:World) (n:Nat):YtfffplonjaigkaaGreatDoor.Abs.StrEnd (some g) w (w.drew.freeze ⟨g,0,none⟩ n):=by
 unfold World.freeze
 split
 ·exact YtfffplonjaigkaaGreatDoor.Abs.strEnd_drew _ w
 ·refine⟨rfl,rfl,rfl,by simp,fun k hk hne => ?_,fun k o v hk hc => ?_⟩
  ·simp only[bk_]
   rw[S4 (fun e=>hne (by rw[e]))]
   rfl
  ·unfold World.cell? at hc ⊢
   simp only[bk_]
   by_cases hg:g=k
   ·subst hg
    have hd:w.drew.heap[g]? = w.heap[g]? := rfl
    rw[S6 rfl,hd]
    cases hh:w.heap[g]? with
    | none=>rw[hh] at hc; exact hc
    | some x =>
     rw[hh] at hc
     cases x with
     | cells c e fz=>obtain⟨lo,hi⟩:=fz; exact hc
     | _=>exact hc
   ·rw[S4 hg]
    exact hc
theorem YtfffplonjaigkaaGreatDoor.Abs.strEnd_alloc (g:Option Nat) (w:World) (o:Obj):YtfffplonjaigkaaGreatDoor.Abs.StrEnd g w (w.drew.alloc o):=by
 refine⟨rfl,rfl,rfl,by simp,fun k hk _=>heap_alloc_old w.drew o hk,fun k o' v hk hc => ?_⟩
 rw[World.cell?_of_block (heap_alloc_old w.drew o hk)]
 exact hc
set_option maxHeartbeats 1000000 in
set_option maxRecDepth 100000 in
theorem YtfffplonjaigkaaGreatDoor.Abs.string_some (L:Lays.n169 P ρ) (X:Builder.Extra P ρ) (b g cap:Nat) (p:Value) (cur:Array Value) (l:List UInt8) (w:World) (hbk:w.heap[b]? = some (.cells #[p,.slice (some ⟨g,0,none⟩) l.length cap] (ρ.t 72) (0,0))) (hg:w.heap[g]? = some (.cells cur (ρ.t 5) (0,0))) (hnc:l.length≤cap) (hcm:cap≤maxLen) (hcs:cur.size=cap*1) (htake:cur.toList.take (l.length*1)=dr_ l) (h0:l≠[]) :
  Calls P (ρ.f 169) #[.pointer (some ⟨b,0,none⟩)] w fun e w'=>e = .returned (.string ⟨l.toArray⟩)∧YtfffplonjaigkaaGreatDoor.Abs.StrEnd (some g) w w':=by
 have hl0:l.length≠0:=by simpa using h0
 have c1:w.drew.cell? ⟨b,1,none⟩=some (.slice (some ⟨g,0,none⟩) l.length cap):=by
  have:w.drew.heap[b]? = some (.cells #[p,.slice (some ⟨g,0,none⟩) l.length cap] (ρ.t 72) (0,0)):=hbk
  rw[aj_ this]; rfl
 have hSD:(Builtin.unsafeSliceData_ #[(ρ.t 37)] (ρ.t 127) #[.slice (some ⟨g,0,none⟩) l.length cap]).run P w.drew = .ok (.pointer (some ⟨g,0,none⟩)) w.drew :=
  Lib.run_unsafeSliceData_row _ _ _ _ _ _ (by omega)
 have hUS:(Builtin.unsafeString_ #[(ρ.t 127),(ρ.t 3)] (ρ.t 9) #[.pointer (some ⟨g,0,none⟩),.int .i64 l.length]).run P w.drew = .ok (.string ⟨l.toArray⟩) (w.drew.freeze ⟨g,0,none⟩ l.length):=by
  refine Lib.run_unsafeString_row w.drew (ρ.t 127) (ρ.t 3) (ρ.t 9) (ρ.t 5) L.t127 X.cellsByte g cur.size (by have hg':w.drew.heap[g]? = some (.cells cur (ρ.t 5) (0,0)):=hg; simp[World.shape?,hg']) l h0 (by omega) (by unfold maxLen at hcm; omega) ?_
  intro j x hx
  have hj:(cur.toList.take (l.length*1))[j]? = some (.int .u8 x.toNat):=by
   rw[htake]
   simp[dr_,hx]
  rw[bz_] at hj
  have hjl:j < l.length*1:=by
   have:=(U0.1 hx).1
   omega
  rw[S6 hjl,Y6] at hj
  have hg':w.drew.heap[g]? = some (.cells cur (ρ.t 5) (0,0)):=hg
  rw[Addr.add_lit,aj_ hg',Y5]
  exact hj
 have mixed:=L.mixed
 have t72:=L.t72; have a72:=L.a72; have z72:=L.z72; have v72:=L.v72; have u72:=run_underlying L.t72
 have t70:=L.t70; have a70:=L.a70; have z70:=L.z70; have v70:=L.v70; have u70:=run_underlying L.t70
 have t37:=L.t37; have a37:=L.a37; have z37:=L.z37; have v37:=L.v37; have u37:=run_underlying L.t37
 have t127:=L.t127; have a127:=L.a127; have z127:=L.z127; have v127:=L.v127; have u127:=run_underlying L.t127
 have t3:=L.t3; have a3:=L.a3; have z3:=L.z3; have v3:=L.v3; have u3:=run_underlying L.t3
 have t9:=L.t9; have a9:=L.a9; have z9:=L.z9; have v9:=L.v9; have u9:=run_underlying L.t9
 have t5:=X.t5; have a5:=X.a5; have z5:=X.z5; have v5:=X.v5; have u5:=run_underlying X.t5
 go_enter L.f169,Body.n169_ntmps ρ
 go_wp2
 go_region_o
 all_goals (go_wp2; go_ret; exact⟨rfl,YtfffplonjaigkaaGreatDoor.Abs.strEnd_freeze g w _⟩)
set_option maxHeartbeats 2000000 in
set_option maxRecDepth 100000 in
theorem YtfffplonjaigkaaGreatDoor.Abs.string_nil (L:Lays.n169 P ρ) (X:Builder.Extra P ρ) (b:Nat) (p:Value) (w:World) (hbk:w.heap[b]? = some (.cells #[p,.slice none 0 0] (ρ.t 72) (0,0))) :
  Calls P (ρ.f 169) #[.pointer (some ⟨b,0,none⟩)] w fun e w'=>e = .returned (.string ⟨#[]⟩)∧YtfffplonjaigkaaGreatDoor.Abs.StrEnd none w w':=by
 have hUS:=Any.unsafeString_none L X
 have c1:w.drew.cell? ⟨b,1,none⟩=some (.slice none 0 0):=by
  have:w.drew.heap[b]? = some (.cells #[p,.slice none 0 0] (ρ.t 72) (0,0)):=hbk
  rw[aj_ this]; rfl
 have hSD:(Builtin.unsafeSliceData_ #[(ρ.t 37)] (ρ.t 127) #[.slice none 0 0]).run P w.drew = .ok (.pointer none) w.drew:=rfl
 have mixed:=L.mixed
 have t72:=L.t72; have a72:=L.a72; have z72:=L.z72; have v72:=L.v72; have u72:=run_underlying L.t72
 have t70:=L.t70; have a70:=L.a70; have z70:=L.z70; have v70:=L.v70; have u70:=run_underlying L.t70
 have t37:=L.t37; have a37:=L.a37; have z37:=L.z37; have v37:=L.v37; have u37:=run_underlying L.t37
 have t127:=L.t127; have a127:=L.a127; have z127:=L.z127; have v127:=L.v127; have u127:=run_underlying L.t127
 have t3:=L.t3; have a3:=L.a3; have z3:=L.z3; have v3:=L.v3; have u3:=run_underlying L.t3
 have t9:=L.t9; have a9:=L.a9; have z9:=L.z9; have v9:=L.v9; have u9:=run_underlying L.t9
 have t5:=X.t5; have a5:=X.a5; have z5:=X.z5; have v5:=X.v5; have u5:=run_underlying X.t5
 go_enter L.f169,Body.n169_ntmps ρ
 go_wp2
 go_region_o
 all_goals (go_wp2; go_ret; exact⟨rfl,YtfffplonjaigkaaGreatDoor.Abs.strEnd_drew _ w⟩)
set_option maxHeartbeats 2000000 in
set_option maxRecDepth 100000 in
theorem YtfffplonjaigkaaGreatDoor.Abs.string_noroom (L:Lays.n169 P ρ) (X:Builder.Extra P ρ) (b g:Nat) (p:Value) (cur:Array Value) (w:World) (hbk:w.heap[b]? = some (.cells #[p,.slice (some ⟨g,0,none⟩) 0 0] (ρ.t 72) (0,0))) (hg:w.heap[g]? = some (.cells cur (ρ.t 5) (0,0))) :
  Calls P (ρ.f 169) #[.pointer (some ⟨b,0,none⟩)] w fun e w'=>e = .returned (.string ⟨#[]⟩)∧YtfffplonjaigkaaGreatDoor.Abs.StrEnd (some g) w w':=by
 have hUS:=Any.unsafeString_none L X
 have hlt:b < w.heap.size:=(V8.1 hbk).1
 have c1:w.drew.cell? ⟨b,1,none⟩=some (.slice (some ⟨g,0,none⟩) 0 0):=by
  have:w.drew.heap[b]? = some (.cells #[p,.slice (some ⟨g,0,none⟩) 0 0] (ρ.t 72) (0,0)):=hbk
  rw[aj_ this]; rfl
 have hSD:(Builtin.unsafeSliceData_ #[(ρ.t 37)] (ρ.t 127) #[.slice (some ⟨g,0,none⟩) 0 0]).run P w.drew = .ok (.pointer (some ⟨w.drew.heap.size,0,none⟩)) (w.drew.alloc (.view ⟨g,0,none⟩ (ρ.t 5))) :=
  Lib.run_unsafeSliceData_zero w.drew _ _ (ρ.t 5) L.t127 ⟨g,0,none⟩ 0 ((ρ.t 5),cur.size) (by have hg':w.drew.heap[g]? = some (.cells cur (ρ.t 5) (0,0)):=hg; simp[World.shape?,hg'])
 have c2:(w.drew.alloc (.view ⟨g,0,none⟩ (ρ.t 5))).cell? ⟨b,1,none⟩=some (.slice (some ⟨g,0,none⟩) 0 0):=by
  have:(w.drew.alloc (.view ⟨g,0,none⟩ (ρ.t 5))).heap[b]? = _:=(Lib.alloc_old w.drew _ b hlt).trans hbk
  rw[aj_ this]; rfl
 have c3:(w.alloc (.view ⟨g,0,none⟩ (ρ.t 5))).drew.cell? ⟨b,1,none⟩=some (.slice (some ⟨g,0,none⟩) 0 0):=c2
 have c0:w.cell? ⟨b,1,none⟩=some (.slice (some ⟨g,0,none⟩) 0 0):=c1
 have mixed:=L.mixed
 have t72:=L.t72; have a72:=L.a72; have z72:=L.z72; have v72:=L.v72; have u72:=run_underlying L.t72
 have t70:=L.t70; have a70:=L.a70; have z70:=L.z70; have v70:=L.v70; have u70:=run_underlying L.t70
 have t37:=L.t37; have a37:=L.a37; have z37:=L.z37; have v37:=L.v37; have u37:=run_underlying L.t37
 have t127:=L.t127; have a127:=L.a127; have z127:=L.z127; have v127:=L.v127; have u127:=run_underlying L.t127
 have t3:=L.t3; have a3:=L.a3; have z3:=L.z3; have v3:=L.v3; have u3:=run_underlying L.t3
 have t9:=L.t9; have a9:=L.a9; have z9:=L.z9; have v9:=L.v9; have u9:=run_underlying L.t9
 have t5:=X.t5; have a5:=X.a5; have z5:=X.z5; have v5:=X.v5; have u5:=run_underlying X.t5
 go_enter L.f169,Body.n169_ntmps ρ
 go_wp2
 go_region_o
 all_goals (go_wp2; go_ret; exact⟨rfl,YtfffplonjaigkaaGreatDoor.Abs.strEnd_alloc _ w _⟩)
set_option maxHeartbeats 2000000 in
set_option maxRecDepth 100000 in
theorem YtfffplonjaigkaaGreatDoor.Abs.string_room (L:Lays.n169 P ρ) (X:Builder.Extra P ρ) (b g cap:Nat) (p:Value) (w:World) (hc0:cap≠0) (hbk:w.heap[b]? = some (.cells #[p,.slice (some ⟨g,0,none⟩) 0 cap] (ρ.t 72) (0,0))) :
  Calls P (ρ.f 169) #[.pointer (some ⟨b,0,none⟩)] w fun e w'=>e = .returned (.string ⟨#[]⟩)∧YtfffplonjaigkaaGreatDoor.Abs.StrEnd none w w':=by
 have hUS:=Any.unsafeString_none L X
 have c1:w.drew.cell? ⟨b,1,none⟩=some (.slice (some ⟨g,0,none⟩) 0 cap):=by
  have:w.drew.heap[b]? = some (.cells #[p,.slice (some ⟨g,0,none⟩) 0 cap] (ρ.t 72) (0,0)):=hbk
  rw[aj_ this]; rfl
 have hSD:(Builtin.unsafeSliceData_ #[(ρ.t 37)] (ρ.t 127) #[.slice (some ⟨g,0,none⟩) 0 cap]).run P w.drew = .ok (.pointer (some ⟨g,0,none⟩)) w.drew :=
  Lib.run_unsafeSliceData_row _ _ _ _ _ _ hc0
 clear hc0
 have mixed:=L.mixed
 have t72:=L.t72; have a72:=L.a72; have z72:=L.z72; have v72:=L.v72; have u72:=run_underlying L.t72
 have t70:=L.t70; have a70:=L.a70; have z70:=L.z70; have v70:=L.v70; have u70:=run_underlying L.t70
 have t37:=L.t37; have a37:=L.a37; have z37:=L.z37; have v37:=L.v37; have u37:=run_underlying L.t37
 have t127:=L.t127; have a127:=L.a127; have z127:=L.z127; have v127:=L.v127; have u127:=run_underlying L.t127
 have t3:=L.t3; have a3:=L.a3; have z3:=L.z3; have v3:=L.v3; have u3:=run_underlying L.t3
 have t9:=L.t9; have a9:=L.a9; have z9:=L.z9; have v9:=L.v9; have u9:=run_underlying L.t9
 have t5:=X.t5; have a5:=X.a5; have z5:=X.z5; have v5:=X.v5; have u5:=run_underlying X.t5
 go_enter L.f169,Body.n169_ntmps ρ
 go_wp2
 go_region_o
 all_goals (go_wp2; go_ret; exact⟨rfl,YtfffplonjaigkaaGreatDoor.Abs.strEnd_drew _ w⟩)
theorem YtfffplonjaigkaaGreatDoor.Abs.StrEnd.any {w w':World} (h:YtfffplonjaigkaaGreatDoor.Abs.StrEnd none w w') (g:Option Nat):YtfffplonjaigkaaGreatDoor.Abs.StrEnd g w w':=⟨h.os,h.tape,h.output,h.size,fun k hk _=>h.block k hk (fun e=>by cases e),h.cell⟩
theorem YtfffplonjaigkaaGreatDoor.Abs.string_at (L:Lays.n169 P ρ) (X:Builder.Extra P ρ) (b:Nat) (p v:Value) (l:List UInt8) (w:World) (hbk:w.heap[b]? = some (.cells #[p,v] (ρ.t 72) (0,0))) (hown:w.ownsRow 0 (ρ.t 5) 1 v l.length (dr_ l)) :
  Calls P (ρ.f 169) #[.pointer (some ⟨b,0,none⟩)] w fun e w'=>e = .returned (.string ⟨l.toArray⟩)∧YtfffplonjaigkaaGreatDoor.Abs.StrEnd v.ownBlock w w':=by
 rcases hown.2 with⟨rfl,h0⟩ | ⟨g,cap,cur,rfl,_,hg,hnc,hcm,hcs,htake⟩
 ·have:l=[]:=W8 h0
  subst this
  exact(YtfffplonjaigkaaGreatDoor.Abs.string_nil L X b p w hbk).mono fun e w' h=>⟨h.1,h.2.any _⟩
 ·cases l with
  | nil =>
   by_cases hc0:cap=0
   ·subst hc0
    exact YtfffplonjaigkaaGreatDoor.Abs.string_noroom L X b g p cur w hbk hg
   ·exact(YtfffplonjaigkaaGreatDoor.Abs.string_room L X b g cap p w hc0 hbk).mono fun e w' h=>⟨h.1,h.2.any _⟩
  | cons x r=>exact YtfffplonjaigkaaGreatDoor.Abs.string_some L X b g cap p cur (x :: r) w hbk hg hnc hcm hcs htake (by simp)
end Go.Proofs
namespace Go.Proofs.YtfffplonjaigkaaGreatDoor.Abs
open Go Go.Shelf Go.RowKit Go.Lib
theorem uZ (xs:List Int):(xs.map (rX (.int .u8))).flatten=xs.map (Value.int .u8):=by
 induction xs with
 | nil=>rfl
 | cons x l ih=>rw[Y4,ar_,ih]; rfl
theorem Ks (s:S0):strCells s=(dh s).map (Value.int .u8):=by
 unfold strCells dh
 rw[List.map_map]
 rfl
abbrev gU (T e:TypeId):Ty := .agg (.pair (.bp T) (.pair (.slice e (.int .u8)) .unit))
theorem D1 {L:Lk} {γ:Nat→Option G} {b:Nat} {T T1 T' e:TypeId} {q:Unit} {cs:List Value} (h:kE L γ b T' (gU T e) (.strct [.val (.bp T1) q,.row 1]) cs):T'=T ∧ ∃ p v,cs=[p,v]∧selfP b p∧γ 1=some (.row e (.int .u8) v):=by
 have key : ∀ l,RT L γ (gU T e) (.strct [.val (.bp T1) q,.row 1]) l → ∃ v,l=[.pointer none,v]∧γ 1=some (.row e (.int .u8) v):=by
  intro l hl
  cases hl with
  | strct hl =>
   cases hl with
   | cons h1 hl =>
    cases h1 with
    | val h1 =>
    cases hl with
    | cons h2 hl =>
     cases h2 with
     | row h2 =>
     cases hl
     rw[show _=[Value.pointer none] from h1]
     exact⟨_,rfl,h2⟩
 refine⟨h.1 T _ rfl,?_⟩
 rcases h.2 with h' | ⟨_,l,rfl,h'⟩
 ·obtain⟨v,rfl,hv⟩:=key _ h'
  exact⟨_,v,rfl,.inl rfl,hv⟩
 ·obtain⟨v,hl,hv⟩:=key _ h'
  obtain⟨_,rfl⟩:=List.cons.inj hl
  exact⟨_,v,rfl,.inr rfl,hv⟩
section
variable {Gp:WP} {P:Program} {g:Nat} {fn:Func} {T e:TypeId} {own:List Bool} {live:List (Nat×List Nat)}
theorem Mt (hTe:T≠e)
  (hcall : ∀(b:Nat) (p v:Value) (bs:List Value) (s:S0) (w:World),selfP b p→w.heap[b]? = some (.cells #[p,v] T (0,0))→w.ownsRow 0 e 1 v bs.length bs→bs.length+s.size≤140737488355328 →
   Calls P g #[.pointer (some ⟨b,0,none⟩),.string s] w fun e' w'=>e' = .returned (.tuple #[.int .i64 s.size,.nilIface]) ∧ ∃ v',w'.heap[b]? = some (.cells #[.pointer (some ⟨b,0,none⟩),v'] T (0,0))∧w'.ownsRow 0 e 1 v' (bs.length+s.size) (bs++strCells s) ∧
    (∀ k,v'.ownBlock=some k→v.ownBlock=some k∨w.heap.size≤k)∧(∀ k,k < w.heap.size→k≠b→v.ownBlock≠some k→w'.heap[k]? = w.heap[k]?)∧w.heap.size≤w'.heap.size∧w'.os=w.os∧w'.tape=w.tape∧w'.output=w.output) :
  ∀(args:List SV) (tab:aB) (z:(Sh.pair (.val (.int .i64)) (.pair (.val .err) .unit)).den×(Sh.pair (.strct (.pair (.val (.bp T)) (.pair (.row e (.int .u8) false) .unit))) .unit).den),nW T e args tab=some z →
   cN Gp P {g:=g,fn:=fn,sh := .pair (.val (.int .i64)) (.pair (.val .err) .unit),bx := .pair (.strct (.pair (.val (.bp T)) (.pair (.row e (.int .u8) false) .unit))) .unit,own:=own,live:=live,prim:=some (nW T e)} args tab z:=by
 intro args tab z hz
 unfold nW at hz
 split at hz
 ·rename_i t x t' T1 q e' s bs
  split at hz
  ·rename_i hT
   obtain⟨rfl,rfl⟩:=hT
   rw[S7] at hz
   obtain⟨bs',hbs,hz⟩:=hz
   obtain⟨hty,hbs⟩:=eQ hbs
   cases hty
   have hbs:bs=bs':=hbs
   subst hbs
   split at hz
   ·rename_i hlen
    cases hz
    intro hcanon w γ Pr us _ hI hlim N hN vs u n bs1 u' n' ub hm1 hm2 hub
    cases hm1
    cases hm2
    have hub':bX false [(0,aP.box (gU T e) (.strct [.val (.bp T1) q,.row 1])),(1,.row e (.int .u8) bs false)] [.strct [.val (.bp T) (),.row N]] [some (gU T e)]=some [some (.box (gU T e) (.strct [.val (.bp T) (),.row N])),none]:=by
     unfold bX
     dsimp only
     rw[S6 rfl]
     rfl
    have hub2:some ub=some [some (.box (gU T e) (.strct [.val (.bp T) (),.row N])),none]:=hub.symm.trans hub'
    cases hub2
    have hN:2≤N:=hN
    obtain⟨b,arr,T',hγ0,hheap,hbox⟩:=hI.res 0 (.box (gU T e) (.strct [.val (.bp T1) q,.row 1])) rfl
    obtain⟨v1,css,hγ1,hels,hown,_⟩:=hI.res 1 (.row e (.int .u8) bs false) rfl
    obtain⟨rfl,p,v,hcs,hp,hγv⟩:=D1 hbox
    rw[hγ1] at hγv
    cases hγv
    obtain rfl:arr = #[p,v1]:=ab_.1 hcs
    have hsl:=hI.slots
    cases hsl with
    | cons h1 hk =>
    cases hk with
    | cons h2 hk =>
    cases hk
    cases h1 with
    | ptr h1 hp1 =>
    rw[hγ0] at h1
    cases h1
    cases hp1
    obtain rfl:=dt h2
    have hn:cx (.int .u8)=true:=rfl
    have hcss:=(sY hn).1 hels
    rw[hcss,uZ] at hown
    have hown:w.ownsRow 0 e 1 v1 bs.length (bs.map (Value.int .u8)):=hown
    have hne:v1.ownBlock≠some b:=Lib.ownBlock_ne hown hheap hTe
    have hb0:bj γ 0 (.box (gU T' e) (.strct [.val (.bp T1) q,.row 1]))=some b:=by simp[bj,hγ0]
    have hXb:iC [(0,aP.box (gU T' e) (.strct [.val (.bp T1) q,.row 1])),(1,.row e (.int .u8) bs false)] γ b:=⟨0,_,rfl,hb0⟩
    have hXv : ∀ k,v1.ownBlock=some k→iC [(0,aP.box (gU T' e) (.strct [.val (.bp T1) q,.row 1])),(1,.row e (.int .u8) bs false)] γ k:=fun k hk=>⟨1,_,rfl,by simp[bj,hγ1,hk]⟩
    have hlb : ∀ o,¬Pr b o:=fun o ho=>hI.loose 0 (.box (gU T' e) (.strct [.val (.bp T1) q,.row 1])) b rfl hb0 o ho
    have hlv : ∀ k,v1.ownBlock=some k → ∀ o,¬Pr k o:=fun k hk o ho=>hI.loose 1 (.row e (.int .u8) bs false) k rfl (by simp[bj,hγ1,hk]) o ho
    have hblt:b < w.heap.size:=(V8.1 hheap).1
    refine(hcall b p v1 (bs.map (Value.int .u8)) x w hp hheap (by rw[X6]; exact hown) (by rw[X6]; exact hlen)).mono ?_
    rintro e2 w' ⟨rfl,v',g1,g2,g3,g4,g5,g6,g7,g8⟩
    rw[X6] at g2
    have hnew : ∀ r y,iY [(N,some (aP.row e (.int .u8) (bs++dh x) false))] r=some y→r=N∧y = .row e (.int .u8) (bs++dh x) false:=by
     intro r y h
     have h':(if r=N then some (aP.row e (.int .u8) (bs++dh x) false) else none)=some y:=h
     by_cases hr:r=N
     ·rw[S6 hr] at h'
      exact⟨hr,(X0 h').symm⟩
     ·rw[S4 hr] at h'
      cases h'
    have hblk : ∀ k,bj (fun r=>if r=N then some (G.row e (.int .u8) v') else none) N (.row e (.int .u8) (bs++dh x) false)=some k→v'.ownBlock=some k:=by
     intro k hk
     simpa[bj] using hk
    have hv's : ∃ A n c,v' = .slice A n c:=by
     rcases g2.2 with⟨rfl,_⟩ | ⟨_,_,_,rfl,_⟩ <;> exact⟨_,_,_,rfl⟩
    refine⟨[.int .i64 (x:S0).size,.nilIface],fun r=>if r=N then some (.row e (.int .u8) v') else none,Pr,rfl,⟨?_,?_,?_,?_,?_,?_,?_,?_,?_,?_,g5,g6,g7,g8,?_,?_,?_⟩,?_⟩
    ·exact .cons (.val (t := .int .i64) (cs:=[.int .i64 (x:S0).size]) rfl) (.cons (.val (t := .err) (x:=true) (cs:=[.nilIface]) (.inl ⟨rfl,rfl⟩)) .nil)
    ·intro r g hr
     by_cases h:r=N
     ·rw[S6 h] at hr
      cases hr
      obtain⟨A,n,c,rfl⟩:=hv's
      exact⟨⟨by omega,by show r < N+1; omega⟩,.inl ⟨e,.int .u8,A,n,c,rfl⟩⟩
     ·rw[S4 h] at hr
      cases hr
    ·intro j t c hj
     rcases j with _ | _ | j
     ·simp only[Y0,U3,aP.box.injEq] at hj
      obtain⟨rfl,rfl⟩:=hj
      refine⟨b,_,T',hγ0,g1,fun T2 s h => ?_,.inr ⟨rfl,[v'],rfl,?_⟩⟩
      ·cases h
       rfl
      ·show RT _ _ _ _ ([Value.pointer none]++([v']++[]))
       exact .strct (.cons (.val rfl) (.cons (.row (S6 rfl)) .nil))
     ·simp at hj
     ·simp at hj
    ·intro r y h
     obtain⟨rfl,rfl⟩:=hnew r y h
     refine⟨T7 _,cr_ _,v',(bs++dh x).map (rX (.int .u8)),S6 rfl,(sY hn).2 rfl,?_,fun h=>by cases h⟩
     rw[uZ,List.map_append,←Ks,List.length_append]
     have:(dh x).length=(x:S0).size:=by
      unfold dh
      rw[X6,Array.length_toList]
      rfl
     rw[this]
     exact g2
    ·intro r r' y y' k h h' hne'
     exact V2 ((hnew r y h).1.trans (hnew r' y' h').1.symm) hne'
    ·intro j t c k hj hk r y h hy
     rcases j with _ | _ | j
     ·obtain⟨rfl,rfl⟩:=hnew r y h
      rw[hγ0] at hk
      simp only[Y0,U3,aP.box.injEq] at hj
      obtain⟨rfl,rfl⟩:=hj
      cases hk
      rcases g3 b (hblk b hy) with h1 | h1
      ·exact hne h1
      ·omega
     ·simp at hj
     ·simp at hj
    ·intro j t c k hj hk o ho
     rcases j with _ | _ | j
     ·rw[hγ0] at hk
      simp only[Y0,U3,aP.box.injEq] at hj
      obtain⟨rfl,rfl⟩:=hj
      cases hk
      exact hlb o ho
     ·simp at hj
     ·simp at hj
    ·intro r y k h hy o ho
     obtain⟨rfl,rfl⟩:=hnew r y h
     rcases g3 k (hblk k hy) with h1 | h1
     ·exact V2 ho (hlv k h1 o)
     ·have:=hI.prIn k o ho
      omega
    ·intro r y k h hy
     obtain⟨rfl,rfl⟩:=hnew r y h
     rcases g3 k (hblk k hy) with h1 | h1
     ·exact .inl (hXv k h1)
     ·exact .inr h1
    ·exact fun k hk hx=>g4 k hk (fun e=>hx (e ▸ hXb)) (fun e=>hx (hXv k e))
    ·exact fun k o ho=>X1 (hI.prIn k o ho) g5
    ·exact fun k hk hx o ho=>ho
    ·intro k o u hu
     refine⟨hu.1,?_⟩
     rw[World.cell?_of_block (g4 k (hI.prIn k o hu.1) (fun e=>hlb o (e ▸ hu.1)) (fun e=>hlv k e o hu.1))]
     exact hu.2
    ·intro r hr
     have:r∈([]:List (Nat×Nat)):=hr
     cases this
   ·cases hz
  ·cases hz
 ·cases hz
theorem Kt (hTe:T≠e)
  (hcall : ∀(b:Nat) (p v:Value) (l:List UInt8) (w:World),w.heap[b]? = some (.cells #[p,v] T (0,0))→w.ownsRow 0 e 1 v l.length (dr_ l)→Calls P g #[.pointer (some ⟨b,0,none⟩)] w fun e' w'=>e' = .returned (.string ⟨l.toArray⟩)∧StrEnd v.ownBlock w w') :
  ∀(args:List SV) (tab:aB) (z:(Sh.pair (.val .str) .unit).den×(Sh.pair (.strct (.pair (.val (.bp T)) (.pair (.val (.slice e (.int .u8))) .unit))) .unit).den),lv T e args tab=some z →
   cN Gp P {g:=g,fn:=fn,sh := .pair (.val .str) .unit,bx := .pair (.strct (.pair (.val (.bp T)) (.pair (.val (.slice e (.int .u8))) .unit))) .unit,own:=own,live:=live,prim:=some (lv T e)} args tab z:=by
 intro args tab z hz
 unfold lv at hz
 split at hz
 ·rename_i t t' T1 q e' s bs
  split at hz
  ·rename_i hT
   obtain⟨rfl,rfl⟩:=hT
   rw[S7] at hz
   obtain⟨bs',hbs,hz⟩:=hz
   obtain⟨hty,hbs⟩:=eQ hbs
   cases hty
   have hbs:bs=bs':=hbs
   subst hbs
   split at hz
   ·rename_i hall
    cases hz
    intro hcanon w γ Pr us _ hI hlim N hN vs u n bs1 u' n' ub hm1 hm2 hub
    cases hm1
    cases hm2
    have hub':bX false [(0,aP.box (gU T e) (.strct [.val (.bp T1) q,.row 1])),(1,.row e (.int .u8) bs false)] [.strct [.val (.bp T) (),.val (.slice e (.int .u8)) bs]] [some (gU T e)]=some [some (.box (gU T e) (.strct [.val (.bp T) (),.val (.slice e (.int .u8)) bs])),none]:=by
     unfold bX
     dsimp only
     rw[S6 rfl]
     rfl
    have hub2:some ub=some [some (.box (gU T e) (.strct [.val (.bp T) (),.val (.slice e (.int .u8)) bs])),none]:=hub.symm.trans hub'
    cases hub2
    obtain⟨b,arr,T',hγ0,hheap,hbox⟩:=hI.res 0 (.box (gU T e) (.strct [.val (.bp T1) q,.row 1])) rfl
    obtain⟨v1,css,hγ1,hels,hown,_⟩:=hI.res 1 (.row e (.int .u8) bs false) rfl
    obtain⟨rfl,p,v,hcs,hp,hγv⟩:=D1 hbox
    rw[hγ1] at hγv
    cases hγv
    obtain rfl:arr = #[p,v1]:=ab_.1 hcs
    have hsl:=hI.slots
    cases hsl with
    | cons h1 hk =>
    cases hk
    cases h1 with
    | ptr h1 hp1 =>
    rw[hγ0] at h1
    cases h1
    cases hp1
    have hn:cx (.int .u8)=true:=rfl
    have hcss:=(sY hn).1 hels
    rw[hcss,uZ] at hown
    have hbc:dr_ (bs.map fun n=>UInt8.ofNat n.toNat)=bs.map (Value.int .u8):=by
     unfold dr_
     rw[List.map_map]
     refine List.map_congr_left fun n hn => ?_
     have key : ∀ m:Int,0≤m∧m < 256→Value.int .u8 (((UInt8.ofNat m.toNat).toNat:Nat):Int)=Value.int .u8 m:=by
      intro m hm
      congr 1
      rw[UInt8.toNat_ofNat']
      omega
     exact key n (X7 (List.all_eq_true.1 hall n hn))
    have hown:w.ownsRow 0 e 1 v1 bs.length (bs.map (Value.int .u8)):=hown
    have hne:v1.ownBlock≠some b:=Lib.ownBlock_ne hown hheap hTe
    have hb0:bj γ 0 (.box (gU T' e) (.strct [.val (.bp T1) q,.row 1]))=some b:=by simp[bj,hγ0]
    have hXv : ∀ k,v1.ownBlock=some k→iC [(0,aP.box (gU T' e) (.strct [.val (.bp T1) q,.row 1])),(1,.row e (.int .u8) bs false)] γ k:=fun k hk=>⟨1,_,rfl,by simp[bj,hγ1,hk]⟩
    have hlb : ∀ o,¬Pr b o:=fun o ho=>hI.loose 0 (.box (gU T' e) (.strct [.val (.bp T1) q,.row 1])) b rfl hb0 o ho
    have hblt:b < w.heap.size:=(V8.1 hheap).1
    refine(hcall b p v1 (bs.map fun n=>UInt8.ofNat n.toNat) w hheap (by rw[X6,hbc]; exact hown)).mono ?_
    rintro e2 w' ⟨rfl,hE⟩
    refine⟨[.string (strOfNums bs)],fun _=>none,fun k o=>Pr k o∨(v1.ownBlock=some k∧o < bs.length),rfl,⟨?_,?_,?_,?_,?_,?_,?_,?_,?_,?_,hE.size,hE.os,hE.tape,hE.output,?_,?_,?_⟩,?_⟩
    ·exact .cons (.val (t := .str) (cs:=[.string (strOfNums bs)]) rfl) .nil
    ·intro r g hr
     cases hr
    ·intro j t c hj
     rcases j with _ | _ | j
     ·simp only[Y0,U3,aP.box.injEq] at hj
      obtain⟨rfl,rfl⟩:=hj
      have hk:RK (Ln (fun k o=>Pr k o∨(v1.ownBlock=some k∧o < bs.length)) w') (.slice e (.int .u8)) bs [v1]:=by
       rcases hown.2 with⟨rfl,h0⟩ | ⟨g1,cap,cur,rfl,_,hg,hnc,hcm,hsz,htake⟩
       ·have:bs=[]:=W8 h0
        subst this
        exact⟨none,0,rfl,T7 _,fun h=>V2 rfl h⟩
       ·refine⟨_,cap,rfl,hnc,fun _=>⟨g1,0,rfl,fun i hi=>⟨_,rfl,fun j u hj=>⟨.inr ⟨rfl,?_⟩,?_⟩⟩⟩⟩
        ·have:j=0:=by
          have:=(U0.1 hj).1
          simpa using this
         subst this
         show 0+i*1+0 < bs.length
         omega
        ·have:j=0:=by
          have:=(U0.1 hj).1
          simpa using this
         subst this
         cases hj
         refine hE.cell g1 _ _ (V8.1 hg).1 ?_
         have:=hown.cells (g:=g1) rfl i (.int .u8 bs[i]) (by rw[de_,T9 hi]; rfl)
         rw[add_lit] at this
         rw[show 0+i*(Ty.int .u8).sz+0=0+i by show 0+i*1+0=0+i; omega]
         exact this
      have hheap':w'.heap[b]? = some (.cells #[p,v1] T' (0,0)):=by
       rw[hE.block b hblt hne]
       exact hheap
      refine⟨b,_,T',hγ0,hheap',fun T2 s h => ?_,?_⟩
      ·cases h
       rfl
      ·have hrt:RT (Ln (fun k o=>Pr k o∨(v1.ownBlock=some k∧o < bs.length)) w') (fun _=>none) (gU T' e) (.strct [.val (.bp T') (),.val (.slice e (.int .u8)) bs]) ([Value.pointer none]++([v1]++[])) := .strct (.cons (.val rfl) (.cons (.val hk) .nil))
       rcases hp with rfl | rfl
       ·exact .inl hrt
       ·exact .inr ⟨rfl,[v1],rfl,hrt⟩
     ·simp at hj
     ·simp at hj
    ·intro r y h
     cases h
    ·intro r r' y y' k h
     cases h
    ·intro j t c k hj hk r y h
     cases h
    ·intro j t c k hj hk o ho
     rcases j with _ | _ | j
     ·rw[hγ0] at hk
      simp only[Y0,U3,aP.box.injEq] at hj
      obtain⟨rfl,rfl⟩:=hj
      cases hk
      rcases ho with ho | ⟨ho,_⟩
      ·exact hlb o ho
      ·exact hne ho
     ·simp at hj
     ·simp at hj
    ·intro r y k h
     cases h
    ·intro r y k h
     cases h
    ·exact fun k hk hx=>hE.block k hk (fun e=>hx (hXv k e))
    ·rintro k o (ho | ⟨ho,hlt⟩)
     ·exact X1 (hI.prIn k o ho) hE.size
     ·exact X1 (hown.lt k ho).2 hE.size
    ·rintro k hk hx o (ho | ⟨ho,_⟩)
     ·exact ho
     ·exact V2 (hXv k ho) hx
    ·exact fun k o u hu=>⟨.inl hu.1,hE.cell k o u (hI.prIn k o hu.1) hu.2⟩
    ·intro r hr
     have:r∈([]:List (Nat×Nat)):=hr
     cases this
   ·cases hz
  ·cases hz
 ·cases hz
end
theorem Om {Gp:WP} : ∀(args:List SV) (tab:aB) (z:(Sh.pair (.val (.int .i64)) (.pair (.val .err) .unit)).den×(Sh.pair (.strct (.pair (.val (.bp 185)) (.pair (.row 5 (.int .u8) false) .unit))) .unit).den),nW 185 5 args tab=some z →
  cN Gp Tryz.prog {g:=156,fn:=Tryz.f156,sh := .pair (.val (.int .i64)) (.pair (.val .err) .unit),bx := .pair (.strct (.pair (.val (.bp 185)) (.pair (.row 5 (.int .u8) false) .unit))) .unit,own:=[],live:=[],prim:=some (nW 185 5)} args tab z :=
 Mt (P:=Tryz.prog) (by decide) fun b p v bs s w h1 h2 h3 h4=>write_at Tryz.layWr Tryz.extraWr b p v bs s w h1 h2 h3 h4
theorem Mu {Gp:WP} : ∀(args:List SV) (tab:aB) (z:(Sh.pair (.val .str) .unit).den×(Sh.pair (.strct (.pair (.val (.bp 185)) (.pair (.val (.slice 5 (.int .u8))) .unit))) .unit).den),lv 185 5 args tab=some z →
  cN Gp Tryz.prog {g:=159,fn:=Tryz.f159,sh := .pair (.val .str) .unit,bx := .pair (.strct (.pair (.val (.bp 185)) (.pair (.val (.slice 5 (.int .u8))) .unit))) .unit,own:=[],live:=[],prim:=some (lv 185 5)} args tab z :=
 Kt (P:=Tryz.prog) (by decide) fun b p v l w h1 h2=>string_at Tryz.laySt Tryz.extraSt b p v l w h1 h2
end Go.Proofs.YtfffplonjaigkaaGreatDoor.Abs
namespace Go.Proofs
open Go.Shelf Go.RowKit Go.Lib
def Tryz.layTrim_ren:Go.Shelf.Ren:=⟨fun | 160=>160 | 232=>200 | 231=>199 | 227=>201 | 234=>203 | 233=>202 | 236=>205 | 235=>204 | 228=>256 | 271=>259 | 151=>258 | 197=>257 | 120=>304 | 152=>303 | 260=>302 | 137=>343 | 119=>344 | 224=>268 | 225=>267 | 217=>266 | 266=>314 | n=>n,fun | 9=>9 | 4=>4 | 3=>3 | 5=>5 | 117=>225 | 116=>224 | 0=>0 | 124=>228 | 21=>21 | 105=>272 | 46=>203 | 119=>329 | 139=>332 | 138=>331 | n=>n,fun | 3=>4 | 4=>5 | n=>n⟩
theorem Tryz.layTrim:Go.Proofs.Lays.n160 Tryz.prog Tryz.layTrim_ren:={
 mixed:=by kernel_rfl
 f119:=Tryz.func344.trans (T4 some (by kernel_rfl))
 f120:=Tryz.func304.trans (T4 some (by kernel_rfl))
 f137:=Tryz.func343.trans (T4 some (by kernel_rfl))
 f151:=Tryz.func258.trans (T4 some (by kernel_rfl))
 f152:=Tryz.func303.trans (T4 some (by kernel_rfl))
 f160:=Tryz.func160.trans (T4 some (by kernel_rfl))
 f197:=Tryz.func257.trans (T4 some (by kernel_rfl))
 f217:=Tryz.func266.trans (T4 some (by kernel_rfl))
 f224:=Tryz.func268.trans (T4 some (by kernel_rfl))
 f225:=Tryz.func267.trans (T4 some (by kernel_rfl))
 f227:=Tryz.func201.trans (T4 some (by kernel_rfl))
 f228:=Tryz.func256.trans (T4 some (by kernel_rfl))
 f231:=Tryz.func199.trans (T4 some (by kernel_rfl))
 f232:=Tryz.func200.trans (T4 some (by kernel_rfl))
 f233:=Tryz.func202.trans (T4 some (by kernel_rfl))
 f234:=Tryz.func203.trans (T4 some (by kernel_rfl))
 f235:=Tryz.func204.trans (T4 some (by kernel_rfl))
 f236:=Tryz.func205.trans (T4 some (by kernel_rfl))
 f260:=Tryz.func302.trans (T4 some (by kernel_rfl))
 f266:=Tryz.func314.trans (T4 some (by kernel_rfl))
 f271:=Tryz.func259.trans (T4 some (by kernel_rfl))
 t0:=Tryz.underlying0
 a0:=Tryz.isAgg0
 z0:=Tryz.sizeOf0
 v0:=Tryz.zeroValue0
 t3:=Tryz.underlying3
 a3:=Tryz.isAgg3
 z3:=Tryz.sizeOf3
 v3:=Tryz.zeroValue3
 t4:=Tryz.underlying4
 a4:=Tryz.isAgg4
 z4:=Tryz.sizeOf4
 v4:=Tryz.zeroValue4
 t5:=Tryz.underlying5
 a5:=Tryz.isAgg5
 z5:=Tryz.sizeOf5
 v5:=Tryz.zeroValue5
 t9:=Tryz.underlying9
 a9:=Tryz.isAgg9
 z9:=Tryz.sizeOf9
 v9:=Tryz.zeroValue9
 t21:=Tryz.underlying21
 a21:=Tryz.isAgg21
 z21:=Tryz.sizeOf21
 v21:=Tryz.zeroValue21
 t46:=Tryz.underlying203
 a46:=Tryz.isAgg203
 z46:=Tryz.sizeOf203
 v46:=Tryz.zeroValue203
 t105:=Tryz.underlying272
 a105:=Tryz.isAgg272
 z105:=Tryz.sizeOf272
 v105:=Tryz.zeroValue272
 t116:=Tryz.underlying224
 a116:=Tryz.isAgg224
 z116:=Tryz.sizeOf224
 t117:=Tryz.underlying225
 a117:=Tryz.isAgg225
 z117:=Tryz.sizeOf225
 v117:=Tryz.zeroValue225
 t119:=Tryz.underlying329
 a119:=Tryz.isAgg329
 z119:=Tryz.sizeOf329
 t124:=Tryz.underlying228
 a124:=Tryz.isAgg228
 z124:=Tryz.sizeOf228
 v124:=Tryz.zeroValue228
 t138:=Tryz.underlying331
 a138:=Tryz.isAgg331
 z138:=Tryz.sizeOf331
 v138:=Tryz.zeroValue331
 t139:=Tryz.underlying332
 a139:=Tryz.isAgg332
 z139:=Tryz.sizeOf332
 v139:=Tryz.zeroValue332
 g3:=by kernel_rfl
 g4:=by kernel_rfl}
end Go.Proofs
namespace Go.Proofs.YtfffplonjaigkaaGreatDoor.Abs
open Go Go.Shelf Go.RowKit Go.Lib
theorem Ku {l:List fg} : ∀(args:List SV) (tab:aB) (z:(Sh.pair (.val .str) .unit).den×Sh.unit.den),ut args tab=some z→cN (ec Tryz.prog l) Tryz.prog jQ args tab z:=by
 intro args tab z hz
 unfold ut at hz
 split at hz
 ·rename_i s c
  split at hz
  ·rename_i h
   cases hz
   refine ii (sh := .pair (.val .str) .unit) (fun _=>rfl) ?_ (fun _ _ h=>h.none)
   intro w Pr γ us hG _ hu
   cases hu with
   | cons a k =>
    cases k with
    | cons b k =>
     cases k
     obtain rfl:=dt a
     obtain rfl:=dt b
     obtain⟨h1,h2⟩:=FY h.1
     refine(Any.strings_Trim_laid Tryz.layTrim (by kernel_rfl) s c w h.2 h1 h2).mono ?_
     rintro e w' ⟨rfl,hB⟩
     exact⟨[_],rfl,⟨[_],[],rfl,rfl,rfl⟩,hB⟩
  ·cases hz
 ·cases hz
end Go.Proofs.YtfffplonjaigkaaGreatDoor.Abs
