/- slices.Clone: the library's contract, wherever an empty slice may stand. -/
import Derived.Shelf.SlicesE.Clone
import Derived.Test.YtipnjpfdlolhmaaGreatDoorZA3
import Derived.Shelf.SlSortCmp.WholeK
import Derived.Shelf.SlicesG.Cmp
import Derived.Handy
import Derived.StillTailTactics
import Derived.Test.YtipnjpfdlolhmaaGreatDoorZQD
import Derived.Shelf.SlSortCmp.NoneTotal
import Derived.Shelf.Strconv.ErrVarParseInt
import Derived.Shelf.Strings.SlTrimAscii
import Derived.Shelf.Strconv.Itoa4
import Derived.Lib.AppendIntMem
import Derived.Shelf.Strings.Replace
import Derived.Shelf.LaysM
import Derived.Shelf.Strings.OnBuilder
import Derived.Shelf.Strings.Cut
open Array renaming getElem?_eq_getElem→cm_,getElem?_toList→cu_,length_toList→bw_
open Classical renaming choose→fi_
open Go.Lib renaming bitLen→ex_,compareInt→df_,parseIntB→dp_
open List renaming eq_nil_of_length_eq_zero→bo_,getElem?_eq_some_iff→ar_,map_congr_left→ej_
open Nat renaming le_refl→ag_,lt_of_lt_of_le→cj_,lt_succ_self→gg_,mul_comm→ey_,zero_add→cl_,zero_le→de_
open Option renaming bind_eq_some_iff→ab_
open Option.some renaming inj→bl_
open _root_ renaming ByteArray→Z0,absurd→ay_,congrArg→ae_,if_neg→Z2,if_pos→Z3,of_decide_eq_true→do_
namespace Go.Proofs
open Go.Shelf Go.RowKit Go.Lib
variable {P:Program} {ρ:Ren}
set_option maxHeartbeats 2000000 in
set_option maxRecDepth 100000 in
theorem YtipnjpfdlolhmaaGreatDoor.Abs.clone_any (L:SlLaysE0.n41 P ρ) (i0:TypeInfo) (z:Value) (size bytes:Nat) (hi:P.info? (ρ.t 23)=some i0) (hz0:i0.zero=some z) (hz1:i0.size=size) (hz2:i0.bytes=bytes) (hzs:z.cells.size=size) (hsz:0 < size)
  (z23 : ∀ w,(Go.sizeOf (ρ.t 23)).run P w = .ok size w) (a:Addr) (n c:Nat) (news:List Value) (w:World) (hl:news.length=n*size) (hn:n≤maxLen) (hbig:n*bytes≤140737488355328)
  (hc : ∀ j u,news[j]? = some u→w.cell? (a.add j)=some u) (h1 : ∀ u∈news,u.oneCell'=true) :
  Calls P (ρ.f 41) #[.slice (some a) n c] w fun e w' => ∃ v',e = .returned v'∧w'.ownsRow w.heap.size (ρ.t 23) size v' n news∧v' ≠ .slice none 0 0∧Below w.heap.size w w':=by
 have mixed:=L.mixed; have t4:=L.t4; have a4:=L.a4; have z4:=L.z4; have v4:=L.v4; have t22:=L.t22; have a22:=L.a22; have z22:=L.z22; have v22:=L.v22
 have q22 : ∀(w:World) (a:Option Addr) (n c n' c':Nat),(binOp .eql (ρ.t 22) (.slice a n c) (.slice none n' c')).run P w = .ok (.bool a.isNone) w:=fun w a n c n' c'=>Lib.run_eql_slice_nil w _ _ a n c n' c' L.t22
 have u22 : ∀ w,Sem.run P (underlying (ρ.t 22)) w = .ok (TypeDesc.slice (ρ.t 23)) w:=run_underlying t22
 have A:Aside (∀ j u,news[j]? = some u→w.cell? (a.add j)=some u):=hc
 clear hc
 obtain⟨_,_,FG⟩:=L.f41
 go_enter FG,SlBodyN.n41_ntmps ρ
 go_wp2_with (at_builtin; refine wpList_append_own _ rfl _ _ (ρ.t 22) rfl w.heap.size (ρ.t 23) i0 z size bytes t22 hi hz0 hz1 hz2 hzs hsz _ _ _ rfl (World.ownsRow_made w #[] 0 (ag_ _) (de_ _) (by simp)) a n c news rfl ?qc1 ?qc2 ?qc3 ?qc4 ?qc5 ?qc6 ?_)
 case qc1=>exact hl
 case qc2 =>
  intro j u hj
  exact Lib.cell?_alloc_some _ (A.out j u hj)
 case qc3=>exact h1
 case qc4=>rw[cl_]; exact hn
 case qc5=>rw[cl_]; exact hbig
 case qc6=>simp
 intro v' w1 hown hgrow hnil
 go_wp2
 go_ret
 refine⟨v',rfl,by simpa using hown,?_,?_⟩
 ·exact hnil
 ·exact((Below.refl _ w).alloc (ag_ _) _).grown hgrow (by simp) (by intro k hk; simp[Value.ownBlock] at hk; omega)
end Go.Proofs
set_option linter.unusedVariables false
set_option linter.unusedSimpArgs false
set_option linter.unusedSectionVars false
namespace Go.Proofs.YtipnjpfdlolhmaaGreatDoor.Abs
open Go Go.RowKit
theorem Ih {α:Type} [Inhabited α] {enc:α→List Value} {k:Nat} (hk : ∀ x,(enc x).length=k) : ∀ l:List α,(List.range (l.length*k)).map (fun t=>(enc l[t / k]!)[t % k]!)=(l.map enc).flatten
 | []=>by simp
 | x :: l=>by
  have ih:=Ih hk l
  rw[List.length_cons,Nat.add_mul,Nat.one_mul,Nat.add_comm,List.range_add,List.map_append,List.map_cons,List.flatten_cons,←ih,List.map_map]
  congr 1
  ·apply List.ext_getElem
   ·simp[hk]
   ·intro i h1 h2
    have hi:i < k:=by simpa using h1
    simp only[List.getElem_map,List.getElem_range]
    rw[Nat.div_eq_of_lt hi,Nat.mod_eq_of_lt hi]
    simp only[List.getElem!_cons_zero]
    rw[getElem!_pos _ i h2]
  ·apply ej_
   intro t ht
   have hk0:0 < k:=by
    rcases Nat.eq_zero_or_pos k with h | h
    ·subst h
     simp at ht
    ·exact h
   simp only[Function.comp]
   rw[Nat.add_div_left _ hk0,Nat.add_mod_left]
   simp
theorem OY {α:Type} [Inhabited α] {enc:α→List Value} {k:Nat} (hk : ∀ x,(enc x).length=k) (d:Array α):(Sort.flatK enc k d).toList=(d.toList.map enc).flatten:=by
 rw[←Ih hk]
 unfold Sort.flatK
 rw[Array.toList_map,Array.toList_range,bw_]
 refine ej_ fun i _ => ?_
 rw[Array.getElem!_toList (xs:=d)]
theorem U6 (cur d:Array Value) (h:d.size≤cur.size):(Sort.putCells id 0 d cur).toList.take d.size=d.toList:=by
 apply List.ext_getElem?
 intro i
 rw[List.getElem?_take]
 by_cases hi:i < d.size
 ·rw[Z3 hi]
  simp only[Sort.putCells,cu_,Array.getElem?_mapIdx]
  rw[cm_ (by omega),cm_ hi]
  simp[hi]
 ·rw[Z2 hi,cu_,Array.getElem?_eq_none (by omega)]
theorem Fe {Gp:WP} {P:Program} {g gc:Nat} {fn:Func} {e:TypeId} {t:Ty} {own:List Bool} {live:List (Nat×List Nat)} (hn:di t=true) (hsz:0 < t.sz) {lt:t.den→t.den→Bool} (hO:Sort.SWO lt)
  (hcon : ∀(be cap:Nat) (d:Array t.den) (w:World),Sort.HoldsK (ga t) t.sz w be 0 d→be < w.heap.size→d.size < 4611686018427387904→Calls P g #[.slice (some ⟨be,0,none⟩) d.size cap,.func (.func gc) #[] #[]] w fun e w'=>e = .returned (.tuple #[]) ∧ ∃ n os,w'=sortWorldK (ga t) t.sz w be 0 n (Sort.pdq lt d 0 d.size (ex_ d.size) true true) os)
  (hnone : ∀(p:Option Addr) (cap:Nat) (fv:Value) (w:World),Calls P g #[.slice p 0 cap,fv] w fun e w'=>e = .returned (.tuple #[])∧w'=w) :
  ∀(args:List SV) (tab:aE) (z:Sh.unit.den×(Sh.pair (.row e t false) .unit).den),f0 e t gc lt args tab=some z→ed Gp P {g:=g,fn:=fn,sh := .unit,bx := .pair (.row e t false) .unit,own:=own,live:=live,rb:=true,prim:=some (f0 e t gc lt)} args tab z:=by
 intro args tab z hz
 unfold f0 at hz
 split at hz
 ·rename_i g' e' s xs
  split at hz
  ·rename_i hg'
   subst hg'
   rw[ab_] at hz
   obtain⟨xs',hxs,hz⟩:=hz
   obtain⟨hty,hxs⟩:=jj hxs
   cases hty
   have hxs:xs=xs':=hxs
   subst hxs
   split at hz
   ·rename_i hlen
    cases hz
    intro hcanon w γ Pr us _ hI hlim N hN vs u n bs u' n' ub hm1 hm2 hub
    cases hm1
    cases hm2
    cases hub
    have hN:1≤N:=hN
    obtain⟨v,css,hγ,hels,hown,hfr⟩:=hI.res 0 (.row e t xs false) rfl
    have hsl:=hI.slots
    cases hsl with
    | cons h1 hk =>
    cases hk with
    | cons h2 hk =>
    cases hk
    rename_i u1 u2
    cases h1 with
    | row h1 =>
    rw[hγ] at h1
    cases h1
    cases h2 with
    | fn hc =>
    cases hc
    have hcss:=(OH hn).1 hels
    have hγN : ∀ r,(if r=N then γ 0 else none)=if r=N then some (.row e t v) else none:=fun r=>by rw[hγ]
    have ft : ∀(w':World),w'.os=w.os→w'.tape=w.tape→w'.output=w.output→w.heap.size≤w'.heap.size→(∀ k,k < w.heap.size→v.ownBlock≠some k→w'.heap[k]? = w.heap[k]?) →
      w'.ownsRow 0 e t.sz v (ew lt xs).length ((ew lt xs).map (ga t)).flatten→vy w (mQ [(0,.row e t xs false)] γ) γ Pr N (N+1) [] [none] [(N,some (.row e t (ew lt xs) false))] [] (fun r=>if r=N then γ 0 else none) Pr w':=by
     intro w' hos htp hout hsize hfrm hrow
     have hloose : ∀ b,v.ownBlock=some b → ∀ o,¬Pr b o:=fun b hb o ho=>hI.loose 0 (.row e t xs false) b rfl (by simp[be,hγ,hb]) o ho
     have hnew : ∀ r x,lJ [(N,some (aZ.row e t (ew lt xs) false))] r=some x→r=N∧x = .row e t (ew lt xs) false:=by
      intro r x h
      have h':(if r=N then some (aZ.row e t (ew lt xs) false) else none)=some x:=h
      by_cases hr:r=N
      ·rw[Z3 hr] at h'
       exact⟨hr,(bl_ h').symm⟩
      ·rw[Z2 hr] at h'
       cases h'
     have hblk : ∀ b,be (fun r=>if r=N then γ 0 else none) N (.row e t (ew lt xs) false)=some b→v.ownBlock=some b:=by
      intro b hb
      simpa[be,hγ] using hb
     refine⟨.nil,?_,?_,?_,?_,?_,?_,?_,?_,?_,hsize,hos,htp,hout,?_,?_,?_⟩
     ·intro r g hr
      by_cases h:r=N
      ·rw[Z3 h,hγ] at hr
       cases hr
       obtain⟨A,n,c,rfl⟩:=hI.gs 0 e t v hγ
       exact⟨⟨by omega,by omega⟩,.inl ⟨e,t,A,n,c,rfl⟩⟩
      ·rw[Z2 h] at hr
       cases hr
     ·intro j t' c hj
      rcases j with _ | j <;> simp at hj
     ·intro r x h
      obtain⟨rfl,rfl⟩:=hnew r x h
      refine⟨ag_ _,gg_ _,v,(ew lt xs).map (ga t),?_,(OH hn).2 rfl,hrow,fun h=>by cases h⟩
      exact(Z3 rfl).trans hγ
     ·intro r r' x x' b h h' hne
      exact ay_ ((hnew r x h).1.trans (hnew r' x' h').1.symm) hne
     ·intro j t' c b hj
      rcases j with _ | j <;> simp at hj
     ·intro j t' c b hj
      rcases j with _ | j <;> simp at hj
     ·intro r x b h hb o ho
      obtain⟨rfl,rfl⟩:=hnew r x h
      exact ay_ ho (hloose b (hblk b hb) o)
     ·intro r x b h hb
      obtain⟨rfl,rfl⟩:=hnew r x h
      exact .inl ⟨0,_,rfl,by simp[be,hγ,hblk b hb]⟩
     ·intro k hk hx
      refine hfrm k hk fun hb=>hx ⟨0,_,rfl,by simp[be,hγ,hb]⟩
     ·intro b o ho
      exact cj_ (hI.prIn b o ho) hsize
     ·exact fun b hb hx o ho=>ho
     ·intro b o v' hv'
      refine⟨hv'.1,?_⟩
      rw[World.cell?_of_block (hfrm b (hI.prIn b o hv'.1) (fun hb=>hloose b hb o hv'.1))]
      exact hv'.2
    have hsame2 : ∀ p∈dq true [(0,aZ.row e t xs false)] [SV.row N],(fun r=>if r=N then γ 0 else none) p.1=γ p.2:=by
     intro p hp
     have:p=(N,0):=by simpa[dq] using hp
     subst this
     exact Z3 rfl
    by_cases hx0:xs=[]
    ·subst hx0
     have hs0:ew lt ([]:List t.den)=[]:=bo_ (EM hO [])
     have hv0 : ∃ p cap,v = .slice p 0 cap:=by
      rcases hown.2 with⟨rfl,_⟩ | ⟨g,cap,cur,rfl,_⟩
      ·exact⟨_,_,rfl⟩
      ·exact⟨_,_,rfl⟩
     obtain⟨p,cap,rfl⟩:=hv0
     refine(hnone p cap _ w).mono ?_
     rintro e' w' ⟨rfl,rfl⟩
     refine⟨[],_,Pr,rfl,ft w' rfl rfl rfl (ag_ _) (fun _ _ _=>rfl) ?_,hsame2⟩
     rw[hs0]
     rw[hcss] at hown
     exact hown
    ·rcases hown.2 with⟨rfl,h0⟩ | ⟨g,cap,cur,rfl,_,hheap,hnc,hcm,hcs,htake⟩
     ·exact ay_ (bo_ h0) hx0
     ·have hflat:(Sort.flatK (ga t) t.sz xs.toArray).toList=css.flatten:=by rw[OY (BV hn),hcss]
      have hflen:css.flatten.length=xs.length*t.sz:=hels.flat
      have hglt:g < w.heap.size:=(Array.getElem?_eq_some_iff.1 hheap).1
      have hmul:xs.length*t.sz≤cap*t.sz:=Nat.mul_le_mul_right _ hnc
      have hH:Sort.HoldsK (ga t) t.sz w g 0 xs.toArray:=by
       intro j hj
       have hj':j < css.flatten.length:=by
        rw[←hflat]
        simpa using hj
       have hcell:=hown.cells (g:=g) rfl j _ (List.getElem?_eq_getElem hj')
       rw[gP] at hcell
       refine⟨?_,?_⟩
       ·rw[hcell]
        congr 1
        have:(Sort.flatK (ga t) t.sz xs.toArray)[j]! = (Sort.flatK (ga t) t.sz xs.toArray).toList[j]! := by
         rw[getElem!_pos _ j hj,getElem!_pos _ j (by simpa using hj)]
         simp
        show css.flatten[j]=(Sort.flatK (ga t) t.sz xs.toArray)[j]!
        rw[this,hflat,getElem!_pos _ j hj']
       ·have:=hown.frozenAt j
        rw[cl_]
        exact this
      have hc:=hcon g cap xs.toArray w hH hglt (by simpa using hlen)
      rw[show(xs.toArray).size=xs.length by simp] at hc
      refine hc.mono ?_
      rintro e' w' ⟨rfl,m,os,rfl⟩
      have hsl:(Sort.pdq lt xs.toArray 0 xs.length (ex_ xs.length) true true).toList=ew lt xs:=by
       unfold ew
       simp
      have hdl:=EM hO xs
      have hF:(Sort.flatK (ga t) t.sz (Sort.pdq lt xs.toArray 0 xs.length (ex_ xs.length) true true)).toList=((ew lt xs).map (ga t)).flatten:=by rw[OY (BV hn),hsl]
      have hFs:(Sort.flatK (ga t) t.sz (Sort.pdq lt xs.toArray 0 xs.length (ex_ xs.length) true true)).size=xs.length*t.sz:=by
       rw[Sort.size_flatK,←bw_,hsl,hdl]
      have hw' : ∀ k,k≠g→k < w.heap.size→(sortWorldK (ga t) t.sz w g 0 m (Sort.pdq lt xs.toArray 0 xs.length (ex_ xs.length) true true) os).heap[k]? = w.heap[k]? := by
       intro k hk hkl
       show((w.heap.modify g _)++os)[k]? = w.heap[k]?
       rw[Array.getElem?_append_left (by simpa using hkl),Array.getElem?_modify,Z2 (fun e=>hk e.symm)]
      have hwg:(sortWorldK (ga t) t.sz w g 0 m (Sort.pdq lt xs.toArray 0 xs.length (ex_ xs.length) true true) os).heap[g]? = some (.cells (Sort.putCells id 0 (Sort.flatK (ga t) t.sz (Sort.pdq lt xs.toArray 0 xs.length (ex_ xs.length) true true)) cur) e (0,0)):=by
       show((w.heap.modify g _)++os)[g]? = _
       rw[Array.getElem?_append_left (by simpa using hglt),Array.getElem?_modify,Z3 rfl,hheap]
       rfl
      refine⟨[],_,Pr,rfl,ft _ rfl rfl rfl ?_ ?_ ?_,hsame2⟩
      ·show w.heap.size≤((w.heap.modify g _)++os).size
       simp
      ·intro k hk hne
       exact hw' k (fun e=>hne (by rw[e]; rfl)) hk
      ·refine⟨?_,.inr ⟨g,cap,_,by rw[hdl],de_ _,hwg,by omega,hcm,?_,?_⟩⟩
       ·rw[←hF,bw_,hFs,hdl]
       ·rw[show(Sort.putCells id 0 (Sort.flatK (ga t) t.sz (Sort.pdq lt xs.toArray 0 xs.length (ex_ xs.length) true true)) cur).size=cur.size by simp[Sort.putCells]]
        exact hcs
       ·rw[hdl,←hF,←hFs]
        exact U6 _ _ (by rw[hFs,hcs]; exact hmul)
   ·cases hz
  ·cases hz
 ·cases hz
theorem Nj {L:Lk} {e:TypeId} {t:Ty} {xs:List t.den} {A:Option Addr} {n cap:Nat} (h:RK L (.slice e t) xs [.slice A n cap]) (hsz:0 < t.sz) : ∃ css,ki L t xs css∧(xs≠[] → ∃ b o,A=some ⟨b,o,none⟩ ∧ ∀ j u,css.flatten[j]? = some u→L b (o+j) u):=by
 obtain⟨A',cap',he,hcap,hA⟩:=h
 cases he
 by_cases hx:xs=[]
 ·subst hx
  exact⟨[],⟨rfl,fun i hi=>by simp at hi⟩,fun h=>ay_ rfl h⟩
 ·obtain⟨b,o,rfl,hc⟩:=hA hx
  refine⟨List.ofFn fun i:Fin xs.length=>fi_ (hc i i.2),?_,fun _=>⟨b,o,rfl,?_⟩⟩
  ·refine⟨List.length_ofFn,fun i hi hi' => ?_⟩
   rw[List.getElem_ofFn]
   exact(Classical.choose_spec (hc i hi)).1
  ·have hE:ki L t xs (List.ofFn fun i:Fin xs.length=>fi_ (hc i i.2)):=by
    refine⟨List.length_ofFn,fun i hi hi' => ?_⟩
    rw[List.getElem_ofFn]
    exact(Classical.choose_spec (hc i hi)).1
   intro j u hj
   have hjl:j < xs.length*t.sz:=by
    rw[←hE.flat]
    exact(ar_.1 hj).1
   have hq:j / t.sz < xs.length:=Nat.div_lt_of_lt_mul (by rw[ey_]; exact hjl)
   have h1:=lc hE.lens (i:=j / t.sz) (j:=j % t.sz) (c:=fi_ (hc (j / t.sz) hq)) (by simp[List.getElem?_ofFn,hq]) (Nat.mod_lt _ hsz)
   have e1:j / t.sz*t.sz+j % t.sz=j:=by rw[ey_]; exact Nat.div_add_mod _ _
   rw[e1] at h1
   have h2:=(Classical.choose_spec (hc (j / t.sz) hq)).2 (j % t.sz) u (by rw[←h1]; exact hj)
   rw[Nat.add_assoc,e1] at h2
   exact h2
theorem WT {L:Lk} {t:Ty} {xs:List t.den} {css:List (List Value)} (h:ki L t xs css) : ∀ u∈css.flatten,u.oneCell'=true:=by
 intro u hu
 rw[List.mem_flatten] at hu
 obtain⟨l,hl,hu⟩:=hu
 obtain⟨i,hi,rfl⟩:=List.getElem_of_mem hl
 exact ne (h.2 i (by rw[←h.1]; exact hi) hi) u hu
theorem Lg {Gp:WP} {P:Program} {g nb:Nat} {fn:Func} {e:TypeId} {t:Ty} {own:List Bool} {live:List (Nat×List Nat)} (hsz:0 < t.sz) (hnb:0 < nb)
  (hnil : ∀(n c:Nat) (w:World),Calls P g #[.slice none n c] w fun e w'=>e = .returned (.slice none 0 0)∧w'=w)
  (hcl : ∀(a:Addr) (n c:Nat) (news:List Value) (w:World),news.length=n*t.sz→n≤maxLen→n*nb≤140737488355328→(∀ j u,news[j]? = some u→w.cell? (a.add j)=some u)→(∀ u∈news,u.oneCell'=true) →
   Calls P g #[.slice (some a) n c] w fun e' w' => ∃ v',e' = .returned v'∧w'.ownsRow w.heap.size e t.sz v' n news∧v' ≠ .slice none 0 0∧Below w.heap.size w w') :
  ∀(args:List SV) (tab:aE) (z:(Sh.pair (.row e t false) .unit).den×Sh.unit.den),ce e t nb args tab=some z→ed Gp P {g:=g,fn:=fn,sh := .pair (.row e t false) .unit,bx := .unit,own:=own,live:=live,prim:=some (ce e t nb)} args tab z:=by
 intro args tab z hz
 unfold ce at hz
 split at hz
 ·rename_i s xs
  rw[ab_] at hz
  obtain⟨xs',hxs,hz⟩:=hz
  obtain⟨rfl,hxs⟩:=jj hxs
  have hxs:xs=xs':=hxs
  subst hxs
  split at hz
  ·rename_i hlen
   cases hz
   intro hcanon w γ Pr us _ hI hlim N hN vs u n bs u' n' ub hm1 hm2 hub
   cases hm1
   cases hm2
   cases hub
   have hsl:=hI.slots
   cases hsl with
   | cons h1 hk =>
   cases hk
   cases h1 with
   | val h1 =>
   obtain⟨A,cap,rfl,hcap,hA⟩:=h1
   obtain⟨css,hE,hcells⟩:=Nj (L:=Ln Pr w) (e:=e) (t:=t) (xs:=xs) (A:=A) (n:=(xs:List t.den).length) (cap:=cap) ⟨A,cap,rfl,hcap,hA⟩ hsz
   have ft : ∀(v:Value) (w':World),Below w.heap.size w w'→w'.ownsRow w.heap.size e t.sz v (xs:List t.den).length css.flatten→vy w (mQ [] γ) γ Pr N (N+1) [.row N] [] [(N,some (.row e t xs false))] [v] (fun r=>if r=N then some (.row e t v) else none) Pr w':=by
    intro v w' hB hrow
    have hnew : ∀ r x,lJ [(N,some (aZ.row e t xs false))] r=some x→r=N∧x = .row e t xs false:=by
     intro r x h
     have h':(if r=N then some (aZ.row e t xs false) else none)=some x:=h
     by_cases hr:r=N
     ·rw[Z3 hr] at h'
      exact⟨hr,(bl_ h').symm⟩
     ·rw[Z2 hr] at h'
      cases h'
    have hblk : ∀ b,be (fun r=>if r=N then some (G.row e t v) else none) N (.row e t xs false)=some b→w.heap.size≤b:=by
     intro b hb
     have:v.ownBlock=some b:=by simpa[be] using hb
     exact(hrow.lt b this).1
    refine⟨.cons (.row (Z3 rfl)) .nil,?_,?_,?_,?_,?_,?_,?_,?_,?_,hB.size,hB.os,hB.tape,hB.output,?_,?_,?_⟩
    ·intro r g hr
     by_cases h:r=N
     ·rw[Z3 h] at hr
      cases hr
      have : ∃ A n c,v = .slice A n c:=by
       rcases hrow.2 with⟨rfl,_⟩ | ⟨g,cap,cur,rfl,_⟩
       ·exact⟨_,_,_,rfl⟩
       ·exact⟨_,_,_,rfl⟩
      obtain⟨A,n,c,rfl⟩:=this
      exact⟨⟨by omega,by omega⟩,.inl ⟨e,t,A,n,c,rfl⟩⟩
     ·rw[Z2 h] at hr
      cases hr
    ·intro j t' c hj
     simp at hj
    ·intro r x h
     obtain⟨rfl,rfl⟩:=hnew r x h
     exact⟨ag_ _,gg_ _,v,css,Z3 rfl,lE (fun b o u h=>⟨h.1,by rw[World.cell?_of_block (hB.block b (hI.prIn b o h.1))]; exact h.2⟩) hE,ZG hrow,fun h=>by cases h⟩
    ·intro r r' x x' b h h' hne
     exact ay_ ((hnew r x h).1.trans (hnew r' x' h').1.symm) hne
    ·intro j t' c b hj
     simp at hj
    ·intro j t' c b hj
     simp at hj
    ·intro r x b h hb o ho
     obtain⟨rfl,rfl⟩:=hnew r x h
     have:=hblk b hb
     have:=hI.prIn b o ho
     omega
    ·intro r x b h hb
     obtain⟨rfl,rfl⟩:=hnew r x h
     exact .inr (hblk b hb)
    ·exact fun k hk _=>hB.block k hk
    ·exact fun b o ho=>cj_ (hI.prIn b o ho) hB.size
    ·exact fun b hb hx o ho=>ho
    ·intro b o v' hv'
     refine⟨hv'.1,?_⟩
     rw[World.cell?_of_block (hB.block b (hI.prIn b o hv'.1))]
     exact hv'.2
   have hmax:(xs:List t.den).length≤maxLen:=by
    have h1:(xs:List t.den).length*1≤(xs:List t.den).length*nb:=Nat.mul_le_mul_left _ hnb
    simp only[maxLen]
    omega
   cases A with
   | none =>
    have hx0:(xs:List t.den)=[]:=by
     rcases List.eq_nil_or_concat (xs:List t.den) with h | ⟨_,_,h⟩
     ·exact h
     ·obtain⟨b,o,hh,_⟩:=hA (by rw[h]; simp)
      cases hh
    subst hx0
    refine(hnil 0 cap w).mono ?_
    rintro e' w' ⟨rfl,rfl⟩
    refine⟨[.slice none 0 0],_,Pr,rfl,ft _ _ (Below.refl _ _) ?_,fun p hp=>by have hp':p∈([]:List (Nat×Nat)):=hp; cases hp'⟩
    have:css=[]:=bo_ hE.1
    rw[this]
    exact World.ownsRow_nil _ _ _ _
   | some a =>
    refine(hcl a (xs:List t.den).length cap css.flatten w hE.flat hmax hlen ?_ (WT hE)).mono ?_
    ·intro j u hj
     have hjl:j < (xs:List t.den).length*t.sz:=by
      rw[←hE.flat]
      exact(ar_.1 hj).1
     have hne:(xs:List t.den)≠[]:=by
      intro h
      rw[h] at hjl
      simp at hjl
     obtain⟨b,o,hab,hc⟩:=hcells hne
     cases hab
     rw[gP]
     exact(hc j u hj).2
    ·rintro e' w' ⟨v',rfl,hrow,_,hB⟩
     exact⟨[v'],_,Pr,rfl,ft _ _ hB hrow,fun p hp=>by have hp':p∈([]:List (Nat×Nat)):=hp; cases hp'⟩
  ·cases hz
 ·cases hz
theorem qP {Gp:WP} {P:Program} {g nb:Nat} {fn:Func} {e:TypeId} {t:Ty} {own:List Bool} {live:List (Nat×List Nat)} (hn:di t=true) (hsz:0 < t.sz) (hnb:0 < nb)
  (hnil : ∀(n c:Nat) (w:World),Calls P g #[.slice none n c] w fun e w'=>e = .returned (.slice none 0 0)∧w'=w)
  (hcl : ∀(a:Addr) (n c:Nat) (news:List Value) (w:World),news.length=n*t.sz→n≤maxLen→n*nb≤140737488355328→(∀ j u,news[j]? = some u→w.cell? (a.add j)=some u)→(∀ u∈news,u.oneCell'=true) →
   Calls P g #[.slice (some a) n c] w fun e' w' => ∃ v',e' = .returned v'∧w'.ownsRow w.heap.size e t.sz v' n news∧v' ≠ .slice none 0 0∧Below w.heap.size w w') :
  ∀(args:List SV) (tab:aE) (z:(Sh.pair (.row e t false) .unit).den×Sh.unit.den),ce e t nb args tab=some z→ed Gp P {g:=g,fn:=fn,sh := .pair (.row e t false) .unit,bx := .unit,own:=own,live:=live,prim:=some (ce e t nb)} args tab z:=Lg hsz hnb hnil hcl
end Go.Proofs.YtipnjpfdlolhmaaGreatDoor.Abs
namespace Go.Proofs
open Go.Shelf Go.RowKit Go.Lib Go.Sort
def Tryz.cmpInt64_ren:Go.Shelf.Ren:=⟨fun | 5=>71 | 7=>114 | n=>n,fun | 22=>2 | 3=>3 | 4=>4 | n=>n,fun | n=>n⟩
theorem Tryz.cmpInt64:Go.Proofs.SlLaysC2.n5 Tryz.prog Tryz.cmpInt64_ren:={
 mixed:=by kernel_rfl
 f5:=⟨Tryz.f71.name,by decide,Tryz.func71.trans (ae_ some (by kernel_rfl))⟩
 f7:=⟨Tryz.f114.name,by decide,Tryz.func114.trans (ae_ some (by kernel_rfl))⟩
 t3:=Tryz.underlying3
 a3:=Tryz.isAgg3
 z3:=Tryz.sizeOf3
 v3:=Tryz.zeroValue3
 t4:=Tryz.underlying4
 a4:=Tryz.isAgg4
 z4:=Tryz.sizeOf4
 v4:=Tryz.zeroValue4
 t22:=Tryz.underlying2
 a22:=Tryz.isAgg2
 z22:=Tryz.sizeOf2
 v22:=Tryz.zeroValue2}
def YtipnjpfdlolhmaaGreatDoor.Abs.orI (x y:Int):Int:=if x=0 then y else x
set_option maxHeartbeats 1000000 in
theorem YtipnjpfdlolhmaaGreatDoor.Abs.or2 (b:Nat) (x y:Int) (W:World) (h0:W.cell? ⟨b,0,none⟩=some (.int .i64 x)) (h1:W.cell? ⟨b,1,none⟩=some (.int .i64 y)):Calls Tryz.prog 70 #[.slice (some ⟨b,0,none⟩) 2 2] W fun e w'=>e = .returned (.int .i64 (YtipnjpfdlolhmaaGreatDoor.Abs.orI x y))∧w'=W:=by
 show Calls _ _ _ _ fun e w'=>e = .returned (.int .i64 (if x=0 then y else x))∧w'=W
 go_enter Tryz.func70,Tryz.ntmps70
 go_wp2
 go_rounds 3
 all_goals (try (go_ret; refine⟨?_,rfl⟩; simp_all; done))
theorem YtipnjpfdlolhmaaGreatDoor.Abs.cell2 (W:World) (x y:Value) (T:TypeId):(W.alloc (.cells #[x,y] T)).cell? ⟨W.heap.size,0,none⟩=some x∧(W.alloc (.cells #[x,y] T)).cell? ⟨W.heap.size,1,none⟩=some y:=by
 rw[World.cell?_alloc_at _ _ _ _ rfl,World.cell?_alloc_at _ _ _ _ rfl]
 exact⟨rfl,rfl⟩
theorem YtipnjpfdlolhmaaGreatDoor.Abs.grow3 (W:World) (o1 o2 o3:Obj):((W.alloc o1).alloc o2).drew.alloc o3=grow (W.drewN 1) (#[o1] ++ #[o2] ++ #[o3]):=by
 rw[alloc_eq_grow,alloc_eq_grow,alloc_eq_grow,grow_grow]
 show grow (grow (W.drewN 1) (#[o1] ++ #[o2])) #[o3]=_
 rw[grow_grow]
set_option maxRecDepth 100000 in
set_option maxHeartbeats 2000000 in
theorem YtipnjpfdlolhmaaGreatDoor.Abs.cmpRefs (a1 a2 b1 b2:Int) (W:World):Calls Tryz.prog 35 #[.agg #[.int .i64 a1,.int .i64 a2],.agg #[.int .i64 b1,.int .i64 b2]] W fun e w'=>e = .returned (.int .i64 (YtipnjpfdlolhmaaGreatDoor.Abs.orI (df_ a2 b2) (df_ a1 b1))) ∧ ∃ q os',w'=grow (W.drewN q) os':=by
 have hcon:=fun(x y:Int) W'=>AnyG.cmp_Compare_int Tryz.cmpInt64 x y W'
 change ∀(x y:Int) W',Calls Tryz.prog 71 _ _ _ at hcon
 have hor:=YtipnjpfdlolhmaaGreatDoor.Abs.or2
 go_enter Tryz.func35,Tryz.ntmps35
 go_wp2_with (first | (go_at_call 71; refine(hcon _ _ _).mono ?_; rintro e w' ⟨rfl,rfl⟩) | (go_at_call 70; refine(hor _ _ _ _ ?_ ?_).mono ?_))
 refine wp_region_still_tail 10 (by kernel_rfl) (by kernel_rfl) ?_
 change wpStill _ _ (World.drew _) (fun a'=>wpList _ _ _ _ a' (World.drew _)) _ _
 simp only[List.take_succ_cons,List.take_zero,List.drop_succ_cons,List.drop_zero]
 iterate 4 still_step
 still_call (hcon _ _ _)
 iterate 4 still_step
 still_call (hcon _ _ _)
 refine wpStill_nil ?_
 generalize hw2:World.drew _=w2
 go_wp2_with (go_at_call 70; refine(hor _ _ _ _ (YtipnjpfdlolhmaaGreatDoor.Abs.cell2 _ _ _ _).1 (YtipnjpfdlolhmaaGreatDoor.Abs.cell2 _ _ _ _).2).mono ?_; rintro e w' ⟨rfl,rfl⟩)
 go_ret
 subst hw2
 exact⟨rfl,1,_,YtipnjpfdlolhmaaGreatDoor.Abs.grow3 _ _ _ _⟩
end Go.Proofs
namespace Go.Proofs
open Go.Shelf Go.RowKit Go.Lib Go.Sort
def Tryz.clCell_ren:Go.Shelf.Ren:=⟨fun | 41=>39 | n=>n,fun | 22=>24 | 23=>39 | 4=>4 | n=>n,fun | n=>n⟩
theorem Tryz.clCell:Go.Proofs.SlLaysE0.n41 Tryz.prog Tryz.clCell_ren:={
 mixed:=by kernel_rfl
 f41:=⟨Tryz.f39.name,by decide,Tryz.func39.trans (ae_ some (by kernel_rfl))⟩
 t4:=Tryz.underlying4
 a4:=Tryz.isAgg4
 z4:=Tryz.sizeOf4
 v4:=Tryz.zeroValue4
 t22:=Tryz.underlying24
 a22:=Tryz.isAgg24
 z22:=Tryz.sizeOf24
 v22:=Tryz.zeroValue24}
def Tryz.sortCell_ren:Go.Shelf.Ren:=⟨fun | 6=>123 | 15=>160 | 14=>159 | 28=>206 | 29=>207 | 20=>198 | 21=>199 | 22=>200 | 23=>201 | 24=>202 | 25=>203 | 26=>204 | 27=>205 | 46=>243 | 47=>244 | 48=>245 | 49=>246 | 50=>247 | 57=>271 | n=>n,fun | 22=>24 | 24=>39 | 25=>137 | 3=>3 | 39=>164 | 0=>0 | 53=>200 | 55=>178 | 4=>4 | 46=>193 | 45=>192 | 50=>197 | 5=>5 | 9=>9 | 66=>225 | 70=>228 | 76=>250 | 77=>251 | n=>n,fun | n=>n⟩
theorem Tryz.sortCell:Go.Proofs.SlLaysF0.n6 Tryz.prog Tryz.sortCell_ren:={
 mixed:=by kernel_rfl
 f6:=⟨Tryz.f123.name,by decide,Tryz.func123.trans (ae_ some (by kernel_rfl))⟩
 f14:=⟨Tryz.f159.name,by decide,Tryz.func159.trans (ae_ some (by kernel_rfl))⟩
 f15:=Tryz.func160.trans (ae_ some (by kernel_rfl))
 f20:=⟨Tryz.f198.name,by decide,Tryz.func198.trans (ae_ some (by kernel_rfl))⟩
 f21:=⟨Tryz.f199.name,by decide,Tryz.func199.trans (ae_ some (by kernel_rfl))⟩
 f22:=⟨Tryz.f200.name,by decide,Tryz.func200.trans (ae_ some (by kernel_rfl))⟩
 f23:=⟨Tryz.f201.name,by decide,Tryz.func201.trans (ae_ some (by kernel_rfl))⟩
 f24:=⟨Tryz.f202.name,by decide,Tryz.func202.trans (ae_ some (by kernel_rfl))⟩
 f25:=⟨Tryz.f203.name,by decide,Tryz.func203.trans (ae_ some (by kernel_rfl))⟩
 f26:=⟨Tryz.f204.name,by decide,Tryz.func204.trans (ae_ some (by kernel_rfl))⟩
 f27:=⟨Tryz.f205.name,by decide,Tryz.func205.trans (ae_ some (by kernel_rfl))⟩
 f28:=Tryz.func206.trans (ae_ some (by kernel_rfl))
 f29:=Tryz.func207.trans (ae_ some (by kernel_rfl))
 f46:=⟨Tryz.f243.name,by decide,Tryz.func243.trans (ae_ some (by kernel_rfl))⟩
 f47:=Tryz.func244.trans (ae_ some (by kernel_rfl))
 f48:=Tryz.func245.trans (ae_ some (by kernel_rfl))
 f49:=⟨Tryz.f246.name,by decide,Tryz.func246.trans (ae_ some (by kernel_rfl))⟩
 f50:=⟨Tryz.f247.name,by decide,Tryz.func247.trans (ae_ some (by kernel_rfl))⟩
 f57:=⟨Tryz.f271.name,by decide,Tryz.func271.trans (ae_ some (by kernel_rfl))⟩
 t0:=Tryz.underlying0
 a0:=Tryz.isAgg0
 z0:=Tryz.sizeOf0
 v0:=Tryz.zeroValue0
 t3:=Tryz.underlying3
 a3:=Tryz.isAgg3
 z3:=Tryz.sizeOf3
 v3:=Tryz.zeroValue3
 t4:=Tryz.underlying4
 a4:=Tryz.isAgg4
 z4:=Tryz.sizeOf4
 v4:=Tryz.zeroValue4
 t5:=Tryz.underlying5
 a5:=Tryz.isAgg5
 z5:=Tryz.sizeOf5
 v5:=Tryz.zeroValue5
 t9:=Tryz.underlying9
 a9:=Tryz.isAgg9
 z9:=Tryz.sizeOf9
 v9:=Tryz.zeroValue9
 t22:=Tryz.underlying24
 a22:=Tryz.isAgg24
 z22:=Tryz.sizeOf24
 v22:=Tryz.zeroValue24
 t25:=Tryz.underlying137
 a25:=Tryz.isAgg137
 z25:=Tryz.sizeOf137
 v25:=Tryz.zeroValue137
 t39:=Tryz.underlying164
 a39:=Tryz.isAgg164
 z39:=Tryz.sizeOf164
 v39:=Tryz.zeroValue164
 t45:=Tryz.underlying192
 a45:=Tryz.isAgg192
 z45:=Tryz.sizeOf192
 v45:=Tryz.zeroValue192
 t46:=Tryz.underlying193
 a46:=Tryz.isAgg193
 z46:=Tryz.sizeOf193
 v46:=Tryz.zeroValue193
 t50:=Tryz.underlying197
 a50:=Tryz.isAgg197
 z50:=Tryz.sizeOf197
 v50:=Tryz.zeroValue197
 t53:=Tryz.underlying200
 a53:=Tryz.isAgg200
 z53:=Tryz.sizeOf200
 v53:=Tryz.zeroValue200
 t55:=Tryz.underlying178
 a55:=Tryz.isAgg178
 z55:=Tryz.sizeOf178
 v55:=Tryz.zeroValue178
 t66:=Tryz.underlying225
 a66:=Tryz.isAgg225
 z66:=Tryz.sizeOf225
 v66:=Tryz.zeroValue225
 t70:=Tryz.underlying228
 a70:=Tryz.isAgg228
 z70:=Tryz.sizeOf228
 v70:=Tryz.zeroValue228
 t76:=Tryz.underlying250
 a76:=Tryz.isAgg250
 z76:=Tryz.sizeOf250
 v76:=Tryz.zeroValue250
 t77:=Tryz.underlying251
 a77:=Tryz.isAgg251
 z77:=Tryz.sizeOf251
 v77:=Tryz.zeroValue251}
set_option maxHeartbeats 1000000 in
theorem YtipnjpfdlolhmaaGreatDoor.Abs.closureCell (a1 a2 b1 b2:Int) (s t:Z0) (W:World):Calls Tryz.prog 124 #[.agg #[.int .i64 a1,.int .i64 a2,.string s],.agg #[.int .i64 b1,.int .i64 b2,.string t]] W fun e w'=>e = .returned (.int .i64 (YtipnjpfdlolhmaaGreatDoor.Abs.orI (df_ a2 b2) (df_ a1 b1))) ∧ ∃ q os',w'=grow (W.drewN q) os':=by
 have hcon:=fun W'=>YtipnjpfdlolhmaaGreatDoor.Abs.cmpRefs a1 a2 b1 b2 W'
 generalize YtipnjpfdlolhmaaGreatDoor.Abs.orI (df_ a2 b2) (df_ a1 b1)=r at hcon ⊢
 go_enter Tryz.func124,Tryz.ntmps124
 go_wp2_with (go_at_call 35; refine(hcon _).mono ?_; rintro e w' ⟨rfl,q,os',rfl⟩)
 go_ret
 exact⟨rfl,q,_,by rw[alloc_eq_grow,alloc_eq_grow,grow_grow]; show grow (grow (W.drewN q) _) os'=_; exact grow_grow _ _ _⟩
set_option maxHeartbeats 1000000 in
theorem YtipnjpfdlolhmaaGreatDoor.Abs.closureCellS (a1 a2 b1 b2:Int) (s t:Z0) (W:World):Calls Tryz.prog 131 #[.agg #[.int .i64 a1,.int .i64 a2,.string s],.agg #[.int .i64 b1,.int .i64 b2,.string t]] W fun e w'=>e = .returned (.int .i64 (YtipnjpfdlolhmaaGreatDoor.Abs.orI (df_ a2 b2) (df_ a1 b1))) ∧ ∃ q os',w'=grow (W.drewN q) os':=by
 have hcon:=fun W'=>YtipnjpfdlolhmaaGreatDoor.Abs.cmpRefs a1 a2 b1 b2 W'
 generalize YtipnjpfdlolhmaaGreatDoor.Abs.orI (df_ a2 b2) (df_ a1 b1)=r at hcon ⊢
 go_enter Tryz.func131,Tryz.ntmps131
 go_wp2_with (go_at_call 35; refine(hcon _).mono ?_; rintro e w' ⟨rfl,q,os',rfl⟩)
 go_ret
 exact⟨rfl,q,_,by rw[alloc_eq_grow,alloc_eq_grow,grow_grow]; show grow (grow (W.drewN q) _) os'=_; exact grow_grow _ _ _⟩
end Go.Proofs
namespace Go.Proofs.YtipnjpfdlolhmaaGreatDoor.Abs
open Go Go.Shelf Go.RowKit Go.Lib Go.Sort
theorem X4 (a1 a2 b1 b2:Int):decide (orI (df_ a2 b2) (df_ a1 b1) < 0)=(decide (a2 < b2) || (decide (a2=b2) && decide (a1 < b1))):=by
 unfold orI df_
 by_cases h1:a2 < b2
 ·simp[h1]
 ·by_cases h2:b2 < a2
  ·have : ¬a2=b2:=by omega
   simp[h1,h2,this]
  ·have:a2=b2:=by omega
   by_cases h3:a1 < b1
   ·simp[h1,h2,h3,this]
   ·by_cases h4:b1 < a1
    ·simp[h1,h2,h3,h4,this]
    ·simp[h1,h2,h3,h4,this]
def vU (a1 a2 b1 b2:Int):Bool:=decide (a2 < b2) || (decide (a2=b2) && decide (a1 < b1))
theorem U7 (a1 a2:Int):vU a1 a2 a1 a2=false:=by simp[vU]
theorem P8 {a1 a2 b1 b2 c1 c2:Int} (h:vU a1 a2 b1 b2=true) (k:vU b1 b2 c1 c2=true):vU a1 a2 c1 c2=true:=by
 simp only[vU,Bool.or_eq_true,Bool.and_eq_true,decide_eq_true_eq] at *
 omega
theorem Nk {a1 a2 b1 b2 c1 c2:Int} (h:vU a1 a2 b1 b2=false) (k:vU b1 b2 c1 c2=false):vU a1 a2 c1 c2=false:=by
 simp only[vU,Bool.or_eq_false_iff,Bool.and_eq_false_iff,decide_eq_false_iff_not] at *
 omega
set_option maxRecDepth 100000 in
theorem P9 {Gp:WP} : ∀(args:List SV) (tab:aE) (z:eD.sh.den×eD.bx.den),ce 39 ak 32 args tab=some z→ed Gp Tryz.prog eD args tab z:=by
 refine qP (P:=Tryz.prog) (g:=39) (nb:=32) (fn:=Tryz.f39) (e:=39) (t:=ak) (own:=[]) (live:=[]) rfl (by decide) (by decide) ?_ ?_
 ·exact fun n c w=>AnyE.slices_Clone_nil Tryz.clCell n c w
 ·exact fun a n c news w h1 h2 h3 h4 h5=>clone_any Tryz.clCell _ _ 3 32 rfl rfl (by kernel_rfl) (by kernel_rfl) (by kernel_rfl) (by decide) Tryz.sizeOf39 a n c news w h1 h2 h3 h4 h5
def SE (x y:ak.den):Int:=orI (df_ x.1.2.1 y.1.2.1) (df_ x.1.1 y.1.1)
def w5 (a b:ak.den):Bool:=decide (a.1.2.1 < b.1.2.1) || (decide (a.1.2.1=b.1.2.1) && decide (a.1.1 < b.1.1))
theorem uV:ltOf SE=w5:=by
 funext x y
 exact X4 x.1.1 x.1.2.1 y.1.1 y.1.2.1
theorem yA:Sort.SWO (α:=ak.den) w5 where
 irrefl x:=U7 x.1.1 x.1.2.1
 trans x y z h k:=P8 (a1:=x.1.1) (a2:=x.1.2.1) (b1:=y.1.1) (b2:=y.1.2.1) (c1:=z.1.1) (c2:=z.1.2.1) h k
 ntrans x y z h k:=Nk (a1:=x.1.1) (a2:=x.1.2.1) (b1:=y.1.1) (b2:=y.1.2.1) (c1:=z.1.1) (c2:=z.1.2.1) h k
theorem Lh (be off size:Nat) (w:World):CmpLays Tryz.prog 124 #[] (ga ak) 3 SE be off size w :=
 fun _ _ _ _ x y=>closureCell x.1.1 x.1.2.1 y.1.1 y.1.2.1 x.2.1 y.2.1 _
set_option maxRecDepth 100000 in
theorem Ff {Gp:WP} : ∀(args:List SV) (tab:aE) (z:Sh.unit.den×(Sh.pair (.row 39 ak false) .unit).den),f0 39 ak 124 w5 args tab=some z→ed Gp Tryz.prog {g:=123,fn:=Tryz.f123,sh := .unit,bx := .pair (.row 39 ak false) .unit,own:=[true,false],live:=[],rb:=true,prim:=some (f0 39 ak 124 w5)} args tab z:=by
 refine Fe (P:=Tryz.prog) (g:=123) (gc:=124) (fn:=Tryz.f123) (e:=39) (t:=ak) (own:=[true,false]) (live:=[]) rfl (by decide) yA ?_ ?_
 ·intro be cap d w hH hblk hsz
  have eg : ∀ args w,(callFunc 124 args).run Tryz.prog w = .ok (.enter 124 args) w:=enters_of Tryz.func124 (by kernel_rfl) rfl
  have h:=AnyQ.slices_SortFunc_eq Tryz.sortCell 3 Tryz.isAgg39 Tryz.sizeOf39 (ga ak) (fun x=>BV rfl x) (fun x=>OG rfl x) SE (by rw[uV]; exact yA) 124 #[] be 0 cap d w eg (Lh be 0 d.size w) hH hblk hsz
  rw[uV] at h
  exact h
 ·exact fun p cap fv w=>AnyF.slices_SortFunc_none {Tryz.sortCell with} p cap fv w
theorem Jh (be off size:Nat) (w:World):CmpLays Tryz.prog 131 #[] (ga ak) 3 SE be off size w :=
 fun _ _ _ _ x y=>closureCellS x.1.1 x.1.2.1 y.1.1 y.1.2.1 x.2.1 y.2.1 _
set_option maxRecDepth 100000 in
theorem DP {Gp:WP} : ∀(args:List SV) (tab:aE) (z:Sh.unit.den×(Sh.pair (.row 39 ak false) .unit).den),f0 39 ak 131 w5 args tab=some z→ed Gp Tryz.prog {g:=123,fn:=Tryz.f123,sh := .unit,bx := .pair (.row 39 ak false) .unit,own:=[true,false],live:=[],rb:=true,prim:=some (f0 39 ak 131 w5)} args tab z:=by
 refine Fe (P:=Tryz.prog) (g:=123) (gc:=131) (fn:=Tryz.f123) (e:=39) (t:=ak) (own:=[true,false]) (live:=[]) rfl (by decide) yA ?_ ?_
 ·intro be cap d w hH hblk hsz
  have eg : ∀ args w,(callFunc 131 args).run Tryz.prog w = .ok (.enter 131 args) w:=enters_of Tryz.func131 (by kernel_rfl) rfl
  have h:=AnyQ.slices_SortFunc_eq Tryz.sortCell 3 Tryz.isAgg39 Tryz.sizeOf39 (ga ak) (fun x=>BV rfl x) (fun x=>OG rfl x) SE (by rw[uV]; exact yA) 131 #[] be 0 cap d w eg (Jh be 0 d.size w) hH hblk hsz
  rw[uV] at h
  exact h
 ·exact fun p cap fv w=>AnyF.slices_SortFunc_none {Tryz.sortCell with} p cap fv w
end Go.Proofs.YtipnjpfdlolhmaaGreatDoor.Abs
namespace Go.Proofs
open Go.Shelf Go.RowKit Go.Lib Go.Sort
def Tryz.clIntI_ren:Go.Shelf.Ren:=⟨fun | 41=>145 | n=>n,fun | 22=>122 | 23=>3 | 4=>4 | n=>n,fun | n=>n⟩
theorem Tryz.clIntI:Go.Proofs.SlLaysE0.n41 Tryz.prog Tryz.clIntI_ren:={
 mixed:=by kernel_rfl
 f41:=⟨Tryz.f145.name,by decide,Tryz.func145.trans (ae_ some (by kernel_rfl))⟩
 t4:=Tryz.underlying4
 a4:=Tryz.isAgg4
 z4:=Tryz.sizeOf4
 v4:=Tryz.zeroValue4
 t22:=Tryz.underlying122
 a22:=Tryz.isAgg122
 z22:=Tryz.sizeOf122
 v22:=Tryz.zeroValue122}
def Tryz.clBoolI_ren:Go.Shelf.Ren:=⟨fun | 41=>105 | n=>n,fun | 22=>99 | 23=>4 | 4=>4 | n=>n,fun | n=>n⟩
theorem Tryz.clBoolI:Go.Proofs.SlLaysE0.n41 Tryz.prog Tryz.clBoolI_ren:={
 mixed:=by kernel_rfl
 f41:=⟨Tryz.f105.name,by decide,Tryz.func105.trans (ae_ some (by kernel_rfl))⟩
 t4:=Tryz.underlying4
 a4:=Tryz.isAgg4
 z4:=Tryz.sizeOf4
 v4:=Tryz.zeroValue4
 t22:=Tryz.underlying99
 a22:=Tryz.isAgg99
 z22:=Tryz.sizeOf99
 v22:=Tryz.zeroValue99}
end Go.Proofs
namespace Go.Proofs.YtipnjpfdlolhmaaGreatDoor.Abs
open Go Go.Shelf Go.RowKit Go.Lib Go.Sort
set_option maxRecDepth 100000 in
theorem Qa {Gp:WP} : ∀(args:List SV) (tab:aE) (z:(Sh.pair (.row 3 (.int .i64) false) .unit).den×Sh.unit.den),ce 3 (.int .i64) 8 args tab=some z→ed Gp Tryz.prog {g:=145,fn:=Tryz.f145,sh := .pair (.row 3 (.int .i64) false) .unit,bx := .unit,own:=[],live:=[],prim:=some (ce 3 (.int .i64) 8)} args tab z:=by
 refine qP (P:=Tryz.prog) (g:=145) (nb:=8) (fn:=Tryz.f145) (e:=3) (t:=(.int .i64)) (own:=[]) (live:=[]) rfl (by decide) (by decide) ?_ ?_
 ·exact fun n c w=>AnyE.slices_Clone_nil Tryz.clIntI n c w
 ·exact fun a n c news w h1 h2 h3 h4 h5=>clone_any Tryz.clIntI _ _ 1 8 rfl rfl (by kernel_rfl) (by kernel_rfl) (by kernel_rfl) (by decide) Tryz.sizeOf3 a n c news w h1 h2 h3 h4 h5
set_option maxRecDepth 100000 in
theorem Nl {Gp:WP} : ∀(args:List SV) (tab:aE) (z:(Sh.pair (.row 4 .bool false) .unit).den×Sh.unit.den),ce 4 .bool 1 args tab=some z→ed Gp Tryz.prog {g:=105,fn:=Tryz.f105,sh := .pair (.row 4 .bool false) .unit,bx := .unit,own:=[],live:=[],prim:=some (ce 4 .bool 1)} args tab z:=by
 refine qP (P:=Tryz.prog) (g:=105) (nb:=1) (fn:=Tryz.f105) (e:=4) (t := .bool) (own:=[]) (live:=[]) rfl (by decide) (by decide) ?_ ?_
 ·exact fun n c w=>AnyE.slices_Clone_nil Tryz.clBoolI n c w
 ·exact fun a n c news w h1 h2 h3 h4 h5=>clone_any Tryz.clBoolI _ _ 1 1 rfl rfl (by kernel_rfl) (by kernel_rfl) (by kernel_rfl) (by decide) Tryz.sizeOf4 a n c news w h1 h2 h3 h4 h5
end Go.Proofs.YtipnjpfdlolhmaaGreatDoor.Abs
namespace Go.Proofs
open Go.Shelf Go.RowKit Go.Lib
def Tryz.layParseInt_ren:Go.Shelf.Ren:=⟨fun | 174=>118 | 247=>154 | 245=>155 | 287=>184 | 279=>185 | 280=>186 | 281=>187 | 282=>188 | 321=>230 | 322=>231 | 316=>232 | 171=>234 | 205=>233 | 243=>263 | 246=>197 | 283=>239 | 284=>240 | 285=>241 | 286=>242 | 129=>207 | 317=>267 | 318=>268 | 319=>269 | 320=>270 | 337=>284 | 338=>285 | n=>n,fun | 9=>9 | 3=>3 | 2=>2 | 75=>133 | 85=>134 | 4=>4 | 167=>177 | 5=>5 | 53=>178 | 175=>179 | 46=>164 | 168=>181 | 37=>22 | 0=>0 | 210=>215 | 21=>21 | 127=>242 | 145=>245 | 143=>243 | 171=>221 | 173=>223 | 212=>248 | 51=>200 | 20=>20 | 213=>249 | 232=>267 | 233=>268 | 80=>73 | n=>n,fun | 15=>0 | 16=>1 | 17=>2 | 18=>6 | 19=>7 | n=>n⟩
theorem Tryz.layParseInt:Go.Proofs.LaysC.n174 Tryz.prog Tryz.layParseInt_ren:={
 mixed:=by kernel_rfl
 f129:=Tryz.func207.trans (ae_ some (by kernel_rfl))
 f171:=Tryz.func234.trans (ae_ some (by kernel_rfl))
 f174:=Tryz.func118.trans (ae_ some (by kernel_rfl))
 f205:=Tryz.func233.trans (ae_ some (by kernel_rfl))
 f243:=Tryz.func263.trans (ae_ some (by kernel_rfl))
 f245:=Tryz.func155.trans (ae_ some (by kernel_rfl))
 f246:=Tryz.func197.trans (ae_ some (by kernel_rfl))
 f247:=Tryz.func154.trans (ae_ some (by kernel_rfl))
 f279:=Tryz.func185.trans (ae_ some (by kernel_rfl))
 f280:=Tryz.func186.trans (ae_ some (by kernel_rfl))
 f281:=Tryz.func187.trans (ae_ some (by kernel_rfl))
 f282:=Tryz.func188.trans (ae_ some (by kernel_rfl))
 f283:=Tryz.func239.trans (ae_ some (by kernel_rfl))
 f284:=Tryz.func240.trans (ae_ some (by kernel_rfl))
 f285:=Tryz.func241.trans (ae_ some (by kernel_rfl))
 f286:=Tryz.func242.trans (ae_ some (by kernel_rfl))
 f287:=Tryz.func184.trans (ae_ some (by kernel_rfl))
 f316:=Tryz.func232.trans (ae_ some (by kernel_rfl))
 f317:=Tryz.func267.trans (ae_ some (by kernel_rfl))
 f318:=Tryz.func268.trans (ae_ some (by kernel_rfl))
 f319:=Tryz.func269.trans (ae_ some (by kernel_rfl))
 f320:=Tryz.func270.trans (ae_ some (by kernel_rfl))
 f321:=Tryz.func230.trans (ae_ some (by kernel_rfl))
 f322:=Tryz.func231.trans (ae_ some (by kernel_rfl))
 f337:=Tryz.func284.trans (ae_ some (by kernel_rfl))
 f338:=Tryz.func285.trans (ae_ some (by kernel_rfl))
 t0:=Tryz.underlying0
 a0:=Tryz.isAgg0
 z0:=Tryz.sizeOf0
 v0:=Tryz.zeroValue0
 t2:=Tryz.underlying2
 a2:=Tryz.isAgg2
 z2:=Tryz.sizeOf2
 v2:=Tryz.zeroValue2
 t3:=Tryz.underlying3
 a3:=Tryz.isAgg3
 z3:=Tryz.sizeOf3
 v3:=Tryz.zeroValue3
 t4:=Tryz.underlying4
 a4:=Tryz.isAgg4
 z4:=Tryz.sizeOf4
 v4:=Tryz.zeroValue4
 t5:=Tryz.underlying5
 a5:=Tryz.isAgg5
 z5:=Tryz.sizeOf5
 v5:=Tryz.zeroValue5
 t9:=Tryz.underlying9
 a9:=Tryz.isAgg9
 z9:=Tryz.sizeOf9
 v9:=Tryz.zeroValue9
 t20:=Tryz.underlying20
 a20:=Tryz.isAgg20
 z20:=Tryz.sizeOf20
 v20:=Tryz.zeroValue20
 t21:=Tryz.underlying21
 a21:=Tryz.isAgg21
 z21:=Tryz.sizeOf21
 v21:=Tryz.zeroValue21
 t37:=Tryz.underlying22
 a37:=Tryz.isAgg22
 z37:=Tryz.sizeOf22
 v37:=Tryz.zeroValue22
 t46:=Tryz.underlying164
 a46:=Tryz.isAgg164
 z46:=Tryz.sizeOf164
 v46:=Tryz.zeroValue164
 t51:=Tryz.underlying200
 a51:=Tryz.isAgg200
 z51:=Tryz.sizeOf200
 v51:=Tryz.zeroValue200
 t53:=Tryz.underlying178
 a53:=Tryz.isAgg178
 z53:=Tryz.sizeOf178
 v53:=Tryz.zeroValue178
 t75:=Tryz.underlying133
 a75:=Tryz.isAgg133
 z75:=Tryz.sizeOf133
 v75:=Tryz.zeroValue133
 t85:=Tryz.underlying134
 a85:=Tryz.isAgg134
 z85:=Tryz.sizeOf134
 v85:=Tryz.zeroValue134
 t127:=Tryz.underlying242
 a127:=Tryz.isAgg242
 z127:=Tryz.sizeOf242
 v127:=Tryz.zeroValue242
 t143:=Tryz.underlying243
 a143:=Tryz.isAgg243
 z143:=Tryz.sizeOf243
 v143:=Tryz.zeroValue243
 t145:=Tryz.underlying245
 a145:=Tryz.isAgg245
 z145:=Tryz.sizeOf245
 v145:=Tryz.zeroValue245
 t167:=Tryz.underlying177
 a167:=Tryz.isAgg177
 z167:=Tryz.sizeOf177
 v167:=Tryz.zeroValue177
 t168:=Tryz.underlying181
 a168:=Tryz.isAgg181
 z168:=Tryz.sizeOf181
 v168:=Tryz.zeroValue181
 t171:=Tryz.underlying221
 a171:=Tryz.isAgg221
 z171:=Tryz.sizeOf221
 v171:=Tryz.zeroValue221
 t173:=Tryz.underlying223
 a173:=Tryz.isAgg223
 z173:=Tryz.sizeOf223
 v173:=Tryz.zeroValue223
 t175:=Tryz.underlying179
 a175:=Tryz.isAgg179
 z175:=Tryz.sizeOf179
 v175:=Tryz.zeroValue179
 t210:=Tryz.underlying215
 a210:=Tryz.isAgg215
 z210:=Tryz.sizeOf215
 v210:=Tryz.zeroValue215
 t212:=Tryz.underlying248
 a212:=Tryz.isAgg248
 z212:=Tryz.sizeOf248
 v212:=Tryz.zeroValue248
 t213:=Tryz.underlying249
 a213:=Tryz.isAgg249
 z213:=Tryz.sizeOf249
 t232:=Tryz.underlying267
 a232:=Tryz.isAgg267
 z232:=Tryz.sizeOf267
 v232:=Tryz.zeroValue267
 t233:=Tryz.underlying268
 a233:=Tryz.isAgg268
 z233:=Tryz.sizeOf268
 v233:=Tryz.zeroValue268
 g15:=by kernel_rfl
 g16:=by kernel_rfl
 g17:=by kernel_rfl
 g18:=by kernel_rfl
 g19:=by kernel_rfl
 t80:=Tryz.underlying73
 a80:=Tryz.isAgg73
 z80:=Tryz.sizeOf73
 v80:=Tryz.zeroValue73
 i0:=by kernel_rfl
 i2:=by kernel_rfl
 i3:=by kernel_rfl
 i4:=by kernel_rfl
 i5:=by kernel_rfl
 i9:=by kernel_rfl
 i20:=by kernel_rfl
 i21:=by kernel_rfl
 i37:=by kernel_rfl
 i46:=by kernel_rfl
 i51:=by kernel_rfl
 i53:=by kernel_rfl
 i75:=by kernel_rfl
 i80:=by kernel_rfl
 i85:=by kernel_rfl
 i127:=by kernel_rfl
 i143:=by kernel_rfl
 i145:=by kernel_rfl
 i167:=by kernel_rfl
 i168:=by kernel_rfl
 i171:=by kernel_rfl
 i173:=by kernel_rfl
 i175:=by kernel_rfl
 i210:=by kernel_rfl
 i212:=by kernel_rfl
 i232:=by kernel_rfl
 i233:=by kernel_rfl
 m15:=by kernel_rfl
 m16:=by kernel_rfl
 m17:=by kernel_rfl
 m18:=by kernel_rfl
 m19:=by kernel_rfl
 c0:=by kernel_rfl
 c2:=by kernel_rfl
 c3:=by kernel_rfl
 c4:=by kernel_rfl
 c5:=by kernel_rfl
 c9:=by kernel_rfl
 c20:=by kernel_rfl
 c21:=by kernel_rfl
 c37:=by kernel_rfl
 c46:=by kernel_rfl
 c51:=by kernel_rfl
 c53:=by kernel_rfl
 c75:=by kernel_rfl
 c80:=by kernel_rfl
 c85:=by kernel_rfl
 c127:=by kernel_rfl
 c143:=by kernel_rfl
 c145:=by kernel_rfl
 c167:=by kernel_rfl
 c168:=by kernel_rfl
 c171:=by kernel_rfl
 c173:=by kernel_rfl
 c175:=by kernel_rfl
 c210:=by kernel_rfl
 c212:=by kernel_rfl
 c213:=by kernel_rfl
 c232:=by kernel_rfl
 c233:=by kernel_rfl}
end Go.Proofs
namespace Go.Proofs.YtipnjpfdlolhmaaGreatDoor.Abs
open Go Go.Shelf Go.RowKit Go.Lib
theorem Nm {l:List iK} (hm1:EP "strconv.ErrSyntax" ∈ l) (hm2:EP "strconv.ErrRange" ∈ l) : ∀(args:List SV) (tab:aE) (z:(Sh.pair (.val (.int .i64)) (.pair (.val .err) .unit)).den×Sh.unit.den),o0 args tab=some z→ed (gx Tryz.prog l) Tryz.prog js args tab z:=by
 intro args tab z hz
 unfold o0 at hz
 split at hz
 ·rename_i s p q
  split at hz
  ·rename_i h
   cases hz
   refine kz (sh:=Sh.pair (.val (.int .i64)) (.pair (.val .err) .unit)) (fun _=>rfl) ?_ (fun _ _ h=>h.none)
   intro w Pr γ us hG hPr hu
   cases hu with
   | cons a k =>
    cases k with
    | cons b k =>
     cases k with
     | cons c k =>
      cases k
      obtain rfl:=fd a
      obtain rfl:=d9 b
      obtain rfl:=d9 c
      obtain⟨h,hb,hq⟩:=h
      rw[show p=(10:Int) from hb,show q=(64:Int) from hq]
      by_cases hok : ∃ v,dp_ 64 s.data.toList = .ok v
      ·obtain⟨v,hv⟩:=hok
       refine(Any.strconv_ParseInt_10_at64_ok Tryz.layParseInt s (by omega) v hv w).mono ?_
       rintro e w' ⟨rfl,hw⟩
       have hp:cu s.data.toList=(v,true):=by unfold cu; rw[hv]
       refine⟨[_,_],rfl,⟨[_],_,rfl,(by rw[hp]; rfl),[_],_,rfl,(by rw[hp]; exact .inl ⟨rfl,rfl⟩),rfl⟩,?_⟩
       rcases hw with rfl | ⟨t,rfl⟩
       ·exact Below.refl _ _
       ·exact Lib.bytesWorld_below _ _ _
      ·cases hq:dp_ 64 s.data.toList with
       | ok v=>exact ay_ ⟨v,hq⟩ hok
       | range =>
        obtain⟨⟨a',h1,tp,p,rfl⟩,_⟩:=hG _ hm2
        refine(Any.strconv_ParseInt_10_at64_range_var Tryz.layParseInt s h hq tp p w h1).mono ?_
        rintro e w' ⟨N,rfl,_,_,hB⟩
        have hp:cu s.data.toList=(Lib.intSat 64 s.data.toList,false):=by unfold cu; rw[hq]
        exact⟨[_,_],rfl,⟨[_],_,rfl,(by rw[hp]; rfl),[_],_,rfl,(by rw[hp]; exact .inr ⟨rfl,_,_,rfl⟩),rfl⟩,hB⟩
       | _ =>
        obtain⟨⟨a',h1,tp,p,rfl⟩,_⟩:=hG _ hm1
        refine(Any.strconv_ParseInt_10_at64_syntax_var Tryz.layParseInt s h hq tp p w h1).mono ?_
        rintro e w' ⟨N,rfl,_,_,hB⟩
        have hp:cu s.data.toList=(0,false):=by unfold cu; rw[hq]
        exact⟨[_,_],rfl,⟨[_],_,rfl,(by rw[hp]; rfl),[_],_,rfl,(by rw[hp]; exact .inr ⟨rfl,_,_,rfl⟩),rfl⟩,hB⟩
  ·cases hz
 ·cases hz
end Go.Proofs.YtipnjpfdlolhmaaGreatDoor.Abs
namespace Go.Proofs
open Go.Shelf Go.RowKit Go.Lib
def Tryz.layTrim_ren:Go.Shelf.Ren:=⟨fun | 160=>157 | 232=>191 | 231=>190 | 227=>192 | 234=>194 | 233=>193 | 236=>196 | 235=>195 | 228=>235 | 271=>238 | 151=>237 | 197=>236 | 120=>266 | 152=>265 | 260=>264 | 137=>280 | 119=>281 | 224=>282 | 225=>283 | 217=>292 | 266=>294 | n=>n,fun | 9=>9 | 4=>4 | 3=>3 | 5=>5 | 117=>187 | 116=>186 | 0=>0 | 124=>190 | 21=>21 | 105=>218 | 46=>164 | 119=>257 | 139=>260 | 138=>259 | n=>n,fun | 3=>3 | 4=>4 | n=>n⟩
theorem Tryz.layTrim:Go.Proofs.Lays.n160 Tryz.prog Tryz.layTrim_ren:={
 mixed:=by kernel_rfl
 f119:=Tryz.func281.trans (ae_ some (by kernel_rfl))
 f120:=Tryz.func266.trans (ae_ some (by kernel_rfl))
 f137:=Tryz.func280.trans (ae_ some (by kernel_rfl))
 f151:=Tryz.func237.trans (ae_ some (by kernel_rfl))
 f152:=Tryz.func265.trans (ae_ some (by kernel_rfl))
 f160:=Tryz.func157.trans (ae_ some (by kernel_rfl))
 f197:=Tryz.func236.trans (ae_ some (by kernel_rfl))
 f217:=Tryz.func292.trans (ae_ some (by kernel_rfl))
 f224:=Tryz.func282.trans (ae_ some (by kernel_rfl))
 f225:=Tryz.func283.trans (ae_ some (by kernel_rfl))
 f227:=Tryz.func192.trans (ae_ some (by kernel_rfl))
 f228:=Tryz.func235.trans (ae_ some (by kernel_rfl))
 f231:=Tryz.func190.trans (ae_ some (by kernel_rfl))
 f232:=Tryz.func191.trans (ae_ some (by kernel_rfl))
 f233:=Tryz.func193.trans (ae_ some (by kernel_rfl))
 f234:=Tryz.func194.trans (ae_ some (by kernel_rfl))
 f235:=Tryz.func195.trans (ae_ some (by kernel_rfl))
 f236:=Tryz.func196.trans (ae_ some (by kernel_rfl))
 f260:=Tryz.func264.trans (ae_ some (by kernel_rfl))
 f266:=Tryz.func294.trans (ae_ some (by kernel_rfl))
 f271:=Tryz.func238.trans (ae_ some (by kernel_rfl))
 t0:=Tryz.underlying0
 a0:=Tryz.isAgg0
 z0:=Tryz.sizeOf0
 v0:=Tryz.zeroValue0
 t3:=Tryz.underlying3
 a3:=Tryz.isAgg3
 z3:=Tryz.sizeOf3
 v3:=Tryz.zeroValue3
 t4:=Tryz.underlying4
 a4:=Tryz.isAgg4
 z4:=Tryz.sizeOf4
 v4:=Tryz.zeroValue4
 t5:=Tryz.underlying5
 a5:=Tryz.isAgg5
 z5:=Tryz.sizeOf5
 v5:=Tryz.zeroValue5
 t9:=Tryz.underlying9
 a9:=Tryz.isAgg9
 z9:=Tryz.sizeOf9
 v9:=Tryz.zeroValue9
 t21:=Tryz.underlying21
 a21:=Tryz.isAgg21
 z21:=Tryz.sizeOf21
 v21:=Tryz.zeroValue21
 t46:=Tryz.underlying164
 a46:=Tryz.isAgg164
 z46:=Tryz.sizeOf164
 v46:=Tryz.zeroValue164
 t105:=Tryz.underlying218
 a105:=Tryz.isAgg218
 z105:=Tryz.sizeOf218
 v105:=Tryz.zeroValue218
 t116:=Tryz.underlying186
 a116:=Tryz.isAgg186
 z116:=Tryz.sizeOf186
 t117:=Tryz.underlying187
 a117:=Tryz.isAgg187
 z117:=Tryz.sizeOf187
 v117:=Tryz.zeroValue187
 t119:=Tryz.underlying257
 a119:=Tryz.isAgg257
 z119:=Tryz.sizeOf257
 t124:=Tryz.underlying190
 a124:=Tryz.isAgg190
 z124:=Tryz.sizeOf190
 v124:=Tryz.zeroValue190
 t138:=Tryz.underlying259
 a138:=Tryz.isAgg259
 z138:=Tryz.sizeOf259
 v138:=Tryz.zeroValue259
 t139:=Tryz.underlying260
 a139:=Tryz.isAgg260
 z139:=Tryz.sizeOf260
 v139:=Tryz.zeroValue260
 g3:=by kernel_rfl
 g4:=by kernel_rfl}
end Go.Proofs
namespace Go.Proofs.YtipnjpfdlolhmaaGreatDoor.Abs
open Go Go.Shelf Go.RowKit Go.Lib
theorem Qb {l:List iK} : ∀(args:List SV) (tab:aE) (z:(Sh.pair (.val .str) .unit).den×Sh.unit.den),xX args tab=some z→ed (gx Tryz.prog l) Tryz.prog mn args tab z:=by
 intro args tab z hz
 unfold xX at hz
 split at hz
 ·rename_i s c
  split at hz
  ·rename_i h
   cases hz
   refine kz (sh := .pair (.val .str) .unit) (fun _=>rfl) ?_ (fun _ _ h=>h.none)
   intro w Pr γ us hG _ hu
   cases hu with
   | cons a k =>
    cases k with
    | cons b k =>
     cases k
     obtain rfl:=fd a
     obtain rfl:=fd b
     obtain⟨h1,h2⟩:=KO h.1
     refine(Any.strings_Trim_laid Tryz.layTrim (by kernel_rfl) s c w h.2 h1 h2).mono ?_
     rintro e w' ⟨rfl,hB⟩
     exact⟨[_],rfl,⟨[_],[],rfl,rfl,rfl⟩,hB⟩
  ·cases hz
 ·cases hz
end Go.Proofs.YtipnjpfdlolhmaaGreatDoor.Abs
namespace Go.Proofs
open Go.Shelf Go.RowKit Go.Lib
def Tryz.layFmt_ren:Go.Shelf.Ren:=⟨fun | 173=>158 | 246=>197 | 283=>239 | 284=>240 | 285=>241 | 286=>242 | 129=>207 | 317=>267 | 318=>268 | 319=>269 | 320=>270 | 337=>284 | 338=>285 | n=>n,fun | 2=>2 | 3=>3 | 9=>9 | 4=>4 | 171=>221 | 0=>0 | 53=>178 | 37=>22 | 5=>5 | 173=>223 | 212=>248 | 51=>200 | 20=>20 | 213=>249 | 46=>164 | 232=>267 | 233=>268 | n=>n,fun | 17=>2 | 18=>6 | 19=>7 | n=>n⟩
theorem Tryz.layFmt:Go.Proofs.LaysM.n173 Tryz.prog Tryz.layFmt_ren:={
 mixed:=by kernel_rfl
 f129:=Tryz.func207.trans (ae_ some (by kernel_rfl))
 f173:=Tryz.func158.trans (ae_ some (by kernel_rfl))
 f246:=Tryz.func197.trans (ae_ some (by kernel_rfl))
 f283:=Tryz.func239.trans (ae_ some (by kernel_rfl))
 f284:=Tryz.func240.trans (ae_ some (by kernel_rfl))
 f285:=Tryz.func241.trans (ae_ some (by kernel_rfl))
 f286:=Tryz.func242.trans (ae_ some (by kernel_rfl))
 f317:=Tryz.func267.trans (ae_ some (by kernel_rfl))
 f318:=Tryz.func268.trans (ae_ some (by kernel_rfl))
 f319:=Tryz.func269.trans (ae_ some (by kernel_rfl))
 f320:=Tryz.func270.trans (ae_ some (by kernel_rfl))
 f337:=Tryz.func284.trans (ae_ some (by kernel_rfl))
 f338:=Tryz.func285.trans (ae_ some (by kernel_rfl))
 t0:=Tryz.underlying0
 a0:=Tryz.isAgg0
 z0:=Tryz.sizeOf0
 v0:=Tryz.zeroValue0
 t2:=Tryz.underlying2
 a2:=Tryz.isAgg2
 z2:=Tryz.sizeOf2
 v2:=Tryz.zeroValue2
 t3:=Tryz.underlying3
 a3:=Tryz.isAgg3
 z3:=Tryz.sizeOf3
 v3:=Tryz.zeroValue3
 t4:=Tryz.underlying4
 a4:=Tryz.isAgg4
 z4:=Tryz.sizeOf4
 v4:=Tryz.zeroValue4
 t5:=Tryz.underlying5
 a5:=Tryz.isAgg5
 z5:=Tryz.sizeOf5
 v5:=Tryz.zeroValue5
 t9:=Tryz.underlying9
 a9:=Tryz.isAgg9
 z9:=Tryz.sizeOf9
 v9:=Tryz.zeroValue9
 t20:=Tryz.underlying20
 a20:=Tryz.isAgg20
 z20:=Tryz.sizeOf20
 v20:=Tryz.zeroValue20
 t37:=Tryz.underlying22
 a37:=Tryz.isAgg22
 z37:=Tryz.sizeOf22
 v37:=Tryz.zeroValue22
 t46:=Tryz.underlying164
 a46:=Tryz.isAgg164
 z46:=Tryz.sizeOf164
 v46:=Tryz.zeroValue164
 t51:=Tryz.underlying200
 a51:=Tryz.isAgg200
 z51:=Tryz.sizeOf200
 v51:=Tryz.zeroValue200
 t53:=Tryz.underlying178
 a53:=Tryz.isAgg178
 z53:=Tryz.sizeOf178
 v53:=Tryz.zeroValue178
 t171:=Tryz.underlying221
 a171:=Tryz.isAgg221
 z171:=Tryz.sizeOf221
 v171:=Tryz.zeroValue221
 t173:=Tryz.underlying223
 a173:=Tryz.isAgg223
 z173:=Tryz.sizeOf223
 v173:=Tryz.zeroValue223
 t212:=Tryz.underlying248
 a212:=Tryz.isAgg248
 z212:=Tryz.sizeOf248
 v212:=Tryz.zeroValue248
 t213:=Tryz.underlying249
 a213:=Tryz.isAgg249
 z213:=Tryz.sizeOf249
 t232:=Tryz.underlying267
 a232:=Tryz.isAgg267
 z232:=Tryz.sizeOf267
 v232:=Tryz.zeroValue267
 t233:=Tryz.underlying268
 a233:=Tryz.isAgg268
 z233:=Tryz.sizeOf268
 v233:=Tryz.zeroValue268
 g17:=by kernel_rfl
 g18:=by kernel_rfl
 g19:=by kernel_rfl
 i0:=by kernel_rfl
 i2:=by kernel_rfl
 i3:=by kernel_rfl
 i4:=by kernel_rfl
 i5:=by kernel_rfl
 i9:=by kernel_rfl
 i20:=by kernel_rfl
 i37:=by kernel_rfl
 i46:=by kernel_rfl
 i51:=by kernel_rfl
 i53:=by kernel_rfl
 i171:=by kernel_rfl
 i173:=by kernel_rfl
 i212:=by kernel_rfl
 i232:=by kernel_rfl
 i233:=by kernel_rfl
 m17:=by kernel_rfl
 m18:=by kernel_rfl
 m19:=by kernel_rfl}
end Go.Proofs
namespace Go.Proofs.YtipnjpfdlolhmaaGreatDoor.Abs
open Go Go.Shelf Go.RowKit Go.Lib
def Li:iK:=("internal/strconv.uint64pow10",fun a=>a=(Lib.pow10Tab.map fun z=>Value.int .u64 z).toArray)
theorem SF {l:List iK} (hm:Li∈l) : ∀(args:List SV) (tab:aE) (z:(Sh.pair (.val .str) .unit).den×Sh.unit.den),BT args tab=some z→ed (gx Tryz.prog l) Tryz.prog jd args tab z:=by
 intro args tab z hz
 unfold BT at hz
 split at hz
 ·rename_i n b
  split at hz
  ·rename_i h
   obtain⟨hb,h0,h1⟩:=h
   cases hz
   refine kz (sh := .pair (.val .str) .unit) (fun _=>rfl) ?_ (fun _ _ h=>h.none)
   intro w Pr γ us hG _ hu
   cases hu with
   | cons a k =>
    cases k with
    | cons c k =>
     cases k
     obtain rfl:=d9 a
     obtain rfl:=d9 c
     rw[show b=(10:Int) from hb]
     refine(Any.strconv_FormatInt_10 Tryz.layFmt n h0 h1 w (by obtain⟨⟨a,h1,h2⟩,_⟩:=hG Li hm; rw[show a=_ from h2] at h1; exact h1)).mono ?_
     rintro e w' ⟨rfl,q,os,rfl⟩
     exact⟨[_],rfl,⟨[_],[],rfl,rfl,rfl⟩,below_grow _ w (ag_ _) q os⟩
  ·cases hz
 ·cases hz
end Go.Proofs.YtipnjpfdlolhmaaGreatDoor.Abs
namespace Go.Proofs
open Go.Shelf Go.RowKit Go.Lib Go.Sort
def Tryz.clInt64_ren:Go.Shelf.Ren:=⟨fun | 41=>162 | n=>n,fun | 22=>64 | 23=>2 | 4=>4 | n=>n,fun | n=>n⟩
theorem Tryz.clInt64:Go.Proofs.SlLaysE0.n41 Tryz.prog Tryz.clInt64_ren:={
 mixed:=by kernel_rfl
 f41:=⟨Tryz.f162.name,by decide,Tryz.func162.trans (ae_ some (by kernel_rfl))⟩
 t4:=Tryz.underlying4
 a4:=Tryz.isAgg4
 z4:=Tryz.sizeOf4
 v4:=Tryz.zeroValue4
 t22:=Tryz.underlying64
 a22:=Tryz.isAgg64
 z22:=Tryz.sizeOf64
 v22:=Tryz.zeroValue64}
end Go.Proofs
namespace Go.Proofs.YtipnjpfdlolhmaaGreatDoor.Abs
open Go Go.Shelf Go.RowKit Go.Lib Go.Sort
set_option maxRecDepth 100000 in
theorem SG {Gp:WP} : ∀(args:List SV) (tab:aE) (z:(Sh.pair (.row 2 (.int .i64) false) .unit).den×Sh.unit.den),ce 2 (.int .i64) 8 args tab=some z→ed Gp Tryz.prog {g:=162,fn:=Tryz.f162,sh := .pair (.row 2 (.int .i64) false) .unit,bx := .unit,own:=[],live:=[],prim:=some (ce 2 (.int .i64) 8)} args tab z:=by
 refine qP (P:=Tryz.prog) (g:=162) (nb:=8) (fn:=Tryz.f162) (e:=2) (t := .int .i64) (own:=[]) (live:=[]) rfl (by decide) (by decide) ?_ ?_
 ·exact fun n c w=>AnyE.slices_Clone_nil Tryz.clInt64 n c w
 ·exact fun a n c news w h1 h2 h3 h4 h5=>clone_any Tryz.clInt64 _ _ 1 8 rfl rfl (by kernel_rfl) (by kernel_rfl) (by kernel_rfl) (by decide) Tryz.sizeOf2 a n c news w h1 h2 h3 h4 h5
end Go.Proofs.YtipnjpfdlolhmaaGreatDoor.Abs
namespace Go.Proofs
open Go.Shelf Go.RowKit Go.Lib
def Tryz.layTrimLeft_ren:Go.Shelf.Ren:=⟨fun | 161=>181 | 231=>190 | 227=>192 | 233=>193 | 235=>195 | 228=>235 | 197=>236 | 151=>237 | 260=>264 | 152=>265 | 137=>280 | 119=>281 | 224=>282 | 225=>283 | 217=>292 | 266=>294 | n=>n,fun | 9=>9 | 4=>4 | 3=>3 | 5=>5 | 117=>187 | 116=>186 | 0=>0 | 124=>190 | 105=>218 | 21=>21 | 119=>257 | 46=>164 | 139=>260 | 138=>259 | n=>n,fun | 3=>3 | 4=>4 | n=>n⟩
theorem Tryz.layTrimLeft:Go.Proofs.Lays.n161 Tryz.prog Tryz.layTrimLeft_ren:={
 mixed:=by kernel_rfl
 f119:=Tryz.func281.trans (ae_ some (by kernel_rfl))
 f137:=Tryz.func280.trans (ae_ some (by kernel_rfl))
 f151:=Tryz.func237.trans (ae_ some (by kernel_rfl))
 f152:=Tryz.func265.trans (ae_ some (by kernel_rfl))
 f161:=Tryz.func181.trans (ae_ some (by kernel_rfl))
 f197:=Tryz.func236.trans (ae_ some (by kernel_rfl))
 f217:=Tryz.func292.trans (ae_ some (by kernel_rfl))
 f224:=Tryz.func282.trans (ae_ some (by kernel_rfl))
 f225:=Tryz.func283.trans (ae_ some (by kernel_rfl))
 f227:=Tryz.func192.trans (ae_ some (by kernel_rfl))
 f228:=Tryz.func235.trans (ae_ some (by kernel_rfl))
 f231:=Tryz.func190.trans (ae_ some (by kernel_rfl))
 f233:=Tryz.func193.trans (ae_ some (by kernel_rfl))
 f235:=Tryz.func195.trans (ae_ some (by kernel_rfl))
 f260:=Tryz.func264.trans (ae_ some (by kernel_rfl))
 f266:=Tryz.func294.trans (ae_ some (by kernel_rfl))
 t0:=Tryz.underlying0
 a0:=Tryz.isAgg0
 z0:=Tryz.sizeOf0
 v0:=Tryz.zeroValue0
 t3:=Tryz.underlying3
 a3:=Tryz.isAgg3
 z3:=Tryz.sizeOf3
 v3:=Tryz.zeroValue3
 t4:=Tryz.underlying4
 a4:=Tryz.isAgg4
 z4:=Tryz.sizeOf4
 v4:=Tryz.zeroValue4
 t5:=Tryz.underlying5
 a5:=Tryz.isAgg5
 z5:=Tryz.sizeOf5
 v5:=Tryz.zeroValue5
 t9:=Tryz.underlying9
 a9:=Tryz.isAgg9
 z9:=Tryz.sizeOf9
 v9:=Tryz.zeroValue9
 t21:=Tryz.underlying21
 a21:=Tryz.isAgg21
 z21:=Tryz.sizeOf21
 v21:=Tryz.zeroValue21
 t46:=Tryz.underlying164
 a46:=Tryz.isAgg164
 z46:=Tryz.sizeOf164
 v46:=Tryz.zeroValue164
 t105:=Tryz.underlying218
 a105:=Tryz.isAgg218
 z105:=Tryz.sizeOf218
 v105:=Tryz.zeroValue218
 t116:=Tryz.underlying186
 a116:=Tryz.isAgg186
 z116:=Tryz.sizeOf186
 t117:=Tryz.underlying187
 a117:=Tryz.isAgg187
 z117:=Tryz.sizeOf187
 v117:=Tryz.zeroValue187
 t119:=Tryz.underlying257
 a119:=Tryz.isAgg257
 z119:=Tryz.sizeOf257
 t124:=Tryz.underlying190
 a124:=Tryz.isAgg190
 z124:=Tryz.sizeOf190
 v124:=Tryz.zeroValue190
 t138:=Tryz.underlying259
 a138:=Tryz.isAgg259
 z138:=Tryz.sizeOf259
 v138:=Tryz.zeroValue259
 t139:=Tryz.underlying260
 a139:=Tryz.isAgg260
 z139:=Tryz.sizeOf260
 v139:=Tryz.zeroValue260
 g3:=by kernel_rfl
 g4:=by kernel_rfl}
end Go.Proofs
namespace Go.Proofs.YtipnjpfdlolhmaaGreatDoor.Abs
open Go Go.Shelf Go.RowKit Go.Lib
theorem GQ {l:List iK} : ∀(args:List SV) (tab:aE) (z:(Sh.pair (.val .str) .unit).den×Sh.unit.den),oZ args tab=some z→ed (gx Tryz.prog l) Tryz.prog jt args tab z:=by
 intro args tab z hz
 unfold oZ at hz
 split at hz
 ·rename_i s c
  split at hz
  ·rename_i h
   cases hz
   refine kz (sh := .pair (.val .str) .unit) (fun _=>rfl) ?_ (fun _ _ h=>h.none)
   intro w Pr γ us hG _ hu
   cases hu with
   | cons a k =>
    cases k with
    | cons b k =>
     cases k
     obtain rfl:=fd a
     obtain rfl:=fd b
     obtain⟨h1,h2⟩:=KO h
     refine(Any.strings_TrimLeft_laid Tryz.layTrimLeft (by kernel_rfl) s c w h1 h2).mono ?_
     rintro e w' ⟨rfl,hB⟩
     exact⟨[_],rfl,⟨[_],[],rfl,rfl,rfl⟩,hB⟩
  ·cases hz
 ·cases hz
end Go.Proofs.YtipnjpfdlolhmaaGreatDoor.Abs
namespace Go.Proofs
open Go.Shelf Go.RowKit Go.Lib
def Tryz.layReplace_ren:Go.Shelf.Ren:=⟨fun | 155=>226 | 154=>258 | 138=>276 | 165=>260 | 143=>277 | 166=>261 | 197=>236 | 169=>262 | 195=>287 | 218=>288 | 240=>278 | 241=>279 | 219=>289 | 260=>264 | 276=>290 | 277=>291 | 217=>292 | 225=>283 | 224=>282 | 267=>293 | 266=>294 | 314=>295 | n=>n,fun | 9=>9 | 3=>3 | 4=>4 | 72=>239 | 0=>0 | 76=>240 | 105=>218 | 21=>21 | 5=>5 | 70=>237 | 20=>20 | 37=>22 | 75=>133 | 127=>242 | 164=>264 | 46=>164 | 119=>257 | 139=>260 | 138=>259 | 146=>269 | 51=>200 | 80=>73 | n=>n,fun | 1=>5 | 3=>3 | 4=>4 | n=>n⟩
theorem Tryz.layReplace:Go.Proofs.LaysM.n155 Tryz.prog Tryz.layReplace_ren:={
 mixed:=by kernel_rfl
 f138:=Tryz.func276.trans (ae_ some (by kernel_rfl))
 f143:=Tryz.func277.trans (ae_ some (by kernel_rfl))
 f154:=Tryz.func258.trans (ae_ some (by kernel_rfl))
 f155:=Tryz.func226.trans (ae_ some (by kernel_rfl))
 f165:=Tryz.func260.trans (ae_ some (by kernel_rfl))
 f166:=Tryz.func261.trans (ae_ some (by kernel_rfl))
 f169:=Tryz.func262.trans (ae_ some (by kernel_rfl))
 f195:=Tryz.func287.trans (ae_ some (by kernel_rfl))
 f197:=Tryz.func236.trans (ae_ some (by kernel_rfl))
 f217:=Tryz.func292.trans (ae_ some (by kernel_rfl))
 f218:=Tryz.func288.trans (ae_ some (by kernel_rfl))
 f219:=Tryz.func289.trans (ae_ some (by kernel_rfl))
 f224:=Tryz.func282.trans (ae_ some (by kernel_rfl))
 f225:=Tryz.func283.trans (ae_ some (by kernel_rfl))
 f240:=Tryz.func278.trans (ae_ some (by kernel_rfl))
 f241:=Tryz.func279.trans (ae_ some (by kernel_rfl))
 f260:=Tryz.func264.trans (ae_ some (by kernel_rfl))
 f266:=Tryz.func294.trans (ae_ some (by kernel_rfl))
 f267:=Tryz.func293.trans (ae_ some (by kernel_rfl))
 f276:=Tryz.func290.trans (ae_ some (by kernel_rfl))
 f277:=Tryz.func291.trans (ae_ some (by kernel_rfl))
 f314:=Tryz.func295.trans (ae_ some (by kernel_rfl))
 t0:=Tryz.underlying0
 a0:=Tryz.isAgg0
 z0:=Tryz.sizeOf0
 v0:=Tryz.zeroValue0
 t3:=Tryz.underlying3
 a3:=Tryz.isAgg3
 z3:=Tryz.sizeOf3
 v3:=Tryz.zeroValue3
 t4:=Tryz.underlying4
 a4:=Tryz.isAgg4
 z4:=Tryz.sizeOf4
 v4:=Tryz.zeroValue4
 t5:=Tryz.underlying5
 a5:=Tryz.isAgg5
 z5:=Tryz.sizeOf5
 v5:=Tryz.zeroValue5
 t9:=Tryz.underlying9
 a9:=Tryz.isAgg9
 z9:=Tryz.sizeOf9
 v9:=Tryz.zeroValue9
 t20:=Tryz.underlying20
 a20:=Tryz.isAgg20
 z20:=Tryz.sizeOf20
 v20:=Tryz.zeroValue20
 t21:=Tryz.underlying21
 a21:=Tryz.isAgg21
 z21:=Tryz.sizeOf21
 v21:=Tryz.zeroValue21
 t37:=Tryz.underlying22
 a37:=Tryz.isAgg22
 z37:=Tryz.sizeOf22
 v37:=Tryz.zeroValue22
 t46:=Tryz.underlying164
 a46:=Tryz.isAgg164
 z46:=Tryz.sizeOf164
 v46:=Tryz.zeroValue164
 t51:=Tryz.underlying200
 a51:=Tryz.isAgg200
 z51:=Tryz.sizeOf200
 v51:=Tryz.zeroValue200
 t70:=Tryz.underlying237
 a70:=Tryz.isAgg237
 z70:=Tryz.sizeOf237
 v70:=Tryz.zeroValue237
 t72:=Tryz.underlying239
 a72:=Tryz.isAgg239
 z72:=Tryz.sizeOf239
 v72:=Tryz.zeroValue239
 t75:=Tryz.underlying133
 a75:=Tryz.isAgg133
 z75:=Tryz.sizeOf133
 v75:=Tryz.zeroValue133
 t76:=Tryz.underlying240
 a76:=Tryz.isAgg240
 z76:=Tryz.sizeOf240
 v76:=Tryz.zeroValue240
 t105:=Tryz.underlying218
 a105:=Tryz.isAgg218
 z105:=Tryz.sizeOf218
 v105:=Tryz.zeroValue218
 t119:=Tryz.underlying257
 a119:=Tryz.isAgg257
 z119:=Tryz.sizeOf257
 t127:=Tryz.underlying242
 a127:=Tryz.isAgg242
 z127:=Tryz.sizeOf242
 v127:=Tryz.zeroValue242
 t138:=Tryz.underlying259
 a138:=Tryz.isAgg259
 z138:=Tryz.sizeOf259
 v138:=Tryz.zeroValue259
 t139:=Tryz.underlying260
 a139:=Tryz.isAgg260
 z139:=Tryz.sizeOf260
 v139:=Tryz.zeroValue260
 t146:=Tryz.underlying269
 a146:=Tryz.isAgg269
 z146:=Tryz.sizeOf269
 v146:=Tryz.zeroValue269
 t164:=Tryz.underlying264
 a164:=Tryz.isAgg264
 z164:=Tryz.sizeOf264
 v164:=Tryz.zeroValue264
 g1:=by kernel_rfl
 g3:=by kernel_rfl
 g4:=by kernel_rfl
 t80:=Tryz.underlying73
 a80:=Tryz.isAgg73
 z80:=Tryz.sizeOf73
 v80:=Tryz.zeroValue73
 i0:=by kernel_rfl
 i3:=by kernel_rfl
 i4:=by kernel_rfl
 i5:=by kernel_rfl
 i9:=by kernel_rfl
 i20:=by kernel_rfl
 i21:=by kernel_rfl
 i37:=by kernel_rfl
 i46:=by kernel_rfl
 i51:=by kernel_rfl
 i70:=by kernel_rfl
 i72:=by kernel_rfl
 i75:=by kernel_rfl
 i76:=by kernel_rfl
 i80:=by kernel_rfl
 i105:=by kernel_rfl
 i127:=by kernel_rfl
 i138:=by kernel_rfl
 i139:=by kernel_rfl
 i146:=by kernel_rfl
 i164:=by kernel_rfl
 m1:=by kernel_rfl
 s1_3:=fun w h=>Go.Proofs.cell_of_shapedOpen_int (zero := #[.int .i64 0]) (t:=3) h (do_ (by kernel_rfl)) (by kernel_rfl) rfl (by kernel_rfl) (by kernel_rfl) Tryz.underlying3
 m3:=by kernel_rfl
 m4:=by kernel_rfl}
def Tryz.layExtra_ren:Go.Shelf.Ren:=⟨fun | 155=>226 | 154=>258 | 138=>276 | 165=>260 | 143=>277 | 166=>261 | 197=>236 | 169=>262 | 195=>287 | 218=>288 | 240=>278 | 241=>279 | 219=>289 | 260=>264 | 276=>290 | 277=>291 | 217=>292 | 225=>283 | 224=>282 | 267=>293 | 266=>294 | 314=>295 | n=>n,fun | 9=>9 | 3=>3 | 4=>4 | 72=>239 | 0=>0 | 76=>240 | 105=>218 | 21=>21 | 5=>5 | 70=>237 | 20=>20 | 37=>22 | 75=>133 | 127=>242 | 164=>264 | 46=>164 | 119=>257 | 139=>260 | 138=>259 | 146=>269 | 51=>200 | 80=>73 | n=>n,fun | 1=>5 | 3=>3 | 4=>4 | n=>n⟩
theorem Tryz.layExtra:Go.Proofs.Builder.Extra Tryz.prog Tryz.layExtra_ren:={
 sizeBuilder:=by kernel_rfl
 liesBuilder:=by kernel_rfl
 t5:=Tryz.underlying5
 a5:=Tryz.isAgg5
 z5:=Tryz.sizeOf5
 v5:=Tryz.zeroValue5
 infoByte:=by kernel_rfl
 cellsByte:=by kernel_rfl
 sizeByte:=by kernel_rfl
 neB5:=by decide}
end Go.Proofs
namespace Go.Proofs.YtipnjpfdlolhmaaGreatDoor.Abs
open Go Go.Shelf Go.RowKit Go.Lib
theorem Ji {l:List iK} (hm:wE "internal/bytealg.MaxLen" ∈ l) : ∀(args:List SV) (tab:aE) (z:(Sh.pair (.val .str) .unit).den×Sh.unit.den),qH args tab=some z→ed (gx Tryz.prog l) Tryz.prog io args tab z:=by
 intro args tab z hz
 unfold qH at hz
 split at hz
 ·rename_i s c d
  split at hz
  ·rename_i h
   cases hz
   refine kz (sh:=Sh.pair (.val .str) .unit) (fun _=>rfl) ?_ (fun _ _ h=>h.none)
   intro w Pr γ us hG hPr hu
   cases hu with
   | cons a k =>
    cases k with
    | cons b k =>
     cases k with
     | cons c k =>
      cases k
      obtain rfl:=fd a
      obtain rfl:=fd b
      obtain rfl:=fd c
      obtain⟨m,hc⟩:=CH hG hm Tryz.layReplace.m1
      refine(Any.strings_ReplaceAll {Tryz.layReplace with} Tryz.layExtra s _ _ m w h.1 hc h.2.1 h.2.2).mono ?_
      rintro e w' ⟨rfl,hB⟩
      exact⟨[_],rfl,⟨[_],[],rfl,rfl,rfl⟩,hB⟩
  ·cases hz
 ·cases hz
end Go.Proofs.YtipnjpfdlolhmaaGreatDoor.Abs
namespace Go.Proofs
open Go.Shelf Go.RowKit Go.Lib
def Tryz.layJoin_ren:Go.Shelf.Ren:=⟨fun | 156=>229 | 165=>260 | 166=>261 | 169=>262 | 240=>278 | 241=>279 | 276=>290 | 277=>291 | n=>n,fun | 31=>106 | 9=>9 | 3=>3 | 4=>4 | 0=>0 | 20=>20 | 72=>239 | 76=>240 | 70=>237 | 37=>22 | 75=>133 | 127=>242 | 164=>264 | 5=>5 | 80=>73 | n=>n,fun | n=>n⟩
theorem Tryz.layJoin:Go.Proofs.Lays.n156 Tryz.prog Tryz.layJoin_ren:={
 mixed:=by kernel_rfl
 f156:=Tryz.func229.trans (ae_ some (by kernel_rfl))
 f165:=Tryz.func260.trans (ae_ some (by kernel_rfl))
 f166:=Tryz.func261.trans (ae_ some (by kernel_rfl))
 f169:=Tryz.func262.trans (ae_ some (by kernel_rfl))
 f240:=Tryz.func278.trans (ae_ some (by kernel_rfl))
 f241:=Tryz.func279.trans (ae_ some (by kernel_rfl))
 f276:=Tryz.func290.trans (ae_ some (by kernel_rfl))
 f277:=Tryz.func291.trans (ae_ some (by kernel_rfl))
 t0:=Tryz.underlying0
 a0:=Tryz.isAgg0
 z0:=Tryz.sizeOf0
 v0:=Tryz.zeroValue0
 t3:=Tryz.underlying3
 a3:=Tryz.isAgg3
 z3:=Tryz.sizeOf3
 v3:=Tryz.zeroValue3
 t4:=Tryz.underlying4
 a4:=Tryz.isAgg4
 z4:=Tryz.sizeOf4
 v4:=Tryz.zeroValue4
 t9:=Tryz.underlying9
 a9:=Tryz.isAgg9
 z9:=Tryz.sizeOf9
 v9:=Tryz.zeroValue9
 t20:=Tryz.underlying20
 a20:=Tryz.isAgg20
 z20:=Tryz.sizeOf20
 v20:=Tryz.zeroValue20
 t31:=Tryz.underlying106
 a31:=Tryz.isAgg106
 z31:=Tryz.sizeOf106
 v31:=Tryz.zeroValue106
 t37:=Tryz.underlying22
 a37:=Tryz.isAgg22
 z37:=Tryz.sizeOf22
 v37:=Tryz.zeroValue22
 t70:=Tryz.underlying237
 a70:=Tryz.isAgg237
 z70:=Tryz.sizeOf237
 v70:=Tryz.zeroValue237
 t72:=Tryz.underlying239
 a72:=Tryz.isAgg239
 z72:=Tryz.sizeOf239
 v72:=Tryz.zeroValue239
 t75:=Tryz.underlying133
 a75:=Tryz.isAgg133
 z75:=Tryz.sizeOf133
 v75:=Tryz.zeroValue133
 t76:=Tryz.underlying240
 a76:=Tryz.isAgg240
 z76:=Tryz.sizeOf240
 v76:=Tryz.zeroValue240
 t127:=Tryz.underlying242
 a127:=Tryz.isAgg242
 z127:=Tryz.sizeOf242
 v127:=Tryz.zeroValue242
 t164:=Tryz.underlying264
 a164:=Tryz.isAgg264
 z164:=Tryz.sizeOf264
 v164:=Tryz.zeroValue264}
theorem Tryz.extraJoin:Builder.Extra Tryz.prog Tryz.layJoin_ren:={
 sizeBuilder:=by kernel_rfl
 liesBuilder:=by kernel_rfl
 t5:=Tryz.underlying5
 a5:=Tryz.isAgg5
 z5:=Tryz.sizeOf5
 v5:=Tryz.zeroValue5
 infoByte:=by kernel_rfl
 cellsByte:=by kernel_rfl
 sizeByte:=by kernel_rfl
 neB5:=by decide}
end Go.Proofs
namespace Go.Proofs.YtipnjpfdlolhmaaGreatDoor.Abs
open Go Go.Shelf Go.RowKit Go.Lib
theorem Qc {l:List iK} : ∀(args:List SV) (tab:aE) (z:(Sh.pair (.val .str) .unit).den×Sh.unit.den),xY U1 args tab=some z→ed (gx Tryz.prog l) Tryz.prog mq args tab z:=by
 intro args tab z hz
 unfold xY at hz
 split at hz
 ·rename_i t xs c
  rw[ab_] at hz
  obtain⟨xs',hxs,hz⟩:=hz
  obtain⟨rfl,hxs⟩:=jj hxs
  have hxs:xs=xs':=hxs
  subst hxs
  split at hz
  ·rename_i h
   obtain⟨h1,h2⟩:=h
   cases hz
   refine kz (sh := .pair (.val .str) .unit) (fun _=>rfl) ?_ (fun _ _ h=>h.none)
   intro w Pr γ us hG hPr hu
   cases hu with
   | cons a k =>
    cases k with
    | cons d k =>
     cases k
     obtain rfl:=fd d
     cases a with
     | val ha =>
      obtain⟨A,cap,rfl,hcap,hA⟩:=ha
      by_cases hx:(xs:List Z0)=[]
      ·subst hx
       refine(Any.strings_Join_none Tryz.layJoin Tryz.extraJoin A cap c w).mono ?_
       rintro e w' ⟨rfl,rfl⟩
       exact⟨[_],rfl,⟨[_],[],rfl,rfl,rfl⟩,Below.refl _ _⟩
      ·obtain⟨b,o,rfl,hcells⟩:=hA hx
       have hcell : ∀(j:Nat) x,(xs:List Z0)[j]? = some x→Pr b (o+j)∧w.cell? ⟨b,o+j,none⟩=some (.string x):=by
        intro j x hj
        obtain⟨hj1,hj2⟩:=ar_.1 hj
        obtain⟨cs,hc1,hc2⟩:=hcells j hj1
        have hc1:cs=[.string (xs:List Z0)[j]]:=hc1
        subst hc1
        have:=hc2 0 _ rfl
        have e1:o+j*(Ty.str).sz+0=o+j:=by show o+j*1+0=_; omega
        rw[e1] at this
        rw[←hj2]
        exact this
       have hb:b < w.heap.size:=by
        obtain⟨x,r,hxr⟩ : ∃ x r,(xs:List Z0)=x :: r:=by
         cases hq:(xs:List Z0) with
         | nil=>exact ay_ hq hx
         | cons x r=>exact⟨x,r,rfl⟩
        exact hPr b _ (hcell 0 x (by rw[hxr]; rfl)).1
       refine(Any.strings_Join Tryz.layJoin Tryz.extraJoin b o cap xs c w (fun j x hj=>(hcell j x hj).2) hb h1 hcap h2).mono ?_
       rintro e w' ⟨rfl,hB⟩
       exact⟨[_],rfl,⟨[_],[],rfl,rfl,rfl⟩,hB⟩
  ·cases hz
 ·cases hz
end Go.Proofs.YtipnjpfdlolhmaaGreatDoor.Abs
namespace Go.Proofs
open Go.Shelf Go.RowKit Go.Lib
def Tryz.layCut_ren:Go.Shelf.Ren:=⟨fun | 145=>273 | 220=>286 | 219=>289 | 217=>292 | 225=>283 | 224=>282 | 267=>293 | 266=>294 | 314=>295 | n=>n,fun | 9=>9 | 4=>4 | 59=>253 | 3=>3 | 5=>5 | 46=>164 | 146=>269 | 51=>200 | n=>n,fun | 1=>5 | n=>n⟩
theorem Tryz.layCut:Go.Proofs.LaysM.n145 Tryz.prog Tryz.layCut_ren:={
 mixed:=by kernel_rfl
 f145:=Tryz.func273.trans (ae_ some (by kernel_rfl))
 f217:=Tryz.func292.trans (ae_ some (by kernel_rfl))
 f219:=Tryz.func289.trans (ae_ some (by kernel_rfl))
 f220:=Tryz.func286.trans (ae_ some (by kernel_rfl))
 f224:=Tryz.func282.trans (ae_ some (by kernel_rfl))
 f225:=Tryz.func283.trans (ae_ some (by kernel_rfl))
 f266:=Tryz.func294.trans (ae_ some (by kernel_rfl))
 f267:=Tryz.func293.trans (ae_ some (by kernel_rfl))
 f314:=Tryz.func295.trans (ae_ some (by kernel_rfl))
 t3:=Tryz.underlying3
 a3:=Tryz.isAgg3
 z3:=Tryz.sizeOf3
 v3:=Tryz.zeroValue3
 t4:=Tryz.underlying4
 a4:=Tryz.isAgg4
 z4:=Tryz.sizeOf4
 v4:=Tryz.zeroValue4
 t5:=Tryz.underlying5
 a5:=Tryz.isAgg5
 z5:=Tryz.sizeOf5
 v5:=Tryz.zeroValue5
 t9:=Tryz.underlying9
 a9:=Tryz.isAgg9
 z9:=Tryz.sizeOf9
 v9:=Tryz.zeroValue9
 t46:=Tryz.underlying164
 a46:=Tryz.isAgg164
 z46:=Tryz.sizeOf164
 v46:=Tryz.zeroValue164
 t51:=Tryz.underlying200
 a51:=Tryz.isAgg200
 z51:=Tryz.sizeOf200
 v51:=Tryz.zeroValue200
 t59:=Tryz.underlying253
 a59:=Tryz.isAgg253
 z59:=Tryz.sizeOf253
 v59:=Tryz.zeroValue253
 t146:=Tryz.underlying269
 a146:=Tryz.isAgg269
 z146:=Tryz.sizeOf269
 v146:=Tryz.zeroValue269
 g1:=by kernel_rfl
 i3:=by kernel_rfl
 i4:=by kernel_rfl
 i5:=by kernel_rfl
 i9:=by kernel_rfl
 i46:=by kernel_rfl
 i51:=by kernel_rfl
 i59:=by kernel_rfl
 i146:=by kernel_rfl
 m1:=by kernel_rfl
 s1_3:=fun w h=>Go.Proofs.cell_of_shapedOpen_int (zero := #[.int .i64 0]) (t:=3) h (do_ (by kernel_rfl)) (by kernel_rfl) rfl (by kernel_rfl) (by kernel_rfl) Tryz.underlying3}
end Go.Proofs
namespace Go.Proofs.YtipnjpfdlolhmaaGreatDoor.Abs
open Go Go.Shelf Go.RowKit Go.Lib
theorem SH {l:List iK} (hm:wE "internal/bytealg.MaxLen" ∈ l) : ∀(args:List SV) (tab:aE) (z:(Sh.pair (.val .str) (.pair (.val .str) (.pair (.val .bool) .unit))).den×Sh.unit.den),BU args tab=some z→ed (gx Tryz.prog l) Tryz.prog nI args tab z:=by
 intro args tab z hz
 unfold BU at hz
 split at hz
 ·rename_i s c
  split at hz
  ·rename_i h
   cases hz
   refine kz (sh := .pair (.val .str) (.pair (.val .str) (.pair (.val .bool) .unit))) (fun _=>rfl) ?_ (fun _ _ h=>h.none)
   intro w Pr γ us hG _ hu
   cases hu with
   | cons a k =>
    cases k with
    | cons b k =>
     cases k
     obtain rfl:=fd a
     obtain rfl:=fd b
     obtain⟨m,hc⟩:=CH hG hm Tryz.layCut.m1
     refine(Any.strings_Cut {Tryz.layCut with} s c m w h hc).mono ?_
     rintro e w' ⟨rfl,n,rfl⟩
     exact⟨[_,_,_],rfl,⟨[_],_,rfl,rfl,[_],_,rfl,rfl,[_],_,rfl,rfl,rfl⟩,rfl,rfl,rfl,ag_ _,fun _ _=>rfl⟩
  ·cases hz
 ·cases hz
end Go.Proofs.YtipnjpfdlolhmaaGreatDoor.Abs
