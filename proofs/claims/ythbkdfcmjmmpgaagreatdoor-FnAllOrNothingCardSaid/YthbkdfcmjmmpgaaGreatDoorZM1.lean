/- slices.Clone: the library's contract, wherever an empty slice may stand. -/
import Derived.Shelf.SlicesE.Clone
import Derived.Test.YthbkdfcmjmmpgaaGreatDoorZA3
import Derived.Shelf.SlSortCmp.WholeK
import Derived.Shelf.SlicesG.Cmp
import Derived.Handy
import Derived.StillTailTactics
import Derived.Test.YthbkdfcmjmmpgaaGreatDoorZQD
import Derived.Shelf.SlSortCmp.NoneTotal
import Derived.Shelf.Strconv.ErrVarParseInt
import Derived.Shelf.Strings.SlTrimAscii
import Derived.Shelf.Strconv.Itoa4
import Derived.Lib.AppendIntMem
import Derived.Shelf.Strings.Replace
import Derived.Shelf.LaysM
import Derived.Shelf.Strings.OnBuilder
import Derived.Shelf.Strings.Cut
open Array renaming getElem?_eq_getElem→cn_,getElem?_toList→dc_,length_toList→cf_
open Classical renaming choose→fu_
open Go.Lib renaming bitLen→fh_,compareInt→dt_,parseIntB→dz_
open List renaming eq_nil_of_length_eq_zero→ce_,getElem?_eq_some_iff→ax_,map_congr_left→ev_
open Nat renaming le_refl→aq_,lt_of_lt_of_le→cl_,lt_succ_self→go_,mul_comm→fj_,zero_add→cv_,zero_le→dd_
open Option renaming bind_eq_some_iff→am_
open Option.some renaming inj→cb_
open _root_ renaming ByteArray→aa_,absurd→bk_,congrArg→an_,if_neg→ad_,if_pos→af_,of_decide_eq_true→dx_
namespace Go.Proofs
open Go.Shelf Go.RowKit Go.Lib
variable {P:Program} {ρ:Ren}
set_option maxHeartbeats 2000000 in
set_option maxRecDepth 100000 in
theorem YthbkdfcmjmmpgaaGreatDoor.Abs.clone_any (L:SlLaysE0.n41 P ρ) (i0:TypeInfo) (z:Value) (size bytes:Nat) (hi:P.info? (ρ.t 23)=some i0) (hz0:i0.zero=some z) (hz1:i0.size=size) (hz2:i0.bytes=bytes) (hzs:z.cells.size=size) (hsz:0 < size)
  (z23 : ∀ w,(Go.sizeOf (ρ.t 23)).run P w = .ok size w) (a:Addr) (n c:Nat) (news:List Value) (w:World) (hl:news.length=n*size) (hn:n≤maxLen) (hbig:n*bytes≤140737488355328)
  (hc : ∀ j u,news[j]? = some u→w.cell? (a.add j)=some u) (h1 : ∀ u∈news,u.oneCell'=true) :
  Calls P (ρ.f 41) #[.slice (some a) n c] w fun e w' => ∃ v',e = .returned v'∧w'.ownsRow w.heap.size (ρ.t 23) size v' n news∧v' ≠ .slice none 0 0∧Below w.heap.size w w':=by
 have mixed:=L.mixed; have t4:=L.t4; have a4:=L.a4; have z4:=L.z4; have v4:=L.v4; have t22:=L.t22; have a22:=L.a22; have z22:=L.z22; have v22:=L.v22
 have q22 : ∀(w:World) (a:Option Addr) (n c n' c':Nat),(binOp .eql (ρ.t 22) (.slice a n c) (.slice none n' c')).run P w = .ok (.bool a.isNone) w:=fun w a n c n' c'=>Lib.run_eql_slice_nil w _ _ a n c n' c' L.t22
 have u22 : ∀ w,Sem.run P (underlying (ρ.t 22)) w = .ok (TypeDesc.slice (ρ.t 23)) w:=run_underlying t22
 have A:Aside (∀ j u,news[j]? = some u→w.cell? (a.add j)=some u):=hc
 clear hc
 obtain⟨_,_,FG⟩:=L.f41
 go_enter FG,SlBodyN.n41_ntmps ρ
 go_wp2_with (at_builtin; refine wpList_append_own _ rfl _ _ (ρ.t 22) rfl w.heap.size (ρ.t 23) i0 z size bytes t22 hi hz0 hz1 hz2 hzs hsz _ _ _ rfl (World.ownsRow_made w #[] 0 (aq_ _) (dd_ _) (by simp)) a n c news rfl ?qc1 ?qc2 ?qc3 ?qc4 ?qc5 ?qc6 ?_)
 case qc1=>exact hl
 case qc2 =>
  intro j u hj
  exact Lib.cell?_alloc_some _ (A.out j u hj)
 case qc3=>exact h1
 case qc4=>rw[cv_]; exact hn
 case qc5=>rw[cv_]; exact hbig
 case qc6=>simp
 intro v' w1 hown hgrow hnil
 go_wp2
 go_ret
 refine⟨v',rfl,by simpa using hown,?_,?_⟩
 ·exact hnil
 ·exact((Below.refl _ w).alloc (aq_ _) _).grown hgrow (by simp) (by intro k hk; simp[Value.ownBlock] at hk; omega)
end Go.Proofs
set_option linter.unusedVariables false
set_option linter.unusedSimpArgs false
set_option linter.unusedSectionVars false
namespace Go.Proofs.YthbkdfcmjmmpgaaGreatDoor.Abs
open Go Go.RowKit
theorem Kp {α:Type} [Inhabited α] {enc:α→List Value} {k:Nat} (hk : ∀ x,(enc x).length=k) : ∀ l:List α,(List.range (l.length*k)).map (fun t=>(enc l[t / k]!)[t % k]!)=(l.map enc).flatten
 | []=>by simp
 | x :: l=>by
  have ih:=Kp hk l
  rw[List.length_cons,Nat.add_mul,Nat.one_mul,Nat.add_comm,List.range_add,List.map_append,List.map_cons,List.flatten_cons,←ih,List.map_map]
  congr 1
  ·apply List.ext_getElem
   ·simp[hk]
   ·intro i h1 h2
    have hi:i < k:=by simpa using h1
    simp only[List.getElem_map,List.getElem_range]
    rw[Nat.div_eq_of_lt hi,Nat.mod_eq_of_lt hi]
    simp only[List.getElem!_cons_zero]
    rw[getElem!_pos _ i h2]
  ·apply ev_
   intro t ht
   have hk0:0 < k:=by
    rcases Nat.eq_zero_or_pos k with h | h
    ·subst h
     simp at ht
    ·exact h
   simp only[Function.comp]
   rw[Nat.add_div_left _ hk0,Nat.add_mod_left]
   simp
theorem Rh {α:Type} [Inhabited α] {enc:α→List Value} {k:Nat} (hk : ∀ x,(enc x).length=k) (d:Array α):(Sort.flatK enc k d).toList=(d.toList.map enc).flatten:=by
 rw[←Kp hk]
 unfold Sort.flatK
 rw[Array.toList_map,Array.toList_range,cf_]
 refine ev_ fun i _ => ?_
 rw[Array.getElem!_toList (xs:=d)]
theorem Xw (cur d:Array Value) (h:d.size≤cur.size):(Sort.putCells id 0 d cur).toList.take d.size=d.toList:=by
 apply List.ext_getElem?
 intro i
 rw[List.getElem?_take]
 by_cases hi:i < d.size
 ·rw[af_ hi]
  simp only[Sort.putCells,dc_,Array.getElem?_mapIdx]
  rw[cn_ (by omega),cn_ hi]
  simp[hi]
 ·rw[ad_ hi,dc_,Array.getElem?_eq_none (by omega)]
theorem GN {Gp:WP} {P:Program} {g gc:Nat} {fn:Func} {e:TypeId} {t:Ty} {own:List Bool} {live:List (Nat×List Nat)} (hn:c8 t=true) (hsz:0 < t.sz) {lt:t.den→t.den→Bool} (hO:Sort.SWO lt)
  (hcon : ∀(bv cap:Nat) (d:Array t.den) (w:World),Sort.HoldsK (fZ t) t.sz w bv 0 d→bv < w.heap.size→d.size < 4611686018427387904→Calls P g #[.slice (some ⟨bv,0,none⟩) d.size cap,.func (.func gc) #[] #[]] w fun e w'=>e = .returned (.tuple #[]) ∧ ∃ n os,w'=sortWorldK (fZ t) t.sz w bv 0 n (Sort.pdq lt d 0 d.size (fh_ d.size) true true) os)
  (hnone : ∀(p:Option Addr) (cap:Nat) (fv:Value) (w:World),Calls P g #[.slice p 0 cap,fv] w fun e w'=>e = .returned (.tuple #[])∧w'=w) :
  ∀(args:List SV) (tab:aM) (z:Sh.unit.den×(Sh.pair (.row e t false) .unit).den),gX e t gc lt args tab=some z→eA Gp P {g:=g,fn:=fn,sh := .unit,bx := .pair (.row e t false) .unit,own:=own,live:=live,rb:=true,prim:=some (gX e t gc lt)} args tab z:=by
 intro args tab z hz
 unfold gX at hz
 split at hz
 ·rename_i g' e' s xs
  split at hz
  ·rename_i hg'
   subst hg'
   rw[am_] at hz
   obtain⟨xs',hxs,hz⟩:=hz
   obtain⟨hty,hxs⟩:=jm hxs
   cases hty
   have hxs:xs=xs':=hxs
   subst hxs
   split at hz
   ·rename_i hlen
    cases hz
    intro hcanon w γ Pr us _ hI hlim N hN vs u n bs u' n' ub hm1 hm2 hub
    cases hm1
    cases hm2
    cases hub
    have hN:1≤N:=hN
    obtain⟨v,css,hγ,hels,hown,hfr⟩:=hI.res 0 (.row e t xs false) rfl
    have hsl:=hI.slots
    cases hsl with
    | cons h1 hk =>
    cases hk with
    | cons h2 hk =>
    cases hk
    rename_i u1 u2
    cases h1 with
    | row h1 =>
    rw[hγ] at h1
    cases h1
    cases h2 with
    | fn hc =>
    cases hc
    have hcss:=(QV hn).1 hels
    have hγN : ∀ r,(if r=N then γ 0 else none)=if r=N then some (.row e t v) else none:=fun r=>by rw[hγ]
    have iC : ∀(w':World),w'.os=w.os→w'.tape=w.tape→w'.output=w.output→w.heap.size≤w'.heap.size→(∀ k,k < w.heap.size→v.ownBlock≠some k→w'.heap[k]? = w.heap[k]?) →
      w'.ownsRow 0 e t.sz v (dC lt xs).length ((dC lt xs).map (fZ t)).flatten→wZ w (nj [(0,.row e t xs false)] γ) γ Pr N (N+1) [] [none] [(N,some (.row e t (dC lt xs) false))] [] (fun r=>if r=N then γ 0 else none) Pr w':=by
     intro w' hos htp hout hsize hfrm hrow
     have hloose : ∀ b,v.ownBlock=some b → ∀ o,¬Pr b o:=fun b hb o ho=>hI.loose 0 (.row e t xs false) b rfl (by simp[bv,hγ,hb]) o ho
     have hnew : ∀ r x,l9 [(N,some (bh.row e t (dC lt xs) false))] r=some x→r=N∧x = .row e t (dC lt xs) false:=by
      intro r x h
      have h':(if r=N then some (bh.row e t (dC lt xs) false) else none)=some x:=h
      by_cases hr:r=N
      ·rw[af_ hr] at h'
       exact⟨hr,(cb_ h').symm⟩
      ·rw[ad_ hr] at h'
       cases h'
     have hblk : ∀ b,bv (fun r=>if r=N then γ 0 else none) N (.row e t (dC lt xs) false)=some b→v.ownBlock=some b:=by
      intro b hb
      simpa[bv,hγ] using hb
     refine⟨.nil,?_,?_,?_,?_,?_,?_,?_,?_,?_,hsize,hos,htp,hout,?_,?_,?_⟩
     ·intro r g hr
      by_cases h:r=N
      ·rw[af_ h,hγ] at hr
       cases hr
       obtain⟨A,n,c,rfl⟩:=hI.gs 0 e t v hγ
       exact⟨⟨by omega,by omega⟩,.inl ⟨e,t,A,n,c,rfl⟩⟩
      ·rw[ad_ h] at hr
       cases hr
     ·intro j t' c hj
      rcases j with _ | j <;> simp at hj
     ·intro r x h
      obtain⟨rfl,rfl⟩:=hnew r x h
      refine⟨aq_ _,go_ _,v,(dC lt xs).map (fZ t),?_,(QV hn).2 rfl,hrow,fun h=>by cases h⟩
      exact(af_ rfl).trans hγ
     ·intro r r' x x' b h h' hne
      exact bk_ ((hnew r x h).1.trans (hnew r' x' h').1.symm) hne
     ·intro j t' c b hj
      rcases j with _ | j <;> simp at hj
     ·intro j t' c b hj
      rcases j with _ | j <;> simp at hj
     ·intro r x b h hb o ho
      obtain⟨rfl,rfl⟩:=hnew r x h
      exact bk_ ho (hloose b (hblk b hb) o)
     ·intro r x b h hb
      obtain⟨rfl,rfl⟩:=hnew r x h
      exact .inl ⟨0,_,rfl,by simp[bv,hγ,hblk b hb]⟩
     ·intro k hk hx
      refine hfrm k hk fun hb=>hx ⟨0,_,rfl,by simp[bv,hγ,hb]⟩
     ·intro b o ho
      exact cl_ (hI.prIn b o ho) hsize
     ·exact fun b hb hx o ho=>ho
     ·intro b o v' hv'
      refine⟨hv'.1,?_⟩
      rw[World.cell?_of_block (hfrm b (hI.prIn b o hv'.1) (fun hb=>hloose b hb o hv'.1))]
      exact hv'.2
    have hsame2 : ∀ p∈di true [(0,bh.row e t xs false)] [SV.row N],(fun r=>if r=N then γ 0 else none) p.1=γ p.2:=by
     intro p hp
     have:p=(N,0):=by simpa[di] using hp
     subst this
     exact af_ rfl
    by_cases hx0:xs=[]
    ·subst hx0
     have hs0:dC lt ([]:List t.den)=[]:=ce_ (Gi hO [])
     have hv0 : ∃ p cap,v = .slice p 0 cap:=by
      rcases hown.2 with⟨rfl,_⟩ | ⟨g,cap,cur,rfl,_⟩
      ·exact⟨_,_,rfl⟩
      ·exact⟨_,_,rfl⟩
     obtain⟨p,cap,rfl⟩:=hv0
     refine(hnone p cap _ w).mono ?_
     rintro e' w' ⟨rfl,rfl⟩
     refine⟨[],_,Pr,rfl,iC w' rfl rfl rfl (aq_ _) (fun _ _ _=>rfl) ?_,hsame2⟩
     rw[hs0]
     rw[hcss] at hown
     exact hown
    ·rcases hown.2 with⟨rfl,h0⟩ | ⟨g,cap,cur,rfl,_,hheap,hnc,hcm,hcs,htake⟩
     ·exact bk_ (ce_ h0) hx0
     ·have hflat:(Sort.flatK (fZ t) t.sz xs.toArray).toList=css.flatten:=by rw[Rh (Dv hn),hcss]
      have hflen:css.flatten.length=xs.length*t.sz:=hels.flat
      have hglt:g < w.heap.size:=(Array.getElem?_eq_some_iff.1 hheap).1
      have hmul:xs.length*t.sz≤cap*t.sz:=Nat.mul_le_mul_right _ hnc
      have hH:Sort.HoldsK (fZ t) t.sz w g 0 xs.toArray:=by
       intro j hj
       have hj':j < css.flatten.length:=by
        rw[←hflat]
        simpa using hj
       have hcell:=hown.cells (g:=g) rfl j _ (List.getElem?_eq_getElem hj')
       rw[gI] at hcell
       refine⟨?_,?_⟩
       ·rw[hcell]
        congr 1
        have:(Sort.flatK (fZ t) t.sz xs.toArray)[j]! = (Sort.flatK (fZ t) t.sz xs.toArray).toList[j]! := by
         rw[getElem!_pos _ j hj,getElem!_pos _ j (by simpa using hj)]
         simp
        show css.flatten[j]=(Sort.flatK (fZ t) t.sz xs.toArray)[j]!
        rw[this,hflat,getElem!_pos _ j hj']
       ·have:=hown.frozenAt j
        rw[cv_]
        exact this
      have hc:=hcon g cap xs.toArray w hH hglt (by simpa using hlen)
      rw[show(xs.toArray).size=xs.length by simp] at hc
      refine hc.mono ?_
      rintro e' w' ⟨rfl,m,os,rfl⟩
      have hsl:(Sort.pdq lt xs.toArray 0 xs.length (fh_ xs.length) true true).toList=dC lt xs:=by
       unfold dC
       simp
      have hdl:=Gi hO xs
      have hF:(Sort.flatK (fZ t) t.sz (Sort.pdq lt xs.toArray 0 xs.length (fh_ xs.length) true true)).toList=((dC lt xs).map (fZ t)).flatten:=by rw[Rh (Dv hn),hsl]
      have hFs:(Sort.flatK (fZ t) t.sz (Sort.pdq lt xs.toArray 0 xs.length (fh_ xs.length) true true)).size=xs.length*t.sz:=by
       rw[Sort.size_flatK,←cf_,hsl,hdl]
      have hw' : ∀ k,k≠g→k < w.heap.size→(sortWorldK (fZ t) t.sz w g 0 m (Sort.pdq lt xs.toArray 0 xs.length (fh_ xs.length) true true) os).heap[k]? = w.heap[k]? := by
       intro k hk hkl
       show((w.heap.modify g _)++os)[k]? = w.heap[k]?
       rw[Array.getElem?_append_left (by simpa using hkl),Array.getElem?_modify,ad_ (fun e=>hk e.symm)]
      have hwg:(sortWorldK (fZ t) t.sz w g 0 m (Sort.pdq lt xs.toArray 0 xs.length (fh_ xs.length) true true) os).heap[g]? = some (.cells (Sort.putCells id 0 (Sort.flatK (fZ t) t.sz (Sort.pdq lt xs.toArray 0 xs.length (fh_ xs.length) true true)) cur) e (0,0)):=by
       show((w.heap.modify g _)++os)[g]? = _
       rw[Array.getElem?_append_left (by simpa using hglt),Array.getElem?_modify,af_ rfl,hheap]
       rfl
      refine⟨[],_,Pr,rfl,iC _ rfl rfl rfl ?_ ?_ ?_,hsame2⟩
      ·show w.heap.size≤((w.heap.modify g _)++os).size
       simp
      ·intro k hk hne
       exact hw' k (fun e=>hne (by rw[e]; rfl)) hk
      ·refine⟨?_,.inr ⟨g,cap,_,by rw[hdl],dd_ _,hwg,by omega,hcm,?_,?_⟩⟩
       ·rw[←hF,cf_,hFs,hdl]
       ·rw[show(Sort.putCells id 0 (Sort.flatK (fZ t) t.sz (Sort.pdq lt xs.toArray 0 xs.length (fh_ xs.length) true true)) cur).size=cur.size by simp[Sort.putCells]]
        exact hcs
       ·rw[hdl,←hF,←hFs]
        exact Xw _ _ (by rw[hFs,hcs]; exact hmul)
   ·cases hz
  ·cases hz
 ·cases hz
theorem PN {L:Lk} {e:TypeId} {t:Ty} {xs:List t.den} {A:Option Addr} {n cap:Nat} (h:RK L (.slice e t) xs [.slice A n cap]) (hsz:0 < t.sz) : ∃ css,kw L t xs css∧(xs≠[] → ∃ b o,A=some ⟨b,o,none⟩ ∧ ∀ j u,css.flatten[j]? = some u→L b (o+j) u):=by
 obtain⟨A',cap',he,hcap,hA⟩:=h
 cases he
 by_cases hx:xs=[]
 ·subst hx
  exact⟨[],⟨rfl,fun i hi=>by simp at hi⟩,fun h=>bk_ rfl h⟩
 ·obtain⟨b,o,rfl,hc⟩:=hA hx
  refine⟨List.ofFn fun i:Fin xs.length=>fu_ (hc i i.2),?_,fun _=>⟨b,o,rfl,?_⟩⟩
  ·refine⟨List.length_ofFn,fun i hi hi' => ?_⟩
   rw[List.getElem_ofFn]
   exact(Classical.choose_spec (hc i hi)).1
  ·have hE:kw L t xs (List.ofFn fun i:Fin xs.length=>fu_ (hc i i.2)):=by
    refine⟨List.length_ofFn,fun i hi hi' => ?_⟩
    rw[List.getElem_ofFn]
    exact(Classical.choose_spec (hc i hi)).1
   intro j u hj
   have hjl:j < xs.length*t.sz:=by
    rw[←hE.flat]
    exact(ax_.1 hj).1
   have hq:j / t.sz < xs.length:=Nat.div_lt_of_lt_mul (by rw[fj_]; exact hjl)
   have h1:=ly hE.lens (i:=j / t.sz) (j:=j % t.sz) (c:=fu_ (hc (j / t.sz) hq)) (by simp[List.getElem?_ofFn,hq]) (Nat.mod_lt _ hsz)
   have e1:j / t.sz*t.sz+j % t.sz=j:=by rw[fj_]; exact Nat.div_add_mod _ _
   rw[e1] at h1
   have h2:=(Classical.choose_spec (hc (j / t.sz) hq)).2 (j % t.sz) u (by rw[←h1]; exact hj)
   rw[Nat.add_assoc,e1] at h2
   exact h2
theorem Zt {L:Lk} {t:Ty} {xs:List t.den} {css:List (List Value)} (h:kw L t xs css) : ∀ u∈css.flatten,u.oneCell'=true:=by
 intro u hu
 rw[List.mem_flatten] at hu
 obtain⟨l,hl,hu⟩:=hu
 obtain⟨i,hi,rfl⟩:=List.getElem_of_mem hl
 exact nK (h.2 i (by rw[←h.1]; exact hi) hi) u hu
theorem Ng {Gp:WP} {P:Program} {g nb:Nat} {fn:Func} {e:TypeId} {t:Ty} {own:List Bool} {live:List (Nat×List Nat)} (hsz:0 < t.sz) (hnb:0 < nb)
  (hnil : ∀(n c:Nat) (w:World),Calls P g #[.slice none n c] w fun e w'=>e = .returned (.slice none 0 0)∧w'=w)
  (hcl : ∀(a:Addr) (n c:Nat) (news:List Value) (w:World),news.length=n*t.sz→n≤maxLen→n*nb≤140737488355328→(∀ j u,news[j]? = some u→w.cell? (a.add j)=some u)→(∀ u∈news,u.oneCell'=true) →
   Calls P g #[.slice (some a) n c] w fun e' w' => ∃ v',e' = .returned v'∧w'.ownsRow w.heap.size e t.sz v' n news∧v' ≠ .slice none 0 0∧Below w.heap.size w w') :
  ∀(args:List SV) (tab:aM) (z:(Sh.pair (.row e t false) .unit).den×Sh.unit.den),cP e t nb args tab=some z→eA Gp P {g:=g,fn:=fn,sh := .pair (.row e t false) .unit,bx := .unit,own:=own,live:=live,prim:=some (cP e t nb)} args tab z:=by
 intro args tab z hz
 unfold cP at hz
 split at hz
 ·rename_i s xs
  rw[am_] at hz
  obtain⟨xs',hxs,hz⟩:=hz
  obtain⟨rfl,hxs⟩:=jm hxs
  have hxs:xs=xs':=hxs
  subst hxs
  split at hz
  ·rename_i hlen
   cases hz
   intro hcanon w γ Pr us _ hI hlim N hN vs u n bs u' n' ub hm1 hm2 hub
   cases hm1
   cases hm2
   cases hub
   have hsl:=hI.slots
   cases hsl with
   | cons h1 hk =>
   cases hk
   cases h1 with
   | val h1 =>
   obtain⟨A,cap,rfl,hcap,hA⟩:=h1
   obtain⟨css,hE,hcells⟩:=PN (L:=Ln Pr w) (e:=e) (t:=t) (xs:=xs) (A:=A) (n:=(xs:List t.den).length) (cap:=cap) ⟨A,cap,rfl,hcap,hA⟩ hsz
   have iC : ∀(v:Value) (w':World),Below w.heap.size w w'→w'.ownsRow w.heap.size e t.sz v (xs:List t.den).length css.flatten→wZ w (nj [] γ) γ Pr N (N+1) [.row N] [] [(N,some (.row e t xs false))] [v] (fun r=>if r=N then some (.row e t v) else none) Pr w':=by
    intro v w' hB hrow
    have hnew : ∀ r x,l9 [(N,some (bh.row e t xs false))] r=some x→r=N∧x = .row e t xs false:=by
     intro r x h
     have h':(if r=N then some (bh.row e t xs false) else none)=some x:=h
     by_cases hr:r=N
     ·rw[af_ hr] at h'
      exact⟨hr,(cb_ h').symm⟩
     ·rw[ad_ hr] at h'
      cases h'
    have hblk : ∀ b,bv (fun r=>if r=N then some (G.row e t v) else none) N (.row e t xs false)=some b→w.heap.size≤b:=by
     intro b hb
     have:v.ownBlock=some b:=by simpa[bv] using hb
     exact(hrow.lt b this).1
    refine⟨.cons (.row (af_ rfl)) .nil,?_,?_,?_,?_,?_,?_,?_,?_,?_,hB.size,hB.os,hB.tape,hB.output,?_,?_,?_⟩
    ·intro r g hr
     by_cases h:r=N
     ·rw[af_ h] at hr
      cases hr
      have : ∃ A n c,v = .slice A n c:=by
       rcases hrow.2 with⟨rfl,_⟩ | ⟨g,cap,cur,rfl,_⟩
       ·exact⟨_,_,_,rfl⟩
       ·exact⟨_,_,_,rfl⟩
      obtain⟨A,n,c,rfl⟩:=this
      exact⟨⟨by omega,by omega⟩,.inl ⟨e,t,A,n,c,rfl⟩⟩
     ·rw[ad_ h] at hr
      cases hr
    ·intro j t' c hj
     simp at hj
    ·intro r x h
     obtain⟨rfl,rfl⟩:=hnew r x h
     exact⟨aq_ _,go_ _,v,css,af_ rfl,l4 (fun b o u h=>⟨h.1,by rw[World.cell?_of_block (hB.block b (hI.prIn b o h.1))]; exact h.2⟩) hE,ab4 hrow,fun h=>by cases h⟩
    ·intro r r' x x' b h h' hne
     exact bk_ ((hnew r x h).1.trans (hnew r' x' h').1.symm) hne
    ·intro j t' c b hj
     simp at hj
    ·intro j t' c b hj
     simp at hj
    ·intro r x b h hb o ho
     obtain⟨rfl,rfl⟩:=hnew r x h
     have:=hblk b hb
     have:=hI.prIn b o ho
     omega
    ·intro r x b h hb
     obtain⟨rfl,rfl⟩:=hnew r x h
     exact .inr (hblk b hb)
    ·exact fun k hk _=>hB.block k hk
    ·exact fun b o ho=>cl_ (hI.prIn b o ho) hB.size
    ·exact fun b hb hx o ho=>ho
    ·intro b o v' hv'
     refine⟨hv'.1,?_⟩
     rw[World.cell?_of_block (hB.block b (hI.prIn b o hv'.1))]
     exact hv'.2
   have hmax:(xs:List t.den).length≤maxLen:=by
    have h1:(xs:List t.den).length*1≤(xs:List t.den).length*nb:=Nat.mul_le_mul_left _ hnb
    simp only[maxLen]
    omega
   cases A with
   | none =>
    have hx0:(xs:List t.den)=[]:=by
     rcases List.eq_nil_or_concat (xs:List t.den) with h | ⟨_,_,h⟩
     ·exact h
     ·obtain⟨b,o,hh,_⟩:=hA (by rw[h]; simp)
      cases hh
    subst hx0
    refine(hnil 0 cap w).mono ?_
    rintro e' w' ⟨rfl,rfl⟩
    refine⟨[.slice none 0 0],_,Pr,rfl,iC _ _ (Below.refl _ _) ?_,fun p hp=>by have hp':p∈([]:List (Nat×Nat)):=hp; cases hp'⟩
    have:css=[]:=ce_ hE.1
    rw[this]
    exact World.ownsRow_nil _ _ _ _
   | some a =>
    refine(hcl a (xs:List t.den).length cap css.flatten w hE.flat hmax hlen ?_ (Zt hE)).mono ?_
    ·intro j u hj
     have hjl:j < (xs:List t.den).length*t.sz:=by
      rw[←hE.flat]
      exact(ax_.1 hj).1
     have hne:(xs:List t.den)≠[]:=by
      intro h
      rw[h] at hjl
      simp at hjl
     obtain⟨b,o,hab,hc⟩:=hcells hne
     cases hab
     rw[gI]
     exact(hc j u hj).2
    ·rintro e' w' ⟨v',rfl,hrow,_,hB⟩
     exact⟨[v'],_,Pr,rfl,iC _ _ hB hrow,fun p hp=>by have hp':p∈([]:List (Nat×Nat)):=hp; cases hp'⟩
  ·cases hz
 ·cases hz
theorem xl {Gp:WP} {P:Program} {g nb:Nat} {fn:Func} {e:TypeId} {t:Ty} {own:List Bool} {live:List (Nat×List Nat)} (hn:c8 t=true) (hsz:0 < t.sz) (hnb:0 < nb)
  (hnil : ∀(n c:Nat) (w:World),Calls P g #[.slice none n c] w fun e w'=>e = .returned (.slice none 0 0)∧w'=w)
  (hcl : ∀(a:Addr) (n c:Nat) (news:List Value) (w:World),news.length=n*t.sz→n≤maxLen→n*nb≤140737488355328→(∀ j u,news[j]? = some u→w.cell? (a.add j)=some u)→(∀ u∈news,u.oneCell'=true) →
   Calls P g #[.slice (some a) n c] w fun e' w' => ∃ v',e' = .returned v'∧w'.ownsRow w.heap.size e t.sz v' n news∧v' ≠ .slice none 0 0∧Below w.heap.size w w') :
  ∀(args:List SV) (tab:aM) (z:(Sh.pair (.row e t false) .unit).den×Sh.unit.den),cP e t nb args tab=some z→eA Gp P {g:=g,fn:=fn,sh := .pair (.row e t false) .unit,bx := .unit,own:=own,live:=live,prim:=some (cP e t nb)} args tab z:=Ng hsz hnb hnil hcl
end Go.Proofs.YthbkdfcmjmmpgaaGreatDoor.Abs
namespace Go.Proofs
open Go.Shelf Go.RowKit Go.Lib Go.Sort
def Tryz.cmpInt64_ren:Go.Shelf.Ren:=⟨fun | 5=>63 | 7=>104 | n=>n,fun | 22=>2 | 3=>3 | 4=>4 | n=>n,fun | n=>n⟩
theorem Tryz.cmpInt64:Go.Proofs.SlLaysC2.n5 Tryz.prog Tryz.cmpInt64_ren:={
 mixed:=by kernel_rfl
 f5:=⟨Tryz.f63.name,by decide,Tryz.func63.trans (an_ some (by kernel_rfl))⟩
 f7:=⟨Tryz.f104.name,by decide,Tryz.func104.trans (an_ some (by kernel_rfl))⟩
 t3:=Tryz.underlying3
 a3:=Tryz.isAgg3
 z3:=Tryz.sizeOf3
 v3:=Tryz.zeroValue3
 t4:=Tryz.underlying4
 a4:=Tryz.isAgg4
 z4:=Tryz.sizeOf4
 v4:=Tryz.zeroValue4
 t22:=Tryz.underlying2
 a22:=Tryz.isAgg2
 z22:=Tryz.sizeOf2
 v22:=Tryz.zeroValue2}
def YthbkdfcmjmmpgaaGreatDoor.Abs.orI (x y:Int):Int:=if x=0 then y else x
set_option maxHeartbeats 1000000 in
theorem YthbkdfcmjmmpgaaGreatDoor.Abs.or2 (b:Nat) (x y:Int) (W:World) (h0:W.cell? ⟨b,0,none⟩=some (.int .i64 x)) (h1:W.cell? ⟨b,1,none⟩=some (.int .i64 y)):Calls Tryz.prog 62 #[.slice (some ⟨b,0,none⟩) 2 2] W fun e w'=>e = .returned (.int .i64 (YthbkdfcmjmmpgaaGreatDoor.Abs.orI x y))∧w'=W:=by
 show Calls _ _ _ _ fun e w'=>e = .returned (.int .i64 (if x=0 then y else x))∧w'=W
 go_enter Tryz.func62,Tryz.ntmps62
 go_wp2
 go_rounds 3
 all_goals (try (go_ret; refine⟨?_,rfl⟩; simp_all; done))
theorem YthbkdfcmjmmpgaaGreatDoor.Abs.cell2 (W:World) (x y:Value) (T:TypeId):(W.alloc (.cells #[x,y] T)).cell? ⟨W.heap.size,0,none⟩=some x∧(W.alloc (.cells #[x,y] T)).cell? ⟨W.heap.size,1,none⟩=some y:=by
 rw[World.cell?_alloc_at _ _ _ _ rfl,World.cell?_alloc_at _ _ _ _ rfl]
 exact⟨rfl,rfl⟩
theorem YthbkdfcmjmmpgaaGreatDoor.Abs.grow3 (W:World) (o1 o2 o3:Obj):((W.alloc o1).alloc o2).drew.alloc o3=grow (W.drewN 1) (#[o1] ++ #[o2] ++ #[o3]):=by
 rw[alloc_eq_grow,alloc_eq_grow,alloc_eq_grow,grow_grow]
 show grow (grow (W.drewN 1) (#[o1] ++ #[o2])) #[o3]=_
 rw[grow_grow]
set_option maxRecDepth 100000 in
set_option maxHeartbeats 2000000 in
theorem YthbkdfcmjmmpgaaGreatDoor.Abs.cmpRefs (a1 a2 b1 b2:Int) (W:World):Calls Tryz.prog 32 #[.agg #[.int .i64 a1,.int .i64 a2],.agg #[.int .i64 b1,.int .i64 b2]] W fun e w'=>e = .returned (.int .i64 (YthbkdfcmjmmpgaaGreatDoor.Abs.orI (dt_ a2 b2) (dt_ a1 b1))) ∧ ∃ q os',w'=grow (W.drewN q) os':=by
 have hcon:=fun(x y:Int) W'=>AnyG.cmp_Compare_int Tryz.cmpInt64 x y W'
 change ∀(x y:Int) W',Calls Tryz.prog 63 _ _ _ at hcon
 have hor:=YthbkdfcmjmmpgaaGreatDoor.Abs.or2
 go_enter Tryz.func32,Tryz.ntmps32
 go_wp2_with (first | (go_at_call 63; refine(hcon _ _ _).mono ?_; rintro e w' ⟨rfl,rfl⟩) | (go_at_call 62; refine(hor _ _ _ _ ?_ ?_).mono ?_))
 refine wp_region_still_tail 10 (by kernel_rfl) (by kernel_rfl) ?_
 change wpStill _ _ (World.drew _) (fun a'=>wpList _ _ _ _ a' (World.drew _)) _ _
 simp only[List.take_succ_cons,List.take_zero,List.drop_succ_cons,List.drop_zero]
 iterate 4 still_step
 still_call (hcon _ _ _)
 iterate 4 still_step
 still_call (hcon _ _ _)
 refine wpStill_nil ?_
 generalize hw2:World.drew _=w2
 go_wp2_with (go_at_call 62; refine(hor _ _ _ _ (YthbkdfcmjmmpgaaGreatDoor.Abs.cell2 _ _ _ _).1 (YthbkdfcmjmmpgaaGreatDoor.Abs.cell2 _ _ _ _).2).mono ?_; rintro e w' ⟨rfl,rfl⟩)
 go_ret
 subst hw2
 exact⟨rfl,1,_,YthbkdfcmjmmpgaaGreatDoor.Abs.grow3 _ _ _ _⟩
end Go.Proofs
namespace Go.Proofs
open Go.Shelf Go.RowKit Go.Lib Go.Sort
def Tryz.clCell_ren:Go.Shelf.Ren:=⟨fun | 41=>26 | n=>n,fun | 22=>24 | 23=>61 | 4=>4 | n=>n,fun | n=>n⟩
theorem Tryz.clCell:Go.Proofs.SlLaysE0.n41 Tryz.prog Tryz.clCell_ren:={
 mixed:=by kernel_rfl
 f41:=⟨Tryz.f26.name,by decide,Tryz.func26.trans (an_ some (by kernel_rfl))⟩
 t4:=Tryz.underlying4
 a4:=Tryz.isAgg4
 z4:=Tryz.sizeOf4
 v4:=Tryz.zeroValue4
 t22:=Tryz.underlying24
 a22:=Tryz.isAgg24
 z22:=Tryz.sizeOf24
 v22:=Tryz.zeroValue24}
def Tryz.sortCell_ren:Go.Shelf.Ren:=⟨fun | 6=>78 | 15=>124 | 14=>123 | 28=>182 | 29=>183 | 20=>174 | 21=>175 | 22=>176 | 23=>177 | 24=>178 | 25=>179 | 26=>180 | 27=>181 | 46=>247 | 47=>248 | 48=>249 | 49=>250 | 50=>251 | 57=>311 | n=>n,fun | 22=>24 | 24=>61 | 25=>123 | 3=>3 | 39=>139 | 0=>0 | 53=>207 | 55=>137 | 4=>4 | 46=>200 | 45=>199 | 50=>204 | 5=>5 | 9=>9 | 66=>249 | 70=>252 | 76=>293 | 77=>294 | n=>n,fun | n=>n⟩
theorem Tryz.sortCell:Go.Proofs.SlLaysF0.n6 Tryz.prog Tryz.sortCell_ren:={
 mixed:=by kernel_rfl
 f6:=⟨Tryz.f78.name,by decide,Tryz.func78.trans (an_ some (by kernel_rfl))⟩
 f14:=⟨Tryz.f123.name,by decide,Tryz.func123.trans (an_ some (by kernel_rfl))⟩
 f15:=Tryz.func124.trans (an_ some (by kernel_rfl))
 f20:=⟨Tryz.f174.name,by decide,Tryz.func174.trans (an_ some (by kernel_rfl))⟩
 f21:=⟨Tryz.f175.name,by decide,Tryz.func175.trans (an_ some (by kernel_rfl))⟩
 f22:=⟨Tryz.f176.name,by decide,Tryz.func176.trans (an_ some (by kernel_rfl))⟩
 f23:=⟨Tryz.f177.name,by decide,Tryz.func177.trans (an_ some (by kernel_rfl))⟩
 f24:=⟨Tryz.f178.name,by decide,Tryz.func178.trans (an_ some (by kernel_rfl))⟩
 f25:=⟨Tryz.f179.name,by decide,Tryz.func179.trans (an_ some (by kernel_rfl))⟩
 f26:=⟨Tryz.f180.name,by decide,Tryz.func180.trans (an_ some (by kernel_rfl))⟩
 f27:=⟨Tryz.f181.name,by decide,Tryz.func181.trans (an_ some (by kernel_rfl))⟩
 f28:=Tryz.func182.trans (an_ some (by kernel_rfl))
 f29:=Tryz.func183.trans (an_ some (by kernel_rfl))
 f46:=⟨Tryz.f247.name,by decide,Tryz.func247.trans (an_ some (by kernel_rfl))⟩
 f47:=Tryz.func248.trans (an_ some (by kernel_rfl))
 f48:=Tryz.func249.trans (an_ some (by kernel_rfl))
 f49:=⟨Tryz.f250.name,by decide,Tryz.func250.trans (an_ some (by kernel_rfl))⟩
 f50:=⟨Tryz.f251.name,by decide,Tryz.func251.trans (an_ some (by kernel_rfl))⟩
 f57:=⟨Tryz.f311.name,by decide,Tryz.func311.trans (an_ some (by kernel_rfl))⟩
 t0:=Tryz.underlying0
 a0:=Tryz.isAgg0
 z0:=Tryz.sizeOf0
 v0:=Tryz.zeroValue0
 t3:=Tryz.underlying3
 a3:=Tryz.isAgg3
 z3:=Tryz.sizeOf3
 v3:=Tryz.zeroValue3
 t4:=Tryz.underlying4
 a4:=Tryz.isAgg4
 z4:=Tryz.sizeOf4
 v4:=Tryz.zeroValue4
 t5:=Tryz.underlying5
 a5:=Tryz.isAgg5
 z5:=Tryz.sizeOf5
 v5:=Tryz.zeroValue5
 t9:=Tryz.underlying9
 a9:=Tryz.isAgg9
 z9:=Tryz.sizeOf9
 v9:=Tryz.zeroValue9
 t22:=Tryz.underlying24
 a22:=Tryz.isAgg24
 z22:=Tryz.sizeOf24
 v22:=Tryz.zeroValue24
 t25:=Tryz.underlying123
 a25:=Tryz.isAgg123
 z25:=Tryz.sizeOf123
 v25:=Tryz.zeroValue123
 t39:=Tryz.underlying139
 a39:=Tryz.isAgg139
 z39:=Tryz.sizeOf139
 v39:=Tryz.zeroValue139
 t45:=Tryz.underlying199
 a45:=Tryz.isAgg199
 z45:=Tryz.sizeOf199
 v45:=Tryz.zeroValue199
 t46:=Tryz.underlying200
 a46:=Tryz.isAgg200
 z46:=Tryz.sizeOf200
 v46:=Tryz.zeroValue200
 t50:=Tryz.underlying204
 a50:=Tryz.isAgg204
 z50:=Tryz.sizeOf204
 v50:=Tryz.zeroValue204
 t53:=Tryz.underlying207
 a53:=Tryz.isAgg207
 z53:=Tryz.sizeOf207
 v53:=Tryz.zeroValue207
 t55:=Tryz.underlying137
 a55:=Tryz.isAgg137
 z55:=Tryz.sizeOf137
 v55:=Tryz.zeroValue137
 t66:=Tryz.underlying249
 a66:=Tryz.isAgg249
 z66:=Tryz.sizeOf249
 v66:=Tryz.zeroValue249
 t70:=Tryz.underlying252
 a70:=Tryz.isAgg252
 z70:=Tryz.sizeOf252
 v70:=Tryz.zeroValue252
 t76:=Tryz.underlying293
 a76:=Tryz.isAgg293
 z76:=Tryz.sizeOf293
 v76:=Tryz.zeroValue293
 t77:=Tryz.underlying294
 a77:=Tryz.isAgg294
 z77:=Tryz.sizeOf294
 v77:=Tryz.zeroValue294}
set_option maxHeartbeats 1000000 in
theorem YthbkdfcmjmmpgaaGreatDoor.Abs.closureCell (a1 a2 b1 b2:Int) (s t:aa_) (W:World):Calls Tryz.prog 79 #[.agg #[.int .i64 a1,.int .i64 a2,.string s],.agg #[.int .i64 b1,.int .i64 b2,.string t]] W fun e w'=>e = .returned (.int .i64 (YthbkdfcmjmmpgaaGreatDoor.Abs.orI (dt_ a2 b2) (dt_ a1 b1))) ∧ ∃ q os',w'=grow (W.drewN q) os':=by
 have hcon:=fun W'=>YthbkdfcmjmmpgaaGreatDoor.Abs.cmpRefs a1 a2 b1 b2 W'
 generalize YthbkdfcmjmmpgaaGreatDoor.Abs.orI (dt_ a2 b2) (dt_ a1 b1)=r at hcon ⊢
 go_enter Tryz.func79,Tryz.ntmps79
 go_wp2_with (go_at_call 32; refine(hcon _).mono ?_; rintro e w' ⟨rfl,q,os',rfl⟩)
 go_ret
 exact⟨rfl,q,_,by rw[alloc_eq_grow,alloc_eq_grow,grow_grow]; show grow (grow (W.drewN q) _) os'=_; exact grow_grow _ _ _⟩
def Tryz.sortRef_ren:Go.Shelf.Ren:=⟨fun | 6=>102 | 15=>124 | 14=>148 | 28=>182 | 29=>183 | 20=>220 | 21=>221 | 22=>222 | 23=>223 | 24=>224 | 25=>225 | 26=>226 | 27=>227 | 46=>288 | 47=>248 | 48=>249 | 49=>289 | 50=>290 | 57=>318 | n=>n,fun | 22=>32 | 24=>39 | 25=>70 | 3=>3 | 39=>139 | 0=>0 | 53=>207 | 55=>137 | 4=>4 | 46=>200 | 45=>199 | 50=>204 | 5=>5 | 9=>9 | 66=>249 | 70=>252 | 76=>293 | 77=>294 | n=>n,fun | n=>n⟩
theorem Tryz.sortRef:Go.Proofs.SlLaysF0.n6 Tryz.prog Tryz.sortRef_ren:={
 mixed:=by kernel_rfl
 f6:=⟨Tryz.f102.name,by decide,Tryz.func102.trans (an_ some (by kernel_rfl))⟩
 f14:=⟨Tryz.f148.name,by decide,Tryz.func148.trans (an_ some (by kernel_rfl))⟩
 f15:=Tryz.func124.trans (an_ some (by kernel_rfl))
 f20:=⟨Tryz.f220.name,by decide,Tryz.func220.trans (an_ some (by kernel_rfl))⟩
 f21:=⟨Tryz.f221.name,by decide,Tryz.func221.trans (an_ some (by kernel_rfl))⟩
 f22:=⟨Tryz.f222.name,by decide,Tryz.func222.trans (an_ some (by kernel_rfl))⟩
 f23:=⟨Tryz.f223.name,by decide,Tryz.func223.trans (an_ some (by kernel_rfl))⟩
 f24:=⟨Tryz.f224.name,by decide,Tryz.func224.trans (an_ some (by kernel_rfl))⟩
 f25:=⟨Tryz.f225.name,by decide,Tryz.func225.trans (an_ some (by kernel_rfl))⟩
 f26:=⟨Tryz.f226.name,by decide,Tryz.func226.trans (an_ some (by kernel_rfl))⟩
 f27:=⟨Tryz.f227.name,by decide,Tryz.func227.trans (an_ some (by kernel_rfl))⟩
 f28:=Tryz.func182.trans (an_ some (by kernel_rfl))
 f29:=Tryz.func183.trans (an_ some (by kernel_rfl))
 f46:=⟨Tryz.f288.name,by decide,Tryz.func288.trans (an_ some (by kernel_rfl))⟩
 f47:=Tryz.func248.trans (an_ some (by kernel_rfl))
 f48:=Tryz.func249.trans (an_ some (by kernel_rfl))
 f49:=⟨Tryz.f289.name,by decide,Tryz.func289.trans (an_ some (by kernel_rfl))⟩
 f50:=⟨Tryz.f290.name,by decide,Tryz.func290.trans (an_ some (by kernel_rfl))⟩
 f57:=⟨Tryz.f318.name,by decide,Tryz.func318.trans (an_ some (by kernel_rfl))⟩
 t0:=Tryz.underlying0
 a0:=Tryz.isAgg0
 z0:=Tryz.sizeOf0
 v0:=Tryz.zeroValue0
 t3:=Tryz.underlying3
 a3:=Tryz.isAgg3
 z3:=Tryz.sizeOf3
 v3:=Tryz.zeroValue3
 t4:=Tryz.underlying4
 a4:=Tryz.isAgg4
 z4:=Tryz.sizeOf4
 v4:=Tryz.zeroValue4
 t5:=Tryz.underlying5
 a5:=Tryz.isAgg5
 z5:=Tryz.sizeOf5
 v5:=Tryz.zeroValue5
 t9:=Tryz.underlying9
 a9:=Tryz.isAgg9
 z9:=Tryz.sizeOf9
 v9:=Tryz.zeroValue9
 t22:=Tryz.underlying32
 a22:=Tryz.isAgg32
 z22:=Tryz.sizeOf32
 v22:=Tryz.zeroValue32
 t25:=Tryz.underlying70
 a25:=Tryz.isAgg70
 z25:=Tryz.sizeOf70
 v25:=Tryz.zeroValue70
 t39:=Tryz.underlying139
 a39:=Tryz.isAgg139
 z39:=Tryz.sizeOf139
 v39:=Tryz.zeroValue139
 t45:=Tryz.underlying199
 a45:=Tryz.isAgg199
 z45:=Tryz.sizeOf199
 v45:=Tryz.zeroValue199
 t46:=Tryz.underlying200
 a46:=Tryz.isAgg200
 z46:=Tryz.sizeOf200
 v46:=Tryz.zeroValue200
 t50:=Tryz.underlying204
 a50:=Tryz.isAgg204
 z50:=Tryz.sizeOf204
 v50:=Tryz.zeroValue204
 t53:=Tryz.underlying207
 a53:=Tryz.isAgg207
 z53:=Tryz.sizeOf207
 v53:=Tryz.zeroValue207
 t55:=Tryz.underlying137
 a55:=Tryz.isAgg137
 z55:=Tryz.sizeOf137
 v55:=Tryz.zeroValue137
 t66:=Tryz.underlying249
 a66:=Tryz.isAgg249
 z66:=Tryz.sizeOf249
 v66:=Tryz.zeroValue249
 t70:=Tryz.underlying252
 a70:=Tryz.isAgg252
 z70:=Tryz.sizeOf252
 v70:=Tryz.zeroValue252
 t76:=Tryz.underlying293
 a76:=Tryz.isAgg293
 z76:=Tryz.sizeOf293
 v76:=Tryz.zeroValue293
 t77:=Tryz.underlying294
 a77:=Tryz.isAgg294
 z77:=Tryz.sizeOf294
 v77:=Tryz.zeroValue294}
end Go.Proofs
namespace Go.Proofs.YthbkdfcmjmmpgaaGreatDoor.Abs
open Go Go.Shelf Go.RowKit Go.Lib Go.Sort
theorem Vd (a1 a2 b1 b2:Int):decide (orI (dt_ a2 b2) (dt_ a1 b1) < 0)=(decide (a2 < b2) || (decide (a2=b2) && decide (a1 < b1))):=by
 unfold orI dt_
 by_cases h1:a2 < b2
 ·simp[h1]
 ·by_cases h2:b2 < a2
  ·have : ¬a2=b2:=by omega
   simp[h1,h2,this]
  ·have:a2=b2:=by omega
   by_cases h3:a1 < b1
   ·simp[h1,h2,h3,this]
   ·by_cases h4:b1 < a1
    ·simp[h1,h2,h3,h4,this]
    ·simp[h1,h2,h3,h4,this]
def xm (a1 a2 b1 b2:Int):Bool:=decide (a2 < b2) || (decide (a2=b2) && decide (a1 < b1))
theorem Nh (a1 a2:Int):xm a1 a2 a1 a2=false:=by simp[xm]
theorem GO {a1 a2 b1 b2 c1 c2:Int} (h:xm a1 a2 b1 b2=true) (k:xm b1 b2 c1 c2=true):xm a1 a2 c1 c2=true:=by
 simp only[xm,Bool.or_eq_true,Bool.and_eq_true,decide_eq_true_eq] at *
 omega
theorem Ek {a1 a2 b1 b2 c1 c2:Int} (h:xm a1 a2 b1 b2=false) (k:xm b1 b2 c1 c2=false):xm a1 a2 c1 c2=false:=by
 simp only[xm,Bool.or_eq_false_iff,Bool.and_eq_false_iff,decide_eq_false_iff_not] at *
 omega
set_option maxRecDepth 100000 in
theorem SO {Gp:WP} : ∀(args:List SV) (tab:aM) (z:eC.sh.den×eC.bx.den),cP 61 av 32 args tab=some z→eA Gp Tryz.prog eC args tab z:=by
 refine xl (P:=Tryz.prog) (g:=26) (nb:=32) (fn:=Tryz.f26) (e:=61) (t:=av) (own:=[]) (live:=[]) rfl (by decide) (by decide) ?_ ?_
 ·exact fun n c w=>AnyE.slices_Clone_nil Tryz.clCell n c w
 ·exact fun a n c news w h1 h2 h3 h4 h5=>clone_any Tryz.clCell _ _ 3 32 rfl rfl (by kernel_rfl) (by kernel_rfl) (by kernel_rfl) (by decide) Tryz.sizeOf61 a n c news w h1 h2 h3 h4 h5
def cfC (x y:av.den):Int:=orI (dt_ x.1.2.1 y.1.2.1) (dt_ x.1.1 y.1.1)
def GP (a b:av.den):Bool:=decide (a.1.2.1 < b.1.2.1) || (decide (a.1.2.1=b.1.2.1) && decide (a.1.1 < b.1.1))
theorem Kq:ltOf cfC=GP:=by
 funext x y
 exact Vd x.1.1 x.1.2.1 y.1.1 y.1.2.1
theorem Ni:Sort.SWO (α:=av.den) GP where
 irrefl x:=Nh x.1.1 x.1.2.1
 trans x y z h k:=GO (a1:=x.1.1) (a2:=x.1.2.1) (b1:=y.1.1) (b2:=y.1.2.1) (c1:=z.1.1) (c2:=z.1.2.1) h k
 ntrans x y z h k:=Ek (a1:=x.1.1) (a2:=x.1.2.1) (b1:=y.1.1) (b2:=y.1.2.1) (c1:=z.1.1) (c2:=z.1.2.1) h k
theorem Nj (bv off size:Nat) (w:World):CmpLays Tryz.prog 79 #[] (fZ av) 3 cfC bv off size w :=
 fun _ _ _ _ x y=>closureCell x.1.1 x.1.2.1 y.1.1 y.1.2.1 x.2.1 y.2.1 _
set_option maxRecDepth 100000 in
theorem GQ {Gp:WP} : ∀(args:List SV) (tab:aM) (z:Sh.unit.den×(Sh.pair (.row 61 av false) .unit).den),gX 61 av 79 GP args tab=some z→eA Gp Tryz.prog {g:=78,fn:=Tryz.f78,sh := .unit,bx := .pair (.row 61 av false) .unit,own:=[true,false],live:=[],rb:=true,prim:=some (gX 61 av 79 GP)} args tab z:=by
 refine GN (P:=Tryz.prog) (g:=78) (gc:=79) (fn:=Tryz.f78) (e:=61) (t:=av) (own:=[true,false]) (live:=[]) rfl (by decide) Ni ?_ ?_
 ·intro bv cap d w hH hblk hsz
  have eg : ∀ args w,(callFunc 79 args).run Tryz.prog w = .ok (.enter 79 args) w:=enters_of Tryz.func79 (by kernel_rfl) rfl
  have h:=AnyQ.slices_SortFunc_eq Tryz.sortCell 3 Tryz.isAgg61 Tryz.sizeOf61 (fZ av) (fun x=>Dv rfl x) (fun x=>QU rfl x) cfC (by rw[Kq]; exact Ni) 79 #[] bv 0 cap d w eg (Nj bv 0 d.size w) hH hblk hsz
  rw[Kq] at h
  exact h
 ·exact fun p cap fv w=>AnyF.slices_SortFunc_none {Tryz.sortCell with} p cap fv w
def cfR (x y:ak.den):Int:=orI (dt_ x.2.1 y.2.1) (dt_ x.1 y.1)
def SP (a b:ak.den):Bool:=decide (a.2.1 < b.2.1) || (decide (a.2.1=b.2.1) && decide (a.1 < b.1))
theorem Nk:ltOf cfR=SP:=by
 funext x y
 exact Vd x.1 x.2.1 y.1 y.2.1
theorem Ri:Sort.SWO (α:=ak.den) SP where
 irrefl x:=Nh x.1 x.2.1
 trans x y z h k:=GO (a1:=x.1) (a2:=x.2.1) (b1:=y.1) (b2:=y.2.1) (c1:=z.1) (c2:=z.2.1) h k
 ntrans x y z h k:=Ek (a1:=x.1) (a2:=x.2.1) (b1:=y.1) (b2:=y.2.1) (c1:=z.1) (c2:=z.2.1) h k
theorem PO (bv off size:Nat) (w:World):CmpLays Tryz.prog 32 #[] (fZ ak) 2 cfR bv off size w :=
 fun _ _ _ _ x y=>cmpRefs x.1 x.2.1 y.1 y.2.1 _
set_option maxRecDepth 100000 in
theorem Iz {Gp:WP} : ∀(args:List SV) (tab:aM) (z:dI.sh.den×dI.bx.den),gX 39 ak 32 SP args tab=some z→eA Gp Tryz.prog dI args tab z:=by
 refine GN (P:=Tryz.prog) (g:=102) (gc:=32) (fn:=Tryz.f102) (e:=39) (t:=ak) (own:=[true,false]) (live:=[]) rfl (by decide) Ri ?_ ?_
 ·intro bv cap d w hH hblk hsz
  have eg : ∀ args w,(callFunc 32 args).run Tryz.prog w = .ok (.enter 32 args) w:=enters_of Tryz.func32 (by kernel_rfl) rfl
  have h:=AnyQ.slices_SortFunc_eq Tryz.sortRef 2 Tryz.isAgg39 Tryz.sizeOf39 (fZ ak) (fun x=>Dv rfl x) (fun x=>QU rfl x) cfR (by rw[Nk]; exact Ri) 32 #[] bv 0 cap d w eg (PO bv 0 d.size w) hH hblk hsz
  rw[Nk] at h
  exact h
 ·exact fun p cap fv w=>AnyF.slices_SortFunc_none {Tryz.sortRef with} p cap fv w
end Go.Proofs.YthbkdfcmjmmpgaaGreatDoor.Abs
namespace Go.Proofs
open Go.Shelf Go.RowKit Go.Lib
def Tryz.layParseInt_ren:Go.Shelf.Ren:=⟨fun | 174=>70 | 247=>114 | 245=>115 | 287=>160 | 279=>161 | 280=>162 | 281=>163 | 282=>164 | 321=>234 | 322=>235 | 316=>236 | 171=>238 | 205=>237 | 243=>303 | 246=>173 | 283=>243 | 284=>244 | 285=>245 | 286=>246 | 129=>183 | 317=>307 | 318=>308 | 319=>309 | 320=>310 | 337=>331 | 338=>332 | n=>n,fun | 9=>9 | 3=>3 | 2=>2 | 75=>113 | 85=>114 | 4=>4 | 167=>185 | 5=>5 | 53=>137 | 175=>186 | 46=>139 | 168=>188 | 37=>22 | 0=>0 | 210=>239 | 21=>21 | 127=>285 | 145=>288 | 143=>286 | 171=>245 | 173=>247 | 212=>291 | 51=>207 | 20=>20 | 213=>292 | 232=>316 | 233=>317 | 80=>75 | n=>n,fun | 15=>0 | 16=>1 | 17=>2 | 18=>6 | 19=>7 | n=>n⟩
theorem Tryz.layParseInt:Go.Proofs.LaysC.n174 Tryz.prog Tryz.layParseInt_ren:={
 mixed:=by kernel_rfl
 f129:=Tryz.func183.trans (an_ some (by kernel_rfl))
 f171:=Tryz.func238.trans (an_ some (by kernel_rfl))
 f174:=Tryz.func70.trans (an_ some (by kernel_rfl))
 f205:=Tryz.func237.trans (an_ some (by kernel_rfl))
 f243:=Tryz.func303.trans (an_ some (by kernel_rfl))
 f245:=Tryz.func115.trans (an_ some (by kernel_rfl))
 f246:=Tryz.func173.trans (an_ some (by kernel_rfl))
 f247:=Tryz.func114.trans (an_ some (by kernel_rfl))
 f279:=Tryz.func161.trans (an_ some (by kernel_rfl))
 f280:=Tryz.func162.trans (an_ some (by kernel_rfl))
 f281:=Tryz.func163.trans (an_ some (by kernel_rfl))
 f282:=Tryz.func164.trans (an_ some (by kernel_rfl))
 f283:=Tryz.func243.trans (an_ some (by kernel_rfl))
 f284:=Tryz.func244.trans (an_ some (by kernel_rfl))
 f285:=Tryz.func245.trans (an_ some (by kernel_rfl))
 f286:=Tryz.func246.trans (an_ some (by kernel_rfl))
 f287:=Tryz.func160.trans (an_ some (by kernel_rfl))
 f316:=Tryz.func236.trans (an_ some (by kernel_rfl))
 f317:=Tryz.func307.trans (an_ some (by kernel_rfl))
 f318:=Tryz.func308.trans (an_ some (by kernel_rfl))
 f319:=Tryz.func309.trans (an_ some (by kernel_rfl))
 f320:=Tryz.func310.trans (an_ some (by kernel_rfl))
 f321:=Tryz.func234.trans (an_ some (by kernel_rfl))
 f322:=Tryz.func235.trans (an_ some (by kernel_rfl))
 f337:=Tryz.func331.trans (an_ some (by kernel_rfl))
 f338:=Tryz.func332.trans (an_ some (by kernel_rfl))
 t0:=Tryz.underlying0
 a0:=Tryz.isAgg0
 z0:=Tryz.sizeOf0
 v0:=Tryz.zeroValue0
 t2:=Tryz.underlying2
 a2:=Tryz.isAgg2
 z2:=Tryz.sizeOf2
 v2:=Tryz.zeroValue2
 t3:=Tryz.underlying3
 a3:=Tryz.isAgg3
 z3:=Tryz.sizeOf3
 v3:=Tryz.zeroValue3
 t4:=Tryz.underlying4
 a4:=Tryz.isAgg4
 z4:=Tryz.sizeOf4
 v4:=Tryz.zeroValue4
 t5:=Tryz.underlying5
 a5:=Tryz.isAgg5
 z5:=Tryz.sizeOf5
 v5:=Tryz.zeroValue5
 t9:=Tryz.underlying9
 a9:=Tryz.isAgg9
 z9:=Tryz.sizeOf9
 v9:=Tryz.zeroValue9
 t20:=Tryz.underlying20
 a20:=Tryz.isAgg20
 z20:=Tryz.sizeOf20
 v20:=Tryz.zeroValue20
 t21:=Tryz.underlying21
 a21:=Tryz.isAgg21
 z21:=Tryz.sizeOf21
 v21:=Tryz.zeroValue21
 t37:=Tryz.underlying22
 a37:=Tryz.isAgg22
 z37:=Tryz.sizeOf22
 v37:=Tryz.zeroValue22
 t46:=Tryz.underlying139
 a46:=Tryz.isAgg139
 z46:=Tryz.sizeOf139
 v46:=Tryz.zeroValue139
 t51:=Tryz.underlying207
 a51:=Tryz.isAgg207
 z51:=Tryz.sizeOf207
 v51:=Tryz.zeroValue207
 t53:=Tryz.underlying137
 a53:=Tryz.isAgg137
 z53:=Tryz.sizeOf137
 v53:=Tryz.zeroValue137
 t75:=Tryz.underlying113
 a75:=Tryz.isAgg113
 z75:=Tryz.sizeOf113
 v75:=Tryz.zeroValue113
 t85:=Tryz.underlying114
 a85:=Tryz.isAgg114
 z85:=Tryz.sizeOf114
 v85:=Tryz.zeroValue114
 t127:=Tryz.underlying285
 a127:=Tryz.isAgg285
 z127:=Tryz.sizeOf285
 v127:=Tryz.zeroValue285
 t143:=Tryz.underlying286
 a143:=Tryz.isAgg286
 z143:=Tryz.sizeOf286
 v143:=Tryz.zeroValue286
 t145:=Tryz.underlying288
 a145:=Tryz.isAgg288
 z145:=Tryz.sizeOf288
 v145:=Tryz.zeroValue288
 t167:=Tryz.underlying185
 a167:=Tryz.isAgg185
 z167:=Tryz.sizeOf185
 v167:=Tryz.zeroValue185
 t168:=Tryz.underlying188
 a168:=Tryz.isAgg188
 z168:=Tryz.sizeOf188
 v168:=Tryz.zeroValue188
 t171:=Tryz.underlying245
 a171:=Tryz.isAgg245
 z171:=Tryz.sizeOf245
 v171:=Tryz.zeroValue245
 t173:=Tryz.underlying247
 a173:=Tryz.isAgg247
 z173:=Tryz.sizeOf247
 v173:=Tryz.zeroValue247
 t175:=Tryz.underlying186
 a175:=Tryz.isAgg186
 z175:=Tryz.sizeOf186
 v175:=Tryz.zeroValue186
 t210:=Tryz.underlying239
 a210:=Tryz.isAgg239
 z210:=Tryz.sizeOf239
 v210:=Tryz.zeroValue239
 t212:=Tryz.underlying291
 a212:=Tryz.isAgg291
 z212:=Tryz.sizeOf291
 v212:=Tryz.zeroValue291
 t213:=Tryz.underlying292
 a213:=Tryz.isAgg292
 z213:=Tryz.sizeOf292
 t232:=Tryz.underlying316
 a232:=Tryz.isAgg316
 z232:=Tryz.sizeOf316
 v232:=Tryz.zeroValue316
 t233:=Tryz.underlying317
 a233:=Tryz.isAgg317
 z233:=Tryz.sizeOf317
 v233:=Tryz.zeroValue317
 g15:=by kernel_rfl
 g16:=by kernel_rfl
 g17:=by kernel_rfl
 g18:=by kernel_rfl
 g19:=by kernel_rfl
 t80:=Tryz.underlying75
 a80:=Tryz.isAgg75
 z80:=Tryz.sizeOf75
 v80:=Tryz.zeroValue75
 i0:=by kernel_rfl
 i2:=by kernel_rfl
 i3:=by kernel_rfl
 i4:=by kernel_rfl
 i5:=by kernel_rfl
 i9:=by kernel_rfl
 i20:=by kernel_rfl
 i21:=by kernel_rfl
 i37:=by kernel_rfl
 i46:=by kernel_rfl
 i51:=by kernel_rfl
 i53:=by kernel_rfl
 i75:=by kernel_rfl
 i80:=by kernel_rfl
 i85:=by kernel_rfl
 i127:=by kernel_rfl
 i143:=by kernel_rfl
 i145:=by kernel_rfl
 i167:=by kernel_rfl
 i168:=by kernel_rfl
 i171:=by kernel_rfl
 i173:=by kernel_rfl
 i175:=by kernel_rfl
 i210:=by kernel_rfl
 i212:=by kernel_rfl
 i232:=by kernel_rfl
 i233:=by kernel_rfl
 m15:=by kernel_rfl
 m16:=by kernel_rfl
 m17:=by kernel_rfl
 m18:=by kernel_rfl
 m19:=by kernel_rfl
 c0:=by kernel_rfl
 c2:=by kernel_rfl
 c3:=by kernel_rfl
 c4:=by kernel_rfl
 c5:=by kernel_rfl
 c9:=by kernel_rfl
 c20:=by kernel_rfl
 c21:=by kernel_rfl
 c37:=by kernel_rfl
 c46:=by kernel_rfl
 c51:=by kernel_rfl
 c53:=by kernel_rfl
 c75:=by kernel_rfl
 c80:=by kernel_rfl
 c85:=by kernel_rfl
 c127:=by kernel_rfl
 c143:=by kernel_rfl
 c145:=by kernel_rfl
 c167:=by kernel_rfl
 c168:=by kernel_rfl
 c171:=by kernel_rfl
 c173:=by kernel_rfl
 c175:=by kernel_rfl
 c210:=by kernel_rfl
 c212:=by kernel_rfl
 c213:=by kernel_rfl
 c232:=by kernel_rfl
 c233:=by kernel_rfl}
end Go.Proofs
namespace Go.Proofs.YthbkdfcmjmmpgaaGreatDoor.Abs
open Go Go.Shelf Go.RowKit Go.Lib
theorem PP {l:List iI} (hm1:Gl "strconv.ErrSyntax" ∈ l) (hm2:Gl "strconv.ErrRange" ∈ l) : ∀(args:List SV) (tab:aM) (z:(Sh.pair (.val (.int .i64)) (.pair (.val .err) .unit)).den×Sh.unit.den),pX args tab=some z→eA (gt Tryz.prog l) Tryz.prog jw args tab z:=by
 intro args tab z hz
 unfold pX at hz
 split at hz
 ·rename_i s p q
  split at hz
  ·rename_i h
   cases hz
   refine kL (sh:=Sh.pair (.val (.int .i64)) (.pair (.val .err) .unit)) (fun _=>rfl) ?_ (fun _ _ h=>h.none)
   intro w Pr γ us hG hPr hu
   cases hu with
   | cons a k =>
    cases k with
    | cons b k =>
     cases k with
     | cons c k =>
      cases k
      obtain rfl:=eW a
      obtain rfl:=dW b
      obtain rfl:=dW c
      obtain⟨h,hb,hq⟩:=h
      rw[show p=(10:Int) from hb,show q=(64:Int) from hq]
      by_cases hok : ∃ v,dz_ 64 s.data.toList = .ok v
      ·obtain⟨v,hv⟩:=hok
       refine(Any.strconv_ParseInt_10_at64_ok Tryz.layParseInt s (by omega) v hv w).mono ?_
       rintro e w' ⟨rfl,hw⟩
       have hp:ct s.data.toList=(v,true):=by unfold ct; rw[hv]
       refine⟨[_,_],rfl,⟨[_],_,rfl,(by rw[hp]; rfl),[_],_,rfl,(by rw[hp]; exact .inl ⟨rfl,rfl⟩),rfl⟩,?_⟩
       rcases hw with rfl | ⟨t,rfl⟩
       ·exact Below.refl _ _
       ·exact Lib.bytesWorld_below _ _ _
      ·cases hq:dz_ 64 s.data.toList with
       | ok v=>exact bk_ ⟨v,hq⟩ hok
       | range =>
        obtain⟨⟨a',h1,tp,p,rfl⟩,_⟩:=hG _ hm2
        refine(Any.strconv_ParseInt_10_at64_range_var Tryz.layParseInt s h hq tp p w h1).mono ?_
        rintro e w' ⟨N,rfl,_,_,hB⟩
        have hp:ct s.data.toList=(Lib.intSat 64 s.data.toList,false):=by unfold ct; rw[hq]
        exact⟨[_,_],rfl,⟨[_],_,rfl,(by rw[hp]; rfl),[_],_,rfl,(by rw[hp]; exact .inr ⟨rfl,_,_,rfl⟩),rfl⟩,hB⟩
       | _ =>
        obtain⟨⟨a',h1,tp,p,rfl⟩,_⟩:=hG _ hm1
        refine(Any.strconv_ParseInt_10_at64_syntax_var Tryz.layParseInt s h hq tp p w h1).mono ?_
        rintro e w' ⟨N,rfl,_,_,hB⟩
        have hp:ct s.data.toList=(0,false):=by unfold ct; rw[hq]
        exact⟨[_,_],rfl,⟨[_],_,rfl,(by rw[hp]; rfl),[_],_,rfl,(by rw[hp]; exact .inr ⟨rfl,_,_,rfl⟩),rfl⟩,hB⟩
  ·cases hz
 ·cases hz
end Go.Proofs.YthbkdfcmjmmpgaaGreatDoor.Abs
namespace Go.Proofs
open Go.Shelf Go.RowKit Go.Lib
def Tryz.layTrim_ren:Go.Shelf.Ren:=⟨fun | 160=>117 | 232=>167 | 231=>166 | 227=>168 | 234=>170 | 233=>169 | 236=>172 | 235=>171 | 228=>239 | 271=>242 | 151=>241 | 197=>240 | 120=>306 | 152=>305 | 260=>304 | 137=>327 | 119=>328 | 224=>329 | 225=>330 | 217=>340 | 266=>342 | n=>n,fun | 9=>9 | 4=>4 | 3=>3 | 5=>5 | 117=>194 | 116=>193 | 0=>0 | 124=>197 | 21=>21 | 105=>242 | 46=>139 | 119=>306 | 139=>309 | 138=>308 | n=>n,fun | 3=>3 | 4=>4 | n=>n⟩
theorem Tryz.layTrim:Go.Proofs.Lays.n160 Tryz.prog Tryz.layTrim_ren:={
 mixed:=by kernel_rfl
 f119:=Tryz.func328.trans (an_ some (by kernel_rfl))
 f120:=Tryz.func306.trans (an_ some (by kernel_rfl))
 f137:=Tryz.func327.trans (an_ some (by kernel_rfl))
 f151:=Tryz.func241.trans (an_ some (by kernel_rfl))
 f152:=Tryz.func305.trans (an_ some (by kernel_rfl))
 f160:=Tryz.func117.trans (an_ some (by kernel_rfl))
 f197:=Tryz.func240.trans (an_ some (by kernel_rfl))
 f217:=Tryz.func340.trans (an_ some (by kernel_rfl))
 f224:=Tryz.func329.trans (an_ some (by kernel_rfl))
 f225:=Tryz.func330.trans (an_ some (by kernel_rfl))
 f227:=Tryz.func168.trans (an_ some (by kernel_rfl))
 f228:=Tryz.func239.trans (an_ some (by kernel_rfl))
 f231:=Tryz.func166.trans (an_ some (by kernel_rfl))
 f232:=Tryz.func167.trans (an_ some (by kernel_rfl))
 f233:=Tryz.func169.trans (an_ some (by kernel_rfl))
 f234:=Tryz.func170.trans (an_ some (by kernel_rfl))
 f235:=Tryz.func171.trans (an_ some (by kernel_rfl))
 f236:=Tryz.func172.trans (an_ some (by kernel_rfl))
 f260:=Tryz.func304.trans (an_ some (by kernel_rfl))
 f266:=Tryz.func342.trans (an_ some (by kernel_rfl))
 f271:=Tryz.func242.trans (an_ some (by kernel_rfl))
 t0:=Tryz.underlying0
 a0:=Tryz.isAgg0
 z0:=Tryz.sizeOf0
 v0:=Tryz.zeroValue0
 t3:=Tryz.underlying3
 a3:=Tryz.isAgg3
 z3:=Tryz.sizeOf3
 v3:=Tryz.zeroValue3
 t4:=Tryz.underlying4
 a4:=Tryz.isAgg4
 z4:=Tryz.sizeOf4
 v4:=Tryz.zeroValue4
 t5:=Tryz.underlying5
 a5:=Tryz.isAgg5
 z5:=Tryz.sizeOf5
 v5:=Tryz.zeroValue5
 t9:=Tryz.underlying9
 a9:=Tryz.isAgg9
 z9:=Tryz.sizeOf9
 v9:=Tryz.zeroValue9
 t21:=Tryz.underlying21
 a21:=Tryz.isAgg21
 z21:=Tryz.sizeOf21
 v21:=Tryz.zeroValue21
 t46:=Tryz.underlying139
 a46:=Tryz.isAgg139
 z46:=Tryz.sizeOf139
 v46:=Tryz.zeroValue139
 t105:=Tryz.underlying242
 a105:=Tryz.isAgg242
 z105:=Tryz.sizeOf242
 v105:=Tryz.zeroValue242
 t116:=Tryz.underlying193
 a116:=Tryz.isAgg193
 z116:=Tryz.sizeOf193
 t117:=Tryz.underlying194
 a117:=Tryz.isAgg194
 z117:=Tryz.sizeOf194
 v117:=Tryz.zeroValue194
 t119:=Tryz.underlying306
 a119:=Tryz.isAgg306
 z119:=Tryz.sizeOf306
 t124:=Tryz.underlying197
 a124:=Tryz.isAgg197
 z124:=Tryz.sizeOf197
 v124:=Tryz.zeroValue197
 t138:=Tryz.underlying308
 a138:=Tryz.isAgg308
 z138:=Tryz.sizeOf308
 v138:=Tryz.zeroValue308
 t139:=Tryz.underlying309
 a139:=Tryz.isAgg309
 z139:=Tryz.sizeOf309
 v139:=Tryz.zeroValue309
 g3:=by kernel_rfl
 g4:=by kernel_rfl}
end Go.Proofs
namespace Go.Proofs.YthbkdfcmjmmpgaaGreatDoor.Abs
open Go Go.Shelf Go.RowKit Go.Lib
theorem SQ {l:List iI} : ∀(args:List SV) (tab:aM) (z:(Sh.pair (.val .str) .unit).den×Sh.unit.den),zz args tab=some z→eA (gt Tryz.prog l) Tryz.prog mR args tab z:=by
 intro args tab z hz
 unfold zz at hz
 split at hz
 ·rename_i s c
  split at hz
  ·rename_i h
   cases hz
   refine kL (sh := .pair (.val .str) .unit) (fun _=>rfl) ?_ (fun _ _ h=>h.none)
   intro w Pr γ us hG _ hu
   cases hu with
   | cons a k =>
    cases k with
    | cons b k =>
     cases k
     obtain rfl:=eW a
     obtain rfl:=eW b
     obtain⟨h1,h2⟩:=MJ h.1
     refine(Any.strings_Trim_laid Tryz.layTrim (by kernel_rfl) s c w h.2 h1 h2).mono ?_
     rintro e w' ⟨rfl,hB⟩
     exact⟨[_],rfl,⟨[_],[],rfl,rfl,rfl⟩,hB⟩
  ·cases hz
 ·cases hz
end Go.Proofs.YthbkdfcmjmmpgaaGreatDoor.Abs
namespace Go.Proofs
open Go.Shelf Go.RowKit Go.Lib
def Tryz.layFmt_ren:Go.Shelf.Ren:=⟨fun | 173=>118 | 246=>173 | 283=>243 | 284=>244 | 285=>245 | 286=>246 | 129=>183 | 317=>307 | 318=>308 | 319=>309 | 320=>310 | 337=>331 | 338=>332 | n=>n,fun | 2=>2 | 3=>3 | 9=>9 | 4=>4 | 171=>245 | 0=>0 | 53=>137 | 37=>22 | 5=>5 | 173=>247 | 212=>291 | 51=>207 | 20=>20 | 213=>292 | 46=>139 | 232=>316 | 233=>317 | n=>n,fun | 17=>2 | 18=>6 | 19=>7 | n=>n⟩
theorem Tryz.layFmt:Go.Proofs.LaysM.n173 Tryz.prog Tryz.layFmt_ren:={
 mixed:=by kernel_rfl
 f129:=Tryz.func183.trans (an_ some (by kernel_rfl))
 f173:=Tryz.func118.trans (an_ some (by kernel_rfl))
 f246:=Tryz.func173.trans (an_ some (by kernel_rfl))
 f283:=Tryz.func243.trans (an_ some (by kernel_rfl))
 f284:=Tryz.func244.trans (an_ some (by kernel_rfl))
 f285:=Tryz.func245.trans (an_ some (by kernel_rfl))
 f286:=Tryz.func246.trans (an_ some (by kernel_rfl))
 f317:=Tryz.func307.trans (an_ some (by kernel_rfl))
 f318:=Tryz.func308.trans (an_ some (by kernel_rfl))
 f319:=Tryz.func309.trans (an_ some (by kernel_rfl))
 f320:=Tryz.func310.trans (an_ some (by kernel_rfl))
 f337:=Tryz.func331.trans (an_ some (by kernel_rfl))
 f338:=Tryz.func332.trans (an_ some (by kernel_rfl))
 t0:=Tryz.underlying0
 a0:=Tryz.isAgg0
 z0:=Tryz.sizeOf0
 v0:=Tryz.zeroValue0
 t2:=Tryz.underlying2
 a2:=Tryz.isAgg2
 z2:=Tryz.sizeOf2
 v2:=Tryz.zeroValue2
 t3:=Tryz.underlying3
 a3:=Tryz.isAgg3
 z3:=Tryz.sizeOf3
 v3:=Tryz.zeroValue3
 t4:=Tryz.underlying4
 a4:=Tryz.isAgg4
 z4:=Tryz.sizeOf4
 v4:=Tryz.zeroValue4
 t5:=Tryz.underlying5
 a5:=Tryz.isAgg5
 z5:=Tryz.sizeOf5
 v5:=Tryz.zeroValue5
 t9:=Tryz.underlying9
 a9:=Tryz.isAgg9
 z9:=Tryz.sizeOf9
 v9:=Tryz.zeroValue9
 t20:=Tryz.underlying20
 a20:=Tryz.isAgg20
 z20:=Tryz.sizeOf20
 v20:=Tryz.zeroValue20
 t37:=Tryz.underlying22
 a37:=Tryz.isAgg22
 z37:=Tryz.sizeOf22
 v37:=Tryz.zeroValue22
 t46:=Tryz.underlying139
 a46:=Tryz.isAgg139
 z46:=Tryz.sizeOf139
 v46:=Tryz.zeroValue139
 t51:=Tryz.underlying207
 a51:=Tryz.isAgg207
 z51:=Tryz.sizeOf207
 v51:=Tryz.zeroValue207
 t53:=Tryz.underlying137
 a53:=Tryz.isAgg137
 z53:=Tryz.sizeOf137
 v53:=Tryz.zeroValue137
 t171:=Tryz.underlying245
 a171:=Tryz.isAgg245
 z171:=Tryz.sizeOf245
 v171:=Tryz.zeroValue245
 t173:=Tryz.underlying247
 a173:=Tryz.isAgg247
 z173:=Tryz.sizeOf247
 v173:=Tryz.zeroValue247
 t212:=Tryz.underlying291
 a212:=Tryz.isAgg291
 z212:=Tryz.sizeOf291
 v212:=Tryz.zeroValue291
 t213:=Tryz.underlying292
 a213:=Tryz.isAgg292
 z213:=Tryz.sizeOf292
 t232:=Tryz.underlying316
 a232:=Tryz.isAgg316
 z232:=Tryz.sizeOf316
 v232:=Tryz.zeroValue316
 t233:=Tryz.underlying317
 a233:=Tryz.isAgg317
 z233:=Tryz.sizeOf317
 v233:=Tryz.zeroValue317
 g17:=by kernel_rfl
 g18:=by kernel_rfl
 g19:=by kernel_rfl
 i0:=by kernel_rfl
 i2:=by kernel_rfl
 i3:=by kernel_rfl
 i4:=by kernel_rfl
 i5:=by kernel_rfl
 i9:=by kernel_rfl
 i20:=by kernel_rfl
 i37:=by kernel_rfl
 i46:=by kernel_rfl
 i51:=by kernel_rfl
 i53:=by kernel_rfl
 i171:=by kernel_rfl
 i173:=by kernel_rfl
 i212:=by kernel_rfl
 i232:=by kernel_rfl
 i233:=by kernel_rfl
 m17:=by kernel_rfl
 m18:=by kernel_rfl
 m19:=by kernel_rfl}
end Go.Proofs
namespace Go.Proofs.YthbkdfcmjmmpgaaGreatDoor.Abs
open Go Go.Shelf Go.RowKit Go.Lib
def Nl:iI:=("internal/strconv.uint64pow10",fun a=>a=(Lib.pow10Tab.map fun z=>Value.int .u64 z).toArray)
theorem Ve {l:List iI} (hm:Nl∈l) : ∀(args:List SV) (tab:aM) (z:(Sh.pair (.val .str) .unit).den×Sh.unit.den),Dt args tab=some z→eA (gt Tryz.prog l) Tryz.prog jd args tab z:=by
 intro args tab z hz
 unfold Dt at hz
 split at hz
 ·rename_i n b
  split at hz
  ·rename_i h
   obtain⟨hb,h0,h1⟩:=h
   cases hz
   refine kL (sh := .pair (.val .str) .unit) (fun _=>rfl) ?_ (fun _ _ h=>h.none)
   intro w Pr γ us hG _ hu
   cases hu with
   | cons a k =>
    cases k with
    | cons c k =>
     cases k
     obtain rfl:=dW a
     obtain rfl:=dW c
     rw[show b=(10:Int) from hb]
     refine(Any.strconv_FormatInt_10 Tryz.layFmt n h0 h1 w (by obtain⟨⟨a,h1,h2⟩,_⟩:=hG Nl hm; rw[show a=_ from h2] at h1; exact h1)).mono ?_
     rintro e w' ⟨rfl,q,os,rfl⟩
     exact⟨[_],rfl,⟨[_],[],rfl,rfl,rfl⟩,below_grow _ w (aq_ _) q os⟩
  ·cases hz
 ·cases hz
end Go.Proofs.YthbkdfcmjmmpgaaGreatDoor.Abs
namespace Go.Proofs
open Go.Shelf Go.RowKit Go.Lib
def Tryz.layTrimLeft_ren:Go.Shelf.Ren:=⟨fun | 161=>157 | 231=>166 | 227=>168 | 233=>169 | 235=>171 | 228=>239 | 197=>240 | 151=>241 | 260=>304 | 152=>305 | 137=>327 | 119=>328 | 224=>329 | 225=>330 | 217=>340 | 266=>342 | n=>n,fun | 9=>9 | 4=>4 | 3=>3 | 5=>5 | 117=>194 | 116=>193 | 0=>0 | 124=>197 | 105=>242 | 21=>21 | 119=>306 | 46=>139 | 139=>309 | 138=>308 | n=>n,fun | 3=>3 | 4=>4 | n=>n⟩
theorem Tryz.layTrimLeft:Go.Proofs.Lays.n161 Tryz.prog Tryz.layTrimLeft_ren:={
 mixed:=by kernel_rfl
 f119:=Tryz.func328.trans (an_ some (by kernel_rfl))
 f137:=Tryz.func327.trans (an_ some (by kernel_rfl))
 f151:=Tryz.func241.trans (an_ some (by kernel_rfl))
 f152:=Tryz.func305.trans (an_ some (by kernel_rfl))
 f161:=Tryz.func157.trans (an_ some (by kernel_rfl))
 f197:=Tryz.func240.trans (an_ some (by kernel_rfl))
 f217:=Tryz.func340.trans (an_ some (by kernel_rfl))
 f224:=Tryz.func329.trans (an_ some (by kernel_rfl))
 f225:=Tryz.func330.trans (an_ some (by kernel_rfl))
 f227:=Tryz.func168.trans (an_ some (by kernel_rfl))
 f228:=Tryz.func239.trans (an_ some (by kernel_rfl))
 f231:=Tryz.func166.trans (an_ some (by kernel_rfl))
 f233:=Tryz.func169.trans (an_ some (by kernel_rfl))
 f235:=Tryz.func171.trans (an_ some (by kernel_rfl))
 f260:=Tryz.func304.trans (an_ some (by kernel_rfl))
 f266:=Tryz.func342.trans (an_ some (by kernel_rfl))
 t0:=Tryz.underlying0
 a0:=Tryz.isAgg0
 z0:=Tryz.sizeOf0
 v0:=Tryz.zeroValue0
 t3:=Tryz.underlying3
 a3:=Tryz.isAgg3
 z3:=Tryz.sizeOf3
 v3:=Tryz.zeroValue3
 t4:=Tryz.underlying4
 a4:=Tryz.isAgg4
 z4:=Tryz.sizeOf4
 v4:=Tryz.zeroValue4
 t5:=Tryz.underlying5
 a5:=Tryz.isAgg5
 z5:=Tryz.sizeOf5
 v5:=Tryz.zeroValue5
 t9:=Tryz.underlying9
 a9:=Tryz.isAgg9
 z9:=Tryz.sizeOf9
 v9:=Tryz.zeroValue9
 t21:=Tryz.underlying21
 a21:=Tryz.isAgg21
 z21:=Tryz.sizeOf21
 v21:=Tryz.zeroValue21
 t46:=Tryz.underlying139
 a46:=Tryz.isAgg139
 z46:=Tryz.sizeOf139
 v46:=Tryz.zeroValue139
 t105:=Tryz.underlying242
 a105:=Tryz.isAgg242
 z105:=Tryz.sizeOf242
 v105:=Tryz.zeroValue242
 t116:=Tryz.underlying193
 a116:=Tryz.isAgg193
 z116:=Tryz.sizeOf193
 t117:=Tryz.underlying194
 a117:=Tryz.isAgg194
 z117:=Tryz.sizeOf194
 v117:=Tryz.zeroValue194
 t119:=Tryz.underlying306
 a119:=Tryz.isAgg306
 z119:=Tryz.sizeOf306
 t124:=Tryz.underlying197
 a124:=Tryz.isAgg197
 z124:=Tryz.sizeOf197
 v124:=Tryz.zeroValue197
 t138:=Tryz.underlying308
 a138:=Tryz.isAgg308
 z138:=Tryz.sizeOf308
 v138:=Tryz.zeroValue308
 t139:=Tryz.underlying309
 a139:=Tryz.isAgg309
 z139:=Tryz.sizeOf309
 v139:=Tryz.zeroValue309
 g3:=by kernel_rfl
 g4:=by kernel_rfl}
end Go.Proofs
namespace Go.Proofs.YthbkdfcmjmmpgaaGreatDoor.Abs
open Go Go.Shelf Go.RowKit Go.Lib
theorem IA {l:List iI} : ∀(args:List SV) (tab:aM) (z:(Sh.pair (.val .str) .unit).den×Sh.unit.den),pW args tab=some z→eA (gt Tryz.prog l) Tryz.prog jy args tab z:=by
 intro args tab z hz
 unfold pW at hz
 split at hz
 ·rename_i s c
  split at hz
  ·rename_i h
   cases hz
   refine kL (sh := .pair (.val .str) .unit) (fun _=>rfl) ?_ (fun _ _ h=>h.none)
   intro w Pr γ us hG _ hu
   cases hu with
   | cons a k =>
    cases k with
    | cons b k =>
     cases k
     obtain rfl:=eW a
     obtain rfl:=eW b
     obtain⟨h1,h2⟩:=MJ h
     refine(Any.strings_TrimLeft_laid Tryz.layTrimLeft (by kernel_rfl) s c w h1 h2).mono ?_
     rintro e w' ⟨rfl,hB⟩
     exact⟨[_],rfl,⟨[_],[],rfl,rfl,rfl⟩,hB⟩
  ·cases hz
 ·cases hz
end Go.Proofs.YthbkdfcmjmmpgaaGreatDoor.Abs
namespace Go.Proofs
open Go.Shelf Go.RowKit Go.Lib Go.Sort
def Tryz.clIntI_ren:Go.Shelf.Ren:=⟨fun | 41=>272 | n=>n,fun | 22=>135 | 23=>3 | 4=>4 | n=>n,fun | n=>n⟩
theorem Tryz.clIntI:Go.Proofs.SlLaysE0.n41 Tryz.prog Tryz.clIntI_ren:={
 mixed:=by kernel_rfl
 f41:=⟨Tryz.f272.name,by decide,Tryz.func272.trans (an_ some (by kernel_rfl))⟩
 t4:=Tryz.underlying4
 a4:=Tryz.isAgg4
 z4:=Tryz.sizeOf4
 v4:=Tryz.zeroValue4
 t22:=Tryz.underlying135
 a22:=Tryz.isAgg135
 z22:=Tryz.sizeOf135
 v22:=Tryz.zeroValue135}
def Tryz.clBoolI_ren:Go.Shelf.Ren:=⟨fun | 41=>198 | n=>n,fun | 22=>168 | 23=>4 | 4=>4 | n=>n,fun | n=>n⟩
theorem Tryz.clBoolI:Go.Proofs.SlLaysE0.n41 Tryz.prog Tryz.clBoolI_ren:={
 mixed:=by kernel_rfl
 f41:=⟨Tryz.f198.name,by decide,Tryz.func198.trans (an_ some (by kernel_rfl))⟩
 t4:=Tryz.underlying4
 a4:=Tryz.isAgg4
 z4:=Tryz.sizeOf4
 v4:=Tryz.zeroValue4
 t22:=Tryz.underlying168
 a22:=Tryz.isAgg168
 z22:=Tryz.sizeOf168
 v22:=Tryz.zeroValue168}
end Go.Proofs
namespace Go.Proofs.YthbkdfcmjmmpgaaGreatDoor.Abs
open Go Go.Shelf Go.RowKit Go.Lib Go.Sort
set_option maxRecDepth 100000 in
theorem SR {Gp:WP} : ∀(args:List SV) (tab:aM) (z:(Sh.pair (.row 3 (.int .i64) false) .unit).den×Sh.unit.den),cP 3 (.int .i64) 8 args tab=some z→eA Gp Tryz.prog {g:=272,fn:=Tryz.f272,sh := .pair (.row 3 (.int .i64) false) .unit,bx := .unit,own:=[],live:=[],prim:=some (cP 3 (.int .i64) 8)} args tab z:=by
 refine xl (P:=Tryz.prog) (g:=272) (nb:=8) (fn:=Tryz.f272) (e:=3) (t:=(.int .i64)) (own:=[]) (live:=[]) rfl (by decide) (by decide) ?_ ?_
 ·exact fun n c w=>AnyE.slices_Clone_nil Tryz.clIntI n c w
 ·exact fun a n c news w h1 h2 h3 h4 h5=>clone_any Tryz.clIntI _ _ 1 8 rfl rfl (by kernel_rfl) (by kernel_rfl) (by kernel_rfl) (by decide) Tryz.sizeOf3 a n c news w h1 h2 h3 h4 h5
set_option maxRecDepth 100000 in
theorem PQ {Gp:WP} : ∀(args:List SV) (tab:aM) (z:(Sh.pair (.row 4 .bool false) .unit).den×Sh.unit.den),cP 4 .bool 1 args tab=some z→eA Gp Tryz.prog {g:=198,fn:=Tryz.f198,sh := .pair (.row 4 .bool false) .unit,bx := .unit,own:=[],live:=[],prim:=some (cP 4 .bool 1)} args tab z:=by
 refine xl (P:=Tryz.prog) (g:=198) (nb:=1) (fn:=Tryz.f198) (e:=4) (t := .bool) (own:=[]) (live:=[]) rfl (by decide) (by decide) ?_ ?_
 ·exact fun n c w=>AnyE.slices_Clone_nil Tryz.clBoolI n c w
 ·exact fun a n c news w h1 h2 h3 h4 h5=>clone_any Tryz.clBoolI _ _ 1 1 rfl rfl (by kernel_rfl) (by kernel_rfl) (by kernel_rfl) (by decide) Tryz.sizeOf4 a n c news w h1 h2 h3 h4 h5
end Go.Proofs.YthbkdfcmjmmpgaaGreatDoor.Abs
namespace Go.Proofs
open Go.Shelf Go.RowKit Go.Lib
def Tryz.layReplace_ren:Go.Shelf.Ren:=⟨fun | 155=>230 | 154=>298 | 138=>323 | 165=>300 | 143=>324 | 166=>301 | 197=>240 | 169=>302 | 195=>335 | 218=>336 | 240=>325 | 241=>326 | 219=>337 | 260=>304 | 276=>338 | 277=>339 | 217=>340 | 225=>330 | 224=>329 | 267=>341 | 266=>342 | 314=>343 | n=>n,fun | 9=>9 | 3=>3 | 4=>4 | 72=>282 | 0=>0 | 76=>283 | 105=>242 | 21=>21 | 5=>5 | 70=>280 | 20=>20 | 37=>22 | 75=>113 | 127=>285 | 164=>313 | 46=>139 | 119=>306 | 139=>309 | 138=>308 | 146=>318 | 51=>207 | 80=>75 | n=>n,fun | 1=>5 | 3=>3 | 4=>4 | n=>n⟩
theorem Tryz.layReplace:Go.Proofs.LaysM.n155 Tryz.prog Tryz.layReplace_ren:={
 mixed:=by kernel_rfl
 f138:=Tryz.func323.trans (an_ some (by kernel_rfl))
 f143:=Tryz.func324.trans (an_ some (by kernel_rfl))
 f154:=Tryz.func298.trans (an_ some (by kernel_rfl))
 f155:=Tryz.func230.trans (an_ some (by kernel_rfl))
 f165:=Tryz.func300.trans (an_ some (by kernel_rfl))
 f166:=Tryz.func301.trans (an_ some (by kernel_rfl))
 f169:=Tryz.func302.trans (an_ some (by kernel_rfl))
 f195:=Tryz.func335.trans (an_ some (by kernel_rfl))
 f197:=Tryz.func240.trans (an_ some (by kernel_rfl))
 f217:=Tryz.func340.trans (an_ some (by kernel_rfl))
 f218:=Tryz.func336.trans (an_ some (by kernel_rfl))
 f219:=Tryz.func337.trans (an_ some (by kernel_rfl))
 f224:=Tryz.func329.trans (an_ some (by kernel_rfl))
 f225:=Tryz.func330.trans (an_ some (by kernel_rfl))
 f240:=Tryz.func325.trans (an_ some (by kernel_rfl))
 f241:=Tryz.func326.trans (an_ some (by kernel_rfl))
 f260:=Tryz.func304.trans (an_ some (by kernel_rfl))
 f266:=Tryz.func342.trans (an_ some (by kernel_rfl))
 f267:=Tryz.func341.trans (an_ some (by kernel_rfl))
 f276:=Tryz.func338.trans (an_ some (by kernel_rfl))
 f277:=Tryz.func339.trans (an_ some (by kernel_rfl))
 f314:=Tryz.func343.trans (an_ some (by kernel_rfl))
 t0:=Tryz.underlying0
 a0:=Tryz.isAgg0
 z0:=Tryz.sizeOf0
 v0:=Tryz.zeroValue0
 t3:=Tryz.underlying3
 a3:=Tryz.isAgg3
 z3:=Tryz.sizeOf3
 v3:=Tryz.zeroValue3
 t4:=Tryz.underlying4
 a4:=Tryz.isAgg4
 z4:=Tryz.sizeOf4
 v4:=Tryz.zeroValue4
 t5:=Tryz.underlying5
 a5:=Tryz.isAgg5
 z5:=Tryz.sizeOf5
 v5:=Tryz.zeroValue5
 t9:=Tryz.underlying9
 a9:=Tryz.isAgg9
 z9:=Tryz.sizeOf9
 v9:=Tryz.zeroValue9
 t20:=Tryz.underlying20
 a20:=Tryz.isAgg20
 z20:=Tryz.sizeOf20
 v20:=Tryz.zeroValue20
 t21:=Tryz.underlying21
 a21:=Tryz.isAgg21
 z21:=Tryz.sizeOf21
 v21:=Tryz.zeroValue21
 t37:=Tryz.underlying22
 a37:=Tryz.isAgg22
 z37:=Tryz.sizeOf22
 v37:=Tryz.zeroValue22
 t46:=Tryz.underlying139
 a46:=Tryz.isAgg139
 z46:=Tryz.sizeOf139
 v46:=Tryz.zeroValue139
 t51:=Tryz.underlying207
 a51:=Tryz.isAgg207
 z51:=Tryz.sizeOf207
 v51:=Tryz.zeroValue207
 t70:=Tryz.underlying280
 a70:=Tryz.isAgg280
 z70:=Tryz.sizeOf280
 v70:=Tryz.zeroValue280
 t72:=Tryz.underlying282
 a72:=Tryz.isAgg282
 z72:=Tryz.sizeOf282
 v72:=Tryz.zeroValue282
 t75:=Tryz.underlying113
 a75:=Tryz.isAgg113
 z75:=Tryz.sizeOf113
 v75:=Tryz.zeroValue113
 t76:=Tryz.underlying283
 a76:=Tryz.isAgg283
 z76:=Tryz.sizeOf283
 v76:=Tryz.zeroValue283
 t105:=Tryz.underlying242
 a105:=Tryz.isAgg242
 z105:=Tryz.sizeOf242
 v105:=Tryz.zeroValue242
 t119:=Tryz.underlying306
 a119:=Tryz.isAgg306
 z119:=Tryz.sizeOf306
 t127:=Tryz.underlying285
 a127:=Tryz.isAgg285
 z127:=Tryz.sizeOf285
 v127:=Tryz.zeroValue285
 t138:=Tryz.underlying308
 a138:=Tryz.isAgg308
 z138:=Tryz.sizeOf308
 v138:=Tryz.zeroValue308
 t139:=Tryz.underlying309
 a139:=Tryz.isAgg309
 z139:=Tryz.sizeOf309
 v139:=Tryz.zeroValue309
 t146:=Tryz.underlying318
 a146:=Tryz.isAgg318
 z146:=Tryz.sizeOf318
 v146:=Tryz.zeroValue318
 t164:=Tryz.underlying313
 a164:=Tryz.isAgg313
 z164:=Tryz.sizeOf313
 v164:=Tryz.zeroValue313
 g1:=by kernel_rfl
 g3:=by kernel_rfl
 g4:=by kernel_rfl
 t80:=Tryz.underlying75
 a80:=Tryz.isAgg75
 z80:=Tryz.sizeOf75
 v80:=Tryz.zeroValue75
 i0:=by kernel_rfl
 i3:=by kernel_rfl
 i4:=by kernel_rfl
 i5:=by kernel_rfl
 i9:=by kernel_rfl
 i20:=by kernel_rfl
 i21:=by kernel_rfl
 i37:=by kernel_rfl
 i46:=by kernel_rfl
 i51:=by kernel_rfl
 i70:=by kernel_rfl
 i72:=by kernel_rfl
 i75:=by kernel_rfl
 i76:=by kernel_rfl
 i80:=by kernel_rfl
 i105:=by kernel_rfl
 i127:=by kernel_rfl
 i138:=by kernel_rfl
 i139:=by kernel_rfl
 i146:=by kernel_rfl
 i164:=by kernel_rfl
 m1:=by kernel_rfl
 s1_3:=fun w h=>Go.Proofs.cell_of_shapedOpen_int (zero := #[.int .i64 0]) (t:=3) h (dx_ (by kernel_rfl)) (by kernel_rfl) rfl (by kernel_rfl) (by kernel_rfl) Tryz.underlying3
 m3:=by kernel_rfl
 m4:=by kernel_rfl}
def Tryz.layExtra_ren:Go.Shelf.Ren:=⟨fun | 155=>230 | 154=>298 | 138=>323 | 165=>300 | 143=>324 | 166=>301 | 197=>240 | 169=>302 | 195=>335 | 218=>336 | 240=>325 | 241=>326 | 219=>337 | 260=>304 | 276=>338 | 277=>339 | 217=>340 | 225=>330 | 224=>329 | 267=>341 | 266=>342 | 314=>343 | n=>n,fun | 9=>9 | 3=>3 | 4=>4 | 72=>282 | 0=>0 | 76=>283 | 105=>242 | 21=>21 | 5=>5 | 70=>280 | 20=>20 | 37=>22 | 75=>113 | 127=>285 | 164=>313 | 46=>139 | 119=>306 | 139=>309 | 138=>308 | 146=>318 | 51=>207 | 80=>75 | n=>n,fun | 1=>5 | 3=>3 | 4=>4 | n=>n⟩
theorem Tryz.layExtra:Go.Proofs.Builder.Extra Tryz.prog Tryz.layExtra_ren:={
 sizeBuilder:=by kernel_rfl
 liesBuilder:=by kernel_rfl
 t5:=Tryz.underlying5
 a5:=Tryz.isAgg5
 z5:=Tryz.sizeOf5
 v5:=Tryz.zeroValue5
 infoByte:=by kernel_rfl
 cellsByte:=by kernel_rfl
 sizeByte:=by kernel_rfl
 neB5:=by decide}
end Go.Proofs
namespace Go.Proofs.YthbkdfcmjmmpgaaGreatDoor.Abs
open Go Go.Shelf Go.RowKit Go.Lib
theorem Ld {l:List iI} (hm:xU "internal/bytealg.MaxLen" ∈ l) : ∀(args:List SV) (tab:aM) (z:(Sh.pair (.val .str) .unit).den×Sh.unit.den),rP args tab=some z→eA (gt Tryz.prog l) Tryz.prog ie args tab z:=by
 intro args tab z hz
 unfold rP at hz
 split at hz
 ·rename_i s c d
  split at hz
  ·rename_i h
   cases hz
   refine kL (sh:=Sh.pair (.val .str) .unit) (fun _=>rfl) ?_ (fun _ _ h=>h.none)
   intro w Pr γ us hG hPr hu
   cases hu with
   | cons a k =>
    cases k with
    | cons b k =>
     cases k with
     | cons c k =>
      cases k
      obtain rfl:=eW a
      obtain rfl:=eW b
      obtain rfl:=eW c
      obtain⟨m,hc⟩:=D1 hG hm Tryz.layReplace.m1
      refine(Any.strings_ReplaceAll {Tryz.layReplace with} Tryz.layExtra s _ _ m w h.1 hc h.2.1 h.2.2).mono ?_
      rintro e w' ⟨rfl,hB⟩
      exact⟨[_],rfl,⟨[_],[],rfl,rfl,rfl⟩,hB⟩
  ·cases hz
 ·cases hz
end Go.Proofs.YthbkdfcmjmmpgaaGreatDoor.Abs
namespace Go.Proofs
open Go.Shelf Go.RowKit Go.Lib
def Tryz.layJoin_ren:Go.Shelf.Ren:=⟨fun | 156=>233 | 165=>300 | 166=>301 | 169=>302 | 240=>325 | 241=>326 | 276=>338 | 277=>339 | n=>n,fun | 31=>105 | 9=>9 | 3=>3 | 4=>4 | 0=>0 | 20=>20 | 72=>282 | 76=>283 | 70=>280 | 37=>22 | 75=>113 | 127=>285 | 164=>313 | 5=>5 | 80=>75 | n=>n,fun | n=>n⟩
theorem Tryz.layJoin:Go.Proofs.Lays.n156 Tryz.prog Tryz.layJoin_ren:={
 mixed:=by kernel_rfl
 f156:=Tryz.func233.trans (an_ some (by kernel_rfl))
 f165:=Tryz.func300.trans (an_ some (by kernel_rfl))
 f166:=Tryz.func301.trans (an_ some (by kernel_rfl))
 f169:=Tryz.func302.trans (an_ some (by kernel_rfl))
 f240:=Tryz.func325.trans (an_ some (by kernel_rfl))
 f241:=Tryz.func326.trans (an_ some (by kernel_rfl))
 f276:=Tryz.func338.trans (an_ some (by kernel_rfl))
 f277:=Tryz.func339.trans (an_ some (by kernel_rfl))
 t0:=Tryz.underlying0
 a0:=Tryz.isAgg0
 z0:=Tryz.sizeOf0
 v0:=Tryz.zeroValue0
 t3:=Tryz.underlying3
 a3:=Tryz.isAgg3
 z3:=Tryz.sizeOf3
 v3:=Tryz.zeroValue3
 t4:=Tryz.underlying4
 a4:=Tryz.isAgg4
 z4:=Tryz.sizeOf4
 v4:=Tryz.zeroValue4
 t9:=Tryz.underlying9
 a9:=Tryz.isAgg9
 z9:=Tryz.sizeOf9
 v9:=Tryz.zeroValue9
 t20:=Tryz.underlying20
 a20:=Tryz.isAgg20
 z20:=Tryz.sizeOf20
 v20:=Tryz.zeroValue20
 t31:=Tryz.underlying105
 a31:=Tryz.isAgg105
 z31:=Tryz.sizeOf105
 v31:=Tryz.zeroValue105
 t37:=Tryz.underlying22
 a37:=Tryz.isAgg22
 z37:=Tryz.sizeOf22
 v37:=Tryz.zeroValue22
 t70:=Tryz.underlying280
 a70:=Tryz.isAgg280
 z70:=Tryz.sizeOf280
 v70:=Tryz.zeroValue280
 t72:=Tryz.underlying282
 a72:=Tryz.isAgg282
 z72:=Tryz.sizeOf282
 v72:=Tryz.zeroValue282
 t75:=Tryz.underlying113
 a75:=Tryz.isAgg113
 z75:=Tryz.sizeOf113
 v75:=Tryz.zeroValue113
 t76:=Tryz.underlying283
 a76:=Tryz.isAgg283
 z76:=Tryz.sizeOf283
 v76:=Tryz.zeroValue283
 t127:=Tryz.underlying285
 a127:=Tryz.isAgg285
 z127:=Tryz.sizeOf285
 v127:=Tryz.zeroValue285
 t164:=Tryz.underlying313
 a164:=Tryz.isAgg313
 z164:=Tryz.sizeOf313
 v164:=Tryz.zeroValue313}
theorem Tryz.extraJoin:Builder.Extra Tryz.prog Tryz.layJoin_ren:={
 sizeBuilder:=by kernel_rfl
 liesBuilder:=by kernel_rfl
 t5:=Tryz.underlying5
 a5:=Tryz.isAgg5
 z5:=Tryz.sizeOf5
 v5:=Tryz.zeroValue5
 infoByte:=by kernel_rfl
 cellsByte:=by kernel_rfl
 sizeByte:=by kernel_rfl
 neB5:=by decide}
end Go.Proofs
namespace Go.Proofs.YthbkdfcmjmmpgaaGreatDoor.Abs
open Go Go.Shelf Go.RowKit Go.Lib
theorem SS {l:List iI} : ∀(args:List SV) (tab:aM) (z:(Sh.pair (.val .str) .unit).den×Sh.unit.den),zA Xo args tab=some z→eA (gt Tryz.prog l) Tryz.prog mT args tab z:=by
 intro args tab z hz
 unfold zA at hz
 split at hz
 ·rename_i t xs c
  rw[am_] at hz
  obtain⟨xs',hxs,hz⟩:=hz
  obtain⟨rfl,hxs⟩:=jm hxs
  have hxs:xs=xs':=hxs
  subst hxs
  split at hz
  ·rename_i h
   obtain⟨h1,h2⟩:=h
   cases hz
   refine kL (sh := .pair (.val .str) .unit) (fun _=>rfl) ?_ (fun _ _ h=>h.none)
   intro w Pr γ us hG hPr hu
   cases hu with
   | cons a k =>
    cases k with
    | cons d k =>
     cases k
     obtain rfl:=eW d
     cases a with
     | val ha =>
      obtain⟨A,cap,rfl,hcap,hA⟩:=ha
      by_cases hx:(xs:List aa_)=[]
      ·subst hx
       refine(Any.strings_Join_none Tryz.layJoin Tryz.extraJoin A cap c w).mono ?_
       rintro e w' ⟨rfl,rfl⟩
       exact⟨[_],rfl,⟨[_],[],rfl,rfl,rfl⟩,Below.refl _ _⟩
      ·obtain⟨b,o,rfl,hcells⟩:=hA hx
       have hcell : ∀(j:Nat) x,(xs:List aa_)[j]? = some x→Pr b (o+j)∧w.cell? ⟨b,o+j,none⟩=some (.string x):=by
        intro j x hj
        obtain⟨hj1,hj2⟩:=ax_.1 hj
        obtain⟨cs,hc1,hc2⟩:=hcells j hj1
        have hc1:cs=[.string (xs:List aa_)[j]]:=hc1
        subst hc1
        have:=hc2 0 _ rfl
        have e1:o+j*(Ty.str).sz+0=o+j:=by show o+j*1+0=_; omega
        rw[e1] at this
        rw[←hj2]
        exact this
       have hb:b < w.heap.size:=by
        obtain⟨x,r,hxr⟩ : ∃ x r,(xs:List aa_)=x :: r:=by
         cases hq:(xs:List aa_) with
         | nil=>exact bk_ hq hx
         | cons x r=>exact⟨x,r,rfl⟩
        exact hPr b _ (hcell 0 x (by rw[hxr]; rfl)).1
       refine(Any.strings_Join Tryz.layJoin Tryz.extraJoin b o cap xs c w (fun j x hj=>(hcell j x hj).2) hb h1 hcap h2).mono ?_
       rintro e w' ⟨rfl,hB⟩
       exact⟨[_],rfl,⟨[_],[],rfl,rfl,rfl⟩,hB⟩
  ·cases hz
 ·cases hz
end Go.Proofs.YthbkdfcmjmmpgaaGreatDoor.Abs
namespace Go.Proofs
open Go.Shelf Go.RowKit Go.Lib
def Tryz.layCut_ren:Go.Shelf.Ren:=⟨fun | 145=>319 | 220=>334 | 219=>337 | 217=>340 | 225=>330 | 224=>329 | 267=>341 | 266=>342 | 314=>343 | n=>n,fun | 9=>9 | 4=>4 | 59=>302 | 3=>3 | 5=>5 | 46=>139 | 146=>318 | 51=>207 | n=>n,fun | 1=>5 | n=>n⟩
theorem Tryz.layCut:Go.Proofs.LaysM.n145 Tryz.prog Tryz.layCut_ren:={
 mixed:=by kernel_rfl
 f145:=Tryz.func319.trans (an_ some (by kernel_rfl))
 f217:=Tryz.func340.trans (an_ some (by kernel_rfl))
 f219:=Tryz.func337.trans (an_ some (by kernel_rfl))
 f220:=Tryz.func334.trans (an_ some (by kernel_rfl))
 f224:=Tryz.func329.trans (an_ some (by kernel_rfl))
 f225:=Tryz.func330.trans (an_ some (by kernel_rfl))
 f266:=Tryz.func342.trans (an_ some (by kernel_rfl))
 f267:=Tryz.func341.trans (an_ some (by kernel_rfl))
 f314:=Tryz.func343.trans (an_ some (by kernel_rfl))
 t3:=Tryz.underlying3
 a3:=Tryz.isAgg3
 z3:=Tryz.sizeOf3
 v3:=Tryz.zeroValue3
 t4:=Tryz.underlying4
 a4:=Tryz.isAgg4
 z4:=Tryz.sizeOf4
 v4:=Tryz.zeroValue4
 t5:=Tryz.underlying5
 a5:=Tryz.isAgg5
 z5:=Tryz.sizeOf5
 v5:=Tryz.zeroValue5
 t9:=Tryz.underlying9
 a9:=Tryz.isAgg9
 z9:=Tryz.sizeOf9
 v9:=Tryz.zeroValue9
 t46:=Tryz.underlying139
 a46:=Tryz.isAgg139
 z46:=Tryz.sizeOf139
 v46:=Tryz.zeroValue139
 t51:=Tryz.underlying207
 a51:=Tryz.isAgg207
 z51:=Tryz.sizeOf207
 v51:=Tryz.zeroValue207
 t59:=Tryz.underlying302
 a59:=Tryz.isAgg302
 z59:=Tryz.sizeOf302
 v59:=Tryz.zeroValue302
 t146:=Tryz.underlying318
 a146:=Tryz.isAgg318
 z146:=Tryz.sizeOf318
 v146:=Tryz.zeroValue318
 g1:=by kernel_rfl
 i3:=by kernel_rfl
 i4:=by kernel_rfl
 i5:=by kernel_rfl
 i9:=by kernel_rfl
 i46:=by kernel_rfl
 i51:=by kernel_rfl
 i59:=by kernel_rfl
 i146:=by kernel_rfl
 m1:=by kernel_rfl
 s1_3:=fun w h=>Go.Proofs.cell_of_shapedOpen_int (zero := #[.int .i64 0]) (t:=3) h (dx_ (by kernel_rfl)) (by kernel_rfl) rfl (by kernel_rfl) (by kernel_rfl) Tryz.underlying3}
end Go.Proofs
namespace Go.Proofs.YthbkdfcmjmmpgaaGreatDoor.Abs
open Go Go.Shelf Go.RowKit Go.Lib
theorem Vf {l:List iI} (hm:xU "internal/bytealg.MaxLen" ∈ l) : ∀(args:List SV) (tab:aM) (z:(Sh.pair (.val .str) (.pair (.val .str) (.pair (.val .bool) .unit))).den×Sh.unit.den),Du args tab=some z→eA (gt Tryz.prog l) Tryz.prog oh args tab z:=by
 intro args tab z hz
 unfold Du at hz
 split at hz
 ·rename_i s c
  split at hz
  ·rename_i h
   cases hz
   refine kL (sh := .pair (.val .str) (.pair (.val .str) (.pair (.val .bool) .unit))) (fun _=>rfl) ?_ (fun _ _ h=>h.none)
   intro w Pr γ us hG _ hu
   cases hu with
   | cons a k =>
    cases k with
    | cons b k =>
     cases k
     obtain rfl:=eW a
     obtain rfl:=eW b
     obtain⟨m,hc⟩:=D1 hG hm Tryz.layCut.m1
     refine(Any.strings_Cut {Tryz.layCut with} s c m w h hc).mono ?_
     rintro e w' ⟨rfl,n,rfl⟩
     exact⟨[_,_,_],rfl,⟨[_],_,rfl,rfl,[_],_,rfl,rfl,[_],_,rfl,rfl,rfl⟩,rfl,rfl,rfl,aq_ _,fun _ _=>rfl⟩
  ·cases hz
 ·cases hz
end Go.Proofs.YthbkdfcmjmmpgaaGreatDoor.Abs
