/- slices.Clone: the library's contract, wherever an empty slice may stand. -/
import Derived.Shelf.SlicesE.Clone
import Derived.Test.YteaahciglahehaaGreatDoorZA3
import Derived.Shelf.SlSortCmp.WholeK
import Derived.Shelf.SlicesG.Cmp
import Derived.Handy
import Derived.StillTailTactics
import Derived.Test.YteaahciglahehaaGreatDoorZQD
import Derived.Shelf.SlSortCmp.NoneTotal
import Derived.Shelf.Strconv.ErrVarParseInt
import Derived.Shelf.Strings.SlTrimAscii
import Derived.Shelf.Strconv.Itoa4
import Derived.Lib.AppendIntMem
import Derived.Shelf.Strings.Replace
import Derived.Shelf.LaysM
import Derived.Shelf.Strings.OnBuilder
import Derived.Shelf.Strings.Cut
namespace Go.Proofs
open Go.Shelf Go.RowKit Go.Lib
variable {P:Program} {ρ:Ren}
set_option maxHeartbeats 2000000 in
set_option maxRecDepth 100000 in
theorem YteaahciglahehaaGreatDoor.Abs.clone_any (L:SlLaysE0.n41 P ρ) (i0:TypeInfo) (z:Value) (size bytes:Nat) (hi:P.info? (ρ.t 23)=some i0) (hz0:i0.zero=some z) (hz1:i0.size=size) (hz2:i0.bytes=bytes) (hzs:z.cells.size=size) (hsz:0 < size)
  (z23 : ∀ w,(Go.sizeOf (ρ.t 23)).run P w = .ok size w) (a:Addr) (n c:Nat) (news:List Value) (w:World) (hl:news.length=n*size) (hn:n≤maxLen) (hbig:n*bytes≤140737488355328)
  (hc : ∀ j u,news[j]? = some u→w.cell? (a.add j)=some u) (h1 : ∀ u∈news,u.oneCell'=true) :
  Calls P (ρ.f 41) #[.slice (some a) n c] w fun e w' => ∃ v',e = .returned v'∧w'.ownsRow w.heap.size (ρ.t 23) size v' n news∧v' ≠ .slice none 0 0∧Below w.heap.size w w':=by
 have mixed:=L.mixed; have t4:=L.t4; have a4:=L.a4; have z4:=L.z4; have v4:=L.v4; have t22:=L.t22; have a22:=L.a22; have z22:=L.z22; have v22:=L.v22
 have q22 : ∀(w:World) (a:Option Addr) (n c n' c':Nat),(binOp .eql (ρ.t 22) (.slice a n c) (.slice none n' c')).run P w = .ok (.bool a.isNone) w:=fun w a n c n' c'=>Lib.run_eql_slice_nil w _ _ a n c n' c' L.t22
 have u22 : ∀ w,Sem.run P (underlying (ρ.t 22)) w = .ok (TypeDesc.slice (ρ.t 23)) w:=run_underlying t22
 have A:Aside (∀ j u,news[j]? = some u→w.cell? (a.add j)=some u):=hc
 clear hc
 obtain⟨_,_,FG⟩:=L.f41
 go_enter FG,SlBodyN.n41_ntmps ρ
 go_wp2_with (at_builtin; refine wpList_append_own _ rfl _ _ (ρ.t 22) rfl w.heap.size (ρ.t 23) i0 z size bytes t22 hi hz0 hz1 hz2 hzs hsz _ _ _ rfl (World.ownsRow_made w #[] 0 (Nat.le_refl _) (Nat.zero_le _) (by simp)) a n c news rfl ?qc1 ?qc2 ?qc3 ?qc4 ?qc5 ?qc6 ?_)
 case qc1=>exact hl
 case qc2 =>
  intro j u hj
  exact Lib.cell?_alloc_some _ (A.out j u hj)
 case qc3=>exact h1
 case qc4=>rw[Nat.zero_add]; exact hn
 case qc5=>rw[Nat.zero_add]; exact hbig
 case qc6=>simp
 intro v' w1 hown hgrow hnil
 go_wp2
 go_ret
 refine⟨v',rfl,by simpa using hown,?_,?_⟩
 ·exact hnil
 ·exact((Below.refl _ w).alloc (Nat.le_refl _) _).grown hgrow (by simp) (by intro k hk; simp[Value.ownBlock] at hk; omega)
end Go.Proofs
set_option linter.unusedVariables false
set_option linter.unusedSimpArgs false
set_option linter.unusedSectionVars false
namespace Go.Proofs.YteaahciglahehaaGreatDoor.Abs
open Go Go.RowKit
theorem C4 {α:Type} [Inhabited α] {enc:α→List Value} {k:Nat} (hk : ∀ x,(enc x).length=k) : ∀ l:List α,(List.range (l.length*k)).map (fun t=>(enc l[t / k]!)[t % k]!)=(l.map enc).flatten
 | []=>by simp
 | x :: l=>by
  have ih:=C4 hk l
  rw[List.length_cons,Nat.add_mul,Nat.one_mul,Nat.add_comm,List.range_add,List.map_append,List.map_cons,List.flatten_cons,←ih,List.map_map]
  congr 1
  ·apply List.ext_getElem
   ·simp[hk]
   ·intro i h1 h2
    have hi:i < k:=by simpa using h1
    simp only[List.getElem_map,List.getElem_range]
    rw[Nat.div_eq_of_lt hi,Nat.mod_eq_of_lt hi]
    simp only[List.getElem!_cons_zero]
    rw[getElem!_pos _ i h2]
  ·apply List.map_congr_left
   intro t ht
   have hk0:0 < k:=by
    rcases Nat.eq_zero_or_pos k with h | h
    ·subst h
     simp at ht
    ·exact h
   simp only[Function.comp]
   rw[Nat.add_div_left _ hk0,Nat.add_mod_left]
   simp
theorem Q8 {α:Type} [Inhabited α] {enc:α→List Value} {k:Nat} (hk : ∀ x,(enc x).length=k) (d:Array α):(Sort.flatK enc k d).toList=(d.toList.map enc).flatten:=by
 rw[←C4 hk]
 unfold Sort.flatK
 rw[Array.toList_map,Array.toList_range,Array.length_toList]
 refine List.map_congr_left fun i _ => ?_
 rw[Array.getElem!_toList (xs:=d)]
theorem WQ (cur d:Array Value) (h:d.size≤cur.size):(Sort.putCells id 0 d cur).toList.take d.size=d.toList:=by
 apply List.ext_getElem?
 intro i
 rw[List.getElem?_take]
 by_cases hi:i < d.size
 ·rw[if_pos hi]
  simp only[Sort.putCells,Array.getElem?_toList,Array.getElem?_mapIdx]
  rw[Array.getElem?_eq_getElem (by omega),Array.getElem?_eq_getElem hi]
  simp[hi]
 ·rw[if_neg hi,Array.getElem?_toList,Array.getElem?_eq_none (by omega)]
theorem Sl {Gp:WP} {P:Program} {g gc:Nat} {fn:Func} {e:TypeId} {t:Ty} {own:List Bool} {live:List (Nat×List Nat)} (hn:cT t=true) (hsz:0 < t.sz) {lt:t.den→t.den→Bool} (hO:Sort.SWO lt)
  (hcon : ∀(bq cap:Nat) (d:Array t.den) (w:World),Sort.HoldsK (eZ t) t.sz w bq 0 d→bq < w.heap.size→d.size < 4611686018427387904→Calls P g #[.slice (some ⟨bq,0,none⟩) d.size cap,.func (.func gc) #[] #[]] w fun e w'=>e = .returned (.tuple #[]) ∧ ∃ n os,w'=sortWorldK (eZ t) t.sz w bq 0 n (Sort.pdq lt d 0 d.size (Lib.bitLen d.size) true true) os)
  (hnone : ∀(p:Option Addr) (cap:Nat) (fv:Value) (w:World),Calls P g #[.slice p 0 cap,fv] w fun e w'=>e = .returned (.tuple #[])∧w'=w) :
  ∀(args:List SV) (tab:aM) (z:Sh.unit.den×(Sh.pair (.row e t false) .unit).den),l4 e t gc lt args tab=some z→fp Gp P {g:=g,fn:=fn,sh := .unit,bx := .pair (.row e t false) .unit,own:=own,live:=live,rb:=true,prim:=some (l4 e t gc lt)} args tab z:=by
 intro args tab z hz
 unfold l4 at hz
 split at hz
 ·rename_i g' e' s xs
  split at hz
  ·rename_i hg'
   subst hg'
   rw[Option.bind_eq_some_iff] at hz
   obtain⟨xs',hxs,hz⟩:=hz
   obtain⟨hty,hxs⟩:=jc hxs
   cases hty
   have hxs:xs=xs':=hxs
   subst hxs
   split at hz
   ·rename_i hlen
    cases hz
    intro hcanon w γ Pr us _ hI hlim N hN vs u n bs u' n' ub hm1 hm2 hub
    cases hm1
    cases hm2
    cases hub
    have hN:1≤N:=hN
    obtain⟨v,css,hγ,hels,hown,hfr⟩:=hI.res 0 (.row e t xs false) rfl
    have hsl:=hI.slots
    cases hsl with
    | cons h1 hk =>
    cases hk with
    | cons h2 hk =>
    cases hk
    rename_i u1 u2
    cases h1 with
    | row h1 =>
    rw[hγ] at h1
    cases h1
    cases h2 with
    | fn hc =>
    cases hc
    have hcss:=(IA hn).1 hels
    have hγN : ∀ r,(if r=N then γ 0 else none)=if r=N then some (.row e t v) else none:=fun r=>by rw[hγ]
    have aO : ∀(w':World),w'.os=w.os→w'.tape=w.tape→w'.output=w.output→w.heap.size≤w'.heap.size→(∀ k,k < w.heap.size→v.ownBlock≠some k→w'.heap[k]? = w.heap[k]?) →
      w'.ownsRow 0 e t.sz v (eP lt xs).length ((eP lt xs).map (eZ t)).flatten→yf w (lV [(0,.row e t xs false)] γ) γ Pr N (N+1) [] [none] [(N,some (.row e t (eP lt xs) false))] [] (fun r=>if r=N then γ 0 else none) Pr w':=by
     intro w' hos htp hout hsize hfrm hrow
     have hloose : ∀ b,v.ownBlock=some b → ∀ o,¬Pr b o:=fun b hb o ho=>hI.loose 0 (.row e t xs false) b rfl (by simp[bq,hγ,hb]) o ho
     have hnew : ∀ r x,lW [(N,some (bb.row e t (eP lt xs) false))] r=some x→r=N∧x = .row e t (eP lt xs) false:=by
      intro r x h
      have h':(if r=N then some (bb.row e t (eP lt xs) false) else none)=some x:=h
      by_cases hr:r=N
      ·rw[if_pos hr] at h'
       exact⟨hr,(Option.some.inj h').symm⟩
      ·rw[if_neg hr] at h'
       cases h'
     have hblk : ∀ b,bq (fun r=>if r=N then γ 0 else none) N (.row e t (eP lt xs) false)=some b→v.ownBlock=some b:=by
      intro b hb
      simpa[bq,hγ] using hb
     refine⟨.nil,?_,?_,?_,?_,?_,?_,?_,?_,?_,hsize,hos,htp,hout,?_,?_,?_⟩
     ·intro r g hr
      by_cases h:r=N
      ·rw[if_pos h,hγ] at hr
       cases hr
       obtain⟨A,n,c,rfl⟩:=hI.gs 0 e t v hγ
       exact⟨⟨by omega,by omega⟩,.inl ⟨e,t,A,n,c,rfl⟩⟩
      ·rw[if_neg h] at hr
       cases hr
     ·intro j t' c hj
      rcases j with _ | j <;> simp at hj
     ·intro r x h
      obtain⟨rfl,rfl⟩:=hnew r x h
      refine⟨Nat.le_refl _,Nat.lt_succ_self _,v,(eP lt xs).map (eZ t),?_,(IA hn).2 rfl,hrow,fun h=>by cases h⟩
      exact(if_pos rfl).trans hγ
     ·intro r r' x x' b h h' hne
      exact absurd ((hnew r x h).1.trans (hnew r' x' h').1.symm) hne
     ·intro j t' c b hj
      rcases j with _ | j <;> simp at hj
     ·intro j t' c b hj
      rcases j with _ | j <;> simp at hj
     ·intro r x b h hb o ho
      obtain⟨rfl,rfl⟩:=hnew r x h
      exact absurd ho (hloose b (hblk b hb) o)
     ·intro r x b h hb
      obtain⟨rfl,rfl⟩:=hnew r x h
      exact .inl ⟨0,_,rfl,by simp[bq,hγ,hblk b hb]⟩
     ·intro k hk hx
      refine hfrm k hk fun hb=>hx ⟨0,_,rfl,by simp[bq,hγ,hb]⟩
     ·intro b o ho
      exact Nat.lt_of_lt_of_le (hI.prIn b o ho) hsize
     ·exact fun b hb hx o ho=>ho
     ·intro b o v' hv'
      refine⟨hv'.1,?_⟩
      rw[World.cell?_of_block (hfrm b (hI.prIn b o hv'.1) (fun hb=>hloose b hb o hv'.1))]
      exact hv'.2
    have hsame2 : ∀ p∈c7 true [(0,bb.row e t xs false)] [SV.row N],(fun r=>if r=N then γ 0 else none) p.1=γ p.2:=by
     intro p hp
     have:p=(N,0):=by simpa[c7] using hp
     subst this
     exact if_pos rfl
    by_cases hx0:xs=[]
    ·subst hx0
     have hs0:eP lt ([]:List t.den)=[]:=List.eq_nil_of_length_eq_zero (GR hO [])
     have hv0 : ∃ p cap,v = .slice p 0 cap:=by
      rcases hown.2 with⟨rfl,_⟩ | ⟨g,cap,cur,rfl,_⟩
      ·exact⟨_,_,rfl⟩
      ·exact⟨_,_,rfl⟩
     obtain⟨p,cap,rfl⟩:=hv0
     refine(hnone p cap _ w).mono ?_
     rintro e' w' ⟨rfl,rfl⟩
     refine⟨[],_,Pr,rfl,aO w' rfl rfl rfl (Nat.le_refl _) (fun _ _ _=>rfl) ?_,hsame2⟩
     rw[hs0]
     rw[hcss] at hown
     exact hown
    ·rcases hown.2 with⟨rfl,h0⟩ | ⟨g,cap,cur,rfl,_,hheap,hnc,hcm,hcs,htake⟩
     ·exact absurd (List.eq_nil_of_length_eq_zero h0) hx0
     ·have hflat:(Sort.flatK (eZ t) t.sz xs.toArray).toList=css.flatten:=by rw[Q8 (zl hn),hcss]
      have hflen:css.flatten.length=xs.length*t.sz:=hels.flat
      have hglt:g < w.heap.size:=(Array.getElem?_eq_some_iff.1 hheap).1
      have hmul:xs.length*t.sz≤cap*t.sz:=Nat.mul_le_mul_right _ hnc
      have hH:Sort.HoldsK (eZ t) t.sz w g 0 xs.toArray:=by
       intro j hj
       have hj':j < css.flatten.length:=by
        rw[←hflat]
        simpa using hj
       have hcell:=hown.cells (g:=g) rfl j _ (List.getElem?_eq_getElem hj')
       rw[gA] at hcell
       refine⟨?_,?_⟩
       ·rw[hcell]
        congr 1
        have:(Sort.flatK (eZ t) t.sz xs.toArray)[j]! = (Sort.flatK (eZ t) t.sz xs.toArray).toList[j]! := by
         rw[getElem!_pos _ j hj,getElem!_pos _ j (by simpa using hj)]
         simp
        show css.flatten[j]=(Sort.flatK (eZ t) t.sz xs.toArray)[j]!
        rw[this,hflat,getElem!_pos _ j hj']
       ·have:=hown.frozenAt j
        rw[Nat.zero_add]
        exact this
      have hc:=hcon g cap xs.toArray w hH hglt (by simpa using hlen)
      rw[show(xs.toArray).size=xs.length by simp] at hc
      refine hc.mono ?_
      rintro e' w' ⟨rfl,m,os,rfl⟩
      have hsl:(Sort.pdq lt xs.toArray 0 xs.length (Lib.bitLen xs.length) true true).toList=eP lt xs:=by
       unfold eP
       simp
      have hdl:=GR hO xs
      have hF:(Sort.flatK (eZ t) t.sz (Sort.pdq lt xs.toArray 0 xs.length (Lib.bitLen xs.length) true true)).toList=((eP lt xs).map (eZ t)).flatten:=by rw[Q8 (zl hn),hsl]
      have hFs:(Sort.flatK (eZ t) t.sz (Sort.pdq lt xs.toArray 0 xs.length (Lib.bitLen xs.length) true true)).size=xs.length*t.sz:=by
       rw[Sort.size_flatK,←Array.length_toList,hsl,hdl]
      have hw' : ∀ k,k≠g→k < w.heap.size→(sortWorldK (eZ t) t.sz w g 0 m (Sort.pdq lt xs.toArray 0 xs.length (Lib.bitLen xs.length) true true) os).heap[k]? = w.heap[k]? := by
       intro k hk hkl
       show((w.heap.modify g _)++os)[k]? = w.heap[k]?
       rw[Array.getElem?_append_left (by simpa using hkl),Array.getElem?_modify,if_neg (fun e=>hk e.symm)]
      have hwg:(sortWorldK (eZ t) t.sz w g 0 m (Sort.pdq lt xs.toArray 0 xs.length (Lib.bitLen xs.length) true true) os).heap[g]? = some (.cells (Sort.putCells id 0 (Sort.flatK (eZ t) t.sz (Sort.pdq lt xs.toArray 0 xs.length (Lib.bitLen xs.length) true true)) cur) e (0,0)):=by
       show((w.heap.modify g _)++os)[g]? = _
       rw[Array.getElem?_append_left (by simpa using hglt),Array.getElem?_modify,if_pos rfl,hheap]
       rfl
      refine⟨[],_,Pr,rfl,aO _ rfl rfl rfl ?_ ?_ ?_,hsame2⟩
      ·show w.heap.size≤((w.heap.modify g _)++os).size
       simp
      ·intro k hk hne
       exact hw' k (fun e=>hne (by rw[e]; rfl)) hk
      ·refine⟨?_,.inr ⟨g,cap,_,by rw[hdl],Nat.zero_le _,hwg,by omega,hcm,?_,?_⟩⟩
       ·rw[←hF,Array.length_toList,hFs,hdl]
       ·rw[show(Sort.putCells id 0 (Sort.flatK (eZ t) t.sz (Sort.pdq lt xs.toArray 0 xs.length (Lib.bitLen xs.length) true true)) cur).size=cur.size by simp[Sort.putCells]]
        exact hcs
       ·rw[hdl,←hF,←hFs]
        exact WQ _ _ (by rw[hFs,hcs]; exact hmul)
   ·cases hz
  ·cases hz
 ·cases hz
theorem yw {Gp:WP} {P:Program} {g nb:Nat} {fn:Func} {e:TypeId} {t:Ty} {own:List Bool} {live:List (Nat×List Nat)} (hn:cT t=true) (hsz:0 < t.sz) (hnb:0 < nb)
  (hnil : ∀(n c:Nat) (w:World),Calls P g #[.slice none n c] w fun e w'=>e = .returned (.slice none 0 0)∧w'=w)
  (hcl : ∀(a:Addr) (n c:Nat) (news:List Value) (w:World),news.length=n*t.sz→n≤maxLen→n*nb≤140737488355328→(∀ j u,news[j]? = some u→w.cell? (a.add j)=some u)→(∀ u∈news,u.oneCell'=true) →
   Calls P g #[.slice (some a) n c] w fun e' w' => ∃ v',e' = .returned v'∧w'.ownsRow w.heap.size e t.sz v' n news∧v' ≠ .slice none 0 0∧Below w.heap.size w w') :
  ∀(args:List SV) (tab:aM) (z:(Sh.pair (.row e t false) .unit).den×Sh.unit.den),dd e t nb args tab=some z→fp Gp P {g:=g,fn:=fn,sh := .pair (.row e t false) .unit,bx := .unit,own:=own,live:=live,prim:=some (dd e t nb)} args tab z:=by
 intro args tab z hz
 unfold dd at hz
 split at hz
 ·rename_i s xs
  rw[Option.bind_eq_some_iff] at hz
  obtain⟨xs',hxs,hz⟩:=hz
  obtain⟨rfl,hxs⟩:=jc hxs
  have hxs:xs=xs':=hxs
  subst hxs
  split at hz
  ·rename_i hlen
   cases hz
   intro hcanon w γ Pr us _ hI hlim N hN vs u n bs u' n' ub hm1 hm2 hub
   cases hm1
   cases hm2
   cases hub
   have hsl:=hI.slots
   cases hsl with
   | cons h1 hk =>
   cases hk
   cases h1 with
   | val h1 =>
   obtain⟨A,cap,rfl,hcap,hA⟩:=h1
   have aO : ∀(v:Value) (w':World),Below w.heap.size w w'→w'.ownsRow w.heap.size e t.sz v (xs:List t.den).length ((xs:List t.den).map (eZ t)).flatten→yf w (lV [] γ) γ Pr N (N+1) [.row N] [] [(N,some (.row e t xs false))] [v] (fun r=>if r=N then some (.row e t v) else none) Pr w':=by
    intro v w' hB hrow
    have hnew : ∀ r x,lW [(N,some (bb.row e t xs false))] r=some x→r=N∧x = .row e t xs false:=by
     intro r x h
     have h':(if r=N then some (bb.row e t xs false) else none)=some x:=h
     by_cases hr:r=N
     ·rw[if_pos hr] at h'
      exact⟨hr,(Option.some.inj h').symm⟩
     ·rw[if_neg hr] at h'
      cases h'
    have hblk : ∀ b,bq (fun r=>if r=N then some (G.row e t v) else none) N (.row e t xs false)=some b→w.heap.size≤b:=by
     intro b hb
     have:v.ownBlock=some b:=by simpa[bq] using hb
     exact(hrow.lt b this).1
    refine⟨.cons (.row (if_pos rfl)) .nil,?_,?_,?_,?_,?_,?_,?_,?_,?_,hB.size,hB.os,hB.tape,hB.output,?_,?_,?_⟩
    ·intro r g hr
     by_cases h:r=N
     ·rw[if_pos h] at hr
      cases hr
      have : ∃ A n c,v = .slice A n c:=by
       rcases hrow.2 with⟨rfl,_⟩ | ⟨g,cap,cur,rfl,_⟩
       ·exact⟨_,_,_,rfl⟩
       ·exact⟨_,_,_,rfl⟩
      obtain⟨A,n,c,rfl⟩:=this
      exact⟨⟨by omega,by omega⟩,.inl ⟨e,t,A,n,c,rfl⟩⟩
     ·rw[if_neg h] at hr
      cases hr
    ·intro j t' c hj
     simp at hj
    ·intro r x h
     obtain⟨rfl,rfl⟩:=hnew r x h
     exact⟨Nat.le_refl _,Nat.lt_succ_self _,v,_,if_pos rfl,(IA hn).2 rfl,aaE hrow,fun h=>by cases h⟩
    ·intro r r' x x' b h h' hne
     exact absurd ((hnew r x h).1.trans (hnew r' x' h').1.symm) hne
    ·intro j t' c b hj
     simp at hj
    ·intro j t' c b hj
     simp at hj
    ·intro r x b h hb o ho
     obtain⟨rfl,rfl⟩:=hnew r x h
     have:=hblk b hb
     have:=hI.prIn b o ho
     omega
    ·intro r x b h hb
     obtain⟨rfl,rfl⟩:=hnew r x h
     exact .inr (hblk b hb)
    ·exact fun k hk _=>hB.block k hk
    ·exact fun b o ho=>Nat.lt_of_lt_of_le (hI.prIn b o ho) hB.size
    ·exact fun b hb hx o ho=>ho
    ·intro b o v' hv'
     refine⟨hv'.1,?_⟩
     rw[World.cell?_of_block (hB.block b (hI.prIn b o hv'.1))]
     exact hv'.2
   have hmax:(xs:List t.den).length≤maxLen:=by
    have h1:(xs:List t.den).length*1≤(xs:List t.den).length*nb:=Nat.mul_le_mul_left _ hnb
    simp only[maxLen]
    omega
   cases A with
   | none =>
    have hx0:(xs:List t.den)=[]:=by
     rcases List.eq_nil_or_concat (xs:List t.den) with h | ⟨_,_,h⟩
     ·exact h
     ·obtain⟨b,o,hh,_⟩:=hA (by rw[h]; simp)
      cases hh
    subst hx0
    refine(hnil 0 cap w).mono ?_
    rintro e' w' ⟨rfl,rfl⟩
    refine⟨[.slice none 0 0],_,Pr,rfl,aO _ _ (Below.refl _ _) ?_,fun p hp=>by have hp':p∈([]:List (Nat×Nat)):=hp; cases hp'⟩
    exact World.ownsRow_nil _ _ _ _
   | some a =>
    have hfl:((xs:List t.den).map (eZ t)).flatten=(List.range ((xs:List t.den).length*t.sz)).map (fun j=>(eZ t (xs:List t.den)[j / t.sz]!)[j % t.sz]!):=(C4 (zl hn) xs).symm
    refine(hcl a (xs:List t.den).length cap ((xs:List t.den).map (eZ t)).flatten w ?_ hmax hlen ?_ ?_).mono ?_
    ·rw[hfl]
     simp
    ·intro j u hj
     rw[hfl] at hj
     obtain⟨hj1,hj2⟩:=List.getElem?_eq_some_iff.1 hj
     have hjl:j < (xs:List t.den).length*t.sz:=by simpa using hj1
     have hne:(xs:List t.den)≠[]:=by
      intro h
      rw[h] at hjl
      simp at hjl
     obtain⟨b,o,hab,hcells⟩:=hA hne
     cases hab
     have hi:j / t.sz < (xs:List t.den).length:=Nat.div_lt_of_lt_mul (by rw[Nat.mul_comm]; exact hjl)
     obtain⟨c,hc1,hc2⟩:=hcells (j / t.sz) hi
     have hcc:=(nT hn).1 hc1
     have hm:j % t.sz < c.length:=by
      rw[hcc,zl hn]
      exact Nat.mod_lt _ hsz
     have:=(hc2 (j % t.sz) _ (List.getElem?_eq_getElem hm)).2
     rw[gA]
     have e1:o+j / t.sz*t.sz+j % t.sz=o+j:=by
      rw[Nat.add_assoc,Nat.mul_comm,Nat.div_add_mod]
     rw[e1] at this
     rw[this]
     congr 1
     rw[←hj2]
     simp only[List.getElem_map,List.getElem_range]
     rw[getElem!_pos (xs:List t.den) _ hi]
     subst hcc
     rw[getElem!_pos (eZ t (xs:List t.den)[j / t.sz]) (j % t.sz) hm]
    ·intro u hu
     rw[List.mem_flatten] at hu
     obtain⟨l,hl,hu⟩:=hu
     obtain⟨x,_,rfl⟩:=List.mem_map.1 hl
     exact QO hn x u hu
    ·rintro e' w' ⟨v',rfl,hrow,_,hB⟩
     exact⟨[v'],_,Pr,rfl,aO _ _ hB hrow,fun p hp=>by have hp':p∈([]:List (Nat×Nat)):=hp; cases hp'⟩
  ·cases hz
 ·cases hz
end Go.Proofs.YteaahciglahehaaGreatDoor.Abs
namespace Go.Proofs
open Go.Shelf Go.RowKit Go.Lib Go.Sort
def Tryz.cmpInt64_ren:Go.Shelf.Ren:=⟨fun | 5=>97 | 7=>140 | n=>n,fun | 22=>2 | 3=>3 | 4=>4 | n=>n,fun | n=>n⟩
theorem Tryz.cmpInt64:Go.Proofs.SlLaysC2.n5 Tryz.prog Tryz.cmpInt64_ren:={
 mixed:=by kernel_rfl
 f5:=⟨Tryz.f97.name,by decide,Tryz.func97.trans (congrArg some (by kernel_rfl))⟩
 f7:=⟨Tryz.f140.name,by decide,Tryz.func140.trans (congrArg some (by kernel_rfl))⟩
 t3:=Tryz.underlying3
 a3:=Tryz.isAgg3
 z3:=Tryz.sizeOf3
 v3:=Tryz.zeroValue3
 t4:=Tryz.underlying4
 a4:=Tryz.isAgg4
 z4:=Tryz.sizeOf4
 v4:=Tryz.zeroValue4
 t22:=Tryz.underlying2
 a22:=Tryz.isAgg2
 z22:=Tryz.sizeOf2
 v22:=Tryz.zeroValue2}
def YteaahciglahehaaGreatDoor.Abs.orI (x y:Int):Int:=if x=0 then y else x
set_option maxHeartbeats 1000000 in
theorem YteaahciglahehaaGreatDoor.Abs.or2 (b:Nat) (x y:Int) (W:World) (h0:W.cell? ⟨b,0,none⟩=some (.int .i64 x)) (h1:W.cell? ⟨b,1,none⟩=some (.int .i64 y)):Calls Tryz.prog 96 #[.slice (some ⟨b,0,none⟩) 2 2] W fun e w'=>e = .returned (.int .i64 (YteaahciglahehaaGreatDoor.Abs.orI x y))∧w'=W:=by
 show Calls _ _ _ _ fun e w'=>e = .returned (.int .i64 (if x=0 then y else x))∧w'=W
 go_enter Tryz.func96,Tryz.ntmps96
 go_wp2
 go_rounds 3
 all_goals (try (go_ret; refine⟨?_,rfl⟩; simp_all; done))
theorem YteaahciglahehaaGreatDoor.Abs.cell2 (W:World) (x y:Value) (T:TypeId):(W.alloc (.cells #[x,y] T)).cell? ⟨W.heap.size,0,none⟩=some x∧(W.alloc (.cells #[x,y] T)).cell? ⟨W.heap.size,1,none⟩=some y:=by
 rw[World.cell?_alloc_at _ _ _ _ rfl,World.cell?_alloc_at _ _ _ _ rfl]
 exact⟨rfl,rfl⟩
theorem YteaahciglahehaaGreatDoor.Abs.grow3 (W:World) (o1 o2 o3:Obj):((W.alloc o1).alloc o2).drew.alloc o3=grow (W.drewN 1) (#[o1] ++ #[o2] ++ #[o3]):=by
 rw[alloc_eq_grow,alloc_eq_grow,alloc_eq_grow,grow_grow]
 show grow (grow (W.drewN 1) (#[o1] ++ #[o2])) #[o3]=_
 rw[grow_grow]
set_option maxRecDepth 100000 in
set_option maxHeartbeats 2000000 in
theorem YteaahciglahehaaGreatDoor.Abs.cmpRefs (a1 a2 b1 b2:Int) (W:World):Calls Tryz.prog 72 #[.agg #[.int .i64 a1,.int .i64 a2],.agg #[.int .i64 b1,.int .i64 b2]] W fun e w'=>e = .returned (.int .i64 (YteaahciglahehaaGreatDoor.Abs.orI (Lib.compareInt a2 b2) (Lib.compareInt a1 b1))) ∧ ∃ q os',w'=grow (W.drewN q) os':=by
 have hcon:=fun(x y:Int) W'=>AnyG.cmp_Compare_int Tryz.cmpInt64 x y W'
 change ∀(x y:Int) W',Calls Tryz.prog 97 _ _ _ at hcon
 have hor:=YteaahciglahehaaGreatDoor.Abs.or2
 go_enter Tryz.func72,Tryz.ntmps72
 go_wp2_with (first | (go_at_call 97; refine(hcon _ _ _).mono ?_; rintro e w' ⟨rfl,rfl⟩) | (go_at_call 96; refine(hor _ _ _ _ ?_ ?_).mono ?_))
 refine wp_region_still_tail 10 (by kernel_rfl) (by kernel_rfl) ?_
 change wpStill _ _ (World.drew _) (fun a'=>wpList _ _ _ _ a' (World.drew _)) _ _
 simp only[List.take_succ_cons,List.take_zero,List.drop_succ_cons,List.drop_zero]
 iterate 4 still_step
 still_call (hcon _ _ _)
 iterate 4 still_step
 still_call (hcon _ _ _)
 refine wpStill_nil ?_
 generalize hw2:World.drew _=w2
 go_wp2_with (go_at_call 96; refine(hor _ _ _ _ (YteaahciglahehaaGreatDoor.Abs.cell2 _ _ _ _).1 (YteaahciglahehaaGreatDoor.Abs.cell2 _ _ _ _).2).mono ?_; rintro e w' ⟨rfl,rfl⟩)
 go_ret
 subst hw2
 exact⟨rfl,1,_,YteaahciglahehaaGreatDoor.Abs.grow3 _ _ _ _⟩
end Go.Proofs
namespace Go.Proofs
open Go.Shelf Go.RowKit Go.Lib Go.Sort
def Tryz.clCell_ren:Go.Shelf.Ren:=⟨fun | 41=>31 | n=>n,fun | 22=>26 | 23=>59 | 4=>4 | n=>n,fun | n=>n⟩
theorem Tryz.clCell:Go.Proofs.SlLaysE0.n41 Tryz.prog Tryz.clCell_ren:={
 mixed:=by kernel_rfl
 f41:=⟨Tryz.f31.name,by decide,Tryz.func31.trans (congrArg some (by kernel_rfl))⟩
 t4:=Tryz.underlying4
 a4:=Tryz.isAgg4
 z4:=Tryz.sizeOf4
 v4:=Tryz.zeroValue4
 t22:=Tryz.underlying26
 a22:=Tryz.isAgg26
 z22:=Tryz.sizeOf26
 v22:=Tryz.zeroValue26}
def Tryz.sortCell_ren:Go.Shelf.Ren:=⟨fun | 6=>116 | 15=>173 | 14=>172 | 28=>235 | 29=>236 | 20=>227 | 21=>228 | 22=>229 | 23=>230 | 24=>231 | 25=>232 | 26=>233 | 27=>234 | 46=>270 | 47=>271 | 48=>272 | 49=>273 | 50=>274 | 57=>295 | n=>n,fun | 22=>26 | 24=>59 | 25=>147 | 3=>3 | 39=>195 | 0=>0 | 53=>239 | 55=>241 | 4=>4 | 46=>232 | 45=>231 | 50=>236 | 5=>5 | 9=>9 | 66=>264 | 70=>268 | 76=>285 | 77=>286 | n=>n,fun | n=>n⟩
theorem Tryz.sortCell:Go.Proofs.SlLaysF0.n6 Tryz.prog Tryz.sortCell_ren:={
 mixed:=by kernel_rfl
 f6:=⟨Tryz.f116.name,by decide,Tryz.func116.trans (congrArg some (by kernel_rfl))⟩
 f14:=⟨Tryz.f172.name,by decide,Tryz.func172.trans (congrArg some (by kernel_rfl))⟩
 f15:=Tryz.func173.trans (congrArg some (by kernel_rfl))
 f20:=⟨Tryz.f227.name,by decide,Tryz.func227.trans (congrArg some (by kernel_rfl))⟩
 f21:=⟨Tryz.f228.name,by decide,Tryz.func228.trans (congrArg some (by kernel_rfl))⟩
 f22:=⟨Tryz.f229.name,by decide,Tryz.func229.trans (congrArg some (by kernel_rfl))⟩
 f23:=⟨Tryz.f230.name,by decide,Tryz.func230.trans (congrArg some (by kernel_rfl))⟩
 f24:=⟨Tryz.f231.name,by decide,Tryz.func231.trans (congrArg some (by kernel_rfl))⟩
 f25:=⟨Tryz.f232.name,by decide,Tryz.func232.trans (congrArg some (by kernel_rfl))⟩
 f26:=⟨Tryz.f233.name,by decide,Tryz.func233.trans (congrArg some (by kernel_rfl))⟩
 f27:=⟨Tryz.f234.name,by decide,Tryz.func234.trans (congrArg some (by kernel_rfl))⟩
 f28:=Tryz.func235.trans (congrArg some (by kernel_rfl))
 f29:=Tryz.func236.trans (congrArg some (by kernel_rfl))
 f46:=⟨Tryz.f270.name,by decide,Tryz.func270.trans (congrArg some (by kernel_rfl))⟩
 f47:=Tryz.func271.trans (congrArg some (by kernel_rfl))
 f48:=Tryz.func272.trans (congrArg some (by kernel_rfl))
 f49:=⟨Tryz.f273.name,by decide,Tryz.func273.trans (congrArg some (by kernel_rfl))⟩
 f50:=⟨Tryz.f274.name,by decide,Tryz.func274.trans (congrArg some (by kernel_rfl))⟩
 f57:=⟨Tryz.f295.name,by decide,Tryz.func295.trans (congrArg some (by kernel_rfl))⟩
 t0:=Tryz.underlying0
 a0:=Tryz.isAgg0
 z0:=Tryz.sizeOf0
 v0:=Tryz.zeroValue0
 t3:=Tryz.underlying3
 a3:=Tryz.isAgg3
 z3:=Tryz.sizeOf3
 v3:=Tryz.zeroValue3
 t4:=Tryz.underlying4
 a4:=Tryz.isAgg4
 z4:=Tryz.sizeOf4
 v4:=Tryz.zeroValue4
 t5:=Tryz.underlying5
 a5:=Tryz.isAgg5
 z5:=Tryz.sizeOf5
 v5:=Tryz.zeroValue5
 t9:=Tryz.underlying9
 a9:=Tryz.isAgg9
 z9:=Tryz.sizeOf9
 v9:=Tryz.zeroValue9
 t22:=Tryz.underlying26
 a22:=Tryz.isAgg26
 z22:=Tryz.sizeOf26
 v22:=Tryz.zeroValue26
 t25:=Tryz.underlying147
 a25:=Tryz.isAgg147
 z25:=Tryz.sizeOf147
 v25:=Tryz.zeroValue147
 t39:=Tryz.underlying195
 a39:=Tryz.isAgg195
 z39:=Tryz.sizeOf195
 v39:=Tryz.zeroValue195
 t45:=Tryz.underlying231
 a45:=Tryz.isAgg231
 z45:=Tryz.sizeOf231
 v45:=Tryz.zeroValue231
 t46:=Tryz.underlying232
 a46:=Tryz.isAgg232
 z46:=Tryz.sizeOf232
 v46:=Tryz.zeroValue232
 t50:=Tryz.underlying236
 a50:=Tryz.isAgg236
 z50:=Tryz.sizeOf236
 v50:=Tryz.zeroValue236
 t53:=Tryz.underlying239
 a53:=Tryz.isAgg239
 z53:=Tryz.sizeOf239
 v53:=Tryz.zeroValue239
 t55:=Tryz.underlying241
 a55:=Tryz.isAgg241
 z55:=Tryz.sizeOf241
 v55:=Tryz.zeroValue241
 t66:=Tryz.underlying264
 a66:=Tryz.isAgg264
 z66:=Tryz.sizeOf264
 v66:=Tryz.zeroValue264
 t70:=Tryz.underlying268
 a70:=Tryz.isAgg268
 z70:=Tryz.sizeOf268
 v70:=Tryz.zeroValue268
 t76:=Tryz.underlying285
 a76:=Tryz.isAgg285
 z76:=Tryz.sizeOf285
 v76:=Tryz.zeroValue285
 t77:=Tryz.underlying286
 a77:=Tryz.isAgg286
 z77:=Tryz.sizeOf286
 v77:=Tryz.zeroValue286}
set_option maxHeartbeats 1000000 in
theorem YteaahciglahehaaGreatDoor.Abs.closureCell (a1 a2 b1 b2:Int) (s t:ByteArray) (W:World):Calls Tryz.prog 117 #[.agg #[.int .i64 a1,.int .i64 a2,.string s],.agg #[.int .i64 b1,.int .i64 b2,.string t]] W fun e w'=>e = .returned (.int .i64 (YteaahciglahehaaGreatDoor.Abs.orI (Lib.compareInt a2 b2) (Lib.compareInt a1 b1))) ∧ ∃ q os',w'=grow (W.drewN q) os':=by
 have hcon:=fun W'=>YteaahciglahehaaGreatDoor.Abs.cmpRefs a1 a2 b1 b2 W'
 generalize YteaahciglahehaaGreatDoor.Abs.orI (Lib.compareInt a2 b2) (Lib.compareInt a1 b1)=r at hcon ⊢
 go_enter Tryz.func117,Tryz.ntmps117
 go_wp2_with (go_at_call 72; refine(hcon _).mono ?_; rintro e w' ⟨rfl,q,os',rfl⟩)
 go_ret
 exact⟨rfl,q,_,by rw[alloc_eq_grow,alloc_eq_grow,grow_grow]; show grow (grow (W.drewN q) _) os'=_; exact grow_grow _ _ _⟩
end Go.Proofs
namespace Go.Proofs.YteaahciglahehaaGreatDoor.Abs
open Go Go.Shelf Go.RowKit Go.Lib Go.Sort
theorem Zv (a1 a2 b1 b2:Int):decide (orI (Lib.compareInt a2 b2) (Lib.compareInt a1 b1) < 0)=(decide (a2 < b2) || (decide (a2=b2) && decide (a1 < b1))):=by
 unfold orI Lib.compareInt
 by_cases h1:a2 < b2
 ·simp[h1]
 ·by_cases h2:b2 < a2
  ·have : ¬a2=b2:=by omega
   simp[h1,h2,this]
  ·have:a2=b2:=by omega
   by_cases h3:a1 < b1
   ·simp[h1,h2,h3,this]
   ·by_cases h4:b1 < a1
    ·simp[h1,h2,h3,h4,this]
    ·simp[h1,h2,h3,h4,this]
def yx (a1 a2 b1 b2:Int):Bool:=decide (a2 < b2) || (decide (a2=b2) && decide (a1 < b1))
theorem WR (a1 a2:Int):yx a1 a2 a1 a2=false:=by simp[yx]
theorem Sm {a1 a2 b1 b2 c1 c2:Int} (h:yx a1 a2 b1 b2=true) (k:yx b1 b2 c1 c2=true):yx a1 a2 c1 c2=true:=by
 simp only[yx,Bool.or_eq_true,Bool.and_eq_true,decide_eq_true_eq] at *
 omega
theorem Pw {a1 a2 b1 b2 c1 c2:Int} (h:yx a1 a2 b1 b2=false) (k:yx b1 b2 c1 c2=false):yx a1 a2 c1 c2=false:=by
 simp only[yx,Bool.or_eq_false_iff,Bool.and_eq_false_iff,decide_eq_false_iff_not] at *
 omega
set_option maxRecDepth 100000 in
theorem Sn {Gp:WP} : ∀(args:List SV) (tab:aM) (z:fN.sh.den×fN.bx.den),dd 59 aj 32 args tab=some z→fp Gp Tryz.prog fN args tab z:=by
 refine yw (P:=Tryz.prog) (g:=31) (nb:=32) (fn:=Tryz.f31) (e:=59) (t:=aj) (own:=[]) (live:=[]) rfl (by decide) (by decide) ?_ ?_
 ·exact fun n c w=>AnyE.slices_Clone_nil Tryz.clCell n c w
 ·exact fun a n c news w h1 h2 h3 h4 h5=>clone_any Tryz.clCell _ _ 3 32 rfl rfl (by kernel_rfl) (by kernel_rfl) (by kernel_rfl) (by decide) Tryz.sizeOf59 a n c news w h1 h2 h3 h4 h5
def Zw (x y:aj.den):Int:=orI (Lib.compareInt x.1.2.1 y.1.2.1) (Lib.compareInt x.1.1 y.1.1)
def Hh (a b:aj.den):Bool:=decide (a.1.2.1 < b.1.2.1) || (decide (a.1.2.1=b.1.2.1) && decide (a.1.1 < b.1.1))
theorem KF:ltOf Zw=Hh:=by
 funext x y
 exact Zv x.1.1 x.1.2.1 y.1.1 y.1.2.1
theorem M6:Sort.SWO (α:=aj.den) Hh where
 irrefl x:=WR x.1.1 x.1.2.1
 trans x y z h k:=Sm (a1:=x.1.1) (a2:=x.1.2.1) (b1:=y.1.1) (b2:=y.1.2.1) (c1:=z.1.1) (c2:=z.1.2.1) h k
 ntrans x y z h k:=Pw (a1:=x.1.1) (a2:=x.1.2.1) (b1:=y.1.1) (b2:=y.1.2.1) (c1:=z.1.1) (c2:=z.1.2.1) h k
theorem M7 (bq off size:Nat) (w:World):CmpLays Tryz.prog 117 #[] (eZ aj) 3 Zw bq off size w :=
 fun _ _ _ _ x y=>closureCell x.1.1 x.1.2.1 y.1.1 y.1.2.1 x.2.1 y.2.1 _
set_option maxRecDepth 100000 in
theorem Hi {Gp:WP} : ∀(args:List SV) (tab:aM) (z:Sh.unit.den×(Sh.pair (.row 59 aj false) .unit).den),l4 59 aj 117 Hh args tab=some z→fp Gp Tryz.prog {g:=116,fn:=Tryz.f116,sh := .unit,bx := .pair (.row 59 aj false) .unit,own:=[true,false],live:=[],rb:=true,prim:=some (l4 59 aj 117 Hh)} args tab z:=by
 refine Sl (P:=Tryz.prog) (g:=116) (gc:=117) (fn:=Tryz.f116) (e:=59) (t:=aj) (own:=[true,false]) (live:=[]) rfl (by decide) M6 ?_ ?_
 ·intro bq cap d w hH hblk hsz
  have eg : ∀ args w,(callFunc 117 args).run Tryz.prog w = .ok (.enter 117 args) w:=enters_of Tryz.func117 (by kernel_rfl) rfl
  have h:=AnyQ.slices_SortFunc_eq Tryz.sortCell 3 Tryz.isAgg59 Tryz.sizeOf59 (eZ aj) (fun x=>zl rfl x) (fun x=>QO rfl x) Zw (by rw[KF]; exact M6) 117 #[] bq 0 cap d w eg (M7 bq 0 d.size w) hH hblk hsz
  rw[KF] at h
  exact h
 ·exact fun p cap fv w=>AnyF.slices_SortFunc_none {Tryz.sortCell with} p cap fv w
end Go.Proofs.YteaahciglahehaaGreatDoor.Abs
namespace Go.Proofs
open Go.Shelf Go.RowKit Go.Lib
def Tryz.layParseInt_ren:Go.Shelf.Ren:=⟨fun | 174=>143 | 247=>196 | 245=>197 | 287=>243 | 279=>244 | 280=>245 | 281=>246 | 282=>247 | 321=>278 | 322=>279 | 316=>280 | 171=>282 | 205=>281 | 243=>301 | 246=>226 | 283=>266 | 284=>267 | 285=>268 | 286=>269 | 129=>236 | 317=>291 | 318=>292 | 319=>293 | 320=>294 | 337=>308 | 338=>309 | n=>n,fun | 9=>9 | 3=>3 | 2=>2 | 75=>176 | 85=>177 | 4=>4 | 167=>245 | 5=>5 | 53=>241 | 175=>246 | 46=>195 | 168=>248 | 37=>94 | 0=>0 | 210=>274 | 21=>21 | 127=>294 | 145=>297 | 143=>295 | 171=>260 | 173=>262 | 212=>283 | 51=>239 | 20=>20 | 213=>284 | 232=>304 | 233=>305 | 80=>180 | n=>n,fun | 15=>0 | 16=>1 | 17=>2 | 18=>6 | 19=>7 | n=>n⟩
theorem Tryz.layParseInt:Go.Proofs.LaysC.n174 Tryz.prog Tryz.layParseInt_ren:={
 mixed:=by kernel_rfl
 f129:=Tryz.func236.trans (congrArg some (by kernel_rfl))
 f171:=Tryz.func282.trans (congrArg some (by kernel_rfl))
 f174:=Tryz.func143.trans (congrArg some (by kernel_rfl))
 f205:=Tryz.func281.trans (congrArg some (by kernel_rfl))
 f243:=Tryz.func301.trans (congrArg some (by kernel_rfl))
 f245:=Tryz.func197.trans (congrArg some (by kernel_rfl))
 f246:=Tryz.func226.trans (congrArg some (by kernel_rfl))
 f247:=Tryz.func196.trans (congrArg some (by kernel_rfl))
 f279:=Tryz.func244.trans (congrArg some (by kernel_rfl))
 f280:=Tryz.func245.trans (congrArg some (by kernel_rfl))
 f281:=Tryz.func246.trans (congrArg some (by kernel_rfl))
 f282:=Tryz.func247.trans (congrArg some (by kernel_rfl))
 f283:=Tryz.func266.trans (congrArg some (by kernel_rfl))
 f284:=Tryz.func267.trans (congrArg some (by kernel_rfl))
 f285:=Tryz.func268.trans (congrArg some (by kernel_rfl))
 f286:=Tryz.func269.trans (congrArg some (by kernel_rfl))
 f287:=Tryz.func243.trans (congrArg some (by kernel_rfl))
 f316:=Tryz.func280.trans (congrArg some (by kernel_rfl))
 f317:=Tryz.func291.trans (congrArg some (by kernel_rfl))
 f318:=Tryz.func292.trans (congrArg some (by kernel_rfl))
 f319:=Tryz.func293.trans (congrArg some (by kernel_rfl))
 f320:=Tryz.func294.trans (congrArg some (by kernel_rfl))
 f321:=Tryz.func278.trans (congrArg some (by kernel_rfl))
 f322:=Tryz.func279.trans (congrArg some (by kernel_rfl))
 f337:=Tryz.func308.trans (congrArg some (by kernel_rfl))
 f338:=Tryz.func309.trans (congrArg some (by kernel_rfl))
 t0:=Tryz.underlying0
 a0:=Tryz.isAgg0
 z0:=Tryz.sizeOf0
 v0:=Tryz.zeroValue0
 t2:=Tryz.underlying2
 a2:=Tryz.isAgg2
 z2:=Tryz.sizeOf2
 v2:=Tryz.zeroValue2
 t3:=Tryz.underlying3
 a3:=Tryz.isAgg3
 z3:=Tryz.sizeOf3
 v3:=Tryz.zeroValue3
 t4:=Tryz.underlying4
 a4:=Tryz.isAgg4
 z4:=Tryz.sizeOf4
 v4:=Tryz.zeroValue4
 t5:=Tryz.underlying5
 a5:=Tryz.isAgg5
 z5:=Tryz.sizeOf5
 v5:=Tryz.zeroValue5
 t9:=Tryz.underlying9
 a9:=Tryz.isAgg9
 z9:=Tryz.sizeOf9
 v9:=Tryz.zeroValue9
 t20:=Tryz.underlying20
 a20:=Tryz.isAgg20
 z20:=Tryz.sizeOf20
 v20:=Tryz.zeroValue20
 t21:=Tryz.underlying21
 a21:=Tryz.isAgg21
 z21:=Tryz.sizeOf21
 v21:=Tryz.zeroValue21
 t37:=Tryz.underlying94
 a37:=Tryz.isAgg94
 z37:=Tryz.sizeOf94
 v37:=Tryz.zeroValue94
 t46:=Tryz.underlying195
 a46:=Tryz.isAgg195
 z46:=Tryz.sizeOf195
 v46:=Tryz.zeroValue195
 t51:=Tryz.underlying239
 a51:=Tryz.isAgg239
 z51:=Tryz.sizeOf239
 v51:=Tryz.zeroValue239
 t53:=Tryz.underlying241
 a53:=Tryz.isAgg241
 z53:=Tryz.sizeOf241
 v53:=Tryz.zeroValue241
 t75:=Tryz.underlying176
 a75:=Tryz.isAgg176
 z75:=Tryz.sizeOf176
 v75:=Tryz.zeroValue176
 t85:=Tryz.underlying177
 a85:=Tryz.isAgg177
 z85:=Tryz.sizeOf177
 v85:=Tryz.zeroValue177
 t127:=Tryz.underlying294
 a127:=Tryz.isAgg294
 z127:=Tryz.sizeOf294
 v127:=Tryz.zeroValue294
 t143:=Tryz.underlying295
 a143:=Tryz.isAgg295
 z143:=Tryz.sizeOf295
 v143:=Tryz.zeroValue295
 t145:=Tryz.underlying297
 a145:=Tryz.isAgg297
 z145:=Tryz.sizeOf297
 v145:=Tryz.zeroValue297
 t167:=Tryz.underlying245
 a167:=Tryz.isAgg245
 z167:=Tryz.sizeOf245
 v167:=Tryz.zeroValue245
 t168:=Tryz.underlying248
 a168:=Tryz.isAgg248
 z168:=Tryz.sizeOf248
 v168:=Tryz.zeroValue248
 t171:=Tryz.underlying260
 a171:=Tryz.isAgg260
 z171:=Tryz.sizeOf260
 v171:=Tryz.zeroValue260
 t173:=Tryz.underlying262
 a173:=Tryz.isAgg262
 z173:=Tryz.sizeOf262
 v173:=Tryz.zeroValue262
 t175:=Tryz.underlying246
 a175:=Tryz.isAgg246
 z175:=Tryz.sizeOf246
 v175:=Tryz.zeroValue246
 t210:=Tryz.underlying274
 a210:=Tryz.isAgg274
 z210:=Tryz.sizeOf274
 v210:=Tryz.zeroValue274
 t212:=Tryz.underlying283
 a212:=Tryz.isAgg283
 z212:=Tryz.sizeOf283
 v212:=Tryz.zeroValue283
 t213:=Tryz.underlying284
 a213:=Tryz.isAgg284
 z213:=Tryz.sizeOf284
 t232:=Tryz.underlying304
 a232:=Tryz.isAgg304
 z232:=Tryz.sizeOf304
 v232:=Tryz.zeroValue304
 t233:=Tryz.underlying305
 a233:=Tryz.isAgg305
 z233:=Tryz.sizeOf305
 v233:=Tryz.zeroValue305
 g15:=by kernel_rfl
 g16:=by kernel_rfl
 g17:=by kernel_rfl
 g18:=by kernel_rfl
 g19:=by kernel_rfl
 t80:=Tryz.underlying180
 a80:=Tryz.isAgg180
 z80:=Tryz.sizeOf180
 v80:=Tryz.zeroValue180
 i0:=by kernel_rfl
 i2:=by kernel_rfl
 i3:=by kernel_rfl
 i4:=by kernel_rfl
 i5:=by kernel_rfl
 i9:=by kernel_rfl
 i20:=by kernel_rfl
 i21:=by kernel_rfl
 i37:=by kernel_rfl
 i46:=by kernel_rfl
 i51:=by kernel_rfl
 i53:=by kernel_rfl
 i75:=by kernel_rfl
 i80:=by kernel_rfl
 i85:=by kernel_rfl
 i127:=by kernel_rfl
 i143:=by kernel_rfl
 i145:=by kernel_rfl
 i167:=by kernel_rfl
 i168:=by kernel_rfl
 i171:=by kernel_rfl
 i173:=by kernel_rfl
 i175:=by kernel_rfl
 i210:=by kernel_rfl
 i212:=by kernel_rfl
 i232:=by kernel_rfl
 i233:=by kernel_rfl
 m15:=by kernel_rfl
 m16:=by kernel_rfl
 m17:=by kernel_rfl
 m18:=by kernel_rfl
 m19:=by kernel_rfl
 c0:=by kernel_rfl
 c2:=by kernel_rfl
 c3:=by kernel_rfl
 c4:=by kernel_rfl
 c5:=by kernel_rfl
 c9:=by kernel_rfl
 c20:=by kernel_rfl
 c21:=by kernel_rfl
 c37:=by kernel_rfl
 c46:=by kernel_rfl
 c51:=by kernel_rfl
 c53:=by kernel_rfl
 c75:=by kernel_rfl
 c80:=by kernel_rfl
 c85:=by kernel_rfl
 c127:=by kernel_rfl
 c143:=by kernel_rfl
 c145:=by kernel_rfl
 c167:=by kernel_rfl
 c168:=by kernel_rfl
 c171:=by kernel_rfl
 c173:=by kernel_rfl
 c175:=by kernel_rfl
 c210:=by kernel_rfl
 c212:=by kernel_rfl
 c213:=by kernel_rfl
 c232:=by kernel_rfl
 c233:=by kernel_rfl}
end Go.Proofs
namespace Go.Proofs.YteaahciglahehaaGreatDoor.Abs
open Go Go.Shelf Go.RowKit Go.Lib
theorem Px {l:List iB} (hm1:GU "strconv.ErrSyntax" ∈ l) (hm2:GU "strconv.ErrRange" ∈ l) : ∀(args:List SV) (tab:aM) (z:(Sh.pair (.val (.int .i64)) (.pair (.val .err) .unit)).den×Sh.unit.den),qh args tab=some z→fp (eQ Tryz.prog l) Tryz.prog l7 args tab z:=by
 intro args tab z hz
 unfold qh at hz
 split at hz
 ·rename_i s p q
  split at hz
  ·rename_i h
   cases hz
   refine kB (sh:=Sh.pair (.val (.int .i64)) (.pair (.val .err) .unit)) (fun _=>rfl) ?_ (fun _ _ h=>h.none)
   intro w Pr γ us hG hPr hu
   cases hu with
   | cons a k =>
    cases k with
    | cons b k =>
     cases k with
     | cons c k =>
      cases k
      obtain rfl:=eO a
      obtain rfl:=dV b
      obtain rfl:=dV c
      obtain⟨h,hb,hq⟩:=h
      rw[show p=(10:Int) from hb,show q=(64:Int) from hq]
      by_cases hok : ∃ v,Lib.parseIntB 64 s.data.toList = .ok v
      ·obtain⟨v,hv⟩:=hok
       refine(Any.strconv_ParseInt_10_at64_ok Tryz.layParseInt s (by omega) v hv w).mono ?_
       rintro e w' ⟨rfl,hw⟩
       have hp:cj s.data.toList=(v,true):=by unfold cj; rw[hv]
       refine⟨[_,_],rfl,⟨[_],_,rfl,(by rw[hp]; rfl),[_],_,rfl,(by rw[hp]; exact .inl ⟨rfl,rfl⟩),rfl⟩,?_⟩
       rcases hw with rfl | ⟨t,rfl⟩
       ·exact Below.refl _ _
       ·exact Lib.bytesWorld_below _ _ _
      ·cases hq:Lib.parseIntB 64 s.data.toList with
       | ok v=>exact absurd ⟨v,hq⟩ hok
       | range =>
        obtain⟨⟨a',h1,tp,p,rfl⟩,_⟩:=hG _ hm2
        refine(Any.strconv_ParseInt_10_at64_range_var Tryz.layParseInt s h hq tp p w h1).mono ?_
        rintro e w' ⟨N,rfl,_,_,hB⟩
        have hp:cj s.data.toList=(Lib.intSat 64 s.data.toList,false):=by unfold cj; rw[hq]
        exact⟨[_,_],rfl,⟨[_],_,rfl,(by rw[hp]; rfl),[_],_,rfl,(by rw[hp]; exact .inr ⟨rfl,_,_,rfl⟩),rfl⟩,hB⟩
       | _ =>
        obtain⟨⟨a',h1,tp,p,rfl⟩,_⟩:=hG _ hm1
        refine(Any.strconv_ParseInt_10_at64_syntax_var Tryz.layParseInt s h hq tp p w h1).mono ?_
        rintro e w' ⟨N,rfl,_,_,hB⟩
        have hp:cj s.data.toList=(0,false):=by unfold cj; rw[hq]
        exact⟨[_,_],rfl,⟨[_],_,rfl,(by rw[hp]; rfl),[_],_,rfl,(by rw[hp]; exact .inr ⟨rfl,_,_,rfl⟩),rfl⟩,hB⟩
  ·cases hz
 ·cases hz
end Go.Proofs.YteaahciglahehaaGreatDoor.Abs
namespace Go.Proofs
open Go.Shelf Go.RowKit Go.Lib
def Tryz.layTrimLeft_ren:Go.Shelf.Ren:=⟨fun | 161=>152 | 231=>203 | 227=>204 | 233=>205 | 235=>206 | 228=>258 | 197=>259 | 151=>260 | 260=>287 | 152=>288 | 137=>304 | 119=>305 | 224=>306 | 225=>307 | 217=>315 | 266=>321 | n=>n,fun | 9=>9 | 4=>4 | 3=>3 | 5=>5 | 117=>217 | 116=>216 | 0=>0 | 124=>220 | 105=>254 | 21=>21 | 119=>298 | 46=>195 | 139=>301 | 138=>300 | n=>n,fun | 3=>3 | 4=>4 | n=>n⟩
theorem Tryz.layTrimLeft:Go.Proofs.Lays.n161 Tryz.prog Tryz.layTrimLeft_ren:={
 mixed:=by kernel_rfl
 f119:=Tryz.func305.trans (congrArg some (by kernel_rfl))
 f137:=Tryz.func304.trans (congrArg some (by kernel_rfl))
 f151:=Tryz.func260.trans (congrArg some (by kernel_rfl))
 f152:=Tryz.func288.trans (congrArg some (by kernel_rfl))
 f161:=Tryz.func152.trans (congrArg some (by kernel_rfl))
 f197:=Tryz.func259.trans (congrArg some (by kernel_rfl))
 f217:=Tryz.func315.trans (congrArg some (by kernel_rfl))
 f224:=Tryz.func306.trans (congrArg some (by kernel_rfl))
 f225:=Tryz.func307.trans (congrArg some (by kernel_rfl))
 f227:=Tryz.func204.trans (congrArg some (by kernel_rfl))
 f228:=Tryz.func258.trans (congrArg some (by kernel_rfl))
 f231:=Tryz.func203.trans (congrArg some (by kernel_rfl))
 f233:=Tryz.func205.trans (congrArg some (by kernel_rfl))
 f235:=Tryz.func206.trans (congrArg some (by kernel_rfl))
 f260:=Tryz.func287.trans (congrArg some (by kernel_rfl))
 f266:=Tryz.func321.trans (congrArg some (by kernel_rfl))
 t0:=Tryz.underlying0
 a0:=Tryz.isAgg0
 z0:=Tryz.sizeOf0
 v0:=Tryz.zeroValue0
 t3:=Tryz.underlying3
 a3:=Tryz.isAgg3
 z3:=Tryz.sizeOf3
 v3:=Tryz.zeroValue3
 t4:=Tryz.underlying4
 a4:=Tryz.isAgg4
 z4:=Tryz.sizeOf4
 v4:=Tryz.zeroValue4
 t5:=Tryz.underlying5
 a5:=Tryz.isAgg5
 z5:=Tryz.sizeOf5
 v5:=Tryz.zeroValue5
 t9:=Tryz.underlying9
 a9:=Tryz.isAgg9
 z9:=Tryz.sizeOf9
 v9:=Tryz.zeroValue9
 t21:=Tryz.underlying21
 a21:=Tryz.isAgg21
 z21:=Tryz.sizeOf21
 v21:=Tryz.zeroValue21
 t46:=Tryz.underlying195
 a46:=Tryz.isAgg195
 z46:=Tryz.sizeOf195
 v46:=Tryz.zeroValue195
 t105:=Tryz.underlying254
 a105:=Tryz.isAgg254
 z105:=Tryz.sizeOf254
 v105:=Tryz.zeroValue254
 t116:=Tryz.underlying216
 a116:=Tryz.isAgg216
 z116:=Tryz.sizeOf216
 t117:=Tryz.underlying217
 a117:=Tryz.isAgg217
 z117:=Tryz.sizeOf217
 v117:=Tryz.zeroValue217
 t119:=Tryz.underlying298
 a119:=Tryz.isAgg298
 z119:=Tryz.sizeOf298
 t124:=Tryz.underlying220
 a124:=Tryz.isAgg220
 z124:=Tryz.sizeOf220
 v124:=Tryz.zeroValue220
 t138:=Tryz.underlying300
 a138:=Tryz.isAgg300
 z138:=Tryz.sizeOf300
 v138:=Tryz.zeroValue300
 t139:=Tryz.underlying301
 a139:=Tryz.isAgg301
 z139:=Tryz.sizeOf301
 v139:=Tryz.zeroValue301
 g3:=by kernel_rfl
 g4:=by kernel_rfl}
end Go.Proofs
namespace Go.Proofs.YteaahciglahehaaGreatDoor.Abs
open Go Go.Shelf Go.RowKit Go.Lib
theorem IP {l:List iB} : ∀(args:List SV) (tab:aM) (z:(Sh.pair (.val .str) .unit).den×Sh.unit.den),qg args tab=some z→fp (eQ Tryz.prog l) Tryz.prog l8 args tab z:=by
 intro args tab z hz
 unfold qg at hz
 split at hz
 ·rename_i s c
  split at hz
  ·rename_i h
   cases hz
   refine kB (sh := .pair (.val .str) .unit) (fun _=>rfl) ?_ (fun _ _ h=>h.none)
   intro w Pr γ us hG _ hu
   cases hu with
   | cons a k =>
    cases k with
    | cons b k =>
     cases k
     obtain rfl:=eO a
     obtain rfl:=eO b
     obtain⟨h1,h2⟩:=MH h
     refine(Any.strings_TrimLeft_laid Tryz.layTrimLeft (by kernel_rfl) s c w h1 h2).mono ?_
     rintro e w' ⟨rfl,hB⟩
     exact⟨[_],rfl,⟨[_],[],rfl,rfl,rfl⟩,hB⟩
  ·cases hz
 ·cases hz
end Go.Proofs.YteaahciglahehaaGreatDoor.Abs
namespace Go.Proofs
open Go.Shelf Go.RowKit Go.Lib Go.Sort
def Tryz.clIntI_ren:Go.Shelf.Ren:=⟨fun | 41=>225 | n=>n,fun | 22=>171 | 23=>3 | 4=>4 | n=>n,fun | n=>n⟩
theorem Tryz.clIntI:Go.Proofs.SlLaysE0.n41 Tryz.prog Tryz.clIntI_ren:={
 mixed:=by kernel_rfl
 f41:=⟨Tryz.f225.name,by decide,Tryz.func225.trans (congrArg some (by kernel_rfl))⟩
 t4:=Tryz.underlying4
 a4:=Tryz.isAgg4
 z4:=Tryz.sizeOf4
 v4:=Tryz.zeroValue4
 t22:=Tryz.underlying171
 a22:=Tryz.isAgg171
 z22:=Tryz.sizeOf171
 v22:=Tryz.zeroValue171}
def Tryz.clBoolI_ren:Go.Shelf.Ren:=⟨fun | 41=>167 | n=>n,fun | 22=>142 | 23=>4 | 4=>4 | n=>n,fun | n=>n⟩
theorem Tryz.clBoolI:Go.Proofs.SlLaysE0.n41 Tryz.prog Tryz.clBoolI_ren:={
 mixed:=by kernel_rfl
 f41:=⟨Tryz.f167.name,by decide,Tryz.func167.trans (congrArg some (by kernel_rfl))⟩
 t4:=Tryz.underlying4
 a4:=Tryz.isAgg4
 z4:=Tryz.sizeOf4
 v4:=Tryz.zeroValue4
 t22:=Tryz.underlying142
 a22:=Tryz.isAgg142
 z22:=Tryz.sizeOf142
 v22:=Tryz.zeroValue142}
end Go.Proofs
namespace Go.Proofs.YteaahciglahehaaGreatDoor.Abs
open Go Go.Shelf Go.RowKit Go.Lib Go.Sort
set_option maxRecDepth 100000 in
theorem So {Gp:WP} : ∀(args:List SV) (tab:aM) (z:(Sh.pair (.row 3 (.int .i64) false) .unit).den×Sh.unit.den),dd 3 (.int .i64) 8 args tab=some z→fp Gp Tryz.prog {g:=225,fn:=Tryz.f225,sh := .pair (.row 3 (.int .i64) false) .unit,bx := .unit,own:=[],live:=[],prim:=some (dd 3 (.int .i64) 8)} args tab z:=by
 refine yw (P:=Tryz.prog) (g:=225) (nb:=8) (fn:=Tryz.f225) (e:=3) (t:=(.int .i64)) (own:=[]) (live:=[]) rfl (by decide) (by decide) ?_ ?_
 ·exact fun n c w=>AnyE.slices_Clone_nil Tryz.clIntI n c w
 ·exact fun a n c news w h1 h2 h3 h4 h5=>clone_any Tryz.clIntI _ _ 1 8 rfl rfl (by kernel_rfl) (by kernel_rfl) (by kernel_rfl) (by decide) Tryz.sizeOf3 a n c news w h1 h2 h3 h4 h5
set_option maxRecDepth 100000 in
theorem Py {Gp:WP} : ∀(args:List SV) (tab:aM) (z:(Sh.pair (.row 4 .bool false) .unit).den×Sh.unit.den),dd 4 .bool 1 args tab=some z→fp Gp Tryz.prog {g:=167,fn:=Tryz.f167,sh := .pair (.row 4 .bool false) .unit,bx := .unit,own:=[],live:=[],prim:=some (dd 4 .bool 1)} args tab z:=by
 refine yw (P:=Tryz.prog) (g:=167) (nb:=1) (fn:=Tryz.f167) (e:=4) (t := .bool) (own:=[]) (live:=[]) rfl (by decide) (by decide) ?_ ?_
 ·exact fun n c w=>AnyE.slices_Clone_nil Tryz.clBoolI n c w
 ·exact fun a n c news w h1 h2 h3 h4 h5=>clone_any Tryz.clBoolI _ _ 1 1 rfl rfl (by kernel_rfl) (by kernel_rfl) (by kernel_rfl) (by decide) Tryz.sizeOf4 a n c news w h1 h2 h3 h4 h5
end Go.Proofs.YteaahciglahehaaGreatDoor.Abs
namespace Go.Proofs
open Go.Shelf Go.RowKit Go.Lib
def Tryz.layFmt_ren:Go.Shelf.Ren:=⟨fun | 173=>170 | 246=>226 | 283=>266 | 284=>267 | 285=>268 | 286=>269 | 129=>236 | 317=>291 | 318=>292 | 319=>293 | 320=>294 | 337=>308 | 338=>309 | n=>n,fun | 2=>2 | 3=>3 | 9=>9 | 4=>4 | 171=>260 | 0=>0 | 53=>241 | 37=>94 | 5=>5 | 173=>262 | 212=>283 | 51=>239 | 20=>20 | 213=>284 | 46=>195 | 232=>304 | 233=>305 | n=>n,fun | 17=>2 | 18=>6 | 19=>7 | n=>n⟩
theorem Tryz.layFmt:Go.Proofs.LaysM.n173 Tryz.prog Tryz.layFmt_ren:={
 mixed:=by kernel_rfl
 f129:=Tryz.func236.trans (congrArg some (by kernel_rfl))
 f173:=Tryz.func170.trans (congrArg some (by kernel_rfl))
 f246:=Tryz.func226.trans (congrArg some (by kernel_rfl))
 f283:=Tryz.func266.trans (congrArg some (by kernel_rfl))
 f284:=Tryz.func267.trans (congrArg some (by kernel_rfl))
 f285:=Tryz.func268.trans (congrArg some (by kernel_rfl))
 f286:=Tryz.func269.trans (congrArg some (by kernel_rfl))
 f317:=Tryz.func291.trans (congrArg some (by kernel_rfl))
 f318:=Tryz.func292.trans (congrArg some (by kernel_rfl))
 f319:=Tryz.func293.trans (congrArg some (by kernel_rfl))
 f320:=Tryz.func294.trans (congrArg some (by kernel_rfl))
 f337:=Tryz.func308.trans (congrArg some (by kernel_rfl))
 f338:=Tryz.func309.trans (congrArg some (by kernel_rfl))
 t0:=Tryz.underlying0
 a0:=Tryz.isAgg0
 z0:=Tryz.sizeOf0
 v0:=Tryz.zeroValue0
 t2:=Tryz.underlying2
 a2:=Tryz.isAgg2
 z2:=Tryz.sizeOf2
 v2:=Tryz.zeroValue2
 t3:=Tryz.underlying3
 a3:=Tryz.isAgg3
 z3:=Tryz.sizeOf3
 v3:=Tryz.zeroValue3
 t4:=Tryz.underlying4
 a4:=Tryz.isAgg4
 z4:=Tryz.sizeOf4
 v4:=Tryz.zeroValue4
 t5:=Tryz.underlying5
 a5:=Tryz.isAgg5
 z5:=Tryz.sizeOf5
 v5:=Tryz.zeroValue5
 t9:=Tryz.underlying9
 a9:=Tryz.isAgg9
 z9:=Tryz.sizeOf9
 v9:=Tryz.zeroValue9
 t20:=Tryz.underlying20
 a20:=Tryz.isAgg20
 z20:=Tryz.sizeOf20
 v20:=Tryz.zeroValue20
 t37:=Tryz.underlying94
 a37:=Tryz.isAgg94
 z37:=Tryz.sizeOf94
 v37:=Tryz.zeroValue94
 t46:=Tryz.underlying195
 a46:=Tryz.isAgg195
 z46:=Tryz.sizeOf195
 v46:=Tryz.zeroValue195
 t51:=Tryz.underlying239
 a51:=Tryz.isAgg239
 z51:=Tryz.sizeOf239
 v51:=Tryz.zeroValue239
 t53:=Tryz.underlying241
 a53:=Tryz.isAgg241
 z53:=Tryz.sizeOf241
 v53:=Tryz.zeroValue241
 t171:=Tryz.underlying260
 a171:=Tryz.isAgg260
 z171:=Tryz.sizeOf260
 v171:=Tryz.zeroValue260
 t173:=Tryz.underlying262
 a173:=Tryz.isAgg262
 z173:=Tryz.sizeOf262
 v173:=Tryz.zeroValue262
 t212:=Tryz.underlying283
 a212:=Tryz.isAgg283
 z212:=Tryz.sizeOf283
 v212:=Tryz.zeroValue283
 t213:=Tryz.underlying284
 a213:=Tryz.isAgg284
 z213:=Tryz.sizeOf284
 t232:=Tryz.underlying304
 a232:=Tryz.isAgg304
 z232:=Tryz.sizeOf304
 v232:=Tryz.zeroValue304
 t233:=Tryz.underlying305
 a233:=Tryz.isAgg305
 z233:=Tryz.sizeOf305
 v233:=Tryz.zeroValue305
 g17:=by kernel_rfl
 g18:=by kernel_rfl
 g19:=by kernel_rfl
 i0:=by kernel_rfl
 i2:=by kernel_rfl
 i3:=by kernel_rfl
 i4:=by kernel_rfl
 i5:=by kernel_rfl
 i9:=by kernel_rfl
 i20:=by kernel_rfl
 i37:=by kernel_rfl
 i46:=by kernel_rfl
 i51:=by kernel_rfl
 i53:=by kernel_rfl
 i171:=by kernel_rfl
 i173:=by kernel_rfl
 i212:=by kernel_rfl
 i232:=by kernel_rfl
 i233:=by kernel_rfl
 m17:=by kernel_rfl
 m18:=by kernel_rfl
 m19:=by kernel_rfl}
end Go.Proofs
namespace Go.Proofs.YteaahciglahehaaGreatDoor.Abs
open Go Go.Shelf Go.RowKit Go.Lib
def M8:iB:=("internal/strconv.uint64pow10",fun a=>a=(Lib.pow10Tab.map fun z=>Value.int .u64 z).toArray)
theorem UT {l:List iB} (hm:M8∈l) : ∀(args:List SV) (tab:aM) (z:(Sh.pair (.val .str) .unit).den×Sh.unit.den),DZ args tab=some z→fp (eQ Tryz.prog l) Tryz.prog lu args tab z:=by
 intro args tab z hz
 unfold DZ at hz
 split at hz
 ·rename_i n b
  split at hz
  ·rename_i h
   obtain⟨hb,h0,h1⟩:=h
   cases hz
   refine kB (sh := .pair (.val .str) .unit) (fun _=>rfl) ?_ (fun _ _ h=>h.none)
   intro w Pr γ us hG _ hu
   cases hu with
   | cons a k =>
    cases k with
    | cons c k =>
     cases k
     obtain rfl:=dV a
     obtain rfl:=dV c
     rw[show b=(10:Int) from hb]
     refine(Any.strconv_FormatInt_10 Tryz.layFmt n h0 h1 w (by obtain⟨⟨a,h1,h2⟩,_⟩:=hG M8 hm; rw[show a=_ from h2] at h1; exact h1)).mono ?_
     rintro e w' ⟨rfl,q,os,rfl⟩
     exact⟨[_],rfl,⟨[_],[],rfl,rfl,rfl⟩,below_grow _ w (Nat.le_refl _) q os⟩
  ·cases hz
 ·cases hz
end Go.Proofs.YteaahciglahehaaGreatDoor.Abs
namespace Go.Proofs
open Go.Shelf Go.RowKit Go.Lib
def Tryz.layTrim_ren:Go.Shelf.Ren:=⟨fun | 160=>199 | 232=>249 | 231=>203 | 227=>204 | 234=>250 | 233=>205 | 236=>251 | 235=>206 | 228=>258 | 271=>283 | 151=>260 | 197=>259 | 120=>302 | 152=>288 | 260=>287 | 137=>304 | 119=>305 | 224=>306 | 225=>307 | 217=>315 | 266=>321 | n=>n,fun | 9=>9 | 4=>4 | 3=>3 | 5=>5 | 117=>217 | 116=>216 | 0=>0 | 124=>220 | 21=>21 | 105=>254 | 46=>195 | 119=>298 | 139=>301 | 138=>300 | n=>n,fun | 3=>3 | 4=>4 | n=>n⟩
theorem Tryz.layTrim:Go.Proofs.Lays.n160 Tryz.prog Tryz.layTrim_ren:={
 mixed:=by kernel_rfl
 f119:=Tryz.func305.trans (congrArg some (by kernel_rfl))
 f120:=Tryz.func302.trans (congrArg some (by kernel_rfl))
 f137:=Tryz.func304.trans (congrArg some (by kernel_rfl))
 f151:=Tryz.func260.trans (congrArg some (by kernel_rfl))
 f152:=Tryz.func288.trans (congrArg some (by kernel_rfl))
 f160:=Tryz.func199.trans (congrArg some (by kernel_rfl))
 f197:=Tryz.func259.trans (congrArg some (by kernel_rfl))
 f217:=Tryz.func315.trans (congrArg some (by kernel_rfl))
 f224:=Tryz.func306.trans (congrArg some (by kernel_rfl))
 f225:=Tryz.func307.trans (congrArg some (by kernel_rfl))
 f227:=Tryz.func204.trans (congrArg some (by kernel_rfl))
 f228:=Tryz.func258.trans (congrArg some (by kernel_rfl))
 f231:=Tryz.func203.trans (congrArg some (by kernel_rfl))
 f232:=Tryz.func249.trans (congrArg some (by kernel_rfl))
 f233:=Tryz.func205.trans (congrArg some (by kernel_rfl))
 f234:=Tryz.func250.trans (congrArg some (by kernel_rfl))
 f235:=Tryz.func206.trans (congrArg some (by kernel_rfl))
 f236:=Tryz.func251.trans (congrArg some (by kernel_rfl))
 f260:=Tryz.func287.trans (congrArg some (by kernel_rfl))
 f266:=Tryz.func321.trans (congrArg some (by kernel_rfl))
 f271:=Tryz.func283.trans (congrArg some (by kernel_rfl))
 t0:=Tryz.underlying0
 a0:=Tryz.isAgg0
 z0:=Tryz.sizeOf0
 v0:=Tryz.zeroValue0
 t3:=Tryz.underlying3
 a3:=Tryz.isAgg3
 z3:=Tryz.sizeOf3
 v3:=Tryz.zeroValue3
 t4:=Tryz.underlying4
 a4:=Tryz.isAgg4
 z4:=Tryz.sizeOf4
 v4:=Tryz.zeroValue4
 t5:=Tryz.underlying5
 a5:=Tryz.isAgg5
 z5:=Tryz.sizeOf5
 v5:=Tryz.zeroValue5
 t9:=Tryz.underlying9
 a9:=Tryz.isAgg9
 z9:=Tryz.sizeOf9
 v9:=Tryz.zeroValue9
 t21:=Tryz.underlying21
 a21:=Tryz.isAgg21
 z21:=Tryz.sizeOf21
 v21:=Tryz.zeroValue21
 t46:=Tryz.underlying195
 a46:=Tryz.isAgg195
 z46:=Tryz.sizeOf195
 v46:=Tryz.zeroValue195
 t105:=Tryz.underlying254
 a105:=Tryz.isAgg254
 z105:=Tryz.sizeOf254
 v105:=Tryz.zeroValue254
 t116:=Tryz.underlying216
 a116:=Tryz.isAgg216
 z116:=Tryz.sizeOf216
 t117:=Tryz.underlying217
 a117:=Tryz.isAgg217
 z117:=Tryz.sizeOf217
 v117:=Tryz.zeroValue217
 t119:=Tryz.underlying298
 a119:=Tryz.isAgg298
 z119:=Tryz.sizeOf298
 t124:=Tryz.underlying220
 a124:=Tryz.isAgg220
 z124:=Tryz.sizeOf220
 v124:=Tryz.zeroValue220
 t138:=Tryz.underlying300
 a138:=Tryz.isAgg300
 z138:=Tryz.sizeOf300
 v138:=Tryz.zeroValue300
 t139:=Tryz.underlying301
 a139:=Tryz.isAgg301
 z139:=Tryz.sizeOf301
 v139:=Tryz.zeroValue301
 g3:=by kernel_rfl
 g4:=by kernel_rfl}
end Go.Proofs
namespace Go.Proofs.YteaahciglahehaaGreatDoor.Abs
open Go Go.Shelf Go.RowKit Go.Lib
theorem Sp {l:List iB} : ∀(args:List SV) (tab:aM) (z:(Sh.pair (.val .str) .unit).den×Sh.unit.den),AU args tab=some z→fp (eQ Tryz.prog l) Tryz.prog rN args tab z:=by
 intro args tab z hz
 unfold AU at hz
 split at hz
 ·rename_i s c
  split at hz
  ·rename_i h
   cases hz
   refine kB (sh := .pair (.val .str) .unit) (fun _=>rfl) ?_ (fun _ _ h=>h.none)
   intro w Pr γ us hG _ hu
   cases hu with
   | cons a k =>
    cases k with
    | cons b k =>
     cases k
     obtain rfl:=eO a
     obtain rfl:=eO b
     obtain⟨h1,h2⟩:=MH h.1
     refine(Any.strings_Trim_laid Tryz.layTrim (by kernel_rfl) s c w h.2 h1 h2).mono ?_
     rintro e w' ⟨rfl,hB⟩
     exact⟨[_],rfl,⟨[_],[],rfl,rfl,rfl⟩,hB⟩
  ·cases hz
 ·cases hz
end Go.Proofs.YteaahciglahehaaGreatDoor.Abs
namespace Go.Proofs
open Go.Shelf Go.RowKit Go.Lib
def Tryz.layReplace_ren:Go.Shelf.Ren:=⟨fun | 155=>275 | 154=>296 | 138=>310 | 165=>298 | 143=>311 | 166=>299 | 197=>259 | 169=>300 | 195=>316 | 218=>317 | 240=>312 | 241=>313 | 219=>314 | 260=>287 | 276=>318 | 277=>319 | 217=>315 | 225=>307 | 224=>306 | 267=>320 | 266=>321 | 314=>322 | n=>n,fun | 9=>9 | 3=>3 | 4=>4 | 72=>291 | 0=>0 | 76=>292 | 105=>254 | 21=>21 | 5=>5 | 70=>289 | 20=>20 | 37=>94 | 75=>176 | 127=>294 | 164=>307 | 46=>195 | 119=>298 | 139=>301 | 138=>300 | 146=>310 | 51=>239 | 80=>180 | n=>n,fun | 1=>5 | 3=>3 | 4=>4 | n=>n⟩
theorem Tryz.layReplace:Go.Proofs.LaysM.n155 Tryz.prog Tryz.layReplace_ren:={
 mixed:=by kernel_rfl
 f138:=Tryz.func310.trans (congrArg some (by kernel_rfl))
 f143:=Tryz.func311.trans (congrArg some (by kernel_rfl))
 f154:=Tryz.func296.trans (congrArg some (by kernel_rfl))
 f155:=Tryz.func275.trans (congrArg some (by kernel_rfl))
 f165:=Tryz.func298.trans (congrArg some (by kernel_rfl))
 f166:=Tryz.func299.trans (congrArg some (by kernel_rfl))
 f169:=Tryz.func300.trans (congrArg some (by kernel_rfl))
 f195:=Tryz.func316.trans (congrArg some (by kernel_rfl))
 f197:=Tryz.func259.trans (congrArg some (by kernel_rfl))
 f217:=Tryz.func315.trans (congrArg some (by kernel_rfl))
 f218:=Tryz.func317.trans (congrArg some (by kernel_rfl))
 f219:=Tryz.func314.trans (congrArg some (by kernel_rfl))
 f224:=Tryz.func306.trans (congrArg some (by kernel_rfl))
 f225:=Tryz.func307.trans (congrArg some (by kernel_rfl))
 f240:=Tryz.func312.trans (congrArg some (by kernel_rfl))
 f241:=Tryz.func313.trans (congrArg some (by kernel_rfl))
 f260:=Tryz.func287.trans (congrArg some (by kernel_rfl))
 f266:=Tryz.func321.trans (congrArg some (by kernel_rfl))
 f267:=Tryz.func320.trans (congrArg some (by kernel_rfl))
 f276:=Tryz.func318.trans (congrArg some (by kernel_rfl))
 f277:=Tryz.func319.trans (congrArg some (by kernel_rfl))
 f314:=Tryz.func322.trans (congrArg some (by kernel_rfl))
 t0:=Tryz.underlying0
 a0:=Tryz.isAgg0
 z0:=Tryz.sizeOf0
 v0:=Tryz.zeroValue0
 t3:=Tryz.underlying3
 a3:=Tryz.isAgg3
 z3:=Tryz.sizeOf3
 v3:=Tryz.zeroValue3
 t4:=Tryz.underlying4
 a4:=Tryz.isAgg4
 z4:=Tryz.sizeOf4
 v4:=Tryz.zeroValue4
 t5:=Tryz.underlying5
 a5:=Tryz.isAgg5
 z5:=Tryz.sizeOf5
 v5:=Tryz.zeroValue5
 t9:=Tryz.underlying9
 a9:=Tryz.isAgg9
 z9:=Tryz.sizeOf9
 v9:=Tryz.zeroValue9
 t20:=Tryz.underlying20
 a20:=Tryz.isAgg20
 z20:=Tryz.sizeOf20
 v20:=Tryz.zeroValue20
 t21:=Tryz.underlying21
 a21:=Tryz.isAgg21
 z21:=Tryz.sizeOf21
 v21:=Tryz.zeroValue21
 t37:=Tryz.underlying94
 a37:=Tryz.isAgg94
 z37:=Tryz.sizeOf94
 v37:=Tryz.zeroValue94
 t46:=Tryz.underlying195
 a46:=Tryz.isAgg195
 z46:=Tryz.sizeOf195
 v46:=Tryz.zeroValue195
 t51:=Tryz.underlying239
 a51:=Tryz.isAgg239
 z51:=Tryz.sizeOf239
 v51:=Tryz.zeroValue239
 t70:=Tryz.underlying289
 a70:=Tryz.isAgg289
 z70:=Tryz.sizeOf289
 v70:=Tryz.zeroValue289
 t72:=Tryz.underlying291
 a72:=Tryz.isAgg291
 z72:=Tryz.sizeOf291
 v72:=Tryz.zeroValue291
 t75:=Tryz.underlying176
 a75:=Tryz.isAgg176
 z75:=Tryz.sizeOf176
 v75:=Tryz.zeroValue176
 t76:=Tryz.underlying292
 a76:=Tryz.isAgg292
 z76:=Tryz.sizeOf292
 v76:=Tryz.zeroValue292
 t105:=Tryz.underlying254
 a105:=Tryz.isAgg254
 z105:=Tryz.sizeOf254
 v105:=Tryz.zeroValue254
 t119:=Tryz.underlying298
 a119:=Tryz.isAgg298
 z119:=Tryz.sizeOf298
 t127:=Tryz.underlying294
 a127:=Tryz.isAgg294
 z127:=Tryz.sizeOf294
 v127:=Tryz.zeroValue294
 t138:=Tryz.underlying300
 a138:=Tryz.isAgg300
 z138:=Tryz.sizeOf300
 v138:=Tryz.zeroValue300
 t139:=Tryz.underlying301
 a139:=Tryz.isAgg301
 z139:=Tryz.sizeOf301
 v139:=Tryz.zeroValue301
 t146:=Tryz.underlying310
 a146:=Tryz.isAgg310
 z146:=Tryz.sizeOf310
 v146:=Tryz.zeroValue310
 t164:=Tryz.underlying307
 a164:=Tryz.isAgg307
 z164:=Tryz.sizeOf307
 v164:=Tryz.zeroValue307
 g1:=by kernel_rfl
 g3:=by kernel_rfl
 g4:=by kernel_rfl
 t80:=Tryz.underlying180
 a80:=Tryz.isAgg180
 z80:=Tryz.sizeOf180
 v80:=Tryz.zeroValue180
 i0:=by kernel_rfl
 i3:=by kernel_rfl
 i4:=by kernel_rfl
 i5:=by kernel_rfl
 i9:=by kernel_rfl
 i20:=by kernel_rfl
 i21:=by kernel_rfl
 i37:=by kernel_rfl
 i46:=by kernel_rfl
 i51:=by kernel_rfl
 i70:=by kernel_rfl
 i72:=by kernel_rfl
 i75:=by kernel_rfl
 i76:=by kernel_rfl
 i80:=by kernel_rfl
 i105:=by kernel_rfl
 i127:=by kernel_rfl
 i138:=by kernel_rfl
 i139:=by kernel_rfl
 i146:=by kernel_rfl
 i164:=by kernel_rfl
 m1:=by kernel_rfl
 s1_3:=fun w h=>Go.Proofs.cell_of_shapedOpen_int (zero := #[.int .i64 0]) (t:=3) h (of_decide_eq_true (by kernel_rfl)) (by kernel_rfl) rfl (by kernel_rfl) (by kernel_rfl) Tryz.underlying3
 m3:=by kernel_rfl
 m4:=by kernel_rfl}
def Tryz.layExtra_ren:Go.Shelf.Ren:=⟨fun | 155=>275 | 154=>296 | 138=>310 | 165=>298 | 143=>311 | 166=>299 | 197=>259 | 169=>300 | 195=>316 | 218=>317 | 240=>312 | 241=>313 | 219=>314 | 260=>287 | 276=>318 | 277=>319 | 217=>315 | 225=>307 | 224=>306 | 267=>320 | 266=>321 | 314=>322 | n=>n,fun | 9=>9 | 3=>3 | 4=>4 | 72=>291 | 0=>0 | 76=>292 | 105=>254 | 21=>21 | 5=>5 | 70=>289 | 20=>20 | 37=>94 | 75=>176 | 127=>294 | 164=>307 | 46=>195 | 119=>298 | 139=>301 | 138=>300 | 146=>310 | 51=>239 | 80=>180 | n=>n,fun | 1=>5 | 3=>3 | 4=>4 | n=>n⟩
theorem Tryz.layExtra:Go.Proofs.Builder.Extra Tryz.prog Tryz.layExtra_ren:={
 sizeBuilder:=by kernel_rfl
 liesBuilder:=by kernel_rfl
 t5:=Tryz.underlying5
 a5:=Tryz.isAgg5
 z5:=Tryz.sizeOf5
 v5:=Tryz.zeroValue5
 infoByte:=by kernel_rfl
 cellsByte:=by kernel_rfl
 sizeByte:=by kernel_rfl
 neB5:=by decide}
end Go.Proofs
namespace Go.Proofs.YteaahciglahehaaGreatDoor.Abs
open Go Go.Shelf Go.RowKit Go.Lib
theorem Lo {l:List iB} (hm:zm "internal/bytealg.MaxLen" ∈ l) : ∀(args:List SV) (tab:aM) (z:(Sh.pair (.val .str) .unit).den×Sh.unit.den),sB args tab=some z→fp (eQ Tryz.prog l) Tryz.prog kD args tab z:=by
 intro args tab z hz
 unfold sB at hz
 split at hz
 ·rename_i s c d
  split at hz
  ·rename_i h
   cases hz
   refine kB (sh:=Sh.pair (.val .str) .unit) (fun _=>rfl) ?_ (fun _ _ h=>h.none)
   intro w Pr γ us hG hPr hu
   cases hu with
   | cons a k =>
    cases k with
    | cons b k =>
     cases k with
     | cons c k =>
      cases k
      obtain rfl:=eO a
      obtain rfl:=eO b
      obtain rfl:=eO c
      obtain⟨m,hc⟩:=EO hG hm Tryz.layReplace.m1
      refine(Any.strings_ReplaceAll {Tryz.layReplace with} Tryz.layExtra s _ _ m w h.1 hc h.2.1 h.2.2).mono ?_
      rintro e w' ⟨rfl,hB⟩
      exact⟨[_],rfl,⟨[_],[],rfl,rfl,rfl⟩,hB⟩
  ·cases hz
 ·cases hz
end Go.Proofs.YteaahciglahehaaGreatDoor.Abs
namespace Go.Proofs
open Go.Shelf Go.RowKit Go.Lib
def Tryz.layJoin_ren:Go.Shelf.Ren:=⟨fun | 156=>277 | 165=>298 | 166=>299 | 169=>300 | 240=>312 | 241=>313 | 276=>318 | 277=>319 | n=>n,fun | 31=>111 | 9=>9 | 3=>3 | 4=>4 | 0=>0 | 20=>20 | 72=>291 | 76=>292 | 70=>289 | 37=>94 | 75=>176 | 127=>294 | 164=>307 | 5=>5 | 80=>180 | n=>n,fun | n=>n⟩
theorem Tryz.layJoin:Go.Proofs.Lays.n156 Tryz.prog Tryz.layJoin_ren:={
 mixed:=by kernel_rfl
 f156:=Tryz.func277.trans (congrArg some (by kernel_rfl))
 f165:=Tryz.func298.trans (congrArg some (by kernel_rfl))
 f166:=Tryz.func299.trans (congrArg some (by kernel_rfl))
 f169:=Tryz.func300.trans (congrArg some (by kernel_rfl))
 f240:=Tryz.func312.trans (congrArg some (by kernel_rfl))
 f241:=Tryz.func313.trans (congrArg some (by kernel_rfl))
 f276:=Tryz.func318.trans (congrArg some (by kernel_rfl))
 f277:=Tryz.func319.trans (congrArg some (by kernel_rfl))
 t0:=Tryz.underlying0
 a0:=Tryz.isAgg0
 z0:=Tryz.sizeOf0
 v0:=Tryz.zeroValue0
 t3:=Tryz.underlying3
 a3:=Tryz.isAgg3
 z3:=Tryz.sizeOf3
 v3:=Tryz.zeroValue3
 t4:=Tryz.underlying4
 a4:=Tryz.isAgg4
 z4:=Tryz.sizeOf4
 v4:=Tryz.zeroValue4
 t9:=Tryz.underlying9
 a9:=Tryz.isAgg9
 z9:=Tryz.sizeOf9
 v9:=Tryz.zeroValue9
 t20:=Tryz.underlying20
 a20:=Tryz.isAgg20
 z20:=Tryz.sizeOf20
 v20:=Tryz.zeroValue20
 t31:=Tryz.underlying111
 a31:=Tryz.isAgg111
 z31:=Tryz.sizeOf111
 v31:=Tryz.zeroValue111
 t37:=Tryz.underlying94
 a37:=Tryz.isAgg94
 z37:=Tryz.sizeOf94
 v37:=Tryz.zeroValue94
 t70:=Tryz.underlying289
 a70:=Tryz.isAgg289
 z70:=Tryz.sizeOf289
 v70:=Tryz.zeroValue289
 t72:=Tryz.underlying291
 a72:=Tryz.isAgg291
 z72:=Tryz.sizeOf291
 v72:=Tryz.zeroValue291
 t75:=Tryz.underlying176
 a75:=Tryz.isAgg176
 z75:=Tryz.sizeOf176
 v75:=Tryz.zeroValue176
 t76:=Tryz.underlying292
 a76:=Tryz.isAgg292
 z76:=Tryz.sizeOf292
 v76:=Tryz.zeroValue292
 t127:=Tryz.underlying294
 a127:=Tryz.isAgg294
 z127:=Tryz.sizeOf294
 v127:=Tryz.zeroValue294
 t164:=Tryz.underlying307
 a164:=Tryz.isAgg307
 z164:=Tryz.sizeOf307
 v164:=Tryz.zeroValue307}
theorem Tryz.extraJoin:Builder.Extra Tryz.prog Tryz.layJoin_ren:={
 sizeBuilder:=by kernel_rfl
 liesBuilder:=by kernel_rfl
 t5:=Tryz.underlying5
 a5:=Tryz.isAgg5
 z5:=Tryz.sizeOf5
 v5:=Tryz.zeroValue5
 infoByte:=by kernel_rfl
 cellsByte:=by kernel_rfl
 sizeByte:=by kernel_rfl
 neB5:=by decide}
end Go.Proofs
namespace Go.Proofs.YteaahciglahehaaGreatDoor.Abs
open Go Go.Shelf Go.RowKit Go.Lib
theorem Sq {l:List iB} : ∀(args:List SV) (tab:aM) (z:(Sh.pair (.val .str) .unit).den×Sh.unit.den),AV WO args tab=some z→fp (eQ Tryz.prog l) Tryz.prog rO args tab z:=by
 intro args tab z hz
 unfold AV at hz
 split at hz
 ·rename_i t xs c
  rw[Option.bind_eq_some_iff] at hz
  obtain⟨xs',hxs,hz⟩:=hz
  obtain⟨rfl,hxs⟩:=jc hxs
  have hxs:xs=xs':=hxs
  subst hxs
  split at hz
  ·rename_i h
   obtain⟨h1,h2⟩:=h
   cases hz
   refine kB (sh := .pair (.val .str) .unit) (fun _=>rfl) ?_ (fun _ _ h=>h.none)
   intro w Pr γ us hG hPr hu
   cases hu with
   | cons a k =>
    cases k with
    | cons d k =>
     cases k
     obtain rfl:=eO d
     cases a with
     | val ha =>
      obtain⟨A,cap,rfl,hcap,hA⟩:=ha
      by_cases hx:(xs:List ByteArray)=[]
      ·subst hx
       refine(Any.strings_Join_none Tryz.layJoin Tryz.extraJoin A cap c w).mono ?_
       rintro e w' ⟨rfl,rfl⟩
       exact⟨[_],rfl,⟨[_],[],rfl,rfl,rfl⟩,Below.refl _ _⟩
      ·obtain⟨b,o,rfl,hcells⟩:=hA hx
       have hcell : ∀(j:Nat) x,(xs:List ByteArray)[j]? = some x→Pr b (o+j)∧w.cell? ⟨b,o+j,none⟩=some (.string x):=by
        intro j x hj
        obtain⟨hj1,hj2⟩:=List.getElem?_eq_some_iff.1 hj
        obtain⟨cs,hc1,hc2⟩:=hcells j hj1
        have hc1:cs=[.string (xs:List ByteArray)[j]]:=hc1
        subst hc1
        have:=hc2 0 _ rfl
        have e1:o+j*(Ty.str).sz+0=o+j:=by show o+j*1+0=_; omega
        rw[e1] at this
        rw[←hj2]
        exact this
       have hb:b < w.heap.size:=by
        obtain⟨x,r,hxr⟩ : ∃ x r,(xs:List ByteArray)=x :: r:=by
         cases hq:(xs:List ByteArray) with
         | nil=>exact absurd hq hx
         | cons x r=>exact⟨x,r,rfl⟩
        exact hPr b _ (hcell 0 x (by rw[hxr]; rfl)).1
       refine(Any.strings_Join Tryz.layJoin Tryz.extraJoin b o cap xs c w (fun j x hj=>(hcell j x hj).2) hb h1 hcap h2).mono ?_
       rintro e w' ⟨rfl,hB⟩
       exact⟨[_],rfl,⟨[_],[],rfl,rfl,rfl⟩,hB⟩
  ·cases hz
 ·cases hz
end Go.Proofs.YteaahciglahehaaGreatDoor.Abs
namespace Go.Proofs
open Go.Shelf Go.RowKit Go.Lib
def Tryz.layCut_ren:Go.Shelf.Ren:=⟨fun | 145=>284 | 220=>303 | 219=>314 | 217=>315 | 225=>307 | 224=>306 | 267=>320 | 266=>321 | 314=>322 | n=>n,fun | 9=>9 | 4=>4 | 59=>276 | 3=>3 | 5=>5 | 46=>195 | 146=>310 | 51=>239 | n=>n,fun | 1=>5 | n=>n⟩
theorem Tryz.layCut:Go.Proofs.LaysM.n145 Tryz.prog Tryz.layCut_ren:={
 mixed:=by kernel_rfl
 f145:=Tryz.func284.trans (congrArg some (by kernel_rfl))
 f217:=Tryz.func315.trans (congrArg some (by kernel_rfl))
 f219:=Tryz.func314.trans (congrArg some (by kernel_rfl))
 f220:=Tryz.func303.trans (congrArg some (by kernel_rfl))
 f224:=Tryz.func306.trans (congrArg some (by kernel_rfl))
 f225:=Tryz.func307.trans (congrArg some (by kernel_rfl))
 f266:=Tryz.func321.trans (congrArg some (by kernel_rfl))
 f267:=Tryz.func320.trans (congrArg some (by kernel_rfl))
 f314:=Tryz.func322.trans (congrArg some (by kernel_rfl))
 t3:=Tryz.underlying3
 a3:=Tryz.isAgg3
 z3:=Tryz.sizeOf3
 v3:=Tryz.zeroValue3
 t4:=Tryz.underlying4
 a4:=Tryz.isAgg4
 z4:=Tryz.sizeOf4
 v4:=Tryz.zeroValue4
 t5:=Tryz.underlying5
 a5:=Tryz.isAgg5
 z5:=Tryz.sizeOf5
 v5:=Tryz.zeroValue5
 t9:=Tryz.underlying9
 a9:=Tryz.isAgg9
 z9:=Tryz.sizeOf9
 v9:=Tryz.zeroValue9
 t46:=Tryz.underlying195
 a46:=Tryz.isAgg195
 z46:=Tryz.sizeOf195
 v46:=Tryz.zeroValue195
 t51:=Tryz.underlying239
 a51:=Tryz.isAgg239
 z51:=Tryz.sizeOf239
 v51:=Tryz.zeroValue239
 t59:=Tryz.underlying276
 a59:=Tryz.isAgg276
 z59:=Tryz.sizeOf276
 v59:=Tryz.zeroValue276
 t146:=Tryz.underlying310
 a146:=Tryz.isAgg310
 z146:=Tryz.sizeOf310
 v146:=Tryz.zeroValue310
 g1:=by kernel_rfl
 i3:=by kernel_rfl
 i4:=by kernel_rfl
 i5:=by kernel_rfl
 i9:=by kernel_rfl
 i46:=by kernel_rfl
 i51:=by kernel_rfl
 i59:=by kernel_rfl
 i146:=by kernel_rfl
 m1:=by kernel_rfl
 s1_3:=fun w h=>Go.Proofs.cell_of_shapedOpen_int (zero := #[.int .i64 0]) (t:=3) h (of_decide_eq_true (by kernel_rfl)) (by kernel_rfl) rfl (by kernel_rfl) (by kernel_rfl) Tryz.underlying3}
end Go.Proofs
namespace Go.Proofs.YteaahciglahehaaGreatDoor.Abs
open Go Go.Shelf Go.RowKit Go.Lib
theorem UU {l:List iB} (hm:zm "internal/bytealg.MaxLen" ∈ l) : ∀(args:List SV) (tab:aM) (z:(Sh.pair (.val .str) (.pair (.val .str) (.pair (.val .bool) .unit))).den×Sh.unit.den),D0 args tab=some z→fp (eQ Tryz.prog l) Tryz.prog tO args tab z:=by
 intro args tab z hz
 unfold D0 at hz
 split at hz
 ·rename_i s c
  split at hz
  ·rename_i h
   cases hz
   refine kB (sh := .pair (.val .str) (.pair (.val .str) (.pair (.val .bool) .unit))) (fun _=>rfl) ?_ (fun _ _ h=>h.none)
   intro w Pr γ us hG _ hu
   cases hu with
   | cons a k =>
    cases k with
    | cons b k =>
     cases k
     obtain rfl:=eO a
     obtain rfl:=eO b
     obtain⟨m,hc⟩:=EO hG hm Tryz.layCut.m1
     refine(Any.strings_Cut {Tryz.layCut with} s c m w h hc).mono ?_
     rintro e w' ⟨rfl,n,rfl⟩
     exact⟨[_,_,_],rfl,⟨[_],_,rfl,rfl,[_],_,rfl,rfl,[_],_,rfl,rfl,rfl⟩,rfl,rfl,rfl,Nat.le_refl _,fun _ _=>rfl⟩
  ·cases hz
 ·cases hz
end Go.Proofs.YteaahciglahehaaGreatDoor.Abs
