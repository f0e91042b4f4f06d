/- slices.Clone: the library's contract, wherever an empty slice may stand. -/
import Derived.Shelf.SlicesE.Clone
import Derived.Test.YtddiiceaindlhaaGreatDoorZA3
import Derived.Shelf.SlSortCmp.WholeK
import Derived.Shelf.SlicesG.Cmp
import Derived.Handy
import Derived.StillTailTactics
import Derived.Test.YtddiiceaindlhaaGreatDoorZQD
import Derived.Shelf.SlSortCmp.NoneTotal
import Derived.Shelf.Strconv.ErrVarParseInt
import Derived.Shelf.Strings.SlTrimAscii
import Derived.Shelf.Strconv.Itoa4
import Derived.Lib.AppendIntMem
import Derived.Shelf.Strings.Replace
import Derived.Shelf.LaysM
import Derived.Shelf.Strings.OnBuilder
import Derived.Shelf.Strings.Cut
import Derived.Handed
import Derived.HandedShaped
import Derived.LaidLaws
import Derived.Stop.LaidErr
namespace Go.Proofs
open Go.Shelf Go.RowKit Go.Lib
variable {P:Program} {ρ:Ren}
set_option maxHeartbeats 2000000 in
set_option maxRecDepth 100000 in
theorem YtddiiceaindlhaaGreatDoor.Abs.clone_any (L:SlLaysE0.n41 P ρ) (i0:TypeInfo) (z:Value) (size bytes:Nat) (hi:P.info? (ρ.t 23)=some i0) (hz0:i0.zero=some z) (hz1:i0.size=size) (hz2:i0.bytes=bytes) (hzs:z.cells.size=size) (hsz:0 < size)
  (z23 : ∀ w,(Go.sizeOf (ρ.t 23)).run P w = .ok size w) (a:Addr) (n c:Nat) (news:List Value) (w:World) (hl:news.length=n*size) (hn:n≤maxLen) (hbig:n*bytes≤140737488355328)
  (hc : ∀ j u,news[j]? = some u→w.cell? (a.add j)=some u) (h1 : ∀ u∈news,u.oneCell'=true) :
  Calls P (ρ.f 41) #[.slice (some a) n c] w fun e w' => ∃ v',e = .returned v'∧w'.ownsRow w.heap.size (ρ.t 23) size v' n news∧v' ≠ .slice none 0 0∧Below w.heap.size w w':=by
 have mixed:=L.mixed; have t4:=L.t4; have a4:=L.a4; have z4:=L.z4; have v4:=L.v4; have t22:=L.t22; have a22:=L.a22; have z22:=L.z22; have v22:=L.v22
 have q22 : ∀(w:World) (a:Option Addr) (n c n' c':Nat),(binOp .eql (ρ.t 22) (.slice a n c) (.slice none n' c')).run P w = .ok (.bool a.isNone) w:=fun w a n c n' c'=>Lib.run_eql_slice_nil w _ _ a n c n' c' L.t22
 have u22 : ∀ w,Sem.run P (underlying (ρ.t 22)) w = .ok (TypeDesc.slice (ρ.t 23)) w:=run_underlying t22
 have A:Aside (∀ j u,news[j]? = some u→w.cell? (a.add j)=some u):=hc
 clear hc
 obtain⟨_,_,FG⟩:=L.f41
 go_enter FG,SlBodyN.n41_ntmps ρ
 go_wp2_with (at_builtin; refine wpList_append_own _ rfl _ _ (ρ.t 22) rfl w.heap.size (ρ.t 23) i0 z size bytes t22 hi hz0 hz1 hz2 hzs hsz _ _ _ rfl (World.ownsRow_made w #[] 0 (Nat.le_refl _) (Nat.zero_le _) (by simp)) a n c news rfl ?qc1 ?qc2 ?qc3 ?qc4 ?qc5 ?qc6 ?_)
 case qc1=>exact hl
 case qc2 =>
  intro j u hj
  exact Lib.cell?_alloc_some _ (A.out j u hj)
 case qc3=>exact h1
 case qc4=>rw[Nat.zero_add]; exact hn
 case qc5=>rw[Nat.zero_add]; exact hbig
 case qc6=>simp
 intro v' w1 hown hgrow hnil
 go_wp2
 go_ret
 refine⟨v',rfl,by simpa using hown,?_,?_⟩
 ·exact hnil
 ·exact((Below.refl _ w).alloc (Nat.le_refl _) _).grown hgrow (by simp) (by intro k hk; simp[Value.ownBlock] at hk; omega)
end Go.Proofs
set_option linter.unusedVariables false
set_option linter.unusedSimpArgs false
set_option linter.unusedSectionVars false
namespace Go.Proofs.YtddiiceaindlhaaGreatDoor.Abs
open Go Go.RowKit
theorem zv {α:Type} [Inhabited α] {enc:α→List Value} {k:Nat} (hk : ∀ x,(enc x).length=k) : ∀ l:List α,(List.range (l.length*k)).map (fun t=>(enc l[t / k]!)[t % k]!)=(l.map enc).flatten
 | []=>by simp
 | x :: l=>by
  have ih:=zv hk l
  rw[List.length_cons,Nat.add_mul,Nat.one_mul,Nat.add_comm,List.range_add,List.map_append,List.map_cons,List.flatten_cons,←ih,List.map_map]
  congr 1
  ·apply List.ext_getElem
   ·simp[hk]
   ·intro i h1 h2
    have hi:i < k:=by simpa using h1
    simp only[List.getElem_map,List.getElem_range]
    rw[Nat.div_eq_of_lt hi,Nat.mod_eq_of_lt hi]
    simp only[List.getElem!_cons_zero]
    rw[getElem!_pos _ i h2]
  ·apply List.map_congr_left
   intro t ht
   have hk0:0 < k:=by
    rcases Nat.eq_zero_or_pos k with h | h
    ·subst h
     simp at ht
    ·exact h
   simp only[Function.comp]
   rw[Nat.add_div_left _ hk0,Nat.add_mod_left]
   simp
theorem LH {α:Type} [Inhabited α] {enc:α→List Value} {k:Nat} (hk : ∀ x,(enc x).length=k) (d:Array α):(Sort.flatK enc k d).toList=(d.toList.map enc).flatten:=by
 rw[←zv hk]
 unfold Sort.flatK
 rw[Array.toList_map,Array.toList_range,Array.length_toList]
 refine List.map_congr_left fun i _ => ?_
 rw[Array.getElem!_toList (xs:=d)]
theorem Qv (cur d:Array Value) (h:d.size≤cur.size):(Sort.putCells id 0 d cur).toList.take d.size=d.toList:=by
 apply List.ext_getElem?
 intro i
 rw[List.getElem?_take]
 by_cases hi:i < d.size
 ·rw[if_pos hi]
  simp only[Sort.putCells,Array.getElem?_toList,Array.getElem?_mapIdx]
  rw[Array.getElem?_eq_getElem (by omega),Array.getElem?_eq_getElem hi]
  simp[hi]
 ·rw[if_neg hi,Array.getElem?_toList,Array.getElem?_eq_none (by omega)]
theorem xw {Gp:WP} {P:Program} {g gc:Nat} {fn:Func} {e:TypeId} {t:Ty} {own:List Bool} {live:List (Nat×List Nat)} (hn:cP t=true) (hsz:0 < t.sz) {lt:t.den→t.den→Bool} (hO:Sort.SWO lt)
  (hcon : ∀(aO cap:Nat) (d:Array t.den) (w:World),Sort.HoldsK (dU t) t.sz w aO 0 d→aO < w.heap.size→d.size < 4611686018427387904→Calls P g #[.slice (some ⟨aO,0,none⟩) d.size cap,.func (.func gc) #[] #[]] w fun e w'=>e = .returned (.tuple #[]) ∧ ∃ n os,w'=sortWorldK (dU t) t.sz w aO 0 n (Sort.pdq lt d 0 d.size (Lib.bitLen d.size) true true) os)
  (hnone : ∀(p:Option Addr) (cap:Nat) (fv:Value) (w:World),Calls P g #[.slice p 0 cap,fv] w fun e w'=>e = .returned (.tuple #[])∧w'=w) :
  ∀(args:List SV) (tab:aw) (z:Sh.unit.den×(Sh.pair (.row e t false) .unit).den),dI e t gc lt args tab=some z→eO Gp P {g:=g,fn:=fn,sh := .unit,bx := .pair (.row e t false) .unit,own:=own,live:=live,rb:=true,prim:=some (dI e t gc lt)} args tab z:=by
 intro args tab z hz
 unfold dI at hz
 split at hz
 ·rename_i g' e' s xs
  split at hz
  ·rename_i hg'
   subst hg'
   rw[Option.bind_eq_some_iff] at hz
   obtain⟨xs',hxs,hz⟩:=hz
   obtain⟨hty,hxs⟩:=ic hxs
   cases hty
   have hxs:xs=xs':=hxs
   subst hxs
   split at hz
   ·rename_i hlen
    cases hz
    intro hcanon w γ Pr us _ hI hlim N hN vs u n bs u' n' ub hm1 hm2 hub
    cases hm1
    cases hm2
    cases hub
    have hN:1≤N:=hN
    obtain⟨v,css,hγ,hels,hown,hfr⟩:=hI.res 0 (.row e t xs false) rfl
    have hsl:=hI.slots
    cases hsl with
    | cons h1 hk =>
    cases hk with
    | cons h2 hk =>
    cases hk
    rename_i u1 u2
    cases h1 with
    | row h1 =>
    rw[hγ] at h1
    cases h1
    cases h2 with
    | fn hc =>
    cases hc
    have hcss:=(Fe hn).1 hels
    have hγN : ∀ r,(if r=N then γ 0 else none)=if r=N then some (.row e t v) else none:=fun r=>by rw[hγ]
    have aR : ∀(w':World),w'.os=w.os→w'.tape=w.tape→w'.output=w.output→w.heap.size≤w'.heap.size→(∀ k,k < w.heap.size→v.ownBlock≠some k→w'.heap[k]? = w.heap[k]?) →
      w'.ownsRow 0 e t.sz v (db lt xs).length ((db lt xs).map (dU t)).flatten→uQ w (kw [(0,.row e t xs false)] γ) γ Pr N (N+1) [] [none] [(N,some (.row e t (db lt xs) false))] [] (fun r=>if r=N then γ 0 else none) Pr w':=by
     intro w' hos htp hout hsize hfrm hrow
     have hloose : ∀ b,v.ownBlock=some b → ∀ o,¬Pr b o:=fun b hb o ho=>hI.loose 0 (.row e t xs false) b rfl (by simp[aO,hγ,hb]) o ho
     have hnew : ∀ r x,kP [(N,some (aM.row e t (db lt xs) false))] r=some x→r=N∧x = .row e t (db lt xs) false:=by
      intro r x h
      have h':(if r=N then some (aM.row e t (db lt xs) false) else none)=some x:=h
      by_cases hr:r=N
      ·rw[if_pos hr] at h'
       exact⟨hr,(Option.some.inj h').symm⟩
      ·rw[if_neg hr] at h'
       cases h'
     have hblk : ∀ b,aO (fun r=>if r=N then γ 0 else none) N (.row e t (db lt xs) false)=some b→v.ownBlock=some b:=by
      intro b hb
      simpa[aO,hγ] using hb
     refine⟨.nil,?_,?_,?_,?_,?_,?_,?_,?_,?_,hsize,hos,htp,hout,?_,?_,?_⟩
     ·intro r g hr
      by_cases h:r=N
      ·rw[if_pos h,hγ] at hr
       cases hr
       obtain⟨A,n,c,rfl⟩:=hI.gs 0 e t v hγ
       exact⟨⟨by omega,by omega⟩,.inl ⟨e,t,A,n,c,rfl⟩⟩
      ·rw[if_neg h] at hr
       cases hr
     ·intro j t' c hj
      rcases j with _ | j <;> simp at hj
     ·intro r x h
      obtain⟨rfl,rfl⟩:=hnew r x h
      refine⟨Nat.le_refl _,Nat.lt_succ_self _,v,(db lt xs).map (dU t),?_,(Fe hn).2 rfl,hrow,fun h=>by cases h⟩
      exact(if_pos rfl).trans hγ
     ·intro r r' x x' b h h' hne
      exact absurd ((hnew r x h).1.trans (hnew r' x' h').1.symm) hne
     ·intro j t' c b hj
      rcases j with _ | j <;> simp at hj
     ·intro j t' c b hj
      rcases j with _ | j <;> simp at hj
     ·intro r x b h hb o ho
      obtain⟨rfl,rfl⟩:=hnew r x h
      exact absurd ho (hloose b (hblk b hb) o)
     ·intro r x b h hb
      obtain⟨rfl,rfl⟩:=hnew r x h
      exact .inl ⟨0,_,rfl,by simp[aO,hγ,hblk b hb]⟩
     ·intro k hk hx
      refine hfrm k hk fun hb=>hx ⟨0,_,rfl,by simp[aO,hγ,hb]⟩
     ·intro b o ho
      exact Nat.lt_of_lt_of_le (hI.prIn b o ho) hsize
     ·exact fun b hb hx o ho=>ho
     ·intro b o v' hv'
      refine⟨hv'.1,?_⟩
      rw[World.cell?_of_block (hfrm b (hI.prIn b o hv'.1) (fun hb=>hloose b hb o hv'.1))]
      exact hv'.2
    have hsame2 : ∀ p∈cX true [(0,aM.row e t xs false)] [SV.row N],(fun r=>if r=N then γ 0 else none) p.1=γ p.2:=by
     intro p hp
     have:p=(N,0):=by simpa[cX] using hp
     subst this
     exact if_pos rfl
    by_cases hx0:xs=[]
    ·subst hx0
     have hs0:db lt ([]:List t.den)=[]:=List.eq_nil_of_length_eq_zero (Dk hO [])
     have hv0 : ∃ p cap,v = .slice p 0 cap:=by
      rcases hown.2 with⟨rfl,_⟩ | ⟨g,cap,cur,rfl,_⟩
      ·exact⟨_,_,rfl⟩
      ·exact⟨_,_,rfl⟩
     obtain⟨p,cap,rfl⟩:=hv0
     refine(hnone p cap _ w).mono ?_
     rintro e' w' ⟨rfl,rfl⟩
     refine⟨[],_,Pr,rfl,aR w' rfl rfl rfl (Nat.le_refl _) (fun _ _ _=>rfl) ?_,hsame2⟩
     rw[hs0]
     rw[hcss] at hown
     exact hown
    ·rcases hown.2 with⟨rfl,h0⟩ | ⟨g,cap,cur,rfl,_,hheap,hnc,hcm,hcs,htake⟩
     ·exact absurd (List.eq_nil_of_length_eq_zero h0) hx0
     ·have hflat:(Sort.flatK (dU t) t.sz xs.toArray).toList=css.flatten:=by rw[LH (pD hn),hcss]
      have hflen:css.flatten.length=xs.length*t.sz:=hels.flat
      have hglt:g < w.heap.size:=(Array.getElem?_eq_some_iff.1 hheap).1
      have hmul:xs.length*t.sz≤cap*t.sz:=Nat.mul_le_mul_right _ hnc
      have hH:Sort.HoldsK (dU t) t.sz w g 0 xs.toArray:=by
       intro j hj
       have hj':j < css.flatten.length:=by
        rw[←hflat]
        simpa using hj
       have hcell:=hown.cells (g:=g) rfl j _ (List.getElem?_eq_getElem hj')
       rw[fW] at hcell
       refine⟨?_,?_⟩
       ·rw[hcell]
        congr 1
        have:(Sort.flatK (dU t) t.sz xs.toArray)[j]! = (Sort.flatK (dU t) t.sz xs.toArray).toList[j]! := by
         rw[getElem!_pos _ j hj,getElem!_pos _ j (by simpa using hj)]
         simp
        show css.flatten[j]=(Sort.flatK (dU t) t.sz xs.toArray)[j]!
        rw[this,hflat,getElem!_pos _ j hj']
       ·have:=hown.frozenAt j
        rw[Nat.zero_add]
        exact this
      have hc:=hcon g cap xs.toArray w hH hglt (by simpa using hlen)
      rw[show(xs.toArray).size=xs.length by simp] at hc
      refine hc.mono ?_
      rintro e' w' ⟨rfl,m,os,rfl⟩
      have hsl:(Sort.pdq lt xs.toArray 0 xs.length (Lib.bitLen xs.length) true true).toList=db lt xs:=by
       unfold db
       simp
      have hdl:=Dk hO xs
      have hF:(Sort.flatK (dU t) t.sz (Sort.pdq lt xs.toArray 0 xs.length (Lib.bitLen xs.length) true true)).toList=((db lt xs).map (dU t)).flatten:=by rw[LH (pD hn),hsl]
      have hFs:(Sort.flatK (dU t) t.sz (Sort.pdq lt xs.toArray 0 xs.length (Lib.bitLen xs.length) true true)).size=xs.length*t.sz:=by
       rw[Sort.size_flatK,←Array.length_toList,hsl,hdl]
      have hw' : ∀ k,k≠g→k < w.heap.size→(sortWorldK (dU t) t.sz w g 0 m (Sort.pdq lt xs.toArray 0 xs.length (Lib.bitLen xs.length) true true) os).heap[k]? = w.heap[k]? := by
       intro k hk hkl
       show((w.heap.modify g _)++os)[k]? = w.heap[k]?
       rw[Array.getElem?_append_left (by simpa using hkl),Array.getElem?_modify,if_neg (fun e=>hk e.symm)]
      have hwg:(sortWorldK (dU t) t.sz w g 0 m (Sort.pdq lt xs.toArray 0 xs.length (Lib.bitLen xs.length) true true) os).heap[g]? = some (.cells (Sort.putCells id 0 (Sort.flatK (dU t) t.sz (Sort.pdq lt xs.toArray 0 xs.length (Lib.bitLen xs.length) true true)) cur) e (0,0)):=by
       show((w.heap.modify g _)++os)[g]? = _
       rw[Array.getElem?_append_left (by simpa using hglt),Array.getElem?_modify,if_pos rfl,hheap]
       rfl
      refine⟨[],_,Pr,rfl,aR _ rfl rfl rfl ?_ ?_ ?_,hsame2⟩
      ·show w.heap.size≤((w.heap.modify g _)++os).size
       simp
      ·intro k hk hne
       exact hw' k (fun e=>hne (by rw[e]; rfl)) hk
      ·refine⟨?_,.inr ⟨g,cap,_,by rw[hdl],Nat.zero_le _,hwg,by omega,hcm,?_,?_⟩⟩
       ·rw[←hF,Array.length_toList,hFs,hdl]
       ·rw[show(Sort.putCells id 0 (Sort.flatK (dU t) t.sz (Sort.pdq lt xs.toArray 0 xs.length (Lib.bitLen xs.length) true true)) cur).size=cur.size by simp[Sort.putCells]]
        exact hcs
       ·rw[hdl,←hF,←hFs]
        exact Qv _ _ (by rw[hFs,hcs]; exact hmul)
   ·cases hz
  ·cases hz
 ·cases hz
theorem BL {Gp:WP} {P:Program} {g nb:Nat} {fn:Func} {e:TypeId} {t:Ty} {own:List Bool} {live:List (Nat×List Nat)} (hn:cP t=true) (hsz:0 < t.sz) (hnb:0 < nb)
  (hnil : ∀(n c:Nat) (w:World),Calls P g #[.slice none n c] w fun e w'=>e = .returned (.slice none 0 0)∧w'=w)
  (hcl : ∀(a:Addr) (n c:Nat) (news:List Value) (w:World),news.length=n*t.sz→n≤maxLen→n*nb≤140737488355328→(∀ j u,news[j]? = some u→w.cell? (a.add j)=some u)→(∀ u∈news,u.oneCell'=true) →
   Calls P g #[.slice (some a) n c] w fun e' w' => ∃ v',e' = .returned v'∧w'.ownsRow w.heap.size e t.sz v' n news∧v' ≠ .slice none 0 0∧Below w.heap.size w w') :
  ∀(args:List SV) (tab:aw) (z:(Sh.pair (.row e t false) .unit).den×Sh.unit.den),fk e t nb args tab=some z→eO Gp P {g:=g,fn:=fn,sh := .pair (.row e t false) .unit,bx := .unit,own:=own,live:=live,prim:=some (fk e t nb)} args tab z:=by
 intro args tab z hz
 unfold fk at hz
 split at hz
 ·rename_i s xs
  rw[Option.bind_eq_some_iff] at hz
  obtain⟨xs',hxs,hz⟩:=hz
  obtain⟨rfl,hxs⟩:=ic hxs
  have hxs:xs=xs':=hxs
  subst hxs
  split at hz
  ·rename_i hlen
   cases hz
   intro hcanon w γ Pr us _ hI hlim N hN vs u n bs u' n' ub hm1 hm2 hub
   cases hm1
   cases hm2
   cases hub
   have hsl:=hI.slots
   cases hsl with
   | cons h1 hk =>
   cases hk
   cases h1 with
   | val h1 =>
   obtain⟨A,cap,rfl,hcap,hA⟩:=h1
   have aR : ∀(v:Value) (w':World),Below w.heap.size w w'→w'.ownsRow w.heap.size e t.sz v (xs:List t.den).length ((xs:List t.den).map (dU t)).flatten→uQ w (kw [] γ) γ Pr N (N+1) [.row N] [] [(N,some (.row e t xs false))] [v] (fun r=>if r=N then some (.row e t v) else none) Pr w':=by
    intro v w' hB hrow
    have hnew : ∀ r x,kP [(N,some (aM.row e t xs false))] r=some x→r=N∧x = .row e t xs false:=by
     intro r x h
     have h':(if r=N then some (aM.row e t xs false) else none)=some x:=h
     by_cases hr:r=N
     ·rw[if_pos hr] at h'
      exact⟨hr,(Option.some.inj h').symm⟩
     ·rw[if_neg hr] at h'
      cases h'
    have hblk : ∀ b,aO (fun r=>if r=N then some (G.row e t v) else none) N (.row e t xs false)=some b→w.heap.size≤b:=by
     intro b hb
     have:v.ownBlock=some b:=by simpa[aO] using hb
     exact(hrow.lt b this).1
    refine⟨.cons (.row (if_pos rfl)) .nil,?_,?_,?_,?_,?_,?_,?_,?_,?_,hB.size,hB.os,hB.tape,hB.output,?_,?_,?_⟩
    ·intro r g hr
     by_cases h:r=N
     ·rw[if_pos h] at hr
      cases hr
      have : ∃ A n c,v = .slice A n c:=by
       rcases hrow.2 with⟨rfl,_⟩ | ⟨g,cap,cur,rfl,_⟩
       ·exact⟨_,_,_,rfl⟩
       ·exact⟨_,_,_,rfl⟩
      obtain⟨A,n,c,rfl⟩:=this
      exact⟨⟨by omega,by omega⟩,.inl ⟨e,t,A,n,c,rfl⟩⟩
     ·rw[if_neg h] at hr
      cases hr
    ·intro j t' c hj
     simp at hj
    ·intro r x h
     obtain⟨rfl,rfl⟩:=hnew r x h
     exact⟨Nat.le_refl _,Nat.lt_succ_self _,v,_,if_pos rfl,(Fe hn).2 rfl,Ug hrow,fun h=>by cases h⟩
    ·intro r r' x x' b h h' hne
     exact absurd ((hnew r x h).1.trans (hnew r' x' h').1.symm) hne
    ·intro j t' c b hj
     simp at hj
    ·intro j t' c b hj
     simp at hj
    ·intro r x b h hb o ho
     obtain⟨rfl,rfl⟩:=hnew r x h
     have:=hblk b hb
     have:=hI.prIn b o ho
     omega
    ·intro r x b h hb
     obtain⟨rfl,rfl⟩:=hnew r x h
     exact .inr (hblk b hb)
    ·exact fun k hk _=>hB.block k hk
    ·exact fun b o ho=>Nat.lt_of_lt_of_le (hI.prIn b o ho) hB.size
    ·exact fun b hb hx o ho=>ho
    ·intro b o v' hv'
     refine⟨hv'.1,?_⟩
     rw[World.cell?_of_block (hB.block b (hI.prIn b o hv'.1))]
     exact hv'.2
   have hmax:(xs:List t.den).length≤maxLen:=by
    have h1:(xs:List t.den).length*1≤(xs:List t.den).length*nb:=Nat.mul_le_mul_left _ hnb
    simp only[maxLen]
    omega
   cases A with
   | none =>
    have hx0:(xs:List t.den)=[]:=by
     rcases List.eq_nil_or_concat (xs:List t.den) with h | ⟨_,_,h⟩
     ·exact h
     ·obtain⟨b,o,hh,_⟩:=hA (by rw[h]; simp)
      cases hh
    subst hx0
    refine(hnil 0 cap w).mono ?_
    rintro e' w' ⟨rfl,rfl⟩
    refine⟨[.slice none 0 0],_,Pr,rfl,aR _ _ (Below.refl _ _) ?_,fun p hp=>by have hp':p∈([]:List (Nat×Nat)):=hp; cases hp'⟩
    exact World.ownsRow_nil _ _ _ _
   | some a =>
    have hfl:((xs:List t.den).map (dU t)).flatten=(List.range ((xs:List t.den).length*t.sz)).map (fun j=>(dU t (xs:List t.den)[j / t.sz]!)[j % t.sz]!):=(zv (pD hn) xs).symm
    refine(hcl a (xs:List t.den).length cap ((xs:List t.den).map (dU t)).flatten w ?_ hmax hlen ?_ ?_).mono ?_
    ·rw[hfl]
     simp
    ·intro j u hj
     rw[hfl] at hj
     obtain⟨hj1,hj2⟩:=List.getElem?_eq_some_iff.1 hj
     have hjl:j < (xs:List t.den).length*t.sz:=by simpa using hj1
     have hne:(xs:List t.den)≠[]:=by
      intro h
      rw[h] at hjl
      simp at hjl
     obtain⟨b,o,hab,hcells⟩:=hA hne
     cases hab
     have hi:j / t.sz < (xs:List t.den).length:=Nat.div_lt_of_lt_mul (by rw[Nat.mul_comm]; exact hjl)
     obtain⟨c,hc1,hc2⟩:=hcells (j / t.sz) hi
     have hcc:=(mo hn).1 hc1
     have hm:j % t.sz < c.length:=by
      rw[hcc,pD hn]
      exact Nat.mod_lt _ hsz
     have:=(hc2 (j % t.sz) _ (List.getElem?_eq_getElem hm)).2
     rw[fW]
     have e1:o+j / t.sz*t.sz+j % t.sz=o+j:=by
      rw[Nat.add_assoc,Nat.mul_comm,Nat.div_add_mod]
     rw[e1] at this
     rw[this]
     congr 1
     rw[←hj2]
     simp only[List.getElem_map,List.getElem_range]
     rw[getElem!_pos (xs:List t.den) _ hi]
     subst hcc
     rw[getElem!_pos (dU t (xs:List t.den)[j / t.sz]) (j % t.sz) hm]
    ·intro u hu
     rw[List.mem_flatten] at hu
     obtain⟨l,hl,hu⟩:=hu
     obtain⟨x,_,rfl⟩:=List.mem_map.1 hl
     exact AA hn x u hu
    ·rintro e' w' ⟨v',rfl,hrow,_,hB⟩
     exact⟨[v'],_,Pr,rfl,aR _ _ hB hrow,fun p hp=>by have hp':p∈([]:List (Nat×Nat)):=hp; cases hp'⟩
  ·cases hz
 ·cases hz
end Go.Proofs.YtddiiceaindlhaaGreatDoor.Abs
set_option linter.unusedVariables false
set_option linter.unusedSimpArgs false
set_option linter.unusedSectionVars false
namespace Go.Proofs
open Go.Shelf Go.RowKit Go.Lib Go.Sort
def Tryz.cmpInt64_ren:Go.Shelf.Ren:=⟨fun | 5=>85 | 7=>116 | n=>n,fun | 22=>2 | 3=>3 | 4=>4 | n=>n,fun | n=>n⟩
theorem Tryz.cmpInt64:Go.Proofs.SlLaysC2.n5 Tryz.prog Tryz.cmpInt64_ren:={
 mixed:=by kernel_rfl
 f5:=⟨Tryz.f85.name,by decide,Tryz.func85.trans (congrArg some (by kernel_rfl))⟩
 f7:=⟨Tryz.f116.name,by decide,Tryz.func116.trans (congrArg some (by kernel_rfl))⟩
 t3:=Tryz.underlying3
 a3:=Tryz.isAgg3
 z3:=Tryz.sizeOf3
 v3:=Tryz.zeroValue3
 t4:=Tryz.underlying4
 a4:=Tryz.isAgg4
 z4:=Tryz.sizeOf4
 v4:=Tryz.zeroValue4
 t22:=Tryz.underlying2
 a22:=Tryz.isAgg2
 z22:=Tryz.sizeOf2
 v22:=Tryz.zeroValue2}
def YtddiiceaindlhaaGreatDoor.Abs.orI (x y:Int):Int:=if x=0 then y else x
set_option maxHeartbeats 1000000 in
theorem YtddiiceaindlhaaGreatDoor.Abs.or2 (b:Nat) (x y:Int) (W:World) (h0:W.cell? ⟨b,0,none⟩=some (.int .i64 x)) (h1:W.cell? ⟨b,1,none⟩=some (.int .i64 y)):Calls Tryz.prog 84 #[.slice (some ⟨b,0,none⟩) 2 2] W fun e w'=>e = .returned (.int .i64 (YtddiiceaindlhaaGreatDoor.Abs.orI x y))∧w'=W:=by
 show Calls _ _ _ _ fun e w'=>e = .returned (.int .i64 (if x=0 then y else x))∧w'=W
 go_enter Tryz.func84,Tryz.ntmps84
 go_wp2
 go_rounds 3
 all_goals (try (go_ret; refine⟨?_,rfl⟩; simp_all; done))
theorem YtddiiceaindlhaaGreatDoor.Abs.cell2 (W:World) (x y:Value) (T:TypeId):(W.alloc (.cells #[x,y] T)).cell? ⟨W.heap.size,0,none⟩=some x∧(W.alloc (.cells #[x,y] T)).cell? ⟨W.heap.size,1,none⟩=some y:=by
 rw[World.cell?_alloc_at _ _ _ _ rfl,World.cell?_alloc_at _ _ _ _ rfl]
 exact⟨rfl,rfl⟩
theorem YtddiiceaindlhaaGreatDoor.Abs.grow3 (W:World) (o1 o2 o3:Obj):((W.alloc o1).alloc o2).drew.alloc o3=grow (W.drewN 1) (#[o1] ++ #[o2] ++ #[o3]):=by
 rw[alloc_eq_grow,alloc_eq_grow,alloc_eq_grow,grow_grow]
 show grow (grow (W.drewN 1) (#[o1] ++ #[o2])) #[o3]=_
 rw[grow_grow]
set_option maxRecDepth 100000 in
set_option maxHeartbeats 2000000 in
theorem YtddiiceaindlhaaGreatDoor.Abs.cmpRefs (a1 a2 b1 b2:Int) (W:World):Calls Tryz.prog 57 #[.agg #[.int .i64 a1,.int .i64 a2],.agg #[.int .i64 b1,.int .i64 b2]] W fun e w'=>e = .returned (.int .i64 (YtddiiceaindlhaaGreatDoor.Abs.orI (Lib.compareInt a2 b2) (Lib.compareInt a1 b1))) ∧ ∃ q os',w'=grow (W.drewN q) os':=by
 have hcon:=fun(x y:Int) W'=>AnyG.cmp_Compare_int Tryz.cmpInt64 x y W'
 change ∀(x y:Int) W',Calls Tryz.prog 85 _ _ _ at hcon
 have hor:=YtddiiceaindlhaaGreatDoor.Abs.or2
 go_enter Tryz.func57,Tryz.ntmps57
 go_wp2_with (first | (go_at_call 85; refine(hcon _ _ _).mono ?_; rintro e w' ⟨rfl,rfl⟩) | (go_at_call 84; refine(hor _ _ _ _ ?_ ?_).mono ?_))
 refine wp_region_still_tail 10 (by kernel_rfl) (by kernel_rfl) ?_
 change wpStill _ _ (World.drew _) (fun a'=>wpList _ _ _ _ a' (World.drew _)) _ _
 simp only[List.take_succ_cons,List.take_zero,List.drop_succ_cons,List.drop_zero]
 iterate 4 still_step
 still_call (hcon _ _ _)
 iterate 4 still_step
 still_call (hcon _ _ _)
 refine wpStill_nil ?_
 generalize hw2:World.drew _=w2
 go_wp2_with (go_at_call 84; refine(hor _ _ _ _ (YtddiiceaindlhaaGreatDoor.Abs.cell2 _ _ _ _).1 (YtddiiceaindlhaaGreatDoor.Abs.cell2 _ _ _ _).2).mono ?_; rintro e w' ⟨rfl,rfl⟩)
 go_ret
 subst hw2
 exact⟨rfl,1,_,YtddiiceaindlhaaGreatDoor.Abs.grow3 _ _ _ _⟩
end Go.Proofs
set_option linter.unusedVariables false
set_option linter.unusedSimpArgs false
set_option linter.unusedSectionVars false
namespace Go.Proofs
open Go.Shelf Go.RowKit Go.Lib Go.Sort
def Tryz.clCell_ren:Go.Shelf.Ren:=⟨fun | 41=>51 | n=>n,fun | 22=>31 | 23=>49 | 4=>4 | n=>n,fun | n=>n⟩
theorem Tryz.clCell:Go.Proofs.SlLaysE0.n41 Tryz.prog Tryz.clCell_ren:={
 mixed:=by kernel_rfl
 f41:=⟨Tryz.f51.name,by decide,Tryz.func51.trans (congrArg some (by kernel_rfl))⟩
 t4:=Tryz.underlying4
 a4:=Tryz.isAgg4
 z4:=Tryz.sizeOf4
 v4:=Tryz.zeroValue4
 t22:=Tryz.underlying31
 a22:=Tryz.isAgg31
 z22:=Tryz.sizeOf31
 v22:=Tryz.zeroValue31}
def Tryz.sortCell_ren:Go.Shelf.Ren:=⟨fun | 6=>139 | 15=>153 | 14=>179 | 28=>191 | 29=>192 | 20=>222 | 21=>223 | 22=>224 | 23=>225 | 24=>226 | 25=>227 | 26=>228 | 27=>229 | 46=>257 | 47=>232 | 48=>233 | 49=>258 | 50=>259 | 57=>280 | n=>n,fun | 22=>31 | 24=>49 | 25=>162 | 3=>3 | 39=>172 | 0=>0 | 53=>201 | 55=>170 | 4=>4 | 46=>194 | 45=>193 | 50=>198 | 5=>5 | 9=>9 | 66=>227 | 70=>230 | 76=>249 | 77=>250 | n=>n,fun | n=>n⟩
theorem Tryz.sortCell:Go.Proofs.SlLaysF0.n6 Tryz.prog Tryz.sortCell_ren:={
 mixed:=by kernel_rfl
 f6:=⟨Tryz.f139.name,by decide,Tryz.func139.trans (congrArg some (by kernel_rfl))⟩
 f14:=⟨Tryz.f179.name,by decide,Tryz.func179.trans (congrArg some (by kernel_rfl))⟩
 f15:=Tryz.func153.trans (congrArg some (by kernel_rfl))
 f20:=⟨Tryz.f222.name,by decide,Tryz.func222.trans (congrArg some (by kernel_rfl))⟩
 f21:=⟨Tryz.f223.name,by decide,Tryz.func223.trans (congrArg some (by kernel_rfl))⟩
 f22:=⟨Tryz.f224.name,by decide,Tryz.func224.trans (congrArg some (by kernel_rfl))⟩
 f23:=⟨Tryz.f225.name,by decide,Tryz.func225.trans (congrArg some (by kernel_rfl))⟩
 f24:=⟨Tryz.f226.name,by decide,Tryz.func226.trans (congrArg some (by kernel_rfl))⟩
 f25:=⟨Tryz.f227.name,by decide,Tryz.func227.trans (congrArg some (by kernel_rfl))⟩
 f26:=⟨Tryz.f228.name,by decide,Tryz.func228.trans (congrArg some (by kernel_rfl))⟩
 f27:=⟨Tryz.f229.name,by decide,Tryz.func229.trans (congrArg some (by kernel_rfl))⟩
 f28:=Tryz.func191.trans (congrArg some (by kernel_rfl))
 f29:=Tryz.func192.trans (congrArg some (by kernel_rfl))
 f46:=⟨Tryz.f257.name,by decide,Tryz.func257.trans (congrArg some (by kernel_rfl))⟩
 f47:=Tryz.func232.trans (congrArg some (by kernel_rfl))
 f48:=Tryz.func233.trans (congrArg some (by kernel_rfl))
 f49:=⟨Tryz.f258.name,by decide,Tryz.func258.trans (congrArg some (by kernel_rfl))⟩
 f50:=⟨Tryz.f259.name,by decide,Tryz.func259.trans (congrArg some (by kernel_rfl))⟩
 f57:=⟨Tryz.f280.name,by decide,Tryz.func280.trans (congrArg some (by kernel_rfl))⟩
 t0:=Tryz.underlying0
 a0:=Tryz.isAgg0
 z0:=Tryz.sizeOf0
 v0:=Tryz.zeroValue0
 t3:=Tryz.underlying3
 a3:=Tryz.isAgg3
 z3:=Tryz.sizeOf3
 v3:=Tryz.zeroValue3
 t4:=Tryz.underlying4
 a4:=Tryz.isAgg4
 z4:=Tryz.sizeOf4
 v4:=Tryz.zeroValue4
 t5:=Tryz.underlying5
 a5:=Tryz.isAgg5
 z5:=Tryz.sizeOf5
 v5:=Tryz.zeroValue5
 t9:=Tryz.underlying9
 a9:=Tryz.isAgg9
 z9:=Tryz.sizeOf9
 v9:=Tryz.zeroValue9
 t22:=Tryz.underlying31
 a22:=Tryz.isAgg31
 z22:=Tryz.sizeOf31
 v22:=Tryz.zeroValue31
 t25:=Tryz.underlying162
 a25:=Tryz.isAgg162
 z25:=Tryz.sizeOf162
 v25:=Tryz.zeroValue162
 t39:=Tryz.underlying172
 a39:=Tryz.isAgg172
 z39:=Tryz.sizeOf172
 v39:=Tryz.zeroValue172
 t45:=Tryz.underlying193
 a45:=Tryz.isAgg193
 z45:=Tryz.sizeOf193
 v45:=Tryz.zeroValue193
 t46:=Tryz.underlying194
 a46:=Tryz.isAgg194
 z46:=Tryz.sizeOf194
 v46:=Tryz.zeroValue194
 t50:=Tryz.underlying198
 a50:=Tryz.isAgg198
 z50:=Tryz.sizeOf198
 v50:=Tryz.zeroValue198
 t53:=Tryz.underlying201
 a53:=Tryz.isAgg201
 z53:=Tryz.sizeOf201
 v53:=Tryz.zeroValue201
 t55:=Tryz.underlying170
 a55:=Tryz.isAgg170
 z55:=Tryz.sizeOf170
 v55:=Tryz.zeroValue170
 t66:=Tryz.underlying227
 a66:=Tryz.isAgg227
 z66:=Tryz.sizeOf227
 v66:=Tryz.zeroValue227
 t70:=Tryz.underlying230
 a70:=Tryz.isAgg230
 z70:=Tryz.sizeOf230
 v70:=Tryz.zeroValue230
 t76:=Tryz.underlying249
 a76:=Tryz.isAgg249
 z76:=Tryz.sizeOf249
 v76:=Tryz.zeroValue249
 t77:=Tryz.underlying250
 a77:=Tryz.isAgg250
 z77:=Tryz.sizeOf250
 v77:=Tryz.zeroValue250}
set_option maxHeartbeats 1000000 in
theorem YtddiiceaindlhaaGreatDoor.Abs.closureCell (a1 a2 b1 b2:Int) (s t:ByteArray) (W:World):Calls Tryz.prog 140 #[.agg #[.int .i64 a1,.int .i64 a2,.string s],.agg #[.int .i64 b1,.int .i64 b2,.string t]] W fun e w'=>e = .returned (.int .i64 (YtddiiceaindlhaaGreatDoor.Abs.orI (Lib.compareInt a2 b2) (Lib.compareInt a1 b1))) ∧ ∃ q os',w'=grow (W.drewN q) os':=by
 have hcon:=fun W'=>YtddiiceaindlhaaGreatDoor.Abs.cmpRefs a1 a2 b1 b2 W'
 generalize YtddiiceaindlhaaGreatDoor.Abs.orI (Lib.compareInt a2 b2) (Lib.compareInt a1 b1)=r at hcon ⊢
 go_enter Tryz.func140,Tryz.ntmps140
 go_wp2_with (go_at_call 57; refine(hcon _).mono ?_; rintro e w' ⟨rfl,q,os',rfl⟩)
 go_ret
 exact⟨rfl,q,_,by rw[alloc_eq_grow,alloc_eq_grow,grow_grow]; show grow (grow (W.drewN q) _) os'=_; exact grow_grow _ _ _⟩
set_option maxHeartbeats 1000000 in
theorem YtddiiceaindlhaaGreatDoor.Abs.closureCellS (a1 a2 b1 b2:Int) (s t:ByteArray) (W:World):Calls Tryz.prog 148 #[.agg #[.int .i64 a1,.int .i64 a2,.string s],.agg #[.int .i64 b1,.int .i64 b2,.string t]] W fun e w'=>e = .returned (.int .i64 (YtddiiceaindlhaaGreatDoor.Abs.orI (Lib.compareInt a2 b2) (Lib.compareInt a1 b1))) ∧ ∃ q os',w'=grow (W.drewN q) os':=by
 have hcon:=fun W'=>YtddiiceaindlhaaGreatDoor.Abs.cmpRefs a1 a2 b1 b2 W'
 generalize YtddiiceaindlhaaGreatDoor.Abs.orI (Lib.compareInt a2 b2) (Lib.compareInt a1 b1)=r at hcon ⊢
 go_enter Tryz.func148,Tryz.ntmps148
 go_wp2_with (go_at_call 57; refine(hcon _).mono ?_; rintro e w' ⟨rfl,q,os',rfl⟩)
 go_ret
 exact⟨rfl,q,_,by rw[alloc_eq_grow,alloc_eq_grow,grow_grow]; show grow (grow (W.drewN q) _) os'=_; exact grow_grow _ _ _⟩
def Tryz.sortRef_ren:Go.Shelf.Ren:=⟨fun | 6=>114 | 15=>153 | 14=>152 | 28=>191 | 29=>192 | 20=>183 | 21=>184 | 22=>185 | 23=>186 | 24=>187 | 25=>188 | 26=>189 | 27=>190 | 46=>231 | 47=>232 | 48=>233 | 49=>234 | 50=>235 | 57=>260 | n=>n,fun | 22=>105 | 24=>35 | 25=>88 | 3=>3 | 39=>172 | 0=>0 | 53=>201 | 55=>170 | 4=>4 | 46=>194 | 45=>193 | 50=>198 | 5=>5 | 9=>9 | 66=>227 | 70=>230 | 76=>249 | 77=>250 | n=>n,fun | n=>n⟩
theorem Tryz.sortRef:Go.Proofs.SlLaysF0.n6 Tryz.prog Tryz.sortRef_ren:={
 mixed:=by kernel_rfl
 f6:=⟨Tryz.f114.name,by decide,Tryz.func114.trans (congrArg some (by kernel_rfl))⟩
 f14:=⟨Tryz.f152.name,by decide,Tryz.func152.trans (congrArg some (by kernel_rfl))⟩
 f15:=Tryz.func153.trans (congrArg some (by kernel_rfl))
 f20:=⟨Tryz.f183.name,by decide,Tryz.func183.trans (congrArg some (by kernel_rfl))⟩
 f21:=⟨Tryz.f184.name,by decide,Tryz.func184.trans (congrArg some (by kernel_rfl))⟩
 f22:=⟨Tryz.f185.name,by decide,Tryz.func185.trans (congrArg some (by kernel_rfl))⟩
 f23:=⟨Tryz.f186.name,by decide,Tryz.func186.trans (congrArg some (by kernel_rfl))⟩
 f24:=⟨Tryz.f187.name,by decide,Tryz.func187.trans (congrArg some (by kernel_rfl))⟩
 f25:=⟨Tryz.f188.name,by decide,Tryz.func188.trans (congrArg some (by kernel_rfl))⟩
 f26:=⟨Tryz.f189.name,by decide,Tryz.func189.trans (congrArg some (by kernel_rfl))⟩
 f27:=⟨Tryz.f190.name,by decide,Tryz.func190.trans (congrArg some (by kernel_rfl))⟩
 f28:=Tryz.func191.trans (congrArg some (by kernel_rfl))
 f29:=Tryz.func192.trans (congrArg some (by kernel_rfl))
 f46:=⟨Tryz.f231.name,by decide,Tryz.func231.trans (congrArg some (by kernel_rfl))⟩
 f47:=Tryz.func232.trans (congrArg some (by kernel_rfl))
 f48:=Tryz.func233.trans (congrArg some (by kernel_rfl))
 f49:=⟨Tryz.f234.name,by decide,Tryz.func234.trans (congrArg some (by kernel_rfl))⟩
 f50:=⟨Tryz.f235.name,by decide,Tryz.func235.trans (congrArg some (by kernel_rfl))⟩
 f57:=⟨Tryz.f260.name,by decide,Tryz.func260.trans (congrArg some (by kernel_rfl))⟩
 t0:=Tryz.underlying0
 a0:=Tryz.isAgg0
 z0:=Tryz.sizeOf0
 v0:=Tryz.zeroValue0
 t3:=Tryz.underlying3
 a3:=Tryz.isAgg3
 z3:=Tryz.sizeOf3
 v3:=Tryz.zeroValue3
 t4:=Tryz.underlying4
 a4:=Tryz.isAgg4
 z4:=Tryz.sizeOf4
 v4:=Tryz.zeroValue4
 t5:=Tryz.underlying5
 a5:=Tryz.isAgg5
 z5:=Tryz.sizeOf5
 v5:=Tryz.zeroValue5
 t9:=Tryz.underlying9
 a9:=Tryz.isAgg9
 z9:=Tryz.sizeOf9
 v9:=Tryz.zeroValue9
 t22:=Tryz.underlying105
 a22:=Tryz.isAgg105
 z22:=Tryz.sizeOf105
 v22:=Tryz.zeroValue105
 t25:=Tryz.underlying88
 a25:=Tryz.isAgg88
 z25:=Tryz.sizeOf88
 v25:=Tryz.zeroValue88
 t39:=Tryz.underlying172
 a39:=Tryz.isAgg172
 z39:=Tryz.sizeOf172
 v39:=Tryz.zeroValue172
 t45:=Tryz.underlying193
 a45:=Tryz.isAgg193
 z45:=Tryz.sizeOf193
 v45:=Tryz.zeroValue193
 t46:=Tryz.underlying194
 a46:=Tryz.isAgg194
 z46:=Tryz.sizeOf194
 v46:=Tryz.zeroValue194
 t50:=Tryz.underlying198
 a50:=Tryz.isAgg198
 z50:=Tryz.sizeOf198
 v50:=Tryz.zeroValue198
 t53:=Tryz.underlying201
 a53:=Tryz.isAgg201
 z53:=Tryz.sizeOf201
 v53:=Tryz.zeroValue201
 t55:=Tryz.underlying170
 a55:=Tryz.isAgg170
 z55:=Tryz.sizeOf170
 v55:=Tryz.zeroValue170
 t66:=Tryz.underlying227
 a66:=Tryz.isAgg227
 z66:=Tryz.sizeOf227
 v66:=Tryz.zeroValue227
 t70:=Tryz.underlying230
 a70:=Tryz.isAgg230
 z70:=Tryz.sizeOf230
 v70:=Tryz.zeroValue230
 t76:=Tryz.underlying249
 a76:=Tryz.isAgg249
 z76:=Tryz.sizeOf249
 v76:=Tryz.zeroValue249
 t77:=Tryz.underlying250
 a77:=Tryz.isAgg250
 z77:=Tryz.sizeOf250
 v77:=Tryz.zeroValue250}
end Go.Proofs
namespace Go.Proofs.YtddiiceaindlhaaGreatDoor.Abs
open Go Go.Shelf Go.RowKit Go.Lib Go.Sort
theorem Ow (a1 a2 b1 b2:Int):decide (orI (Lib.compareInt a2 b2) (Lib.compareInt a1 b1) < 0)=(decide (a2 < b2) || (decide (a2=b2) && decide (a1 < b1))):=by
 unfold orI Lib.compareInt
 by_cases h1:a2 < b2
 ·simp[h1]
 ·by_cases h2:b2 < a2
  ·have : ¬a2=b2:=by omega
   simp[h1,h2,this]
  ·have:a2=b2:=by omega
   by_cases h3:a1 < b1
   ·simp[h1,h2,h3,this]
   ·by_cases h4:b1 < a1
    ·simp[h1,h2,h3,h4,this]
    ·simp[h1,h2,h3,h4,this]
def va (a1 a2 b1 b2:Int):Bool:=decide (a2 < b2) || (decide (a2=b2) && decide (a1 < b1))
theorem Jc (a1 a2:Int):va a1 a2 a1 a2=false:=by simp[va]
theorem DJ {a1 a2 b1 b2 c1 c2:Int} (h:va a1 a2 b1 b2=true) (k:va b1 b2 c1 c2=true):va a1 a2 c1 c2=true:=by
 simp only[va,Bool.or_eq_true,Bool.and_eq_true,decide_eq_true_eq] at *
 omega
theorem BM {a1 a2 b1 b2 c1 c2:Int} (h:va a1 a2 b1 b2=false) (k:va b1 b2 c1 c2=false):va a1 a2 c1 c2=false:=by
 simp only[va,Bool.or_eq_false_iff,Bool.and_eq_false_iff,decide_eq_false_iff_not] at *
 omega
set_option maxRecDepth 100000 in
theorem MA {Gp:WP} : ∀(args:List SV) (tab:aw) (z:fx.sh.den×fx.bx.den),fk 49 ag 32 args tab=some z→eO Gp Tryz.prog fx args tab z:=by
 refine BL (P:=Tryz.prog) (g:=51) (nb:=32) (fn:=Tryz.f51) (e:=49) (t:=ag) (own:=[]) (live:=[]) rfl (by decide) (by decide) ?_ ?_
 ·exact fun n c w=>AnyE.slices_Clone_nil Tryz.clCell n c w
 ·exact fun a n c news w h1 h2 h3 h4 h5=>clone_any Tryz.clCell _ _ 3 32 rfl rfl (by kernel_rfl) (by kernel_rfl) (by kernel_rfl) (by decide) Tryz.sizeOf49 a n c news w h1 h2 h3 h4 h5
def Ox (x y:ag.den):Int:=orI (Lib.compareInt x.1.2.1 y.1.2.1) (Lib.compareInt x.1.1 y.1.1)
def wh (a b:ag.den):Bool:=decide (a.1.2.1 < b.1.2.1) || (decide (a.1.2.1=b.1.2.1) && decide (a.1.1 < b.1.1))
theorem ut:ltOf Ox=wh:=by
 funext x y
 exact Ow x.1.1 x.1.2.1 y.1.1 y.1.2.1
theorem xx:Sort.SWO (α:=ag.den) wh where
 irrefl x:=Jc x.1.1 x.1.2.1
 trans x y z h k:=DJ (a1:=x.1.1) (a2:=x.1.2.1) (b1:=y.1.1) (b2:=y.1.2.1) (c1:=z.1.1) (c2:=z.1.2.1) h k
 ntrans x y z h k:=BM (a1:=x.1.1) (a2:=x.1.2.1) (b1:=y.1.1) (b2:=y.1.2.1) (c1:=z.1.1) (c2:=z.1.2.1) h k
theorem Jd (aO off size:Nat) (w:World):CmpLays Tryz.prog 140 #[] (dU ag) 3 Ox aO off size w :=
 fun _ _ _ _ x y=>closureCell x.1.1 x.1.2.1 y.1.1 y.1.2.1 x.2.1 y.2.1 _
set_option maxRecDepth 100000 in
theorem DK {Gp:WP} : ∀(args:List SV) (tab:aw) (z:Sh.unit.den×(Sh.pair (.row 49 ag false) .unit).den),dI 49 ag 140 wh args tab=some z→eO Gp Tryz.prog {g:=139,fn:=Tryz.f139,sh := .unit,bx := .pair (.row 49 ag false) .unit,own:=[true,false],live:=[],rb:=true,prim:=some (dI 49 ag 140 wh)} args tab z:=by
 refine xw (P:=Tryz.prog) (g:=139) (gc:=140) (fn:=Tryz.f139) (e:=49) (t:=ag) (own:=[true,false]) (live:=[]) rfl (by decide) xx ?_ ?_
 ·intro aO cap d w hH hblk hsz
  have eg : ∀ args w,(callFunc 140 args).run Tryz.prog w = .ok (.enter 140 args) w:=enters_of Tryz.func140 (by kernel_rfl) rfl
  have h:=AnyQ.slices_SortFunc_eq Tryz.sortCell 3 Tryz.isAgg49 Tryz.sizeOf49 (dU ag) (fun x=>pD rfl x) (fun x=>AA rfl x) Ox (by rw[ut]; exact xx) 140 #[] aO 0 cap d w eg (Jd aO 0 d.size w) hH hblk hsz
  rw[ut] at h
  exact h
 ·exact fun p cap fv w=>AnyF.slices_SortFunc_none {Tryz.sortCell with} p cap fv w
theorem Hm (aO off size:Nat) (w:World):CmpLays Tryz.prog 148 #[] (dU ag) 3 Ox aO off size w :=
 fun _ _ _ _ x y=>closureCellS x.1.1 x.1.2.1 y.1.1 y.1.2.1 x.2.1 y.2.1 _
set_option maxRecDepth 100000 in
theorem Co {Gp:WP} : ∀(args:List SV) (tab:aw) (z:Sh.unit.den×(Sh.pair (.row 49 ag false) .unit).den),dI 49 ag 148 wh args tab=some z→eO Gp Tryz.prog {g:=139,fn:=Tryz.f139,sh := .unit,bx := .pair (.row 49 ag false) .unit,own:=[true,false],live:=[],rb:=true,prim:=some (dI 49 ag 148 wh)} args tab z:=by
 refine xw (P:=Tryz.prog) (g:=139) (gc:=148) (fn:=Tryz.f139) (e:=49) (t:=ag) (own:=[true,false]) (live:=[]) rfl (by decide) xx ?_ ?_
 ·intro aO cap d w hH hblk hsz
  have eg : ∀ args w,(callFunc 148 args).run Tryz.prog w = .ok (.enter 148 args) w:=enters_of Tryz.func148 (by kernel_rfl) rfl
  have h:=AnyQ.slices_SortFunc_eq Tryz.sortCell 3 Tryz.isAgg49 Tryz.sizeOf49 (dU ag) (fun x=>pD rfl x) (fun x=>AA rfl x) Ox (by rw[ut]; exact xx) 148 #[] aO 0 cap d w eg (Hm aO 0 d.size w) hH hblk hsz
  rw[ut] at h
  exact h
 ·exact fun p cap fv w=>AnyF.slices_SortFunc_none {Tryz.sortCell with} p cap fv w
def S6 (x y:an.den):Int:=orI (Lib.compareInt x.2.1 y.2.1) (Lib.compareInt x.1 y.1)
def MB (a b:an.den):Bool:=decide (a.2.1 < b.2.1) || (decide (a.2.1=b.2.1) && decide (a.1 < b.1))
theorem Je:ltOf S6=MB:=by
 funext x y
 exact Ow x.1 x.2.1 y.1 y.2.1
theorem LI:Sort.SWO (α:=an.den) MB where
 irrefl x:=Jc x.1 x.2.1
 trans x y z h k:=DJ (a1:=x.1) (a2:=x.2.1) (b1:=y.1) (b2:=y.2.1) (c1:=z.1) (c2:=z.2.1) h k
 ntrans x y z h k:=BM (a1:=x.1) (a2:=x.2.1) (b1:=y.1) (b2:=y.2.1) (c1:=z.1) (c2:=z.2.1) h k
theorem KE (aO off size:Nat) (w:World):CmpLays Tryz.prog 57 #[] (dU an) 2 S6 aO off size w :=
 fun _ _ _ _ x y=>cmpRefs x.1 x.2.1 y.1 y.2.1 _
set_option maxRecDepth 100000 in
theorem Fj {Gp:WP} : ∀(args:List SV) (tab:aw) (z:eP.sh.den×eP.bx.den),dI 35 an 57 MB args tab=some z→eO Gp Tryz.prog eP args tab z:=by
 refine xw (P:=Tryz.prog) (g:=114) (gc:=57) (fn:=Tryz.f114) (e:=35) (t:=an) (own:=[true,false]) (live:=[]) rfl (by decide) LI ?_ ?_
 ·intro aO cap d w hH hblk hsz
  have eg : ∀ args w,(callFunc 57 args).run Tryz.prog w = .ok (.enter 57 args) w:=enters_of Tryz.func57 (by kernel_rfl) rfl
  have h:=AnyQ.slices_SortFunc_eq Tryz.sortRef 2 Tryz.isAgg35 Tryz.sizeOf35 (dU an) (fun x=>pD rfl x) (fun x=>AA rfl x) S6 (by rw[Je]; exact LI) 57 #[] aO 0 cap d w eg (KE aO 0 d.size w) hH hblk hsz
  rw[Je] at h
  exact h
 ·exact fun p cap fv w=>AnyF.slices_SortFunc_none {Tryz.sortRef with} p cap fv w
end Go.Proofs.YtddiiceaindlhaaGreatDoor.Abs
set_option linter.unusedVariables false
set_option linter.unusedSimpArgs false
set_option linter.unusedSectionVars false
namespace Go.Proofs
open Go.Shelf Go.RowKit Go.Lib
def Tryz.layParseInt_ren:Go.Shelf.Ren:=⟨fun | 174=>121 | 247=>159 | 245=>160 | 287=>203 | 279=>204 | 280=>205 | 281=>206 | 282=>207 | 321=>242 | 322=>243 | 316=>244 | 171=>246 | 205=>245 | 243=>272 | 246=>216 | 283=>251 | 284=>252 | 285=>253 | 286=>254 | 129=>192 | 317=>276 | 318=>277 | 319=>278 | 320=>279 | 337=>292 | 338=>293 | n=>n,fun | 9=>9 | 3=>3 | 2=>2 | 75=>141 | 85=>142 | 4=>4 | 167=>207 | 5=>5 | 53=>170 | 175=>208 | 46=>172 | 168=>210 | 37=>44 | 0=>0 | 210=>236 | 21=>21 | 127=>261 | 145=>264 | 143=>262 | 171=>242 | 173=>244 | 212=>267 | 51=>201 | 20=>20 | 213=>268 | 232=>285 | 233=>286 | 80=>101 | n=>n,fun | 15=>0 | 16=>1 | 17=>2 | 18=>6 | 19=>7 | n=>n⟩
theorem Tryz.layParseInt:Go.Proofs.LaysC.n174 Tryz.prog Tryz.layParseInt_ren:={
 mixed:=by kernel_rfl
 f129:=Tryz.func192.trans (congrArg some (by kernel_rfl))
 f171:=Tryz.func246.trans (congrArg some (by kernel_rfl))
 f174:=Tryz.func121.trans (congrArg some (by kernel_rfl))
 f205:=Tryz.func245.trans (congrArg some (by kernel_rfl))
 f243:=Tryz.func272.trans (congrArg some (by kernel_rfl))
 f245:=Tryz.func160.trans (congrArg some (by kernel_rfl))
 f246:=Tryz.func216.trans (congrArg some (by kernel_rfl))
 f247:=Tryz.func159.trans (congrArg some (by kernel_rfl))
 f279:=Tryz.func204.trans (congrArg some (by kernel_rfl))
 f280:=Tryz.func205.trans (congrArg some (by kernel_rfl))
 f281:=Tryz.func206.trans (congrArg some (by kernel_rfl))
 f282:=Tryz.func207.trans (congrArg some (by kernel_rfl))
 f283:=Tryz.func251.trans (congrArg some (by kernel_rfl))
 f284:=Tryz.func252.trans (congrArg some (by kernel_rfl))
 f285:=Tryz.func253.trans (congrArg some (by kernel_rfl))
 f286:=Tryz.func254.trans (congrArg some (by kernel_rfl))
 f287:=Tryz.func203.trans (congrArg some (by kernel_rfl))
 f316:=Tryz.func244.trans (congrArg some (by kernel_rfl))
 f317:=Tryz.func276.trans (congrArg some (by kernel_rfl))
 f318:=Tryz.func277.trans (congrArg some (by kernel_rfl))
 f319:=Tryz.func278.trans (congrArg some (by kernel_rfl))
 f320:=Tryz.func279.trans (congrArg some (by kernel_rfl))
 f321:=Tryz.func242.trans (congrArg some (by kernel_rfl))
 f322:=Tryz.func243.trans (congrArg some (by kernel_rfl))
 f337:=Tryz.func292.trans (congrArg some (by kernel_rfl))
 f338:=Tryz.func293.trans (congrArg some (by kernel_rfl))
 t0:=Tryz.underlying0
 a0:=Tryz.isAgg0
 z0:=Tryz.sizeOf0
 v0:=Tryz.zeroValue0
 t2:=Tryz.underlying2
 a2:=Tryz.isAgg2
 z2:=Tryz.sizeOf2
 v2:=Tryz.zeroValue2
 t3:=Tryz.underlying3
 a3:=Tryz.isAgg3
 z3:=Tryz.sizeOf3
 v3:=Tryz.zeroValue3
 t4:=Tryz.underlying4
 a4:=Tryz.isAgg4
 z4:=Tryz.sizeOf4
 v4:=Tryz.zeroValue4
 t5:=Tryz.underlying5
 a5:=Tryz.isAgg5
 z5:=Tryz.sizeOf5
 v5:=Tryz.zeroValue5
 t9:=Tryz.underlying9
 a9:=Tryz.isAgg9
 z9:=Tryz.sizeOf9
 v9:=Tryz.zeroValue9
 t20:=Tryz.underlying20
 a20:=Tryz.isAgg20
 z20:=Tryz.sizeOf20
 v20:=Tryz.zeroValue20
 t21:=Tryz.underlying21
 a21:=Tryz.isAgg21
 z21:=Tryz.sizeOf21
 v21:=Tryz.zeroValue21
 t37:=Tryz.underlying44
 a37:=Tryz.isAgg44
 z37:=Tryz.sizeOf44
 v37:=Tryz.zeroValue44
 t46:=Tryz.underlying172
 a46:=Tryz.isAgg172
 z46:=Tryz.sizeOf172
 v46:=Tryz.zeroValue172
 t51:=Tryz.underlying201
 a51:=Tryz.isAgg201
 z51:=Tryz.sizeOf201
 v51:=Tryz.zeroValue201
 t53:=Tryz.underlying170
 a53:=Tryz.isAgg170
 z53:=Tryz.sizeOf170
 v53:=Tryz.zeroValue170
 t75:=Tryz.underlying141
 a75:=Tryz.isAgg141
 z75:=Tryz.sizeOf141
 v75:=Tryz.zeroValue141
 t85:=Tryz.underlying142
 a85:=Tryz.isAgg142
 z85:=Tryz.sizeOf142
 v85:=Tryz.zeroValue142
 t127:=Tryz.underlying261
 a127:=Tryz.isAgg261
 z127:=Tryz.sizeOf261
 v127:=Tryz.zeroValue261
 t143:=Tryz.underlying262
 a143:=Tryz.isAgg262
 z143:=Tryz.sizeOf262
 v143:=Tryz.zeroValue262
 t145:=Tryz.underlying264
 a145:=Tryz.isAgg264
 z145:=Tryz.sizeOf264
 v145:=Tryz.zeroValue264
 t167:=Tryz.underlying207
 a167:=Tryz.isAgg207
 z167:=Tryz.sizeOf207
 v167:=Tryz.zeroValue207
 t168:=Tryz.underlying210
 a168:=Tryz.isAgg210
 z168:=Tryz.sizeOf210
 v168:=Tryz.zeroValue210
 t171:=Tryz.underlying242
 a171:=Tryz.isAgg242
 z171:=Tryz.sizeOf242
 v171:=Tryz.zeroValue242
 t173:=Tryz.underlying244
 a173:=Tryz.isAgg244
 z173:=Tryz.sizeOf244
 v173:=Tryz.zeroValue244
 t175:=Tryz.underlying208
 a175:=Tryz.isAgg208
 z175:=Tryz.sizeOf208
 v175:=Tryz.zeroValue208
 t210:=Tryz.underlying236
 a210:=Tryz.isAgg236
 z210:=Tryz.sizeOf236
 v210:=Tryz.zeroValue236
 t212:=Tryz.underlying267
 a212:=Tryz.isAgg267
 z212:=Tryz.sizeOf267
 v212:=Tryz.zeroValue267
 t213:=Tryz.underlying268
 a213:=Tryz.isAgg268
 z213:=Tryz.sizeOf268
 t232:=Tryz.underlying285
 a232:=Tryz.isAgg285
 z232:=Tryz.sizeOf285
 v232:=Tryz.zeroValue285
 t233:=Tryz.underlying286
 a233:=Tryz.isAgg286
 z233:=Tryz.sizeOf286
 v233:=Tryz.zeroValue286
 g15:=by kernel_rfl
 g16:=by kernel_rfl
 g17:=by kernel_rfl
 g18:=by kernel_rfl
 g19:=by kernel_rfl
 t80:=Tryz.underlying101
 a80:=Tryz.isAgg101
 z80:=Tryz.sizeOf101
 v80:=Tryz.zeroValue101
 i0:=by kernel_rfl
 i2:=by kernel_rfl
 i3:=by kernel_rfl
 i4:=by kernel_rfl
 i5:=by kernel_rfl
 i9:=by kernel_rfl
 i20:=by kernel_rfl
 i21:=by kernel_rfl
 i37:=by kernel_rfl
 i46:=by kernel_rfl
 i51:=by kernel_rfl
 i53:=by kernel_rfl
 i75:=by kernel_rfl
 i80:=by kernel_rfl
 i85:=by kernel_rfl
 i127:=by kernel_rfl
 i143:=by kernel_rfl
 i145:=by kernel_rfl
 i167:=by kernel_rfl
 i168:=by kernel_rfl
 i171:=by kernel_rfl
 i173:=by kernel_rfl
 i175:=by kernel_rfl
 i210:=by kernel_rfl
 i212:=by kernel_rfl
 i232:=by kernel_rfl
 i233:=by kernel_rfl
 m15:=by kernel_rfl
 m16:=by kernel_rfl
 m17:=by kernel_rfl
 m18:=by kernel_rfl
 m19:=by kernel_rfl
 c0:=by kernel_rfl
 c2:=by kernel_rfl
 c3:=by kernel_rfl
 c4:=by kernel_rfl
 c5:=by kernel_rfl
 c9:=by kernel_rfl
 c20:=by kernel_rfl
 c21:=by kernel_rfl
 c37:=by kernel_rfl
 c46:=by kernel_rfl
 c51:=by kernel_rfl
 c53:=by kernel_rfl
 c75:=by kernel_rfl
 c80:=by kernel_rfl
 c85:=by kernel_rfl
 c127:=by kernel_rfl
 c143:=by kernel_rfl
 c145:=by kernel_rfl
 c167:=by kernel_rfl
 c168:=by kernel_rfl
 c171:=by kernel_rfl
 c173:=by kernel_rfl
 c175:=by kernel_rfl
 c210:=by kernel_rfl
 c212:=by kernel_rfl
 c213:=by kernel_rfl
 c232:=by kernel_rfl
 c233:=by kernel_rfl}
end Go.Proofs
namespace Go.Proofs.YtddiiceaindlhaaGreatDoor.Abs
open Go Go.Shelf Go.RowKit Go.Lib
theorem KF {l:List gX} (hm1:Dp "strconv.ErrSyntax" ∈ l) (hm2:Dp "strconv.ErrRange" ∈ l) : ∀(args:List SV) (tab:aw) (z:(Sh.pair (.val (.int .i64)) (.pair (.val .err) .unit)).den×Sh.unit.den),oj args tab=some z→eO (dJ Tryz.prog l) Tryz.prog kU args tab z:=by
 intro args tab z hz
 unfold oj at hz
 split at hz
 ·rename_i s p q
  split at hz
  ·rename_i h
   cases hz
   refine jt (sh:=Sh.pair (.val (.int .i64)) (.pair (.val .err) .unit)) (fun _=>rfl) ?_ (fun _ _ h=>h.none)
   intro w Pr γ us hG hPr hu
   cases hu with
   | cons a k =>
    cases k with
    | cons b k =>
     cases k with
     | cons c k =>
      cases k
      obtain rfl:=eN a
      obtain rfl:=dS b
      obtain rfl:=dS c
      obtain⟨h,hb,hq⟩:=h
      rw[show p=(10:Int) from hb,show q=(64:Int) from hq]
      by_cases hok : ∃ v,Lib.parseIntB 64 s.data.toList = .ok v
      ·obtain⟨v,hv⟩:=hok
       refine(Any.strconv_ParseInt_10_at64_ok Tryz.layParseInt s (by omega) v hv w).mono ?_
       rintro e w' ⟨rfl,hw⟩
       have hp:cc s.data.toList=(v,true):=by unfold cc; rw[hv]
       refine⟨[_,_],rfl,⟨[_],_,rfl,(by rw[hp]; rfl),[_],_,rfl,(by rw[hp]; exact .inl ⟨rfl,rfl⟩),rfl⟩,?_⟩
       rcases hw with rfl | ⟨t,rfl⟩
       ·exact Below.refl _ _
       ·exact Lib.bytesWorld_below _ _ _
      ·cases hq:Lib.parseIntB 64 s.data.toList with
       | ok v=>exact absurd ⟨v,hq⟩ hok
       | range =>
        obtain⟨⟨a',h1,tp,p,rfl⟩,_⟩:=hG _ hm2
        refine(Any.strconv_ParseInt_10_at64_range_var Tryz.layParseInt s h hq tp p w h1).mono ?_
        rintro e w' ⟨N,rfl,_,_,hB⟩
        have hp:cc s.data.toList=(Lib.intSat 64 s.data.toList,false):=by unfold cc; rw[hq]
        exact⟨[_,_],rfl,⟨[_],_,rfl,(by rw[hp]; rfl),[_],_,rfl,(by rw[hp]; exact .inr ⟨rfl,_,_,rfl⟩),rfl⟩,hB⟩
       | _ =>
        obtain⟨⟨a',h1,tp,p,rfl⟩,_⟩:=hG _ hm1
        refine(Any.strconv_ParseInt_10_at64_syntax_var Tryz.layParseInt s h hq tp p w h1).mono ?_
        rintro e w' ⟨N,rfl,_,_,hB⟩
        have hp:cc s.data.toList=(0,false):=by unfold cc; rw[hq]
        exact⟨[_,_],rfl,⟨[_],_,rfl,(by rw[hp]; rfl),[_],_,rfl,(by rw[hp]; exact .inr ⟨rfl,_,_,rfl⟩),rfl⟩,hB⟩
  ·cases hz
 ·cases hz
end Go.Proofs.YtddiiceaindlhaaGreatDoor.Abs
set_option linter.unusedVariables false
set_option linter.unusedSimpArgs false
set_option linter.unusedSectionVars false
namespace Go.Proofs
open Go.Shelf Go.RowKit Go.Lib
def Tryz.layTrim_ren:Go.Shelf.Ren:=⟨fun | 160=>162 | 232=>210 | 231=>209 | 227=>211 | 234=>213 | 233=>212 | 236=>215 | 235=>214 | 228=>247 | 271=>250 | 151=>249 | 197=>248 | 120=>275 | 152=>274 | 260=>273 | 137=>288 | 119=>289 | 224=>290 | 225=>291 | 217=>300 | 266=>302 | n=>n,fun | 9=>9 | 4=>4 | 3=>3 | 5=>5 | 117=>216 | 116=>215 | 0=>0 | 124=>219 | 21=>21 | 105=>239 | 46=>172 | 119=>275 | 139=>278 | 138=>277 | n=>n,fun | 3=>3 | 4=>4 | n=>n⟩
theorem Tryz.layTrim:Go.Proofs.Lays.n160 Tryz.prog Tryz.layTrim_ren:={
 mixed:=by kernel_rfl
 f119:=Tryz.func289.trans (congrArg some (by kernel_rfl))
 f120:=Tryz.func275.trans (congrArg some (by kernel_rfl))
 f137:=Tryz.func288.trans (congrArg some (by kernel_rfl))
 f151:=Tryz.func249.trans (congrArg some (by kernel_rfl))
 f152:=Tryz.func274.trans (congrArg some (by kernel_rfl))
 f160:=Tryz.func162.trans (congrArg some (by kernel_rfl))
 f197:=Tryz.func248.trans (congrArg some (by kernel_rfl))
 f217:=Tryz.func300.trans (congrArg some (by kernel_rfl))
 f224:=Tryz.func290.trans (congrArg some (by kernel_rfl))
 f225:=Tryz.func291.trans (congrArg some (by kernel_rfl))
 f227:=Tryz.func211.trans (congrArg some (by kernel_rfl))
 f228:=Tryz.func247.trans (congrArg some (by kernel_rfl))
 f231:=Tryz.func209.trans (congrArg some (by kernel_rfl))
 f232:=Tryz.func210.trans (congrArg some (by kernel_rfl))
 f233:=Tryz.func212.trans (congrArg some (by kernel_rfl))
 f234:=Tryz.func213.trans (congrArg some (by kernel_rfl))
 f235:=Tryz.func214.trans (congrArg some (by kernel_rfl))
 f236:=Tryz.func215.trans (congrArg some (by kernel_rfl))
 f260:=Tryz.func273.trans (congrArg some (by kernel_rfl))
 f266:=Tryz.func302.trans (congrArg some (by kernel_rfl))
 f271:=Tryz.func250.trans (congrArg some (by kernel_rfl))
 t0:=Tryz.underlying0
 a0:=Tryz.isAgg0
 z0:=Tryz.sizeOf0
 v0:=Tryz.zeroValue0
 t3:=Tryz.underlying3
 a3:=Tryz.isAgg3
 z3:=Tryz.sizeOf3
 v3:=Tryz.zeroValue3
 t4:=Tryz.underlying4
 a4:=Tryz.isAgg4
 z4:=Tryz.sizeOf4
 v4:=Tryz.zeroValue4
 t5:=Tryz.underlying5
 a5:=Tryz.isAgg5
 z5:=Tryz.sizeOf5
 v5:=Tryz.zeroValue5
 t9:=Tryz.underlying9
 a9:=Tryz.isAgg9
 z9:=Tryz.sizeOf9
 v9:=Tryz.zeroValue9
 t21:=Tryz.underlying21
 a21:=Tryz.isAgg21
 z21:=Tryz.sizeOf21
 v21:=Tryz.zeroValue21
 t46:=Tryz.underlying172
 a46:=Tryz.isAgg172
 z46:=Tryz.sizeOf172
 v46:=Tryz.zeroValue172
 t105:=Tryz.underlying239
 a105:=Tryz.isAgg239
 z105:=Tryz.sizeOf239
 v105:=Tryz.zeroValue239
 t116:=Tryz.underlying215
 a116:=Tryz.isAgg215
 z116:=Tryz.sizeOf215
 t117:=Tryz.underlying216
 a117:=Tryz.isAgg216
 z117:=Tryz.sizeOf216
 v117:=Tryz.zeroValue216
 t119:=Tryz.underlying275
 a119:=Tryz.isAgg275
 z119:=Tryz.sizeOf275
 t124:=Tryz.underlying219
 a124:=Tryz.isAgg219
 z124:=Tryz.sizeOf219
 v124:=Tryz.zeroValue219
 t138:=Tryz.underlying277
 a138:=Tryz.isAgg277
 z138:=Tryz.sizeOf277
 v138:=Tryz.zeroValue277
 t139:=Tryz.underlying278
 a139:=Tryz.isAgg278
 z139:=Tryz.sizeOf278
 v139:=Tryz.zeroValue278
 g3:=by kernel_rfl
 g4:=by kernel_rfl}
end Go.Proofs
namespace Go.Proofs.YtddiiceaindlhaaGreatDoor.Abs
open Go Go.Shelf Go.RowKit Go.Lib
theorem MC {l:List gX} : ∀(args:List SV) (tab:aw) (z:(Sh.pair (.val .str) .unit).den×Sh.unit.den),xb args tab=some z→eO (dJ Tryz.prog l) Tryz.prog pG args tab z:=by
 intro args tab z hz
 unfold xb at hz
 split at hz
 ·rename_i s c
  split at hz
  ·rename_i h
   cases hz
   refine jt (sh := .pair (.val .str) .unit) (fun _=>rfl) ?_ (fun _ _ h=>h.none)
   intro w Pr γ us hG _ hu
   cases hu with
   | cons a k =>
    cases k with
    | cons b k =>
     cases k
     obtain rfl:=eN a
     obtain rfl:=eN b
     obtain⟨h1,h2⟩:=IZ h.1
     refine(Any.strings_Trim_laid Tryz.layTrim (by kernel_rfl) s c w h.2 h1 h2).mono ?_
     rintro e w' ⟨rfl,hB⟩
     exact⟨[_],rfl,⟨[_],[],rfl,rfl,rfl⟩,hB⟩
  ·cases hz
 ·cases hz
end Go.Proofs.YtddiiceaindlhaaGreatDoor.Abs
set_option linter.unusedVariables false
set_option linter.unusedSimpArgs false
set_option linter.unusedSectionVars false
namespace Go.Proofs
open Go.Shelf Go.RowKit Go.Lib
def Tryz.layFmt_ren:Go.Shelf.Ren:=⟨fun | 173=>163 | 246=>216 | 283=>251 | 284=>252 | 285=>253 | 286=>254 | 129=>192 | 317=>276 | 318=>277 | 319=>278 | 320=>279 | 337=>292 | 338=>293 | n=>n,fun | 2=>2 | 3=>3 | 9=>9 | 4=>4 | 171=>242 | 0=>0 | 53=>170 | 37=>44 | 5=>5 | 173=>244 | 212=>267 | 51=>201 | 20=>20 | 213=>268 | 46=>172 | 232=>285 | 233=>286 | n=>n,fun | 17=>2 | 18=>6 | 19=>7 | n=>n⟩
theorem Tryz.layFmt:Go.Proofs.LaysM.n173 Tryz.prog Tryz.layFmt_ren:={
 mixed:=by kernel_rfl
 f129:=Tryz.func192.trans (congrArg some (by kernel_rfl))
 f173:=Tryz.func163.trans (congrArg some (by kernel_rfl))
 f246:=Tryz.func216.trans (congrArg some (by kernel_rfl))
 f283:=Tryz.func251.trans (congrArg some (by kernel_rfl))
 f284:=Tryz.func252.trans (congrArg some (by kernel_rfl))
 f285:=Tryz.func253.trans (congrArg some (by kernel_rfl))
 f286:=Tryz.func254.trans (congrArg some (by kernel_rfl))
 f317:=Tryz.func276.trans (congrArg some (by kernel_rfl))
 f318:=Tryz.func277.trans (congrArg some (by kernel_rfl))
 f319:=Tryz.func278.trans (congrArg some (by kernel_rfl))
 f320:=Tryz.func279.trans (congrArg some (by kernel_rfl))
 f337:=Tryz.func292.trans (congrArg some (by kernel_rfl))
 f338:=Tryz.func293.trans (congrArg some (by kernel_rfl))
 t0:=Tryz.underlying0
 a0:=Tryz.isAgg0
 z0:=Tryz.sizeOf0
 v0:=Tryz.zeroValue0
 t2:=Tryz.underlying2
 a2:=Tryz.isAgg2
 z2:=Tryz.sizeOf2
 v2:=Tryz.zeroValue2
 t3:=Tryz.underlying3
 a3:=Tryz.isAgg3
 z3:=Tryz.sizeOf3
 v3:=Tryz.zeroValue3
 t4:=Tryz.underlying4
 a4:=Tryz.isAgg4
 z4:=Tryz.sizeOf4
 v4:=Tryz.zeroValue4
 t5:=Tryz.underlying5
 a5:=Tryz.isAgg5
 z5:=Tryz.sizeOf5
 v5:=Tryz.zeroValue5
 t9:=Tryz.underlying9
 a9:=Tryz.isAgg9
 z9:=Tryz.sizeOf9
 v9:=Tryz.zeroValue9
 t20:=Tryz.underlying20
 a20:=Tryz.isAgg20
 z20:=Tryz.sizeOf20
 v20:=Tryz.zeroValue20
 t37:=Tryz.underlying44
 a37:=Tryz.isAgg44
 z37:=Tryz.sizeOf44
 v37:=Tryz.zeroValue44
 t46:=Tryz.underlying172
 a46:=Tryz.isAgg172
 z46:=Tryz.sizeOf172
 v46:=Tryz.zeroValue172
 t51:=Tryz.underlying201
 a51:=Tryz.isAgg201
 z51:=Tryz.sizeOf201
 v51:=Tryz.zeroValue201
 t53:=Tryz.underlying170
 a53:=Tryz.isAgg170
 z53:=Tryz.sizeOf170
 v53:=Tryz.zeroValue170
 t171:=Tryz.underlying242
 a171:=Tryz.isAgg242
 z171:=Tryz.sizeOf242
 v171:=Tryz.zeroValue242
 t173:=Tryz.underlying244
 a173:=Tryz.isAgg244
 z173:=Tryz.sizeOf244
 v173:=Tryz.zeroValue244
 t212:=Tryz.underlying267
 a212:=Tryz.isAgg267
 z212:=Tryz.sizeOf267
 v212:=Tryz.zeroValue267
 t213:=Tryz.underlying268
 a213:=Tryz.isAgg268
 z213:=Tryz.sizeOf268
 t232:=Tryz.underlying285
 a232:=Tryz.isAgg285
 z232:=Tryz.sizeOf285
 v232:=Tryz.zeroValue285
 t233:=Tryz.underlying286
 a233:=Tryz.isAgg286
 z233:=Tryz.sizeOf286
 v233:=Tryz.zeroValue286
 g17:=by kernel_rfl
 g18:=by kernel_rfl
 g19:=by kernel_rfl
 i0:=by kernel_rfl
 i2:=by kernel_rfl
 i3:=by kernel_rfl
 i4:=by kernel_rfl
 i5:=by kernel_rfl
 i9:=by kernel_rfl
 i20:=by kernel_rfl
 i37:=by kernel_rfl
 i46:=by kernel_rfl
 i51:=by kernel_rfl
 i53:=by kernel_rfl
 i171:=by kernel_rfl
 i173:=by kernel_rfl
 i212:=by kernel_rfl
 i232:=by kernel_rfl
 i233:=by kernel_rfl
 m17:=by kernel_rfl
 m18:=by kernel_rfl
 m19:=by kernel_rfl}
end Go.Proofs
namespace Go.Proofs.YtddiiceaindlhaaGreatDoor.Abs
open Go Go.Shelf Go.RowKit Go.Lib
def Jf:gX:=("internal/strconv.uint64pow10",fun a=>a=(Lib.pow10Tab.map fun z=>Value.int .u64 z).toArray)
theorem Oy {l:List gX} (hm:Jf∈l) : ∀(args:List SV) (tab:aw) (z:(Sh.pair (.val .str) .unit).den×Sh.unit.den),Ay args tab=some z→eO (dJ Tryz.prog l) Tryz.prog kn args tab z:=by
 intro args tab z hz
 unfold Ay at hz
 split at hz
 ·rename_i n b
  split at hz
  ·rename_i h
   obtain⟨hb,h0,h1⟩:=h
   cases hz
   refine jt (sh := .pair (.val .str) .unit) (fun _=>rfl) ?_ (fun _ _ h=>h.none)
   intro w Pr γ us hG _ hu
   cases hu with
   | cons a k =>
    cases k with
    | cons c k =>
     cases k
     obtain rfl:=dS a
     obtain rfl:=dS c
     rw[show b=(10:Int) from hb]
     refine(Any.strconv_FormatInt_10 Tryz.layFmt n h0 h1 w (by obtain⟨⟨a,h1,h2⟩,_⟩:=hG Jf hm; rw[show a=_ from h2] at h1; exact h1)).mono ?_
     rintro e w' ⟨rfl,q,os,rfl⟩
     exact⟨[_],rfl,⟨[_],[],rfl,rfl,rfl⟩,below_grow _ w (Nat.le_refl _) q os⟩
  ·cases hz
 ·cases hz
end Go.Proofs.YtddiiceaindlhaaGreatDoor.Abs
set_option linter.unusedVariables false
set_option linter.unusedSimpArgs false
set_option linter.unusedSectionVars false
namespace Go.Proofs
open Go.Shelf Go.RowKit Go.Lib
def Tryz.layTrimLeft_ren:Go.Shelf.Ren:=⟨fun | 161=>200 | 231=>209 | 227=>211 | 233=>212 | 235=>214 | 228=>247 | 197=>248 | 151=>249 | 260=>273 | 152=>274 | 137=>288 | 119=>289 | 224=>290 | 225=>291 | 217=>300 | 266=>302 | n=>n,fun | 9=>9 | 4=>4 | 3=>3 | 5=>5 | 117=>216 | 116=>215 | 0=>0 | 124=>219 | 105=>239 | 21=>21 | 119=>275 | 46=>172 | 139=>278 | 138=>277 | n=>n,fun | 3=>3 | 4=>4 | n=>n⟩
theorem Tryz.layTrimLeft:Go.Proofs.Lays.n161 Tryz.prog Tryz.layTrimLeft_ren:={
 mixed:=by kernel_rfl
 f119:=Tryz.func289.trans (congrArg some (by kernel_rfl))
 f137:=Tryz.func288.trans (congrArg some (by kernel_rfl))
 f151:=Tryz.func249.trans (congrArg some (by kernel_rfl))
 f152:=Tryz.func274.trans (congrArg some (by kernel_rfl))
 f161:=Tryz.func200.trans (congrArg some (by kernel_rfl))
 f197:=Tryz.func248.trans (congrArg some (by kernel_rfl))
 f217:=Tryz.func300.trans (congrArg some (by kernel_rfl))
 f224:=Tryz.func290.trans (congrArg some (by kernel_rfl))
 f225:=Tryz.func291.trans (congrArg some (by kernel_rfl))
 f227:=Tryz.func211.trans (congrArg some (by kernel_rfl))
 f228:=Tryz.func247.trans (congrArg some (by kernel_rfl))
 f231:=Tryz.func209.trans (congrArg some (by kernel_rfl))
 f233:=Tryz.func212.trans (congrArg some (by kernel_rfl))
 f235:=Tryz.func214.trans (congrArg some (by kernel_rfl))
 f260:=Tryz.func273.trans (congrArg some (by kernel_rfl))
 f266:=Tryz.func302.trans (congrArg some (by kernel_rfl))
 t0:=Tryz.underlying0
 a0:=Tryz.isAgg0
 z0:=Tryz.sizeOf0
 v0:=Tryz.zeroValue0
 t3:=Tryz.underlying3
 a3:=Tryz.isAgg3
 z3:=Tryz.sizeOf3
 v3:=Tryz.zeroValue3
 t4:=Tryz.underlying4
 a4:=Tryz.isAgg4
 z4:=Tryz.sizeOf4
 v4:=Tryz.zeroValue4
 t5:=Tryz.underlying5
 a5:=Tryz.isAgg5
 z5:=Tryz.sizeOf5
 v5:=Tryz.zeroValue5
 t9:=Tryz.underlying9
 a9:=Tryz.isAgg9
 z9:=Tryz.sizeOf9
 v9:=Tryz.zeroValue9
 t21:=Tryz.underlying21
 a21:=Tryz.isAgg21
 z21:=Tryz.sizeOf21
 v21:=Tryz.zeroValue21
 t46:=Tryz.underlying172
 a46:=Tryz.isAgg172
 z46:=Tryz.sizeOf172
 v46:=Tryz.zeroValue172
 t105:=Tryz.underlying239
 a105:=Tryz.isAgg239
 z105:=Tryz.sizeOf239
 v105:=Tryz.zeroValue239
 t116:=Tryz.underlying215
 a116:=Tryz.isAgg215
 z116:=Tryz.sizeOf215
 t117:=Tryz.underlying216
 a117:=Tryz.isAgg216
 z117:=Tryz.sizeOf216
 v117:=Tryz.zeroValue216
 t119:=Tryz.underlying275
 a119:=Tryz.isAgg275
 z119:=Tryz.sizeOf275
 t124:=Tryz.underlying219
 a124:=Tryz.isAgg219
 z124:=Tryz.sizeOf219
 v124:=Tryz.zeroValue219
 t138:=Tryz.underlying277
 a138:=Tryz.isAgg277
 z138:=Tryz.sizeOf277
 v138:=Tryz.zeroValue277
 t139:=Tryz.underlying278
 a139:=Tryz.isAgg278
 z139:=Tryz.sizeOf278
 v139:=Tryz.zeroValue278
 g3:=by kernel_rfl
 g4:=by kernel_rfl}
end Go.Proofs
namespace Go.Proofs.YtddiiceaindlhaaGreatDoor.Abs
open Go Go.Shelf Go.RowKit Go.Lib
theorem Fk {l:List gX} : ∀(args:List SV) (tab:aw) (z:(Sh.pair (.val .str) .unit).den×Sh.unit.den),oi args tab=some z→eO (dJ Tryz.prog l) Tryz.prog kV args tab z:=by
 intro args tab z hz
 unfold oi at hz
 split at hz
 ·rename_i s c
  split at hz
  ·rename_i h
   cases hz
   refine jt (sh := .pair (.val .str) .unit) (fun _=>rfl) ?_ (fun _ _ h=>h.none)
   intro w Pr γ us hG _ hu
   cases hu with
   | cons a k =>
    cases k with
    | cons b k =>
     cases k
     obtain rfl:=eN a
     obtain rfl:=eN b
     obtain⟨h1,h2⟩:=IZ h
     refine(Any.strings_TrimLeft_laid Tryz.layTrimLeft (by kernel_rfl) s c w h1 h2).mono ?_
     rintro e w' ⟨rfl,hB⟩
     exact⟨[_],rfl,⟨[_],[],rfl,rfl,rfl⟩,hB⟩
  ·cases hz
 ·cases hz
end Go.Proofs.YtddiiceaindlhaaGreatDoor.Abs
set_option linter.unusedVariables false
set_option linter.unusedSimpArgs false
set_option linter.unusedSectionVars false
namespace Go.Proofs
open Go.Shelf Go.RowKit Go.Lib
def Tryz.layReplace_ren:Go.Shelf.Ren:=⟨fun | 155=>238 | 154=>267 | 138=>284 | 165=>269 | 143=>285 | 166=>270 | 197=>248 | 169=>271 | 195=>295 | 218=>296 | 240=>286 | 241=>287 | 219=>297 | 260=>273 | 276=>298 | 277=>299 | 217=>300 | 225=>291 | 224=>290 | 267=>301 | 266=>302 | 314=>303 | n=>n,fun | 9=>9 | 3=>3 | 4=>4 | 72=>257 | 0=>0 | 76=>259 | 105=>239 | 21=>21 | 5=>5 | 70=>255 | 20=>20 | 37=>44 | 75=>141 | 127=>261 | 164=>282 | 46=>172 | 119=>275 | 139=>278 | 138=>277 | 146=>287 | 51=>201 | 80=>101 | n=>n,fun | 1=>5 | 3=>3 | 4=>4 | n=>n⟩
theorem Tryz.layReplace:Go.Proofs.LaysM.n155 Tryz.prog Tryz.layReplace_ren:={
 mixed:=by kernel_rfl
 f138:=Tryz.func284.trans (congrArg some (by kernel_rfl))
 f143:=Tryz.func285.trans (congrArg some (by kernel_rfl))
 f154:=Tryz.func267.trans (congrArg some (by kernel_rfl))
 f155:=Tryz.func238.trans (congrArg some (by kernel_rfl))
 f165:=Tryz.func269.trans (congrArg some (by kernel_rfl))
 f166:=Tryz.func270.trans (congrArg some (by kernel_rfl))
 f169:=Tryz.func271.trans (congrArg some (by kernel_rfl))
 f195:=Tryz.func295.trans (congrArg some (by kernel_rfl))
 f197:=Tryz.func248.trans (congrArg some (by kernel_rfl))
 f217:=Tryz.func300.trans (congrArg some (by kernel_rfl))
 f218:=Tryz.func296.trans (congrArg some (by kernel_rfl))
 f219:=Tryz.func297.trans (congrArg some (by kernel_rfl))
 f224:=Tryz.func290.trans (congrArg some (by kernel_rfl))
 f225:=Tryz.func291.trans (congrArg some (by kernel_rfl))
 f240:=Tryz.func286.trans (congrArg some (by kernel_rfl))
 f241:=Tryz.func287.trans (congrArg some (by kernel_rfl))
 f260:=Tryz.func273.trans (congrArg some (by kernel_rfl))
 f266:=Tryz.func302.trans (congrArg some (by kernel_rfl))
 f267:=Tryz.func301.trans (congrArg some (by kernel_rfl))
 f276:=Tryz.func298.trans (congrArg some (by kernel_rfl))
 f277:=Tryz.func299.trans (congrArg some (by kernel_rfl))
 f314:=Tryz.func303.trans (congrArg some (by kernel_rfl))
 t0:=Tryz.underlying0
 a0:=Tryz.isAgg0
 z0:=Tryz.sizeOf0
 v0:=Tryz.zeroValue0
 t3:=Tryz.underlying3
 a3:=Tryz.isAgg3
 z3:=Tryz.sizeOf3
 v3:=Tryz.zeroValue3
 t4:=Tryz.underlying4
 a4:=Tryz.isAgg4
 z4:=Tryz.sizeOf4
 v4:=Tryz.zeroValue4
 t5:=Tryz.underlying5
 a5:=Tryz.isAgg5
 z5:=Tryz.sizeOf5
 v5:=Tryz.zeroValue5
 t9:=Tryz.underlying9
 a9:=Tryz.isAgg9
 z9:=Tryz.sizeOf9
 v9:=Tryz.zeroValue9
 t20:=Tryz.underlying20
 a20:=Tryz.isAgg20
 z20:=Tryz.sizeOf20
 v20:=Tryz.zeroValue20
 t21:=Tryz.underlying21
 a21:=Tryz.isAgg21
 z21:=Tryz.sizeOf21
 v21:=Tryz.zeroValue21
 t37:=Tryz.underlying44
 a37:=Tryz.isAgg44
 z37:=Tryz.sizeOf44
 v37:=Tryz.zeroValue44
 t46:=Tryz.underlying172
 a46:=Tryz.isAgg172
 z46:=Tryz.sizeOf172
 v46:=Tryz.zeroValue172
 t51:=Tryz.underlying201
 a51:=Tryz.isAgg201
 z51:=Tryz.sizeOf201
 v51:=Tryz.zeroValue201
 t70:=Tryz.underlying255
 a70:=Tryz.isAgg255
 z70:=Tryz.sizeOf255
 v70:=Tryz.zeroValue255
 t72:=Tryz.underlying257
 a72:=Tryz.isAgg257
 z72:=Tryz.sizeOf257
 v72:=Tryz.zeroValue257
 t75:=Tryz.underlying141
 a75:=Tryz.isAgg141
 z75:=Tryz.sizeOf141
 v75:=Tryz.zeroValue141
 t76:=Tryz.underlying259
 a76:=Tryz.isAgg259
 z76:=Tryz.sizeOf259
 v76:=Tryz.zeroValue259
 t105:=Tryz.underlying239
 a105:=Tryz.isAgg239
 z105:=Tryz.sizeOf239
 v105:=Tryz.zeroValue239
 t119:=Tryz.underlying275
 a119:=Tryz.isAgg275
 z119:=Tryz.sizeOf275
 t127:=Tryz.underlying261
 a127:=Tryz.isAgg261
 z127:=Tryz.sizeOf261
 v127:=Tryz.zeroValue261
 t138:=Tryz.underlying277
 a138:=Tryz.isAgg277
 z138:=Tryz.sizeOf277
 v138:=Tryz.zeroValue277
 t139:=Tryz.underlying278
 a139:=Tryz.isAgg278
 z139:=Tryz.sizeOf278
 v139:=Tryz.zeroValue278
 t146:=Tryz.underlying287
 a146:=Tryz.isAgg287
 z146:=Tryz.sizeOf287
 v146:=Tryz.zeroValue287
 t164:=Tryz.underlying282
 a164:=Tryz.isAgg282
 z164:=Tryz.sizeOf282
 v164:=Tryz.zeroValue282
 g1:=by kernel_rfl
 g3:=by kernel_rfl
 g4:=by kernel_rfl
 t80:=Tryz.underlying101
 a80:=Tryz.isAgg101
 z80:=Tryz.sizeOf101
 v80:=Tryz.zeroValue101
 i0:=by kernel_rfl
 i3:=by kernel_rfl
 i4:=by kernel_rfl
 i5:=by kernel_rfl
 i9:=by kernel_rfl
 i20:=by kernel_rfl
 i21:=by kernel_rfl
 i37:=by kernel_rfl
 i46:=by kernel_rfl
 i51:=by kernel_rfl
 i70:=by kernel_rfl
 i72:=by kernel_rfl
 i75:=by kernel_rfl
 i76:=by kernel_rfl
 i80:=by kernel_rfl
 i105:=by kernel_rfl
 i127:=by kernel_rfl
 i138:=by kernel_rfl
 i139:=by kernel_rfl
 i146:=by kernel_rfl
 i164:=by kernel_rfl
 m1:=by kernel_rfl
 s1_3:=fun w h=>Go.Proofs.cell_of_shapedOpen_int (zero := #[.int .i64 0]) (t:=3) h (of_decide_eq_true (by kernel_rfl)) (by kernel_rfl) rfl (by kernel_rfl) (by kernel_rfl) Tryz.underlying3
 m3:=by kernel_rfl
 m4:=by kernel_rfl}
def Tryz.layExtra_ren:Go.Shelf.Ren:=⟨fun | 155=>238 | 154=>267 | 138=>284 | 165=>269 | 143=>285 | 166=>270 | 197=>248 | 169=>271 | 195=>295 | 218=>296 | 240=>286 | 241=>287 | 219=>297 | 260=>273 | 276=>298 | 277=>299 | 217=>300 | 225=>291 | 224=>290 | 267=>301 | 266=>302 | 314=>303 | n=>n,fun | 9=>9 | 3=>3 | 4=>4 | 72=>257 | 0=>0 | 76=>259 | 105=>239 | 21=>21 | 5=>5 | 70=>255 | 20=>20 | 37=>44 | 75=>141 | 127=>261 | 164=>282 | 46=>172 | 119=>275 | 139=>278 | 138=>277 | 146=>287 | 51=>201 | 80=>101 | n=>n,fun | 1=>5 | 3=>3 | 4=>4 | n=>n⟩
theorem Tryz.layExtra:Go.Proofs.Builder.Extra Tryz.prog Tryz.layExtra_ren:={
 sizeBuilder:=by kernel_rfl
 liesBuilder:=by kernel_rfl
 t5:=Tryz.underlying5
 a5:=Tryz.isAgg5
 z5:=Tryz.sizeOf5
 v5:=Tryz.zeroValue5
 infoByte:=by kernel_rfl
 cellsByte:=by kernel_rfl
 sizeByte:=by kernel_rfl
 neB5:=by decide}
end Go.Proofs
namespace Go.Proofs.YtddiiceaindlhaaGreatDoor.Abs
open Go Go.Shelf Go.RowKit Go.Lib
theorem Hn {l:List gX} (hm:vL "internal/bytealg.MaxLen" ∈ l) : ∀(args:List SV) (tab:aw) (z:(Sh.pair (.val .str) .unit).den×Sh.unit.den),qg args tab=some z→eO (dJ Tryz.prog l) Tryz.prog jv args tab z:=by
 intro args tab z hz
 unfold qg at hz
 split at hz
 ·rename_i s c d
  split at hz
  ·rename_i h
   cases hz
   refine jt (sh:=Sh.pair (.val .str) .unit) (fun _=>rfl) ?_ (fun _ _ h=>h.none)
   intro w Pr γ us hG hPr hu
   cases hu with
   | cons a k =>
    cases k with
    | cons b k =>
     cases k with
     | cons c k =>
      cases k
      obtain rfl:=eN a
      obtain rfl:=eN b
      obtain rfl:=eN c
      obtain⟨m,hc⟩:=Bu hG hm Tryz.layReplace.m1
      refine(Any.strings_ReplaceAll {Tryz.layReplace with} Tryz.layExtra s _ _ m w h.1 hc h.2.1 h.2.2).mono ?_
      rintro e w' ⟨rfl,hB⟩
      exact⟨[_],rfl,⟨[_],[],rfl,rfl,rfl⟩,hB⟩
  ·cases hz
 ·cases hz
end Go.Proofs.YtddiiceaindlhaaGreatDoor.Abs
set_option linter.unusedVariables false
set_option linter.unusedSimpArgs false
set_option linter.unusedSectionVars false
namespace Go.Proofs
open Go.Shelf Go.RowKit Go.Lib
def Tryz.layJoin_ren:Go.Shelf.Ren:=⟨fun | 156=>241 | 165=>269 | 166=>270 | 169=>271 | 240=>286 | 241=>287 | 276=>298 | 277=>299 | n=>n,fun | 31=>131 | 9=>9 | 3=>3 | 4=>4 | 0=>0 | 20=>20 | 72=>257 | 76=>259 | 70=>255 | 37=>44 | 75=>141 | 127=>261 | 164=>282 | 5=>5 | 80=>101 | n=>n,fun | n=>n⟩
theorem Tryz.layJoin:Go.Proofs.Lays.n156 Tryz.prog Tryz.layJoin_ren:={
 mixed:=by kernel_rfl
 f156:=Tryz.func241.trans (congrArg some (by kernel_rfl))
 f165:=Tryz.func269.trans (congrArg some (by kernel_rfl))
 f166:=Tryz.func270.trans (congrArg some (by kernel_rfl))
 f169:=Tryz.func271.trans (congrArg some (by kernel_rfl))
 f240:=Tryz.func286.trans (congrArg some (by kernel_rfl))
 f241:=Tryz.func287.trans (congrArg some (by kernel_rfl))
 f276:=Tryz.func298.trans (congrArg some (by kernel_rfl))
 f277:=Tryz.func299.trans (congrArg some (by kernel_rfl))
 t0:=Tryz.underlying0
 a0:=Tryz.isAgg0
 z0:=Tryz.sizeOf0
 v0:=Tryz.zeroValue0
 t3:=Tryz.underlying3
 a3:=Tryz.isAgg3
 z3:=Tryz.sizeOf3
 v3:=Tryz.zeroValue3
 t4:=Tryz.underlying4
 a4:=Tryz.isAgg4
 z4:=Tryz.sizeOf4
 v4:=Tryz.zeroValue4
 t9:=Tryz.underlying9
 a9:=Tryz.isAgg9
 z9:=Tryz.sizeOf9
 v9:=Tryz.zeroValue9
 t20:=Tryz.underlying20
 a20:=Tryz.isAgg20
 z20:=Tryz.sizeOf20
 v20:=Tryz.zeroValue20
 t31:=Tryz.underlying131
 a31:=Tryz.isAgg131
 z31:=Tryz.sizeOf131
 v31:=Tryz.zeroValue131
 t37:=Tryz.underlying44
 a37:=Tryz.isAgg44
 z37:=Tryz.sizeOf44
 v37:=Tryz.zeroValue44
 t70:=Tryz.underlying255
 a70:=Tryz.isAgg255
 z70:=Tryz.sizeOf255
 v70:=Tryz.zeroValue255
 t72:=Tryz.underlying257
 a72:=Tryz.isAgg257
 z72:=Tryz.sizeOf257
 v72:=Tryz.zeroValue257
 t75:=Tryz.underlying141
 a75:=Tryz.isAgg141
 z75:=Tryz.sizeOf141
 v75:=Tryz.zeroValue141
 t76:=Tryz.underlying259
 a76:=Tryz.isAgg259
 z76:=Tryz.sizeOf259
 v76:=Tryz.zeroValue259
 t127:=Tryz.underlying261
 a127:=Tryz.isAgg261
 z127:=Tryz.sizeOf261
 v127:=Tryz.zeroValue261
 t164:=Tryz.underlying282
 a164:=Tryz.isAgg282
 z164:=Tryz.sizeOf282
 v164:=Tryz.zeroValue282}
theorem Tryz.extraJoin:Builder.Extra Tryz.prog Tryz.layJoin_ren:={
 sizeBuilder:=by kernel_rfl
 liesBuilder:=by kernel_rfl
 t5:=Tryz.underlying5
 a5:=Tryz.isAgg5
 z5:=Tryz.sizeOf5
 v5:=Tryz.zeroValue5
 infoByte:=by kernel_rfl
 cellsByte:=by kernel_rfl
 sizeByte:=by kernel_rfl
 neB5:=by decide}
end Go.Proofs
namespace Go.Proofs.YtddiiceaindlhaaGreatDoor.Abs
open Go Go.Shelf Go.RowKit Go.Lib
theorem MD {l:List gX} : ∀(args:List SV) (tab:aw) (z:(Sh.pair (.val .str) .unit).den×Sh.unit.den),xc Qu args tab=some z→eO (dJ Tryz.prog l) Tryz.prog pH args tab z:=by
 intro args tab z hz
 unfold xc at hz
 split at hz
 ·rename_i t xs c
  rw[Option.bind_eq_some_iff] at hz
  obtain⟨xs',hxs,hz⟩:=hz
  obtain⟨rfl,hxs⟩:=ic hxs
  have hxs:xs=xs':=hxs
  subst hxs
  split at hz
  ·rename_i h
   obtain⟨h1,h2⟩:=h
   cases hz
   refine jt (sh := .pair (.val .str) .unit) (fun _=>rfl) ?_ (fun _ _ h=>h.none)
   intro w Pr γ us hG hPr hu
   cases hu with
   | cons a k =>
    cases k with
    | cons d k =>
     cases k
     obtain rfl:=eN d
     cases a with
     | val ha =>
      obtain⟨A,cap,rfl,hcap,hA⟩:=ha
      by_cases hx:(xs:List ByteArray)=[]
      ·subst hx
       refine(Any.strings_Join_none Tryz.layJoin Tryz.extraJoin A cap c w).mono ?_
       rintro e w' ⟨rfl,rfl⟩
       exact⟨[_],rfl,⟨[_],[],rfl,rfl,rfl⟩,Below.refl _ _⟩
      ·obtain⟨b,o,rfl,hcells⟩:=hA hx
       have hcell : ∀(j:Nat) x,(xs:List ByteArray)[j]? = some x→Pr b (o+j)∧w.cell? ⟨b,o+j,none⟩=some (.string x):=by
        intro j x hj
        obtain⟨hj1,hj2⟩:=List.getElem?_eq_some_iff.1 hj
        obtain⟨cs,hc1,hc2⟩:=hcells j hj1
        have hc1:cs=[.string (xs:List ByteArray)[j]]:=hc1
        subst hc1
        have:=hc2 0 _ rfl
        have e1:o+j*(Ty.str).sz+0=o+j:=by show o+j*1+0=_; omega
        rw[e1] at this
        rw[←hj2]
        exact this
       have hb:b < w.heap.size:=by
        obtain⟨x,r,hxr⟩ : ∃ x r,(xs:List ByteArray)=x :: r:=by
         cases hq:(xs:List ByteArray) with
         | nil=>exact absurd hq hx
         | cons x r=>exact⟨x,r,rfl⟩
        exact hPr b _ (hcell 0 x (by rw[hxr]; rfl)).1
       refine(Any.strings_Join Tryz.layJoin Tryz.extraJoin b o cap xs c w (fun j x hj=>(hcell j x hj).2) hb h1 hcap h2).mono ?_
       rintro e w' ⟨rfl,hB⟩
       exact⟨[_],rfl,⟨[_],[],rfl,rfl,rfl⟩,hB⟩
  ·cases hz
 ·cases hz
end Go.Proofs.YtddiiceaindlhaaGreatDoor.Abs
set_option linter.unusedVariables false
set_option linter.unusedSimpArgs false
set_option linter.unusedSectionVars false
namespace Go.Proofs
open Go.Shelf Go.RowKit Go.Lib
def Tryz.layCut_ren:Go.Shelf.Ren:=⟨fun | 145=>281 | 220=>294 | 219=>297 | 217=>300 | 225=>291 | 224=>290 | 267=>301 | 266=>302 | 314=>303 | n=>n,fun | 9=>9 | 4=>4 | 59=>270 | 3=>3 | 5=>5 | 46=>172 | 146=>287 | 51=>201 | n=>n,fun | 1=>5 | n=>n⟩
theorem Tryz.layCut:Go.Proofs.LaysM.n145 Tryz.prog Tryz.layCut_ren:={
 mixed:=by kernel_rfl
 f145:=Tryz.func281.trans (congrArg some (by kernel_rfl))
 f217:=Tryz.func300.trans (congrArg some (by kernel_rfl))
 f219:=Tryz.func297.trans (congrArg some (by kernel_rfl))
 f220:=Tryz.func294.trans (congrArg some (by kernel_rfl))
 f224:=Tryz.func290.trans (congrArg some (by kernel_rfl))
 f225:=Tryz.func291.trans (congrArg some (by kernel_rfl))
 f266:=Tryz.func302.trans (congrArg some (by kernel_rfl))
 f267:=Tryz.func301.trans (congrArg some (by kernel_rfl))
 f314:=Tryz.func303.trans (congrArg some (by kernel_rfl))
 t3:=Tryz.underlying3
 a3:=Tryz.isAgg3
 z3:=Tryz.sizeOf3
 v3:=Tryz.zeroValue3
 t4:=Tryz.underlying4
 a4:=Tryz.isAgg4
 z4:=Tryz.sizeOf4
 v4:=Tryz.zeroValue4
 t5:=Tryz.underlying5
 a5:=Tryz.isAgg5
 z5:=Tryz.sizeOf5
 v5:=Tryz.zeroValue5
 t9:=Tryz.underlying9
 a9:=Tryz.isAgg9
 z9:=Tryz.sizeOf9
 v9:=Tryz.zeroValue9
 t46:=Tryz.underlying172
 a46:=Tryz.isAgg172
 z46:=Tryz.sizeOf172
 v46:=Tryz.zeroValue172
 t51:=Tryz.underlying201
 a51:=Tryz.isAgg201
 z51:=Tryz.sizeOf201
 v51:=Tryz.zeroValue201
 t59:=Tryz.underlying270
 a59:=Tryz.isAgg270
 z59:=Tryz.sizeOf270
 v59:=Tryz.zeroValue270
 t146:=Tryz.underlying287
 a146:=Tryz.isAgg287
 z146:=Tryz.sizeOf287
 v146:=Tryz.zeroValue287
 g1:=by kernel_rfl
 i3:=by kernel_rfl
 i4:=by kernel_rfl
 i5:=by kernel_rfl
 i9:=by kernel_rfl
 i46:=by kernel_rfl
 i51:=by kernel_rfl
 i59:=by kernel_rfl
 i146:=by kernel_rfl
 m1:=by kernel_rfl
 s1_3:=fun w h=>Go.Proofs.cell_of_shapedOpen_int (zero := #[.int .i64 0]) (t:=3) h (of_decide_eq_true (by kernel_rfl)) (by kernel_rfl) rfl (by kernel_rfl) (by kernel_rfl) Tryz.underlying3}
end Go.Proofs
namespace Go.Proofs.YtddiiceaindlhaaGreatDoor.Abs
open Go Go.Shelf Go.RowKit Go.Lib
theorem Oz {l:List gX} (hm:vL "internal/bytealg.MaxLen" ∈ l) : ∀(args:List SV) (tab:aw) (z:(Sh.pair (.val .str) (.pair (.val .str) (.pair (.val .bool) .unit))).den×Sh.unit.den),Az args tab=some z→eO (dJ Tryz.prog l) Tryz.prog ra args tab z:=by
 intro args tab z hz
 unfold Az at hz
 split at hz
 ·rename_i s c
  split at hz
  ·rename_i h
   cases hz
   refine jt (sh := .pair (.val .str) (.pair (.val .str) (.pair (.val .bool) .unit))) (fun _=>rfl) ?_ (fun _ _ h=>h.none)
   intro w Pr γ us hG _ hu
   cases hu with
   | cons a k =>
    cases k with
    | cons b k =>
     cases k
     obtain rfl:=eN a
     obtain rfl:=eN b
     obtain⟨m,hc⟩:=Bu hG hm Tryz.layCut.m1
     refine(Any.strings_Cut {Tryz.layCut with} s c m w h hc).mono ?_
     rintro e w' ⟨rfl,n,rfl⟩
     exact⟨[_,_,_],rfl,⟨[_],_,rfl,rfl,[_],_,rfl,rfl,[_],_,rfl,rfl,rfl⟩,rfl,rfl,rfl,Nat.le_refl _,fun _ _=>rfl⟩
  ·cases hz
 ·cases hz
end Go.Proofs.YtddiiceaindlhaaGreatDoor.Abs
set_option linter.unusedVariables false
namespace Go.Proofs.YtddiiceaindlhaaGreatDoor.Abs
open Go Go.RowKit Go.ChangeShapes
theorem vb {W:World} (h:W.ShapedOpen Tryz.prog) : ∃ m,W.cell? ⟨5,0,none⟩=some (.int .i64 m):=Tryz.layCut.s1_3 W h
theorem gj {H:Type} {enc:TypeId×Value→H} {a:Assume} {C:Checked} {os:Os} {f:FuncId} {fn:Func} {s:ChangeSpec} {conds:List PathCond} {apart fresh handsOn again:Bool} {X:World→Array Value→Prop}
  (hX : ∀(w w':World) (args:Array Value),w.heap=w'.heap→X w args→X w' args)
  (own:ownKnob C.prog.godebug=none) (started:os.Started) (noInit:C.prog.inits.idxOf? f=none) (hfn:C.prog.funcs[f]? = some fn)
  (witness : ∃(w:World) (tape:Tape) (i:Input),w.os=os∧(w.forCall tape i).Shaped C.prog∧i.vars=[]∧Input.okWide C.prog (w.forCall tape i) .any w.heap.size f i ∧
   ((s.pre enc C.prog fn conds apart (w.forCall tape i).memory i.args∧X (w.forCall tape i).memory i.args)∧sizedMet enc C.prog fn (OpenSpec.ofChange s) apart (w.forCall tape i).memory i.args)∧a.holds C.prog (lone (Frame.enter C.prog f i.args .normal) [] (w.forCall tape i)))
  (contract : ∀(W:World) (base:Nat) (args:Array Value) (ds gs:List (DataW H)) (before:List MemPlace),
   (∀(j:Nat) t v,fn.params[j]? = some t→args[j]? = some v→Value.okWide C.prog W .any base t v) →
   DataW.Whole enc C.prog fn.params.toList s.vars apart W args.toList ds gs before →
   conds.all (PathCond.test C.prog ⟨fn.params.toList,ds,s.plain.varTypes C.prog,gs⟩)=true →
   (DataW.weightsEach C.prog (fn.params.toList++s.plain.varTypes C.prog) (ds++gs)).all (· ≤ reachBytes)=true→X W args→W.ShapedOpen C.prog →
   a.holds C.prog (lone (Frame.enter C.prog f args .normal) [] W) →
   Calls C.prog f args W fun e W' => ∃ v,e = .returned v∧s.post enc C.prog fn apart fresh handsOn again W args v W') :
  ReturnsInHanded a C os f .any (fun w args=>(s.pre enc C.prog fn conds apart w args∧X w args)∧sizedMet enc C.prog fn (OpenSpec.ofChange s) apart w args) (s.post enc C.prog fn apart fresh handsOn again):=by
 refine returnsInHanded_of_calls own started noInit witness ?_
 intro w tape i _ hsh _ hok hpre hholds
 obtain⟨_,_,_,fn',hfn',_,_,_,_,hval⟩:=hok
 have e:fn'=fn:=Option.some.inj (hfn'.symm.trans hfn)
 subst e
 obtain⟨⟨⟨ds,gs,before,hw,hc⟩,hx⟩,hz⟩:=hpre
 have hw':=DataW.Whole.of_heap (w':=w.forCall tape i) (by rfl) hw
 refine(contract (w.forCall tape i) w.heap.size i.args ds gs before hval hw' hc (hz.weights hw) (hX _ _ _ (by rfl) hx) hsh hholds).mono fun e W' ⟨v,he,hp⟩ => ?_
 subst he
 exact ChangeSpec.post_blind hp
end Go.Proofs.YtddiiceaindlhaaGreatDoor.Abs
