/- What is shown otherwise: slices.Clone, slices.SortFunc: from the library's contracts. -/
import Derived.Test.YtcfnhfbaakflgaaAbsPl
import Derived.Shelf.SlSortCmp.WholeK
import Derived.Shelf.SlicesE.Clone
set_option linter.unusedVariables false
set_option linter.unusedSimpArgs false
set_option linter.unusedSectionVars false
namespace Go.Proofs.Ytcfnhfbaakflgaa.Abs
open Go Go.RowKit

/-! ### The cells of a plain value without slices -/
def encT : (t : Ty) → t.den → List Value
  | .int k, n => [.int k n]
  | .bool, b => [.bool b]
  | .str, s => [.string s]
  | .unit, _ => []
  | .pair a b, x => encT a x.1 ++ encT b x.2
  | .agg t, x => encT t x
  | .slice _ _, _ => []
theorem RK_enc {L : Lk} : ∀ {t : Ty} {x : t.den} {cs : List Value}, noSlice t = true → (RK L t x cs ↔ cs = encT t x)
  | .int k, n, cs, _ => Iff.rfl
  | .bool, b, cs, _ => Iff.rfl
  | .str, s, cs, _ => Iff.rfl
  | .unit, _, cs, _ => Iff.rfl
  | .pair a b, x, cs, hn => by
    simp only [noSlice, Bool.and_eq_true] at hn
    constructor
    · rintro ⟨c, d, rfl, h1, h2⟩
      rw [(RK_enc hn.1).1 h1, (RK_enc hn.2).1 h2]
      rfl
    · rintro rfl
      exact ⟨_, _, rfl, (RK_enc hn.1).2 rfl, (RK_enc hn.2).2 rfl⟩
  | .agg t, x, cs, hn => RK_enc (t := t) hn
  | .slice _ _, _, _, hn => by cases hn
theorem enc_len {t : Ty} (hn : noSlice t = true) (x : t.den) : (encT t x).length = t.sz := RK_len (L := fun _ _ _ => True) ((RK_enc hn).2 rfl)
theorem enc_one {t : Ty} (hn : noSlice t = true) (x : t.den) : ∀ v ∈ encT t x, v.oneCell' = true := RK_one (L := fun _ _ _ => True) ((RK_enc hn).2 rfl)
theorem flat_list {α : Type} [Inhabited α] {enc : α → List Value} {k : Nat} (hk : ∀ x, (enc x).length = k) : ∀ l : List α, (List.range (l.length * k)).map (fun t => (enc l[t / k]!)[t % k]!) = (l.map enc).flatten
  | [] => by simp
  | x :: l => by
    have ih := flat_list hk l
    rw [List.length_cons, Nat.add_mul, Nat.one_mul, Nat.add_comm, List.range_add, List.map_append, List.map_cons, List.flatten_cons, ← ih, List.map_map]
    congr 1
    · apply List.ext_getElem
      · simp [hk]
      · intro i h1 h2
        have hi : i < k := by simpa using h1
        simp only [List.getElem_map, List.getElem_range]
        rw [Nat.div_eq_of_lt hi, Nat.mod_eq_of_lt hi]
        simp only [List.getElem!_cons_zero]
        rw [getElem!_pos _ i h2]
    · apply List.map_congr_left
      intro t ht
      have hk0 : 0 < k := by
        rcases Nat.eq_zero_or_pos k with h | h
        · subst h
          simp at ht
        · exact h
      simp only [Function.comp]
      rw [Nat.add_div_left _ hk0, Nat.add_mod_left]
      simp
theorem flat_eq {α : Type} [Inhabited α] {enc : α → List Value} {k : Nat} (hk : ∀ x, (enc x).length = k) (d : Array α) : (Sort.flatK enc k d).toList = (d.toList.map enc).flatten := by
  rw [← flat_list hk]
  unfold Sort.flatK
  rw [Array.toList_map, Array.toList_range, Array.length_toList]
  refine List.map_congr_left fun i _ => ?_
  rw [Array.getElem!_toList (xs := d)]
theorem Els_enc {L : Lk} {t : Ty} (hn : noSlice t = true) {xs : List t.den} {css : List (List Value)} : Els L t xs css ↔ css = xs.map (encT t) := by
  constructor
  · rintro ⟨h1, h2⟩
    apply List.ext_getElem (by simp [h1])
    intro i h3 h4
    rw [List.getElem_map]
    exact (RK_enc hn).1 (h2 i (by omega) h3)
  · rintro rfl
    refine ⟨by simp, fun i h h' => ?_⟩
    rw [List.getElem_map]
    exact (RK_enc hn).2 rfl
theorem take_put (cur d : Array Value) (h : d.size ≤ cur.size) : (Sort.putCells id 0 d cur).toList.take d.size = d.toList := by
  apply List.ext_getElem?
  intro i
  rw [List.getElem?_take]
  by_cases hi : i < d.size
  · rw [if_pos hi]
    simp only [Sort.putCells, Array.getElem?_toList, Array.getElem?_mapIdx]
    rw [Array.getElem?_eq_getElem (by omega), Array.getElem?_eq_getElem hi]
    simp [hi]
  · rw [if_neg hi, Array.getElem?_toList, Array.getElem?_eq_none (by omega)]
theorem sort_sound {P : Program} {g gc : Nat} {fn : Func} {e : TypeId} {t : Ty} {own : List Bool} {live : List (Nat × List Nat)} (hn : noSlice t = true) (hsz : 0 < t.sz) {lt : t.den → t.den → Bool} (hO : Sort.SWO lt)
    (hcon : ∀ (blk cap : Nat) (d : Array t.den) (w : World), Sort.HoldsK (encT t) t.sz w blk 0 d → blk < w.heap.size → d.size < 4611686018427387904 → Calls P g #[.slice (some ⟨blk, 0, none⟩) d.size cap, .func (.func gc) #[] #[]] w fun e w' => e = .returned (.tuple #[]) ∧ ∃ n os, w' = sortWorldK (encT t) t.sz w blk 0 n (Sort.pdq lt d 0 d.size (Lib.bitLen d.size) true true) os)
    (hnone : ∀ (p : Option Addr) (cap : Nat) (fv : Value) (w : World), Calls P g #[.slice p 0 cap, fv] w fun e w' => e = .returned (.tuple #[]) ∧ w' = w) :
    ∀ (args : List SV) (tab : Tab) (z : Sh.unit.den × (Sh.pair (.row e t false) .unit).den), sortPrim e t gc lt args tab = some z → SoundAt P { g := g, fn := fn, sh := .unit, bx := .pair (.row e t false) .unit, own := own, live := live, rb := true, prim := some (sortPrim e t gc lt) } args tab z := by
  intro args tab z hz
  unfold sortPrim at hz
  split at hz
  · rename_i g' e' s xs
    split at hz
    · rename_i hg'
      subst hg'
      rw [Option.bind_eq_some_iff] at hz
      obtain ⟨xs', hxs, hz⟩ := hz
      obtain ⟨hty, hxs⟩ := cast_eq hxs
      cases hty
      have hxs : xs = xs' := hxs
      subst hxs
      split at hz
      · rename_i hlen
        cases hz
        intro hcanon w γ Pr us hI hlim N hN vs u n bs u' n' ub hm1 hm2 hub
        cases hm1
        cases hm2
        cases hub
        have hN : 1 ≤ N := hN
        obtain ⟨v, css, hγ, hels, hown, hfr⟩ := hI.res 0 (.row e t xs false) rfl
        have hsl := hI.slots
        cases hsl with
        | cons h1 hk =>
        cases hk with
        | cons h2 hk =>
        cases hk
        rename_i u1 u2
        cases h1 with
        | row h1 =>
        rw [hγ] at h1
        cases h1
        cases h2 with
        | fn hc =>
        cases hc
        have hcss := (Els_enc hn).1 hels
        have hγN : ∀ r, (if r = N then γ 0 else none) = if r = N then some (.row e t v) else none := fun r => by rw [hγ]
        -- what is owed behind the call, from the row's block
        have fin : ∀ (w' : World), w'.os = w.os → w'.tape = w.tape → w'.output = w.output → w.heap.size ≤ w'.heap.size → (∀ k, k < w.heap.size → v.ownBlock ≠ some k → w'.heap[k]? = w.heap[k]?) →
            w'.ownsRow 0 e t.sz v (sorted lt xs).length ((sorted lt xs).map (encT t)).flatten → Back w (Xof [(0, .row e t xs false)] γ) γ Pr N (N + 1) [] [none] [(N, some (.row e t (sorted lt xs) false))] [] (fun r => if r = N then γ 0 else none) Pr w' := by
          intro w' hos htp hout hsize hfrm hrow
          have hloose : ∀ b, v.ownBlock = some b → ∀ o, ¬ Pr b o := fun b hb o ho => hI.loose 0 (.row e t xs false) b rfl (by simp [blk, hγ, hb]) o ho
          have hnew : ∀ r x, newG [(N, some (Res.row e t (sorted lt xs) false))] r = some x → r = N ∧ x = .row e t (sorted lt xs) false := by
            intro r x h
            have h' : (if r = N then some (Res.row e t (sorted lt xs) false) else none) = some x := h
            by_cases hr : r = N
            · rw [if_pos hr] at h'
              exact ⟨hr, (Option.some.inj h').symm⟩
            · rw [if_neg hr] at h'
              cases h'
          have hblk : ∀ b, blk (fun r => if r = N then γ 0 else none) N (.row e t (sorted lt xs) false) = some b → v.ownBlock = some b := by
            intro b hb
            simpa [blk, hγ] using hb
          refine ⟨.nil, ?_, ?_, ?_, ?_, ?_, ?_, ?_, ?_, ?_, hsize, hos, htp, hout, ?_, ?_, ?_⟩
          · intro r g hr
            by_cases h : r = N
            · rw [if_pos h, hγ] at hr
              cases hr
              obtain ⟨A, n, c, rfl⟩ := hI.gs 0 e t v hγ
              exact ⟨⟨by omega, by omega⟩, .inl ⟨e, t, A, n, c, rfl⟩⟩
            · rw [if_neg h] at hr
              cases hr
          · intro j t' c hj
            rcases j with _ | j <;> simp at hj
          · intro r x h
            obtain ⟨rfl, rfl⟩ := hnew r x h
            refine ⟨Nat.le_refl _, Nat.lt_succ_self _, v, (sorted lt xs).map (encT t), ?_, (Els_enc hn).2 rfl, hrow, fun h => by cases h⟩
            exact (if_pos rfl).trans hγ
          · intro r r' x x' b h h' hne
            exact absurd ((hnew r x h).1.trans (hnew r' x' h').1.symm) hne
          · intro j t' c b hj
            rcases j with _ | j <;> simp at hj
          · intro j t' c b hj
            rcases j with _ | j <;> simp at hj
          · intro r x b h hb o ho
            obtain ⟨rfl, rfl⟩ := hnew r x h
            exact absurd ho (hloose b (hblk b hb) o)
          · intro r x b h hb
            obtain ⟨rfl, rfl⟩ := hnew r x h
            exact .inl ⟨0, _, rfl, by simp [blk, hγ, hblk b hb]⟩
          · intro k hk hx
            refine hfrm k hk fun hb => hx ⟨0, _, rfl, by simp [blk, hγ, hb]⟩
          · intro b o ho
            exact Nat.lt_of_lt_of_le (hI.prIn b o ho) hsize
          · exact fun b hb hx o ho => ho
          · intro b o v' hv'
            refine ⟨hv'.1, ?_⟩
            rw [World.cell?_of_block (hfrm b (hI.prIn b o hv'.1) (fun hb => hloose b hb o hv'.1))]
            exact hv'.2
        have hsame2 : ∀ p ∈ comes true [(0, Res.row e t xs false)] [SV.row N], (fun r => if r = N then γ 0 else none) p.1 = γ p.2 := by
          intro p hp
          have : p = (N, 0) := by simpa [comes] using hp
          subst this
          exact if_pos rfl
        by_cases hx0 : xs = []
        · subst hx0
          have hs0 : sorted lt ([] : List t.den) = [] := List.eq_nil_of_length_eq_zero (sorted_len hO [])
          have hv0 : ∃ p cap, v = .slice p 0 cap := by
            rcases hown.2 with ⟨rfl, _⟩ | ⟨g, cap, cur, rfl, _⟩
            · exact ⟨_, _, rfl⟩
            · exact ⟨_, _, rfl⟩
          obtain ⟨p, cap, rfl⟩ := hv0
          refine (hnone p cap _ w).mono ?_
          rintro e' w' ⟨rfl, rfl⟩
          refine ⟨[], _, Pr, rfl, fin w' rfl rfl rfl (Nat.le_refl _) (fun _ _ _ => rfl) ?_, hsame2⟩
          rw [hs0]
          rw [hcss] at hown
          exact hown
        · rcases hown.2 with ⟨rfl, h0⟩ | ⟨g, cap, cur, rfl, _, hheap, hnc, hcm, hcs, htake⟩
          · exact absurd (List.eq_nil_of_length_eq_zero h0) hx0
          · have hflat : (Sort.flatK (encT t) t.sz xs.toArray).toList = css.flatten := by rw [flat_eq (enc_len hn), hcss]
            have hflen : css.flatten.length = xs.length * t.sz := hels.flat
            have hglt : g < w.heap.size := (Array.getElem?_eq_some_iff.1 hheap).1
            have hmul : xs.length * t.sz ≤ cap * t.sz := Nat.mul_le_mul_right _ hnc
            have hH : Sort.HoldsK (encT t) t.sz w g 0 xs.toArray := by
              intro j hj
              have hj' : j < css.flatten.length := by
                rw [← hflat]
                simpa using hj
              have hcell := hown.cells (g := g) rfl j _ (List.getElem?_eq_getElem hj')
              rw [add_lit] at hcell
              refine ⟨?_, ?_⟩
              · rw [hcell]
                congr 1
                have : (Sort.flatK (encT t) t.sz xs.toArray)[j]! = (Sort.flatK (encT t) t.sz xs.toArray).toList[j]! := by
                  rw [getElem!_pos _ j hj, getElem!_pos _ j (by simpa using hj)]
                  simp
                show css.flatten[j] = (Sort.flatK (encT t) t.sz xs.toArray)[j]!
                rw [this, hflat, getElem!_pos _ j hj']
              · have := hown.frozenAt j
                rw [Nat.zero_add]
                exact this
            have hc := hcon g cap xs.toArray w hH hglt (by simpa using hlen)
            rw [show (xs.toArray).size = xs.length by simp] at hc
            refine hc.mono ?_
            rintro e' w' ⟨rfl, m, os, rfl⟩
            have hsl : (Sort.pdq lt xs.toArray 0 xs.length (Lib.bitLen xs.length) true true).toList = sorted lt xs := by
              unfold sorted
              simp
            have hdl := sorted_len hO xs
            have hF : (Sort.flatK (encT t) t.sz (Sort.pdq lt xs.toArray 0 xs.length (Lib.bitLen xs.length) true true)).toList = ((sorted lt xs).map (encT t)).flatten := by rw [flat_eq (enc_len hn), hsl]
            have hFs : (Sort.flatK (encT t) t.sz (Sort.pdq lt xs.toArray 0 xs.length (Lib.bitLen xs.length) true true)).size = xs.length * t.sz := by
              rw [Sort.size_flatK, ← Array.length_toList, hsl, hdl]
            have hw' : ∀ k, k ≠ g → k < w.heap.size → (sortWorldK (encT t) t.sz w g 0 m (Sort.pdq lt xs.toArray 0 xs.length (Lib.bitLen xs.length) true true) os).heap[k]? = w.heap[k]? := by
              intro k hk hkl
              show ((w.heap.modify g _) ++ os)[k]? = w.heap[k]?
              rw [Array.getElem?_append_left (by simpa using hkl), Array.getElem?_modify, if_neg (fun e => hk e.symm)]
            have hwg : (sortWorldK (encT t) t.sz w g 0 m (Sort.pdq lt xs.toArray 0 xs.length (Lib.bitLen xs.length) true true) os).heap[g]? = some (.cells (Sort.putCells id 0 (Sort.flatK (encT t) t.sz (Sort.pdq lt xs.toArray 0 xs.length (Lib.bitLen xs.length) true true)) cur) e (0, 0)) := by
              show ((w.heap.modify g _) ++ os)[g]? = _
              rw [Array.getElem?_append_left (by simpa using hglt), Array.getElem?_modify, if_pos rfl, hheap]
              rfl
            refine ⟨[], _, Pr, rfl, fin _ rfl rfl rfl ?_ ?_ ?_, hsame2⟩
            · show w.heap.size ≤ ((w.heap.modify g _) ++ os).size
              simp
            · intro k hk hne
              exact hw' k (fun e => hne (by rw [e]; rfl)) hk
            · refine ⟨?_, .inr ⟨g, cap, _, by rw [hdl], Nat.zero_le _, hwg, by omega, hcm, ?_, ?_⟩⟩
              · rw [← hF, Array.length_toList, hFs, hdl]
              · rw [show (Sort.putCells id 0 (Sort.flatK (encT t) t.sz (Sort.pdq lt xs.toArray 0 xs.length (Lib.bitLen xs.length) true true)) cur).size = cur.size by simp [Sort.putCells]]
                exact hcs
              · rw [hdl, ← hF, ← hFs]
                exact take_put _ _ (by rw [hFs, hcs]; exact hmul)
      · cases hz
    · cases hz
  · cases hz
/-! ### slices.Clone -/
theorem own0 {w : World} {base : Nat} {e : TypeId} {size : Nat} {v : Value} {n : Nat} {xs : List Value} (h : w.ownsRow base e size v n xs) : w.ownsRow 0 e size v n xs := by
  refine ⟨h.1, ?_⟩
  rcases h.2 with h2 | ⟨g, cap, cur, h3, _, h4⟩
  · exact .inl h2
  · exact .inr ⟨g, cap, cur, h3, Nat.zero_le _, h4⟩
theorem clone_sound {P : Program} {g nb : Nat} {fn : Func} {e : TypeId} {t : Ty} {own : List Bool} {live : List (Nat × List Nat)} (hn : noSlice t = true) (hsz : 0 < t.sz) (hnb : 0 < nb)
    (hnil : ∀ (n c : Nat) (w : World), Calls P g #[.slice none n c] w fun e w' => e = .returned (.slice none 0 0) ∧ w' = w)
    (hcl : ∀ (a : Addr) (n c : Nat) (news : List Value) (w : World), news.length = n * t.sz → n ≤ maxLen → n * nb ≤ 140737488355328 → (∀ j u, news[j]? = some u → w.cell? (a.add j) = some u) → (∀ u ∈ news, u.oneCell' = true) →
      Calls P g #[.slice (some a) n c] w fun e' w' => ∃ v', e' = .returned v' ∧ w'.ownsRow w.heap.size e t.sz v' n news ∧ v' ≠ .slice none 0 0 ∧ Below w.heap.size w w') :
    ∀ (args : List SV) (tab : Tab) (z : (Sh.pair (.row e t false) .unit).den × Sh.unit.den), clonePrim e t nb args tab = some z → SoundAt P { g := g, fn := fn, sh := .pair (.row e t false) .unit, bx := .unit, own := own, live := live, prim := some (clonePrim e t nb) } args tab z := by
  intro args tab z hz
  unfold clonePrim at hz
  split at hz
  · rename_i s xs
    rw [Option.bind_eq_some_iff] at hz
    obtain ⟨xs', hxs, hz⟩ := hz
    obtain ⟨rfl, hxs⟩ := cast_eq hxs
    have hxs : xs = xs' := hxs
    subst hxs
    split at hz
    · rename_i hlen
      cases hz
      intro hcanon w γ Pr us hI hlim N hN vs u n bs u' n' ub hm1 hm2 hub
      cases hm1
      cases hm2
      cases hub
      have hsl := hI.slots
      cases hsl with
      | cons h1 hk =>
      cases hk
      cases h1 with
      | val h1 =>
      obtain ⟨A, cap, rfl, hcap, hA⟩ := h1
      have fin : ∀ (v : Value) (w' : World), Below w.heap.size w w' → w'.ownsRow w.heap.size e t.sz v (xs : List t.den).length ((xs : List t.den).map (encT t)).flatten → Back w (Xof [] γ) γ Pr N (N + 1) [.row N] [] [(N, some (.row e t xs false))] [v] (fun r => if r = N then some (.row e t v) else none) Pr w' := by
        intro v w' hB hrow
        have hnew : ∀ r x, newG [(N, some (Res.row e t xs false))] r = some x → r = N ∧ x = .row e t xs false := by
          intro r x h
          have h' : (if r = N then some (Res.row e t xs false) else none) = some x := h
          by_cases hr : r = N
          · rw [if_pos hr] at h'
            exact ⟨hr, (Option.some.inj h').symm⟩
          · rw [if_neg hr] at h'
            cases h'
        have hblk : ∀ b, blk (fun r => if r = N then some (G.row e t v) else none) N (.row e t xs false) = some b → w.heap.size ≤ b := by
          intro b hb
          have : v.ownBlock = some b := by simpa [blk] using hb
          exact (hrow.lt b this).1
        refine ⟨.cons (.row (if_pos rfl)) .nil, ?_, ?_, ?_, ?_, ?_, ?_, ?_, ?_, ?_, hB.size, hB.os, hB.tape, hB.output, ?_, ?_, ?_⟩
        · intro r g hr
          by_cases h : r = N
          · rw [if_pos h] at hr
            cases hr
            have : ∃ A n c, v = .slice A n c := by
              rcases hrow.2 with ⟨rfl, _⟩ | ⟨g, cap, cur, rfl, _⟩
              · exact ⟨_, _, _, rfl⟩
              · exact ⟨_, _, _, rfl⟩
            obtain ⟨A, n, c, rfl⟩ := this
            exact ⟨⟨by omega, by omega⟩, .inl ⟨e, t, A, n, c, rfl⟩⟩
          · rw [if_neg h] at hr
            cases hr
        · intro j t' c hj
          simp at hj
        · intro r x h
          obtain ⟨rfl, rfl⟩ := hnew r x h
          exact ⟨Nat.le_refl _, Nat.lt_succ_self _, v, _, if_pos rfl, (Els_enc hn).2 rfl, own0 hrow, fun h => by cases h⟩
        · intro r r' x x' b h h' hne
          exact absurd ((hnew r x h).1.trans (hnew r' x' h').1.symm) hne
        · intro j t' c b hj
          simp at hj
        · intro j t' c b hj
          simp at hj
        · intro r x b h hb o ho
          obtain ⟨rfl, rfl⟩ := hnew r x h
          have := hblk b hb
          have := hI.prIn b o ho
          omega
        · intro r x b h hb
          obtain ⟨rfl, rfl⟩ := hnew r x h
          exact .inr (hblk b hb)
        · exact fun k hk _ => hB.block k hk
        · exact fun b o ho => Nat.lt_of_lt_of_le (hI.prIn b o ho) hB.size
        · exact fun b hb hx o ho => ho
        · intro b o v' hv'
          refine ⟨hv'.1, ?_⟩
          rw [World.cell?_of_block (hB.block b (hI.prIn b o hv'.1))]
          exact hv'.2
      have hmax : (xs : List t.den).length ≤ maxLen := by
        have h1 : (xs : List t.den).length * 1 ≤ (xs : List t.den).length * nb := Nat.mul_le_mul_left _ hnb
        simp only [maxLen]
        omega
      cases A with
      | none =>
        have hx0 : (xs : List t.den) = [] := by
          rcases List.eq_nil_or_concat (xs : List t.den) with h | ⟨_, _, h⟩
          · exact h
          · obtain ⟨b, o, hh, _⟩ := hA (by rw [h]; simp)
            cases hh
        subst hx0
        refine (hnil 0 cap w).mono ?_
        rintro e' w' ⟨rfl, rfl⟩
        refine ⟨[.slice none 0 0], _, Pr, rfl, fin _ _ (Below.refl _ _) ?_, fun p hp => by have hp' : p ∈ ([] : List (Nat × Nat)) := hp; cases hp'⟩
        exact World.ownsRow_nil _ _ _ _
      | some a =>
        have hfl : ((xs : List t.den).map (encT t)).flatten = (List.range ((xs : List t.den).length * t.sz)).map (fun j => (encT t (xs : List t.den)[j / t.sz]!)[j % t.sz]!) := (flat_list (enc_len hn) xs).symm
        refine (hcl a (xs : List t.den).length cap ((xs : List t.den).map (encT t)).flatten w ?_ hmax hlen ?_ ?_).mono ?_
        · rw [hfl]
          simp
        · intro j u hj
          rw [hfl] at hj
          obtain ⟨hj1, hj2⟩ := List.getElem?_eq_some_iff.1 hj
          have hjl : j < (xs : List t.den).length * t.sz := by simpa using hj1
          have hne : (xs : List t.den) ≠ [] := by
            intro h
            rw [h] at hjl
            simp at hjl
          obtain ⟨b, o, hab, hcells⟩ := hA hne
          cases hab
          have hi : j / t.sz < (xs : List t.den).length := Nat.div_lt_of_lt_mul (by rw [Nat.mul_comm]; exact hjl)
          obtain ⟨c, hc1, hc2⟩ := hcells (j / t.sz) hi
          have hcc := (RK_enc hn).1 hc1
          have hm : j % t.sz < c.length := by
            rw [hcc, enc_len hn]
            exact Nat.mod_lt _ hsz
          have := (hc2 (j % t.sz) _ (List.getElem?_eq_getElem hm)).2
          rw [add_lit]
          have e1 : o + j / t.sz * t.sz + j % t.sz = o + j := by
            rw [Nat.add_assoc, Nat.mul_comm, Nat.div_add_mod]
          rw [e1] at this
          rw [this]
          congr 1
          rw [← hj2]
          simp only [List.getElem_map, List.getElem_range]
          rw [getElem!_pos (xs : List t.den) _ hi]
          subst hcc
          rw [getElem!_pos (encT t (xs : List t.den)[j / t.sz]) (j % t.sz) hm]
        · intro u hu
          rw [List.mem_flatten] at hu
          obtain ⟨l, hl, hu⟩ := hu
          obtain ⟨x, _, rfl⟩ := List.mem_map.1 hl
          exact enc_one hn x u hu
        · rintro e' w' ⟨v', rfl, hrow, _, hB⟩
          exact ⟨[v'], _, Pr, rfl, fin _ _ hB hrow, fun p hp => by have hp' : p ∈ ([] : List (Nat × Nat)) := hp; cases hp'⟩
    · cases hz
  · cases hz
end Go.Proofs.Ytcfnhfbaakflgaa.Abs
