/- slices.Insert at operations, at the front: sound. -/
import Derived.Test.YtcfnhfbaakflgaaAbsInsert
import Derived.Test.YtcfnhfbaakflgaaAbsSPrim
import Derived.Test.YtcfnhfbaakflgaaAbsQDisk
set_option linter.unusedVariables false
set_option linter.unusedSimpArgs false
namespace Go.Proofs.Ytcfnhfbaakflgaa.Abs
open Go Go.RowKit Go.Lib

theorem setCells_row (b : Nat) (T : TypeId) : ∀ (vs : List Value) (o : Nat) (w : World) (cur : Array Value), w.heap[b]? = some (.cells cur T (0, 0)) → o + vs.length ≤ cur.size → w.setCells b o vs = w.setRow b (cur.toList.take o ++ vs ++ cur.toList.drop (o + vs.length)).toArray
  | [], o, w, cur, h, _ => by
    simp only [World.setCells, List.append_nil, List.length_nil, Nat.add_zero, List.take_append_drop, Array.toArray_toList]
    exact (setRow_self w b cur T (0, 0) h).symm
  | v :: r, o, w, cur, h, hl => by
    have hl : o + (r.length + 1) ≤ cur.size := hl
    rw [World.setCells, setCell_eq_setRow w b o cur T (0, 0) v h]
    have ih := setCells_row b T r (o + 1) (w.setRow b (cur.setIfInBounds o v)) (cur.setIfInBounds o v) (setRow_heap w b cur _ T _ h) (by simp; omega)
    rw [ih, setRow_setRow]
    congr 2
    have e := list_seg_step cur.toList o v r (by simp; omega)
    simpa [Array.toList_setIfInBounds, Nat.add_assoc] using e
theorem setRow_other {w : World} {b k : Nat} {r : Array Value} (h : k ≠ b) : (w.setRow b r).heap[k]? = w.heap[k]? := by
  unfold World.setRow
  simp only [Array.getElem?_modify]
  rw [if_neg (fun e => h e.symm)]
theorem two_rows {cur : List Value} {vs cs : List Value} (hl : vs.length + cs.length ≤ cur.length) :
    (((cur.take vs.length ++ cs ++ cur.drop (vs.length + cs.length)).take 0 ++ vs ++ (cur.take vs.length ++ cs ++ cur.drop (vs.length + cs.length)).drop (0 + vs.length))).take (vs.length + cs.length) = vs ++ cs := by
  have h1 : (cur.take vs.length).length = vs.length := by rw [List.length_take]; omega
  rw [List.take_zero, List.nil_append, Nat.zero_add, List.append_assoc (cur.take vs.length), List.drop_append_of_le_length (by omega), List.drop_of_length_le (by omega), List.nil_append, ← List.append_assoc, List.take_append_of_le_length (Nat.le_of_eq (by rw [List.length_append])), List.take_of_length_le (Nat.le_of_eq (by rw [List.length_append]))]
theorem two_rows' {cur : List Value} {vs cs : List Value} (hl : vs.length + cs.length ≤ cur.length) :
    (((cur.take 0 ++ vs ++ cur.drop (0 + vs.length)).take vs.length ++ cs ++ (cur.take 0 ++ vs ++ cur.drop (0 + vs.length)).drop (vs.length + cs.length))).take (vs.length + cs.length) = vs ++ cs := by
  rw [List.take_zero, List.nil_append, Nat.zero_add, List.take_append_of_le_length (Nat.le_refl _), List.take_of_length_le (Nat.le_refl _), List.take_append_of_le_length (Nat.le_of_eq (by rw [List.length_append])), List.take_of_length_le (Nat.le_of_eq (by rw [List.length_append]))]
/-- Both roads. -/
theorem insert_any (b n c vb m vc : Nat) (cs vs : List Value) (w : World) (cur cur2 : Array Value) (hn : 0 < n) (hm : 0 < m) (hbig : (n + m) * 56 ≤ 140737488355328) (hvb : vb ≠ b)
    (hcl : cs.length = n * 4) (hvl : vs.length = m * 4)
    (hb : w.heap[b]? = some (.cells cur 55 (0, 0))) (hnc : n ≤ c) (hcm : c ≤ maxLen) (hcs : cur.size = c * 4) (hct : cur.toList.take (n * 4) = cs)
    (hv : w.heap[vb]? = some (.cells cur2 55 (0, 0))) (hmc : m ≤ vc) (hvs : cur2.size = vc * 4) (hvt : cur2.toList.take (m * 4) = vs)
    (h1c : ∀ v ∈ cs, v.oneCell' = true) (h1v : ∀ v ∈ vs, v.oneCell' = true) :
    Calls Try.prog 92 #[.slice (some ⟨b, 0, none⟩) n c, .int .i64 0, .slice (some ⟨vb, 0, none⟩) m vc] w fun e w' => ∃ v', e = .returned v' ∧ w'.ownsRow 0 55 4 v' (m + n) (vs ++ cs) ∧ (∃ A k c, v' = .slice A k c) ∧
      (∀ g, v'.ownBlock = some g → g = b ∨ w.heap.size ≤ g) ∧ (∀ k, k < w.heap.size → k ≠ b → w'.heap[k]? = w.heap[k]?) ∧ w'.os = w.os ∧ w'.tape = w.tape ∧ w'.output = w.output ∧ w.heap.size ≤ w'.heap.size := by
  have hcell : ∀ {g : Nat} {cu : Array Value} {k : Nat} {l : List Value}, w.heap[g]? = some (.cells cu 55 (0, 0)) → cu.toList.take k = l → ∀ j v, l[j]? = some v → w.cell? ⟨g, j, none⟩ = some v := by
    intro g cu k l hg hl j v hj
    rw [← hl, List.getElem?_take] at hj
    split at hj
    · simp only [World.cell?, hg]
      simpa using hj
    · cases hj
  have hfrz : ∀ {g : Nat} {cu : Array Value}, w.heap[g]? = some (.cells cu 55 (0, 0)) → ∀ j, w.frozen? ⟨g, j, none⟩ = false := by
    intro g cu hg j
    simp [World.frozen?, hg]
  have hlen : vs.length + cs.length = (m + n) * 4 := by omega
  have hcap : maxLen = 9223372036854775807 := rfl
  by_cases hroom : n + m ≤ c
  · have hfit : vs.length + cs.length ≤ cur.size := by omega
    refine (insert_shift b n c vb m vc cs vs w hn hm hroom (by omega) hvb hcl hvl (hcell hb hct) (fun j hj => ?_) (fun j hj => hfrz hb j) (hcell hv hvt) h1c h1v 55 55 cur2.size cur.size ?_ ?_ (by omega) (hfrz hv 0) (hfrz hv _)).mono ?_
    · have : j < cur.size := by omega
      simp [World.cell?, hb, this]
    · simp [World.shape?, hv]
    · simp [World.shape?, hb]
    rintro e w' ⟨rfl, rfl⟩
    have e1 : w.drew.setCells b (m * 4) cs = w.drew.setRow b (cur.toList.take vs.length ++ cs ++ cur.toList.drop (vs.length + cs.length)).toArray := by
      have := setCells_row b 55 cs (m * 4) w.drew cur hb (by omega)
      rw [← hvl] at this ⊢
      exact this
    have hb2 := setRow_heap w.drew b cur (cur.toList.take vs.length ++ cs ++ cur.toList.drop (vs.length + cs.length)).toArray 55 (0, 0) hb
    have e2 := setCells_row b 55 vs 0 (w.drew.setRow b (cur.toList.take vs.length ++ cs ++ cur.toList.drop (vs.length + cs.length)).toArray) _ hb2 (by simp; omega)
    rw [e1, e2, setRow_setRow]
    refine ⟨_, rfl, ⟨by rw [List.length_append, hlen], .inr ⟨b, c, _, by rw [Nat.add_comm n m], Nat.zero_le _, setRow_heap w.drew b cur _ 55 (0, 0) hb, by omega, hcm, ?_, ?_⟩⟩, ⟨_, _, _, rfl⟩, ?_, ?_, rfl, rfl, rfl, ?_⟩
    · simp
      omega
    · rw [← hlen]
      exact two_rows (cur := cur.toList) (by simpa using hfit)
    · intro g hg
      exact .inl (by simpa [Value.ownBlock] using hg.symm)
    · intro k hk hne
      exact setRow_other (w := w.drew) hne
    · rw [setRow_size]
      exact Nat.le_refl _
  · obtain ⟨z, hz⟩ := insert_grow b n c vb m vc cs vs w hn hm hnc (by omega) hbig hcl hvl (hcell hb hct) (hcell hv hvt) h1c h1v
    refine hz.mono ?_
    rintro e w' ⟨rfl, rfl, hz4⟩
    obtain ⟨G, hG⟩ : ∃ G, G = grownCap w (n + m) c 55 := ⟨_, rfl⟩
    rw [← hG]
    have hGn : n + m ≤ G := by rw [hG]; exact grownCap_ge w _ _ _
    have hGm : G ≤ maxLen := by rw [hG]; exact grownCap_le_maxLen w (n + m) c 55 (by omega)
    obtain ⟨ROW, hROW⟩ : ∃ ROW : Array Value, ROW = Builtin.zeroCells z (n + m) ++ Builtin.zeroCells z (G - (n + m)) := ⟨_, rfl⟩
    rw [← hROW]
    have hRs : ROW.size = G * 4 := by
      rw [hROW]
      simp [Builtin.zeroCells, hz4]
      omega
    have hfit : vs.length + cs.length ≤ ROW.size := by omega
    have hN : ((w.alloc (.cells ROW 55)).drew).heap[w.heap.size]? = some (.cells ROW 55 (0, 0)) := heap_alloc_new w _
    have e1 : (w.alloc (.cells ROW 55)).drew.setCells w.heap.size 0 vs = (w.alloc (.cells ROW 55)).drew.setRow w.heap.size (ROW.toList.take 0 ++ vs ++ ROW.toList.drop (0 + vs.length)).toArray := setCells_row w.heap.size 55 vs 0 _ ROW hN (by omega)
    have hb2 := setRow_heap (w.alloc (.cells ROW 55)).drew w.heap.size ROW (ROW.toList.take 0 ++ vs ++ ROW.toList.drop (0 + vs.length)).toArray 55 (0, 0) hN
    have e2 : (((w.alloc (.cells ROW 55)).drew.setRow w.heap.size (ROW.toList.take 0 ++ vs ++ ROW.toList.drop (0 + vs.length)).toArray).drew).setCells w.heap.size (m * 4) cs = (((w.alloc (.cells ROW 55)).drew.setRow w.heap.size (ROW.toList.take 0 ++ vs ++ ROW.toList.drop (0 + vs.length)).toArray).drew).setRow w.heap.size ((ROW.toList.take 0 ++ vs ++ ROW.toList.drop (0 + vs.length)).take vs.length ++ cs ++ (ROW.toList.take 0 ++ vs ++ ROW.toList.drop (0 + vs.length)).drop (vs.length + cs.length)).toArray := by
      have := setCells_row w.heap.size 55 cs (m * 4) (((w.alloc (.cells ROW 55)).drew.setRow w.heap.size (ROW.toList.take 0 ++ vs ++ ROW.toList.drop (0 + vs.length)).toArray).drew) _ hb2 (by simp; omega)
      rw [← hvl] at this ⊢
      exact this
    rw [e1, e2]
    refine ⟨_, rfl, ⟨by rw [List.length_append, hlen], .inr ⟨w.heap.size, G, _, by rw [Nat.add_comm n m], Nat.zero_le _, setRow_heap (((w.alloc (.cells ROW 55)).drew.setRow w.heap.size (ROW.toList.take 0 ++ vs ++ ROW.toList.drop (0 + vs.length)).toArray).drew) w.heap.size _ _ 55 (0, 0) hb2, by omega, hGm, ?_, ?_⟩⟩, ⟨_, _, _, rfl⟩, ?_, ?_, rfl, rfl, rfl, ?_⟩
    · simp
      omega
    · rw [← hlen]
      exact two_rows' (cur := ROW.toList) (by simpa using hfit)
    · intro g hg
      have : w.heap.size = g := by simpa [Value.ownBlock] using hg
      exact .inr (by omega)
    · intro k hk hne
      have hk2 : k ≠ w.heap.size := by omega
      rw [setRow_other hk2]
      show ((w.alloc (.cells ROW 55)).drew.setRow w.heap.size _).heap[k]? = _
      rw [setRow_other hk2]
      show (w.heap.push _)[k]? = _
      rw [Array.getElem?_push_lt hk, Array.getElem?_eq_getElem hk]
    · rw [setRow_size]
      show w.heap.size ≤ ((w.alloc (.cells ROW 55)).drew.setRow w.heap.size _).heap.size
      rw [setRow_size]
      show w.heap.size ≤ (w.heap.push _).size
      rw [Array.size_push]
      omega
set_option maxRecDepth 100000 in
theorem insert_sound : ∀ (args : List SV) (tab : Tab) (z : (Sh.pair (.row 55 tDOp false) .unit).den × Sh.unit.den), insertPrim 55 tDOp 56 args tab = some z → SoundAt Try.prog { g := 92, fn := Try.f92, sh := .pair (.row 55 tDOp false) .unit, bx := .unit, own := [true, false, true], live := [], prim := some (insertPrim 55 tDOp 56) } args tab z := by
  intro args tab z hz
  unfold insertPrim at hz
  split at hz
  · rename_i i e1 s1 xs e2 s2 ys
    rw [Option.bind_eq_some_iff] at hz
    obtain ⟨xs', hxs, hz⟩ := hz
    rw [Option.bind_eq_some_iff] at hz
    obtain ⟨ys', hys, hz⟩ := hz
    obtain ⟨hty, hxs⟩ := cast_eq hxs
    cases hty
    have hxs : xs = xs' := hxs
    subst hxs
    obtain ⟨hty, hys⟩ := cast_eq hys
    cases hty
    have hys : ys = ys' := hys
    subst hys
    split at hz
    · rename_i hcond
      obtain ⟨hi, hx0, hy0, hbig⟩ := hcond
      cases hz
      intro hcanon w γ Pr us hI hlim N hN vs u n bs u' n' ub hm1 hm2 hub
      cases hm1
      cases hm2
      cases hub
      have hN : 2 ≤ N := hN
      obtain ⟨v0, css0, hγ0, hels0, hown0, _⟩ := hI.res 0 (.row 55 tDOp xs false) rfl
      obtain ⟨v1, css1, hγ1, hels1, hown1, _⟩ := hI.res 1 (.row 55 tDOp ys false) rfl
      have hsl := hI.slots
      cases hsl with
      | cons h1 hk =>
      cases hk with
      | cons h2 hk =>
      cases hk with
      | cons h3 hk =>
      cases hk
      rename_i u1 u2 u3
      cases h1 with
      | row h1 =>
      rw [hγ0] at h1
      cases h1
      cases h3 with
      | row h3 =>
      rw [hγ1] at h3
      cases h3
      cases h2 with
      | val h2 =>
      have h2 : _ = [Value.int .i64 i] := h2
      subst h2
      have hi : i = 0 := hi
      subst hi
      rcases hown0.2 with ⟨_, h0⟩ | ⟨g0, cap0, cur0, rfl, _, hheap0, hnc0, hcm0, hcs0, htake0⟩
      · omega
      rcases hown1.2 with ⟨_, h0⟩ | ⟨g1, cap1, cur1, rfl, _, hheap1, hnc1, hcm1, hcs1, htake1⟩
      · omega
      have hne : g1 ≠ g0 := by
        have := hI.apart 0 1 (.row 55 tDOp xs false) (.row 55 tDOp ys false) g0 rfl rfl (by decide) (by simp [blk, hγ0, Value.ownBlock])
        simpa [blk, hγ1, Value.ownBlock] using this
      have hX0 : Xof [(0, Res.row 55 tDOp xs false), (1, Res.row 55 tDOp ys false)] γ g0 := ⟨0, _, rfl, by simp [blk, hγ0, Value.ownBlock]⟩
      have hloose : ∀ o, ¬ Pr g0 o := fun o ho => hI.loose 0 (.row 55 tDOp xs false) g0 rfl (by simp [blk, hγ0, Value.ownBlock]) o ho
      have hflen0 : css0.flatten.length = xs.length * 4 := hels0.flat
      have hflen1 : css1.flatten.length = ys.length * 4 := hels1.flat
      have hone : ∀ {css : List (List Value)} {zs : List tDOp.den}, Els (Ln Pr w) tDOp zs css → ∀ v ∈ css.flatten, v.oneCell' = true := by
        intro css zs h v hv
        rw [(Els_enc (t := tDOp) rfl).1 h] at hv
        obtain ⟨l, hl, hvl⟩ := List.mem_flatten.1 hv
        obtain ⟨x, _, rfl⟩ := List.mem_map.1 hl
        exact enc_one (t := tDOp) rfl x v hvl
      refine (insert_any g0 xs.length cap0 g1 ys.length cap1 css0.flatten css1.flatten w cur0 cur1 hx0 hy0 hbig hne hflen0 hflen1 hheap0 hnc0 hcm0 hcs0 htake0 hheap1 hnc1 hcs1 htake1 (hone hels0) (hone hels1)).mono ?_
      rintro e' w' ⟨v', rfl, hrow, hslice, hblk', hfrm, hos, htp, hout, hsize⟩
      have hnew : ∀ r x, newG [(N, some (Res.row 55 tDOp (ys ++ xs) false))] r = some x → r = N ∧ x = .row 55 tDOp (ys ++ xs) false := by
        intro r x h
        have h' : (if r = N then some (Res.row 55 tDOp (ys ++ xs) false) else none) = some x := h
        by_cases hr : r = N
        · rw [if_pos hr] at h'
          exact ⟨hr, (Option.some.inj h').symm⟩
        · rw [if_neg hr] at h'
          cases h'
      have hbl : ∀ b, blk (fun r => if r = N then some (.row 55 tDOp v') else none) N (.row 55 tDOp (ys ++ xs) false) = some b → b = g0 ∨ w.heap.size ≤ b := by
        intro b hb
        refine hblk' b ?_
        simpa [blk] using hb
      refine ⟨[v'], (fun r => if r = N then some (.row 55 tDOp v') else none), Pr, rfl, ?_, fun p hp => by simp [comes] at hp⟩
      refine ⟨.cons (.row (if_pos rfl)) .nil, ?_, ?_, ?_, ?_, ?_, ?_, ?_, ?_, ?_, hsize, hos, htp, hout, ?_, ?_, ?_⟩
      · intro r g hr
        by_cases h : r = N
        · rw [if_pos h] at hr
          cases hr
          obtain ⟨A, k, c, rfl⟩ := hslice
          exact ⟨⟨by omega, by omega⟩, .inl ⟨_, _, A, k, c, rfl⟩⟩
        · rw [if_neg h] at hr
          cases hr
      · intro j t' c hj
        rcases j with _ | _ | j <;> simp at hj
      · intro r x h
        obtain ⟨rfl, rfl⟩ := hnew r x h
        refine ⟨Nat.le_refl _, Nat.lt_succ_self _, v', css1 ++ css0, if_pos rfl, ?_, ?_, fun h => by cases h⟩
        · refine Els_app ?_ ?_
          · exact (Els_enc (t := tDOp) rfl).2 ((Els_enc (t := tDOp) rfl).1 hels1)
          · exact (Els_enc (t := tDOp) rfl).2 ((Els_enc (t := tDOp) rfl).1 hels0)
        · rw [List.flatten_append, List.length_append]
          exact hrow
      · intro r r' x x' b h h' hne
        exact absurd ((hnew r x h).1.trans (hnew r' x' h').1.symm) hne
      · intro j t' c b hj
        rcases j with _ | _ | j <;> simp at hj
      · intro j t' c b hj
        rcases j with _ | _ | j <;> simp at hj
      · intro r x b h hb o ho
        obtain ⟨rfl, rfl⟩ := hnew r x h
        rcases hbl b hb with rfl | hge
        · exact absurd ho (hloose o)
        · have := hI.prIn b o ho
          omega
      · intro r x b h hb
        obtain ⟨rfl, rfl⟩ := hnew r x h
        rcases hbl b hb with rfl | hge
        · exact .inl hX0
        · exact .inr hge
      · intro k hk hx
        exact hfrm k hk fun e => hx (e ▸ hX0)
      · intro b o ho
        exact Nat.lt_of_lt_of_le (hI.prIn b o ho) hsize
      · exact fun b hb hx o ho => ho
      · intro b o v'' hv'
        refine ⟨hv'.1, ?_⟩
        rw [World.cell?_of_block (hfrm b (hI.prIn b o hv'.1) (fun e => hloose o (e ▸ hv'.1)))]
        exact hv'.2
    · cases hz
  · cases hz
theorem insert_ok : ∀ (args : List SV) (tab : Tab) (z : I92.sh.den × I92.bx.den), insertPrim 55 tDOp 56 args tab = some z → SoundAt Try.prog I92 args tab z := insert_sound
end Go.Proofs.Ytcfnhfbaakflgaa.Abs
