/- slices.Insert at operations, at the front: walked. -/
import Derived.Shelf.Spec.SlicesInsertGrow
import Derived.Test.YtcfnhfbaakflgaaProg
import Derived.KernelRfl
set_option linter.unusedVariables false
set_option linter.unusedSimpArgs false
namespace Go.Proofs
open Go.Shelf Go.RowKit Go.Lib

/-- A copy of elements of several cells. -/
theorem Ytcfnhfbaakflgaa.Abs.copyK {P : Program} (w : World) (dT sT ty elem : TypeId) (k : Nat) (b o dLen dCap : Nat) (a : Addr) (sLen sCap : Nat) (cs : List Value)
    (hu : P.underlying dT = some (.slice elem)) (hs : (P.info? elem).map (·.size) = some k) (q : Nat) (hq : q = Nat.min sLen dLen) (hn : cs.length = q * k)
    (hsrc : ∀ j v, cs[j]? = some v → w.cell? (a.add j) = some v) (hc : ∀ j, j < cs.length → (w.cell? ⟨b, o + j, none⟩).isSome = true) (hf : ∀ j, j < cs.length → w.frozen? ⟨b, o + j, none⟩ = false) (h1 : ∀ v ∈ cs, v.oneCell' = true) :
    (Builtin.copy_ #[dT, sT] ty #[.slice (some ⟨b, o, none⟩) dLen dCap, .slice (some a) sLen sCap]).run P w = .ok (goInt q) (w.setCells b o cs) := by
  have hl := run_loadCells_list (P := P) w a cs hsrc
  have hst := run_storeCells_cells (P := P) b o cs 0 w (by simpa using hc) (by simpa using hf) h1
  cases hq2 : P.info? elem with
  | none => simp [hq2] at hs
  | some i =>
    have hi : i.size = k := by simpa [hq2] using hs
    rw [hn] at hl
    simp [Builtin.copy_, run_underlying hu, Builtin.lenOf, Builtin.firstCells, sizeOf, typeInfo, hq2, hi, ← hq, hl, hst]
set_option maxHeartbeats 4000000 in
set_option maxRecDepth 100000 in
/-- No room: a new row. -/
theorem Ytcfnhfbaakflgaa.Abs.insert_grow (b n c vb m vc : Nat) (cs vs : List Value) (w : World) (hn : 0 < n) (hm : 0 < m) (hnc : n ≤ c) (hroom : c < n + m) (hbig : (n + m) * 56 ≤ 140737488355328)
    (hcl : cs.length = n * 4) (hvl : vs.length = m * 4)
    (hcs : ∀ j v, cs[j]? = some v → w.cell? ⟨b, j, none⟩ = some v)
    (hvs : ∀ j v, vs[j]? = some v → w.cell? ⟨vb, j, none⟩ = some v) (h1c : ∀ v ∈ cs, v.oneCell' = true) (h1v : ∀ v ∈ vs, v.oneCell' = true) :
    ∃ z : Array Value, Calls Try.prog 92 #[.slice (some ⟨b, 0, none⟩) n c, .int .i64 0, .slice (some ⟨vb, 0, none⟩) m vc] w fun e w' =>
      e = .returned (.slice (some ⟨w.heap.size, 0, none⟩) (n + m) (grownCap w (n + m) c 55)) ∧
      w' = (((w.alloc (.cells (Builtin.zeroCells z (n + m) ++ Builtin.zeroCells z (grownCap w (n + m) c 55 - (n + m))) 55)).drew.setCells w.heap.size 0 vs).drew).setCells w.heap.size (m * 4) cs ∧ z.size = 4 := by
  have L33 := Try.underlying33
  have L3 : Try.prog.underlying 3 = some (.int .i64) := by kernel_rfl
  have u33 := run_underlying L33
  have u3 := run_underlying L3
  obtain ⟨i0, hi0⟩ : ∃ i0, Try.prog.info? 55 = some i0 := ⟨_, rfl⟩
  have hzs : i0.size = 4 := by
    have : (Try.prog.info? 55).map (·.size) = some 4 := by kernel_rfl
    rw [hi0] at this
    simpa using this
  have hzb : i0.bytes = 56 := by
    have : (Try.prog.info? 55).map (·.bytes) = some 56 := by kernel_rfl
    rw [hi0] at this
    simpa using this
  obtain ⟨z0, hz0, hz4⟩ : ∃ z0, i0.zero = some z0 ∧ z0.cells.size = 4 := by
    have : ((Try.prog.info? 55).bind (·.zero)).map (·.cells.size) = some 4 := by kernel_rfl
    rw [hi0] at this
    simp only [Option.bind_some, Option.map_eq_some_iff] at this
    obtain ⟨a, h1, h2⟩ := this
    exact ⟨a, h1, h2⟩
  refine ⟨z0.cells, ?_⟩
  have hz1 : ¬ ((m : Int) = 0) := by omega
  have hz2 : ¬ ((0 : Int) = (n : Int)) := by omega
  have hz3 : (c : Int) < (n : Int) + (m : Int) := by omega
  have hsz : (Try.prog.info? 55).map (·.size) = some 4 := by rw [hi0]; simp [hzs]
  have hbw : b < w.heap.size := block_lt_of_cell (hcs 0 _ (List.getElem?_eq_getElem (by omega)))
  have hvw : vb < w.heap.size := block_lt_of_cell (hvs 0 _ (List.getElem?_eq_getElem (by omega)))
  have hold : (Builtin.firstCells i0.size 0 (.slice (some ⟨b, 0, none⟩) 0 c)).run Try.prog w.drew = .ok (([] : List Value)).toArray w.drew := by
    show (loadCells ⟨b, 0, none⟩ (0 * i0.size)).run Try.prog w.drew = _
    rw [Nat.zero_mul]
    exact run_loadCells_list (P := Try.prog) w.drew ⟨b, 0, none⟩ [] (fun j v h => by simp at h)
  obtain ⟨G, hG⟩ : ∃ G, G = grownCap w (n + m) c 55 := ⟨_, rfl⟩
  have hrz : ∀ ty, (Builtin.append_ #[33, 3] ty #[.slice (some ⟨b, 0, none⟩) 0 c, .int .i64 ((n : Int) + (m : Int))]).run Try.prog w =
      .ok (.slice (some ⟨w.heap.size, 0, none⟩) (n + m) G) (w.drew.alloc (.cells (Builtin.zeroCells z0.cells (n + m) ++ Builtin.zeroCells z0.cells (G - (n + m))) 55)) := fun ty => by
    have h := Lib.run_append_grow_zeros w 33 3 ty 55 i0 z0 .i64 .i64 L33 L3 hi0 hz0 (some ⟨b, 0, none⟩) 0 c [] hold (n + m) (by omega) (by omega) (by omega) (by omega) (by rw [hzb]; omega) (by rw [hzb, Nat.zero_add]; exact growslice_fits hroom hbig)
    rw [Nat.zero_add, ← hG] at h
    have e : ((n : Int) + (m : Int)) = ((n + m : Nat) : Int) := by omega
    rw [e, h]
    simp
  rw [← hG]
  obtain ⟨ROW, hROW⟩ : ∃ ROW : Array Value, ROW = Builtin.zeroCells z0.cells (n + m) ++ Builtin.zeroCells z0.cells (G - (n + m)) := ⟨_, rfl⟩
  rw [← hROW] at hrz ⊢
  have hRl : (n + m) * 4 ≤ ROW.size := by
    rw [hROW]
    simp [Builtin.zeroCells, hz4]
  obtain ⟨W1, hW1⟩ : ∃ W1, W1 = w.drew.alloc (.cells ROW 55) := ⟨_, rfl⟩
  rw [← hW1] at hrz
  have hN : ∀ j, j < (n + m) * 4 → (W1.cell? ⟨w.heap.size, j, none⟩).isSome = true := fun j hj => by
    rw [hW1, World.cell?_alloc_at (w := w.drew) ROW _ w.heap.size j rfl, Array.getElem?_eq_getElem (by omega)]; rfl
  have hNf : ∀ j, W1.frozen? ⟨w.heap.size, j, none⟩ = false := fun j => by rw [hW1]; exact World.frozen?_alloc_at (w := w.drew) ROW _ w.heap.size j rfl
  have hOb : ∀ j v, w.cell? ⟨b, j, none⟩ = some v → W1.cell? ⟨b, j, none⟩ = some v := fun j v h => by rw [hW1, World.cell?_alloc_past (w := w.drew) _ b j hbw]; exact h
  have hOv : ∀ j v, w.cell? ⟨vb, j, none⟩ = some v → W1.cell? ⟨vb, j, none⟩ = some v := fun j v h => by rw [hW1, World.cell?_alloc_past (w := w.drew) _ vb j hvw]; exact h
  have hcpA : ∀ (W : World), (∀ x, W.cell? x = W1.cell? x) → (∀ x, W.frozen? x = W1.frozen? x) → ∀ ty dc, (Builtin.copy_ #[33, 33] ty #[.slice (some ⟨w.heap.size, 0, none⟩) (n + m) dc, .slice (some ⟨vb, 0, none⟩) m vc]).run Try.prog W = .ok (goInt m) (W.setCells w.heap.size 0 vs) := fun W hWc hWf ty dc =>
    Ytcfnhfbaakflgaa.Abs.copyK W _ _ ty 55 4 w.heap.size 0 (n + m) dc ⟨vb, 0, none⟩ m vc vs L33 hsz m (by simp only [Nat.min_def]; split <;> omega) hvl
      (fun j v hj => by rw [Addr.add_lit, hWc, Nat.zero_add]; exact hOv _ v (hvs j v hj))
      (fun j hj => by rw [hWc, Nat.zero_add]; exact hN _ (by omega)) (fun j hj => by rw [hWf, Nat.zero_add]; exact hNf _) h1v
  have hGn : n + m ≤ G := by rw [hG]; exact grownCap_ge w _ _ _
  have hG63 : G ≤ 9223372036854775807 := by
    have := grownCap_le_maxLen w (n + m) c 55 (by unfold maxLen; omega)
    rw [← hG] at this
    unfold maxLen at this
    omega
  have hGi : ¬ (G = 0) := by omega
  have hGim : ¬ (G = m) := by omega
  have hci : ¬ (c = 0) := by omega
  have hbN : b ≠ w.heap.size := by omega
  have hcpB : ∀ (W : World), (∀ x, W.cell? x = (W1.setCells w.heap.size 0 vs).cell? x) → (∀ x, W.frozen? x = (W1.setCells w.heap.size 0 vs).frozen? x) → ∀ ty dc sc, (Builtin.copy_ #[33, 33] ty #[.slice (some ⟨w.heap.size, m * 4, none⟩) (n + m - m) dc, .slice (some ⟨b, 0, none⟩) n sc]).run Try.prog W = .ok (goInt n) (W.setCells w.heap.size (m * 4) cs) := fun W hWc hWf ty dc sc =>
    Ytcfnhfbaakflgaa.Abs.copyK W _ _ ty 55 4 w.heap.size (m * 4) (n + m - m) dc ⟨b, 0, none⟩ n sc cs L33 hsz n (by simp only [Nat.min_def]; split <;> omega) hcl
      (fun j v hj => by
        rw [Addr.add_lit, hWc, World.cell?_setCells_out _ _ _ _ _ (fun h _ => absurd h hbN), Nat.zero_add]
        exact hOb _ v (hcs j v hj))
      (fun j hj => by rw [hWc]; exact isSome_setCells _ _ _ _ (fun t ht => hN _ (by omega)) _ (hN _ (by omega)))
      (fun j hj => by rw [hWf, World.frozen?_setCells]; exact hNf _) h1c
  subst hW1
  have hE1 : ∀ x, ((w.alloc (.cells ROW 55)).drew).cell? x = (w.drew.alloc (.cells ROW 55)).cell? x := fun x => rfl
  have hE2 : ∀ x, ((w.alloc (.cells ROW 55)).drew).frozen? x = (w.drew.alloc (.cells ROW 55)).frozen? x := fun x => rfl
  have hF1 : ∀ x, (((w.alloc (.cells ROW 55)).drew.setCells w.heap.size 0 vs).drew).cell? x = ((w.drew.alloc (.cells ROW 55)).setCells w.heap.size 0 vs).cell? x := fun x => rfl
  have hF2 : ∀ x, (((w.alloc (.cells ROW 55)).drew.setCells w.heap.size 0 vs).drew).frozen? x = ((w.drew.alloc (.cells ROW 55)).setCells w.heap.size 0 vs).frozen? x := fun x => rfl
  have hb1 : (0 : Int) ≤ (m : Int) := by omega
  have hin : (0 : Int) ≤ n := by omega
  have htn : ((m : Int)).toNat = m := by omega
  have hw1 : IntKind.i64.wrap (m : Int) = (m : Int) := by rw [IntKind.wrap_i64]; omega
  have hb3 : (m : Int) ≤ (n : Int) + (m : Int) := by omega
  have mixed : Try.prog.follows .mixedOrders = true := by kernel_rfl
  have z55 := Try.sizeOf55
  clear hold hROW hG hRl
  go_enter Try.func92, Try.ntmps92
  go_wp2_with (first
    | (at_builtin; refine Lib.wpList_append_run _ rfl _ _ _ _ rfl _ _ rfl rfl _ _ (hrz _) ?_)
    | (at_builtin; refine wpList_copy_runI _ rfl _ _ 33 33 rfl _ _ rfl rfl (hcpA _ hE1 hE2 _ _) ?_)
    | (at_builtin; refine wpList_copy_runI _ rfl _ _ 33 33 rfl _ _ rfl rfl (hcpB _ (fun _ => rfl) (fun _ => rfl) _ _ _) ?_))
  go_region_law_o (refine step_copy_runI rfl _ _ 33 33 rfl (.slice (some ⟨w.heap.size, m * 4, none⟩) (n + m - m) (G - m)) (.slice (some ⟨b, 0, none⟩) n c) (by simp [Act.eval, Act.put]) (by simp [Act.eval, Act.put]) (hcpB _ hF1 hF2 3 (G - m) c) ?_)
  go_wp2
  go_ret
  exact ⟨rfl, rfl, hz4⟩
set_option maxHeartbeats 4000000 in
set_option maxRecDepth 100000 in
/-- Room: in place. -/
theorem Ytcfnhfbaakflgaa.Abs.insert_shift (b n c vb m vc : Nat) (cs vs : List Value) (w : World) (hn : 0 < n) (hm : 0 < m) (hroom : n + m ≤ c) (hc63 : c ≤ 9223372036854775807) (hvb : vb ≠ b)
    (hcl : cs.length = n * 4) (hvl : vs.length = m * 4)
    (hcs : ∀ j v, cs[j]? = some v → w.cell? ⟨b, j, none⟩ = some v) (hsp : ∀ j, j < (n + m) * 4 → (w.cell? ⟨b, j, none⟩).isSome = true) (hfz : ∀ j, j < (n + m) * 4 → w.frozen? ⟨b, j, none⟩ = false)
    (hvs : ∀ j v, vs[j]? = some v → w.cell? ⟨vb, j, none⟩ = some v) (h1c : ∀ v ∈ cs, v.oneCell' = true) (h1v : ∀ v ∈ vs, v.oneCell' = true)
    (tA tB : TypeId) (kA kB : Nat) (hsa : w.shape? vb = some (tA, kA)) (hsb : w.shape? b = some (tB, kB)) (hkB : kB ≠ 0) (hfa : w.frozen? ⟨vb, 0, none⟩ = false) (hfe : w.frozen? ⟨vb, kA, none⟩ = false) :
    Calls Try.prog 92 #[.slice (some ⟨b, 0, none⟩) n c, .int .i64 0, .slice (some ⟨vb, 0, none⟩) m vc] w fun e w' =>
      e = .returned (.slice (some ⟨b, 0, none⟩) (n + m) c) ∧ w' = (w.drew.setCells b (m * 4) cs).setCells b 0 vs := by
  have L33 := Try.underlying33
  have L3 : Try.prog.underlying 3 = some (.int .i64) := by kernel_rfl
  have u33 := run_underlying L33
  have u3 := run_underlying L3
  have hz1 : ¬ ((m : Int) = 0) := by omega
  have hz2 : ¬ ((0 : Int) = (n : Int)) := by omega
  have hz3 : ¬ (c : Int) < (n : Int) + (m : Int) := by omega
  have hsz : (Try.prog.info? 55).map (·.size) = some 4 := by kernel_rfl
  have z55 := Try.sizeOf55
  have hov : ∀ lb cb, (callFunc 116 #[.slice (some ⟨vb, 0, none⟩) m vc, .slice (some ⟨b, m * 4, none⟩) lb cb]).run Try.prog w = .ok (.value (.bool false)) w := fun lb cb => by
    rw [run_callFunc_extern Try.func116 (by kernel_rfl) (by kernel_rfl) (by kernel_rfl) (e := Extern.SlicesOverlaps.overlaps #[33, 33] #[4]) (by kernel_rfl),
      Lib.run_overlaps_apart w 33 4 55 L33 4 z55 ⟨vb, 0, none⟩ ⟨b, m * 4, none⟩ m vc lb cb hvb tA tB kA kB hsa hsb hkB hfa hfe]
    rfl
  have mixed : Try.prog.follows .mixedOrders = true := by kernel_rfl
  have hw1 : IntKind.i64.wrap (m : Int) = (m : Int) := by rw [IntKind.wrap_i64]; omega
  have hw2 : IntKind.i64.wrap ((n : Int) + (m : Int)) = (n : Int) + (m : Int) := by rw [IntKind.wrap_i64]; omega
  have hb1 : (0 : Int) ≤ (m : Int) := by omega
  have hin : (0 : Int) ≤ n := by omega
  have htn : ((m : Int)).toNat = m := by omega
  have htn2 : ((n : Int) + (m : Int)).toNat = n + m := by omega
  have hb2 : ¬ (c = m) := by omega
  have hb3 : (m : Int) ≤ (n : Int) + (m : Int) := by omega
  have hb4 : ¬ (c = 0) := by omega
  have hb5 : (0 : Int) ≤ (n : Int) + (m : Int) := by omega
  have hb6 : (n : Int) + (m : Int) ≤ (c : Int) := by omega
  have hcp1 : ∀ ty dc sc, (Builtin.copy_ #[33, 33] ty #[.slice (some ⟨b, m * 4, none⟩) n dc, .slice (some ⟨b, 0, none⟩) (n + m) sc]).run Try.prog w.drew = .ok (goInt n) (w.drew.setCells b (m * 4) cs) := fun ty dc sc =>
    Ytcfnhfbaakflgaa.Abs.copyK w.drew _ _ ty 55 4 b (m * 4) n dc ⟨b, 0, none⟩ (n + m) sc cs L33 hsz n (by simp only [Nat.min_def]; split <;> omega) hcl
      (fun j v hj => by rw [Addr.add_lit, Nat.zero_add]; exact hcs j v hj)
      (fun j hj => hsp _ (by omega)) (fun j hj => hfz _ (by omega)) h1c
  obtain ⟨W1, hW1⟩ : ∃ W1, W1 = w.drew.setCells b (m * 4) cs := ⟨_, rfl⟩
  have hsp1 : ∀ k, k < (n + m) * 4 → (W1.cell? ⟨b, k, none⟩).isSome = true := fun k hk => by
    rw [hW1]
    exact isSome_setCells b cs (m * 4) w.drew (fun j hj => hsp _ (by omega)) _ (hsp k hk)
  have hcp2 : ∀ (W : World), (∀ x, W.cell? x = W1.cell? x) → (∀ x, W.frozen? x = W1.frozen? x) → ∀ ty dc, (Builtin.copy_ #[33, 33] ty #[.slice (some ⟨b, 0, none⟩) (n + m) dc, .slice (some ⟨vb, 0, none⟩) m vc]).run Try.prog W = .ok (goInt m) (W.setCells b 0 vs) := fun W hWc hWf ty dc =>
    Ytcfnhfbaakflgaa.Abs.copyK W _ _ ty 55 4 b 0 (n + m) dc ⟨vb, 0, none⟩ m vc vs L33 hsz m (by simp only [Nat.min_def]; split <;> omega) hvl
      (fun j v hj => by
        rw [Addr.add_lit, hWc, hW1, World.cell?_setCells_out b _ _ _ _ (fun h _ => absurd h hvb), Nat.zero_add]
        exact hvs j v hj)
      (fun j hj => by rw [hWc, Nat.zero_add]; exact hsp1 _ (by omega)) (fun j hj => by rw [hWf, hW1, World.frozen?_setCells, Nat.zero_add]; exact hfz _ (by omega)) h1v
  rw [← hW1] at hcp1
  go_enter Try.func92, Try.ntmps92
  go_wp2_with (simp only [hov])
  go_region_law_o (refine step_copy_runI rfl _ _ 33 33 rfl _ _ (by simp [Act.eval, Act.put]) (by simp [Act.eval, Act.put]) (hcp1 _ _ _) ?_)
  go_wp2_with (at_builtin; refine wpList_copy_runI _ rfl _ _ 33 33 rfl _ _ rfl rfl (hcp2 _ (fun _ => rfl) (fun _ => rfl) _ _) ?_)
  go_ret
  first | exact ⟨rfl, rfl⟩ | exact ⟨rfl, by rw [hW1]⟩
end Go.Proofs
