/- The draws of disks. -/
import Derived.Test.YtcfnhfbaakflgaaAbsPDisk8
import Derived.Laws.BytesArg
set_option linter.unusedVariables false
set_option linter.unusedSimpArgs false
namespace Go.Proofs.Ytcfnhfbaakflgaa.Abs
open Go

/-- A reader of bytes. -/
structure Rok (r : dl1Rd) : Prop where
  hl : r.1.length ≤ 1048576
  he : ∀ b ∈ r.1, 0 ≤ b ∧ b ≤ 255
  h0 : 0 ≤ r.2.1 ∧ r.2.1 ≤ 1048576
theorem next_val {xs : List Int} {i : Int} (he : ∀ b ∈ xs, 0 ≤ b ∧ b ≤ 255) (h0 : 0 ≤ i) (h1 : i < (xs.length : Int)) : 0 ≤ List.getD xs i.toNat 0 ∧ List.getD xs i.toNat 0 ≤ 255 := by
  refine he _ ?_
  rw [List.getD_eq_getElem?_getD, List.getElem?_eq_getElem (by omega), Option.getD_some]
  exact List.getElem_mem _
theorem s96 {r : dl1Rd} (h : Rok r) : ∃ b r', Ev (fun k => c96 k r) ((b, ()), (r', ())) ∧ 0 ≤ b ∧ b ≤ 255 ∧ Rok r' := by
  by_cases hx : r.2.1 ≥ (r.1.length : Int)
  · refine ⟨0, r, Ev.eqn 12 (fun k => c96_eq k r) ?_, by decide, by decide, h⟩
    simp only [hx, decide_true, if_true]
    exact Ev.now
  · have h1 := h.h0
    have h2 := h.hl
    have hw : IntKind.i64.wrap (r.2.1 + 1) = r.2.1 + 1 := wr (by omega) (by omega)
    have hw2 : IntKind.i64.wrap (r.2.1 + 1 - 1) = r.2.1 := by rw [wr (by omega) (by omega)]; omega
    have hv := next_val h.he h1.1 (by omega : r.2.1 < (r.1.length : Int))
    have hlt : r.2.1 < (r.1.length : Int) := by omega
    refine ⟨List.getD r.1 r.2.1.toNat 0, (r.1, r.2.1 + 1, ()), Ev.eqn 12 (fun k => c96_eq k r) ?_, hv.1, hv.2, ⟨h.hl, h.he, by simp only; omega⟩⟩
    simp only [hx, decide_false, Bool.false_eq_true, if_false, hw, hw2, h1.1, hlt, if_true]
    rw [wr (by omega) (by omega)]
    exact Ev.now
theorem s96' {x1 : List Int} {x2 : Int} (h : Rok (x1, x2, ())) : ∃ b r', Ev (fun k => c96' k x1 x2) ((b, ()), (r', ())) ∧ 0 ≤ b ∧ b ≤ 255 ∧ Rok r' := by
  have h1 : 0 ≤ x2 ∧ x2 ≤ 1048576 := h.h0
  have h2 : x1.length ≤ 1048576 := h.hl
  by_cases hx : x2 ≥ (x1.length : Int)
  · refine ⟨0, (x1, x2, ()), Ev.eqn 12 (fun k => c96'_eq k x1 x2) ?_, by decide, by decide, h⟩
    simp only [hx, decide_true, if_true]
    exact Ev.now
  · have hw : IntKind.i64.wrap (x2 + 1) = x2 + 1 := wr (by omega) (by omega)
    have hw2 : IntKind.i64.wrap (x2 + 1 - 1) = x2 := by rw [wr (by omega) (by omega)]; omega
    have hv := next_val h.he h1.1 (by omega : x2 < (x1.length : Int))
    have hlt : x2 < (x1.length : Int) := by omega
    refine ⟨List.getD x1 x2.toNat 0, (x1, x2 + 1, ()), Ev.eqn 12 (fun k => c96'_eq k x1 x2) ?_, hv.1, hv.2, ⟨h.hl, h.he, by simp only; omega⟩⟩
    simp only [hx, decide_false, Bool.false_eq_true, if_false, hw, hw2, h1.1, hlt, if_true]
    have hv' : 0 ≤ List.getD x1 x2.toNat 0 ∧ List.getD x1 x2.toNat 0 ≤ 255 := hv
    rw [wr (by omega) (by omega)]
    exact Ev.now
theorem tmod_in {b n : Int} (h0 : 0 ≤ b) (hn : 1 ≤ n) : 0 ≤ Int.tmod b n ∧ Int.tmod b n < n := by
  rw [Int.tmod_eq_emod_of_nonneg h0]
  exact ⟨Int.emod_nonneg _ (by omega), Int.emod_lt_of_pos _ (by omega)⟩
theorem s58 {n : Int} {r : dl1Rd} (h : Rok r) (hn : n ≤ 65536) : ∃ b r', Ev (fun k => c58 k n r) ((b, ()), (r', ())) ∧ 0 ≤ b ∧ (1 ≤ n → b < n) ∧ (n ≤ 1 → b = 0) ∧ Rok r' := by
  by_cases h1 : n ≤ 1
  · refine ⟨0, r, Ev.eqn 19 (fun k => c58_eq k n r) ?_, by decide, fun _ => by omega, fun _ => rfl, h⟩
    simp only [h1, decide_true, if_true]
    exact Ev.now
  · have hn0 : ¬ n = 0 := by omega
    obtain ⟨b1, r1, e1, p1, q1, k1⟩ := s96 h
    by_cases h2 : n ≤ 256
    · obtain ⟨m1, m2⟩ := tmod_in (b := b1) (n := n) p1 (by omega)
      refine ⟨Int.tmod b1 n, r1, Ev.eqn 19 (fun k => c58_eq k n r) ?_, m1, fun _ => m2, fun h => absurd h h1, k1⟩
      simp only [h1, h2, decide_false, Bool.false_eq_true, if_false, decide_true, if_true]
      refine Ev.bind (Ev.later e1 _) ?_
      simp only [hn0, if_false]
      exact Ev.now
    · obtain ⟨b2, r2, e2, p2, q2, k2⟩ := s96 k1
      have hw : IntKind.i64.wrap (b1 * 256) = b1 * 256 := wr (by omega) (by omega)
      have hw2 : IntKind.i64.wrap (b1 * 256 + b2) = b1 * 256 + b2 := wr (by omega) (by omega)
      obtain ⟨m1, m2⟩ := tmod_in (b := b1 * 256 + b2) (n := n) (by omega) (by omega)
      refine ⟨Int.tmod (b1 * 256 + b2) n, r2, Ev.eqn 19 (fun k => c58_eq k n r) ?_, m1, fun _ => m2, fun h => absurd h h1, k2⟩
      simp only [h1, h2, decide_false, Bool.false_eq_true, if_false]
      refine Ev.bind (Ev.later e1 _) ?_
      refine Ev.bind (Ev.later e2 _) ?_
      simp only [hn0, if_false, hw, hw2]
      exact Ev.now
theorem s58' {n : Int} {x1 : List Int} {x2 : Int} (h : Rok (x1, x2, ())) (hn : n ≤ 65536) : ∃ b r', Ev (fun k => c58' k n x1 x2) ((b, ()), (r', ())) ∧ 0 ≤ b ∧ (1 ≤ n → b < n) ∧ (n ≤ 1 → b = 0) ∧ Rok r' := by
  by_cases h1 : n ≤ 1
  · refine ⟨0, (x1, x2, ()), Ev.eqn 19 (fun k => c58'_eq k n x1 x2) ?_, by decide, fun _ => by omega, fun _ => rfl, h⟩
    simp only [h1, decide_true, if_true]
    exact Ev.now
  · have hn0 : ¬ n = 0 := by omega
    obtain ⟨b1, r1, e1, p1, q1, k1⟩ := s96' h
    by_cases h2 : n ≤ 256
    · obtain ⟨m1, m2⟩ := tmod_in (b := b1) (n := n) p1 (by omega)
      refine ⟨Int.tmod b1 n, r1, Ev.eqn 19 (fun k => c58'_eq k n x1 x2) ?_, m1, fun _ => m2, fun h => absurd h h1, k1⟩
      simp only [h1, h2, decide_false, Bool.false_eq_true, if_false, decide_true, if_true]
      refine Ev.bind (Ev.later e1 _) ?_
      simp only [hn0, if_false]
      exact Ev.now
    · obtain ⟨b2, r2, e2, p2, q2, k2⟩ := s96 k1
      have hw : IntKind.i64.wrap (b1 * 256) = b1 * 256 := wr (by omega) (by omega)
      have hw2 : IntKind.i64.wrap (b1 * 256 + b2) = b1 * 256 + b2 := wr (by omega) (by omega)
      obtain ⟨m1, m2⟩ := tmod_in (b := b1 * 256 + b2) (n := n) (by omega) (by omega)
      refine ⟨Int.tmod (b1 * 256 + b2) n, r2, Ev.eqn 19 (fun k => c58'_eq k n x1 x2) ?_, m1, fun _ => m2, fun h => absurd h h1, k2⟩
      simp only [h1, h2, decide_false, Bool.false_eq_true, if_false]
      refine Ev.bind (Ev.later e1 _) ?_
      refine Ev.bind (Ev.later e2 _) ?_
      simp only [hn0, if_false, hw, hw2]
      exact Ev.now
/-- One of a list. -/
theorem getD_in {α : Type} {l : List α} {i : Int} {d : α} (h0 : 0 ≤ i) (h1 : i < (l.length : Int)) : List.getD l i.toNat d ∈ l := by
  rw [List.getD_eq_getElem?_getD, List.getElem?_eq_getElem (by omega), Option.getD_some]
  exact List.getElem_mem _
theorem s59 {r : dl1Rd} (h : Rok r) : ∃ t r', Ev (fun k => c59 k r) ((t, ()), (r', ())) ∧ t.size ≤ 3 ∧ Rok r' := by
  obtain ⟨b, r1, e1, p1, q1, _, k1⟩ := s58 (n := 6) h (by decide)
  have q1 := q1 (by decide)
  have hm := getD_in (l := [(⟨#[]⟩ : ByteArray), (⟨#[97]⟩ : ByteArray), (⟨#[98]⟩ : ByteArray), (⟨#[97, 98]⟩ : ByteArray), (⟨#[97, 98, 99]⟩ : ByteArray), (⟨#[120, 32, 121]⟩ : ByteArray)]) (d := (⟨#[]⟩ : ByteArray)) p1 (by simp only [List.length_cons, List.length_nil]; omega)
  have hlt : b < (([(⟨#[]⟩ : ByteArray), (⟨#[97]⟩ : ByteArray), (⟨#[98]⟩ : ByteArray), (⟨#[97, 98]⟩ : ByteArray), (⟨#[97, 98, 99]⟩ : ByteArray), (⟨#[120, 32, 121]⟩ : ByteArray)] : List ByteArray).length : Int) := by simp only [List.length_cons, List.length_nil]; omega
  apply Exists.intro
  refine ⟨r1, Ev.eqn 5 (fun k => c59_eq k r) ?_, ?_, k1⟩
  · refine Ev.bind (Ev.later e1 _) ?_
    simp only [p1, hlt, if_true]
    exact Ev.now
  · generalize List.getD _ _ _ = t at hm
    simp only [List.mem_cons, List.not_mem_nil, or_false] at hm
    rcases hm with rfl | rfl | rfl | rfl | rfl | rfl <;> decide
theorem s91 {n : Int} {r : dl1Rd} (h : Rok r) (hn : n ≤ 65536) : ∃ b r', Ev (fun k => c91 k n r) ((b, ()), (r', ())) ∧ Rok r' := by
  obtain ⟨b, r1, e1, _, _, _, k1⟩ := s58 h hn
  refine ⟨_, r1, Ev.eqn 5 (fun k => c91_eq k n r) (Ev.bind (Ev.later e1 _) Ev.now), k1⟩
theorem s83 {r : dl1Rd} (h : Rok r) : ∃ o r', Ev (fun k => c83 k r) ((o, ()), (r', ())) ∧ o.2.2.2.1.size ≤ 3 ∧ Rok r' := by
  obtain ⟨b, r1, e1, p1, q1, _, k1⟩ := s58 (n := 4) h (by decide)
  obtain ⟨c, r2, e2, p2, q2, _, k2⟩ := s58 (n := 5) k1 (by decide)
  have q1 := q1 (by decide)
  have hlt : b < (([(⟨#[108, 111, 103]⟩ : ByteArray), (⟨#[98, 97, 115, 101]⟩ : ByteArray), (⟨#[98, 97, 115, 101, 46, 110, 101, 119]⟩ : ByteArray), (⟨#[98]⟩ : ByteArray)] : List ByteArray).length : Int) := by simp only [List.length_cons, List.length_nil]; omega
  by_cases hc0 : c = 0
  · obtain ⟨f, r3, e3, p3, q3, _, k3⟩ := s58 (n := 3) k2 (by decide)
    have q3 := q3 (by decide)
    have hlt3 : f < (([(⟨#[108, 111, 103]⟩ : ByteArray), (⟨#[98, 97, 115, 101]⟩ : ByteArray), (⟨#[99]⟩ : ByteArray)] : List ByteArray).length : Int) := by simp only [List.length_cons, List.length_nil]; omega
    apply Exists.intro
    refine ⟨r3, Ev.eqn 19 (fun k => c83_eq k r) ?_, ?_, k3⟩
    · refine Ev.bind (Ev.later e1 _) ?_
      simp only [p1, hlt, if_true]
      refine Ev.bind (Ev.later e2 _) ?_
      simp only [hc0, beq_self_eq_true, if_true]
      refine Ev.bind (Ev.later e3 _) ?_
      simp only [p3, hlt3, if_true]
      exact Ev.now
    · exact Nat.zero_le _
  · have hb0 : (c == 0) = false := by simpa using hc0
    by_cases hc1 : c = 1
    · apply Exists.intro
      refine ⟨r2, Ev.eqn 19 (fun k => c83_eq k r) ?_, ?_, k2⟩
      · refine Ev.bind (Ev.later e1 _) ?_
        simp only [p1, hlt, if_true]
        refine Ev.bind (Ev.later e2 _) ?_
        have hb1 : ((1 : Int) == 0) = false := rfl
        simp only [hc1, hb1, beq_self_eq_true, Bool.false_eq_true, if_false, if_true]
        exact Ev.now
      · exact Nat.zero_le _
    · obtain ⟨t, r3, e3, p3, k3⟩ := s59 k2
      have hb1 : (c == 1) = false := by simpa using hc1
      apply Exists.intro
      refine ⟨r3, Ev.eqn 19 (fun k => c83_eq k r) ?_, ?_, k3⟩
      · refine Ev.bind (Ev.later e1 _) ?_
        simp only [p1, hlt, if_true]
        refine Ev.bind (Ev.later e2 _) ?_
        simp only [hb0, hb1, Bool.false_eq_true, if_false]
        refine Ev.bind (Ev.later e3 _) ?_
        exact Ev.now
      · exact p3
theorem s97 {a m : Int} {x1 : List Int} {x2 : Int} (h : Rok (x1, x2, ())) (ha : 1 ≤ a) (hm0 : 0 ≤ m) (hm : m ≤ 1000) : ∃ n r', Ev (fun k => c97 k a m x1 x2) ((n, ()), (r', ())) ∧ 1 ≤ n ∧ n ≤ 1001 ∧ Rok r' := by
  have hl : x1.length ≤ 1048576 := h.hl
  have ha0 : ¬ a = 0 := by omega
  have hd : 0 ≤ Int.tdiv (x1.length : Int) a ∧ Int.tdiv (x1.length : Int) a ≤ 1048576 := by
    rw [Int.tdiv_eq_ediv_of_nonneg (nn _)]
    refine ⟨Int.ediv_nonneg (nn _) (by omega), ?_⟩
    have := Int.ediv_le_self a (nn x1.length)
    omega
  have hw : IntKind.i64.wrap (Int.tdiv (x1.length : Int) a) = Int.tdiv (x1.length : Int) a := wr (by omega) (by omega)
  have hw2 : IntKind.i64.wrap (1 + Int.tdiv (x1.length : Int) a) = 1 + Int.tdiv (x1.length : Int) a := wr (by omega) (by omega)
  by_cases hc : 1 + Int.tdiv (x1.length : Int) a > m
  · obtain ⟨b, r1, e1, p1, q1, z1, k1⟩ := s58' (n := m) h (by omega)
    have hb : b ≤ 1000 := by
      by_cases h1 : 1 ≤ m
      · have := q1 h1
        omega
      · have := z1 (by omega)
        omega
    refine ⟨1 + b, r1, Ev.eqn 12 (fun k => c97_eq k a m x1 x2) ?_, by omega, by omega, k1⟩
    simp only [ha0, if_false, hw, hw2, hc, decide_true, if_true]
    refine Ev.bind (Ev.later e1 _) ?_
    rw [wr (n := 1 + b) (by omega) (by omega)]
    exact Ev.now
  · obtain ⟨b, r1, e1, p1, q1, z1, k1⟩ := s58' (n := 1 + Int.tdiv (x1.length : Int) a) h (by omega)
    have := q1 (by omega)
    refine ⟨1 + b, r1, Ev.eqn 12 (fun k => c97_eq k a m x1 x2) ?_, by omega, by omega, k1⟩
    simp only [ha0, if_false, hw, hw2, hc, decide_false, Bool.false_eq_true]
    refine Ev.bind (Ev.later e1 _) ?_
    rw [wr (n := 1 + b) (by omega) (by omega)]
    exact Ev.now
/-! ### Right disks stay right -/
theorem run_snoc : ∀ {l : List dDOp} {xs ys : List dFile} {o : dDOp}, runF xs l = some ys → runF xs (l ++ [o]) = if (doF ys o).2 && formOk o && filesOk (doF ys o).1 then some (doF ys o).1 else none
  | [], xs, ys, o, h => by
    cases h
    show runF xs [o] = _
    unfold runF
    split <;> rfl
  | p :: l, xs, ys, o, h => by
    unfold runF at h
    show runF xs (p :: (l ++ [o])) = _
    rw [runF]
    split at h
    · rename_i hp
      rw [if_pos hp]
      exact run_snoc h
    · cases h
theorem okD_iff {d : dDisk'} : okD d = true ↔ filesOk d.1 = true ∧ filesOk d.2.1 = true ∧ d.2.2.1.length ≤ 200 ∧ runF d.2.1 d.2.2.1 = some d.1 := by
  unfold okD
  simp only [Bool.and_eq_true, decide_eq_true_eq]
  constructor
  · rintro ⟨⟨⟨h1, h2⟩, h3⟩, h4⟩
    refine ⟨h1, h2, by omega, ?_⟩
    split at h4
    · rename_i xs hx
      rw [hx, of_decide_eq_true h4]
    · cases h4
  · rintro ⟨h1, h2, h3, h4⟩
    refine ⟨⟨⟨h1, h2⟩, by omega⟩, ?_⟩
    rw [h4]
    simp
theorem ok_sync {d : dDisk'} (h : okD d = true) : okD (syncD d) = true := by
  obtain ⟨h1, h2, h3, h4⟩ := okD_iff.1 h
  unfold syncD
  rw [if_pos h]
  exact okD_iff.2 ⟨h1, h1, Nat.zero_le _, rfl⟩
theorem ok_act {d : dDisk'} {o : dDOp} (h : okD d = true) : okD (actD d o).1 = true := by
  obtain ⟨h1, h2, h3, h4⟩ := okD_iff.1 h
  unfold actD
  by_cases hf : formOk o = true
  · rw [if_pos hf]
    by_cases hd : (doF d.1 o).2 = true
    · rw [if_pos hd]
      by_cases hn : d.2.2.1.length = 200
      · rw [if_pos hn]
        exact h
      · rw [if_neg hn]
        by_cases hk : filesOk (doF d.1 o).1 = true
        · rw [if_pos hk]
          refine okD_iff.2 ⟨hk, h2, ?_, ?_⟩
          · simp only [List.length_append, List.length_singleton]
            omega
          · simp only
            rw [run_snoc h4, hf, hd, hk]
            rfl
        · rw [if_neg hk]
          exact h
    · rw [if_neg hd]
      exact h
  · rw [if_neg hf]
    exact h
/-- A disk that is right, its operations small. -/
structure Dok (d : dDisk') : Prop where
  ok : okD d = true
  ho : SmOps d.2.2.1
theorem Dok.fit {d : dDisk'} (h : Dok d) : Fit d ∧ d.1.length ≤ 60 ∧ d.2.1.length ≤ 60 ∧ d.2.2.1.length ≤ 200 := by
  obtain ⟨_, _, p3, _, p5, p6, p7, p8⟩ := okD_parts h.ok
  exact ⟨⟨by omega, by omega, by omega, by omega, by omega, h.ho⟩, p5, p6, p3⟩
theorem act_ops {d : dDisk'} {o : dDOp} (h : SmOps d.2.2.1) (ho : o.2.2.2.1.size ≤ 1099511627776) : SmOps (actD d o).1.2.2.1 := by
  unfold actD
  split
  · split
    · split
      · exact h
      · split
        · intro p hp
          rcases List.mem_append.1 hp with hp | hp
          · exact h p hp
          · rw [List.mem_singleton.1 hp]
            exact ho
        · exact h
    · exact h
  · exact h
theorem Dok.act {d : dDisk'} {o : dDOp} (h : Dok d) (ho : o.2.2.2.1.size ≤ 1099511627776) : Dok (doD d o).1 := by
  unfold doD
  rw [if_pos h.ok]
  exact ⟨ok_act h.ok, act_ops h.ho ho⟩
theorem Dok.sync {d : dDisk'} (h : Dok d) : Dok (syncD d) := by
  refine ⟨ok_sync h.ok, ?_⟩
  unfold syncD
  rw [if_pos h.ok]
  intro p hp
  cases hp
theorem Dok.nil : Dok (([], [], [], ()) : dDisk') := ⟨by decide, fun p hp => by cases hp⟩
/-- A disk of a draw. -/
structure Drw (d : dDisk') : Prop where
  fit : Fit d
  l1 : d.1.length ≤ 1000
  l2 : d.2.1.length ≤ 1000
  l3 : d.2.2.1.length ≤ 1000
theorem Dok.drw {d : dDisk'} (h : Dok d) : Drw d := by
  obtain ⟨h1, h2, h3, h4⟩ := h.fit
  exact ⟨h1, by omega, by omega, by omega⟩
theorem p62_end {r : dl1Rd} (hr : Rok r) {d : dDisk'} (h : Dok d) {x0 : Int} (h0 : ¬ x0 > 0) (x2 x3 : List dFile) (x4 : List dDOp) : ∃ d' r', Ev (fun k => p62_3 k x0 r x2 x3 x4 d.1 d.2.1 d.2.2.1) ((d', ()), (r', ())) ∧ Drw d' ∧ Rok r' := by
  obtain ⟨hf, l1, l2, l3⟩ := h.fit
  obtain ⟨b, r1, e1, p1, q1, _, k1⟩ := s58 (n := 40) hr (by decide)
  by_cases h39 : b = 39
  · apply Exists.intro
    refine ⟨r1, Ev.eqn 24 (fun k => p62_3_eq k x0 r x2 x3 x4 d.1 d.2.1 d.2.2.1) ?_, ?_, k1⟩
    · simp only [h0, decide_false, Bool.false_eq_true, if_false]
      refine Ev.bind (Ev.later e1 _) ?_
      have hb : (List.length d.1 + List.length ([((⟨#[122, 122]⟩ : ByteArray), (⟨#[]⟩ : ByteArray), ())] : List dFile)) * 32 ≤ 140737488355328 := mul32 (by rw [List.length_singleton]; omega)
      simp only [h39, beq_self_eq_true, if_true, hb]
      exact Ev.now
    · have ht : tot (d.1 ++ ([((⟨#[122, 122]⟩ : ByteArray), (⟨#[]⟩ : ByteArray), ())] : List dFile)) = tot d.1 := by
        rw [tot_append]
        rfl
      have := hf.t1
      exact ⟨⟨by simp only [List.length_append, List.length_singleton]; omega, hf.h2, hf.h3, by simp only; rw [ht]; exact hf.t1, hf.t2, hf.ho⟩, by simp only [List.length_append, List.length_singleton]; omega, by simp only; omega, by simp only; omega⟩
  have b39 : (b == 39) = false := by simpa using h39
  by_cases h38 : b = 38
  · by_cases hp : (d.2.2.1.length : Int) > 0
    · apply Exists.intro
      refine ⟨r1, Ev.eqn 24 (fun k => p62_3_eq k x0 r x2 x3 x4 d.1 d.2.1 d.2.2.1) ?_, ?_, k1⟩
      · simp only [h0, decide_false, Bool.false_eq_true, if_false]
        refine Ev.bind (Ev.later e1 _) ?_
        have hp2 : (1 : Int) ≤ (d.2.2.1.length : Int) := by omega
        have c38 : ((38 : Int) == 39) = false := rfl
        simp only [h38, c38, Bool.false_eq_true, if_false, beq_self_eq_true, if_true, hp, hp2, decide_true]
        exact Ev.now
      · have hdl : (List.drop (Int.toNat 1) d.2.2.1).length ≤ d.2.2.1.length := by rw [List.length_drop]; omega
        exact ⟨⟨hf.h1, hf.h2, by simp only; omega, hf.t1, hf.t2, fun p hp => hf.ho p (List.mem_of_mem_drop hp)⟩, by simp only; omega, by simp only; omega, by simp only; omega⟩
    · refine ⟨(d.1, d.2.1, d.2.2.1, ()), r1, Ev.eqn 24 (fun k => p62_3_eq k x0 r x2 x3 x4 d.1 d.2.1 d.2.2.1) ?_, h.drw, k1⟩
      simp only [h0, decide_false, Bool.false_eq_true, if_false]
      refine Ev.bind (Ev.later e1 _) ?_
      have c38 : ((38 : Int) == 39) = false := rfl
      simp only [h38, c38, Bool.false_eq_true, if_false, beq_self_eq_true, if_true, hp, decide_false]
      exact Ev.now
  have b38 : (b == 38) = false := by simpa using h38
  by_cases h37 : b = 37
  · obtain ⟨c, r2, e2, p2, q2, _, k2⟩ := s58 (n := 9) k1 (by decide)
    have q2 := q2 (by decide)
    have hw : IntKind.i64.wrap (200000 - c) = 200000 - c := wr (by omega) (by omega)
    apply Exists.intro
    refine ⟨r2, Ev.eqn 24 (fun k => p62_3_eq k x0 r x2 x3 x4 d.1 d.2.1 d.2.2.1) ?_, ?_, k2⟩
    · simp only [h0, decide_false, Bool.false_eq_true, if_false]
      refine Ev.bind (Ev.later e1 _) ?_
      have c37 : ((37 : Int) == 39) = false := rfl
      have c37' : ((37 : Int) == 38) = false := rfl
      simp only [h37, c37, c37', Bool.false_eq_true, if_false, beq_self_eq_true, if_true]
      refine Ev.bind (Ev.later e2 _) ?_
      have g0 : (0 : Int) ≤ 200000 - c := by omega
      have g1 : Int.toNat (200000 - c) * 1 ≤ 140737488355328 := by omega
      simp only [hw, g0, g1, if_true]
      exact Ev.now
    · have ht : tot ([((⟨#[98, 105, 103]⟩ : ByteArray), strOfNums (List.replicate (Int.toNat (200000 - c)) 0), ())] : List dFile) ≤ 200000 := by
        show (strOfNums (List.replicate (Int.toNat (200000 - c)) 0)).size + 0 ≤ 200000
        rw [strOfNums_size, List.length_replicate]
        omega
      refine ⟨⟨?_, ?_, Nat.zero_le _, by simp only; omega, by simp only; omega, fun p hp => by cases hp⟩, ?_, ?_, Nat.zero_le _⟩ <;> simp only [List.length_singleton] <;> omega
  have b37 : (b == 37) = false := by simpa using h37
  refine ⟨(d.1, d.2.1, d.2.2.1, ()), r1, Ev.eqn 24 (fun k => p62_3_eq k x0 r x2 x3 x4 d.1 d.2.1 d.2.2.1) ?_, h.drw, k1⟩
  simp only [h0, decide_false, Bool.false_eq_true, if_false]
  refine Ev.bind (Ev.later e1 _) ?_
  simp only [b39, b38, b37, Bool.false_eq_true, if_false]
  exact Ev.now
theorem p62_loop (x2 x3 : List dFile) (x4 : List dDOp) : ∀ (n : Nat) (x0 : Int) (r : dl1Rd) (d : dDisk'), x0.toNat ≤ n → x0 ≤ 1001 → Rok r → Dok d → ∃ d' r', Ev (fun k => p62_3 k x0 r x2 x3 x4 d.1 d.2.1 d.2.2.1) ((d', ()), (r', ())) ∧ Drw d' ∧ Rok r' := by
  intro n
  induction n with
  | zero =>
    intro x0 r d hn h1 hr hd
    exact p62_end hr hd (by omega) x2 x3 x4
  | succ n ih =>
    intro x0 r d hn h1 hr hd
    by_cases h0 : x0 > 0
    · have hw : IntKind.i64.wrap (x0 - 1) = x0 - 1 := wr (by omega) (by omega)
      have ed : ((d.1, d.2.1, d.2.2.1, ()) : dDisk') = d := rfl
      obtain ⟨hf, l1, l2, l3⟩ := hd.fit
      obtain ⟨b, r1, e1, k1⟩ := s91 (n := 5) hr (by decide)
      cases b with
      | true =>
        obtain ⟨d', r', e2, k2⟩ := ih (x0 - 1) r1 (syncD d) (by omega) (by omega) k1 hd.sync
        refine ⟨d', r', Ev.eqn 24 (fun k => p62_3_eq k x0 r x2 x3 x4 d.1 d.2.1 d.2.2.1) ?_, k2⟩
        simp only [h0, decide_true, if_true, ed, hw]
        refine Ev.bind (Ev.later e1 _) ?_
        simp only [if_true]
        refine Ev.bind (Ev.later (s40 hf (by omega)) _) ?_
        exact Ev.later e2 _
      | false =>
        obtain ⟨o, r2, e2, p2, k2⟩ := s83 k1
        have hS := s39 hf (by omega) (by omega) (by omega) (o := o) (by omega)
        by_cases hz : (doD d o).2 = 0
        · obtain ⟨d', r', e3, k3⟩ := ih (x0 - 1) r2 (doD d o).1 (by omega) (by omega) k2 (hd.act (by omega))
          refine ⟨d', r', Ev.eqn 24 (fun k => p62_3_eq k x0 r x2 x3 x4 d.1 d.2.1 d.2.2.1) ?_, k3⟩
          simp only [h0, decide_true, if_true, ed, hw]
          refine Ev.bind (Ev.later e1 _) ?_
          simp only [Bool.false_eq_true, if_false]
          refine Ev.bind (Ev.later e2 _) ?_
          refine Ev.bind (Ev.later hS _) ?_
          simp only [hz, beq_self_eq_true, if_true]
          exact Ev.later e3 _
        · obtain ⟨d', r', e3, k3⟩ := ih (x0 - 1) r2 d (by omega) (by omega) k2 hd
          refine ⟨d', r', Ev.eqn 24 (fun k => p62_3_eq k x0 r x2 x3 x4 d.1 d.2.1 d.2.2.1) ?_, k3⟩
          have hzb : ((doD d o).2 == 0) = false := by simpa using hz
          simp only [h0, decide_true, if_true, ed, hw]
          refine Ev.bind (Ev.later e1 _) ?_
          simp only [Bool.false_eq_true, if_false]
          refine Ev.bind (Ev.later e2 _) ?_
          refine Ev.bind (Ev.later hS _) ?_
          simp only [hzb, Bool.false_eq_true, if_false]
          exact Ev.later e3 _
    · exact p62_end hr hd h0 x2 x3 x4
theorem s62 {x1 : List Int} {x2 : Int} (h : Rok (x1, x2, ())) : ∃ d r', Ev (fun k => c62 k x1 x2) ((d, ()), (r', ())) ∧ Drw d ∧ Rok r' := by
  obtain ⟨n, r1, e1, p1, q1, k1⟩ := s97 (a := 3) (m := 10) h (by decide) (by decide) (by decide)
  obtain ⟨d, r', e2, k2⟩ := p62_loop [] [] [] n.toNat n r1 ([], [], [], ()) (Nat.le_refl _) q1 k1 Dok.nil
  refine ⟨d, r', Ev.eqn 12 (fun k => c62_eq k x1 x2) ?_, k2⟩
  refine Ev.bind (Ev.later e1 _) ?_
  exact Ev.later e2 _
theorem s57 (x : List Int) : Ev (fun k => c57 k x) (((x, 0, ()), ()), ()) := Ev.eqn 5 (fun k => c57_eq k x) Ev.now
theorem s26 {x : List Int} (hl : x.length ≤ 1048576) (he : ∀ b ∈ x, 0 ≤ b ∧ b ≤ 255) : ∃ d, Ev (fun k => c26 k x) ((d, ()), ()) ∧ Drw d := by
  obtain ⟨d, r', e2, k2, _⟩ := s62 (x1 := x) (x2 := 0) ⟨hl, he, by simp only; omega⟩
  refine ⟨(d.1, d.2.1, d.2.2.1, ()), Ev.eqn 7 (fun k => c26_eq k x) ?_, k2⟩
  refine Ev.bind (Ev.later (s57 x) _) ?_
  refine Ev.bind (Ev.later e2 _) ?_
  exact Ev.now
end Go.Proofs.Ytcfnhfbaakflgaa.Abs
