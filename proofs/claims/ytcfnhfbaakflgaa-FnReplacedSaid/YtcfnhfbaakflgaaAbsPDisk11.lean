/- FnDone says true. -/
import Derived.Test.YtcfnhfbaakflgaaAbsPDisk10
set_option linter.unusedVariables false
set_option linter.unusedSimpArgs false
namespace Go.Proofs.Ytcfnhfbaakflgaa.Abs
open Go

theorem wru {n : Int} (h0 : 0 ≤ n) (h1 : n ≤ 9223372036854775807) : IntKind.u64.wrap n = n := by
  simp only [IntKind.wrap, IntKind.signed, IntKind.bits]
  simp
  omega
theorem p123_loop : ∀ (n : Nat) (x0 x1 : Int) (r : dl1Rd), (8 - x1).toNat ≤ n → 0 ≤ x1 → x1 ≤ 8 → Rok r → ∃ v r', Ev (fun k => p123_3 k x0 x1 r) ((v, ()), (r', ())) ∧ Rok r' := by
  intro n
  induction n with
  | zero =>
    intro x0 x1 r hn h0 h8 hr
    have h : ¬ x1 < 8 := by omega
    refine ⟨x0, r, Ev.eqn 12 (fun k => p123_3_eq k x0 x1 r) ?_, hr⟩
    simp only [h, decide_false, Bool.false_eq_true, if_false]
    exact Ev.now
  | succ n ih =>
    intro x0 x1 r hn h0 h8 hr
    by_cases h : x1 < 8
    · obtain ⟨b, r1, e1, _, _, k1⟩ := s96 hr
      have hw : IntKind.i64.wrap (x1 + 1) = x1 + 1 := wr (by omega) (by omega)
      obtain ⟨v, r', e2, k2⟩ := ih (Go.bits .or .u64 (IntKind.u64.wrap (x0 * 2 ^ min (Int.toNat 8) (IntKind.bits .u64))) (IntKind.u64.wrap b)) (x1 + 1) r1 (by omega) (by omega) (by omega) k1
      refine ⟨v, r', Ev.eqn 12 (fun k => p123_3_eq k x0 x1 r) ?_, k2⟩
      simp only [h, decide_true, if_true]
      refine Ev.bind (Ev.later e1 _) ?_
      simp only [hw]
      exact Ev.later e2 _
    · refine ⟨x0, r, Ev.eqn 12 (fun k => p123_3_eq k x0 x1 r) ?_, hr⟩
      simp only [h, decide_false, Bool.false_eq_true, if_false]
      exact Ev.now
theorem s123 {r : dl1Rd} (h : Rok r) : ∃ v r', Ev (fun k => c123 k r) ((v, ()), (r', ())) ∧ Rok r' := by
  obtain ⟨v, r', e, k⟩ := p123_loop 8 0 0 r (by decide) (by decide) (by decide) h
  exact ⟨v, r', Ev.eqn 12 (fun k => c123_eq k r) (Ev.later e 1), k⟩
theorem s115 {a b : Int} {r : dl1Rd} (h : Rok r) (ha : -1000000 ≤ a) (hb : b ≤ 1000000) (hab : a ≤ b) : ∃ v r', Ev (fun k => c115 k a b r) ((v, ()), (r', ())) ∧ Rok r' := by
  obtain ⟨c, r1, e1, _, _, _, k1⟩ := s58 (n := 8) h (by decide)
  by_cases h0 : c = 0
  · refine ⟨a, r1, Ev.eqn 22 (fun k => c115_eq k a b r) ?_, k1⟩
    refine Ev.bind (Ev.later e1 _) ?_
    simp only [h0, beq_self_eq_true, if_true]
    exact Ev.now
  have b0 : (c == 0) = false := by simpa using h0
  by_cases h1 : c = 1
  · refine ⟨b, r1, Ev.eqn 22 (fun k => c115_eq k a b r) ?_, k1⟩
    refine Ev.bind (Ev.later e1 _) ?_
    have c1 : ((1 : Int) == 0) = false := rfl
    simp only [h1, c1, beq_self_eq_true, Bool.false_eq_true, if_false, if_true]
    exact Ev.now
  have b1 : (c == 1) = false := by simpa using h1
  have hlt : ¬ b < a := by omega
  obtain ⟨v, r', e2, k2⟩ := s123 k1
  have hw : IntKind.i64.wrap (b - a) = b - a := wr (by omega) (by omega)
  have hw2 : IntKind.i64.wrap (b - a + 1) = b - a + 1 := wr (by omega) (by omega)
  have hu : IntKind.u64.wrap (b - a + 1) = b - a + 1 := wru (by omega) (by omega)
  have hn0 : ¬ b - a + 1 = 0 := by omega
  apply Exists.intro
  refine ⟨r', Ev.eqn 22 (fun k => c115_eq k a b r) ?_, k2⟩
  refine Ev.bind (Ev.later e1 _) ?_
  simp only [b0, b1, hlt, decide_false, Bool.false_eq_true, if_false]
  refine Ev.bind (Ev.later e2 _) ?_
  simp only [hw, hw2, hu, hn0, if_false]
  exact Ev.now
theorem s84 {a b : Int} {r : dl1Rd} (h : Rok r) (ha : -1000000 ≤ a) (hb : b ≤ 1000000) (hab : a ≤ b) : ∃ v r', Ev (fun k => c84 k a b r) ((v, ()), (r', ())) ∧ Rok r' := by
  obtain ⟨t, r1, e1, k1⟩ := s91 (n := 24) h (by decide)
  cases t with
  | true =>
    obtain ⟨c, r2, e2, p2, q2, _, k2⟩ := s58 (n := 4) k1 (by decide)
    have q2 := q2 (by decide)
    have hlt : c < (([(IntKind.i64.wrap (a - 1)), (IntKind.i64.wrap (b + 1)), (-9223372036854775808), 9223372036854775807] : List Int).length : Int) := by simp only [List.length_cons, List.length_nil]; omega
    apply Exists.intro
    refine ⟨r2, Ev.eqn 10 (fun k => c84_eq k a b r) ?_, k2⟩
    refine Ev.bind (Ev.later e1 _) ?_
    simp only [if_true]
    refine Ev.bind (Ev.later e2 _) ?_
    simp only [p2, hlt, if_true]
    exact Ev.now
  | false =>
    obtain ⟨v, r2, e2, k2⟩ := s115 k1 ha hb hab
    refine ⟨v, r2, Ev.eqn 10 (fun k => c84_eq k a b r) ?_, k2⟩
    refine Ev.bind (Ev.later e1 _) ?_
    simp only [Bool.false_eq_true, if_false]
    refine Ev.bind (Ev.later e2 _) ?_
    exact Ev.now
/-! ### The draw of a disk and an operation -/
abbrev oB : dDOp := (1, (⟨#[98]⟩ : ByteArray), (⟨#[]⟩ : ByteArray), (⟨#[]⟩ : ByteArray), ())
theorem Drw.act {d : dDisk'} {o : dDOp} (h : Drw d) (ho : o.2.2.2.1.size ≤ 1099511627776) (hz : (doD d o).2 = 0) : Drw (doD d o).1 := by
  have hk : okD d = true := by
    cases hk : okD d with
    | true => rfl
    | false =>
      unfold doD at hz
      rw [hk] at hz
      cases hz
  exact (Dok.act ⟨hk, h.fit.ho⟩ ho).drw
theorem p37b_loop (x1 : Int) (x2 x3 x4 : ByteArray) (o : dDOp) (u v : List dFile) (w : List dDOp) : ∀ (n : Nat) (x0 : Int) (r : dl1Rd) (d : dDisk'), (200 - x0).toNat ≤ n → 0 ≤ x0 → x0 ≤ 200 → Rok r → Drw d → ∃ d', Ev (fun k => p37_13' k x0 x1 x2 x3 x4 r o.1 o.2.1 o.2.2.1 o.2.2.2.1 u v w d.1 d.2.1 d.2.2.1) ((d', o, ()), ()) ∧ Drw d' := by
  intro n
  induction n with
  | zero =>
    intro x0 r d hn h0 h2 hr hd
    have h : ¬ x0 < 200 := by omega
    refine ⟨d, Ev.eqn 17 (fun k => p37_13'_eq k x0 x1 x2 x3 x4 r o.1 o.2.1 o.2.2.1 o.2.2.2.1 u v w d.1 d.2.1 d.2.2.1) ?_, hd⟩
    simp only [h, decide_false, Bool.false_eq_true, if_false]
    exact Ev.now
  | succ n ih =>
    intro x0 r d hn h0 h2 hr hd
    by_cases h : x0 < 200
    · obtain ⟨b, r1, e1, p1, q1, _, k1⟩ := s58 (n := 2) hr (by decide)
      have hw : IntKind.i64.wrap (x0 + 1) = x0 + 1 := wr (by omega) (by omega)
      have ed : ((d.1, d.2.1, d.2.2.1, ()) : dDisk') = d := rfl
      have hl1 := hd.l1
      have hl2 := hd.l2
      have hl3 := hd.l3
      by_cases hc : (d.2.2.1.length : Int) < IntKind.i64.wrap (199 + b)
      · have hS := s39 hd.fit (by omega) (by omega) (by omega) (o := oB) (by decide)
        by_cases hz : (doD d oB).2 = 0
        · obtain ⟨d', e2, k2⟩ := ih (x0 + 1) r1 (doD d oB).1 (by omega) (by omega) (by omega) k1 (hd.act (by decide) hz)
          refine ⟨d', Ev.eqn 17 (fun k => p37_13'_eq k x0 x1 x2 x3 x4 r o.1 o.2.1 o.2.2.1 o.2.2.2.1 u v w d.1 d.2.1 d.2.2.1) ?_, k2⟩
          simp only [h, decide_true, if_true]
          refine Ev.bind (Ev.later e1 _) ?_
          simp only [hc, decide_true, if_true, ed, hw]
          refine Ev.bind (Ev.later hS _) ?_
          simp only [hz, beq_self_eq_true, if_true]
          exact Ev.later e2 _
        · obtain ⟨d', e2, k2⟩ := ih (x0 + 1) r1 d (by omega) (by omega) (by omega) k1 hd
          refine ⟨d', Ev.eqn 17 (fun k => p37_13'_eq k x0 x1 x2 x3 x4 r o.1 o.2.1 o.2.2.1 o.2.2.2.1 u v w d.1 d.2.1 d.2.2.1) ?_, k2⟩
          have hzb : ((doD d oB).2 == 0) = false := by simpa using hz
          simp only [h, decide_true, if_true]
          refine Ev.bind (Ev.later e1 _) ?_
          simp only [hc, decide_true, if_true, ed, hw]
          refine Ev.bind (Ev.later hS _) ?_
          simp only [hzb, Bool.false_eq_true, if_false]
          exact Ev.later e2 _
      · refine ⟨d, Ev.eqn 17 (fun k => p37_13'_eq k x0 x1 x2 x3 x4 r o.1 o.2.1 o.2.2.1 o.2.2.2.1 u v w d.1 d.2.1 d.2.2.1) ?_, hd⟩
        simp only [h, decide_true, if_true]
        refine Ev.bind (Ev.later e1 _) ?_
        simp only [hc, decide_false, Bool.false_eq_true, if_false]
        exact Ev.now
    · refine ⟨d, Ev.eqn 17 (fun k => p37_13'_eq k x0 x1 x2 x3 x4 r o.1 o.2.1 o.2.2.1 o.2.2.2.1 u v w d.1 d.2.1 d.2.2.1) ?_, hd⟩
      simp only [h, decide_false, Bool.false_eq_true, if_false]
      exact Ev.now
theorem p37a_loop (x1 : Int) (x2 x3 x4 : ByteArray) (o : dDOp) (u v : List dFile) (w : List dDOp) : ∀ (n : Nat) (x0 : Int) (r : dl1Rd) (d : dDisk'), (200 - x0).toNat ≤ n → 0 ≤ x0 → x0 ≤ 200 → Rok r → Drw d → ∃ d', Ev (fun k => p37_13 k x0 x1 x2 x3 x4 r d.1 d.2.1 d.2.2.1 o.1 o.2.1 o.2.2.1 o.2.2.2.1 u v w) ((d', o, ()), ()) ∧ Drw d' := by
  intro n
  induction n with
  | zero =>
    intro x0 r d hn h0 h2 hr hd
    have h : ¬ x0 < 200 := by omega
    refine ⟨d, Ev.eqn 17 (fun k => p37_13_eq k x0 x1 x2 x3 x4 r d.1 d.2.1 d.2.2.1 o.1 o.2.1 o.2.2.1 o.2.2.2.1 u v w) ?_, hd⟩
    simp only [h, decide_false, Bool.false_eq_true, if_false]
    exact Ev.now
  | succ n ih =>
    intro x0 r d hn h0 h2 hr hd
    by_cases h : x0 < 200
    · obtain ⟨b, r1, e1, p1, q1, _, k1⟩ := s58 (n := 2) hr (by decide)
      have hw : IntKind.i64.wrap (x0 + 1) = x0 + 1 := wr (by omega) (by omega)
      have ed : ((d.1, d.2.1, d.2.2.1, ()) : dDisk') = d := rfl
      have hl1 := hd.l1
      have hl2 := hd.l2
      have hl3 := hd.l3
      by_cases hc : (d.2.2.1.length : Int) < IntKind.i64.wrap (199 + b)
      · have hS := s39 hd.fit (by omega) (by omega) (by omega) (o := oB) (by decide)
        by_cases hz : (doD d oB).2 = 0
        · obtain ⟨d', e2, k2⟩ := p37b_loop x1 x2 x3 x4 o u v w n (x0 + 1) r1 (doD d oB).1 (by omega) (by omega) (by omega) k1 (hd.act (by decide) hz)
          refine ⟨d', Ev.eqn 17 (fun k => p37_13_eq k x0 x1 x2 x3 x4 r d.1 d.2.1 d.2.2.1 o.1 o.2.1 o.2.2.1 o.2.2.2.1 u v w) ?_, k2⟩
          simp only [h, decide_true, if_true]
          refine Ev.bind (Ev.later e1 _) ?_
          simp only [hc, decide_true, if_true, ed, hw]
          refine Ev.bind (Ev.later hS _) ?_
          simp only [hz, beq_self_eq_true, if_true]
          exact Ev.later e2 _
        · obtain ⟨d', e2, k2⟩ := ih (x0 + 1) r1 d (by omega) (by omega) (by omega) k1 hd
          refine ⟨d', Ev.eqn 17 (fun k => p37_13_eq k x0 x1 x2 x3 x4 r d.1 d.2.1 d.2.2.1 o.1 o.2.1 o.2.2.1 o.2.2.2.1 u v w) ?_, k2⟩
          have hzb : ((doD d oB).2 == 0) = false := by simpa using hz
          simp only [h, decide_true, if_true]
          refine Ev.bind (Ev.later e1 _) ?_
          simp only [hc, decide_true, if_true, ed, hw]
          refine Ev.bind (Ev.later hS _) ?_
          simp only [hzb, Bool.false_eq_true, if_false]
          exact Ev.later e2 _
      · refine ⟨d, Ev.eqn 17 (fun k => p37_13_eq k x0 x1 x2 x3 x4 r d.1 d.2.1 d.2.2.1 o.1 o.2.1 o.2.2.1 o.2.2.2.1 u v w) ?_, hd⟩
        simp only [h, decide_true, if_true]
        refine Ev.bind (Ev.later e1 _) ?_
        simp only [hc, decide_false, Bool.false_eq_true, if_false]
        exact Ev.now
    · refine ⟨d, Ev.eqn 17 (fun k => p37_13_eq k x0 x1 x2 x3 x4 r d.1 d.2.1 d.2.2.1 o.1 o.2.1 o.2.2.1 o.2.2.2.1 u v w) ?_, hd⟩
      simp only [h, decide_false, Bool.false_eq_true, if_false]
      exact Ev.now
theorem s37 {x : List Int} (hl : x.length ≤ 1048576) (he : ∀ b ∈ x, 0 ≤ b ∧ b ≤ 255) : ∃ (d : dDisk') (o : dDOp), Ev (fun k => c37 k x) ((d, o, ()), ()) ∧ Drw d ∧ o.2.2.2.1.size ≤ 3 := by
  obtain ⟨d, r1, e1, k1, j1⟩ := s62 (x1 := x) (x2 := 0) ⟨hl, he, by simp only; omega⟩
  obtain ⟨o, r2, e2, p2, j2⟩ := s83 j1
  obtain ⟨c, r3, e3, _, _, _, j3⟩ := s58 (n := 20) j2 (by decide)
  by_cases h0 : c = 0
  · obtain ⟨v, r4, e4, j4⟩ := s84 (a := 1) (b := 3) j3 (by decide) (by decide) (by decide)
    refine ⟨d, (v, o.2.1, o.2.2.1, o.2.2.2.1, ()), Ev.eqn 31 (fun k => c37_eq k x) ?_, k1, p2⟩
    refine Ev.bind (Ev.later (s57 x) _) ?_
    refine Ev.bind (Ev.later e1 _) ?_
    refine Ev.bind (Ev.later e2 _) ?_
    refine Ev.bind (Ev.later e3 _) ?_
    simp only [h0, beq_self_eq_true, if_true]
    refine Ev.bind (Ev.later e4 _) ?_
    exact Ev.now
  have b0 : (c == 0) = false := by simpa using h0
  by_cases h1 : c = 1
  · refine ⟨d, (o.1, (⟨#[]⟩ : ByteArray), o.2.2.1, o.2.2.2.1, ()), Ev.eqn 31 (fun k => c37_eq k x) ?_, k1, p2⟩
    refine Ev.bind (Ev.later (s57 x) _) ?_
    refine Ev.bind (Ev.later e1 _) ?_
    refine Ev.bind (Ev.later e2 _) ?_
    refine Ev.bind (Ev.later e3 _) ?_
    have c1 : ((1 : Int) == 0) = false := rfl
    simp only [h1, c1, beq_self_eq_true, Bool.false_eq_true, if_false, if_true]
    exact Ev.now
  have b1 : (c == 1) = false := by simpa using h1
  by_cases h2 : c = 2
  · refine ⟨d, (o.1, o.2.1, (⟨#[120]⟩ : ByteArray), o.2.2.2.1, ()), Ev.eqn 31 (fun k => c37_eq k x) ?_, k1, p2⟩
    refine Ev.bind (Ev.later (s57 x) _) ?_
    refine Ev.bind (Ev.later e1 _) ?_
    refine Ev.bind (Ev.later e2 _) ?_
    refine Ev.bind (Ev.later e3 _) ?_
    have c1 : ((2 : Int) == 0) = false := rfl
    have c2 : ((2 : Int) == 1) = false := rfl
    simp only [h2, c1, c2, beq_self_eq_true, Bool.false_eq_true, if_false, if_true]
    exact Ev.now
  have b2 : (c == 2) = false := by simpa using h2
  by_cases h3 : c = 3
  · obtain ⟨d', e4, k4⟩ := p37a_loop 0 (⟨#[]⟩ : ByteArray) (⟨#[]⟩ : ByteArray) (⟨#[]⟩ : ByteArray) o [] [] [] 200 0 r3 d (by decide) (by decide) (by decide) j3 k1
    refine ⟨d', o, Ev.eqn 31 (fun k => c37_eq k x) ?_, k4, p2⟩
    refine Ev.bind (Ev.later (s57 x) _) ?_
    refine Ev.bind (Ev.later e1 _) ?_
    refine Ev.bind (Ev.later e2 _) ?_
    refine Ev.bind (Ev.later e3 _) ?_
    have c1 : ((3 : Int) == 0) = false := rfl
    have c2 : ((3 : Int) == 1) = false := rfl
    have c3 : ((3 : Int) == 2) = false := rfl
    simp only [h3, c1, c2, c3, beq_self_eq_true, Bool.false_eq_true, if_false, if_true]
    exact Ev.later e4 _
  have b3 : (c == 3) = false := by simpa using h3
  refine ⟨d, o, Ev.eqn 31 (fun k => c37_eq k x) ?_, k1, p2⟩
  refine Ev.bind (Ev.later (s57 x) _) ?_
  refine Ev.bind (Ev.later e1 _) ?_
  refine Ev.bind (Ev.later e2 _) ?_
  refine Ev.bind (Ev.later e3 _) ?_
  simp only [b0, b1, b2, b3, Bool.false_eq_true, if_false]
  exact Ev.now
/-! ### Reading behind an operation -/
def rdF (xs : List dFile) (nm : ByteArray) : ByteArray × Bool := if fnd nm xs 0 < 0 then (e0, false) else ((List.getD xs (fnd nm xs 0).toNat tFile.dflt).2.1, true)
theorem read_ok {d : dDisk'} (h : okD d = true) (nm : ByteArray) : readD d nm = rdF d.1 nm := by
  unfold readD rdF
  rw [if_pos h]
theorem asc_inj : ∀ {xs : List dFile} {y z : dFile}, Asc xs → y ∈ xs → z ∈ xs → y.1 = z.1 → y = z
  | x :: l, y, z, h, hy, hz, he => by
    obtain ⟨h1, h2⟩ := List.pairwise_cons.1 h
    rcases List.mem_cons.1 hy with h3 | h3 <;> rcases List.mem_cons.1 hz with h4 | h4
    · rw [h3, h4]
    · subst h3
      exact absurd he (ltS_ne (h1 z h4))
    · subst h4
      exact absurd he.symm (ltS_ne (h1 y h3))
    · exact asc_inj h2 h3 h4 he
theorem rd_in {xs : List dFile} {nm data : ByteArray} (h : Asc xs) (hm : (nm, data, ()) ∈ xs) : rdF xs nm = (data, true) := by
  unfold rdF
  by_cases hf : fnd nm xs 0 < 0
  · exfalso
    rcases fnd_cases nm xs 0 (Int.le_refl _) with ⟨h1, _⟩ | ⟨a, y, b, rfl, h2, h3, h4⟩
    · exact h1 _ hm rfl
    · omega
  · obtain ⟨_, _, h3, h4⟩ := fnd_lt hf
    rw [if_neg hf, asc_inj h h3 hm h4]
theorem rd_out {xs : List dFile} {nm : ByteArray} (h : ∀ y ∈ xs, y.1 ≠ nm) : rdF xs nm = (e0, false) := by
  unfold rdF
  rw [if_pos]
  rcases fnd_cases nm xs 0 (Int.le_refl _) with ⟨_, h1⟩ | ⟨a, y, b, rfl, h2, h3, h4⟩
  · rw [h1]
    decide
  · exact absurd h2 (h y (by simp))
theorem put_in {nm data : ByteArray} {l : List dFile} : (nm, data, ()) ∈ putG nm data false l := put_perm.symm.subset (by simp)
theorem cut_out {nm : ByteArray} {l : List dFile} : ∀ y ∈ cutF nm l, y.1 ≠ nm := by
  intro y hy
  simpa using (List.mem_filter.1 hy).2
theorem put_out {nm nm2 data : ByteArray} {l : List dFile} (h : nm2 ≠ nm) (hl : ∀ y ∈ l, y.1 ≠ nm) : ∀ y ∈ putG nm2 data false l, y.1 ≠ nm := by
  intro y hy
  rcases List.mem_cons.1 (put_perm.subset hy) with rfl | hy
  · exact h
  · exact hl y (List.mem_filter.1 hy).1
theorem act_no {d : dDisk'} {o : dDOp} (h : ¬ (actD d o).2 = 0) : (actD d o).1 = d := by
  unfold actD at h ⊢
  by_cases hf : formOk o = true
  · rw [if_pos hf] at h ⊢
    by_cases hd : (doF d.1 o).2 = true
    · rw [if_pos hd] at h ⊢
      by_cases hn : d.2.2.1.length = 200
      · rw [if_pos hn]
      · rw [if_neg hn] at h ⊢
        by_cases hk : filesOk (doF d.1 o).1 = true
        · rw [if_pos hk] at h
          exact absurd rfl h
        · rw [if_neg hk]
    · rw [if_neg hd]
  · rw [if_neg hf]
theorem act_yes {d : dDisk'} {o : dDOp} (h : (actD d o).2 = 0) : formOk o = true ∧ (doF d.1 o).2 = true ∧ filesOk (doF d.1 o).1 = true ∧ (actD d o).1 = ((doF d.1 o).1, d.2.1, d.2.2.1 ++ [o], ()) := by
  unfold actD at h ⊢
  by_cases hf : formOk o = true
  · rw [if_pos hf] at h ⊢
    by_cases hd : (doF d.1 o).2 = true
    · rw [if_pos hd] at h ⊢
      by_cases hn : d.2.2.1.length = 200
      · rw [if_pos hn] at h
        cases h
      · rw [if_neg hn] at h ⊢
        by_cases hk : filesOk (doF d.1 o).1 = true
        · rw [if_pos hk]
          exact ⟨hf, hd, hk, rfl⟩
        · rw [if_neg hk] at h
          cases h
    · rw [if_neg hd] at h
      cases h
  · rw [if_neg hf] at h
    cases h
theorem rd_append {xs : List dFile} {o : dDOp} (ha : Asc xs) (h1 : o.1 = 1) : rdF (doF xs o).1 o.2.1 = ((rdF xs o.2.1).1 ++ o.2.2.2.1, true) := by
  unfold doF
  rw [if_pos h1]
  rw [rd_in (put_asc ha) put_in]
  unfold rdF
  by_cases hf : fnd o.2.1 xs 0 < 0
  · rw [if_pos hf, if_neg (by omega)]
    refine Prod.ext ?_ rfl
    exact toList_inj (by simp [ByteArray.toList_eq, e0])
  · rw [if_neg hf, if_pos (by omega)]
theorem rd_rename {xs : List dFile} {o : dDOp} (ha : Asc xs) (h1 : o.1 = 2) (hd : (doF xs o).2 = true) : rdF (doF xs o).1 o.2.2.1 = ((rdF xs o.2.1).1, true) ∧ (rdF (doF xs o).1 o.2.1).2 = decide (o.2.2.1 = o.2.1) := by
  have hn1 : ¬ o.1 = 1 := by omega
  unfold doF at hd ⊢
  rw [if_neg hn1] at hd ⊢
  by_cases hf : fnd o.2.1 xs 0 < 0
  · rw [if_pos hf] at hd
    cases hd
  · rw [if_neg hf, if_pos h1]
    have hin := rd_in (put_asc (nm := o.2.2.1) (data := (List.getD xs (fnd o.2.1 xs 0).toNat tFile.dflt).2.1) (asc_cut (nm := o.2.1) ha)) put_in
    refine ⟨?_, ?_⟩
    · rw [hin]
      unfold rdF
      rw [if_neg hf]
    · by_cases he : o.2.2.1 = o.2.1
      · have h5 : ∀ nm, o.2.2.1 = nm → (rdF (putG o.2.2.1 (List.getD xs (fnd o.2.1 xs 0).toNat tFile.dflt).2.1 false (cutF o.2.1 xs)) nm).2 = true := by
          rintro _ rfl
          rw [hin]
        simp only
        rw [h5 _ he]
        simp [he]
      · simp only
        rw [rd_out (put_out he cut_out)]
        simp [he]
theorem rd_remove {xs : List dFile} {o : dDOp} (h1 : o.1 = 3) (hd : (doF xs o).2 = true) : (rdF (doF xs o).1 o.2.1).2 = false := by
  have hn1 : ¬ o.1 = 1 := by omega
  have hn2 : ¬ o.1 = 2 := by omega
  unfold doF at hd ⊢
  rw [if_neg hn1] at hd ⊢
  by_cases hf : fnd o.2.1 xs 0 < 0
  · rw [if_pos hf] at hd
    cases hd
  · rw [if_neg hf, if_neg hn2]
    simp only
    rw [rd_out cut_out]
theorem s9 {x : List Int} (he : ∀ b ∈ x, 0 ≤ b ∧ b ≤ 255) : Ev (fun k => c9 k x) ((true, ()), ()) := by
  refine Ev.eqn 48 (fun k => c9_eq k x) ?_
  refine Ev.bind (Ev.later (s22 x) _) ?_
  by_cases hb : (x.length : Int) > 1048576
  · simp only [hb, decide_true, if_true]
    exact Ev.now
  · obtain ⟨d, o, e1, k1, po⟩ := s37 (x := x) (by omega) he
    have f := k1.fit
    have hl1 := k1.l1
    have hl2 := k1.l2
    have hl3 := k1.l3
    have ho : o.2.2.2.1.size ≤ 1099511627776 := by omega
    have ed : ((d.1, d.2.1, d.2.2.1, ()) : dDisk') = d := rfl
    have eo : ((o.1, o.2.1, o.2.2.1, o.2.2.2.1, ()) : dDOp) = o := rfl
    have c28 := s28 (d := d) f.h1 (Nat.le_succ_of_le f.h2) f.h3 f.t1 f.t2 f.ho
    simp only [hb, decide_false, Bool.false_eq_true, if_false]
    refine Ev.bind (Ev.later e1 _) ?_
    simp only [ed, eo]
    refine Ev.bind (Ev.later (s38 f (by omega) (by omega) (by omega) ho) _) ?_
    refine Ev.bind (Ev.later (s39 f (by omega) (by omega) (by omega) ho) _) ?_
    simp only [bne_self_eq_false, Bool.false_eq_true, if_false, beq_self_eq_true]
    refine Ev.bind (Ev.later c28 _) ?_
    cases hk : okD d with
    | false =>
      simp only [Bool.not_false, if_true]
      exact Ev.now
    | true =>
      have hdo : doD d o = actD d o := by unfold doD; rw [if_pos hk]
      have hD : Dok (actD d o).1 := ⟨ok_act hk, act_ops f.ho ho⟩
      have hW := hD.drw
      have fW := hW.fit
      obtain ⟨_, _, _, p4, _⟩ := okD_parts hk
      have ha : Asc d.1 := (chk_iff.1 p4).2.1
      simp only [hdo, Bool.not_true, Bool.false_eq_true, if_false]
      by_cases hz : (actD d o).2 = 0
      · obtain ⟨q1, q2, q3, q4⟩ := act_yes hz
        have e1 : (actD d o).1.1 = (doF d.1 o).1 := by rw [q4]
        have e2 : (actD d o).1.2.1 = d.2.1 := by rw [q4]
        have e3 : (actD d o).1.2.2.1 = d.2.2.1 ++ [o] := by rw [q4]
        have ea : (((actD d o).1.1, (actD d o).1.2.1, (actD d o).1.2.2.1, ()) : dDisk') = (actD d o).1 := rfl
        have r1 := s36 (d := (actD d o).1) fW o.2.1
        have r2 := s36 (d := d) f o.2.1
        have r3 := s36 (d := (actD d o).1) fW o.2.2.1
        rw [read_ok hD.ok, e1] at r1 r3
        rw [read_ok hk] at r2
        have c27 := s27 (d := (actD d o).1) fW.h1 fW.h2 fW.h3 fW.t1 fW.t2 fW.ho
        rw [hD.ok] at c27
        have c31 := s31s (xs := d.2.1) (by omega)
        have hw : IntKind.i64.wrap ((d.2.2.1.length : Int) + 1) = (((d.2.2.1 ++ [o]).length : Nat) : Int) := by
          rw [wr (by omega) (by omega), List.length_append, List.length_singleton]
          omega
        have hnz : ((actD d o).2 != 0) = false := by rw [hz]; rfl
        have hkind : 1 ≤ o.1 ∧ o.1 ≤ 3 := by
          unfold formOk at q1
          simp only [Bool.and_eq_true, decide_eq_true_eq] at q1
          exact q1.1.1
        simp only [hnz, Bool.false_eq_true, if_false, ea]
        refine Ev.bind (Ev.later r1 _) ?_
        refine Ev.bind (Ev.later r2 _) ?_
        by_cases h1 : o.1 = 1
        · have hr := rd_append ha h1
          have hsz : (rdF d.1 o.2.1).1.size + o.2.2.2.1.size ≤ 9223372036854775807 := by
            have : (rdF d.1 o.2.1).1.size ≤ tot d.1 := by
              unfold rdF
              by_cases hf : fnd o.2.1 d.1 0 < 0
              · rw [if_pos hf]
                exact Nat.zero_le _
              · rw [if_neg hf]
                exact mem_tot (fnd_lt hf).2.2.1
            have := f.t1
            omega
          simp only [h1, beq_self_eq_true, if_true, hr, Bool.not_true, Bool.false_eq_true, if_false, hsz]
          refine Ev.bind (Ev.later c27 _) ?_
          simp only [if_true, e2, e3]
          refine Ev.bind (Ev.later c31 _) ?_
          simp only [if_true, hw, beq_self_eq_true]
          exact Ev.now
        · have b1 : (o.1 == 1) = false := by simpa using h1
          by_cases h2 : o.1 = 2
          · obtain ⟨hr, hr2⟩ := rd_rename ha h2 q2
            have c1 : ((2 : Int) == 1) = false := rfl
            simp only [h2, c1, beq_self_eq_true, if_true, Bool.false_eq_true, if_false]
            refine Ev.bind (Ev.later r3 _) ?_
            simp only [hr, hr2, Bool.not_true, Bool.false_eq_true, if_false, beq_self_eq_true, eqS]
            refine Ev.bind (Ev.later c27 _) ?_
            simp only [if_true, e2, e3]
            refine Ev.bind (Ev.later c31 _) ?_
            simp only [if_true, hw, beq_self_eq_true]
            exact Ev.now
          · have b2 : (o.1 == 2) = false := by simpa using h2
            have h3 : o.1 = 3 := by omega
            have hr := rd_remove h3 q2
            have c1 : ((3 : Int) == 1) = false := rfl
            have c2 : ((3 : Int) == 2) = false := rfl
            simp only [h3, c1, c2, beq_self_eq_true, if_true, Bool.false_eq_true, if_false, hr]
            refine Ev.bind (Ev.later c27 _) ?_
            simp only [if_true, e2, e3]
            refine Ev.bind (Ev.later c31 _) ?_
            simp only [if_true, hw, beq_self_eq_true]
            exact Ev.now
      · have hn := act_no hz
        have hnz : ((actD d o).2 != 0) = true := by simpa using hz
        simp only [hnz, if_true, hn]
        refine Ev.bind (Ev.later (s31s (xs := d.1) (by omega)) _) ?_
        simp only [if_true]
        refine Ev.bind (Ev.later (s31s (xs := d.2.1) (by omega)) _) ?_
        simp only [if_true, beq_self_eq_true]
        exact Ev.now
end Go.Proofs.Ytcfnhfbaakflgaa.Abs
