/- FnExactReplace says true. -/
import Derived.Test.YtcfnhfbaakflgaaAbsPDisk11
set_option linter.unusedVariables false
set_option linter.unusedSimpArgs false
namespace Go.Proofs.Ytcfnhfbaakflgaa.Abs
open Go

abbrev dotNew : ByteArray := ⟨#[46, 110, 101, 119]⟩
abbrev opA (nm data : ByteArray) : dDOp := (1, nm ++ dotNew, e0, data, ())
abbrev opR (nm : ByteArray) : dDOp := (2, nm ++ dotNew, nm, e0, ())
abbrev opX (nm : ByteArray) : dDOp := (3, nm ++ dotNew, e0, e0, ())
theorem c92_eq (k : Nat) (x0 : Int) (xs ys : List dDOp) : c92 k x0 xs ys = if x0 = 0 ∧ 0 < xs.length ∧ 0 < ys.length ∧ (xs.length + ys.length) * 56 ≤ 140737488355328 then some ((ys ++ xs, ()), ()) else none := by kernel_rfl
theorem s92 {xs ys : List dDOp} (hx : 0 < xs.length) (hy : 0 < ys.length) (hl : xs.length + ys.length ≤ 1048576) : Ev (fun k => c92 k 0 xs ys) ((ys ++ xs, ()), ()) := ⟨0, fun k _ => by
  show c92 k 0 xs ys = _
  rw [c92_eq, if_pos ⟨rfl, hx, hy, mul56 hl⟩]⟩
/-- Operations on a right disk, until one is refused. -/
def actsD : dDisk' → List dDOp → dDisk' × Int
  | d, [] => (d, 0)
  | d, o :: l => if (actD d o).2 = 0 then actsD (actD d o).1 l else (d, (actD d o).2)
def repD (d0 d : dDisk') (l : List dDOp) : dDisk' × Int := if (actsD d l).2 = 0 then ((actsD d l).1, 0) else (d0, (actsD d l).2)
theorem rep_nil {d0 d : dDisk'} : repD d0 d [] = (d, 0) := by simp [repD, actsD]
theorem rep_yes {d0 d : dDisk'} {o : dDOp} {l : List dDOp} (h : (actD d o).2 = 0) : repD d0 d (o :: l) = repD d0 (actD d o).1 l := by
  simp only [repD, actsD, if_pos h]
theorem rep_no {d0 d : dDisk'} {o : dDOp} {l : List dDOp} (h : ¬ (actD d o).2 = 0) : repD d0 d (o :: l) = (d0, (actD d o).2) := by
  simp only [repD, actsD, if_neg h]
def repOps (d : dDisk') (nm data : ByteArray) : List dDOp := if fnd (nm ++ dotNew) d.1 0 ≥ 0 then [opX nm, opA nm data, opR nm] else [opA nm data, opR nm]
def replaceD (d : dDisk') (nm data : ByteArray) : dDisk' × Int := if okD d = true then repD d d (repOps d nm data) else (([], [], [], ()), 1)
theorem ok_lims {d : dDisk'} (h : okD d = true) : d.1.length ≤ 1048576 ∧ d.2.1.length ≤ 1048576 ∧ d.2.2.1.length ≤ 1048575 ∧ tot d.1 ≤ 1099511627776 ∧ chk none d.1 = true := by
  obtain ⟨_, _, p3, p4, p5, p6, p7, p8⟩ := okD_parts h
  exact ⟨by omega, by omega, by omega, by omega, p4⟩
/-! ### The program -/
theorem s46_loop {d0 : dDisk'} {ops : List dDOp} (h0 : okD d0 = true) (hops : ∀ o ∈ ops, o.2.2.2.1.size ≤ 1099511627776) (hl : ops.length ≤ 1000) (x6 x7 : List dFile) (x8 : List dDOp) : ∀ (l pre : List dDOp) (d : dDisk'), ops = pre ++ l → okD d = true →
    Ev (fun k => p46_8 k (ops.length : Int) (pre.length : Int) d0.1 d0.2.1 d0.2.2.1 ops x6 x7 x8 d.1 d.2.1 d.2.2.1) ((((repD d0 d l).1.1, (repD d0 d l).1.2.1, (repD d0 d l).1.2.2.1, ()), (repD d0 d l).2, ()), ())
  | [], pre, d, he, hd => by
    refine Ev.eqn 19 (fun k => p46_8_eq k (ops.length : Int) (pre.length : Int) d0.1 d0.2.1 d0.2.2.1 ops x6 x7 x8 d.1 d.2.1 d.2.2.1) ?_
    have he : ops = pre := by rw [he]; simp
    subst he
    simp only [Int.lt_irrefl, decide_false, Bool.false_eq_true, if_false, rep_nil]
    exact Ev.now
  | o :: l, pre, d, he, hd => by
    refine Ev.eqn 19 (fun k => p46_8_eq k (ops.length : Int) (pre.length : Int) d0.1 d0.2.1 d0.2.2.1 ops x6 x7 x8 d.1 d.2.1 d.2.2.1) ?_
    have hlt : ((pre.length : Nat) : Int) < (ops.length : Int) := by rw [he]; exact lt_len
    have hg : List.getD ops (Int.toNat (pre.length : Int)) tDOp.dflt = o := by rw [he]; exact getD_at
    have eo : ((o.1, o.2.1, o.2.2.1, o.2.2.2.1, ()) : dDOp) = o := rfl
    have e0' : ((d0.1, d0.2.1, d0.2.2.1, ()) : dDisk') = d0 := rfl
    obtain ⟨l1, l2, l3, t1, hc⟩ := ok_lims hd
    obtain ⟨m1, m2, m3, _, _⟩ := ok_lims h0
    simp only [hlt, nn, decide_true, if_true, hg, eo, e0']
    refine Ev.bind (Ev.later (s85 (d := d) (o := o) hc l1 l3 t1 (hops o (by rw [he]; simp))) _) ?_
    by_cases hz : (actD d o).2 = 0
    · rw [rep_yes hz]
      have hzb : ((actD d o).2 != 0) = false := by rw [hz]; rfl
      simp only [hzb, Bool.false_eq_true, if_false]
      rw [wr1 (xs := ops) (y := o) (by rw [he]; simp) (by omega)]
      exact Ev.later (s46_loop h0 hops hl x6 x7 x8 l (pre ++ [o]) (actD d o).1 (by rw [he]; simp) (ok_act hd)) 1
    · rw [rep_no hz]
      have hzb : ((actD d o).2 != 0) = true := by simpa using hz
      simp only [hzb, if_true]
      refine Ev.bind (Ev.later (s73 (d := d0) m1 m2 (by omega)) _) ?_
      exact Ev.now
theorem s46 {d : dDisk'} (h : Fit d) (l1 : d.1.length ≤ 1048576) (l2 : d.2.1.length ≤ 1048576) (l3 : d.2.2.1.length ≤ 1048576) {nm data : ByteArray} (hn : nm.size ≤ 1048576) (hdt : data.size ≤ 1048576) : Ev (fun k => c46 k d nm data) ((((replaceD d nm data).1.1, (replaceD d nm data).1.2.1, (replaceD d nm data).1.2.2.1, ()), (replaceD d nm data).2, ()), ()) := by
  refine Ev.eqn 23 (fun k => c46_eq k d nm data) ?_
  have ed : ((d.1, d.2.1, d.2.2.1, ()) : dDisk') = d := rfl
  simp only [ed]
  refine Ev.bind (Ev.later (s27 (d := d) h.h1 h.h2 h.h3 h.t1 h.t2 h.ho) _) ?_
  unfold replaceD
  cases hk : okD d with
  | false =>
    simp only [Bool.not_false, if_true, Bool.false_eq_true, if_false]
    exact Ev.now
  | true =>
    have hsz : nm.size + ByteArray.size (⟨#[46, 110, 101, 119]⟩ : ByteArray) ≤ 9223372036854775807 := by
      have : ByteArray.size (⟨#[46, 110, 101, 119]⟩ : ByteArray) = 4 := rfl
      omega
    simp only [Bool.not_true, Bool.false_eq_true, if_false, if_true]
    refine Ev.bind (Ev.later (s73 l1 l2 l3) _) ?_
    simp only [hsz, if_true]
    refine Ev.bind (Ev.later (s82 (nm := nm ++ dotNew) (xs := d.1) (by omega)) _) ?_
    unfold repOps
    simp only [decide_eq_true_eq]
    have hz : (e0 : ByteArray).size = 0 := rfl
    by_cases hf : fnd (nm ++ dotNew) d.1 0 ≥ 0
    · simp only [hf, if_true]
      refine Ev.bind (Ev.later (s92 (xs := [opA nm data, opR nm]) (ys := [opX nm]) (Nat.succ_pos _) (Nat.succ_pos _) (by show (3 : Nat) ≤ 1048576; decide)) _) ?_
      have := s46_loop (d0 := d) (ops := [opX nm, opA nm data, opR nm]) hk (by
        intro o ho
        simp only [List.mem_cons, List.not_mem_nil, or_false] at ho
        rcases ho with rfl | rfl | rfl <;> simp only <;> omega) (by show (3 : Nat) ≤ 1000; decide) [] [] [] [opX nm, opA nm data, opR nm] [] d rfl hk
      exact Ev.later this 1
    · simp only [hf, if_false]
      have := s46_loop (d0 := d) (ops := [opA nm data, opR nm]) hk (by
        intro o ho
        simp only [List.mem_cons, List.not_mem_nil, or_false] at ho
        rcases ho with rfl | rfl <;> simp only <;> omega) (by show (2 : Nat) ≤ 1000; decide) [] [] [] [opA nm data, opR nm] [] d rfl hk
      exact Ev.later this 1
/-! ### The reference -/
theorem s86o {d : dDisk'} {o : dDOp} (h : okD d = true) (ho : o.2.2.2.1.size ≤ 1099511627776) : Ev (fun k => c86 k (d.1, d.2.1, d.2.2.1, ()) o) ((((actD d o).1.1, (actD d o).1.2.1, (actD d o).1.2.2.1, ()), (actD d o).2, ()), ()) := by
  obtain ⟨l1, l2, l3, t1, _⟩ := ok_lims h
  exact s86 (d := d) l1 l2 l3 t1 ho
theorem s93o {d : dDisk'} (h : okD d = true) : Ev (fun k => c93 k (d.1, d.2.1, d.2.2.1, ())) (((d.1, d.2.1, d.2.2.1, ()), ()), ()) := by
  obtain ⟨l1, l2, l3, t1, _⟩ := ok_lims h
  exact s93 (d := d) l1 l2 (by omega)
theorem s47 {d : dDisk'} (h : Fit d) {nm data : ByteArray} (hn : nm.size ≤ 1048576) (hdt : data.size ≤ 1048576) : Ev (fun k => c47 k d nm data) ((((replaceD d nm data).1.1, (replaceD d nm data).1.2.1, (replaceD d nm data).1.2.2.1, ()), (replaceD d nm data).2, ()), ()) := by
  refine Ev.eqn 36 (fun k => c47_eq k d nm data) ?_
  refine Ev.bind (Ev.later (s28 (d := (d.1, d.2.1, d.2.2.1, ())) h.h1 (Nat.le_succ_of_le h.h2) h.h3 h.t1 h.t2 h.ho) _) ?_
  have ed : okD (d.1, d.2.1, d.2.2.1, ()) = okD d := rfl
  simp only [ed]
  unfold replaceD
  cases hk : okD d with
  | false =>
    simp only [Bool.not_false, if_true, Bool.false_eq_true, if_false]
    exact Ev.now
  | true =>
    have hsz : nm.size + ByteArray.size (⟨#[46, 110, 101, 119]⟩ : ByteArray) ≤ 9223372036854775807 := by
      have : ByteArray.size (⟨#[46, 110, 101, 119]⟩ : ByteArray) = 4 := rfl
      omega
    have hz : (e0 : ByteArray).size = 0 := rfl
    have h1 := h.h1
    have hA : (opA nm data).2.2.2.1.size ≤ 1099511627776 := by simp only; omega
    have hR : (opR nm).2.2.2.1.size ≤ 1099511627776 := by simp only; omega
    have hX : (opX nm).2.2.2.1.size ≤ 1099511627776 := by simp only; omega
    simp only [Bool.not_true, Bool.false_eq_true, if_false, if_true, hsz]
    refine Ev.bind (Ev.later (s81 (nm := nm ++ dotNew) (xs := d.1) (by omega)) _) ?_
    unfold repOps
    simp only [decide_eq_true_eq]
    by_cases hf : fnd (nm ++ dotNew) d.1 0 ≥ 0
    · simp only [hf, if_true]
      refine Ev.bind (Ev.later (s86o (o := opX nm) hk hX) _) ?_
      by_cases hz1 : (actD d (opX nm)).2 = 0
      · have k1 := ok_act (o := opX nm) hk
        rw [rep_yes hz1]
        simp only [hz1, beq_self_eq_true, if_true]
        refine Ev.bind (Ev.later (s86o (o := opA nm data) k1 hA) _) ?_
        by_cases hz2 : (actD (actD d (opX nm)).1 (opA nm data)).2 = 0
        · have k2 := ok_act (o := opA nm data) k1
          rw [rep_yes hz2]
          simp only [hz2, beq_self_eq_true, if_true]
          refine Ev.bind (Ev.later (s86o (o := opR nm) k2 hR) _) ?_
          by_cases hz3 : (actD (actD (actD d (opX nm)).1 (opA nm data)).1 (opR nm)).2 = 0
          · have k3 := ok_act (o := opR nm) k2
            rw [rep_yes hz3, rep_nil]
            have hb3 : ((0 : Int) != 0) = false := rfl
            simp only [hz3, hb3, Bool.false_eq_true, if_false]
            refine Ev.bind (Ev.later (s93o k3) _) ?_
            exact Ev.now
          · rw [rep_no hz3]
            have hb3 : ((actD (actD (actD d (opX nm)).1 (opA nm data)).1 (opR nm)).2 != 0) = true := by simpa using hz3
            simp only [hb3, if_true]
            refine Ev.bind (Ev.later (s93o hk) _) ?_
            exact Ev.now
        · rw [rep_no hz2]
          have hb2 : ((actD (actD d (opX nm)).1 (opA nm data)).2 == 0) = false := by simpa using hz2
          have hb2' : ((actD (actD d (opX nm)).1 (opA nm data)).2 != 0) = true := by simpa using hz2
          simp only [hb2, hb2', Bool.false_eq_true, if_false, if_true]
          refine Ev.bind (Ev.later (s93o hk) _) ?_
          exact Ev.now
      · rw [rep_no hz1]
        have hb1 : ((actD d (opX nm)).2 == 0) = false := by simpa using hz1
        have hb1' : ((actD d (opX nm)).2 != 0) = true := by simpa using hz1
        simp only [hb1, hb1', Bool.false_eq_true, if_false, if_true]
        refine Ev.bind (Ev.later (s93o hk) _) ?_
        exact Ev.now
    · simp only [hf, if_false]
      refine Ev.bind (Ev.later (s86o (o := opA nm data) hk hA) _) ?_
      by_cases hz2 : (actD d (opA nm data)).2 = 0
      · have k2 := ok_act (o := opA nm data) hk
        rw [rep_yes hz2]
        simp only [hz2, beq_self_eq_true, if_true]
        refine Ev.bind (Ev.later (s86o (o := opR nm) k2 hR) _) ?_
        by_cases hz3 : (actD (actD d (opA nm data)).1 (opR nm)).2 = 0
        · have k3 := ok_act (o := opR nm) k2
          rw [rep_yes hz3, rep_nil]
          have hb3 : ((0 : Int) != 0) = false := rfl
          simp only [hz3, hb3, Bool.false_eq_true, if_false]
          refine Ev.bind (Ev.later (s93o k3) _) ?_
          exact Ev.now
        · rw [rep_no hz3]
          have hb3 : ((actD (actD d (opA nm data)).1 (opR nm)).2 != 0) = true := by simpa using hz3
          simp only [hb3, if_true]
          refine Ev.bind (Ev.later (s93o hk) _) ?_
          exact Ev.now
      · rw [rep_no hz2]
        have hb2 : ((actD d (opA nm data)).2 == 0) = false := by simpa using hz2
        have hb2' : ((actD d (opA nm data)).2 != 0) = true := by simpa using hz2
        simp only [hb2, hb2', Bool.false_eq_true, if_false, if_true]
        refine Ev.bind (Ev.later (s93o hk) _) ?_
        exact Ev.now
theorem acts_ok : ∀ {l : List dDOp} {d : dDisk'}, okD d = true → okD (actsD d l).1 = true
  | [], d, h => h
  | o :: l, d, h => by
    unfold actsD
    split
    · exact acts_ok (ok_act h)
    · exact h
theorem rep_ok {d0 d : dDisk'} {l : List dDOp} (h0 : okD d0 = true) (h : okD d = true) : okD (repD d0 d l).1 = true := by
  unfold repD
  split
  · exact acts_ok h
  · exact h0
theorem replace_ok (d : dDisk') (nm data : ByteArray) : okD (replaceD d nm data).1 = true := by
  unfold replaceD
  split
  · rename_i h
    exact rep_ok h h
  · exact Dok.nil.ok
theorem s14 {d : dDisk} (hd : SmD d) (nm data : ByteArray) : Ev (fun k => c14 k d nm data) ((true, ()), ()) := by
  refine Ev.eqn 88 (fun k => c14_eq k d nm data) ?_
  have e : ((d.1, d.2.1, d.2.2.1, ()) : dDisk) = d := rfl
  simp only [e, decide_eq_true_eq]
  by_cases hb1 : (nm.size : Int) > 1048576
  · simp only [hb1, if_true]
    exact Ev.now
  by_cases hb2 : (data.size : Int) > 1048576
  · simp only [hb1, hb2, if_true, if_false]
    exact Ev.now
  simp only [hb1, hb2, if_false]
  refine Ev.bind (Ev.later (s32 hd (by decide) (by decide)) _) ?_
  simp only
  by_cases hn : szD d 1048576 < 0
  · simp only [hn, if_true]
    exact Ev.now
  obtain ⟨hf, l1, l2, l3⟩ := szD_fit hn
  have c33 := s33 (d := d) (mul32 (by omega)) (mul32 (by omega)) (mul56 l3)
  have hS := s46 hf l1 l2 l3 (nm := nm) (data := data) (by omega) (by omega)
  obtain ⟨n1, n2, n3, _⟩ := ok_lims (replace_ok (d.1, d.2.1, d.2.2.1, ()) nm data)
  have hEq := s34s n1 n2 (Nat.le_succ_of_le n3)
  have hEd := s34s (a := (d.1, d.2.1, d.2.2.1, ())) l1 l2 l3
  simp only [hn, if_false]
  refine Ev.bind (Ev.later c33 _) ?_
  refine Ev.bind (Ev.later (s47 hf (nm := nm) (data := data) (by omega) (by omega)) _) ?_
  refine Ev.bind (Ev.later c33 _) ?_
  refine Ev.bind (Ev.later hS _) ?_
  refine Ev.bind (Ev.later hEq _) ?_
  simp only [Bool.not_true, Bool.false_eq_true, if_false, bne_self_eq_false]
  refine Ev.bind (Ev.later c33 _) ?_
  refine Ev.bind (Ev.later hEd _) ?_
  simp only [Bool.not_true, Bool.false_eq_true, if_false]
  refine Ev.bind (Ev.later (s41 (by omega) (by omega) (by omega)) _) ?_
  simp only [mEnd_pos, if_false]
  refine Ev.bind (Ev.later hEq _) ?_
  simp only [Bool.not_true, Bool.false_eq_true, if_false, bne_self_eq_false]
  refine Ev.bind (Ev.later (s41 (by omega) (by omega) (by omega)) _) ?_
  refine Ev.bind (Ev.later (s42 (by omega) (by omega) (by omega)) _) ?_
  simp only [mEnd_pos, if_false, bne_self_eq_false, Bool.false_eq_true]
  refine Ev.bind (Ev.later c33 _) ?_
  refine Ev.bind (Ev.later hS _) ?_
  refine Ev.bind (Ev.later hEq _) ?_
  simp only [Bool.not_true, Bool.false_eq_true, if_false, bne_self_eq_false]
  refine Ev.bind (Ev.later (s42 (by omega) (by omega) (by omega)) _) ?_
  simp only [mEnd_pos, if_false, bne_self_eq_false, Bool.false_eq_true]
  exact Ev.now
end Go.Proofs.Ytcfnhfbaakflgaa.Abs
