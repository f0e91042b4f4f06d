/- The program's disks are the reference's; FnExactDiskOk and FnExactReadFile say true. -/
import Derived.Test.YtcfnhfbaakflgaaAbsPDisk4
set_option linter.unusedVariables false
set_option linter.unusedSimpArgs false
namespace Go.Proofs.Ytcfnhfbaakflgaa.Abs
open Go

theorem swoF : Sort.SWO (α := tFile.den) ltF where
  irrefl x := ltS_irrefl x.1
  trans x y z h k := ltS_trans h k
  ntrans x y z h k := by
    show ltS x.1 z.1 = false
    cases hz : ltS x.1 z.1 with
    | false => rfl
    | true =>
      exfalso
      have h : ltS x.1 y.1 = false := h
      have k : ltS y.1 z.1 = false := k
      rcases ltS_total y.1 z.1 with h1 | h1 | h1
      · rw [h1] at k
        cases k
      · rw [h1, hz] at h
        cases h
      · rw [ltS_trans hz h1] at h
        cases h
abbrev Asc (l : List dFile) : Prop := l.Pairwise fun a b => ltS a.1 b.1 = true
theorem chk_iff : ∀ {l : List dFile} {p : Option ByteArray}, chk p l = true ↔ (∀ y ∈ l, nameOk y.1 = true) ∧ Asc l ∧ ∀ q, p = some q → ∀ y ∈ l, ltS q y.1 = true
  | [], p => by simp [chk]
  | y :: l, p => by
    unfold chk
    rw [Bool.and_eq_true, Bool.and_eq_true, chk_iff (l := l)]
    constructor
    · rintro ⟨⟨h1, h2⟩, h3, h4, h5⟩
      have h5 := h5 y.1 rfl
      refine ⟨fun z hz => (List.mem_cons.1 hz).elim (fun e => e ▸ h1) (h3 z), List.pairwise_cons.2 ⟨h5, h4⟩, fun q hq z hz => ?_⟩
      subst hq
      rcases List.mem_cons.1 hz with rfl | hz
      · exact h2
      · exact ltS_trans h2 (h5 z hz)
    · rintro ⟨h1, h2, h3⟩
      obtain ⟨h4, h5⟩ := List.pairwise_cons.1 h2
      refine ⟨⟨h1 y (by simp), ?_⟩, fun z hz => h1 z (List.mem_cons_of_mem _ hz), h5, fun q hq z hz => ?_⟩
      · cases p with
        | none => rfl
        | some q => exact h3 q rfl y (by simp)
      · cases hq
        exact h4 z hz
theorem put_true {nm data : ByteArray} : ∀ {l : List dFile}, putG nm data true l = cutF nm l
  | [] => rfl
  | y :: l => by
    unfold putG
    rw [if_neg (by simp), put_true]
    unfold cutF
    rw [List.filter_cons]
    by_cases h : y.1 = nm <;> simp [h]
theorem put_perm {nm data : ByteArray} : ∀ {l : List dFile}, (putG nm data false l).Perm ((nm, data, ()) :: cutF nm l)
  | [] => by simp [putG, cutF]
  | y :: l => by
    unfold putG
    by_cases h : ltS y.1 nm = false
    · rw [if_pos ⟨rfl, h⟩, put_true]
      refine List.Perm.cons _ ?_
      unfold cutF
      rw [List.filter_cons]
      by_cases h2 : y.1 = nm <;> simp [h2]
    · have h2 : ltS y.1 nm = true := by simpa using h
      have h3 : ¬ y.1 = nm := ltS_ne h2
      rw [if_neg (by simp [h2]), if_neg h3]
      have e : cutF nm (y :: l) = y :: cutF nm l := by simp [cutF, h3]
      rw [e]
      exact (List.Perm.cons y put_perm).trans (List.Perm.swap _ _ _)
theorem asc_cut {nm : ByteArray} {l : List dFile} (h : Asc l) : Asc (cutF nm l) := List.Pairwise.filter _ h
theorem put_asc {nm data : ByteArray} : ∀ {l : List dFile}, Asc l → Asc (putG nm data false l)
  | [], _ => by simp [putG]
  | y :: l, h => by
    obtain ⟨h1, h2⟩ := List.pairwise_cons.1 h
    by_cases h3 : ltS y.1 nm = false
    · have e : putG nm data false (y :: l) = (nm, data, ()) :: cutF nm (y :: l) := by
        unfold putG
        rw [if_pos ⟨rfl, h3⟩, put_true]
        congr 1
        unfold cutF
        rw [List.filter_cons]
        by_cases h2 : y.1 = nm <;> simp [h2]
      rw [e]
      refine List.pairwise_cons.2 ⟨fun z hz => ?_, asc_cut h⟩
      have hz2 : z ∈ y :: l ∧ ¬ z.1 = nm := by simpa [cutF] using hz
      have hny : y.1 = nm ∨ ltS nm y.1 = true := by
        rcases ltS_total nm y.1 with h4 | h4 | h4
        · exact .inr h4
        · exact .inl h4.symm
        · rw [h4] at h3
          cases h3
      show ltS nm z.1 = true
      rcases List.mem_cons.1 hz2.1 with rfl | hzl
      · exact hny.elim (fun e => absurd e hz2.2) id
      · rcases hny with e | h4
        · rw [← e]
          exact h1 z hzl
        · exact ltS_trans h4 (h1 z hzl)
    · have h4 : ltS y.1 nm = true := by simpa using h3
      unfold putG
      rw [if_neg (by simp [h4]), if_neg (ltS_ne h4)]
      refine List.pairwise_cons.2 ⟨fun z hz => ?_, put_asc h2⟩
      rcases List.mem_cons.1 (put_perm.subset hz) with rfl | hz
      · exact h4
      · exact h1 z ((List.mem_filter.1 hz).1)
theorem ins_eq {nm data : ByteArray} {l : List dFile} (h : Asc l) : sorted (α := tFile.den) ltF (cutF nm l ++ [(nm, data, ())]) = putG nm data false l := by
  refine perm_sorted (lt := fun a b : dFile => ltS a.1 b.1) ?_ (sorted_sorted swoF _) (put_asc h)
  refine (sorted_perm swoF _).trans ?_
  refine List.Perm.trans ?_ (put_perm (nm := nm) (data := data) (l := l)).symm
  exact List.perm_append_singleton _ _
theorem cut_cut {nm : ByteArray} {l : List dFile} : cutF nm (cutF nm l) = cutF nm l := by
  unfold cutF
  rw [List.filter_filter]
  simp
theorem do_eq {xs : List dFile} {o : dDOp} (h : Asc xs) (hf : formOk o = true) : doH xs o = doF xs o := by
  unfold doH doF
  have hr : o.1 ≥ 1 ∧ o.1 ≤ 3 := by
    unfold formOk at hf
    simp only [Bool.and_eq_true, decide_eq_true_eq] at hf
    exact hf.1.1
  by_cases h1 : o.1 = 1
  · rw [if_pos h1, if_pos h1, cut_cut, ins_eq h]
    congr 2
    by_cases h2 : fnd o.2.1 xs 0 < 0
    · rw [if_pos h2, if_neg (by omega)]
      exact toList_inj (by simp [ByteArray.toList_eq, e0])
    · rw [if_neg h2, if_pos (by omega)]
  · rw [if_neg h1, if_neg h1]
    by_cases h2 : fnd o.2.1 xs 0 < 0
    · rw [if_pos h2, if_pos h2]
    · rw [if_neg h2, if_neg h2]
      by_cases h3 : o.1 = 3
      · rw [if_pos h3, if_neg (by omega)]
      · rw [if_neg h3, if_pos (by omega), ins_eq (asc_cut h)]
theorem chk_do {xs : List dFile} {o : dDOp} (h : chk none xs = true) (hf : formOk o = true) : chk none (doF xs o).1 = true := by
  obtain ⟨h1, h2, _⟩ := chk_iff.1 h
  unfold formOk at hf
  simp only [Bool.and_eq_true, decide_eq_true_eq] at hf
  obtain ⟨⟨⟨hr1, hr2⟩, hn⟩, hrest⟩ := hf
  have hput : ∀ (nm data : ByteArray) (l : List dFile), nameOk nm = true → (∀ y ∈ l, nameOk y.1 = true) → Asc l → chk none (putG nm data false l) = true := by
    intro nm data l h3 h4 h5
    refine chk_iff.2 ⟨fun y hy => ?_, put_asc h5, fun q hq => by cases hq⟩
    rcases List.mem_cons.1 (put_perm.subset hy) with rfl | hy
    · exact h3
    · exact h4 y ((List.mem_filter.1 hy).1)
  have hcut : ∀ y ∈ cutF o.2.1 xs, nameOk y.1 = true := fun y hy => h1 y ((List.mem_filter.1 hy).1)
  unfold doF
  by_cases h3 : o.1 = 1
  · rw [if_pos h3]
    exact hput _ _ _ hn h1 h2
  · rw [if_neg h3]
    by_cases h4 : fnd o.2.1 xs 0 < 0
    · rw [if_pos h4]
      exact h
    · rw [if_neg h4]
      by_cases h5 : o.1 = 2
      · rw [if_pos h5]
        rw [if_pos h5] at hrest
        simp only [Bool.and_eq_true, decide_eq_true_eq] at hrest
        exact hput _ _ _ hrest.1 hcut (asc_cut h2)
      · rw [if_neg h5]
        exact chk_iff.2 ⟨hcut, asc_cut h2, fun q hq => by cases hq⟩
noncomputable def runH : List dFile → List dDOp → Option (List dFile)
  | xs, [] => some xs
  | xs, o :: l => if formOk o && (doH xs o).2 && fewOk (doH xs o).1 then runH (doH xs o).1 l else none
theorem run_eq : ∀ {l : List dDOp} {xs : List dFile}, chk none xs = true → runH xs l = runF xs l
  | [], xs, h => rfl
  | o :: l, xs, h => by
    unfold runH runF
    cases hf : formOk o with
    | false => simp
    | true =>
      rw [do_eq (chk_iff.1 h).2.1 hf]
      have hc := chk_do h hf
      have e : filesOk (doF xs o).1 = fewOk (doF xs o).1 := by rw [← filesOk_eq, hc, Bool.true_and]
      rw [e, Bool.true_and, Bool.and_true, run_eq hc]
theorem tot_perm {a b : List dFile} (h : a.Perm b) : tot a = tot b := by
  induction h with
  | nil => rfl
  | cons x h ih => simp only [tot, ih]
  | swap x y l => simp only [tot]; omega
  | trans h1 h2 ih1 ih2 => exact ih1.trans ih2
theorem tot_doH {xs : List dFile} {o : dDOp} : tot (doH xs o).1 ≤ 2 * tot xs + o.2.2.2.1.size ∧ (doH xs o).1.length ≤ xs.length + 1 := by
  have hc1 : ∀ nm, tot (cutF nm (cutF o.2.1 xs)) ≤ tot xs := fun nm => Nat.le_trans tot_cut tot_cut
  have hc2 : ∀ nm, (cutF nm (cutF o.2.1 xs)).length ≤ xs.length := fun nm => Nat.le_trans cut_len cut_len
  have hs : ∀ (nm : ByteArray) (f : dFile), tot (sorted (α := tFile.den) ltF (cutF nm (cutF o.2.1 xs) ++ [f])) = tot (cutF nm (cutF o.2.1 xs)) + f.2.1.size := fun nm f => by
    rw [tot_perm (sorted_perm swoF _), tot_append]
    simp [tot]
  have hl : ∀ (nm : ByteArray) (f : dFile), (sorted (α := tFile.den) ltF (cutF nm (cutF o.2.1 xs) ++ [f])).length = (cutF nm (cutF o.2.1 xs)).length + 1 := fun nm f => by
    rw [sorted_len swoF, List.length_append]
    rfl
  unfold doH
  split
  · have h1 := hc1 o.2.1
    have h2 := hc2 o.2.1
    refine ⟨?_, ?_⟩
    · simp only [hs]
      rw [ByteArray.size_append]
      split
      · have : ByteArray.size e0 = 0 := rfl
        omega
      · rename_i h3
        have h4 := mem_tot (fnd_lt h3).2.2.1
        omega
    · simp only [hl]
      omega
  · split
    · exact ⟨by simp only; omega, by simp only; omega⟩
    · rename_i h3
      split
      · have h4 := tot_cut (nm := o.2.1) (xs := xs)
        have h5 := cut_len (nm := o.2.1) (xs := xs)
        exact ⟨by simp only; omega, by simp only; omega⟩
      · have h1 := hc1 o.2.2.1
        have h2 := hc2 o.2.2.1
        have h4 := mem_tot (fnd_lt h3).2.2.1
        refine ⟨?_, ?_⟩
        · simp only [hs]
          omega
        · simp only [hl]
          omega
theorem fewOk_small {xs : List dFile} (h : fewOk xs = true) : xs.length ≤ 60 ∧ tot xs ≤ 200000 := by
  simp only [fewOk, Bool.and_eq_true, decide_eq_true_eq] at h
  omega
theorem s27_loop {ops : List dDOp} {live : List dFile} (hn : ops.length ≤ 1099511627776) (ho : SmOps ops) (safe : List dFile) : ∀ (l pre : List dDOp) (now : List dFile), ops = pre ++ l → now.length ≤ 1099511627775 → tot now ≤ 1099511627776 →
    Ev (fun k => p27_5 k now ops (ops.length : Int) (pre.length : Int) live safe ops) ((match runH now l with | some xs => decide (xs = live) | none => false, ()), ())
  | [], pre, now, he, h1, h2 => by
    refine Ev.eqn 21 (fun k => p27_5_eq k now ops (ops.length : Int) (pre.length : Int) live safe ops) ?_
    have he : ops = pre := by rw [he]; simp
    subst he
    simp only [Int.lt_irrefl, decide_false, Bool.false_eq_true, if_false, runH]
    refine Ev.bind (Ev.later (s67 (by omega)) _) ?_
    exact Ev.now
  | o :: l, pre, now, he, h1, h2 => by
    refine Ev.eqn 21 (fun k => p27_5_eq k now ops (ops.length : Int) (pre.length : Int) live safe ops) ?_
    have hlt : ((pre.length : Nat) : Int) < (ops.length : Int) := by rw [he]; exact lt_len
    have hg : List.getD ops (Int.toNat (pre.length : Int)) tDOp.dflt = o := by rw [he]; exact getD_at
    have hoo := ho o (by rw [he]; simp)
    have hb := tot_doH (xs := now) (o := o)
    have e : ((o.1, o.2.1, o.2.2.1, o.2.2.2.1, ()) : dDOp) = o := rfl
    simp only [hlt, nn, decide_true, if_true, hg, runH]
    refine Ev.bind (Ev.later (s64 (o := (o.1, o.2.1, o.2.2.1, o.2.2.2.1, ())) (by omega) (by omega) (by simp only; omega)) _) ?_
    simp only [e]
    refine Ev.bind (Ev.later (s65 (o.1, o.2.1, o.2.2.1, o.2.2.2.1, ())) _) ?_
    simp only [e]
    cases h4 : formOk o with
    | false =>
      simp only [Bool.not_false, if_true, Bool.false_and, Bool.false_eq_true, if_false]
      exact Ev.now
    | true =>
      simp only [Bool.not_true, Bool.false_eq_true, if_false, Bool.true_and]
      cases h3 : (doH now o).2 with
      | false =>
        simp only [Bool.not_false, if_true, Bool.false_and, Bool.false_eq_true, if_false]
        exact Ev.now
      | true =>
        simp only [Bool.not_true, Bool.false_eq_true, if_false, Bool.true_and]
        refine Ev.bind (Ev.later (s66 (xs := (doH now o).1) (by omega) (by omega)) _) ?_
        cases h5 : fewOk (doH now o).1 with
        | false =>
          simp only [Bool.not_false, if_true, Bool.false_eq_true, if_false]
          exact Ev.now
        | true =>
          simp only [Bool.not_true, Bool.false_eq_true, if_false, if_true]
          have h6 := fewOk_small h5
          rw [wr1 (y := o) (by rw [he]; simp) hn]
          exact Ev.later (s27_loop hn ho safe l (pre ++ [o]) (doH now o).1 (by rw [he]; simp) (by omega) (by omega)) 1
theorem s27 {d : dDisk'} (h1 : d.1.length ≤ 1099511627776) (h2 : d.2.1.length ≤ 1099511627775) (h3 : d.2.2.1.length ≤ 1099511627776) (t1 : tot d.1 ≤ 1099511627776) (t2 : tot d.2.1 ≤ 1099511627776) (ho : SmOps d.2.2.1) : Ev (fun k => c27 k d) ((okD d, ()), ()) := by
  refine Ev.eqn 16 (fun k => c27_eq k d) ?_
  unfold okD
  refine Ev.bind (Ev.later (s63 h1 (by omega)) _) ?_
  cases h4 : filesOk d.1 with
  | false =>
    simp only [Bool.not_false, if_true, Bool.false_and]
    exact Ev.now
  | true =>
    simp only [Bool.not_true, Bool.false_eq_true, if_false, Bool.true_and]
    refine Ev.bind (Ev.later (s63 (xs := d.2.1) (by omega) (by omega)) _) ?_
    cases h5 : filesOk d.2.1 with
    | false =>
      simp only [Bool.not_false, if_true, Bool.false_and]
      exact Ev.now
    | true =>
      have hchk : chk none d.2.1 = true := by
        rw [← filesOk_eq, Bool.and_eq_true] at h5
        exact h5.1
      simp only [Bool.not_true, Bool.false_eq_true, if_false, Bool.true_and]
      by_cases h6 : (d.2.2.1.length : Int) > 200
      · have h7 : ¬ (d.2.2.1.length : Int) ≤ 200 := by omega
        simp only [h6, h7, decide_true, if_true, decide_false, Bool.false_and]
        exact Ev.now
      · have h7 : (d.2.2.1.length : Int) ≤ 200 := by omega
        simp only [h6, h7, decide_true, Bool.true_and, decide_false, Bool.false_eq_true, if_false]
        rw [← run_eq hchk]
        exact Ev.later (s27_loop h3 ho d.2.1 d.2.2.1 [] d.2.1 rfl h2 t2) 1
/-! ### A disk with its copy -/
theorem s111 (a b : dFile) : Ev (fun k => c111 k a b) ((decide (a = b), ()), ()) := by
  refine Ev.eqn 15 (fun k => c111_eq k a b) ?_
  obtain ⟨a1, a2, ⟨⟩⟩ := a
  obtain ⟨b1, b2, ⟨⟩⟩ := b
  simp only [eqS]
  by_cases h1 : a1 = b1
  · by_cases h2 : a2 = b2
    · simp only [h1, h2, decide_true, Bool.not_true, Bool.false_eq_true, if_false]
      exact Ev.now
    · simp only [h1, h2, decide_true, Bool.not_true, Bool.false_eq_true, if_false, decide_false, Bool.not_false, if_true, Prod.mk.injEq, true_and, false_and]
      exact Ev.now
  · simp only [h1, decide_false, Bool.not_false, if_true, Prod.mk.injEq, false_and]
    exact Ev.now
theorem s112 (a b : dDOp) : Ev (fun k => c112 k a b) ((decide (a = b), ()), ()) := by
  refine Ev.eqn 25 (fun k => c112_eq k a b) ?_
  obtain ⟨a0, a1, a2, a3, ⟨⟩⟩ := a
  obtain ⟨b0, b1, b2, b3, ⟨⟩⟩ := b
  simp only [eqS, bne_iff_ne, ne_eq]
  by_cases h0 : a0 = b0
  · by_cases h1 : a1 = b1
    · by_cases h2 : a2 = b2
      · by_cases h3 : a3 = b3
        · simp only [h0, h1, h2, h3, decide_true, Bool.not_true, Bool.false_eq_true, if_false, not_true_eq_false]
          exact Ev.now
        · simp only [h0, h1, h2, h3, decide_true, Bool.not_true, Bool.false_eq_true, if_false, decide_false, Bool.not_false, if_true, Prod.mk.injEq, true_and, false_and, not_true_eq_false]
          exact Ev.now
      · simp only [h0, h1, h2, decide_true, Bool.not_true, Bool.false_eq_true, if_false, decide_false, Bool.not_false, if_true, Prod.mk.injEq, true_and, false_and, not_true_eq_false]
        exact Ev.now
    · simp only [h0, h1, decide_true, Bool.not_true, Bool.false_eq_true, if_false, decide_false, Bool.not_false, if_true, Prod.mk.injEq, true_and, false_and, not_true_eq_false]
      exact Ev.now
  · simp only [h0, decide_false, Bool.not_false, if_true, Prod.mk.injEq, false_and, not_false_eq_true]
    exact Ev.now
theorem s79_loop {xs zs : List dFile} (hl : xs.length ≤ 1099511627776) (hz : zs.length = xs.length) : ∀ (ys ws pre qre : List dFile), xs = pre ++ ys → zs = qre ++ ws → qre.length = pre.length → Ev (fun k => p79_4 k xs zs (pre.length : Int)) ((decide (ys = ws), ()), ())
  | [], ws, pre, qre, he, he', hp => by
    refine Ev.eqn 15 (fun k => p79_4_eq k xs zs (pre.length : Int)) ?_
    have hw : ws = [] := by
      rw [he, he'] at hz
      simp only [List.length_append, List.length_nil] at hz
      exact List.eq_nil_of_length_eq_zero (by omega)
    have he : xs = pre := by rw [he]; simp
    subst he
    subst hw
    simp only [Int.lt_irrefl, decide_false, Bool.false_eq_true, if_false, decide_true]
    exact Ev.now
  | y :: ys, [], pre, qre, he, he', hp => by
    rw [he, he'] at hz
    simp only [List.length_append, List.length_nil, List.length_cons] at hz
    omega
  | y :: ys, w :: ws, pre, qre, he, he', hp => by
    refine Ev.eqn 15 (fun k => p79_4_eq k xs zs (pre.length : Int)) ?_
    have hlt : ((pre.length : Nat) : Int) < (xs.length : Int) := by rw [he]; exact lt_len
    have hlt2 : ((pre.length : Nat) : Int) < (zs.length : Int) := by rw [hz]; exact hlt
    have hg : List.getD xs (Int.toNat (pre.length : Int)) tFile.dflt = y := by rw [he]; exact getD_at
    have hg2 : List.getD zs (Int.toNat (pre.length : Int)) tFile.dflt = w := by rw [he', ← hp]; exact getD_at
    simp only [hlt, hlt2, nn, decide_true, if_true, hg, hg2]
    refine Ev.bind (Ev.later (s111 y w) _) ?_
    by_cases h : y = w
    · subst h
      simp only [decide_true, Bool.not_true, Bool.false_eq_true, if_false, List.cons.injEq, true_and]
      rw [wr1 (y := y) (by omega) hl]
      exact Ev.later (s79_loop hl hz ys ws (pre ++ [y]) (qre ++ [y]) (by rw [he]; simp) (by rw [he']; simp) (by simp [hp])) 1
    · simp only [h, decide_false, Bool.not_false, if_true, List.cons.injEq, false_and]
      exact Ev.now
theorem s79 {xs zs : List dFile} (hl : xs.length ≤ 1099511627776) : Ev (fun k => c79 k xs zs) ((decide (xs = zs), ()), ()) := by
  refine Ev.eqn 15 (fun k => c79_eq k xs zs) ?_
  by_cases h : (xs.length : Int) = (zs.length : Int)
  · have hz : zs.length = xs.length := by omega
    have h3 : ((xs.length : Int) != (zs.length : Int)) = false := by simpa using h
    simp only [h3, Bool.false_eq_true, if_false]
    exact Ev.later (s79_loop hl hz xs zs [] [] rfl rfl rfl) 1
  · have h2 : xs ≠ zs := fun e => h (by rw [e])
    have h3 : ((xs.length : Int) != (zs.length : Int)) = true := by simpa using h
    simp only [h3, h2, if_true, decide_false]
    exact Ev.now
theorem s80_loop {xs zs : List dDOp} (hl : xs.length ≤ 1099511627776) (hz : zs.length = xs.length) : ∀ (ys ws pre qre : List dDOp), xs = pre ++ ys → zs = qre ++ ws → qre.length = pre.length → Ev (fun k => p80_4 k xs zs (pre.length : Int)) ((decide (ys = ws), ()), ())
  | [], ws, pre, qre, he, he', hp => by
    refine Ev.eqn 15 (fun k => p80_4_eq k xs zs (pre.length : Int)) ?_
    have hw : ws = [] := by
      rw [he, he'] at hz
      simp only [List.length_append, List.length_nil] at hz
      exact List.eq_nil_of_length_eq_zero (by omega)
    have he : xs = pre := by rw [he]; simp
    subst he
    subst hw
    simp only [Int.lt_irrefl, decide_false, Bool.false_eq_true, if_false, decide_true]
    exact Ev.now
  | y :: ys, [], pre, qre, he, he', hp => by
    rw [he, he'] at hz
    simp only [List.length_append, List.length_nil, List.length_cons] at hz
    omega
  | y :: ys, w :: ws, pre, qre, he, he', hp => by
    refine Ev.eqn 15 (fun k => p80_4_eq k xs zs (pre.length : Int)) ?_
    have hlt : ((pre.length : Nat) : Int) < (xs.length : Int) := by rw [he]; exact lt_len
    have hlt2 : ((pre.length : Nat) : Int) < (zs.length : Int) := by rw [hz]; exact hlt
    have hg : List.getD xs (Int.toNat (pre.length : Int)) tDOp.dflt = y := by rw [he]; exact getD_at
    have hg2 : List.getD zs (Int.toNat (pre.length : Int)) tDOp.dflt = w := by rw [he', ← hp]; exact getD_at
    simp only [hlt, hlt2, nn, decide_true, if_true, hg, hg2]
    refine Ev.bind (Ev.later (s112 y w) _) ?_
    by_cases h : y = w
    · subst h
      simp only [decide_true, Bool.not_true, Bool.false_eq_true, if_false, List.cons.injEq, true_and]
      rw [wr1 (y := y) (by omega) hl]
      exact Ev.later (s80_loop hl hz ys ws (pre ++ [y]) (qre ++ [y]) (by rw [he]; simp) (by rw [he']; simp) (by simp [hp])) 1
    · simp only [h, decide_false, Bool.not_false, if_true, List.cons.injEq, false_and]
      exact Ev.now
theorem s80 {xs zs : List dDOp} (hl : xs.length ≤ 1099511627776) : Ev (fun k => c80 k xs zs) ((decide (xs = zs), ()), ()) := by
  refine Ev.eqn 15 (fun k => c80_eq k xs zs) ?_
  by_cases h : (xs.length : Int) = (zs.length : Int)
  · have hz : zs.length = xs.length := by omega
    have h3 : ((xs.length : Int) != (zs.length : Int)) = false := by simpa using h
    simp only [h3, Bool.false_eq_true, if_false]
    exact Ev.later (s80_loop hl hz xs zs [] [] rfl rfl rfl) 1
  · have h2 : xs ≠ zs := fun e => h (by rw [e])
    have h3 : ((xs.length : Int) != (zs.length : Int)) = true := by simpa using h
    simp only [h3, h2, if_true, decide_false]
    exact Ev.now
theorem s34 {a b : dDisk'} (h1 : a.1.length ≤ 1099511627776) (h2 : a.2.1.length ≤ 1099511627776) (h3 : a.2.2.1.length ≤ 1099511627776) : Ev (fun k => c34 k a b) ((decide (a.1 = b.1) && (decide (a.2.1 = b.2.1) && decide (a.2.2.1 = b.2.2.1)), ()), ()) := by
  refine Ev.eqn 20 (fun k => c34_eq k a b) ?_
  refine Ev.bind (Ev.later (s79 h1) _) ?_
  by_cases e1 : a.1 = b.1
  · simp only [e1, decide_true, Bool.not_true, Bool.false_eq_true, if_false, Bool.true_and]
    refine Ev.bind (Ev.later (s79 h2) _) ?_
    by_cases e2 : a.2.1 = b.2.1
    · simp only [e2, decide_true, Bool.not_true, Bool.false_eq_true, if_false, Bool.true_and]
      refine Ev.bind (Ev.later (s80 h3) _) ?_
      by_cases e3 : a.2.2.1 = b.2.2.1
      · simp only [e3, decide_true, Bool.not_true, Bool.false_eq_true, if_false]
        exact Ev.now
      · simp only [e3, decide_false, Bool.not_false, if_true]
        exact Ev.now
    · simp only [e2, decide_false, Bool.not_false, if_true, Bool.false_and]
      exact Ev.now
  · simp only [e1, decide_false, Bool.not_false, if_true, Bool.false_and]
    exact Ev.now
/-! ### Reading a file -/
def readD (d : dDisk') (nm : ByteArray) : ByteArray × Bool :=
  if okD d = true then (if fnd nm d.1 0 < 0 then (e0, false) else ((List.getD d.1 (fnd nm d.1 0).toNat tFile.dflt).2.1, true)) else (e0, false)
structure Fit (d : dDisk') : Prop where
  h1 : d.1.length ≤ 1099511627776
  h2 : d.2.1.length ≤ 1099511627775
  h3 : d.2.2.1.length ≤ 1099511627776
  t1 : tot d.1 ≤ 1099511627776
  t2 : tot d.2.1 ≤ 1099511627776
  ho : SmOps d.2.2.1
theorem s35 {d : dDisk'} (h : Fit d) (nm : ByteArray) : Ev (fun k => c35 k d nm) (((readD d nm).1, (readD d nm).2, ()), ()) := by
  refine Ev.eqn 17 (fun k => c35_eq k d nm) ?_
  refine Ev.bind (Ev.later (s28 (d := (d.1, d.2.1, d.2.2.1, ())) h.h1 (Nat.le_succ_of_le h.h2) h.h3 h.t1 h.t2 h.ho) _) ?_
  have e : ((d.1, d.2.1, d.2.2.1, ()) : dDisk') = d := rfl
  simp only [e]
  unfold readD
  cases hk : okD d with
  | false =>
    simp only [Bool.not_false, if_true, Bool.false_eq_true, if_false]
    exact Ev.now
  | true =>
    have := h.h1
    simp only [Bool.not_true, Bool.false_eq_true, if_false, if_true]
    refine Ev.bind (Ev.later (s81 (nm := nm) (by omega)) _) ?_
    simp only [decide_eq_true_eq]
    by_cases h2 : fnd nm d.1 0 < 0
    · simp only [h2, if_true]
      exact Ev.now
    · obtain ⟨h3, h4, _, _⟩ := fnd_lt h2
      simp only [h2, h3, h4, if_true, if_false]
      exact Ev.now
theorem s36 {d : dDisk'} (h : Fit d) (nm : ByteArray) : Ev (fun k => c36 k d nm) (((readD d nm).1, (readD d nm).2, ()), ()) := by
  refine Ev.eqn 10 (fun k => c36_eq k d nm) ?_
  refine Ev.bind (Ev.later (s27 (d := (d.1, d.2.1, d.2.2.1, ())) h.h1 h.h2 h.h3 h.t1 h.t2 h.ho) _) ?_
  have e : ((d.1, d.2.1, d.2.2.1, ()) : dDisk') = d := rfl
  simp only [e]
  unfold readD
  cases hk : okD d with
  | false =>
    simp only [Bool.not_false, if_true, Bool.false_eq_true, if_false]
    exact Ev.now
  | true =>
    simp only [Bool.not_true, Bool.false_eq_true, if_false, if_true]
    refine Ev.bind (Ev.later (s82 (nm := nm) h.h1) _) ?_
    simp only [decide_eq_true_eq]
    by_cases h2 : fnd nm d.1 0 < 0
    · simp only [h2, if_true]
      exact Ev.now
    · obtain ⟨h3, h4, _, _⟩ := fnd_lt h2
      simp only [h2, if_false]
      refine Ev.bind (Ev.later (s82 (nm := nm) h.h1) _) ?_
      simp only [h3, h4, if_true]
      exact Ev.now
/-! ### What a small size says -/
theorem szFs_tot : ∀ {l : List dFile} {left : Int}, 0 ≤ left → ¬ szFs l left < 0 → szFs l left + (tot l : Int) ≤ left
  | [], left, h, _ => by simp only [szFs, tot]; omega
  | y :: l, left, h, hn => by
    simp only [szFs] at hn ⊢
    by_cases h1 : szF y left < 0
    · rw [if_pos h1] at hn
      exact absurd (by decide) hn
    · rw [if_neg h1] at hn ⊢
      have ih := szFs_tot (l := l) (left := szF y left) (by omega) hn
      have h2 : szF y left = left - (y.1.size : Int) - (y.2.1.size : Int) := by
        unfold szF at h1 ⊢
        split at h1
        · exact absurd (by decide) h1
        · split at h1
          · exact absurd (by decide) h1
          · rename_i h3 h4
            rw [if_neg h3, if_neg h4]
      simp only [tot]
      omega
theorem szOs_tot : ∀ {l : List dDOp} {left : Int}, 0 ≤ left → ¬ szOs l left < 0 → ∀ o ∈ l, (o.2.2.2.1.size : Int) ≤ left
  | [], left, h, _, o, ho => by cases ho
  | y :: l, left, h, hn, o, ho => by
    simp only [szOs] at hn
    by_cases h1 : szO y left < 0
    · rw [if_pos h1] at hn
      exact absurd (by decide) hn
    · rw [if_neg h1] at hn
      have h2 : szO y left = left - (y.2.1.size : Int) - (y.2.2.1.size : Int) - (y.2.2.2.1.size : Int) := by
        unfold szO at h1 ⊢
        split at h1
        · exact absurd (by decide) h1
        · split at h1
          · exact absurd (by decide) h1
          · split at h1
            · exact absurd (by decide) h1
            · rename_i h3 h4 h5
              rw [if_neg h3, if_neg h4, if_neg h5]
      rcases List.mem_cons.1 ho with rfl | ho
      · omega
      · have := szOs_tot (l := l) (left := szO y left) (by omega) hn o ho
        omega
theorem szD_fit {d : dDisk} (h : ¬ szD d 1048576 < 0) : Fit (d.1, d.2.1, d.2.2.1, ()) ∧ d.1.length ≤ 1048576 ∧ d.2.1.length ≤ 1048576 ∧ d.2.2.1.length ≤ 1048576 := by
  unfold szD at h
  by_cases h1 : (1048576 : Int) - (d.1.length : Int) < 0
  · simp only [h1, if_true] at h
    simp at h
  simp only [h1, if_false] at h
  by_cases h2 : szFs d.1 (1048576 - (d.1.length : Int)) < 0
  · simp only [h2, if_true] at h
    simp at h
  simp only [h2, if_false] at h
  have a1 := szFs_tot (by omega) h2
  have a2 := szFs_le (l := d.1) (left := 1048576 - (d.1.length : Int)) (by omega)
  generalize szFs d.1 (1048576 - (d.1.length : Int)) = A at *
  by_cases h3 : A - (d.2.1.length : Int) < 0
  · simp only [h3, if_true] at h
    simp at h
  simp only [h3, if_false] at h
  by_cases h4 : szFs d.2.1 (A - (d.2.1.length : Int)) < 0
  · simp only [h4, if_true] at h
    simp at h
  simp only [h4, if_false] at h
  have a3 := szFs_tot (by omega) h4
  have a4 := szFs_le (l := d.2.1) (left := A - (d.2.1.length : Int)) (by omega)
  generalize szFs d.2.1 (A - (d.2.1.length : Int)) = B at *
  by_cases h5 : B - (d.2.2.1.length : Int) < 0
  · simp only [h5, if_true] at h
    simp at h
  simp only [h5, if_false] at h
  by_cases h6 : szOs d.2.2.1 (B - (d.2.2.1.length : Int)) < 0
  · simp only [h6, if_true] at h
    simp at h
  have a5 := szOs_tot (by omega) h6
  refine ⟨⟨by simp only; omega, by simp only; omega, by simp only; omega, by simp only; omega, by simp only; omega, fun o ho => ?_⟩, by omega, by omega, by omega⟩
  have := a5 o ho
  omega
/-! ### The laws -/
theorem mul56 {n : Nat} (h : n ≤ 1048576) : n * 56 ≤ 140737488355328 := Nat.le_trans (Nat.mul_le_mul_right 56 h) (by decide)
theorem s7 {d : dDisk} (hd : SmD d) : Ev (fun k => c7 k d) ((true, ()), ()) := by
  refine Ev.eqn 30 (fun k => c7_eq k d) ?_
  have e : ((d.1, d.2.1, d.2.2.1, ()) : dDisk) = d := rfl
  simp only [e]
  refine Ev.bind (Ev.later (s32 hd (by decide) (by decide)) _) ?_
  simp only [decide_eq_true_eq]
  by_cases hn : szD d 1048576 < 0
  · simp only [hn, if_true]
    exact Ev.now
  obtain ⟨hf, l1, l2, l3⟩ := szD_fit hn
  have c33 := s33 (d := d) (mul32 (by omega)) (mul32 (by omega)) (mul56 l3)
  simp only [hn, if_false]
  refine Ev.bind (Ev.later c33 _) ?_
  refine Ev.bind (Ev.later (s28 (d := (d.1, d.2.1, d.2.2.1, ())) hf.h1 (Nat.le_succ_of_le hf.h2) hf.h3 hf.t1 hf.t2 hf.ho) _) ?_
  refine Ev.bind (Ev.later c33 _) ?_
  refine Ev.bind (Ev.later (s27 (d := (d.1, d.2.1, d.2.2.1, ())) hf.h1 hf.h2 hf.h3 hf.t1 hf.t2 hf.ho) _) ?_
  simp only [beq_self_eq_true, Bool.not_true, Bool.false_eq_true, if_false]
  refine Ev.bind (Ev.later c33 _) ?_
  refine Ev.bind (Ev.later (s34 (a := (d.1, d.2.1, d.2.2.1, ())) (b := (d.1, d.2.1, d.2.2.1, ())) hf.h1 (Nat.le_succ_of_le hf.h2) hf.h3) _) ?_
  simp only [decide_true, Bool.and_self, Bool.not_true, Bool.false_eq_true, if_false]
  exact Ev.now
theorem s8 {d : dDisk} (hd : SmD d) (nm : ByteArray) : Ev (fun k => c8 k d nm) ((true, ()), ()) := by
  refine Ev.eqn 35 (fun k => c8_eq k d nm) ?_
  have e : ((d.1, d.2.1, d.2.2.1, ()) : dDisk) = d := rfl
  simp only [e, decide_eq_true_eq]
  by_cases hb : (nm.size : Int) > 1048576
  · simp only [hb, if_true]
    exact Ev.now
  simp only [hb, if_false]
  refine Ev.bind (Ev.later (s32 hd (by decide) (by decide)) _) ?_
  simp only
  by_cases hn : szD d 1048576 < 0
  · simp only [hn, if_true]
    exact Ev.now
  obtain ⟨hf, l1, l2, l3⟩ := szD_fit hn
  have c33 := s33 (d := d) (mul32 (by omega)) (mul32 (by omega)) (mul56 l3)
  simp only [hn, if_false]
  refine Ev.bind (Ev.later c33 _) ?_
  refine Ev.bind (Ev.later (s35 hf nm) _) ?_
  refine Ev.bind (Ev.later c33 _) ?_
  refine Ev.bind (Ev.later (s36 hf nm) _) ?_
  simp only [beq_self_eq_true, Bool.not_true, Bool.false_eq_true, if_false]
  refine Ev.bind (Ev.later c33 _) ?_
  refine Ev.bind (Ev.later (s34 (a := (d.1, d.2.1, d.2.2.1, ())) (b := (d.1, d.2.1, d.2.2.1, ())) hf.h1 (Nat.le_succ_of_le hf.h2) hf.h3) _) ?_
  simp only [decide_true, Bool.and_self, Bool.not_true, Bool.false_eq_true, if_false]
  exact Ev.now
end Go.Proofs.Ytcfnhfbaakflgaa.Abs
