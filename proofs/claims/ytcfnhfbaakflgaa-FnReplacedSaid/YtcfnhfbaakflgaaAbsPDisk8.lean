/- FnExactDo says true. -/
import Derived.Test.YtcfnhfbaakflgaaAbsPDisk6
set_option linter.unusedVariables false
set_option linter.unusedSimpArgs false
namespace Go.Proofs.Ytcfnhfbaakflgaa.Abs
open Go

theorem sameD_true {xs : List dFile} {o : dDOp} : sameD xs o = true ↔ ¬ o.1 = 1 ∧ fnd o.2.1 xs 0 < 0 := by
  have hall : (xs.all fun f => !(ByteArray.toList f.1 == ByteArray.toList o.2.1)) = true ↔ fnd o.2.1 xs 0 < 0 := by
    rw [List.all_eq_true]
    rcases fnd_cases o.2.1 xs 0 (Int.le_refl _) with ⟨h1, h2⟩ | ⟨a, y, b, rfl, h2, h3, h4⟩
    · refine ⟨fun _ => by rw [h2]; decide, fun _ f hf => ?_⟩
      rw [eqS]
      simp [h1 f hf]
    · refine ⟨fun h => ?_, fun h => by omega⟩
      have := h y (by simp)
      rw [eqS] at this
      simp [h2] at this
  unfold sameD
  rw [Bool.and_eq_true, hall]
  simp
theorem s10064 {xs : List dFile} {o : dDOp} (hno : sameD xs o = false) (hl : xs.length ≤ 1099511627776) (ht : tot xs ≤ 2305843009213693952) (ho : o.2.2.2.1.size ≤ 2305843009213693952) : Ev (fun k => c10064 k xs o) (((doH xs o).1, (doH xs o).2, ()), ()) := by
  refine Ev.eqn 31 (fun k => c10064_eq k xs o) ?_
  refine Ev.bind (Ev.later (s82 (nm := o.2.1) hl) _) ?_
  have hcc : ∀ nm2 : ByteArray, (cutF nm2 (cutF o.2.1 xs)).length ≤ 1099511627776 := fun nm2 => Nat.le_trans (Nat.le_trans cut_len cut_len) hl
  have hc : (cutF o.2.1 xs).length ≤ 1099511627776 := Nat.le_trans cut_len hl
  have happ : ∀ (nm2 : ByteArray) (f : dFile), (List.length (cutF nm2 (cutF o.2.1 xs)) + List.length ([f] : List dFile)) * 32 ≤ 140737488355328 := fun nm2 f => mul32 (by
    have := hcc nm2
    rw [List.length_singleton]
    omega)
  have hs : ∀ (nm2 : ByteArray) (f : dFile), ((cutF nm2 (cutF o.2.1 xs)) ++ [f]).length ≤ 1099511627777 := fun nm2 f => by
    have := hcc nm2
    rw [List.length_append, List.length_singleton]
    omega
  unfold doH
  simp only [beq_iff_eq, decide_eq_true_eq, ge_iff_le]
  by_cases h2 : fnd o.2.1 xs 0 < 0
  · have h3 : ¬ 0 ≤ fnd o.2.1 xs 0 := by omega
    simp only [h2, h3, if_false, if_true]
    by_cases h1 : o.1 = 1
    · have hsz : ByteArray.size e0 + o.2.2.2.1.size ≤ 9223372036854775807 := by
        have : ByteArray.size e0 = 0 := rfl
        omega
      simp only [h1, hsz, if_true]
      refine Ev.bind (Ev.later (s99 hl) _) ?_
      refine Ev.bind (Ev.later (s99 hc) _) ?_
      simp only [happ, if_true]
      refine Ev.bind (Ev.later (s100 (hs _ _)) _) ?_
      exact Ev.now
    · exact absurd hno (by rw [sameD_true.2 ⟨h1, h2⟩]; simp)
  · obtain ⟨h3, h4, h5, h6⟩ := fnd_lt h2
    have h7 := mem_tot h5
    simp only [h2, h3, h4, if_false, if_true]
    by_cases h1 : o.1 = 1
    · have hsz : (List.getD xs (fnd o.2.1 xs 0).toNat tFile.dflt).2.1.size + o.2.2.2.1.size ≤ 9223372036854775807 := by omega
      simp only [h1, hsz, h6, if_true]
      refine Ev.bind (Ev.later (s99 hl) _) ?_
      refine Ev.bind (Ev.later (s99 hc) _) ?_
      simp only [happ, if_true]
      refine Ev.bind (Ev.later (s100 (hs _ _)) _) ?_
      exact Ev.now
    · simp only [h1, if_false]
      by_cases h8 : o.1 = 3
      · simp only [h8, if_true]
        refine Ev.bind (Ev.later (s99 hl) _) ?_
        exact Ev.now
      · simp only [h8, if_false]
        refine Ev.bind (Ev.later (s99 hl) _) ?_
        refine Ev.bind (Ev.later (s99 hc) _) ?_
        simp only [happ, if_true]
        refine Ev.bind (Ev.later (s100 (hs _ _)) _) ?_
        exact Ev.now
theorem s20064 {xs : List dFile} {o : dDOp} (hyes : sameD xs o = true) (hl : xs.length ≤ 1099511627776) : Ev (fun k => c20064 k xs o) (((), false, ()), ()) := by
  refine Ev.eqn 31 (fun k => c20064_eq k xs o) ?_
  refine Ev.bind (Ev.later (s82 (nm := o.2.1) hl) _) ?_
  obtain ⟨h1, h2⟩ := sameD_true.1 hyes
  have h3 : ¬ 0 ≤ fnd o.2.1 xs 0 := by omega
  simp only [beq_iff_eq, decide_eq_true_eq, ge_iff_le, h1, h2, h3, if_false, if_true]
  exact Ev.now
/-- What is done on a right disk. -/
def actD (d : dDisk') (o : dDOp) : dDisk' × Int :=
  if formOk o = true then
    (if (doF d.1 o).2 = true then
      (if d.2.2.1.length = 200 then (d, 4) else if filesOk (doF d.1 o).1 = true then (((doF d.1 o).1, d.2.1, d.2.2.1 ++ [o], ()), 0) else (d, 4))
    else (d, 3))
  else (d, 2)
def doD (d : dDisk') (o : dDOp) : dDisk' × Int := if okD d = true then actD d o else (([], [], [], ()), 1)
theorem s93 {d : dDisk'} (l1 : d.1.length ≤ 1048576) (l2 : d.2.1.length ≤ 1048576) (l3 : d.2.2.1.length ≤ 1048576) : Ev (fun k => c93 k d) (((d.1, d.2.1, d.2.2.1, ()), ()), ()) := by
  refine Ev.eqn 5 (fun k => c93_eq k d) ?_
  have b1 : (List.length ([] : List dFile) + d.1.length) * 32 ≤ 140737488355328 := mul32 (by simp only [List.length_nil]; omega)
  have b2 : (List.length ([] : List dFile) + d.2.1.length) * 32 ≤ 140737488355328 := mul32 (by simp only [List.length_nil]; omega)
  have b3 : (List.length ([] : List dDOp) + d.2.2.1.length) * 56 ≤ 140737488355328 := mul56 (by simp only [List.length_nil]; omega)
  simp only [b1, b2, b3, if_true, List.nil_append]
  exact Ev.now
theorem s86 {d : dDisk'} {o : dDOp} (l1 : d.1.length ≤ 1048576) (l2 : d.2.1.length ≤ 1048576) (l3 : d.2.2.1.length ≤ 1048575) (t1 : tot d.1 ≤ 1099511627776) (ho : o.2.2.2.1.size ≤ 1099511627776) : Ev (fun k => c86 k d o) ((((actD d o).1.1, (actD d o).1.2.1, (actD d o).1.2.2.1, ()), (actD d o).2, ()), ()) := by
  refine Ev.eqn 28 (fun k => c86_eq k d o) ?_
  have eo : ((o.1, o.2.1, o.2.2.1, o.2.2.2.1, ()) : dDOp) = o := rfl
  have ed : ((d.1, d.2.1, d.2.2.1, ()) : dDisk') = d := rfl
  have l3' : d.2.2.1.length ≤ 1048576 := by omega
  have c93 := s93 l1 l2 l3'
  have hdo := tot_do (xs := d.1) (o := o)
  simp only [eo, ed]
  refine Ev.bind (Ev.later (s70 o) _) ?_
  unfold actD
  cases hf : formOk o with
  | false =>
    simp only [Bool.not_false, if_true, Bool.false_eq_true, if_false]
    refine Ev.bind (Ev.later c93 _) ?_
    exact Ev.now
  | true =>
    simp only [Bool.not_true, Bool.false_eq_true, if_false, if_true]
    refine Ev.bind (Ev.later (s69 (xs := d.1) (o := o) (by omega) (by omega) (by omega)) _) ?_
    cases hd : (doF d.1 o).2 with
    | false =>
      simp only [Bool.not_false, if_true, Bool.false_eq_true, if_false]
      refine Ev.bind (Ev.later c93 _) ?_
      exact Ev.now
    | true =>
      simp only [Bool.not_true, Bool.false_eq_true, if_false, if_true, beq_iff_eq]
      by_cases hn : d.2.2.1.length = 200
      · have hn' : (d.2.2.1.length : Int) = 200 := by omega
        simp only [hn, hn', if_true]
        refine Ev.bind (Ev.later c93 _) ?_
        exact Ev.now
      · have hn' : ¬ (d.2.2.1.length : Int) = 200 := by omega
        simp only [hn, hn', if_false]
        refine Ev.bind (Ev.later (s68 (xs := (doF d.1 o).1) (by omega) (by omega)) _) ?_
        cases hk : filesOk (doF d.1 o).1 with
        | false =>
          simp only [Bool.not_false, if_true, Bool.false_eq_true, if_false]
          refine Ev.bind (Ev.later c93 _) ?_
          exact Ev.now
        | true =>
          have hb : (List.length d.2.2.1 + List.length [o]) * 56 ≤ 140737488355328 := mul56 (by rw [List.length_singleton]; omega)
          simp only [Bool.not_true, Bool.false_eq_true, if_false, if_true]
          refine Ev.bind (Ev.later c93 _) ?_
          simp only [hb, if_true]
          exact Ev.now
theorem s39 {d : dDisk'} (h : Fit d) (l1 : d.1.length ≤ 1048576) (l2 : d.2.1.length ≤ 1048576) (l3 : d.2.2.1.length ≤ 1048576) {o : dDOp} (ho : o.2.2.2.1.size ≤ 1099511627776) : Ev (fun k => c39 k d o) ((((doD d o).1.1, (doD d o).1.2.1, (doD d o).1.2.2.1, ()), (doD d o).2, ()), ()) := by
  refine Ev.eqn 10 (fun k => c39_eq k d o) ?_
  have eo : ((o.1, o.2.1, o.2.2.1, o.2.2.2.1, ()) : dDOp) = o := rfl
  have ed : ((d.1, d.2.1, d.2.2.1, ()) : dDisk') = d := rfl
  simp only [eo, ed]
  refine Ev.bind (Ev.later (s28 (d := d) h.h1 (Nat.le_succ_of_le h.h2) h.h3 h.t1 h.t2 h.ho) _) ?_
  unfold doD
  cases hk : okD d with
  | false =>
    simp only [Bool.not_false, if_true, Bool.false_eq_true, if_false]
    exact Ev.now
  | true =>
    have hl : d.2.2.1.length ≤ 200 := by
      unfold okD at hk
      simp only [Bool.and_eq_true, decide_eq_true_eq] at hk
      have := hk.1.2
      omega
    simp only [Bool.not_true, Bool.false_eq_true, if_false, if_true]
    refine Ev.bind (Ev.later (s86 (d := d) (o := o) l1 l2 (by omega) h.t1 ho) _) ?_
    exact Ev.now
theorem s85 {d : dDisk'} {o : dDOp} (hc : chk none d.1 = true) (l1 : d.1.length ≤ 1048576) (l3 : d.2.2.1.length ≤ 1048575) (t1 : tot d.1 ≤ 1099511627776) (ho : o.2.2.2.1.size ≤ 1099511627776) : Ev (fun k => c85 k o d.1 d.2.1 d.2.2.1) (((actD d o).2, ()), (((actD d o).1.1, (actD d o).1.2.1, (actD d o).1.2.2.1, ()), ())) := by
  refine Ev.eqn 22 (fun k => c85_eq k o d.1 d.2.1 d.2.2.1) ?_
  have eo : ((o.1, o.2.1, o.2.2.1, o.2.2.2.1, ()) : dDOp) = o := rfl
  simp only [eo]
  have hdoH := tot_doH (xs := d.1) (o := o)
  unfold actD
  by_cases hs : sameD d.1 o = true
  · simp only [hs, if_true]
    refine Ev.bind (Ev.later (s20064 hs (by omega)) _) ?_
    refine Ev.bind (Ev.later (s65 o) _) ?_
    cases hf : formOk o with
    | false =>
      simp only [Bool.not_false, if_true, Bool.false_eq_true, if_false]
      exact Ev.now
    | true =>
      have hd : (doF d.1 o).2 = false := by
        obtain ⟨h1, h2⟩ := sameD_true.1 hs
        unfold doF
        rw [if_neg h1, if_pos h2]
      simp only [Bool.not_true, Bool.not_false, Bool.false_eq_true, if_false, if_true, hd]
      exact Ev.now
  · have hs' : sameD d.1 o = false := by simpa using hs
    simp only [hs', Bool.false_eq_true, if_false]
    refine Ev.bind (Ev.later (s10064 hs' (by omega) (by omega) (by omega)) _) ?_
    refine Ev.bind (Ev.later (s65 o) _) ?_
    cases hf : formOk o with
    | false =>
      simp only [Bool.not_false, if_true, Bool.false_eq_true, if_false]
      exact Ev.now
    | true =>
      have he := do_eq (chk_iff.1 hc).2.1 hf
      have hck := chk_do hc hf
      have hfew : filesOk (doF d.1 o).1 = fewOk (doF d.1 o).1 := by rw [← filesOk_eq, hck, Bool.true_and]
      rw [he] at hdoH
      have hd : (doF d.1 o).2 = true := by
        cases h : (doF d.1 o).2 with
        | true => rfl
        | false =>
          exfalso
          refine hs (sameD_true.2 ?_)
          unfold doF at h
          by_cases h1 : o.1 = 1
          · rw [if_pos h1] at h
            cases h
          · rw [if_neg h1] at h
            by_cases h2 : fnd o.2.1 d.1 0 < 0
            · exact ⟨h1, h2⟩
            · rw [if_neg h2] at h
              split at h <;> cases h
      simp only [Bool.not_true, Bool.false_eq_true, if_false, if_true, beq_iff_eq, he, hd]
      by_cases hn : d.2.2.1.length = 200
      · have hn' : (d.2.2.1.length : Int) = 200 := by omega
        simp only [hn, hn', if_true]
        exact Ev.now
      · have hn' : ¬ (d.2.2.1.length : Int) = 200 := by omega
        simp only [hn, hn', if_false, hfew]
        refine Ev.bind (Ev.later (s66 (xs := (doF d.1 o).1) (by omega) (by omega)) _) ?_
        cases hk : fewOk (doF d.1 o).1 with
        | false =>
          simp only [Bool.not_false, if_true, Bool.false_eq_true, if_false]
          exact Ev.now
        | true =>
          have hb : (List.length d.2.2.1 + List.length [o]) * 56 ≤ 140737488355328 := mul56 (by rw [List.length_singleton]; omega)
          simp only [Bool.not_true, Bool.false_eq_true, if_false, if_true, hb]
          exact Ev.now
theorem okD_parts {d : dDisk'} (h : okD d = true) : filesOk d.1 = true ∧ filesOk d.2.1 = true ∧ d.2.2.1.length ≤ 200 ∧ chk none d.1 = true ∧ d.1.length ≤ 60 ∧ d.2.1.length ≤ 60 ∧ tot d.1 ≤ 200000 ∧ tot d.2.1 ≤ 200000 := by
  unfold okD at h
  simp only [Bool.and_eq_true, decide_eq_true_eq] at h
  obtain ⟨⟨⟨h1, h2⟩, h3⟩, h4⟩ := h
  have a := filesOk_small h1
  have b := filesOk_small h2
  have hc := h1
  rw [← filesOk_eq, Bool.and_eq_true] at hc
  exact ⟨h1, h2, by omega, hc.1, a.1, b.1, a.2, b.2⟩
theorem s38 {d : dDisk'} (h : Fit d) (l1 : d.1.length ≤ 1048576) (l2 : d.2.1.length ≤ 1048576) (l3 : d.2.2.1.length ≤ 1048576) {o : dDOp} (ho : o.2.2.2.1.size ≤ 1099511627776) : Ev (fun k => c38 k d o) ((((doD d o).1.1, (doD d o).1.2.1, (doD d o).1.2.2.1, ()), (doD d o).2, ()), ()) := by
  refine Ev.eqn 14 (fun k => c38_eq k d o) ?_
  have eo : ((o.1, o.2.1, o.2.2.1, o.2.2.2.1, ()) : dDOp) = o := rfl
  have ed : ((d.1, d.2.1, d.2.2.1, ()) : dDisk') = d := rfl
  simp only [eo, ed]
  refine Ev.bind (Ev.later (s27 (d := d) h.h1 h.h2 h.h3 h.t1 h.t2 h.ho) _) ?_
  unfold doD
  cases hk : okD d with
  | false =>
    simp only [Bool.not_false, if_true, Bool.false_eq_true, if_false]
    exact Ev.now
  | true =>
    obtain ⟨_, _, p3, p4, _⟩ := okD_parts hk
    simp only [Bool.not_true, Bool.false_eq_true, if_false, if_true]
    refine Ev.bind (Ev.later (s73 l1 l2 l3) _) ?_
    refine Ev.bind (Ev.later (s85 (d := d) (o := o) p4 l1 (by omega) h.t1 ho) _) ?_
    exact Ev.now
theorem act_len {d : dDisk'} {o : dDOp} {n m : Nat} (h1 : d.1.length ≤ n) (h2 : d.2.1.length ≤ n) (h3 : d.2.2.1.length ≤ m) : (actD d o).1.1.length ≤ n + 1 ∧ (actD d o).1.2.1.length ≤ n ∧ (actD d o).1.2.2.1.length ≤ m + 1 := by
  have hd := (tot_do (xs := d.1) (o := o)).2
  unfold actD
  split
  · split
    · split
      · exact ⟨by simp only; omega, h2, by simp only; omega⟩
      · split
        · exact ⟨by simp only; omega, h2, by simp only [List.length_append, List.length_singleton]; omega⟩
        · exact ⟨by simp only; omega, h2, by simp only; omega⟩
    · exact ⟨by simp only; omega, h2, by simp only; omega⟩
  · exact ⟨by simp only; omega, h2, by simp only; omega⟩
theorem do_len (d : dDisk') (o : dDOp) : (doD d o).1.1.length ≤ 1048576 ∧ (doD d o).1.2.1.length ≤ 1048576 ∧ (doD d o).1.2.2.1.length ≤ 1048576 := by
  unfold doD
  split
  · rename_i hk
    obtain ⟨_, _, p3, _, p5, p6, _⟩ := okD_parts hk
    have := act_len (o := o) p5 p6 p3
    omega
  · exact ⟨Nat.zero_le _, Nat.zero_le _, Nat.zero_le _⟩
theorem szD_le {d : dDisk} {left : Int} (h : 0 ≤ left) : szD d left ≤ left := by
  have hF : ∀ (l : List dFile) (x : Int), 0 ≤ x → (if x - (l.length : Int) < 0 then -1 else szFs l (x - (l.length : Int))) ≤ x := by
    intro l x hx
    split
    · omega
    · have := (szFs_le (l := l) (left := x - (l.length : Int)) (by omega)).1
      omega
  have hO : ∀ (l : List dDOp) (x : Int), 0 ≤ x → (if x - (l.length : Int) < 0 then -1 else szOs l (x - (l.length : Int))) ≤ x := by
    intro l x hx
    split
    · omega
    · have := (szOs_le (l := l) (left := x - (l.length : Int)) (by omega)).1
      omega
  unfold szD
  simp only
  have h1 := hF d.1 left h
  generalize (if left - (d.1.length : Int) < 0 then -1 else szFs d.1 (left - (d.1.length : Int))) = a at *
  split
  · omega
  · have h2 := hF d.2.1 a (by omega)
    generalize (if a - (d.2.1.length : Int) < 0 then -1 else szFs d.2.1 (a - (d.2.1.length : Int))) = b at *
    split
    · omega
    · have h3 := hO d.2.2.1 b (by omega)
      generalize (if b - (d.2.2.1.length : Int) < 0 then -1 else szOs d.2.2.1 (b - (d.2.2.1.length : Int))) = c at *
      split <;> omega
theorem szO_fit {o : dDOp} {left : Int} (h0 : 0 ≤ left) (h : ¬ szO o left < 0) : (o.2.2.2.1.size : Int) ≤ left := by
  unfold szO at h
  split at h
  · exact absurd (by decide) h
  · split at h
    · exact absurd (by decide) h
    · split at h
      · exact absurd (by decide) h
      · omega
theorem s11 {d : dDisk} (hd : SmD d) {o : dDOp} (ha : (o.2.1.size : Int) ≤ 9223372036854775807) (hb : (o.2.2.1.size : Int) ≤ 9223372036854775807) (hc : (o.2.2.2.1.size : Int) ≤ 9223372036854775807) : Ev (fun k => c11 k d o) ((true, ()), ()) := by
  refine Ev.eqn 85 (fun k => c11_eq k d o) ?_
  have e : ((d.1, d.2.1, d.2.2.1, ()) : dDisk) = d := rfl
  have eo : ((o.1, o.2.1, o.2.2.1, o.2.2.2.1, ()) : dDOp) = o := rfl
  simp only [e, eo]
  refine Ev.bind (Ev.later (s32 hd (by decide) (by decide)) _) ?_
  simp only [decide_eq_true_eq]
  by_cases hn : szD d 1048576 < 0
  · simp only [hn, if_true]
    exact Ev.now
  obtain ⟨hf, l1, l2, l3⟩ := szD_fit hn
  have hle : szD d 1048576 ≤ 1048576 := szD_le (by decide)
  have h0 : 0 ≤ szD d 1048576 := by omega
  simp only [hn, if_false]
  refine Ev.bind (Ev.later (s43 (x := o) h0 (by omega) ha hb hc) _) ?_
  simp only
  by_cases hn2 : szO o (szD d 1048576) < 0
  · simp only [hn2, if_true]
    exact Ev.now
  have ho : o.2.2.2.1.size ≤ 1099511627776 := by
    have := szO_fit h0 hn2
    omega
  have c33 := s33 (d := d) (mul32 (by omega)) (mul32 (by omega)) (mul56 l3)
  have hS := s38 hf l1 l2 l3 ho
  obtain ⟨n1, n2, n3⟩ := do_len (d.1, d.2.1, d.2.2.1, ()) o
  have hEq := s34s n1 n2 n3
  have hEd := s34s (a := (d.1, d.2.1, d.2.2.1, ())) l1 l2 l3
  simp only [hn2, if_false]
  refine Ev.bind (Ev.later c33 _) ?_
  refine Ev.bind (Ev.later (s44 o) _) ?_
  refine Ev.bind (Ev.later (s39 hf l1 l2 l3 ho) _) ?_
  refine Ev.bind (Ev.later c33 _) ?_
  refine Ev.bind (Ev.later (s44 o) _) ?_
  refine Ev.bind (Ev.later hS _) ?_
  refine Ev.bind (Ev.later hEq _) ?_
  simp only [Bool.not_true, Bool.false_eq_true, if_false, bne_self_eq_false]
  refine Ev.bind (Ev.later c33 _) ?_
  refine Ev.bind (Ev.later hEd _) ?_
  simp only [Bool.not_true, Bool.false_eq_true, if_false]
  refine Ev.bind (Ev.later (s41 (by omega) (by omega) (by omega)) _) ?_
  simp only [mEnd_pos, if_false]
  refine Ev.bind (Ev.later hEq _) ?_
  simp only [Bool.not_true, Bool.false_eq_true, if_false, bne_self_eq_false]
  refine Ev.bind (Ev.later (s41 (by omega) (by omega) (by omega)) _) ?_
  refine Ev.bind (Ev.later (s42 (by omega) (by omega) (by omega)) _) ?_
  simp only [mEnd_pos, if_false, bne_self_eq_false, Bool.false_eq_true]
  refine Ev.bind (Ev.later c33 _) ?_
  refine Ev.bind (Ev.later (s44 o) _) ?_
  refine Ev.bind (Ev.later hS _) ?_
  refine Ev.bind (Ev.later hEq _) ?_
  simp only [Bool.not_true, Bool.false_eq_true, if_false, bne_self_eq_false]
  refine Ev.bind (Ev.later (s42 (by omega) (by omega) (by omega)) _) ?_
  simp only [mEnd_pos, if_false, bne_self_eq_false, Bool.false_eq_true]
  exact Ev.now
end Go.Proofs.Ytcfnhfbaakflgaa.Abs
