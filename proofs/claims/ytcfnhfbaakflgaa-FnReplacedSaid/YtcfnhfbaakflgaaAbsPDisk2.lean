/- What the reference's functions of disks say. -/
import Derived.Test.YtcfnhfbaakflgaaAbsPDisk1
set_option linter.unusedVariables false
set_option linter.unusedSimpArgs false
namespace Go.Proofs.Ytcfnhfbaakflgaa.Abs
open Go

def nameOk (s : ByteArray) : Bool := decide ((s.size : Int) ≥ 1) && decide ((s.size : Int) ≤ 100)
theorem s104 (x : ByteArray) : Ev (fun k => c104 k x) ((nameOk x, ()), ()) := by
  refine Ev.eqn 5 (fun k => c104_eq k x) ?_
  unfold nameOk
  by_cases h : (x.size : Int) ≥ 1
  · simp only [h, decide_true, if_true, Bool.true_and]
    exact Ev.now
  · simp only [h, decide_false, Bool.false_eq_true, if_false, Bool.false_and]
    exact Ev.now
def tot : List dFile → Nat
  | [] => 0
  | y :: l => y.2.1.size + tot l
theorem tot_append (a b : List dFile) : tot (a ++ b) = tot a + tot b := by
  induction a with
  | nil => simp [tot]
  | cons y a ih => simp only [List.cons_append, tot, ih]; omega
/-- Names right and ascending, behind p. -/
def chk : Option ByteArray → List dFile → Bool
  | _, [] => true
  | p, y :: l => nameOk y.1 && (match p with | none => true | some q => ltS q y.1) && chk (some y.1) l
def prev (pre : List dFile) : Option ByteArray := pre.getLast?.map (·.1)
theorem prev_snoc (pre : List dFile) (y : dFile) : prev (pre ++ [y]) = some y.1 := by simp [prev]
theorem s68_loop {xs : List dFile} (hl : (xs.length : Int) ≤ 4611686018427387904) (ht : (tot xs : Int) ≤ 4611686018427387904) : ∀ (ys pre : List dFile), xs = pre ++ ys → Ev (fun k => p68_5 k xs (tot pre : Int) (pre.length : Int)) ((chk (prev pre) ys && decide ((tot xs : Int) ≤ 200000), ()), ())
  | [], pre, he => by
    refine Ev.eqn 17 (fun k => p68_5_eq k xs (tot pre : Int) (pre.length : Int)) ?_
    have he : xs = pre := by rw [he]; simp
    subst he
    simp only [Int.lt_irrefl, decide_false, Bool.false_eq_true, if_false, chk, Bool.true_and]
    exact Ev.now
  | y :: ys, pre, he => by
    refine Ev.eqn 17 (fun k => p68_5_eq k xs (tot pre : Int) (pre.length : Int)) ?_
    have hlt : ((pre.length : Nat) : Int) < (xs.length : Int) := by rw [he]; exact lt_len
    have hg : List.getD xs (Int.toNat (pre.length : Int)) tFile.dflt = y := by rw [he]; exact getD_at
    have ht2 : (tot pre : Int) + (y.2.1.size : Int) ≤ tot xs := by
      rw [he, tot_append]
      simp only [tot]
      omega
    have hcont : Ev (fun k => p68_5 k xs (IntKind.i64.wrap ((tot pre : Int) + (y.2.1.size : Int))) (IntKind.i64.wrap ((pre.length : Int) + 1))) ((chk (some y.1) ys && decide ((tot xs : Int) ≤ 200000), ()), ()) := by
      rw [wr (n := (tot pre : Int) + (y.2.1.size : Int)) (by omega) (by omega), wr (n := (pre.length : Int) + 1) (by omega) (by omega), len_snoc]
      have := s68_loop hl ht ys (pre ++ [y]) (by rw [he]; simp)
      rw [prev_snoc, tot_append] at this
      have e : ((tot pre + tot [y] : Nat) : Int) = (tot pre : Int) + (y.2.1.size : Int) := by simp [tot]
      rw [e] at this
      exact this
    simp only [hlt, nn, decide_true, if_true, hg]
    refine Ev.bind (Ev.later (s104 y.1) _) ?_
    simp only [chk]
    cases hn : nameOk y.1 with
    | false =>
      simp only [Bool.not_false, if_true, Bool.false_and]
      exact Ev.now
    | true =>
      simp only [Bool.not_true, Bool.false_eq_true, if_false, Bool.true_and]
      rcases List.eq_nil_or_concat pre with rfl | ⟨p2, q, hpq⟩
      · simp only [List.length_nil, Int.natCast_zero, gt_iff_lt, Int.lt_irrefl, decide_false, Bool.false_eq_true, if_false, prev, List.getLast?_nil, Option.map_none, Bool.true_and] at hcont ⊢
        exact Ev.later hcont _
      · rw [List.concat_eq_append] at hpq
        subst hpq
        have hlen : ((p2 ++ [q]).length : Int) = p2.length + 1 := by simp
        have hpos : ((p2 ++ [q]).length : Int) > 0 := by omega
        have hw : IntKind.i64.wrap (((p2 ++ [q]).length : Int) - 1) = (p2.length : Int) := by
          rw [wr (by omega) (by omega)]
          omega
        have hlt2 : (p2.length : Int) < (xs.length : Int) := by omega
        have hg2 : List.getD xs (Int.toNat (p2.length : Int)) tFile.dflt = q := by
          rw [he, List.append_assoc]
          exact getD_at
        simp only [hpos, decide_true, if_true, hw, nn, hlt2, hg2, prev_snoc]
        have hor : (Op.bytesLess (ByteArray.toList y.1) (ByteArray.toList q.1) || (ByteArray.toList y.1 == ByteArray.toList q.1)) = !(ltS q.1 y.1) := by
          have e1 : Op.bytesLess (ByteArray.toList y.1) (ByteArray.toList q.1) = ltS y.1 q.1 := rfl
          rw [e1, eqS]
          rcases ltS_total q.1 y.1 with h | h | h
          · rw [h, ltS_asymm h, decide_eq_false (ltS_ne h).symm]
            rfl
          · rw [h, ltS_irrefl]
            simp
          · rw [h, ltS_asymm h]
            rfl
        rw [hor]
        cases hq : ltS q.1 y.1 with
        | false =>
          simp only [Bool.not_false, if_true, Bool.false_and]
          exact Ev.now
        | true =>
          simp only [Bool.not_true, Bool.false_eq_true, if_false, Bool.true_and]
          exact Ev.later hcont _
/-- Files are right. -/
def filesOk (xs : List dFile) : Bool := decide ((xs.length : Int) ≤ 60) && (chk none xs && decide ((tot xs : Int) ≤ 200000))
theorem s68 {xs : List dFile} (hl : (xs.length : Int) ≤ 4611686018427387904) (ht : (tot xs : Int) ≤ 4611686018427387904) : Ev (fun k => c68 k xs) ((filesOk xs, ()), ()) := by
  refine Ev.eqn 17 (fun k => c68_eq k xs) ?_
  unfold filesOk
  by_cases h : (xs.length : Int) > 60
  · have h2 : ¬ (xs.length : Int) ≤ 60 := by omega
    simp only [h, h2, decide_true, if_true, decide_false, Bool.false_and]
    exact Ev.now
  · have h2 : (xs.length : Int) ≤ 60 := by omega
    simp only [h, h2, decide_false, Bool.false_eq_true, if_false, decide_true, Bool.true_and]
    exact Ev.later (s68_loop hl ht xs [] rfl) 1
/-! ### Where a file is -/
def fnd (nm : ByteArray) : List dFile → Int → Int
  | [], _ => -1
  | y :: l, i => if y.1 = nm then i else fnd nm l (i + 1)
theorem fnd_cases (nm : ByteArray) : ∀ (l : List dFile) (i : Int), 0 ≤ i → ((∀ y ∈ l, y.1 ≠ nm) ∧ fnd nm l i = -1) ∨ ∃ a y b, l = a ++ y :: b ∧ y.1 = nm ∧ (∀ z ∈ a, z.1 ≠ nm) ∧ fnd nm l i = i + a.length
  | [], i, _ => .inl ⟨by simp, rfl⟩
  | y :: l, i, hi => by
    by_cases h : y.1 = nm
    · exact .inr ⟨[], y, l, rfl, h, by simp, by simp [fnd, h]⟩
    · rcases fnd_cases nm l (i + 1) (by omega) with ⟨h1, h2⟩ | ⟨a, z, b, rfl, h2, h3, h4⟩
      · exact .inl ⟨fun z hz => (List.mem_cons.1 hz).elim (fun e => e ▸ h) (h1 z), by simp only [fnd, if_neg h, h2]⟩
      · refine .inr ⟨y :: a, z, b, rfl, h2, fun w hw => (List.mem_cons.1 hw).elim (fun e => e ▸ h) (h3 w), ?_⟩
        simp only [fnd, if_neg h, h4, List.length_cons]
        omega
theorem s81_loop {xs : List dFile} {nm : ByteArray} (hl : (xs.length : Int) ≤ 4611686018427387904) : ∀ (ys pre : List dFile), xs = pre ++ ys → Ev (fun k => p81_2 k xs nm (pre.length : Int)) ((fnd nm ys (pre.length : Int), ()), ())
  | [], pre, he => by
    refine Ev.eqn 15 (fun k => p81_2_eq k xs nm (pre.length : Int)) ?_
    have he : xs = pre := by rw [he]; simp
    subst he
    simp only [Int.lt_irrefl, decide_false, Bool.false_eq_true, if_false, fnd]
    exact Ev.now
  | y :: ys, pre, he => by
    refine Ev.eqn 15 (fun k => p81_2_eq k xs nm (pre.length : Int)) ?_
    have hlt : ((pre.length : Nat) : Int) < (xs.length : Int) := by rw [he]; exact lt_len
    have hg : List.getD xs (Int.toNat (pre.length : Int)) tFile.dflt = y := by rw [he]; exact getD_at
    simp only [hlt, nn, decide_true, if_true, hg, eqS, decide_eq_true_eq, fnd]
    by_cases h : y.1 = nm
    · simp only [h, if_true]
      exact Ev.now
    · simp only [h, if_false]
      rw [wr (by omega) (by omega), len_snoc]
      exact Ev.later (s81_loop hl ys (pre ++ [y]) (by rw [he]; simp)) _
theorem s81 {xs : List dFile} {nm : ByteArray} (hl : (xs.length : Int) ≤ 4611686018427387904) : Ev (fun k => c81 k xs nm) ((fnd nm xs 0, ()), ()) :=
  Ev.eqn 10 (fun k => c81_eq k xs nm) (Ev.later (s81_loop hl xs [] rfl) 1)
/-! ### Put and cut -/
def putG (nm data : ByteArray) : Bool → List dFile → List dFile
  | d, [] => if d = true then [] else [(nm, data, ())]
  | d, y :: l => if d = false ∧ ltS y.1 nm = false then (nm, data, ()) :: (if y.1 = nm then putG nm data true l else y :: putG nm data true l) else if y.1 = nm then putG nm data d l else y :: putG nm data d l
theorem s105_loop {xs : List dFile} {nm data : ByteArray} (hl : xs.length ≤ 1099511627776) : ∀ (ys pre out : List dFile) (d : Bool), xs = pre ++ ys → out.length ≤ 2 * pre.length → Ev (fun k => p105_4 k xs nm data d (pre.length : Int) out) ((out ++ putG nm data d ys, ()), ())
  | [], pre, out, d, he, ho => by
    refine Ev.eqn 22 (fun k => p105_4_eq k xs nm data d (pre.length : Int) out) ?_
    have he : xs = pre := by rw [he]; simp
    subst he
    simp only [Int.lt_irrefl, decide_false, Bool.false_eq_true, if_false, putG]
    cases d with
    | true =>
      simp only [Bool.not_true, Bool.false_eq_true, if_false, if_true, List.append_nil]
      exact Ev.now
    | false =>
      have h1 : (out.length + List.length ([(nm, data, ())] : List dFile)) * 32 ≤ 140737488355328 := mul32 (by simp only [List.length_singleton]; omega)
      simp only [Bool.not_false, if_true, h1, Bool.false_eq_true, if_false]
      exact Ev.now
  | y :: ys, pre, out, d, he, ho => by
    refine Ev.eqn 22 (fun k => p105_4_eq k xs nm data d (pre.length : Int) out) ?_
    have hlt : ((pre.length : Nat) : Int) < (xs.length : Int) := by rw [he]; exact lt_len
    have hg : List.getD xs (Int.toNat (pre.length : Int)) tFile.dflt = y := by rw [he]; exact getD_at
    have hx : xs.length = pre.length + ys.length + 1 := by rw [he]; simp; omega
    have h1 : (out.length + List.length ([(nm, data, ())] : List dFile)) * 32 ≤ 140737488355328 := mul32 (by simp only [List.length_singleton]; omega)
    have h2 : (out.length + List.length ([y] : List dFile)) * 32 ≤ 140737488355328 := mul32 (by simp only [List.length_singleton]; omega)
    have h3 : (List.length (out ++ ([(nm, data, ())] : List dFile)) + List.length ([y] : List dFile)) * 32 ≤ 140737488355328 := mul32 (by rw [List.length_append, List.length_singleton, List.length_singleton]; omega)
    have hw : IntKind.i64.wrap ((pre.length : Int) + 1) = ((pre ++ [y]).length : Int) := by rw [wr (by omega) (by omega), len_snoc]
    have hb : Op.bytesLess (ByteArray.toList y.1) (ByteArray.toList nm) = ltS y.1 nm := rfl
    have he2 : xs = (pre ++ [y]) ++ ys := by rw [he]; simp
    have ih : ∀ (out : List dFile) (d : Bool), out.length ≤ 2 * (pre ++ [y]).length → Ev (fun k => p105_4 k xs nm data d ((pre ++ [y]).length : Int) out) ((out ++ putG nm data d ys, ()), ()) := fun out d h => s105_loop hl ys (pre ++ [y]) out d he2 h
    have hp : (pre ++ [y]).length = pre.length + 1 := List.length_append
    simp only [hlt, nn, decide_true, if_true, hg, eqS, h1, h2, h3, hw, hb, putG]
    cases d with
    | true =>
      simp only [Bool.not_true, Bool.false_eq_true, if_false, reduceCtorEq, false_and]
      by_cases h : y.1 = nm
      · simp only [h, decide_true, Bool.not_true, Bool.false_eq_true, if_false, if_true]
        exact Ev.later (ih out true (by omega)) _
      · simp only [h, decide_false, Bool.not_false, if_true, if_false]
        have := ih (out ++ [y]) true (by simp only [List.length_append, List.length_singleton]; omega)
        rw [List.append_assoc] at this
        exact Ev.later this _
    | false =>
      simp only [Bool.not_false, if_true, true_and]
      cases hy : ltS y.1 nm with
      | true =>
        simp only [Bool.not_true, Bool.false_eq_true, if_false, reduceCtorEq]
        by_cases h : y.1 = nm
        · simp only [h, decide_true, Bool.not_true, Bool.false_eq_true, if_false, if_true]
          exact Ev.later (ih out false (by omega)) _
        · simp only [h, decide_false, Bool.not_false, if_true, if_false]
          have := ih (out ++ [y]) false (by simp only [List.length_append, List.length_singleton]; omega)
          rw [List.append_assoc] at this
          exact Ev.later this _
      | false =>
        simp only [Bool.not_false, if_true]
        by_cases h : y.1 = nm
        · simp only [h, decide_true, Bool.not_true, Bool.false_eq_true, if_false, if_true]
          have := ih (out ++ [(nm, data, ())]) true (by simp only [List.length_append, List.length_singleton]; omega)
          rw [List.append_assoc] at this
          exact Ev.later this _
        · simp only [h, decide_false, Bool.not_false, if_true, if_false]
          have := ih ((out ++ [(nm, data, ())]) ++ [y]) true (by simp only [List.length_append, List.length_singleton]; omega)
          rw [show ((out ++ [(nm, data, ())]) ++ [y]) ++ putG nm data true ys = out ++ (nm, data, ()) :: y :: putG nm data true ys by simp] at this
          exact Ev.later this _
theorem s105 {xs : List dFile} {nm data : ByteArray} (hl : xs.length ≤ 1099511627776) : Ev (fun k => c105 k xs nm data) ((putG nm data false xs, ()), ()) :=
  Ev.eqn 14 (fun k => c105_eq k xs nm data) (Ev.later (s105_loop hl xs [] [] false rfl (Nat.zero_le _)) 1)
abbrev cutF (nm : ByteArray) (xs : List dFile) : List dFile := xs.filter fun y => !decide (y.1 = nm)
theorem s106_loop {xs : List dFile} {nm : ByteArray} (hl : xs.length ≤ 1099511627776) : ∀ (ys pre out : List dFile), xs = pre ++ ys → out.length ≤ pre.length → Ev (fun k => p106_3 k xs nm (pre.length : Int) out) ((out ++ cutF nm ys, ()), ())
  | [], pre, out, he, ho => by
    refine Ev.eqn 15 (fun k => p106_3_eq k xs nm (pre.length : Int) out) ?_
    have he : xs = pre := by rw [he]; simp
    subst he
    simp only [Int.lt_irrefl, decide_false, Bool.false_eq_true, if_false, cutF, List.filter_nil, List.append_nil]
    exact Ev.now
  | y :: ys, pre, out, he, ho => by
    refine Ev.eqn 15 (fun k => p106_3_eq k xs nm (pre.length : Int) out) ?_
    have hlt : ((pre.length : Nat) : Int) < (xs.length : Int) := by rw [he]; exact lt_len
    have hg : List.getD xs (Int.toNat (pre.length : Int)) tFile.dflt = y := by rw [he]; exact getD_at
    have hx : xs.length = pre.length + ys.length + 1 := by rw [he]; simp; omega
    have h2 : (out.length + List.length ([y] : List dFile)) * 32 ≤ 140737488355328 := mul32 (by simp only [List.length_singleton]; omega)
    have hw : IntKind.i64.wrap ((pre.length : Int) + 1) = ((pre ++ [y]).length : Int) := by rw [wr (by omega) (by omega), len_snoc]
    have ih := fun out h => s106_loop (nm := nm) hl ys (pre ++ [y]) out (by rw [he]; simp) h
    have hp : (pre ++ [y]).length = pre.length + 1 := by simp
    simp only [hlt, nn, decide_true, if_true, hg, eqS, h2, hw]
    by_cases h : y.1 = nm
    · have e : cutF nm (y :: ys) = cutF nm ys := by simp [cutF, h]
      simp only [h, decide_true, Bool.not_true, Bool.false_eq_true, if_false, e]
      exact Ev.later (ih out (by omega)) _
    · have e : cutF nm (y :: ys) = y :: cutF nm ys := by simp [cutF, h]
      simp only [h, decide_false, Bool.not_false, if_true, e]
      have := ih (out ++ [y]) (by simp only [List.length_append, List.length_singleton]; omega)
      rw [List.append_assoc] at this
      exact Ev.later this _
theorem s106 {xs : List dFile} {nm : ByteArray} (hl : xs.length ≤ 1099511627776) : Ev (fun k => c106 k xs nm) ((cutF nm xs, ()), ()) :=
  Ev.eqn 12 (fun k => c106_eq k xs nm) (Ev.later (s106_loop hl xs [] [] rfl (Nat.zero_le _)) 1)
end Go.Proofs.Ytcfnhfbaakflgaa.Abs
