/- FnExactCrash says true. -/
import Derived.Test.YtcfnhfbaakflgaaAbsPDisk6
set_option linter.unusedVariables false
set_option linter.unusedSimpArgs false
namespace Go.Proofs.Ytcfnhfbaakflgaa.Abs
open Go

/-! ### Numbers -/
theorem mul8 {n : Nat} (h : n ≤ 1048576) : n * 8 ≤ 140737488355328 := Nat.le_trans (Nat.mul_le_mul_right 8 h) (by decide)
theorem s49_loop {xs : List Int} (hl : xs.length ≤ 1099511627776) : ∀ (ys pre zs : List Int), xs = pre ++ ys → zs.length = ys.length → Ev (fun k => p49_3 k xs (pre.length : Int) (pre ++ zs)) ((xs, ()), ())
  | [], pre, zs, he, hz => by
    refine Ev.eqn 12 (fun k => p49_3_eq k xs (pre.length : Int) (pre ++ zs)) ?_
    have : zs = [] := List.eq_nil_of_length_eq_zero hz
    subst this
    simp only [he, List.append_nil, Int.lt_irrefl, decide_false, Bool.false_eq_true, if_false]
    exact Ev.now
  | y :: ys, pre, [], he, hz => by cases hz
  | y :: ys, pre, z :: zs, he, hz => by
    refine Ev.eqn 12 (fun k => p49_3_eq k xs (pre.length : Int) (pre ++ z :: zs)) ?_
    have hlt : ((pre.length : Nat) : Int) < (xs.length : Int) := by rw [he]; exact lt_len
    have hlt2 : ((pre.length : Nat) : Int) < ((pre ++ z :: zs).length : Int) := lt_len
    have hg : List.getD xs (Int.toNat (pre.length : Int)) 0 = y := by rw [he]; exact getD_at
    have e : pre ++ y :: zs = (pre ++ [y]) ++ zs := by simp
    simp only [hlt, hlt2, nn, decide_true, if_true, hg, set_at]
    rw [wr1 (xs := xs) (y := y) (by rw [he]; simp) hl, e]
    exact Ev.later (s49_loop hl ys (pre ++ [y]) zs (by rw [he]; simp) (by simpa using hz)) 1
theorem s49 {xs : List Int} (hl : xs.length ≤ 1048576) : Ev (fun k => c49 k xs) ((xs, ()), ()) := by
  refine Ev.eqn 12 (fun k => c49_eq k xs) ?_
  simp only [nn, Int.toNat_natCast, mul8 hl, if_true]
  have hl2 : xs.length ≤ 1099511627776 := by omega
  exact Ev.later (s49_loop (xs := xs) hl2 xs [] (List.replicate xs.length 0) rfl (by simp)) 1
theorem s50_loop {xs : List Int} (hl : xs.length ≤ 1099511627776) : ∀ (ys pre : List Int), xs = pre ++ ys → Ev (fun k => p50_4 k xs xs (pre.length : Int)) ((true, ()), ())
  | [], pre, he => by
    refine Ev.eqn 15 (fun k => p50_4_eq k xs xs (pre.length : Int)) ?_
    have he : xs = pre := by rw [he]; simp
    subst he
    simp only [Int.lt_irrefl, decide_false, Bool.false_eq_true, if_false]
    exact Ev.now
  | y :: ys, pre, he => by
    refine Ev.eqn 15 (fun k => p50_4_eq k xs xs (pre.length : Int)) ?_
    have hlt : ((pre.length : Nat) : Int) < (xs.length : Int) := by rw [he]; exact lt_len
    simp only [hlt, nn, decide_true, if_true, bne_self_eq_false, Bool.false_eq_true, if_false]
    rw [wr1 (y := y) (by rw [he]; simp) hl]
    exact Ev.later (s50_loop hl ys (pre ++ [y]) (by rw [he]; simp)) 1
theorem s50 {xs : List Int} (hl : xs.length ≤ 1048576) : Ev (fun k => c50 k xs xs) ((true, ()), ()) := by
  refine Ev.eqn 15 (fun k => c50_eq k xs xs) ?_
  simp only [bne_self_eq_false, Bool.false_eq_true, if_false]
  have hl2 : xs.length ≤ 1099511627776 := by omega
  exact Ev.later (s50_loop (xs := xs) hl2 xs [] rfl) 1
theorem s51_loop : ∀ (n : Nat) (ys pre : List Int) (x : Int), ys.length = n → 0 ≤ x → x + (n : Int) ≤ 1099511627776 → (pre.length : Int) + n ≤ 1099511627776 → ∃ zs, Ev (fun k => p51_2 k x (pre.length : Int) (pre ++ ys)) ((x + (n : Int), ()), (zs, ())) := by
  intro n
  induction n with
  | zero =>
    intro ys pre x hn h0 h1 h2
    have : ys = [] := List.eq_nil_of_length_eq_zero hn
    subst this
    rw [List.append_nil]
    refine ⟨pre, Ev.eqn 14 (fun k => p51_2_eq k x (pre.length : Int) pre) ?_⟩
    simp only [Int.lt_irrefl, decide_false, Bool.false_eq_true, if_false, Int.natCast_zero, Int.add_zero]
    exact Ev.now
  | succ n ih =>
    intro ys pre x hn h0 h1 h2
    cases ys with
    | nil => simp at hn
    | cons y ys =>
      have hn : ys.length = n := by simpa using hn
      obtain ⟨zs, hz⟩ := ih ys (pre ++ [x]) (x + 1) hn (by omega) (by omega) (by rw [List.length_append, List.length_singleton]; omega)
      refine ⟨zs, Ev.eqn 14 (fun k => p51_2_eq k x (pre.length : Int) (pre ++ y :: ys)) ?_⟩
      have hlt : ((pre.length : Nat) : Int) < ((pre ++ y :: ys).length : Int) := lt_len
      simp only [hlt, nn, decide_true, if_true, set_at]
      rw [wr (n := x + 1) (by omega) (by omega), wr (n := (pre.length : Int) + 1) (by omega) (by omega), len_snoc (y := x)]
      have e : x + 1 + (n : Int) = x + ((n + 1 : Nat) : Int) := by omega
      rw [e, List.append_assoc] at hz
      exact Ev.later hz 1
theorem s51 {x : Int} {xs : List Int} (h0 : 0 ≤ x) (h1 : x ≤ 549755813888) (hl : xs.length ≤ 1048576) : ∃ zs, Ev (fun k => c51 k x xs) ((x + (xs.length : Int), ()), (zs, ())) := by
  obtain ⟨zs, hz⟩ := s51_loop xs.length xs [] x rfl h0 (by omega) (by simp only [List.length_nil]; omega)
  exact ⟨zs, Ev.eqn 10 (fun k => c51_eq k x xs) (Ev.later hz 1)⟩
/-! ### Sizes behind an operation -/
theorem tot_cut_mem {nm : ByteArray} : ∀ {xs : List dFile} {y : dFile}, y ∈ xs → y.1 = nm → tot (cutF nm xs) + y.2.1.size ≤ tot xs
  | z :: l, y, h, hy => by
    have hc := tot_cut (nm := nm) (xs := l)
    by_cases hz : z.1 = nm
    · have e : cutF nm (z :: l) = cutF nm l := by simp [cutF, hz]
      rw [e]
      simp only [tot]
      rcases List.mem_cons.1 h with rfl | h
      · omega
      · have := mem_tot h
        have := tot_cut_mem h hy
        omega
    · have e : cutF nm (z :: l) = z :: cutF nm l := by simp [cutF, hz]
      rw [e]
      simp only [tot]
      rcases List.mem_cons.1 h with rfl | h
      · exact absurd hy hz
      · have := tot_cut_mem h hy
        omega
theorem tot_put_eq {nm data : ByteArray} {l : List dFile} : tot (putG nm data false l) = tot (cutF nm l) + data.size := by
  rw [tot_perm put_perm]
  simp only [tot]
  omega
theorem tot_do2 {xs : List dFile} {o : dDOp} : tot (doF xs o).1 ≤ tot xs + o.2.2.2.1.size := by
  unfold doF
  split
  · simp only [tot_put_eq]
    split
    · rename_i h2
      have h3 := fnd_lt (nm := o.2.1) (xs := xs) (by omega)
      have h4 := tot_cut_mem h3.2.2.1 h3.2.2.2
      rw [ByteArray.size_append]
      omega
    · have h4 := tot_cut (nm := o.2.1) (xs := xs)
      omega
  · split
    · simp only
      omega
    · rename_i h2
      have h3 := fnd_lt h2
      have h4 := tot_cut_mem h3.2.2.1 h3.2.2.2
      split
      · simp only [tot_put_eq]
        have h5 := tot_cut (nm := o.2.2.1) (xs := cutF o.2.1 xs)
        omega
      · simp only
        omega
/-! ### What is kept -/
def okK (n : Int) : Int → List Int → Bool
  | _, [] => true
  | b, k :: l => !decide (k ≤ b) && decide (k < n) && okK n k l
def cutOp (o : dDOp) (torn : Int) : dDOp := (o.1, o.2.1, o.2.2.1, o.2.2.2.1.extract 0 (Int.toNat (if torn < (o.2.2.2.1.size : Int) then torn else (o.2.2.2.1.size : Int))), ())
def opAt (ops : List dDOp) (k : Int) : dDOp := List.getD ops (Int.toNat k) tDOp.dflt
def runK (ops : List dDOp) (torn : Int) : List Int → List dFile → List dFile
  | [], xs => xs
  | [k], xs => (doF xs (cutOp (opAt ops k) torn)).1
  | k :: k' :: l, xs => runK ops torn (k' :: l) (doF xs (opAt ops k)).1
theorem extract_all (s : ByteArray) : s.extract 0 s.size = s := by simp
theorem run_form : ∀ {l : List dDOp} {xs : List dFile}, runF xs l ≠ none → ∀ o ∈ l, formOk o = true
  | [], xs, _, o, ho => by cases ho
  | p :: l, xs, h, o, ho => by
    unfold runF at h
    split at h
    · rename_i hc
      simp only [Bool.and_eq_true] at hc
      rcases List.mem_cons.1 ho with rfl | ho
      · exact hc.1.2
      · exact run_form h o ho
    · exact absurd rfl h
theorem form_cut {o : dDOp} (torn : Int) (h : formOk o = true) : formOk (cutOp o torn) = true := by
  unfold formOk cutOp at *
  simp only [Bool.and_eq_true] at h ⊢
  refine ⟨h.1, ?_⟩
  have he : ∀ n, (e0 : ByteArray).extract 0 n = e0 := fun n => by
    apply toList_inj
    simp [ByteArray.toList_eq, e0]
  by_cases h1 : o.1 = 2
  · have h2 := h.2
    simp only [h1, if_true, Bool.and_eq_true, decide_eq_true_eq] at h2 ⊢
    rw [h2.2, he]
    exact ⟨h2.1, rfl⟩
  · have h2 := h.2
    simp only [h1, if_false, Bool.and_eq_true, Bool.or_eq_true, decide_eq_true_eq] at h2 ⊢
    refine ⟨h2.1, ?_⟩
    rcases h2.2 with h3 | h3
    · exact .inl h3
    · rw [h3, he]
      exact .inr rfl
theorem cut_size (o : dDOp) (torn : Int) : (cutOp o torn).2.2.2.1.size ≤ o.2.2.2.1.size := by
  show (o.2.2.2.1.extract 0 _).size ≤ _
  rw [ByteArray.size_extract]
  omega
/-- Right files, and an operation that has its form. -/
structure Fine (xs : List dFile) (j : Nat) : Prop where
  chk : chk none xs = true
  len : xs.length ≤ 60 + j
  tot : tot xs ≤ 200000 + j * 1099511627776
theorem Fine.do_ {xs : List dFile} {j : Nat} {o : dDOp} (h : Fine xs j) (hf : formOk o = true) (hs : o.2.2.2.1.size ≤ 1099511627776) : Fine (doF xs o).1 (j + 1) := by
  have h1 := tot_do (xs := xs) (o := o)
  have h2 := tot_do2 (xs := xs) (o := o)
  have h3 := h.len
  have h4 := h.tot
  refine ⟨chk_do h.chk hf, by omega, ?_⟩
  rw [Nat.add_mul]
  omega
theorem Fine.lim {xs : List dFile} {j : Nat} (h : Fine xs j) (hj : j ≤ 1048576) : xs.length ≤ 1099511627775 ∧ Abs.tot xs ≤ 1152921704606846976 := by
  have h1 := h.len
  have h2 := h.tot
  have h3 : j * 1099511627776 ≤ 1048576 * 1099511627776 := Nat.mul_le_mul_right _ hj
  omega
theorem opAt_mem {ops : List dDOp} {k : Int} (h0 : 0 ≤ k) (h1 : k < (ops.length : Int)) : opAt ops k ∈ ops := by
  unfold opAt
  rw [List.getD_eq_getElem?_getD, List.getElem?_eq_getElem (by omega), Option.getD_some]
  exact List.getElem_mem _
theorem okK_cons {n b k : Int} {l : List Int} (h : okK n b (k :: l) = true) : b < k ∧ k < n ∧ okK n k l = true := by
  simp only [okK, Bool.and_eq_true, Bool.not_eq_true', decide_eq_false_iff_not, decide_eq_true_eq] at h
  exact ⟨by omega, h.1.2, h.2⟩
/-- The program's disk behind a loss of power, and the reference's. -/
def crashD (d : dDisk') (keep : List Int) (torn : Int) : dDisk' × Bool :=
  if okD d = true ∧ 0 ≤ torn ∧ okK (d.2.2.1.length : Int) (-1) keep = true ∧ filesOk (runK d.2.2.1 torn keep d.2.1) = true then ((runK d.2.2.1 torn keep d.2.1, runK d.2.2.1 torn keep d.2.1, [], ()), true) else (([], [], [], ()), false)
section
variable {ops : List dDOp} {keep : List Int} {torn : Int}
theorem lastB {pre l : List Int} {k : Int} (hk : keep.length ≤ 1048576) (he : keep = pre ++ k :: l) : ((pre.length : Int) == IntKind.i64.wrap ((keep.length : Int) - 1)) = decide (l = []) := by
  have hl : keep.length = pre.length + l.length + 1 := by rw [he]; simp; omega
  rw [wr (by omega) (by omega)]
  by_cases h : l = []
  · subst h
    simp only [List.length_nil] at hl
    have : (pre.length : Int) = (keep.length : Int) - 1 := by omega
    simp [this]
  · have h1 : 0 < l.length := List.length_pos_iff.2 h
    have : ¬ (pre.length : Int) = (keep.length : Int) - 1 := by omega
    simp [this, h]
theorem runK_fine (hops : ∀ o ∈ ops, formOk o = true ∧ o.2.2.2.1.size ≤ 1099511627776) : ∀ (l : List Int) (b : Int) (xs : List dFile) (j : Nat), -1 ≤ b → okK (ops.length : Int) b l = true → Fine xs j → Fine (runK ops torn l xs) (j + l.length)
  | [], b, xs, j, _, _, h => h
  | [k], b, xs, j, hb, hk, h => by
    obtain ⟨h1, h2, _⟩ := okK_cons hk
    obtain ⟨h3, h4⟩ := hops _ (opAt_mem (ops := ops) (k := k) (by omega) h2)
    exact h.do_ (form_cut torn h3) (Nat.le_trans (cut_size _ _) h4)
  | k :: k' :: l, b, xs, j, hb, hk, h => by
    obtain ⟨h1, h2, h5⟩ := okK_cons hk
    obtain ⟨h3, h4⟩ := hops _ (opAt_mem (ops := ops) (k := k) (by omega) h2)
    have := runK_fine hops (k' :: l) k _ (j + 1) (by omega) h5 (h.do_ h3 h4)
    have e : j + 1 + (k' :: l).length = j + (k :: k' :: l).length := by simp only [List.length_cons]; omega
    rw [e] at this
    exact this
/-- The reference's second loop. -/
theorem s48b_loop (hk : keep.length ≤ 1048576) (hops : ∀ o ∈ ops, formOk o = true ∧ o.2.2.2.1.size ≤ 1099511627776) (ht : 0 ≤ torn) (a1 a2 b1 b2 : List dFile) (c1 : List dDOp) : ∀ (l pre : List Int) (b : Int) (xs : List dFile) (j : Nat), keep = pre ++ l → -1 ≤ b → okK (ops.length : Int) b l = true → Fine xs j → j + l.length ≤ 1048576 →
    Ev (fun k => p48_10 k keep torn (pre.length : Int) a1 a2 ops xs b1 b2 c1) (if filesOk (runK ops torn l xs) = true then (((runK ops torn l xs, runK ops torn l xs, [], ()), true, ()), ()) else ((([], [], [], ()), false, ()), ()))
  | [], pre, b, xs, j, he, hb, hok, hF, hj => by
    refine Ev.eqn 19 (fun k => p48_10_eq k keep torn (pre.length : Int) a1 a2 ops xs b1 b2 c1) ?_
    have he : keep = pre := by rw [he]; simp
    subst he
    have hlim := hF.lim (by simp only [List.length_nil] at hj; omega)
    simp only [Int.lt_irrefl, decide_false, Bool.false_eq_true, if_false, runK]
    refine Ev.bind (Ev.later (s68 (xs := xs) (by omega) (by omega)) _) ?_
    by_cases hfo : filesOk xs = true
    case neg =>
      have hfo : filesOk xs = false := by simpa using hfo
      simp only [hfo, Bool.not_false, if_true, Bool.false_eq_true, if_false]
      exact Ev.now
    case pos =>
      have hb : (List.length ([] : List dFile) + xs.length) * 32 ≤ 140737488355328 := mul32 (by simp only [List.length_nil]; omega)
      simp only [hfo, Bool.not_true, Bool.false_eq_true, if_false, if_true, hb, List.nil_append]
      exact Ev.now
  | k :: l, pre, b, xs, j, he, hb, hok, hF, hj => by
    obtain ⟨h1, h2, h3⟩ := okK_cons hok
    have hlim := hF.lim (by omega)
    have hlt : ((pre.length : Nat) : Int) < (keep.length : Int) := by rw [he]; exact lt_len
    have hg : List.getD keep (Int.toNat (pre.length : Int)) 0 = k := by rw [he]; exact getD_at
    have hk0 : 0 ≤ k := by omega
    obtain ⟨hf, hs⟩ := hops _ (opAt_mem (ops := ops) hk0 h2)
    have hlast := lastB hk he
    have hw : IntKind.i64.wrap ((pre.length : Int) + 1) = ((pre ++ [k]).length : Int) := wr1 (xs := keep) (y := k) (by rw [he]; simp) (by omega)
    have hop : List.getD ops (Int.toNat k) tDOp.dflt = opAt ops k := rfl
    refine Ev.eqn 19 (fun n => p48_10_eq n keep torn (pre.length : Int) a1 a2 ops xs b1 b2 c1) ?_
    simp only [hlt, nn, decide_true, if_true, hg, hk0, h2, hlast, hop, hw]
    have step : ∀ o : dDOp, formOk o = true → o.2.2.2.1.size ≤ 1099511627776 → (∀ ys, runK ops torn (k :: l) ys = runK ops torn l (doF ys o).1) →
        Ev (fun n => (c69 (n + 6) xs o).bind fun z => p48_10 (n + 1) keep torn ((pre ++ [k]).length : Int) a1 a2 ops z.1.1 b1 b2 c1) (if filesOk (runK ops torn (k :: l) xs) = true then (((runK ops torn (k :: l) xs, runK ops torn (k :: l) xs, [], ()), true, ()), ()) else ((([], [], [], ()), false, ()), ())) := by
      intro o ho hos hrun
      refine Ev.bind (Ev.later (s69 (o := o) (by omega) (by omega) (by omega)) _) ?_
      rw [hrun]
      exact Ev.later (s48b_loop hk hops ht a1 a2 b1 b2 c1 l (pre ++ [k]) k (doF xs o).1 (j + 1) (by rw [he]; simp) (by omega) h3 (hF.do_ ho hos) (by simp only [List.length_cons] at hj; omega)) 1
    by_cases hl : l = []
    · subst hl
      simp only [decide_true, if_true, beq_iff_eq, decide_eq_true_eq, gt_iff_lt]
      have hrun : ∀ o, cutOp (opAt ops k) torn = o → ∀ ys, runK ops torn [k] ys = runK ops torn [] (doF ys o).1 := fun o ho ys => by rw [← ho]; rfl
      have hdata : ∀ s : ByteArray, ((s = (opAt ops k).2.2.2.1.extract 0 (Int.toNat (if torn < ((opAt ops k).2.2.2.1.size : Int) then torn else ((opAt ops k).2.2.2.1.size : Int))))) → cutOp (opAt ops k) torn = ((opAt ops k).1, (opAt ops k).2.1, (opAt ops k).2.2.1, s, ()) := fun s hs => by rw [hs]; rfl
      have hfc := form_cut torn hf
      have hsc := Nat.le_trans (cut_size (opAt ops k) torn) hs
      by_cases hk1 : (opAt ops k).1 = 1
      · simp only [hk1, if_true]
        by_cases htn : torn < ((opAt ops k).2.2.2.1.size : Int)
        · have htn2 : torn ≤ ((opAt ops k).2.2.2.1.size : Int) := by omega
          simp only [htn, if_true, ht, htn2]
          have hd := hdata ((opAt ops k).2.2.2.1.extract 0 (Int.toNat torn)) (by rw [if_pos htn])
          rw [hk1] at hd
          rw [hd] at hfc hsc
          exact step _ hfc hsc (hrun _ hd)
        · simp only [htn, if_false]
          have hd := hdata (opAt ops k).2.2.2.1 (by rw [if_neg htn, Int.toNat_natCast, extract_all])
          rw [hk1] at hd
          rw [hd] at hfc hsc
          exact step _ hfc hsc (hrun _ hd)
      · simp only [hk1, if_false]
        have hd0 : (opAt ops k).2.2.2.1 = e0 := by
          unfold formOk at hf
          simp only [Bool.and_eq_true] at hf
          have h5 := hf.2
          by_cases h6 : (opAt ops k).1 = 2
          · simp only [h6, if_true, Bool.and_eq_true, decide_eq_true_eq] at h5
            exact h5.2
          · simp only [h6, if_false, Bool.and_eq_true, Bool.or_eq_true, decide_eq_true_eq] at h5
            exact h5.2.resolve_left hk1
        have hd := hdata (opAt ops k).2.2.2.1 (by
          rw [hd0]
          apply toList_inj
          simp [ByteArray.toList_eq, e0])
        rw [hd] at hfc hsc
        exact step _ hfc hsc (hrun _ hd)
    · obtain ⟨k', l', rfl⟩ : ∃ k' l', l = k' :: l' := List.exists_cons_of_ne_nil hl
      simp only [hl, decide_false, Bool.false_eq_true, if_false]
      exact step _ hf hs (fun ys => rfl)
/-- The reference's first loop. -/
theorem s48a_loop (hk : keep.length ≤ 1048576) (hn : ops.length ≤ 1048576) (hops : ∀ o ∈ ops, formOk o = true ∧ o.2.2.2.1.size ≤ 1099511627776) (ht : 0 ≤ torn) (a1 a2 b1 b2 : List dFile) (c1 : List dDOp) (hF : Fine a2 0) (hall : okK (ops.length : Int) (-1) keep = true → True) :
    ∀ (l pre : List Int) (b : Int), keep = pre ++ l → -1 ≤ b → (pre = [] → b = -1) → (∀ p q, pre = p ++ [q] → b = q) → (okK (ops.length : Int) (-1) keep = okK (ops.length : Int) b l) →
    Ev (fun k => p48_4 k keep torn (pre.length : Int) a1 a2 ops b1 b2 c1) (if okK (ops.length : Int) b l = true ∧ filesOk (runK ops torn keep a2) = true then (((runK ops torn keep a2, runK ops torn keep a2, [], ()), true, ()), ()) else ((([], [], [], ()), false, ()), ()))
  | [], pre, b, he, hb, hb0, hb1, hall2 => by
    refine Ev.eqn 15 (fun k => p48_4_eq k keep torn (pre.length : Int) a1 a2 ops b1 b2 c1) ?_
    have he : keep = pre := by rw [he]; simp
    subst he
    have hlim := hF.lim (Nat.zero_le _)
    have hbd : (List.length ([] : List dFile) + a2.length) * 32 ≤ 140737488355328 := mul32 (by simp only [List.length_nil]; omega)
    have hok : okK (ops.length : Int) (-1) keep = true := by rw [hall2]; rfl
    have := s48b_loop hk hops ht a1 a2 b1 b2 c1 keep [] (-1) a2 0 rfl (Int.le_refl _) hok hF (by omega)
    have e : ((if okK (ops.length : Int) b [] = true ∧ filesOk (runK ops torn keep a2) = true then (((runK ops torn keep a2, runK ops torn keep a2, [], ()), true, ()), ()) else ((([], [], [], ()), false, ()), ())) : ((List dFile × List dFile × List dDOp × Unit) × Bool × Unit) × Unit) = if filesOk (runK ops torn keep a2) = true then (((runK ops torn keep a2, runK ops torn keep a2, [], ()), true, ()), ()) else ((([], [], [], ()), false, ()), ()) := by
      simp only [okK, true_and]
    rw [e]
    simp only [Int.lt_irrefl, decide_false, Bool.false_eq_true, if_false, hbd, if_true, List.nil_append]
    exact Ev.later this 2
  | k :: l, pre, b, he, hb, hb0, hb1, hall2 => by
    refine Ev.eqn 15 (fun n => p48_4_eq n keep torn (pre.length : Int) a1 a2 ops b1 b2 c1) ?_
    have hlt : ((pre.length : Nat) : Int) < (keep.length : Int) := by rw [he]; exact lt_len
    have hg : List.getD keep (Int.toNat (pre.length : Int)) 0 = k := by rw [he]; exact getD_at
    have hw : IntKind.i64.wrap ((ops.length : Int) - 1) = (ops.length : Int) - 1 := wr (by omega) (by omega)
    have hw1 : IntKind.i64.wrap ((pre.length : Int) + 1) = ((pre ++ [k]).length : Int) := wr1 (xs := keep) (y := k) (by rw [he]; simp) (by omega)
    have hcont : b < k → k < (ops.length : Int) → Ev (fun n => p48_4 n keep torn ((pre ++ [k]).length : Int) a1 a2 ops b1 b2 c1) (if okK (ops.length : Int) b (k :: l) = true ∧ filesOk (runK ops torn keep a2) = true then (((runK ops torn keep a2, runK ops torn keep a2, [], ()), true, ()), ()) else ((([], [], [], ()), false, ()), ())) := fun h1 h2 => by
      have e : okK (ops.length : Int) b (k :: l) = okK (ops.length : Int) k l := by
        have h3 : ¬ k ≤ b := by omega
        simp [okK, h3, h2]
      rw [e]
      exact s48a_loop hk hn hops ht a1 a2 b1 b2 c1 hF hall l (pre ++ [k]) k (by rw [he]; simp) (by omega) (by simp) (fun p q h => (List.append_inj' h rfl).2 |> fun h => by cases h; rfl) (by rw [hall2, e])
    have hno : ¬ (b < k ∧ k < (ops.length : Int)) → Ev (fun _ => some (((([] : List dFile), ([] : List dFile), ([] : List dDOp), ()), false, ()), ())) (if okK (ops.length : Int) b (k :: l) = true ∧ filesOk (runK ops torn keep a2) = true then (((runK ops torn keep a2, runK ops torn keep a2, [], ()), true, ()), ()) else ((([], [], [], ()), false, ()), ())) := fun h => by
      have : okK (ops.length : Int) b (k :: l) = false := by
        cases hh : okK (ops.length : Int) b (k :: l) with
        | false => rfl
        | true =>
          obtain ⟨h1, h2, _⟩ := okK_cons hh
          exact absurd ⟨h1, h2⟩ h
      rw [this]
      simp only [Bool.false_eq_true, false_and, if_false]
      exact Ev.now
    simp only [hlt, nn, decide_true, if_true, hg, hw, hw1]
    refine Ev.bind (Ev.later (s94 k 0 ((ops.length : Int) - 1)) _) ?_
    by_cases hr : k ≥ 0 ∧ k ≤ (ops.length : Int) - 1
    · simp only [hr.1, hr.2, decide_true, Bool.and_self, Bool.not_true, Bool.false_eq_true, if_false]
      rcases List.eq_nil_or_concat pre with rfl | ⟨p2, q, hpq⟩
      · have hbe := hb0 rfl
        simp only [List.length_nil, Int.natCast_zero, gt_iff_lt, Int.lt_irrefl, decide_false, Bool.false_eq_true, if_false]
        exact Ev.later (hcont (by omega) (by omega)) _
      · rw [List.concat_eq_append] at hpq
        have hbe := hb1 p2 q hpq
        have hlen : (pre.length : Int) = p2.length + 1 := by rw [hpq]; simp
        have hpos : (pre.length : Int) > 0 := by omega
        have hw2 : IntKind.i64.wrap ((pre.length : Int) - 1) = (p2.length : Int) := by
          rw [wr (by omega) (by omega)]
          omega
        have hlt2 : (p2.length : Int) < (keep.length : Int) := by omega
        have hg2 : List.getD keep (Int.toNat (p2.length : Int)) 0 = q := by
          rw [he, hpq, List.append_assoc]
          exact getD_at
        simp only [hpos, decide_true, if_true, hw2, nn, hlt2, hg2, decide_eq_true_eq]
        by_cases hkq : k ≤ q
        · simp only [hkq, if_true]
          exact hno (fun h => by omega)
        · simp only [hkq, if_false]
          exact Ev.later (hcont (by omega) (by omega)) _
    · have : (decide (k ≥ 0) && decide (k ≤ (ops.length : Int) - 1)) = false := by
        cases h : (decide (k ≥ 0) && decide (k ≤ (ops.length : Int) - 1)) with
        | false => rfl
        | true =>
          simp only [Bool.and_eq_true, decide_eq_true_eq] at h
          exact absurd h hr
      simp only [this, Bool.not_false, if_true]
      exact hno (fun h => hr ⟨by omega, by omega⟩)
/-- The program's loop. -/
theorem s72_loop (hk : keep.length ≤ 1048576) (hops : ∀ o ∈ ops, formOk o = true ∧ o.2.2.2.1.size ≤ 1099511627776) (a1 a2 b1 b2 : List dFile) (c1 : List dDOp) : ∀ (l pre : List Int) (b : Int) (xs : List dFile) (j : Nat), keep = pre ++ l → -1 ≤ b → Fine xs j → j + l.length ≤ 1048576 →
    Ev (fun k => p72_3 k keep torn xs b keep (keep.length : Int) (pre.length : Int) a1 a2 ops b1 b2 c1) (if 0 ≤ torn ∧ okK (ops.length : Int) b l = true ∧ filesOk (runK ops torn l xs) = true then (((runK ops torn l xs, runK ops torn l xs, [], ()), true, ()), ()) else ((([], [], [], ()), false, ()), ()))
  | [], pre, b, xs, j, he, hb, hF, hj => by
    refine Ev.eqn 28 (fun k => p72_3_eq k keep torn xs b keep (keep.length : Int) (pre.length : Int) a1 a2 ops b1 b2 c1) ?_
    have he : keep = pre := by rw [he]; simp
    subst he
    have hlim := hF.lim (by simp only [List.length_nil] at hj; omega)
    simp only [Int.lt_irrefl, decide_false, Bool.false_eq_true, if_false, runK, okK, true_and, decide_eq_true_eq]
    by_cases ht : torn < 0
    · have ht2 : ¬ 0 ≤ torn := by omega
      simp only [ht, ht2, if_true, false_and, if_false]
      exact Ev.now
    · have ht2 : 0 ≤ torn := by omega
      have hfe : filesOk xs = fewOk xs := by rw [← filesOk_eq, hF.chk, Bool.true_and]
      simp only [ht, ht2, if_false, true_and, hfe]
      refine Ev.bind (Ev.later (s66 (xs := xs) (by omega) (by omega)) _) ?_
      cases hfo : fewOk xs with
      | false =>
        simp only [Bool.not_false, if_true, Bool.false_eq_true, if_false]
        exact Ev.now
      | true =>
        simp only [Bool.not_true, Bool.false_eq_true, if_false, if_true]
        refine Ev.bind (Ev.later (s107 (xs := xs) (by omega)) _) ?_
        refine Ev.bind (Ev.later (s107 (xs := xs) (by omega)) _) ?_
        exact Ev.now
  | k :: l, pre, b, xs, j, he, hb, hF, hj => by
    have hlim := hF.lim (by omega)
    have hlt : ((pre.length : Nat) : Int) < (keep.length : Int) := by rw [he]; exact lt_len
    have hg : List.getD keep (Int.toNat (pre.length : Int)) 0 = k := by rw [he]; exact getD_at
    have hlast := lastB hk he
    have hw : IntKind.i64.wrap ((pre.length : Int) + 1) = ((pre ++ [k]).length : Int) := wr1 (xs := keep) (y := k) (by rw [he]; simp) (by omega)
    have hop : List.getD ops (Int.toNat k) tDOp.dflt = opAt ops k := rfl
    have hno : ¬ (b < k ∧ k < (ops.length : Int)) → Ev (fun _ => some (((([] : List dFile), ([] : List dFile), ([] : List dDOp), ()), false, ()), ())) (if 0 ≤ torn ∧ okK (ops.length : Int) b (k :: l) = true ∧ filesOk (runK ops torn (k :: l) xs) = true then (((runK ops torn (k :: l) xs, runK ops torn (k :: l) xs, [], ()), true, ()), ()) else ((([], [], [], ()), false, ()), ())) := fun h => by
      have : okK (ops.length : Int) b (k :: l) = false := by
        cases hh : okK (ops.length : Int) b (k :: l) with
        | false => rfl
        | true =>
          obtain ⟨h1, h2, _⟩ := okK_cons hh
          exact absurd ⟨h1, h2⟩ h
      rw [this]
      simp only [Bool.false_eq_true, false_and, and_false, if_false]
      exact Ev.now
    refine Ev.eqn 28 (fun n => p72_3_eq n keep torn xs b keep (keep.length : Int) (pre.length : Int) a1 a2 ops b1 b2 c1) ?_
    simp only [hlt, nn, decide_true, if_true, hg, decide_eq_true_eq, ge_iff_le]
    by_cases hk1 : k ≤ b
    · simp only [hk1, if_true]
      exact hno (fun h => by omega)
    simp only [hk1, if_false]
    by_cases hk2 : (ops.length : Int) ≤ k
    · simp only [hk2, if_true]
      exact hno (fun h => by omega)
    have hk0 : 0 ≤ k := by omega
    have h2 : k < (ops.length : Int) := by omega
    obtain ⟨hf, hs⟩ := hops _ (opAt_mem (ops := ops) hk0 h2)
    have hokk : okK (ops.length : Int) b (k :: l) = okK (ops.length : Int) k l := by simp [okK, hk1, h2]
    simp only [hk2, if_false, hk0, h2, if_true, hlast, hop, hw]
    have step : ∀ o : dDOp, formOk o = true → o.2.2.2.1.size ≤ 1099511627776 → (0 ≤ torn → ∀ ys, runK ops torn (k :: l) ys = runK ops torn l (doF ys o).1) →
        Ev (fun n => (c64 (n + 5) xs o).bind fun z => p72_3 (n + 1) keep torn z.1.1 k keep (keep.length : Int) ((pre ++ [k]).length : Int) a1 a2 ops b1 b2 c1) (if 0 ≤ torn ∧ okK (ops.length : Int) b (k :: l) = true ∧ filesOk (runK ops torn (k :: l) xs) = true then (((runK ops torn (k :: l) xs, runK ops torn (k :: l) xs, [], ()), true, ()), ()) else ((([], [], [], ()), false, ()), ())) := by
      intro o ho hos hrun
      refine Ev.bind (Ev.later (s64 (o := o) (by omega) (by omega) (by omega)) _) ?_
      rw [do_eq (chk_iff.1 hF.chk).2.1 ho, hokk]
      have := s72_loop hk hops a1 a2 b1 b2 c1 l (pre ++ [k]) k (doF xs o).1 (j + 1) (by rw [he]; simp) (by omega) (hF.do_ ho hos) (by simp only [List.length_cons] at hj; omega)
      by_cases ht : 0 ≤ torn
      · rw [hrun ht]
        exact Ev.later this 1
      · simp only [ht, false_and, if_false] at this ⊢
        exact Ev.later this 1
    by_cases hl : l = []
    · subst hl
      simp only [decide_true, if_true]
      have hfc := form_cut torn hf
      have hsc := Nat.le_trans (cut_size (opAt ops k) torn) hs
      by_cases ht : 0 ≤ torn
      · have q1 : (0 : Int) ≤ (if torn < ((opAt ops k).2.2.2.1.size : Int) then torn else ((opAt ops k).2.2.2.1.size : Int)) := by split <;> omega
        have q2 : (if torn < ((opAt ops k).2.2.2.1.size : Int) then torn else ((opAt ops k).2.2.2.1.size : Int)) ≤ ((opAt ops k).2.2.2.1.size : Int) := by split <;> omega
        simp only [ht, q1, q2, if_true]
        have st := step (cutOp (opAt ops k) torn) hfc hsc (fun _ ys => rfl)
        simp only [ht, true_and] at st
        simp only [true_and]
        exact st
      · simp only [ht, if_false]
        have st := step (opAt ops k) hf hs (fun h => absurd h ht)
        simp only [ht, false_and, if_false] at st
        simp only [false_and, if_false]
        exact st
    · obtain ⟨k', l', rfl⟩ : ∃ k' l', l = k' :: l' := List.exists_cons_of_ne_nil hl
      simp only [hl, decide_false, Bool.false_eq_true, if_false]
      exact step (opAt ops k) hf hs (fun _ ys => rfl)
end
theorem okD_fine {d : dDisk'} (hf : Fit d) (h : okD d = true) : (∀ o ∈ d.2.2.1, formOk o = true ∧ o.2.2.2.1.size ≤ 1099511627776) ∧ Fine d.2.1 0 := by
  unfold okD at h
  simp only [Bool.and_eq_true, decide_eq_true_eq] at h
  obtain ⟨⟨⟨h1, h2⟩, h3⟩, h4⟩ := h
  have hr : runF d.2.1 d.2.2.1 ≠ none := by
    intro hh
    rw [hh] at h4
    cases h4
  have hs := filesOk_small h2
  have hc : chk none d.2.1 = true := by
    rw [← filesOk_eq, Bool.and_eq_true] at h2
    exact h2.1
  exact ⟨fun o ho => ⟨run_form hr o ho, hf.ho o ho⟩, hc, by omega, by omega⟩
theorem s48 {d : dDisk'} (h : Fit d) {keep : List Int} {torn : Int} (hk : keep.length ≤ 1048576) (hn : d.2.2.1.length ≤ 1048576) : Ev (fun k => c48 k d keep torn) ((((crashD d keep torn).1.1, (crashD d keep torn).1.2.1, (crashD d keep torn).1.2.2.1, ()), (crashD d keep torn).2, ()), ()) := by
  refine Ev.eqn 15 (fun k => c48_eq k d keep torn) ?_
  refine Ev.bind (Ev.later (s28 (d := (d.1, d.2.1, d.2.2.1, ())) h.h1 (Nat.le_succ_of_le h.h2) h.h3 h.t1 h.t2 h.ho) _) ?_
  have e : ((d.1, d.2.1, d.2.2.1, ()) : dDisk') = d := rfl
  simp only [e]
  unfold crashD
  cases hok : okD d with
  | false =>
    simp only [Bool.not_false, if_true, Bool.false_eq_true, false_and, if_false]
    exact Ev.now
  | true =>
    obtain ⟨hops, hF⟩ := okD_fine h hok
    simp only [Bool.not_true, Bool.false_eq_true, if_false, true_and, decide_eq_true_eq]
    by_cases ht : torn < 0
    · have ht2 : ¬ 0 ≤ torn := by omega
      simp only [ht, ht2, if_true, false_and, if_false]
      exact Ev.now
    · have ht2 : 0 ≤ torn := by omega
      have := s48a_loop hk hn hops ht2 d.1 d.2.1 [] [] [] hF (fun _ => trivial) keep [] (-1) rfl (Int.le_refl _) (fun _ => rfl) (fun p q h => by simp at h) rfl
      simp only [ht, ht2, if_false, true_and]
      by_cases hc : okK (d.2.2.1.length : Int) (-1) keep = true ∧ filesOk (runK d.2.2.1 torn keep d.2.1) = true
      · rw [if_pos hc] at this ⊢
        exact Ev.later this 1
      · rw [if_neg hc] at this ⊢
        exact Ev.later this 1
theorem s72 {d : dDisk'} (h : Fit d) (hok : okD d = true) {keep : List Int} {torn : Int} (hk : keep.length ≤ 1048576) : Ev (fun k => c72 k d keep torn) ((((crashD d keep torn).1.1, (crashD d keep torn).1.2.1, (crashD d keep torn).1.2.2.1, ()), (crashD d keep torn).2, ()), ()) := by
  refine Ev.eqn 11 (fun k => c72_eq k d keep torn) ?_
  obtain ⟨hops, hF⟩ := okD_fine h hok
  have := s72_loop (torn := torn) hk hops d.1 d.2.1 [] [] [] keep [] (-1) d.2.1 0 rfl (Int.le_refl _) hF (by omega)
  unfold crashD
  simp only [hok, true_and]
  by_cases hc : 0 ≤ torn ∧ okK (d.2.2.1.length : Int) (-1) keep = true ∧ filesOk (runK d.2.2.1 torn keep d.2.1) = true
  · rw [if_pos hc] at this ⊢
    exact Ev.later this 1
  · rw [if_neg hc] at this ⊢
    exact Ev.later this 1
theorem s29 {d : dDisk'} (h : Fit d) {keep : List Int} {torn : Int} (hk : keep.length ≤ 1048576) : Ev (fun k => c29 k d keep torn) ((((crashD d keep torn).1.1, (crashD d keep torn).1.2.1, (crashD d keep torn).1.2.2.1, ()), (crashD d keep torn).2, ()), ()) := by
  refine Ev.eqn 10 (fun k => c29_eq k d keep torn) ?_
  refine Ev.bind (Ev.later (s27 (d := (d.1, d.2.1, d.2.2.1, ())) h.h1 h.h2 h.h3 h.t1 h.t2 h.ho) _) ?_
  have e : ((d.1, d.2.1, d.2.2.1, ()) : dDisk') = d := rfl
  simp only [e]
  cases hok : okD d with
  | false =>
    unfold crashD
    simp only [hok, Bool.not_false, if_true, Bool.false_eq_true, false_and, if_false]
    exact Ev.now
  | true =>
    simp only [Bool.not_true, Bool.false_eq_true, if_false]
    refine Ev.bind (Ev.later (s72 (d := (d.1, d.2.1, d.2.2.1, ())) h hok hk) _) ?_
    exact Ev.now
theorem crash_len (d : dDisk') (keep : List Int) (torn : Int) : (crashD d keep torn).1.1.length ≤ 1048576 ∧ (crashD d keep torn).1.2.1.length ≤ 1048576 ∧ (crashD d keep torn).1.2.2.1.length ≤ 1048576 := by
  unfold crashD
  split
  · rename_i h
    have := filesOk_small h.2.2.2
    exact ⟨by simp only; omega, by simp only; omega, Nat.zero_le _⟩
  · exact ⟨Nat.zero_le _, Nat.zero_le _, Nat.zero_le _⟩
theorem s13 {d : dDisk} (hd : SmD d) {keep : List Int} (hkm : keep.length ≤ maxLen) (torn : Int) : Ev (fun k => c13 k d keep torn) ((true, ()), ()) := by
  refine Ev.eqn 92 (fun k => c13_eq k d keep torn) ?_
  have e : ((d.1, d.2.1, d.2.2.1, ()) : dDisk) = d := rfl
  simp only [e, decide_eq_true_eq]
  by_cases hb : (keep.length : Int) > 1048576
  · simp only [hb, if_true]
    exact Ev.now
  have hk : keep.length ≤ 1048576 := by omega
  simp only [hb, if_false]
  refine Ev.bind (Ev.later (s32 hd (by decide) (by decide)) _) ?_
  simp only
  by_cases hn : szD d 1048576 < 0
  · simp only [hn, if_true]
    exact Ev.now
  obtain ⟨hf, l1, l2, l3⟩ := szD_fit hn
  have c33 := s33 (d := d) (mul32 (by omega)) (mul32 (by omega)) (mul56 l3)
  have hS := s29 hf (keep := keep) (torn := torn) hk
  obtain ⟨n1, n2, n3⟩ := crash_len (d.1, d.2.1, d.2.2.1, ()) keep torn
  have hEq := s34s n1 n2 n3
  have hEd := s34s (a := (d.1, d.2.1, d.2.2.1, ())) l1 l2 l3
  obtain ⟨zs, hz⟩ := s51 (x := mEnd d.1.length d.2.1.length d.2.2.1.length) (xs := keep) (by unfold mEnd; omega) (by unfold mEnd; omega) hk
  have hpos : ¬ mEnd d.1.length d.2.1.length d.2.2.1.length + (keep.length : Int) < 0 := by unfold mEnd; omega
  simp only [hn, if_false]
  refine Ev.bind (Ev.later c33 _) ?_
  refine Ev.bind (Ev.later (s49 hk) _) ?_
  refine Ev.bind (Ev.later (s48 hf hk l3) _) ?_
  refine Ev.bind (Ev.later c33 _) ?_
  refine Ev.bind (Ev.later (s49 hk) _) ?_
  refine Ev.bind (Ev.later hS _) ?_
  refine Ev.bind (Ev.later hEq _) ?_
  simp only [Bool.not_true, Bool.false_eq_true, if_false, beq_self_eq_true]
  refine Ev.bind (Ev.later c33 _) ?_
  refine Ev.bind (Ev.later hEd _) ?_
  simp only [Bool.not_true, Bool.false_eq_true, if_false]
  refine Ev.bind (Ev.later (s49 hk) _) ?_
  refine Ev.bind (Ev.later (s50 hk) _) ?_
  simp only [Bool.not_true, Bool.false_eq_true, if_false]
  refine Ev.bind (Ev.later (s41 (by omega) (by omega) (by omega)) _) ?_
  refine Ev.bind (Ev.later hz _) ?_
  simp only [hpos, if_false]
  refine Ev.bind (Ev.later hEq _) ?_
  simp only [Bool.not_true, Bool.false_eq_true, if_false, beq_self_eq_true]
  refine Ev.bind (Ev.later (s41 (by omega) (by omega) (by omega)) _) ?_
  refine Ev.bind (Ev.later (s42 (by omega) (by omega) (by omega)) _) ?_
  simp only [mEnd_pos, if_false, bne_self_eq_false, Bool.false_eq_true]
  refine Ev.bind (Ev.later c33 _) ?_
  refine Ev.bind (Ev.later (s49 hk) _) ?_
  refine Ev.bind (Ev.later hS _) ?_
  refine Ev.bind (Ev.later hEq _) ?_
  simp only [Bool.not_true, Bool.false_eq_true, if_false, beq_self_eq_true]
  refine Ev.bind (Ev.later (s42 (by omega) (by omega) (by omega)) _) ?_
  simp only [mEnd_pos, if_false, bne_self_eq_false, Bool.false_eq_true]
  exact Ev.now
end Go.Proofs.Ytcfnhfbaakflgaa.Abs
