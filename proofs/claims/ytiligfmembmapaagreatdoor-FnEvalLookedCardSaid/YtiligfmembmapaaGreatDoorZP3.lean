/- Plain laws: whatever its state, the program's reader comes to an end, keeps what it has put and does not forget that it is bad. -/
import Derived.Test.YtiligfmembmapaaGreatDoorZP2
import Derived.Lib.SplitLaws
set_option linter.unusedVariables false
set_option linter.unusedSimpArgs false
set_option linter.unusedSectionVars false
namespace Go.Proofs.YtiligfmembmapaaGreatDoor.Abs
open Go

/-- A node of no great size. -/
def smN (x : dFNode) : Bool := decide (x.2.2.1.2.2.1.size ≤ 100000) && decide (x.2.2.2.2.2.1.length ≤ 100000)
def sm (ns : List dFNode) : Bool := ns.all smN
theorem suf_refl (l : Bys) : l <:+ l := List.suffix_refl l
theorem smC {v : dValue} (h : v.2.2.1.size ≤ 100000) : smN (nC v) = true := by
  unfold smN
  rw [decide_eq_true h]
  rfl
theorem smF {op : Int} {y : List Int} (h : y.length ≤ 100000) : smN (6, op, (0, 0, (⟨#[]⟩ : ByteArray), ()), ((0, 0, ()), false, false, ()), ((0, 0, ()), false, false, ()), y, ()) = true := by
  unfold smN
  rw [Bool.and_eq_true]
  exact ⟨rfl, decide_eq_true h⟩
theorem head_cons {l : Bys} {c : UInt8} (h : l.head? = some c) : ∃ t, l = c :: t := by
  cases l with
  | nil => cases h
  | cons y t =>
    simp only [List.head?_cons, Option.some.injEq] at h
    exact ⟨t, by rw [h]⟩
theorem drop1_lt {l : Bys} {c : UInt8} (h : (bl l).head? = some c) : ((bl l).drop 1).length < l.length := by
  have := suf_len (bl_suf l)
  obtain ⟨t, ht⟩ := head_cons h
  rw [ht] at this ⊢
  simp only [List.length_cons, List.drop_succ_cons, List.drop_zero] at this ⊢
  omega
theorem drop1_suf (l : Bys) : (bl l).drop 1 <:+ l := suf_trans (drop_suf 1 _) (bl_suf l)
theorem wd_suf (l : Bys) : (bl l).dropWhile wdB <:+ l := suf_trans (List.dropWhile_suffix _) (bl_suf l)
theorem arR_suf (l : Bys) : (arR (bl l)).dropWhile wdB <:+ l :=
  suf_trans (List.dropWhile_suffix _) (suf_trans (bl_suf _) (suf_trans (drop_suf 1 _) (suf_trans (bl_suf _) (wd_suf l))))
section
end
end Go.Proofs.YtiligfmembmapaaGreatDoor.Abs
/- Plain laws: the program's reader comes to an end, from every state. -/
set_option linter.unusedVariables false
set_option linter.unusedSimpArgs false
set_option linter.unusedSectionVars false
namespace Go.Proofs.YtiligfmembmapaaGreatDoor.Abs
open Go

theorem fn_some {w : Bys} (h : fnK.find? (fun k => decide (fnT k = w)) ≠ none) : ∃ k, fnK.find? (fun k => decide (fnT k = w)) = some k ∧ fnT k = w ∧ k ∈ fnK ∧ w ≠ [] := by
  cases hf : fnK.find? (fun k => decide (fnT k = w)) with
  | none => exact absurd hf h
  | some k =>
    have h1 := List.find?_some hf
    have h2 := List.mem_of_find?_eq_some hf
    have h3 : fnT k = w := by simpa using h1
    refine ⟨k, rfl, h3, h2, ?_⟩
    have : ∀ k ∈ fnK, fnT k ≠ [] := by decide
    rw [← h3]
    exact this k h2
theorem word_lt {l : Bys} (h : (bl l).takeWhile wdB ≠ []) : ((bl l).dropWhile wdB).length < l.length := by
  have h1 := suf_len (bl_suf l)
  have h2 := congrArg List.length (List.takeWhile_append_dropWhile (p := wdB) (l := bl l))
  rw [List.length_append] at h2
  have h3 := List.length_pos_iff.2 h
  omega
theorem hash_word (l : Bys) : (bl (35 :: l)).takeWhile wdB = [] ∧ (bl (35 :: l)).dropWhile wdB = 35 :: l := by
  have h1 : bl (35 :: l) = 35 :: l := List.dropWhile_cons_of_neg (by decide)
  rw [h1]
  exact ⟨List.takeWhile_cons_of_neg (by decide), List.dropWhile_cons_of_neg (by decide)⟩
theorem opdrop {l : Bys} (h : opL (bl l) ≠ 0) : ((bl l).drop (opT (opL (bl l))).length).length < l.length := by
  have h1 := suf_len (bl_suf l)
  have h2 := opL_text h
  have h3 := pre_len (sg_pre (bl l))
  have h4 : 1 ≤ (opT (opL (bl l))).length := by
    have := opL_range (bl l)
    have h5 : ∀ k : Fin 12, k.val ≠ 0 → 1 ≤ (opT (k.val : Int)).length := by decide
    have := h5 ⟨(opL (bl l)).toNat, by omega⟩ (by simp only; omega)
    simp only [Int.toNat_of_nonneg (opL_range (bl l)).1] at this
    exact this
  rw [h2] at h3
  rw [List.length_drop]
  omega
end Go.Proofs.YtiligfmembmapaaGreatDoor.Abs
/- Plain laws: both readers side by side: what is put behind; the arguments of a function. -/
set_option linter.unusedVariables false
set_option linter.unusedSimpArgs false
set_option linter.unusedSectionVars false
namespace Go.Proofs.YtiligfmembmapaaGreatDoor.Abs
open Go

abbrev RS := Option ((Int × Unit) × (ds_l3Rd × Unit))
def okAll (ns : List dFNode) : Bool := ns.all okNode
theorem okAll_pre {ns ns' : List dFNode} (h : ns <+: ns') (k : okAll ns = false) : okAll ns' = false := by
  obtain ⟨r, rfl⟩ := h
  unfold okAll at k ⊢
  rw [List.all_append, k]
  rfl
/-- It cannot end well any more. -/
def Dm (b : Bool) (ns : List dFNode) : Prop := (b = true ∨ okAll ns = false) ∧ sm ns = true
theorem okNode_sm {x : dFNode} (h : okNode x = true) : smN x = true := by
  have : x.2.2.1.2.2.1.size ≤ 100000 ∧ x.2.2.2.2.2.1.length ≤ 100000 := by
    unfold okNode kl at h
    split at h
    · simp only [Bool.and_eq_true, decide_eq_true_eq] at h
      have := okVal_size h.1.1.2
      omega
    · split at h
      · simp only [Bool.and_eq_true, decide_eq_true_eq] at h
        rw [h.1.1.1.2]
        exact ⟨by decide, by omega⟩
      · split at h
        · simp only [Bool.and_eq_true, decide_eq_true_eq] at h
          rw [h.1.1.2]
          exact ⟨by decide, by omega⟩
        · split at h
          · simp only [Bool.and_eq_true, decide_eq_true_eq] at h
            rw [h.1.1.1.2]
            exact ⟨by decide, by omega⟩
          · split at h
            · simp only [Bool.and_eq_true, decide_eq_true_eq] at h
              rw [h.1.1.1.2]
              exact ⟨by decide, by omega⟩
            · split at h
              · simp only [Bool.and_eq_true, decide_eq_true_eq] at h
                rw [h.1.1.2]
                refine ⟨by decide, ?_⟩
                have h2 := h.1.1.1
                unfold okArgs at h2
                split at h2
                · simp only [Bool.or_eq_true, decide_eq_true_eq] at h2
                  omega
                · split at h2
                  · have := inB_iff.1 h2
                    omega
                  · split at h2
                    · simp only [decide_eq_true_eq] at h2
                      omega
                    · cases h2
              · cases h
  unfold smN
  rw [decide_eq_true this.1, decide_eq_true this.2]
  rfl
theorem smOf {ns : List dFNode} (h : okAll ns = true) : sm ns = true := by
  unfold okAll at h
  unfold sm
  rw [List.all_eq_true] at h ⊢
  exact fun x hx => okNode_sm (h x hx)
theorem dmb {ns : List dFNode} (h : okAll ns = true) : Dm true ns := ⟨.inl rfl, smOf h⟩
theorem lv_lt (k : Int) : lvI k < 5 := by
  unfold lvI
  repeat' split
  all_goals omega
theorem sm_snoc {ns : List dFNode} {x : dFNode} (h : sm ns = true) (hx : smN x = true) : sm (ns ++ [x]) = true := by
  unfold sm at h ⊢
  rw [List.all_append, h]
  simp [hx]
theorem sm_big {x : dFNode} (h : smN x = true) : x.2.2.1.2.2.1.size ≤ 9223372036854775807 := by
  unfold smN at h
  rw [Bool.and_eq_true, decide_eq_true_eq] at h
  exact Nat.le_trans h.1 (by decide)
/-- When the reference is bad, what it puts behind stays bad. -/
theorem sadd_bad {s : Bys} {a : Int} {x : dFNode} {ns : List dFNode} (hn : ns.length ≤ 1000) (hx : x.2.2.1.2.2.1.size ≤ 9223372036854775807) : sl3Rd_add x (ba s) a true ns = some (((ns.length : Int), ()), ((ba s, a, true, ns ++ [x], ()), ())) := by
  rw [sadd_ok hn hx]
  rfl
/-! ### The arguments of a function -/
theorem scall_swap {op : Int} {s : ByteArray} {a : Int} {b : Bool} {ns : List dFNode} {kids : List Int} : sl3Rd_call_p2 op s a b ns kids = sl3Rd_call_p2' op s a b kids ns := by
  rw [sl3Rd_call_p2_eq, sl3Rd_call_p2'_eq]
theorem scall_bad {op : Int} {s : ByteArray} {a : Int} {ns : List dFNode} {kids : List Int} : sl3Rd_call_p2' op s a true kids ns = some ((0, ()), ((s, a, true, ns, ()), ())) := by
  rw [sl3Rd_call_p2'_eq]
  rfl
abbrev nF (op : Int) (kids : List Int) : dFNode := (6, op, (0, 0, (⟨#[]⟩ : ByteArray), ()), ((0, 0, ()), false, false, ()), ((0, 0, ()), false, false, ()), kids, ())
/-- The reference behind an argument. -/
noncomputable def sTail (op : Int) (y : List Int) (s : ByteArray) (a : Int) (b : Bool) (ns : List dFNode) : RS :=
  (sl3Rd_is (⟨#[41]⟩ : ByteArray) s a b ns).bind fun z2 => (if z2.1.1 = true then ((sl3Rd_add (nF op y) z2.2.1.1 z2.2.1.2.1 z2.2.1.2.2.1 z2.2.1.2.2.2.1).bind fun z3 => (some ((z3.1.1, ()), (z3.2.1, ())))) else ((sl3Rd_is (⟨#[44]⟩ : ByteArray) z2.2.1.1 z2.2.1.2.1 z2.2.1.2.2.1 z2.2.1.2.2.2.1).bind fun z4 => (if (!z4.1.1) = true then (sl3Rd_call_p2' op z4.2.1.1 z4.2.1.2.1 true y z4.2.1.2.2.2.1) else (sl3Rd_call_p2' op z4.2.1.1 z4.2.1.2.1 z4.2.1.2.2.1 y z4.2.1.2.2.2.1))))
theorem stail_bad {op : Int} {y : List Int} {s l : Bys} {ns : List dFNode} (hs : s.length ≤ 900) (h : l <:+ s) : ∃ l', l' <:+ s ∧ sTail op y (ba s) (at' s l) true ns = some ((0, ()), ((ba s, at' s l', true, ns, ()), ())) := by
  unfold sTail
  rw [show (⟨#[41]⟩ : ByteArray) = ba [41] from rfl, sis_ok (by omega) (by decide) h]
  simp only [Option.bind_some, Bool.not_true, Bool.false_and, Bool.false_eq_true, if_false]
  rw [show (⟨#[44]⟩ : ByteArray) = ba [44] from rfl, sis_ok (by omega) (by decide) (suf_trans (bl_suf l) h)]
  simp only [Option.bind_some, Bool.not_true, Bool.false_and, Bool.false_eq_true, if_false, Bool.not_false, if_true]
  exact ⟨bl (bl l), suf_trans (bl_suf _) (suf_trans (bl_suf l) h), scall_bad⟩
theorem scall_round {op : Int} {s l : Bys} {kids : List Int} {ns : List dFNode} : sl3Rd_call_p2' op (ba s) (at' s l) false kids ns = (sl3Rd_arg (ba s) (at' s l) false ns).bind fun z1 => (app kids ([z1.1.1] : (List Int)) 8 fun y1 => sTail op y1 z1.2.1.1 z1.2.1.2.1 z1.2.1.2.2.1 z1.2.1.2.2.2.1) := by
  rw [sl3Rd_call_p2'_eq]
  rfl
theorem sarg_ok {s l : Bys} {ns : List dFNode} (hs : s.length ≤ 900) (h : l <:+ s) : sl3Rd_arg (ba s) (at' s l) false ns =
    if arB (bl l) = true then (if (rdPl ((arR (bl l)).takeWhile wdB)).2 = true then sl3Rd_add (nA (rdPl ((bl l).takeWhile wdB)).1 (rdPl ((arR (bl l)).takeWhile wdB)).1) (ba s) (at' s ((arR (bl l)).dropWhile wdB)) false ns
      else some ((0, ()), ((ba s, at' s ((arR (bl l)).dropWhile wdB), true, ns, ()), ())))
    else sl3Rd_row 1 (ba s) (at' s (bl l)) false ns := by
  have hm := suf_trans (bl_suf l) h
  have hr := suf_trans (wd_suf l) h
  have hsl := suf_len h
  have h1 := suf_len (bl_suf l)
  have h2 := takeW_len wdB (bl l)
  have h3 := suf_len (arR_suf l)
  rw [sl3Rd_arg_eq, sblk (by omega) h]
  simp only [Option.bind_some]
  rw [sword_ok (by omega) hm]
  simp only [Option.bind_some]
  rw [sReadPlace_ok (by omega)]
  simp only [Option.bind_some]
  unfold arB
  cases hp : (rdPl ((bl l).takeWhile wdB)).2 with
  | false => simp only [Bool.false_and, Bool.false_eq_true, if_false, scall_id]
  | true =>
    simp only [if_true, Bool.true_and]
    rw [show (⟨#[58]⟩ : ByteArray) = ba [58] from rfl, sis_ok (by omega) (by decide) hr]
    simp only [Option.bind_some, Bool.not_false, Bool.true_and, pre1]
    by_cases hc : (bl ((bl l).dropWhile wdB)).head? = some 58
    · simp only [hc, decide_true, if_true, List.length_singleton]
      have hq : (bl ((bl l).dropWhile wdB)).drop 1 <:+ s := suf_trans (drop1_suf _) hr
      rw [sblk (by omega) hq]
      simp only [Option.bind_some]
      have hq2 : arR (bl l) <:+ s := suf_trans (bl_suf _) hq
      rw [show bl ((bl ((bl l).dropWhile wdB)).drop 1) = arR (bl l) from rfl, sword_ok (by omega) hq2]
      simp only [Option.bind_some]
      have h4 := takeW_len wdB (arR (bl l))
      have h5 := suf_len hq2
      rw [sReadPlace_ok (by omega)]
      simp only [Option.bind_some, scall_id]
      cases (rdPl ((arR (bl l)).takeWhile wdB)).2 <;> simp
    · simp only [hc, decide_false, Bool.false_eq_true, if_false, scall_id]
end Go.Proofs.YtiligfmembmapaaGreatDoor.Abs
/- Plain laws: both readers side by side: the arguments of a function. -/
set_option linter.unusedVariables false
set_option linter.unusedSimpArgs false
set_option linter.unusedSectionVars false
namespace Go.Proofs.YtiligfmembmapaaGreatDoor.Abs
open Go

theorem head_pre {c : UInt8} {l : Bys} : ([c] : Bys).isPrefixOf l = decide (l.head? = some c) := pre1 c l
end Go.Proofs.YtiligfmembmapaaGreatDoor.Abs
/- Plain laws: both readers side by side: what is not two things with an operation between. -/
set_option linter.unusedVariables false
set_option linter.unusedSimpArgs false
set_option linter.unusedSectionVars false
namespace Go.Proofs.YtiligfmembmapaaGreatDoor.Abs
open Go

theorem mem_takeW {p : UInt8 → Bool} {c : UInt8} : ∀ {l : Bys}, c ∈ l.takeWhile p → p c = true
  | [], h => by simp at h
  | x :: l, h => by
    cases hx : p x with
    | true =>
      rw [List.takeWhile_cons_of_pos hx] at h
      rcases List.mem_cons.1 h with rfl | h
      · exact hx
      · exact mem_takeW h
    | false =>
      rw [List.takeWhile_cons_of_neg (by rw [hx]; decide)] at h
      cases h
/-- A word that is a value is a number or a flag, but for the empty one. -/
theorem val_word {w : Bys} (hw : ∀ c ∈ w, wdB c = true) (h : (rdVal w).2 = true) : (w ≠ []) ↔ ((rdVal w).1.1 = 1 ∨ (rdVal w).1.1 = 3) := by
  constructor
  · intro hne
    obtain ⟨k1, k2⟩ := rdVal_ok h
    rcases okVal_cases k1 with e | ⟨n, e, _⟩ | ⟨t, e⟩ | ⟨b, e⟩ | ⟨n, e, h0⟩
    · rw [e] at k2
      exact absurd (ba_inj (b := []) k2.symm) hne
    · rw [e]; exact .inl rfl
    · rw [e] at k2
      exfalso
      have e2 : w = 39 :: lb t := by
        have : ba w = ba (39 :: lb t) := by
          rw [← k2]
          show (⟨#[39]⟩ : ByteArray) ++ t = _
          rw [← ba_lb t, show (⟨#[39]⟩ : ByteArray) = ba [39] from rfl, ba_app, lb_ba]
          rfl
        exact ba_inj this
      exact absurd (hw 39 (by rw [e2]; simp)) (by decide)
    · rw [e]; exact .inr rfl
    · rw [e] at k2
      exfalso
      have f : ∀ n : Fin 6, 1 ≤ n.val → errT (n.val : Int) = ba (35 :: erT (n.val : Int)) := by decide +kernel
      have e2 : w = 35 :: erT (n.val : Int) := by
        have : ba w = ba (35 :: erT (n.val : Int)) := by
          rw [← k2]
          exact f n h0
        exact ba_inj this
      exact absurd (hw 35 (by rw [e2]; simp)) (by decide)
  · rintro hk rfl
    have : (rdVal []).1.1 = 0 := rfl
    omega
theorem srow5 {s : ByteArray} {a : Int} {ns : List dFNode} : sl3Rd_row 5 s a false ns = sl3Rd_one s a false ns := by
  rw [sl3Rd_row_eq]
  simp only [Bool.false_eq_true, if_false, scall_id]
  rfl
abbrev nNeg (k : Int) : dFNode := (4, 0, (0, 0, (⟨#[]⟩ : ByteArray), ()), ((0, 0, ()), false, false, ()), ((0, 0, ()), false, false, ()), ([k] : (List Int)), ())
theorem eS_big : ByteArray.size ⟨#[]⟩ ≤ 9223372036854775807 := by decide
end Go.Proofs.YtiligfmembmapaaGreatDoor.Abs
/- Plain laws: both readers of formulas are one. -/
set_option linter.unusedVariables false
set_option linter.unusedSimpArgs false
set_option linter.unusedSectionVars false
namespace Go.Proofs.YtiligfmembmapaaGreatDoor.Abs
open Go

/-! ### The levels, one behind the other -/
noncomputable def sCh : Nat → Int → (Int × Unit) × (ds_l3Rd × Unit) → RS
  | 0, _, z => some ((z.1.1, ()), (z.2.1, ()))
  | c + 1, L, z => (sl3Rd_row_p6 (L + (c : Int)) z.1.1 z.2.1.1 z.2.1.2.1 z.2.1.2.2.1 z.2.1.2.2.2.1).bind (sCh c L)
theorem sp6_bad {L a : Int} {s : ByteArray} {i : Int} {ns : List dFNode} : sl3Rd_row_p6 L a s i true ns = some ((a, ()), ((s, i, true, ns, ()), ())) := by
  rw [sl3Rd_row_p6_eq]
  rfl
theorem sCh_bad : ∀ (c : Nat) (L a : Int) (s : ByteArray) (i : Int) (ns : List dFNode), sCh c L ((a, ()), ((s, i, true, ns, ()), ())) = some ((a, ()), ((s, i, true, ns, ()), ()))
  | 0, _, _, _, _, _ => rfl
  | c + 1, L, a, s, i, ns => by
    show (sl3Rd_row_p6 _ a s i true ns).bind (sCh c L) = _
    rw [sp6_bad]
    exact sCh_bad c L a s i ns
theorem sCh_snoc : ∀ (c : Nat) (L : Int) (z : (Int × Unit) × (ds_l3Rd × Unit)), sCh (c + 1) L z = (sCh c (L + 1) z).bind fun z2 => sl3Rd_row_p6 L z2.1.1 z2.2.1.1 z2.2.1.2.1 z2.2.1.2.2.1 z2.2.1.2.2.2.1
  | 0, L, z => by
    show (sl3Rd_row_p6 (L + ((0 : Nat) : Int)) z.1.1 z.2.1.1 z.2.1.2.1 z.2.1.2.2.1 z.2.1.2.2.2.1).bind (fun z => some ((z.1.1, ()), (z.2.1, ()))) = sl3Rd_row_p6 L z.1.1 z.2.1.1 z.2.1.2.1 z.2.1.2.2.1 z.2.1.2.2.2.1
    rw [scall_id, show L + ((0 : Nat) : Int) = L by omega]
  | c + 1, L, z => by
    show (sl3Rd_row_p6 (L + ((c + 1 : Nat) : Int)) z.1.1 z.2.1.1 z.2.1.2.1 z.2.1.2.2.1 z.2.1.2.2.2.1).bind (sCh (c + 1) L) = ((sl3Rd_row_p6 (L + 1 + (c : Int)) z.1.1 z.2.1.1 z.2.1.2.1 z.2.1.2.2.1 z.2.1.2.2.2.1).bind (sCh c (L + 1))).bind _
    rw [show L + ((c + 1 : Nat) : Int) = L + 1 + (c : Int) by omega, Option.bind_assoc]
    congr 1
    funext y
    exact sCh_snoc c L y
theorem srow_chain {s : ByteArray} {a : Int} {ns : List dFNode} : ∀ (c : Nat) (L : Int), L + (c : Int) = 5 → 1 ≤ L → sl3Rd_row L s a false ns = (sl3Rd_row 5 s a false ns).bind (sCh c L)
  | 0, L, h, _ => by
    have : L = 5 := by omega
    subst this
    exact scall_id.symm
  | c + 1, L, h, h1 => by
    have hL : ¬ (L == 5) = true := by simp only [beq_iff_eq]; omega
    rw [sl3Rd_row_eq, if_neg (by decide), if_neg hL, wr (by omega) (by omega), srow_chain c (L + 1) (by omega) (by omega), Option.bind_assoc]
    congr 1
    funext z
    exact (sCh_snoc c L z).symm
abbrev nB (op a b : Int) : dFNode := (5, op, (0, 0, (⟨#[]⟩ : ByteArray), ()), ((0, 0, ()), false, false, ()), ((0, 0, ()), false, false, ()), ([a, b] : (List Int)), ())
theorem sm_s {ns : List dFNode} (h : sm ns = true) : ∀ x ∈ ns, x.2.2.1.2.2.1.size ≤ 9223372036854775807 := by
  unfold sm at h
  rw [List.all_eq_true] at h
  exact fun x hx => sm_big (h x hx)
theorem sm_k {ns : List dFNode} (h : sm ns = true) : ∀ x ∈ ns, x.2.2.2.2.2.1.length ≤ 10000000 := by
  unfold sm at h
  rw [List.all_eq_true] at h
  intro x hx
  have := h x hx
  unfold smN at this
  rw [Bool.and_eq_true, decide_eq_true_eq, decide_eq_true_eq] at this
  omega
/-! ### Formulas -/
theorem at_0 (s : Bys) : at' s s = 0 := by
  unfold at'
  omega
end Go.Proofs.YtiligfmembmapaaGreatDoor.Abs
/- Plain laws: a formula's text. -/
set_option linter.unusedVariables false
set_option linter.unusedSimpArgs false
set_option linter.unusedSectionVars false
namespace Go.Proofs.YtiligfmembmapaaGreatDoor.Abs
open Go

/-! ### Quotes -/
/-- Each quote twice. -/
def qT : Bys → Bys
  | [] => []
  | c :: l => if c = 34 then 34 :: 34 :: qT l else c :: qT l
theorem qT_len : ∀ l : Bys, (qT l).length ≤ 2 * l.length
  | [] => by simp [qT]
  | c :: l => by
    have := qT_len l
    unfold qT
    split <;> simp only [List.length_cons] <;> omega
theorem qT_pre (l : Bys) : ∀ pre : Bys, (34 : UInt8) ∉ pre → qT (pre ++ l) = pre ++ qT l
  | [], _ => rfl
  | c :: pre, h => by
    simp only [List.mem_cons, not_or] at h
    rw [List.cons_append, qT, if_neg (fun e => h.1 e.symm), qT_pre l pre h.2]
    rfl
theorem replace_qT : ∀ (n : Nat) (l : Bys), l.length = n → Lib.replaceK [34] [34, 34] (l.count 34) l = qT l := by
  intro n
  induction n using Nat.strongRecOn with
  | ind n ih =>
    intro l hn
    by_cases hm : (34 : UInt8) ∈ l
    · obtain ⟨pre, t, rfl, h2⟩ := split_at 34 l hm
      have hc : (pre ++ 34 :: t).count 34 = t.count 34 + 1 := by
        rw [List.count_append, List.count_eq_zero.2 h2, List.count_cons_self]
        omega
      have hi : Lib.index (pre ++ 34 :: t) [34] = (pre.length : Nat) := by rw [Lib.index_one, ixB_hit 34 t pre h2]
      rw [hc, Lib.replaceK_hit _ _ _ _ _ hi, List.take_left' rfl, qT_pre _ pre h2]
      have hd : (pre ++ 34 :: t).drop (pre.length + ([34] : Bys).length) = t := by
        have : pre ++ 34 :: t = (pre ++ [34]) ++ t := by simp
        rw [this, List.drop_left' (by simp)]
      rw [hd, ih t.length (by rw [← hn]; simp; omega) t rfl]
      simp [qT]
    · rw [List.count_eq_zero.2 hm]
      have := qT_pre [] l hm
      rw [List.append_nil] at this
      rw [this]
      simp [qT, Lib.replaceK]
/-! ### Nodes -/
/-- Texts with commas between. -/
def commas : List Bys → Bys
  | [] => []
  | [x] => x
  | x :: y :: l => x ++ 44 :: commas (y :: l)
def ftx (f : List dFNode) : Nat → Int → Int → Bys
  | 0, _, _ => []
  | n + 1, k, L =>
    let x := nodeAt f k
    if x.1 = 1 then (if x.2.2.1.1 = 2 then 34 :: (qT (lb x.2.2.1.2.2.1) ++ [34]) else lb (valT x.2.2.1))
    else if x.1 = 2 then plT x.2.2.2.1
    else if x.1 = 3 then plT x.2.2.2.1 ++ 58 :: plT x.2.2.2.2.1
    else if x.1 = 4 then 45 :: ftx f n (x.2.2.2.2.2.1.getD 0 0) 5
    else if x.1 = 5 then
      let b := ftx f n (x.2.2.2.2.2.1.getD 0 0) (lvI x.2.1) ++ (opT x.2.1 ++ ftx f n (x.2.2.2.2.2.1.getD 1 0) (lvI x.2.1 + 1))
      if lvI x.2.1 < L then 40 :: (b ++ [41]) else b
    else fnT x.2.1 ++ 40 :: (commas (x.2.2.2.2.2.1.map fun k => ftx f n k 1) ++ [41])
end Go.Proofs.YtiligfmembmapaaGreatDoor.Abs
/- Plain laws: the texts of formulas of both sides are one. -/
set_option linter.unusedVariables false
set_option linter.unusedSimpArgs false
set_option linter.unusedSectionVars false
namespace Go.Proofs.YtiligfmembmapaaGreatDoor.Abs
open Go

theorem commas_join : ∀ l : List Bys, commas l = Lib.join l [44]
  | [] => rfl
  | [x] => by rw [Lib.join_one]; rfl
  | x :: y :: l => by
    rw [commas, commas_join (y :: l), Lib.join_cons, Lib.join_cons]
    simp [Lib.joinTail]
theorem commas_snoc (x : Bys) : ∀ (l : List Bys), l ≠ [] → commas (l ++ [x]) = commas l ++ 44 :: x
  | [y], _ => rfl
  | y :: z :: l, _ => by
    show y ++ 44 :: commas (z :: l ++ [x]) = (y ++ 44 :: commas (z :: l)) ++ 44 :: x
    rw [commas_snoc x (z :: l) (by simp)]
    simp
theorem commas_len : ∀ l : List Bys, (commas l).length ≤ (l.map List.length).sum + l.length
  | [] => by simp [commas]
  | [x] => by simp [commas]
  | x :: y :: l => by
    have := commas_len (y :: l)
    simp only [commas, List.length_append, List.length_cons, List.map_cons, List.sum_cons] at this ⊢
    omega
theorem plT_len {p : dPlace} (h : okRef p.1 = true) : (plT p).length ≤ 6 := by
  obtain ⟨c, r, fc, fr, rfl, h1, h2, h3, h4⟩ := place_nat h
  have k1 := colT_len c
  have k2 := decDig_len h4
  show (plN c r fc fr).length ≤ 6
  unfold plN fixT
  simp only [List.length_append]
  cases fc <;> cases fr <;> simp <;> omega
theorem fnT_len (k : Int) : (fnT k).length ≤ 5 := by
  unfold fnT
  by_cases hi : k.toNat < 11
  · have h : ∀ j : Fin 11, (([[], [83, 85, 77], [77, 73, 78], [77, 65, 88], [67, 79, 85, 78, 84], [73, 70], [65, 78, 68], [79, 82], [78, 79, 84], [65, 66, 83], [76, 69, 78]] : List Bys).getD j.val []).length ≤ 5 := by decide
    exact h ⟨k.toNat, hi⟩
  · rw [List.getD_eq_getElem?_getD, List.getElem?_eq_none (by simp; omega)]
    simp
/-- Kids stand one behind the other. -/
theorem kids_sum {c : Int → Option (Int × Nat)} {f : List dFNode} {call : Bool} : ∀ (l : List Int) (cur : Int) (h : Nat) (s : Int) (h' : Nat), kidsC c f call l cur h = some (s, h') →
    (∀ kid ∈ l, ∃ p, c kid = some p) ∧ ∀ g : Int → Nat, (∀ kid s' h'', c kid = some (s', h'') → (g kid : Int) ≤ 1000 * (kid - s' + 1)) → (((l.map g).sum : Nat) : Int) ≤ 1000 * (cur - s)
  | [], cur, h, s, h', e => by
    simp only [kidsC, Option.some.injEq, Prod.mk.injEq] at e
    obtain ⟨rfl, _⟩ := e
    exact ⟨fun _ h => by simp at h, fun g _ => by simp⟩
  | kid :: l, cur, h, s, h', e => by
    simp only [kidsC] at e
    split at e
    · rename_i hk
      rw [Option.bind_eq_some_iff] at e
      obtain ⟨p, hp, e⟩ := e
      obtain ⟨k1, k2⟩ := kids_sum l p.1 _ s h' e
      refine ⟨fun kid' hm => ?_, fun g hg => ?_⟩
      · rcases List.mem_cons.1 hm with rfl | hm
        · exact ⟨p, hp⟩
        · exact k1 kid' hm
      · have h1 := k2 g hg
        have h2 := hg kid p.1 p.2 hp
        have := hk.1
        simp only [List.map_cons, List.sum_cons]
        omega
    · cases e
section
variable {f : List dFNode}
theorem ftx_01 (n : Nat) (k : Int) : ftx f n k 0 = ftx f n k 1 := by
  cases n with
  | zero => rfl
  | succ n =>
    have hlv : ∀ j, ¬ lvI j < 0 ∧ ¬ lvI j < 1 := by
      intro j
      unfold lvI
      constructor <;> (repeat' split) <;> omega
    unfold ftx
    simp only [(hlv _).1, (hlv _).2, if_false]
end
end Go.Proofs.YtiligfmembmapaaGreatDoor.Abs
/- Plain laws: FormulaText of both sides is one. -/
set_option linter.unusedVariables false
set_option linter.unusedSimpArgs false
set_option linter.unusedSectionVars false
namespace Go.Proofs.YtiligfmembmapaaGreatDoor.Abs
open Go

section
variable {f : List dFNode}
theorem two_of {l : List Int} (h : l.length = 2) : ∃ a b, l = [a, b] := by
  match l, h with
  | [a, b], _ => exact ⟨a, b, rfl⟩
theorem opT_range {op : Int} (h : inB op 1 11 = true) : 1 ≤ op ∧ op ≤ 11 := inB_iff.1 h
end
end Go.Proofs.YtiligfmembmapaaGreatDoor.Abs
