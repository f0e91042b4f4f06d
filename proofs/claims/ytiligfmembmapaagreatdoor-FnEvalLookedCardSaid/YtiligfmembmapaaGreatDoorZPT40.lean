/- Plain laws: the reference's reading of formulas always gives something small: by itself, with no other reader beside it. -/
import Derived.Test.YtiligfmembmapaaGreatDoorZP3
import Derived.Test.YtiligfmembmapaaGreatDoorZPT35
set_option linter.unusedVariables false
set_option linter.unusedSimpArgs false
set_option linter.unusedSectionVars false
namespace Go.Proofs.YtiligfmembmapaaGreatDoor.Abs
open Go

/-- It stands somewhere in s; while it is not bad, in m, with few small nodes. -/
def TS (s m : Bys) (G : RS) : Prop := ∃ (i : Int) (l : Bys) (b : Bool) (ns : List dFNode), G = some ((i, ()), ((ba s, at' s l, b, ns, ()), ())) ∧ l <:+ s ∧ (b = false → l <:+ m ∧ sm ns = true ∧ ns.length ≤ 60) ∧ ns.length ≤ 61 + m.length
theorem ts_bad {s m l : Bys} {i : Int} {ns : List dFNode} (h : l <:+ s) (hn : ns.length ≤ 61 + m.length) : TS s m (some ((i, ()), ((ba s, at' s l, true, ns, ()), ()))) := ⟨i, l, true, ns, rfl, h, (fun e => by cases e), hn⟩
theorem ts_good {s m l : Bys} {i : Int} {ns : List dFNode} (h : l <:+ m) (hm : m <:+ s) (hs : sm ns = true) (hn : ns.length ≤ 60) : TS s m (some ((i, ()), ((ba s, at' s l, false, ns, ()), ()))) := ⟨i, l, false, ns, rfl, suf_trans h hm, fun _ => ⟨h, hs, hn⟩, by omega⟩
theorem TS.up {s m m' : Bys} {G : RS} (h : TS s m G) (k : m <:+ m') : TS s m' G := by
  obtain ⟨i, l, b, ns, e, h1, h2, h3⟩ := h
  have := suf_len k
  exact ⟨i, l, b, ns, e, h1, fun hb => ⟨suf_trans (h2 hb).1 k, (h2 hb).2⟩, by omega⟩
theorem ts_bind {s m m' : Bys} {G : RS} {K : (Int × Unit) × (ds_l3Rd × Unit) → RS} (h : TS s m G)
    (good : ∀ (i : Int) (l : Bys) (ns : List dFNode), l <:+ m → sm ns = true → ns.length ≤ 60 → TS s m' (K ((i, ()), ((ba s, at' s l, false, ns, ()), ()))))
    (bad : ∀ (i : Int) (l : Bys) (ns : List dFNode), l <:+ s → ns.length ≤ 61 + m.length → TS s m' (K ((i, ()), ((ba s, at' s l, true, ns, ()), ())))) : TS s m' (G.bind K) := by
  obtain ⟨i, l, b, ns, e, h1, h2, h3⟩ := h
  rw [e, Option.bind_some]
  cases b with
  | true => exact bad i l ns h1 h3
  | false =>
    obtain ⟨a1, a2, a3⟩ := h2 rfl
    exact good i l ns a1 a2 a3
theorem ts_add {s m l : Bys} {x : dFNode} {ns : List dFNode} (hx : smN x = true) (h : l <:+ m) (hm : m <:+ s) (hs : sm ns = true) (hn : ns.length ≤ 60) : TS s m (sl3Rd_add x (ba s) (at' s l) false ns) := by
  rw [sadd_ok (by omega) (sm_big hx)]
  have hl : (ns ++ [x]).length = ns.length + 1 := by simp
  refine ⟨_, l, _, ns ++ [x], rfl, suf_trans h hm, fun hb => ?_, by omega⟩
  simp only [Bool.false_or, Bool.or_eq_false_iff, decide_eq_false_iff_not] at hb
  exact ⟨h, sm_snoc hs hx, by omega⟩
/-- What is put behind when it is bad. -/
theorem ts_add_bad {s m l : Bys} {x : dFNode} {ns : List dFNode} (hx : x.2.2.1.2.2.1.size ≤ 9223372036854775807) (h : l <:+ s) (hn : ns.length + 1 ≤ 61 + m.length) (h2 : ns.length ≤ 1000) : TS s m (sl3Rd_add x (ba s) (at' s l) true ns) := by
  rw [sadd_bad h2 hx]
  exact ts_bad h (by simp only [List.length_append, List.length_singleton]; omega)
/-- What it does with shorter texts. -/
def PS (s : Bys) (n : Nat) : Prop := ∀ (l : Bys), l <:+ s → (bl l).length < n → ∀ (L : Int) (ns : List dFNode), 1 ≤ L → L ≤ 5 → sm ns = true → ns.length ≤ 60 → TS s (bl l) (sl3Rd_row L (ba s) (at' s l) false ns)
theorem ts_call {s : Bys} (hs : s.length ≤ 200) {n : Nat} (HB : PS s n) : ∀ (k : Nat) (l : Bys), (bl l).length = k → l <:+ s → (bl l).length < n → ∀ (op : Int) (kids : List Int) (ns : List dFNode), kids.length + (bl l).length ≤ 1000 → sm ns = true → ns.length ≤ 60 →
    TS s (bl l) (sl3Rd_call_p2' op (ba s) (at' s l) false kids ns) := by
  intro k
  induction k using Nat.strongRecOn with
  | ind k ih =>
    intro l hk hs2 hn op kids ns hkl ho hns
    subst hk
    have hl1 := suf_len hs2
    have hm1 := suf_len (bl_suf l)
    have hms : bl l <:+ s := suf_trans (bl_suf l) hs2
    rw [scall_round, sarg_ok (by omega) hs2]
    have doom : ∀ (y : List Int) (x2 : Bys) (ns2 : List dFNode), x2 <:+ s → ns2.length ≤ 61 + (bl l).length → TS s (bl l) (sTail op y (ba s) (at' s x2) true ns2) := by
      intro y x2 ns2 hx2 hn2
      obtain ⟨l', h1, h2⟩ := stail_bad (op := op) (y := y) (ns := ns2) (by omega) hx2
      rw [h2]
      exact ts_bad h1 hn2
    have good : ∀ (y : List Int) (x2 : Bys) (ns : List dFNode), y.length = kids.length + 1 → x2 <:+ bl l → sm ns = true → ns.length ≤ 60 → TS s (bl l) (sTail op y (ba s) (at' s x2) false ns) := by
      intro y x2 ns hy hx2 ho hn
      have hlx := suf_len hx2
      have hx2s := suf_trans hx2 hms
      unfold sTail
      rw [show (⟨#[44]⟩ : ByteArray) = ba [44] from rfl, show (⟨#[41]⟩ : ByteArray) = ba [41] from rfl, sis_ok (by omega) (by decide) hx2s]
      simp only [Option.bind_some, scall_id, List.length_singleton, Bool.not_false, Bool.true_and, head_pre]
      by_cases h41 : (bl x2).head? = some 41
      · simp only [h41, decide_true, if_true]
        exact ts_add (smF (by omega)) (suf_trans (drop1_suf x2) hx2) hms ho hn
      · simp only [h41, decide_false, Bool.false_eq_true, if_false]
        rw [sis_ok (by omega) (by decide) (suf_trans (bl_suf x2) hx2s)]
        simp only [Option.bind_some, Bool.not_false, Bool.true_and, head_pre, bl_bl, List.length_singleton]
        by_cases h44 : (bl x2).head? = some 44
        · simp only [h44, decide_true, Bool.not_true, Bool.false_eq_true, if_false, if_true]
          have hlt := drop1_lt h44
          have hb2 := suf_len (bl_suf ((bl x2).drop 1))
          have hsx : (bl x2).drop 1 <:+ bl l := suf_trans (drop1_suf x2) hx2
          exact (ih _ (by omega) _ rfl (suf_trans hsx hms) (by omega) op y ns (by omega) ho hn).up (suf_trans (bl_suf _) hsx)
        · simp only [h44, decide_false, Bool.not_false, if_true, Bool.false_eq_true, if_false]
          rw [scall_bad]
          exact ts_bad (suf_trans (bl_suf x2) hx2s) (by omega)
    by_cases ha : arB (bl l) = true
    · rw [if_pos ha]
      have hX : (arR (bl l)).dropWhile wdB <:+ bl l := by
        have := arR_suf (bl l)
        rw [bl_bl] at this
        exact this
      cases h2 : (rdPl ((arR (bl l)).takeWhile wdB)).2 with
      | true =>
        simp only [if_true]
        refine ts_bind (ts_add (m := bl l) rfl hX hms ho hns) ?_ ?_
        · intro i x2 ns' e3 e4 e5
          simp only
          rw [app_ok (by simp only [List.length_singleton]; omega)]
          exact good _ _ _ (by simp) e3 e4 e5
        · intro i x2 ns2 e4 e5
          simp only
          rw [app_ok (by simp only [List.length_singleton]; omega)]
          exact doom _ _ _ e4 e5
      | false =>
        simp only [Bool.false_eq_true, if_false, Option.bind_some]
        rw [app_ok (by simp only [List.length_singleton]; omega)]
        exact doom _ _ _ (suf_trans hX hms) (by omega)
    · rw [if_neg ha]
      have hh := HB (bl l) hms (by rw [bl_bl]; exact hn) 1 ns (by decide) (by decide) ho hns
      rw [bl_bl] at hh
      refine ts_bind hh ?_ ?_
      · intro i x2 ns' e3 e4 e5
        simp only
        rw [app_ok (by simp only [List.length_singleton]; omega)]
        exact good _ _ _ (by simp) e3 e4 e5
      · intro i x2 ns2 e4 e5
        simp only
        rw [app_ok (by simp only [List.length_singleton]; omega)]
        exact doom _ _ _ e4 e5
theorem ts_word {s : Bys} (hs : s.length ≤ 200) {n : Nat} (HB : PS s n) {m : Bys} (hbm : bl m = m) (hms : m <:+ s) (hmn : m.length ≤ n) {ns : List dFNode} (ho : sm ns = true) (hn : ns.length ≤ 60) :
    TS s m ((sl3Rd_word (ba s) (at' s m) false ns).bind fun z10 => (sl3Rd_one_p23 z10.1.1 1 z10.2.1.1 z10.2.1.2.1 z10.2.1.2.2.1 z10.2.1.2.2.2.1)) := by
  have hml := suf_len hms
  have hwl := takeW_len wdB m
  have hrm : m.dropWhile wdB <:+ m := List.dropWhile_suffix _
  have hrs := suf_trans hrm hms
  have hrl := suf_len hrm
  rw [sword_ok (by omega) hms]
  simp only [Option.bind_some]
  obtain ⟨l', hl', e⟩ := sfn_loop (w := m.takeWhile wdB) (s := s) (ns := ns) (by omega) (by omega) fnK [] (m.dropWhile wdB) rfl hrs
  have e : sl3Rd_one_p23 (ba (m.takeWhile wdB)) 1 (ba s) (at' s (m.dropWhile wdB)) false ns = _ := e
  rw [e]
  have hl's : l' <:+ m := by
    rcases hl' with rfl | rfl
    · exact hrm
    · exact suf_trans (bl_suf _) hrm
  cases hf : fnK.find? (fun k => decide (fnT k = m.takeWhile wdB) && ([40] : Bys).isPrefixOf (bl (m.dropWhile wdB))) with
  | some k =>
    have hf' := List.find?_some hf
    rw [Bool.and_eq_true, head_pre, decide_eq_true_eq, decide_eq_true_eq] at hf'
    have h40 := hf'.2
    have hkm := List.mem_of_find?_eq_some hf
    have hne : m.takeWhile wdB ≠ [] := by
      rw [← hf'.1]
      exact (show ∀ k ∈ fnK, fnT k ≠ [] by decide +kernel) k hkm
    have hlt := word_lt (l := m) (by rw [hbm]; exact hne)
    rw [hbm] at hlt
    have hdl := drop1_lt h40
    have hds : (bl (m.dropWhile wdB)).drop 1 <:+ m := suf_trans (drop1_suf _) hrm
    have hb2 := suf_len (bl_suf ((bl (m.dropWhile wdB)).drop 1))
    simp only
    rw [sl3Rd_call_eq, scall_swap]
    exact (ts_call hs HB _ _ rfl (suf_trans hds hms) (by omega) k [] ns (by simp only [List.length_nil]; omega) ho hn).up (suf_trans (bl_suf _) hds)
  | none =>
    simp only
    unfold sWordEnd
    by_cases hc : (rdVal (m.takeWhile wdB)).2 = true ∧ m.takeWhile wdB ≠ []
    · rw [if_pos hc]
      exact ts_add (smC (Nat.le_trans (okVal_size (rdVal_ok hc.1).1) (by decide))) hl's hms ho hn
    · rw [if_neg hc]
      by_cases hp : (rdPl (m.takeWhile wdB)).2 = true
      · rw [if_pos hp]
        exact ts_add rfl hl's hms ho hn
      · rw [if_neg hp]
        exact ts_bad (suf_trans hl's hms) (by omega)
theorem ts_one {s : Bys} (hs : s.length ≤ 200) {n : Nat} (HB : PS s n) : ∀ (k : Nat) (l : Bys), (bl l).length = k → l <:+ s → (bl l).length ≤ n → ∀ (ns : List dFNode), sm ns = true → ns.length ≤ 60 → TS s (bl l) (sl3Rd_one (ba s) (at' s l) false ns) := by
  intro k
  induction k using Nat.strongRecOn with
  | ind k ih =>
    intro l hk hs2 hln ns ho hn
    subst hk
    have hl1 := suf_len hs2
    have hm1 := suf_len (bl_suf l)
    have hms : bl l <:+ s := suf_trans (bl_suf l) hs2
    rw [sl3Rd_one_eq, show (⟨#[45]⟩ : ByteArray) = ba [45] from rfl, show (⟨#[40]⟩ : ByteArray) = ba [40] from rfl, show (⟨#[34]⟩ : ByteArray) = ba [34] from rfl, show (⟨#[35]⟩ : ByteArray) = ba [35] from rfl, show (⟨#[41]⟩ : ByteArray) = ba [41] from rfl, sis_ok (by omega) (by decide) hs2]
    simp only [Option.bind_some, Bool.false_eq_true, if_false, scall_id, List.length_singleton, Bool.not_false, Bool.true_and, head_pre]
    by_cases h45 : (bl l).head? = some 45
    · simp only [h45, decide_true, if_true]
      have hX : (bl l).drop 1 <:+ bl l := drop_suf 1 _
      have hbX := suf_len (bl_suf ((bl l).drop 1))
      have hlX : ((bl l).drop 1).length < (bl l).length := by
        obtain ⟨t, ht⟩ := head_cons h45
        rw [ht]
        simp
      rw [srow5]
      refine ts_bind (ih _ (by omega) _ rfl (suf_trans hX hms) (by omega) ns ho hn) ?_ ?_
      · intro i x2 ns' e3 e4 e5
        exact ts_add (x := nNeg i) rfl (suf_trans e3 (suf_trans (bl_suf _) hX)) hms e4 e5
      · intro i x2 ns2 e4 e5
        exact ts_add_bad (x := nNeg i) (ns := ns2) (l := x2) eS_big e4 (by omega) (by omega)
    · simp only [h45, decide_false, Bool.false_eq_true, if_false]
      rw [sis_ok (by omega) (by decide) hms]
      simp only [Option.bind_some, bl_bl, Bool.not_false, Bool.true_and, head_pre, List.length_singleton]
      by_cases h40 : (bl l).head? = some 40
      · simp only [h40, decide_true, if_true]
        have hX : (bl l).drop 1 <:+ bl l := drop_suf 1 _
        have hbX := suf_len (bl_suf ((bl l).drop 1))
        have hlX : ((bl l).drop 1).length < (bl l).length := by
          obtain ⟨t, ht⟩ := head_cons h40
          rw [ht]
          simp
        refine ts_bind (HB _ (suf_trans hX hms) (by omega) 1 ns (by decide) (by decide) ho hn) ?_ ?_
        · intro i x2 ns' e3 e4 e5
          have hx2 : x2 <:+ bl l := suf_trans e3 (suf_trans (bl_suf _) hX)
          simp only
          rw [sis_ok (by omega) (by decide) (suf_trans hx2 hms)]
          simp only [Option.bind_some, List.length_singleton, Bool.not_false, Bool.true_and, head_pre]
          by_cases h41 : (bl x2).head? = some 41
          · simp only [h41, decide_true, if_true, Bool.not_true, Bool.false_eq_true, if_false]
            exact ts_good (suf_trans (drop1_suf x2) hx2) hms e4 e5
          · simp only [h41, decide_false, if_false, Bool.not_false, Bool.false_eq_true, if_true]
            exact ts_bad (suf_trans (bl_suf x2) (suf_trans hx2 hms)) (by omega)
        · intro i x2 ns2 e4 e5
          simp only
          rw [sis_ok (by omega) (by decide) e4]
          simp only [Option.bind_some, Bool.not_true, Bool.false_and, Bool.false_eq_true, if_false, Bool.not_false, if_true]
          exact ts_bad (suf_trans (bl_suf x2) e4) (by omega)
      · simp only [h40, decide_false, Bool.false_eq_true, if_false]
        rw [sis_ok (by omega) (by decide) hms]
        simp only [Option.bind_some, bl_bl, Bool.not_false, Bool.true_and, head_pre, List.length_singleton]
        by_cases h34 : (bl l).head? = some 34
        · simp only [h34, decide_true, if_true]
          obtain ⟨t, ht⟩ := head_cons h34
          have htl : t.length + 1 = (bl l).length := by rw [ht]; simp
          have hts : t <:+ bl l := ⟨[34], by rw [ht]; rfl⟩
          rw [ht]
          simp only [List.drop_succ_cons, List.drop_zero]
          rw [stext_ok (by omega) (suf_trans hts hms)]
          cases hq : qt t with
          | none => exact ts_bad ⟨s, by simp⟩ (by omega)
          | some p =>
            obtain ⟨q1, q2, q3⟩ := qt_suf t p.1 p.2 hq
            show TS s _ (sl3Rd_add _ _ _ false ns)
            rw [← ht]
            refine ts_add (x := nC (2, 0, ba ([] ++ p.1), ())) (smC ?_) (suf_trans q1 hts) hms ho hn
            show (ba ([] ++ p.1)).size ≤ _
            rw [size_ba]
            simp only [List.nil_append]
            omega
        · simp only [h34, decide_false, Bool.false_eq_true, if_false]
          rw [sis_ok (by omega) (by decide) hms]
          simp only [Option.bind_some, bl_bl, Bool.not_false, Bool.true_and, head_pre, List.length_singleton]
          by_cases h35 : (bl l).head? = some 35
          · simp only [h35, decide_true, if_true]
            have hX : (bl l).drop 1 <:+ bl l := drop_suf 1 _
            have hXs := suf_trans hX hms
            have hXl := suf_len hX
            have e := serr_loop (s := s) (b := false) (ns := ns) (by omega) hXs erK [] rfl
            have e : sl3Rd_one_p13 1 (ba s) (at' s ((bl l).drop 1)) false ns = _ := e
            rw [e]
            cases hf : erK.find? (erP ((bl l).drop 1)) with
            | some k =>
              exact ts_add rfl (suf_trans (drop_suf _ _) hX) hms ho hn
            | none => exact ts_bad hXs (by omega)
          · simp only [h35, decide_false, Bool.false_eq_true, if_false]
            exact ts_word hs HB (bl_bl l) hms hln ho hn
theorem ts_loop {s : Bys} (hs : s.length ≤ 200) {n : Nat} (HB : PS s n) : ∀ (k c : Nat) (l2 M : Bys), (bl l2).length = k → l2 <:+ M → M <:+ s → (bl l2).length ≤ n → ∀ (L left : Int) (ns : List dFNode), 1 ≤ L → L + (c : Int) ≤ 5 → sm ns = true → ns.length ≤ 60 →
    TS s M (sCh c L ((left, ()), ((ba s, at' s l2, false, ns, ()), ()))) := by
  intro k
  induction k using Nat.strongRecOn with
  | ind k ih =>
    intro c
    induction c with
    | zero =>
      intro l2 M hk hs2 hMs hln L left ns hL0 hL1 ho hn
      exact ts_good hs2 hMs ho hn
    | succ c ihc =>
      intro l2 M hk hs2 hMs hln L left ns hL0 hL1 ho hn
      have hs2s := suf_trans hs2 hMs
      have hl1 := suf_len hs2s
      have hbl := suf_len (bl_suf l2)
      obtain ⟨o1, o2⟩ := opL_range (bl l2)
      obtain ⟨l', hl', eop⟩ := sop_ok (s := s) (l := l2) (ns := ns) (L := L + (c : Int)) (by omega) (by omega) hs2s
      have hCh : sCh (c + 1) L ((left, ()), ((ba s, at' s l2, false, ns, ()), ())) = (sl3Rd_row_p6 (L + (c : Int)) left (ba s) (at' s l2) false ns).bind (sCh c L) := rfl
      rw [hCh, sl3Rd_row_p6_eq]
      simp only [Bool.not_false, if_true]
      rw [eop]
      by_cases hop : opL (bl l2) ≠ 0 ∧ lvI (opL (bl l2)) = L + (c : Int)
      · rw [if_pos hop]
        have h0 : ¬ (opL (bl l2) == 0) = true := by simpa using hop.1
        unfold opRes
        simp only [Option.bind_some]
        rw [if_neg h0, wr (by omega) (by omega)]
        have hX : (bl l2).drop (opT (opL (bl l2))).length <:+ M := suf_trans (drop_suf _ _) (suf_trans (bl_suf l2) hs2)
        have hXl : ((bl l2).drop (opT (opL (bl l2))).length).length < (bl l2).length := by
          have := opdrop (l := bl l2) (by rw [bl_bl]; exact hop.1)
          rw [bl_bl] at this
          exact this
        have hbX := suf_len (bl_suf ((bl l2).drop (opT (opL (bl l2))).length))
        have hMl : (bl l2).length ≤ M.length := suf_len (suf_trans (bl_suf l2) hs2)
        have hMsl := suf_len hMs
        rw [Option.bind_assoc]
        refine ts_bind (HB _ (suf_trans hX hMs) (by omega) (L + (c : Int) + 1) ns (by omega) (by omega) ho hn) ?_ ?_
        · intro i x2 ns' e3 e4 e5
          have hx2 : x2 <:+ M := suf_trans e3 (suf_trans (bl_suf _) hX)
          have hxl := suf_len e3
          have hbx := suf_len (bl_suf x2)
          simp only
          rw [Option.bind_assoc]
          refine ts_bind (ts_add (x := nB (opL (bl l2)) left i) rfl (suf_refl x2) (suf_trans hx2 hMs) e4 e5) ?_ ?_
          · intro j x3 ns3 a1 a2 a3
            have hx3 := suf_len (suf_trans (bl_suf x3) a1)
            exact ih _ (by omega) (c + 1) x3 M rfl (suf_trans a1 hx2) hMs (by omega) L _ ns3 hL0 hL1 a2 a3
          · intro j x3 ns3 a1 a2
            simp only
            rw [sp6_bad]
            simp only [Option.bind_some]
            rw [sCh_bad]
            exact ts_bad a1 (by omega)
        · intro i x2 ns2 e4 e5
          simp only
          rw [sadd_bad (x := nB (opL (bl l2)) left i) (ns := ns2) (by omega) eS_big]
          simp only [Option.bind_some]
          rw [sp6_bad]
          simp only [Option.bind_some]
          rw [sCh_bad]
          exact ts_bad e4 (by simp only [List.length_append, List.length_singleton]; omega)
      · rw [if_neg hop]
        unfold opRes
        simp only [Option.bind_some]
        rw [if_pos (by rfl)]
        simp only [Option.bind_some]
        have hb' : bl l' = bl l2 := by
          rcases hl' with rfl | rfl
          · rfl
          · rw [bl_bl]
        have hs' : l' <:+ M := by
          rcases hl' with rfl | rfl
          · exact hs2
          · exact suf_trans (bl_suf l2) hs2
        exact ihc l' M (by rw [hb']; exact hk) hs' hMs (by rw [hb']; exact hln) L left ns hL0 (by omega) ho hn
theorem PS_all {s : Bys} (hs : s.length ≤ 200) : ∀ n, PS s n
  | 0 => fun l _ h => by omega
  | n + 1 => by
    have HB := PS_all hs n
    intro l hs2 hln L ns hL0 hL1 ho hn
    have hms : bl l <:+ s := suf_trans (bl_suf l) hs2
    rw [srow_chain (5 - L).toNat L (by omega) hL0, srow5]
    refine ts_bind (ts_one hs HB _ l rfl hs2 (by omega) ns ho hn) ?_ ?_
    · intro i x2 ns' e3 e4 e5
      have hx := suf_len (suf_trans (bl_suf x2) e3)
      exact ts_loop hs HB _ (5 - L).toNat x2 (bl l) rfl e3 hms (by omega) L i ns' hL0 (by omega) e4 e5
    · intro i x2 ns2 e4 e5
      rw [sCh_bad]
      exact ts_bad e4 e5
/-- The reference's reading of a formula gives something: none, or a right formula. -/
theorem readS {x : ByteArray} (hx : x.size ≤ 9223372036854775807) : ∃ (f : List dFNode) (b : Bool), sReadFormula x = some ((f, b, ()), ()) ∧ (b = true → okF f = true) ∧ (b = false → f = []) := by
  obtain ⟨s, rfl⟩ : ∃ s, x = ba s := ⟨lb x, (ba_lb x).symm⟩
  rw [sReadFormula_eq, sl2Plain_ok hx]
  simp only [Option.bind_some]
  cases hp : (plain (ba s) && decide (((ba s).size : Int) ≤ 200)) with
  | false => exact ⟨[], false, rfl, (fun h => by cases h), fun _ => rfl⟩
  | true =>
    rw [Bool.and_eq_true, decide_eq_true_eq, size_ba] at hp
    have hs : s.length ≤ 200 := by omega
    have hbl := suf_len (bl_suf s)
    have h := PS_all hs (s.length + 1) s (suf_refl s) (by omega) 1 [] (by decide) (by decide) rfl (by simp)
    rw [at_0] at h
    simp only [Bool.not_true, Bool.false_eq_true, if_false]
    obtain ⟨i, l2, b, ns, e2, h1, h2, h3⟩ := h
    rw [e2]
    simp only [Option.bind_some]
    rw [sblk (by omega) h1]
    simp only [Option.bind_some]
    cases b with
    | true => exact ⟨[], false, rfl, (fun h => by cases h), fun _ => rfl⟩
    | false =>
      obtain ⟨a1, a2, a3⟩ := h2 rfl
      simp only [Bool.false_eq_true, if_false]
      rw [size_ba, sFormulaOk_ok (by omega) (sm_s a2) (sm_k a2)]
      simp only [Option.bind_some]
      by_cases hr : at' s (bl l2) < (s.length : Int)
      · rw [ifT hr]
        exact ⟨[], false, rfl, (fun h => by cases h), fun _ => rfl⟩
      · rw [ifF hr]
        cases hk : okF ns with
        | true => exact ⟨ns, true, rfl, fun _ => hk, fun h => by cases h⟩
        | false => exact ⟨[], false, rfl, (fun h => by cases h), fun _ => rfl⟩
end Go.Proofs.YtiligfmembmapaaGreatDoor.Abs
