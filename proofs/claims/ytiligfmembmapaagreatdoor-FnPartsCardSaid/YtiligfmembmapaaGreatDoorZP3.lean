/- Plain laws: whatever its state, the program's reader comes to an end, keeps what it has put and does not forget that it is bad. -/
import Derived.Test.YtiligfmembmapaaGreatDoorZP2
import Derived.Lib.SplitLaws
set_option linter.unusedVariables false
set_option linter.unusedSimpArgs false
set_option linter.unusedSectionVars false
namespace Go.Proofs.YtiligfmembmapaaGreatDoor.Abs
open Go

abbrev RI := Option ((Int × Unit) × (dreader × Unit))
/-- A node of no great size. -/
def smN (x : dFNode) : Bool := decide (x.2.2.1.2.2.1.size ≤ 100000) && decide (x.2.2.2.2.2.1.length ≤ 100000)
def sm (ns : List dFNode) : Bool := ns.all smN
def TotI (l : Bys) (b : Bool) (ns : List dFNode) (F : RI) : Prop :=
  ∃ (i : Int) (l' : Bys) (b' : Bool) (ns' : List dFNode), F = some ((i, ()), ((ba l', ns', b', ()), ())) ∧ l' <:+ l ∧ (b = true → b' = true) ∧ ns <+: ns' ∧ ns'.length ≤ 60 ∧ (sm ns = true → sm ns' = true)
theorem TotI.mono {l l0 : Bys} {b b0 : Bool} {ns ns0 : List dFNode} {F : RI} (h : TotI l b ns F) (h1 : l <:+ l0) (h2 : b0 = true → b = true) (h3 : ns0 <+: ns) (h4 : sm ns0 = true → sm ns = true := by exact id) : TotI l0 b0 ns0 F := by
  obtain ⟨i, l', b', ns', e, k1, k2, k3, k4, k5⟩ := h
  exact ⟨i, l', b', ns', e, suf_trans k1 h1, fun h => k2 (h2 h), List.IsPrefix.trans h3 k3, k4, fun h => k5 (h4 h)⟩
theorem suf_refl (l : Bys) : l <:+ l := List.suffix_refl l
theorem tot_put {x : dFNode} {l : Bys} {b : Bool} {ns : List dFNode} (hn : ns.length ≤ 60) (hx : smN x = true := by rfl) : TotI l b ns (ireader_put x (ba l) b ns) := by
  obtain ⟨i, h, _⟩ := iput_ok (x := x) (l := l) (b := b) hn
  refine ⟨i, l, _, _, h, suf_refl l, (fun hb => by rw [hb]; rfl), ?_, ?_, ?_⟩
  · split
    · exact ⟨[x], rfl⟩
    · exact List.prefix_refl _
  · split
    · rename_i h
      rw [List.length_append, List.length_singleton]
      omega
    · exact hn
  · intro hs
    split
    · unfold sm at hs ⊢
      rw [List.all_append, hs]
      simp [hx]
    · exact hs
theorem smC {v : dValue} (h : v.2.2.1.size ≤ 100000) : smN (nC v) = true := by
  unfold smN
  rw [decide_eq_true h]
  rfl
theorem smF {op : Int} {y : List Int} (h : y.length ≤ 100000) : smN (6, op, (0, 0, (⟨#[]⟩ : ByteArray), ()), ((0, 0, ()), false, false, ()), ((0, 0, ()), false, false, ()), y, ()) = true := by
  unfold smN
  rw [Bool.and_eq_true]
  exact ⟨rfl, decide_eq_true h⟩
theorem const_put {v : dValue} {r : ByteArray} {b : Bool} {ns : List dFNode} : ireader_constant v r b ns = ireader_put (nC v) r b ns := by
  rw [ireader_constant_eq]
  exact put_id
theorem tot_bad {i : Int} {l : Bys} {b : Bool} {ns : List dFNode} (hn : ns.length ≤ 60) : TotI l b ns (some ((i, ()), ((ba l, ns, true, ()), ()))) :=
  ⟨i, l, true, ns, rfl, suf_refl l, fun _ => rfl, List.prefix_refl _, hn, id⟩
theorem head_cons {l : Bys} {c : UInt8} (h : l.head? = some c) : ∃ t, l = c :: t := by
  cases l with
  | nil => cases h
  | cons y t =>
    simp only [List.head?_cons, Option.some.injEq] at h
    exact ⟨t, by rw [h]⟩
theorem drop1_lt {l : Bys} {c : UInt8} (h : (bl l).head? = some c) : ((bl l).drop 1).length < l.length := by
  have := suf_len (bl_suf l)
  obtain ⟨t, ht⟩ := head_cons h
  rw [ht] at this ⊢
  simp only [List.length_cons, List.drop_succ_cons, List.drop_zero] at this ⊢
  omega
theorem drop1_suf (l : Bys) : (bl l).drop 1 <:+ l := suf_trans (drop_suf 1 _) (bl_suf l)
theorem wd_suf (l : Bys) : (bl l).dropWhile wdB <:+ l := suf_trans (List.dropWhile_suffix _) (bl_suf l)
theorem arR_suf (l : Bys) : (arR (bl l)).dropWhile wdB <:+ l :=
  suf_trans (List.dropWhile_suffix _) (suf_trans (bl_suf _) (suf_trans (drop_suf 1 _) (suf_trans (bl_suf _) (wd_suf l))))
section
variable {n : Nat} (HB : ∀ l : Bys, l.length < n → ∀ (deep least : Int) (b : Bool) (ns : List dFNode), 0 ≤ deep → deep + (l.length : Int) ≤ 400 → ns.length ≤ 60 → TotI l b ns (ireader_binary least deep (ba l) b ns))
include HB
theorem tot_callp : ∀ (m : Nat) (l : Bys) (op deep : Int) (b : Bool) (kids : List Int) (ns : List dFNode), l.length = m → l.length < n → 0 ≤ deep → deep + 1 + (l.length : Int) ≤ 400 → kids.length + l.length ≤ 10000 → ns.length ≤ 60 → TotI l b ns (ireader_call_p3' op deep (ba l) b kids ns) := by
  intro m
  induction m using Nat.strongRecOn with
  | ind m ih =>
    intro l op deep b kids ns hm hln hd0 hd hk hn
    subst hm
    rw [ireader_call_p3'_eq]
    cases b with
    | true =>
      simp only [Bool.not_true, Bool.false_eq_true, if_false, put_id]
      exact tot_put hn (smF (by omega))
    | false =>
      have tail : ∀ (l2 : Bys) (b2 : Bool) (ns2 : List dFNode) (y : List Int), l2 <:+ l → ns <+: ns2 → ns2.length ≤ 60 → y.length = kids.length + 1 → (sm ns = true → sm ns2 = true) →
          TotI l false ns ((ireader_take (⟨#[44]⟩ : ByteArray) (ba l2) b2 ns2).bind fun z3 => (if (!z3.1.1) = true then (if z3.2.1.2.2.1 = true then ((ireader_put (6, op, (0, 0, (⟨#[]⟩ : ByteArray), ()), ((0, 0, ()), false, false, ()), ((0, 0, ()), false, false, ()), y, ()) z3.2.1.1 true z3.2.1.2.1).bind fun z4 => (some ((z4.1.1, ()), (z4.2.1, ())))) else ((ireader_take (⟨#[41]⟩ : ByteArray) z3.2.1.1 z3.2.1.2.2.1 z3.2.1.2.1).bind fun z5 => ((ireader_put (6, op, (0, 0, (⟨#[]⟩ : ByteArray), ()), ((0, 0, ()), false, false, ()), ((0, 0, ()), false, false, ()), y, ()) z5.2.1.1 (!z5.1.1) z5.2.1.2.1).bind fun z6 => (some ((z6.1.1, ()), (z6.2.1, ())))))) else (ireader_call_p3' op deep z3.2.1.1 z3.2.1.2.2.1 y z3.2.1.2.1))) := by
        intro l2 b2 ns2 y hs hp hn2 hy hsm
        have hl2 := suf_len hs
        rw [show (⟨#[44]⟩ : ByteArray) = ba [44] from rfl, itake_ok (by omega)]
        simp only [Option.bind_some, sg_one (c := 44) (.inr (.inr (.inr (.inl rfl)))), put_id, List.length_singleton]
        by_cases hc : (bl l2).head? = some 44
        · have hlt := drop1_lt hc
          simp only [hc, decide_true, Bool.not_true, Bool.false_eq_true, if_false, if_true]
          exact (ih _ (by omega) _ op deep b2 y ns2 rfl (by omega) hd0 (by omega) (by omega) hn2).mono (suf_trans (drop1_suf l2) hs) (fun h => by cases h) hp hsm
        · simp only [hc, decide_false, Bool.not_false, if_true, if_false]
          have hbl := suf_len (bl_suf l2)
          cases b2 with
          | true =>
            simp only [if_true]
            exact (tot_put hn2 (smF (by omega))).mono (suf_trans (bl_suf l2) hs) (fun h => by cases h) hp hsm
          | false =>
            simp only [Bool.false_eq_true, if_false]
            rw [show (⟨#[41]⟩ : ByteArray) = ba [41] from rfl, itake_ok (by omega)]
            simp only [Option.bind_some, put_id]
            refine (tot_put hn2 (smF (by omega))).mono ?_ (fun h => by cases h) hp hsm
            split
            · exact suf_trans (suf_trans (drop_suf _ _) (bl_suf _)) (suf_trans (bl_suf l2) hs)
            · exact suf_trans (bl_suf _) (suf_trans (bl_suf l2) hs)
      simp only [Bool.not_false, if_true]
      rw [iarea_ok (by omega)]
      by_cases ha : arB (bl l) = true
      · rw [if_pos ha]
        simp only [Option.bind_some, if_true]
        obtain ⟨i2, l2, b2, ns2, h2, k1, k2, k3, k4, k5⟩ := tot_put (x := nA (rdPl ((bl l).takeWhile wdB)).1 (rdPl ((arR (bl l)).takeWhile wdB)).1) (l := (arR (bl l)).dropWhile wdB) (b := (false || !(rdPl ((arR (bl l)).takeWhile wdB)).2)) hn
        rw [h2]
        simp only [Option.bind_some]
        rw [app_ok (by simp only [List.length_singleton]; omega)]
        exact tail _ _ _ _ (suf_trans k1 (arR_suf l)) k3 k4 (by simp) k5
      · rw [if_neg ha]
        simp only [Option.bind_some, Bool.false_eq_true, if_false]
        rw [wr (by omega) (by omega)]
        obtain ⟨i2, l2, b2, ns2, h2, k1, k2, k3, k4, k5⟩ := HB l hln (deep + 1) 1 false ns (by omega) hd hn
        rw [h2]
        simp only [Option.bind_some]
        rw [app_ok (by simp only [List.length_singleton]; omega)]
        exact tail _ _ _ _ k1 k3 k4 (by simp) k5
theorem tot_call {l : Bys} {op deep : Int} {b : Bool} {ns : List dFNode} (hln : l.length < n) (hd0 : 0 ≤ deep) (hd : deep + 1 + (l.length : Int) ≤ 400) (hn : ns.length ≤ 60) : TotI l b ns (ireader_call op deep (ba l) b ns) := by
  rw [ireader_call_eq]
  cases b with
  | true =>
    rw [if_pos rfl, ireader_call_p3_eq]
    simp only [Bool.not_true, Bool.false_eq_true, if_false, put_id]
    exact tot_put hn (smF (by simp))
  | false =>
    rw [if_neg (by decide), show (⟨#[40]⟩ : ByteArray) = ba [40] from rfl, itake_ok (by omega)]
    simp only [Option.bind_some]
    have hs : (if sg (bl l) = [40] then (bl l).drop ([40] : Bys).length else bl l) <:+ l := by
      split
      · exact drop1_suf l
      · exact bl_suf l
    have := suf_len hs
    exact (tot_callp HB _ _ op deep _ [] ns rfl (by omega) hd0 (by omega) (by simp only [List.length_nil]; omega) hn).mono hs (fun h => by cases h) (List.prefix_refl _)
theorem tot_word {deep : Int} {w r : Bys} {b : Bool} {ns : List dFNode} (hln : fnK.find? (fun k => decide (fnT k = w)) ≠ none → r.length < n ∧ deep + 1 + (r.length : Int) ≤ 400) (hd0 : 0 ≤ deep) (hn : ns.length ≤ 60) : TotI r b ns (iWordEnd deep w r b ns) := by
  unfold iWordEnd
  split
  · rename_i hc
    rw [const_put]
    exact tot_put hn (smC (Nat.le_trans (okVal_size (rdVal_ok hc.1).1) (by decide)))
  · split
    · exact tot_put hn
    · cases hf : fnK.find? (fun k => decide (fnT k = w)) with
      | some k =>
        obtain ⟨h1, h2⟩ := hln (by rw [hf]; simp)
        exact tot_call HB h1 hd0 h2 hn
      | none => exact tot_bad hn
end
end Go.Proofs.YtiligfmembmapaaGreatDoor.Abs
/- Plain laws: the program's reader comes to an end, from every state. -/
set_option linter.unusedVariables false
set_option linter.unusedSimpArgs false
set_option linter.unusedSectionVars false
namespace Go.Proofs.YtiligfmembmapaaGreatDoor.Abs
open Go

theorem fn_some {w : Bys} (h : fnK.find? (fun k => decide (fnT k = w)) ≠ none) : ∃ k, fnK.find? (fun k => decide (fnT k = w)) = some k ∧ fnT k = w ∧ k ∈ fnK ∧ w ≠ [] := by
  cases hf : fnK.find? (fun k => decide (fnT k = w)) with
  | none => exact absurd hf h
  | some k =>
    have h1 := List.find?_some hf
    have h2 := List.mem_of_find?_eq_some hf
    have h3 : fnT k = w := by simpa using h1
    refine ⟨k, rfl, h3, h2, ?_⟩
    have : ∀ k ∈ fnK, fnT k ≠ [] := by decide
    rw [← h3]
    exact this k h2
theorem word_lt {l : Bys} (h : (bl l).takeWhile wdB ≠ []) : ((bl l).dropWhile wdB).length < l.length := by
  have h1 := suf_len (bl_suf l)
  have h2 := congrArg List.length (List.takeWhile_append_dropWhile (p := wdB) (l := bl l))
  rw [List.length_append] at h2
  have h3 := List.length_pos_iff.2 h
  omega
theorem tot_quoted {l : Bys} {b : Bool} {ns : List dFNode} (hl : l.length ≤ 900) (hn : ns.length ≤ 60) : TotI (34 :: l) b ns (ireader_quoted (ba (34 :: l)) b ns) := by
  rw [iquoted_ok hl]
  cases hq : qt l with
  | none => exact tot_bad hn
  | some p =>
    obtain ⟨h1, h2, _⟩ := qt_suf l p.1 p.2 hq
    show TotI _ b ns (ireader_constant _ _ b ns)
    rw [const_put]
    refine (tot_put hn (smC ?_)).mono (suf_trans h1 ⟨[34], rfl⟩) id (List.prefix_refl _)
    show (ba ([] ++ p.1)).size ≤ _
    rw [size_ba]
    simp only [List.nil_append]
    omega
theorem hash_word (l : Bys) : (bl (35 :: l)).takeWhile wdB = [] ∧ (bl (35 :: l)).dropWhile wdB = 35 :: l := by
  have h1 : bl (35 :: l) = 35 :: l := List.dropWhile_cons_of_neg (by decide)
  rw [h1]
  exact ⟨List.takeWhile_cons_of_neg (by decide), List.dropWhile_cons_of_neg (by decide)⟩
theorem ierr_ok {deep : Int} {l : Bys} {b : Bool} {ns : List dFNode} (hl : l.length ≤ 800) : ireader_atom_p6 deep 1 (ba (35 :: l)) b ns = match erK.find? (erP l) with
    | some n => ireader_constant (vE n) (ba (l.drop (erT n).length)) b ns
    | none => some ((-1, ()), ((ba (35 :: l), ns, true, ()), ())) := by
  have h := ierr_loop (deep := deep) (l := l) (b := b) (ns := ns) (by omega) erK [] rfl
  have h : ireader_atom_p6 deep 1 (ba (35 :: l)) b ns = _ := h
  rw [h]
  cases erK.find? (erP l) with
  | some n => rfl
  | none =>
    simp only
    rw [i6_ok (by rw [List.length_cons]; omega), (hash_word l).1, (hash_word l).2]
    have e1 : ¬ ((rdVal []).2 = true ∧ ((rdVal []).1.1 = 1 ∨ (rdVal []).1.1 = 3)) := by decide +kernel
    have e2 : ¬ (rdPl []).2 = true := by decide +kernel
    have e3 : fnK.find? (fun k => decide (fnT k = [])) = none := by decide +kernel
    unfold iWordEnd
    rw [if_neg e1, if_neg e2, e3]
theorem tot_atom {l : Bys} (HB : ∀ l' : Bys, l'.length < l.length → ∀ (deep least : Int) (b : Bool) (ns : List dFNode), 0 ≤ deep → deep + (l'.length : Int) ≤ 400 → ns.length ≤ 60 → TotI l' b ns (ireader_binary least deep (ba l') b ns))
    {deep : Int} {b : Bool} {ns : List dFNode} (hd0 : 0 ≤ deep) (hd : deep + (l.length : Int) ≤ 400) (hn : ns.length ≤ 60) : TotI l b ns (ireader_atom deep (ba l) b ns) := by
  have hbl := suf_len (bl_suf l)
  rw [iatom_ok (by omega)]
  by_cases c1 : (bl l).head? = some 34
  · rw [if_pos c1]
    obtain ⟨t, ht⟩ := head_cons c1
    have htl : t.length + 1 = (bl l).length := by rw [ht]; simp
    rw [ht]
    exact (tot_quoted (by omega) hn).mono (by rw [← ht]; exact bl_suf l) id (List.prefix_refl _)
  · rw [if_neg c1]
    by_cases c2 : (bl l).head? = some 35
    · rw [if_pos c2]
      obtain ⟨t, ht⟩ := head_cons c2
      have htl : t.length + 1 = (bl l).length := by rw [ht]; simp
      have hts : t <:+ l := suf_trans ⟨[35], by rw [ht]; rfl⟩ (bl_suf l)
      rw [ht, ierr_ok (by omega)]
      cases erK.find? (erP t) with
      | some n =>
        simp only
        rw [const_put]
        exact (tot_put hn (smC (by show eS.size ≤ _; decide))).mono (suf_trans (drop_suf _ _) hts) id (List.prefix_refl _)
      | none => exact (tot_bad hn).mono (by rw [← ht]; exact bl_suf l) id (List.prefix_refl _)
    · rw [if_neg c2]
      by_cases c3 : (bl l).head? = some 40
      · rw [if_pos c3]
        have hlt := drop1_lt c3
        rw [wr (by omega) (by omega)]
        obtain ⟨i2, l2, b2, ns2, h2, k1, k2, k3, k4, k5⟩ := HB _ hlt (deep + 1) 1 b ns (by omega) (by omega) hn
        rw [h2]
        simp only [Option.bind_some]
        have hl2 := suf_len k1
        have hs2 : l2 <:+ l := suf_trans k1 (drop1_suf l)
        cases b2 with
        | true =>
          simp only [if_true]
          exact ⟨i2, l2, true, ns2, rfl, hs2, fun _ => rfl, k3, k4, k5⟩
        | false =>
          simp only [Bool.false_eq_true, if_false]
          rw [show (⟨#[41]⟩ : ByteArray) = ba [41] from rfl, itake_ok (by omega)]
          simp only [Option.bind_some]
          refine ⟨i2, _, _, ns2, rfl, ?_, (fun h => by have := k2 h; cases this), k3, k4, k5⟩
          split
          · exact suf_trans (suf_trans (drop_suf _ _) (bl_suf _)) hs2
          · exact suf_trans (bl_suf _) hs2
      · rw [if_neg c3]
        refine (tot_word HB (fun h => ?_) hd0 hn).mono (wd_suf l) id (List.prefix_refl _)
        obtain ⟨k, _, _, _, hw⟩ := fn_some h
        have := word_lt hw
        omega
theorem tot_unary : ∀ (m : Nat) (l : Bys), l.length = m → (∀ l' : Bys, l'.length < l.length → ∀ (deep least : Int) (b : Bool) (ns : List dFNode), 0 ≤ deep → deep + (l'.length : Int) ≤ 400 → ns.length ≤ 60 → TotI l' b ns (ireader_binary least deep (ba l') b ns)) →
    ∀ (deep : Int) (b : Bool) (ns : List dFNode), 0 ≤ deep → deep + (l.length : Int) ≤ 400 → ns.length ≤ 60 → TotI l b ns (ireader_unary deep (ba l) b ns) := by
  intro m
  induction m using Nat.strongRecOn with
  | ind m ih =>
    intro l hm HB deep b ns hd0 hd hn
    subst hm
    rw [ireader_unary_eq, ifF (by omega)]
    cases b with
    | true =>
      simp only [if_true]
      exact tot_bad hn
    | false =>
      simp only [Bool.false_eq_true, if_false, put_id]
      rw [show (⟨#[45]⟩ : ByteArray) = ba [45] from rfl, itake_ok (by omega)]
      simp only [Option.bind_some, sg_one (c := 45) (.inl rfl), List.length_singleton]
      have hbl := suf_len (bl_suf l)
      by_cases hc : (bl l).head? = some 45
      · have hlt := drop1_lt hc
        simp only [hc, decide_true, if_true]
        rw [wr (by omega) (by omega)]
        obtain ⟨i2, l2, b2, ns2, h2, k1, k2, k3, k4, k5⟩ := ih _ hlt _ rfl (fun l' h' => HB l' (by omega)) (deep + 1) false ns (by omega) (by omega) hn
        rw [h2]
        simp only [Option.bind_some]
        exact (tot_put k4).mono (suf_trans k1 (drop1_suf l)) (fun h => by cases h) k3 k5
      · simp only [hc, decide_false, Bool.false_eq_true, if_false]
        exact (tot_atom (l := bl l) (fun l' h' => HB l' (by omega)) hd0 (by omega) hn).mono (bl_suf l) id (List.prefix_refl _)
/-- Behind the search for an operation. -/
theorem ibin_12 {least deep left : Int} {op : Int} {l : Bys} {ns : List dFNode} (ho : 0 ≤ op) (ho2 : op ≤ 11) (hl : l.length ≤ 900) (hs : op ≠ 0 → sg (bl l) = opT op) : ireader_binary_p5 least deep left op 12 (ba l) false ns =
    if op = 0 ∨ lvI op < least then some ((left, ()), ((ba l, ns, false, ()), ()))
    else ((ireader_binary (lvI op + 1) deep (ba ((bl l).drop (opT op).length)) false ns).bind fun z7 => ((ireader_put (5, op, (0, 0, (⟨#[]⟩ : ByteArray), ()), ((0, 0, ()), false, false, ()), ((0, 0, ()), false, false, ()), ([left, z7.1.1] : (List Int)), ()) z7.2.1.1 z7.2.1.2.2.1 z7.2.1.2.1).bind fun z8 => (ireader_binary_p2 least deep z8.1.1 z8.2.1.1 z8.2.1.2.2.1 z8.2.1.2.1))) := by
  rw [ireader_binary_p5_eq, ifF (by decide)]
  by_cases h0 : op = 0
  · rw [if_pos (by rw [h0]; rfl), if_pos (.inl h0)]
  · have h0' : ¬ (op == 0) = true := by simpa using h0
    have hlv : 1 ≤ lvI op ∧ lvI op ≤ 4 := by
      unfold lvI
      repeat' split
      all_goals omega
    rw [if_neg h0', ibinds_ok (by omega) ho2]
    simp only [Option.bind_some]
    by_cases h1 : lvI op < least
    · rw [ifT h1, if_pos (.inr h1)]
    · rw [ifF h1, if_neg (by omega), iopText_ok ho ho2]
      simp only [Option.bind_some]
      rw [itake_ok (by omega), hs h0]
      simp only [Option.bind_some, if_true]
      rw [wr (by omega) (by omega)]
theorem opdrop {l : Bys} (h : opL (bl l) ≠ 0) : ((bl l).drop (opT (opL (bl l))).length).length < l.length := by
  have h1 := suf_len (bl_suf l)
  have h2 := opL_text h
  have h3 := pre_len (sg_pre (bl l))
  have h4 : 1 ≤ (opT (opL (bl l))).length := by
    have := opL_range (bl l)
    have h5 : ∀ k : Fin 12, k.val ≠ 0 → 1 ≤ (opT (k.val : Int)).length := by decide
    have := h5 ⟨(opL (bl l)).toNat, by omega⟩ (by simp only; omega)
    simp only [Int.toNat_of_nonneg (opL_range (bl l)).1] at this
    exact this
  rw [h2] at h3
  rw [List.length_drop]
  omega
theorem tot_bin2 : ∀ (m : Nat) (l : Bys), l.length = m → (∀ l' : Bys, l'.length < l.length → ∀ (deep least : Int) (b : Bool) (ns : List dFNode), 0 ≤ deep → deep + (l'.length : Int) ≤ 400 → ns.length ≤ 60 → TotI l' b ns (ireader_binary least deep (ba l') b ns)) →
    ∀ (least deep left : Int) (b : Bool) (ns : List dFNode), 0 ≤ deep → deep + (l.length : Int) ≤ 400 → ns.length ≤ 60 → TotI l b ns (ireader_binary_p2 least deep left (ba l) b ns) := by
  intro m
  induction m using Nat.strongRecOn with
  | ind m ih =>
    intro l hm HB least deep left b ns hd0 hd hn
    subst hm
    rw [ireader_binary_p2_eq]
    cases b with
    | true => exact tot_bad hn
    | false =>
      simp only [Bool.not_false, if_true]
      have hbl := suf_len (bl_suf l)
      obtain ⟨o1, o2⟩ := opL_range (bl l)
      rw [ibin_ops (by omega), ibin_12 o1 o2 (by omega) (fun h => by rw [bl_bl]; exact opL_text h), bl_bl]
      split
      · exact ⟨left, bl l, false, ns, rfl, bl_suf l, fun h => h, List.prefix_refl _, hn, id⟩
      · rename_i hop
        have hop' : opL (bl l) ≠ 0 := fun e => hop (.inl e)
        have hlt := opdrop hop'
        obtain ⟨i2, l2, b2, ns2, h2, k1, k2, k3, k4, k5⟩ := HB _ hlt deep (lvI (opL (bl l)) + 1) false ns hd0 (by omega) hn
        rw [h2]
        simp only [Option.bind_some]
        obtain ⟨i3, l3, b3, ns3, h3, j1, j2, j3, j4, j5⟩ := tot_put (x := (5, opL (bl l), (0, 0, (⟨#[]⟩ : ByteArray), ()), ((0, 0, ()), false, false, ()), ((0, 0, ()), false, false, ()), ([left, i2] : (List Int)), ())) (l := l2) (b := b2) k4
        rw [h3]
        simp only [Option.bind_some]
        have hs2 := suf_len k1
        have hs3 := suf_len j1
        exact (ih _ (by omega) l3 rfl (fun l' h' => HB l' (by omega)) least deep i3 b3 ns3 hd0 (by omega) j4).mono (suf_trans j1 (suf_trans k1 (suf_trans (drop_suf _ _) (bl_suf l)))) (fun h => by cases h) (List.IsPrefix.trans k3 j3) (fun h => j5 (k5 h))
theorem tot_binary : ∀ (m : Nat) (l : Bys), l.length = m → ∀ (deep least : Int) (b : Bool) (ns : List dFNode), 0 ≤ deep → deep + (l.length : Int) ≤ 400 → ns.length ≤ 60 → TotI l b ns (ireader_binary least deep (ba l) b ns) := by
  intro m
  induction m using Nat.strongRecOn with
  | ind m ih =>
    intro l hm deep least b ns hd0 hd hn
    subst hm
    have HB : ∀ l' : Bys, l'.length < l.length → ∀ (deep least : Int) (b : Bool) (ns : List dFNode), 0 ≤ deep → deep + (l'.length : Int) ≤ 400 → ns.length ≤ 60 → TotI l' b ns (ireader_binary least deep (ba l') b ns) :=
      fun l' h' deep least b ns d0 d1 hn => ih _ h' l' rfl deep least b ns d0 d1 hn
    rw [ireader_binary_eq]
    obtain ⟨i2, l2, b2, ns2, h2, k1, k2, k3, k4, k5⟩ := tot_unary _ l rfl HB deep b ns hd0 hd hn
    rw [h2]
    simp only [Option.bind_some]
    have hs2 := suf_len k1
    exact (tot_bin2 _ l2 rfl (fun l' h' => HB l' (by omega)) least deep i2 b2 ns2 hd0 (by omega) k4).mono k1 k2 k3 k5
end Go.Proofs.YtiligfmembmapaaGreatDoor.Abs
/- Plain laws: both readers side by side: what is put behind; the arguments of a function. -/
set_option linter.unusedVariables false
set_option linter.unusedSimpArgs false
set_option linter.unusedSectionVars false
namespace Go.Proofs.YtiligfmembmapaaGreatDoor.Abs
open Go

abbrev RS := Option ((Int × Unit) × (ds_l3Rd × Unit))
def okAll (ns : List dFNode) : Bool := ns.all okNode
theorem okAll_pre {ns ns' : List dFNode} (h : ns <+: ns') (k : okAll ns = false) : okAll ns' = false := by
  obtain ⟨r, rfl⟩ := h
  unfold okAll at k ⊢
  rw [List.all_append, k]
  rfl
/-- It cannot end well any more. -/
def Dm (b : Bool) (ns : List dFNode) : Prop := (b = true ∨ okAll ns = false) ∧ sm ns = true
theorem okNode_sm {x : dFNode} (h : okNode x = true) : smN x = true := by
  have : x.2.2.1.2.2.1.size ≤ 100000 ∧ x.2.2.2.2.2.1.length ≤ 100000 := by
    unfold okNode kl at h
    split at h
    · simp only [Bool.and_eq_true, decide_eq_true_eq] at h
      have := okVal_size h.1.1.2
      omega
    · split at h
      · simp only [Bool.and_eq_true, decide_eq_true_eq] at h
        rw [h.1.1.1.2]
        exact ⟨by decide, by omega⟩
      · split at h
        · simp only [Bool.and_eq_true, decide_eq_true_eq] at h
          rw [h.1.1.2]
          exact ⟨by decide, by omega⟩
        · split at h
          · simp only [Bool.and_eq_true, decide_eq_true_eq] at h
            rw [h.1.1.1.2]
            exact ⟨by decide, by omega⟩
          · split at h
            · simp only [Bool.and_eq_true, decide_eq_true_eq] at h
              rw [h.1.1.1.2]
              exact ⟨by decide, by omega⟩
            · split at h
              · simp only [Bool.and_eq_true, decide_eq_true_eq] at h
                rw [h.1.1.2]
                refine ⟨by decide, ?_⟩
                have h2 := h.1.1.1
                unfold okArgs at h2
                split at h2
                · simp only [Bool.or_eq_true, decide_eq_true_eq] at h2
                  omega
                · split at h2
                  · have := inB_iff.1 h2
                    omega
                  · split at h2
                    · simp only [decide_eq_true_eq] at h2
                      omega
                    · cases h2
              · cases h
  unfold smN
  rw [decide_eq_true this.1, decide_eq_true this.2]
  rfl
theorem smOf {ns : List dFNode} (h : okAll ns = true) : sm ns = true := by
  unfold okAll at h
  unfold sm
  rw [List.all_eq_true] at h ⊢
  exact fun x hx => okNode_sm (h x hx)
theorem dmb {ns : List dFNode} (h : okAll ns = true) : Dm true ns := ⟨.inl rfl, smOf h⟩
theorem TotI.dm {l : Bys} {b : Bool} {ns : List dFNode} {F : RI} (h : TotI l b ns F) (hd : Dm b ns) : ∃ (i : Int) (l' : Bys) (b' : Bool) (ns' : List dFNode), F = some ((i, ()), ((ba l', ns', b', ()), ())) ∧ l' <:+ l ∧ Dm b' ns' ∧ ns'.length ≤ 60 := by
  obtain ⟨i, l', b', ns', e, k1, k2, k3, k4, k5⟩ := h
  exact ⟨i, l', b', ns', e, k1, ⟨hd.1.elim (fun h => .inl (k2 h)) (fun h => .inr (okAll_pre k3 h)), k5 hd.2⟩, k4⟩
/-- Both come to the same; or neither can end well. -/
def Rel (s m : Bys) (L : Int) (F : RI) (G : RS) : Prop :=
  (∃ (i : Int) (l1 l2 : Bys) (ns : List dFNode), F = some ((i, ()), ((ba l1, ns, false, ()), ())) ∧ G = some ((i, ()), ((ba s, at' s l2, false, ns, ()), ())) ∧ bl l1 = bl l2 ∧ l1 <:+ m ∧ l2 <:+ m ∧ okAll ns = true ∧ ns.length ≤ 60 ∧ (opL (bl l1) = 0 ∨ lvI (opL (bl l1)) < L))
  ∨ (∃ (i : Int) (l1 : Bys) (b1 : Bool) (ns1 : List dFNode) (j : Int) (l2 : Bys) (ns2 : List dFNode), F = some ((i, ()), ((ba l1, ns1, b1, ()), ())) ∧ Dm b1 ns1 ∧ l1 <:+ m ∧ ns1.length ≤ 60 ∧ G = some ((j, ()), ((ba s, at' s l2, true, ns2, ()), ())) ∧ l2 <:+ s ∧ ns2.length ≤ 61 + m.length)
theorem lv_lt (k : Int) : lvI k < 5 := by
  unfold lvI
  repeat' split
  all_goals omega
theorem Rel.mono {s m m' : Bys} {L : Int} {F : RI} {G : RS} (h : Rel s m L F G) (hm : m <:+ m') : Rel s m' L F G := by
  have := suf_len hm
  rcases h with ⟨i, l1, l2, ns, e1, e2, h1, h2, h3, h4, h5, h6⟩ | ⟨i, l1, b1, ns1, j, l2, ns2, e1, h1, h2, h3, e2, h4, h5⟩
  · exact .inl ⟨i, l1, l2, ns, e1, e2, h1, suf_trans h2 hm, suf_trans h3 hm, h4, h5, h6⟩
  · exact .inr ⟨i, l1, b1, ns1, j, l2, ns2, e1, h1, suf_trans h2 hm, h3, e2, h4, by omega⟩
theorem sm_snoc {ns : List dFNode} {x : dFNode} (h : sm ns = true) (hx : smN x = true) : sm (ns ++ [x]) = true := by
  unfold sm at h ⊢
  rw [List.all_append, h]
  simp [hx]
theorem sm_big {x : dFNode} (h : smN x = true) : x.2.2.1.2.2.1.size ≤ 9223372036854775807 := by
  unfold smN at h
  rw [Bool.and_eq_true, decide_eq_true_eq] at h
  exact Nat.le_trans h.1 (by decide)
theorem rel_put {s m l1 l2 : Bys} {x : dFNode} {ns : List dFNode} (hsx : smN x = true) (h1 : bl l1 = bl l2) (k1 : l1 <:+ m) (k2 : l2 <:+ m) (hms : m <:+ s) (ho : okAll ns = true) (hn : ns.length ≤ 60) :
    Rel s m 5 (ireader_put x (ba l1) false ns) (sl3Rd_add x (ba s) (at' s l2) false ns) := by
  have hx := sm_big hsx
  obtain ⟨i, e, hi⟩ := iput_ok (x := x) (l := l1) (b := false) hn
  rw [e, sadd_ok (by omega) hx]
  by_cases hlt : ns.length < 60
  · have hi := hi rfl hlt
    subst hi
    have d60 : decide (60 ≤ ns.length) = false := decide_eq_false (by omega)
    rw [d60, if_pos ⟨rfl, hlt⟩]
    simp only [Bool.false_or]
    cases hk : okNode x with
    | true =>
      refine .inl ⟨_, l1, l2, ns ++ [x], rfl, rfl, h1, k1, k2, ?_, ?_, .inr (lv_lt _)⟩
      · unfold okAll at ho ⊢
        rw [List.all_append, ho]
        simp [hk]
      · rw [List.length_append, List.length_singleton]; omega
    | false =>
      refine .inr ⟨_, l1, false, ns ++ [x], (ns.length : Int), l2, ns ++ [x], rfl, ⟨.inr ?_, sm_snoc (smOf ho) hsx⟩, k1, ?_, rfl, suf_trans k2 hms, ?_⟩
      · unfold okAll
        rw [List.all_append]
        simp [hk]
      · rw [List.length_append, List.length_singleton]; omega
      · rw [List.length_append, List.length_singleton]; omega
  · have d60 : decide (60 ≤ ns.length) = true := decide_eq_true (by omega)
    rw [d60, if_neg (by omega)]
    refine .inr ⟨i, l1, true, ns, (ns.length : Int), l2, ns ++ [x], rfl, dmb ho, k1, hn, ?_, suf_trans k2 hms, ?_⟩
    · simp
    · rw [List.length_append, List.length_singleton]; omega
/-- When the reference is bad, what it puts behind stays bad. -/
theorem sadd_bad {s : Bys} {a : Int} {x : dFNode} {ns : List dFNode} (hn : ns.length ≤ 1000) (hx : x.2.2.1.2.2.1.size ≤ 9223372036854775807) : sl3Rd_add x (ba s) a true ns = some (((ns.length : Int), ()), ((ba s, a, true, ns ++ [x], ()), ())) := by
  rw [sadd_ok hn hx]
  rfl
/-! ### The arguments of a function -/
theorem scall_swap {op : Int} {s : ByteArray} {a : Int} {b : Bool} {ns : List dFNode} {kids : List Int} : sl3Rd_call_p2 op s a b ns kids = sl3Rd_call_p2' op s a b kids ns := by
  rw [sl3Rd_call_p2_eq, sl3Rd_call_p2'_eq]
theorem scall_bad {op : Int} {s : ByteArray} {a : Int} {ns : List dFNode} {kids : List Int} : sl3Rd_call_p2' op s a true kids ns = some ((0, ()), ((s, a, true, ns, ()), ())) := by
  rw [sl3Rd_call_p2'_eq]
  rfl
abbrev nF (op : Int) (kids : List Int) : dFNode := (6, op, (0, 0, (⟨#[]⟩ : ByteArray), ()), ((0, 0, ()), false, false, ()), ((0, 0, ()), false, false, ()), kids, ())
/-- Behind an argument. -/
noncomputable def iTail (op deep : Int) (y : List Int) (r : ByteArray) (b : Bool) (ns : List dFNode) : RI :=
  (ireader_take (⟨#[44]⟩ : ByteArray) r b ns).bind fun z3 => (if (!z3.1.1) = true then (if z3.2.1.2.2.1 = true then ((ireader_put (nF op y) z3.2.1.1 true z3.2.1.2.1).bind fun z4 => (some ((z4.1.1, ()), (z4.2.1, ())))) else ((ireader_take (⟨#[41]⟩ : ByteArray) z3.2.1.1 z3.2.1.2.2.1 z3.2.1.2.1).bind fun z5 => ((ireader_put (nF op y) z5.2.1.1 (!z5.1.1) z5.2.1.2.1).bind fun z6 => (some ((z6.1.1, ()), (z6.2.1, ())))))) else (ireader_call_p3' op deep z3.2.1.1 z3.2.1.2.2.1 y z3.2.1.2.1))
theorem icall_round {op deep : Int} {l : Bys} {kids : List Int} {ns : List dFNode} (hl : l.length ≤ 900) : ireader_call_p3' op deep (ba l) false kids ns =
    if arB (bl l) = true then (ireader_put (nA (rdPl ((bl l).takeWhile wdB)).1 (rdPl ((arR (bl l)).takeWhile wdB)).1) (ba ((arR (bl l)).dropWhile wdB)) (!(rdPl ((arR (bl l)).takeWhile wdB)).2) ns).bind fun z2 => (app kids ([z2.1.1] : (List Int)) 8 fun y1 => iTail op deep y1 z2.2.1.1 z2.2.1.2.2.1 z2.2.1.2.1)
    else (ireader_binary 1 (IntKind.i64.wrap (deep + 1)) (ba l) false ns).bind fun z7 => (app kids ([z7.1.1] : (List Int)) 8 fun y2 => iTail op deep y2 z7.2.1.1 z7.2.1.2.2.1 z7.2.1.2.1) := by
  rw [ireader_call_p3'_eq]
  simp only [Bool.not_false, if_true]
  rw [iarea_ok hl]
  by_cases ha : arB (bl l) = true
  · rw [if_pos ha, if_pos ha]
    simp only [Option.bind_some, if_true, Bool.false_or]
    rfl
  · rw [if_neg ha, if_neg ha]
    simp only [Option.bind_some, Bool.false_eq_true, if_false]
    rfl
theorem tot_all : ∀ (l : Bys), ∀ (deep least : Int) (b : Bool) (ns : List dFNode), 0 ≤ deep → deep + (l.length : Int) ≤ 400 → ns.length ≤ 60 → TotI l b ns (ireader_binary least deep (ba l) b ns) := fun l => tot_binary _ l rfl
theorem tot_tail {op deep : Int} {y : List Int} {l : Bys} {b : Bool} {ns : List dFNode} (hd0 : 0 ≤ deep) (hd : deep + 1 + (l.length : Int) ≤ 400) (hy : y.length + l.length ≤ 9000) (hn : ns.length ≤ 60) : TotI l b ns (iTail op deep y (ba l) b ns) := by
  have hbl := suf_len (bl_suf l)
  unfold iTail
  rw [show (⟨#[44]⟩ : ByteArray) = ba [44] from rfl, itake_ok (by omega)]
  simp only [Option.bind_some, put_id]
  by_cases hc : sg (bl l) = [44]
  · have hc' : (bl l).head? = some 44 := by rw [← sg_one (c := 44) (.inr (.inr (.inr (.inl rfl))))]; exact hc
    have hlt := drop1_lt hc'
    simp only [hc, decide_true, Bool.not_true, Bool.false_eq_true, if_false, if_true, List.length_singleton]
    exact (tot_callp (n := l.length + 1) (fun l' _ deep least b ns d0 d1 hn => tot_all l' deep least b ns d0 d1 hn) _ _ op deep b y ns rfl (by omega) hd0 (by omega) (by omega) hn).mono (drop1_suf l) id (List.prefix_refl _)
  · simp only [hc, decide_false, Bool.not_false, if_true, if_false]
    cases b with
    | true =>
      simp only [if_true]
      exact (tot_put hn (smF (by omega))).mono (bl_suf l) (fun _ => rfl) (List.prefix_refl _)
    | false =>
      simp only [Bool.false_eq_true, if_false]
      rw [show (⟨#[41]⟩ : ByteArray) = ba [41] from rfl, itake_ok (by omega)]
      simp only [Option.bind_some, put_id]
      refine (tot_put hn (smF (by omega))).mono ?_ (fun h => by cases h) (List.prefix_refl _)
      split
      · exact suf_trans (suf_trans (drop_suf _ _) (bl_suf _)) (bl_suf l)
      · exact suf_trans (bl_suf _) (bl_suf l)
/-- The reference behind an argument. -/
noncomputable def sTail (op : Int) (y : List Int) (s : ByteArray) (a : Int) (b : Bool) (ns : List dFNode) : RS :=
  (sl3Rd_is (⟨#[41]⟩ : ByteArray) s a b ns).bind fun z2 => (if z2.1.1 = true then ((sl3Rd_add (nF op y) z2.2.1.1 z2.2.1.2.1 z2.2.1.2.2.1 z2.2.1.2.2.2.1).bind fun z3 => (some ((z3.1.1, ()), (z3.2.1, ())))) else ((sl3Rd_is (⟨#[44]⟩ : ByteArray) z2.2.1.1 z2.2.1.2.1 z2.2.1.2.2.1 z2.2.1.2.2.2.1).bind fun z4 => (if (!z4.1.1) = true then (sl3Rd_call_p2' op z4.2.1.1 z4.2.1.2.1 true y z4.2.1.2.2.2.1) else (sl3Rd_call_p2' op z4.2.1.1 z4.2.1.2.1 z4.2.1.2.2.1 y z4.2.1.2.2.2.1))))
theorem stail_bad {op : Int} {y : List Int} {s l : Bys} {ns : List dFNode} (hs : s.length ≤ 900) (h : l <:+ s) : ∃ l', l' <:+ s ∧ sTail op y (ba s) (at' s l) true ns = some ((0, ()), ((ba s, at' s l', true, ns, ()), ())) := by
  unfold sTail
  rw [show (⟨#[41]⟩ : ByteArray) = ba [41] from rfl, sis_ok (by omega) (by decide) h]
  simp only [Option.bind_some, Bool.not_true, Bool.false_and, Bool.false_eq_true, if_false]
  rw [show (⟨#[44]⟩ : ByteArray) = ba [44] from rfl, sis_ok (by omega) (by decide) (suf_trans (bl_suf l) h)]
  simp only [Option.bind_some, Bool.not_true, Bool.false_and, Bool.false_eq_true, if_false, Bool.not_false, if_true]
  exact ⟨bl (bl l), suf_trans (bl_suf _) (suf_trans (bl_suf l) h), scall_bad⟩
theorem scall_round {op : Int} {s l : Bys} {kids : List Int} {ns : List dFNode} : sl3Rd_call_p2' op (ba s) (at' s l) false kids ns = (sl3Rd_arg (ba s) (at' s l) false ns).bind fun z1 => (app kids ([z1.1.1] : (List Int)) 8 fun y1 => sTail op y1 z1.2.1.1 z1.2.1.2.1 z1.2.1.2.2.1 z1.2.1.2.2.2.1) := by
  rw [sl3Rd_call_p2'_eq]
  rfl
theorem sarg_ok {s l : Bys} {ns : List dFNode} (hs : s.length ≤ 900) (h : l <:+ s) : sl3Rd_arg (ba s) (at' s l) false ns =
    if arB (bl l) = true then (if (rdPl ((arR (bl l)).takeWhile wdB)).2 = true then sl3Rd_add (nA (rdPl ((bl l).takeWhile wdB)).1 (rdPl ((arR (bl l)).takeWhile wdB)).1) (ba s) (at' s ((arR (bl l)).dropWhile wdB)) false ns
      else some ((0, ()), ((ba s, at' s ((arR (bl l)).dropWhile wdB), true, ns, ()), ())))
    else sl3Rd_row 1 (ba s) (at' s (bl l)) false ns := by
  have hm := suf_trans (bl_suf l) h
  have hr := suf_trans (wd_suf l) h
  have hsl := suf_len h
  have h1 := suf_len (bl_suf l)
  have h2 := takeW_len wdB (bl l)
  have h3 := suf_len (arR_suf l)
  rw [sl3Rd_arg_eq, sblk (by omega) h]
  simp only [Option.bind_some]
  rw [sword_ok (by omega) hm]
  simp only [Option.bind_some]
  rw [sReadPlace_ok (by omega)]
  simp only [Option.bind_some]
  unfold arB
  cases hp : (rdPl ((bl l).takeWhile wdB)).2 with
  | false => simp only [Bool.false_and, Bool.false_eq_true, if_false, scall_id]
  | true =>
    simp only [if_true, Bool.true_and]
    rw [show (⟨#[58]⟩ : ByteArray) = ba [58] from rfl, sis_ok (by omega) (by decide) hr]
    simp only [Option.bind_some, Bool.not_false, Bool.true_and, pre1]
    by_cases hc : (bl ((bl l).dropWhile wdB)).head? = some 58
    · simp only [hc, decide_true, if_true, List.length_singleton]
      have hq : (bl ((bl l).dropWhile wdB)).drop 1 <:+ s := suf_trans (drop1_suf _) hr
      rw [sblk (by omega) hq]
      simp only [Option.bind_some]
      have hq2 : arR (bl l) <:+ s := suf_trans (bl_suf _) hq
      rw [show bl ((bl ((bl l).dropWhile wdB)).drop 1) = arR (bl l) from rfl, sword_ok (by omega) hq2]
      simp only [Option.bind_some]
      have h4 := takeW_len wdB (arR (bl l))
      have h5 := suf_len hq2
      rw [sReadPlace_ok (by omega)]
      simp only [Option.bind_some, scall_id]
      cases (rdPl ((arR (bl l)).takeWhile wdB)).2 <;> simp
    · simp only [hc, decide_false, Bool.false_eq_true, if_false, scall_id]
end Go.Proofs.YtiligfmembmapaaGreatDoor.Abs
/- Plain laws: both readers side by side: the arguments of a function. -/
set_option linter.unusedVariables false
set_option linter.unusedSimpArgs false
set_option linter.unusedSectionVars false
namespace Go.Proofs.YtiligfmembmapaaGreatDoor.Abs
open Go

theorem rel_bind {s m m' : Bys} {L L' : Int} {F : RI} {G : RS} {K : (Int × Unit) × (dreader × Unit) → RI} {K' : (Int × Unit) × (ds_l3Rd × Unit) → RS} (h : Rel s m L F G)
    (hg : ∀ (i : Int) (l1 l2 : Bys) (ns : List dFNode), bl l1 = bl l2 → l1 <:+ m → l2 <:+ m → okAll ns = true → ns.length ≤ 60 → (opL (bl l1) = 0 ∨ lvI (opL (bl l1)) < L) → Rel s m' L' (K ((i, ()), ((ba l1, ns, false, ()), ()))) (K' ((i, ()), ((ba s, at' s l2, false, ns, ()), ()))))
    (hd : ∀ (i : Int) (l1 : Bys) (b1 : Bool) (ns1 : List dFNode) (j : Int) (l2 : Bys) (ns2 : List dFNode), Dm b1 ns1 → l1 <:+ m → ns1.length ≤ 60 → l2 <:+ s → ns2.length ≤ 61 + m.length → Rel s m' L' (K ((i, ()), ((ba l1, ns1, b1, ()), ()))) (K' ((j, ()), ((ba s, at' s l2, true, ns2, ()), ())))) :
    Rel s m' L' (F.bind K) (G.bind K') := by
  rcases h with ⟨i, l1, l2, ns, rfl, rfl, h1, h2, h3, h4, h5, h6⟩ | ⟨i, l1, b1, ns1, j, l2, ns2, rfl, h1, h2, h3, rfl, h4, h5⟩
  · exact hg i l1 l2 ns h1 h2 h3 h4 h5 h6
  · exact hd i l1 b1 ns1 j l2 ns2 h1 h2 h3 h4 h5
/-- Both can end no more. -/
theorem rel_doom {s m : Bys} {L : Int} {F : RI} {G : RS} {l1 : Bys} {b1 : Bool} {ns1 : List dFNode} {j : Int} {l2 : Bys} {ns2 : List dFNode} (hF : TotI l1 b1 ns1 F) (hd : Dm b1 ns1) (h1 : l1 <:+ m) (hG : G = some ((j, ()), ((ba s, at' s l2, true, ns2, ()), ()))) (h2 : l2 <:+ s) (h3 : ns2.length ≤ 61 + m.length) : Rel s m L F G := by
  obtain ⟨i, l', b', ns', e, k1, k2, k3⟩ := hF.dm hd
  exact .inr ⟨i, l', b', ns', j, l2, ns2, e, k2, suf_trans k1 h1, k3, hG, h2, h3⟩
/-- What both sides say of shorter texts. -/
def PBs (s : Bys) (n : Nat) : Prop := ∀ (l l0 : Bys), bl l = bl l0 → l <:+ s → l0 <:+ s → (bl l).length < n → ∀ (L deep : Int) (ns : List dFNode), 1 ≤ L → L ≤ 5 → 0 ≤ deep → deep + ((bl l).length : Int) ≤ 200 → okAll ns = true → ns.length ≤ 60 →
  Rel s (bl l) L (ireader_binary L deep (ba l) false ns) (sl3Rd_row L (ba s) (at' s l0) false ns)
theorem head_pre {c : UInt8} {l : Bys} : ([c] : Bys).isPrefixOf l = decide (l.head? = some c) := pre1 c l
theorem rel_call {s : Bys} (hs : s.length ≤ 200) {n : Nat} (HB : PBs s n) : ∀ (k : Nat) (l1 l2 : Bys), (bl l1).length = k → bl l1 = bl l2 → l1 <:+ s → l2 <:+ s → (bl l1).length < n → ∀ (op deep : Int) (kids : List Int) (ns : List dFNode), 0 ≤ deep → deep + 1 + ((bl l1).length : Int) ≤ 200 → kids.length + (bl l1).length ≤ 1000 → okAll ns = true → ns.length ≤ 60 →
    Rel s (bl l1) 5 (ireader_call_p3' op deep (ba l1) false kids ns) (sl3Rd_call_p2' op (ba s) (at' s l2) false kids ns) := by
  intro k
  induction k using Nat.strongRecOn with
  | ind k ih =>
    intro l1 l2 hk hb hs1 hs2 hn op deep kids ns hd0 hd hkl ho hns
    subst hk
    have hl1 := suf_len hs1
    have hm1 := suf_len (bl_suf l1)
    have hms : bl l1 <:+ s := suf_trans (bl_suf l1) hs1
    rw [icall_round (by omega), scall_round, sarg_ok (by omega) hs2, ← hb]
    have doom : ∀ (y : List Int) (x1 : Bys) (b1 : Bool) (ns1 : List dFNode) (x2 : Bys) (ns2 : List dFNode), y.length = kids.length + 1 → Dm b1 ns1 → x1 <:+ bl l1 → ns1.length ≤ 60 → x2 <:+ s → ns2.length ≤ 61 + (bl l1).length →
        Rel s (bl l1) 5 (iTail op deep y (ba x1) b1 ns1) (sTail op y (ba s) (at' s x2) true ns2) := by
      intro y x1 b1 ns1 x2 ns2 hy hdm hx1 hn1 hx2 hn2
      have hlx := suf_len hx1
      obtain ⟨l', h1, h2⟩ := stail_bad (op := op) (y := y) (ns := ns2) (by omega) hx2
      exact rel_doom (tot_tail hd0 (by omega) (by omega) hn1) hdm hx1 h2 h1 hn2
    have good : ∀ (y : List Int) (x1 x2 : Bys) (ns : List dFNode), y.length = kids.length + 1 → bl x1 = bl x2 → x1 <:+ bl l1 → x2 <:+ bl l1 → okAll ns = true → ns.length ≤ 60 →
        Rel s (bl l1) 5 (iTail op deep y (ba x1) false ns) (sTail op y (ba s) (at' s x2) false ns) := by
      intro y x1 x2 ns hy hbx hx1 hx2 ho hn
      have hlx := suf_len hx1
      have hblx := suf_len (bl_suf x1)
      have hx2s := suf_trans hx2 hms
      have c41 : ¬ (41 : UInt8) = 44 := by decide
      have c44 : ¬ (44 : UInt8) = 41 := by decide
      unfold iTail sTail
      rw [show (⟨#[44]⟩ : ByteArray) = ba [44] from rfl, show (⟨#[41]⟩ : ByteArray) = ba [41] from rfl, itake_ok (by omega), sis_ok (by omega) (by decide) hx2s]
      simp only [Option.bind_some, sg_one (c := 44) (.inr (.inr (.inr (.inl rfl)))), put_id, scall_id, List.length_singleton, Bool.not_false, Bool.true_and, head_pre, ← hbx]
      by_cases h44 : (bl x1).head? = some 44
      · have h41 : ¬ (bl x1).head? = some 41 := by rw [h44]; simp
        simp only [h44, h41, decide_true, decide_false, Bool.not_true, Bool.false_eq_true, if_false, if_true, Option.some.injEq, c44]
        rw [sis_ok (by omega) (by decide) (suf_trans (bl_suf x1) (suf_trans hx1 hms))]
        simp only [Option.bind_some, Bool.not_false, Bool.true_and, head_pre, bl_bl, h44, decide_true, if_true, Bool.not_true, Bool.false_eq_true, if_false, List.length_singleton]
        have hlt := drop1_lt h44
        have hb2 := suf_len (bl_suf ((bl x1).drop 1))
        have hsx : (bl x1).drop 1 <:+ bl l1 := suf_trans (drop1_suf x1) hx1
        exact (ih _ (by omega) _ _ rfl rfl (suf_trans hsx hms) (suf_trans hsx hms) (by omega) op deep y ns hd0 (by omega) (by omega) ho hn).mono (suf_trans (bl_suf _) hsx)
      · simp only [h44, decide_false, Bool.not_false, if_true, if_false, Bool.false_eq_true]
        rw [itake_ok (by omega)]
        simp only [Option.bind_some, sg_one (c := 41) (.inr (.inr (.inl rfl))), bl_bl, List.length_singleton]
        by_cases h41 : (bl x1).head? = some 41
        · simp only [h41, decide_true, if_true, Bool.not_true]
          have hsx : (bl x1).drop 1 <:+ bl l1 := suf_trans (drop1_suf x1) hx1
          exact rel_put (smF (by omega)) rfl hsx hsx hms ho hn
        · simp only [h41, decide_false, if_false, Bool.not_false, Bool.false_eq_true]
          rw [sis_ok (by omega) (by decide) (suf_trans (bl_suf x1) (suf_trans hx1 hms))]
          simp only [Option.bind_some, Bool.not_false, Bool.true_and, head_pre, bl_bl, h44, decide_false, if_true, Bool.false_eq_true, if_false]
          have hsx : bl x1 <:+ bl l1 := suf_trans (bl_suf x1) hx1
          exact rel_doom (tot_put hn (smF (by omega))) (dmb ho) hsx scall_bad (suf_trans hsx hms) (by omega)
    by_cases ha : arB (bl l1) = true
    · rw [if_pos ha, if_pos ha]
      have hX : (arR (bl l1)).dropWhile wdB <:+ bl l1 := by
        have := arR_suf (bl l1)
        rw [bl_bl] at this
        exact this
      cases h2 : (rdPl ((arR (bl l1)).takeWhile wdB)).2 with
      | true =>
        simp only [Bool.not_true, if_true]
        refine rel_bind (rel_put (m := bl l1) rfl rfl hX hX hms ho hns) ?_ ?_
        · intro i x1 x2 ns' e1 e2 e3 e4 e5 _
          simp only
          rw [app_ok (by simp only [List.length_singleton]; omega), app_ok (by simp only [List.length_singleton]; omega)]
          exact good _ _ _ _ (by simp) e1 e2 e3 e4 e5
        · intro i x1 b1 ns1 j x2 ns2 e1 e2 e3 e4 e5
          simp only
          rw [app_ok (by simp only [List.length_singleton]; omega), app_ok (by simp only [List.length_singleton]; omega)]
          have : kids ++ [i] = kids ++ [i] := rfl
          by_cases hij : i = j
          · subst hij
            exact doom _ _ _ _ _ _ (by simp) e1 e2 e3 e4 e5
          · obtain ⟨l', h1, h2⟩ := stail_bad (op := op) (y := kids ++ [j]) (ns := ns2) (by omega) e4
            have hlx := suf_len e2
            exact rel_doom (tot_tail hd0 (by omega) (by simp only [List.length_append, List.length_singleton]; omega) e3) e1 e2 h2 h1 e5
      | false =>
        simp only [Bool.not_false, Bool.false_eq_true, if_false]
        obtain ⟨i, h3, _⟩ := iput_ok (x := nA (rdPl ((bl l1).takeWhile wdB)).1 (rdPl ((arR (bl l1)).takeWhile wdB)).1) (l := (arR (bl l1)).dropWhile wdB) (b := true) hns
        rw [h3]
        simp only [Option.bind_some, Bool.true_eq_false, false_and, if_false, Bool.true_or]
        rw [app_ok (by simp only [List.length_singleton]; omega), app_ok (by simp only [List.length_singleton]; omega)]
        obtain ⟨l', h1, h2⟩ := stail_bad (op := op) (y := kids ++ [0]) (ns := ns) (by omega) (suf_trans hX hms)
        have hlx := suf_len hX
        exact rel_doom (tot_tail hd0 (by omega) (by simp only [List.length_append, List.length_singleton]; omega) hns) (dmb ho) hX h2 h1 (by omega)
    · rw [if_neg ha, if_neg ha, wr (by omega) (by omega)]
      refine rel_bind (HB l1 (bl l1) (bl_bl l1).symm hs1 hms hn 1 (deep + 1) ns (by decide) (by decide) (by omega) (by omega) ho hns) ?_ ?_
      · intro i x1 x2 ns' e1 e2 e3 e4 e5 _
        simp only
        rw [app_ok (by simp only [List.length_singleton]; omega), app_ok (by simp only [List.length_singleton]; omega)]
        exact good _ _ _ _ (by simp) e1 e2 e3 e4 e5
      · intro i x1 b1 ns1 j x2 ns2 e1 e2 e3 e4 e5
        simp only
        rw [app_ok (by simp only [List.length_singleton]; omega), app_ok (by simp only [List.length_singleton]; omega)]
        obtain ⟨l', h1, h2⟩ := stail_bad (op := op) (y := kids ++ [j]) (ns := ns2) (by omega) e4
        have hlx := suf_len e2
        exact rel_doom (tot_tail hd0 (by omega) (by simp only [List.length_append, List.length_singleton]; omega) e3) e1 e2 h2 h1 e5
end Go.Proofs.YtiligfmembmapaaGreatDoor.Abs
/- Plain laws: both readers side by side: what is not two things with an operation between. -/
set_option linter.unusedVariables false
set_option linter.unusedSimpArgs false
set_option linter.unusedSectionVars false
namespace Go.Proofs.YtiligfmembmapaaGreatDoor.Abs
open Go

theorem mem_takeW {p : UInt8 → Bool} {c : UInt8} : ∀ {l : Bys}, c ∈ l.takeWhile p → p c = true
  | [], h => by simp at h
  | x :: l, h => by
    cases hx : p x with
    | true =>
      rw [List.takeWhile_cons_of_pos hx] at h
      rcases List.mem_cons.1 h with rfl | h
      · exact hx
      · exact mem_takeW h
    | false =>
      rw [List.takeWhile_cons_of_neg (by rw [hx]; decide)] at h
      cases h
/-- A word that is a value is a number or a flag, but for the empty one. -/
theorem val_word {w : Bys} (hw : ∀ c ∈ w, wdB c = true) (h : (rdVal w).2 = true) : (w ≠ []) ↔ ((rdVal w).1.1 = 1 ∨ (rdVal w).1.1 = 3) := by
  constructor
  · intro hne
    obtain ⟨k1, k2⟩ := rdVal_ok h
    rcases okVal_cases k1 with e | ⟨n, e, _⟩ | ⟨t, e⟩ | ⟨b, e⟩ | ⟨n, e, h0⟩
    · rw [e] at k2
      exact absurd (ba_inj (b := []) k2.symm) hne
    · rw [e]; exact .inl rfl
    · rw [e] at k2
      exfalso
      have e2 : w = 39 :: lb t := by
        have : ba w = ba (39 :: lb t) := by
          rw [← k2]
          show (⟨#[39]⟩ : ByteArray) ++ t = _
          rw [← ba_lb t, show (⟨#[39]⟩ : ByteArray) = ba [39] from rfl, ba_app, lb_ba]
          rfl
        exact ba_inj this
      exact absurd (hw 39 (by rw [e2]; simp)) (by decide)
    · rw [e]; exact .inr rfl
    · rw [e] at k2
      exfalso
      have f : ∀ n : Fin 6, 1 ≤ n.val → errT (n.val : Int) = ba (35 :: erT (n.val : Int)) := by decide +kernel
      have e2 : w = 35 :: erT (n.val : Int) := by
        have : ba w = ba (35 :: erT (n.val : Int)) := by
          rw [← k2]
          exact f n h0
        exact ba_inj this
      exact absurd (hw 35 (by rw [e2]; simp)) (by decide)
  · rintro hk rfl
    have : (rdVal []).1.1 = 0 := rfl
    omega
theorem srow5 {s : ByteArray} {a : Int} {ns : List dFNode} : sl3Rd_row 5 s a false ns = sl3Rd_one s a false ns := by
  rw [sl3Rd_row_eq]
  simp only [Bool.false_eq_true, if_false, scall_id]
  rfl
abbrev nNeg (k : Int) : dFNode := (4, 0, (0, 0, (⟨#[]⟩ : ByteArray), ()), ((0, 0, ()), false, false, ()), ((0, 0, ()), false, false, ()), ([k] : (List Int)), ())
theorem eS_big : ByteArray.size ⟨#[]⟩ ≤ 9223372036854775807 := by decide
theorem sbad_rel {s m : Bys} {L i j : Int} {l1 l2 : Bys} {b : Bool} {ns1 ns2 : List dFNode} (hd : Dm b ns1) (h1 : l1 <:+ m) (h2 : ns1.length ≤ 60) (h3 : l2 <:+ s) (h4 : ns2.length ≤ 61 + m.length) : Rel s m L (some ((i, ()), ((ba l1, ns1, b, ()), ()))) (some ((j, ()), ((ba s, at' s l2, true, ns2, ()), ()))) :=
  .inr ⟨i, l1, b, ns1, j, l2, ns2, rfl, hd, h1, h2, rfl, h3, h4⟩
/-- A word. -/
theorem rel_word {s : Bys} (hs : s.length ≤ 200) {n : Nat} (HB : PBs s n) {m : Bys} (hbm : bl m = m) (hms : m <:+ s) (hmn : m.length ≤ n) {deep : Int} {ns : List dFNode} (hd0 : 0 ≤ deep) (hd : deep + (m.length : Int) ≤ 200) (ho : okAll ns = true) (hn : ns.length ≤ 60) :
    Rel s m 5 (iWordEnd deep (m.takeWhile wdB) (m.dropWhile wdB) false ns) ((sl3Rd_word (ba s) (at' s m) false ns).bind fun z10 => (sl3Rd_one_p23 z10.1.1 1 z10.2.1.1 z10.2.1.2.1 z10.2.1.2.2.1 z10.2.1.2.2.2.1)) := by
  have hml := suf_len hms
  have hwl := takeW_len wdB m
  have hrm : m.dropWhile wdB <:+ m := List.dropWhile_suffix _
  have hrs := suf_trans hrm hms
  have hrl := suf_len hrm
  rw [sword_ok (by omega) hms]
  simp only [Option.bind_some]
  obtain ⟨l', hl', e⟩ := sfn_loop (w := m.takeWhile wdB) (s := s) (ns := ns) (by omega) (by omega) fnK [] (m.dropWhile wdB) rfl hrs
  have e : sl3Rd_one_p23 (ba (m.takeWhile wdB)) 1 (ba s) (at' s (m.dropWhile wdB)) false ns = _ := e
  rw [e]
  have hl's : l' <:+ m := by
    rcases hl' with rfl | rfl
    · exact hrm
    · exact suf_trans (bl_suf _) hrm
  have hlb : bl l' = bl (m.dropWhile wdB) := by
    rcases hl' with rfl | rfl
    · rfl
    · exact bl_bl _
  cases hf : fnK.find? (fun k => decide (fnT k = m.takeWhile wdB)) with
  | some k =>
    obtain ⟨k', hk', hkw, hkm, hne⟩ := fn_some (w := m.takeWhile wdB) (by rw [hf]; simp)
    rw [hf] at hk'
    cases hk'
    have hno : ∀ k ∈ fnK, (rdVal (fnT k)).2 = false ∧ (rdPl (fnT k)).2 = false := by decide +kernel
    obtain ⟨v1, v2⟩ := hno k hkm
    rw [hkw] at v1 v2
    have hlt := word_lt (l := m) (by rw [hbm]; exact hne)
    rw [hbm] at hlt
    have ei : iWordEnd deep (m.takeWhile wdB) (m.dropWhile wdB) false ns = ireader_call k deep (ba (m.dropWhile wdB)) false ns := by
      unfold iWordEnd
      rw [if_neg (by rw [v1]; simp), if_neg (by rw [v2]; simp), hf]
    rw [ei, ireader_call_eq, if_neg (by decide), show (⟨#[40]⟩ : ByteArray) = ba [40] from rfl, itake_ok (by omega)]
    simp only [Option.bind_some, sg_one (c := 40) (.inr (.inl rfl)), head_pre, List.length_singleton]
    by_cases h40 : (bl (m.dropWhile wdB)).head? = some 40
    · simp only [h40, decide_true, Bool.and_true, hf, if_true, Bool.not_true]
      have hdl := drop1_lt h40
      have hds : (bl (m.dropWhile wdB)).drop 1 <:+ m := suf_trans (drop1_suf _) hrm
      have hb2 := suf_len (bl_suf ((bl (m.dropWhile wdB)).drop 1))
      rw [sl3Rd_call_eq, scall_swap]
      exact (rel_call hs HB _ _ _ rfl rfl (suf_trans hds hms) (suf_trans hds hms) (by omega) k deep [] ns hd0 (by omega) (by simp only [List.length_nil]; omega) ho hn).mono (suf_trans (bl_suf _) hds)
    · simp only [h40, decide_false, Bool.and_false, if_false, Bool.not_false]
      have e0 : fnK.find? (fun _ => false) = none := rfl
      rw [e0]
      simp only
      have es : sWordEnd (m.takeWhile wdB) s (at' s l') false ns = some ((0, ()), ((ba s, at' s l', true, ns, ()), ())) := by
        unfold sWordEnd
        rw [if_neg (by rw [v1]; simp), if_neg (by rw [v2]; simp)]
      rw [es, ireader_call_p3'_eq]
      simp only [Bool.not_true, Bool.false_eq_true, if_false, put_id]
      exact rel_doom (tot_put hn (smF (by simp))) (dmb ho) (suf_trans (bl_suf _) hrm) rfl (suf_trans hl's hms) (by omega)
  | none =>
    have e0 : fnK.find? (fun k => decide (fnT k = m.takeWhile wdB) && ([40] : Bys).isPrefixOf (bl (m.dropWhile wdB))) = none := by
      rw [List.find?_eq_none] at hf ⊢
      intro k hk
      have := hf k hk
      simp only [decide_eq_true_eq] at this
      simp [this]
    rw [e0]
    simp only
    unfold sWordEnd iWordEnd
    rw [hf]
    have hv := fun h => val_word (w := m.takeWhile wdB) (fun c hc => mem_takeW hc) h
    by_cases hc : (rdVal (m.takeWhile wdB)).2 = true ∧ m.takeWhile wdB ≠ []
    · rw [if_pos hc, if_pos ⟨hc.1, (hv hc.1).1 hc.2⟩, const_put]
      exact rel_put (smC (Nat.le_trans (okVal_size (rdVal_ok hc.1).1) (by decide))) hlb.symm hrm hl's hms ho hn
    · rw [if_neg hc, if_neg (fun h => hc ⟨h.1, (hv h.1).2 h.2⟩)]
      by_cases hp : (rdPl (m.takeWhile wdB)).2 = true
      · rw [if_pos hp, if_pos hp]
        exact rel_put rfl hlb.symm hrm hl's hms ho hn
      · rw [if_neg hp, if_neg hp]
        exact sbad_rel (dmb ho) hrm hn (suf_trans hl's hms) (by omega)
theorem rel_unary {s : Bys} (hs : s.length ≤ 200) {n : Nat} (HB : PBs s n) : ∀ (k : Nat) (l l0 : Bys), (bl l).length = k → bl l = bl l0 → l <:+ s → l0 <:+ s → (bl l).length ≤ n → ∀ (deep : Int) (ns : List dFNode), 0 ≤ deep → deep + ((bl l).length : Int) ≤ 200 → okAll ns = true → ns.length ≤ 60 →
    Rel s (bl l) 5 (ireader_unary deep (ba l) false ns) (sl3Rd_one (ba s) (at' s l0) false ns) := by
  intro k
  induction k using Nat.strongRecOn with
  | ind k ih =>
    intro l l0 hk hb hs1 hs2 hln deep ns hd0 hd ho hn
    subst hk
    have hl1 := suf_len hs1
    have hm1 := suf_len (bl_suf l)
    have hms : bl l <:+ s := suf_trans (bl_suf l) hs1
    rw [ireader_unary_eq, ifF (by omega), sl3Rd_one_eq, show (⟨#[45]⟩ : ByteArray) = ba [45] from rfl, show (⟨#[40]⟩ : ByteArray) = ba [40] from rfl, show (⟨#[34]⟩ : ByteArray) = ba [34] from rfl, show (⟨#[35]⟩ : ByteArray) = ba [35] from rfl, show (⟨#[41]⟩ : ByteArray) = ba [41] from rfl, itake_ok (by omega), sis_ok (by omega) (by decide) hs2]
    simp only [Option.bind_some, Bool.false_eq_true, if_false, put_id, scall_id, sg_one (c := 45) (.inl rfl), List.length_singleton, Bool.not_false, Bool.true_and, head_pre, ← hb]
    by_cases h45 : (bl l).head? = some 45
    · simp only [h45, decide_true, if_true]
      have hlt := drop1_lt h45
      have hX : (bl l).drop 1 <:+ bl l := drop_suf 1 _
      have hbX := suf_len (bl_suf ((bl l).drop 1))
      have hlX : ((bl l).drop 1).length < (bl l).length := by
        obtain ⟨t, ht⟩ := head_cons h45
        rw [ht]
        simp
      rw [wr (by omega) (by omega), srow5]
      refine rel_bind (ih _ (by omega) _ _ rfl rfl (suf_trans hX hms) (suf_trans hX hms) (by omega) (deep + 1) ns (by omega) (by omega) ho hn) ?_ ?_
      · intro i x1 x2 ns' e1 e2 e3 e4 e5 _
        exact rel_put (x := nNeg i) rfl e1 (suf_trans e2 (suf_trans (bl_suf _) hX)) (suf_trans e3 (suf_trans (bl_suf _) hX)) hms e4 e5
      · intro i x1 b1 ns1 j x2 ns2 e1 e2 e3 e4 e5
        refine rel_doom (tot_put e3) e1 (suf_trans e2 (suf_trans (bl_suf _) hX)) (sadd_bad (x := nNeg j) (ns := ns2) (by omega) eS_big) e4 ?_
        show (ns2 ++ [nNeg j]).length ≤ _
        rw [List.length_append, List.length_singleton]
        omega
    · simp only [h45, decide_false, Bool.false_eq_true, if_false]
      rw [iatom_ok (by omega), sis_ok (by omega) (by decide) hms]
      simp only [Option.bind_some, bl_bl, Bool.not_false, Bool.true_and, head_pre, List.length_singleton]
      by_cases h40 : (bl l).head? = some 40
      · have n34 : ¬ (bl l).head? = some 34 := by rw [h40]; decide
        have n35 : ¬ (bl l).head? = some 35 := by rw [h40]; decide
        simp only [h40, decide_true, if_true]
        rw [if_neg (by decide), if_neg (by decide)]
        have hX : (bl l).drop 1 <:+ bl l := drop_suf 1 _
        have hbX := suf_len (bl_suf ((bl l).drop 1))
        have hlX : ((bl l).drop 1).length < (bl l).length := by
          obtain ⟨t, ht⟩ := head_cons h40
          rw [ht]
          simp
        rw [wr (by omega) (by omega)]
        refine rel_bind (HB _ _ rfl (suf_trans hX hms) (suf_trans hX hms) (by omega) 1 (deep + 1) ns (by decide) (by decide) (by omega) (by omega) ho hn) ?_ ?_
        · intro i x1 x2 ns' e1 e2 e3 e4 e5 _
          have hx1 : x1 <:+ bl l := suf_trans e2 (suf_trans (bl_suf _) hX)
          have hx2 : x2 <:+ bl l := suf_trans e3 (suf_trans (bl_suf _) hX)
          have hlx := suf_len hx1
          simp only [Bool.false_eq_true, if_false]
          rw [itake_ok (by omega), sis_ok (by omega) (by decide) (suf_trans hx2 hms)]
          simp only [Option.bind_some, sg_one (c := 41) (.inr (.inr (.inl rfl))), List.length_singleton, Bool.not_false, Bool.true_and, head_pre, ← e1]
          by_cases h41 : (bl x1).head? = some 41
          · simp only [h41, decide_true, if_true, Bool.not_true, Bool.false_eq_true, if_false]
            have hd1 : (bl x1).drop 1 <:+ bl l := suf_trans (drop1_suf x1) hx1
            exact .inl ⟨i, (bl x1).drop 1, (bl x1).drop 1, ns', rfl, rfl, rfl, hd1, hd1, e4, e5, .inr (lv_lt _)⟩
          · simp only [h41, decide_false, if_false, Bool.not_false, Bool.false_eq_true, if_true]
            have hd1 : bl x1 <:+ bl l := suf_trans (bl_suf x1) hx1
            exact sbad_rel (dmb e4) hd1 e5 (suf_trans hd1 hms) (by omega)
        · intro i x1 b1 ns1 j x2 ns2 e1 e2 e3 e4 e5
          have hx1 : x1 <:+ bl l := suf_trans e2 (suf_trans (bl_suf _) hX)
          have hlx := suf_len hx1
          rw [sis_ok (by omega) (by decide) e4]
          simp only [Option.bind_some, Bool.not_true, Bool.false_and, Bool.false_eq_true, if_false, Bool.not_false, if_true]
          cases b1 with
          | true =>
            simp only [if_true]
            exact sbad_rel ⟨.inl rfl, e1.2⟩ hx1 e3 (suf_trans (bl_suf x2) e4) (by omega)
          | false =>
            simp only [Bool.false_eq_true, if_false]
            rw [itake_ok (by omega)]
            simp only [Option.bind_some]
            have hdm : okAll ns1 = false := e1.1.elim (fun h => by cases h) id
            refine sbad_rel ⟨.inr hdm, e1.2⟩ ?_ e3 (suf_trans (bl_suf x2) e4) (by omega)
            split
            · exact suf_trans (suf_trans (drop_suf _ _) (bl_suf _)) hx1
            · exact suf_trans (bl_suf _) hx1
      · simp only [h40, decide_false, Bool.false_eq_true, if_false]
        rw [sis_ok (by omega) (by decide) hms]
        simp only [Option.bind_some, bl_bl, Bool.not_false, Bool.true_and, head_pre, List.length_singleton]
        by_cases h34 : (bl l).head? = some 34
        · simp only [h34, decide_true, if_true]
          obtain ⟨t, ht⟩ := head_cons h34
          have htl : t.length + 1 = (bl l).length := by rw [ht]; simp
          have hts : t <:+ bl l := ⟨[34], by rw [ht]; rfl⟩
          rw [ht]
          simp only [List.drop_succ_cons, List.drop_zero]
          rw [iquoted_ok (by omega), stext_ok (by omega) (suf_trans hts hms)]
          cases hq : qt t with
          | none =>
            rw [← ht]
            exact sbad_rel (dmb ho) (suf_refl _) hn ⟨s, by simp⟩ (by omega)
          | some p =>
            obtain ⟨q1, q2, q3⟩ := qt_suf t p.1 p.2 hq
            show Rel s _ 5 (ireader_constant _ _ false ns) (sl3Rd_add _ _ _ false ns)
            rw [const_put, ← ht]
            have hp := suf_trans q1 hts
            refine rel_put (x := nC (2, 0, ba ([] ++ p.1), ())) (smC ?_) rfl hp hp hms ho hn
            show (ba ([] ++ p.1)).size ≤ _
            rw [size_ba]
            simp only [List.nil_append]
            omega
        · simp only [h34, decide_false, Bool.false_eq_true, if_false]
          rw [sis_ok (by omega) (by decide) hms]
          simp only [Option.bind_some, bl_bl, Bool.not_false, Bool.true_and, head_pre, List.length_singleton]
          by_cases h35 : (bl l).head? = some 35
          · simp only [h35, decide_true, if_true]
            obtain ⟨t, ht⟩ := head_cons h35
            have htl : t.length + 1 = (bl l).length := by rw [ht]; simp
            have hts : t <:+ bl l := ⟨[35], by rw [ht]; rfl⟩
            rw [ht]
            simp only [List.drop_succ_cons, List.drop_zero]
            have es := serr_loop (s := s) (l := t) (b := false) (ns := ns) (by omega) (suf_trans hts hms) erK [] rfl
            have es : sl3Rd_one_p13 1 (ba s) (at' s t) false ns = _ := es
            rw [ierr_ok (by omega), es]
            cases erK.find? (erP t) with
            | none =>
              simp only
              rw [← ht]
              exact sbad_rel (dmb ho) (suf_refl _) hn (suf_trans hts hms) (by omega)
            | some e =>
              simp only
              rw [const_put, ← ht]
              have hp := suf_trans (drop_suf (erT e).length t) hts
              exact rel_put (x := nC (vE e)) (smC (by show eS.size ≤ _; decide)) rfl hp hp hms ho hn
          · simp only [h35, decide_false, Bool.false_eq_true, if_false]
            exact rel_word hs HB (bl_bl l) hms hln hd0 hd ho hn
end Go.Proofs.YtiligfmembmapaaGreatDoor.Abs
/- Plain laws: both readers of formulas are one. -/
set_option linter.unusedVariables false
set_option linter.unusedSimpArgs false
set_option linter.unusedSectionVars false
namespace Go.Proofs.YtiligfmembmapaaGreatDoor.Abs
open Go

/-! ### The levels, one behind the other -/
noncomputable def sCh : Nat → Int → (Int × Unit) × (ds_l3Rd × Unit) → RS
  | 0, _, z => some ((z.1.1, ()), (z.2.1, ()))
  | c + 1, L, z => (sl3Rd_row_p6 (L + (c : Int)) z.1.1 z.2.1.1 z.2.1.2.1 z.2.1.2.2.1 z.2.1.2.2.2.1).bind (sCh c L)
theorem sp6_bad {L a : Int} {s : ByteArray} {i : Int} {ns : List dFNode} : sl3Rd_row_p6 L a s i true ns = some ((a, ()), ((s, i, true, ns, ()), ())) := by
  rw [sl3Rd_row_p6_eq]
  rfl
theorem sCh_bad : ∀ (c : Nat) (L a : Int) (s : ByteArray) (i : Int) (ns : List dFNode), sCh c L ((a, ()), ((s, i, true, ns, ()), ())) = some ((a, ()), ((s, i, true, ns, ()), ()))
  | 0, _, _, _, _, _ => rfl
  | c + 1, L, a, s, i, ns => by
    show (sl3Rd_row_p6 _ a s i true ns).bind (sCh c L) = _
    rw [sp6_bad]
    exact sCh_bad c L a s i ns
theorem sCh_snoc : ∀ (c : Nat) (L : Int) (z : (Int × Unit) × (ds_l3Rd × Unit)), sCh (c + 1) L z = (sCh c (L + 1) z).bind fun z2 => sl3Rd_row_p6 L z2.1.1 z2.2.1.1 z2.2.1.2.1 z2.2.1.2.2.1 z2.2.1.2.2.2.1
  | 0, L, z => by
    show (sl3Rd_row_p6 (L + ((0 : Nat) : Int)) z.1.1 z.2.1.1 z.2.1.2.1 z.2.1.2.2.1 z.2.1.2.2.2.1).bind (fun z => some ((z.1.1, ()), (z.2.1, ()))) = sl3Rd_row_p6 L z.1.1 z.2.1.1 z.2.1.2.1 z.2.1.2.2.1 z.2.1.2.2.2.1
    rw [scall_id, show L + ((0 : Nat) : Int) = L by omega]
  | c + 1, L, z => by
    show (sl3Rd_row_p6 (L + ((c + 1 : Nat) : Int)) z.1.1 z.2.1.1 z.2.1.2.1 z.2.1.2.2.1 z.2.1.2.2.2.1).bind (sCh (c + 1) L) = ((sl3Rd_row_p6 (L + 1 + (c : Int)) z.1.1 z.2.1.1 z.2.1.2.1 z.2.1.2.2.1 z.2.1.2.2.2.1).bind (sCh c (L + 1))).bind _
    rw [show L + ((c + 1 : Nat) : Int) = L + 1 + (c : Int) by omega, Option.bind_assoc]
    congr 1
    funext y
    exact sCh_snoc c L y
theorem srow_chain {s : ByteArray} {a : Int} {ns : List dFNode} : ∀ (c : Nat) (L : Int), L + (c : Int) = 5 → 1 ≤ L → sl3Rd_row L s a false ns = (sl3Rd_row 5 s a false ns).bind (sCh c L)
  | 0, L, h, _ => by
    have : L = 5 := by omega
    subst this
    exact scall_id.symm
  | c + 1, L, h, h1 => by
    have hL : ¬ (L == 5) = true := by simp only [beq_iff_eq]; omega
    rw [sl3Rd_row_eq, if_neg (by decide), if_neg hL, wr (by omega) (by omega), srow_chain c (L + 1) (by omega) (by omega), Option.bind_assoc]
    congr 1
    funext z
    exact (sCh_snoc c L z).symm
abbrev nB (op a b : Int) : dFNode := (5, op, (0, 0, (⟨#[]⟩ : ByteArray), ()), ((0, 0, ()), false, false, ()), ((0, 0, ()), false, false, ()), ([a, b] : (List Int)), ())
theorem put_bind {s m' l1 l2 : Bys} {L' : Int} {x : dFNode} {ns : List dFNode} {K : (Int × Unit) × (dreader × Unit) → RI} {K' : (Int × Unit) × (ds_l3Rd × Unit) → RS} (hsx : smN x = true) (ho : okAll ns = true) (hn : ns.length ≤ 60)
    (hg : okAll (ns ++ [x]) = true → (ns ++ [x]).length ≤ 60 → Rel s m' L' (K (((ns.length : Int), ()), ((ba l1, ns ++ [x], false, ()), ()))) (K' (((ns.length : Int), ()), ((ba s, at' s l2, false, ns ++ [x], ()), ()))))
    (hd : ∀ (i : Int) (b1 : Bool) (ns1 : List dFNode), Dm b1 ns1 → ns1.length ≤ 60 → Rel s m' L' (K ((i, ()), ((ba l1, ns1, b1, ()), ()))) (K' (((ns.length : Int), ()), ((ba s, at' s l2, true, ns ++ [x], ()), ())))) :
    Rel s m' L' ((ireader_put x (ba l1) false ns).bind K) ((sl3Rd_add x (ba s) (at' s l2) false ns).bind K') := by
  have hx := sm_big hsx
  obtain ⟨i, e, hi⟩ := iput_ok (x := x) (l := l1) (b := false) hn
  rw [e, sadd_ok (by omega) hx]
  simp only [Option.bind_some]
  by_cases hlt : ns.length < 60
  · have hi := hi rfl hlt
    subst hi
    have d60 : decide (60 ≤ ns.length) = false := decide_eq_false (by omega)
    simp only [d60, hlt, and_self, if_true, Bool.false_or]
    cases hk : okNode x with
    | true =>
      refine hg ?_ ?_
      · unfold okAll at ho ⊢
        rw [List.all_append, ho]
        simp [hk]
      · rw [List.length_append, List.length_singleton]; omega
    | false =>
      refine hd _ false (ns ++ [x]) ⟨.inr ?_, sm_snoc (smOf ho) hsx⟩ ?_
      · unfold okAll
        rw [List.all_append]
        simp [hk]
      · rw [List.length_append, List.length_singleton]; omega
  · have d60 : decide (60 ≤ ns.length) = true := decide_eq_true (by omega)
    rw [d60, if_neg (by omega)]
    simp only [Bool.false_or, Bool.true_or]
    exact hd i true ns (dmb ho) hn
theorem rel_loop {s : Bys} (hs : s.length ≤ 200) {n : Nat} (HB : PBs s n) : ∀ (k c : Nat) (l1 l2 M : Bys), (bl l1).length = k → bl l1 = bl l2 → l1 <:+ M → l2 <:+ M → M <:+ s → (bl l1).length ≤ n → ∀ (L left deep : Int) (ns : List dFNode), 1 ≤ L → L + (c : Int) ≤ 5 → 0 ≤ deep → deep + ((bl l1).length : Int) ≤ 200 → okAll ns = true → ns.length ≤ 60 → (opL (bl l1) = 0 ∨ lvI (opL (bl l1)) < L + (c : Int)) →
    Rel s M L (ireader_binary_p2 L deep left (ba l1) false ns) (sCh c L ((left, ()), ((ba s, at' s l2, false, ns, ()), ()))) := by
  intro k
  induction k using Nat.strongRecOn with
  | ind k ih =>
    intro c
    induction c with
    | zero =>
      intro l1 l2 M hk hb hs1 hs2 hMs hln L left deep ns hL0 hL1 hd0 hd ho hn hpost
      have hl1 := suf_len (suf_trans hs1 hMs)
      have hbl := suf_len (bl_suf l1)
      obtain ⟨o1, o2⟩ := opL_range (bl l1)
      rw [ireader_binary_p2_eq]
      simp only [Bool.not_false, if_true]
      rw [ibin_ops (by omega), ibin_12 o1 o2 (by omega) (fun h => by rw [bl_bl]; exact opL_text h), if_pos (by omega)]
      refine .inl ⟨left, bl l1, l2, ns, rfl, rfl, by rw [bl_bl, hb], suf_trans (bl_suf l1) hs1, hs2, ho, hn, ?_⟩
      rw [bl_bl]
      omega
    | succ c ihc =>
      intro l1 l2 M hk hb hs1 hs2 hMs hln L left deep ns hL0 hL1 hd0 hd ho hn hpost
      have hl1 := suf_len (suf_trans hs1 hMs)
      have hbl := suf_len (bl_suf l1)
      have hs2s := suf_trans hs2 hMs
      obtain ⟨o1, o2⟩ := opL_range (bl l1)
      obtain ⟨l', hl', eop⟩ := sop_ok (s := s) (l := l2) (ns := ns) (L := L + (c : Int)) (by omega) (by omega) hs2s
      have hCh : sCh (c + 1) L ((left, ()), ((ba s, at' s l2, false, ns, ()), ())) = (sl3Rd_row_p6 (L + (c : Int)) left (ba s) (at' s l2) false ns).bind (sCh c L) := rfl
      rw [hCh, sl3Rd_row_p6_eq]
      simp only [Bool.not_false, if_true]
      rw [eop, ← hb]
      by_cases hop : opL (bl l1) ≠ 0 ∧ lvI (opL (bl l1)) = L + (c : Int)
      · rw [if_pos hop]
        have h0 : ¬ (opL (bl l1) == 0) = true := by simpa using hop.1
        unfold opRes
        simp only [Option.bind_some]
        rw [if_neg h0, ← hb, wr (by omega) (by omega)]
        have hlt := opdrop hop.1
        have hX : (bl l1).drop (opT (opL (bl l1))).length <:+ M := suf_trans (drop_suf _ _) (suf_trans (bl_suf l1) hs1)
        have hXM := suf_len hX
        have hXl : ((bl l1).drop (opT (opL (bl l1))).length).length < (bl l1).length := by
          have := opdrop (l := bl l1) (by rw [bl_bl]; exact hop.1)
          rw [bl_bl] at this
          exact this
        have hbX := suf_len (bl_suf ((bl l1).drop (opT (opL (bl l1))).length))
        rw [ireader_binary_p2_eq]
        simp only [Bool.not_false, if_true]
        rw [ibin_ops (by omega), ibin_12 o1 o2 (by omega) (fun h => by rw [bl_bl]; exact opL_text h), if_neg (by omega), bl_bl, hop.2, Option.bind_assoc]
        have hMl : (bl l1).length ≤ M.length := suf_len (suf_trans (bl_suf l1) hs1)
        refine rel_bind (HB _ _ rfl (suf_trans hX hMs) (suf_trans hX hMs) (by omega) (L + (c : Int) + 1) deep ns (by omega) (by omega) hd0 (by omega) ho hn) ?_ ?_
        · intro i x1 x2 ns' e1 e2 e3 e4 e5 e6
          have hx1 : x1 <:+ M := suf_trans e2 (suf_trans (bl_suf _) hX)
          have hx2 : x2 <:+ M := suf_trans e3 (suf_trans (bl_suf _) hX)
          have hxl := suf_len e2
          have hbx := suf_len (bl_suf x1)
          have hxM := suf_len hx1
          have hMsl := suf_len hMs
          simp only
          rw [Option.bind_assoc]
          refine put_bind (x := nB (opL (bl l1)) left i) rfl e4 e5 ?_ ?_
          · intro a1 a2
            exact ih _ (by omega) (c + 1) x1 x2 M rfl e1 hx1 hx2 hMs (by omega) L _ deep _ hL0 hL1 hd0 (by omega) a1 a2 (by omega)
          · intro i2 b1 ns1 a1 a2
            simp only
            rw [sp6_bad]
            simp only [Option.bind_some]
            rw [sCh_bad]
            refine rel_doom (tot_bin2 _ x1 rfl (fun l' _ deep least b ns d0 d1 hn => tot_all l' deep least b ns d0 d1 hn) L deep i2 b1 ns1 hd0 (by omega) a2) a1 hx1 rfl (suf_trans hx2 hMs) ?_
            rw [List.length_append, List.length_singleton]
            omega
        · intro i x1 b1 ns1 j x2 ns2 e1 e2 e3 e4 e5
          have hx1 : x1 <:+ M := suf_trans e2 (suf_trans (bl_suf _) hX)
          have hxM := suf_len hx1
          have hMsl := suf_len hMs
          simp only
          rw [sadd_bad (x := nB (opL (bl l1)) left j) (ns := ns2) (by omega) eS_big]
          simp only [Option.bind_some]
          rw [sp6_bad]
          simp only [Option.bind_some]
          rw [sCh_bad]
          obtain ⟨i3, l3, b3, ns3, h3, j1, j2, j3⟩ := (tot_put (x := nB (opL (bl l1)) left i) (l := x1) (b := b1) e3).dm e1
          rw [h3]
          simp only [Option.bind_some]
          have hs3 := suf_len j1
          refine rel_doom (tot_bin2 _ l3 rfl (fun l' _ deep least b ns d0 d1 hn => tot_all l' deep least b ns d0 d1 hn) L deep i3 b3 ns3 hd0 (by omega) j3) j2 (suf_trans j1 hx1) rfl e4 ?_
          rw [List.length_append, List.length_singleton]
          omega
      · rw [if_neg hop]
        unfold opRes
        simp only [Option.bind_some]
        rw [if_pos (by rfl)]
        simp only [Option.bind_some]
        have hb' : bl l1 = bl l' := by
          rcases hl' with rfl | rfl
          · exact hb
          · rw [bl_bl, hb]
        have hs' : l' <:+ M := by
          rcases hl' with rfl | rfl
          · exact hs2
          · exact suf_trans (bl_suf l2) hs2
        exact ihc l1 l' M hk hb' hs1 hs' hMs hln L left deep ns hL0 (by omega) hd0 hd ho hn (by omega)
theorem PB_all {s : Bys} (hs : s.length ≤ 200) : ∀ n, PBs s n
  | 0 => fun l l0 _ _ _ h => by omega
  | n + 1 => by
    have HB := PB_all hs n
    intro l l0 hb hs1 hs2 hln L deep ns hL0 hL1 hd0 hd ho hn
    have hms : bl l <:+ s := suf_trans (bl_suf l) hs1
    have hm := suf_len hms
    rw [ireader_binary_eq, srow_chain (5 - L).toNat L (by omega) hL0, srow5]
    refine rel_bind (rel_unary hs HB _ l l0 rfl hb hs1 hs2 (by omega) deep ns hd0 hd ho hn) ?_ ?_
    · intro i x1 x2 ns' e1 e2 e3 e4 e5 _
      have hbx := suf_len (bl_suf x1)
      have hx := suf_len e2
      exact rel_loop hs HB _ (5 - L).toNat x1 x2 (bl l) rfl e1 e2 e3 hms (by omega) L i deep ns' hL0 (by omega) hd0 (by omega) e4 e5 (.inr (by have := lv_lt (opL (bl x1)); omega))
    · intro i x1 b1 ns1 j x2 ns2 e1 e2 e3 e4 e5
      have hx := suf_len e2
      rw [sCh_bad]
      exact rel_doom (tot_bin2 _ x1 rfl (fun l' _ deep least b ns d0 d1 hn => tot_all l' deep least b ns d0 d1 hn) L deep i b1 ns1 hd0 (by omega) e3) e1 e2 rfl e4 e5
theorem sm_s {ns : List dFNode} (h : sm ns = true) : ∀ x ∈ ns, x.2.2.1.2.2.1.size ≤ 9223372036854775807 := by
  unfold sm at h
  rw [List.all_eq_true] at h
  exact fun x hx => sm_big (h x hx)
theorem sm_k {ns : List dFNode} (h : sm ns = true) : ∀ x ∈ ns, x.2.2.2.2.2.1.length ≤ 10000000 := by
  unfold sm at h
  rw [List.all_eq_true] at h
  intro x hx
  have := h x hx
  unfold smN at this
  rw [Bool.and_eq_true, decide_eq_true_eq, decide_eq_true_eq] at this
  omega
/-! ### Formulas -/
theorem at_0 (s : Bys) : at' s s = 0 := by
  unfold at'
  omega
/-- What both read. -/
theorem readF {x : ByteArray} (hx : x.size ≤ 9223372036854775807) : ∃ (f : List dFNode) (b : Bool), sReadFormula x = some ((f, b, ()), ()) ∧ iReadFormula x = some ((f, b, ()), ()) ∧ (b = true → okF f = true) ∧ (b = false → f = []) := by
  obtain ⟨s, rfl⟩ : ∃ s, x = ba s := ⟨lb x, (ba_lb x).symm⟩
  rw [sReadFormula_eq, iReadFormula_eq, sl2Plain_ok hx, iisText_ok hx]
  simp only [Option.bind_some]
  cases hp : (plain (ba s) && decide (((ba s).size : Int) ≤ 200)) with
  | false => exact ⟨[], false, rfl, rfl, (fun h => by cases h), fun _ => rfl⟩
  | true =>
    rw [Bool.and_eq_true, decide_eq_true_eq, size_ba] at hp
    have hs : s.length ≤ 200 := by omega
    have hbl := suf_len (bl_suf s)
    have h := PB_all hs (s.length + 1) s s rfl (suf_refl s) (suf_refl s) (by omega) 1 0 [] (by decide) (by decide) (by decide) (by omega) rfl (by simp)
    rw [at_0] at h
    simp only [Bool.not_true, Bool.false_eq_true, if_false]
    rcases h with ⟨i, l1, l2, ns, e1, e2, h1, h2, h3, h4, h5, h6⟩ | ⟨i, l1, b1, ns1, j, l2, ns2, e1, h1, h2, h3, e2, h4, h5⟩
    · rw [e1, e2]
      simp only [Option.bind_some]
      rw [sblk (by omega) (suf_trans h3 (bl_suf s)), iblanks_ok]
      simp only [Option.bind_some, Bool.false_eq_true, if_false]
      have e0 : (ByteArray.toList (ba (bl l1)) == ByteArray.toList (⟨#[]⟩ : ByteArray)) = decide (bl l1 = []) := eqS_ba (b := [])
      rw [e0, ← h1, size_ba, iFormulaOk_ok (by omega) (sm_s (smOf h4)) (sm_k (smOf h4)), sFormulaOk_ok (by omega) (sm_s (smOf h4)) (sm_k (smOf h4))]
      simp only [Option.bind_some]
      by_cases hr : bl l1 = []
      · rw [ifF (by rw [hr]; unfold at'; simp), hr]
        simp only [decide_true, Bool.not_true, Bool.false_eq_true, if_false]
        cases hk : okF ns with
        | true => exact ⟨ns, true, rfl, rfl, fun _ => hk, fun h => by cases h⟩
        | false => exact ⟨[], false, rfl, rfl, (fun h => by cases h), fun _ => rfl⟩
      · have hlen := List.length_pos_iff.2 hr
        have hls := suf_len (suf_trans (suf_trans (bl_suf l1) h2) (bl_suf s))
        rw [ifT (by unfold at'; omega)]
        simp only [hr, decide_false, Bool.not_false, if_true]
        exact ⟨[], false, rfl, rfl, (fun h => by cases h), fun _ => rfl⟩
    · rw [e1, e2]
      simp only [Option.bind_some]
      rw [sblk (by omega) h4, iblanks_ok]
      simp only [Option.bind_some, if_true]
      refine ⟨[], false, rfl, ?_, (fun h => by cases h), fun _ => rfl⟩
      cases b1 with
      | true => rfl
      | false =>
        have hbad : okAll ns1 = false := h1.1.elim (fun h => by cases h) id
        simp only [Bool.false_eq_true, if_false]
        split
        · rfl
        · rw [iFormulaOk_ok (by omega) (sm_s h1.2) (sm_k h1.2)]
          simp only [Option.bind_some]
          cases hk : okF ns1 with
          | false => rfl
          | true =>
            exfalso
            have : okAll ns1 = true := by
              unfold okAll
              rw [List.all_eq_true]
              intro y hy
              obtain ⟨i, hi⟩ := List.getElem?_of_mem hy
              exact (okF_stands hk i y hi).1
            rw [this] at hbad
            cases hbad
end Go.Proofs.YtiligfmembmapaaGreatDoor.Abs
/- Plain laws: a formula's text. -/
set_option linter.unusedVariables false
set_option linter.unusedSimpArgs false
set_option linter.unusedSectionVars false
namespace Go.Proofs.YtiligfmembmapaaGreatDoor.Abs
open Go

/-! ### Quotes -/
/-- Each quote twice. -/
def qT : Bys → Bys
  | [] => []
  | c :: l => if c = 34 then 34 :: 34 :: qT l else c :: qT l
theorem qT_len : ∀ l : Bys, (qT l).length ≤ 2 * l.length
  | [] => by simp [qT]
  | c :: l => by
    have := qT_len l
    unfold qT
    split <;> simp only [List.length_cons] <;> omega
theorem qT_pre (l : Bys) : ∀ pre : Bys, (34 : UInt8) ∉ pre → qT (pre ++ l) = pre ++ qT l
  | [], _ => rfl
  | c :: pre, h => by
    simp only [List.mem_cons, not_or] at h
    rw [List.cons_append, qT, if_neg (fun e => h.1 e.symm), qT_pre l pre h.2]
    rfl
theorem replace_qT : ∀ (n : Nat) (l : Bys), l.length = n → Lib.replaceK [34] [34, 34] (l.count 34) l = qT l := by
  intro n
  induction n using Nat.strongRecOn with
  | ind n ih =>
    intro l hn
    by_cases hm : (34 : UInt8) ∈ l
    · obtain ⟨pre, t, rfl, h2⟩ := split_at 34 l hm
      have hc : (pre ++ 34 :: t).count 34 = t.count 34 + 1 := by
        rw [List.count_append, List.count_eq_zero.2 h2, List.count_cons_self]
        omega
      have hi : Lib.index (pre ++ 34 :: t) [34] = (pre.length : Nat) := by rw [Lib.index_one, ixB_hit 34 t pre h2]
      rw [hc, Lib.replaceK_hit _ _ _ _ _ hi, List.take_left' rfl, qT_pre _ pre h2]
      have hd : (pre ++ 34 :: t).drop (pre.length + ([34] : Bys).length) = t := by
        have : pre ++ 34 :: t = (pre ++ [34]) ++ t := by simp
        rw [this, List.drop_left' (by simp)]
      rw [hd, ih t.length (by rw [← hn]; simp; omega) t rfl]
      simp [qT]
    · rw [List.count_eq_zero.2 hm]
      have := qT_pre [] l hm
      rw [List.append_nil] at this
      rw [this]
      simp [qT, Lib.replaceK]
/-! ### Nodes -/
/-- Texts with commas between. -/
def commas : List Bys → Bys
  | [] => []
  | [x] => x
  | x :: y :: l => x ++ 44 :: commas (y :: l)
def ftx (f : List dFNode) : Nat → Int → Int → Bys
  | 0, _, _ => []
  | n + 1, k, L =>
    let x := nodeAt f k
    if x.1 = 1 then (if x.2.2.1.1 = 2 then 34 :: (qT (lb x.2.2.1.2.2.1) ++ [34]) else lb (valT x.2.2.1))
    else if x.1 = 2 then plT x.2.2.2.1
    else if x.1 = 3 then plT x.2.2.2.1 ++ 58 :: plT x.2.2.2.2.1
    else if x.1 = 4 then 45 :: ftx f n (x.2.2.2.2.2.1.getD 0 0) 5
    else if x.1 = 5 then
      let b := ftx f n (x.2.2.2.2.2.1.getD 0 0) (lvI x.2.1) ++ (opT x.2.1 ++ ftx f n (x.2.2.2.2.2.1.getD 1 0) (lvI x.2.1 + 1))
      if lvI x.2.1 < L then 40 :: (b ++ [41]) else b
    else fnT x.2.1 ++ 40 :: (commas (x.2.2.2.2.2.1.map fun k => ftx f n k 1) ++ [41])
end Go.Proofs.YtiligfmembmapaaGreatDoor.Abs
/- Plain laws: the texts of formulas of both sides are one. -/
set_option linter.unusedVariables false
set_option linter.unusedSimpArgs false
set_option linter.unusedSectionVars false
namespace Go.Proofs.YtiligfmembmapaaGreatDoor.Abs
open Go

theorem commas_join : ∀ l : List Bys, commas l = Lib.join l [44]
  | [] => rfl
  | [x] => by rw [Lib.join_one]; rfl
  | x :: y :: l => by
    rw [commas, commas_join (y :: l), Lib.join_cons, Lib.join_cons]
    simp [Lib.joinTail]
theorem commas_snoc (x : Bys) : ∀ (l : List Bys), l ≠ [] → commas (l ++ [x]) = commas l ++ 44 :: x
  | [y], _ => rfl
  | y :: z :: l, _ => by
    show y ++ 44 :: commas (z :: l ++ [x]) = (y ++ 44 :: commas (z :: l)) ++ 44 :: x
    rw [commas_snoc x (z :: l) (by simp)]
    simp
theorem commas_len : ∀ l : List Bys, (commas l).length ≤ (l.map List.length).sum + l.length
  | [] => by simp [commas]
  | [x] => by simp [commas]
  | x :: y :: l => by
    have := commas_len (y :: l)
    simp only [commas, List.length_append, List.length_cons, List.map_cons, List.sum_cons] at this ⊢
    omega
theorem plT_len {p : dPlace} (h : okRef p.1 = true) : (plT p).length ≤ 6 := by
  obtain ⟨c, r, fc, fr, rfl, h1, h2, h3, h4⟩ := place_nat h
  have k1 := colT_len c
  have k2 := decDig_len h4
  show (plN c r fc fr).length ≤ 6
  unfold plN fixT
  simp only [List.length_append]
  cases fc <;> cases fr <;> simp <;> omega
theorem fnT_len (k : Int) : (fnT k).length ≤ 5 := by
  unfold fnT
  by_cases hi : k.toNat < 11
  · have h : ∀ j : Fin 11, (([[], [83, 85, 77], [77, 73, 78], [77, 65, 88], [67, 79, 85, 78, 84], [73, 70], [65, 78, 68], [79, 82], [78, 79, 84], [65, 66, 83], [76, 69, 78]] : List Bys).getD j.val []).length ≤ 5 := by decide
    exact h ⟨k.toNat, hi⟩
  · rw [List.getD_eq_getElem?_getD, List.getElem?_eq_none (by simp; omega)]
    simp
/-- Kids stand one behind the other. -/
theorem kids_sum {c : Int → Option (Int × Nat)} {f : List dFNode} {call : Bool} : ∀ (l : List Int) (cur : Int) (h : Nat) (s : Int) (h' : Nat), kidsC c f call l cur h = some (s, h') →
    (∀ kid ∈ l, ∃ p, c kid = some p) ∧ ∀ g : Int → Nat, (∀ kid s' h'', c kid = some (s', h'') → (g kid : Int) ≤ 1000 * (kid - s' + 1)) → (((l.map g).sum : Nat) : Int) ≤ 1000 * (cur - s)
  | [], cur, h, s, h', e => by
    simp only [kidsC, Option.some.injEq, Prod.mk.injEq] at e
    obtain ⟨rfl, _⟩ := e
    exact ⟨fun _ h => by simp at h, fun g _ => by simp⟩
  | kid :: l, cur, h, s, h', e => by
    simp only [kidsC] at e
    split at e
    · rename_i hk
      rw [Option.bind_eq_some_iff] at e
      obtain ⟨p, hp, e⟩ := e
      obtain ⟨k1, k2⟩ := kids_sum l p.1 _ s h' e
      refine ⟨fun kid' hm => ?_, fun g hg => ?_⟩
      · rcases List.mem_cons.1 hm with rfl | hm
        · exact ⟨p, hp⟩
        · exact k1 kid' hm
      · have h1 := k2 g hg
        have h2 := hg kid p.1 p.2 hp
        have := hk.1
        simp only [List.map_cons, List.sum_cons]
        omega
    · cases e
section
variable {f : List dFNode}
theorem ftx_01 (n : Nat) (k : Int) : ftx f n k 0 = ftx f n k 1 := by
  cases n with
  | zero => rfl
  | succ n =>
    have hlv : ∀ j, ¬ lvI j < 0 ∧ ¬ lvI j < 1 := by
      intro j
      unfold lvI
      constructor <;> (repeat' split) <;> omega
    unfold ftx
    simp only [(hlv _).1, (hlv _).2, if_false]
end
end Go.Proofs.YtiligfmembmapaaGreatDoor.Abs
/- Plain laws: FormulaText of both sides is one. -/
set_option linter.unusedVariables false
set_option linter.unusedSimpArgs false
set_option linter.unusedSectionVars false
namespace Go.Proofs.YtiligfmembmapaaGreatDoor.Abs
open Go

section
variable {f : List dFNode}
theorem two_of {l : List Int} (h : l.length = 2) : ∃ a b, l = [a, b] := by
  match l, h with
  | [a, b], _ => exact ⟨a, b, rfl⟩
theorem opT_range {op : Int} (h : inB op 1 11 = true) : 1 ≤ op ∧ op ≤ 11 := inB_iff.1 h
end
end Go.Proofs.YtiligfmembmapaaGreatDoor.Abs
