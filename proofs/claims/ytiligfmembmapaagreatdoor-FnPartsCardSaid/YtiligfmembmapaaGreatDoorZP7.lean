/- Plain laws: a right formula's text: how it begins, where its words end, what is put behind. -/
import Derived.Test.YtiligfmembmapaaGreatDoorZP3
set_option linter.unusedVariables false
set_option linter.unusedSimpArgs false
set_option linter.unusedSectionVars false
namespace Go.Proofs.YtiligfmembmapaaGreatDoor.Abs
open Go

/-! ### Where a word ends -/
def stC (c : UInt8) : Bool := decide (c = 43) || decide (c = 45) || decide (c = 42) || decide (c = 47) || decide (c = 38) || decide (c = 61) || decide (c = 60) || decide (c = 62) || decide (c = 41) || decide (c = 44)
def stB : Bys → Bool
  | [] => true
  | c :: _ => stC c
theorem stC_all (c : UInt8) : stC c = true → wdB c = false ∧ c ≠ 32 ∧ c ≠ 34 ∧ c ≠ 58 ∧ c ≠ 40 ∧ spB c = false :=
  all8 (p := fun c => stC c = true → wdB c = false ∧ c ≠ 32 ∧ c ≠ 34 ∧ c ≠ 58 ∧ c ≠ 40 ∧ spB c = false) (by decide +kernel) c
theorem st_bl {r : Bys} (h : stB r = true) : bl r = r := by
  cases r with
  | nil => rfl
  | cons c t => exact List.dropWhile_cons_of_neg (by rw [(stC_all c h).2.2.2.2.2]; decide)
theorem st_wd {r : Bys} (h : stB r = true) : r.takeWhile wdB = [] ∧ r.dropWhile wdB = r := by
  cases r with
  | nil => exact ⟨rfl, rfl⟩
  | cons c t =>
    have := (stC_all c h).1
    exact ⟨List.takeWhile_cons_of_neg (by rw [this]; decide), List.dropWhile_cons_of_neg (by rw [this]; decide)⟩
theorem st_hd {r : Bys} (h : stB r = true) : r.head? ≠ some 34 ∧ r.head? ≠ some 58 ∧ r.head? ≠ some 32 := by
  cases r with
  | nil => exact ⟨by decide, by decide, by decide⟩
  | cons c t =>
    obtain ⟨_, h1, h2, h3, _⟩ := stC_all c h
    simp only [List.head?_cons, ne_eq, Option.some.injEq]
    exact ⟨h2, h3, h1⟩
theorem word_app' {w r : Bys} (hw : w.all wdB = true) (h : r.takeWhile wdB = [] ∧ r.dropWhile wdB = r) : (w ++ r).takeWhile wdB = w ∧ (w ++ r).dropWhile wdB = r := by
  rw [List.all_eq_true] at hw
  obtain ⟨h1, h2⟩ := h
  rw [List.takeWhile_append_of_pos hw, List.dropWhile_append_of_pos hw, h1, h2, List.append_nil]
  exact ⟨rfl, rfl⟩
theorem word_app {w r : Bys} (hw : w.all wdB = true) (h : stB r = true) : (w ++ r).takeWhile wdB = w ∧ (w ++ r).dropWhile wdB = r := word_app' hw (st_wd h)
theorem op_hd {op : Int} (h0 : 1 ≤ op) (h1 : op ≤ 11) (t : Bys) : stB (opT op ++ t) = true := by
  have : ∀ k : Fin 12, 1 ≤ k.val → (match opT (k.val : Int) with | [] => false | c :: _ => stC c) = true := by decide +kernel
  have h := this ⟨op.toNat, by omega⟩ (by simp only; omega)
  simp only [Int.toNat_of_nonneg (show 0 ≤ op by omega)] at h
  cases ho : opT op with
  | nil => rw [ho] at h; cases h
  | cons c l =>
    rw [ho] at h
    exact h
/-- How the text of a formula begins. -/
def hdB (c : UInt8) : Bool := wdB c || decide (c = 34) || decide (c = 35) || decide (c = 40) || decide (c = 45)
theorem hdB_all (c : UInt8) : hdB c = true → c ≠ 32 ∧ c ≠ 61 ∧ c ≠ 62 ∧ spB c = false :=
  all8 (p := fun c => hdB c = true → c ≠ 32 ∧ c ≠ 61 ∧ c ≠ 62 ∧ spB c = false) (by decide +kernel) c
def hdT : Bys → Bool
  | [] => false
  | c :: _ => hdB c
theorem hd_bl {m : Bys} (h : hdT m = true) : bl m = m := by
  cases m with
  | nil => cases h
  | cons c t => exact List.dropWhile_cons_of_neg (by rw [(hdB_all c h).2.2.2]; decide)
theorem hd_app2 {m : Bys} (h : hdT m = true) (r : Bys) : hdT (m ++ r) = true := by
  cases m with
  | nil => cases h
  | cons c t => exact h
theorem opL_at {op : Int} (h0 : 1 ≤ op) (h1 : op ≤ 11) {t : Bys} (h : hdT t = true) : opL (opT op ++ t) = op := by
  cases t with
  | nil => cases h
  | cons c t =>
    obtain ⟨_, h2, h3, _⟩ := hdB_all c h
    have : op = 1 ∨ op = 2 ∨ op = 3 ∨ op = 4 ∨ op = 5 ∨ op = 6 ∨ op = 7 ∨ op = 8 ∨ op = 9 ∨ op = 10 ∨ op = 11 := by omega
    rcases this with rfl | rfl | rfl | rfl | rfl | rfl | rfl | rfl | rfl | rfl | rfl <;> simp [opT, opL, gO, h2, h3]
theorem lv_range (op : Int) : 1 ≤ lvI op ∧ lvI op ≤ 4 := by
  unfold lvI
  repeat' split
  all_goals omega
theorem st_op {r : Bys} (h : r = [] ∨ r.head? = some 41 ∨ r.head? = some 44) : stB r = true ∧ opL r = 0 := by
  rcases h with rfl | h | h
  · exact ⟨rfl, rfl⟩
  · obtain ⟨t, rfl⟩ := head_cons h
    exact ⟨rfl, rfl⟩
  · obtain ⟨t, rfl⟩ := head_cons h
    exact ⟨rfl, rfl⟩
/-! ### Words of values and places -/
theorem dec_wd {l : Bys} (h : l.all dgB = true) : l.all wdB = true := by
  rw [List.all_eq_true] at h ⊢
  intro c hc
  unfold wdB
  rw [h c hc]
  simp
theorem up_wd {l : Bys} (h : l.all upB = true) : l.all wdB = true := by
  rw [List.all_eq_true] at h ⊢
  intro c hc
  unfold wdB
  rw [h c hc]
  simp
theorem pl_wd {p : dPlace} (h : okRef p.1 = true) : (plT p).all wdB = true ∧ ∃ c t, plT p = c :: t ∧ (c = 36 ∨ upB c = true) := by
  obtain ⟨c, r, fc, fr, rfl, h1, h2, h3, h4⟩ := place_nat h
  have hu : (colT c).all upB = true := colT_up ⟨c, by omega⟩ h1
  have hd := can_all (canB_dec r)
  have hx : ∀ b, (fixT b).all wdB = true := by decide
  show (plN c r fc fr).all wdB = true ∧ ∃ d t, plN c r fc fr = d :: t ∧ _
  unfold plN
  refine ⟨?_, ?_⟩
  · rw [List.all_append, List.all_append, List.all_append, hx, hx, up_wd hu, dec_wd hd]
    rfl
  · cases fc with
    | true => exact ⟨36, _, rfl, .inl rfl⟩
    | false =>
      cases hcl : colT c with
      | nil =>
        have := (colT_len c).1
        rw [hcl] at this
        simp at this
      | cons y l =>
        rw [hcl] at hu
        simp only [List.all_cons, Bool.and_eq_true] at hu
        exact ⟨y, _, rfl, .inr hu.1⟩
theorem up_no (c : UInt8) : (c = 36 ∨ upB c = true) → c ≠ 39 ∧ c ≠ 35 ∧ c ≠ 45 ∧ c ≠ 34 ∧ c ≠ 40 ∧ dgB c = false :=
  all8 (p := fun c => (c = 36 ∨ upB c = true) → c ≠ 39 ∧ c ≠ 35 ∧ c ≠ 45 ∧ c ≠ 34 ∧ c ≠ 40 ∧ dgB c = false) (by decide +kernel) c
theorem rdVal_pl {p : dPlace} (h : okRef p.1 = true) : (rdVal (plT p)).2 = false := by
  obtain ⟨_, c, t, e, hc⟩ := pl_wd h
  obtain ⟨n1, n2, n3, _, _, n4⟩ := up_no c hc
  have hp := rdPl_text h
  have k : ∀ w : Bys, (rdPl w).2 = false → plT p ≠ w := fun w hw e => by
    rw [← e, hp] at hw
    cases hw
  have k1 := k trueB (by decide +kernel)
  have k2 := k falseB (by decide +kernel)
  have hv : rdV (plT p) = (9, 0, eS, ()) := by
    unfold rdV
    rw [if_neg k1, if_neg k2, e, if_neg (by simp), if_neg (by simpa using n1), if_neg (by simpa using n2), if_neg (by simpa using n3), if_neg]
    intro hr
    unfold rdInt canB at hr
    simp [n4] at hr
  unfold rdVal
  rw [hv]
  rfl
/-! ### Nodes that are put behind -/
theorem take_snoc {f : List dFNode} {k : Nat} {x : dFNode} (h : f[k]? = some x) : f.take k ++ [x] = f.take (k + 1) := by
  rw [List.take_add_one, h]
  rfl
theorem put_at {f : List dFNode} (hf : f.length ≤ 60) {k : Nat} {x : dFNode} (h : f[k]? = some x) (l : Bys) : ireader_put x (ba l) false (f.take k) = some (((k : Int), ()), ((ba l, f.take (k + 1), false, ()), ())) := by
  have hk := (List.getElem?_eq_some_iff.1 h).1
  have hl : (f.take k).length = k := by rw [List.length_take]; omega
  obtain ⟨i, h1, h2⟩ := iput_ok (x := x) (l := l) (b := false) (ns := f.take k) (by omega)
  rw [h1, h2 rfl (by omega), hl, if_pos ⟨rfl, by omega⟩, take_snoc h, decide_eq_false (by omega)]
  rfl
/-! ### Kids, one behind the other -/
def Fwd (f : List dFNode) (n : Nat) (call : Bool) : List Int → Int → Int → Prop
  | [], s, e => s = e
  | y :: ys, s, e => (∃ h, chk f n y = some (s, h)) ∧ (isAr f y = true → call = true) ∧ Fwd f n call ys (y + 1) e
theorem fwd_snoc {f : List dFNode} {n : Nat} {call : Bool} {kid m s e : Int} (hc : ∃ h, chk f n kid = some (m, h)) (ha : isAr f kid = true → call = true) (he : kid + 1 = e) : ∀ {l : List Int} {s : Int}, Fwd f n call l s m → Fwd f n call (l ++ [kid]) s e
  | [], s, h => by
    have h : s = m := h
    subst h
    exact ⟨hc, ha, he⟩
  | y :: ys, s, h => ⟨h.1, h.2.1, fwd_snoc (s := s) hc ha he h.2.2⟩
theorem fwd_of {f : List dFNode} {n : Nat} {call : Bool} : ∀ {l : List Int} {cur : Int} {h : Nat} {s : Int} {h' : Nat}, kidsC (chk f n) f call l cur h = some (s, h') → Fwd f n call l.reverse s cur
  | [], cur, h, s, h', e => by
    simp only [kidsC, Option.some.injEq, Prod.mk.injEq] at e
    exact e.1.symm
  | kid :: l, cur, h, s, h', e => by
    simp only [kidsC] at e
    split at e
    · rename_i hk
      rw [Option.bind_eq_some_iff] at e
      obtain ⟨p, hp, e⟩ := e
      rw [List.reverse_cons]
      exact fwd_snoc (s := s) ⟨p.2, hp⟩ hk.2.2 (by omega) (fwd_of e)
    · cases e
/-- What a node that stands has. -/
theorem chk_node {f : List dFNode} {n : Nat} {k s : Int} {h : Nat} (e : chk f (n + 1) k = some (s, h)) : 0 ≤ k ∧ ∃ x, f[k.toNat]? = some x ∧ nodeAt f k = x ∧ okNode x = true ∧ Fwd f n (decide (x.1 = 6)) x.2.2.2.2.2.1 s k := by
  simp only [chk] at e
  split at e
  · rename_i h0
    split at e
    · cases e
    · rename_i x hx
      split at e
      · rename_i hok
        refine ⟨h0, x, hx, ?_, hok, ?_⟩
        · unfold nodeAt
          rw [List.getD_eq_getElem?_getD, hx]
          rfl
        · have := fwd_of e
          rwa [List.reverse_reverse] at this
      · cases e
  · cases e
theorem isAr_node {f : List dFNode} {k : Int} {x : dFNode} (h : nodeAt f k = x) : isAr f k = decide (x.1 = 3) := by
  unfold nodeAt at h
  unfold isAr
  rw [h]
theorem node_ext {x y : dFNode} (h1 : x.1 = y.1) (h2 : x.2.1 = y.2.1) (h3 : x.2.2.1 = y.2.2.1) (h4 : x.2.2.2.1 = y.2.2.2.1) (h5 : x.2.2.2.2.1 = y.2.2.2.2.1) (h6 : x.2.2.2.2.2.1 = y.2.2.2.2.2.1) : x = y :=
  Prod.ext h1 (Prod.ext h2 (Prod.ext h3 (Prod.ext h4 (Prod.ext h5 (Prod.ext h6 rfl)))))
theorem kl0 {x : dFNode} (h : kl x = 0) : x.2.2.2.2.2.1 = [] := by
  unfold kl at h
  exact List.eq_nil_of_length_eq_zero (by omega)
theorem kl1 {x : dFNode} (h : kl x = 1) : ∃ a, x.2.2.2.2.2.1 = [a] := by
  unfold kl at h
  exact List.length_eq_one_iff.1 (by omega)
theorem kl2 {x : dFNode} (h : kl x = 2) : ∃ a b, x.2.2.2.2.2.1 = [a, b] := by
  unfold kl at h
  match hx : x.2.2.2.2.2.1, h with
  | [a, b], _ => exact ⟨a, b, rfl⟩
/-- The kinds of a right node. -/
inductive NK : dFNode → Prop
  | con (v : dValue) (h : okVal v = true) (h0 : v.1 ≠ 0) (h1 : v.1 = 1 → 0 ≤ v.2.1) : NK (nC v)
  | cell (p : dPlace) (h : okRef p.1 = true) : NK (nP p)
  | area (p q : dPlace) (h : okArea (p.1, q.1, ()) = true) : NK (nA p q)
  | neg (a : Int) : NK (4, 0, v0, p0, p0, [a], ())
  | bin (op a b : Int) (h0 : 1 ≤ op) (h1 : op ≤ 11) : NK (5, op, v0, p0, p0, [a, b], ())
  | call (op : Int) (ks : List Int) (h : okArgs op (ks.length : Int) = true) : NK (6, op, v0, p0, p0, ks, ())
theorem nk_of {x : dFNode} (h : okNode x = true) : NK x := by
  unfold okNode at h
  by_cases c1 : x.1 = 1
  · rw [if_pos c1] at h
    simp only [Bool.and_eq_true, Bool.or_eq_true, decide_eq_true_eq, Bool.not_eq_true', decide_eq_false_iff_not] at h
    obtain ⟨⟨⟨⟨⟨⟨a1, a2⟩, a3⟩, a4⟩, a5⟩, a6⟩, a7⟩ := h
    have e : x = nC x.2.2.1 := node_ext c1 a1 rfl a2 a3 (kl0 a4)
    rw [e]
    exact .con _ a5 a6 (fun k => a7.elim (fun n => absurd k n) id)
  · rw [if_neg c1] at h
    by_cases c2 : x.1 = 2
    · rw [if_pos c2] at h
      simp only [Bool.and_eq_true, decide_eq_true_eq] at h
      obtain ⟨⟨⟨⟨a1, a2⟩, a3⟩, a4⟩, a5⟩ := h
      have e : x = nP x.2.2.2.1 := node_ext c2 a1 a2 rfl a3 (kl0 a4)
      rw [e]
      exact .cell _ a5
    · rw [if_neg c2] at h
      by_cases c3 : x.1 = 3
      · rw [if_pos c3] at h
        simp only [Bool.and_eq_true, decide_eq_true_eq] at h
        obtain ⟨⟨⟨a1, a2⟩, a4⟩, a5⟩ := h
        have e : x = nA x.2.2.2.1 x.2.2.2.2.1 := node_ext c3 a1 a2 rfl rfl (kl0 a4)
        rw [e]
        exact .area _ _ a5
      · rw [if_neg c3] at h
        by_cases c4 : x.1 = 4
        · rw [if_pos c4] at h
          simp only [Bool.and_eq_true, decide_eq_true_eq] at h
          obtain ⟨⟨⟨⟨a1, a2⟩, a3⟩, a4⟩, a5⟩ := h
          obtain ⟨a, ha⟩ := kl1 a5
          have e : x = (4, 0, v0, p0, p0, [a], ()) := node_ext c4 a1 a2 a3 a4 ha
          rw [e]
          exact .neg a
        · rw [if_neg c4] at h
          by_cases c5 : x.1 = 5
          · rw [if_pos c5] at h
            simp only [Bool.and_eq_true, decide_eq_true_eq] at h
            obtain ⟨⟨⟨⟨a1, a2⟩, a3⟩, a4⟩, a5⟩ := h
            obtain ⟨a, b, ha⟩ := kl2 a5
            obtain ⟨g0, g1⟩ := inB_iff.1 a1
            have e : x = (5, x.2.1, v0, p0, p0, [a, b], ()) := node_ext c5 rfl a2 a3 a4 ha
            rw [e]
            exact .bin _ a b g0 g1
          · rw [if_neg c5] at h
            by_cases c6 : x.1 = 6
            · rw [if_pos c6] at h
              simp only [Bool.and_eq_true, decide_eq_true_eq] at h
              obtain ⟨⟨⟨a1, a2⟩, a3⟩, a4⟩ := h
              have e : x = (6, x.2.1, v0, p0, p0, x.2.2.2.2.2.1, ()) := node_ext c6 rfl a2 a3 a4 rfl
              rw [e]
              exact .call _ _ a1
            · rw [if_neg c6] at h
              cases h
end Go.Proofs.YtiligfmembmapaaGreatDoor.Abs
/- Plain laws: a right formula's text is read as the formula: atoms, signs, arguments. -/
set_option linter.unusedVariables false
set_option linter.unusedSimpArgs false
set_option linter.unusedSectionVars false
namespace Go.Proofs.YtiligfmembmapaaGreatDoor.Abs
open Go

/-! ### The parts of the program's reader, at a good state -/
theorem un_neg {deep : Int} {l : Bys} {ns : List dFNode} (h0 : 0 ≤ deep) (h1 : deep + (l.length : Int) ≤ 400) (h : (bl l).head? = some 45) :
    ireader_unary deep (ba l) false ns = (ireader_unary (deep + 1) (ba ((bl l).drop 1)) false ns).bind fun z => ireader_put (nNeg z.1.1) z.2.1.1 z.2.1.2.2.1 z.2.1.2.1 := by
  rw [ireader_unary_eq, ifF (by omega)]
  simp only [Bool.false_eq_true, if_false, put_id]
  rw [show (⟨#[45]⟩ : ByteArray) = ba [45] from rfl, itake_ok (by omega)]
  simp only [Option.bind_some, sg_one (c := 45) (.inl rfl), List.length_singleton]
  simp only [h, decide_true, if_true]
  rw [wr (by omega) (by omega)]
theorem un_atom {deep : Int} {l : Bys} {ns : List dFNode} (h0 : 0 ≤ deep) (h1 : deep + (l.length : Int) ≤ 400) (h : (bl l).head? ≠ some 45) :
    ireader_unary deep (ba l) false ns = ireader_atom deep (ba (bl l)) false ns := by
  rw [ireader_unary_eq, ifF (by omega)]
  simp only [Bool.false_eq_true, if_false, put_id]
  rw [show (⟨#[45]⟩ : ByteArray) = ba [45] from rfl, itake_ok (by omega)]
  simp only [Option.bind_some, sg_one (c := 45) (.inl rfl), List.length_singleton]
  simp only [h, decide_false, Bool.false_eq_true, if_false]
theorem p2_stop {least deep left : Int} {r : Bys} {ns : List dFNode} (hl : r.length ≤ 400) (h : stB r = true) (ho : opL r = 0 ∨ lvI (opL r) < least) : ireader_binary_p2 least deep left (ba r) false ns = some ((left, ()), ((ba r, ns, false, ()), ())) := by
  rw [ireader_binary_p2_eq]
  simp only [Bool.not_false, if_true]
  obtain ⟨o1, o2⟩ := opL_range (bl r)
  rw [ibin_ops (by omega), ibin_12 o1 o2 (by rw [st_bl h]; omega) (fun h => by rw [bl_bl]; exact opL_text h), st_bl h, if_pos ho]
theorem p2_op {least deep left op : Int} {t : Bys} {ns : List dFNode} (h0 : 1 ≤ op) (h1 : op ≤ 11) (ht : hdT t = true) (hl : t.length ≤ 390) (hv : least ≤ lvI op) :
    ireader_binary_p2 least deep left (ba (opT op ++ t)) false ns = (ireader_binary (lvI op + 1) deep (ba t) false ns).bind fun z7 => ((ireader_put (5, op, (0, 0, (⟨#[]⟩ : ByteArray), ()), ((0, 0, ()), false, false, ()), ((0, 0, ()), false, false, ()), ([left, z7.1.1] : (List Int)), ()) z7.2.1.1 z7.2.1.2.2.1 z7.2.1.2.1).bind fun z8 => (ireader_binary_p2 least deep z8.1.1 z8.2.1.1 z8.2.1.2.2.1 z8.2.1.2.1)) := by
  have hs := op_hd h0 h1 t
  have hb := st_bl hs
  have ho := opL_at h0 h1 ht
  have hln := opT_len op
  have hll : (opT op ++ t).length ≤ 400 := by rw [List.length_append]; omega
  rw [ireader_binary_p2_eq]
  simp only [Bool.not_false, if_true]
  obtain ⟨o1, o2⟩ := opL_range (bl (opT op ++ t))
  rw [ibin_ops (by omega), ibin_12 o1 o2 (by rw [hb]; omega) (fun h => by rw [bl_bl]; exact opL_text h), bl_bl, hb, ho, if_neg (by omega), List.drop_left' rfl]
theorem par_ok {deep : Int} {m : Bys} {ns : List dFNode} (hl : m.length ≤ 400) : ireader_atom deep (ba (40 :: m)) false ns = ((ireader_binary 1 (IntKind.i64.wrap (deep + 1)) (ba m) false ns).bind fun z6 => (if z6.2.1.2.2.1 = true then (some ((z6.1.1, ()), ((z6.2.1.1, z6.2.1.2.1, true, ()), ()))) else ((ireader_take (⟨#[41]⟩ : ByteArray) z6.2.1.1 z6.2.1.2.2.1 z6.2.1.2.1).bind fun z7 => (some ((z6.1.1, ()), ((z7.2.1.1, z7.2.1.2.1, (!z7.1.1), ()), ())))))) := by
  have hb : bl (40 :: m) = 40 :: m := List.dropWhile_cons_of_neg (by decide)
  rw [iatom_ok (by rw [List.length_cons]; omega), hb, if_neg (by simp), if_neg (by simp), if_pos (by simp)]
  rfl
theorem take_41 {r : Bys} {ns : List dFNode} (hl : r.length ≤ 400) : ireader_take (⟨#[41]⟩ : ByteArray) (ba (41 :: r)) false ns = some ((true, ()), ((ba r, ns, false, ()), ())) := by
  have hb : bl (41 :: r) = 41 :: r := List.dropWhile_cons_of_neg (by decide)
  have hs : sg (41 :: r) = [41] := by rw [sg_one (c := 41) (.inr (.inr (.inl rfl)))]; rfl
  rw [show (⟨#[41]⟩ : ByteArray) = ba [41] from rfl, itake_ok (by rw [List.length_cons]; omega), hb, hs]
  rfl
theorem take_44 {r : Bys} {ns : List dFNode} (hl : r.length ≤ 400) : ireader_take (⟨#[44]⟩ : ByteArray) (ba (44 :: r)) false ns = some ((true, ()), ((ba r, ns, false, ()), ())) := by
  have hb : bl (44 :: r) = 44 :: r := List.dropWhile_cons_of_neg (by decide)
  have hs : sg (44 :: r) = [44] := by rw [sg_one (c := 44) (.inr (.inr (.inr (.inl rfl))))]; rfl
  rw [show (⟨#[44]⟩ : ByteArray) = ba [44] from rfl, itake_ok (by rw [List.length_cons]; omega), hb, hs]
  rfl
theorem take_44n {r : Bys} {ns : List dFNode} (hl : r.length ≤ 400) : ireader_take (⟨#[44]⟩ : ByteArray) (ba (41 :: r)) false ns = some ((false, ()), ((ba (41 :: r), ns, false, ()), ())) := by
  have hb : bl (41 :: r) = 41 :: r := List.dropWhile_cons_of_neg (by decide)
  have hs : ¬ sg (41 :: r) = [44] := by rw [sg_one (c := 44) (.inr (.inr (.inr (.inl rfl))))]; simp
  rw [show (⟨#[44]⟩ : ByteArray) = ba [44] from rfl, itake_ok (by rw [List.length_cons]; omega), hb, if_neg hs]
  simp [hs]
/-! ### Atoms -/
theorem qt_qT : ∀ (x r : Bys), r.head? ≠ some 34 → qt (qT x ++ 34 :: r) = some (x, r)
  | [], r, h => by
    cases r with
    | nil => exact qt_end
    | cons d r =>
      have hd : d ≠ 34 := fun e => h (by rw [e]; rfl)
      exact qt_stop hd
  | c :: x, r, h => by
    unfold qT
    by_cases hc : c = 34
    · subst hc
      rw [if_pos rfl]
      show qt (34 :: 34 :: (qT x ++ 34 :: r)) = _
      rw [qt_two, qt_qT x r h]
      rfl
    · rw [if_neg hc]
      show qt (c :: (qT x ++ 34 :: r)) = _
      rw [qt_other hc, qt_qT x r h]
      rfl
theorem atom_text {deep : Int} {x r : Bys} {ns : List dFNode} (hl : (qT x).length + r.length ≤ 390) (hr : r.head? ≠ some 34) : ireader_atom deep (ba (34 :: (qT x ++ 34 :: r))) false ns = ireader_put (nC (2, 0, ba x, ())) (ba r) false ns := by
  have hb : bl (34 :: (qT x ++ 34 :: r)) = 34 :: (qT x ++ 34 :: r) := List.dropWhile_cons_of_neg (by decide)
  have hll : (qT x ++ 34 :: r).length ≤ 400 := by simp only [List.length_append, List.length_cons]; omega
  rw [iatom_ok (by rw [List.length_cons]; omega), hb, if_pos (by simp), iquoted_ok (by omega), qt_qT x r hr]
  show ireader_constant (2, 0, ba ([] ++ x), ()) (ba r) false ns = _
  rw [const_put]
  rfl
theorem atom_word {deep : Int} {w r : Bys} {ns : List dFNode} (hl : w.length + r.length ≤ 390) (hw : w.all wdB = true) (hne : w ≠ []) (hr : r.takeWhile wdB = [] ∧ r.dropWhile wdB = r) : ireader_atom deep (ba (w ++ r)) false ns = iWordEnd deep w r false ns := by
  obtain ⟨c, t, rfl⟩ : ∃ c t, w = c :: t := by
    cases w with
    | nil => exact absurd rfl hne
    | cons c t => exact ⟨c, t, rfl⟩
  have hc : wdB c = true := by simp only [List.all_cons, Bool.and_eq_true] at hw; exact hw.1
  have hn : c ≠ 32 ∧ c ≠ 34 ∧ c ≠ 35 ∧ c ≠ 40 ∧ spB c = false := all8 (p := fun c => wdB c = true → c ≠ 32 ∧ c ≠ 34 ∧ c ≠ 35 ∧ c ≠ 40 ∧ spB c = false) (by decide +kernel) c hc
  have hb : bl (c :: t ++ r) = c :: t ++ r := List.dropWhile_cons_of_neg (by rw [hn.2.2.2.2]; decide)
  obtain ⟨h1, h2⟩ := word_app' hw hr
  rw [iatom_ok (by rw [List.length_append]; omega), hb, h1, h2, if_neg (by simp [hn.2.1]), if_neg (by simp [hn.2.2.1]), if_neg (by simp [hn.2.2.2.1])]
theorem dec_all (u : Nat) : (Lib.decDigits u).all wdB = true := dec_wd (can_all (canB_dec u))
theorem val_txt {v : dValue} (h : okVal v = true) (h0 : v.1 ≠ 0) (h1 : v.1 = 1 → 0 ≤ v.2.1) (h2 : v.1 ≠ 2) : (∃ n : Fin 6, v = vE (n.val : Int) ∧ 1 ≤ n.val) ∨ ((lb (valT v)).all wdB = true ∧ lb (valT v) ≠ [] ∧ (v.1 = 1 ∨ v.1 = 3)) := by
  rcases okVal_cases h with e | ⟨n, e, _⟩ | ⟨t, e⟩ | ⟨b, e⟩ | ⟨n, e, k⟩
  · rw [e] at h0
    exact absurd rfl h0
  · right
    subst e
    have hn : 0 ≤ n := h1 rfl
    obtain ⟨u, rfl⟩ := Int.eq_ofNat_of_zero_le hn
    have e : lb (valT (vN ((u : Nat) : Int))) = Lib.decDigits u := by
      show lb (itoaB ((u : Nat) : Int)) = _
      rw [itoa_nat, lb_ba]
    rw [e]
    exact ⟨dec_all u, dec_ne.1, .inl rfl⟩
  · rw [e] at h2
    exact absurd rfl h2
  · right
    subst e
    cases b
    · exact ⟨by decide +kernel, by decide +kernel, .inr rfl⟩
    · exact ⟨by decide +kernel, by decide +kernel, .inr rfl⟩
  · exact .inl ⟨n, e, k⟩
theorem err_find : ∀ (n : Fin 6), 1 ≤ n.val → ∀ r : Bys, erK.find? (erP (erT (n.val : Int) ++ r)) = some (n.val : Int) := by
  intro n hn r
  have e1 : erT 1 = [68, 73, 86, 33] ∧ erT 2 = [84, 89, 80, 69, 33] ∧ erT 3 = [82, 69, 70, 33] := by decide +kernel
  have hd : ∀ n m : Fin 6, 1 ≤ n.val → 1 ≤ m.val → m.val < n.val → ∃ i : Fin 10, (erT (n.val : Int))[i.val]? ≠ (erT (m.val : Int))[i.val]? ∧ i.val < (erT (n.val : Int)).length ∧ i.val < (erT (m.val : Int)).length := by decide +kernel
  have no : ∀ m : Fin 6, 1 ≤ m.val → m.val < n.val → erP (erT (n.val : Int) ++ r) (m.val : Int) = false := by
    intro m h1 h2
    obtain ⟨i, h3, h4, h5⟩ := hd n m hn h1 h2
    rw [Bool.eq_false_iff]
    intro hp
    unfold erP at hp
    obtain ⟨t, ht⟩ := List.isPrefixOf_iff_prefix.1 hp
    have := congrArg (fun l : Bys => l[i.val]?) ht
    simp only [List.getElem?_append_left h5, List.getElem?_append_left h4] at this
    exact h3 this.symm
  have yes : erP (erT (n.val : Int) ++ r) (n.val : Int) = true := by
    unfold erP
    rw [List.isPrefixOf_iff_prefix]
    exact ⟨r, rfl⟩
  have hc : n.val = 1 ∨ n.val = 2 ∨ n.val = 3 ∨ n.val = 4 ∨ n.val = 5 := by omega
  have nm : ∀ m : Nat, (h : m < 6) → 1 ≤ m → m < n.val → erP (erT (n.val : Int) ++ r) (m : Int) = false := fun m h h1 h2 => no ⟨m, h⟩ h1 h2
  rcases hc with h | h | h | h | h
  · rw [h] at nm yes ⊢
    simp only [erK, List.find?_cons]
    rw [show erP (erT ((1 : Nat) : Int) ++ r) 1 = true from yes]
    rfl
  · rw [h] at nm yes ⊢
    simp only [erK, List.find?_cons]
    rw [show erP (erT ((2 : Nat) : Int) ++ r) 1 = false from nm 1 (by decide) (by decide) (by decide), show erP (erT ((2 : Nat) : Int) ++ r) 2 = true from yes]
    rfl
  · rw [h] at nm yes ⊢
    simp only [erK, List.find?_cons]
    rw [show erP (erT ((3 : Nat) : Int) ++ r) 1 = false from nm 1 (by decide) (by decide) (by decide), show erP (erT ((3 : Nat) : Int) ++ r) 2 = false from nm 2 (by decide) (by decide) (by decide), show erP (erT ((3 : Nat) : Int) ++ r) 3 = true from yes]
    rfl
  · rw [h] at nm yes ⊢
    simp only [erK, List.find?_cons]
    rw [show erP (erT ((4 : Nat) : Int) ++ r) 1 = false from nm 1 (by decide) (by decide) (by decide), show erP (erT ((4 : Nat) : Int) ++ r) 2 = false from nm 2 (by decide) (by decide) (by decide), show erP (erT ((4 : Nat) : Int) ++ r) 3 = false from nm 3 (by decide) (by decide) (by decide), show erP (erT ((4 : Nat) : Int) ++ r) 4 = true from yes]
    rfl
  · rw [h] at nm yes ⊢
    simp only [erK, List.find?_cons]
    rw [show erP (erT ((5 : Nat) : Int) ++ r) 1 = false from nm 1 (by decide) (by decide) (by decide), show erP (erT ((5 : Nat) : Int) ++ r) 2 = false from nm 2 (by decide) (by decide) (by decide), show erP (erT ((5 : Nat) : Int) ++ r) 3 = false from nm 3 (by decide) (by decide) (by decide),
      show erP (erT ((5 : Nat) : Int) ++ r) 4 = false from nm 4 (by decide) (by decide) (by decide), show erP (erT ((5 : Nat) : Int) ++ r) 5 = true from yes]
    rfl
theorem atom_err {deep : Int} {n : Fin 6} (hn : 1 ≤ n.val) {r : Bys} {ns : List dFNode} (hl : r.length ≤ 390) : ireader_atom deep (ba (lb (errT (n.val : Int)) ++ r)) false ns = ireader_put (nC (vE (n.val : Int))) (ba r) false ns := by
  have f : ∀ n : Fin 6, 1 ≤ n.val → errT (n.val : Int) = ba (35 :: erT (n.val : Int)) ∧ (erT (n.val : Int)).length ≤ 10 := by decide +kernel
  obtain ⟨f1, f2⟩ := f n hn
  rw [f1, lb_ba, List.cons_append]
  have hb : bl (35 :: (erT (n.val : Int) ++ r)) = 35 :: (erT (n.val : Int) ++ r) := List.dropWhile_cons_of_neg (by decide)
  have hll : (erT (n.val : Int) ++ r).length ≤ 400 := by rw [List.length_append]; omega
  rw [iatom_ok (by rw [List.length_cons]; omega), hb, if_neg (by simp), if_pos (by simp), ierr_ok (by omega), err_find n hn r]
  simp only
  rw [const_put, List.drop_left' rfl]
theorem fn_all {op : Int} (h0 : 1 ≤ op) (h1 : op ≤ 10) : (fnT op).all wdB = true ∧ fnT op ≠ [] ∧ (rdVal (fnT op)).2 = false ∧ (rdPl (fnT op)).2 = false ∧ fnK.find? (fun k => decide (fnT k = fnT op)) = some op := by
  have : ∀ k : Fin 11, 1 ≤ k.val → (fnT (k.val : Int)).all wdB = true ∧ fnT (k.val : Int) ≠ [] ∧ (rdVal (fnT (k.val : Int))).2 = false ∧ (rdPl (fnT (k.val : Int))).2 = false ∧ fnK.find? (fun j => decide (fnT j = fnT (k.val : Int))) = some (k.val : Int) := by decide +kernel
  have h := this ⟨op.toNat, by omega⟩ (by simp only; omega)
  simpa only [Int.toNat_of_nonneg (show 0 ≤ op by omega)] using h
theorem args_op {op k : Int} (h : okArgs op k = true) : 1 ≤ op ∧ op ≤ 10 ∧ 1 ≤ k ∧ k ≤ 10 := by
  unfold okArgs at h
  split at h
  · simp only [Bool.or_eq_true, decide_eq_true_eq] at h
    omega
  · split at h
    · rename_i h1
      have := inB_iff.1 h1
      have := inB_iff.1 h
      omega
    · split at h
      · rename_i h1
        have := inB_iff.1 h1
        simp only [decide_eq_true_eq] at h
        omega
      · cases h
end Go.Proofs.YtiligfmembmapaaGreatDoor.Abs
/- Plain laws: a right formula's text is read as the formula. -/
set_option linter.unusedVariables false
set_option linter.unusedSimpArgs false
set_option linter.unusedSectionVars false
namespace Go.Proofs.YtiligfmembmapaaGreatDoor.Abs
open Go

/-! ### The texts, node by node -/
section
variable {f : List dFNode} {n : Nat} {k L : Int}
theorem ftx_con {v : dValue} (h : nodeAt f k = nC v) : ftx f (n + 1) k L = if v.1 = 2 then 34 :: (qT (lb v.2.2.1) ++ [34]) else lb (valT v) := by
  conv => lhs; unfold ftx
  rw [h]
  rfl
theorem ftx_cell {p : dPlace} (h : nodeAt f k = nP p) : ftx f (n + 1) k L = plT p := by
  conv => lhs; unfold ftx
  rw [h]
  rfl
theorem ftx_area {p q : dPlace} (h : nodeAt f k = nA p q) : ftx f (n + 1) k L = plT p ++ 58 :: plT q := by
  conv => lhs; unfold ftx
  rw [h]
  rfl
theorem ftx_neg {a : Int} (h : nodeAt f k = (4, 0, v0, p0, p0, [a], ())) : ftx f (n + 1) k L = 45 :: ftx f n a 5 := by
  conv => lhs; unfold ftx
  rw [h]
  rfl
def bodyT (f : List dFNode) (n : Nat) (op a b : Int) : Bys := ftx f n a (lvI op) ++ (opT op ++ ftx f n b (lvI op + 1))
theorem ftx_bin {op a b : Int} (h : nodeAt f k = (5, op, v0, p0, p0, [a, b], ())) : ftx f (n + 1) k L = if lvI op < L then 40 :: (bodyT f n op a b ++ [41]) else bodyT f n op a b := by
  conv => lhs; unfold ftx
  rw [h]
  rfl
theorem ftx_call {op : Int} {ks : List Int} (h : nodeAt f k = (6, op, v0, p0, p0, ks, ())) : ftx f (n + 1) k L = fnT op ++ 40 :: (commas (ks.map fun k => ftx f n k 1) ++ [41]) := by
  conv => lhs; unfold ftx
  rw [h]
  rfl
end
theorem wd_hd {w : Bys} (hw : w.all wdB = true) (hne : w ≠ []) : hdT w = true := by
  cases w with
  | nil => exact absurd rfl hne
  | cons c t =>
    simp only [List.all_cons, Bool.and_eq_true] at hw
    show hdB c = true
    unfold hdB
    rw [hw.1]
    rfl
theorem pl_ne {p : dPlace} (h : okRef p.1 = true) : plT p ≠ [] := by
  obtain ⟨_, c, t, e, _⟩ := pl_wd h
  rw [e]
  simp
theorem area_refs {p q : dPlace} (h : okArea (p.1, q.1, ()) = true) : okRef p.1 = true ∧ okRef q.1 = true := by
  unfold okArea at h
  simp only [Bool.and_eq_true] at h
  exact ⟨h.1.1.1, h.1.1.2⟩
theorem ft_hd {f : List dFNode} : ∀ (n : Nat) (k s : Int) (h : Nat), chk f n k = some (s, h) → ∀ L, hdT (ftx f n k L) = true
  | 0, k, s, h, e, L => by cases e
  | n + 1, k, s, h, e, L => by
    obtain ⟨h0, x, hx, hn, hok, hfw⟩ := chk_node e
    cases nk_of hok with
    | con v hv v0' v1 =>
      rw [ftx_con hn]
      by_cases h2 : v.1 = 2
      · rw [if_pos h2]
        rfl
      · rw [if_neg h2]
        rcases val_txt hv v0' v1 h2 with ⟨m, rfl, hm⟩ | ⟨h3, h4, _⟩
        · have : ∀ m : Fin 6, 1 ≤ m.val → hdT (lb (valT (vE (m.val : Int)))) = true := by decide +kernel
          exact this m hm
        · exact wd_hd h3 h4
    | cell p hp =>
      rw [ftx_cell hn]
      exact wd_hd (pl_wd hp).1 (pl_ne hp)
    | area p q hp =>
      rw [ftx_area hn]
      exact hd_app2 (wd_hd (pl_wd (area_refs hp).1).1 (pl_ne (area_refs hp).1)) _
    | neg a =>
      rw [ftx_neg hn]
      rfl
    | bin op a b h1 h2 =>
      rw [ftx_bin hn]
      split
      · rfl
      · obtain ⟨⟨h', hc⟩, _⟩ := hfw
        exact hd_app2 (ft_hd n a s h' hc _) _
    | call op ks ha =>
      rw [ftx_call hn]
      obtain ⟨g1, g2, _⟩ := args_op ha
      obtain ⟨f1, f2, _⟩ := fn_all g1 g2
      exact hd_app2 (wd_hd f1 f2) _
theorem bl_hd {m : Bys} (h : m.head? ≠ some 32) : bl m = m := by
  cases m with
  | nil => rfl
  | cons c t =>
    refine List.dropWhile_cons_of_neg ?_
    unfold spB
    rw [decide_eq_true_eq]
    exact fun e => h (by rw [e]; rfl)
/-- Behind the first word of what is no area there is no colon. -/
theorem no_col {f : List dFNode} : ∀ (n : Nat) (k s : Int) (h : Nat), chk f n k = some (s, h) → isAr f k = false → ∀ L r, stB r = true → ((ftx f n k L ++ r).dropWhile wdB).head? ≠ some 58 ∧ ((ftx f n k L ++ r).dropWhile wdB).head? ≠ some 32
  | 0, k, s, h, e, _, L, r, hr => by cases e
  | n + 1, k, s, h, e, har, L, r, hr => by
    obtain ⟨h0, x, hx, hn, hok, hfw⟩ := chk_node e
    rw [isAr_node hn] at har
    have hst := st_hd hr
    cases nk_of hok with
    | con v hv v0' v1 =>
      rw [ftx_con hn]
      by_cases h2 : v.1 = 2
      · rw [if_pos h2, List.cons_append, List.dropWhile_cons_of_neg (by decide)]
        exact ⟨by simp, by simp⟩
      · rw [if_neg h2]
        rcases val_txt hv v0' v1 h2 with ⟨m, rfl, hm⟩ | ⟨h3, h4, _⟩
        · have : ∀ m : Fin 6, 1 ≤ m.val → lb (valT (vE (m.val : Int))) = 35 :: erT (m.val : Int) := by decide +kernel
          rw [this m hm, List.cons_append, List.dropWhile_cons_of_neg (by decide)]
          exact ⟨by simp, by simp⟩
        · rw [(word_app h3 hr).2]
          exact ⟨hst.2.1, hst.2.2⟩
    | cell p hp =>
      rw [ftx_cell hn, (word_app (pl_wd hp).1 hr).2]
      exact ⟨hst.2.1, hst.2.2⟩
    | area p q hp => simp at har
    | neg a =>
      rw [ftx_neg hn, List.cons_append, List.dropWhile_cons_of_neg (by decide)]
      exact ⟨by simp, by simp⟩
    | bin op a b h1 h2 =>
      rw [ftx_bin hn]
      split
      · rw [List.cons_append, List.dropWhile_cons_of_neg (by decide)]
        exact ⟨by simp, by simp⟩
      · obtain ⟨⟨h', hc⟩, ha, _⟩ := hfw
        unfold bodyT
        rw [List.append_assoc, List.append_assoc]
        refine no_col n a s h' hc ?_ _ _ (op_hd h1 h2 _)
        rw [Bool.eq_false_iff]
        intro hh
        have := ha hh
        simp at this
    | call op ks ha =>
      rw [ftx_call hn]
      obtain ⟨g1, g2, _⟩ := args_op ha
      obtain ⟨f1, f2, _⟩ := fn_all g1 g2
      rw [List.append_assoc, (word_app' f1 (r := 40 :: (commas (ks.map fun k => ftx f n k 1) ++ [41]) ++ r) ⟨rfl, rfl⟩).2]
      exact ⟨by simp, by simp⟩
/-! ### Reading -/
def binB (x : dFNode) (L : Int) : Bool := decide (x.1 = 5) && !decide (lvI x.2.1 < L)
def RdU (f : List dFNode) (n : Nat) : Prop := ∀ (k s : Int) (h : Nat), chk f n k = some (s, h) → isAr f k = false → ∀ (L : Int) (r : Bys) (deep : Int), 1 ≤ L → L ≤ 5 → stB r = true → binB (nodeAt f k) L = false → 0 ≤ deep → deep + ((ftx f n k L ++ r).length : Int) ≤ 380 →
  ireader_unary deep (ba (ftx f n k L ++ r)) false (f.take s.toNat) = some ((k, ()), ((ba r, f.take (k.toNat + 1), false, ()), ()))
def RdB (f : List dFNode) (n : Nat) : Prop := ∀ (k s : Int) (h : Nat), chk f n k = some (s, h) → isAr f k = false → ∀ (L : Int) (r : Bys) (deep least : Int), 1 ≤ L → L ≤ 5 → stB r = true → (opL r = 0 ∨ lvI (opL r) ≤ L) → 1 ≤ least → least ≤ L → 0 ≤ deep → deep + ((ftx f n k L ++ r).length : Int) ≤ 380 →
  ireader_binary least deep (ba (ftx f n k L ++ r)) false (f.take s.toNat) = ireader_binary_p2 least deep k (ba r) false (f.take (k.toNat + 1))
theorem call_in {op deep : Int} {m : Bys} {ns : List dFNode} (hl : m.length ≤ 390) : ireader_call op deep (ba (40 :: m)) false ns = ireader_call_p3' op deep (ba m) false [] ns := by
  have hb : bl (40 :: m) = 40 :: m := List.dropWhile_cons_of_neg (by decide)
  have hs : sg (40 :: m) = [40] := by rw [sg_one (c := 40) (.inr (.inl rfl))]; rfl
  rw [ireader_call_eq, if_neg (by decide), show (⟨#[40]⟩ : ByteArray) = ba [40] from rfl, itake_ok (by rw [List.length_cons]; omega), hb, hs]
  simp
section
variable {f : List dFNode} (hf : f.length ≤ 60)
include hf
theorem args_rd {n : Nat} (HB : RdB f n) {op deep : Int} (hd0 : 0 ≤ deep) {r : Bys} : ∀ (ys pre : List Int) (s0 e : Int), ys ≠ [] → 0 ≤ s0 → Fwd f n true ys s0 e → pre.length + ys.length ≤ 100 → deep + 1 + ((commas (ys.map fun y => ftx f n y 1) ++ 41 :: r).length : Int) ≤ 380 →
    ireader_call_p3' op deep (ba (commas (ys.map fun y => ftx f n y 1) ++ 41 :: r)) false pre (f.take s0.toNat) = ireader_put (6, op, (0, 0, (⟨#[]⟩ : ByteArray), ()), ((0, 0, ()), false, false, ()), ((0, 0, ()), false, false, ()), pre ++ ys, ()) (ba r) false (f.take e.toNat)
  | [], _, _, _, h, _, _, _, _ => absurd rfl h
  | y :: ys, pre, s0, e, _, hs0, hfw, hpl, hlen => by
    obtain ⟨⟨h', hc⟩, _, hfw'⟩ := hfw
    obtain ⟨m, rfl⟩ : ∃ m, n = m + 1 := by
      cases n with
      | zero => cases hc
      | succ m => exact ⟨m, rfl⟩
    obtain ⟨hy0, x, hx, hn, hok, hkids⟩ := chk_node hc
    -- the text behind the first argument
    obtain ⟨tl, htl, htx⟩ : ∃ tl : Bys, (tl = 41 :: r ∧ ys = [] ∨ tl = 44 :: (commas (ys.map fun y => ftx f (m + 1) y 1) ++ 41 :: r) ∧ ys ≠ []) ∧ commas ((y :: ys).map fun y => ftx f (m + 1) y 1) ++ 41 :: r = ftx f (m + 1) y 1 ++ tl := by
      cases ys with
      | nil => exact ⟨_, .inl ⟨rfl, rfl⟩, rfl⟩
      | cons z zs => exact ⟨_, .inr ⟨rfl, by simp⟩, by simp [commas]⟩
    rw [htx] at hlen ⊢
    have hst : stB tl = true ∧ opL tl = 0 := by
      rcases htl with ⟨h, _⟩ | ⟨h, _⟩
      · exact st_op (.inr (.inl (by rw [h]; rfl)))
      · exact st_op (.inr (.inr (by rw [h]; rfl)))
    have hhd := hd_app2 (ft_hd (m + 1) y s0 h' hc 1) tl
    have hbl := hd_bl hhd
    have htll : (tl.length : Int) ≤ 380 := by
      rw [List.length_append] at hlen
      omega
    have hrl : (r.length : Int) + 1 ≤ 380 := by
      rcases htl with ⟨h, _⟩ | ⟨h, _⟩
      · rw [h, List.length_cons] at htll
        omega
      · rw [h, List.length_cons, List.length_append, List.length_cons] at htll
        omega
    -- what follows the argument
    have fin : ((ireader_take (⟨#[44]⟩ : ByteArray) (ba tl) false (f.take (y.toNat + 1))).bind fun z3 => (if (!z3.1.1) = true then (if z3.2.1.2.2.1 = true then ((ireader_put (6, op, (0, 0, (⟨#[]⟩ : ByteArray), ()), ((0, 0, ()), false, false, ()), ((0, 0, ()), false, false, ()), pre ++ [y], ()) z3.2.1.1 true z3.2.1.2.1).bind fun z4 => (some ((z4.1.1, ()), (z4.2.1, ())))) else ((ireader_take (⟨#[41]⟩ : ByteArray) z3.2.1.1 z3.2.1.2.2.1 z3.2.1.2.1).bind fun z5 => ((ireader_put (6, op, (0, 0, (⟨#[]⟩ : ByteArray), ()), ((0, 0, ()), false, false, ()), ((0, 0, ()), false, false, ()), pre ++ [y], ()) z5.2.1.1 (!z5.1.1) z5.2.1.2.1).bind fun z6 => (some ((z6.1.1, ()), (z6.2.1, ())))))) else (ireader_call_p3' op deep z3.2.1.1 z3.2.1.2.2.1 (pre ++ [y]) z3.2.1.2.1)))
        = ireader_put (6, op, (0, 0, (⟨#[]⟩ : ByteArray), ()), ((0, 0, ()), false, false, ()), ((0, 0, ()), false, false, ()), pre ++ y :: ys, ()) (ba r) false (f.take e.toNat) := by
      rcases htl with ⟨h, h2⟩ | ⟨h, h2⟩
      · subst h2
        have he : y + 1 = e := hfw'
        rw [h, take_44n (by omega)]
        simp only [Option.bind_some, Bool.not_false, if_true, Bool.false_eq_true, if_false]
        rw [take_41 (by omega)]
        simp only [Option.bind_some, Bool.not_true, put_id]
        congr 2
        omega
      · have ih := args_rd HB (op := op) hd0 (r := r) ys (pre ++ [y]) (y + 1) e h2 (by omega) hfw' (by simp only [List.length_append, List.length_cons, List.length_nil] at hpl ⊢; omega) (by
          rw [List.length_append, h, List.length_cons] at hlen
          omega)
        have hcl : ((commas (ys.map fun y => ftx f (m + 1) y 1) ++ 41 :: r).length : Int) ≤ 380 := by
          rw [h, List.length_cons] at htll
          omega
        rw [h, take_44 (by omega)]
        simp only [Option.bind_some, Bool.not_true, Bool.false_eq_true, if_false]
        have e1 : (y + 1).toNat = y.toNat + 1 := by omega
        rw [e1] at ih
        rw [ih]
        simp
    rw [ireader_call_p3'_eq]
    simp only [Bool.not_false, if_true]
    rw [iarea_ok (by omega), hbl]
    by_cases har : isAr f y = true
    · -- an area
      rw [isAr_node hn, decide_eq_true_eq] at har
      cases nk_of hok with
      | con v _ _ _ => simp at har
      | cell p _ => simp at har
      | neg a => simp at har
      | bin op a b _ _ => simp at har
      | call op ks _ => simp at har
      | area p q hp =>
        obtain ⟨r1, r2⟩ := area_refs hp
        have hs : s0 = y := hkids
        rw [ftx_area hn, List.append_assoc, List.cons_append]
        obtain ⟨w1, w2⟩ := word_app' (pl_wd r1).1 (r := 58 :: (plT q ++ tl)) ⟨rfl, rfl⟩
        obtain ⟨w3, w4⟩ := word_app (pl_wd r2).1 hst.1
        have hb2 : bl (58 :: (plT q ++ tl)) = 58 :: (plT q ++ tl) := List.dropWhile_cons_of_neg (by decide)
        have har : arR (plT p ++ 58 :: (plT q ++ tl)) = plT q ++ tl := by
          unfold arR
          rw [w2, hb2]
          exact hd_bl (hd_app2 (wd_hd (pl_wd r2).1 (pl_ne r2)) tl)
        have hab : arB (plT p ++ 58 :: (plT q ++ tl)) = true := by
          unfold arB
          rw [w1, w2, rdPl_text r1, hb2]
          rfl
        rw [if_pos hab, har, w1, w3, w4, rdPl_text r1, rdPl_text r2]
        simp only [Option.bind_some, if_true, Bool.not_true, Bool.or_false]
        rw [hs, put_at hf hx]
        simp only [Option.bind_some]
        rw [app_ok (by simp only [List.length_singleton]; simp only [List.length_cons] at hpl; omega), Int.toNat_of_nonneg hy0]
        exact fin
    · -- another thing
      have har' : isAr f y = false := by simpa using har
      obtain ⟨c1, c2⟩ := no_col (m + 1) y s0 h' hc har' 1 tl hst.1
      have hab : ¬ arB (ftx f (m + 1) y 1 ++ tl) = true := by
        unfold arB
        rw [bl_hd c2]
        simp [c1]
      rw [if_neg hab]
      simp only [Option.bind_some, Bool.false_eq_true, if_false]
      rw [wr (by omega) (by omega), HB y s0 h' hc har' 1 tl (deep + 1) 1 (by decide) (by decide) hst.1 (.inl hst.2) (by decide) (by decide) (by omega) (by omega), p2_stop (by omega) hst.1 (.inl hst.2)]
      simp only [Option.bind_some]
      rw [app_ok (by simp only [List.length_singleton]; simp only [List.length_cons] at hpl; omega)]
      exact fin
/-- Two things with an operation between. -/
theorem body_rd {n : Nat} (HB : RdB f n) {k s op a b : Int} (hk0 : 0 ≤ k) (hx : f[k.toNat]? = some (5, op, v0, p0, p0, [a, b], ())) (h1 : 1 ≤ op) (h2 : op ≤ 11) (hfw : Fwd f n false [a, b] s k) {r : Bys} {deep least : Int} (hr : stB r = true) (ho : opL r = 0 ∨ lvI (opL r) ≤ lvI op) (hl1 : 1 ≤ least) (hl2 : least ≤ lvI op) (hd0 : 0 ≤ deep) (hd : deep + ((bodyT f n op a b ++ r).length : Int) ≤ 380) :
    ireader_binary least deep (ba (bodyT f n op a b ++ r)) false (f.take s.toNat) = ireader_binary_p2 least deep k (ba r) false (f.take (k.toNat + 1)) := by
  obtain ⟨⟨ha, hca⟩, haa, ⟨hb, hcb⟩, hab, hbk⟩ := hfw
  have hbk : b + 1 = k := hbk
  have naa : isAr f a = false := by
    rw [Bool.eq_false_iff]
    intro h
    have := haa h
    cases this
  have nab : isAr f b = false := by
    rw [Bool.eq_false_iff]
    intro h
    have := hab h
    cases this
  obtain ⟨v1, v2⟩ := lv_range op
  have hhd := ft_hd n b (a + 1) hb hcb (lvI op + 1)
  have hhd2 := hd_app2 hhd r
  unfold bodyT at hd ⊢
  rw [List.append_assoc, List.append_assoc] at hd ⊢
  have ha0 : 0 ≤ a := by
    have := chk_all f n a s ha hca
    omega
  have hb0 : 0 ≤ b := by
    have := chk_all f n b (a + 1) hb hcb
    omega
  rw [List.length_append, List.length_append] at hd
  rw [HB a s ha hca naa (lvI op) _ deep least v1 (by omega) (op_hd h1 h2 _) (.inr (by rw [opL_at h1 h2 hhd2]; omega)) hl1 hl2 hd0 (by rw [List.length_append, List.length_append]; omega), p2_op h1 h2 hhd2 (by omega) hl2]
  have ea : (a + 1).toNat = a.toNat + 1 := by omega
  have := HB b (a + 1) hb hcb nab (lvI op + 1) r deep (lvI op + 1) (by omega) (by omega) hr (ho.imp id fun h => by omega) (by omega) (by omega) hd0 (by omega)
  rw [ea] at this
  rw [this, p2_stop (by rw [List.length_append] at hd; omega) hr (ho.imp id fun h => by omega)]
  simp only [Option.bind_some]
  have eb : b.toNat + 1 = k.toNat := by omega
  have hp : ireader_put (5, op, (0, 0, (⟨#[]⟩ : ByteArray), ()), ((0, 0, ()), false, false, ()), ((0, 0, ()), false, false, ()), [a, b], ()) (ba r) false (f.take k.toNat) = _ := put_at hf hx r
  rw [eb, hp]
  simp only [Option.bind_some]
  rw [Int.toNat_of_nonneg hk0]
theorem rd_all : ∀ n : Nat, RdU f n ∧ RdB f n
  | 0 => ⟨(fun k s h e => by cases e), (fun k s h e => by cases e)⟩
  | n + 1 => by
    obtain ⟨IU, IB⟩ := rd_all n
    have U : RdU f (n + 1) := by
      intro k s h e har L r deep hL1 hL2 hr hbin hd0 hd
      obtain ⟨hk0, x, hx, hn, hok, hfw⟩ := chk_node e
      have hhd := hd_app2 (ft_hd (n + 1) k s h e L) r
      have hbl := hd_bl hhd
      rw [isAr_node hn] at har
      rw [hn] at hbin
      have fin : s = k → ireader_put x (ba r) false (f.take s.toNat) = some ((k, ()), ((ba r, f.take (k.toNat + 1), false, ()), ())) := by
        rintro rfl
        rw [put_at hf hx, Int.toNat_of_nonneg hk0]
      cases nk_of hok with
      | con v hv v0' v1 =>
        have hs : s = k := hfw
        rw [ftx_con hn] at hd hbl ⊢
        by_cases h2 : v.1 = 2
        · rw [if_pos h2] at hd hbl ⊢
          have hve : v = (2, 0, ba (lb v.2.2.1), ()) := by
            rw [ba_lb]
            exact Prod.ext h2 (Prod.ext (okVal_2 hv h2) rfl)
          rw [List.cons_append, List.append_assoc, List.singleton_append] at hd hbl ⊢
          simp only [List.length_cons, List.length_append] at hd
          rw [un_atom hd0 (by simp only [List.length_cons, List.length_append]; omega) (by rw [hbl]; simp), hbl, atom_text (by omega) (st_hd hr).1, ← hve]
          exact fin hs
        · rw [if_neg h2] at hd hbl ⊢
          rw [List.length_append] at hd
          rcases val_txt hv v0' v1 h2 with ⟨m, rfl, hm⟩ | ⟨h3, h4, h5⟩
          · have e1 : valT (vE (m.val : Int)) = errT (m.val : Int) := rfl
            rw [e1] at hd hbl ⊢
            have h45 : (lb (errT (m.val : Int)) ++ r).head? ≠ some 45 := by
              have : ∀ m : Fin 6, 1 ≤ m.val → lb (errT (m.val : Int)) = 35 :: erT (m.val : Int) := by decide +kernel
              rw [this m hm]
              simp
            rw [un_atom hd0 (by rw [List.length_append]; omega) (by rw [hbl]; exact h45), hbl, atom_err hm (by omega)]
            exact fin hs
          · have h45 : (lb (valT v) ++ r).head? ≠ some 45 := by
              cases hw : lb (valT v) with
              | nil => exact absurd hw h4
              | cons c t =>
                rw [hw] at h3
                simp only [List.all_cons, Bool.and_eq_true] at h3
                have : wdB c = true → c ≠ 45 := all8 (p := fun c => wdB c = true → c ≠ 45) (by decide +kernel) c
                simpa using this h3.1
            rw [un_atom hd0 (by rw [List.length_append]; omega) (by rw [hbl]; exact h45), hbl, atom_word (by omega) h3 h4 (st_wd hr)]
            unfold iWordEnd
            rw [rdVal_text hv, if_pos ⟨rfl, h5⟩, const_put]
            exact fin hs
      | cell p hp =>
        have hs : s = k := hfw
        rw [ftx_cell hn] at hd hbl ⊢
        rw [List.length_append] at hd
        obtain ⟨w1, c, t, ec, hc⟩ := pl_wd hp
        have h45 : (plT p ++ r).head? ≠ some 45 := by
          rw [ec]
          simpa using (up_no c hc).2.2.1
        rw [un_atom hd0 (by rw [List.length_append]; omega) (by rw [hbl]; exact h45), hbl, atom_word (by omega) w1 (pl_ne hp) (st_wd hr)]
        unfold iWordEnd
        rw [if_neg (by rw [rdVal_pl hp]; exact fun h => by cases h.1), rdPl_text hp, if_pos rfl]
        exact fin hs
      | area p q hp => simp at har
      | neg a =>
        obtain ⟨⟨ha, hca⟩, haa, hak⟩ := hfw
        have hak : a + 1 = k := hak
        have naa : isAr f a = false := by
          rw [Bool.eq_false_iff]
          intro h
          have := haa h
          simp at this
        have ha0 : 0 ≤ a := by
          have := chk_all f n a s ha hca
          omega
        rw [ftx_neg hn] at hd hbl ⊢
        rw [List.cons_append] at hd hbl ⊢
        rw [List.length_cons] at hd
        have nb : binB (nodeAt f a) 5 = false := by
          unfold binB
          have := lv_range (nodeAt f a).2.1
          rw [decide_eq_true (show lvI (nodeAt f a).2.1 < 5 by omega)]
          simp
        rw [un_neg hd0 (by rw [List.length_cons]; omega) (by rw [hbl]; rfl), hbl]
        simp only [List.drop_succ_cons, List.drop_zero]
        rw [IU a s ha hca naa 5 r (deep + 1) (by decide) (by decide) hr nb (by omega) (by omega)]
        simp only [Option.bind_some]
        have ea : a.toNat + 1 = k.toNat := by omega
        rw [ea]
        refine (put_at hf hx r).trans ?_
        rw [Int.toNat_of_nonneg hk0]
      | bin op a b h1 h2 =>
        have hlt : lvI op < L := by
          unfold binB at hbin
          simpa using hbin
        rw [ftx_bin hn, if_pos hlt] at hd hbl ⊢
        rw [List.cons_append, List.append_assoc, List.singleton_append] at hd hbl ⊢
        rw [List.length_cons] at hd
        have hll := hd
        rw [List.length_append, List.length_cons] at hll
        obtain ⟨v1, v2⟩ := lv_range op
        have h41 := st_op (r := 41 :: r) (.inr (.inl rfl))
        rw [un_atom hd0 (by rw [List.length_cons]; omega) (by rw [hbl]; simp), hbl, par_ok (by omega), wr (by omega) (by omega), body_rd hf IB hk0 hx h1 h2 hfw h41.1 (.inl h41.2) (by decide) v1 (by omega) (by omega), p2_stop (by rw [List.length_cons]; omega) h41.1 (.inl h41.2)]
        simp only [Option.bind_some, Bool.false_eq_true, if_false]
        rw [take_41 (by omega)]
        rfl
      | call op ks ha =>
        obtain ⟨g1, g2, g3, g4⟩ := args_op ha
        obtain ⟨f1, f2, f3, f4, f5⟩ := fn_all g1 g2
        rw [ftx_call hn] at hd hbl ⊢
        rw [List.append_assoc, List.cons_append, List.append_assoc, List.singleton_append] at hd hbl ⊢
        have h45 : (fnT op ++ 40 :: (commas (ks.map fun k => ftx f n k 1) ++ 41 :: r)).head? ≠ some 45 := by
          cases hw : fnT op with
          | nil => exact absurd hw f2
          | cons c t =>
            rw [hw] at f1
            simp only [List.all_cons, Bool.and_eq_true] at f1
            have : wdB c = true → c ≠ 45 := all8 (p := fun c => wdB c = true → c ≠ 45) (by decide +kernel) c
            simpa using this f1.1
        have hll := hd
        rw [List.length_append, List.length_cons] at hll
        have hfl : 1 ≤ (fnT op).length := List.length_pos_iff.2 f2
        rw [un_atom hd0 (by omega) (by rw [hbl]; exact h45), hbl, atom_word (by rw [List.length_cons]; omega) f1 f2 ⟨rfl, rfl⟩]
        unfold iWordEnd
        rw [if_neg (by rw [f3]; exact fun h => by cases h.1), if_neg (by rw [f4]; decide), f5]
        simp only
        have hs0 : 0 ≤ s := (chk_all f (n + 1) k s h e).1
        have hkn : ks ≠ [] := by
          rintro rfl
          simp at g3
        have hfw' : Fwd f n true ks s k := by
          have : decide (((6, op, v0, p0, p0, ks, ()) : dFNode).1 = 6) = true := rfl
          rw [this] at hfw
          exact hfw
        rw [call_in (by omega), args_rd hf IB hd0 ks [] s k hkn hs0 hfw' (by simp only [List.length_nil]; omega) (by omega), List.nil_append]
        refine (put_at hf hx r).trans ?_
        rw [Int.toNat_of_nonneg hk0]
    refine ⟨U, ?_⟩
    intro k s h e har L r deep least hL1 hL2 hr ho hl1 hl2 hd0 hd
    by_cases hb : binB (nodeAt f k) L = true
    · obtain ⟨hk0, x, hx, hn, hok, hfw⟩ := chk_node e
      rw [hn] at hb
      unfold binB at hb
      rw [Bool.and_eq_true, decide_eq_true_eq, Bool.not_eq_true', decide_eq_false_iff_not] at hb
      cases nk_of hok with
      | con v _ _ _ => simp at hb
      | cell p _ => simp at hb
      | area p q _ => simp at hb
      | neg a => simp at hb
      | call op ks _ => simp at hb
      | bin op a b h1 h2 =>
        have hge : ¬ lvI op < L := hb.2
        rw [ftx_bin hn, if_neg hge] at hd ⊢
        exact body_rd hf IB hk0 hx h1 h2 hfw hr (ho.imp id fun h => by omega) hl1 (by omega) hd0 hd
    · have hb' : binB (nodeAt f k) L = false := by simpa using hb
      rw [ireader_binary_eq, U k s h e har L r deep hL1 hL2 hr hb' hd0 hd]
      rfl
end
/-- Prints of right formulas are of plain bytes. -/
def prU (c : UInt8) : Bool := decide (32 ≤ c.toNat) && decide (c.toNat ≤ 126)
theorem plain_ba {l : Bys} : plain (ba l) = l.all prU := by
  unfold plain
  rw [bts_ba, List.all_map]
  congr 1
  funext c
  simp only [Function.comp, prB, prU]
  rw [Bool.eq_iff_iff]
  simp only [decide_eq_true_eq, Bool.and_eq_true]
  omega
theorem wd_pr {w : Bys} (h : w.all wdB = true) : w.all prU = true := by
  rw [List.all_eq_true] at h ⊢
  intro c hc
  exact all8 (p := fun c => wdB c = true → prU c = true) (by decide +kernel) c (h c hc)
theorem qT_pr : ∀ {l : Bys}, l.all prU = true → (qT l).all prU = true
  | [], _ => rfl
  | c :: l, h => by
    simp only [List.all_cons, Bool.and_eq_true] at h
    unfold qT
    split
    · simp only [List.all_cons, qT_pr h.2, Bool.and_true]
      decide
    · simp only [List.all_cons, h.1, qT_pr h.2, Bool.and_true]
theorem commas_pr : ∀ {l : List Bys}, (∀ x ∈ l, x.all prU = true) → (commas l).all prU = true
  | [], _ => rfl
  | [x], h => h x (by simp)
  | x :: y :: l, h => by
    have ih := commas_pr (l := y :: l) fun z hz => h z (List.mem_cons_of_mem _ hz)
    show (x ++ 44 :: commas (y :: l)).all prU = true
    rw [List.all_append, List.all_cons, h x (by simp), ih]
    decide
theorem opT_pr {op : Int} (h0 : 1 ≤ op) (h1 : op ≤ 11) : (opT op).all prU = true := by
  have : ∀ k : Fin 12, (opT (k.val : Int)).all prU = true := by decide +kernel
  have h := this ⟨op.toNat, by omega⟩
  simpa only [Int.toNat_of_nonneg (show 0 ≤ op by omega)] using h
theorem fwd_mem {f : List dFNode} {n : Nat} {call : Bool} : ∀ {l : List Int} {s e : Int}, Fwd f n call l s e → ∀ y ∈ l, ∃ s h, chk f n y = some (s, h)
  | [], _, _, _, y, hy => by cases hy
  | z :: l, s, e, h, y, hy => by
    rcases List.mem_cons.1 hy with rfl | hy
    · obtain ⟨h', hc⟩ := h.1
      exact ⟨s, h', hc⟩
    · exact fwd_mem h.2.2 y hy
theorem ft_pr {f : List dFNode} : ∀ (n : Nat) (k s : Int) (h : Nat), chk f n k = some (s, h) → ∀ L, (ftx f n k L).all prU = true
  | 0, k, s, h, e, L => by cases e
  | n + 1, k, s, h, e, L => by
    obtain ⟨h0, x, hx, hn, hok, hfw⟩ := chk_node e
    cases nk_of hok with
    | con v hv v0' v1 =>
      rw [ftx_con hn]
      by_cases h2 : v.1 = 2
      · rw [if_pos h2, List.all_cons, List.all_append, qT_pr]
        · decide
        · have hp : plain v.2.2.1 = true := by
            unfold okVal at hv
            rw [if_pos h2] at hv
            simp only [Bool.and_eq_true] at hv
            exact hv.2.1
          rw [← ba_lb v.2.2.1, plain_ba] at hp
          exact hp
      · rw [if_neg h2]
        rcases val_txt hv v0' v1 h2 with ⟨m, rfl, hm⟩ | ⟨h3, h4, _⟩
        · have : ∀ m : Fin 6, 1 ≤ m.val → (lb (valT (vE (m.val : Int)))).all prU = true := by decide +kernel
          exact this m hm
        · exact wd_pr h3
    | cell p hp =>
      rw [ftx_cell hn]
      exact wd_pr (pl_wd hp).1
    | area p q hp =>
      rw [ftx_area hn, List.all_append, List.all_cons, wd_pr (pl_wd (area_refs hp).1).1, wd_pr (pl_wd (area_refs hp).2).1]
      decide
    | neg a =>
      obtain ⟨s', h', hc⟩ := fwd_mem hfw a (by simp)
      rw [ftx_neg hn, List.all_cons, ft_pr n a s' h' hc]
      decide
    | bin op a b h1 h2 =>
      obtain ⟨s1, h1', c1⟩ := fwd_mem hfw a (by simp)
      obtain ⟨s2, h2', c2⟩ := fwd_mem hfw b (by simp)
      have hb : (bodyT f n op a b).all prU = true := by
        unfold bodyT
        rw [List.all_append, List.all_append, ft_pr n a s1 h1' c1, ft_pr n b s2 h2' c2, opT_pr h1 h2]
        rfl
      rw [ftx_bin hn]
      split
      · rw [List.all_cons, List.all_append, hb]
        decide
      · exact hb
    | call op ks ha =>
      obtain ⟨g1, g2, _⟩ := args_op ha
      obtain ⟨f1, _⟩ := fn_all g1 g2
      rw [ftx_call hn, List.all_append, List.all_cons, List.all_append, wd_pr f1, commas_pr]
      · decide
      · intro z hz
        obtain ⟨y, hy, rfl⟩ := List.mem_map.1 hz
        obtain ⟨s', h', hc⟩ := fwd_mem hfw y hy
        exact ft_pr n y s' h' hc 1
/-- The text of a formula. -/
def fT (f : List dFNode) : Bys := ftx f f.length ((f.length : Int) - 1) 1
theorem okF_chk {f : List dFNode} (h : okF f = true) : f.length ≤ 60 ∧ 1 ≤ f.length ∧ isAr f ((f.length : Int) - 1) = false ∧ ∃ d, chk f f.length ((f.length : Int) - 1) = some (0, d) := by
  unfold okF okTree at h
  rw [Bool.and_eq_true] at h
  obtain ⟨h1, h2⟩ := h
  have h1 := inB_iff.1 h1
  split at h2
  · rename_i s d hc
    simp only [Bool.and_eq_true, decide_eq_true_eq, Bool.not_eq_true'] at h2
    rw [h2.1] at hc
    exact ⟨by omega, by omega, h2.2.1, d, hc⟩
  · cases h2
theorem read_text {f : List dFNode} (h : okF f = true) (hl : (fT f).length ≤ 200) : iReadFormula (ba (fT f)) = some ((f, true, ()), ()) := by
  obtain ⟨h60, h1, har, d, hc⟩ := okF_chk h
  have hp : plain (ba (fT f)) = true := by
    rw [plain_ba]
    exact ft_pr _ _ _ _ hc 1
  have hst := st_op (r := []) (.inl rfl)
  have hB := (rd_all h60 f.length).2 _ 0 d hc har 1 [] 0 1 (by decide) (by decide) hst.1 (.inl hst.2) (by decide) (by decide) (by decide) (by rw [List.append_nil]; show (0 : Int) + ((fT f).length : Int) ≤ 380; omega)
  rw [List.append_nil] at hB
  have hB : ireader_binary 1 0 (ba (fT f)) false [] = _ := hB
  rw [p2_stop (by simp) hst.1 (.inl hst.2)] at hB
  have ek : ((f.length : Int) - 1).toNat + 1 = f.length := by omega
  rw [ek, List.take_length] at hB
  have hs := okF_stands h
  have hn : ∀ x ∈ f, okNode x = true := by
    intro x hx
    obtain ⟨i, hi⟩ := List.getElem?_of_mem hx
    exact (hs i x hi).1
  have hsm : sm f = true := by
    unfold sm
    rw [List.all_eq_true]
    exact fun x hx => okNode_sm (hn x hx)
  rw [iReadFormula_eq, iisText_ok (by rw [size_ba]; omega), hp]
  have h200 : decide (((ba (fT f)).size : Int) ≤ 200) = true := decide_eq_true (by rw [size_ba]; omega)
  rw [h200]
  simp only [Option.bind_some, Bool.and_self, Bool.not_true, Bool.false_eq_true, if_false]
  rw [hB]
  simp only [Option.bind_some]
  rw [iblanks_ok]
  simp only [Option.bind_some, Bool.false_eq_true, if_false]
  have e0 : (ByteArray.toList (ba (bl [])) == ByteArray.toList (⟨#[]⟩ : ByteArray)) = true := by
    rw [show (⟨#[]⟩ : ByteArray) = ba [] from rfl, eqS_ba]
    rfl
  rw [e0]
  simp only [Bool.not_true, Bool.false_eq_true, if_false]
  rw [iFormulaOk_ok (by omega) (sm_s hsm) (sm_k hsm), h]
  rfl
end Go.Proofs.YtiligfmembmapaaGreatDoor.Abs
