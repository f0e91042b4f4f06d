/- Plain laws: the places of sheets, what two sheets differ in: both sides. -/
import Derived.Test.YtbkcnfbjigjgdaaGreatDoorZP4
set_option linter.unusedVariables false
set_option linter.unusedSimpArgs false
set_option linter.unusedSectionVars false
namespace Go.Proofs.YtbkcnfbjigjgdaaGreatDoor.Abs
open Go

/-! ### Equal neighbours are dropped -/
def dd (b : dRef) : List dRef → List dRef
  | [] => []
  | y :: ys => if y = b then dd y ys else y :: dd y ys
def cmpR : List dRef → List dRef
  | [] => []
  | c :: l => c :: dd c l
theorem dd_mem {q : dRef} : ∀ {l : List dRef} {c : dRef}, q ∈ c :: dd c l ↔ q ∈ c :: l
  | [], c => Iff.rfl
  | y :: ys, c => by
    have ih := dd_mem (q := q) (l := ys) (c := y)
    unfold dd
    by_cases h : y = c
    · rw [if_pos h]
      subst h
      rw [ih, List.mem_cons, List.mem_cons, List.mem_cons]
      constructor
      · rintro (h | h)
        · exact .inl h
        · exact .inr (.inr h)
      · rintro (h | h | h)
        · exact .inl h
        · exact .inl h
        · exact .inr h
    · rw [if_neg h, List.mem_cons, ih, List.mem_cons (a := q) (b := c)]
theorem dd_srt : ∀ {l : List dRef} {c : dRef}, ((c :: l).Pairwise fun a b => aheadB b a = false) → SrtR (c :: dd c l)
  | [], c, _ => List.pairwise_singleton _ _
  | y :: ys, c, h => by
    have h1 := List.pairwise_cons.1 h
    have ih := dd_srt (l := ys) (c := y) h1.2
    unfold dd
    by_cases e : y = c
    · rw [if_pos e]
      subst e
      exact ih
    · rw [if_neg e]
      have hcy : aheadB c y = true := by
        rcases ahead_total c y with k | k | k
        · exact k
        · exact absurd k.symm e
        · rw [h1.1 y (by simp)] at k
          cases k
      refine List.pairwise_cons.2 ⟨fun d hd => ?_, ih⟩
      rcases List.mem_cons.1 hd with rfl | hd
      · exact hcy
      · exact ahead_trans hcy ((List.pairwise_cons.1 ih).1 d hd)
theorem eqRn {a b : dRef} : (eqB tRef a b = false) = (a ≠ b) := by
  rw [← Bool.not_eq_true]
  exact congrArg Not eqRg
theorem swoR' : Sort.SWO (α := tRef.den) aheadB := swoR
theorem cmp_sorted (l : List dRef) : cmpR (sorted (α := tRef.den) aheadB l) = plcs l := by
  have hp := sorted_perm swoR' l
  have hs := sorted_sorted swoR' l
  refine srtR_ext ?_ (plcs_srt l) fun q => ?_
  · cases hq : sorted (α := tRef.den) aheadB l with
    | nil => exact List.Pairwise.nil
    | cons c m =>
      rw [hq] at hs
      exact dd_srt hs
  · rw [mem_plcs, ← hp.mem_iff]
    cases hq : sorted (α := tRef.den) aheadB l with
    | nil => exact Iff.rfl
    | cons c m => exact dd_mem
/-! ### The places of sheets -/
section
variable {ls : List (List dCell)} (hls : ls.length ≤ 10)
include hls
end
/-! ### What two sheets differ in -/
section
variable {a b : List dCell} (ha : a.length ≤ 2000000) (hb : b.length ≤ 2000000)
include ha hb
end
/-- What both say. -/
noncomputable def dfR (a b : List dCell) : List dChange := if okSheet a = true ∧ okSheet b = true then dfS a b else []
section
variable {a b : List dCell} (ha : a.length ≤ 2000000) (hb : b.length ≤ 2000000) (hsa : ∀ c ∈ a, c.2.1.size ≤ 9223372036854775807) (hsb : ∀ c ∈ b, c.2.1.size ≤ 9223372036854775807)
include ha hb hsa hsb
omit hsa hsb in
theorem sDiffOf_loop : ∀ (l m pl pm : List dCell) (acc : List dChange), a = pl ++ l → b = pm ++ m → acc.length + l.length + m.length ≤ 100000000 → sDiffOf_p6 a b (pl.length : Int) (pm.length : Int) acc = some ((acc ++ dfM l m, ()), ())
  | [], [], pl, pm, acc, h1, h2, hc => by
    rw [sDiffOf_p6_eq, ifF (nlt_at h1), ifF (nlt_at h2)]
    unfold dfM
    simp
  | x :: l, [], pl, pm, acc, h1, h2, hc => by
    rw [List.length_cons] at hc
    have hk : ((pm.length : Int) == (b.length : Int)) = true := by rw [h2]; simp
    have ih := fun acc hc => sDiffOf_loop l [] (pl ++ [x]) pm acc (next_at h1) h2 hc
    have hdf : dfM (x :: l) [] = cC (x.1, x.2.1, eS, ()) (dfM l []) := by conv => lhs; unfold dfM
    rw [sDiffOf_p6_eq, ifT (lt_at h1), if_pos hk, ix_at h1, ix_at h1, eqE, wrap_at h1 (by omega), app_ok (by simp only [List.length_singleton]; omega), ih _ (by first | omega | (simp only [List.length_append, List.length_singleton, List.length_nil, List.length_cons] at hc ⊢; omega)), ih _ (by first | omega | (simp only [List.length_append, List.length_singleton, List.length_nil, List.length_cons] at hc ⊢; omega)), hdf]
    unfold cC
    by_cases e : x.2.1 = eS <;> simp [e]
  | [], y :: m, pl, pm, acc, h1, h2, hc => by
    rw [List.length_cons] at hc
    have hi : ((pl.length : Int) == (a.length : Int)) = true := by rw [h1]; simp
    have hk : ¬ ((pm.length : Int) == (b.length : Int)) = true := by
      have := lt_at h2
      simp only [beq_iff_eq]
      omega
    have ih := fun acc hc => sDiffOf_loop [] m pl (pm ++ [y]) acc h1 (next_at h2) hc
    rw [sDiffOf_p6_eq, ifF (nlt_at h1), ifT (lt_at h2), if_neg hk, ifF (nlt_at h1), if_pos hi, ix_at h2, ix_at h2, wrap_at h2 (by omega), app_ok (by simp only [List.length_singleton]; omega), ih _ (by first | omega | (simp only [List.length_append, List.length_singleton, List.length_nil, List.length_cons] at hc ⊢; omega)), ih _ (by first | omega | (simp only [List.length_append, List.length_singleton, List.length_nil, List.length_cons] at hc ⊢; omega))]
    rw [show (ByteArray.toList (⟨#[]⟩ : ByteArray) == ByteArray.toList y.2.1) = decide (eS = y.2.1) from eqS]
    have hdf : dfM [] (y :: m) = cC (y.1, eS, y.2.1, ()) (dfM [] m) := by conv => lhs; unfold dfM
    rw [hdf]
    unfold cC
    by_cases e : eS = y.2.1 <;> simp [e]
  | x :: l, y :: m, pl, pm, acc, h1, h2, hc => by
    rw [List.length_cons, List.length_cons] at hc
    have hi : ¬ ((pl.length : Int) == (a.length : Int)) = true := by
      have := lt_at h1
      simp only [beq_iff_eq]
      omega
    have hk : ¬ ((pm.length : Int) == (b.length : Int)) = true := by
      have := lt_at h2
      simp only [beq_iff_eq]
      omega
    have i1 := fun acc hc => sDiffOf_loop l (y :: m) (pl ++ [x]) pm acc (next_at h1) h2 hc
    have i2 := fun acc hc => sDiffOf_loop (x :: l) m pl (pm ++ [y]) acc h1 (next_at h2) hc
    have i3 := fun acc hc => sDiffOf_loop l m (pl ++ [x]) (pm ++ [y]) acc (next_at h1) (next_at h2) hc
    rw [sDiffOf_p6_eq, ifT (lt_at h1), if_neg hk, ifT (lt_at h1)]
    simp only [ix_at h1, ix_at h2, sl1Ahead_ok, Option.bind_some]
    rw [if_neg hi]
    have e0 : (ByteArray.toList (⟨#[]⟩ : ByteArray) == ByteArray.toList y.2.1) = decide (eS = y.2.1) := eqS
    have e1 : (ByteArray.toList x.2.1 == ByteArray.toList (⟨#[]⟩ : ByteArray)) = decide (x.2.1 = eS) := eqS
    have e2 : (ByteArray.toList x.2.1 == ByteArray.toList y.2.1) = decide (x.2.1 = y.2.1) := eqS
    rw [e0, e1, e2, wrap_at h1 (by omega), wrap_at h2 (by omega)]
    rw [app_ok (by simp only [List.length_singleton]; omega), app_ok (by simp only [List.length_singleton]; omega), app_ok (by simp only [List.length_singleton]; omega)]
    rw [i1 _ (by first | omega | (simp only [List.length_append, List.length_singleton, List.length_nil, List.length_cons] at hc ⊢; omega)), i1 _ (by first | omega | (simp only [List.length_append, List.length_singleton, List.length_nil, List.length_cons] at hc ⊢; omega)), i2 _ (by first | omega | (simp only [List.length_append, List.length_singleton, List.length_nil, List.length_cons] at hc ⊢; omega)), i2 _ (by first | omega | (simp only [List.length_append, List.length_singleton, List.length_nil, List.length_cons] at hc ⊢; omega)), i3 _ (by first | omega | (simp only [List.length_append, List.length_singleton, List.length_nil, List.length_cons] at hc ⊢; omega)), i3 _ (by first | omega | (simp only [List.length_append, List.length_singleton, List.length_nil, List.length_cons] at hc ⊢; omega))]
    have hdf : dfM (x :: l) (y :: m) = if aheadB x.1 y.1 = true then cC (x.1, x.2.1, eS, ()) (dfM l (y :: m)) else if aheadB y.1 x.1 = true then cC (y.1, eS, y.2.1, ()) (dfM (x :: l) m) else cC (x.1, x.2.1, y.2.1, ()) (dfM l m) := by conv => lhs; unfold dfM
    rw [hdf]
    cases k1 : aheadB x.1 y.1 with
    | true =>
      simp only [if_true]
      unfold cC
      by_cases e : x.2.1 = eS <;> simp [e]
    | false =>
      simp only [Bool.false_eq_true, if_false]
      cases k2 : aheadB y.1 x.1 with
      | true =>
        simp only [if_true]
        unfold cC
        by_cases e : eS = y.2.1 <;> simp [e]
      | false =>
        simp only [Bool.false_eq_true, if_false]
        unfold cC
        by_cases e : x.2.1 = y.2.1 <;> simp [e]
termination_by l m => l.length + m.length
theorem sDiffOf_ok : sDiffOf a b = some ((dfR a b, ()), ()) := by
  rw [sDiffOf_eq, sSheetOk_ok hsa (by omega), Option.bind_some]
  dsimp only
  unfold dfR
  cases h1 : okSheet a with
  | false => simp
  | true =>
    rw [if_neg (by decide), sSheetOk_ok hsb (by omega), Option.bind_some]
    dsimp only
    cases h2 : okSheet b with
    | false => simp
    | true =>
      rw [if_neg (by decide)]
      refine (sDiffOf_loop ha hb a b [] [] [] rfl rfl (by simp only [List.length_nil]; omega)).trans ?_
      rw [dfM_eq (okSheet_srt h1) (okSheet_srt h2)]
      simp
end
end Go.Proofs.YtbkcnfbjigjgdaaGreatDoor.Abs
/- Plain laws: changes turned round, what is merged: both sides. -/
set_option linter.unusedVariables false
set_option linter.unusedSimpArgs false
set_option linter.unusedSectionVars false
namespace Go.Proofs.YtbkcnfbjigjgdaaGreatDoor.Abs
open Go

/-! ### Merged -/
section
variable {o x y : List dCell} (ho : o.length ≤ 2000000) (hx : x.length ≤ 2000000) (hy : y.length ≤ 2000000)
include ho hx hy
end
def mEnd (p : List dCell × List dRef) : List dCell × List dRef × Bool := if p.2 = [] then (if p.1.length ≤ 120 then (p.1, [], true) else ([], [], false)) else ([], p.2, false)
theorem mrgR_ok {o x y : List dCell} (h1 : okSheet o = true) (h2 : okSheet x = true) (h3 : okSheet y = true) : mrgR o x y = mEnd (mrgS o x y, clS o x y) := if_pos ⟨h1, h2, h3⟩
theorem mrgR_no {o x y : List dCell} (h : ¬ (okSheet o = true ∧ okSheet x = true ∧ okSheet y = true)) : mrgR o x y = ([], [], false) := if_neg h
theorem m_last (p : List dCell × List dRef) : (if decide ((p.2.length : Int) > 0) = true then (some ((([] : (List dCell)), p.2, false, ()), (()))) else (if decide ((p.1.length : Int) > 120) = true then (some ((([] : (List dCell)), ([] : (List dRef)), false, ()), (()))) else (some ((p.1, ([] : (List dRef)), true, ()), (()))))) = some (((mEnd p).1, (mEnd p).2.1, (mEnd p).2.2, ()), ()) := by
  obtain ⟨a, b⟩ := p
  unfold mEnd
  cases b with
  | cons r b =>
    rw [ifT (by simp only [List.length_cons]; omega)]
    simp
  | nil =>
    rw [ifF (by simp)]
    by_cases hn : a.length ≤ 120
    · rw [ifF (by simp only; omega)]
      simp [hn]
    · rw [ifT (by simp only; omega)]
      simp [hn]
section
variable {o x y : List dCell} (ho : o.length ≤ 2000000) (hx : x.length ≤ 2000000) (hy : y.length ≤ 2000000) (hso : ∀ c ∈ o, c.2.1.size ≤ 9223372036854775807) (hsx : ∀ c ∈ x, c.2.1.size ≤ 9223372036854775807) (hsy : ∀ c ∈ y, c.2.1.size ≤ 9223372036854775807)
include ho hx hy hso hsx hsy
end
theorem mrgR_size (o x y : List dCell) : (mrgR o x y).1.length ≤ 120 := by
  unfold mrgR
  split
  · split
    · split
      · assumption
      · exact Nat.zero_le _
    · exact Nat.zero_le _
  · exact Nat.zero_le _
theorem clS_len (o x y : List dCell) : (clS o x y).length ≤ o.length + x.length + y.length := by
  unfold clS allR
  refine Nat.le_trans (List.length_filter_le _ _) (Nat.le_trans (plcs_len _) ?_)
  simp [refsOf]
  omega
theorem mrgR_refs (o x y : List dCell) : (mrgR o x y).2.1.length ≤ o.length + x.length + y.length := by
  unfold mrgR
  split
  · split
    · split
      · exact Nat.zero_le _
      · exact Nat.zero_le _
    · exact clS_len o x y
  · exact Nat.zero_le _
end Go.Proofs.YtbkcnfbjigjgdaaGreatDoor.Abs
