/- Plain laws: the places of sheets, what two sheets differ in: both sides. -/
import Derived.Test.YtbkcnfbjigjgdaaGreatDoorZP4
set_option linter.unusedVariables false
set_option linter.unusedSimpArgs false
set_option linter.unusedSectionVars false
namespace Go.Proofs.YtbkcnfbjigjgdaaGreatDoor.Abs
open Go

/-! ### Equal neighbours are dropped -/
def dd (b : dRef) : List dRef → List dRef
  | [] => []
  | y :: ys => if y = b then dd y ys else y :: dd y ys
def cmpR : List dRef → List dRef
  | [] => []
  | c :: l => c :: dd c l
theorem dd_mem {q : dRef} : ∀ {l : List dRef} {c : dRef}, q ∈ c :: dd c l ↔ q ∈ c :: l
  | [], c => Iff.rfl
  | y :: ys, c => by
    have ih := dd_mem (q := q) (l := ys) (c := y)
    unfold dd
    by_cases h : y = c
    · rw [if_pos h]
      subst h
      rw [ih, List.mem_cons, List.mem_cons, List.mem_cons]
      constructor
      · rintro (h | h)
        · exact .inl h
        · exact .inr (.inr h)
      · rintro (h | h | h)
        · exact .inl h
        · exact .inl h
        · exact .inr h
    · rw [if_neg h, List.mem_cons, ih, List.mem_cons (a := q) (b := c)]
theorem dd_srt : ∀ {l : List dRef} {c : dRef}, ((c :: l).Pairwise fun a b => aheadB b a = false) → SrtR (c :: dd c l)
  | [], c, _ => List.pairwise_singleton _ _
  | y :: ys, c, h => by
    have h1 := List.pairwise_cons.1 h
    have ih := dd_srt (l := ys) (c := y) h1.2
    unfold dd
    by_cases e : y = c
    · rw [if_pos e]
      subst e
      exact ih
    · rw [if_neg e]
      have hcy : aheadB c y = true := by
        rcases ahead_total c y with k | k | k
        · exact k
        · exact absurd k.symm e
        · rw [h1.1 y (by simp)] at k
          cases k
      refine List.pairwise_cons.2 ⟨fun d hd => ?_, ih⟩
      rcases List.mem_cons.1 hd with rfl | hd
      · exact hcy
      · exact ahead_trans hcy ((List.pairwise_cons.1 ih).1 d hd)
theorem eqRn {a b : dRef} : (eqB tRef a b = false) = (a ≠ b) := by
  rw [← Bool.not_eq_true]
  exact congrArg Not eqRg
theorem compact_p9 : ∀ (ys kept junk : List dRef) (b : dRef) (base x2 : Nat), base + x2 = kept.length + junk.length + 1 → 1 ≤ x2 → kept.length + junk.length + ys.length + 1 ≤ 1000000000 → slices_Compact_Ref_r_p9 (kept.length : Int) (base : Int) (x2 : Int) (kept ++ junk ++ b :: ys) = some ((kept ++ dd b ys, ()), ())
  | [], kept, junk, b, base, x2, hb, h1, hl => by
    have hlen : ((kept ++ junk ++ [b]).length : Int) = (base : Int) + x2 := by simp only [List.length_append, List.length_singleton]; omega
    rw [slices_Compact_Ref_r_p9_eq, ifF (by omega), if_pos (by omega), if_pos (by simp only [List.length_append, List.length_singleton]; omega), rwh_ok (by omega) (by simp only [List.length_append, List.length_take, List.length_replicate, List.length_singleton, Int.toNat_natCast]; omega)]
    simp [dd]
  | y :: ys, kept, junk, b, base, x2, hb, h1, hl => by
    rw [List.length_cons] at hl
    have hlen : ((kept ++ junk ++ b :: y :: ys).length : Int) = (base : Int) + x2 + 1 + ys.length := by simp only [List.length_append, List.length_cons]; omega
    have g1 : List.getD (kept ++ junk ++ b :: y :: ys) (Int.toNat ((base : Int) + x2)) tRef.dflt = y := by
      have : (base : Int) + (x2 : Int) = ((kept ++ junk ++ [b]).length : Int) := by simp only [List.length_append, List.length_singleton]; omega
      rw [this, show kept ++ junk ++ b :: y :: ys = (kept ++ junk ++ [b]) ++ y :: ys by simp]
      exact getD_at
    have w1 : IntKind.i64.wrap ((x2 : Int) - 1) = (x2 : Int) - 1 := wr (by omega) (by omega)
    have w2 : IntKind.i64.wrap ((x2 : Int) + 1) = ((x2 + 1 : Nat) : Int) := by rw [wr (by omega) (by omega)]; omega
    have g2 : List.getD (kept ++ junk ++ b :: y :: ys) (Int.toNat ((base : Int) + ((x2 : Int) - 1))) tRef.dflt = b := by
      have : (base : Int) + ((x2 : Int) - 1) = ((kept ++ junk).length : Int) := by simp only [List.length_append]; omega
      rw [this]
      exact getD_at
    rw [slices_Compact_Ref_r_p9_eq, ifT (by omega), if_pos (by omega), if_pos (by omega), w1, if_pos (by omega), if_pos (by omega), g1, g2]
    unfold dd
    by_cases e : y = b
    · rw [if_pos e, eqRg.mpr e, if_neg (by decide), w2]
      have ih := compact_p9 ys kept (junk ++ [b]) y base (x2 + 1) (by simp only [List.length_append, List.length_singleton]; omega) (by omega) (by simp only [List.length_append, List.length_singleton]; omega)
      rw [show kept ++ (junk ++ [b]) ++ y :: ys = kept ++ junk ++ b :: y :: ys by simp] at ih
      exact ih
    · rw [if_neg e, eqRn.mpr e, if_pos (by rfl), if_pos (by omega), if_pos (by omega), inb_ok (by omega) (by simp only [List.length_append, List.length_cons]; omega), w2, wr (by omega) (by omega)]
      obtain ⟨z, zs, hz⟩ : ∃ z zs, junk ++ [b] = z :: zs := by
        cases junk with
        | nil => exact ⟨b, [], rfl⟩
        | cons z zs => exact ⟨z, zs ++ [b], rfl⟩
      have hzl : zs.length = junk.length := by
        have := congrArg List.length hz
        simp only [List.length_append, List.length_cons, List.length_nil] at this
        omega
      have ih := compact_p9 ys (kept ++ [y]) zs y base (x2 + 1) (by simp only [List.length_append, List.length_singleton]; omega) (by omega) (by simp only [List.length_append, List.length_singleton]; omega)
      have e1 : List.set (kept ++ junk ++ b :: y :: ys) (Int.toNat (kept.length : Int)) y = kept ++ [y] ++ zs ++ y :: ys := by
        have : kept ++ junk ++ b :: y :: ys = kept ++ z :: (zs ++ y :: ys) := by
          rw [show kept ++ junk ++ b :: y :: ys = kept ++ ((junk ++ [b]) ++ y :: ys) by simp, hz]
          simp
        rw [this, set_at]
        simp
      rw [e1]
      have e2 : ((kept ++ [y]).length : Int) = (kept.length : Int) + 1 := by simp
      rw [e2] at ih
      rw [ih]
      simp
theorem compact_p4 : ∀ (ys pre : List dRef) (b : dRef), pre.length + ys.length + 1 ≤ 1000000000 → slices_Compact_Ref_r_p4 ((pre.length : Int) + 1) (pre ++ b :: ys) = some ((pre ++ b :: dd b ys, ()), ())
  | [], pre, b, hl => by
    rw [slices_Compact_Ref_r_p4_eq, ifF (by simp only [List.length_append, List.length_singleton]; omega)]
    rfl
  | y :: ys, pre, b, hl => by
    rw [List.length_cons] at hl
    have g1 : List.getD (pre ++ b :: y :: ys) (Int.toNat ((pre.length : Int) + 1)) tRef.dflt = y := by
      have : (pre.length : Int) + 1 = ((pre ++ [b]).length : Int) := by simp
      rw [this, show pre ++ b :: y :: ys = (pre ++ [b]) ++ y :: ys by simp]
      exact getD_at
    have w1 : IntKind.i64.wrap ((pre.length : Int) + 1 - 1) = (pre.length : Int) := by rw [wr (by omega) (by omega)]; omega
    have w2 : IntKind.i64.wrap ((pre.length : Int) + 1 + 1) = (pre.length : Int) + 1 + 1 := wr (by omega) (by omega)
    rw [slices_Compact_Ref_r_p4_eq, ifT (by simp only [List.length_append, List.length_cons]; omega), inb_ok (by omega) (by simp only [List.length_append, List.length_cons]; omega), w1, inb_at (xs := pre ++ b :: y :: ys) rfl, g1, getD_at]
    unfold dd
    by_cases e : y = b
    · rw [if_pos e, eqRg.mpr e, if_pos rfl, if_pos (by omega), if_pos (by simp only [List.length_append, List.length_cons]; omega)]
      have := compact_p9 ys (pre ++ [b]) [] y (pre.length + 1) 1 (by simp) (by omega) (by simp only [List.length_append, List.length_singleton, List.length_nil]; omega)
      simp only [List.append_nil, List.append_assoc, List.singleton_append, List.length_append, List.length_singleton] at this
      exact this
    · rw [if_neg e, eqRn.mpr e, if_neg (by decide), w2]
      have ih := compact_p4 ys (pre ++ [b]) y (by simp only [List.length_append, List.length_singleton]; omega)
      simp only [List.append_assoc, List.singleton_append, List.length_append, List.length_singleton] at ih
      exact ih
theorem compact_ok {l : List dRef} (hl : l.length ≤ 1000000000) : slices_Compact_Ref_r l = some ((cmpR l, ()), ()) := by
  rw [slices_Compact_Ref_r_eq]
  cases l with
  | nil => rfl
  | cons c l =>
    cases l with
    | nil => rfl
    | cons d l =>
      rw [ifF (by simp only [List.length_cons]; omega)]
      exact compact_p4 (d :: l) [] c (by simp only [List.length_nil, List.length_cons] at hl ⊢; omega)
theorem sort_ref {s : List dRef} (hl : s.length ≤ 1000000000) : slices_SortFunc_Ref_r_icompareRefs s = some ((), (sorted (α := tRef.den) aheadB s, ())) := by
  rw [slices_SortFunc_Ref_r_icompareRefs_eq]
  unfold sortPrim
  simp only [cast?, dite_true, Option.bind_some, if_true]
  exact if_pos (by omega)
theorem swoR' : Sort.SWO (α := tRef.den) aheadB := swoR
theorem cmp_sorted (l : List dRef) : cmpR (sorted (α := tRef.den) aheadB l) = plcs l := by
  have hp := sorted_perm swoR' l
  have hs := sorted_sorted swoR' l
  refine srtR_ext ?_ (plcs_srt l) fun q => ?_
  · cases hq : sorted (α := tRef.den) aheadB l with
    | nil => exact List.Pairwise.nil
    | cons c m =>
      rw [hq] at hs
      exact dd_srt hs
  · rw [mem_plcs, ← hp.mem_iff]
    cases hq : sorted (α := tRef.den) aheadB l with
    | nil => exact Iff.rfl
    | cons c m => exact dd_mem
/-! ### The places of sheets -/
section
variable {ls : List (List dCell)} (hls : ls.length ≤ 10)
include hls
theorem places_in {s : List dCell} {i : Int} (hs : s.length ≤ 2000000) : ∀ (ys pre : List dCell) (acc : List dRef), s = pre ++ ys → acc.length + ys.length ≤ 100000000 → iplaces_p6 ls (ls.length : Int) i s (s.length : Int) (pre.length : Int) acc = iplaces_p3 ls (ls.length : Int) (IntKind.i64.wrap (i + 1)) (acc ++ refsOf ys)
  | [], pre, acc, h, ha => by
    rw [iplaces_p6_eq, ifF (nlt_at h)]
    simp [refsOf]
  | y :: ys, pre, acc, h, ha => by
    rw [List.length_cons] at ha
    rw [iplaces_p6_eq, ifT (lt_at h), ix_at h, app_ok (by simp only [List.length_singleton]; omega), wrap_at h (by omega), places_in hs ys _ _ (next_at h) (by simp only [List.length_append, List.length_singleton]; omega)]
    simp [refsOf]
theorem places_out (hs : ∀ s ∈ ls, s.length ≤ 2000000) : ∀ (ys pre : List (List dCell)) (acc : List dRef), ls = pre ++ ys → acc.length ≤ 2000000 * pre.length → iplaces_p3 ls (ls.length : Int) (pre.length : Int) acc = some ((plcs (acc ++ ys.flatMap refsOf), ()), ())
  | [], pre, acc, h, ha => by
    have hp : pre.length ≤ 10 := by rw [h] at hls; simpa using hls
    rw [iplaces_p3_eq, ifF (nlt_at h), sort_ref (by omega), Option.bind_some]
    have hl := (sorted_perm swoR' acc).length_eq
    rw [compact_ok (by rw [hl]; omega), Option.bind_some, cmp_sorted]
    simp
  | y :: ys, pre, acc, h, ha => by
    have hp : pre.length < 10 := by rw [h] at hls; simp only [List.length_append, List.length_cons] at hls; omega
    have hy := hs y (by rw [h]; simp)
    have e := places_in hls (i := (pre.length : Int)) hy y [] acc rfl (by omega)
    rw [iplaces_p3_eq, ifT (lt_at h), ix_at h]
    refine e.trans ?_
    rw [wrap_at h (by omega), places_out hs ys _ _ (next_at h) (by simp only [List.length_append, List.length_singleton, refsOf, List.length_map]; omega)]
    simp
theorem iplaces_ok (hs : ∀ s ∈ ls, s.length ≤ 2000000) : iplaces ls = some ((plcs (ls.flatMap refsOf), ()), ()) := by
  rw [iplaces_eq]
  have := places_out hls hs ls [] [] rfl (by simp)
  simpa using this
end
/-! ### What two sheets differ in -/
section
variable {a b : List dCell} (ha : a.length ≤ 2000000) (hb : b.length ≤ 2000000)
include ha hb
end
/-- What both say. -/
noncomputable def dfR (a b : List dCell) : List dChange := if okSheet a = true ∧ okSheet b = true then dfS a b else []
section
variable {a b : List dCell} (ha : a.length ≤ 2000000) (hb : b.length ≤ 2000000) (hsa : ∀ c ∈ a, c.2.1.size ≤ 9223372036854775807) (hsb : ∀ c ∈ b, c.2.1.size ≤ 9223372036854775807)
include ha hb hsa hsb
omit hsa hsb in
theorem sDiffOf_loop : ∀ (l m pl pm : List dCell) (acc : List dChange), a = pl ++ l → b = pm ++ m → acc.length + l.length + m.length ≤ 100000000 → sDiffOf_p6 a b (pl.length : Int) (pm.length : Int) acc = some ((acc ++ dfM l m, ()), ())
  | [], [], pl, pm, acc, h1, h2, hc => by
    rw [sDiffOf_p6_eq, ifF (nlt_at h1), ifF (nlt_at h2)]
    unfold dfM
    simp
  | x :: l, [], pl, pm, acc, h1, h2, hc => by
    rw [List.length_cons] at hc
    have hk : ((pm.length : Int) == (b.length : Int)) = true := by rw [h2]; simp
    have ih := fun acc hc => sDiffOf_loop l [] (pl ++ [x]) pm acc (next_at h1) h2 hc
    have hdf : dfM (x :: l) [] = cC (x.1, x.2.1, eS, ()) (dfM l []) := by conv => lhs; unfold dfM
    rw [sDiffOf_p6_eq, ifT (lt_at h1), if_pos hk, ix_at h1, ix_at h1, eqE, wrap_at h1 (by omega), app_ok (by simp only [List.length_singleton]; omega), ih _ (by first | omega | (simp only [List.length_append, List.length_singleton, List.length_nil, List.length_cons] at hc ⊢; omega)), ih _ (by first | omega | (simp only [List.length_append, List.length_singleton, List.length_nil, List.length_cons] at hc ⊢; omega)), hdf]
    unfold cC
    by_cases e : x.2.1 = eS <;> simp [e]
  | [], y :: m, pl, pm, acc, h1, h2, hc => by
    rw [List.length_cons] at hc
    have hi : ((pl.length : Int) == (a.length : Int)) = true := by rw [h1]; simp
    have hk : ¬ ((pm.length : Int) == (b.length : Int)) = true := by
      have := lt_at h2
      simp only [beq_iff_eq]
      omega
    have ih := fun acc hc => sDiffOf_loop [] m pl (pm ++ [y]) acc h1 (next_at h2) hc
    rw [sDiffOf_p6_eq, ifF (nlt_at h1), ifT (lt_at h2), if_neg hk, ifF (nlt_at h1), if_pos hi, ix_at h2, ix_at h2, wrap_at h2 (by omega), app_ok (by simp only [List.length_singleton]; omega), ih _ (by first | omega | (simp only [List.length_append, List.length_singleton, List.length_nil, List.length_cons] at hc ⊢; omega)), ih _ (by first | omega | (simp only [List.length_append, List.length_singleton, List.length_nil, List.length_cons] at hc ⊢; omega))]
    rw [show (ByteArray.toList (⟨#[]⟩ : ByteArray) == ByteArray.toList y.2.1) = decide (eS = y.2.1) from eqS]
    have hdf : dfM [] (y :: m) = cC (y.1, eS, y.2.1, ()) (dfM [] m) := by conv => lhs; unfold dfM
    rw [hdf]
    unfold cC
    by_cases e : eS = y.2.1 <;> simp [e]
  | x :: l, y :: m, pl, pm, acc, h1, h2, hc => by
    rw [List.length_cons, List.length_cons] at hc
    have hi : ¬ ((pl.length : Int) == (a.length : Int)) = true := by
      have := lt_at h1
      simp only [beq_iff_eq]
      omega
    have hk : ¬ ((pm.length : Int) == (b.length : Int)) = true := by
      have := lt_at h2
      simp only [beq_iff_eq]
      omega
    have i1 := fun acc hc => sDiffOf_loop l (y :: m) (pl ++ [x]) pm acc (next_at h1) h2 hc
    have i2 := fun acc hc => sDiffOf_loop (x :: l) m pl (pm ++ [y]) acc h1 (next_at h2) hc
    have i3 := fun acc hc => sDiffOf_loop l m (pl ++ [x]) (pm ++ [y]) acc (next_at h1) (next_at h2) hc
    rw [sDiffOf_p6_eq, ifT (lt_at h1), if_neg hk, ifT (lt_at h1)]
    simp only [ix_at h1, ix_at h2, sl1Ahead_ok, Option.bind_some]
    rw [if_neg hi]
    have e0 : (ByteArray.toList (⟨#[]⟩ : ByteArray) == ByteArray.toList y.2.1) = decide (eS = y.2.1) := eqS
    have e1 : (ByteArray.toList x.2.1 == ByteArray.toList (⟨#[]⟩ : ByteArray)) = decide (x.2.1 = eS) := eqS
    have e2 : (ByteArray.toList x.2.1 == ByteArray.toList y.2.1) = decide (x.2.1 = y.2.1) := eqS
    rw [e0, e1, e2, wrap_at h1 (by omega), wrap_at h2 (by omega)]
    rw [app_ok (by simp only [List.length_singleton]; omega), app_ok (by simp only [List.length_singleton]; omega), app_ok (by simp only [List.length_singleton]; omega)]
    rw [i1 _ (by first | omega | (simp only [List.length_append, List.length_singleton, List.length_nil, List.length_cons] at hc ⊢; omega)), i1 _ (by first | omega | (simp only [List.length_append, List.length_singleton, List.length_nil, List.length_cons] at hc ⊢; omega)), i2 _ (by first | omega | (simp only [List.length_append, List.length_singleton, List.length_nil, List.length_cons] at hc ⊢; omega)), i2 _ (by first | omega | (simp only [List.length_append, List.length_singleton, List.length_nil, List.length_cons] at hc ⊢; omega)), i3 _ (by first | omega | (simp only [List.length_append, List.length_singleton, List.length_nil, List.length_cons] at hc ⊢; omega)), i3 _ (by first | omega | (simp only [List.length_append, List.length_singleton, List.length_nil, List.length_cons] at hc ⊢; omega))]
    have hdf : dfM (x :: l) (y :: m) = if aheadB x.1 y.1 = true then cC (x.1, x.2.1, eS, ()) (dfM l (y :: m)) else if aheadB y.1 x.1 = true then cC (y.1, eS, y.2.1, ()) (dfM (x :: l) m) else cC (x.1, x.2.1, y.2.1, ()) (dfM l m) := by conv => lhs; unfold dfM
    rw [hdf]
    cases k1 : aheadB x.1 y.1 with
    | true =>
      simp only [if_true]
      unfold cC
      by_cases e : x.2.1 = eS <;> simp [e]
    | false =>
      simp only [Bool.false_eq_true, if_false]
      cases k2 : aheadB y.1 x.1 with
      | true =>
        simp only [if_true]
        unfold cC
        by_cases e : eS = y.2.1 <;> simp [e]
      | false =>
        simp only [Bool.false_eq_true, if_false]
        unfold cC
        by_cases e : x.2.1 = y.2.1 <;> simp [e]
termination_by l m => l.length + m.length
theorem sDiffOf_ok : sDiffOf a b = some ((dfR a b, ()), ()) := by
  rw [sDiffOf_eq, sSheetOk_ok hsa (by omega), Option.bind_some]
  dsimp only
  unfold dfR
  cases h1 : okSheet a with
  | false => simp
  | true =>
    rw [if_neg (by decide), sSheetOk_ok hsb (by omega), Option.bind_some]
    dsimp only
    cases h2 : okSheet b with
    | false => simp
    | true =>
      rw [if_neg (by decide)]
      refine (sDiffOf_loop ha hb a b [] [] [] rfl rfl (by simp only [List.length_nil]; omega)).trans ?_
      rw [dfM_eq (okSheet_srt h1) (okSheet_srt h2)]
      simp
end
end Go.Proofs.YtbkcnfbjigjgdaaGreatDoor.Abs
/- Plain laws: changes turned round, what is merged: both sides. -/
set_option linter.unusedVariables false
set_option linter.unusedSimpArgs false
set_option linter.unusedSectionVars false
namespace Go.Proofs.YtbkcnfbjigjgdaaGreatDoor.Abs
open Go

/-! ### Merged -/
section
variable {o x y : List dCell} (ho : o.length ≤ 2000000) (hx : x.length ≤ 2000000) (hy : y.length ≤ 2000000)
include ho hx hy
theorem imerged_loop {P : List dRef} (hP : P.length ≤ 10000000) : ∀ (ys pre : List dRef) (cs : List dCell) (rs : List dRef), P = pre ++ ys → cs.length + ys.length ≤ 100000000 → rs.length + ys.length ≤ 100000000 → imerged_p3 o x y (P.length : Int) (pre.length : Int) cs rs P = some ((cs ++ ys.flatMap (fun q => cellV q (mrgV o x y q)), rs ++ ys.filter (clB o x y), ()), ())
  | [], pre, cs, rs, h, hc, hr => by
    rw [imerged_p3_eq, ifF (nlt_at h)]
    simp
  | q :: ys, pre, cs, rs, h, hc, hr => by
    rw [List.length_cons] at hc hr
    have hg : List.getD P (Int.toNat (pre.length : Int)) tRef.dflt = q := by rw [h]; exact getD_at
    have ih := fun cs rs hc hr => imerged_loop hP ys (pre ++ [q]) cs rs (next_at h) hc hr
    rw [imerged_p3_eq, ifT (lt_at h), inb_at h, hg, isourceAt_ok (by omega), Option.bind_some, isourceAt_ok (by omega), Option.bind_some, isourceAt_ok (by omega), Option.bind_some]
    dsimp only
    simp only [eqD, eqE]
    rw [wrap_at h (by omega), List.flatMap_cons, List.filter_cons]
    simp only [app_ok (show (cs.length + [((q, srcAt q y, ()) : dCell)].length) * 32 ≤ 140737488355328 by simp only [List.length_singleton]; omega), app_ok (show (cs.length + [((q, srcAt q x, ()) : dCell)].length) * 32 ≤ 140737488355328 by simp only [List.length_singleton]; omega), app_ok (show (rs.length + [q].length) * 16 ≤ 140737488355328 by simp only [List.length_singleton]; omega)]
    have j1 := ih cs rs (by omega) (by omega)
    have j2 := ih cs (rs ++ [q]) (by omega) (by simp only [List.length_append, List.length_singleton]; omega)
    have j3 := ih (cs ++ [(q, srcAt q y, ())]) rs (by simp only [List.length_append, List.length_singleton]; omega) (by omega)
    have j4 := ih (cs ++ [(q, srcAt q x, ())]) rs (by simp only [List.length_append, List.length_singleton]; omega) (by omega)
    have j5 := ih (cs ++ [(q, srcAt q x, ())]) (rs ++ [q]) (by simp only [List.length_append, List.length_singleton]; omega) (by simp only [List.length_append, List.length_singleton]; omega)
    simp only [j1, j2, j3, j4, j5]
    have hcl : clB o x y q = (!decide (srcAt q x = srcAt q o) && (!decide (srcAt q y = srcAt q o) && !decide (srcAt q x = srcAt q y))) := rfl
    have hmv : mrgV o x y q = if srcAt q x = srcAt q o then srcAt q y else srcAt q x := rfl
    have hcv : ∀ v : ByteArray, cellV q v = if v = eS then [] else [(q, v, ())] := fun _ => rfl
    clear j1 j2 j3 j4 j5 ih
    generalize (ys.flatMap fun q => cellV q (mrgV o x y q)) = A
    generalize List.filter (clB o x y) ys = B
    rw [hcl, hmv]
    generalize srcAt q x = vx
    generalize srcAt q y = vy
    generalize srcAt q o = vo
    by_cases e1 : vx = vo
    · subst e1
      by_cases e2 : vy = eS
      · simp [hcv, e2]
      · simp [hcv, e2]
    · by_cases e3 : vy = vo
      · subst e3
        by_cases e2 : vx = eS
        · subst e2
          simp [hcv, e1]
        · simp [hcv, e1, e2]
      · by_cases e4 : vx = vy
        · subst e4
          by_cases e2 : vx = eS
          · subst e2
            simp [hcv, e1]
          · simp [hcv, e1, e2]
        · by_cases e2 : vx = eS
          · subst e2
            simp [hcv, e1, e3, e4]
          · simp [hcv, e1, e2, e3, e4]
theorem imerged_ok : imerged o x y = some ((mrgS o x y, clS o x y, ()), ()) := by
  rw [imerged_eq, iplaces_ok (by simp) (by intro s hs; simp only [List.mem_cons, List.not_mem_nil, or_false] at hs; rcases hs with rfl | rfl | rfl <;> assumption), Option.bind_some]
  have hP := plcs_len ([o, x, y].flatMap refsOf)
  have hl : ([o, x, y].flatMap refsOf).length = o.length + x.length + y.length := by simp [refsOf]; omega
  dsimp only
  have := imerged_loop ho hx hy (P := plcs ([o, x, y].flatMap refsOf)) (by omega) (plcs ([o, x, y].flatMap refsOf)) [] [] [] rfl (by simp only [List.length_nil]; omega) (by simp only [List.length_nil]; omega)
  refine this.trans ?_
  have e : plcs ([o, x, y].flatMap refsOf) = allR o x y := by
    unfold allR
    congr 1
    simp
  unfold mrgS clS
  rw [e]
  simp
end
def mEnd (p : List dCell × List dRef) : List dCell × List dRef × Bool := if p.2 = [] then (if p.1.length ≤ 120 then (p.1, [], true) else ([], [], false)) else ([], p.2, false)
theorem mrgR_ok {o x y : List dCell} (h1 : okSheet o = true) (h2 : okSheet x = true) (h3 : okSheet y = true) : mrgR o x y = mEnd (mrgS o x y, clS o x y) := if_pos ⟨h1, h2, h3⟩
theorem mrgR_no {o x y : List dCell} (h : ¬ (okSheet o = true ∧ okSheet x = true ∧ okSheet y = true)) : mrgR o x y = ([], [], false) := if_neg h
theorem m_last (p : List dCell × List dRef) : (if decide ((p.2.length : Int) > 0) = true then (some ((([] : (List dCell)), p.2, false, ()), (()))) else (if decide ((p.1.length : Int) > 120) = true then (some ((([] : (List dCell)), ([] : (List dRef)), false, ()), (()))) else (some ((p.1, ([] : (List dRef)), true, ()), (()))))) = some (((mEnd p).1, (mEnd p).2.1, (mEnd p).2.2, ()), ()) := by
  obtain ⟨a, b⟩ := p
  unfold mEnd
  cases b with
  | cons r b =>
    rw [ifT (by simp only [List.length_cons]; omega)]
    simp
  | nil =>
    rw [ifF (by simp)]
    by_cases hn : a.length ≤ 120
    · rw [ifF (by simp only; omega)]
      simp [hn]
    · rw [ifT (by simp only; omega)]
      simp [hn]
section
variable {o x y : List dCell} (ho : o.length ≤ 2000000) (hx : x.length ≤ 2000000) (hy : y.length ≤ 2000000) (hso : ∀ c ∈ o, c.2.1.size ≤ 9223372036854775807) (hsx : ∀ c ∈ x, c.2.1.size ≤ 9223372036854775807) (hsy : ∀ c ∈ y, c.2.1.size ≤ 9223372036854775807)
include ho hx hy hso hsx hsy
theorem iMerged_ok : iMerged o x y = some (((mrgR o x y).1, (mrgR o x y).2.1, (mrgR o x y).2.2, ()), ()) := by
  rw [iMerged_eq, iSheetOk_ok hso (by omega), Option.bind_some]
  dsimp only
  cases h1 : okSheet o with
  | false =>
    rw [mrgR_no (by rw [h1]; exact fun h => by cases h.1)]
    rfl
  | true =>
    rw [if_neg (by decide), iSheetOk_ok hsx (by omega), Option.bind_some]
    dsimp only
    cases h2 : okSheet x with
    | false =>
      rw [mrgR_no (by rw [h2]; exact fun h => by cases h.2.1)]
      rfl
    | true =>
      rw [if_neg (by decide), iSheetOk_ok hsy (by omega), Option.bind_some]
      dsimp only
      cases h3 : okSheet y with
      | false =>
        rw [mrgR_no (by rw [h3]; exact fun h => by cases h.2.2)]
        rfl
      | true =>
        rw [if_neg (by decide), imerged_ok ho hx hy, Option.bind_some, mrgR_ok h1 h2 h3]
        exact m_last (mrgS o x y, clS o x y)
omit ho hy hso hsx hsy in
theorem sMerged_loop {l : List dChange} (hl : l.length ≤ 2000000) : ∀ (ys pre : List dChange) (p : List dCell × List dRef), l = pre ++ ys → p.1.length ≤ 1000000 + pre.length → p.1.length + ys.length ≤ 1000000 → p.2.length + ys.length ≤ 1000000 → sMerged_p7 x (pre.length : Int) p.1 p.2 l = some (((mEnd (ys.foldl (mstep x) p)).1, (mEnd (ys.foldl (mstep x) p)).2.1, (mEnd (ys.foldl (mstep x) p)).2.2, ()), ())
  | [], pre, p, h, h1, h2, h3 => by
    rw [sMerged_p7_eq, ifF (nlt_at h)]
    exact m_last p
  | c :: ys, pre, p, h, h1, h2, h3 => by
    rw [List.length_cons] at h2 h3
    have hg : List.getD l (Int.toNat (pre.length : Int)) tChange.dflt = c := by rw [h]; exact getD_at
    have ih := fun p h1 h2 h3 => sMerged_loop hl ys (pre ++ [c]) p (next_at h) h1 h2 h3
    rw [sMerged_p7_eq, ifT (lt_at h)]
    simp only [inb_at h, hg]
    rw [sl5At_ok (by omega), Option.bind_some]
    dsimp only
    simp only [eqD]
    rw [wrap_at h (by omega), List.foldl_cons]
    have hm : mstep x p c = if srcAt c.1 x = c.2.1 then (setS p.1 c.1 c.2.2.1, p.2) else if srcAt c.1 x = c.2.2.1 then p else (p.1, p.2 ++ [c.1]) := rfl
    by_cases e1 : srcAt c.1 x = c.2.1
    · have hsl := set_len p.1 c.1 c.2.2.1
      rw [decide_eq_true e1, if_pos rfl, sl5Set_ok (by omega), Option.bind_some, hm, if_pos e1]
      exact ih (setS p.1 c.1 c.2.2.1, p.2) (by simp only [List.length_append, List.length_singleton]; omega) (by simp only; omega) (by simp only; omega)
    · rw [decide_eq_false e1, if_neg (by decide), hm, if_neg e1]
      by_cases e2 : srcAt c.1 x = c.2.2.1
      · rw [decide_eq_true e2, if_neg (by decide), if_pos e2]
        exact ih p (by simp only [List.length_append, List.length_singleton]; omega) (by omega) (by omega)
      · rw [decide_eq_false e2, if_pos (by rfl), if_neg e2, app_ok (by simp only [List.length_singleton]; omega)]
        exact ih (p.1, p.2 ++ [c.1]) (by simp only [List.length_append, List.length_singleton]; omega) (by simp only; omega) (by simp only [List.length_append, List.length_singleton]; omega)
theorem sMerged_ok : sMerged o x y = some (((mrgR o x y).1, (mrgR o x y).2.1, (mrgR o x y).2.2, ()), ()) := by
  rw [sMerged_eq, sSheetOk_ok hso (by omega), Option.bind_some]
  dsimp only
  cases h1 : okSheet o with
  | false =>
    rw [mrgR_no (by rw [h1]; exact fun h => by cases h.1)]
    rfl
  | true =>
    rw [if_neg (by decide), sSheetOk_ok hsx (by omega), Option.bind_some]
    dsimp only
    cases h2 : okSheet x with
    | false =>
      rw [mrgR_no (by rw [h2]; exact fun h => by cases h.2.1)]
      rfl
    | true =>
      rw [if_neg (by decide), sSheetOk_ok hsy (by omega), Option.bind_some]
      dsimp only
      cases h3 : okSheet y with
      | false =>
        rw [mrgR_no (by rw [h3]; exact fun h => by cases h.2.2)]
        rfl
      | true =>
        have l1 := okSheet_len h2
        have l2 := dfS_len2 h1 h3
        have hd : dfR o y = dfS o y := if_pos ⟨h1, h3⟩
        rw [if_neg (by decide), app_ok (by simp only [List.length_nil]; omega), sDiffOf_ok ho hy hso hsy, Option.bind_some, hd, mrgR_ok h1 h2 h3, ← merge_ok (o := o) (x := x) (y := y) (okSheet_srt h2) (okSheet_ne h2)]
        exact sMerged_loop (l := dfS o y) hx (by omega) (dfS o y) [] (x, []) rfl (by simp only; omega) (by simp only; omega) (by simp only [List.length_nil]; omega)
end
theorem mrgR_size (o x y : List dCell) : (mrgR o x y).1.length ≤ 120 := by
  unfold mrgR
  split
  · split
    · split
      · assumption
      · exact Nat.zero_le _
    · exact Nat.zero_le _
  · exact Nat.zero_le _
theorem clS_len (o x y : List dCell) : (clS o x y).length ≤ o.length + x.length + y.length := by
  unfold clS allR
  refine Nat.le_trans (List.length_filter_le _ _) (Nat.le_trans (plcs_len _) ?_)
  simp [refsOf]
  omega
theorem mrgR_refs (o x y : List dCell) : (mrgR o x y).2.1.length ≤ o.length + x.length + y.length := by
  unfold mrgR
  split
  · split
    · split
      · exact Nat.zero_le _
      · exact Nat.zero_le _
    · exact clS_len o x y
  · exact Nat.zero_le _
end Go.Proofs.YtbkcnfbjigjgdaaGreatDoor.Abs
