/- Plain laws: marks that are written into rows, and read again. -/
import Derived.Test.YtbkcnfbjigjgdaaGreatDoorZP4
set_option linter.unusedVariables false
set_option linter.unusedSimpArgs false
set_option linter.unusedSectionVars false
namespace Go.Proofs.YtbkcnfbjigjgdaaGreatDoor.Abs
open Go

theorem inb_pre {α β : Type} {pre ys : List α} {y : α} {k : Option β} : inb (pre ++ y :: ys) (pre.length : Int) k = k := inb_at rfl
theorem ix_pre {α β : Type} {pre ys : List α} {y d : α} {f : α → Option β} : ix (pre ++ y :: ys) (pre.length : Int) d f = f y := ix_at rfl
theorem markText_loop : ∀ (n m : Nat) (acc : ByteArray), m ≤ n → acc.size + n ≤ 1000000000000000000 → ∃ t, wmarkText_p4 (m : Int) acc = some ((t, ()), ())
  | n, 0, acc, h, ha => by
    rw [wmarkText_p4_eq, ifF (by decide), cats_ok (by show 1 + acc.size ≤ _; omega)]
    exact ⟨_, rfl⟩
  | 0, m + 1, acc, h, ha => by omega
  | n + 1, m + 1, acc, h, ha => by
    have hd : (m + 1) / 10 ≤ n := by omega
    have hs : (strOfNums ([(IntKind.u8.wrap (IntKind.i64.wrap (48 + (Int.tmod ((m + 1 : Nat) : Int) 10))))] : List Int)).size = 1 := rfl
    obtain ⟨t, ht⟩ := markText_loop n ((m + 1) / 10) (strOfNums ([(IntKind.u8.wrap (IntKind.i64.wrap (48 + (Int.tmod ((m + 1 : Nat) : Int) 10))))] : List Int) ++ acc) hd (by rw [ByteArray.size_append, hs]; omega)
    rw [wmarkText_p4_eq, ifT (by omega), cats_ok (by rw [hs]; omega)]
    have e : IntKind.i64.wrap (Int.tdiv ((m + 1 : Nat) : Int) 10) = (((m + 1) / 10 : Nat) : Int) := by
      have : Int.tdiv ((m + 1 : Nat) : Int) 10 = (((m + 1) / 10 : Nat) : Int) := rfl
      rw [this, wr (by omega) (by omega)]
    rw [e]
    exact ⟨t, ht⟩
theorem markText_ok {k : Int} (h0 : 0 ≤ k) (h1 : k ≤ 100000000000000) : ∃ t, wmarkText k = some ((t, ()), ()) := by
  obtain ⟨n, rfl⟩ := Int.eq_ofNat_of_zero_le h0
  rw [wmarkText_eq]
  by_cases h : (n : Int) ≤ 0
  · rw [ifT h]
    exact ⟨_, rfl⟩
  · rw [ifF h]
    exact markText_loop n n _ (Nat.le_refl _) (by show 0 + n ≤ _; omega)
/-- Rows that were marked from a number on. -/
theorem mark_loop {α : Type} {M : Int → Int → List α → Option ((Int × Unit) × (List α × Unit))} {H : List α → Int → Int → Option ((Int × Unit) × Unit)} {w : Nat} (hw : w ≤ 10)
    (hM : ∀ k pre y ys, 0 ≤ k → k ≤ 10000000000000 → (pre ++ y :: ys).length ≤ 1000000000 → ∃ z, M k (pre.length : Int) (pre ++ y :: ys) = M (k + w) ((pre.length : Int) + 1) (pre ++ z :: ys) ∧ ∀ pre' ys', (pre' ++ z :: ys').length ≤ 1000000000 → H (pre' ++ z :: ys') k (pre'.length : Int) = H (pre' ++ z :: ys') (k + w) ((pre'.length : Int) + 1))
    (hM0 : ∀ k pre, M k (pre.length : Int) pre = some ((k, ()), (pre, ()))) (hH0 : ∀ k pre, H pre k (pre.length : Int) = some ((k, ()), ())) :
    ∀ (ys pre : List α) (k : Int), 0 ≤ k → k + 10 * ys.length ≤ 10000000000000 → (pre ++ ys).length ≤ 1000000000 → ∃ zs, zs.length = ys.length ∧ M k (pre.length : Int) (pre ++ ys) = some ((k + w * ys.length, ()), (pre ++ zs, ())) ∧ ∀ pre', pre'.length + ys.length ≤ 1000000000 → H (pre' ++ zs) k (pre'.length : Int) = some ((k + w * ys.length, ()), ())
  | [], pre, k, h0, h1, hl => by
    refine ⟨[], rfl, ?_, fun pre' _ => ?_⟩
    · rw [List.append_nil, hM0]
      simp
    · rw [List.append_nil, hH0]
      simp
  | y :: ys, pre, k, h0, h1, hl => by
    rw [List.length_cons] at h1
    obtain ⟨z, hz1, hz2⟩ := hM k pre y ys h0 (by omega) hl
    obtain ⟨zs, e0, e1, e2⟩ := mark_loop hw hM hM0 hH0 ys (pre ++ [z]) (k + w) (by omega) (by omega) (by simp only [List.length_append, List.length_cons, List.length_nil] at hl ⊢; omega)
    have ek : k + (w : Int) + (w : Int) * (ys.length : Int) = k + (w : Int) * ((y :: ys).length : Int) := by
      rw [List.length_cons, Int.natCast_add, Int.mul_add]
      omega
    refine ⟨z :: zs, by simp [e0], ?_, fun pre' hp => ?_⟩
    · rw [hz1]
      have : ((pre ++ [z]).length : Int) = (pre.length : Int) + 1 := by simp
      rw [this] at e1
      have e3 : pre ++ [z] ++ ys = pre ++ z :: ys := by simp
      have e4 : pre ++ [z] ++ zs = pre ++ z :: zs := by simp
      rw [e3, e4, ek] at e1
      exact e1
    · rw [List.length_cons] at hp
      rw [hz2 pre' zs (by simp only [List.length_append, List.length_cons]; omega)]
      have := e2 (pre' ++ [z]) (by simp only [List.length_append, List.length_singleton]; omega)
      have e5 : ((pre' ++ [z]).length : Int) = (pre'.length : Int) + 1 := by simp
      have e4 : pre' ++ [z] ++ zs = pre' ++ z :: zs := by simp
      rw [e5, e4, ek] at this
      exact this
theorem markCell_ok {s : List dCell} {k : Int} (h0 : 0 ≤ k) (h1 : k + 10 * s.length ≤ 10000000000000) (hl : s.length ≤ 1000000000) : ∃ zs, zs.length = s.length ∧ wmarkCellS_r k s = some ((k + 3 * s.length, ()), (zs, ())) ∧ wheldCellS zs k = some ((k + 3 * s.length, ()), ()) := by
  obtain ⟨zs, e0, e1, e2⟩ := mark_loop (M := fun k i s => wmarkCellS_r_p2 k i s) (H := fun s k i => wheldCellS_p2 s k i) (w := 3) (by decide) (fun k pre y ys h0 h1 hl => by
    have hp : pre.length < 1000000000 := by simp only [List.length_append, List.length_cons] at hl; omega
    obtain ⟨t, ht⟩ := markText_ok (k := k + 1 + 1) (by omega) (by omega)
    refine ⟨((k, k + 1, ()), t, ()), ?_, fun pre' ys' hl' => ?_⟩
    · rw [wmarkCellS_r_p2_eq, ifT lt_len]
      simp only [inb_pre, getD_at, set_at]
      have a1 : IntKind.i64.wrap (k + 1) = k + 1 := wr (by omega) (by omega)
      have a2 : IntKind.i64.wrap (k + 1 + 1) = k + 1 + 1 := wr (by omega) (by omega)
      have a3 : IntKind.i64.wrap (k + 1 + 1 + 1) = k + 3 := by rw [wr (by omega) (by omega)]; omega
      have a4 : IntKind.i64.wrap ((pre.length : Int) + 1) = (pre.length : Int) + 1 := wr (by omega) (by omega)
      simp only [a1, a2, a3, a4, ht, Option.bind_some]
      rfl
    · have hp' : pre'.length < 1000000000 := by simp only [List.length_append, List.length_cons] at hl'; omega
      rw [wheldCellS_p2_eq, ifT lt_len]
      simp only [ix_pre]
      have a1 : IntKind.i64.wrap (k + 1) = k + 1 := wr (by omega) (by omega)
      have a2 : IntKind.i64.wrap (k + 1 + 1) = k + 1 + 1 := wr (by omega) (by omega)
      have a3 : IntKind.i64.wrap (k + 1 + 1 + 1) = k + 3 := by rw [wr (by omega) (by omega)]; omega
      have a4 : IntKind.i64.wrap ((pre'.length : Int) + 1) = (pre'.length : Int) + 1 := wr (by omega) (by omega)
      simp only [a1, a2, a3, a4, ht, Option.bind_some]
      simp)
    (fun k pre => by rw [wmarkCellS_r_p2_eq, ifF (Int.lt_irrefl _)]) (fun k pre => by rw [wheldCellS_p2_eq, ifF (Int.lt_irrefl _)]) s [] k h0 h1 (by simpa using hl)
  refine ⟨zs, e0, ?_, ?_⟩
  · rw [wmarkCellS_r_eq]
    exact e1
  · rw [wheldCellS_eq]
    exact e2 [] (by simp; omega)
theorem markRef_ok {s : List dRef} {k : Int} (h0 : 0 ≤ k) (h1 : k + 10 * s.length ≤ 10000000000000) (hl : s.length ≤ 1000000000) : ∃ zs, zs.length = s.length ∧ wmarkRefS_r k s = some ((k + 2 * s.length, ()), (zs, ())) ∧ wheldRefS zs k = some ((k + 2 * s.length, ()), ()) := by
  obtain ⟨zs, e0, e1, e2⟩ := mark_loop (M := fun k i s => wmarkRefS_r_p2 k i s) (H := fun s k i => wheldRefS_p2 s k i) (w := 2) (by decide) (fun k pre y ys h0 h1 hl => by
    have hp : pre.length < 1000000000 := by simp only [List.length_append, List.length_cons] at hl; omega
    refine ⟨(k, k + 1, ()), ?_, fun pre' ys' hl' => ?_⟩
    · rw [wmarkRefS_r_p2_eq, ifT lt_len]
      simp only [inb_pre, getD_at, set_at]
      have a1 : IntKind.i64.wrap (k + 1) = k + 1 := wr (by omega) (by omega)
      have a3 : IntKind.i64.wrap (k + 1 + 1) = k + 2 := by rw [wr (by omega) (by omega)]; omega
      have a4 : IntKind.i64.wrap ((pre.length : Int) + 1) = (pre.length : Int) + 1 := wr (by omega) (by omega)
      simp only [a1, a3, a4]
      rfl
    · have hp' : pre'.length < 1000000000 := by simp only [List.length_append, List.length_cons] at hl'; omega
      rw [wheldRefS_p2_eq, ifT lt_len]
      simp only [ix_pre]
      have a1 : IntKind.i64.wrap (k + 1) = k + 1 := wr (by omega) (by omega)
      have a3 : IntKind.i64.wrap (k + 1 + 1) = k + 2 := by rw [wr (by omega) (by omega)]; omega
      have a4 : IntKind.i64.wrap ((pre'.length : Int) + 1) = (pre'.length : Int) + 1 := wr (by omega) (by omega)
      simp only [a1, a3, a4]
      simp)
    (fun k pre => by rw [wmarkRefS_r_p2_eq, ifF (Int.lt_irrefl _)]) (fun k pre => by rw [wheldRefS_p2_eq, ifF (Int.lt_irrefl _)]) s [] k h0 h1 (by simpa using hl)
  refine ⟨zs, e0, ?_, ?_⟩
  · rw [wmarkRefS_r_eq]
    exact e1
  · rw [wheldRefS_eq]
    exact e2 [] (by simp; omega)
end Go.Proofs.YtbkcnfbjigjgdaaGreatDoor.Abs
