/- Loops of the laws' helpers: sizes, copies, comparing. -/
import Derived.Test.YtiligfmembmapaaGreatDoorZPB
set_option linter.unusedVariables false
set_option linter.unusedSimpArgs false
set_option linter.unusedSectionVars false
namespace Go.Proofs.YtiligfmembmapaaGreatDoor.Abs
open Go

theorem ifT {α : Type} {p : Prop} [Decidable p] {a b : α} (h : p) : (if decide p = true then a else b) = a := if_pos (decide_eq_true h)
theorem ifF {α : Type} {p : Prop} [Decidable p] {a b : α} (h : ¬ p) : (if decide p = true then a else b) = b := if_neg (by simpa using h)
theorem sz_step {w left : Int} {n rest : Nat} {K : Int → Option ((Int × Unit) × Unit)} (hw : szr left n = w) (h0 : 0 ≤ left) (h1 : left ≤ 9223372036854775807) (hK : ∀ l, 0 ≤ l → l ≤ 9223372036854775807 → K l = some ((szr l rest, ()), ())) :
    (if decide (w < 0) = true then some ((-1, ()), ()) else K w) = some ((szr left (n + rest), ()), ()) := by
  subst hw
  by_cases hn : szr left n < 0
  · rw [ifT hn, szr_fail hn]
  · have := szr_le (n := n) h0
    rw [ifF hn, hK _ (by omega) (by omega), szr_add hn]
theorem sz_step' {w left : Int} {n rest : Nat} {K : Int → Option ((Int × Unit) × Unit)} (hw : IntKind.i64.wrap (left - (n : Int)) = w) (hn : (n : Int) ≤ 9223372036854775807) (h0 : 0 ≤ left) (h1 : left ≤ 9223372036854775807) (hK : ∀ l, 0 ≤ l → l ≤ 9223372036854775807 → K l = some ((szr l rest, ()), ())) :
    (if decide (w < 0) = true then some ((-1, ()), ()) else K w) = some ((szr left (n + rest), ()), ()) := by
  subst hw
  obtain ⟨h2, h3⟩ := szr_sub (left := left) (n := n) h0 h1 (by omega)
  by_cases hn : szr left n < 0
  · rw [ifT (h2.2 hn), szr_fail hn]
  · have := szr_le (n := n) h0
    rw [ifF (fun h => hn (h2.1 h)), h3 hn, hK _ (by omega) (by omega), szr_add hn]
theorem sz_end (l : Int) (h0 : 0 ≤ l) (h1 : l ≤ 9223372036854775807) : some ((l, ()), ()) = some ((szr l 0, ()), ()) := by rw [szr_zero h0]
section
variable {α : Type}
theorem szS_loop {f : α → Nat} {xs : List α} {P : Int → Int → Option ((Int × Unit) × Unit)} {c : α → Int → Option ((Int × Unit) × Unit)} {d : α}
    (hP : ∀ l i, P l i = if decide (i < (xs.length : Int)) = true then ix xs i d fun y => (c y l).bind fun z => if decide (z.1.1 < 0) = true then some ((-1, ()), ()) else P z.1.1 (IntKind.i64.wrap (i + 1)) else some ((l, ()), ()))
    (hc : ∀ y ∈ xs, ∀ l, 0 ≤ l → l ≤ 9223372036854775807 → c y l = some ((szr l (f y), ()), ())) (hl : (xs.length : Int) ≤ 9223372036854775807) : ∀ l, 0 ≤ l → l ≤ 9223372036854775807 → P l 0 = some ((szr l (bkL f xs), ()), ()) := by
  have go : ∀ (ys pre : List α), xs = pre ++ ys → ∀ l, 0 ≤ l → l ≤ 9223372036854775807 → P l (pre.length : Int) = some ((szr l (bkL f ys), ()), ()) := by
    intro ys
    induction ys with
    | nil =>
      intro pre he l h0 h1
      rw [hP, ifF (nlt_at he)]
      exact sz_end l h0 h1
    | cons y ys ih =>
      intro pre he l h0 h1
      rw [hP, ifT (lt_at he), ix_at he, hc y (by rw [he]; simp) l h0 h1, Option.bind_some]
      show (if decide (szr l (f y) < 0) = true then _ else P (szr l (f y)) (IntKind.i64.wrap (↑pre.length + 1))) = _
      generalize hw : szr l (f y) = w
      refine sz_step (K := fun w => P w (IntKind.i64.wrap (↑pre.length + 1))) hw h0 h1 fun l' h0' h1' => ?_
      show P l' (IntKind.i64.wrap (↑pre.length + 1)) = _
      rw [wrap_at he (by omega)]
      exact ih _ (next_at he) l' h0' h1'
  exact go xs [] rfl
theorem toS_loop {xs : List α} {P : Int → List α → Option ((List α × Unit) × Unit)} {c : α → Option ((α × Unit) × Unit)} {d : α}
    (hP : ∀ i zs, P i zs = if decide (i < (xs.length : Int)) = true then ix xs i d fun y => (c y).bind fun z => inb zs i (P (IntKind.i64.wrap (i + 1)) (zs.set i.toNat z.1.1)) else some ((zs, ()), ()))
    (hc : ∀ y ∈ xs, c y = some ((y, ()), ())) (hl : (xs.length : Int) ≤ 9223372036854775807) : ∀ zs : List α, zs.length = xs.length → P 0 zs = some ((xs, ()), ()) := by
  have go : ∀ (ys pre zs : List α), xs = pre ++ ys → zs.length = ys.length → P (pre.length : Int) (pre ++ zs) = some ((xs, ()), ()) := by
    intro ys
    induction ys with
    | nil =>
      intro pre zs he hz
      rw [hP, ifF (nlt_at he), List.eq_nil_of_length_eq_zero hz, he]
    | cons y ys ih =>
      intro pre zs he hz
      cases zs with
      | nil => cases hz
      | cons z zs =>
        rw [hP, ifT (lt_at he), ix_at he, hc y (by rw [he]; simp), Option.bind_some, inb_at rfl, set_at, wrap_at he (by omega), show pre ++ y :: zs = (pre ++ [y]) ++ zs by simp]
        exact ih _ zs (next_at he) (by simpa using hz)
  intro zs hz
  exact go xs [] zs rfl hz
theorem toS_loop0 {xs : List α} {P : Int → List α → Option ((List α × Unit) × Unit)} {d : α}
    (hP : ∀ i zs, P i zs = if decide (i < (xs.length : Int)) = true then ix xs i d fun y => inb zs i (P (IntKind.i64.wrap (i + 1)) (zs.set i.toNat y)) else some ((zs, ()), ()))
    (hl : (xs.length : Int) ≤ 9223372036854775807) : ∀ zs : List α, zs.length = xs.length → P 0 zs = some ((xs, ()), ()) :=
  toS_loop (c := fun y => some ((y, ()), ())) (fun i zs => by rw [hP]; rfl) (fun _ _ => rfl) hl
theorem eqS_self {xs : List α} {P : Int → Option ((Bool × Unit) × Unit)} {B : α → α → Option ((Bool × Unit) × Unit) → Option ((Bool × Unit) × Unit)} {d d' : α}
    (hP : ∀ i, P i = if decide (i < (xs.length : Int)) = true then ix xs i d fun y => ix xs i d' fun y' => B y y' (P (IntKind.i64.wrap (i + 1))) else some ((true, ()), ()))
    (hB : ∀ y ∈ xs, ∀ k, B y y k = k) (hl : (xs.length : Int) ≤ 9223372036854775807) : P 0 = some ((true, ()), ()) := by
  have go : ∀ (ys pre : List α), xs = pre ++ ys → P (pre.length : Int) = some ((true, ()), ()) := by
    intro ys
    induction ys with
    | nil =>
      intro pre he
      rw [hP, ifF (nlt_at he)]
    | cons y ys ih =>
      intro pre he
      rw [hP, ifT (lt_at he), ix_at he, ix_at he, hB y (by rw [he]; simp), wrap_at he (by omega)]
      exact ih _ (next_at he)
  exact go xs [] rfl
end
end Go.Proofs.YtiligfmembmapaaGreatDoor.Abs
