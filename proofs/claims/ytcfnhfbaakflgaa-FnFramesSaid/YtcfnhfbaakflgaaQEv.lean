/- Small words on 'from some number of rounds on'. -/
import Derived.Test.YtcfnhfbaakflgaaWWords
namespace Go.Proofs.Ytcfnhfbaakflgaa.Pure
open Go.RowKit Go.Proofs.YtcfnhfbaakflgaaW.PrintWords

theorem w64 {i : Int} (h0 : -9223372036854775808 ≤ i) (h : i ≤ 9223372036854775807) : wrap64 i = i := by
  unfold wrap64
  omega
theorem pos_ {α : Type} {c : Prop} [Decidable c] {f g : Nat → Option α} {r : α} (h : c) (H : Ev f r) : Ev (fun k => if c then f k else g k) r := by
  simp only [if_pos h]
  exact H
theorem neg_ {α : Type} {c : Prop} [Decidable c] {f g : Nat → Option α} {r : α} (h : ¬ c) (H : Ev g r) : Ev (fun k => if c then f k else g k) r := by
  simp only [if_neg h]
  exact H
/-- A step that takes no rounds. -/
theorem now_ {α β : Type} {a : α} {f : Nat → α → Option β} {r : β} (H : Ev (fun k => f k a) r) : Ev (fun k => (some a).bind (f k)) r := H
end Go.Proofs.Ytcfnhfbaakflgaa.Pure
