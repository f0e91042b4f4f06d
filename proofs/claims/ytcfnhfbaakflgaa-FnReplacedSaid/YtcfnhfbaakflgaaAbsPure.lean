/- Operations that change nothing: what the reader says of them is what the model does. -/
import Derived.Test.YtcfnhfbaakflgaaAbsInv
import Derived.Test.YtcfnhfbaakflgaaAbsK
import Derived.WalkLawsBesides
set_option linter.unusedVariables false
set_option linter.unusedSimpArgs false
namespace Go.Proofs.Ytcfnhfbaakflgaa.Abs
open Go Go.RowKit

def updG (get : Nat → Option Res) : Up → Nat → Option Res
  | [] => get
  | (r, x) :: u => updG (fun s => if s = r then x else get s) u

theorem int_val {L : Lk} {γ : Nat → Option G} {k : IntKind} {n : Int} : RV L γ (.val (.int k) n) (.int k n) := RV.val (t := .int k) (cs := [.int k n]) rfl
theorem bool_val {L : Lk} {γ : Nat → Option G} {b : Bool} : RV L γ (.val .bool b) (.bool b) := RV.val (t := .bool) (cs := [.bool b]) rfl
theorem str_val {L : Lk} {γ : Nat → Option G} {s : ByteArray} : RV L γ (.val .str s) (.string s) := RV.val (t := .str) (cs := [.string s]) rfl
theorem val_int {L : Lk} {γ : Nat → Option G} {k : IntKind} {n : Int} {u : Value} (h : RV L γ (.val (.int k) n) u) : u = .int k n := by
  cases h with
  | val h => rw [show _ = [Value.int k n] from h]; rfl
theorem val_bool {L : Lk} {γ : Nat → Option G} {b : Bool} {u : Value} (h : RV L γ (.val .bool b) u) : u = .bool b := by
  cases h with
  | val h => rw [show _ = [Value.bool b] from h]; rfl
theorem val_str {L : Lk} {γ : Nat → Option G} {s : ByteArray} {u : Value} (h : RV L γ (.val .str s) u) : u = .string s := by
  cases h with
  | val h => rw [show _ = [Value.string s] from h]; rfl

section
variable {P : Program} {w : World} {L : Lk} {γ : Nat → Option G} {v : SV} {u : Up}
theorem binInt_ok {op : BinOp} {k : IntKind} {a b : Int} {T : TypeId} (h : binInt op k a b ans = some (v, u)) : u = [] ∧ ∃ x, (binOp op T (.int k a) (.int k b)).run P w = .ok x w ∧ RV L γ v x := by
  cases op <;> simp only [binInt, ans] at h
  case quo =>
    split at h
    · cases h
    · cases h
      exact ⟨rfl, _, by simp [go_sem, Op.intDiv, *], int_val⟩
  case rem =>
    split at h
    · cases h
    · cases h
      exact ⟨rfl, _, by simp [go_sem, Op.intDiv, *], int_val⟩
  case shl =>
    split at h
    · cases h
    · cases h
      exact ⟨rfl, _, by rw [binOp_shl]; simp [Op.shift, *], int_val⟩
  case shr =>
    split at h
    · cases h
    · cases h
      exact ⟨rfl, _, by rw [binOp_shr]; simp [Op.shift, *], int_val⟩
  all_goals
    cases h
    refine ⟨rfl, _, ?_, by first | exact int_val | exact bool_val⟩
    simp [go_sem, Op.intArith] <;> rfl
theorem shift_ok {op : BinOp} {k k' : IntKind} {a b : Int} {T : TypeId} (ho : op = .shl ∨ op = .shr) (h : binInt op k a b ans = some (v, u)) : u = [] ∧ ∃ x, (binOp op T (.int k a) (.int k' b)).run P w = .ok x w ∧ RV L γ v x := by
  rcases ho with rfl | rfl <;> simp only [binInt, ans] at h <;> split at h <;> cases h
  · exact ⟨rfl, _, by rw [binOp_shl]; simp [Op.shift, *], int_val⟩
  · exact ⟨rfl, _, by rw [binOp_shr]; simp [Op.shift, *], int_val⟩
theorem binStr_ok {op : BinOp} {a b : ByteArray} {T : TypeId} (h : binStr op a b ans = some (v, u)) : u = [] ∧ ∃ x, (binOp op T (.string a) (.string b)).run P w = .ok x w ∧ RV L γ v x := by
  cases op <;> simp only [binStr, ans] at h <;> try (cases h; done)
  case add =>
    split at h
    · rename_i hs
      cases h
      refine ⟨rfl, _, ?_, str_val⟩
      rw [binOp_string_add]
      have : ¬ ((a.size + b.size : Nat) : Int) > IntKind.i64.max := by simp [IntKind.max, IntKind.signed, IntKind.bits]; omega
      simp only [Op.stringOp, if_neg this, Sem.run_pure]
    · cases h
  all_goals
    cases h
    exact ⟨rfl, _, by simp [go_sem], bool_val⟩
end
end Go.Proofs.Ytcfnhfbaakflgaa.Abs
