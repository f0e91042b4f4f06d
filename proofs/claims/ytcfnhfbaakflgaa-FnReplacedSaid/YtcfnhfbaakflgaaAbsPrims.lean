/- Plain functions for what is shown otherwise; paths in a code. -/
import Derived.Test.YtcfnhfbaakflgaaAbsEv
import Derived.Sort.AssemblyPlain
import Derived.Lib.BitFns
set_option linter.unusedVariables false
namespace Go.Proofs.Ytcfnhfbaakflgaa.Abs
open Go

def kids : Code → List Code
  | .seq a b => [a, b]
  | .cond _ a b => [a, b]
  | .block _ a => [a]
  | .loop a => [a]
  | _ => []
/-- A part of a code. -/
def at_ : Code → List Nat → Code
  | c, [] => c
  | c, i :: l => match kids c, i with
    | a :: _, 0 => at_ a l
    | [_, b], 1 => at_ b l
    | _, _ => .skip
instance (t : Ty) : Inhabited t.den := ⟨t.dflt⟩
/-- A clone of a slice: a row of the call's own. -/
def clonePrim (e : TypeId) (t : Ty) (nb : Nat) : List SV → Tab → Option ((Sh.pair (.row e t false) .unit).den × Sh.unit.den)
  | [.val s xs], [] => (cast? (t := s) (.slice e t) xs).bind fun xs => if (xs : List t.den).length * nb ≤ 140737488355328 then some ((xs, ()), ()) else none
  | _, _ => none
/-- What pdqsort makes of a row. -/
noncomputable def sorted {α : Type} [Inhabited α] (lt : α → α → Bool) (xs : List α) : List α := (Sort.pdq lt xs.toArray 0 xs.toArray.size (Lib.bitLen xs.toArray.size) true true).toList
noncomputable def sortPrim (e : TypeId) (t : Ty) (g : Nat) (lt : t.den → t.den → Bool) : List SV → Tab → Option (Sh.unit.den × (Sh.pair (.row e t false) .unit).den)
  | [.row 0, .fn g' []], [(0, .row e' s xs false)] => if g' = g then (cast? (t := .slice e' s) (.slice e t) xs).bind fun xs => if (xs : List t.den).length < 4611686018427387904 then some ((), sorted lt (xs : List t.den), ()) else none else none
  | _, _ => none
/-- A row put ahead of another one. -/
def insertPrim (e : TypeId) (t : Ty) (nb : Nat) : List SV → Tab → Option ((Sh.pair (.row e t false) .unit).den × Sh.unit.den)
  | [.row 0, .val (.int .i64) i, .row 1], [(0, .row e1 s1 xs false), (1, .row e2 s2 ys false)] => (cast? (t := .slice e1 s1) (.slice e t) xs).bind fun xs => (cast? (t := .slice e2 s2) (.slice e t) ys).bind fun ys =>
    if (i : Int) = 0 ∧ 0 < (xs : List t.den).length ∧ 0 < (ys : List t.den).length ∧ ((xs : List t.den).length + (ys : List t.den).length) * nb ≤ 140737488355328 then some (((ys : List t.den) ++ (xs : List t.den), ()), ()) else none
  | _, _ => none
end Go.Proofs.Ytcfnhfbaakflgaa.Abs
