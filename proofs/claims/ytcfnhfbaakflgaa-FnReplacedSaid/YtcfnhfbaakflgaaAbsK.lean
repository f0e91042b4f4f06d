/- What is told and what comes of it. -/
import Derived.Test.YtcfnhfbaakflgaaAbs
set_option linter.unusedVariables false
set_option linter.unusedSimpArgs false
set_option linter.unusedSectionVars false
namespace Go.Proofs.Ytcfnhfbaakflgaa.Abs
open Go

abbrev ans : SV → Up → Option (SV × Up) := fun v u => some (v, u)
section
variable {R : Type} {E : Env} {call : (I : FnI) → List SV → Tab → Option (I.sh.den × I.bx.den)} {K : SV → Up → Option R}
theorem binInt_k {op : BinOp} {k : IntKind} {a b : Int} : binInt op k a b K = (binInt op k a b ans).bind fun p => K p.1 p.2 := by
  cases op <;> simp only [binInt] <;> ((repeat' split) <;> first | rfl | (simp_all; done))
theorem binStr_k {op : BinOp} {a b : ByteArray} : binStr op a b K = (binStr op a b ans).bind fun p => K p.1 p.2 := by
  cases op <;> simp only [binStr] <;> ((repeat' split) <;> first | rfl | (simp_all; done))
theorem binOp2_k {op : BinOp} {T : TypeId} {x y : SV} : binOp2 E op T x y K = (binOp2 E op T x y ans).bind fun p => K p.1 p.2 := by
  unfold binOp2
  split
  · split
    · exact binInt_k
    · exact binInt_k
    · split
      · exact binInt_k
      · rfl
  · exact binStr_k
  · split <;> rfl
  · split
    · split <;> rfl
    · rfl
  · rfl
theorem cutStr_k {s : ByteArray} {lo hi : Option Int} : cutStr s lo hi K = (cutStr s lo hi ans).bind fun p => K p.1 p.2 := by
  cases lo <;> cases hi <;> simp only [cutStr] <;> ((repeat' split) <;> first | rfl | (simp_all; done))
theorem cutList_k {e : TypeId} {t : Ty} {xs : List t.den} {lo hi : Option Int} {u : Up} : cutList e t xs lo hi u K = (cutList e t xs lo hi u ans).bind fun p => K p.1 p.2 := by
  cases lo <;> cases hi <;> simp only [cutList] <;> ((repeat' split) <;> first | rfl | (simp_all; done))
theorem ite_k {c : Prop} [Decidable c] {x : Option R} {y : Option (SV × Up)} (h : x = y.bind fun p => K p.1 p.2) : (if c then x else none) = (if c then y else none).bind fun p => K p.1 p.2 := by
  split
  · exact h
  · rfl
theorem sliceSV_k {ty : Ty} {lo hi : Option SV} {x : SV} {res : Tab} {r0 : Nat} : sliceSV ty lo hi x res r0 K = (sliceSV ty lo hi x res r0 ans).bind fun p => K p.1 p.2 := by
  unfold sliceSV
  split
  · exact cutStr_k
  · split
    · exact ite_k (ite_k (ite_k rfl))
    · exact ite_k cutList_k
    · exact ite_k cutList_k
    · rfl
  · split
    · exact cutList_k
    · rfl
  · rfl
theorem tailSV_k {lo hi : Option Operand} {ty : Ty} {x : SV} {is : List SV} {res : Tab} : tailSV lo hi ty x is res K = (tailSV lo hi ty x is res ans).bind fun p => K p.1 p.2 := by
  unfold tailSV
  split
  · split
    · exact ite_k (ite_k (ite_k rfl))
    · rfl
  · rfl
theorem clearSV_k {argTypes : Array TypeId} {v : SV} {res : Tab} : clearSV E argTypes v res K = (clearSV E argTypes v res ans).bind fun p => K p.1 p.2 := by
  unfold clearSV
  split
  · split
    · exact ite_k rfl
    · rfl
  · rfl
theorem lenSV_k {argTypes : Array TypeId} {v : SV} {res : Tab} : lenSV E argTypes v res K = (lenSV E argTypes v res ans).bind fun p => K p.1 p.2 := by
  unfold lenSV
  split
  · rfl
  · split <;> rfl
  · rfl
theorem appendSV_k {argTypes : Array TypeId} {s x : SV} {res : Tab} {r0 : Nat} : appendSV E argTypes s x res r0 K = (appendSV E argTypes s x res r0 ans).bind fun p => K p.1 p.2 := by
  unfold appendSV
  split
  · split
    · split
      · exact ite_k rfl
      · rfl
    · rfl
  · rfl
theorem foldSV_k {f : Int → Int → Int} {v : SV} {l : List SV} : foldSV f v l K = (foldSV f v l ans).bind fun p => K p.1 p.2 := by
  unfold foldSV
  split
  · split <;> rfl
  · rfl
theorem builtin2_k {b : Builtin} {argTypes : Array TypeId} {T : TypeId} {args : List SV} {res : Tab} {r0 : Nat} : builtin2 E b argTypes T args res r0 K = (builtin2 E b argTypes T args res r0 ans).bind fun p => K p.1 p.2 := by
  unfold builtin2
  split
  · split
    · exact lenSV_k
    · rfl
  · split
    · exact appendSV_k
    · rfl
  · split
    · exact foldSV_k
    · rfl
  · split
    · exact foldSV_k
    · rfl
  · split
    · exact clearSV_k
    · rfl
  · rfl
theorem callKey_k {g key : Nat} {args : List SV} {res : Tab} {r0 : Nat} : callKey E call g key args res r0 K = (callKey E call g key args res r0 ans).bind fun p => K p.1 p.2 := by
  unfold callKey
  split
  · rfl
  · split
    · rfl
    · split
      · rfl
      · dsimp only
        split
        · generalize call _ _ _ = z0
          cases z0 with
          | none => rfl
          | some z =>
            simp only [Option.bind_some]
            split <;> rfl
        · rfl
theorem callFn_k {g : Nat} {args : List SV} {res : Tab} {r0 : Nat} : callFn E call g args res r0 K = (callFn E call g args res r0 ans).bind fun p => K p.1 p.2 := by
  unfold callFn
  split
  · exact callKey_k
  · rename_i s hs
    cases s.dec res args with
    | none => rfl
    | some b =>
      simp only [Option.bind_some]
      split <;> exact callKey_k
theorem core_k {o : Oper} {vs : List SV} {res : Tab} {r0 : Nat} : core E call o vs res r0 K = (core E call o vs res r0 ans).bind fun p => K p.1 p.2 := by
  obtain ⟨dst, op, ty, pos, after, guard⟩ := o
  cases op
  case makeFunc fn first captured => cases fn <;> rcases vs with _ | ⟨v1, _ | ⟨v2, _ | ⟨v3, _ | ⟨v4, vs⟩⟩⟩⟩ <;> first | rfl | (unfold core; dsimp only; repeat' (first | rfl | exact binOp2_k | exact builtin2_k | exact sliceSV_k | exact tailSV_k | exact callFn_k | exact cutList_k | refine ite_k ?_ | split))
  all_goals
    rcases vs with _ | ⟨v1, _ | ⟨v2, _ | ⟨v3, _ | ⟨v4, vs⟩⟩⟩⟩ <;> first | rfl | (unfold core; dsimp only; repeat' (first | rfl | exact binOp2_k | exact builtin2_k | exact sliceSV_k | exact tailSV_k | exact callFn_k | exact cutList_k | refine ite_k ?_ | split))
theorem core_says {o : Oper} {vs : List SV} {res : Tab} {r0 : Nat} {z : R} (h : core E call o vs res r0 K = some z) : ∃ v u, core E call o vs res r0 ans = some (v, u) ∧ K v u = some z := by
  rw [core_k, Option.bind_eq_some_iff] at h
  obtain ⟨⟨v, u⟩, h1, h2⟩ := h
  exact ⟨v, u, h1, h2⟩
end
end Go.Proofs.Ytcfnhfbaakflgaa.Abs
