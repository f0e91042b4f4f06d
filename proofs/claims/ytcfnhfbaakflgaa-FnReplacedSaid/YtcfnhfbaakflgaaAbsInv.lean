/- The state of a reader over plain values and the model's state beside it. -/
import Derived.Test.YtcfnhfbaakflgaaAbsRep
import Derived.Tactics
import Derived.WalkKit
import Derived.WideLaws
set_option linter.unusedVariables false
set_option linter.unusedSimpArgs false
namespace Go.Proofs.Ytcfnhfbaakflgaa.Abs
open Go Go.RowKit

/-! ### 1. What is known of the program's types -/
/-- The cells of a zero value. -/
def zc : Ty → List Value
  | .int k => [.int k 0]
  | .bool => [.bool false]
  | .str => [.string ⟨#[]⟩]
  | .unit => []
  | .pair a b => zc a ++ zc b
  | .agg t => zc t
  | .slice _ _ => [.slice none 0 0]
def aggB : Ty → Bool
  | .agg _ => true
  | _ => false
def aggD : TypeDesc → Bool
  | .struct _ => true
  | .array _ _ => true
  | _ => false
/-- A variable's type (true: a record's fields in a row). -/
def WfB : Bool → Ty → Bool
  | true, .pair a b => WfB false a && WfB true b
  | true, .unit => true
  | true, _ => false
  | false, .agg t => WfB true t
  | false, .pair _ _ => false
  | false, .unit => false
  | false, _ => true
structure InfoOk (P : Program) (T : TypeId) (t : Ty) : Prop where
  mk ::
  info : ∃ i, P.info? T = some i ∧ i.size = t.sz ∧ ∃ z, i.zero = some z ∧ z.cells.toList = zc t
  agg : ∃ d, P.underlying T = some d ∧ aggD d = aggB t
  wf : WfB false t = true
theorem InfoOk.one {P : Program} {T : TypeId} {t : Ty} (h : InfoOk P T t) : t.sz = 1 ∨ ∃ u, t = .agg u := by
  have := h.wf
  cases t <;> first | (left; rfl) | (right; exact ⟨_, rfl⟩) | (simp [WfB] at this)
def FOk (P : Program) : List Field → Ty → Nat → Prop
  | [], .unit, _ => True
  | f :: fs, .pair a b, o => f.offset = o ∧ f.name ≠ "_" ∧ 0 < a.sz ∧ InfoOk P f.type a ∧ FOk P fs b (o + a.sz)
  | _, _, _ => False
def UnderOk (P : Program) (T : TypeId) : Ty → Prop
  | .int k => P.underlying T = some (.int k)
  | .bool => P.underlying T = some .bool
  | .str => P.underlying T = some .string
  | .slice e t => P.underlying T = some (.slice e) ∧ InfoOk P e t ∧ 0 < t.sz ∧ (t = .int .u8 → P.underlying e = some (.int .u8))
  | .agg t => ∃ fs, P.underlying T = some (.struct fs) ∧ FOk P fs.toList t 0
  | _ => False
/-- Records of this type are compared field by field. -/
def EqOk (P : Program) (T : TypeId) (t : Ty) : Prop := (∃ s, t = .agg s) ∧ P.eqGuardType P.depth T = false ∧
  ∀ (L : Lk) (x y : t.den) (cs ds : List Value) (w : World), RK L t x cs → RK L t y ds → (Op.equalIn 10000 T (mk t cs) (mk t ds)).run P w = .ok (eqB t x y) w
structure EnvOk (P : Program) (E : Env) : Prop where
  ty : ∀ T t, nth E.ty T = some t → UnderOk P T t ∧ InfoOk P T t
  by_ : ∀ e nb i, nth E.by_ e = some nb → P.info? e = some i → i.bytes = nb ∧ 0 < nb
  fns : ∀ g I, nth E.fns g = some I → P.funcs[I.g]? = some I.fn ∧ I.fn.body.isSome = true ∧ (I.fn.name == "runtime.NumGoroutine") = false
  eqs : ∀ T t, nth E.eqs T = some t → EqOk P T t

/-! ### 2. The two states side by side -/
/-- Cells that are leaned on. -/
def Ln (Pr : Nat → Nat → Prop) (w : World) : Lk := fun b o v => Pr b o ∧ w.cell? ⟨b, o, none⟩ = some v
def blk (γ : Nat → Option G) (r : Nat) : Res → Option Nat
  | .box _ _ => match γ r with
    | some (.box b _) => some b
    | _ => none
  | .row _ _ _ _ => match γ r with
    | some (.row _ _ v) => v.ownBlock
    | _ => none
  | .old _ _ _ => none
/-- The elements' cells. -/
def Els (L : Lk) (t : Ty) (xs : List t.den) (css : List (List Value)) : Prop := css.length = xs.length ∧ ∀ i (h : i < xs.length) (h' : i < css.length), RK L t xs[i] css[i]
def ResOk (L : Lk) (Pr : Nat → Nat → Prop) (γ : Nat → Option G) (w : World) (r : Nat) : Res → Prop
  | .box t c => ∃ b arr T, γ r = some (.box b t) ∧ w.heap[b]? = some (.cells arr T (0, 0)) ∧ RT L γ t c arr.toList
  | .row e t xs fr => ∃ v css, γ r = some (.row e t v) ∧ Els L t xs css ∧ w.ownsRow 0 e t.sz v xs.length css.flatten ∧ (fr = true → ∀ b, v.ownBlock = some b → ∀ o, o < xs.length * t.sz → Pr b o)
  | .old e t xs => ∃ v, γ r = some (.row e t v) ∧ RK L (.slice e t) xs [v]
/-- May this place of a resource's own block be leaned on? -/
def mayLean : Res → Nat → Prop
  | .row _ t xs true, o => o < xs.length * t.sz
  | _, _ => False
structure Inv (w0 : World) (X : Nat → Prop) (Pr0 : Nat → Nat → Prop) (sl : List SV) (get : Nat → Option Res) (γ : Nat → Option G) (Pr : Nat → Nat → Prop) (a : Act) (w : World) : Prop where
  slots : RVs (Ln Pr w) γ sl a.tmps.toList
  defers : a.defers = []
  gs : ∀ r e t v, γ r = some (.row e t v) → ∃ A n c, v = .slice A n c
  wfs : ∀ r b t, γ r = some (.box b t) → WfB false t = true
  res : ∀ r x, get r = some x → ResOk (Ln Pr w) Pr γ w r x
  apart : ∀ r r' x x' b, get r = some x → get r' = some x' → r ≠ r' → blk γ r x = some b → blk γ r' x' ≠ some b
  loose : ∀ r x b, get r = some x → blk γ r x = some b → ∀ o, Pr b o → mayLean x o
  where_ : ∀ r x b, get r = some x → blk γ r x = some b → X b ∨ w0.heap.size ≤ b
  frame : ∀ k, k < w0.heap.size → ¬ X k → w.heap[k]? = w0.heap[k]?
  size : w0.heap.size ≤ w.heap.size
  os : w.os = w0.os
  tape : w.tape = w0.tape
  output : w.output = w0.output
  prIn : ∀ b o, Pr b o → b < w.heap.size
  prOld : ∀ b, b < w0.heap.size → ¬ X b → ∀ o, Pr b o → Pr0 b o
  pr0 : ∀ b o v, Ln Pr0 w0 b o v → Ln Pr w b o v

/-! ### 3. Operands -/
theorem slot_get : ∀ (l : List SV) (n : Nat), slot l n = (l[n]?).getD .undef
  | [], 0 => rfl
  | [], n + 1 => by simp [slot]
  | x :: l, 0 => rfl
  | x :: l, n + 1 => by simp [slot, slot_get l n]
theorem const_ok {L : Lk} {γ : Nat → Option G} : ∀ v : Value, RV L γ (constSV v) v := by
  intro v
  unfold constSV
  split
  · exact RV.val (t := .int _) (cs := [.int _ _]) rfl
  · exact RV.val (t := .bool) (cs := [.bool _]) rfl
  · exact RV.val (t := .str) (cs := [.string _]) rfl
  · exact RV.nilS
  · exact RV.undef
theorem ev_ok {L : Lk} {γ : Nat → Option G} {sl : List SV} {a : Act} (h : RVs L γ sl a.tmps.toList) : ∀ x : Operand, RV L γ (ev sl x) (a.eval x)
  | .tmp t => by
    simp only [ev, slot_get, Act.eval]
    cases hs : sl[t]? with
    | none => exact RV.undef
    | some v =>
      obtain ⟨u, h1, h2⟩ := RVs_get h hs
      have : a.tmps.getD t undef = u := by
        rw [Array.getD_eq_getD_getElem?, ← Array.getElem?_toList, h1]
        rfl
      rw [this]
      exact h2
  | .const v => const_ok v
  | .func f => by
    have := RV.fn (L := L) (γ := γ) (g := f) RVs.nil
    exact this
  | .global _ => RV.undef
theorem evs_ok {L : Lk} {γ : Nat → Option G} {sl : List SV} {a : Act} (h : RVs L γ sl a.tmps.toList) : ∀ xs : List Operand, RVs L γ (xs.map (ev sl)) (xs.map a.eval)
  | [] => .nil
  | x :: xs => .cons (ev_ok h x) (evs_ok h xs)
theorem RVs_set {L : Lk} {γ : Nat → Option G} : ∀ {l : List SV} {us : List Value}, RVs L γ l us → ∀ {d : Nat} {v : SV} {u : Value}, RV L γ v u → RVs L γ (setSlot l d v) (us.set d u)
  | _, _, .nil, _, _, _, _ => .nil
  | _, _, .cons _ k, 0, _, _, hv => .cons hv k
  | _, _, .cons h k, d + 1, _, _, hv => .cons h (RVs_set k hv)

/-! ### 4. An operation that gives a value -/
section
variable {P : Program} {o : Oper} {a : Act} {w w' : World} {next : Act → World → Prop} {Q : Exit → Act → World → Prop} {v : Value} {s : Sem Value}
theorem wp_val (ho : execOp a.eval o = (do pure (.value (← s)))) (hs : s.run P w = .ok v w') (h : next (a.put o.dst v) w') : Oper.wp P o a w next Q := by
  unfold Oper.wp
  rw [ho]
  simp only [Sem.run_bind, hs, Result.andThen_ok, Sem.run_pure]
  exact h
end

/-- What an operation's step owes: from a state to one whose slot holds v and whose table is turned by u. -/
def Owes (P : Program) (w0 : World) (X : Nat → Prop) (Pr0 : Nat → Nat → Prop) (o : Oper) (sl : List SV) (get : Nat → Option Res) (γ : Nat → Option G) (Pr : Nat → Nat → Prop) (r0 : Nat) (a : Act) (w : World) (v : SV) (get' : Nat → Option Res) : Prop :=
  ∀ next Q, (∀ v' γ' Pr' w', RV (Ln Pr' w') γ' v v' → Inv w0 X Pr0 sl get' γ' Pr' a w' → (∀ r, ¬ (r0 ≤ r ∧ r < r0 + 64) → γ' r = γ r) → next (a.put o.dst v') w') → Oper.wp P o a w next Q
section
variable {P : Program} {w0 : World} {X : Nat → Prop} {Pr0 : Nat → Nat → Prop} {o : Oper} {sl : List SV} {get : Nat → Option Res} {γ : Nat → Option G} {Pr : Nat → Nat → Prop} {r0 : Nat} {a : Act} {w : World}
/-- An operation that changes nothing. -/
theorem owes_pure {s : Sem Value} {u : Value} {v : SV} (hI : Inv w0 X Pr0 sl get γ Pr a w) (ho : execOp a.eval o = (do pure (.value (← s)))) (hs : s.run P w = .ok u w) (hv : RV (Ln Pr w) γ v u) :
    Owes P w0 X Pr0 o sl get γ Pr r0 a w v get := fun next Q h => wp_val ho hs (h u γ Pr w hv hI (fun _ _ => rfl))
theorem owes_run {get' : Nat → Option Res} {Pr' : Nat → Nat → Prop} {u : Value} {v : SV} (hI : Inv w0 X Pr0 sl get' γ Pr' a w) (ho : (execOp a.eval o).run P w = .ok (.value u) w) (hv : RV (Ln Pr' w) γ v u) :
    Owes P w0 X Pr0 o sl get γ Pr r0 a w v get' := fun next Q h => by
  unfold Oper.wp
  rw [ho]
  exact h u γ Pr' w hv hI (fun _ _ => rfl)
theorem owes_new {get' : Nat → Option Res} {γ' : Nat → Option G} {Pr' : Nat → Nat → Prop} {w' : World} {u : Value} {v : SV} (hI : Inv w0 X Pr0 sl get' γ' Pr' a w') (ho : (execOp a.eval o).run P w = .ok (.value u) w') (hv : RV (Ln Pr' w') γ' v u)
    (hγ : ∀ r, ¬ (r0 ≤ r ∧ r < r0 + 64) → γ' r = γ r) : Owes P w0 X Pr0 o sl get γ Pr r0 a w v get' := fun next Q h => by
  unfold Oper.wp
  rw [ho]
  exact h u γ' Pr' w' hv hI hγ
end
end Go.Proofs.Ytcfnhfbaakflgaa.Abs
