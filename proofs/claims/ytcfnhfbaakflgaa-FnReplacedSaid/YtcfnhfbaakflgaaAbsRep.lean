/- How plain values stand in the model's memory. -/
import Derived.Test.YtcfnhfbaakflgaaAbs
import Derived.Laws.AppendOwn
import Derived.Laws.OwnMore
import Derived.Below
set_option linter.unusedVariables false
set_option linter.unusedSimpArgs false
namespace Go.Proofs.Ytcfnhfbaakflgaa.Abs
open Go Go.RowKit

/-! ### 1. Plain values in cells -/
/-- A cell that may be leaned on (block, place), and what it holds. -/
abbrev Lk := Nat → Nat → Value → Prop
def RK (L : Lk) : (t : Ty) → t.den → List Value → Prop
  | .int k, n, cs => cs = [.int k n]
  | .bool, b, cs => cs = [.bool b]
  | .str, s, cs => cs = [.string s]
  | .unit, _, cs => cs = []
  | .pair a b, x, cs => ∃ c d, cs = c ++ d ∧ RK L a x.1 c ∧ RK L b x.2 d
  | .agg t, x, cs => RK L t x cs
  | .slice _ t, xs, cs => ∃ A cap, cs = [.slice A (xs : List t.den).length cap] ∧ xs.length ≤ cap ∧
      (xs ≠ [] → ∃ b o, A = some ⟨b, o, none⟩ ∧ ∀ i (h : i < xs.length), ∃ c, RK L t xs[i] c ∧ ∀ j v, c[j]? = some v → L b (o + i * t.sz + j) v)
theorem RK_len {L : Lk} : ∀ {t : Ty} {x : t.den} {cs : List Value}, RK L t x cs → cs.length = t.sz
  | .int k, n, cs, h => by rw [show cs = _ from h]; rfl
  | .bool, b, cs, h => by rw [show cs = _ from h]; rfl
  | .str, s, cs, h => by rw [show cs = _ from h]; rfl
  | .unit, _, cs, h => by rw [show cs = _ from h]; rfl
  | .pair a b, x, cs, h => by
    obtain ⟨c, d, rfl, h1, h2⟩ := h
    rw [List.length_append, RK_len h1, RK_len h2]
    rfl
  | .agg t, x, cs, h => RK_len (t := t) h
  | .slice _ t, xs, cs, h => by
    obtain ⟨A, cap, rfl, _⟩ := h
    rfl
theorem RK_mono {L L' : Lk} (hL : ∀ b o v, L b o v → L' b o v) : ∀ {t : Ty} {x : t.den} {cs : List Value}, RK L t x cs → RK L' t x cs
  | .int k, n, cs, h => h
  | .bool, b, cs, h => h
  | .str, s, cs, h => h
  | .unit, _, cs, h => h
  | .pair a b, x, cs, h => by
    obtain ⟨c, d, rfl, h1, h2⟩ := h
    exact ⟨c, d, rfl, RK_mono hL h1, RK_mono hL h2⟩
  | .agg t, x, cs, h => RK_mono (t := t) hL h
  | .slice _ t, xs, cs, h => by
    obtain ⟨A, cap, rfl, hc, h⟩ := h
    refine ⟨A, cap, rfl, hc, fun hne => ?_⟩
    obtain ⟨b, o, hA, hh⟩ := h hne
    refine ⟨b, o, hA, fun i hi => ?_⟩
    obtain ⟨c, h1, h2⟩ := hh i hi
    exact ⟨c, RK_mono hL h1, fun j v hj => hL _ _ _ (h2 j v hj)⟩
/-- A value of one cell. -/
def one (v : Value) : Prop := (∀ l, v ≠ .agg l) ∧ ∀ l, v ≠ .tuple l
theorem RK_one {L : Lk} : ∀ {t : Ty} {x : t.den} {cs : List Value}, RK L t x cs → ∀ v ∈ cs, v.oneCell' = true
  | .int k, n, cs, h, v, hv => by
    rw [show cs = _ from h] at hv
    rw [List.mem_singleton.1 hv]
    rfl
  | .bool, b, cs, h, v, hv => by
    rw [show cs = _ from h] at hv
    rw [List.mem_singleton.1 hv]
    rfl
  | .str, s, cs, h, v, hv => by
    rw [show cs = _ from h] at hv
    rw [List.mem_singleton.1 hv]
    rfl
  | .unit, _, cs, h, v, hv => by
    rw [show cs = _ from h] at hv
    cases hv
  | .pair a b, x, cs, h, v, hv => by
    obtain ⟨c, d, rfl, h1, h2⟩ := h
    rcases List.mem_append.1 hv with hv | hv
    · exact RK_one h1 v hv
    · exact RK_one h2 v hv
  | .agg t, x, cs, h, v, hv => RK_one (t := t) h v hv
  | .slice _ t, xs, cs, h, v, hv => by
    obtain ⟨A, cap, rfl, _⟩ := h
    rw [List.mem_singleton.1 hv]
    rfl
/-- The value that some cells make. -/
def mk (t : Ty) (cs : List Value) : Value := match t with
  | .agg _ => .agg cs.toArray
  | _ => cs.headD undef
theorem RK_cells {L : Lk} {t : Ty} {x : t.den} {cs : List Value} (h : RK L t x cs) (ht : t.sz = 1 ∨ ∃ u, t = .agg u) : (mk t cs).cells = cs.toArray := by
  match t, x, h, ht with
  | .int k, n, h, _ => rw [show cs = _ from h]; rfl
  | .bool, b, h, _ => rw [show cs = _ from h]; rfl
  | .str, s, h, _ => rw [show cs = _ from h]; rfl
  | .agg t, x, h, _ => rfl
  | .slice _ t, xs, h, _ =>
    obtain ⟨A, cap, rfl, _⟩ := h
    rfl
  | .unit, _, h, ht => rcases ht with ht | ⟨u, ht⟩ <;> cases ht
  | .pair a b, x, h, ht =>
    rcases ht with ht | ⟨u, ht⟩
    · obtain ⟨v, rfl⟩ : ∃ v, cs = [v] := List.length_eq_one_iff.1 ((RK_len h).trans ht)
      have := RK_one h v (List.mem_singleton.2 rfl)
      show v.cells = #[v]
      cases v <;> first | rfl | cases this
    · cases ht

/-! ### 2. What is led to -/
inductive G where
  | box (b : Nat) (t : Ty)
  | row (e : TypeId) (t : Ty) (v : Value)

mutual
/-- Cells that hold a field's content, by its type. -/
inductive RT (L : Lk) (γ : Nat → Option G) : Ty → SV → List Value → Prop
  | val {t : Ty} {x : t.den} {cs : List Value} (h : RK L t x cs) : RT L γ t (.val t x) cs
  | nilS {e : TypeId} {t : Ty} : RT L γ (.slice e t) .nilS [.slice none 0 0]
  | row {e : TypeId} {t : Ty} {r : Nat} {v : Value} (h : γ r = some (.row e t v)) : RT L γ (.slice e t) (.row r) [v]
  | strct {t : Ty} {l : List SV} {cs : List Value} (h : RTs L γ t l cs) : RT L γ (.agg t) (.strct l) cs
inductive RTs (L : Lk) (γ : Nat → Option G) : Ty → List SV → List Value → Prop
  | nil : RTs L γ .unit [] []
  | cons {a b : Ty} {v : SV} {l : List SV} {c d : List Value} (h : RT L γ a v c) (k : RTs L γ b l d) : RTs L γ (.pair a b) (v :: l) (c ++ d)
end
mutual
/-- The value that a slot holds. -/
inductive RV (L : Lk) (γ : Nat → Option G) : SV → Value → Prop
  | undef {v : Value} : RV L γ .undef v
  | nilS : RV L γ .nilS (.slice none 0 0)
  | val {t : Ty} {x : t.den} {cs : List Value} (h : RK L t x cs) : RV L γ (.val t x) (mk t cs)
  | row {e : TypeId} {t : Ty} {r : Nat} {v : Value} (h : γ r = some (.row e t v)) : RV L γ (.row r) v
  | ptr {r b o : Nat} {t s : Ty} {p : List Nat} (h : γ r = some (.box b t)) (hp : offP t p = some (o, s)) : RV L γ (.ptr r s p) (.pointer (some ⟨b, o, none⟩))
  | eptr {t : Ty} {x : t.den} {cs : List Value} {b o : Nat} (h : RK L t x cs) (hc : ∀ j v, cs[j]? = some v → L b (o + j) v) : RV L γ (.eptr t x) (.pointer (some ⟨b, o, none⟩))
  | rptr {r b n cap o : Nat} {e : TypeId} {t s : Ty} {i : Int} {p : List Nat} (h : γ r = some (.row e t (.slice (some ⟨b, 0, none⟩) n cap))) (h0 : 0 ≤ i) (hn : i < n) (hp : offP t p = some (o, s)) :
      RV L γ (.rptr r s i p) (.pointer (some ⟨b, i.toNat * t.sz + o, none⟩))
  | tail {r b n cap : Nat} {e : TypeId} {t : Ty} {i : Int} (h : γ r = some (.row e t (.slice (some ⟨b, 0, none⟩) n cap))) (h0 : 0 ≤ i) (hn : i < n) (hc : n ≤ cap) :
      RV L γ (.tail r i) (.slice (some ⟨b, i.toNat * t.sz, none⟩) (n - i.toNat) (cap - i.toNat))
  | fn {g : Nat} {caps : List SV} {vs : List Value} (h : RVs L γ caps vs) : RV L γ (.fn g caps) (.func (.func g) #[] vs.toArray)
  | tup {l : List SV} {vs : List Value} (h : RVs L γ l vs) : RV L γ (.tup l) (.tuple vs.toArray)
  | strct {t : Ty} {l : List SV} {cs : List Value} (h : RTs L γ t l cs) : RV L γ (.strct l) (.agg cs.toArray)
inductive RVs (L : Lk) (γ : Nat → Option G) : List SV → List Value → Prop
  | nil : RVs L γ [] []
  | cons {v : SV} {l : List SV} {u : Value} {us : List Value} (h : RV L γ v u) (k : RVs L γ l us) : RVs L γ (v :: l) (u :: us)
end

/-! ### 3. They stay -/
section
variable {L L' : Lk} {γ γ' : Nat → Option G}
mutual
theorem RT_mono (hL : ∀ b o v, L b o v → L' b o v) (hγ : ∀ r g, γ r = some g → γ' r = some g) : ∀ {t : Ty} {v : SV} {cs : List Value}, RT L γ t v cs → RT L' γ' t v cs
  | _, _, _, .val h => .val (RK_mono hL h)
  | _, _, _, .nilS => .nilS
  | _, _, _, .row h => .row (hγ _ _ h)
  | _, _, _, .strct h => .strct (RTs_mono hL hγ h)
theorem RTs_mono (hL : ∀ b o v, L b o v → L' b o v) (hγ : ∀ r g, γ r = some g → γ' r = some g) : ∀ {t : Ty} {l : List SV} {cs : List Value}, RTs L γ t l cs → RTs L' γ' t l cs
  | _, _, _, .nil => .nil
  | _, _, _, .cons h k => .cons (RT_mono hL hγ h) (RTs_mono hL hγ k)
end
mutual
theorem RV_mono (hL : ∀ b o v, L b o v → L' b o v) (hγ : ∀ r g, γ r = some g → γ' r = some g) : ∀ {v : SV} {u : Value}, RV L γ v u → RV L' γ' v u
  | _, _, .undef => .undef
  | _, _, .nilS => .nilS
  | _, _, .val h => .val (RK_mono hL h)
  | _, _, .row h => .row (hγ _ _ h)
  | _, _, .ptr h hp => .ptr (hγ _ _ h) hp
  | _, _, .eptr h hc => .eptr (RK_mono hL h) fun j v hj => hL _ _ _ (hc j v hj)
  | _, _, .rptr h h0 hn hp => .rptr (hγ _ _ h) h0 hn hp
  | _, _, .tail h h0 hn hc => .tail (hγ _ _ h) h0 hn hc
  | _, _, .fn h => .fn (RVs_mono hL hγ h)
  | _, _, .tup h => .tup (RVs_mono hL hγ h)
  | _, _, .strct h => .strct (RTs_mono hL hγ h)
theorem RVs_mono (hL : ∀ b o v, L b o v → L' b o v) (hγ : ∀ r g, γ r = some g → γ' r = some g) : ∀ {l : List SV} {us : List Value}, RVs L γ l us → RVs L' γ' l us
  | _, _, .nil => .nil
  | _, _, .cons h k => .cons (RV_mono hL hγ h) (RVs_mono hL hγ k)
end
end
theorem RVs_len {L : Lk} {γ : Nat → Option G} : ∀ {l : List SV} {us : List Value}, RVs L γ l us → l.length = us.length
  | _, _, .nil => rfl
  | _, _, .cons _ k => by simp [RVs_len k]
theorem RVs_get {L : Lk} {γ : Nat → Option G} : ∀ {l : List SV} {us : List Value}, RVs L γ l us → ∀ {i : Nat} {v : SV}, l[i]? = some v → ∃ u, us[i]? = some u ∧ RV L γ v u
  | _, _, .nil, i, v, h => by simp at h
  | _, _, .cons (u := u) hv k, 0, v, h => by
    simp at h
    subst h
    exact ⟨u, rfl, hv⟩
  | _, _, .cons hv k, i + 1, v, h => by
    obtain ⟨u, h1, h2⟩ := RVs_get k (i := i) (v := v) (by simpa using h)
    exact ⟨u, by simpa using h1, h2⟩
theorem RTs_len {L : Lk} {γ : Nat → Option G} {t : Ty} {l : List SV} {cs : List Value} (h : RTs L γ t l cs) : cs.length = t.sz := by
  induction h using RTs.rec (motive_1 := fun t _ cs _ => cs.length = t.sz) with
  | val h => exact RK_len h
  | nilS => rfl
  | row h => rfl
  | strct h ih => exact ih
  | nil => rfl
  | cons h k ih1 ih2 => rw [List.length_append, ih1, ih2]; rfl
theorem RT_len {L : Lk} {γ : Nat → Option G} {t : Ty} {v : SV} {cs : List Value} (h : RT L γ t v cs) : cs.length = t.sz := by
  cases h with
  | val h => exact RK_len h
  | nilS => rfl
  | row h => rfl
  | strct h => exact (RTs_len h : _)
end Go.Proofs.Ytcfnhfbaakflgaa.Abs
