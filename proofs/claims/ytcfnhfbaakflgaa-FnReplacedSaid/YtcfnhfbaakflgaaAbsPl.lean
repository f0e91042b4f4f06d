/- Plain laws for what functions say: wraps, strings, rows by places, what a sort gives. -/
import Derived.Test.YtcfnhfbaakflgaaAbsPrims
import Derived.Sort.Walk0
set_option linter.unusedVariables false
namespace Go.Proofs.Ytcfnhfbaakflgaa.Abs
open Go

theorem wr {n : Int} (h0 : -9223372036854775808 ≤ n) (h1 : n ≤ 9223372036854775807) : IntKind.i64.wrap n = n := by
  simp only [IntKind.wrap, IntKind.bits, IntKind.signed]
  simp
  omega
theorem toList_inj {a b : ByteArray} (h : a.toList = b.toList) : a = b := by
  rw [ByteArray.toList_eq, ByteArray.toList_eq] at h
  cases a
  cases b
  congr
  exact Array.toList_inj.1 h
@[simp] theorem eqS {a b : ByteArray} : (ByteArray.toList a == ByteArray.toList b) = decide (a = b) := by
  by_cases h : a = b
  · subst h
    simp
  · rw [decide_eq_false h]
    have : ByteArray.toList a ≠ ByteArray.toList b := fun e => h (toList_inj e)
    simpa using this
/-- Ahead of, as a text. -/
def ltS (a b : ByteArray) : Bool := Op.bytesLess (ByteArray.toList a) (ByteArray.toList b)
theorem ltS_eq (a b : ByteArray) : ltS a b = decide (a.toList < b.toList) := bytesLess_eq _ _
theorem ltS_irrefl (a : ByteArray) : ltS a a = false := by
  rw [ltS_eq]
  exact decide_eq_false (List.lt_irrefl _)
theorem ltS_trans {a b c : ByteArray} (h : ltS a b = true) (k : ltS b c = true) : ltS a c = true := by
  rw [ltS_eq, decide_eq_true_eq] at *
  exact List.lt_trans h k
theorem ltS_total (a b : ByteArray) : ltS a b = true ∨ a = b ∨ ltS b a = true := by
  rw [ltS_eq, ltS_eq, decide_eq_true_eq, decide_eq_true_eq]
  rcases Decidable.em (a.toList < b.toList) with h | h
  · exact .inl h
  · rcases Decidable.em (b.toList < a.toList) with h' | h'
    · exact .inr (.inr h')
    · exact .inr (.inl (toList_inj (List.le_antisymm (List.not_lt.1 h') (List.not_lt.1 h))))
theorem ltS_asymm {a b : ByteArray} (h : ltS a b = true) : ltS b a = false := by
  cases hb : ltS b a with
  | false => rfl
  | true =>
    have := ltS_trans h hb
    rw [ltS_irrefl] at this
    cases this
theorem ltS_ne {a b : ByteArray} (h : ltS a b = true) : a ≠ b := by
  rintro rfl
  rw [ltS_irrefl] at h
  cases h
theorem getD_at {α : Type} {l r : List α} {y d : α} : List.getD (l ++ y :: r) (Int.toNat (l.length : Int)) d = y := by
  simp [List.getD_eq_getElem?_getD]
theorem set_at {α : Type} {l r : List α} {y z : α} : List.set (l ++ y :: r) (Int.toNat (l.length : Int)) z = l ++ z :: r := by
  simp
theorem len_snoc {α : Type} {l : List α} {y : α} : ((l.length : Nat) : Int) + 1 = ((l ++ [y]).length : Int) := by simp
theorem lt_len {α : Type} {l r : List α} {y : α} : ((l.length : Nat) : Int) < ((l ++ y :: r).length : Int) := by
  simp only [List.length_append, List.length_cons]
  omega
theorem mul32 {n : Nat} (h : n ≤ 4398046511104) : n * 32 ≤ 140737488355328 := Nat.le_trans (Nat.mul_le_mul_right 32 h) (by decide)
theorem nn (n : Nat) : (0 : Int) ≤ (n : Int) := Int.natCast_nonneg n
theorem Ev.val {R : Type} {x z : R} (h : x = z) : Ev (fun _ => some x) z := h ▸ Ev.now
/-! ### What a sort gives -/
theorem sorted_perm {α : Type} [Inhabited α] {lt : α → α → Bool} (h : Sort.SWO lt) (xs : List α) : (sorted lt xs).Perm xs := by
  have := (Sort.pdq_sorts lt h xs.toArray 0 xs.toArray.size (Lib.bitLen xs.toArray.size) true true (Nat.zero_le _) (Nat.le_refl _) (.inl rfl)).1
  obtain ⟨h1, _, h2⟩ := this
  unfold sorted
  have e1 : ∀ (A : Array α) (n : Nat), A.size = n → (A.extract 0 n).toList = A.toList := by
    rintro A n rfl
    simp
  rw [e1 _ _ h1, e1 _ _ rfl] at h2
  exact h2
theorem sorted_len {α : Type} [Inhabited α] {lt : α → α → Bool} (h : Sort.SWO lt) (xs : List α) : (sorted lt xs).length = xs.length := (sorted_perm h xs).length_eq
theorem sorted_sorted {α : Type} [Inhabited α] {lt : α → α → Bool} (h : Sort.SWO lt) (xs : List α) : (sorted lt xs).Pairwise fun a b => lt b a = false := by
  have h0 := Sort.pdq_sorts lt h xs.toArray 0 xs.toArray.size (Lib.bitLen xs.toArray.size) true true (Nat.zero_le _) (Nat.le_refl _) (.inl rfl)
  obtain ⟨⟨h1, _⟩, h2⟩ := h0
  rw [List.pairwise_iff_getElem]
  intro i j hi hj hij
  unfold sorted at hi hj ⊢
  have := h2 i j (Nat.zero_le _) hij (by rw [← h1]; simpa using hj)
  rw [getElem!_pos _ i (by simpa using hi), getElem!_pos _ j (by simpa using hj)] at this
  simpa using this
/-- Of two rows of the same things, one strictly ascending, the other not descending: they are one. -/
theorem perm_sorted {α : Type} {lt : α → α → Bool} : ∀ {l m : List α}, l.Perm m → (l.Pairwise fun a b => lt b a = false) → (m.Pairwise fun a b => lt a b = true) → l = m
  | [], m, hp, _, _ => (List.nil_perm.1 hp).symm
  | x :: l, m, hp, hl, hm => by
    obtain ⟨m1, m2, rfl⟩ := List.append_of_mem (hp.subset (List.mem_cons_self (a := x)))
    have hp' : l.Perm (m1 ++ m2) := (List.perm_cons x).1 (hp.trans List.perm_middle)
    cases m1 with
    | nil =>
      have := perm_sorted hp' (List.pairwise_cons.1 hl).2 (List.pairwise_cons.1 hm).2
      rw [this]
      rfl
    | cons y m1 =>
      have h1 : lt y x = true := (List.pairwise_cons.1 hm).1 x (by simp)
      have h2 : lt y x = false := (List.pairwise_cons.1 hl).1 y (hp'.symm.subset (by simp))
      rw [h1] at h2
      cases h2
end Go.Proofs.Ytcfnhfbaakflgaa.Abs
