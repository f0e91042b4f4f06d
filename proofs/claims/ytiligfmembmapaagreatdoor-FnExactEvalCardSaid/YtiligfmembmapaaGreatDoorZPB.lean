/- Plain laws: wraps, places of rows and texts, sizes. -/
import Derived.Test.YtiligfmembmapaaGreatDoorZA3
set_option linter.unusedVariables false
set_option linter.unusedSimpArgs false
set_option linter.unusedSectionVars false
namespace Go.Proofs.YtiligfmembmapaaGreatDoor.Abs
open Go

section
variable {α β : Type}
theorem ix_at {xs pre ys : List α} {y d : α} {f : α → Option β} (h : xs = pre ++ y :: ys) : ix xs (pre.length : Int) d f = f y := by
  subst h
  have h1 : ((pre.length : Nat) : Int) < ((pre ++ y :: ys).length : Int) := lt_len
  unfold ix
  rw [if_pos (nn _), if_pos h1, getD_at]
theorem ix_of {xs : List α} {i : Int} {y d : α} {f : α → Option β} (h0 : 0 ≤ i) (h : xs[i.toNat]? = some y) : ix xs i d f = f y := by
  have h2 := (List.getElem?_eq_some_iff.1 h)
  obtain ⟨h3, h4⟩ := h2
  have h1 : i < (xs.length : Int) := by omega
  unfold ix
  rw [if_pos h0, if_pos h1]
  congr 1
  simp [List.getD_eq_getElem?_getD, h]
theorem inb_ok {xs : List α} {i : Int} {k : Option β} (h0 : 0 ≤ i) (h1 : i < (xs.length : Int)) : inb xs i k = k := by
  unfold inb
  rw [if_pos h0, if_pos h1]
theorem inb_at {xs pre ys : List α} {y : α} {k : Option β} (h : xs = pre ++ y :: ys) : inb xs (pre.length : Int) k = k := by
  subst h
  exact inb_ok (nn _) lt_len
theorem ixs_ok {s : ByteArray} {i : Int} {f : Int → Option β} (h0 : 0 ≤ i) (h1 : i < (s.size : Int)) : ixs s i f = f (bt s i) := by
  unfold ixs
  rw [if_pos h0, if_pos h1]
theorem mks_ok {n b : Nat} {d : α} {f : List α → Option β} (h : n * b ≤ 140737488355328) : mks (n : Int) b d f = f (List.replicate n d) := by
  unfold mks
  rw [if_pos (nn _)]
  simp only [Int.toNat_natCast]
  rw [if_pos h]
theorem cats_ok {a b : ByteArray} {f : ByteArray → Option β} (h : a.size + b.size ≤ 9223372036854775807) : cats a b f = f (a ++ b) := if_pos h
theorem app_ok {a b : List α} {n : Nat} {f : List α → Option β} (h : (a.length + b.length) * n ≤ 140737488355328) : app a b n f = f (a ++ b) := if_pos h
theorem slh_ok {s : ByteArray} {h : Int} {f : ByteArray → Option β} (h0 : 0 ≤ h) (h1 : h ≤ (s.size : Int)) : slh s h f = f (s.extract 0 h.toNat) := by
  unfold slh
  rw [if_pos h0, if_pos h1]
theorem sll_ok {s : ByteArray} {l : Int} {f : ByteArray → Option β} (h0 : 0 ≤ l) (h1 : l ≤ (s.size : Int)) : sll s l f = f (s.extract l.toNat s.size) := by
  unfold sll
  rw [if_pos h0, if_pos h1]
theorem slx_ok {s : ByteArray} {l h : Int} {f : ByteArray → Option β} (h0 : 0 ≤ l) (h1 : l ≤ h) (h2 : h ≤ (s.size : Int)) : slx s l h f = f (s.extract l.toNat h.toNat) := by
  unfold slx
  rw [if_pos (by omega), if_pos h2, if_pos h0, if_pos h1]
theorem rwh_ok {xs : List α} {h : Int} {f : List α → Option β} (h0 : 0 ≤ h) (h1 : h ≤ (xs.length : Int)) : rwh xs h f = f (xs.take h.toNat) := by
  unfold rwh
  rw [if_pos h0, if_pos h1]
theorem rwl_ok {xs : List α} {l : Int} {f : List α → Option β} (h0 : 0 ≤ l) (h1 : l ≤ (xs.length : Int)) : rwl xs l f = f (xs.drop l.toNat) := by
  unfold rwl
  rw [if_pos h0, if_pos h1]
theorem rwx_ok {xs : List α} {l h : Int} {f : List α → Option β} (h0 : 0 ≤ l) (h1 : l ≤ h) (h2 : h ≤ (xs.length : Int)) : rwx xs l h f = f ((xs.take h.toNat).drop l.toNat) := by
  unfold rwx
  rw [if_pos (by omega), if_pos h2, if_pos h0, if_pos h1]
theorem nz_ok {b : Int} {k : Option β} (h : b ≠ 0) : nz b k = k := if_neg h
/-- One round of a loop over a row: the place moves on. -/
theorem lt_at {xs pre ys : List α} {y : α} (h : xs = pre ++ y :: ys) : ((pre.length : Nat) : Int) < (xs.length : Int) := by rw [h]; exact lt_len
theorem nlt_at {xs pre : List α} (h : xs = pre ++ []) : ¬ ((pre.length : Nat) : Int) < (xs.length : Int) := by rw [h, List.append_nil]; exact Int.lt_irrefl _
theorem wrap_at {xs pre ys : List α} {y : α} (h : xs = pre ++ y :: ys) (hl : xs.length ≤ 9223372036854775807) : IntKind.i64.wrap ((pre.length : Int) + 1) = ((pre ++ [y]).length : Int) := by
  have := lt_at h
  rw [wr (by omega) (by omega), len_snoc]
theorem next_at {xs pre ys : List α} {y : α} (h : xs = pre ++ y :: ys) : xs = (pre ++ [y]) ++ ys := by rw [h]; simp
end
/-! ### Bytes -/
/-- A text's bytes, as numbers. -/
def bts (s : ByteArray) : List Int := s.data.toList.map fun b => (b.toNat : Int)
theorem bts_len (s : ByteArray) : (bts s).length = s.size := by
  unfold bts
  rw [List.length_map, Array.length_toList]
  rfl
theorem bts_at {s : ByteArray} {pre ys : List Int} {y : Int} (h : bts s = pre ++ y :: ys) : bt s (pre.length : Int) = y := by
  have hl : pre.length < s.size := by rw [← bts_len, h]; simp
  unfold bt
  simp only [Int.toNat_natCast, hl, dite_true]
  have h1 : (bts s)[pre.length]? = some y := by rw [h]; simp
  unfold bts at h1
  rw [List.getElem?_map, Option.map_eq_some_iff] at h1
  obtain ⟨b, hb, rfl⟩ := h1
  rw [List.getElem?_eq_some_iff] at hb
  obtain ⟨_, hb⟩ := hb
  rw [← hb]
  simp [ByteArray.getElem_eq_getElem_data]
theorem bts_inj {a b : ByteArray} (h : bts a = bts b) : a = b := by
  cases a with
  | mk x =>
    cases b with
    | mk y =>
      unfold bts at h
      congr 1
      apply Array.toList_inj.1
      have hj : ∀ {l m : List UInt8}, (l.map fun b => (b.toNat : Int)) = (m.map fun b => (b.toNat : Int)) → l = m := by
        intro l
        induction l with
        | nil => intro m h; cases m with
          | nil => rfl
          | cons _ _ => cases h
        | cons p l ih => intro m h; cases m with
          | nil => cases h
          | cons q m =>
            simp only [List.map_cons, List.cons.injEq] at h
            rw [ih h.2, UInt8.toNat_inj.1 (Int.ofNat.inj h.1)]
      exact hj h
theorem bts_eq {a b : ByteArray} : a = b ↔ bts a = bts b := ⟨fun h => by rw [h], bts_inj⟩
@[simp] theorem bts_append (a b : ByteArray) : bts (a ++ b) = bts a ++ bts b := by simp [bts]
theorem bts_range {s : ByteArray} : ∀ b ∈ bts s, 0 ≤ b ∧ b ≤ 255 := by
  intro b hb
  unfold bts at hb
  rw [List.mem_map] at hb
  obtain ⟨x, _, rfl⟩ := hb
  have := x.toNat_lt
  omega
theorem bts_extract (s : ByteArray) (i j : Nat) : bts (s.extract i j) = ((bts s).take j).drop i := by
  simp [bts, ByteArray.data_extract, List.map_drop, List.map_take, List.extract_eq_take_drop, List.drop_take]
@[simp] theorem size_append (a b : ByteArray) : (a ++ b).size = a.size + b.size := ByteArray.size_append
theorem ixs_at {β : Type} {s : ByteArray} {pre ys : List Int} {y : Int} {f : Int → Option β} (h : bts s = pre ++ y :: ys) : ixs s (pre.length : Int) f = f y := by
  have hl : ((pre.length : Nat) : Int) < (s.size : Int) := by rw [← bts_len]; exact lt_at h
  rw [ixs_ok (nn _) hl, bts_at h]
theorem lt_ats {s : ByteArray} {pre ys : List Int} {y : Int} (h : bts s = pre ++ y :: ys) : ((pre.length : Nat) : Int) < (s.size : Int) := by rw [← bts_len]; exact lt_at h
theorem nlt_ats {s : ByteArray} {pre : List Int} (h : bts s = pre ++ []) : ¬ ((pre.length : Nat) : Int) < (s.size : Int) := by rw [← bts_len]; exact nlt_at h
theorem wrap_ats {s : ByteArray} {pre ys : List Int} {y : Int} (h : bts s = pre ++ y :: ys) (hl : s.size ≤ 9223372036854775807) : IntKind.i64.wrap ((pre.length : Int) + 1) = ((pre ++ [y]).length : Int) := wrap_at h (by rw [bts_len]; exact hl)
/-! ### Records that are compared -/
@[simp] theorem baeq {x y : ByteArray} : (x == y) = true ↔ x = y := by
  cases x; cases y
  constructor
  · intro h
    congr 1
    exact eq_of_beq h
  · intro h
    cases h
    exact beq_self_eq_true (α := Array UInt8) _
theorem eqB_iff : ∀ {t : Ty} {x y : t.den}, noSlice t = true → (eqB t x y = true ↔ x = y)
  | .int _, x, y, _ => by simp [eqB]
  | .bool, x, y, _ => by simp [eqB]
  | .str, x, y, _ => by
    exact baeq
  | .unit, _, _, _ => by simp [eqB]
  | .pair a b, x, y, h => by
    simp only [noSlice, Bool.and_eq_true] at h
    simp only [eqB, Bool.and_eq_true, eqB_iff h.1, eqB_iff h.2]
    exact ⟨fun ⟨h1, h2⟩ => Prod.ext h1 h2, fun h => by rw [h]; exact ⟨rfl, rfl⟩⟩
  | .agg t, x, y, h => by
    simp only [noSlice] at h
    simp only [eqB, eqB_iff h]
  | .slice _ _, _, _, h => by cases h
/-! ### How much is left -/
/-- So much is left behind so much; -1: not enough. -/
def szr (left : Int) (n : Nat) : Int := if (n : Int) ≤ left then left - n else -1
theorem szr_neg {left : Int} {n : Nat} (h : szr left n < 0) : szr left n = -1 := by
  unfold szr at h ⊢
  split
  · rename_i h1
    rw [if_pos h1] at h
    omega
  · rfl
theorem szr_add {left : Int} {a b : Nat} (h : ¬ szr left a < 0) : szr (szr left a) b = szr left (a + b) := by
  unfold szr at h ⊢
  by_cases h1 : (a : Int) ≤ left
  · rw [if_pos h1] at h ⊢
    by_cases h2 : (b : Int) ≤ left - a
    · rw [if_pos h2, if_pos (by omega)]
      omega
    · rw [if_neg h2, if_neg (by omega)]
  · rw [if_neg h1] at h
    omega
theorem szr_fail {left : Int} {a b : Nat} (h : szr left a < 0) : szr left (a + b) = -1 := by
  unfold szr at h ⊢
  split at h
  · omega
  · rw [if_neg (by omega)]
theorem szr_le {left : Int} {n : Nat} (h : 0 ≤ left) : szr left n ≤ left := by
  unfold szr
  split <;> omega
theorem szr_ge {left : Int} {n : Nat} : ¬ szr left n < 0 → (n : Int) ≤ left ∧ szr left n = left - n := by
  unfold szr
  split
  · intro _
    constructor <;> first | assumption | rfl
  · intro h
    omega
/-- The first step of a size. -/
theorem szr_sub {left : Int} {n : Nat} (h0 : 0 ≤ left) (h1 : left ≤ 9223372036854775807) (hn : n ≤ 9223372036854775807) : (IntKind.i64.wrap (left - (n : Int)) < 0 ↔ szr left n < 0) ∧ (¬ szr left n < 0 → IntKind.i64.wrap (left - (n : Int)) = szr left n) := by
  rw [wr (by omega) (by omega)]
  unfold szr
  split <;> constructor <;> first | omega | (intro _; rfl)
theorem szr_zero {left : Int} (h : 0 ≤ left) : szr left 0 = left := by
  unfold szr
  rw [if_pos (by omega)]
  omega
/-- A row's size: its length and its elements'. -/
def bkL {α : Type} (f : α → Nat) : List α → Nat
  | [] => 0
  | x :: l => f x + bkL f l
theorem bkL_mem {α : Type} {f : α → Nat} {l : List α} {x : α} (h : x ∈ l) : f x ≤ bkL f l := by
  induction l with
  | nil => cases h
  | cons y l ih =>
    simp only [bkL]
    rcases List.mem_cons.1 h with rfl | h
    · omega
    · have := ih h
      omega
end Go.Proofs.YtiligfmembmapaaGreatDoor.Abs
