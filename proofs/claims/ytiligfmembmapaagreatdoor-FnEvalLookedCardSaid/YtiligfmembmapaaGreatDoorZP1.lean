/- Plain laws: wraps, places of rows and texts, sizes. -/
import Derived.Test.YtiligfmembmapaaGreatDoorZA3
import Derived.Test.YtiligfmembmapaaGreatDoorZQ1
set_option linter.unusedVariables false
set_option linter.unusedSimpArgs false
set_option linter.unusedSectionVars false
namespace Go.Proofs.YtiligfmembmapaaGreatDoor.Abs
open Go

section
variable {α β : Type}
theorem ix_at {xs pre ys : List α} {y d : α} {f : α → Option β} (h : xs = pre ++ y :: ys) : ix xs (pre.length : Int) d f = f y := by
  subst h
  have h1 : ((pre.length : Nat) : Int) < ((pre ++ y :: ys).length : Int) := lt_len
  unfold ix
  rw [if_pos (nn _), if_pos h1, getD_at]
theorem ix_of {xs : List α} {i : Int} {y d : α} {f : α → Option β} (h0 : 0 ≤ i) (h : xs[i.toNat]? = some y) : ix xs i d f = f y := by
  have h2 := (List.getElem?_eq_some_iff.1 h)
  obtain ⟨h3, h4⟩ := h2
  have h1 : i < (xs.length : Int) := by omega
  unfold ix
  rw [if_pos h0, if_pos h1]
  congr 1
  simp [List.getD_eq_getElem?_getD, h]
theorem inb_ok {xs : List α} {i : Int} {k : Option β} (h0 : 0 ≤ i) (h1 : i < (xs.length : Int)) : inb xs i k = k := by
  unfold inb
  rw [if_pos h0, if_pos h1]
theorem inb_at {xs pre ys : List α} {y : α} {k : Option β} (h : xs = pre ++ y :: ys) : inb xs (pre.length : Int) k = k := by
  subst h
  exact inb_ok (nn _) lt_len
theorem ixs_ok {s : ByteArray} {i : Int} {f : Int → Option β} (h0 : 0 ≤ i) (h1 : i < (s.size : Int)) : ixs s i f = f (bt s i) := by
  unfold ixs
  rw [if_pos h0, if_pos h1]
theorem mks_ok {n b : Nat} {d : α} {f : List α → Option β} (h : n * b ≤ 140737488355328) : mks (n : Int) b d f = f (List.replicate n d) := by
  unfold mks
  rw [if_pos (nn _)]
  simp only [Int.toNat_natCast]
  rw [if_pos h]
theorem cats_ok {a b : ByteArray} {f : ByteArray → Option β} (h : a.size + b.size ≤ 9223372036854775807) : cats a b f = f (a ++ b) := if_pos h
theorem app_ok {a b : List α} {n : Nat} {f : List α → Option β} (h : (a.length + b.length) * n ≤ 140737488355328) : app a b n f = f (a ++ b) := if_pos h
theorem slh_ok {s : ByteArray} {h : Int} {f : ByteArray → Option β} (h0 : 0 ≤ h) (h1 : h ≤ (s.size : Int)) : slh s h f = f (s.extract 0 h.toNat) := by
  unfold slh
  rw [if_pos h0, if_pos h1]
theorem sll_ok {s : ByteArray} {l : Int} {f : ByteArray → Option β} (h0 : 0 ≤ l) (h1 : l ≤ (s.size : Int)) : sll s l f = f (s.extract l.toNat s.size) := by
  unfold sll
  rw [if_pos h0, if_pos h1]
theorem slx_ok {s : ByteArray} {l h : Int} {f : ByteArray → Option β} (h0 : 0 ≤ l) (h1 : l ≤ h) (h2 : h ≤ (s.size : Int)) : slx s l h f = f (s.extract l.toNat h.toNat) := by
  unfold slx
  rw [if_pos (by omega), if_pos h2, if_pos h0, if_pos h1]
theorem rwh_ok {xs : List α} {h : Int} {f : List α → Option β} (h0 : 0 ≤ h) (h1 : h ≤ (xs.length : Int)) : rwh xs h f = f (xs.take h.toNat) := by
  unfold rwh
  rw [if_pos h0, if_pos h1]
theorem rwl_ok {xs : List α} {l : Int} {f : List α → Option β} (h0 : 0 ≤ l) (h1 : l ≤ (xs.length : Int)) : rwl xs l f = f (xs.drop l.toNat) := by
  unfold rwl
  rw [if_pos h0, if_pos h1]
theorem rwx_ok {xs : List α} {l h : Int} {f : List α → Option β} (h0 : 0 ≤ l) (h1 : l ≤ h) (h2 : h ≤ (xs.length : Int)) : rwx xs l h f = f ((xs.take h.toNat).drop l.toNat) := by
  unfold rwx
  rw [if_pos (by omega), if_pos h2, if_pos h0, if_pos h1]
theorem nz_ok {b : Int} {k : Option β} (h : b ≠ 0) : nz b k = k := if_neg h
/-- One round of a loop over a row: the place moves on. -/
theorem lt_at {xs pre ys : List α} {y : α} (h : xs = pre ++ y :: ys) : ((pre.length : Nat) : Int) < (xs.length : Int) := by rw [h]; exact lt_len
theorem nlt_at {xs pre : List α} (h : xs = pre ++ []) : ¬ ((pre.length : Nat) : Int) < (xs.length : Int) := by rw [h, List.append_nil]; exact Int.lt_irrefl _
theorem wrap_at {xs pre ys : List α} {y : α} (h : xs = pre ++ y :: ys) (hl : xs.length ≤ 9223372036854775807) : IntKind.i64.wrap ((pre.length : Int) + 1) = ((pre ++ [y]).length : Int) := by
  have := lt_at h
  rw [wr (by omega) (by omega), len_snoc]
theorem next_at {xs pre ys : List α} {y : α} (h : xs = pre ++ y :: ys) : xs = (pre ++ [y]) ++ ys := by rw [h]; simp
end
/-! ### Bytes -/
/-- A text's bytes, as numbers. -/
def bts (s : ByteArray) : List Int := s.data.toList.map fun b => (b.toNat : Int)
theorem bts_len (s : ByteArray) : (bts s).length = s.size := by
  unfold bts
  rw [List.length_map, Array.length_toList]
  rfl
theorem bts_at {s : ByteArray} {pre ys : List Int} {y : Int} (h : bts s = pre ++ y :: ys) : bt s (pre.length : Int) = y := by
  have hl : pre.length < s.size := by rw [← bts_len, h]; simp
  unfold bt
  simp only [Int.toNat_natCast, hl, dite_true]
  have h1 : (bts s)[pre.length]? = some y := by rw [h]; simp
  unfold bts at h1
  rw [List.getElem?_map, Option.map_eq_some_iff] at h1
  obtain ⟨b, hb, rfl⟩ := h1
  rw [List.getElem?_eq_some_iff] at hb
  obtain ⟨_, hb⟩ := hb
  rw [← hb]
  simp [ByteArray.getElem_eq_getElem_data]
theorem bts_inj {a b : ByteArray} (h : bts a = bts b) : a = b := by
  cases a with
  | mk x =>
    cases b with
    | mk y =>
      unfold bts at h
      congr 1
      apply Array.toList_inj.1
      have hj : ∀ {l m : List UInt8}, (l.map fun b => (b.toNat : Int)) = (m.map fun b => (b.toNat : Int)) → l = m := by
        intro l
        induction l with
        | nil => intro m h; cases m with
          | nil => rfl
          | cons _ _ => cases h
        | cons p l ih => intro m h; cases m with
          | nil => cases h
          | cons q m =>
            simp only [List.map_cons, List.cons.injEq] at h
            rw [ih h.2, UInt8.toNat_inj.1 (Int.ofNat.inj h.1)]
      exact hj h
theorem bts_eq {a b : ByteArray} : a = b ↔ bts a = bts b := ⟨fun h => by rw [h], bts_inj⟩
@[simp] theorem bts_append (a b : ByteArray) : bts (a ++ b) = bts a ++ bts b := by simp [bts]
theorem bts_range {s : ByteArray} : ∀ b ∈ bts s, 0 ≤ b ∧ b ≤ 255 := by
  intro b hb
  unfold bts at hb
  rw [List.mem_map] at hb
  obtain ⟨x, _, rfl⟩ := hb
  have := x.toNat_lt
  omega
theorem bts_extract (s : ByteArray) (i j : Nat) : bts (s.extract i j) = ((bts s).take j).drop i := by
  simp [bts, ByteArray.data_extract, List.map_drop, List.map_take, List.extract_eq_take_drop, List.drop_take]
@[simp] theorem size_append (a b : ByteArray) : (a ++ b).size = a.size + b.size := ByteArray.size_append
theorem ixs_at {β : Type} {s : ByteArray} {pre ys : List Int} {y : Int} {f : Int → Option β} (h : bts s = pre ++ y :: ys) : ixs s (pre.length : Int) f = f y := by
  have hl : ((pre.length : Nat) : Int) < (s.size : Int) := by rw [← bts_len]; exact lt_at h
  rw [ixs_ok (nn _) hl, bts_at h]
theorem lt_ats {s : ByteArray} {pre ys : List Int} {y : Int} (h : bts s = pre ++ y :: ys) : ((pre.length : Nat) : Int) < (s.size : Int) := by rw [← bts_len]; exact lt_at h
theorem nlt_ats {s : ByteArray} {pre : List Int} (h : bts s = pre ++ []) : ¬ ((pre.length : Nat) : Int) < (s.size : Int) := by rw [← bts_len]; exact nlt_at h
theorem wrap_ats {s : ByteArray} {pre ys : List Int} {y : Int} (h : bts s = pre ++ y :: ys) (hl : s.size ≤ 9223372036854775807) : IntKind.i64.wrap ((pre.length : Int) + 1) = ((pre ++ [y]).length : Int) := wrap_at h (by rw [bts_len]; exact hl)
/-! ### Records that are compared -/
@[simp] theorem baeq {x y : ByteArray} : (x == y) = true ↔ x = y := by
  cases x; cases y
  constructor
  · intro h
    congr 1
    exact eq_of_beq h
  · intro h
    cases h
    exact beq_self_eq_true (α := Array UInt8) _
theorem eqB_iff : ∀ {t : Ty} {x y : t.den}, noSlice t = true → (eqB t x y = true ↔ x = y)
  | .int _, x, y, _ => by simp [eqB]
  | .bool, x, y, _ => by simp [eqB]
  | .str, x, y, _ => by
    exact baeq
  | .unit, _, _, _ => by simp [eqB]
  | .pair a b, x, y, h => by
    simp only [noSlice, Bool.and_eq_true] at h
    simp only [eqB, Bool.and_eq_true, eqB_iff h.1, eqB_iff h.2]
    exact ⟨fun ⟨h1, h2⟩ => Prod.ext h1 h2, fun h => by rw [h]; exact ⟨rfl, rfl⟩⟩
  | .agg t, x, y, h => by
    simp only [noSlice] at h
    simp only [eqB, eqB_iff h]
  | .slice _ _, _, _, h => by cases h
/-! ### How much is left -/
/-- So much is left behind so much; -1: not enough. -/
def szr (left : Int) (n : Nat) : Int := if (n : Int) ≤ left then left - n else -1
theorem szr_neg {left : Int} {n : Nat} (h : szr left n < 0) : szr left n = -1 := by
  unfold szr at h ⊢
  split
  · rename_i h1
    rw [if_pos h1] at h
    omega
  · rfl
theorem szr_add {left : Int} {a b : Nat} (h : ¬ szr left a < 0) : szr (szr left a) b = szr left (a + b) := by
  unfold szr at h ⊢
  by_cases h1 : (a : Int) ≤ left
  · rw [if_pos h1] at h ⊢
    by_cases h2 : (b : Int) ≤ left - a
    · rw [if_pos h2, if_pos (by omega)]
      omega
    · rw [if_neg h2, if_neg (by omega)]
  · rw [if_neg h1] at h
    omega
theorem szr_fail {left : Int} {a b : Nat} (h : szr left a < 0) : szr left (a + b) = -1 := by
  unfold szr at h ⊢
  split at h
  · omega
  · rw [if_neg (by omega)]
theorem szr_le {left : Int} {n : Nat} (h : 0 ≤ left) : szr left n ≤ left := by
  unfold szr
  split <;> omega
theorem szr_ge {left : Int} {n : Nat} : ¬ szr left n < 0 → (n : Int) ≤ left ∧ szr left n = left - n := by
  unfold szr
  split
  · intro _
    constructor <;> first | assumption | rfl
  · intro h
    omega
/-- The first step of a size. -/
theorem szr_sub {left : Int} {n : Nat} (h0 : 0 ≤ left) (h1 : left ≤ 9223372036854775807) (hn : n ≤ 9223372036854775807) : (IntKind.i64.wrap (left - (n : Int)) < 0 ↔ szr left n < 0) ∧ (¬ szr left n < 0 → IntKind.i64.wrap (left - (n : Int)) = szr left n) := by
  rw [wr (by omega) (by omega)]
  unfold szr
  split <;> constructor <;> first | omega | (intro _; rfl)
theorem szr_zero {left : Int} (h : 0 ≤ left) : szr left 0 = left := by
  unfold szr
  rw [if_pos (by omega)]
  omega
/-- A row's size: its length and its elements'. -/
def bkL {α : Type} (f : α → Nat) : List α → Nat
  | [] => 0
  | x :: l => f x + bkL f l
theorem bkL_mem {α : Type} {f : α → Nat} {l : List α} {x : α} (h : x ∈ l) : f x ≤ bkL f l := by
  induction l with
  | nil => cases h
  | cons y l ih =>
    simp only [bkL]
    rcases List.mem_cons.1 h with rfl | h
    · omega
    · have := ih h
      omega
end Go.Proofs.YtiligfmembmapaaGreatDoor.Abs
/- Loops of the laws' helpers: sizes, copies, comparing. -/
set_option linter.unusedVariables false
set_option linter.unusedSimpArgs false
set_option linter.unusedSectionVars false
namespace Go.Proofs.YtiligfmembmapaaGreatDoor.Abs
open Go

theorem ifT {α : Type} {p : Prop} [Decidable p] {a b : α} (h : p) : (if decide p = true then a else b) = a := if_pos (decide_eq_true h)
theorem ifF {α : Type} {p : Prop} [Decidable p] {a b : α} (h : ¬ p) : (if decide p = true then a else b) = b := if_neg (by simpa using h)
theorem sz_step {w left : Int} {n rest : Nat} {K : Int → Option ((Int × Unit) × Unit)} (hw : szr left n = w) (h0 : 0 ≤ left) (h1 : left ≤ 9223372036854775807) (hK : ∀ l, 0 ≤ l → l ≤ 9223372036854775807 → K l = some ((szr l rest, ()), ())) :
    (if decide (w < 0) = true then some ((-1, ()), ()) else K w) = some ((szr left (n + rest), ()), ()) := by
  subst hw
  by_cases hn : szr left n < 0
  · rw [ifT hn, szr_fail hn]
  · have := szr_le (n := n) h0
    rw [ifF hn, hK _ (by omega) (by omega), szr_add hn]
theorem sz_step' {w left : Int} {n rest : Nat} {K : Int → Option ((Int × Unit) × Unit)} (hw : IntKind.i64.wrap (left - (n : Int)) = w) (hn : (n : Int) ≤ 9223372036854775807) (h0 : 0 ≤ left) (h1 : left ≤ 9223372036854775807) (hK : ∀ l, 0 ≤ l → l ≤ 9223372036854775807 → K l = some ((szr l rest, ()), ())) :
    (if decide (w < 0) = true then some ((-1, ()), ()) else K w) = some ((szr left (n + rest), ()), ()) := by
  subst hw
  obtain ⟨h2, h3⟩ := szr_sub (left := left) (n := n) h0 h1 (by omega)
  by_cases hn : szr left n < 0
  · rw [ifT (h2.2 hn), szr_fail hn]
  · have := szr_le (n := n) h0
    rw [ifF (fun h => hn (h2.1 h)), h3 hn, hK _ (by omega) (by omega), szr_add hn]
theorem sz_end (l : Int) (h0 : 0 ≤ l) (h1 : l ≤ 9223372036854775807) : some ((l, ()), ()) = some ((szr l 0, ()), ()) := by rw [szr_zero h0]
section
variable {α : Type}
theorem szS_loop {f : α → Nat} {xs : List α} {P : Int → Int → Option ((Int × Unit) × Unit)} {c : α → Int → Option ((Int × Unit) × Unit)} {d : α}
    (hP : ∀ l i, P l i = if decide (i < (xs.length : Int)) = true then ix xs i d fun y => (c y l).bind fun z => if decide (z.1.1 < 0) = true then some ((-1, ()), ()) else P z.1.1 (IntKind.i64.wrap (i + 1)) else some ((l, ()), ()))
    (hc : ∀ y ∈ xs, ∀ l, 0 ≤ l → l ≤ 9223372036854775807 → c y l = some ((szr l (f y), ()), ())) (hl : (xs.length : Int) ≤ 9223372036854775807) : ∀ l, 0 ≤ l → l ≤ 9223372036854775807 → P l 0 = some ((szr l (bkL f xs), ()), ()) := by
  have go : ∀ (ys pre : List α), xs = pre ++ ys → ∀ l, 0 ≤ l → l ≤ 9223372036854775807 → P l (pre.length : Int) = some ((szr l (bkL f ys), ()), ()) := by
    intro ys
    induction ys with
    | nil =>
      intro pre he l h0 h1
      rw [hP, ifF (nlt_at he)]
      exact sz_end l h0 h1
    | cons y ys ih =>
      intro pre he l h0 h1
      rw [hP, ifT (lt_at he), ix_at he, hc y (by rw [he]; simp) l h0 h1, Option.bind_some]
      show (if decide (szr l (f y) < 0) = true then _ else P (szr l (f y)) (IntKind.i64.wrap (↑pre.length + 1))) = _
      generalize hw : szr l (f y) = w
      refine sz_step (K := fun w => P w (IntKind.i64.wrap (↑pre.length + 1))) hw h0 h1 fun l' h0' h1' => ?_
      show P l' (IntKind.i64.wrap (↑pre.length + 1)) = _
      rw [wrap_at he (by omega)]
      exact ih _ (next_at he) l' h0' h1'
  exact go xs [] rfl
theorem toS_loop {xs : List α} {P : Int → List α → Option ((List α × Unit) × Unit)} {c : α → Option ((α × Unit) × Unit)} {d : α}
    (hP : ∀ i zs, P i zs = if decide (i < (xs.length : Int)) = true then ix xs i d fun y => (c y).bind fun z => inb zs i (P (IntKind.i64.wrap (i + 1)) (zs.set i.toNat z.1.1)) else some ((zs, ()), ()))
    (hc : ∀ y ∈ xs, c y = some ((y, ()), ())) (hl : (xs.length : Int) ≤ 9223372036854775807) : ∀ zs : List α, zs.length = xs.length → P 0 zs = some ((xs, ()), ()) := by
  have go : ∀ (ys pre zs : List α), xs = pre ++ ys → zs.length = ys.length → P (pre.length : Int) (pre ++ zs) = some ((xs, ()), ()) := by
    intro ys
    induction ys with
    | nil =>
      intro pre zs he hz
      rw [hP, ifF (nlt_at he), List.eq_nil_of_length_eq_zero hz, he]
    | cons y ys ih =>
      intro pre zs he hz
      cases zs with
      | nil => cases hz
      | cons z zs =>
        rw [hP, ifT (lt_at he), ix_at he, hc y (by rw [he]; simp), Option.bind_some, inb_at rfl, set_at, wrap_at he (by omega), show pre ++ y :: zs = (pre ++ [y]) ++ zs by simp]
        exact ih _ zs (next_at he) (by simpa using hz)
  intro zs hz
  exact go xs [] zs rfl hz
theorem toS_loop0 {xs : List α} {P : Int → List α → Option ((List α × Unit) × Unit)} {d : α}
    (hP : ∀ i zs, P i zs = if decide (i < (xs.length : Int)) = true then ix xs i d fun y => inb zs i (P (IntKind.i64.wrap (i + 1)) (zs.set i.toNat y)) else some ((zs, ()), ()))
    (hl : (xs.length : Int) ≤ 9223372036854775807) : ∀ zs : List α, zs.length = xs.length → P 0 zs = some ((xs, ()), ()) :=
  toS_loop (c := fun y => some ((y, ()), ())) (fun i zs => by rw [hP]; rfl) (fun _ _ => rfl) hl
theorem eqS_self {xs : List α} {P : Int → Option ((Bool × Unit) × Unit)} {B : α → α → Option ((Bool × Unit) × Unit) → Option ((Bool × Unit) × Unit)} {d d' : α}
    (hP : ∀ i, P i = if decide (i < (xs.length : Int)) = true then ix xs i d fun y => ix xs i d' fun y' => B y y' (P (IntKind.i64.wrap (i + 1))) else some ((true, ()), ()))
    (hB : ∀ y ∈ xs, ∀ k, B y y k = k) (hl : (xs.length : Int) ≤ 9223372036854775807) : P 0 = some ((true, ()), ()) := by
  have go : ∀ (ys pre : List α), xs = pre ++ ys → P (pre.length : Int) = some ((true, ()), ()) := by
    intro ys
    induction ys with
    | nil =>
      intro pre he
      rw [hP, ifF (nlt_at he)]
    | cons y ys ih =>
      intro pre he
      rw [hP, ifT (lt_at he), ix_at he, ix_at he, hB y (by rw [he]; simp), wrap_at he (by omega)]
      exact ih _ (next_at he)
  exact go xs [] rfl
end
end Go.Proofs.YtiligfmembmapaaGreatDoor.Abs
/- Cells and values: what the small functions say. -/
set_option linter.unusedVariables false
set_option linter.unusedSimpArgs false
set_option linter.unusedSectionVars false
namespace Go.Proofs.YtiligfmembmapaaGreatDoor.Abs
open Go

/-- The empty text. -/
abbrev eS : ByteArray := ⟨#[]⟩
theorem beqI (a b : Int) : (a == b) = decide (a = b) := rfl
def inB (n lo hi : Int) : Bool := decide (lo ≤ n ∧ n ≤ hi)
theorem iwithin_ok (n lo hi : Int) : iwithin n lo hi = some ((inB n lo hi, ()), ()) := by
  rw [iwithin_eq]
  unfold inB
  by_cases h : lo ≤ n <;> simp [h]
theorem sl1In_ok (n lo hi : Int) : sl1In n lo hi = some ((inB n lo hi, ()), ()) := by
  rw [sl1In_eq]
  unfold inB
  by_cases h : lo ≤ n <;> simp [h]
theorem inB_iff {n lo hi : Int} : inB n lo hi = true ↔ lo ≤ n ∧ n ≤ hi := by simp [inB]
def okRef (r : dRef) : Bool := inB r.1 1 52 && inB r.2.1 1 99
theorem sRefOk_ok (r : dRef) : sRefOk r = some ((okRef r, ()), ()) := by
  rw [sRefOk_eq]
  unfold okRef
  simp only [sl1In_ok, Option.bind_some]
  cases inB r.1 1 52 <;> simp
theorem iRefOk_ok (r : dRef) : iRefOk r = some ((okRef r, ()), ()) := by
  rw [iRefOk_eq]
  unfold okRef
  simp only [iwithin_ok, Option.bind_some]
  cases inB r.1 1 52 <;> simp
def okArea (a : dArea) : Bool := okRef a.1 && okRef a.2.1 && decide (a.1.1 ≤ a.2.1.1) && decide (a.1.2.1 ≤ a.2.1.2.1)
theorem sAreaOk_ok (a : dArea) : sAreaOk a = some ((okArea a, ()), ()) := by
  rw [sAreaOk_eq]
  unfold okArea
  simp only [sRefOk_ok, Option.bind_some]
  cases okRef a.1 <;> cases okRef a.2.1 <;> by_cases h : a.1.1 ≤ a.2.1.1 <;> simp [h]
theorem iAreaOk_ok (a : dArea) : iAreaOk a = some ((okArea a, ()), ()) := by
  rw [iAreaOk_eq]
  unfold okArea
  simp only [iRefOk_ok, Option.bind_some]
  cases okRef a.1 <;> cases okRef a.2.1 <;> by_cases h : a.1.1 ≤ a.2.1.1 <;> simp [h]
/-! ### Texts that are plain -/
def prB (b : Int) : Bool := decide (32 ≤ b ∧ b ≤ 126)
def plain (s : ByteArray) : Bool := (bts s).all prB
theorem sl2Plain_loop {s : ByteArray} (hs : s.size ≤ 9223372036854775807) : ∀ (ys pre : List Int), bts s = pre ++ ys → sl2Plain_p2 s (pre.length : Int) = some ((ys.all prB && decide ((s.size : Int) ≤ 200), ()), ())
  | [], pre, he => by
    rw [sl2Plain_p2_eq, ifF (nlt_ats he)]
    simp
  | y :: ys, pre, he => by
    rw [sl2Plain_p2_eq, ifT (lt_ats he), ixs_at he, ixs_at he, wrap_ats he hs, sl2Plain_loop hs ys _ (next_at he)]
    by_cases h1 : y < 32
    · have : prB y = false := by simp [prB]; omega
      simp [h1, this]
    · by_cases h2 : y > 126
      · have : prB y = false := by simp [prB]; omega
        simp [h1, h2, this]
      · have : prB y = true := by simp [prB]; omega
        simp [h1, h2, this]
theorem sl2Plain_ok {s : ByteArray} (hs : s.size ≤ 9223372036854775807) : sl2Plain s = some ((plain s && decide ((s.size : Int) ≤ 200), ()), ()) := by
  rw [sl2Plain_eq]
  exact sl2Plain_loop hs (bts s) [] rfl
theorem iisText_loop {s : ByteArray} {m : Int} (hs : s.size ≤ 9223372036854775807) : ∀ (ys pre : List Int), bts s = pre ++ ys → iisText_p2 s m (s.size : Int) (pre.length : Int) = some ((ys.all prB && decide ((s.size : Int) ≤ m), ()), ())
  | [], pre, he => by
    rw [iisText_p2_eq, ifF (nlt_ats he)]
    simp
  | y :: ys, pre, he => by
    rw [iisText_p2_eq, ifT (lt_ats he), ixs_at he, ixs_at he, wrap_ats he hs, iisText_loop hs ys _ (next_at he)]
    by_cases h1 : y < 32
    · have : prB y = false := by simp [prB]; omega
      simp [h1, this]
    · by_cases h2 : y > 126
      · have : prB y = false := by simp [prB]; omega
        simp [h1, h2, this]
      · have : prB y = true := by simp [prB]; omega
        simp [h1, h2, this]
theorem iisText_ok {s : ByteArray} {m : Int} (hs : s.size ≤ 9223372036854775807) : iisText s m = some ((plain s && decide ((s.size : Int) ≤ m), ()), ()) := by
  rw [iisText_eq]
  exact iisText_loop hs (bts s) [] rfl
/-! ### Values -/
def okVal (v : dValue) : Bool :=
  if v.1 = 2 then decide (v.2.1 = 0) && (plain v.2.2.1 && decide ((v.2.2.1.size : Int) ≤ 200)) else
  decide (v.2.2.1 = eS) && (if v.1 = 0 then decide (v.2.1 = 0) else if v.1 = 1 then inB v.2.1 (-1000000000000000) 1000000000000000 else if v.1 = 3 then inB v.2.1 0 1 else if v.1 = 4 then inB v.2.1 1 5 else false)
theorem sValueOk_ok {v : dValue} (h : v.2.2.1.size ≤ 9223372036854775807) : sValueOk v = some ((okVal v, ()), ()) := by
  rw [sValueOk_eq]
  unfold okVal
  simp only [sl1In_ok, sl2Plain_ok h, Option.bind_some, beq_iff_eq, eqS]
  by_cases h0 : v.1 = 0
  · by_cases h1 : v.2.1 = 0 <;> simp [h0, h1]
  by_cases h1 : v.1 = 1
  · cases inB v.2.1 (-1000000000000000) 1000000000000000 <;> simp [h1]
  by_cases h2 : v.1 = 2
  · by_cases h1 : v.2.1 = 0 <;> simp [h2, h1]
  by_cases h3 : v.1 = 3
  · cases inB v.2.1 0 1 <;> simp [h3]
  by_cases h4 : v.1 = 4
  · cases inB v.2.1 1 5 <;> simp [h4]
  simp [h0, h1, h2, h3, h4]
theorem iValueOk_ok {v : dValue} (h : v.2.2.1.size ≤ 9223372036854775807) : iValueOk v = some ((okVal v, ()), ()) := by
  rw [iValueOk_eq]
  unfold okVal
  simp only [iwithin_ok, iisText_ok h, Option.bind_some, beq_iff_eq, eqS]
  by_cases h2 : v.1 = 2
  · by_cases h1 : v.2.1 = 0 <;> simp [h2, h1]
  by_cases he : v.2.2.1 = eS
  · by_cases h0 : v.1 = 0
    · by_cases h1 : v.2.1 = 0 <;> simp [h0, h1, he]
    by_cases h1 : v.1 = 1
    · cases inB v.2.1 (-1000000000000000) 1000000000000000 <;> simp [h1, he]
    by_cases h3 : v.1 = 3
    · cases inB v.2.1 0 1 <;> simp [h3, he]
    by_cases h4 : v.1 = 4
    · cases inB v.2.1 1 5 <;> simp [h4, he]
    simp [h0, h1, h2, h3, h4, he]
  · simp [h2, he]
theorem okVal_size {v : dValue} (h : okVal v = true) : v.2.2.1.size ≤ 200 := by
  unfold okVal at h
  split at h
  · simp only [Bool.and_eq_true, decide_eq_true_eq] at h
    omega
  · simp only [Bool.and_eq_true, decide_eq_true_eq] at h
    rw [h.1]
    decide
theorem okVal_big {v : dValue} (h : okVal v = true) : v.2.2.1.size ≤ 9223372036854775807 := Nat.le_trans (okVal_size h) (by decide)
def vN (n : Int) : dValue := (1, n, eS, ())
def vE (n : Int) : dValue := (4, n, eS, ())
def vB (b : Bool) : dValue := (3, if b = true then 1 else 0, eS, ())
def vT (s : ByteArray) : dValue := (2, 0, s, ())
def v0 : dValue := (0, 0, eS, ())
theorem sl2Error_ok (n : Int) : sl2Error n = some ((vE n, ()), ()) := sl2Error_eq
theorem ifault_ok (n : Int) : ifault n = some ((vE n, ()), ()) := ifault_eq
theorem inumber_ok (n : Int) : inumber n = some ((vN n, ()), ()) := inumber_eq
theorem sl2Flag_ok (b : Bool) : sl2Flag b = some ((vB b, ()), ()) := by
  rw [sl2Flag_eq]
  cases b <;> rfl
theorem itruth_ok (b : Bool) : itruth b = some ((vB b, ()), ()) := by
  rw [itruth_eq]
  cases b <;> rfl
def bnd (n : Int) : dValue := if inB n (-1000000000000000) 1000000000000000 = true then vN n else vE 4
theorem sl2Int_ok (n : Int) : sl2Int n = some ((bnd n, ()), ()) := by
  rw [sl2Int_eq]
  unfold bnd
  simp only [sl1In_ok, sl2Error_ok, Option.bind_some]
  cases inB n (-1000000000000000) 1000000000000000 <;> rfl
theorem ibounded_ok (n : Int) : ibounded n = some ((bnd n, ()), ()) := by
  rw [ibounded_eq]
  unfold bnd
  simp only [iwithin_ok, ifault_ok, inumber_ok, Option.bind_some]
  cases inB n (-1000000000000000) 1000000000000000 <;> rfl
/-- What is said of a value that is not as asked. -/
def nonV (v : dValue) : dValue := if okVal v = true then (if v.1 = 4 then v else vE 2) else vE 2
theorem inone_ok {v : dValue} (h : v.2.2.1.size ≤ 9223372036854775807) : inone v = some ((nonV v, ()), ()) := by
  rw [inone_eq]
  unfold nonV
  simp only [iValueOk_ok h, ifault_ok, Option.bind_some, beq_iff_eq]
  cases okVal v
  · rfl
  · by_cases h4 : v.1 = 4 <;> simp [h4]
def isNum (v : dValue) : Bool := okVal v && (decide (v.1 = 0) || decide (v.1 = 1))
theorem iasNumber_ok {v : dValue} (h : v.2.2.1.size ≤ 9223372036854775807) : iasNumber v = some ((v.2.1, isNum v, ()), ()) := by
  rw [iasNumber_eq]
  unfold isNum
  simp only [iValueOk_ok h, Option.bind_some, beq_iff_eq]
  cases okVal v
  · rfl
  · by_cases h0 : v.1 = 0
    · simp [h0]
    · simp [h0, beqI]
theorem sl2Num_ok {v : dValue} (h : v.2.2.1.size ≤ 9223372036854775807) : sl2Num v = some ((if isNum v = true then v.2.1 else 0, if isNum v = true then v0 else nonV v, ()), ()) := by
  rw [sl2Num_eq]
  unfold isNum nonV
  simp only [sValueOk_ok h, sl2Error_ok, Option.bind_some, beq_iff_eq]
  cases okVal v
  · rfl
  · by_cases h0 : v.1 = 0
    · simp [h0, v0]
    · by_cases h1 : v.1 = 1
      · simp [h1, v0]
      · by_cases h4 : v.1 = 4 <;> simp [h0, h1, h4]
theorem nonV_bad (v : dValue) : (nonV v).1 = 4 := by
  unfold nonV
  split
  · split
    · assumption
    · rfl
  · rfl
theorem isNum_range {v : dValue} (h : isNum v = true) : -1000000000000000 ≤ v.2.1 ∧ v.2.1 ≤ 1000000000000000 := by
  unfold isNum okVal at h
  by_cases h2 : v.1 = 2
  · simp [h2] at h
  · rw [if_neg h2] at h
    simp only [Bool.and_eq_true, Bool.or_eq_true, decide_eq_true_eq] at h
    obtain ⟨⟨_, h⟩, h0 | h1⟩ := h
    · rw [if_pos h0] at h
      simp only [decide_eq_true_eq] at h
      omega
    · rw [if_neg (by omega), if_pos h1] at h
      exact inB_iff.1 h
/-- What is reckoned of two numbers. -/
def two (f : Int → Int → dValue) (a b : dValue) : dValue := if isNum a = true then (if isNum b = true then f a.2.1 b.2.1 else nonV b) else nonV a
def addV := two fun x y => bnd (x + y)
def subV := two fun x y => bnd (x - y)
def divV := two fun x y => if y = 0 then vE 1 else bnd (Int.tdiv x y)
def negV (a : dValue) : dValue := subV v0 a
theorem sl2Two_ok {a b : dValue} (ha : a.2.2.1.size ≤ 9223372036854775807) (hb : b.2.2.1.size ≤ 9223372036854775807) : sl2Two a b = some ((if isNum a = true then (if isNum b = true then (a.2.1, b.2.1, v0, ()) else (a.2.1, 0, nonV b, ())) else (0, 0, nonV a, ())), ()) := by
  rw [sl2Two_eq]
  simp only [sl2Num_ok ha, sl2Num_ok hb, Option.bind_some, bne_iff_ne, ne_eq]
  cases ia : isNum a
  · have := nonV_bad a
    simp [this]
  · cases ib : isNum b <;> simp [v0]
theorem tdiv_range {x y : Int} (hx : -1000000000000000 ≤ x ∧ x ≤ 1000000000000000) (hy : y ≠ 0) : -1000000000000000 ≤ Int.tdiv x y ∧ Int.tdiv x y ≤ 1000000000000000 := by
  have h1 : (Int.tdiv x y).natAbs ≤ x.natAbs := by
    rw [Int.natAbs_tdiv]
    exact Nat.div_le_self _ _
  omega
section
variable {a b : dValue} (ha : a.2.2.1.size ≤ 9223372036854775807) (hb : b.2.2.1.size ≤ 9223372036854775807)
include ha hb
theorem sAdd_ok : sAdd a b = some ((addV a b, ()), ()) := by
  rw [sAdd_eq]
  unfold addV two
  simp only [sl2Two_ok ha hb, sl2Int_ok, Option.bind_some, bne_iff_ne, ne_eq]
  cases ia : isNum a
  · have := nonV_bad a
    simp [this]
  · cases ib : isNum b
    · have := nonV_bad b
      simp [this]
    · have h1 := isNum_range ia
      have h2 := isNum_range ib
      simp [v0, wr (n := a.2.1 + b.2.1) (by omega) (by omega)]
theorem sLess_ok : sLess a b = some ((subV a b, ()), ()) := by
  rw [sLess_eq]
  unfold subV two
  simp only [sl2Two_ok ha hb, sl2Int_ok, Option.bind_some, bne_iff_ne, ne_eq]
  cases ia : isNum a
  · have := nonV_bad a
    simp [this]
  · cases ib : isNum b
    · have := nonV_bad b
      simp [this]
    · have h1 := isNum_range ia
      have h2 := isNum_range ib
      simp [v0, wr (n := a.2.1 - b.2.1) (by omega) (by omega)]
theorem iAdd_ok : iAdd a b = some ((addV a b, ()), ()) := by
  rw [iAdd_eq, ireckoned_iAdd_1_eq]
  unfold addV two
  simp only [iasNumber_ok ha, iasNumber_ok hb, inone_ok ha, inone_ok hb, iAdd_1_eq, ibounded_ok, Option.bind_some]
  cases ia : isNum a
  · simp
  · cases ib : isNum b
    · simp
    · have h1 := isNum_range ia
      have h2 := isNum_range ib
      simp [wr (n := a.2.1 + b.2.1) (by omega) (by omega)]
theorem iLess_ok : iLess a b = some ((subV a b, ()), ()) := by
  rw [iLess_eq, ireckoned_iLess_1_eq]
  unfold subV two
  simp only [iasNumber_ok ha, iasNumber_ok hb, inone_ok ha, inone_ok hb, iLess_1_eq, ibounded_ok, Option.bind_some]
  cases ia : isNum a
  · simp
  · cases ib : isNum b
    · simp
    · have h1 := isNum_range ia
      have h2 := isNum_range ib
      simp [wr (n := a.2.1 - b.2.1) (by omega) (by omega)]
theorem sOver_ok : sOver a b = some ((divV a b, ()), ()) := by
  rw [sOver_eq]
  unfold divV two
  simp only [sl2Two_ok ha hb, sl2Int_ok, sl2Error_ok, Option.bind_some, bne_iff_ne, ne_eq, beq_iff_eq]
  cases ia : isNum a
  · have := nonV_bad a
    simp [this]
  · cases ib : isNum b
    · have := nonV_bad b
      simp [this]
    · have h1 := isNum_range ia
      by_cases h0 : b.2.1 = 0
      · simp [v0, h0]
      · have h2 := tdiv_range h1 h0
        simp [v0, h0, nz_ok, wr (n := Int.tdiv a.2.1 b.2.1) (by omega) (by omega)]
theorem iOver_ok : iOver a b = some ((divV a b, ()), ()) := by
  rw [iOver_eq, ireckoned_iOver_1_eq]
  unfold divV two
  simp only [iasNumber_ok ha, iasNumber_ok hb, inone_ok ha, inone_ok hb, iOver_1_eq, ibounded_ok, ifault_ok, Option.bind_some, beq_iff_eq]
  cases ia : isNum a
  · simp
  · cases ib : isNum b
    · simp
    · have h1 := isNum_range ia
      by_cases h0 : b.2.1 = 0
      · simp [h0]
      · have h2 := tdiv_range h1 h0
        simp [h0, nz_ok, wr (n := Int.tdiv a.2.1 b.2.1) (by omega) (by omega)]
end
end Go.Proofs.YtiligfmembmapaaGreatDoor.Abs
/- Values: products, texts, order. -/
set_option linter.unusedVariables false
set_option linter.unusedSimpArgs false
set_option linter.unusedSectionVars false
namespace Go.Proofs.YtiligfmembmapaaGreatDoor.Abs
open Go

/-! ### Products -/
def mulF (x y : Int) : dValue := if (x * y).natAbs ≤ 1000000000000000 then vN (x * y) else vE 4
def mulV := two mulF
theorem mul_cond {p q : Int} (hq : 0 < q) : Int.tdiv 1000000000000000 q < p ↔ ¬ p * q ≤ 1000000000000000 := by
  rw [Int.tdiv_eq_ediv_of_nonneg (by decide), ← Int.not_le, Int.le_ediv_iff_mul_le hq]
theorem wdiv {q : Int} (hq : 0 < q) : IntKind.i64.wrap (Int.tdiv 1000000000000000 q) = Int.tdiv 1000000000000000 q := by
  have := tdiv_range (x := 1000000000000000) (y := q) (by omega) (by omega)
  exact wr (by omega) (by omega)
theorem bnd_mul {x y : Int} (h : (x * y).natAbs ≤ 1000000000000000) : bnd (IntKind.i64.wrap (x * y)) = vN (x * y) := by
  rw [wr (by omega) (by omega)]
  unfold bnd
  rw [if_pos (inB_iff.2 (by omega))]
theorem abs_mul (x y : Int) : (x.natAbs : Int) * (y.natAbs : Int) = ((x * y).natAbs : Int) := by rw [Int.natAbs_mul]; simp
section
variable {a b : dValue} (ha : a.2.2.1.size ≤ 9223372036854775807) (hb : b.2.2.1.size ≤ 9223372036854775807)
include ha hb
theorem sTimes_ok : sTimes a b = some ((mulV a b, ()), ()) := by
  rw [sTimes_eq]
  unfold mulV two
  simp only [sl2Two_ok ha hb, sl2Int_ok, sl2Error_ok, Option.bind_some]
  cases ia : isNum a
  · have := nonV_bad a
    simp [this]
  · cases ib : isNum b
    · have := nonV_bad b
      simp [this]
    · have h1 := isNum_range ia
      have h2 := isNum_range ib
      generalize a.2.1 = x at h1
      generalize b.2.1 = y at h2
      unfold mulF
      by_cases hx : x = 0
      · simp [hx, v0, bnd, inB]
      by_cases hy : y = 0
      · simp [hx, hy, v0, bnd, inB]
      have hm := abs_mul x y
      have w1 : IntKind.i64.wrap (0 - x) = - x := by rw [wr (by omega) (by omega)]; omega
      have w2 : IntKind.i64.wrap (0 - y) = - y := by rw [wr (by omega) (by omega)]; omega
      have fin : ∀ p q : Int, p = (x.natAbs : Int) → q = (y.natAbs : Int) → (nz q (if decide (p > IntKind.i64.wrap (Int.tdiv 1000000000000000 q)) = true then some ((vE 4, ()), ()) else some ((bnd (IntKind.i64.wrap (x * y)), ()), ()))) = some ((if (x * y).natAbs ≤ 1000000000000000 then vN (x * y) else vE 4, ()), ()) := by
        intro p q hp hq
        have hq0 : 0 < q := by omega
        rw [nz_ok (by omega), wdiv hq0]
        by_cases hc : (x * y).natAbs ≤ 1000000000000000
        · rw [ifF (by rw [gt_iff_lt, mul_cond hq0, hp, hq, hm]; omega), if_pos hc, bnd_mul hc]
        · rw [ifT (by rw [gt_iff_lt, mul_cond hq0, hp, hq, hm]; omega), if_neg hc]
      by_cases nx : x < 0 <;> by_cases ny : y < 0 <;> simp only [v0, hx, hy, nx, ny, beqI, w1, w2, if_true, if_false, decide_true, decide_false, Bool.false_eq_true, bne_self_eq_false, Option.bind_some] <;> refine fin _ _ ?_ ?_ <;> omega
theorem iTimes_ok : iTimes a b = some ((mulV a b, ()), ()) := by
  rw [iTimes_eq, ireckoned_iTimes_1_eq]
  unfold mulV two
  simp only [iasNumber_ok ha, iasNumber_ok hb, inone_ok ha, inone_ok hb, iTimes_1_eq, ibounded_ok, ifault_ok, Option.bind_some]
  cases ia : isNum a
  · simp
  · cases ib : isNum b
    · simp
    · have h1 := isNum_range ia
      have h2 := isNum_range ib
      generalize a.2.1 = x at h1
      generalize b.2.1 = y at h2
      unfold mulF
      have hm := abs_mul x y
      have w1 : (if x < IntKind.i64.wrap (0 - x) then IntKind.i64.wrap (0 - x) else x) = (x.natAbs : Int) := by
        rw [wr (by omega) (by omega)]
        split <;> omega
      have w2 : (if y < IntKind.i64.wrap (0 - y) then IntKind.i64.wrap (0 - y) else y) = (y.natAbs : Int) := by
        rw [wr (by omega) (by omega)]
        split <;> omega
      simp only [w1, w2, Bool.not_true, Bool.false_eq_true, if_false, if_true]
      by_cases hy : y = 0
      · simp [hy, bnd, inB, wr (n := 0) (by decide) (by decide)]
      · have hq0 : 0 < (y.natAbs : Int) := by omega
        rw [if_pos (by simpa using hy), nz_ok (by omega), wdiv hq0]
        by_cases hc : (x * y).natAbs ≤ 1000000000000000
        · rw [ifF (by rw [gt_iff_lt, mul_cond hq0, hm]; omega), if_pos hc, bnd_mul hc]
          rfl
        · rw [ifT (by rw [gt_iff_lt, mul_cond hq0, hm]; omega), if_neg hc]
          rfl
end
theorem sNegated_ok {a : dValue} (ha : a.2.2.1.size ≤ 9223372036854775807) : sNegated a = some ((negV a, ()), ()) := by
  rw [sNegated_eq]
  unfold negV subV two
  have h0 : isNum v0 = true := by decide
  simp only [sl2Num_ok ha, sl2Int_ok, Option.bind_some, h0, if_true]
  cases ia : isNum a
  · have := nonV_bad a
    simp [this]
  · have h1 := isNum_range ia
    simp [v0, wr (n := -a.2.1) (by omega) (by omega)]
theorem iNegated_ok {a : dValue} (ha : a.2.2.1.size ≤ 9223372036854775807) : iNegated a = some ((negV a, ()), ()) := by
  rw [iNegated_eq, show ((0, 0, ({ data := #[] } : ByteArray), ()) : dValue) = v0 from rfl, iLess_ok (by decide) ha]
  rfl
/-! ### Numbers as texts -/
theorem wr8 {n : Int} (h0 : 0 ≤ n) (h1 : n ≤ 255) : IntKind.u8.wrap n = n := by
  simp only [IntKind.wrap, IntKind.bits, IntKind.signed]
  simp
  omega
theorem decLen : ∀ (k u : Nat), u < 10 ^ (k + 1) → (Lib.decDigits u).length ≤ k + 1
  | 0, u, h => by
    have h : u < 10 := by simpa using h
    rw [Lib.decDigits, dif_pos h]
    simp
  | k + 1, u, h => by
    rw [Lib.decDigits]
    split
    · simp
    · have := decLen k (u / 10) (by rw [Nat.pow_succ] at h; exact Nat.div_lt_of_lt_mul (by omega))
      rw [List.length_append]
      simp only [List.length_singleton]
      omega
theorem digit_text {x : Nat} (h : x < 10) : strOfNums ([IntKind.u8.wrap (IntKind.i64.wrap (48 + (x : Int)))] : List Int) = ⟨#[UInt8.ofNat (48 + x)]⟩ := by
  rw [wr (by omega) (by omega), wr8 (by omega) (by omega)]
  unfold strOfNums
  simp only [List.map_cons, List.map_nil]
  congr 3
theorem data_app (a b : ByteArray) : (a ++ b).data = a.data ++ b.data := by simp
theorem ba_ext {a b : ByteArray} (h : a.data.toList = b.data.toList) : a = b := by
  cases a; cases b
  congr 1
  exact Array.toList_inj.1 h
theorem sl1Dec_p4_ok : ∀ (n u : Nat) (acc : ByteArray), u ≤ n → u ≤ 9223372036854775807 → acc.size + n ≤ 9223372036854775806 → sl1Dec_p4 (u : Int) acc = some ((⟨(Lib.decDigits u).toArray⟩ ++ acc, ()), ()) := by
  intro n
  induction n with
  | zero =>
    intro u acc h1 h2 h3
    have : u = 0 := by omega
    subst this
    rw [sl1Dec_p4_eq, ifF (by decide), show ((0 : Nat) : Int) = ((0 : Nat) : Int) from rfl, digit_text (x := 0) (by decide), cats_ok (by simp only [ByteArray.size]; simp; have : acc.data.size = acc.size := rfl; omega)]
    rw [Lib.decDigits, dif_pos (by decide)]
  | succ n ih =>
    intro u acc h1 h2 h3
    rw [sl1Dec_p4_eq]
    have hs : ∀ c : UInt8, (⟨#[c]⟩ : ByteArray).size = 1 := fun _ => rfl
    by_cases h : u < 10
    · rw [ifF (by omega), digit_text h, cats_ok (by rw [hs]; omega)]
      rw [Lib.decDigits, dif_pos h]
    · have e1 : Int.tmod (u : Int) 10 = ((u % 10 : Nat) : Int) := by
        rw [Int.tmod_eq_emod_of_nonneg (by omega)]
        omega
      have e2 : Int.tdiv (u : Int) 10 = ((u / 10 : Nat) : Int) := by
        rw [Int.tdiv_eq_ediv_of_nonneg (by omega)]
        omega
      rw [ifT (by omega), e1, e2, digit_text (Nat.mod_lt _ (by decide)), cats_ok (by rw [hs]; omega), wr (by omega) (by omega), ih (u / 10) _ (by omega) (by omega) (by rw [size_append, hs]; omega)]
      conv => rhs; rw [Lib.decDigits, dif_neg h]
      congr 3
      apply ba_ext
      simp
theorem itoaB_nat (u : Nat) : itoaB (u : Int) = ⟨(Lib.decDigits u).toArray⟩ := by
  unfold itoaB Lib.itoa
  rw [if_neg (by omega)]
  simp
theorem itoaB_neg {n : Int} (h : n < 0) : itoaB n = ⟨#[45]⟩ ++ itoaB (-n) := by
  unfold itoaB Lib.itoa
  rw [if_pos h, if_neg (by omega)]
  apply ba_ext
  simp
  congr 1
  omega
theorem decSize {u : Nat} (h : u ≤ 9223372036854775807) : (⟨(Lib.decDigits u).toArray⟩ : ByteArray).size ≤ 19 := by
  have := decLen 18 u (by omega)
  simpa [ByteArray.size] using this
theorem itoaB_size {n : Int} (h0 : -9223372036854775807 ≤ n) (h1 : n ≤ 9223372036854775807) : (itoaB n).size ≤ 20 := by
  by_cases h : n < 0
  · rw [itoaB_neg h, size_append, show -n = ((-n).toNat : Int) by omega, itoaB_nat]
    have := decSize (u := (-n).toNat) (by omega)
    have h1 : (⟨#[45]⟩ : ByteArray).size = 1 := rfl
    omega
  · rw [show n = (n.toNat : Int) by omega, itoaB_nat]
    have := decSize (u := n.toNat) (by omega)
    omega
theorem sl1Dec_nat {u : Nat} (h : u ≤ 9223372036854775807) : sl1Dec (u : Int) = some ((itoaB (u : Int), ()), ()) := by
  have h19 := decSize h
  rw [sl1Dec_eq, ifF (by omega), itoaB_nat]
  have h2 : ∀ acc : ByteArray, acc.size = 0 → sl1Dec_p4 (u : Int) acc = some ((⟨(Lib.decDigits u).toArray⟩ ++ acc, ()), ()) := by
    intro acc ha
    by_cases hu : u ≤ 9223372036854775806
    · exact sl1Dec_p4_ok u u acc (Nat.le_refl _) h (by omega)
    · have hu : u = 9223372036854775807 := by omega
      subst hu
      have hs : ∀ c : UInt8, (⟨#[c]⟩ : ByteArray).size = 1 := fun _ => rfl
      have e1 : Int.tmod ((9223372036854775807 : Nat) : Int) 10 = ((7 : Nat) : Int) := by decide
      have e2 : Int.tdiv ((9223372036854775807 : Nat) : Int) 10 = ((922337203685477580 : Nat) : Int) := by decide
      rw [sl1Dec_p4_eq, ifT (by decide), e1, e2, digit_text (by decide), cats_ok (by rw [hs]; omega), wr (by omega) (by omega), sl1Dec_p4_ok 922337203685477580 _ _ (by omega) (by omega) (by rw [size_append, hs]; omega)]
      conv => rhs; rw [Lib.decDigits, dif_neg (by decide)]
      congr 3
      apply ba_ext
      simp
  rw [h2 _ rfl]
  congr 3
  apply ba_ext
  simp
theorem sl1Dec_ok {n : Int} (h0 : -9223372036854775807 ≤ n) (h1 : n ≤ 9223372036854775807) : sl1Dec n = some ((itoaB n, ()), ()) := by
  by_cases h : n < 0
  · have hz := itoaB_size (n := -n) (by omega) (by omega)
    have h45 : (⟨#[45]⟩ : ByteArray).size = 1 := rfl
    rw [sl1Dec_eq, ifT h, wr (by omega) (by omega), show (0 - n : Int) = ((-n).toNat : Int) by omega, sl1Dec_nat (by omega), show (((-n).toNat : Nat) : Int) = -n by omega]
    simp only [Option.bind_some]
    rw [cats_ok (by omega), ← itoaB_neg h]
  · rw [show n = (n.toNat : Int) by omega]
    exact sl1Dec_nat (by omega)
theorem idecimal_ok {n : Int} (h0 : -9223372036854775808 ≤ n) (h1 : n ≤ 9223372036854775807) : idecimal n = some ((itoaB n, ()), ()) := by
  rw [idecimal_eq, strconv_FormatInt_eq]
  show (if (10 : Int) = 10 ∧ _ ∧ _ then _ else _ : Option _).bind _ = _
  rw [if_pos ⟨rfl, h0, h1⟩]
  rfl
/-! ### Values as texts -/
def errL : List ByteArray := [(⟨#[]⟩ : ByteArray), (⟨#[35, 68, 73, 86, 33]⟩ : ByteArray), (⟨#[35, 84, 89, 80, 69, 33]⟩ : ByteArray), (⟨#[35, 82, 69, 70, 33]⟩ : ByteArray), (⟨#[35, 79, 86, 69, 82, 33]⟩ : ByteArray), (⟨#[35, 67, 89, 67, 76, 69, 33]⟩ : ByteArray)]
def errT (n : Int) : ByteArray := errL.getD n.toNat eS
theorem sl2Name_ok {n : Int} (h0 : 0 ≤ n) (h1 : n ≤ 5) : sl2Name n = some ((errT n, ()), ()) := by
  rw [sl2Name_eq, inb_ok h0 (by show n < 6; omega)]
  rfl
theorem ierrorText_ok {n : Int} (h0 : 0 ≤ n) (h1 : n ≤ 5) : ierrorText n = some ((errT n, ()), ()) := by
  rw [ierrorText_eq, inb_ok h0 (by show n < 6; omega)]
  rfl
def boolT (n : Int) : ByteArray := if n = 1 then ⟨#[84, 82, 85, 69]⟩ else ⟨#[70, 65, 76, 83, 69]⟩
theorem sl2Bool_ok (n : Int) : sl2Bool n = some ((boolT n, ()), ()) := by
  rw [sl2Bool_eq]
  unfold boolT
  by_cases h : n = 1 <;> simp [h]
/-- The text of a right value. -/
def valT (v : dValue) : ByteArray := if v.1 = 1 then itoaB v.2.1 else if v.1 = 2 then (⟨#[39]⟩ : ByteArray) ++ v.2.2.1 else if v.1 = 3 then boolT v.2.1 else if v.1 = 4 then errT v.2.1 else eS
theorem okVal_1 {v : dValue} (h : okVal v = true) (k : v.1 = 1) : -1000000000000000 ≤ v.2.1 ∧ v.2.1 ≤ 1000000000000000 := by
  unfold okVal at h
  rw [if_neg (by omega), if_neg (by omega), if_pos k] at h
  simp only [Bool.and_eq_true, decide_eq_true_eq] at h
  exact inB_iff.1 h.2
theorem okVal_3 {v : dValue} (h : okVal v = true) (k : v.1 = 3) : 0 ≤ v.2.1 ∧ v.2.1 ≤ 1 := by
  unfold okVal at h
  rw [if_neg (by omega), if_neg (by omega), if_neg (by omega), if_pos k] at h
  simp only [Bool.and_eq_true, decide_eq_true_eq] at h
  exact inB_iff.1 h.2
theorem okVal_4 {v : dValue} (h : okVal v = true) (k : v.1 = 4) : 1 ≤ v.2.1 ∧ v.2.1 ≤ 5 := by
  unfold okVal at h
  rw [if_neg (by omega), if_neg (by omega), if_neg (by omega), if_neg (by omega), if_pos k] at h
  simp only [Bool.and_eq_true, decide_eq_true_eq] at h
  exact inB_iff.1 h.2
theorem okVal_kind {v : dValue} (h : okVal v = true) : v.1 = 0 ∨ v.1 = 1 ∨ v.1 = 2 ∨ v.1 = 3 ∨ v.1 = 4 := by
  unfold okVal at h
  split at h
  · omega
  · simp only [Bool.and_eq_true] at h
    have h := h.2
    split at h
    · omega
    · split at h
      · omega
      · split at h
        · omega
        · split at h
          · omega
          · cases h
theorem errT_size (n : Int) : (errT n).size ≤ 10 := by
  have h : ∀ i : Nat, i < 6 → (errL.getD i eS).size ≤ 10 := by decide
  unfold errT
  by_cases hn : n.toNat < 6
  · exact h _ hn
  · rw [List.getD_eq_getElem?_getD, List.getElem?_eq_none (by show 6 ≤ n.toNat; omega)]
    decide
theorem valT_size {v : dValue} (h : okVal v = true) : (valT v).size ≤ 201 := by
  have hs := okVal_size h
  unfold valT
  split
  · have := okVal_1 h ‹_›
    exact Nat.le_trans (itoaB_size (by omega) (by omega)) (by decide)
  · split
    · rw [size_append]
      have : (⟨#[39]⟩ : ByteArray).size = 1 := rfl
      omega
    · split
      · unfold boolT
        split <;> decide
      · split
        · exact Nat.le_trans (errT_size _) (by decide)
        · decide
theorem cat39 {β : Type} {s : ByteArray} {f : ByteArray → Option β} (h : s.size ≤ 9223372036854775806) : cats (⟨#[39]⟩ : ByteArray) s f = f ((⟨#[39]⟩ : ByteArray) ++ s) := cats_ok (by
  have : (⟨#[39]⟩ : ByteArray).size = 1 := rfl
  omega)
theorem sValueText_ok {v : dValue} (hs : v.2.2.1.size ≤ 9223372036854775807) : sValueText v = some ((if okVal v = true then valT v else eS, ()), ()) := by
  rw [sValueText_eq, sValueOk_ok hs, Option.bind_some]
  unfold valT
  cases h : okVal v
  · rfl
  · have hz := okVal_size h
    simp only [Bool.not_true, Bool.false_eq_true, if_false, if_true, beq_iff_eq]
    by_cases h1 : v.1 = 1
    · have := okVal_1 h h1
      simp [h1, sl1Dec_ok (n := v.2.1) (by omega) (by omega)]
    by_cases h2 : v.1 = 2
    · simp only [h2, if_true, cat39 (s := v.2.2.1) (by omega)]
      rfl
    by_cases h3 : v.1 = 3
    · simp [h3, sl2Bool_ok]
    by_cases h4 : v.1 = 4
    · have := okVal_4 h h4
      simp [h4, sl2Name_ok (n := v.2.1) (by omega) (by omega)]
    simp [h1, h2, h3, h4]
theorem ivalueText_ok {v : dValue} (h : okVal v = true) : ivalueText v = some ((valT v, ()), ()) := by
  rw [ivalueText_eq]
  unfold valT
  have hz := okVal_size h
  simp only [beq_iff_eq]
  by_cases h1 : v.1 = 1
  · have := okVal_1 h h1
    simp [h1, idecimal_ok (n := v.2.1) (by omega) (by omega)]
  by_cases h2 : v.1 = 2
  · simp only [h2, if_true, cat39 (s := v.2.2.1) (by omega)]
    rfl
  by_cases h3 : v.1 = 3
  · have := okVal_3 h h3
    simp only [h3, if_true]
    rw [if_neg (by decide), if_neg (by decide), if_neg (by decide), if_neg (by decide), inb_ok (by omega) (by show v.2.1 < 2; omega)]
    unfold boolT
    by_cases h5 : v.2.1 = 1
    · rw [h5]
      rfl
    · rw [show v.2.1 = 0 by omega]
      rfl
  by_cases h4 : v.1 = 4
  · have := okVal_4 h h4
    simp [h4, ierrorText_ok (n := v.2.1) (by omega) (by omega)]
  simp [h1, h2, h3, h4]
theorem iValueText_ok {v : dValue} (hs : v.2.2.1.size ≤ 9223372036854775807) : iValueText v = some ((if okVal v = true then valT v else eS, ()), ()) := by
  rw [iValueText_eq, iValueOk_ok hs, Option.bind_some]
  cases h : okVal v
  · rfl
  · rw [ivalueText_ok h]
    rfl
/-! ### Texts joined -/
def isTx (v : dValue) : Bool := okVal v && !decide (v.1 = 4)
def txt (v : dValue) : ByteArray := if v.1 = 2 then v.2.2.1 else valT v
theorem txt_size {v : dValue} (h : okVal v = true) : (txt v).size ≤ 201 := by
  unfold txt
  split
  · exact Nat.le_trans (okVal_size h) (by decide)
  · exact valT_size h
theorem iasText_ok {v : dValue} (hs : v.2.2.1.size ≤ 9223372036854775807) : ∃ t, iasText v = some ((t, isTx v, ()), ()) ∧ (isTx v = true → t = txt v) := by
  rw [iasText_eq]
  unfold isTx txt
  simp only [iValueOk_ok hs, iValueText_ok hs, Option.bind_some, beq_iff_eq]
  by_cases h2 : v.1 = 2
  · refine ⟨_, by simp [h2]; rfl, fun _ => by simp [h2]⟩
  · cases h : okVal v
    · exact ⟨_, by simp [h2]; rfl, fun h => by cases h⟩
    · refine ⟨valT v, ?_, fun _ => by simp [h2]⟩
      simp only [h2, if_false, if_true, Bool.true_and]
      rfl
theorem sl2Word_ok {v : dValue} (hs : v.2.2.1.size ≤ 9223372036854775807) : sl2Word v = some ((if isTx v = true then txt v else eS, if isTx v = true then v0 else nonV v, ()), ()) := by
  rw [sl2Word_eq]
  unfold isTx txt nonV
  simp only [sValueOk_ok hs, sl2Error_ok, sValueText_ok hs, Option.bind_some, beq_iff_eq]
  cases h : okVal v
  · rfl
  · by_cases h4 : v.1 = 4
    · simp [h4]
    · by_cases h2 : v.1 = 2 <;> simp [h2, h4, v0]
theorem isTx_ok {v : dValue} (h : isTx v = true) : okVal v = true := by
  unfold isTx at h
  simp only [Bool.and_eq_true] at h
  exact h.1
def joinV (a b : dValue) : dValue := if isTx a = true then (if isTx b = true then (if 200 < (txt a).size + (txt b).size then vE 4 else vT (txt a ++ txt b)) else nonV b) else nonV a
section
variable {a b : dValue} (ha : a.2.2.1.size ≤ 9223372036854775807) (hb : b.2.2.1.size ≤ 9223372036854775807)
include ha hb
theorem sJoined_ok : sJoined a b = some ((joinV a b, ()), ()) := by
  rw [sJoined_eq]
  unfold joinV
  simp only [sl2Word_ok ha, sl2Word_ok hb, sl2Error_ok, Option.bind_some, bne_iff_ne, ne_eq]
  cases ia : isTx a
  · have := nonV_bad a
    simp [this]
  · cases ib : isTx b
    · have := nonV_bad b
      simp [this, v0]
    · have h1 := txt_size (isTx_ok ia)
      have h2 := txt_size (isTx_ok ib)
      simp only [if_true, v0, not_true, if_false]
      rw [wr (by omega) (by omega)]
      by_cases hc : 200 < (txt a).size + (txt b).size
      · rw [ifT (by omega), if_pos hc]
      · rw [ifF (by omega), if_neg hc, cats_ok (by omega)]
        rfl
theorem iJoined_ok : iJoined a b = some ((joinV a b, ()), ()) := by
  rw [iJoined_eq]
  unfold joinV
  obtain ⟨t, e1, e2⟩ := iasText_ok ha
  obtain ⟨u, e3, e4⟩ := iasText_ok hb
  simp only [e1, e3, inone_ok ha, inone_ok hb, ifault_ok, Option.bind_some]
  cases ia : isTx a
  · simp
  · cases ib : isTx b
    · simp
    · have h1 := txt_size (isTx_ok ia)
      have h2 := txt_size (isTx_ok ib)
      rw [e2 ia, e4 ib]
      simp only [if_true, Bool.not_true, Bool.false_eq_true, if_false]
      rw [wr (by omega) (by omega)]
      by_cases hc : 200 < (txt a).size + (txt b).size
      · rw [ifT (by omega), if_pos hc]
      · rw [ifF (by omega), if_neg hc, cats_ok (by omega)]
        rfl
end
/-! ### Order -/
def cmpI (x y : Int) : Int := if x < y then -1 else if y < x then 1 else 0
def cmpS (x y : ByteArray) : Int := if ltS x y = true then -1 else if x = y then 0 else 1
def ordV (a b : dValue) : Int := if a.1 ≠ b.1 then cmpI a.1 b.1 else if a.2.1 ≠ b.2.1 then cmpI a.2.1 b.2.1 else cmpS a.2.2.1 b.2.2.1
theorem sl2Sign_ok (p q : Bool) : sl2Sign p q = some ((if p = true then -1 else if q = true then 1 else 0, ()), ()) := by
  rw [sl2Sign_eq]
  cases p <;> cases q <;> rfl
theorem sOrder_ok (a b : dValue) : sOrder a b = some ((ordV a b, ()), ()) := by
  rw [sOrder_eq]
  unfold ordV cmpI cmpS
  simp only [sl2Sign_ok, Option.bind_some, bne_iff_ne, decide_eq_true_eq, eqS]
  by_cases h1 : a.1 = b.1
  · by_cases h2 : a.2.1 = b.2.1
    · simp only [h1, h2, ne_eq, not_true, if_false]
      change _ = some ((if ltS a.2.2.1 b.2.2.1 = true then _ else _, ()), ())
      change some ((if ltS a.2.2.1 b.2.2.1 = true then _ else if (!(ltS a.2.2.1 b.2.2.1 || _)) = true then _ else _, ()), ()) = _
      cases ltS a.2.2.1 b.2.2.1
      · by_cases h3 : a.2.2.1 = b.2.2.1 <;> simp [h3]
      · rfl
    · simp only [h1, h2, ne_eq, not_true, not_false_eq_true, if_false, if_true]
      by_cases h3 : a.2.1 < b.2.1
      · simp [h3]
      · have h4 : b.2.1 < a.2.1 := by omega
        simp [h3, h4]
  · simp only [h1, ne_eq, not_true, not_false_eq_true, if_true]
    by_cases h3 : a.1 < b.1
    · simp [h3]
    · have h4 : b.1 < a.1 := by omega
      simp [h3, h4]
theorem cmpInt_ok (x y : Int) : cmp_Compare_int64 x y = some ((cmpI x y, ()), ()) := by
  rw [cmp_Compare_int64_eq, cmp_isNaN_int64_eq, cmp_isNaN_int64_eq]
  unfold cmpI
  simp
  by_cases h : x < y
  · simp [h]
  · by_cases h2 : y < x <;> simp [h, h2]
theorem cmpStr_ok (x y : ByteArray) : cmp_Compare_string x y = some ((cmpS x y, ()), ()) := by
  rw [cmp_Compare_string_eq, cmp_isNaN_string_eq, cmp_isNaN_string_eq]
  unfold cmpS
  simp only [eqS, decide_true, Bool.not_true, Option.bind_some, Bool.false_eq_true, if_false]
  change (if ltS x y = true then _ else if (!(ltS x y || _)) = true then _ else _) = _
  cases ltS x y
  · by_cases h3 : x = y <;> simp [h3]
  · rfl
theorem cmpOr_at {l : List Int} (hl : l.length ≤ 100) : ∀ (ys pre : List Int), l = pre ++ ys → cmp_Or_int_p3 0 l (l.length : Int) (pre.length : Int) = some (((ys.find? fun y => decide (y ≠ 0)).getD 0, ()), ())
  | [], pre, he => by
    rw [cmp_Or_int_p3_eq, ifF (nlt_at he)]
    rfl
  | y :: ys, pre, he => by
    rw [cmp_Or_int_p3_eq, ifT (lt_at he), ix_at he, wrap_at he (by omega), cmpOr_at hl ys _ (next_at he)]
    by_cases h : y = 0
    · simp [h]
    · simp [h]
theorem cmpOr_ok {l : List Int} (hl : l.length ≤ 100) : cmp_Or_int l = some (((l.find? fun y => decide (y ≠ 0)).getD 0, ()), ()) := by
  rw [cmp_Or_int_eq]
  exact cmpOr_at hl l [] rfl
theorem cmpI_0 {x y : Int} : cmpI x y = 0 ↔ x = y := by
  unfold cmpI
  split
  · omega
  · split <;> omega
theorem iOrder_ok (a b : dValue) : iOrder a b = some ((ordV a b, ()), ()) := by
  rw [iOrder_eq]
  simp only [cmpInt_ok, cmpStr_ok, Option.bind_some]
  rw [cmpOr_ok (by simp)]
  unfold ordV
  by_cases h1 : a.1 = b.1
  · have e1 := cmpI_0.2 h1
    rw [if_neg (by simp [h1])]
    by_cases h2 : a.2.1 = b.2.1
    · have e2 := cmpI_0.2 h2
      rw [if_neg (by simp [h2])]
      by_cases h3 : cmpS a.2.2.1 b.2.2.1 = 0 <;> simp [List.find?, e1, e2, h3]
    · have e2 : cmpI a.2.1 b.2.1 ≠ 0 := fun h => h2 (cmpI_0.1 h)
      rw [if_pos (by simp [h2])]
      simp [List.find?, e1, e2]
  · have e1 : cmpI a.1 b.1 ≠ 0 := fun h => h1 (cmpI_0.1 h)
    rw [if_pos (by simp [h1])]
    simp [List.find?, e1]
/-- A blank as what stands beside it wants it. -/
def like (a b : dValue) : dValue := if a.1 = 0 then (b.1, a.2.1, a.2.2.1, ()) else a
def rel (op o : Int) : Bool := if op = 6 then decide (o = 0) else if op = 7 then !decide (o = 0) else if op = 8 then decide (o < 0) else if op = 9 then decide (o ≤ 0) else if op = 10 then decide (0 < o) else decide (0 ≤ o)
def heldV (op : Int) (a b : dValue) : dValue := if okVal a = true then (if okVal b = true then (if inB op 6 11 = true then (if a.1 = 4 then a else if b.1 = 4 then b else vB (rel op (ordV (like a b) (like b a)))) else vE 2) else vE 2) else vE 2
theorem sl2Like_ok (a b : dValue) : sl2Like a b = some ((like a b, ()), ()) := by
  rw [sl2Like_eq]
  unfold like
  by_cases h : a.1 = 0 <;> simp [h]
theorem relAt {op o : Int} (h : inB op 6 11 = true) : List.getD [(o == 0), (o != 0), decide (o < 0), decide (o ≤ 0), decide (o > 0), decide (o ≥ 0)] (Int.toNat (IntKind.i64.wrap (op - 6))) false = rel op o := by
  have := inB_iff.1 h
  rw [wr (by omega) (by omega)]
  have h6 : op = 6 ∨ op = 7 ∨ op = 8 ∨ op = 9 ∨ op = 10 ∨ op = 11 := by omega
  rcases h6 with rfl | rfl | rfl | rfl | rfl | rfl <;> rfl
section
variable {op : Int} {a b : dValue} (ha : a.2.2.1.size ≤ 9223372036854775807) (hb : b.2.2.1.size ≤ 9223372036854775807)
include ha hb
theorem sHeld_ok : sHeld op a b = some ((heldV op a b, ()), ()) := by
  rw [sHeld_eq]
  unfold heldV rel
  simp only [sValueOk_ok ha, sValueOk_ok hb, sl2Error_ok, sl1In_ok, sl2Like_ok, sOrder_ok, sl2Flag_ok, Option.bind_some, beq_iff_eq]
  cases okVal a
  · rfl
  cases okVal b
  · rfl
  cases inB op 6 11
  · rfl
  simp only [Bool.not_true, Bool.false_eq_true, if_false, if_true]
  by_cases h1 : a.1 = 4
  · simp [h1]
  by_cases h2 : b.1 = 4
  · simp [h1, h2]
  simp only [h1, h2, if_false]
  by_cases o6 : op = 6
  · simp [o6, beqI]
  by_cases o7 : op = 7
  · simp [o7]; rfl
  by_cases o8 : op = 8
  · simp [o8]
  by_cases o9 : op = 9
  · simp [o9]
  by_cases o10 : op = 10
  · simp [o10]
  simp [o6, o7, o8, o9, o10]
theorem iHeld_ok : iHeld op a b = some ((heldV op a b, ()), ()) := by
  rw [iHeld_eq]
  unfold heldV
  simp only [iValueOk_ok ha, iValueOk_ok hb, ifault_ok, iwithin_ok, iOrder_ok, Option.bind_some, beq_iff_eq]
  cases okVal a
  · rfl
  cases okVal b
  · rfl
  cases hi : inB op 6 11
  · rfl
  have hio := inB_iff.1 hi
  simp only [Bool.not_true, Bool.false_eq_true, if_false, if_true]
  by_cases h1 : a.1 = 4
  · simp [h1]
  by_cases h2 : b.1 = 4
  · simp [h1, h2]
  have hin : ∀ (x1 x2 x3 x4 x5 x6 : Bool) (k : Option ((dValue × Unit) × Unit)), inb [x1, x2, x3, x4, x5, x6] (IntKind.i64.wrap (op - 6)) k = k := fun x1 x2 x3 x4 x5 x6 k => by
    rw [wr (by omega) (by omega)]
    exact inb_ok (by omega) (by show op - 6 < 6; omega)
  simp only [h1, h2, if_false, hin, relAt hi, itruth_ok, Option.bind_some]
  unfold like
  by_cases h3 : a.1 = 0
  · by_cases h4 : b.1 = 0
    · have eb : ((0, b.2.1, b.2.2.1, ()) : dValue) = b := by rw [← h4]
      simp only [h3, h4, if_true, eb]
    · simp [h3, h4]
  · by_cases h4 : b.1 = 0
    · simp [h3, h4]
    · simp [h3, h4]
end
end Go.Proofs.YtiligfmembmapaaGreatDoor.Abs
/- Formulas that are right: what both sides ask is one thing. -/
set_option linter.unusedVariables false
set_option linter.unusedSimpArgs false
set_option linter.unusedSectionVars false
namespace Go.Proofs.YtiligfmembmapaaGreatDoor.Abs
open Go

abbrev p0 : dPlace := ((0, 0, ()), false, false, ())
abbrev dFNode.kids (x : dFNode) : List Int := x.2.2.2.2.2.1
/-- May a function have so many arguments? -/
def okArgs (op k : Int) : Bool := if op = 5 then (decide (k = 2) || decide (k = 3)) else if inB op 1 7 = true then inB k 1 10 else if inB op 8 10 = true then decide (k = 1) else false
def kl (x : dFNode) : Int := (List.length x.2.2.2.2.2.1 : Int)
def okNode (x : dFNode) : Bool :=
  if x.1 = 1 then decide (x.2.1 = 0) && decide (x.2.2.2.1 = p0) && decide (x.2.2.2.2.1 = p0) && decide (kl x = 0) && okVal x.2.2.1 && !decide (x.2.2.1.1 = 0) && (!decide (x.2.2.1.1 = 1) || decide (0 ≤ x.2.2.1.2.1))
  else if x.1 = 2 then decide (x.2.1 = 0) && decide (x.2.2.1 = v0) && decide (x.2.2.2.2.1 = p0) && decide (kl x = 0) && okRef x.2.2.2.1.1
  else if x.1 = 3 then decide (x.2.1 = 0) && decide (x.2.2.1 = v0) && decide (kl x = 0) && okArea (x.2.2.2.1.1, x.2.2.2.2.1.1, ())
  else if x.1 = 4 then decide (x.2.1 = 0) && decide (x.2.2.1 = v0) && decide (x.2.2.2.1 = p0) && decide (x.2.2.2.2.1 = p0) && decide (kl x = 1)
  else if x.1 = 5 then inB x.2.1 1 11 && decide (x.2.2.1 = v0) && decide (x.2.2.2.1 = p0) && decide (x.2.2.2.2.1 = p0) && decide (kl x = 2)
  else if x.1 = 6 then okArgs x.2.1 (kl x) && decide (x.2.2.1 = v0) && decide (x.2.2.2.1 = p0) && decide (x.2.2.2.2.1 = p0)
  else false
theorem eqPl {a b : dPlace} : (eqB tPlace a b = true) = (a = b) := propext (eqB_iff rfl)
theorem eqVl {a b : dValue} : (eqB tValue a b = true) = (a = b) := propext (eqB_iff rfl)
theorem eqPlD (a b : dPlace) : eqB tPlace a b = decide (a = b) := by
  rw [Bool.eq_iff_iff, decide_eq_true_eq, eqPl]
theorem eqVlD (a b : dValue) : eqB tValue a b = decide (a = b) := by
  rw [Bool.eq_iff_iff, decide_eq_true_eq, eqVl]
theorem sl3Args_ok (op k : Int) : sl3Args op k = some ((okArgs op k, ()), ()) := by
  rw [sl3Args_eq]
  unfold okArgs inB
  simp only [beq_iff_eq, decide_eq_true_eq, ge_iff_le, beqI]
  by_cases h : op = 1 ∨ op = 2 ∨ op = 3 ∨ op = 4 ∨ op = 5 ∨ op = 6 ∨ op = 7 ∨ op = 8 ∨ op = 9 ∨ op = 10
  · by_cases hk : 1 ≤ k <;> by_cases hk2 : k = 2 <;> rcases h with rfl | rfl | rfl | rfl | rfl | rfl | rfl | rfl | rfl | rfl <;> simp [hk, hk2] <;> omega
  · have h1 : op ≠ 1 := by omega
    have h2 : op ≠ 2 := by omega
    have h3 : op ≠ 3 := by omega
    have h4 : op ≠ 4 := by omega
    have h5 : op ≠ 5 := by omega
    have h6 : op ≠ 6 := by omega
    have h7 : op ≠ 7 := by omega
    have h8 : op ≠ 8 := by omega
    have h9 : op ≠ 9 := by omega
    have h10 : op ≠ 10 := by omega
    have h11 : ¬ (1 ≤ op ∧ op ≤ 7) := by omega
    have h12 : ¬ (8 ≤ op ∧ op ≤ 10) := by omega
    simp only [h1, h2, h3, h4, h5, h6, h7, h8, h9, h10, h11, h12, if_false]
theorem and_ite {a b : Bool} : (if a = true then some ((b, ()), ()) else some ((false, ()), ())) = some ((a && b, ()), ()) := by cases a <;> rfl
theorem and_iteP {p : Prop} [Decidable p] {b : Bool} : (if p then some ((b, ()), ()) else some ((false, ()), ())) = some ((decide p && b, ()), ()) := by by_cases h : p <;> simp [h]
theorem sl3NodeOk_ok {x : dFNode} (h : x.2.2.1.2.2.1.size ≤ 9223372036854775807) : sl3NodeOk x = some ((okNode x, ()), ()) := by
  rw [sl3NodeOk_eq]
  unfold okNode kl
  simp only [sValueOk_ok h, sRefOk_ok, sAreaOk_ok, sl1In_ok, sl3Args_ok, Option.bind_some, beq_iff_eq, bne_iff_ne, ne_eq, eqPl, eqVl, eqPlD, eqVlD, beqI, v0, ge_iff_le]
  generalize (List.length x.2.2.2.2.2.1 : Int) = k
  by_cases h1 : x.1 = 1
  · by_cases a1 : x.2.1 = 0 <;> by_cases a2 : x.2.2.2.1 = p0 <;> by_cases a3 : x.2.2.2.2.1 = p0 <;> by_cases a4 : k = 0 <;> cases ov : okVal x.2.2.1 <;> by_cases a5 : x.2.2.1.1 = 0 <;> by_cases a6 : x.2.2.1.1 = 1 <;> simp [a1, a2, a3, a4, a5, a6, h1, ov]
  by_cases h2 : x.1 = 2
  · by_cases a1 : x.2.1 = 0 <;> by_cases a2 : x.2.2.1 = (0, 0, eS, ()) <;> by_cases a3 : x.2.2.2.2.1 = p0 <;> by_cases a4 : k = 0 <;> simp [a1, a2, a3, a4, h2]
  by_cases h3 : x.1 = 3
  · by_cases a1 : x.2.1 = 0 <;> by_cases a2 : x.2.2.1 = (0, 0, eS, ()) <;> by_cases a4 : k = 0 <;> simp [a1, a2, a4, h3]
  by_cases h4 : x.1 = 4
  · by_cases a1 : x.2.1 = 0 <;> by_cases a2 : x.2.2.1 = (0, 0, eS, ()) <;> by_cases a3 : x.2.2.2.1 = p0 <;> by_cases a4 : x.2.2.2.2.1 = p0 <;> simp [a1, a2, a3, a4, h4]
  by_cases h5 : x.1 = 5
  · cases hi : inB x.2.1 1 11 <;> by_cases a2 : x.2.2.1 = (0, 0, eS, ()) <;> by_cases a3 : x.2.2.2.1 = p0 <;> by_cases a4 : x.2.2.2.2.1 = p0 <;> simp [a2, a3, a4, h5, hi]
  by_cases h6 : x.1 = 6
  · cases hi : okArgs x.2.1 k <;> by_cases a2 : x.2.2.1 = (0, 0, eS, ()) <;> by_cases a3 : x.2.2.2.1 = p0 <;> simp [a2, a3, h6, hi]
  simp [h1, h2, h3, h4, h5, h6]
theorem iFNode_isOwn_ok {x : dFNode} (h : x.2.2.1.2.2.1.size ≤ 9223372036854775807) : iFNode_isOwn x = some ((okNode x, ()), ()) := by
  have c1 : ∀ a : dPlace, (p0 = a) = (a = p0) := fun a => propext eq_comm
  have c2 : ∀ a : dValue, ((0, 0, eS, ()) = a) = (a = (0, 0, eS, ())) := fun a => propext eq_comm
  rw [iFNode_isOwn_eq, iFNode_isPlaced_eq, iFNode_kidsOk_eq]
  unfold okNode kl okArgs
  simp only [iValueOk_ok h, iFNode_area_eq, iAreaOk_ok, iwithin_ok, Option.bind_some, beq_iff_eq, bne_iff_ne, ne_eq, eqPl, eqVl, eqPlD, eqVlD, beqI, v0, ge_iff_le, c1, c2]
  generalize (List.length x.2.2.2.2.2.1 : Int) = k
  by_cases h1 : x.1 = 1
  · simp only [h1, if_true]
    by_cases a1 : x.2.1 = 0 <;> by_cases a2 : x.2.2.2.1 = p0 <;> by_cases a3 : x.2.2.2.2.1 = p0 <;> by_cases a4 : k = 0 <;> cases okVal x.2.2.1 <;> by_cases a5 : x.2.2.1.1 = 0 <;> by_cases a6 : x.2.2.1.1 = 1 <;> by_cases a7 : x.2.2.1.2.1 < 0 <;> have a8 : (0 ≤ x.2.2.1.2.1) = ¬ x.2.2.1.2.1 < 0 := propext (by omega) <;> simp [a1, a2, a3, a4, a5, a6, a7, a8]
  by_cases h2 : x.1 = 2
  · have e : okArea (x.2.2.2.1.1, x.2.2.2.1.1, ()) = okRef x.2.2.2.1.1 := by
      unfold okArea
      simp
    by_cases a1 : x.2.1 = 0 <;> by_cases a2 : x.2.2.1 = (0, 0, eS, ()) <;> by_cases a3 : x.2.2.2.2.1 = p0 <;> by_cases a4 : k = 0 <;> cases hr : okRef x.2.2.2.1.1 <;> simp [a1, a2, a3, a4, h2, e, hr]
  by_cases h3 : x.1 = 3
  · by_cases a1 : x.2.1 = 0 <;> by_cases a2 : x.2.2.1 = (0, 0, eS, ()) <;> by_cases a4 : k = 0 <;> cases hr : okArea (x.2.2.2.1.1, x.2.2.2.2.1.1, ()) <;> simp [a1, a2, a4, h3, hr]
  by_cases h4 : x.1 = 4
  · by_cases a1 : x.2.1 = 0 <;> by_cases a2 : x.2.2.1 = (0, 0, eS, ()) <;> by_cases a3 : x.2.2.2.1 = p0 <;> by_cases a4 : x.2.2.2.2.1 = p0 <;> by_cases a5 : k = 1 <;> simp [a1, a2, a3, a4, a5, h4]
  by_cases h5 : x.1 = 5
  · cases hi : inB x.2.1 1 11 <;> by_cases a2 : x.2.2.1 = (0, 0, eS, ()) <;> by_cases a3 : x.2.2.2.1 = p0 <;> by_cases a4 : x.2.2.2.2.1 = p0 <;> by_cases a5 : k = 2 <;> simp [a2, a3, a4, a5, h5, hi]
  by_cases h6 : x.1 = 6
  · by_cases a2 : x.2.2.1 = (0, 0, eS, ()) <;> by_cases a3 : x.2.2.2.1 = p0 <;> by_cases a4 : x.2.2.2.2.1 = p0 <;> simp only [a2, a3, a4, h6, if_true, if_false, decide_true, decide_false, Bool.and_false, Bool.and_true]
    all_goals
      generalize x.2.1 = op
      unfold inB
      by_cases b1 : 1 ≤ op ∧ op ≤ 10
      · by_cases b2 : op = 5
        · subst b2
          by_cases b3 : 2 ≤ k ∧ k ≤ 3
          · have : k = 2 ∨ k = 3 := by omega
            rcases this with rfl | rfl <;> simp
          · have : ¬ k = 2 := by omega
            have : ¬ k = 3 := by omega
            simp [b3, *]
        · by_cases b3 : 8 ≤ op
          · have b4 : ¬ (op ≤ 7) := by omega
            have b5 : op ≤ 10 := by omega
            by_cases b6 : k = 1 <;> simp [b1, b2, b3, b4, b5, b6]
          · have b4 : op ≤ 7 := by omega
            by_cases b6 : 1 ≤ k ∧ k ≤ 10 <;> simp [b1, b2, b3, b4, b6]
      · have b2 : ¬ op = 5 := by omega
        have b3 : ¬ (1 ≤ op ∧ op ≤ 7) := by omega
        have b4 : ¬ (8 ≤ op ∧ op ≤ 10) := by omega
        simp [b1, b2, b3, b4]
  simp [h1, h2, h3, h4, h5, h6]
end Go.Proofs.YtiligfmembmapaaGreatDoor.Abs
/- Formulas that are right: trees. -/
set_option linter.unusedVariables false
set_option linter.unusedSimpArgs false
set_option linter.unusedSectionVars false
namespace Go.Proofs.YtiligfmembmapaaGreatDoor.Abs
open Go

def isAr (f : List dFNode) (i : Int) : Bool := decide ((f.getD i.toNat tFNode.dflt).1 = 3)
def nodeAt (f : List dFNode) (k : Int) : dFNode := f.getD k.toNat tFNode.dflt
def kidsC (c : Int → Option (Int × Nat)) (f : List dFNode) (call : Bool) : List Int → Int → Nat → Option (Int × Nat)
  | [], cur, h => some (cur, h + 1)
  | kid :: l, cur, h => if kid = cur - 1 ∧ 0 ≤ kid ∧ (isAr f kid = true → call = true) then (c kid).bind fun p => kidsC c f call l p.1 (max h p.2) else none
/-- Where the nodes of a tree begin, and how deep it is. -/
def chk (f : List dFNode) : Nat → Int → Option (Int × Nat)
  | 0, _ => none
  | n + 1, k => if 0 ≤ k then match f[k.toNat]? with
    | none => none
    | some x => if okNode x = true then kidsC (chk f n) f (decide (x.1 = 6)) x.2.2.2.2.2.1.reverse k 0 else none
    else none
/-- A node stands rightly. -/
def stands (f : List dFNode) (i : Nat) (x : dFNode) : Prop := okNode x = true ∧ ∀ k ∈ x.2.2.2.2.2.1, 0 ≤ k ∧ k < i ∧ (isAr f k = true → x.1 = 6)
theorem kidsC_all {c : Int → Option (Int × Nat)} {f : List dFNode} {call : Bool} (hc : ∀ k s h, c k = some (s, h) → 0 ≤ s ∧ s ≤ k ∧ ∀ i : Nat, s ≤ i → (i : Int) ≤ k → ∃ x, f[i]? = some x ∧ stands f i x) :
    ∀ (l : List Int) (cur : Int) (h : Nat) (s : Int) (h' : Nat), 0 ≤ cur → kidsC c f call l cur h = some (s, h') → 0 ≤ s ∧ s ≤ cur ∧ h + 1 ≤ h' ∧ (∀ i : Nat, s ≤ i → (i : Int) < cur → ∃ x, f[i]? = some x ∧ stands f i x) ∧ ∀ k ∈ l, 0 ≤ k ∧ k < cur ∧ (isAr f k = true → call = true)
  | [], cur, h, s, h', h0, e => by
    simp only [kidsC, Option.some.injEq, Prod.mk.injEq] at e
    obtain ⟨rfl, rfl⟩ := e
    exact ⟨h0, Int.le_refl _, Nat.le_refl _, fun i h1 h2 => by omega, fun k hk => by cases hk⟩
  | kid :: l, cur, h, s, h', h0, e => by
    simp only [kidsC] at e
    split at e
    · rename_i hk
      rw [Option.bind_eq_some_iff] at e
      obtain ⟨⟨t, ht⟩, e1, e2⟩ := e
      obtain ⟨a1, a2, a3⟩ := hc _ _ _ e1
      obtain ⟨b1, b2, b3, b4, b5⟩ := kidsC_all hc l t (max h ht) s h' a1 e2
      refine ⟨b1, by omega, by omega, fun i h1 h2 => ?_, fun k hm => ?_⟩
      · by_cases hi : (i : Int) < t
        · exact b4 i h1 hi
        · exact a3 i (by omega) (by omega)
      · rcases List.mem_cons.1 hm with rfl | hm
        · exact ⟨hk.2.1, by omega, hk.2.2⟩
        · have := b5 k hm
          exact ⟨this.1, by omega, this.2.2⟩
    · cases e
theorem chk_all (f : List dFNode) : ∀ (n : Nat) (k s : Int) (h : Nat), chk f n k = some (s, h) → 0 ≤ s ∧ s ≤ k ∧ ∀ i : Nat, s ≤ i → (i : Int) ≤ k → ∃ x, f[i]? = some x ∧ stands f i x
  | 0, _, _, _, e => by cases e
  | n + 1, k, s, h, e => by
    simp only [chk] at e
    split at e
    · rename_i h0
      split at e
      · cases e
      · rename_i x hx
        split at e
        · rename_i ho
          obtain ⟨b1, b2, b3, b4, b5⟩ := kidsC_all (chk_all f n) _ _ _ _ _ h0 e
          refine ⟨b1, b2, fun i h1 h2 => ?_⟩
          by_cases hi : (i : Int) < k
          · exact b4 i h1 hi
          · have hik : i = k.toNat := by omega
            refine ⟨x, by rw [hik, hx], ho, fun k' hk' => ?_⟩
            have := b5 k' (by simpa using hk')
            exact ⟨this.1, by omega, fun ha => by simpa using this.2.2 ha⟩
        · cases e
    · cases e
theorem chk_pos {f : List dFNode} {n : Nat} {k s : Int} {h : Nat} (e : chk f n k = some (s, h)) : 1 ≤ h := by
  cases n with
  | zero => cases e
  | succ n =>
    simp only [chk] at e
    split at e
    · rename_i h0
      split at e
      · cases e
      · split at e
        · exact Nat.le_trans (by omega) (kidsC_all (chk_all f n) _ _ _ _ _ h0 e).2.2.1
        · cases e
    · cases e
def res12 (deep : Int) : Option (Int × Nat) → Int
  | some (s, h) => if deep + h ≤ 12 then s else -1
  | none => -1
theorem wr1 {n : Int} (h0 : -1000000000 ≤ n) (h1 : n ≤ 1000000000) : IntKind.i64.wrap n = n := wr (by omega) (by omega)
section
variable {f : List dFNode} (hl : f.length ≤ 10000000) (hs : ∀ x ∈ f, x.2.2.1.2.2.1.size ≤ 9223372036854775807)
include hl hs
theorem ifrom_loop {n : Nat} (ih : ∀ (k deep : Int), 0 ≤ k → k < n → k < f.length → 0 ≤ deep → deep ≤ 12 → ifrom f k deep = some ((res12 deep (chk f n k), ()), ())) {x : dFNode} {k : Int} (h0 : 0 ≤ k) (hk : f[k.toNat]? = some x) (hkn : k ≤ n) (hkl : x.2.2.2.2.2.1.length ≤ 10000000) :
    ∀ (r suf : List Int) (cur : Int) (h : Nat) (deep : Int), x.2.2.2.2.2.1 = r.reverse ++ suf → 0 ≤ cur → cur ≤ k → 0 ≤ deep → deep + h + 1 ≤ 12 → ifrom_p5 f k deep cur ((r.length : Int) - 1) = some ((res12 deep (kidsC (chk f n) f (decide (x.1 = 6)) r cur h), ()), ())
  | [], suf, cur, h, deep, he, c0, c1, d0, d1 => by
    rw [ifrom_p5_eq, ifF (by simp)]
    simp only [kidsC, res12]
    rw [if_pos (by omega)]
  | kid :: r, suf, cur, h, deep, he, c0, c1, d0, d1 => by
    have hkl2 : k < (f.length : Int) := by
      have := (List.getElem?_eq_some_iff.1 hk).1
      omega
    have he' : x.2.2.2.2.2.1 = r.reverse ++ kid :: suf := by rw [he]; simp
    have hlen : (((kid :: r).length : Int) - 1) = ((r.reverse).length : Int) := by simp
    rw [ifrom_p5_eq, ifT (by rw [hlen]; exact nn _), ix_of h0 hk, hlen, ix_at he', wr1 (n := cur - 1) (by omega) (by omega)]
    simp only [kidsC]
    by_cases e1 : kid = cur - 1
    · rw [if_neg (by simp [e1])]
      by_cases e2 : kid < 0
      · rw [ifT e2, if_neg (by omega)]
        rfl
      · rw [ifF e2]
        have hkd : kid < (f.length : Int) := by omega
        obtain ⟨y, hy⟩ : ∃ y, f[kid.toNat]? = some y := ⟨f[kid.toNat]'(by omega), List.getElem?_eq_getElem _⟩
        rw [ix_of (by omega) hy]
        have har : isAr f kid = decide (y.1 = 3) := by
          unfold isAr
          rw [List.getD_eq_getElem?_getD, hy]
          rfl
        have go : ((ifrom f kid (IntKind.i64.wrap (deep + 1))).bind fun z1 => if decide (z1.1.1 < 0) = true then some ((-1, ()), ()) else ifrom_p5 f k deep z1.1.1 (IntKind.i64.wrap (((r.reverse).length : Int) - 1))) = some ((res12 deep ((chk f n kid).bind fun p => kidsC (chk f n) f (decide (x.1 = 6)) r p.1 (max h p.2)), ()), ()) := by
          have hlr : (r.reverse).length ≤ 10000000 := by
            rw [he', List.length_append] at hkl
            omega
          rw [wr1 (by omega) (by omega), wr1 (by omega) (by omega), ih kid (deep + 1) (by omega) (by omega) hkd (by omega) (by omega), Option.bind_some]
          cases hc : chk f n kid with
          | none => rfl
          | some p =>
            obtain ⟨t, ht⟩ := p
            have ha := chk_all f n _ _ _ hc
            by_cases hd : deep + 1 + ht ≤ 12
            · have er : res12 (deep + 1) (some (t, ht)) = t := if_pos hd
              simp only [er, Option.bind_some]
              rw [ifF (by omega), List.length_reverse, ifrom_loop ih h0 hk hkn hkl r (kid :: suf) t (max h ht) deep he' (by omega) (by omega) d0 (by omega)]
            · have er : res12 (deep + 1) (some (t, ht)) = -1 := if_neg hd
              simp only [er, Option.bind_some]
              rw [ifT (by decide)]
              cases hq : kidsC (chk f n) f (decide (x.1 = 6)) r t (max h ht) with
              | none => rfl
              | some q =>
                obtain ⟨s', h'⟩ := q
                have := (kidsC_all (chk_all f n) _ _ _ _ _ (by omega) hq).2.2.1
                simp only [res12]
                rw [if_neg (by omega)]
        by_cases e3 : y.1 = 3
        · rw [if_pos (by simp [e3]), ix_of h0 hk]
          by_cases e4 : x.1 = 6
          · rw [if_neg (by simp [e4]), if_pos ⟨e1, by omega, fun _ => by simp [e4]⟩]
            exact go
          · rw [if_pos (by simp [e4]), if_neg (by rw [har]; simp [e3, e4])]
            rfl
        · rw [if_neg (by simp [e3]), if_pos ⟨e1, by omega, fun h => by rw [har] at h; simp [e3] at h⟩]
          exact go
    · rw [if_pos (by simpa using e1), if_neg (fun h => e1 h.1)]
      rfl
theorem ifrom_ok : ∀ (n : Nat) (k deep : Int), 0 ≤ k → k < n → k < f.length → 0 ≤ deep → deep ≤ 12 → (∀ x ∈ f, x.2.2.2.2.2.1.length ≤ 10000000) → ifrom f k deep = some ((res12 deep (chk f n k), ()), ())
  | 0, k, deep, h0, h1, _, _, _, _ => by omega
  | n + 1, k, deep, h0, h1, h2, d0, d1, hkl => by
    obtain ⟨x, hx⟩ : ∃ y, f[k.toNat]? = some y := ⟨f[k.toNat]'(by omega), List.getElem?_eq_getElem _⟩
    have hm : x ∈ f := List.mem_of_getElem? hx
    rw [ifrom_eq, ifF (by omega)]
    by_cases hd : deep ≥ 12
    · rw [ifT hd]
      cases hc : chk f (n + 1) k with
      | none => rfl
      | some p =>
        obtain ⟨s, h⟩ := p
        have := chk_pos hc
        simp only [res12]
        rw [if_neg (by omega)]
    · have := hkl x hm
      rw [ifF hd, ix_of h0 hx, iFNode_isOwn_ok (hs x hm), Option.bind_some, ix_of h0 hx, wr1 (by omega) (by omega)]
      simp only [chk, if_pos h0, hx]
      cases ho : okNode x with
      | false => rfl
      | true =>
        simp only [Bool.not_true, Bool.false_eq_true, if_false, if_true]
        have := ifrom_loop hl hs (n := n) (fun k deep a b c d e => ifrom_ok n k deep a b c d e hkl) h0 hx (by omega) this x.2.2.2.2.2.1.reverse [] k 0 deep (by simp) h0 (Int.le_refl _) d0 (by omega)
        rw [List.length_reverse] at this
        exact this
/-! ### The reference's way -/
def res0 : Option (Int × Nat) → Int
  | some (s, _) => s
  | none => -1
theorem sl3Tree_loop {n : Nat} (A : ∀ (i : Nat) (x : dFNode), f[i]? = some x → stands f i x) (ih : ∀ (k : Int), 0 ≤ k → k < n → k < f.length → sl3Tree f k = some ((res0 (chk f n k), ()), ())) {x : dFNode} {k : Int} (h0 : 0 ≤ k) (hk : f[k.toNat]? = some x) (hkn : k ≤ n) (hkl : x.2.2.2.2.2.1.length ≤ 10000000) :
    ∀ (r suf : List Int) (cur : Int) (h : Nat), x.2.2.2.2.2.1 = r.reverse ++ suf → 0 ≤ cur → cur ≤ k → sl3Tree_p3 f k (cur - 1) ((r.length : Int) - 1) = some ((res0 (kidsC (chk f n) f (decide (x.1 = 6)) r cur h), ()), ())
  | [], suf, cur, h, he, c0, c1 => by
    have hkl2 : k < (f.length : Int) := by
      have := (List.getElem?_eq_some_iff.1 hk).1
      omega
    rw [sl3Tree_p3_eq, ifF (by simp), wr1 (by omega) (by omega)]
    simp only [kidsC, res0]
    congr 3
    omega
  | kid :: r, suf, cur, h, he, c0, c1 => by
    have hkl2 : k < (f.length : Int) := by
      have := (List.getElem?_eq_some_iff.1 hk).1
      omega
    have he' : x.2.2.2.2.2.1 = r.reverse ++ kid :: suf := by rw [he]; simp
    have hlen : (((kid :: r).length : Int) - 1) = ((r.reverse).length : Int) := by simp
    have hmem : kid ∈ x.2.2.2.2.2.1 := by rw [he']; simp
    have hst := (A _ _ hk).2 kid hmem
    rw [sl3Tree_p3_eq, ifT (by rw [hlen]; exact nn _)]
    simp only [kidsC]
    by_cases e0 : cur - 1 < 0
    · rw [ifT e0, if_neg (by omega)]
      rfl
    · rw [ifF e0, ix_of h0 hk, hlen, ix_at he']
      by_cases e1 : kid = cur - 1
      · have hkd : kid < (f.length : Int) := by omega
        have hlr : (r.reverse).length ≤ 10000000 := by
          rw [he', List.length_append] at hkl
          omega
        rw [if_neg (by simp [e1]), if_pos ⟨e1, hst.1, fun ha => by simpa using hst.2.2 ha⟩, ← e1, ih kid hst.1 (by omega) hkd, Option.bind_some, wr1 (n := (r.reverse.length : Int) - 1) (by omega) (by omega)]
        cases hc : chk f n kid with
        | none => rfl
        | some p =>
          obtain ⟨t, ht⟩ := p
          have ha := chk_all f n _ _ _ hc
          have er : res0 (some (t, ht)) = t := rfl
          simp only [er, Option.bind_some]
          rw [ifF (by omega), wr1 (n := t - 1) (by omega) (by omega), List.length_reverse, sl3Tree_loop A ih h0 hk hkn hkl r (kid :: suf) t (max h ht) he' (by omega) (by omega)]
      · rw [if_pos (by simpa using e1), if_neg (fun h => e1 h.1)]
        rfl
theorem sl3Tree_ok (A : ∀ (i : Nat) (x : dFNode), f[i]? = some x → stands f i x) (hkl : ∀ x ∈ f, x.2.2.2.2.2.1.length ≤ 10000000) : ∀ (n : Nat) (k : Int), 0 ≤ k → k < n → k < f.length → sl3Tree f k = some ((res0 (chk f n k), ()), ())
  | 0, k, h0, h1, _ => by omega
  | n + 1, k, h0, h1, h2 => by
    obtain ⟨x, hx⟩ : ∃ y, f[k.toNat]? = some y := ⟨f[k.toNat]'(by omega), List.getElem?_eq_getElem _⟩
    have hm : x ∈ f := List.mem_of_getElem? hx
    have hk := hkl x hm
    rw [sl3Tree_eq, ix_of h0 hx, wr1 (n := k - 1) (by omega) (by omega), wr1 (by omega) (by omega)]
    simp only [chk, if_pos h0, hx, (A _ _ hx).1, if_true]
    have := sl3Tree_loop hl hs (n := n) A (sl3Tree_ok A hkl n) h0 hx (by omega) hk x.2.2.2.2.2.1.reverse [] k 0 (by simp) h0 (Int.le_refl _)
    rw [List.length_reverse] at this
    exact this
/-- The deepest of some kids. -/
def hmx (c : Int → Option (Int × Nat)) : List Int → Nat
  | [] => 0
  | k :: l => max (((c k).map (·.2)).getD 0) (hmx c l)
omit hl hs in
theorem hmx_snoc (c : Int → Option (Int × Nat)) (k : Int) : ∀ l, hmx c (l ++ [k]) = max (hmx c l) (((c k).map (·.2)).getD 0)
  | [] => by simp [hmx]
  | y :: l => by
    simp only [List.cons_append, hmx, hmx_snoc c k l]
    omega
omit hl hs in
theorem hmx_rev (c : Int → Option (Int × Nat)) : ∀ l, hmx c l.reverse = hmx c l
  | [] => rfl
  | y :: l => by
    rw [List.reverse_cons, hmx_snoc, hmx_rev c l]
    simp only [hmx]
    omega
omit hl hs in
theorem kidsC_hmx {c : Int → Option (Int × Nat)} {call : Bool} : ∀ (l : List Int) (cur : Int) (h : Nat) (s : Int) (h' : Nat), kidsC c f call l cur h = some (s, h') → h' = max h (hmx c l) + 1 ∧ ∀ k ∈ l, ∃ p, c k = some p
  | [], cur, h, s, h', e => by
    simp only [kidsC, Option.some.injEq, Prod.mk.injEq] at e
    exact ⟨by simp only [hmx]; omega, fun k hk => by cases hk⟩
  | kid :: l, cur, h, s, h', e => by
    simp only [kidsC] at e
    split at e
    · rw [Option.bind_eq_some_iff] at e
      obtain ⟨⟨t, ht⟩, e1, e2⟩ := e
      obtain ⟨b1, b2⟩ := kidsC_hmx l t (max h ht) s h' e2
      refine ⟨?_, fun k hk => ?_⟩
      · simp only [hmx, e1, Option.map_some, Option.getD_some]
        omega
      · rcases List.mem_cons.1 hk with rfl | hk
        · exact ⟨_, e1⟩
        · exact b2 k hk
    · cases e
theorem sl3Deep_loop {n : Nat} {c : Int → Option (Int × Nat)} (ih : ∀ (k : Int) (s : Int) (h : Nat), k < n → c k = some (s, h) → sl3Deep f k = some (((h : Int), ()), ())) {x : dFNode} {k : Int} (h0 : 0 ≤ k) (hk : f[k.toNat]? = some x) (hkn : k ≤ n) (hkl : x.2.2.2.2.2.1.length ≤ 10000000) (hall : ∀ k' ∈ x.2.2.2.2.2.1, (∃ p, c k' = some p) ∧ k' < k) (hb : hmx c x.2.2.2.2.2.1 ≤ 10000000) :
    ∀ (ys pre : List Int), x.2.2.2.2.2.1 = pre ++ ys → sl3Deep_p3 f k (hmx c pre : Int) (pre.length : Int) = some ((((hmx c x.2.2.2.2.2.1 + 1 : Nat) : Int), ()), ())
  | [], pre, he => by
    have : pre = x.2.2.2.2.2.1 := by rw [he]; simp
    rw [sl3Deep_p3_eq, ix_of h0 hk, ifF (nlt_at he), this, wr1 (by omega) (by omega)]
    rfl
  | y :: ys, pre, he => by
    obtain ⟨⟨⟨s, h⟩, hc⟩, hlt⟩ := hall y (by rw [he]; simp)
    rw [sl3Deep_p3_eq, ix_of h0 hk, ifT (lt_at he), ix_of h0 hk, ix_at he, ih y s h (by omega) hc, Option.bind_some, wrap_at he (by omega)]
    have : (if ((hmx c pre : Nat) : Int) < (h : Int) then (h : Int) else ((hmx c pre : Nat) : Int)) = (hmx c (pre ++ [y]) : Int) := by
      rw [hmx_snoc, hc]
      simp only [Option.map_some, Option.getD_some]
      split <;> omega
    rw [this]
    exact sl3Deep_loop ih h0 hk hkn hkl hall hb ys _ (next_at he)
theorem sl3Deep_ok (hkl : ∀ x ∈ f, x.2.2.2.2.2.1.length ≤ 10000000) : ∀ (n : Nat) (k s : Int) (h : Nat), chk f n k = some (s, h) → n ≤ 10000000 → h ≤ n ∧ sl3Deep f k = some (((h : Int), ()), ())
  | 0, _, _, _, e, _ => by cases e
  | n + 1, k, s, h, e, hn => by
    have hall := chk_all f _ _ _ _ e
    simp only [chk] at e
    split at e
    · rename_i h0
      split at e
      · cases e
      · rename_i x hx
        split at e
        · have hm : x ∈ f := List.mem_of_getElem? hx
          obtain ⟨b1, b2⟩ := kidsC_hmx _ _ _ _ _ e
          have hst := kidsC_all (chk_all f n) _ _ _ _ _ h0 e
          have hhm : hmx (chk f n) x.2.2.2.2.2.1 ≤ n := by
            have : ∀ l : List Int, hmx (chk f n) l ≤ n := by
              intro l
              induction l with
              | nil => exact Nat.zero_le _
              | cons y l ih =>
                simp only [hmx]
                cases hc : chk f n y with
                | none => simpa using ih
                | some p =>
                  have := (sl3Deep_ok hkl n y p.1 p.2 hc (by omega)).1
                  simp only [Option.map_some, Option.getD_some]
                  omega
            exact this _
          rw [hmx_rev] at b1
          refine ⟨by omega, ?_⟩
          rw [sl3Deep_eq]
          have hk2 : ∀ k' ∈ x.2.2.2.2.2.1, (∃ p, chk f n k' = some p) ∧ k' < k := fun k' hk' => ⟨b2 k' (by simpa using hk'), (hst.2.2.2.2 k' (by simpa using hk')).2.1⟩
          have := sl3Deep_loop hl hs (n := k.toNat) (c := chk f n) (fun k' s' h' _ hc => (sl3Deep_ok hkl n k' s' h' hc (by omega)).2) h0 hx (by omega) (hkl x hm) hk2 (by omega) x.2.2.2.2.2.1 [] rfl
          rw [b1]
          have hz : max 0 (hmx (chk f n) x.2.2.2.2.2.1) = hmx (chk f n) x.2.2.2.2.2.1 := by omega
          rw [hz]
          exact this
        · cases e
    · cases e
end
end Go.Proofs.YtiligfmembmapaaGreatDoor.Abs
/- Formulas that are right: both sides. -/
set_option linter.unusedVariables false
set_option linter.unusedSimpArgs false
set_option linter.unusedSectionVars false
namespace Go.Proofs.YtiligfmembmapaaGreatDoor.Abs
open Go

def okTree (f : List dFNode) : Bool := match chk f f.length ((f.length : Int) - 1) with
  | some (s, h) => decide (s = 0) && (!isAr f ((f.length : Int) - 1) && decide ((h : Int) ≤ 12))
  | none => false
def okF (f : List dFNode) : Bool := inB (f.length : Int) 1 60 && okTree f
theorem okF_stands {f : List dFNode} (h : okF f = true) (i : Nat) (x : dFNode) (hx : f[i]? = some x) : stands f i x := by
  unfold okF okTree at h
  simp only [Bool.and_eq_true] at h
  obtain ⟨h1, h2⟩ := h
  have h1 := inB_iff.1 h1
  cases hc : chk f f.length ((f.length : Int) - 1) with
  | none => rw [hc] at h2; cases h2
  | some p =>
    obtain ⟨s, d⟩ := p
    rw [hc] at h2
    simp only [Bool.and_eq_true, decide_eq_true_eq] at h2
    have hl := (List.getElem?_eq_some_iff.1 hx).1
    obtain ⟨y, hy, hs⟩ := (chk_all f _ _ _ _ hc).2.2 i (by omega) (by omega)
    rw [hx] at hy
    rw [Option.some.inj hy]
    exact hs
section
variable {f : List dFNode} (hl : f.length ≤ 10000000) (hs : ∀ x ∈ f, x.2.2.1.2.2.1.size ≤ 9223372036854775807) (hkl : ∀ x ∈ f, x.2.2.2.2.2.1.length ≤ 10000000)
include hl hs hkl
theorem iFormulaOk_ok : iFormulaOk f = some ((okF f, ()), ()) := by
  rw [iFormulaOk_eq]
  unfold okF
  simp only [iwithin_ok, Option.bind_some]
  cases hb : inB (f.length : Int) 1 60 with
  | false => rfl
  | true =>
    have hb := inB_iff.1 hb
    obtain ⟨x, hx⟩ : ∃ y, f[((f.length : Int) - 1).toNat]? = some y := ⟨f[((f.length : Int) - 1).toNat]'(by omega), List.getElem?_eq_getElem _⟩
    have har : isAr f ((f.length : Int) - 1) = decide (x.1 = 3) := by
      unfold isAr
      rw [List.getD_eq_getElem?_getD, hx]
      rfl
    have hfr := ifrom_ok hl hs f.length ((f.length : Int) - 1) 0 (by omega) (by omega) (by omega) (by decide) (by decide) hkl
    simp only [if_true]
    rw [wr1 (by omega) (by omega), ix_of (by omega) hx, hfr]
    unfold okTree
    rw [har]
    cases hc : chk f f.length ((f.length : Int) - 1) with
    | none => by_cases h3 : x.1 = 3 <;> simp [h3, res12]
    | some p =>
      obtain ⟨s, h⟩ := p
      have hp := (chk_all f _ _ _ _ hc).1
      by_cases h3 : x.1 = 3
      · simp [h3]
      · by_cases h4 : (h : Int) ≤ 12
        · simp [h3, res12, h4, beqI]
        · simp [h3, res12, h4]
theorem sFormulaOk_kids {x : dFNode} {i : Nat} (hi : f[i]? = some x) (hil : i ≤ 10000000) : ∀ (ys pre : List Int), x.2.2.2.2.2.1 = pre ++ ys →
    sFormulaOk_p9 f (i : Int) (pre.length : Int) = if (ys.all fun k => inB k 0 ((i : Int) - 1) && (!isAr f k || decide (x.1 = 6))) = true then sFormulaOk_p4 f ((i + 1 : Nat) : Int) else some ((false, ()), ())
  | [], pre, he => by
    rw [sFormulaOk_p9_eq, ix_of (nn _) (by simpa using hi), ifF (nlt_at he), wr1 (by omega) (by omega)]
    simp
  | y :: ys, pre, he => by
    have hm : x ∈ f := List.mem_of_getElem? hi
    have := hkl x hm
    rw [sFormulaOk_p9_eq, ix_of (nn _) (by simpa using hi), ifT (lt_at he), ix_of (nn _) (by simpa using hi), ix_at he, sl1In_ok, Option.bind_some, wr1 (n := (i : Int) - 1) (by omega) (by omega), wrap_at he (by omega)]
    have ih := sFormulaOk_kids hi hil ys _ (next_at he)
    have hlt := (List.getElem?_eq_some_iff.1 hi).1
    cases hy : inB y 0 ((i : Int) - 1) with
    | false => simp [hy]
    | true =>
      have hy2 := inB_iff.1 hy
      obtain ⟨z, hz⟩ : ∃ z, f[y.toNat]? = some z := ⟨f[y.toNat]'(by omega), List.getElem?_eq_getElem _⟩
      have har : isAr f y = decide (z.1 = 3) := by
        unfold isAr
        rw [List.getD_eq_getElem?_getD, hz]
        rfl
      simp only [Bool.not_true, Bool.false_eq_true, if_false]
      rw [ix_of (by omega) hz]
      by_cases h3 : z.1 = 3
      · rw [if_pos (by simp [h3]), ix_of (nn _) (by simpa using hi)]
        by_cases h6 : x.1 = 6
        · rw [if_neg (by simp [h6]), ih]
          simp [hy, har, h6]
        · rw [if_pos (by simp [h6])]
          simp [hy, har, h3, h6]
      · rw [if_neg (by simp [h3]), ih]
        simp [hy, har, h3]
/-- A node stands rightly, as a truth value. -/
def standsB (f : List dFNode) (i : Nat) : Bool := match f[i]? with
  | some x => okNode x && x.2.2.2.2.2.1.all fun k => inB k 0 ((i : Int) - 1) && (!isAr f k || decide (x.1 = 6))
  | none => true
omit hl hs hkl in
theorem standsB_iff {i : Nat} {x : dFNode} (hx : f[i]? = some x) : standsB f i = true ↔ stands f i x := by
  unfold standsB stands
  rw [hx]
  simp only [Bool.and_eq_true, List.all_eq_true, inB_iff, Bool.or_eq_true, Bool.not_eq_true', decide_eq_true_eq]
  constructor
  · rintro ⟨h1, h2⟩
    refine ⟨h1, fun k hk => ?_⟩
    obtain ⟨⟨a, b⟩, c⟩ := h2 k hk
    refine ⟨a, by omega, fun ha => ?_⟩
    rcases c with c | c
    · rw [c] at ha
      cases ha
    · exact c
  · rintro ⟨h1, h2⟩
    refine ⟨h1, fun k hk => ?_⟩
    obtain ⟨a, b, c⟩ := h2 k hk
    refine ⟨⟨a, by omega⟩, ?_⟩
    cases ha : isAr f k with
    | true => exact .inr (c ha)
    | false => exact .inl rfl
theorem sFormulaOk_tail (hne : 1 ≤ f.length) (A : ∀ (i : Nat) (x : dFNode), f[i]? = some x → stands f i x) : sFormulaOk_p4 f (f.length : Int) = some ((okTree f, ()), ()) := by
  obtain ⟨x, hx⟩ : ∃ y, f[((f.length : Int) - 1).toNat]? = some y := ⟨f[((f.length : Int) - 1).toNat]'(by omega), List.getElem?_eq_getElem _⟩
  have har : isAr f ((f.length : Int) - 1) = decide (x.1 = 3) := by
    unfold isAr
    rw [List.getD_eq_getElem?_getD, hx]
    rfl
  rw [sFormulaOk_p4_eq, ifF (Int.lt_irrefl _), wr1 (by omega) (by omega), sl3Tree_ok hl hs A hkl f.length _ (by omega) (by omega) (by omega), Option.bind_some, ix_of (by omega) hx]
  unfold okTree
  rw [har]
  cases hc : chk f f.length ((f.length : Int) - 1) with
  | none => rfl
  | some p =>
    obtain ⟨s, h⟩ := p
    have er : res0 (some (s, h)) = s := rfl
    simp only [er]
    by_cases h0 : s = 0
    · by_cases h3 : x.1 = 3
      · simp [h0, h3]
      · rw [if_pos (by simp [h0]), if_pos (by simp [h3]), (sl3Deep_ok hl hs hkl _ _ _ _ hc hl).2]
        simp [h0, h3]
    · rw [if_neg (by simp [h0])]
      simp [h0]
theorem sFormulaOk_step {i : Nat} (hi : i < f.length) : sFormulaOk_p4 f (i : Int) = if standsB f i = true then sFormulaOk_p4 f ((i + 1 : Nat) : Int) else some ((false, ()), ()) := by
  obtain ⟨x, hx⟩ : ∃ y, f[i]? = some y := ⟨f[i], List.getElem?_eq_getElem _⟩
  have hm : x ∈ f := List.mem_of_getElem? hx
  rw [sFormulaOk_p4_eq, ifT (by omega), ix_of (nn _) (by simpa using hx), sl3NodeOk_ok (hs x hm), Option.bind_some]
  have es : standsB f i = (okNode x && x.2.2.2.2.2.1.all fun k => inB k 0 ((i : Int) - 1) && (!isAr f k || decide (x.1 = 6))) := by
    unfold standsB
    rw [hx]
  rw [es]
  cases ho : okNode x with
  | false => simp
  | true =>
    have := sFormulaOk_kids hl hs hkl hx (by omega) x.2.2.2.2.2.1 [] rfl
    simp only [Bool.not_true, Bool.false_eq_true, if_false, Bool.true_and]
    exact this
open Classical in
theorem sFormulaOk_steps : ∀ (n i : Nat), i + n = f.length → sFormulaOk_p4 f (i : Int) = if (∀ j, i ≤ j → j < f.length → standsB f j = true) then sFormulaOk_p4 f (f.length : Int) else some ((false, ()), ())
  | 0, i, h => by
    have : i = f.length := by omega
    rw [this, if_pos (fun j h1 h2 => by omega)]
  | n + 1, i, h => by
    rw [sFormulaOk_step hl hs hkl (by omega), sFormulaOk_steps n (i + 1) (by omega)]
    by_cases h1 : standsB f i = true
    · rw [if_pos h1]
      by_cases h2 : ∀ j, i + 1 ≤ j → j < f.length → standsB f j = true
      · rw [if_pos h2, if_pos (fun j a b => by
          by_cases hj : j = i
          · rw [hj]; exact h1
          · exact h2 j (by omega) b)]
      · rw [if_neg h2, if_neg (fun h3 => h2 fun j a b => h3 j (by omega) b)]
    · rw [if_neg h1, if_neg (fun h3 => h1 (h3 i (Nat.le_refl _) (by omega)))]
theorem sFormulaOk_ok : sFormulaOk f = some ((okF f, ()), ()) := by
  rw [sFormulaOk_eq]
  by_cases h1 : (f.length : Int) < 1
  · rw [ifT h1]
    have : inB (f.length : Int) 1 60 = false := by simp [inB]; omega
    simp [okF, this]
  · rw [ifF h1]
    by_cases h2 : (f.length : Int) > 60
    · rw [ifT h2]
      have : inB (f.length : Int) 1 60 = false := by simp [inB]; omega
      simp [okF, this]
    · have hb : inB (f.length : Int) 1 60 = true := inB_iff.2 (by omega)
      rw [ifF h2, show (0 : Int) = ((0 : Nat) : Int) from rfl, sFormulaOk_steps hl hs hkl f.length 0 (by omega)]
      by_cases A : ∀ j, 0 ≤ j → j < f.length → standsB f j = true
      · rw [if_pos A, sFormulaOk_tail hl hs hkl (by omega) fun i x hx => (standsB_iff hx).1 (A i (Nat.zero_le _) (List.getElem?_eq_some_iff.1 hx).1)]
        simp [okF, hb]
      · rw [if_neg A]
        have : okF f = false := by
          cases ho : okF f with
          | false => rfl
          | true =>
            refine absurd (fun j _ hj => ?_) A
            have hx : f[j]? = some f[j] := List.getElem?_eq_getElem _
            exact (standsB_iff hx).2 (okF_stands ho j _ hx)
        rw [this]
end
end Go.Proofs.YtiligfmembmapaaGreatDoor.Abs
