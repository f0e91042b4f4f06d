/- Plain laws: texts as rows of bytes; what stands ahead; decimals. -/
import Derived.Test.YtiligfmembmapaaGreatDoorZP1
import Derived.Lib.IndexBytes
set_option linter.unusedVariables false
set_option linter.unusedSimpArgs false
set_option linter.unusedSectionVars false
namespace Go.Proofs.YtiligfmembmapaaGreatDoor.Abs
open Go

abbrev Bys := List UInt8
abbrev lb (s : ByteArray) : Bys := s.data.toList
abbrev ba (l : Bys) : ByteArray := ⟨l.toArray⟩
theorem lb_ba (l : Bys) : lb (ba l) = l := by simp
theorem ba_lb (s : ByteArray) : ba (lb s) = s := by cases s; simp
theorem size_ba (l : Bys) : (ba l).size = l.length := by
  show (ba l).data.size = _
  simp
theorem size_lb (s : ByteArray) : (lb s).length = s.size := by
  rw [Array.length_toList]
  rfl
theorem ba_inj {a b : Bys} (h : ba a = ba b) : a = b := by
  rw [← lb_ba a, h, lb_ba]
theorem ba_eq {a b : Bys} : (ba a = ba b) = (a = b) := propext ⟨ba_inj, fun h => by rw [h]⟩
theorem ba_ex (l : Bys) (i j : Nat) : (ba l).extract i j = ba ((l.take j).drop i) := by
  apply ba_ext
  simp [ByteArray.data_extract, List.extract_eq_take_drop, List.drop_take]
theorem ba_app (a b : Bys) : ba a ++ ba b = ba (a ++ b) := by
  apply ba_ext
  simp
theorem eqS_ba {a b : Bys} : (ByteArray.toList (ba a) == ByteArray.toList (ba b)) = decide (a = b) := by
  rw [eqS, Bool.eq_iff_iff, decide_eq_true_eq, decide_eq_true_eq, ba_eq]
theorem bts_ba (l : Bys) : bts (ba l) = l.map fun b => (b.toNat : Int) := by simp [bts]
theorem ixs_ba {β : Type} {l pre ys : Bys} {y : UInt8} {f : Int → Option β} (h : l = pre ++ y :: ys) : ixs (ba l) (pre.length : Int) f = f (y.toNat : Int) := by
  have := ixs_at (β := β) (s := ba l) (pre := pre.map fun b => (b.toNat : Int)) (ys := ys.map fun b => (b.toNat : Int)) (y := (y.toNat : Int)) (f := f) (by rw [bts_ba, h]; simp)
  rw [List.length_map] at this
  exact this
theorem ixs_hd {β : Type} {y : UInt8} {ys : Bys} {f : Int → Option β} : ixs (ba (y :: ys)) 0 f = f (y.toNat : Int) := ixs_ba (pre := []) rfl
theorem slh_ba {β : Type} {l : Bys} {n : Nat} {f : ByteArray → Option β} (h : n ≤ l.length) : slh (ba l) (n : Int) f = f (ba (l.take n)) := by
  rw [slh_ok (nn _) (by rw [size_ba]; omega), ba_ex]
  simp
theorem sll_ba {β : Type} {l : Bys} {n : Nat} {f : ByteArray → Option β} (h : n ≤ l.length) : sll (ba l) (n : Int) f = f (ba (l.drop n)) := by
  rw [sll_ok (nn _) (by rw [size_ba]; omega), ba_ex, size_ba]
  simp
theorem slx_ba {β : Type} {l : Bys} {i j : Nat} {f : ByteArray → Option β} (h : i ≤ j) (hj : j ≤ l.length) : slx (ba l) (i : Int) (j : Int) f = f (ba ((l.take j).drop i)) := by
  rw [slx_ok (nn _) (by omega) (by rw [size_ba]; omega), ba_ex]
  simp
theorem cats_ba {β : Type} {a b : Bys} {f : ByteArray → Option β} (h : a.length + b.length ≤ 9223372036854775807) : cats (ba a) (ba b) f = f (ba (a ++ b)) := by
  rw [cats_ok (by rw [size_ba, size_ba]; exact h), ba_app]
/-! ### What stands ahead -/
theorem drop_span {α : Type} (p : α → Bool) (l : List α) : l.take (l.length - (l.dropWhile p).length) = l.takeWhile p ∧ l.drop (l.length - (l.dropWhile p).length) = l.dropWhile p ∧ (l.dropWhile p).length ≤ l.length := by
  have h := List.takeWhile_append_dropWhile (p := p) (l := l)
  have hl : (l.takeWhile p).length + (l.dropWhile p).length = l.length := by rw [← List.length_append, h]
  have e : l.length - (l.dropWhile p).length = (l.takeWhile p).length := by omega
  refine ⟨?_, ?_, by omega⟩
  · rw [e]
    have := List.take_left' (l₁ := l.takeWhile p) (l₂ := l.dropWhile p) rfl
    rw [h] at this
    exact this
  · rw [e]
    have := List.drop_left' (l₁ := l.takeWhile p) (l₂ := l.dropWhile p) rfl
    rw [h] at this
    exact this
theorem pre1c (c : UInt8) (l : Bys) (a : UInt8) : ([a] : Bys).isPrefixOf (c :: l) = decide (c = a) := by
  show (a == c && ([] : Bys).isPrefixOf l) = _
  rw [show ([] : Bys).isPrefixOf l = true by cases l <;> rfl, Bool.and_true, Bool.eq_iff_iff, beq_iff_eq, decide_eq_true_eq]
  exact eq_comm
theorem pre1 (c : UInt8) (t : Bys) : ([c] : Bys).isPrefixOf t = decide (t.head? = some c) := by
  cases t with
  | nil => rfl
  | cons y t => rw [pre1c]; simp
theorem pre2 (y : UInt8) (t : Bys) (a c : UInt8) : ([a, c] : Bys).isPrefixOf (y :: t) = (decide (y = a) && decide (t.head? = some c)) := by
  show (a == y && ([c] : Bys).isPrefixOf t) = _
  rw [pre1]
  congr 1
  rw [Bool.eq_iff_iff, beq_iff_eq, decide_eq_true_eq]
  exact eq_comm
theorem u8eq (y c : UInt8) {n : Int} (hn : (c.toNat : Int) = n) : ((y.toNat : Int) == n) = decide (y = c) := by
  rw [Bool.eq_iff_iff, beq_iff_eq, decide_eq_true_eq, ← hn]
  constructor
  · intro e
    apply UInt8.toNat_inj.1
    omega
  · intro e
    rw [e]
/-- What is true of all bytes. -/
theorem all8 {p : UInt8 → Prop} [DecidablePred p] (h : ∀ n : Fin 256, p (UInt8.ofNat n.val)) (c : UInt8) : p c := by
  have := h ⟨c.toNat, c.toNat_lt⟩
  simpa using this
def upB (c : UInt8) : Bool := decide (65 ≤ c.toNat) && decide (c.toNat ≤ 90)
def dgB (c : UInt8) : Bool := decide (48 ≤ c.toNat) && decide (c.toNat ≤ 57)
/-! ### Decimals -/
def valD (a : Nat) (l : Bys) : Nat := l.foldl (fun a c => a * 10 + (c.toNat - 48)) a
theorem valD_snoc (a : Nat) (l : Bys) (c : UInt8) : valD a (l ++ [c]) = valD a l * 10 + (c.toNat - 48) := by simp [valD]
theorem decD_small {u : Nat} (h : u < 10) : Lib.decDigits u = [UInt8.ofNat (48 + u)] := Lib.decDigits_one h
theorem decD_big {u : Nat} (h : ¬ u < 10) : Lib.decDigits u = Lib.decDigits (u / 10) ++ [UInt8.ofNat (48 + u % 10)] := by
  rw [Lib.decDigits, dif_neg h]
theorem dg_of {x : Nat} (h : x < 10) : (UInt8.ofNat (48 + x)).toNat = 48 + x := by
  rw [UInt8.toNat_ofNat']
  omega
theorem hd_app {m x : Bys} (h : m ≠ []) : (m ++ x).head? = m.head? := by
  cases m with
  | nil => exact absurd rfl h
  | cons a m => rfl
/-- A decimal: digits, without a nought ahead. -/
def canB (l : Bys) : Bool := l.all dgB && decide (1 ≤ l.length) && (decide (l.length = 1) || !decide (l.head? = some 48))
theorem dec_ok : ∀ (n u : Nat), u ≤ n → valD 0 (Lib.decDigits u) = u ∧ canB (Lib.decDigits u) = true ∧ (10 ≤ u → 2 ≤ (Lib.decDigits u).length) ∧ (1 ≤ u → (Lib.decDigits u).head? ≠ some 48)
  | n, u, hn => by
    by_cases h : u < 10
    · rw [decD_small h]
      have e := dg_of h
      refine ⟨by simp [valD]; omega, ?_, fun h2 => by omega, fun h1 h2 => ?_⟩
      · simp only [canB, dgB, List.all_cons, List.all_nil, e]
        simp
        omega
      · simp only [List.head?_cons, Option.some.injEq] at h2
        rw [h2] at e
        have : (48 : UInt8).toNat = 48 := rfl
        omega
    · cases n with
      | zero => omega
      | succ n =>
        obtain ⟨h1, h2, h3, h4⟩ := dec_ok n (u / 10) (by omega)
        rw [decD_big h, valD_snoc, h1, dg_of (Nat.mod_lt _ (by decide))]
        have h4 := h4 (by omega)
        simp only [canB, Bool.and_eq_true, decide_eq_true_eq] at h2
        obtain ⟨⟨k1, k2⟩, k3⟩ := h2
        have hne : Lib.decDigits (u / 10) ≠ [] := by
          intro e
          rw [e] at k2
          simp at k2
        have hh : (Lib.decDigits (u / 10) ++ [UInt8.ofNat (48 + u % 10)]).head? ≠ some 48 := by
          rw [hd_app hne]
          exact h4
        refine ⟨by omega, ?_, fun _ => by rw [List.length_append, List.length_singleton]; omega, fun _ => hh⟩
        simp only [canB, List.all_append, k1, List.all_cons, List.all_nil, dgB, dg_of (Nat.mod_lt u (show 0 < 10 by decide)), Bool.and_eq_true, Bool.or_eq_true, decide_eq_true_eq]
        refine ⟨⟨by simp; omega, by simp⟩, .inr (by simpa using hh)⟩
theorem valD_dec (u : Nat) : valD 0 (Lib.decDigits u) = u := (dec_ok u u (Nat.le_refl _)).1
theorem canB_dec (u : Nat) : canB (Lib.decDigits u) = true := (dec_ok u u (Nat.le_refl _)).2.1
theorem dg_back {c : UInt8} (h : dgB c = true) : UInt8.ofNat (48 + (c.toNat - 48)) = c := by
  simp only [dgB, Bool.and_eq_true, decide_eq_true_eq] at h
  have : 48 + (c.toNat - 48) = c.toNat := by omega
  rw [this]
  simp
theorem dec_val : ∀ (l : Bys), canB l = true → Lib.decDigits (valD 0 l) = l ∧ (l.head? ≠ some 48 → 1 ≤ valD 0 l) := by
  intro l
  induction hn : l.length using Nat.strongRecOn generalizing l with
  | ind n ih =>
    intro h
    rcases List.eq_nil_or_concat l with rfl | ⟨m, c, rfl⟩
    · simp [canB] at h
    · rw [List.concat_eq_append] at *
      simp only [canB, Bool.and_eq_true, Bool.or_eq_true, decide_eq_true_eq, List.all_append, List.all_cons, List.all_nil, Bool.and_true] at h
      obtain ⟨⟨⟨k1, k0⟩, k2⟩, k3⟩ := h
      have kd : 48 ≤ c.toNat ∧ c.toNat ≤ 57 := by simpa [dgB] using k0
      rw [valD_snoc]
      by_cases hm : m = []
      · subst hm
        have e : valD 0 [] * 10 + (c.toNat - 48) = c.toNat - 48 := by simp [valD]
        rw [e, decD_small (by omega), dg_back k0]
        refine ⟨rfl, fun hh => ?_⟩
        have : c.toNat ≠ 48 := by
          intro e
          apply hh
          simp only [List.nil_append, List.head?_cons]
          congr 1
          exact UInt8.toNat_inj.1 e
        omega
      · have hm1 : 1 ≤ m.length := List.length_pos_iff.2 hm
        have hh : (m ++ [c]).head? = m.head? := hd_app hm
        have k4 : m.head? ≠ some 48 := by
          rcases k3 with k3 | k3
          · rw [List.length_append, List.length_singleton] at k3
            omega
          · rw [hh] at k3
            simpa using k3
        obtain ⟨i1, i2⟩ := ih m.length (by rw [← hn, List.length_append, List.length_singleton]; omega) m rfl (by
          simp only [canB, Bool.and_eq_true, Bool.or_eq_true, decide_eq_true_eq]
          exact ⟨⟨k1, hm1⟩, .inr (by simpa using k4)⟩)
        have i2 := i2 k4
        refine ⟨?_, fun _ => by omega⟩
        rw [decD_big (by omega)]
        have e1 : (valD 0 m * 10 + (c.toNat - 48)) / 10 = valD 0 m := by omega
        have e2 : (valD 0 m * 10 + (c.toNat - 48)) % 10 = c.toNat - 48 := by omega
        rw [e1, e2, i1, dg_back k0]
theorem itoa_nat (u : Nat) : itoaB (u : Int) = ba (Lib.decDigits u) := itoaB_nat u
theorem valD_lt : ∀ (l : Bys) (a : Nat), l.all dgB = true → valD a l < (a + 1) * 10 ^ l.length
  | [], a, _ => by simp [valD]
  | c :: l, a, h => by
    simp only [List.all_cons, Bool.and_eq_true] at h
    have kd : 48 ≤ c.toNat ∧ c.toNat ≤ 57 := by simpa [dgB] using h.1
    have := valD_lt l (a * 10 + (c.toNat - 48)) h.2
    show valD (a * 10 + (c.toNat - 48)) l < _
    refine Nat.lt_of_lt_of_le this ?_
    rw [List.length_cons, Nat.pow_succ]
    have : a * 10 + (c.toNat - 48) + 1 ≤ (a + 1) * 10 := by omega
    calc (a * 10 + (c.toNat - 48) + 1) * 10 ^ l.length ≤ ((a + 1) * 10) * 10 ^ l.length := Nat.mul_le_mul_right _ this
      _ = (a + 1) * (10 ^ l.length * 10) := by rw [Nat.mul_assoc, Nat.mul_comm 10]
end Go.Proofs.YtiligfmembmapaaGreatDoor.Abs
/- Plain laws: places and their texts. -/
set_option linter.unusedVariables false
set_option linter.unusedSimpArgs false
set_option linter.unusedSectionVars false
namespace Go.Proofs.YtiligfmembmapaaGreatDoor.Abs
open Go

/-! ### Columns -/
def colT (c : Nat) : Bys := if c ≤ 26 then [UInt8.ofNat (64 + c)] else [65, UInt8.ofNat (38 + c)]
theorem colT_fin1 : ∀ c : Fin 53, 1 ≤ c.val → c.val ≤ 26 → strOfNums ([(IntKind.u8.wrap (IntKind.i64.wrap ((IntKind.i64.wrap (65 + (c.val : Int))) - 1)))] : List Int) = ba (colT c.val) := by decide +kernel
theorem colT_fin2 : ∀ c : Fin 53, 1 ≤ c.val → ¬ c.val ≤ 26 → strOfNums ([(IntKind.u8.wrap (IntKind.i64.wrap ((IntKind.i64.wrap (65 + (IntKind.i64.wrap (Int.tdiv (IntKind.i64.wrap ((c.val : Int) - 1)) 26)))) - 1))), (IntKind.u8.wrap (IntKind.i64.wrap (65 + (Int.tmod (IntKind.i64.wrap ((c.val : Int) - 1)) 26))))] : List Int) = ba (colT c.val) := by decide +kernel
theorem colT_fin3 : ∀ c : Fin 53, 1 ≤ c.val → strOfNums ([(IntKind.u8.wrap (IntKind.i64.wrap (65 + (Int.tmod (IntKind.i64.wrap ((c.val : Int) - 1)) 26))))] : List Int) = ba (if c.val ≤ 26 then colT c.val else (colT c.val).drop 1) := by decide +kernel
theorem colT_fin4 : ∀ c : Fin 53, 1 ≤ c.val → IntKind.i64.wrap (Int.tdiv (IntKind.i64.wrap ((c.val : Int) - 1)) 26) = if c.val ≤ 26 then 0 else 1 := by decide +kernel
theorem colT_len (c : Nat) : 1 ≤ (colT c).length ∧ (colT c).length ≤ 2 := by
  unfold colT
  split <;> simp
theorem sColText_ok {c : Nat} (h1 : 1 ≤ c) (h2 : c ≤ 52) : sColText (c : Int) = some ((ba (colT c), ()), ()) := by
  have k1 := colT_fin3 ⟨c, by omega⟩ h1
  have k2 := colT_fin4 ⟨c, by omega⟩ h1
  have kl := colT_len c
  rw [sColText_eq, sl1In_ok]
  simp only [Option.bind_some]
  rw [show inB (c : Int) 1 52 = true from inB_iff.2 ⟨by omega, by omega⟩]
  simp only [Bool.not_true, Bool.false_eq_true, if_false]
  simp only at k1 k2
  rw [sColText_p4_eq, ifT (by omega), k1, k2]
  by_cases h : c ≤ 26
  · rw [if_pos h, if_pos h, cats_ba (by simp only [List.length_nil]; omega), sColText_p4_eq, ifF (by decide), List.append_nil]
  · rw [if_neg h, if_neg h, cats_ba (by simp only [List.length_nil, List.length_drop]; omega), sColText_p4_eq, ifT (by decide), List.append_nil]
    have k3' : strOfNums ([(IntKind.u8.wrap (IntKind.i64.wrap (65 + (Int.tmod (IntKind.i64.wrap ((1 : Int) - 1)) 26))))] : List Int) = ba [65] := by decide +kernel
    have k4' : IntKind.i64.wrap (Int.tdiv (IntKind.i64.wrap ((1 : Int) - 1)) 26) = 0 := by decide +kernel
    rw [k3', k4', cats_ba (by simp only [List.length_cons, List.length_nil, List.length_drop]; omega), sColText_p4_eq, ifF (by decide)]
    congr 3
    unfold colT
    rw [if_neg h]
    rfl
theorem colT_inj : ∀ a b : Fin 53, 1 ≤ a.val → 1 ≤ b.val → colT a.val = colT b.val → a = b := by decide +kernel
theorem col_loop {P : ByteArray → Int → Option ((Int × Unit) × Unit)} {C : Int → Option ((ByteArray × Unit) × Unit)}
    (hP : ∀ x n, P x n = if decide (n ≤ 52) = true then (C n).bind fun z1 => (if (ByteArray.toList z1.1.1 == ByteArray.toList x) = true then some ((n, ()), ()) else P x (IntKind.i64.wrap (n + 1))) else some ((0, ()), ()))
    (hC : ∀ c : Nat, 1 ≤ c → c ≤ 52 → C (c : Int) = some ((ba (colT c), ()), ())) (w : Bys) : ∀ k n : Nat, n + k = 53 → 1 ≤ n → P (ba w) (n : Int) = some ((((((List.range' n k).find? fun m => decide (colT m = w)).getD 0 : Nat) : Int), ()), ())
  | 0, n, h, _ => by
    rw [hP, ifF (by omega)]
    rfl
  | k + 1, n, h, h1 => by
    rw [hP, ifT (by omega), hC n h1 (by omega)]
    simp only [Option.bind_some, eqS_ba, List.range'_succ, List.find?_cons]
    by_cases he : colT n = w
    · simp [he]
    · rw [if_neg (by simpa using he), wr (by omega) (by omega)]
      simp only [he, decide_false]
      exact col_loop hP hC w k (n + 1) (by omega) (by omega)
def rdCol (w : Bys) : Nat := ((List.range' 1 52).find? fun m => decide (colT m = w)).getD 0
theorem sReadCol_ok (w : Bys) : sReadCol (ba w) = some ((((rdCol w : Nat) : Int), ()), ()) := by
  rw [sReadCol_eq]
  exact col_loop (fun x n => sReadCol_p2_eq) (fun c h1 h2 => sColText_ok h1 h2) w 52 1 rfl (Nat.le_refl _)
theorem rdCol_colT : ∀ m : Fin 53, 1 ≤ m.val → rdCol (colT m.val) = m.val := by decide +kernel
theorem rdCol_pos {w : Bys} (h : 1 ≤ rdCol w) : rdCol w ≤ 52 ∧ colT (rdCol w) = w := by
  unfold rdCol at h ⊢
  cases hf : (List.range' 1 52).find? fun m => decide (colT m = w) with
  | none => rw [hf] at h; simp at h
  | some m =>
    have h1 := List.find?_some hf
    have h2 := List.mem_of_find?_eq_some hf
    rw [List.mem_range'_1] at h2
    simp only [Option.getD_some]
    exact ⟨by omega, by simpa using h1⟩
/-! ### Texts of places -/
def fixT (b : Bool) : Bys := if b = true then [36] else []
def plN (c r : Nat) (fc fr : Bool) : Bys := fixT fc ++ (colT c ++ (fixT fr ++ Lib.decDigits r))
def plT (p : dPlace) : Bys := plN p.1.1.toNat p.1.2.1.toNat p.2.1 p.2.2.1
theorem okRef_iff {r : dRef} : okRef r = true ↔ (1 ≤ r.1 ∧ r.1 ≤ 52) ∧ 1 ≤ r.2.1 ∧ r.2.1 ≤ 99 := by
  unfold okRef
  rw [Bool.and_eq_true, inB_iff, inB_iff]
theorem decDig_len {r : Nat} (h : r ≤ 99) : (Lib.decDigits r).length ≤ 2 := decLen 1 r (by omega)
theorem sPlaceText_ok (p : dPlace) : sPlaceText p = some ((if okRef p.1 = true then ba (plT p) else ba [], ()), ()) := by
  rw [sPlaceText_eq, sRefOk_ok]
  simp only [Option.bind_some]
  cases hr : okRef p.1 with
  | false => rfl
  | true =>
    simp only [Bool.not_true, Bool.false_eq_true, if_false, if_true]
    obtain ⟨⟨c, r, u⟩, fc, fr, u'⟩ := p
    obtain ⟨⟨h1, h2⟩, h3, h4⟩ := okRef_iff.1 hr
    simp only at h1 h2 h3 h4 ⊢
    obtain ⟨c, rfl⟩ : ∃ n : Nat, c = n := ⟨c.toNat, by omega⟩
    obtain ⟨r, rfl⟩ : ∃ n : Nat, r = n := ⟨r.toNat, by omega⟩
    have kc := colT_len c
    have kr := decDig_len (r := r) (by omega)
    have e1 : sColText (c : Int) = some ((ba (colT c), ()), ()) := sColText_ok (by omega) (by omega)
    have e2 : sl1Dec (r : Int) = some ((ba (Lib.decDigits r), ()), ()) := by rw [sl1Dec_ok (by omega) (by omega), itoa_nat]
    unfold plT plN
    simp only [Int.toNat_natCast]
    cases fc <;> cases fr <;> simp only [e1, e2, Option.bind_some, if_true, if_false, Bool.false_eq_true, fixT]
    all_goals
      repeat rw [cats_ba (by first | omega | (simp only [List.length_append, List.length_cons, List.length_nil]; omega))]
      simp
/-! ### Numbers that are read -/
theorem sl1Int_loop {w : Bys} (hw : w.length ≤ 18) : ∀ (ys pre : Bys), w = pre ++ ys → pre.all dgB = true → sl1Int_p5 (ba w) (valD 0 pre : Nat) (pre.length : Int) = some ((if ys.all dgB = true then ((valD 0 w : Nat) : Int) else 0, ys.all dgB, ()), ())
  | [], pre, h, hp => by
    rw [List.append_nil] at h
    subst h
    rw [sl1Int_p5_eq, ifF (by rw [size_ba]; omega)]
    rfl
  | y :: ys, pre, h, hp => by
    have hl : pre.length < w.length := by rw [h]; simp
    rw [sl1Int_p5_eq, ifT (by rw [size_ba]; omega), ixs_ba h]
    by_cases h1 : y.toNat < 48
    · have hd : dgB y = false := by simp [dgB]; omega
      rw [ifT (by omega)]
      simp [hd]
    · rw [ifF (by omega), ixs_ba h]
      by_cases h2 : 57 < y.toNat
      · have hd : dgB y = false := by simp [dgB]; omega
        rw [ifT (by omega)]
        simp [hd]
      · have hd : dgB y = true := by simp [dgB]; omega
        rw [ifF (by omega), ixs_ba h]
        have hv := valD_lt pre 0 hp
        have hv2 : 10 ^ pre.length ≤ 10 ^ 17 := Nat.pow_le_pow_right (by decide) (by omega)
        have hv3 : valD 0 pre < 100000000000000000 := by
          rw [Nat.zero_add, Nat.one_mul] at hv
          exact Nat.lt_of_lt_of_le hv hv2
        clear hv hv2
        have e1 : IntKind.u8.wrap ((y.toNat : Int) - 48) = ((y.toNat - 48 : Nat) : Int) := by rw [wr8 (by omega) (by omega)]; omega
        have w1 : IntKind.i64.wrap (((valD 0 pre : Nat) : Int) * 10) = ((valD 0 pre : Nat) : Int) * 10 := wr (by omega) (by omega)
        have w2 : IntKind.i64.wrap ((y.toNat - 48 : Nat) : Int) = ((y.toNat - 48 : Nat) : Int) := wr (by omega) (by omega)
        rw [e1, w1, w2, wr (n := ((valD 0 pre : Nat) : Int) * 10 + ((y.toNat - 48 : Nat) : Int)) (by omega) (by omega), wr (n := (pre.length : Int) + 1) (by omega) (by omega)]
        have e2 : ((valD 0 pre : Nat) : Int) * 10 + ((y.toNat - 48 : Nat) : Int) = ((valD 0 (pre ++ [y]) : Nat) : Int) := by rw [valD_snoc]; omega
        have e3 : (pre.length : Int) + 1 = ((pre ++ [y]).length : Int) := by simp
        rw [e2, e3, sl1Int_loop hw ys (pre ++ [y]) (by rw [h]; simp) (by simp [hp, hd])]
        simp [hd]
/-- A number of so many digits at most. -/
def rdInt (w : Bys) (m : Nat) : Bool := canB w && decide (w.length ≤ m)
theorem sl1Int_ok (w : Bys) {m : Nat} (hm : m ≤ 18) : sl1Int (ba w) (m : Int) = some ((if rdInt w m = true then ((valD 0 w : Nat) : Int) else 0, rdInt w m, ()), ()) := by
  rw [sl1Int_eq, size_ba]
  cases w with
  | nil =>
    rw [ifT (by simp)]
    rfl
  | cons y ys =>
    have hlen : (y :: ys : Bys).length = ys.length + 1 := rfl
    rw [ifF (by omega)]
    by_cases h : (y :: ys : Bys).length ≤ m
    · have hle : decide ((y :: ys : Bys).length ≤ m) = true := decide_eq_true h
      rw [ifF (by omega), ixs_hd]
      have hl := sl1Int_loop (w := y :: ys) (by omega) (y :: ys) [] rfl rfl
      have hl : sl1Int_p5 (ba (y :: ys)) 0 0 = _ := hl
      have h0n : decide (1 ≤ (y :: ys : Bys).length) = true := decide_eq_true (by omega)
      by_cases h0 : y = 48
      · subst h0
        rw [if_pos (by rfl)]
        by_cases h1 : ys.length = 0
        · rw [ifF (by omega), hl]
          have h1' : decide ((48 :: ys : Bys).length = 1) = true := decide_eq_true (by omega)
          have e : rdInt (48 :: ys) m = (48 :: ys : Bys).all dgB := by
            unfold rdInt canB
            rw [hle, h0n, h1']
            simp
          rw [e]
        · rw [ifT (by omega)]
          have h1' : decide ((48 :: ys : Bys).length = 1) = false := decide_eq_false (by omega)
          have e : rdInt (48 :: ys) m = false := by
            unfold rdInt canB
            rw [h1']
            simp
          rw [e]
          rfl
      · have h0' : ¬ ((y.toNat : Int) == 48) = true := by
          simp only [beq_iff_eq]
          intro e
          apply h0
          apply UInt8.toNat_inj.1
          show y.toNat = 48
          omega
        rw [if_neg h0', hl]
        have e : rdInt (y :: ys) m = (y :: ys : Bys).all dgB := by
          have h2 : decide ((y :: ys : Bys).head? = some 48) = false := decide_eq_false (by simpa using h0)
          unfold rdInt canB
          rw [hle, h0n, h2]
          simp
        rw [e]
    · rw [ifT (by omega)]
      have e : rdInt (y :: ys) m = false := by
        unfold rdInt
        rw [decide_eq_false h]
        simp
      rw [e]
      rfl
theorem rdInt_ok {w : Bys} {m : Nat} (h : rdInt w m = true) : Lib.decDigits (valD 0 w) = w ∧ w.length ≤ m := by
  unfold rdInt at h
  rw [Bool.and_eq_true, decide_eq_true_eq] at h
  exact ⟨(dec_val w h.1).1, h.2⟩
theorem rdInt_dec {u m : Nat} (h : (Lib.decDigits u).length ≤ m) : rdInt (Lib.decDigits u) m = true := by
  unfold rdInt
  rw [canB_dec]
  simpa using h
end Go.Proofs.YtiligfmembmapaaGreatDoor.Abs
/- Plain laws: places that are read. -/
set_option linter.unusedVariables false
set_option linter.unusedSimpArgs false
set_option linter.unusedSectionVars false
namespace Go.Proofs.YtiligfmembmapaaGreatDoor.Abs
open Go

theorem parse_1 : ∀ r : Fin 10, (parseV [UInt8.ofNat (48 + r.val)]).1 = (r.val : Int) := by decide +kernel
theorem parse_2 : ∀ r : Fin 100, (parseV [UInt8.ofNat (48 + r.val / 10), UInt8.ofNat (48 + r.val % 10)]).1 = (r.val : Int) := by decide +kernel
theorem parse_dec {r : Nat} (h : r < 100) : (parseV (Lib.decDigits r)).1 = (r : Int) := by
  by_cases h1 : r < 10
  · rw [Lib.decDigits_one h1]
    exact parse_1 ⟨r, h1⟩
  · rw [Lib.decDigits_two h1 h]
    exact parse_2 ⟨r, h⟩
theorem up_set : (fun c => ([65, 66, 67, 68, 69, 70, 71, 72, 73, 74, 75, 76, 77, 78, 79, 80, 81, 82, 83, 84, 85, 86, 87, 88, 89, 90] : Bys).contains c) = upB := funext fun c => all8 (p := fun c => ([65, 66, 67, 68, 69, 70, 71, 72, 73, 74, 75, 76, 77, 78, 79, 80, 81, 82, 83, 84, 85, 86, 87, 88, 89, 90] : Bys).contains c = upB c) (by decide +kernel) c
/-! ### $ -/
def strp (w : Bys) : Bool × Bys := (([36] : Bys).isPrefixOf w, if ([36] : Bys).isPrefixOf w = true then w.drop 1 else w)
theorem strp_back (w : Bys) : fixT (strp w).1 ++ (strp w).2 = w := by
  unfold strp fixT
  cases w with
  | nil => rfl
  | cons c l =>
    by_cases h : c = 36
    · subst h
      simp
    · have : ([36] : Bys).isPrefixOf (c :: l) = false := by rw [pre1c]; simp [h]
      simp [this]
theorem strp_fix {b : Bool} {w : Bys} (h : w.head? ≠ some 36) : strp (fixT b ++ w) = (b, w) := by
  unfold strp fixT
  cases b with
  | true => simp
  | false =>
    cases w with
    | nil => rfl
    | cons c l =>
      have h' : c ≠ 36 := fun e => h (by rw [e]; rfl)
      have : ([36] : Bys).isPrefixOf (c :: l) = false := by rw [pre1c]; simp [h']
      simp [this]
theorem strp_len (w : Bys) : (strp w).2.length ≤ w.length := by
  unfold strp
  split <;> simp
/-! ### The program's -/
def cand (w : Bys) : dPlace := ((((rdCol ((strp w).2.takeWhile upB) : Nat) : Int), (parseV (strp ((strp w).2.dropWhile upB)).2).1, ()), (strp w).1, (strp ((strp w).2.dropWhile upB)).1, ())
theorem dropW_len (p : UInt8 → Bool) (l : Bys) : (l.dropWhile p).length ≤ l.length := (drop_span p l).2.2
theorem colT_up : ∀ c : Fin 53, 1 ≤ c.val → (colT c.val).all upB = true := by decide +kernel
theorem up_ne {y : UInt8} (h : upB y = true) : y ≠ 36 := by
  rintro rfl
  exact absurd h (by decide)
theorem dg_ne {y : UInt8} (h : dgB y = true) : y ≠ 36 ∧ upB y = false := by
  refine ⟨?_, ?_⟩
  · rintro rfl
    exact absurd h (by decide)
  · simp only [dgB, upB, Bool.and_eq_true, decide_eq_true_eq, Bool.and_eq_false_iff, decide_eq_false_iff_not] at h ⊢
    omega
theorem dec_hd (u : Nat) : ∃ y l, Lib.decDigits u = y :: l ∧ dgB y = true := by
  have h := canB_dec u
  unfold canB at h
  simp only [Bool.and_eq_true, decide_eq_true_eq] at h
  cases hd : Lib.decDigits u with
  | nil => rw [hd] at h; simp at h
  | cons y l =>
    rw [hd] at h
    refine ⟨y, l, rfl, ?_⟩
    have := h.1.1
    simp only [List.all_cons, Bool.and_eq_true] at this
    exact this.1
theorem colT_hd {c : Nat} (h1 : 1 ≤ c) (h2 : c ≤ 52) (x : Bys) : (colT c ++ x).head? ≠ some 36 := by
  have h := colT_up ⟨c, by omega⟩ h1
  have hl := colT_len c
  simp only at h
  cases hc : colT c with
  | nil => rw [hc] at hl; simp at hl
  | cons y l =>
    rw [hc] at h
    simp only [List.all_cons, Bool.and_eq_true] at h
    intro e
    simp only [List.cons_append, List.head?_cons, Option.some.injEq] at e
    exact up_ne h.1 e
/-- The parts of a place's text. -/
theorem pl_parts {c r : Nat} (h1 : 1 ≤ c) (h2 : c ≤ 52) (fc fr : Bool) : (strp (plN c r fc fr)).1 = fc ∧ (strp (plN c r fc fr)).2.takeWhile upB = colT c ∧ (strp ((strp (plN c r fc fr)).2.dropWhile upB)).1 = fr ∧ (strp ((strp (plN c r fc fr)).2.dropWhile upB)).2 = Lib.decDigits r := by
  unfold plN
  rw [strp_fix (colT_hd h1 h2 _)]
  have hu := List.all_eq_true.1 (colT_up ⟨c, by omega⟩ h1)
  simp only at hu ⊢
  obtain ⟨y, l, hy, hd⟩ := dec_hd r
  have hn : ∃ z m, fixT fr ++ Lib.decDigits r = z :: m ∧ upB z = false := by
    cases fr with
    | true => exact ⟨36, _, rfl, by decide⟩
    | false => exact ⟨y, l, hy, (dg_ne hd).2⟩
  obtain ⟨z, m, hz, hzu⟩ := hn
  have ht : (fixT fr ++ Lib.decDigits r).takeWhile upB = [] := by rw [hz]; simp [hzu]
  have hdr : (fixT fr ++ Lib.decDigits r).dropWhile upB = fixT fr ++ Lib.decDigits r := by rw [hz]; simp [hzu]
  rw [List.takeWhile_append_of_pos hu, List.dropWhile_append_of_pos hu, ht, hdr, List.append_nil, strp_fix (by rw [hy]; simp only [List.head?_cons, ne_eq, Option.some.injEq]; exact (dg_ne hd).1)]
  simp
theorem place_nat {p : dPlace} (h : okRef p.1 = true) : ∃ (c r : Nat) (fc fr : Bool), p = (((c : Int), (r : Int), ()), fc, fr, ()) ∧ 1 ≤ c ∧ c ≤ 52 ∧ 1 ≤ r ∧ r ≤ 99 := by
  obtain ⟨⟨c, r, u⟩, fc, fr, u'⟩ := p
  obtain ⟨⟨h1, h2⟩, h3, h4⟩ := okRef_iff.1 h
  simp only at h1 h2 h3 h4
  refine ⟨c.toNat, r.toNat, fc, fr, ?_, by omega, by omega, by omega, by omega⟩
  rw [Int.toNat_of_nonneg (by omega), Int.toNat_of_nonneg (by omega)]
theorem cand_ok {p : dPlace} (h : okRef p.1 = true) : cand (plT p) = p := by
  obtain ⟨c, r, fc, fr, rfl, h1, h2, h3, h4⟩ := place_nat h
  obtain ⟨e1, e2, e3, e4⟩ := pl_parts (r := r) h1 h2 fc fr
  show cand (plN c r fc fr) = _
  unfold cand
  rw [e1, e2, e3, e4, rdCol_colT ⟨c, by omega⟩ h1, parse_dec (by omega)]
/-! ### The reference's -/
def tailP (fc : Bool) (ls w2 : Bys) : dPlace × Bool :=
  if rdInt (strp w2).2 2 = true ∧ okRef (((rdCol ls : Nat) : Int), ((valD 0 (strp w2).2 : Nat) : Int), ()) = true then (((((rdCol ls : Nat) : Int), ((valD 0 (strp w2).2 : Nat) : Int), ()), fc, (strp w2).1, ()), true) else (p0, false)
def rdPl (w : Bys) : dPlace × Bool := tailP (strp w).1 ((strp w).2.takeWhile upB) ((strp w).2.dropWhile upB)
theorem tailK {fc : Bool} {ls w2 : Bys} {f1 : Bool} {w3 : Bys} (h : strp w2 = (f1, w3)) :
    ((sl1Int (ba w3) 2).bind fun z2 => (if (!z2.1.2.1) = true then (some ((((0, 0, ()), false, false, ()), false, ()), (()))) else ((sRefOk (((rdCol ls : Nat) : Int), z2.1.1, ())).bind fun z3 => (if (!z3.1.1) = true then (some ((((0, 0, ()), false, false, ()), false, ()), (()))) else (some (((((((rdCol ls : Nat) : Int), z2.1.1, ()), fc, f1, ()) : dPlace), true, ()), (()))))))) = some (((tailP fc ls w2).1, (tailP fc ls w2).2, ()), ()) := by
  have e := sl1Int_ok w3 (m := 2) (by decide)
  have e : sl1Int (ba w3) 2 = _ := e
  rw [e]
  simp only [Option.bind_some, sRefOk_ok]
  unfold tailP
  rw [h]
  cases hr : rdInt w3 2 with
  | false => simp
  | true =>
    simp only [Bool.not_true, Bool.false_eq_true, if_false, if_true, true_and]
    cases ho : okRef (((rdCol ls : Nat) : Int), ((valD 0 w3 : Nat) : Int), ()) with
    | false => simp
    | true => simp
theorem plK {fc : Bool} {w1 pre ys : Bys} (h : w1 = pre ++ ys) (hl : w1.length ≤ 9223372036854775807) :
    (slh (ba w1) (pre.length : Int) fun y7 => ((sReadCol y7).bind fun z8 => (sll (ba w1) (pre.length : Int) fun y8 => (if (decide ((ByteArray.size y8 : Int) > 0)) = true then (ixs y8 0 fun y9 => (if (y9 == 36) = true then (sll y8 1 fun y10 => ((sl1Int y10 2).bind fun z9 => (if (!z9.1.2.1) = true then (some ((((0, 0, ()), false, false, ()), false, ()), (()))) else ((sRefOk (z8.1.1, z9.1.1, ())).bind fun z10 => (if (!z10.1.1) = true then (some ((((0, 0, ()), false, false, ()), false, ()), (()))) else (some ((((z8.1.1, z9.1.1, ()), fc, true, ()), true, ()), (())))))))) else ((sl1Int y8 2).bind fun z11 => (if (!z11.1.2.1) = true then (some ((((0, 0, ()), false, false, ()), false, ()), (()))) else ((sRefOk (z8.1.1, z11.1.1, ())).bind fun z12 => (if (!z12.1.1) = true then (some ((((0, 0, ()), false, false, ()), false, ()), (()))) else (some ((((z8.1.1, z11.1.1, ()), fc, false, ()), true, ()), (()))))))))) else ((sl1Int y8 2).bind fun z13 => (if (!z13.1.2.1) = true then (some ((((0, 0, ()), false, false, ()), false, ()), (()))) else ((sRefOk (z8.1.1, z13.1.1, ())).bind fun z14 => (if (!z14.1.1) = true then (some ((((0, 0, ()), false, false, ()), false, ()), (()))) else (some ((((z8.1.1, z13.1.1, ()), fc, false, ()), true, ()), (())))))))))))
      = (some (((tailP fc pre ys).1, (tailP fc pre ys).2, ()), ()) : Option ((dPlace × Bool × Unit) × Unit)) := by
  subst h
  have hle : pre.length ≤ (pre ++ ys).length := by simp
  rw [slh_ba hle, List.take_left' rfl, sReadCol_ok]
  simp only [Option.bind_some]
  rw [sll_ba hle, List.drop_left' rfl, size_ba]
  cases ys with
  | nil =>
    rw [ifF (by simp)]
    exact tailK rfl
  | cons y l =>
    rw [ifT (by simp), ixs_hd]
    by_cases hy : y = 36
    · subst hy
      rw [if_pos (by rfl), show (1 : Int) = ((1 : Nat) : Int) from rfl, sll_ba (by simp)]
      exact tailK (by unfold strp; rw [pre1c]; simp)
    · have h0' : ¬ ((y.toNat : Int) == 36) = true := by
        simp only [beq_iff_eq]
        intro e
        apply hy
        apply UInt8.toNat_inj.1
        show y.toNat = 36
        omega
      rw [if_neg h0']
      exact tailK (by unfold strp; rw [pre1c]; simp [hy])
theorem sReadPlace_loop {fc : Bool} {w1 : Bys} (hl : w1.length ≤ 9223372036854775806) : ∀ (ys pre : Bys), w1 = pre ++ ys → sReadPlace_p6 (ba w1) (pre.length : Int) 0 0 false false 0 0 fc false = some (((tailP fc (pre ++ ys.takeWhile upB) (ys.dropWhile upB)).1, (tailP fc (pre ++ ys.takeWhile upB) (ys.dropWhile upB)).2, ()), ())
  | [], pre, h => by
    have hlen : w1.length = pre.length := by rw [h]; simp
    rw [sReadPlace_p6_eq, ifF (by rw [size_ba]; omega)]
    simpa using plK (fc := fc) h (by omega)
  | y :: ys, pre, h => by
    have hlen : pre.length < w1.length := by rw [h]; simp
    rw [sReadPlace_p6_eq, ifT (by rw [size_ba]; omega), ixs_ba h]
    cases hu : upB y with
    | true =>
      have hu' : 65 ≤ y.toNat ∧ y.toNat ≤ 90 := by simpa [upB] using hu
      rw [ifT (by omega), ixs_ba h, ifT (by omega), wr (by omega) (by omega), show (pre.length : Int) + 1 = ((pre ++ [y]).length : Int) by simp, sReadPlace_loop hl ys (pre ++ [y]) (by rw [h]; simp)]
      simp [hu]
    | false =>
      have hk := plK (fc := fc) h (by omega)
      rw [List.takeWhile_cons_of_neg (by simp [hu]), List.dropWhile_cons_of_neg (by simp [hu]), List.append_nil]
      by_cases h1 : 65 ≤ y.toNat
      · have h2 : ¬ y.toNat ≤ 90 := by
          intro h2
          simp [upB, h1, h2] at hu
        rw [ifT (by omega), ixs_ba h, ifF (by omega)]
        exact hk
      · rw [ifF (by omega)]
        exact hk
theorem sReadPlace_ok {w : Bys} (hw : w.length ≤ 281474976710656) : sReadPlace (ba w) = some (((rdPl w).1, (rdPl w).2, ()), ()) := by
  rw [sReadPlace_eq, size_ba]
  cases w with
  | nil =>
    rw [ifF (by simp)]
    exact sReadPlace_loop (fc := false) (w1 := []) (by simp) [] [] rfl
  | cons y l =>
    rw [List.length_cons] at hw
    rw [ifT (by simp), ixs_hd]
    by_cases hy : y = 36
    · subst hy
      rw [if_pos (by rfl), show (1 : Int) = ((1 : Nat) : Int) from rfl, sll_ba (by simp)]
      have := sReadPlace_loop (fc := true) (w1 := l) (by omega) l [] rfl
      have e : strp (36 :: l) = (true, l) := by unfold strp; rw [pre1c]; simp
      unfold rdPl
      rw [e]
      exact this
    · have h0' : ¬ ((y.toNat : Int) == 36) = true := by
        simp only [beq_iff_eq]
        intro e
        apply hy
        apply UInt8.toNat_inj.1
        show y.toNat = 36
        omega
      rw [if_neg h0']
      have := sReadPlace_loop (fc := false) (w1 := y :: l) (by rw [List.length_cons]; omega) (y :: l) [] rfl
      have e : strp (y :: l) = (false, y :: l) := by unfold strp; rw [pre1c]; simp [hy]
      unfold rdPl
      rw [e]
      exact this
/-! ### Both are one -/
theorem rdPl_ok {w : Bys} (h : (rdPl w).2 = true) : okRef (rdPl w).1.1 = true ∧ plT (rdPl w).1 = w := by
  unfold rdPl tailP at h ⊢
  split at h
  · rename_i hc
    rw [if_pos hc]
    refine ⟨hc.2, ?_⟩
    obtain ⟨⟨k1, k2⟩, k3, k4⟩ := okRef_iff.1 hc.2
    simp only at k1 k2 k3 k4
    obtain ⟨c1, c2⟩ := rdCol_pos (w := (strp w).2.takeWhile upB) (by omega)
    obtain ⟨r1, r2⟩ := rdInt_ok hc.1
    unfold plT plN
    simp only [Int.toNat_natCast]
    rw [c2, r1, strp_back, List.takeWhile_append_dropWhile, strp_back]
  · cases h
theorem rdPl_text {p : dPlace} (h : okRef p.1 = true) : rdPl (plT p) = (p, true) := by
  obtain ⟨c, r, fc, fr, rfl, h1, h2, h3, h4⟩ := place_nat h
  obtain ⟨e1, e2, e3, e4⟩ := pl_parts (r := r) h1 h2 fc fr
  show rdPl (plN c r fc fr) = _
  unfold rdPl tailP
  rw [e1, e2, e3, e4, rdCol_colT ⟨c, by omega⟩ h1, valD_dec, if_pos ⟨rdInt_dec (decDig_len h4), h⟩]
theorem rdPl_no {w : Bys} (h : (rdPl w).2 = false) : rdPl w = (p0, false) := by
  unfold rdPl tailP at h ⊢
  split at h
  · cases h
  · rename_i hc
    rw [if_neg hc]
end Go.Proofs.YtiligfmembmapaaGreatDoor.Abs
/- Plain laws: values that are read. -/
set_option linter.unusedVariables false
set_option linter.unusedSimpArgs false
set_option linter.unusedSectionVars false
namespace Go.Proofs.YtiligfmembmapaaGreatDoor.Abs
open Go

def trueB : Bys := [84, 82, 85, 69]
def falseB : Bys := [70, 65, 76, 83, 69]
/-- The error whose name it is; 0: none. -/
def errI (w : Bys) : Int := if errT 5 = ba w then 5 else if errT 4 = ba w then 4 else if errT 3 = ba w then 3 else if errT 2 = ba w then 2 else if errT 1 = ba w then 1 else 0
theorem errI_ok {w : Bys} (h : errI w ≠ 0) : errT (errI w) = ba w ∧ 1 ≤ errI w ∧ errI w ≤ 5 := by
  unfold errI at h ⊢
  split
  · exact ⟨‹_›, by decide, by decide⟩
  · split
    · exact ⟨‹_›, by decide, by decide⟩
    · split
      · exact ⟨‹_›, by decide, by decide⟩
      · split
        · exact ⟨‹_›, by decide, by decide⟩
        · split
          · exact ⟨‹_›, by decide, by decide⟩
          · rename_i h1 h2 h3 h4 h5
            simp [h1, h2, h3, h4, h5] at h
theorem errI_text : ∀ n : Fin 6, 1 ≤ n.val → errI (lb (errT (n.val : Int))) = (n.val : Int) := by decide +kernel
/-! ### The reference's -/
def rdV (w : Bys) : dValue :=
  if w = [] then v0 else
  if w.head? = some 39 then vT (ba (w.drop 1)) else
  if w = trueB then vB true else
  if w = falseB then vB false else
  if w.head? = some 35 then (4, errI w, eS, ()) else
  if w.head? = some 45 then (if rdInt (w.drop 1) 16 = true ∧ valD 0 (w.drop 1) ≠ 0 then vN (-((valD 0 (w.drop 1) : Nat) : Int)) else (9, 0, eS, ())) else
  if rdInt w 16 = true then vN ((valD 0 w : Nat) : Int) else (9, 0, eS, ())
def rdVal (w : Bys) : dValue × Bool := if okVal (rdV w) = true then (rdV w, true) else (v0, false)
theorem p27 {v : dValue} (h : v.2.2.1.size ≤ 9223372036854775807) {a b : Int} {c : ByteArray} : sReadValue_p27 a b c v.1 v.2.1 v.2.2.1 = some ((if okVal v = true then v else v0, okVal v, ()), ()) := by
  rw [sReadValue_p27_eq, show (v.1, v.2.1, v.2.2.1, ()) = v from rfl, sValueOk_ok h]
  simp only [Option.bind_some]
  cases okVal v <;> rfl
theorem p23_step {w : Bys} {n : Int} (h0 : 0 ≤ n) (h1 : n ≤ 5) {a b e N : Int} {c f : ByteArray} : sReadValue_p23 (ba w) n a b c e N f = sReadValue_p23 (ba w) (n + 1) a b c e (if errT n = ba w then n else N) f := by
  rw [sReadValue_p23_eq, ifT h1, sl2Name_ok h0 h1]
  simp only [Option.bind_some, eqS, decide_eq_true_eq]
  rw [wr (by omega) (by omega)]
  split <;> rfl
theorem p23_ok {w : Bys} : sReadValue_p23 (ba w) 1 0 0 eS 4 0 eS = some ((if okVal (4, errI w, eS, ()) = true then (4, errI w, eS, ()) else v0, okVal (4, errI w, eS, ()), ()), ()) := by
  rw [p23_step (by decide) (by decide), p23_step (by decide) (by decide), p23_step (by decide) (by decide), p23_step (by decide) (by decide), p23_step (by decide) (by decide), sReadValue_p23_eq, ifF (by decide)]
  exact p27 (v := (4, errI w, eS, ())) (by show eS.size ≤ _; decide)
theorem sval_num {w : Bys} (hw : w.length ≤ 9223372036854775807) {y : UInt8} {l : Bys} (h : w = y :: l) :
    (if ((y.toNat : Int) == 45) = true then (sll (ba w) 1 fun y5 => ((sl1Int y5 16).bind fun z1 => (if (!z1.1.2.1) = true then (some (((0, 0, (⟨#[]⟩ : ByteArray), ()), false, ()), (()))) else (if ((y.toNat : Int) == 45) = true then (if (z1.1.1 == 0) = true then (some (((0, 0, (⟨#[]⟩ : ByteArray), ()), false, ()), (()))) else (if ((y.toNat : Int) == 45) = true then (sReadValue_p27 0 0 (⟨#[]⟩ : ByteArray) 1 (IntKind.i64.wrap (0 - z1.1.1)) (⟨#[]⟩ : ByteArray)) else (sReadValue_p27 0 0 (⟨#[]⟩ : ByteArray) 1 z1.1.1 (⟨#[]⟩ : ByteArray)))) else (if ((y.toNat : Int) == 45) = true then (sReadValue_p27 0 0 (⟨#[]⟩ : ByteArray) 1 (IntKind.i64.wrap (0 - z1.1.1)) (⟨#[]⟩ : ByteArray)) else (sReadValue_p27 0 0 (⟨#[]⟩ : ByteArray) 1 z1.1.1 (⟨#[]⟩ : ByteArray)))))))
      else ((sl1Int (ba w) 16).bind fun z2 => (if (!z2.1.2.1) = true then (some (((0, 0, (⟨#[]⟩ : ByteArray), ()), false, ()), (()))) else (if ((y.toNat : Int) == 45) = true then (if (z2.1.1 == 0) = true then (some (((0, 0, (⟨#[]⟩ : ByteArray), ()), false, ()), (()))) else (if ((y.toNat : Int) == 45) = true then (sReadValue_p27 0 0 (⟨#[]⟩ : ByteArray) 1 (IntKind.i64.wrap (0 - z2.1.1)) (⟨#[]⟩ : ByteArray)) else (sReadValue_p27 0 0 (⟨#[]⟩ : ByteArray) 1 z2.1.1 (⟨#[]⟩ : ByteArray)))) else (if ((y.toNat : Int) == 45) = true then (sReadValue_p27 0 0 (⟨#[]⟩ : ByteArray) 1 (IntKind.i64.wrap (0 - z2.1.1)) (⟨#[]⟩ : ByteArray)) else (sReadValue_p27 0 0 (⟨#[]⟩ : ByteArray) 1 z2.1.1 (⟨#[]⟩ : ByteArray)))))))
      = (let v : dValue := if w.head? = some 45 then (if rdInt (w.drop 1) 16 = true ∧ valD 0 (w.drop 1) ≠ 0 then vN (-((valD 0 (w.drop 1) : Nat) : Int)) else (9, 0, eS, ())) else if rdInt w 16 = true then vN ((valD 0 w : Nat) : Int) else (9, 0, eS, ())
        some ((if okVal v = true then v else v0, okVal v, ()), ())) := by
  have e9 : okVal (9, 0, eS, ()) = false := by decide
  have hint : ∀ x : Bys, sl1Int (ba x) 16 = _ := fun x => sl1Int_ok x (m := 16) (by decide)
  have hrange : ∀ x : Bys, rdInt x 16 = true → valD 0 x < 10 ^ 16 := by
    intro x hx
    unfold rdInt canB at hx
    simp only [Bool.and_eq_true, decide_eq_true_eq] at hx
    have := valD_lt x 0 hx.1.1.1
    exact Nat.lt_of_lt_of_le (by simpa using this) (Nat.pow_le_pow_right (by decide) hx.2)
  subst h
  by_cases hy : y = 45
  · subst hy
    have e : (((45 : UInt8).toNat : Int) == 45) = true := rfl
    simp only [e, if_true, List.head?_cons, List.drop_succ_cons, List.drop_zero]
    rw [show (1 : Int) = ((1 : Nat) : Int) from rfl, sll_ba (by simp)]
    simp only [List.drop_succ_cons, List.drop_zero, hint, Option.bind_some]
    cases hr : rdInt l 16 with
    | false => simp [e9]; rfl
    | true =>
      have := hrange l hr
      by_cases h0 : valD 0 l = 0
      · simp [h0, e9]; rfl
      · have h0' : ¬ (((valD 0 l : Nat) : Int) == 0) = true := by simp only [beq_iff_eq]; omega
        simp only [Bool.not_true, Bool.false_eq_true, if_false, if_true, h0', ne_eq, h0, not_false_eq_true, and_self]
        rw [wr (by omega) (by omega), show (0 : Int) - ((valD 0 l : Nat) : Int) = -((valD 0 l : Nat) : Int) by omega]
        exact p27 (v := vN _) (by show eS.size ≤ _; decide)
  · have e : ¬ ((y.toNat : Int) == 45) = true := by
      simp only [beq_iff_eq]
      intro e
      apply hy
      apply UInt8.toNat_inj.1
      show y.toNat = 45
      omega
    have e2 : ¬ (some y = some (45 : UInt8)) := by simpa using hy
    simp only [e, if_false, List.head?_cons, e2, hint, Option.bind_some]
    cases hr : rdInt (y :: l) 16 with
    | false => simp [e9]; rfl
    | true =>
      have := hrange _ hr
      simp only [Bool.not_true, Bool.false_eq_true, if_false, if_true]
      exact p27 (v := vN _) (by show eS.size ≤ _; decide)
theorem sReadValue_ok {w : Bys} (hw : w.length ≤ 9223372036854775807) : sReadValue (ba w) = some (((rdVal w).1, (rdVal w).2, ()), ()) := by
  have fin : ∀ v : dValue, rdV w = v → some ((if okVal v = true then v else v0, okVal v, ()), ()) = (some (((rdVal w).1, (rdVal w).2, ()), ()) : Option ((dValue × Bool × Unit) × Unit)) := by
    intro v hv
    unfold rdVal
    rw [hv]
    cases okVal v <;> rfl
  rw [sReadValue_eq]
  have e0 : (ByteArray.toList (ba w) == ByteArray.toList (⟨#[]⟩ : ByteArray)) = decide (w = []) := eqS_ba (b := [])
  have e1 : (ByteArray.toList (ba w) == ByteArray.toList (⟨#[84, 82, 85, 69]⟩ : ByteArray)) = decide (w = trueB) := eqS_ba (b := trueB)
  have e2 : (ByteArray.toList (ba w) == ByteArray.toList (⟨#[70, 65, 76, 83, 69]⟩ : ByteArray)) = decide (w = falseB) := eqS_ba (b := falseB)
  rw [e0, e1, e2]
  cases w with
  | nil =>
    rw [ifT rfl]
    exact fin v0 rfl
  | cons y l =>
    rw [ifF (by simp)]
    simp only [ixs_hd]
    rw [u8eq y 39 (n := 39) rfl, u8eq y 35 (n := 35) rfl]
    have hv := rdV.eq_def (y :: l)
    rw [if_neg (by simp)] at hv
    by_cases h39 : y = 39
    · rw [ifT h39, show (1 : Int) = ((1 : Nat) : Int) from rfl, sll_ba (by simp)]
      rw [if_pos (by rw [h39]; rfl)] at hv
      rw [List.length_cons] at hw
      exact (p27 (v := vT (ba ((y :: l).drop 1))) (by show (ba _).size ≤ _; rw [size_ba]; simp; omega)).trans (fin _ hv)
    · rw [ifF h39]
      rw [if_neg (by simpa using h39)] at hv
      by_cases ht : (y :: l) = trueB
      · rw [if_pos ht] at hv
        rw [ifT ht, ifT ht, ifT ht]
        exact (p27 (v := vB true) (by decide)).trans (fin _ hv)
      · rw [if_neg ht] at hv
        rw [ifF ht]
        by_cases hf : (y :: l) = falseB
        · rw [if_pos hf] at hv
          rw [ifT hf, ifF ht]
          exact (p27 (v := vB false) (by decide)).trans (fin _ hv)
        · rw [if_neg hf] at hv
          rw [ifF hf]
          by_cases h35 : y = 35
          · rw [ifT h35]
            rw [if_pos (by rw [h35]; rfl)] at hv
            exact p23_ok.trans (fin _ hv)
          · rw [ifF h35]
            rw [if_neg (by simpa using h35)] at hv
            exact (sval_num hw rfl).trans (fin _ hv)
/-! ### Its texts -/
theorem itoa_neg' {n : Int} (h : n < 0) : itoaB n = ba (45 :: Lib.decDigits (-n).toNat) := by
  rw [itoaB_neg h, show -n = ((-n).toNat : Int) by omega, itoa_nat, show (⟨#[45]⟩ : ByteArray) = ba [45] from rfl, ba_app]
  congr 2
theorem dec_ne {u : Nat} : Lib.decDigits u ≠ [] ∧ (Lib.decDigits u).head? ≠ some 39 ∧ (Lib.decDigits u).head? ≠ some 35 ∧ (Lib.decDigits u).head? ≠ some 45 ∧ Lib.decDigits u ≠ trueB ∧ Lib.decDigits u ≠ falseB := by
  obtain ⟨y, l, hy, hd⟩ := dec_hd u
  rw [hy]
  have hn : ∀ c : UInt8, dgB c = false → y ≠ c := by
    rintro c hc rfl
    rw [hd] at hc
    cases hc
  refine ⟨by simp, ?_, ?_, ?_, ?_, ?_⟩
  · simpa using hn 39 (by decide)
  · simpa using hn 35 (by decide)
  · simpa using hn 45 (by decide)
  · intro e
    exact hn 84 (by decide) (List.cons.inj e).1
  · intro e
    exact hn 70 (by decide) (List.cons.inj e).1
theorem dec16 {u : Nat} (h : u ≤ 1000000000000000) : (Lib.decDigits u).length ≤ 16 := decLen 15 u (by omega)
theorem okVal_S {v : dValue} (h : okVal v = true) (k : v.1 ≠ 2) : v.2.2.1 = eS := by
  unfold okVal at h
  rw [if_neg k] at h
  simp only [Bool.and_eq_true, decide_eq_true_eq] at h
  exact h.1
theorem okVal_0 {v : dValue} (h : okVal v = true) (k : v.1 = 0) : v.2.1 = 0 := by
  unfold okVal at h
  rw [if_neg (by omega), if_pos k] at h
  simp only [Bool.and_eq_true, decide_eq_true_eq] at h
  exact h.2
theorem okVal_2 {v : dValue} (h : okVal v = true) (k : v.1 = 2) : v.2.1 = 0 := by
  unfold okVal at h
  rw [if_pos k] at h
  simp only [Bool.and_eq_true, decide_eq_true_eq] at h
  exact h.1
/-- The five kinds of right values. -/
theorem okVal_cases {v : dValue} (h : okVal v = true) : v = v0 ∨ (∃ n, v = vN n ∧ -1000000000000000 ≤ n ∧ n ≤ 1000000000000000) ∨ (∃ s, v = vT s) ∨ (∃ b, v = vB b) ∨ ∃ n : Fin 6, v = vE (n.val : Int) ∧ 1 ≤ n.val := by
  obtain ⟨k, n, s, u⟩ := v
  have hS := fun hk => okVal_S h hk
  rcases okVal_kind h with hk | hk | hk | hk | hk <;> simp only at hk <;> subst hk
  · have h0 := okVal_0 h rfl
    have h1 := hS (by show (_ : Int) ≠ 2; omega)
    simp only at h0 h1
    subst h0; subst h1
    exact .inl rfl
  · have h0 := okVal_1 h rfl
    have h1 := hS (by show (_ : Int) ≠ 2; omega)
    simp only at h0 h1
    subst h1
    exact .inr (.inl ⟨n, rfl, h0.1, h0.2⟩)
  · have h0 := okVal_2 h rfl
    simp only at h0
    subst h0
    exact .inr (.inr (.inl ⟨s, rfl⟩))
  · have h0 := okVal_3 h rfl
    have h1 := hS (by show (_ : Int) ≠ 2; omega)
    simp only at h0 h1
    subst h1
    refine .inr (.inr (.inr (.inl ⟨decide (n = 1), ?_⟩)))
    have : n = 0 ∨ n = 1 := by omega
    rcases this with rfl | rfl <;> rfl
  · have h0 := okVal_4 h rfl
    have h1 := hS (by show (_ : Int) ≠ 2; omega)
    simp only at h0 h1
    subst h1
    refine .inr (.inr (.inr (.inr ⟨⟨n.toNat, by omega⟩, ?_, by simp; omega⟩)))
    show _ = vE ((n.toNat : Nat) : Int)
    rw [Int.toNat_of_nonneg (by omega)]
    rfl
theorem rdV_text {v : dValue} (h : okVal v = true) : rdV (lb (valT v)) = v := by
  rcases okVal_cases h with rfl | ⟨n, rfl, h0, h1⟩ | ⟨s, rfl⟩ | ⟨b, rfl⟩ | ⟨n, rfl, h0⟩
  · rfl
  · have e : valT (vN n) = itoaB n := rfl
    rw [e]
    by_cases hn : n < 0
    · rw [itoa_neg' hn, lb_ba]
      have hr : rdInt (Lib.decDigits (-n).toNat) 16 = true := rdInt_dec (dec16 (by omega))
      unfold rdV
      simp only [List.head?_cons, List.drop_succ_cons, List.drop_zero, hr, valD_dec]
      rw [if_neg (by simp), if_neg (by decide), if_neg (by unfold trueB; simp), if_neg (by unfold falseB; simp), if_neg (by decide), if_pos trivial, if_pos ⟨trivial, by omega⟩]
      congr 1
      omega
    · rw [show n = (n.toNat : Int) by omega, itoa_nat, lb_ba]
      have hr : rdInt (Lib.decDigits n.toNat) 16 = true := rdInt_dec (dec16 (by omega))
      obtain ⟨d1, d2, d3, d4, d5, d6⟩ := dec_ne (u := n.toNat)
      unfold rdV
      rw [if_neg d1, if_neg d2, if_neg d5, if_neg d6, if_neg d3, if_neg d4, if_pos hr, valD_dec]
  · have e : lb (valT (vT s)) = 39 :: lb s := by
      show lb ((⟨#[39]⟩ : ByteArray) ++ s) = _
      rw [← ba_lb s, show (⟨#[39]⟩ : ByteArray) = ba [39] from rfl, ba_app, lb_ba]
      simp
    rw [e]
    unfold rdV
    rw [if_neg (by simp), if_pos (by rfl)]
    simp only [List.drop_succ_cons, List.drop_zero, ba_lb]
  · cases b <;> rfl
  · have e : lb (valT (vE (n.val : Int))) = lb (errT (n.val : Int)) := rfl
    rw [e]
    have h1 : ∀ n : Fin 6, 1 ≤ n.val → lb (errT (n.val : Int)) ≠ [] ∧ (lb (errT (n.val : Int))).head? = some 35 ∧ lb (errT (n.val : Int)) ≠ trueB ∧ lb (errT (n.val : Int)) ≠ falseB := by decide +kernel
    obtain ⟨a1, a2, a3, a4⟩ := h1 n h0
    unfold rdV
    rw [if_neg a1, if_neg (by rw [a2]; decide), if_neg a3, if_neg a4, if_pos a2, errI_text n h0]
    rfl
theorem rdVal_text {v : dValue} (h : okVal v = true) : rdVal (lb (valT v)) = (v, true) := by
  unfold rdVal
  rw [rdV_text h, if_pos h]
theorem rdV_ok {w : Bys} (h : okVal (rdV w) = true) : valT (rdV w) = ba w := by
  unfold rdV at h ⊢
  split
  · rename_i hw
    rw [hw]
    rfl
  · rename_i hw
    rw [if_neg hw] at h
    split
    · rename_i h39
      cases w with
      | nil => cases h39
      | cons y l =>
        simp only [List.head?_cons, Option.some.injEq] at h39
        subst h39
        show (⟨#[39]⟩ : ByteArray) ++ ba l = _
        rw [show (⟨#[39]⟩ : ByteArray) = ba [39] from rfl, ba_app]
        rfl
    · rename_i h39
      rw [if_neg h39] at h
      split
      · rename_i ht
        rw [ht]
        rfl
      · rename_i ht
        rw [if_neg ht] at h
        split
        · rename_i hf
          rw [hf]
          rfl
        · rename_i hf
          rw [if_neg hf] at h
          split
          · rename_i h35
            rw [if_pos h35] at h
            have := okVal_4 h rfl
            simp only at this
            exact (errI_ok (by omega)).1
          · rename_i h35
            rw [if_neg h35] at h
            have e9 : okVal (9, 0, eS, ()) = false := by decide
            split
            · rename_i h45
              rw [if_pos h45] at h
              split
              · rename_i hc
                cases w with
                | nil => cases h45
                | cons y l =>
                  simp only [List.head?_cons, Option.some.injEq] at h45
                  subst h45
                  simp only [List.drop_succ_cons, List.drop_zero] at hc ⊢
                  show itoaB (-((valD 0 l : Nat) : Int)) = _
                  rw [itoa_neg' (by omega), show (- -((valD 0 l : Nat) : Int)).toNat = valD 0 l by omega, (rdInt_ok hc.1).1]
              · rename_i hc
                rw [if_neg hc, e9] at h
                cases h
            · rename_i h45
              rw [if_neg h45] at h
              split
              · rename_i hc
                show itoaB ((valD 0 w : Nat) : Int) = _
                rw [itoa_nat, (rdInt_ok hc).1]
              · rename_i hc
                rw [if_neg hc, e9] at h
                cases h
theorem rdVal_ok {w : Bys} (h : (rdVal w).2 = true) : okVal (rdVal w).1 = true ∧ valT (rdVal w).1 = ba w := by
  unfold rdVal at h ⊢
  split at h
  · rename_i hc
    rw [if_pos hc]
    exact ⟨hc, rdV_ok hc⟩
  · cases h
theorem rdVal_no {w : Bys} (h : (rdVal w).2 = false) : rdVal w = (v0, false) := by
  unfold rdVal at h ⊢
  split at h
  · cases h
  · rename_i hc
    rw [if_neg hc]
end Go.Proofs.YtiligfmembmapaaGreatDoor.Abs
/- Plain laws: values that the program reads. -/
set_option linter.unusedVariables false
set_option linter.unusedSimpArgs false
set_option linter.unusedSectionVars false
namespace Go.Proofs.YtiligfmembmapaaGreatDoor.Abs
open Go

theorem valD_ge : ∀ (l : Bys) (a : Nat), a ≤ valD a l
  | [], a => Nat.le_refl _
  | c :: l, a => by
    have := valD_ge l (a * 10 + (c.toNat - 48))
    show a ≤ valD (a * 10 + (c.toNat - 48)) l
    omega
theorem pm_ok : ∀ (l : Bys) (a : Nat), l.all dgB = true → valD a l ≤ 100000000000000000 → Lib.parseUintM 18446744073709551615 a l = .ok (valD a l)
  | [], a, _, _ => rfl
  | c :: l, a, h, hv => by
    simp only [List.all_cons, Bool.and_eq_true] at h
    have hd : 48 ≤ c.toNat ∧ c.toNat ≤ 57 := by simpa [dgB] using h.1
    have hg := valD_ge l (a * 10 + (c.toNat - 48))
    have hv' : valD (a * 10 + (c.toNat - 48)) l ≤ 100000000000000000 := hv
    unfold Lib.parseUintM
    rw [if_pos hd, if_neg (by omega), if_neg (by omega), pm_ok l _ h.2 hv']
    rfl
theorem can_all {l : Bys} (h : canB l = true) : l.all dgB = true := by
  unfold canB at h
  simp only [Bool.and_eq_true] at h
  exact h.1.1
theorem pu_dec {u : Nat} (h : u ≤ 1000000000000000) : Lib.parseUintB 64 (Lib.decDigits u) = .ok u := by
  unfold Lib.parseUintB
  rw [if_neg dec_ne.1]
  have := pm_ok (Lib.decDigits u) 0 (can_all (canB_dec u)) (by rw [valD_dec]; omega)
  rw [valD_dec] at this
  exact this
theorem parseV_dec {u : Nat} (h : u ≤ 1000000000000000) : parseV (Lib.decDigits u) = ((u : Int), true) := by
  obtain ⟨y, l, hy, hd⟩ := dec_hd u
  have hd' : 48 ≤ y.toNat ∧ y.toNat ≤ 57 := by simpa [dgB] using hd
  have hp := pu_dec h
  unfold parseV
  have : Lib.parseIntB 64 (Lib.decDigits u) = .ok (u : Int) := by
    rw [hy] at hp ⊢
    unfold Lib.parseIntB
    simp only
    rw [if_neg (by omega), hp]
    simp only
    rw [if_neg (by omega), if_neg (by omega), if_neg (by omega)]
  rw [this]
theorem parseV_neg {u : Nat} (h : u ≤ 1000000000000000) : parseV (45 :: Lib.decDigits u) = (-(u : Int), true) := by
  have hp := pu_dec h
  unfold parseV
  have : Lib.parseIntB 64 (45 :: Lib.decDigits u) = .ok (-(u : Int)) := by
    unfold Lib.parseIntB
    simp only
    have h45 : (45 : UInt8).toNat = 45 := rfl
    rw [if_pos (.inr h45), hp]
    simp only
    rw [if_neg (by omega), if_neg (by omega), if_pos h45]
  rw [this]
/-- What the program takes a text for. -/
def cV (w : Bys) : dValue :=
  if ([39] : Bys).isPrefixOf w = true then vT (ba (w.drop 1)) else
  if w = falseB then vB (decide (w = trueB)) else
  if w = trueB then vB (decide (w = trueB)) else
  if ([35] : Bys).isPrefixOf w = true then (if errI w = 0 then v0 else vE (errI w)) else
  if w ≠ [] then vN (parseV w).1 else v0
theorem fin_i {v : dValue} {w : Bys} (h : v.2.2.1.size ≤ 9223372036854775807) : ((iValueOk v).bind fun z2 => (if (!z2.1.1) = true then (some (((0, 0, (⟨#[]⟩ : ByteArray), ()), false, ()), (()))) else ((ivalueText v).bind fun z3 => (if (!(ByteArray.toList z3.1.1 == ByteArray.toList (ba w))) = true then (some (((0, 0, (⟨#[]⟩ : ByteArray), ()), false, ()), (()))) else (some ((v, true, ()), (()))))))) = some ((if okVal v = true ∧ valT v = ba w then v else v0, decide (okVal v = true ∧ valT v = ba w), ()), ()) := by
  rw [iValueOk_ok h]
  simp only [Option.bind_some]
  cases ho : okVal v with
  | false => simp; rfl
  | true =>
    rw [ivalueText_ok ho]
    simp only [Option.bind_some, Bool.not_true, Bool.false_eq_true, if_false, eqS, true_and]
    by_cases hv : valT v = ba w
    · simp [hv]
    · simp [hv]; rfl
theorem pick_i {w : Bys} (hc : ∀ v : dValue, okVal v = true → valT v = ba w → cV w = v) : (if okVal (cV w) = true ∧ valT (cV w) = ba w then cV w else v0) = (rdVal w).1 ∧ decide (okVal (cV w) = true ∧ valT (cV w) = ba w) = (rdVal w).2 := by
  by_cases h : okVal (cV w) = true ∧ valT (cV w) = ba w
  · have := rdVal_text h.1
    rw [h.2, lb_ba] at this
    rw [if_pos h, decide_eq_true h, this]
    exact ⟨rfl, rfl⟩
  · rw [if_neg h, decide_eq_false h]
    cases h2 : (rdVal w).2 with
    | false => rw [rdVal_no h2]; exact ⟨rfl, rfl⟩
    | true =>
      obtain ⟨k1, k2⟩ := rdVal_ok h2
      refine absurd ?_ h
      rw [hc _ k1 k2]
      exact ⟨k1, k2⟩
theorem cV_text {v : dValue} (h : okVal v = true) : cV (lb (valT v)) = v := by
  rcases okVal_cases h with rfl | ⟨n, rfl, h0, h1⟩ | ⟨s, rfl⟩ | ⟨b, rfl⟩ | ⟨n, rfl, h0⟩
  · rfl
  · have e : valT (vN n) = itoaB n := rfl
    rw [e]
    by_cases hn : n < 0
    · rw [itoa_neg' hn, lb_ba]
      unfold cV
      rw [if_neg (by simp), if_neg (by unfold falseB; simp), if_neg (by unfold trueB; simp), if_neg (by simp), if_pos (by simp), parseV_neg (by omega)]
      congr 1
      simp only
      omega
    · rw [show n = (n.toNat : Int) by omega, itoa_nat, lb_ba]
      obtain ⟨d1, d2, d3, d4, d5, d6⟩ := dec_ne (u := n.toNat)
      have hp := parseV_dec (u := n.toNat) (by omega)
      obtain ⟨y, l, hy, hd⟩ := dec_hd n.toNat
      rw [hy] at d1 d2 d3 d4 d5 d6 hp ⊢
      unfold cV
      rw [if_neg (by rw [pre1c]; simpa using d2), if_neg d6, if_neg d5, if_neg (by rw [pre1c]; simpa using d3), if_pos d1, hp]
  · have e : lb (valT (vT s)) = 39 :: lb s := by
      show lb ((⟨#[39]⟩ : ByteArray) ++ s) = _
      rw [← ba_lb s, show (⟨#[39]⟩ : ByteArray) = ba [39] from rfl, ba_app, lb_ba]
      simp
    rw [e]
    unfold cV
    rw [if_pos (by simp)]
    simp only [List.drop_succ_cons, List.drop_zero, ba_lb]
  · cases b <;> rfl
  · have e : lb (valT (vE (n.val : Int))) = lb (errT (n.val : Int)) := rfl
    rw [e]
    have h1 : ∀ n : Fin 6, 1 ≤ n.val → ([39] : Bys).isPrefixOf (lb (errT (n.val : Int))) = false ∧ ([35] : Bys).isPrefixOf (lb (errT (n.val : Int))) = true ∧ lb (errT (n.val : Int)) ≠ trueB ∧ lb (errT (n.val : Int)) ≠ falseB := by decide +kernel
    obtain ⟨a1, a2, a3, a4⟩ := h1 n h0
    unfold cV
    rw [if_neg (by rw [a1]; decide), if_neg a4, if_neg a3, if_pos a2, errI_text n h0, if_neg (by omega)]
theorem errI_if {α : Type} (w : Bys) (f : Int → α) (z : α) (hz : z = f 0) : (if errT 5 = ba w then f 5 else if errT 4 = ba w then f 4 else if errT 3 = ba w then f 3 else if errT 2 = ba w then f 2 else if errT 1 = ba w then f 1 else z) = f (errI w) := by
  unfold errI
  subst hz
  repeat' split <;> first | rfl | skip
end Go.Proofs.YtiligfmembmapaaGreatDoor.Abs
/- Plain laws: a formula's signs and words, as both sides read them. -/
set_option linter.unusedVariables false
set_option linter.unusedSimpArgs false
set_option linter.unusedSectionVars false
namespace Go.Proofs.YtiligfmembmapaaGreatDoor.Abs
open Go

def spB (c : UInt8) : Bool := decide (c = 32)
def bl (l : Bys) : Bys := l.dropWhile spB
def wdB (c : UInt8) : Bool := upB c || dgB c || decide (c = 36)
theorem sp_set : (fun c => ([32] : Bys).contains c) = spB := funext fun c => all8 (p := fun c => ([32] : Bys).contains c = spB c) (by decide +kernel) c
theorem wd_set : (fun c => ([65, 66, 67, 68, 69, 70, 71, 72, 73, 74, 75, 76, 77, 78, 79, 80, 81, 82, 83, 84, 85, 86, 87, 88, 89, 90, 48, 49, 50, 51, 52, 53, 54, 55, 56, 57, 36] : Bys).contains c) = wdB := funext fun c => all8 (p := fun c => ([65, 66, 67, 68, 69, 70, 71, 72, 73, 74, 75, 76, 77, 78, 79, 80, 81, 82, 83, 84, 85, 86, 87, 88, 89, 90, 48, 49, 50, 51, 52, 53, 54, 55, 56, 57, 36] : Bys).contains c = wdB c) (by decide +kernel) c
theorem dropW_idem (p : UInt8 → Bool) : ∀ l : Bys, (l.dropWhile p).dropWhile p = l.dropWhile p
  | [] => rfl
  | c :: l => by
    cases h : p c with
    | true => rw [List.dropWhile_cons_of_pos h, dropW_idem p l]
    | false =>
      have h' : ¬ p c = true := by rw [h]; decide
      rw [List.dropWhile_cons_of_neg h', List.dropWhile_cons_of_neg h']
theorem bl_bl (l : Bys) : bl (bl l) = bl l := dropW_idem _ _
theorem bl_suf (l : Bys) : bl l <:+ l := List.dropWhile_suffix _
theorem suf_len {a b : Bys} (h : a <:+ b) : a.length ≤ b.length := h.length_le
/-! ### Signs -/
def sgL : List Bys := [[60, 62], [60, 61], [62, 61], [60], [62], [61], [38], [43], [45], [42], [47], [40], [41], [44], [58]]
def sg (l : Bys) : Bys := (sgL.find? fun p => p.isPrefixOf l).getD []
theorem sg_pre (l : Bys) : (sg l).isPrefixOf l = true := by
  unfold sg
  cases h : sgL.find? fun p => p.isPrefixOf l with
  | none => simp
  | some p =>
    have := List.find?_some h
    simpa using this
theorem pre_len {p l : Bys} (h : p.isPrefixOf l = true) : p.length ≤ l.length := (List.isPrefixOf_iff_prefix.1 h).length_le
/-- The operation whose sign stands there; 0: none. -/
def gO (y : UInt8) (a b : Bool) : Int := if y = 60 then (if a = true then 7 else if b = true then 9 else 8) else if y = 62 then (if b = true then 11 else 10) else if y = 61 then 6 else if y = 38 then 5 else if y = 43 then 1 else if y = 45 then 2 else if y = 42 then 3 else if y = 47 then 4 else 0
def gS (y : UInt8) (a b : Bool) : Bys := if y = 60 then (if a = true then [60, 62] else if b = true then [60, 61] else [60]) else if y = 62 then (if b = true then [62, 61] else [62]) else if y = 61 then [61] else if y = 38 then [38] else if y = 43 then [43] else if y = 45 then [45] else if y = 42 then [42] else if y = 47 then [47] else if y = 40 then [40] else if y = 41 then [41] else if y = 44 then [44] else if y = 58 then [58] else []
def opL (l : Bys) : Int := match l with
  | [] => 0
  | y :: t => gO y (decide (t.head? = some 62)) (decide (t.head? = some 61))
def opT (k : Int) : Bys := ([[], [43], [45], [42], [47], [38], [61], [60, 62], [60], [60, 61], [62], [62, 61]] : List Bys).getD k.toNat []
theorem sg_cons (y : UInt8) (t : Bys) : sg (y :: t) = gS y (decide (t.head? = some 62)) (decide (t.head? = some 61)) := by
  unfold sg sgL
  simp only [List.find?_cons, List.find?_nil, pre1c, pre2]
  generalize decide (t.head? = some 62) = a
  generalize decide (t.head? = some 61) = b
  have : ∀ a b : Bool, (Option.getD (match decide (y = 60) && a with | true => some [60, 62] | false => match decide (y = 60) && b with | true => some [60, 61] | false => match decide (y = 62) && b with | true => some [62, 61] | false => match decide (y = 60) with | true => some [60] | false => match decide (y = 62) with | true => some [62] | false => match decide (y = 61) with | true => some [61] | false => match decide (y = 38) with | true => some [38] | false => match decide (y = 43) with | true => some [43] | false => match decide (y = 45) with | true => some [45] | false => match decide (y = 42) with | true => some [42] | false => match decide (y = 47) with | true => some [47] | false => match decide (y = 40) with | true => some [40] | false => match decide (y = 41) with | true => some [41] | false => match decide (y = 44) with | true => some [44] | false => match decide (y = 58) with | true => some [58] | false => none) [] : Bys) = gS y a b :=
    all8 (p := fun y => ∀ a b : Bool, (Option.getD (match decide (y = 60) && a with | true => some [60, 62] | false => match decide (y = 60) && b with | true => some [60, 61] | false => match decide (y = 62) && b with | true => some [62, 61] | false => match decide (y = 60) with | true => some [60] | false => match decide (y = 62) with | true => some [62] | false => match decide (y = 61) with | true => some [61] | false => match decide (y = 38) with | true => some [38] | false => match decide (y = 43) with | true => some [43] | false => match decide (y = 45) with | true => some [45] | false => match decide (y = 42) with | true => some [42] | false => match decide (y = 47) with | true => some [47] | false => match decide (y = 40) with | true => some [40] | false => match decide (y = 41) with | true => some [41] | false => match decide (y = 44) with | true => some [44] | false => match decide (y = 58) with | true => some [58] | false => none) [] : Bys) = gS y a b) (by decide +kernel) y
  exact this a b
theorem sg_nil : sg [] = [] := by decide
/-- Signs of one byte that no other sign begins with. -/
theorem sg_one {c : UInt8} (hc : c = 45 ∨ c = 40 ∨ c = 41 ∨ c = 44 ∨ c = 58) (l : Bys) : (sg l = [c]) = (l.head? = some c) := by
  apply propext
  constructor
  · intro h
    have := sg_pre l
    rw [h, pre1] at this
    exact of_decide_eq_true this
  · intro h
    cases l with
    | nil => cases h
    | cons y t =>
      simp only [List.head?_cons, Option.some.injEq] at h
      subst h
      rw [sg_cons]
      rcases hc with rfl | rfl | rfl | rfl | rfl <;> rfl
def opS (s : Bys) : Int := if opT 11 = s then 11 else if opT 10 = s then 10 else if opT 9 = s then 9 else if opT 8 = s then 8 else if opT 7 = s then 7 else if opT 6 = s then 6 else if opT 5 = s then 5 else if opT 4 = s then 4 else if opT 3 = s then 3 else if opT 2 = s then 2 else if opT 1 = s then 1 else 0
theorem gS_all (y : UInt8) : ∀ a b : Bool, opS (gS y a b) = gO y a b ∧ (gO y a b ≠ 0 → gS y a b = opT (gO y a b)) ∧ 0 ≤ gO y a b ∧ gO y a b ≤ 11 :=
  all8 (p := fun y => ∀ a b : Bool, opS (gS y a b) = gO y a b ∧ (gO y a b ≠ 0 → gS y a b = opT (gO y a b)) ∧ 0 ≤ gO y a b ∧ gO y a b ≤ 11) (by decide +kernel) y
theorem opS_sg (l : Bys) : opS (sg l) = opL l := by
  cases l with
  | nil => decide
  | cons y t =>
    rw [sg_cons]
    exact (gS_all y _ _).1
theorem opL_text {l : Bys} (h : opL l ≠ 0) : sg l = opT (opL l) := by
  cases l with
  | nil => exact absurd rfl h
  | cons y t =>
    rw [sg_cons]
    exact (gS_all y _ _).2.1 h
theorem opL_range (l : Bys) : 0 ≤ opL l ∧ opL l ≤ 11 := by
  cases l with
  | nil => decide
  | cons y t => exact (gS_all y _ _).2.2
theorem sl3Sign_ok {k : Int} (h0 : 0 ≤ k) (h1 : k ≤ 11) : sl3Sign k = some ((ba (opT k), ()), ()) := by
  rw [sl3Sign_eq, inb_ok h0 (by show k < 12; omega)]
  have : ∀ k : Fin 12, List.getD ([(⟨#[]⟩ : ByteArray), (⟨#[43]⟩ : ByteArray), (⟨#[45]⟩ : ByteArray), (⟨#[42]⟩ : ByteArray), (⟨#[47]⟩ : ByteArray), (⟨#[38]⟩ : ByteArray), (⟨#[61]⟩ : ByteArray), (⟨#[60, 62]⟩ : ByteArray), (⟨#[60]⟩ : ByteArray), (⟨#[60, 61]⟩ : ByteArray), (⟨#[62]⟩ : ByteArray), (⟨#[62, 61]⟩ : ByteArray)] : (List ByteArray)) k.val (⟨#[]⟩ : ByteArray) = ba (opT (k.val : Int)) := by decide +kernel
  have h := this ⟨k.toNat, by omega⟩
  simp only [Int.toNat_of_nonneg h0] at h
  rw [h]
/-! ### The operation that comes next, as the program finds it -/
/-! ### The reference's place in the text -/
/-- Where in s what is left begins. -/
def at' (s l : Bys) : Int := (s.length : Int) - (l.length : Int)
theorem at_split {s l : Bys} (h : l <:+ s) : ∃ pre, s = pre ++ l ∧ at' s l = (pre.length : Int) := by
  obtain ⟨pre, h⟩ := h
  refine ⟨pre, h.symm, ?_⟩
  unfold at'
  rw [← h, List.length_append]
  omega
theorem sblanks_ok {s : Bys} {b : Bool} {ns : List dFNode} (hs : s.length ≤ 1000) : ∀ (l : Bys), l <:+ s → sl3Rd_blanks_p0 (ba s) (at' s l) b ns = some ((), ((ba s, at' s (bl l), b, ns, ()), ()))
  | [], h => by
    rw [sl3Rd_blanks_p0_eq, ifF (by rw [size_ba]; unfold at'; simp)]
    rfl
  | c :: l, h => by
    obtain ⟨pre, h1, h2⟩ := at_split h
    have hl : pre.length < s.length := by rw [h1]; simp
    rw [sl3Rd_blanks_p0_eq, h2, ifT (by rw [size_ba]; omega), ixs_ba h1]
    by_cases hc : c = 32
    · subst hc
      have hl' : l <:+ s := List.IsSuffix.trans (List.suffix_cons _ _) h
      rw [if_pos (by rfl), wr (by omega) (by omega)]
      have e : (pre.length : Int) + 1 = at' s l := by
        rw [← h2]
        unfold at'
        rw [List.length_cons]
        omega
      rw [e, sblanks_ok hs l hl']
      rfl
    · have h0' : ¬ ((c.toNat : Int) == 32) = true := by
        simp only [beq_iff_eq]
        intro e
        apply hc
        apply UInt8.toNat_inj.1
        show c.toNat = 32
        omega
      rw [if_neg h0', ← h2]
      have : bl (c :: l) = c :: l := List.dropWhile_cons_of_neg (by simp [spB, hc])
      rw [this]
theorem sblk {s l : Bys} {b : Bool} {ns : List dFNode} (hs : s.length ≤ 1000) (h : l <:+ s) : sl3Rd_blanks (ba s) (at' s l) b ns = some ((), ((ba s, at' s (bl l), b, ns, ()), ())) := by
  rw [sl3Rd_blanks_eq]
  exact sblanks_ok hs l h
theorem suf_trans {a b c : Bys} (h : a <:+ b) (k : b <:+ c) : a <:+ c := List.IsSuffix.trans h k
theorem drop_suf (n : Nat) (l : Bys) : l.drop n <:+ l := List.drop_suffix n l
theorem sis_ok {s l w : Bys} {b : Bool} {ns : List dFNode} (hs : s.length ≤ 1000) (hw : w.length ≤ 1000) (h : l <:+ s) :
    sl3Rd_is (ba w) (ba s) (at' s l) b ns = some (((!b && w.isPrefixOf (bl l)), ()), ((ba s, at' s (if (!b && w.isPrefixOf (bl l)) = true then (bl l).drop w.length else bl l), b, ns, ()), ())) := by
  have hb := suf_trans (bl_suf l) h
  rw [sl3Rd_is_eq, sblk hs h]
  simp only [Option.bind_some]
  cases b with
  | true => rfl
  | false =>
    simp only [Bool.false_eq_true, if_false, Bool.not_false, Bool.true_and, size_ba]
    generalize bl l = m at hb
    obtain ⟨pre, h1, h2⟩ := at_split hb
    have hl : pre.length + m.length = s.length := by rw [h1]; simp
    rw [h2, wr (by omega) (by omega)]
    by_cases hm : w.length ≤ m.length
    · rw [ifF (by omega), show (pre.length : Int) + (w.length : Int) = ((pre.length + w.length : Nat) : Int) by omega, slx_ba (by omega) (by omega), eqS_ba]
      have e : (s.take (pre.length + w.length)).drop pre.length = m.take w.length := by
        rw [h1, List.take_append, List.drop_append]
        simp
      rw [e]
      have e2 : decide (m.take w.length = w) = w.isPrefixOf m := by
        rw [Bool.eq_iff_iff, decide_eq_true_eq, List.isPrefixOf_iff_prefix, List.prefix_iff_eq_take]
        exact eq_comm
      rw [e2]
      cases w.isPrefixOf m with
      | true =>
        simp only [Bool.not_true, Bool.false_eq_true, if_false, if_true]
        have e5 : ((pre.length + w.length : Nat) : Int) = at' s (m.drop w.length) := by
          unfold at'
          rw [List.length_drop]
          omega
        rw [e5]
      | false =>
        simp only [Bool.not_false, if_true, Bool.false_eq_true, if_false]
        rw [h2]
    · rw [ifT (by omega)]
      have e2 : w.isPrefixOf m = false := by
        rw [Bool.eq_false_iff]
        intro hp
        exact hm (pre_len hp)
      rw [e2]
      simp only [Bool.false_eq_true, if_false]
      rw [h2]
/-! ### Words -/
theorem sword_end {s pre l : Bys} {w : Nat} {b : Bool} {ns : List dFNode} (h : s = pre ++ l) (hw : w ≤ pre.length) :
    (slx (ba s) (w : Int) (pre.length : Int) fun y6 => (some ((y6, ()), ((ba s, (pre.length : Int), b, ns, ()), ())))) = (some ((ba (pre.drop w), ()), ((ba s, at' s l, b, ns, ()), ())) : Option ((ByteArray × Unit) × (ds_l3Rd × Unit))) := by
  have hl : pre.length + l.length = s.length := by rw [h]; simp
  rw [slx_ba hw (by omega)]
  congr 3
  · congr 1
    rw [h, List.take_left' rfl]
  · unfold at'
    congr 3
    omega
theorem sword_loop {s : Bys} {b : Bool} {ns : List dFNode} (hs : s.length ≤ 1000) {w : Nat} : ∀ (l pre : Bys), s = pre ++ l → w ≤ pre.length → sl3Rd_word_p2 (w : Int) (ba s) (pre.length : Int) b ns = some ((ba (pre.drop w ++ l.takeWhile wdB), ()), ((ba s, at' s (l.dropWhile wdB), b, ns, ()), ()))
  | [], pre, h, hw => by
    have hl : pre.length = s.length := by rw [h]; simp
    rw [sl3Rd_word_p2_eq, ifF (by rw [size_ba]; omega)]
    simpa using sword_end (b := b) (ns := ns) h hw
  | y :: l, pre, h, hw => by
    have hl : pre.length < s.length := by rw [h]; simp
    have ih := sword_loop (b := b) (ns := ns) hs (w := w) l (pre ++ [y]) (by rw [h]; simp) (by rw [List.length_append]; omega)
    rw [show ((pre ++ [y]).length : Int) = (pre.length : Int) + 1 by simp, List.drop_append_of_le_length hw] at ih
    have he := sword_end (b := b) (ns := ns) h hw
    rw [sl3Rd_word_p2_eq, ifT (by rw [size_ba]; omega)]
    simp only [ixs_ba h]
    rw [wr (by omega) (by omega)]
    have h36 : ((y.toNat : Int) == 36) = decide (y = 36) := by
      rw [Bool.eq_iff_iff, beq_iff_eq, decide_eq_true_eq]
      constructor
      · intro e
        apply UInt8.toNat_inj.1
        show y.toNat = 36
        omega
      · rintro rfl
        rfl
    rw [h36]
    cases hy : wdB y with
    | true =>
      have e1 : (y :: l).takeWhile wdB = y :: l.takeWhile wdB := List.takeWhile_cons_of_pos hy
      have e2 : (y :: l).dropWhile wdB = l.dropWhile wdB := List.dropWhile_cons_of_pos hy
      rw [e1, e2]
      have e3 : pre.drop w ++ y :: l.takeWhile wdB = pre.drop w ++ [y] ++ l.takeWhile wdB := by simp
      rw [e3, ← ih]
      simp only [wdB, upB, dgB, Bool.or_eq_true, Bool.and_eq_true, decide_eq_true_eq] at hy
      by_cases c1 : 65 ≤ y.toNat
      · rw [ifT (by omega)]
        by_cases c2 : y.toNat ≤ 90
        · rw [ifT (by omega)]
        · rw [ifF (by omega), ifT (by omega), ifF (by omega)]
          exfalso
          rcases hy with (hy | hy) | rfl
          · omega
          · omega
          · exact absurd c1 (by decide)
      · rw [ifF (by omega)]
        by_cases c3 : 48 ≤ y.toNat
        · rw [ifT (by omega)]
          by_cases c4 : y.toNat ≤ 57
          · rw [ifT (by omega)]
          · rw [ifF (by omega)]
            exfalso
            rcases hy with (hy | hy) | rfl
            · omega
            · omega
            · exact absurd c3 (by decide)
        · rw [ifF (by omega)]
          have : y = 36 := by
            rcases hy with (hy | hy) | hy
            · omega
            · omega
            · exact hy
          rw [ifT this]
    | false =>
      have e1 : (y :: l).takeWhile wdB = [] := List.takeWhile_cons_of_neg (by rw [hy]; decide)
      have e2 : (y :: l).dropWhile wdB = y :: l := List.dropWhile_cons_of_neg (by rw [hy]; decide)
      rw [e1, e2, List.append_nil, ← he]
      simp only [wdB, upB, dgB, Bool.or_eq_false_iff, Bool.and_eq_false_iff, decide_eq_false_iff_not] at hy
      obtain ⟨⟨k1, k2⟩, k3⟩ := hy
      by_cases c1 : 65 ≤ y.toNat
      · rw [ifT (by omega), ifF (by omega), ifT (by omega), ifF (by omega), ifF k3]
      · rw [ifF (by omega)]
        by_cases c3 : 48 ≤ y.toNat
        · rw [ifT (by omega), ifF (by omega), ifF k3]
        · rw [ifF (by omega), ifF k3]
theorem sword_ok {s l : Bys} {b : Bool} {ns : List dFNode} (hs : s.length ≤ 1000) (h : l <:+ s) : sl3Rd_word (ba s) (at' s l) b ns = some ((ba (l.takeWhile wdB), ()), ((ba s, at' s (l.dropWhile wdB), b, ns, ()), ())) := by
  obtain ⟨pre, h1, h2⟩ := at_split h
  rw [sl3Rd_word_eq, h2, sword_loop hs l pre h1 (Nat.le_refl _)]
  simp
end Go.Proofs.YtiligfmembmapaaGreatDoor.Abs
/- Plain laws: operations, quoted texts, names of errors and functions, as both sides read them. -/
set_option linter.unusedVariables false
set_option linter.unusedSimpArgs false
set_option linter.unusedSectionVars false
namespace Go.Proofs.YtiligfmembmapaaGreatDoor.Abs
open Go

/-! ### The operation of a level, as the reference finds it -/
def lvI (k : Int) : Int := if k ≥ 6 then 1 else if k = 5 then 2 else if k ≥ 3 then 4 else 3
theorem sl3Level_ok (k : Int) : sl3Level k = some ((lvI k, ()), ()) := by
  rw [sl3Level_eq]
  unfold lvI
  simp only [decide_eq_true_eq, beq_iff_eq]
  repeat' split
  all_goals first | rfl | omega
abbrev opK : List Int := [7, 9, 11, 6, 8, 10, 1, 2, 3, 4, 5]
def opP (L : Int) (m : Bys) (k : Int) : Bool := decide (lvI k = L) && (opT k).isPrefixOf m
theorem opT_len (k : Int) : (opT k).length ≤ 2 := by
  unfold opT
  have : ∀ i : Nat, (([[], [43], [45], [42], [47], [38], [61], [60, 62], [60], [60, 61], [62], [62, 61]] : List Bys).getD i []).length ≤ 2 := by
    intro i
    by_cases hi : i < 12
    · have h : ∀ j : Fin 12, (([[], [43], [45], [42], [47], [38], [61], [60, 62], [60], [60, 61], [62], [62, 61]] : List Bys).getD j.val []).length ≤ 2 := by decide
      exact h ⟨i, hi⟩
    · rw [List.getD_eq_getElem?_getD, List.getElem?_eq_none (by simp; omega)]
      simp
  exact this _
section
variable {s : Bys} {ns : List dFNode} {L : Int}
/-- What the search says, at a place behind blanks or ahead of them. -/
def opRes (s l l' : Bys) (ns : List dFNode) : Option Int → Option ((Int × Unit) × (ds_l3Rd × Unit))
  | some k => some ((k, ()), ((ba s, at' s ((bl l).drop (opT k).length), false, ns, ()), ()))
  | none => some ((0, ()), ((ba s, at' s l', false, ns, ()), ()))
theorem getK {pre ys : List Int} {k : Int} (h : opK = pre ++ k :: ys) : List.getD opK (Int.toNat (pre.length : Int)) 0 = k := by rw [h]; exact getD_at
theorem opK_range {k : Int} (h : k ∈ opK) : 1 ≤ k ∧ k ≤ 11 := by
  have : ∀ k ∈ opK, 1 ≤ k ∧ k ≤ 11 := by decide
  exact this k h
theorem sop_loop' (hs : s.length ≤ 1000) : ∀ (ys pre : List Int) (l : Bys), opK = pre ++ ys → l <:+ s → ∃ l', (l' = l ∨ l' = bl l) ∧ sl3Rd_op_p3' L (pre.length : Int) (ba s) (at' s l) false opK ns = opRes s l l' ns (ys.find? (opP L (bl l)))
  | [], pre, l, h, hl => by
    refine ⟨l, .inl rfl, ?_⟩
    rw [sl3Rd_op_p3'_eq, ifF (nlt_at h)]
    rfl
  | k :: ys, pre, l, h, hl => by
    have hk := opK_range (k := k) (by rw [h]; simp)
    rw [sl3Rd_op_p3'_eq, ifT (lt_at h), inb_at h, getK h, sl3Level_ok]
    simp only [Option.bind_some, List.find?_cons, beq_iff_eq]
    by_cases hL : lvI k = L
    · rw [if_pos hL, inb_at h, sl3Sign_ok (by omega) (by omega)]
      simp only [Option.bind_some]
      have := opT_len k
      rw [sis_ok hs (by omega) hl]
      simp only [Option.bind_some, Bool.not_false, Bool.true_and]
      cases hp : (opT k).isPrefixOf (bl l) with
      | true =>
        simp only [if_true, opP, hL, decide_true, Bool.true_and, hp]
        rw [inb_at h]
        exact ⟨l, .inl rfl, rfl⟩
      | false =>
        simp only [Bool.false_eq_true, if_false, opP, hL, decide_true, Bool.true_and, hp]
        rw [wrap_at h (by decide)]
        obtain ⟨l', h1, h2⟩ := sop_loop' hs ys (pre ++ [k]) (bl l) (next_at h) (suf_trans (bl_suf l) hl)
        rw [bl_bl] at h1 h2
        refine ⟨l', .inr (by simpa using h1), ?_⟩
        rw [h2]
        unfold opRes
        rw [bl_bl]
    · rw [if_neg hL, wrap_at h (by decide)]
      obtain ⟨l', h1, h2⟩ := sop_loop' hs ys (pre ++ [k]) l (next_at h) hl
      refine ⟨l', h1, ?_⟩
      rw [h2]
      simp [opP, hL]
theorem sop_loop (hs : s.length ≤ 1000) : ∀ (ys pre : List Int) (l : Bys), opK = pre ++ ys → l <:+ s → ∃ l', (l' = l ∨ l' = bl l) ∧ sl3Rd_op_p3 L (pre.length : Int) (ba s) (at' s l) false ns opK = opRes s l l' ns (ys.find? (opP L (bl l)))
  | [], pre, l, h, hl => by
    refine ⟨l, .inl rfl, ?_⟩
    rw [sl3Rd_op_p3_eq, ifF (nlt_at h)]
    rfl
  | k :: ys, pre, l, h, hl => by
    have hk := opK_range (k := k) (by rw [h]; simp)
    rw [sl3Rd_op_p3_eq, ifT (lt_at h), inb_at h, getK h, sl3Level_ok]
    simp only [Option.bind_some, List.find?_cons, beq_iff_eq]
    by_cases hL : lvI k = L
    · rw [if_pos hL, inb_at h, sl3Sign_ok (by omega) (by omega)]
      simp only [Option.bind_some]
      have := opT_len k
      rw [sis_ok hs (by omega) hl]
      simp only [Option.bind_some, Bool.not_false, Bool.true_and]
      cases hp : (opT k).isPrefixOf (bl l) with
      | true =>
        simp only [if_true, opP, hL, decide_true, Bool.true_and, hp]
        rw [inb_at h]
        exact ⟨l, .inl rfl, rfl⟩
      | false =>
        simp only [Bool.false_eq_true, if_false, opP, hL, decide_true, Bool.true_and, hp]
        rw [wrap_at h (by decide)]
        obtain ⟨l', h1, h2⟩ := sop_loop' (L := L) (ns := ns) hs ys (pre ++ [k]) (bl l) (next_at h) (suf_trans (bl_suf l) hl)
        rw [bl_bl] at h1 h2
        refine ⟨l', .inr (by simpa using h1), ?_⟩
        rw [h2]
        unfold opRes
        rw [bl_bl]
    · rw [if_neg hL, wrap_at h (by decide)]
      obtain ⟨l', h1, h2⟩ := sop_loop hs ys (pre ++ [k]) l (next_at h) hl
      refine ⟨l', h1, ?_⟩
      rw [h2]
      simp [opP, hL]
end
theorem find_congr {α : Type} {p q : α → Bool} : ∀ {l : List α}, (∀ x ∈ l, p x = q x) → l.find? p = l.find? q
  | [], _ => rfl
  | x :: l, h => by
    rw [List.find?_cons, List.find?_cons, h x (by simp), find_congr (fun y hy => h y (List.mem_cons_of_mem _ hy))]
def pS (k : Int) (y : UInt8) (a b : Bool) : Bool := if k = 7 then decide (y = 60) && a else if k = 9 then decide (y = 60) && b else if k = 11 then decide (y = 62) && b else if k = 6 then decide (y = 61) else if k = 8 then decide (y = 60) else if k = 10 then decide (y = 62) else if k = 1 then decide (y = 43) else if k = 2 then decide (y = 45) else if k = 3 then decide (y = 42) else if k = 4 then decide (y = 47) else decide (y = 38)
theorem pS_ok (y : UInt8) (t : Bys) : ∀ k ∈ opK, (opT k).isPrefixOf (y :: t) = pS k y (decide (t.head? = some 62)) (decide (t.head? = some 61)) := by
  intro k hk
  have : k = 7 ∨ k = 9 ∨ k = 11 ∨ k = 6 ∨ k = 8 ∨ k = 10 ∨ k = 1 ∨ k = 2 ∨ k = 3 ∨ k = 4 ∨ k = 5 := by simpa using hk
  rcases this with rfl | rfl | rfl | rfl | rfl | rfl | rfl | rfl | rfl | rfl | rfl
  · exact pre2 y t 60 62
  · exact pre2 y t 60 61
  · exact pre2 y t 62 61
  · exact pre1c y t 61
  · exact pre1c y t 60
  · exact pre1c y t 62
  · exact pre1c y t 43
  · exact pre1c y t 45
  · exact pre1c y t 42
  · exact pre1c y t 47
  · exact pre1c y t 38
def fS (L : Int) (y : UInt8) (a b : Bool) : Prop := opK.find? (fun k => decide (lvI k = L) && pS k y a b) = if gO y a b ≠ 0 ∧ lvI (gO y a b) = L then some (gO y a b) else none
instance (L : Int) (y : UInt8) (a b : Bool) : Decidable (fS L y a b) := by unfold fS; infer_instance
theorem fS_all (y : UInt8) : ∀ a b : Bool, fS 1 y a b ∧ fS 2 y a b ∧ fS 3 y a b ∧ fS 4 y a b :=
  all8 (p := fun y => ∀ a b : Bool, fS 1 y a b ∧ fS 2 y a b ∧ fS 3 y a b ∧ fS 4 y a b) (by decide +kernel) y
theorem sop_find {L : Int} (hL : L = 1 ∨ L = 2 ∨ L = 3 ∨ L = 4) (m : Bys) : opK.find? (opP L m) = if opL m ≠ 0 ∧ lvI (opL m) = L then some (opL m) else none := by
  cases m with
  | nil =>
    have : ∀ k ∈ opK, (opT k).isPrefixOf ([] : Bys) = false := by decide
    have h0 : opL ([] : Bys) = 0 := rfl
    rw [h0, if_neg (by simp), List.find?_eq_none]
    intro k hk
    unfold opP
    rw [this k hk, Bool.and_false]
    decide
  | cons y t =>
    have e : opK.find? (opP L (y :: t)) = opK.find? (fun k => decide (lvI k = L) && pS k y (decide (t.head? = some 62)) (decide (t.head? = some 61))) := find_congr fun k hk => by
      unfold opP
      rw [pS_ok y t k hk]
    rw [e]
    obtain ⟨h1, h2, h3, h4⟩ := fS_all y (decide (t.head? = some 62)) (decide (t.head? = some 61))
    rcases hL with rfl | rfl | rfl | rfl
    · exact h1
    · exact h2
    · exact h3
    · exact h4
theorem sop_ok {s l : Bys} {ns : List dFNode} {L : Int} (hs : s.length ≤ 1000) (hL : L = 1 ∨ L = 2 ∨ L = 3 ∨ L = 4) (h : l <:+ s) :
    ∃ l', (l' = l ∨ l' = bl l) ∧ sl3Rd_op L (ba s) (at' s l) false ns = opRes s l l' ns (if opL (bl l) ≠ 0 ∧ lvI (opL (bl l)) = L then some (opL (bl l)) else none) := by
  rw [sl3Rd_op_eq, ← sop_find hL]
  exact sop_loop hs opK [] l rfl h
/-! ### Nodes that are put behind -/
theorem sadd_ok {x : dFNode} {s : Bys} {a : Int} {b : Bool} {ns : List dFNode} (hn : ns.length ≤ 1000) (hx : x.2.2.1.2.2.1.size ≤ 9223372036854775807) :
    sl3Rd_add x (ba s) a b ns = some (((ns.length : Int), ()), ((ba s, a, (b || decide (60 ≤ ns.length) || !okNode x), ns ++ [x], ()), ())) := by
  rw [sl3Rd_add_eq, app_ok (by simp only [List.length_singleton]; omega)]
  have e : IntKind.i64.wrap (((ns ++ [x]).length : Int) - 1) = (ns.length : Int) := by
    rw [List.length_append, List.length_singleton, wr (by omega) (by omega)]
    omega
  rw [e, sl3NodeOk_ok hx]
  simp only [Option.bind_some]
  by_cases h : 60 ≤ ns.length
  · rw [ifT (by rw [List.length_append, List.length_singleton]; omega)]
    simp [h]
  · rw [ifF (by rw [List.length_append, List.length_singleton]; omega)]
    cases okNode x <;> simp [h]
end Go.Proofs.YtiligfmembmapaaGreatDoor.Abs
/- Plain laws: quoted texts, names of errors and of functions, areas: what both sides read. -/
set_option linter.unusedVariables false
set_option linter.unusedSimpArgs false
set_option linter.unusedSectionVars false
namespace Go.Proofs.YtiligfmembmapaaGreatDoor.Abs
open Go

/-! ### Cuts -/
theorem ixB_hit (c : UInt8) (t : Bys) : ∀ pre : Bys, c ∉ pre → Lib.indexByte (pre ++ c :: t) c = (pre.length : Int)
  | [], _ => by simp [Lib.indexByte]
  | b :: pre, h => by
    simp only [List.mem_cons, not_or] at h
    have hb : ¬ b = c := fun e => h.1 e.symm
    have ih := ixB_hit c t pre h.2
    simp only [List.cons_append, Lib.indexByte, ih]
    have : ¬ ((pre.length : Int) = -1) := by omega
    simp [hb, this]
theorem ixB_miss (c : UInt8) : ∀ pre : Bys, c ∉ pre → Lib.indexByte pre c = -1
  | [], _ => rfl
  | b :: pre, h => by
    simp only [List.mem_cons, not_or] at h
    have hb : ¬ b = c := fun e => h.1 e.symm
    simp only [Lib.indexByte, ixB_miss c pre h.2]
    simp [hb]
theorem cut_hit {c : UInt8} {pre t : Bys} (h : c ∉ pre) : Lib.cut (pre ++ c :: t) [c] = (pre, t, true) := by
  unfold Lib.cut
  rw [Lib.index_one, ixB_hit c t pre h, if_pos (by omega)]
  simp only [Int.toNat_natCast, List.length_singleton, Prod.mk.injEq, and_true]
  refine ⟨List.take_left' rfl, ?_⟩
  have : pre ++ c :: t = (pre ++ [c]) ++ t := by simp
  rw [this, List.drop_left' (by simp)]
theorem cut_miss {c : UInt8} {s : Bys} (h : c ∉ s) : Lib.cut s [c] = (s, [], false) := by
  unfold Lib.cut
  rw [Lib.index_one, ixB_miss c s h, if_neg (by omega)]
/-- The first place of a byte. -/
theorem split_at (c : UInt8) : ∀ s : Bys, c ∈ s → ∃ pre t, s = pre ++ c :: t ∧ c ∉ pre
  | b :: s, h => by
    by_cases hb : b = c
    · exact ⟨[], s, by rw [hb]; rfl, by simp⟩
    · obtain ⟨pre, t, h1, h2⟩ := split_at c s (by rcases List.mem_cons.1 h with e | e; exact absurd e.symm hb; exact e)
      exact ⟨b :: pre, t, by rw [h1]; rfl, by simp only [List.mem_cons, not_or]; exact ⟨Ne.symm hb, h2⟩⟩
/-! ### Texts in quotes -/
/-- What stands ahead of the closing quote, and what stands behind it. -/
def qt : Bys → Option (Bys × Bys)
  | [] => none
  | c :: l => if c = 34 then (match l with
      | [] => some ([], [])
      | d :: l' => if d = 34 then (qt l').map (fun p => (34 :: p.1, p.2)) else some ([], d :: l'))
    else (qt l).map fun p => (c :: p.1, p.2)
theorem qt_other {c : UInt8} {l : Bys} (h : c ≠ 34) : qt (c :: l) = (qt l).map fun p => (c :: p.1, p.2) := by
  rw [qt.eq_def]
  simp only [if_neg h]
theorem qt_end : qt [34] = some ([], []) := by
  rw [qt.eq_def]
  rfl
theorem qt_two {l : Bys} : qt (34 :: 34 :: l) = (qt l).map fun p => (34 :: p.1, p.2) := by
  rw [qt.eq_def]
  rfl
theorem qt_stop {d : UInt8} {l : Bys} (h : d ≠ 34) : qt (34 :: d :: l) = some ([], d :: l) := by
  rw [qt.eq_def]
  simp only [if_true, if_neg h]
theorem qt_pre (l : Bys) : ∀ pre : Bys, (34 : UInt8) ∉ pre → qt (pre ++ l) = (qt l).map fun p => (pre ++ p.1, p.2)
  | [], _ => by simp
  | b :: pre, h => by
    simp only [List.mem_cons, not_or] at h
    have hb : ¬ b = 34 := fun e => h.1 e.symm
    rw [List.cons_append, qt_other hb, qt_pre l pre h.2, Option.map_map]
    rfl
theorem qt_none {s : Bys} (h : (34 : UInt8) ∉ s) : qt s = none := by
  have := qt_pre [] s h
  rw [List.append_nil] at this
  rw [this]
  rfl
theorem qt_suf : ∀ (l t r : Bys), qt l = some (t, r) → r <:+ l ∧ t.length ≤ l.length ∧ r.length < l.length := by
  intro l
  induction hn : l.length using Nat.strongRecOn generalizing l with
  | ind n ih =>
    intro t r h
    subst hn
    cases l with
    | nil => cases h
    | cons c l =>
      by_cases hc : c = 34
      · subst hc
        cases l with
        | nil =>
          rw [qt_end] at h
          cases h
          exact ⟨⟨[34], rfl⟩, by simp, by simp⟩
        | cons d l' =>
          by_cases hd : d = 34
          · subst hd
            rw [qt_two, Option.map_eq_some_iff] at h
            obtain ⟨⟨t', r'⟩, h1, h2⟩ := h
            cases h2
            obtain ⟨k1, k2, k3⟩ := ih l'.length (by simp only [List.length_cons]; omega) l' rfl t' r' h1
            refine ⟨suf_trans k1 ⟨[34, 34], rfl⟩, ?_, ?_⟩
            · simp only [List.length_cons]; omega
            · simp only [List.length_cons]; omega
          · rw [qt_stop hd] at h
            cases h
            exact ⟨⟨[34], rfl⟩, by simp, by simp⟩
      · rw [qt_other hc, Option.map_eq_some_iff] at h
        obtain ⟨⟨t', r'⟩, h1, h2⟩ := h
        cases h2
        obtain ⟨k1, k2, k3⟩ := ih l.length (by simp) l rfl t' r' h1
        refine ⟨suf_trans k1 ⟨[c], rfl⟩, ?_, ?_⟩
        · simp only [List.length_cons]; omega
        · simp only [List.length_cons]; omega
/-- A constant's node. -/
abbrev nC (v : dValue) : dFNode := (1, 0, v, ((0, 0, ()), false, false, ()), ((0, 0, ()), false, false, ()), ([] : (List Int)), ())
theorem scall_id {F : Option ((Int × Unit) × (ds_l3Rd × Unit))} : (F.bind fun z3 => (some ((z3.1.1, ()), (z3.2.1, ())))) = F := by
  cases F with
  | none => rfl
  | some z => rfl
noncomputable def sQ (acc s : Bys) (b : Bool) (ns : List dFNode) : Option (Bys × Bys) → Option ((Int × Unit) × (ds_l3Rd × Unit))
  | none => some ((0, ()), ((ba s, at' s [], true, ns, ()), ()))
  | some p => sl3Rd_add (nC (2, 0, ba (acc ++ p.1), ())) (ba s) (at' s p.2) b ns
theorem stext_loop {s : Bys} {b : Bool} {ns : List dFNode} (hs : s.length ≤ 900) : ∀ (l acc : Bys), l <:+ s → acc.length + l.length ≤ 1000 → sl3Rd_text_p2 (ba acc) (ba s) (at' s l) b ns = sQ acc s b ns (qt l) := by
  intro l
  induction hn : l.length using Nat.strongRecOn generalizing l with
  | ind n ih =>
    intro acc h ha
    subst hn
    rw [sl3Rd_text_p2_eq]
    cases l with
    | nil =>
      rw [ifF (by rw [size_ba]; unfold at'; simp)]
      rfl
    | cons c l =>
      obtain ⟨pre, h1, h2⟩ := at_split h
      have hl : pre.length + l.length + 1 = s.length := by rw [h1]; simp; omega
      rw [List.length_cons] at ha
      have h' : l <:+ s := suf_trans ⟨[c], rfl⟩ h
      have e1 : (pre.length : Int) + 1 = at' s l := by
        unfold at'
        omega
      rw [h2, ifT (by rw [size_ba]; omega), ixs_ba h1, wr (by omega) (by omega)]
      by_cases hc : c = 34
      · subst hc
        have e34 : (((34 : UInt8).toNat : Int) != 34) = false := rfl
        rw [e34, e1]
        simp only [Bool.false_eq_true, if_false, scall_id]
        cases l with
        | nil =>
          rw [qt_end, ifT (by rw [size_ba]; unfold at'; simp)]
          simp [sQ]
        | cons d l' =>
          obtain ⟨pre2, k1, k2⟩ := at_split h'
          have hl2 : pre2.length + l'.length + 1 = s.length := by rw [k1]; simp; omega
          rw [List.length_cons] at ha
          have h'' : l' <:+ s := suf_trans ⟨[d], rfl⟩ h'
          have e2 : (pre2.length : Int) + 1 = at' s l' := by
            unfold at'
            omega
          rw [k2, ifF (by rw [size_ba]; omega), ixs_ba k1]
          by_cases hd : d = 34
          · subst hd
            rw [e34, qt_two]
            simp only [Bool.false_eq_true, if_false]
            rw [show (⟨#[34]⟩ : ByteArray) = ba [34] from rfl, cats_ba (by simp only [List.length_singleton]; omega), wr (by omega) (by omega), e2, ih l'.length (by simp only [List.length_cons]; omega) l' rfl (acc ++ [34]) h'' (by simp only [List.length_append, List.length_singleton]; omega)]
            cases qt l' with
            | none => rfl
            | some p => simp [sQ]
          · have hd' : ((d.toNat : Int) != 34) = true := by
              simp only [bne_iff_ne, ne_eq]
              intro e
              apply hd
              apply UInt8.toNat_inj.1
              show d.toNat = 34
              omega
            rw [hd', qt_stop hd]
            simp only [if_true]
            rw [← k2]
            simp [sQ]
      · have hc' : ((c.toNat : Int) != 34) = true := by
          simp only [bne_iff_ne, ne_eq]
          intro e
          apply hc
          apply UInt8.toNat_inj.1
          show c.toNat = 34
          omega
        rw [hc']
        simp only [if_true]
        rw [show (pre.length : Int) + 1 = ((pre.length + 1 : Nat) : Int) by omega, slx_ba (by omega) (by omega)]
        have e3 : (s.take (pre.length + 1)).drop pre.length = [c] := by
          rw [h1, List.take_append, List.drop_append]
          simp
        rw [e3, cats_ba (by simp only [List.length_singleton]; omega), show ((pre.length + 1 : Nat) : Int) = at' s l by omega, ih l.length (by simp) l rfl (acc ++ [c]) h' (by simp only [List.length_append, List.length_singleton]; omega)]
        rw [qt_other hc]
        cases qt l with
        | none => rfl
        | some p => simp [sQ]
theorem stext_ok {s l : Bys} {b : Bool} {ns : List dFNode} (hs : s.length ≤ 900) (h : l <:+ s) : sl3Rd_text (ba s) (at' s l) b ns = sQ [] s b ns (qt l) := by
  rw [sl3Rd_text_eq]
  have := suf_len h
  exact stext_loop hs l [] h (by simp; omega)
/-! ### Names of errors -/
def erT (n : Int) : Bys := (lb (errT n)).drop 1
abbrev erK : List Int := [1, 2, 3, 4, 5]
def erP (l : Bys) (n : Int) : Bool := (erT n).isPrefixOf l
theorem erK_at {pre ys : List Int} {k : Int} (h : erK = pre ++ k :: ys) : k = (pre.length : Int) + 1 ∧ 1 ≤ k ∧ k ≤ 5 ∧ errT k = ba (35 :: erT k) ∧ (erT k).length ≤ 10 := by
  have h1 : erK[pre.length]? = some k := by rw [h]; simp
  have hl : pre.length < 5 := by
    have : (erK).length = 5 := rfl
    have h2 := congrArg List.length h
    simp at h2
    omega
  have : ∀ i : Fin 5, ∀ k, erK[i.val]? = some k → k = (i.val : Int) + 1 := by
    intro i k h
    have : ∀ i : Fin 5, erK[i.val]? = some ((i.val : Int) + 1) := by decide
    rw [this i] at h
    exact (Option.some.inj h).symm
  have e := this ⟨pre.length, hl⟩ k h1
  simp only at e
  have f : ∀ i : Fin 5, errT ((i.val : Int) + 1) = ba (35 :: erT ((i.val : Int) + 1)) ∧ (erT ((i.val : Int) + 1)).length ≤ 10 := by decide +kernel
  have := f ⟨pre.length, hl⟩
  simp only at this
  rw [← e] at this
  exact ⟨e, by omega, by omega, this.1, this.2⟩
theorem serr_loop {s l : Bys} {b : Bool} {ns : List dFNode} (hs : s.length ≤ 900) (hl : l <:+ s) : ∀ (ys pre : List Int), erK = pre ++ ys → sl3Rd_one_p13 ((pre.length : Int) + 1) (ba s) (at' s l) b ns = match ys.find? (erP l) with
    | some n => sl3Rd_add (nC (vE n)) (ba s) (at' s (l.drop (erT n).length)) b ns
    | none => some ((0, ()), ((ba s, at' s l, true, ns, ()), ()))
  | [], pre, h => by
    have : pre.length = 5 := by
      rw [List.append_nil] at h
      rw [← h]
      rfl
    rw [this, sl3Rd_one_p13_eq, ifF (by decide)]
    rfl
  | k :: ys, pre, h => by
    obtain ⟨e1, e2, e3, e4, e5⟩ := erK_at h
    obtain ⟨q, h1, h2⟩ := at_split hl
    have hq : q.length + l.length = s.length := by rw [h1]; simp
    rw [← e1, sl3Rd_one_p13_eq, ifT e3, sl2Name_ok (by omega) e3]
    simp only [Option.bind_some]
    rw [e4, show (1 : Int) = ((1 : Nat) : Int) from rfl, sll_ba (by simp)]
    simp only [List.drop_succ_cons, List.drop_zero, size_ba, List.find?_cons]
    have ih := serr_loop (b := b) (ns := ns) hs hl ys (pre ++ [k]) (next_at h)
    rw [List.length_append, List.length_singleton, show ((pre.length + 1 : Nat) : Int) + 1 = k + 1 by omega] at ih
    have hw : IntKind.i64.wrap (k + ((1 : Nat) : Int)) = k + 1 := wr (by omega) (by omega)
    rw [hw, h2, wr (by omega) (by omega)]
    by_cases hm : (erT k).length ≤ l.length
    · rw [ifT (by omega), show (q.length : Int) + ((erT k).length : Int) = ((q.length + (erT k).length : Nat) : Int) by omega, slx_ba (by omega) (by omega), eqS_ba]
      have e : (s.take (q.length + (erT k).length)).drop q.length = l.take (erT k).length := by
        rw [h1, List.take_append, List.drop_append]
        simp
      have e7 : decide (l.take (erT k).length = erT k) = erP l k := by
        unfold erP
        rw [Bool.eq_iff_iff, decide_eq_true_eq, List.isPrefixOf_iff_prefix, List.prefix_iff_eq_take]
        exact eq_comm
      rw [e, e7]
      cases hp : erP l k with
      | true =>
        simp only [if_true, sl2Error_ok, Option.bind_some, scall_id]
        congr 1
        unfold at'
        rw [List.length_drop]
        omega
      | false =>
        simp only [Bool.false_eq_true, if_false]
        rw [← h2]
        exact ih
    · rw [ifF (by omega)]
      have hp : erP l k = false := by
        rw [Bool.eq_false_iff]
        intro hp
        exact hm (pre_len hp)
      rw [hp, ← h2]
      exact ih
/-! ### Names of functions -/
def fnT (k : Int) : Bys := ([[], [83, 85, 77], [77, 73, 78], [77, 65, 88], [67, 79, 85, 78, 84], [73, 70], [65, 78, 68], [79, 82], [78, 79, 84], [65, 66, 83], [76, 69, 78]] : List Bys).getD k.toNat []
abbrev fnK : List Int := [1, 2, 3, 4, 5, 6, 7, 8, 9, 10]
def fnI (w : Bys) : Int := (fnK.find? fun k => decide (fnT k = w)).getD 0
theorem fnList (k : Fin 11) : List.getD ([(⟨#[]⟩ : ByteArray), (⟨#[83, 85, 77]⟩ : ByteArray), (⟨#[77, 73, 78]⟩ : ByteArray), (⟨#[77, 65, 88]⟩ : ByteArray), (⟨#[67, 79, 85, 78, 84]⟩ : ByteArray), (⟨#[73, 70]⟩ : ByteArray), (⟨#[65, 78, 68]⟩ : ByteArray), (⟨#[79, 82]⟩ : ByteArray), (⟨#[78, 79, 84]⟩ : ByteArray), (⟨#[65, 66, 83]⟩ : ByteArray), (⟨#[76, 69, 78]⟩ : ByteArray)] : (List ByteArray)) k.val (⟨#[]⟩ : ByteArray) = ba (fnT (k.val : Int)) := by
  revert k
  decide +kernel
theorem sl3Fn_ok {k : Int} (h0 : 0 ≤ k) (h1 : k ≤ 10) : sl3Fn k = some ((ba (fnT k), ()), ()) := by
  rw [sl3Fn_eq, inb_ok h0 (by show k < 11; omega)]
  have h := fnList ⟨k.toNat, by omega⟩
  simp only [Int.toNat_of_nonneg h0] at h
  rw [h]
theorem fnK_at {pre ys : List Int} {k : Int} (h : fnK = pre ++ k :: ys) : k = (pre.length : Int) + 1 ∧ 1 ≤ k ∧ k ≤ 10 := by
  have h1 : fnK[pre.length]? = some k := by rw [h]; simp
  have hl : pre.length < 10 := by
    have h2 := congrArg List.length h
    simp at h2
    omega
  have : ∀ i : Fin 10, fnK[i.val]? = some ((i.val : Int) + 1) := by decide
  rw [this ⟨pre.length, hl⟩] at h1
  have e := (Option.some.inj h1).symm
  simp only at e
  exact ⟨e, by omega, by omega⟩
/-- The tail of the reference's reading of a word. -/
noncomputable def sWordEnd (w s : Bys) (a : Int) (b : Bool) (ns : List dFNode) : Option ((Int × Unit) × (ds_l3Rd × Unit)) :=
  if (rdVal w).2 = true ∧ w ≠ [] then sl3Rd_add (nC (rdVal w).1) (ba s) a b ns
  else if (rdPl w).2 = true then sl3Rd_add (2, 0, (0, 0, (⟨#[]⟩ : ByteArray), ()), (rdPl w).1, ((0, 0, ()), false, false, ()), ([] : (List Int)), ()) (ba s) a b ns
  else some ((0, ()), ((ba s, a, true, ns, ()), ()))
theorem sword_tail {w s : Bys} {a : Int} {b : Bool} {ns : List dFNode} (hw : w.length ≤ 1000) : sl3Rd_one_p23 (ba w) 11 (ba s) a b ns = sWordEnd w s a b ns := by
  rw [sl3Rd_one_p23_eq, ifF (by decide), sReadValue_ok (by omega), sReadPlace_ok (by omega)]
  simp only [Option.bind_some, scall_id]
  have e0 : (ByteArray.toList (ba w) == ByteArray.toList (⟨#[]⟩ : ByteArray)) = decide (w = []) := eqS_ba (b := [])
  rw [e0]
  unfold sWordEnd
  cases (rdVal w).2 <;> by_cases hw0 : w = [] <;> cases (rdPl w).2 <;> simp [hw0]
theorem sfn_loop {w s : Bys} {ns : List dFNode} (hw : w.length ≤ 1000) (hs : s.length ≤ 900) : ∀ (ys pre : List Int) (l : Bys), fnK = pre ++ ys → l <:+ s → ∃ l', (l' = l ∨ l' = bl l) ∧ sl3Rd_one_p23 (ba w) ((pre.length : Int) + 1) (ba s) (at' s l) false ns = match ys.find? (fun k => decide (fnT k = w) && ([40] : Bys).isPrefixOf (bl l)) with
    | some k => sl3Rd_call k (ba s) (at' s ((bl l).drop 1)) false ns
    | none => sWordEnd w s (at' s l') false ns
  | [], pre, l, h, hl => by
    have : pre.length = 10 := by
      rw [List.append_nil] at h
      rw [← h]
      rfl
    refine ⟨l, .inl rfl, ?_⟩
    rw [this]
    exact sword_tail hw
  | k :: ys, pre, l, h, hl => by
    obtain ⟨e1, e2, e3⟩ := fnK_at h
    have ih := fun l' (hl' : l' <:+ s) => sfn_loop (ns := ns) hw hs ys (pre ++ [k]) l' (next_at h) hl'
    rw [List.length_append, List.length_singleton, show ((pre.length + 1 : Nat) : Int) + 1 = k + 1 by omega] at ih
    rw [← e1, sl3Rd_one_p23_eq, ifT e3, sl3Fn_ok (by omega) e3]
    simp only [Option.bind_some, eqS_ba, List.find?_cons, scall_id]
    by_cases hp : fnT k = w
    · rw [ifT hp, show (⟨#[40]⟩ : ByteArray) = ba [40] from rfl, sis_ok (by omega) (by decide) hl]
      simp only [Option.bind_some, Bool.not_false, Bool.true_and, hp, decide_true]
      cases hq : ([40] : Bys).isPrefixOf (bl l) with
      | true => exact ⟨l, .inl rfl, rfl⟩
      | false =>
        simp only [Bool.false_eq_true, if_false]
        rw [wr (by omega) (by omega)]
        obtain ⟨l', h1, h2⟩ := ih (bl l) (suf_trans (bl_suf l) hl)
        rw [bl_bl] at h1 h2
        refine ⟨l', .inr (by simpa using h1), ?_⟩
        rw [h2, hq]
    · rw [ifF hp, wr (by omega) (by omega)]
      obtain ⟨l', h1, h2⟩ := ih l hl
      refine ⟨l', h1, ?_⟩
      rw [h2]
      simp [hp]
end Go.Proofs.YtiligfmembmapaaGreatDoor.Abs
/- Plain laws: an atom as the program reads it; an area ahead of a comma. -/
set_option linter.unusedVariables false
set_option linter.unusedSimpArgs false
set_option linter.unusedSectionVars false
namespace Go.Proofs.YtiligfmembmapaaGreatDoor.Abs
open Go

theorem takeW_len (p : UInt8 → Bool) (l : Bys) : (l.takeWhile p).length ≤ l.length := (List.takeWhile_prefix p).length_le
/-- A cell's node; an area's. -/
abbrev nP (p : dPlace) : dFNode := (2, 0, (0, 0, (⟨#[]⟩ : ByteArray), ()), p, ((0, 0, ()), false, false, ()), ([] : (List Int)), ())
abbrev nA (p q : dPlace) : dFNode := (3, 0, (0, 0, (⟨#[]⟩ : ByteArray), ()), p, q, ([] : (List Int)), ())
/-! ### An area -/
/-- Is it a place with a colon behind it? -/
def arB (m : Bys) : Bool := (rdPl (m.takeWhile wdB)).2 && decide ((bl (m.dropWhile wdB)).head? = some 58)
/-- What stands behind the colon. -/
def arR (m : Bys) : Bys := bl ((bl (m.dropWhile wdB)).drop 1)
end Go.Proofs.YtiligfmembmapaaGreatDoor.Abs
