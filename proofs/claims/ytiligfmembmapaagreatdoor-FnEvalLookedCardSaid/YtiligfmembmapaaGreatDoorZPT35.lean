/- Plain laws: drawn bytes: what the drawing functions give has small sizes, and they always give something. -/
import Derived.Test.YtiligfmembmapaaGreatDoorZP3
set_option linter.unusedVariables false
set_option linter.unusedSimpArgs false
set_option linter.unusedSectionVars false
namespace Go.Proofs.YtiligfmembmapaaGreatDoor.Abs
open Go

/-- It gives something, and what it gives is such. -/
def Ok {α : Type} (P : α → Prop) (o : Option α) : Prop := ∃ a, o = some a ∧ P a
theorem Ok.one {α : Type} {P : α → Prop} {a : α} (h : P a) : Ok P (some a) := ⟨a, rfl, h⟩
theorem Ok.bnd {α β : Type} {P : α → Prop} {Q : β → Prop} {o : Option α} {f : α → Option β} (h : Ok P o) (k : ∀ a, P a → Ok Q (f a)) : Ok Q (o.bind f) := by
  obtain ⟨a, e, p⟩ := h
  rw [e]
  exact k a p
theorem Ok.ite {α : Type} {c : Prop} [Decidable c] {Q : α → Prop} {a b : Option α} (h : c → Ok Q a) (k : ¬ c → Ok Q b) : Ok Q (if c then a else b) := by
  by_cases e : c
  · rw [if_pos e]; exact h e
  · rw [if_neg e]; exact k e
theorem Ok.inb {α β : Type} {Q : β → Prop} {xs : List α} {i : Int} {k : Option β} (h : 0 ≤ i ∧ i < (xs.length : Int)) (hk : Ok Q k) : Ok Q (inb xs i k) := by
  rw [inb_ok h.1 h.2]; exact hk
theorem Ok.cats {β : Type} {Q : β → Prop} {a b : ByteArray} {f : ByteArray → Option β} (h : a.size + b.size ≤ 9223372036854775807) (hk : Ok Q (f (a ++ b))) : Ok Q (cats a b f) := by
  rw [cats_ok h]; exact hk
theorem Ok.nz {β : Type} {Q : β → Prop} {b : Int} {k : Option β} (h : b ≠ 0) (hk : Ok Q k) : Ok Q (nz b k) := by
  rw [nz_ok h]; exact hk
theorem Ok.app {α β : Type} {Q : β → Prop} {a b : List α} {n : Nat} {f : List α → Option β} (h : (a.length + b.length) * n ≤ 140737488355328) (hk : Ok Q (f (a ++ b))) : Ok Q (app a b n f) := by
  rw [app_ok h]; exact hk
theorem Ok.mono {α : Type} {P Q : α → Prop} {o : Option α} (h : Ok P o) (k : ∀ a, P a → Q a) : Ok Q o := by
  obtain ⟨a, e, p⟩ := h
  exact ⟨a, e, k a p⟩
theorem ix_lt {α β : Type} {xs : List α} {i : Int} {d : α} {f : α → Option β} (h0 : 0 ≤ i) (h1 : i < (xs.length : Int)) : ix xs i d f = f (xs.getD i.toNat d) := by
  have hl : i.toNat < xs.length := by omega
  rw [ix_of h0 (List.getElem?_eq_getElem hl), List.getD_eq_getElem?_getD, List.getElem?_eq_getElem hl]
  rfl
theorem getD_size {l : List ByteArray} {n : Nat} (h : ∀ x ∈ l, x.size ≤ n) (i : Nat) (d : ByteArray) (hd : d.size ≤ n) : (l.getD i d).size ≤ n := by
  rw [List.getD_eq_getElem?_getD]
  by_cases e : i < l.length
  · rw [List.getElem?_eq_getElem e]; exact h _ (List.getElem_mem e)
  · rw [List.getElem?_eq_none (by omega)]; exact hd

/-! ### Bytes -/
structure Byt (c : List Int) : Prop where
  len : c.length ≤ 1048576
  all : ∀ b ∈ c, 0 ≤ b ∧ b ≤ 255
/-- The drawer stands in the bytes. -/
def Rd (c : List Int) (s : ds_l1Rd) : Prop := s.1 = c ∧ 0 ≤ s.2.1 ∧ s.2.1 ≤ (c.length : Int)
section
variable {c : List Int} (hc : Byt c)
include hc
theorem rd_next {s : ds_l1Rd} (h : Rd c s) : Ok (fun z => (0 ≤ z.1.1 ∧ z.1.1 ≤ 255) ∧ Rd c z.2.1) (sl1Rd_next' s) := by
  obtain ⟨x, i, u⟩ := s
  obtain ⟨h1, h2, h3⟩ := h
  simp only at h1 h2 h3
  subst h1
  have hl := hc.len
  rw [sl1Rd_next'_eq]
  show Ok _ (if decide (i ≥ (x.length : Int)) = true then some ((0, ()), ((x, i, u), ())) else ix x (IntKind.i64.wrap ((IntKind.i64.wrap (i + 1)) - 1)) 0 fun y1 => (some (((IntKind.i64.wrap y1), ()), ((x, (IntKind.i64.wrap (i + 1)), ()), ()))))
  refine Ok.ite (fun _ => Ok.one ⟨⟨Int.le_refl _, by show (0 : Int) ≤ 255; decide⟩, rfl, h2, h3⟩) fun e => ?_
  have e' : i < (x.length : Int) := by simp only [decide_eq_true_eq] at e; omega
  rw [wr (n := i + 1) (by omega) (by omega), wr (n := i + 1 - 1) (by omega) (by omega), show i + 1 - 1 = i by omega, ix_lt h2 e']
  have hb : 0 ≤ x.getD i.toNat 0 ∧ x.getD i.toNat 0 ≤ 255 := by
    rw [List.getD_eq_getElem?_getD, List.getElem?_eq_getElem (by omega)]
    exact hc.all _ (List.getElem_mem _)
  rw [wr (by omega) (by omega)]
  exact Ok.one ⟨hb, rfl, by show (0 : Int) ≤ i + 1; omega, by show i + 1 ≤ (x.length : Int); omega⟩
theorem rd_below {n : Int} {s : ds_l1Rd} (h : Rd c s) (hn : 1 ≤ n) : Ok (fun z => (0 ≤ z.1.1 ∧ z.1.1 < n) ∧ Rd c z.2.1) (sl1Rd_below' n s) := by
  rw [sl1Rd_below'_eq]
  refine Ok.ite (fun _ => Ok.one ⟨⟨Int.le_refl _, by show (0:Int) < n; omega⟩, h⟩) fun _ => Ok.ite (fun _ => ?_) fun _ => ?_
  · refine Ok.bnd (rd_next hc h) fun z hz => Ok.nz (by omega) (Ok.one ⟨⟨Int.tmod_nonneg _ hz.1.1, Int.tmod_lt_of_pos _ (by omega)⟩, hz.2⟩)
  · refine Ok.bnd (rd_next hc h) fun z hz => Ok.bnd (rd_next hc hz.2) fun y hy => ?_
    have h1 := hz.1
    have h2 := hy.1
    rw [wr (n := z.1.1 * 256) (by omega) (by omega), wr (by omega) (by omega)]
    exact Ok.nz (by omega) (Ok.one ⟨⟨Int.tmod_nonneg _ (by omega), Int.tmod_lt_of_pos _ (by omega)⟩, hy.2⟩)
theorem rd_ref {s : ds_l1Rd} (h : Rd c s) : Ok (fun z => okRef z.1.1 = true ∧ Rd c z.2.1) (sl1Rd_ref s) := by
  rw [sl1Rd_ref_eq]
  refine Ok.bnd (rd_below hc h (by decide)) fun z hz => Ok.bnd (rd_below hc hz.2 (by decide)) fun y hy => ?_
  have h1 := hz.1
  have h2 := hy.1
  rw [wr (by omega) (by omega), wr (by omega) (by omega)]
  refine Ok.one ⟨?_, hy.2⟩
  rw [okRef_iff]
  show (1 ≤ 1 + z.1.1 ∧ 1 + z.1.1 ≤ 52) ∧ 1 ≤ 1 + y.1.1 ∧ 1 + y.1.1 ≤ 99
  omega
theorem rd_once {n : Int} {s : ds_l1Rd} (h : Rd c s) (hn : 1 ≤ n) : Ok (fun z => Rd c z.2.1) (sl1Rd_once n s) := by
  rw [sl1Rd_once_eq]
  exact Ok.bnd (rd_below hc h hn) fun z hz => Ok.one hz.2
theorem rd_word3 : ∀ (n : Nat) (x0 : Int) (s : ds_l1Rd), n ≤ 8 → Rd c s → Ok (fun z => Rd c z.2.1) (sl1Rd_word_p3 x0 (8 - (n : Int)) s)
  | 0, x0, s, _, h => by
    rw [sl1Rd_word_p3_eq, ifF (by omega)]
    exact Ok.one h
  | n + 1, x0, s, hn, h => by
    rw [sl1Rd_word_p3_eq, ifT (by omega)]
    refine Ok.bnd (rd_next hc h) fun z hz => ?_
    rw [wr (by omega) (by omega), show 8 - ((n + 1 : Nat) : Int) + 1 = 8 - (n : Int) by omega]
    exact rd_word3 n _ _ (by omega) hz.2
theorem rd_word {s : ds_l1Rd} (h : Rd c s) : Ok (fun z => Rd c z.2.1) (sl1Rd_word s) := by
  rw [sl1Rd_word_eq]
  exact rd_word3 hc 8 0 s (Nat.le_refl _) h
theorem rd_near {a b : Int} {s : ds_l1Rd} (h : Rd c s) (hab : 0 ≤ a ∧ a ≤ b ∧ b ≤ 1000000) : Ok (fun z => Rd c z.2.1) (sl1Rd_near a b s) := by
  rw [sl1Rd_near_eq]
  refine Ok.bnd (rd_below hc h (by decide)) fun z hz => Ok.ite (fun _ => Ok.one hz.2) fun _ => Ok.ite (fun _ => Ok.one hz.2) fun _ => Ok.ite (fun _ => Ok.one hz.2) fun _ => Ok.bnd (rd_word hc hz.2) fun y hy => ?_
  refine Ok.nz ?_ (Ok.one hy)
  rw [wr (n := b - a) (by omega) (by omega), wr (n := b - a + 1) (by omega) (by omega)]
  have : IntKind.u64.wrap (b - a + 1) = b - a + 1 := by
    show (b - a + 1) % 18446744073709551616 = _
    omega
  rw [this]
  omega
theorem rd_off {a b : Int} {s : ds_l1Rd} (h : Rd c s) (hab : 0 ≤ a ∧ a ≤ b ∧ b ≤ 1000000) : Ok (fun z => Rd c z.2.1) (sl1Rd_off a b s) := by
  rw [sl1Rd_off_eq]
  refine Ok.bnd (rd_once hc h (by decide)) fun z hz => Ok.ite (fun _ => ?_) fun _ => ?_
  · exact Ok.bnd (rd_below hc hz (by decide)) fun y hy => Ok.inb hy.1 (Ok.one hy.2)
  · exact Ok.bnd (rd_near hc hz hab) fun y hy => Ok.one hy
theorem rd_area {s : ds_l1Rd} (h : Rd c s) : Ok (fun z => Rd c z.2.1) (sl1Rd_area s) := by
  rw [sl1Rd_area_eq]
  refine Ok.bnd (rd_ref hc h) fun z hz => Ok.bnd (rd_ref hc hz.2) fun y hy => Ok.bnd (rd_once hc hy.2 (by decide)) fun w hw => Ok.ite (fun _ => ?_) fun _ => Ok.one hw
  exact Ok.bnd (rd_off hc hw (by decide)) fun v hv => Ok.one hv
end

/-! ### Texts -/
theorem place_small (p : dPlace) : Ok (fun z => z.1.1.size ≤ 10) (sPlaceText p) := by
  refine ⟨_, sPlaceText_ok p, ?_⟩
  show (if okRef p.1 = true then ba (plT p) else ba []).size ≤ 10
  split
  · rename_i h
    rw [size_ba]
    have := plT_len h
    omega
  · rw [size_ba]; decide
theorem dec_small {n : Int} (h0 : 0 ≤ n) (h1 : n ≤ 100) : Ok (fun z => z.1.1.size ≤ 20) (sl1Dec n) := ⟨_, sl1Dec_ok (by omega) (by omega), itoaB_size (by omega) (by omega)⟩
theorem sign_small {k : Int} (h0 : 0 ≤ k) (h1 : k ≤ 11) : Ok (fun z => z.1.1.size ≤ 2) (sl3Sign k) := by
  refine ⟨_, sl3Sign_ok h0 h1, ?_⟩
  show (ba (opT k)).size ≤ 2
  rw [size_ba]
  exact opT_len k

/-! ### Drawn parts of formulas -/
theorem sz1 {a : UInt8} : (⟨#[a]⟩ : ByteArray).size = 1 := rfl
theorem sz3 {a b d : UInt8} : (⟨#[a, b, d]⟩ : ByteArray).size = 3 := rfl
theorem Ok.inbL {β : Type} {Q : β → Prop} {l : List ByteArray} {i n : Int} {k : Option β} (d : ByteArray) (h0 : 0 ≤ i) (h1 : i < n) (hl : n = (l.length : Int)) (hs : ∀ x ∈ l, x.size ≤ 20) (hd : d.size ≤ 20) (hk : (l.getD i.toNat d).size ≤ 20 → Ok Q k) : Ok Q (Abs.inb l i k) :=
  Ok.inb ⟨h0, by omega⟩ (hk (getD_size hs _ _ hd))
theorem k_place {β : Type} {Q : β → Prop} {p : dPlace} {f : (ByteArray × Unit) × Unit → Option β} (k : ∀ z, z.1.1.size ≤ 10 → Ok Q (f z)) : Ok Q ((sPlaceText p).bind f) := Ok.bnd (place_small p) k
theorem k_dec {β : Type} {Q : β → Prop} {n : Int} {f : (ByteArray × Unit) × Unit → Option β} (h0 : 0 ≤ n) (h1 : n ≤ 100) (k : ∀ z, z.1.1.size ≤ 20 → Ok Q (f z)) : Ok Q ((sl1Dec n).bind f) := Ok.bnd (dec_small h0 h1) k
theorem k_sign {β : Type} {Q : β → Prop} {n : Int} {f : (ByteArray × Unit) × Unit → Option β} (h0 : 0 ≤ n) (h1 : n ≤ 11) (k : ∀ z, z.1.1.size ≤ 2 → Ok Q (f z)) : Ok Q ((sl3Sign n).bind f) := Ok.bnd (sign_small h0 h1) k
theorem k_sign1 {β : Type} {Q : β → Prop} {n : Int} {f : (ByteArray × Unit) × Unit → Option β} (h0 : 0 ≤ n) (h1 : n < 11) (k : ∀ z, z.1.1.size ≤ 2 → Ok Q (f z)) : Ok Q ((sl3Sign (IntKind.i64.wrap (1 + n))).bind f) := by
  rw [wr (by omega) (by omega)]
  exact k_sign (by omega) (by omega) k
section
variable {c : List Int} (hc : Byt c) {β : Type} {Q : β → Prop} {s : ds_l1Rd}
include hc
theorem k_below {n : Int} {f : (Int × Unit) × ds_l1Rd × Unit → Option β} (h : Rd c s) (hn : 1 ≤ n) (k : ∀ z, 0 ≤ z.1.1 → z.1.1 < n → Rd c z.2.1 → Ok Q (f z)) : Ok Q ((sl1Rd_below' n s).bind f) := Ok.bnd (rd_below hc h hn) fun z hz => k z hz.1.1 hz.1.2 hz.2
theorem k_once {n : Int} {f : (Bool × Unit) × ds_l1Rd × Unit → Option β} (h : Rd c s) (hn : 1 ≤ n) (k : ∀ z, Rd c z.2.1 → Ok Q (f z)) : Ok Q ((sl1Rd_once n s).bind f) := Ok.bnd (rd_once hc h hn) k
theorem k_ref {f : (dRef × Unit) × ds_l1Rd × Unit → Option β} (h : Rd c s) (k : ∀ z, okRef z.1.1 = true → Rd c z.2.1 → Ok Q (f z)) : Ok Q ((sl1Rd_ref s).bind f) := Ok.bnd (rd_ref hc h) fun z hz => k z hz.1 hz.2
theorem k_area {f : (dArea × Unit) × ds_l1Rd × Unit → Option β} (h : Rd c s) (k : ∀ z, Rd c z.2.1 → Ok Q (f z)) : Ok Q ((sl1Rd_area s).bind f) := Ok.bnd (rd_area hc h) k
theorem k_ftext {m q : Nat} {f : (ByteArray × Unit) × ds_l1Rd × Unit → Option β} (ih : ∀ {s : ds_l1Rd}, Rd c s → Ok (fun y => y.1.1.size ≤ 100 * q ∧ Rd c y.2.1) (sl1Rd_ftext (m : Int) s)) (h : Rd c s) (k : ∀ z, z.1.1.size ≤ 100 * q → Rd c z.2.1 → Ok Q (f z)) : Ok Q ((sl1Rd_ftext (m : Int) s).bind f) := Ok.bnd (ih h) fun z hz => k z hz.1 hz.2
end
set_option maxHeartbeats 4000000 in
theorem rd_ftext {c : List Int} (hc : Byt c) : ∀ (n : Nat) {s : ds_l1Rd}, n ≤ 3 → Rd c s → Ok (fun y => y.1.1.size ≤ 100 * 4 ^ n ∧ Rd c y.2.1) (sl1Rd_ftext (n : Int) s)
  | n, s, hn, h => by
    have h1 : 1 ≤ 4 ^ n := Nat.one_le_pow _ _ (by decide)
    rw [sl1Rd_ftext_eq]
    refine Ok.ite (fun _ => ?_) fun e => ?_
    · generalize 4 ^ n = q at h1 ⊢
      repeat' first
        | refine k_below hc (by assumption) (by decide) fun _ _ _ _ => ?_
        | refine k_ref hc (by assumption) fun _ _ _ => ?_
        | refine k_once hc (by assumption) (by decide) fun _ _ => ?_
        | refine k_place fun _ _ => ?_
        | refine k_dec (by omega) (by omega) fun _ _ => ?_
        | refine Ok.inbL ⟨#[]⟩ (by assumption) (by assumption) (by decide) (by decide) (by decide) fun _ => ?_
        | refine Ok.ite (fun _ => ?_) fun _ => ?_
        | refine Ok.one ⟨?_, by assumption⟩
      all_goals (try dsimp only
                 omega)
    · have hn0 : n ≠ 0 := fun k => e (by subst k; rfl)
      obtain ⟨m, rfl⟩ : ∃ m, n = m + 1 := ⟨n - 1, by omega⟩
      have hw : IntKind.i64.wrap (((m + 1 : Nat) : Int) - 1) = (m : Int) := by rw [wr (by omega) (by omega)]; omega
      have ih := fun {s : ds_l1Rd} (h : Rd c s) => rd_ftext hc m (s := s) (by omega) h
      have hp : 4 ^ (m + 1) = 4 * 4 ^ m := by rw [Nat.pow_succ, Nat.mul_comm]
      have h2 : 1 ≤ 4 ^ m := Nat.one_le_pow _ _ (by decide)
      have h64 : 4 ^ m ≤ 64 := Nat.le_trans (Nat.pow_le_pow_right (by decide) (by omega : m ≤ 3)) (by decide)
      rw [hp]
      simp only [hw]
      generalize 4 ^ m = q at ih h2 h64 ⊢
      repeat' first
        | refine k_below hc (by assumption) (by decide) fun _ _ _ _ => ?_
        | refine k_ref hc (by assumption) fun _ _ _ => ?_
        | refine k_once hc (by assumption) (by decide) fun _ _ => ?_
        | refine k_area hc (by assumption) fun _ _ => ?_
        | refine k_ftext hc ih (by assumption) fun _ _ _ => ?_
        | refine k_place fun _ _ => ?_
        | refine k_dec (by omega) (by omega) fun _ _ => ?_
        | refine k_sign1 (by assumption) (by assumption) fun _ _ => ?_
        | refine Ok.inbL ⟨#[]⟩ (by assumption) (by assumption) (by decide) (by decide) (by decide) fun _ => ?_
        | (refine Ok.cats (by simp only [size_append, sz1, sz3]; omega) ?_; try dsimp only)
        | refine Ok.ite (fun _ => ?_) fun _ => ?_
        | refine Ok.one ⟨?_, by assumption⟩
      all_goals (try dsimp only)
      all_goals (try simp only [size_append, sz1, sz3])
      all_goals omega
theorem wbig_ok (c : List Int) : wbig c = some ((decide (1048576 < (c.length : Int)), ()), ()) := by rw [wbig_eq]
theorem byt_of {x : List Int} (h : x.length ≤ maxLen ∧ ∀ b ∈ x, SmT (.int .u8) b) (hl : ¬ 1048576 < (x.length : Int)) : Byt x := by
  refine ⟨by omega, fun b hb => ?_⟩
  have : (decide (IntKind.u8.min ≤ b) && decide (b ≤ IntKind.u8.max)) = true := h.2 b hb
  simp only [Bool.and_eq_true, decide_eq_true_eq] at this
  have e1 : IntKind.u8.min = 0 := rfl
  have e2 : IntKind.u8.max = 255 := rfl
  omega
end Go.Proofs.YtiligfmembmapaaGreatDoor.Abs
