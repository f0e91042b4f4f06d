/- Plain laws: drawn inputs, sheets, turned sheets; entering; equal rows. -/
import Derived.Test.YtbkcnfbjigjgdaaGreatDoorZPT35
import Derived.Test.YtbkcnfbjigjgdaaGreatDoorZP4
set_option linter.unusedVariables false
set_option linter.unusedSimpArgs false
set_option linter.unusedSectionVars false
namespace Go.Proofs.YtbkcnfbjigjgdaaGreatDoor.Abs
open Go

section
variable {c : List Int} (hc : Byt c)
include hc
theorem k_ft {β : Type} {Q : β → Prop} {s : ds_l1Rd} (n : Nat) {m : Int} {f : (ByteArray × Unit) × ds_l1Rd × Unit → Option β} (e : m = (n : Int)) (hn : n ≤ 3) (h : Rd c s) (k : ∀ z, z.1.1.size ≤ 6400 → Rd c z.2.1 → Ok Q (f z)) : Ok Q ((sl1Rd_ftext m s).bind f) := by
  subst e
  have h4 : 4 ^ n ≤ 64 := Nat.le_trans (Nat.pow_le_pow_right (n := 4) (by decide) hn) (by decide)
  exact Ok.bnd (rd_ftext hc n hn h) fun z hz => k z (by have := hz.1; omega) hz.2
set_option maxHeartbeats 4000000 in
theorem rd_input {s : ds_l1Rd} (h : Rd c s) : Ok (fun z => z.1.1.size ≤ 6401 ∧ Rd c z.2.1) (sl1Rd_input s) := by
  rw [sl1Rd_input_eq]
  repeat' first
    | refine k_below hc (by assumption) (by decide) fun _ _ _ _ => ?_
    | refine k_ft hc 2 rfl (by decide) (by assumption) fun _ _ _ => ?_
    | refine k_ft hc 1 rfl (by decide) (by assumption) fun _ _ _ => ?_
    | refine k_dec (by omega) (by omega) fun _ _ => ?_
    | refine Ok.inbL ⟨#[]⟩ (by assumption) (by assumption) (by decide) (by decide) (by decide) fun _ => ?_
    | (refine Ok.cats (by simp only [sz1]; omega) ?_; try dsimp only)
    | refine Ok.ite (fun _ => ?_) fun _ => ?_
    | refine Ok.one ⟨?_, by assumption⟩
  all_goals (try dsimp only)
  all_goals (try simp only [size_append, sz1])
  all_goals first | omega | decide
end

/-! ### Entering -/
noncomputable def enS (s : List dCell) (r : dRef) (x : ByteArray) : List dCell × Bool :=
  if okSheet s = true ∧ okRef r = true ∧ (inpV x).2 = true ∧ (setS s r (inpV x).1).length ≤ 120 then (setS s r (inpV x).1, true) else ([], false)
theorem sEnter_ok {s : List dCell} {r : dRef} {x : ByteArray} (hl : s.length ≤ 1000000) (hs : ∀ c ∈ s, c.2.1.size ≤ 9223372036854775807) (hx : x.size ≤ 9223372036854775807) : sEnter s r x = some (((enS s r x).1, (enS s r x).2, ()), ()) := by
  rw [sEnter_eq, (inp_ok hx).2.1, sSheetOk_ok hs (by omega), sRefOk_ok]
  simp only [Option.bind_some]
  unfold enS
  cases h1 : okSheet s with
  | false => simp
  | true =>
    cases h2 : okRef r with
    | false => simp
    | true =>
      cases h3 : (inpV x).2 with
      | false => simp
      | true =>
        rw [sl5Set_ok hl]
        simp only [Option.bind_some, Bool.not_true, Bool.false_eq_true, if_false]
        by_cases h4 : (setS s r (inpV x).1).length ≤ 120
        · rw [ifF (by omega), if_pos (by simp [h4])]
        · rw [ifT (by omega), if_neg (by simp [h4])]
/-- A sheet of few cells with small sources. -/
def SmS (s : List dCell) : Prop := s.length ≤ 121 ∧ ∀ c ∈ s, c.2.1.size ≤ 6401
theorem SmS.sz {s : List dCell} (h : SmS s) : ∀ c ∈ s, c.2.1.size ≤ 9223372036854775807 := fun c hc => Nat.le_trans (h.2 c hc) (by decide)
/-- A sheet that has room for one more cell. -/
def SmT' (s : List dCell) : Prop := s.length ≤ 120 ∧ ∀ c ∈ s, c.2.1.size ≤ 6401
theorem SmT'.up {s : List dCell} (h : SmT' s) : SmS s := ⟨by have := h.1; omega, h.2⟩
theorem setS_src {s : List dCell} {r : dRef} {x : ByteArray} {n : Nat} (hs : ∀ c ∈ s, c.2.1.size ≤ n) (hx : x.size ≤ n) : ∀ c ∈ setS s r x, c.2.1.size ≤ n := by
  intro c hc
  rcases mem_set.1 hc with h | ⟨_, rfl⟩
  · exact hs c h.1
  · exact hx
theorem enS_small {s : List dCell} {r : dRef} {x : ByteArray} (h : ∀ c ∈ s, c.2.1.size ≤ 6401) : SmT' (enS s r x).1 := by
  unfold enS
  split
  · rename_i k
    exact ⟨k.2.2.2, setS_src h (Nat.le_trans (inpV_size x) (by decide))⟩
  · exact ⟨Nat.zero_le _, fun c hc => by cases hc⟩
theorem k_enter {β : Type} {Q : β → Prop} {s : List dCell} {r : dRef} {x : ByteArray} {f : ((List dCell) × Bool × Unit) × Unit → Option β} (h : SmS s) (hx : x.size ≤ 6401) (k : ∀ z, SmT' z.1.1 → Ok Q (f z)) : Ok Q ((sEnter s r x).bind f) :=
  Ok.bnd (P := fun z => SmT' z.1.1) ⟨_, sEnter_ok (by have := h.1; omega) h.sz (by omega), enS_small h.2⟩ k
section
variable {c : List Int} (hc : Byt c)
include hc
theorem k_input {β : Type} {Q : β → Prop} {s : ds_l1Rd} {f : (ByteArray × Unit) × ds_l1Rd × Unit → Option β} (h : Rd c s) (k : ∀ z, z.1.1.size ≤ 6401 → Rd c z.2.1 → Ok Q (f z)) : Ok Q ((sl1Rd_input s).bind f) := Ok.bnd (rd_input hc h) fun z hz => k z hz.1 hz.2
theorem rd_sheet3 : ∀ (n : Nat) {s : ds_l1Rd} {out : List dCell}, n ≤ 1000 → Rd c s → SmT' out → Ok (fun z => SmS z.1.1 ∧ Rd c z.2.1) (sl1Rd_sheet_p3 (n : Int) s out)
  | 0, s, out, _, h, ho => by
    rw [sl1Rd_sheet_p3_eq, ifF (by decide)]
    refine k_once hc h (by decide) fun z hz => Ok.ite (fun _ => ?_) fun _ => Ok.one ⟨ho.up, hz⟩
    refine k_ref hc hz fun y _ hy => k_input hc hy fun x hx hz' => ?_
    have hl := ho.1
    refine Ok.app (by simp only [List.length_singleton]; omega) (Ok.one ⟨⟨by simp only [List.length_append, List.length_singleton]; omega, fun d hd => ?_⟩, hz'⟩)
    rcases List.mem_append.1 hd with hd | hd
    · exact ho.2 d hd
    · rw [List.mem_singleton.1 hd]
      exact hx
  | n + 1, s, out, hn, h, ho => by
    have hw : IntKind.i64.wrap (((n + 1 : Nat) : Int) - 1) = (n : Int) := by rw [wr (by omega) (by omega)]; omega
    rw [sl1Rd_sheet_p3_eq, ifT (by omega), hw]
    refine k_ref hc h fun y _ hy => k_input hc hy fun x hx hz => k_enter ho.up hx fun w hw => Ok.ite (fun _ => ?_) fun _ => ?_
    · exact rd_sheet3 n (by omega) hz hw
    · exact rd_sheet3 n (by omega) hz ho
theorem rd_turn2 : ∀ (n : Nat) {s : ds_l1Rd} {a : List dCell}, n ≤ 1000 → Rd c s → SmS a → Ok (fun z => SmS z.1.1 ∧ Rd c z.2.1) (sl1Rd_turn_p2' (n : Int) s a)
  | 0, s, a, _, h, ho => by
    rw [sl1Rd_turn_p2'_eq, ifF (by decide)]
    exact Ok.one ⟨ho, h⟩
  | n + 1, s, a, hn, h, ho => by
    have hw : IntKind.i64.wrap (((n + 1 : Nat) : Int) - 1) = (n : Int) := by rw [wr (by omega) (by omega)]; omega
    rw [sl1Rd_turn_p2'_eq, ifT (by omega), hw]
    refine k_ref hc h fun y _ hy => k_below hc hy (by decide) fun x h0 h1 hx => Ok.inbL ⟨#[]⟩ h0 h1 (by decide) (by decide) (by decide) fun hk => ?_
    refine k_enter ho (Nat.le_trans hk (by decide)) fun w hw => Ok.ite (fun _ => ?_) fun _ => ?_
    · exact rd_turn2 n (by omega) hx hw.up
    · exact rd_turn2 n (by omega) hx ho
theorem rd_turn2u : ∀ (n : Nat) {s : ds_l1Rd} {a : List dCell}, n ≤ 1000 → Rd c s → SmS a → Ok (fun z => SmS z.1.1 ∧ Rd c z.2.1) (sl1Rd_turn_p2 a (n : Int) s)
  | 0, s, a, _, h, ho => by
    rw [sl1Rd_turn_p2_eq, ifF (by decide)]
    exact Ok.one ⟨ho, h⟩
  | n + 1, s, a, hn, h, ho => by
    have hw : IntKind.i64.wrap (((n + 1 : Nat) : Int) - 1) = (n : Int) := by rw [wr (by omega) (by omega)]; omega
    rw [sl1Rd_turn_p2_eq, ifT (by omega), hw]
    refine k_ref hc h fun y _ hy => k_below hc hy (by decide) fun x h0 h1 hx => Ok.inbL ⟨#[]⟩ h0 h1 (by decide) (by decide) (by decide) fun hk => ?_
    refine k_enter ho (Nat.le_trans hk (by decide)) fun w hw => Ok.ite (fun _ => ?_) fun _ => ?_
    · exact rd_turn2 hc n (by omega) hx hw.up
    · exact rd_turn2u n (by omega) hx ho
end
/-! ### Equal rows -/
theorem eqCD (a b : dCell) : eqB tCell a b = decide (a = b) := by
  by_cases h : a = b
  · rw [decide_eq_true h]; exact (eqB_iff rfl).2 h
  · rw [decide_eq_false h, Bool.eq_false_iff]; exact fun k => h ((eqB_iff rfl).1 k)
theorem eqHD (a b : dChange) : eqB tChange a b = decide (a = b) := by
  by_cases h : a = b
  · rw [decide_eq_true h]; exact (eqB_iff rfl).2 h
  · rw [decide_eq_false h, Bool.eq_false_iff]; exact fun k => h ((eqB_iff rfl).1 k)
theorem eqRD (a b : dRef) : eqB tRef a b = decide (a = b) := by
  by_cases h : a = b
  · rw [decide_eq_true h]; exact (eqB_iff rfl).2 h
  · rw [decide_eq_false h, Bool.eq_false_iff]; exact fun k => h ((eqB_iff rfl).1 k)
/-- Two rows of one length, looked at side by side. -/
theorem same_loop {α : Type} [DecidableEq α] {d : α} {xs ys : List α} {P : Int → Option ((Bool × Unit) × Unit)} (hl : xs.length ≤ 1000000000) (hxy : ys.length = xs.length)
    (hP : ∀ i, P i = if (decide (i < (List.length xs : Int))) = true then (ix xs i d fun y1 => (ix ys i d fun y2 => (if (!(decide (y1 = y2))) = true then (some ((false, ()), (()))) else (P (IntKind.i64.wrap (i + 1)))))) else (some ((true, ()), (())))) : ∀ (a b pa pb : List α), xs = pa ++ a → ys = pb ++ b → pa.length = pb.length → P (pa.length : Int) = some ((decide (a = b), ()), ())
  | [], b, pa, pb, ha, hb, hp => by
    have : b = [] := by
      have e := congrArg List.length ha
      have e' := congrArg List.length hb
      simp only [List.length_append, List.length_nil] at e e'
      exact List.length_eq_zero_iff.1 (by omega)
    rw [hP, ifF (nlt_at ha), this]
    rfl
  | x :: a, [], pa, pb, ha, hb, hp => by
    have e := congrArg List.length ha
    have e' := congrArg List.length hb
    simp only [List.length_append, List.length_nil, List.length_cons] at e e'
    omega
  | x :: a, y :: b, pa, pb, ha, hb, hp => by
    rw [hP, ifT (lt_at ha), ix_at ha, hp, ix_at hb, ← hp, wrap_at ha (by omega), same_loop hl hxy hP a b (pa ++ [x]) (pb ++ [y]) (next_at ha) (next_at hb) (by simp [hp])]
    by_cases e : x = y
    · rw [decide_eq_true e]
      subst e
      simp
    · rw [decide_eq_false e]
      simp [e]
theorem len_ne {α : Type} {xs ys : List α} : ((xs.length : Int) != (ys.length : Int)) = !decide (xs.length = ys.length) := by
  by_cases h : xs.length = ys.length
  · simp [h]
  · have : (xs.length : Int) ≠ (ys.length : Int) := by omega
    simp [h, this]
theorem wsameCells_ok {xs ys : List dCell} (hl : xs.length ≤ 1000000000) : wsameCells xs ys = some ((decide (xs = ys), ()), ()) := by
  rw [wsameCells_eq, len_ne]
  by_cases h : xs.length = ys.length
  · rw [decide_eq_true h, if_neg (by decide)]
    exact same_loop (d := tCell.dflt) (P := fun i => wsameCells_p4 xs ys i) hl h.symm (fun i => by rw [wsameCells_p4_eq]; simp only [eqCD]) xs ys [] [] rfl rfl rfl
  · rw [decide_eq_false h, if_pos (by rfl), decide_eq_false (fun e => h (congrArg _ e))]
theorem wsameRefs_ok {xs ys : List dRef} (hl : xs.length ≤ 1000000000) : wsameRefs xs ys = some ((decide (xs = ys), ()), ()) := by
  rw [wsameRefs_eq, len_ne]
  by_cases h : xs.length = ys.length
  · rw [decide_eq_true h, if_neg (by decide)]
    exact same_loop (d := tRef.dflt) (P := fun i => wsameRefs_p4 xs ys i) hl h.symm (fun i => by rw [wsameRefs_p4_eq]; simp only [eqRD]) xs ys [] [] rfl rfl rfl
  · rw [decide_eq_false h, if_pos (by rfl), decide_eq_false (fun e => h (congrArg _ e))]
theorem iSourceAt_ok {s : List dCell} {r : dRef} (hs : ∀ c ∈ s, c.2.1.size ≤ 9223372036854775807) (hl : s.length ≤ 1000000000) : iSourceAt s r = some ((if okSheet s = true then srcAt r s else eS, ()), ()) := by
  rw [iSourceAt_eq, iSheetOk_ok hs hl, Option.bind_some]
  cases h : okSheet s with
  | false => rfl
  | true =>
    rw [isourceAt_ok (by omega)]
    rfl
end Go.Proofs.YtbkcnfbjigjgdaaGreatDoor.Abs
