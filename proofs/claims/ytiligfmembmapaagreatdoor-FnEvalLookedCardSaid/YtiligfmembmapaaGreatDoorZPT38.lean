/- Plain laws: drawn formulas and values. -/
import Derived.Test.YtiligfmembmapaaGreatDoorZPT40
set_option linter.unusedVariables false
set_option linter.unusedSimpArgs false
set_option linter.unusedSectionVars false
namespace Go.Proofs.YtiligfmembmapaaGreatDoor.Abs
open Go

theorem next_same {c : List Int} {i : Int} : sl1Rd_next c i = sl1Rd_next' (c, i, ()) := by rw [sl1Rd_next_eq, sl1Rd_next'_eq]
theorem below_same {n : Int} {c : List Int} {i : Int} : sl1Rd_below n c i = sl1Rd_below' n (c, i, ()) := by rw [sl1Rd_below_eq, sl1Rd_below'_eq, next_same]
theorem once_same {n : Int} {c : List Int} {i : Int} : sl1Rd_once' n c i = sl1Rd_once n (c, i, ()) := by rw [sl1Rd_once'_eq, sl1Rd_once_eq, below_same]
theorem ftext_same {n : Int} {c : List Int} {i : Int} : sl1Rd_ftext' n c i = sl1Rd_ftext n (c, i, ()) := by rw [sl1Rd_ftext'_eq, sl1Rd_ftext_eq, below_same, once_same]

theorem k_num {c : List Int} (hc : Byt c) {β : Type} {Q : β → Prop} {s : ds_l1Rd} {f : (Int × Unit) × ds_l1Rd × Unit → Option β} (h : Rd c s) (k : ∀ z, Rd c z.2.1 → Ok Q (f z)) : Ok Q ((sl1Rd_num s).bind f) := by
  refine Ok.bnd (P := fun z => Rd c z.2.1) ?_ k
  rw [sl1Rd_num_eq]
  refine k_once hc h (by decide) fun z hz => Ok.ite (fun _ => ?_) fun _ => ?_
  · exact k_below hc hz (by decide) fun y h0 h1 hy => Ok.inb ⟨h0, h1⟩ (Ok.one hy)
  · exact k_below hc hz (by decide) fun y h0 h1 hy => Ok.one hy
theorem k_off {c : List Int} (hc : Byt c) {β : Type} {Q : β → Prop} {s : ds_l1Rd} {a b : Int} {f : (Int × Unit) × ds_l1Rd × Unit → Option β} (h : Rd c s) (hab : 0 ≤ a ∧ a ≤ b ∧ b ≤ 1000000) (k : ∀ z, Rd c z.2.1 → Ok Q (f z)) : Ok Q ((sl1Rd_off a b s).bind f) := Ok.bnd (rd_off hc h hab) k
set_option maxHeartbeats 4000000 in
theorem rd_value {c : List Int} (hc : Byt c) {s : ds_l1Rd} (h : Rd c s) : Ok (fun z => z.1.1.2.2.1.size ≤ 20 ∧ Rd c z.2.1) (sl1Rd_value s) := by
  rw [sl1Rd_value_eq]
  repeat' first
    | refine k_below hc (by assumption) (by decide) fun _ _ _ _ => ?_
    | refine k_once hc (by assumption) (by decide) fun _ _ => ?_
    | refine k_off hc (by assumption) (by decide) fun _ _ => ?_
    | refine k_num hc (by assumption) fun _ _ => ?_
    | refine Ok.inbL ⟨#[]⟩ (by assumption) (by assumption) (by decide) (by decide) (by decide) fun _ => ?_
    | refine Ok.ite (fun _ => ?_) fun _ => ?_
    | refine Ok.one ⟨?_, by assumption⟩
  all_goals first | assumption | exact Nat.zero_le _
/-- A few values with small texts. -/
def SmV (l : List dCellValue) (n : Nat) : Prop := l.length ≤ n ∧ ∀ c ∈ l, c.2.1.2.2.1.size ≤ 20
theorem rd_vals6 {c : List Int} (hc : Byt c) {row : Int} {P : (List dCellValue × Unit) × ds_l1Rd × Unit → Prop} {m : Nat} (hm : m ≤ 1000) (next : ∀ {s : ds_l1Rd} {l : List dCellValue}, Rd c s → SmV l (m + 3) → Ok P (sl1Rd_values_p3 (IntKind.i64.wrap (row + 1)) s l)) : ∀ (n : Nat) {s : ds_l1Rd} {l : List dCellValue}, n ≤ 3 → Rd c s → SmV l (m + (3 - n)) → Ok P (sl1Rd_values_p6 row (4 - (n : Int)) s l)
  | 0, s, l, _, h, hl => by
    rw [sl1Rd_values_p6_eq, ifF (by decide)]
    exact next h hl
  | n + 1, s, l, hn, h, hl => by
    have hw : IntKind.i64.wrap (4 - ((n + 1 : Nat) : Int) + 1) = 4 - (n : Int) := by rw [wr (by omega) (by omega)]; omega
    rw [sl1Rd_values_p6_eq, ifT (by omega), hw]
    have h1 := hl.1
    refine k_once hc h (by decide) fun z hz => Ok.ite (fun _ => ?_) fun _ => ?_
    · refine Ok.bnd (rd_value hc hz) fun y hy => Ok.app (by simp only [List.length_singleton]; omega) ?_
      refine rd_vals6 hc hm next n (by omega) hy.2 ⟨by simp only [List.length_append, List.length_singleton]; omega, fun d hd => ?_⟩
      rcases List.mem_append.1 hd with hd | hd
      · exact hl.2 d hd
      · rw [List.mem_singleton.1 hd]
        exact hy.1
    · exact rd_vals6 hc hm next n (by omega) hz ⟨by omega, hl.2⟩
theorem rd_vals3 {c : List Int} (hc : Byt c) : ∀ (n : Nat) {s : ds_l1Rd} {l : List dCellValue}, n ≤ 4 → Rd c s → SmV l (3 * (4 - n)) → Ok (fun z => SmV z.1.1 12 ∧ Rd c z.2.1) (sl1Rd_values_p3 (5 - (n : Int)) s l)
  | 0, s, l, _, h, hl => by
    rw [sl1Rd_values_p3_eq, ifF (by decide)]
    exact Ok.one ⟨hl, h⟩
  | n + 1, s, l, hn, h, hl => by
    have hw : IntKind.i64.wrap (5 - ((n + 1 : Nat) : Int) + 1) = 5 - (n : Int) := by rw [wr (by omega) (by omega)]; omega
    rw [sl1Rd_values_p3_eq, ifT (by omega)]
    refine rd_vals6 hc (m := 3 * (4 - (n + 1))) (by omega) (fun hs hl' => ?_) 3 (Nat.le_refl _) h ⟨by have := hl.1; omega, hl.2⟩
    rw [hw]
    exact rd_vals3 hc n (by omega) hs ⟨by have := hl'.1; omega, hl'.2⟩
theorem rd_values {c : List Int} (hc : Byt c) {s : ds_l1Rd} (h : Rd c s) : Ok (fun z => SmV z.1.1 12 ∧ Rd c z.2.1) (sl1Rd_values s) := by
  rw [sl1Rd_values_eq]
  exact rd_vals3 hc 4 (Nat.le_refl _) h ⟨Nat.zero_le _, fun c hc => by cases hc⟩
theorem k_place' {c : List Int} (hc : Byt c) {β : Type} {Q : β → Prop} {s : ds_l1Rd} {f : (dPlace × Unit) × ds_l1Rd × Unit → Option β} (h : Rd c s) (k : ∀ z, Rd c z.2.1 → Ok Q (f z)) : Ok Q ((sl1Rd_place s).bind f) := by
  refine Ok.bnd (P := fun z => Rd c z.2.1) ?_ k
  rw [sl1Rd_place_eq]
  refine k_ref hc h fun z _ hz => k_once hc hz (by decide) fun y hy => k_once hc hy (by decide) fun x hx => k_once hc hx (by decide) fun w hw => Ok.ite (fun _ => ?_) fun _ => Ok.one hw
  exact k_off hc hw (by decide) fun v hv => k_off hc hv (by decide) fun u hu => Ok.one hu
/-- A formula that is small. -/
def SmF (f : List dFNode) : Prop := f.length ≤ 60 ∧ ∀ x ∈ f, x.2.2.1.2.2.1.size ≤ 201 ∧ x.2.2.2.2.2.1.length ≤ 10
theorem okArgs_le {op k : Int} (h : okArgs op k = true) : k ≤ 10 := by
  unfold okArgs at h
  split at h
  · simp only [Bool.or_eq_true, decide_eq_true_eq] at h
    omega
  · split at h
    · have := inB_iff.1 h
      omega
    · split at h
      · simp only [decide_eq_true_eq] at h
        omega
      · cases h
theorem v0_size : (v0 : dValue).2.2.1.size = 0 := rfl
theorem okNode_small {x : dFNode} (h : okNode x = true) : x.2.2.1.2.2.1.size ≤ 201 ∧ x.2.2.2.2.2.1.length ≤ 10 := by
  have hk : kl x = (x.2.2.2.2.2.1.length : Int) := rfl
  unfold okNode at h
  repeat' split at h
  all_goals try simp only [Bool.and_eq_true, decide_eq_true_eq] at h
  · have := okVal_size h.1.1.2
    have := h.1.1.1.2
    omega
  · rw [h.1.1.1.2, v0_size]
    have := h.1.2
    omega
  · rw [h.1.1.2, v0_size]
    have := h.1.2
    omega
  · rw [h.1.1.1.2, v0_size]
    have := h.2
    omega
  · rw [h.1.1.1.2, v0_size]
    have := h.2
    omega
  · rw [h.1.1.2, v0_size]
    have := okArgs_le h.1.1.1
    omega
  · cases h
theorem okF_small {f : List dFNode} (h : okF f = true) : SmF f := by
  have hb : inB (f.length : Int) 1 60 = true := by
    unfold okF at h
    simp only [Bool.and_eq_true] at h
    exact h.1
  have := inB_iff.1 hb
  refine ⟨by omega, fun x hx => ?_⟩
  obtain ⟨i, hi, rfl⟩ := List.getElem_of_mem hx
  exact okNode_small (okF_stands h i _ (List.getElem?_eq_getElem hi)).1
theorem readF_small {x : ByteArray} (hx : x.size ≤ 9223372036854775807) : Ok (fun z => SmF z.1.1) (sReadFormula x) := by
  obtain ⟨f, b, h1, h2, h3⟩ := readS hx
  refine ⟨_, h1, ?_⟩
  show SmF f
  cases b with
  | true => exact okF_small (h2 rfl)
  | false => rw [h3 rfl]; exact ⟨Nat.zero_le _, fun x hx => by cases hx⟩
theorem SmF.set {f : List dFNode} (h : SmF f) {i : Nat} {x : dFNode} (hx : x.2.2.1.2.2.1.size ≤ 201 ∧ x.2.2.2.2.2.1.length ≤ 10) : SmF (f.set i x) := by
  refine ⟨by rw [List.length_set]; exact h.1, fun c hc => ?_⟩
  rcases List.mem_or_eq_of_mem_set hc with k | rfl
  · exact h.2 c k
  · exact hx
theorem SmF.at {f : List dFNode} (h : SmF f) {i : Nat} : (f.getD i (tFNode.dflt)).2.2.1.2.2.1.size ≤ 201 ∧ (f.getD i (tFNode.dflt)).2.2.2.2.2.1.length ≤ 10 := by
  rw [List.getD_eq_getElem?_getD]
  by_cases e : i < f.length
  · rw [List.getElem?_eq_getElem e]; exact h.2 _ (List.getElem_mem e)
  · rw [List.getElem?_eq_none (by omega)]; exact ⟨by decide, by decide⟩
theorem rd_formula0 {c : List Int} (hc : Byt c) {i : Int} (h0 : 0 ≤ i) (h1 : i ≤ (c.length : Int)) : Ok (fun z => SmF z.1.1 ∧ Rd c z.2.1) (sl1Rd_formula c i) := by
  rw [sl1Rd_formula_eq, ftext_same]
  refine Ok.bnd (rd_ftext hc 3 (Nat.le_refl _) (s := (c, i, ())) ⟨rfl, h0, h1⟩) fun z hz => Ok.bnd (readF_small (Nat.le_trans hz.1 (by decide))) fun y hy => k_once hc hz.2 (by decide) fun x hx => ?_
  have hl := hy.1
  refine Ok.ite (fun _ => Ok.ite (fun e => ?_) fun _ => Ok.one ⟨hy, hx⟩) fun _ => Ok.one ⟨hy, hx⟩
  simp only [decide_eq_true_eq] at e
  refine k_below hc hx (by omega) fun w w0 w1 hw => k_below hc hw (by decide) fun v _ _ hv => ?_
  have ha := hy.at (i := Int.toNat w.1.1)
  repeat' first
    | refine k_off hc (by assumption) (by decide) fun _ _ => ?_
    | refine k_place' hc (by assumption) fun _ _ => ?_
    | refine Ok.inb ⟨w0, w1⟩ ?_
    | refine Ok.ite (fun _ => ?_) fun _ => ?_
    | exact Ok.one ⟨hy, by assumption⟩
    | exact Ok.one ⟨hy.set ha, by assumption⟩
theorem sDrawEval_ok {c : List Int} (hc : Byt c) : Ok (fun z => SmF z.1.1 ∧ SmV z.1.2.1 12) (sDrawEval c) := by
  rw [sDrawEval_eq, sl1Open_eq, Option.bind_some]
  exact Ok.bnd (rd_formula0 hc (Int.le_refl _) (by show (0 : Int) ≤ (c.length : Int); omega)) fun z hz => Ok.bnd (rd_values hc hz.2) fun y hy => Ok.one ⟨hz.1, hy.1⟩
end Go.Proofs.YtiligfmembmapaaGreatDoor.Abs
