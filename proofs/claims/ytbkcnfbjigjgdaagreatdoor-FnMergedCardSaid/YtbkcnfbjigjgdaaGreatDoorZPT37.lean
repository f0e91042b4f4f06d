/- Plain laws: drawn sheets with changes, drawn pairs, drawn threes. -/
import Derived.Test.YtbkcnfbjigjgdaaGreatDoorZPT36
import Derived.Test.YtbkcnfbjigjgdaaGreatDoorZP5
set_option linter.unusedVariables false
set_option linter.unusedSimpArgs false
set_option linter.unusedSectionVars false
namespace Go.Proofs.YtbkcnfbjigjgdaaGreatDoor.Abs
open Go

section
variable {c : List Int} (hc : Byt c)
include hc
theorem rd_next0 {i : Int} (h2 : 0 ≤ i) (h3 : i ≤ (c.length : Int)) : Ok (fun z => (0 ≤ z.1.1 ∧ z.1.1 ≤ 255) ∧ Rd c z.2.1) (sl1Rd_next c i) := by
  have := rd_next hc (s := (c, i, ())) ⟨rfl, h2, h3⟩
  rw [sl1Rd_next'_eq] at this
  rw [sl1Rd_next_eq]
  exact this
theorem rd_below0 {n i : Int} (h2 : 0 ≤ i) (h3 : i ≤ (c.length : Int)) (hn : 1 ≤ n) : Ok (fun z => (0 ≤ z.1.1 ∧ z.1.1 < n) ∧ Rd c z.2.1) (sl1Rd_below n c i) := by
  rw [sl1Rd_below_eq]
  refine Ok.ite (fun _ => Ok.one ⟨⟨Int.le_refl _, by show (0:Int) < n; omega⟩, rfl, h2, h3⟩) fun _ => Ok.ite (fun _ => ?_) fun _ => ?_
  · refine Ok.bnd (rd_next0 hc h2 h3) fun z hz => Ok.nz (by omega) (Ok.one ⟨⟨Int.tmod_nonneg _ hz.1.1, Int.tmod_lt_of_pos _ (by omega)⟩, hz.2⟩)
  · refine Ok.bnd (rd_next0 hc h2 h3) fun z hz => Ok.bnd (rd_next hc hz.2) fun y hy => ?_
    have h1 := hz.1
    have h2 := hy.1
    rw [wr (n := z.1.1 * 256) (by omega) (by omega), wr (by omega) (by omega)]
    exact Ok.nz (by omega) (Ok.one ⟨⟨Int.tmod_nonneg _ (by omega), Int.tmod_lt_of_pos _ (by omega)⟩, hy.2⟩)
theorem rd_sheet0 {n : Nat} {i : Int} (hn : n ≤ 900) (h2 : 0 ≤ i) (h3 : i ≤ (c.length : Int)) : Ok (fun z => SmS z.1.1 ∧ Rd c z.2.1) (sl1Rd_sheet (n : Int) c i) := by
  rw [sl1Rd_sheet_eq, wr (by omega) (by omega)]
  refine Ok.bnd (rd_below0 hc h2 h3 (by omega)) fun z hz => ?_
  rw [show z.1.1 = (z.1.1.toNat : Int) by omega]
  exact rd_sheet3 hc _ (by omega) hz.2 ⟨Nat.zero_le _, fun c hc => by cases hc⟩
theorem k_sheet0 {β : Type} {Q : β → Prop} {f : (List dCell × Unit) × ds_l1Rd × Unit → Option β} (k : ∀ z, SmS z.1.1 → Rd c z.2.1 → Ok Q (f z)) : Ok Q ((sl1Open c).bind fun z1 => (sl1Rd_sheet 8 z1.1.1.1 z1.1.1.2.1).bind f) := by
  rw [sl1Open_eq, Option.bind_some]
  exact Ok.bnd (rd_sheet0 hc (n := 8) (by decide) (Int.le_refl _) (by show (0 : Int) ≤ (c.length : Int); omega)) fun z hz => k z hz.1 hz.2
theorem k_turn {β : Type} {Q : β → Prop} {s : ds_l1Rd} {a : List dCell} {n : Int} {f : (List dCell × Unit) × ds_l1Rd × Unit → Option β} (h : Rd c s) (ha : SmS a) (h0 : 0 ≤ n) (h1 : n ≤ 900) (k : ∀ z, SmS z.1.1 → Rd c z.2.1 → Ok Q (f z)) : Ok Q ((sl1Rd_turn a n s).bind f) := by
  refine Ok.bnd (P := fun z => SmS z.1.1 ∧ Rd c z.2.1) ?_ fun z hz => k z hz.1 hz.2
  rw [sl1Rd_turn_eq, wr (by omega) (by omega)]
  refine k_below hc h (by omega) fun z z0 z1 hz => ?_
  obtain ⟨m, hm⟩ : ∃ m : Nat, z.1.1 = (m : Int) := ⟨z.1.1.toNat, by omega⟩
  rw [hm]
  exact rd_turn2u hc m (by omega) hz ha
end
/-- Changes, few and with small sources. -/
def SmC (l : List dChange) : Prop := l.length ≤ 240 ∧ ∀ c ∈ l, c.2.2.1.size ≤ 6401
theorem srcAt_size {s : List dCell} (h : okSheet s = true) (q : dRef) : (srcAt q s).size ≤ 200 := by
  rcases srcAt_or (q := q) (okSheet_srt h) with ⟨c, hc, _, e⟩ | ⟨_, e⟩
  · rw [← e]; exact okSheet_size h c hc
  · rw [e]; decide
theorem dfR_small (a b : List dCell) : SmC (dfR a b) := by
  unfold dfR
  split
  · rename_i h
    refine ⟨dfS_len2 h.1 h.2, fun c hc => ?_⟩
    rw [(mem_dfS.1 hc).2.1]
    exact Nat.le_trans (srcAt_size h.2 _) (by decide)
  · exact ⟨Nat.zero_le _, fun c hc => by cases hc⟩
theorem k_diff {β : Type} {Q : β → Prop} {a b : List dCell} {f : (List dChange × Unit) × Unit → Option β} (ha : SmS a) (hb : SmS b) (k : ∀ z, SmC z.1.1 → Ok Q (f z)) : Ok Q ((sDiffOf a b).bind f) := by
  have h1 := ha.1
  have h2 := hb.1
  exact Ok.bnd (P := fun z => SmC z.1.1) ⟨_, sDiffOf_ok (by omega) (by omega) ha.sz hb.sz, dfR_small a b⟩ k
theorem SmC.set {l : List dChange} (h : SmC l) {i : Nat} {x : dChange} (hx : x.2.2.1.size ≤ 6401) : SmC (l.set i x) := by
  refine ⟨by rw [List.length_set]; exact h.1, fun c hc => ?_⟩
  rcases List.mem_or_eq_of_mem_set hc with k | rfl
  · exact h.2 c k
  · exact hx
theorem SmC.at {l : List dChange} (h : SmC l) {i : Nat} : (l.getD i (tChange.dflt)).2.2.1.size ≤ 6401 := by
  rw [List.getD_eq_getElem?_getD]
  by_cases e : i < l.length
  · rw [List.getElem?_eq_getElem e]; exact h.2 _ (List.getElem_mem e)
  · rw [List.getElem?_eq_none (by omega)]; decide
theorem sDrawMerged_ok {c : List Int} (hc : Byt c) : Ok (fun z => SmS z.1.1 ∧ SmS z.1.2.1 ∧ SmS z.1.2.2.1) (sDrawMerged c) := by
  rw [sDrawMerged_eq]
  exact k_sheet0 hc fun z1 s1 r1 => k_turn hc r1 s1 (by decide) (by decide) fun z2 s2 r2 => k_turn hc r2 s1 (by decide) (by decide) fun z3 s3 r3 => Ok.one ⟨s1, s2, s3⟩
end Go.Proofs.YtbkcnfbjigjgdaaGreatDoor.Abs
