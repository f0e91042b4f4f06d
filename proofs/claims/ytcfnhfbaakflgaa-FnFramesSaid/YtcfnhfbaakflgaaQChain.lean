/- Frames that stand one behind the other in a text: what they are, what they hang on, and that their text is cut out of the whole. -/
import Derived.Test.YtcfnhfbaakflgaaQTake
set_option linter.unusedSimpArgs false
namespace Go.Proofs.Ytcfnhfbaakflgaa.Pure
open Go.RowKit Go.Proofs.Ytcfnhfbaakflgaa.PFrames Go.Proofs.YtcfnhfbaakflgaaW.PrintWords Go.Proofs.YtcfnhfbaakflgaaW.PrintLast

inductive Chain (s : ByteArray) : Nat → List ByteArray → Nat → Prop
  | nil (p : Nat) : Chain s p [] p
  | cons {p : Nat} {l : List ByteArray} {e : Nat} (h : isFrame s p) (t : Chain s (p + 8 + hdr s p) l e) : Chain s p (dataAt s p :: l) e
theorem Chain.le {s : ByteArray} {p : Nat} {l : List ByteArray} {e : Nat} (h : Chain s p l e) : p ≤ e := by
  induction h with
  | nil => exact Nat.le_refl _
  | cons _ _ ih => omega
theorem Chain.end_le {s : ByteArray} {p : Nat} {l : List ByteArray} {e : Nat} (h : Chain s p l e) (hp : p ≤ s.size) : e ≤ s.size := by
  induction h with
  | nil => exact hp
  | cons hf _ ih => exact ih hf.2.2.1
theorem chain_takes (s : ByteArray) : ∀ (d p : Nat), p ≤ s.size → s.size + 1 ≤ p + d → Chain s p (takes d s p).1 (takes d s p).2 ∧ ¬ isFrame s (takes d s p).2
  | 0, p, h1, h2 => by omega
  | d + 1, p, h1, h2 => by
    by_cases h : isFrame s p
    · rw [takes_yes h]
      obtain ⟨h3, h4⟩ := chain_takes s d (p + 8 + hdr s p) h.2.2.1 (by omega)
      exact ⟨.cons h h3, h4⟩
    · rw [takes_no h]
      exact ⟨.nil p, h⟩
/-- Two rows of frames from one place: the one that ends where no frame stands has the other one as its beginning. -/
theorem Chain.begins {s : ByteArray} {p : Nat} {a b : List ByteArray} {e f : Nat} (ha : Chain s p a e) (hb : Chain s p b f) (hf : ¬ isFrame s f) : a <+: b := by
  induction ha generalizing b with
  | nil => exact List.nil_prefix
  | cons h _ ih =>
    cases hb with
    | nil => exact absurd h hf
    | cons _ tb => exact (List.prefix_cons_inj _).2 (ih tb)
theorem Chain.same {s : ByteArray} {p : Nat} {a b : List ByteArray} {e f : Nat} (ha : Chain s p a e) (he : ¬ isFrame s e) (hb : Chain s p b f) (hf : ¬ isFrame s f) : a = b ∧ e = f := by
  induction ha generalizing b with
  | nil =>
    cases hb with
    | nil => exact ⟨rfl, rfl⟩
    | cons h _ => exact absurd h he
  | cons h _ ih =>
    cases hb with
    | nil => exact absurd h hf
    | cons _ tb =>
      obtain ⟨h1, h2⟩ := ih he tb
      exact ⟨by rw [h1], h2⟩

/-! ### What stands behind does not count -/
theorem bn_app (a b : ByteArray) (i : Nat) (h : i < a.size) : bn (a ++ b) i = bn a i := by
  unfold bn bt
  have h1 : (i : Int).toNat = i := by omega
  simp only [h1]
  rw [dif_pos h, dif_pos (by rw [ByteArray.size_append]; omega), ByteArray.getElem_append_left h]
theorem extract_app (a b : ByteArray) (i j : Nat) (h : j ≤ a.size) : (a ++ b).extract i j = a.extract i j := by
  rw [ByteArray.extract_append]
  have : b.extract (i - a.size) (j - a.size) = ByteArray.empty := by
    rw [show j - a.size = 0 by omega]
    apply ByteArray.ext
    simp [ByteArray.data_extract]
  rw [this, ByteArray.append_empty]
theorem hdr_app (a b : ByteArray) (p : Nat) (h : p + 4 ≤ a.size) : hdr (a ++ b) p = hdr a p := by
  unfold hdr
  rw [bn_app _ _ _ (by omega), bn_app _ _ _ (by omega), bn_app _ _ _ (by omega), bn_app _ _ _ (by omega)]
theorem data_app (a b : ByteArray) (p : Nat) (h : p + 4 ≤ a.size) (h8 : p + 8 + hdr a p ≤ a.size) : dataAt (a ++ b) p = dataAt a p := by
  unfold dataAt
  rw [hdr_app _ _ _ h, extract_app _ _ _ _ h8]
theorem frame_app (a b : ByteArray) (p : Nat) (h : isFrame a p) : isFrame (a ++ b) p ∧ hdr (a ++ b) p = hdr a p ∧ dataAt (a ++ b) p = dataAt a p := by
  obtain ⟨h1, h2, h3, h4⟩ := h
  have e1 := hdr_app a b p (by omega)
  have e2 := data_app a b p (by omega) h3
  refine ⟨⟨by rw [ByteArray.size_append]; omega, by omega, by rw [ByteArray.size_append]; omega, ?_⟩, e1, e2⟩
  rw [e2, extract_app _ _ _ _ h1]
  exact h4
theorem frame_unapp (a b : ByteArray) (p : Nat) (h : isFrame (a ++ b) p) (he : p + 8 + hdr (a ++ b) p ≤ a.size) : isFrame a p ∧ hdr (a ++ b) p = hdr a p ∧ dataAt (a ++ b) p = dataAt a p := by
  obtain ⟨h1, h2, h3, h4⟩ := h
  have e1 := hdr_app a b p (by omega)
  have e2 := data_app a b p (by omega) (by omega)
  refine ⟨⟨by omega, by omega, by omega, ?_⟩, e1, e2⟩
  rw [e2, extract_app _ _ _ _ (by omega)] at h4
  exact h4
theorem Chain.app {a : ByteArray} {p : Nat} {l : List ByteArray} {e : Nat} (b : ByteArray) (h : Chain a p l e) : Chain (a ++ b) p l e := by
  induction h with
  | nil p => exact .nil p
  | cons h _ ih =>
    obtain ⟨h1, h2, h3⟩ := frame_app a b _ h
    rw [← h3]
    exact .cons h1 (by rw [h2]; exact ih)
theorem Chain.unapp {a b : ByteArray} {p : Nat} {l : List ByteArray} {e : Nat} (h : Chain (a ++ b) p l e) (he : e ≤ a.size) : Chain a p l e := by
  generalize hs : a ++ b = s at h
  induction h with
  | nil p => exact .nil p
  | cons h t ih =>
    subst hs
    obtain ⟨h1, h2, h3⟩ := frame_unapp a b _ h (Nat.le_trans t.le he)
    have t2 := ih he
    rw [h2] at t2
    rw [h3]
    exact .cons h1 t2
theorem Chain.trans {s : ByteArray} {p : Nat} {l m : List ByteArray} {e f : Nat} (h : Chain s p l e) (k : Chain s e m f) : Chain s p (l ++ m) f := by
  induction h with
  | nil p => exact k
  | cons h _ ih => exact .cons h (ih k)

/-! ### The frames' own text -/
def cat : List ByteArray → ByteArray
  | [] => ByteArray.empty
  | x :: l => frameB x ++ cat l
theorem frameB_ok {s : ByteArray} (h : s.size ≤ 1000000) : frameB s = (fourB ((s.size : Nat) : Int) ++ fourB ((crcOf s : Nat) : Int)) ++ s := by
  unfold frameB
  rw [if_neg (by omega)]
  have : ((s.size : Nat) : Int) % 4294967296 = ((s.size : Nat) : Int) := by omega
  rw [this]
theorem frameB_size {s : ByteArray} (h : s.size ≤ 1000000) : (frameB s).size = 8 + s.size := by
  rw [frameB_ok h, ByteArray.size_append, ByteArray.size_append, fourB_size, fourB_size]
theorem four_data (c : Int) : (fourB c).data.toList = [((c / 16777216) % 256).toNat.toUInt8, ((c / 65536) % 256).toNat.toUInt8, ((c / 256) % 256).toNat.toUInt8, (c % 256).toNat.toUInt8] := by
  simp [fourB, strOfNums]
theorem byte_of (s : ByteArray) (i : Nat) (h : i < s.size) : s.data.toList[i]? = some (bn s i).toUInt8 := by
  have hd : i < s.data.toList.length := by simpa using h
  rw [List.getElem?_eq_getElem hd]
  unfold bn bt
  have h1 : (i : Int).toNat = i := by omega
  simp only [h1, dif_pos h]
  congr 1
  rw [Int.toNat_natCast]
  have : s[i] = s.data.toList[i] := by simp [ByteArray.getElem_eq_getElem_data]
  rw [this]
  simp
theorem four_eq (s : ByteArray) (p : Nat) (h : p + 4 ≤ s.size) (c : Nat) (hc : c = 256 * (256 * (256 * bn s p + bn s (p + 1)) + bn s (p + 2)) + bn s (p + 3)) : s.extract p (p + 4) = fourB (c : Int) := by
  have h0 := bn_lt s p; have h1 := bn_lt s (p + 1); have h2 := bn_lt s (p + 2); have h3 := bn_lt s (p + 3)
  apply ByteArray.ext
  apply Array.toList_inj.1
  rw [four_data, ByteArray.data_extract, Array.toList_extract]
  have e0 := byte_of s p (by omega)
  have e1 := byte_of s (p + 1) (by omega)
  have e2 := byte_of s (p + 2) (by omega)
  have e3 := byte_of s (p + 3) (by omega)
  have hl : p + 4 ≤ s.data.toList.length := by simpa using h
  have ec0 : ((c : Int) / 16777216) % 256 = ((bn s p : Nat) : Int) := by omega
  have ec1 : ((c : Int) / 65536) % 256 = ((bn s (p + 1) : Nat) : Int) := by omega
  have ec2 : ((c : Int) / 256) % 256 = ((bn s (p + 2) : Nat) : Int) := by omega
  have ec3 : (c : Int) % 256 = ((bn s (p + 3) : Nat) : Int) := by omega
  rw [ec0, ec1, ec2, ec3]
  simp only [Int.toNat_natCast]
  apply List.ext_getElem?
  intro i
  rw [List.extract_eq_take_drop, List.getElem?_take, List.getElem?_drop]
  match i with
  | 0 => simp [e0]
  | 1 => simp [e1]
  | 2 => simp [e2]
  | 3 => simp [e3]
  | i + 4 =>
    simp
    omega
theorem str_inj {a b : ByteArray} (h : a.toList = b.toList) : a = b := by
  rw [ByteArray.toList_eq, ByteArray.toList_eq] at h
  exact ByteArray.ext (Array.toList_inj.1 h)
theorem frame_text (s : ByteArray) (p : Nat) (h : isFrame s p) : (dataAt s p).size = hdr s p ∧ s.extract p (p + 8 + hdr s p) = frameB (dataAt s p) := by
  obtain ⟨h1, h2, h3, h4⟩ := h
  have hd : (dataAt s p).size = hdr s p := by unfold dataAt; rw [ByteArray.size_extract]; omega
  refine ⟨hd, ?_⟩
  rw [frameB_ok (by omega), hd, str_inj h4, ← four_eq s p (by omega) (hdr s p) rfl]
  unfold dataAt
  rw [ByteArray.extract_append_extract, Nat.min_eq_left (by omega), Nat.max_eq_right (by omega), ByteArray.extract_append_extract, Nat.min_eq_left (by omega), Nat.max_eq_right (by omega)]
theorem Chain.text {s : ByteArray} {p : Nat} {l : List ByteArray} {e : Nat} (h : Chain s p l e) : s.extract p e = cat l := by
  induction h with
  | nil p => apply ByteArray.ext; simp [cat, ByteArray.data_extract, ByteArray.empty, ByteArray.emptyWithCapacity]
  | cons h t ih =>
    obtain ⟨h1, h2⟩ := frame_text _ _ h
    have := t.le
    rw [cat, ← ih, ← h2, ByteArray.extract_append_extract, Nat.min_eq_left (by omega), Nat.max_eq_right (by omega)]
theorem Chain.few {s : ByteArray} {p : Nat} {l : List ByteArray} {e : Nat} (h : Chain s p l e) : ∀ x ∈ l, x.size ≤ 1000000 := by
  induction h with
  | nil p => simp
  | cons h t ih =>
    intro x hx
    rcases List.mem_cons.1 hx with rfl | hx
    · rw [(frame_text _ _ h).1]
      exact h.2.1
    · exact ih x hx
theorem Chain.many {s : ByteArray} {p : Nat} {l : List ByteArray} {e : Nat} (h : Chain s p l e) : p + 8 * l.length ≤ e := by
  induction h with
  | nil p => simp
  | cons h t ih =>
    simp only [List.length_cons]
    omega
theorem extract_nil (a : ByteArray) (i j : Nat) (h : a.size ≤ i) : a.extract i j = ByteArray.empty := by
  apply ByteArray.ext
  have : (a.extract i j).data.size = 0 := by
    have := ByteArray.size_extract (a := a) (b := i) (e := j)
    rw [ByteArray.size] at this
    omega
  exact Array.eq_empty_of_size_eq_zero this
/-- A frame behind a text stands there. -/
theorem frame_behind (a t : ByteArray) (ht : t.size ≤ 1000000) : isFrame (a ++ frameB t) a.size ∧ dataAt (a ++ frameB t) a.size = t ∧ a.size + 8 + hdr (a ++ frameB t) a.size = (a ++ frameB t).size := by
  have hs : (a ++ frameB t).size = a.size + (8 + t.size) := by rw [ByteArray.size_append, frameB_size ht]
  have hx : ∀ i j, (a ++ frameB t).extract (a.size + i) (a.size + j) = (frameB t).extract i j := fun i j => by
    rw [ByteArray.extract_append]
    rw [extract_nil a _ _ (by omega), ByteArray.empty_append, Nat.add_sub_cancel_left, Nat.add_sub_cancel_left]
  have e4 : (fourB ((t.size : Nat) : Int)).size = 4 := fourB_size _
  have f4 : (fourB ((crcOf t : Nat) : Int)).size = 4 := fourB_size _
  have x1 : (frameB t).extract 0 4 = fourB ((t.size : Nat) : Int) := by
    rw [frameB_ok ht, extract_app _ _ _ _ (by rw [ByteArray.size_append]; omega), extract_app _ _ _ _ (by omega), ← e4, ByteArray.extract_zero_size]
  have hb : ∀ i, i < 4 → bn (a ++ frameB t) (a.size + i) = bn (fourB ((t.size : Nat) : Int)) i := fun i hi => by
    unfold bn bt
    have h1 : ((a.size + i : Nat) : Int).toNat = a.size + i := by omega
    have h2 : (i : Int).toNat = i := by omega
    have hfs : (frameB t).size = 8 + t.size := frameB_size ht
    simp only [h1, h2]
    rw [dif_pos (by omega), dif_pos (by omega), ByteArray.getElem_append_right (by omega)]
    simp only [Nat.add_sub_cancel_left]
    congr 2
    have : (frameB t)[i]'(by omega) = (fourB ((t.size : Nat) : Int) ++ (fourB ((crcOf t : Nat) : Int) ++ t))[i]'(by rw [ByteArray.size_append]; omega) := by
      congr 1
      rw [frameB_ok ht, ByteArray.append_assoc]
    rw [this, ByteArray.getElem_append_left]
  have hbn : ∀ i, i < 4 → (fourB ((t.size : Nat) : Int)).data.toList[i]? = some (bn (fourB ((t.size : Nat) : Int)) i).toUInt8 := fun i h => byte_of _ i (by omega)
  have hh : hdr (a ++ frameB t) a.size = t.size := by
    have g0 := hb 0 (by omega); have g1 := hb 1 (by omega); have g2 := hb 2 (by omega); have g3 := hb 3 (by omega)
    have b0 := hbn 0 (by omega); have b1 := hbn 1 (by omega); have b2 := hbn 2 (by omega); have b3 := hbn 3 (by omega)
    simp only [four_data] at b0 b1 b2 b3
    simp only [List.getElem?_cons_zero, List.getElem?_cons_succ, Option.some.injEq] at b0 b1 b2 b3
    have h0 := bn_lt (fourB ((t.size : Nat) : Int)) 0; have h1 := bn_lt (fourB ((t.size : Nat) : Int)) 1; have h2 := bn_lt (fourB ((t.size : Nat) : Int)) 2; have h3 := bn_lt (fourB ((t.size : Nat) : Int)) 3
    have un : ∀ x y : Nat, x < 256 → y < 256 → x.toUInt8 = y.toUInt8 → x = y := fun x y hx hy e => by
      have := congrArg UInt8.toNat e
      simp at this
      omega
    have c0 := un _ _ h0 (by omega) b0.symm
    have c1 := un _ _ h1 (by omega) b1.symm
    have c2 := un _ _ h2 (by omega) b2.symm
    have c3 := un _ _ h3 (by omega) b3.symm
    unfold hdr
    rw [Nat.add_zero] at g0
    rw [g0, g1, g2, g3, c0, c1, c2, c3]
    omega
  have hdt : dataAt (a ++ frameB t) a.size = t := by
    unfold dataAt
    rw [hh, show a.size + 8 + t.size = a.size + (8 + t.size) by omega, hx 8 (8 + t.size), frameB_ok ht, ByteArray.extract_append]
    have z : (fourB ((t.size : Nat) : Int) ++ fourB ((crcOf t : Nat) : Int)).size = 8 := by rw [ByteArray.size_append]; omega
    rw [extract_nil _ _ _ (by omega), z, ByteArray.empty_append, Nat.sub_self, Nat.add_sub_cancel_left, ByteArray.extract_zero_size]
  refine ⟨⟨by omega, by omega, by omega, ?_⟩, hdt, by omega⟩
  rw [hdt, hx 4 8, frameB_ok ht, extract_app _ _ _ _ (by rw [ByteArray.size_append]; omega), ByteArray.extract_append]
  rw [extract_nil _ _ _ (by omega), e4, ByteArray.empty_append]
  have : (fourB ((crcOf t : Nat) : Int)).extract (4 - 4) (8 - 4) = fourB ((crcOf t : Nat) : Int) := by
    rw [show 4 - 4 = 0 by rfl, show 8 - 4 = 4 by rfl, ← f4, ByteArray.extract_zero_size]
  rw [this]
end Go.Proofs.Ytcfnhfbaakflgaa.Pure
