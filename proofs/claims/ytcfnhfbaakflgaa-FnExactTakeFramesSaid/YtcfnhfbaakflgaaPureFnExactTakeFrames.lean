/- FnExactTakeFrames: for every text the program's TakeFrames returns the frames and the end that the reference's returns, and its answer owns its memory (texts of more than 2^20 bytes are let by by the statement's own guard). No condition. -/
import Derived.Test.YtcfnhfbaakflgaaQTake
import Derived.Test.YtcfnhfbaakflgaaPFramesx5
namespace Go.Proofs.Ytcfnhfbaakflgaa.Pure
open Go.RowKit Go.Proofs.Ytcfnhfbaakflgaa.PFrames Go.Proofs.YtcfnhfbaakflgaaW.PrintWords Go.Proofs.YtcfnhfbaakflgaaW.PrintLast

theorem eqS_from (l : List ByteArray) (hl : l.length ≤ 4194304) : ∀ (d i : Nat), i + d = l.length → Ev (fun k => laws_eqStringS.l0 k l l (i : Int)) true
  | 0, i, h => by
    refine Ev.step (f := fun _ => some true) (fun k => ?_) (Ev.now _)
    rw [laws_eqStringS.l0, if_neg (by omega)]
  | d + 1, i, h => by
    refine Ev.step (fun k => ?_) (eqS_from l hl d (i + 1) (by omega))
    rw [laws_eqStringS.l0, if_pos (by omega), if_pos (by omega), if_pos (by omega), if_pos rfl, w64 (by omega) (by omega)]
    rfl
theorem eqS_same (l : List ByteArray) (hl : l.length ≤ 4194304) : Ev (fun k => laws_eqStringS.f k l l) true := by
  unfold laws_eqStringS.f
  exact pos_ rfl (eqS_from l hl l.length 0 (by omega))

theorem one_size (c : Int) : (strOfNums [c]).size = 1 := by simp [strOfNums, ByteArray.size]
theorem markText_from : ∀ (d n : Nat) (x : ByteArray), n < 10 ^ d → n ≤ 1000000000 → x.size + d ≤ 1000 → ∃ b, Ev (fun k => laws_markText.l0 k (n : Int) x) b
  | 0, n, x, h, hn, hx => by
    obtain rfl : n = 0 := by omega
    exact ⟨_, Ev.step (f := fun _ => some ((⟨#[109]⟩ : ByteArray) ++ x)) (fun k => by rw [laws_markText.l0, if_neg (by omega), if_pos (by omega)]) (Ev.now _)⟩
  | d + 1, n, x, h, hn, hx => by
    by_cases h0 : n = 0
    · subst h0
      exact ⟨_, Ev.step (f := fun _ => some ((⟨#[109]⟩ : ByteArray) ++ x)) (fun k => by rw [laws_markText.l0, if_neg (by omega), if_pos (by omega)]) (Ev.now _)⟩
    · have hd : wrap64 (Int.tdiv (n : Int) 10) = ((n / 10 : Nat) : Int) := by
        rw [Int.tdiv_eq_ediv_of_nonneg (by omega), w64 (by omega) (by omega)]
        omega
      obtain ⟨b, hb⟩ := markText_from d (n / 10) (strOfNums [(wrap64 (48 + (Int.tmod (n : Int) 10))) % 256] ++ x) (by rw [Nat.pow_succ] at h; omega) (by omega) (by rw [ByteArray.size_append, one_size]; omega)
      refine ⟨b, Ev.step (fun k => ?_) hb⟩
      rw [laws_markText.l0, if_pos (by omega), hd]
      simp only [Option.bind_some]
      rw [if_pos (by rw [one_size]; omega)]
theorem markText_ev (n : Nat) (h1 : 1 ≤ n) (h : n ≤ 1000000000) : ∃ b, Ev (fun k => laws_markText.f k (n : Int)) b := by
  obtain ⟨b, hb⟩ := markText_from 10 n ⟨#[]⟩ (by omega) h (by decide)
  refine ⟨b, ?_⟩
  unfold laws_markText.f
  exact neg_ (by omega) hb
open Classical in
/-- The mark of number n. -/
noncomputable def markB (n : Nat) : ByteArray := if h : ∃ b, Ev (fun k => laws_markText.f k (n : Int)) b then h.choose else ⟨#[]⟩
theorem markB_ev (n : Nat) (h1 : 1 ≤ n) (h : n ≤ 1000000000) : Ev (fun k => laws_markText.f k (n : Int)) (markB n) := by
  have h := markText_ev n h1 h
  unfold markB
  rw [dif_pos h]
  exact h.choose_spec
/-- The first n marks from k0 on. -/
noncomputable def marks (k0 n : Nat) : List ByteArray := (List.range n).map fun j => markB (k0 + j)
theorem marks_length (k0 n : Nat) : (marks k0 n).length = n := by simp [marks]
theorem marks_succ (k0 n : Nat) : marks k0 (n + 1) = marks k0 n ++ [markB (k0 + n)] := by simp [marks, List.range_succ]
theorem mark_from (k0 : Nat) (h0 : 1 ≤ k0) (r : Nat) (hr : k0 + r ≤ 100000000) : ∀ (d i : Nat) (rest : List ByteArray), rest.length = d → i + d = r →
    Ev (fun k => laws_markStringS.l0 k (marks k0 i ++ rest) ((k0 + i : Nat) : Int) (i : Int)) (((k0 + r : Nat) : Int), marks k0 r)
  | 0, i, rest, h, hi => by
    obtain rfl : rest = [] := List.eq_nil_of_length_eq_zero h
    obtain rfl : i = r := by omega
    refine Ev.step (f := fun _ => some _) (fun k => ?_) (Ev.now _)
    rw [laws_markStringS.l0, if_neg (by simp [marks_length]), List.append_nil]
  | d + 1, i, rest, h, hi => by
    match rest, h with
    | x :: rest, h =>
      have ih := mark_from k0 h0 r hr d (i + 1) rest (by simpa using h) (by omega)
      refine Ev.step (fun k => by rw [laws_markStringS.l0, if_pos (by simp [marks_length]; omega)]) ?_
      refine Ev.bind (markB_ev (k0 + i) (by omega) (by omega)) ?_
      refine pos_ (by omega) ?_
      have e1 : wrap64 (((k0 + i : Nat) : Int) + 1) = ((k0 + (i + 1) : Nat) : Int) := by rw [w64 (by omega) (by omega)]; omega
      have e2 : wrap64 ((i : Int) + 1) = ((i + 1 : Nat) : Int) := by rw [w64 (by omega) (by omega)]; omega
      have e3 : (marks k0 i ++ x :: rest).set (i : Int).toNat (markB (k0 + i)) = marks k0 (i + 1) ++ rest := by
        have : (i : Int).toNat = (marks k0 i).length + 0 := by rw [marks_length]; omega
        rw [this, List.set_append_right _ _ (by omega), marks_succ]
        simp
      simp only [e1, e2, e3]
      exact ih
theorem mark_ev (l : List ByteArray) (hl : l.length ≤ 4194304) : Ev (fun k => laws_markStringS.f k l 1) (((1 + l.length : Nat) : Int), marks 1 l.length) := by
  have := mark_from 1 (by omega) l.length (by omega) l.length 0 l rfl (by omega)
  simpa [laws_markStringS.f, marks] using this
theorem held_from (k0 : Nat) (h0 : 1 ≤ k0) (r : Nat) (hr : k0 + r ≤ 100000000) : ∀ (d i : Nat), i + d = r →
    Ev (fun k => laws_heldStringS.l0 k (marks k0 r) ((k0 + i : Nat) : Int) (i : Int)) ((k0 + r : Nat) : Int)
  | 0, i, hi => by
    obtain rfl : i = r := by omega
    refine Ev.step (f := fun _ => some _) (fun k => ?_) (Ev.now _)
    rw [laws_heldStringS.l0, if_neg (by simp [marks_length])]
  | d + 1, i, hi => by
    have ih := held_from k0 h0 r hr d (i + 1) (by omega)
    refine Ev.step (fun k => by rw [laws_heldStringS.l0, if_pos (by simp [marks_length]; omega), if_pos (by omega)]) ?_
    refine Ev.bind (markB_ev (k0 + i) (by omega) (by omega)) ?_
    have e1 : wrap64 (((k0 + i : Nat) : Int) + 1) = ((k0 + (i + 1) : Nat) : Int) := by rw [w64 (by omega) (by omega)]; omega
    have e2 : wrap64 ((i : Int) + 1) = ((i + 1 : Nat) : Int) := by rw [w64 (by omega) (by omega)]; omega
    refine pos_ ?_ ?_
    · have : rdOf ByteArray.empty (marks k0 r) (i : Int) = markB (k0 + i) := by
        simp [rdOf, marks, List.getD_eq_getElem?_getD, show i < r by omega]
      rw [this]
    · simp only [e1, e2]
      exact ih
theorem held_ev (n : Nat) (hn : n ≤ 4194304) : Ev (fun k => laws_heldStringS.f k (marks 1 n) 1) ((1 + n : Nat) : Int) := by
  have := held_from 1 (by omega) n (by omega) n 0 (by omega)
  simpa [laws_heldStringS.f] using this

theorem takes_few : ∀ (d : Nat) (s : ByteArray) (p : Nat), (takes d s p).1.length ≤ d
  | 0, _, _ => by simp [takes]
  | d + 1, s, p => by
    by_cases h : isFrame s p
    · rw [takes_yes h]
      have := takes_few d s (p + 8 + hdr s p)
      simp only [List.length_cons]
      omega
    · rw [takes_no h]
      simp

theorem FnExactTakeFrames : laws_FnExactTakeFrames.Pure := by
  intro s hs
  apply Ev.rounds
  unfold laws_FnExactTakeFrames.f
  by_cases h : (s.size : Int) > 1048576
  · exact pos_ h (Ev.now _)
  · refine neg_ h ?_
    obtain ⟨h1, h2⟩ := takes_all s (by omega)
    have hl := takes_few (s.size + 1) s 0
    generalize takes (s.size + 1) s 0 = t at *
    obtain ⟨l, n⟩ := t
    simp only at hl h1 h2
    have hq := eqS_same l (by omega)
    refine Ev.bind h1 (Ev.bind h2 (Ev.bind hq ?_))
    refine pos_ rfl ?_
    simp only [bne_self_eq_false]
    have hm := mark_ev l (by omega)
    have hh := held_ev l.length (by omega)
    refine Ev.step (fun k => by rw [laws_FnExactTakeFrames.j0, if_neg (by decide)]) ?_
    refine Ev.bind hm (Ev.bind hh (neg_ (by omega) (pos_ rfl (Ev.bind h2 (Ev.bind hq (pos_ rfl ?_))))))
    simp only [bne_self_eq_false]
    refine Ev.step (fun k => by rw [laws_FnExactTakeFrames.j1, if_neg (by decide)]) ?_
    exact Ev.bind hh (neg_ (by omega) (pos_ rfl (Ev.now _)))
end Go.Proofs.Ytcfnhfbaakflgaa.Pure
