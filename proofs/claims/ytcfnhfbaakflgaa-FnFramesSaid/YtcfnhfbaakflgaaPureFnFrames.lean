/- FnFrames: of every drawn text what is read as frames are texts whose frames these are, up to the place that is told; a frame more behind them is read, too; of frames that are cut the first few come back. No condition. -/
import Derived.Test.YtcfnhfbaakflgaaQDraw
import Derived.Test.YtcfnhfbaakflgaaQChain
import Derived.Test.YtcfnhfbaakflgaaPFramesx7
namespace Go.Proofs.Ytcfnhfbaakflgaa.Pure
open Go.RowKit Go.Proofs.Ytcfnhfbaakflgaa.PFrames Go.Proofs.YtcfnhfbaakflgaaW.PrintWords Go.Proofs.YtcfnhfbaakflgaaW.PrintLast

theorem hurt_ok {b : List Int} {p : Int} (g : Good b p) (a : ByteArray) (ha : a.size ≤ 1000) : ∃ t q, Ev (fun k => spec_l1Rd_hurt.f k b p a) (t, q) ∧ t.size ≤ a.size + 2 := by
  obtain ⟨v, q, hv, v0, v1, g1⟩ := below_ok g 6 (by omega) (by omega)
  unfold spec_l1Rd_hurt.f
  simp only [hv, Option.bind_some]
  by_cases c0 : v = 0
  · obtain ⟨t, q2, h1, h2, h3⟩ := bytes_ok g1 2 (by omega)
    refine ⟨a ++ t, q2, pos_ c0 (Ev.bind h1 (pos_ ?_ (Ev.now _))), by rw [ByteArray.size_append]; omega⟩
    show a.size + t.size ≤ _
    omega
  · by_cases c1 : v = 1
    · obtain ⟨u, q2, hu, u0, u1, g2⟩ := below_ok g1 ((a.size : Int) + 1) (by omega) (by omega)
      have e : wrap64 ((a.size : Int) + 1) = (a.size : Int) + 1 := w64 (by omega) (by omega)
      refine ⟨a.extract 0 u.toNat, q2, neg_ c0 (pos_ c1 ?_), by rw [ByteArray.size_extract]; omega⟩
      simp only [e, hu, Option.bind_some]
      exact pos_ u0 (pos_ (by omega) (Ev.now _))
    · by_cases c2 : v = 2
      · by_cases c3 : (a.size : Int) > 0
        · obtain ⟨u, q2, hu, u0, u1, g2⟩ := below_ok g1 (a.size : Int) (by omega) (by omega)
          obtain ⟨x, q3, hx, x0, x1, g3⟩ := below_ok g2 6 (by omega) (by omega)
          have e : wrap64 (u + 1) = u + 1 := w64 (by omega) (by omega)
          have hs : (rdOf ByteArray.empty [(⟨#[65]⟩ : ByteArray), (⟨#[49]⟩ : ByteArray), (⟨#[40]⟩ : ByteArray), (⟨#[44]⟩ : ByteArray), (⟨#[34]⟩ : ByteArray), (⟨#[32]⟩ : ByteArray)] x).size ≤ 1 := by
            obtain ⟨n, rfl⟩ := Int.eq_ofNat_of_zero_le x0
            match n, x1 with
            | 0, _ => decide
            | 1, _ => decide
            | 2, _ => decide
            | 3, _ => decide
            | 4, _ => decide
            | 5, _ => decide
            | n + 6, h => exact absurd h (by omega)
          refine ⟨(a.extract 0 u.toNat ++ rdOf ByteArray.empty [(⟨#[65]⟩ : ByteArray), (⟨#[49]⟩ : ByteArray), (⟨#[40]⟩ : ByteArray), (⟨#[44]⟩ : ByteArray), (⟨#[34]⟩ : ByteArray), (⟨#[32]⟩ : ByteArray)] x) ++ a.extract (u + 1).toNat a.size, q3, neg_ c0 (neg_ c1 (pos_ c2 (pos_ c3 ?_))), ?_⟩
          · simp only [hu, hx, Option.bind_some, e]
            refine pos_ u0 (pos_ (by omega) (pos_ x0 (pos_ (by simpa using x1) (pos_ ?_ (pos_ (by omega) (pos_ (by omega) (pos_ ?_ (Ev.now _))))))))
            · rw [ByteArray.size_extract]
              omega
            · rw [ByteArray.size_append, ByteArray.size_extract, ByteArray.size_extract]
              omega
          · rw [ByteArray.size_append, ByteArray.size_append, ByteArray.size_extract, ByteArray.size_extract]
            omega
        · exact ⟨a, _, neg_ c0 (neg_ c1 (pos_ c2 (neg_ c3 (Ev.now _)))), by omega⟩
      · exact ⟨a, _, neg_ c0 (neg_ c1 (neg_ c2 (Ev.now _))), by omega⟩
theorem frame_le (s : ByteArray) : (frameB s).size ≤ 8 + s.size := by
  by_cases h : s.size ≤ 1000000
  · rw [frameB_size h]
    exact Nat.le_refl _
  · unfold frameB
    rw [if_pos (by omega)]
    exact Nat.zero_le _
theorem drawT_from : ∀ (d : Nat) (s : ByteArray) {b : List Int} {p : Int}, Good b p → d ≤ 3 → s.size + 11 * d ≤ 40 → ∃ t, Ev (fun k => spec_DrawTakeFrames.l0 k s (d : Int) b p) t ∧ t.size ≤ 50
  | 0, s, b, p, g, _, h => by
    obtain ⟨t, q, h1, h2⟩ := hurt_ok g s (by omega)
    exact ⟨t, Ev.step (fun k => by rw [spec_DrawTakeFrames.l0, if_neg (by omega)]) (Ev.bind h1 (Ev.now _)), by omega⟩
  | d + 1, s, b, p, g, hd, h => by
    obtain ⟨t, q, ht, h1, g1⟩ := text_ok g
    have hf := frame_le t
    obtain ⟨u, h2, h3⟩ := drawT_from d (s ++ frameB t) g1 (by omega) (by rw [ByteArray.size_append]; omega)
    refine ⟨u, Ev.step (fun k => by rw [spec_DrawTakeFrames.l0, if_pos (by omega), ht, Option.bind_some]) ?_, h3⟩
    dsimp only
    refine Ev.bind (spec_FrameOf_ev t (by omega)) (pos_ (by omega) ?_)
    have e : wrap64 (((d + 1 : Nat) : Int) - 1) = (d : Int) := by rw [w64 (by omega) (by omega)]; omega
    simp only [e]
    exact h2
theorem drawT_ok (b : List Int) (g : Good b 0) : ∃ t, Ev (fun k => spec_DrawTakeFrames.f k b) t ∧ t.size ≤ 50 := by
  obtain ⟨v, q, hv, v0, v1, g1⟩ := below_ok g 4 (by omega) (by omega)
  obtain ⟨d, rfl⟩ := Int.eq_ofNat_of_zero_le v0
  obtain ⟨t, h1, h2⟩ := drawT_from d ⟨#[]⟩ g1 (by omega) (by show 0 + 11 * d ≤ 40; omega)
  refine ⟨t, ?_, h2⟩
  unfold spec_DrawTakeFrames.f spec_l1Open.f
  simp only [Option.bind_some, hv]
  exact h1
theorem drawF_ok (b : List Int) (g : Good b 0) : ∃ t, Ev (fun k => spec_DrawFrameOf.f k b) t ∧ t.size ≤ 8 := by
  obtain ⟨t, q, ht, h1, g1⟩ := text_ok g
  obtain ⟨u, q2, h2, h3, _⟩ := bytes_ok g1 5 (by omega)
  refine ⟨t ++ u, ?_, by rw [ByteArray.size_append]; omega⟩
  unfold spec_DrawFrameOf.f spec_l1Open.f
  simp only [Option.bind_some, ht]
  refine Ev.bind h2 (pos_ ?_ (Ev.now _))
  show t.size + u.size ≤ _
  omega

theorem sameT_from (l : List ByteArray) (hl : l.length ≤ 4194304) : ∀ (d i : Nat), i + d = l.length → Ev (fun k => laws_sameTexts.l0 k l l (i : Int)) true
  | 0, i, h => by
    refine Ev.step (f := fun _ => some true) (fun k => ?_) (Ev.now _)
    rw [laws_sameTexts.l0, if_neg (by omega)]
  | d + 1, i, h => by
    refine Ev.step (fun k => ?_) (sameT_from l hl d (i + 1) (by omega))
    rw [laws_sameTexts.l0, if_pos (by omega), if_pos (by omega), if_pos (by omega), if_pos rfl, w64 (by omega) (by omega)]
    rfl
theorem sameT (l : List ByteArray) (hl : l.length ≤ 4194304) : Ev (fun k => laws_sameTexts.f k l l) true := by
  unfold laws_sameTexts.f
  exact pos_ rfl (sameT_from l hl l.length 0 (by omega))

theorem all_from (x0 : List Int) (s : ByteArray) (l : List ByteArray) (n : Int) (hl : ∀ x ∈ l, x.size ≤ 1000000) (r : Bool) : ∀ (rest done : List ByteArray) (acc : ByteArray), l = done ++ rest → acc.size + (cat rest).size ≤ 4194304 → l.length ≤ 4194304 →
    Ev (fun k => laws_FnFrames.l0 k x0 s l n (acc ++ cat rest) (l.length : Int)) r → Ev (fun k => laws_FnFrames.l0 k x0 s l n acc ((done.length : Nat) : Int)) r
  | [], done, acc, h, hs, hm, H => by
    have e : acc ++ cat [] = acc := ByteArray.append_empty
    rw [e] at H
    have : l.length = done.length := by rw [h]; simp
    rw [← this]
    exact H
  | x :: rest, done, acc, h, hs, hm, H => by
    have hx : x.size ≤ 1000000 := hl x (by rw [h]; simp)
    have hlen : l.length = done.length + (rest.length + 1) := by rw [h]; simp
    have hr : rdOf ByteArray.empty l ((done.length : Nat) : Int) = x := by
      rw [h]
      simp [rdOf, List.getD_eq_getElem?_getD]
    have hc : (cat (x :: rest)).size = (frameB x).size + (cat rest).size := by rw [cat, ByteArray.size_append]
    have ih := all_from x0 s l n hl r rest (done ++ [x]) (acc ++ frameB x) (by rw [h]; simp) (by rw [ByteArray.size_append]; omega) hm (by rw [ByteArray.append_assoc]; exact H)
    refine Ev.step (fun k => by rw [laws_FnFrames.l0, if_pos (by omega), if_pos (by omega), hr]) ?_
    refine Ev.bind (impl_FrameOf_ev x (by omega)) (pos_ (by omega) ?_)
    have e : wrap64 (((done.length : Nat) : Int) + 1) = (((done ++ [x]).length : Nat) : Int) := by rw [w64 (by omega) (by omega)]; simp
    simp only [e]
    exact ih

theorem FnFrames : laws_FnFrames.Pure := by
  intro b _ _ hb
  apply Ev.rounds
  unfold laws_FnFrames.f laws_big.f
  simp only [Option.bind_some]
  by_cases hbig : (b.length : Int) > 1048576
  · exact pos_ (by simpa using hbig) (Ev.now _)
  · refine neg_ (by simpa using hbig) ?_
    have g : Good b 0 := ⟨by omega, by omega, by omega, fun x hx => by
      have := hb x hx
      simp [Lit.wf, IntKind.min, IntKind.max, IntKind.signed, IntKind.bits] at this
      omega⟩
    obtain ⟨s, hs, hsz⟩ := drawT_ok b g
    obtain ⟨t, ht, htz⟩ := drawF_ok b g
    obtain ⟨h1, h2⟩ := takes_all s (by omega)
    obtain ⟨hc, hn⟩ := chain_takes s (s.size + 1) 0 (by omega) (by omega)
    generalize takes (s.size + 1) s 0 = T at *
    obtain ⟨l, n⟩ := T
    simp only at h1 h2 hc hn
    have hns := hc.end_le (by omega)
    have hmany := hc.many
    have hfew := hc.few
    refine Ev.bind hs (Ev.bind h2 (Ev.bind h1 (Ev.bind (sameT l (by omega)) (pos_ rfl (pos_ rfl ?_)))))
    have e0 : (decide ((n : Int) > (s.size : Int))) = false := by rw [decide_eq_false_iff_not]; omega
    simp only [e0]
    refine Ev.step (fun k => by rw [laws_FnFrames.j0, if_neg (by decide)]) ?_
    -- all the frames' text is what s begins with
    obtain ⟨all, hall⟩ : ∃ all, all = s.extract 0 n := ⟨_, rfl⟩
    have hcat : cat l = all := by rw [← hc.text, hall]
    have hsplit : s = all ++ s.extract n s.size := by
      rw [hall, ByteArray.extract_append_extract, Nat.min_eq_left (by omega), Nat.max_eq_right (by omega), ByteArray.extract_zero_size]
    have hasz : all.size = n := by rw [hall, ByteArray.size_extract]; omega
    have hca : Chain all 0 l n := by
      rw [hsplit] at hc
      exact hc.unapp (by omega)
    refine all_from b s l (n : Int) hfew true l [] ⟨#[]⟩ rfl (by rw [hcat]; show 0 + all.size ≤ _; omega) (by omega) ?_
    have e1 : (⟨#[]⟩ : ByteArray) ++ cat l = all := by rw [hcat]; exact ByteArray.empty_append
    rw [e1]
    refine Ev.step (fun k => by rw [laws_FnFrames.l0, if_neg (by omega)]) ?_
    have hfz := frameB_size (s := t) (by omega)
    refine Ev.bind ht (Ev.bind (impl_FrameOf_ev t (by omega)) (pos_ (by omega) ?_))
    -- with a frame more
    obtain ⟨f1, f2, f3⟩ := frame_behind all t (by omega)
    have hsz2 : (all ++ frameB t).size = n + (8 + t.size) := by rw [ByteArray.size_append]; omega
    have hone : Chain (all ++ frameB t) 0 (l ++ [t]) (all ++ frameB t).size := by
      refine (hca.app (frameB t)).trans ?_
      rw [← hasz]
      have := Chain.cons f1 (Chain.nil _)
      rw [f2, f3] at this
      exact this
    have hend : ¬ isFrame (all ++ frameB t) (all ++ frameB t).size := fun h => by have := h.1; omega
    obtain ⟨_, k2⟩ := takes_all (all ++ frameB t) (by omega)
    obtain ⟨k3, k4⟩ := chain_takes (all ++ frameB t) ((all ++ frameB t).size + 1) 0 (by omega) (by omega)
    obtain ⟨k5, k6⟩ := k3.same k4 hone hend
    rw [k5, k6] at k2
    refine Ev.bind k2 ?_
    have ew : wrap64 ((all.size : Int) + 1) = (all.size : Int) + 1 := w64 (by omega) (by omega)
    simp only [ew]
    clear ew
    have hne : ¬ (all.size : Int) + 1 = 0 := by omega
    refine neg_ hne ?_
    obtain ⟨m, hm⟩ : ∃ m : Nat, (b.length : Int) % ((all.size : Int) + 1) = (m : Int) := ⟨((b.length : Int) % ((all.size : Int) + 1)).toNat, by
      have := Int.emod_nonneg (b.length : Int) (show (all.size : Int) + 1 ≠ 0 by omega)
      omega⟩
    have hm2 : m ≤ all.size := by
      have := Int.emod_lt_of_pos (b.length : Int) (show 0 < (all.size : Int) + 1 by omega)
      omega
    simp only [hm, Int.toNat_natCast]
    refine pos_ (by omega) (pos_ (by omega) ?_)
    -- with the frames cut
    have hcs : (all.extract 0 m).size = m := by rw [ByteArray.size_extract]; omega
    obtain ⟨_, q2⟩ := takes_all (all.extract 0 m) (by omega)
    obtain ⟨q3, q4⟩ := chain_takes (all.extract 0 m) ((all.extract 0 m).size + 1) 0 (by omega) (by omega)
    generalize takes ((all.extract 0 m).size + 1) (all.extract 0 m) 0 = U at *
    obtain ⟨few, e⟩ := U
    simp only at q2 q3 q4
    have hfs : all = all.extract 0 m ++ all.extract m all.size := by
      rw [ByteArray.extract_append_extract, Nat.min_eq_left (by omega), Nat.max_eq_right (by omega), ByteArray.extract_zero_size]
    have hq : Chain all 0 few e := by
      have := q3.app (all.extract m all.size)
      rw [← hfs] at this
      exact this
    have hpre : few <+: l := by
      have := hq.app (s.extract n s.size)
      rw [← hsplit] at this
      exact this.begins hc hn
    have hle := hpre.length_le
    refine Ev.bind q2 (pos_ (by omega) (pos_ (by omega) ?_))
    refine pos_ ?_ (pos_ ?_ (pos_ (by omega) (pos_ (by simp; omega) (pos_ ?_ ?_))))
    · rw [hall]
    · rw [w64 (by omega) (by omega)]
      simp
    · have : rdOf ByteArray.empty (l ++ [t]) (l.length : Int) = t := by simp [rdOf, List.getD_eq_getElem?_getD]
      rw [this]
    · refine Ev.bind (impl_FrameOf_ev t (by omega)) (pos_ ?_ (pos_ (show (few.length : Int) ≤ (l.length : Int) by omega) (pos_ (show (0 : Int) ≤ (few.length : Int) by omega) ?_)))
      · rw [w64 (by omega) (by omega)]
        omega
      · have : l.take few.length = few := (List.prefix_iff_eq_take.1 hpre).symm
        simp only [this]
        exact Ev.bind (sameT few (by omega)) (Ev.now _)
end Go.Proofs.Ytcfnhfbaakflgaa.Pure
