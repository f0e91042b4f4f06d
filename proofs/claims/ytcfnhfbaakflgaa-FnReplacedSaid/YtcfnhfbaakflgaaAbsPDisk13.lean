/- FnReplaced says true. -/
import Derived.Test.YtcfnhfbaakflgaaAbsPDisk12
set_option linter.unusedVariables false
set_option linter.unusedSimpArgs false
namespace Go.Proofs.Ytcfnhfbaakflgaa.Abs
open Go

/-! ### The draw -/
theorem s45 {x : List Int} (hl : x.length ≤ 1048576) (he : ∀ b ∈ x, 0 ≤ b ∧ b ≤ 255) : ∃ (d : dDisk') (nm data : ByteArray), Ev (fun k => c45 k x) ((d, nm, data, ()), ()) ∧ Drw d ∧ nm.size ≤ 200 ∧ data.size ≤ 3 := by
  obtain ⟨d, r1, e1, k1, j1⟩ := s62 (x1 := x) (x2 := 0) ⟨hl, he, by simp only; omega⟩
  obtain ⟨b, r2, e2, p2, q2, _, j2⟩ := s58 (n := 4) j1 (by decide)
  obtain ⟨t, r3, e3, j3⟩ := s91 (n := 12) j2 (by decide)
  have q2 := q2 (by decide)
  have hlt : b < (([(⟨#[98, 97, 115, 101]⟩ : ByteArray), (⟨#[108, 111, 103]⟩ : ByteArray), (⟨#[98, 97, 115, 101]⟩ : ByteArray), (⟨#[]⟩ : ByteArray)] : List ByteArray).length : Int) := by simp only [List.length_cons, List.length_nil]; omega
  cases t with
  | true =>
    obtain ⟨c, r4, e4, p4, q4, _, j4⟩ := s58 (n := 4) j3 (by decide)
    obtain ⟨s, r5, e5, p5, j5⟩ := s59 j4
    have q4 := q4 (by decide)
    have hw : IntKind.i64.wrap (95 + c) = 95 + c := wr (by omega) (by omega)
    have g0 : (0 : Int) ≤ 95 + c := by omega
    have g1 : Int.toNat (95 + c) * 1 ≤ 140737488355328 := by omega
    refine ⟨d, strOfNums (List.replicate (Int.toNat (95 + c)) 0), s, Ev.eqn 16 (fun k => c45_eq k x) ?_, k1, ?_, p5⟩
    · refine Ev.bind (Ev.later (s57 x) _) ?_
      refine Ev.bind (Ev.later e1 _) ?_
      refine Ev.bind (Ev.later e2 _) ?_
      simp only [p2, hlt, if_true]
      refine Ev.bind (Ev.later e3 _) ?_
      simp only [if_true]
      refine Ev.bind (Ev.later e4 _) ?_
      simp only [hw, g0, g1, if_true]
      refine Ev.bind (Ev.later e5 _) ?_
      exact Ev.now
    · rw [strOfNums_size, List.length_replicate]
      omega
  | false =>
    obtain ⟨s, r5, e5, p5, j5⟩ := s59 j3
    have hm := getD_in (l := [(⟨#[98, 97, 115, 101]⟩ : ByteArray), (⟨#[108, 111, 103]⟩ : ByteArray), (⟨#[98, 97, 115, 101]⟩ : ByteArray), (⟨#[]⟩ : ByteArray)]) (d := (⟨#[]⟩ : ByteArray)) p2 hlt
    refine ⟨d, List.getD ([(⟨#[98, 97, 115, 101]⟩ : ByteArray), (⟨#[108, 111, 103]⟩ : ByteArray), (⟨#[98, 97, 115, 101]⟩ : ByteArray), (⟨#[]⟩ : ByteArray)] : List ByteArray) (Int.toNat b) (⟨#[]⟩ : ByteArray), s, Ev.eqn 16 (fun k => c45_eq k x) ?_, k1, ?_, p5⟩
    · refine Ev.bind (Ev.later (s57 x) _) ?_
      refine Ev.bind (Ev.later e1 _) ?_
      refine Ev.bind (Ev.later e2 _) ?_
      simp only [p2, hlt, if_true]
      refine Ev.bind (Ev.later e3 _) ?_
      simp only [Bool.false_eq_true, if_false]
      refine Ev.bind (Ev.later e5 _) ?_
      exact Ev.now
    · generalize List.getD _ _ _ = u at hm ⊢
      simp only [List.mem_cons, List.not_mem_nil, or_false] at hm
      rcases hm with rfl | rfl | rfl | rfl <;> decide
/-! ### What is read -/
theorem rd_put_other {xs : List dFile} {nm nm2 data : ByteArray} (h : Asc xs) (hne : nm2 ≠ nm) : rdF (putG nm2 data false xs) nm = rdF xs nm := by
  by_cases hx : ∃ y ∈ xs, y.1 = nm
  · obtain ⟨y, hy, he⟩ := hx
    have ey : y = (nm, y.2.1, ()) := by rw [← he]
    rw [ey] at hy
    rw [rd_in h hy]
    refine rd_in (put_asc h) (put_perm.symm.subset (List.mem_cons_of_mem _ (List.mem_filter.2 ⟨hy, ?_⟩)))
    simpa using fun e => hne e.symm
  · have hn : ∀ y ∈ xs, y.1 ≠ nm := fun y hy e => hx ⟨y, hy, e⟩
    rw [rd_out hn, rd_out (put_out hne hn)]
theorem fresh_ne (nm : ByteArray) : nm ++ dotNew ≠ nm := by
  intro h
  have := congrArg ByteArray.size h
  rw [ByteArray.size_append] at this
  have h4 : dotNew.size = 4 := rfl
  omega
theorem rd_fst_false {xs : List dFile} {nm : ByteArray} (h : (rdF xs nm).2 = false) : fnd nm xs 0 < 0 := by
  unfold rdF at h
  by_cases hf : fnd nm xs 0 < 0
  · exact hf
  · rw [if_neg hf] at h
    cases h
theorem fnd_none {xs : List dFile} {nm : ByteArray} (h : fnd nm xs 0 < 0) : ∀ y ∈ xs, y.1 ≠ nm := by
  rcases fnd_cases nm xs 0 (Int.le_refl _) with ⟨h1, _⟩ | ⟨a, y, b, rfl, h2, h3, h4⟩
  · exact h1
  · omega
section
variable {d : dDisk'} {nm data : ByteArray}
/-- The disk behind a replacement of a file on a synced disk. -/
theorem rep_form (hk : okD d = true) (hs : d.2.1 = d.1 ∧ d.2.2.1 = []) (hf : fnd (nm ++ dotNew) d.1 0 < 0) (hz : (replaceD d nm data).2 = 0) :
    ∃ a : dDisk', (replaceD d nm data).1 = a ∧ okD a = true ∧ a.1 = (doF (doF d.1 (opA nm data)).1 (opR nm)).1 ∧ a.2.1 = d.1 ∧ a.2.2.1 = [opA nm data, opR nm] ∧ filesOk (doF d.1 (opA nm data)).1 = true ∧ formOk (opA nm data) = true ∧ formOk (opR nm) = true ∧ (doF (doF d.1 (opA nm data)).1 (opR nm)).2 = true := by
  refine ⟨_, rfl, replace_ok d nm data, ?_⟩
  unfold replaceD at hz ⊢
  rw [if_pos hk] at hz ⊢
  unfold repOps at hz ⊢
  rw [if_neg (by omega)] at hz ⊢
  by_cases h1 : (actD d (opA nm data)).2 = 0
  · rw [rep_yes h1] at hz ⊢
    obtain ⟨a1, a2, a3, a4⟩ := act_yes h1
    by_cases h2 : (actD (actD d (opA nm data)).1 (opR nm)).2 = 0
    · rw [rep_yes h2, rep_nil]
      obtain ⟨b1, b2, b3, b4⟩ := act_yes h2
      rw [a4] at b2 b4 ⊢
      rw [b4]
      refine ⟨rfl, hs.1, ?_, a3, a1, b1, b2⟩
      show (d.2.2.1 ++ [opA nm data]) ++ [opR nm] = _
      rw [hs.2]
      rfl
    · rw [rep_no h2] at hz
      exact absurd hz h2
  · rw [rep_no h1] at hz
    exact absurd hz h1
theorem read_live (ha : Asc d.1) (hf : fnd (nm ++ dotNew) d.1 0 < 0) (hd : (doF (doF d.1 (opA nm data)).1 (opR nm)).2 = true) : rdF (doF (doF d.1 (opA nm data)).1 (opR nm)).1 nm = (data, true) := by
  have ha2 : Asc (doF d.1 (opA nm data)).1 := by
    unfold doF
    rw [if_pos rfl]
    exact put_asc ha
  have h1 := (rd_rename (o := opR nm) ha2 rfl hd).1
  have h2 := rd_append (o := opA nm data) ha rfl
  have h3 : rdF d.1 (nm ++ dotNew) = (e0, false) := rd_out (fnd_none hf)
  have h1 : rdF (doF (doF d.1 (opA nm data)).1 (opR nm)).1 nm = ((rdF (doF d.1 (opA nm data)).1 (nm ++ dotNew)).1, true) := h1
  have h2 : rdF (doF d.1 (opA nm data)).1 (nm ++ dotNew) = ((rdF d.1 (nm ++ dotNew)).1 ++ data, true) := h2
  rw [h1, h2, h3]
  refine Prod.ext ?_ rfl
  exact toList_inj (by simp [ByteArray.toList_eq, e0])
/-- An append with less data. -/
theorem cut_files (hc : chk none d.1 = true) {o : dDOp} (hform : formOk o = true) (h1 : o.1 = 1) (hk : filesOk (doF d.1 o).1 = true) (torn : Int) : filesOk (doF d.1 (cutOp o torn)).1 = true := by
  have hfc := form_cut torn hform
  have hck := chk_do hc hfc
  have hs := filesOk_small hk
  rw [← filesOk_eq, hck, Bool.true_and]
  have e1 : (doF d.1 (cutOp o torn)).1 = putG o.2.1 (if fnd o.2.1 d.1 0 ≥ 0 then (List.getD d.1 (fnd o.2.1 d.1 0).toNat tFile.dflt).2.1 ++ (cutOp o torn).2.2.2.1 else (cutOp o torn).2.2.2.1) false d.1 := by
    unfold doF
    rw [if_pos (show (cutOp o torn).1 = 1 from h1)]
    rfl
  have e2 : (doF d.1 o).1 = putG o.2.1 (if fnd o.2.1 d.1 0 ≥ 0 then (List.getD d.1 (fnd o.2.1 d.1 0).toNat tFile.dflt).2.1 ++ o.2.2.2.1 else o.2.2.2.1) false d.1 := by
    unfold doF
    rw [if_pos h1]
  rw [e1]
  rw [e2] at hs
  have hlen : ∀ dt : ByteArray, (putG o.2.1 dt false d.1).length = (cutF o.2.1 d.1).length + 1 := fun dt => by
    rw [put_perm.length_eq]
    rfl
  have hcs := cut_size o torn
  unfold fewOk
  simp only [Bool.and_eq_true, decide_eq_true_eq]
  rw [hlen, tot_put_eq] at hs ⊢
  refine ⟨by omega, ?_⟩
  by_cases hp : fnd o.2.1 d.1 0 ≥ 0
  · rw [if_pos hp] at hs ⊢
    rw [ByteArray.size_append] at hs ⊢
    omega
  · rw [if_neg hp] at hs ⊢
    omega
/-- What a file holds behind a loss of power. -/
def After (d b : dDisk') (nm data : ByteArray) (ok : Bool) : Prop := ok = true ∧ okD b = true ∧ (rdF b.1 nm = rdF d.1 nm ∨ rdF b.1 nm = (data, true))
theorem ok_synced {xs : List dFile} (h : filesOk xs = true) : okD ((xs, xs, [], ()) : dDisk') = true := okD_iff.2 ⟨h, h, Nat.zero_le _, rfl⟩
theorem crash_after {a : dDisk'} (hk : okD d = true) (hf : fnd (nm ++ dotNew) d.1 0 < 0) (hka : okD a = true) (ha1 : a.1 = (doF (doF d.1 (opA nm data)).1 (opR nm)).1) (ha2 : a.2.1 = d.1) (ha3 : a.2.2.1 = [opA nm data, opR nm])
    (hfa : filesOk (doF d.1 (opA nm data)).1 = true) (hA : formOk (opA nm data) = true) (hR : formOk (opR nm) = true) (hd : (doF (doF d.1 (opA nm data)).1 (opR nm)).2 = true) {torn : Int} (ht : 0 ≤ torn) {keep : List Int}
    (hkeep : keep = [] ∨ keep = [0] ∨ keep = [1] ∨ keep = [0, 1]) : After d (crashD a keep torn).1 nm data (crashD a keep torn).2 := by
  obtain ⟨p1, p2, p3, p4, _⟩ := okD_parts hk
  obtain ⟨q1, _⟩ := okD_parts hka
  have hasc : Asc d.1 := (chk_iff.1 p4).2.1
  have key : ∀ xs, runK a.2.2.1 torn keep a.2.1 = xs → filesOk xs = true → okK (a.2.2.1.length : Int) (-1) keep = true → (rdF xs nm = rdF d.1 nm ∨ rdF xs nm = (data, true)) → After d (crashD a keep torn).1 nm data (crashD a keep torn).2 := by
    intro xs h1 h2 h3 h4
    have : crashD a keep torn = ((xs, xs, [], ()), true) := by
      unfold crashD
      rw [if_pos ⟨hka, ht, h3, by rw [h1]; exact h2⟩, h1]
    rw [this]
    exact ⟨rfl, ok_synced h2, h4⟩
  rw [ha2, ha3] at key
  have hn : (([opA nm data, opR nm] : List dDOp).length : Int) = 2 := rfl
  rw [hn] at key
  have cR : cutOp (opR nm) torn = opR nm := by
    have : ∀ n, (e0 : ByteArray).extract 0 n = e0 := fun n => by
      apply toList_inj
      simp [ByteArray.toList_eq, e0]
    unfold cutOp
    simp only
    rw [this]
  rcases hkeep with rfl | rfl | rfl | rfl
  · exact key d.1 rfl p1 rfl (.inl rfl)
  · refine key (doF d.1 (cutOp (opA nm data) torn)).1 rfl (cut_files p4 hA rfl hfa torn) rfl (.inl ?_)
    have e : (doF d.1 (cutOp (opA nm data) torn)).1 = putG (nm ++ dotNew) (cutOp (opA nm data) torn).2.2.2.1 false d.1 := by
      unfold doF
      rw [if_pos (show (cutOp (opA nm data) torn).1 = 1 from rfl), if_neg (show ¬ fnd (cutOp (opA nm data) torn).2.1 d.1 0 ≥ 0 from fun h => by have h : fnd (nm ++ dotNew) d.1 0 ≥ 0 := h; omega)]
      rfl
    rw [e]
    exact rd_put_other hasc (fresh_ne nm)
  · refine key d.1 ?_ p1 rfl (.inl rfl)
    show (doF d.1 (cutOp (opR nm) torn)).1 = d.1
    rw [cR]
    unfold doF
    rw [if_neg (show ¬ (2 : Int) = 1 by decide), if_pos hf]
  · refine key (doF (doF d.1 (opA nm data)).1 (opR nm)).1 ?_ (by rw [← ha1]; exact q1) rfl (.inr (read_live hasc hf hd))
    show (doF (doF d.1 (opA nm data)).1 (cutOp (opR nm) torn)).1 = _
    rw [cR]
end
/-! ### The law -/
theorem p12_end {x : List Int} {d a : dDisk'} {nm data : ByteArray} {keep : List Int} (hk : okD d = true) (hka : okD a = true) (hao : SmOps a.2.2.1) (hlive : rdF a.1 nm = (data, true)) (hkl : keep.length ≤ 2)
    (hC : After d (crashD a keep (Int.tmod (x.length : Int) 4)).1 nm data (crashD a keep (Int.tmod (x.length : Int) 4)).2) :
    Ev (fun k => p12_15 k x nm data (rdF d.1 nm).1 (rdF d.1 nm).2 (a.2.2.1.length : Int) keep a.1 a.2.1 a.2.2.1) ((true, ()), ()) := by
  have ea : ((a.1, a.2.1, a.2.2.1, ()) : dDisk') = a := rfl
  obtain ⟨hok, hkb, hr⟩ := hC
  have fa := (Dok.mk hka hao).fit.1
  have hbo : SmOps (crashD a keep (Int.tmod (x.length : Int) 4)).1.2.2.1 := by
    unfold crashD
    split
    · intro p hp
      cases hp
    · intro p hp
      cases hp
  have fb := (Dok.mk hkb hbo).fit.1
  have r1 := s36 (d := (crashD a keep (Int.tmod (x.length : Int) 4)).1) fb nm
  rw [read_ok hkb] at r1
  have r2 := s36 (d := a) fa nm
  rw [read_ok hka, hlive] at r2
  have eb : (((crashD a keep (Int.tmod (x.length : Int) 4)).1.1, (crashD a keep (Int.tmod (x.length : Int) 4)).1.2.1, (crashD a keep (Int.tmod (x.length : Int) 4)).1.2.2.1, ()) : dDisk') = (crashD a keep (Int.tmod (x.length : Int) 4)).1 := rfl
  refine Ev.eqn 15 (fun k => p12_15_eq k x nm data (rdF d.1 nm).1 (rdF d.1 nm).2 (a.2.2.1.length : Int) keep a.1 a.2.1 a.2.2.1) ?_
  simp only [Int.lt_irrefl, decide_false, Bool.false_eq_true, if_false, ea]
  refine Ev.bind (Ev.later (s29 fa (keep := keep) (torn := Int.tmod (x.length : Int) 4) (by omega)) _) ?_
  simp only [eb, hok]
  refine Ev.bind (Ev.later r1 _) ?_
  refine Ev.bind (Ev.later r2 _) ?_
  simp only [if_true, beq_self_eq_true]
  rcases hr with hr | hr
  · simp only [hr, beq_self_eq_true, if_true]
    exact Ev.now
  · simp only [hr, eqS]
    by_cases h1 : ((true == (rdF d.1 nm).2) = true)
    · simp only [h1, if_true]
      by_cases h2 : (decide (data = (rdF d.1 nm).1)) = true
      · simp only [h2, if_true]
        exact Ev.now
      · simp only [h2, Bool.false_eq_true, if_false, decide_true]
        exact Ev.now
    · simp only [h1, Bool.false_eq_true, if_false, decide_true]
      exact Ev.now
theorem p12_step {x : List Int} {x1 x2 x3 : ByteArray} {x4 : Bool} {i : Nat} {keep : List Int} {u v : List dFile} {ops : List dDOp} {z : (Bool × Unit) × Unit} (hl : x.length ≤ 1048576) (hi : i < ops.length) (hi2 : i ≤ 1000) (hk : keep.length ≤ 1000)
    (h1 : Ev (fun k => p12_15 k x x1 x2 x3 x4 ((i + 1 : Nat) : Int) keep u v ops) z) (h2 : Ev (fun k => p12_15 k x x1 x2 x3 x4 ((i + 1 : Nat) : Int) (keep ++ [(i : Int)]) u v ops) z) : Ev (fun k => p12_15 k x x1 x2 x3 x4 (i : Int) keep u v ops) z := by
  refine Ev.eqn 15 (fun k => p12_15_eq k x x1 x2 x3 x4 (i : Int) keep u v ops) ?_
  have hlt : (i : Int) < (ops.length : Int) := by omega
  have hw : IntKind.i64.wrap ((i : Int) + 1) = ((i + 1 : Nat) : Int) := by rw [wr (by omega) (by omega)]; omega
  simp only [hlt, decide_true, if_true, hw, decide_eq_true_eq]
  by_cases hx : (x.length : Int) > 0
  · have hx0 : ¬ (x.length : Int) = 0 := by omega
    obtain ⟨m1, m2⟩ := tmod_in (b := (i : Int)) (n := (x.length : Int)) (nn i) (by omega)
    obtain ⟨m3, m4⟩ := tmod_in (b := (i : Int)) (n := 8) (nn i) (by omega)
    have hu : IntKind.u64.wrap (Int.tmod (i : Int) 8) = Int.tmod (i : Int) 8 := wru (by omega) (by omega)
    have hu0 : ¬ Int.tmod (i : Int) 8 < 0 := by omega
    have hb : (List.length keep + List.length [(i : Int)]) * 8 ≤ 140737488355328 := mul8 (by rw [List.length_singleton]; omega)
    simp only [hx, hx0, m1, m2, hu, hu0, hb, if_true, if_false]
    by_cases hbit : (Int.tmod (Int.fdiv (List.getD x (Int.toNat (Int.tmod (i : Int) (x.length : Int))) 0) (2 ^ min (Int.toNat (Int.tmod (i : Int) 8)) (IntKind.bits .u8))) 2 == 1) = true
    · simp only [hbit, if_true]
      exact Ev.later h2 1
    · simp only [hbit, Bool.false_eq_true, if_false]
      exact Ev.later h1 1
  · simp only [hx, if_false]
    exact Ev.later h1 1
theorem s12 {x : List Int} (he : ∀ b ∈ x, 0 ≤ b ∧ b ≤ 255) : Ev (fun k => c12 k x) ((true, ()), ()) := by
  refine Ev.eqn 39 (fun k => c12_eq k x) ?_
  refine Ev.bind (Ev.later (s22 x) _) ?_
  by_cases hb : (x.length : Int) > 1048576
  · simp only [hb, decide_true, if_true]
    exact Ev.now
  obtain ⟨d0, nm, data, e1, k1, pn, pd⟩ := s45 (x := x) (by omega) he
  have f0 := k1.fit
  have hl1 := k1.l1
  have hl2 := k1.l2
  have hl3 := k1.l3
  have ed0 : ((d0.1, d0.2.1, d0.2.2.1, ()) : dDisk') = d0 := rfl
  simp only [hb, decide_false, Bool.false_eq_true, if_false]
  refine Ev.bind (Ev.later e1 _) ?_
  simp only [ed0]
  refine Ev.bind (Ev.later (s30 f0 (by omega) (by omega) (by omega)) _) ?_
  obtain ⟨d, hd⟩ : ∃ d, d = syncD d0 := ⟨_, rfl⟩
  rw [← hd]
  have hD : Dok d ∧ d.2.1 = d.1 ∧ d.2.2.1 = [] := by
    rw [hd]
    cases hk : okD d0 with
    | true =>
      refine ⟨Dok.sync ⟨hk, f0.ho⟩, ?_⟩
      unfold syncD
      rw [if_pos hk]
      exact ⟨rfl, rfl⟩
    | false =>
      unfold syncD
      rw [if_neg (by simp [hk])]
      exact ⟨Dok.nil, rfl, rfl⟩
  obtain ⟨hDok, hs⟩ := hD
  have hk := hDok.ok
  have hW := hDok.drw
  have f := hW.fit
  have w1 := hW.l1
  have w2 := hW.l2
  have w3 := hW.l3
  have ed : ((d.1, d.2.1, d.2.2.1, ()) : dDisk') = d := rfl
  simp only [ed]
  refine Ev.bind (Ev.later (s46 f (by omega) (by omega) (by omega) (nm := nm) (data := data) (by omega) (by omega)) _) ?_
  refine Ev.bind (Ev.later (s47 f (nm := nm) (data := data) (by omega) (by omega)) _) ?_
  simp only [bne_self_eq_false, Bool.false_eq_true, if_false, beq_self_eq_true]
  by_cases hz : (replaceD d nm data).2 = 0
  · have hzb : ((replaceD d nm data).2 != 0) = false := by rw [hz]; rfl
    have hsz : nm.size + ByteArray.size (⟨#[46, 110, 101, 119]⟩ : ByteArray) ≤ 9223372036854775807 := by
      have : ByteArray.size (⟨#[46, 110, 101, 119]⟩ : ByteArray) = 4 := rfl
      omega
    have r1 := s36 (d := d) f (nm ++ dotNew)
    rw [read_ok hk] at r1
    simp only [hzb, Bool.false_eq_true, if_false, hsz, if_true]
    refine Ev.bind (Ev.later r1 _) ?_
    cases hth : (rdF d.1 (nm ++ dotNew)).2 with
    | true =>
      simp only [if_true]
      exact Ev.now
    | false =>
      have r2 := s36 (d := d) f nm
      rw [read_ok hk] at r2
      simp only [Bool.false_eq_true, if_false]
      refine Ev.bind (Ev.later r2 _) ?_
      have hf := rd_fst_false hth
      obtain ⟨a, ea, hka, a1, a2, a3, a4, a5, a6, a7⟩ := rep_form hk hs hf hz
      rw [ea]
      obtain ⟨_, _, _, p4, _⟩ := okD_parts hk
      have hlive : rdF a.1 nm = (data, true) := by
        rw [a1]
        exact read_live (chk_iff.1 p4).2.1 hf a7
      have hao : SmOps a.2.2.1 := by
        rw [a3]
        have hz0 : (e0 : ByteArray).size = 0 := rfl
        intro o ho
        simp only [List.mem_cons, List.not_mem_nil, or_false] at ho
        rcases ho with rfl | rfl <;> simp only <;> omega
      have ht : 0 ≤ Int.tmod (x.length : Int) 4 := (tmod_in (nn _) (by decide)).1
      have hlen : a.2.2.1.length = 2 := by rw [a3]; rfl
      have fin : ∀ keep : List Int, keep = [] ∨ keep = [0] ∨ keep = [1] ∨ keep = [0, 1] → Ev (fun k => p12_15 k x nm data (rdF d.1 nm).1 (rdF d.1 nm).2 ((1 + 1 : Nat) : Int) keep a.1 a.2.1 a.2.2.1) ((true, ()), ()) := by
        intro keep hkeep
        have := p12_end (x := x) (d := d) (a := a) (nm := nm) (data := data) (keep := keep) hk hka hao hlive (by rcases hkeep with rfl | rfl | rfl | rfl <;> decide) (crash_after hk hf hka a1 a2 a3 a4 a5 a6 a7 ht hkeep)
        rw [hlen] at this
        exact this
      have st1 : ∀ keep : List Int, keep = [] ∨ keep = [0] → Ev (fun k => p12_15 k x nm data (rdF d.1 nm).1 (rdF d.1 nm).2 ((0 + 1 : Nat) : Int) keep a.1 a.2.1 a.2.2.1) ((true, ()), ()) := by
        intro keep hkeep
        refine p12_step (i := 1) (by omega) (by omega) (by omega) (by rcases hkeep with rfl | rfl <;> decide) (fin keep ?_) (fin (keep ++ [((1 : Nat) : Int)]) ?_)
        · rcases hkeep with rfl | rfl
          · exact .inl rfl
          · exact .inr (.inl rfl)
        · rcases hkeep with rfl | rfl
          · exact .inr (.inr (.inl rfl))
          · exact .inr (.inr (.inr rfl))
      exact Ev.later (p12_step (i := 0) (keep := []) (by omega) (by omega) (by omega) (Nat.zero_le _) (st1 [] (.inl rfl)) (st1 [0] (.inr rfl))) 1
  · have hzb : ((replaceD d nm data).2 != 0) = true := by simpa using hz
    simp only [hzb, if_true]
    exact Ev.now
end Go.Proofs.Ytcfnhfbaakflgaa.Abs
