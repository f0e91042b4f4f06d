-- printed by xprint, a program of this session's own round the kit's print; Lean checks it
import Derived.Test.YtcfnhfbaakflgaaPFramesx0
import Derived.Test.YtcfnhfbaakflgaaPFramesx1
import Derived.Test.YtcfnhfbaakflgaaPFramesx5
namespace Go.Proofs.Ytcfnhfbaakflgaa.PFrames
open Go.RowKit Go.Proofs.YtcfnhfbaakflgaaW.PrintWords Go.Proofs.YtcfnhfbaakflgaaW.PrintLast Go.Proofs.YtcfnhfbaakflgaaW.PrintMore
attribute [local go_sem] max2_int min2_int max_two min_two max_three min_three max_four min_four   -- for this text's walks alone
set_option linter.unusedVariables false
set_option linter.unusedSimpArgs false

/-! ### spec_l1Rd_hurt: function 60 -/
def spec_l1Rd_hurt.f (k : Nat) (s0_0 : List Int) (s0_1 : Int) (a1 : ByteArray) : Option (ByteArray × Int) := (spec_l1Rd_below.f s0_0 s0_1 6).bind fun bt192 => (if bt192.1 = 0 then ((spec_l1Rd_bytes.f k s0_0 bt192.2 2).bind fun bt194 => (if a1.size + bt194.1.size ≤ 9223372036854775807 then (some (a1 ++ bt194.1, bt194.2)) else (none))) else (if bt192.1 = 1 then ((spec_l1Rd_below.f s0_0 bt192.2 (wrap64 ((a1.size : Int) + 1))).bind fun bt196 => (if 0 ≤ bt196.1 then (if bt196.1 ≤ (a1.size : Int) then (some (a1.extract 0 (bt196.1 : Int).toNat, bt196.2)) else (none)) else (none))) else (if bt192.1 = 2 then (if (a1.size : Int) > 0 then ((spec_l1Rd_below.f s0_0 bt192.2 (a1.size : Int)).bind fun bt198 => (if 0 ≤ bt198.1 then (if bt198.1 ≤ (a1.size : Int) then ((some (([(⟨#[65]⟩ : ByteArray), (⟨#[49]⟩ : ByteArray), (⟨#[40]⟩ : ByteArray), (⟨#[44]⟩ : ByteArray), (⟨#[34]⟩ : ByteArray), (⟨#[32]⟩ : ByteArray)] : List ByteArray) : List ByteArray)).bind fun y200 => ((spec_l1Rd_below.f s0_0 bt198.2 6).bind fun bt203 => (if 0 ≤ bt203.1 then (if bt203.1 < (y200.length : Int) then (if (a1.extract 0 (bt198.1 : Int).toNat).size + (rdOf ByteArray.empty y200 bt203.1).size ≤ 9223372036854775807 then (if 0 ≤ (wrap64 (bt198.1 + 1)) then (if (wrap64 (bt198.1 + 1)) ≤ (a1.size : Int) then (if ((a1.extract 0 (bt198.1 : Int).toNat) ++ (rdOf ByteArray.empty y200 bt203.1)).size + (a1.extract ((wrap64 (bt198.1 + 1)) : Int).toNat a1.size).size ≤ 9223372036854775807 then (some (((a1.extract 0 (bt198.1 : Int).toNat) ++ (rdOf ByteArray.empty y200 bt203.1)) ++ (a1.extract ((wrap64 (bt198.1 + 1)) : Int).toNat a1.size), bt203.2)) else (none)) else (none)) else (none)) else (none)) else (none)) else (none)))) else (none)) else (none))) else (some (a1, bt192.2))) else (some (a1, bt192.2)))))
theorem spec_l1Rd_hurt.mono : ∀ a0 a1 a2 k, LeO (spec_l1Rd_hurt.f k a0 a1 a2) (spec_l1Rd_hurt.f (k + 1) a0 a1 a2) := by
  intro a0 a1 a2 k
  unfold spec_l1Rd_hurt.f
  repeat' first
      | (with_reducible exact spec_l1Rd_bytes.mono _ _ _ _)
      | (with_reducible exact LeO.refl _)
      | (with_reducible exact LeO.none _)
      | (with_reducible refine LeO.ite ?_ ?_)
      | (with_reducible refine LeO.bind ?_ (fun _ => ?_))
      | exact spec_l1Rd_bytes.mono _ _ _ _
      | exact LeO.none _
      | refine LeO.ite ?_ ?_
      | refine LeO.bind ?_ (fun _ => ?_)
def spec_l1Rd_hurt.T9 : Bool × List (List Nat × List Nat) := (true, [([], []), ([], []), ([0, 1], [0, 1]), ([], []), ([], []), ([4], [4]), ([3, 5], [3, 5]), ([6], [6]), ([2, 7], [2, 7]), ([], []), ([], []), ([10], [10]), ([9, 11], [9, 11]), ([8, 12], [8, 12]), ([13, 5, 0, 1, 2, 3, 4, 5, 6, 7, 8, 9, 10, 11, 12, 13], [13])])
def spec_l1Rd_hurt.B9 : List Nat := [0, 0, 3, 0, 0, 16, 56, 120, 255, 0, 0, 1024, 3584, 8191, 16383]
theorem spec_l1Rd_hurt.tab9 : rtab .any (opsOf Try.f60 9) = spec_l1Rd_hurt.T9 := by kernel_rfl
theorem spec_l1Rd_hurt.bits9 : waitsOk spec_l1Rd_hurt.T9.2 spec_l1Rd_hurt.B9 = true := by kernel_rfl
set_option maxHeartbeats 8000000 in
set_option maxRecDepth 100000 in
theorem spec_l1Rd_hurt.calls (k : Nat) (g : Nat) (s0_0 : List Int) (s0_1 : Int) (a1 : ByteArray) (r1 : ByteArray) (r2 : Int) (w0 w : World) (hI : IsS108 w0 w g s0_0 s0_1) (hB : Below w0.heap.size w0 w) (h : spec_l1Rd_hurt.f k s0_0 s0_1 a1 = some (r1, r2)) :
    Calls Try.prog 60 #[.pointer (some ⟨g, 0, none⟩), .string a1] w fun e w' => e = .returned (.string r1) ∧ IsS108 w0 w' g s0_0 r2 ∧ Below w0.heap.size w0 w' ∧ KeepBut w w' g none := by
  have HI0 := Aside0.mk hI
  have HK := Aside0.mk (KeepBut.refl w g none)
  have HL := Aside0.mk hB.size
  clear hI
  have HW0 := Aside0.mk hB.size
  have HB := Aside0.mk hB
  clear hB
  have H : ((spec_l1Rd_below.f s0_0 s0_1 6).bind fun bt192 => (if bt192.1 = 0 then ((spec_l1Rd_bytes.f k s0_0 bt192.2 2).bind fun bt194 => (if a1.size + bt194.1.size ≤ 9223372036854775807 then (some (a1 ++ bt194.1, bt194.2)) else (none))) else (if bt192.1 = 1 then ((spec_l1Rd_below.f s0_0 bt192.2 (wrap64 ((a1.size : Int) + 1))).bind fun bt196 => (if 0 ≤ bt196.1 then (if bt196.1 ≤ (a1.size : Int) then (some (a1.extract 0 (bt196.1 : Int).toNat, bt196.2)) else (none)) else (none))) else (if bt192.1 = 2 then (if (a1.size : Int) > 0 then ((spec_l1Rd_below.f s0_0 bt192.2 (a1.size : Int)).bind fun bt198 => (if 0 ≤ bt198.1 then (if bt198.1 ≤ (a1.size : Int) then ((some (([(⟨#[65]⟩ : ByteArray), (⟨#[49]⟩ : ByteArray), (⟨#[40]⟩ : ByteArray), (⟨#[44]⟩ : ByteArray), (⟨#[34]⟩ : ByteArray), (⟨#[32]⟩ : ByteArray)] : List ByteArray) : List ByteArray)).bind fun y200 => ((spec_l1Rd_below.f s0_0 bt198.2 6).bind fun bt203 => (if 0 ≤ bt203.1 then (if bt203.1 < (y200.length : Int) then (if (a1.extract 0 (bt198.1 : Int).toNat).size + (rdOf ByteArray.empty y200 bt203.1).size ≤ 9223372036854775807 then (if 0 ≤ (wrap64 (bt198.1 + 1)) then (if (wrap64 (bt198.1 + 1)) ≤ (a1.size : Int) then (if ((a1.extract 0 (bt198.1 : Int).toNat) ++ (rdOf ByteArray.empty y200 bt203.1)).size + (a1.extract ((wrap64 (bt198.1 + 1)) : Int).toNat a1.size).size ≤ 9223372036854775807 then (some (((a1.extract 0 (bt198.1 : Int).toNat) ++ (rdOf ByteArray.empty y200 bt203.1)) ++ (a1.extract ((wrap64 (bt198.1 + 1)) : Int).toNat a1.size), bt203.2)) else (none)) else (none)) else (none)) else (none)) else (none)) else (none)))) else (none)) else (none))) else (some (a1, bt192.2))) else (some (a1, bt192.2)))))) = some (r1, r2) := h
  clear h
  replace H := Option.bind_eq_some_iff.mp H
  obtain ⟨⟨t192, t193⟩, A30, H⟩ := H
  replace H : (if t192 = 0 then ((spec_l1Rd_bytes.f k s0_0 t193 2).bind fun bt194 => (if a1.size + bt194.1.size ≤ 9223372036854775807 then (some (a1 ++ bt194.1, bt194.2)) else (none))) else (if t192 = 1 then ((spec_l1Rd_below.f s0_0 t193 (wrap64 ((a1.size : Int) + 1))).bind fun bt196 => (if 0 ≤ bt196.1 then (if bt196.1 ≤ (a1.size : Int) then (some (a1.extract 0 (bt196.1 : Int).toNat, bt196.2)) else (none)) else (none))) else (if t192 = 2 then (if (a1.size : Int) > 0 then ((spec_l1Rd_below.f s0_0 t193 (a1.size : Int)).bind fun bt198 => (if 0 ≤ bt198.1 then (if bt198.1 ≤ (a1.size : Int) then ((some (([(⟨#[65]⟩ : ByteArray), (⟨#[49]⟩ : ByteArray), (⟨#[40]⟩ : ByteArray), (⟨#[44]⟩ : ByteArray), (⟨#[34]⟩ : ByteArray), (⟨#[32]⟩ : ByteArray)] : List ByteArray) : List ByteArray)).bind fun y200 => ((spec_l1Rd_below.f s0_0 bt198.2 6).bind fun bt203 => (if 0 ≤ bt203.1 then (if bt203.1 < (y200.length : Int) then (if (a1.extract 0 (bt198.1 : Int).toNat).size + (rdOf ByteArray.empty y200 bt203.1).size ≤ 9223372036854775807 then (if 0 ≤ (wrap64 (bt198.1 + 1)) then (if (wrap64 (bt198.1 + 1)) ≤ (a1.size : Int) then (if ((a1.extract 0 (bt198.1 : Int).toNat) ++ (rdOf ByteArray.empty y200 bt203.1)).size + (a1.extract ((wrap64 (bt198.1 + 1)) : Int).toNat a1.size).size ≤ 9223372036854775807 then (some (((a1.extract 0 (bt198.1 : Int).toNat) ++ (rdOf ByteArray.empty y200 bt203.1)) ++ (a1.extract ((wrap64 (bt198.1 + 1)) : Int).toNat a1.size), bt203.2)) else (none)) else (none)) else (none)) else (none)) else (none)) else (none)))) else (none)) else (none))) else (some (a1, t193))) else (some (a1, t193))))) = some (r1, r2) := H
  have A3 := Aside0.mk A30
  clear A30
  by_cases c4 : t192 = 0
  · rw [if_pos c4] at H
    have c4b0 : (t192 == 0) = true := beq_iff_eq.mpr c4
    have c4b1 : (t192 != 0) = false := bne_eq_false_iff_eq.mpr c4
    clear c4
    replace H := Option.bind_eq_some_iff.mp H
    obtain ⟨⟨t194, t195⟩, A50, H⟩ := H
    replace H : (if a1.size + t194.size ≤ 9223372036854775807 then (some (a1 ++ t194, t195)) else (none)) = some (r1, r2) := H
    have A5 := Aside0.mk A50
    clear A50
    by_cases c6 : a1.size + t194.size ≤ 9223372036854775807
    · rw [if_pos c6] at H
      have c6b0 := eq_true c6
      have c6b1 : decide (a1.size + t194.size ≤ 9223372036854775807) = true := decide_eq_true c6
      try have c6b2 : (9223372036854775807 < a1.size + t194.size) = False := eq_false (Nat.not_lt.2 c6)
      simp only [Option.some.injEq, Prod.mk.injEq] at H
      obtain ⟨rfl, rfl⟩ := H
      go_enter Try.func60, Try.ntmps60
      go_wp2_with (first | ((with_reducible refine gate_callee (f := 58) rfl ?_); refine goesL_ (some 7) rfl rfl Try.func58 (by kernel_rfl) rfl #[.pointer (some ⟨g, 0, none⟩), .int .i64 6] rfl (by (try simp only [List.map_toArray, List.map_cons, List.map_nil]); first | done | rfl | (simp only [List.length_drop, List.length_take]; rfl)) ?_; (with_reducible refine (spec_l1Rd_below.calls g s0_0 s0_1 6 t192 t193 w0 _ ?side1 ?side2 A3.out).mono ?_); (case side1 => repeat (first | (with_reducible first | exact HI0.out | apply IsS108.alloc | apply IsS108.drewN | apply IsS108.drew | apply IsS108.set_1) | exact HI0.out)); (case side2 => repeat (first | (with_reducible first | exact HB.out | apply below_alloc | apply pw_below_drewN | apply below_drew1 | refine below_set ?_ (IsS108.ge HI0.out)) | exact HB.out)); rintro e w7 ⟨rfl, hi, hb, hk⟩; refine ⟨_, rfl, ?_⟩; have n0_ := Aside0.mk (KeepBut.trans (by repeat (first | (with_reducible first | exact HK.out | apply KeepBut.set_ | apply keep_drewN | apply keep_drew | apply keep_alloc) | exact HK.out)) hk (.inl rfl)); have n1_ := Aside0.mk (hb); have n2_ := Aside0.mk (hi); clear HK; clear HB; clear HI0; have HK := n0_; have HB := n1_; have HI0 := n2_; clear n0_ n1_ n2_; (try clear hb); (try clear hb2); (try clear hk); (try clear hi)) | ((with_reducible refine gate_callee (f := 61) rfl ?_); refine goesL_ (some 12) rfl rfl Try.func61 (by kernel_rfl) rfl #[.pointer (some ⟨g, 0, none⟩), .int .i64 2] rfl (by (try simp only [List.map_toArray, List.map_cons, List.map_nil]); first | done | rfl | (simp only [List.length_drop, List.length_take]; rfl)) ?_; (with_reducible refine (spec_l1Rd_bytes.calls k g s0_0 t193 2 t194 t195 w0 _ ?side1 ?side2 A5.out).mono ?_); (case side1 => repeat (first | (with_reducible first | exact HI0.out | apply IsS108.alloc | apply IsS108.drewN | apply IsS108.drew | apply IsS108.set_1) | exact HI0.out)); (case side2 => repeat (first | (with_reducible first | exact HB.out | apply below_alloc | apply pw_below_drewN | apply below_drew1 | refine below_set ?_ (IsS108.ge HI0.out)) | exact HB.out)); rintro e w8 ⟨rfl, hi, hb, hk⟩; refine ⟨_, rfl, ?_⟩; have n0_ := Aside0.mk (KeepBut.trans (by repeat (first | (with_reducible first | exact HK.out | apply KeepBut.set_ | apply keep_drewN | apply keep_drew | apply keep_alloc) | exact HK.out)) hk (.inl rfl)); have n1_ := Aside0.mk (hb); have n2_ := Aside0.mk (hi); clear HK; clear HB; clear HI0; have HK := n0_; have HB := n1_; have HI0 := n2_; clear n0_ n1_ n2_; (try clear hb); (try clear hb2); (try clear hk); (try clear hi)))
      go_ret
      exact ⟨by first | rfl | (simp [errW_none, errW_some] <;> rfl) | (simp [*, errW_none, errW_some] <;> rfl), by repeat (first | (with_reducible first | exact HI0.out | apply IsS108.alloc | apply IsS108.drewN | apply IsS108.drew | apply IsS108.set_1) | exact HI0.out), by repeat (first | (with_reducible first | exact HB.out | apply below_alloc | apply pw_below_drewN | apply below_drew1 | refine below_set ?_ (IsS108.ge HI0.out)) | exact HB.out), by repeat (first | (with_reducible first | exact HK.out | apply KeepBut.set_ | apply keep_drewN | apply keep_drew | apply keep_alloc) | exact HK.out)⟩
    · rw [if_neg c6] at H
      exact absurd H (by simp)
  · rw [if_neg c4] at H
    have c4b0 : (t192 == 0) = false := beq_eq_false_iff_ne.mpr c4
    have c4b1 : (t192 != 0) = true := bne_iff_ne.mpr c4
    by_cases c9 : t192 = 1
    · rw [if_pos c9] at H
      have c9b0 : (t192 == 1) = true := beq_iff_eq.mpr c9
      have c9b1 : (t192 != 1) = false := bne_eq_false_iff_eq.mpr c9
      clear c9
      replace H := Option.bind_eq_some_iff.mp H
      obtain ⟨⟨t196, t197⟩, A100, H⟩ := H
      replace H : (if 0 ≤ t196 then (if t196 ≤ (a1.size : Int) then (some (a1.extract 0 (t196 : Int).toNat, t197)) else (none)) else (none)) = some (r1, r2) := H
      have A10 := Aside0.mk A100
      clear A100
      by_cases c11 : 0 ≤ t196
      · rw [if_pos c11] at H
        have c11b0 := eq_true c11
        have c11b1 : decide (0 ≤ t196) = true := decide_eq_true c11
        clear c11
        by_cases c12 : t196 ≤ (a1.size : Int)
        · rw [if_pos c12] at H
          have c12b0 := eq_true c12
          have c12b1 : decide (t196 ≤ (a1.size : Int)) = true := decide_eq_true c12
          clear c12
          simp only [Option.some.injEq, Prod.mk.injEq] at H
          obtain ⟨rfl, rfl⟩ := H
          go_enter Try.func60, Try.ntmps60
          go_wp2_with (first | ((with_reducible refine gate_callee (f := 58) rfl ?_); refine goesL_ (some 7) rfl rfl Try.func58 (by kernel_rfl) rfl #[.pointer (some ⟨g, 0, none⟩), .int .i64 6] rfl (by (try simp only [List.map_toArray, List.map_cons, List.map_nil]); first | done | rfl | (simp only [List.length_drop, List.length_take]; rfl)) ?_; (with_reducible refine (spec_l1Rd_below.calls g s0_0 s0_1 6 t192 t193 w0 _ ?side1 ?side2 A3.out).mono ?_); (case side1 => repeat (first | (with_reducible first | exact HI0.out | apply IsS108.alloc | apply IsS108.drewN | apply IsS108.drew | apply IsS108.set_1) | exact HI0.out)); (case side2 => repeat (first | (with_reducible first | exact HB.out | apply below_alloc | apply pw_below_drewN | apply below_drew1 | refine below_set ?_ (IsS108.ge HI0.out)) | exact HB.out)); rintro e w13 ⟨rfl, hi, hb, hk⟩; refine ⟨_, rfl, ?_⟩; have n0_ := Aside0.mk (KeepBut.trans (by repeat (first | (with_reducible first | exact HK.out | apply KeepBut.set_ | apply keep_drewN | apply keep_drew | apply keep_alloc) | exact HK.out)) hk (.inl rfl)); have n1_ := Aside0.mk (hb); have n2_ := Aside0.mk (hi); clear HK; clear HB; clear HI0; have HK := n0_; have HB := n1_; have HI0 := n2_; clear n0_ n1_ n2_; (try clear hb); (try clear hb2); (try clear hk); (try clear hi)) | ((with_reducible refine gate_callee (f := 58) rfl ?_); refine goesL_ (some 21) rfl rfl Try.func58 (by kernel_rfl) rfl #[.pointer (some ⟨g, 0, none⟩), .int .i64 (wrap64 ((a1.size : Int) + 1))] rfl (by (try simp only [List.map_toArray, List.map_cons, List.map_nil]); first | done | rfl | (simp only [List.length_drop, List.length_take]; rfl)) ?_; (with_reducible refine (spec_l1Rd_below.calls g s0_0 t193 (wrap64 ((a1.size : Int) + 1)) t196 t197 w0 _ ?side1 ?side2 A10.out).mono ?_); (case side1 => repeat (first | (with_reducible first | exact HI0.out | apply IsS108.alloc | apply IsS108.drewN | apply IsS108.drew | apply IsS108.set_1) | exact HI0.out)); (case side2 => repeat (first | (with_reducible first | exact HB.out | apply below_alloc | apply pw_below_drewN | apply below_drew1 | refine below_set ?_ (IsS108.ge HI0.out)) | exact HB.out)); rintro e w14 ⟨rfl, hi, hb, hk⟩; refine ⟨_, rfl, ?_⟩; have n0_ := Aside0.mk (KeepBut.trans (by repeat (first | (with_reducible first | exact HK.out | apply KeepBut.set_ | apply keep_drewN | apply keep_drew | apply keep_alloc) | exact HK.out)) hk (.inl rfl)); have n1_ := Aside0.mk (hb); have n2_ := Aside0.mk (hi); clear HK; clear HB; clear HI0; have HK := n0_; have HB := n1_; have HI0 := n2_; clear n0_ n1_ n2_; (try clear hb); (try clear hb2); (try clear hk); (try clear hi)))
          go_ret
          exact ⟨by first | rfl | (simp [errW_none, errW_some] <;> rfl) | (simp [*, errW_none, errW_some] <;> rfl), by repeat (first | (with_reducible first | exact HI0.out | apply IsS108.alloc | apply IsS108.drewN | apply IsS108.drew | apply IsS108.set_1) | exact HI0.out), by repeat (first | (with_reducible first | exact HB.out | apply below_alloc | apply pw_below_drewN | apply below_drew1 | refine below_set ?_ (IsS108.ge HI0.out)) | exact HB.out), by repeat (first | (with_reducible first | exact HK.out | apply KeepBut.set_ | apply keep_drewN | apply keep_drew | apply keep_alloc) | exact HK.out)⟩
        · rw [if_neg c12] at H
          exact absurd H (by simp)
      · rw [if_neg c11] at H
        exact absurd H (by simp)
    · rw [if_neg c9] at H
      have c9b0 : (t192 == 1) = false := beq_eq_false_iff_ne.mpr c9
      have c9b1 : (t192 != 1) = true := bne_iff_ne.mpr c9
      by_cases c15 : t192 = 2
      · rw [if_pos c15] at H
        have c15b0 : (t192 == 2) = true := beq_iff_eq.mpr c15
        have c15b1 : (t192 != 2) = false := bne_eq_false_iff_eq.mpr c15
        clear c15
        by_cases c16 : (a1.size : Int) > 0
        · rw [if_pos c16] at H
          have c16b0 : decide (0 < (a1.size : Int)) = true := decide_eq_true c16
          have c16b1 : decide (0 < a1.size) = true := decide_eq_true (by omega)
          clear c16
          replace H := Option.bind_eq_some_iff.mp H
          obtain ⟨⟨t198, t199⟩, A170, H⟩ := H
          replace H : (if 0 ≤ t198 then (if t198 ≤ (a1.size : Int) then ((some (([(⟨#[65]⟩ : ByteArray), (⟨#[49]⟩ : ByteArray), (⟨#[40]⟩ : ByteArray), (⟨#[44]⟩ : ByteArray), (⟨#[34]⟩ : ByteArray), (⟨#[32]⟩ : ByteArray)] : List ByteArray) : List ByteArray)).bind fun y200 => ((spec_l1Rd_below.f s0_0 t199 6).bind fun bt203 => (if 0 ≤ bt203.1 then (if bt203.1 < (y200.length : Int) then (if (a1.extract 0 (t198 : Int).toNat).size + (rdOf ByteArray.empty y200 bt203.1).size ≤ 9223372036854775807 then (if 0 ≤ (wrap64 (t198 + 1)) then (if (wrap64 (t198 + 1)) ≤ (a1.size : Int) then (if ((a1.extract 0 (t198 : Int).toNat) ++ (rdOf ByteArray.empty y200 bt203.1)).size + (a1.extract ((wrap64 (t198 + 1)) : Int).toNat a1.size).size ≤ 9223372036854775807 then (some (((a1.extract 0 (t198 : Int).toNat) ++ (rdOf ByteArray.empty y200 bt203.1)) ++ (a1.extract ((wrap64 (t198 + 1)) : Int).toNat a1.size), bt203.2)) else (none)) else (none)) else (none)) else (none)) else (none)) else (none)))) else (none)) else (none)) = some (r1, r2) := H
          have A17 := Aside0.mk A170
          clear A170
          by_cases c18 : 0 ≤ t198
          · rw [if_pos c18] at H
            have c18b0 := eq_true c18
            have c18b1 : decide (0 ≤ t198) = true := decide_eq_true c18
            clear c18
            by_cases c19 : t198 ≤ (a1.size : Int)
            · rw [if_pos c19] at H
              have c19b0 := eq_true c19
              have c19b1 : decide (t198 ≤ (a1.size : Int)) = true := decide_eq_true c19
              clear c19
              obtain ⟨y200, hy200⟩ : ∃ y_ : List ByteArray, y_ = (([(⟨#[65]⟩ : ByteArray), (⟨#[49]⟩ : ByteArray), (⟨#[40]⟩ : ByteArray), (⟨#[44]⟩ : ByteArray), (⟨#[34]⟩ : ByteArray), (⟨#[32]⟩ : ByteArray)] : List ByteArray)) := ⟨_, rfl⟩
              replace H : ((spec_l1Rd_below.f s0_0 t199 6).bind fun bt203 => (if 0 ≤ bt203.1 then (if bt203.1 < (y200.length : Int) then (if (a1.extract 0 (t198 : Int).toNat).size + (rdOf ByteArray.empty y200 bt203.1).size ≤ 9223372036854775807 then (if 0 ≤ (wrap64 (t198 + 1)) then (if (wrap64 (t198 + 1)) ≤ (a1.size : Int) then (if ((a1.extract 0 (t198 : Int).toNat) ++ (rdOf ByteArray.empty y200 bt203.1)).size + (a1.extract ((wrap64 (t198 + 1)) : Int).toNat a1.size).size ≤ 9223372036854775807 then (some (((a1.extract 0 (t198 : Int).toNat) ++ (rdOf ByteArray.empty y200 bt203.1)) ++ (a1.extract ((wrap64 (t198 + 1)) : Int).toNat a1.size), bt203.2)) else (none)) else (none)) else (none)) else (none)) else (none)) else (none))) = some (r1, r2) := by first | (rw [hy200]; with_reducible exact H) | (have H2_ := (Option.bind_some _ _).symm.trans H; rw [hy200]; with_reducible exact H2_) | (have H2_ := (Option.bind_some _ _).symm.trans H; with_reducible exact H2_) | with_reducible exact H | (rw [hy200]; exact H) | exact H
              have Ny200 := Aside0.mk hy200
              clear hy200
              replace H := Option.bind_eq_some_iff.mp H
              obtain ⟨⟨t203, t204⟩, A200, H⟩ := H
              replace H : (if 0 ≤ t203 then (if t203 < (y200.length : Int) then (if (a1.extract 0 (t198 : Int).toNat).size + (rdOf ByteArray.empty y200 t203).size ≤ 9223372036854775807 then (if 0 ≤ (wrap64 (t198 + 1)) then (if (wrap64 (t198 + 1)) ≤ (a1.size : Int) then (if ((a1.extract 0 (t198 : Int).toNat) ++ (rdOf ByteArray.empty y200 t203)).size + (a1.extract ((wrap64 (t198 + 1)) : Int).toNat a1.size).size ≤ 9223372036854775807 then (some (((a1.extract 0 (t198 : Int).toNat) ++ (rdOf ByteArray.empty y200 t203)) ++ (a1.extract ((wrap64 (t198 + 1)) : Int).toNat a1.size), t204)) else (none)) else (none)) else (none)) else (none)) else (none)) else (none)) = some (r1, r2) := H
              have A20 := Aside0.mk A200
              clear A200
              by_cases c21 : 0 ≤ t203
              · rw [if_pos c21] at H
                have c21b0 : decide (0 ≤ t203) = true := decide_eq_true c21
                clear c21
                by_cases c22 : t203 < (y200.length : Int)
                · rw [if_pos c22] at H
                  have c22b0 : decide (t203 < (y200.length : Int)) = true := decide_eq_true c22
                  clear c22
                  by_cases c23 : (a1.extract 0 (t198 : Int).toNat).size + (rdOf ByteArray.empty y200 t203).size ≤ 9223372036854775807
                  · rw [if_pos c23] at H
                    have c23b0 := eq_true c23
                    have c23b1 : decide ((a1.extract 0 (t198 : Int).toNat).size + (rdOf ByteArray.empty y200 t203).size ≤ 9223372036854775807) = true := decide_eq_true c23
                    try have c23b2 : (9223372036854775807 < (a1.extract 0 (t198 : Int).toNat).size + (rdOf ByteArray.empty y200 t203).size) = False := eq_false (Nat.not_lt.2 c23)
                    obtain ⟨ji24, hji24⟩ : ∃ j_ : Int, (wrap64 (t198 + 1)) = j_ := ⟨_, rfl⟩
                    replace H : (if 0 ≤ (ji24) then (if (ji24) ≤ (a1.size : Int) then (if ((a1.extract 0 (t198 : Int).toNat) ++ (rdOf ByteArray.empty y200 t203)).size + (a1.extract ((ji24) : Int).toNat a1.size).size ≤ 9223372036854775807 then (some (((a1.extract 0 (t198 : Int).toNat) ++ (rdOf ByteArray.empty y200 t203)) ++ (a1.extract ((ji24) : Int).toNat a1.size), t204)) else (none)) else (none)) else (none)) = some (r1, r2) := by first | (rw [hji24] at H; exact H) | (simp only [hji24] at H ⊢; exact H)
                    (try rw [hji24] at A3)
                    (try rw [hji24] at A17)
                    (try rw [hji24] at A20)
                    have hji24w : (IntKind.i64.wrap (t198 + 1)) = ji24 := (i64_w _).trans hji24
                    by_cases c25 : 0 ≤ (ji24)
                    · rw [if_pos c25] at H
                      have c25b0 := eq_true c25
                      have c25b1 : decide (0 ≤ (ji24)) = true := decide_eq_true c25
                      clear c25
                      by_cases c26 : (ji24) ≤ (a1.size : Int)
                      · rw [if_pos c26] at H
                        have c26b0 := eq_true c26
                        have c26b1 : decide ((ji24) ≤ (a1.size : Int)) = true := decide_eq_true c26
                        clear c26
                        by_cases c27 : ((a1.extract 0 (t198 : Int).toNat) ++ (rdOf ByteArray.empty y200 t203)).size + (a1.extract ((ji24) : Int).toNat a1.size).size ≤ 9223372036854775807
                        · rw [if_pos c27] at H
                          have c27b0 := eq_true c27
                          have c27b1 : decide (((a1.extract 0 (t198 : Int).toNat) ++ (rdOf ByteArray.empty y200 t203)).size + (a1.extract ((ji24) : Int).toNat a1.size).size ≤ 9223372036854775807) = true := decide_eq_true c27
                          try have c27b2 : (9223372036854775807 < ((a1.extract 0 (t198 : Int).toNat) ++ (rdOf ByteArray.empty y200 t203)).size + (a1.extract ((ji24) : Int).toNat a1.size).size) = False := eq_false (Nat.not_lt.2 c27)
                          simp only [Option.some.injEq, Prod.mk.injEq] at H
                          obtain ⟨rfl, rfl⟩ := H
                          go_enter Try.func60, Try.ntmps60
                          try go_wp2_with (first | ((with_reducible refine gate_callee (f := 58) rfl ?_); refine goesL_ (some 7) rfl rfl Try.func58 (by kernel_rfl) rfl #[.pointer (some ⟨g, 0, none⟩), .int .i64 6] rfl (by (try simp only [List.map_toArray, List.map_cons, List.map_nil]); first | done | rfl | (simp only [List.length_drop, List.length_take]; rfl)) ?_; (with_reducible refine (spec_l1Rd_below.calls g s0_0 s0_1 6 t192 t193 w0 _ ?side1 ?side2 A3.out).mono ?_); (case side1 => repeat (first | (with_reducible first | exact HI0.out | apply IsS108.alloc | apply IsS108.drewN | apply IsS108.drew | apply IsS108.set_1) | exact HI0.out)); (case side2 => repeat (first | (with_reducible first | exact HB.out | apply below_alloc | apply pw_below_drewN | apply below_drew1 | refine below_set ?_ (IsS108.ge HI0.out)) | exact HB.out)); rintro e w28 ⟨rfl, hi, hb, hk⟩; refine ⟨_, rfl, ?_⟩; have n0_ := Aside0.mk (KeepBut.trans (by repeat (first | (with_reducible first | exact HK.out | apply KeepBut.set_ | apply keep_drewN | apply keep_drew | apply keep_alloc) | exact HK.out)) hk (.inl rfl)); have n1_ := Aside0.mk (hb); have n2_ := Aside0.mk (hi); clear HK; clear HB; clear HI0; have HK := n0_; have HB := n1_; have HI0 := n2_; clear n0_ n1_ n2_; (try clear hb); (try clear hb2); (try clear hk); (try clear hi)) | ((with_reducible refine gate_callee (f := 58) rfl ?_); refine goesL_ (some 31) rfl rfl Try.func58 (by kernel_rfl) rfl #[.pointer (some ⟨g, 0, none⟩), .int .i64 (a1.size : Int)] rfl (by (try simp only [List.map_toArray, List.map_cons, List.map_nil]); first | done | rfl | (simp only [List.length_drop, List.length_take]; rfl)) ?_; (with_reducible refine (spec_l1Rd_below.calls g s0_0 t193 (a1.size : Int) t198 t199 w0 _ ?side1 ?side2 A17.out).mono ?_); (case side1 => repeat (first | (with_reducible first | exact HI0.out | apply IsS108.alloc | apply IsS108.drewN | apply IsS108.drew | apply IsS108.set_1) | exact HI0.out)); (case side2 => repeat (first | (with_reducible first | exact HB.out | apply below_alloc | apply pw_below_drewN | apply below_drew1 | refine below_set ?_ (IsS108.ge HI0.out)) | exact HB.out)); rintro e w29 ⟨rfl, hi, hb, hk⟩; refine ⟨_, rfl, ?_⟩; have n0_ := Aside0.mk (KeepBut.trans (by repeat (first | (with_reducible first | exact HK.out | apply KeepBut.set_ | apply keep_drewN | apply keep_drew | apply keep_alloc) | exact HK.out)) hk (.inl rfl)); have n1_ := Aside0.mk (hb); have n2_ := Aside0.mk (hi); clear HK; clear HB; clear HI0; have HK := n0_; have HB := n1_; have HI0 := n2_; clear n0_ n1_ n2_; (try clear hb); (try clear hb2); (try clear hk); (try clear hi)))
                          have pi205 : (0 ≤ (t203 : Int)) = True := eq_true (of_decide_eq_true (by first | (with_reducible assumption) | assumption))
                          have qi205 : (t203 < (y200.length : Int)) = True := eq_true (of_decide_eq_true (by first | (with_reducible assumption) | assumption))
                          have n0_ := Aside0.mk (IsS108.drew HI0.out)
                          have n1_ := Aside0.mk (keep_drew HK.out)
                          have n2_ := Aside0.mk (below_drew1 HB.out)
                          clear HI0
                          clear HK
                          clear HB
                          have HI0 := n0_
                          have HK := n1_
                          have HB := n2_
                          clear n0_ n1_ n2_
                          refine start_ (n := 15) (S := fun w' => True) (ds := []) #[false, false, false, false, false, false, false, false, false, false, false, false, false, false, false] (by kernel_rfl) rfl rfl trivial (fun hHeld => ?_); refine with_tabW spec_l1Rd_hurt.tab9 spec_l1Rd_hurt.bits9 (fun HT_ HW_ => ?_)
                          generalize w29.drew = w30 at HI0 HK HB hHeld ⊢
                          refine pure_ (i := 0) (N := some 32) (v := ?_) (a' := ?_) #[true, false, false, false, false, false, false, false, false, false, false, false, false, false, false] rfl rfl (any_of HT_.out (by kernel_rfl)) (fun _ _ _ h => h) (Or.inl ⟨by rfl, ?_⟩) ?_ ?_
                          rotate_left
                          · intro w'
                            go_simp
                            with_reducible rfl
                          rotate_left
                          · simp only [Act.put, List.setIfInBounds_toArray, List.set_cons_zero, List.set_cons_succ, i64_w, i32_w]
                            rfl
                          refine pure_ (i := 1) (N := some 33) (v := ?_) (a' := ?_) #[true, true, false, false, false, false, false, false, false, false, false, false, false, false, false] rfl rfl (any_of HT_.out (by kernel_rfl)) (fun _ _ _ h => h) (Or.inl ⟨by rfl, ?_⟩) ?_ ?_
                          rotate_left
                          · intro w'
                            go_simp
                            with_reducible rfl
                          rotate_left
                          · simp only [Act.put, List.setIfInBounds_toArray, List.set_cons_zero, List.set_cons_succ, i64_w, i32_w]
                            rfl
                          refine pure_ (i := 4) (N := some 36) (v := ?_) (a' := ?_) #[true, true, false, false, true, false, false, false, false, false, false, false, false, false, false] rfl rfl (any_of HT_.out (by kernel_rfl)) (fun _ _ _ h => h) (Or.inl ⟨by rfl, ?_⟩) ?_ ?_
                          rotate_left
                          · intro w'
                            go_simp
                            with_reducible rfl
                          rotate_left
                          · simp only [Act.put, List.setIfInBounds_toArray, List.set_cons_zero, List.set_cons_succ, i64_w, i32_w]
                            rfl
                          refine pure_ (i := 9) (N := some 41) (v := ?_) (a' := ?_) #[true, true, false, false, true, false, false, false, false, true, false, false, false, false, false] rfl rfl (any_of HT_.out (by kernel_rfl)) (fun _ _ _ h => h) (Or.inl ⟨by rfl, ?_⟩) ?_ ?_
                          rotate_left
                          · intro w'
                            go_simp
                            with_reducible rfl
                          rotate_left
                          · simp only [Act.put, List.setIfInBounds_toArray, List.set_cons_zero, List.set_cons_succ, i64_w, i32_w]
                            rfl
                          refine pure_ (i := 10) (N := some 42) (v := ?_) (a' := ?_) #[true, true, false, false, true, false, false, false, false, true, true, false, false, false, false] rfl rfl (any_of HT_.out (by kernel_rfl)) (fun _ _ _ h => h) (Or.inl ⟨by rfl, ?_⟩) ?_ ?_
                          rotate_left
                          · intro w'
                            go_simp
                            with_reducible rfl
                          rotate_left
                          · simp only [Act.put, List.setIfInBounds_toArray, List.set_cons_zero, List.set_cons_succ, i64_w, i32_w]
                            rfl
                          refine inv_at [2, 3, 5, 6, 7, 8, 11, 12, 13, 14] (fun a0_ b a w' => ∃ (v201 : Value) (adz_v201 : Addr) (m6_ : Value), a = putSel a0_ b [(2, 34, .string (a1.extract 0 (t198 : Int).toNat)), (3, 35, v201), (5, 37, .int .i64 t203), (6, 38, m6_), (7, 39, .string (rdOf ByteArray.empty y200 t203)), (8, 40, .string ((a1.extract 0 (t198 : Int).toNat) ++ (rdOf ByteArray.empty y200 t203))), (11, 43, .int .i64 ji24), (12, 44, .string (a1.extract ((ji24) : Int).toNat a1.size)), (13, 45, .string (((a1.extract 0 (t198 : Int).toNat) ++ (rdOf ByteArray.empty y200 t203)) ++ (a1.extract ((ji24) : Int).toNat a1.size))), (14, 4, .string (((a1.extract 0 (t198 : Int).toNat) ++ (rdOf ByteArray.empty y200 t203)) ++ (a1.extract ((ji24) : Int).toNat a1.size)))] ∧ (b 5 = false → IsS108 w0 w' g s0_0 t199) ∧ (KeepBut w w' g none) ∧ (Below w0.heap.size w0 w') ∧ (b 3 = true → Kd.R Kd.string 9 w' w.heap.size (fun _ => True) v201 y200) ∧ (b 3 = true → ∃ c_, (v201 : Value) = .slice (some adz_v201) y200.length c_) ∧ (b 5 = true → IsS108 w0 w' g s0_0 t204) ∧ (b 6 = true → (m6_ : Value) = .pointer (some (adz_v201.add (t203).toNat)))) HT_.out HW_.out (by kernel_rfl) (by kernel_rfl) ?_ ?_ ?_
                          · exact ⟨.bool false, ⟨0, 0, none⟩, .bool false, by simp only [putSel, Bool.false_eq_true, if_false], fun _ => HI0.out, HK.out, HB.out, fun h_ => absurd h_ (by decide), fun h_ => absurd h_ (by decide), fun h_ => absurd h_ (by decide), fun h_ => absurd h_ (by decide)⟩
                          · skip
                            clear HB HI0 HK
                            refine steps_cons ?_ ?_
                            · rintro b a w' ⟨v201, adz_v201, m6_, ha, Q_HI0, Q_HK, Q_HB, Q_HO202, Q_HA_HO202, Q_HI0_e5, Q_X6_⟩ hb_ hon hoff
                              refine ⟨_, rfl, fun K hK => ?_⟩
                              have e32 : a.tmps[32]? = some (.string a1) := by rw [ha]; exact (putSel_off rfl).trans rfl
                              have e33 : a.tmps[33]? = some (.int .i64 t198) := by rw [ha]; exact (putSel_off rfl).trans rfl
                              replace ha := Aside0.mk ha
                              have HK := Aside0.mk Q_HK
                              have HB := Aside0.mk Q_HB
                              refine value_ (w1 := w') (v := .string (a1.extract 0 (t198 : Int).toNat)) (by rfl) rfl ?_ ?_
                              · go_simp
                                (try simp only [i64_w])
                                try first | rfl | (simp only [ByteArray.size_append, ByteArray.size_extract, eq_iff_iff, iff_true] at *; omega)
                              refine hK.out _ _ ⟨v201, adz_v201, m6_, (by rw [ha.out]; exact putSel_upk 0 hb_ rfl rfl rfl), Q_HI0, Q_HK, Q_HB, Q_HO202, Q_HA_HO202, Q_HI0_e5, Q_X6_⟩
                            refine steps_cons ?_ ?_
                            · rintro b a w' ⟨v201, adz_v201, m6_, ha, Q_HI0, Q_HK, Q_HB, Q_HO202, Q_HA_HO202, Q_HI0_e5, Q_X6_⟩ hb_ hon hoff
                              refine ⟨_, rfl, fun K hK => ?_⟩
                              replace ha := Aside0.mk ha
                              have HK := Aside0.mk Q_HK
                              have HB := Aside0.mk Q_HB
                              refine Kd.R_lit_step Kd.string _ 9 ?hg (N := 35) ?hd (xs := ([(⟨#[65]⟩ : ByteArray), (⟨#[49]⟩ : ByteArray), (⟨#[40]⟩ : ByteArray), (⟨#[44]⟩ : ByteArray), (⟨#[34]⟩ : ByteArray), (⟨#[32]⟩ : ByteArray)] : List ByteArray)) (inner := [.string (⟨#[65]⟩ : ByteArray), .string (⟨#[49]⟩ : ByteArray), .string (⟨#[40]⟩ : ByteArray), .string (⟨#[44]⟩ : ByteArray), .string (⟨#[34]⟩ : ByteArray), .string (⟨#[32]⟩ : ByteArray)]) (ok := fun _ => True) (okp := fun _ => True) ?hr ?hp (fun _ hk => hk) trivial (Below.refl _ _) (Nat.le_refl _) (by simp) ?_; (case hd => rfl); (case hg => rfl); (case hr => first | (go_simp; done) | (go_simp; rfl)); (case hp => exact (Reps.one (show Kd.M Kd.string _ _ _ (⟨#[65]⟩ : ByteArray) [.string (⟨#[65]⟩ : ByteArray)] from rfl) (Reps.one (show Kd.M Kd.string _ _ _ (⟨#[49]⟩ : ByteArray) [.string (⟨#[49]⟩ : ByteArray)] from rfl) (Reps.one (show Kd.M Kd.string _ _ _ (⟨#[40]⟩ : ByteArray) [.string (⟨#[40]⟩ : ByteArray)] from rfl) (Reps.one (show Kd.M Kd.string _ _ _ (⟨#[44]⟩ : ByteArray) [.string (⟨#[44]⟩ : ByteArray)] from rfl) (Reps.one (show Kd.M Kd.string _ _ _ (⟨#[34]⟩ : ByteArray) [.string (⟨#[34]⟩ : ByteArray)] from rfl) (Reps.one (show Kd.M Kd.string _ _ _ (⟨#[32]⟩ : ByteArray) [.string (⟨#[32]⟩ : ByteArray)] from rfl) (Reps.none _ _))))))))
                              intro v201 w31 ho32 hb hg_ hnew_
                              clear hg_ hnew_
                              (first | rw [← Ny200.out] at ho32 | (simp only [Int.reduceToNat] at ho32; rw [← Ny200.out] at ho32))
                              have n0_ := Aside0.mk (Kd.R_lower ho32 (keep_size (w := w) (g := g) (row := none) (by repeat (first | (with_reducible first | exact HK.out | apply KeepBut.set_ | apply keep_drewN | apply keep_drew | apply keep_alloc) | exact HK.out))))
                              have n2_ := Aside0.mk (KeepBut.trans (by repeat (first | (with_reducible first | exact HK.out | apply KeepBut.set_ | apply keep_drewN | apply keep_drew | apply keep_alloc) | exact HK.out)) (KeepBut.of_below hb g none) (.inl rfl))
                              have n3_ := Aside0.mk (below_step (by repeat (first | (with_reducible first | exact HB.out | apply below_alloc | apply pw_below_drewN | apply below_drew1) | exact HB.out)) hb)
                              have z_HI0 := fun (h0_ : b 5 = false) => (show IsS108 w0 w31 g s0_0 t199 from by first | exact (IsS108.below (by repeat (first | (with_reducible first | exact (Q_HI0 h0_) | apply IsS108.alloc | apply IsS108.drewN | apply IsS108.drew | apply IsS108.set_1) | exact (Q_HI0 h0_))) hb))
                              have z_HI0_e5 := fun (h0_ : b 5 = true) => (show IsS108 w0 w31 g s0_0 t204 from by first | exact (IsS108.below (by repeat (first | (with_reducible first | exact (Q_HI0_e5 h0_) | apply IsS108.alloc | apply IsS108.drewN | apply IsS108.drew | apply IsS108.set_1) | exact (Q_HI0_e5 h0_))) hb))
                              clear HK
                              clear HB
                              have HO202 := n0_
                              have HK := n2_
                              have HB := n3_
                              clear n0_ n2_ n3_
                              clear hb ho32
                              obtain ⟨Ao33, co33, eo33⟩ := Kd.R_slice HO202.out
                              subst eo33
                              obtain ⟨ado33, fo33, _⟩ := Kd.at_string (Kd.R_reads' HO202.out).2.2 0 (by decide) (by rw [Ny200.out]; simp)
                              cases fo33
                              refine hK.out _ _ ⟨.slice (some ado33) y200.length co33, ado33, m6_, (by rw [ha.out]; exact putSel_upk 1 hb_ rfl rfl rfl), z_HI0, (by repeat (first | (with_reducible first | exact HK.out | apply KeepBut.set_ | apply keep_drewN | apply keep_drew | apply keep_alloc) | exact HK.out)), (by repeat (first | (with_reducible first | exact HB.out | apply below_alloc | apply pw_below_drewN | apply below_drew1) | exact HB.out)), fun _ => (by (with_reducible repeat (first | apply Kd.R_alloc | apply Kd.R_drewN | apply Kd.R_drew)); exact HO202.out), fun _ => ⟨_, rfl⟩, z_HI0_e5, fun h0_ => absurd ((hoff 6 (by kernel_rfl)).symm.trans h0_) (by decide)⟩
                            refine steps_cons ?_ ?_
                            · rintro b a w' ⟨v201, adz_v201, m6_, ha, Q_HI0, Q_HK, Q_HB, Q_HO202, Q_HA_HO202, Q_HI0_e5, Q_X6_⟩ hb_ hon hoff
                              refine ⟨_, rfl, fun K hK => ?_⟩
                              have e36 : a.tmps[36]? = some (.pointer (some ⟨g, 0, none⟩)) := by rw [ha]; exact (putSel_off rfl).trans rfl
                              replace ha := Aside0.mk ha
                              have HI0 := Aside0.mk (Q_HI0 hb_)
                              have HK := Aside0.mk Q_HK
                              have HB := Aside0.mk Q_HB
                              refine goes_ Try.func58 (by kernel_rfl) rfl #[.pointer (some ⟨g, 0, none⟩), .int .i64 6] (by rfl) rfl rfl (by first | (simp only [List.map_toArray, List.map_cons, List.map_nil, Act.eval, Array.getD_eq_getD_getElem?, Option.getD_some, e36]; done) | (simp only [List.map_toArray, List.map_cons, List.map_nil, Act.eval, Array.getD_eq_getD_getElem?, Option.getD_some, e36]; rfl)) ?_
                              with_reducible refine (spec_l1Rd_below.calls g s0_0 t199 6 t203 t204 w0 _ ?side1 ?side2 A20.out).mono ?_
                              (case side1 => repeat (first | (with_reducible first | exact HI0.out | apply IsS108.alloc | apply IsS108.drewN | apply IsS108.drew | apply IsS108.set_1) | exact HI0.out))
                              (case side2 => repeat (first | (with_reducible first | exact HB.out | apply below_alloc | apply pw_below_drewN | apply below_drew1 | refine below_set ?_ (IsS108.ge HI0.out)) | exact HB.out))
                              rintro e w31 ⟨rfl, hi, hb, hk⟩
                              refine ⟨_, rfl, ?_⟩
                              have n0_ := Aside0.mk (KeepBut.trans (by repeat (first | (with_reducible first | exact HK.out | apply KeepBut.set_ | apply keep_drewN | apply keep_drew | apply keep_alloc) | exact HK.out)) hk (.inl rfl))
                              have n1_ := Aside0.mk (hb)
                              have n2_ := Aside0.mk (hi)
                              have z_HO202 := fun (h0_ : b 3 = true) => (show Kd.R Kd.string 9 w31 w.heap.size (fun _ => True) v201 y200 from by first | exact (Kd.R_mono (Kd.R_keep (IsS108.apart (show IsS108 w0 _ g s0_0 t199 from by repeat (first | (with_reducible first | exact HI0.out | apply IsS108.alloc | apply IsS108.drewN | apply IsS108.drew | apply IsS108.set_1) | exact HI0.out)) (by (with_reducible repeat (first | apply Kd.R_alloc | apply Kd.R_drewN | apply Kd.R_drew)); exact (Q_HO202 h0_)) (by decide)) hk (fun _ h => h.2)) (fun _ h => h.1)) | exact Kd.R_mono (Kd.R_mono (Kd.R_keep (IsS108.apart (show IsS108 w0 _ g s0_0 t199 from by repeat (first | (with_reducible first | exact HI0.out | apply IsS108.alloc | apply IsS108.drewN | apply IsS108.drew | apply IsS108.set_1) | exact HI0.out)) (by (with_reducible repeat (first | apply Kd.R_alloc | apply Kd.R_drewN | apply Kd.R_drew)); exact (Q_HO202 h0_)) (by decide)) hk (fun _ h => h.2)) (fun _ h => h.1)) (fun _ h_ => by first | trivial | exact h_ | exact h_.1))
                              clear HK
                              clear HB
                              clear HI0
                              have HK := n0_
                              have HB := n1_
                              have HI0 := n2_
                              clear n0_ n1_ n2_
                              (try clear hb)
                              (try clear hb2)
                              (try clear hk)
                              (try clear hi)
                              refine hK.out _ _ ⟨v201, adz_v201, m6_, (by rw [ha.out]; exact putSel_upk 2 hb_ rfl rfl rfl), fun h0_ => absurd ((up_self b 5).symm.trans h0_) (by decide), (by repeat (first | (with_reducible first | exact HK.out | apply KeepBut.set_ | apply keep_drewN | apply keep_drew | apply keep_alloc) | exact HK.out)), (by repeat (first | (with_reducible first | exact HB.out | apply below_alloc | apply pw_below_drewN | apply below_drew1 | refine below_set ?_ (IsS108.ge HI0.out)) | exact HB.out)), z_HO202, Q_HA_HO202, fun _ => (by repeat (first | (with_reducible first | exact HI0.out | apply IsS108.alloc | apply IsS108.drewN | apply IsS108.drew | apply IsS108.set_1) | exact HI0.out)), fun h0_ => absurd ((hoff 6 (by kernel_rfl)).symm.trans h0_) (by decide)⟩
                            refine steps_cons ?_ ?_
                            · rintro b a w' ⟨v201, adz_v201, m6_, ha, Q_HI0, Q_HK, Q_HB, Q_HO202, Q_HA_HO202, Q_HI0_e5, Q_X6_⟩ hb_ hon hoff
                              refine ⟨_, rfl, fun K hK => ?_⟩
                              have e35 : a.tmps[35]? = some (v201) := by rw [ha]; exact putSel_on (e := (3, 35, v201)) 1 rfl rfl (hon 3 (by kernel_rfl)) rfl
                              have e37 : a.tmps[37]? = some (.int .i64 t203) := by rw [ha]; exact putSel_on (e := (5, 37, .int .i64 t203)) 2 rfl rfl (hon 5 (by kernel_rfl)) rfl
                              replace ha := Aside0.mk ha
                              have HK := Aside0.mk Q_HK
                              have HB := Aside0.mk Q_HB
                              have HO202 := Aside0.mk (Q_HO202 (hon 3 (by kernel_rfl)))
                              have HA_HO202 := Aside0.mk (Q_HA_HO202 (hon 3 (by kernel_rfl)))
                              have HI0 := Aside0.mk (Q_HI0_e5 (hon 5 (by kernel_rfl)))
                              obtain ⟨c_, hv_⟩ := HA_HO202.out
                              rw [hv_] at e35
                              refine value_ (w1 := w') (v := .pointer (some (adz_v201.add (t203).toNat))) (by rfl) rfl ?_ ?_
                              · go_simp
                                (try simp only [i64_w])
                                try first | rfl | (simp only [ByteArray.size_append, ByteArray.size_extract, eq_iff_iff, iff_true] at *; omega)
                              refine hK.out _ _ ⟨v201, adz_v201, (.pointer (some (adz_v201.add (t203).toNat))), (by rw [ha.out]; exact putSel_upk 3 hb_ rfl rfl rfl), fun h0_ => absurd ((hon 5 (by kernel_rfl)).symm.trans h0_) (by decide), Q_HK, Q_HB, Q_HO202, Q_HA_HO202, Q_HI0_e5, fun _ => rfl⟩
                            refine steps_cons ?_ ?_
                            · rintro b a w' ⟨v201, adz_v201, m6_, ha, Q_HI0, Q_HK, Q_HB, Q_HO202, Q_HA_HO202, Q_HI0_e5, Q_X6_⟩ hb_ hon hoff
                              refine ⟨_, rfl, fun K hK => ?_⟩
                              have e38 : a.tmps[38]? = some (m6_) := by rw [ha]; exact putSel_on (e := (6, 38, m6_)) 3 rfl rfl (hon 6 (by kernel_rfl)) rfl
                              rw [Q_X6_ (hon 6 (by kernel_rfl))] at e38
                              replace ha := Aside0.mk ha
                              have HK := Aside0.mk Q_HK
                              have HB := Aside0.mk Q_HB
                              have HO202 := Aside0.mk (Q_HO202 (hon 3 (by kernel_rfl)))
                              have HA_HO202 := Aside0.mk (Q_HA_HO202 (hon 3 (by kernel_rfl)))
                              have HI0 := Aside0.mk (Q_HI0_e5 (hon 5 (by kernel_rfl)))
                              obtain ⟨c_, hv_⟩ := HA_HO202.out
                              have hF_ := HO202.out
                              rw [hv_] at hF_
                              obtain ⟨ad_, ea_, hx_⟩ := Kd.at_string (Kd.R_reads' hF_).2.2 t203 (of_eq_true pi205) (of_eq_true qi205)
                              cases ea_
                              refine value_ (w1 := w') (v := .string (rdOf ByteArray.empty y200 t203)) (by rfl) rfl ?_ ?_
                              · go_simp
                                (try simp only [i64_w])
                                try first | rfl | (simp only [ByteArray.size_append, ByteArray.size_extract, eq_iff_iff, iff_true] at *; omega)
                              refine hK.out _ _ ⟨v201, adz_v201, m6_, (by rw [ha.out]; exact putSel_upk 4 hb_ rfl rfl rfl), fun h0_ => absurd ((hon 5 (by kernel_rfl)).symm.trans h0_) (by decide), Q_HK, Q_HB, Q_HO202, Q_HA_HO202, Q_HI0_e5, Q_X6_⟩
                            refine steps_cons ?_ ?_
                            · rintro b a w' ⟨v201, adz_v201, m6_, ha, Q_HI0, Q_HK, Q_HB, Q_HO202, Q_HA_HO202, Q_HI0_e5, Q_X6_⟩ hb_ hon hoff
                              refine ⟨_, rfl, fun K hK => ?_⟩
                              have e34 : a.tmps[34]? = some (.string (a1.extract 0 (t198 : Int).toNat)) := by rw [ha]; exact putSel_on (e := (2, 34, .string (a1.extract 0 (t198 : Int).toNat))) 0 rfl rfl (hon 2 (by kernel_rfl)) rfl
                              have e39 : a.tmps[39]? = some (.string (rdOf ByteArray.empty y200 t203)) := by rw [ha]; exact putSel_on (e := (7, 39, .string (rdOf ByteArray.empty y200 t203))) 4 rfl rfl (hon 7 (by kernel_rfl)) rfl
                              replace ha := Aside0.mk ha
                              have HK := Aside0.mk Q_HK
                              have HB := Aside0.mk Q_HB
                              have HO202 := Aside0.mk (Q_HO202 (hon 3 (by kernel_rfl)))
                              have HA_HO202 := Aside0.mk (Q_HA_HO202 (hon 3 (by kernel_rfl)))
                              have HI0 := Aside0.mk (Q_HI0_e5 (hon 5 (by kernel_rfl)))
                              refine value_ (w1 := w') (v := .string ((a1.extract 0 (t198 : Int).toNat) ++ (rdOf ByteArray.empty y200 t203))) (by rfl) rfl ?_ ?_
                              · go_simp
                                (try simp only [i64_w])
                                try first | rfl | (simp only [ByteArray.size_append, ByteArray.size_extract, eq_iff_iff, iff_true] at *; omega)
                              refine hK.out _ _ ⟨v201, adz_v201, m6_, (by rw [ha.out]; exact putSel_upk 5 hb_ rfl rfl rfl), fun h0_ => absurd ((hon 5 (by kernel_rfl)).symm.trans h0_) (by decide), Q_HK, Q_HB, Q_HO202, Q_HA_HO202, Q_HI0_e5, Q_X6_⟩
                            refine steps_cons ?_ ?_
                            · rintro b a w' ⟨v201, adz_v201, m6_, ha, Q_HI0, Q_HK, Q_HB, Q_HO202, Q_HA_HO202, Q_HI0_e5, Q_X6_⟩ hb_ hon hoff
                              refine ⟨_, rfl, fun K hK => ?_⟩
                              have e42 : a.tmps[42]? = some (.int .i64 t198) := by rw [ha]; exact (putSel_off rfl).trans rfl
                              replace ha := Aside0.mk ha
                              have HK := Aside0.mk Q_HK
                              have HB := Aside0.mk Q_HB
                              refine value_ (w1 := w') (v := .int .i64 ji24) (by rfl) rfl ?_ ?_
                              · go_simp
                                (try simp only [i64_w])
                                try first | rfl | (simp only [ByteArray.size_append, ByteArray.size_extract, eq_iff_iff, iff_true] at *; omega)
                              refine hK.out _ _ ⟨v201, adz_v201, m6_, (by rw [ha.out]; exact putSel_upk 6 hb_ rfl rfl rfl), Q_HI0, Q_HK, Q_HB, Q_HO202, Q_HA_HO202, Q_HI0_e5, Q_X6_⟩
                            refine steps_cons ?_ ?_
                            · rintro b a w' ⟨v201, adz_v201, m6_, ha, Q_HI0, Q_HK, Q_HB, Q_HO202, Q_HA_HO202, Q_HI0_e5, Q_X6_⟩ hb_ hon hoff
                              refine ⟨_, rfl, fun K hK => ?_⟩
                              have e41 : a.tmps[41]? = some (.string a1) := by rw [ha]; exact (putSel_off rfl).trans rfl
                              have e43 : a.tmps[43]? = some (.int .i64 ji24) := by rw [ha]; exact putSel_on (e := (11, 43, .int .i64 ji24)) 6 rfl rfl (hon 11 (by kernel_rfl)) rfl
                              replace ha := Aside0.mk ha
                              have HK := Aside0.mk Q_HK
                              have HB := Aside0.mk Q_HB
                              refine value_ (w1 := w') (v := .string (a1.extract ((ji24) : Int).toNat a1.size)) (by rfl) rfl ?_ ?_
                              · go_simp
                                (try simp only [i64_w])
                                try first | rfl | (simp only [ByteArray.size_append, ByteArray.size_extract, eq_iff_iff, iff_true] at *; omega)
                              refine hK.out _ _ ⟨v201, adz_v201, m6_, (by rw [ha.out]; exact putSel_upk 7 hb_ rfl rfl rfl), Q_HI0, Q_HK, Q_HB, Q_HO202, Q_HA_HO202, Q_HI0_e5, Q_X6_⟩
                            refine steps_cons ?_ ?_
                            · rintro b a w' ⟨v201, adz_v201, m6_, ha, Q_HI0, Q_HK, Q_HB, Q_HO202, Q_HA_HO202, Q_HI0_e5, Q_X6_⟩ hb_ hon hoff
                              refine ⟨_, rfl, fun K hK => ?_⟩
                              have e40 : a.tmps[40]? = some (.string ((a1.extract 0 (t198 : Int).toNat) ++ (rdOf ByteArray.empty y200 t203))) := by rw [ha]; exact putSel_on (e := (8, 40, .string ((a1.extract 0 (t198 : Int).toNat) ++ (rdOf ByteArray.empty y200 t203)))) 5 rfl rfl (hon 8 (by kernel_rfl)) rfl
                              have e44 : a.tmps[44]? = some (.string (a1.extract ((ji24) : Int).toNat a1.size)) := by rw [ha]; exact putSel_on (e := (12, 44, .string (a1.extract ((ji24) : Int).toNat a1.size))) 7 rfl rfl (hon 12 (by kernel_rfl)) rfl
                              replace ha := Aside0.mk ha
                              have HK := Aside0.mk Q_HK
                              have HB := Aside0.mk Q_HB
                              have HO202 := Aside0.mk (Q_HO202 (hon 3 (by kernel_rfl)))
                              have HA_HO202 := Aside0.mk (Q_HA_HO202 (hon 3 (by kernel_rfl)))
                              have HI0 := Aside0.mk (Q_HI0_e5 (hon 5 (by kernel_rfl)))
                              refine value_ (w1 := w') (v := .string (((a1.extract 0 (t198 : Int).toNat) ++ (rdOf ByteArray.empty y200 t203)) ++ (a1.extract ((ji24) : Int).toNat a1.size))) (by rfl) rfl ?_ ?_
                              · go_simp
                                (try simp only [i64_w])
                                try first | rfl | (simp only [ByteArray.size_append, ByteArray.size_extract, eq_iff_iff, iff_true] at *; omega)
                              refine hK.out _ _ ⟨v201, adz_v201, m6_, (by rw [ha.out]; exact putSel_upk 8 hb_ rfl rfl rfl), fun h0_ => absurd ((hon 5 (by kernel_rfl)).symm.trans h0_) (by decide), Q_HK, Q_HB, Q_HO202, Q_HA_HO202, Q_HI0_e5, Q_X6_⟩
                            refine steps_cons ?_ ?_
                            · rintro b a w' ⟨v201, adz_v201, m6_, ha, Q_HI0, Q_HK, Q_HB, Q_HO202, Q_HA_HO202, Q_HI0_e5, Q_X6_⟩ hb_ hon hoff
                              refine ⟨_, rfl, fun K hK => ?_⟩
                              have e45 : a.tmps[45]? = some (.string (((a1.extract 0 (t198 : Int).toNat) ++ (rdOf ByteArray.empty y200 t203)) ++ (a1.extract ((ji24) : Int).toNat a1.size))) := by rw [ha]; exact putSel_on (e := (13, 45, .string (((a1.extract 0 (t198 : Int).toNat) ++ (rdOf ByteArray.empty y200 t203)) ++ (a1.extract ((ji24) : Int).toNat a1.size)))) 8 rfl rfl (hon 13 (by kernel_rfl)) rfl
                              replace ha := Aside0.mk ha
                              have HK := Aside0.mk Q_HK
                              have HB := Aside0.mk Q_HB
                              have HO202 := Aside0.mk (Q_HO202 (hon 3 (by kernel_rfl)))
                              have HA_HO202 := Aside0.mk (Q_HA_HO202 (hon 3 (by kernel_rfl)))
                              have HI0 := Aside0.mk (Q_HI0_e5 (hon 5 (by kernel_rfl)))
                              refine value_ (w1 := w') (v := .string (((a1.extract 0 (t198 : Int).toNat) ++ (rdOf ByteArray.empty y200 t203)) ++ (a1.extract ((ji24) : Int).toNat a1.size))) (by rfl) rfl ?_ ?_
                              · go_simp
                                (try simp only [i64_w])
                                try first | rfl | (simp only [ByteArray.size_append, ByteArray.size_extract, eq_iff_iff, iff_true] at *; omega)
                              refine hK.out _ _ ⟨v201, adz_v201, m6_, (by rw [ha.out]; exact putSel_upk 9 hb_ rfl rfl rfl), fun h0_ => absurd ((hon 5 (by kernel_rfl)).symm.trans h0_) (by decide), Q_HK, Q_HB, Q_HO202, Q_HA_HO202, Q_HI0_e5, Q_X6_⟩
                            exact steps_nil
                          rintro b a w35 hall ⟨v201, adz_v201, m6_, ha, Q_HI0, Q_HK, Q_HB, Q_HO202, Q_HA_HO202, Q_HI0_e5, Q_X6_⟩
                          clear HB HI0 HK
                          have hb2_ := hall 2 (by kernel_rfl)
                          have hb3_ := hall 3 (by kernel_rfl)
                          have hb5_ := hall 5 (by kernel_rfl)
                          have hb6_ := hall 6 (by kernel_rfl)
                          have hb7_ := hall 7 (by kernel_rfl)
                          have hb8_ := hall 8 (by kernel_rfl)
                          have hb11_ := hall 11 (by kernel_rfl)
                          have hb12_ := hall 12 (by kernel_rfl)
                          have hb13_ := hall 13 (by kernel_rfl)
                          have hb14_ := hall 14 (by kernel_rfl)
                          subst ha
                          obtain rfl := Q_X6_ hb6_
                          simp only [putSel, hb2_, hb3_, hb5_, hb6_, hb7_, hb8_, hb11_, hb12_, hb13_, hb14_, if_true, Act.put, List.setIfInBounds_toArray, List.set_cons_zero, List.set_cons_succ]
                          clear Q_HI0
                          have HK := Aside0.mk Q_HK
                          clear Q_HK
                          have HB := Aside0.mk Q_HB
                          clear Q_HB
                          have HO202 := Aside0.mk (Q_HO202 hb3_)
                          clear Q_HO202
                          have HA_HO202 := Aside0.mk (Q_HA_HO202 hb3_)
                          clear Q_HA_HO202
                          have HI0 := Aside0.mk (Q_HI0_e5 hb5_)
                          clear Q_HI0_e5
                          clear hall hb2_ hb3_ hb5_ hb6_ hb7_ hb8_ hb11_ hb12_ hb13_ hb14_
                          obtain ⟨co36, eo36⟩ := HA_HO202.out
                          clear HA_HO202
                          subst eo36
                          try go_wp2
                          go_ret
                          exact ⟨by first | rfl | (simp [errW_none, errW_some] <;> rfl) | (simp only [← hji24]; first | rfl | (simp [errW_none, errW_some] <;> rfl)) | (simp [*, errW_none, errW_some] <;> rfl), by repeat (first | (with_reducible first | exact HI0.out | apply IsS108.alloc | apply IsS108.drewN | apply IsS108.drew | apply IsS108.set_1) | exact HI0.out), by repeat (first | (with_reducible first | exact HB.out | apply below_alloc | apply pw_below_drewN | apply below_drew1 | refine below_set ?_ (IsS108.ge HI0.out)) | exact HB.out), by repeat (first | (with_reducible first | exact HK.out | apply KeepBut.set_ | apply keep_drewN | apply keep_drew | apply keep_alloc) | exact HK.out)⟩
                        · rw [if_neg c27] at H
                          exact absurd H (by simp)
                      · rw [if_neg c26] at H
                        exact absurd H (by simp)
                    · rw [if_neg c25] at H
                      exact absurd H (by simp)
                  · rw [if_neg c23] at H
                    exact absurd H (by simp)
                · rw [if_neg c22] at H
                  exact absurd H (by simp)
              · rw [if_neg c21] at H
                exact absurd H (by simp)
            · rw [if_neg c19] at H
              exact absurd H (by simp)
          · rw [if_neg c18] at H
            exact absurd H (by simp)
        · rw [if_neg c16] at H
          have c16b0 : decide (0 < (a1.size : Int)) = false := decide_eq_false c16
          have c16b1 : decide (0 < a1.size) = false := decide_eq_false (by omega)
          clear c16
          simp only [Option.some.injEq, Prod.mk.injEq] at H
          obtain ⟨rfl, rfl⟩ := H
          go_enter Try.func60, Try.ntmps60
          go_wp2_with (first | ((with_reducible refine gate_callee (f := 58) rfl ?_); refine goesL_ (some 7) rfl rfl Try.func58 (by kernel_rfl) rfl #[.pointer (some ⟨g, 0, none⟩), .int .i64 6] rfl (by (try simp only [List.map_toArray, List.map_cons, List.map_nil]); first | done | rfl | (simp only [List.length_drop, List.length_take]; rfl)) ?_; (with_reducible refine (spec_l1Rd_below.calls g s0_0 s0_1 6 t192 t193 w0 _ ?side1 ?side2 A3.out).mono ?_); (case side1 => repeat (first | (with_reducible first | exact HI0.out | apply IsS108.alloc | apply IsS108.drewN | apply IsS108.drew | apply IsS108.set_1) | exact HI0.out)); (case side2 => repeat (first | (with_reducible first | exact HB.out | apply below_alloc | apply pw_below_drewN | apply below_drew1 | refine below_set ?_ (IsS108.ge HI0.out)) | exact HB.out)); rintro e w37 ⟨rfl, hi, hb, hk⟩; refine ⟨_, rfl, ?_⟩; have n0_ := Aside0.mk (KeepBut.trans (by repeat (first | (with_reducible first | exact HK.out | apply KeepBut.set_ | apply keep_drewN | apply keep_drew | apply keep_alloc) | exact HK.out)) hk (.inl rfl)); have n1_ := Aside0.mk (hb); have n2_ := Aside0.mk (hi); clear HK; clear HB; clear HI0; have HK := n0_; have HB := n1_; have HI0 := n2_; clear n0_ n1_ n2_; (try clear hb); (try clear hb2); (try clear hk); (try clear hi)))
          go_ret
          exact ⟨by first | rfl | (simp [errW_none, errW_some] <;> rfl) | (simp [*, errW_none, errW_some] <;> rfl), by repeat (first | (with_reducible first | exact HI0.out | apply IsS108.alloc | apply IsS108.drewN | apply IsS108.drew | apply IsS108.set_1) | exact HI0.out), by repeat (first | (with_reducible first | exact HB.out | apply below_alloc | apply pw_below_drewN | apply below_drew1 | refine below_set ?_ (IsS108.ge HI0.out)) | exact HB.out), by repeat (first | (with_reducible first | exact HK.out | apply KeepBut.set_ | apply keep_drewN | apply keep_drew | apply keep_alloc) | exact HK.out)⟩
      · rw [if_neg c15] at H
        have c15b0 : (t192 == 2) = false := beq_eq_false_iff_ne.mpr c15
        have c15b1 : (t192 != 2) = true := bne_iff_ne.mpr c15
        simp only [Option.some.injEq, Prod.mk.injEq] at H
        obtain ⟨rfl, rfl⟩ := H
        go_enter Try.func60, Try.ntmps60
        go_wp2_with (first | ((with_reducible refine gate_callee (f := 58) rfl ?_); refine goesL_ (some 7) rfl rfl Try.func58 (by kernel_rfl) rfl #[.pointer (some ⟨g, 0, none⟩), .int .i64 6] rfl (by (try simp only [List.map_toArray, List.map_cons, List.map_nil]); first | done | rfl | (simp only [List.length_drop, List.length_take]; rfl)) ?_; (with_reducible refine (spec_l1Rd_below.calls g s0_0 s0_1 6 t192 t193 w0 _ ?side1 ?side2 A3.out).mono ?_); (case side1 => repeat (first | (with_reducible first | exact HI0.out | apply IsS108.alloc | apply IsS108.drewN | apply IsS108.drew | apply IsS108.set_1) | exact HI0.out)); (case side2 => repeat (first | (with_reducible first | exact HB.out | apply below_alloc | apply pw_below_drewN | apply below_drew1 | refine below_set ?_ (IsS108.ge HI0.out)) | exact HB.out)); rintro e w38 ⟨rfl, hi, hb, hk⟩; refine ⟨_, rfl, ?_⟩; have n0_ := Aside0.mk (KeepBut.trans (by repeat (first | (with_reducible first | exact HK.out | apply KeepBut.set_ | apply keep_drewN | apply keep_drew | apply keep_alloc) | exact HK.out)) hk (.inl rfl)); have n1_ := Aside0.mk (hb); have n2_ := Aside0.mk (hi); clear HK; clear HB; clear HI0; have HK := n0_; have HB := n1_; have HI0 := n2_; clear n0_ n1_ n2_; (try clear hb); (try clear hb2); (try clear hk); (try clear hi)))
        go_ret
        exact ⟨by first | rfl | (simp [errW_none, errW_some] <;> rfl) | (simp [*, errW_none, errW_some] <;> rfl), by repeat (first | (with_reducible first | exact HI0.out | apply IsS108.alloc | apply IsS108.drewN | apply IsS108.drew | apply IsS108.set_1) | exact HI0.out), by repeat (first | (with_reducible first | exact HB.out | apply below_alloc | apply pw_below_drewN | apply below_drew1 | refine below_set ?_ (IsS108.ge HI0.out)) | exact HB.out), by repeat (first | (with_reducible first | exact HK.out | apply KeepBut.set_ | apply keep_drewN | apply keep_drew | apply keep_alloc) | exact HK.out)⟩

/-! ### spec_DrawTakeFrames: function 23 -/
def spec_DrawTakeFrames.l0 : Nat → ByteArray → Int → List Int → Int → Option (ByteArray)
  | 0, _, _, _, _ => none
  | k + 1, x4, x5, x209000, x209001 => if x5 > 0 then ((spec_l1Rd_text.f x209000 x209001).bind fun bt211 => ((spec_FrameOf.f k bt211.1).bind fun t213 => (if x4.size + t213.size ≤ 9223372036854775807 then (spec_DrawTakeFrames.l0 k (x4 ++ t213) (wrap64 (x5 - 1)) x209000 bt211.2) else (none)))) else ((spec_l1Rd_hurt.f k x209000 x209001 x4).bind fun bt214 => (some bt214.1))
def spec_DrawTakeFrames.f (k : Nat) (l0 : List Int) : Option (ByteArray) := (spec_l1Open.f l0).bind fun bt206 => ((spec_l1Rd_below.f bt206.1 bt206.2 4).bind fun bt209 => (spec_DrawTakeFrames.l0 k (⟨#[]⟩ : ByteArray) bt209.1 bt206.1 bt209.2))
theorem spec_DrawTakeFrames.mono_l : ∀ k, (∀ y0 y1 y2 y3, LeO (spec_DrawTakeFrames.l0 k y0 y1 y2 y3) (spec_DrawTakeFrames.l0 (k + 1) y0 y1 y2 y3))
  | 0 => fun _ _ _ _ r h => by simp [spec_DrawTakeFrames.l0] at h
  | k + 1 => by
    have ih0 := spec_DrawTakeFrames.mono_l k
    · intro y0 y1 y2 y3
      unfold spec_DrawTakeFrames.l0
      repeat' first
      | (with_reducible exact ih0 _ _ _ _)
      | (with_reducible exact spec_FrameOf.mono _ _)
      | (with_reducible exact spec_l1Rd_hurt.mono _ _ _ _)
      | (with_reducible exact LeO.refl _)
      | (with_reducible exact LeO.none _)
      | (with_reducible refine LeO.ite ?_ ?_)
      | (with_reducible refine LeO.bind ?_ (fun _ => ?_))
      | exact ih0 _ _ _ _
      | exact spec_FrameOf.mono _ _
      | exact spec_l1Rd_hurt.mono _ _ _ _
      | exact LeO.none _
      | refine LeO.ite ?_ ?_
      | refine LeO.bind ?_ (fun _ => ?_)
theorem spec_DrawTakeFrames.mono : ∀ a0 k, LeO (spec_DrawTakeFrames.f k a0) (spec_DrawTakeFrames.f (k + 1) a0) := by
  intro a0 k
  have ih0 := spec_DrawTakeFrames.mono_l k
  unfold spec_DrawTakeFrames.f
  repeat' first
      | (with_reducible exact ih0 _ _ _ _)
      | (with_reducible exact spec_FrameOf.mono _ _)
      | (with_reducible exact spec_l1Rd_hurt.mono _ _ _ _)
      | (with_reducible exact LeO.refl _)
      | (with_reducible exact LeO.none _)
      | (with_reducible refine LeO.ite ?_ ?_)
      | (with_reducible refine LeO.bind ?_ (fun _ => ?_))
      | exact ih0 _ _ _ _
      | exact spec_FrameOf.mono _ _
      | exact spec_l1Rd_hurt.mono _ _ _ _
      | exact LeO.none _
      | refine LeO.ite ?_ ?_
      | refine LeO.bind ?_ (fun _ => ?_)
set_option maxHeartbeats 8000000 in
set_option maxRecDepth 100000 in
theorem spec_DrawTakeFrames.calls (k : Nat) (A0 : Option Addr) (c0 : Nat) (l0 : List Int) (r : ByteArray) (w : World) (hr0 : Kd.C (Kd.int .u8) w A0 l0.length l0) (hc0 : l0.length ≤ c0) (h : spec_DrawTakeFrames.f k l0 = some r) :
    Calls Try.prog 23 #[.slice A0 l0.length c0] w fun e w' => e = .returned (.string r) ∧ Below w.heap.size w w' := by
  have HR0 := Aside0.mk hr0
  have HC0 := Aside0.mk hc0
  clear hr0 hc0
  have HB := Aside0.mk (Below.refl w.heap.size w)
  have H : ((spec_l1Open.f l0).bind fun bt206 => ((spec_l1Rd_below.f bt206.1 bt206.2 4).bind fun bt209 => (spec_DrawTakeFrames.l0 k (⟨#[]⟩ : ByteArray) bt209.1 bt206.1 bt209.2))) = some r := h
  clear h
  replace H := Option.bind_eq_some_iff.mp H
  obtain ⟨⟨t206, t207⟩, A20, H⟩ := H
  replace H : ((spec_l1Rd_below.f t206 t207 4).bind fun bt209 => (spec_DrawTakeFrames.l0 k (⟨#[]⟩ : ByteArray) bt209.1 t206 bt209.2)) = some r := H
  have A2 := Aside0.mk A20
  clear A20
  replace H := Option.bind_eq_some_iff.mp H
  obtain ⟨⟨t209, t210⟩, A30, H⟩ := H
  replace H : (spec_DrawTakeFrames.l0 k (⟨#[]⟩ : ByteArray) t209 t206 t210) = some r := H
  have A3 := Aside0.mk A30
  clear A30
  have H' := Aside0.mk H
  clear H
  go_enter Try.func23, Try.ntmps23
  go_wp2_with (first | ((with_reducible refine gate_callee (f := 57) rfl ?_); refine goesL_ (some 7) rfl rfl Try.func57 (by kernel_rfl) rfl #[.slice A0 l0.length c0] rfl (by (try simp only [List.map_toArray, List.map_cons, List.map_nil]); first | done | rfl | (simp only [List.length_drop, List.length_take]; rfl)) ?_; (with_reducible refine (spec_l1Open.calls _ _ l0 t206 t207 w _ ?side1 ?side2 ?side3 A2.out).mono ?_); (case side1 => repeat (first | (with_reducible first | exact HB.out | apply below_alloc | apply pw_below_drewN | apply below_drew1) | exact HB.out)); (case side2 => exact HR0.out); (case side3 => exact HC0.out); rintro e w4 ⟨g208, rfl, hi, hb, hb2⟩; refine ⟨_, rfl, ?_⟩; have n0_ := Aside0.mk (hb); have n1_ := Aside0.mk (hi); clear HB; have HB := n0_; have HI208 := n1_; clear n0_ n1_; (try clear hb); (try clear hb2); (try clear hk); (try clear hi)) | ((with_reducible refine gate_callee (f := 58) rfl ?_); refine goesL_ (some 9) rfl rfl Try.func58 (by kernel_rfl) rfl #[.pointer (some ⟨g208, 0, none⟩), .int .i64 4] rfl (by (try simp only [List.map_toArray, List.map_cons, List.map_nil]); first | done | rfl | (simp only [List.length_drop, List.length_take]; rfl)) ?_; (with_reducible refine (spec_l1Rd_below.calls g208 t206 t207 4 t209 t210 w _ ?side1 ?side2 A3.out).mono ?_); (case side1 => repeat (first | (with_reducible first | exact HI208.out | apply IsS108.alloc | apply IsS108.drewN | apply IsS108.drew | apply IsS108.set_1) | exact HI208.out)); (case side2 => repeat (first | (with_reducible first | exact HB.out | apply below_alloc | apply pw_below_drewN | apply below_drew1 | refine below_set ?_ (IsS108.ge HI208.out)) | exact HB.out)); rintro e w5 ⟨rfl, hi, hb, hk⟩; refine ⟨_, rfl, ?_⟩; have n0_ := Aside0.mk (hb); have n1_ := Aside0.mk (hi); clear HB; clear HI208; have HB := n0_; have HI208 := n1_; clear n0_ n1_; (try clear hb); (try clear hb2); (try clear hk); (try clear hi)))
  go_loopg [4, 5] k (fun kq v4 v5 w' => ∃ (x4_1 : ByteArray) (x5_1 : Int) (x209001_1 : Int), v4 = .string x4_1 ∧ v5 = .int .i64 x5_1 ∧ Aside0 (spec_DrawTakeFrames.l0 kq x4_1 x5_1 t206 x209001_1 = some r) ∧ Aside0 (kq ≤ k) ∧ Aside0 (IsS108 w w' g208 t206 x209001_1) ∧ Aside0 (Below w.heap.size w w'))
  case atStart => exact ⟨((⟨#[]⟩ : ByteArray)), (t209), (t210), (by first | rfl | (simp; done) | (simp [*]; done)), (by first | rfl | (simp; done) | (simp [*]; done)), H', ⟨Nat.le_refl _⟩, ⟨by repeat (first | (with_reducible first | exact HI208.out | apply IsS108.alloc | apply IsS108.drewN | apply IsS108.drew | apply IsS108.set_1) | exact HI208.out)⟩, ⟨by repeat (first | (with_reducible first | exact HB.out | apply below_alloc | apply pw_below_drewN | apply below_drew1 | refine below_set ?_ (IsS108.ge HI208.out)) | exact HB.out)⟩⟩
  case round =>
    clear H'
    try clear c2
    try clear p2
    try clear c5
    obtain ⟨x4_1, x5_1, x209001_1, rfl, rfl, HA, HK1, HI208, HB⟩ := hrel
    cases gk with
    | zero => exact absurd HA.out (by simp [spec_DrawTakeFrames.l0])
    | succ k1 =>
      have H := HA.out
      clear HA
      simp only [spec_DrawTakeFrames.l0] at H
      by_cases c6 : x5_1 > 0
      · rw [if_pos c6] at H
        have c6b0 : decide (0 < x5_1) = true := decide_eq_true c6
        clear c6
        replace H := Option.bind_eq_some_iff.mp H
        obtain ⟨⟨t211, t212⟩, A70, H⟩ := H
        replace H : ((spec_FrameOf.f k1 t211).bind fun t213 => (if x4_1.size + t213.size ≤ 9223372036854775807 then (spec_DrawTakeFrames.l0 k1 (x4_1 ++ t213) (wrap64 (x5_1 - 1)) t206 t212) else (none))) = some r := H
        have A7 := Aside0.mk A70
        clear A70
        replace H := Option.bind_eq_some_iff.mp H
        obtain ⟨t213, A80, H⟩ := H
        replace H : (if x4_1.size + t213.size ≤ 9223372036854775807 then (spec_DrawTakeFrames.l0 k1 (x4_1 ++ t213) (wrap64 (x5_1 - 1)) t206 t212) else (none)) = some r := H
        have A8 := Aside0.mk A80
        clear A80
        by_cases c9 : x4_1.size + t213.size ≤ 9223372036854775807
        · rw [if_pos c9] at H
          have c9b0 := eq_true c9
          have c9b1 : decide (x4_1.size + t213.size ≤ 9223372036854775807) = true := decide_eq_true c9
          try have c9b2 : (9223372036854775807 < x4_1.size + t213.size) = False := eq_false (Nat.not_lt.2 c9)
          have H' := Aside0.mk H
          clear H
          go_wp2_with (first | ((with_reducible refine gate_callee (f := 59) rfl ?_); refine goesL_ (some 16) rfl rfl Try.func59 (by kernel_rfl) rfl #[.pointer (some ⟨g208, 0, none⟩)] rfl (by (try simp only [List.map_toArray, List.map_cons, List.map_nil]); first | done | rfl | (simp only [List.length_drop, List.length_take]; rfl)) ?_; (with_reducible refine (spec_l1Rd_text.calls g208 t206 x209001_1 t211 t212 w _ ?side1 ?side2 A7.out).mono ?_); (case side1 => repeat (first | (with_reducible first | exact HI208.out | apply IsS108.alloc | apply IsS108.drewN | apply IsS108.drew | apply IsS108.set_1) | exact HI208.out)); (case side2 => repeat (first | (with_reducible first | exact HB.out | apply below_alloc | apply pw_below_drewN | apply below_drew1 | refine below_set ?_ (IsS108.ge HI208.out)) | exact HB.out)); rintro e w10 ⟨rfl, hi, hb, hk⟩; refine ⟨_, rfl, ?_⟩; have n0_ := Aside0.mk (hb); have n1_ := Aside0.mk (hi); clear HB; clear HI208; have HB := n0_; have HI208 := n1_; clear n0_ n1_; (try clear hb); (try clear hb2); (try clear hk); (try clear hi)) | ((with_reducible refine gate_callee (f := 15) rfl ?_); refine goesL_ (some 17) rfl rfl Try.func15 (by kernel_rfl) rfl #[.string t211] rfl (by (try simp only [List.map_toArray, List.map_cons, List.map_nil]); first | done | rfl | (simp only [List.length_drop, List.length_take]; rfl)) ?_; (with_reducible refine (spec_FrameOf.calls k1 t211 t213 _ A8.out).mono ?_); rintro e w11 ⟨rfl, hb⟩; refine ⟨_, rfl, ?_⟩; have n0_ := Aside0.mk (IsS108.below (by repeat (first | (with_reducible first | exact HI208.out | apply IsS108.alloc | apply IsS108.drewN | apply IsS108.drew | apply IsS108.set_1) | exact HI208.out)) hb); have n1_ := Aside0.mk (below_step (by repeat (first | (with_reducible first | exact HB.out | apply below_alloc | apply pw_below_drewN | apply below_drew1 | refine below_set ?_ (IsS108.ge HI208.out)) | exact HB.out)) hb); clear HI208; clear HB; have HI208 := n0_; have HB := n1_; clear n0_ n1_; (try clear hb); (try clear hb2); (try clear hk); (try clear hi)))
          go_roundg k1
          case measure => have := HK1.out; omega
          case rel => exact ⟨(x4_1 ++ t213), (wrap64 (x5_1 - 1)), (t212), (by first | rfl | (simp; done) | (simp [*]; done)), (by first | rfl | (simp; done) | (simp [*]; done)), H', ⟨by have := HK1.out; omega⟩, ⟨by repeat (first | (with_reducible first | exact HI208.out | apply IsS108.alloc | apply IsS108.drewN | apply IsS108.drew | apply IsS108.set_1) | exact HI208.out)⟩, ⟨by repeat (first | (with_reducible first | exact HB.out | apply below_alloc | apply pw_below_drewN | apply below_drew1 | refine below_set ?_ (IsS108.ge HI208.out)) | exact HB.out)⟩⟩
        · rw [if_neg c9] at H
          exact absurd H (by simp)
      · rw [if_neg c6] at H
        have c6b0 : decide (0 < x5_1) = false := decide_eq_false c6
        clear c6
        replace H := Option.bind_eq_some_iff.mp H
        obtain ⟨⟨t214, t215⟩, A120, H⟩ := H
        replace H : (some t214) = some r := H
        have A12 := Aside0.mk A120
        clear A120
        obtain rfl := Option.some.inj H
        go_wp2_with (first | ((with_reducible refine gate_callee (f := 60) rfl ?_); refine goesL_ (some 21) rfl rfl Try.func60 (by kernel_rfl) rfl #[.pointer (some ⟨g208, 0, none⟩), .string x4_1] rfl (by (try simp only [List.map_toArray, List.map_cons, List.map_nil]); first | done | rfl | (simp only [List.length_drop, List.length_take]; rfl)) ?_; (with_reducible refine (spec_l1Rd_hurt.calls k1 g208 t206 x209001_1 x4_1 t214 t215 w _ ?side1 ?side2 A12.out).mono ?_); (case side1 => repeat (first | (with_reducible first | exact HI208.out | apply IsS108.alloc | apply IsS108.drewN | apply IsS108.drew | apply IsS108.set_1) | exact HI208.out)); (case side2 => repeat (first | (with_reducible first | exact HB.out | apply below_alloc | apply pw_below_drewN | apply below_drew1 | refine below_set ?_ (IsS108.ge HI208.out)) | exact HB.out)); rintro e w13 ⟨rfl, hi, hb, hk⟩; refine ⟨_, rfl, ?_⟩; have n0_ := Aside0.mk (hb); have n1_ := Aside0.mk (hi); clear HB; clear HI208; have HB := n0_; have HI208 := n1_; clear n0_ n1_; (try clear hb); (try clear hb2); (try clear hk); (try clear hi)))
        go_ret
        exact ⟨by first | rfl | (simp [errW_none, errW_some] <;> rfl) | (simp [*, errW_none, errW_some] <;> rfl), by repeat (first | (with_reducible first | exact HB.out | apply below_alloc | apply pw_below_drewN | apply below_drew1 | refine below_set ?_ (IsS108.ge HI208.out)) | exact HB.out)⟩

/-! ### laws_sameTexts: function 24 -/
def laws_sameTexts.l0 : Nat → List ByteArray → List ByteArray → Int → Option (Bool)
  | 0, _, _, _ => none
  | k + 1, x0, x1, x5 => if x5 < (x0.length : Int) then (if 0 ≤ x5 then (if x5 < (x1.length : Int) then (if (rdOf ByteArray.empty x0 x5).toList = (rdOf ByteArray.empty x1 x5).toList then (laws_sameTexts.l0 k x0 x1 (wrap64 (x5 + 1))) else (some false)) else (none)) else (none)) else (some true)
def laws_sameTexts.f (k : Nat) (l0 : List ByteArray) (l1 : List ByteArray) : Option (Bool) := if (l0.length : Int) = (l1.length : Int) then (laws_sameTexts.l0 k l0 l1 0) else (some false)
theorem laws_sameTexts.mono_l : ∀ k, (∀ y0 y1 y2, LeO (laws_sameTexts.l0 k y0 y1 y2) (laws_sameTexts.l0 (k + 1) y0 y1 y2))
  | 0 => fun _ _ _ r h => by simp [laws_sameTexts.l0] at h
  | k + 1 => by
    have ih0 := laws_sameTexts.mono_l k
    · intro y0 y1 y2
      unfold laws_sameTexts.l0
      repeat' first
      | (with_reducible exact ih0 _ _ _)
      | (with_reducible exact LeO.refl _)
      | (with_reducible exact LeO.none _)
      | (with_reducible refine LeO.ite ?_ ?_)
      | (with_reducible refine LeO.bind ?_ (fun _ => ?_))
      | exact ih0 _ _ _
      | exact LeO.none _
      | refine LeO.ite ?_ ?_
      | refine LeO.bind ?_ (fun _ => ?_)
theorem laws_sameTexts.mono : ∀ a0 a1 k, LeO (laws_sameTexts.f k a0 a1) (laws_sameTexts.f (k + 1) a0 a1) := by
  intro a0 a1 k
  have ih0 := laws_sameTexts.mono_l k
  unfold laws_sameTexts.f
  repeat' first
      | (with_reducible exact ih0 _ _ _)
      | (with_reducible exact LeO.refl _)
      | (with_reducible exact LeO.none _)
      | (with_reducible refine LeO.ite ?_ ?_)
      | (with_reducible refine LeO.bind ?_ (fun _ => ?_))
      | exact ih0 _ _ _
      | exact LeO.none _
      | refine LeO.ite ?_ ?_
      | refine LeO.bind ?_ (fun _ => ?_)
set_option maxHeartbeats 8000000 in
set_option maxRecDepth 100000 in
theorem laws_sameTexts.calls (k : Nat) (A0 : Option Addr) (c0 : Nat) (l0 : List ByteArray) (A1 : Option Addr) (c1 : Nat) (l1 : List ByteArray) (r : Bool) (w : World) (hr0 : Kd.C Kd.string w A0 l0.length l0) (hc0 : l0.length ≤ c0) (hr1 : Kd.C Kd.string w A1 l1.length l1) (hc1 : l1.length ≤ c1) (h : laws_sameTexts.f k l0 l1 = some r) :
    Calls Try.prog 24 #[.slice A0 l0.length c0, .slice A1 l1.length c1] w fun e w' => e = .returned (.bool r) ∧ Drawn0 w w' := by
  have HR0 := Aside0.mk hr0
  have HC0 := Aside0.mk hc0
  clear hr0 hc0
  have HR1 := Aside0.mk hr1
  have HC1 := Aside0.mk hc1
  clear hr1 hc1
  have H : (if (l0.length : Int) = (l1.length : Int) then (laws_sameTexts.l0 k l0 l1 0) else (some false)) = some r := h
  clear h
  by_cases c3 : (l0.length : Int) = (l1.length : Int)
  · rw [if_pos c3] at H
    have c3b0 : ((l0.length : Int) == (l1.length : Int)) = true := beq_iff_eq.mpr c3
    have c3b1 : ((l0.length : Int) != (l1.length : Int)) = false := bne_eq_false_iff_eq.mpr c3
    have c3b2 : (l0.length == l1.length) = true := by first | simpa using c3 | (simp at c3 ⊢; omega)
    clear c3
    have H' := Aside0.mk H
    clear H
    go_enter Try.func24, Try.ntmps24
    go_wp2
    repeat (go_quiet (fail); try go_wp2)
    go_loopg [5] k (fun kq v5 w' => ∃ (x5_1 : Int), v5 = .int .i64 x5_1 ∧ Aside0 (laws_sameTexts.l0 kq l0 l1 x5_1 = some r) ∧ Aside0 (kq ≤ k) ∧ Drawn0 w w')
    case atStart => exact ⟨(0), (by first | rfl | (simp; done) | (simp [*]; done)), H', ⟨Nat.le_refl _⟩, by repeat (first | exact Drawn0.refl _ | apply Drawn0.step)⟩
    case round =>
      clear H'
      try clear c1
      try clear c2
      try clear p2
      try clear c3
      try clear c3b0
      try clear c3b1
      try clear c3b2
      obtain ⟨x5_1, rfl, HA, HK1, ⟨m1, rfl⟩⟩ := hrel
      cases gk with
      | zero => exact absurd HA.out (by simp [laws_sameTexts.l0])
      | succ k1 =>
        have H := HA.out
        clear HA
        simp only [laws_sameTexts.l0] at H
        by_cases c4 : x5_1 < (l0.length : Int)
        · rw [if_pos c4] at H
          have c4b0 : decide (x5_1 < (l0.length : Int)) = true := decide_eq_true c4
          clear c4
          by_cases c5 : 0 ≤ x5_1
          · rw [if_pos c5] at H
            have c5b0 : decide (0 ≤ x5_1) = true := decide_eq_true c5
            clear c5
            by_cases c6 : x5_1 < (l1.length : Int)
            · rw [if_pos c6] at H
              have c6b0 : decide (x5_1 < (l1.length : Int)) = true := decide_eq_true c6
              clear c6
              by_cases c7 : (rdOf ByteArray.empty l0 x5_1).toList = (rdOf ByteArray.empty l1 x5_1).toList
              · rw [if_pos c7] at H
                have c7b0 : ((rdOf ByteArray.empty l0 x5_1).toList == (rdOf ByteArray.empty l1 x5_1).toList) = true := beq_iff_eq.mpr c7
                have c7b1 : ((rdOf ByteArray.empty l0 x5_1).toList != (rdOf ByteArray.empty l1 x5_1).toList) = false := bne_eq_false_iff_eq.mpr c7
                clear c7
                have H' := Aside0.mk H
                clear H
                have p216 : 0 ≤ (x5_1 : Int) := of_decide_eq_true (by first | (with_reducible assumption) | assumption)
                have q216 : x5_1 < (l0.length : Int) := of_decide_eq_true (by first | (with_reducible assumption) | assumption)
                obtain ⟨ad216, e216, hx216_0⟩ := Kd.at_string HR0.out x5_1 p216 q216
                cases e216
                replace p216 := eq_true p216
                replace q216 := eq_true q216
                have p217 : 0 ≤ (x5_1 : Int) := of_decide_eq_true (by first | (with_reducible assumption) | assumption)
                have q217 : x5_1 < (l1.length : Int) := of_decide_eq_true (by first | (with_reducible assumption) | assumption)
                obtain ⟨ad217, e217, hx217_0⟩ := Kd.at_string HR1.out x5_1 p217 q217
                cases e217
                replace p217 := eq_true p217
                replace q217 := eq_true q217
                go_wp2
                repeat (go_quiet (fail); try go_wp2)
                go_roundg k1
                case measure => have := HK1.out; omega
                case rel => exact ⟨(wrap64 (x5_1 + 1)), (by first | rfl | (simp; done) | (simp [*]; done)), H', ⟨by have := HK1.out; omega⟩, by repeat (first | exact Drawn0.refl _ | apply Drawn0.step)⟩
              · rw [if_neg c7] at H
                have c7b0 : ((rdOf ByteArray.empty l0 x5_1).toList == (rdOf ByteArray.empty l1 x5_1).toList) = false := beq_eq_false_iff_ne.mpr c7
                have c7b1 : ((rdOf ByteArray.empty l0 x5_1).toList != (rdOf ByteArray.empty l1 x5_1).toList) = true := bne_iff_ne.mpr c7
                obtain rfl := Option.some.inj H
                have p216 : 0 ≤ (x5_1 : Int) := of_decide_eq_true (by first | (with_reducible assumption) | assumption)
                have q216 : x5_1 < (l0.length : Int) := of_decide_eq_true (by first | (with_reducible assumption) | assumption)
                obtain ⟨ad216, e216, hx216_0⟩ := Kd.at_string HR0.out x5_1 p216 q216
                cases e216
                replace p216 := eq_true p216
                replace q216 := eq_true q216
                have p217 : 0 ≤ (x5_1 : Int) := of_decide_eq_true (by first | (with_reducible assumption) | assumption)
                have q217 : x5_1 < (l1.length : Int) := of_decide_eq_true (by first | (with_reducible assumption) | assumption)
                obtain ⟨ad217, e217, hx217_0⟩ := Kd.at_string HR1.out x5_1 p217 q217
                cases e217
                replace p217 := eq_true p217
                replace q217 := eq_true q217
                go_wp2
                repeat (go_quiet (fail); try go_wp2)
                go_ret
                exact ⟨by first | rfl | (simp; done) | (simp [*]; done), by repeat (first | exact Drawn0.refl _ | apply Drawn0.step)⟩
            · rw [if_neg c6] at H
              exact absurd H (by simp)
          · rw [if_neg c5] at H
            exact absurd H (by simp)
        · rw [if_neg c4] at H
          have c4b0 : decide (x5_1 < (l0.length : Int)) = false := decide_eq_false c4
          clear c4
          obtain rfl := Option.some.inj H
          go_wp2
          repeat (go_quiet (fail); try go_wp2)
          go_ret
          exact ⟨by first | rfl | (simp; done) | (simp [*]; done), by repeat (first | exact Drawn0.refl _ | apply Drawn0.step)⟩
  · rw [if_neg c3] at H
    have c3b0 : ((l0.length : Int) == (l1.length : Int)) = false := beq_eq_false_iff_ne.mpr c3
    have c3b1 : ((l0.length : Int) != (l1.length : Int)) = true := bne_iff_ne.mpr c3
    have c3b2 : (l0.length == l1.length) = false := by first | simpa using c3 | (simp at c3 ⊢; omega)
    obtain rfl := Option.some.inj H
    go_enter Try.func24, Try.ntmps24
    go_wp2
    repeat (go_quiet (fail); try go_wp2)
    go_ret
    exact ⟨by first | rfl | (simp; done) | (simp [*]; done), by repeat (first | exact Drawn0.refl _ | apply Drawn0.step)⟩

/-! ### spec_DrawFrameOf: function 25 -/
def spec_DrawFrameOf.f (k : Nat) (l0 : List Int) : Option (ByteArray) := (spec_l1Open.f l0).bind fun bt218 => ((spec_l1Rd_text.f bt218.1 bt218.2).bind fun bt221 => ((spec_l1Rd_bytes.f k bt218.1 bt221.2 5).bind fun bt223 => (if bt221.1.size + bt223.1.size ≤ 9223372036854775807 then (some (bt221.1 ++ bt223.1)) else (none))))
theorem spec_DrawFrameOf.mono : ∀ a0 k, LeO (spec_DrawFrameOf.f k a0) (spec_DrawFrameOf.f (k + 1) a0) := by
  intro a0 k
  unfold spec_DrawFrameOf.f
  repeat' first
      | (with_reducible exact spec_l1Rd_bytes.mono _ _ _ _)
      | (with_reducible exact LeO.refl _)
      | (with_reducible exact LeO.none _)
      | (with_reducible refine LeO.ite ?_ ?_)
      | (with_reducible refine LeO.bind ?_ (fun _ => ?_))
      | exact spec_l1Rd_bytes.mono _ _ _ _
      | exact LeO.none _
      | refine LeO.ite ?_ ?_
      | refine LeO.bind ?_ (fun _ => ?_)
set_option maxHeartbeats 8000000 in
set_option maxRecDepth 100000 in
theorem spec_DrawFrameOf.calls (k : Nat) (A0 : Option Addr) (c0 : Nat) (l0 : List Int) (r : ByteArray) (w : World) (hr0 : Kd.C (Kd.int .u8) w A0 l0.length l0) (hc0 : l0.length ≤ c0) (h : spec_DrawFrameOf.f k l0 = some r) :
    Calls Try.prog 25 #[.slice A0 l0.length c0] w fun e w' => e = .returned (.string r) ∧ Below w.heap.size w w' := by
  have HR0 := Aside0.mk hr0
  have HC0 := Aside0.mk hc0
  clear hr0 hc0
  have HB := Aside0.mk (Below.refl w.heap.size w)
  have H : ((spec_l1Open.f l0).bind fun bt218 => ((spec_l1Rd_text.f bt218.1 bt218.2).bind fun bt221 => ((spec_l1Rd_bytes.f k bt218.1 bt221.2 5).bind fun bt223 => (if bt221.1.size + bt223.1.size ≤ 9223372036854775807 then (some (bt221.1 ++ bt223.1)) else (none))))) = some r := h
  clear h
  replace H := Option.bind_eq_some_iff.mp H
  obtain ⟨⟨t218, t219⟩, A20, H⟩ := H
  replace H : ((spec_l1Rd_text.f t218 t219).bind fun bt221 => ((spec_l1Rd_bytes.f k t218 bt221.2 5).bind fun bt223 => (if bt221.1.size + bt223.1.size ≤ 9223372036854775807 then (some (bt221.1 ++ bt223.1)) else (none)))) = some r := H
  have A2 := Aside0.mk A20
  clear A20
  replace H := Option.bind_eq_some_iff.mp H
  obtain ⟨⟨t221, t222⟩, A30, H⟩ := H
  replace H : ((spec_l1Rd_bytes.f k t218 t222 5).bind fun bt223 => (if t221.size + bt223.1.size ≤ 9223372036854775807 then (some (t221 ++ bt223.1)) else (none))) = some r := H
  have A3 := Aside0.mk A30
  clear A30
  replace H := Option.bind_eq_some_iff.mp H
  obtain ⟨⟨t223, t224⟩, A40, H⟩ := H
  replace H : (if t221.size + t223.size ≤ 9223372036854775807 then (some (t221 ++ t223)) else (none)) = some r := H
  have A4 := Aside0.mk A40
  clear A40
  by_cases c5 : t221.size + t223.size ≤ 9223372036854775807
  · rw [if_pos c5] at H
    have c5b0 := eq_true c5
    have c5b1 : decide (t221.size + t223.size ≤ 9223372036854775807) = true := decide_eq_true c5
    try have c5b2 : (9223372036854775807 < t221.size + t223.size) = False := eq_false (Nat.not_lt.2 c5)
    obtain rfl := Option.some.inj H
    go_enter Try.func25, Try.ntmps25
    go_wp2_with (first | ((with_reducible refine gate_callee (f := 57) rfl ?_); refine goesL_ (some 5) rfl rfl Try.func57 (by kernel_rfl) rfl #[.slice A0 l0.length c0] rfl (by (try simp only [List.map_toArray, List.map_cons, List.map_nil]); first | done | rfl | (simp only [List.length_drop, List.length_take]; rfl)) ?_; (with_reducible refine (spec_l1Open.calls _ _ l0 t218 t219 w _ ?side1 ?side2 ?side3 A2.out).mono ?_); (case side1 => repeat (first | (with_reducible first | exact HB.out | apply below_alloc | apply pw_below_drewN | apply below_drew1) | exact HB.out)); (case side2 => exact HR0.out); (case side3 => exact HC0.out); rintro e w6 ⟨g220, rfl, hi, hb, hb2⟩; refine ⟨_, rfl, ?_⟩; have n0_ := Aside0.mk (hb); have n1_ := Aside0.mk (hi); clear HB; have HB := n0_; have HI220 := n1_; clear n0_ n1_; (try clear hb); (try clear hb2); (try clear hk); (try clear hi)) | ((with_reducible refine gate_callee (f := 59) rfl ?_); refine goesL_ (some 7) rfl rfl Try.func59 (by kernel_rfl) rfl #[.pointer (some ⟨g220, 0, none⟩)] rfl (by (try simp only [List.map_toArray, List.map_cons, List.map_nil]); first | done | rfl | (simp only [List.length_drop, List.length_take]; rfl)) ?_; (with_reducible refine (spec_l1Rd_text.calls g220 t218 t219 t221 t222 w _ ?side1 ?side2 A3.out).mono ?_); (case side1 => repeat (first | (with_reducible first | exact HI220.out | apply IsS108.alloc | apply IsS108.drewN | apply IsS108.drew | apply IsS108.set_1) | exact HI220.out)); (case side2 => repeat (first | (with_reducible first | exact HB.out | apply below_alloc | apply pw_below_drewN | apply below_drew1 | refine below_set ?_ (IsS108.ge HI220.out)) | exact HB.out)); rintro e w7 ⟨rfl, hi, hb, hk⟩; refine ⟨_, rfl, ?_⟩; have n0_ := Aside0.mk (hb); have n1_ := Aside0.mk (hi); clear HB; clear HI220; have HB := n0_; have HI220 := n1_; clear n0_ n1_; (try clear hb); (try clear hb2); (try clear hk); (try clear hi)) | ((with_reducible refine gate_callee (f := 61) rfl ?_); refine goesL_ (some 9) rfl rfl Try.func61 (by kernel_rfl) rfl #[.pointer (some ⟨g220, 0, none⟩), .int .i64 5] rfl (by (try simp only [List.map_toArray, List.map_cons, List.map_nil]); first | done | rfl | (simp only [List.length_drop, List.length_take]; rfl)) ?_; (with_reducible refine (spec_l1Rd_bytes.calls k g220 t218 t222 5 t223 t224 w _ ?side1 ?side2 A4.out).mono ?_); (case side1 => repeat (first | (with_reducible first | exact HI220.out | apply IsS108.alloc | apply IsS108.drewN | apply IsS108.drew | apply IsS108.set_1) | exact HI220.out)); (case side2 => repeat (first | (with_reducible first | exact HB.out | apply below_alloc | apply pw_below_drewN | apply below_drew1 | refine below_set ?_ (IsS108.ge HI220.out)) | exact HB.out)); rintro e w8 ⟨rfl, hi, hb, hk⟩; refine ⟨_, rfl, ?_⟩; have n0_ := Aside0.mk (hb); have n1_ := Aside0.mk (hi); clear HB; clear HI220; have HB := n0_; have HI220 := n1_; clear n0_ n1_; (try clear hb); (try clear hb2); (try clear hk); (try clear hi)))
    go_ret
    exact ⟨by first | rfl | (simp [errW_none, errW_some] <;> rfl) | (simp [*, errW_none, errW_some] <;> rfl), by repeat (first | (with_reducible first | exact HB.out | apply below_alloc | apply pw_below_drewN | apply below_drew1 | refine below_set ?_ (IsS108.ge HI220.out)) | exact HB.out)⟩
  · rw [if_neg c5] at H
    exact absurd H (by simp)

end Go.Proofs.Ytcfnhfbaakflgaa.PFrames
