/- laws.FnEvalLooked holds: whatever the input, it returns true and the input reads as it did. -/
import Derived.Test.YtiligfmembmapaaGreatDoorRows
import Derived.Test.YtiligfmembmapaaGreatDoorChecked
import Derived.Test.YtiligfmembmapaaGreatDoorZEnv
import Derived.WalkKit
import Derived.ProofKit
import Derived.OpenShut
import Derived.ShutString
import Derived.ChangeOld
import Derived.Below
import Derived.SizedLaws
import Derived.Test.YtiligfmembmapaaGreatDoorTie
import Derived.Test.YtiligfmembmapaaGreatDoorCards
import Derived.LaidMore
import Derived.Stop.Joined
import Derived.LaidSub
import Derived.SevenTiedAt
import Derived.Lay
import Derived.Stop.LaidErr
import Derived.Test.YtiligfmembmapaaGreatDoorZL1
import Derived.Test.YtiligfmembmapaaGreatDoorZPLLooked
namespace Go.Proofs.YtiligfmembmapaaGreatDoor.fnEvalLooked
open Go.ChangeShapes Go.WideShapes Go.ChangeAt Go.RowKit Go.Proofs.YtiligfmembmapaaGreatDoor.Abs
set_option linter.unusedVariables false
theorem own : ownKnob Tryz.prog.godebug = none := by kernel_rfl
theorem laidOut : laidOutB Tryz.prog = true := by kernel_rfl
theorem door_met (os : Os) (args : Array Value) : laidMetH Tryz.prog Rows.fnEvalLookedRow.laid ((World.laidAll Tryz.prog os Rows.fnEvalLookedRow.laid).forCall (fun _ _ => 0) ⟨#[], args, []⟩).memory :=
  by rw [MakeChecks.laidMetH_plain _ _ _ (by kernel_rfl)]; exact laidMet_laidAll _ (by kernel_rfl) (by kernel_rfl)
theorem met_powRow {W : World} (h : laidMetH Tryz.prog Rows.fnEvalLookedRow.laid W) : ∃ a, W.var? Tryz.prog "internal/strconv.uint64pow10" = some a ∧ a = (Lib.pow10Tab.map fun z => Value.int .u64 z).toArray := by
  have h2 : laidMetH Tryz.prog [("internal/strconv.uint64pow10", Lib.tabData .u64 Lib.pow10Tab)] W := h.filter fun x => x.1 == "internal/strconv.uint64pow10"
  rw [MakeChecks.laidMetH_plain _ _ _ (by kernel_rfl)] at h2
  have h3 : Lib.TabIs Tryz.prog W "internal/strconv.uint64pow10" .u64 Lib.pow10Tab := Lib.tabIs_of_head (g := 5) (t := 231) (e := 167) (n := 20) (by kernel_rfl) (by kernel_rfl) Tryz.underlying231 Tryz.underlying167 (by kernel_rfl) (by kernel_rfl) h2
  exact ⟨_, h3, rfl⟩
theorem vars_ok {W : World} (h : laidMetH Tryz.prog Rows.fnEvalLookedRow.laid W) (hs : W.ShapedOpen Tryz.prog) : VarsGp Tryz.prog vars W (Xof [] fun _ => none) := by
  intro p hp
  unfold vars at hp
  rcases List.mem_cons.1 hp with rfl | hp
  · exact ⟨met_powRow h, fun _ _ hx => by obtain ⟨_, _, hx, _⟩ := hx; cases hx⟩
  cases hp
set_option maxRecDepth 100000 in
theorem lifted (os : Os) (started : os.Started) (H : Type) (enc : TypeId × Value → H) :
    ReturnsInHanded {} Tryz.checked os 4 .any (fun w args => (Rows.fnEvalLookedSpec.pre enc Tryz.prog Tryz.f4 Rows.fnEvalLookedRow.domain false w args ∧ laidMetH Tryz.prog Rows.fnEvalLookedRow.laid w) ∧ sizedMet enc Tryz.prog Tryz.f4 (OpenSpec.ofChange Rows.fnEvalLookedSpec) false w args) (Rows.fnEvalLookedSpec.post enc Tryz.prog Tryz.f4 false true false false) := by
  refine returnsInHanded_and_shaped (C := Tryz.checked) (X := fun w _ => laidMetH Tryz.prog Rows.fnEvalLookedRow.laid w) (fun _ _ _ hh h => h.of_heap hh) own started (by kernel_rfl) Tryz.func4
    (ChangeSpec.witness_shaped (enc := enc) (C := Tryz.checked) (os := os) (X := fun w _ => laidMetH Tryz.prog Rows.fnEvalLookedRow.laid w) false (World.laidAll Tryz.prog os Rows.fnEvalLookedRow.laid) #[.slice none 0 0] 8 (World.laidAll_os _ _ _) (World.shaped_of_ZipB (by kernel_rfl) (by kernel_rfl)) (by kernel_rfl) (by kernel_rfl) (by kernel_rfl) (door_met os _)) ?_
  intro W base args ds gs before hval0 hW _ _ hL hSh _
  have hval : ∀ (j : Nat) t v, Tryz.f4.params[j]? = some t → args[j]? = some v → Value.okWide Tryz.prog W .any base t v := hval0
  have hW' := hW
  obtain ⟨p, q, hA0, hV, rfl, hfz, hnd⟩ := hW
  have hA : DataW.TrodAll enc Tryz.prog W 0 (fun _ => true) true Tryz.f4.params.toList args.toList ds p := hA0
  rw [Tryz.params4] at hA hval
  obtain ⟨v0, vs0, d0, ds0, p0, q0, hargs, rfl, rfl, h0, r0⟩ := trodAll_cons hA
  obtain ⟨rfl, rfl, rfl⟩ := trodAll_nil r0
  obtain rfl : args = #[v0] := by cases args; simp_all
  obtain ⟨rfl, rfl⟩ := trodVars_none hV
  have k0 := h0
  have lt0 : ∀ x ∈ p0, x.block < W.heap.size := by obtain ⟨m, hm⟩ := k0; exact DataW.trod_lt m _ _ _ hm
  obtain ⟨y0, m0, e0, z0⟩ := arg_ok (d := 9) (T := 37) (t := (.slice 5 (.int .u8))) (by kernel_rfl) (hval 0 37 v0 rfl rfl) h0
  clear hA0 hval0
  refine (law_calls (P := Tryz.prog) (E := E) (Gp := VarsGp Tryz.prog vars) (I := I_wFnEvalLooked) (key := 4) VarsGp.stable (by kernel_rfl) env_ok prims_ok (by kernel_rfl) (Says.ofL (wFnEvalLooked_ok m0)) (by kernel_rfl) (by kernel_rfl) (by kernel_rfl) (w := W) (us := [v0]) (vars_ok hL hSh) (.cons (RV_arg e0 z0) (.nil))).mono fun e W' ⟨he, bel⟩ => ?_
  subst he
  exact ⟨_, rfl, _, _, _, [], _, [], hW', trodAll_mk1 (shut_bool Tryz.underlying4 _), (trodAll_cons_mk (Below.trod laidOut (by kernel_rfl) (of_decide_eq_true (by kernel_rfl)) k0 bel lt0) trodAll_mk0), rfl, bel.frame _, fun h => by cases h⟩
theorem over : Rows.fnEvalLookedRow.holds Tryz.pinned (OpenSpec.ofChange Rows.fnEvalLookedSpec) :=
  OpenClaim.holds_of_wide 4 Tryz.f4 rfl rfl rfl rfl rfl rfl rfl ⟨rfl, rfl, rfl, rfl, rfl⟩ rfl rfl rfl rfl rfl (by kernel_rfl) Tryz.func4 (by kernel_rfl)
    (of_decide_eq_true (by kernel_rfl)) (by unfold Func.isWrapper; first | (rw [if_pos (by decide +kernel)]; kernel_rfl) | (rw [if_neg (by decide +kernel)]; exact ⟨rfl, rfl⟩))
    (fun os started H enc _ => lifted os started H enc)
theorem proved : Rows.FnEvalLookedCardSaid :=
  Claim7.holds_tied_plain_at .later [] [.data, .data, .data] true (true, "3b97cd11a26d15c36d7965f0fe3962ca935eeada856b1128fa9c14407446b9b7") true over (fun _ h => by cases h) (by kernel_rfl) (fun _ h => by cases h) fnEvalLooked_row_tie rfl ⟨rfl, rfl⟩ (by kernel_rfl) rfl
    (fun f fn hf hfn => by
      obtain rfl : f = 4 := Option.some.inj ((show Tryz.prog.funcNamed "loop.example/g00267/laws.FnEvalLooked" = some 4 by kernel_rfl).symm.trans hf) |>.symm
      obtain rfl : fn = Tryz.f4 := (Option.some.inj (Tryz.func4.symm.trans hfn)).symm
      exact ⟨by kernel_rfl, fun j t ht => by
        rw [Tryz.params4] at ht
        have hm : t ∈ [37] := by simpa using Array.mem_of_getElem? ht
        have hall : ([37].all fun u => !Tryz.prog.wantsStandIn u) = true := by kernel_rfl
        exact (show Tryz.prog.wantsStandIn t = false by simpa using List.all_eq_true.1 hall t hm)⟩)
    (by kernel_rfl)
#print axioms proved
end Go.Proofs.YtiligfmembmapaaGreatDoor.fnEvalLooked
namespace Go.Proofs.YtiligfmembmapaaGreatDoor
/-- The row, under a short name, for the claim. -/
theorem fnEvalLooked_holds : Rows.FnEvalLookedCardSaid := fnEvalLooked.proved
end Go.Proofs.YtiligfmembmapaaGreatDoor
