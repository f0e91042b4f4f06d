/- More fuel says the same. -/
import Derived.Test.YtcfnhfbaakflgaaAbsEnv
set_option linter.unusedVariables false
set_option linter.unusedSimpArgs false
set_option linter.unusedSectionVars false
namespace Go.Proofs.Ytcfnhfbaakflgaa.Abs
open Go Go.RowKit

section
variable {E : Env} {call call' : (I : FnI) → List SV → Tab → Option (I.sh.den × I.bx.den)}
theorem callKey_mono (hc : ∀ I args tab z, call I args tab = some z → call' I args tab = some z) {g key : Nat} {args : List SV} {res : Tab} {r0 : Nat} {p : SV × Up} (h : callKey E call g key args res r0 ans = some p) : callKey E call' g key args res r0 ans = some p := by
  unfold callKey at h ⊢
  cases hI : nth E.fns key with
  | none => rw [hI] at h; cases h
  | some I =>
    simp only [hI] at h ⊢
    cases hg : Nat.beq I.g g with
    | false => rw [hg] at h; cases h
    | true =>
      simp only [hg] at h ⊢
      cases hv : valAll res (I.fn.params.toList.map fun T => nth E.ty T) I.own args with
      | none => rw [hv] at h; cases h
      | some q =>
        obtain ⟨args', fr⟩ := q
        simp only [hv] at h ⊢
        split at h
        · rename_i h1 h2 h3
          rw [Option.bind_eq_some_iff] at h
          obtain ⟨z, hz, h⟩ := h
          rw [Option.bind_eq_some_iff]
          exact ⟨z, hc _ _ _ _ hz, h⟩
        · cases h
theorem callFn_mono (hc : ∀ I args tab z, call I args tab = some z → call' I args tab = some z) {g : Nat} {args : List SV} {res : Tab} {r0 : Nat} {p : SV × Up} (h : callFn E call g args res r0 ans = some p) : callFn E call' g args res r0 ans = some p := by
  unfold callFn at h ⊢
  split at h
  · exact callKey_mono hc h
  · rename_i s hs
    rw [Option.bind_eq_some_iff] at h ⊢
    obtain ⟨b, hb, h⟩ := h
    refine ⟨b, hb, ?_⟩
    split at h
    · rename_i hb'
      rw [if_pos hb']
      exact callKey_mono hc h
    · rename_i hb'
      rw [if_neg hb']
      exact callKey_mono hc h
theorem core_mono (hc : ∀ I args tab z, call I args tab = some z → call' I args tab = some z) {o : Oper} {vs : List SV} {res : Tab} {r0 : Nat} {p : SV × Up} (h : core E call o vs res r0 ans = some p) : core E call' o vs res r0 ans = some p := by
  obtain ⟨dst, op, ty, pos, after, guard⟩ := o
  cases op
  case call c =>
    obtain ⟨callee, args, argTypes⟩ := c
    cases callee with
    | value f =>
      rcases vs with _ | ⟨v1, vs⟩
      · cases h
      · cases v1 with
        | fn g caps =>
          rcases vs with _ | ⟨v2, _ | ⟨v3, vs⟩⟩ <;> exact callFn_mono hc h
        | _ => rcases vs with _ | ⟨v2, _ | ⟨v3, vs⟩⟩ <;> cases h
    | _ => rcases vs with _ | ⟨v1, _ | ⟨v2, _ | ⟨v3, vs⟩⟩⟩ <;> exact h
  case makeFunc fn first captured => cases fn <;> rcases vs with _ | ⟨v1, _ | ⟨v2, _ | ⟨v3, vs⟩⟩⟩ <;> exact h
  all_goals rcases vs with _ | ⟨v1, _ | ⟨v2, _ | ⟨v3, _ | ⟨v4, vs⟩⟩⟩⟩ <;> exact h
theorem core_mono' (hc : ∀ I args tab z, call I args tab = some z → call' I args tab = some z) {R R' : Type} {K : SV → Up → Option R} {K' : SV → Up → Option R'} {z : R} {z' : R'} (hK : ∀ v u, K v u = some z → K' v u = some z') {o : Oper} {vs : List SV} {res : Tab} {r0 : Nat} (h : core E call o vs res r0 K = some z) : core E call' o vs res r0 K' = some z' := by
  obtain ⟨v, u, h1, h2⟩ := core_says h
  rw [core_k, core_mono hc h1]
  exact hK v u h2
theorem runOps_mono (hc : ∀ I args tab z, call I args tab = some z → call' I args tab = some z) {R : Type} {K K' : St → Option R} {z : R} (hK : ∀ σ, K σ = some z → K' σ = some z) {all : Array Oper} {draw : Bool} {base : Nat} :
    ∀ {l : List (Nat × Oper)} {g : List Log} {σ : St}, runOps E call all draw base l g σ K = some z → runOps E call' all draw base l g σ K' = some z
  | [], g, σ, h => by
    unfold runOps at h ⊢
    cases draw with
    | false => exact hK σ h
    | true =>
      simp only at h ⊢
      split at h
      · rename_i h1 h2
        exact hK σ h
      · cases h
  | (i, o) :: l, g, σ, h => by
    have act : ∀ (σ : St) (b : Bool), (match b with
      | true => core E call o ((opnds o.op).map (ev σ.slots)) (restrict σ.res (seeOf o σ.res ((opnds o.op).map (ev σ.slots)))) (base + 64 * i) fun v u => match smallU (base + 64 * i) (seeOf o σ.res ((opnds o.op).map (ev σ.slots))) u with
        | true => runOps E call all draw base l ({ i, see := seeOf o σ.res ((opnds o.op).map (ev σ.slots)), turn := u.map (·.1) } :: g) (putS σ o.dst v u) K
        | false => none
      | false => runOps E call all draw base l ({ i, see := [], turn := [] } :: g) (putS σ o.dst (.tup []) []) K) = some z →
      (match b with
      | true => core E call' o ((opnds o.op).map (ev σ.slots)) (restrict σ.res (seeOf o σ.res ((opnds o.op).map (ev σ.slots)))) (base + 64 * i) fun v u => match smallU (base + 64 * i) (seeOf o σ.res ((opnds o.op).map (ev σ.slots))) u with
        | true => runOps E call' all draw base l ({ i, see := seeOf o σ.res ((opnds o.op).map (ev σ.slots)), turn := u.map (·.1) } :: g) (putS σ o.dst v u) K'
        | false => none
      | false => runOps E call' all draw base l ({ i, see := [], turn := [] } :: g) (putS σ o.dst (.tup []) []) K') = some z := by
      intro σ b h
      cases b with
      | true =>
        refine core_mono' hc (fun v u hh => ?_) h
        split at hh
        · exact runOps_mono hc hK hh
        · cases hh
      | false => exact runOps_mono hc hK h
    unfold runOps at h ⊢
    dsimp only at h ⊢
    split at h
    · exact act σ true h
    · rename_i j want hg
      split at h
      · rename_i d hd
        split at h
        · split at h
          · rename_i hx
            rw [if_pos hx]
            exact act { σ with slots := setSlot σ.slots d (.val .bool true) } (true == want) h
          · rename_i hx
            rw [if_neg hx]
            exact act { σ with slots := setSlot σ.slots d (.val .bool false) } (false == want) h
        · exact act σ false h
        · cases h
      · cases h
/-- More rounds say the same. -/
theorem run_mono (E : Env) : ∀ {k m : Nat}, k ≤ m → ∀ {I : FnI} {R : Type} {K K' : St → Option R} {c : Code} {S : List Fr} {σ : St} {z : R}, (∀ σ, K σ = some z → K' σ = some z) → run E k I K c S σ = some z → run E m I K' c S σ = some z
  | 0, _, _, _, _, _, _, _, _, _, _, _, h => by cases h
  | k + 1, 0, hle, _, _, _, _, _, _, _, _, _, _ => absurd hle (by omega)
  | k + 1, m + 1, hle, I, R, K, K', c, S, σ, z, hK, h => by
    have ih : ∀ {I : FnI} {R : Type} {K K' : St → Option R} {c : Code} {S : List Fr} {σ : St} {z : R}, (∀ σ, K σ = some z → K' σ = some z) → run E k I K c S σ = some z → run E m I K' c S σ = some z := fun hK h => run_mono E (Nat.le_of_succ_le_succ hle) hK h
    have ihp : ∀ {S : List Fr} {σ : St}, pop (run E k) I K S σ = some z → pop (run E m) I K' S σ = some z := by
      intro S σ h
      cases S with
      | nil => exact hK σ h
      | cons f S => cases f <;> exact ih hK h
    have ihc : ∀ I args tab z, callOf E (run E k) I args tab = some z → callOf E (run E m) I args tab = some z := fun I args tab z h => by
      unfold callOf at h ⊢
      split at h
      · exact h
      · exact ih (fun σ h => h) h
    rw [run_succ] at h ⊢
    unfold step at h ⊢
    split at h
    · exact ihp h
    · dsimp only at h ⊢
      exact runOps_mono ihc (fun σ' h' => ihp h') h
    · exact ih hK h
    · split at h
      · split at h
        · rename_i hx
          rw [if_pos hx]
          exact ih hK h
        · rename_i hx
          rw [if_neg hx]
          exact ih hK h
      · cases h
    · exact ih hK h
    · exact ih hK h
    · split at h
      · exact ih hK h
      · cases h
    · exact hK σ h
    · cases h
end
theorem call_mono {E : Env} {k m : Nat} (hm : k ≤ m) {I : FnI} {args : List SV} {tab : Tab} {z : I.sh.den × I.bx.den} (h : call E k I args tab = some z) : call E m I args tab = some z := by
  unfold call callOf at h ⊢
  split at h
  · exact h
  · exact run_mono E hm (fun _ h => h) h
end Go.Proofs.Ytcfnhfbaakflgaa.Abs
