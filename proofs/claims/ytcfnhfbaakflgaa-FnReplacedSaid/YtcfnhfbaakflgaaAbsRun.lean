/- Operations, one behind the other. -/
import Derived.Test.YtcfnhfbaakflgaaAbsCall2
import Derived.Orders
set_option linter.unusedVariables false
set_option linter.unusedSimpArgs false
set_option linter.unusedSectionVars false
namespace Go.Proofs.Ytcfnhfbaakflgaa.Abs
open Go Go.RowKit

section
variable {P : Program} {E : Env} {call : (I : FnI) → List SV → Tab → Option (I.sh.den × I.bx.den)} {w0 : World} {X : Nat → Prop} {Pr0 : Nat → Nat → Prop} {sl : List SV} {get : Nat → Option Res} {γ : Nat → Option G} {Pr : Nat → Nat → Prop}
  {a : Act} {w : World} {res : Tab} {r0 : Nat} {o : Oper} {vs : List SV} {v : SV} {u : Up}
theorem RVs_append {L : Lk} : ∀ {l m : List SV} {us ws : List Value}, RVs L γ l us → RVs L γ m ws → RVs L γ (l ++ m) (us ++ ws)
  | _, _, _, _, .nil, k => k
  | _, _, _, _, .cons h hs, k => .cons h (RVs_append hs k)
theorem op_callFn (hS : Sound P E call) (H : Ahead P E call w0 X Pr0 sl get γ Pr a w res r0 o vs v u) {f : Operand} {args : Array Operand} {argTypes : Array TypeId} (hop : o.op = .call { callee := .value f, args := args, argTypes := argTypes }) : Done P w0 X Pr0 sl get γ Pr a w r0 o v u := by
  obtain ⟨hE, hI, hk, hfr, hv, hc⟩ := H
  rw [hop] at hv
  have hv' : RVs (Ln Pr w) γ vs (a.eval f :: args.toList.map a.eval) := hv
  cases hv' with
  | @cons x as _ _ hx has =>
    unfold core at hc
    simp only [hop] at hc
    have hc' : (match (generalizing := false) x :: as with
      | .fn g caps :: as => callFn E call g (as ++ caps) res r0 ans
      | _ => none) = some (v, u) := by
      rcases as with _ | ⟨v2, _ | ⟨v3, vs⟩⟩ <;> cases x <;> exact hc
    cases x with
    | fn g caps =>
      have hc' : callFn E call g (as ++ caps) res r0 ans = some (v, u) := hc'
      generalize hfv : a.eval f = fv at hx
      cases hx with
      | fn hcaps =>
        rename_i cv
        refine callFn_ok hS hE hI hk hfr (RVs_append has hcaps) hc' ?_
        intro fn hfn hname hbody
        have hargs : args.map a.eval ++ cv.toArray = (args.toList.map a.eval ++ cv).toArray := by
          apply Array.toList_inj.1
          simp
        have hb : fn.body.isNone = false := by
          cases hbb : fn.body with
          | none => rw [hbb] at hbody; cases hbody
          | some c => rfl
        have h0 : (#[] : Array Value) ++ args.map a.eval = args.map a.eval := by simp
        simp only [execOp, hop, resolve, hfv, Deferred.ofValue, pure_bind, invoke, callFunc, h0, hargs, Sem.run_bind, run_program, Result.andThen_ok, hfn, hname, hb]
        rfl
    | _ => cases hc'
theorem op_all (hS : Sound P E call) (H : Ahead P E call w0 X Pr0 sl get γ Pr a w res r0 o vs v u) : Done P w0 X Pr0 sl get γ Pr a w r0 o v u := by
  cases hop : o.op
  case move i => exact op_moves H (.inl hop)
  case assign i => exact op_moves H (.inr hop)
  case pick i j k => exact op_pick H hop
  case alloc T => exact op_alloc H hop
  case box T i => exact op_box H hop
  case build T ps => exact op_build H hop
  case buildSlice T n ps => exact op_buildSlice H hop
  case load T i => exact op_load H hop
  case store T i j => exact op_store H hop
  case nilCheck i => exact op_nilCheck H hop
  case binOp op T i j T' => exact op_binOp H hop
  case unOp op T i => exact op_unOp H hop
  case convert S D i => exact op_convert H hop
  case makeFunc fn first captured => exact op_makeFunc H hop
  case makeSlice T i j => exact op_makeSlice H hop
  case slice T i lo hi mx => exact op_slice H hop
  case fieldAddr T i f => exact op_fieldAddr H hop
  case field T i f => exact op_field H hop
  case indexAddr T i j => exact op_indexAddr H hop
  case index T i j => exact op_index H hop
  case extract i f => exact op_extract H hop
  case call c =>
    obtain ⟨callee, args, argTypes⟩ := c
    cases callee with
    | builtin b => exact op_builtin H hop
    | value f => exact op_callFn hS H hop
    | invoke r n =>
      have hc := H.says
      unfold core at hc
      simp only [hop] at hc
      rcases vs with _ | ⟨v1, _ | ⟨v2, _ | ⟨v3, vs⟩⟩⟩ <;> cases hc
  all_goals
    have hc := H.says
    unfold core at hc
    simp only [hop] at hc
    rcases vs with _ | ⟨v1, _ | ⟨v2, _ | ⟨v3, vs⟩⟩⟩ <;> cases hc
/-! ### One operation of a region -/
def putD (sl : List SV) (d : Option Nat) (v : SV) : List SV := match d with | some d => setSlot sl d v | none => sl
theorem Inv.put (hI : Inv w0 X Pr0 sl get γ Pr a w) {v : SV} {x : Value} (hv : RV (Ln Pr w) γ v x) (d : Option Nat) : Inv w0 X Pr0 (putD sl d v) get γ Pr (a.put d x) w := by
  have hs : RVs (Ln Pr w) γ (putD sl d v) (a.put d x).tmps.toList ∧ (a.put d x).defers = [] := by
    cases d with
    | none => exact ⟨hI.slots, hI.defers⟩
    | some d =>
      refine ⟨?_, hI.defers⟩
      show RVs (Ln Pr w) γ (setSlot sl d v) (a.tmps.setIfInBounds d x).toList
      rw [Array.toList_setIfInBounds]
      exact RVs_set hI.slots hv
  exact ⟨hs.1, hs.2, hI.gs, hI.wfs, hI.res, hI.apart, hI.loose, hI.where_, hI.frame, hI.size, hI.os, hI.tape, hI.output, hI.prIn, hI.prOld, hI.pr0⟩
/-- Is it carried out? -/
def GuardOk (all : Array Oper) (o : Oper) (sl : List SV) (ran : Bool) : Prop := match o.guard with
  | none => ran = true
  | some (j, want) => ∃ d, (all[j]?).bind (·.dst) = some d ∧ ((∃ x, slot sl d = .val .bool x ∧ ran = (x == want)) ∨ (slot sl d = .tup [] ∧ ran = false))
theorem wanted_ok {L : Lk} {all : Array Oper} {ran : Bool} (h : GuardOk all o sl ran) (hs : RVs L γ sl a.tmps.toList) : Region.wanted o (yielded all a.tmps) = ran := by
  unfold GuardOk at h
  unfold Region.wanted
  split at h
  · rename_i hg
    rw [hg]
    exact h.symm
  · rename_i j want hg
    obtain ⟨d, h1, ⟨x, h2, rfl⟩ | ⟨h2, rfl⟩⟩ := h
    rotate_left
    · rw [hg]
      simp only
      have hd : sl[d]? = some (.tup []) := by
        rw [slot_get] at h2
        cases hh : sl[d]? with
        | none => rw [hh] at h2; cases h2
        | some y => rw [hh] at h2; exact congrArg some h2
      obtain ⟨y, h3, h4⟩ := RVs_get hs hd
      cases h4 with
      | tup h5 =>
      cases h5
      have : yielded all a.tmps j = none := by
        unfold yielded
        rw [h1]
        simp only [Option.bind_some]
        rw [← Array.getElem?_toList, h3]
      rw [this]
      rfl
    rw [hg]
    simp only
    have hd : sl[d]? = some (.val .bool x) := by
      rw [slot_get] at h2
      cases hh : sl[d]? with
      | none => rw [hh] at h2; cases h2
      | some y => rw [hh] at h2; exact congrArg some h2
    obtain ⟨y, h3, h4⟩ := RVs_get hs hd
    have hy := val_bool h4
    subst hy
    have : yielded all a.tmps j = some x := by
      unfold yielded
      rw [h1]
      simp only [Option.bind_some]
      rw [← Array.getElem?_toList, h3]
    rw [this]
    cases x <;> cases want <;> rfl
theorem exec_one {all : Array Oper} {Q : Exit → Act → World → Prop} {K : Act → World → Prop} {i : Nat} {ran : Bool} (hS : Sound P E call) (hE : EnvOk P E) (hI : Inv w0 X Pr0 sl get γ Pr a w) (hi : all[i]? = some o) (hg : GuardOk all o sl ran)
    (hran : ran = true → core E call o ((opnds o.op).map (ev sl)) res r0 ans = some (v, u)) (hk : ∀ r x, getR res r = some x → get r = some x) (hskip : ran = false → v = .tup [] ∧ u = []) (hfree : ∀ r, r0 ≤ r → r < r0 + 64 → γ r = none)
    (h : ∀ a' w' γ' Pr', Inv w0 X Pr0 (putD sl o.dst v) (updG get u) γ' Pr' a' w' → (∀ r, ¬ (r0 ≤ r ∧ r < r0 + 64) → γ' r = γ r) → K a' w') : wpOp P all Q i K a w := by
  unfold wpOp
  simp only [hi]
  rw [wanted_ok hg hI.slots]
  cases ran with
  | false =>
    obtain ⟨rfl, rfl⟩ := hskip rfl
    simp only [Bool.false_eq_true, if_false]
    exact h _ _ γ Pr (hI.put (.tup .nil) o.dst) (fun _ _ => rfl)
  | true =>
    simp only [if_true]
    left
    refine op_all hS ⟨hE, hI, hk, hfree, evs_ok hI.slots _, hran rfl⟩ K Q ?_
    intro v' γ' Pr' w' hv hI' hγ
    exact h _ _ γ' Pr' (hI'.put hv o.dst) hγ
/-! ### The reader's own steps -/
theorem setSlot_same : ∀ (l : List SV) (d : Nat) (v : SV), slot l d = v → setSlot l d v = l
  | [], _, _, _ => rfl
  | x :: l, 0, v, h => by
    have : x = v := h
    rw [this]
    rfl
  | x :: l, d + 1, v, h => congrArg (x :: ·) (setSlot_same l d v h)
theorem getR_delR {k r : Nat} : ∀ {l : Tab}, getR (delR l k) r = if r = k then none else getR l r
  | [] => by simp [delR, getR]
  | (i, x) :: l => by
    unfold delR
    by_cases hi : i = k
    · subst hi
      have : Nat.beq i i = true := by simp
      rw [this]
      simp only
      rw [getR_delR, getR_cons]
      by_cases hr : r = i
      · rw [if_pos hr, if_pos hr]
      · rw [if_neg hr, if_neg hr, if_neg (fun e => hr e.symm)]
    · have : Nat.beq i k = false := by
        cases hb : Nat.beq i k with
        | false => rfl
        | true => exact absurd (Nat.eq_of_beq_eq_true hb) hi
      rw [this]
      simp only
      rw [getR_cons, getR_cons, getR_delR]
      by_cases hr : r = k
      · subst hr
        simp [hi]
      · simp [hr]
theorem getR_setR {k r : Nat} {v : Res} {l : Tab} : getR (setR l k v) r = if r = k then some v else getR l r := by
  unfold setR
  rw [getR_cons, getR_delR]
  by_cases h : k = r
  · rw [if_pos h, if_pos h.symm]
  · rw [if_neg h, if_neg (fun e => h e.symm), if_neg (fun e => h e.symm)]
theorem getR_applyU : ∀ {u : Up} {l : Tab}, getR (applyU l u) = updG (getR l) u
  | [], l => rfl
  | (r, some v) :: u, l => by
    show getR (applyU (setR l r v) u) = updG (fun s => if s = r then some v else getR l s) u
    rw [getR_applyU]
    congr 1
    funext s
    exact getR_setR
  | (r, none) :: u, l => by
    show getR (applyU (delR l r) u) = updG (fun s => if s = r then none else getR l s) u
    rw [getR_applyU]
    congr 1
    funext s
    exact getR_delR
theorem restrict_get {res : Tab} : ∀ {ids : List Nat} {r : Nat} {x : Res}, getR (restrict res ids) r = some x → r ∈ ids ∧ getR res r = some x
  | [], _, _, h => by simp [restrict, getR] at h
  | i :: ids, r, x, h => by
    unfold restrict at h
    split at h
    · rename_i v hv
      rw [getR_cons] at h
      split at h
      · rename_i hi
        subst hi
        cases h
        exact ⟨by simp, hv⟩
      · obtain ⟨h1, h2⟩ := restrict_get h
        exact ⟨List.mem_cons_of_mem _ h1, h2⟩
    · obtain ⟨h1, h2⟩ := restrict_get h
      exact ⟨List.mem_cons_of_mem _ h1, h2⟩
variable {R : Type} {K : St → Option R} {z : R}
theorem runOps_cons {all : Array Oper} {draw : Bool} {base i : Nat} {l : List (Nat × Oper)} {g : List Log} {σ : St} (h : runOps E call all draw base ((i, o) :: l) g σ K = some z) :
    ∃ (ran : Bool) (v : SV) (u : Up) (see : List Nat), GuardOk all o σ.slots ran ∧ (ran = true → core E call o ((opnds o.op).map (ev σ.slots)) (restrict σ.res see) (base + 64 * i) ans = some (v, u) ∧ smallU (base + 64 * i) see u = true) ∧ (ran = false → v = .tup [] ∧ u = []) ∧
      runOps E call all draw base l ({ i, see := see, turn := u.map (·.1) } :: g) (putS σ o.dst v u) K = some z := by
  have hrun : ∀ (b : Bool), GuardOk all o σ.slots b → (match b with
      | true => core E call o ((opnds o.op).map (ev σ.slots)) (restrict σ.res (seeOf o σ.res ((opnds o.op).map (ev σ.slots)))) (base + 64 * i) fun v u => match smallU (base + 64 * i) (seeOf o σ.res ((opnds o.op).map (ev σ.slots))) u with
        | true => runOps E call all draw base l ({ i, see := (seeOf o σ.res ((opnds o.op).map (ev σ.slots))), turn := u.map (·.1) } :: g) (putS σ o.dst v u) K
        | false => none
      | false => runOps E call all draw base l ({ i, see := [], turn := [] } :: g) (putS σ o.dst (.tup []) []) K) = some z →
      ∃ (ran : Bool) (v : SV) (u : Up) (see : List Nat), GuardOk all o σ.slots ran ∧ (ran = true → core E call o ((opnds o.op).map (ev σ.slots)) (restrict σ.res see) (base + 64 * i) ans = some (v, u) ∧ smallU (base + 64 * i) see u = true) ∧ (ran = false → v = .tup [] ∧ u = []) ∧
        runOps E call all draw base l ({ i, see := see, turn := u.map (·.1) } :: g) (putS σ o.dst v u) K = some z := by
    intro b hb h
    cases b with
    | true =>
      obtain ⟨v, u, h1, h2⟩ := core_says h
      split at h2
      · rename_i hsm
        exact ⟨true, v, u, _, hb, fun _ => ⟨h1, hsm⟩, (fun h => by cases h), h2⟩
      · cases h2
    | false => exact ⟨false, .tup [], [], [], hb, (fun h => by cases h), fun _ => ⟨rfl, rfl⟩, h⟩
  unfold runOps at h
  dsimp only at h
  split at h
  · rename_i hg
    exact hrun true (by unfold GuardOk; rw [hg]) h
  · rename_i j want hg
    split at h
    · rename_i d hd
      split at h
      · rename_i x hx
        have hsl : ∀ b, x = b → setSlot σ.slots d (.val .bool b) = σ.slots := fun b hb => setSlot_same _ _ _ (by rw [hx, hb])
        split at h
        · rename_i hxt
          rw [hsl true hxt] at h
          exact hrun _ (by unfold GuardOk; rw [hg]; exact ⟨d, hd, .inl ⟨x, hx, by rw [hxt]⟩⟩) h
        · rename_i hxf
          have hxf : x = false := by
            cases hh : (x : Bool) with
            | true => exact absurd hh hxf
            | false => rfl
          rw [hsl false hxf] at h
          exact hrun _ (by unfold GuardOk; rw [hg]; exact ⟨d, hd, .inl ⟨x, hx, by rw [hxf]⟩⟩) h
      · rename_i hx
        exact hrun false (by unfold GuardOk; rw [hg]; exact ⟨d, hd, .inr ⟨hx, rfl⟩⟩) h
      · cases h
    · cases h
theorem putS_slots {σ : St} {d : Option Nat} : (putS σ d v u).slots = putD σ.slots d v := rfl
/-- In the text's order. -/
theorem run_text {all : Array Oper} {base : Nat} {Q : Exit → Act → World → Prop} (hS : Sound P E call) (hE : EnvOk P E) {γ0 : Nat → Option G} :
    ∀ {l : List (Nat × Oper)} {g : List Log} {σ : St} {γ : Nat → Option G} {Pr : Nat → Nat → Prop} {a : Act} {w : World}, runOps E call all false base l g σ K = some z → (∀ p ∈ l, all[p.1]? = some p.2) → (l.map (·.1)).Nodup →
      Inv w0 X Pr0 σ.slots (getR σ.res) γ Pr a w → (∀ p ∈ l, ∀ r, base + 64 * p.1 ≤ r → r < base + 64 * p.1 + 64 → γ r = none) → (∀ r, r < base → γ r = γ0 r) → (∀ p ∈ l, p.1 < all.size) → (∀ r, base + 64 * all.size ≤ r → γ r = none) →
      (∀ σ' γ' Pr' a' w', K σ' = some z → Inv w0 X Pr0 σ'.slots (getR σ'.res) γ' Pr' a' w' → (∀ r, r < base → γ' r = γ0 r) → (∀ r, base + 64 * all.size ≤ r → γ' r = none) → σ'.n0 = σ.n0 → σ'.nx = σ.nx → Q .normal a' w') →
      wpOps P all Q (l.map (·.1)) a w := by
  intro l
  induction l with
  | nil =>
    intro g σ γ Pr a w h _ _ hI _ hγ0 _ hlim hQ
    exact hQ σ γ Pr a w h hI hγ0 hlim rfl rfl
  | cons p l ih =>
    intro g σ γ Pr a w h hall hnd hI hfree hγ0 hlt hlim hQ
    obtain ⟨i, o⟩ := p
    obtain ⟨ran, v, u, see, hg, hran, hskip, hrest⟩ := runOps_cons h
    rw [List.map_cons, wpOps_cons]
    rw [List.map_cons, List.nodup_cons] at hnd
    refine exec_one hS hE hI (hall (i, o) (by simp)) hg (fun hr => (hran hr).1) (fun r x hx => (restrict_get hx).2) hskip (hfree (i, o) (by simp)) ?_
    intro a' w' γ' Pr' hI' hγ'
    refine ih (γ := γ') (Pr := Pr') hrest (fun p hp => hall p (List.mem_cons_of_mem _ hp)) hnd.2 (by rw [putS_slots]; simp only [putS]; rw [getR_applyU]; exact hI') ?_ ?_ (fun p hp => hlt p (List.mem_cons_of_mem _ hp)) ?_ (fun σ' γ' Pr' a' w' h1 h2 h3 h4 h5 h6 => hQ σ' γ' Pr' a' w' h1 h2 h3 h4 h5 h6)
    · intro p hp r h1 h2
      have hne : p.1 ≠ i := fun e => hnd.1 (by have := List.mem_map_of_mem (f := (·.1)) hp; rwa [e] at this)
      rw [hγ' r (by
        rintro ⟨h3, h4⟩
        rcases Nat.lt_or_gt_of_ne hne with h | h <;> omega)]
      exact hfree p (List.mem_cons_of_mem _ hp) r h1 h2
    · intro r hr
      rw [hγ' r (by rintro ⟨h3, _⟩; omega)]
      exact hγ0 r hr
    · intro r hr
      have := hlt (i, o) (by simp)
      rw [hγ' r (by
        rintro ⟨_, h4⟩
        simp only at this
        omega)]
      exact hlim r hr
end
end Go.Proofs.Ytcfnhfbaakflgaa.Abs
