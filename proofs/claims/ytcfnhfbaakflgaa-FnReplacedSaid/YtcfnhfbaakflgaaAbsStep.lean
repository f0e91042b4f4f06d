/- The reader's rounds and the model's. -/
import Derived.Test.YtcfnhfbaakflgaaAbsDraw
import Derived.LoopN
set_option linter.unusedVariables false
set_option linter.unusedSimpArgs false
set_option linter.unusedSectionVars false
namespace Go.Proofs.Ytcfnhfbaakflgaa.Abs
open Go Go.RowKit

theorem rounds_mono {P : Program} {c : Code} {Q Q' : Exit → Act → World → Prop} (hq : ∀ e a w, Q e a w → Q' e a w) : ∀ {n m : Nat}, n ≤ m → ∀ {a : Act} {w : World}, Code.rounds P c Q n a w → Code.rounds P c Q' m a w
  | 0, _, _, _, _, h => h.elim
  | n + 1, 0, hle, _, _, _ => absurd hle (by omega)
  | n + 1, m + 1, hle, a, w, h => by
    refine Code.wp_mono (fun e a w h => ?_) (show c.wp P (Exit.then (Code.rounds P c Q n) Q) a w from h)
    cases e <;> first | exact rounds_mono hq (Nat.le_of_succ_le_succ hle) h | exact hq _ _ _ h
/-- What is owed behind a piece of code, by what stands round it. -/
def stackPost (P : Program) (n : Nat) : List Fr → (Exit → Act → World → Prop) → Exit → Act → World → Prop
  | [], Q => Q
  | .seq b :: S, Q => Exit.then (b.wp P (stackPost P n S Q)) (stackPost P n S Q)
  | .block id :: S, Q => Exit.inBlock id (stackPost P n S Q)
  | .loop b :: S, Q => Exit.then (Code.rounds P b (stackPost P n S Q) n) (stackPost P n S Q)
section
variable {P : Program} {E : Env} {Q : Exit → Act → World → Prop}
theorem stackPost_mono {n m : Nat} (h : n ≤ m) : ∀ (S : List Fr) {e : Exit} {a : Act} {w : World}, stackPost P n S Q e a w → stackPost P m S Q e a w
  | [], _, _, _, hh => hh
  | .seq b :: S, e, a, w, hh => by
    cases e <;> first | exact Code.wp_mono (fun _ _ _ h' => stackPost_mono h S h') hh | exact stackPost_mono h S hh
  | .block id :: S, e, a, w, hh => by
    cases e with
    | exit j =>
      show if j = id then stackPost P m S Q .normal a w else stackPost P m S Q (.exit j) a w
      have hh' : if j = id then stackPost P n S Q .normal a w else stackPost P n S Q (.exit j) a w := hh
      split at hh'
      · rename_i hj
        rw [if_pos hj]
        exact stackPost_mono h S hh'
      · rename_i hj
        rw [if_neg hj]
        exact stackPost_mono h S hh'
    | _ => exact stackPost_mono h S hh
  | .loop b :: S, e, a, w, hh => by
    cases e <;> first | exact rounds_mono (fun _ _ _ h' => stackPost_mono h S h') h hh | exact stackPost_mono h S hh
theorem stackPost_ret {n : Nat} : ∀ (S : List Fr) {a : Act} {w : World}, Q .ret a w → stackPost P n S Q .ret a w
  | [], _, _, h => h
  | .seq b :: S, _, _, h => stackPost_ret S h
  | .block id :: S, _, _, h => stackPost_ret S h
  | .loop b :: S, _, _, h => stackPost_ret S h
theorem stackPost_exit {n : Nat} {I : FnI} {id : Nat} : ∀ (S : List Fr) {S' : List Fr} {a : Act} {w : World}, leave I id S = some S' → stackPost P n S' Q .normal a w → stackPost P n S Q (.exit id) a w
  | [], _, _, _, h, _ => by simp [leave] at h
  | .seq b :: S, _, _, _, h, k => stackPost_exit (I := I) S h k
  | .loop b :: S, _, _, _, h, k => stackPost_exit (I := I) S h k
  | .block j :: S, S', a, w, h, k => by
    show if id = j then stackPost P n S Q .normal a w else stackPost P n S Q (.exit id) a w
    unfold leave at h
    by_cases hj : j = id
    · subst hj
      have : Nat.beq j j = true := by simp
      rw [this] at h
      cases h
      rw [if_pos rfl]
      exact k
    · have : Nat.beq j id = false := by
        cases hb : Nat.beq j id with
        | false => rfl
        | true => exact absurd (Nat.eq_of_beq_eq_true hb) hj
      rw [this] at h
      rw [if_neg (fun e => hj e.symm)]
      exact stackPost_exit (I := I) S h k
end
/-- The reader's state and the model's. -/
structure At (w0 : World) (X : Nat → Prop) (Pr0 : Nat → Nat → Prop) (γ0 : Nat → Option G) (σ : St) (γ : Nat → Option G) (Pr : Nat → Nat → Prop) (a : Act) (w : World) : Prop where
  inv : Inv w0 X Pr0 σ.slots (getR σ.res) γ Pr a w
  low : ∀ r, r < σ.n0 → γ r = γ0 r
  high : ∀ r, σ.nx ≤ r → γ r = none
  le : σ.n0 ≤ σ.nx
section
theorem addId_pre (r : Nat) (l : List Nat) : l <+: addId r l := by
  unfold addId
  split
  · exact List.prefix_rfl
  · exact List.prefix_append _ _
theorem foldl_pre {f : List Nat → SV → List Nat} (hf : ∀ l v, l <+: f l v) : ∀ (vs : List SV) (l : List Nat), l <+: vs.foldl f l
  | [], l => List.prefix_rfl
  | v :: vs, l => (hf l v).trans (foldl_pre hf vs (f l v))
theorem idsIn_pre : ∀ (d : Nat) (v : SV) (l : List Nat), l <+: idsIn d v l
  | 0, _, _ => List.prefix_rfl
  | d + 1, v, l => by
    cases v <;> simp only [idsIn] <;> first | exact List.prefix_rfl | exact addId_pre _ _ | exact foldl_pre (fun l v => idsIn_pre d v l) _ _
theorem idsRes_pre (res : Tab) : ∀ (d j : Nat) (l : List Nat), l <+: idsRes res d j l
  | 0, _, _ => List.prefix_rfl
  | d + 1, j, l => by
    unfold idsRes
    split
    · exact List.prefix_rfl
    · split
      · exact (idsIn_pre 9 _ l).trans (idsRes_pre res d (j + 1) _)
      · exact idsRes_pre res d (j + 1) l
theorem reachOn_pre (res : Tab) (vs : List SV) (l : List Nat) : l <+: reachOn res vs l := (foldl_pre (fun l v => idsIn_pre 9 v l) vs l).trans (idsRes_pre res 40 0 _)
theorem upTo_len : ∀ n, (upTo n).length = n
  | 0 => rfl
  | n + 1 => by simp [upTo, upTo_len n]
theorem upTo_get : ∀ {n j : Nat}, j < n → (upTo n)[j]? = some j
  | n + 1, j, h => by
    unfold upTo
    by_cases hj : j < n
    · rw [List.getElem?_append_left (by rw [upTo_len]; exact hj)]
      exact upTo_get hj
    · have : j = n := by omega
      subst this
      rw [List.getElem?_append_right (by rw [upTo_len]; omega), upTo_len]
      simp
variable {w0 : World} {X : Nat → Prop} {Pr0 : Nat → Nat → Prop} {γ0 γ : Nat → Option G} {σ : St} {Pr : Nat → Nat → Prop} {a : Act} {w : World}
theorem At.norm (h : At w0 X Pr0 γ0 σ γ Pr a w) (live : List Nat) : ∃ γ', At w0 X Pr0 γ0 (norm live σ) γ' Pr a w := by
  have hpre := reachOn_pre σ.res (keep live 0 σ.slots) (upTo σ.n0)
  have hlen : σ.n0 ≤ (reachOn σ.res (keep live 0 σ.slots) (upTo σ.n0)).length := by
    have := hpre.length_le
    rwa [upTo_len] at this
  obtain ⟨γ', h1, h2, h3⟩ := h.inv.norm live
  refine ⟨γ', h1, ?_, h2, hlen⟩
  intro r hr
  have hr' : r < σ.n0 := hr
  rw [← h.low r hr']
  apply h3
  obtain ⟨t, ht⟩ := hpre
  rw [← ht, List.getElem?_append_left (by rw [upTo_len]; exact hr')]
  exact upTo_get hr'
end
theorem range_zip (ops : Array Oper) : (∀ p ∈ (List.range ops.size).zip ops.toList, ops[p.1]? = some p.2) ∧ ((List.range ops.size).zip ops.toList).map (·.1) = List.range ops.size := by
  constructor
  · intro p hp
    obtain ⟨k, hk, rfl⟩ := List.getElem_of_mem hp
    rw [List.getElem_zip]
    simp only [List.getElem_range]
    rw [← Array.getElem?_toList]
    exact List.getElem?_eq_getElem _
  · exact List.map_fst_zip (by simp)
section
variable {P : Program} {E : Env}
/-- What the reader says with k rounds. -/
def RunOk (P : Program) (E : Env) (k : Nat) : Prop := ∀ (I : FnI) {R : Type} (K : St → Option R) (c : Code) (S : List Fr) (σ : St) (z : R), run E k I K c S σ = some z → ∀ (w0 : World) (X : Nat → Prop) (Pr0 : Nat → Nat → Prop) (γ0 γ : Nat → Option G) (Pr : Nat → Nat → Prop) (a : Act) (w : World) (Q : Exit → Act → World → Prop),
  At w0 X Pr0 γ0 σ γ Pr a w → (∀ σ' γ' Pr' a' w', K σ' = some z → At w0 X Pr0 γ0 σ' γ' Pr' a' w' → σ'.n0 = σ.n0 → Q .normal a' w' ∧ Q .ret a' w') → ∀ n, k ≤ n → c.wp P (stackPost P n S Q) a w
def PopOk (P : Program) (E : Env) (k : Nat) : Prop := ∀ (I : FnI) {R : Type} (K : St → Option R) (S : List Fr) (σ : St) (z : R), pop (run E k) I K S σ = some z → ∀ (w0 : World) (X : Nat → Prop) (Pr0 : Nat → Nat → Prop) (γ0 γ : Nat → Option G) (Pr : Nat → Nat → Prop) (a : Act) (w : World) (Q : Exit → Act → World → Prop),
  At w0 X Pr0 γ0 σ γ Pr a w → (∀ σ' γ' Pr' a' w', K σ' = some z → At w0 X Pr0 γ0 σ' γ' Pr' a' w' → σ'.n0 = σ.n0 → Q .normal a' w' ∧ Q .ret a' w') → ∀ n, k ≤ n → stackPost P n S Q .normal a w
theorem run_zero {I : FnI} {R : Type} {K : St → Option R} {c : Code} {S : List Fr} {σ : St} : run E 0 I K c S σ = none := rfl
theorem run_succ {k : Nat} {I : FnI} {R : Type} {K : St → Option R} {c : Code} {S : List Fr} {σ : St} : run E (k + 1) I K c S σ = step E (run E k) I K c S σ := rfl
theorem pop_ok (k : Nat) (hR : ∀ j, j ≤ k → RunOk P E j) : ∀ j, j ≤ k → PopOk P E j := by
  intro j
  induction j with
  | zero =>
    intro _ I R K S σ z h w0 X Pr0 γ0 γ Pr a w Q hA hQ n hn
    cases S with
    | nil => exact (hQ σ γ Pr a w h hA rfl).1
    | cons f S => cases f <;> (simp only [pop, run_zero] at h; cases h)
  | succ j ih =>
    intro hj I R K S σ z h w0 X Pr0 γ0 γ Pr a w Q hA hQ n hn
    cases S with
    | nil => exact (hQ σ γ Pr a w h hA rfl).1
    | cons f S =>
      cases f with
      | seq b => exact hR (j + 1) hj I K b S σ z h w0 X Pr0 γ0 γ Pr a w Q hA hQ n hn
      | block id =>
        simp only [pop, run_succ, step] at h
        exact ih (by omega) I K S σ z h w0 X Pr0 γ0 γ Pr a w Q hA hQ n (by omega)
      | loop b =>
        simp only [pop, run_succ, step] at h
        obtain ⟨m, rfl⟩ : ∃ m, n = m + 1 := ⟨n - 1, by omega⟩
        have := hR j (by omega) I K b (.loop b :: S) σ z h w0 X Pr0 γ0 γ Pr a w Q hA hQ m (by omega)
        show b.wp P (Exit.then (Code.rounds P b (stackPost P (m + 1) S Q) m) (stackPost P (m + 1) S Q)) a w
        refine Code.wp_mono (fun e a w h => ?_) this
        cases e <;> first | exact rounds_mono (fun _ _ _ h' => stackPost_mono (by omega) S h') (Nat.le_refl _) h | exact stackPost_mono (by omega) S h
theorem run_ok (hm : P.follows .mixedOrders = true) (hE : EnvOk P E) (k : Nat) (hC : ∀ j, j < k → Sound P E (callOf E (run E j))) : ∀ j, j ≤ k → RunOk P E j := by
  intro j
  induction j using Nat.strongRecOn with
  | _ j ih =>
    intro hj I R K c S σ z h w0 X Pr0 γ0 γ Pr a w Q hA hQ n hn
    cases j with
    | zero => rw [run_zero] at h; cases h
    | succ j =>
      have hpop : PopOk P E j := pop_ok j (fun i hi => ih i (by omega) (by omega)) j (Nat.le_refl _)
      have hrun : RunOk P E j := ih j (by omega) (by omega)
      rw [run_succ] at h
      unfold step at h
      split at h
      · exact wp_skip (hpop I K S σ z h w0 X Pr0 γ0 γ Pr a w Q hA hQ n (by omega))
      · rename_i id ops draw
        dsimp only at h
        have hE' : EnvOk P { E with sub := I.sub } := ⟨hE.ty, hE.by_, hE.fns, hE.eqs⟩
        have hC' : ∀ j, j < k → Sound P { E with sub := I.sub } (callOf E (run E j)) := hC
        obtain ⟨σ1, γ1, hA1, hn0, h1⟩ : ∃ σ1 γ1, At w0 X Pr0 γ0 σ1 γ1 Pr a w ∧ σ1.n0 = σ.n0 ∧ runOps { E with sub := I.sub } (callOf E (run E j)) ops draw σ1.nx ((List.range ops.size).zip ops.toList) [] σ1 (fun σ' => pop (run E j) I K S { σ' with nx := σ1.nx + 64 * ops.size }) = some z := by
          split at h
          · rename_i l hl
            obtain ⟨γ', hA'⟩ := hA.norm l
            exact ⟨norm l σ, γ', hA', rfl, h⟩
          · exact ⟨σ, γ, hA, rfl, h⟩
        have hfin : ∀ (σ' : St) (γ' : Nat → Option G) (Pr' : Nat → Nat → Prop) (a' : Act) (w' : World), pop (run E j) I K S { σ' with nx := σ1.nx + 64 * ops.size } = some z → Inv w0 X Pr0 σ'.slots (getR σ'.res) γ' Pr' a' w' → (∀ r, r < σ1.nx → γ' r = γ1 r) → (∀ r, σ1.nx + 64 * ops.size ≤ r → γ' r = none) → σ'.n0 = σ1.n0 → σ'.nx = σ1.nx → stackPost P n S Q .normal a' w' := by
          intro σ' γ' Pr' a' w' h2 h3 h4 h5 h6 h7
          refine hpop I K S _ z h2 w0 X Pr0 γ0 γ' Pr' a' w' Q ⟨h3, ?_, h5, ?_⟩ (fun σ2 γ2 Pr2 a2 w2 h8 h9 h10 => hQ σ2 γ2 Pr2 a2 w2 h8 h9 ?_) n (by omega)
          · intro r hr
            have hr' : r < σ1.n0 := by rw [← h6]; exact hr
            rw [h4 r (Nat.lt_of_lt_of_le hr' hA1.le)]
            exact hA1.low r hr'
          · have := hA1.le
            show σ'.n0 ≤ σ1.nx + 64 * ops.size
            omega
          · exact h10.trans (h6.trans hn0)
        cases draw with
        | false =>
          refine wp_region ?_
          have hz := range_zip ops
          rw [← hz.2]
          refine run_text (γ0 := γ1) (hC' j (by omega)) hE' h1 hz.1 (by rw [hz.2]; exact List.nodup_range) hA1.inv (fun p hp r h2 h3 => hA1.high r (by omega)) (fun r hr => rfl) (fun p hp => (Array.getElem?_eq_some_iff.1 (hz.1 p hp)).1) (fun r hr => hA1.high r (by omega)) ?_
          intro σ' γ' Pr' a' w' h2 h3 h4 h5 h6 h7
          exact hfin σ' γ' Pr' a' w' h2 h3 h4 h5 h6 h7
        | true => exact run_draw hm (hC' j (by omega)) hE' (γ0 := γ1) h1 hA1.inv (fun r hr => rfl) hA1.high hfin
      · rename_i x y
        refine wp_seq ?_
        exact hrun I K x (.seq y :: S) σ z h w0 X Pr0 γ0 γ Pr a w Q hA hQ n (by omega)
      · rename_i cnd x y
        split at h
        · rename_i b hb
          have hev := ev_ok hA.inv.slots cnd
          rw [hb] at hev
          have hbv := val_bool hev
          split at h
          · rename_i hbt
            rw [show b = true from hbt] at hbv
            exact wp_cond_true hbv (hrun I K x S σ z h w0 X Pr0 γ0 γ Pr a w Q hA hQ n (by omega))
          · rename_i hbf
            have hbf' : b = false := by
              cases hh : (b : Bool) with
              | true => exact absurd hh hbf
              | false => rfl
            rw [hbf'] at hbv
            exact wp_cond_false hbv (hrun I K y S σ z h w0 X Pr0 γ0 γ Pr a w Q hA hQ n (by omega))
        · cases h
      · rename_i id x
        refine wp_block ?_
        exact hrun I K x (.block id :: S) σ z h w0 X Pr0 γ0 γ Pr a w Q hA hQ n (by omega)
      · rename_i x
        refine wp_loop_rounds (n + 1) ?_
        exact hrun I K x (.loop x :: S) σ z h w0 X Pr0 γ0 γ Pr a w Q hA hQ n (by omega)
      · rename_i id
        split at h
        · rename_i S' hS'
          cases j with
          | zero => rw [run_zero] at h; cases h
          | succ j =>
            have hpop' : PopOk P E j := pop_ok j (fun i hi => ih i (by omega) (by omega)) j (Nat.le_refl _)
            rw [run_succ] at h
            simp only [step] at h
            exact wp_exit (stackPost_exit (I := I) S hS' (hpop' I K S' σ z h w0 X Pr0 γ0 γ Pr a w Q hA hQ n (by omega)))
        · cases h
      · exact wp_ret (stackPost_ret S (hQ σ γ Pr a w h hA rfl).2)
      · cases h
end
end Go.Proofs.Ytcfnhfbaakflgaa.Abs
