/- Regions whose operations may stand in other orders. -/
import Derived.Test.YtcfnhfbaakflgaaAbsRun
set_option linter.unusedVariables false
set_option linter.unusedSimpArgs false
set_option linter.unusedSectionVars false
namespace Go.Proofs.Ytcfnhfbaakflgaa.Abs
open Go Go.RowKit

/-! ### 1. Who stands ahead -/
theorem or_bits {s : Nat} {e : Nat} {b : Nat} {a : Nat} : (s ||| 2 ^ e ||| b).testBit a = (s.testBit a || decide (e = a) || b.testBit a) := by
  simp [Nat.testBit_or, Nat.testBit_two_pow]
theorem fold_bits (g : Nat → Nat) (a : Nat) : ∀ (l : List Edge) (s : Nat), (l.foldl (fun s e => if Region.binds .any e then s ||| 2 ^ e.on ||| g e.on else s) s).testBit a = true → s.testBit a = true ∨ ∃ e ∈ l, Region.binds .any e = true ∧ (e.on = a ∨ (g e.on).testBit a = true)
  | [], s, h => .inl h
  | e :: l, s, h => by
    rw [List.foldl_cons] at h
    rcases fold_bits g a l _ h with h | ⟨e', h1, h2⟩
    · split at h
      · rename_i hb
        rw [or_bits] at h
        simp only [Bool.or_eq_true, decide_eq_true_eq] at h
        rcases h with (h | h) | h
        · exact .inl h
        · exact .inr ⟨e, by simp, hb, .inl h⟩
        · exact .inr ⟨e, by simp, hb, .inr h⟩
      · exact .inl h
    · exact .inr ⟨e', List.mem_cons_of_mem _ h1, h2⟩
def rowOf (acc : Array Nat) (o : Oper) : Nat := o.after.foldl (fun s e => if Region.binds .any e then s ||| 2 ^ e.on ||| acc.getD e.on 0 else s) 0
theorem before_fold : ∀ (l : List Oper) (acc : Array Nat), let r := l.foldl (fun acc o => acc.push (rowOf acc o)) acc
    r.size = acc.size + l.length ∧ (∀ k, k < acc.size → r[k]? = acc[k]?) ∧ ∀ k o, l[k]? = some o → ∃ acc', (∀ j, j < acc.size + k → acc'[j]? = r[j]?) ∧ acc'.size = acc.size + k ∧ r[acc.size + k]? = some (rowOf acc' o)
  | [], acc => ⟨by simp, fun k _ => rfl, fun k o h => by simp at h⟩
  | o :: l, acc => by
    obtain ⟨h1, h2, h3⟩ := before_fold l (acc.push (rowOf acc o))
    refine ⟨by simp only [List.foldl_cons, h1, Array.size_push, List.length_cons]; omega, fun k hk => ?_, fun k o' hk => ?_⟩
    · rw [List.foldl_cons, h2 k (by rw [Array.size_push]; omega), Array.getElem?_push_lt hk, Array.getElem?_eq_getElem hk]
    · rw [List.foldl_cons]
      cases k with
      | zero =>
        simp at hk
        subst hk
        refine ⟨acc, fun j hj => ?_, rfl, ?_⟩
        · rw [h2 j (by rw [Array.size_push]; omega), Array.getElem?_push_lt (by omega), Array.getElem?_eq_getElem (by omega)]
        · rw [h2 (acc.size + 0) (by rw [Array.size_push]; omega)]
          simp
      | succ k =>
        obtain ⟨acc', h4, h5, h6⟩ := h3 k o' (by simpa using hk)
        rw [Array.size_push] at h4 h5 h6
        refine ⟨acc', fun j hj => h4 j (by omega), by omega, ?_⟩
        rw [show acc.size + (k + 1) = acc.size + 1 + k by omega]
        exact h6
theorem before_ok {all : Array Oper} {a b : Nat} (h : ((Region.before all).getD b 0).testBit a = true) : ∃ o, all[b]? = some o ∧ ∃ e ∈ o.after, Region.binds .any e = true ∧ (e.on = a ∨ (e.on < b ∧ ((Region.before all).getD e.on 0).testBit a = true)) := by
  have hb : Region.before all = all.toList.foldl (fun acc o => acc.push (rowOf acc o)) #[] := by
    unfold Region.before
    rw [← Array.foldl_toList]
    rfl
  obtain ⟨h1, _, h3⟩ := before_fold all.toList #[]
  rw [← hb] at h1 h3
  have hlt : b < all.size := by
    rcases Nat.lt_or_ge b all.size with h' | h'
    · exact h'
    · have : (Region.before all)[b]? = none := Array.getElem?_eq_none (by rw [h1]; simpa using h')
      rw [Array.getD_eq_getD_getElem?, this] at h
      simp at h
  obtain ⟨acc', h4, h5, h6⟩ := h3 b all[b] (by rw [Array.getElem?_toList]; exact Array.getElem?_eq_getElem hlt)
  simp only [Array.size_empty, Nat.zero_add] at h4 h5 h6
  refine ⟨all[b], Array.getElem?_eq_getElem hlt, ?_⟩
  rw [Array.getD_eq_getD_getElem?, h6, Option.getD_some] at h
  unfold rowOf at h
  rw [← Array.foldl_toList] at h
  rcases fold_bits (fun n => acc'.getD n 0) a _ 0 h with h | ⟨e, h7, h8, h9⟩
  · simp at h
  · refine ⟨e, by simpa using h7, h8, ?_⟩
    rcases h9 with h9 | h9
    · exact .inl h9
    · right
      by_cases he : e.on < b
      · refine ⟨he, ?_⟩
        rw [Array.getD_eq_getD_getElem?, ← h4 e.on he, ← Array.getD_eq_getD_getElem?]
        exact h9
      · rw [Array.getD_eq_getD_getElem?, Array.getElem?_eq_none (by omega)] at h9
        simp at h9
theorem before_in {all : Array Oper} {S : Nat → Prop} (hS : ∀ b o, S b → all[b]? = some o → ∀ e ∈ o.after, Region.binds .any e = true → S e.on) : ∀ (b a : Nat), (∀ o, all[b]? = some o → ∀ e ∈ o.after, Region.binds .any e = true → S e.on) → ((Region.before all).getD b 0).testBit a = true → S a := by
  intro b
  induction b using Nat.strongRecOn with
  | _ b ih =>
    intro a hb h
    obtain ⟨o, ho, e, he, hbd, h | ⟨hlt, h⟩⟩ := before_ok h
    · rw [← h]
      exact hb o ho e he hbd
    · have hse := hb o ho e he hbd
      exact ih e.on hlt a (fun o' ho' e' he' hb' => hS e.on o' hse ho' e' he' hb') h
/-! ### 2. Some of the operations -/
structure Tr where
  i : Nat
  o : Oper
  v : SV
  u : Up
  see : List Nat
  ran : Bool
def logOf (τ : Tr) : Log := { i := τ.i, see := τ.see, turn := τ.u.map (·.1) }
def slS (S : Nat → Bool) : List Tr → List SV → List SV
  | [], sl => sl
  | τ :: T, sl => slS S T (if S τ.i = true then putD sl τ.o.dst τ.v else sl)
def gtS (S : Nat → Bool) : List Tr → (Nat → Option Res) → Nat → Option Res
  | [], g => g
  | τ :: T, g => gtS S T (if S τ.i = true then updG g τ.u else g)
theorem slS_none {S : Nat → Bool} : ∀ {T : List Tr} {sl : List SV}, (∀ τ ∈ T, S τ.i = false) → slS S T sl = sl
  | [], _, _ => rfl
  | τ :: T, sl, h => by
    unfold slS
    rw [if_neg (by rw [h τ (by simp)]; simp)]
    exact slS_none fun τ hτ => h τ (List.mem_cons_of_mem _ hτ)
theorem gtS_none {S : Nat → Bool} : ∀ {T : List Tr} {g : Nat → Option Res}, (∀ τ ∈ T, S τ.i = false) → gtS S T g = g
  | [], _, _ => rfl
  | τ :: T, g, h => by
    unfold gtS
    rw [if_neg (by rw [h τ (by simp)]; simp)]
    exact gtS_none fun τ hτ => h τ (List.mem_cons_of_mem _ hτ)
theorem slS_congr {S S' : Nat → Bool} : ∀ {T : List Tr} {sl : List SV}, (∀ τ ∈ T, S τ.i = S' τ.i) → slS S T sl = slS S' T sl
  | [], _, _ => rfl
  | τ :: T, sl, h => by
    unfold slS
    rw [h τ (by simp)]
    exact slS_congr fun τ hτ => h τ (List.mem_cons_of_mem _ hτ)
theorem gtS_congr {S S' : Nat → Bool} : ∀ {T : List Tr} {g : Nat → Option Res}, (∀ τ ∈ T, S τ.i = S' τ.i) → gtS S T g = gtS S' T g
  | [], _, _ => rfl
  | τ :: T, g, h => by
    unfold gtS
    rw [h τ (by simp)]
    exact gtS_congr fun τ hτ => h τ (List.mem_cons_of_mem _ hτ)
theorem setSlot_len : ∀ (l : List SV) (d : Nat) (v : SV), (setSlot l d v).length = l.length
  | [], _, _ => rfl
  | x :: l, 0, v => rfl
  | x :: l, d + 1, v => by simp [setSlot, setSlot_len l d v]
theorem slot_set : ∀ (l : List SV) (d t : Nat) (v : SV), d ≠ t → slot (setSlot l d v) t = slot l t
  | [], _, _, _, _ => rfl
  | x :: l, 0, 0, v, h => absurd rfl h
  | x :: l, 0, t + 1, v, h => rfl
  | x :: l, d + 1, 0, v, h => rfl
  | x :: l, d + 1, t + 1, v, h => slot_set l d t v (fun e => h (by rw [e]))
theorem slot_set2 : ∀ (l l' : List SV) (d : Nat) (v : SV), l.length = l'.length → slot (setSlot l d v) d = slot (setSlot l' d v) d
  | [], [], _, _, _ => rfl
  | [], _ :: _, _, _, h => by simp at h
  | _ :: _, [], _, _, h => by simp at h
  | x :: l, y :: l', 0, v, h => rfl
  | x :: l, y :: l', d + 1, v, h => slot_set2 l l' d v (by simpa using h)
theorem set_comm : ∀ (l : List SV) (d e : Nat) (v u : SV), d ≠ e → setSlot (setSlot l d v) e u = setSlot (setSlot l e u) d v
  | [], _, _, _, _, _ => rfl
  | x :: l, 0, 0, v, u, h => absurd rfl h
  | x :: l, 0, e + 1, v, u, h => rfl
  | x :: l, d + 1, 0, v, u, h => rfl
  | x :: l, d + 1, e + 1, v, u, h => congrArg (x :: ·) (set_comm l d e v u (fun hh => h (by rw [hh])))
theorem slot_agree {S S' : Nat → Bool} {t : Nat} : ∀ {T : List Tr} {sl sl' : List SV}, (∀ τ ∈ T, τ.o.dst = some t → S τ.i = S' τ.i) → sl.length = sl'.length → slot sl t = slot sl' t → slot (slS S T sl) t = slot (slS S' T sl') t
  | [], _, _, _, _, h => h
  | τ :: T, sl, sl', hT, hl, hs => by
    unfold slS
    refine slot_agree (fun τ hτ => hT τ (List.mem_cons_of_mem _ hτ)) ?_ ?_
    · have : ∀ (S : Nat → Bool) (sl : List SV), (if S τ.i = true then putD sl τ.o.dst τ.v else sl).length = sl.length := by
        intro S sl
        split
        · unfold putD
          split
          · exact setSlot_len _ _ _
          · rfl
        · rfl
      rw [this, this, hl]
    · by_cases hd : τ.o.dst = some t
      · rw [hT τ (by simp) hd]
        split
        · rw [hd]
          exact slot_set2 _ _ _ _ hl
        · exact hs
      · have : ∀ (S : Nat → Bool) (sl : List SV), slot (if S τ.i = true then putD sl τ.o.dst τ.v else sl) t = slot sl t := by
          intro S sl
          split
          · unfold putD
            split
            · rename_i d hdd
              exact slot_set _ _ _ _ (fun e => hd (by rw [hdd, e]))
            · rfl
          · rfl
        rw [this, this, hs]
theorem updG_at {u : Up} {r : Nat} : ∀ {g g' : Nat → Option Res}, (g r = g' r → updG g u r = updG g' u r) ∧ (r ∉ u.map (·.1) → updG g u r = g r) := by
  induction u with
  | nil => exact fun {g g'} => ⟨fun h => h, fun _ => rfl⟩
  | cons p u ih =>
    intro g g'
    obtain ⟨k, x⟩ := p
    constructor
    · intro h
      refine (ih (g := fun s => if s = k then x else g s) (g' := fun s => if s = k then x else g' s)).1 ?_
      by_cases hk : r = k
      · rw [if_pos hk, if_pos hk]
      · rw [if_neg hk, if_neg hk, h]
    · intro h
      rw [List.map_cons, List.mem_cons] at h
      show updG (fun s => if s = k then x else g s) u r = g r
      rw [(ih (g := fun s => if s = k then x else g s) (g' := g)).2 (fun hh => h (.inr hh)), if_neg (fun e => h (.inl e))]
theorem gt_agree {S S' : Nat → Bool} {r : Nat} : ∀ {T : List Tr} {g g' : Nat → Option Res}, (∀ τ ∈ T, r ∈ τ.u.map (·.1) → S τ.i = S' τ.i) → g r = g' r → gtS S T g r = gtS S' T g' r
  | [], _, _, _, h => h
  | τ :: T, g, g', hT, hs => by
    unfold gtS
    refine gt_agree (fun τ hτ => hT τ (List.mem_cons_of_mem _ hτ)) ?_
    by_cases hd : r ∈ τ.u.map (·.1)
    · rw [hT τ (by simp) hd]
      split
      · exact updG_at.1 hs
      · exact hs
    · have : ∀ (S : Nat → Bool) (g : Nat → Option Res), (if S τ.i = true then updG g τ.u else g) r = g r := by
        intro S g
        split
        · exact (updG_at (g' := g)).2 hd
        · rfl
      rw [this, this, hs]
theorem putD_comm {sl : List SV} {d e : Option Nat} {v u : SV} (h : ∀ t, d = some t → e ≠ some t) : putD (putD sl d v) e u = putD (putD sl e u) d v := by
  cases d with
  | none => cases e <;> rfl
  | some d => cases e with
    | none => rfl
    | some e => exact set_comm sl d e v u (fun hh => h d rfl (by rw [hh]))
theorem updG_comm {g : Nat → Option Res} {u u' : Up} (h : ∀ r, r ∈ u.map (·.1) → r ∉ u'.map (·.1)) : updG (updG g u) u' = updG (updG g u') u := by
  funext r
  by_cases h1 : r ∈ u.map (·.1)
  · rw [(updG_at (g' := g)).2 (h r h1)]
    exact updG_at.1 (((updG_at (g' := g)).2 (h r h1)).symm)
  · rw [(updG_at (u := u) (g' := g)).2 h1]
    exact updG_at.1 ((updG_at (u := u) (g' := g)).2 h1)
/-- Nothing that has been done behind it clashes with it. -/
theorem slS_insert {S : Nat → Bool} {τ : Tr} (hS : S τ.i = false) : ∀ {T : List Tr} {sl : List SV}, τ ∈ T → (T.map (·.i)).Nodup → (∀ τ' ∈ T, S τ'.i = true → τ.i < τ'.i → ∀ t, τ.o.dst = some t → τ'.o.dst ≠ some t) → T.Pairwise (fun x y => x.i < y.i) →
    slS (fun j => S j || j == τ.i) T sl = putD (slS S T sl) τ.o.dst τ.v
  | [], _, h, _, _, _ => by simp at h
  | τ0 :: T, sl, hm, hnd, hc, hp => by
    rw [List.map_cons, List.nodup_cons] at hnd
    rw [List.pairwise_cons] at hp
    unfold slS
    rcases List.mem_cons.1 hm with rfl | hm'
    · have e1 : ∀ τ' ∈ T, (S τ'.i || τ'.i == τ.i) = S τ'.i := fun τ' hτ' => by
        have : τ'.i ≠ τ.i := fun e => hnd.1 (by rw [← e]; exact List.mem_map_of_mem (f := (·.i)) hτ')
        simp [this]
      rw [slS_congr e1, if_pos (by simp), if_neg (by rw [hS]; simp)]
      have key : ∀ (T : List Tr) (sl : List SV), (∀ τ' ∈ T, S τ'.i = true → ∀ t, τ.o.dst = some t → τ'.o.dst ≠ some t) → slS S T (putD sl τ.o.dst τ.v) = putD (slS S T sl) τ.o.dst τ.v := by
        intro T
        induction T with
        | nil => intro sl _; rfl
        | cons τ' T ih =>
          intro sl h
          unfold slS
          split
          · rename_i hs
            rw [putD_comm (h τ' (by simp) hs)]
            exact ih _ (fun τ hτ => h τ (List.mem_cons_of_mem _ hτ))
          · exact ih _ (fun τ hτ => h τ (List.mem_cons_of_mem _ hτ))
      exact key T sl (fun τ' hτ' hs => hc τ' (List.mem_cons_of_mem _ hτ') hs (hp.1 τ' hτ'))
    · have hne : τ0.i ≠ τ.i := fun e => hnd.1 (by rw [e]; exact List.mem_map_of_mem (f := (·.i)) hm')
      have : (S τ0.i || τ0.i == τ.i) = S τ0.i := by simp [hne]
      rw [this]
      exact slS_insert hS hm' hnd.2 (fun τ' hτ' => hc τ' (List.mem_cons_of_mem _ hτ')) hp.2
theorem gtS_insert {S : Nat → Bool} {τ : Tr} (hS : S τ.i = false) : ∀ {T : List Tr} {g : Nat → Option Res}, τ ∈ T → (T.map (·.i)).Nodup → (∀ τ' ∈ T, S τ'.i = true → τ.i < τ'.i → ∀ r, r ∈ τ.u.map (·.1) → r ∉ τ'.u.map (·.1)) → T.Pairwise (fun x y => x.i < y.i) →
    gtS (fun j => S j || j == τ.i) T g = updG (gtS S T g) τ.u
  | [], _, h, _, _, _ => by simp at h
  | τ0 :: T, g, hm, hnd, hc, hp => by
    rw [List.map_cons, List.nodup_cons] at hnd
    rw [List.pairwise_cons] at hp
    unfold gtS
    rcases List.mem_cons.1 hm with rfl | hm'
    · have e1 : ∀ τ' ∈ T, (S τ'.i || τ'.i == τ.i) = S τ'.i := fun τ' hτ' => by
        have : τ'.i ≠ τ.i := fun e => hnd.1 (by rw [← e]; exact List.mem_map_of_mem (f := (·.i)) hτ')
        simp [this]
      rw [gtS_congr e1, if_pos (by simp), if_neg (by rw [hS]; simp)]
      have key : ∀ (T : List Tr) (g : Nat → Option Res), (∀ τ' ∈ T, S τ'.i = true → ∀ r, r ∈ τ.u.map (·.1) → r ∉ τ'.u.map (·.1)) → gtS S T (updG g τ.u) = updG (gtS S T g) τ.u := by
        intro T
        induction T with
        | nil => intro g _; rfl
        | cons τ' T ih =>
          intro g h
          unfold gtS
          split
          · rename_i hs
            rw [updG_comm (h τ' (by simp) hs)]
            exact ih _ (fun τ hτ => h τ (List.mem_cons_of_mem _ hτ))
          · exact ih _ (fun τ hτ => h τ (List.mem_cons_of_mem _ hτ))
      exact key T g (fun τ' hτ' hs => hc τ' (List.mem_cons_of_mem _ hτ') hs (hp.1 τ' hτ'))
    · have hne : τ0.i ≠ τ.i := fun e => hnd.1 (by rw [e]; exact List.mem_map_of_mem (f := (·.i)) hm')
      have : (S τ0.i || τ0.i == τ.i) = S τ0.i := by simp [hne]
      rw [this]
      exact gtS_insert hS hm' hnd.2 (fun τ' hτ' => hc τ' (List.mem_cons_of_mem _ hτ')) hp.2
/-! ### 3. The reader's run as a row of such -/
section
variable {P : Program} {E : Env} {call : (I : FnI) → List SV → Tab → Option (I.sh.den × I.bx.den)} {w0 : World} {X : Nat → Prop} {Pr0 : Nat → Nat → Prop}
variable {R : Type} {K : St → Option R} {z : R}
/-- What is known of one operation, with the slots and the table that it met. -/
def TrOk (E : Env) (call : (I : FnI) → List SV → Tab → Option (I.sh.den × I.bx.den)) (all : Array Oper) (base : Nat) (τ : Tr) (sl : List SV) (g : Nat → Option Res) : Prop :=
  GuardOk all τ.o sl τ.ran ∧ (τ.ran = true → ∃ res, core E call τ.o ((opnds τ.o.op).map (ev sl)) res (base + 64 * τ.i) ans = some (τ.v, τ.u) ∧ ∀ r x, getR res r = some x → r ∈ τ.see ∧ g r = some x) ∧ (τ.ran = false → τ.v = .tup [] ∧ τ.u = [])
theorem chain_of {all : Array Oper} {base : Nat} : ∀ {l : List (Nat × Oper)} {g : List Log} {σ : St}, runOps E call all true base l g σ K = some z → (l.map (·.1)).Pairwise (· < ·) →
    ∃ (T : List Tr) (σ' : St), T.map (fun τ => (τ.i, τ.o)) = l ∧ (∀ τ ∈ T, TrOk E call all base τ (slS (fun j => decide (j < τ.i)) T σ.slots) (gtS (fun j => decide (j < τ.i)) T (getR σ.res))) ∧ σ'.slots = slS (fun _ => true) T σ.slots ∧ getR σ'.res = gtS (fun _ => true) T (getR σ.res) ∧
      σ'.n0 = σ.n0 ∧ σ'.nx = σ.nx ∧ K σ' = some z ∧ ordOk all (Region.before all) ((T.map logOf).reverse ++ g) = true ∧ edgesOk all = true
  | [], g, σ, h, _ => by
    unfold runOps at h
    simp only at h
    split at h
    · rename_i h1 h2
      exact ⟨[], σ, rfl, fun τ hτ => by simp at hτ, rfl, rfl, rfl, rfl, h, h1, h2⟩
    · cases h
  | (i, o) :: l, g, σ, h, hp => by
    obtain ⟨ran, v, u, see, hg, hran, hskip, hrest⟩ := runOps_cons h
    rw [List.map_cons, List.pairwise_cons] at hp
    obtain ⟨T, σ', h1, h2, h3, h4, h5, h6, h7, h8, h9⟩ := chain_of hrest hp.2
    have hT : ∀ τ ∈ T, i < τ.i := by
      intro τ hτ
      have : (τ.i, τ.o) ∈ l := by
        rw [← h1]
        exact List.mem_map_of_mem (f := fun τ : Tr => (τ.i, τ.o)) hτ
      exact hp.1 _ (List.mem_map_of_mem (f := (·.1)) this)
    have hres : getR (putS σ o.dst v u).res = updG (getR σ.res) u := getR_applyU
    refine ⟨⟨i, o, v, u, see, ran⟩ :: T, σ', by rw [List.map_cons, h1], ?_, ?_, ?_, h5, h6, h7, ?_, h9⟩
    · intro τ hτ
      rcases List.mem_cons.1 hτ with rfl | hτ
      · have hno : ∀ τ' ∈ T, decide (τ'.i < i) = false := fun τ' hτ' => by
          have := hT τ' hτ'
          simp
          omega
        have e1 : slS (fun j => decide (j < i)) (⟨i, o, v, u, see, ran⟩ :: T) σ.slots = σ.slots := by
          unfold slS
          rw [if_neg (by simp)]
          exact slS_none hno
        have e2 : gtS (fun j => decide (j < i)) (⟨i, o, v, u, see, ran⟩ :: T) (getR σ.res) = getR σ.res := by
          unfold gtS
          rw [if_neg (by simp)]
          exact gtS_none hno
        show TrOk E call all base ⟨i, o, v, u, see, ran⟩ (slS (fun j => decide (j < i)) (⟨i, o, v, u, see, ran⟩ :: T) σ.slots) (gtS (fun j => decide (j < i)) (⟨i, o, v, u, see, ran⟩ :: T) (getR σ.res))
        rw [e1, e2]
        exact ⟨hg, fun hr => ⟨_, (hran hr).1, fun r x hx => restrict_get hx⟩, hskip⟩
      · have hlt := hT τ hτ
        have := h2 τ hτ
        rw [putS_slots, hres] at this
        unfold slS gtS
        rw [if_pos (by simp [hlt]), if_pos (by simp [hlt])]
        exact this
    · rw [h3, putS_slots]
      rfl
    · rw [h4, hres]
      rfl
    · rw [List.map_cons, List.reverse_cons, List.append_assoc]
      exact h8
theorem ord_pair {all : Array Oper} {bf : Array Nat} : ∀ {L : List Log}, ordOk all bf L = true → L.Pairwise fun b a => clash all a b = true → (bf.getD b.i 0).testBit a.i = true
  | [], _ => .nil
  | b :: L, h => by
    simp only [ordOk, Bool.and_eq_true, List.all_eq_true] at h
    refine List.pairwise_cons.2 ⟨fun a ha hc => ?_, ord_pair h.2⟩
    have := h.1 a ha
    rw [hc] at this
    simpa using this
theorem meets_ok {l m : List Nat} {r : Nat} (h1 : r ∈ l) (h2 : r ∈ m) : meets l m = true := by
  unfold meets
  rw [List.any_eq_true]
  refine ⟨r, h1, ?_⟩
  cases hh : hasN m r with
  | true => rfl
  | false => exact absurd h2 (not_has hh)
theorem ev_agree {sl sl' : List SV} {x : Operand} (h : ∀ t, x = .tmp t → slot sl t = slot sl' t) : ev sl x = ev sl' x := by
  cases x with
  | tmp t => exact h t rfl
  | _ => rfl
theorem tmpsOf_mem {o : Oper} {t : Nat} (h : Operand.tmp t ∈ opnds o.op) : t ∈ tmpsOf o := List.mem_filterMap.2 ⟨_, h, rfl⟩
theorem filter_lt {α : Type} {p q : α → Bool} : ∀ {l : List α}, (∀ x ∈ l, q x = true → p x = true) → (∃ x ∈ l, p x = true ∧ q x = false) → (l.filter q).length < (l.filter p).length
  | [], _, h => by
    obtain ⟨x, hx, _⟩ := h
    simp at hx
  | a :: l, hq, ⟨x, hx, h1, h2⟩ => by
    have hle : ∀ l : List α, (∀ x ∈ l, q x = true → p x = true) → (l.filter q).length ≤ (l.filter p).length := by
      intro l
      induction l with
      | nil => intro _; simp
      | cons a l ih =>
        intro h
        have := ih (fun x hx => h x (List.mem_cons_of_mem _ hx))
        simp only [List.filter_cons]
        by_cases ha : q a = true
        · rw [if_pos ha, if_pos (h a (by simp) ha)]
          simpa using this
        · rw [if_neg ha]
          split
          · simp only [List.length_cons]; omega
          · exact this
    have hl := hle l (fun x hx => hq x (List.mem_cons_of_mem _ hx))
    simp only [List.filter_cons]
    rcases List.mem_cons.1 hx with rfl | hx
    · rw [if_neg (by rw [h2]; simp), if_pos h1]
      simp only [List.length_cons]
      omega
    · have := filter_lt (l := l) (fun x hx => hq x (List.mem_cons_of_mem _ hx)) ⟨x, hx, h1, h2⟩
      by_cases ha : q a = true
      · rw [if_pos ha, if_pos (hq a (by simp) ha)]
        simpa using this
      · rw [if_neg ha]
        split
        · simp only [List.length_cons]; omega
        · exact this
/-- Some have been listed. -/
structure Mid (all : Array Oper) (base : Nat) (T : List Tr) (σ : St) (γ0 : Nat → Option G) (listed : Array Bool) (w0 : World) (X : Nat → Prop) (Pr0 : Nat → Nat → Prop) (γ : Nat → Option G) (Pr : Nat → Nat → Prop) (a : Act) (w : World) : Prop where
  size : listed.size = all.size
  closed : ∀ b o, listed.getD b false = true → all[b]? = some o → ∀ e ∈ o.after, Region.binds .any e = true → listed.getD e.on false = true
  inv : Inv w0 X Pr0 (slS (fun j => listed.getD j false) T σ.slots) (gtS (fun j => listed.getD j false) T (getR σ.res)) γ Pr a w
  low : ∀ r, r < base → γ r = γ0 r
  free : ∀ i, listed.getD i false = false → ∀ r, base + 64 * i ≤ r → r < base + 64 * i + 64 → γ r = none
theorem mid_any {all : Array Oper} {base : Nat} {Q : Exit → Act → World → Prop} (hS : Sound P E call) (hE : EnvOk P E) {γ0 : Nat → Option G} {σ : St} {T : List Tr} (hT : T.map (fun τ => (τ.i, τ.o)) = (List.range all.size).zip all.toList)
    (hok : ∀ τ ∈ T, TrOk E call all base τ (slS (fun j => decide (j < τ.i)) T σ.slots) (gtS (fun j => decide (j < τ.i)) T (getR σ.res))) (hord : ordOk all (Region.before all) (T.map logOf).reverse = true) (hedge : edgesOk all = true)
    (hQ : ∀ γ' Pr' a' w', Inv w0 X Pr0 (slS (fun _ => true) T σ.slots) (gtS (fun _ => true) T (getR σ.res)) γ' Pr' a' w' → (∀ r, r < base → γ' r = γ0 r) → (∀ r, base + 64 * all.size ≤ r → γ' r = none) → Q .normal a' w') :
    ∀ (fuel : Nat) (listed : Array Bool) (γ : Nat → Option G) (Pr : Nat → Nat → Prop) (a : Act) (w : World), Mid all base T σ γ0 listed w0 X Pr0 γ Pr a w → ((List.range all.size).filter fun j => !listed.getD j false).length ≤ fuel → wpAny P .any all Q fuel listed a w := by
  have hTi : T.map (·.i) = List.range all.size := by
    have := congrArg (List.map (·.1)) hT
    rw [List.map_map, (range_zip' all).2] at this
    exact this
  have hTo : ∀ τ ∈ T, all[τ.i]? = some τ.o := by
    intro τ hτ
    have : (τ.i, τ.o) ∈ (List.range all.size).zip all.toList := by
      rw [← hT]
      exact List.mem_map_of_mem (f := fun τ : Tr => (τ.i, τ.o)) hτ
    exact (range_zip' all).1 _ this
  have hnd : (T.map (·.i)).Nodup := by rw [hTi]; exact List.nodup_range
  have hpw : T.Pairwise fun x y => x.i < y.i := by
    have : (T.map (·.i)).Pairwise (· < ·) := by rw [hTi]; exact List.pairwise_lt_range
    exact List.pairwise_map.1 this
  have hlt : ∀ τ ∈ T, τ.i < all.size := fun τ hτ => (Array.getElem?_eq_some_iff.1 (hTo τ hτ)).1
  have hall : ∀ i, i < all.size → ∃ τ ∈ T, τ.i = i := by
    intro i hi
    have : i ∈ T.map (·.i) := by rw [hTi]; exact List.mem_range.2 hi
    obtain ⟨τ, h1, h2⟩ := List.mem_map.1 this
    exact ⟨τ, h1, h2⟩
  -- whatever clashes is in order
  have hcl : ∀ τ ∈ T, ∀ τ' ∈ T, τ.i < τ'.i → clash all (logOf τ) (logOf τ') = true → ((Region.before all).getD τ'.i 0).testBit τ.i = true := by
    have h1 := ord_pair hord
    rw [List.pairwise_reverse, List.pairwise_map] at h1
    have h2 : T.Pairwise fun x y => x.i < y.i → clash all (logOf x) (logOf y) = true → ((Region.before all).getD y.i 0).testBit x.i = true := h1.imp fun h _ hc => h hc
    intro τ hτ τ' hτ'
    by_cases he : τ = τ'
    · subst he
      intro h
      omega
    · rcases pair_of hpw h2 hτ hτ' he with h | ⟨h3, _⟩
      · exact h
      · intro h
        omega
  have hdone : ∀ (listed : Array Bool) (γ : Nat → Option G) (Pr : Nat → Nat → Prop) (a : Act) (w : World), Mid all base T σ γ0 listed w0 X Pr0 γ Pr a w → (∀ j, j < all.size → listed.getD j false = true) → Q .normal a w := by
    intro listed γ Pr a w hM hl
    have e : ∀ τ ∈ T, listed.getD τ.i false = true := fun τ hτ => hl _ (hlt τ hτ)
    have h1 := hM.inv
    rw [slS_congr (S' := fun _ => true) e, gtS_congr (S' := fun _ => true) e] at h1
    refine hQ γ Pr a w h1 hM.low fun r hr => ?_
    have hge : all.size ≤ (r - base) / 64 := (Nat.le_div_iff_mul_le (by omega)).2 (by omega)
    have hun : listed.getD ((r - base) / 64) false = false := by
      rw [Array.getD_eq_getD_getElem?, Array.getElem?_eq_none (by rw [hM.size]; exact hge)]
      rfl
    have hdm := Nat.div_add_mod (r - base) 64
    have hml := Nat.mod_lt (r - base) (show 0 < 64 by omega)
    exact hM.free _ hun r (by omega) (by omega)
  have hback : ∀ (j : Nat) (o : Oper), all[j]? = some o → ∀ e ∈ o.after, Region.binds .any e = true → e.on < j := by
    intro j o ho e he hb
    have hj : j < all.size := (Array.getElem?_eq_some_iff.1 ho).1
    have := (List.all_eq_true.1 hedge) j (List.mem_range.2 hj)
    rw [ho] at this
    have := (Array.all_eq_true_iff_forall_mem.1 this) e he
    rw [hb] at this
    simpa [Nat.blt_eq] using this
  intro fuel
  induction fuel with
  | zero =>
    intro listed γ Pr a w hM hf
    have hl : ∀ j, j < all.size → listed.getD j false = true := by
      intro j hj
      cases hh : listed.getD j false with
      | true => rfl
      | false =>
        have hmem : j ∈ (List.range all.size).filter fun j => !listed.getD j false := List.mem_filter.2 ⟨List.mem_range.2 hj, by rw [hh]; rfl⟩
        rw [List.eq_nil_of_length_eq_zero (Nat.le_zero.1 hf)] at hmem
        simp at hmem
    refine ⟨?_, hdone listed γ Pr a w hM hl⟩
    apply List.eq_nil_iff_forall_not_mem.2
    intro j hj
    obtain ⟨h1, o, ho, _⟩ := mem_ready.1 hj
    have hjl : j < all.size := (Array.getElem?_eq_some_iff.1 ho).1
    have := hl j hjl
    rw [Array.getD_eq_getD_getElem?, Array.getElem?_eq_getElem (by rw [hM.size]; exact hjl)] at this h1
    simp only [Option.getD_some] at this h1
    rw [this] at h1
    cases h1
  | succ fuel ih =>
    intro listed γ Pr a w hM hf
    have hgetD : ∀ j, j < all.size → listed.getD j true = listed.getD j false := by
      intro j hj
      rw [Array.getD_eq_getD_getElem?, Array.getD_eq_getD_getElem?, Array.getElem?_eq_getElem (by rw [hM.size]; exact hj)]
      rfl
    refine ⟨fun hr => hdone listed γ Pr a w hM ?_, fun i hi => ?_⟩
    · intro j
      induction j using Nat.strongRecOn with
      | _ j ihj =>
        intro hj
        cases hh : listed.getD j false with
        | true => rfl
        | false =>
          have : j ∈ Region.ready .any all listed := mem_ready.2 ⟨by rw [hgetD j hj, hh], all[j], Array.getElem?_eq_getElem hj, fun e he hb => by
            have hlt' := hback j _ (Array.getElem?_eq_getElem hj) e he hb
            exact ihj e.on hlt' (by omega)⟩
          rw [hr] at this
          simp at this
    · obtain ⟨h1, o, ho, hpre⟩ := mem_ready.1 hi
      have hil : i < all.size := (Array.getElem?_eq_some_iff.1 ho).1
      obtain ⟨τ, hτ, rfl⟩ := hall i hil
      have hoτ := hTo τ hτ
      rw [ho] at hoτ
      cases hoτ
      have hSi : listed.getD τ.i false = false := by rw [← hgetD _ hil]; exact h1
      have hpast : ∀ τ' ∈ T, τ'.i < τ.i → clash all (logOf τ') (logOf τ) = true → listed.getD τ'.i false = true := by
        intro τ' hτ' hl hc
        exact before_in (S := fun j => listed.getD j false = true) hM.closed τ.i τ'.i (fun o' ho' e he hb => by
          rw [ho] at ho'
          cases ho'
          exact hpre e he hb) (hcl τ' hτ' τ hτ hl hc)
      have hnext : ∀ τ' ∈ T, τ.i < τ'.i → clash all (logOf τ) (logOf τ') = true → listed.getD τ'.i false = false := by
        intro τ' hτ' hl hc
        cases hh : listed.getD τ'.i false with
        | false => rfl
        | true =>
          have := before_in (S := fun j => listed.getD j false = true) hM.closed τ'.i τ.i (fun o' ho' e he hb => hM.closed τ'.i o' hh ho' e he hb) (hcl τ hτ τ' hτ' hl hc)
          simp only [hSi] at this
          cases this
      have hclash : ∀ (x y : Tr), x ∈ T → y ∈ T → clash all (logOf x) (logOf y) = (meets x.o.dst.toList (y.o.dst.toList ++ namesOf all y.o) || meets y.o.dst.toList (namesOf all x.o) || meets (x.u.map (·.1)) (y.see ++ y.u.map (·.1)) || meets (y.u.map (·.1)) x.see) := by
        intro x y hx hy
        unfold clash
        rw [show (logOf x).i = x.i from rfl, show (logOf y).i = y.i from rfl, hTo x hx, hTo y hy]
        rfl
      have hsl : ∀ t, t ∈ namesOf all τ.o → slot (slS (fun j => listed.getD j false) T σ.slots) t = slot (slS (fun j => decide (j < τ.i)) T σ.slots) t := by
        intro t ht
        refine slot_agree (fun τ' hτ' hd => ?_) rfl rfl
        show listed.getD τ'.i false = decide (τ'.i < τ.i)
        rcases Nat.lt_trichotomy τ'.i τ.i with h | h | h
        · rw [hpast τ' hτ' h (by rw [hclash τ' τ hτ' hτ, hd]; simp [meets_ok (l := [t]) (m := τ.o.dst.toList ++ namesOf all τ.o) (r := t) (by simp) (List.mem_append_right _ ht)])]
          simp [h]
        · rw [h, hSi]
          simp
        · rw [hnext τ' hτ' h (by rw [hclash τ τ' hτ hτ', hd]; simp [meets_ok (l := [t]) (m := namesOf all τ.o) (r := t) (by simp) ht])]
          simp
          omega
      have hgl : ∀ r, r ∈ τ.see → gtS (fun j => listed.getD j false) T (getR σ.res) r = gtS (fun j => decide (j < τ.i)) T (getR σ.res) r := by
        intro r hr
        refine gt_agree (fun τ' hτ' hd => ?_) rfl
        show listed.getD τ'.i false = decide (τ'.i < τ.i)
        rcases Nat.lt_trichotomy τ'.i τ.i with h | h | h
        · rw [hpast τ' hτ' h (by rw [hclash τ' τ hτ' hτ]; simp [meets_ok (m := τ.see ++ τ.u.map (·.1)) hd (List.mem_append_left _ hr)])]
          simp [h]
        · rw [h, hSi]
          simp
        · rw [hnext τ' hτ' h (by rw [hclash τ τ' hτ hτ']; simp [meets_ok (m := τ.see) hd hr])]
          simp
          omega
      obtain ⟨hg, hran, hskip⟩ := hok τ hτ
      have hargs : (opnds τ.o.op).map (ev (slS (fun j => listed.getD j false) T σ.slots)) = (opnds τ.o.op).map (ev (slS (fun j => decide (j < τ.i)) T σ.slots)) := by
        apply List.map_congr_left
        intro x hx
        refine ev_agree fun t ht => hsl t ?_
        subst ht
        exact List.mem_append_left _ (tmpsOf_mem hx)
      have hg' : GuardOk all τ.o (slS (fun j => listed.getD j false) T σ.slots) τ.ran := by
        unfold GuardOk at hg ⊢
        split at hg
        · exact hg
        · rename_i j want hgd
          obtain ⟨d, h2, h3⟩ := hg
          refine ⟨d, h2, ?_⟩
          rw [hsl d ?_]
          · exact h3
          · unfold namesOf
            rw [hgd]
            refine List.mem_append_right _ ?_
            simp only [h2]
            simp
      obtain ⟨res, hcore, hknow⟩ : ∃ res, (τ.ran = true → core E call τ.o ((opnds τ.o.op).map (ev (slS (fun j => listed.getD j false) T σ.slots))) res (base + 64 * τ.i) ans = some (τ.v, τ.u)) ∧ ∀ r x, getR res r = some x → gtS (fun j => listed.getD j false) T (getR σ.res) r = some x := by
        cases hr : τ.ran with
        | false => exact ⟨[], fun h => (by cases h), fun r x h => (by simp [getR] at h)⟩
        | true =>
          obtain ⟨res, h2, h3⟩ := hran hr
          refine ⟨res, fun _ => by rw [hargs]; exact h2, fun r x hx => ?_⟩
          obtain ⟨h4, h5⟩ := h3 r x hx
          rw [hgl r h4]
          exact h5
      refine exec_one hS hE hM.inv ho hg' hcore hknow hskip (hM.free τ.i hSi) ?_
      intro a' w' γ' Pr' hI' hγ'
      have hset : ∀ j, (listed.setIfInBounds τ.i true).getD j false = (listed.getD j false || j == τ.i) := by
        intro j
        by_cases hj : τ.i = j
        · subst hj
          have : τ.i < listed.size := by rw [hM.size]; exact hil
          simp [this]
        · rw [getD_set_ne false hj]
          have : (j == τ.i) = false := by
            rw [beq_eq_false_iff_ne]
            exact fun e => hj e.symm
          rw [this, Bool.or_false]
      refine ih (listed.setIfInBounds τ.i true) γ' Pr' a' w' ⟨?_, ?_, ?_, ?_, ?_⟩ ?_
      · rw [Array.size_setIfInBounds]
        exact hM.size
      · intro b o' hb ho' e he hbd
        rw [hset] at hb
        refine getD_set_true ?_
        by_cases hbi : b = τ.i
        · subst hbi
          rw [ho] at ho'
          cases ho'
          exact hpre e he hbd
        · have hb' : listed.getD b false = true := by simpa [hbi] using hb
          exact hM.closed b o' hb' ho' e he hbd
      · have e1 : (fun j => (listed.setIfInBounds τ.i true).getD j false) = fun j => listed.getD j false || j == τ.i := funext hset
        rw [e1]
        rw [slS_insert (S := fun j => listed.getD j false) hSi hτ hnd (fun τ' hτ' hs hlt' t hd hd' => by
          have hm1 : meets (some t).toList ((some t).toList ++ namesOf all τ'.o) = true := meets_ok (r := t) (by simp) (by simp)
          have := hnext τ' hτ' hlt' (by rw [hclash τ τ' hτ hτ', hd, hd', hm1]; rfl)
          rw [this] at hs
          cases hs) hpw]
        rw [gtS_insert (S := fun j => listed.getD j false) hSi hτ hnd (fun τ' hτ' hs hlt' r hr hr' => by
          have := hnext τ' hτ' hlt' (by rw [hclash τ τ' hτ hτ']; simp [meets_ok (m := τ'.see ++ τ'.u.map (·.1)) hr (List.mem_append_right _ hr')])
          rw [this] at hs
          cases hs) hpw]
        exact hI'
      · intro r hr
        rw [hγ' r (by rintro ⟨h2, _⟩; omega)]
        exact hM.low r hr
      · intro j hj r h2 h3
        rw [hset] at hj
        simp only [Bool.or_eq_false_iff, beq_eq_false_iff_ne] at hj
        have hne := hj.2
        rw [hγ' r (by
          rintro ⟨h4, h5⟩
          rcases Nat.lt_or_gt_of_ne hne with h | h <;> omega)]
        exact hM.free j hj.1 r h2 h3
      · have := filter_lt (l := List.range all.size) (p := fun j => !listed.getD j false) (q := fun j => !(listed.setIfInBounds τ.i true).getD j false) (fun x _ hx => by
          rw [hset] at hx
          simp only [Bool.not_eq_true', Bool.or_eq_false_iff] at hx ⊢
          exact hx.1) ⟨τ.i, List.mem_range.2 hil, by rw [hSi]; rfl, by rw [hset]; simp⟩
        omega
where
  range_zip' (ops : Array Oper) : (∀ p ∈ (List.range ops.size).zip ops.toList, ops[p.1]? = some p.2) ∧ ((List.range ops.size).zip ops.toList).map (·.1) = List.range ops.size := by
    constructor
    · intro p hp
      obtain ⟨k, hk, rfl⟩ := List.getElem_of_mem hp
      rw [List.getElem_zip]
      simp only [List.getElem_range]
      rw [← Array.getElem?_toList]
      exact List.getElem?_eq_getElem _
    · exact List.map_fst_zip (by simp)
  pair_of {R1 R2 : Tr → Tr → Prop} {T : List Tr} (h1 : T.Pairwise R1) (h2 : T.Pairwise R2) {x y : Tr} (hx : x ∈ T) (hy : y ∈ T) (hne : x ≠ y) : R2 x y ∨ (R1 y x ∧ R2 y x) := by
    induction T with
    | nil => simp at hx
    | cons t T ih =>
      rw [List.pairwise_cons] at h1 h2
      rcases List.mem_cons.1 hx with rfl | hx' <;> rcases List.mem_cons.1 hy with rfl | hy'
      · exact absurd rfl hne
      · exact .inl (h2.1 y hy')
      · exact .inr ⟨h1.1 x hx', h2.1 x hx'⟩
      · exact ih h1.2 h2.2 hx' hy'
theorem run_draw {all : Array Oper} {id : Nat} {base : Nat} {Q : Exit → Act → World → Prop} (hm : P.follows .mixedOrders = true) (hS : Sound P E call) (hE : EnvOk P E) {γ0 : Nat → Option G}
    {σ : St} {γ : Nat → Option G} {Pr : Nat → Nat → Prop} {a : Act} {w : World} (h : runOps E call all true base ((List.range all.size).zip all.toList) [] σ K = some z)
      (hI : Inv w0 X Pr0 σ.slots (getR σ.res) γ Pr a w) (hlow : ∀ r, r < base → γ r = γ0 r) (hhigh : ∀ r, base ≤ r → γ r = none)
      (hQ : ∀ σ' γ' Pr' a' w', K σ' = some z → Inv w0 X Pr0 σ'.slots (getR σ'.res) γ' Pr' a' w' → (∀ r, r < base → γ' r = γ0 r) → (∀ r, base + 64 * all.size ≤ r → γ' r = none) → σ'.n0 = σ.n0 → σ'.nx = σ.nx → Q .normal a' w') :
      (Code.region id all true).wp P Q a w := by
  obtain ⟨T, σ', h1, h2, h3, h4, h5, h6, h7, h8, h9⟩ := chain_of h (by rw [(mid_any.range_zip' all).2]; exact List.pairwise_lt_range)
  rw [List.append_nil] at h8
  refine wp_region_any hm ?_
  have hnone : ∀ j, (Array.replicate all.size false).getD j false = false := by
    intro j
    rw [Array.getD_eq_getD_getElem?]
    by_cases hj : j < all.size
    · simp [hj]
    · rw [Array.getElem?_eq_none (by simpa using hj)]
      rfl
  refine mid_any hS hE h1 h2 h8 h9 (fun γ' Pr' a' w' hi hl hh => hQ σ' γ' Pr' a' w' h7 (by rw [h3, h4]; exact hi) hl hh h5 h6) all.size _ γ Pr a _ ⟨by simp, ?_, ?_, hlow, fun i _ r hr _ => hhigh r (by omega)⟩ ?_
  · intro b o hb
    rw [hnone] at hb
    cases hb
  · rw [slS_none (fun τ _ => hnone τ.i), gtS_none (fun τ _ => hnone τ.i)]
    exact ⟨RVs_mono (fun _ _ _ h => h) (fun _ _ h => h) hI.slots, hI.defers, hI.gs, hI.wfs, hI.res, hI.apart, hI.loose, hI.where_, hI.frame, hI.size, hI.os, hI.tape, hI.output, hI.prIn, hI.prOld, hI.pr0⟩
  · refine Nat.le_trans (List.length_filter_le _ _) ?_
    simp
end
end Go.Proofs.Ytcfnhfbaakflgaa.Abs
