/- From a row's data to plain values, and from what a law says to the row's goal. -/
import Derived.Test.YtcfnhfbaakflgaaAbsEv
import Derived.ChangeArms
import Derived.DataReads
import Derived.WideShapes
import Derived.Carry
import Derived.OpenShut
set_option linter.unusedVariables false
set_option linter.unusedSimpArgs false
set_option linter.unusedSectionVars false
namespace Go.Proofs.Ytcfnhfbaakflgaa.Abs
open Go Go.RowKit Go.ChangeShapes Go.WideShapes

/-- What a machine can hold. -/
def SmT : (t : Ty) → t.den → Prop
  | .int k, n => (Lit.int k n).wf = true
  | .bool, _ => True
  | .str, s => (s : ByteArray).size ≤ maxLen
  | .unit, _ => True
  | .pair a b, x => SmT a x.1 ∧ SmT b x.2
  | .agg t, x => SmT t x
  | .slice _ t, xs => (xs : List t.den).length ≤ maxLen ∧ ∀ x ∈ (xs : List t.den), SmT t x
def dataFB (P : Program) (g : TypeId → Ty → Bool) : List Field → Ty → Nat → Bool
  | [], .unit, _ => true
  | f :: fs, .pair a b, o => Nat.beq f.offset o && Nat.beq (P.cellsOf f.type) a.sz && g f.type a && dataFB P g fs b (o + a.sz)
  | _, _, _ => false
def dataB (P : Program) : Nat → TypeId → Ty → Bool
  | 0, _, _ => false
  | _ + 1, T, .int k => match P.underlying T with | some (.int k') => decide (k' = k) | _ => false
  | _ + 1, T, .bool => match P.underlying T with | some .bool => true | _ => false
  | _ + 1, T, .str => match P.underlying T with | some .string => true | _ => false
  | d + 1, T, .slice e t => match P.underlying T with | some (.slice e') => Nat.beq e' e && Nat.beq (P.cellsOf e) t.sz && Nat.blt 0 t.sz && dataB P d e t | _ => false
  | d + 1, T, .agg t => match P.underlying T with
    | some (.struct fs) => Nat.beq (P.cellsOf T) t.sz && dataFB P (dataB P d) fs.toList t 0
    | _ => false
  | _, _, _ => false
theorem pick_list {α : Type} {Q : Nat → α → Prop} : ∀ (n : Nat), (∀ i, i < n → ∃ y, Q i y) → ∃ ys : List α, ys.length = n ∧ ∀ i (h : i < ys.length), Q i ys[i]
  | 0, _ => ⟨[], rfl, fun i h => by simp at h⟩
  | n + 1, h => by
    obtain ⟨ys, h1, h2⟩ := pick_list n (fun i hi => h i (by omega))
    obtain ⟨y, hy⟩ := h n (by omega)
    refine ⟨ys ++ [y], by simp [h1], fun i hi => ?_⟩
    by_cases hin : i < ys.length
    · rw [List.getElem_append_left hin]
      exact h2 i hin
    · rw [List.length_append, List.length_singleton] at hi
      have : i = n := by omega
      subst this
      rw [List.getElem_append_right (by omega)]
      simpa [h1] using hy
section
variable {H : Type} {enc : TypeId × Value → H} {P : Program} {w : World} {base : Nat} {sp : Nat → Bool} {held : Bool}
theorem dataF_ok {g : TypeId → Ty → Bool} {n : Nat} (hg : ∀ T t, g T t = true → ∀ cs x, DataW.trod enc P w base sp held n T cs = some x → ∃ y : t.den, RK (LnT w) t y cs ∧ SmT t y) :
    ∀ {fs : List Field} {t : Ty} {o : Nat} {cs : List Value}, dataFB P g fs t o = true → cs.length = o + t.sz → (∀ f ∈ fs, ∃ x, DataW.trod enc P w base sp held n f.type ((cs.drop f.offset).take (P.cellsOf f.type)) = some x) → ∃ y : t.den, RK (LnT w) t y (cs.drop o) ∧ SmT t y
  | [], .unit, o, cs, _, hl, _ => ⟨(), by
      show cs.drop o = []
      exact List.drop_eq_nil_of_le (by rw [hl]; exact Nat.le_refl _), trivial⟩
  | f :: fs, .pair a b, o, cs, h, hl, hf => by
    simp only [dataFB, Bool.and_eq_true] at h
    obtain ⟨⟨⟨h1, h2⟩, h3⟩, h4⟩ := h
    have h1 := Nat.eq_of_beq_eq_true h1
    have h2 := Nat.eq_of_beq_eq_true h2
    obtain ⟨x, hx⟩ := hf f (by simp)
    rw [h1, h2] at hx
    obtain ⟨y1, k1, m1⟩ := hg f.type a h3 _ _ hx
    have hl' : cs.length = o + a.sz + b.sz := by
      rw [hl, Nat.add_assoc]
      rfl
    obtain ⟨y2, k2, m2⟩ := dataF_ok hg (fs := fs) (t := b) (o := o + a.sz) (cs := cs) h4 hl' (fun f hf' => hf f (List.mem_cons_of_mem _ hf'))
    refine ⟨(y1, y2), ⟨(cs.drop o).take a.sz, cs.drop (o + a.sz), ?_, k1, k2⟩, m1, m2⟩
    rw [← List.drop_drop, List.take_append_drop]
  | [], .int _, _, _, h, _, _ => by cases h
  | [], .bool, _, _, h, _, _ => by cases h
  | [], .str, _, _, h, _, _ => by cases h
  | [], .pair _ _, _, _, h, _, _ => by cases h
  | [], .agg _, _, _, h, _, _ => by cases h
  | [], .slice _ _, _, _, h, _, _ => by cases h
  | _ :: _, .int _, _, _, h, _, _ => by cases h
  | _ :: _, .bool, _, _, h, _, _ => by cases h
  | _ :: _, .str, _, _, h, _, _ => by cases h
  | _ :: _, .unit, _, _, h, _, _ => by cases h
  | _ :: _, .agg _, _, _, h, _, _ => by cases h
  | _ :: _, .slice _ _, _, _, h, _, _ => by cases h
theorem data_ok : ∀ (d : Nat) (T : TypeId) (t : Ty), dataB P d T t = true → ∀ (fuel : Nat) (cs : List Value) (x : DataW H × List MemPlace), DataW.trod enc P w base sp held fuel T cs = some x → ∃ y : t.den, RK (LnT w) t y cs ∧ SmT t y
  | 0, _, _, h, _, _, _, _ => by simp [dataB] at h
  | d + 1, T, .int k, h, fuel, cs, x, hx => by
    unfold dataB at h
    split at h
    · rename_i k' hu
      have := of_decide_eq_true h
      subst this
      obtain ⟨n, rfl, _, hw⟩ := DataW.trod_int hu hx
      exact ⟨n, rfl, hw⟩
    · cases h
  | d + 1, T, .bool, h, fuel, cs, x, hx => by
    unfold dataB at h
    split at h
    · rename_i hu
      obtain ⟨b, rfl, _⟩ := DataW.trod_bool hu hx
      exact ⟨b, rfl, trivial⟩
    · cases h
  | d + 1, T, .str, h, fuel, cs, x, hx => by
    unfold dataB at h
    split at h
    · rename_i hu
      obtain ⟨s, rfl, _, hw⟩ := DataW.trod_string hu hx
      exact ⟨s, rfl, hw⟩
    · cases h
  | d + 1, T, .slice e t, h, fuel, cs, x, hx => by
    unfold dataB at h
    split at h
    · rename_i e' hu
      simp only [Bool.and_eq_true] at h
      obtain ⟨⟨⟨h1, h2⟩, h3⟩, h4⟩ := h
      have h1 := Nat.eq_of_beq_eq_true h1
      subst h1
      have h2 := Nat.eq_of_beq_eq_true h2
      have h3 : 0 < t.sz := by simpa [Nat.blt_eq] using h3
      rcases DataW.trod_slice hu hx with ⟨rfl, _⟩ | ⟨a, len, cap, elems, rest, n, rfl, rfl, rfl, hb, hle, hmax, hlen, hel, _⟩
      · exact ⟨([] : List t.den), ⟨none, 0, rfl, Nat.le_refl _, fun h => absurd rfl h⟩, Nat.zero_le _, fun x hx => by cases hx⟩
      · have each : ∀ i, i < len → ∃ y : t.den, SmT t y ∧ ∃ c, RK (LnT w) t y c ∧ c.length = t.sz ∧ ∀ j, j < t.sz → w.cell? ((a.add (i * t.sz)).add j) = c[j]? := by
          intro i hi
          have h5 := hel i hi
          rw [List.getElem?_eq_getElem (by omega), Option.bind_eq_some_iff, h2] at h5
          obtain ⟨c, h6, h7⟩ := h5
          obtain ⟨_, h8, h9⟩ := World.cells?_some h6
          obtain ⟨y, h10, h11⟩ := data_ok d e' t h4 _ _ _ h7
          exact ⟨y, h11, c, h10, h8, h9⟩
        obtain ⟨ys, hyl, hy⟩ := pick_list len each
        have hyl' : len = ys.length := hyl.symm
        subst hyl'
        refine ⟨ys, ⟨some a, cap, rfl, hle, fun hne => ?_⟩, Nat.le_trans hle hmax, fun y hyy => ?_⟩
        · have hpos : 0 < ys.length := by
            cases ys with
            | nil => exact absurd rfl hne
            | cons _ _ => simp
          obtain ⟨_, c0, _, hcl, hcc⟩ := hy 0 hpos
          have hsp : a.spot = none := by
            have := hcc 0 h3
            rw [List.getElem?_eq_getElem (by omega)] at this
            unfold World.cell? at this
            split at this
            · cases hs : a.spot with
              | none => rfl
              | some z =>
                simp [Addr.add, hs] at this
            · cases this
          obtain ⟨b, o, s⟩ := a
          simp only at hsp
          subst hsp
          refine ⟨b, o, rfl, fun i hi => ?_⟩
          obtain ⟨_, c, k1, k2, k3⟩ := hy i hi
          refine ⟨c, k1, fun j v hj => ⟨trivial, ?_⟩⟩
          have hjl : j < t.sz := by
            rw [← k2]
            exact (List.getElem?_eq_some_iff.1 hj).1
          have := k3 j hjl
          rw [hj, add_lit, add_lit] at this
          exact this
        · obtain ⟨i, hi, he⟩ := List.getElem_of_mem hyy
          rw [← he]
          exact (hy i hi).1
    · cases h
  | d + 1, T, .agg t, h, fuel, cs, x, hx => by
    unfold dataB at h
    split at h
    · rename_i fs hu
      simp only [Bool.and_eq_true] at h
      have h1 := Nat.eq_of_beq_eq_true h.1
      obtain ⟨xs, n, rfl, rfl, hl, hxl, hf⟩ := DataW.trod_struct hu hx
      have := dataF_ok (g := dataB P d) (n := n) (fun T t hT cs x hx => data_ok d T t hT n cs x hx) (cs := cs) h.2 (by rw [hl, h1, Nat.zero_add]) (fun f hfm => by
        obtain ⟨i, hi, he⟩ := List.getElem_of_mem hfm
        have hi' : i < fs.size := by simpa using hi
        have := hf i f (by rw [Array.getElem?_eq_getElem hi']; simpa using he)
        rw [List.getElem?_eq_getElem (by omega)] at this
        exact ⟨_, this⟩)
      obtain ⟨y, h3, h4⟩ := this
      exact ⟨y, h3, h4⟩
    · cases h
  | d + 1, T, .unit, h, _, _, _, _ => by simp [dataB] at h
  | d + 1, T, .pair _ _, h, _, _, _, _ => by simp [dataB] at h
theorem value_mk {d : Nat} {T : TypeId} {t : Ty} (h : dataB P d T t = true) {r : Reach} {v : Value} (hv : Value.okWide P w r base T v) : v = mk t v.cells.toList := by
  cases d with
  | zero => simp [dataB] at h
  | succ d =>
    unfold dataB at h
    cases t with
    | int k =>
      simp only at h
      split at h
      · rename_i hu
        obtain ⟨n, rfl⟩ := okWide_int hu hv
        rfl
      · cases h
    | bool =>
      simp only at h
      split at h
      · rename_i hu
        obtain ⟨b, rfl⟩ := okWide_bool hu hv
        rfl
      · cases h
    | str =>
      simp only at h
      split at h
      · rename_i hu
        obtain ⟨s, rfl⟩ := okWide_string hu hv
        rfl
      · cases h
    | slice e t =>
      simp only at h
      split at h
      · rename_i hu
        obtain ⟨a, l, c, rfl⟩ := okWide_slice hu hv
        rfl
      · cases h
    | agg t =>
      simp only at h
      split at h
      · rename_i hu
        obtain ⟨cs, rfl, _⟩ := okWide_struct hu hv
        show Value.agg cs = .agg cs.toList.toArray
        simp
      · cases h
    | unit => simp at h
    | pair a b => simp at h
/-- An argument as a plain value. -/
theorem arg_ok {d : Nat} {T : TypeId} {t : Ty} (h : dataB P d T t = true) {r : Reach} {v : Value} {x : DataW H} {ps : List MemPlace} (hv : Value.okWide P w r base T v) (hx : DataW.Trod enc P w 0 sp held T v x ps) : ∃ y : t.den, SmT t y ∧ v = mk t v.cells.toList ∧ RK (LnT w) t y v.cells.toList := by
  obtain ⟨fuel, hx⟩ := hx
  obtain ⟨y, h1, h2⟩ := data_ok d T t h fuel _ _ hx
  exact ⟨y, h2, value_mk h hv, h1⟩
end
/-- The cells that are there. -/
abbrev PrA (w : World) (b o : Nat) : Prop := ∃ v, w.cell? ⟨b, o, none⟩ = some v
theorem start_inv {w : World} {args : List SV} {us : List Value} (h : RVs (Ln (PrA w) w) (fun _ => none) args us) : Inv w (Xof [] fun _ => none) (PrA w) args (getR []) (fun _ => none) (PrA w) { tmps := us.toArray, defers := [] } w := by
  refine ⟨h, rfl, (fun r e t v h => by cases h), (fun r b t h => by cases h), (fun r x h => by cases h), (fun r r' x x' b h => by cases h), (fun r x b h => by cases h), (fun r x b h => by cases h), fun _ _ _ => rfl, Nat.le_refl _, rfl, rfl, rfl, ?_, fun _ _ _ _ h => h, fun _ _ _ h => h⟩
  rintro b o ⟨v, hv⟩
  unfold World.cell? at hv
  split at hv
  · rename_i h
    exact (Array.getElem?_eq_some_iff.1 h).1
  · cases hv
theorem RV_arg {w : World} {t : Ty} {y : t.den} {v : Value} (h1 : v = mk t v.cells.toList) (h2 : RK (LnT w) t y v.cells.toList) : RV (Ln (PrA w) w) (fun _ => none) (.val t y) v := by
  rw [h1]
  exact .val (RK_mono (fun b o v h => ⟨⟨v, h.2⟩, h.2⟩) h2)
/-- What a law says of plain values holds of the model. -/
theorem law_calls {P : Program} {E : Env} (hm : P.follows .mixedOrders = true) (hE : EnvOk P E) (hP : PrimsOk P E) {I : FnI} {key : Nat} (hg : nth E.fns key = some I) {args : List SV} {z : I.sh.den × I.bx.den} (h : Says E I args [] z)
    (h1 : mkList I.sh z.1 0 = ([.val .bool true], [], 0)) (h2 : mkList I.bx z.2 0 = ([], [], 0)) (h3 : backs I.rb [] [] (shTys I.bx) = some []) {w : World} {us : List Value} (hu : RVs (Ln (PrA w) w) (fun _ => none) args us) :
    Calls P I.g us.toArray w fun e w' => e = .returned (.bool true) ∧ Below w.heap.size w w' := by
  have := h.calls hm hE hP hg (fun k p hp => by simp at hp) (start_inv hu) (fun _ _ => rfl) (N := 0) (Nat.zero_le _) h1 h2 h3
  refine this.mono ?_
  rintro e w' ⟨vals, γr, Pr', rfl, hB, _⟩
  have hv := hB.vals
  cases hv with
  | cons hv hk =>
    cases hk
    have := val_bool hv
    subst this
    refine ⟨rfl, hB.os, hB.tape, hB.output, hB.size, fun k hk => hB.frame k hk ?_⟩
    rintro ⟨j, x, hj, _⟩
    cases hj
end Go.Proofs.Ytcfnhfbaakflgaa.Abs
