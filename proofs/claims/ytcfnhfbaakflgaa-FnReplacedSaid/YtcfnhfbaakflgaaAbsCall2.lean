/- A call of a function. -/
import Derived.Test.YtcfnhfbaakflgaaAbsCall
set_option linter.unusedVariables false
set_option linter.unusedSimpArgs false
set_option linter.unusedSectionVars false
namespace Go.Proofs.Ytcfnhfbaakflgaa.Abs
open Go Go.RowKit

section
variable {res : Tab} {f : Nat → Option Nat}
theorem renTab_len : ∀ (ids : List Nat) (k : Nat), (renTab res f ids k).length ≤ ids.length
  | [], _ => Nat.le_refl _
  | r :: l, k => by
    have := renTab_len l (k + 1)
    unfold renTab
    split
    · split
      · simp only [List.length_cons]
        omega
      · simp only [List.length_cons]
        omega
    · simp only [List.length_cons]
      omega
    · simp only [List.length_cons]
      omega
theorem renTab_all : ∀ {ids : List Nat} {k : Nat}, (renTab res f ids k).length = ids.length → ∀ (j r : Nat), ids[j]? = some r → f r = some (k + j) ∧ ∃ x x', getR res r = some x ∧ (renTab res f ids k)[j]? = some (k + j, x') ∧ RenRes f x x'
  | [], _, _, j, r, h => by simp at h
  | i :: l, k, hl, j, r, h => by
    have hle := renTab_len (res := res) (f := f) l (k + 1)
    unfold renTab at hl ⊢
    split at hl
    · rename_i t c hg hh
      split at hl
      · rename_i c' hc
        cases j with
        | zero =>
          simp at h
          subst h
          exact ⟨hitB_ok hh, _, _, hg, rfl, .inl ⟨t, c, c', rfl, rfl, hc⟩⟩
        | succ j =>
          have hl' : (renTab res f l (k + 1)).length = l.length := by simpa using hl
          have := renTab_all hl' j r (by simpa using h)
          rw [show k + 1 + j = k + (j + 1) by omega] at this
          exact this
      · simp only [List.length_cons] at hl
        omega
    · rename_i v hne hg hh
      cases j with
      | zero =>
        simp at h
        subst h
        exact ⟨hitB_ok hh, _, _, hg, rfl, .inr ⟨rfl, fun t c he => hne t c (by rw [he])⟩⟩
      | succ j =>
        have hl' : (renTab res f l (k + 1)).length = l.length := by simpa using hl
        have := renTab_all hl' j r (by simpa using h)
        rw [show k + 1 + j = k + (j + 1) by omega] at this
        exact this
    · simp only [List.length_cons] at hl
      omega
theorem getR_canon : ∀ {tab : Tab} {k : Nat}, (∀ (j : Nat) (p : Nat × Res), tab[j]? = some p → p.1 = k + j) → ∀ {j : Nat} {x : Res}, tab[j]? = some (k + j, x) → getR tab (k + j) = some x
  | [], _, _, j, x, h => by simp at h
  | (i, y) :: l, k, hc, j, x, h => by
    have hi : i = k := hc 0 (i, y) rfl
    subst hi
    rw [getR_cons]
    cases j with
    | zero =>
      simp at h
      rw [if_pos (by simp)]
      rw [h]
    | succ j =>
      rw [if_neg (by omega)]
      have := getR_canon (tab := l) (k := i + 1) (fun j p hp => by
        have := hc (j + 1) p (by simpa using hp)
        omega) (j := j) (x := x) (by
          rw [show i + 1 + j = i + (j + 1) by omega]
          simpa using h)
      rwa [show i + 1 + j = i + (j + 1) by omega] at this
theorem backs_ok {rb : Bool} : ∀ {tab : Tab} {bs : List SV} {ts : List (Option Ty)} {ub : List (Option Res)}, backs rb tab bs ts = some ub → ub.length = tab.length ∧ ∀ (j : Nat) (y : Res), ub[j]? = some (some y) → ∃ (t : Ty) (c c0 : SV) (k : Nat), y = Res.box t c ∧ tab[j]? = some (k, .box t c0)
  | [], [], _, ub, h => by
    cases h
    exact ⟨rfl, fun j y h => by simp at h⟩
  | [], _ :: _, _, _, h => by cases h
  | (k, .box t c0) :: l, bs, ts, ub, h => by
    unfold backs at h
    split at h
    · rename_i v vs s ts
      split at h
      · rename_i hst
        simp only [Option.bind_eq_some_iff] at h
        obtain ⟨u', h1, he⟩ := h
        cases he
        obtain ⟨h2, h3⟩ := backs_ok h1
        refine ⟨by simp [h2], fun j y hj => ?_⟩
        cases j with
        | zero =>
          simp at hj
          subst hj
          exact ⟨t, v, c0, k, rfl, rfl⟩
        | succ j =>
          obtain ⟨t', c', c0', k', h4, h5⟩ := h3 j y (by simpa using hj)
          exact ⟨t', c', c0', k', h4, by simpa using h5⟩
      · cases h
    · cases h
  | (k, .row e t xs fr) :: l, bs, ts, ub, h => by
    obtain ⟨bs', ts', u', h1, he⟩ : ∃ bs' ts' u', backs rb l bs' ts' = some u' ∧ none :: u' = ub := by
      unfold backs at h
      cases rb with
      | true =>
        simp only at h
        split at h
        · simp only [Option.bind_eq_some_iff, Option.some.injEq] at h
          obtain ⟨u', h1, he⟩ := h
          exact ⟨_, _, u', h1, he⟩
        · cases h
      | false =>
        simp only [Option.bind_eq_some_iff, Option.some.injEq] at h
        obtain ⟨u', h1, he⟩ := h
        exact ⟨_, _, u', h1, he⟩
    cases he
    obtain ⟨h2, h3⟩ := backs_ok h1
    refine ⟨by simp [h2], fun j y hj => ?_⟩
    cases j with
    | zero => simp at hj
    | succ j =>
      obtain ⟨t', c', c0', k', h4, h5⟩ := h3 j y (by simpa using hj)
      exact ⟨t', c', c0', k', h4, by simpa using h5⟩
  | (k, .old e t xs) :: l, bs, ts, ub, h => by
    unfold backs at h
    simp only [Option.bind_eq_some_iff] at h
    obtain ⟨u', h1, he⟩ := h
    cases he
    obtain ⟨h2, h3⟩ := backs_ok h1
    refine ⟨by simp [h2], fun j y hj => ?_⟩
    cases j with
    | zero => simp at hj
    | succ j =>
      obtain ⟨t', c', c0', k', h4, h5⟩ := h3 j y (by simpa using hj)
      exact ⟨t', c', c0', k', h4, by simpa using h5⟩
theorem comes_mem {rb : Bool} : ∀ {tab : Tab} {bs : List SV} {ts : List (Option Ty)} {ub : List (Option Res)}, backs rb tab bs ts = some ub → ∀ p ∈ comes rb tab bs, ∃ (j : Nat) (q : Nat × Res), tab[j]? = some q ∧ q.1 = p.2 ∧ ub[j]? = some none
  | [], bs, ts, ub, h, p, hp => by cases bs <;> simp [comes] at hp
  | (k, .box t c0) :: l, bs, ts, ub, h, p, hp => by
    unfold backs at h
    split at h
    · rename_i v vs s ts
      split at h
      · simp only [Option.bind_eq_some_iff, Option.some.injEq] at h
        obtain ⟨u', h1, rfl⟩ := h
        have hp' : p ∈ comes rb l vs := hp
        obtain ⟨j, q, h2, h3, h4⟩ := comes_mem h1 p hp'
        exact ⟨j + 1, q, by simpa using h2, h3, by simpa using h4⟩
      · cases h
    · cases h
  | (k, .row e t xs fr) :: l, bs, ts, ub, h, p, hp => by
    unfold backs at h
    unfold comes at hp
    cases rb with
    | true =>
      simp only at h hp
      split at h
      · rename_i m vs t0 ts
        simp only [Option.bind_eq_some_iff, Option.some.injEq] at h
        obtain ⟨u', h1, rfl⟩ := h
        simp only [List.mem_cons] at hp
        rcases hp with rfl | hp
        · exact ⟨0, _, rfl, rfl, rfl⟩
        · obtain ⟨j, q, h2, h3, h4⟩ := comes_mem h1 p hp
          exact ⟨j + 1, q, by simpa using h2, h3, by simpa using h4⟩
      · cases h
    | false =>
      simp only at h hp
      simp only [Option.bind_eq_some_iff, Option.some.injEq] at h
      obtain ⟨u', h1, rfl⟩ := h
      obtain ⟨j, q, h2, h3, h4⟩ := comes_mem h1 p hp
      exact ⟨j + 1, q, by simpa using h2, h3, by simpa using h4⟩
  | (k, .old e t xs) :: l, bs, ts, ub, h, p, hp => by
    unfold backs at h
    unfold comes at hp
    simp only [Option.bind_eq_some_iff, Option.some.injEq] at h
    obtain ⟨u', h1, rfl⟩ := h
    obtain ⟨j, q, h2, h3, h4⟩ := comes_mem h1 p hp
    exact ⟨j + 1, q, by simpa using h2, h3, by simpa using h4⟩
theorem mkSV_some : ∀ (s : Sh) , (∀ (x : s.den) (n : Nat), ∀ p ∈ (mkSV s x n).2.1, p.2.isSome = true) ∧ (∀ (x : s.den) (n : Nat), ∀ p ∈ (mkSV.go s x n).2.1, p.2.isSome = true)
  | .val t => ⟨fun x n p hp => by simp [mkSV] at hp, fun x n p hp => by simp [mkSV.go] at hp⟩
  | .row e t fr => ⟨fun x n p hp => by
      simp only [mkSV, List.mem_singleton] at hp
      subst hp
      rfl, fun x n p hp => by simp [mkSV.go] at hp⟩
  | .unit => ⟨fun x n p hp => by simp [mkSV] at hp, fun x n p hp => by simp [mkSV.go] at hp⟩
  | .pair a b => ⟨fun x n p hp => by simp [mkSV] at hp, fun x n p hp => by
      simp only [mkSV.go, List.mem_append] at hp
      rcases hp with hp | hp
      · exact (mkSV_some a).1 _ _ p hp
      · exact (mkSV_some b).2 _ _ p hp⟩
  | .strct s => ⟨fun x n p hp => (mkSV_some s).2 x n p hp, fun x n p hp => by simp [mkSV.go] at hp⟩
  | .ptr t => ⟨fun x n p hp => by
      simp only [mkSV, List.mem_singleton] at hp
      subst hp
      rfl, fun x n p hp => by simp [mkSV.go] at hp⟩
end
section
variable {P : Program} {E : Env} {call : (I : FnI) → List SV → Tab → Option (I.sh.den × I.bx.den)} {w0 : World} {X : Nat → Prop} {Pr0 : Nat → Nat → Prop} {sl : List SV} {get : Nat → Option Res} {γ : Nat → Option G} {Pr : Nat → Nat → Prop}
  {a : Act} {w : World} {res : Tab} {r0 : Nat} {o : Oper} {vs : List SV} {v : SV} {u : Up}
theorem valArg_ok {L : Lk} {rows : List Nat} (hR : RowsOk L γ res (fun r => r ∈ rows)) {own : Bool} {t : Option Ty} {v v' : SV} {fr : List Nat} {x : Value} (hv : RV L γ v x) (h : valArg res own t v = some (v', fr)) (hfr : ∀ r ∈ fr, r ∈ rows) : RV L γ v' x := by
  have key : ∀ {own : Bool} {t : Option Ty}, (match own, t with
    | true, _ => some (v, [])
    | false, some t => (toVal res 9 t v).bind fun x => some (.val t x, rowsIn 9 v)
    | false, none => none) = some (v', fr) → RV L γ v' x := by
    intro own t h
    split at h
    · cases h
      exact hv
    · simp only [Option.bind_eq_some_iff] at h
      obtain ⟨y, hy, he⟩ := h
      cases he
      obtain ⟨cs, rfl, hk⟩ := toVal_RV hR (d' := 9) (by omega) hfr hv hy
      exact .val hk
    · cases h
  cases hv with
  | undef => cases h; exact .undef
  | val hk => cases h; exact .val hk
  | ptr hk hp => cases h; exact .ptr hk hp
  | eptr hk hc => cases h; exact .eptr hk hc
  | rptr hk h0 hn hp => cases h; exact .rptr hk h0 hn hp
  | fn hk => cases h; exact .fn hk
  | tup hk => cases h
  | tail => cases h
  | nilS => exact key h
  | row hk => exact key h
  | strct hk => exact key h
theorem valAll_ok {L : Lk} {rows : List Nat} (hR : RowsOk L γ res (fun r => r ∈ rows)) : ∀ {ts : List (Option Ty)} {os : List Bool} {l l' : List SV} {fr : List Nat} {us : List Value}, RVs L γ l us → valAll res ts os l = some (l', fr) → (∀ r ∈ fr, r ∈ rows) → RVs L γ l' us
  | _, _, _, _, _, _, .nil, h, _ => by
    simp only [valAll] at h
    cases h
    exact .nil
  | ts, os, _, _, _, _, .cons hv k, h, hfr => by
    simp only [valAll, Option.bind_eq_some_iff] at h
    obtain ⟨⟨v', fr1⟩, h1, ⟨l', fr2⟩, h2, he⟩ := h
    cases he
    exact .cons (valArg_ok hR hv h1 fun r hr => hfr r (List.mem_append_left _ hr)) (valAll_ok hR k h2 fun r hr => hfr r (List.mem_append_right _ hr))
theorem has_mem : ∀ {l : List Nat} {n : Nat}, hasN l n = true → n ∈ l := by
  intro l n h
  unfold hasN at h
  split at h
  · rename_i j hj
    obtain ⟨_, h'⟩ := place_get hj
    exact List.mem_of_getElem? h'
  · cases h
theorem meets_not {l m : List Nat} (h : meets l m = false) : ∀ r, r ∈ l → r ∈ m → False := by
  intro r h1 h2
  unfold meets at h
  rw [List.any_eq_false] at h
  have := h r h1
  cases hh : hasN m r with
  | true => exact this hh
  | false => exact not_has hh h2
theorem onceB_ok : ∀ {l : List Nat}, onceB l = true → l.Nodup
  | [], _ => List.nodup_nil
  | r :: l, h => by
    simp only [onceB, Bool.and_eq_true, Bool.not_eq_true'] at h
    exact List.nodup_cons.2 ⟨not_has h.1, onceB_ok h.2⟩
theorem ret_ok {L : Lk} {l : List SV} {us : List Value} (h : RVs L γ l us) : RV L γ (retSV l) (retV us) := by
  cases h with
  | nil => exact .tup .nil
  | cons h k =>
    cases k with
    | nil => exact h
    | cons h' k' => exact .tup (.cons h (.cons h' k'))
/-! ### What stays of nothing -/
theorem RK_free {L L' : Lk} : ∀ {t : Ty} {x : t.den} {cs : List Value}, noSlice t = true → RK L t x cs → RK L' t x cs
  | .int k, x, cs, _, h => h
  | .bool, x, cs, _, h => h
  | .str, x, cs, _, h => h
  | .unit, x, cs, _, h => h
  | .pair a b, x, cs, hn, h => by
    simp only [noSlice, Bool.and_eq_true] at hn
    obtain ⟨c, d, rfl, h1, h2⟩ := h
    exact ⟨c, d, rfl, RK_free hn.1 h1, RK_free hn.2 h2⟩
  | .agg t, x, cs, hn, h => RK_free (t := t) hn h
  | .slice _ _, x, cs, hn, h => by cases hn
theorem clean_RT {L L' : Lk} {γ : Nat → Option G} : ∀ (s : Sh), cleanB s = true → (∀ (x : s.den) (n : Nat) (t : Ty) (cs : List Value), RT L γ t (mkSV s x n).1 cs → RT L' γ t (mkSV s x n).1 cs) ∧ (∀ (x : s.den) (n : Nat) (t : Ty) (cs : List Value), RTs L γ t (mkSV.go s x n).1 cs → RTs L' γ t (mkSV.go s x n).1 cs)
  | .val t0, hc => ⟨fun x n t cs h => by
      cases h with
      | val hk => exact .val (RK_free hc hk), fun x n t cs h => by cases h; exact .nil⟩
  | .row e t0 fr, hc => ⟨fun x n t cs h => by
      cases h with
      | row hk => exact .row hk, fun x n t cs h => by cases h; exact .nil⟩
  | .unit, hc => ⟨(fun x n t cs h => by cases h), fun x n t cs h => by cases h; exact .nil⟩
  | .strct s, hc => ⟨fun x n t cs h => by
      cases h with
      | strct hk => exact .strct ((clean_RT s hc).2 _ _ _ _ hk), fun x n t cs h => by cases h; exact .nil⟩
  | .ptr _, hc => ⟨(fun x n t cs h => by cases h), fun x n t cs h => by cases h; exact .nil⟩
  | .pair a b, hc => ⟨(fun x n t cs h => by cases h), fun x n t cs h => by
      simp only [cleanB, Bool.and_eq_true] at hc
      have h' : RTs L γ t ((mkSV a x.1 n).1 :: (mkSV.go b x.2 (mkSV a x.1 n).2.2).1) cs := h
      show RTs L' γ t ((mkSV a x.1 n).1 :: (mkSV.go b x.2 (mkSV a x.1 n).2.2).1) cs
      cases h' with
      | cons h1 h2 => exact .cons ((clean_RT a hc.1).1 _ _ _ _ h1) ((clean_RT b hc.2).2 _ _ _ _ h2)⟩
theorem clean_spread {L L' : Lk} {γ : Nat → Option G} {t t' : Ty} {x : t'.den} {cs : List Value} (hc : noSlice t' = true) (h : RT L γ t (spread (.val t' x)) cs) : RT L' γ t (spread (.val t' x)) cs := by
  have hf : ∀ (u : Ty) (y : u.den) (s : Ty) (cs : List Value), noSlice u = true → RTs L γ s (fieldsOf u y) cs → RTs L' γ s (fieldsOf u y) cs := by
    intro u
    induction u with
    | pair a b iha ihb =>
      intro y s cs hn h
      simp only [noSlice, Bool.and_eq_true] at hn
      have h' : RTs L γ s (.val a y.1 :: fieldsOf b y.2) cs := h
      show RTs L' γ s (.val a y.1 :: fieldsOf b y.2) cs
      cases h' with
      | cons h1 h2 =>
        refine .cons ?_ (ihb _ _ _ hn.2 h2)
        cases h1 with
        | val hk => exact .val (RK_free hn.1 hk)
    | _ =>
      intro y s cs hn h
      cases h
      exact .nil
  cases t' with
  | agg u =>
    have h' : RT L γ t (.strct (fieldsOf u x)) cs := h
    show RT L' γ t (.strct (fieldsOf u x)) cs
    cases h' with
    | strct hk => exact .strct (hf u x _ _ hc hk)
  | _ =>
    cases h with
    | val hk => exact .val (RK_free hc hk)
theorem clean_RV {L L' : Lk} {γ : Nat → Option G} {s : Sh} (hc : cleanB s = true) {x : s.den} {n : Nat} {u : Value} (h : RV L γ (mkSV s x n).1 u) : RV L' γ (mkSV s x n).1 u := by
  cases s with
  | val t0 =>
    have h' : RV L γ (.val t0 x) u := h
    cases h' with
    | val hk => exact .val (RK_free hc hk)
  | row e t0 fr =>
    have h' : RV L γ (.row n) u := h
    cases h' with
    | row hk => exact .row hk
  | unit => exact .undef
  | pair a b => exact .undef
  | ptr t =>
    have h' : RV L γ (.ptr n t []) u := h
    cases h' with
    | ptr hk hp => exact .ptr hk hp
  | strct s =>
    have h' : RV L γ (.strct (mkSV.go s x n).1) u := h
    cases h' with
    | strct hk => exact .strct ((clean_RT s hc).2 _ _ _ _ hk)
theorem clean_RVs {L L' : Lk} {γ : Nat → Option G} : ∀ {s : Sh}, cleanB s = true → ∀ {x : s.den} {n : Nat} {us : List Value}, RVs L γ (mkSV.go s x n).1 us → RVs L' γ (mkSV.go s x n).1 us
  | .val t0, hc, x, n, us, h => by cases h; exact .nil
  | .row e t0 fr, hc, x, n, us, h => by cases h; exact .nil
  | .unit, hc, x, n, us, h => by cases h; exact .nil
  | .strct s, hc, x, n, us, h => by cases h; exact .nil
  | .ptr _, hc, x, n, us, h => by cases h; exact .nil
  | .pair a b, hc, x, n, us, h => by
    simp only [cleanB, Bool.and_eq_true] at hc
    have h' : RVs L γ ((mkSV a x.1 n).1 :: (mkSV.go b x.2 (mkSV a x.1 n).2.2).1) us := h
    show RVs L' γ ((mkSV a x.1 n).1 :: (mkSV.go b x.2 (mkSV a x.1 n).2.2).1) us
    cases h' with
    | cons h1 h2 => exact .cons (clean_RV hc.1 h1) (clean_RVs hc.2 h2)
theorem clean_mem {L L' : Lk} {γ : Nat → Option G} : ∀ {s : Sh}, cleanB s = true → ∀ {x : s.den} {n : Nat} {v : SV}, v ∈ (mkSV.go s x n).1 → ∀ {t : Ty} {cs : List Value}, RT L γ t v cs → RT L' γ t v cs
  | .val t0, hc, x, n, v, hv, t, cs, h => by simp [mkSV.go] at hv
  | .row e t0 fr, hc, x, n, v, hv, t, cs, h => by simp [mkSV.go] at hv
  | .unit, hc, x, n, v, hv, t, cs, h => by simp [mkSV.go] at hv
  | .strct s, hc, x, n, v, hv, t, cs, h => by simp [mkSV.go] at hv
  | .ptr _, hc, x, n, v, hv, t, cs, h => by simp [mkSV.go] at hv
  | .pair a b, hc, x, n, v, hv, t, cs, h => by
    simp only [cleanB, Bool.and_eq_true] at hc
    have hv' : v ∈ (mkSV a x.1 n).1 :: (mkSV.go b x.2 (mkSV a x.1 n).2.2).1 := hv
    rcases List.mem_cons.1 hv' with rfl | hv'
    · exact (clean_RT a hc.1).1 _ _ _ _ h
    · exact clean_mem hc.2 hv' h
/-- What a clean shape makes. -/
def CleanR (x : Option Res) : Prop := (∃ (e : TypeId) (t : Ty) (xs : List t.den), x = some (.row e t xs false) ∧ noSlice t = true) ∨ ∃ (t : Ty) (y : t.den), x = some (.box t (spread (.val t y))) ∧ noSlice t = true
theorem clean_rows : ∀ (s : Sh), cleanB s = true → (∀ (x : s.den) (n : Nat), ∀ p ∈ (mkSV s x n).2.1, CleanR p.2) ∧ (∀ (x : s.den) (n : Nat), ∀ p ∈ (mkSV.go s x n).2.1, CleanR p.2)
  | .val t, hc => ⟨fun x n p hp => by simp [mkSV] at hp, fun x n p hp => by simp [mkSV.go] at hp⟩
  | .row e t fr, hc => ⟨fun x n p hp => by
      simp only [cleanB, Bool.and_eq_true, Bool.not_eq_true'] at hc
      obtain ⟨h1, rfl⟩ := hc
      simp only [mkSV, List.mem_singleton] at hp
      subst hp
      exact .inl ⟨e, t, x, rfl, h1⟩, fun x n p hp => by simp [mkSV.go] at hp⟩
  | .unit, hc => ⟨fun x n p hp => by simp [mkSV] at hp, fun x n p hp => by simp [mkSV.go] at hp⟩
  | .pair a b, hc => ⟨fun x n p hp => by simp [mkSV] at hp, fun x n p hp => by
      simp only [cleanB, Bool.and_eq_true] at hc
      simp only [mkSV.go, List.mem_append] at hp
      rcases hp with hp | hp
      · exact (clean_rows a hc.1).1 _ _ p hp
      · exact (clean_rows b hc.2).2 _ _ p hp⟩
  | .strct s, hc => ⟨fun x n p hp => (clean_rows s hc).2 x n p hp, fun x n p hp => by simp [mkSV.go] at hp⟩
  | .ptr t, hc => ⟨fun x n p hp => by
      simp only [mkSV, List.mem_singleton] at hp
      subst hp
      exact .inr ⟨t, x, rfl, hc⟩, fun x n p hp => by simp [mkSV.go] at hp⟩
theorem newG_in : ∀ {u : Up} {get : Nat → Option Res} {m : Nat} {y : Res}, updG get u m = some y → (m, some y) ∈ u ∨ get m = some y
  | [], get, m, y, h => .inr h
  | (k, x) :: u, get, m, y, h => by
    rcases newG_in (u := u) (show updG (fun s => if s = k then x else get s) u m = some y from h) with h2 | h2
    · exact .inl (List.mem_cons_of_mem _ h2)
    · by_cases hk : m = k
      · rw [if_pos hk] at h2
        subst hk
        rw [h2]
        exact .inl (by simp)
      · rw [if_neg hk] at h2
        exact .inr h2
theorem backs_in {rb : Bool} : ∀ {tab : Tab} {bs : List SV} {ts : List (Option Ty)} {ub : List (Option Res)}, backs rb tab bs ts = some ub → ∀ (j : Nat) (t : Ty) (c : SV), ub[j]? = some (some (.box t c)) → c ∈ bs
  | [], bs, ts, ub, h, j, t, c, hj => by
    have := (backs_ok h).1
    rw [List.eq_nil_of_length_eq_zero this] at hj
    simp at hj
  | (k, .box t0 c0) :: l, bs, ts, ub, h, j, t, c, hj => by
    unfold backs at h
    split at h
    · split at h
      · simp only [Option.bind_eq_some_iff, Option.some.injEq] at h
        obtain ⟨u', h1, rfl⟩ := h
        cases j with
        | zero =>
          simp only [List.getElem?_cons_zero, Option.some.injEq, Res.box.injEq] at hj
          rw [← hj.2]
          simp
        | succ j => exact List.mem_cons_of_mem _ (backs_in h1 j t c (by simpa using hj))
      · cases h
    · cases h
  | (k, .row e t0 xs fr) :: l, bs, ts, ub, h, j, t, c, hj => by
    unfold backs at h
    cases rb with
    | true =>
      simp only at h
      split at h
      · simp only [Option.bind_eq_some_iff, Option.some.injEq] at h
        obtain ⟨u', h1, rfl⟩ := h
        cases j with
        | zero => simp at hj
        | succ j => exact List.mem_cons_of_mem _ (backs_in h1 j t c (by simpa using hj))
      · cases h
    | false =>
      simp only [Option.bind_eq_some_iff, Option.some.injEq] at h
      obtain ⟨u', h1, rfl⟩ := h
      cases j with
      | zero => simp at hj
      | succ j => exact backs_in h1 j t c (by simpa using hj)
  | (k, .old e t0 xs) :: l, bs, ts, ub, h, j, t, c, hj => by
    unfold backs at h
    simp only [Option.bind_eq_some_iff, Option.some.injEq] at h
    obtain ⟨u', h1, rfl⟩ := h
    cases j with
    | zero => simp at hj
    | succ j => exact backs_in h1 j t c (by simpa using hj)
theorem Back.thaw {X : Nat → Prop} {Pr1 Pr' : Nat → Nat → Prop} {w' : World} {N M : Nat} {sv : List SV} {ub : List (Option Res)} {un : Up} {vals : List Value} {γr : Nat → Option G} (hP : ∀ b o, Pr b o → Pr1 b o)
    (hv : ∀ {L L' : Lk}, RVs L γr sv vals → RVs L' γr sv vals) (hbx : ∀ (j : Nat) (t : Ty) (c : SV), ub[j]? = some (some (.box t c)) → ∀ {L L' : Lk} {cs : List Value}, RT L γr t c cs → RT L' γr t c cs)
    (hrow : ∀ r x, newG un r = some x → CleanR (some x))
    (hB : Back w X γ Pr1 N M sv ub un vals γr Pr' w') : Back w X γ Pr N M sv ub un vals γr (fun b o => Pr' b o ∧ (Pr b o ∨ ¬ Pr1 b o)) w' := by
  refine ⟨hv hB.vals, hB.lim, ?_, ?_, hB.apart, hB.beside, fun j t c b h1 h2 o ho => hB.boxLoose j t c b h1 h2 o ho.1, fun r x b h1 h2 o ho => hB.rowLoose r x b h1 h2 o ho.1, hB.where_, hB.frame, hB.size, hB.os, hB.tape, hB.output, fun b o h => hB.prIn b o h.1, ?_, ?_⟩
  · intro j t c hj
    obtain ⟨b, arr, T, h1, h2, h3⟩ := hB.box j t c hj
    exact ⟨b, arr, T, h1, h2, hbx j t c hj h3⟩
  · intro r x h
    obtain ⟨h1, h2, h3⟩ := hB.row r x h
    rcases hrow r x h with ⟨e, t, xs, he, hn⟩ | ⟨t, y, he, hn⟩
    · cases he
      obtain ⟨v, css, h4, h5, h6, h7⟩ := h3
      exact ⟨h1, h2, v, css, h4, ⟨h5.1, fun i hi hi' => RK_free hn (h5.2 i hi hi')⟩, h6, fun h => by cases h⟩
    · cases he
      obtain ⟨b, arr, T, h4, h5, h6⟩ := h3
      exact ⟨h1, h2, b, arr, T, h4, h5, clean_spread hn h6⟩
  · rintro b hb hx o ⟨h1, h2 | h2⟩
    · exact h2
    · exact absurd (hB.prOld b hb hx o h1) h2
  · intro b o v h
    have := hB.lean b o v ⟨hP b o h.1, h.2⟩
    exact ⟨⟨this.1, .inl h.1⟩, this.2⟩
theorem callKey_ok (hS : Sound P E call) (hE : EnvOk P E) (hI : Inv w0 X Pr0 sl get γ Pr a w) (hk : ∀ r x, getR res r = some x → get r = some x) (hfr : ∀ r, r0 ≤ r → r < r0 + 64 → γ r = none) {g key : Nat} {args : List SV} {us : List Value} (hv : RVs (Ln Pr w) γ args us)
    (hc : callKey E call g key args res r0 ans = some (v, u)) (ho : ∀ fn, P.funcs[g]? = some fn → (fn.name == "runtime.NumGoroutine") = false → fn.body.isSome = true → (execOp a.eval o).run P w = .ok (.enter g us.toArray) w) : Done P w0 X Pr0 sl get γ Pr a w r0 o v u := by
  unfold callKey at hc
  split at hc
  · cases hc
  · rename_i I hgI
    split at hc
    · cases hc
    rename_i hIg0
    have hIg := Nat.eq_of_beq_eq_true hIg0
    split at hc
    · cases hc
    · rename_i args' fr hval
      dsimp only at hc
      split at hc
      · rename_i hlen hle hmeet
        simp only [Option.bind_eq_some_iff] at hc
        obtain ⟨z, hz, hc⟩ := hc
        split at hc
        · rename_i ub hub hn'
          cases hc
          have hlen := Nat.eq_of_beq_eq_true hlen
          have hle := Nat.le_of_ble_eq_true hle
          rw [Bool.and_eq_true] at hn'
          obtain ⟨hn', honce⟩ := hn'
          have honce := onceB_ok honce
          have hn' := Nat.le_of_ble_eq_true hn'
          obtain ⟨hfn, hname, hbody⟩ := hE.fns key I hgI
          rw [hIg] at hfn
          obtain ⟨Pr1, hI1, hP1, hR, hsame, _⟩ := freeze_read hI hk fr
          have hL1 : ∀ b o v, Ln Pr w b o v → Ln Pr1 w b o v := fun b o v h => ⟨hP1 _ _ h.1, h.2⟩
          have hargs := valAll_ok hR (RVs_mono hL1 (fun _ _ h => h) hv) hval (fun r h => h)
          -- the callee's numbers
          have hf : ∀ r j, place r (reach res args') 0 = some j → ((reach res args')[j]?).bind γ = γ r := by
            intro r j h
            obtain ⟨_, h⟩ := place_get h
            rw [Nat.sub_zero] at h
            rw [h]
            rfl
          have hargs2 := renames_ok (γ' := fun j => ((reach res args')[j]?).bind γ) (fun h => rename_ok hf 9 h) hargs
          have hsrc : ∀ j x', getR (renTab res (fun r => place r (reach res args') 0) (reach res args') 0) j = some x' → ∃ r x, place r (reach res args') 0 = some j ∧ getR res r = some x ∧ updG get (freeze res fr) r = some x ∧ RenRes (fun r => place r (reach res args') 0) x x' ∧ r ∈ reach res args' := by
            intro j x' h
            obtain ⟨r, x, h1, h2, h3, _, h5⟩ := renTab_ok h
            have hr : r ∈ reach res args' := List.mem_of_getElem? h5
            refine ⟨r, x, h1, h2, ?_, h3, hr⟩
            rw [hsame r (fun h => meets_not hmeet r h hr)]
            exact hk r x h2
          have henter := hI1.enter (tab := renTab res (fun r => place r (reach res args') 0) (reach res args') 0) (f := fun r => place r (reach res args') 0) hargs2 hf (fun j g h => by
            rw [Option.bind_eq_some_iff] at h
            obtain ⟨r, _, h⟩ := h
            exact ⟨r, h⟩) (fun j x' h => by
            obtain ⟨r, x, h1, _, h3, h4, _⟩ := hsrc j x' h
            exact ⟨r, x, h1, h3, h4⟩)
          have hall := renTab_all hlen
          have hcanon : ∀ (k : Nat) (p : Nat × Res), (renTab res (fun r => place r (reach res args') 0) (reach res args') 0)[k]? = some p → p.1 = k := by
            intro k p hp
            have hkl : k < (reach res args').length := by
              rw [← hlen]
              exact (List.getElem?_eq_some_iff.1 hp).1
            obtain ⟨_, x, x', _, h2, _⟩ := hall k _ (List.getElem?_eq_getElem hkl)
            rw [hp] at h2
            cases h2
            omega
          have hcalls := hS I _ _ z key hgI hz hcanon w _ Pr1 us henter (fun r hr => by
            rw [List.getElem?_eq_none (by rw [← hlen]; exact hr)]
            rfl) r0 (by rw [hlen]; exact hle) _ _ _ _ _ _ ub rfl rfl hub
          intro next Q hnext
          unfold Oper.wp
          rw [ho I.fn hfn hbody hname, Oper.upon_enter, ← hIg]
          refine hcalls.mono ?_
          rintro e w' ⟨vals, γr, Pr', rfl, hB, hsame2⟩
          have hnd : ∀ j j' r : Nat, (reach res args')[j]? = some r → (reach res args')[j']? = some r → j = j' := by
            intro j j' r h h'
            have h1 := (hall j r h).1
            have h2 := (hall j' r h').1
            rw [h1] at h2
            have := Option.some.inj h2
            omega
          obtain ⟨hublen, hubbox⟩ := backs_ok hub
          have hF : ∃ PrA PrB, Inv w0 X Pr0 sl (updG get (match cleanB I.sh && cleanB I.bx with | true => [] | false => freeze res fr)) γ PrA a w ∧ Back w (Xof (renTab res (fun r => place r (reach res args') 0) (reach res args') 0) fun j => ((reach res args')[j]?).bind γ) (fun j => ((reach res args')[j]?).bind γ) PrA r0 (mkList I.bx z.2 (mkList I.sh z.1 r0).2.2).2.2 (mkList I.sh z.1 r0).1 ub ((mkList I.sh z.1 r0).2.1 ++ (mkList I.bx z.2 (mkList I.sh z.1 r0).2.2).2.1) vals γr PrB w' := by
            cases hcl : cleanB I.sh && cleanB I.bx with
            | false => exact ⟨Pr1, Pr', hI1, hB⟩
            | true =>
              simp only [Bool.and_eq_true] at hcl
              refine ⟨Pr, _, hI, hB.thaw hP1 (fun h => clean_RVs hcl.1 h) (fun j t c hj _ _ _ h => clean_mem hcl.2 (backs_in hub j t c hj) h) (fun r x h => ?_)⟩
              rcases newG_in h with h | h
              · rcases List.mem_append.1 h with h | h
                · exact (clean_rows I.sh hcl.1).2 _ _ _ h
                · exact (clean_rows I.bx hcl.2).2 _ _ _ h
              · cases h
          obtain ⟨PrA, PrB, hIA, hBA⟩ := hF
          have hsameA : ∀ r, r ∉ fr → updG get (match cleanB I.sh && cleanB I.bx with | true => [] | false => freeze res fr) r = get r := fun r hr => by
            cases cleanB I.sh && cleanB I.bx with
            | true => rfl
            | false => exact hsame r hr
          have hsrcA : ∀ j x', getR (renTab res (fun r => place r (reach res args') 0) (reach res args') 0) j = some x' → ∃ r x, place r (reach res args') 0 = some j ∧ getR res r = some x ∧ updG get (match cleanB I.sh && cleanB I.bx with | true => [] | false => freeze res fr) r = some x ∧ RenRes (fun r => place r (reach res args') 0) x x' ∧ r ∈ reach res args' := by
            intro j x' h
            obtain ⟨r, x, h1, h2, _, h4, h5⟩ := hsrc j x' h
            exact ⟨r, x, h1, h2, by rw [hsameA r (fun h => meets_not hmeet r h h5)]; exact hk r x h2, h4, h5⟩
          have hback := hIA.back (N := r0) (ub := ub) hnd (by rw [hublen, hlen]) (fun b => by
            constructor
            · rintro ⟨j, x', h1, h2⟩
              obtain ⟨r, x, h3, h4, h5, h6, h7⟩ := hsrcA j x' h1
              have := h6.ok (r := r) (j := j) hf h3 (hIA.res r x h5)
              exact ⟨r, x, h7, h5, by rw [← this.2.1]; exact h2⟩
            · rintro ⟨r, x, h1, h2, h3⟩
              obtain ⟨j, hj, he⟩ := List.getElem_of_mem h1
              obtain ⟨h4, y, y', h5, h6, h7⟩ := hall j r (by rw [List.getElem?_eq_getElem hj, he])
              have hget := getR_canon (k := 0) (fun j p hp => by rw [Nat.zero_add]; exact hcanon j p hp) h6
              have hyx : updG get (match cleanB I.sh && cleanB I.bx with | true => [] | false => freeze res fr) r = some y := by
                rw [hsameA r (fun h => meets_not hmeet r h h1)]
                exact hk r y h5
              rw [h2] at hyx
              cases hyx
              have := h7.ok (r := r) (j := 0 + j) hf h4 (hIA.res r x h2)
              exact ⟨0 + j, y', hget, by rw [this.2.1]; exact h3⟩) (fun j y hy => by
            obtain ⟨t, c, c0, k, h1, h2⟩ := hubbox j y hy
            have hjl : j < (reach res args').length := by
              rw [← hlen]
              exact (List.getElem?_eq_some_iff.1 h2).1
            obtain ⟨_, x, x', h3, h4, h5⟩ := hall j _ (List.getElem?_eq_getElem hjl)
            rw [h2] at h4
            cases h4
            rcases h5 with ⟨t', c1, c1', hx, hx', _⟩ | ⟨hx, hne⟩
            · cases hx'
              refine ⟨t, c, _, c1, h1, List.getElem?_eq_getElem hjl, ?_⟩
              rw [hsameA _ (fun h => meets_not hmeet _ h (List.getElem_mem hjl)), hk _ _ h3, hx]
            · subst hx
              exact absurd rfl (hne t c0)) (fun r h1 h2 => hfr r h1 (Nat.lt_of_lt_of_le h2 hn')) (fun p hp => by
            rcases List.mem_append.1 hp with hp | hp
            · exact (mkSV_some I.sh).2 _ _ p hp
            · exact (mkSV_some I.bx).2 _ _ p hp) hBA
          obtain ⟨hI2, hvals⟩ := hback
          refine hnext (retV vals) _ PrB w' (ret_ok hvals) ?_ ?_
          · rw [updG_append, updG_append]
            refine Inv.moves _ hI2 honce fun p hp x r hx hr => ?_
            have hx' : newG ((mkList I.sh z.1 r0).2.1 ++ (mkList I.bx z.2 (mkList I.sh z.1 r0).2.2).2.1) p.1 = some x := (getU_upd (g := fun _ => none) (r := p.1)).symm.trans hx
            obtain ⟨hm1, hm2, _⟩ := hB.row p.1 x hx'
            have hub1 : ub[p.2]? = some none := by
              obtain ⟨j, q, h3, h4, h5⟩ := comes_mem hub p hp
              have := hcanon j _ h3
              rw [← h4, this]
              exact h5
            have hrin : r ∈ reach res args' := List.mem_of_getElem? hr
            have hγr : γ r ≠ none := by
              obtain ⟨_, y, y', h5, _⟩ := hall p.2 r hr
              obtain ⟨g, hg⟩ := (hI.res r y (hk r y h5)).γsome
              rw [hg]
              exact fun h => by cases h
            have hrlow : ¬ (r0 ≤ r ∧ r < (mkList I.bx z.2 (mkList I.sh z.1 r0).2.2).2.2) := fun h => hγr (hfr r h.1 (Nat.lt_of_lt_of_le h.2 hn'))
            have hun2 : ∀ p ∈ (mkList I.sh z.1 r0).2.1 ++ (mkList I.bx z.2 (mkList I.sh z.1 r0).2.2).2.1, p.2.isSome = true := fun p hp => by
              rcases List.mem_append.1 hp with hp | hp
              · exact (mkSV_some I.sh).2 _ _ p hp
              · exact (mkSV_some I.bx).2 _ _ p hp
            refine ⟨?_, ?_, ?_⟩
            · rw [updG_append, updG_or hun2, hx']
            · rw [updG_append, updG_or hun2]
              have : newG ((mkList I.sh z.1 r0).2.1 ++ (mkList I.bx z.2 (mkList I.sh z.1 r0).2.2).2.1) r = none := by
                cases hh : newG ((mkList I.sh z.1 r0).2.1 ++ (mkList I.bx z.2 (mkList I.sh z.1 r0).2.2).2.1) r with
                | none => rfl
                | some y =>
                  have := hB.row r y hh
                  exact absurd ⟨this.1, this.2.1⟩ hrlow
              rw [this]
              exact (updG_zip hnd).1 p.2 r none hr hub1
            · have e1 : (if r0 ≤ p.1 ∧ p.1 < (mkList I.bx z.2 (mkList I.sh z.1 r0).2.2).2.2 then γr p.1 else γ p.1) = γr p.1 := if_pos ⟨hm1, hm2⟩
              have e2 : (if r0 ≤ r ∧ r < (mkList I.bx z.2 (mkList I.sh z.1 r0).2.2).2.2 then γr r else γ r) = γ r := if_neg hrlow
              refine e2.trans (Eq.trans ?_ e1.symm)
              rw [hsame2 p hp, hr]
              rfl
          · intro r hr
            refine if_neg (fun h => hr ⟨h.1, Nat.lt_of_lt_of_le h.2 hn'⟩)
        · cases hc
      · cases hc
theorem callFn_ok (hS : Sound P E call) (hE : EnvOk P E) (hI : Inv w0 X Pr0 sl get γ Pr a w) (hk : ∀ r x, getR res r = some x → get r = some x) (hfr : ∀ r, r0 ≤ r → r < r0 + 64 → γ r = none) {g : Nat} {args : List SV} {us : List Value} (hv : RVs (Ln Pr w) γ args us)
    (hc : callFn E call g args res r0 ans = some (v, u)) (ho : ∀ fn, P.funcs[g]? = some fn → (fn.name == "runtime.NumGoroutine") = false → fn.body.isSome = true → (execOp a.eval o).run P w = .ok (.enter g us.toArray) w) : Done P w0 X Pr0 sl get γ Pr a w r0 o v u := by
  unfold callFn at hc
  split at hc
  · exact callKey_ok hS hE hI hk hfr hv hc ho
  · rw [Option.bind_eq_some_iff] at hc
    obtain ⟨b, _, hc⟩ := hc
    split at hc <;> exact callKey_ok hS hE hI hk hfr hv hc ho
end
end Go.Proofs.Ytcfnhfbaakflgaa.Abs
