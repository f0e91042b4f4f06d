/- Calls that are read can be leaned on. -/
import Derived.Test.YtcfnhfbaakflgaaAbsFin
set_option linter.unusedVariables false
set_option linter.unusedSimpArgs false
set_option linter.unusedSectionVars false
namespace Go.Proofs.Ytcfnhfbaakflgaa.Abs
open Go Go.RowKit

section
variable {L : Lk} {γ γr : Nat → Option G} {res : Tab} {fr : List Nat}
theorem top_ne {n0 : Nat} {s : Sh} {v : SV} {x : s.den} (h : ofTop n0 res s v = some x) : v ≠ .undef := by
  rintro rfl
  cases s <;> first | (cases h; done) | skip
theorem tops_ne {n0 : Nat} : ∀ {s : Sh} {l : List SV} {x : s.den}, ofTops n0 res s l = some x → ∀ v ∈ l, v ≠ .undef
  | .val t, l, x, h => by cases l <;> cases h
  | .row e t b, l, x, h => by cases l <;> cases h
  | .strct s, l, x, h => by cases l <;> cases h
  | .ptr t, l, x, h => by cases l <;> cases h
  | .unit, l, x, h => by
    have := ofTops_unit h
    subst this
    intro v hv
    simp at hv
  | .pair a b, l, x, h => by
    obtain ⟨v, l', rfl, h1, h2⟩ := ofTops_pair h
    intro u hu
    rcases List.mem_cons.1 hu with rfl | hu
    · exact top_ne h1
    · exact tops_ne h2 u hu
theorem ofSV_ne {s : Sh} {v : SV} {x : s.den} (h : ofSV res s v = some x) : v ≠ .undef := by
  rintro rfl
  cases s <;> first | (cases h; done) | skip
theorem ofSV_nes : ∀ {s : Sh} {l : List SV} {x : s.den}, ofSV.go res s l = some x → ∀ v ∈ l, v ≠ .undef
  | .val t, l, x, h => by cases l <;> cases h
  | .row e t b, l, x, h => by cases l <;> cases h
  | .strct s, l, x, h => by cases l <;> cases h
  | .ptr t, l, x, h => by cases l <;> cases h
  | .unit, l, x, h => by
    have := ofSV_unit h
    subst this
    intro v hv
    simp at hv
  | .pair a b, l, x, h => by
    obtain ⟨v, l', rfl, h1, h2⟩ := ofSV_pair h
    intro u hu
    rcases List.mem_cons.1 hu with rfl | hu
    · exact ofSV_ne h1
    · exact ofSV_nes h2 u hu
theorem out_rows : ∀ (s : Sh), (∀ (v : SV) (x : s.den), ofSV res s v = some x → ∀ r ∈ rowsOut1 s v, ∃ (e : TypeId) (t : Ty) (xs : List t.den) (b : Bool), getR res r = some (.row e t xs b)) ∧
    (∀ (l : List SV) (x : s.den), ofSV.go res s l = some x → ∀ r ∈ rowsOut1.go s l, ∃ (e : TypeId) (t : Ty) (xs : List t.den) (b : Bool), getR res r = some (.row e t xs b))
  | .val t => ⟨fun v x h r hr => by cases v <;> simp [rowsOut1] at hr, fun l x h => by cases l <;> cases h⟩
  | .row e t b => ⟨fun v x h r hr => by
      obtain ⟨r', rfl, hg⟩ := ofSV_row h
      have : r = r' := by simpa [rowsOut1] using hr
      subst this
      exact ⟨e, t, x, b, hg⟩, fun l x h => by cases l <;> cases h⟩
  | .unit => ⟨fun v x h => (by cases v <;> cases h), fun l x h r hr => by
      have := ofSV_unit h
      subst this
      simp [rowsOut1.go] at hr⟩
  | .ptr t => ⟨fun v x h => (by cases v <;> cases h), fun l x h => by cases l <;> cases h⟩
  | .strct s => ⟨fun v x h => by
      obtain ⟨l, rfl, h'⟩ := ofSV_strct h
      exact (out_rows s).2 l x h', fun l x h => by cases l <;> cases h⟩
  | .pair a b => ⟨fun v x h => (by cases v <;> cases h), fun l x h r hr => by
      obtain ⟨v, l', rfl, h1, h2⟩ := ofSV_pair h
      have hr' : r ∈ rowsOut1 a v ++ rowsOut1.go b l' := hr
      rcases List.mem_append.1 hr' with hr | hr
      · exact (out_rows a).1 v x.1 h1 r hr
      · exact (out_rows b).2 l' x.2 h2 r hr⟩
theorem top_out {n0 : Nat} : ∀ (s : Sh) (v : SV) (x : s.den), ofTop n0 res s v = some x → ∀ r ∈ rowsOut1 s v, ∃ y, OutOk n0 res r y := by
  intro s v x h r hr
  have old : ofSV res s v = some x → ∃ y, OutOk n0 res r y := fun h => by
    obtain ⟨e, t, xs, b, hg⟩ := (out_rows s).1 v x h r hr
    exact ⟨_, .inl ⟨e, t, xs, b, rfl, hg⟩⟩
  cases s with
  | val t => exact old h
  | row e t b => exact old h
  | strct s => exact old h
  | pair a b => exact old h
  | unit => cases v <;> simp [rowsOut1] at hr
  | ptr t =>
    obtain ⟨r', c, rfl, h1, h2, h3⟩ := ofTop_ptr h
    have : r = r' := by simpa [rowsOut1] using hr
    subst this
    exact ⟨_, .inr ⟨t, c, x, rfl, h1, h2, h3⟩⟩
theorem tops_out {n0 : Nat} : ∀ (s : Sh) (l : List SV) (x : s.den), ofTops n0 res s l = some x → ∀ r ∈ rowsOut1.go s l, ∃ y, OutOk n0 res r y
  | .val t, l, x, h => by cases l <;> cases h
  | .row e t b, l, x, h => by cases l <;> cases h
  | .strct s, l, x, h => by cases l <;> cases h
  | .ptr t, l, x, h => by cases l <;> cases h
  | .unit, l, x, h => fun r hr => by
    have := ofTops_unit h
    subst this
    simp [rowsOut1.go] at hr
  | .pair a b, l, x, h => fun r hr => by
    obtain ⟨v, l', rfl, h1, h2⟩ := ofTops_pair h
    have hr' : r ∈ rowsOut1 a v ++ rowsOut1.go b l' := hr
    rcases List.mem_append.1 hr' with hr | hr
    · exact top_out a v x.1 h1 r hr
    · exact tops_out b l' x.2 h2 r hr
theorem box_ok {rb : Bool} (hR : RowsOk L γ res (fun r => r ∈ fr)) (hT : RowTy γ res) : ∀ (tab : Tab) (s : Sh) (cs : List SV) (y : s.den) (n : Nat) (ub : List (Option Res)), boxes rb res tab = some cs → ofSV.go res s cs = some y → backs rb tab (mkSV.go s y n).1 (shTys s) = some ub →
    (∀ r ∈ rowsVal1.go s cs, r ∈ fr) → Numb γ γr (rowsOut1.go s cs) n → ∀ (j : Nat) (t : Ty) (c' : SV), ub[j]? = some (some (.box t c')) → ∃ (key : Nat) (c c0 : SV), tab[j]? = some (key, .box t c0) ∧ getR res key = some (.box t c) ∧ ∀ cells, RT L γ t c cells → RT L γr t c' cells
  | [], s, cs, y, n, ub, _, _, hb, _, _, j, t, c', hj => by
    have := (backs_ok hb).1
    rw [List.eq_nil_of_length_eq_zero this] at hj
    simp at hj
  | (k, .row e t0 xs fr0) :: l, s, cs, y, n, ub, hbx, ho, hb, hf, hn, j, t, c', hj => by
    cases rb with
    | false =>
      unfold backs at hb
      simp only [Option.bind_eq_some_iff, Option.some.injEq] at hb
      obtain ⟨u', h1, rfl⟩ := hb
      have hbx' : boxes false res l = some cs := hbx
      cases j with
      | zero => simp at hj
      | succ j =>
        obtain ⟨key, c, c0, h2, h3, h4⟩ := box_ok hR hT l s cs y n u' hbx' ho h1 hf hn j t c' (by simpa using hj)
        exact ⟨key, c, c0, by simpa using h2, h3, h4⟩
    | true =>
      unfold boxes at hbx
      simp only [Option.bind_eq_some_iff, Option.some.injEq] at hbx
      obtain ⟨cs', h1, rfl⟩ := hbx
      cases s with
      | val _ => cases ho
      | row _ _ _ => cases ho
      | strct _ => cases ho
      | ptr _ => cases ho
      | unit => cases ho
      | pair a b =>
        obtain ⟨v, l', he, h2, h3⟩ := ofSV_pair ho
        cases he
        have hro : rowsOut1.go (.pair a b) (.row k :: cs') = rowsOut1 a (.row k) ++ rowsOut1.go b cs' := rfl
        rw [hro] at hn
        have hc := (give_RT.give_count a).1 (.row k) y.1 n h2
        have hmk : (mkSV.go (.pair a b) y n).1 = (mkSV a y.1 n).1 :: (mkSV.go b y.2 (mkSV a y.1 n).2.2).1 := rfl
        rw [hmk] at hb
        have hst : shTys (.pair a b) = shTy a :: shTys b := rfl
        rw [hst] at hb
        unfold backs at hb
        simp only at hb
        split at hb
        · rename_i m1 vs1 s1 ts1 hv1 hs1
          obtain ⟨_, rfl⟩ := List.cons.inj hv1
          obtain ⟨_, rfl⟩ := List.cons.inj hs1
          simp only [Option.bind_eq_some_iff, Option.some.injEq] at hb
          obtain ⟨u', h4, rfl⟩ := hb
          cases j with
          | zero => simp at hj
          | succ j =>
            obtain ⟨key, c1, c2, h5, h6, h7⟩ := box_ok hR hT l b cs' y.2 (mkSV a y.1 n).2.2 u' h1 h3 h4 (fun r hr => hf r (List.mem_append_right _ hr)) (by rw [hc]; exact hn.right) j t c' (by simpa using hj)
            exact ⟨key, c1, c2, by simpa using h5, h6, h7⟩
        · cases hb
  | (k, .old e t0 xs) :: l, s, cs, y, n, ub, hbx, ho, hb, hf, hn, j, t, c', hj => by
    unfold backs at hb
    simp only [Option.bind_eq_some_iff] at hb
    obtain ⟨u', h1, he⟩ := hb
    cases he
    cases j with
    | zero => simp at hj
    | succ j =>
      obtain ⟨key, c, c0, h2, h3, h4⟩ := box_ok hR hT l s cs y n u' hbx ho h1 hf hn j t c' (by simpa using hj)
      exact ⟨key, c, c0, by simpa using h2, h3, h4⟩
  | (k, .box t0 c0) :: l, s, cs, y, n, ub, hbx, ho, hb, hf, hn, j, t, c', hj => by
    unfold boxes at hbx
    split at hbx
    · rename_i t' c hg
      split at hbx
      · rename_i htt
        subst htt
        rw [Option.bind_eq_some_iff] at hbx
        obtain ⟨cs', h1, he⟩ := hbx
        cases he
        cases s with
        | val _ => cases ho
        | row _ _ _ => cases ho
        | strct _ => cases ho
        | ptr _ => cases ho
        | unit => cases ho
        | pair a b =>
          obtain ⟨v, l', he, h2, h3⟩ := ofSV_pair ho
          cases he
          have hro : rowsOut1.go (.pair a b) (c :: cs') = rowsOut1 a c ++ rowsOut1.go b cs' := rfl
          rw [hro] at hn
          have hc := (give_RT.give_count a).1 c y.1 n h2
          have hmk : (mkSV.go (.pair a b) y n).1 = (mkSV a y.1 n).1 :: (mkSV.go b y.2 (mkSV a y.1 n).2.2).1 := rfl
          rw [hmk] at hb
          have hst : shTys (.pair a b) = shTy a :: shTys b := rfl
          rw [hst] at hb
          unfold backs at hb
          split at hb
          · rename_i v1 vs1 s1 ts1 hv1 hs1
            cases hv1
            obtain ⟨hs2, rfl⟩ := List.cons.inj hs1
            split at hb
            · rename_i hs1t
              rw [Option.bind_eq_some_iff] at hb
              obtain ⟨u', h4, he⟩ := hb
              cases he
              cases j with
              | zero =>
                simp only [List.getElem?_cons_zero, Option.some.injEq, Res.box.injEq] at hj
                obtain ⟨rfl, rfl⟩ := hj
                refine ⟨k, c, c0, rfl, hg, fun cells hcells => ?_⟩
                obtain ⟨t2, h5, h6⟩ := (give_RT hR hT a).1 _ c cells y.1 n hcells h2 (fun r hr => hf r (List.mem_append_left _ hr)) hn.left
                rw [hs2] at h5
                cases h5
                rw [← hs1t]
                exact h6
              | succ j =>
                obtain ⟨key, c1, c2, h5, h6, h7⟩ := box_ok hR hT l b cs' y.2 (mkSV a y.1 n).2.2 u' h1 h3 h4 (fun r hr => hf r (List.mem_append_right _ hr)) (by rw [hc]; exact hn.right) j t c' (by simpa using hj)
                exact ⟨key, c1, c2, by simpa using h5, h6, h7⟩
            · cases hb
          · cases hb
      · cases hbx
    · cases hbx
theorem come_ok {rb : Bool} : ∀ (tab : Tab) (s : Sh) (cs : List SV) (y : s.den) (n : Nat), boxes rb res tab = some cs → ofSV.go res s cs = some y → Numb γ γr (rowsOut1.go s cs) n → ∀ p ∈ comes rb tab (mkSV.go s y n).1, γr p.1 = γ p.2
  | [], s, cs, y, n, _, _, _, p, hp => by
    generalize (mkSV.go s y n).1 = bs at hp
    cases bs <;> simp [comes] at hp
  | (k, .box t0 c0) :: l, s, cs, y, n, hbx, ho, hn, p, hp => by
    unfold boxes at hbx
    split at hbx
    · split at hbx
      · simp only [Option.bind_eq_some_iff, Option.some.injEq] at hbx
        obtain ⟨cs', h1, rfl⟩ := hbx
        cases s with
        | val _ => cases ho
        | row _ _ _ => cases ho
        | strct _ => cases ho
        | ptr _ => cases ho
        | unit => cases ho
        | pair a b =>
          obtain ⟨v, l', he, h2, h3⟩ := ofSV_pair ho
          cases he
          have hro : ∀ c, rowsOut1.go (.pair a b) (c :: cs') = rowsOut1 a c ++ rowsOut1.go b cs' := fun _ => rfl
          rw [hro] at hn
          have hc := (give_RT.give_count a).1 _ y.1 n h2
          have hp' : p ∈ comes rb l (mkSV.go b y.2 (mkSV a y.1 n).2.2).1 := hp
          exact come_ok l b cs' y.2 _ h1 h3 (by rw [hc]; exact hn.right) p hp'
      · cases hbx
    · cases hbx
  | (k, .old e t0 xs) :: l, s, cs, y, n, hbx, ho, hn, p, hp => come_ok l s cs y n hbx ho hn p (by unfold comes at hp; exact hp)
  | (k, .row e t0 xs fr0) :: l, s, cs, y, n, hbx, ho, hn, p, hp => by
    cases rb with
    | false =>
      have hbx' : boxes false res l = some cs := hbx
      exact come_ok l s cs y n hbx' ho hn p (by unfold comes at hp; exact hp)
    | true =>
      unfold boxes at hbx
      simp only [Option.bind_eq_some_iff, Option.some.injEq] at hbx
      obtain ⟨cs', h1, rfl⟩ := hbx
      cases s with
      | val _ => cases ho
      | row _ _ _ => cases ho
      | strct _ => cases ho
      | ptr _ => cases ho
      | unit => cases ho
      | pair a b =>
        obtain ⟨v, l', he, h2, h3⟩ := ofSV_pair ho
        cases he
        have hro : rowsOut1.go (.pair a b) (.row k :: cs') = rowsOut1 a (.row k) ++ rowsOut1.go b cs' := rfl
        rw [hro] at hn
        have hc := (give_RT.give_count a).1 (.row k) y.1 n h2
        have hmk : (mkSV.go (.pair a b) y n).1 = (mkSV a y.1 n).1 :: (mkSV.go b y.2 (mkSV a y.1 n).2.2).1 := rfl
        rw [hmk] at hp
        unfold comes at hp
        simp only at hp
        split at hp
        · rename_i m vs hv
          obtain ⟨hv1, rfl⟩ := List.cons.inj hv
          rcases List.mem_cons.1 hp with rfl | hp
          · cases a with
            | val t => cases hv1
            | row e' t' fr' =>
              have hv2 : SV.row n = .row m := hv1
              cases hv2
              have := hn.left 0 k rfl
              simpa using this
            | unit => cases h2
            | pair _ _ => cases h2
            | strct _ => cases h2
            | ptr _ => cases h2
          · exact come_ok l b cs' y.2 _ h1 h3 (by rw [hc]; exact hn.right) p hp
        · simp at hp
theorem newG_mem : ∀ {u : Up} {get : Nat → Option Res} {m : Nat} {y : Res}, updG get u m = some y → (m, some y) ∈ u ∨ get m = some y
  | [], get, m, y, h => .inr h
  | (k, x) :: u, get, m, y, h => by
    rcases newG_mem (u := u) (show updG (fun s => if s = k then x else get s) u m = some y from h) with h2 | h2
    · exact .inl (List.mem_cons_of_mem _ h2)
    · by_cases hk : m = k
      · rw [if_pos hk] at h2
        subst hk
        rw [h2]
        exact .inl (by simp)
      · rw [if_neg hk] at h2
        exact .inr h2
end
section
variable {P : Program} {E : Env} {w0 : World} {X : Nat → Prop} {Pr0 : Nat → Nat → Prop} {γ : Nat → Option G} {Pr : Nat → Nat → Prop} {a : Act} {w : World} {σ : St}
abbrev resultOf (a : Act) : ResultVar → Sem Value := fun
  | .tmp t => pure (a.tmps.getD t undef)
  | .cell c t => do loadVar t (← asAddr (a.tmps.getD c undef))
theorem result_ok (hE : EnvOk P E) (hI : Inv w0 X Pr0 σ.slots (getR σ.res) γ Pr a w) (rv : ResultVar) (hne : given E σ rv ≠ .undef) : ∃ val, (resultOf a rv).run P w = .ok val w ∧ RV (Ln Pr w) γ (given E σ rv) val := by
  cases rv with
  | tmp t => exact ⟨_, rfl, ev_ok hI.slots (.tmp t)⟩
  | cell c T =>
    have hev := ev_ok hI.slots (.tmp c)
    simp only [ev, Act.eval] at hev
    simp only [given] at hne ⊢
    split at hne
    · rename_i r s path t hsl hT
      split at hne
      · rename_i bt c' hg
        split at hne
        · rename_i v hv
          split at hne
          · rename_i hst
            subst hst
            rw [hsl] at hev
            obtain ⟨cs, h1, h2⟩ := load_ptr (P := P) hI hev hg (nth_ok hE hT).2 hv
            refine ⟨mk s cs, ?_, ?_⟩
            · generalize hx : a.tmps.getD c undef = x at *
              cases hev with
              | ptr hb hp =>
                simp only [Instr.loadAt, Instr.sureAddr, Sem.run_bind, Sem.run_pure, Result.andThen_ok] at h1
                simp only [resultOf, hx, asAddr, Sem.run_bind, Sem.run_pure, Result.andThen_ok]
                exact h1
            · simp only [hsl, hT, hg, hv, if_pos]
              exact RT_RV h2
          · exact absurd rfl hne
        · exact absurd rfl hne
      · exact absurd rfl hne
    · exact absurd rfl hne
theorem results_ok (hE : EnvOk P E) (hI : Inv w0 X Pr0 σ.slots (getR σ.res) γ Pr a w) : ∀ (l : List ResultVar), (∀ v ∈ l.map (given E σ), v ≠ .undef) → ∃ vals, (l.mapM (resultOf a)).run P w = .ok vals w ∧ RVs (Ln Pr w) γ (l.map (given E σ)) vals
  | [], _ => ⟨[], by simp, .nil⟩
  | rv :: l, h => by
    obtain ⟨val, h1, h2⟩ := result_ok hE hI rv (h _ (by simp))
    obtain ⟨vals, h3, h4⟩ := results_ok hE hI l (fun v hv => h v (by rw [List.map_cons]; exact List.mem_cons_of_mem _ hv))
    refine ⟨val :: vals, ?_, .cons h2 h4⟩
    simp only [List.mapM_cons, Sem.run_bind, h1, Result.andThen_ok, h3, Sem.run_pure]
theorem results_run {fn : Func} {vals : List Value} (h : (fn.results.toList.mapM (resultOf a)).run P w = .ok vals w) : (results fn a.tmps).run P w = .ok (retV vals) w := by
  have hm : (fn.results.mapM (resultOf a)).run P w = .ok vals.toArray w := by
    rw [Array.mapM_eq_mapM_toList, Sem.run_map, h]
    rfl
  show (do let vs ← fn.results.mapM (resultOf a); pure (if h : vs.size = 1 then vs[0] else .tuple vs) : Sem Value).run P w = _
  simp only [Sem.run_bind, hm, Result.andThen_ok, Sem.run_pure]
  congr 1
  match vals with
  | [] => rfl
  | [v] => rfl
  | v :: v' :: l =>
    rw [dif_neg (by simp)]
    rfl
theorem sound_of_run (hE : EnvOk P E) (hP : PrimsOk P E) {k : Nat} (hR : RunOk P E k) : Sound P E (callOf E (run E k)) := by
  intro I args tab z key hg hz
  unfold callOf at hz
  split at hz
  · rename_i f hf
    exact hP I f key hg hf args tab z hz
  intro hcanon w γ Pr us hI hlim N hN vs u n bs u' n' ub hmk1 hmk2 hub
  obtain ⟨hfn, hbody, _⟩ := hE.fns key I hg
  obtain ⟨c, hc⟩ : ∃ c, I.fn.body = some c := by
    cases hb : I.fn.body with
    | none => rw [hb] at hbody; cases hbody
    | some c => exact ⟨c, rfl⟩
  have hbo : bodyOf I.fn = c := by unfold bodyOf; rw [hc]
  refine calls_of_wp hfn hc ?_
  have hlen : args.length = us.length := RVs_len hI.slots
  have hrep : ∀ m, RVs (Ln Pr w) γ (List.replicate m .undef) (List.replicate m undef) := by
    intro m
    induction m with
    | zero => exact .nil
    | succ m ih => exact .cons .undef ih
  have hI0 : Inv w (Xof tab γ) Pr (start I args tab).slots (getR (start I args tab).res) γ Pr { tmps := us.toArray ++ Array.replicate (I.fn.ntmps - us.toArray.size) undef, defers := [] } w := by
    refine ⟨?_, rfl, hI.gs, hI.wfs, hI.res, hI.apart, hI.loose, hI.where_, hI.frame, hI.size, hI.os, hI.tape, hI.output, hI.prIn, hI.prOld, hI.pr0⟩
    show RVs (Ln Pr w) γ (args ++ List.replicate (I.fn.ntmps - args.length) .undef) (us.toArray ++ Array.replicate (I.fn.ntmps - us.toArray.size) undef).toList
    have : (us.toArray ++ Array.replicate (I.fn.ntmps - us.toArray.size) undef).toList = us ++ List.replicate (I.fn.ntmps - us.length) undef := by simp
    rw [this, hlen]
    exact RVs_append hI.slots (hrep _)
  have hz' : run E k I (fin E I tab) c [] (start I args tab) = some z := by rw [← hbo]; exact hz
  refine hR I (fin E I tab) c [] (start I args tab) z hz' w (Xof tab γ) Pr γ γ Pr _ w (bodyPost P I.fn _) ⟨hI0, fun _ _ => rfl, hlim, Nat.le_refl _⟩ ?_ k (Nat.le_refl _)
  intro σ' γ' Pr' a' w' hfin hA hn0
  have key : a'.defers = [] ∧ ∃ v, (results I.fn a'.tmps).run P w' = .ok v w' ∧ ∃ vals γr Pr2, Ending.returned v = .returned (retV vals) ∧ Back w (Xof tab γ) γ Pr N n' vs ub (u ++ u') vals γr Pr2 w' ∧ ∀ p ∈ comes I.rb tab bs, γr p.1 = γ p.2 := by
    refine ⟨hA.inv.defers, ?_⟩
    unfold fin at hfin
    simp only [Option.bind_eq_some_iff] at hfin
    obtain ⟨x, hx, cs, hcs, y, hy, hfin⟩ := hfin
    split at hfin
    · rename_i honce hmeet
      cases hfin
      obtain ⟨vals, hrun, hvals⟩ := results_ok hE hA.inv I.fn.results.toList (tops_ne hx)
      refine ⟨retV vals, results_run hrun, vals, ?_⟩
      obtain ⟨Pr2, hI2, hP2, hR2, hsame, _, hkeep⟩ := freeze_read (res := σ'.res) hA.inv (fun r x h => h) (rowsVal1.go I.sh (I.fn.results.toList.map (given E σ')) ++ rowsVal1.go I.bx cs)
      have hT2 : RowTy γ' σ'.res := hA.inv.tys (fun r x h => h)
      have hL2 : ∀ b o v, Ln Pr' w' b o v → Ln Pr2 w' b o v := fun b o v h => ⟨hP2 _ _ h.1, h.2⟩
      have hnd := onceB_ok honce
      have hn0' : σ'.n0 = tab.length := hn0
      -- the new numbers
      have hnumb : Numb γ' (fun m => if N ≤ m then ((rowsOut I.sh (I.fn.results.toList.map (given E σ')) ++ rowsOut I.bx cs)[m - N]?).bind γ' else none) (rowsOut I.sh (I.fn.results.toList.map (given E σ')) ++ rowsOut I.bx cs) N := by
        intro i r hr
        show (if N ≤ N + i then _ else none) = _
        rw [if_pos (by omega), Nat.add_sub_cancel_left, hr]
        rfl
      have hcnt1 : n = N + (rowsOut I.sh (I.fn.results.toList.map (given E σ'))).length := by
        have := tops_count I.sh _ x N hx
        have h2 : (mkSV.go I.sh x N).2.2 = n := by
          have h3 : mkSV.go I.sh x N = (vs, u, n) := hmk1
          rw [h3]
        rw [← h2]
        exact this
      have hcnt2 : n' = N + (rowsOut I.sh (I.fn.results.toList.map (given E σ')) ++ rowsOut I.bx cs).length := by
        have := (give_RT.give_count I.bx).2 _ y n hy
        have h2 : (mkSV.go I.bx y n).2.2 = n' := by
          have h3 : mkSV.go I.bx y n = (bs, u', n') := hmk2
          rw [h3]
        rw [← h2, this, hcnt1, List.length_append, Nat.add_assoc]
        rfl
      have hvs : vs = (mkSV.go I.sh x N).1 := by
        have h3 : mkSV.go I.sh x N = (vs, u, n) := hmk1
        rw [h3]
      have hbs : bs = (mkSV.go I.bx y n).1 := by
        have h3 : mkSV.go I.bx y n = (bs, u', n') := hmk2
        rw [h3]
      have hro : ∀ r ∈ rowsOut I.sh (I.fn.results.toList.map (given E σ')) ++ rowsOut I.bx cs, ∃ y1, OutOk tab.length σ'.res r y1 := by
        intro r hr
        rcases List.mem_append.1 hr with hr | hr
        · exact tops_out I.sh _ x hx r hr
        · obtain ⟨e, t, xs, b, hg⟩ := (out_rows I.bx).2 _ y hy r hr
          exact ⟨_, .inl ⟨e, t, xs, b, rfl, hg⟩⟩
      have hget2 : ∀ r ∈ rowsOut I.sh (I.fn.results.toList.map (given E σ')) ++ rowsOut I.bx cs, updG (getR σ'.res) (freeze σ'.res (rowsVal1.go I.sh (I.fn.results.toList.map (given E σ')) ++ rowsVal1.go I.bx cs)) r = getR σ'.res r := fun r hr => hsame r (fun h => meets_not hmeet r hr h)
      have hrows : ∀ m w1, newG (u ++ u') m = some w1 → ∃ (i r : Nat), m = N + i ∧ (rowsOut I.sh (I.fn.results.toList.map (given E σ')) ++ rowsOut I.bx cs)[i]? = some r ∧ OutOk tab.length σ'.res r w1 := by
        intro m w1 h
        rcases newG_mem h with h | h
        · have hu1 : u = (mkSV.go I.sh x N).2.1 := by
            have h3 : mkSV.go I.sh x N = (vs, u, n) := hmk1
            rw [h3]
          have hu2 : u' = (mkSV.go I.bx y n).2.1 := by
            have h3 : mkSV.go I.bx y n = (bs, u', n') := hmk2
            rw [h3]
          rcases List.mem_append.1 h with h | h
          · rw [hu1] at h
            obtain ⟨i, r, y1, h1, h2, h3⟩ := tops_rows I.sh _ x N hx _ h
            cases h1
            exact ⟨i, r, rfl, (List.getElem?_append_left (List.getElem?_eq_some_iff.1 h2).1).trans h2, h3⟩
          · rw [hu2] at h
            obtain ⟨i, r, e, t, xs, b, h1, h2, h3⟩ := (give_rows I.bx).2 _ y n hy _ h
            cases h1
            refine ⟨(rowsOut I.sh (I.fn.results.toList.map (given E σ'))).length + i, r, by rw [hcnt1, Nat.add_assoc], ?_, .inl ⟨e, t, xs, b, rfl, h3⟩⟩
            rw [List.getElem?_append_right (by omega), Nat.add_sub_cancel_left]
            exact h2
        · cases h
      have hinj : ∀ (i i' r : Nat), (rowsOut I.sh (I.fn.results.toList.map (given E σ')) ++ rowsOut I.bx cs)[i]? = some r → (rowsOut I.sh (I.fn.results.toList.map (given E σ')) ++ rowsOut I.bx cs)[i']? = some r → i = i' := by
        intro i i' r h h'
        exact (List.getElem?_inj (List.getElem?_eq_some_iff.1 h).1 hnd).1 (h.trans h'.symm)
      have hblk : ∀ (i r : Nat) (y : Res), (rowsOut I.sh (I.fn.results.toList.map (given E σ')) ++ rowsOut I.bx cs)[i]? = some r → blk (fun m => if N ≤ m then ((rowsOut I.sh (I.fn.results.toList.map (given E σ')) ++ rowsOut I.bx cs)[m - N]?).bind γ' else none) (N + i) y = blk γ' r y := by
        intro i r y h
        have := hnumb i r h
        cases y <;> simp only [blk, this]
      have hbox := box_ok (γ := γ') (γr := fun m => if N ≤ m then ((rowsOut I.sh (I.fn.results.toList.map (given E σ')) ++ rowsOut I.bx cs)[m - N]?).bind γ' else none) hR2 hT2 tab I.bx cs y n ub hcs hy (by rw [← hbs]; exact hub) (fun r hr => List.mem_append_right _ hr) (by rw [hcnt1]; exact hnumb.right)
      have hboxγ : ∀ (j : Nat) (t : Ty) (c' : SV), ub[j]? = some (some (.box t c')) → ∃ c1, getR σ'.res j = some (.box t c1) ∧ γ' j = γ j ∧ updG (getR σ'.res) (freeze σ'.res (rowsVal1.go I.sh (I.fn.results.toList.map (given E σ')) ++ rowsVal1.go I.bx cs)) j = some (.box t c1) ∧ ∀ cells, RT (Ln Pr2 w') γ' t c1 cells → RT (Ln Pr2 w') (fun m => if N ≤ m then ((rowsOut I.sh (I.fn.results.toList.map (given E σ')) ++ rowsOut I.bx cs)[m - N]?).bind γ' else none) t c' cells := by
        intro j t c' hj
        obtain ⟨key, c1, c0, h1, h2, h3⟩ := hbox j t c' hj
        have hkj : key = j := hcanon j _ h1
        subst hkj
        have hjl : key < tab.length := (List.getElem?_eq_some_iff.1 h1).1
        refine ⟨c1, h2, hA.low key (by rw [hn0']; exact hjl), ?_, h3⟩
        rw [hkeep key (fun e t xs b h => by rw [h2] at h; cases h)]
        exact h2
      refine ⟨fun m => if N ≤ m then ((rowsOut I.sh (I.fn.results.toList.map (given E σ')) ++ rowsOut I.bx cs)[m - N]?).bind γ' else none, Pr2, rfl, ?_, ?_⟩
      rotate_left
      · intro p hp
        rw [hbs] at hp
        have h1 := come_ok (γ := γ') (γr := fun m => if N ≤ m then ((rowsOut I.sh (I.fn.results.toList.map (given E σ')) ++ rowsOut I.bx cs)[m - N]?).bind γ' else none) tab I.bx cs y n hcs hy (by rw [hcnt1]; exact hnumb.right) p hp
        rw [← hbs] at hp
        obtain ⟨j, q, h2, h3, _⟩ := comes_mem hub p hp
        have h4 : p.2 < tab.length := by
          rw [← h3, hcanon j q h2]
          exact (List.getElem?_eq_some_iff.1 h2).1
        rw [← hA.low p.2 (by rw [hn0']; exact h4)]
        exact h1
      constructor
      case vals =>
        rw [hvs]
        exact tops_RVs hR2 hT2 I.sh _ vals x N (RVs_mono hL2 (fun _ _ h => h) hvals) hx (fun r hr => List.mem_append_left _ hr) hnumb.left
      case lim =>
        intro r g hr
        split at hr
        · rename_i hNr
          rw [Option.bind_eq_some_iff] at hr
          obtain ⟨s, hs, hγ⟩ := hr
          have hsl := (List.getElem?_eq_some_iff.1 hs).1
          refine ⟨⟨hNr, by rw [hcnt2]; omega⟩, ?_⟩
          obtain ⟨_, ⟨e, t, xs, b, rfl, hrow⟩ | ⟨t, c, x1, rfl, _, hrow, _⟩⟩ := hro s (List.mem_of_getElem? hs)
          · obtain ⟨v, css, hv, _⟩ := hA.inv.res s _ hrow
            rw [hγ] at hv
            cases hv
            obtain ⟨A, m, c, rfl⟩ := hA.inv.gs _ _ _ _ hγ
            exact .inl ⟨e, t, A, m, c, rfl⟩
          · obtain ⟨b, arr, T, hv, _⟩ := hA.inv.res s _ hrow
            rw [hγ] at hv
            cases hv
            exact .inr ⟨b, t, rfl, hA.inv.wfs _ _ _ hγ⟩
        · cases hr
      case box =>
        intro j t c' hj
        obtain ⟨c1, h1, h2, h3, h4⟩ := hboxγ j t c' hj
        obtain ⟨b, arr, T, h5, h6, h7⟩ := hI2.res j _ h3
        exact ⟨b, arr, T, by rw [← h2]; exact h5, h6, h4 _ h7⟩
      case row =>
        intro m w1 h
        obtain ⟨i, r, rfl, h1, h2⟩ := hrows m w1 h
        have hil := (List.getElem?_eq_some_iff.1 h1).1
        refine ⟨by omega, by rw [hcnt2]; omega, ?_⟩
        rcases h2 with ⟨e, t, xs, b, rfl, h2⟩ | ⟨t, c, x1, rfl, _, h2, h7⟩
        · obtain ⟨v, css, h3, h4, h5, h6⟩ := hI2.res r _ ((hget2 r (List.mem_of_getElem? h1)).trans h2)
          exact ⟨v, css, (hnumb i r h1).trans h3, h4, h5, h6⟩
        · obtain ⟨b, arr, T, h3, h4, h5⟩ := hI2.res r _ ((hget2 r (List.mem_of_getElem? h1)).trans h2)
          have hk := toVal_RT (L := Ln Pr2 w') (γ := γ') (res := []) (P := fun _ => True) (fun r e t xs _ hh => by rcases hh with ⟨_, hh⟩ | hh <;> cases hh) 9 9 (Nat.le_refl _) (fun _ _ => trivial) h5 h7
          exact ⟨b, arr, T, (hnumb i r h1).trans h3, h4, spread_ok (.val hk) fun u hu => by
            subst hu
            exact Wf_flds (hI2.wfs _ _ _ h3)⟩
      case apart =>
        intro m m' y1 y2 b h h' hne hb
        obtain ⟨i, r, rfl, h1, hh2⟩ := hrows m y1 h
        obtain ⟨i', r', rfl, h1', hh2'⟩ := hrows m' y2 h'
        obtain ⟨y1', h2, hbb, _⟩ := hh2.old
        obtain ⟨y2', h2', hbb', _⟩ := hh2'.old
        rw [hblk i r _ h1, ← hbb] at hb
        rw [hblk i' r' _ h1', ← hbb']
        refine hI2.apart r r' y1' y2' b ((hget2 r (List.mem_of_getElem? h1)).trans h2) ((hget2 r' (List.mem_of_getElem? h1')).trans h2') (fun e => hne ?_) hb
        subst e
        rw [hinj i i' r h1 h1']
      case beside =>
        intro j t c' b hj hγj m y1 h hb
        obtain ⟨c1, h1, h2, h3, h4⟩ := hboxγ j t c' hj
        obtain ⟨i, r, rfl, h5, hh6⟩ := hrows m y1 h
        have hjl : j < tab.length := by
          rw [← (backs_ok hub).1]
          exact (List.getElem?_eq_some_iff.1 hj).1
        have hne : r ≠ j := by
          rintro rfl
          rcases hh6 with ⟨e, t', xs, b', rfl, h6⟩ | ⟨t', c2, x1, rfl, h6, _⟩
          · rw [h6] at h1
            cases h1
          · omega
        obtain ⟨y1', h6, hbb, _⟩ := hh6.old
        rw [hblk i r _ h5, ← hbb] at hb
        exact hI2.apart r j _ _ b ((hget2 r (List.mem_of_getElem? h5)).trans h6) h3 hne hb (by simp [blk, h2, hγj])
      case boxLoose =>
        intro j t c' b hj hγj o ho
        obtain ⟨c1, h1, h2, h3, h4⟩ := hboxγ j t c' hj
        exact hI2.loose j _ b h3 (by simp [blk, h2, hγj]) o ho
      case rowLoose =>
        intro m y1 b h hb o ho
        obtain ⟨i, r, rfl, h1, hh2⟩ := hrows m y1 h
        obtain ⟨y1', h2, hbb, hml⟩ := hh2.old
        rw [hblk i r _ h1, ← hbb] at hb
        exact hml o (hI2.loose r _ b ((hget2 r (List.mem_of_getElem? h1)).trans h2) hb o ho)
      case where_ =>
        intro m y1 b h hb
        obtain ⟨i, r, rfl, h1, hh2⟩ := hrows m y1 h
        obtain ⟨y1', h2, hbb, _⟩ := hh2.old
        rw [hblk i r _ h1, ← hbb] at hb
        exact hI2.where_ r _ b ((hget2 r (List.mem_of_getElem? h1)).trans h2) hb
      case frame => exact hI2.frame
      case size => exact hI2.size
      case os => exact hI2.os
      case tape => exact hI2.tape
      case output => exact hI2.output
      case prIn => exact hI2.prIn
      case prOld => exact hI2.prOld
      case lean => exact hI2.pr0
    · cases hfin
  exact ⟨key, key⟩
theorem sound_all (hm : P.follows .mixedOrders = true) (hE : EnvOk P E) (hP : PrimsOk P E) : ∀ k, Sound P E (callOf E (run E k)) := by
  intro k
  induction k using Nat.strongRecOn with
  | _ k ih => exact sound_of_run hE hP (run_ok hm hE k ih k (Nat.le_refl _))
end
end Go.Proofs.Ytcfnhfbaakflgaa.Abs
