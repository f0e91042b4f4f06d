/- Moves, records, cuts, lengths. -/
import Derived.Test.YtcfnhfbaakflgaaAbsNew
import Derived.Laws.Strings
set_option linter.unusedVariables false
set_option linter.unusedSimpArgs false
set_option linter.unusedSectionVars false
namespace Go.Proofs.Ytcfnhfbaakflgaa.Abs
open Go Go.RowKit

section
variable {P : Program} {E : Env} {call : (I : FnI) → List SV → Tab → Option (I.sh.den × I.bx.den)} {w0 : World} {X : Nat → Prop} {Pr0 : Nat → Nat → Prop} {sl : List SV} {get : Nat → Option Res} {γ : Nat → Option G} {Pr : Nat → Nat → Prop}
  {a : Act} {w : World} {res : Tab} {r0 : Nat} {o : Oper} {vs : List SV} {v : SV} {u : Up}
/-- Two lists, place by place. -/
inductive Alike {α β : Type} (R : α → β → Prop) : List α → List β → Prop
  | nil : Alike R [] []
  | cons {x : α} {y : β} {l : List α} {m : List β} (h : R x y) (k : Alike R l m) : Alike R (x :: l) (y :: m)
/-! ### Moves -/
theorem op_moves (H : Ahead P E call w0 X Pr0 sl get γ Pr a w res r0 o vs v u) {i : Operand} (hop : o.op = .move i ∨ o.op = .assign i) : Done P w0 X Pr0 sl get γ Pr a w r0 o v u := by
  obtain ⟨hE, hI, hk, hfr, hv, hc⟩ := H
  have hv' : RVs (Ln Pr w) γ vs [a.eval i] := by
    rcases hop with hop | hop <;> (rw [hop] at hv; exact hv)
  obtain ⟨p, rfl, hp⟩ := RVs_one hv'
  have ho : (execOp a.eval o).run P w = .ok (.value (a.eval i)) w := by
    rcases hop with hop | hop <;> simp only [execOp, hop, Sem.run_pure]
  have hc' : (match (generalizing := false) p, nth E.ty o.type with
      | .nilS, some (.slice e t) => ans (.row r0) [(r0, some (.row e t [] false))]
      | .strct l, some (.agg t) => match ground (.agg t) (.strct l) r0 with
        | (v', u, m) => match Nat.ble m (r0 + 64) with | true => ans v' u | false => none
      | _, _ => ans p []) = some (v, u) := by
    unfold core at hc
    rcases hop with hop | hop <;> (simp only [hop] at hc; exact hc)
  split at hc'
  · cases hc'
    have h0 : γ r0 = none := hfr r0 (Nat.le_refl _) (by omega)
    generalize hx : a.eval i = x at *
    cases hp with
    | nilS => exact owes_new (hI.nilRow h0) ho (.row give_same) give_far
  · rename_i l t hT
    split at hc'
    rename_i v' u' m hgr
    split at hc'
    · rename_i hm
      cases hc'
      have hm := Nat.le_of_ble_eq_true hm
      generalize hx : a.eval i = x at *
      cases hp with
      | strct hl =>
        have e1 : (ground (.agg t) (.strct l) r0).1 = v := by rw [hgr]
        have e2 : (ground (.agg t) (.strct l) r0).2.1 = u := by rw [hgr]
        have e3 : (ground (.agg t) (.strct l) r0).2.2 = m := by rw [hgr]
        obtain ⟨γ', t', hI', hrt, hγ, _⟩ := (ground_ok (.agg t)).1 (.strct l) r0 _ _ get γ hI (fun r h1 h2 => hfr r h1 (by omega)) (.strct hl)
        rw [e2] at hI'
        refine owes_new hI' ho ?_ (fun r hr => hγ r (fun h => hr ⟨h.1, by omega⟩))
        rw [← e1]
        exact RT_RV' hrt
    · cases hc'
  · cases hc'
    exact owes_run hI ho hp
/-! ### Records -/
theorem fill_ok (hgs : ∀ r e t v, γ r = some (.row e t v) → ∃ A n c, v = .slice A n c) {L : Lk} (hr : RowTy γ res) {fs : List Field} {t : Ty} (hF : FOk P fs t 0) (ht : WfB true t = true) {place : Nat → Option (Nat × Nat)}
    (hpl : ∀ f fl s o, fs[f]? = some fl → offF t f = some (o, s) → place f = some (o, s.sz)) :
    ∀ (ps : List (Nat × SV)) (qs : List (Nat × Value)) (l l' : List SV) (cs : Array Value), Alike (fun p q => p.1 = q.1 ∧ RV L γ p.2 q.2) ps qs → RTs L γ t l cs.toList → buildFields res (fieldTys t) ps l = some l' →
      ∃ cs', Instr.fill place cs qs = some cs' ∧ RTs L γ t l' cs'.toList
  | [], [], l, l', cs, _, hl, h => by
    cases h
    exact ⟨cs, rfl, hl⟩
  | (f, v) :: ps, (g, u) :: qs, l, l', cs, .cons hpq hps, hl, h => by
    obtain ⟨rfl, hv⟩ := hpq
    simp only [buildFields] at h
    split at h
    · rename_i s hs
      split at h
      · rename_i hf
        obtain ⟨c, rfl, hc⟩ := fits_RV hr hv hf
        have hoff : ∀ (t : Ty) (f : Nat) (s : Ty), (fieldTys t)[f]? = some s → ∃ o, offF t f = some (o, s) := by
          intro t
          induction t with
          | pair a b _ ih =>
            intro f s hs
            cases f with
            | zero =>
              simp [fieldTys] at hs
              exact ⟨0, by simp [offF, hs]⟩
            | succ f =>
              obtain ⟨o, ho⟩ := ih f s (by simpa [fieldTys] using hs)
              exact ⟨a.sz + o, by simp [offF, ho]⟩
          | _ => intro f s hs; simp [fieldTys] at hs
        obtain ⟨o, ho⟩ := hoff t f s hs
        obtain ⟨fl, hfl, _, _, hi⟩ := FOk_get hF ho
        have hone : s.sz = 1 ∨ ∃ u, s = .agg u := hi.one
        have hcells := RT_cells hgs hc hone
        have hlen : c.length = s.sz := RT_len hc
        have hadd := offF_add ho
        have hcs : cs.size = t.sz := by
          rw [← Array.length_toList]
          exact RTs_len hl
        have hput := RTs_put hl ho hc
        have hfold : ((mk s c).cells.zipIdx.foldl (fun cs (c, j) => cs.setIfInBounds (o + j) c) cs) = (splice cs.toList o c).toArray := by
          rw [hcells]
          exact fold_splice c cs o (by omega)
        obtain ⟨cs', h1, h2⟩ := fill_ok hgs hr hF ht hpl ps qs _ l' (splice cs.toList o c).toArray hps (by simpa using hput) h
        refine ⟨cs', ?_, h2⟩
        rw [Instr.fill, hpl f fl s o hfl ho]
        simp only
        rw [if_neg (by rw [hcells]; simp [hlen]; omega)]
        rw [hfold]
        exact h1
      · cases h
    · cases h
where
  fold_splice (c : List Value) (cs : Array Value) (o : Nat) (h : o + c.length ≤ cs.size) : (c.toArray.zipIdx.foldl (fun cs (c, j) => cs.setIfInBounds (o + j) c) cs) = (splice cs.toList o c).toArray := by
    have key : ∀ (c : List Value) (k : Nat) (cs : Array Value), o + k + c.length ≤ cs.size → ((c.zipIdx k).foldl (fun (cs : Array Value) (p : Value × Nat) => cs.setIfInBounds (o + p.2) p.1) cs) = (splice cs.toList (o + k) c).toArray := by
      intro c
      induction c with
      | nil =>
        intro k cs _
        simp [splice]
      | cons x c ih =>
        intro k cs h
        rw [List.length_cons] at h
        rw [List.zipIdx_cons, List.foldl_cons, ih (k + 1) _ (by simp; omega)]
        apply Array.toList_inj.1
        apply List.ext_getElem?
        intro j
        rw [splice_get (by simp; omega), splice_get (by simp; omega)]
        simp only [Array.toList_setIfInBounds, List.getElem?_set, List.length_cons, Array.length_toList]
        by_cases h1 : o + (k + 1) ≤ j ∧ j < o + (k + 1) + c.length
        · rw [if_pos h1, if_pos (by omega)]
          rw [show j - (o + k) = (j - (o + (k + 1))) + 1 by omega, List.getElem?_cons_succ]
        · rw [if_neg h1]
          by_cases h2 : o + k = j
          · subst h2
            rw [if_pos rfl, if_pos (by omega), if_pos (by omega)]
            simp
          · rw [if_neg h2, if_neg (by omega)]
    have := key c 0 cs (by omega)
    rw [Nat.add_zero] at this
    rw [← this, ← Array.foldl_toList]
    congr 1
    simp
theorem forall2_zip {L : Lk} : ∀ {ks : List Nat} {vs : List SV} {us : List Value}, RVs L γ vs us → Alike (fun (p : Nat × SV) (q : Nat × Value) => p.1 = q.1 ∧ RV L γ p.2 q.2) (ks.zip vs) (ks.zip us)
  | [], _, _, _ => by simp only [List.zip_nil_left]; exact .nil
  | k :: ks, _, _, .nil => by simp only [List.zip_nil_right]; exact .nil
  | k :: ks, _, _, .cons h hs => by
    simp only [List.zip_cons_cons]
    exact .cons ⟨rfl, h⟩ (forall2_zip hs)
theorem zip_map (l : List (Nat × Operand)) (f : Operand → Value) : (l.map (·.1)).zip ((l.map (·.2)).map f) = l.map fun p => (p.1, f p.2) := by
  induction l with
  | nil => rfl
  | cons p l ih =>
    simp only [List.map_cons, List.zip_cons_cons, ih]
theorem op_build (H : Ahead P E call w0 X Pr0 sl get γ Pr a w res r0 o vs v u) {T : TypeId} {ps : Array (Nat × Operand)} (hop : o.op = .build T ps) : Done P w0 X Pr0 sl get γ Pr a w r0 o v u := by
  obtain ⟨hE, hI, hk, hfr, hv, hc⟩ := H
  rw [hop] at hv
  unfold core at hc
  simp only [hop] at hc
  have hc' : (match nth E.ty T with
    | some (.agg t) => match dfltSV (.agg t) with
      | .strct l => match buildFields res (fieldTys t) ((ps.toList.map (·.1)).zip vs) l with
        | some l => match closeUp t l with | some v => ans v [] | none => none
        | none => none
      | _ => none
    | _ => none) = some (v, u) := by
    rcases vs with _ | ⟨v1, _ | ⟨v2, _ | ⟨v3, vs⟩⟩⟩ <;> exact hc
  split at hc'
  · rename_i t hT
    obtain ⟨hU, hi⟩ := nth_ok hE hT
    split at hc'
    · rename_i l hl
      split at hc'
      · rename_i l' hb
        split at hc'
        · rename_i v' hcl
          cases hc'
          obtain ⟨fs, hfs, hF⟩ := hU
          obtain ⟨i, hi1, hi2, z, hz, hzc⟩ := hi.info
          have hl' : l = dfltSV.go t := by
            have : SV.strct (dfltSV.go t) = SV.strct l := hl
            cases this
            rfl
          have hd : RTs (Ln Pr w) γ t l z.cells.toList := by
            rw [hzc, hl']
            exact (dflt_ok t).2 hi.wf
          have hplace : ∀ f fl s o, fs.toList[f]? = some fl → offF t f = some (o, s) → (fs.map fun f => (f.offset, (P.info? f.type).elim 0 (·.size)))[f]? = some (o, s.sz) := by
            intro f fl s o h1 h2
            obtain ⟨fl', h3, h4, _, h5⟩ := FOk_get hF h2
            rw [h1] at h3
            cases h3
            obtain ⟨j, hj1, hj2, _⟩ := h5.info
            simp only [Array.getElem?_map]
            rw [← Array.getElem?_toList, h1]
            simp [h4, hj1, hj2]
          have hf2 := forall2_zip (ks := ps.toList.map (·.1)) (show RVs (Ln Pr w) γ vs ((ps.toList.map (·.2)).map a.eval) from hv)
          rw [zip_map] at hf2
          obtain ⟨cs', h1, h2⟩ := fill_ok (P := P) hI.gs (hI.tys hk) hF hi.wf hplace _ _ l l' z.cells hf2 hd hb
          have hfields : ∀ (l : List Field) (t : Ty) (o : Nat), FOk P l t o → (l.mapM fun f => (do pure (f.offset, ← sizeOf f.type) : Sem (Nat × Nat))).run P w = .ok (l.map fun f => (f.offset, (P.info? f.type).elim 0 (·.size))) w := by
            intro l
            induction l with
            | nil => intro t o _; simp
            | cons f l ih =>
              intro t o h
              cases t with
              | pair a b =>
                obtain ⟨j, hj1, hj2, _⟩ := h.2.2.2.1.info
                simp only [List.mapM_cons, Sem.run_bind, h.2.2.2.1.sizeOf, Result.andThen_ok, Sem.run_pure, ih b _ h.2.2.2.2, List.map_cons, hj1, Option.elim, hj2]
              | _ => exact h.elim
          refine owes_pure (u := .agg cs') (s := Instr.build T (ps.map fun (i, x) => (i, a.eval x))) hI (by simp only [execOp, hop]) ?_ (closeUp_ok h2 hcl).1
          simp only [Instr.build, zeroValue, typeInfo, Sem.run_bind, run_program, hi1, Sem.run_pure, Result.andThen_ok, hz, run_underlying hfs]
          rw [Array.mapM_eq_mapM_toList]
          simp only [Sem.run_bind, Sem.run_map, hfields _ _ _ hF]
          have e1 : (List.map (fun f => (f.offset, (P.info? f.type).elim 0 (·.size))) fs.toList).toArray = fs.map fun f => (f.offset, (P.info? f.type).elim 0 (·.size)) := by
            apply Array.toList_inj.1
            simp
          simp only [Result.andThen_ok, e1, Array.toList_map]
          rw [h1]
          rfl
        · cases hc'
      · cases hc'
    · cases hc'
  · cases hc'
/-! ### Rows that are shared -/
/-- What a slot leads to, shared from now on. -/
theorem freeze_read (hI : Inv w0 X Pr0 sl get γ Pr a w) (hk : ∀ r x, getR res r = some x → get r = some x) (rows : List Nat) :
    ∃ Pr', Inv w0 X Pr0 sl (updG get (freeze res rows)) γ Pr' a w ∧ (∀ b o, Pr b o → Pr' b o) ∧ RowsOk (Ln Pr' w) γ res (fun r => r ∈ rows) ∧ (∀ r, r ∉ rows → updG get (freeze res rows) r = get r) ∧
      (∀ r e t xs fr, r ∈ rows → getR res r = some (.row e t xs fr) → updG get (freeze res rows) r = some (.row e t xs true)) ∧ (∀ r, (∀ e t xs fr, get r ≠ some (.row e t xs fr)) → updG get (freeze res rows) r = get r) := by
  obtain ⟨Pr', hI', hP, _, h1, h2, h3, h4⟩ := Inv.freeze_ok res rows (fun r x h => ⟨x, hk r x h, .inl rfl⟩) hI
  refine ⟨Pr', hI', hP, ?_, h4, h2, h1⟩
  refine rowsF hI' h2 ?_
  intro r e t xs h
  rw [h1 r (fun e' t' xs' fr' hh => by rw [hk r _ h] at hh; cases hh)]
  exact hk r _ h
theorem RK_slice_one {L : Lk} {e : TypeId} {t : Ty} {xs : List t.den} {cs : List Value} (h : RK L (.slice e t) xs cs) : ∃ A cap, cs = [.slice A xs.length cap] ∧ RK L (.slice e t) xs [.slice A xs.length cap] := by
  obtain ⟨A, cap, rfl, h1, h2⟩ := h
  exact ⟨A, cap, rfl, A, cap, rfl, h1, h2⟩
theorem RK_cut {L : Lk} {e : TypeId} {t : Ty} {xs : List t.den} {A : Option Addr} {cap l h : Nat} (hr : RK L (.slice e t) xs [.slice A xs.length cap]) (h1 : l ≤ h) (h2 : h ≤ xs.length) :
    RK L (.slice e t) ((xs.take h).drop l) [sliced A l h cap t.sz] := by
  obtain ⟨A', cap', he, hc, hA⟩ := hr
  cases he
  have hlen : ((xs.take h).drop l).length = h - l := by
    rw [List.length_drop, List.length_take]
    omega
  refine ⟨_, cap - l, by unfold sliced; rw [hlen], by rw [hlen]; omega, fun hne => ?_⟩
  have hlt : l < h := by
    rcases Nat.lt_or_ge l h with h' | h'
    · exact h'
    · exact absurd (List.eq_nil_of_length_eq_zero (by rw [hlen]; omega)) hne
  obtain ⟨b, o, rfl, hh⟩ := hA (by intro hx; subst hx; simp at h2; omega)
  refine ⟨b, o + l * t.sz, ?_, fun i hi => ?_⟩
  · rw [if_neg (by omega)]
    simp only [Option.map_some, add_lit]
  · rw [hlen] at hi
    obtain ⟨c, h3, h4⟩ := hh (l + i) (by omega)
    refine ⟨c, ?_, fun j v hj => ?_⟩
    · rw [List.getElem_drop, List.getElem_take]
      exact h3
    · have := h4 j v hj
      rwa [Nat.add_mul, ← Nat.add_assoc] at this
theorem sliceAt_ok {T e : TypeId} {t : Ty} {A : Option Addr} {n cap : Nat} {lo hi : Option Int} {kl kh : IntKind} (hU : UnderOk P T (.slice e t)) (hn : n ≤ cap) (h1 : 0 ≤ lo.getD 0) (h2 : lo.getD 0 ≤ hi.getD n) (h3 : hi.getD n ≤ n) :
    (Instr.sliceAt T (.slice A n cap) (lo.map (.int kl)) (hi.map (.int kh)) none).run P w = .ok (sliced A (lo.getD 0).toNat (hi.getD n).toNat cap t.sz) w := by
  obtain ⟨hT, hei, _⟩ := hU
  have hel : P.elem T = e := by simp [Program.elem, hT]
  have hT' : P.underlying T = some (.slice (P.elem T)) := by rw [hel]; exact hT
  rw [run_sliceAt_slice _ _ _ _ _ _ hT']
  cases lo <;> cases hi <;> simp only [Option.map_none, Option.map_some, Option.getD_none, Option.getD_some] at h1 h2 h3 ⊢
  · rw [run_slice_all _ _ _ _ _ hT', hel, hei.sizeOf]
    rfl
  · rw [run_slice_h _ _ _ _ _ hT' _ _ h2 (by omega), hel, hei.sizeOf]
    rfl
  · rw [run_slice_l _ _ _ _ _ hT' _ _ h1 h2, hel, hei.sizeOf]
    rfl
  · rw [run_slice_lh _ _ _ _ _ hT' _ _ _ _ h1 h2 (by omega), hel, hei.sizeOf]
    rfl
theorem cutList_ok {e : TypeId} {t : Ty} {xs : List t.den} {lo hi : Option Int} {u0 : Up} (h : cutList e t xs lo hi u0 ans = some (v, u)) :
    u = u0 ∧ 0 ≤ lo.getD 0 ∧ lo.getD 0 ≤ hi.getD xs.length ∧ hi.getD xs.length ≤ xs.length ∧ v = .val (.slice e t) ((xs.take (hi.getD xs.length).toNat).drop (lo.getD 0).toNat) := by
  unfold cutList at h
  split at h
  · cases h
    refine ⟨rfl, Int.le_refl _, Int.natCast_nonneg _, Int.le_refl _, ?_⟩
    simp
  · split at h
    · split at h
      · cases h
        refine ⟨rfl, Int.le_refl _, by assumption, by assumption, ?_⟩
        simp
      · cases h
    · cases h
  · split at h
    · split at h
      · cases h
        refine ⟨rfl, by assumption, by assumption, Int.le_refl _, ?_⟩
        simp
      · cases h
    · cases h
  · split at h
    · split at h
      · split at h
        · split at h
          · cases h
            exact ⟨rfl, by assumption, by assumption, by assumption, rfl⟩
          · cases h
        · cases h
      · cases h
    · cases h
/-- A cut of a row that is shared. -/
theorem cut_ok {L : Lk} {T e : TypeId} {t : Ty} {xs : List t.den} {lo hi : Option Int} {kl kh : IntKind} {u0 : Up} {x : Value} (hU : UnderOk P T (.slice e t)) (hx : RK L (.slice e t) xs [x]) (h : cutList e t xs lo hi u0 ans = some (v, u)) :
    u = u0 ∧ ∃ z, (Instr.sliceAt T x (lo.map (.int kl)) (hi.map (.int kh)) none).run P w = .ok z w ∧ RV L γ v z := by
  obtain ⟨rfl, h1, h2, h3, rfl⟩ := cutList_ok h
  obtain ⟨A, cap, he, hr⟩ := RK_slice_one hx
  cases he
  refine ⟨rfl, _, sliceAt_ok hU (by obtain ⟨_, _, he, hc, _⟩ := hr; cases he; exact hc) h1 h2 h3, ?_⟩
  exact RV.val (t := .slice e t) (RK_cut hr (by omega) (by omega))
theorem cutStr_ok {L : Lk} {T : TypeId} {s : ByteArray} {lo hi : Option Int} {kl kh : IntKind} (hU : P.underlying T = some .string) (h : cutStr s lo hi ans = some (v, u)) :
    u = [] ∧ ∃ z, (Instr.sliceAt T (.string s) (lo.map (.int kl)) (hi.map (.int kh)) none).run P w = .ok z w ∧ RV L γ v z := by
  have key : ∀ l h : Int, 0 ≤ l → l ≤ h → h ≤ s.size → lo.getD 0 = l → hi.getD s.size = h → (Instr.sliceAt T (.string s) (lo.map (.int kl)) (hi.map (.int kh)) none).run P w = .ok (.string (s.extract l.toNat h.toNat)) w := by
    intro l h h1 h2 h3 h4 h5
    have hb : (Instr.sliceBounds false s.size s.size (lo.map (.int kl)) (hi.map (.int kh)) none).run P w = .ok (l.toNat, h.toNat, s.size) w := by
      subst h4 h5
      have hh : ((hi.getD s.size).toNat : Int) = hi.getD s.size := Int.toNat_of_nonneg (by omega)
      cases lo <;> cases hi <;> simp only [Option.map_none, Option.map_some, Option.getD_none, Option.getD_some] at h1 h2 h3 hh ⊢ <;>
        simp only [Instr.sliceBounds, Sem.run_bind, Sem.run_pure, Result.andThen_ok]
      · rfl
      · rw [run_sliceBound _ _ _ _ _ h2 h3]
        rfl
      · rw [run_sliceBound _ _ _ _ _ h1 h2]
        rfl
      · rw [run_sliceBound _ _ _ _ _ (by omega) h3]
        simp only [Result.andThen_ok]
        rw [run_sliceBound _ _ _ _ _ h1 (by omega)]
        rfl
    rw [run_sliceAt_string _ _ _ _ _ _ hU]
    simp [Instr.slice, run_underlying hU, hb]
  unfold cutStr at h
  split at h
  · cases h
    refine ⟨rfl, _, key 0 s.size (Int.le_refl _) (Int.natCast_nonneg _) (Int.le_refl _) rfl rfl, ?_⟩
    have : s.extract (Int.toNat 0) (Int.toNat s.size) = s := by simp
    rw [this]
    exact str_val
  · split at h
    · split at h
      · cases h
        exact ⟨rfl, _, key 0 _ (Int.le_refl _) (by assumption) (by assumption) rfl rfl, str_val⟩
      · cases h
    · cases h
  · split at h
    · split at h
      · cases h
        exact ⟨rfl, _, key _ s.size (by assumption) (by assumption) (Int.le_refl _) rfl rfl, str_val⟩
      · cases h
    · cases h
  · split at h
    · split at h
      · split at h
        · split at h
          · cases h
            exact ⟨rfl, _, key _ _ (by assumption) (by assumption) (by assumption) rfl rfl, str_val⟩
          · cases h
        · cases h
      · cases h
    · cases h
theorem flatten_take {α : Type} : ∀ {css : List (List α)} {n k : Nat}, (∀ c ∈ css, c.length = n) → (css.take k).flatten = css.flatten.take (k * n)
  | [], n, k, _ => by simp
  | c :: css, n, 0, _ => by simp
  | c :: css, n, k + 1, h => by
    have hc : c.length = n := h c (by simp)
    rw [List.take_succ_cons, List.flatten_cons, List.flatten_cons, flatten_take (fun d hd => h d (List.mem_cons_of_mem _ hd)), List.take_append, Nat.succ_mul, hc]
    rw [List.take_of_length_le (l := c) (by omega), Nat.add_sub_cancel]
theorem optInt_ok {L : Lk} {x : Option SV} {y : Option Value} {n : Option Int} (h : optInt x = some n) (hx : ∀ z, x = some z → ∃ u, y = some u ∧ RV L γ z u) (hn : x = none → y = none) : ∃ k, y = n.map (.int k) := by
  cases x with
  | none =>
    cases h
    exact ⟨.i64, hn rfl⟩
  | some z =>
    obtain ⟨u, rfl, hu⟩ := hx z rfl
    simp only [optInt, Option.bind_eq_some_iff] at h
    obtain ⟨⟨k, m⟩, hz, he⟩ := h
    cases he
    unfold intOf at hz
    split at hz
    · cases hz
      rw [val_int hu]
      exact ⟨_, rfl⟩
    · cases hz
theorem op_slice (H : Ahead P E call w0 X Pr0 sl get γ Pr a w res r0 o vs v u) {T : TypeId} {i : Operand} {lo hi mx : Option Operand} (hop : o.op = .slice T i lo hi mx) : Done P w0 X Pr0 sl get γ Pr a w r0 o v u := by
  obtain ⟨hE, hI, hk, hfr, hv, hc⟩ := H
  rw [hop] at hv
  cases hv with
  | cons hp hrest =>
    rename_i p is
    have hc' : (match (generalizing := false) nth E.ty T, mx with
      | some ty, none => match tailHere E T o.dst with
        | true => tailSV lo hi ty p is res ans
        | false => sliceSV ty (match (generalizing := false) lo with | some _ => is.head? | none => none) (match (generalizing := false) hi with | some _ => is.getLast? | none => none) p res r0 ans
      | _, _ => none) = some (v, u) := by
      unfold core at hc
      simp only [hop] at hc
      rcases is with _ | ⟨v2, _ | ⟨v3, vs⟩⟩ <;> exact hc
    have ho : execOp a.eval o = (do pure (.value (← Instr.sliceAt T (a.eval i) (lo.map a.eval) (hi.map a.eval) (mx.map a.eval)))) := by simp only [execOp, hop]
    split at hc'
    · rename_i ty hT
      obtain ⟨hU, hi'⟩ := nth_ok hE hT
      split at hc'
      · unfold tailSV at hc'
        split at hc'
        · rename_i lo0 e0 t0 r
          split at hc'
          · rename_i e t xs kl l hg
            split at hc'
            · rename_i hst
              cases hst
              split at hc'
              · rename_i h0
                split at hc'
                · rename_i h1
                  cases hc'
                  have h0 : @LE.le Int _ 0 l := h0
                  have h1 : @LT.lt Int _ l (List.length xs : Int) := h1
                  have hrest' : RVs (Ln Pr w) γ [SV.val (.int kl) l] ([lo0].map a.eval) := by simpa using hrest
                  have hq1 : a.eval lo0 = .int kl l := by
                    cases hrest' with
                    | cons h1 _ => exact val_int h1
                  obtain ⟨v', css, hv', hels, hown, hf⟩ := hI.res r _ (hk r _ hg)
                  generalize hx : a.eval i = x at *
                  cases hp with
                  | row hrow =>
                    rw [hv'] at hrow
                    cases hrow
                    rcases hown.2 with ⟨rfl, hn⟩ | ⟨g, cap, cur, rfl, hb, hheap, hnc, hcm, hcs, htake⟩
                    · omega
                    · refine owes_run hI ?_ (.tail hv' h0 h1 hnc)
                      rw [ho]
                      have hs := sliceAt_ok (P := P) (w := w) (A := some ⟨g, 0, none⟩) (lo := some l) (hi := none) (kl := kl) (kh := .i64) hU hnc h0 (by simp only [Option.getD_some, Option.getD_none]; omega) (Int.le_refl _)
                      have hsl : sliced (some ⟨g, 0, none⟩) (Option.getD (some l) 0).toNat (Option.getD (none : Option Int) (xs.length : Int)).toNat cap t0.sz = .slice (some ⟨g, l.toNat * t0.sz, none⟩) (xs.length - l.toNat) (cap - l.toNat) := by
                        simp only [Option.getD_none, Option.getD_some, sliced, Int.toNat_natCast]
                        rw [if_neg (by omega)]
                        simp only [Option.map_some, add_lit, Nat.zero_add]
                      rw [hsl] at hs
                      simp only [Option.map_none, Option.map_some, hq1] at hs ⊢
                      simp only [Sem.run_bind, hs, Result.andThen_ok, Sem.run_pure]
                · cases hc'
              · cases hc'
            · cases hc'
          · cases hc'
        · cases hc'
      unfold sliceSV at hc'
      obtain ⟨p', hpe⟩ : ∃ p', p' = p := ⟨p, rfl⟩
      have hbounds : (∀ n, optInt (match lo with | some _ => is.head? | none => none) = some n → ∃ k, lo.map a.eval = n.map (.int k)) ∧ (∀ n, optInt (match hi with | some _ => is.getLast? | none => none) = some n → ∃ k, hi.map a.eval = n.map (.int k)) := by
        have hrest' : RVs (Ln Pr w) γ is ((lo.toList ++ hi.toList).map a.eval) := by simpa using hrest
        cases lo with
        | none => cases hi with
          | none =>
            cases hrest'
            exact ⟨fun n h => optInt_ok (L := Ln Pr w) (γ := γ) h (fun z hz => by cases hz) (fun _ => rfl), fun n h => optInt_ok (L := Ln Pr w) (γ := γ) h (fun z hz => by cases hz) (fun _ => rfl)⟩
          | some y =>
            obtain ⟨q, rfl, hq⟩ := RVs_one hrest'
            exact ⟨fun n h => optInt_ok (L := Ln Pr w) (γ := γ) h (fun z hz => by cases hz) (fun _ => rfl), fun n h => optInt_ok (L := Ln Pr w) (γ := γ) h (fun z hz => by cases hz; exact ⟨_, rfl, hq⟩) (fun h => by cases h)⟩
        | some x => cases hi with
          | none =>
            obtain ⟨q, rfl, hq⟩ := RVs_one hrest'
            exact ⟨fun n h => optInt_ok (L := Ln Pr w) (γ := γ) h (fun z hz => by cases hz; exact ⟨_, rfl, hq⟩) (fun h => by cases h), fun n h => optInt_ok (L := Ln Pr w) (γ := γ) h (fun z hz => by cases hz) (fun _ => rfl)⟩
          | some y =>
            obtain ⟨q, q', rfl, hq, hq'⟩ := RVs_two hrest'
            exact ⟨fun n h => optInt_ok (L := Ln Pr w) (γ := γ) h (fun z hz => by cases hz; exact ⟨_, rfl, hq⟩) (fun h => by cases h), fun n h => optInt_ok (L := Ln Pr w) (γ := γ) h (fun z hz => by cases hz; exact ⟨_, rfl, hq'⟩) (fun h => by cases h)⟩
      split at hc'
      · rename_i l h s hl hh
        obtain ⟨kl, el⟩ := hbounds.1 _ hl
        obtain ⟨kh, eh⟩ := hbounds.2 _ hh
        rw [el, eh, val_str hp] at ho
        obtain ⟨rfl, z, h1, h2⟩ := cutStr_ok (P := P) (w := w) (L := Ln Pr w) (γ := γ) (kl := kl) (kh := kh) hU hc'
        exact owes_pure hI ho h1 h2
      · rename_i h e0 t0 r hl hh
        obtain ⟨kl, el⟩ := hbounds.1 _ hl
        obtain ⟨kh, eh⟩ := hbounds.2 _ hh
        rw [el, eh] at ho
        split at hc'
        · rename_i e t xs hg
          split at hc'
          · rename_i hst
            cases hst
            split at hc'
            · rename_i h0
              split at hc'
              · rename_i h1
                cases hc'
                obtain ⟨v', css, hv', hels, hown, hf⟩ := hI.res r _ (hk r _ hg)
                have h00 : γ r0 = none := hfr r0 (Nat.le_refl _) (by omega)
                generalize hx : a.eval i = x at *
                cases hp with
                | row hrow =>
                  rw [hv'] at hrow
                  cases hrow
                  have hh : h.toNat ≤ xs.length := by omega
                  obtain ⟨A, cap, rfl, hcap, hA⟩ : ∃ A cap, v' = .slice A xs.length cap ∧ xs.length ≤ cap ∧ w.ownsRow 0 e0 t0.sz (.slice A h.toNat cap) (xs.take h.toNat).length (css.take h.toNat).flatten := by
                    have hl : (xs.take h.toNat).length = h.toNat := by rw [List.length_take]; omega
                    have hfl : (css.take h.toNat).flatten.length = h.toNat * t0.sz := by
                      rw [flatten_take hels.lens, List.length_take, hels.flat]
                      exact Nat.min_eq_left (Nat.mul_le_mul_right _ hh)
                    rcases hown.2 with ⟨rfl, hn⟩ | ⟨g, cap, cur, rfl, hb, hheap, hnc, hcm, hcs, htake⟩
                    · refine ⟨none, 0, by rw [hn], by omega, by rw [hl]; exact hfl, .inl ⟨?_, by omega⟩⟩
                      rw [show h.toNat = 0 by omega]
                    · refine ⟨some ⟨g, 0, none⟩, cap, rfl, hnc, by rw [hl]; exact hfl, .inr ⟨g, cap, cur, by rw [hl], hb, hheap, by omega, hcm, hcs, ?_⟩⟩
                      rw [flatten_take hels.lens, hl, ← htake, List.take_take]
                      congr 1
                      exact (Nat.min_eq_left (Nat.mul_le_mul_right _ hh)).symm
                  have hels' : Els (Ln Pr w) t0 (xs.take h.toNat) (css.take h.toNat) := by
                    refine ⟨by rw [List.length_take, List.length_take, hels.1], fun j hj hj' => ?_⟩
                    rw [List.getElem_take, List.getElem_take]
                    exact hels.2 j (by rw [List.length_take] at hj; omega) (by rw [List.length_take] at hj'; omega)
                  obtain ⟨Pr', hI', hP'⟩ := hI.rebind (r0 := r0) (xs' := xs.take h.toNat) (css' := css.take h.toNat) (w' := w) (hk r _ hg) h00 hv' ⟨rfl, rfl, rfl, Nat.le_refl _, fun _ _ _ => rfl⟩ hA hels' (fun h => by cases h) ⟨_, _, _, rfl⟩ (fun b hb => .inl (by cases A <;> exact hb)) (fun h => by cases h)
                  · refine owes_new (u := .slice A h.toNat cap) (γ' := give γ r0 (.row e0 t0 (.slice A h.toNat cap))) (w' := w) (Pr' := Pr') hI' ?_ (.row give_same) give_far
                    · rw [ho]
                      have hs := sliceAt_ok (P := P) (w := w) (A := A) (lo := none) (hi := some h) (kl := kl) (kh := kh) hU hcap (Int.le_refl _) h0 h1
                      have hsl : sliced A (Option.getD (none : Option Int) 0).toNat (Option.getD (some h) (xs.length : Int)).toNat cap t0.sz = .slice A h.toNat cap := by
                        simp only [Option.getD_none, Option.getD_some, sliced, Int.toNat_zero, Nat.sub_zero, Nat.zero_mul]
                        split
                        · rfl
                        · cases A with
                          | none => rfl
                          | some ad =>
                            simp only [Option.map_some]
                            have : ad.add 0 = ad := by unfold Addr.add; simp
                            rw [this]
                      rw [hsl] at hs
                      simp only [Option.map_none] at hs ⊢
                      simp only [Sem.run_bind, hs, Result.andThen_ok, Sem.run_pure]
              · cases hc'
            · cases hc'
          · cases hc'
        · rename_i e t xs hg
          split at hc'
          · rename_i hst
            cases hst
            have hres := hI.res r _ (hk r _ hg)
            obtain ⟨v', hv', hrk⟩ := row_RK (Pr' := Pr) hres (fun _ _ h => h) (by
              obtain ⟨v', css, hv', he, hown, hf⟩ := hres
              intro b hb
              refine hf rfl b ?_
              simpa [blk, hv'] using hb)
            generalize hx : a.eval i = x at *
            cases hp with
            | row h =>
              rw [hv'] at h
              cases h
              obtain ⟨rfl, z, h1, h2⟩ := cut_ok (P := P) (w := w) (γ := γ) (kl := kl) (kh := kh) hU hrk hc'
              exact owes_pure hI ho h1 h2
          · cases hc'
        · rename_i e t xs hg
          split at hc'
          · rename_i hst
            cases hst
            obtain ⟨v', hv', hrk⟩ := hI.res r _ (hk r _ hg)
            generalize hx : a.eval i = x at *
            cases hp with
            | row h =>
              rw [hv'] at h
              cases h
              obtain ⟨rfl, z, h1, h2⟩ := cut_ok (P := P) (w := w) (γ := γ) (kl := kl) (kh := kh) hU hrk hc'
              exact owes_pure hI ho h1 h2
          · cases hc'
        · cases hc'
      · rename_i l h e t hl hh hne
        subst hpe
        obtain ⟨kl, el⟩ := hbounds.1 _ hl
        obtain ⟨kh, eh⟩ := hbounds.2 _ hh
        rw [el, eh] at ho
        split at hc'
        · rename_i xs hx
          obtain ⟨Pr', hI', hP, hR, _⟩ := freeze_read hI hk (rowsIn 9 p')
          obtain ⟨cs, hx', hrk⟩ := toVal_RV hR (d' := 9) (by omega) (fun r hr => hr) (RV_mono (fun b o v h => ⟨hP _ _ h.1, h.2⟩) (fun _ _ h => h) hp) hx
          obtain ⟨A, cap, rfl, hrk'⟩ := RK_slice_one hrk
          rw [hx'] at ho
          obtain ⟨rfl, z, h1, h2⟩ := cut_ok (P := P) (w := w) (γ := γ) (kl := kl) (kh := kh) hU hrk' hc'
          refine owes_run hI' ?_ h2
          rw [ho]
          have h1' : (Instr.sliceAt T (mk (.slice e t) [.slice A (xs : List t.den).length cap]) (Option.map (Value.int kl) l) (Option.map (Value.int kh) h) (Option.map a.eval none)).run P w = .ok z w := h1
          simp only [Sem.run_bind, h1', Result.andThen_ok, Sem.run_pure]
        · cases hc'
      · cases hc'
    · cases hc'
end
end Go.Proofs.Ytcfnhfbaakflgaa.Abs
