/- Rows made and rows appended to. -/
import Derived.Test.YtcfnhfbaakflgaaAbsCore4
set_option linter.unusedVariables false
set_option linter.unusedSimpArgs false
set_option linter.unusedSectionVars false
namespace Go.Proofs.Ytcfnhfbaakflgaa.Abs
open Go Go.RowKit

theorem made_flat {z : Array Value} {t : Ty} (hz : z.toList = zc t) (hsz : (zc t).length = t.sz) (n : Nat) : (List.replicate n (zc t)).flatten = (madeCells z (n * t.sz)).toList := by
  have hzs : z.size = t.sz := by rw [← Array.length_toList, hz, hsz]
  apply List.ext_getElem?
  intro j
  have hl : (List.replicate n (zc t)).flatten.length = n * t.sz := by simp [hsz]
  by_cases hj : j < n * t.sz
  · have hpos : 0 < t.sz := by
      rcases Nat.eq_zero_or_pos t.sz with h | h
      · rw [h] at hj
        omega
      · exact h
    have hq : j / t.sz < n := Nat.div_lt_of_lt_mul (by rwa [Nat.mul_comm])
    have hd : j / t.sz * t.sz + j % t.sz = j := by rw [Nat.mul_comm]; exact Nat.div_add_mod j t.sz
    have h1 := flatten_get (css := List.replicate n (zc t)) (n := t.sz) (fun c hc => by rw [List.eq_of_mem_replicate hc]; exact hsz) (i := j / t.sz) (j := j % t.sz) (c := zc t) (by rw [List.getElem?_replicate, if_pos hq]) (Nat.mod_lt _ hpos)
    rw [hd] at h1
    rw [h1, ← hz, Array.getElem?_toList]
    have hm : j % z.size < z.size := by rw [hzs]; exact Nat.mod_lt _ hpos
    have hg : (madeCells z (n * t.sz)).toList[j]? = some z[j % z.size]! := by
      simp [madeCells, hj]
    rw [hg, getElem!_pos z (j % z.size) hm, ← hzs]
    exact Array.getElem?_eq_getElem hm
  · rw [List.getElem?_eq_none (by omega), List.getElem?_eq_none (by rw [Array.length_toList, size_madeCells]; omega)]
theorem zc_len : ∀ t : Ty, (zc t).length = t.sz
  | .int _ => rfl
  | .bool => rfl
  | .str => rfl
  | .unit => rfl
  | .pair a b => by rw [zc, List.length_append, zc_len a, zc_len b]; rfl
  | .agg t => zc_len t
  | .slice _ _ => rfl
theorem Els_replicate {L : Lk} {t : Ty} (n : Nat) : Els L t (List.replicate n t.dflt) (List.replicate n (zc t)) := by
  refine ⟨by simp, fun i hi hi' => ?_⟩
  rw [List.getElem_replicate, List.getElem_replicate]
  exact RK_dflt t
section
variable {P : Program} {E : Env} {call : (I : FnI) → List SV → Tab → Option (I.sh.den × I.bx.den)} {w0 : World} {X : Nat → Prop} {Pr0 : Nat → Nat → Prop} {sl : List SV} {get : Nat → Option Res} {γ : Nat → Option G} {Pr : Nat → Nat → Prop}
  {a : Act} {w : World} {res : Tab} {r0 : Nat} {o : Oper} {vs : List SV} {v : SV} {u : Up}
theorem fills_ok {L : Lk} {rows : Nat → Prop} (hR : RowsOk L γ res rows) {t : Ty} (ht : t.sz = 1 ∨ ∃ u, t = .agg u) :
    ∀ (ps : List (Nat × SV)) (qs : List (Nat × Value)) (xs xs' : List t.den) (css : List (List Value)) (cs : Array Value), Alike (fun p q => p.1 = q.1 ∧ RV L γ p.2 q.2) ps qs → (∀ p ∈ ps, ∀ r ∈ rowsIn 9 p.2, rows r) → Els L t xs css → css.flatten = cs.toList →
      buildList res t ps xs = some xs' → ∃ css' cs', Instr.fill (fun i => some (i * t.sz, t.sz)) cs qs = some cs' ∧ Els L t xs' css' ∧ css'.flatten = cs'.toList ∧ xs'.length = xs.length
  | [], [], xs, xs', css, cs, _, _, he, hf, h => by
    cases h
    exact ⟨css, cs, rfl, he, hf, rfl⟩
  | (f, v) :: ps, (g, u) :: qs, xs, xs', css, cs, .cons hpq hps, hrow, he, hf, h => by
    obtain ⟨rfl, hv⟩ := hpq
    simp only [buildList] at h
    split at h
    · rename_i hlt
      have hlt : f < xs.length := by simpa [Nat.blt_eq] using hlt
      simp only [Option.bind_eq_some_iff] at h
      obtain ⟨x, hx, h⟩ := h
      obtain ⟨c, rfl, hc⟩ := toVal_RV hR (d' := 9) (by omega) (fun r hr => hrow _ (by simp) r hr) hv hx
      have hcells := RK_cells hc ht
      have hlen : c.length = t.sz := RK_len hc
      have hfl := he.flat
      have hmul : (f + 1) * t.sz ≤ xs.length * t.sz := Nat.mul_le_mul_right _ hlt
      rw [Nat.succ_mul] at hmul
      have hcs : cs.size = xs.length * t.sz := by rw [← Array.length_toList, ← hf, hfl]
      have hic : f < css.length := by rw [he.1]; exact hlt
      have hsp := flatten_splice he.lens (List.getElem?_eq_getElem hic) (o := 0) (d := c) (by omega)
      have h0 : splice css[f] 0 c = c := by
        have := he.lens _ (List.getElem_mem hic)
        simp [splice]
        omega
      rw [h0, Nat.add_zero] at hsp
      have hfold : ((mk t c).cells.zipIdx.foldl (fun cs (c, j) => cs.setIfInBounds (f * t.sz + j) c) cs) = (splice cs.toList (f * t.sz) c).toArray := by
        rw [hcells]
        exact fill_ok.fold_splice c cs (f * t.sz) (by omega)
      obtain ⟨css', cs', h1, h2, h3, h4⟩ := fills_ok hR ht ps qs (xs.set f x) xs' (css.set f c) (splice cs.toList (f * t.sz) c).toArray hps (fun p hp => hrow p (List.mem_cons_of_mem _ hp)) (Els_set he hc) (by rw [hsp, hf]) h
      refine ⟨css', cs', ?_, h2, h3, by rw [h4, List.length_set]⟩
      rw [Instr.fill]
      simp only
      rw [if_neg (by rw [hcells]; simp [hlen]; omega), hfold]
      exact h1
    · cases h
theorem op_buildSlice (H : Ahead P E call w0 X Pr0 sl get γ Pr a w res r0 o vs v u) {T : TypeId} {n : Nat} {ps : Array (Nat × Operand)} (hop : o.op = .buildSlice T n ps) : Done P w0 X Pr0 sl get γ Pr a w r0 o v u := by
  obtain ⟨hE, hI, hk, hfr, hv, hc⟩ := H
  rw [hop] at hv
  have hv' : RVs (Ln Pr w) γ vs ((ps.toList.map (·.2)).map a.eval) := hv
  unfold core at hc
  simp only [hop] at hc
  have hc' : (match (generalizing := false) nth E.ty T with
    | some (.slice e t) => match buildList res t ((ps.toList.map (·.1)).zip vs) (List.replicate n t.dflt), Nat.ble (n * t.sz) 16777216 with
      | some xs, true => ans (.row r0) (freeze res (vs.flatMap (rowsIn 9)) ++ [(r0, some (.row e t xs false))])
      | _, _ => none
    | _ => none) = some (v, u) := by
    rcases vs with _ | ⟨v1, _ | ⟨v2, _ | ⟨v3, vs⟩⟩⟩ <;> exact hc
  split at hc'
  · rename_i e t hT
    split at hc'
    · rename_i xs hb hle
      cases hc'
      obtain ⟨hU, hei, hsz, _⟩ := (nth_ok hE hT).1
      obtain ⟨i, hi1, hi2, z, hz, hzc⟩ := hei.info
      obtain ⟨Pr', hI', hP, hR, _⟩ := freeze_read hI hk (vs.flatMap (rowsIn 9))
      have hL : ∀ b o v, Ln Pr w b o v → Ln Pr' w b o v := fun b o v h => ⟨hP _ _ h.1, h.2⟩
      have hal := forall2_zip (ks := ps.toList.map (·.1)) (RVs_mono hL (fun _ _ h => h) hv')
      rw [zip_map] at hal
      have hcs0 : (List.replicate n (zc t)).flatten = (madeCells z.cells (n * t.sz)).toList := made_flat hzc (zc_len t) n
      obtain ⟨css', cs', h1, h2, h3, h4⟩ := fills_ok hR hei.one _ _ _ _ _ (madeCells z.cells (n * t.sz)) hal (by
        intro p hp r hr
        simp only [List.mem_flatMap]
        exact ⟨p.2, (List.of_mem_zip (a := p.1) (b := p.2) hp).2, hr⟩) (Els_replicate n) hcs0 hb
      rw [List.length_replicate] at h4
      have hn : n * t.sz ≤ 16777216 := Nat.le_of_ble_eq_true hle
      have hnn : n ≤ n * t.sz := Nat.le_mul_of_pos_right _ hsz
      have h00 : γ r0 = none := hfr r0 (Nat.le_refl _) (by omega)
      have hrow := hI'.newRow h00 (e := e) (xs := xs) (cs := cs') h2 h3 (by rw [h4]; exact Nat.le_trans (Nat.le_trans hnn hn) (by decide))
      rw [h4] at hrow
      refine owes_new (u := .slice (some ⟨w.heap.size, 0, none⟩) n n) (w' := w.alloc (.cells cs' e)) (Pr' := Pr') (by rw [updG_append]; exact hrow) ?_ (.row give_same) give_far
      have hrun : (Instr.buildSlice T n (ps.map fun (i, x) => (i, a.eval x))).run P w = .ok (.slice (some ⟨w.heap.size, 0, none⟩) n n) (w.alloc (.cells cs' e)) := by
        simp only [Instr.buildSlice, Sem.run_bind, run_underlying hU, Result.andThen_ok, hei.sizeOf]
        rw [if_neg (by omega)]
        simp only [Sem.run_bind, Sem.run_pure, Result.andThen_ok, Array.toList_map]
        by_cases h0 : n * t.sz = 0
        · rw [if_pos h0]
          have hcells : Array.map (fun x => (#[] : Array Value)[x % (#[] : Array Value).size]!) (Array.range (n * t.sz)) = madeCells z.cells (n * t.sz) := by simp [h0, madeCells, Array.range_zero']
          simp only [Sem.run_bind, Sem.run_pure, Result.andThen_ok, hcells, h1]
          simp only [newRow, Sem.run_bind, run_newObj_alloc, Result.andThen_ok, Sem.run_pure]
        · rw [if_neg h0]
          have hcells : Array.map (fun x => z.cells[x % z.cells.size]!) (Array.range (n * t.sz)) = madeCells z.cells (n * t.sz) := rfl
          simp only [zeroValue, typeInfo, Sem.run_bind, run_program, hi1, Sem.run_pure, Result.andThen_ok, hz, hcells, h1]
          simp only [newRow, Sem.run_bind, run_newObj_alloc, Result.andThen_ok, Sem.run_pure]
      simp only [execOp, hop, Sem.run_bind, hrun, Result.andThen_ok, Sem.run_pure]
    · cases hc'
  · cases hc'
theorem op_makeSlice (H : Ahead P E call w0 X Pr0 sl get γ Pr a w res r0 o vs v u) {T : TypeId} {i j : Operand} (hop : o.op = .makeSlice T i j) : Done P w0 X Pr0 sl get γ Pr a w r0 o v u := by
  obtain ⟨hE, hI, hk, hfr, hv, hc⟩ := H
  rw [hop] at hv
  obtain ⟨p, q, rfl, hp, hq⟩ := RVs_two hv
  unfold core at hc
  simp only [hop] at hc
  have ho : execOp a.eval o = (do pure (.value (← Instr.makeSlice T (a.eval i) (a.eval j)))) := by simp only [execOp, hop]
  split at hc
  · rename_i e t k n hT hsame
    · split at hc
      · rename_i nb hnb
        split at hc
        · rename_i h0
          split at hc
          · rename_i hle
            cases hc
            obtain ⟨hU, hei, hsz, _⟩ := (nth_ok hE hT).1
            obtain ⟨x, hi1, hi2, z, hz, hzc⟩ := hei.info
            obtain ⟨hby, hpos⟩ := hE.by_ e nb x hnb hi1
            have hj : ∃ k', a.eval j = .int k' n := by
              have hi := val_int hp
              cases i with
              | tmp m => cases j with
                | tmp m' =>
                  have : m = m' := Nat.eq_of_beq_eq_true hsame
                  subst this
                  exact ⟨_, hi⟩
                | _ => simp [sameOp] at hsame
              | const c => cases j with
                | const c' =>
                  have hi' : c = .int k n := hi
                  subst hi'
                  cases c' <;> simp [sameOp] at hsame
                  subst hsame
                  exact ⟨_, rfl⟩
                | _ => simp [sameOp] at hsame
              | _ => simp [sameOp] at hsame
            obtain ⟨k', hj⟩ := hj
            rw [val_int hp, hj] at ho
            have hnn : ((n.toNat : Nat) : Int) = n := Int.toNat_of_nonneg h0
            have hn1 : n.toNat ≤ n.toNat * nb := Nat.le_mul_of_pos_right _ hpos
            have hn2 : n.toNat ≤ 140737488355328 := Nat.le_trans hn1 hle
            have hbytes : (x.bytes : Int) * n ≤ 281474976710656 := by
              rw [hby, ← hnn, ← Int.natCast_mul, Nat.mul_comm]
              omega
            have hrun := run_make (P := P) w T e x z hU hi1 hz k k' n n h0 (Int.le_refl _) hbytes (by omega)
            have h00 : γ r0 = none := hfr r0 (Nat.le_refl _) (by omega)
            have hrow := hI.newRow h00 (e := e) (t := t) (xs := List.replicate n.toNat t.dflt) (css := List.replicate n.toNat (zc t)) (cs := madeCells z.cells (n.toNat * x.size)) (Els_replicate _) (by rw [hi2]; exact made_flat hzc (zc_len t) _) (by rw [List.length_replicate]; simp only [maxLen]; omega)
            rw [List.length_replicate] at hrow
            refine owes_new (u := .slice (some ⟨w.heap.size, 0, none⟩) n.toNat n.toNat) (w' := w.alloc (.cells (madeCells z.cells (n.toNat * x.size)) e)) (Pr' := Pr) hrow ?_ (.row give_same) give_far
            rw [ho]
            simp only [Sem.run_bind, hrun, Result.andThen_ok, Sem.run_pure]
          · cases hc
        · cases hc
      · cases hc
  · cases hc
/-! ### Append -/
theorem append_none {T e ty : TypeId} {i : TypeInfo} {n c : Nat} {v : Value} {xs : List Value} {size : Nat} (hU : P.underlying T = some (.slice e)) (hi : P.info? e = some i) (hown : w.ownsRow 0 e size v n xs) :
    (Builtin.append_ #[T, T] ty #[v, .slice none 0 c]).run P w = .ok v w := by
  rcases hown.2 with ⟨rfl, rfl⟩ | ⟨g, cap, cur, rfl, _, _, hnc, _⟩
  · simp [Builtin.append_, run_underlying hU, sizeOf, typeInfo, hi, Builtin.lenOf, Builtin.firstCells]
  · simp [Builtin.append_, run_underlying hU, sizeOf, typeInfo, hi, Builtin.lenOf, Builtin.firstCells, hnc, storeCells]
theorem append_run {T e ty : TypeId} {i : TypeInfo} {z : Value} {size : Nat} (hU : P.underlying T = some (.slice e)) (hi : P.info? e = some i) (hz : i.zero = some z) (hsize : i.size = size) (hzs : z.cells.size = size) (hsz : 0 < size)
    {v : Value} {n : Nat} {xs : List Value} (hown : w.ownsRow 0 e size v n xs) {A : Option Addr} {m c : Nat} {news : List Value} (hl : news.length = m * size) (hA : m ≠ 0 → ∃ ad, A = some ad ∧ ∀ j u, news[j]? = some u → w.cell? (ad.add j) = some u) (h1 : ∀ u ∈ news, u.oneCell' = true)
    (h63 : n + m ≤ maxLen) (hbytes : (n + m) * i.bytes ≤ 140737488355328) :
    ∃ v' w', (Builtin.append_ #[T, T] ty #[v, .slice A m c]).run P w = .ok v' w' ∧ w'.ownsRow 0 e size v' (n + m) (xs ++ news) ∧ w.grownBy w' v.ownBlock ∧ (∃ A n c, v' = .slice A n c) ∧
      (∀ b, v'.ownBlock = some b → v.ownBlock = some b ∨ w.heap.size ≤ b) ∧ ∀ b, v.ownBlock = some b → ∀ j, j < xs.length → w'.cell? ⟨b, j, none⟩ = w.cell? ⟨b, j, none⟩ := by
  have hvs : ∃ A n c, v = .slice A n c := by
    rcases hown.2 with ⟨rfl, _⟩ | ⟨g, cap, cur, rfl, _⟩ <;> exact ⟨_, _, _, rfl⟩
  by_cases hm : A = none
  · subst hm
    have hm : m = 0 := by
      by_cases h : m = 0
      · exact h
      · obtain ⟨ad, h', _⟩ := hA h
        cases h'
    subst hm
    have hn : news = [] := List.eq_nil_of_length_eq_zero (by simpa using hl)
    subst hn
    refine ⟨v, w, append_none hU hi hown, by simpa using hown, ⟨rfl, rfl, rfl, Nat.le_refl _, fun _ _ _ => rfl⟩, hvs, fun b hb => .inl hb, fun b hb j hj => rfl⟩
  · obtain ⟨ad, rfl⟩ : ∃ ad, A = some ad := by
      cases A with
      | none => exact absurd rfl hm
      | some ad => exact ⟨ad, rfl⟩
    have hnews : ∀ j u, news[j]? = some u → w.cell? (ad.add j) = some u := by
      intro j u hj
      by_cases h : m = 0
      · subst h
        have hn : news = [] := List.eq_nil_of_length_eq_zero (by simpa using hl)
        subst hn
        simp at hj
      · obtain ⟨ad', h', hc⟩ := hA h
        cases h'
        exact hc j u hj
    have hsmall : n + m ≤ 9223372036854775807 := by simp only [maxLen] at h63; omega
    have hlen : (xs ++ news).length = (n + m) * size := by rw [List.length_append, hown.1, hl, Nat.add_mul]
    subst hsize
    have grown : ∀ (old : Nat), old < n + m →
        (w.drew.alloc (.cells (xs.toArray ++ news.toArray ++ Builtin.zeroCells z.cells (grownCap w (n + m) old e - (n + m))) e)).ownsRow 0 e i.size
          (.slice (some ⟨w.heap.size, 0, none⟩) (n + m) (grownCap w (n + m) old e)) (n + m) (xs ++ news) := by
      intro old ho
      have hge := grownCap_ge w (n + m) old e
      have hcm : grownCap w (n + m) old e ≤ maxLen := grownCap_le_maxLen w (n + m) old e h63
      refine ⟨hlen, .inr ⟨w.heap.size, _, _, rfl, Nat.zero_le _, heap_alloc_new w.drew _, hge, hcm, ?_, ?_⟩⟩
      · simp only [Array.size_append, List.size_toArray, size_zeroCells, hzs, hown.1, hl, ← Nat.add_mul]
        congr 1
        omega
      · simp only [Array.toList_append, List.append_assoc]
        rw [← List.append_assoc, ← hlen]
        exact List.take_left
    rcases hown.2 with ⟨rfl, rfl⟩ | ⟨g, cap, cur, rfl, hbg, hg, hnc, hcm, hcs, htake⟩
    · have hx : xs = [] := List.eq_nil_of_length_eq_zero (by simpa using hown.1)
      subst hx
      by_cases hm : m = 0
      · subst hm
        have hn : news = [] := List.eq_nil_of_length_eq_zero (by simpa using hl)
        subst hn
        refine ⟨.slice none 0 0, w, ?_, World.ownsRow_nil w 0 e i.size, ⟨rfl, rfl, rfl, Nat.le_refl _, fun _ _ _ => rfl⟩, ⟨_, _, _, rfl⟩, (fun b hb => by cases hb), (fun b hb => by cases hb)⟩
        simp [Builtin.append_, run_underlying hU, sizeOf, typeInfo, hi, Builtin.lenOf, Builtin.firstCells, loadCells, loadCellsFrom]
      · have hr := run_append_nil (P := P) w T ty e i z hU hi hz ad m c news hl hnews (by omega) (by omega) (by have hb := hbytes; simp only [Nat.zero_add] at hb; omega)
        have hgr := grown 0 (by omega)
        simp only [Nat.zero_add, List.nil_append, Array.empty_append] at hgr ⊢
        exact ⟨_, _, hr, hgr, ⟨rfl, rfl, rfl, by simp, fun k hk _ => heap_alloc_old w.drew _ hk⟩, ⟨_, _, _, rfl⟩, (fun b hb => by cases hb; exact .inr (Nat.le_refl _)), (fun b hb => by cases hb)⟩
    · by_cases hroom : n + m ≤ cap
      · have hfit : n * i.size + news.length ≤ cur.size := by rw [hl, hcs, ← Nat.add_mul]; exact Nat.mul_le_mul_right _ hroom
        have hr := run_append_room (P := P) w T ty e i hU hi g n cap cur hg ad m c news hl hnews h1 hroom hfit
        refine ⟨_, _, hr, ⟨hlen, .inr ⟨g, cap, _, rfl, hbg, setRow_heap w g cur _ e _ hg, hroom, hcm, ?_, ?_⟩⟩, ⟨rfl, rfl, rfl, by simp, fun k _ hk => setRow_other w g k _ (fun e => hk (by simp [Value.ownBlock, e]))⟩, ⟨_, _, _, rfl⟩, fun b hb => .inl hb, ?_⟩
        · simp only [List.size_toArray, List.length_append, List.length_take, List.length_drop, Array.length_toList]
          omega
        · rw [htake, ← hlen]
          exact List.take_left
        · intro b hb j hj
          cases hb
          rw [cell_of_row _ g j _ e (0, 0) (setRow_heap w g cur _ e _ hg), cell_of_row w g j cur e (0, 0) hg]
          have hjl : j < n * i.size := by rw [hown.1] at hj; exact hj
          rw [List.getElem?_toArray, List.append_assoc, List.getElem?_append_left (by rw [List.length_take, Array.length_toList]; omega), List.getElem?_take, if_pos hjl, Array.getElem?_toList]
      · have holds : ∀ j u, xs[j]? = some u → w.cell? ((⟨g, 0, none⟩ : Addr).add j) = some u := hown.cells (g := g) rfl
        have hr := run_append_grow (P := P) w T ty e i z hU hi hz ⟨g, 0, none⟩ n cap xs hown.1 holds ad m c news hl hnews (by omega) (by omega) (growslice_fits (by omega) hbytes)
        refine ⟨_, _, hr, grown cap (by omega), ⟨rfl, rfl, rfl, by simp, fun k hk _ => heap_alloc_old w.drew _ hk⟩, ⟨_, _, _, rfl⟩, (fun b hb => by cases hb; exact .inr (Nat.le_refl _)), fun b hb j hj => ?_⟩
        cases hb
        have hlt : g < w.heap.size := (Array.getElem?_eq_some_iff.1 hg).1
        exact World.cell?_of_block (heap_alloc_old w.drew _ hlt)
/-- The cells of a row that is led to. -/
theorem RK_news {L : Lk} {e : TypeId} {t : Ty} {ys : List t.den} {A : Option Addr} {cap : Nat} (hL : ∀ b o v, L b o v → w.cell? ⟨b, o, none⟩ = some v) (h : RK L (.slice e t) ys [.slice A ys.length cap]) :
    ∃ css, Els L t ys css ∧ (ys.length ≠ 0 → ∃ ad, A = some ad ∧ ∀ j u, css.flatten[j]? = some u → w.cell? (ad.add j) = some u) := by
  obtain ⟨A', cap', he, hc, hA⟩ := h
  cases he
  by_cases hy : ys = []
  · subst hy
    exact ⟨[], ⟨rfl, fun i hi => by simp at hi⟩, fun h => absurd rfl h⟩
  · obtain ⟨b, o, rfl, hh⟩ := hA hy
    have hch : ∀ i : Fin ys.length, ∃ c, RK L t ys[i] c ∧ ∀ j v, c[j]? = some v → L b (o + i * t.sz + j) v := fun i => hh i i.2
    have hE : Els L t ys (List.ofFn fun i : Fin ys.length => Classical.choose (hch i)) := by
      refine ⟨by simp, fun i hi hi' => ?_⟩
      rw [List.getElem_ofFn]
      exact (Classical.choose_spec (hch ⟨i, hi⟩)).1
    refine ⟨_, hE, fun _ => ⟨_, rfl, fun j u hj => ?_⟩⟩
    have hlt : j < ys.length * t.sz := by
      rw [← hE.flat]
      exact (List.getElem?_eq_some_iff.1 hj).1
    have hpos : 0 < t.sz := by
      rcases Nat.eq_zero_or_pos t.sz with h | h
      · rw [h] at hlt
        omega
      · exact h
    have hq : j / t.sz < ys.length := Nat.div_lt_of_lt_mul (by rwa [Nat.mul_comm])
    have hd : j / t.sz * t.sz + j % t.sz = j := by rw [Nat.mul_comm]; exact Nat.div_add_mod j t.sz
    have h1 := flatten_get hE.lens (i := j / t.sz) (j := j % t.sz) (c := Classical.choose (hch ⟨j / t.sz, hq⟩)) (by simp [List.getElem?_ofFn, hq]) (Nat.mod_lt _ hpos)
    rw [hd, hj] at h1
    have := hL _ _ _ ((Classical.choose_spec (hch ⟨j / t.sz, hq⟩)).2 _ _ h1.symm)
    rw [add_lit]
    rw [Nat.add_assoc, hd] at this
    exact this
theorem hI_gs (hI : Inv w0 X Pr0 sl get γ Pr a w) {r : Nat} {e : TypeId} {t : Ty} {v : Value} (h : γ r = some (.row e t v)) : ∃ A n c, v = .slice A n c := hI.gs r e t v h
theorem append_ok (hE : EnvOk P E) (hI : Inv w0 X Pr0 sl get γ Pr a w) (hk : ∀ r x, getR res r = some x → get r = some x) (hfr : ∀ r, r0 ≤ r → r < r0 + 64 → γ r = none) {args : Array TypeId} {ty : TypeId} {s x : SV} {p q : Value} (hp : RV (Ln Pr w) γ s p) (hq : RV (Ln Pr w) γ x q)
    (hc : appendSV E args s x res r0 ans = some (v, u)) :
    ∃ z w' γ' Pr', (Builtin.append_ args ty #[p, q]).run P w = .ok z w' ∧ Inv w0 X Pr0 sl (updG get u) γ' Pr' a w' ∧ RV (Ln Pr' w') γ' v z ∧ ∀ r, ¬ (r0 ≤ r ∧ r < r0 + 64) → γ' r = γ r := by
  unfold appendSV at hc
  split at hc
  · rename_i T T' r hargs
    split at hc
    · rename_i e t e' t' xs0 fr hT hTT hg
      split at hc
      · rename_i xs ys nb hcast hys hnot hnb
        obtain ⟨he, rfl⟩ := cast_eq hcast
        cases he
        split at hc
        · rename_i hle
          cases hc
          have hTe : T = T' := Nat.eq_of_beq_eq_true hTT
          subst hTe
          have hargs' : args = #[T, T] := by
            apply Array.toList_inj.1
            exact hargs
          subst hargs'
          obtain ⟨hU, hei, hsz, _⟩ := (nth_ok hE hT).1
          obtain ⟨i, hi1, hi2, z, hz, hzc⟩ := hei.info
          obtain ⟨hby, hpos⟩ := hE.by_ e nb i hnb hi1
          obtain ⟨Pr', hI', hP, hR, hsame, _⟩ := freeze_read hI hk (rowsIn 9 x)
          have hL : ∀ b o v, Ln Pr w b o v → Ln Pr' w b o v := fun b o v h => ⟨hP _ _ h.1, h.2⟩
          have hrn : r ∉ rowsIn 9 x := not_has hnot
          have hgr : updG get (freeze res (rowsIn 9 x)) r = some (.row e t xs0 fr) := (hsame r hrn).trans (hk r _ hg)
          obtain ⟨c, rfl, hrk⟩ := toVal_RV hR (d' := 9) (by omega) (fun r hr => hr) (RV_mono hL (fun _ _ h => h) hq) hys
          obtain ⟨A, cap, rfl, hrk'⟩ := RK_slice_one hrk
          obtain ⟨v1, css, hv1, hels, hown, _⟩ := hI'.res r _ hgr
          cases hp with
          | row h =>
            rw [hv1] at h
            cases h
            obtain ⟨dss, hdss, hnews⟩ := RK_news (w := w) (fun b o v h => h.2) hrk'
            have hone : ∀ u ∈ dss.flatten, u.oneCell' = true := hdss.ones
            have hlenle : xs0.length + (ys : List t.den).length ≤ (xs0.length + (ys : List t.den).length) * nb := Nat.le_mul_of_pos_right _ hpos
            have hmax : xs0.length + (ys : List t.den).length ≤ maxLen := by
              simp only [maxLen]
              have := Nat.le_trans hlenle hle
              omega
            obtain ⟨v', w', h1, h2, h3, h4, h5, h6⟩ := append_run (P := P) (w := w) (ty := ty) (c := cap) (A := A) hU hi1 hz hi2 (by rw [← Array.length_toList, hzc, zc_len]) hsz hown hdss.flat hnews hone hmax (by rw [hby]; exact hle)
            have h00 : γ r0 = none := hfr r0 (Nat.le_refl _) (by omega)
            obtain ⟨Pr'', hI'', hP''⟩ := hI'.rebind (r0 := r0) (xs' := xs0 ++ (ys : List t.den)) (css' := css ++ dss) (v' := v') (w' := w') hgr h00 hv1 h3 (by rw [List.length_append, List.flatten_append]; exact h2) (Els_app hels hdss) (fun _ b hb o ho => h6 b hb o (by rw [hels.flat]; exact ho)) h4 h5 (fun _ => by rw [List.length_append]; omega)
            refine ⟨v', w', give γ r0 (.row e t v'), Pr'', h1, ?_, .row give_same, give_far⟩
            rw [updG_append]
            exact hI''
        · cases hc
      · cases hc
    · cases hc
  · cases hc
theorem min_max {k : IntKind} : ∀ (l : List SV) (us : List Value) (n : Int) (m : Int) {L : Lk}, RVs L γ l us →
    (foldInt (fun x y => if y < x then y else x) k l n = some m → (us.foldlM Builtin.min2 (.int k n)).run P w = .ok (.int k m) w) ∧ (foldInt (fun x y => if x < y then y else x) k l n = some m → (us.foldlM Builtin.max2 (.int k n)).run P w = .ok (.int k m) w)
  | [], [], n, m, L, _ => by
    constructor
    · intro h
      cases h
      rfl
    · intro h
      cases h
      rfl
  | x :: l, u :: us, n, m, L, .cons h hs => by
    constructor
    · intro hf
      unfold foldInt at hf
      split at hf
      · cases ‹_ :: _ = []›
      · rename_i k' y l' he
        cases he
        split at hf
        · rename_i hk
          subst hk
          rw [val_int h]
          simp only [List.foldlM_cons, Builtin.min2, Sem.run_bind, Sem.run_pure, Result.andThen_ok]
          exact (min_max l us _ m hs).1 hf
        · cases hf
      · cases hf
    · intro hf
      unfold foldInt at hf
      split at hf
      · cases ‹_ :: _ = []›
      · rename_i k' y l' he
        cases he
        split at hf
        · rename_i hk
          subst hk
          rw [val_int h]
          simp only [List.foldlM_cons, Builtin.max2, Sem.run_bind, Sem.run_pure, Result.andThen_ok]
          exact (min_max l us _ m hs).2 hf
        · cases hf
      · cases hf
theorem op_builtin (H : Ahead P E call w0 X Pr0 sl get γ Pr a w res r0 o vs v u) {b : Builtin} {args : Array Operand} {argTypes : Array TypeId} (hop : o.op = .call { callee := .builtin b, args := args, argTypes := argTypes }) : Done P w0 X Pr0 sl get γ Pr a w r0 o v u := by
  obtain ⟨hE, hI, hk, hfr, hv, hc⟩ := H
  rw [hop] at hv
  have hv' : RVs (Ln Pr w) γ vs (args.toList.map a.eval) := hv
  unfold core at hc
  simp only [hop] at hc
  have hc' : builtin2 E b argTypes o.type vs res r0 ans = some (v, u) := by
    rcases vs with _ | ⟨v1, _ | ⟨v2, _ | ⟨v3, vs⟩⟩⟩ <;> exact hc
  have hargs : args.map a.eval = (args.toList.map a.eval).toArray := by
    apply Array.toList_inj.1
    simp
  have ho : ∀ (s : Sem Value), (∀ consts, builtin b argTypes o.type consts (args.map a.eval) = (do pure (.value (← s)))) → execOp a.eval o = (do pure (.value (← s))) := by
    intro s hs
    simp only [execOp, hop, resolve, pure_bind, invoke]
    exact hs _
  unfold builtin2 at hc'
  have hone : ∀ {x : SV}, vs = [x] → ∃ p, args.map a.eval = #[p] ∧ RV (Ln Pr w) γ x p := by
    intro x hx
    subst hx
    rw [hargs]
    generalize args.toList.map a.eval = us at hv'
    cases hv' with
    | cons h1 hv' =>
      cases hv'
      exact ⟨_, rfl, h1⟩
  have hmany : ∀ {x : SV} {l : List SV}, vs = x :: l → ∃ p us, args.map a.eval = (p :: us).toArray ∧ RV (Ln Pr w) γ x p ∧ RVs (Ln Pr w) γ l us := by
    intro x l hx
    subst hx
    rw [hargs]
    generalize args.toList.map a.eval = us at hv'
    cases hv' with
    | cons h1 hv' => exact ⟨_, _, rfl, h1, hv'⟩
  split at hc'
  · split at hc'
    · rename_i x
      obtain ⟨p, ha, h1⟩ := hone rfl
      have ho' := ho (Builtin.len_ argTypes o.type (args.map a.eval)) (fun _ => rfl)
      rw [ha] at ho'
      obtain ⟨x', hx'⟩ : ∃ x', x' = x := ⟨x, rfl⟩
      unfold lenSV at hc'
      split at hc'
      · rename_i s hT
        cases hc'
        rw [val_str h1] at ho'
        refine owes_pure hI ho' ?_ int_val
        rw [Option.bind_eq_some_iff] at hT
        obtain ⟨T, hT0, hT⟩ := hT
        have hu : P.underlying T = some .string := (nth_ok hE hT).1
        simp only [Builtin.len_, hT0, List.getElem?_toArray, List.getElem?_cons_zero, Sem.run_bind, run_underlying hu, Result.andThen_ok, Sem.run_pure]
        rfl
      · rename_i e t hT
        subst hx'
        split at hc'
        · rename_i xs hx
          cases hc'
          obtain ⟨cs, rfl, hrk⟩ := readT hI hk h1 hx
          obtain ⟨A, cap, rfl, _⟩ := RK_slice_one hrk
          refine owes_pure hI ho' ?_ int_val
          rw [Option.bind_eq_some_iff] at hT
          obtain ⟨T, hT0, hT⟩ := hT
          have hu : P.underlying T = some (.slice e) := (nth_ok hE hT).1.1
          simp only [Builtin.len_, hT0, List.getElem?_toArray, List.getElem?_cons_zero, Sem.run_bind, run_underlying hu, Result.andThen_ok, mk, List.headD_cons, Sem.run_pure]
          rfl
        · cases hc'
      · cases hc'
    · cases hc'
  · split at hc'
    · rename_i s x
      obtain ⟨p, us, ha, h1, h2⟩ := hmany rfl
      obtain ⟨q, rfl, h3⟩ : ∃ q, us = [q] ∧ RV (Ln Pr w) γ x q := by
        cases h2 with
        | cons h k =>
          cases k
          exact ⟨_, rfl, h⟩
      obtain ⟨z, w', γ', Pr', hr, hI', hz, hγ⟩ := append_ok (ty := o.type) hE hI hk hfr h1 h3 hc'
      refine owes_new hI' ?_ hz hγ
      rw [ho (Builtin.append_ argTypes o.type (args.map a.eval)) (fun _ => rfl), ha]
      simp only [Sem.run_bind, hr, Result.andThen_ok, Sem.run_pure]
    · cases hc'
  · split at hc'
    · rename_i x l
      obtain ⟨p, us, ha, h1, h2⟩ := hmany rfl
      have ho' := ho (Builtin.min_ argTypes o.type (args.map a.eval)) (fun _ => rfl)
      rw [ha] at ho'
      unfold foldSV at hc'
      split at hc'
      · split at hc'
        · rename_i hm
          cases hc'
          rw [val_int h1] at ho'
          exact owes_pure hI ho' ((min_max l us _ _ h2).1 hm) int_val
        · cases hc'
      · cases hc'
    · cases hc'
  · split at hc'
    · rename_i x l
      obtain ⟨p, us, ha, h1, h2⟩ := hmany rfl
      have ho' := ho (Builtin.max_ argTypes o.type (args.map a.eval)) (fun _ => rfl)
      rw [ha] at ho'
      unfold foldSV at hc'
      split at hc'
      · split at hc'
        · rename_i hm
          cases hc'
          rw [val_int h1] at ho'
          exact owes_pure hI ho' ((min_max l us _ _ h2).2 hm) int_val
        · cases hc'
      · cases hc'
    · cases hc'
  · split at hc'
    · rename_i x
      obtain ⟨p, ha, h1⟩ := hone rfl
      have ho' := ho (Builtin.clear_ argTypes o.type (args.map a.eval)) (fun _ => rfl)
      rw [ha] at ho'
      unfold clearSV at hc'
      split at hc'
      · rename_i e t r n hT
        split at hc'
        · rename_i e1 t1 xs hg
          split at hc'
          · rename_i hst
            cases hst
            cases hc'
            rw [Option.bind_eq_some_iff] at hT
            obtain ⟨T, hT0, hT⟩ := hT
            obtain ⟨hu, hie, _⟩ := (nth_ok hE hT).1
            have hgr := hk r _ hg
            cases h1 with
            | tail h h0 hn hcap =>
              rename_i b m cap e2 t2
              obtain ⟨v1, css, hv1, hels, hown, _⟩ := hI.res r _ hgr
              rw [h] at hv1
              cases hv1
              have hown' := hown
              rcases hown.2 with ⟨hnil, _⟩ | ⟨g, cap', cur, hs, _, hh, hnc, hcm, hcs, htake⟩
              · cases hnil
              · cases hs
                have hbb : blk γ r (.row e t xs false) = some b := by simp [blk, h, Value.ownBlock]
                have hnl : ∀ o, ¬ Pr b o := fun o ho => hI.loose r _ b hgr hbb o ho
                have hzl : ((List.replicate (xs.length - n.toNat) (zc t)).flatten).length = (xs.length - n.toNat) * t.sz := by
                  rw [List.length_flatten, List.map_replicate, zc_len, List.sum_replicate_nat]
                have hflen : css.flatten.length = xs.length * t.sz := hels.flat
                have hsum : n.toNat * t.sz + (xs.length - n.toNat) * t.sz = xs.length * t.sz := by rw [← Nat.add_mul]; congr 1; omega
                have hmul2 : xs.length * t.sz ≤ cap * t.sz := Nat.mul_le_mul_right _ hnc
                have hcell : ∀ b1 o1 v1, some b = some b1 → Pr b1 o1 → w.cell? ⟨b1, o1, none⟩ = some v1 → (w.setRow b (splice cur.toList (n.toNat * t.sz) (List.replicate (xs.length - n.toNat) (zc t)).flatten).toArray).cell? ⟨b1, o1, none⟩ = some v1 := fun b1 o1 v1 he ho => by
                  cases he
                  exact absurd ho (hnl _)
                have hcl : (css.take n.toNat ++ List.replicate (xs.length - n.toNat) (zc t)).flatten = splice css.flatten (n.toNat * t.sz) (List.replicate (xs.length - n.toNat) (zc t)).flatten := by
                  rw [List.flatten_append, flatten_take hels.lens]
                  unfold splice
                  rw [List.drop_eq_nil_of_le (by rw [hzl, hflen]; omega), List.append_nil]
                have hli : (xs.take n.toNat ++ List.replicate (xs.length - n.toNat) t.dflt).length = xs.length := by
                  rw [List.length_append, List.length_take, List.length_replicate]
                  omega
                refine owes_new (w' := w.setRow b (splice cur.toList (n.toNat * t.sz) (List.replicate (xs.length - n.toNat) (zc t)).flatten).toArray) (u := .tuple #[]) (Pr' := Pr)
                  (hI.turn r (some (.row e t (xs.take n.toNat ++ List.replicate (xs.length - n.toNat) t.dflt) false)) (some b) (setRow_grown b _) (fun _ _ h => h) (fun _ _ => rfl) (fun e t v h => hI.gs r e t v h) (fun b t h => hI.wfs r b t h) ?_ (fun _ _ h => h) (fun b o h => .inl h) hcell ?_ ?_) ?_ .undef (fun _ _ => rfl)
                · intro b1 he
                  cases he
                  exact ⟨hI.where_ r _ b hgr hbb, fun r' x hne hx => hI.apart r r' _ x b hgr hx (fun e => hne e.symm) hbb⟩
                · intro x' hx'
                  cases hx'
                  refine ⟨_, css.take n.toNat ++ List.replicate (xs.length - n.toNat) (zc t), h, Els_mono (Ln_turn hI.prIn (setRow_grown b _) (fun _ _ h => h) hcell) ?_, ?_, fun h => by cases h⟩
                  · refine ⟨by rw [hli, List.length_append, List.length_take, List.length_replicate, hels.1]; omega, fun j hj hj' => ?_⟩
                    by_cases hjn : j < n.toNat
                    · rw [List.getElem_append_left (by rw [List.length_take]; omega), List.getElem_append_left (by rw [List.length_take, hels.1]; omega), List.getElem_take, List.getElem_take]
                      exact hels.2 j (by omega) (by rw [hels.1]; omega)
                    · rw [List.getElem_append_right (by rw [List.length_take]; omega), List.getElem_append_right (by rw [List.length_take]; omega), List.getElem_replicate, List.getElem_replicate]
                      exact RK_dflt t
                  · rw [hcl, hli]
                    have hle : n.toNat * t.sz + ((List.replicate (xs.length - n.toNat) (zc t)).flatten).length ≤ xs.length * t.sz := by rw [hzl]; omega
                    refine ⟨by rw [splice_len (by rw [hflen]; exact hle)]; exact hflen, .inr ⟨b, cap, _, rfl, Nat.zero_le _, setRow_heap w b cur _ e (0, 0) hh, hnc, hcm, ?_, ?_⟩⟩
                    · have hsl : (splice cur.toList (n.toNat * t.sz) (List.replicate (xs.length - n.toNat) (zc t)).flatten).length = cur.toList.length := splice_len (by rw [Array.length_toList (xs := cur), hcs]; exact Nat.le_trans hle hmul2)
                      rw [List.size_toArray, hsl, Array.length_toList (xs := cur)]
                      exact hcs
                    · rw [List.toList_toArray, splice_take hle, htake]
                · intro x' b1 hx' hb1
                  cases hx'
                  have : b1 = b := by simpa [blk, h, Value.ownBlock] using hb1.symm
                  subst this
                  exact ⟨hI.where_ r _ b1 hgr hbb, fun r' x hne hx => hI.apart r r' _ x b1 hgr hx (fun e => hne e.symm) hbb, fun o ho => absurd ho (hnl o)⟩
                · rw [ho']
                  obtain ⟨x, hi1, hi2, z, hz, hzc⟩ := hie.info
                  have hzz : (zeroValue e).run P w = .ok z w := by
                    simp only [zeroValue, typeInfo, Sem.run_bind, run_program, hi1, Sem.run_pure, Result.andThen_ok, hz]
                  have hzc2 : (Builtin.zeroCells z.cells (xs.length - n.toNat)).toList = (List.replicate (xs.length - n.toNat) (zc t)).flatten := by
                    have := made_flat (z := z.cells) hzc (zc_len t) (xs.length - n.toNat)
                    rw [this]
                    unfold Builtin.zeroCells madeCells
                    rw [← Array.length_toList, hzc, zc_len]
                  have hst := run_storeCells_at P b (n.toNat * t.sz) e (List.replicate (xs.length - n.toNat) (zc t)).flatten 0 cur w hh (by rw [hzl, hcs]; omega) (by
                    intro v hv
                    rw [List.mem_flatten] at hv
                    obtain ⟨l, hl, hv⟩ := hv
                    rw [List.eq_of_mem_replicate hl] at hv
                    exact RK_one (RK_dflt (L := Ln Pr w) t) v hv)
                  simp only [Nat.add_zero] at hst
                  obtain ⟨m', hm'⟩ : ∃ m', xs.length - n.toNat = m' + 1 := ⟨xs.length - n.toNat - 1, by omega⟩
                  have hcr : (Builtin.clear_ argTypes o.type #[.slice (some ⟨b, n.toNat * t.sz, none⟩) (xs.length - n.toNat) (cap - n.toNat)]).run P w = .ok (.tuple #[]) (w.setRow b (splice cur.toList (n.toNat * t.sz) (List.replicate (xs.length - n.toNat) (zc t)).flatten).toArray) := by
                    unfold Builtin.clear_
                    rw [hT0]
                    simp only [List.getElem?_toArray, List.getElem?_cons_zero, Sem.run_bind, run_underlying hu, Result.andThen_ok]
                    rw [hm'] at hzc2 hst ⊢
                    simp only [Sem.run_bind, hzz, Result.andThen_ok, hzc2, hst, Sem.run_pure]
                    rfl
                  simp only [Sem.run_bind, hcr, Result.andThen_ok, Sem.run_pure]
          · cases hc'
        · cases hc'
      · cases hc'
    · cases hc'
  · cases hc'
end
end Go.Proofs.Ytcfnhfbaakflgaa.Abs
