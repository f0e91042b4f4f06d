/- Operations that leave the memory as it is. -/
import Derived.Test.YtcfnhfbaakflgaaAbsFit
import Derived.Laws.BytesString
set_option linter.unusedVariables false
set_option linter.unusedSimpArgs false
set_option linter.unusedSectionVars false
namespace Go.Proofs.Ytcfnhfbaakflgaa.Abs
open Go Go.RowKit

theorem foldl_push_bytes : ∀ (xs : List Int) (s : ByteArray), xs.foldl (fun r n => r.push (UInt8.ofNat n.toNat)) s = ⟨s.data ++ (xs.map fun n => UInt8.ofNat n.toNat).toArray⟩
  | [], s => by simp
  | x :: xs, s => by
    rw [List.foldl_cons, foldl_push_bytes xs]
    congr 1
    apply Array.toList_inj.1
    simp [ByteArray.push]
section
variable {P : Program} {w : World}
theorem loadVar_ok {T : TypeId} {t : Ty} (h : InfoOk P T t) {c : List Value} (hl : c.length = t.sz) {b o : Nat} (hc : ∀ j v, c[j]? = some v → w.cell? ⟨b, o + j, none⟩ = some v) : (loadVar T ⟨b, o, none⟩).run P w = .ok (mk t c) w := by
  have hload : (loadCells ⟨b, o, none⟩ t.sz).run P w = .ok c.toArray w := by
    rw [← hl]
    exact run_loadCells_list w _ c (fun j v hj => by rw [add_lit]; exact hc j v hj)
  simp only [loadVar, Sem.run_bind, h.isAgg, Result.andThen_ok]
  by_cases ha : aggB t = true
  · obtain ⟨u, rfl⟩ : ∃ u, t = .agg u := by cases t <;> simp_all [aggB]
    simp only [aggB, if_true, Sem.run_bind, h.sizeOf, Result.andThen_ok, hload, Sem.run_pure]
    rfl
  · rw [if_neg ha]
    have h1 : t.sz = 1 := by
      rcases h.one with h1 | ⟨u, rfl⟩
      · exact h1
      · simp [aggB] at ha
    obtain ⟨x, rfl⟩ := List.length_eq_one_iff.1 (hl.trans h1)
    have := hc 0 x rfl
    simp only [Nat.add_zero] at this
    rw [run_load, this]
    cases t <;> first | rfl | (simp [aggB] at ha)
end
section
variable {P : Program} {w0 : World} {X : Nat → Prop} {Pr0 : Nat → Nat → Prop} {sl : List SV} {get : Nat → Option Res} {γ : Nat → Option G} {Pr : Nat → Nat → Prop} {a : Act} {w : World} {res : Tab} {r0 : Nat}
theorem Inv.tys (hI : Inv w0 X Pr0 sl get γ Pr a w) (hk : ∀ r x, getR res r = some x → get r = some x) : RowTy γ res := by
  intro r e t xs h
  rcases h with ⟨fr, h⟩ | h
  · obtain ⟨v, css, hv, _⟩ := hI.res r _ (hk r _ h)
    exact ⟨v, hv⟩
  · obtain ⟨v, hv, _⟩ := hI.res r _ (hk r _ h)
    exact ⟨v, hv⟩
theorem load_ptr (hI : Inv w0 X Pr0 sl get γ Pr a w) {r : Nat} {bt s : Ty} {c v : SV} {path : List Nat} {u : Value} {T : TypeId} (hu : RV (Ln Pr w) γ (.ptr r s path) u) (hg : get r = some (.box bt c)) (hT : InfoOk P T s) (hv : svGetP path c = some v) :
    ∃ cs, (Instr.loadAt T u).run P w = .ok (mk s cs) w ∧ RT (Ln Pr w) γ s v cs := by
  obtain ⟨b, arr, T', hb, hh, hr⟩ := hI.res r _ hg
  cases hu with
  | ptr h hp =>
    rw [hb] at h
    cases h
    obtain ⟨s', o', cs, h1, h2, h3⟩ := svGetP_ok hr hv
    rw [hp] at h1
    cases h1
    refine ⟨cs, ?_, h2⟩
    simp only [Instr.loadAt, Instr.sureAddr, Sem.run_bind, Sem.run_pure, Result.andThen_ok]
    refine loadVar_ok hT (RT_len h2) fun j v hj => ?_
    rw [cell_of_row w b _ arr T' (0, 0) hh]
    simpa using h3 j v hj
theorem load_eptr {L : Lk} (hL : ∀ b o v, L b o v → w.cell? ⟨b, o, none⟩ = some v) {s : Ty} {x : s.den} {u : Value} {T : TypeId} (hu : RV L γ (.eptr s x) u) (hT : InfoOk P T s) : ∃ cs, (Instr.loadAt T u).run P w = .ok (mk s cs) w ∧ RK L s x cs := by
  cases hu with
  | eptr h hc =>
    refine ⟨_, ?_, h⟩
    simp only [Instr.loadAt, Instr.sureAddr, Sem.run_bind, Sem.run_pure, Result.andThen_ok]
    exact loadVar_ok hT (RK_len h) fun j v hj => hL _ _ _ (hc j v hj)
/-- An element's cells. -/
theorem row_elem (hI : Inv w0 X Pr0 sl get γ Pr a w) {r : Nat} {e : TypeId} {t : Ty} {xs : List t.den} {fr : Bool} (hg : get r = some (.row e t xs fr)) {b n cap : Nat} (hb : γ r = some (.row e t (.slice (some ⟨b, 0, none⟩) n cap))) {i : Nat} (hi : i < n) :
    n = xs.length ∧ ∃ c, RK (Ln Pr w) t (xs.getD i t.dflt) c ∧ ∀ j v, c[j]? = some v → w.cell? ⟨b, i * t.sz + j, none⟩ = some v := by
  obtain ⟨v, css, hv, he, ho, _⟩ := hI.res r _ hg
  rw [hb] at hv
  cases hv
  rcases ho.2 with ⟨hn, _⟩ | ⟨g, cap', cur, hs, _, hh, hnc, _, _, ht⟩
  · cases hn
  · cases hs
    refine ⟨rfl, ?_⟩
    have hi' : i < css.length := by rw [he.1]; exact hi
    refine ⟨css[i], ?_, fun j u hj => ?_⟩
    · have := he.2 i hi hi'
      rwa [List.getD_eq_getElem?_getD, List.getElem?_eq_getElem hi, Option.getD_some]
    · have hjs : j < t.sz := by
        have := he.lens _ (List.getElem_mem hi')
        rw [← this]
        exact (List.getElem?_eq_some_iff.1 hj).1
      have hfl : css.flatten[i * t.sz + j]? = some u := (flatten_get he.lens (List.getElem?_eq_getElem hi') hjs).trans hj
      have := ho.cells (g := b) rfl _ _ hfl
      rwa [add_lit, Nat.zero_add] at this
theorem load_rptr (hI : Inv w0 X Pr0 sl get γ Pr a w) {r : Nat} {e : TypeId} {t s s0 : Ty} {xs : List t.den} {fr : Bool} {y : s.den} {i : Int} {path : List Nat} {u : Value} {T : TypeId} (hu : RV (Ln Pr w) γ (.rptr r s0 i path) u) (hg : get r = some (.row e t xs fr)) (hT : InfoOk P T s)
    (hv : getP path t (xs.getD i.toNat t.dflt) = some (.val s y)) : ∃ cs, (Instr.loadAt T u).run P w = .ok (mk s cs) w ∧ RK (Ln Pr w) s y cs := by
  cases hu with
  | rptr h h0 hn hp =>
    obtain ⟨v, css, hv', _⟩ := hI.res r _ hg
    rw [h] at hv'
    cases hv'
    obtain ⟨_, c, h1, h2⟩ := row_elem hI hg h (i := i.toNat) (by omega)
    obtain ⟨s', y', o', he, ho, hc⟩ := getP_ok (L := Ln Pr w) hv
    cases he
    rw [hp] at ho
    cases ho
    obtain ⟨c', h3, h4⟩ := hc c h1
    refine ⟨c', ?_, h3⟩
    simp only [Instr.loadAt, Instr.sureAddr, Sem.run_bind, Sem.run_pure, Result.andThen_ok]
    refine loadVar_ok hT (RK_len h3) fun j v hj => ?_
    rw [Nat.add_assoc]
    exact h2 _ _ (h4 j v hj)
theorem field_ok (hr : RowTy γ res) {L : Lk} {T : TypeId} {t : Ty} {x v : SV} {f : Nat} {u : Value} (hU : UnderOk P T t) (hx : RV L γ x u) (hf : fits res 9 t x = true) (hg : svGet x f = some v) : ∃ s cs, (Instr.field T u f).run P w = .ok (mk s cs) w ∧ RT L γ s v cs := by
  obtain ⟨cs, rfl, hrt⟩ := fits_RV hr hx hf
  obtain ⟨t', s, o, c, rfl, ho, h1, h2⟩ := svGet_ok hrt hg
  obtain ⟨fs, hfs, hok⟩ := hU
  obtain ⟨fl, h3, h4, h5, h6⟩ := FOk_get hok ho
  refine ⟨s, c, ?_, h1⟩
  have h3' : fs[f]? = some fl := by simpa using h3
  simp only [Instr.field, Sem.run_bind, run_underlying hfs, Result.andThen_ok, h3']
  simp only [mk, asAgg, Sem.run_bind, Sem.run_pure, Result.andThen_ok]
  rw [h4, Nat.zero_add]
  exact part_ok h6 (RT_len h1) h2 w
theorem fieldAddr_ok {T : TypeId} {t s : Ty} {f o' : Nat} {b o : Nat} (hU : UnderOk P T (.agg t)) (hf : offF t f = some (o', s)) : (Instr.fieldAt T (.pointer (some ⟨b, o, none⟩)) f).run P w = .ok (.pointer (some ⟨b, o + o', none⟩)) w := by
  obtain ⟨fs, hfs, hok⟩ := hU
  obtain ⟨fl, h3, h4, h5, h6⟩ := FOk_get hok hf
  have h3' : fs[f]? = some fl := by simpa using h3
  simp only [Instr.fieldAt, Sem.run_bind, run_underlying hfs, Result.andThen_ok, h3', Instr.sureAddr, Sem.run_pure, fieldPlace, h6.sizeOf]
  rw [if_neg (by omega)]
  simp only [Sem.run_pure, Result.andThen_ok, add_lit, h4, Nat.zero_add]
theorem bytes_ok {src dst e : TypeId} {xs : List Int} {u : Value} (hs : P.underlying src = some (.slice e)) (he : P.underlying e = some (.int .u8)) (hd : P.underlying dst = some .string) (h : RK (LnT w) (.slice e (.int .u8)) xs [u]) :
    (convert src dst u).run P w = .ok (.string (strOfNums xs)) w := by
  obtain ⟨A, cap, hu, hcap, hA⟩ := h
  cases hu
  rcases A with _ | ad
  · have h0 : xs = [] := by
      by_cases hx : xs = []
      · exact hx
      · obtain ⟨b, o, h, _⟩ := hA hx
        cases h
    subst h0
    exact run_convert_bytes_nil w src e hs he 0 cap dst hd
  · have hl : (loadCells ad (xs : List Int).length).run P w = .ok (xs.map (Value.int .u8)).toArray w := by
      by_cases hx : xs = []
      · subst hx
        exact run_loadCells_list (P := P) w ad [] (fun j v hj => by simp at hj)
      · obtain ⟨b, o, h, hh⟩ := hA hx
        cases h
        have := run_loadCells_list (P := P) w ⟨b, o, none⟩ (xs.map (Value.int .u8)) (fun j v hj => by
          rw [List.getElem?_map, Option.map_eq_some_iff] at hj
          obtain ⟨x, hj, rfl⟩ := hj
          obtain ⟨hjl, hj⟩ := List.getElem?_eq_some_iff.1 hj
          obtain ⟨c, h1, h2⟩ := hh j hjl
          rw [show c = _ from h1] at h2
          have := (h2 0 _ rfl).2
          rw [add_lit]
          simp only [Ty.sz, Nat.mul_one, Nat.add_zero] at this
          rw [this]
          exact congrArg (fun z => some (Value.int IntKind.u8 z)) hj)
        simpa using this
    rw [run_convert_bytes_string w src dst e _ _ cap hs he hd, run_bytesToString w ad _ cap xs hl, foldl_push_bytes]
    simp [strOfNums, ByteArray.empty, ByteArray.emptyWithCapacity]
    rfl
end
end Go.Proofs.Ytcfnhfbaakflgaa.Abs
