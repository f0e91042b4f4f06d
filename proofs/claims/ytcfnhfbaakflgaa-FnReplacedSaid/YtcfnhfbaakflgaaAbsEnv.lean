/- What is known of the program, checked. -/
import Derived.Test.YtcfnhfbaakflgaaAbsSound
set_option linter.unusedVariables false
set_option linter.unusedSimpArgs false
namespace Go.Proofs.Ytcfnhfbaakflgaa.Abs
open Go Go.RowKit

theorem nth_mem {α : Type} : ∀ {l : List (Nat × α)} {k : Nat} {v : α}, nth l k = some v → (k, v) ∈ l
  | [], _, _, h => by cases h
  | (i, x) :: l, k, v, h => by
    unfold nth at h
    split at h
    · rename_i hb
      cases h
      rw [Nat.eq_of_beq_eq_true hb]
      simp
    · exact List.mem_cons_of_mem _ (nth_mem h)
def sameV : Value → Value → Bool
  | .int k n, .int k' m => decide (k = k') && decide (n = m)
  | .bool a, .bool b => a == b
  | .string s, .string t => decide (s.data.toList = t.data.toList)
  | .slice none 0 0, .slice none 0 0 => true
  | _, _ => false
theorem sameV_ok {a b : Value} (h : sameV a b = true) : a = b := by
  unfold sameV at h
  split at h
  · simp only [Bool.and_eq_true, decide_eq_true_eq] at h
    rw [h.1, h.2]
  · rw [eq_of_beq h]
  · have h' := of_decide_eq_true h
    rename_i s t
    cases s
    cases t
    exact congrArg (fun d => Value.string ⟨d⟩) (Array.toList_inj.1 h')
  · rfl
  · cases h
def sameVs : List Value → List Value → Bool
  | [], [] => true
  | a :: l, b :: m => sameV a b && sameVs l m
  | _, _ => false
theorem sameVs_ok : ∀ {l m : List Value}, sameVs l m = true → l = m
  | [], [], _ => rfl
  | a :: l, b :: m, h => by
    simp only [sameVs, Bool.and_eq_true] at h
    rw [sameV_ok h.1, sameVs_ok h.2]
  | [], _ :: _, h => by cases h
  | _ :: _, [], h => by cases h
def infoB (P : Program) (T : TypeId) (t : Ty) : Bool := match P.info? T, P.underlying T with
  | some i, some d => Nat.beq i.size t.sz && (match i.zero with | some z => sameVs z.cells.toList (zc t) | none => false) && (aggD d == aggB t) && WfB false t
  | _, _ => false
theorem infoB_ok {P : Program} {T : TypeId} {t : Ty} (h : infoB P T t = true) : InfoOk P T t := by
  unfold infoB at h
  split at h
  · rename_i i d hi hd
    simp only [Bool.and_eq_true] at h
    obtain ⟨⟨⟨h1, h2⟩, h3⟩, h4⟩ := h
    split at h2
    · rename_i z hz
      exact ⟨⟨i, hi, Nat.eq_of_beq_eq_true h1, z, hz, sameVs_ok h2⟩, ⟨d, hd, eq_of_beq h3⟩, h4⟩
    · cases h2
  · cases h
def fieldsB (P : Program) : List Field → Ty → Nat → Bool
  | [], .unit, _ => true
  | f :: fs, .pair a b, o => Nat.beq f.offset o && !(f.name == "_") && Nat.blt 0 a.sz && infoB P f.type a && fieldsB P fs b (o + a.sz)
  | _, _, _ => false
theorem fieldsB_ok {P : Program} : ∀ {fs : List Field} {t : Ty} {o : Nat}, fieldsB P fs t o = true → FOk P fs t o
  | [], .unit, _, _ => trivial
  | f :: fs, .pair a b, o, h => by
    simp only [fieldsB, Bool.and_eq_true, Bool.not_eq_true'] at h
    obtain ⟨⟨⟨⟨h1, h2⟩, h3⟩, h4⟩, h5⟩ := h
    exact ⟨Nat.eq_of_beq_eq_true h1, fun e => (by rw [e] at h2; simp at h2), (by simpa [Nat.blt_eq] using h3), infoB_ok h4, fieldsB_ok h5⟩
  | [], .int _, _, h => by cases h
  | [], .bool, _, h => by cases h
  | [], .str, _, h => by cases h
  | [], .pair _ _, _, h => by cases h
  | [], .agg _, _, h => by cases h
  | [], .slice _ _, _, h => by cases h
  | _ :: _, .int _, _, h => by cases h
  | _ :: _, .bool, _, h => by cases h
  | _ :: _, .str, _, h => by cases h
  | _ :: _, .unit, _, h => by cases h
  | _ :: _, .agg _, _, h => by cases h
  | _ :: _, .slice _ _, _, h => by cases h
def underB (P : Program) (T : TypeId) (t : Ty) : Bool := match P.underlying T, t with
  | some (.int k), .int k' => decide (k = k')
  | some .bool, .bool => true
  | some .string, .str => true
  | some (.slice e), .slice e' t => Nat.beq e e' && infoB P e t && Nat.blt 0 t.sz && (!decide (t = .int .u8) || (match P.underlying e with | some (.int .u8) => true | _ => false))
  | some (.struct fs), .agg t => fieldsB P fs.toList t 0
  | _, _ => false
theorem underB_ok {P : Program} {T : TypeId} {t : Ty} (h : underB P T t = true) : UnderOk P T t := by
  unfold underB at h
  split at h
  · rename_i k k' hu
    rw [of_decide_eq_true h] at hu
    exact hu
  · rename_i hu
    exact hu
  · rename_i hu
    exact hu
  · rename_i e e' t hu
    simp only [Bool.and_eq_true] at h
    obtain ⟨⟨⟨h1, h2⟩, h3⟩, h4⟩ := h
    have := Nat.eq_of_beq_eq_true h1
    subst this
    refine ⟨hu, infoB_ok h2, (by simpa [Nat.blt_eq] using h3), fun ht => ?_⟩
    simp only [ht, decide_true, Bool.not_true, Bool.false_or] at h4
    split at h4
    · assumption
    · cases h4
  · rename_i fs t hu
    exact ⟨fs, hu, fieldsB_ok h⟩
  · cases h
/-! ### Records that may be compared -/
def eqFB (P : Program) (g : TypeId → Ty → Bool) : List Field → Ty → Nat → Bool
  | [], .unit, _ => true
  | f :: fs, .pair a b, o => Nat.beq f.offset o && !(f.name == "_") && infoB P f.type a && g f.type a && eqFB P g fs b (o + a.sz)
  | _, _, _ => false
def eqTB (P : Program) : Nat → TypeId → Ty → Bool
  | 0, _, _ => false
  | _ + 1, T, .int _ => match P.underlying T with | some (.int _) => true | _ => false
  | _ + 1, T, .bool => match P.underlying T with | some .bool => true | _ => false
  | _ + 1, T, .str => match P.underlying T with | some .string => true | _ => false
  | d + 1, T, .agg t => match P.underlying T with
    | some (.struct fs) => !(P.stoodInHeld T) && eqFB P (eqTB P d) fs.toList t 0
    | _ => false
  | _, _, _ => false
theorem eqFB_ok {P : Program} {g : TypeId → Ty → Bool} {L : Lk} {d : Nat} {w : World} (hg : ∀ T t, g T t = true → ∀ (x y : t.den) (cs ds : List Value), RK L t x cs → RK L t y ds → (Op.equalIn d T (mk t cs) (mk t ds)).run P w = .ok (eqB t x y) w) :
    ∀ {fs : List Field} {t : Ty} {o : Nat}, eqFB P g fs t o = true → ∀ {x y : t.den} {cs ds xs ys : List Value}, RK L t x cs → RK L t y ds → Sits cs xs o → Sits ds ys o → (Op.eqFields d xs.toArray ys.toArray fs).run P w = .ok (eqB t x y) w
  | [], .unit, _, _, _, _, _, _, _, _, _, _, _, _ => rfl
  | f :: fs, .pair a b, o, h, x, y, cs, ds, xs, ys, hx, hy, hsx, hsy => by
    simp only [eqFB, Bool.and_eq_true, Bool.not_eq_true'] at h
    obtain ⟨⟨⟨⟨h1, h2⟩, h3⟩, h4⟩, h5⟩ := h
    have h1 := Nat.eq_of_beq_eq_true h1
    have hn : f.name ≠ "_" := fun e => by rw [e] at h2; simp at h2
    have hi := infoB_ok h3
    obtain ⟨c1, d1, rfl, hx1, hx2⟩ := hx
    obtain ⟨c2, d2, rfl, hy1, hy2⟩ := hy
    have p1 := part_ok hi (RK_len hx1) ((Sits.left c1 d1).trans hsx) w
    have p2 := part_ok hi (RK_len hy1) ((Sits.left c2 d2).trans hsy) w
    rw [Nat.add_zero] at p1 p2
    have s1 := (Sits.right c1 d1).trans hsx
    have s2 := (Sits.right c2 d2).trans hsy
    rw [RK_len hx1] at s1
    rw [RK_len hy1] at s2
    have ih := eqFB_ok hg h5 hx2 hy2 s1 s2
    have h6 := hg f.type a h4 x.1 y.1 c1 c2 hx1 hy1
    simp only [Op.eqFields, if_pos hn, h1, Sem.run_bind, p1, p2, Result.andThen_ok, h6]
    show _ = Result.ok (eqB a x.1 y.1 && eqB b x.2 y.2) w
    cases eqB a x.1 y.1 with
    | false => simp
    | true =>
      simp only [Bool.not_true, Bool.false_eq_true, if_false, Bool.true_and]
      exact ih
  | [], .int _, _, h, _, _, _, _, _, _, _, _, _, _ => by cases h
  | [], .bool, _, h, _, _, _, _, _, _, _, _, _, _ => by cases h
  | [], .str, _, h, _, _, _, _, _, _, _, _, _, _ => by cases h
  | [], .pair _ _, _, h, _, _, _, _, _, _, _, _, _, _ => by cases h
  | [], .agg _, _, h, _, _, _, _, _, _, _, _, _, _ => by cases h
  | [], .slice _ _, _, h, _, _, _, _, _, _, _, _, _, _ => by cases h
  | _ :: _, .int _, _, h, _, _, _, _, _, _, _, _, _, _ => by cases h
  | _ :: _, .bool, _, h, _, _, _, _, _, _, _, _, _, _ => by cases h
  | _ :: _, .str, _, h, _, _, _, _, _, _, _, _, _, _ => by cases h
  | _ :: _, .unit, _, h, _, _, _, _, _, _, _, _, _, _ => by cases h
  | _ :: _, .agg _, _, h, _, _, _, _, _, _, _, _, _, _ => by cases h
  | _ :: _, .slice _ _, _, h, _, _, _, _, _, _, _, _, _, _ => by cases h
theorem eqTB_ok {P : Program} {L : Lk} {w : World} : ∀ (n : Nat) (T : TypeId) (t : Ty), eqTB P n T t = true → ∀ (d : Nat) (x y : t.den) (cs ds : List Value), RK L t x cs → RK L t y ds → (Op.equalIn (d + n) T (mk t cs) (mk t ds)).run P w = .ok (eqB t x y) w
  | 0, _, _, h => by simp [eqTB] at h
  | n + 1, T, .int k, h => fun d x y cs ds hx hy => by
    rw [show cs = _ from hx, show ds = _ from hy]
    unfold eqTB at h
    split at h
    · rename_i k' hu
      exact run_equalIn_int w (d + n) T k k' x y hu
    · cases h
  | n + 1, T, .bool, h => fun d x y cs ds hx hy => by
    rw [show cs = _ from hx, show ds = _ from hy]
    unfold eqTB at h
    split at h
    · rename_i hu
      exact run_equalIn_bool' w (d + n) T x y hu
    · cases h
  | n + 1, T, .str, h => fun d x y cs ds hx hy => by
    rw [show cs = _ from hx, show ds = _ from hy]
    unfold eqTB at h
    split at h
    · rename_i hu
      refine (run_equalIn_string w (d + n) T x y hu).trans ?_
      rw [← beq_toListBytes]
      rfl
    · cases h
  | n + 1, T, .agg t, h => fun d x y cs ds hx hy => by
    unfold eqTB at h
    split at h
    · rename_i fs hu
      simp only [Bool.and_eq_true, Bool.not_eq_true'] at h
      have hf : P.fieldsOf T = fs := by simp [Program.fieldsOf, hu]
      have hu' : P.underlying T = some (.struct (P.fieldsOf T)) := by rw [hf]; exact hu
      refine (run_equalIn_agg w (d + n) T cs.toArray ds.toArray hu' h.1).trans ?_
      rw [hf]
      exact eqFB_ok (fun T t hT x y cs ds hx hy => eqTB_ok n T t hT d x y cs ds hx hy) h.2 (t := t) hx hy (Sits.refl cs) (Sits.refl ds)
    · cases h
  | n + 1, T, .unit, h => by simp [eqTB] at h
  | n + 1, T, .pair _ _, h => by simp [eqTB] at h
  | n + 1, T, .slice _ _, h => by simp [eqTB] at h
def eqsB (P : Program) (E : Env) : Bool := E.eqs.all fun p => aggB p.2 && !(P.eqGuardType P.depth p.1) && eqTB P 8 p.1 p.2
theorem eqsB_ok {P : Program} {E : Env} (h : eqsB P E = true) : ∀ T t, nth E.eqs T = some t → EqOk P T t := by
  intro T t hT
  unfold eqsB at h
  rw [List.all_eq_true] at h
  have := h (T, t) (nth_mem hT)
  simp only [Bool.and_eq_true, Bool.not_eq_true'] at this
  refine ⟨?_, this.1.2, fun L x y cs ds w hx hy => eqTB_ok 8 T t this.2 9992 x y cs ds hx hy⟩
  cases t <;> first | exact ⟨_, rfl⟩ | cases this.1.1
def typesB (P : Program) (E : Env) : Bool := eqsB P E && (E.ty.all fun p => underB P p.1 p.2 && infoB P p.1 p.2) && E.by_.all fun p => Nat.blt 0 p.2 && (match P.info? p.1 with | some i => Nat.beq i.bytes p.2 | none => true)
theorem envOk_of {P : Program} {E : Env} (h : typesB P E = true) (hf : ∀ p ∈ E.fns, P.funcs[p.2.g]? = some p.2.fn ∧ p.2.fn.body.isSome = true ∧ (p.2.fn.name == "runtime.NumGoroutine") = false) : EnvOk P E := by
  unfold typesB at h
  simp only [Bool.and_eq_true, List.all_eq_true] at h
  obtain ⟨⟨hq, h1⟩, h2⟩ := h
  have h := And.intro h1 h2
  refine ⟨fun T t hT => ?_, fun e nb i hb hi => ?_, fun g I hg => hf (g, I) (nth_mem hg), eqsB_ok hq⟩
  · have := h.1 (T, t) (nth_mem hT)
    exact ⟨underB_ok this.1, infoB_ok this.2⟩
  · have := h.2 (e, nb) (nth_mem hb)
    simp only [hi] at this
    exact ⟨Nat.eq_of_beq_eq_true this.2, by simpa [Nat.blt_eq] using this.1⟩
end Go.Proofs.Ytcfnhfbaakflgaa.Abs
