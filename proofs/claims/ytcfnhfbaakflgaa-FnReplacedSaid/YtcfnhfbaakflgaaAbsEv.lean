/- From some fuel on. -/
import Derived.Test.YtcfnhfbaakflgaaAbsMono
set_option linter.unusedVariables false
namespace Go.Proofs.Ytcfnhfbaakflgaa.Abs
open Go Go.RowKit

/-- From some fuel on f says z. -/
def Ev {R : Type} (f : Nat → Option R) (z : R) : Prop := ∃ k0, ∀ k, k0 ≤ k → f k = some z
section
variable {R R' : Type} {f : Nat → Option R} {z : R}
theorem Ev.now : Ev (fun _ => some z) z := ⟨0, fun _ _ => rfl⟩
theorem Ev.later (h : Ev f z) (c : Nat) : Ev (fun k => f (k + c)) z := by
  obtain ⟨k0, h⟩ := h
  exact ⟨k0, fun k hk => h _ (by omega)⟩
/-- The rule of an equation: what is said c rounds later. -/
theorem Ev.eqn {g : Nat → Option R} (c : Nat) (he : ∀ k, f (k + c) = g k) (h : Ev g z) : Ev f z := by
  obtain ⟨k0, h⟩ := h
  refine ⟨k0 + c, fun k hk => ?_⟩
  have := he (k - c)
  rw [show k - c + c = k by omega] at this
  rw [this]
  exact h _ (by omega)
theorem Ev.bind {g : R → Nat → Option R'} {y : R'} (h : Ev f z) (k : Ev (g z) y) : Ev (fun n => (f n).bind fun x => g x n) y := by
  obtain ⟨a, h⟩ := h
  obtain ⟨b, k⟩ := k
  refine ⟨a + b, fun n hn => ?_⟩
  show (f n).bind _ = _
  rw [h n (by omega)]
  exact k n (by omega)
theorem Ev.ite {c : Prop} [Decidable c] {g : Nat → Option R} (h1 : c → Ev f z) (h2 : ¬ c → Ev g z) : Ev (fun k => if c then f k else g k) z := by
  by_cases h : c
  · obtain ⟨k0, hk⟩ := h1 h
    exact ⟨k0, fun k hh => by simp only [if_pos h]; exact hk k hh⟩
  · obtain ⟨k0, hk⟩ := h2 h
    exact ⟨k0, fun k hh => by simp only [if_neg h]; exact hk k hh⟩
theorem Ev.pos {c : Prop} [Decidable c] {g : Nat → Option R} (hc : c) (h1 : Ev f z) : Ev (fun k => if c then f k else g k) z := Ev.ite (fun _ => h1) (fun h => absurd hc h)
theorem Ev.neg {c : Prop} [Decidable c] {g : Nat → Option R} (hc : ¬ c) (h1 : Ev g z) : Ev (fun k => if c then f k else g k) z := Ev.ite (fun h => absurd h hc) (fun _ => h1)
end
/-- What a function says. -/
def Says (E : Env) (I : FnI) (args : List SV) (tab : Tab) (z : I.sh.den × I.bx.den) : Prop := Ev (fun k => call E k I args tab) z
theorem Says.at_ {E : Env} {I : FnI} {args : List SV} {tab : Tab} {z : I.sh.den × I.bx.den} (h : Says E I args tab z) : ∃ k, call E k I args tab = some z := by
  obtain ⟨k, h⟩ := h
  exact ⟨k, h k (Nat.le_refl _)⟩
theorem Says.of {E : Env} {I : FnI} {args : List SV} {tab : Tab} {z : I.sh.den × I.bx.den} {k : Nat} (h : call E k I args tab = some z) : Says E I args tab z :=
  ⟨k, fun m hm => call_mono hm h⟩
/-- What is said holds of the model. -/
theorem Says.calls {P : Program} {E : Env} (hm : P.follows .mixedOrders = true) (hE : EnvOk P E) (hP : PrimsOk P E) {I : FnI} {args : List SV} {tab : Tab} {z : I.sh.den × I.bx.den} (h : Says E I args tab z) {key : Nat} (hg : nth E.fns key = some I) (hcanon : ∀ (k : Nat) (p : Nat × Res), tab[k]? = some p → p.1 = k)
    {w : World} {γ : Nat → Option G} {Pr : Nat → Nat → Prop} {us : List Value} (hI : Inv w (Xof tab γ) Pr args (getR tab) γ Pr { tmps := us.toArray, defers := [] } w) (hlim : ∀ r, tab.length ≤ r → γ r = none) {N : Nat} (hN : tab.length ≤ N) {vs bs : List SV} {u u' : Up} {n n' : Nat} {ub : List (Option Res)}
    (h1 : mkList I.sh z.1 N = (vs, u, n)) (h2 : mkList I.bx z.2 n = (bs, u', n')) (h3 : backs I.rb tab bs (shTys I.bx) = some ub) :
    Calls P I.g us.toArray w fun e w' => ∃ vals γr Pr', e = .returned (retV vals) ∧ Back w (Xof tab γ) γ Pr N n' vs ub (u ++ u') vals γr Pr' w' ∧ ∀ p ∈ comes I.rb tab bs, γr p.1 = γ p.2 := by
  obtain ⟨k, hk⟩ := h.at_
  exact sound_all hm hE hP k I args tab z key hg hk hcanon w γ Pr us hI hlim N hN vs u n bs u' n' ub h1 h2 h3
end Go.Proofs.Ytcfnhfbaakflgaa.Abs
