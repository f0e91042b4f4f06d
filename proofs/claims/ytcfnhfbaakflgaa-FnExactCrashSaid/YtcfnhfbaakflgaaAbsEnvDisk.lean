/- What is known of the program: its types, its functions, those that are shown otherwise. -/
import Derived.Test.YtcfnhfbaakflgaaAbsGlue
import Derived.Test.YtcfnhfbaakflgaaAbsLays
set_option linter.unusedVariables false
set_option maxRecDepth 100000
namespace Go.Proofs.Ytcfnhfbaakflgaa.Abs
open Go
theorem fns_ok : ∀ p ∈ E.fns, p.2.g = p.1 ∧ Try.prog.funcs[p.1]? = some p.2.fn ∧ p.2.fn.body.isSome = true ∧ (p.2.fn.name == "runtime.NumGoroutine") = false := by
  unfold E
  intro p h
  rcases List.mem_cons.1 h with rfl | h
  · exact ⟨rfl, Try.func7, by kernel_rfl, by kernel_rfl⟩
  rcases List.mem_cons.1 h with rfl | h
  · exact ⟨rfl, Try.func8, by kernel_rfl, by kernel_rfl⟩
  rcases List.mem_cons.1 h with rfl | h
  · exact ⟨rfl, Try.func10, by kernel_rfl, by kernel_rfl⟩
  rcases List.mem_cons.1 h with rfl | h
  · exact ⟨rfl, Try.func13, by kernel_rfl, by kernel_rfl⟩
  rcases List.mem_cons.1 h with rfl | h
  · exact ⟨rfl, Try.func27, by kernel_rfl, by kernel_rfl⟩
  rcases List.mem_cons.1 h with rfl | h
  · exact ⟨rfl, Try.func28, by kernel_rfl, by kernel_rfl⟩
  rcases List.mem_cons.1 h with rfl | h
  · exact ⟨rfl, Try.func29, by kernel_rfl, by kernel_rfl⟩
  rcases List.mem_cons.1 h with rfl | h
  · exact ⟨rfl, Try.func30, by kernel_rfl, by kernel_rfl⟩
  rcases List.mem_cons.1 h with rfl | h
  · exact ⟨rfl, Try.func32, by kernel_rfl, by kernel_rfl⟩
  rcases List.mem_cons.1 h with rfl | h
  · exact ⟨rfl, Try.func33, by kernel_rfl, by kernel_rfl⟩
  rcases List.mem_cons.1 h with rfl | h
  · exact ⟨rfl, Try.func34, by kernel_rfl, by kernel_rfl⟩
  rcases List.mem_cons.1 h with rfl | h
  · exact ⟨rfl, Try.func35, by kernel_rfl, by kernel_rfl⟩
  rcases List.mem_cons.1 h with rfl | h
  · exact ⟨rfl, Try.func36, by kernel_rfl, by kernel_rfl⟩
  rcases List.mem_cons.1 h with rfl | h
  · exact ⟨rfl, Try.func40, by kernel_rfl, by kernel_rfl⟩
  rcases List.mem_cons.1 h with rfl | h
  · exact ⟨rfl, Try.func41, by kernel_rfl, by kernel_rfl⟩
  rcases List.mem_cons.1 h with rfl | h
  · exact ⟨rfl, Try.func42, by kernel_rfl, by kernel_rfl⟩
  rcases List.mem_cons.1 h with rfl | h
  · exact ⟨rfl, Try.func43, by kernel_rfl, by kernel_rfl⟩
  rcases List.mem_cons.1 h with rfl | h
  · exact ⟨rfl, Try.func44, by kernel_rfl, by kernel_rfl⟩
  rcases List.mem_cons.1 h with rfl | h
  · exact ⟨rfl, Try.func48, by kernel_rfl, by kernel_rfl⟩
  rcases List.mem_cons.1 h with rfl | h
  · exact ⟨rfl, Try.func49, by kernel_rfl, by kernel_rfl⟩
  rcases List.mem_cons.1 h with rfl | h
  · exact ⟨rfl, Try.func50, by kernel_rfl, by kernel_rfl⟩
  rcases List.mem_cons.1 h with rfl | h
  · exact ⟨rfl, Try.func51, by kernel_rfl, by kernel_rfl⟩
  rcases List.mem_cons.1 h with rfl | h
  · exact ⟨rfl, Try.func56, by kernel_rfl, by kernel_rfl⟩
  rcases List.mem_cons.1 h with rfl | h
  · exact ⟨rfl, Try.func63, by kernel_rfl, by kernel_rfl⟩
  rcases List.mem_cons.1 h with rfl | h
  · exact ⟨rfl, Try.func64, by kernel_rfl, by kernel_rfl⟩
  rcases List.mem_cons.1 h with rfl | h
  · exact ⟨rfl, Try.func65, by kernel_rfl, by kernel_rfl⟩
  rcases List.mem_cons.1 h with rfl | h
  · exact ⟨rfl, Try.func66, by kernel_rfl, by kernel_rfl⟩
  rcases List.mem_cons.1 h with rfl | h
  · exact ⟨rfl, Try.func67, by kernel_rfl, by kernel_rfl⟩
  rcases List.mem_cons.1 h with rfl | h
  · exact ⟨rfl, Try.func68, by kernel_rfl, by kernel_rfl⟩
  rcases List.mem_cons.1 h with rfl | h
  · exact ⟨rfl, Try.func69, by kernel_rfl, by kernel_rfl⟩
  rcases List.mem_cons.1 h with rfl | h
  · exact ⟨rfl, Try.func70, by kernel_rfl, by kernel_rfl⟩
  rcases List.mem_cons.1 h with rfl | h
  · exact ⟨rfl, Try.func71, by kernel_rfl, by kernel_rfl⟩
  rcases List.mem_cons.1 h with rfl | h
  · exact ⟨rfl, Try.func72, by kernel_rfl, by kernel_rfl⟩
  rcases List.mem_cons.1 h with rfl | h
  · exact ⟨rfl, Try.func73, by kernel_rfl, by kernel_rfl⟩
  rcases List.mem_cons.1 h with rfl | h
  · exact ⟨rfl, Try.func74, by kernel_rfl, by kernel_rfl⟩
  rcases List.mem_cons.1 h with rfl | h
  · exact ⟨rfl, Try.func75, by kernel_rfl, by kernel_rfl⟩
  rcases List.mem_cons.1 h with rfl | h
  · exact ⟨rfl, Try.func76, by kernel_rfl, by kernel_rfl⟩
  rcases List.mem_cons.1 h with rfl | h
  · exact ⟨rfl, Try.func77, by kernel_rfl, by kernel_rfl⟩
  rcases List.mem_cons.1 h with rfl | h
  · exact ⟨rfl, Try.func78, by kernel_rfl, by kernel_rfl⟩
  rcases List.mem_cons.1 h with rfl | h
  · exact ⟨rfl, Try.func79, by kernel_rfl, by kernel_rfl⟩
  rcases List.mem_cons.1 h with rfl | h
  · exact ⟨rfl, Try.func80, by kernel_rfl, by kernel_rfl⟩
  rcases List.mem_cons.1 h with rfl | h
  · exact ⟨rfl, Try.func81, by kernel_rfl, by kernel_rfl⟩
  rcases List.mem_cons.1 h with rfl | h
  · exact ⟨rfl, Try.func82, by kernel_rfl, by kernel_rfl⟩
  rcases List.mem_cons.1 h with rfl | h
  · exact ⟨rfl, Try.func87, by kernel_rfl, by kernel_rfl⟩
  rcases List.mem_cons.1 h with rfl | h
  · exact ⟨rfl, Try.func88, by kernel_rfl, by kernel_rfl⟩
  rcases List.mem_cons.1 h with rfl | h
  · exact ⟨rfl, Try.func89, by kernel_rfl, by kernel_rfl⟩
  rcases List.mem_cons.1 h with rfl | h
  · exact ⟨rfl, Try.func90, by kernel_rfl, by kernel_rfl⟩
  rcases List.mem_cons.1 h with rfl | h
  · exact ⟨rfl, Try.func94, by kernel_rfl, by kernel_rfl⟩
  rcases List.mem_cons.1 h with rfl | h
  · exact ⟨rfl, Try.func98, by kernel_rfl, by kernel_rfl⟩
  rcases List.mem_cons.1 h with rfl | h
  · exact ⟨rfl, Try.func99, by kernel_rfl, by kernel_rfl⟩
  rcases List.mem_cons.1 h with rfl | h
  · exact ⟨rfl, Try.func100, by kernel_rfl, by kernel_rfl⟩
  rcases List.mem_cons.1 h with rfl | h
  · exact ⟨rfl, Try.func103, by kernel_rfl, by kernel_rfl⟩
  rcases List.mem_cons.1 h with rfl | h
  · exact ⟨rfl, Try.func104, by kernel_rfl, by kernel_rfl⟩
  rcases List.mem_cons.1 h with rfl | h
  · exact ⟨rfl, Try.func105, by kernel_rfl, by kernel_rfl⟩
  rcases List.mem_cons.1 h with rfl | h
  · exact ⟨rfl, Try.func106, by kernel_rfl, by kernel_rfl⟩
  rcases List.mem_cons.1 h with rfl | h
  · exact ⟨rfl, Try.func107, by kernel_rfl, by kernel_rfl⟩
  rcases List.mem_cons.1 h with rfl | h
  · exact ⟨rfl, Try.func108, by kernel_rfl, by kernel_rfl⟩
  rcases List.mem_cons.1 h with rfl | h
  · exact ⟨rfl, Try.func109, by kernel_rfl, by kernel_rfl⟩
  rcases List.mem_cons.1 h with rfl | h
  · exact ⟨rfl, Try.func110, by kernel_rfl, by kernel_rfl⟩
  rcases List.mem_cons.1 h with rfl | h
  · exact ⟨rfl, Try.func111, by kernel_rfl, by kernel_rfl⟩
  rcases List.mem_cons.1 h with rfl | h
  · exact ⟨rfl, Try.func112, by kernel_rfl, by kernel_rfl⟩
  rcases List.mem_cons.1 h with rfl | h
  · exact ⟨rfl, Try.func113, by kernel_rfl, by kernel_rfl⟩
  rcases List.mem_cons.1 h with rfl | h
  · exact ⟨rfl, Try.func114, by kernel_rfl, by kernel_rfl⟩
  rcases List.mem_cons.1 h with rfl | h
  · exact ⟨rfl, Try.func118, by kernel_rfl, by kernel_rfl⟩
  rcases List.mem_cons.1 h with rfl | h
  · exact ⟨rfl, Try.func119, by kernel_rfl, by kernel_rfl⟩
  cases h
theorem env_ok : EnvOk Try.prog E := envOk_of (by kernel_rfl) fns_ok
theorem prims_ok : PrimsOk Try.prog E := by
  intro I f hg hf args tab z hz
  have h := nth_mem hg
  unfold E at h
  rcases List.mem_cons.1 h with he | h
  · obtain rfl := (Prod.mk.inj he).2
    cases hf
  rcases List.mem_cons.1 h with he | h
  · obtain rfl := (Prod.mk.inj he).2
    cases hf
  rcases List.mem_cons.1 h with he | h
  · obtain rfl := (Prod.mk.inj he).2
    cases hf
  rcases List.mem_cons.1 h with he | h
  · obtain rfl := (Prod.mk.inj he).2
    cases hf
  rcases List.mem_cons.1 h with he | h
  · obtain rfl := (Prod.mk.inj he).2
    cases hf
  rcases List.mem_cons.1 h with he | h
  · obtain rfl := (Prod.mk.inj he).2
    cases hf
  rcases List.mem_cons.1 h with he | h
  · obtain rfl := (Prod.mk.inj he).2
    cases hf
  rcases List.mem_cons.1 h with he | h
  · obtain rfl := (Prod.mk.inj he).2
    cases hf
  rcases List.mem_cons.1 h with he | h
  · obtain rfl := (Prod.mk.inj he).2
    cases hf
  rcases List.mem_cons.1 h with he | h
  · obtain rfl := (Prod.mk.inj he).2
    cases hf
  rcases List.mem_cons.1 h with he | h
  · obtain rfl := (Prod.mk.inj he).2
    cases hf
  rcases List.mem_cons.1 h with he | h
  · obtain rfl := (Prod.mk.inj he).2
    cases hf
  rcases List.mem_cons.1 h with he | h
  · obtain rfl := (Prod.mk.inj he).2
    cases hf
  rcases List.mem_cons.1 h with he | h
  · obtain rfl := (Prod.mk.inj he).2
    cases hf
  rcases List.mem_cons.1 h with he | h
  · obtain rfl := (Prod.mk.inj he).2
    cases hf
  rcases List.mem_cons.1 h with he | h
  · obtain rfl := (Prod.mk.inj he).2
    cases hf
  rcases List.mem_cons.1 h with he | h
  · obtain rfl := (Prod.mk.inj he).2
    cases hf
  rcases List.mem_cons.1 h with he | h
  · obtain rfl := (Prod.mk.inj he).2
    cases hf
  rcases List.mem_cons.1 h with he | h
  · obtain rfl := (Prod.mk.inj he).2
    cases hf
  rcases List.mem_cons.1 h with he | h
  · obtain rfl := (Prod.mk.inj he).2
    cases hf
  rcases List.mem_cons.1 h with he | h
  · obtain rfl := (Prod.mk.inj he).2
    cases hf
  rcases List.mem_cons.1 h with he | h
  · obtain rfl := (Prod.mk.inj he).2
    cases hf
  rcases List.mem_cons.1 h with he | h
  · obtain rfl := (Prod.mk.inj he).2
    cases hf
  rcases List.mem_cons.1 h with he | h
  · obtain rfl := (Prod.mk.inj he).2
    cases hf
  rcases List.mem_cons.1 h with he | h
  · obtain rfl := (Prod.mk.inj he).2
    cases hf
  rcases List.mem_cons.1 h with he | h
  · obtain rfl := (Prod.mk.inj he).2
    cases hf
  rcases List.mem_cons.1 h with he | h
  · obtain rfl := (Prod.mk.inj he).2
    cases hf
  rcases List.mem_cons.1 h with he | h
  · obtain rfl := (Prod.mk.inj he).2
    cases hf
  rcases List.mem_cons.1 h with he | h
  · obtain rfl := (Prod.mk.inj he).2
    cases hf
  rcases List.mem_cons.1 h with he | h
  · obtain rfl := (Prod.mk.inj he).2
    cases hf
  rcases List.mem_cons.1 h with he | h
  · obtain rfl := (Prod.mk.inj he).2
    cases hf
  rcases List.mem_cons.1 h with he | h
  · obtain rfl := (Prod.mk.inj he).2
    cases hf
  rcases List.mem_cons.1 h with he | h
  · obtain rfl := (Prod.mk.inj he).2
    cases hf
  rcases List.mem_cons.1 h with he | h
  · obtain rfl := (Prod.mk.inj he).2
    cases hf
  rcases List.mem_cons.1 h with he | h
  · obtain rfl := (Prod.mk.inj he).2
    cases hf
  rcases List.mem_cons.1 h with he | h
  · obtain rfl := (Prod.mk.inj he).2
    cases hf
  rcases List.mem_cons.1 h with he | h
  · obtain rfl := (Prod.mk.inj he).2
    cases hf
  rcases List.mem_cons.1 h with he | h
  · obtain rfl := (Prod.mk.inj he).2
    cases hf
  rcases List.mem_cons.1 h with he | h
  · obtain rfl := (Prod.mk.inj he).2
    cases hf
  rcases List.mem_cons.1 h with he | h
  · obtain rfl := (Prod.mk.inj he).2
    cases hf
  rcases List.mem_cons.1 h with he | h
  · obtain rfl := (Prod.mk.inj he).2
    cases hf
  rcases List.mem_cons.1 h with he | h
  · obtain rfl := (Prod.mk.inj he).2
    cases hf
  rcases List.mem_cons.1 h with he | h
  · obtain rfl := (Prod.mk.inj he).2
    cases hf
  rcases List.mem_cons.1 h with he | h
  · obtain rfl := (Prod.mk.inj he).2
    cases hf
  rcases List.mem_cons.1 h with he | h
  · obtain rfl := (Prod.mk.inj he).2
    cases hf
  rcases List.mem_cons.1 h with he | h
  · obtain rfl := (Prod.mk.inj he).2
    cases hf
  rcases List.mem_cons.1 h with he | h
  · obtain rfl := (Prod.mk.inj he).2
    cases hf
  rcases List.mem_cons.1 h with he | h
  · obtain rfl := (Prod.mk.inj he).2
    cases hf
  rcases List.mem_cons.1 h with he | h
  · obtain rfl := (Prod.mk.inj he).2
    cases hf
  rcases List.mem_cons.1 h with he | h
  · obtain rfl := (Prod.mk.inj he).2
    cases hf
  rcases List.mem_cons.1 h with he | h
  · obtain rfl := (Prod.mk.inj he).2
    have hf := Option.some.inj hf
    subst hf
    exact sort_ok args tab z hz
  rcases List.mem_cons.1 h with he | h
  · obtain rfl := (Prod.mk.inj he).2
    cases hf
  rcases List.mem_cons.1 h with he | h
  · obtain rfl := (Prod.mk.inj he).2
    cases hf
  rcases List.mem_cons.1 h with he | h
  · obtain rfl := (Prod.mk.inj he).2
    cases hf
  rcases List.mem_cons.1 h with he | h
  · obtain rfl := (Prod.mk.inj he).2
    cases hf
  rcases List.mem_cons.1 h with he | h
  · obtain rfl := (Prod.mk.inj he).2
    have hf := Option.some.inj hf
    subst hf
    exact clone_ok args tab z hz
  rcases List.mem_cons.1 h with he | h
  · obtain rfl := (Prod.mk.inj he).2
    have hf := Option.some.inj hf
    subst hf
    exact clone_okO args tab z hz
  rcases List.mem_cons.1 h with he | h
  · obtain rfl := (Prod.mk.inj he).2
    cases hf
  rcases List.mem_cons.1 h with he | h
  · obtain rfl := (Prod.mk.inj he).2
    cases hf
  rcases List.mem_cons.1 h with he | h
  · obtain rfl := (Prod.mk.inj he).2
    cases hf
  rcases List.mem_cons.1 h with he | h
  · obtain rfl := (Prod.mk.inj he).2
    cases hf
  rcases List.mem_cons.1 h with he | h
  · obtain rfl := (Prod.mk.inj he).2
    cases hf
  rcases List.mem_cons.1 h with he | h
  · obtain rfl := (Prod.mk.inj he).2
    cases hf
  rcases List.mem_cons.1 h with he | h
  · obtain rfl := (Prod.mk.inj he).2
    cases hf
  rcases List.mem_cons.1 h with he | h
  · obtain rfl := (Prod.mk.inj he).2
    cases hf
  cases h
/-- Texts that a machine can hold: from the data. -/
theorem sm_of {d : dDisk} (h : SmT tDisk d) : SmD d := by
  obtain ⟨h1, h2, h3, _⟩ := h
  have hm : maxLen = 9223372036854775807 := rfl
  refine ⟨fun y hy => ?_, fun y hy => ?_, fun y hy => ?_, ?_, ?_, ?_⟩
  · obtain ⟨a, b, _⟩ := h1.2 y hy
    have a : y.1.size ≤ maxLen := a
    have b : y.2.1.size ≤ maxLen := b
    omega
  · obtain ⟨a, b, _⟩ := h2.2 y hy
    have a : y.1.size ≤ maxLen := a
    have b : y.2.1.size ≤ maxLen := b
    omega
  · obtain ⟨_, a, b, c, _⟩ := h3.2 y hy
    have a : y.2.1.size ≤ maxLen := a
    have b : y.2.2.1.size ≤ maxLen := b
    have c : y.2.2.2.1.size ≤ maxLen := c
    omega
  · have := h1.1
    omega
  · have := h2.1
    omega
  · have := h3.1
    omega
end Go.Proofs.Ytcfnhfbaakflgaa.Abs
