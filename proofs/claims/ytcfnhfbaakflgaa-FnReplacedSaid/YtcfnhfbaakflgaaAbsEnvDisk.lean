/- What is known of the program: its types, its functions, those that are shown otherwise. -/
import Derived.Test.YtcfnhfbaakflgaaAbsGlue
import Derived.Test.YtcfnhfbaakflgaaAbsLays
import Derived.Test.YtcfnhfbaakflgaaAbsInsert2
set_option linter.unusedVariables false
set_option maxRecDepth 100000
namespace Go.Proofs.Ytcfnhfbaakflgaa.Abs
open Go
theorem fns_ok : ∀ p ∈ E.fns, Try.prog.funcs[p.2.g]? = some p.2.fn ∧ p.2.fn.body.isSome = true ∧ (p.2.fn.name == "runtime.NumGoroutine") = false := by
  unfold E
  intro p h
  rcases List.mem_cons.1 h with rfl | h
  · exact ⟨Try.func6, by kernel_rfl, by kernel_rfl⟩
  rcases List.mem_cons.1 h with rfl | h
  · exact ⟨Try.func7, by kernel_rfl, by kernel_rfl⟩
  rcases List.mem_cons.1 h with rfl | h
  · exact ⟨Try.func8, by kernel_rfl, by kernel_rfl⟩
  rcases List.mem_cons.1 h with rfl | h
  · exact ⟨Try.func9, by kernel_rfl, by kernel_rfl⟩
  rcases List.mem_cons.1 h with rfl | h
  · exact ⟨Try.func10, by kernel_rfl, by kernel_rfl⟩
  rcases List.mem_cons.1 h with rfl | h
  · exact ⟨Try.func11, by kernel_rfl, by kernel_rfl⟩
  rcases List.mem_cons.1 h with rfl | h
  · exact ⟨Try.func12, by kernel_rfl, by kernel_rfl⟩
  rcases List.mem_cons.1 h with rfl | h
  · exact ⟨Try.func13, by kernel_rfl, by kernel_rfl⟩
  rcases List.mem_cons.1 h with rfl | h
  · exact ⟨Try.func14, by kernel_rfl, by kernel_rfl⟩
  rcases List.mem_cons.1 h with rfl | h
  · exact ⟨Try.func22, by kernel_rfl, by kernel_rfl⟩
  rcases List.mem_cons.1 h with rfl | h
  · exact ⟨Try.func26, by kernel_rfl, by kernel_rfl⟩
  rcases List.mem_cons.1 h with rfl | h
  · exact ⟨Try.func27, by kernel_rfl, by kernel_rfl⟩
  rcases List.mem_cons.1 h with rfl | h
  · exact ⟨Try.func28, by kernel_rfl, by kernel_rfl⟩
  rcases List.mem_cons.1 h with rfl | h
  · exact ⟨Try.func29, by kernel_rfl, by kernel_rfl⟩
  rcases List.mem_cons.1 h with rfl | h
  · exact ⟨Try.func30, by kernel_rfl, by kernel_rfl⟩
  rcases List.mem_cons.1 h with rfl | h
  · exact ⟨Try.func31, by kernel_rfl, by kernel_rfl⟩
  rcases List.mem_cons.1 h with rfl | h
  · exact ⟨Try.func32, by kernel_rfl, by kernel_rfl⟩
  rcases List.mem_cons.1 h with rfl | h
  · exact ⟨Try.func33, by kernel_rfl, by kernel_rfl⟩
  rcases List.mem_cons.1 h with rfl | h
  · exact ⟨Try.func34, by kernel_rfl, by kernel_rfl⟩
  rcases List.mem_cons.1 h with rfl | h
  · exact ⟨Try.func35, by kernel_rfl, by kernel_rfl⟩
  rcases List.mem_cons.1 h with rfl | h
  · exact ⟨Try.func36, by kernel_rfl, by kernel_rfl⟩
  rcases List.mem_cons.1 h with rfl | h
  · exact ⟨Try.func37, by kernel_rfl, by kernel_rfl⟩
  rcases List.mem_cons.1 h with rfl | h
  · exact ⟨Try.func38, by kernel_rfl, by kernel_rfl⟩
  rcases List.mem_cons.1 h with rfl | h
  · exact ⟨Try.func39, by kernel_rfl, by kernel_rfl⟩
  rcases List.mem_cons.1 h with rfl | h
  · exact ⟨Try.func40, by kernel_rfl, by kernel_rfl⟩
  rcases List.mem_cons.1 h with rfl | h
  · exact ⟨Try.func41, by kernel_rfl, by kernel_rfl⟩
  rcases List.mem_cons.1 h with rfl | h
  · exact ⟨Try.func42, by kernel_rfl, by kernel_rfl⟩
  rcases List.mem_cons.1 h with rfl | h
  · exact ⟨Try.func43, by kernel_rfl, by kernel_rfl⟩
  rcases List.mem_cons.1 h with rfl | h
  · exact ⟨Try.func44, by kernel_rfl, by kernel_rfl⟩
  rcases List.mem_cons.1 h with rfl | h
  · exact ⟨Try.func45, by kernel_rfl, by kernel_rfl⟩
  rcases List.mem_cons.1 h with rfl | h
  · exact ⟨Try.func46, by kernel_rfl, by kernel_rfl⟩
  rcases List.mem_cons.1 h with rfl | h
  · exact ⟨Try.func47, by kernel_rfl, by kernel_rfl⟩
  rcases List.mem_cons.1 h with rfl | h
  · exact ⟨Try.func48, by kernel_rfl, by kernel_rfl⟩
  rcases List.mem_cons.1 h with rfl | h
  · exact ⟨Try.func49, by kernel_rfl, by kernel_rfl⟩
  rcases List.mem_cons.1 h with rfl | h
  · exact ⟨Try.func50, by kernel_rfl, by kernel_rfl⟩
  rcases List.mem_cons.1 h with rfl | h
  · exact ⟨Try.func51, by kernel_rfl, by kernel_rfl⟩
  rcases List.mem_cons.1 h with rfl | h
  · exact ⟨Try.func56, by kernel_rfl, by kernel_rfl⟩
  rcases List.mem_cons.1 h with rfl | h
  · exact ⟨Try.func57, by kernel_rfl, by kernel_rfl⟩
  rcases List.mem_cons.1 h with rfl | h
  · exact ⟨Try.func58, by kernel_rfl, by kernel_rfl⟩
  rcases List.mem_cons.1 h with rfl | h
  · exact ⟨Try.func59, by kernel_rfl, by kernel_rfl⟩
  rcases List.mem_cons.1 h with rfl | h
  · exact ⟨Try.func62, by kernel_rfl, by kernel_rfl⟩
  rcases List.mem_cons.1 h with rfl | h
  · exact ⟨Try.func63, by kernel_rfl, by kernel_rfl⟩
  rcases List.mem_cons.1 h with rfl | h
  · exact ⟨Try.func64, by kernel_rfl, by kernel_rfl⟩
  rcases List.mem_cons.1 h with rfl | h
  · exact ⟨Try.func65, by kernel_rfl, by kernel_rfl⟩
  rcases List.mem_cons.1 h with rfl | h
  · exact ⟨Try.func66, by kernel_rfl, by kernel_rfl⟩
  rcases List.mem_cons.1 h with rfl | h
  · exact ⟨Try.func67, by kernel_rfl, by kernel_rfl⟩
  rcases List.mem_cons.1 h with rfl | h
  · exact ⟨Try.func68, by kernel_rfl, by kernel_rfl⟩
  rcases List.mem_cons.1 h with rfl | h
  · exact ⟨Try.func69, by kernel_rfl, by kernel_rfl⟩
  rcases List.mem_cons.1 h with rfl | h
  · exact ⟨Try.func70, by kernel_rfl, by kernel_rfl⟩
  rcases List.mem_cons.1 h with rfl | h
  · exact ⟨Try.func71, by kernel_rfl, by kernel_rfl⟩
  rcases List.mem_cons.1 h with rfl | h
  · exact ⟨Try.func72, by kernel_rfl, by kernel_rfl⟩
  rcases List.mem_cons.1 h with rfl | h
  · exact ⟨Try.func73, by kernel_rfl, by kernel_rfl⟩
  rcases List.mem_cons.1 h with rfl | h
  · exact ⟨Try.func74, by kernel_rfl, by kernel_rfl⟩
  rcases List.mem_cons.1 h with rfl | h
  · exact ⟨Try.func75, by kernel_rfl, by kernel_rfl⟩
  rcases List.mem_cons.1 h with rfl | h
  · exact ⟨Try.func76, by kernel_rfl, by kernel_rfl⟩
  rcases List.mem_cons.1 h with rfl | h
  · exact ⟨Try.func77, by kernel_rfl, by kernel_rfl⟩
  rcases List.mem_cons.1 h with rfl | h
  · exact ⟨Try.func78, by kernel_rfl, by kernel_rfl⟩
  rcases List.mem_cons.1 h with rfl | h
  · exact ⟨Try.func79, by kernel_rfl, by kernel_rfl⟩
  rcases List.mem_cons.1 h with rfl | h
  · exact ⟨Try.func80, by kernel_rfl, by kernel_rfl⟩
  rcases List.mem_cons.1 h with rfl | h
  · exact ⟨Try.func81, by kernel_rfl, by kernel_rfl⟩
  rcases List.mem_cons.1 h with rfl | h
  · exact ⟨Try.func82, by kernel_rfl, by kernel_rfl⟩
  rcases List.mem_cons.1 h with rfl | h
  · exact ⟨Try.func83, by kernel_rfl, by kernel_rfl⟩
  rcases List.mem_cons.1 h with rfl | h
  · exact ⟨Try.func84, by kernel_rfl, by kernel_rfl⟩
  rcases List.mem_cons.1 h with rfl | h
  · exact ⟨Try.func85, by kernel_rfl, by kernel_rfl⟩
  rcases List.mem_cons.1 h with rfl | h
  · exact ⟨Try.func86, by kernel_rfl, by kernel_rfl⟩
  rcases List.mem_cons.1 h with rfl | h
  · exact ⟨Try.func87, by kernel_rfl, by kernel_rfl⟩
  rcases List.mem_cons.1 h with rfl | h
  · exact ⟨Try.func88, by kernel_rfl, by kernel_rfl⟩
  rcases List.mem_cons.1 h with rfl | h
  · exact ⟨Try.func89, by kernel_rfl, by kernel_rfl⟩
  rcases List.mem_cons.1 h with rfl | h
  · exact ⟨Try.func90, by kernel_rfl, by kernel_rfl⟩
  rcases List.mem_cons.1 h with rfl | h
  · exact ⟨Try.func91, by kernel_rfl, by kernel_rfl⟩
  rcases List.mem_cons.1 h with rfl | h
  · exact ⟨Try.func92, by kernel_rfl, by kernel_rfl⟩
  rcases List.mem_cons.1 h with rfl | h
  · exact ⟨Try.func93, by kernel_rfl, by kernel_rfl⟩
  rcases List.mem_cons.1 h with rfl | h
  · exact ⟨Try.func94, by kernel_rfl, by kernel_rfl⟩
  rcases List.mem_cons.1 h with rfl | h
  · exact ⟨Try.func96, by kernel_rfl, by kernel_rfl⟩
  rcases List.mem_cons.1 h with rfl | h
  · exact ⟨Try.func97, by kernel_rfl, by kernel_rfl⟩
  rcases List.mem_cons.1 h with rfl | h
  · exact ⟨Try.func98, by kernel_rfl, by kernel_rfl⟩
  rcases List.mem_cons.1 h with rfl | h
  · exact ⟨Try.func99, by kernel_rfl, by kernel_rfl⟩
  rcases List.mem_cons.1 h with rfl | h
  · exact ⟨Try.func100, by kernel_rfl, by kernel_rfl⟩
  rcases List.mem_cons.1 h with rfl | h
  · exact ⟨Try.func103, by kernel_rfl, by kernel_rfl⟩
  rcases List.mem_cons.1 h with rfl | h
  · exact ⟨Try.func104, by kernel_rfl, by kernel_rfl⟩
  rcases List.mem_cons.1 h with rfl | h
  · exact ⟨Try.func105, by kernel_rfl, by kernel_rfl⟩
  rcases List.mem_cons.1 h with rfl | h
  · exact ⟨Try.func106, by kernel_rfl, by kernel_rfl⟩
  rcases List.mem_cons.1 h with rfl | h
  · exact ⟨Try.func107, by kernel_rfl, by kernel_rfl⟩
  rcases List.mem_cons.1 h with rfl | h
  · exact ⟨Try.func108, by kernel_rfl, by kernel_rfl⟩
  rcases List.mem_cons.1 h with rfl | h
  · exact ⟨Try.func109, by kernel_rfl, by kernel_rfl⟩
  rcases List.mem_cons.1 h with rfl | h
  · exact ⟨Try.func110, by kernel_rfl, by kernel_rfl⟩
  rcases List.mem_cons.1 h with rfl | h
  · exact ⟨Try.func111, by kernel_rfl, by kernel_rfl⟩
  rcases List.mem_cons.1 h with rfl | h
  · exact ⟨Try.func112, by kernel_rfl, by kernel_rfl⟩
  rcases List.mem_cons.1 h with rfl | h
  · exact ⟨Try.func113, by kernel_rfl, by kernel_rfl⟩
  rcases List.mem_cons.1 h with rfl | h
  · exact ⟨Try.func114, by kernel_rfl, by kernel_rfl⟩
  rcases List.mem_cons.1 h with rfl | h
  · exact ⟨Try.func115, by kernel_rfl, by kernel_rfl⟩
  rcases List.mem_cons.1 h with rfl | h
  · exact ⟨Try.func118, by kernel_rfl, by kernel_rfl⟩
  rcases List.mem_cons.1 h with rfl | h
  · exact ⟨Try.func119, by kernel_rfl, by kernel_rfl⟩
  rcases List.mem_cons.1 h with rfl | h
  · exact ⟨Try.func123, by kernel_rfl, by kernel_rfl⟩
  rcases List.mem_cons.1 h with rfl | h
  · exact ⟨Try.func64, by kernel_rfl, by kernel_rfl⟩
  rcases List.mem_cons.1 h with rfl | h
  · exact ⟨Try.func64, by kernel_rfl, by kernel_rfl⟩
  cases h
theorem env_ok : EnvOk Try.prog E := envOk_of (by kernel_rfl) fns_ok
theorem prims_ok : PrimsOk Try.prog E := by
  intro I f key hg hf args tab z hz
  have h := nth_mem hg
  unfold E at h
  rcases List.mem_cons.1 h with he | h
  · obtain rfl := (Prod.mk.inj he).2
    cases hf
  rcases List.mem_cons.1 h with he | h
  · obtain rfl := (Prod.mk.inj he).2
    cases hf
  rcases List.mem_cons.1 h with he | h
  · obtain rfl := (Prod.mk.inj he).2
    cases hf
  rcases List.mem_cons.1 h with he | h
  · obtain rfl := (Prod.mk.inj he).2
    cases hf
  rcases List.mem_cons.1 h with he | h
  · obtain rfl := (Prod.mk.inj he).2
    cases hf
  rcases List.mem_cons.1 h with he | h
  · obtain rfl := (Prod.mk.inj he).2
    cases hf
  rcases List.mem_cons.1 h with he | h
  · obtain rfl := (Prod.mk.inj he).2
    cases hf
  rcases List.mem_cons.1 h with he | h
  · obtain rfl := (Prod.mk.inj he).2
    cases hf
  rcases List.mem_cons.1 h with he | h
  · obtain rfl := (Prod.mk.inj he).2
    cases hf
  rcases List.mem_cons.1 h with he | h
  · obtain rfl := (Prod.mk.inj he).2
    cases hf
  rcases List.mem_cons.1 h with he | h
  · obtain rfl := (Prod.mk.inj he).2
    cases hf
  rcases List.mem_cons.1 h with he | h
  · obtain rfl := (Prod.mk.inj he).2
    cases hf
  rcases List.mem_cons.1 h with he | h
  · obtain rfl := (Prod.mk.inj he).2
    cases hf
  rcases List.mem_cons.1 h with he | h
  · obtain rfl := (Prod.mk.inj he).2
    cases hf
  rcases List.mem_cons.1 h with he | h
  · obtain rfl := (Prod.mk.inj he).2
    cases hf
  rcases List.mem_cons.1 h with he | h
  · obtain rfl := (Prod.mk.inj he).2
    cases hf
  rcases List.mem_cons.1 h with he | h
  · obtain rfl := (Prod.mk.inj he).2
    cases hf
  rcases List.mem_cons.1 h with he | h
  · obtain rfl := (Prod.mk.inj he).2
    cases hf
  rcases List.mem_cons.1 h with he | h
  · obtain rfl := (Prod.mk.inj he).2
    cases hf
  rcases List.mem_cons.1 h with he | h
  · obtain rfl := (Prod.mk.inj he).2
    cases hf
  rcases List.mem_cons.1 h with he | h
  · obtain rfl := (Prod.mk.inj he).2
    cases hf
  rcases List.mem_cons.1 h with he | h
  · obtain rfl := (Prod.mk.inj he).2
    cases hf
  rcases List.mem_cons.1 h with he | h
  · obtain rfl := (Prod.mk.inj he).2
    cases hf
  rcases List.mem_cons.1 h with he | h
  · obtain rfl := (Prod.mk.inj he).2
    cases hf
  rcases List.mem_cons.1 h with he | h
  · obtain rfl := (Prod.mk.inj he).2
    cases hf
  rcases List.mem_cons.1 h with he | h
  · obtain rfl := (Prod.mk.inj he).2
    cases hf
  rcases List.mem_cons.1 h with he | h
  · obtain rfl := (Prod.mk.inj he).2
    cases hf
  rcases List.mem_cons.1 h with he | h
  · obtain rfl := (Prod.mk.inj he).2
    cases hf
  rcases List.mem_cons.1 h with he | h
  · obtain rfl := (Prod.mk.inj he).2
    cases hf
  rcases List.mem_cons.1 h with he | h
  · obtain rfl := (Prod.mk.inj he).2
    cases hf
  rcases List.mem_cons.1 h with he | h
  · obtain rfl := (Prod.mk.inj he).2
    cases hf
  rcases List.mem_cons.1 h with he | h
  · obtain rfl := (Prod.mk.inj he).2
    cases hf
  rcases List.mem_cons.1 h with he | h
  · obtain rfl := (Prod.mk.inj he).2
    cases hf
  rcases List.mem_cons.1 h with he | h
  · obtain rfl := (Prod.mk.inj he).2
    cases hf
  rcases List.mem_cons.1 h with he | h
  · obtain rfl := (Prod.mk.inj he).2
    cases hf
  rcases List.mem_cons.1 h with he | h
  · obtain rfl := (Prod.mk.inj he).2
    cases hf
  rcases List.mem_cons.1 h with he | h
  · obtain rfl := (Prod.mk.inj he).2
    cases hf
  rcases List.mem_cons.1 h with he | h
  · obtain rfl := (Prod.mk.inj he).2
    cases hf
  rcases List.mem_cons.1 h with he | h
  · obtain rfl := (Prod.mk.inj he).2
    cases hf
  rcases List.mem_cons.1 h with he | h
  · obtain rfl := (Prod.mk.inj he).2
    cases hf
  rcases List.mem_cons.1 h with he | h
  · obtain rfl := (Prod.mk.inj he).2
    cases hf
  rcases List.mem_cons.1 h with he | h
  · obtain rfl := (Prod.mk.inj he).2
    cases hf
  rcases List.mem_cons.1 h with he | h
  · obtain rfl := (Prod.mk.inj he).2
    cases hf
  rcases List.mem_cons.1 h with he | h
  · obtain rfl := (Prod.mk.inj he).2
    cases hf
  rcases List.mem_cons.1 h with he | h
  · obtain rfl := (Prod.mk.inj he).2
    cases hf
  rcases List.mem_cons.1 h with he | h
  · obtain rfl := (Prod.mk.inj he).2
    cases hf
  rcases List.mem_cons.1 h with he | h
  · obtain rfl := (Prod.mk.inj he).2
    cases hf
  rcases List.mem_cons.1 h with he | h
  · obtain rfl := (Prod.mk.inj he).2
    cases hf
  rcases List.mem_cons.1 h with he | h
  · obtain rfl := (Prod.mk.inj he).2
    cases hf
  rcases List.mem_cons.1 h with he | h
  · obtain rfl := (Prod.mk.inj he).2
    cases hf
  rcases List.mem_cons.1 h with he | h
  · obtain rfl := (Prod.mk.inj he).2
    cases hf
  rcases List.mem_cons.1 h with he | h
  · obtain rfl := (Prod.mk.inj he).2
    cases hf
  rcases List.mem_cons.1 h with he | h
  · obtain rfl := (Prod.mk.inj he).2
    cases hf
  rcases List.mem_cons.1 h with he | h
  · obtain rfl := (Prod.mk.inj he).2
    cases hf
  rcases List.mem_cons.1 h with he | h
  · obtain rfl := (Prod.mk.inj he).2
    cases hf
  rcases List.mem_cons.1 h with he | h
  · obtain rfl := (Prod.mk.inj he).2
    cases hf
  rcases List.mem_cons.1 h with he | h
  · obtain rfl := (Prod.mk.inj he).2
    cases hf
  rcases List.mem_cons.1 h with he | h
  · obtain rfl := (Prod.mk.inj he).2
    cases hf
  rcases List.mem_cons.1 h with he | h
  · obtain rfl := (Prod.mk.inj he).2
    cases hf
  rcases List.mem_cons.1 h with he | h
  · obtain rfl := (Prod.mk.inj he).2
    cases hf
  rcases List.mem_cons.1 h with he | h
  · obtain rfl := (Prod.mk.inj he).2
    cases hf
  rcases List.mem_cons.1 h with he | h
  · obtain rfl := (Prod.mk.inj he).2
    cases hf
  rcases List.mem_cons.1 h with he | h
  · obtain rfl := (Prod.mk.inj he).2
    cases hf
  rcases List.mem_cons.1 h with he | h
  · obtain rfl := (Prod.mk.inj he).2
    cases hf
  rcases List.mem_cons.1 h with he | h
  · obtain rfl := (Prod.mk.inj he).2
    cases hf
  rcases List.mem_cons.1 h with he | h
  · obtain rfl := (Prod.mk.inj he).2
    cases hf
  rcases List.mem_cons.1 h with he | h
  · obtain rfl := (Prod.mk.inj he).2
    cases hf
  rcases List.mem_cons.1 h with he | h
  · obtain rfl := (Prod.mk.inj he).2
    cases hf
  rcases List.mem_cons.1 h with he | h
  · obtain rfl := (Prod.mk.inj he).2
    cases hf
  rcases List.mem_cons.1 h with he | h
  · obtain rfl := (Prod.mk.inj he).2
    cases hf
  rcases List.mem_cons.1 h with he | h
  · obtain rfl := (Prod.mk.inj he).2
    have hf := Option.some.inj hf
    subst hf
    exact insert_ok args tab z hz
  rcases List.mem_cons.1 h with he | h
  · obtain rfl := (Prod.mk.inj he).2
    cases hf
  rcases List.mem_cons.1 h with he | h
  · obtain rfl := (Prod.mk.inj he).2
    cases hf
  rcases List.mem_cons.1 h with he | h
  · obtain rfl := (Prod.mk.inj he).2
    cases hf
  rcases List.mem_cons.1 h with he | h
  · obtain rfl := (Prod.mk.inj he).2
    cases hf
  rcases List.mem_cons.1 h with he | h
  · obtain rfl := (Prod.mk.inj he).2
    cases hf
  rcases List.mem_cons.1 h with he | h
  · obtain rfl := (Prod.mk.inj he).2
    cases hf
  rcases List.mem_cons.1 h with he | h
  · obtain rfl := (Prod.mk.inj he).2
    have hf := Option.some.inj hf
    subst hf
    exact sort_ok args tab z hz
  rcases List.mem_cons.1 h with he | h
  · obtain rfl := (Prod.mk.inj he).2
    cases hf
  rcases List.mem_cons.1 h with he | h
  · obtain rfl := (Prod.mk.inj he).2
    cases hf
  rcases List.mem_cons.1 h with he | h
  · obtain rfl := (Prod.mk.inj he).2
    cases hf
  rcases List.mem_cons.1 h with he | h
  · obtain rfl := (Prod.mk.inj he).2
    cases hf
  rcases List.mem_cons.1 h with he | h
  · obtain rfl := (Prod.mk.inj he).2
    have hf := Option.some.inj hf
    subst hf
    exact clone_ok args tab z hz
  rcases List.mem_cons.1 h with he | h
  · obtain rfl := (Prod.mk.inj he).2
    have hf := Option.some.inj hf
    subst hf
    exact clone_okO args tab z hz
  rcases List.mem_cons.1 h with he | h
  · obtain rfl := (Prod.mk.inj he).2
    cases hf
  rcases List.mem_cons.1 h with he | h
  · obtain rfl := (Prod.mk.inj he).2
    cases hf
  rcases List.mem_cons.1 h with he | h
  · obtain rfl := (Prod.mk.inj he).2
    cases hf
  rcases List.mem_cons.1 h with he | h
  · obtain rfl := (Prod.mk.inj he).2
    cases hf
  rcases List.mem_cons.1 h with he | h
  · obtain rfl := (Prod.mk.inj he).2
    cases hf
  rcases List.mem_cons.1 h with he | h
  · obtain rfl := (Prod.mk.inj he).2
    cases hf
  rcases List.mem_cons.1 h with he | h
  · obtain rfl := (Prod.mk.inj he).2
    cases hf
  rcases List.mem_cons.1 h with he | h
  · obtain rfl := (Prod.mk.inj he).2
    cases hf
  rcases List.mem_cons.1 h with he | h
  · obtain rfl := (Prod.mk.inj he).2
    cases hf
  rcases List.mem_cons.1 h with he | h
  · obtain rfl := (Prod.mk.inj he).2
    cases hf
  rcases List.mem_cons.1 h with he | h
  · obtain rfl := (Prod.mk.inj he).2
    cases hf
  rcases List.mem_cons.1 h with he | h
  · obtain rfl := (Prod.mk.inj he).2
    cases hf
  cases h
/-- Texts that a machine can hold: from the data. -/
theorem sm_of {d : dDisk} (h : SmT tDisk d) : SmD d := by
  obtain ⟨h1, h2, h3, _⟩ := h
  have hm : maxLen = 9223372036854775807 := rfl
  refine ⟨fun y hy => ?_, fun y hy => ?_, fun y hy => ?_, ?_, ?_, ?_⟩
  · obtain ⟨a, b, _⟩ := h1.2 y hy
    have a : y.1.size ≤ maxLen := a
    have b : y.2.1.size ≤ maxLen := b
    omega
  · obtain ⟨a, b, _⟩ := h2.2 y hy
    have a : y.1.size ≤ maxLen := a
    have b : y.2.1.size ≤ maxLen := b
    omega
  · obtain ⟨_, a, b, c, _⟩ := h3.2 y hy
    have a : y.2.1.size ≤ maxLen := a
    have b : y.2.2.1.size ≤ maxLen := b
    have c : y.2.2.2.1.size ≤ maxLen := c
    omega
  · have := h1.1
    omega
  · have := h2.1
    omega
  · have := h3.1
    omega
theorem smO_of {o : dDOp} (h : SmT tDOp o) : (o.2.1.size : Int) ≤ 9223372036854775807 ∧ (o.2.2.1.size : Int) ≤ 9223372036854775807 ∧ (o.2.2.2.1.size : Int) ≤ 9223372036854775807 := by
  obtain ⟨_, a, b, c, _⟩ := h
  have hm : maxLen = 9223372036854775807 := rfl
  have a : o.2.1.size ≤ maxLen := a
  have b : o.2.2.1.size ≤ maxLen := b
  have c : o.2.2.2.1.size ≤ maxLen := c
  omega
end Go.Proofs.Ytcfnhfbaakflgaa.Abs
