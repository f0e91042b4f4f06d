/- What is known of the program: its types, its functions, those that are shown otherwise. -/
import Derived.Test.YtiligfmembmapaaGreatDoorZA3
import Derived.Test.YtiligfmembmapaaGreatDoorZQD
import Derived.Test.YtiligfmembmapaaGreatDoorChecked
import Derived.Test.YtiligfmembmapaaGreatDoorZL1
set_option linter.unusedVariables false
namespace Go.Proofs.YtiligfmembmapaaGreatDoor.Abs
open Go
def vars : List VarRow := [powRow]
set_option maxRecDepth 100000 in
theorem fns_ok : ∀ p ∈ E.fns, Tryz.prog.funcs[p.2.g]? = some p.2.fn ∧ p.2.fn.body.isSome = true ∧ (p.2.fn.name == "runtime.NumGoroutine") = false := by
  unfold E
  intro p h
  rcases List.mem_cons.1 h with rfl | h
  · exact ⟨Tryz.func4, by kernel_rfl, by kernel_rfl⟩
  rcases List.mem_cons.1 h with rfl | h
  · exact ⟨Tryz.func8, by kernel_rfl, by kernel_rfl⟩
  rcases List.mem_cons.1 h with rfl | h
  · exact ⟨Tryz.func11, by kernel_rfl, by kernel_rfl⟩
  rcases List.mem_cons.1 h with rfl | h
  · exact ⟨Tryz.func15, by kernel_rfl, by kernel_rfl⟩
  rcases List.mem_cons.1 h with rfl | h
  · exact ⟨Tryz.func16, by kernel_rfl, by kernel_rfl⟩
  rcases List.mem_cons.1 h with rfl | h
  · exact ⟨Tryz.func17, by kernel_rfl, by kernel_rfl⟩
  rcases List.mem_cons.1 h with rfl | h
  · exact ⟨Tryz.func18, by kernel_rfl, by kernel_rfl⟩
  rcases List.mem_cons.1 h with rfl | h
  · exact ⟨Tryz.func19, by kernel_rfl, by kernel_rfl⟩
  rcases List.mem_cons.1 h with rfl | h
  · exact ⟨Tryz.func20, by kernel_rfl, by kernel_rfl⟩
  rcases List.mem_cons.1 h with rfl | h
  · exact ⟨Tryz.func21, by kernel_rfl, by kernel_rfl⟩
  rcases List.mem_cons.1 h with rfl | h
  · exact ⟨Tryz.func22, by kernel_rfl, by kernel_rfl⟩
  rcases List.mem_cons.1 h with rfl | h
  · exact ⟨Tryz.func24, by kernel_rfl, by kernel_rfl⟩
  rcases List.mem_cons.1 h with rfl | h
  · exact ⟨Tryz.func27, by kernel_rfl, by kernel_rfl⟩
  rcases List.mem_cons.1 h with rfl | h
  · exact ⟨Tryz.func28, by kernel_rfl, by kernel_rfl⟩
  rcases List.mem_cons.1 h with rfl | h
  · exact ⟨Tryz.func29, by kernel_rfl, by kernel_rfl⟩
  rcases List.mem_cons.1 h with rfl | h
  · exact ⟨Tryz.func32, by kernel_rfl, by kernel_rfl⟩
  rcases List.mem_cons.1 h with rfl | h
  · exact ⟨Tryz.func33, by kernel_rfl, by kernel_rfl⟩
  rcases List.mem_cons.1 h with rfl | h
  · exact ⟨Tryz.func34, by kernel_rfl, by kernel_rfl⟩
  rcases List.mem_cons.1 h with rfl | h
  · exact ⟨Tryz.func35, by kernel_rfl, by kernel_rfl⟩
  rcases List.mem_cons.1 h with rfl | h
  · exact ⟨Tryz.func38, by kernel_rfl, by kernel_rfl⟩
  rcases List.mem_cons.1 h with rfl | h
  · exact ⟨Tryz.func39, by kernel_rfl, by kernel_rfl⟩
  rcases List.mem_cons.1 h with rfl | h
  · exact ⟨Tryz.func40, by kernel_rfl, by kernel_rfl⟩
  rcases List.mem_cons.1 h with rfl | h
  · exact ⟨Tryz.func41, by kernel_rfl, by kernel_rfl⟩
  rcases List.mem_cons.1 h with rfl | h
  · exact ⟨Tryz.func42, by kernel_rfl, by kernel_rfl⟩
  rcases List.mem_cons.1 h with rfl | h
  · exact ⟨Tryz.func43, by kernel_rfl, by kernel_rfl⟩
  rcases List.mem_cons.1 h with rfl | h
  · exact ⟨Tryz.func44, by kernel_rfl, by kernel_rfl⟩
  rcases List.mem_cons.1 h with rfl | h
  · exact ⟨Tryz.func45, by kernel_rfl, by kernel_rfl⟩
  rcases List.mem_cons.1 h with rfl | h
  · exact ⟨Tryz.func46, by kernel_rfl, by kernel_rfl⟩
  rcases List.mem_cons.1 h with rfl | h
  · exact ⟨Tryz.func47, by kernel_rfl, by kernel_rfl⟩
  rcases List.mem_cons.1 h with rfl | h
  · exact ⟨Tryz.func48, by kernel_rfl, by kernel_rfl⟩
  rcases List.mem_cons.1 h with rfl | h
  · exact ⟨Tryz.func49, by kernel_rfl, by kernel_rfl⟩
  rcases List.mem_cons.1 h with rfl | h
  · exact ⟨Tryz.func50, by kernel_rfl, by kernel_rfl⟩
  rcases List.mem_cons.1 h with rfl | h
  · exact ⟨Tryz.func51, by kernel_rfl, by kernel_rfl⟩
  rcases List.mem_cons.1 h with rfl | h
  · exact ⟨Tryz.func52, by kernel_rfl, by kernel_rfl⟩
  rcases List.mem_cons.1 h with rfl | h
  · exact ⟨Tryz.func53, by kernel_rfl, by kernel_rfl⟩
  rcases List.mem_cons.1 h with rfl | h
  · exact ⟨Tryz.func55, by kernel_rfl, by kernel_rfl⟩
  rcases List.mem_cons.1 h with rfl | h
  · exact ⟨Tryz.func56, by kernel_rfl, by kernel_rfl⟩
  rcases List.mem_cons.1 h with rfl | h
  · exact ⟨Tryz.func57, by kernel_rfl, by kernel_rfl⟩
  rcases List.mem_cons.1 h with rfl | h
  · exact ⟨Tryz.func60, by kernel_rfl, by kernel_rfl⟩
  rcases List.mem_cons.1 h with rfl | h
  · exact ⟨Tryz.func61, by kernel_rfl, by kernel_rfl⟩
  rcases List.mem_cons.1 h with rfl | h
  · exact ⟨Tryz.func62, by kernel_rfl, by kernel_rfl⟩
  rcases List.mem_cons.1 h with rfl | h
  · exact ⟨Tryz.func63, by kernel_rfl, by kernel_rfl⟩
  rcases List.mem_cons.1 h with rfl | h
  · exact ⟨Tryz.func64, by kernel_rfl, by kernel_rfl⟩
  rcases List.mem_cons.1 h with rfl | h
  · exact ⟨Tryz.func65, by kernel_rfl, by kernel_rfl⟩
  rcases List.mem_cons.1 h with rfl | h
  · exact ⟨Tryz.func66, by kernel_rfl, by kernel_rfl⟩
  rcases List.mem_cons.1 h with rfl | h
  · exact ⟨Tryz.func67, by kernel_rfl, by kernel_rfl⟩
  rcases List.mem_cons.1 h with rfl | h
  · exact ⟨Tryz.func68, by kernel_rfl, by kernel_rfl⟩
  rcases List.mem_cons.1 h with rfl | h
  · exact ⟨Tryz.func73, by kernel_rfl, by kernel_rfl⟩
  rcases List.mem_cons.1 h with rfl | h
  · exact ⟨Tryz.func74, by kernel_rfl, by kernel_rfl⟩
  rcases List.mem_cons.1 h with rfl | h
  · exact ⟨Tryz.func75, by kernel_rfl, by kernel_rfl⟩
  rcases List.mem_cons.1 h with rfl | h
  · exact ⟨Tryz.func76, by kernel_rfl, by kernel_rfl⟩
  rcases List.mem_cons.1 h with rfl | h
  · exact ⟨Tryz.func77, by kernel_rfl, by kernel_rfl⟩
  rcases List.mem_cons.1 h with rfl | h
  · exact ⟨Tryz.func81, by kernel_rfl, by kernel_rfl⟩
  rcases List.mem_cons.1 h with rfl | h
  · exact ⟨Tryz.func82, by kernel_rfl, by kernel_rfl⟩
  rcases List.mem_cons.1 h with rfl | h
  · exact ⟨Tryz.func83, by kernel_rfl, by kernel_rfl⟩
  rcases List.mem_cons.1 h with rfl | h
  · exact ⟨Tryz.func84, by kernel_rfl, by kernel_rfl⟩
  rcases List.mem_cons.1 h with rfl | h
  · exact ⟨Tryz.func85, by kernel_rfl, by kernel_rfl⟩
  rcases List.mem_cons.1 h with rfl | h
  · exact ⟨Tryz.func86, by kernel_rfl, by kernel_rfl⟩
  rcases List.mem_cons.1 h with rfl | h
  · exact ⟨Tryz.func87, by kernel_rfl, by kernel_rfl⟩
  rcases List.mem_cons.1 h with rfl | h
  · exact ⟨Tryz.func88, by kernel_rfl, by kernel_rfl⟩
  rcases List.mem_cons.1 h with rfl | h
  · exact ⟨Tryz.func89, by kernel_rfl, by kernel_rfl⟩
  rcases List.mem_cons.1 h with rfl | h
  · exact ⟨Tryz.func90, by kernel_rfl, by kernel_rfl⟩
  rcases List.mem_cons.1 h with rfl | h
  · exact ⟨Tryz.func91, by kernel_rfl, by kernel_rfl⟩
  rcases List.mem_cons.1 h with rfl | h
  · exact ⟨Tryz.func92, by kernel_rfl, by kernel_rfl⟩
  rcases List.mem_cons.1 h with rfl | h
  · exact ⟨Tryz.func95, by kernel_rfl, by kernel_rfl⟩
  rcases List.mem_cons.1 h with rfl | h
  · exact ⟨Tryz.func96, by kernel_rfl, by kernel_rfl⟩
  rcases List.mem_cons.1 h with rfl | h
  · exact ⟨Tryz.func97, by kernel_rfl, by kernel_rfl⟩
  rcases List.mem_cons.1 h with rfl | h
  · exact ⟨Tryz.func98, by kernel_rfl, by kernel_rfl⟩
  rcases List.mem_cons.1 h with rfl | h
  · exact ⟨Tryz.func99, by kernel_rfl, by kernel_rfl⟩
  rcases List.mem_cons.1 h with rfl | h
  · exact ⟨Tryz.func100, by kernel_rfl, by kernel_rfl⟩
  rcases List.mem_cons.1 h with rfl | h
  · exact ⟨Tryz.func101, by kernel_rfl, by kernel_rfl⟩
  rcases List.mem_cons.1 h with rfl | h
  · exact ⟨Tryz.func102, by kernel_rfl, by kernel_rfl⟩
  rcases List.mem_cons.1 h with rfl | h
  · exact ⟨Tryz.func103, by kernel_rfl, by kernel_rfl⟩
  rcases List.mem_cons.1 h with rfl | h
  · exact ⟨Tryz.func104, by kernel_rfl, by kernel_rfl⟩
  rcases List.mem_cons.1 h with rfl | h
  · exact ⟨Tryz.func105, by kernel_rfl, by kernel_rfl⟩
  rcases List.mem_cons.1 h with rfl | h
  · exact ⟨Tryz.func106, by kernel_rfl, by kernel_rfl⟩
  rcases List.mem_cons.1 h with rfl | h
  · exact ⟨Tryz.func107, by kernel_rfl, by kernel_rfl⟩
  rcases List.mem_cons.1 h with rfl | h
  · exact ⟨Tryz.func108, by kernel_rfl, by kernel_rfl⟩
  rcases List.mem_cons.1 h with rfl | h
  · exact ⟨Tryz.func109, by kernel_rfl, by kernel_rfl⟩
  rcases List.mem_cons.1 h with rfl | h
  · exact ⟨Tryz.func110, by kernel_rfl, by kernel_rfl⟩
  rcases List.mem_cons.1 h with rfl | h
  · exact ⟨Tryz.func111, by kernel_rfl, by kernel_rfl⟩
  rcases List.mem_cons.1 h with rfl | h
  · exact ⟨Tryz.func112, by kernel_rfl, by kernel_rfl⟩
  rcases List.mem_cons.1 h with rfl | h
  · exact ⟨Tryz.func113, by kernel_rfl, by kernel_rfl⟩
  rcases List.mem_cons.1 h with rfl | h
  · exact ⟨Tryz.func114, by kernel_rfl, by kernel_rfl⟩
  rcases List.mem_cons.1 h with rfl | h
  · exact ⟨Tryz.func115, by kernel_rfl, by kernel_rfl⟩
  rcases List.mem_cons.1 h with rfl | h
  · exact ⟨Tryz.func116, by kernel_rfl, by kernel_rfl⟩
  rcases List.mem_cons.1 h with rfl | h
  · exact ⟨Tryz.func117, by kernel_rfl, by kernel_rfl⟩
  rcases List.mem_cons.1 h with rfl | h
  · exact ⟨Tryz.func118, by kernel_rfl, by kernel_rfl⟩
  rcases List.mem_cons.1 h with rfl | h
  · exact ⟨Tryz.func119, by kernel_rfl, by kernel_rfl⟩
  rcases List.mem_cons.1 h with rfl | h
  · exact ⟨Tryz.func120, by kernel_rfl, by kernel_rfl⟩
  rcases List.mem_cons.1 h with rfl | h
  · exact ⟨Tryz.func121, by kernel_rfl, by kernel_rfl⟩
  rcases List.mem_cons.1 h with rfl | h
  · exact ⟨Tryz.func122, by kernel_rfl, by kernel_rfl⟩
  rcases List.mem_cons.1 h with rfl | h
  · exact ⟨Tryz.func123, by kernel_rfl, by kernel_rfl⟩
  rcases List.mem_cons.1 h with rfl | h
  · exact ⟨Tryz.func124, by kernel_rfl, by kernel_rfl⟩
  rcases List.mem_cons.1 h with rfl | h
  · exact ⟨Tryz.func125, by kernel_rfl, by kernel_rfl⟩
  rcases List.mem_cons.1 h with rfl | h
  · exact ⟨Tryz.func126, by kernel_rfl, by kernel_rfl⟩
  rcases List.mem_cons.1 h with rfl | h
  · exact ⟨Tryz.func127, by kernel_rfl, by kernel_rfl⟩
  rcases List.mem_cons.1 h with rfl | h
  · exact ⟨Tryz.func128, by kernel_rfl, by kernel_rfl⟩
  rcases List.mem_cons.1 h with rfl | h
  · exact ⟨Tryz.func129, by kernel_rfl, by kernel_rfl⟩
  rcases List.mem_cons.1 h with rfl | h
  · exact ⟨Tryz.func130, by kernel_rfl, by kernel_rfl⟩
  rcases List.mem_cons.1 h with rfl | h
  · exact ⟨Tryz.func131, by kernel_rfl, by kernel_rfl⟩
  rcases List.mem_cons.1 h with rfl | h
  · exact ⟨Tryz.func132, by kernel_rfl, by kernel_rfl⟩
  rcases List.mem_cons.1 h with rfl | h
  · exact ⟨Tryz.func133, by kernel_rfl, by kernel_rfl⟩
  rcases List.mem_cons.1 h with rfl | h
  · exact ⟨Tryz.func141, by kernel_rfl, by kernel_rfl⟩
  rcases List.mem_cons.1 h with rfl | h
  · exact ⟨Tryz.func142, by kernel_rfl, by kernel_rfl⟩
  rcases List.mem_cons.1 h with rfl | h
  · exact ⟨Tryz.func143, by kernel_rfl, by kernel_rfl⟩
  rcases List.mem_cons.1 h with rfl | h
  · exact ⟨Tryz.func144, by kernel_rfl, by kernel_rfl⟩
  rcases List.mem_cons.1 h with rfl | h
  · exact ⟨Tryz.func145, by kernel_rfl, by kernel_rfl⟩
  rcases List.mem_cons.1 h with rfl | h
  · exact ⟨Tryz.func146, by kernel_rfl, by kernel_rfl⟩
  rcases List.mem_cons.1 h with rfl | h
  · exact ⟨Tryz.func147, by kernel_rfl, by kernel_rfl⟩
  rcases List.mem_cons.1 h with rfl | h
  · exact ⟨Tryz.func148, by kernel_rfl, by kernel_rfl⟩
  rcases List.mem_cons.1 h with rfl | h
  · exact ⟨Tryz.func149, by kernel_rfl, by kernel_rfl⟩
  rcases List.mem_cons.1 h with rfl | h
  · exact ⟨Tryz.func150, by kernel_rfl, by kernel_rfl⟩
  rcases List.mem_cons.1 h with rfl | h
  · exact ⟨Tryz.func151, by kernel_rfl, by kernel_rfl⟩
  rcases List.mem_cons.1 h with rfl | h
  · exact ⟨Tryz.func152, by kernel_rfl, by kernel_rfl⟩
  rcases List.mem_cons.1 h with rfl | h
  · exact ⟨Tryz.func153, by kernel_rfl, by kernel_rfl⟩
  rcases List.mem_cons.1 h with rfl | h
  · exact ⟨Tryz.func154, by kernel_rfl, by kernel_rfl⟩
  rcases List.mem_cons.1 h with rfl | h
  · exact ⟨Tryz.func155, by kernel_rfl, by kernel_rfl⟩
  rcases List.mem_cons.1 h with rfl | h
  · exact ⟨Tryz.func156, by kernel_rfl, by kernel_rfl⟩
  rcases List.mem_cons.1 h with rfl | h
  · exact ⟨Tryz.func157, by kernel_rfl, by kernel_rfl⟩
  rcases List.mem_cons.1 h with rfl | h
  · exact ⟨Tryz.func158, by kernel_rfl, by kernel_rfl⟩
  rcases List.mem_cons.1 h with rfl | h
  · exact ⟨Tryz.func159, by kernel_rfl, by kernel_rfl⟩
  rcases List.mem_cons.1 h with rfl | h
  · exact ⟨Tryz.func160, by kernel_rfl, by kernel_rfl⟩
  rcases List.mem_cons.1 h with rfl | h
  · exact ⟨Tryz.func161, by kernel_rfl, by kernel_rfl⟩
  rcases List.mem_cons.1 h with rfl | h
  · exact ⟨Tryz.func162, by kernel_rfl, by kernel_rfl⟩
  rcases List.mem_cons.1 h with rfl | h
  · exact ⟨Tryz.func163, by kernel_rfl, by kernel_rfl⟩
  rcases List.mem_cons.1 h with rfl | h
  · exact ⟨Tryz.func170, by kernel_rfl, by kernel_rfl⟩
  rcases List.mem_cons.1 h with rfl | h
  · exact ⟨Tryz.func171, by kernel_rfl, by kernel_rfl⟩
  rcases List.mem_cons.1 h with rfl | h
  · exact ⟨Tryz.func172, by kernel_rfl, by kernel_rfl⟩
  rcases List.mem_cons.1 h with rfl | h
  · exact ⟨Tryz.func173, by kernel_rfl, by kernel_rfl⟩
  rcases List.mem_cons.1 h with rfl | h
  · exact ⟨Tryz.func174, by kernel_rfl, by kernel_rfl⟩
  rcases List.mem_cons.1 h with rfl | h
  · exact ⟨Tryz.func175, by kernel_rfl, by kernel_rfl⟩
  rcases List.mem_cons.1 h with rfl | h
  · exact ⟨Tryz.func178, by kernel_rfl, by kernel_rfl⟩
  rcases List.mem_cons.1 h with rfl | h
  · exact ⟨Tryz.func189, by kernel_rfl, by kernel_rfl⟩
  rcases List.mem_cons.1 h with rfl | h
  · exact ⟨Tryz.func190, by kernel_rfl, by kernel_rfl⟩
  rcases List.mem_cons.1 h with rfl | h
  · exact ⟨Tryz.func199, by kernel_rfl, by kernel_rfl⟩
  rcases List.mem_cons.1 h with rfl | h
  · exact ⟨Tryz.func208, by kernel_rfl, by kernel_rfl⟩
  cases h
theorem env_ok : EnvOk Tryz.prog E := envOk_of (by kernel_rfl) fns_ok
theorem prims_ok : PrimsOk (VarsGp Tryz.prog vars) Tryz.prog E := by
  intro I f key hg hf args tab z hz
  have h := nth_mem hg
  unfold E at h
  rcases List.mem_cons.1 h with he | h
  · obtain rfl := (Prod.mk.inj he).2
    cases hf
  rcases List.mem_cons.1 h with he | h
  · obtain rfl := (Prod.mk.inj he).2
    cases hf
  rcases List.mem_cons.1 h with he | h
  · obtain rfl := (Prod.mk.inj he).2
    cases hf
  rcases List.mem_cons.1 h with he | h
  · obtain rfl := (Prod.mk.inj he).2
    cases hf
  rcases List.mem_cons.1 h with he | h
  · obtain rfl := (Prod.mk.inj he).2
    cases hf
  rcases List.mem_cons.1 h with he | h
  · obtain rfl := (Prod.mk.inj he).2
    cases hf
  rcases List.mem_cons.1 h with he | h
  · obtain rfl := (Prod.mk.inj he).2
    cases hf
  rcases List.mem_cons.1 h with he | h
  · obtain rfl := (Prod.mk.inj he).2
    cases hf
  rcases List.mem_cons.1 h with he | h
  · obtain rfl := (Prod.mk.inj he).2
    cases hf
  rcases List.mem_cons.1 h with he | h
  · obtain rfl := (Prod.mk.inj he).2
    cases hf
  rcases List.mem_cons.1 h with he | h
  · obtain rfl := (Prod.mk.inj he).2
    cases hf
  rcases List.mem_cons.1 h with he | h
  · obtain rfl := (Prod.mk.inj he).2
    cases hf
  rcases List.mem_cons.1 h with he | h
  · obtain rfl := (Prod.mk.inj he).2
    cases hf
  rcases List.mem_cons.1 h with he | h
  · obtain rfl := (Prod.mk.inj he).2
    cases hf
  rcases List.mem_cons.1 h with he | h
  · obtain rfl := (Prod.mk.inj he).2
    cases hf
  rcases List.mem_cons.1 h with he | h
  · obtain rfl := (Prod.mk.inj he).2
    cases hf
  rcases List.mem_cons.1 h with he | h
  · obtain rfl := (Prod.mk.inj he).2
    cases hf
  rcases List.mem_cons.1 h with he | h
  · obtain rfl := (Prod.mk.inj he).2
    cases hf
  rcases List.mem_cons.1 h with he | h
  · obtain rfl := (Prod.mk.inj he).2
    cases hf
  rcases List.mem_cons.1 h with he | h
  · obtain rfl := (Prod.mk.inj he).2
    cases hf
  rcases List.mem_cons.1 h with he | h
  · obtain rfl := (Prod.mk.inj he).2
    cases hf
  rcases List.mem_cons.1 h with he | h
  · obtain rfl := (Prod.mk.inj he).2
    cases hf
  rcases List.mem_cons.1 h with he | h
  · obtain rfl := (Prod.mk.inj he).2
    cases hf
  rcases List.mem_cons.1 h with he | h
  · obtain rfl := (Prod.mk.inj he).2
    cases hf
  rcases List.mem_cons.1 h with he | h
  · obtain rfl := (Prod.mk.inj he).2
    cases hf
  rcases List.mem_cons.1 h with he | h
  · obtain rfl := (Prod.mk.inj he).2
    cases hf
  rcases List.mem_cons.1 h with he | h
  · obtain rfl := (Prod.mk.inj he).2
    cases hf
  rcases List.mem_cons.1 h with he | h
  · obtain rfl := (Prod.mk.inj he).2
    cases hf
  rcases List.mem_cons.1 h with he | h
  · obtain rfl := (Prod.mk.inj he).2
    cases hf
  rcases List.mem_cons.1 h with he | h
  · obtain rfl := (Prod.mk.inj he).2
    cases hf
  rcases List.mem_cons.1 h with he | h
  · obtain rfl := (Prod.mk.inj he).2
    cases hf
  rcases List.mem_cons.1 h with he | h
  · obtain rfl := (Prod.mk.inj he).2
    cases hf
  rcases List.mem_cons.1 h with he | h
  · obtain rfl := (Prod.mk.inj he).2
    cases hf
  rcases List.mem_cons.1 h with he | h
  · obtain rfl := (Prod.mk.inj he).2
    cases hf
  rcases List.mem_cons.1 h with he | h
  · obtain rfl := (Prod.mk.inj he).2
    cases hf
  rcases List.mem_cons.1 h with he | h
  · obtain rfl := (Prod.mk.inj he).2
    cases hf
  rcases List.mem_cons.1 h with he | h
  · obtain rfl := (Prod.mk.inj he).2
    cases hf
  rcases List.mem_cons.1 h with he | h
  · obtain rfl := (Prod.mk.inj he).2
    cases hf
  rcases List.mem_cons.1 h with he | h
  · obtain rfl := (Prod.mk.inj he).2
    cases hf
  rcases List.mem_cons.1 h with he | h
  · obtain rfl := (Prod.mk.inj he).2
    cases hf
  rcases List.mem_cons.1 h with he | h
  · obtain rfl := (Prod.mk.inj he).2
    cases hf
  rcases List.mem_cons.1 h with he | h
  · obtain rfl := (Prod.mk.inj he).2
    cases hf
  rcases List.mem_cons.1 h with he | h
  · obtain rfl := (Prod.mk.inj he).2
    cases hf
  rcases List.mem_cons.1 h with he | h
  · obtain rfl := (Prod.mk.inj he).2
    cases hf
  rcases List.mem_cons.1 h with he | h
  · obtain rfl := (Prod.mk.inj he).2
    cases hf
  rcases List.mem_cons.1 h with he | h
  · obtain rfl := (Prod.mk.inj he).2
    cases hf
  rcases List.mem_cons.1 h with he | h
  · obtain rfl := (Prod.mk.inj he).2
    cases hf
  rcases List.mem_cons.1 h with he | h
  · obtain rfl := (Prod.mk.inj he).2
    cases hf
  rcases List.mem_cons.1 h with he | h
  · obtain rfl := (Prod.mk.inj he).2
    cases hf
  rcases List.mem_cons.1 h with he | h
  · obtain rfl := (Prod.mk.inj he).2
    cases hf
  rcases List.mem_cons.1 h with he | h
  · obtain rfl := (Prod.mk.inj he).2
    cases hf
  rcases List.mem_cons.1 h with he | h
  · obtain rfl := (Prod.mk.inj he).2
    cases hf
  rcases List.mem_cons.1 h with he | h
  · obtain rfl := (Prod.mk.inj he).2
    cases hf
  rcases List.mem_cons.1 h with he | h
  · obtain rfl := (Prod.mk.inj he).2
    cases hf
  rcases List.mem_cons.1 h with he | h
  · obtain rfl := (Prod.mk.inj he).2
    cases hf
  rcases List.mem_cons.1 h with he | h
  · obtain rfl := (Prod.mk.inj he).2
    cases hf
  rcases List.mem_cons.1 h with he | h
  · obtain rfl := (Prod.mk.inj he).2
    cases hf
  rcases List.mem_cons.1 h with he | h
  · obtain rfl := (Prod.mk.inj he).2
    cases hf
  rcases List.mem_cons.1 h with he | h
  · obtain rfl := (Prod.mk.inj he).2
    cases hf
  rcases List.mem_cons.1 h with he | h
  · obtain rfl := (Prod.mk.inj he).2
    cases hf
  rcases List.mem_cons.1 h with he | h
  · obtain rfl := (Prod.mk.inj he).2
    cases hf
  rcases List.mem_cons.1 h with he | h
  · obtain rfl := (Prod.mk.inj he).2
    cases hf
  rcases List.mem_cons.1 h with he | h
  · obtain rfl := (Prod.mk.inj he).2
    cases hf
  rcases List.mem_cons.1 h with he | h
  · obtain rfl := (Prod.mk.inj he).2
    cases hf
  rcases List.mem_cons.1 h with he | h
  · obtain rfl := (Prod.mk.inj he).2
    cases hf
  rcases List.mem_cons.1 h with he | h
  · obtain rfl := (Prod.mk.inj he).2
    cases hf
  rcases List.mem_cons.1 h with he | h
  · obtain rfl := (Prod.mk.inj he).2
    cases hf
  rcases List.mem_cons.1 h with he | h
  · obtain rfl := (Prod.mk.inj he).2
    cases hf
  rcases List.mem_cons.1 h with he | h
  · obtain rfl := (Prod.mk.inj he).2
    cases hf
  rcases List.mem_cons.1 h with he | h
  · obtain rfl := (Prod.mk.inj he).2
    cases hf
  rcases List.mem_cons.1 h with he | h
  · obtain rfl := (Prod.mk.inj he).2
    cases hf
  rcases List.mem_cons.1 h with he | h
  · obtain rfl := (Prod.mk.inj he).2
    cases hf
  rcases List.mem_cons.1 h with he | h
  · obtain rfl := (Prod.mk.inj he).2
    cases hf
  rcases List.mem_cons.1 h with he | h
  · obtain rfl := (Prod.mk.inj he).2
    cases hf
  rcases List.mem_cons.1 h with he | h
  · obtain rfl := (Prod.mk.inj he).2
    cases hf
  rcases List.mem_cons.1 h with he | h
  · obtain rfl := (Prod.mk.inj he).2
    cases hf
  rcases List.mem_cons.1 h with he | h
  · obtain rfl := (Prod.mk.inj he).2
    cases hf
  rcases List.mem_cons.1 h with he | h
  · obtain rfl := (Prod.mk.inj he).2
    cases hf
  rcases List.mem_cons.1 h with he | h
  · obtain rfl := (Prod.mk.inj he).2
    cases hf
  rcases List.mem_cons.1 h with he | h
  · obtain rfl := (Prod.mk.inj he).2
    cases hf
  rcases List.mem_cons.1 h with he | h
  · obtain rfl := (Prod.mk.inj he).2
    cases hf
  rcases List.mem_cons.1 h with he | h
  · obtain rfl := (Prod.mk.inj he).2
    cases hf
  rcases List.mem_cons.1 h with he | h
  · obtain rfl := (Prod.mk.inj he).2
    cases hf
  rcases List.mem_cons.1 h with he | h
  · obtain rfl := (Prod.mk.inj he).2
    cases hf
  rcases List.mem_cons.1 h with he | h
  · obtain rfl := (Prod.mk.inj he).2
    cases hf
  rcases List.mem_cons.1 h with he | h
  · obtain rfl := (Prod.mk.inj he).2
    cases hf
  rcases List.mem_cons.1 h with he | h
  · obtain rfl := (Prod.mk.inj he).2
    cases hf
  rcases List.mem_cons.1 h with he | h
  · obtain rfl := (Prod.mk.inj he).2
    cases hf
  rcases List.mem_cons.1 h with he | h
  · obtain rfl := (Prod.mk.inj he).2
    cases hf
  rcases List.mem_cons.1 h with he | h
  · obtain rfl := (Prod.mk.inj he).2
    cases hf
  rcases List.mem_cons.1 h with he | h
  · obtain rfl := (Prod.mk.inj he).2
    cases hf
  rcases List.mem_cons.1 h with he | h
  · obtain rfl := (Prod.mk.inj he).2
    cases hf
  rcases List.mem_cons.1 h with he | h
  · obtain rfl := (Prod.mk.inj he).2
    cases hf
  rcases List.mem_cons.1 h with he | h
  · obtain rfl := (Prod.mk.inj he).2
    cases hf
  rcases List.mem_cons.1 h with he | h
  · obtain rfl := (Prod.mk.inj he).2
    cases hf
  rcases List.mem_cons.1 h with he | h
  · obtain rfl := (Prod.mk.inj he).2
    cases hf
  rcases List.mem_cons.1 h with he | h
  · obtain rfl := (Prod.mk.inj he).2
    cases hf
  rcases List.mem_cons.1 h with he | h
  · obtain rfl := (Prod.mk.inj he).2
    cases hf
  rcases List.mem_cons.1 h with he | h
  · obtain rfl := (Prod.mk.inj he).2
    cases hf
  rcases List.mem_cons.1 h with he | h
  · obtain rfl := (Prod.mk.inj he).2
    cases hf
  rcases List.mem_cons.1 h with he | h
  · obtain rfl := (Prod.mk.inj he).2
    cases hf
  rcases List.mem_cons.1 h with he | h
  · obtain rfl := (Prod.mk.inj he).2
    cases hf
  rcases List.mem_cons.1 h with he | h
  · obtain rfl := (Prod.mk.inj he).2
    cases hf
  rcases List.mem_cons.1 h with he | h
  · obtain rfl := (Prod.mk.inj he).2
    cases hf
  rcases List.mem_cons.1 h with he | h
  · obtain rfl := (Prod.mk.inj he).2
    cases hf
  rcases List.mem_cons.1 h with he | h
  · obtain rfl := (Prod.mk.inj he).2
    cases hf
  rcases List.mem_cons.1 h with he | h
  · obtain rfl := (Prod.mk.inj he).2
    cases hf
  rcases List.mem_cons.1 h with he | h
  · obtain rfl := (Prod.mk.inj he).2
    cases hf
  rcases List.mem_cons.1 h with he | h
  · obtain rfl := (Prod.mk.inj he).2
    cases hf
  rcases List.mem_cons.1 h with he | h
  · obtain rfl := (Prod.mk.inj he).2
    cases hf
  rcases List.mem_cons.1 h with he | h
  · obtain rfl := (Prod.mk.inj he).2
    cases hf
  rcases List.mem_cons.1 h with he | h
  · obtain rfl := (Prod.mk.inj he).2
    cases hf
  rcases List.mem_cons.1 h with he | h
  · obtain rfl := (Prod.mk.inj he).2
    cases hf
  rcases List.mem_cons.1 h with he | h
  · obtain rfl := (Prod.mk.inj he).2
    cases hf
  rcases List.mem_cons.1 h with he | h
  · obtain rfl := (Prod.mk.inj he).2
    cases hf
  rcases List.mem_cons.1 h with he | h
  · obtain rfl := (Prod.mk.inj he).2
    cases hf
  rcases List.mem_cons.1 h with he | h
  · obtain rfl := (Prod.mk.inj he).2
    cases hf
  rcases List.mem_cons.1 h with he | h
  · obtain rfl := (Prod.mk.inj he).2
    cases hf
  rcases List.mem_cons.1 h with he | h
  · obtain rfl := (Prod.mk.inj he).2
    cases hf
  rcases List.mem_cons.1 h with he | h
  · obtain rfl := (Prod.mk.inj he).2
    cases hf
  rcases List.mem_cons.1 h with he | h
  · obtain rfl := (Prod.mk.inj he).2
    cases hf
  rcases List.mem_cons.1 h with he | h
  · obtain rfl := (Prod.mk.inj he).2
    cases hf
  rcases List.mem_cons.1 h with he | h
  · obtain rfl := (Prod.mk.inj he).2
    cases hf
  rcases List.mem_cons.1 h with he | h
  · obtain rfl := (Prod.mk.inj he).2
    cases hf
  rcases List.mem_cons.1 h with he | h
  · obtain rfl := (Prod.mk.inj he).2
    cases hf
  rcases List.mem_cons.1 h with he | h
  · obtain rfl := (Prod.mk.inj he).2
    cases hf
  rcases List.mem_cons.1 h with he | h
  · obtain rfl := (Prod.mk.inj he).2
    cases hf
  rcases List.mem_cons.1 h with he | h
  · obtain rfl := (Prod.mk.inj he).2
    cases hf
  rcases List.mem_cons.1 h with he | h
  · obtain rfl := (Prod.mk.inj he).2
    cases hf
  rcases List.mem_cons.1 h with he | h
  · obtain rfl := (Prod.mk.inj he).2
    cases hf
  rcases List.mem_cons.1 h with he | h
  · obtain rfl := (Prod.mk.inj he).2
    cases hf
  rcases List.mem_cons.1 h with he | h
  · obtain rfl := (Prod.mk.inj he).2
    cases hf
  rcases List.mem_cons.1 h with he | h
  · obtain rfl := (Prod.mk.inj he).2
    cases hf
  rcases List.mem_cons.1 h with he | h
  · obtain rfl := (Prod.mk.inj he).2
    cases hf
  rcases List.mem_cons.1 h with he | h
  · obtain rfl := (Prod.mk.inj he).2
    cases hf
  rcases List.mem_cons.1 h with he | h
  · obtain rfl := (Prod.mk.inj he).2
    cases hf
  rcases List.mem_cons.1 h with he | h
  · obtain rfl := (Prod.mk.inj he).2
    have hf := Option.some.inj hf
    subst hf
    exact (fmt_sound (by unfold vars; simp)) args tab z hz
  cases h
end Go.Proofs.YtiligfmembmapaaGreatDoor.Abs
