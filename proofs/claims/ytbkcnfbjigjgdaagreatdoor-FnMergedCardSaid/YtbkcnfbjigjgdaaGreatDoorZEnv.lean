/- What is known of the program: its types, its functions, those that are shown otherwise. -/
import Derived.Test.YtbkcnfbjigjgdaaGreatDoorZA3
import Derived.Test.YtbkcnfbjigjgdaaGreatDoorZQD
import Derived.Test.YtbkcnfbjigjgdaaGreatDoorChecked
import Derived.Test.YtbkcnfbjigjgdaaGreatDoorZL1
set_option linter.unusedVariables false
namespace Go.Proofs.YtbkcnfbjigjgdaaGreatDoor.Abs
open Go
def vars : List VarRow := [errRow "strconv.ErrSyntax", errRow "strconv.ErrRange", powRow, intRow "internal/bytealg.MaxLen"]
set_option maxRecDepth 100000 in
theorem fns_ok : ∀ p ∈ E.fns, Tryz.prog.funcs[p.2.g]? = some p.2.fn ∧ p.2.fn.body.isSome = true ∧ (p.2.fn.name == "runtime.NumGoroutine") = false := by
  unfold E
  intro p h
  rcases List.mem_cons.1 h with rfl | h
  · exact ⟨Tryz.func7, by kernel_rfl, by kernel_rfl⟩
  rcases List.mem_cons.1 h with rfl | h
  · exact ⟨Tryz.func19, by kernel_rfl, by kernel_rfl⟩
  rcases List.mem_cons.1 h with rfl | h
  · exact ⟨Tryz.func21, by kernel_rfl, by kernel_rfl⟩
  rcases List.mem_cons.1 h with rfl | h
  · exact ⟨Tryz.func22, by kernel_rfl, by kernel_rfl⟩
  rcases List.mem_cons.1 h with rfl | h
  · exact ⟨Tryz.func23, by kernel_rfl, by kernel_rfl⟩
  rcases List.mem_cons.1 h with rfl | h
  · exact ⟨Tryz.func27, by kernel_rfl, by kernel_rfl⟩
  rcases List.mem_cons.1 h with rfl | h
  · exact ⟨Tryz.func28, by kernel_rfl, by kernel_rfl⟩
  rcases List.mem_cons.1 h with rfl | h
  · exact ⟨Tryz.func30, by kernel_rfl, by kernel_rfl⟩
  rcases List.mem_cons.1 h with rfl | h
  · exact ⟨Tryz.func31, by kernel_rfl, by kernel_rfl⟩
  rcases List.mem_cons.1 h with rfl | h
  · exact ⟨Tryz.func35, by kernel_rfl, by kernel_rfl⟩
  rcases List.mem_cons.1 h with rfl | h
  · exact ⟨Tryz.func36, by kernel_rfl, by kernel_rfl⟩
  rcases List.mem_cons.1 h with rfl | h
  · exact ⟨Tryz.func37, by kernel_rfl, by kernel_rfl⟩
  rcases List.mem_cons.1 h with rfl | h
  · exact ⟨Tryz.func40, by kernel_rfl, by kernel_rfl⟩
  rcases List.mem_cons.1 h with rfl | h
  · exact ⟨Tryz.func41, by kernel_rfl, by kernel_rfl⟩
  rcases List.mem_cons.1 h with rfl | h
  · exact ⟨Tryz.func42, by kernel_rfl, by kernel_rfl⟩
  rcases List.mem_cons.1 h with rfl | h
  · exact ⟨Tryz.func43, by kernel_rfl, by kernel_rfl⟩
  rcases List.mem_cons.1 h with rfl | h
  · exact ⟨Tryz.func47, by kernel_rfl, by kernel_rfl⟩
  rcases List.mem_cons.1 h with rfl | h
  · exact ⟨Tryz.func48, by kernel_rfl, by kernel_rfl⟩
  rcases List.mem_cons.1 h with rfl | h
  · exact ⟨Tryz.func49, by kernel_rfl, by kernel_rfl⟩
  rcases List.mem_cons.1 h with rfl | h
  · exact ⟨Tryz.func54, by kernel_rfl, by kernel_rfl⟩
  rcases List.mem_cons.1 h with rfl | h
  · exact ⟨Tryz.func55, by kernel_rfl, by kernel_rfl⟩
  rcases List.mem_cons.1 h with rfl | h
  · exact ⟨Tryz.func56, by kernel_rfl, by kernel_rfl⟩
  rcases List.mem_cons.1 h with rfl | h
  · exact ⟨Tryz.func57, by kernel_rfl, by kernel_rfl⟩
  rcases List.mem_cons.1 h with rfl | h
  · exact ⟨Tryz.func58, by kernel_rfl, by kernel_rfl⟩
  rcases List.mem_cons.1 h with rfl | h
  · exact ⟨Tryz.func59, by kernel_rfl, by kernel_rfl⟩
  rcases List.mem_cons.1 h with rfl | h
  · exact ⟨Tryz.func60, by kernel_rfl, by kernel_rfl⟩
  rcases List.mem_cons.1 h with rfl | h
  · exact ⟨Tryz.func62, by kernel_rfl, by kernel_rfl⟩
  rcases List.mem_cons.1 h with rfl | h
  · exact ⟨Tryz.func63, by kernel_rfl, by kernel_rfl⟩
  rcases List.mem_cons.1 h with rfl | h
  · exact ⟨Tryz.func65, by kernel_rfl, by kernel_rfl⟩
  rcases List.mem_cons.1 h with rfl | h
  · exact ⟨Tryz.func66, by kernel_rfl, by kernel_rfl⟩
  rcases List.mem_cons.1 h with rfl | h
  · exact ⟨Tryz.func67, by kernel_rfl, by kernel_rfl⟩
  rcases List.mem_cons.1 h with rfl | h
  · exact ⟨Tryz.func68, by kernel_rfl, by kernel_rfl⟩
  rcases List.mem_cons.1 h with rfl | h
  · exact ⟨Tryz.func69, by kernel_rfl, by kernel_rfl⟩
  rcases List.mem_cons.1 h with rfl | h
  · exact ⟨Tryz.func70, by kernel_rfl, by kernel_rfl⟩
  rcases List.mem_cons.1 h with rfl | h
  · exact ⟨Tryz.func71, by kernel_rfl, by kernel_rfl⟩
  rcases List.mem_cons.1 h with rfl | h
  · exact ⟨Tryz.func73, by kernel_rfl, by kernel_rfl⟩
  rcases List.mem_cons.1 h with rfl | h
  · exact ⟨Tryz.func74, by kernel_rfl, by kernel_rfl⟩
  rcases List.mem_cons.1 h with rfl | h
  · exact ⟨Tryz.func79, by kernel_rfl, by kernel_rfl⟩
  rcases List.mem_cons.1 h with rfl | h
  · exact ⟨Tryz.func80, by kernel_rfl, by kernel_rfl⟩
  rcases List.mem_cons.1 h with rfl | h
  · exact ⟨Tryz.func81, by kernel_rfl, by kernel_rfl⟩
  rcases List.mem_cons.1 h with rfl | h
  · exact ⟨Tryz.func82, by kernel_rfl, by kernel_rfl⟩
  rcases List.mem_cons.1 h with rfl | h
  · exact ⟨Tryz.func83, by kernel_rfl, by kernel_rfl⟩
  rcases List.mem_cons.1 h with rfl | h
  · exact ⟨Tryz.func84, by kernel_rfl, by kernel_rfl⟩
  rcases List.mem_cons.1 h with rfl | h
  · exact ⟨Tryz.func85, by kernel_rfl, by kernel_rfl⟩
  rcases List.mem_cons.1 h with rfl | h
  · exact ⟨Tryz.func86, by kernel_rfl, by kernel_rfl⟩
  rcases List.mem_cons.1 h with rfl | h
  · exact ⟨Tryz.func87, by kernel_rfl, by kernel_rfl⟩
  rcases List.mem_cons.1 h with rfl | h
  · exact ⟨Tryz.func88, by kernel_rfl, by kernel_rfl⟩
  rcases List.mem_cons.1 h with rfl | h
  · exact ⟨Tryz.func89, by kernel_rfl, by kernel_rfl⟩
  rcases List.mem_cons.1 h with rfl | h
  · exact ⟨Tryz.func90, by kernel_rfl, by kernel_rfl⟩
  rcases List.mem_cons.1 h with rfl | h
  · exact ⟨Tryz.func91, by kernel_rfl, by kernel_rfl⟩
  rcases List.mem_cons.1 h with rfl | h
  · exact ⟨Tryz.func92, by kernel_rfl, by kernel_rfl⟩
  rcases List.mem_cons.1 h with rfl | h
  · exact ⟨Tryz.func93, by kernel_rfl, by kernel_rfl⟩
  rcases List.mem_cons.1 h with rfl | h
  · exact ⟨Tryz.func94, by kernel_rfl, by kernel_rfl⟩
  rcases List.mem_cons.1 h with rfl | h
  · exact ⟨Tryz.func95, by kernel_rfl, by kernel_rfl⟩
  rcases List.mem_cons.1 h with rfl | h
  · exact ⟨Tryz.func96, by kernel_rfl, by kernel_rfl⟩
  rcases List.mem_cons.1 h with rfl | h
  · exact ⟨Tryz.func97, by kernel_rfl, by kernel_rfl⟩
  rcases List.mem_cons.1 h with rfl | h
  · exact ⟨Tryz.func98, by kernel_rfl, by kernel_rfl⟩
  rcases List.mem_cons.1 h with rfl | h
  · exact ⟨Tryz.func99, by kernel_rfl, by kernel_rfl⟩
  rcases List.mem_cons.1 h with rfl | h
  · exact ⟨Tryz.func100, by kernel_rfl, by kernel_rfl⟩
  rcases List.mem_cons.1 h with rfl | h
  · exact ⟨Tryz.func101, by kernel_rfl, by kernel_rfl⟩
  rcases List.mem_cons.1 h with rfl | h
  · exact ⟨Tryz.func102, by kernel_rfl, by kernel_rfl⟩
  rcases List.mem_cons.1 h with rfl | h
  · exact ⟨Tryz.func103, by kernel_rfl, by kernel_rfl⟩
  rcases List.mem_cons.1 h with rfl | h
  · exact ⟨Tryz.func104, by kernel_rfl, by kernel_rfl⟩
  rcases List.mem_cons.1 h with rfl | h
  · exact ⟨Tryz.func108, by kernel_rfl, by kernel_rfl⟩
  rcases List.mem_cons.1 h with rfl | h
  · exact ⟨Tryz.func109, by kernel_rfl, by kernel_rfl⟩
  rcases List.mem_cons.1 h with rfl | h
  · exact ⟨Tryz.func110, by kernel_rfl, by kernel_rfl⟩
  rcases List.mem_cons.1 h with rfl | h
  · exact ⟨Tryz.func111, by kernel_rfl, by kernel_rfl⟩
  rcases List.mem_cons.1 h with rfl | h
  · exact ⟨Tryz.func112, by kernel_rfl, by kernel_rfl⟩
  rcases List.mem_cons.1 h with rfl | h
  · exact ⟨Tryz.func113, by kernel_rfl, by kernel_rfl⟩
  rcases List.mem_cons.1 h with rfl | h
  · exact ⟨Tryz.func114, by kernel_rfl, by kernel_rfl⟩
  rcases List.mem_cons.1 h with rfl | h
  · exact ⟨Tryz.func115, by kernel_rfl, by kernel_rfl⟩
  rcases List.mem_cons.1 h with rfl | h
  · exact ⟨Tryz.func116, by kernel_rfl, by kernel_rfl⟩
  rcases List.mem_cons.1 h with rfl | h
  · exact ⟨Tryz.func117, by kernel_rfl, by kernel_rfl⟩
  rcases List.mem_cons.1 h with rfl | h
  · exact ⟨Tryz.func118, by kernel_rfl, by kernel_rfl⟩
  rcases List.mem_cons.1 h with rfl | h
  · exact ⟨Tryz.func119, by kernel_rfl, by kernel_rfl⟩
  rcases List.mem_cons.1 h with rfl | h
  · exact ⟨Tryz.func120, by kernel_rfl, by kernel_rfl⟩
  rcases List.mem_cons.1 h with rfl | h
  · exact ⟨Tryz.func121, by kernel_rfl, by kernel_rfl⟩
  rcases List.mem_cons.1 h with rfl | h
  · exact ⟨Tryz.func122, by kernel_rfl, by kernel_rfl⟩
  rcases List.mem_cons.1 h with rfl | h
  · exact ⟨Tryz.func123, by kernel_rfl, by kernel_rfl⟩
  rcases List.mem_cons.1 h with rfl | h
  · exact ⟨Tryz.func124, by kernel_rfl, by kernel_rfl⟩
  rcases List.mem_cons.1 h with rfl | h
  · exact ⟨Tryz.func125, by kernel_rfl, by kernel_rfl⟩
  rcases List.mem_cons.1 h with rfl | h
  · exact ⟨Tryz.func126, by kernel_rfl, by kernel_rfl⟩
  rcases List.mem_cons.1 h with rfl | h
  · exact ⟨Tryz.func127, by kernel_rfl, by kernel_rfl⟩
  rcases List.mem_cons.1 h with rfl | h
  · exact ⟨Tryz.func130, by kernel_rfl, by kernel_rfl⟩
  rcases List.mem_cons.1 h with rfl | h
  · exact ⟨Tryz.func131, by kernel_rfl, by kernel_rfl⟩
  rcases List.mem_cons.1 h with rfl | h
  · exact ⟨Tryz.func132, by kernel_rfl, by kernel_rfl⟩
  rcases List.mem_cons.1 h with rfl | h
  · exact ⟨Tryz.func133, by kernel_rfl, by kernel_rfl⟩
  rcases List.mem_cons.1 h with rfl | h
  · exact ⟨Tryz.func134, by kernel_rfl, by kernel_rfl⟩
  rcases List.mem_cons.1 h with rfl | h
  · exact ⟨Tryz.func135, by kernel_rfl, by kernel_rfl⟩
  rcases List.mem_cons.1 h with rfl | h
  · exact ⟨Tryz.func136, by kernel_rfl, by kernel_rfl⟩
  rcases List.mem_cons.1 h with rfl | h
  · exact ⟨Tryz.func137, by kernel_rfl, by kernel_rfl⟩
  rcases List.mem_cons.1 h with rfl | h
  · exact ⟨Tryz.func148, by kernel_rfl, by kernel_rfl⟩
  rcases List.mem_cons.1 h with rfl | h
  · exact ⟨Tryz.func149, by kernel_rfl, by kernel_rfl⟩
  rcases List.mem_cons.1 h with rfl | h
  · exact ⟨Tryz.func151, by kernel_rfl, by kernel_rfl⟩
  rcases List.mem_cons.1 h with rfl | h
  · exact ⟨Tryz.func152, by kernel_rfl, by kernel_rfl⟩
  rcases List.mem_cons.1 h with rfl | h
  · exact ⟨Tryz.func153, by kernel_rfl, by kernel_rfl⟩
  rcases List.mem_cons.1 h with rfl | h
  · exact ⟨Tryz.func154, by kernel_rfl, by kernel_rfl⟩
  rcases List.mem_cons.1 h with rfl | h
  · exact ⟨Tryz.func155, by kernel_rfl, by kernel_rfl⟩
  rcases List.mem_cons.1 h with rfl | h
  · exact ⟨Tryz.func156, by kernel_rfl, by kernel_rfl⟩
  rcases List.mem_cons.1 h with rfl | h
  · exact ⟨Tryz.func157, by kernel_rfl, by kernel_rfl⟩
  rcases List.mem_cons.1 h with rfl | h
  · exact ⟨Tryz.func158, by kernel_rfl, by kernel_rfl⟩
  rcases List.mem_cons.1 h with rfl | h
  · exact ⟨Tryz.func159, by kernel_rfl, by kernel_rfl⟩
  rcases List.mem_cons.1 h with rfl | h
  · exact ⟨Tryz.func160, by kernel_rfl, by kernel_rfl⟩
  rcases List.mem_cons.1 h with rfl | h
  · exact ⟨Tryz.func161, by kernel_rfl, by kernel_rfl⟩
  rcases List.mem_cons.1 h with rfl | h
  · exact ⟨Tryz.func162, by kernel_rfl, by kernel_rfl⟩
  rcases List.mem_cons.1 h with rfl | h
  · exact ⟨Tryz.func163, by kernel_rfl, by kernel_rfl⟩
  rcases List.mem_cons.1 h with rfl | h
  · exact ⟨Tryz.func164, by kernel_rfl, by kernel_rfl⟩
  rcases List.mem_cons.1 h with rfl | h
  · exact ⟨Tryz.func165, by kernel_rfl, by kernel_rfl⟩
  rcases List.mem_cons.1 h with rfl | h
  · exact ⟨Tryz.func166, by kernel_rfl, by kernel_rfl⟩
  rcases List.mem_cons.1 h with rfl | h
  · exact ⟨Tryz.func167, by kernel_rfl, by kernel_rfl⟩
  rcases List.mem_cons.1 h with rfl | h
  · exact ⟨Tryz.func168, by kernel_rfl, by kernel_rfl⟩
  rcases List.mem_cons.1 h with rfl | h
  · exact ⟨Tryz.func174, by kernel_rfl, by kernel_rfl⟩
  rcases List.mem_cons.1 h with rfl | h
  · exact ⟨Tryz.func188, by kernel_rfl, by kernel_rfl⟩
  rcases List.mem_cons.1 h with rfl | h
  · exact ⟨Tryz.func197, by kernel_rfl, by kernel_rfl⟩
  rcases List.mem_cons.1 h with rfl | h
  · exact ⟨Tryz.func198, by kernel_rfl, by kernel_rfl⟩
  rcases List.mem_cons.1 h with rfl | h
  · exact ⟨Tryz.func199, by kernel_rfl, by kernel_rfl⟩
  rcases List.mem_cons.1 h with rfl | h
  · exact ⟨Tryz.func200, by kernel_rfl, by kernel_rfl⟩
  rcases List.mem_cons.1 h with rfl | h
  · exact ⟨Tryz.func201, by kernel_rfl, by kernel_rfl⟩
  rcases List.mem_cons.1 h with rfl | h
  · exact ⟨Tryz.func202, by kernel_rfl, by kernel_rfl⟩
  rcases List.mem_cons.1 h with rfl | h
  · exact ⟨Tryz.func203, by kernel_rfl, by kernel_rfl⟩
  rcases List.mem_cons.1 h with rfl | h
  · exact ⟨Tryz.func204, by kernel_rfl, by kernel_rfl⟩
  rcases List.mem_cons.1 h with rfl | h
  · exact ⟨Tryz.func219, by kernel_rfl, by kernel_rfl⟩
  rcases List.mem_cons.1 h with rfl | h
  · exact ⟨Tryz.func223, by kernel_rfl, by kernel_rfl⟩
  rcases List.mem_cons.1 h with rfl | h
  · exact ⟨Tryz.func224, by kernel_rfl, by kernel_rfl⟩
  rcases List.mem_cons.1 h with rfl | h
  · exact ⟨Tryz.func225, by kernel_rfl, by kernel_rfl⟩
  rcases List.mem_cons.1 h with rfl | h
  · exact ⟨Tryz.func226, by kernel_rfl, by kernel_rfl⟩
  rcases List.mem_cons.1 h with rfl | h
  · exact ⟨Tryz.func227, by kernel_rfl, by kernel_rfl⟩
  rcases List.mem_cons.1 h with rfl | h
  · exact ⟨Tryz.func228, by kernel_rfl, by kernel_rfl⟩
  rcases List.mem_cons.1 h with rfl | h
  · exact ⟨Tryz.func229, by kernel_rfl, by kernel_rfl⟩
  rcases List.mem_cons.1 h with rfl | h
  · exact ⟨Tryz.func231, by kernel_rfl, by kernel_rfl⟩
  rcases List.mem_cons.1 h with rfl | h
  · exact ⟨Tryz.func244, by kernel_rfl, by kernel_rfl⟩
  rcases List.mem_cons.1 h with rfl | h
  · exact ⟨Tryz.func245, by kernel_rfl, by kernel_rfl⟩
  rcases List.mem_cons.1 h with rfl | h
  · exact ⟨Tryz.func246, by kernel_rfl, by kernel_rfl⟩
  rcases List.mem_cons.1 h with rfl | h
  · exact ⟨Tryz.func247, by kernel_rfl, by kernel_rfl⟩
  rcases List.mem_cons.1 h with rfl | h
  · exact ⟨Tryz.func248, by kernel_rfl, by kernel_rfl⟩
  cases h
theorem env_ok : EnvOk Tryz.prog E := envOk_of (by kernel_rfl) fns_ok
theorem prims_ok : PrimsOk (VarsGp Tryz.prog vars) Tryz.prog E := by
  intro I f key hg hf args tab z hz
  have h := nth_mem hg
  unfold E at h
  rcases List.mem_cons.1 h with he | h
  · obtain rfl := (Prod.mk.inj he).2
    cases hf
  rcases List.mem_cons.1 h with he | h
  · obtain rfl := (Prod.mk.inj he).2
    cases hf
  rcases List.mem_cons.1 h with he | h
  · obtain rfl := (Prod.mk.inj he).2
    cases hf
  rcases List.mem_cons.1 h with he | h
  · obtain rfl := (Prod.mk.inj he).2
    cases hf
  rcases List.mem_cons.1 h with he | h
  · obtain rfl := (Prod.mk.inj he).2
    cases hf
  rcases List.mem_cons.1 h with he | h
  · obtain rfl := (Prod.mk.inj he).2
    cases hf
  rcases List.mem_cons.1 h with he | h
  · obtain rfl := (Prod.mk.inj he).2
    cases hf
  rcases List.mem_cons.1 h with he | h
  · obtain rfl := (Prod.mk.inj he).2
    cases hf
  rcases List.mem_cons.1 h with he | h
  · obtain rfl := (Prod.mk.inj he).2
    cases hf
  rcases List.mem_cons.1 h with he | h
  · obtain rfl := (Prod.mk.inj he).2
    cases hf
  rcases List.mem_cons.1 h with he | h
  · obtain rfl := (Prod.mk.inj he).2
    cases hf
  rcases List.mem_cons.1 h with he | h
  · obtain rfl := (Prod.mk.inj he).2
    cases hf
  rcases List.mem_cons.1 h with he | h
  · obtain rfl := (Prod.mk.inj he).2
    cases hf
  rcases List.mem_cons.1 h with he | h
  · obtain rfl := (Prod.mk.inj he).2
    cases hf
  rcases List.mem_cons.1 h with he | h
  · obtain rfl := (Prod.mk.inj he).2
    cases hf
  rcases List.mem_cons.1 h with he | h
  · obtain rfl := (Prod.mk.inj he).2
    cases hf
  rcases List.mem_cons.1 h with he | h
  · obtain rfl := (Prod.mk.inj he).2
    cases hf
  rcases List.mem_cons.1 h with he | h
  · obtain rfl := (Prod.mk.inj he).2
    cases hf
  rcases List.mem_cons.1 h with he | h
  · obtain rfl := (Prod.mk.inj he).2
    cases hf
  rcases List.mem_cons.1 h with he | h
  · obtain rfl := (Prod.mk.inj he).2
    cases hf
  rcases List.mem_cons.1 h with he | h
  · obtain rfl := (Prod.mk.inj he).2
    cases hf
  rcases List.mem_cons.1 h with he | h
  · obtain rfl := (Prod.mk.inj he).2
    cases hf
  rcases List.mem_cons.1 h with he | h
  · obtain rfl := (Prod.mk.inj he).2
    cases hf
  rcases List.mem_cons.1 h with he | h
  · obtain rfl := (Prod.mk.inj he).2
    cases hf
  rcases List.mem_cons.1 h with he | h
  · obtain rfl := (Prod.mk.inj he).2
    cases hf
  rcases List.mem_cons.1 h with he | h
  · obtain rfl := (Prod.mk.inj he).2
    cases hf
  rcases List.mem_cons.1 h with he | h
  · obtain rfl := (Prod.mk.inj he).2
    cases hf
  rcases List.mem_cons.1 h with he | h
  · obtain rfl := (Prod.mk.inj he).2
    cases hf
  rcases List.mem_cons.1 h with he | h
  · obtain rfl := (Prod.mk.inj he).2
    cases hf
  rcases List.mem_cons.1 h with he | h
  · obtain rfl := (Prod.mk.inj he).2
    cases hf
  rcases List.mem_cons.1 h with he | h
  · obtain rfl := (Prod.mk.inj he).2
    cases hf
  rcases List.mem_cons.1 h with he | h
  · obtain rfl := (Prod.mk.inj he).2
    cases hf
  rcases List.mem_cons.1 h with he | h
  · obtain rfl := (Prod.mk.inj he).2
    cases hf
  rcases List.mem_cons.1 h with he | h
  · obtain rfl := (Prod.mk.inj he).2
    cases hf
  rcases List.mem_cons.1 h with he | h
  · obtain rfl := (Prod.mk.inj he).2
    cases hf
  rcases List.mem_cons.1 h with he | h
  · obtain rfl := (Prod.mk.inj he).2
    cases hf
  rcases List.mem_cons.1 h with he | h
  · obtain rfl := (Prod.mk.inj he).2
    cases hf
  rcases List.mem_cons.1 h with he | h
  · obtain rfl := (Prod.mk.inj he).2
    cases hf
  rcases List.mem_cons.1 h with he | h
  · obtain rfl := (Prod.mk.inj he).2
    cases hf
  rcases List.mem_cons.1 h with he | h
  · obtain rfl := (Prod.mk.inj he).2
    cases hf
  rcases List.mem_cons.1 h with he | h
  · obtain rfl := (Prod.mk.inj he).2
    cases hf
  rcases List.mem_cons.1 h with he | h
  · obtain rfl := (Prod.mk.inj he).2
    cases hf
  rcases List.mem_cons.1 h with he | h
  · obtain rfl := (Prod.mk.inj he).2
    cases hf
  rcases List.mem_cons.1 h with he | h
  · obtain rfl := (Prod.mk.inj he).2
    cases hf
  rcases List.mem_cons.1 h with he | h
  · obtain rfl := (Prod.mk.inj he).2
    cases hf
  rcases List.mem_cons.1 h with he | h
  · obtain rfl := (Prod.mk.inj he).2
    cases hf
  rcases List.mem_cons.1 h with he | h
  · obtain rfl := (Prod.mk.inj he).2
    cases hf
  rcases List.mem_cons.1 h with he | h
  · obtain rfl := (Prod.mk.inj he).2
    cases hf
  rcases List.mem_cons.1 h with he | h
  · obtain rfl := (Prod.mk.inj he).2
    cases hf
  rcases List.mem_cons.1 h with he | h
  · obtain rfl := (Prod.mk.inj he).2
    cases hf
  rcases List.mem_cons.1 h with he | h
  · obtain rfl := (Prod.mk.inj he).2
    cases hf
  rcases List.mem_cons.1 h with he | h
  · obtain rfl := (Prod.mk.inj he).2
    cases hf
  rcases List.mem_cons.1 h with he | h
  · obtain rfl := (Prod.mk.inj he).2
    cases hf
  rcases List.mem_cons.1 h with he | h
  · obtain rfl := (Prod.mk.inj he).2
    cases hf
  rcases List.mem_cons.1 h with he | h
  · obtain rfl := (Prod.mk.inj he).2
    cases hf
  rcases List.mem_cons.1 h with he | h
  · obtain rfl := (Prod.mk.inj he).2
    cases hf
  rcases List.mem_cons.1 h with he | h
  · obtain rfl := (Prod.mk.inj he).2
    cases hf
  rcases List.mem_cons.1 h with he | h
  · obtain rfl := (Prod.mk.inj he).2
    have hf := Option.some.inj hf
    subst hf
    exact (parse_sound (by unfold vars; simp) (by unfold vars; simp)) args tab z hz
  rcases List.mem_cons.1 h with he | h
  · obtain rfl := (Prod.mk.inj he).2
    cases hf
  rcases List.mem_cons.1 h with he | h
  · obtain rfl := (Prod.mk.inj he).2
    cases hf
  rcases List.mem_cons.1 h with he | h
  · obtain rfl := (Prod.mk.inj he).2
    cases hf
  rcases List.mem_cons.1 h with he | h
  · obtain rfl := (Prod.mk.inj he).2
    cases hf
  rcases List.mem_cons.1 h with he | h
  · obtain rfl := (Prod.mk.inj he).2
    cases hf
  rcases List.mem_cons.1 h with he | h
  · obtain rfl := (Prod.mk.inj he).2
    cases hf
  rcases List.mem_cons.1 h with he | h
  · obtain rfl := (Prod.mk.inj he).2
    cases hf
  rcases List.mem_cons.1 h with he | h
  · obtain rfl := (Prod.mk.inj he).2
    cases hf
  rcases List.mem_cons.1 h with he | h
  · obtain rfl := (Prod.mk.inj he).2
    cases hf
  rcases List.mem_cons.1 h with he | h
  · obtain rfl := (Prod.mk.inj he).2
    have hf := Option.some.inj hf
    subst hf
    exact sort_ref_sound args tab z hz
  rcases List.mem_cons.1 h with he | h
  · obtain rfl := (Prod.mk.inj he).2
    cases hf
  rcases List.mem_cons.1 h with he | h
  · obtain rfl := (Prod.mk.inj he).2
    cases hf
  rcases List.mem_cons.1 h with he | h
  · obtain rfl := (Prod.mk.inj he).2
    cases hf
  rcases List.mem_cons.1 h with he | h
  · obtain rfl := (Prod.mk.inj he).2
    cases hf
  rcases List.mem_cons.1 h with he | h
  · obtain rfl := (Prod.mk.inj he).2
    cases hf
  rcases List.mem_cons.1 h with he | h
  · obtain rfl := (Prod.mk.inj he).2
    cases hf
  rcases List.mem_cons.1 h with he | h
  · obtain rfl := (Prod.mk.inj he).2
    cases hf
  rcases List.mem_cons.1 h with he | h
  · obtain rfl := (Prod.mk.inj he).2
    cases hf
  rcases List.mem_cons.1 h with he | h
  · obtain rfl := (Prod.mk.inj he).2
    cases hf
  rcases List.mem_cons.1 h with he | h
  · obtain rfl := (Prod.mk.inj he).2
    cases hf
  rcases List.mem_cons.1 h with he | h
  · obtain rfl := (Prod.mk.inj he).2
    cases hf
  rcases List.mem_cons.1 h with he | h
  · obtain rfl := (Prod.mk.inj he).2
    cases hf
  rcases List.mem_cons.1 h with he | h
  · obtain rfl := (Prod.mk.inj he).2
    cases hf
  rcases List.mem_cons.1 h with he | h
  · obtain rfl := (Prod.mk.inj he).2
    cases hf
  rcases List.mem_cons.1 h with he | h
  · obtain rfl := (Prod.mk.inj he).2
    cases hf
  rcases List.mem_cons.1 h with he | h
  · obtain rfl := (Prod.mk.inj he).2
    cases hf
  rcases List.mem_cons.1 h with he | h
  · obtain rfl := (Prod.mk.inj he).2
    have hf := Option.some.inj hf
    subst hf
    exact trim_sound args tab z hz
  rcases List.mem_cons.1 h with he | h
  · obtain rfl := (Prod.mk.inj he).2
    have hf := Option.some.inj hf
    subst hf
    exact (fmt_sound (by unfold vars; simp)) args tab z hz
  rcases List.mem_cons.1 h with he | h
  · obtain rfl := (Prod.mk.inj he).2
    cases hf
  rcases List.mem_cons.1 h with he | h
  · obtain rfl := (Prod.mk.inj he).2
    cases hf
  rcases List.mem_cons.1 h with he | h
  · obtain rfl := (Prod.mk.inj he).2
    cases hf
  rcases List.mem_cons.1 h with he | h
  · obtain rfl := (Prod.mk.inj he).2
    cases hf
  rcases List.mem_cons.1 h with he | h
  · obtain rfl := (Prod.mk.inj he).2
    cases hf
  rcases List.mem_cons.1 h with he | h
  · obtain rfl := (Prod.mk.inj he).2
    cases hf
  rcases List.mem_cons.1 h with he | h
  · obtain rfl := (Prod.mk.inj he).2
    cases hf
  rcases List.mem_cons.1 h with he | h
  · obtain rfl := (Prod.mk.inj he).2
    cases hf
  rcases List.mem_cons.1 h with he | h
  · obtain rfl := (Prod.mk.inj he).2
    cases hf
  rcases List.mem_cons.1 h with he | h
  · obtain rfl := (Prod.mk.inj he).2
    cases hf
  rcases List.mem_cons.1 h with he | h
  · obtain rfl := (Prod.mk.inj he).2
    cases hf
  rcases List.mem_cons.1 h with he | h
  · obtain rfl := (Prod.mk.inj he).2
    cases hf
  rcases List.mem_cons.1 h with he | h
  · obtain rfl := (Prod.mk.inj he).2
    cases hf
  rcases List.mem_cons.1 h with he | h
  · obtain rfl := (Prod.mk.inj he).2
    cases hf
  rcases List.mem_cons.1 h with he | h
  · obtain rfl := (Prod.mk.inj he).2
    cases hf
  rcases List.mem_cons.1 h with he | h
  · obtain rfl := (Prod.mk.inj he).2
    cases hf
  rcases List.mem_cons.1 h with he | h
  · obtain rfl := (Prod.mk.inj he).2
    cases hf
  rcases List.mem_cons.1 h with he | h
  · obtain rfl := (Prod.mk.inj he).2
    cases hf
  rcases List.mem_cons.1 h with he | h
  · obtain rfl := (Prod.mk.inj he).2
    cases hf
  rcases List.mem_cons.1 h with he | h
  · obtain rfl := (Prod.mk.inj he).2
    cases hf
  rcases List.mem_cons.1 h with he | h
  · obtain rfl := (Prod.mk.inj he).2
    cases hf
  rcases List.mem_cons.1 h with he | h
  · obtain rfl := (Prod.mk.inj he).2
    cases hf
  rcases List.mem_cons.1 h with he | h
  · obtain rfl := (Prod.mk.inj he).2
    have hf := Option.some.inj hf
    subst hf
    exact trimLeft_sound args tab z hz
  rcases List.mem_cons.1 h with he | h
  · obtain rfl := (Prod.mk.inj he).2
    cases hf
  rcases List.mem_cons.1 h with he | h
  · obtain rfl := (Prod.mk.inj he).2
    cases hf
  rcases List.mem_cons.1 h with he | h
  · obtain rfl := (Prod.mk.inj he).2
    cases hf
  rcases List.mem_cons.1 h with he | h
  · obtain rfl := (Prod.mk.inj he).2
    cases hf
  rcases List.mem_cons.1 h with he | h
  · obtain rfl := (Prod.mk.inj he).2
    cases hf
  rcases List.mem_cons.1 h with he | h
  · obtain rfl := (Prod.mk.inj he).2
    cases hf
  rcases List.mem_cons.1 h with he | h
  · obtain rfl := (Prod.mk.inj he).2
    cases hf
  rcases List.mem_cons.1 h with he | h
  · obtain rfl := (Prod.mk.inj he).2
    cases hf
  rcases List.mem_cons.1 h with he | h
  · obtain rfl := (Prod.mk.inj he).2
    have hf := Option.some.inj hf
    subst hf
    exact (replace_sound (by unfold vars; simp)) args tab z hz
  rcases List.mem_cons.1 h with he | h
  · obtain rfl := (Prod.mk.inj he).2
    cases hf
  rcases List.mem_cons.1 h with he | h
  · obtain rfl := (Prod.mk.inj he).2
    cases hf
  rcases List.mem_cons.1 h with he | h
  · obtain rfl := (Prod.mk.inj he).2
    have hf := Option.some.inj hf
    subst hf
    exact join_sound args tab z hz
  rcases List.mem_cons.1 h with he | h
  · obtain rfl := (Prod.mk.inj he).2
    cases hf
  rcases List.mem_cons.1 h with he | h
  · obtain rfl := (Prod.mk.inj he).2
    cases hf
  rcases List.mem_cons.1 h with he | h
  · obtain rfl := (Prod.mk.inj he).2
    cases hf
  rcases List.mem_cons.1 h with he | h
  · obtain rfl := (Prod.mk.inj he).2
    cases hf
  rcases List.mem_cons.1 h with he | h
  · obtain rfl := (Prod.mk.inj he).2
    cases hf
  rcases List.mem_cons.1 h with he | h
  · obtain rfl := (Prod.mk.inj he).2
    cases hf
  rcases List.mem_cons.1 h with he | h
  · obtain rfl := (Prod.mk.inj he).2
    cases hf
  rcases List.mem_cons.1 h with he | h
  · obtain rfl := (Prod.mk.inj he).2
    cases hf
  rcases List.mem_cons.1 h with he | h
  · obtain rfl := (Prod.mk.inj he).2
    cases hf
  rcases List.mem_cons.1 h with he | h
  · obtain rfl := (Prod.mk.inj he).2
    have hf := Option.some.inj hf
    subst hf
    exact (cut_sound (by unfold vars; simp)) args tab z hz
  rcases List.mem_cons.1 h with he | h
  · obtain rfl := (Prod.mk.inj he).2
    cases hf
  rcases List.mem_cons.1 h with he | h
  · obtain rfl := (Prod.mk.inj he).2
    cases hf
  rcases List.mem_cons.1 h with he | h
  · obtain rfl := (Prod.mk.inj he).2
    cases hf
  rcases List.mem_cons.1 h with he | h
  · obtain rfl := (Prod.mk.inj he).2
    cases hf
  cases h
end Go.Proofs.YtbkcnfbjigjgdaaGreatDoor.Abs
