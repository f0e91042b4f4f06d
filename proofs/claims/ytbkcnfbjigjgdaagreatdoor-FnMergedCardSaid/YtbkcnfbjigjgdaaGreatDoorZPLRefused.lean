/- FnPatchesRefused and FnPatched say true. -/
import Derived.Test.YtbkcnfbjigjgdaaGreatDoorZPT37
set_option linter.unusedVariables false
set_option linter.unusedSimpArgs false
set_option linter.unusedSectionVars false
namespace Go.Proofs.YtbkcnfbjigjgdaaGreatDoor.Abs
open Go

theorem ptR_none {s n : List dCell} {l : List dChange} (h : ptR s l = (n, true)) : OkL s := okL_of (ptR_ok h).1
theorem dfR_ok {a b : List dCell} (ha : okSheet a = true) (hb : okSheet b = true) : dfR a b = dfS a b := if_pos ⟨ha, hb⟩
end Go.Proofs.YtbkcnfbjigjgdaaGreatDoor.Abs
