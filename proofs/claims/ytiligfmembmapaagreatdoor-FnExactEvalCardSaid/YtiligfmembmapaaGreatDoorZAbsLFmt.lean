/- strconv.FormatInt at base 10: the library's contract, laid at this program. -/
import Derived.Shelf.Strconv.Itoa4
import Derived.Shelf.Lay
import Derived.Ground.NamesProg
import Derived.Lib.AppendIntMem
import Derived.Test.YtiligfmembmapaaGreatDoorZA3
import Derived.Test.YtiligfmembmapaaGreatDoorZQD
set_option linter.unusedVariables false
set_option linter.unusedSimpArgs false
set_option linter.unusedSectionVars false
namespace Go.Proofs
open Go.Shelf Go.RowKit Go.Lib
shelf_lay LaysM.n173 Nm 173 at Tryz as Tryz.layFmt
end Go.Proofs
namespace Go.Proofs.YtiligfmembmapaaGreatDoor.Abs
open Go Go.Shelf Go.RowKit Go.Lib
/-- The table of powers of ten. -/
def powRow : String × Array Value := ("internal/strconv.uint64pow10", (Lib.pow10Tab.map fun z => Value.int .u64 z).toArray)
theorem fmt_sound {l : List (String × Array Value)} (hm : powRow ∈ l) : ∀ (args : List SV) (tab : Tab) (z : (Sh.pair (.val .str) .unit).den × Sh.unit.den), fmtPrim args tab = some z → SoundAt (VarsGp Tryz.prog l) Tryz.prog I_strconv_FormatInt args tab z := by
  intro args tab z hz
  unfold fmtPrim at hz
  split at hz
  · rename_i n b
    split at hz
    · rename_i h
      obtain ⟨hb, h0, h1⟩ := h
      cases hz
      refine flat_sound (sh := .pair (.val .str) .unit) rfl ?_ (fun _ _ h => h.none)
      intro w L γ us hG hu
      cases hu with
      | cons a k =>
        cases k with
        | cons c k =>
          cases k
          obtain rfl := val_int a
          obtain rfl := val_int c
          rw [show b = (10 : Int) from hb]
          refine (Any.strconv_FormatInt_10 Tryz.layFmt n h0 h1 w (hG powRow hm).1).mono ?_
          rintro e w' ⟨rfl, q, os, rfl⟩
          exact ⟨rfl, below_grow _ w (Nat.le_refl _) q os⟩
    · cases hz
  · cases hz
end Go.Proofs.YtiligfmembmapaaGreatDoor.Abs
