/-
  DERIVED. GIVEN WITH THE SEED: THE CARDS: each row of YtnodjiikdgmeaaaGreatDoorRows.lean that lists a variable, with what it lists TIED to the program's text (the seventh form; the later family's looks); each row that meets fmt, with fmt's text TOLD by the authors' own Lean function (tested against real Go, not proved from fmt's source: count such statements apart). THE CARD IS WHAT COUNTS. Prove the row's statement (the work); the ties are given (YtnodjiikdgmeaaaGreatDoorTie.lean); close each card by the builder's one call (the guide's Derived/Test/ToyasCard.lean, 'card_holds'). Laid BY PROGRAM, IN A SANDBOX (cutbox-door.mjs). By AI agents, Wed Nov 11 2026. No macro, syntax, notation, axiom, sorry.
-/
import Derived.Test.YtnodjiikdgmeaaaGreatDoorRows
import GoSem.ClaimSeven
namespace Go.Proofs.YtnodjiikdgmeaaaGreatDoor
namespace Rows

/-- THE TIED CARD OF 'laws.FnExactValuesOf'. -/
def fnExactValuesOfCard : Claim7 := { stood := { row := fnExactValuesOfRow, standIns := [], harness := (true, "7c8f48619fa64c1b6c504dce21695357583558f09f1a2aed0fa55bd8e68a3e10"), looks := true }, kinds := [], alts := [], laidByText := true, laidKinds := [.data, .data, .data, .data, .sentinel, .sentinel, .pinned], laidTests := true, laidLooks := .later }
def FnExactValuesOfCardSaid : Prop := Claim7.holds Tryz.pinned (.plain (OpenSpec.ofChange fnExactValuesOfSpec)) fnExactValuesOfCard

/-- THE TIED CARD OF 'laws.FnExactRecalculated'. -/
def fnExactRecalculatedCard : Claim7 := { stood := { row := fnExactRecalculatedRow, standIns := [], harness := (true, "7c8f48619fa64c1b6c504dce21695357583558f09f1a2aed0fa55bd8e68a3e10"), looks := true }, kinds := [], alts := [], laidByText := true, laidKinds := [.data, .data, .data, .data, .sentinel, .sentinel, .pinned], laidTests := true, laidLooks := .later }
def FnExactRecalculatedCardSaid : Prop := Claim7.holds Tryz.pinned (.plain (OpenSpec.ofChange fnExactRecalculatedSpec)) fnExactRecalculatedCard

/-- THE TIED CARD OF 'laws.FnValuesHold'. -/
def fnValuesHoldCard : Claim7 := { stood := { row := fnValuesHoldRow, standIns := [], harness := (true, "7c8f48619fa64c1b6c504dce21695357583558f09f1a2aed0fa55bd8e68a3e10"), looks := true }, kinds := [], alts := [], laidByText := true, laidKinds := [.data, .data, .data, .data, .sentinel, .sentinel, .pinned], laidTests := true, laidLooks := .later }
def FnValuesHoldCardSaid : Prop := Claim7.holds Tryz.pinned (.plain (OpenSpec.ofChange fnValuesHoldSpec)) fnValuesHoldCard

/-- THE TIED CARD OF 'laws.FnRecalculated'. -/
def fnRecalculatedCard : Claim7 := { stood := { row := fnRecalculatedRow, standIns := [], harness := (true, "7c8f48619fa64c1b6c504dce21695357583558f09f1a2aed0fa55bd8e68a3e10"), looks := true }, kinds := [], alts := [], laidByText := true, laidKinds := [.data, .data, .data, .data, .sentinel, .sentinel, .pinned], laidTests := true, laidLooks := .later }
def FnRecalculatedCardSaid : Prop := Claim7.holds Tryz.pinned (.plain (OpenSpec.ofChange fnRecalculatedSpec)) fnRecalculatedCard

/-- THE SECOND FORM's CARD OF 'laws.FnExactValuesOf'. -/
def fnExactValuesOfUptoCard : Claim7 := { stood := { row := fnExactValuesOfUptoRow, standIns := [], harness := (true, "7c8f48619fa64c1b6c504dce21695357583558f09f1a2aed0fa55bd8e68a3e10"), looks := true }, kinds := [], alts := [], laidByText := true, laidKinds := [.data, .data, .data, .data, .sentinel, .sentinel, .pinned], laidTests := true, laidLooks := .later }
def FnExactValuesOfUptoCardSaid : Prop := Claim7.holds Tryz.pinned (.plain (OpenSpec.upto fnExactValuesOfSpec)) fnExactValuesOfUptoCard

/-- THE SECOND FORM's CARD OF 'laws.FnExactRecalculated'. -/
def fnExactRecalculatedUptoCard : Claim7 := { stood := { row := fnExactRecalculatedUptoRow, standIns := [], harness := (true, "7c8f48619fa64c1b6c504dce21695357583558f09f1a2aed0fa55bd8e68a3e10"), looks := true }, kinds := [], alts := [], laidByText := true, laidKinds := [.data, .data, .data, .data, .sentinel, .sentinel, .pinned], laidTests := true, laidLooks := .later }
def FnExactRecalculatedUptoCardSaid : Prop := Claim7.holds Tryz.pinned (.plain (OpenSpec.upto fnExactRecalculatedSpec)) fnExactRecalculatedUptoCard

/-- THE SECOND FORM's CARD OF 'laws.FnValuesHold'. -/
def fnValuesHoldUptoCard : Claim7 := { stood := { row := fnValuesHoldUptoRow, standIns := [], harness := (true, "7c8f48619fa64c1b6c504dce21695357583558f09f1a2aed0fa55bd8e68a3e10"), looks := true }, kinds := [], alts := [], laidByText := true, laidKinds := [.data, .data, .data, .data, .sentinel, .sentinel, .pinned], laidTests := true, laidLooks := .later }
def FnValuesHoldUptoCardSaid : Prop := Claim7.holds Tryz.pinned (.plain (OpenSpec.upto fnValuesHoldSpec)) fnValuesHoldUptoCard

/-- THE SECOND FORM's CARD OF 'laws.FnRecalculated'. -/
def fnRecalculatedUptoCard : Claim7 := { stood := { row := fnRecalculatedUptoRow, standIns := [], harness := (true, "7c8f48619fa64c1b6c504dce21695357583558f09f1a2aed0fa55bd8e68a3e10"), looks := true }, kinds := [], alts := [], laidByText := true, laidKinds := [.data, .data, .data, .data, .sentinel, .sentinel, .pinned], laidTests := true, laidLooks := .later }
def FnRecalculatedUptoCardSaid : Prop := Claim7.holds Tryz.pinned (.plain (OpenSpec.upto fnRecalculatedSpec)) fnRecalculatedUptoCard
end Rows
end Go.Proofs.YtnodjiikdgmeaaaGreatDoor
