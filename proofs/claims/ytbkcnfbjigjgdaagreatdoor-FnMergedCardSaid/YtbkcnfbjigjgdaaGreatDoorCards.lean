/-
  DERIVED. GIVEN WITH THE SEED: THE CARDS: each row of YtbkcnfbjigjgdaaGreatDoorRows.lean that lists a variable, with what it lists TIED to the program's text (the seventh form; the later family's looks); each row that meets fmt, with fmt's text TOLD by the authors' own Lean function (tested against real Go, not proved from fmt's source: count such statements apart). THE CARD IS WHAT COUNTS. Prove the row's statement (the work); the ties are given (YtbkcnfbjigjgdaaGreatDoorTie.lean); close each card by the builder's one call (the guide's Derived/Test/ToyasCard.lean, 'card_holds'). Laid BY PROGRAM, IN A SANDBOX (cutbox-door.mjs). By AI agents, Wed Nov 11 2026. No macro, syntax, notation, axiom, sorry.
-/
import Derived.Test.YtbkcnfbjigjgdaaGreatDoorRows
import GoSem.ClaimSeven
namespace Go.Proofs.YtbkcnfbjigjgdaaGreatDoor
namespace Rows

/-- THE TIED CARD OF 'laws.FnExactPatched'. -/
def fnExactPatchedCard : Claim7 := { stood := { row := fnExactPatchedRow, standIns := [], harness := (true, "dfed85d03844617a5633fdc5fdfa50c3a9d8dbfaf4dd7c7201918b2c4c497cc0"), looks := true }, kinds := [], alts := [], laidByText := true, laidKinds := [.data, .data, .data, .data, .sentinel, .sentinel, .pinned], laidTests := true, laidLooks := .later }
def FnExactPatchedCardSaid : Prop := Claim7.holds Tryz.pinned (.plain (OpenSpec.ofChange fnExactPatchedSpec)) fnExactPatchedCard

/-- THE TIED CARD OF 'laws.FnPatchesRefused'. -/
def fnPatchesRefusedCard : Claim7 := { stood := { row := fnPatchesRefusedRow, standIns := [], harness := (true, "dfed85d03844617a5633fdc5fdfa50c3a9d8dbfaf4dd7c7201918b2c4c497cc0"), looks := true }, kinds := [], alts := [], laidByText := true, laidKinds := [.data, .data, .data, .data, .sentinel, .sentinel, .pinned], laidTests := true, laidLooks := .later }
def FnPatchesRefusedCardSaid : Prop := Claim7.holds Tryz.pinned (.plain (OpenSpec.ofChange fnPatchesRefusedSpec)) fnPatchesRefusedCard

/-- THE TIED CARD OF 'laws.FnPatched'. -/
def fnPatchedCard : Claim7 := { stood := { row := fnPatchedRow, standIns := [], harness := (true, "dfed85d03844617a5633fdc5fdfa50c3a9d8dbfaf4dd7c7201918b2c4c497cc0"), looks := true }, kinds := [], alts := [], laidByText := true, laidKinds := [.data, .data, .data, .data, .sentinel, .sentinel, .pinned], laidTests := true, laidLooks := .later }
def FnPatchedCardSaid : Prop := Claim7.holds Tryz.pinned (.plain (OpenSpec.ofChange fnPatchedSpec)) fnPatchedCard

/-- THE TIED CARD OF 'laws.FnExactMerged'. -/
def fnExactMergedCard : Claim7 := { stood := { row := fnExactMergedRow, standIns := [], harness := (true, "dfed85d03844617a5633fdc5fdfa50c3a9d8dbfaf4dd7c7201918b2c4c497cc0"), looks := true }, kinds := [], alts := [], laidByText := true, laidKinds := [.data, .data, .data, .data, .sentinel, .sentinel, .pinned], laidTests := true, laidLooks := .later }
def FnExactMergedCardSaid : Prop := Claim7.holds Tryz.pinned (.plain (OpenSpec.ofChange fnExactMergedSpec)) fnExactMergedCard

/-- THE TIED CARD OF 'laws.FnMerged'. -/
def fnMergedCard : Claim7 := { stood := { row := fnMergedRow, standIns := [], harness := (true, "dfed85d03844617a5633fdc5fdfa50c3a9d8dbfaf4dd7c7201918b2c4c497cc0"), looks := true }, kinds := [], alts := [], laidByText := true, laidKinds := [.data, .data, .data, .data, .sentinel, .sentinel, .pinned], laidTests := true, laidLooks := .later }
def FnMergedCardSaid : Prop := Claim7.holds Tryz.pinned (.plain (OpenSpec.ofChange fnMergedSpec)) fnMergedCard

/-- THE SECOND FORM's CARD OF 'laws.FnExactPatched'. -/
def fnExactPatchedUptoCard : Claim7 := { stood := { row := fnExactPatchedUptoRow, standIns := [], harness := (true, "dfed85d03844617a5633fdc5fdfa50c3a9d8dbfaf4dd7c7201918b2c4c497cc0"), looks := true }, kinds := [], alts := [], laidByText := true, laidKinds := [.data, .data, .data, .data, .sentinel, .sentinel, .pinned], laidTests := true, laidLooks := .later }
def FnExactPatchedUptoCardSaid : Prop := Claim7.holds Tryz.pinned (.plain (OpenSpec.upto fnExactPatchedSpec)) fnExactPatchedUptoCard

/-- THE SECOND FORM's CARD OF 'laws.FnPatchesRefused'. -/
def fnPatchesRefusedUptoCard : Claim7 := { stood := { row := fnPatchesRefusedUptoRow, standIns := [], harness := (true, "dfed85d03844617a5633fdc5fdfa50c3a9d8dbfaf4dd7c7201918b2c4c497cc0"), looks := true }, kinds := [], alts := [], laidByText := true, laidKinds := [.data, .data, .data, .data, .sentinel, .sentinel, .pinned], laidTests := true, laidLooks := .later }
def FnPatchesRefusedUptoCardSaid : Prop := Claim7.holds Tryz.pinned (.plain (OpenSpec.upto fnPatchesRefusedSpec)) fnPatchesRefusedUptoCard

/-- THE SECOND FORM's CARD OF 'laws.FnPatched'. -/
def fnPatchedUptoCard : Claim7 := { stood := { row := fnPatchedUptoRow, standIns := [], harness := (true, "dfed85d03844617a5633fdc5fdfa50c3a9d8dbfaf4dd7c7201918b2c4c497cc0"), looks := true }, kinds := [], alts := [], laidByText := true, laidKinds := [.data, .data, .data, .data, .sentinel, .sentinel, .pinned], laidTests := true, laidLooks := .later }
def FnPatchedUptoCardSaid : Prop := Claim7.holds Tryz.pinned (.plain (OpenSpec.upto fnPatchedSpec)) fnPatchedUptoCard

/-- THE SECOND FORM's CARD OF 'laws.FnExactMerged'. -/
def fnExactMergedUptoCard : Claim7 := { stood := { row := fnExactMergedUptoRow, standIns := [], harness := (true, "dfed85d03844617a5633fdc5fdfa50c3a9d8dbfaf4dd7c7201918b2c4c497cc0"), looks := true }, kinds := [], alts := [], laidByText := true, laidKinds := [.data, .data, .data, .data, .sentinel, .sentinel, .pinned], laidTests := true, laidLooks := .later }
def FnExactMergedUptoCardSaid : Prop := Claim7.holds Tryz.pinned (.plain (OpenSpec.upto fnExactMergedSpec)) fnExactMergedUptoCard

/-- THE SECOND FORM's CARD OF 'laws.FnMerged'. -/
def fnMergedUptoCard : Claim7 := { stood := { row := fnMergedUptoRow, standIns := [], harness := (true, "dfed85d03844617a5633fdc5fdfa50c3a9d8dbfaf4dd7c7201918b2c4c497cc0"), looks := true }, kinds := [], alts := [], laidByText := true, laidKinds := [.data, .data, .data, .data, .sentinel, .sentinel, .pinned], laidTests := true, laidLooks := .later }
def FnMergedUptoCardSaid : Prop := Claim7.holds Tryz.pinned (.plain (OpenSpec.upto fnMergedSpec)) fnMergedUptoCard
end Rows
end Go.Proofs.YtbkcnfbjigjgdaaGreatDoor
