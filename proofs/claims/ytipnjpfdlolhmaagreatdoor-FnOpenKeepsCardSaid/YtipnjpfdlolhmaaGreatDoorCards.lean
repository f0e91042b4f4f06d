/-
  DERIVED. GIVEN WITH THE SEED: THE CARDS: each row of YtipnjpfdlolhmaaGreatDoorRows.lean that lists a variable, with what it lists TIED to the program's text (the seventh form; the later family's looks); each row that meets fmt, with fmt's text TOLD by the authors' own Lean function (tested against real Go, not proved from fmt's source: count such statements apart). THE CARD IS WHAT COUNTS. Prove the row's statement (the work); the ties are given (YtipnjpfdlolhmaaGreatDoorTie.lean); close each card by the builder's one call (the guide's Derived/Test/ToyasCard.lean, 'card_holds'). Laid BY PROGRAM, IN A SANDBOX (cutbox-door.mjs). By AI agents, Wed Nov 11 2026. No macro, syntax, notation, axiom, sorry.
-/
import Derived.Test.YtipnjpfdlolhmaaGreatDoorRows
import GoSem.ClaimSeven
namespace Go.Proofs.YtipnjpfdlolhmaaGreatDoor
namespace Rows

/-- THE TIED CARD OF 'laws.FnOpenKeeps'. -/
def fnOpenKeepsCard : Claim7 := { stood := { row := fnOpenKeepsRow, standIns := [], harness := (true, "e8551c378ed4ae8a3bd88084f9daa27469014df900afdee9a414c262bb0295d4"), looks := true }, kinds := [], alts := [], laidByText := true, laidKinds := [.data, .data, .data, .data, .sentinel, .sentinel, .pinned], laidTests := true, laidLooks := .later }
def FnOpenKeepsCardSaid : Prop := Claim7.holds Tryz.pinned (.plain (OpenSpec.ofChange fnOpenKeepsSpec)) fnOpenKeepsCard

/-- THE SECOND FORM's CARD OF 'laws.FnOpenKeeps'. -/
def fnOpenKeepsUptoCard : Claim7 := { stood := { row := fnOpenKeepsUptoRow, standIns := [], harness := (true, "e8551c378ed4ae8a3bd88084f9daa27469014df900afdee9a414c262bb0295d4"), looks := true }, kinds := [], alts := [], laidByText := true, laidKinds := [.data, .data, .data, .data, .sentinel, .sentinel, .pinned], laidTests := true, laidLooks := .later }
def FnOpenKeepsUptoCardSaid : Prop := Claim7.holds Tryz.pinned (.plain (OpenSpec.upto fnOpenKeepsSpec)) fnOpenKeepsUptoCard
end Rows
end Go.Proofs.YtipnjpfdlolhmaaGreatDoor
