/-
  DERIVED. GIVEN WITH THE SEED: THE CARDS: each row of YthbkdfcmjmmpgaaGreatDoorRows.lean that lists a variable, with what it lists TIED to the program's text (the seventh form; the later family's looks); each row that meets fmt, with fmt's text TOLD by the authors' own Lean function (tested against real Go, not proved from fmt's source: count such statements apart). THE CARD IS WHAT COUNTS. Prove the row's statement (the work); the ties are given (YthbkdfcmjmmpgaaGreatDoorTie.lean); close each card by the builder's one call (the guide's Derived/Test/ToyasCard.lean, 'card_holds'). Laid BY PROGRAM, IN A SANDBOX (cutbox-door.mjs). By AI agents, Wed Nov 11 2026. No macro, syntax, notation, axiom, sorry.
-/
import Derived.Test.YthbkdfcmjmmpgaaGreatDoorRows
import GoSem.ClaimSeven
namespace Go.Proofs.YthbkdfcmjmmpgaaGreatDoor
namespace Rows

/-- THE TIED CARD OF 'laws.FnAllOrNothing'. -/
def fnAllOrNothingCard : Claim7 := { stood := { row := fnAllOrNothingRow, standIns := [], harness := (true, "9554c958d71b464eebac2baabb0a9b4070624fa717b295b47d44ce009779f483"), looks := true }, kinds := [], alts := [], laidByText := true, laidKinds := [.data, .data, .data, .data, .sentinel, .sentinel, .pinned], laidTests := true, laidLooks := .later }
def FnAllOrNothingCardSaid : Prop := Claim7.holds Tryz.pinned (.plain (OpenSpec.ofChange fnAllOrNothingSpec)) fnAllOrNothingCard

/-- THE TIED CARD OF 'laws.FnLooked'. -/
def fnLookedCard : Claim7 := { stood := { row := fnLookedRow, standIns := [], harness := (true, "9554c958d71b464eebac2baabb0a9b4070624fa717b295b47d44ce009779f483"), looks := true }, kinds := [], alts := [], laidByText := true, laidKinds := [.data, .data, .data, .data, .sentinel, .sentinel, .pinned], laidTests := true, laidLooks := .later }
def FnLookedCardSaid : Prop := Claim7.holds Tryz.pinned (.plain (OpenSpec.ofChange fnLookedSpec)) fnLookedCard

/-- THE SECOND FORM's CARD OF 'laws.FnAllOrNothing'. -/
def fnAllOrNothingUptoCard : Claim7 := { stood := { row := fnAllOrNothingUptoRow, standIns := [], harness := (true, "9554c958d71b464eebac2baabb0a9b4070624fa717b295b47d44ce009779f483"), looks := true }, kinds := [], alts := [], laidByText := true, laidKinds := [.data, .data, .data, .data, .sentinel, .sentinel, .pinned], laidTests := true, laidLooks := .later }
def FnAllOrNothingUptoCardSaid : Prop := Claim7.holds Tryz.pinned (.plain (OpenSpec.upto fnAllOrNothingSpec)) fnAllOrNothingUptoCard

/-- THE SECOND FORM's CARD OF 'laws.FnLooked'. -/
def fnLookedUptoCard : Claim7 := { stood := { row := fnLookedUptoRow, standIns := [], harness := (true, "9554c958d71b464eebac2baabb0a9b4070624fa717b295b47d44ce009779f483"), looks := true }, kinds := [], alts := [], laidByText := true, laidKinds := [.data, .data, .data, .data, .sentinel, .sentinel, .pinned], laidTests := true, laidLooks := .later }
def FnLookedUptoCardSaid : Prop := Claim7.holds Tryz.pinned (.plain (OpenSpec.upto fnLookedSpec)) fnLookedUptoCard
end Rows
end Go.Proofs.YthbkdfcmjmmpgaaGreatDoor
