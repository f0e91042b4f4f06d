/-
  DERIVED. GIVEN WITH THE SEED: THE CARDS: each row of YteaahciglahehaaGreatDoorRows.lean that lists a variable, with what it lists TIED to the program's text (the seventh form; the later family's looks); each row that meets fmt, with fmt's text TOLD by the authors' own Lean function (tested against real Go, not proved from fmt's source: count such statements apart). THE CARD IS WHAT COUNTS. Prove the row's statement (the work); the ties are given (YteaahciglahehaaGreatDoorTie.lean); close each card by the builder's one call (the guide's Derived/Test/ToyasCard.lean, 'card_holds'). Laid BY PROGRAM, IN A SANDBOX (cutbox-door.mjs). By AI agents, Wed Nov 11 2026. No macro, syntax, notation, axiom, sorry.
-/
import Derived.Test.YteaahciglahehaaGreatDoorRows
import GoSem.ClaimSeven
namespace Go.Proofs.YteaahciglahehaaGreatDoor
namespace Rows

/-- THE TIED CARD OF 'laws.FnExactRunMacro'. -/
def fnExactRunMacroCard : Claim7 := { stood := { row := fnExactRunMacroRow, standIns := [], harness := (true, "5b1eed1c5256837747d5e250ffcb06cec46eff650baf7fcfc829e187f6d9c213"), looks := true }, kinds := [], alts := [], laidByText := true, laidKinds := [.data, .data, .data, .data, .sentinel, .sentinel, .pinned], laidTests := true, laidLooks := .later }
def FnExactRunMacroCardSaid : Prop := Claim7.holds Tryz.pinned (.plain (OpenSpec.ofChange fnExactRunMacroSpec)) fnExactRunMacroCard

/-- THE TIED CARD OF 'laws.FnExactLooked'. -/
def fnExactLookedCard : Claim7 := { stood := { row := fnExactLookedRow, standIns := [], harness := (true, "5b1eed1c5256837747d5e250ffcb06cec46eff650baf7fcfc829e187f6d9c213"), looks := true }, kinds := [], alts := [], laidByText := true, laidKinds := [.data, .data, .data, .data, .sentinel, .sentinel, .pinned], laidTests := true, laidLooks := .later }
def FnExactLookedCardSaid : Prop := Claim7.holds Tryz.pinned (.plain (OpenSpec.ofChange fnExactLookedSpec)) fnExactLookedCard

/-- THE SECOND FORM's CARD OF 'laws.FnExactRunMacro'. -/
def fnExactRunMacroUptoCard : Claim7 := { stood := { row := fnExactRunMacroUptoRow, standIns := [], harness := (true, "5b1eed1c5256837747d5e250ffcb06cec46eff650baf7fcfc829e187f6d9c213"), looks := true }, kinds := [], alts := [], laidByText := true, laidKinds := [.data, .data, .data, .data, .sentinel, .sentinel, .pinned], laidTests := true, laidLooks := .later }
def FnExactRunMacroUptoCardSaid : Prop := Claim7.holds Tryz.pinned (.plain (OpenSpec.upto fnExactRunMacroSpec)) fnExactRunMacroUptoCard

/-- THE SECOND FORM's CARD OF 'laws.FnExactLooked'. -/
def fnExactLookedUptoCard : Claim7 := { stood := { row := fnExactLookedUptoRow, standIns := [], harness := (true, "5b1eed1c5256837747d5e250ffcb06cec46eff650baf7fcfc829e187f6d9c213"), looks := true }, kinds := [], alts := [], laidByText := true, laidKinds := [.data, .data, .data, .data, .sentinel, .sentinel, .pinned], laidTests := true, laidLooks := .later }
def FnExactLookedUptoCardSaid : Prop := Claim7.holds Tryz.pinned (.plain (OpenSpec.upto fnExactLookedSpec)) fnExactLookedUptoCard
end Rows
end Go.Proofs.YteaahciglahehaaGreatDoor
