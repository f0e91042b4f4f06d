/-
  DERIVED. GIVEN WITH THE SEED: THE CARDS: each row of YtddiiceaindlhaaGreatDoorRows.lean that lists a variable, with what it lists TIED to the program's text (the seventh form; the later family's looks); each row that meets fmt, with fmt's text TOLD by the authors' own Lean function (tested against real Go, not proved from fmt's source: count such statements apart). THE CARD IS WHAT COUNTS. Prove the row's statement (the work); the ties are given (YtddiiceaindlhaaGreatDoorTie.lean); close each card by the builder's one call (the guide's Derived/Test/ToyasCard.lean, 'card_holds'). Laid BY PROGRAM, IN A SANDBOX (cutbox-door.mjs). By AI agents, Wed Nov 11 2026. No macro, syntax, notation, axiom, sorry.
-/
import Derived.Test.YtddiiceaindlhaaGreatDoorRows
import GoSem.ClaimSeven
namespace Go.Proofs.YtddiiceaindlhaaGreatDoor
namespace Rows

/-- THE TIED CARD OF 'laws.FnExactApplied'. -/
def fnExactAppliedCard : Claim7 := { stood := { row := fnExactAppliedRow, standIns := [], harness := (true, "d5b0e728e656644dec81cefc0219d5bcd9d73c55bac59883d8e88a1a10b0395c"), looks := true }, kinds := [], alts := [], laidByText := true, laidKinds := [.data, .data, .data, .data, .sentinel, .sentinel, .pinned], laidTests := true, laidLooks := .later }
def FnExactAppliedCardSaid : Prop := Claim7.holds Tryz.pinned (.plain (OpenSpec.ofChange fnExactAppliedSpec)) fnExactAppliedCard

/-- THE TIED CARD OF 'laws.FnCleared'. -/
def fnClearedCard : Claim7 := { stood := { row := fnClearedRow, standIns := [], harness := (true, "d5b0e728e656644dec81cefc0219d5bcd9d73c55bac59883d8e88a1a10b0395c"), looks := true }, kinds := [], alts := [], laidByText := true, laidKinds := [.data, .data, .data, .data, .sentinel, .sentinel, .pinned], laidTests := true, laidLooks := .later }
def FnClearedCardSaid : Prop := Claim7.holds Tryz.pinned (.plain (OpenSpec.ofChange fnClearedSpec)) fnClearedCard

/-- THE TIED CARD OF 'laws.FnEditsParted'. -/
def fnEditsPartedCard : Claim7 := { stood := { row := fnEditsPartedRow, standIns := [], harness := (true, "d5b0e728e656644dec81cefc0219d5bcd9d73c55bac59883d8e88a1a10b0395c"), looks := true }, kinds := [], alts := [], laidByText := true, laidKinds := [.data, .data, .data, .data, .sentinel, .sentinel, .pinned], laidTests := true, laidLooks := .later }
def FnEditsPartedCardSaid : Prop := Claim7.holds Tryz.pinned (.plain (OpenSpec.ofChange fnEditsPartedSpec)) fnEditsPartedCard

/-- THE TIED CARD OF 'laws.FnExactUndo'. -/
def fnExactUndoCard : Claim7 := { stood := { row := fnExactUndoRow, standIns := [], harness := (true, "d5b0e728e656644dec81cefc0219d5bcd9d73c55bac59883d8e88a1a10b0395c"), looks := true }, kinds := [], alts := [], laidByText := true, laidKinds := [.data, .data, .data, .data, .sentinel, .sentinel, .pinned], laidTests := true, laidLooks := .later }
def FnExactUndoCardSaid : Prop := Claim7.holds Tryz.pinned (.plain (OpenSpec.ofChange fnExactUndoSpec)) fnExactUndoCard

/-- THE TIED CARD OF 'laws.FnExactAllApplied'. -/
def fnExactAllAppliedCard : Claim7 := { stood := { row := fnExactAllAppliedRow, standIns := [], harness := (true, "d5b0e728e656644dec81cefc0219d5bcd9d73c55bac59883d8e88a1a10b0395c"), looks := true }, kinds := [], alts := [], laidByText := true, laidKinds := [.data, .data, .data, .data, .sentinel, .sentinel, .pinned], laidTests := true, laidLooks := .later }
def FnExactAllAppliedCardSaid : Prop := Claim7.holds Tryz.pinned (.plain (OpenSpec.ofChange fnExactAllAppliedSpec)) fnExactAllAppliedCard

/-- THE TIED CARD OF 'laws.FnUndone'. -/
def fnUndoneCard : Claim7 := { stood := { row := fnUndoneRow, standIns := [], harness := (true, "d5b0e728e656644dec81cefc0219d5bcd9d73c55bac59883d8e88a1a10b0395c"), looks := true }, kinds := [], alts := [], laidByText := true, laidKinds := [.data, .data, .data, .data, .sentinel, .sentinel, .pinned], laidTests := true, laidLooks := .later }
def FnUndoneCardSaid : Prop := Claim7.holds Tryz.pinned (.plain (OpenSpec.ofChange fnUndoneSpec)) fnUndoneCard

/-- THE SECOND FORM's CARD OF 'laws.FnExactApplied'. -/
def fnExactAppliedUptoCard : Claim7 := { stood := { row := fnExactAppliedUptoRow, standIns := [], harness := (true, "d5b0e728e656644dec81cefc0219d5bcd9d73c55bac59883d8e88a1a10b0395c"), looks := true }, kinds := [], alts := [], laidByText := true, laidKinds := [.data, .data, .data, .data, .sentinel, .sentinel, .pinned], laidTests := true, laidLooks := .later }
def FnExactAppliedUptoCardSaid : Prop := Claim7.holds Tryz.pinned (.plain (OpenSpec.upto fnExactAppliedSpec)) fnExactAppliedUptoCard

/-- THE SECOND FORM's CARD OF 'laws.FnCleared'. -/
def fnClearedUptoCard : Claim7 := { stood := { row := fnClearedUptoRow, standIns := [], harness := (true, "d5b0e728e656644dec81cefc0219d5bcd9d73c55bac59883d8e88a1a10b0395c"), looks := true }, kinds := [], alts := [], laidByText := true, laidKinds := [.data, .data, .data, .data, .sentinel, .sentinel, .pinned], laidTests := true, laidLooks := .later }
def FnClearedUptoCardSaid : Prop := Claim7.holds Tryz.pinned (.plain (OpenSpec.upto fnClearedSpec)) fnClearedUptoCard

/-- THE SECOND FORM's CARD OF 'laws.FnEditsParted'. -/
def fnEditsPartedUptoCard : Claim7 := { stood := { row := fnEditsPartedUptoRow, standIns := [], harness := (true, "d5b0e728e656644dec81cefc0219d5bcd9d73c55bac59883d8e88a1a10b0395c"), looks := true }, kinds := [], alts := [], laidByText := true, laidKinds := [.data, .data, .data, .data, .sentinel, .sentinel, .pinned], laidTests := true, laidLooks := .later }
def FnEditsPartedUptoCardSaid : Prop := Claim7.holds Tryz.pinned (.plain (OpenSpec.upto fnEditsPartedSpec)) fnEditsPartedUptoCard

/-- THE SECOND FORM's CARD OF 'laws.FnExactUndo'. -/
def fnExactUndoUptoCard : Claim7 := { stood := { row := fnExactUndoUptoRow, standIns := [], harness := (true, "d5b0e728e656644dec81cefc0219d5bcd9d73c55bac59883d8e88a1a10b0395c"), looks := true }, kinds := [], alts := [], laidByText := true, laidKinds := [.data, .data, .data, .data, .sentinel, .sentinel, .pinned], laidTests := true, laidLooks := .later }
def FnExactUndoUptoCardSaid : Prop := Claim7.holds Tryz.pinned (.plain (OpenSpec.upto fnExactUndoSpec)) fnExactUndoUptoCard

/-- THE SECOND FORM's CARD OF 'laws.FnExactAllApplied'. -/
def fnExactAllAppliedUptoCard : Claim7 := { stood := { row := fnExactAllAppliedUptoRow, standIns := [], harness := (true, "d5b0e728e656644dec81cefc0219d5bcd9d73c55bac59883d8e88a1a10b0395c"), looks := true }, kinds := [], alts := [], laidByText := true, laidKinds := [.data, .data, .data, .data, .sentinel, .sentinel, .pinned], laidTests := true, laidLooks := .later }
def FnExactAllAppliedUptoCardSaid : Prop := Claim7.holds Tryz.pinned (.plain (OpenSpec.upto fnExactAllAppliedSpec)) fnExactAllAppliedUptoCard

/-- THE SECOND FORM's CARD OF 'laws.FnUndone'. -/
def fnUndoneUptoCard : Claim7 := { stood := { row := fnUndoneUptoRow, standIns := [], harness := (true, "d5b0e728e656644dec81cefc0219d5bcd9d73c55bac59883d8e88a1a10b0395c"), looks := true }, kinds := [], alts := [], laidByText := true, laidKinds := [.data, .data, .data, .data, .sentinel, .sentinel, .pinned], laidTests := true, laidLooks := .later }
def FnUndoneUptoCardSaid : Prop := Claim7.holds Tryz.pinned (.plain (OpenSpec.upto fnUndoneSpec)) fnUndoneUptoCard
end Rows
end Go.Proofs.YtddiiceaindlhaaGreatDoor
