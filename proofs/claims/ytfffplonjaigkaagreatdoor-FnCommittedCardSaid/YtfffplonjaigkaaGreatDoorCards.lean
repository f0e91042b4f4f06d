/-
  DERIVED. GIVEN WITH THE SEED: THE CARDS: each row of YtfffplonjaigkaaGreatDoorRows.lean that lists a variable, with what it lists TIED to the program's text (the seventh form; the later family's looks); each row that meets fmt, with fmt's text TOLD by the authors' own Lean function (tested against real Go, not proved from fmt's source: count such statements apart). THE CARD IS WHAT COUNTS. Prove the row's statement (the work); the ties are given (YtfffplonjaigkaaGreatDoorTie.lean); close each card by the builder's one call (the guide's Derived/Test/ToyasCard.lean, 'card_holds'). Laid BY PROGRAM, IN A SANDBOX (cutbox-door.mjs). By AI agents, Wed Nov 11 2026. No macro, syntax, notation, axiom, sorry.
-/
import Derived.Test.YtfffplonjaigkaaGreatDoorRows
import GoSem.ClaimSeven
namespace Go.Proofs.YtfffplonjaigkaaGreatDoor
namespace Rows

/-- THE TIED CARD OF 'laws.FnExactLca'. -/
def fnExactLcaCard : Claim7 := { stood := { row := fnExactLcaRow, standIns := [], harness := (true, "3df18ce65db2ec6abd064d86937202fad6f2fdd72f98117125e5f68d33591263"), looks := true }, kinds := [], alts := [], laidByText := true, laidKinds := [.data, .data, .data, .data, .sentinel, .sentinel, .pinned], laidTests := true, laidLooks := .later }
def FnExactLcaCardSaid : Prop := Claim7.holds Tryz.pinned (.plain (OpenSpec.ofChange fnExactLcaSpec)) fnExactLcaCard

/-- THE TIED CARD OF 'laws.FnLca'. -/
def fnLcaCard : Claim7 := { stood := { row := fnLcaRow, standIns := [], harness := (true, "3df18ce65db2ec6abd064d86937202fad6f2fdd72f98117125e5f68d33591263"), looks := true }, kinds := [], alts := [], laidByText := true, laidKinds := [.data, .data, .data, .data, .sentinel, .sentinel, .pinned], laidTests := true, laidLooks := .later }
def FnLcaCardSaid : Prop := Claim7.holds Tryz.pinned (.plain (OpenSpec.ofChange fnLcaSpec)) fnLcaCard

/-- THE TIED CARD OF 'laws.FnExactAbove'. -/
def fnExactAboveCard : Claim7 := { stood := { row := fnExactAboveRow, standIns := [], harness := (true, "3df18ce65db2ec6abd064d86937202fad6f2fdd72f98117125e5f68d33591263"), looks := true }, kinds := [], alts := [], laidByText := true, laidKinds := [.data, .data, .data, .data, .sentinel, .sentinel, .pinned], laidTests := true, laidLooks := .later }
def FnExactAboveCardSaid : Prop := Claim7.holds Tryz.pinned (.plain (OpenSpec.ofChange fnExactAboveSpec)) fnExactAboveCard

/-- THE TIED CARD OF 'laws.FnCommitted'. -/
def fnCommittedCard : Claim7 := { stood := { row := fnCommittedRow, standIns := [], harness := (true, "3df18ce65db2ec6abd064d86937202fad6f2fdd72f98117125e5f68d33591263"), looks := true }, kinds := [], alts := [], laidByText := true, laidKinds := [.data, .data, .data, .data, .sentinel, .sentinel, .pinned], laidTests := true, laidLooks := .later }
def FnCommittedCardSaid : Prop := Claim7.holds Tryz.pinned (.plain (OpenSpec.ofChange fnCommittedSpec)) fnCommittedCard

/-- THE TIED CARD OF 'laws.FnSwept'. -/
def fnSweptCard : Claim7 := { stood := { row := fnSweptRow, standIns := [], harness := (true, "3df18ce65db2ec6abd064d86937202fad6f2fdd72f98117125e5f68d33591263"), looks := true }, kinds := [], alts := [], laidByText := true, laidKinds := [.data, .data, .data, .data, .sentinel, .sentinel, .pinned], laidTests := true, laidLooks := .later }
def FnSweptCardSaid : Prop := Claim7.holds Tryz.pinned (.plain (OpenSpec.ofChange fnSweptSpec)) fnSweptCard

/-- THE TIED CARD OF 'laws.FnMergedIn'. -/
def fnMergedInCard : Claim7 := { stood := { row := fnMergedInRow, standIns := [], harness := (true, "3df18ce65db2ec6abd064d86937202fad6f2fdd72f98117125e5f68d33591263"), looks := true }, kinds := [], alts := [], laidByText := true, laidKinds := [.data, .data, .data, .data, .sentinel, .sentinel, .pinned], laidTests := true, laidLooks := .later }
def FnMergedInCardSaid : Prop := Claim7.holds Tryz.pinned (.plain (OpenSpec.ofChange fnMergedInSpec)) fnMergedInCard

/-- THE TIED CARD OF 'laws.FnExactCommitted'. -/
def fnExactCommittedCard : Claim7 := { stood := { row := fnExactCommittedRow, standIns := [], harness := (true, "3df18ce65db2ec6abd064d86937202fad6f2fdd72f98117125e5f68d33591263"), looks := true }, kinds := [], alts := [], laidByText := true, laidKinds := [.data, .data, .data, .data, .sentinel, .sentinel, .pinned], laidTests := true, laidLooks := .later }
def FnExactCommittedCardSaid : Prop := Claim7.holds Tryz.pinned (.plain (OpenSpec.ofChange fnExactCommittedSpec)) fnExactCommittedCard

/-- THE TIED CARD OF 'laws.FnExactBranched'. -/
def fnExactBranchedCard : Claim7 := { stood := { row := fnExactBranchedRow, standIns := [], harness := (true, "3df18ce65db2ec6abd064d86937202fad6f2fdd72f98117125e5f68d33591263"), looks := true }, kinds := [], alts := [], laidByText := true, laidKinds := [.data, .data, .data, .data, .sentinel, .sentinel, .pinned], laidTests := true, laidLooks := .later }
def FnExactBranchedCardSaid : Prop := Claim7.holds Tryz.pinned (.plain (OpenSpec.ofChange fnExactBranchedSpec)) fnExactBranchedCard

/-- THE TIED CARD OF 'laws.FnExactSwept'. -/
def fnExactSweptCard : Claim7 := { stood := { row := fnExactSweptRow, standIns := [], harness := (true, "3df18ce65db2ec6abd064d86937202fad6f2fdd72f98117125e5f68d33591263"), looks := true }, kinds := [], alts := [], laidByText := true, laidKinds := [.data, .data, .data, .data, .sentinel, .sentinel, .pinned], laidTests := true, laidLooks := .later }
def FnExactSweptCardSaid : Prop := Claim7.holds Tryz.pinned (.plain (OpenSpec.ofChange fnExactSweptSpec)) fnExactSweptCard

/-- THE TIED CARD OF 'laws.FnExactMergedIn'. -/
def fnExactMergedInCard : Claim7 := { stood := { row := fnExactMergedInRow, standIns := [], harness := (true, "3df18ce65db2ec6abd064d86937202fad6f2fdd72f98117125e5f68d33591263"), looks := true }, kinds := [], alts := [], laidByText := true, laidKinds := [.data, .data, .data, .data, .sentinel, .sentinel, .pinned], laidTests := true, laidLooks := .later }
def FnExactMergedInCardSaid : Prop := Claim7.holds Tryz.pinned (.plain (OpenSpec.ofChange fnExactMergedInSpec)) fnExactMergedInCard

/-- THE TIED CARD OF 'laws.FnDagTexts'. -/
def fnDagTextsCard : Claim7 := { stood := { row := fnDagTextsRow, standIns := [], harness := (true, "3df18ce65db2ec6abd064d86937202fad6f2fdd72f98117125e5f68d33591263"), looks := true }, kinds := [], alts := [], laidByText := true, laidKinds := [.data, .data, .data, .data, .sentinel, .sentinel, .pinned], laidTests := true, laidLooks := .later }
def FnDagTextsCardSaid : Prop := Claim7.holds Tryz.pinned (.plain (OpenSpec.ofChange fnDagTextsSpec)) fnDagTextsCard

/-- THE SECOND FORM's CARD OF 'laws.FnExactLca'. -/
def fnExactLcaUptoCard : Claim7 := { stood := { row := fnExactLcaUptoRow, standIns := [], harness := (true, "3df18ce65db2ec6abd064d86937202fad6f2fdd72f98117125e5f68d33591263"), looks := true }, kinds := [], alts := [], laidByText := true, laidKinds := [.data, .data, .data, .data, .sentinel, .sentinel, .pinned], laidTests := true, laidLooks := .later }
def FnExactLcaUptoCardSaid : Prop := Claim7.holds Tryz.pinned (.plain (OpenSpec.upto fnExactLcaSpec)) fnExactLcaUptoCard

/-- THE SECOND FORM's CARD OF 'laws.FnLca'. -/
def fnLcaUptoCard : Claim7 := { stood := { row := fnLcaUptoRow, standIns := [], harness := (true, "3df18ce65db2ec6abd064d86937202fad6f2fdd72f98117125e5f68d33591263"), looks := true }, kinds := [], alts := [], laidByText := true, laidKinds := [.data, .data, .data, .data, .sentinel, .sentinel, .pinned], laidTests := true, laidLooks := .later }
def FnLcaUptoCardSaid : Prop := Claim7.holds Tryz.pinned (.plain (OpenSpec.upto fnLcaSpec)) fnLcaUptoCard

/-- THE SECOND FORM's CARD OF 'laws.FnExactAbove'. -/
def fnExactAboveUptoCard : Claim7 := { stood := { row := fnExactAboveUptoRow, standIns := [], harness := (true, "3df18ce65db2ec6abd064d86937202fad6f2fdd72f98117125e5f68d33591263"), looks := true }, kinds := [], alts := [], laidByText := true, laidKinds := [.data, .data, .data, .data, .sentinel, .sentinel, .pinned], laidTests := true, laidLooks := .later }
def FnExactAboveUptoCardSaid : Prop := Claim7.holds Tryz.pinned (.plain (OpenSpec.upto fnExactAboveSpec)) fnExactAboveUptoCard

/-- THE SECOND FORM's CARD OF 'laws.FnCommitted'. -/
def fnCommittedUptoCard : Claim7 := { stood := { row := fnCommittedUptoRow, standIns := [], harness := (true, "3df18ce65db2ec6abd064d86937202fad6f2fdd72f98117125e5f68d33591263"), looks := true }, kinds := [], alts := [], laidByText := true, laidKinds := [.data, .data, .data, .data, .sentinel, .sentinel, .pinned], laidTests := true, laidLooks := .later }
def FnCommittedUptoCardSaid : Prop := Claim7.holds Tryz.pinned (.plain (OpenSpec.upto fnCommittedSpec)) fnCommittedUptoCard

/-- THE SECOND FORM's CARD OF 'laws.FnSwept'. -/
def fnSweptUptoCard : Claim7 := { stood := { row := fnSweptUptoRow, standIns := [], harness := (true, "3df18ce65db2ec6abd064d86937202fad6f2fdd72f98117125e5f68d33591263"), looks := true }, kinds := [], alts := [], laidByText := true, laidKinds := [.data, .data, .data, .data, .sentinel, .sentinel, .pinned], laidTests := true, laidLooks := .later }
def FnSweptUptoCardSaid : Prop := Claim7.holds Tryz.pinned (.plain (OpenSpec.upto fnSweptSpec)) fnSweptUptoCard

/-- THE SECOND FORM's CARD OF 'laws.FnMergedIn'. -/
def fnMergedInUptoCard : Claim7 := { stood := { row := fnMergedInUptoRow, standIns := [], harness := (true, "3df18ce65db2ec6abd064d86937202fad6f2fdd72f98117125e5f68d33591263"), looks := true }, kinds := [], alts := [], laidByText := true, laidKinds := [.data, .data, .data, .data, .sentinel, .sentinel, .pinned], laidTests := true, laidLooks := .later }
def FnMergedInUptoCardSaid : Prop := Claim7.holds Tryz.pinned (.plain (OpenSpec.upto fnMergedInSpec)) fnMergedInUptoCard

/-- THE SECOND FORM's CARD OF 'laws.FnExactCommitted'. -/
def fnExactCommittedUptoCard : Claim7 := { stood := { row := fnExactCommittedUptoRow, standIns := [], harness := (true, "3df18ce65db2ec6abd064d86937202fad6f2fdd72f98117125e5f68d33591263"), looks := true }, kinds := [], alts := [], laidByText := true, laidKinds := [.data, .data, .data, .data, .sentinel, .sentinel, .pinned], laidTests := true, laidLooks := .later }
def FnExactCommittedUptoCardSaid : Prop := Claim7.holds Tryz.pinned (.plain (OpenSpec.upto fnExactCommittedSpec)) fnExactCommittedUptoCard

/-- THE SECOND FORM's CARD OF 'laws.FnExactBranched'. -/
def fnExactBranchedUptoCard : Claim7 := { stood := { row := fnExactBranchedUptoRow, standIns := [], harness := (true, "3df18ce65db2ec6abd064d86937202fad6f2fdd72f98117125e5f68d33591263"), looks := true }, kinds := [], alts := [], laidByText := true, laidKinds := [.data, .data, .data, .data, .sentinel, .sentinel, .pinned], laidTests := true, laidLooks := .later }
def FnExactBranchedUptoCardSaid : Prop := Claim7.holds Tryz.pinned (.plain (OpenSpec.upto fnExactBranchedSpec)) fnExactBranchedUptoCard

/-- THE SECOND FORM's CARD OF 'laws.FnExactSwept'. -/
def fnExactSweptUptoCard : Claim7 := { stood := { row := fnExactSweptUptoRow, standIns := [], harness := (true, "3df18ce65db2ec6abd064d86937202fad6f2fdd72f98117125e5f68d33591263"), looks := true }, kinds := [], alts := [], laidByText := true, laidKinds := [.data, .data, .data, .data, .sentinel, .sentinel, .pinned], laidTests := true, laidLooks := .later }
def FnExactSweptUptoCardSaid : Prop := Claim7.holds Tryz.pinned (.plain (OpenSpec.upto fnExactSweptSpec)) fnExactSweptUptoCard

/-- THE SECOND FORM's CARD OF 'laws.FnExactMergedIn'. -/
def fnExactMergedInUptoCard : Claim7 := { stood := { row := fnExactMergedInUptoRow, standIns := [], harness := (true, "3df18ce65db2ec6abd064d86937202fad6f2fdd72f98117125e5f68d33591263"), looks := true }, kinds := [], alts := [], laidByText := true, laidKinds := [.data, .data, .data, .data, .sentinel, .sentinel, .pinned], laidTests := true, laidLooks := .later }
def FnExactMergedInUptoCardSaid : Prop := Claim7.holds Tryz.pinned (.plain (OpenSpec.upto fnExactMergedInSpec)) fnExactMergedInUptoCard

/-- THE SECOND FORM's CARD OF 'laws.FnDagTexts'. -/
def fnDagTextsUptoCard : Claim7 := { stood := { row := fnDagTextsUptoRow, standIns := [], harness := (true, "3df18ce65db2ec6abd064d86937202fad6f2fdd72f98117125e5f68d33591263"), looks := true }, kinds := [], alts := [], laidByText := true, laidKinds := [.data, .data, .data, .data, .sentinel, .sentinel, .pinned], laidTests := true, laidLooks := .later }
def FnDagTextsUptoCardSaid : Prop := Claim7.holds Tryz.pinned (.plain (OpenSpec.upto fnDagTextsSpec)) fnDagTextsUptoCard
end Rows
end Go.Proofs.YtfffplonjaigkaaGreatDoor
