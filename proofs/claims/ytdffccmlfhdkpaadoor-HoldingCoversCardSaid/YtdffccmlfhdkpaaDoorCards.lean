/-
  DERIVED. GIVEN WITH THE SEED: THE CARDS: each row of YtdffccmlfhdkpaaDoorRows.lean that lists a variable, with what it lists TIED to the program's text (the seventh form; the later family's looks); each row that meets fmt, with fmt's text TOLD by the authors' own Lean function (tested against real Go, not proved from fmt's source: count such statements apart). THE CARD IS WHAT COUNTS. Prove the row's statement (the work); the ties are given (YtdffccmlfhdkpaaDoorTie.lean); close each card by the builder's one call (the guide's Derived/Test/ToyasCard.lean, 'card_holds'). Laid BY PROGRAM, IN A SANDBOX (cutbox-door.mjs). By AI agents, Wed Nov 11 2026. No macro, syntax, notation, axiom, sorry.
-/
import Derived.Test.YtdffccmlfhdkpaaDoorRows
import GoSem.ClaimSeven
namespace Go.Proofs.YtdffccmlfhdkpaaDoor
namespace Rows

/-- THE TIED CARD OF 'librarylaw17.HoldingRights'. -/
def holdingRightsCard : Claim7 := { stood := { row := holdingRightsRow, standIns := [], harness := (true, "44b0c33072ac15764533a85a85debb84fa255ec77f70923a2a268f224b70b77b"), looks := true }, kinds := [], alts := [], laidByText := true, laidKinds := [.data, .data, .data, .data, .sentinel, .sentinel, .pinned], laidTests := true, laidLooks := .later }
def HoldingRightsCardSaid : Prop := Claim7.holds Tryd.pinned (.plain (OpenSpec.ofChange holdingRightsSpec)) holdingRightsCard

/-- THE TIED CARD OF 'librarylaw17.HoldingParses'. -/
def holdingParsesCard : Claim7 := { stood := { row := holdingParsesRow, standIns := [], harness := (true, "44b0c33072ac15764533a85a85debb84fa255ec77f70923a2a268f224b70b77b"), looks := true }, kinds := [], alts := [], laidByText := true, laidKinds := [.data, .data, .data, .data, .sentinel, .sentinel, .pinned], laidTests := true, laidLooks := .later }
def HoldingParsesCardSaid : Prop := Claim7.holds Tryd.pinned (.plain (OpenSpec.ofChange holdingParsesSpec)) holdingParsesCard

/-- THE TIED CARD OF 'librarylaw17.HoldingAsks'. -/
def holdingAsksCard : Claim7 := { stood := { row := holdingAsksRow, standIns := [], harness := (true, "44b0c33072ac15764533a85a85debb84fa255ec77f70923a2a268f224b70b77b"), looks := true }, kinds := [], alts := [], laidByText := true, laidKinds := [.data, .data, .data, .data, .sentinel, .sentinel, .pinned], laidTests := true, laidLooks := .later }
def HoldingAsksCardSaid : Prop := Claim7.holds Tryd.pinned (.plain (OpenSpec.ofChange holdingAsksSpec)) holdingAsksCard

/-- THE TIED CARD OF 'librarylaw17.HoldingRestores'. -/
def holdingRestoresCard : Claim7 := { stood := { row := holdingRestoresRow, standIns := [], harness := (true, "44b0c33072ac15764533a85a85debb84fa255ec77f70923a2a268f224b70b77b"), looks := true }, kinds := [], alts := [], laidByText := true, laidKinds := [.data, .data, .data, .data, .sentinel, .sentinel, .pinned], laidTests := true, laidLooks := .later }
def HoldingRestoresCardSaid : Prop := Claim7.holds Tryd.pinned (.plain (OpenSpec.ofChange holdingRestoresSpec)) holdingRestoresCard

/-- THE TIED CARD OF 'librarylaw17.HoldingCounts'. -/
def holdingCountsCard : Claim7 := { stood := { row := holdingCountsRow, standIns := [], harness := (true, "44b0c33072ac15764533a85a85debb84fa255ec77f70923a2a268f224b70b77b"), looks := true }, kinds := [], alts := [], laidByText := true, laidKinds := [.data, .data, .data, .data, .sentinel, .sentinel, .pinned], laidTests := true, laidLooks := .later }
def HoldingCountsCardSaid : Prop := Claim7.holds Tryd.pinned (.plain (OpenSpec.ofChange holdingCountsSpec)) holdingCountsCard

/-- THE TIED CARD OF 'librarylaw17.HoldingChanges'. -/
def holdingChangesCard : Claim7 := { stood := { row := holdingChangesRow, standIns := [], harness := (true, "44b0c33072ac15764533a85a85debb84fa255ec77f70923a2a268f224b70b77b"), looks := true }, kinds := [], alts := [], laidByText := true, laidKinds := [.data, .data, .data, .data, .sentinel, .sentinel, .pinned], laidTests := true, laidLooks := .later }
def HoldingChangesCardSaid : Prop := Claim7.holds Tryd.pinned (.plain (OpenSpec.ofChange holdingChangesSpec)) holdingChangesCard

/-- THE TIED CARD OF 'librarylaw17.HoldingUnions'. -/
def holdingUnionsCard : Claim7 := { stood := { row := holdingUnionsRow, standIns := [], harness := (true, "44b0c33072ac15764533a85a85debb84fa255ec77f70923a2a268f224b70b77b"), looks := true }, kinds := [], alts := [], laidByText := true, laidKinds := [.data, .data, .data, .data, .sentinel, .sentinel, .pinned], laidTests := true, laidLooks := .later }
def HoldingUnionsCardSaid : Prop := Claim7.holds Tryd.pinned (.plain (OpenSpec.ofChange holdingUnionsSpec)) holdingUnionsCard

/-- THE TIED CARD OF 'librarylaw17.HoldingCovers'. -/
def holdingCoversCard : Claim7 := { stood := { row := holdingCoversRow, standIns := [], harness := (true, "44b0c33072ac15764533a85a85debb84fa255ec77f70923a2a268f224b70b77b"), looks := true }, kinds := [], alts := [], laidByText := true, laidKinds := [.data, .data, .data, .data, .sentinel, .sentinel, .pinned], laidTests := true, laidLooks := .later }
def HoldingCoversCardSaid : Prop := Claim7.holds Tryd.pinned (.plain (OpenSpec.ofChange holdingCoversSpec)) holdingCoversCard

/-- THE SECOND FORM's CARD OF 'librarylaw17.HoldingRights'. -/
def holdingRightsUptoCard : Claim7 := { stood := { row := holdingRightsUptoRow, standIns := [], harness := (true, "44b0c33072ac15764533a85a85debb84fa255ec77f70923a2a268f224b70b77b"), looks := true }, kinds := [], alts := [], laidByText := true, laidKinds := [.data, .data, .data, .data, .sentinel, .sentinel, .pinned], laidTests := true, laidLooks := .later }
def HoldingRightsUptoCardSaid : Prop := Claim7.holds Tryd.pinned (.plain (OpenSpec.upto holdingRightsSpec)) holdingRightsUptoCard

/-- THE SECOND FORM's CARD OF 'librarylaw17.HoldingParses'. -/
def holdingParsesUptoCard : Claim7 := { stood := { row := holdingParsesUptoRow, standIns := [], harness := (true, "44b0c33072ac15764533a85a85debb84fa255ec77f70923a2a268f224b70b77b"), looks := true }, kinds := [], alts := [], laidByText := true, laidKinds := [.data, .data, .data, .data, .sentinel, .sentinel, .pinned], laidTests := true, laidLooks := .later }
def HoldingParsesUptoCardSaid : Prop := Claim7.holds Tryd.pinned (.plain (OpenSpec.upto holdingParsesSpec)) holdingParsesUptoCard

/-- THE SECOND FORM's CARD OF 'librarylaw17.HoldingAsks'. -/
def holdingAsksUptoCard : Claim7 := { stood := { row := holdingAsksUptoRow, standIns := [], harness := (true, "44b0c33072ac15764533a85a85debb84fa255ec77f70923a2a268f224b70b77b"), looks := true }, kinds := [], alts := [], laidByText := true, laidKinds := [.data, .data, .data, .data, .sentinel, .sentinel, .pinned], laidTests := true, laidLooks := .later }
def HoldingAsksUptoCardSaid : Prop := Claim7.holds Tryd.pinned (.plain (OpenSpec.upto holdingAsksSpec)) holdingAsksUptoCard

/-- THE SECOND FORM's CARD OF 'librarylaw17.HoldingRestores'. -/
def holdingRestoresUptoCard : Claim7 := { stood := { row := holdingRestoresUptoRow, standIns := [], harness := (true, "44b0c33072ac15764533a85a85debb84fa255ec77f70923a2a268f224b70b77b"), looks := true }, kinds := [], alts := [], laidByText := true, laidKinds := [.data, .data, .data, .data, .sentinel, .sentinel, .pinned], laidTests := true, laidLooks := .later }
def HoldingRestoresUptoCardSaid : Prop := Claim7.holds Tryd.pinned (.plain (OpenSpec.upto holdingRestoresSpec)) holdingRestoresUptoCard

/-- THE SECOND FORM's CARD OF 'librarylaw17.HoldingCounts'. -/
def holdingCountsUptoCard : Claim7 := { stood := { row := holdingCountsUptoRow, standIns := [], harness := (true, "44b0c33072ac15764533a85a85debb84fa255ec77f70923a2a268f224b70b77b"), looks := true }, kinds := [], alts := [], laidByText := true, laidKinds := [.data, .data, .data, .data, .sentinel, .sentinel, .pinned], laidTests := true, laidLooks := .later }
def HoldingCountsUptoCardSaid : Prop := Claim7.holds Tryd.pinned (.plain (OpenSpec.upto holdingCountsSpec)) holdingCountsUptoCard

/-- THE SECOND FORM's CARD OF 'librarylaw17.HoldingChanges'. -/
def holdingChangesUptoCard : Claim7 := { stood := { row := holdingChangesUptoRow, standIns := [], harness := (true, "44b0c33072ac15764533a85a85debb84fa255ec77f70923a2a268f224b70b77b"), looks := true }, kinds := [], alts := [], laidByText := true, laidKinds := [.data, .data, .data, .data, .sentinel, .sentinel, .pinned], laidTests := true, laidLooks := .later }
def HoldingChangesUptoCardSaid : Prop := Claim7.holds Tryd.pinned (.plain (OpenSpec.upto holdingChangesSpec)) holdingChangesUptoCard

/-- THE SECOND FORM's CARD OF 'librarylaw17.HoldingUnions'. -/
def holdingUnionsUptoCard : Claim7 := { stood := { row := holdingUnionsUptoRow, standIns := [], harness := (true, "44b0c33072ac15764533a85a85debb84fa255ec77f70923a2a268f224b70b77b"), looks := true }, kinds := [], alts := [], laidByText := true, laidKinds := [.data, .data, .data, .data, .sentinel, .sentinel, .pinned], laidTests := true, laidLooks := .later }
def HoldingUnionsUptoCardSaid : Prop := Claim7.holds Tryd.pinned (.plain (OpenSpec.upto holdingUnionsSpec)) holdingUnionsUptoCard

/-- THE SECOND FORM's CARD OF 'librarylaw17.HoldingCovers'. -/
def holdingCoversUptoCard : Claim7 := { stood := { row := holdingCoversUptoRow, standIns := [], harness := (true, "44b0c33072ac15764533a85a85debb84fa255ec77f70923a2a268f224b70b77b"), looks := true }, kinds := [], alts := [], laidByText := true, laidKinds := [.data, .data, .data, .data, .sentinel, .sentinel, .pinned], laidTests := true, laidLooks := .later }
def HoldingCoversUptoCardSaid : Prop := Claim7.holds Tryd.pinned (.plain (OpenSpec.upto holdingCoversSpec)) holdingCoversUptoCard
end Rows
end Go.Proofs.YtdffccmlfhdkpaaDoor
