/-
  DERIVED. GIVEN WITH THE SEED: THE CARDS: each row of YtbkaenpcmbplpaaGreatDoorRows.lean that lists a variable, with what it lists TIED to the program's text (the seventh form; the later family's looks); each row that meets fmt, with fmt's text TOLD by the authors' own Lean function (tested against real Go, not proved from fmt's source: count such statements apart). THE CARD IS WHAT COUNTS. Prove the row's statement (the work); the ties are given (YtbkaenpcmbplpaaGreatDoorTie.lean); close each card by the builder's one call (the guide's Derived/Test/ToyasCard.lean, 'card_holds'). Laid BY PROGRAM, IN A SANDBOX (cutbox-door.mjs). By AI agents, Wed Nov 11 2026. No macro, syntax, notation, axiom, sorry.
-/
import Derived.Test.YtbkaenpcmbplpaaGreatDoorRows
import GoSem.ClaimSeven
namespace Go.Proofs.YtbkaenpcmbplpaaGreatDoor
namespace Rows

/-- THE TIED CARD OF 'librarylaw11.LinesPrints'. -/
def linesPrintsCard : Claim7 := { stood := { row := linesPrintsRow, standIns := [], harness := (true, "e8b5953e4d45e2b08752ad35d7d39ac47ed6a7f6bc23950a39f6da2d34bc9197"), looks := true }, kinds := [], alts := [], laidByText := true, laidKinds := [.data, .data, .data, .data, .sentinel, .sentinel, .pinned], laidTests := true, laidLooks := .later }
def LinesPrintsCardSaid : Prop := Claim7.holds Tryz.pinned (.plain (OpenSpec.ofChange linesPrintsSpec)) linesPrintsCard

/-- THE TIED CARD OF 'librarylaw11.LinesParses'. -/
def linesParsesCard : Claim7 := { stood := { row := linesParsesRow, standIns := [], harness := (true, "e8b5953e4d45e2b08752ad35d7d39ac47ed6a7f6bc23950a39f6da2d34bc9197"), looks := true }, kinds := [], alts := [], laidByText := true, laidKinds := [.data, .data, .data, .data, .sentinel, .sentinel, .pinned], laidTests := true, laidLooks := .later }
def LinesParsesCardSaid : Prop := Claim7.holds Tryz.pinned (.plain (OpenSpec.ofChange linesParsesSpec)) linesParsesCard

/-- THE TIED CARD OF 'librarylaw11.LinesParseAlls'. -/
def linesParseAllsCard : Claim7 := { stood := { row := linesParseAllsRow, standIns := [], harness := (true, "e8b5953e4d45e2b08752ad35d7d39ac47ed6a7f6bc23950a39f6da2d34bc9197"), looks := true }, kinds := [], alts := [], laidByText := true, laidKinds := [.data, .data, .data, .data, .sentinel, .sentinel, .pinned], laidTests := true, laidLooks := .later }
def LinesParseAllsCardSaid : Prop := Claim7.holds Tryz.pinned (.plain (OpenSpec.ofChange linesParseAllsSpec)) linesParseAllsCard

/-- THE TIED CARD OF 'librarylaw11.LinesRestores'. -/
def linesRestoresCard : Claim7 := { stood := { row := linesRestoresRow, standIns := [], harness := (true, "e8b5953e4d45e2b08752ad35d7d39ac47ed6a7f6bc23950a39f6da2d34bc9197"), looks := true }, kinds := [], alts := [], laidByText := true, laidKinds := [.data, .data, .data, .data, .sentinel, .sentinel, .pinned], laidTests := true, laidLooks := .later }
def LinesRestoresCardSaid : Prop := Claim7.holds Tryz.pinned (.plain (OpenSpec.ofChange linesRestoresSpec)) linesRestoresCard

/-- THE TIED CARD OF 'librarylaw11.LinesPrintAlls'. -/
def linesPrintAllsCard : Claim7 := { stood := { row := linesPrintAllsRow, standIns := [], harness := (true, "e8b5953e4d45e2b08752ad35d7d39ac47ed6a7f6bc23950a39f6da2d34bc9197"), looks := true }, kinds := [], alts := [], laidByText := true, laidKinds := [.data, .data, .data, .data, .sentinel, .sentinel, .pinned], laidTests := true, laidLooks := .later }
def LinesPrintAllsCardSaid : Prop := Claim7.holds Tryz.pinned (.plain (OpenSpec.ofChange linesPrintAllsSpec)) linesPrintAllsCard

/-- THE TIED CARD OF 'librarylaw11.LinesJoins'. -/
def linesJoinsCard : Claim7 := { stood := { row := linesJoinsRow, standIns := [], harness := (true, "e8b5953e4d45e2b08752ad35d7d39ac47ed6a7f6bc23950a39f6da2d34bc9197"), looks := true }, kinds := [], alts := [], laidByText := true, laidKinds := [.data, .data, .data, .data, .sentinel, .sentinel, .pinned], laidTests := true, laidLooks := .later }
def LinesJoinsCardSaid : Prop := Claim7.holds Tryz.pinned (.plain (OpenSpec.ofChange linesJoinsSpec)) linesJoinsCard

/-- THE SECOND FORM's CARD OF 'librarylaw11.LinesPrints'. -/
def linesPrintsUptoCard : Claim7 := { stood := { row := linesPrintsUptoRow, standIns := [], harness := (true, "e8b5953e4d45e2b08752ad35d7d39ac47ed6a7f6bc23950a39f6da2d34bc9197"), looks := true }, kinds := [], alts := [], laidByText := true, laidKinds := [.data, .data, .data, .data, .sentinel, .sentinel, .pinned], laidTests := true, laidLooks := .later }
def LinesPrintsUptoCardSaid : Prop := Claim7.holds Tryz.pinned (.plain (OpenSpec.upto linesPrintsSpec)) linesPrintsUptoCard

/-- THE SECOND FORM's CARD OF 'librarylaw11.LinesParses'. -/
def linesParsesUptoCard : Claim7 := { stood := { row := linesParsesUptoRow, standIns := [], harness := (true, "e8b5953e4d45e2b08752ad35d7d39ac47ed6a7f6bc23950a39f6da2d34bc9197"), looks := true }, kinds := [], alts := [], laidByText := true, laidKinds := [.data, .data, .data, .data, .sentinel, .sentinel, .pinned], laidTests := true, laidLooks := .later }
def LinesParsesUptoCardSaid : Prop := Claim7.holds Tryz.pinned (.plain (OpenSpec.upto linesParsesSpec)) linesParsesUptoCard

/-- THE SECOND FORM's CARD OF 'librarylaw11.LinesParseAlls'. -/
def linesParseAllsUptoCard : Claim7 := { stood := { row := linesParseAllsUptoRow, standIns := [], harness := (true, "e8b5953e4d45e2b08752ad35d7d39ac47ed6a7f6bc23950a39f6da2d34bc9197"), looks := true }, kinds := [], alts := [], laidByText := true, laidKinds := [.data, .data, .data, .data, .sentinel, .sentinel, .pinned], laidTests := true, laidLooks := .later }
def LinesParseAllsUptoCardSaid : Prop := Claim7.holds Tryz.pinned (.plain (OpenSpec.upto linesParseAllsSpec)) linesParseAllsUptoCard

/-- THE SECOND FORM's CARD OF 'librarylaw11.LinesRestores'. -/
def linesRestoresUptoCard : Claim7 := { stood := { row := linesRestoresUptoRow, standIns := [], harness := (true, "e8b5953e4d45e2b08752ad35d7d39ac47ed6a7f6bc23950a39f6da2d34bc9197"), looks := true }, kinds := [], alts := [], laidByText := true, laidKinds := [.data, .data, .data, .data, .sentinel, .sentinel, .pinned], laidTests := true, laidLooks := .later }
def LinesRestoresUptoCardSaid : Prop := Claim7.holds Tryz.pinned (.plain (OpenSpec.upto linesRestoresSpec)) linesRestoresUptoCard

/-- THE SECOND FORM's CARD OF 'librarylaw11.LinesPrintAlls'. -/
def linesPrintAllsUptoCard : Claim7 := { stood := { row := linesPrintAllsUptoRow, standIns := [], harness := (true, "e8b5953e4d45e2b08752ad35d7d39ac47ed6a7f6bc23950a39f6da2d34bc9197"), looks := true }, kinds := [], alts := [], laidByText := true, laidKinds := [.data, .data, .data, .data, .sentinel, .sentinel, .pinned], laidTests := true, laidLooks := .later }
def LinesPrintAllsUptoCardSaid : Prop := Claim7.holds Tryz.pinned (.plain (OpenSpec.upto linesPrintAllsSpec)) linesPrintAllsUptoCard

/-- THE SECOND FORM's CARD OF 'librarylaw11.LinesJoins'. -/
def linesJoinsUptoCard : Claim7 := { stood := { row := linesJoinsUptoRow, standIns := [], harness := (true, "e8b5953e4d45e2b08752ad35d7d39ac47ed6a7f6bc23950a39f6da2d34bc9197"), looks := true }, kinds := [], alts := [], laidByText := true, laidKinds := [.data, .data, .data, .data, .sentinel, .sentinel, .pinned], laidTests := true, laidLooks := .later }
def LinesJoinsUptoCardSaid : Prop := Claim7.holds Tryz.pinned (.plain (OpenSpec.upto linesJoinsSpec)) linesJoinsUptoCard
end Rows
end Go.Proofs.YtbkaenpcmbplpaaGreatDoor
