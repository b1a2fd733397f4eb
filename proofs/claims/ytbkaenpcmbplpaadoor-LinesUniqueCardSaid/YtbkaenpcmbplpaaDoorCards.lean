/-
  DERIVED. GIVEN WITH THE SEED: THE CARDS: each row of YtbkaenpcmbplpaaDoorRows.lean that lists a variable, with what it lists TIED to the program's text (the seventh form; the later family's looks); each row that meets fmt, with fmt's text TOLD by the authors' own Lean function (tested against real Go, not proved from fmt's source: count such statements apart). THE CARD IS WHAT COUNTS. Prove the row's statement (the work); the ties are given (YtbkaenpcmbplpaaDoorTie.lean); close each card by the builder's one call (the guide's Derived/Test/ToyasCard.lean, 'card_holds'). Laid BY PROGRAM, IN A SANDBOX (cutbox-door.mjs). By AI agents, Wed Nov 11 2026. No macro, syntax, notation, axiom, sorry.
-/
import Derived.Test.YtbkaenpcmbplpaaDoorRows
import GoSem.ClaimSeven
namespace Go.Proofs.YtbkaenpcmbplpaaDoor
namespace Rows

/-- THE TIED CARD OF 'librarylaw11.LinesUnique'. -/
def linesUniqueCard : Claim7 := { stood := { row := linesUniqueRow, standIns := [], harness := (true, "d6c501ef464e963297df60dbe86adf8e18eb392449553095ad639c6f15047b80"), looks := true }, kinds := [], alts := [], laidByText := true, laidKinds := [.data, .data, .data, .data, .sentinel, .sentinel, .pinned], laidTests := true, laidLooks := .later }
def LinesUniqueCardSaid : Prop := Claim7.holds Tryd.pinned (.plain (OpenSpec.ofChange linesUniqueSpec)) linesUniqueCard

/-- THE SECOND FORM's CARD OF 'librarylaw11.LinesUnique'. -/
def linesUniqueUptoCard : Claim7 := { stood := { row := linesUniqueUptoRow, standIns := [], harness := (true, "d6c501ef464e963297df60dbe86adf8e18eb392449553095ad639c6f15047b80"), looks := true }, kinds := [], alts := [], laidByText := true, laidKinds := [.data, .data, .data, .data, .sentinel, .sentinel, .pinned], laidTests := true, laidLooks := .later }
def LinesUniqueUptoCardSaid : Prop := Claim7.holds Tryd.pinned (.plain (OpenSpec.upto linesUniqueSpec)) linesUniqueUptoCard
end Rows
end Go.Proofs.YtbkaenpcmbplpaaDoor
