/-
  DERIVED. GIVEN WITH THE SEED: THE CARDS: each row of YtlgdcfelfifgfaaDoorRows.lean that lists a variable, with what it lists TIED to the program's text (the seventh form; the later family's looks); each row that meets fmt, with fmt's text TOLD by the authors' own Lean function (tested against real Go, not proved from fmt's source: count such statements apart). THE CARD IS WHAT COUNTS. Prove the row's statement (the work); the ties are given (YtlgdcfelfifgfaaDoorTie.lean); close each card by the builder's one call (the guide's Derived/Test/ToyasCard.lean, 'card_holds'). Laid BY PROGRAM, IN A SANDBOX (cutbox-door.mjs). By AI agents, Wed Nov 11 2026. No macro, syntax, notation, axiom, sorry.
-/
import Derived.Test.YtlgdcfelfifgfaaDoorRows
import GoSem.ClaimSeven
namespace Go.Proofs.YtlgdcfelfifgfaaDoor
namespace Rows

/-- THE TIED CARD OF 'librarylaw06.DigestSums'. -/
def digestSumsCard : Claim7 := { stood := { row := digestSumsRow, standIns := [], harness := (true, "fd2095e6972aa2106d83689f706e8c23cb69a12e791effe8c2384f534e8283ea"), looks := false }, kinds := [], alts := [], laidByText := true, laidKinds := [.data, .data, .data, .data, .pinned], laidTests := true, laidLooks := .later }
def DigestSumsCardSaid : Prop := Claim7.holds Tryd.pinned (.plain (OpenSpec.ofChange digestSumsSpec)) digestSumsCard

/-- THE TIED CARD OF 'librarylaw06.DigestRight'. -/
def digestRightCard : Claim7 := { stood := { row := digestRightRow, standIns := [], harness := (true, "fd2095e6972aa2106d83689f706e8c23cb69a12e791effe8c2384f534e8283ea"), looks := false }, kinds := [], alts := [], laidByText := true, laidKinds := [.data, .data, .data, .data, .pinned], laidTests := true, laidLooks := .later }
def DigestRightCardSaid : Prop := Claim7.holds Tryd.pinned (.plain (OpenSpec.ofChange digestRightSpec)) digestRightCard

/-- THE TIED CARD OF 'librarylaw06.DigestRoots'. -/
def digestRootsCard : Claim7 := { stood := { row := digestRootsRow, standIns := [], harness := (true, "fd2095e6972aa2106d83689f706e8c23cb69a12e791effe8c2384f534e8283ea"), looks := false }, kinds := [], alts := [], laidByText := true, laidKinds := [.data, .data, .data, .data, .pinned], laidTests := true, laidLooks := .later }
def DigestRootsCardSaid : Prop := Claim7.holds Tryd.pinned (.plain (OpenSpec.ofChange digestRootsSpec)) digestRootsCard

/-- THE TIED CARD OF 'librarylaw06.DigestProofs'. -/
def digestProofsCard : Claim7 := { stood := { row := digestProofsRow, standIns := [], harness := (true, "fd2095e6972aa2106d83689f706e8c23cb69a12e791effe8c2384f534e8283ea"), looks := false }, kinds := [], alts := [], laidByText := true, laidKinds := [.data, .data, .data, .data, .pinned], laidTests := true, laidLooks := .later }
def DigestProofsCardSaid : Prop := Claim7.holds Tryd.pinned (.plain (OpenSpec.ofChange digestProofsSpec)) digestProofsCard

/-- THE TIED CARD OF 'librarylaw06.DigestChecks'. -/
def digestChecksCard : Claim7 := { stood := { row := digestChecksRow, standIns := [], harness := (true, "fd2095e6972aa2106d83689f706e8c23cb69a12e791effe8c2384f534e8283ea"), looks := false }, kinds := [], alts := [], laidByText := true, laidKinds := [.data, .data, .data, .data, .pinned], laidTests := true, laidLooks := .later }
def DigestChecksCardSaid : Prop := Claim7.holds Tryd.pinned (.plain (OpenSpec.ofChange digestChecksSpec)) digestChecksCard

/-- THE TIED CARD OF 'librarylaw06.DigestProves'. -/
def digestProvesCard : Claim7 := { stood := { row := digestProvesRow, standIns := [], harness := (true, "fd2095e6972aa2106d83689f706e8c23cb69a12e791effe8c2384f534e8283ea"), looks := false }, kinds := [], alts := [], laidByText := true, laidKinds := [.data, .data, .data, .data, .pinned], laidTests := true, laidLooks := .later }
def DigestProvesCardSaid : Prop := Claim7.holds Tryd.pinned (.plain (OpenSpec.ofChange digestProvesSpec)) digestProvesCard

/-- THE TIED CARD OF 'librarylaw06.DigestLength'. -/
def digestLengthCard : Claim7 := { stood := { row := digestLengthRow, standIns := [], harness := (true, "fd2095e6972aa2106d83689f706e8c23cb69a12e791effe8c2384f534e8283ea"), looks := false }, kinds := [], alts := [], laidByText := true, laidKinds := [.data, .data, .data, .data, .pinned], laidTests := true, laidLooks := .later }
def DigestLengthCardSaid : Prop := Claim7.holds Tryd.pinned (.plain (OpenSpec.ofChange digestLengthSpec)) digestLengthCard

/-- THE SECOND FORM's CARD OF 'librarylaw06.DigestSums'. -/
def digestSumsUptoCard : Claim7 := { stood := { row := digestSumsUptoRow, standIns := [], harness := (true, "fd2095e6972aa2106d83689f706e8c23cb69a12e791effe8c2384f534e8283ea"), looks := false }, kinds := [], alts := [], laidByText := true, laidKinds := [.data, .data, .data, .data, .pinned], laidTests := true, laidLooks := .later }
def DigestSumsUptoCardSaid : Prop := Claim7.holds Tryd.pinned (.plain (OpenSpec.upto digestSumsSpec)) digestSumsUptoCard

/-- THE SECOND FORM's CARD OF 'librarylaw06.DigestRight'. -/
def digestRightUptoCard : Claim7 := { stood := { row := digestRightUptoRow, standIns := [], harness := (true, "fd2095e6972aa2106d83689f706e8c23cb69a12e791effe8c2384f534e8283ea"), looks := false }, kinds := [], alts := [], laidByText := true, laidKinds := [.data, .data, .data, .data, .pinned], laidTests := true, laidLooks := .later }
def DigestRightUptoCardSaid : Prop := Claim7.holds Tryd.pinned (.plain (OpenSpec.upto digestRightSpec)) digestRightUptoCard

/-- THE SECOND FORM's CARD OF 'librarylaw06.DigestRoots'. -/
def digestRootsUptoCard : Claim7 := { stood := { row := digestRootsUptoRow, standIns := [], harness := (true, "fd2095e6972aa2106d83689f706e8c23cb69a12e791effe8c2384f534e8283ea"), looks := false }, kinds := [], alts := [], laidByText := true, laidKinds := [.data, .data, .data, .data, .pinned], laidTests := true, laidLooks := .later }
def DigestRootsUptoCardSaid : Prop := Claim7.holds Tryd.pinned (.plain (OpenSpec.upto digestRootsSpec)) digestRootsUptoCard

/-- THE SECOND FORM's CARD OF 'librarylaw06.DigestProofs'. -/
def digestProofsUptoCard : Claim7 := { stood := { row := digestProofsUptoRow, standIns := [], harness := (true, "fd2095e6972aa2106d83689f706e8c23cb69a12e791effe8c2384f534e8283ea"), looks := false }, kinds := [], alts := [], laidByText := true, laidKinds := [.data, .data, .data, .data, .pinned], laidTests := true, laidLooks := .later }
def DigestProofsUptoCardSaid : Prop := Claim7.holds Tryd.pinned (.plain (OpenSpec.upto digestProofsSpec)) digestProofsUptoCard

/-- THE SECOND FORM's CARD OF 'librarylaw06.DigestChecks'. -/
def digestChecksUptoCard : Claim7 := { stood := { row := digestChecksUptoRow, standIns := [], harness := (true, "fd2095e6972aa2106d83689f706e8c23cb69a12e791effe8c2384f534e8283ea"), looks := false }, kinds := [], alts := [], laidByText := true, laidKinds := [.data, .data, .data, .data, .pinned], laidTests := true, laidLooks := .later }
def DigestChecksUptoCardSaid : Prop := Claim7.holds Tryd.pinned (.plain (OpenSpec.upto digestChecksSpec)) digestChecksUptoCard

/-- THE SECOND FORM's CARD OF 'librarylaw06.DigestProves'. -/
def digestProvesUptoCard : Claim7 := { stood := { row := digestProvesUptoRow, standIns := [], harness := (true, "fd2095e6972aa2106d83689f706e8c23cb69a12e791effe8c2384f534e8283ea"), looks := false }, kinds := [], alts := [], laidByText := true, laidKinds := [.data, .data, .data, .data, .pinned], laidTests := true, laidLooks := .later }
def DigestProvesUptoCardSaid : Prop := Claim7.holds Tryd.pinned (.plain (OpenSpec.upto digestProvesSpec)) digestProvesUptoCard

/-- THE SECOND FORM's CARD OF 'librarylaw06.DigestLength'. -/
def digestLengthUptoCard : Claim7 := { stood := { row := digestLengthUptoRow, standIns := [], harness := (true, "fd2095e6972aa2106d83689f706e8c23cb69a12e791effe8c2384f534e8283ea"), looks := false }, kinds := [], alts := [], laidByText := true, laidKinds := [.data, .data, .data, .data, .pinned], laidTests := true, laidLooks := .later }
def DigestLengthUptoCardSaid : Prop := Claim7.holds Tryd.pinned (.plain (OpenSpec.upto digestLengthSpec)) digestLengthUptoCard
end Rows
end Go.Proofs.YtlgdcfelfifgfaaDoor
