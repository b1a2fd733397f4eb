/-
  DERIVED. GIVEN WITH THE SEED: THE CARDS: each row of YtnhjoplleldbfaaDoorRows.lean that lists a variable, with what it lists TIED to the program's text (the seventh form; the later family's looks); each row that meets fmt, with fmt's text TOLD by the authors' own Lean function (tested against real Go, not proved from fmt's source: count such statements apart). THE CARD IS WHAT COUNTS. Prove the row's statement (the work); the ties are given (YtnhjoplleldbfaaDoorTie.lean); close each card by the builder's one call (the guide's Derived/Test/ToyasCard.lean, 'card_holds'). Laid BY PROGRAM, IN A SANDBOX (cutbox-door.mjs). By AI agents, Wed Nov 11 2026. No macro, syntax, notation, axiom, sorry.
-/
import Derived.Test.YtnhjoplleldbfaaDoorRows
import GoSem.ClaimSeven
namespace Go.Proofs.YtnhjoplleldbfaaDoor
namespace Rows

/-- THE TIED CARD OF 'librarylaw10.ExchangeEncodes'. -/
def exchangeEncodesCard : Claim7 := { stood := { row := exchangeEncodesRow, standIns := [], harness := (true, "8fe7882998dc804936f41846cec1288902ca43fcde3e1b2b01064d23065f0a84"), looks := true }, kinds := [], alts := [], laidByText := true, laidKinds := [.data, .data, .data, .data, .pinned], laidTests := true, laidLooks := .later }
def ExchangeEncodesCardSaid : Prop := Claim7.holds Tryd.pinned (.plain (OpenSpec.ofChange exchangeEncodesSpec)) exchangeEncodesCard

/-- THE TIED CARD OF 'librarylaw10.ExchangeOne'. -/
def exchangeOneCard : Claim7 := { stood := { row := exchangeOneRow, standIns := [], harness := (true, "8fe7882998dc804936f41846cec1288902ca43fcde3e1b2b01064d23065f0a84"), looks := true }, kinds := [], alts := [], laidByText := true, laidKinds := [.data, .data, .data, .data, .pinned], laidTests := true, laidLooks := .later }
def ExchangeOneCardSaid : Prop := Claim7.holds Tryd.pinned (.plain (OpenSpec.ofChange exchangeOneSpec)) exchangeOneCard

/-- THE TIED CARD OF 'librarylaw10.ExchangeExports'. -/
def exchangeExportsCard : Claim7 := { stood := { row := exchangeExportsRow, standIns := [], harness := (true, "8fe7882998dc804936f41846cec1288902ca43fcde3e1b2b01064d23065f0a84"), looks := true }, kinds := [], alts := [], laidByText := true, laidKinds := [.data, .data, .data, .data, .pinned], laidTests := true, laidLooks := .later }
def ExchangeExportsCardSaid : Prop := Claim7.holds Tryd.pinned (.plain (OpenSpec.ofChange exchangeExportsSpec)) exchangeExportsCard

/-- THE TIED CARD OF 'librarylaw10.ExchangeBack'. -/
def exchangeBackCard : Claim7 := { stood := { row := exchangeBackRow, standIns := [], harness := (true, "8fe7882998dc804936f41846cec1288902ca43fcde3e1b2b01064d23065f0a84"), looks := true }, kinds := [], alts := [], laidByText := true, laidKinds := [.data, .data, .data, .data, .pinned], laidTests := true, laidLooks := .later }
def ExchangeBackCardSaid : Prop := Claim7.holds Tryd.pinned (.plain (OpenSpec.ofChange exchangeBackSpec)) exchangeBackCard

/-- THE SECOND FORM's CARD OF 'librarylaw10.ExchangeEncodes'. -/
def exchangeEncodesUptoCard : Claim7 := { stood := { row := exchangeEncodesUptoRow, standIns := [], harness := (true, "8fe7882998dc804936f41846cec1288902ca43fcde3e1b2b01064d23065f0a84"), looks := true }, kinds := [], alts := [], laidByText := true, laidKinds := [.data, .data, .data, .data, .pinned], laidTests := true, laidLooks := .later }
def ExchangeEncodesUptoCardSaid : Prop := Claim7.holds Tryd.pinned (.plain (OpenSpec.upto exchangeEncodesSpec)) exchangeEncodesUptoCard

/-- THE SECOND FORM's CARD OF 'librarylaw10.ExchangeOne'. -/
def exchangeOneUptoCard : Claim7 := { stood := { row := exchangeOneUptoRow, standIns := [], harness := (true, "8fe7882998dc804936f41846cec1288902ca43fcde3e1b2b01064d23065f0a84"), looks := true }, kinds := [], alts := [], laidByText := true, laidKinds := [.data, .data, .data, .data, .pinned], laidTests := true, laidLooks := .later }
def ExchangeOneUptoCardSaid : Prop := Claim7.holds Tryd.pinned (.plain (OpenSpec.upto exchangeOneSpec)) exchangeOneUptoCard

/-- THE SECOND FORM's CARD OF 'librarylaw10.ExchangeExports'. -/
def exchangeExportsUptoCard : Claim7 := { stood := { row := exchangeExportsUptoRow, standIns := [], harness := (true, "8fe7882998dc804936f41846cec1288902ca43fcde3e1b2b01064d23065f0a84"), looks := true }, kinds := [], alts := [], laidByText := true, laidKinds := [.data, .data, .data, .data, .pinned], laidTests := true, laidLooks := .later }
def ExchangeExportsUptoCardSaid : Prop := Claim7.holds Tryd.pinned (.plain (OpenSpec.upto exchangeExportsSpec)) exchangeExportsUptoCard

/-- THE SECOND FORM's CARD OF 'librarylaw10.ExchangeBack'. -/
def exchangeBackUptoCard : Claim7 := { stood := { row := exchangeBackUptoRow, standIns := [], harness := (true, "8fe7882998dc804936f41846cec1288902ca43fcde3e1b2b01064d23065f0a84"), looks := true }, kinds := [], alts := [], laidByText := true, laidKinds := [.data, .data, .data, .data, .pinned], laidTests := true, laidLooks := .later }
def ExchangeBackUptoCardSaid : Prop := Claim7.holds Tryd.pinned (.plain (OpenSpec.upto exchangeBackSpec)) exchangeBackUptoCard
end Rows
end Go.Proofs.YtnhjoplleldbfaaDoor
