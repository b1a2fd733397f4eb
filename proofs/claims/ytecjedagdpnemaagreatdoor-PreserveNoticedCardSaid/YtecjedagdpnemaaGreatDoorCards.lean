/-
  DERIVED. GIVEN WITH THE SEED: THE CARDS: each row of YtecjedagdpnemaaGreatDoorRows.lean that lists a variable, with what it lists TIED to the program's text (the seventh form; the later family's looks); each row that meets fmt, with fmt's text TOLD by the authors' own Lean function (tested against real Go, not proved from fmt's source: count such statements apart). THE CARD IS WHAT COUNTS. Prove the row's statement (the work); the ties are given (YtecjedagdpnemaaGreatDoorTie.lean); close each card by the builder's one call (the guide's Derived/Test/ToyasCard.lean, 'card_holds'). Laid BY PROGRAM, IN A SANDBOX (cutbox-door.mjs). By AI agents, Wed Nov 11 2026. No macro, syntax, notation, axiom, sorry.
-/
import Derived.Test.YtecjedagdpnemaaGreatDoorRows
import GoSem.ClaimSeven
namespace Go.Proofs.YtecjedagdpnemaaGreatDoor
namespace Rows

/-- THE TIED CARD OF 'librarylaw47.PreserveIngests'. -/
def preserveIngestsCard : Claim7 := { stood := { row := preserveIngestsRow, standIns := [], harness := (true, "fa61bd97178246edc04bfe7c7a9144f066c5e16ef681176da35ac7b6b2b59701"), looks := false }, kinds := [], alts := [], laidByText := true, laidKinds := [.data, .data, .data, .data, .pinned], laidTests := true, laidLooks := .later }
def PreserveIngestsCardSaid : Prop := Claim7.holds Tryz.pinned (.plain (OpenSpec.ofChange preserveIngestsSpec)) preserveIngestsCard

/-- THE TIED CARD OF 'librarylaw47.PreserveChecks'. -/
def preserveChecksCard : Claim7 := { stood := { row := preserveChecksRow, standIns := [], harness := (true, "fa61bd97178246edc04bfe7c7a9144f066c5e16ef681176da35ac7b6b2b59701"), looks := false }, kinds := [], alts := [], laidByText := true, laidKinds := [.data, .data, .data, .data, .pinned], laidTests := true, laidLooks := .later }
def PreserveChecksCardSaid : Prop := Claim7.holds Tryz.pinned (.plain (OpenSpec.ofChange preserveChecksSpec)) preserveChecksCard

/-- THE TIED CARD OF 'librarylaw47.PreserveMigrates'. -/
def preserveMigratesCard : Claim7 := { stood := { row := preserveMigratesRow, standIns := [], harness := (true, "fa61bd97178246edc04bfe7c7a9144f066c5e16ef681176da35ac7b6b2b59701"), looks := false }, kinds := [], alts := [], laidByText := true, laidKinds := [.data, .data, .data, .data, .pinned], laidTests := true, laidLooks := .later }
def PreserveMigratesCardSaid : Prop := Claim7.holds Tryz.pinned (.plain (OpenSpec.ofChange preserveMigratesSpec)) preserveMigratesCard

/-- THE TIED CARD OF 'librarylaw47.PreserveDamages'. -/
def preserveDamagesCard : Claim7 := { stood := { row := preserveDamagesRow, standIns := [], harness := (true, "fa61bd97178246edc04bfe7c7a9144f066c5e16ef681176da35ac7b6b2b59701"), looks := false }, kinds := [], alts := [], laidByText := true, laidKinds := [.data, .data, .data, .data, .pinned], laidTests := true, laidLooks := .later }
def PreserveDamagesCardSaid : Prop := Claim7.holds Tryz.pinned (.plain (OpenSpec.ofChange preserveDamagesSpec)) preserveDamagesCard

/-- THE TIED CARD OF 'librarylaw47.PreserveRepairs'. -/
def preserveRepairsCard : Claim7 := { stood := { row := preserveRepairsRow, standIns := [], harness := (true, "fa61bd97178246edc04bfe7c7a9144f066c5e16ef681176da35ac7b6b2b59701"), looks := false }, kinds := [], alts := [], laidByText := true, laidKinds := [.data, .data, .data, .data, .pinned], laidTests := true, laidLooks := .later }
def PreserveRepairsCardSaid : Prop := Claim7.holds Tryz.pinned (.plain (OpenSpec.ofChange preserveRepairsSpec)) preserveRepairsCard

/-- THE TIED CARD OF 'librarylaw47.PreserveRestores'. -/
def preserveRestoresCard : Claim7 := { stood := { row := preserveRestoresRow, standIns := [], harness := (true, "fa61bd97178246edc04bfe7c7a9144f066c5e16ef681176da35ac7b6b2b59701"), looks := false }, kinds := [], alts := [], laidByText := true, laidKinds := [.data, .data, .data, .data, .pinned], laidTests := true, laidLooks := .later }
def PreserveRestoresCardSaid : Prop := Claim7.holds Tryz.pinned (.plain (OpenSpec.ofChange preserveRestoresSpec)) preserveRestoresCard

/-- THE TIED CARD OF 'librarylaw47.PreserveNoticed'. -/
def preserveNoticedCard : Claim7 := { stood := { row := preserveNoticedRow, standIns := [], harness := (true, "fa61bd97178246edc04bfe7c7a9144f066c5e16ef681176da35ac7b6b2b59701"), looks := false }, kinds := [], alts := [], laidByText := true, laidKinds := [.data, .data, .data, .data, .pinned], laidTests := true, laidLooks := .later }
def PreserveNoticedCardSaid : Prop := Claim7.holds Tryz.pinned (.plain (OpenSpec.ofChange preserveNoticedSpec)) preserveNoticedCard

/-- THE SECOND FORM's CARD OF 'librarylaw47.PreserveIngests'. -/
def preserveIngestsUptoCard : Claim7 := { stood := { row := preserveIngestsUptoRow, standIns := [], harness := (true, "fa61bd97178246edc04bfe7c7a9144f066c5e16ef681176da35ac7b6b2b59701"), looks := false }, kinds := [], alts := [], laidByText := true, laidKinds := [.data, .data, .data, .data, .pinned], laidTests := true, laidLooks := .later }
def PreserveIngestsUptoCardSaid : Prop := Claim7.holds Tryz.pinned (.plain (OpenSpec.upto preserveIngestsSpec)) preserveIngestsUptoCard

/-- THE SECOND FORM's CARD OF 'librarylaw47.PreserveChecks'. -/
def preserveChecksUptoCard : Claim7 := { stood := { row := preserveChecksUptoRow, standIns := [], harness := (true, "fa61bd97178246edc04bfe7c7a9144f066c5e16ef681176da35ac7b6b2b59701"), looks := false }, kinds := [], alts := [], laidByText := true, laidKinds := [.data, .data, .data, .data, .pinned], laidTests := true, laidLooks := .later }
def PreserveChecksUptoCardSaid : Prop := Claim7.holds Tryz.pinned (.plain (OpenSpec.upto preserveChecksSpec)) preserveChecksUptoCard

/-- THE SECOND FORM's CARD OF 'librarylaw47.PreserveMigrates'. -/
def preserveMigratesUptoCard : Claim7 := { stood := { row := preserveMigratesUptoRow, standIns := [], harness := (true, "fa61bd97178246edc04bfe7c7a9144f066c5e16ef681176da35ac7b6b2b59701"), looks := false }, kinds := [], alts := [], laidByText := true, laidKinds := [.data, .data, .data, .data, .pinned], laidTests := true, laidLooks := .later }
def PreserveMigratesUptoCardSaid : Prop := Claim7.holds Tryz.pinned (.plain (OpenSpec.upto preserveMigratesSpec)) preserveMigratesUptoCard

/-- THE SECOND FORM's CARD OF 'librarylaw47.PreserveDamages'. -/
def preserveDamagesUptoCard : Claim7 := { stood := { row := preserveDamagesUptoRow, standIns := [], harness := (true, "fa61bd97178246edc04bfe7c7a9144f066c5e16ef681176da35ac7b6b2b59701"), looks := false }, kinds := [], alts := [], laidByText := true, laidKinds := [.data, .data, .data, .data, .pinned], laidTests := true, laidLooks := .later }
def PreserveDamagesUptoCardSaid : Prop := Claim7.holds Tryz.pinned (.plain (OpenSpec.upto preserveDamagesSpec)) preserveDamagesUptoCard

/-- THE SECOND FORM's CARD OF 'librarylaw47.PreserveRepairs'. -/
def preserveRepairsUptoCard : Claim7 := { stood := { row := preserveRepairsUptoRow, standIns := [], harness := (true, "fa61bd97178246edc04bfe7c7a9144f066c5e16ef681176da35ac7b6b2b59701"), looks := false }, kinds := [], alts := [], laidByText := true, laidKinds := [.data, .data, .data, .data, .pinned], laidTests := true, laidLooks := .later }
def PreserveRepairsUptoCardSaid : Prop := Claim7.holds Tryz.pinned (.plain (OpenSpec.upto preserveRepairsSpec)) preserveRepairsUptoCard

/-- THE SECOND FORM's CARD OF 'librarylaw47.PreserveRestores'. -/
def preserveRestoresUptoCard : Claim7 := { stood := { row := preserveRestoresUptoRow, standIns := [], harness := (true, "fa61bd97178246edc04bfe7c7a9144f066c5e16ef681176da35ac7b6b2b59701"), looks := false }, kinds := [], alts := [], laidByText := true, laidKinds := [.data, .data, .data, .data, .pinned], laidTests := true, laidLooks := .later }
def PreserveRestoresUptoCardSaid : Prop := Claim7.holds Tryz.pinned (.plain (OpenSpec.upto preserveRestoresSpec)) preserveRestoresUptoCard

/-- THE SECOND FORM's CARD OF 'librarylaw47.PreserveNoticed'. -/
def preserveNoticedUptoCard : Claim7 := { stood := { row := preserveNoticedUptoRow, standIns := [], harness := (true, "fa61bd97178246edc04bfe7c7a9144f066c5e16ef681176da35ac7b6b2b59701"), looks := false }, kinds := [], alts := [], laidByText := true, laidKinds := [.data, .data, .data, .data, .pinned], laidTests := true, laidLooks := .later }
def PreserveNoticedUptoCardSaid : Prop := Claim7.holds Tryz.pinned (.plain (OpenSpec.upto preserveNoticedSpec)) preserveNoticedUptoCard
end Rows
end Go.Proofs.YtecjedagdpnemaaGreatDoor
