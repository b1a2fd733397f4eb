/-
  DERIVED. GIVEN WITH THE SEED: THE CARDS: each row of YthpgkpcnajookaaGreatDoorRows.lean that lists a variable, with what it lists TIED to the program's text (the seventh form; the later family's looks); each row that meets fmt, with fmt's text TOLD by the authors' own Lean function (tested against real Go, not proved from fmt's source: count such statements apart). THE CARD IS WHAT COUNTS. Prove the row's statement (the work); the ties are given (YthpgkpcnajookaaGreatDoorTie.lean); close each card by the builder's one call (the guide's Derived/Test/ToyasCard.lean, 'card_holds'). Laid BY PROGRAM, IN A SANDBOX (cutbox-door.mjs). By AI agents, Wed Nov 11 2026. No macro, syntax, notation, axiom, sorry.
-/
import Derived.Test.YthpgkpcnajookaaGreatDoorRows
import GoSem.ClaimSeven
namespace Go.Proofs.YthpgkpcnajookaaGreatDoor
namespace Rows

/-- THE TIED CARD OF 'librarylaw44.BagRights'. -/
def bagRightsCard : Claim7 := { stood := { row := bagRightsRow, standIns := [], harness := (true, "cbf1f34f6a1f45495539d1b7b154e78a66778a5bd0fe6d28c31fe5858576f5a3"), looks := true }, kinds := [], alts := [], laidByText := true, laidKinds := [.data, .data, .data, .data, .sentinel, .sentinel, .pinned], laidTests := true, laidLooks := .later }
def BagRightsCardSaid : Prop := Claim7.holds Tryz.pinned (.plain (OpenSpec.ofChange bagRightsSpec)) bagRightsCard

/-- THE TIED CARD OF 'librarylaw44.BagManifests'. -/
def bagManifestsCard : Claim7 := { stood := { row := bagManifestsRow, standIns := [], harness := (true, "cbf1f34f6a1f45495539d1b7b154e78a66778a5bd0fe6d28c31fe5858576f5a3"), looks := true }, kinds := [], alts := [], laidByText := true, laidKinds := [.data, .data, .data, .data, .sentinel, .sentinel, .pinned], laidTests := true, laidLooks := .later }
def BagManifestsCardSaid : Prop := Claim7.holds Tryz.pinned (.plain (OpenSpec.ofChange bagManifestsSpec)) bagManifestsCard

/-- THE TIED CARD OF 'librarylaw44.BagVerifies'. -/
def bagVerifiesCard : Claim7 := { stood := { row := bagVerifiesRow, standIns := [], harness := (true, "cbf1f34f6a1f45495539d1b7b154e78a66778a5bd0fe6d28c31fe5858576f5a3"), looks := true }, kinds := [], alts := [], laidByText := true, laidKinds := [.data, .data, .data, .data, .sentinel, .sentinel, .pinned], laidTests := true, laidLooks := .later }
def BagVerifiesCardSaid : Prop := Claim7.holds Tryz.pinned (.plain (OpenSpec.ofChange bagVerifiesSpec)) bagVerifiesCard

/-- THE TIED CARD OF 'librarylaw44.BagPacks'. -/
def bagPacksCard : Claim7 := { stood := { row := bagPacksRow, standIns := [], harness := (true, "cbf1f34f6a1f45495539d1b7b154e78a66778a5bd0fe6d28c31fe5858576f5a3"), looks := true }, kinds := [], alts := [], laidByText := true, laidKinds := [.data, .data, .data, .data, .sentinel, .sentinel, .pinned], laidTests := true, laidLooks := .later }
def BagPacksCardSaid : Prop := Claim7.holds Tryz.pinned (.plain (OpenSpec.ofChange bagPacksSpec)) bagPacksCard

/-- THE TIED CARD OF 'librarylaw44.BagUnpacks'. -/
def bagUnpacksCard : Claim7 := { stood := { row := bagUnpacksRow, standIns := [], harness := (true, "cbf1f34f6a1f45495539d1b7b154e78a66778a5bd0fe6d28c31fe5858576f5a3"), looks := true }, kinds := [], alts := [], laidByText := true, laidKinds := [.data, .data, .data, .data, .sentinel, .sentinel, .pinned], laidTests := true, laidLooks := .later }
def BagUnpacksCardSaid : Prop := Claim7.holds Tryz.pinned (.plain (OpenSpec.ofChange bagUnpacksSpec)) bagUnpacksCard

/-- THE TIED CARD OF 'librarylaw44.BagRestores'. -/
def bagRestoresCard : Claim7 := { stood := { row := bagRestoresRow, standIns := [], harness := (true, "cbf1f34f6a1f45495539d1b7b154e78a66778a5bd0fe6d28c31fe5858576f5a3"), looks := true }, kinds := [], alts := [], laidByText := true, laidKinds := [.data, .data, .data, .data, .sentinel, .sentinel, .pinned], laidTests := true, laidLooks := .later }
def BagRestoresCardSaid : Prop := Claim7.holds Tryz.pinned (.plain (OpenSpec.ofChange bagRestoresSpec)) bagRestoresCard

/-- THE TIED CARD OF 'librarylaw44.BagFinds'. -/
def bagFindsCard : Claim7 := { stood := { row := bagFindsRow, standIns := [], harness := (true, "cbf1f34f6a1f45495539d1b7b154e78a66778a5bd0fe6d28c31fe5858576f5a3"), looks := true }, kinds := [], alts := [], laidByText := true, laidKinds := [.data, .data, .data, .data, .sentinel, .sentinel, .pinned], laidTests := true, laidLooks := .later }
def BagFindsCardSaid : Prop := Claim7.holds Tryz.pinned (.plain (OpenSpec.ofChange bagFindsSpec)) bagFindsCard

/-- THE TIED CARD OF 'librarylaw44.BagDetects'. -/
def bagDetectsCard : Claim7 := { stood := { row := bagDetectsRow, standIns := [], harness := (true, "cbf1f34f6a1f45495539d1b7b154e78a66778a5bd0fe6d28c31fe5858576f5a3"), looks := true }, kinds := [], alts := [], laidByText := true, laidKinds := [.data, .data, .data, .data, .sentinel, .sentinel, .pinned], laidTests := true, laidLooks := .later }
def BagDetectsCardSaid : Prop := Claim7.holds Tryz.pinned (.plain (OpenSpec.ofChange bagDetectsSpec)) bagDetectsCard

/-- THE SECOND FORM's CARD OF 'librarylaw44.BagRights'. -/
def bagRightsUptoCard : Claim7 := { stood := { row := bagRightsUptoRow, standIns := [], harness := (true, "cbf1f34f6a1f45495539d1b7b154e78a66778a5bd0fe6d28c31fe5858576f5a3"), looks := true }, kinds := [], alts := [], laidByText := true, laidKinds := [.data, .data, .data, .data, .sentinel, .sentinel, .pinned], laidTests := true, laidLooks := .later }
def BagRightsUptoCardSaid : Prop := Claim7.holds Tryz.pinned (.plain (OpenSpec.upto bagRightsSpec)) bagRightsUptoCard

/-- THE SECOND FORM's CARD OF 'librarylaw44.BagManifests'. -/
def bagManifestsUptoCard : Claim7 := { stood := { row := bagManifestsUptoRow, standIns := [], harness := (true, "cbf1f34f6a1f45495539d1b7b154e78a66778a5bd0fe6d28c31fe5858576f5a3"), looks := true }, kinds := [], alts := [], laidByText := true, laidKinds := [.data, .data, .data, .data, .sentinel, .sentinel, .pinned], laidTests := true, laidLooks := .later }
def BagManifestsUptoCardSaid : Prop := Claim7.holds Tryz.pinned (.plain (OpenSpec.upto bagManifestsSpec)) bagManifestsUptoCard

/-- THE SECOND FORM's CARD OF 'librarylaw44.BagVerifies'. -/
def bagVerifiesUptoCard : Claim7 := { stood := { row := bagVerifiesUptoRow, standIns := [], harness := (true, "cbf1f34f6a1f45495539d1b7b154e78a66778a5bd0fe6d28c31fe5858576f5a3"), looks := true }, kinds := [], alts := [], laidByText := true, laidKinds := [.data, .data, .data, .data, .sentinel, .sentinel, .pinned], laidTests := true, laidLooks := .later }
def BagVerifiesUptoCardSaid : Prop := Claim7.holds Tryz.pinned (.plain (OpenSpec.upto bagVerifiesSpec)) bagVerifiesUptoCard

/-- THE SECOND FORM's CARD OF 'librarylaw44.BagPacks'. -/
def bagPacksUptoCard : Claim7 := { stood := { row := bagPacksUptoRow, standIns := [], harness := (true, "cbf1f34f6a1f45495539d1b7b154e78a66778a5bd0fe6d28c31fe5858576f5a3"), looks := true }, kinds := [], alts := [], laidByText := true, laidKinds := [.data, .data, .data, .data, .sentinel, .sentinel, .pinned], laidTests := true, laidLooks := .later }
def BagPacksUptoCardSaid : Prop := Claim7.holds Tryz.pinned (.plain (OpenSpec.upto bagPacksSpec)) bagPacksUptoCard

/-- THE SECOND FORM's CARD OF 'librarylaw44.BagUnpacks'. -/
def bagUnpacksUptoCard : Claim7 := { stood := { row := bagUnpacksUptoRow, standIns := [], harness := (true, "cbf1f34f6a1f45495539d1b7b154e78a66778a5bd0fe6d28c31fe5858576f5a3"), looks := true }, kinds := [], alts := [], laidByText := true, laidKinds := [.data, .data, .data, .data, .sentinel, .sentinel, .pinned], laidTests := true, laidLooks := .later }
def BagUnpacksUptoCardSaid : Prop := Claim7.holds Tryz.pinned (.plain (OpenSpec.upto bagUnpacksSpec)) bagUnpacksUptoCard

/-- THE SECOND FORM's CARD OF 'librarylaw44.BagRestores'. -/
def bagRestoresUptoCard : Claim7 := { stood := { row := bagRestoresUptoRow, standIns := [], harness := (true, "cbf1f34f6a1f45495539d1b7b154e78a66778a5bd0fe6d28c31fe5858576f5a3"), looks := true }, kinds := [], alts := [], laidByText := true, laidKinds := [.data, .data, .data, .data, .sentinel, .sentinel, .pinned], laidTests := true, laidLooks := .later }
def BagRestoresUptoCardSaid : Prop := Claim7.holds Tryz.pinned (.plain (OpenSpec.upto bagRestoresSpec)) bagRestoresUptoCard

/-- THE SECOND FORM's CARD OF 'librarylaw44.BagFinds'. -/
def bagFindsUptoCard : Claim7 := { stood := { row := bagFindsUptoRow, standIns := [], harness := (true, "cbf1f34f6a1f45495539d1b7b154e78a66778a5bd0fe6d28c31fe5858576f5a3"), looks := true }, kinds := [], alts := [], laidByText := true, laidKinds := [.data, .data, .data, .data, .sentinel, .sentinel, .pinned], laidTests := true, laidLooks := .later }
def BagFindsUptoCardSaid : Prop := Claim7.holds Tryz.pinned (.plain (OpenSpec.upto bagFindsSpec)) bagFindsUptoCard

/-- THE SECOND FORM's CARD OF 'librarylaw44.BagDetects'. -/
def bagDetectsUptoCard : Claim7 := { stood := { row := bagDetectsUptoRow, standIns := [], harness := (true, "cbf1f34f6a1f45495539d1b7b154e78a66778a5bd0fe6d28c31fe5858576f5a3"), looks := true }, kinds := [], alts := [], laidByText := true, laidKinds := [.data, .data, .data, .data, .sentinel, .sentinel, .pinned], laidTests := true, laidLooks := .later }
def BagDetectsUptoCardSaid : Prop := Claim7.holds Tryz.pinned (.plain (OpenSpec.upto bagDetectsSpec)) bagDetectsUptoCard
end Rows
end Go.Proofs.YthpgkpcnajookaaGreatDoor
