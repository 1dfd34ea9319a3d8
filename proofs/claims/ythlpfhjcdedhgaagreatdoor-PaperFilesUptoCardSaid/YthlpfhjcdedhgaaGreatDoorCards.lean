/-
  DERIVED. GIVEN WITH THE SEED: THE CARDS: each row of YthlpfhjcdedhgaaGreatDoorRows.lean that lists a variable, with what it lists TIED to the program's text (the seventh form; the later family's looks); each row that meets fmt, with fmt's text TOLD by the authors' own Lean function (tested against real Go, not proved from fmt's source: count such statements apart). THE CARD IS WHAT COUNTS. Prove the row's statement (the work); the ties are given (YthlpfhjcdedhgaaGreatDoorTie.lean); close each card by the builder's one call (the guide's Derived/Test/ToyasCard.lean, 'card_holds'). Laid BY PROGRAM, IN A SANDBOX (cutbox-door.mjs). By AI agents, Wed Nov 11 2026. No macro, syntax, notation, axiom, sorry.
-/
import Derived.Test.YthlpfhjcdedhgaaGreatDoorRows
import GoSem.ClaimSeven
namespace Go.Proofs.YthlpfhjcdedhgaaGreatDoor
namespace Rows

/-- THE TIED CARD OF 'granarylaw4.PaperMetas'. -/
def paperMetasCard : Claim7 := { stood := { row := paperMetasRow, standIns := [], harness := (true, "e431974c8d7a26a339731a7e37435a2e565701d9cb16669835d522178818869e"), looks := false }, kinds := [], alts := [], laidByText := true, laidKinds := [.data, .data, .data, .data, .data, .pinned], laidTests := true, laidLooks := .later }
def PaperMetasCardSaid : Prop := Claim7.holds Tryz.pinned (.plain (OpenSpec.ofChange paperMetasSpec)) paperMetasCard

/-- THE TIED CARD OF 'granarylaw4.PaperManifests'. -/
def paperManifestsCard : Claim7 := { stood := { row := paperManifestsRow, standIns := [], harness := (true, "e431974c8d7a26a339731a7e37435a2e565701d9cb16669835d522178818869e"), looks := false }, kinds := [], alts := [], laidByText := true, laidKinds := [.data, .data, .data, .data, .data, .data, .pinned], laidTests := true, laidLooks := .later }
def PaperManifestsCardSaid : Prop := Claim7.holds Tryz.pinned (.plain (OpenSpec.ofChange paperManifestsSpec)) paperManifestsCard

/-- THE TIED CARD OF 'granarylaw4.PaperBack'. -/
def paperBackCard : Claim7 := { stood := { row := paperBackRow, standIns := [], harness := (true, "e431974c8d7a26a339731a7e37435a2e565701d9cb16669835d522178818869e"), looks := false }, kinds := [], alts := [], laidByText := true, laidKinds := [.data, .data, .data, .data, .data, .pinned], laidTests := true, laidLooks := .later }
def PaperBackCardSaid : Prop := Claim7.holds Tryz.pinned (.plain (OpenSpec.ofChange paperBackSpec)) paperBackCard

/-- THE TIED CARD OF 'granarylaw4.PaperLists'. -/
def paperListsCard : Claim7 := { stood := { row := paperListsRow, standIns := [], harness := (true, "e431974c8d7a26a339731a7e37435a2e565701d9cb16669835d522178818869e"), looks := false }, kinds := [], alts := [], laidByText := true, laidKinds := [.data, .data, .data, .data, .data, .data, .pinned], laidTests := true, laidLooks := .later }
def PaperListsCardSaid : Prop := Claim7.holds Tryz.pinned (.plain (OpenSpec.ofChange paperListsSpec)) paperListsCard

/-- THE TIED CARD OF 'granarylaw4.PaperFiles'. -/
def paperFilesCard : Claim7 := { stood := { row := paperFilesRow, standIns := [], harness := (true, "e431974c8d7a26a339731a7e37435a2e565701d9cb16669835d522178818869e"), looks := false }, kinds := [], alts := [], laidByText := true, laidKinds := [.data, .data, .data, .data, .data, .data, .data, .data, .pinned], laidTests := true, laidLooks := .later }
def PaperFilesCardSaid : Prop := Claim7.holds Tryz.pinned (.plain (OpenSpec.ofChange paperFilesSpec)) paperFilesCard

/-- THE TIED CARD OF 'granarylaw4.PaperSame'. -/
def paperSameCard : Claim7 := { stood := { row := paperSameRow, standIns := [], harness := (true, "e431974c8d7a26a339731a7e37435a2e565701d9cb16669835d522178818869e"), looks := false }, kinds := [], alts := [], laidByText := true, laidKinds := [.data, .data, .data, .data, .data, .pinned], laidTests := true, laidLooks := .later }
def PaperSameCardSaid : Prop := Claim7.holds Tryz.pinned (.plain (OpenSpec.ofChange paperSameSpec)) paperSameCard

/-- THE TIED CARD OF 'granarylaw4.PaperSpoilt'. -/
def paperSpoiltCard : Claim7 := { stood := { row := paperSpoiltRow, standIns := [], harness := (true, "e431974c8d7a26a339731a7e37435a2e565701d9cb16669835d522178818869e"), looks := false }, kinds := [], alts := [], laidByText := true, laidKinds := [.data, .data, .data, .data, .data, .data, .data, .data, .pinned], laidTests := true, laidLooks := .later }
def PaperSpoiltCardSaid : Prop := Claim7.holds Tryz.pinned (.plain (OpenSpec.ofChange paperSpoiltSpec)) paperSpoiltCard

/-- THE SECOND FORM's CARD OF 'granarylaw4.PaperMetas'. -/
def paperMetasUptoCard : Claim7 := { stood := { row := paperMetasUptoRow, standIns := [], harness := (true, "e431974c8d7a26a339731a7e37435a2e565701d9cb16669835d522178818869e"), looks := false }, kinds := [], alts := [], laidByText := true, laidKinds := [.data, .data, .data, .data, .data, .pinned], laidTests := true, laidLooks := .later }
def PaperMetasUptoCardSaid : Prop := Claim7.holds Tryz.pinned (.plain (OpenSpec.upto paperMetasSpec)) paperMetasUptoCard

/-- THE SECOND FORM's CARD OF 'granarylaw4.PaperManifests'. -/
def paperManifestsUptoCard : Claim7 := { stood := { row := paperManifestsUptoRow, standIns := [], harness := (true, "e431974c8d7a26a339731a7e37435a2e565701d9cb16669835d522178818869e"), looks := false }, kinds := [], alts := [], laidByText := true, laidKinds := [.data, .data, .data, .data, .data, .data, .pinned], laidTests := true, laidLooks := .later }
def PaperManifestsUptoCardSaid : Prop := Claim7.holds Tryz.pinned (.plain (OpenSpec.upto paperManifestsSpec)) paperManifestsUptoCard

/-- THE SECOND FORM's CARD OF 'granarylaw4.PaperBack'. -/
def paperBackUptoCard : Claim7 := { stood := { row := paperBackUptoRow, standIns := [], harness := (true, "e431974c8d7a26a339731a7e37435a2e565701d9cb16669835d522178818869e"), looks := false }, kinds := [], alts := [], laidByText := true, laidKinds := [.data, .data, .data, .data, .data, .pinned], laidTests := true, laidLooks := .later }
def PaperBackUptoCardSaid : Prop := Claim7.holds Tryz.pinned (.plain (OpenSpec.upto paperBackSpec)) paperBackUptoCard

/-- THE SECOND FORM's CARD OF 'granarylaw4.PaperLists'. -/
def paperListsUptoCard : Claim7 := { stood := { row := paperListsUptoRow, standIns := [], harness := (true, "e431974c8d7a26a339731a7e37435a2e565701d9cb16669835d522178818869e"), looks := false }, kinds := [], alts := [], laidByText := true, laidKinds := [.data, .data, .data, .data, .data, .data, .pinned], laidTests := true, laidLooks := .later }
def PaperListsUptoCardSaid : Prop := Claim7.holds Tryz.pinned (.plain (OpenSpec.upto paperListsSpec)) paperListsUptoCard

/-- THE SECOND FORM's CARD OF 'granarylaw4.PaperFiles'. -/
def paperFilesUptoCard : Claim7 := { stood := { row := paperFilesUptoRow, standIns := [], harness := (true, "e431974c8d7a26a339731a7e37435a2e565701d9cb16669835d522178818869e"), looks := false }, kinds := [], alts := [], laidByText := true, laidKinds := [.data, .data, .data, .data, .data, .data, .data, .data, .pinned], laidTests := true, laidLooks := .later }
def PaperFilesUptoCardSaid : Prop := Claim7.holds Tryz.pinned (.plain (OpenSpec.upto paperFilesSpec)) paperFilesUptoCard

/-- THE SECOND FORM's CARD OF 'granarylaw4.PaperSame'. -/
def paperSameUptoCard : Claim7 := { stood := { row := paperSameUptoRow, standIns := [], harness := (true, "e431974c8d7a26a339731a7e37435a2e565701d9cb16669835d522178818869e"), looks := false }, kinds := [], alts := [], laidByText := true, laidKinds := [.data, .data, .data, .data, .data, .pinned], laidTests := true, laidLooks := .later }
def PaperSameUptoCardSaid : Prop := Claim7.holds Tryz.pinned (.plain (OpenSpec.upto paperSameSpec)) paperSameUptoCard

/-- THE SECOND FORM's CARD OF 'granarylaw4.PaperSpoilt'. -/
def paperSpoiltUptoCard : Claim7 := { stood := { row := paperSpoiltUptoRow, standIns := [], harness := (true, "e431974c8d7a26a339731a7e37435a2e565701d9cb16669835d522178818869e"), looks := false }, kinds := [], alts := [], laidByText := true, laidKinds := [.data, .data, .data, .data, .data, .data, .data, .data, .pinned], laidTests := true, laidLooks := .later }
def PaperSpoiltUptoCardSaid : Prop := Claim7.holds Tryz.pinned (.plain (OpenSpec.upto paperSpoiltSpec)) paperSpoiltUptoCard
end Rows
end Go.Proofs.YthlpfhjcdedhgaaGreatDoor
