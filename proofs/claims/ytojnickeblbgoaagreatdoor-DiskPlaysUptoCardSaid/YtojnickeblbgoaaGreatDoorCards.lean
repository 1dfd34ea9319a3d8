/-
  DERIVED. GIVEN WITH THE SEED: THE CARDS: each row of YtojnickeblbgoaaGreatDoorRows.lean that lists a variable, with what it lists TIED to the program's text (the seventh form; the later family's looks); each row that meets fmt, with fmt's text TOLD by the authors' own Lean function (tested against real Go, not proved from fmt's source: count such statements apart). THE CARD IS WHAT COUNTS. Prove the row's statement (the work); the ties are given (YtojnickeblbgoaaGreatDoorTie.lean); close each card by the builder's one call (the guide's Derived/Test/ToyasCard.lean, 'card_holds'). Laid BY PROGRAM, IN A SANDBOX (cutbox-door.mjs). By AI agents, Wed Nov 11 2026. No macro, syntax, notation, axiom, sorry.
-/
import Derived.Test.YtojnickeblbgoaaGreatDoorRows
import GoSem.ClaimSeven
namespace Go.Proofs.YtojnickeblbgoaaGreatDoor
namespace Rows

/-- THE TIED CARD OF 'granarylaw1.DiskPaths'. -/
def diskPathsCard : Claim7 := { stood := { row := diskPathsRow, standIns := [], harness := (true, "deea62f3d936d06ae8e801dc3ba1fc2a35927b9b1c7078cd50cc295beb6370af"), looks := false }, kinds := [], alts := [], laidByText := true, laidKinds := [.data, .pinned], laidTests := true, laidLooks := .later }
def DiskPathsCardSaid : Prop := Claim7.holds Tryz.pinned (.plain (OpenSpec.ofChange diskPathsSpec)) diskPathsCard

/-- THE TIED CARD OF 'granarylaw1.DiskWrites'. -/
def diskWritesCard : Claim7 := { stood := { row := diskWritesRow, standIns := [], harness := (true, "deea62f3d936d06ae8e801dc3ba1fc2a35927b9b1c7078cd50cc295beb6370af"), looks := false }, kinds := [], alts := [], laidByText := true, laidKinds := [.data, .pinned], laidTests := true, laidLooks := .later }
def DiskWritesCardSaid : Prop := Claim7.holds Tryz.pinned (.plain (OpenSpec.ofChange diskWritesSpec)) diskWritesCard

/-- THE TIED CARD OF 'granarylaw1.DiskLooks'. -/
def diskLooksCard : Claim7 := { stood := { row := diskLooksRow, standIns := [], harness := (true, "deea62f3d936d06ae8e801dc3ba1fc2a35927b9b1c7078cd50cc295beb6370af"), looks := false }, kinds := [], alts := [], laidByText := true, laidKinds := [.data, .pinned], laidTests := true, laidLooks := .later }
def DiskLooksCardSaid : Prop := Claim7.holds Tryz.pinned (.plain (OpenSpec.ofChange diskLooksSpec)) diskLooksCard

/-- THE TIED CARD OF 'granarylaw1.DiskCounts'. -/
def diskCountsCard : Claim7 := { stood := { row := diskCountsRow, standIns := [], harness := (true, "deea62f3d936d06ae8e801dc3ba1fc2a35927b9b1c7078cd50cc295beb6370af"), looks := false }, kinds := [], alts := [], laidByText := true, laidKinds := [.data, .pinned], laidTests := true, laidLooks := .later }
def DiskCountsCardSaid : Prop := Claim7.holds Tryz.pinned (.plain (OpenSpec.ofChange diskCountsSpec)) diskCountsCard

/-- THE TIED CARD OF 'granarylaw1.DiskCrashes'. -/
def diskCrashesCard : Claim7 := { stood := { row := diskCrashesRow, standIns := [], harness := (true, "deea62f3d936d06ae8e801dc3ba1fc2a35927b9b1c7078cd50cc295beb6370af"), looks := false }, kinds := [], alts := [], laidByText := true, laidKinds := [.data, .pinned], laidTests := true, laidLooks := .later }
def DiskCrashesCardSaid : Prop := Claim7.holds Tryz.pinned (.plain (OpenSpec.ofChange diskCrashesSpec)) diskCrashesCard

/-- THE TIED CARD OF 'granarylaw1.DiskPlays'. -/
def diskPlaysCard : Claim7 := { stood := { row := diskPlaysRow, standIns := [], harness := (true, "deea62f3d936d06ae8e801dc3ba1fc2a35927b9b1c7078cd50cc295beb6370af"), looks := false }, kinds := [], alts := [], laidByText := true, laidKinds := [.data, .pinned], laidTests := true, laidLooks := .later }
def DiskPlaysCardSaid : Prop := Claim7.holds Tryz.pinned (.plain (OpenSpec.ofChange diskPlaysSpec)) diskPlaysCard

/-- THE TIED CARD OF 'granarylaw1.DiskOwnLists'. -/
def diskOwnListsCard : Claim7 := { stood := { row := diskOwnListsRow, standIns := [], harness := (true, "deea62f3d936d06ae8e801dc3ba1fc2a35927b9b1c7078cd50cc295beb6370af"), looks := false }, kinds := [], alts := [], laidByText := true, laidKinds := [.data, .pinned], laidTests := true, laidLooks := .later }
def DiskOwnListsCardSaid : Prop := Claim7.holds Tryz.pinned (.plain (OpenSpec.ofChange diskOwnListsSpec)) diskOwnListsCard

/-- THE SECOND FORM's CARD OF 'granarylaw1.DiskPaths'. -/
def diskPathsUptoCard : Claim7 := { stood := { row := diskPathsUptoRow, standIns := [], harness := (true, "deea62f3d936d06ae8e801dc3ba1fc2a35927b9b1c7078cd50cc295beb6370af"), looks := false }, kinds := [], alts := [], laidByText := true, laidKinds := [.data, .pinned], laidTests := true, laidLooks := .later }
def DiskPathsUptoCardSaid : Prop := Claim7.holds Tryz.pinned (.plain (OpenSpec.upto diskPathsSpec)) diskPathsUptoCard

/-- THE SECOND FORM's CARD OF 'granarylaw1.DiskWrites'. -/
def diskWritesUptoCard : Claim7 := { stood := { row := diskWritesUptoRow, standIns := [], harness := (true, "deea62f3d936d06ae8e801dc3ba1fc2a35927b9b1c7078cd50cc295beb6370af"), looks := false }, kinds := [], alts := [], laidByText := true, laidKinds := [.data, .pinned], laidTests := true, laidLooks := .later }
def DiskWritesUptoCardSaid : Prop := Claim7.holds Tryz.pinned (.plain (OpenSpec.upto diskWritesSpec)) diskWritesUptoCard

/-- THE SECOND FORM's CARD OF 'granarylaw1.DiskLooks'. -/
def diskLooksUptoCard : Claim7 := { stood := { row := diskLooksUptoRow, standIns := [], harness := (true, "deea62f3d936d06ae8e801dc3ba1fc2a35927b9b1c7078cd50cc295beb6370af"), looks := false }, kinds := [], alts := [], laidByText := true, laidKinds := [.data, .pinned], laidTests := true, laidLooks := .later }
def DiskLooksUptoCardSaid : Prop := Claim7.holds Tryz.pinned (.plain (OpenSpec.upto diskLooksSpec)) diskLooksUptoCard

/-- THE SECOND FORM's CARD OF 'granarylaw1.DiskCounts'. -/
def diskCountsUptoCard : Claim7 := { stood := { row := diskCountsUptoRow, standIns := [], harness := (true, "deea62f3d936d06ae8e801dc3ba1fc2a35927b9b1c7078cd50cc295beb6370af"), looks := false }, kinds := [], alts := [], laidByText := true, laidKinds := [.data, .pinned], laidTests := true, laidLooks := .later }
def DiskCountsUptoCardSaid : Prop := Claim7.holds Tryz.pinned (.plain (OpenSpec.upto diskCountsSpec)) diskCountsUptoCard

/-- THE SECOND FORM's CARD OF 'granarylaw1.DiskCrashes'. -/
def diskCrashesUptoCard : Claim7 := { stood := { row := diskCrashesUptoRow, standIns := [], harness := (true, "deea62f3d936d06ae8e801dc3ba1fc2a35927b9b1c7078cd50cc295beb6370af"), looks := false }, kinds := [], alts := [], laidByText := true, laidKinds := [.data, .pinned], laidTests := true, laidLooks := .later }
def DiskCrashesUptoCardSaid : Prop := Claim7.holds Tryz.pinned (.plain (OpenSpec.upto diskCrashesSpec)) diskCrashesUptoCard

/-- THE SECOND FORM's CARD OF 'granarylaw1.DiskPlays'. -/
def diskPlaysUptoCard : Claim7 := { stood := { row := diskPlaysUptoRow, standIns := [], harness := (true, "deea62f3d936d06ae8e801dc3ba1fc2a35927b9b1c7078cd50cc295beb6370af"), looks := false }, kinds := [], alts := [], laidByText := true, laidKinds := [.data, .pinned], laidTests := true, laidLooks := .later }
def DiskPlaysUptoCardSaid : Prop := Claim7.holds Tryz.pinned (.plain (OpenSpec.upto diskPlaysSpec)) diskPlaysUptoCard

/-- THE SECOND FORM's CARD OF 'granarylaw1.DiskOwnLists'. -/
def diskOwnListsUptoCard : Claim7 := { stood := { row := diskOwnListsUptoRow, standIns := [], harness := (true, "deea62f3d936d06ae8e801dc3ba1fc2a35927b9b1c7078cd50cc295beb6370af"), looks := false }, kinds := [], alts := [], laidByText := true, laidKinds := [.data, .pinned], laidTests := true, laidLooks := .later }
def DiskOwnListsUptoCardSaid : Prop := Claim7.holds Tryz.pinned (.plain (OpenSpec.upto diskOwnListsSpec)) diskOwnListsUptoCard
end Rows
end Go.Proofs.YtojnickeblbgoaaGreatDoor
