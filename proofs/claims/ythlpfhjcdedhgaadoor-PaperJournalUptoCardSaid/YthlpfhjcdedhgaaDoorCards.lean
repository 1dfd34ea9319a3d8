/-
  DERIVED. GIVEN WITH THE SEED: THE CARDS: each row of YthlpfhjcdedhgaaDoorRows.lean that lists a variable, with what it lists TIED to the program's text (the seventh form; the later family's looks); each row that meets fmt, with fmt's text TOLD by the authors' own Lean function (tested against real Go, not proved from fmt's source: count such statements apart). THE CARD IS WHAT COUNTS. Prove the row's statement (the work); the ties are given (YthlpfhjcdedhgaaDoorTie.lean); close each card by the builder's one call (the guide's Derived/Test/ToyasCard.lean, 'card_holds'). Laid BY PROGRAM, IN A SANDBOX (cutbox-door.mjs). By AI agents, Wed Nov 11 2026. No macro, syntax, notation, axiom, sorry.
-/
import Derived.Test.YthlpfhjcdedhgaaDoorRows
import GoSem.ClaimSeven
namespace Go.Proofs.YthlpfhjcdedhgaaDoor
namespace Rows

/-- THE TIED CARD OF 'granarylaw4.PaperNotes'. -/
def paperNotesCard : Claim7 := { stood := { row := paperNotesRow, standIns := [], harness := (true, "eecd6e9ae915ef958af4c743588a7fcd6ed0a3c7f39a88c2cfce3ae308e2c9f1"), looks := false }, kinds := [], alts := [], laidByText := true, laidKinds := [.data, .data, .data, .data, .data, .pinned], laidTests := true, laidLooks := .later }
def PaperNotesCardSaid : Prop := Claim7.holds Tryd.pinned (.plain (OpenSpec.ofChange paperNotesSpec)) paperNotesCard

/-- THE TIED CARD OF 'granarylaw4.PaperPointers'. -/
def paperPointersCard : Claim7 := { stood := { row := paperPointersRow, standIns := [], harness := (true, "eecd6e9ae915ef958af4c743588a7fcd6ed0a3c7f39a88c2cfce3ae308e2c9f1"), looks := false }, kinds := [], alts := [], laidByText := true, laidKinds := [.data, .data, .data, .data, .data, .pinned], laidTests := true, laidLooks := .later }
def PaperPointersCardSaid : Prop := Claim7.holds Tryd.pinned (.plain (OpenSpec.ofChange paperPointersSpec)) paperPointersCard

/-- THE TIED CARD OF 'granarylaw4.PaperJournal'. -/
def paperJournalCard : Claim7 := { stood := { row := paperJournalRow, standIns := [], harness := (true, "eecd6e9ae915ef958af4c743588a7fcd6ed0a3c7f39a88c2cfce3ae308e2c9f1"), looks := false }, kinds := [], alts := [], laidByText := true, laidKinds := [.data, .data, .data, .data, .data, .pinned], laidTests := true, laidLooks := .later }
def PaperJournalCardSaid : Prop := Claim7.holds Tryd.pinned (.plain (OpenSpec.ofChange paperJournalSpec)) paperJournalCard

/-- THE SECOND FORM's CARD OF 'granarylaw4.PaperNotes'. -/
def paperNotesUptoCard : Claim7 := { stood := { row := paperNotesUptoRow, standIns := [], harness := (true, "eecd6e9ae915ef958af4c743588a7fcd6ed0a3c7f39a88c2cfce3ae308e2c9f1"), looks := false }, kinds := [], alts := [], laidByText := true, laidKinds := [.data, .data, .data, .data, .data, .pinned], laidTests := true, laidLooks := .later }
def PaperNotesUptoCardSaid : Prop := Claim7.holds Tryd.pinned (.plain (OpenSpec.upto paperNotesSpec)) paperNotesUptoCard

/-- THE SECOND FORM's CARD OF 'granarylaw4.PaperPointers'. -/
def paperPointersUptoCard : Claim7 := { stood := { row := paperPointersUptoRow, standIns := [], harness := (true, "eecd6e9ae915ef958af4c743588a7fcd6ed0a3c7f39a88c2cfce3ae308e2c9f1"), looks := false }, kinds := [], alts := [], laidByText := true, laidKinds := [.data, .data, .data, .data, .data, .pinned], laidTests := true, laidLooks := .later }
def PaperPointersUptoCardSaid : Prop := Claim7.holds Tryd.pinned (.plain (OpenSpec.upto paperPointersSpec)) paperPointersUptoCard

/-- THE SECOND FORM's CARD OF 'granarylaw4.PaperJournal'. -/
def paperJournalUptoCard : Claim7 := { stood := { row := paperJournalUptoRow, standIns := [], harness := (true, "eecd6e9ae915ef958af4c743588a7fcd6ed0a3c7f39a88c2cfce3ae308e2c9f1"), looks := false }, kinds := [], alts := [], laidByText := true, laidKinds := [.data, .data, .data, .data, .data, .pinned], laidTests := true, laidLooks := .later }
def PaperJournalUptoCardSaid : Prop := Claim7.holds Tryd.pinned (.plain (OpenSpec.upto paperJournalSpec)) paperJournalUptoCard
end Rows
end Go.Proofs.YthlpfhjcdedhgaaDoor
