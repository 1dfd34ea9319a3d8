/-
  DERIVED. GIVEN WITH THE SEED: THE CARDS: each row of YtiggkhmopnhfaaaDoorRows.lean that lists a variable, with what it lists TIED to the program's text (the seventh form; the later family's looks); each row that meets fmt, with fmt's text TOLD by the authors' own Lean function (tested against real Go, not proved from fmt's source: count such statements apart). THE CARD IS WHAT COUNTS. Prove the row's statement (the work); the ties are given (YtiggkhmopnhfaaaDoorTie.lean); close each card by the builder's one call (the guide's Derived/Test/ToyasCard.lean, 'card_holds'). Laid BY PROGRAM, IN A SANDBOX (cutbox-door.mjs). By AI agents, Wed Nov 11 2026. No macro, syntax, notation, axiom, sorry.
-/
import Derived.Test.YtiggkhmopnhfaaaDoorRows
import GoSem.ClaimSeven
namespace Go.Proofs.YtiggkhmopnhfaaaDoor
namespace Rows

/-- THE TIED CARD OF 'granarylaw21.ExportMoves'. -/
def exportMovesCard : Claim7 := { stood := { row := exportMovesRow, standIns := [], harness := (true, "1d7201672e6c40ea4aaf524cbe74e80f871a0fce9ab525eb5f1af60ed278af6b"), looks := false }, kinds := [], alts := [], laidByText := true, laidKinds := [.data], laidTests := true, laidLooks := .later }
def ExportMovesCardSaid : Prop := Claim7.holds Tryd.pinned (.plain (OpenSpec.ofChange exportMovesSpec)) exportMovesCard

/-- THE TIED CARD OF 'granarylaw21.ExportReports'. -/
def exportReportsCard : Claim7 := { stood := { row := exportReportsRow, standIns := [], harness := (true, "1d7201672e6c40ea4aaf524cbe74e80f871a0fce9ab525eb5f1af60ed278af6b"), looks := false }, kinds := [], alts := [], laidByText := true, laidKinds := [.data], laidTests := true, laidLooks := .later }
def ExportReportsCardSaid : Prop := Claim7.holds Tryd.pinned (.plain (OpenSpec.ofChange exportReportsSpec)) exportReportsCard

/-- THE TIED CARD OF 'granarylaw21.ExportPlays'. -/
def exportPlaysCard : Claim7 := { stood := { row := exportPlaysRow, standIns := [], harness := (true, "1d7201672e6c40ea4aaf524cbe74e80f871a0fce9ab525eb5f1af60ed278af6b"), looks := false }, kinds := [], alts := [], laidByText := true, laidKinds := [.data], laidTests := true, laidLooks := .later }
def ExportPlaysCardSaid : Prop := Claim7.holds Tryd.pinned (.plain (OpenSpec.ofChange exportPlaysSpec)) exportPlaysCard

/-- THE TIED CARD OF 'granarylaw21.ExportOwnLists'. -/
def exportOwnListsCard : Claim7 := { stood := { row := exportOwnListsRow, standIns := [], harness := (true, "1d7201672e6c40ea4aaf524cbe74e80f871a0fce9ab525eb5f1af60ed278af6b"), looks := false }, kinds := [], alts := [], laidByText := true, laidKinds := [.data, .data, .data, .data], laidTests := true, laidLooks := .later }
def ExportOwnListsCardSaid : Prop := Claim7.holds Tryd.pinned (.plain (OpenSpec.ofChange exportOwnListsSpec)) exportOwnListsCard

/-- THE SECOND FORM's CARD OF 'granarylaw21.ExportMoves'. -/
def exportMovesUptoCard : Claim7 := { stood := { row := exportMovesUptoRow, standIns := [], harness := (true, "1d7201672e6c40ea4aaf524cbe74e80f871a0fce9ab525eb5f1af60ed278af6b"), looks := false }, kinds := [], alts := [], laidByText := true, laidKinds := [.data], laidTests := true, laidLooks := .later }
def ExportMovesUptoCardSaid : Prop := Claim7.holds Tryd.pinned (.plain (OpenSpec.upto exportMovesSpec)) exportMovesUptoCard

/-- THE SECOND FORM's CARD OF 'granarylaw21.ExportReports'. -/
def exportReportsUptoCard : Claim7 := { stood := { row := exportReportsUptoRow, standIns := [], harness := (true, "1d7201672e6c40ea4aaf524cbe74e80f871a0fce9ab525eb5f1af60ed278af6b"), looks := false }, kinds := [], alts := [], laidByText := true, laidKinds := [.data], laidTests := true, laidLooks := .later }
def ExportReportsUptoCardSaid : Prop := Claim7.holds Tryd.pinned (.plain (OpenSpec.upto exportReportsSpec)) exportReportsUptoCard

/-- THE SECOND FORM's CARD OF 'granarylaw21.ExportPlays'. -/
def exportPlaysUptoCard : Claim7 := { stood := { row := exportPlaysUptoRow, standIns := [], harness := (true, "1d7201672e6c40ea4aaf524cbe74e80f871a0fce9ab525eb5f1af60ed278af6b"), looks := false }, kinds := [], alts := [], laidByText := true, laidKinds := [.data], laidTests := true, laidLooks := .later }
def ExportPlaysUptoCardSaid : Prop := Claim7.holds Tryd.pinned (.plain (OpenSpec.upto exportPlaysSpec)) exportPlaysUptoCard

/-- THE SECOND FORM's CARD OF 'granarylaw21.ExportOwnLists'. -/
def exportOwnListsUptoCard : Claim7 := { stood := { row := exportOwnListsUptoRow, standIns := [], harness := (true, "1d7201672e6c40ea4aaf524cbe74e80f871a0fce9ab525eb5f1af60ed278af6b"), looks := false }, kinds := [], alts := [], laidByText := true, laidKinds := [.data, .data, .data, .data], laidTests := true, laidLooks := .later }
def ExportOwnListsUptoCardSaid : Prop := Claim7.holds Tryd.pinned (.plain (OpenSpec.upto exportOwnListsSpec)) exportOwnListsUptoCard
end Rows
end Go.Proofs.YtiggkhmopnhfaaaDoor
