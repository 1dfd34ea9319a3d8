/-
  DERIVED. GIVEN WITH THE SEED: THE CARDS: each row of YtojnickeblbgoaaDoorRows.lean that lists a variable, with what it lists TIED to the program's text (the seventh form; the later family's looks); each row that meets fmt, with fmt's text TOLD by the authors' own Lean function (tested against real Go, not proved from fmt's source: count such statements apart). THE CARD IS WHAT COUNTS. Prove the row's statement (the work); the ties are given (YtojnickeblbgoaaDoorTie.lean); close each card by the builder's one call (the guide's Derived/Test/ToyasCard.lean, 'card_holds'). Laid BY PROGRAM, IN A SANDBOX (cutbox-door.mjs). By AI agents, Wed Nov 11 2026. No macro, syntax, notation, axiom, sorry.
-/
import Derived.Test.YtojnickeblbgoaaDoorRows
import GoSem.ClaimSeven
namespace Go.Proofs.YtojnickeblbgoaaDoor
namespace Rows

/-- THE TIED CARD OF 'granarylaw1.DiskReplace'. -/
def diskReplaceCard : Claim7 := { stood := { row := diskReplaceRow, standIns := [], harness := (true, "5c0407f2829e28d40d9eb55b473d41aef271e734b91b06ac2c124779c9f19302"), looks := false }, kinds := [], alts := [], laidByText := true, laidKinds := [.data, .pinned], laidTests := true, laidLooks := .later }
def DiskReplaceCardSaid : Prop := Claim7.holds Tryd.pinned (.plain (OpenSpec.ofChange diskReplaceSpec)) diskReplaceCard

/-- THE TIED CARD OF 'granarylaw1.DiskKeeps'. -/
def diskKeepsCard : Claim7 := { stood := { row := diskKeepsRow, standIns := [], harness := (true, "5c0407f2829e28d40d9eb55b473d41aef271e734b91b06ac2c124779c9f19302"), looks := false }, kinds := [], alts := [], laidByText := true, laidKinds := [.data, .pinned], laidTests := true, laidLooks := .later }
def DiskKeepsCardSaid : Prop := Claim7.holds Tryd.pinned (.plain (OpenSpec.ofChange diskKeepsSpec)) diskKeepsCard

/-- THE TIED CARD OF 'granarylaw1.DiskPrefix'. -/
def diskPrefixCard : Claim7 := { stood := { row := diskPrefixRow, standIns := [], harness := (true, "5c0407f2829e28d40d9eb55b473d41aef271e734b91b06ac2c124779c9f19302"), looks := false }, kinds := [], alts := [], laidByText := true, laidKinds := [.data, .pinned], laidTests := true, laidLooks := .later }
def DiskPrefixCardSaid : Prop := Claim7.holds Tryd.pinned (.plain (OpenSpec.ofChange diskPrefixSpec)) diskPrefixCard

/-- THE TIED CARD OF 'granarylaw1.DiskSafe'. -/
def diskSafeCard : Claim7 := { stood := { row := diskSafeRow, standIns := [], harness := (true, "5c0407f2829e28d40d9eb55b473d41aef271e734b91b06ac2c124779c9f19302"), looks := false }, kinds := [], alts := [], laidByText := true, laidKinds := [.data, .pinned], laidTests := true, laidLooks := .later }
def DiskSafeCardSaid : Prop := Claim7.holds Tryd.pinned (.plain (OpenSpec.ofChange diskSafeSpec)) diskSafeCard

/-- THE TIED CARD OF 'granarylaw1.DiskRefuses'. -/
def diskRefusesCard : Claim7 := { stood := { row := diskRefusesRow, standIns := [], harness := (true, "5c0407f2829e28d40d9eb55b473d41aef271e734b91b06ac2c124779c9f19302"), looks := false }, kinds := [], alts := [], laidByText := true, laidKinds := [.data, .pinned], laidTests := true, laidLooks := .later }
def DiskRefusesCardSaid : Prop := Claim7.holds Tryd.pinned (.plain (OpenSpec.ofChange diskRefusesSpec)) diskRefusesCard

/-- THE SECOND FORM's CARD OF 'granarylaw1.DiskReplace'. -/
def diskReplaceUptoCard : Claim7 := { stood := { row := diskReplaceUptoRow, standIns := [], harness := (true, "5c0407f2829e28d40d9eb55b473d41aef271e734b91b06ac2c124779c9f19302"), looks := false }, kinds := [], alts := [], laidByText := true, laidKinds := [.data, .pinned], laidTests := true, laidLooks := .later }
def DiskReplaceUptoCardSaid : Prop := Claim7.holds Tryd.pinned (.plain (OpenSpec.upto diskReplaceSpec)) diskReplaceUptoCard

/-- THE SECOND FORM's CARD OF 'granarylaw1.DiskKeeps'. -/
def diskKeepsUptoCard : Claim7 := { stood := { row := diskKeepsUptoRow, standIns := [], harness := (true, "5c0407f2829e28d40d9eb55b473d41aef271e734b91b06ac2c124779c9f19302"), looks := false }, kinds := [], alts := [], laidByText := true, laidKinds := [.data, .pinned], laidTests := true, laidLooks := .later }
def DiskKeepsUptoCardSaid : Prop := Claim7.holds Tryd.pinned (.plain (OpenSpec.upto diskKeepsSpec)) diskKeepsUptoCard

/-- THE SECOND FORM's CARD OF 'granarylaw1.DiskPrefix'. -/
def diskPrefixUptoCard : Claim7 := { stood := { row := diskPrefixUptoRow, standIns := [], harness := (true, "5c0407f2829e28d40d9eb55b473d41aef271e734b91b06ac2c124779c9f19302"), looks := false }, kinds := [], alts := [], laidByText := true, laidKinds := [.data, .pinned], laidTests := true, laidLooks := .later }
def DiskPrefixUptoCardSaid : Prop := Claim7.holds Tryd.pinned (.plain (OpenSpec.upto diskPrefixSpec)) diskPrefixUptoCard

/-- THE SECOND FORM's CARD OF 'granarylaw1.DiskSafe'. -/
def diskSafeUptoCard : Claim7 := { stood := { row := diskSafeUptoRow, standIns := [], harness := (true, "5c0407f2829e28d40d9eb55b473d41aef271e734b91b06ac2c124779c9f19302"), looks := false }, kinds := [], alts := [], laidByText := true, laidKinds := [.data, .pinned], laidTests := true, laidLooks := .later }
def DiskSafeUptoCardSaid : Prop := Claim7.holds Tryd.pinned (.plain (OpenSpec.upto diskSafeSpec)) diskSafeUptoCard

/-- THE SECOND FORM's CARD OF 'granarylaw1.DiskRefuses'. -/
def diskRefusesUptoCard : Claim7 := { stood := { row := diskRefusesUptoRow, standIns := [], harness := (true, "5c0407f2829e28d40d9eb55b473d41aef271e734b91b06ac2c124779c9f19302"), looks := false }, kinds := [], alts := [], laidByText := true, laidKinds := [.data, .pinned], laidTests := true, laidLooks := .later }
def DiskRefusesUptoCardSaid : Prop := Claim7.holds Tryd.pinned (.plain (OpenSpec.upto diskRefusesSpec)) diskRefusesUptoCard
end Rows
end Go.Proofs.YtojnickeblbgoaaDoor
