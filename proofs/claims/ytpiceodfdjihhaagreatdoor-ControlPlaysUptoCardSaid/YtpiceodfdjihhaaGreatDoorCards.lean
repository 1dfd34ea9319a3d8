/-
  DERIVED. GIVEN WITH THE SEED: THE CARDS: each row of YtpiceodfdjihhaaGreatDoorRows.lean that lists a variable, with what it lists TIED to the program's text (the seventh form; the later family's looks); each row that meets fmt, with fmt's text TOLD by the authors' own Lean function (tested against real Go, not proved from fmt's source: count such statements apart). THE CARD IS WHAT COUNTS. Prove the row's statement (the work); the ties are given (YtpiceodfdjihhaaGreatDoorTie.lean); close each card by the builder's one call (the guide's Derived/Test/ToyasCard.lean, 'card_holds'). Laid BY PROGRAM, IN A SANDBOX (cutbox-door.mjs). By AI agents, Wed Nov 11 2026. No macro, syntax, notation, axiom, sorry.
-/
import Derived.Test.YtpiceodfdjihhaaGreatDoorRows
import GoSem.ClaimSeven
namespace Go.Proofs.YtpiceodfdjihhaaGreatDoor
namespace Rows

/-- THE TIED CARD OF 'granarylaw15.ControlSends'. -/
def controlSendsCard : Claim7 := { stood := { row := controlSendsRow, standIns := [], harness := (true, "5199cc344424cc735eb200cf171fb6ecdb930a367bf599e0260e523877b66450"), looks := true }, kinds := [], alts := [], laidByText := true, laidKinds := [.data, .data, .data, .data], laidTests := true, laidLooks := .later }
def ControlSendsCardSaid : Prop := Claim7.holds Tryz.pinned (.plain (OpenSpec.ofChange controlSendsSpec)) controlSendsCard

/-- THE TIED CARD OF 'granarylaw15.ControlTells'. -/
def controlTellsCard : Claim7 := { stood := { row := controlTellsRow, standIns := [], harness := (true, "5199cc344424cc735eb200cf171fb6ecdb930a367bf599e0260e523877b66450"), looks := true }, kinds := [], alts := [], laidByText := true, laidKinds := [.data, .data, .data, .data], laidTests := true, laidLooks := .later }
def ControlTellsCardSaid : Prop := Claim7.holds Tryz.pinned (.plain (OpenSpec.ofChange controlTellsSpec)) controlTellsCard

/-- THE TIED CARD OF 'granarylaw15.ControlPlays'. -/
def controlPlaysCard : Claim7 := { stood := { row := controlPlaysRow, standIns := [], harness := (true, "5199cc344424cc735eb200cf171fb6ecdb930a367bf599e0260e523877b66450"), looks := true }, kinds := [], alts := [], laidByText := true, laidKinds := [.data, .data, .data, .data], laidTests := true, laidLooks := .later }
def ControlPlaysCardSaid : Prop := Claim7.holds Tryz.pinned (.plain (OpenSpec.ofChange controlPlaysSpec)) controlPlaysCard

/-- THE SECOND FORM's CARD OF 'granarylaw15.ControlSends'. -/
def controlSendsUptoCard : Claim7 := { stood := { row := controlSendsUptoRow, standIns := [], harness := (true, "5199cc344424cc735eb200cf171fb6ecdb930a367bf599e0260e523877b66450"), looks := true }, kinds := [], alts := [], laidByText := true, laidKinds := [.data, .data, .data, .data], laidTests := true, laidLooks := .later }
def ControlSendsUptoCardSaid : Prop := Claim7.holds Tryz.pinned (.plain (OpenSpec.upto controlSendsSpec)) controlSendsUptoCard

/-- THE SECOND FORM's CARD OF 'granarylaw15.ControlTells'. -/
def controlTellsUptoCard : Claim7 := { stood := { row := controlTellsUptoRow, standIns := [], harness := (true, "5199cc344424cc735eb200cf171fb6ecdb930a367bf599e0260e523877b66450"), looks := true }, kinds := [], alts := [], laidByText := true, laidKinds := [.data, .data, .data, .data], laidTests := true, laidLooks := .later }
def ControlTellsUptoCardSaid : Prop := Claim7.holds Tryz.pinned (.plain (OpenSpec.upto controlTellsSpec)) controlTellsUptoCard

/-- THE SECOND FORM's CARD OF 'granarylaw15.ControlPlays'. -/
def controlPlaysUptoCard : Claim7 := { stood := { row := controlPlaysUptoRow, standIns := [], harness := (true, "5199cc344424cc735eb200cf171fb6ecdb930a367bf599e0260e523877b66450"), looks := true }, kinds := [], alts := [], laidByText := true, laidKinds := [.data, .data, .data, .data], laidTests := true, laidLooks := .later }
def ControlPlaysUptoCardSaid : Prop := Claim7.holds Tryz.pinned (.plain (OpenSpec.upto controlPlaysSpec)) controlPlaysUptoCard
end Rows
end Go.Proofs.YtpiceodfdjihhaaGreatDoor
