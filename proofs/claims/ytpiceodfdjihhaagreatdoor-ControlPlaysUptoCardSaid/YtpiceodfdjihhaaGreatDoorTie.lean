/-
  DERIVED. GIVEN WITH THE SEED: THE PROGRAM's TIES (one call each: nine closed facts by the kernel) AND EACH ROW's TIE, after the 31st guide's Derived/Test/Toyas{Tie, Card}.lean. No idea stands in it: it is a product of the set-up. Laid BY PROGRAM, IN A SANDBOX (cutbox-door.mjs). By AI agents, Wed Nov 11 2026. No macro, syntax, notation, axiom, sorry.
-/
import Derived.Test.YtpiceodfdjihhaaGreatDoorRows
import Derived.LaidByTextLater
import Derived.SevenTiedAt
import Derived.LaidSub
import Derived.LaidOnce
namespace Go.Proofs.YtpiceodfdjihhaaGreatDoor
open Go
set_option maxRecDepth 100000
theorem seatTie1 : Tryz.prog.laidByTextLater [("granary/granaryref6.greatest", Rows.laid_granary_granaryref6_greatest), ("granary/granaryref15.sent", Rows.laid_granary_granaryref15_sent), ("granary/granaryref15.answered", Rows.laid_granary_granaryref15_answered), ("granary/granaryref15.seqs", Rows.laid_granary_granaryref15_seqs)] [.data, .data, .data, .data] true :=
  Program.laidByTextLater_by_one 29 8 22 (by kernel_rfl) (by kernel_rfl) (by kernel_rfl) (by kernel_rfl) (by kernel_rfl) (by kernel_rfl) (fun _ _ => by kernel_rfl)
theorem noOwnUnsafe : Tryz.pinned.checked.prog.headLifts.contains "ownunsafe" = false := by kernel_rfl
theorem tie : Tryz.prog.laidByTextLater [("granary/granaryref6.greatest", Rows.laid_granary_granaryref6_greatest), ("granary/granaryref15.sent", Rows.laid_granary_granaryref15_sent), ("granary/granaryref15.answered", Rows.laid_granary_granaryref15_answered), ("granary/granaryref15.seqs", Rows.laid_granary_granaryref15_seqs)] [.data, .data, .data, .data] true :=
  Program.laidByTextLater.sub seatTie1 ["granary/granaryref6.greatest", "granary/granaryref15.sent", "granary/granaryref15.answered", "granary/granaryref15.seqs"] (by kernel_rfl) (by kernel_rfl)
theorem controlSends_row_tie : Rows.controlSendsRow.laidByTextAt .later Tryz.pinned [.data, .data, .data, .data] true :=
  OpenClaim.laidByTextAt_later rfl rfl tie noOwnUnsafe
theorem controlTells_row_tie : Rows.controlTellsRow.laidByTextAt .later Tryz.pinned [.data, .data, .data, .data] true :=
  OpenClaim.laidByTextAt_later rfl rfl tie noOwnUnsafe
theorem controlPlays_row_tie : Rows.controlPlaysRow.laidByTextAt .later Tryz.pinned [.data, .data, .data, .data] true :=
  OpenClaim.laidByTextAt_later rfl rfl tie noOwnUnsafe
theorem controlSendsUpto_row_tie : Rows.controlSendsUptoRow.laidByTextAt .later Tryz.pinned [.data, .data, .data, .data] true :=
  OpenClaim.laidByTextAt_later rfl rfl tie noOwnUnsafe
theorem controlTellsUpto_row_tie : Rows.controlTellsUptoRow.laidByTextAt .later Tryz.pinned [.data, .data, .data, .data] true :=
  OpenClaim.laidByTextAt_later rfl rfl tie noOwnUnsafe
theorem controlPlaysUpto_row_tie : Rows.controlPlaysUptoRow.laidByTextAt .later Tryz.pinned [.data, .data, .data, .data] true :=
  OpenClaim.laidByTextAt_later rfl rfl tie noOwnUnsafe
end Go.Proofs.YtpiceodfdjihhaaGreatDoor
