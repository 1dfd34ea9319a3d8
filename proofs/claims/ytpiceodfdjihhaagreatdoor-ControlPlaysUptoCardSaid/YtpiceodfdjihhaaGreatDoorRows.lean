/-
  NARROWER THAN 'FOR EVERY INPUT', by the rows' own cells (each row's printed sentence says how): ControlSends: laid · ControlTells: laid · ControlPlays: laid.
  DERIVED. THE GIVEN ROWS OF THIS SEAT. 3 by the template 'for every input the law returns true; each argument reads behind the call as it read before'; 0 by the template 'total and deterministic' (their statements: YtpiceodfdjihhaaGreatDoorTotals.lean).
  GIVEN WITH THE SEED: the statements are not yours to turn. If you find one false, say at which input.
  Laid BY PROGRAM, IN A SANDBOX (cutbox-rows.mjs): the forced cells as the released guide's own fill.sh prints them over the translation e327cb0efba9423d… (all of the seat's roots in one cut). By AI agents, Wed Nov 11 2026. No macro, syntax, notation, axiom, sorry.
-/
import Derived.Test.YtpiceodfdjihhaaGreatDoorChecked
import GoSem.Claim
import GoSem.ClaimJoined
import GoSem.ClaimMapViews
import Derived.JoinedTies
import Derived.KernelRfl
namespace Go.Proofs.YtpiceodfdjihhaaGreatDoor
/- THE CELL 'sum', in the pinned program and in every row, IS THE sha256 OF THE DUMP (.gsa) THAT YtpiceodfdjihhaaGreatDoorProg.lean LOADS. Nothing in Lean hashes anything: it is a label: what it is worth is what the hold of that sum in a sandbox is worth. -/
noncomputable def Tryz.pinned : Pinned := { name := "ytpiceodfdjihhaagreatdoor", sum := "e327cb0efba9423d174dd74a5d2f60a9b6e056f12d827b4772aabe27ba366d3e", checked := Tryz.checked }
namespace Rows
def none {H : Type} : Left H := { results := [], args := [] }

/- WHAT THE LISTED PACKAGE-LEVEL VARIABLES READ AS WHEN THE CALL BEGINS. Each datum BY PROGRAM (the guide's laid-datum.mjs) off the statement by which the dump's own 'gosem.cut.vars' lays the variable. In a bare row this is a premise. The card (YtpiceodfdjihhaaGreatDoorCards.lean) ties it to the program's text. -/
def laid_granary_granaryref6_greatest {H : Type} : DataW H := .agg [.lit (.int .i64 16), .lit (.int .i64 16), .lit (.int .i64 16), .lit (.int .i64 8), .lit (.int .i64 4096), .lit (.int .i64 65536), .lit (.int .i64 1024), .lit (.int .i64 65536), .lit (.int .i64 64), .lit (.int .i64 1024), .lit (.int .i64 1024), .lit (.int .i64 1073741824), .lit (.int .i64 1073741824), .lit (.int .i64 1073741824), .lit (.int .i64 1024), .lit (.int .i64 64), .lit (.int .i64 65536), .lit (.int .i64 1024), .lit (.int .i64 64), .lit (.int .i64 1024), .lit (.int .i64 7)]
def laid_granary_granaryref15_sent {H : Type} : DataW H := .agg [.lit (.int .i64 0), .lit (.int .i64 3), .lit (.int .i64 5), .lit (.int .i64 7), .lit (.int .i64 9)]
def laid_granary_granaryref15_answered {H : Type} : DataW H := .agg [.lit (.int .i64 0), .lit (.int .i64 4), .lit (.int .i64 6), .lit (.int .i64 8), .lit (.int .i64 10)]
def laid_granary_granaryref15_seqs {H : Type} : DataW H := .agg [.lit (.int .i64 0), .lit (.int .i64 0), .lit (.int .i64 1), .lit (.int .i64 2), .lit (.int .i64 0)]

/-- 'granarylaw15.ControlSends': WHATEVER THE INPUT: true; the input reads as it did. -/
def controlSendsSpec : ChangeSpec := { name := "controlSends", fn := fun _ => fun
  | [d1, d2, d3] => { results := [.lit (.bool true)], args := [d1, d2, d3] }
  | _ => none }
def controlSendsRow : OpenClaim := { program := "ytpiceodfdjihhaagreatdoor", sum := "e327cb0efba9423d174dd74a5d2f60a9b6e056f12d827b4772aabe27ba366d3e", func := "granary/granarylaw15.ControlSends", spec := "controlSends", unfollowed := true, recurses := true, named := ["granary/granaryref6.greatest", "granary/granaryref15.sent", "granary/granaryref15.seqs", "granary/granaryref15.answered"], apart := false, laid := [("granary/granaryref6.greatest", laid_granary_granaryref6_greatest), ("granary/granaryref15.sent", laid_granary_granaryref15_sent), ("granary/granaryref15.answered", laid_granary_granaryref15_answered), ("granary/granaryref15.seqs", laid_granary_granaryref15_seqs)] }
def ControlSendsSaid : Prop := controlSendsRow.holds Tryz.pinned (OpenSpec.ofChange controlSendsSpec)

/-- ITS FALSE NEIGHBOUR: 'it returns false'. Refute it at one input. -/
def controlSendsWrong : ChangeSpec := { name := "controlSends", fn := fun _ => fun
  | [d1, d2, d3] => { results := [.lit (.bool false)], args := [d1, d2, d3] }
  | _ => none }
def ControlSendsWrongFalsely : Prop := controlSendsRow.holds Tryz.pinned (OpenSpec.ofChange controlSendsWrong)

/-- 'granarylaw15.ControlTells': WHATEVER THE INPUT: true; the input reads as it did. -/
def controlTellsSpec : ChangeSpec := { name := "controlTells", fn := fun _ => fun
  | [d1, d2, d3] => { results := [.lit (.bool true)], args := [d1, d2, d3] }
  | _ => none }
def controlTellsRow : OpenClaim := { program := "ytpiceodfdjihhaagreatdoor", sum := "e327cb0efba9423d174dd74a5d2f60a9b6e056f12d827b4772aabe27ba366d3e", func := "granary/granarylaw15.ControlTells", spec := "controlTells", unfollowed := true, recurses := true, named := ["granary/granaryref6.greatest", "granary/granaryref15.sent", "granary/granaryref15.seqs", "granary/granaryref15.answered"], apart := false, laid := [("granary/granaryref6.greatest", laid_granary_granaryref6_greatest), ("granary/granaryref15.sent", laid_granary_granaryref15_sent), ("granary/granaryref15.answered", laid_granary_granaryref15_answered), ("granary/granaryref15.seqs", laid_granary_granaryref15_seqs)] }
def ControlTellsSaid : Prop := controlTellsRow.holds Tryz.pinned (OpenSpec.ofChange controlTellsSpec)

/-- ITS FALSE NEIGHBOUR: 'it returns false'. Refute it at one input. -/
def controlTellsWrong : ChangeSpec := { name := "controlTells", fn := fun _ => fun
  | [d1, d2, d3] => { results := [.lit (.bool false)], args := [d1, d2, d3] }
  | _ => none }
def ControlTellsWrongFalsely : Prop := controlTellsRow.holds Tryz.pinned (OpenSpec.ofChange controlTellsWrong)

/-- 'granarylaw15.ControlPlays': WHATEVER THE INPUT: true; the input reads as it did. -/
def controlPlaysSpec : ChangeSpec := { name := "controlPlays", fn := fun _ => fun
  | [d1, d2] => { results := [.lit (.bool true)], args := [d1, d2] }
  | _ => none }
def controlPlaysRow : OpenClaim := { program := "ytpiceodfdjihhaagreatdoor", sum := "e327cb0efba9423d174dd74a5d2f60a9b6e056f12d827b4772aabe27ba366d3e", func := "granary/granarylaw15.ControlPlays", spec := "controlPlays", unfollowed := true, recurses := true, named := ["granary/granaryref6.greatest", "granary/granaryref15.sent", "granary/granaryref15.seqs", "granary/granaryref15.answered"], apart := false, laid := [("granary/granaryref6.greatest", laid_granary_granaryref6_greatest), ("granary/granaryref15.sent", laid_granary_granaryref15_sent), ("granary/granaryref15.answered", laid_granary_granaryref15_answered), ("granary/granaryref15.seqs", laid_granary_granaryref15_seqs)] }
def ControlPlaysSaid : Prop := controlPlaysRow.holds Tryz.pinned (OpenSpec.ofChange controlPlaysSpec)

/-- ITS FALSE NEIGHBOUR: 'it returns false'. Refute it at one input. -/
def controlPlaysWrong : ChangeSpec := { name := "controlPlays", fn := fun _ => fun
  | [d1, d2] => { results := [.lit (.bool false)], args := [d1, d2] }
  | _ => none }
def ControlPlaysWrongFalsely : Prop := controlPlaysRow.holds Tryz.pinned (OpenSpec.ofChange controlPlaysWrong)

/- THE SECOND FORM. 'bulk': how many values and letters a reading holds, each counted each time it is reached (what is shared counts as often as it is met; a slice's spare places count too). A statement '..UptoSaid' is the law's where the arguments, and the package variables that the reading takes, are together of bulk at most 1048576: NARROWER than '..Said'. Prove '..Said' where nothing that the law and all that it calls make is longer than what came in: it says more and counts as full. Else prove '..UptoSaid'. A law counts once. -/
mutual
def uptoBulk {H : Type} : DataW H → Nat
  | .lit (.string bytes) => bytes.length + 1
  | .lit _ => 1
  | .nil => 1
  | .ptr d => uptoBulk d + 1
  | .slice elems spare => uptoBulkAll elems + uptoBulkAll spare + 1
  | .agg parts => uptoBulkAll parts + 1
  | .iface _ d => uptoBulk d + 1
  | .map entries => uptoBulkEntries entries + 1
  | .held _ => 1
def uptoBulkAll {H : Type} : List (DataW H) → Nat
  | [] => 0
  | d :: r => uptoBulk d + uptoBulkAll r
def uptoBulkEntries {H : Type} : List (Lit × DataW H) → Nat
  | [] => 0
  | x :: r => uptoBulkEntry x + uptoBulkEntries r
def uptoBulkEntry {H : Type} : Lit × DataW H → Nat
  | (.string bytes, d) => bytes.length + uptoBulk d + 1
  | (_, d) => uptoBulk d + 1
 end
def uptoSmall : (H : Type) → List (DataW H) → Bool := fun _ ds => decide (uptoBulkAll ds ≤ 1048576)
def OpenSpec.upto (s : _root_.Go.ChangeSpec) : _root_.Go.OpenSpec := { _root_.Go.OpenSpec.ofChange s with cond := some uptoSmall }

/-- 'granarylaw15.ControlSends', WHERE WHAT IT READS IS OF BULK AT MOST 1048576: true; the input reads as it did. -/
def controlSendsUptoRow : OpenClaim := { program := "ytpiceodfdjihhaagreatdoor", sum := "e327cb0efba9423d174dd74a5d2f60a9b6e056f12d827b4772aabe27ba366d3e", func := "granary/granarylaw15.ControlSends", spec := "controlSends", unfollowed := true, recurses := true, named := ["granary/granaryref6.greatest", "granary/granaryref15.sent", "granary/granaryref15.seqs", "granary/granaryref15.answered"], apart := false, laid := [("granary/granaryref6.greatest", laid_granary_granaryref6_greatest), ("granary/granaryref15.sent", laid_granary_granaryref15_sent), ("granary/granaryref15.answered", laid_granary_granaryref15_answered), ("granary/granaryref15.seqs", laid_granary_granaryref15_seqs)], narrowed := true }
def ControlSendsUptoSaid : Prop := controlSendsUptoRow.holds Tryz.pinned (OpenSpec.upto controlSendsSpec)

/-- 'granarylaw15.ControlTells', WHERE WHAT IT READS IS OF BULK AT MOST 1048576: true; the input reads as it did. -/
def controlTellsUptoRow : OpenClaim := { program := "ytpiceodfdjihhaagreatdoor", sum := "e327cb0efba9423d174dd74a5d2f60a9b6e056f12d827b4772aabe27ba366d3e", func := "granary/granarylaw15.ControlTells", spec := "controlTells", unfollowed := true, recurses := true, named := ["granary/granaryref6.greatest", "granary/granaryref15.sent", "granary/granaryref15.seqs", "granary/granaryref15.answered"], apart := false, laid := [("granary/granaryref6.greatest", laid_granary_granaryref6_greatest), ("granary/granaryref15.sent", laid_granary_granaryref15_sent), ("granary/granaryref15.answered", laid_granary_granaryref15_answered), ("granary/granaryref15.seqs", laid_granary_granaryref15_seqs)], narrowed := true }
def ControlTellsUptoSaid : Prop := controlTellsUptoRow.holds Tryz.pinned (OpenSpec.upto controlTellsSpec)

/-- 'granarylaw15.ControlPlays', WHERE WHAT IT READS IS OF BULK AT MOST 1048576: true; the input reads as it did. -/
def controlPlaysUptoRow : OpenClaim := { program := "ytpiceodfdjihhaagreatdoor", sum := "e327cb0efba9423d174dd74a5d2f60a9b6e056f12d827b4772aabe27ba366d3e", func := "granary/granarylaw15.ControlPlays", spec := "controlPlays", unfollowed := true, recurses := true, named := ["granary/granaryref6.greatest", "granary/granaryref15.sent", "granary/granaryref15.seqs", "granary/granaryref15.answered"], apart := false, laid := [("granary/granaryref6.greatest", laid_granary_granaryref6_greatest), ("granary/granaryref15.sent", laid_granary_granaryref15_sent), ("granary/granaryref15.answered", laid_granary_granaryref15_answered), ("granary/granaryref15.seqs", laid_granary_granaryref15_seqs)], narrowed := true }
def ControlPlaysUptoSaid : Prop := controlPlaysUptoRow.holds Tryz.pinned (OpenSpec.upto controlPlaysSpec)

end Rows
end Go.Proofs.YtpiceodfdjihhaaGreatDoor
