/-
  No cell of these rows narrows 'for every input' (looked for: loops, veiled, ifaces, maps, wideKeys, modest, calm, conditions, laid).
  DERIVED. THE GIVEN ROWS OF THIS SEAT. 4 by the template 'for every input the law returns true; each argument reads behind the call as it read before'; 0 by the template 'total and deterministic' (their statements: YtpiceodfdjihhaaTotals.lean).
  GIVEN WITH THE SEED: the statements are not yours to turn. If you find one false, say at which input.
  Laid BY PROGRAM, IN A SANDBOX (cutbox-rows.mjs): the forced cells as the released guide's own fill.sh prints them over the translation 025cb05b02ef204c… (all of the seat's roots in one cut). By AI agents, Wed Nov 11 2026. No macro, syntax, notation, axiom, sorry.
-/
import Derived.Test.YtpiceodfdjihhaaChecked
import GoSem.Claim
import GoSem.ClaimJoined
import GoSem.ClaimMapViews
import Derived.JoinedTies
import Derived.KernelRfl
namespace Go.Proofs.Ytpiceodfdjihhaa
/- THE CELL 'sum', in the pinned program and in every row, IS THE sha256 OF THE DUMP (.gsa) THAT YtpiceodfdjihhaaProg.lean LOADS. Nothing in Lean hashes anything: it is a label: what it is worth is what the hold of that sum in a sandbox is worth. -/
noncomputable def Try.pinned : Pinned := { name := "ytpiceodfdjihhaa", sum := "025cb05b02ef204c811a756b3d0a3c192b437f3a9dc841859d46bbb8429ad3c5", checked := Try.checked }
namespace Rows
def none {H : Type} : Left H := { results := [], args := [] }

/-- 'granarylaw15.ControlResumes': WHATEVER THE INPUT: true; the input reads as it did. -/
def controlResumesSpec : ChangeSpec := { name := "controlResumes", fn := fun _ => fun
  | [d1, d2, d3, d4, d5, d6, d7] => { results := [.lit (.bool true)], args := [d1, d2, d3, d4, d5, d6, d7] }
  | _ => none }
def controlResumesRow : OpenClaim := { program := "ytpiceodfdjihhaa", sum := "025cb05b02ef204c811a756b3d0a3c192b437f3a9dc841859d46bbb8429ad3c5", func := "granary/granarylaw15.ControlResumes", spec := "controlResumes", unfollowed := true, recurses := true, apart := false }
def ControlResumesSaid : Prop := controlResumesRow.holds Try.pinned (OpenSpec.ofChange controlResumesSpec)

/-- ITS FALSE NEIGHBOUR: 'it returns false'. Refute it at one input. -/
def controlResumesWrong : ChangeSpec := { name := "controlResumes", fn := fun _ => fun
  | [d1, d2, d3, d4, d5, d6, d7] => { results := [.lit (.bool false)], args := [d1, d2, d3, d4, d5, d6, d7] }
  | _ => none }
def ControlResumesWrongFalsely : Prop := controlResumesRow.holds Try.pinned (OpenSpec.ofChange controlResumesWrong)

/-- 'granarylaw15.ControlEnds': WHATEVER THE INPUT: true; the input reads as it did. -/
def controlEndsSpec : ChangeSpec := { name := "controlEnds", fn := fun _ => fun
  | [d1, d2, d3, d4, d5] => { results := [.lit (.bool true)], args := [d1, d2, d3, d4, d5] }
  | _ => none }
def controlEndsRow : OpenClaim := { program := "ytpiceodfdjihhaa", sum := "025cb05b02ef204c811a756b3d0a3c192b437f3a9dc841859d46bbb8429ad3c5", func := "granary/granarylaw15.ControlEnds", spec := "controlEnds", unfollowed := true, recurses := true, apart := false }
def ControlEndsSaid : Prop := controlEndsRow.holds Try.pinned (OpenSpec.ofChange controlEndsSpec)

/-- ITS FALSE NEIGHBOUR: 'it returns false'. Refute it at one input. -/
def controlEndsWrong : ChangeSpec := { name := "controlEnds", fn := fun _ => fun
  | [d1, d2, d3, d4, d5] => { results := [.lit (.bool false)], args := [d1, d2, d3, d4, d5] }
  | _ => none }
def ControlEndsWrongFalsely : Prop := controlEndsRow.holds Try.pinned (OpenSpec.ofChange controlEndsWrong)

/-- 'granarylaw15.ControlAtomic': WHATEVER THE INPUT: true; the input reads as it did. -/
def controlAtomicSpec : ChangeSpec := { name := "controlAtomic", fn := fun _ => fun
  | [d1, d2, d3] => { results := [.lit (.bool true)], args := [d1, d2, d3] }
  | _ => none }
def controlAtomicRow : OpenClaim := { program := "ytpiceodfdjihhaa", sum := "025cb05b02ef204c811a756b3d0a3c192b437f3a9dc841859d46bbb8429ad3c5", func := "granary/granarylaw15.ControlAtomic", spec := "controlAtomic", unfollowed := true, recurses := true, apart := false }
def ControlAtomicSaid : Prop := controlAtomicRow.holds Try.pinned (OpenSpec.ofChange controlAtomicSpec)

/-- ITS FALSE NEIGHBOUR: 'it returns false'. Refute it at one input. -/
def controlAtomicWrong : ChangeSpec := { name := "controlAtomic", fn := fun _ => fun
  | [d1, d2, d3] => { results := [.lit (.bool false)], args := [d1, d2, d3] }
  | _ => none }
def ControlAtomicWrongFalsely : Prop := controlAtomicRow.holds Try.pinned (OpenSpec.ofChange controlAtomicWrong)

/-- 'granarylaw15.ControlGoes': WHATEVER THE INPUT: true; the input reads as it did. -/
def controlGoesSpec : ChangeSpec := { name := "controlGoes", fn := fun _ => fun
  | [d1, d2, d3, d4, d5, d6] => { results := [.lit (.bool true)], args := [d1, d2, d3, d4, d5, d6] }
  | _ => none }
def controlGoesRow : OpenClaim := { program := "ytpiceodfdjihhaa", sum := "025cb05b02ef204c811a756b3d0a3c192b437f3a9dc841859d46bbb8429ad3c5", func := "granary/granarylaw15.ControlGoes", spec := "controlGoes", unfollowed := true, recurses := true, apart := false }
def ControlGoesSaid : Prop := controlGoesRow.holds Try.pinned (OpenSpec.ofChange controlGoesSpec)

/-- ITS FALSE NEIGHBOUR: 'it returns false'. Refute it at one input. -/
def controlGoesWrong : ChangeSpec := { name := "controlGoes", fn := fun _ => fun
  | [d1, d2, d3, d4, d5, d6] => { results := [.lit (.bool false)], args := [d1, d2, d3, d4, d5, d6] }
  | _ => none }
def ControlGoesWrongFalsely : Prop := controlGoesRow.holds Try.pinned (OpenSpec.ofChange controlGoesWrong)

/- THE SECOND FORM. 'bulk': how many values and letters a reading holds, each counted each time it is reached (what is shared counts as often as it is met; a slice's spare places count too). A statement '..UptoSaid' is the law's where the arguments, and the package variables that the reading takes, are together of bulk at most 1048576: NARROWER than '..Said'. Prove '..Said' where nothing that the law and all that it calls make is longer than what came in: it says more and counts as full. Else prove '..UptoSaid'. A law counts once. -/
mutual
def uptoBulk {H : Type} : DataW H → Nat
  | .lit (.string bytes) => bytes.length + 1
  | .lit _ => 1
  | .nil => 1
  | .ptr d => uptoBulk d + 1
  | .slice elems spare => uptoBulkAll elems + uptoBulkAll spare + 1
  | .agg parts => uptoBulkAll parts + 1
  | .iface _ d => uptoBulk d + 1
  | .map entries => uptoBulkEntries entries + 1
  | .held _ => 1
def uptoBulkAll {H : Type} : List (DataW H) → Nat
  | [] => 0
  | d :: r => uptoBulk d + uptoBulkAll r
def uptoBulkEntries {H : Type} : List (Lit × DataW H) → Nat
  | [] => 0
  | x :: r => uptoBulkEntry x + uptoBulkEntries r
def uptoBulkEntry {H : Type} : Lit × DataW H → Nat
  | (.string bytes, d) => bytes.length + uptoBulk d + 1
  | (_, d) => uptoBulk d + 1
 end
def uptoSmall : (H : Type) → List (DataW H) → Bool := fun _ ds => decide (uptoBulkAll ds ≤ 1048576)
def OpenSpec.upto (s : _root_.Go.ChangeSpec) : _root_.Go.OpenSpec := { _root_.Go.OpenSpec.ofChange s with cond := some uptoSmall }

/-- 'granarylaw15.ControlResumes', WHERE WHAT IT READS IS OF BULK AT MOST 1048576: true; the input reads as it did. -/
def controlResumesUptoRow : OpenClaim := { program := "ytpiceodfdjihhaa", sum := "025cb05b02ef204c811a756b3d0a3c192b437f3a9dc841859d46bbb8429ad3c5", func := "granary/granarylaw15.ControlResumes", spec := "controlResumes", unfollowed := true, recurses := true, apart := false, narrowed := true }
def ControlResumesUptoSaid : Prop := controlResumesUptoRow.holds Try.pinned (OpenSpec.upto controlResumesSpec)

/-- 'granarylaw15.ControlEnds', WHERE WHAT IT READS IS OF BULK AT MOST 1048576: true; the input reads as it did. -/
def controlEndsUptoRow : OpenClaim := { program := "ytpiceodfdjihhaa", sum := "025cb05b02ef204c811a756b3d0a3c192b437f3a9dc841859d46bbb8429ad3c5", func := "granary/granarylaw15.ControlEnds", spec := "controlEnds", unfollowed := true, recurses := true, apart := false, narrowed := true }
def ControlEndsUptoSaid : Prop := controlEndsUptoRow.holds Try.pinned (OpenSpec.upto controlEndsSpec)

/-- 'granarylaw15.ControlAtomic', WHERE WHAT IT READS IS OF BULK AT MOST 1048576: true; the input reads as it did. -/
def controlAtomicUptoRow : OpenClaim := { program := "ytpiceodfdjihhaa", sum := "025cb05b02ef204c811a756b3d0a3c192b437f3a9dc841859d46bbb8429ad3c5", func := "granary/granarylaw15.ControlAtomic", spec := "controlAtomic", unfollowed := true, recurses := true, apart := false, narrowed := true }
def ControlAtomicUptoSaid : Prop := controlAtomicUptoRow.holds Try.pinned (OpenSpec.upto controlAtomicSpec)

/-- 'granarylaw15.ControlGoes', WHERE WHAT IT READS IS OF BULK AT MOST 1048576: true; the input reads as it did. -/
def controlGoesUptoRow : OpenClaim := { program := "ytpiceodfdjihhaa", sum := "025cb05b02ef204c811a756b3d0a3c192b437f3a9dc841859d46bbb8429ad3c5", func := "granary/granarylaw15.ControlGoes", spec := "controlGoes", unfollowed := true, recurses := true, apart := false, narrowed := true }
def ControlGoesUptoSaid : Prop := controlGoesUptoRow.holds Try.pinned (OpenSpec.upto controlGoesSpec)

end Rows
end Go.Proofs.Ytpiceodfdjihhaa
