/-
  Layer 15 (control), part A: what a controller holds, and what its calls come to: plain data, no program.
-/
import Derived.Test.YtpiceodfdjihhaaGreatDoorRingA
namespace Go.Proofs.YtpiceodfdjihhaaGreatDoor
open Go.Lift

/-- A message. -/
structure Ms where
  kind : Int
  sender : Int
  to : Int
  id : Int
  epoch : Int
  seq : Int
  version : Int
  prev : Int
  code : Int
  key : Value
  value : Value
def Ms.cells (m : Ms) : List Value := [.int .i64 m.kind, .int .i64 m.sender, .int .i64 m.to, .int .i64 m.id, .int .i64 m.epoch, .int .i64 m.seq, .int .i64 m.version, .int .i64 m.prev, .int .i64 m.code, m.key, m.value]
def Ms.val (m : Ms) : Value := .agg m.cells.toArray
/-- Its texts are cells. -/
def Ms.fine (m : Ms) : Prop := isCell m.key = true ∧ isCell m.value = true
/-- Messages as a slice's elements. -/
def elM (l : List Ms) : List (List Value) := l.map Ms.cells
@[simp] theorem elM_len (l : List Ms) : (elM l).length = l.length := by simp [elM]
/-- Truth values as a slice's elements. -/
def elB (l : List Bool) : List (List Value) := l.map fun b => [.bool b]
@[simp] theorem elB_len (l : List Bool) : (elB l).length = l.length := by simp [elB]

/-- A phase: 1 fetching, 2 swapping, 3 taking back, 4 looking. -/
structure Ph where
  kind : Nat
  said : List Bool
  holds : List Int
  ticks : Nat
  sends : Nat
structure Rep where
  job : Int
  kind : Int
  version : Int
  outcome : Int
  holds : List Int
  missing : List Int
/-- A controller. -/
structure CS where
  n : Nat
  resend : Nat
  limit : Nat
  patience : Nat
  job : Int
  kind : Int
  ver : Int
  now : Option Ph
  ended : Bool
  last : Rep
def Rep.none : Rep := ⟨0, 0, 0, 0, [], []⟩
/-- The nodes below k that have not answered. -/
def missK (said : List Bool) (k : Nat) : List Int := ((List.range k).filter fun i => !(said[i]?.getD true)).map fun (i : Nat) => (i : Int)
theorem missK_succ (said : List Bool) (k : Nat) : missK said (k + 1) = missK said k ++ if said[k]?.getD true = true then [] else [(k : Int)] := by
  unfold missK
  rw [List.range_succ, List.filter_append, List.map_append]
  congr 1
  cases h : said[k]?.getD true <;> simp [h]
theorem missK_len (said : List Bool) (k : Nat) : (missK said k).length ≤ k := by
  unfold missK
  rw [List.length_map]
  exact Nat.le_trans (List.length_filter_le _ _) (by simp)
/-- The message of a phase of this kind to a node. -/
def CS.msg (x : CS) (kind : Nat) (to : Int) : Ms :=
  ⟨2 * kind + 1, 64, to, x.job, if kind = 4 then 0 else x.job, if kind = 2 then 1 else if kind = 3 then 2 else 0, if kind = 1 ∨ kind = 2 then x.ver else 0, 0, 0, .string ByteArray.empty, .string ByteArray.empty⟩
def CS.sendS (x : CS) : List Ms := match x.now with
  | none => []
  | some p => (missK p.said p.said.length).map (x.msg p.kind)
def Ph.new (kind n : Nat) : Ph := ⟨kind, List.replicate n false, List.replicate n (-1), 0, 1⟩
def CS.enterS (x : CS) (kind : Nat) : CS × List Ms := ({ x with now := some (Ph.new kind x.n) }, ({ x with now := some (Ph.new kind x.n) } : CS).sendS)
def CS.endS (x : CS) (p : Ph) (outcome : Int) : CS × List Ms :=
  ({ x with now := none, ended := true, last := ⟨x.job, x.kind, x.ver, outcome, p.holds, missK p.said p.said.length⟩ }, [])
/-- What comes behind a refusal; behind all answers; behind the last sending; behind a Stop. -/
def CS.refusedS (x : CS) (p : Ph) : CS × List Ms := if p.kind = 1 ∨ p.kind = 2 then x.enterS 3 else (x, [])
def CS.doneS (x : CS) (p : Ph) : CS × List Ms := if p.kind = 1 then x.enterS 2 else x.endS p (if p.kind = 3 then 2 else 1)
def CS.lateS (x : CS) (p : Ph) : CS × List Ms := if p.kind = 1 ∨ p.kind = 2 then x.enterS 3 else x.endS p 3
def CS.stoppedS (x : CS) (p : Ph) : CS × List Ms := if p.kind = 1 ∨ p.kind = 2 then x.enterS 3 else if p.kind = 3 then (x, []) else x.endS p 3
structure Ans where
  x : CS
  out : List Ms
  err : Int
def CS.beginS (x : CS) (kind version : Int) : Ans :=
  if x.now.isSome then ⟨x, [], 150⟩
  else if ¬ (1 ≤ kind ∧ kind ≤ 3) then ⟨x, [], 152⟩
  else if (kind = 3 ∧ version ≠ 0) ∨ (kind ≠ 3 ∧ ¬ (1 ≤ version ∧ version ≤ 999999)) then ⟨x, [], 80⟩
  else if 9007199254740992 ≤ x.job then ⟨x, [], 3⟩
  else
    let r := ({ x with job := x.job + 1, kind := kind, ver := version } : CS).enterS (if kind = 3 then 4 else kind.toNat)
    ⟨r.1, r.2, 0⟩
/-- Is m an answer in this phase? -/
def CS.fits (x : CS) (p : Ph) (m : Ms) : Bool :=
  decide (m.kind = 2 * p.kind + 2) && (p.kind == 4 || decide (m.epoch = x.job)) && (if p.kind = 1 then decide (m.version = x.ver) else if p.kind = 2 then decide (m.seq = 1) && (decide (m.code ≠ 0) || decide (m.version = x.ver)) else if p.kind = 3 then decide (m.seq = 2) else true)
def Ph.take (p : Ph) (m : Ms) : Ph := { p with said := p.said.set m.sender.toNat true, holds := if p.kind = 1 then p.holds else p.holds.set m.sender.toNat m.version }
def CS.takeS (x : CS) (m : Ms) : CS × List Ms := match x.now with
  | none => (x, [])
  | some p =>
    if ¬ (0 ≤ m.sender ∧ m.sender < x.n ∧ m.id = x.job ∧ x.fits p m = true) then (x, [])
    else if p.said[m.sender.toNat]? = some true then (x, [])
    else if m.code ≠ 0 then x.refusedS p
    else if (p.take m).said.contains false then ({ x with now := some (p.take m) }, [])
    else ({ x with now := some (p.take m) } : CS).doneS (p.take m)
def CS.tickS (x : CS) : CS × List Ms := match x.now with
  | none => (x, [])
  | some p =>
    let p1 : Ph := { p with ticks := p.ticks + 1 }
    let x1 : CS := { x with now := some p1 }
    if p.kind = 1 then
      if x.patience ≤ p1.ticks then x1.lateS p1
      else if p1.ticks % x.resend = 0 then (x1, x1.sendS) else (x1, [])
    else if p1.ticks % x.resend ≠ 0 then (x1, [])
    else if x.limit ≤ p1.sends then x1.lateS p1
    else ({ x with now := some { p1 with sends := p1.sends + 1 } }, ({ x with now := some { p1 with sends := p1.sends + 1 } } : CS).sendS)
def CS.stopS (x : CS) : Ans := match x.now with
  | none => ⟨x, [], 151⟩
  | some p => ⟨(x.stoppedS p).1, (x.stoppedS p).2, 0⟩
def CS.reviveS (x : CS) : Ans := match x.now with
  | none => ⟨x, [], 151⟩
  | some _ => if x.kind = 3 then ⟨(x.endS (Ph.new 4 x.n) 3).1, [], 0⟩ else ⟨(x.enterS 3).1, (x.enterS 3).2, 0⟩
def CS.new (C : Clu) : CS := ⟨C.nodes.length, C.resend.toNat, C.limit.toNat, C.patience.toNat, 0, 0, 0, Option.none, false, Rep.none⟩
/-- A controller that goes on: what it is, what goes out, the error. -/
def CS.resumeS (C : Clu) (job kind version : Int) (isOpen : Bool) : Option CS × List Ms × Int :=
  if job < 0 ∨ 9007199254740992 < job ∨ (isOpen = true ∧ job = 0) then (none, [], 1)
  else if isOpen = false then (some { CS.new C with job := job }, [], 0)
  else if kind ≠ 1 ∧ kind ≠ 2 then (none, [], 152)
  else if version < 1 ∨ 999999 < version then (none, [], 80)
  else let r := ({ CS.new C with job := job, kind := kind, ver := version } : CS).enterS 3
    (some r.1, r.2, 0)

end Go.Proofs.YtpiceodfdjihhaaGreatDoor
