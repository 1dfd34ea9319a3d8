/-
  Layer 6 (ring), part A: the definition of a store, and what its small functions come to.
-/
import Derived.Test.YtiggkhmopnhfaaaDoorLiftS
import Derived.Test.YtiggkhmopnhfaaaDoorGZ
namespace Go.Proofs.YtiggkhmopnhfaaaDoor
open Go.Lift

/-- A store's definition. -/
structure Clu where
  store : ByteArray
  replicas : Int
  width : Int
  chunks : Int
  retain : Int
  block : Int
  rate : Int
  per : Int
  burst : Int
  tries : Int
  base : Int
  most : Int
  quota : Int
  room : Int
  depot : Int
  resend : Int
  limit : Int
  patience : Int
  getwait : Int
  strikes : Int
  ban : Int
  home : Int
  nodes : List (Int × List Int)

def I64 (n : Int) : Value := .int .i64 n
def Clu.cells (C : Clu) (nv : Value) : List Value :=
  [.string C.store, .int .i64 C.replicas, .int .i64 C.width, .int .i64 C.chunks, .int .i64 C.retain, .int .i64 C.block, .int .i64 C.rate, .int .i64 C.per, .int .i64 C.burst, .int .i64 C.tries,
    .int .i64 C.base, .int .i64 C.most, .int .i64 C.quota, .int .i64 C.room, .int .i64 C.depot, .int .i64 C.resend, .int .i64 C.limit, .int .i64 C.patience, .int .i64 C.getwait, .int .i64 C.strikes,
    .int .i64 C.ban, .int .i64 C.home, nv]
def Clu.val (C : Clu) (nv : Value) : Value := .agg (C.cells nv).toArray
/-- Numbers as a slice's elements. -/
def elI (l : List Int) : List (List Value) := l.map fun n => [.int .i64 n]
@[simp] theorem elI_len (l : List Int) : (elI l).length = l.length := by simp [elI]
@[simp] theorem elI_get (l : List Int) (i : Nat) : (elI l)[i]? = (l[i]?).map fun n => [.int .i64 n] := by simp [elI]
/-- A list of numbers. -/
def Ints (w : World) (v : Value) (l : List Int) : Prop := Sl 1 w v (elI l)
/-- A definition's nodes: pvs: their lists' values. -/
def elN (ns : List (Int × List Int)) (pvs : List Value) : List (List Value) := List.zipWith (fun n p => [.int .i64 n.1, p]) ns pvs
structure Nodes (w : World) (nv : Value) (ns : List (Int × List Int)) (pvs : List Value) : Prop where
  len : pvs.length = ns.length
  sl : Sl 2 w nv (elN ns pvs)
  parts : ∀ (i : Nat) (n : Int × List Int) (p : Value), ns[i]? = some n → pvs[i]? = some p → Ints w p n.2
/-- A definition that is as large as may be read. -/
structure Fits (C : Clu) : Prop where
  count : C.nodes.length ≤ 1048576
  parts : (C.nodes.map (·.2.length)).sum ≤ 1048576

theorem Nodes.fr {w w' : World} {F : Nat → Prop} {nv : Value} {ns : List (Int × List Int)} {pvs : List Value} (h : Nodes w nv ns pvs) (f : Fr F w w') (hd : ∀ b, inB nv b → ¬ F b) (hp : ∀ p ∈ pvs, ∀ b, inB p b → ¬ F b) : Nodes w' nv ns pvs :=
  ⟨h.len, h.sl.fr f hd, fun i n p h1 h2 => (h.parts i n p h1 h2).fr f (hp p (List.mem_of_getElem? h2))⟩
theorem Nodes.fr0 {w w' : World} {nv : Value} {ns : List (Int × List Int)} {pvs : List Value} (h : Nodes w nv ns pvs) (f : Fr (fun _ => False) w w') : Nodes w' nv ns pvs := h.fr f (fun _ _ => id) fun _ _ _ _ => id
theorem Nodes.length {w : World} {nv : Value} {ns : List (Int × List Int)} {pvs : List Value} (h : Nodes w nv ns pvs) : (elN ns pvs).length = ns.length := by simp [elN, h.len]
theorem Nodes.lenL {w : World} {nv : Value} {ns : List (Int × List Int)} {pvs : List Value} (h : Nodes w nv ns pvs) : lenL nv = some (.int .i64 ns.length) := by rw [h.sl.lenL, h.length]
theorem Nodes.get {w : World} {nv : Value} {ns : List (Int × List Int)} {pvs : List Value} (h : Nodes w nv ns pvs) {i : Nat} {n : Int × List Int} (hi : ns[i]? = some n) :
    ∃ p, pvs[i]? = some p ∧ (elN ns pvs)[i]? = some [.int .i64 n.1, p] ∧ Ints w p n.2 := by
  obtain ⟨hlt, rfl⟩ := List.getElem?_eq_some_iff.1 hi
  have hp : pvs[i]? = some (pvs[i]'(by rw [h.len]; exact hlt)) := List.getElem?_eq_getElem _
  refine ⟨_, hp, ?_, h.parts i _ _ hi hp⟩
  simp only [elN, List.getElem?_zipWith, hi, hp]

/-- Is n within? -/
theorem within_run (w : World) (n a b : Int) {Q : Value → World → Prop} : Run (F.ring_within (.int .i64 n) (.int .i64 a) (.int .i64 b)) w Q ↔ Q (.bool (decide (a ≤ n ∧ n ≤ b))) w := by
  unfold F.ring_within
  by_cases h : a ≤ n
  · by_cases h' : n ≤ b <;> simp [h, h']
  · simp [h]

end Go.Proofs.YtiggkhmopnhfaaaDoor
