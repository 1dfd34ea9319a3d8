/-
  THE LIFT, part A: the words of the functional form: state functions over the world, and what each operation of the model comes to in it.
-/
import Derived.Orders
import Derived.LoopN
import Derived.Scope
import Derived.Laws.Entries
import Derived.Laws.Append
import Derived.Laws.StructEq
namespace Go.Lift

/-- A step over the world that may fail. -/
abbrev M (α : Type) := World → Option (α × World)

def M.ret {α : Type} (a : α) : M α := fun w => some (a, w)
def M.fail {α : Type} : M α := fun _ => none
def M.bind {α β : Type} (m : M α) (k : α → M β) : M β := fun w => match m w with
  | some r => k r.1 r.2
  | none => none
def bindO {α β : Type} (o : Option α) (k : α → M β) : M β := match o with
  | some a => k a
  | none => M.fail
def condM {β : Type} (c : Value) (x y : M β) : M β := match c with
  | .bool true => x
  | .bool false => y
  | _ => M.fail
def guardM (g : Value) (want : Bool) (m : M Value) : M Value := match g with
  | .bool true => bif want then m else M.ret undef
  | .bool false => bif want then M.ret undef else m
  | _ => M.ret undef
def optM {α : Type} (o : Option α) : M α := bindO o M.ret
def rdM (r : World → Option Value) : M Value := fun w => match r w with
  | some v => some (v, w)
  | none => none
def drewM {β : Type} (k : M β) : M β := fun w => k w.drew
def getM {β : Type} (k : World → M β) : M β := fun w => k w w
open Classical in
noncomputable def reqM {β : Type} (p : Prop) (k : M β) : M β := if p then k else M.fail

/- The words for values. -/
def nilChk : Value → Option Value
  | .pointer (some a) => some (.pointer (some a))
  | .func (.func f) x y => some (.func (.func f) x y)
  | .iface t v => some (.iface t v)
  | _ => none
def pickV (c a b : Value) : Option Value := match c with
  | .bool true => some a
  | .bool false => some b
  | _ => none
def fieldA (off : Nat) : Value → Option Value
  | .pointer (some a) => some (.pointer (some (a.add off)))
  | _ => none
def partV (agg : Option Nat) (cs : Array Value) (off : Nat) : Option Value := match agg with
  | some n => some (.agg (cs.extract off (off + n)))
  | none => cs[off]?
def fieldV (agg : Option Nat) (off : Nat) : Value → Option Value
  | .agg cs => partV agg cs off
  | _ => none
def idxA (size : Nat) (x i : Value) : Option Value := match x, i with
  | .slice (some a) len _, .int _ n => if 0 ≤ n ∧ n < len then some (.pointer (some (a.add (n.toNat * size)))) else none
  | _, _ => none
def idxR (len size : Nat) (x i : Value) : Option Value := match x, i with
  | .pointer (some a), .int _ n => if 0 ≤ n ∧ n < len then some (.pointer (some (a.add (n.toNat * size)))) else none
  | _, _ => none
def idxS (x i : Value) : Option Value := match x, i with
  | .string s, .int _ n => if 0 ≤ n then (match s[n.toNat]? with | some b => some (.int .u8 b.toNat) | none => none) else none
  | _, _ => none
def idxG (agg : Option Nat) (len size : Nat) (x i : Value) : Option Value := match x, i with
  | .agg cs, .int _ n => if 0 ≤ n ∧ n < len then partV agg cs (n.toNat * size) else none
  | _, _ => none
def fillV (cells : Array Value) : List (Nat × Nat × Value) → Option (Array Value)
  | [] => some cells
  | (off, size, v) :: rest =>
    if v.cells.size ≠ size || off + v.cells.size > cells.size then none
    else fillV (v.cells.zipIdx.foldl (fun cs (c, j) => cs.setIfInBounds (off + j) c) cells) rest
def buildV (zero : Array Value) (parts : List (Nat × Nat × Value)) : Option Value := match fillV zero parts with
  | some cs => some (.agg cs)
  | none => none
def extV (i : Nat) : Value → Option Value
  | .tuple vs => vs[i]?
  | _ => none
def lenS : Value → Option Value
  | .string s => some (.int .i64 s.size)
  | _ => none
def lenL : Value → Option Value
  | .slice _ n _ => some (.int .i64 n)
  | _ => none
def capV : Value → Option Value
  | .slice _ _ c => some (.int .i64 c)
  | _ => none
def notV : Value → Option Value
  | .bool b => some (.bool !b)
  | _ => none
def negV : Value → Option Value
  | .int k n => some (.int k (k.wrap (0 - n)))
  | _ => none
def cplV : Value → Option Value
  | .int k n => some (.int k (k.wrap (BitVec.ofInt k.bits (if k.signed then -1 else k.max) ^^^ BitVec.ofInt k.bits n).toNat))
  | _ => none
def cvtI (k : IntKind) : Value → Option Value
  | .int _ n => some (.int k (k.wrap n))
  | _ => none
def cvtS : Value → Option Value
  | .string s => some (.string s)
  | _ => none
def boundV (x : Value) (y : Nat) : Option Nat := match x with
  | .int _ i => if 0 ≤ i ∧ i ≤ y then some i.toNat else none
  | _ => none
def lowV (low : Option Value) (h : Nat) : Option Nat := match low with
  | some v => boundV v h
  | none => some 0
def highV (high : Option Value) (len cap : Nat) : Option Nat := match high with
  | some v => boundV v cap
  | none => some len
/-- x[low:high] of a slice whose elements take 'size' cells. -/
def sliceV (size : Nat) (x : Value) (low high : Option Value) : Option Value := match x with
  | .slice a len cap => match highV high len cap with
    | some h => match lowV low h with
      | some l => some (.slice (if cap = l then a else a.map (·.add (l * size))) (h - l) (cap - l))
      | none => none
    | none => none
  | _ => none
/-- x[low:high:max] of a slice. -/
def sliceV3 (size : Nat) (x : Value) (low : Option Value) (high max : Value) : Option Value := match x with
  | .slice a _ cap => match boundV max cap with
    | some m => match boundV high m with
      | some h => match lowV low h with
        | some l => some (.slice (if m = l then a else a.map (·.add (l * size))) (h - l) (m - l))
        | none => none
      | none => none
    | none => none
  | _ => none
def sliceS (x : Value) (low high : Option Value) : Option Value := match x with
  | .string s => match highV high s.size s.size with
    | some h => match lowV low h with
      | some l => some (.string (s.extract l h))
      | none => none
    | none => none
  | _ => none
/-- x[low:high] of an array of n elements behind its address. -/
def sliceR (n size : Nat) (x : Value) (low high : Option Value) : Option Value := match x with
  | .pointer (some a) => match highV high n n with
    | some h => match lowV low h with
      | some l => some (.slice (some (if n = l then a else a.add (l * size))) (h - l) (n - l))
      | none => none
    | none => none
  | _ => none

def intBin (op : BinOp) (k : IntKind) (a b : Int) : Option Value := match op with
  | .add => some (.int k (k.wrap (a + b)))
  | .sub => some (.int k (k.wrap (a - b)))
  | .mul => some (.int k (k.wrap (a * b)))
  | .quo => if b = 0 then none else some (.int k (k.wrap (a.tdiv b)))
  | .rem => if b = 0 then none else some (.int k (a.tmod b))
  | .and => some (.int k (k.wrap (BitVec.ofInt k.bits a &&& BitVec.ofInt k.bits b).toNat))
  | .or => some (.int k (k.wrap (BitVec.ofInt k.bits a ||| BitVec.ofInt k.bits b).toNat))
  | .xor => some (.int k (k.wrap (BitVec.ofInt k.bits a ^^^ BitVec.ofInt k.bits b).toNat))
  | .andNot => some (.int k (k.wrap (BitVec.ofInt k.bits a &&& ~~~ BitVec.ofInt k.bits b).toNat))
  | .eql => some (.bool (a == b))
  | .neq => some (.bool (a != b))
  | .lss => some (.bool (a < b))
  | .leq => some (.bool (a ≤ b))
  | .gtr => some (.bool (a > b))
  | .geq => some (.bool (a ≥ b))
  | _ => none
def shV (op : BinOp) (x y : Value) : Option Value := match x, y with
  | .int k a, .int _ b => if b < 0 then none else (match op with
    | .shl => some (.int k (k.wrap (a * 2 ^ (min b.toNat k.bits))))
    | .shr => some (.int k (a.fdiv (2 ^ (min b.toNat k.bits))))
    | _ => none)
  | _, _ => none
def strBin (op : BinOp) (x y : ByteArray) : Option Value := match op with
  | .add => if ((x.size + y.size : Nat) : Int) > IntKind.i64.max then none else some (.string (x ++ y))
  | .eql => some (.bool (x.toList == y.toList))
  | .neq => some (.bool !(x.toList == y.toList))
  | .lss => some (.bool (Op.bytesLess x.toList y.toList))
  | .leq => some (.bool (Op.bytesLess x.toList y.toList || x.toList == y.toList))
  | .gtr => some (.bool !(Op.bytesLess x.toList y.toList || x.toList == y.toList))
  | .geq => some (.bool !(Op.bytesLess x.toList y.toList))
  | _ => none
/-- What is not a shift and no comparison of other kinds. -/
def binV (op : BinOp) (x y : Value) : Option Value := match x, y with
  | .int k a, .int k' b => if k = k' then intBin op k a b else none
  | .string a, .string b => strBin op a b
  | _, _ => none

/-- The kinds of one cell's values that are compared. -/
inductive EqK where
  | bool | int | str | ptr | sl | mp | fn | ifc | ifn
def eqPrim (k : EqK) (x y : Value) : Option Bool := match k, x, y with
  | .bool, .bool a, .bool b => some (a == b)
  | .int, .int k a, .int k' b => if k = k' then some (a == b) else none
  | .str, .string a, .string b => some (a.toList == b.toList)
  | .ptr, .pointer none, .pointer b => some b.isNone
  | .ptr, .pointer (some _), .pointer none => some false
  | .ptr, .pointer (some a), .pointer (some b) => if a.block = b.block then some (a == b) else none
  | .sl, .slice none _ _, .slice b _ _ => some b.isNone
  | .sl, .slice (some _) _ _, .slice none _ _ => some false
  | .mp, .map none, .map b => some b.isNone
  | .mp, .map (some _), .map none => some false
  | .fn, .nilFunc, .nilFunc => some true
  | .fn, .nilFunc, .func _ _ _ => some false
  | .fn, .func _ _ _, .nilFunc => some false
  | .ifc, .nilIface, .iface _ _ => some false
  | .ifc, .iface _ _, .nilIface => some false
  | .ifn, .nilIface, .nilIface => some true
  | .ifn, .nilIface, .iface _ _ => some false
  | .ifn, .iface _ _, .nilIface => some false
  | _, _, _ => none
def eqOffs (xs ys : Array Value) : List (EqK × Nat) → Option Bool
  | [] => some true
  | (k, o) :: rest => match xs[o]?, ys[o]? with
    | some a, some b => match eqPrim k a b with
      | some true => eqOffs xs ys rest
      | some false => some false
      | none => none
    | _, _ => none
/-- How values are compared: of one cell, or of structs, cell by cell at these places. -/
inductive EqSh where
  | one (k : EqK)
  | offs (l : List (EqK × Nat))
def eqlV (sh : EqSh) (x y : Value) : Option Bool := match sh with
  | .one k => eqPrim k x y
  | .offs l => match x, y with
    | .agg xs, .agg ys => eqOffs xs ys l
    | _, _ => none
def eqV (sh : EqSh) (x y : Value) : Option Value := match eqlV sh x y with
  | some b => some (.bool b)
  | none => none
def neV (sh : EqSh) (x y : Value) : Option Value := match eqlV sh x y with
  | some b => some (.bool !b)
  | none => none

/- The words for memory. -/
/-- The cells of a block. -/
def bk (w : World) (b : Nat) : Option (List Value) := match w.heap[b]? with
  | some (.cells c _ _) => some c.toList
  | _ => none
/-- May all cells of a block be written? -/
def wr (w : World) (b : Nat) : Bool := match w.heap[b]? with
  | some (.cells c _ (lo, hi)) => decide (hi ≤ lo ∨ c.size ≤ lo)
  | _ => false
def setL (l : List Value) (o : Nat) : List Value → List Value
  | [] => l
  | v :: r => setL (l.set o v) (o + 1) r
/-- The cells vs stored into block b from place o on. -/
def sto (w : World) (b o : Nat) (vs : List Value) : World :=
  { w with heap := w.heap.modify b fun
      | .cells c e f => .cells (setL c.toList o vs).toArray e f
      | x => x }
def ldC (w : World) (a : Addr) : Option Value := match a.spot with
  | none => match bk w a.block with
    | some l => l[a.off]?
    | none => none
  | some _ => none
def ld1 (p : Value) : World → Option Value := fun w => match p with
  | .pointer (some a) => ldC w a
  | _ => none
/-- n cells from address a on. -/
def ldN (w : World) (a : Addr) (n : Nat) : Option (List Value) := if n = 0 then some [] else match a.spot with
  | none => match bk w a.block with
    | some l => if a.off + n ≤ l.length then some ((l.drop a.off).take n) else none
    | none => none
  | some _ => none
def ldA (n : Nat) (p : Value) : World → Option Value := fun w => match p with
  | .pointer (some a) => match ldN w a n with
    | some l => some (.agg l.toArray)
    | none => none
  | _ => none
def isCell : Value → Bool
  | .agg _ | .tuple _ => false
  | _ => true
def stN (a : Addr) (vs : List Value) (w : World) : Option World := if vs = [] then some w else match a.spot with
  | none => match bk w a.block with
    | some l => if (a.off + vs.length ≤ l.length ∧ vs.all isCell = true) ∧ wr w a.block = true then some (sto w a.block a.off vs) else none
    | none => none
  | some _ => none
def stM (n : Nat) (p v : Value) : M Value := fun w => match p with
  | .pointer (some a) => if v.cells.size = n then (match stN a v.cells.toList w with
    | some w' => some (undef, w')
    | none => none) else none
  | _ => none
def newM (t : TypeId) (cs : Array Value) : M Value := fun w => some (.pointer (some ⟨w.heap.size, 0, none⟩), w.alloc (.cells cs t))
def bslM (e : TypeId) (len : Nat) (zero : Array Value) (parts : List (Nat × Nat × Value)) : M Value := fun w => match fillV zero parts with
  | some cs => some (.slice (some ⟨w.heap.size, 0, none⟩) len len, w.alloc (.cells cs e))
  | none => none
def lenN : Value → Option Nat
  | .slice _ n _ => some n
  | .string s => some s.size
  | _ => none
def firstN (w : World) (size n : Nat) : Value → Option (List Value)
  | .slice (some a) _ _ => ldN w a (n * size)
  | .slice none _ _ => some []
  | .string s => some (((s.extract 0 n).data.map fun b => Value.int .u8 b.toNat).toList)
  | _ => none
/-- append(s, x...): a slice of elements of type e, each of 'size' cells and 'bytes' bytes, 'zero' the cells of its zero value. -/
def appM (e : TypeId) (size bytes : Nat) (zero : Array Value) (s x : Value) : M Value := fun w => match s, lenN x with
  | .slice base sLen sCap, some n =>
    if sLen + n ≤ sCap then
      match firstN w size n x with
      | some new => match base with
        | some a => match stN (a.add (sLen * size)) new w with
          | some w' => some (.slice base (sLen + n) sCap, w')
          | none => none
        | none => some (.slice base (sLen + n) sCap, w)
      | none => none
    else if bytes = 0 ∨ Builtin.nextslicecap (sLen + n) sCap * bytes > 2 ^ 48 then none
    else
      match firstN w size sLen s, firstN w size n x with
      | some old, some new =>
        let c := (Question.appendCap (sLen + n) sCap e).cut (w.tape w.drawn (.appendCap (sLen + n) sCap e))
        some (.slice (some ⟨w.heap.size, 0, none⟩) (sLen + n) c,
          w.drew.alloc (.cells ((old ++ new).toArray ++ Builtin.zeroCells zero (c - (sLen + n))) e))
      | _, _ => none
  | _, _ => none
def cpyM (size : Nat) (dst src : Value) : M Value := fun w => match dst, lenN src with
  | .slice base dLen _, some sLen => match firstN w size (Nat.min sLen dLen) src with
    | some cs => match base with
      | some a => match stN a cs w with
        | some w' => some (.int .i64 (Nat.min sLen dLen), w')
        | none => none
      | none => some (.int .i64 (Nat.min sLen dLen), w)
    | none => none
  | _, _ => none
/-- make([]T, len, cap). -/
def mksM (e : TypeId) (size bytes : Nat) (zero : Array Value) (len cap : Value) : M Value := fun w => match len, cap with
  | .int _ l, .int _ c =>
    if IntKind.i64.wrap l < 0 ∨ IntKind.i64.wrap l > IntKind.i64.wrap c ∨ bytes * IntKind.i64.wrap c > 2 ^ 48 ∨ zero.size ≠ size then none
    else some (.slice (some ⟨w.heap.size, 0, none⟩) (IntKind.i64.wrap l).toNat (IntKind.i64.wrap c).toNat,
      w.alloc (.cells (Builtin.zeroCells zero (IntKind.i64.wrap c).toNat) e))
  | _, _ => none

/-- The bytes that cells hold. -/
def bytesV : List Value → Option (List UInt8)
  | [] => some []
  | .int .u8 n :: r => match bytesV r with
    | some l => some (UInt8.ofNat n.toNat :: l)
    | none => none
  | _ => none
/-- string(b). -/
def bsR (p : Value) : World → Option Value := fun w => match p with
  | .slice none _ _ => some (.string ByteArray.empty)
  | .slice (some a) len _ => match ldN w a len with
    | some l => match bytesV l with
      | some b => some (.string ⟨b.toArray⟩)
      | none => none
    | none => none
  | _ => none
/-- []byte(s). -/
def sbM (e : TypeId) (x : Value) : M Value := fun w => match x with
  | .string s =>
    let c := (Question.appendCap s.size 0 e).cut (w.tape w.drawn (.appendCap s.size 0 e))
    some (.slice (some ⟨w.heap.size, 0, none⟩) s.size c,
      w.drew.alloc (.cells ((s.data.map fun b => Value.int .u8 b.toNat) ++ Array.replicate (c - s.size) (.int .u8 0)) e (c, c + 1)))
  | _ => none

/- Loops. -/
inductive Out where
  | norm (l : List Value)
  | exit (id : Nat) (l : List Value)
  | ret (v : Value)
def iterM (step : List Value → M Out) : Nat → List Value → M Out
  | 0, _ => M.fail
  | n + 1, l => M.bind (step l) fun o => match o with
    | .norm l' => iterM step n l'
    | .exit id l' => M.ret (.exit id l')
    | .ret v => M.ret (.ret v)
open Classical in
/-- Rounds till one leaves. -/
noncomputable def loopM (step : List Value → M Out) (l : List Value) : M Out := fun w =>
  if h : ∃ r n, iterM step n l w = some r then some (Classical.choose h) else none
def getL (l : List Value) (i : Nat) : Value := l.getD i undef

end Go.Lift
