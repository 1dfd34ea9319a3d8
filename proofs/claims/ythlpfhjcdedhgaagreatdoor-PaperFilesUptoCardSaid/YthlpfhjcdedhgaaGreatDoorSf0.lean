/- What the statement rests on: part 1. -/
import Derived.Orders
import Derived.LoopN
import Derived.Scope
import Derived.Laws.Entries
import Derived.Laws.Append
import Derived.Laws.StructEq
import Derived.Laws.Tables
import Derived.Laws.MakeOwn
import Derived.Laws.Slices
import Derived.Laws.BytesArg
import Derived.ChangeKeysEq
import Derived.MapKept
import Derived.Laws.NewFold
import GoSem.Builtin.Delete
import GoSem.Instr.MapUpdate
import GoSem.Instr.MakeMap
import GoSem.Instr.Range
import GoSem.Instr.Next
import GoSem.Instr.Entry
import GoSem.Instr.MapEntry
namespace Go.Lift
abbrev M (α : Type):=World -> Option (α × World)
def M.ret {α : Type} (a : α) : M α:=λ w => some (a, w)
def M.fail {α : Type} : M α:=λ _ => none
def M.bind {α β : Type} (m : M α) (k : α -> M β) : M β:=λ w => match m w with
 | some r => k r.1 r.2
 | none => none
def bindO {α β : Type} (o : Option α) (k : α -> M β) : M β:=match o with
 | some a => k a
 | none => M.fail
def condM {β : Type} (c : Value) (x y : M β) : M β:=match c with
 | .bool true => x
 | .bool false => y
 | _ => M.fail
def guardM (g : Value) (want : Bool) (m : M Value) : M Value:=match g with
 | .bool true => bif want then m else M.ret undef
 | .bool false => bif want then M.ret undef else m
 | _ => M.ret undef
def optM {α : Type} (o : Option α) : M α:=bindO o M.ret
def rdM (r : World -> Option Value) : M Value:=λ w => match r w with
 | some v => some (v, w)
 | none => none
def drewM {β : Type} (k : M β) : M β:=λ w => k w.drew
def getM {β : Type} (k : World -> M β) : M β:=λ w => k w w
open Classical in
noncomputable def reqM {β : Type} (p : Prop) (k : M β) : M β:=if p then k else M.fail
def nilChk : Value -> Option Value
 | .pointer (some a) => some (.pointer (some a))
 | .func (.func f) x y => some (.func (.func f) x y)
 | .iface t v => some (.iface t v)
 | _ => none
def pickV (c a b : Value) : Option Value:=match c with
 | .bool true => some a
 | .bool false => some b
 | _ => none
def fieldA (off : Nat) : Value -> Option Value
 | .pointer (some a) => some (.pointer (some (a.add off)))
 | _ => none
def partV (agg : Option Nat) (cs : Array Value) (off : Nat) : Option Value:=match agg with
 | some n => some (.agg (cs.extract off (off + n)))
 | none => cs[off]?
def fieldV (agg : Option Nat) (off : Nat) : Value -> Option Value
 | .agg cs => partV agg cs off
 | _ => none
def idxA (size : Nat) (x i : Value) : Option Value:=match x, i with
 | .slice (some a) len _, .int _ n => if 0 <= n /\ n < len then some (.pointer (some (a.add (n.toNat * size)))) else none
 | _, _ => none
def idxR (len size : Nat) (x i : Value) : Option Value:=match x, i with
 | .pointer (some a), .int _ n => if 0 <= n /\ n < len then some (.pointer (some (a.add (n.toNat * size)))) else none
 | _, _ => none
def idxS (x i : Value) : Option Value:=match x, i with
 | .string s, .int _ n => if 0 <= n then (match s[n.toNat]? with | some b => some (.int .u8 b.toNat) | none => none) else none
 | _, _ => none
def idxG (agg : Option Nat) (len size : Nat) (x i : Value) : Option Value:=match x, i with
 | .agg cs, .int _ n => if 0 <= n /\ n < len then partV agg cs (n.toNat * size) else none
 | _, _ => none
def fillV (cells : Array Value) : List (Nat × Nat × Value) -> Option (Array Value)
 | [] => some cells
 | (off, size, v) :: rest =>
  if v.cells.size ≠ size || off + v.cells.size > cells.size then none
  else fillV (v.cells.zipIdx.foldl (λ cs (c, j) => cs.setIfInBounds (off + j) c) cells) rest
def buildV (zero : Array Value) (parts : List (Nat × Nat × Value)) : Option Value:=match fillV zero parts with
 | some cs => some (.agg cs)
 | none => none
def extV (i : Nat) : Value -> Option Value
 | .tuple vs => vs[i]?
 | _ => none
def lenS : Value -> Option Value
 | .string s => some (.int .i64 s.size)
 | _ => none
def lenL : Value -> Option Value
 | .slice _ n _ => some (.int .i64 n)
 | _ => none
def capV : Value -> Option Value
 | .slice _ _ c => some (.int .i64 c)
 | _ => none
def notV : Value -> Option Value
 | .bool b => some (.bool !b)
 | _ => none
def negV : Value -> Option Value
 | .int k n => some (.int k (k.wrap (0 - n)))
 | _ => none
def cplV : Value -> Option Value
 | .int k n => some (.int k (k.wrap (BitVec.ofInt k.bits (if k.signed then -1 else k.max) ^^^ BitVec.ofInt k.bits n).toNat))
 | _ => none
def cvtI (k : IntKind) : Value -> Option Value
 | .int _ n => some (.int k (k.wrap n))
 | _ => none
def cvtS : Value -> Option Value
 | .string s => some (.string s)
 | _ => none
def boundV (x : Value) (y : Nat) : Option Nat:=match x with
 | .int _ i => if 0 <= i /\ i <= y then some i.toNat else none
 | _ => none
def lowV (low : Option Value) (h : Nat) : Option Nat:=match low with
 | some v => boundV v h
 | none => some 0
def highV (high : Option Value) (len cap : Nat) : Option Nat:=match high with
 | some v => boundV v cap
 | none => some len
def sliceV (size : Nat) (x : Value) (low high : Option Value) : Option Value:=match x with
 | .slice a len cap => match highV high len cap with
  | some h => match lowV low h with
   | some l => some (.slice (if cap = l then a else a.map (·.add (l * size))) (h - l) (cap - l))
   | none => none
  | none => none
 | _ => none
def sliceV3 (size : Nat) (x : Value) (low : Option Value) (high max : Value) : Option Value:=match x with
 | .slice a _ cap => match boundV max cap with
  | some m => match boundV high m with
   | some h => match lowV low h with
    | some l => some (.slice (if m = l then a else a.map (·.add (l * size))) (h - l) (m - l))
    | none => none
   | none => none
  | none => none
 | _ => none
def sliceS (x : Value) (low high : Option Value) : Option Value:=match x with
 | .string s => match highV high s.size s.size with
  | some h => match lowV low h with
   | some l => some (.string (s.extract l h))
   | none => none
  | none => none
 | _ => none
def sliceR (n size : Nat) (x : Value) (low high : Option Value) : Option Value:=match x with
 | .pointer (some a) => match highV high n n with
  | some h => match lowV low h with
   | some l => some (.slice (some (if n = l then a else a.add (l * size))) (h - l) (n - l))
   | none => none
  | none => none
 | _ => none
def intBin (op : BinOp) (k : IntKind) (a b : Int) : Option Value:=match op with
 | .add => some (.int k (k.wrap (a + b)))
 | .sub => some (.int k (k.wrap (a - b)))
 | .mul => some (.int k (k.wrap (a * b)))
 | .quo => if b = 0 then none else some (.int k (k.wrap (a.tdiv b)))
 | .rem => if b = 0 then none else some (.int k (a.tmod b))
 | .and => some (.int k (k.wrap (BitVec.ofInt k.bits a &&& BitVec.ofInt k.bits b).toNat))
 | .or => some (.int k (k.wrap (BitVec.ofInt k.bits a ||| BitVec.ofInt k.bits b).toNat))
 | .xor => some (.int k (k.wrap (BitVec.ofInt k.bits a ^^^ BitVec.ofInt k.bits b).toNat))
 | .andNot => some (.int k (k.wrap (BitVec.ofInt k.bits a &&& ~~~ BitVec.ofInt k.bits b).toNat))
 | .eql => some (.bool (a == b))
 | .neq => some (.bool (a != b))
 | .lss => some (.bool (a < b))
 | .leq => some (.bool (a <= b))
 | .gtr => some (.bool (a > b))
 | .geq => some (.bool (a >= b))
 | _ => none
def shV (op : BinOp) (x y : Value) : Option Value:=match x, y with
 | .int k a, .int _ b => if b < 0 then none else (match op with
  | .shl => some (.int k (k.wrap (a * 2 ^ (min b.toNat k.bits))))
  | .shr => some (.int k (a.fdiv (2 ^ (min b.toNat k.bits))))
  | _ => none)
 | _, _ => none
def strBin (op : BinOp) (x y : ByteArray) : Option Value:=match op with
 | .add => if ((x.size + y.size : Nat) : Int) > IntKind.i64.max then none else some (.string (x ++ y))
 | .eql => some (.bool (x.toList == y.toList))
 | .neq => some (.bool !(x.toList == y.toList))
 | .lss => some (.bool (Op.bytesLess x.toList y.toList))
 | .leq => some (.bool (Op.bytesLess x.toList y.toList || x.toList == y.toList))
 | .gtr => some (.bool !(Op.bytesLess x.toList y.toList || x.toList == y.toList))
 | .geq => some (.bool !(Op.bytesLess x.toList y.toList))
 | _ => none
def binV (op : BinOp) (x y : Value) : Option Value:=match x, y with
 | .int k a, .int k' b => if k = k' then intBin op k a b else none
 | .string a, .string b => strBin op a b
 | _, _ => none
inductive EqK where
 | bool | int | str | ptr | sl | mp | fn | ifc | ifn
def eqPrim (k : EqK) (x y : Value) : Option Bool:=match k, x, y with
 | .bool, .bool a, .bool b => some (a == b)
 | .int, .int k a, .int k' b => if k = k' then some (a == b) else none
 | .str, .string a, .string b => some (a.toList == b.toList)
 | .ptr, .pointer none, .pointer b => some b.isNone
 | .ptr, .pointer (some _), .pointer none => some false
 | .ptr, .pointer (some a), .pointer (some b) => if a.block = b.block then some (a == b) else none
 | .sl, .slice none _ _, .slice b _ _ => some b.isNone
 | .sl, .slice (some _) _ _, .slice none _ _ => some false
 | .mp, .map none, .map b => some b.isNone
 | .mp, .map (some _), .map none => some false
 | .fn, .nilFunc, .nilFunc => some true
 | .fn, .nilFunc, .func _ _ _ => some false
 | .fn, .func _ _ _, .nilFunc => some false
 | .ifc, .nilIface, .iface _ _ => some false
 | .ifc, .iface _ _, .nilIface => some false
 | .ifn, .nilIface, .nilIface => some true
 | .ifn, .nilIface, .iface _ _ => some false
 | .ifn, .iface _ _, .nilIface => some false
 | _, _, _ => none
def eqOffs (xs ys : Array Value) : List (EqK × Nat) -> Option Bool
 | [] => some true
 | (k, o) :: rest => match xs[o]?, ys[o]? with
  | some a, some b => match eqPrim k a b with
   | some true => eqOffs xs ys rest
   | some false => some false
   | none => none
  | _, _ => none
inductive EqSh where
 | one (k : EqK)
 | offs (l : List (EqK × Nat))
def eqlV (sh : EqSh) (x y : Value) : Option Bool:=match sh with
 | .one k => eqPrim k x y
 | .offs l => match x, y with
  | .agg xs, .agg ys => eqOffs xs ys l
  | _, _ => none
def eqV (sh : EqSh) (x y : Value) : Option Value:=match eqlV sh x y with
 | some b => some (.bool b)
 | none => none
def neV (sh : EqSh) (x y : Value) : Option Value:=match eqlV sh x y with
 | some b => some (.bool !b)
 | none => none
def bk (w : World) (b : Nat) : Option (List Value):=match w.heap[b]? with
 | some (.cells c _ _) => some c.toList
 | _ => none
def wr (w : World) (b : Nat) : Bool:=match w.heap[b]? with
 | some (.cells c _ (lo, hi)) => decide (hi <= lo ∨ c.size <= lo)
 | _ => false
def setL (l : List Value) (o : Nat) : List Value -> List Value
 | [] => l
 | v :: r => setL (l.set o v) (o + 1) r
def sto (w : World) (b o : Nat) (vs : List Value) : World :=
 { w with heap:=w.heap.modify b λ
   | .cells c e f => .cells (setL c.toList o vs).toArray e f
   | x => x }
def ldC (w : World) (a : Addr) : Option Value:=match a.spot with
 | none => match bk w a.block with
  | some l => l[a.off]?
  | none => none
 | some _ => none
def ld1 (p : Value) : World -> Option Value:=λ w => match p with
 | .pointer (some a) => ldC w a
 | _ => none
def ldN (w : World) (a : Addr) (n : Nat) : Option (List Value):=if n = 0 then some [] else match a.spot with
 | none => match bk w a.block with
  | some l => if a.off + n <= l.length then some ((l.drop a.off).take n) else none
  | none => none
 | some _ => none
def ldA (n : Nat) (p : Value) : World -> Option Value:=λ w => match p with
 | .pointer (some a) => match ldN w a n with
  | some l => some (.agg l.toArray)
  | none => none
 | _ => none
def isCell : Value -> Bool
 | .agg _ | .tuple _ => false
 | _ => true
def stN (a : Addr) (vs : List Value) (w : World) : Option World:=if vs = [] then some w else match a.spot with
 | none => match bk w a.block with
  | some l => if (a.off + vs.length <= l.length /\ vs.all isCell = true) /\ wr w a.block = true then some (sto w a.block a.off vs) else none
  | none => none
 | some _ => none
def stM (n : Nat) (p v : Value) : M Value:=λ w => match p with
 | .pointer (some a) => if v.cells.size = n then (match stN a v.cells.toList w with
  | some w' => some (undef, w')
  | none => none) else none
 | _ => none
def newM (t : TypeId) (cs : Array Value) : M Value:=λ w => some (.pointer (some ⟨w.heap.size, 0, none⟩), w.alloc (.cells cs t))
def bslM (e : TypeId) (len : Nat) (zero : Array Value) (parts : List (Nat × Nat × Value)) : M Value:=λ w => match fillV zero parts with
 | some cs => some (.slice (some ⟨w.heap.size, 0, none⟩) len len, w.alloc (.cells cs e))
 | none => none
def lenN : Value -> Option Nat
 | .slice _ n _ => some n
 | .string s => some s.size
 | _ => none
def firstN (w : World) (size n : Nat) : Value -> Option (List Value)
 | .slice (some a) _ _ => ldN w a (n * size)
 | .slice none _ _ => some []
 | .string s => some (((s.extract 0 n).data.map λ b => Value.int .u8 b.toNat).toList)
 | _ => none
def appM (e : TypeId) (size bytes : Nat) (zero : Array Value) (s x : Value) : M Value:=λ w => match s, lenN x with
 | .slice base sLen sCap, some n =>
  if sLen + n <= sCap then
   match firstN w size n x with
   | some new => match base with
    | some a => match stN (a.add (sLen * size)) new w with
     | some w' => some (.slice base (sLen + n) sCap, w')
     | none => none
    | none => some (.slice base (sLen + n) sCap, w)
   | none => none
  else if bytes = 0 ∨ Builtin.nextslicecap (sLen + n) sCap * bytes > 2 ^ 48 then none
  else
   match firstN w size sLen s, firstN w size n x with
   | some old, some new =>
    let c:=(Question.appendCap (sLen + n) sCap e).cut (w.tape w.drawn (.appendCap (sLen + n) sCap e))
    some (.slice (some ⟨w.heap.size, 0, none⟩) (sLen + n) c,
     w.drew.alloc (.cells ((old ++ new).toArray ++ Builtin.zeroCells zero (c - (sLen + n))) e))
   | _, _ => none
 | _, _ => none
def cpyM (size : Nat) (dst src : Value) : M Value:=λ w => match dst, lenN src with
 | .slice base dLen _, some sLen => match firstN w size (Nat.min sLen dLen) src with
  | some cs => match base with
   | some a => match stN a cs w with
    | some w' => some (.int .i64 (Nat.min sLen dLen), w')
    | none => none
   | none => some (.int .i64 (Nat.min sLen dLen), w)
  | none => none
 | _, _ => none
def mksM (e : TypeId) (size bytes : Nat) (zero : Array Value) (len cap : Value) : M Value:=λ w => match len, cap with
 | .int _ l, .int _ c =>
  if IntKind.i64.wrap l < 0 ∨ IntKind.i64.wrap l > IntKind.i64.wrap c ∨ bytes * IntKind.i64.wrap c > 2 ^ 48 ∨ zero.size ≠ size then none
  else some (.slice (some ⟨w.heap.size, 0, none⟩) (IntKind.i64.wrap l).toNat (IntKind.i64.wrap c).toNat,
   w.alloc (.cells (Builtin.zeroCells zero (IntKind.i64.wrap c).toNat) e))
 | _, _ => none
def bytesV : List Value -> Option (List UInt8)
 | [] => some []
 | .int .u8 n :: r => match bytesV r with
  | some l => some (UInt8.ofNat n.toNat :: l)
  | none => none
 | _ => none
def bsR (p : Value) : World -> Option Value:=λ w => match p with
 | .slice none _ _ => some (.string ByteArray.empty)
 | .slice (some a) len _ => match ldN w a len with
  | some l => match bytesV l with
   | some b => some (.string ⟨b.toArray⟩)
   | none => none
  | none => none
 | _ => none
def sbM (e : TypeId) (x : Value) : M Value:=λ w => match x with
 | .string s =>
  let c:=(Question.appendCap s.size 0 e).cut (w.tape w.drawn (.appendCap s.size 0 e))
  some (.slice (some ⟨w.heap.size, 0, none⟩) s.size c,
   w.drew.alloc (.cells ((s.data.map λ b => Value.int .u8 b.toNat) ++ Array.replicate (c - s.size) (.int .u8 0)) e (c, c + 1)))
 | _ => none
inductive Out where
 | norm (l : List Value)
 | exit (id : Nat) (l : List Value)
 | ret (v : Value)
def iterM (step : List Value -> M Out) : Nat -> List Value -> M Out
 | 0, _ => M.fail
 | n + 1, l => M.bind (step l) λ o => match o with
  | .norm l' => iterM step n l'
  | .exit id l' => M.ret (.exit id l')
  | .ret v => M.ret (.ret v)
open Classical in
noncomputable def loopM (step : List Value -> M Out) (l : List Value) : M Out:=λ w =>
 if h : ∃ r n, iterM step n l w = some r then some (Classical.choose h) else none
def getL (l : List Value) (i : Nat) : Value:=l.getD i undef
end Go.Lift
namespace Go.Lift
set_option linter.unusedSimpArgs false
section
variable {P : Program}
theorem bk_cells {w : World} {b : Nat} {l : List Value} (h : bk w b = some l) : ∃ c e m, w.heap[b]? = some (.cells c e m) /\ c.toList = l:=by
 unfold bk at h
 split at h
 ·rename_i c e m hb
  exact ⟨c, e, m, hb, by simpa using h⟩
 ·cases h
theorem cell_bk {w : World} {b o : Nat} {l : List Value} (h : bk w b = some l) : w.cell? ⟨b, o, none⟩ = l[o]?:=by
 obtain ⟨c, e, m, hb, rfl⟩:=bk_cells h
 simp [World.cell?, hb]
theorem frozen_bk {w : World} {b o : Nat} {l : List Value} (h : bk w b = some l) (hw : wr w b = true) (ho : o < l.length) : w.frozen? ⟨b, o, none⟩ = false:=by
 obtain ⟨c, e, m, hb, rfl⟩:=bk_cells h
 obtain ⟨lo, hi⟩:=m
 have hm : hi <= lo ∨ c.size <= lo:=by simpa [wr, hb] using hw
 have ho' : o < c.size:=by simpa using ho
 simp only [World.frozen?, hb]
 cases h1 : decide (lo <= o) with
 | false => rfl
 | true =>
  have:=of_decide_eq_true h1
  simp only [Bool.true_and, decide_eq_false_iff_not]
  omega
theorem cell_ldC {w : World} {a : Addr} {v : Value} (h : ldC w a = some v) : w.cell? a = some v:=by
 obtain ⟨b, o, s⟩:=a
 unfold ldC at h
 cases s with
 | some s => simp at h
 | none =>
  simp only [] at h
  cases hb : bk w b with
  | none => simp [hb] at h
  | some l => simp only [hb] at h; rw [cell_bk hb]; exact h
theorem run_loadFrom {w : World} {b o : Nat} {l : List Value} (hb : bk w b = some l) : ∀ (n i : Nat) (acc : Array Value), o + i + n <= l.length ->
  (loadCellsFrom ⟨b, o, none⟩ i n acc).run P w = .ok (acc ++ ((l.drop (o + i)).take n).toArray) w
 | 0, i, acc, _ => by simp [loadCellsFrom]
 | n + 1, i, acc, h => by
  have hadd : (⟨b, o, none⟩ : Addr).add i = ⟨b, o + i, none⟩:=by unfold Addr.add; split <;> simp_all
  have hlt : o + i < l.length:=by omega
  have hc : w.cell? ((⟨b, o, none⟩ : Addr).add i) = some l[o + i]:=by rw [hadd, cell_bk hb]; simp [hlt]
  simp only [loadCellsFrom, Sem.run_bind, run_load, hc, Result.andThen_ok]
  rw [run_loadFrom hb n (i + 1) _ (by omega)]
  congr 1
  rw [List.drop_eq_getElem_cons hlt, List.take_succ_cons]
  simp [Nat.add_assoc]
theorem run_loadCells_ldN {a : Addr} {n : Nat} {w : World} {l : List Value} (h : ldN w a n = some l) : (loadCells a n).run P w = .ok l.toArray w:=by
 unfold ldN at h
 by_cases hn : n = 0
 ·subst hn; simp at h; subst h; simp [loadCells, loadCellsFrom]
 ·rw [if_neg hn] at h
  obtain ⟨b, o, s⟩:=a
  cases s with
  | some s => simp at h
  | none =>
   simp only [] at h
   cases hb : bk w b with
   | none => simp [hb] at h
   | some m =>
    simp only [hb] at h
    split at h
    ·rename_i hle
     cases h
     have:=run_loadFrom (P:=P) hb n 0 #[] (by omega)
     simpa [loadCells] using this
    ·cases h
theorem isCell_eq (v : Value) : isCell v = v.oneCell':=by cases v <;> rfl
theorem setCell_sto {w : World} {b o : Nat} {l : List Value} (h : bk w b = some l) (v : Value) : w.setCell ⟨b, o, none⟩ v = sto w b o [v]:=by
 obtain ⟨c, e, m, hb, rfl⟩:=bk_cells h
 unfold World.setCell sto
 congr 1
 apply Array.ext_getElem?
 intro i
 simp only [Array.getElem?_modify]
 by_cases hbi : b = i
 ·subst hbi
  simp only [if_true, hb, Option.map_some, setL]
  simp only [Option.isSome_none, Bool.false_eq_true, if_false]
  congr 2
  apply Array.ext'
  simp
 ·simp [hbi]
theorem length_setL : ∀ (vs : List Value) (l : List Value) (o : Nat), (setL l o vs).length = l.length
 | [], _, _ => rfl
 | v :: r, l, o => by simp [setL, length_setL r]
theorem bk_sto_same {w : World} {b o : Nat} {l : List Value} (h : bk w b = some l) (vs : List Value) : bk (sto w b o vs) b = some (setL l o vs):=by
 obtain ⟨c, e, m, hb, rfl⟩:=bk_cells h
 have hb' : (sto w b o vs).heap[b]? = some (.cells (setL c.toList o vs).toArray e m):=by
  simp [sto, Array.getElem?_modify, hb]
 unfold bk
 rw [hb']
@[simp] theorem wr_sto (w : World) (b o : Nat) (vs : List Value) (b' : Nat) : wr (sto w b o vs) b' = wr w b':=by
 unfold wr sto
 simp only [Array.getElem?_modify]
 by_cases h : b = b'
 ·subst h
  rw [if_pos rfl]
  cases hh : w.heap[b]? with
  | none => rfl
  | some x =>
   cases x <;> simp [length_setL]
 ·rw [if_neg h]
theorem sto_sto (w : World) (b o : Nat) (v : Value) (vs : List Value) : sto (sto w b o [v]) b (o + 1) vs = sto w b o (v :: vs):=by
 unfold sto
 congr 1
 apply Array.ext_getElem?
 intro i
 simp only [Array.getElem?_modify]
 by_cases hbi : b = i
 ·subst hbi
  cases hh : w.heap[b]? with
  | none => simp
  | some x => cases x <;> simp [setL]
 ·simp [hbi]
theorem sto_nil (w : World) (b o : Nat) : sto w b o [] = w:=by
 have h : (sto w b o []).heap = w.heap:=by
  unfold sto
  apply Array.ext_getElem?
  intro i
  simp only [Array.getElem?_modify]
  by_cases hbi : b = i
  ·subst hbi
   cases hh : w.heap[b]? with
   | none => simp
   | some x => cases x <;> simp [setL]
  ·simp [hbi]
 show ({ w with heap:=(sto w b o []).heap } : World) = w
 rw [h]
theorem run_storeFrom {b o : Nat} : ∀ (vs : List Value) (i : Nat) (w : World) (l : List Value), bk w b = some l -> wr w b = true -> o + i + vs.length <= l.length -> vs.all isCell = true ->
  (storeCells ⟨b, o, none⟩ vs i).run P w = .ok () (sto w b (o + i) vs)
 | [], i, w, l, _, _, _, _ => by simp [storeCells, sto_nil]
 | v :: vs, i, w, l, hb, hw, hl, hc => by
  simp only [List.length_cons] at hl
  simp only [List.all_cons, Bool.and_eq_true] at hc
  have hadd : (⟨b, o, none⟩ : Addr).add i = ⟨b, o + i, none⟩:=by unfold Addr.add; split <;> simp_all
  have hlt : o + i < l.length:=by omega
  have hs:=run_store P w ⟨b, o + i, none⟩ v .plain (by rw [<- isCell_eq]; exact hc.1)
  have hcell : w.cell? ⟨b, o + i, none⟩ = some l[o + i]:=by rw [cell_bk hb]; simp [hlt]
  simp only [hcell, frozen_bk hb hw hlt, Bool.false_eq_true, if_false] at hs
  simp only [storeCells, Sem.run_bind, hadd, hs, Result.andThen_ok]
  rw [setCell_sto hb]
  rw [run_storeFrom vs (i + 1) _ (setL l (o + i) [v]) (bk_sto_same hb _) (by simpa using hw) (by rw [length_setL]; omega) hc.2]
  rw [show o + (i + 1) = o + i + 1 by omega, sto_sto]
theorem run_stN {a : Addr} {vs : List Value} {w w' : World} (h : stN a vs w = some w') : (storeCells a vs).run P w = .ok () w':=by
 unfold stN at h
 by_cases hv : vs = []
 ·subst hv; simp at h; subst h; simp [storeCells]
 ·rw [if_neg hv] at h
  obtain ⟨b, o, s⟩:=a
  cases s with
  | some s => simp at h
  | none =>
   simp only [] at h
   cases hb : bk w b with
   | none => simp [hb] at h
   | some l =>
    simp only [hb] at h
    split at h
    ·rename_i hle
     cases h
     have:=run_storeFrom (P:=P) (o:=o) vs 0 w l hb hle.2 (by omega) hle.1.2
     simpa using this
    ·cases h
def aggOf (P : Program) (t : TypeId) : Option (Option Nat):=match P.underlying t with
 | some (.struct _) | some (.array _ _) => match P.info? t with
  | some i => some (some i.size)
  | none => none
 | some _ => some none
 | none => none
theorem run_isAgg_some {t : TypeId} {n : Nat} (h : aggOf P t = some (some n)) (w : World) :
  (isAgg t).run P w = .ok true w /\ (sizeOf t).run P w = .ok n w:=by
 unfold aggOf at h
 cases hu : P.underlying t with
 | none => simp [hu] at h
 | some d =>
  cases hi : P.info? t with
  | none => cases d <;> simp [hu, hi] at h
  | some i => cases d <;> simp [hu, hi] at h <;> simp [isAgg, run_underlying hu, sizeOf, typeInfo, hi, h]
theorem run_isAgg_none {t : TypeId} (h : aggOf P t = some none) (w : World) : (isAgg t).run P w = .ok false w:=by
 unfold aggOf at h
 cases hu : P.underlying t with
 | none => simp [hu] at h
 | some d => cases d <;> simp [hu] at h <;> (try (cases hi : P.info? t <;> simp [hi] at h; done)) <;> simp [isAgg, run_underlying hu]
def ldT (agg : Option Nat) (p : Value) : World -> Option Value:=match agg with
 | none => ld1 p
 | some n => ldA n p
theorem run_loadAt {t : TypeId} {g : Option Nat} (h : aggOf P t = some g) {p v : Value} {w : World} (hl : ldT g p w = some v) :
  (Instr.loadAt t p).run P w = .ok v w:=by
 cases g with
 | none =>
  simp only [ldT, ld1] at hl
  split at hl
  ·simp [Instr.loadAt, Instr.sureAddr, loadVar, run_isAgg_none h, cell_ldC hl]
  ·cases hl
 | some n =>
  simp only [ldT, ldA] at hl
  split at hl
  ·rename_i a
   cases hn : ldN w a n with
   | none => simp [hn] at hl
   | some l =>
    simp [hn] at hl
    subst hl
    have:=run_isAgg_some h
    simp [Instr.loadAt, Instr.sureAddr, loadVar, (this w).1, (this w).2, run_loadCells_ldN hn]
  ·cases hl
theorem run_storeAt {t : TypeId} {i : TypeInfo} (h : P.info? t = some i) {p v u : Value} {w w' : World} (hl : stM i.size p v w = some (u, w')) :
  u = undef /\ (Instr.storeAt t p v).run P w = .ok () w':=by
 simp only [stM] at hl
 split at hl
 ·rename_i a
  split at hl
  ·rename_i hs
   cases hn : stN a v.cells.toList w with
   | none => simp [hn] at hl
   | some w1 =>
    simp [hn] at hl
    obtain ⟨rfl, rfl⟩:=hl
    refine ⟨rfl, ?_⟩
    simp [Instr.storeAt, Instr.sureAddr, storeVar, sizeOf, typeInfo, h, hs, run_stN hn]
  ·cases hl
 ·cases hl
theorem run_fieldAt {t : TypeId} {fs : Array Field} {f : Field} {k : Nat} {i : TypeInfo} (hu : P.underlying t = some (.struct fs)) (hf : fs[k]? = some f)
  (hi : P.info? f.type = some i) (hs : i.size ≠ 0) {p v : Value} (hl : fieldA f.offset p = some v) (w : World) : (Instr.fieldAt t p k).run P w = .ok v w:=by
 simp only [fieldA] at hl
 split at hl
 ·cases hl
  simp [Instr.fieldAt, run_underlying hu, hf, Instr.sureAddr, fieldPlace, sizeOf, typeInfo, hi, hs]
 ·cases hl
theorem run_part {t : TypeId} {g : Option Nat} (h : aggOf P t = some g) {cs : Array Value} {off : Nat} {v : Value} (hl : partV g cs off = some v) (w : World) :
  (part t cs off).run P w = .ok v w:=by
 cases g with
 | none =>
  simp only [partV] at hl
  simp [part, run_isAgg_none h, hl]
 | some n =>
  simp only [partV, Option.some.injEq] at hl
  subst hl
  have:=run_isAgg_some h
  simp [part, (this w).1, (this w).2]
theorem run_fieldV {t : TypeId} {fs : Array Field} {f : Field} {k : Nat} {g : Option Nat} (hu : P.underlying t = some (.struct fs)) (hf : fs[k]? = some f)
  (hg : aggOf P f.type = some g) {x v : Value} (hl : fieldV g f.offset x = some v) (w : World) : (Instr.field t x k).run P w = .ok v w:=by
 simp only [fieldV] at hl
 split at hl
 ·simp [Instr.field, run_underlying hu, hf, asAgg, run_part hg hl]
 ·cases hl
theorem run_idxA {t e : TypeId} {i : TypeInfo} (hu : P.underlying t = some (.slice e)) (hi : P.info? e = some i) {x ix v : Value} (hl : idxA i.size x ix = some v) (w : World) :
  (Instr.indexAt t x ix).run P w = .ok v w:=by
 simp only [idxA] at hl
 split at hl
 ·split at hl
  ·cases hl
   rename_i h
   simp [Instr.indexAt, asIntOf, run_underlying hu, h, sizeOf, typeInfo, hi]
  ·cases hl
 ·cases hl
theorem run_idxR {t e : TypeId} {n : Nat} {i : TypeInfo} (hu : P.underlying t = some (.array n e)) (hi : P.info? e = some i) {x ix v : Value} (hl : idxR n i.size x ix = some v) (w : World) :
  (Instr.indexAt t x ix).run P w = .ok v w:=by
 simp only [idxR] at hl
 split at hl
 ·split at hl
  ·cases hl
   rename_i h
   simp [Instr.indexAt, asIntOf, run_underlying hu, Instr.sureAddr, h, sizeOf, typeInfo, hi]
  ·cases hl
 ·cases hl
theorem run_idxS {t : TypeId} (hu : P.underlying t = some .string) {x ix v : Value} (hl : idxS x ix = some v) (w : World) :
  (Instr.index t x ix).run P w = .ok v w:=by
 simp only [idxS] at hl
 split at hl
 ·split at hl
  ·split at hl
   ·cases hl
    rename_i h _ _ hb
    simp [Instr.index, asIntOf, run_underlying hu, h, hb]
   ·cases hl
  ·cases hl
 ·cases hl
theorem run_idxG {t e : TypeId} {n : Nat} {i : TypeInfo} {g : Option Nat} (hu : P.underlying t = some (.array n e)) (hi : P.info? e = some i) (hg : aggOf P e = some g) {x ix v : Value} (hl : idxG g n i.size x ix = some v) (w : World) :
  (Instr.index t x ix).run P w = .ok v w:=by
 simp only [idxG] at hl
 split at hl
 ·split at hl
  ·rename_i h
   simp [Instr.index, asIntOf, run_underlying hu, h, sizeOf, typeInfo, hi, run_part hg hl]
  ·cases hl
 ·cases hl
theorem run_nilChk {ρ : Operand -> Value} {o : Oper} {x : Operand} (ho : o.op = .nilCheck x) {v : Value} (hl : nilChk (ρ x) = some v) (w : World) :
  (execOp ρ o).run P w = .ok (.value v) w:=by
 simp only [nilChk] at hl
 split at hl <;> first
  | (cases hl; rename_i h; simp [execOp, ho, h])
  | cases hl
theorem run_unary_not {x v : Value} (hl : notV x = some v) (w : World) : (Op.unary .not x).run P w = .ok v w:=by
 simp only [notV] at hl
 split at hl <;> cases hl <;> simp [Op.unary]
theorem run_unary_cpl {x v : Value} (hl : cplV x = some v) (w : World) : (Op.unary .xor x).run P w = .ok v w:=by
 unfold cplV at hl
 split at hl
 ·cases hl; simp [Op.unary, Op.intBits]
 ·cases hl
theorem run_unary_neg {x v : Value} (hl : negV x = some v) (w : World) : (Op.unary .neg x).run P w = .ok v w:=by
 simp only [negV] at hl
 split at hl <;> cases hl <;> simp [Op.unary, Op.intArith]
theorem run_extV {i : Nat} {x v : Value} (hl : extV i x = some v) (w : World) : (Instr.extract x i).run P w = .ok v w:=by
 simp only [extV] at hl
 split at hl
 ·simp [Instr.extract, hl]
 ·cases hl
theorem run_boundV {x : Value} {y n : Nat} (h : boundV x y = some n) (code : BoundsCode) (w : World) : (Instr.sliceBound x y code).run P w = .ok n w:=by
 simp only [boundV] at h
 split at h
 ·split at h
  ·cases h
   rename_i hi
   simp [Instr.sliceBound, asIntOf, hi]
  ·cases h
 ·cases h
theorem run_sliceBounds {b : Bool} {len cap h l : Nat} {low high : Option Value} (hh : highV high len cap = some h) (hl : lowV low h = some l) (w : World) :
  (Instr.sliceBounds b len cap low high none).run P w = .ok (l, h, cap) w:=by
 cases high with
 | none =>
  simp only [highV, Option.some.injEq] at hh
  subst hh
  cases low with
  | none => simp only [lowV, Option.some.injEq] at hl; subst hl; simp [Instr.sliceBounds]
  | some x => simp only [lowV] at hl; simp [Instr.sliceBounds, run_boundV hl]
 | some y =>
  simp only [highV] at hh
  cases low with
  | none => simp only [lowV, Option.some.injEq] at hl; subst hl; simp [Instr.sliceBounds, run_boundV hh]
  | some x => simp only [lowV] at hl; simp [Instr.sliceBounds, run_boundV hl, run_boundV hh]
theorem run_sliceV {t e : TypeId} {i : TypeInfo} (hu : P.underlying t = some (.slice e)) (hi : P.info? e = some i) {x v : Value} {low high : Option Value} (hl : sliceV i.size x low high = some v) (w : World) :
  (Instr.sliceAt t x low high none).run P w = .ok v w:=by
 simp only [sliceV] at hl
 split at hl
 ·split at hl
  ·split at hl
   ·cases hl
    rename_i h1 _ _ h2
    simp [Instr.sliceAt, Instr.slice, run_underlying hu, run_sliceBounds h1 h2, sizeOf, typeInfo, hi]
   ·cases hl
  ·cases hl
 ·cases hl
theorem run_sliceBounds3 {b : Bool} {len cap h l m : Nat} {low : Option Value} {high max : Value} (hm : boundV max cap = some m) (hh : boundV high m = some h) (hl : lowV low h = some l) (w : World) :
  (Instr.sliceBounds b len cap low (some high) (some max)).run P w = .ok (l, h, m) w:=by
 cases low with
 | none => simp only [lowV, Option.some.injEq] at hl; subst hl; simp [Instr.sliceBounds, run_boundV hm, run_boundV hh]
 | some y => simp only [lowV] at hl; simp [Instr.sliceBounds, run_boundV hm, run_boundV hh, run_boundV hl]
theorem run_sliceV3 {t e : TypeId} {i : TypeInfo} (hu : P.underlying t = some (.slice e)) (hi : P.info? e = some i) {x v high max : Value} {low : Option Value} (hl : sliceV3 i.size x low high max = some v) (w : World) :
  (Instr.sliceAt t x low (some high) (some max)).run P w = .ok v w:=by
 simp only [sliceV3] at hl
 split at hl
 ·split at hl
  ·split at hl
   ·split at hl
    ·cases hl
     rename_i h1 _ _ h2 _ _ h3
     simp [Instr.sliceAt, Instr.slice, run_underlying hu, run_sliceBounds3 h1 h2 h3, sizeOf, typeInfo, hi]
    ·cases hl
   ·cases hl
  ·cases hl
 ·cases hl
theorem run_sliceS {t : TypeId} (hu : P.underlying t = some .string) {x v : Value} {low high : Option Value} (hl : sliceS x low high = some v) (w : World) :
  (Instr.sliceAt t x low high none).run P w = .ok v w:=by
 simp only [sliceS] at hl
 split at hl
 ·split at hl
  ·split at hl
   ·cases hl
    rename_i h1 _ _ h2
    simp [Instr.sliceAt, Instr.slice, run_underlying hu, run_sliceBounds h1 h2]
   ·cases hl
  ·cases hl
 ·cases hl
theorem run_sliceR {t e : TypeId} {n : Nat} {i : TypeInfo} (hu : P.underlying t = some (.array n e)) (hi : P.info? e = some i) {x v : Value} {low high : Option Value} (hl : sliceR n i.size x low high = some v) (w : World) :
  (Instr.sliceAt t x low high none).run P w = .ok v w:=by
 simp only [sliceR] at hl
 split at hl
 ·split at hl
  ·split at hl
   ·cases hl
    rename_i h1 _ _ h2
    simp [Instr.sliceAt, Instr.sureAddr, run_underlying hu, run_sliceBounds h1 h2, sizeOf, typeInfo, hi]
   ·cases hl
  ·cases hl
 ·cases hl
theorem run_intBin {op : BinOp} {t : TypeId} {k : IntKind} {a b : Int} {v : Value} (hl : intBin op k a b = some v) (w : World) :
  (binOp op t (.int k a) (.int k b)).run P w = .ok v w:=by
 cases op <;> simp only [intBin] at hl <;> first
  | (cases hl; simp [binOp, Op.intArith, Op.intBits, Op.intCmp]; done)
  | (split at hl
     ·cases hl
     ·cases hl; rename_i h; simp [binOp, Op.intDiv, h])
  | cases hl
theorem run_shV {op : BinOp} (hop : op = .shl ∨ op = .shr) {t : TypeId} {x y v : Value} (hl : shV op x y = some v) (w : World) :
  (binOp op t x y).run P w = .ok v w:=by
 simp only [shV] at hl
 split at hl
 ·split at hl
  ·cases hl
  ·rename_i h
   rcases hop with rfl | rfl <;> simp only [Option.some.injEq] at hl <;> subst hl <;> simp [binOp, Op.shift, h]
 ·cases hl
theorem run_strBin {op : BinOp} {t : TypeId} {a b : ByteArray} {v : Value} (hl : strBin op a b = some v) (w : World) :
  (binOp op t (.string a) (.string b)).run P w = .ok v w:=by
 by_cases hadd : op = .add
 ·subst hadd
  simp only [strBin] at hl
  split at hl
  ·cases hl
  ·rename_i h
   simp only [Option.some.injEq] at hl
   subst hl
   simp only [binOp, Op.stringOp, if_neg h, Sem.run_pure]
 ·cases op <;> simp only [strBin, Option.some.injEq] at hl <;> first
   | exact absurd rfl hadd
   | (subst hl; simp [binOp, Op.stringOp]; done)
   | cases hl
end
section
variable {P : Program}
theorem run_allocM {t : TypeId} {i : TypeInfo} {z : Value} (hi : P.info? t = some i) (hz : i.zero = some z) {u : Value} (w : World) :
  (Instr.alloc t true u).run P w = .ok (.pointer (some ⟨w.heap.size, 0, none⟩)) (w.alloc (.cells z.cells t)):=by
 simp [Instr.alloc, zeroValue, typeInfo, hi, hz, newVar, newRow]
theorem run_boxM {t : TypeId} {v : Value} (w : World) :
  (Instr.box t v).run P w = .ok (.pointer (some ⟨w.heap.size, 0, none⟩)) (w.alloc (.cells v.cells t)):=by
 simp [Instr.box, newVar, newRow]
theorem fill_eq {place : Nat -> Option (Nat × Nat)} : ∀ (l : List (Nat × Value)) (l' : List (Nat × Nat × Value)) (cells : Array Value),
  l.mapM (λ p => (place p.1).map λ q => (q.1, q.2, p.2)) = some l' -> Instr.fill place cells l = fillV cells l'
 | [], l', cells, h => by simp at h; subst h; rfl
 | (i, v) :: rest, l', cells, h => by
  simp only [List.mapM_cons, Option.bind_eq_bind, Option.pure_def] at h
  cases hp : place i with
  | none => simp [hp] at h
  | some q =>
   cases hr : rest.mapM (λ p => (place p.1).map λ q => (q.1, q.2, p.2)) with
   | none => simp [hp, hr] at h
   | some r =>
    simp [hp, hr] at h
    subst h
    obtain ⟨off, size⟩:=q
    simp only [Instr.fill, fillV, hp]
    split
    ·rfl
    ·exact fill_eq rest r _ hr
def placeOf (P : Program) (t : TypeId) : Option (Array Value × (Nat -> Option (Nat × Nat))):=match P.info? t, P.underlying t with
 | some it, some (.array _ e) => match it.zero, P.info? e with
  | some z, some ie => some (z.cells, λ i => some (i * ie.size, ie.size))
  | _, _ => none
 | some it, some (.struct fields) => match it.zero, fields.toList.mapM (λ f => (P.info? f.type).map λ i => (f.offset, i.size)) with
  | some z, some places => some (z.cells, λ i => places.toArray[i]?)
  | _, _ => none
 | _, _ => none
theorem run_buildV {t : TypeId} {z : Array Value} {place : Nat -> Option (Nat × Nat)} (h : placeOf P t = some (z, place)) {parts : Array (Nat × Value)} {l : List (Nat × Nat × Value)}
  (hl : parts.toList.mapM (λ p => (place p.1).map λ q => (q.1, q.2, p.2)) = some l) {v : Value} (hv : buildV z l = some v) (w : World) : (Instr.build t parts).run P w = .ok v w:=by
 simp only [buildV] at hv
 split at hv
 ·cases hv
  rename_i cs hc
  refine run_build w t parts cs ?_
  rw [<- fill_eq _ _ _ hl] at hc
  unfold placeOf at h
  unfold Program.built
  split at h
  ·rename_i it n e h1 h2
   rw [h1, h2]
   dsimp only
   split at h
   ·rename_i h3 h4
    rw [h3, h4]
    cases h
    exact hc
   ·cases h
  ·rename_i it fs h1 h2
   rw [h1, h2]
   dsimp only
   split at h
   ·rename_i h3 h4
    rw [h3, h4]
    cases h
    exact hc
   ·cases h
  ·cases h
 ·cases hv
theorem run_bslM {t e : TypeId} {i : TypeInfo} {z : Value} {len : Nat} (hu : P.underlying t = some (.slice e)) (hi : P.info? e = some i) (hz : i.zero = some z) (hs : z.cells.size = i.size) (hlen : len * i.size <= 2 ^ 24)
  {parts : Array (Nat × Value)} {l : List (Nat × Nat × Value)} (hl : parts.toList.mapM (λ p => (some (p.1 * i.size, i.size) : Option (Nat × Nat)).map λ q => (q.1, q.2, p.2)) = some l)
  {v : Value} {w w' : World} (hv : bslM e len (Builtin.zeroCells z.cells len) l w = some (v, w')) : (Instr.buildSlice t len parts).run P w = .ok v w':=by
 simp only [bslM] at hv
 split at hv
 ·simp only [Option.some.injEq, Prod.mk.injEq] at hv
  obtain ⟨rfl, rfl⟩:=hv
  rename_i cs hc
  rw [<- fill_eq (place:=λ j => some (j * i.size, i.size)) _ _ _ hl] at hc
  have hz0 : (Builtin.zeroCells z.cells len) = (Array.range (len * i.size)).map ((if len * i.size = 0 then (#[] : Array Value) else z.cells)[· % (if len * i.size = 0 then (#[] : Array Value) else z.cells).size]!):=by
   unfold Builtin.zeroCells
   rw [hs]
   by_cases h0 : len * i.size = 0
   ·simp [h0]
   ·simp only [h0, if_false, hs]
  rw [hz0] at hc
  have hlen' : ¬ (len * i.size > 2 ^ 24):=by omega
  by_cases h0 : len * i.size = 0
  ·simp only [h0, if_true, show Array.range 0 = #[] from rfl, Array.map_empty] at hc
   simp [Instr.buildSlice, run_underlying hu, sizeOf, typeInfo, hi, h0, show Array.range 0 = #[] from rfl, hc, newRow]
  ·simp only [h0, if_false] at hc
   simp [Instr.buildSlice, run_underlying hu, sizeOf, typeInfo, zeroValue, hi, hz, h0, hc, newRow, hlen']
 ·cases hv
theorem run_lenN {x : Value} {n : Nat} (h : lenN x = some n) (w : World) : (Builtin.lenOf x).run P w = .ok n w:=by
 cases x <;> simp [lenN] at h <;> simp [Builtin.lenOf, h]
theorem run_firstN {size n : Nat} {x : Value} {w : World} {l : List Value} (h : firstN w size n x = some l) : (Builtin.firstCells size n x).run P w = .ok l.toArray w:=by
 unfold firstN at h
 split at h
 ·simp [Builtin.firstCells, run_loadCells_ldN h]
 ·cases h; simp [Builtin.firstCells]
 ·cases h; simp only [Builtin.firstCells, Sem.run_pure, Array.toArray_toList]
 ·cases h
theorem ldN_drew (a : Addr) (w : World) (n : Nat) : ldN w.drew a n = ldN w a n:=rfl
theorem firstN_drew (w : World) (size n : Nat) (x : Value) : firstN w.drew size n x = firstN w size n x:=by
 unfold firstN
 split <;> first | rfl | simp only [ldN_drew]
theorem run_appM {t u ty e : TypeId} {i : TypeInfo} {z : Value} {du : TypeDesc} (hu : P.underlying t = some (.slice e)) (hx : P.underlying u = some du) (hnot : ∀ k, du ≠ .int k)
  (hi : P.info? e = some i) (hz : i.zero = some z) {s x v : Value} {w w' : World} (h : appM e i.size i.bytes z.cells s x w = some (v, w')) :
  (Builtin.append_ #[t, u] ty #[s, x]).run P w = .ok v w':=by
 simp only [appM] at h
 split at h
 case h_2 => cases h
 rename_i base sLen sCap n hn
 have hzeros : (du matches .int _) = false:=by
  cases du <;> first | rfl | exact absurd rfl (hnot _)
 have hN:=run_lenN (P:=P) hn w
 split at h
 ·rename_i hle
  split at h
  case h_2 => cases h
  rename_i new hnew
  have hF:=run_firstN (P:=P) hnew
  cases base with
  | none =>
   simp only [Option.some.injEq, Prod.mk.injEq] at h
   obtain ⟨rfl, rfl⟩:=h
   simp [Builtin.append_, run_underlying hu, run_underlying hx, hzeros, sizeOf, typeInfo, hi, hN, hle, hF]
  | some a =>
   simp only [] at h
   split at h
   case h_2 => cases h
   rename_i w1 hst
   simp only [Option.some.injEq, Prod.mk.injEq] at h
   obtain ⟨rfl, rfl⟩:=h
   simp [Builtin.append_, run_underlying hu, run_underlying hx, hzeros, sizeOf, typeInfo, hi, hN, hle, hF, run_stN hst]
 ·rename_i hle
  split at h
  ·cases h
  rename_i hb
  split at h
  case h_2 => cases h
  rename_i old new hold hnew
  have hF:=run_firstN (P:=P) hnew
  have hF':=run_firstN (P:=P) hold
  simp only [Option.some.injEq, Prod.mk.injEq] at h
  obtain ⟨rfl, rfl⟩:=h
  simp only [not_or] at hb
  obtain ⟨hb0, hb1⟩:=hb
  have hF2:=run_firstN (P:=P) (w:=w.drew) (size:=i.size) (n:=n) (x:=x) (l:=new) (by rw [firstN_drew]; exact hnew)
  have hF3:=run_firstN (P:=P) (w:=w.drew) (size:=i.size) (n:=sLen) (x:=.slice base sLen sCap) (l:=old) (by rw [firstN_drew]; exact hold)
  have hb1' : ¬ (Builtin.nextslicecap (sLen + n) sCap * i.bytes > 281474976710656):=hb1
  simp [Builtin.append_, run_underlying hu, run_underlying hx, hzeros, sizeOf, typeInfo, hi, hN, hle, hb0, Question.forced, zeroValue, hz, newRow, hb1', hF2, hF3]
  simp only [<- Array.append_assoc, List.append_toArray]
theorem run_cpyM {t u ty e : TypeId} {i : TypeInfo} (hu : P.underlying t = some (.slice e)) (hi : P.info? e = some i) {d s v : Value} {w w' : World} (h : cpyM i.size d s w = some (v, w')) :
  (Builtin.copy_ #[t, u] ty #[d, s]).run P w = .ok v w':=by
 simp only [cpyM] at h
 split at h
 case h_2 => cases h
 rename_i base dLen c sLen hn
 have hN:=run_lenN (P:=P) hn w
 split at h
 case h_2 => cases h
 rename_i cs hcs
 have hF:=run_firstN (P:=P) hcs
 cases base with
 | none =>
  simp only [Option.some.injEq, Prod.mk.injEq] at h
  obtain ⟨rfl, rfl⟩:=h
  simp [Builtin.copy_, run_underlying hu, sizeOf, typeInfo, hi, hN, hF, goInt]
 | some a =>
  simp only [] at h
  split at h
  case h_2 => cases h
  rename_i w1 hst
  simp only [Option.some.injEq, Prod.mk.injEq] at h
  obtain ⟨rfl, rfl⟩:=h
  simp [Builtin.copy_, run_underlying hu, sizeOf, typeInfo, hi, hN, hF, run_stN hst, goInt]
theorem run_mksM {t e : TypeId} {i : TypeInfo} {z : Value} (hu : P.underlying t = some (.slice e)) (hi : P.info? e = some i) (hz : i.zero = some z) {l c v : Value} {w w' : World}
  (h : mksM e i.size i.bytes z.cells l c w = some (v, w')) : (Instr.makeSlice t l c).run P w = .ok v w':=by
 simp only [mksM] at h
 split at h
 case h_2 => cases h
 rename_i ki l kj c
 split at h
 ·cases h
 rename_i hb
 simp only [not_or, gt_iff_lt, Int.not_lt] at hb
 obtain ⟨hl, hlc, hbc, hs⟩:=hb
 simp only [Option.some.injEq, Prod.mk.injEq] at h
 obtain ⟨rfl, rfl⟩:=h
 have hs' : z.cells.size = i.size:=by
  by_cases hh : z.cells.size = i.size
  ·exact hh
  ·exact absurd hh hs
 have h1 : ¬ (IntKind.i64.wrap c < 0):=by omega
 have hbc' : ¬ ((2 : Int) ^ 48 < i.bytes * IntKind.i64.wrap c):=by omega
 have hbc2 : ¬ ((281474976710656 : Int) < i.bytes * IntKind.i64.wrap c):=by omega
 have hl2 : ¬ (IntKind.i64.wrap l < 0):=by omega
 have hlc2 : ¬ (IntKind.i64.wrap c < IntKind.i64.wrap l):=by omega
 have hz0 : (Builtin.zeroCells z.cells (IntKind.i64.wrap c).toNat) = (Array.range ((IntKind.i64.wrap c).toNat * i.size)).map ((if (IntKind.i64.wrap c).toNat * i.size = 0 then (#[] : Array Value) else z.cells)[· % (if (IntKind.i64.wrap c).toNat * i.size = 0 then (#[] : Array Value) else z.cells).size]!):=by
  unfold Builtin.zeroCells
  rw [hs']
  by_cases h0 : (IntKind.i64.wrap c).toNat * i.size = 0
  ·simp [h0]
  ·simp only [h0, if_false, hs']
 rw [hz0]
 by_cases h0 : (IntKind.i64.wrap c).toNat * i.size = 0
 ·simp only [Instr.makeSlice, Sem.run_bind, run_underlying hu, Result.andThen_ok, asInt, asIntOf, Sem.run_pure, typeInfo, run_program, hi, h1, hbc', hl2, hlc2, gt_iff_lt, decide_false, Bool.or_self, Bool.false_eq_true, if_false, run_askRoom, sizeOf, h0, if_true, newRow, run_newObj]
  rfl
 ·simp only [Instr.makeSlice, Sem.run_bind, run_underlying hu, Result.andThen_ok, asInt, asIntOf, Sem.run_pure, typeInfo, run_program, hi, h1, hbc', hl2, hlc2, gt_iff_lt, decide_false, Bool.or_self, Bool.false_eq_true, if_false, run_askRoom, sizeOf, h0, newRow, run_newObj, zeroValue, hz]
  rfl
theorem push_modify {α : Type} (xs : Array α) (a : α) (f : α -> α) : (xs.push a).modify xs.size f = xs.push (f a):=by
 apply Array.ext
 ·simp
 ·intro i h1 h2
  simp only [Array.getElem_modify, Array.getElem_push]
  by_cases hi : xs.size = i
  ·subst hi; simp
  ·have : i < xs.size:=by simp at h1; omega
   simp [hi, this]
theorem bytesV_ints : ∀ {l : List Value} {b : List UInt8}, bytesV l = some b -> ∃ ns : List Int, l = ns.map (Value.int .u8) /\ b = ns.map λ n => UInt8.ofNat n.toNat
 | [], b, h => by simp [bytesV] at h; subst h; exact ⟨[], rfl, rfl⟩
 | v :: l, b, h => by
  unfold bytesV at h
  split at h
  ·contradiction
  ·rename_i n r heq
   cases heq
   split at h
   ·rename_i b' hb'
    cases h
    obtain ⟨ns, rfl, rfl⟩:=bytesV_ints hb'
    exact ⟨n :: ns, rfl, rfl⟩
   ·cases h
  ·cases h
theorem run_bsR {src dst e : TypeId} (hs : P.underlying src = some (.slice e)) (he : P.underlying e = some (.int .u8)) (hd : P.underlying dst = some .string) {x v : Value} {w : World} (h : bsR x w = some v) :
  (convert src dst x).run P w = .ok v w:=by
 unfold bsR at h
 split at h
 ·cases h
  rw [run_convert_bytes_string w src dst e _ _ _ hs he hd]
  simp [Conv.bytesToString]
 ·rename_i a len c
  split at h
  case h_2 => cases h
  rename_i l hl
  split at h
  case h_2 => cases h
  rename_i b hb
  cases h
  obtain ⟨ns, rfl, rfl⟩:=bytesV_ints hb
  rw [run_convert_bytes_string w src dst e _ _ _ hs he hd, run_bytesToString w _ _ _ ns (run_loadCells_ldN hl), foldl_push_bytes]
  simp [ByteArray.empty, ByteArray.emptyWithCapacity]
  rfl
 ·cases h
theorem run_sbM {src dst e : TypeId} (hs : P.underlying src = some .string) (hd : P.underlying dst = some (.slice e)) (he : P.underlying e = some (.int .u8)) {x v : Value} {w w' : World} (h : sbM e x w = some (v, w')) :
  (convert src dst x).run P w = .ok v w':=by
 unfold sbM at h
 split at h
 ·rename_i s
  cases h
  have hcap : s.size <= (Question.appendCap s.size 0 e).cut (w.tape w.drawn (.appendCap s.size 0 e)):=by simp only [Question.cut]; omega
  generalize hc : (Question.appendCap s.size 0 e).cut (w.tape w.drawn (.appendCap s.size 0 e)) = c at *
  have hsz : (((s.data.map λ b : UInt8 => Value.int .u8 b.toNat) ++ Array.replicate (c - s.size) (Value.int .u8 0)) : Array Value).size = c:=by
   have : s.data.size = s.size:=rfl
   simp only [Array.size_append, Array.size_map, Array.size_replicate]; omega
  have e1 : (convert src dst (.string s)).run P w = (Conv.stringToBytes e s).run P w:=by
   simp [convert, run_underlying hs, run_underlying hd, run_underlying he]
  rw [e1]
  simp only [Conv.stringToBytes, Sem.run_bind, run_choose, Question.forced, Bool.false_eq_true, if_false, hc, Result.andThen_ok, newRow, run_newObj, Sem.run_pure, markStringish, run_shape, run_freeze]
  generalize hcs : ((s.data.map λ b : UInt8 => Value.int .u8 b.toNat) ++ Array.replicate (c - s.size) (Value.int .u8 0)) = cs at *
  simp only [World.shape?, Array.getElem?_push_size, hsz, Result.andThen_ok, run_freeze]
  simp only [World.freeze, Nat.one_ne_zero, if_false, push_modify, beq_self_eq_true, if_true]
  rfl
 ·cases h
def eqKind (P : Program) (t : TypeId) : Option EqK:=match P.underlying t with
 | some .bool => some .bool
 | some (.int _) => some .int
 | some .string => some .str
 | some (.slice _) => some .sl
 | some (.map _ _) => some .mp
 | some (.func _ _ _) => some .fn
 | some (.interface _) => some .ifc
 | some (.pointer e) => match P.info? e with
  | some i => if i.size = 0 then none else some .ptr
  | none => none
 | _ => none
section
variable {t : TypeId} (n : Nat) (w : World)
theorem eqIn_bool (hu : P.underlying t = some .bool) (a b : Bool) : (Op.equalIn (n + 1) t (.bool a) (.bool b)).run P w = .ok (a == b) w:=by
 simp only [Op.equalIn, Sem.run_bind, run_underlying hu, Result.andThen_ok, Sem.run_pure]
theorem eqIn_int {k : IntKind} (hu : P.underlying t = some (.int k)) (j : IntKind) (a b : Int) : (Op.equalIn (n + 1) t (.int j a) (.int j b)).run P w = .ok (a == b) w:=by
 simp only [Op.equalIn, Sem.run_bind, run_underlying hu, Result.andThen_ok, if_true, Sem.run_pure]
theorem eqIn_str (hu : P.underlying t = some .string) (a b : ByteArray) : (Op.equalIn (n + 1) t (.string a) (.string b)).run P w = .ok (a.toList == b.toList) w:=by
 simp only [Op.equalIn, Sem.run_bind, run_underlying hu, Result.andThen_ok, Sem.run_pure, beq_toListBytes]
theorem eqIn_ptr0 {e : TypeId} (hu : P.underlying t = some (.pointer e)) (b : Option Addr) : (Op.equalIn (n + 1) t (.pointer none) (.pointer b)).run P w = .ok b.isNone w:=by
 simp only [Op.equalIn, Sem.run_bind, run_underlying hu, Result.andThen_ok, Sem.run_pure]
theorem eqIn_ptr1 {e : TypeId} (hu : P.underlying t = some (.pointer e)) (a : Addr) : (Op.equalIn (n + 1) t (.pointer (some a)) (.pointer none)).run P w = .ok false w:=by
 simp only [Op.equalIn, Sem.run_bind, run_underlying hu, Result.andThen_ok, Sem.run_pure]
theorem eqIn_ptr2 {e : TypeId} {i : TypeInfo} (hu : P.underlying t = some (.pointer e)) (hi : P.info? e = some i) (hs : i.size ≠ 0) (a b : Addr) (hb : a.block = b.block) :
  (Op.equalIn (n + 1) t (.pointer (some a)) (.pointer (some b))).run P w = .ok (a == b) w:=by
 simp only [Op.equalIn, Sem.run_bind, run_underlying hu, Result.andThen_ok, sizeOf, typeInfo, run_program, hi, Sem.run_pure, hs, ne_eq, not_false_eq_true, if_true, sameAddr, hb, beq_self_eq_true]
theorem eqIn_sl0 {e : TypeId} (hu : P.underlying t = some (.slice e)) (b : Option Addr) (l c l' c' : Nat) : (Op.equalIn (n + 1) t (.slice none l c) (.slice b l' c')).run P w = .ok b.isNone w:=by
 simp only [Op.equalIn, Sem.run_bind, run_underlying hu, Result.andThen_ok, Sem.run_pure]
theorem eqIn_sl1 {e : TypeId} (hu : P.underlying t = some (.slice e)) (a : Addr) (l c l' c' : Nat) : (Op.equalIn (n + 1) t (.slice (some a) l c) (.slice none l' c')).run P w = .ok false w:=by
 simp only [Op.equalIn, Sem.run_bind, run_underlying hu, Result.andThen_ok, Sem.run_pure]
theorem eqIn_mp0 {k e : TypeId} (hu : P.underlying t = some (.map k e)) (b : Option Nat) : (Op.equalIn (n + 1) t (.map none) (.map b)).run P w = .ok b.isNone w:=by
 simp only [Op.equalIn, Sem.run_bind, run_underlying hu, Result.andThen_ok, Sem.run_pure]
theorem eqIn_mp1 {k e : TypeId} (hu : P.underlying t = some (.map k e)) (a : Nat) : (Op.equalIn (n + 1) t (.map (some a)) (.map none)).run P w = .ok false w:=by
 simp only [Op.equalIn, Sem.run_bind, run_underlying hu, Result.andThen_ok, Sem.run_pure]
theorem eqIn_fn0 {x y : Array TypeId} {v : Bool} (hu : P.underlying t = some (.func x y v)) : (Op.equalIn (n + 1) t .nilFunc .nilFunc).run P w = .ok true w:=by
 simp only [Op.equalIn, Sem.run_bind, run_underlying hu, Result.andThen_ok, Sem.run_pure]
theorem eqIn_fn1 {x y : Array TypeId} {v : Bool} (hu : P.underlying t = some (.func x y v)) (f : Fn) (a c : Array Value) : (Op.equalIn (n + 1) t .nilFunc (.func f a c)).run P w = .ok false w:=by
 simp only [Op.equalIn, Sem.run_bind, run_underlying hu, Result.andThen_ok, Sem.run_pure]
theorem eqIn_fn2 {x y : Array TypeId} {v : Bool} (hu : P.underlying t = some (.func x y v)) (f : Fn) (a c : Array Value) : (Op.equalIn (n + 1) t (.func f a c) .nilFunc).run P w = .ok false w:=by
 simp only [Op.equalIn, Sem.run_bind, run_underlying hu, Result.andThen_ok, Sem.run_pure]
theorem eqIn_ifn {m : Array (String × TypeId)} (hu : P.underlying t = some (.interface m)) : (Op.equalIn (n + 1) t .nilIface .nilIface).run P w = .ok true w:=by
 simp only [Op.equalIn, Sem.run_bind, run_underlying hu, Result.andThen_ok, Sem.run_pure]
theorem eqIn_if0 {m : Array (String × TypeId)} (hu : P.underlying t = some (.interface m)) (d : TypeId) (x : Value) : (Op.equalIn (n + 1) t .nilIface (.iface d x)).run P w = .ok false w:=by
 simp only [Op.equalIn, Sem.run_bind, run_underlying hu, Result.andThen_ok, Sem.run_pure]
theorem eqIn_if1 {m : Array (String × TypeId)} (hu : P.underlying t = some (.interface m)) (d : TypeId) (x : Value) : (Op.equalIn (n + 1) t (.iface d x) .nilIface).run P w = .ok false w:=by
 simp only [Op.equalIn, Sem.run_bind, run_underlying hu, Result.andThen_ok, Sem.run_pure]
end
end
section
variable {P : Program}
theorem run_eqPrim {t : TypeId} {k : EqK} (hk : eqKind P t = some k) {x y : Value} {b : Bool} (h : eqPrim k x y = some b) (n : Nat) (w : World) :
  (Op.equalIn (n + 1) t x y).run P w = .ok b w:=by
 unfold eqKind at hk
 split at hk
 case h_1 hu => cases hk; unfold eqPrim at h; split at h <;> first | contradiction | (cases h; exact eqIn_bool n w hu _ _)
 case h_2 hu => cases hk; unfold eqPrim at h; split at h <;> first | contradiction | (split at h <;> cases h; rename_i e; subst e; exact eqIn_int n w hu _ _ _)
 case h_3 hu => cases hk; unfold eqPrim at h; split at h <;> first | contradiction | (cases h; exact eqIn_str n w hu _ _)
 case h_4 hu => cases hk; unfold eqPrim at h; split at h <;> first | contradiction | (cases h; exact eqIn_sl0 n w hu _ _ _ _ _) | (cases h; exact eqIn_sl1 n w hu _ _ _ _ _)
 case h_5 hu => cases hk; unfold eqPrim at h; split at h <;> first | contradiction | (cases h; exact eqIn_mp0 n w hu _) | (cases h; exact eqIn_mp1 n w hu _)
 case h_6 hu => cases hk; unfold eqPrim at h; split at h <;> first | contradiction | (cases h; exact eqIn_fn0 n w hu) | (cases h; exact eqIn_fn1 n w hu _ _ _) | (cases h; exact eqIn_fn2 n w hu _ _ _)
 case h_7 hu => cases hk; unfold eqPrim at h; split at h <;> first | contradiction | (cases h; exact eqIn_if0 n w hu _ _) | (cases h; exact eqIn_if1 n w hu _ _)
 case h_8 e hu =>
  split at hk
  case h_2 => cases hk
  rename_i i hi
  split at hk
  ·cases hk
  rename_i hs
  cases hk; unfold eqPrim at h; split at h <;> first
   | contradiction
   | (cases h; exact eqIn_ptr0 n w hu _) | (cases h; exact eqIn_ptr1 n w hu _)
   | (split at h <;> cases h; rename_i hb; exact eqIn_ptr2 n w hu hi hs _ _ hb)
 case h_9 => cases hk
def eqCells (P : Program) : Nat -> TypeId -> Option (List (EqK × Nat))
 | 0, _ => none
 | d + 1, t => match P.underlying t with
  | some (.struct fs) => if P.stoodInHeld t then none else
   fs.toList.foldr (λ f acc => match acc with
    | none => none
    | some r => if f.name = "_" then some r else match eqCells P d f.type, P.info? f.type with
     | some l, some i => if l.all (λ q => Nat.blt q.2 i.size) then some (l.map (λ q => (q.1, q.2 + f.offset)) ++ r) else none
     | _, _ => none) (some [])
  | some (.array n e) => match eqCells P d e, P.info? e with
   | some l, some i => if l.all (λ q => Nat.blt q.2 i.size) then some ((List.range n).flatMap λ j => l.map λ q => (q.1, q.2 + j * i.size)) else none
   | _, _ => none
  | _ => match eqKind P t with
   | some k => some [(k, 0)]
   | none => none
theorem eqOffs_append (xs ys : Array Value) : ∀ (l1 l2 : List (EqK × Nat)), eqOffs xs ys (l1 ++ l2) = match eqOffs xs ys l1 with
  | some true => eqOffs xs ys l2
  | some false => some false
  | none => none
 | [], l2 => rfl
 | (k, o) :: r, l2 => by
  simp only [List.cons_append, eqOffs]
  split
  ·split <;> simp [eqOffs_append xs ys r l2]
  ·rfl
theorem eqOffs_extract {xs ys : Array Value} {off n : Nat} : ∀ (l : List (EqK × Nat)), (l.all (λ q => Nat.blt q.2 n)) = true ->
  eqOffs (xs.extract off (off + n)) (ys.extract off (off + n)) l = eqOffs xs ys (l.map (λ q => (q.1, q.2 + off)))
 | [], _ => rfl
 | (k, o) :: r, h => by
  simp only [List.all_cons, Bool.and_eq_true] at h
  have ho : o < n:=Nat.le_of_ble_eq_true h.1
  have e : ∀ zs : Array Value, (zs.extract off (off + n))[o]? = zs[o + off]?:=λ zs => by
   rw [Array.getElem?_extract]
   by_cases hz : o + off < zs.size
   ·rw [if_pos (by omega), Nat.add_comm]
   ·rw [if_neg (by omega), Array.getElem?_eq_none (by omega)]
  simp only [eqOffs, List.map_cons, e, eqOffs_extract r h.2]
theorem eqPart {d D : Nat} {e : TypeId} {lf : List (EqK × Nat)} {i : TypeInfo} {xs ys : Array Value} {off : Nat} {w : World} (hlf : eqCells P d e = some lf) (hif : P.info? e = some i) (hall : (lf.all λ q => Nat.blt q.2 i.size) = true)
  (hrec : ∀ (x y : Value) (b : Bool) (w : World), (match aggOf P e with
   | some none => eqOffs #[x] #[y] lf = some b
   | some (some _) => ∃ xs ys, x = .agg xs /\ y = .agg ys /\ eqOffs xs ys lf = some b
   | none => False) -> (Op.equalIn D e x y).run P w = .ok b w) : ∀ b1, eqOffs xs ys (lf.map (λ q => (q.1, q.2 + off))) = some b1 ->
   ∃ a a', (part e xs off).run P w = .ok a w /\ (part e ys off).run P w = .ok a' w /\ (Op.equalIn D e a a').run P w = .ok b1 w:=by
 intro b1 hb1
 cases hg : aggOf P e with
 | none =>
  exfalso
  cases d with
  | zero => simp [eqCells] at hlf
  | succ d =>
   unfold aggOf at hg
   simp only [eqCells] at hlf
   cases hu' : P.underlying e with
   | none => simp [hu', eqKind] at hlf
   | some u => cases u <;> simp [hu', hif] at hg
 | some g =>
  cases g with
  | some n =>
   have hn' : n = i.size:=by
    unfold aggOf at hg
    cases hu' : P.underlying e with
    | none => simp [hu'] at hg
    | some u => cases u <;> simp [hu', hif] at hg <;> exact hg.symm
   subst hn'
   refine ⟨_, _, run_part hg (show partV (some i.size) xs off = some _ from rfl) w, run_part hg (show partV (some i.size) ys off = some _ from rfl) w, ?_⟩
   refine hrec _ _ b1 w ?_
   rw [hg]
   exact ⟨_, _, rfl, rfl, by rw [eqOffs_extract _ hall]; exact hb1⟩
  | none =>
   obtain ⟨k, rfl⟩ : ∃ k, lf = [(k, 0)]:=by
    cases d with
    | zero => simp [eqCells] at hlf
    | succ d =>
     simp only [eqCells] at hlf
     unfold aggOf at hg
     cases hu' : P.underlying e with
     | none => simp [hu'] at hg
     | some u =>
      cases hk : eqKind P e with
      | none => cases u <;> simp [hu', hk, hif] at hlf hg
      | some k => cases u <;> simp [hu', hk, hif] at hlf hg <;> exact ⟨k, hlf.symm⟩
   simp only [List.map_cons, List.map_nil, Nat.zero_add, eqOffs] at hb1
   split at hb1
   case h_2 => cases hb1
   rename_i a a' ha ha'
   refine ⟨a, a', run_part hg (show partV none xs off = some a from ha) w, run_part hg (show partV none ys off = some a' from ha') w, ?_⟩
   refine hrec a a' b1 w ?_
   rw [hg]
   simp only [eqOffs]
   exact hb1
theorem run_eqCells : ∀ (d : Nat) (t : TypeId) (l : List (EqK × Nat)), eqCells P d t = some l -> ∀ (D : Nat), d <= D -> ∀ (x y : Value) (b : Bool) (w : World),
  (match aggOf P t with
   | some none => eqOffs #[x] #[y] l = some b
   | some (some _) => ∃ xs ys, x = .agg xs /\ y = .agg ys /\ eqOffs xs ys l = some b
   | none => False) -> (Op.equalIn D t x y).run P w = .ok b w
 | 0, t, l, h => by simp [eqCells] at h
 | d + 1, t, l, h => λ D hD x y b w hx => by
  obtain ⟨D, rfl⟩ : ∃ D', D = D' + 1:=⟨D - 1, by omega⟩
  cases hu : P.underlying t with
  | none => simp [aggOf, hu] at hx
  | some u =>
   by_cases hstr : ∃ fs, u = .struct fs
   ·obtain ⟨fs, rfl⟩:=hstr
    simp only [eqCells, hu] at h
    split at h
    ·cases h
    rename_i hst
    simp only [aggOf, hu] at hx
    cases hi : P.info? t with
    | none =>
     unfold Program.underlying at hu
     simp [hi] at hu
    | some it =>
     simp only [hi] at hx
     obtain ⟨xs, ys, rfl, rfl, hx⟩:=hx
     have hfo : P.fieldsOf t = fs:=by simp [Program.fieldsOf, hu]
     rw [run_equalIn_struct w D t xs ys (by rw [hfo]; exact hu) (by simpa using hst), hfo]
     clear hfo hu hi hst
     generalize fs.toList = fl at *
     clear fs
     induction fl generalizing l b w with
     | nil => simp at h; subst h; simp [eqOffs] at hx; subst hx; simp [Op.eqFields]
     | cons f fl ih =>
      simp only [List.foldr_cons] at h
      split at h
      ·cases h
      rename_i r hr
      by_cases hn : f.name = "_"
      ·simp only [hn, if_true, Option.some.injEq] at h
       subst h
       simp only [Op.eqFields, hn, ne_eq, not_true_eq_false, if_false]
       exact ih _ _ _ hx hr
      ·simp only [hn, if_false] at h
       split at h
       case h_2 => cases h
       rename_i lf i hlf hif
       split at h
       case isFalse => cases h
       rename_i hall
       cases h
       rw [eqOffs_append] at hx
       have main:=λ (w : World) => eqPart (xs:=xs) (ys:=ys) (off:=f.offset) (w:=w) hlf hif hall (run_eqCells d f.type lf hlf D (by omega))
       cases hb1 : eqOffs xs ys (lf.map (λ q => (q.1, q.2 + f.offset))) with
       | none => simp [hb1] at hx
       | some b1 =>
        obtain ⟨a, a', h1, h2, h3⟩:=main w b1 hb1
        simp only [Op.eqFields, ne_eq, hn, not_false_eq_true, if_true, Sem.run_bind, h1, h2, h3, Result.andThen_ok]
        cases b1 with
        | true =>
         simp only [hb1] at hx
         simp only [Bool.not_true, Bool.false_eq_true, if_false]
         exact ih _ _ _ hx hr
        | false =>
         simp only [hb1, Option.some.injEq] at hx
         subst hx
         simp
   ·by_cases harr : ∃ n e, u = .array n e
    ·obtain ⟨n, e, rfl⟩:=harr
     simp only [eqCells, hu] at h
     cases he : eqCells P d e with
     | none => simp [he] at h
     | some lf =>
      cases hi : P.info? e with
      | none => simp [he, hi] at h
      | some i =>
       simp only [he, hi] at h
       split at h
       case isFalse => cases h
       rename_i hall
       cases h
       simp only [aggOf, hu] at hx
       cases hti : P.info? t with
       | none => unfold Program.underlying at hu; simp [hti] at hu
       | some it =>
        simp only [hti] at hx
        obtain ⟨xs, ys, rfl, rfl, hx⟩:=hx
        have hc : P.cellsOf e = i.size:=by simp [Program.cellsOf, hi]
        rw [run_equalIn_array w D xs ys hu hi, hc]
        generalize List.range n = is at hx
        have main:=λ (off : Nat) (w : World) => eqPart (xs:=xs) (ys:=ys) (off:=off) (w:=w) he hi hall (run_eqCells d e lf he D (by omega))
        induction is generalizing b w with
        | nil => simp [eqOffs] at hx; subst hx; simp [Op.eqItems]
        | cons j is ih =>
         rw [List.flatMap_cons, eqOffs_append] at hx
         cases hb1 : eqOffs xs ys (lf.map (λ q => (q.1, q.2 + j * i.size))) with
         | none => simp [hb1] at hx
         | some b1 =>
          obtain ⟨a, a', h1, h2, h3⟩:=main (j * i.size) w b1 hb1
          simp only [Op.eqItems, Sem.run_bind, h1, h2, h3, Result.andThen_ok]
          cases b1 with
          | true =>
           simp only [hb1] at hx
           simp only [Bool.not_true, Bool.false_eq_true, if_false]
           exact ih _ _ hx
          | false =>
           simp only [hb1, Option.some.injEq] at hx
           subst hx
           simp
    have hag : aggOf P t = some none:=by
     unfold aggOf
     cases u <;> simp [hu] <;> first
      | (exact absurd ⟨_, rfl⟩ hstr)
      | (exact absurd ⟨_, _, rfl⟩ harr)
    rw [hag] at hx
    simp only [eqCells, hu] at h
    obtain ⟨k, hk, rfl⟩ : ∃ k, eqKind P t = some k /\ l = [(k, 0)]:=by
     cases hk : eqKind P t with
     | none => cases u <;> simp [hk] at h <;> first | exact absurd ⟨_, rfl⟩ hstr | exact absurd ⟨_, _, rfl⟩ harr
     | some k => cases u <;> simp [hk] at h <;> first | exact ⟨k, rfl, h.symm⟩ | exact absurd ⟨_, rfl⟩ hstr | exact absurd ⟨_, _, rfl⟩ harr
    simp only [eqOffs, List.getElem?_toArray, List.getElem?_cons_zero] at hx
    cases hp : eqPrim k x y with
    | none => simp [hp] at hx
    | some b' =>
     have : b' = b:=by cases b' <;> simp [hp] at hx <;> exact hx.symm
     subst this
     exact run_eqPrim hk hp D w
def eqShape (P : Program) (t : TypeId) : Option EqSh:=match P.underlying t with
 | some (.struct _) => bif P.eqGuardType P.depth t then none else match eqCells P 8 t with
  | some l => some (.offs l)
  | none => none
 | some (.array _ _) => bif P.eqGuardType P.depth t then none else match eqCells P 8 t with
  | some l => some (.offs l)
  | none => none
 | _ => match eqKind P t with
  | some k => some (.one k)
  | none => none
theorem eqKind_ifn {t : TypeId} : eqKind P t ≠ some .ifn:=by
 intro h
 unfold eqKind at h
 repeat' split at h
 all_goals cases h
theorem run_eqlV {t : TypeId} {sh : EqSh} (hs : eqShape P t = some sh) {x y : Value} {b : Bool} (h : eqlV sh x y = some b) (ox oy : Operand) (op : BinOp) (w : World) :
  (eqGuard op t ox oy x y).run P w = .ok () w /\ (binOp .eql t x y).run P w = .ok (.bool b) w /\ (binOp .neq t x y).run P w = .ok (.bool !b) w:=by
 unfold eqShape at hs
 cases hu : P.underlying t with
 | none => simp [hu, eqKind] at hs
 | some u =>
  by_cases hstr : ∃ fs, u = .struct fs
  ·obtain ⟨fs, rfl⟩:=hstr
   simp only [hu] at hs
   cases hg : P.eqGuardType P.depth t with
   | true => simp [hg] at hs
   | false =>
    cases hc : eqCells P 8 t with
    | none => simp [hg, hc] at hs
    | some l =>
     simp [hg, hc] at hs
     subst hs
     simp only [eqlV] at h
     split at h
     case h_2 => cases h
     rename_i xs ys
     have hi : ∃ it, P.info? t = some it:=by
      cases hi : P.info? t with
      | none => unfold Program.underlying at hu; simp [hi] at hu
      | some it => exact ⟨it, rfl⟩
     obtain ⟨it, hi⟩:=hi
     have he:=run_eqCells 8 t l hc 10000 (by omega) (.agg xs) (.agg ys) b w (by simp only [aggOf, hu, hi]; exact ⟨xs, ys, rfl, rfl, h⟩)
     refine ⟨run_eqGuard_agg w op t ox oy xs ys hg, ?_, ?_⟩
     ·rw [run_eql_struct, he]; rfl
     ·rw [run_neq_struct, he]; rfl
  ·by_cases harr : ∃ n e, u = .array n e
   ·obtain ⟨n0, e0, rfl⟩:=harr
    simp only [hu] at hs
    cases hg : P.eqGuardType P.depth t with
    | true => simp [hg] at hs
    | false =>
     cases hc : eqCells P 8 t with
     | none => simp [hg, hc] at hs
     | some l =>
      simp [hg, hc] at hs
      subst hs
      simp only [eqlV] at h
      split at h
      case h_2 => cases h
      rename_i xs ys
      have hi : ∃ it, P.info? t = some it:=by
       cases hi : P.info? t with
       | none => unfold Program.underlying at hu; simp [hi] at hu
       | some it => exact ⟨it, rfl⟩
      obtain ⟨it, hi⟩:=hi
      have he:=run_eqCells 8 t l hc 10000 (by omega) (.agg xs) (.agg ys) b w (by simp only [aggOf, hu, hi]; exact ⟨xs, ys, rfl, rfl, h⟩)
      refine ⟨run_eqGuard_agg w op t ox oy xs ys hg, ?_, ?_⟩
      ·rw [run_eql_struct, he]; rfl
      ·rw [run_neq_struct, he]; rfl
   have hk : ∃ k, eqKind P t = some k /\ sh = .one k:=by
    cases hk : eqKind P t with
    | none => cases u <;> simp [hu, hk] at hs <;> first | exact absurd ⟨_, rfl⟩ hstr | exact absurd ⟨_, _, rfl⟩ harr
    | some k => cases u <;> simp [hu, hk] at hs <;> first | exact ⟨k, rfl, hs.symm⟩ | exact absurd ⟨_, rfl⟩ hstr | exact absurd ⟨_, _, rfl⟩ harr
   obtain ⟨k, hk, rfl⟩:=hk
   simp only [eqlV] at h
   have he:=run_eqPrim hk h 9999 w
   have he' : (Op.equal t x y).run P w = .ok b w:=he
   unfold eqPrim at h
   split at h <;> first
    | contradiction
    | exact absurd hk eqKind_ifn
    | (refine ⟨by cases op <;> rfl, ?_, ?_⟩ <;> simp [binOp, he'] <;> done)
    | (refine ⟨by cases op <;> rfl, ?_, ?_⟩ <;> (split at h <;> simp at h <;> subst h <;> simp_all [binOp, Op.intCmp, bne]) <;> done)
    | (refine ⟨by cases op <;> rfl, ?_, ?_⟩ <;> (simp at h; subst h; simp [binOp, Op.stringOp]) <;> done)
end
end Go.Lift
namespace Go.Lift
set_option linter.unusedVariables false
set_option linter.unusedSimpArgs false
def mp (w : World) (b : Nat) : Option (List MapEntry × Nat):=match w.heap[b]? with
 | some (.map es c) => some (es.toList, c)
 | _ => none
def stMp (w : World) (b : Nat) (es : List MapEntry) (c : Nat) : World:={ w with heap:=w.heap.setIfInBounds b (.map es.toArray c) }
theorem ba_beq (a b : ByteArray) : (a == b) = (a.toList == b.toList):=by
 rw [ByteArray.toList_eq, ByteArray.toList_eq]
 have h1 : (a == b) = (a.data == b.data):=by
  cases a; cases b; rfl
 rw [h1]
 rcases a with ⟨⟨a⟩⟩
 rcases b with ⟨⟨b⟩⟩
 simp
def findE (sh : EqSh) (k : Value) : List MapEntry -> Nat -> Option (Option (Nat × Value))
 | [], _ => some none
 | e :: es, i => match eqlV sh k e.key with
  | some true => some (some (i, e.val))
  | some false => findE sh k es (i + 1)
  | none => none
section
variable {P : Program}
theorem run_eqT {t : TypeId} {sh : EqSh} (hs : eqShape P t = some sh) {x y : Value} {b : Bool} (h : eqlV sh x y = some b) (w : World) : (Op.equal t x y).run P w = .ok b w:=by
 unfold eqShape at hs
 cases hu : P.underlying t with
 | none => simp [hu, eqKind] at hs
 | some u =>
  have hi : ∃ it, P.info? t = some it:=by
   cases hi : P.info? t with
   | none => unfold Program.underlying at hu; simp [hi] at hu
   | some it => exact ⟨it, rfl⟩
  obtain ⟨it, hi⟩:=hi
  by_cases hstr : ∃ fs, u = .struct fs
  ·obtain ⟨fs, rfl⟩:=hstr
   simp only [hu] at hs
   cases hg : P.eqGuardType P.depth t with
   | true => simp [hg] at hs
   | false =>
    cases hc : eqCells P 8 t with
    | none => simp [hg, hc] at hs
    | some l =>
     simp [hg, hc] at hs
     subst hs
     simp only [eqlV] at h
     split at h
     case h_2 => cases h
     rename_i xs ys
     exact run_eqCells 8 t l hc 10000 (by omega) (.agg xs) (.agg ys) b w (by simp only [aggOf, hu, hi]; exact ⟨xs, ys, rfl, rfl, h⟩)
  ·by_cases harr : ∃ n e, u = .array n e
   ·obtain ⟨n0, e0, rfl⟩:=harr
    simp only [hu] at hs
    cases hg : P.eqGuardType P.depth t with
    | true => simp [hg] at hs
    | false =>
     cases hc : eqCells P 8 t with
     | none => simp [hg, hc] at hs
     | some l =>
      simp [hg, hc] at hs
      subst hs
      simp only [eqlV] at h
      split at h
      case h_2 => cases h
      rename_i xs ys
      exact run_eqCells 8 t l hc 10000 (by omega) (.agg xs) (.agg ys) b w (by simp only [aggOf, hu, hi]; exact ⟨xs, ys, rfl, rfl, h⟩)
   ·have hk : ∃ k, eqKind P t = some k /\ sh = .one k:=by
     cases hk : eqKind P t with
     | none => cases u <;> simp [hu, hk] at hs <;> first | exact absurd ⟨_, rfl⟩ hstr | exact absurd ⟨_, _, rfl⟩ harr
     | some k => cases u <;> simp [hu, hk] at hs <;> first | exact ⟨k, rfl, hs.symm⟩ | exact absurd ⟨_, rfl⟩ hstr | exact absurd ⟨_, _, rfl⟩ harr
    obtain ⟨k, hk, rfl⟩:=hk
    simp only [eqlV] at h
    exact run_eqPrim hk h 9999 w
theorem run_findAsking {t : TypeId} {sh : EqSh} (hs : eqShape P t = some sh) {k : Value} (w : World) : ∀ {es : List MapEntry} {i : Nat} {r : Option (Nat × Value)}, findE sh k es i = some r -> (Instr.findAsking t k es i).run P w = .ok r w
 | [], i, r, h => by cases h; rfl
 | e :: es, i, r, h => by
  unfold findE at h
  unfold Instr.findAsking
  cases he : eqlV sh k e.key with
  | none => rw [he] at h; cases h
  | some b =>
   rw [he] at h
   rw [Sem.run_bind, run_eqT hs he]
   cases b with
   | true => simp only at h; cases h; rfl
   | false => simp only at h; simpa using run_findAsking hs w h
theorem sameNow_eq {d : TypeDesc} {t : TypeId} {sh : EqSh} (hs : eqShape P t = some sh) (hd : P.underlying t = some d) {x y : Value} {b c : Bool} (h : eqlV sh x y = some b) (h' : Instr.sameNow d x y = some c) : c = b:=by
 unfold Instr.sameNow at h'
 split at h'
 ·rename_i kk k a k' a'
  split at h'
  ·rename_i hk
   subst hk
   have : sh = .one .int:=by simpa [eqShape, eqKind, hd] using hs.symm
   subst this
   cases h'
   simp [eqlV, eqPrim] at h
   rw [<- h]
  ·cases h'
 ·rename_i a a'
  have : sh = .one .str:=by simpa [eqShape, eqKind, hd] using hs.symm
  subst this
  cases h'
  simp [eqlV, eqPrim] at h
  subst h
  exact ba_beq a a'
 ·have : sh = .one .bool:=by simpa [eqShape, eqKind, hd] using hs.symm
  subst this
  cases h'
  simp [eqlV, eqPrim] at h
  rw [<- h]
 ·cases h'
theorem run_findKey {t : TypeId} {sh : EqSh} (hs : eqShape P t = some sh) {k : Value} {es : List MapEntry} {r : Option (Nat × Value)} (h : findE sh k es 0 = some r) (w : World) : (Instr.findKey t k es).run P w = .ok r w:=by
 unfold Instr.findKey
 cases hd : P.underlying t with
 | none => unfold eqShape at hs; simp [hd, eqKind] at hs
 | some d =>
  have hu : (underlying t).run P w = .ok d w:=run_underlying hd w
  rw [Sem.run_bind, hu]
  simp only [Result.andThen_ok]
  have key : ∀ (es : List MapEntry) (i : Nat) (r : Option (Nat × Value)), findE sh k es i = some r -> ∀ q, Instr.findNow d k es i = some q -> q = r:=by
   intro es
   induction es with
   | nil => intro i r h q hq; cases h; cases hq; rfl
   | cons e es ih =>
    intro i r h q hq
    unfold findE at h
    unfold Instr.findNow at hq
    cases he : eqlV sh k e.key with
    | none => rw [he] at h; cases h
    | some b =>
     rw [he] at h
     cases hn : Instr.sameNow d k e.key with
     | none => rw [hn] at hq; cases hq
     | some c =>
      rw [hn] at hq
      obtain rfl:=sameNow_eq hs hd he hn
      cases c with
      | true => simp only at h hq; cases h; cases hq; rfl
      | false => simp only at h hq; exact ih (i + 1) r h q hq
  cases hf : Instr.findNow d k es 0 with
  | some q =>
   simp only
   rw [key es 0 r h q hf]
   rfl
  | none => exact run_findAsking hs w h
def plainT (P : Program) (t : TypeId) : Bool:=match P.underlying t with
 | some (.int _) | some .string | some .bool => true
 | _ => false
def keyOK (P : Program) (t : TypeId) (v : Value) : Bool:=match P.underlying t with
 | some (.int _) | some .string | some .bool => true
 | some (.struct fs) => match v with
  | .agg cs => fs.toList.all λ f => plainT P f.type && Nat.blt f.offset cs.size
  | _ => false
 | _ => false
theorem run_checkPlain {t : TypeId} (h : plainT P t = true) (e : Bool) (n : Nat) (v : Value) (w : World) : (Instr.checkKey e (n + 1) t v).run P w = .ok () w:=by
 unfold plainT at h
 rw [Instr.checkKey]
 split at h
 ·rename_i hu; simp only [Sem.run_bind, run_underlying hu, Result.andThen_ok]; cases v <;> rfl
 ·rename_i hu; simp only [Sem.run_bind, run_underlying hu, Result.andThen_ok]; cases v <;> rfl
 ·rename_i hu; simp only [Sem.run_bind, run_underlying hu, Result.andThen_ok]; cases v <;> rfl
 ·cases h
theorem aggOf_plain {t : TypeId} (h : plainT P t = true) (hi : (P.info? t).isSome = true) : aggOf P t = some none:=by
 unfold plainT at h
 unfold aggOf
 split at h
 ·rename_i hu; simp [hu]
 ·rename_i hu; simp [hu]
 ·rename_i hu; simp [hu]
 ·cases h
theorem run_checkKey {t : TypeId} {v : Value} (h : keyOK P t v = true) (e : Bool) (w : World) : (Instr.checkKey e 10000 t v).run P w = .ok () w:=by
 unfold keyOK at h
 split at h
 ·rename_i k hu; exact run_checkPlain (by simp [plainT, hu]) e 9999 v w
 ·rename_i hu; exact run_checkPlain (by simp [plainT, hu]) e 9999 v w
 ·rename_i hu; exact run_checkPlain (by simp [plainT, hu]) e 9999 v w
 ·rename_i fs hu
  split at h
  ·rename_i cs
   rw [show (10000 : Nat) = 9998 + 1 + 1 from rfl, Instr.checkKey]
   simp only [Sem.run_bind, run_underlying hu, Result.andThen_ok]
   rw [<- Array.forIn_toList]
   generalize fs.toList = L at h
   induction L with
   | nil => simp
   | cons f L ih =>
    simp only [List.all_cons, Bool.and_eq_true] at h
    obtain ⟨⟨h1, h2⟩, h3⟩:=h
    have hlt : f.offset < cs.size:=by simpa using h2
    have hi : (P.info? f.type).isSome = true:=by
     cases hi : P.info? f.type with
     | none => unfold plainT at h1; unfold Program.underlying at h1; simp [hi] at h1
     | some _ => rfl
    have hp : (part f.type cs f.offset).run P w = .ok cs[f.offset] w:=run_part (g:=none) (aggOf_plain h1 hi) (by simp [partV, hlt]) w
    by_cases hn : f.name = "_"
    ·simp only [List.forIn_cons, hn, ne_eq, not_true_eq_false, if_false, Sem.run_bind, Sem.run_pure, Result.andThen_ok]
     exact ih h3
    ·simp only [List.forIn_cons, Sem.run_bind, hn, ne_eq, not_false_eq_true, if_true, Result.andThen_ok, hp, run_checkPlain h1 e 9998 _ w, Sem.run_pure]
     exact ih h3
  ·cases h
 ·cases h
def lookV (P : Program) (kt : TypeId) (sh : EqSh) (zero : Value) (ok : Bool) (m k : Value) (w : World) : Option Value:=match m with
 | .map none => bif keyOK P kt k then some (if ok then .tuple #[zero, .bool false] else zero) else none
 | .map (some b) => match mp w b with
  | some (es, _) => bif keyOK P kt k then (match findE sh k es 0 with
   | some (some (_, v)) => some (if ok then .tuple #[v, .bool true] else v)
   | some none => some (if ok then .tuple #[zero, .bool false] else zero)
   | none => none) else none
  | none => none
 | _ => none
theorem mp_get {w : World} {b : Nat} {es : List MapEntry} {c : Nat} (h : mp w b = some (es, c)) : w.heap[b]? = some (.map es.toArray c):=by
 unfold mp at h
 split at h
 ·rename_i xs c' hh; cases h; simpa using hh
 ·cases h
theorem run_getMap {r : Nat} {es : Array MapEntry} {c : Nat} {w : World} (h : w.heap[r]? = some (.map es c)) : (getObj r).run P w = .ok (.map es c) w:=by simp [getObj, Sem.run, h]
theorem run_zeroOf {e : TypeId} {i : TypeInfo} {z : Value} (hi : P.info? e = some i) (hz : i.zero = some z) (w : World) : (zeroValue e).run P w = .ok z w:=by
 simp [zeroValue, typeInfo, hi, hz]
theorem run_lookV {t kt e : TypeId} {sh : EqSh} {z : Value} {i : TypeInfo} (hu : P.underlying t = some (.map kt e)) (hs : eqShape P kt = some sh) (hi : P.info? e = some i) (hz : i.zero = some z) {ok : Bool} {m k v : Value} {w : World} (h : lookV P kt sh z ok m k w = some v) :
  (Instr.lookup t m k ok).run P w = .ok v w:=by
 unfold Instr.lookup
 simp only [Sem.run_bind, run_underlying hu, Result.andThen_ok]
 unfold lookV at h
 split at h
 ·cases hk : keyOK P kt k with
  | false => rw [hk] at h; cases h
  | true =>
   rw [hk] at h
   simp only [cond_true, Option.some.injEq] at h
   simp only [Sem.run_bind, Sem.run_pure, Result.andThen_ok, run_checkKey hk]
   rw [run_findKey hs (es:=[]) (r:=none) rfl]
   simp only [Result.andThen_ok, Sem.run_bind, run_zeroOf hi hz, Sem.run_pure]
   rw [h]
 ·rename_i b
  cases hm : mp w b with
  | none => rw [hm] at h; cases h
  | some q =>
   obtain ⟨es, c⟩:=q
   rw [hm] at h
   cases hk : keyOK P kt k with
   | false => rw [hk] at h; cases h
   | true =>
    rw [hk] at h
    simp only [cond_true] at h
    simp only [Sem.run_bind, run_getMap (mp_get hm), Sem.run_pure, Result.andThen_ok, run_checkKey hk]
    cases hf : findE sh k es 0 with
    | none => rw [hf] at h; cases h
    | some r =>
     rw [hf] at h
     rw [run_findKey (es:=es.toArray.toList) hs hf]
     cases r with
     | none =>
      simp only [Option.some.injEq] at h
      simp only [Result.andThen_ok, Sem.run_bind, run_zeroOf hi hz, Sem.run_pure]
      rw [h]
     | some p =>
      obtain ⟨j, x⟩:=p
      simp only [Option.some.injEq] at h
      simp only [Result.andThen_ok, Sem.run_bind, Sem.run_pure]
      rw [h]
 ·cases h
def updM (P : Program) (kt : TypeId) (sh : EqSh) (m k v : Value) (w : World) : Option (Value × World):=match m with
 | .map (some b) => match mp w b with
  | some (es, c) => bif keyOK P kt k then (match findE sh k es 0 with
   | some (some (i, _)) => match es[i]? with
    | some e => bif Instr.sameBits 10000 e.key k then some (undef, stMp w b (es.set i { e with key:=k, val:=v }) c) else none
    | none => none
   | some none => some (undef, stMp w b (es ++ [{ key:=k, val:=v, born:=c }]) (c + 1))
   | none => none) else none
  | none => none
 | _ => none
theorem run_setMap {r : Nat} {o : Obj} {es : Array MapEntry} {c : Nat} {w : World} (h : w.heap[r]? = some (.map es c)) : (setObj r o).run P w = .ok () { w with heap:=w.heap.setIfInBounds r o }:=by
 simp [setObj, Sem.run, h]
theorem updM_undef {kt : TypeId} {sh : EqSh} {m k v u : Value} {w w' : World} (h : updM P kt sh m k v w = some (u, w')) : u = undef:=by
 unfold updM at h
 split at h
 ·rename_i b
  cases hm : mp w b with
  | none => rw [hm] at h; cases h
  | some q =>
   obtain ⟨es, c⟩:=q
   rw [hm] at h
   cases hk : keyOK P kt k with
   | false => rw [hk] at h; cases h
   | true =>
    rw [hk] at h
    simp only [cond_true] at h
    cases hf : findE sh k es 0 with
    | none => rw [hf] at h; cases h
    | some r =>
     rw [hf] at h
     cases r with
     | none => simp only [Option.some.injEq, Prod.mk.injEq] at h; exact h.1.symm
     | some p =>
      obtain ⟨j, x⟩:=p
      simp only at h
      cases he : es[j]? with
      | none => rw [he] at h; cases h
      | some e0 =>
       rw [he] at h
       simp only at h
       cases hb : Instr.sameBits 10000 e0.key k with
       | false => rw [hb] at h; cases h
       | true =>
        rw [hb] at h
        simp only [cond_true, Option.some.injEq, Prod.mk.injEq] at h
        exact h.1.symm
 ·cases h
theorem run_updM {t kt e : TypeId} {sh : EqSh} (hu : P.underlying t = some (.map kt e)) (hs : eqShape P kt = some sh) {m k v u : Value} {w w' : World} (h : updM P kt sh m k v w = some (u, w')) :
  (Instr.mapUpdate t m k v).run P w = .ok () w':=by
 unfold Instr.mapUpdate
 simp only [Sem.run_bind, run_underlying hu, Result.andThen_ok]
 unfold updM at h
 split at h
 ·rename_i b
  cases hm : mp w b with
  | none => rw [hm] at h; cases h
  | some q =>
   obtain ⟨es, c⟩:=q
   rw [hm] at h
   cases hk : keyOK P kt k with
   | false => rw [hk] at h; cases h
   | true =>
    rw [hk] at h
    simp only [cond_true] at h
    simp only [Sem.run_bind, run_getMap (mp_get hm), Sem.run_pure, Result.andThen_ok, run_checkKey hk]
    cases hf : findE sh k es 0 with
    | none => rw [hf] at h; cases h
    | some r =>
     rw [hf] at h
     rw [run_findKey (es:=es.toArray.toList) hs hf]
     cases r with
     | none =>
      simp only [Option.some.injEq, Prod.mk.injEq] at h
      simp only [Result.andThen_ok, run_setMap (mp_get hm)]
      rw [<- h.2]
      simp [stMp]
     | some p =>
      obtain ⟨j, x⟩:=p
      simp only at h
      cases he : es[j]? with
      | none => rw [he] at h; cases h
      | some e0 =>
       rw [he] at h
       simp only at h
       cases hb : Instr.sameBits 10000 e0.key k with
       | false => rw [hb] at h; cases h
       | true =>
        rw [hb] at h
        simp only [cond_true, Option.some.injEq, Prod.mk.injEq] at h
        have hj : (Option.map (λ x : MapEntry => x.key) es.toArray[j]?).getD k = e0.key:=by simp [he]
        simp only [Result.andThen_ok, Sem.run_bind, hj, Instr.keyThatStays, hb, if_true, Sem.run_pure, run_setMap (mp_get hm)]
        rw [<- h.2]
        have hlt:=(List.getElem?_eq_some_iff.1 he).1
        have he':=(List.getElem?_eq_some_iff.1 he).2
        have hmod : es.toArray.modify j (λ e => { e with key:=k, val:=v }) = (es.set j { e0 with key:=k, val:=v }).toArray:=by
         apply Array.ext'
         apply List.ext_getElem?
         intro n
         by_cases hn : j = n
         ·subst hn
          simp [hlt, he']
         ·simp [List.getElem?_modify, List.getElem?_set, hn]
        rw [hmod]
        rfl
 ·cases h
def delM (P : Program) (kt : TypeId) (sh : EqSh) (m k : Value) (w : World) : Option (Value × World):=match m with
 | .map none => bif keyOK P kt k then some (.tuple #[], w) else none
 | .map (some b) => match mp w b with
  | some (es, c) => bif keyOK P kt k then (match findE sh k es 0 with
   | some (some (i, _)) => some (.tuple #[], stMp w b (es.eraseIdx i) c)
   | some none => some (.tuple #[], stMp w b es c)
   | none => none) else none
  | none => none
 | _ => none
theorem run_delM {t kt e ty : TypeId} {sh : EqSh} (hu : P.underlying t = some (.map kt e)) (hs : eqShape P kt = some sh) {ts : Array TypeId} (ht : ts[0]? = some t) {m k u : Value} {w w' : World} (h : delM P kt sh m k w = some (u, w')) :
  (Builtin.delete_ ts ty #[m, k]).run P w = .ok u w':=by
 unfold Builtin.delete_
 simp only [ht, show (#[m, k] : Array Value)[0]? = some m from rfl, show (#[m, k] : Array Value)[1]? = some k from rfl, Sem.run_bind, run_underlying hu, Result.andThen_ok]
 unfold delM at h
 split at h
 ·cases hk : keyOK P kt k with
  | false => rw [hk] at h; cases h
  | true =>
   rw [hk] at h
   simp only [cond_true, Option.some.injEq, Prod.mk.injEq] at h
   simp only [Sem.run_bind, run_checkKey hk, Result.andThen_ok, Sem.run_pure]
   rw [<- h.1, <- h.2]
 ·rename_i b
  cases hm : mp w b with
  | none => rw [hm] at h; cases h
  | some q =>
   obtain ⟨es, c⟩:=q
   rw [hm] at h
   cases hk : keyOK P kt k with
   | false => rw [hk] at h; cases h
   | true =>
    rw [hk] at h
    simp only [cond_true] at h
    simp only [Sem.run_bind, run_getMap (mp_get hm), Sem.run_pure, Result.andThen_ok, run_checkKey hk]
    cases hf : findE sh k es 0 with
    | none => rw [hf] at h; cases h
    | some r =>
     rw [hf] at h
     rw [run_findKey (es:=es.toArray.toList) hs hf]
     cases r with
     | none =>
      simp only [Option.some.injEq, Prod.mk.injEq] at h
      simp only [Result.andThen_ok, run_setMap (mp_get hm), Sem.run_pure, Sem.run_bind]
      rw [<- h.1, <- h.2]
      rfl
     | some p =>
      obtain ⟨j, x⟩:=p
      simp only [Option.some.injEq, Prod.mk.injEq] at h
      simp only [Result.andThen_ok, run_setMap (mp_get hm), Sem.run_pure, Sem.run_bind]
      rw [<- h.1, <- h.2]
      have : es.toArray.eraseIdxIfInBounds j = (es.eraseIdx j).toArray:=by
       apply Array.ext'
       simp
      rw [this]
      rfl
 ·cases h
def mkmM (w : World) : Option (Value × World):=some (.map (some w.heap.size), w.alloc (.map #[] 0))
theorem run_mkmM {t : TypeId} (w : World) : (Instr.makeMap t none).run P w = .ok (.map (some w.heap.size)) (w.alloc (.map #[] 0)):=by
 simp [Instr.makeMap, newObj, Sem.run]
def rngM (m : Value) (w : World) : Option (Value × World):=match m with
 | .map none => some (.pointer (some ⟨w.heap.size, 0, none⟩), w.alloc (.mapIter none 0 #[] 0))
 | .map (some b) => match w.heap[b]? with
  | some (.map _ c) => some (.pointer (some ⟨w.heap.size, 0, none⟩), w.alloc (.mapIter (some b) c #[] c))
  | _ => none
 | _ => none
theorem run_rngM {t kt e : TypeId} (hu : P.underlying t = some (.map kt e)) {m u : Value} {w w' : World} (h : rngM m w = some (u, w')) : (Instr.range t m).run P w = .ok u w':=by
 unfold Instr.range
 simp only [Sem.run_bind, run_underlying hu, Result.andThen_ok]
 unfold rngM at h
 split at h
 ·simp only [Option.some.injEq, Prod.mk.injEq] at h
  rw [<- h.1, <- h.2]
  simp [newObj, Sem.run]
 ·rename_i b
  split at h
  ·rename_i es c hb
   simp only [Option.some.injEq, Prod.mk.injEq] at h
   rw [<- h.1, <- h.2]
   simp only [Sem.run_bind, run_getMap hb, Result.andThen_ok, Sem.run_pure]
   simp [newObj, Sem.run]
  ·cases h
 ·cases h
def nextC (es : Array MapEntry) (since : Nat) (seen : Array Nat) : Array (Option MapEntry) :=
 let left:=es.filter λ e => !seen.contains e.born
 let old:=left.filter (·.born < since)
 let new:=left.filter (·.born >= since)
 (if old.isEmpty then #[none] else #[]) ++ (old ++ new).map some
def nextQ (n : Nat) (w : World) : Nat × World:=if n <= 1 then (0, w) else ((Question.mapNext n).cut (w.tape w.drawn (.mapNext n)), w.drew)
def nxtM (it : Value) (w : World) : Option (Value × World):=match it with
 | .pointer (some ⟨r, 0, _⟩) => match w.heap[r]? with
  | some (.mapIter none _ _ _) => some (.tuple #[.bool false], w)
  | some (.mapIter (some m) since seen last) => match w.heap[m]? with
   | some (.map es c) => if !seen.isEmpty && !es.isEmpty && es.all (·.born >= last) then none else
    match (nextC es since seen)[(nextQ (nextC es since seen).size w).1]? with
    | some (some e) => some (.tuple #[.bool true, e.key, e.val], { (nextQ (nextC es since seen).size w).2 with heap:=(nextQ (nextC es since seen).size w).2.heap.setIfInBounds r (.mapIter (some m) since (seen.push e.born) c) })
    | some none => some (.tuple #[.bool false], (nextQ (nextC es since seen).size w).2)
    | none => none
   | _ => none
  | _ => none
 | _ => none
theorem nextQ_run (n : Nat) (w : World) : (choose (.mapNext n)).run P w = .ok (nextQ n w).1 (nextQ n w).2:=by
 rw [run_choose_drew]
 unfold nextQ Question.forced
 by_cases h : n <= 1
 ·simp [h]
 ·simp [h]
theorem nextQ_heap (n : Nat) (w : World) : (nextQ n w).2.heap = w.heap:=by unfold nextQ; split <;> rfl
theorem run_nxtM {ty : TypeId} {it u : Value} {w w' : World} (h : nxtM it w = some (u, w')) : (Instr.next it false ty).run P w = .ok u w':=by
 unfold Instr.next
 unfold nxtM at h
 split at h
 case h_2 => cases h
 rename_i r sp
 split at h
 ·rename_i x1 x2 x3 hr
  have hget : (getObj r).run P w = .ok (.mapIter none x1 x2 x3) w:=by simp [getObj, Sem.run, hr]
  simp only [Sem.run_bind, hget, Result.andThen_ok]
  simp only [Option.some.injEq, Prod.mk.injEq] at h
  rw [<- h.1, <- h.2]
  rfl
 ·rename_i m since seen last hr
  have hget : (getObj r).run P w = .ok (.mapIter (some m) since seen last) w:=by simp [getObj, Sem.run, hr]
  simp only [Sem.run_bind, hget, Result.andThen_ok]
  split at h
  ·rename_i es c hm
   split at h
   ·cases h
   rename_i hc
   simp only [Sem.run_bind, run_getMap hm, Result.andThen_ok]
   rw [if_neg hc]
   have hq:=nextQ_run (P:=P) (nextC es since seen).size w
   change Sem.run P (choose (.mapNext (nextC es since seen).size) >>= λ n => match (nextC es since seen)[n]? with
    | some (some e) => (do
     setObj r (Obj.mapIter (some m) since (seen.push e.born) c)
     pure (Value.tuple #[Value.bool true, e.key, e.val]))
    | some none => pure (Value.tuple #[Value.bool false])
    | none => stuck "Next: no such candidate") w = _
   rw [Sem.run_bind, hq]
   simp only [Result.andThen_ok]
   have hh:=nextQ_heap (nextC es since seen).size w
   generalize nextQ (nextC es since seen).size w = q at h hh
   split at h
   ·rename_i e he
    have hr' : q.2.heap[r]? = some (.mapIter (some m) since seen last):=by rw [hh]; exact hr
    simp only [he, Sem.run_bind]
    simp only [Option.some.injEq, Prod.mk.injEq] at h
    rw [<- h.1, <- h.2]
    simp [setObj, Sem.run, hr']
   ·rename_i he
    simp only [Option.some.injEq, Prod.mk.injEq] at h
    rw [<- h.1, <- h.2]
    simp only [he, Sem.run_pure]
   ·cases h
  ·cases h
 ·cases h
def entV (it : Value) (w : World) : Option Value:=match it with
 | .pointer (some ⟨r, 0, _⟩) => match w.heap[r]? with
  | some (.mapIter (some m) _ seen stepped) => match seen.back? with
   | some stamp => match w.heap[m]? with
    | some (.map es clock) => if clock != stepped then none else match es.find? (·.born == stamp) with
     | some e => some (.tuple #[e.key, e.val])
     | none => none
    | _ => none
   | none => none
  | _ => none
 | _ => none
theorem run_entV {it u : Value} {w : World} (h : entV it w = some u) : (Instr.entry it).run P w = .ok u w:=by
 unfold Instr.entry
 unfold entV at h
 split at h
 case h_2 => cases h
 rename_i r sp
 split at h
 case h_2 => cases h
 rename_i m x seen stepped hr
 have hget : (getObj r).run P w = .ok (.mapIter (some m) x seen stepped) w:=by simp [getObj, Sem.run, hr]
 simp only [Sem.run_bind, hget, Result.andThen_ok]
 cases hb : seen.back? with
 | none => rw [hb] at h; cases h
 | some stamp =>
  rw [hb] at h
  simp only at h
  split at h
  case h_2 => cases h
  rename_i es clock hm
  simp only [Sem.run_bind, run_getMap hm, Result.andThen_ok]
  split at h
  ·cases h
  ·rename_i hc
   rw [if_neg hc]
   cases hf : es.find? (λ e => e.born == stamp) with
   | none => rw [hf] at h; cases h
   | some e => rw [hf] at h; cases h; rfl
def mentM (P : Program) (kt : TypeId) (sh : EqSh) (z m k : Value) (w : World) : Option (Value × World):=match m with
 | .map (some b) => match mp w b with
  | some (es, c) => bif keyOK P kt k then (match findE sh k es 0 with
   | some none => some (.tuple #[z, .int .i64 (c : Nat)], stMp w b (es ++ [{ key:=k, val:=z, born:=c }]) (c + 1))
   | _ => none) else none
  | none => none
 | _ => none
theorem run_mentM {t kt e : TypeId} {sh : EqSh} {z : Value} {i : TypeInfo} (hu : P.underlying t = some (.map kt e)) (hs : eqShape P kt = some sh) (hi : P.info? e = some i) (hz : i.zero = some z) {m k u : Value} {w w' : World} (h : mentM P kt sh z m k w = some (u, w')) :
  (Instr.mapEntry t m k).run P w = .ok u w':=by
 unfold Instr.mapEntry
 simp only [Sem.run_bind, run_underlying hu, Result.andThen_ok]
 unfold mentM at h
 split at h
 ·rename_i b
  cases hm : mp w b with
  | none => rw [hm] at h; cases h
  | some q =>
   obtain ⟨es, c⟩:=q
   rw [hm] at h
   cases hk : keyOK P kt k with
   | false => rw [hk] at h; cases h
   | true =>
    rw [hk] at h
    simp only [cond_true] at h
    simp only [Sem.run_bind, run_getMap (mp_get hm), Sem.run_pure, Result.andThen_ok, run_checkKey hk]
    cases hf : findE sh k es 0 with
    | none => rw [hf] at h; cases h
    | some r =>
     rw [hf] at h
     rw [run_findKey (es:=es.toArray.toList) hs hf]
     cases r with
     | none =>
      simp only [Option.some.injEq, Prod.mk.injEq] at h
      simp only [Result.andThen_ok, Sem.run_bind, run_zeroOf hi hz, run_setMap (mp_get hm), Sem.run_pure]
      rw [<- h.1, <- h.2]
      simp [stMp, goInt]
     | some p => cases h
 ·cases h
def estM (m stamp v : Value) (w : World) : Option (Value × World):=match m, stamp with
 | .map (some b), .int _ n => match mp w b with
  | some (es, c) => match es.findIdx? (λ e => (e.born : Int) == n) with
   | some i => some (undef, stMp w b (es.modify i λ e => { e with val:=v }) c)
   | none => none
  | none => none
 | _, _ => none
theorem run_estM {t : TypeId} {m stamp v u : Value} {w w' : World} (h : estM m stamp v w = some (u, w')) :
  u = undef /\ (Instr.entryStore t m stamp v).run P w = .ok () w':=by
 unfold Instr.entryStore
 unfold estM at h
 split at h
 case h_2 => cases h
 rename_i b k n
 cases hm : mp w b with
 | none => rw [hm] at h; cases h
 | some q =>
  obtain ⟨es, c⟩:=q
  rw [hm] at h
  simp only at h
  cases hf : es.findIdx? (λ e => (e.born : Int) == n) with
  | none => rw [hf] at h; cases h
  | some i =>
   rw [hf] at h
   simp only [Option.some.injEq, Prod.mk.injEq] at h
   refine ⟨h.1.symm, ?_⟩
   simp only [Sem.run_bind, run_getMap (mp_get hm), Sem.run_pure, Result.andThen_ok, asInt, asIntOf]
   have : es.toArray.findIdx? (λ e => (e.born : Int) == n) = some i:=by simpa using hf
   simp only [this, run_setMap (mp_get hm)]
   rw [<- h.2]
   simp [stMp]
end
end Go.Lift
namespace Go.Lift
set_option linter.unusedSimpArgs false
abbrev Env:=Nat -> Option Value
def upd (ρ : Env) (d : Nat) (v : Value) : Env:=λ t => bif Nat.beq t d then some v else ρ t
def updD (ρ : Env) (d : Option Nat) (v : Value) : Env:=match d with
 | some d => upd ρ d v
 | none => ρ
def ev (ρ : Env) : Operand -> Option Value
 | .tmp t => ρ t
 | .const v => some v
 | .global g => some (.pointer (some ⟨g, 0, none⟩))
 | .func f => some (.func (.func f) #[] #[])
def evs (ρ : Env) : List Operand -> Option (List Value)
 | [] => some []
 | x :: r => match ev ρ x with
  | some v => match evs ρ r with
   | some l => some (v :: l)
   | none => none
  | none => none
inductive OpR where
 | val (v : Value)
 | opt (o : Option Value)
 | rd (r : World -> Option Value)
 | act (m : M Value)
abbrev Tab:=FuncId -> List Value -> M Value
def ap0 (g : M Value) : List Value -> M Value
 | [] => g
 | _ => M.fail
def ap1 (g : Value -> M Value) : List Value -> M Value
 | [a] => g a
 | _ => M.fail
def ap2 (g : Value -> Value -> M Value) : List Value -> M Value
 | [a, b] => g a b
 | _ => M.fail
def ap3 (g : Value -> Value -> Value -> M Value) : List Value -> M Value
 | [a, b, c] => g a b c
 | _ => M.fail
def ap5 (g : Value -> Value -> Value -> Value -> Value -> M Value) : List Value -> M Value
 | [a, b, c, d, e] => g a b c d e
 | _ => M.fail
def callV (T : Tab) (f : Value) (args : List Value) : M Value:=match f with
 | .func (.func k) first captured => T k (first.toList ++ args ++ captured.toList)
 | _ => M.fail
def o1 (ρ : Env) (x : Operand) (f : Value -> OpR) : OpR:=match ev ρ x with
 | some v => f v
 | none => .act M.fail
def oL (ρ : Env) (x : List Operand) (f : List Value -> OpR) : OpR:=match evs ρ x with
 | some v => f v
 | none => .act M.fail
def oO {α : Type} (x : Option α) (f : α -> OpR) : OpR:=match x with
 | some v => f v
 | none => .act M.fail
def oB (ρ : Env) (x : Option Operand) (f : Option Value -> OpR) : OpR:=match x with
 | some x => o1 ρ x λ v => f (some v)
 | none => f none
def partsR (ρ : Env) (place : Nat -> Option (Nat × Nat)) : List (Nat × Operand) -> Option (List (Nat × Nat × Value))
 | [] => some []
 | (i, x) :: r => match place i, ev ρ x with
  | some q, some v => match partsR ρ place r with
   | some l => some ((q.1, q.2, v) :: l)
   | none => none
  | _, _ => none
def zeroOf (P : Program) (t : TypeId) : Option (Array Value × Nat × Nat):=match P.info? t with
 | some i => match i.zero with
  | some z => some (z.cells, i.size, i.bytes)
  | none => none
 | none => none
def zeroW (P : Program) (t : TypeId) : Option Value:=match P.info? t with
 | some i => i.zero
 | none => none
def sizeT (P : Program) (t : TypeId) : Option Nat:=match P.info? t with
 | some i => some i.size
 | none => none
def fieldT (P : Program) (t : TypeId) (k : Nat) : Option Field:=match P.underlying t with
 | some (.struct fs) => fs[k]?
 | _ => none
def binR (P : Program) (op : BinOp) (t : TypeId) (x y : Value) : OpR:=match op with
 | .shl => .opt (shV .shl x y)
 | .shr => .opt (shV .shr x y)
 | .eql => oO (eqShape P t) λ sh => match sh with
  | .one .int => .opt (binV .eql x y)
  | .one .str => .opt (binV .eql x y)
  | sh => .opt (eqV sh x y)
 | .neq => oO (eqShape P t) λ sh => match sh with
  | .one .int => .opt (binV .neq x y)
  | .one .str => .opt (binV .neq x y)
  | sh => .opt (neV sh x y)
 | op => .opt (binV op x y)
def methR (P : Program) (t : TypeId) (name : String) : Option (FuncId × Option Nat):=match P.info? t with
 | some i => match i.methods.find? (·.name == name) with
  | some m => match m.func, m.path.toList, P.underlying t with
   | some (f, true), [], some (.pointer _) => some (f, none)
   | some (_, false), [], some (.pointer _) => none
   | some (f, false), [], some _ => some (f, none)
   | some (f, true), [s], some (.pointer _) => bif s.deref then match fieldT P s.struct s.index with
    | some fd => match P.underlying fd.type, sizeT P fd.type with
     | some (.struct _), some n => bif Nat.beq n 0 then none else some (f, some fd.offset)
     | _, _ => none
    | none => none
    else none
   | _, _, _ => none
  | none => none
 | none => none
def minV : Value -> Value -> Option Value
 | .int k x, .int _ y => some (.int k (if y < x then y else x))
 | _, _ => none
def min3V (x y z : Value) : Option Value:=match minV x y with
 | some m => minV m z
 | none => none
def maxV : Value -> Value -> Option Value
 | .int k x, .int _ y => some (.int k (if y > x then y else x))
 | _, _ => none
def sdV : Value -> Option Value
 | .slice none _ _ => some (.pointer none)
 | .slice (some a) _ c => if c ≠ 0 then some (.pointer (some a)) else none
 | _ => none
def usM (P : Program) (ts : List TypeId) (p n : Value) : M Value:=λ w => match (Builtin.unsafeString_ ts.toArray 0 #[p, n]).run P w with
 | .ok v w' => some (v, w')
 | _ => none
def invV (P : Program) (T : Tab) (name : String) (recv : Value) (args : List Value) : M Value:=match recv with
 | .iface t v => match methR P t name with
  | some (f, none) => T f (v :: args)
  | some (f, some off) => match fieldA off v with
   | some p => T f (p :: args)
   | none => M.fail
  | none => M.fail
 | _ => M.fail
def isConst : Operand -> Bool
 | .const _ => true
 | _ => false
def isIface (P : Program) (t : TypeId) : Bool:=match P.underlying t with
 | some (.interface _) => true
 | _ => false
def binQ (P : Program) (op : BinOp) (t : TypeId) (lit : Bool) (x y : Value) : OpR:=bif lit && isIface P t then (match op with
 | .eql => .opt (eqV (.one .ifn) x y)
 | .neq => .opt (neV (.one .ifn) x y)
 | _ => .act M.fail) else binR P op t x y
def callR (P : Program) (T Tc : Tab) (ρ : Env) (c : Call) : OpR:=match c.callee with
 | .value (.func f) => oL ρ c.args.toList λ vs => .act (T f vs)
 | .value x => o1 ρ x λ v => oL ρ c.args.toList λ vs => .act (callV Tc v vs)
 | .invoke r m => o1 ρ r λ v => oL ρ c.args.toList λ vs => .act (invV P Tc m v vs)
 | .builtin .len => match c.args.toList, c.argTypes.toList with
  | [x], [t] => match P.underlying t with
   | some .string => o1 ρ x λ v => .opt (lenS v)
   | some (.slice _) => o1 ρ x λ v => .opt (lenL v)
   | some (.array n _) => .val (.int .i64 n)
   | _ => .act M.fail
  | _, _ => .act M.fail
 | .builtin .cap => match c.args.toList, c.argTypes.toList with
  | [x], [t] => match P.underlying t with
   | some (.slice _) => o1 ρ x λ v => .opt (capV v)
   | _ => .act M.fail
  | _, _ => .act M.fail
 | .builtin .append => match c.args.toList, c.argTypes.toList with
  | [s, x], [t, u] => match P.underlying t, P.underlying u with
   | some (.slice e), some (.slice _) | some (.slice e), some .string => o1 ρ s λ s => o1 ρ x λ x => oO (zeroOf P e) λ z => .act (appM e z.2.1 z.2.2 z.1 s x)
   | _, _ => .act M.fail
  | _, _ => .act M.fail
 | .builtin .delete => match c.args.toList, c.argTypes.toList with
  | [m, k], [t, _] => match P.underlying t with
   | some (.map kt _) => o1 ρ m λ m => o1 ρ k λ k => oO (eqShape P kt) λ sh => .act (delM P kt sh m k)
   | _ => .act M.fail
  | _, _ => .act M.fail
 | .builtin .min => match c.args.toList with
  | [x, y] => o1 ρ x λ x => o1 ρ y λ y => .act (optM (minV x y))
  | [x, y, z] => o1 ρ x λ x => o1 ρ y λ y => o1 ρ z λ z => .act (optM (min3V x y z))
  | _ => .act M.fail
 | .builtin .max => match c.args.toList with
  | [x, y] => o1 ρ x λ x => o1 ρ y λ y => .act (optM (maxV x y))
  | _ => .act M.fail
 | .builtin .unsafeSliceData => match c.args.toList with
  | [x] => o1 ρ x λ x => .act (optM (sdV x))
  | _ => .act M.fail
 | .builtin .unsafeString => match c.args.toList with
  | [x, y] => o1 ρ x λ x => o1 ρ y λ y => .act (usM P c.argTypes.toList x y)
  | _ => .act M.fail
 | .builtin .copy => match c.args.toList, c.argTypes.toList with
  | [d, s], [t, _] => match P.underlying t with
   | some (.slice e) => o1 ρ d λ d => o1 ρ s λ s => oO (sizeT P e) λ n => .act (cpyM n d s)
   | _ => .act M.fail
  | _, _ => .act M.fail
 | _ => .act M.fail
def convR (P : Program) (src dst : TypeId) (v : Value) : OpR:=match P.underlying src, P.underlying dst with
 | some (.int _), some (.int k) => .opt (cvtI k v)
 | some .string, some .string => .opt (cvtS v)
 | some .string, some (.slice e) => match P.underlying e with
  | some (.int .u8) => .act (sbM e v)
  | _ => .act M.fail
 | some (.slice e), some .string => match P.underlying e with
  | some (.int .u8) => .rd (bsR v)
  | _ => .act M.fail
 | _, _ => .act M.fail
def asrV (ok : Bool) (z : Value) (t : TypeId) (x : Value) : Option Value:=match x with
 | .iface t' v => bif Nat.beq t' t then some (bif ok then .tuple #[v, .bool true] else v) else (bif ok then some (.tuple #[z, .bool false]) else none)
 | .nilIface => bif ok then some (.tuple #[z, .bool false]) else none
 | _ => none
def asrR (P : Program) (ok : Bool) (t : TypeId) (x : Value) : OpR:=match P.underlying t with
 | some (.interface _) => .act M.fail
 | some _ => match P.info? t with
  | some i => match i.zero with
   | some z => .opt (asrV ok z t x)
   | none => .act M.fail
  | none => .act M.fail
 | none => .act M.fail
def opR (P : Program) (T Tc : Tab) (ρ : Env) (op : Op) : OpR:=match op with
 | .move x => o1 ρ x .val
 | .assign x => o1 ρ x .val
 | .pick c a b => o1 ρ c λ c => o1 ρ a λ a => o1 ρ b λ b => .opt (pickV c a b)
 | .alloc t => oO (zeroOf P t) λ z => .act (newM t z.1)
 | .box t x => o1 ρ x λ v => .act (newM t v.cells)
 | .build t parts => oO (placeOf P t) λ z => oO (partsR ρ z.2 parts.toList) λ l => .opt (buildV z.1 l)
 | .buildSlice t len parts => match P.underlying t with
  | some (.slice e) => oO (zeroOf P e) λ z => oO (partsR ρ (λ i => some (i * z.2.1, z.2.1)) parts.toList) λ l =>
   bif Nat.beq z.1.size z.2.1 && Nat.ble (len * z.2.1) 16777216 then .act (bslM e len (Builtin.zeroCells z.1 len) l) else .act M.fail
  | _ => .act M.fail
 | .load t a => oO (aggOf P t) λ g => o1 ρ a λ p => .rd (ldT g p)
 | .store t a x => oO (sizeT P t) λ n => o1 ρ a λ p => o1 ρ x λ v => .act (stM n p v)
 | .nilCheck x => o1 ρ x λ v => .opt (nilChk v)
 | .binOp op t x y _ => o1 ρ x λ vx => o1 ρ y λ vy => binQ P op t (isConst x || isConst y) vx vy
 | .unOp .not _ x => o1 ρ x λ v => .opt (notV v)
 | .unOp .neg _ x => o1 ρ x λ v => .opt (negV v)
 | .unOp .xor _ x => o1 ρ x λ v => .opt (cplV v)
 | .convert src dst x => o1 ρ x λ v => convR P src dst v
 | .makeInterface t x => match P.underlying t with
  | some (.interface _) => .act M.fail
  | some _ => o1 ρ x λ v => .val (.iface t v)
  | none => .act M.fail
 | .makeFunc fn first captured => oL ρ first.toList λ a => oL ρ captured.toList λ b => .val (.func fn a.toArray b.toArray)
 | .makeSlice t l c => match P.underlying t with
  | some (.slice e) => o1 ρ l λ l => o1 ρ c λ c => oO (zeroOf P e) λ z => .act (mksM e z.2.1 z.2.2 z.1 l c)
  | _ => .act M.fail
 | .slice t x lo hi none => o1 ρ x λ x => oB ρ lo λ lo => oB ρ hi λ hi => match P.underlying t with
  | some (.slice e) => oO (sizeT P e) λ n => .opt (sliceV n x lo hi)
  | some .string => .opt (sliceS x lo hi)
  | some (.array k e) => oO (sizeT P e) λ n => .opt (sliceR k n x lo hi)
  | _ => .act M.fail
 | .slice t x lo (some hi) (some mx) => o1 ρ x λ x => oB ρ lo λ lo => o1 ρ hi λ hi => o1 ρ mx λ mx => match P.underlying t with
  | some (.slice e) => oO (sizeT P e) λ n => .opt (sliceV3 n x lo hi mx)
  | _ => .act M.fail
 | .typeAssert x _ t ok => o1 ρ x λ v => asrR P ok t v
 | .fieldAddr s x f => oO (fieldT P s f) λ f => oO (sizeT P f.type) λ n => bif Nat.beq n 0 then .act M.fail else o1 ρ x λ p => .opt (fieldA f.offset p)
 | .field s x f => oO (fieldT P s f) λ f => oO (aggOf P f.type) λ g => o1 ρ x λ v => .opt (fieldV g f.offset v)
 | .indexAddr t x ix => o1 ρ x λ x => o1 ρ ix λ ix => match P.underlying t with
  | some (.slice e) => oO (sizeT P e) λ n => .opt (idxA n x ix)
  | some (.array k e) => oO (sizeT P e) λ n => .opt (idxR k n x ix)
  | _ => .act M.fail
 | .index t x ix => o1 ρ x λ x => o1 ρ ix λ ix => match P.underlying t with
  | some .string => .opt (idxS x ix)
  | some (.array k e) => oO (sizeT P e) λ n => oO (aggOf P e) λ g => .opt (idxG g k n x ix)
  | _ => .act M.fail
 | .extract x i => o1 ρ x λ v => .opt (extV i v)
 | .makeMap _ none => .act mkmM
 | .lookup t m k ok => match P.underlying t with
  | some (.map kt e) => oO (eqShape P kt) λ sh => oO (zeroW P e) λ z => o1 ρ m λ m => o1 ρ k λ k => .rd (lookV P kt sh z ok m k)
  | _ => .act M.fail
 | .mapUpdate t m k x => match P.underlying t with
  | some (.map kt _) => oO (eqShape P kt) λ sh => o1 ρ m λ m => o1 ρ k λ k => o1 ρ x λ v => .act (updM P kt sh m k v)
  | _ => .act M.fail
 | .range t x => match P.underlying t with
  | some (.map _ _) => o1 ρ x λ v => .act (rngM v)
  | _ => .act M.fail
 | .next it false => o1 ρ it λ v => .act (nxtM v)
 | .entry it => o1 ρ it λ v => .act (rdM (entV v))
 | .mapEntry t m k => match P.underlying t with
  | some (.map kt e) => oO (eqShape P kt) λ sh => oO (zeroW P e) λ z => o1 ρ m λ m => o1 ρ k λ k => .act (mentM P kt sh z m k)
  | _ => .act M.fail
 | .entryStore _ m s x => o1 ρ m λ m => o1 ρ s λ s => o1 ρ x λ v => .act (estM m s v)
 | .call c => callR P T Tc ρ c
 | _ => .act M.fail
def Got (P : Program) (s : Sem Next) (w : World) (v : Value) (w' : World) : Prop :=
 s.run P w = .ok (.value v) w' ∨ (v = undef /\ s.run P w = .ok .skip w') ∨
  ∃ f args w1, s.run P w = .ok (.enter f args) w1 /\ Calls P f args w1 (λ e w'' => e = .returned v /\ w'' = w')
def TabOk (P : Program) (T : Tab) : Prop:=∀ f args w v w', T f args w = some (v, w') -> Got P (callFunc f args.toArray) w v w'
def OpR.Sound (P : Program) (s : Sem Next) : OpR -> Prop
 | .val v => ∀ w, s.run P w = .ok (.value v) w
 | .opt x => ∀ v, x = some v -> ∀ w, s.run P w = .ok (.value v) w
 | .rd r => ∀ w v, r w = some v -> s.run P w = .ok (.value v) w
 | .act m => ∀ w v w', m w = some (v, w') -> Got P s w v w'
structure Agree (n : Nat) (a : Act) (ρ : Env) : Prop where
 defers : a.defers = []
 size : a.tmps.size = n
 at_ : ∀ t v, ρ t = some v -> a.tmps[t]? = some v
section
variable {P : Program} {n : Nat} {a : Act} {ρ : Env} {s : Sem Next}
theorem Agree.eval (h : Agree n a ρ) {x : Operand} {v : Value} (hx : ev ρ x = some v) : a.eval x = v:=by
 cases x with
 | tmp t => simp [Act.eval, h.at_ t v hx]
 | const u => simpa [ev, Act.eval] using hx
 | «global» g => simpa [ev, Act.eval] using hx
 | func f => simpa [ev, Act.eval] using hx
theorem Agree.evals (h : Agree n a ρ) : ∀ {xs : List Operand} {vs : List Value}, evs ρ xs = some vs -> xs.map a.eval = vs
 | [], vs, hx => by simp [evs] at hx; subst hx; rfl
 | x :: r, vs, hx => by
  simp only [evs] at hx
  split at hx
  ·rename_i v hv
   split at hx
   ·rename_i l hl
    cases hx
    simp [h.eval hv, h.evals hl]
   ·cases hx
  ·cases hx
theorem sound_fail : (OpR.act M.fail).Sound P s:=λ _ _ _ h => by cases h
theorem o1_sound (h : Agree n a ρ) {x : Operand} {f : Value -> OpR} (hf : (f (a.eval x)).Sound P s) : (o1 ρ x f).Sound P s:=by
 unfold o1
 split
 ·rename_i v hv; rw [h.eval hv] at hf; exact hf
 ·exact sound_fail
theorem oL_sound (h : Agree n a ρ) {x : List Operand} {f : List Value -> OpR} (hf : (f (x.map a.eval)).Sound P s) : (oL ρ x f).Sound P s:=by
 unfold oL
 split
 ·rename_i v hv; rw [h.evals hv] at hf; exact hf
 ·exact sound_fail
theorem oO_sound {α : Type} {x : Option α} {f : α -> OpR} (hf : ∀ v, x = some v -> (f v).Sound P s) : (oO x f).Sound P s:=by
 cases x with
 | some v => exact hf v rfl
 | none => exact sound_fail
theorem oB_sound (h : Agree n a ρ) {x : Option Operand} {f : Option Value -> OpR} (hf : (f (x.map a.eval)).Sound P s) : (oB ρ x f).Sound P s:=by
 unfold oB
 cases x with
 | none => exact hf
 | some x => exact o1_sound h hf
theorem partsR_eq (h : Agree n a ρ) {place : Nat -> Option (Nat × Nat)} : ∀ {ps : List (Nat × Operand)} {l : List (Nat × Nat × Value)}, partsR ρ place ps = some l ->
  (ps.map λ p => (p.1, a.eval p.2)).mapM (λ p => (place p.1).map λ q => (q.1, q.2, p.2)) = some l
 | [], l, hx => by simp [partsR] at hx; subst hx; rfl
 | (i, x) :: r, l, hx => by
  simp only [partsR] at hx
  split at hx
  ·rename_i q v hq hv
   split at hx
   ·rename_i l' hl
    cases hx
    simp [hq, h.eval hv, partsR_eq h hl]
   ·cases hx
  ·cases hx
theorem sizeT_info {t : TypeId} {k : Nat} (h : sizeT P t = some k) : ∃ i, P.info? t = some i /\ i.size = k:=by
 unfold sizeT at h
 split at h
 ·rename_i i hi; cases h; exact ⟨i, hi, rfl⟩
 ·cases h
theorem zeroOf_info {t : TypeId} {z : Array Value × Nat × Nat} (h : zeroOf P t = some z) : ∃ i v, P.info? t = some i /\ i.zero = some v /\ z = (v.cells, i.size, i.bytes):=by
 unfold zeroOf at h
 split at h
 ·rename_i i hi
  split at h
  ·rename_i v hv; cases h; exact ⟨i, v, hi, hv, rfl⟩
  ·cases h
 ·cases h
theorem fieldT_info {t : TypeId} {k : Nat} {f : Field} (h : fieldT P t k = some f) : ∃ fs, P.underlying t = some (.struct fs) /\ fs[k]? = some f:=by
 unfold fieldT at h
 split at h
 ·rename_i fs hu; exact ⟨fs, hu, h⟩
 ·cases h
theorem binR_sound {op : BinOp} {t yt : TypeId} {x y : Operand} {o : Oper} (ho : o.op = .binOp op t x y yt) : (binR P op t (a.eval x) (a.eval y)).Sound P (execOp a.eval o):=by
 have plain : op ≠ .eql -> op ≠ .neq -> ∀ v, binV op (a.eval x) (a.eval y) = some v -> ∀ w, (execOp a.eval o).run P w = .ok (.value v) w:=by
  intro h1 h2 v hv w
  have hg : eqGuard op t x y (a.eval x) (a.eval y) = pure ():=by cases op <;> first | rfl | exact absurd rfl h1 | exact absurd rfl h2
  simp only [binV] at hv
  split at hv
  ·rename_i k p k' q hx hy
   split at hv
   ·rename_i hk
    subst hk
    rw [hx, hy] at hg
    simp [execOp, ho, hg, hx, hy, run_intBin hv]
   ·cases hv
  ·rename_i p q hx hy
   rw [hx, hy] at hg
   simp [execOp, ho, hg, hx, hy, run_strBin hv]
  ·cases hv
 have cmp : op = .eql ∨ op = .neq -> ∀ v, binV op (a.eval x) (a.eval y) = some v -> ∀ w, (execOp a.eval o).run P w = .ok (.value v) w:=by
  intro h1 v hv w
  simp only [binV] at hv
  split at hv
  ·rename_i k p k' q hx hy
   split at hv
   ·rename_i hk
    subst hk
    have hg : eqGuard op t x y (.int k p) (.int k q) = pure ():=eqGuard_at_int _ _ _ _ _ _ _
    simp [execOp, ho, hx, hy, hg, run_intBin hv]
   ·cases hv
  ·rename_i p q hx hy
   have hg : eqGuard op t x y (.string p) (.string q) = pure ():=eqGuard_at_string _ _ _ _ _ _
   simp [execOp, ho, hx, hy, hg, run_strBin hv]
  ·cases hv
 have eqs : ∀ sh, eqShape P t = some sh -> op = .eql -> (OpR.opt (eqV sh (a.eval x) (a.eval y))).Sound P (execOp a.eval o):=by
  intro sh hsh hop v hv w
  subst hop
  simp only [eqV] at hv
  split at hv
  ·rename_i b hb
   cases hv
   have:=run_eqlV hsh hb x y .eql w
   simp [execOp, ho, this.1, this.2.1]
  ·cases hv
 have nes : ∀ sh, eqShape P t = some sh -> op = .neq -> (OpR.opt (neV sh (a.eval x) (a.eval y))).Sound P (execOp a.eval o):=by
  intro sh hsh hop v hv w
  subst hop
  simp only [neV] at hv
  split at hv
  ·rename_i b hb
   cases hv
   have:=run_eqlV hsh hb x y .neq w
   simp [execOp, ho, this.1, this.2.2]
  ·cases hv
 have sh : op = .shl ∨ op = .shr -> ∀ v, shV op (a.eval x) (a.eval y) = some v -> ∀ w, (execOp a.eval o).run P w = .ok (.value v) w:=by
  intro h1 v hv w
  have hg : eqGuard op t x y (a.eval x) (a.eval y) = pure ():=by rcases h1 with rfl | rfl <;> rfl
  simp [execOp, ho, hg, run_shV h1 hv]
 cases op <;> first
  | exact λ v hv w => plain (by simp) (by simp) v hv w
  | exact λ v hv w => sh (by simp) v hv w
  | skip
 case eql =>
  refine oO_sound (x:=eqShape P t) λ s hs => ?_
  split
  ·exact λ v hv w => cmp (.inl rfl) v hv w
  ·exact λ v hv w => cmp (.inl rfl) v hv w
  ·exact eqs _ hs rfl
 case neq =>
  refine oO_sound (x:=eqShape P t) λ s hs => ?_
  split
  ·exact λ v hv w => cmp (.inr rfl) v hv w
  ·exact λ v hv w => cmp (.inr rfl) v hv w
  ·exact nes _ hs rfl
theorem run_info {t : TypeId} {i : TypeInfo} (h : P.info? t = some i) (w : World) : (typeInfo t).run P w = .ok i w:=by
 simp [typeInfo, h]
theorem run_method0 {t : TypeId} {name : String} {f : FuncId} (h : methR P t name = some (f, none)) (v : Value) (k : Nat) (w : World) :
  (method (k + 1) t v name).run P w = .ok (f, v) w:=by
 unfold methR at h
 cases hi : P.info? t with
 | none => simp [hi] at h
 | some i =>
  simp only [hi] at h
  cases hm : i.methods.find? (·.name == name) with
  | none => simp [hm] at h
  | some m =>
   simp only [hm] at h
   split at h
   ·rename_i g e h1 h2 h3
    cases h
    simp [method, run_info hi, hm, h2, follow, h1, receiverAt, run_underlying h3, Place.get]
   ·cases h
   ·rename_i g u h0 h1 h2 h3
    cases h
    simp only [method, Sem.run_bind, run_info hi, Result.andThen_ok, hm, h2, follow, h1, receiverAt, run_underlying h3, Place.get, Sem.run_pure]
   ·rename_i g s e h1 h2 h3
    cases hd : s.deref with
    | false => simp [hd] at h
    | true =>
     simp only [hd, cond_true] at h
     split at h
     ·split at h
      ·rename_i n' _ _
       cases hb : Nat.beq n' 0 <;> simp [hb] at h
      ·cases h
     ·cases h
   ·cases h
theorem run_method1 {t : TypeId} {name : String} {f : FuncId} {off : Nat} (h : methR P t name = some (f, some off)) {v p : Value} (hv : fieldA off v = some p) (k : Nat) (w : World) :
  (method (k + 1) t v name).run P w = .ok (f, p) w:=by
 unfold methR at h
 cases hi : P.info? t with
 | none => simp [hi] at h
 | some i =>
  simp only [hi] at h
  cases hm : i.methods.find? (·.name == name) with
  | none => simp [hm] at h
  | some m =>
   simp only [hm] at h
   split at h <;> try (cases h; done)
   rename_i g s e h1 h2 h3
   cases hd : s.deref with
   | false => simp [hd] at h
   | true =>
    simp only [hd, cond_true] at h
    cases hf : fieldT P s.struct s.index with
    | none => simp [hf] at h
    | some fd =>
     simp only [hf] at h
     split at h
     ·rename_i fs2 n' hu2 hs2
      cases hb : Nat.beq n' 0 with
      | true => simp [hb] at h
      | false =>
       simp only [hb, cond_false, Option.some.injEq, Prod.mk.injEq] at h
       obtain ⟨rfl, rfl⟩:=h
       obtain ⟨fs, hu, hf⟩:=fieldT_info hf
       obtain ⟨i2, hi2, rfl⟩:=sizeT_info hs2
       have hne:=Nat.ne_of_beq_eq_false hb
       unfold fieldA at hv
       split at hv
       ·cases hv
        simp [method, run_info hi, hm, h2, follow, h1, receiverAt, run_underlying h3, Place.get, run_underlying hu, hf, hd, asAddr, fieldPlace, sizeOf, run_info hi2, hne, run_underlying hu2]
       ·cases hv
     ·cases h
theorem inv_sound {T : Tab} (hT : TabOk P T) (h : Agree n a ρ) {c : Call} {o : Oper} (ho : o.op = .call c) {r : Operand} {name : String} (hc : c.callee = .invoke r name) :
  (o1 ρ r λ v => oL ρ c.args.toList λ vs => .act (invV P T name v vs)).Sound P (execOp a.eval o):=by
 refine o1_sound h (oL_sound h λ w v w' hm => ?_)
 have hargs : c.args.map a.eval = (c.args.toList.map a.eval).toArray:=by
  rw [<- Array.toList_map, Array.toArray_toList]
 have hext : ∀ (x : Value) (l : List Value), (#[x] ++ l.toArray).extract 1 (#[x] ++ l.toArray).size = l.toArray:=λ x l => by
  apply Array.ext'; simp
 generalize hv : a.eval r = rv at hm
 have he : (execOp a.eval o).run P w = (callMethod rv name (c.args.toList.map a.eval).toArray).run P w:=by
  simp only [execOp, ho, resolve, hc, hv, hargs, pure_bind]
  simp only [invoke]
  rw [hext]
  simp
 cases rv <;> try (cases hm; done)
 rename_i t x
 simp only [invV] at hm
 cases hm1 : methR P t name with
 | none => rw [hm1] at hm; cases hm
 | some q =>
  obtain ⟨f, off⟩:=q
  rw [hm1] at hm
  cases off with
  | none =>
   have:=hT f _ w v w' hm
   have e2 : (callMethod (.iface t x) name (c.args.toList.map a.eval).toArray).run P w = (callFunc f (x :: c.args.toList.map a.eval).toArray).run P w:=by
    simp [callMethod, Made.depth, run_method0 hm1]
   simp only [Got, he, e2] at this ⊢
   exact this
  | some off =>
   simp only at hm
   cases hp : fieldA off x with
   | none => rw [hp] at hm; cases hm
   | some p =>
    rw [hp] at hm
    have:=hT f _ w v w' hm
    have e2 : (callMethod (.iface t x) name (c.args.toList.map a.eval).toArray).run P w = (callFunc f (p :: c.args.toList.map a.eval).toArray).run P w:=by
     simp [callMethod, Made.depth, run_method1 hm1 hp]
    simp only [Got, he, e2] at this ⊢
    exact this
theorem asrR_sound {x : Operand} {xT t : TypeId} {ok : Bool} {o : Oper} (ho : o.op = .typeAssert x xT t ok) : (asrR P ok t (a.eval x)).Sound P (execOp a.eval o):=by
 unfold asrR
 split
 ·exact sound_fail
 ·rename_i u hni hu
  have hni':=hu
  split
  ·rename_i i hi
   split
   ·rename_i z hz
    intro v hv w
    have hzv : (zeroValue t).run P w = .ok z w:=by simp [zeroValue, typeInfo, hi, hz]
    have : (Instr.typeAssert (a.eval x) xT t ok).run P w = .ok v w:=by
     generalize a.eval x = xv at hv ⊢
     unfold asrV at hv
     unfold Instr.typeAssert
     split at hv
     ·rename_i t' y
      cases hb : Nat.beq t' t with
      | true =>
       have:=Nat.eq_of_beq_eq_true hb
       subst this
       simp only [hb, cond_true, Option.some.injEq] at hv
       subst hv
       simp only [Sem.run_bind, run_underlying hu, Result.andThen_ok]
       cases ok <;> cases u <;> simp_all
      | false =>
       have hne : t' ≠ t:=Nat.ne_of_beq_eq_false hb
       simp only [hb, cond_false] at hv
       cases ok <;> simp at hv
       subst hv
       simp only [Sem.run_bind, run_underlying hu, Result.andThen_ok]
       cases u <;> simp_all
     ·cases ok <;> simp at hv
      subst hv
      simp only [Sem.run_bind, run_underlying hu, Result.andThen_ok]
      cases u <;> simp_all
     ·cases hv
    simp [execOp, ho, this]
   ·exact sound_fail
  ·exact sound_fail
 ·exact sound_fail
theorem binQ_sound {op : BinOp} {t yt : TypeId} {x y : Operand} {o : Oper} (ho : o.op = .binOp op t x y yt) : (binQ P op t (isConst x || isConst y) (a.eval x) (a.eval y)).Sound P (execOp a.eval o):=by
 unfold binQ
 cases hb : (isConst x || isConst y) && isIface P t with
 | false => simp only [cond_false]; exact binR_sound ho
 | true =>
  simp only [cond_true]
  rw [Bool.and_eq_true] at hb
  obtain ⟨hc, hi⟩:=hb
  obtain ⟨ms, hu⟩ : ∃ ms, P.underlying t = some (.interface ms):=by
   unfold isIface at hi
   split at hi
   ·exact ⟨_, by assumption⟩
   ·cases hi
  have key : ∀ w b, eqPrim .ifn (a.eval x) (a.eval y) = some b -> (op = .eql ∨ op = .neq) -> (eqGuard op t x y (a.eval x) (a.eval y)).run P w = .ok () w /\ (binOp .eql t (a.eval x) (a.eval y)).run P w = .ok (.bool b) w /\ (binOp .neq t (a.eval x) (a.eval y)).run P w = .ok (.bool !b) w:=by
   intro w b he hop
   generalize hx : a.eval x = vx at he
   generalize hy : a.eval y = vy at he
   unfold eqPrim at he
   split at he <;> first | contradiction | skip
   all_goals (cases he; rename_i hk; cases hk)
   all_goals skip
   ·have he:=eqIn_ifn (P:=P) 9999 w hu
    have he' : (Op.equal t .nilIface .nilIface).run P w = .ok true w:=he
    refine ⟨?_, by simp [binOp, he'], by simp [binOp, he']⟩
    rcases hop with rfl | rfl <;> (unfold eqGuard; cases x <;> cases y <;> simp_all [isConst])
   ·have he:=eqIn_if0 (P:=P) 9999 w hu
    have he' : ∀ d z, (Op.equal t .nilIface (.iface d z)).run P w = .ok false w:=he
    refine ⟨by cases op <;> rfl, by simp [binOp, he'], by simp [binOp, he']⟩
   ·have he:=eqIn_if1 (P:=P) 9999 w hu
    have he' : ∀ d z, (Op.equal t (.iface d z) .nilIface).run P w = .ok false w:=he
    refine ⟨by cases op <;> rfl, by simp [binOp, he'], by simp [binOp, he']⟩
  cases op <;> try exact sound_fail
  ·intro v hv w
   simp only [eqV, eqlV] at hv
   split at hv
   ·rename_i b he
    cases hv
    have:=key w b he (.inl rfl)
    simp [execOp, ho, this.1, this.2.1]
   ·cases hv
  ·intro v hv w
   simp only [neV, eqlV] at hv
   split at hv
   ·rename_i b he
    cases hv
    have:=key w b he (.inr rfl)
    simp [execOp, ho, this.1, this.2.2]
   ·cases hv
theorem run_sd0 (n c : Nat) (ts : Array TypeId) (t : TypeId) (w : World) : (Builtin.unsafeSliceData_ ts t #[.slice none n c]).run P w = .ok (.pointer none) w:=rfl
theorem run_sd1 (a : Addr) (n c : Nat) (hc : c ≠ 0) (ts : Array TypeId) (t : TypeId) (w : World) : (Builtin.unsafeSliceData_ ts t #[.slice (some a) n c]).run P w = .ok (.pointer (some a)) w:=by
 obtain ⟨m, rfl⟩ : ∃ m, c = m + 1:=⟨c - 1, by omega⟩
 rfl
theorem callR_sound {T Tc : Tab} (hT : TabOk P T) (hTc : TabOk P Tc) (h : Agree n a ρ) {c : Call} {o : Oper} (ho : o.op = .call c) : (callR P T Tc ρ c).Sound P (execOp a.eval o):=by
 have hargs : ∀ l : List Operand, c.args.toList = l -> c.args.map a.eval = (l.map a.eval).toArray:=λ l hl => by
  subst hl; rw [<- Array.toList_map, Array.toArray_toList]
 have hdyn : ∀ x, c.callee = .value x -> (o1 ρ x λ v => oL ρ c.args.toList λ vs => .act (callV Tc v vs)).Sound P (execOp a.eval o):=by
  intro x hc
  refine o1_sound h (oL_sound h λ w v w' hm => ?_)
  generalize hv : a.eval x = fv at hm
  unfold callV at hm
  split at hm
  ·rename_i k first captured
   have:=hTc k _ w v w' hm
   have he : execOp a.eval o = callFunc k (first.toList ++ List.map a.eval c.args.toList ++ captured.toList).toArray:=by
    have e : ∀ l : List Value, first ++ l.toArray ++ captured = (first.toList ++ l ++ captured.toList).toArray:=λ l => by
     apply Array.ext'
     simp
    rw [<- e]
    simp [execOp, ho, resolve, hc, hv, Deferred.ofValue, invoke, hargs _ rfl]
   rw [he]
   exact this
  ·cases hm
 cases hc : c.callee with
 | value x =>
  cases x with
  | func f =>
   unfold callR
   rw [hc]
   refine oL_sound h λ w v w' hm => ?_
   have:=hT f _ w v w' hm
   have he : execOp a.eval o = callFunc f (List.map a.eval c.args.toList).toArray:=by
    simp [execOp, ho, resolve, hc, Act.eval, Deferred.ofValue, invoke, hargs _ rfl]
   rw [he]
   exact this
  | tmp t => unfold callR; rw [hc]; exact hdyn _ hc
  | const t => unfold callR; rw [hc]; exact hdyn _ hc
  | «global» t => unfold callR; rw [hc]; exact hdyn _ hc
 | invoke r m => unfold callR; rw [hc]; exact inv_sound hTc h ho hc
 | builtin b =>
  unfold callR
  rw [hc]
  cases b <;> try exact sound_fail
  case len =>
   dsimp only
   split
   ·rename_i x t hx ht
    have ha:=hargs _ hx
    have hty : c.argTypes = #[t]:=by rw [<- Array.toArray_toList (xs:=c.argTypes), ht]
    split
    ·rename_i hu
     refine o1_sound h λ v hv w => ?_
     simp only [lenS] at hv
     split at hv
     ·rename_i s hs; cases hv; simp [execOp, ho, resolve, hc, invoke, builtin, ha, hty, hs, Builtin.len_, run_underlying hu, goInt]
     ·cases hv
    ·rename_i e hu
     refine o1_sound h λ v hv w => ?_
     simp only [lenL] at hv
     split at hv
     ·rename_i s hs; cases hv; simp [execOp, ho, resolve, hc, invoke, builtin, ha, hty, hs, Builtin.len_, run_underlying hu, goInt]
     ·cases hv
    ·rename_i k e hu
     intro w
     simp [execOp, ho, resolve, hc, invoke, builtin, ha, hty, Builtin.len_, run_underlying hu, goInt]
    ·exact sound_fail
   ·exact sound_fail
  case cap =>
   dsimp only
   split
   ·rename_i x t hx ht
    have ha:=hargs _ hx
    have hty : c.argTypes = #[t]:=by rw [<- Array.toArray_toList (xs:=c.argTypes), ht]
    split
    ·rename_i e hu
     refine o1_sound h λ v hv w => ?_
     simp only [capV] at hv
     split at hv
     ·rename_i s hs; cases hv; simp [execOp, ho, resolve, hc, invoke, builtin, ha, hty, hs, Builtin.cap_, run_underlying hu, goInt]
     ·cases hv
    ·exact sound_fail
   ·exact sound_fail
  case append =>
   dsimp only
   split
   ·rename_i s x t u hx ht
    have ha:=hargs _ hx
    have hty : c.argTypes = #[t, u]:=by rw [<- Array.toArray_toList (xs:=c.argTypes), ht]
    have app : ∀ e du, P.underlying t = some (.slice e) -> P.underlying u = some du -> (∀ k, du ≠ .int k) ->
      (o1 ρ s λ s => o1 ρ x λ x => oO (zeroOf P e) λ z => .act (appM e z.2.1 z.2.2 z.1 s x)).Sound P (execOp a.eval o):=by
     intro e du hu hdu hnot
     refine o1_sound h (o1_sound h (oO_sound λ z hz w v w' hm => ?_))
     obtain ⟨i, zv, hi, hz0, rfl⟩:=zeroOf_info hz
     have:=run_appM (ty:=o.type) hu hdu hnot hi hz0 hm
     exact .inl (by simp [execOp, ho, resolve, hc, invoke, builtin, ha, hty, this])
    split
    ·rename_i e _ hu hdu; exact app e _ hu hdu (by simp)
    ·rename_i e hu hdu; exact app e _ hu hdu (by simp)
    ·exact sound_fail
   ·exact sound_fail
  case delete =>
   dsimp only
   split
   ·rename_i d s t u hx ht
    have ha:=hargs _ hx
    have hty : c.argTypes = #[t, u]:=by rw [<- Array.toArray_toList (xs:=c.argTypes), ht]
    split
    ·rename_i kt e hu
     refine o1_sound h (o1_sound h (oO_sound λ sh hs w v w' hm => ?_))
     have:=run_delM (ty:=o.type) (ts:=#[t, u]) hu hs rfl hm
     exact .inl (by simp [execOp, ho, resolve, hc, invoke, builtin, ha, hty, this])
    ·exact sound_fail
   ·exact sound_fail
  case min =>
   dsimp only
   split
   ·rename_i x y hx
    have ha:=hargs _ hx
    refine o1_sound h (o1_sound h λ w v w' hm => ?_)
    cases hv : minV (a.eval x) (a.eval y) with
    | none => rw [hv] at hm; cases hm
    | some u =>
     rw [hv] at hm
     simp only [optM, M.ret, Option.some.injEq, Prod.mk.injEq] at hm
     obtain ⟨rfl, rfl⟩:=hm
     unfold minV at hv
     split at hv
     ·rename_i k m j n h1 h2
      simp only [Option.some.injEq] at hv
      subst hv
      exact .inl (by simp [execOp, ho, resolve, hc, invoke, builtin, ha, Builtin.min_, Builtin.min2, h1, h2])
     ·cases hv
   ·rename_i x y z hx
    have ha:=hargs _ hx
    refine o1_sound h (o1_sound h (o1_sound h λ w v w' hm => ?_))
    cases hv : min3V (a.eval x) (a.eval y) (a.eval z) with
    | none => rw [hv] at hm; cases hm
    | some u =>
     rw [hv] at hm
     simp only [optM, M.ret, Option.some.injEq, Prod.mk.injEq] at hm
     obtain ⟨rfl, rfl⟩:=hm
     unfold min3V at hv
     split at hv
     ·rename_i m hm1
      unfold minV at hm1 hv
      split at hm1
      ·rename_i k p k2 q h1 h2
       cases hm1
       split at hv
       ·rename_i k3 p3 k4 q4 h3 h4
        cases h3
        cases hv
        exact .inl (by simp [execOp, ho, resolve, hc, invoke, builtin, ha, Builtin.min_, Builtin.min2, h1, h2, h4])
       ·cases hv
      ·cases hm1
     ·cases hv
   ·exact sound_fail
  case max =>
   dsimp only
   split
   ·rename_i x y hx
    have ha:=hargs _ hx
    refine o1_sound h (o1_sound h λ w v w' hm => ?_)
    cases hv : maxV (a.eval x) (a.eval y) with
    | none => rw [hv] at hm; cases hm
    | some u =>
     rw [hv] at hm
     simp only [optM, M.ret, Option.some.injEq, Prod.mk.injEq] at hm
     obtain ⟨rfl, rfl⟩:=hm
     unfold maxV at hv
     split at hv
     ·rename_i k m j n h1 h2
      simp only [Option.some.injEq] at hv
      subst hv
      exact .inl (by simp [execOp, ho, resolve, hc, invoke, builtin, ha, Builtin.max_, Builtin.max2, h1, h2])
     ·cases hv
   ·exact sound_fail
  case unsafeSliceData =>
   dsimp only
   split
   ·rename_i x hx
    have ha:=hargs _ hx
    refine o1_sound h λ w v w' hm => ?_
    cases hv : sdV (a.eval x) with
    | none => rw [hv] at hm; cases hm
    | some u =>
     rw [hv] at hm
     simp only [optM, M.ret, Option.some.injEq, Prod.mk.injEq] at hm
     obtain ⟨rfl, rfl⟩:=hm
     unfold sdV at hv
     split at hv
     ·rename_i h1
      simp only [Option.some.injEq] at hv
      subst hv
      exact .inl (by simp [execOp, ho, resolve, hc, invoke, builtin, ha, h1, run_sd0])
     ·rename_i h1
      split at hv
      ·rename_i h2
       simp only [Option.some.injEq] at hv
       subst hv
       exact .inl (by simp [execOp, ho, resolve, hc, invoke, builtin, ha, h1, run_sd1 _ _ _ h2])
      ·cases hv
     ·cases hv
   ·exact sound_fail
  case unsafeString =>
   dsimp only
   split
   ·rename_i x y hx
    have ha:=hargs _ hx
    refine o1_sound h (o1_sound h λ w v w' hm => ?_)
    unfold usM at hm
    split at hm
    ·rename_i v' w1 hr
     simp only [Option.some.injEq, Prod.mk.injEq] at hm
     obtain ⟨rfl, rfl⟩:=hm
     rw [Array.toArray_toList] at hr
     have hr' : (Builtin.unsafeString_ c.argTypes o.type #[a.eval x, a.eval y]).run P w = .ok v' w1:=hr
     exact .inl (by simp [execOp, ho, resolve, hc, invoke, builtin, ha, hr'])
    ·cases hm
   ·exact sound_fail
  case copy =>
   dsimp only
   split
   ·rename_i d s t u hx ht
    have ha:=hargs _ hx
    have hty : c.argTypes = #[t, u]:=by rw [<- Array.toArray_toList (xs:=c.argTypes), ht]
    split
    ·rename_i e hu
     refine o1_sound h (o1_sound h (oO_sound λ k hk w v w' hm => ?_))
     obtain ⟨i, hi, rfl⟩:=sizeT_info hk
     have:=run_cpyM (ty:=o.type) (u:=u) hu hi hm
     exact .inl (by simp [execOp, ho, resolve, hc, invoke, builtin, ha, hty, this])
    ·exact sound_fail
   ·exact sound_fail
theorem convR_sound {src dst : TypeId} {x : Operand} {o : Oper} (ho : o.op = .convert src dst x) : (convR P src dst (a.eval x)).Sound P (execOp a.eval o):=by
 unfold convR
 split
 ·rename_i k k' h1 h2
  intro v hv w
  simp only [cvtI] at hv
  split at hv
  ·rename_i hx; cases hv; simp [execOp, ho, hx, convert, run_underlying h1, run_underlying h2, Conv.intToInt]
  ·cases hv
 ·rename_i h1 h2
  intro v hv w
  simp only [cvtS] at hv
  split at hv
  ·rename_i hx; cases hv; simp [execOp, ho, hx, convert, run_underlying h1, run_underlying h2]
  ·cases hv
 ·rename_i e h1 h2
  split
  ·rename_i h3
   intro w v w' hm
   exact .inl (by simp [execOp, ho, run_sbM h1 h2 h3 hm])
  ·exact sound_fail
 ·rename_i e h1 h2
  split
  ·rename_i h3
   intro w v hm
   simp [execOp, ho, run_bsR h1 h3 h2 hm]
  ·exact sound_fail
 ·exact sound_fail
theorem opR_sound {T Tc : Tab} (hT : TabOk P T) (hTc : TabOk P Tc) (h : Agree n a ρ) (o : Oper) : (opR P T Tc ρ o.op).Sound P (execOp a.eval o):=by
 cases ho : o.op <;> dsimp only [opR] <;> try exact sound_fail
 case move x => exact o1_sound h λ w => by simp [execOp, ho]
 case assign x => exact o1_sound h λ w => by simp [execOp, ho]
 case pick c x y =>
  refine o1_sound h (o1_sound h (o1_sound h λ v hv w => ?_))
  simp only [pickV] at hv
  split at hv <;> first | contradiction | (rename_i hc; cases hv; simp [execOp, ho, asBool, hc])
 case alloc t =>
  refine oO_sound λ z hz w v w' hm => ?_
  obtain ⟨i, zv, hi, hz0, rfl⟩:=zeroOf_info hz
  cases hm
  exact .inl (by simp [execOp, ho, run_allocM hi hz0])
 case box t x =>
  refine o1_sound h λ w v w' hm => ?_
  cases hm
  exact .inl (by simp [execOp, ho, run_boxM])
 case build t parts =>
  refine oO_sound λ z hz => oO_sound λ l hl v hv w => ?_
  have:=partsR_eq h hl
  have:=run_buildV (P:=P) (place:=z.2) hz (parts:=parts.map λ (i, x) => (i, a.eval x)) (l:=l) (by simpa using this) hv w
  simp [execOp, ho, this]
 case buildSlice t len parts =>
  split
  ·rename_i e hu
   refine oO_sound λ z hz => oO_sound λ l hl => ?_
   obtain ⟨i, zv, hi, hz0, rfl⟩:=zeroOf_info hz
   cases hb : (Nat.beq zv.cells.size i.size && Nat.ble (len * i.size) 16777216) with
   | false => simp only [hb, cond_false]; exact sound_fail
   | true =>
    simp only [hb, cond_true]
    intro w v w' hm
    rw [Bool.and_eq_true] at hb
    have:=partsR_eq h hl
    have:=run_bslM (P:=P) hu hi hz0 (Nat.eq_of_beq_eq_true hb.1) (Nat.le_of_ble_eq_true hb.2) (parts:=parts.map λ (i, x) => (i, a.eval x)) (l:=l) (by simpa using this) hm
    exact .inl (by simp [execOp, ho, this])
  ·exact sound_fail
 case load t x =>
  refine oO_sound λ g hg => o1_sound h λ w v hv => ?_
  simp [execOp, ho, run_loadAt hg hv]
 case store t x y =>
  refine oO_sound λ k hk => o1_sound h (o1_sound h λ w v w' hm => ?_)
  obtain ⟨i, hi, rfl⟩:=sizeT_info hk
  obtain ⟨rfl, hr⟩:=run_storeAt hi hm
  exact .inr (.inl ⟨rfl, by simp [execOp, ho, hr]⟩)
 case nilCheck x => exact o1_sound h λ v hv w => run_nilChk ho hv w
 case makeMap t r =>
  cases r with
  | some r => exact sound_fail
  | none =>
   intro w v w' hm
   cases hm
   exact .inl (by simp [execOp, ho, run_mkmM])
 case lookup t m k ok =>
  split
  ·rename_i kt e hu
   refine oO_sound λ sh hs => oO_sound λ z hz => o1_sound h (o1_sound h λ w v hv => ?_)
   unfold zeroW at hz
   split at hz
   ·rename_i i hi
    simp [execOp, ho, run_lookV hu hs hi hz hv]
   ·cases hz
  ·exact sound_fail
 case mapUpdate t m k x =>
  split
  ·rename_i kt e hu
   refine oO_sound λ sh hs => o1_sound h (o1_sound h (o1_sound h λ w v w' hm => ?_))
   have hv : v = undef:=updM_undef hm
   exact .inr (.inl ⟨hv, by simp [execOp, ho, run_updM hu hs hm]⟩)
  ·exact sound_fail
 case mapEntry t m k =>
  split
  ·rename_i kt e hu
   refine oO_sound λ sh hs => oO_sound λ z hz => o1_sound h (o1_sound h λ w v w' hm => ?_)
   unfold zeroW at hz
   split at hz
   ·rename_i i hi
    exact .inl (by simp [execOp, ho, run_mentM hu hs hi hz hm])
   ·cases hz
  ·exact sound_fail
 case entryStore t m s x =>
  refine o1_sound h (o1_sound h (o1_sound h λ w v w' hm => ?_))
  obtain ⟨hv, hr⟩:=run_estM (P:=P) (t:=t) hm
  exact .inr (.inl ⟨hv, by simp [execOp, ho, hr]⟩)
 case range t x =>
  split
  ·rename_i kt e hu
   exact o1_sound h λ w v w' hm => .inl (by simp [execOp, ho, run_rngM hu hm])
  ·exact sound_fail
 case next it st =>
  cases st with
  | true => exact sound_fail
  | false => exact o1_sound h λ w v w' hm => .inl (by simp [execOp, ho, run_nxtM hm])
 case entry it =>
  refine o1_sound h λ w v w' hm => ?_
  unfold rdM at hm
  cases he : entV (a.eval it) w with
  | none => rw [he] at hm; cases hm
  | some u =>
   rw [he] at hm
   simp only [Option.some.injEq, Prod.mk.injEq] at hm
   obtain ⟨rfl, rfl⟩:=hm
   exact .inl (by simp [execOp, ho, run_entV he])
 case binOp op t x y yt => exact o1_sound h (o1_sound h (binQ_sound ho))
 case unOp op t x =>
  cases op <;> try exact sound_fail
  ·exact o1_sound h λ v hv w => by simp [execOp, ho, run_unary_neg hv]
  ·exact o1_sound h λ v hv w => by simp [execOp, ho, run_unary_cpl hv]
  ·exact o1_sound h λ v hv w => by simp [execOp, ho, run_unary_not hv]
 case convert src dst x => exact o1_sound h (convR_sound ho)
 case makeInterface t x =>
  split
  ·exact sound_fail
  ·rename_i d hu hd
   refine o1_sound h λ w => ?_
   have : (Instr.makeInterface t (a.eval x)).run P w = .ok (.iface t (a.eval x)) w:=by
    simp only [Instr.makeInterface, Sem.run_bind, run_underlying hd, Result.andThen_ok]
    rfl
   simp [execOp, ho, this]
  ·exact sound_fail
 case makeFunc fn first captured =>
  refine oL_sound h (oL_sound h λ w => ?_)
  have e : ∀ l : Array Operand, l.map a.eval = (List.map a.eval l.toList).toArray:=λ l => by rw [<- Array.toList_map, Array.toArray_toList]
  simp [execOp, ho, Instr.makeFunc, e]
 case makeSlice t l c =>
  split
  ·rename_i e hu
   refine o1_sound h (o1_sound h (oO_sound λ z hz w v w' hm => ?_))
   obtain ⟨i, zv, hi, hz0, rfl⟩:=zeroOf_info hz
   exact .inl (by simp [execOp, ho, run_mksM hu hi hz0 hm])
  ·exact sound_fail
 case slice t x lo hi mx =>
  cases mx with
  | some mx =>
   cases hi with
   | none => exact sound_fail
   | some hi =>
    refine o1_sound h (oB_sound h (o1_sound h (o1_sound h ?_)))
    split
    ·rename_i e hu
     refine oO_sound λ k hk v hv w => ?_
     obtain ⟨i, hi, rfl⟩:=sizeT_info hk
     simp [execOp, ho, run_sliceV3 hu hi hv]
    ·exact sound_fail
  | none =>
   refine o1_sound h (oB_sound h (oB_sound h ?_))
   split
   ·rename_i e hu
    refine oO_sound λ k hk v hv w => ?_
    obtain ⟨i, hi, rfl⟩:=sizeT_info hk
    simp [execOp, ho, run_sliceV hu hi hv]
   ·rename_i hu
    exact λ v hv w => by simp [execOp, ho, run_sliceS hu hv]
   ·rename_i k e hu
    refine oO_sound λ k hk v hv w => ?_
    obtain ⟨i, hi, rfl⟩:=sizeT_info hk
    simp [execOp, ho, run_sliceR hu hi hv]
   ·exact sound_fail
 case fieldAddr t x f =>
  refine oO_sound λ f hf => oO_sound λ k hk => ?_
  obtain ⟨fs, hu, hf⟩:=fieldT_info hf
  obtain ⟨i, hi, rfl⟩:=sizeT_info hk
  cases hb : Nat.beq i.size 0 with
  | true => simp only [cond_true]; exact sound_fail
  | false =>
   simp only [cond_false]
   exact o1_sound h λ v hv w => by simp [execOp, ho, run_fieldAt hu hf hi (Nat.ne_of_beq_eq_false hb) hv]
 case field t x f =>
  refine oO_sound λ f hf => oO_sound λ g hg => ?_
  obtain ⟨fs, hu, hf⟩:=fieldT_info hf
  exact o1_sound h λ v hv w => by simp [execOp, ho, run_fieldV hu hf hg hv]
 case indexAddr t x ix =>
  refine o1_sound h (o1_sound h ?_)
  split
  ·rename_i e hu
   refine oO_sound λ k hk v hv w => ?_
   obtain ⟨i, hi, rfl⟩:=sizeT_info hk
   simp [execOp, ho, run_idxA hu hi hv]
  ·rename_i k e hu
   refine oO_sound λ k hk v hv w => ?_
   obtain ⟨i, hi, rfl⟩:=sizeT_info hk
   simp [execOp, ho, run_idxR hu hi hv]
  ·exact sound_fail
 case index t x ix =>
  refine o1_sound h (o1_sound h ?_)
  split
  ·rename_i hu
   exact λ v hv w => by simp [execOp, ho, run_idxS hu hv]
  ·rename_i k e hu
   refine oO_sound λ k hk => oO_sound λ g hg v hv w => ?_
   obtain ⟨i, hi, rfl⟩:=sizeT_info hk
   simp [execOp, ho, run_idxG hu hi hg hv]
  ·exact sound_fail
 case typeAssert x xT t ok => exact o1_sound h (asrR_sound ho)
 case extract x i => exact o1_sound h λ v hv w => by simp [execOp, ho, run_extV hv]
 case call c => exact callR_sound hT hTc h ho
end
def cn (f : Nat -> Bool) : Nat -> Nat
 | 0 => 0
 | k + 1 => cn f k + (if f k then 1 else 0)
theorem cn_congr {f g : Nat -> Bool} : ∀ {k : Nat}, (∀ j, j < k -> f j = g j) -> cn f k = cn g k
 | 0, _ => rfl
 | k + 1, h => by simp only [cn, cn_congr (k:=k) λ j hj => h j (by omega), h k (by omega)]
theorem cn_mono {f g : Nat -> Bool} : ∀ {k : Nat}, (∀ j, j < k -> f j = true -> g j = true) -> cn f k <= cn g k
 | 0, _ => Nat.le_refl _
 | k + 1, h => by
  have ih:=cn_mono (k:=k) (f:=f) (g:=g) λ j hj => h j (by omega)
  simp only [cn]
  by_cases hf : f k = true
  ·rw [if_pos hf, if_pos (h k (by omega) hf)]; omega
  ·rw [if_neg hf]; split <;> omega
theorem cn_add {f : Nat -> Bool} {i : Nat} (hf : f i = false) : ∀ {k : Nat}, i < k -> cn (λ j => f j || j == i) k = cn f k + 1
 | 0, h => absurd h (Nat.not_lt_zero _)
 | k + 1, h => by
  simp only [cn]
  by_cases hk : i = k
  ·subst hk
   have : cn (λ j => f j || j == i) i = cn f i:=cn_congr λ j hj => by
    have : (j == i) = false:=by simp; omega
    simp [this]
   simp [this, hf]
  ·have ih:=cn_add hf (k:=k) (by omega)
   have hne : (k == i) = false:=by simp; omega
   simp only [ih, hne, Bool.or_false]
   omega
theorem cn_le {f : Nat -> Bool} : ∀ {k : Nat}, cn f k <= k
 | 0 => Nat.le_refl _
 | k + 1 => by have:=cn_le (f:=f) (k:=k); simp only [cn]; split <;> omega
theorem cn_split {f : Nat -> Bool} {i : Nat} : ∀ {k : Nat}, i <= k -> cn (λ j => f j && Nat.blt j i) k = cn f i
 | 0, h => by
  have : i = 0:=by omega
  subst this; rfl
 | k + 1, h => by
  by_cases hk : i = k + 1
  ·subst hk
   exact cn_congr λ j hj => by
    have : Nat.blt j (k + 1) = true:=Nat.ble_eq_true_of_le hj
    simp [this]
  ·have ih:=cn_split (f:=f) (i:=i) (k:=k) (by omega)
   have : Nat.blt k i = false:=by
    cases hb : Nat.blt k i with
    | false => rfl
    | true => have:=Nat.le_of_ble_eq_true hb; omega
   simp only [cn, ih, this, Bool.and_false, Bool.false_eq_true, if_false, Nat.add_zero]
def maskOf (acc : List Nat) (l : List Edge) : Nat:=l.foldl (λ s e => bif Region.binds .any e then s ||| (1 <<< e.on) ||| acc.getD e.on 0 else s) 0
def masksFrom : List Oper -> List Nat -> List Nat
 | [], acc => acc
 | o :: r, acc => masksFrom r (acc ++ [maskOf acc o.after.toList])
def masks (ops : Array Oper) : List Nat:=masksFrom ops.toList []
theorem maskOf_bit (acc : List Nat) (j : Nat) : ∀ (l : List Edge) (s : Nat), (l.foldl (λ s e => bif Region.binds .any e then s ||| (1 <<< e.on) ||| acc.getD e.on 0 else s) s).testBit j = true ->
  s.testBit j = true ∨ ∃ e ∈ l, Region.binds .any e = true /\ (e.on = j ∨ (acc.getD e.on 0).testBit j = true)
 | [], s, h => .inl h
 | e :: l, s, h => by
  simp only [List.foldl_cons] at h
  rcases maskOf_bit acc j l _ h with h1 | ⟨e', he', hb⟩
  ·cases hb : Region.binds .any e with
   | false => simp only [hb, cond_false] at h1; exact .inl h1
   | true =>
    simp only [hb, cond_true, Nat.testBit_or, Bool.or_eq_true] at h1
    rcases h1 with (h1 | h1) | h1
    ·exact .inl h1
    ·refine .inr ⟨e, by simp, hb, .inl ?_⟩
     rw [Nat.testBit_shiftLeft] at h1
     simp only [Bool.and_eq_true, decide_eq_true_eq] at h1
     have h2 : (1 : Nat).testBit (j - e.on) = true:=h1.2
     have h3 : j - e.on = 0:=by
      by_cases h0 : j - e.on = 0
      ·exact h0
      ·exfalso
       have : (1 : Nat).testBit (j - e.on) = false:=by
        rw [<- Nat.pow_zero 2, Nat.testBit_two_pow]
        simp; omega
       rw [this] at h2; cases h2
     have:=h1.1
     omega
    ·exact .inr ⟨e, by simp, hb, .inr h1⟩
  ·exact .inr ⟨e', by simp [he'], hb⟩
theorem masksFrom_prefix : ∀ (l : List Oper) (acc : List Nat) (i : Nat), i < acc.length -> (masksFrom l acc).getD i 0 = acc.getD i 0
 | [], acc, i, h => rfl
 | o :: r, acc, i, h => by
  simp only [masksFrom]
  rw [masksFrom_prefix r _ i (by simp; omega)]
  simp [List.getD, List.getElem?_append_left h]
theorem masksFrom_at : ∀ (l : List Oper) (acc : List Nat) (i : Nat) (o : Oper), l[i]? = some o ->
  ∃ acc', acc'.length = acc.length + i /\ (masksFrom l acc).getD (acc.length + i) 0 = maskOf acc' o.after.toList /\ ∀ k, k < acc.length + i -> acc'.getD k 0 = (masksFrom l acc).getD k 0
 | [], acc, i, o, h => by simp at h
 | o' :: r, acc, 0, o, h => by
  simp at h; subst h
  refine ⟨acc, rfl, ?_, λ k hk => ?_⟩
  ·simp only [masksFrom]
   rw [masksFrom_prefix r _ _ (by simp)]
   simp [List.getD]
  ·simp only [masksFrom]
   rw [masksFrom_prefix r _ _ (by simp; omega)]
   simp [List.getD, List.getElem?_append_left (show k < acc.length by simpa using hk)]
 | o' :: r, acc, i + 1, o, h => by
  simp at h
  obtain ⟨acc', h1, h2, h3⟩:=masksFrom_at r (acc ++ [maskOf acc o'.after.toList]) i o h
  refine ⟨acc', by simp at h1; omega, ?_, λ k hk => ?_⟩
  ·simp only [masksFrom]
   have : acc.length + (i + 1) = (acc ++ [maskOf acc o'.after.toList]).length + i:=by simp; omega
   rw [this]; exact h2
  ·simp only [masksFrom]
   exact h3 k (by simp; omega)
theorem masks_closed {ops : Array Oper} {L : Nat -> Bool} (hc : ∀ i o, ops[i]? = some o -> L i = true -> ∀ e ∈ o.after, Region.binds .any e = true -> L e.on = true) :
  ∀ (i j : Nat), i < ops.size -> L i = true -> ((masks ops).getD i 0).testBit j = true -> L j = true:=by
 intro i
 induction i using Nat.strongRecOn with
 | _ i ih =>
  intro j hi hl hb
  obtain ⟨o, ho⟩ : ∃ o, ops[i]? = some o:=⟨ops[i], by simp [hi]⟩
  obtain ⟨acc', h1, h2, h3⟩:=masksFrom_at ops.toList [] i o (by simpa using ho)
  simp only [List.length_nil, Nat.zero_add] at h1 h2 h3
  have hb' : (maskOf acc' o.after.toList).testBit j = true:=by rw [<- h2]; exact hb
  rcases maskOf_bit acc' j _ 0 hb' with h | ⟨e, he, hbind, h⟩
  ·simp at h
  ·have hle:=hc i o ho hl e (by simpa using he) hbind
   rcases h with h | h
   ·rw [<- h]; exact hle
   ·by_cases hlt : e.on < i
    ·exact ih e.on hlt j (by omega) hle (by rw [h3 e.on hlt] at h; exact h)
    ·exfalso
     have hnone : acc'[e.on]? = none:=List.getElem?_eq_none (by omega)
     simp [List.getD, hnone] at h
def looks (ops : Array Oper) (o : Oper) : List Tmp:=o.looksAt ops
def tmpMem (d : Option Tmp) (l : List Tmp) : Bool:=match d with
 | some d => l.any (Nat.beq d)
 | none => false
def sameDst (d e : Option Tmp) : Bool:=match d, e with
 | some d, some e => Nat.beq d e
 | _, _ => false
def clash (ops : Array Oper) (isA : Oper -> Bool) (x y : Oper) : Bool :=
 (isA x && isA y) || tmpMem x.dst (looks ops y) || tmpMem y.dst (looks ops x) || sameDst x.dst y.dst
def pairsOK (ops : Array Oper) (isA : Oper -> Bool) (ms : List Nat) : Bool :=
 (List.range ops.size).all λ j => (List.range j).all λ i => match ops[i]?, ops[j]? with
  | some x, some y => !clash ops isA x y || (ms.getD j 0).testBit i
  | _, _ => true
def edgesOK (ops : Array Oper) : Bool :=
 (List.range ops.size).all λ i => match ops[i]? with
  | some o => o.after.toList.all λ e => !Region.binds .any e || Nat.blt e.on i
  | none => true
def drawOK (ops : Array Oper) (isA : Oper -> Bool) : Bool:=edgesOK ops && Region.noSelect ops && pairsOK ops isA (masks ops)
section
variable {P : Program} {ops : Array Oper} {isA : Oper -> Bool}
def actAt (ops : Array Oper) (isA : Oper -> Bool) (i : Nat) : Bool:=match ops[i]? with
 | some o => isA o
 | none => false
def dstAt (ops : Array Oper) (i : Nat) : Option Tmp:=(ops[i]?).bind (·.dst)
def AL (ops : Array Oper) (val : Nat -> Value) (a : Act) (p : Nat -> Bool) : Nat -> Act
 | 0 => a
 | k + 1 => if p k then (AL ops val a p k).put (dstAt ops k) (val k) else AL ops val a p k
def lo (ops : Array Oper) (isA : Oper -> Bool) (i : Nat) : Nat:=cn (λ j => actAt ops isA j && ((masks ops).getD i 0).testBit j) ops.size
def hi (ops : Array Oper) (isA : Oper -> Bool) (i : Nat) : Nat:=cn (λ j => actAt ops isA j && !(((masks ops).getD j 0).testBit i) && !(Nat.beq i j)) ops.size
theorem AL_congr {val : Nat -> Value} {a : Act} {p q : Nat -> Bool} : ∀ {k : Nat}, (∀ j, j < k -> p j = q j) -> AL ops val a p k = AL ops val a q k
 | 0, _ => rfl
 | k + 1, h => by simp only [AL, AL_congr (k:=k) λ j hj => h j (by omega), h k (by omega)]
theorem AL_size {val : Nat -> Value} {a : Act} {p : Nat -> Bool} : ∀ {k : Nat}, (AL ops val a p k).tmps.size = a.tmps.size
 | 0 => rfl
 | k + 1 => by
  simp only [AL]
  split
  ·cases dstAt ops k <;> simp [Act.put, AL_size (k:=k)]
  ·exact AL_size (k:=k)
theorem AL_at {val : Nat -> Value} {a : Act} {p q : Nat -> Bool} {t : Tmp} : ∀ {k : Nat}, (∀ j, j < k -> dstAt ops j = some t -> p j = q j) -> (AL ops val a p k).tmps[t]? = (AL ops val a q k).tmps[t]?
 | 0, _ => rfl
 | k + 1, h => by
  have ih:=AL_at (k:=k) (val:=val) (a:=a) (p:=p) (q:=q) (t:=t) λ j hj => h j (by omega)
  have side : ∀ r : Nat -> Bool, dstAt ops k ≠ some t -> (AL ops val a r (k + 1)).tmps[t]? = (AL ops val a r k).tmps[t]?:=by
   intro r hne
   simp only [AL]
   split
   ·cases hd : dstAt ops k with
    | none => rfl
    | some d =>
     have : d ≠ t:=λ e => hne (by rw [hd, e])
     simp [Act.put, Array.getElem?_setIfInBounds_ne this]
   ·rfl
  by_cases hd : dstAt ops k = some t
  ·have:=h k (by omega) hd
   simp only [AL, this, hd]
   split
   ·simp only [Act.put, Array.getElem?_setIfInBounds, if_true, AL_size]
   ·exact ih
  ·rw [side p hd, side q hd, ih]
theorem AL_add {val : Nat -> Value} {a : Act} {p : Nat -> Bool} {i : Nat} (hp : p i = false) : ∀ {k : Nat}, i < k -> (∀ j, j < k -> i < j -> p j = true -> ∀ d, dstAt ops i = some d -> dstAt ops j ≠ some d) ->
  AL ops val a (λ j => p j || j == i) k = (AL ops val a p k).put (dstAt ops i) (val i)
 | 0, h, _ => absurd h (Nat.not_lt_zero _)
 | k + 1, h, hd => by
  by_cases hk : i = k
  ·subst hk
   have e : AL ops val a (λ j => p j || j == i) i = AL ops val a p i:=AL_congr λ j hj => by
    have : (j == i) = false:=by simp; omega
    simp [this]
   simp [AL, e, hp]
  ·have ih:=AL_add hp (val:=val) (a:=a) (k:=k) (by omega) λ j hj => hd j (by omega)
   have hne : (k == i) = false:=by simp; omega
   simp only [AL, hne, Bool.or_false]
   split
   ·rename_i hpk
    rw [ih]
    have hdk:=hd k (by omega) (by omega) hpk
    exact Act.put_comm _ _ _ hdk
   ·exact ih
structure Canon (P : Program) (ops : Array Oper) (isA : Oper -> Bool) (a : Act) (val : Nat -> Value) (Wd : Nat -> World) : Prop where
 step : ∀ i o, ops[i]? = some o -> Region.wanted o (yielded ops (AL ops val a (λ _ => true) i).tmps) = true ->
  (isA o = true -> Got P (execOp (AL ops val a (λ _ => true) i).eval o) (Wd (cn (actAt ops isA) i)) (val i) (Wd (cn (actAt ops isA) i + 1))) /\
  (isA o = false -> ∀ c, lo ops isA i <= c -> c <= hi ops isA i -> (execOp (AL ops val a (λ _ => true) i).eval o).run P (Wd c) = .ok (.value (val i)) (Wd c))
 pass : ∀ i o, ops[i]? = some o -> Region.wanted o (yielded ops (AL ops val a (λ _ => true) i).tmps) = false ->
  val i = undef /\ (isA o = true -> Wd (cn (actAt ops isA) i + 1) = Wd (cn (actAt ops isA) i))
theorem tmpMem_of {d : Tmp} {l : List Tmp} (h : d ∈ l) : tmpMem (some d) l = true:=by
 simp only [tmpMem, List.any_eq_true]
 exact ⟨d, h, Nat.beq_refl d⟩
theorem getD_lt {l : Array Bool} {j : Nat} (h : j < l.size) : l.getD j true = l.getD j false:=by
 simp [Array.getD, h]
theorem upon_got {Q : Exit -> Act -> World -> Prop} {o : Oper} {a : Act} {w w' : World} {v : Value} {K : Act -> World -> Prop} (h : Got P (execOp a.eval o) w v w') (hK : K (a.put o.dst v) w') : o.wp P a w K Q:=by
 unfold Oper.wp
 rcases h with h | ⟨rfl, h⟩ | ⟨f, args, w1, h, hc⟩
 ·rw [h]; exact hK
 ·rw [h]; exact hK
 ·rw [h]
  exact hc.mono λ e w'' ⟨he, hw⟩ => by subst he; subst hw; exact hK
theorem draw_any (hok : drawOK ops isA = true) {Q : Exit -> Act -> World -> Prop} {a0 : Act} {val : Nat -> Value} {Wd : Nat -> World} (C : Canon P ops isA a0 val Wd)
  (hQ : Q .normal (AL ops val a0 (λ _ => true) ops.size) (Wd (cn (actAt ops isA) ops.size))) :
  ∀ (fuel : Nat) (listed : Array Bool), listed.size = ops.size -> cn (λ j => !listed.getD j false) ops.size <= fuel ->
   (∀ i o, ops[i]? = some o -> listed.getD i false = true -> ∀ e ∈ o.after, Region.binds .any e = true -> listed.getD e.on false = true) ->
   wpAny P .any ops Q fuel listed (AL ops val a0 (λ j => listed.getD j false) ops.size) (Wd (cn (λ j => actAt ops isA j && listed.getD j false) ops.size)):=by
 simp only [drawOK, Bool.and_eq_true] at hok
 obtain ⟨⟨hedge, hsel⟩, hpairs⟩:=hok
 have hE : ∀ i o, ops[i]? = some o -> ∀ e ∈ o.after, Region.binds .any e = true -> e.on < i:=by
  intro i o ho e he hb
  simp only [edgesOK, List.all_eq_true, List.mem_range] at hedge
  have hlt : i < ops.size:=(Array.getElem?_eq_some_iff.1 ho).1
  have:=hedge i hlt
  simp only [ho, List.all_eq_true] at this
  have:=this e (by simpa using he)
  simp only [hb, Bool.not_true, Bool.false_or] at this
  exact Nat.le_of_ble_eq_true this
 have hP : ∀ i j x y, i < j -> ops[i]? = some x -> ops[j]? = some y -> clash ops isA x y = true -> ((masks ops).getD j 0).testBit i = true:=by
  intro i j x y hij hx hy hc
  simp only [pairsOK, List.all_eq_true, List.mem_range] at hpairs
  have hlt : j < ops.size:=(Array.getElem?_eq_some_iff.1 hy).1
  have:=hpairs j hlt i hij
  simp only [hx, hy, hc, Bool.not_true, Bool.false_or] at this
  exact this
 have hdone : ∀ listed : Array Bool, listed.size = ops.size -> Region.ready .any ops listed = [] -> ∀ j, j < ops.size -> listed.getD j false = true:=by
  intro listed hs hr j
  induction j using Nat.strongRecOn with
  | _ j ih =>
   intro hj
   cases hl : listed.getD j false with
   | true => rfl
   | false =>
    exfalso
    obtain ⟨o, ho⟩ : ∃ o, ops[j]? = some o:=⟨ops[j], by simp [hj]⟩
    have : j ∈ Region.ready .any ops listed:=by
     rw [mem_ready]
     refine ⟨by rw [getD_lt (by omega)]; exact hl, o, ho, λ e he hb => ?_⟩
     have hlt:=hE j o ho e he hb
     exact ih e.on hlt (by omega)
    rw [hr] at this
    cases this
 have hend : ∀ listed : Array Bool, listed.size = ops.size -> Region.ready .any ops listed = [] ->
   Q .normal (AL ops val a0 (λ j => listed.getD j false) ops.size) (Wd (cn (λ j => actAt ops isA j && listed.getD j false) ops.size)):=by
  intro listed hs hr
  have hall:=hdone listed hs hr
  rw [AL_congr (q:=λ _ => true) λ j hj => hall j hj, cn_congr (g:=actAt ops isA) λ j hj => by rw [hall j hj, Bool.and_true]]
  exact hQ
 intro fuel
 induction fuel with
 | zero =>
  intro listed hs hf hc
  have hr : Region.ready .any ops listed = []:=by
   cases hr : Region.ready .any ops listed with
   | nil => rfl
   | cons i r =>
    exfalso
    have hi : i ∈ Region.ready .any ops listed:=by rw [hr]; simp
    obtain ⟨h0, o, ho, _⟩:=mem_ready.1 hi
    have hlt : i < ops.size:=(Array.getElem?_eq_some_iff.1 ho).1
    rw [getD_lt (by omega)] at h0
    have h1 : 1 <= cn (λ j => !listed.getD j false) ops.size:=by
     have h2 : cn (λ j => false || j == i) ops.size = cn (λ _ => false) ops.size + 1:=cn_add (f:=λ _ => false) (i:=i) rfl (k:=ops.size) hlt
     have h3 : cn (λ j => false || j == i) ops.size <= cn (λ j => !listed.getD j false) ops.size:=cn_mono λ j _ hj => by
      simp only [Bool.false_or, beq_iff_eq] at hj; subst hj; rw [h0]; rfl
     omega
    omega
  exact ⟨hr, hend listed hs hr⟩
 | succ fuel ih =>
  intro listed hs hf hc
  refine ⟨λ hr => hend listed hs hr, λ i hi => ?_⟩
  obtain ⟨h0, o, ho, hdeps⟩:=mem_ready.1 hi
  have hlt : i < ops.size:=(Array.getElem?_eq_some_iff.1 ho).1
  rw [getD_lt (by omega)] at h0
  have hset : ∀ j, (listed.setIfInBounds i true).getD j false = (listed.getD j false || j == i):=by
   intro j
   by_cases hji : j = i
   ·subst hji; simp [Array.getD, hs, hlt]
   ·rw [getD_set_ne false (Ne.symm hji)]
    have : (j == i) = false:=by simpa using hji
    simp [this]
  have hc' : ∀ k ok, ops[k]? = some ok -> (listed.setIfInBounds i true).getD k false = true -> ∀ e ∈ ok.after, Region.binds .any e = true -> (listed.setIfInBounds i true).getD e.on false = true:=by
   intro k ok hk hl e he hb
   rw [hset] at hl ⊢
   simp only [Bool.or_eq_true, beq_iff_eq] at hl ⊢
   rcases hl with hl | hl
   ·exact .inl (hc k ok hk hl e he hb)
   ·subst hl
    rw [ho] at hk; cases hk
    exact .inl (hdeps e he hb)
  have hf' : cn (λ j => !(listed.setIfInBounds i true).getD j false) ops.size <= fuel:=by
   have h1 : cn (λ j => !(listed.setIfInBounds i true).getD j false || j == i) ops.size = cn (λ j => !(listed.setIfInBounds i true).getD j false) ops.size + 1 :=
    cn_add (f:=λ j => !(listed.setIfInBounds i true).getD j false) (i:=i) (by rw [hset]; simp) (k:=ops.size) hlt
   have h2 : cn (λ j => !(listed.setIfInBounds i true).getD j false || j == i) ops.size = cn (λ j => !listed.getD j false) ops.size:=cn_congr λ j _ => by
    rw [hset]
    by_cases hji : j = i
    ·subst hji; simp only [h0]; simp
    ·have : (j == i) = false:=by simpa using hji
     simp [this]
   omega
  have IH:=ih (listed.setIfInBounds i true) (by simp [hs]) hf' hc'
  have closed:=masks_closed (L:=λ j => listed.getD j false) hc
  have closedi : ∀ j, ((masks ops).getD i 0).testBit j = true -> listed.getD j false = true:=by
   intro j hj
   have:=masks_closed (L:=λ j => (listed.setIfInBounds i true).getD j false) hc' i j hlt (by simp only [hset]; simp) hj
   simp only [hset, Bool.or_eq_true, beq_iff_eq] at this
   rcases this with h | h
   ·exact h
   ·exfalso
    subst h
    obtain ⟨acc', h1, h2, h3⟩:=masksFrom_at ops.toList [] j o (by simpa using ho)
    simp only [List.length_nil, Nat.zero_add] at h1 h2 h3
    have hb' : (maskOf acc' o.after.toList).testBit j = true:=by rw [<- h2]; exact hj
    have low : ∀ (k : Nat) (m : Nat), k < ops.size -> ((masks ops).getD k 0).testBit m = true -> m < k:=by
     intro k
     induction k using Nat.strongRecOn with
     | _ k ihk =>
      intro m hk hm
      obtain ⟨ok, hok⟩ : ∃ o, ops[k]? = some o:=⟨ops[k], by simp [hk]⟩
      obtain ⟨acc2, g1, g2, g3⟩:=masksFrom_at ops.toList [] k ok (by simpa using hok)
      simp only [List.length_nil, Nat.zero_add] at g1 g2 g3
      have hm' : (maskOf acc2 ok.after.toList).testBit m = true:=by rw [<- g2]; exact hm
      rcases maskOf_bit acc2 m _ 0 hm' with h | ⟨e, he, hbind, h⟩
      ·simp at h
      ·have hlt':=hE k ok hok e (by simpa using he) hbind
       rcases h with h | h
       ·omega
       ·have:=ihk e.on hlt' m (by omega) (by rw [g3 e.on hlt'] at h; exact h)
        omega
    have:=low j j hlt hj
    omega
  have writers : ∀ t, (t ∈ looks ops o ∨ o.dst = some t) -> ∀ j, j < ops.size -> j ≠ i -> dstAt ops j = some t -> listed.getD j false = Nat.blt j i:=by
   intro t ht j hj hji hd
   obtain ⟨y, hy⟩ : ∃ y, ops[j]? = some y:=⟨ops[j], by simp [hj]⟩
   have hyd : y.dst = some t:=by simpa [dstAt, hy] using hd
   rcases Nat.lt_or_gt_of_ne hji with h | h
   ·have hcl : clash ops isA y o = true:=by
     simp only [clash, hyd, Bool.or_eq_true]
     rcases ht with ht | ht
     ·exact .inl (.inl (.inr (tmpMem_of ht)))
     ·exact .inr (by simp [sameDst, ht])
    have:=closedi j (hP j i y o h hy ho hcl)
    rw [this]
    exact (Nat.ble_eq_true_of_le h).symm
   ·have hcl : clash ops isA o y = true:=by
     simp only [clash, hyd, Bool.or_eq_true]
     rcases ht with ht | ht
     ·exact .inl (.inr (tmpMem_of ht))
     ·exact .inr (by simp [sameDst, ht])
    have hb:=hP i j o y h ho hy hcl
    have h1 : listed.getD j false = false:=by
     cases hl : listed.getD j false with
     | false => rfl
     | true => have:=closed j i hj hl hb; rw [h0] at this; cases this
    rw [h1]
    cases hb2 : Nat.blt j i with
    | false => rfl
    | true => have:=Nat.le_of_ble_eq_true hb2; omega
  have Alt : AL ops val a0 (λ _ => true) i = AL ops val a0 (λ j => Nat.blt j i) ops.size:=by
   have : ∀ k, i <= k -> AL ops val a0 (λ j => Nat.blt j i) k = AL ops val a0 (λ _ => true) i:=by
    intro k
    induction k with
    | zero =>
     intro hk
     have : i = 0:=by omega
     subst this; rfl
    | succ k ihk =>
     intro hk
     by_cases hik : i = k + 1
     ·subst hik
      exact AL_congr λ j hj => Nat.ble_eq_true_of_le hj
     ·have : Nat.blt k i = false:=by
       cases hb2 : Nat.blt k i with
       | false => rfl
       | true => have:=Nat.le_of_ble_eq_true hb2; omega
      simp only [AL, this, Bool.false_eq_true, if_false]
      exact ihk (by omega)
   exact (this ops.size (by omega)).symm
  have slot : ∀ t, t ∈ looks ops o -> (AL ops val a0 (λ j => listed.getD j false) ops.size).tmps[t]? = (AL ops val a0 (λ _ => true) i).tmps[t]?:=by
   intro t ht
   rw [Alt]
   refine AL_at λ j hj hd => ?_
   by_cases hji : j = i
   ·subst hji
    rw [h0]
    cases hb2 : Nat.blt j j with
    | false => rfl
    | true => have:=Nat.le_of_ble_eq_true hb2; omega
   ·exact writers t (.inl ht) j hj hji hd
  have hwant : Region.wanted o (yielded ops (AL ops val a0 (λ j => listed.getD j false) ops.size).tmps) = Region.wanted o (yielded ops (AL ops val a0 (λ _ => true) i).tmps):=by
   unfold Region.wanted
   cases hg : o.guard with
   | none => rfl
   | some gw =>
    obtain ⟨g, want⟩:=gw
    have hy : yielded ops (AL ops val a0 (λ j => listed.getD j false) ops.size).tmps g = yielded ops (AL ops val a0 (λ _ => true) i).tmps g:=by
     unfold yielded
     cases ht : (ops[g]?).bind (·.dst) with
     | none => rfl
     | some t =>
      have hm : t ∈ looks ops o:=by simp [looks, Oper.looksAt, hg, ht]
      simp only [Option.bind_some, slot t hm]
    simp only [hy]
  have hexec : execOp (AL ops val a0 (λ j => listed.getD j false) ops.size).eval o = execOp (AL ops val a0 (λ _ => true) i).eval o:=by
   refine execOp_congr o (Region.noSelect_spec hsel i o · · ho) λ x hx => ?_
   cases x with
   | tmp t =>
    have hm : t ∈ looks ops o:=List.mem_append_left _ (List.mem_filterMap.2 ⟨.tmp t, by simpa using hx, rfl⟩)
    simp only [Act.eval]
    rw [Array.getD_eq_getD_getElem?, Array.getD_eq_getD_getElem?, slot t hm]
   | _ => rfl
  have hnext : AL ops val a0 (λ j => (listed.setIfInBounds i true).getD j false) ops.size = (AL ops val a0 (λ j => listed.getD j false) ops.size).put o.dst (val i):=by
   rw [AL_congr (q:=λ j => listed.getD j false || j == i) λ j _ => hset j]
   have hdi : dstAt ops i = o.dst:=by simp [dstAt, ho]
   rw [<- hdi]
   refine AL_add (p:=λ j => listed.getD j false) h0 hlt λ j hj hij hl d hd hdj => ?_
   rw [hdi] at hd
   have:=writers d (.inr hd) j hj (by omega) hdj
   rw [this] at hl
   have:=Nat.le_of_ble_eq_true hl
   omega
  rw [hnext] at IH
  unfold wpOp
  simp only [ho]
  have hwd : ∀ b, isA o = b -> cn (λ j => actAt ops isA j && (listed.setIfInBounds i true).getD j false) ops.size = cn (λ j => actAt ops isA j && listed.getD j false) ops.size + (if b then 1 else 0):=by
   intro b hb
   have hai : actAt ops isA i = b:=by simp [actAt, ho, hb]
   cases b with
   | true =>
    rw [if_pos rfl, <- cn_add (f:=λ j => actAt ops isA j && listed.getD j false) (i:=i) (by simp [h0]) (k:=ops.size) hlt]
    refine cn_congr λ j _ => ?_
    rw [hset]
    by_cases hji : j = i
    ·subst hji; simp [hai]
    ·have : (j == i) = false:=by simpa using hji
     simp [this]
   | false =>
    simp only [Bool.false_eq_true, if_false, Nat.add_zero]
    refine cn_congr λ j _ => ?_
    rw [hset]
    by_cases hji : j = i
    ·subst hji; simp [hai]
    ·have : (j == i) = false:=by simpa using hji
     simp [this]
  have hacts : isA o = true -> cn (λ j => actAt ops isA j && listed.getD j false) ops.size = cn (actAt ops isA) i:=by
   intro ha
   rw [<- cn_split (f:=actAt ops isA) (i:=i) (k:=ops.size) (by omega)]
   refine cn_congr λ j hj => ?_
   cases haj : actAt ops isA j with
   | false => simp
   | true =>
    simp only [Bool.true_and]
    obtain ⟨y, hy⟩ : ∃ y, ops[j]? = some y:=⟨ops[j], by simp [hj]⟩
    have hya : isA y = true:=by simpa [actAt, hy] using haj
    by_cases hji : j = i
    ·subst hji
     rw [h0]
     cases hb2 : Nat.blt j j with
     | false => rfl
     | true => have:=Nat.le_of_ble_eq_true hb2; omega
    ·rcases Nat.lt_or_gt_of_ne hji with h | h
     ·have:=closedi j (hP j i y o h hy ho (by simp [clash, hya, ha]))
      rw [this]; exact (Nat.ble_eq_true_of_le h).symm
     ·have hb:=hP i j o y h ho hy (by simp [clash, hya, ha])
      have h1 : listed.getD j false = false:=by
       cases hl : listed.getD j false with
       | false => rfl
       | true => have:=closed j i hj hl hb; rw [h0] at this; cases this
      rw [h1]
      cases hb2 : Nat.blt j i with
      | false => rfl
      | true => have:=Nat.le_of_ble_eq_true hb2; omega
  cases hw : Region.wanted o (yielded ops (AL ops val a0 (λ _ => true) i).tmps) with
  | true =>
   rw [hwant, hw, if_pos rfl]
   refine .inl ?_
   have st:=C.step i o ho hw
   cases ha : isA o with
   | true =>
    have hg:=st.1 ha
    rw [<- hexec, <- hacts ha] at hg
    refine upon_got hg ?_
    rw [hwd true ha, if_pos rfl] at IH
    exact IH
   | false =>
    have hg:=st.2 ha (cn (λ j => actAt ops isA j && listed.getD j false) ops.size) ?_ ?_
    ·rw [<- hexec] at hg
     refine upon_got (.inl hg) ?_
     rw [hwd false ha] at IH
     exact IH
    ·refine cn_mono λ j hj h => ?_
     simp only [Bool.and_eq_true] at h ⊢
     exact ⟨h.1, closedi j h.2⟩
    ·refine cn_mono λ j hj h => ?_
     simp only [Bool.and_eq_true, Bool.not_eq_true'] at h ⊢
     have hne : i ≠ j:=λ e => by subst e; rw [h0] at h; cases h.2
     refine ⟨⟨h.1, ?_⟩, ?_⟩
     ·cases hb : ((masks ops).getD j 0).testBit i with
      | false => rfl
      | true => have:=closed j i hj h.2 hb; rw [h0] at this; cases this
     ·cases hb : Nat.beq i j with
      | false => rfl
      | true => exact absurd (Nat.eq_of_beq_eq_true hb) hne
  | false =>
   rw [hwant, hw]
   simp only [Bool.false_eq_true, if_false]
   obtain ⟨hv, hwp⟩:=C.pass i o ho hw
   rw [hv] at IH
   cases ha : isA o with
   | true =>
    rw [hwd true ha, if_pos rfl, hacts ha, hwp ha, <- hacts ha] at IH
    exact IH
   | false =>
    rw [hwd false ha] at IH
    exact IH
theorem draw_all (hok : drawOK ops isA = true) {Q : Exit -> Act -> World -> Prop} {a : Act} {w : World} {val : Nat -> Value} {Wd : Nat -> World} (C : Canon P ops isA a val Wd) (h0 : Wd 0 = w)
  (hQ : Q .normal (AL ops val a (λ _ => true) ops.size) (Wd (cn (actAt ops isA) ops.size))) : wpAny P .any ops Q ops.size (Array.replicate ops.size false) a w:=by
 have h:=draw_any hok C hQ ops.size (Array.replicate ops.size false) (by simp) cn_le (λ i o ho hl => by simp [Array.getD] at hl)
 have e1 : AL ops val a (λ j => (Array.replicate ops.size false).getD j false) ops.size = a:=by
  have : ∀ k, AL ops val a (λ j => (Array.replicate ops.size false).getD j false) k = a:=by
   intro k
   induction k with
   | zero => rfl
   | succ k ih =>
    have : (Array.replicate ops.size false).getD k false = false:=by simp [Array.getD]
    simp only [AL, this, Bool.false_eq_true, if_false]; exact ih
  exact this _
 have e2 : cn (λ j => actAt ops isA j && (Array.replicate ops.size false).getD j false) ops.size = 0:=by
  have : ∀ k, cn (λ j => actAt ops isA j && (Array.replicate ops.size false).getD j false) k = 0:=by
   intro k
   induction k with
   | zero => rfl
   | succ k ih =>
    have : (Array.replicate ops.size false).getD k false = false:=by simp [Array.getD]
    simp only [cn, this, Bool.and_false, Bool.false_eq_true, if_false]; exact ih
  exact this _
 rw [e1, e2, h0] at h
 exact h
end
def opM : OpR -> M Value
 | .val v => M.ret v
 | .opt x => optM x
 | .rd r => rdM r
 | .act m => m
def bindR {β : Type} (r : OpR) (k : Value -> M β) : M β:=match r with
 | .val v => k v
 | .opt x => bindO x k
 | .rd r => M.bind (rdM r) k
 | .act m => M.bind m k
def prP (r : OpR) (v : Value) : World -> Prop:=match r with
 | .rd r => λ W => r W = some v
 | _ => λ _ => True
def guardTmp (ops : Array Oper) (j : Nat) : Option Tmp:=(ops[j]?).bind (·.dst)
def dstOK (n : Nat) (d : Option Tmp) : Bool:=match d with
 | some d => Nat.blt d n
 | none => true
def isActOp (P : Program) : Op -> Bool
 | .move _ | .assign _ | .pick .. | .build .. | .load .. | .nilCheck _ | .binOp .. | .unOp .. | .makeInterface .. | .makeFunc .. | .slice .. | .fieldAddr .. | .field .. | .indexAddr .. | .index .. | .extract .. | .typeAssert .. | .lookup .. => false
 | .convert s d _ => match P.underlying s, P.underlying d with
  | some .string, some (.slice _) => true
  | _, _ => false
 | .call { callee:=.builtin .len, .. } | .call { callee:=.builtin .cap, .. } => false
 | _ => true
def isRdOp : Op -> Bool
 | .load .. | .convert .. | .lookup .. => true
 | _ => false
def isActO (P : Program) (o : Oper) : Bool:=isActOp P o.op
def clsOK (P : Program) (o : Oper) : OpR -> Bool
 | .rd _ => !isActO P o && isRdOp o.op
 | .act _ => isActO P o
 | _ => !isActO P o
def evOps {β : Type} (P : Program) (T Tc : Tab) (n : Nat) (ops : Array Oper) (chk : Bool) : List Oper -> Env -> (Env -> M β) -> M β
 | [], ρ, k => k ρ
 | o :: rest, ρ, k => bif dstOK n o.dst && (!chk || clsOK P o (opR P T Tc ρ o.op)) then (match o.guard with
  | none => bindR (opR P T Tc ρ o.op) λ v => evOps P T Tc n ops chk rest (updD ρ o.dst v) k
  | some (j, want) => match guardTmp ops j with
   | some t => match ρ t with
    | some g => M.bind (guardM g want (opM (opR P T Tc ρ o.op))) λ v => evOps P T Tc n ops chk rest (updD ρ o.dst v) k
    | none => M.fail
   | none => M.fail) else M.fail
abbrev Log:=List (Nat × (World -> Prop))
def lookL : Log -> Nat -> Option (World -> Prop)
 | [], _ => none
 | (j, p) :: r, i => bif Nat.beq i j then some p else lookL r i
def addL (o : Oper) (i : Nat) (p : World -> Prop) (log : Log) : Log:=bif isRdOp o.op then (i, p) :: log else log
def evOpsL {β : Type} (P : Program) (T Tc : Tab) (n : Nat) (ops : Array Oper) : List Oper -> Nat -> Env -> Log -> List World -> (Env -> Log -> List World -> M β) -> M β
 | [], _, ρ, log, ws, k => k ρ log ws
 | o :: rest, i, ρ, log, ws, k => bif dstOK n o.dst && clsOK P o (opR P T Tc ρ o.op) then (match o.guard with
  | none => bindR (opR P T Tc ρ o.op) λ v => bif isActO P o
   then getM λ W => evOpsL P T Tc n ops rest (i + 1) (updD ρ o.dst v) (addL o i (prP (opR P T Tc ρ o.op) v) log) (ws ++ [W]) k
   else evOpsL P T Tc n ops rest (i + 1) (updD ρ o.dst v) (addL o i (prP (opR P T Tc ρ o.op) v) log) ws k
  | some (j, want) => match guardTmp ops j with
   | some t => match ρ t with
    | some g => M.bind (guardM g want (opM (opR P T Tc ρ o.op))) λ v => bif isActO P o
     then getM λ W => evOpsL P T Tc n ops rest (i + 1) (updD ρ o.dst v) (addL o i (λ W => g = .bool want -> prP (opR P T Tc ρ o.op) v W) log) (ws ++ [W]) k
     else evOpsL P T Tc n ops rest (i + 1) (updD ρ o.dst v) (addL o i (λ W => g = .bool want -> prP (opR P T Tc ρ o.op) v W) log) ws k
    | none => M.fail
   | none => M.fail) else M.fail
def floats (P : Program) (ops : Array Oper) : List (Nat × Nat) :=
 (List.range ops.size).flatMap λ i => match ops[i]? with
  | some o => bif isRdOp o.op && !isActO P o then ((List.range (hi ops (isActO P) i + 1)).filter λ c => Nat.ble (lo ops (isActO P) i) c && !(Nat.beq c (cn (actAt ops (isActO P)) i))).map λ c => (i, c) else []
  | none => []
noncomputable def checksM {β : Type} (log : Log) (ws : List World) : List (Nat × Nat) -> M β -> M β
 | [], k => k
 | (i, c) :: r, k => match lookL log i, ws[c]? with
  | some p, some W => reqM (p W) (checksM log ws r k)
  | _, _ => M.fail
noncomputable def evCoreL {β : Type} (P : Program) (T Tc : Tab) (n : Nat) (ops : Array Oper) (ρ : Env) (k : Env -> M β) : M β :=
 getM λ W => evOpsL P T Tc n ops ops.toList 0 ρ [] [W] λ ρ' log ws => checksM log ws (floats P ops) (k ρ')
noncomputable def evCore {β : Type} (P : Program) (T Tc : Tab) (n : Nat) (ops : Array Oper) (ρ : Env) (k : Env -> M β) : M β :=
 bif drawOK ops (isActO P) then (bif (floats P ops).isEmpty then evOps P T Tc n ops true ops.toList ρ k else evCoreL P T Tc n ops ρ k) else M.fail
noncomputable def evDraw {β : Type} (P : Program) (T Tc : Tab) (n : Nat) (ops : Array Oper) (ρ : Env) (k : Env -> M β) : M β :=
 bif P.follows .mixedOrders then drewM (evCore P T Tc n ops ρ k) else M.fail
def gYes (g : Value) (want : Bool) : Bool:=match g with
 | .bool b => b == want
 | _ => false
section
variable {P : Program} {T Tc : Tab} {n : Nat} {ops : Array Oper} {β : Type}
structure Ev where
 v : Value
 w : World
 p : World -> Prop
def StepOK (P : Program) (ops : Array Oper) (o : Oper) (a : Act) (w : World) (e : Ev) : Prop :=
 (Region.wanted o (yielded ops a.tmps) = true -> Got P (execOp a.eval o) w e.v e.w /\
  (isActO P o = false -> e.w = w /\ ∀ W, e.p W -> (execOp a.eval o).run P W = .ok (.value e.v) W)) /\
 (Region.wanted o (yielded ops a.tmps) = false -> e.v = undef /\ e.w = w) /\
 (isActO P o = false -> isRdOp o.op = false -> ∀ W, e.p W) /\ (isActO P o = false -> e.p w)
def TrOK (P : Program) (ops : Array Oper) : List Oper -> Act -> World -> List Ev -> Prop
 | [], _, _, tr => tr = []
 | o :: rest, a, w, tr => ∃ e tr', tr = e :: tr' /\ StepOK P ops o a w e /\ TrOK P ops rest (a.put o.dst e.v) e.w tr'
def endA : List Oper -> Act -> List Ev -> Act
 | o :: rest, a, e :: tr => endA rest (a.put o.dst e.v) tr
 | _, a, _ => a
def endW : World -> List Ev -> World
 | w, [] => w
 | _, e :: tr => endW e.w tr
def logOf : List Oper -> Nat -> List Ev -> Log
 | o :: rest, i, e :: tr => logOf rest (i + 1) tr ++ (if isRdOp o.op then [(i, e.p)] else [])
 | _, _, _ => []
def worldsOf (P : Program) : List Oper -> List Ev -> List World
 | o :: rest, e :: tr => (if isActO P o then [e.w] else []) ++ worldsOf P rest tr
 | _, _ => []
theorem Agree.put {a : Act} {ρ : Env} (h : Agree n a ρ) {d : Option Tmp} (hd : dstOK n d = true) (v : Value) : Agree n (a.put d v) (updD ρ d v):=by
 cases d with
 | none => exact h
 | some d =>
  have hlt : d < a.tmps.size:=by rw [h.size]; exact Nat.le_of_ble_eq_true hd
  refine ⟨h.defers, by simp [Act.put, h.size], λ t u ht => ?_⟩
  simp only [updD, upd] at ht
  cases hb : Nat.beq t d with
  | true =>
   simp only [hb, cond_true, Option.some.injEq] at ht
   obtain rfl:=Nat.eq_of_beq_eq_true hb
   subst ht
   simp [Act.put, hlt]
  | false =>
   simp only [hb, cond_false] at ht
   have hne : d ≠ t:=λ e => by subst e; rw [Nat.beq_refl] at hb; cases hb
   simp [Act.put, Array.getElem?_setIfInBounds_ne hne, h.at_ t u ht]
theorem bind_some {α γ : Type} {m : M α} {k : α -> M γ} {w : World} {r : γ × World} (h : M.bind m k w = some r) : ∃ v w', m w = some (v, w') /\ k v w' = some r:=by
 unfold M.bind at h
 split at h
 ·rename_i x hx; exact ⟨x.1, x.2, hx, h⟩
 ·cases h
theorem bindR_some {γ : Type} {m : OpR} {k : Value -> M γ} {w : World} {r : γ × World} (h : bindR m k w = some r) : ∃ v w', opM m w = some (v, w') /\ k v w' = some r:=by
 cases m with
 | val v => exact ⟨v, w, rfl, h⟩
 | opt o =>
  cases o with
  | some v => exact ⟨v, w, rfl, h⟩
  | none => cases h
 | rd rr => exact bind_some h
 | act m => exact bind_some h
theorem opM_got {s : Sem Next} {r : OpR} (hS : r.Sound P s) {w w' : World} {v : Value} (h : opM r w = some (v, w')) : Got P s w v w':=by
 cases r with
 | val u' => cases h; exact .inl (hS w)
 | opt o =>
  cases o with
  | some u' => cases h; exact .inl (hS _ rfl w)
  | none => cases h
 | rd rr =>
  simp only [opM, rdM] at h
  split at h
  ·rename_i u' hu; cases h; exact .inl (hS w _ hu)
  ·cases h
 | act m => exact hS w v w' h
theorem opM_quiet {s : Sem Next} {r : OpR} (hS : r.Sound P s) {w w' : World} {v : Value} (h : opM r w = some (v, w')) (hq : ∀ m, r ≠ .act m) :
  w' = w /\ (∀ W, prP r v W -> s.run P W = .ok (.value v) W) /\ prP r v w:=by
 cases r with
 | val u => cases h; exact ⟨rfl, λ W _ => hS W, trivial⟩
 | opt o =>
  cases o with
  | some u' => cases h; exact ⟨rfl, λ W _ => hS _ rfl W, trivial⟩
  | none => cases h
 | rd rr =>
  simp only [opM, rdM] at h
  split at h
  ·rename_i u' hu; cases h; exact ⟨rfl, λ W hW => hS W _ hW, hu⟩
  ·cases h
 | act m => exact absurd rfl (hq m)
theorem wanted_guard {a : Act} {ρ : Env} (h : Agree n a ρ) {o : Oper} {j : Nat} {want : Bool} {t : Tmp} {g : Value} (hg : o.guard = some (j, want)) (ht : guardTmp ops j = some t) (hv : ρ t = some g) :
  Region.wanted o (yielded ops a.tmps) = gYes g want:=by
 unfold guardTmp at ht
 simp only [Region.wanted, hg, yielded, ht, Option.bind_some, h.at_ t g hv, gYes]
 cases g <;> simp
theorem guardM_some {g : Value} {want : Bool} {m : M Value} {w w' : World} {v : Value} (h : guardM g want m w = some (v, w')) :
  (gYes g want = true /\ m w = some (v, w') /\ g = .bool want) ∨ (gYes g want = false /\ v = undef /\ w' = w /\ g ≠ .bool want):=by
 unfold guardM at h
 split at h
 ·cases want
  ·simp only [cond_false] at h; cases h; exact .inr ⟨rfl, rfl, rfl, by simp⟩
  ·simp only [cond_true] at h; exact .inl ⟨rfl, h, rfl⟩
 ·cases want
  ·simp only [cond_false] at h; exact .inl ⟨rfl, h, rfl⟩
  ·simp only [cond_true] at h; cases h; exact .inr ⟨rfl, rfl, rfl, by simp⟩
 ·rename_i h1 h2
  cases h
  refine .inr ⟨?_, rfl, rfl, ?_⟩
  ·cases g <;> first | rfl | (rename_i b; cases b <;> simp at h1 h2)
  ·rintro rfl; cases want <;> simp at h1 h2
theorem clsOK_quiet {o : Oper} {r : OpR} (h : clsOK P o r = true) (hq : isActO P o = false) : ∀ m, r ≠ .act m:=by
 rintro m rfl
 simp [clsOK, hq] at h
theorem clsOK_rd {o : Oper} {r : OpR} (h : clsOK P o r = true) (hq : isRdOp o.op = false) (v : Value) (W : World) : prP r v W:=by
 cases r <;> first | trivial | simp [clsOK, hq] at h
def KeepsR (rest : List Oper) (a a' : Act) : Prop:=∀ t, (∀ o ∈ rest, o.dst ≠ some t) -> a'.tmps[t]? = a.tmps[t]?
theorem KeepsR.cons {o : Oper} {rest : List Oper} {a a' : Act} {v : Value} (h : KeepsR rest (a.put o.dst v) a') : KeepsR (o :: rest) a a':=by
 intro t hno
 rw [h t λ x hx => hno x (by simp [hx])]
 cases hd : o.dst with
 | none => rfl
 | some d =>
  have hne : d ≠ t:=λ e => hno o (by simp) (by rw [hd, e])
  simp [Act.put, Array.getElem?_setIfInBounds_ne hne]
theorem evOpsL_trace (hT : TabOk P T) (hTc : TabOk P Tc) : ∀ (rest : List Oper) (i : Nat) (ρ : Env) (log : Log) (ws : List World) (k : Env -> Log -> List World -> M β) (w : World) (r : β × World) (a : Act),
  evOpsL P T Tc n ops rest i ρ log ws k w = some r -> Agree n a ρ ->
  ∃ tr ρ', TrOK P ops rest a w tr /\ Agree n (endA rest a tr) ρ' /\ k ρ' (logOf rest i tr ++ log) (ws ++ worldsOf P rest tr) (endW w tr) = some r
 | [], i, ρ, log, ws, k, w, r, a, h, hA => ⟨[], ρ, rfl, hA, by simpa [evOpsL, logOf, worldsOf, endW] using h⟩
 | o :: rest, i, ρ, log, ws, k, w, r, a, h, hA => by
  simp only [evOpsL] at h
  cases hd : (dstOK n o.dst && clsOK P o (opR P T Tc ρ o.op)) with
  | false => simp [hd, M.fail] at h
  | true =>
  simp only [hd, cond_true] at h
  rw [Bool.and_eq_true] at hd
  obtain ⟨hd, hcls⟩:=hd
  have hS:=opR_sound hT hTc hA o
  have go : ∀ (e : Ev) (log1 : Log) (ws1 : List World), StepOK P ops o a w e -> evOpsL P T Tc n ops rest (i + 1) (updD ρ o.dst e.v) log1 ws1 k e.w = some r ->
    log1 = addL o i e.p log -> ws1 = ws ++ (if isActO P o then [e.w] else []) ->
    ∃ tr ρ', TrOK P ops (o :: rest) a w tr /\ Agree n (endA (o :: rest) a tr) ρ' /\ k ρ' (logOf (o :: rest) i tr ++ log) (ws ++ worldsOf P (o :: rest) tr) (endW w tr) = some r:=by
   intro e log1 ws1 hst hrun hlog hws
   obtain ⟨tr, ρ', h1, h2, h3⟩:=evOpsL_trace hT hTc rest (i + 1) _ log1 ws1 k e.w r (a.put o.dst e.v) hrun (hA.put hd e.v)
   refine ⟨e :: tr, ρ', ⟨e, tr, rfl, hst, h1⟩, h2, ?_⟩
   subst hlog; subst hws
   cases hrd : isRdOp o.op <;> simpa [logOf, worldsOf, endW, addL, hrd, List.append_assoc] using h3
  cases hg : o.guard with
  | none =>
   have hw : Region.wanted o (yielded ops a.tmps) = true:=by simp [Region.wanted, hg]
   simp only [hg] at h
   obtain ⟨v, w', hm, hk⟩:=bindR_some h
   have hst : StepOK P ops o a w ⟨v, w', prP (opR P T Tc ρ o.op) v⟩:=by
    refine ⟨λ _ => ⟨opM_got hS hm, λ hq => ?_⟩, λ hf => ?_, λ hq hr W => clsOK_rd hcls hr v W, λ hq => (opM_quiet hS hm (clsOK_quiet hcls hq)).2.2⟩
    ·have:=opM_quiet hS hm (clsOK_quiet hcls hq); exact ⟨this.1, this.2.1⟩
    ·rw [hw] at hf; cases hf
   cases hact : isActO P o with
   | true => simp only [hact, cond_true, getM] at hk; exact go _ _ _ hst hk rfl (by simp [hact])
   | false => simp only [hact, cond_false] at hk; exact go _ _ _ hst hk rfl (by simp [hact])
  | some jw =>
   obtain ⟨j, want⟩:=jw
   simp only [hg] at h
   cases ht : guardTmp ops j with
   | none => simp [ht, M.fail] at h
   | some t =>
    simp only [ht] at h
    cases hv : ρ t with
    | none => simp [hv, M.fail] at h
    | some g =>
     simp only [hv] at h
     obtain ⟨v, w', hm, hk⟩:=bind_some h
     have hwg:=wanted_guard hA hg ht hv
     have hst : StepOK P ops o a w ⟨v, w', λ W => g = .bool want -> prP (opR P T Tc ρ o.op) v W⟩:=by
      rcases guardM_some hm with ⟨hb, hm, hgw⟩ | ⟨hb, rfl, rfl, hgw⟩
      ·rw [hb] at hwg
       refine ⟨λ _ => ⟨opM_got hS hm, λ hq => ?_⟩, λ hf => ?_, λ hq hr W _ => clsOK_rd hcls hr v W, λ hq _ => (opM_quiet hS hm (clsOK_quiet hcls hq)).2.2⟩
       ·have:=opM_quiet hS hm (clsOK_quiet hcls hq); exact ⟨this.1, λ W hW => this.2.1 W (hW hgw)⟩
       ·rw [hwg] at hf; cases hf
      ·rw [hb] at hwg
       exact ⟨λ hf => (by rw [hwg] at hf; cases hf), λ _ => ⟨rfl, rfl⟩, λ _ _ _ hh => absurd hh hgw, λ _ hh => absurd hh hgw⟩
     cases hact : isActO P o with
     | true => simp only [hact, cond_true, getM] at hk; exact go _ _ _ hst hk rfl (by simp [hact])
     | false => simp only [hact, cond_false] at hk; exact go _ _ _ hst hk rfl (by simp [hact])
theorem evOps_trace (hT : TabOk P T) (hTc : TabOk P Tc) {chk : Bool} : ∀ (rest : List Oper) (ρ : Env) (k : Env -> M β) (w : World) (r : β × World) (a : Act) {Q : Exit -> Act -> World -> Prop},
  evOps P T Tc n ops chk rest ρ k w = some r -> Agree n a ρ -> (∀ a' ρ' w', Agree n a' ρ' -> KeepsR rest a a' -> k ρ' w' = some r -> Q .normal a' w') -> wpList P ops Q rest a w
 | [], ρ, k, w, r, a, Q, h, hA, hQ => hQ a ρ w hA (λ _ _ => rfl) h
 | o :: rest, ρ, k, w, r, a, Q, h, hA, hQ => by
  simp only [evOps] at h
  cases hd : (dstOK n o.dst && (!chk || clsOK P o (opR P T Tc ρ o.op))) with
  | false => simp [hd, M.fail] at h
  | true =>
  simp only [hd, cond_true] at h
  rw [Bool.and_eq_true] at hd
  replace hd:=hd.1
  have hS:=opR_sound hT hTc hA o
  unfold wpList
  cases hg : o.guard with
  | none =>
   have hw : Region.wanted o (yielded ops a.tmps) = true:=by simp [Region.wanted, hg]
   simp only [hg] at h
   obtain ⟨v, w', hm, hk⟩:=bindR_some h
   rw [if_pos hw]
   exact .inl (upon_got (opM_got hS hm) (evOps_trace hT hTc rest _ k w' r _ hk (hA.put hd v) λ a' ρ' w' h1 h2 h3 => hQ a' ρ' w' h1 h2.cons h3))
  | some jw =>
   obtain ⟨j, want⟩:=jw
   simp only [hg] at h
   cases ht : guardTmp ops j with
   | none => simp [ht, M.fail] at h
   | some t =>
    simp only [ht] at h
    cases hv : ρ t with
    | none => simp [hv, M.fail] at h
    | some g =>
     simp only [hv] at h
     obtain ⟨v, w', hm, hk⟩:=bind_some h
     have hwg:=wanted_guard hA hg ht hv
     have hrec:=evOps_trace hT hTc rest _ k w' r _ hk (hA.put hd v) λ a' ρ' w' h1 h2 h3 => hQ a' ρ' w' h1 h2.cons h3
     rcases guardM_some hm with ⟨hb, hm, hgw⟩ | ⟨hb, rfl, rfl, hgw⟩
     ·rw [hb] at hwg
      rw [if_pos hwg]
      exact .inl (upon_got (opM_got hS hm) hrec)
     ·rw [hb] at hwg
      rw [if_neg (by rw [hwg]; simp)]
      exact hrec
def valOf (tr : List Ev) (i : Nat) : Value:=match tr[i]? with
 | some e => e.v
 | none => undef
theorem TrOK.length : ∀ {rest : List Oper} {a : Act} {w : World} {tr : List Ev}, TrOK P ops rest a w tr -> tr.length = rest.length
 | [], a, w, tr, h => by simp only [TrOK] at h; subst h; rfl
 | o :: rest, a, w, tr, h => by obtain ⟨e, tr', rfl, _, h⟩:=h; simp [h.length]
theorem evOps_L : ∀ (rest : List Oper) (i : Nat) (ρ : Env) (log : Log) (ws : List World) (k : Env -> M β),
  evOpsL P T Tc n ops rest i ρ log ws (λ ρ' _ _ => k ρ') = evOps P T Tc n ops true rest ρ k
 | [], i, ρ, log, ws, k => rfl
 | o :: rest, i, ρ, log, ws, k => by
  have e : ∀ (v : Value) (p : World -> Prop), (bif isActO P o
    then getM λ W => evOpsL P T Tc n ops rest (i + 1) (updD ρ o.dst v) (addL o i p log) (ws ++ [W]) (λ ρ' _ _ => k ρ')
    else evOpsL P T Tc n ops rest (i + 1) (updD ρ o.dst v) (addL o i p log) ws (λ ρ' _ _ => k ρ')) = evOps P T Tc n ops true rest (updD ρ o.dst v) k:=by
   intro v p
   cases isActO P o with
   | true =>
    simp only [cond_true]
    funext w
    simp only [getM, evOps_L rest]
   | false => simp only [cond_false, evOps_L rest]
  simp only [evOpsL, evOps, e, Bool.not_true, Bool.false_or]
theorem checksM_some {log : Log} {ws : List World} {k : M β} {w : World} {r : β × World} : ∀ {fl : List (Nat × Nat)}, checksM log ws fl k w = some r ->
  k w = some r /\ ∀ x ∈ fl, ∃ p W, lookL log x.1 = some p /\ ws[x.2]? = some W /\ p W
 | [], h => ⟨h, λ x hx => by cases hx⟩
 | (i, c) :: fl, h => by
  simp only [checksM] at h
  cases hp : lookL log i with
  | none => simp [hp, M.fail] at h
  | some p =>
   cases hW : ws[c]? with
   | none => simp [hp, hW, M.fail] at h
   | some W =>
    simp only [hp, hW] at h
    unfold reqM at h
    by_cases hpW : p W
    ·rw [if_pos hpW] at h
     obtain ⟨h1, h2⟩:=checksM_some h
     refine ⟨h1, λ x hx => ?_⟩
     rcases List.mem_cons.1 hx with rfl | hx
     ·exact ⟨p, W, hp, hW, hpW⟩
     ·exact h2 x hx
    ·rw [if_neg hpW] at h; cases h
theorem lookL_append (i : Nat) : ∀ (l1 l2 : Log), lookL (l1 ++ l2) i = match lookL l1 i with
  | some p => some p
  | none => lookL l2 i
 | [], l2 => rfl
 | (j, p) :: l1, l2 => by
  simp only [List.cons_append, lookL]
  cases Nat.beq i j <;> simp [lookL_append i l1 l2]
theorem lookL_below {j : Nat} : ∀ {rest : List Oper} {i : Nat} {tr : List Ev}, j < i -> lookL (logOf rest i tr) j = none
 | [], i, tr, h => by cases tr <;> rfl
 | o :: rest, i, [], h => rfl
 | o :: rest, i, e :: tr, h => by
  simp only [logOf]
  rw [lookL_append, lookL_below (by omega)]
  have : Nat.beq j i = false:=by
   cases hb : Nat.beq j i with
   | false => rfl
   | true => have:=Nat.eq_of_beq_eq_true hb; omega
  cases isRdOp o.op <;> simp [lookL, this]
theorem lookL_at {o : Oper} {e : Ev} : ∀ {rest : List Oper} {i j : Nat} {tr : List Ev}, rest[j]? = some o -> tr[j]? = some e -> isRdOp o.op = true -> lookL (logOf rest i tr) (i + j) = some e.p
 | [], i, j, tr, h, _, _ => by simp at h
 | o' :: rest, i, j, [], _, h, _ => by simp at h
 | o' :: rest, i, 0, e' :: tr, h1, h2, h3 => by
  simp at h1 h2
  subst h1; subst h2
  simp only [logOf]
  rw [lookL_append, lookL_below (by omega)]
  simp [h3, lookL, Nat.beq_refl]
 | o' :: rest, i, j + 1, e' :: tr, h1, h2, h3 => by
  simp at h1 h2
  have:=lookL_at (i:=i + 1) h1 h2 h3
  simp only [logOf]
  rw [lookL_append, show i + (j + 1) = i + 1 + j by omega, this]
theorem canon_aux {a0 : Act} {w0 : World} {tr : List Ev} : ∀ (rest pre : List Oper) (trp trr : List Ev) (a : Act) (w : World), ops.toList = pre ++ rest -> tr = trp ++ trr -> trp.length = pre.length ->
  TrOK P ops rest a w trr -> a = AL ops (valOf tr) a0 (λ _ => true) pre.length -> (w0 :: worldsOf P ops.toList tr)[cn (actAt ops (isActO P)) pre.length]? = some w ->
  worldsOf P ops.toList tr = worldsOf P pre trp ++ worldsOf P rest trr -> (worldsOf P pre trp).length = cn (actAt ops (isActO P)) pre.length ->
  (∀ i o, pre.length <= i -> ops[i]? = some o -> ∃ e W W', tr[i]? = some e /\ (w0 :: worldsOf P ops.toList tr)[cn (actAt ops (isActO P)) i]? = some W /\ StepOK P ops o (AL ops (valOf tr) a0 (λ _ => true) i) W e /\
   (isActO P o = true -> (w0 :: worldsOf P ops.toList tr)[cn (actAt ops (isActO P)) i + 1]? = some W' /\ e.w = W')) /\
  endA rest a trr = AL ops (valOf tr) a0 (λ _ => true) ops.size /\ (w0 :: worldsOf P ops.toList tr)[cn (actAt ops (isActO P)) ops.size]? = some (endW w trr)
 | [], pre, trp, trr, a, w, hops, htr, hlen, hT, ha, hw, hws, hwl => by
  have hsz : ops.size = pre.length:=by rw [<- Array.length_toList, hops]; simp
  simp only [TrOK] at hT
  subst hT
  refine ⟨λ i o hi ho => ?_, ?_, ?_⟩
  ·have:=(Array.getElem?_eq_some_iff.1 ho).1
   omega
  ·rw [hsz]; exact ha
  ·rw [hsz]; exact hw
 | o :: rest, pre, trp, trr, a, w, hops, htr, hlen, hT, ha, hw, hws, hwl => by
  obtain ⟨e, tr', rfl, hst, hT⟩:=hT
  have ho : ops[pre.length]? = some o:=by
   have : ops.toList[pre.length]? = some o:=by simp [hops]
   simpa using this
  have he : tr[pre.length]? = some e:=by rw [htr, <- hlen]; simp
  have hact : actAt ops (isActO P) pre.length = isActO P o:=by simp [actAt, ho]
  have hworlds : worldsOf P (pre ++ [o]) (trp ++ [e]) = worldsOf P pre trp ++ (if isActO P o then [e.w] else []):=by
   clear hws hwl hw ha hT hst he ho htr hact hops
   induction pre generalizing trp with
   | nil =>
    have : trp = []:=by cases trp <;> simp at hlen ⊢
    subst this; simp [worldsOf]
   | cons x pre ih =>
    cases trp with
    | nil => simp at hlen
    | cons y trp =>
     have:=ih trp (by simpa using hlen)
     simp [worldsOf, this]
  have hnext : (w0 :: worldsOf P ops.toList tr)[cn (actAt ops (isActO P)) (pre.length + 1)]? = some e.w:=by
   simp only [cn, hact]
   cases hq : isActO P o with
   | true =>
    simp only [if_true]
    rw [List.getElem?_cons_succ, hws, List.getElem?_append_right (by omega), hwl]
    simp [worldsOf, hq]
   | false =>
    simp only [Bool.false_eq_true, if_false, Nat.add_zero]
    rw [hw]
    congr 1
    by_cases hwant : Region.wanted o (yielded ops a.tmps) = true
    ·exact ((hst.1 hwant).2 hq).1.symm
    ·exact (hst.2.1 (by simpa using hwant)).2.symm
  have hA' : a.put o.dst e.v = AL ops (valOf tr) a0 (λ _ => true) (pre ++ [o]).length:=by
   simp only [List.length_append, List.length_singleton, AL, if_true]
   rw [<- ha]
   simp [dstAt, ho, valOf, he]
  have:=canon_aux rest (pre ++ [o]) (trp ++ [e]) tr' (a.put o.dst e.v) e.w (by simp [hops]) (by simp [htr]) (by simp [hlen]) hT hA' (by simpa using hnext)
   (by rw [hworlds, hws]; simp [worldsOf, List.append_assoc]) (by
    rw [hworlds]
    simp only [List.length_append, List.length_singleton, cn, hact, hwl]
    cases isActO P o <;> simp)
  obtain ⟨h1, h2, h3⟩:=this
  refine ⟨λ i oi hi hoi => ?_, h2, h3⟩
  by_cases hip : i = pre.length
  ·subst hip
   rw [ho] at hoi; cases hoi
   refine ⟨e, w, e.w, he, hw, by rw [<- ha]; exact hst, λ hq => ⟨?_, rfl⟩⟩
   have:=hnext
   simp only [cn, hact, hq, if_true] at this
   exact this
  ·exact h1 i oi (by simp; omega) hoi
theorem evCoreL_any (hT : TabOk P T) (hTc : TabOk P Tc) {ρ : Env} {k : Env -> M β} {w : World} {r : β × World} {a : Act} {Q : Exit -> Act -> World -> Prop} (hok : drawOK ops (isActO P) = true)
  (h : evCoreL P T Tc n ops ρ k w = some r) (hA : Agree n a ρ) (hQ : ∀ a' ρ' w', Agree n a' ρ' -> KeepsR ops.toList a a' -> k ρ' w' = some r -> Q .normal a' w') :
  wpAny P .any ops Q ops.size (Array.replicate ops.size false) a w:=by
  unfold evCoreL at h
  simp only [getM] at h
  obtain ⟨tr, ρ', hTr, hA', hk⟩:=evOpsL_trace hT hTc _ _ _ _ _ _ _ _ _ h hA
  simp only [List.append_nil] at hk
  obtain ⟨hk, hfl⟩:=checksM_some hk
  obtain ⟨hstep, hend, hwend⟩:=canon_aux (P:=P) (ops:=ops) (a0:=a) (w0:=w) (tr:=tr) ops.toList [] [] tr a w (by simp) (by simp) rfl hTr rfl rfl (by simp [worldsOf]) rfl
  have C : Canon P ops (isActO P) a (valOf tr) (λ c => ((w :: worldsOf P ops.toList tr)[c]?).getD default):=by
   refine ⟨λ i o ho hw => ?_, λ i o ho hw => ?_⟩
   ·obtain ⟨e, W, W', he, hW, hst, hact⟩:=hstep i o (Nat.zero_le _) ho
    have hv : valOf tr i = e.v:=by simp [valOf, he]
    have hgot:=hst.1 hw
    refine ⟨λ hq => ?_, λ hq c hlo hhi => ?_⟩
    ·obtain ⟨h1, h2⟩:=hact hq
     simp only [hW, h1, hv, Option.getD_some, <- h2]
     exact hgot.1
    ·obtain ⟨hweq, hall⟩:=hgot.2 hq
     rw [hv]
     refine hall _ ?_
     cases hrd : isRdOp o.op with
     | false => exact hst.2.2.1 hq hrd _
     | true =>
      by_cases hc : c = cn (actAt ops (isActO P)) i
      ·subst hc
       simp only [hW, Option.getD_some]
       exact hst.2.2.2 hq
      ·have hmem : (i, c) ∈ floats P ops:=by
        have hlt : i < ops.size:=(Array.getElem?_eq_some_iff.1 ho).1
        simp only [floats, List.mem_flatMap, List.mem_range]
        refine ⟨i, hlt, ?_⟩
        simp only [ho, hrd, hq, Bool.not_false, Bool.and_self, cond_true, List.mem_map, List.mem_filter, List.mem_range, Prod.mk.injEq, true_and, exists_eq_right]
        refine ⟨by omega, ?_⟩
        rw [Bool.and_eq_true]
        refine ⟨Nat.ble_eq_true_of_le hlo, ?_⟩
        cases hb : Nat.beq c (cn (actAt ops (isActO P)) i) with
        | false => rfl
        | true => exact absurd (Nat.eq_of_beq_eq_true hb) hc
       obtain ⟨p, W2, hp, hW2, hpW⟩:=hfl _ hmem
       have hl:=lookL_at (i:=0) (rest:=ops.toList) (tr:=tr) (j:=i) (by simpa using ho) he hrd
       rw [Nat.zero_add] at hl
       rw [hl] at hp
       cases hp
       have hW3 : (w :: worldsOf P ops.toList tr)[c]? = some W2:=by simpa using hW2
       simp only [hW3, Option.getD_some]
       exact hpW
   ·obtain ⟨e, W, W', he, hW, hst, hact⟩:=hstep i o (Nat.zero_le _) ho
    have hv : valOf tr i = e.v:=by simp [valOf, he]
    obtain ⟨h1, h2⟩:=hst.2.1 hw
    refine ⟨by rw [hv, h1], λ hq => ?_⟩
    obtain ⟨h3, h4⟩:=hact hq
    simp only [hW, h3, Option.getD_some, <- h4, h2]
  refine draw_all hok C rfl (hQ _ ρ' _ ?_ (λ t hno => ?_) ?_)
  ·rw [<- hend]; exact hA'
  ·have h1:=AL_at (ops:=ops) (val:=valOf tr) (a:=a) (p:=λ _ => true) (q:=λ _ => false) (t:=t) (k:=ops.size) λ j hj hd => by
    exfalso
    have ho : ops.toList[j]? = some ops[j]:=by simp [hj]
    refine hno ops[j] (List.mem_of_getElem? ho) ?_
    simpa [dstAt, hj] using hd
   rw [h1]
   have h2 : ∀ k, AL ops (valOf tr) a (λ _ => false) k = a:=by
    intro k
    induction k with
    | zero => rfl
    | succ k ih => simp only [AL, Bool.false_eq_true, if_false]; exact ih
   rw [h2]
  ·simp only [hwend, Option.getD_some]
   exact hk
theorem evCore_any (hT : TabOk P T) (hTc : TabOk P Tc) {ρ : Env} {k : Env -> M β} {w : World} {r : β × World} {a : Act} {Q : Exit -> Act -> World -> Prop}
  (h : evCore P T Tc n ops ρ k w = some r) (hA : Agree n a ρ) (hQ : ∀ a' ρ' w', Agree n a' ρ' -> KeepsR ops.toList a a' -> k ρ' w' = some r -> Q .normal a' w') :
  wpAny P .any ops Q ops.size (Array.replicate ops.size false) a w:=by
 unfold evCore at h
 cases hok : drawOK ops (isActO P) with
 | false => simp [hok, M.fail] at h
 | true =>
  simp only [hok, cond_true] at h
  refine evCoreL_any hT hTc (ρ:=ρ) (k:=k) (r:=r) hok ?_ hA hQ
  cases hf : (floats P ops).isEmpty with
  | false => simp only [hf, cond_false] at h; exact h
  | true =>
   simp only [hf, cond_true] at h
   unfold evCoreL
   simp only [List.isEmpty_iff.1 hf, checksM, getM]
   rw [<- h]
   rw [evOps_L]
theorem evDraw_sound (hT : TabOk P T) (hTc : TabOk P Tc) {id : Nat} {ρ : Env} {k : Env -> M β} {w : World} {r : β × World} {a : Act} {Q : Exit -> Act -> World -> Prop}
  (h : evDraw P T Tc n ops ρ k w = some r) (hA : Agree n a ρ) (hQ : ∀ a' ρ' w', Agree n a' ρ' -> KeepsR ops.toList a a' -> k ρ' w' = some r -> Q .normal a' w') : (Code.region id ops true).wp P Q a w:=by
 unfold evDraw at h
 cases hm : P.follows .mixedOrders with
 | false => simp [hm, M.fail] at h
 | true =>
  simp only [hm, cond_true, drewM] at h
  exact wp_region_any hm (evCore_any hT hTc h hA hQ)
theorem evReg_sound (hT : TabOk P T) (hTc : TabOk P Tc) {id : Nat} {ρ : Env} {k : Env -> M β} {w : World} {r : β × World} {a : Act} {Q : Exit -> Act -> World -> Prop}
  (h : evOps P T Tc n ops false ops.toList ρ k w = some r) (hA : Agree n a ρ) (hQ : ∀ a' ρ' w', Agree n a' ρ' -> KeepsR ops.toList a a' -> k ρ' w' = some r -> Q .normal a' w') : (Code.region id ops false).wp P Q a w :=
 wp_region_list (evOps_trace hT hTc _ _ _ _ _ _ h hA hQ)
end
section
variable {P : Program} {ops : Array Oper} {isA : Oper -> Bool}
inductive LinExt (ops : Array Oper) : Array Bool -> List Nat -> Prop where
 | nil {listed : Array Bool} : Region.ready .any ops listed = [] -> LinExt ops listed []
 | cons {listed : Array Bool} {i : Nat} {r : List Nat} : i ∈ Region.ready .any ops listed -> LinExt ops (listed.setIfInBounds i true) r -> LinExt ops listed (i :: r)
theorem linExt_go : ∀ (fuel t : Nat) (listed : Array Bool), listed.size = ops.size -> cn (λ j => !listed.getD j false) ops.size <= fuel -> LinExt ops listed (Region.linearise.go .any ops fuel t listed []):=by
 intro fuel
 induction fuel with
 | zero =>
  intro t listed hs hf
  refine .nil ?_
  cases hr : Region.ready .any ops listed with
  | nil => rfl
  | cons i r =>
   exfalso
   have hi : i ∈ Region.ready .any ops listed:=by rw [hr]; simp
   obtain ⟨h0, o, ho, _⟩:=mem_ready.1 hi
   have hlt : i < ops.size:=(Array.getElem?_eq_some_iff.1 ho).1
   rw [getD_lt (by omega)] at h0
   have h2 : cn (λ j => false || j == i) ops.size = cn (λ _ => false) ops.size + 1:=cn_add (f:=λ _ => false) (i:=i) rfl (k:=ops.size) hlt
   have h3 : cn (λ j => false || j == i) ops.size <= cn (λ j => !listed.getD j false) ops.size:=cn_mono λ j _ hj => by
    simp only [Bool.false_or, beq_iff_eq] at hj; subst hj; rw [h0]; rfl
   omega
 | succ fuel ih =>
  intro t listed hs hf
  simp only [Region.linearise.go]
  change LinExt ops listed (match (Region.ready .any ops listed)[t % (Region.ready .any ops listed).length]? with
   | some i => Region.linearise.go .any ops fuel (t / (Region.ready .any ops listed).length) (listed.setIfInBounds i true) [i]
   | none => [].reverse)
  cases hi : (Region.ready .any ops listed)[t % (Region.ready .any ops listed).length]? with
  | none =>
   refine .nil ?_
   cases hr : Region.ready .any ops listed with
   | nil => rfl
   | cons x xs =>
    rw [hr] at hi
    have hlt : t % (x :: xs).length < (x :: xs).length:=Nat.mod_lt _ (by simp)
    simp at hi
    simp at hlt
    omega
  | some i =>
   simp only []
   rw [linearise_go_acc, List.reverse_singleton, List.singleton_append]
   have hm:=List.mem_of_getElem? hi
   refine .cons hm (ih _ _ (by simp [hs]) ?_)
   obtain ⟨h0, o, ho, _⟩:=mem_ready.1 hm
   have hlt : i < ops.size:=(Array.getElem?_eq_some_iff.1 ho).1
   rw [getD_lt (by omega)] at h0
   have hset : ∀ j, (listed.setIfInBounds i true).getD j false = (listed.getD j false || j == i):=by
    intro j
    by_cases hji : j = i
    ·subst hji; simp [Array.getD, hs, hlt]
    ·rw [getD_set_ne false (Ne.symm hji)]
     have : (j == i) = false:=by simpa using hji
     simp [this]
   have h1 : cn (λ j => !(listed.setIfInBounds i true).getD j false || j == i) ops.size = cn (λ j => !(listed.setIfInBounds i true).getD j false) ops.size + 1 :=
    cn_add (f:=λ j => !(listed.setIfInBounds i true).getD j false) (i:=i) (by rw [hset]; simp) (k:=ops.size) hlt
   have h2 : cn (λ j => !(listed.setIfInBounds i true).getD j false || j == i) ops.size = cn (λ j => !listed.getD j false) ops.size:=cn_congr λ j _ => by
    rw [hset]
    by_cases hji : j = i
    ·subst hji; simp only [h0]; simp
    ·have : (j == i) = false:=by simpa using hji
     simp [this]
   omega
theorem linExt_schedule (t : Nat) : LinExt ops (Array.replicate ops.size false) (Region.schedule true ops t):=by
 simp only [Region.schedule, Bool.true_or, if_true]
 exact linExt_go ops.size t _ (by simp) cn_le
def exts (ms : List Nat) : Nat -> List Nat -> List (List Nat)
 | 0, rem => bif rem.isEmpty then [[]] else []
 | n + 1, rem => bif rem.isEmpty then [[]] else rem.flatMap λ i =>
  bif rem.all λ j => Nat.beq i j || !((ms.getD i 0).testBit j) then (exts ms n (rem.filter λ j => !(Nat.beq i j))).map (i :: ·) else []
theorem exts_mem (hedge : edgesOK ops = true) : ∀ (l : List Nat) (listed : Array Bool) (rem : List Nat) (n : Nat), LinExt ops listed l -> listed.size = ops.size -> rem.length <= n ->
  (∀ i o, ops[i]? = some o -> listed.getD i false = true -> ∀ e ∈ o.after, Region.binds .any e = true -> listed.getD e.on false = true) ->
  (∀ i, i ∈ rem ↔ i < ops.size /\ actAt ops isA i = true /\ listed.getD i false = false) -> l.filter (actAt ops isA) ∈ exts (masks ops) n rem:=by
 have hE : ∀ i o, ops[i]? = some o -> ∀ e ∈ o.after, Region.binds .any e = true -> e.on < i:=by
  intro i o ho e he hb
  simp only [edgesOK, List.all_eq_true, List.mem_range] at hedge
  have hlt : i < ops.size:=(Array.getElem?_eq_some_iff.1 ho).1
  have:=hedge i hlt
  simp only [ho, List.all_eq_true] at this
  have:=this e (by simpa using he)
  simp only [hb, Bool.not_true, Bool.false_or] at this
  exact Nat.le_of_ble_eq_true this
 have hdone : ∀ listed : Array Bool, listed.size = ops.size -> Region.ready .any ops listed = [] -> ∀ j, j < ops.size -> listed.getD j false = true:=by
  intro listed hs hr j
  induction j using Nat.strongRecOn with
  | _ j ih =>
   intro hj
   cases hl : listed.getD j false with
   | true => rfl
   | false =>
    exfalso
    obtain ⟨o, ho⟩ : ∃ o, ops[j]? = some o:=⟨ops[j], by simp [hj]⟩
    have : j ∈ Region.ready .any ops listed:=by
     rw [mem_ready]
     refine ⟨by rw [getD_lt (by omega)]; exact hl, o, ho, λ e he hb => ?_⟩
     have hlt:=hE j o ho e he hb
     exact ih e.on hlt (by omega)
    rw [hr] at this
    cases this
 intro l
 induction l with
 | nil =>
  intro listed rem n hl hs hn hc hrem
  cases hl with
  | nil hr =>
   have hall:=hdone listed hs hr
   have : rem = []:=by
    cases rem with
    | nil => rfl
    | cons i r =>
     obtain ⟨h1, _, h3⟩:=(hrem i).1 (by simp)
     rw [hall i h1] at h3; cases h3
   subst this
   cases n <;> simp [exts]
 | cons i l ih =>
  intro listed rem n hl hs hn hc hrem
  cases hl with
  | cons hi hl =>
   obtain ⟨h0, o, ho, hdeps⟩:=mem_ready.1 hi
   have hlt : i < ops.size:=(Array.getElem?_eq_some_iff.1 ho).1
   rw [getD_lt (by omega)] at h0
   have hset : ∀ j, (listed.setIfInBounds i true).getD j false = (listed.getD j false || j == i):=by
    intro j
    by_cases hji : j = i
    ·subst hji; simp [Array.getD, hs, hlt]
    ·rw [getD_set_ne false (Ne.symm hji)]
     have : (j == i) = false:=by simpa using hji
     simp [this]
   have hc' : ∀ k ok, ops[k]? = some ok -> (listed.setIfInBounds i true).getD k false = true -> ∀ e ∈ ok.after, Region.binds .any e = true -> (listed.setIfInBounds i true).getD e.on false = true:=by
    intro k ok hk hl e he hb
    rw [hset] at hl ⊢
    simp only [Bool.or_eq_true, beq_iff_eq] at hl ⊢
    rcases hl with hl | hl
    ·exact .inl (hc k ok hk hl e he hb)
    ·subst hl
     rw [ho] at hk; cases hk
     exact .inl (hdeps e he hb)
   cases ha : actAt ops isA i with
   | false =>
    rw [List.filter_cons_of_neg (by simp [ha])]
    refine ih _ rem n hl (by simp [hs]) hn hc' λ j => ?_
    rw [hrem j, hset]
    by_cases hji : j = i
    ·subst hji; simp [ha]
    ·have : (j == i) = false:=by simpa using hji
     simp [this]
   | true =>
    rw [List.filter_cons_of_pos (by simp [ha])]
    have himem : i ∈ rem:=(hrem i).2 ⟨hlt, ha, h0⟩
    obtain ⟨n, rfl⟩ : ∃ m, n = m + 1:=⟨n - 1, by have : 0 < rem.length:=List.length_pos_of_mem himem; omega⟩
    have hne : rem.isEmpty = false:=by cases rem <;> simp at himem ⊢
    simp only [exts, hne, cond_false, List.mem_flatMap]
    refine ⟨i, himem, ?_⟩
    have hall : (rem.all λ j => Nat.beq i j || !(((masks ops).getD i 0).testBit j)) = true:=by
     rw [List.all_eq_true]
     intro j hj
     obtain ⟨h1, h2, h3⟩:=(hrem j).1 hj
     by_cases hij : i = j
     ·subst hij; simp [Nat.beq_refl]
     ·cases hb : ((masks ops).getD i 0).testBit j with
      | false => simp
      | true =>
       have:=masks_closed (L:=λ j => (listed.setIfInBounds i true).getD j false) hc' i j hlt (by simp only [hset]; simp) hb
       simp only [hset, h3, Bool.false_or, beq_iff_eq] at this
       exact absurd this.symm hij
    simp only [hall, cond_true, List.mem_map, List.cons.injEq, true_and, exists_eq_right]
    refine ih _ _ n hl (by simp [hs]) ?_ hc' λ j => ?_
    ·have : (rem.filter λ j => !(Nat.beq i j)).length < rem.length:=by
      rw [List.length_filter_lt_length_iff_exists]
      exact ⟨i, himem, by simp [Nat.beq_refl]⟩
     omega
    ·rw [List.mem_filter, hrem j, hset]
     by_cases hji : j = i
     ·subst hji; simp [Nat.beq_refl]
     ·have h1 : (j == i) = false:=by simpa using hji
      have h2 : Nat.beq i j = false:=by
       cases hb : Nat.beq i j with
       | false => rfl
       | true => exact absurd (Nat.eq_of_beq_eq_true hb).symm hji
      simp [h1, h2]
def idxN : List Nat -> Nat -> Nat
 | [], _ => 0
 | j :: r, i => bif Nat.beq i j then 0 else idxN r i + 1
def renum (ops : Array Oper) (isA : Oper -> Bool) (π : List Nat) (k : Nat) (i : Nat) : Oper:=match ops[i]? with
 | some o => { o with
   after:=((o.after.toList.filter (Region.binds .any)).map (λ e => ({ on:=idxN π e.on, ground:=.data } : Edge)) ++
    (bif isA o then ((List.range k).filter λ m => actAt ops isA (π.getD m 0)).map (λ m => ({ on:=m, ground:=.data } : Edge)) else [])).toArray
   guard:=o.guard.map λ g => (idxN π g.1, g.2) }
 | none => default
def permOps (ops : Array Oper) (isA : Oper -> Bool) (π : List Nat) : Array Oper:=(π.zipIdx.map λ x => renum ops isA π x.2 x.1).toArray
def permOK (n : Nat) (π : List Nat) : Bool:=Nat.beq π.length n && ((List.range n).all λ k => Nat.blt (π.getD k 0) n && Nat.beq (idxN π (π.getD k 0)) k) &&
 ((List.range n).all λ i => Nat.blt (idxN π i) n && Nat.beq (π.getD (idxN π i) 0) i)
def guardsOK (ops : Array Oper) : Bool:=ops.all λ o => match o.guard with
 | some g => Nat.blt g.1 ops.size
 | none => true
theorem permOps_at {π : List Nat} {k : Nat} (hk : k < π.length) : (permOps ops isA π)[k]? = some (renum ops isA π k (π.getD k 0)):=by
 simp [permOps, hk, List.getD]
theorem wpOps_perm {Q : Exit -> Act -> World -> Prop} {π : List Nat} (hp : permOK ops.size π = true) (hg : guardsOK ops = true) : ∀ (l : List Nat) (a : Act) (w : World), (∀ i ∈ l, i < ops.size) ->
  wpOps P (permOps ops isA π) Q (l.map (idxN π)) a w -> wpOps P ops Q l a w:=by
 simp only [permOK, Bool.and_eq_true] at hp
 obtain ⟨⟨hlen, hp1⟩, hp2⟩:=hp
 have hlen:=Nat.eq_of_beq_eq_true hlen
 intro l
 induction l with
 | nil => intro a w _ h; exact h
 | cons i l ih =>
  intro a w hi h
  have hil:=hi i (by simp)
  rw [List.all_eq_true] at hp2
  have:=hp2 i (List.mem_range.2 hil)
  rw [Bool.and_eq_true] at this
  have h1 : idxN π i < π.length:=by rw [hlen]; exact Nat.le_of_ble_eq_true this.1
  have h2 : π.getD (idxN π i) 0 = i:=Nat.eq_of_beq_eq_true this.2
  obtain ⟨o, ho⟩ : ∃ o, ops[i]? = some o:=⟨ops[i], by simp [hil]⟩
  have ho':=permOps_at (ops:=ops) (isA:=isA) h1
  rw [h2] at ho'
  simp only [renum, ho] at ho'
  rw [List.map_cons, wpOps_cons] at h
  rw [wpOps_cons]
  unfold wpOp at h ⊢
  simp only [ho', ho] at h ⊢
  have hw : Region.wanted { o with
    after:=((o.after.toList.filter (Region.binds .any)).map (λ e => ({ on:=idxN π e.on, ground:=.data } : Edge)) ++ (bif isA o then ((List.range (idxN π i)).filter λ m => actAt ops isA (π.getD m 0)).map (λ m => ({ on:=m, ground:=.data } : Edge)) else [])).toArray
    guard:=o.guard.map λ g => (idxN π g.1, g.2) } (yielded (permOps ops isA π) a.tmps) = Region.wanted o (yielded ops a.tmps):=by
   unfold Region.wanted
   cases hgd : o.guard with
   | none => simp
   | some g =>
    simp only [Option.map_some]
    have hgl : g.1 < ops.size:=by
     unfold guardsOK at hg
     have:=Array.all_eq_true_iff_forall_mem.1 hg o (Array.mem_of_getElem? ho)
     simp only [hgd] at this
     exact Nat.le_of_ble_eq_true this
    have hq:=hp2 g.1 (List.mem_range.2 hgl)
    rw [Bool.and_eq_true] at hq
    have q1 : idxN π g.1 < π.length:=by rw [hlen]; exact Nat.le_of_ble_eq_true hq.1
    have q2 : π.getD (idxN π g.1) 0 = g.1:=Nat.eq_of_beq_eq_true hq.2
    obtain ⟨og, hog⟩ : ∃ o, ops[g.1]? = some o:=⟨ops[g.1], by simp [hgl]⟩
    have hy : yielded (permOps ops isA π) a.tmps (idxN π g.1) = yielded ops a.tmps g.1:=by
     unfold yielded
     rw [permOps_at (ops:=ops) (isA:=isA) q1, q2]
     simp only [renum, hog, Option.bind_some]
    rw [hy]
  rw [hw] at h
  have hrec:=λ a w => ih a w (λ j hj => hi j (by simp [hj]))
  by_cases hwant : Region.wanted o (yielded ops a.tmps) = true
  ·rw [if_pos hwant] at h ⊢
   refine h.imp (λ h => ?_) (λ h => h)
   exact Oper.wp_mono hrec h
  ·rw [if_neg hwant] at h ⊢
   exact hrec _ _ h
theorem wpOps_of_any {Q : Exit -> Act -> World -> Prop} : ∀ (l : List Nat) (fuel : Nat) (listed : Array Bool) (a : Act) (w : World), LinExt ops listed l -> l.length <= fuel -> wpAny P .any ops Q fuel listed a w -> wpOps P ops Q l a w
 | [], fuel, listed, a, w, h, _, hw => by
  cases h with
  | nil hr =>
   cases fuel with
   | zero => exact hw.2
   | succ n => exact hw.1 hr
 | i :: l, fuel, listed, a, w, h, hf, hw => by
  cases h with
  | cons hi hl =>
   obtain ⟨n, rfl⟩ : ∃ n, fuel = n + 1:=⟨fuel - 1, by simp at hf; omega⟩
   rw [wpOps_cons]
   exact wpOp_mono (λ a w h => wpOps_of_any l n _ a w hl (by simpa using hf) h) (hw.2 i hi)
theorem LinExt.lt : ∀ {l : List Nat} {listed : Array Bool}, LinExt ops listed l -> ∀ i ∈ l, i < ops.size
 | [], _, _, i, hi => by cases hi
 | j :: l, listed, h, i, hi => by
  cases h with
  | cons hj hl =>
   rcases List.mem_cons.1 hi with rfl | hi
   ·obtain ⟨_, o, ho, _⟩:=mem_ready.1 hj
    exact (Array.getElem?_eq_some_iff.1 ho).1
   ·exact hl.lt i hi
theorem LinExt.length : ∀ {l : List Nat} {listed : Array Bool}, LinExt ops listed l -> listed.size = ops.size -> l.length <= cn (λ j => !listed.getD j false) ops.size
 | [], _, _, _ => Nat.zero_le _
 | i :: l, listed, h, hs => by
  cases h with
  | cons hi hl =>
   obtain ⟨h0, o, ho, _⟩:=mem_ready.1 hi
   have hlt : i < ops.size:=(Array.getElem?_eq_some_iff.1 ho).1
   rw [getD_lt (by omega)] at h0
   have hset : ∀ j, (listed.setIfInBounds i true).getD j false = (listed.getD j false || j == i):=by
    intro j
    by_cases hji : j = i
    ·subst hji; simp [Array.getD, hs, hlt]
    ·rw [getD_set_ne false (Ne.symm hji)]
     have : (j == i) = false:=by simpa using hji
     simp [this]
   have h1 : cn (λ j => !(listed.setIfInBounds i true).getD j false || j == i) ops.size = cn (λ j => !(listed.setIfInBounds i true).getD j false) ops.size + 1 :=
    cn_add (f:=λ j => !(listed.setIfInBounds i true).getD j false) (i:=i) (by rw [hset]; simp) (k:=ops.size) hlt
   have h2 : cn (λ j => !(listed.setIfInBounds i true).getD j false || j == i) ops.size = cn (λ j => !listed.getD j false) ops.size:=cn_congr λ j _ => by
    rw [hset]
    by_cases hji : j = i
    ·subst hji; simp only [h0]; simp
    ·have : (j == i) = false:=by simpa using hji
     simp [this]
   have:=hl.length (by simp [hs])
   simp only [List.length_cons]
   omega
theorem linExt_perm {π : List Nat} (hp : permOK ops.size π = true) (hedge : edgesOK ops = true) : ∀ (l pre : List Nat) (listed listed' : Array Bool), LinExt ops listed l -> listed.size = ops.size -> listed'.size = ops.size ->
  (∀ k, k < ops.size -> listed'.getD k false = listed.getD (π.getD k 0) false) -> (∀ i, i < ops.size -> (listed.getD i false = true ↔ i ∈ pre)) ->
  (pre ++ l).filter (actAt ops isA) = π.filter (actAt ops isA) -> LinExt (permOps ops isA π) listed' (l.map (idxN π)):=by
 have hp0:=hp
 simp only [permOK, Bool.and_eq_true] at hp
 obtain ⟨⟨hlen, hp1⟩, hp2⟩:=hp
 have hlen:=Nat.eq_of_beq_eq_true hlen
 rw [List.all_eq_true] at hp1 hp2
 have P1 : ∀ k, k < ops.size -> π.getD k 0 < ops.size /\ idxN π (π.getD k 0) = k:=λ k hk => by
  have:=hp1 k (List.mem_range.2 hk)
  rw [Bool.and_eq_true] at this
  exact ⟨Nat.le_of_ble_eq_true this.1, Nat.eq_of_beq_eq_true this.2⟩
 have P2 : ∀ i, i < ops.size -> idxN π i < ops.size /\ π.getD (idxN π i) 0 = i:=λ i hi => by
  have:=hp2 i (List.mem_range.2 hi)
  rw [Bool.and_eq_true] at this
  exact ⟨Nat.le_of_ble_eq_true this.1, Nat.eq_of_beq_eq_true this.2⟩
 have hsz : (permOps ops isA π).size = ops.size:=by simp [permOps, hlen]
 have hE : ∀ i o, ops[i]? = some o -> ∀ e ∈ o.after, Region.binds .any e = true -> e.on < i:=by
  intro i o ho e he hb
  simp only [edgesOK, List.all_eq_true, List.mem_range] at hedge
  have hlt : i < ops.size:=(Array.getElem?_eq_some_iff.1 ho).1
  have:=hedge i hlt
  simp only [ho, List.all_eq_true] at this
  have:=this e (by simpa using he)
  simp only [hb, Bool.not_true, Bool.false_or] at this
  exact Nat.le_of_ble_eq_true this
 intro l
 induction l with
 | nil =>
  intro pre listed listed' h hs hs' hll hpre hf
  cases h with
  | nil hr =>
   refine .nil ?_
   have hall : ∀ j, j < ops.size -> listed.getD j false = true:=by
    intro j
    induction j using Nat.strongRecOn with
    | _ j ih =>
     intro hj
     cases hl : listed.getD j false with
     | true => rfl
     | false =>
      exfalso
      obtain ⟨o, ho⟩ : ∃ o, ops[j]? = some o:=⟨ops[j], by simp [hj]⟩
      have : j ∈ Region.ready .any ops listed:=by
       rw [mem_ready]
       refine ⟨by rw [getD_lt (by omega)]; exact hl, o, ho, λ e he hb => ?_⟩
       have hlt:=hE j o ho e he hb
       exact ih e.on hlt (by omega)
      rw [hr] at this
      cases this
   cases hr' : Region.ready .any (permOps ops isA π) listed' with
   | nil => rfl
   | cons k r =>
    exfalso
    have hk : k ∈ Region.ready .any (permOps ops isA π) listed':=by rw [hr']; simp
    obtain ⟨h0, o, ho, _⟩:=mem_ready.1 hk
    have hlt : k < ops.size:=by rw [<- hsz]; exact (Array.getElem?_eq_some_iff.1 ho).1
    rw [getD_lt (by omega), hll k hlt, hall _ (P1 k hlt).1] at h0
    cases h0
 | cons i l ih =>
  intro pre listed listed' h hs hs' hll hpre hf
  cases h with
  | cons hi hl =>
   obtain ⟨h0, o, ho, hdeps⟩:=mem_ready.1 hi
   have hlt : i < ops.size:=(Array.getElem?_eq_some_iff.1 ho).1
   rw [getD_lt (by omega)] at h0
   obtain ⟨hk, hki⟩:=P2 i hlt
   have hset : ∀ j, (listed.setIfInBounds i true).getD j false = (listed.getD j false || j == i):=by
    intro j
    by_cases hji : j = i
    ·subst hji; simp [Array.getD, hs, hlt]
    ·rw [getD_set_ne false (Ne.symm hji)]
     have : (j == i) = false:=by simpa using hji
     simp [this]
   have hset' : ∀ j, (listed'.setIfInBounds (idxN π i) true).getD j false = (listed'.getD j false || j == idxN π i):=by
    intro j
    by_cases hji : j = idxN π i
    ·subst hji; simp [Array.getD, hs', hk]
    ·rw [getD_set_ne false (Ne.symm hji)]
     have : (j == idxN π i) = false:=by simpa using hji
     simp [this]
   rw [List.map_cons]
   refine .cons ?_ (ih (pre ++ [i]) _ _ hl (by simp [hs]) (by simp [hs']) (λ k hk' => ?_) (λ j hj => ?_) (by simpa using hf))
   ·rw [mem_ready]
    have hat:=permOps_at (ops:=ops) (isA:=isA) (π:=π) (k:=idxN π i) (by rw [hlen]; exact hk)
    rw [hki] at hat
    refine ⟨by rw [getD_lt (by omega), hll _ hk, hki]; exact h0, _, hat, λ e he hb => ?_⟩
    simp only [renum, ho, List.mem_toArray, List.mem_append, List.mem_map, List.mem_filter] at he
    rcases he with ⟨e', ⟨he', hb'⟩, rfl⟩ | he
    ·have hlt':=hE i o ho e' (by simpa using he') hb'
     obtain ⟨q1, q2⟩:=P2 e'.on (by omega)
     rw [hll _ q1, q2]
     exact hdeps e' (by simpa using he') hb'
    ·cases hA : isA o with
     | false => simp [hA] at he
     | true =>
      simp only [hA, cond_true, List.mem_map, List.mem_filter, List.mem_range] at he
      obtain ⟨m, ⟨hm, hma⟩, rfl⟩:=he
      have hm' : m < ops.size:=by omega
      rw [hll m hm', hpre _ (P1 m hm').1]
      have hia : actAt ops isA i = true:=by simp [actAt, ho, hA]
      have e1 : π.filter (actAt ops isA) = (pre.filter (actAt ops isA)) ++ i :: l.filter (actAt ops isA):=by
       rw [<- hf, List.filter_append, List.filter_cons_of_pos hia]
      have hipre : i ∉ pre:=λ hh => by
       have:=(hpre i hlt).2 hh
       rw [h0] at this; cases this
      have hsplit : π = π.take (idxN π i) ++ i :: π.drop (idxN π i + 1):=by
       have hk2 : idxN π i < π.length:=by rw [hlen]; exact hk
       have : π[idxN π i] = i:=by
        have:=hki
        simp [List.getD, hk2] at this
        exact this
       conv => lhs; rw [<- List.take_append_drop (idxN π i) π]
       rw [List.drop_eq_getElem_cons hk2, this]
      have hnot : i ∉ π.take (idxN π i):=by
       intro hh
       obtain ⟨j, hj, he⟩:=List.getElem_of_mem hh
       simp only [List.length_take] at hj
       have hj2 : j < π.length:=by omega
       have hj3 : π.getD j 0 = i:=by
        simp only [List.getElem_take] at he
        simp [List.getD, hj2, he]
       have:=(P1 j (by omega)).2
       rw [hj3] at this
       omega
      have e2 : π.filter (actAt ops isA) = ((π.take (idxN π i)).filter (actAt ops isA)) ++ i :: (π.drop (idxN π i + 1)).filter (actAt ops isA):=by
       conv => lhs; rw [hsplit]
       rw [List.filter_append, List.filter_cons_of_pos hia]
      rw [e1] at e2
      have hmem : π.getD m 0 ∈ (π.take (idxN π i)).filter (actAt ops isA):=by
       rw [List.mem_filter]
       refine ⟨?_, hma⟩
       have hm2 : m < π.length:=by omega
       rw [show π.getD m 0 = (π.take (idxN π i))[m]'(by simp; omega) by simp [List.getD, hm2]]
       exact List.getElem_mem _
      have cut : ∀ (x y u v : List Nat), i ∉ x -> i ∉ u -> x ++ i :: y = u ++ i :: v -> x = u:=by
       intro x
       induction x with
       | nil =>
        intro y u v _ hu he
        cases u with
        | nil => rfl
        | cons z u => simp at he; exact absurd he.1 (λ h => hu (by simp [h]))
       | cons z x ihx =>
        intro y u v hx hu he
        cases u with
        | nil => simp at he; exact absurd he.1 (λ h => hx (by simp [h]))
        | cons z' u =>
         simp at he
         obtain ⟨rfl, he⟩:=he
         rw [ihx y u v (λ h => hx (by simp [h])) (λ h => hu (by simp [h])) he]
      have:=cut _ _ _ _ (λ h => hipre (List.mem_filter.1 h).1) (λ h => hnot (List.mem_filter.1 h).1) e2
      rw [<- this] at hmem
      exact (List.mem_filter.1 hmem).1
   ·rw [hset', hset, hll k hk']
    congr 1
    by_cases hki' : k = idxN π i
    ·subst hki'; rw [hki]; simp
    ·have h1 : (k == idxN π i) = false:=by simpa using hki'
     have h2 : (π.getD k 0 == i) = false:=by
      simp only [beq_eq_false_iff_ne]
      intro he
      have:=(P1 k hk').2
      rw [he] at this
      exact hki' this.symm
     rw [h1, h2]
   ·rw [hset, Bool.or_eq_true, hpre j hj, List.mem_append, List.mem_singleton, beq_iff_eq]
end
end Go.Lift
