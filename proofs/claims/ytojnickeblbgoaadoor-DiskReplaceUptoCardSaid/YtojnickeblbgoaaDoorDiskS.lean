/-
  Layer 1 (disk), part S: the walk of DiskReplace.
-/
import Derived.Test.YtojnickeblbgoaaDoorDiskR
import Derived.Test.YtojnickeblbgoaaDoorLiftV
import Derived.Test.YtojnickeblbgoaaDoorRows
namespace Go.Proofs.YtojnickeblbgoaaDoor
open Go.Lift
set_option linter.unusedSimpArgs false
set_option maxHeartbeats 4000000

structure Cut where
  data : ByteArray
  k : Int
  keep : Int
  torn : Int
def Cut.cells (c : Cut) : List Value := [.string c.data, .int .i64 c.k, .int .i64 c.keep, .int .i64 c.torn]
def Cut.ok (c : Cut) : Prop := c.data.size ≤ 1048576 ∧ c.k < 9223372036854775808
theorem Cut.all (c : Cut) : c.cells.all isCell = true := by simp [Cut.cells]
section
variable {w : World}
theorem init_run {old : ByteArray} (ho : old.size ≤ 1048576) {b : Nat} {d : Dk} {v : DV} {tag : Nat → Nat} (h : DA w b d v tag) (ha : At d none st0) {Q : Value → World → Prop} {K : Value → M Value}
    (q : ∀ d' w', DDid w w' b tag d' → Calm 2 d' old → Run (K (.bool false)) w' Q) :
    Run (M.bind (F.disk_Disk_Create (Ptr b) (.string LT)) fun x24 =>
          M.bind (M.ret x24) fun x25 =>
          bindO (binV BinOp.neq x25 (.int .i64 0)) fun x26 =>
          M.bind (guardM x26 false (M.ret (Ptr b))) fun x27 =>
          M.bind (guardM x26 false (M.ret (.string old))) fun x28 =>
          M.bind (guardM x26 false (F.disk_Disk_Append x27 (.string LT) x28)) fun x29 =>
          M.bind (guardM x26 false (M.ret x29)) fun x30 =>
          M.bind (guardM x26 false (optM (binV BinOp.neq x30 (.int .i64 0)))) fun x31 =>
          bindO (pickV x26 (Value.bool true) x31) fun x32 =>
          M.bind (guardM x32 false (M.ret (Ptr b))) fun x33 =>
          M.bind (guardM x32 false (F.disk_Disk_Sync x33 (.string LT))) fun x34 =>
          M.bind (guardM x32 false (M.ret x34)) fun x35 =>
          M.bind (guardM x32 false (optM (binV BinOp.neq x35 (.int .i64 0)))) fun x36 =>
          bindO (pickV x32 (Value.bool true) x36) fun x37 =>
          M.bind (guardM x37 false (M.ret (Ptr b))) fun x38 =>
          M.bind (guardM x37 false (F.disk_Disk_SyncDir x38 (.string E0))) fun x39 =>
          M.bind (guardM x37 false (M.ret x39)) fun x40 =>
          M.bind (guardM x37 false (optM (binV BinOp.neq x40 (.int .i64 0)))) fun x41 =>
          bindO (pickV x37 (Value.bool true) x41) K) w Q := by
  simp only [Run_bind]
  refine (new1 h ha).mono ?_
  rintro _ w1 ⟨y1, rfl, a1, f1, v1, tag1, h1, t1⟩
  obtain ⟨e1, a1⟩ := a1.2 (by simp)
  simp [-ldA_ptr, e1]
  refine (new2 ho h1 a1).mono ?_
  rintro _ w2 ⟨y2, rfl, a2, f2, v2, tag2, h2, t2⟩
  obtain ⟨e2, a2⟩ := a2.2 (by simp)
  simp [-ldA_ptr, e2]
  refine (new3 ho h2 a2).mono ?_
  rintro _ w3 ⟨y3, rfl, a3, f3, v3, tag3, h3, t3⟩
  obtain ⟨e3, a3⟩ := a3.2 (by simp)
  simp [-ldA_ptr, e3]
  refine (new4 ho h3 a3).mono ?_
  rintro _ w4 ⟨y4, rfl, a4, h4⟩
  obtain ⟨e4, a4⟩ := a4.2 (by simp)
  simp [-ldA_ptr, e4]
  exact q _ _ (DDid.trans h.bound f1 t1 (DDid.trans h1.bound f2 t2 (DDid.trans h2.bound f3 t3 h4))) (new_calm ho a4)
/-- What a go begins with: the disk is at rest; the old 'latest.new' is taken away. -/
theorem clear_run {old data : ByteArray} {L : Nat} {b : Nat} {d : Dk} {v : DV} {tag : Nat → Nat} (h : DA w b d v tag) (hc : Calm L d old) (hM : L ≤ 16777214) (hd : data.size ≤ 1048576) {β : Type} {Q : β → World → Prop} {K : Value → M β}
    (q : ∀ d' w' N S P f, DDid w w' b tag d' → At d' none ⟨N, S, d.kept, P⟩ → Go N S d.kept P data → Sf 1048576 f old (N, d.kept) → N.length ≤ L → Run (K (.bool false)) w' Q) :
    Run (M.bind (F.disk_Disk_Kind (Ptr b) (.string LN)) fun x50 =>
          bindO (extV 0 x50) fun _ =>
          bindO (extV 1 x50) fun x52 =>
          M.bind (M.ret x52) fun x53 =>
          bindO (binV BinOp.eql x53 (.int .i64 0)) fun x54 =>
          M.bind (guardM x54 true (M.ret (Ptr b))) fun x55 =>
          M.bind (guardM x54 true (F.disk_Disk_Remove x55 (.string LN))) fun x56 =>
          M.bind (guardM x54 true (M.ret x56)) fun x57 =>
          M.bind (guardM x54 true (optM (binV BinOp.neq x57 (.int .i64 0)))) fun x58 =>
          bindO (pickV x54 x58 (Value.bool false)) K) w Q := by
  simp only [Run_bind]
  obtain ⟨f, nd, hf, _⟩ := hc.file
  cases hn : d.kept kN with
  | none =>
    refine (kind_no h hc (by omega) hn).mono ?_
    rintro _ w1 ⟨rfl, f1⟩
    simp
    exact q d w1 _ _ _ f ((h.fr0 f1).did (f1.mono fun _ h => h.elim)) hc.atd (hc.go0 hM hn hd) hf hc.len
  | some k =>
    refine (kind_yes h hc (by omega) hn).mono ?_
    rintro _ w1 ⟨rfl, f1⟩
    simp
    refine (remove_step (h.fr0 f1) hc (by omega) hn).mono ?_
    rintro _ w2 ⟨rfl, d2, h2, a2⟩
    simp
    exact q d2 w2 _ _ _ f (h2.pre f1) a2 (hc.go1 hM hd) hf hc.len
end
end Go.Proofs.YtojnickeblbgoaaDoor
