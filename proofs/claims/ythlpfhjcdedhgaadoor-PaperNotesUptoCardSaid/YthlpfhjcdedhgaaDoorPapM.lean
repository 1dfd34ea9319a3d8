/-
  Layer 4 (paper): part M: a sum that is read.
-/
import Derived.Test.YthlpfhjcdedhgaaDoorPapL
namespace Go.Proofs.YthlpfhjcdedhgaaDoor
open Go.Lift Go.Sort
set_option linter.unusedSimpArgs false
set_option linter.unusedVariables false
set_option maxHeartbeats 4000000
def valB (l : List UInt8) : Nat := l.foldl (fun a c => 256 * a + c.toNat) 0
theorem valB_snoc (l : List UInt8) (c : UInt8) : valB (l ++ [c]) = 256 * valB l + c.toNat := by
  unfold valB
  rw [List.foldl_append]; rfl
theorem valB_foldl : ∀ (l : List UInt8) (a k : Nat), a < 256 ^ k → l.foldl (fun a c => 256 * a + c.toNat) a < 256 ^ (k + l.length)
  | [], a, k, h => h
  | c :: l, a, k, h => by
    have := valB_foldl l (256 * a + c.toNat) (k + 1) (by rw [Nat.pow_succ]; have := c.toNat_lt; omega)
    rw [List.length_cons, show k + (l.length + 1) = k + 1 + l.length by omega]
    exact this
theorem valB_lt (l : List UInt8) : valB l < 256 ^ l.length := by
  have := valB_foldl l 0 0 (by decide)
  rwa [Nat.zero_add] at this
/-- The sum that a text is. -/
def sumF (l : List UInt8) : Option Nat := if l.length = 8 then (pairsF l 4).map valB else none
section
variable {w w1 w2 : World}
theorem shl8 {m : Nat} (h : m < 16777216) : shV .shl (.int .i64 (m : Int)) (.int .u64 8) = some (.int .i64 ((256 * m : Nat) : Int)) := by
  have h0 : ¬ ((8 : Int) < 0) := by omega
  simp only [shV, h0, if_false]
  have e : (m : Int) * 2 ^ (min (8 : Int).toNat IntKind.i64.bits) = ((256 * m : Nat) : Int) := by
    have : min (8 : Int).toNat IntKind.i64.bits = 8 := by decide
    rw [this]; omega
  rw [e, i64W (by omega)]
theorem or64 {m d : Nat} (h : m < 16777216) (hd : d < 256) : intBin .or .i64 ((256 * m : Nat) : Int) (d : Int) = some (.int .i64 ((256 * m + d : Nat) : Int)) := by
  simp only [intBin]
  have e : (BitVec.ofInt IntKind.i64.bits ((256 * m : Nat) : Int) ||| BitVec.ofInt IntKind.i64.bits (d : Int)).toNat = 256 * m + d := by
    rw [BitVec.toNat_or, BitVec.ofInt_natCast, BitVec.ofInt_natCast, BitVec.toNat_ofNat, BitVec.toNat_ofNat]
    show 256 * m % 2 ^ 64 ||| d % 2 ^ 64 = _
    rw [Nat.mod_eq_of_lt (show 256 * m < 2 ^ 64 by omega), Nat.mod_eq_of_lt (show d < 2 ^ 64 by omega)]
    have := Nat.two_pow_add_eq_or_of_lt (i := 8) (b := d) (by omega) m
    rw [show (2 : Nat) ^ 8 = 256 from rfl] at this
    exact this.symm
  rw [e, i64W (by omega)]
theorem punhex_run {l : List UInt8} {n : Nat} (hn : n ≤ 1048576) (hl : l.length ≤ 4611686018427387904) :
    Run (F.paper_unhex (.string (sb l)) (.int .i64 (n : Int))) w fun r w' => r = (match (if l.length = 2 * n then pairsF l n else none) with
      | some b => .tuple #[.string (sb b), .bool true]
      | none => .tuple #[.string (sb []), .bool false]) ∧ Fr (fun _ => False) w w' := by
  unfold F.paper_unhex
  have e0 : ByteArray.mk #[] = sb [] := rfl
  rw [e0]
  have m2' : IntKind.i64.wrap (2 * (n : Int)) = ((2 * n : Nat) : Int) := by rw [show 2 * (n : Int) = ((2 * n : Nat) : Int) by omega]; exact i64W (by omega)
  by_cases h : l.length = 2 * n
  · have h' : ((l.length : Nat) : Int) = ((2 * n : Nat) : Int) := by omega
    rw [if_pos h]
    rw [lenS_string, sb_size]
    simp only [Run_bindO_some, binV_int, intBin_mul, m2', intBin_neq, h', Run_bind]
    simp only [decide_true, Bool.not_true, Run_condM_false, Run_bind]
    refine (unhex_run h hn).mono ?_
    rintro r w1 ⟨rfl, f1⟩
    cases pairsF l n with
    | some b => simp [f1]
    | none => simp [f1]
  · have h' : ¬ ((l.length : Nat) : Int) = ((2 * n : Nat) : Int) := by omega
    rw [if_neg h]
    rw [lenS_string, sb_size]
    simp only [Run_bindO_some, binV_int, intBin_mul, m2', intBin_neq, h', decide_false, Bool.not_false, Run_condM_true, Run_ret]
    exact ⟨trivial, Fr.refl _ _⟩
theorem sumOf_run {l : List UInt8} (hl : l.length ≤ 4611686018427387904) : Run (F.paper_sumOf (.string (sb l))) w fun r w' => r = numV (sumF l) ∧ Fr (fun _ => False) w w' := by
  unfold F.paper_sumOf
  rw [Run_bind]
  refine (punhex_run (n := 4) (by decide) hl).mono ?_
  have key : ∀ (b : List UInt8) (ok : Bool), b.length ≤ 4 → ∀ w1, Fr (fun _ => False) w w1 → Run (M.bind (sbM 5 (.string (sb b))) fun x4 =>
      bindO (lenL x4) fun x5 =>
      M.bind (loopM (fun l6 =>
        bindO (binV BinOp.lss (getL l6 1) x5) fun x7 =>
        condM x7 (
          bindO (idxA 1 x4 (getL l6 1)) fun x8 =>
          M.bind (rdM (ld1 x8)) fun x9 =>
          bindO (shV BinOp.shl (getL l6 0) (Value.int IntKind.u64 8)) fun x10 =>
          bindO (cvtI IntKind.i64 x9) fun x11 =>
          bindO (binV BinOp.or x10 x11) fun x12 =>
          bindO (binV BinOp.add (getL l6 1) (Value.int IntKind.i64 1)) fun x13 =>
          M.ret (Out.norm [x12, x13])) (
          M.ret (Out.exit 0 [(getL l6 0), (getL l6 1)]))) [(Value.int IntKind.i64 0), (Value.int IntKind.i64 0)]) fun o15 =>
      outK o15 (fun _ => M.fail) (fun k16 l14 =>
        bif Nat.beq k16 0 then (
          M.ret (Value.tuple #[(getL l14 0), .bool ok])) else
        M.fail) (fun r17 => M.ret r17)) w1 fun r w' => r = .tuple #[.int .i64 ((valB b : Nat) : Int), .bool ok] ∧ Fr (fun _ => False) w w' := by
    intro b ok hb w1 f1
    rw [Run_bind]
    refine Run_sbM fun r w2 hr f2 _ => ?_
    have hlen := hr.1.lenL
    rw [List.length_map] at hlen
    have hlen' : lenL r = some (.int .i64 (b.length : Int)) := hlen
    rw [hlen', Run_bindO_some, Run_bind]
    refine Run_for b.length (fun i L' w' => L' = [.int .i64 ((valB (b.take i) : Nat) : Int), .int .i64 (i : Int)] ∧ w' = w2) ⟨rfl, rfl⟩ ?_ ?_
    · rintro i L' w3 hi ⟨rfl, hw3⟩
      rw [hw3]
      obtain ⟨c, hc⟩ : ∃ c, b[i]? = some c := ⟨_, List.getElem?_eq_getElem hi⟩
      obtain ⟨p, p1, p2⟩ := hr.1.rd1 (i := i) (y := by8 c) (by simp [sb, hc, by8]) .i64
      have p1' : idxA 1 r (.int .i64 (i : Int)) = some p := p1
      have hv := valB_snoc (b.take i) c
      rw [← take_snocP hc] at hv
      have hlt := valB_lt (b.take i)
      have hp : 256 ^ (b.take i).length ≤ 256 ^ 3 := Nat.pow_le_pow_right (by decide) (by rw [List.length_take]; omega)
      have hil : (i : Int) < b.length := by omega
      have wi := wrap_succ' (n := i) (by omega)
      have hct := c.toNat_lt
      have wc : IntKind.i64.wrap (c.toNat : Int) = c.toNat := i64W (by omega)
      rw [getL_succ, getL_zero, lssT hil, Run_bindO_some, Run_condM_true, p1', Run_bindO_some, Run_bind, Run_rdM]
      refine ⟨_, p2, ?_⟩
      have e16 : (256 : Nat) ^ 3 = 16777216 := by decide
      rw [e16] at hp
      rw [getL_zero, shl8 (by omega), Run_bindO_some]
      simp only [by8, cvtI_int, wc, Run_bindO_some, binV_int, or64 (show valB (b.take i) < 16777216 by omega) hct, intBin_add, wi, Run_ret]
      rw [hv]
      exact ⟨rfl, trivial⟩
    · rintro L' w3 ⟨rfl, hw3⟩
      rw [hw3]
      have hn : ¬ ((b.length : Nat) : Int) < b.length := by omega
      rw [getL_succ, getL_zero, lssF hn, Run_bindO_some, Run_condM_false, Run_ret]
      simp only [outK_exit]
      rw [show Nat.beq 0 0 = true from rfl, cond_true, Run_ret, List.take_length]
      exact ⟨rfl, f1.trans f2 fun _ _ => id⟩
  have e8 : (2 * 4 : Nat) = 8 := rfl
  unfold sumF
  rw [e8]
  by_cases h8 : l.length = 8
  · rw [if_pos h8, if_pos h8]
    cases hp : pairsF l 4 with
    | some b =>
      rintro r w1 ⟨rfl, f1⟩
      have := key b true (by rw [pairsF_len hp]; decide) w1 f1
      simp only [extV_tuple]
      exact this
    | none =>
      rintro r w1 ⟨rfl, f1⟩
      exact key [] false (by decide) w1 f1
  · rw [if_neg h8, if_neg h8]
    rintro r w1 ⟨rfl, f1⟩
    exact key [] false (by decide) w1 f1
end
end Go.Proofs.YthlpfhjcdedhgaaDoor
