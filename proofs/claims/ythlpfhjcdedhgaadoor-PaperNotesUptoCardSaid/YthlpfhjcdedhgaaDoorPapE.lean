/-
  Layer 4 (paper): part E: a number's digits: formatBase10 comes to an end, whatever it is handed.
-/
import Derived.Test.YthlpfhjcdedhgaaDoorPapD
namespace Go.Proofs.YthlpfhjcdedhgaaDoor
open Go.Lift
set_option linter.unusedSimpArgs false
set_option linter.unusedVariables false
set_option maxHeartbeats 4000000
section
variable {w w1 w2 : World}
/-- A row of n bytes that may be written. -/
def Row (w : World) (v : Value) (n : Nat) : Prop := ∃ l : List UInt8, l.length = n ∧ SlW 1 w v (l.map fun b => [by8 b])
theorem Row.drew {v : Value} {n : Nat} (h : Row w v n) : Row w.drew v n := h
theorem Run_put {β : Type} {a0 : Value} {n : Nat} (h : Row w a0 n) {i : Int} (h0 : 0 ≤ i) (hi : i < n) {kd : IntKind} (b : UInt8) {K : M β} {Q : β → World → Prop} (q : ∀ w', Row w' a0 n → Run K w' Q) :
    Run (bindO (idxA 1 a0 (.int kd i)) fun p => M.bind (stM 1 p (by8 b)) fun _ => K) w Q := by
  obtain ⟨l, hl, hs⟩ := h
  obtain ⟨j, rfl⟩ : ∃ j : Nat, i = j := ⟨i.toNat, by omega⟩
  obtain ⟨y, hy⟩ : ∃ y, l[j]? = some y := ⟨l[j]'(by omega), List.getElem?_eq_getElem _⟩
  obtain ⟨bl, o, e1, _, _, ok, hp⟩ := hs.put (i := j) (e := [by8 y]) (by simp [hy]) kd
  have e1' : idxA 1 a0 (.int kd (j : Int)) = some (.pointer (some ⟨bl, o, none⟩)) := e1
  rw [e1', Run_bindO_some, Run_bind, Run_stM (by rfl) (by rfl) ok]
  refine q _ ⟨l.set j b, by rw [List.length_set]; exact hl, ?_⟩
  have := (hp 0 [by8 b] (by simp)).2
  rw [List.map_set]
  exact this
def DDS : ByteArray := ByteArray.mk #[48, 48, 48, 49, 48, 50, 48, 51, 48, 52, 48, 53, 48, 54, 48, 55, 48, 56, 48, 57, 49, 48, 49, 49, 49, 50, 49, 51, 49, 52, 49, 53, 49, 54, 49, 55, 49, 56, 49, 57, 50, 48, 50, 49, 50, 50, 50, 51, 50, 52, 50, 53, 50, 54, 50, 55, 50, 56, 50, 57, 51, 48, 51, 49, 51, 50, 51, 51, 51, 52, 51, 53, 51, 54, 51, 55, 51, 56, 51, 57, 52, 48, 52, 49, 52, 50, 52, 51, 52, 52, 52, 53, 52, 54, 52, 55, 52, 56, 52, 57, 53, 48, 53, 49, 53, 50, 53, 51, 53, 52, 53, 53, 53, 54, 53, 55, 53, 56, 53, 57, 54, 48, 54, 49, 54, 50, 54, 51, 54, 52, 54, 53, 54, 54, 54, 55, 54, 56, 54, 57, 55, 48, 55, 49, 55, 50, 55, 51, 55, 52, 55, 53, 55, 54, 55, 55, 55, 56, 55, 57, 56, 48, 56, 49, 56, 50, 56, 51, 56, 52, 56, 53, 56, 54, 56, 55, 56, 56, 56, 57, 57, 48, 57, 49, 57, 50, 57, 51, 57, 52, 57, 53, 57, 54, 57, 55, 57, 56, 57, 57]
theorem idxD {k : IntKind} {i : Nat} (h : i < 200) : ∃ b : UInt8, idxS (.string DDS) (.int k (i : Int)) = some (by8 b) := by
  have hs : DDS.size = 200 := by decide +kernel
  have h' : i < DDS.size := by omega
  exact ⟨DDS[i], by simp [idxS, h', by8]⟩
theorem i64I {a : Int} (h0 : 0 ≤ a) (h : a < 9223372036854775808) : IntKind.i64.wrap a = a := by simp [IntKind.wrap, IntKind.bits, IntKind.signed]; omega
theorem subI {i c : Int} (h0 : 0 ≤ i - c) (h : i - c < 9223372036854775808) : binV .sub (.int .i64 i) (.int .i64 c) = some (.int .i64 (i - c)) := by
  simp only [binV_int, intBin_sub, i64I h0 h]
theorem q100 {a : Nat} (h : a < 4294967296) : binV .quo (.int .u32 (a : Int)) (.int .u32 100) = some (.int .u32 ((a / 100 : Nat) : Int)) := quo_nat (b := 100) (by decide) (u32W (by omega))
theorem r100 {a : Nat} : binV .rem (.int .u32 (a : Int)) (.int .u32 100) = some (.int .u32 ((a % 100 : Nat) : Int)) := rem_nat (b := 100) (by decide)
theorem q10000 {a : Nat} (h : a < 4294967296) : binV .quo (.int .u32 (a : Int)) (.int .u32 10000) = some (.int .u32 ((a / 10000 : Nat) : Int)) := quo_nat (b := 10000) (by decide) (u32W (by omega))
theorem r10000 {a : Nat} : binV .rem (.int .u32 (a : Int)) (.int .u32 10000) = some (.int .u32 ((a % 10000 : Nat) : Int)) := rem_nat (b := 10000) (by decide)
theorem q1e8 {a : Nat} (h : a < 18446744073709551616) : binV .quo (.int .u64 (a : Int)) (.int .u64 100000000) = some (.int .u64 ((a / 100000000 : Nat) : Int)) := quo_nat (b := 100000000) (by decide) (u64W (by omega))
theorem r1e8 {a : Nat} : binV .rem (.int .u64 (a : Int)) (.int .u64 100000000) = some (.int .u64 ((a % 100000000 : Nat) : Int)) := rem_nat (b := 100000000) (by decide)
theorem m2 {a : Nat} (h : a < 100) : binV .mul (.int .u32 (a : Int)) (.int .u32 2) = some (.int .u32 ((a * 2 : Nat) : Int)) := by
  have e : (a : Int) * 2 = ((a * 2 : Nat) : Int) := by omega
  simp only [binV_int, intBin_mul]
  rw [e, u32W (by omega)]
theorem a1_ {a : Nat} (h : a < 4294967295) : binV .add (.int .u32 (a : Int)) (.int .u32 1) = some (.int .u32 ((a + 1 : Nat) : Int)) := by
  have e : (a : Int) + 1 = ((a + 1 : Nat) : Int) := by omega
  simp only [binV_int, intBin_add]
  rw [e, u32W (by omega)]
/-- Two digits. -/
theorem Run_two {β : Type} {a0 : Value} {n : Nat} (h : Row w a0 n) {i c1 c2 : Int} {d : Nat} (hi : i ≤ n) (hn : n < 4611686018427387904) (h1 : 1 ≤ c1 ∧ c1 ≤ i) (h2 : 1 ≤ c2 ∧ c2 ≤ i) (hd : d + 1 < 200) {K : M β} {Q : β → World → Prop} (q : ∀ w', Row w' a0 n → Run K w' Q) :
    Run (drewM <|
      bindO (binV BinOp.sub (.int .i64 i) (Value.int IntKind.i64 c1)) fun x17 =>
      bindO (binV BinOp.sub (.int .i64 i) (Value.int IntKind.i64 c2)) fun x18 =>
      bindO (binV BinOp.add (.int .u32 (d : Int)) (Value.int IntKind.u32 1)) fun x19 =>
      bindO (idxS (Value.string DDS) x19) fun x20 =>
      bindO (idxS (Value.string DDS) (.int .u32 (d : Int))) fun x21 =>
      bindO (idxA 1 a0 x17) fun x22 =>
      M.bind (stM 1 x22 x20) fun _ =>
      bindO (idxA 1 a0 x18) fun x24 =>
      M.bind (stM 1 x24 x21) fun _ => K) w Q := by
  obtain ⟨b1, e1⟩ := idxD (k := .u32) (i := d + 1) hd
  obtain ⟨b2, e2⟩ := idxD (k := .u32) (i := d) (by omega)
  rw [Run_drewM, subI (by omega) (by omega), Run_bindO_some, subI (by omega) (by omega), Run_bindO_some, a1_ (by omega), Run_bindO_some, e1, Run_bindO_some, e2, Run_bindO_some]
  exact Run_put h.drew (by omega) (by omega) b1 fun w1 h1 => Run_put h1 (by omega) (by omega) b2 q
end
end Go.Proofs.YthlpfhjcdedhgaaDoor
