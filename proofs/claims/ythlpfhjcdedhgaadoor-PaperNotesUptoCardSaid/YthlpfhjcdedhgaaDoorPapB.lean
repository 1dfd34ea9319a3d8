/-
  Layer 4 (paper): part B: eight digits of a sum, on both sides.
-/
import Derived.Test.YthlpfhjcdedhgaaDoorPapA
namespace Go.Proofs.YthlpfhjcdedhgaaDoor
open Go.Lift
set_option linter.unusedSimpArgs false
set_option linter.unusedVariables false
set_option maxHeartbeats 4000000
def by8 (b : UInt8) : Value := .int .u8 b.toNat
theorem bytesV_by8 : ∀ (l : List UInt8), bytesV (l.map by8) = some l
  | [] => rfl
  | b :: l => by
    have ih := bytesV_by8 l
    show bytesV (Value.int .u8 (b.toNat : Int) :: l.map by8) = _
    unfold bytesV
    simp [ih]
theorem by8_cell (b : UInt8) : isCell (by8 b) = true := rfl
def DIG : ByteArray := ByteArray.mk #[48, 49, 50, 51, 52, 53, 54, 55, 56, 57, 97, 98, 99, 100, 101, 102]
def hexd (k : Nat) : UInt8 := (DIG.data.toList[k]?).getD 0
theorem idx_DIG {k : IntKind} {i : Nat} (h : i < 16) : idxS (.string DIG) (.int k i) = some (by8 (hexd i)) := by
  have hs : DIG.size = 16 := by decide +kernel
  have h' : i < DIG.size := by omega
  have e : DIG[i] = hexd i := by
    unfold hexd
    rw [List.getElem?_eq_getElem (show i < DIG.data.toList.length by rw [Array.length_toList]; exact h')]
    rfl
  simp [idxS, h', e, by8]
/-- The last k digits. -/
def lowD (n : Nat) : Nat → List UInt8
  | 0 => []
  | k + 1 => hexd (n / 16 ^ k % 16) :: lowD n k
theorem lowD_len (n : Nat) : ∀ k, (lowD n k).length = k
  | 0 => rfl
  | k + 1 => by simp [lowD, lowD_len n k]
def eightL (n : Nat) : List UInt8 := lowD n 8
def eightS (n : Nat) : ByteArray := ⟨(eightL n).toArray⟩
theorem eightS_size (n : Nat) : (eightS n).size = 8 := by
  show (eightL n).toArray.size = 8
  rw [List.size_toArray]; exact lowD_len n 8
section
variable {w w1 w2 : World}
/-- The first digits, from the highest on. -/
def topD (n : Nat) : Nat → List UInt8
  | 0 => []
  | k + 1 => topD n k ++ [hexd (n / 16 ^ (7 - k) % 16)]
theorem topD_eight (n : Nat) : topD n 8 = eightL n := by simp [topD, eightL, lowD]
theorem topD_len (n : Nat) : ∀ k, (topD n k).length = k
  | 0 => rfl
  | k + 1 => by simp [topD, topD_len n k]
/-- A row of bytes of one's own. -/
structure OwnB (w w1 : World) (v : Value) (l : List UInt8) : Prop where
  sl : SlW 1 w1 v (l.map fun b => [by8 b])
  fresh : ∀ c, inB v c → w.heap.size ≤ c ∧ c < w1.heap.size
  fr : Fr (fun _ => False) w w1
theorem OwnB.nil (w : World) : OwnB w w (.slice none 0 0) [] := ⟨SlW.nil _ _, fun _ h => h.elim, Fr.refl _ _⟩
theorem ownB_app {v : Value} {l : List UInt8} (h : OwnB w w1 v l) (b : UInt8) {a1 a2 : Nat} (hl : l.length ≤ 33554432) {K : Value → World → Prop} (q : ∀ r w2, OwnB w w2 r (l ++ [b]) → K r w2) :
    Run (bslM a1 1 (Builtin.zeroCells #[(Value.int IntKind.u8 0)] 1) [(0, 1, by8 b)]) w1 fun a w2 => Run (appM a2 1 1 #[(Value.int IntKind.u8 0)] v a) w2 fun r w' => K r w' := by
  refine Run_app1 (K := fun _ r w' => K r w') (k := 1) (y := by8 b) rfl h.sl (by decide) rfl (by decide) rfl (by simp only [List.length_map]; omega) fun r w2 hr f2 hin w3 f3 => q r w2 ?_
  have s := f2.size
  refine ⟨by simpa [by8] using hr, fun c hc => ?_, h.fr.new f2 fun c hc => (h.fresh c hc).1⟩
  have s0 := h.fr.size
  rcases hin c hc with hc | hc
  · have := h.fresh c hc; omega
  · omega
theorem ownB_text {v : Value} {l : List UInt8} (h : Sl 1 w1 v (l.map fun b => [by8 b])) : bsR v w1 = some (.string ⟨l.toArray⟩) := by
  obtain ⟨a, c, e, hc⟩ := h.2
  have hfl : (l.map fun b => [by8 b]).flatten = l.map by8 := by
    clear h e hc
    induction l with
    | nil => rfl
    | cons b l ih => simp only [List.map_cons, List.flatten_cons, ih]; rfl
  rw [e] at h ⊢
  have hn := ldN_sl h
  rw [hfl] at hn
  cases a with
  | none =>
    rcases hc.2 with hc' | ⟨b, o, l', h4, _⟩
    · have : l = [] := by
        have := hc.1
        rw [List.length_map] at this
        exact List.eq_nil_of_length_eq_zero (by omega)
      subst this; rfl
    · cases h4
  | some ad =>
    simp only [firstN, List.length_map, Nat.mul_one] at hn
    simp only [bsR, List.length_map, hn, bytesV_by8]
theorem eight_run (n : Nat) (hn : n < 4294967296) : Run (F.granaryref4_eight (.int .i64 n)) w fun r w' => r = .string (eightS n) ∧ Fr (fun _ => False) w w' := by
  unfold F.granaryref4_eight
  have eD : ByteArray.mk #[48, 49, 50, 51, 52, 53, 54, 55, 56, 57, 97, 98, 99, 100, 101, 102] = DIG := rfl
  rw [eD]
  simp only [Run_bind]
  refine Run_for 8 (fun i L w' => ∃ m, L = [m, .int .i64 (7 - (i : Int))] ∧ OwnB w w' m (topD n i)) ⟨_, rfl, OwnB.nil w⟩ ?_ ?_
  · rintro i L w1 hi ⟨m, rfl, hI⟩
    have hge : (0 : Int) ≤ 7 - (i : Int) := by omega
    simp only [getL_zero, getL_succ, binV_int, intBin_geq, ge_iff_le, hge, decide_true, Run_bindO_some, Run_condM_true, Run_bind]
    refine Run_for (7 - i) (fun k L w' => L = [.int .i64 ((16 ^ k : Nat) : Int), .int .i64 k] ∧ w' = w1) ⟨rfl, rfl⟩ ?_ ?_
    · rintro k L w2 hk ⟨rfl, hw2⟩
      rw [hw2]
      have hk' : (k : Int) < 7 - (i : Int) := by omega
      have wk := wrap_succ' (n := k) (by omega)
      have hp : 16 ^ (k + 1) ≤ 16 ^ 7 := Nat.pow_le_pow_right (by decide) (by omega)
      have hm : IntKind.i64.wrap (16 * ((16 ^ k : Nat) : Int)) = ((16 ^ (k + 1) : Nat) : Int) := by
        have : 16 * ((16 ^ k : Nat) : Int) = ((16 ^ (k + 1) : Nat) : Int) := by rw [Nat.pow_succ]; omega
        rw [this]; exact i64W (by omega)
      simp [-Int.natCast_pow, hk', wk, hm]
    · rintro L w2 ⟨rfl, hw2⟩
      rw [hw2]
      have h0 : ((7 - i : Nat) : Int) = 7 - (i : Int) := by omega
      have hpos : 0 < 16 ^ (7 - i) := Nat.pow_pos (by decide)
      have q1 := quo_nat (a := n) (b := 16 ^ (7 - i)) (k := .i64) (by omega) (i64W (by have := Nat.div_le_self n (16 ^ (7 - i)); omega))
      have q2 := rem_nat (a := n / 16 ^ (7 - i)) (b := 16) (k := .i64) (by decide)
      have q2' : intBin .rem .i64 ((n / 16 ^ (7 - i) : Nat) : Int) 16 = some (.int .i64 ((n / 16 ^ (7 - i) % 16 : Nat) : Int)) := q2
      have ix := idx_DIG (k := .i64) (i := n / 16 ^ (7 - i) % 16) (Nat.mod_lt _ (by decide))
      have ws : IntKind.i64.wrap (7 - (i : Int) - 1) = 7 - ((i + 1 : Nat) : Int) := by
        rw [show 7 - (i : Int) - 1 = 7 - ((i + 1 : Nat) : Int) by omega]
        simp [IntKind.wrap, IntKind.bits, IntKind.signed]; omega
      simp [-ldA_ptr, -Int.natCast_pow, -Int.natCast_emod, -Int.natCast_ediv, h0, q1, q2', ix]
      refine ownB_app hI (hexd (n / 16 ^ (7 - i) % 16)) (by rw [topD_len]; omega) fun r w3 h3 => ?_
      simp [ws]
      exact h3
  · rintro L w1 ⟨m, rfl, hI⟩
    have hge : ¬ (0 : Int) ≤ 7 - ((8 : Nat) : Int) := by omega
    have ht := ownB_text hI.sl.1
    rw [topD_eight] at ht
    simp only [getL_zero, getL_succ, binV_int, intBin_geq, ge_iff_le, hge, decide_false, Run_bindO_some, Run_condM_false, Run_ret]
    simp [ht]
    exact ⟨rfl, hI.fr⟩
end
end Go.Proofs.YthlpfhjcdedhgaaDoor
