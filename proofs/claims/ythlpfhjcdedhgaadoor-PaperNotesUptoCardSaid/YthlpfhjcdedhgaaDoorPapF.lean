/-
  Layer 4 (paper): part F: a number's digits.
-/
import Derived.Test.YthlpfhjcdedhgaaDoorPapE
namespace Go.Proofs.YthlpfhjcdedhgaaDoor
open Go.Lift
set_option linter.unusedSimpArgs false
set_option linter.unusedVariables false
set_option maxHeartbeats 4000000
section
variable {w w1 w2 : World}
theorem Row.lenL {v : Value} {n : Nat} (h : Row w v n) : lenL v = some (.int .i64 n) := by
  obtain ⟨l, hl, hs⟩ := h
  rw [hs.1.lenL, List.length_map, hl]
theorem geqT {k : IntKind} {a b : Int} (h : b ≤ a) : binV .geq (.int k a) (.int k b) = some (.bool true) := by simp [h]
theorem geqF {k : IntKind} {a b : Int} (h : ¬ b ≤ a) : binV .geq (.int k a) (.int k b) = some (.bool false) := by simp only [binV_int, intBin_geq, ge_iff_le, h, decide_false]
theorem fb10_run {a0 : Value} {n u : Nat} (h : Row w a0 n) (hn : n < 4611686018427387904) (h0 : 1 ≤ n) (hu : u < 18446744073709551616) : Run (F.strconv_formatBase10 a0 (.int .u64 u)) w fun _ w' => Row w' a0 n := by
  unfold F.strconv_formatBase10
  have eD : ByteArray.mk #[48, 48, 48, 49, 48, 50, 48, 51, 48, 52, 48, 53, 48, 54, 48, 55, 48, 56, 48, 57, 49, 48, 49, 49, 49, 50, 49, 51, 49, 52, 49, 53, 49, 54, 49, 55, 49, 56, 49, 57, 50, 48, 50, 49, 50, 50, 50, 51, 50, 52, 50, 53, 50, 54, 50, 55, 50, 56, 50, 57, 51, 48, 51, 49, 51, 50, 51, 51, 51, 52, 51, 53, 51, 54, 51, 55, 51, 56, 51, 57, 52, 48, 52, 49, 52, 50, 52, 51, 52, 52, 52, 53, 52, 54, 52, 55, 52, 56, 52, 57, 53, 48, 53, 49, 53, 50, 53, 51, 53, 52, 53, 53, 53, 54, 53, 55, 53, 56, 53, 57, 54, 48, 54, 49, 54, 50, 54, 51, 54, 52, 54, 53, 54, 54, 54, 55, 54, 56, 54, 57, 55, 48, 55, 49, 55, 50, 55, 51, 55, 52, 55, 53, 55, 54, 55, 55, 55, 56, 55, 57, 56, 48, 56, 49, 56, 50, 56, 51, 56, 52, 56, 53, 56, 54, 56, 55, 56, 56, 56, 57, 57, 48, 57, 49, 57, 50, 57, 51, 57, 52, 57, 53, 57, 54, 57, 55, 57, 56, 57, 57] = DDS := rfl
  rw [eD]
  rw [h.lenL, Run_bindO_some, Run_bind]
  refine Run_for (n / 8) (fun k L w' => (∃ u : Nat, u < 18446744073709551616 ∧ L = [.int .u64 u, .int .i64 ((n : Int) - 8 * k)]) ∧ Row w' a0 n) ?_ ?_ ?_
  · exact ⟨⟨u, hu, by simp⟩, h⟩
  · rintro k L w1 hk ⟨⟨u, hu, rfl⟩, hr⟩
    have hge : (8 : Int) ≤ (n : Int) - 8 * (k : Int) := by omega
    have c1 : IntKind.u32.wrap ((u % 100000000 : Nat) : Int) = ((u % 100000000 : Nat) : Int) := u32W (by omega)
    simp only [getL_zero, getL_succ]
    rw [geqT hge, Run_bindO_some, Run_condM_true, r1e8, Run_bindO_some, cvtI_int, c1, Run_bindO_some, q1e8 hu, Run_bindO_some]
    generalize hm : u % 100000000 = m
    have hml : m < 100000000 := by omega
    rw [q10000 (by omega), Run_bindO_some, r10000, Run_bindO_some, q100 (by omega), Run_bindO_some, m2 (by omega), Run_bindO_some, r100, Run_bindO_some, m2 (by omega), Run_bindO_some,
      q100 (by omega), Run_bindO_some, m2 (by omega), Run_bindO_some, r100, Run_bindO_some, m2 (by omega), Run_bindO_some]
    refine Run_two hr (by omega) hn (by omega) (by omega) (by omega) fun w2 hr => ?_
    refine Run_two hr (by omega) hn (by omega) (by omega) (by omega) fun w3 hr => ?_
    refine Run_two hr (by omega) hn (by omega) (by omega) (by omega) fun w4 hr => ?_
    refine Run_two hr (by omega) hn (by omega) (by omega) (by omega) fun w5 hr => ?_
    rw [subI (by omega) (by omega), Run_bindO_some, Run_ret]
    exact ⟨⟨u / 100000000, by omega, by rw [show (n : Int) - 8 * ((k + 1 : Nat) : Int) = n - 8 * (k : Int) - 8 by omega]⟩, hr⟩
  · rintro L w1 ⟨⟨u, hu, rfl⟩, hr⟩
    have hge : ¬ (8 : Int) ≤ (n : Int) - 8 * ((n / 8 : Nat) : Int) := by omega
    generalize hi : (n : Int) - 8 * ((n / 8 : Nat) : Int) = i at *
    have hi0 : 0 ≤ i := by omega
    have hin : i ≤ n := by omega
    simp only [getL_zero, getL_succ]
    rw [geqF hge, Run_bindO_some, Run_condM_false, Run_ret]
    have c1 : IntKind.u32.wrap (u : Int) = ((u % 4294967296 : Nat) : Int) := by simp [IntKind.wrap, IntKind.bits, IntKind.signed]
    generalize hm : u % 4294967296 = m at c1
    have hml : m < 4294967296 := by omega
    simp only [outK_exit, getL_zero, getL_succ]
    rw [show Nat.beq 0 0 = true from rfl, cond_true, cvtI_int, c1, Run_bindO_some, Run_bind]
    refine Run.mono (Q := fun o w' => ∃ i' m' : Nat, o = .norm [.int .i64 i', .int .u32 m'] ∧ i' ≤ n ∧ m' < 4294967296 ∧ Row w' a0 n) ?_ ?_
    · by_cases h4 : 4 ≤ i
      · rw [geqT h4, Run_bindO_some, Run_condM_true, r10000, Run_bindO_some, q10000 hml, Run_bindO_some, q100 (by omega), Run_bindO_some, m2 (by omega), Run_bindO_some, r100, Run_bindO_some, m2 (by omega), Run_bindO_some]
        refine Run_two hr (by omega) hn (by omega) (by omega) (by omega) fun w2 hr => ?_
        refine Run_two hr (by omega) hn (by omega) (by omega) (by omega) fun w3 hr => ?_
        rw [subI (by omega) (by omega), Run_bindO_some, Run_ret]
        exact ⟨(i - 4).toNat, m / 10000, by rw [Int.toNat_of_nonneg (by omega)], by omega, by omega, hr⟩
      · rw [geqF h4, Run_bindO_some, Run_condM_false, Run_ret]
        exact ⟨i.toNat, m, by rw [Int.toNat_of_nonneg (by omega)], by omega, by omega, hr⟩
    · rintro _ w2 ⟨i', m', rfl, hi', hm', hr⟩
      simp only [outK_norm, getL_zero, getL_succ]
      rw [Run_bind]
      refine Run.mono (Q := fun o w' => ∃ i' m' : Nat, o = .norm [.int .i64 i', .int .u32 m'] ∧ i' ≤ n ∧ m' < 4294967296 ∧ Row w' a0 n) ?_ ?_
      · by_cases h2 : (2 : Int) ≤ i'
        · rw [geqT h2, Run_bindO_some, Run_condM_true, r100, Run_bindO_some, m2 (by omega), Run_bindO_some, q100 hm', Run_bindO_some]
          refine Run_two hr (by omega) hn (by omega) (by omega) (by omega) fun w3 hr => ?_
          rw [subI (by omega) (by omega), Run_bindO_some, Run_ret]
          exact ⟨i' - 2, m' / 100, by rw [show ((i' - 2 : Nat) : Int) = (i' : Int) - 2 by omega], by omega, by omega, hr⟩
        · rw [geqF h2, Run_bindO_some, Run_condM_false, Run_ret]
          exact ⟨i', m', rfl, by omega, by omega, hr⟩
      · rintro _ w3 ⟨i2, m2, rfl, hi2, hm2, hr⟩
        simp only [outK_norm, getL_zero, getL_succ, binV_int, intBin_gtr, gt_iff_lt, Run_bindO_some, intBin_add, cvtI_int]
        by_cases hp : (0 : Int) < i2
        · simp only [hp, decide_true, Run_condM_true]
          generalize hz : IntKind.u8.wrap (IntKind.u32.wrap (48 + (m2 : Int))) = z
          obtain ⟨b, rfl⟩ : ∃ b : UInt8, z = (b.toNat : Int) := by
            have hz8 : 0 ≤ z ∧ z < 256 := by rw [← hz]; simp [IntKind.wrap, IntKind.bits, IntKind.signed]; omega
            exact ⟨UInt8.ofNat z.toNat, by simp; omega⟩
          rw [Run_bindO_some, cvtI_int, hz, Run_bindO_some]
          refine Run_put (i := 0) (kd := .i64) hr (by omega) (by omega) b fun w' h' => ?_
          rw [Run_ret]
          exact h'
        · simp only [hp, decide_false, Run_condM_false, Run_ret]
          exact hr
end
end Go.Proofs.YthlpfhjcdedhgaaDoor
