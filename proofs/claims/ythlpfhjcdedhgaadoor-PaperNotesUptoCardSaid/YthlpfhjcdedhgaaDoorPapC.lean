/-
  Layer 4 (paper): part C: eight digits of a sum, as the program writes them.
-/
import Derived.Test.YthlpfhjcdedhgaaDoorPapB
namespace Go.Proofs.YthlpfhjcdedhgaaDoor
open Go.Lift
set_option linter.unusedSimpArgs false
set_option linter.unusedVariables false
set_option maxHeartbeats 4000000
theorem ex_len : ∀ n : Nat, ∃ J, n / 16 ^ J < 16 ∧ ∀ j, j < J → 16 ≤ n / 16 ^ j := by
  intro n
  induction n using Nat.strongRecOn with
  | _ n ih =>
    by_cases h : n < 16
    · exact ⟨0, by simpa using h, fun j hj => absurd hj (by omega)⟩
    · obtain ⟨J, h1, h2⟩ := ih (n / 16) (by omega)
      have e : ∀ k, n / 16 ^ (k + 1) = n / 16 / 16 ^ k := fun k => by rw [Nat.div_div_eq_div_mul, Nat.pow_succ, Nat.mul_comm]
      refine ⟨J + 1, by rw [e]; exact h1, fun j hj => ?_⟩
      cases j with
      | zero => simpa using Nat.not_lt.1 h
      | succ k => rw [e]; exact h2 k (by omega)
theorem len_le {n J : Nat} (hn : n < 4294967296) (h : ∀ j, j < J → 16 ≤ n / 16 ^ j) : J ≤ 7 := Nat.not_lt.1 fun h8 => by
  have := h 7 h8
  have e : (16 : Nat) ^ 7 = 268435456 := by decide
  rw [e] at this
  omega
theorem hexd0 : hexd 0 = 48 := by decide +kernel
theorem lowD_more {n k : Nat} (h : n / 16 ^ k = 0) : ∀ m, lowD n (k + m) = List.replicate m 48 ++ lowD n k
  | 0 => rfl
  | m + 1 => by
    have e : n / 16 ^ (k + m) = 0 := by
      rw [Nat.pow_add, ← Nat.div_div_eq_div_mul, h, Nat.zero_div]
    show hexd (n / 16 ^ (k + m) % 16) :: lowD n (k + m) = _
    rw [e, lowD_more h m, Nat.zero_mod, hexd0]
    rfl
section
variable {w w1 w2 : World}
def rowV (n j : Nat) : List Value := (List.replicate (65 - j) 0 ++ lowD n j).map by8
theorem rowV_len (n j : Nat) (hj : j ≤ 65) : (rowV n j).length = 65 := by
  unfold rowV
  rw [List.length_map, List.length_append, List.length_replicate, lowD_len]; omega
theorem rowV_set (n j : Nat) (hj : j < 65) : setL (rowV n j) (64 - j) [by8 (hexd (n / 16 ^ j % 16))] = rowV n (j + 1) := by
  have e : rowV n j = (List.replicate (64 - j) 0).map by8 ++ (by8 0 :: (lowD n j).map by8) := by
    unfold rowV
    rw [show 65 - j = (64 - j) + 1 by omega, List.replicate_succ', List.append_assoc, List.map_append]
    rfl
  have e2 : rowV n (j + 1) = (List.replicate (64 - j) 0).map by8 ++ (by8 (hexd (n / 16 ^ j % 16)) :: (lowD n j).map by8) := by
    unfold rowV
    rw [show 65 - (j + 1) = 64 - j by omega, List.map_append]
    rfl
  rw [e, e2]
  have hl : ((List.replicate (64 - j) (0 : UInt8)).map by8).length = 64 - j := by rw [List.length_map, List.length_replicate]
  simp only [setL_cons, setL_nil]
  rw [List.set_append_right _ _ (by omega), hl, Nat.sub_self]
  rfl
/-- The table of math/bits, as far as it is asked here. -/
def BitsTab (w : World) : Prop := ∃ l, bk w 4 = some l ∧ l[15]? = some (.int .u8 4)
theorem isPow16 {w : World} {Q : Value → World → Prop} (q : Q (.bool true) w) : Run (F.strconv_isPowerOfTwo (.int .i64 16)) w Q := by
  unfold F.strconv_isPowerOfTwo
  have e1 : intBin .sub .i64 16 1 = some (.int .i64 15) := by kernel_rfl
  have e2 : intBin .and .i64 16 15 = some (.int .i64 0) := by kernel_rfl
  simp only [binV_int, e1, e2, Run_bindO_some, intBin_eql, decide_true, Run_ret]
  exact q
theorem trail16 (ht : BitsTab w) {Q : Value → World → Prop} (q : Q (.int .i64 4) w) : Run (F.bits_TrailingZeros (.int .u64 16)) w Q := by
  obtain ⟨l, h1, h2⟩ := ht
  unfold F.bits_TrailingZeros F.bits_TrailingZeros64
  have e0 : negV (.int .u64 16) = some (.int .u64 18446744073709551600) := by kernel_rfl
  have e1 : intBin .and .u64 16 18446744073709551600 = some (.int .u64 16) := by kernel_rfl
  have e2 : intBin .mul .u64 16 285870213051353865 = some (.int .u64 4573923408821661840) := by kernel_rfl
  have e3 : shV .shr (.int .u64 4573923408821661840) (.int .u64 58) = some (.int .u64 15) := by kernel_rfl
  have w4 : IntKind.i64.wrap 4 = 4 := by decide
  have h16 : ¬ ((16 : Int) = 0) := by decide
  have ea : idxR 64 1 (.pointer (some ({ block := 4, off := 0, spot := none } : Addr))) (.int .u64 15) = some (.pointer (some (⟨4, 15, none⟩ : Addr))) := by kernel_rfl
  simp only [Run_condM_false, Run_bind, binV_int, intBin_eql, h16, decide_false, Run_bindO_some, e0, e1, e2, e3, ea]
  simp [-ldA_ptr, h1, h2, w4]
  exact q
theorem shr4 {n : Nat} : shV .shr (.int .u64 n) (.int .u64 4) = some (.int .u64 ((n / 16 : Nat) : Int)) := by
  have h : ¬ ((4 : Int) < 0) := by omega
  simp only [shV, h, if_false]
  rw [show (4 : Int).toNat = 4 from rfl, Nat.min_eq_left (by decide), Int.fdiv_eq_ediv_of_nonneg _ (by decide)]
  norm_cast
theorem and15_64 {n : Nat} (hn : n < 18446744073709551616) : intBin .and .u64 n 15 = some (.int .u64 ((n % 16 : Nat) : Int)) := by
  have h15 : ((15 : Int)) = ((15 : Nat) : Int) := rfl
  rw [h15]
  simp only [intBin]
  rw [bv_and (n := IntKind.u64.bits) (show n < 2 ^ 64 from hn) (show 15 < 2 ^ 64 by decide), show (15 : Nat) = 2 ^ 4 - 1 from rfl, Nat.and_two_pow_sub_one_eq_mod, u64W (by omega)]
def DIG36 : ByteArray := ByteArray.mk #[48, 49, 50, 51, 52, 53, 54, 55, 56, 57, 97, 98, 99, 100, 101, 102, 103, 104, 105, 106, 107, 108, 109, 110, 111, 112, 113, 114, 115, 116, 117, 118, 119, 120, 121, 122]
theorem idx_DIG36 {k : IntKind} {i : Nat} (h : i < 16) : idxS (.string DIG36) (.int k i) = some (by8 (hexd i)) := by
  have hs : DIG36.size = 36 := by decide +kernel
  have h' : i < DIG36.size := by omega
  have e : ∀ i, (h : i < 16) → DIG36.data.toList[i]? = DIG.data.toList[i]? := by decide +kernel
  have e2 : DIG36[i] = hexd i := by
    unfold hexd
    rw [← e i h, List.getElem?_eq_getElem (show i < DIG36.data.toList.length by rw [Array.length_toList]; exact h')]
    rfl
  simp [idxS, h', e2, by8]
theorem idxR_at {x k : Nat} (h : k < 65) : idxR 65 1 (.pointer (some ⟨x, 0, none⟩)) (.int .i64 (k : Int)) = some (.pointer (some ⟨x, k, none⟩)) := by
  rw [idxR_ptr, if_pos (by omega)]; simp
theorem sliceR_at {x k : Nat} (h : k < 65) : sliceR 65 1 (.pointer (some ⟨x, 0, none⟩)) (some (.int .i64 (k : Int))) none = some (.slice (some ⟨x, k, none⟩) (65 - k) (65 - k)) := by
  have b2 : boundV (.int .i64 (k : Int)) 65 = some k := by
    unfold boundV
    simp only
    rw [if_pos (by omega)]
    simp
  simp only [sliceR, highV, lowV, b2]
  rw [if_neg (by omega)]
  simp [Addr.add_lit]
theorem bits_run (ht : BitsTab w) {n J : Nat} (hn : n < 4294967296) (h1 : n / 16 ^ J < 16) (h2 : ∀ j, j < J → 16 ≤ n / 16 ^ j) :
    Run (F.strconv_formatBits (.slice none 0 0) (.int .u64 n) (.int .i64 16) (.bool false) (.bool false)) w fun r w' => r = .tuple #[.slice none 0 0, .string ⟨(lowD n (J + 1)).toArray⟩] ∧ Fr (fun _ => False) w w' := by
  unfold F.strconv_formatBits
  have eD : ByteArray.mk #[48, 49, 50, 51, 52, 53, 54, 55, 56, 57, 97, 98, 99, 100, 101, 102, 103, 104, 105, 106, 107, 108, 109, 110, 111, 112, 113, 114, 115, 116, 117, 118, 119, 120, 121, 122] = DIG36 := rfl
  rw [eD]
  have hJ := len_le hn h2
  have b1 : ¬ ((16 : Int) < 2) := by decide
  have b2 : ¬ ((16 : Int) = 10) := by decide
  have b3 : ¬ ((36 : Int) < 16) := by decide
  simp [-ldA_ptr, b1, b2, b3]
  refine Run_new fun x w1 hx hxw f1 hxle => ?_
  have hx0 : bk w1 x = some (rowV n 0) := hx
  have ht1 : BitsTab w1 := by
    obtain ⟨l, q1, q2⟩ := ht
    exact ⟨l, f1.bk_some q1 id, q2⟩
  refine isPow16 ?_
  simp [-ldA_ptr]
  have c16 : IntKind.u64.wrap 16 = 16 := by decide
  have c4 : IntKind.u64.wrap 4 = 4 := by decide
  have c15 : IntKind.u64.wrap 15 = 15 := by decide
  simp [-ldA_ptr, c16]
  refine trail16 ht1 ?_
  simp [-ldA_ptr, c16, c4, c15]
  refine Run_for J (fun j L w' => L = [.int .u64 ((n / 16 ^ j : Nat) : Int), .int .i64 ((65 - j : Nat) : Int)] ∧ bk w' x = some (rowV n j) ∧ wr w' x = true ∧ Fr (fun c => c = x) w1 w') ?_ ?_ ?_
  · exact ⟨by simp, hx0, hxw, Fr.refl _ _⟩
  · rintro j L w2 hj ⟨rfl, hb, hw, f2⟩
    have hg : (16 : Int) ≤ ((n / 16 ^ j : Nat) : Int) := by have := h2 j hj; omega
    have hd : n / 16 ^ j ≤ n := Nat.div_le_self _ _
    have a1 := and15_64 (n := n / 16 ^ j) (by omega)
    have ix := idx_DIG36 (k := .u64) (i := n / 16 ^ j % 16) (Nat.mod_lt _ (by decide))
    have s1 := shr4 (n := n / 16 ^ j)
    have wj : IntKind.i64.wrap (((65 - j : Nat) : Int) - 1) = ((64 - j : Nat) : Int) := by
      rw [show ((65 - j : Nat) : Int) - 1 = ((64 - j : Nat) : Int) by omega]; exact i64W (by omega)
    have hr := rowV_len n j (by omega)
    have ir := idxR_at (x := x) (k := 64 - j) (by omega)
    have hst := rowV_set n j (by omega)
    have hdd : n / 16 ^ j / 16 = n / 16 ^ (j + 1) := by rw [Nat.div_div_eq_div_mul, Nat.pow_succ]
    have hlt : 64 - j < (rowV n j).length := by omega
    have e65 : ((65 - (j + 1) : Nat) : Int) = ((64 - j : Nat) : Int) := by omega
    simp only [getL_zero, getL_succ, binV_int, intBin_geq, ge_iff_le, hg, decide_true, Run_bindO_some, Run_condM_true, Run_bind, intBin_sub, wj, a1, ix, s1, ir]
    simp [-ldA_ptr, -Int.natCast_pow, -Int.natCast_emod, -Int.natCast_ediv, hb, hw, hlt, by8_cell, hdd]
    exact ⟨rfl, fun i hi => by
      obtain rfl : i = 0 := by have : i < 1 := hi; omega
      rfl, by omega, hst, f2.sto (.inl rfl) _ _⟩
  · rintro L w2 ⟨rfl, hb, hw, f2⟩
    have hg : ¬ (16 : Int) ≤ ((n / 16 ^ J : Nat) : Int) := by omega
    have wj : IntKind.i64.wrap (((65 - J : Nat) : Int) - 1) = ((64 - J : Nat) : Int) := by
      rw [show ((65 - J : Nat) : Int) - 1 = ((64 - J : Nat) : Int) by omega]; exact i64W (by omega)
    have ix := idx_DIG36 (k := .u64) (i := n / 16 ^ J) h1
    have ir := idxR_at (x := x) (k := 64 - J) (by omega)
    have hr := rowV_len n J (by omega)
    have hlt : 64 - J < (rowV n J).length := by omega
    have sl := sliceR_at (x := x) (k := 64 - J) (by omega)
    simp only [getL_zero, getL_succ, binV_int, intBin_geq, ge_iff_le, hg, decide_false, Run_bindO_some, Run_condM_false, Run_bind, Run_ret]
    simp only [outK_exit, natBeq, decide_true, cond_true, getL_zero, getL_succ, binV_int, intBin_sub, wj, ix, Run_bindO_some, ir, Run_bind]
    simp [-ldA_ptr, -Int.natCast_pow, -Int.natCast_emod, -Int.natCast_ediv, hb, hw, hlt, by8_cell, sl]
    have hst := rowV_set n J (by omega)
    rw [Nat.mod_eq_of_lt h1] at hst
    have hb2 : bk (sto w2 x (64 - J) [by8 (hexd (n / 16 ^ J))]) x = some (rowV n (J + 1)) := by rw [bk_sto_eq, hb, ← hst]; rfl
    have hld : ldN (sto w2 x (64 - J) [by8 (hexd (n / 16 ^ J))]) ⟨x, 64 - J, none⟩ (65 - (64 - J)) = some ((lowD n (J + 1)).map by8) := by
      rw [ldN_bk hb2 (by rw [rowV_len n (J + 1) (by omega)]; omega)]
      congr 1
      unfold rowV
      rw [List.map_append, show 65 - (J + 1) = 64 - J by omega, List.drop_append_of_le_length (by simp), show 65 - (64 - J) = J + 1 by omega]
      rw [List.drop_of_length_le (by simp), List.nil_append, List.take_of_length_le (by simp [lowD_len])]
    refine ⟨rfl, fun i hi => by
      obtain rfl : i = 0 := by have : i < 1 := hi; omega
      rfl, by omega, _, ?_, rfl, ?_⟩
    · show bsR _ (sto w2 x (64 - J) [by8 (hexd (n / 16 ^ J))]) = _
      simp only [bsR, hld, bytesV_by8]
    · exact f1.new (f2.sto (.inl rfl) _ _) fun c hc => by rw [hc]; exact hxle
end
end Go.Proofs.YthlpfhjcdedhgaaDoor
