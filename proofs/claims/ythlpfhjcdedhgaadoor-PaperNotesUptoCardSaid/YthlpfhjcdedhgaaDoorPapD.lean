/-
  Layer 4 (paper): part D: a sum's eight digits; a number's digits: that the program comes to an end.
-/
import Derived.Test.YthlpfhjcdedhgaaDoorPapC
namespace Go.Proofs.YthlpfhjcdedhgaaDoor
open Go.Lift
set_option linter.unusedSimpArgs false
set_option linter.unusedVariables false
set_option maxHeartbeats 4000000
theorem strAdd {a c : ByteArray} (h : a.size + c.size ≤ 9223372036854775807) : binV .add (.string a) (.string c) = some (.string (a ++ c)) := by
  have hx : ¬ (((a.size + c.size : Nat) : Int) > IntKind.i64.max) := by
    have e : IntKind.i64.max = 9223372036854775807 := by decide
    rw [e]; omega
  show strBin .add a c = _
  simp only [strBin, hx, if_false]
section
variable {w w1 w2 : World}
theorem rep_zero : ∀ c : Nat, c ≤ 7 → F.strings_Repeat (.string (ByteArray.mk #[48])) (.int .i64 (c : Int)) w = some (.string ⟨(List.replicate c 48).toArray⟩, w)
  | 0, _ => by kernel_rfl
  | 1, _ => by kernel_rfl
  | 2, _ => by kernel_rfl
  | 3, _ => by kernel_rfl
  | 4, _ => by kernel_rfl
  | 5, _ => by kernel_rfl
  | 6, _ => by kernel_rfl
  | 7, _ => by kernel_rfl
  | c + 8, h => absurd h (by omega)
theorem hex8_run (ht : BitsTab w) {n : Nat} (hn : n < 4294967296) : Run (F.paper_hex8 (.int .i64 n)) w fun r w' => r = .string (eightS n) ∧ Fr (fun _ => False) w w' := by
  unfold F.paper_hex8 F.strconv_FormatInt F.strconv_FormatInt_64
  obtain ⟨J, h1, h2⟩ := ex_len n
  have hJ := len_le hn h2
  have c0 : IntKind.u64.wrap (n : Int) = n := u64W (by omega)
  have b1 : ¬ ((16 : Int) = 10) := by decide
  have b2 : ¬ ((n : Int) < 0) := by omega
  simp [-ldA_ptr, b1, b2, c0]
  refine (bits_run ht hn h1 h2).mono ?_
  rintro _ w1 ⟨rfl, f1⟩
  have hsz : (⟨(lowD n (J + 1)).toArray⟩ : ByteArray).size = J + 1 := by
    show (lowD n (J + 1)).toArray.size = J + 1
    rw [List.size_toArray]; exact lowD_len n _
  have hw : IntKind.i64.wrap (8 - ((J + 1 : Nat) : Int)) = ((7 - J : Nat) : Int) := by
    rw [show 8 - ((J + 1 : Nat) : Int) = ((7 - J : Nat) : Int) by omega]; exact i64W (by omega)
  have hr := rep_zero (w := w1) (7 - J) (by omega)
  have hz : n / 16 ^ (J + 1) = 0 := by
    rw [Nat.pow_succ, ← Nat.div_div_eq_div_mul]; exact Nat.div_eq_of_lt h1
  have hm := lowD_more hz (7 - J)
  rw [show J + 1 + (7 - J) = 8 by omega] at hm
  have he : (⟨(List.replicate (7 - J) (48 : UInt8)).toArray⟩ : ByteArray) ++ ⟨(lowD n (J + 1)).toArray⟩ = eightS n := by
    apply ByteArray.ext
    rw [ByteArray.data_append]
    show (List.replicate (7 - J) (48 : UInt8)).toArray ++ (lowD n (J + 1)).toArray = (lowD n 8).toArray
    rw [List.append_toArray, hm]
  have e1 : (#[Value.slice none 0 0, Value.string { data := (lowD n (J + 1)).toArray }] : Array Value)[0]? = some (Value.slice none 0 0) := rfl
  have e2 : (#[Value.slice none 0 0, Value.string { data := (lowD n (J + 1)).toArray }] : Array Value)[1]? = some (Value.string { data := (lowD n (J + 1)).toArray }) := rfl
  simp only [extV_tuple, e1, e2, Run_bindO_some, lenS_string, hsz, binV_int, intBin_sub, hw, Run_bind, Run_ret]
  refine ⟨_, _, hr, ?_⟩
  show Run (bindO (binV BinOp.add (.string ⟨(List.replicate (7 - J) (48 : UInt8)).toArray⟩) (.string ⟨(lowD n (J + 1)).toArray⟩)) fun x6 => M.ret x6) w1 _
  have hsr : (⟨(List.replicate (7 - J) (48 : UInt8)).toArray⟩ : ByteArray).size = 7 - J := by
    show (List.replicate (7 - J) (48 : UInt8)).toArray.size = _
    rw [List.size_toArray, List.length_replicate]
  rw [strAdd (by rw [hsr, hsz]; omega), Run_bindO_some, he]
  exact ⟨_, _, rfl, rfl, f1⟩
end
end Go.Proofs.YthlpfhjcdedhgaaDoor
