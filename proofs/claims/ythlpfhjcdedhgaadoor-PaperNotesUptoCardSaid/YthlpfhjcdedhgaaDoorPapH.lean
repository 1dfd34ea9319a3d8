/-
  Layer 4 (paper): part H: a note's text, on both sides.
-/
import Derived.Test.YthlpfhjcdedhgaaDoorPapG
namespace Go.Proofs.YthlpfhjcdedhgaaDoor
open Go.Lift Go.Sort
set_option linter.unusedSimpArgs false
set_option linter.unusedVariables false
set_option maxHeartbeats 4000000
/-- A note. -/
structure Nt where
  k : Int
  f : Int
  u : Int
  c : Int
def Nt.ok (n : Nt) : Prop := (1 ≤ n.k ∧ n.k ≤ 4) ∧ (0 ≤ n.f ∧ n.f ≤ 9007199254740992) ∧ (0 ≤ n.u ∧ n.u ≤ 9007199254740992) ∧ (0 ≤ n.c ∧ n.c < 4294967296)
instance (n : Nt) : Decidable n.ok := by unfold Nt.ok; exact inferInstance
def Nt.v (n : Nt) : Value := .agg #[.int .i64 n.k, .int .i64 n.f, .int .i64 n.u, .int .i64 n.c]
def preL (n : Nt) : List UInt8 := Lib.decDigits n.k.toNat ++ [32] ++ Lib.decDigits n.f.toNat ++ [32] ++ Lib.decDigits n.u.toNat ++ [32] ++ eightL n.c.toNat ++ [32]
def noteL (n : Nt) : List UInt8 := preL n ++ eightL (crcF ⟨(preL n).toArray⟩) ++ [10]
def noteO (n : Nt) : Value := if n.ok then .tuple #[.string ⟨(noteL n).toArray⟩, .int .i64 0] else .tuple #[.string (ByteArray.mk #[]), .int .i64 42]
theorem dec_len {n : Nat} (h : n < 9223372036854775808) : (Lib.decDigits n).length ≤ 20 := by
  rw [Lib.decDigits_length]
  rcases Nat.eq_zero_or_pos n with rfl | h1
  · rw [Lib.nDigits_small (by decide)]; decide
  · exact nDig_le h1 (by omega)
theorem itoaS_size (n : Nat) : (itoaS n).size = (Lib.decDigits n).length := by
  show (Lib.decDigits n).toArray.size = _
  rw [List.size_toArray]
theorem pre_len (n : Nt) (h : n.ok) : (preL n).length ≤ 80 := by
  have h1 := dec_len (n := n.k.toNat) (by have := h.1; omega)
  have h2 := dec_len (n := n.f.toNat) (by have := h.2.1; omega)
  have h3 := dec_len (n := n.u.toNat) (by have := h.2.2.1; omega)
  have h4 : (eightL n.c.toNat).length = 8 := lowD_len _ _
  simp only [preL, List.length_append, List.length_singleton, h4]
  omega
section
variable {w w1 w2 : World}
theorem isSum_run {x : Int} : F.paper_isSum (.int .i64 x) w = some (.bool (decide (0 ≤ x ∧ x < 4294967296)), w) := by
  have : Run (F.paper_isSum (.int .i64 x)) w fun r w' => r = .bool (decide (0 ≤ x ∧ x < 4294967296)) ∧ w' = w := by
    unfold F.paper_isSum
    by_cases h1 : 0 ≤ x <;> by_cases h2 : x < 4294967296 <;> simp [h1, h2]
  obtain ⟨r, w', e, rfl, rfl⟩ := this
  exact e
theorem in_run {x a b : Int} : F.granaryref4_in (.int .i64 x) (.int .i64 a) (.int .i64 b) w = some (.bool (decide (a ≤ x ∧ x ≤ b)), w) := by
  have : Run (F.granaryref4_in (.int .i64 x) (.int .i64 a) (.int .i64 b)) w fun r w' => r = .bool (decide (a ≤ x ∧ x ≤ b)) ∧ w' = w := by
    unfold F.granaryref4_in
    by_cases h1 : a ≤ x <;> by_cases h2 : x ≤ b <;> simp [h1, h2]
  obtain ⟨r, w', e, rfl, rfl⟩ := this
  exact e
theorem Run_isSum {x : Int} {Q : Value → World → Prop} : Run (F.paper_isSum (.int .i64 x)) w Q ↔ Q (.bool (decide (0 ≤ x ∧ x < 4294967296))) w := by
  constructor
  · rintro ⟨r, w', e, q⟩
    rw [isSum_run] at e
    cases e
    exact q
  · exact fun q => ⟨_, _, isSum_run, q⟩
theorem Run_in {x a b : Int} {Q : Value → World → Prop} : Run (F.granaryref4_in (.int .i64 x) (.int .i64 a) (.int .i64 b)) w Q ↔ Q (.bool (decide (a ≤ x ∧ x ≤ b))) w := by
  constructor
  · rintro ⟨r, w', e, q⟩
    rw [in_run] at e
    cases e
    exact q
  · exact fun q => ⟨_, _, in_run, q⟩
theorem print_run (ht : Tb w) (n : Nt) : Run (F.paper_PrintNote n.v) w fun r w' => r = noteO n ∧ Fr (fun _ => False) w w' := by
  unfold F.paper_PrintNote
  rw [Run_bind]
  refine Run_new fun x w1 hx hxw f1 hxle => ?_
  replace hx : bk w1 x = some [.int .i64 n.k, .int .i64 n.f, .int .i64 n.u, .int .i64 n.c] := hx
  have ht1 := ht.fr0 f1
  have hno : ∀ {p : Prop}, p → (p → ¬ n.ok) → noteO n = .tuple #[.string (ByteArray.mk #[]), .int .i64 42] := fun hp h => by rw [noteO, if_neg (h hp)]
  by_cases h1 : n.k < 1
  · simp [-ldA_ptr, hx, h1, hno h1 fun h hn => by have := hn.1; omega, f1]
  by_cases h2 : 4 < n.k
  · simp [-ldA_ptr, hx, h1, h2, hno h2 fun h hn => by have := hn.1; omega, f1]
  by_cases h3 : n.f < 0
  · simp [-ldA_ptr, hx, h1, h2, h3, hno h3 fun h hn => by have := hn.2.1; omega, f1]
  by_cases h4 : 9007199254740992 < n.f
  · simp [-ldA_ptr, hx, h1, h2, h3, h4, hno h4 fun h hn => by have := hn.2.1; omega, f1]
  by_cases h5 : n.u < 0
  · simp [-ldA_ptr, hx, h1, h2, h3, h4, h5, hno h5 fun h hn => by have := hn.2.2.1; omega, f1]
  by_cases h6 : 9007199254740992 < n.u
  · simp [-ldA_ptr, hx, h1, h2, h3, h4, h5, h6, hno h6 fun h hn => by have := hn.2.2.1; omega, f1]
  by_cases h7 : 0 ≤ n.c ∧ n.c < 4294967296
  case neg => simp [-ldA_ptr, hx, h1, h2, h3, h4, h5, h6, Run_isSum, h7, hno h7 fun h hn => h hn.2.2.2, f1]
  have hok : n.ok := ⟨by omega, by omega, by omega, h7⟩
  rw [noteO, if_pos hok]
  obtain ⟨k, f, u, c⟩ := n
  simp only at h1 h2 h3 h4 h5 h6 h7 hx
  obtain ⟨k, rfl⟩ : ∃ n : Nat, k = n := ⟨k.toNat, by omega⟩
  obtain ⟨f, rfl⟩ : ∃ n : Nat, f = n := ⟨f.toNat, by omega⟩
  obtain ⟨u, rfl⟩ : ∃ n : Nat, u = n := ⟨u.toNat, by omega⟩
  obtain ⟨c, rfl⟩ : ∃ n : Nat, c = n := ⟨c.toNat, by omega⟩
  simp [-ldA_ptr, hx, h1, h2, h3, h4, h5, h6, Run_isSum, h7]
  have fd : Fr (fun _ => False) w1 w1.drew := (Fr.refl _ _).drew
  have td := ht1.fr0 fd
  have hxd : bk w1.drew x = some [.int .i64 (k : Int), .int .i64 (f : Int), .int .i64 (u : Int), .int .i64 (c : Int)] := hx
  generalize w1.drew = w2 at *
  refine (itoa_run td (n := k) (by omega)).mono ?_
  rintro _ w3 ⟨rfl, f3⟩
  have hx3 := f3.bk_some hxd id
  have t3 := td.fr0 f3
  simp [-ldA_ptr, hx3]
  refine (itoa_run t3 (n := f) (by omega)).mono ?_
  rintro _ w4 ⟨rfl, f4⟩
  have hx4 := f4.bk_some hx3 id
  have t4 := t3.fr0 f4
  simp [-ldA_ptr, hx4]
  refine (itoa_run t4 (n := u) (by omega)).mono ?_
  rintro _ w5 ⟨rfl, f5⟩
  have hx5 := f5.bk_some hx4 id
  have t5 := t4.fr0 f5
  simp [-ldA_ptr, hx5]
  refine (hex8_run t5.bits (n := c) (by omega)).mono ?_
  rintro _ w6 ⟨rfl, f6⟩
  have t6 := t5.fr0 f6
  refine Run_bsl (k := 1) (vs := [.string (itoaS k), .string (itoaS f), .string (itoaS u), .string (eightS c), .string (ByteArray.mk #[])]) (by rfl) (by intro v hv; simp only [List.mem_cons, List.not_mem_nil, or_false] at hv; rcases hv with rfl | rfl | rfl | rfl | rfl <;> rfl) rfl (by kernel_rfl) fun r w7 hr f7 _ => ?_
  have t7 := t6.fr0 f7
  refine (join2_run (xs := [itoaS k, itoaS f, itoaS u, eightS c, ByteArray.mk #[]]) hr.1 (by decide) (by decide) ?_ (by simp)).mono ?_
  · have a1 := dec_len (n := k) (by omega)
    have a2 := dec_len (n := f) (by omega)
    have a3 := dec_len (n := u) (by omega)
    simp only [List.map_cons, List.map_nil, List.sum_cons, List.sum_nil, eightS_size, itoaS_size]
    show _ + (_ + (_ + (8 + (0 + 0)))) ≤ _
    omega
  rintro _ w8 ⟨rfl, f8⟩
  have t8 := t7.fr0 f8
  have ej : (⟨(joinL [itoaS k, itoaS f, itoaS u, eightS c, ByteArray.mk #[]] (ByteArray.mk #[32])).toArray⟩ : ByteArray) = ⟨(preL ⟨k, f, u, c⟩).toArray⟩ := by
    simp [joinL, preL, itoaS, eightS]
  rw [ej]
  have hp := pre_len ⟨k, f, u, c⟩ hok
  have hps : (⟨(preL ⟨k, f, u, c⟩).toArray⟩ : ByteArray).size = (preL ⟨k, f, u, c⟩).length := by
    show (preL _).toArray.size = _
    rw [List.size_toArray]
  refine Run_bsl (k := 1) (vs := [.string ⟨(preL ⟨k, f, u, c⟩).toArray⟩]) (by rfl) (by intro v hv; simp only [List.mem_singleton] at hv; subst hv; rfl) rfl (by kernel_rfl) fun r w9 hr f9 _ => ?_
  have t9 := t8.fr0 f9
  refine (crc_run t9.nib hr.1 (by rw [hps]; omega)).mono ?_
  rintro _ w10 ⟨rfl, rfl⟩
  refine (hex8_run t9.bits (crcF_lt _)).mono ?_
  rintro _ w11 ⟨rfl, f11⟩
  rw [strAdd (by rw [hps, eightS_size]; omega), Run_bindO_some, strAdd (by rw [ByteArray.size_append, hps, eightS_size]; show _ + 8 + 1 ≤ _; omega), Run_bindO_some, Run_ret]
  refine ⟨?_, (((((((f1.trans fd fun _ _ => id).trans f3 fun _ _ => id).trans f4 fun _ _ => id).trans f5 fun _ _ => id).trans f6 fun _ _ => id).trans f7 fun _ _ => id).trans f8 fun _ _ => id).trans (f9.trans f11 fun _ _ => id) fun _ _ => id⟩
  have e : (⟨(preL ⟨k, f, u, c⟩).toArray⟩ : ByteArray) ++ eightS (crcF ⟨(preL ⟨k, f, u, c⟩).toArray⟩) ++ ByteArray.mk #[10] = ⟨(noteL ⟨k, f, u, c⟩).toArray⟩ := by
    apply ByteArray.ext
    rw [ByteArray.data_append, ByteArray.data_append]
    show (preL ⟨k, f, u, c⟩).toArray ++ (eightL _).toArray ++ #[10] = (preL ⟨k, f, u, c⟩ ++ eightL _ ++ [10]).toArray
    simp
  rw [e]
end
end Go.Proofs.YthlpfhjcdedhgaaDoor
