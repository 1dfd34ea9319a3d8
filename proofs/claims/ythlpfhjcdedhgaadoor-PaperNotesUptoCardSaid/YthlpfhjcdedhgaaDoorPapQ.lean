/-
  Layer 4 (paper): part Q: the document's reader: a sum; what the digits that are printed are read as.
-/
import Derived.Test.YthlpfhjcdedhgaaDoorPapP
namespace Go.Proofs.YthlpfhjcdedhgaaDoor
open Go.Lift Go.Sort
set_option linter.unusedSimpArgs false
set_option linter.unusedVariables false
set_option maxHeartbeats 4000000
section
variable {w w1 w2 : World}
/-- What a sum is read as. -/
structure SuP (w w' : World) (b : Nat) (l : List UInt8) (p : Nat) (bad : Bool) (r : Value) : Prop where
  val : r = .int .i64 ((((if bad then none else (pairsF (l.drop p) 4).map valB).getD 0 : Nat)) : Int)
  rs : ∃ p', RS w' b l p' (if bad then none else (pairsF (l.drop p) 4).map valB).isNone ∧ p' ≤ l.length ∧ ((if bad then none else (pairsF (l.drop p) 4).map valB).isSome = true → p' = p + 8)
  fr : Fr (fun c => c = b) w w'
theorem rsum_run {b p : Nat} {l : List UInt8} {bad : Bool} (h : RS w b l p bad) (hp : p ≤ l.length) (hl : l.length ≤ 4611686018427387904) :
    Run (F.granaryref4_Reader_sum (.pointer (some ⟨b, 0, none⟩))) w fun r w' => SuP w w' b l p bad r := by
  unfold F.granaryref4_Reader_sum
  rw [Run_bind]
  refine (rbytes_run h hp hl (n := 4) (by decide) (by decide)).mono ?_
  rintro _ w1 ⟨rfl, ⟨p', hr, hple, hpe⟩, f1⟩
  generalize hB : (if bad = true then none else pairsF (l.drop p) 4) = B at *
  have hB' : (if bad = true then none else (pairsF (l.drop p) 4).map valB) = B.map valB := by rw [← hB]; cases bad <;> rfl
  have hBl : ((B.getD [])).length ≤ 4 := by
    cases hb : B with
    | none => simp
    | some bs =>
      rw [hb] at hB
      cases bad with
      | true => simp at hB
      | false => simp only [Bool.false_eq_true, if_false] at hB; rw [Option.getD_some, pairsF_len hB]; decide
  rw [Run_bind]
  generalize hbs : B.getD [] = bs at hBl
  refine Run_for bs.length (fun i L' w' => L' = [.int .i64 ((valB (bs.take i) : Nat) : Int), .int .i64 (i : Int)] ∧ w' = w1) ⟨rfl, rfl⟩ ?_ ?_
  · rintro i L' w3 hi ⟨rfl, hw3⟩
    rw [hw3]
    obtain ⟨c, hc⟩ : ∃ c, bs[i]? = some c := ⟨_, List.getElem?_eq_getElem hi⟩
    have ix := idxSb (kd := .i64) hc
    have hv := valB_snoc (bs.take i) c
    rw [← take_snocP hc] at hv
    have hlt := valB_lt (bs.take i)
    have hp : 256 ^ (bs.take i).length ≤ 256 ^ 3 := Nat.pow_le_pow_right (by decide) (by rw [List.length_take]; omega)
    have e16 : (256 : Nat) ^ 3 = 16777216 := by decide
    rw [e16] at hp
    have hil : (i : Int) < bs.length := by omega
    have wi := wrap_succ' (n := i) (by omega)
    have hct := c.toNat_lt
    have wc : IntKind.i64.wrap (c.toNat : Int) = c.toNat := i64W (by omega)
    generalize valB (bs.take i) = V at *
    have w2' : IntKind.i64.wrap (256 * (V : Int)) = ((256 * V : Nat) : Int) := by rw [show 256 * (V : Int) = ((256 * V : Nat) : Int) by omega]; exact i64W (by omega)
    have w3' : IntKind.i64.wrap (((256 * V : Nat) : Int) + (c.toNat : Int)) = ((256 * V + c.toNat : Nat) : Int) := by rw [show ((256 * V : Nat) : Int) + (c.toNat : Int) = ((256 * V + c.toNat : Nat) : Int) by omega]; exact i64W (by omega)
    rw [lenS_string, sb_size, Run_bindO_some, getL_succ, getL_zero, lssT hil, Run_bindO_some, Run_condM_true, getL_zero, binV_int, intBin_mul, w2', Run_bindO_some, ix, Run_bindO_some]
    simp only [by8, cvtI_int, wc, Run_bindO_some, binV_int, intBin_add, w3', wi, Run_ret]
    rw [hv]
    exact ⟨rfl, trivial⟩
  · rintro L' w3 ⟨rfl, hw3⟩
    rw [hw3]
    have hn : ¬ ((bs.length : Nat) : Int) < bs.length := by omega
    rw [lenS_string, sb_size, Run_bindO_some, getL_succ, getL_zero, lssF hn, Run_bindO_some, Run_condM_false, Run_ret]
    simp only [outK_exit, getL_zero]
    rw [show Nat.beq 0 0 = true from rfl, cond_true, Run_ret, List.take_length]
    refine ⟨?_, ⟨p', ?_, hple, ?_⟩, f1⟩
    · rw [hB', ← hbs]; cases B <;> rfl
    · rw [hB']; cases B <;> exact hr
    · rw [hB']
      intro h
      refine hpe ?_
      cases B with
      | none => cases h
      | some _ => rfl
end
theorem hvN_hexd : ∀ i, i < 16 → hvN (hexd i).toNat = some i := by decide +kernel
theorem lowD_at (n : Nat) : ∀ (k i : Nat), i < k → (lowD n k)[i]? = some (hexd (n / 16 ^ (k - 1 - i) % 16))
  | 0, i, h => absurd h (by omega)
  | k + 1, 0, _ => by simp [lowD]
  | k + 1, i + 1, h => by
    have := lowD_at n k i (by omega)
    rw [show k + 1 - 1 - (i + 1) = k - 1 - i by omega]
    simpa [lowD] using this
theorem eight_pair (n : Nat) (r : List UInt8) {i : Nat} (hi : i < 4) : pairV (eightL n ++ r) i = some (UInt8.ofNat (16 * (n / 16 ^ (7 - 2 * i) % 16) + n / 16 ^ (6 - 2 * i) % 16)) := by
  have hl : (eightL n).length = 8 := lowD_len _ _
  unfold pairV
  rw [List.getElem?_append_left (by omega), List.getElem?_append_left (by omega)]
  unfold eightL
  rw [lowD_at n 8 (2 * i) (by omega), lowD_at n 8 (2 * i + 1) (by omega)]
  simp only
  rw [hvN_hexd _ (Nat.mod_lt _ (by decide)), hvN_hexd _ (Nat.mod_lt _ (by decide))]
  rw [show 8 - 1 - 2 * i = 7 - 2 * i by omega, show 8 - 1 - (2 * i + 1) = 6 - 2 * i by omega]
theorem ofNat_two (x y : Nat) (hx : x < 16) (hy : y < 16) : (UInt8.ofNat (16 * x + y)).toNat = 16 * x + y := UInt8.toNat_ofNat_of_lt' (show 16 * x + y < UInt8.size by show _ < 256; omega)
theorem eight_read {n : Nat} (hn : n < 4294967296) (r : List UInt8) : (pairsF (eightL n ++ r) 4).map valB = some n := by
  have e : pairsF (eightL n ++ r) 4 = some [UInt8.ofNat (16 * (n / 16 ^ 7 % 16) + n / 16 ^ 6 % 16), UInt8.ofNat (16 * (n / 16 ^ 5 % 16) + n / 16 ^ 4 % 16), UInt8.ofNat (16 * (n / 16 ^ 3 % 16) + n / 16 ^ 2 % 16), UInt8.ofNat (16 * (n / 16 ^ 1 % 16) + n / 16 ^ 0 % 16)] := by
    simp only [pairsF, eight_pair n r (i := 0) (by decide), eight_pair n r (i := 1) (by decide), eight_pair n r (i := 2) (by decide), eight_pair n r (i := 3) (by decide)]
    rfl
  rw [e, Option.map_some]
  have m : ∀ a, n / 16 ^ a % 16 < 16 := fun a => Nat.mod_lt _ (by decide)
  simp only [valB, List.foldl_cons, List.foldl_nil]
  rw [ofNat_two _ _ (m 7) (m 6), ofNat_two _ _ (m 5) (m 4), ofNat_two _ _ (m 3) (m 2), ofNat_two _ _ (m 1) (m 0)]
  have d : ∀ a, n / 16 ^ (a + 1) = n / 16 ^ a / 16 := fun a => by rw [Nat.pow_succ, Nat.div_div_eq_div_mul]
  have h0 : n / 16 ^ 0 = n := by simp
  rw [d 6, d 5, d 4, d 3, d 2, d 1, d 0, h0]
  refine congrArg some ?_
  omega
theorem eight_sum {n : Nat} (hn : n < 4294967296) : sumF (eightL n) = some n := by
  unfold sumF
  have h := eight_read hn []
  rw [List.append_nil] at h
  have hl : (eightL n).length = 8 := lowD_len _ _
  rw [if_pos hl, h]
theorem dec_small {n : Nat} (h : n < 10) : Lib.decDigits n = [UInt8.ofNat (48 + n)] := by rw [Lib.decDigits, dif_pos h]
theorem dec_big {n : Nat} (h : ¬ n < 10) : Lib.decDigits n = Lib.decDigits (n / 10) ++ [UInt8.ofNat (48 + n % 10)] := by conv => lhs; rw [Lib.decDigits, dif_neg h]
theorem dig_nat {k : Nat} (h : k < 10) : (UInt8.ofNat (48 + k)).toNat = 48 + k := UInt8.toNat_ofNat_of_lt' (show 48 + k < 256 by omega)
theorem dec_facts (n : Nat) : (Lib.decDigits n).all isD = true ∧ valL (Lib.decDigits n) = n ∧ Lib.decDigits n ≠ [] ∧ (1 ≤ n → (Lib.decDigits n).head? ≠ some 48) := by
  induction n using Nat.strongRecOn with
  | _ n ih =>
    by_cases h : n < 10
    · have hd := dig_nat h
      rw [dec_small h]
      refine ⟨?_, ?_, by simp, fun h1 he => ?_⟩
      · simp only [List.all_cons, List.all_nil, Bool.and_true, isD, hd, decide_eq_true_eq]; omega
      · simp only [valL, List.foldl_cons, List.foldl_nil, valF, hd]; omega
      · simp only [List.head?_cons, Option.some.injEq] at he
        have : (UInt8.ofNat (48 + n)).toNat = (48 : UInt8).toNat := by rw [he]
        rw [hd] at this
        have e48 : (48 : UInt8).toNat = 48 := rfl
        omega
    · obtain ⟨h1, h2, h3, h4⟩ := ih (n / 10) (by omega)
      have hd := dig_nat (k := n % 10) (Nat.mod_lt _ (by decide))
      rw [dec_big h]
      refine ⟨?_, ?_, by simp, fun _ he => ?_⟩
      · rw [List.all_append, h1]
        simp only [List.all_cons, List.all_nil, Bool.and_true, Bool.true_and, isD, hd, decide_eq_true_eq]; omega
      · rw [valL_snoc, h2, hd]; omega
      · have e : (Lib.decDigits (n / 10) ++ [UInt8.ofNat (48 + n % 10)]).head? = (Lib.decDigits (n / 10)).head? := by
          obtain ⟨c, r, e⟩ := List.exists_cons_of_ne_nil h3
          rw [e]; rfl
        rw [e] at he
        exact h4 (by omega) he
theorem nDig_pow : ∀ (k n : Nat), 1 ≤ k → n < 10 ^ k → Lib.nDigits n ≤ k
  | 0, _, h, _ => absurd h (by decide)
  | k + 1, n, _, h => by
    by_cases hn : n < 10
    · rw [Lib.nDigits_small hn]; omega
    · rw [Lib.nDigits_big hn]
      rw [Nat.pow_succ] at h
      rcases Nat.eq_zero_or_pos k with rfl | hk
      · omega
      · have := nDig_pow k (n / 10) hk (by omega)
        omega
theorem dec_le16 {n : Nat} (h : n < 10000000000000000) : (Lib.decDigits n).length ≤ 16 := by
  rw [Lib.decDigits_length]
  exact nDig_pow 16 n (by decide) h
theorem dec_num {n : Nat} (h : n < 10000000000000000) : numF (Lib.decDigits n) = some n := by
  obtain ⟨h1, h2, h3, h4⟩ := dec_facts n
  unfold numF
  rw [if_neg, h2]
  rintro (hh | hh | ⟨ha, hb⟩ | hh)
  · exact h3 hh
  · have := dec_le16 h; omega
  · by_cases hn : n < 10
    · rw [dec_small hn] at ha; simp at ha
    · exact h4 (by omega) hb
  · rw [h1] at hh; cases hh
theorem runD_app {d r : List UInt8} (hd : d.all isD = true) (hr : ∀ c, r.head? = some c → isD c = false) : runD (d ++ r) = d := by
  unfold runD
  induction d with
  | nil =>
    cases r with
    | nil => rfl
    | cons c r => simp [hr c rfl]
  | cons c d ih =>
    simp only [List.all_cons, Bool.and_eq_true] at hd
    rw [List.cons_append, List.takeWhile_cons, if_pos hd.1, ih hd.2]
theorem rdD_dec {l : List UInt8} {p n : Nat} {r : List UInt8} (h : n < 10000000000000000) (hl : l.drop p = Lib.decDigits n ++ r) (hr : ∀ c, r.head? = some c → isD c = false) : rdD l p = Lib.decDigits n := by
  unfold rdD
  rw [hl]
  have h16 := dec_le16 h
  rw [List.take_append, List.take_of_length_le (by omega)]
  refine runD_app (dec_facts n).1 fun c hc => hr c ?_
  cases r with
  | nil => simp at hc
  | cons x r =>
    cases hk : 17 - (Lib.decDigits n).length with
    | zero => omega
    | succ k => rw [hk, List.take_succ_cons] at hc; exact hc
theorem dec_no {n : Nat} {c : UInt8} (hc : isD c = false) : c ∉ Lib.decDigits n := fun h => by
  have := List.all_eq_true.1 (dec_facts n).1 c h
  rw [hc] at this; cases this
theorem eight_no {n : Nat} {c : UInt8} (hc : ∀ i, i < 16 → hexd i ≠ c) : c ∉ eightL n := fun h => by
  have key : ∀ k, c ∉ lowD n k := fun k => by
    induction k with
    | zero => simp [lowD]
    | succ k ih =>
      unfold lowD
      simp only [List.mem_cons, not_or]
      exact ⟨fun e => hc _ (Nat.mod_lt _ (by decide)) e.symm, ih⟩
  exact key 8 h
end Go.Proofs.YthlpfhjcdedhgaaDoor
