/-
  Layer 4 (paper): part A: numbers' bits; the sum of a text, on both sides.
-/
import Derived.Test.YthlpfhjcdedhgaaDoorBld
import Derived.Test.YthlpfhjcdedhgaaDoorLiftN
namespace Go.Proofs.YthlpfhjcdedhgaaDoor
open Go.Lift
set_option linter.unusedSimpArgs false
set_option linter.unusedVariables false
set_option maxHeartbeats 4000000

/- Numbers of kinds. -/
theorem u32W {n : Nat} (h : n < 4294967296) : IntKind.u32.wrap (n : Int) = n := by simp [IntKind.wrap, IntKind.bits, IntKind.signed]; omega
theorem i64W {n : Nat} (h : n < 9223372036854775808) : IntKind.i64.wrap (n : Int) = n := by simp [IntKind.wrap, IntKind.bits, IntKind.signed]; omega
theorem u64W {n : Nat} (h : n < 18446744073709551616) : IntKind.u64.wrap (n : Int) = n := by simp [IntKind.wrap, IntKind.bits, IntKind.signed]; omega
theorem u8W {n : Nat} (h : n < 256) : IntKind.u8.wrap (n : Int) = n := by simp [IntKind.wrap, IntKind.bits, IntKind.signed]; omega
theorem bv_xor {n a b : Nat} (ha : a < 2 ^ n) (hb : b < 2 ^ n) : (BitVec.ofInt n (a : Int) ^^^ BitVec.ofInt n (b : Int)).toNat = a ^^^ b := by
  rw [BitVec.toNat_xor, BitVec.ofInt_natCast, BitVec.ofInt_natCast, BitVec.toNat_ofNat, BitVec.toNat_ofNat, Nat.mod_eq_of_lt ha, Nat.mod_eq_of_lt hb]
theorem bv_and {n a b : Nat} (ha : a < 2 ^ n) (hb : b < 2 ^ n) : (BitVec.ofInt n (a : Int) &&& BitVec.ofInt n (b : Int)).toNat = a &&& b := by
  rw [BitVec.toNat_and, BitVec.ofInt_natCast, BitVec.ofInt_natCast, BitVec.toNat_ofNat, BitVec.toNat_ofNat, Nat.mod_eq_of_lt ha, Nat.mod_eq_of_lt hb]
theorem binV_xor32 {a b : Nat} (ha : a < 4294967296) (hb : b < 4294967296) : intBin .xor .u32 a b = some (.int .u32 ((a ^^^ b : Nat) : Int)) := by
  have h := Nat.xor_lt_two_pow (n := 32) (show a < 2 ^ 32 from ha) (show b < 2 ^ 32 from hb)
  simp only [intBin]
  rw [bv_xor (n := IntKind.u32.bits) (show a < 2 ^ 32 from ha) (show b < 2 ^ 32 from hb), u32W h]
theorem binV_xor64 {a b : Nat} (ha : a < 4294967296) (hb : b < 4294967296) : intBin .xor .i64 a b = some (.int .i64 ((a ^^^ b : Nat) : Int)) := by
  have h := Nat.xor_lt_two_pow (n := 32) (show a < 2 ^ 32 from ha) (show b < 2 ^ 32 from hb)
  simp only [intBin]
  rw [bv_xor (n := IntKind.i64.bits) (show a < 2 ^ 64 by omega) (show b < 2 ^ 64 by omega), i64W (by omega)]
theorem binV_and15 {a : Nat} (ha : a < 4294967296) : intBin .and .u32 a 15 = some (.int .u32 ((a % 16 : Nat) : Int)) := by
  have h15 : ((15 : Int)) = ((15 : Nat) : Int) := rfl
  rw [h15]
  simp only [intBin]
  rw [bv_and (n := IntKind.u32.bits) (show a < 2 ^ 32 from ha) (show 15 < 2 ^ 32 by decide), show (15 : Nat) = 2 ^ 4 - 1 from rfl, Nat.and_two_pow_sub_one_eq_mod, u32W (by omega)]
theorem shV_four {a : Nat} : shV .shr (.int .u32 a) (.int .u64 4) = some (.int .u32 ((a / 16 : Nat) : Int)) := by
  have h : ¬ ((4 : Int) < 0) := by omega
  simp only [shV, h, if_false]
  rw [show (4 : Int).toNat = 4 from rfl, Nat.min_eq_left (by decide), Int.fdiv_eq_ediv_of_nonneg _ (by decide)]
  norm_cast
theorem rem_nat {a b : Nat} {k : IntKind} (hb : b ≠ 0) : intBin .rem k (a : Int) (b : Int) = some (.int k ((a % b : Nat) : Int)) := by
  simp only [intBin]
  rw [if_neg (by omega), Int.tmod_eq_emod_of_nonneg (by omega)]; norm_cast
theorem quo_nat {a b : Nat} {k : IntKind} (hb : b ≠ 0) (hw : k.wrap ((a / b : Nat) : Int) = ((a / b : Nat) : Int)) : intBin .quo k (a : Int) (b : Int) = some (.int k ((a / b : Nat) : Int)) := by
  simp only [intBin]
  have e : ((a : Int)).tdiv (b : Int) = ((a / b : Nat) : Int) := by rw [Int.tdiv_eq_ediv_of_nonneg (by omega)]; norm_cast
  rw [if_neg (by omega), e, hw]

/- The sum's steps. -/
def PLY : Nat := 3988292384
def st (w : Nat) : Nat := if w % 2 = 0 then w / 2 else (w / 2) ^^^ PLY
theorem st_xor (x y : Nat) : st (x ^^^ y) = st x ^^^ st y := by
  have h1 : (x ^^^ y) / 2 = x / 2 ^^^ y / 2 := by
    apply Nat.eq_of_testBit_eq
    intro i
    simp [Nat.testBit_div_two]
  have h2 : (x ^^^ y) % 2 = (x + y) % 2 := by
    have := Nat.testBit_xor x y 0
    simp only [Nat.testBit_zero] at this
    rcases Nat.mod_two_eq_zero_or_one x with a | a <;> rcases Nat.mod_two_eq_zero_or_one y with b | b <;> rcases Nat.mod_two_eq_zero_or_one (x ^^^ y) with c | c <;> simp [a, b, c] at this <;> omega
  unfold st
  rw [h1, h2]
  rcases Nat.mod_two_eq_zero_or_one x with a | a <;> rcases Nat.mod_two_eq_zero_or_one y with b | b
  · rw [if_pos (by omega), if_pos a, if_pos b]
  · rw [if_neg (by omega), if_pos a, if_neg (by omega), Nat.xor_assoc]
  · rw [if_neg (by omega), if_neg (by omega), if_pos b, Nat.xor_assoc, Nat.xor_assoc, Nat.xor_comm PLY]
  · rw [if_pos (by omega), if_neg (by omega), if_neg (by omega)]
    apply Nat.eq_of_testBit_eq
    intro i
    simp only [Nat.testBit_xor]
    cases (x / 2).testBit i <;> cases (y / 2).testBit i <;> cases PLY.testBit i <;> rfl
def st4 (w : Nat) : Nat := st (st (st (st w)))
theorem st4_xor (x y : Nat) : st4 (x ^^^ y) = st4 x ^^^ st4 y := by unfold st4; rw [st_xor, st_xor, st_xor, st_xor]
theorem st_even (w : Nat) : st (2 * w) = w := by
  unfold st
  rw [if_pos (by omega)]; omega
theorem st4_up (h : Nat) : st4 (16 * h) = h := by
  unfold st4
  rw [show 16 * h = 2 * (2 * (2 * (2 * h))) by omega, st_even, st_even, st_even, st_even]
theorem split16 (w : Nat) : w = (16 * (w / 16)) ^^^ (w % 16) := by
  apply Nat.eq_of_testBit_eq
  intro i
  rw [Nat.testBit_xor, show (16 : Nat) * (w / 16) = 2 ^ 4 * (w / 2 ^ 4) by rfl, Nat.testBit_two_pow_mul, Nat.testBit_div_two_pow, show (16 : Nat) = 2 ^ 4 by rfl, Nat.testBit_mod_two_pow]
  by_cases hi : i < 4
  · simp [hi, show ¬ 4 ≤ i by omega]
  · simp [hi, show 4 ≤ i by omega, show i - 4 + 4 = i by omega]
def nib (l : Nat) : Nat := ([0, 498536548, 997073096, 651767980, 1994146192, 1802195444, 1303535960, 1342533948, 3988292384, 4027552580, 3604390888, 3412177804, 2607071920, 2262029012, 2685067896, 3183342108][l]?).getD 0
theorem nib_st : ∀ l, l < 16 → st4 l = nib l := by decide +kernel
theorem st4_eq (w : Nat) : st4 w = nib (w % 16) ^^^ (w / 16) := by
  conv => lhs; rw [split16 w]
  rw [st4_xor, st4_up, nib_st _ (Nat.mod_lt _ (by decide)), Nat.xor_comm]
theorem nib_lt : ∀ l, l < 16 → nib l < 4294967296 := by decide +kernel
theorem st_lt {w : Nat} (h : w < 4294967296) : st w < 4294967296 := by
  unfold st
  split
  · omega
  · exact Nat.xor_lt_two_pow (n := 32) (by omega) (by decide)
theorem st4_lt {w : Nat} (h : w < 4294967296) : st4 w < 4294967296 := st_lt (st_lt (st_lt (st_lt h)))
def byF (w : Nat) (b : UInt8) : Nat := st4 (st4 (w ^^^ b.toNat))
theorem byF_lt {w : Nat} (h : w < 4294967296) (b : UInt8) : byF w b < 4294967296 := st4_lt (st4_lt (Nat.xor_lt_two_pow (n := 32) h (by have := b.toNat_lt; omega)))
def runF (w : Nat) (l : List UInt8) : Nat := l.foldl byF w
theorem runF_lt : ∀ (l : List UInt8) {w : Nat}, w < 4294967296 → runF w l < 4294967296
  | [], w, h => h
  | b :: l, w, h => runF_lt l (byF_lt h b)
def crcF (s : ByteArray) : Nat := runF 4294967295 s.data.toList ^^^ 4294967295
theorem crcF_lt (s : ByteArray) : crcF s < 4294967296 := Nat.xor_lt_two_pow (n := 32) (runF_lt _ (by decide)) (by decide)
theorem take_snocP {α : Type} {l : List α} {i : Nat} {e : α} (he : l[i]? = some e) : l.take (i + 1) = l.take i ++ [e] := by rw [List.take_add_one, he]; rfl
theorem runF_snoc {w : Nat} {l : List UInt8} {i : Nat} {b : UInt8} (h : l[i]? = some b) : runF w (l.take (i + 1)) = byF (runF w (l.take i)) b := by
  unfold runF
  rw [take_snocP h, List.foldl_append]; rfl
section
variable {w : World}
def nibV : List Value := [.int .u32 0, .int .u32 498536548, .int .u32 997073096, .int .u32 651767980, .int .u32 1994146192, .int .u32 1802195444, .int .u32 1303535960, .int .u32 1342533948, .int .u32 3988292384, .int .u32 4027552580, .int .u32 3604390888, .int .u32 3412177804, .int .u32 2607071920, .int .u32 2262029012, .int .u32 2685067896, .int .u32 3183342108]
theorem nibV_at : ∀ l, l < 16 → nibV[l]? = some (.int .u32 ((nib l : Nat) : Int)) := by
  intro l hl
  match l, hl with
  | 0, _ => rfl
  | 1, _ => rfl
  | 2, _ => rfl
  | 3, _ => rfl
  | 4, _ => rfl
  | 5, _ => rfl
  | 6, _ => rfl
  | 7, _ => rfl
  | 8, _ => rfl
  | 9, _ => rfl
  | 10, _ => rfl
  | 11, _ => rfl
  | 12, _ => rfl
  | 13, _ => rfl
  | 14, _ => rfl
  | 15, _ => rfl
  | n + 16, h => exact absurd h (by omega)
theorem idxS_at {s : ByteArray} {i : Nat} {b : UInt8} (h : s.data.toList[i]? = some b) : idxS (.string s) (.int .i64 i) = some (.int .u8 (b.toNat : Int)) := by
  obtain ⟨h1, h2⟩ := List.getElem?_eq_some_iff.1 h
  have hs : i < s.size := by
    show i < s.data.size
    rw [← Array.length_toList]; exact h1
  have hg : s[i] = b := by rw [← h2]; rfl
  simp [idxS, hs, hg]
theorem nib_ld (hn : bk w 0 = some nibV) {k : Nat} (hk : k < 16) : ld1 (.pointer (some (({ block := 0, off := 0 } : Addr).add k))) w = some (.int .u32 ((nib k : Nat) : Int)) := by
  have e : ({ block := 0, off := 0 } : Addr).add k = ⟨0, k, none⟩ := by simp [Addr.add]; exact fun h => h.symm
  rw [e, ld1_ptr, hn]
  exact nibV_at k hk
theorem through_run (hn : bk w 0 = some nibV) (s : ByteArray) (hs : s.size ≤ 4611686018427387904) {c : Nat} (hc : c < 4294967296) :
    Run (F.digest_through (.int .u32 c) (.string s)) w fun r w' => r = .int .u32 ((runF c s.data.toList : Nat) : Int) ∧ w' = w := by
  unfold F.digest_through
  simp only [Run_bind]
  have hl : s.data.toList.length = s.size := Array.length_toList
  refine Run_for s.size (fun i L w' => L = [.int .u32 ((runF c (s.data.toList.take i) : Nat) : Int), .int .i64 i] ∧ w' = w) ⟨rfl, rfl⟩ ?_ ?_
  · rintro i L w1 hi ⟨rfl, hw⟩
    rw [hw]
    have hi' : (i : Int) < s.size := by omega
    have ei : s.data.toList[i]? = some s.data.toList[i] := List.getElem?_eq_getElem (by omega)
    generalize s.data.toList[i] = b at ei
    rw [runF_snoc ei]
    have hr := runF_lt (s.data.toList.take i) hc
    generalize runF c (s.data.toList.take i) = u at hr
    have hb := b.toNat_lt
    have hx : u ^^^ b.toNat < 4294967296 := Nat.xor_lt_two_pow (n := 32) hr (by omega)
    have wi := wrap_succ' (n := i) (by omega)
    have cb : IntKind.u32.wrap (b.toNat : Int) = b.toNat := u32W (by omega)
    have e1 := st4_eq (u ^^^ b.toNat)
    have hy := st4_lt hx
    have e2 := st4_eq (st4 (u ^^^ b.toNat))
    have n1 := nibV_at _ (Nat.mod_lt (u ^^^ b.toNat) (show 0 < 16 by decide))
    have n2 := nibV_at _ (Nat.mod_lt (st4 (u ^^^ b.toNat)) (show 0 < 16 by decide))
    have m1 := nib_lt _ (Nat.mod_lt (u ^^^ b.toNat) (show 0 < 16 by decide))
    have m2 := nib_lt _ (Nat.mod_lt (st4 (u ^^^ b.toNat)) (show 0 < 16 by decide))
    have l1 : (u ^^^ b.toNat) % 16 < 16 := Nat.mod_lt _ (by decide)
    have l2 : st4 (u ^^^ b.toNat) % 16 < 16 := Nat.mod_lt _ (by decide)
    unfold byF
    rw [e2]
    generalize hX : u ^^^ b.toNat = X at *
    have x1 := binV_xor32 (a := nib (X % 16)) (b := X / 16) m1 (by omega)
    rw [← e1] at x1
    generalize hY : st4 X = Y at *
    have x2 := binV_xor32 (a := nib (Y % 16)) (b := Y / 16) m2 (by omega)
    have x0 := binV_xor32 (a := u) (b := b.toNat) hr (by omega)
    rw [hX] at x0
    have j1 : ((X % 16 : Nat) : Int) < 16 := by omega
    have j2 : ((Y % 16 : Nat) : Int) < 16 := by omega
    have a1 := binV_and15 (a := X) hx
    have a2 := binV_and15 (a := Y) hy
    have s1 := shV_four (a := X)
    have s2 := shV_four (a := Y)
    simp [-ldA_ptr, -Int.natCast_emod, -Int.natCast_ediv, hi', idxS_at ei, cb, x0, a1, idxR, l1, l2, j1, j2, nib_ld hn l1, s1, x1, a2, nib_ld hn l2, s2, x2, wi]
  · rintro L w1 ⟨rfl, hw⟩
    rw [hw, ← hl, List.take_length]
    simp
theorem cpl32 {u : Nat} (hu : u < 4294967296) : cplV (.int .u32 u) = some (.int .u32 ((u ^^^ 4294967295 : Nat) : Int)) := by
  have h := Nat.xor_lt_two_pow (n := 32) (show u < 2 ^ 32 from hu) (show 4294967295 < 2 ^ 32 by decide)
  rw [cplV_int]
  have e : (if IntKind.u32.signed = true then (-1 : Int) else IntKind.u32.max) = ((4294967295 : Nat) : Int) := by decide
  rw [e, bv_xor (n := IntKind.u32.bits) (show 4294967295 < 2 ^ 32 by decide) (show u < 2 ^ 32 from hu), Nat.xor_comm, u32W h]
theorem crc_run (hn : bk w 0 = some nibV) {v : Value} {s : ByteArray} (hv : Sl 1 w v [[.string s]]) (hs : s.size ≤ 4611686018427387904) :
    Run (F.digest_CRC v) w fun r w' => r = .int .i64 ((crcF s : Nat) : Int) ∧ w' = w := by
  unfold F.digest_CRC
  have hlen := hv.lenL
  simp only [List.length_singleton] at hlen
  rw [hlen]
  simp only [Run_bindO_some, Run_bind]
  refine Run_for 1 (fun i L w' => L = [.int .u32 ((if i = 0 then 4294967295 else runF 4294967295 s.data.toList : Nat) : Int), .int .i64 i] ∧ w' = w) ⟨rfl, rfl⟩ ?_ ?_
  · rintro i L w1 hi ⟨rfl, hw⟩
    rw [hw]
    obtain rfl : i = 0 := by omega
    obtain ⟨p, p1, p2⟩ := hv.rd1 (i := 0) (y := .string s) (by simp) .i64
    have p1' : idxA 1 v (.int .i64 0) = some p := p1
    simp [-ldA_ptr, p1', p2]
    refine (through_run hn s hs (show 4294967295 < 4294967296 by decide)).mono ?_
    rintro _ w2 ⟨rfl, hw2⟩
    rw [hw2]
    have w1 : IntKind.i64.wrap 1 = 1 := by decide
    simp [w1]
  · rintro L w1 ⟨rfl, hw⟩
    rw [hw]
    have hr := runF_lt s.data.toList (w := 4294967295) (by decide)
    have hc := crcF_lt s
    have h64 := i64W (n := crcF s) (by omega)
    simp [cpl32 hr, crcF] at h64 ⊢
    exact h64
theorem rstep_run (a : Nat) (ha : a < 4294967296) : Run (F.granaryref2_step (.int .i64 a)) w fun r w' => r = .int .i64 ((st a : Nat) : Int) ∧ w' = w := by
  unfold F.granaryref2_step
  have h2 : (2 : Int) = ((2 : Nat) : Int) := rfl
  have e1 := rem_nat (a := a) (b := 2) (k := .i64) (by decide)
  have e2 := quo_nat (a := a) (b := 2) (k := .i64) (by decide) (i64W (by omega))
  have x := binV_xor64 (a := a / 2) (b := 3988292384) (by omega) (by decide)
  rw [← h2] at e1 e2
  unfold st PLY
  by_cases h : a % 2 = 0
  · simp [-Int.natCast_emod, -Int.natCast_ediv, e1, e2, h]
  · have h' : ¬ ((a % 2 : Nat) : Int) = 0 := by omega
    simp only [binV_int, e1, e2, Run_bindO_some, intBin_eql, h', decide_false, Run_condM_false, if_neg h]
    have x' : intBin .xor .i64 ((a / 2 : Nat) : Int) 3988292384 = some (.int .i64 ((a / 2 ^^^ 3988292384 : Nat) : Int)) := x
    rw [x']
    simp
theorem rcrc_run (s : ByteArray) (hs : s.size ≤ 4611686018427387904) : Run (F.granaryref2_CRC (.string s)) w fun r w' => r = .int .i64 ((crcF s : Nat) : Int) ∧ w' = w := by
  unfold F.granaryref2_CRC
  simp only [Run_bind]
  have hl : s.data.toList.length = s.size := Array.length_toList
  refine Run_for s.size (fun i L w' => L = [.int .i64 ((runF 4294967295 (s.data.toList.take i) : Nat) : Int), .int .i64 i] ∧ w' = w) ⟨rfl, rfl⟩ ?_ ?_
  · rintro i L w1 hi ⟨rfl, hw⟩
    rw [hw]
    have hi' : (i : Int) < s.size := by omega
    have ei : s.data.toList[i]? = some s.data.toList[i] := List.getElem?_eq_getElem (by omega)
    generalize s.data.toList[i] = b at ei
    rw [runF_snoc ei]
    have hr := runF_lt (s.data.toList.take i) (w := 4294967295) (by decide)
    generalize runF 4294967295 (s.data.toList.take i) = u at hr
    have hb := b.toNat_lt
    have hx : u ^^^ b.toNat < 4294967296 := Nat.xor_lt_two_pow (n := 32) hr (by omega)
    have wi := wrap_succ' (n := i) (by omega)
    have cb : IntKind.i64.wrap (b.toNat : Int) = b.toNat := i64W (by omega)
    have x0 := binV_xor64 (a := u) (b := b.toNat) hr (by omega)
    unfold byF
    generalize u ^^^ b.toNat = X at *
    simp [-ldA_ptr, hi', idxS_at ei, cb, x0]
    refine Run_for 8 (fun k L w' => L = [.int .i64 ((Nat.repeat st k X : Nat) : Int), .int .i64 k] ∧ w' = w) ⟨rfl, rfl⟩ ?_ ?_
    · rintro k L w2 hk ⟨rfl, hw2⟩
      rw [hw2]
      have hkl : ∀ k, Nat.repeat st k X < 4294967296 := fun k => by
        induction k with
        | zero => exact hx
        | succ k ih => exact st_lt ih
      have hk' : (k : Int) < 8 := by omega
      have wk := wrap_succ' (n := k) (by omega)
      simp [hk']
      refine (rstep_run _ (hkl k)).mono ?_
      rintro _ w3 ⟨rfl, hw3⟩
      rw [hw3]
      simp [wk]
      rfl
    · rintro L w2 ⟨rfl, hw2⟩
      rw [hw2]
      simp [wi]
      rfl
  · rintro L w1 ⟨rfl, hw⟩
    rw [hw, ← hl, List.take_length]
    have hr := runF_lt s.data.toList (w := 4294967295) (by decide)
    have x := binV_xor64 (a := runF 4294967295 s.data.toList) (b := 4294967295) hr (by decide)
    have x' : intBin .xor .i64 ((runF 4294967295 s.data.toList : Nat) : Int) 4294967295 = some (.int .i64 ((runF 4294967295 s.data.toList ^^^ 4294967295 : Nat) : Int)) := x
    simp [x', crcF, hl]
end
end Go.Proofs.YthlpfhjcdedhgaaDoor
