/-
  Layer 4 (paper): part A: numbers' bits; the sum of a text, on both sides.
-/
import Derived.Test.YthlpfhjcdedhgaaDoorBld
import Derived.Test.YthlpfhjcdedhgaaDoorLiftN
import Derived.Test.YthlpfhjcdedhgaaDoorLiftX
namespace Go.Proofs.YthlpfhjcdedhgaaDoor
open Go.Lift
set_option linter.unusedSimpArgs false
set_option linter.unusedVariables false
set_option maxHeartbeats 4000000

/- Numbers of kinds. -/
theorem u32W {n : Nat} (h : n < 4294967296) : IntKind.u32.wrap (n : Int) = n := by simp [IntKind.wrap, IntKind.bits, IntKind.signed]; omega
theorem i64W {n : Nat} (h : n < 9223372036854775808) : IntKind.i64.wrap (n : Int) = n := by simp [IntKind.wrap, IntKind.bits, IntKind.signed]; omega
theorem u64W {n : Nat} (h : n < 18446744073709551616) : IntKind.u64.wrap (n : Int) = n := by simp [IntKind.wrap, IntKind.bits, IntKind.signed]; omega
theorem u8W {n : Nat} (h : n < 256) : IntKind.u8.wrap (n : Int) = n := by simp [IntKind.wrap, IntKind.bits, IntKind.signed]; omega
theorem bv_xor {n a b : Nat} (ha : a < 2 ^ n) (hb : b < 2 ^ n) : (BitVec.ofInt n (a : Int) ^^^ BitVec.ofInt n (b : Int)).toNat = a ^^^ b := by
  rw [BitVec.toNat_xor, BitVec.ofInt_natCast, BitVec.ofInt_natCast, BitVec.toNat_ofNat, BitVec.toNat_ofNat, Nat.mod_eq_of_lt ha, Nat.mod_eq_of_lt hb]
theorem bv_and {n a b : Nat} (ha : a < 2 ^ n) (hb : b < 2 ^ n) : (BitVec.ofInt n (a : Int) &&& BitVec.ofInt n (b : Int)).toNat = a &&& b := by
  rw [BitVec.toNat_and, BitVec.ofInt_natCast, BitVec.ofInt_natCast, BitVec.toNat_ofNat, BitVec.toNat_ofNat, Nat.mod_eq_of_lt ha, Nat.mod_eq_of_lt hb]
theorem binV_xor32 {a b : Nat} (ha : a < 4294967296) (hb : b < 4294967296) : intBin .xor .u32 a b = some (.int .u32 ((a ^^^ b : Nat) : Int)) := by
  have h := Nat.xor_lt_two_pow (n := 32) (show a < 2 ^ 32 from ha) (show b < 2 ^ 32 from hb)
  simp only [intBin]
  rw [bv_xor (n := IntKind.u32.bits) (show a < 2 ^ 32 from ha) (show b < 2 ^ 32 from hb), u32W h]
theorem binV_xor64 {a b : Nat} (ha : a < 4294967296) (hb : b < 4294967296) : intBin .xor .i64 a b = some (.int .i64 ((a ^^^ b : Nat) : Int)) := by
  have h := Nat.xor_lt_two_pow (n := 32) (show a < 2 ^ 32 from ha) (show b < 2 ^ 32 from hb)
  simp only [intBin]
  rw [bv_xor (n := IntKind.i64.bits) (show a < 2 ^ 64 by omega) (show b < 2 ^ 64 by omega), i64W (by omega)]
theorem binV_and15 {a : Nat} (ha : a < 4294967296) : intBin .and .u32 a 15 = some (.int .u32 ((a % 16 : Nat) : Int)) := by
  have h15 : ((15 : Int)) = ((15 : Nat) : Int) := rfl
  rw [h15]
  simp only [intBin]
  rw [bv_and (n := IntKind.u32.bits) (show a < 2 ^ 32 from ha) (show 15 < 2 ^ 32 by decide), show (15 : Nat) = 2 ^ 4 - 1 from rfl, Nat.and_two_pow_sub_one_eq_mod, u32W (by omega)]
theorem shV_four {a : Nat} : shV .shr (.int .u32 a) (.int .u64 4) = some (.int .u32 ((a / 16 : Nat) : Int)) := by
  have h : ¬ ((4 : Int) < 0) := by omega
  simp only [shV, h, if_false]
  rw [show (4 : Int).toNat = 4 from rfl, Nat.min_eq_left (by decide), Int.fdiv_eq_ediv_of_nonneg _ (by decide)]
  norm_cast
theorem rem_nat {a b : Nat} {k : IntKind} (hb : b ≠ 0) : intBin .rem k (a : Int) (b : Int) = some (.int k ((a % b : Nat) : Int)) := by
  simp only [intBin]
  rw [if_neg (by omega), Int.tmod_eq_emod_of_nonneg (by omega)]; norm_cast
theorem quo_nat {a b : Nat} {k : IntKind} (hb : b ≠ 0) (hw : k.wrap ((a / b : Nat) : Int) = ((a / b : Nat) : Int)) : intBin .quo k (a : Int) (b : Int) = some (.int k ((a / b : Nat) : Int)) := by
  simp only [intBin]
  have e : ((a : Int)).tdiv (b : Int) = ((a / b : Nat) : Int) := by rw [Int.tdiv_eq_ediv_of_nonneg (by omega)]; norm_cast
  rw [if_neg (by omega), e, hw]

/- The sum's steps. -/
def PLY : Nat := 3988292384
def st (w : Nat) : Nat := if w % 2 = 0 then w / 2 else (w / 2) ^^^ PLY
theorem st_xor (x y : Nat) : st (x ^^^ y) = st x ^^^ st y := by
  have h1 : (x ^^^ y) / 2 = x / 2 ^^^ y / 2 := by
    apply Nat.eq_of_testBit_eq
    intro i
    simp [Nat.testBit_div_two]
  have h2 : (x ^^^ y) % 2 = (x + y) % 2 := by
    have := Nat.testBit_xor x y 0
    simp only [Nat.testBit_zero] at this
    rcases Nat.mod_two_eq_zero_or_one x with a | a <;> rcases Nat.mod_two_eq_zero_or_one y with b | b <;> rcases Nat.mod_two_eq_zero_or_one (x ^^^ y) with c | c <;> simp [a, b, c] at this <;> omega
  unfold st
  rw [h1, h2]
  rcases Nat.mod_two_eq_zero_or_one x with a | a <;> rcases Nat.mod_two_eq_zero_or_one y with b | b
  · rw [if_pos (by omega), if_pos a, if_pos b]
  · rw [if_neg (by omega), if_pos a, if_neg (by omega), Nat.xor_assoc]
  · rw [if_neg (by omega), if_neg (by omega), if_pos b, Nat.xor_assoc, Nat.xor_assoc, Nat.xor_comm PLY]
  · rw [if_pos (by omega), if_neg (by omega), if_neg (by omega)]
    apply Nat.eq_of_testBit_eq
    intro i
    simp only [Nat.testBit_xor]
    cases (x / 2).testBit i <;> cases (y / 2).testBit i <;> cases PLY.testBit i <;> rfl
def st4 (w : Nat) : Nat := st (st (st (st w)))
theorem st4_xor (x y : Nat) : st4 (x ^^^ y) = st4 x ^^^ st4 y := by unfold st4; rw [st_xor, st_xor, st_xor, st_xor]
theorem st_even (w : Nat) : st (2 * w) = w := by
  unfold st
  rw [if_pos (by omega)]; omega
theorem st4_up (h : Nat) : st4 (16 * h) = h := by
  unfold st4
  rw [show 16 * h = 2 * (2 * (2 * (2 * h))) by omega, st_even, st_even, st_even, st_even]
theorem split16 (w : Nat) : w = (16 * (w / 16)) ^^^ (w % 16) := by
  apply Nat.eq_of_testBit_eq
  intro i
  rw [Nat.testBit_xor, show (16 : Nat) * (w / 16) = 2 ^ 4 * (w / 2 ^ 4) by rfl, Nat.testBit_two_pow_mul, Nat.testBit_div_two_pow, show (16 : Nat) = 2 ^ 4 by rfl, Nat.testBit_mod_two_pow]
  by_cases hi : i < 4
  · simp [hi, show ¬ 4 ≤ i by omega]
  · simp [hi, show 4 ≤ i by omega, show i - 4 + 4 = i by omega]
def nib (l : Nat) : Nat := ([0, 498536548, 997073096, 651767980, 1994146192, 1802195444, 1303535960, 1342533948, 3988292384, 4027552580, 3604390888, 3412177804, 2607071920, 2262029012, 2685067896, 3183342108][l]?).getD 0
theorem nib_st : ∀ l, l < 16 → st4 l = nib l := by decide +kernel
theorem st4_eq (w : Nat) : st4 w = nib (w % 16) ^^^ (w / 16) := by
  conv => lhs; rw [split16 w]
  rw [st4_xor, st4_up, nib_st _ (Nat.mod_lt _ (by decide)), Nat.xor_comm]
theorem nib_lt : ∀ l, l < 16 → nib l < 4294967296 := by decide +kernel
theorem st_lt {w : Nat} (h : w < 4294967296) : st w < 4294967296 := by
  unfold st
  split
  · omega
  · exact Nat.xor_lt_two_pow (n := 32) (by omega) (by decide)
theorem st4_lt {w : Nat} (h : w < 4294967296) : st4 w < 4294967296 := st_lt (st_lt (st_lt (st_lt h)))
def byF (w : Nat) (b : UInt8) : Nat := st4 (st4 (w ^^^ b.toNat))
theorem byF_lt {w : Nat} (h : w < 4294967296) (b : UInt8) : byF w b < 4294967296 := st4_lt (st4_lt (Nat.xor_lt_two_pow (n := 32) h (by have := b.toNat_lt; omega)))
def runF (w : Nat) (l : List UInt8) : Nat := l.foldl byF w
theorem runF_lt : ∀ (l : List UInt8) {w : Nat}, w < 4294967296 → runF w l < 4294967296
  | [], w, h => h
  | b :: l, w, h => runF_lt l (byF_lt h b)
def crcF (s : ByteArray) : Nat := runF 4294967295 s.data.toList ^^^ 4294967295
theorem crcF_lt (s : ByteArray) : crcF s < 4294967296 := Nat.xor_lt_two_pow (n := 32) (runF_lt _ (by decide)) (by decide)
theorem take_snocP {α : Type} {l : List α} {i : Nat} {e : α} (he : l[i]? = some e) : l.take (i + 1) = l.take i ++ [e] := by rw [List.take_add_one, he]; rfl
theorem runF_snoc {w : Nat} {l : List UInt8} {i : Nat} {b : UInt8} (h : l[i]? = some b) : runF w (l.take (i + 1)) = byF (runF w (l.take i)) b := by
  unfold runF
  rw [take_snocP h, List.foldl_append]; rfl
section
variable {w : World}
def nibV : List Value := [.int .u32 0, .int .u32 498536548, .int .u32 997073096, .int .u32 651767980, .int .u32 1994146192, .int .u32 1802195444, .int .u32 1303535960, .int .u32 1342533948, .int .u32 3988292384, .int .u32 4027552580, .int .u32 3604390888, .int .u32 3412177804, .int .u32 2607071920, .int .u32 2262029012, .int .u32 2685067896, .int .u32 3183342108]
theorem nibV_at : ∀ l, l < 16 → nibV[l]? = some (.int .u32 ((nib l : Nat) : Int)) := by
  intro l hl
  match l, hl with
  | 0, _ => rfl
  | 1, _ => rfl
  | 2, _ => rfl
  | 3, _ => rfl
  | 4, _ => rfl
  | 5, _ => rfl
  | 6, _ => rfl
  | 7, _ => rfl
  | 8, _ => rfl
  | 9, _ => rfl
  | 10, _ => rfl
  | 11, _ => rfl
  | 12, _ => rfl
  | 13, _ => rfl
  | 14, _ => rfl
  | 15, _ => rfl
  | n + 16, h => exact absurd h (by omega)
theorem idxS_at {s : ByteArray} {i : Nat} {b : UInt8} (h : s.data.toList[i]? = some b) : idxS (.string s) (.int .i64 i) = some (.int .u8 (b.toNat : Int)) := by
  obtain ⟨h1, h2⟩ := List.getElem?_eq_some_iff.1 h
  have hs : i < s.size := by
    show i < s.data.size
    rw [← Array.length_toList]; exact h1
  have hg : s[i] = b := by rw [← h2]; rfl
  simp [idxS, hs, hg]
theorem nib_ld (hn : bk w 0 = some nibV) {k : Nat} (hk : k < 16) : ld1 (.pointer (some (({ block := 0, off := 0 } : Addr).add k))) w = some (.int .u32 ((nib k : Nat) : Int)) := by
  have e : ({ block := 0, off := 0 } : Addr).add k = ⟨0, k, none⟩ := by simp [Addr.add]; exact fun h => h.symm
  rw [e, ld1_ptr, hn]
  exact nibV_at k hk
theorem through_run (hn : bk w 0 = some nibV) (s : ByteArray) (hs : s.size ≤ 4611686018427387904) {c : Nat} (hc : c < 4294967296) :
    Run (F.digest_through (.int .u32 c) (.string s)) w fun r w' => r = .int .u32 ((runF c s.data.toList : Nat) : Int) ∧ w' = w := by
  unfold F.digest_through
  simp only [Run_bind]
  have hl : s.data.toList.length = s.size := Array.length_toList
  refine Run_for s.size (fun i L w' => L = [.int .u32 ((runF c (s.data.toList.take i) : Nat) : Int), .int .i64 i] ∧ w' = w) ⟨rfl, rfl⟩ ?_ ?_
  · rintro i L w1 hi ⟨rfl, hw⟩
    rw [hw]
    have hi' : (i : Int) < s.size := by omega
    have ei : s.data.toList[i]? = some s.data.toList[i] := List.getElem?_eq_getElem (by omega)
    generalize s.data.toList[i] = b at ei
    rw [runF_snoc ei]
    have hr := runF_lt (s.data.toList.take i) hc
    generalize runF c (s.data.toList.take i) = u at hr
    have hb := b.toNat_lt
    have hx : u ^^^ b.toNat < 4294967296 := Nat.xor_lt_two_pow (n := 32) hr (by omega)
    have wi := wrap_succ' (n := i) (by omega)
    have cb : IntKind.u32.wrap (b.toNat : Int) = b.toNat := u32W (by omega)
    have e1 := st4_eq (u ^^^ b.toNat)
    have hy := st4_lt hx
    have e2 := st4_eq (st4 (u ^^^ b.toNat))
    have n1 := nibV_at _ (Nat.mod_lt (u ^^^ b.toNat) (show 0 < 16 by decide))
    have n2 := nibV_at _ (Nat.mod_lt (st4 (u ^^^ b.toNat)) (show 0 < 16 by decide))
    have m1 := nib_lt _ (Nat.mod_lt (u ^^^ b.toNat) (show 0 < 16 by decide))
    have m2 := nib_lt _ (Nat.mod_lt (st4 (u ^^^ b.toNat)) (show 0 < 16 by decide))
    have l1 : (u ^^^ b.toNat) % 16 < 16 := Nat.mod_lt _ (by decide)
    have l2 : st4 (u ^^^ b.toNat) % 16 < 16 := Nat.mod_lt _ (by decide)
    unfold byF
    rw [e2]
    generalize hX : u ^^^ b.toNat = X at *
    have x1 := binV_xor32 (a := nib (X % 16)) (b := X / 16) m1 (by omega)
    rw [← e1] at x1
    generalize hY : st4 X = Y at *
    have x2 := binV_xor32 (a := nib (Y % 16)) (b := Y / 16) m2 (by omega)
    have x0 := binV_xor32 (a := u) (b := b.toNat) hr (by omega)
    rw [hX] at x0
    have j1 : ((X % 16 : Nat) : Int) < 16 := by omega
    have j2 : ((Y % 16 : Nat) : Int) < 16 := by omega
    have a1 := binV_and15 (a := X) hx
    have a2 := binV_and15 (a := Y) hy
    have s1 := shV_four (a := X)
    have s2 := shV_four (a := Y)
    simp [-ldA_ptr, -Int.natCast_emod, -Int.natCast_ediv, hi', idxS_at ei, cb, x0, a1, idxR, l1, l2, j1, j2, nib_ld hn l1, s1, x1, a2, nib_ld hn l2, s2, x2, wi]
  · rintro L w1 ⟨rfl, hw⟩
    rw [hw, ← hl, List.take_length]
    simp
theorem cpl32 {u : Nat} (hu : u < 4294967296) : cplV (.int .u32 u) = some (.int .u32 ((u ^^^ 4294967295 : Nat) : Int)) := by
  have h := Nat.xor_lt_two_pow (n := 32) (show u < 2 ^ 32 from hu) (show 4294967295 < 2 ^ 32 by decide)
  rw [cplV_int]
  have e : (if IntKind.u32.signed = true then (-1 : Int) else IntKind.u32.max) = ((4294967295 : Nat) : Int) := by decide
  rw [e, bv_xor (n := IntKind.u32.bits) (show 4294967295 < 2 ^ 32 by decide) (show u < 2 ^ 32 from hu), Nat.xor_comm, u32W h]
theorem crc_run (hn : bk w 0 = some nibV) {v : Value} {s : ByteArray} (hv : Sl 1 w v [[.string s]]) (hs : s.size ≤ 4611686018427387904) :
    Run (F.digest_CRC v) w fun r w' => r = .int .i64 ((crcF s : Nat) : Int) ∧ w' = w := by
  unfold F.digest_CRC
  have hlen := hv.lenL
  simp only [List.length_singleton] at hlen
  rw [hlen]
  simp only [Run_bindO_some, Run_bind]
  refine Run_for 1 (fun i L w' => L = [.int .u32 ((if i = 0 then 4294967295 else runF 4294967295 s.data.toList : Nat) : Int), .int .i64 i] ∧ w' = w) ⟨rfl, rfl⟩ ?_ ?_
  · rintro i L w1 hi ⟨rfl, hw⟩
    rw [hw]
    obtain rfl : i = 0 := by omega
    obtain ⟨p, p1, p2⟩ := hv.rd1 (i := 0) (y := .string s) (by simp) .i64
    have p1' : idxA 1 v (.int .i64 0) = some p := p1
    simp [-ldA_ptr, p1', p2]
    refine (through_run hn s hs (show 4294967295 < 4294967296 by decide)).mono ?_
    rintro _ w2 ⟨rfl, hw2⟩
    rw [hw2]
    have w1 : IntKind.i64.wrap 1 = 1 := by decide
    simp [w1]
  · rintro L w1 ⟨rfl, hw⟩
    rw [hw]
    have hr := runF_lt s.data.toList (w := 4294967295) (by decide)
    have hc := crcF_lt s
    have h64 := i64W (n := crcF s) (by omega)
    simp [cpl32 hr, crcF] at h64 ⊢
    exact h64
theorem rstep_run (a : Nat) (ha : a < 4294967296) : Run (F.granaryref2_step (.int .i64 a)) w fun r w' => r = .int .i64 ((st a : Nat) : Int) ∧ w' = w := by
  unfold F.granaryref2_step
  have h2 : (2 : Int) = ((2 : Nat) : Int) := rfl
  have e1 := rem_nat (a := a) (b := 2) (k := .i64) (by decide)
  have e2 := quo_nat (a := a) (b := 2) (k := .i64) (by decide) (i64W (by omega))
  have x := binV_xor64 (a := a / 2) (b := 3988292384) (by omega) (by decide)
  rw [← h2] at e1 e2
  unfold st PLY
  by_cases h : a % 2 = 0
  · simp [-Int.natCast_emod, -Int.natCast_ediv, e1, e2, h]
  · have h' : ¬ ((a % 2 : Nat) : Int) = 0 := by omega
    simp only [binV_int, e1, e2, Run_bindO_some, intBin_eql, h', decide_false, Run_condM_false, if_neg h]
    have x' : intBin .xor .i64 ((a / 2 : Nat) : Int) 3988292384 = some (.int .i64 ((a / 2 ^^^ 3988292384 : Nat) : Int)) := x
    rw [x']
    simp
theorem rcrc_run (s : ByteArray) (hs : s.size ≤ 4611686018427387904) : Run (F.granaryref2_CRC (.string s)) w fun r w' => r = .int .i64 ((crcF s : Nat) : Int) ∧ w' = w := by
  unfold F.granaryref2_CRC
  simp only [Run_bind]
  have hl : s.data.toList.length = s.size := Array.length_toList
  refine Run_for s.size (fun i L w' => L = [.int .i64 ((runF 4294967295 (s.data.toList.take i) : Nat) : Int), .int .i64 i] ∧ w' = w) ⟨rfl, rfl⟩ ?_ ?_
  · rintro i L w1 hi ⟨rfl, hw⟩
    rw [hw]
    have hi' : (i : Int) < s.size := by omega
    have ei : s.data.toList[i]? = some s.data.toList[i] := List.getElem?_eq_getElem (by omega)
    generalize s.data.toList[i] = b at ei
    rw [runF_snoc ei]
    have hr := runF_lt (s.data.toList.take i) (w := 4294967295) (by decide)
    generalize runF 4294967295 (s.data.toList.take i) = u at hr
    have hb := b.toNat_lt
    have hx : u ^^^ b.toNat < 4294967296 := Nat.xor_lt_two_pow (n := 32) hr (by omega)
    have wi := wrap_succ' (n := i) (by omega)
    have cb : IntKind.i64.wrap (b.toNat : Int) = b.toNat := i64W (by omega)
    have x0 := binV_xor64 (a := u) (b := b.toNat) hr (by omega)
    unfold byF
    generalize u ^^^ b.toNat = X at *
    simp [-ldA_ptr, hi', idxS_at ei, cb, x0]
    refine Run_for 8 (fun k L w' => L = [.int .i64 ((Nat.repeat st k X : Nat) : Int), .int .i64 k] ∧ w' = w) ⟨rfl, rfl⟩ ?_ ?_
    · rintro k L w2 hk ⟨rfl, hw2⟩
      rw [hw2]
      have hkl : ∀ k, Nat.repeat st k X < 4294967296 := fun k => by
        induction k with
        | zero => exact hx
        | succ k ih => exact st_lt ih
      have hk' : (k : Int) < 8 := by omega
      have wk := wrap_succ' (n := k) (by omega)
      simp [hk']
      refine (rstep_run _ (hkl k)).mono ?_
      rintro _ w3 ⟨rfl, hw3⟩
      rw [hw3]
      simp [wk]
      rfl
    · rintro L w2 ⟨rfl, hw2⟩
      rw [hw2]
      simp [wi]
      rfl
  · rintro L w1 ⟨rfl, hw⟩
    rw [hw, ← hl, List.take_length]
    have hr := runF_lt s.data.toList (w := 4294967295) (by decide)
    have x := binV_xor64 (a := runF 4294967295 s.data.toList) (b := 4294967295) hr (by decide)
    have x' : intBin .xor .i64 ((runF 4294967295 s.data.toList : Nat) : Int) 4294967295 = some (.int .i64 ((runF 4294967295 s.data.toList ^^^ 4294967295 : Nat) : Int)) := x
    simp [x', crcF, hl]
end
end Go.Proofs.YthlpfhjcdedhgaaDoor

/-
  Layer 4 (paper): part B: eight digits of a sum, on both sides.
-/
namespace Go.Proofs.YthlpfhjcdedhgaaDoor
open Go.Lift
set_option linter.unusedSimpArgs false
set_option linter.unusedVariables false
set_option maxHeartbeats 4000000
def by8 (b : UInt8) : Value := .int .u8 b.toNat
theorem bytesV_by8 : ∀ (l : List UInt8), bytesV (l.map by8) = some l
  | [] => rfl
  | b :: l => by
    have ih := bytesV_by8 l
    show bytesV (Value.int .u8 (b.toNat : Int) :: l.map by8) = _
    unfold bytesV
    simp [ih]
theorem by8_cell (b : UInt8) : isCell (by8 b) = true := rfl
def DIG : ByteArray := ByteArray.mk #[48, 49, 50, 51, 52, 53, 54, 55, 56, 57, 97, 98, 99, 100, 101, 102]
def hexd (k : Nat) : UInt8 := (DIG.data.toList[k]?).getD 0
theorem idx_DIG {k : IntKind} {i : Nat} (h : i < 16) : idxS (.string DIG) (.int k i) = some (by8 (hexd i)) := by
  have hs : DIG.size = 16 := by decide +kernel
  have h' : i < DIG.size := by omega
  have e : DIG[i] = hexd i := by
    unfold hexd
    rw [List.getElem?_eq_getElem (show i < DIG.data.toList.length by rw [Array.length_toList]; exact h')]
    rfl
  simp [idxS, h', e, by8]
/-- The last k digits. -/
def lowD (n : Nat) : Nat → List UInt8
  | 0 => []
  | k + 1 => hexd (n / 16 ^ k % 16) :: lowD n k
theorem lowD_len (n : Nat) : ∀ k, (lowD n k).length = k
  | 0 => rfl
  | k + 1 => by simp [lowD, lowD_len n k]
def eightL (n : Nat) : List UInt8 := lowD n 8
def eightS (n : Nat) : ByteArray := ⟨(eightL n).toArray⟩
theorem eightS_size (n : Nat) : (eightS n).size = 8 := by
  show (eightL n).toArray.size = 8
  rw [List.size_toArray]; exact lowD_len n 8
section
variable {w w1 w2 : World}
/-- The first digits, from the highest on. -/
def topD (n : Nat) : Nat → List UInt8
  | 0 => []
  | k + 1 => topD n k ++ [hexd (n / 16 ^ (7 - k) % 16)]
theorem topD_eight (n : Nat) : topD n 8 = eightL n := by simp [topD, eightL, lowD]
theorem topD_len (n : Nat) : ∀ k, (topD n k).length = k
  | 0 => rfl
  | k + 1 => by simp [topD, topD_len n k]
/-- A row of bytes of one's own. -/
structure OwnB (w w1 : World) (v : Value) (l : List UInt8) : Prop where
  sl : SlW 1 w1 v (l.map fun b => [by8 b])
  fresh : ∀ c, inB v c → w.heap.size ≤ c ∧ c < w1.heap.size
  fr : Fr (fun _ => False) w w1
theorem OwnB.nil (w : World) : OwnB w w (.slice none 0 0) [] := ⟨SlW.nil _ _, fun _ h => h.elim, Fr.refl _ _⟩
theorem ownB_app {v : Value} {l : List UInt8} (h : OwnB w w1 v l) (b : UInt8) {a1 a2 : Nat} (hl : l.length ≤ 33554432) {K : Value → World → Prop} (q : ∀ r w2, OwnB w w2 r (l ++ [b]) → K r w2) :
    Run (bslM a1 1 (Builtin.zeroCells #[(Value.int IntKind.u8 0)] 1) [(0, 1, by8 b)]) w1 fun a w2 => Run (appM a2 1 1 #[(Value.int IntKind.u8 0)] v a) w2 fun r w' => K r w' := by
  refine Run_app1 (K := fun _ r w' => K r w') (k := 1) (y := by8 b) rfl h.sl (by decide) rfl (by decide) rfl (by simp only [List.length_map]; omega) fun r w2 hr f2 hin w3 f3 => q r w2 ?_
  have s := f2.size
  refine ⟨by simpa [by8] using hr, fun c hc => ?_, h.fr.new f2 fun c hc => (h.fresh c hc).1⟩
  have s0 := h.fr.size
  rcases hin c hc with hc | hc
  · have := h.fresh c hc; omega
  · omega
theorem ownB_text {v : Value} {l : List UInt8} (h : Sl 1 w1 v (l.map fun b => [by8 b])) : bsR v w1 = some (.string ⟨l.toArray⟩) := by
  obtain ⟨a, c, e, hc⟩ := h.2
  have hfl : (l.map fun b => [by8 b]).flatten = l.map by8 := by
    clear h e hc
    induction l with
    | nil => rfl
    | cons b l ih => simp only [List.map_cons, List.flatten_cons, ih]; rfl
  rw [e] at h ⊢
  have hn := ldN_sl h
  rw [hfl] at hn
  cases a with
  | none =>
    rcases hc.2 with hc' | ⟨b, o, l', h4, _⟩
    · have : l = [] := by
        have := hc.1
        rw [List.length_map] at this
        exact List.eq_nil_of_length_eq_zero (by omega)
      subst this; rfl
    · cases h4
  | some ad =>
    simp only [firstN, List.length_map, Nat.mul_one] at hn
    simp only [bsR, List.length_map, hn, bytesV_by8]
theorem eight_run (n : Nat) (hn : n < 4294967296) : Run (F.granaryref4_eight (.int .i64 n)) w fun r w' => r = .string (eightS n) ∧ Fr (fun _ => False) w w' := by
  unfold F.granaryref4_eight
  have eD : ByteArray.mk #[48, 49, 50, 51, 52, 53, 54, 55, 56, 57, 97, 98, 99, 100, 101, 102] = DIG := rfl
  rw [eD]
  simp only [Run_bind]
  refine Run_for 8 (fun i L w' => ∃ m, L = [m, .int .i64 (7 - (i : Int))] ∧ OwnB w w' m (topD n i)) ⟨_, rfl, OwnB.nil w⟩ ?_ ?_
  · rintro i L w1 hi ⟨m, rfl, hI⟩
    have hge : (0 : Int) ≤ 7 - (i : Int) := by omega
    simp only [getL_zero, getL_succ, binV_int, intBin_geq, ge_iff_le, hge, decide_true, Run_bindO_some, Run_condM_true, Run_bind]
    refine Run_for (7 - i) (fun k L w' => L = [.int .i64 ((16 ^ k : Nat) : Int), .int .i64 k] ∧ w' = w1) ⟨rfl, rfl⟩ ?_ ?_
    · rintro k L w2 hk ⟨rfl, hw2⟩
      rw [hw2]
      have hk' : (k : Int) < 7 - (i : Int) := by omega
      have wk := wrap_succ' (n := k) (by omega)
      have hp : 16 ^ (k + 1) ≤ 16 ^ 7 := Nat.pow_le_pow_right (by decide) (by omega)
      have hm : IntKind.i64.wrap (16 * ((16 ^ k : Nat) : Int)) = ((16 ^ (k + 1) : Nat) : Int) := by
        have : 16 * ((16 ^ k : Nat) : Int) = ((16 ^ (k + 1) : Nat) : Int) := by rw [Nat.pow_succ]; omega
        rw [this]; exact i64W (by omega)
      simp [-Int.natCast_pow, hk', wk, hm]
    · rintro L w2 ⟨rfl, hw2⟩
      rw [hw2]
      have h0 : ((7 - i : Nat) : Int) = 7 - (i : Int) := by omega
      have hpos : 0 < 16 ^ (7 - i) := Nat.pow_pos (by decide)
      have q1 := quo_nat (a := n) (b := 16 ^ (7 - i)) (k := .i64) (by omega) (i64W (by have := Nat.div_le_self n (16 ^ (7 - i)); omega))
      have q2 := rem_nat (a := n / 16 ^ (7 - i)) (b := 16) (k := .i64) (by decide)
      have q2' : intBin .rem .i64 ((n / 16 ^ (7 - i) : Nat) : Int) 16 = some (.int .i64 ((n / 16 ^ (7 - i) % 16 : Nat) : Int)) := q2
      have ix := idx_DIG (k := .i64) (i := n / 16 ^ (7 - i) % 16) (Nat.mod_lt _ (by decide))
      have ws : IntKind.i64.wrap (7 - (i : Int) - 1) = 7 - ((i + 1 : Nat) : Int) := by
        rw [show 7 - (i : Int) - 1 = 7 - ((i + 1 : Nat) : Int) by omega]
        simp [IntKind.wrap, IntKind.bits, IntKind.signed]; omega
      simp [-ldA_ptr, -Int.natCast_pow, -Int.natCast_emod, -Int.natCast_ediv, h0, q1, q2', ix]
      refine ownB_app hI (hexd (n / 16 ^ (7 - i) % 16)) (by rw [topD_len]; omega) fun r w3 h3 => ?_
      simp [ws]
      exact h3
  · rintro L w1 ⟨m, rfl, hI⟩
    have hge : ¬ (0 : Int) ≤ 7 - ((8 : Nat) : Int) := by omega
    have ht := ownB_text hI.sl.1
    rw [topD_eight] at ht
    simp only [getL_zero, getL_succ, binV_int, intBin_geq, ge_iff_le, hge, decide_false, Run_bindO_some, Run_condM_false, Run_ret]
    simp [ht]
    exact ⟨rfl, hI.fr⟩
end
end Go.Proofs.YthlpfhjcdedhgaaDoor

/-
  Layer 4 (paper): part C: eight digits of a sum, as the program writes them.
-/
namespace Go.Proofs.YthlpfhjcdedhgaaDoor
open Go.Lift
set_option linter.unusedSimpArgs false
set_option linter.unusedVariables false
set_option maxHeartbeats 4000000
theorem ex_len : ∀ n : Nat, ∃ J, n / 16 ^ J < 16 ∧ ∀ j, j < J → 16 ≤ n / 16 ^ j := by
  intro n
  induction n using Nat.strongRecOn with
  | _ n ih =>
    by_cases h : n < 16
    · exact ⟨0, by simpa using h, fun j hj => absurd hj (by omega)⟩
    · obtain ⟨J, h1, h2⟩ := ih (n / 16) (by omega)
      have e : ∀ k, n / 16 ^ (k + 1) = n / 16 / 16 ^ k := fun k => by rw [Nat.div_div_eq_div_mul, Nat.pow_succ, Nat.mul_comm]
      refine ⟨J + 1, by rw [e]; exact h1, fun j hj => ?_⟩
      cases j with
      | zero => simpa using Nat.not_lt.1 h
      | succ k => rw [e]; exact h2 k (by omega)
theorem len_le {n J : Nat} (hn : n < 4294967296) (h : ∀ j, j < J → 16 ≤ n / 16 ^ j) : J ≤ 7 := Nat.not_lt.1 fun h8 => by
  have := h 7 h8
  have e : (16 : Nat) ^ 7 = 268435456 := by decide
  rw [e] at this
  omega
theorem hexd0 : hexd 0 = 48 := by decide +kernel
theorem lowD_more {n k : Nat} (h : n / 16 ^ k = 0) : ∀ m, lowD n (k + m) = List.replicate m 48 ++ lowD n k
  | 0 => rfl
  | m + 1 => by
    have e : n / 16 ^ (k + m) = 0 := by
      rw [Nat.pow_add, ← Nat.div_div_eq_div_mul, h, Nat.zero_div]
    show hexd (n / 16 ^ (k + m) % 16) :: lowD n (k + m) = _
    rw [e, lowD_more h m, Nat.zero_mod, hexd0]
    rfl
section
variable {w w1 w2 : World}
def rowV (n j : Nat) : List Value := (List.replicate (65 - j) 0 ++ lowD n j).map by8
theorem rowV_len (n j : Nat) (hj : j ≤ 65) : (rowV n j).length = 65 := by
  unfold rowV
  rw [List.length_map, List.length_append, List.length_replicate, lowD_len]; omega
theorem rowV_set (n j : Nat) (hj : j < 65) : setL (rowV n j) (64 - j) [by8 (hexd (n / 16 ^ j % 16))] = rowV n (j + 1) := by
  have e : rowV n j = (List.replicate (64 - j) 0).map by8 ++ (by8 0 :: (lowD n j).map by8) := by
    unfold rowV
    rw [show 65 - j = (64 - j) + 1 by omega, List.replicate_succ', List.append_assoc, List.map_append]
    rfl
  have e2 : rowV n (j + 1) = (List.replicate (64 - j) 0).map by8 ++ (by8 (hexd (n / 16 ^ j % 16)) :: (lowD n j).map by8) := by
    unfold rowV
    rw [show 65 - (j + 1) = 64 - j by omega, List.map_append]
    rfl
  rw [e, e2]
  have hl : ((List.replicate (64 - j) (0 : UInt8)).map by8).length = 64 - j := by rw [List.length_map, List.length_replicate]
  simp only [setL_cons, setL_nil]
  rw [List.set_append_right _ _ (by omega), hl, Nat.sub_self]
  rfl
/-- The table of math/bits, as far as it is asked here. -/
def BitsTab (w : World) : Prop := ∃ l, bk w 4 = some l ∧ l[15]? = some (.int .u8 4)
theorem isPow16 {w : World} {Q : Value → World → Prop} (q : Q (.bool true) w) : Run (F.strconv_isPowerOfTwo (.int .i64 16)) w Q := by
  unfold F.strconv_isPowerOfTwo
  have e1 : intBin .sub .i64 16 1 = some (.int .i64 15) := by kernel_rfl
  have e2 : intBin .and .i64 16 15 = some (.int .i64 0) := by kernel_rfl
  simp only [binV_int, e1, e2, Run_bindO_some, intBin_eql, decide_true, Run_ret]
  exact q
theorem trail16 (ht : BitsTab w) {Q : Value → World → Prop} (q : Q (.int .i64 4) w) : Run (F.bits_TrailingZeros (.int .u64 16)) w Q := by
  obtain ⟨l, h1, h2⟩ := ht
  unfold F.bits_TrailingZeros F.bits_TrailingZeros64
  have e0 : negV (.int .u64 16) = some (.int .u64 18446744073709551600) := by kernel_rfl
  have e1 : intBin .and .u64 16 18446744073709551600 = some (.int .u64 16) := by kernel_rfl
  have e2 : intBin .mul .u64 16 285870213051353865 = some (.int .u64 4573923408821661840) := by kernel_rfl
  have e3 : shV .shr (.int .u64 4573923408821661840) (.int .u64 58) = some (.int .u64 15) := by kernel_rfl
  have w4 : IntKind.i64.wrap 4 = 4 := by decide
  have h16 : ¬ ((16 : Int) = 0) := by decide
  have ea : idxR 64 1 (.pointer (some ({ block := 4, off := 0, spot := none } : Addr))) (.int .u64 15) = some (.pointer (some (⟨4, 15, none⟩ : Addr))) := by kernel_rfl
  simp only [Run_condM_false, Run_bind, binV_int, intBin_eql, h16, decide_false, Run_bindO_some, e0, e1, e2, e3, ea]
  simp [-ldA_ptr, h1, h2, w4]
  exact q
theorem shr4 {n : Nat} : shV .shr (.int .u64 n) (.int .u64 4) = some (.int .u64 ((n / 16 : Nat) : Int)) := by
  have h : ¬ ((4 : Int) < 0) := by omega
  simp only [shV, h, if_false]
  rw [show (4 : Int).toNat = 4 from rfl, Nat.min_eq_left (by decide), Int.fdiv_eq_ediv_of_nonneg _ (by decide)]
  norm_cast
theorem and15_64 {n : Nat} (hn : n < 18446744073709551616) : intBin .and .u64 n 15 = some (.int .u64 ((n % 16 : Nat) : Int)) := by
  have h15 : ((15 : Int)) = ((15 : Nat) : Int) := rfl
  rw [h15]
  simp only [intBin]
  rw [bv_and (n := IntKind.u64.bits) (show n < 2 ^ 64 from hn) (show 15 < 2 ^ 64 by decide), show (15 : Nat) = 2 ^ 4 - 1 from rfl, Nat.and_two_pow_sub_one_eq_mod, u64W (by omega)]
def DIG36 : ByteArray := ByteArray.mk #[48, 49, 50, 51, 52, 53, 54, 55, 56, 57, 97, 98, 99, 100, 101, 102, 103, 104, 105, 106, 107, 108, 109, 110, 111, 112, 113, 114, 115, 116, 117, 118, 119, 120, 121, 122]
theorem idx_DIG36 {k : IntKind} {i : Nat} (h : i < 16) : idxS (.string DIG36) (.int k i) = some (by8 (hexd i)) := by
  have hs : DIG36.size = 36 := by decide +kernel
  have h' : i < DIG36.size := by omega
  have e : ∀ i, (h : i < 16) → DIG36.data.toList[i]? = DIG.data.toList[i]? := by decide +kernel
  have e2 : DIG36[i] = hexd i := by
    unfold hexd
    rw [← e i h, List.getElem?_eq_getElem (show i < DIG36.data.toList.length by rw [Array.length_toList]; exact h')]
    rfl
  simp [idxS, h', e2, by8]
theorem idxR_at {x k : Nat} (h : k < 65) : idxR 65 1 (.pointer (some ⟨x, 0, none⟩)) (.int .i64 (k : Int)) = some (.pointer (some ⟨x, k, none⟩)) := by
  rw [idxR_ptr, if_pos (by omega)]; simp
theorem sliceR_at {x k : Nat} (h : k < 65) : sliceR 65 1 (.pointer (some ⟨x, 0, none⟩)) (some (.int .i64 (k : Int))) none = some (.slice (some ⟨x, k, none⟩) (65 - k) (65 - k)) := by
  have b2 : boundV (.int .i64 (k : Int)) 65 = some k := by
    unfold boundV
    simp only
    rw [if_pos (by omega)]
    simp
  simp only [sliceR, highV, lowV, b2]
  rw [if_neg (by omega)]
  simp [Addr.add_lit]
theorem bits_run (ht : BitsTab w) {n J : Nat} (hn : n < 4294967296) (h1 : n / 16 ^ J < 16) (h2 : ∀ j, j < J → 16 ≤ n / 16 ^ j) :
    Run (F.strconv_formatBits (.slice none 0 0) (.int .u64 n) (.int .i64 16) (.bool false) (.bool false)) w fun r w' => r = .tuple #[.slice none 0 0, .string ⟨(lowD n (J + 1)).toArray⟩] ∧ Fr (fun _ => False) w w' := by
  unfold F.strconv_formatBits
  have eD : ByteArray.mk #[48, 49, 50, 51, 52, 53, 54, 55, 56, 57, 97, 98, 99, 100, 101, 102, 103, 104, 105, 106, 107, 108, 109, 110, 111, 112, 113, 114, 115, 116, 117, 118, 119, 120, 121, 122] = DIG36 := rfl
  rw [eD]
  have hJ := len_le hn h2
  have b1 : ¬ ((16 : Int) < 2) := by decide
  have b2 : ¬ ((16 : Int) = 10) := by decide
  have b3 : ¬ ((36 : Int) < 16) := by decide
  simp [-ldA_ptr, b1, b2, b3]
  refine Run_new fun x w1 hx hxw f1 hxle => ?_
  have hx0 : bk w1 x = some (rowV n 0) := hx
  have ht1 : BitsTab w1 := by
    obtain ⟨l, q1, q2⟩ := ht
    exact ⟨l, f1.bk_some q1 id, q2⟩
  refine isPow16 ?_
  simp [-ldA_ptr]
  have c16 : IntKind.u64.wrap 16 = 16 := by decide
  have c4 : IntKind.u64.wrap 4 = 4 := by decide
  have c15 : IntKind.u64.wrap 15 = 15 := by decide
  simp [-ldA_ptr, c16]
  refine trail16 ht1 ?_
  simp [-ldA_ptr, c16, c4, c15]
  refine Run_for J (fun j L w' => L = [.int .u64 ((n / 16 ^ j : Nat) : Int), .int .i64 ((65 - j : Nat) : Int)] ∧ bk w' x = some (rowV n j) ∧ wr w' x = true ∧ Fr (fun c => c = x) w1 w') ?_ ?_ ?_
  · exact ⟨by simp, hx0, hxw, Fr.refl _ _⟩
  · rintro j L w2 hj ⟨rfl, hb, hw, f2⟩
    have hg : (16 : Int) ≤ ((n / 16 ^ j : Nat) : Int) := by have := h2 j hj; omega
    have hd : n / 16 ^ j ≤ n := Nat.div_le_self _ _
    have a1 := and15_64 (n := n / 16 ^ j) (by omega)
    have ix := idx_DIG36 (k := .u64) (i := n / 16 ^ j % 16) (Nat.mod_lt _ (by decide))
    have s1 := shr4 (n := n / 16 ^ j)
    have wj : IntKind.i64.wrap (((65 - j : Nat) : Int) - 1) = ((64 - j : Nat) : Int) := by
      rw [show ((65 - j : Nat) : Int) - 1 = ((64 - j : Nat) : Int) by omega]; exact i64W (by omega)
    have hr := rowV_len n j (by omega)
    have ir := idxR_at (x := x) (k := 64 - j) (by omega)
    have hst := rowV_set n j (by omega)
    have hdd : n / 16 ^ j / 16 = n / 16 ^ (j + 1) := by rw [Nat.div_div_eq_div_mul, Nat.pow_succ]
    have hlt : 64 - j < (rowV n j).length := by omega
    have e65 : ((65 - (j + 1) : Nat) : Int) = ((64 - j : Nat) : Int) := by omega
    simp only [getL_zero, getL_succ, binV_int, intBin_geq, ge_iff_le, hg, decide_true, Run_bindO_some, Run_condM_true, Run_bind, intBin_sub, wj, a1, ix, s1, ir]
    simp [-ldA_ptr, -Int.natCast_pow, -Int.natCast_emod, -Int.natCast_ediv, hb, hw, hlt, by8_cell, hdd]
    exact ⟨rfl, fun i hi => by
      obtain rfl : i = 0 := by have : i < 1 := hi; omega
      rfl, by omega, hst, f2.sto (.inl rfl) _ _⟩
  · rintro L w2 ⟨rfl, hb, hw, f2⟩
    have hg : ¬ (16 : Int) ≤ ((n / 16 ^ J : Nat) : Int) := by omega
    have wj : IntKind.i64.wrap (((65 - J : Nat) : Int) - 1) = ((64 - J : Nat) : Int) := by
      rw [show ((65 - J : Nat) : Int) - 1 = ((64 - J : Nat) : Int) by omega]; exact i64W (by omega)
    have ix := idx_DIG36 (k := .u64) (i := n / 16 ^ J) h1
    have ir := idxR_at (x := x) (k := 64 - J) (by omega)
    have hr := rowV_len n J (by omega)
    have hlt : 64 - J < (rowV n J).length := by omega
    have sl := sliceR_at (x := x) (k := 64 - J) (by omega)
    simp only [getL_zero, getL_succ, binV_int, intBin_geq, ge_iff_le, hg, decide_false, Run_bindO_some, Run_condM_false, Run_bind, Run_ret]
    simp only [outK_exit, natBeq, decide_true, cond_true, getL_zero, getL_succ, binV_int, intBin_sub, wj, ix, Run_bindO_some, ir, Run_bind]
    simp [-ldA_ptr, -Int.natCast_pow, -Int.natCast_emod, -Int.natCast_ediv, hb, hw, hlt, by8_cell, sl]
    have hst := rowV_set n J (by omega)
    rw [Nat.mod_eq_of_lt h1] at hst
    have hb2 : bk (sto w2 x (64 - J) [by8 (hexd (n / 16 ^ J))]) x = some (rowV n (J + 1)) := by rw [bk_sto_eq, hb, ← hst]; rfl
    have hld : ldN (sto w2 x (64 - J) [by8 (hexd (n / 16 ^ J))]) ⟨x, 64 - J, none⟩ (65 - (64 - J)) = some ((lowD n (J + 1)).map by8) := by
      rw [ldN_bk hb2 (by rw [rowV_len n (J + 1) (by omega)]; omega)]
      congr 1
      unfold rowV
      rw [List.map_append, show 65 - (J + 1) = 64 - J by omega, List.drop_append_of_le_length (by simp), show 65 - (64 - J) = J + 1 by omega]
      rw [List.drop_of_length_le (by simp), List.nil_append, List.take_of_length_le (by simp [lowD_len])]
    refine ⟨rfl, fun i hi => by
      obtain rfl : i = 0 := by have : i < 1 := hi; omega
      rfl, by omega, _, ?_, rfl, ?_⟩
    · show bsR _ (sto w2 x (64 - J) [by8 (hexd (n / 16 ^ J))]) = _
      simp only [bsR, hld, bytesV_by8]
    · exact f1.new (f2.sto (.inl rfl) _ _) fun c hc => by rw [hc]; exact hxle
end
end Go.Proofs.YthlpfhjcdedhgaaDoor

/-
  Layer 4 (paper): part D: a sum's eight digits; a number's digits: that the program comes to an end.
-/
namespace Go.Proofs.YthlpfhjcdedhgaaDoor
open Go.Lift
set_option linter.unusedSimpArgs false
set_option linter.unusedVariables false
set_option maxHeartbeats 4000000
theorem strAdd {a c : ByteArray} (h : a.size + c.size ≤ 9223372036854775807) : binV .add (.string a) (.string c) = some (.string (a ++ c)) := by
  have hx : ¬ (((a.size + c.size : Nat) : Int) > IntKind.i64.max) := by
    have e : IntKind.i64.max = 9223372036854775807 := by decide
    rw [e]; omega
  show strBin .add a c = _
  simp only [strBin, hx, if_false]
section
variable {w w1 w2 : World}
theorem rep_zero : ∀ c : Nat, c ≤ 7 → F.strings_Repeat (.string (ByteArray.mk #[48])) (.int .i64 (c : Int)) w = some (.string ⟨(List.replicate c 48).toArray⟩, w)
  | 0, _ => by kernel_rfl
  | 1, _ => by kernel_rfl
  | 2, _ => by kernel_rfl
  | 3, _ => by kernel_rfl
  | 4, _ => by kernel_rfl
  | 5, _ => by kernel_rfl
  | 6, _ => by kernel_rfl
  | 7, _ => by kernel_rfl
  | c + 8, h => absurd h (by omega)
theorem hex8_run (ht : BitsTab w) {n : Nat} (hn : n < 4294967296) : Run (F.paper_hex8 (.int .i64 n)) w fun r w' => r = .string (eightS n) ∧ Fr (fun _ => False) w w' := by
  unfold F.paper_hex8 F.strconv_FormatInt F.strconv_FormatInt_64
  obtain ⟨J, h1, h2⟩ := ex_len n
  have hJ := len_le hn h2
  have c0 : IntKind.u64.wrap (n : Int) = n := u64W (by omega)
  have b1 : ¬ ((16 : Int) = 10) := by decide
  have b2 : ¬ ((n : Int) < 0) := by omega
  simp [-ldA_ptr, b1, b2, c0]
  refine (bits_run ht hn h1 h2).mono ?_
  rintro _ w1 ⟨rfl, f1⟩
  have hsz : (⟨(lowD n (J + 1)).toArray⟩ : ByteArray).size = J + 1 := by
    show (lowD n (J + 1)).toArray.size = J + 1
    rw [List.size_toArray]; exact lowD_len n _
  have hw : IntKind.i64.wrap (8 - ((J + 1 : Nat) : Int)) = ((7 - J : Nat) : Int) := by
    rw [show 8 - ((J + 1 : Nat) : Int) = ((7 - J : Nat) : Int) by omega]; exact i64W (by omega)
  have hr := rep_zero (w := w1) (7 - J) (by omega)
  have hz : n / 16 ^ (J + 1) = 0 := by
    rw [Nat.pow_succ, ← Nat.div_div_eq_div_mul]; exact Nat.div_eq_of_lt h1
  have hm := lowD_more hz (7 - J)
  rw [show J + 1 + (7 - J) = 8 by omega] at hm
  have he : (⟨(List.replicate (7 - J) (48 : UInt8)).toArray⟩ : ByteArray) ++ ⟨(lowD n (J + 1)).toArray⟩ = eightS n := by
    apply ByteArray.ext
    rw [ByteArray.data_append]
    show (List.replicate (7 - J) (48 : UInt8)).toArray ++ (lowD n (J + 1)).toArray = (lowD n 8).toArray
    rw [List.append_toArray, hm]
  have e1 : (#[Value.slice none 0 0, Value.string { data := (lowD n (J + 1)).toArray }] : Array Value)[0]? = some (Value.slice none 0 0) := rfl
  have e2 : (#[Value.slice none 0 0, Value.string { data := (lowD n (J + 1)).toArray }] : Array Value)[1]? = some (Value.string { data := (lowD n (J + 1)).toArray }) := rfl
  simp only [extV_tuple, e1, e2, Run_bindO_some, lenS_string, hsz, binV_int, intBin_sub, hw, Run_bind, Run_ret]
  refine ⟨_, _, hr, ?_⟩
  show Run (bindO (binV BinOp.add (.string ⟨(List.replicate (7 - J) (48 : UInt8)).toArray⟩) (.string ⟨(lowD n (J + 1)).toArray⟩)) fun x6 => M.ret x6) w1 _
  have hsr : (⟨(List.replicate (7 - J) (48 : UInt8)).toArray⟩ : ByteArray).size = 7 - J := by
    show (List.replicate (7 - J) (48 : UInt8)).toArray.size = _
    rw [List.size_toArray, List.length_replicate]
  rw [strAdd (by rw [hsr, hsz]; omega), Run_bindO_some, he]
  exact ⟨_, _, rfl, rfl, f1⟩
end
end Go.Proofs.YthlpfhjcdedhgaaDoor

/-
  Layer 4 (paper): part E: a number's digits: formatBase10 comes to an end, whatever it is handed.
-/
namespace Go.Proofs.YthlpfhjcdedhgaaDoor
open Go.Lift
set_option linter.unusedSimpArgs false
set_option linter.unusedVariables false
set_option maxHeartbeats 4000000
section
variable {w w1 w2 : World}
/-- A row of n bytes that may be written. -/
def Row (w : World) (v : Value) (n : Nat) : Prop := ∃ l : List UInt8, l.length = n ∧ SlW 1 w v (l.map fun b => [by8 b])
theorem Row.drew {v : Value} {n : Nat} (h : Row w v n) : Row w.drew v n := h
theorem Run_put {β : Type} {a0 : Value} {n : Nat} (h : Row w a0 n) {i : Int} (h0 : 0 ≤ i) (hi : i < n) {kd : IntKind} (b : UInt8) {K : M β} {Q : β → World → Prop} (q : ∀ w', Row w' a0 n → Run K w' Q) :
    Run (bindO (idxA 1 a0 (.int kd i)) fun p => M.bind (stM 1 p (by8 b)) fun _ => K) w Q := by
  obtain ⟨l, hl, hs⟩ := h
  obtain ⟨j, rfl⟩ : ∃ j : Nat, i = j := ⟨i.toNat, by omega⟩
  obtain ⟨y, hy⟩ : ∃ y, l[j]? = some y := ⟨l[j]'(by omega), List.getElem?_eq_getElem _⟩
  obtain ⟨bl, o, e1, _, _, ok, hp⟩ := hs.put (i := j) (e := [by8 y]) (by simp [hy]) kd
  have e1' : idxA 1 a0 (.int kd (j : Int)) = some (.pointer (some ⟨bl, o, none⟩)) := e1
  rw [e1', Run_bindO_some, Run_bind, Run_stM (by rfl) (by rfl) ok]
  refine q _ ⟨l.set j b, by rw [List.length_set]; exact hl, ?_⟩
  have := (hp 0 [by8 b] (by simp)).2
  rw [List.map_set]
  exact this
def DDS : ByteArray := ByteArray.mk #[48, 48, 48, 49, 48, 50, 48, 51, 48, 52, 48, 53, 48, 54, 48, 55, 48, 56, 48, 57, 49, 48, 49, 49, 49, 50, 49, 51, 49, 52, 49, 53, 49, 54, 49, 55, 49, 56, 49, 57, 50, 48, 50, 49, 50, 50, 50, 51, 50, 52, 50, 53, 50, 54, 50, 55, 50, 56, 50, 57, 51, 48, 51, 49, 51, 50, 51, 51, 51, 52, 51, 53, 51, 54, 51, 55, 51, 56, 51, 57, 52, 48, 52, 49, 52, 50, 52, 51, 52, 52, 52, 53, 52, 54, 52, 55, 52, 56, 52, 57, 53, 48, 53, 49, 53, 50, 53, 51, 53, 52, 53, 53, 53, 54, 53, 55, 53, 56, 53, 57, 54, 48, 54, 49, 54, 50, 54, 51, 54, 52, 54, 53, 54, 54, 54, 55, 54, 56, 54, 57, 55, 48, 55, 49, 55, 50, 55, 51, 55, 52, 55, 53, 55, 54, 55, 55, 55, 56, 55, 57, 56, 48, 56, 49, 56, 50, 56, 51, 56, 52, 56, 53, 56, 54, 56, 55, 56, 56, 56, 57, 57, 48, 57, 49, 57, 50, 57, 51, 57, 52, 57, 53, 57, 54, 57, 55, 57, 56, 57, 57]
theorem idxD {k : IntKind} {i : Nat} (h : i < 200) : ∃ b : UInt8, idxS (.string DDS) (.int k (i : Int)) = some (by8 b) := by
  have hs : DDS.size = 200 := by decide +kernel
  have h' : i < DDS.size := by omega
  exact ⟨DDS[i], by simp [idxS, h', by8]⟩
theorem i64I {a : Int} (h0 : 0 ≤ a) (h : a < 9223372036854775808) : IntKind.i64.wrap a = a := by simp [IntKind.wrap, IntKind.bits, IntKind.signed]; omega
theorem subI {i c : Int} (h0 : 0 ≤ i - c) (h : i - c < 9223372036854775808) : binV .sub (.int .i64 i) (.int .i64 c) = some (.int .i64 (i - c)) := by
  simp only [binV_int, intBin_sub, i64I h0 h]
theorem q100 {a : Nat} (h : a < 4294967296) : binV .quo (.int .u32 (a : Int)) (.int .u32 100) = some (.int .u32 ((a / 100 : Nat) : Int)) := quo_nat (b := 100) (by decide) (u32W (by omega))
theorem r100 {a : Nat} : binV .rem (.int .u32 (a : Int)) (.int .u32 100) = some (.int .u32 ((a % 100 : Nat) : Int)) := rem_nat (b := 100) (by decide)
theorem q10000 {a : Nat} (h : a < 4294967296) : binV .quo (.int .u32 (a : Int)) (.int .u32 10000) = some (.int .u32 ((a / 10000 : Nat) : Int)) := quo_nat (b := 10000) (by decide) (u32W (by omega))
theorem r10000 {a : Nat} : binV .rem (.int .u32 (a : Int)) (.int .u32 10000) = some (.int .u32 ((a % 10000 : Nat) : Int)) := rem_nat (b := 10000) (by decide)
theorem q1e8 {a : Nat} (h : a < 18446744073709551616) : binV .quo (.int .u64 (a : Int)) (.int .u64 100000000) = some (.int .u64 ((a / 100000000 : Nat) : Int)) := quo_nat (b := 100000000) (by decide) (u64W (by omega))
theorem r1e8 {a : Nat} : binV .rem (.int .u64 (a : Int)) (.int .u64 100000000) = some (.int .u64 ((a % 100000000 : Nat) : Int)) := rem_nat (b := 100000000) (by decide)
theorem m2 {a : Nat} (h : a < 100) : binV .mul (.int .u32 (a : Int)) (.int .u32 2) = some (.int .u32 ((a * 2 : Nat) : Int)) := by
  have e : (a : Int) * 2 = ((a * 2 : Nat) : Int) := by omega
  simp only [binV_int, intBin_mul]
  rw [e, u32W (by omega)]
theorem a1_ {a : Nat} (h : a < 4294967295) : binV .add (.int .u32 (a : Int)) (.int .u32 1) = some (.int .u32 ((a + 1 : Nat) : Int)) := by
  have e : (a : Int) + 1 = ((a + 1 : Nat) : Int) := by omega
  simp only [binV_int, intBin_add]
  rw [e, u32W (by omega)]
/-- Two digits. -/
theorem Run_two {β : Type} {a0 : Value} {n : Nat} (h : Row w a0 n) {i c1 c2 : Int} {d : Nat} (hi : i ≤ n) (hn : n < 4611686018427387904) (h1 : 1 ≤ c1 ∧ c1 ≤ i) (h2 : 1 ≤ c2 ∧ c2 ≤ i) (hd : d + 1 < 200) {K : M β} {Q : β → World → Prop} (q : ∀ w', Row w' a0 n → Run K w' Q) :
    Run (drewM <|
      bindO (binV BinOp.sub (.int .i64 i) (Value.int IntKind.i64 c1)) fun x17 =>
      bindO (binV BinOp.sub (.int .i64 i) (Value.int IntKind.i64 c2)) fun x18 =>
      bindO (binV BinOp.add (.int .u32 (d : Int)) (Value.int IntKind.u32 1)) fun x19 =>
      bindO (idxS (Value.string DDS) x19) fun x20 =>
      bindO (idxS (Value.string DDS) (.int .u32 (d : Int))) fun x21 =>
      bindO (idxA 1 a0 x17) fun x22 =>
      M.bind (stM 1 x22 x20) fun _ =>
      bindO (idxA 1 a0 x18) fun x24 =>
      M.bind (stM 1 x24 x21) fun _ => K) w Q := by
  obtain ⟨b1, e1⟩ := idxD (k := .u32) (i := d + 1) hd
  obtain ⟨b2, e2⟩ := idxD (k := .u32) (i := d) (by omega)
  rw [Run_drewM, subI (by omega) (by omega), Run_bindO_some, subI (by omega) (by omega), Run_bindO_some, a1_ (by omega), Run_bindO_some, e1, Run_bindO_some, e2, Run_bindO_some]
  exact Run_put h.drew (by omega) (by omega) b1 fun w1 h1 => Run_put h1 (by omega) (by omega) b2 q
end
end Go.Proofs.YthlpfhjcdedhgaaDoor

/-
  Layer 4 (paper): part F: a number's digits.
-/
namespace Go.Proofs.YthlpfhjcdedhgaaDoor
open Go.Lift
set_option linter.unusedSimpArgs false
set_option linter.unusedVariables false
set_option maxHeartbeats 4000000
section
variable {w w1 w2 : World}
theorem Row.lenL {v : Value} {n : Nat} (h : Row w v n) : lenL v = some (.int .i64 n) := by
  obtain ⟨l, hl, hs⟩ := h
  rw [hs.1.lenL, List.length_map, hl]
theorem geqT {k : IntKind} {a b : Int} (h : b ≤ a) : binV .geq (.int k a) (.int k b) = some (.bool true) := by simp [h]
theorem geqF {k : IntKind} {a b : Int} (h : ¬ b ≤ a) : binV .geq (.int k a) (.int k b) = some (.bool false) := by simp only [binV_int, intBin_geq, ge_iff_le, h, decide_false]
theorem fb10_run {a0 : Value} {n u : Nat} (h : Row w a0 n) (hn : n < 4611686018427387904) (h0 : 1 ≤ n) (hu : u < 18446744073709551616) : Run (F.strconv_formatBase10 a0 (.int .u64 u)) w fun _ w' => Row w' a0 n := by
  unfold F.strconv_formatBase10
  have eD : ByteArray.mk #[48, 48, 48, 49, 48, 50, 48, 51, 48, 52, 48, 53, 48, 54, 48, 55, 48, 56, 48, 57, 49, 48, 49, 49, 49, 50, 49, 51, 49, 52, 49, 53, 49, 54, 49, 55, 49, 56, 49, 57, 50, 48, 50, 49, 50, 50, 50, 51, 50, 52, 50, 53, 50, 54, 50, 55, 50, 56, 50, 57, 51, 48, 51, 49, 51, 50, 51, 51, 51, 52, 51, 53, 51, 54, 51, 55, 51, 56, 51, 57, 52, 48, 52, 49, 52, 50, 52, 51, 52, 52, 52, 53, 52, 54, 52, 55, 52, 56, 52, 57, 53, 48, 53, 49, 53, 50, 53, 51, 53, 52, 53, 53, 53, 54, 53, 55, 53, 56, 53, 57, 54, 48, 54, 49, 54, 50, 54, 51, 54, 52, 54, 53, 54, 54, 54, 55, 54, 56, 54, 57, 55, 48, 55, 49, 55, 50, 55, 51, 55, 52, 55, 53, 55, 54, 55, 55, 55, 56, 55, 57, 56, 48, 56, 49, 56, 50, 56, 51, 56, 52, 56, 53, 56, 54, 56, 55, 56, 56, 56, 57, 57, 48, 57, 49, 57, 50, 57, 51, 57, 52, 57, 53, 57, 54, 57, 55, 57, 56, 57, 57] = DDS := rfl
  rw [eD]
  rw [h.lenL, Run_bindO_some, Run_bind]
  refine Run_for (n / 8) (fun k L w' => (∃ u : Nat, u < 18446744073709551616 ∧ L = [.int .u64 u, .int .i64 ((n : Int) - 8 * k)]) ∧ Row w' a0 n) ?_ ?_ ?_
  · exact ⟨⟨u, hu, by simp⟩, h⟩
  · rintro k L w1 hk ⟨⟨u, hu, rfl⟩, hr⟩
    have hge : (8 : Int) ≤ (n : Int) - 8 * (k : Int) := by omega
    have c1 : IntKind.u32.wrap ((u % 100000000 : Nat) : Int) = ((u % 100000000 : Nat) : Int) := u32W (by omega)
    simp only [getL_zero, getL_succ]
    rw [geqT hge, Run_bindO_some, Run_condM_true, r1e8, Run_bindO_some, cvtI_int, c1, Run_bindO_some, q1e8 hu, Run_bindO_some]
    generalize hm : u % 100000000 = m
    have hml : m < 100000000 := by omega
    rw [q10000 (by omega), Run_bindO_some, r10000, Run_bindO_some, q100 (by omega), Run_bindO_some, m2 (by omega), Run_bindO_some, r100, Run_bindO_some, m2 (by omega), Run_bindO_some,
      q100 (by omega), Run_bindO_some, m2 (by omega), Run_bindO_some, r100, Run_bindO_some, m2 (by omega), Run_bindO_some]
    refine Run_two hr (by omega) hn (by omega) (by omega) (by omega) fun w2 hr => ?_
    refine Run_two hr (by omega) hn (by omega) (by omega) (by omega) fun w3 hr => ?_
    refine Run_two hr (by omega) hn (by omega) (by omega) (by omega) fun w4 hr => ?_
    refine Run_two hr (by omega) hn (by omega) (by omega) (by omega) fun w5 hr => ?_
    rw [subI (by omega) (by omega), Run_bindO_some, Run_ret]
    exact ⟨⟨u / 100000000, by omega, by rw [show (n : Int) - 8 * ((k + 1 : Nat) : Int) = n - 8 * (k : Int) - 8 by omega]⟩, hr⟩
  · rintro L w1 ⟨⟨u, hu, rfl⟩, hr⟩
    have hge : ¬ (8 : Int) ≤ (n : Int) - 8 * ((n / 8 : Nat) : Int) := by omega
    generalize hi : (n : Int) - 8 * ((n / 8 : Nat) : Int) = i at *
    have hi0 : 0 ≤ i := by omega
    have hin : i ≤ n := by omega
    simp only [getL_zero, getL_succ]
    rw [geqF hge, Run_bindO_some, Run_condM_false, Run_ret]
    have c1 : IntKind.u32.wrap (u : Int) = ((u % 4294967296 : Nat) : Int) := by simp [IntKind.wrap, IntKind.bits, IntKind.signed]
    generalize hm : u % 4294967296 = m at c1
    have hml : m < 4294967296 := by omega
    simp only [outK_exit, getL_zero, getL_succ]
    rw [show Nat.beq 0 0 = true from rfl, cond_true, cvtI_int, c1, Run_bindO_some, Run_bind]
    refine Run.mono (Q := fun o w' => ∃ i' m' : Nat, o = .norm [.int .i64 i', .int .u32 m'] ∧ i' ≤ n ∧ m' < 4294967296 ∧ Row w' a0 n) ?_ ?_
    · by_cases h4 : 4 ≤ i
      · rw [geqT h4, Run_bindO_some, Run_condM_true, r10000, Run_bindO_some, q10000 hml, Run_bindO_some, q100 (by omega), Run_bindO_some, m2 (by omega), Run_bindO_some, r100, Run_bindO_some, m2 (by omega), Run_bindO_some]
        refine Run_two hr (by omega) hn (by omega) (by omega) (by omega) fun w2 hr => ?_
        refine Run_two hr (by omega) hn (by omega) (by omega) (by omega) fun w3 hr => ?_
        rw [subI (by omega) (by omega), Run_bindO_some, Run_ret]
        exact ⟨(i - 4).toNat, m / 10000, by rw [Int.toNat_of_nonneg (by omega)], by omega, by omega, hr⟩
      · rw [geqF h4, Run_bindO_some, Run_condM_false, Run_ret]
        exact ⟨i.toNat, m, by rw [Int.toNat_of_nonneg (by omega)], by omega, by omega, hr⟩
    · rintro _ w2 ⟨i', m', rfl, hi', hm', hr⟩
      simp only [outK_norm, getL_zero, getL_succ]
      rw [Run_bind]
      refine Run.mono (Q := fun o w' => ∃ i' m' : Nat, o = .norm [.int .i64 i', .int .u32 m'] ∧ i' ≤ n ∧ m' < 4294967296 ∧ Row w' a0 n) ?_ ?_
      · by_cases h2 : (2 : Int) ≤ i'
        · rw [geqT h2, Run_bindO_some, Run_condM_true, r100, Run_bindO_some, m2 (by omega), Run_bindO_some, q100 hm', Run_bindO_some]
          refine Run_two hr (by omega) hn (by omega) (by omega) (by omega) fun w3 hr => ?_
          rw [subI (by omega) (by omega), Run_bindO_some, Run_ret]
          exact ⟨i' - 2, m' / 100, by rw [show ((i' - 2 : Nat) : Int) = (i' : Int) - 2 by omega], by omega, by omega, hr⟩
        · rw [geqF h2, Run_bindO_some, Run_condM_false, Run_ret]
          exact ⟨i', m', rfl, by omega, by omega, hr⟩
      · rintro _ w3 ⟨i2, m2, rfl, hi2, hm2, hr⟩
        simp only [outK_norm, getL_zero, getL_succ, binV_int, intBin_gtr, gt_iff_lt, Run_bindO_some, intBin_add, cvtI_int]
        by_cases hp : (0 : Int) < i2
        · simp only [hp, decide_true, Run_condM_true]
          generalize hz : IntKind.u8.wrap (IntKind.u32.wrap (48 + (m2 : Int))) = z
          obtain ⟨b, rfl⟩ : ∃ b : UInt8, z = (b.toNat : Int) := by
            have hz8 : 0 ≤ z ∧ z < 256 := by rw [← hz]; simp [IntKind.wrap, IntKind.bits, IntKind.signed]; omega
            exact ⟨UInt8.ofNat z.toNat, by simp; omega⟩
          rw [Run_bindO_some, cvtI_int, hz, Run_bindO_some]
          refine Run_put (i := 0) (kd := .i64) hr (by omega) (by omega) b fun w' h' => ?_
          rw [Run_ret]
          exact h'
        · simp only [hp, decide_false, Run_condM_false, Run_ret]
          exact hr
end
end Go.Proofs.YthlpfhjcdedhgaaDoor

/-
  Layer 4 (paper): part G: a number's text; the tables that the library keeps.
-/
namespace Go.Proofs.YthlpfhjcdedhgaaDoor
open Go.Lift Go.Sort
set_option linter.unusedSimpArgs false
set_option linter.unusedVariables false
set_option maxHeartbeats 4000000
section
variable {w w1 w2 : World}
/-- The tables that the library keeps. -/
structure Tb (w : World) : Prop where
  nib : bk w 0 = some nibV
  ml : ∃ m : Int, bk w 1 = some [.int .i64 m]
  p10 : bk w 2 = some (Lib.pow10Tab.map fun z => Value.int .u64 z)
  bits : BitsTab w
theorem Tb.fr {F : Nat → Prop} (h : Tb w) (f : Fr F w w1) (hF : ∀ b, b < 5 → ¬ F b) : Tb w1 where
  nib := f.bk_some h.nib (hF 0 (by decide))
  ml := by obtain ⟨m, hm⟩ := h.ml; exact ⟨m, f.bk_some hm (hF 1 (by decide))⟩
  p10 := f.bk_some h.p10 (hF 2 (by decide))
  bits := by obtain ⟨l, h1, h2⟩ := h.bits; exact ⟨l, f.bk_some h1 (hF 4 (by decide)), h2⟩
theorem Tb.fr0 (h : Tb w) (f : Fr (fun _ => False) w w1) : Tb w1 := h.fr f fun _ _ => id
theorem Tb.tab (h : Tb w) : Lib.TabIs Tryd.prog w "internal/strconv.uint64pow10" .u64 Lib.pow10Tab := by
  have hg : Tryd.prog.globalNamed "internal/strconv.uint64pow10" = some 2 := by kernel_rfl
  obtain ⟨c, e, m, hh, hc⟩ := bk_cells h.p10
  unfold Lib.TabIs World.var?
  rw [hg]
  show (match w.heap[2]? with | some (.cells cs _ _) => some cs | _ => none) = _
  rw [hh, ← hc]
theorem fr_grow (w : World) (k : Nat) (os : Array Obj) : Fr (fun _ => False) w (grow (w.drewN k) os) where
  os := rfl
  tape := rfl
  output := rfl
  size := by show w.heap.size ≤ (w.heap ++ os).size; simp
  block := fun b hb _ => heap_grow_old (w.drewN k) os hb
theorem calls_post {P : Program} {f : FuncId} {args : Array Value} {w w1 : World} {v1 : Value} {R : Value → World → Prop} (h1 : Calls P f args w fun e w'' => e = .returned v1 ∧ w'' = w1)
    (h2 : Calls P f args w fun e w'' => ∃ v, e = .returned v ∧ R v w'') (hi : P.inits.idxOf? f = none) : R v1 w1 := by
  obtain ⟨e, w', fr, ⟨rfl, rfl⟩, ⟨a, ha⟩, hf, hl⟩ := h1 []
  obtain ⟨e', w'', fr', ⟨v, rfl, hR⟩, ⟨b, hb⟩, hf', hl'⟩ := h2 []
  have d := step_leave_done hl (by rw [hf]; exact hi)
  have d' := step_leave_done hl' (by rw [hf']; exact hi)
  have hab : a = b := Nat.le_antisymm (ended_lt hb d' ha) (ended_lt ha d hb)
  subst hab
  rw [ha] at hb
  have hm := Stepped.next.inj hb
  rw [hm] at d
  rw [d] at d'
  simp only [Stepped.ended.injEq, Outcome.done.injEq] at d'
  obtain ⟨rfl, rfl⟩ := d'
  exact hR
theorem own20 : Own Tryd.prog 20 := ⟨⟨_, Tryd.func20, by kernel_rfl, by kernel_rfl⟩, by kernel_rfl⟩
theorem nDig_le {n : Nat} (h1 : 1 ≤ n) (h : n < 18446744073709551616) : Lib.nDigits n ≤ 20 := by
  have := Lib.numDigits_eq n h1 h
  have h2 := this.1
  split at h2 <;> omega
theorem itoa_ends (ht : Tb w) {n : Nat} (hn : n < 9223372036854775808) : Run (F.strconv_Itoa (.int .i64 n)) w fun _ _ => True := by
  unfold F.strconv_Itoa F.strconv_Itoa_42 F.strconv_FormatInt_64
  have h0 : (0 : Int) ≤ (n : Int) := by omega
  have hnn : ¬ (n : Int) < 0 := by omega
  by_cases h100 : n < 100
  · have h1 : (n : Int) < 100 := by omega
    simp [h0, h1]
    exact ⟨_, _, by unfold F.strconv_small; simp only; rw [if_pos ⟨h0, h1⟩], trivial⟩
  · have h1 : ¬ (n : Int) < 100 := by omega
    have c0 : IntKind.u64.wrap (n : Int) = n := u64W (by omega)
    simp [-ldA_ptr, h0, h1, hnn, c0]
    refine Run_new fun x w1 hx hxw f1 hxle => ?_
    have ht1 := ht.fr0 f1
    have hd := nDig_le (n := n) (by omega) (by omega)
    have hp := Lib.nDigits_pos n
    have e1 : F.strconv_numDigits (.int .u64 (n : Int)) w1 = some (.int .i64 (Lib.nDigits n), w1) := by
      unfold F.strconv_numDigits
      simp only
      rw [if_pos ⟨⟨by omega, by omega⟩, ht1.tab⟩]
      simp
    have wn : IntKind.i64.wrap (1 + ((Lib.nDigits n : Nat) : Int)) = ((1 + Lib.nDigits n : Nat) : Int) := by
      rw [show 1 + ((Lib.nDigits n : Nat) : Int) = ((1 + Lib.nDigits n : Nat) : Int) by omega]; exact i64W (by omega)
    generalize hnd : Lib.nDigits n = nd at *
    have es : sliceR 24 1 (.pointer (some ⟨x, 0, none⟩)) (some (.int .i64 1)) (some (.int .i64 ((1 + nd : Nat) : Int))) = some (.slice (some ⟨x, 1, none⟩) nd 23) := by
      have b1 : boundV (.int .i64 1) (1 + nd) = some 1 := by
        unfold boundV
        simp only
        rw [if_pos (by omega)]
        simp
      have b2 : boundV (.int .i64 ((1 + nd : Nat) : Int)) 24 = some (1 + nd) := by
        unfold boundV
        simp only
        rw [if_pos (by omega)]
        rfl
      simp only [sliceR, highV, lowV, b2, b1]
      rw [if_neg (by omega)]
      simp [Addr.add_lit]
    have hrow : Row w1 (.slice (some ⟨x, 1, none⟩) nd 23) nd := by
      refine ⟨List.replicate nd 0, by simp, ⟨fun e he => ?_, some ⟨x, 1, none⟩, 23, by simp, by simp; omega, .inr ⟨x, 1, _, rfl, hx, by simp, ?_⟩⟩, fun b hb _ => ?_⟩
      · obtain ⟨y, _, rfl⟩ := List.mem_map.1 he; rfl
      · have ez : ∀ k, ((List.replicate k (0 : UInt8)).map fun b => [by8 b]).flatten = List.replicate k (by8 0) := fun k => by
          induction k with
          | zero => rfl
          | succ k ih => simp only [List.replicate_succ, List.map_cons, List.flatten_cons, ih]; rfl
        rw [ez]
        show ((List.replicate 24 (by8 0)).drop 1).take _ = _
        rw [List.drop_replicate, List.take_replicate, List.length_map, List.length_replicate, Nat.mul_one, Nat.min_eq_left (by omega)]
      · cases hb
        exact hxw
    refine ⟨_, _, e1, ?_⟩
    simp only [Run_bindO_some, binV_int, intBin_add, wn, es, Run_bind]
    refine (fb10_run hrow (by omega) hp (by omega)).mono ?_
    rintro _ w2 hr2
    obtain ⟨l, hl, hs⟩ := hr2
    have hlt : intBin .lss .i64 (n : Int) 0 = some (.bool false) := by simp [hnn]
    simp only [hlt, Run_bindO_some, Run_condM_false, wn, es, Run_bind, Run_rdM, Run_ret]
    exact ⟨_, ownB_text hs.1, trivial⟩
def itoaS (n : Nat) : ByteArray := ⟨(Lib.decDigits n).toArray⟩
theorem itoa_run (ht : Tb w) {n : Nat} (hn : n < 9223372036854775808) : Run (F.strconv_Itoa (.int .i64 n)) w fun r w' => r = .string (itoaS n) ∧ Fr (fun _ => False) w w' := by
  obtain ⟨v, w1, e, _⟩ := itoa_ends ht hn
  have g := got_own own20 (F.strconv_Itoa.lift [.int .i64 (n : Int)] w v w1 e)
  have c := Tryd.strconv_Itoa (n : Int) (by omega) (by omega) w ht.tab
  obtain ⟨h1, k, os, h2⟩ := calls_post (R := fun v w' => v = .string ⟨(Lib.itoa n).toArray⟩ ∧ ∃ k os, w' = grow (w.drewN k) os) g (c.mono fun e w' h => ⟨_, h.1, rfl, h.2⟩) (by kernel_rfl)
  refine ⟨v, w1, e, ?_, by rw [h2]; exact fr_grow w k os⟩
  rw [h1]
  unfold Lib.itoa itoaS
  rw [if_neg (by omega), Int.toNat_natCast]
end
end Go.Proofs.YthlpfhjcdedhgaaDoor

/-
  Layer 4 (paper): part H: a note's text, on both sides.
-/
namespace Go.Proofs.YthlpfhjcdedhgaaDoor
open Go.Lift Go.Sort
set_option linter.unusedSimpArgs false
set_option linter.unusedVariables false
set_option maxHeartbeats 4000000
/-- A note. -/
structure Nt where
  k : Int
  f : Int
  u : Int
  c : Int
def Nt.ok (n : Nt) : Prop := (1 ≤ n.k ∧ n.k ≤ 4) ∧ (0 ≤ n.f ∧ n.f ≤ 9007199254740992) ∧ (0 ≤ n.u ∧ n.u ≤ 9007199254740992) ∧ (0 ≤ n.c ∧ n.c < 4294967296)
instance (n : Nt) : Decidable n.ok := by unfold Nt.ok; exact inferInstance
def Nt.v (n : Nt) : Value := .agg #[.int .i64 n.k, .int .i64 n.f, .int .i64 n.u, .int .i64 n.c]
def preL (n : Nt) : List UInt8 := Lib.decDigits n.k.toNat ++ [32] ++ Lib.decDigits n.f.toNat ++ [32] ++ Lib.decDigits n.u.toNat ++ [32] ++ eightL n.c.toNat ++ [32]
def noteL (n : Nt) : List UInt8 := preL n ++ eightL (crcF ⟨(preL n).toArray⟩) ++ [10]
def noteO (n : Nt) : Value := if n.ok then .tuple #[.string ⟨(noteL n).toArray⟩, .int .i64 0] else .tuple #[.string (ByteArray.mk #[]), .int .i64 42]
theorem dec_len {n : Nat} (h : n < 9223372036854775808) : (Lib.decDigits n).length ≤ 20 := by
  rw [Lib.decDigits_length]
  rcases Nat.eq_zero_or_pos n with rfl | h1
  · rw [Lib.nDigits_small (by decide)]; decide
  · exact nDig_le h1 (by omega)
theorem itoaS_size (n : Nat) : (itoaS n).size = (Lib.decDigits n).length := by
  show (Lib.decDigits n).toArray.size = _
  rw [List.size_toArray]
theorem pre_len (n : Nt) (h : n.ok) : (preL n).length ≤ 80 := by
  have h1 := dec_len (n := n.k.toNat) (by have := h.1; omega)
  have h2 := dec_len (n := n.f.toNat) (by have := h.2.1; omega)
  have h3 := dec_len (n := n.u.toNat) (by have := h.2.2.1; omega)
  have h4 : (eightL n.c.toNat).length = 8 := lowD_len _ _
  simp only [preL, List.length_append, List.length_singleton, h4]
  omega
section
variable {w w1 w2 : World}
theorem isSum_run {x : Int} : F.paper_isSum (.int .i64 x) w = some (.bool (decide (0 ≤ x ∧ x < 4294967296)), w) := by
  have : Run (F.paper_isSum (.int .i64 x)) w fun r w' => r = .bool (decide (0 ≤ x ∧ x < 4294967296)) ∧ w' = w := by
    unfold F.paper_isSum
    by_cases h1 : 0 ≤ x <;> by_cases h2 : x < 4294967296 <;> simp [h1, h2]
  obtain ⟨r, w', e, rfl, rfl⟩ := this
  exact e
theorem in_run {x a b : Int} : F.granaryref4_in (.int .i64 x) (.int .i64 a) (.int .i64 b) w = some (.bool (decide (a ≤ x ∧ x ≤ b)), w) := by
  have : Run (F.granaryref4_in (.int .i64 x) (.int .i64 a) (.int .i64 b)) w fun r w' => r = .bool (decide (a ≤ x ∧ x ≤ b)) ∧ w' = w := by
    unfold F.granaryref4_in
    by_cases h1 : a ≤ x <;> by_cases h2 : x ≤ b <;> simp [h1, h2]
  obtain ⟨r, w', e, rfl, rfl⟩ := this
  exact e
theorem Run_isSum {x : Int} {Q : Value → World → Prop} : Run (F.paper_isSum (.int .i64 x)) w Q ↔ Q (.bool (decide (0 ≤ x ∧ x < 4294967296))) w := by
  constructor
  · rintro ⟨r, w', e, q⟩
    rw [isSum_run] at e
    cases e
    exact q
  · exact fun q => ⟨_, _, isSum_run, q⟩
theorem Run_in {x a b : Int} {Q : Value → World → Prop} : Run (F.granaryref4_in (.int .i64 x) (.int .i64 a) (.int .i64 b)) w Q ↔ Q (.bool (decide (a ≤ x ∧ x ≤ b))) w := by
  constructor
  · rintro ⟨r, w', e, q⟩
    rw [in_run] at e
    cases e
    exact q
  · exact fun q => ⟨_, _, in_run, q⟩
theorem print_run (ht : Tb w) (n : Nt) : Run (F.paper_PrintNote n.v) w fun r w' => r = noteO n ∧ Fr (fun _ => False) w w' := by
  unfold F.paper_PrintNote
  rw [Run_bind]
  refine Run_new fun x w1 hx hxw f1 hxle => ?_
  replace hx : bk w1 x = some [.int .i64 n.k, .int .i64 n.f, .int .i64 n.u, .int .i64 n.c] := hx
  have ht1 := ht.fr0 f1
  have hno : ∀ {p : Prop}, p → (p → ¬ n.ok) → noteO n = .tuple #[.string (ByteArray.mk #[]), .int .i64 42] := fun hp h => by rw [noteO, if_neg (h hp)]
  by_cases h1 : n.k < 1
  · simp [-ldA_ptr, hx, h1, hno h1 fun h hn => by have := hn.1; omega, f1]
  by_cases h2 : 4 < n.k
  · simp [-ldA_ptr, hx, h1, h2, hno h2 fun h hn => by have := hn.1; omega, f1]
  by_cases h3 : n.f < 0
  · simp [-ldA_ptr, hx, h1, h2, h3, hno h3 fun h hn => by have := hn.2.1; omega, f1]
  by_cases h4 : 9007199254740992 < n.f
  · simp [-ldA_ptr, hx, h1, h2, h3, h4, hno h4 fun h hn => by have := hn.2.1; omega, f1]
  by_cases h5 : n.u < 0
  · simp [-ldA_ptr, hx, h1, h2, h3, h4, h5, hno h5 fun h hn => by have := hn.2.2.1; omega, f1]
  by_cases h6 : 9007199254740992 < n.u
  · simp [-ldA_ptr, hx, h1, h2, h3, h4, h5, h6, hno h6 fun h hn => by have := hn.2.2.1; omega, f1]
  by_cases h7 : 0 ≤ n.c ∧ n.c < 4294967296
  case neg => simp [-ldA_ptr, hx, h1, h2, h3, h4, h5, h6, Run_isSum, h7, hno h7 fun h hn => h hn.2.2.2, f1]
  have hok : n.ok := ⟨by omega, by omega, by omega, h7⟩
  rw [noteO, if_pos hok]
  obtain ⟨k, f, u, c⟩ := n
  simp only at h1 h2 h3 h4 h5 h6 h7 hx
  obtain ⟨k, rfl⟩ : ∃ n : Nat, k = n := ⟨k.toNat, by omega⟩
  obtain ⟨f, rfl⟩ : ∃ n : Nat, f = n := ⟨f.toNat, by omega⟩
  obtain ⟨u, rfl⟩ : ∃ n : Nat, u = n := ⟨u.toNat, by omega⟩
  obtain ⟨c, rfl⟩ : ∃ n : Nat, c = n := ⟨c.toNat, by omega⟩
  simp [-ldA_ptr, hx, h1, h2, h3, h4, h5, h6, Run_isSum, h7]
  have fd : Fr (fun _ => False) w1 w1.drew := (Fr.refl _ _).drew
  have td := ht1.fr0 fd
  have hxd : bk w1.drew x = some [.int .i64 (k : Int), .int .i64 (f : Int), .int .i64 (u : Int), .int .i64 (c : Int)] := hx
  generalize w1.drew = w2 at *
  refine (itoa_run td (n := k) (by omega)).mono ?_
  rintro _ w3 ⟨rfl, f3⟩
  have hx3 := f3.bk_some hxd id
  have t3 := td.fr0 f3
  simp [-ldA_ptr, hx3]
  refine (itoa_run t3 (n := f) (by omega)).mono ?_
  rintro _ w4 ⟨rfl, f4⟩
  have hx4 := f4.bk_some hx3 id
  have t4 := t3.fr0 f4
  simp [-ldA_ptr, hx4]
  refine (itoa_run t4 (n := u) (by omega)).mono ?_
  rintro _ w5 ⟨rfl, f5⟩
  have hx5 := f5.bk_some hx4 id
  have t5 := t4.fr0 f5
  simp [-ldA_ptr, hx5]
  refine (hex8_run t5.bits (n := c) (by omega)).mono ?_
  rintro _ w6 ⟨rfl, f6⟩
  have t6 := t5.fr0 f6
  refine Run_bsl (k := 1) (vs := [.string (itoaS k), .string (itoaS f), .string (itoaS u), .string (eightS c), .string (ByteArray.mk #[])]) (by rfl) (by intro v hv; simp only [List.mem_cons, List.not_mem_nil, or_false] at hv; rcases hv with rfl | rfl | rfl | rfl | rfl <;> rfl) rfl (by kernel_rfl) fun r w7 hr f7 _ => ?_
  have t7 := t6.fr0 f7
  refine (join2_run (xs := [itoaS k, itoaS f, itoaS u, eightS c, ByteArray.mk #[]]) hr.1 (by decide) (by decide) ?_ (by simp)).mono ?_
  · have a1 := dec_len (n := k) (by omega)
    have a2 := dec_len (n := f) (by omega)
    have a3 := dec_len (n := u) (by omega)
    simp only [List.map_cons, List.map_nil, List.sum_cons, List.sum_nil, eightS_size, itoaS_size]
    show _ + (_ + (_ + (8 + (0 + 0)))) ≤ _
    omega
  rintro _ w8 ⟨rfl, f8⟩
  have t8 := t7.fr0 f8
  have ej : (⟨(joinL [itoaS k, itoaS f, itoaS u, eightS c, ByteArray.mk #[]] (ByteArray.mk #[32])).toArray⟩ : ByteArray) = ⟨(preL ⟨k, f, u, c⟩).toArray⟩ := by
    simp [joinL, preL, itoaS, eightS]
  rw [ej]
  have hp := pre_len ⟨k, f, u, c⟩ hok
  have hps : (⟨(preL ⟨k, f, u, c⟩).toArray⟩ : ByteArray).size = (preL ⟨k, f, u, c⟩).length := by
    show (preL _).toArray.size = _
    rw [List.size_toArray]
  refine Run_bsl (k := 1) (vs := [.string ⟨(preL ⟨k, f, u, c⟩).toArray⟩]) (by rfl) (by intro v hv; simp only [List.mem_singleton] at hv; subst hv; rfl) rfl (by kernel_rfl) fun r w9 hr f9 _ => ?_
  have t9 := t8.fr0 f9
  refine (crc_run t9.nib hr.1 (by rw [hps]; omega)).mono ?_
  rintro _ w10 ⟨rfl, rfl⟩
  refine (hex8_run t9.bits (crcF_lt _)).mono ?_
  rintro _ w11 ⟨rfl, f11⟩
  rw [strAdd (by rw [hps, eightS_size]; omega), Run_bindO_some, strAdd (by rw [ByteArray.size_append, hps, eightS_size]; show _ + 8 + 1 ≤ _; omega), Run_bindO_some, Run_ret]
  refine ⟨?_, (((((((f1.trans fd fun _ _ => id).trans f3 fun _ _ => id).trans f4 fun _ _ => id).trans f5 fun _ _ => id).trans f6 fun _ _ => id).trans f7 fun _ _ => id).trans f8 fun _ _ => id).trans (f9.trans f11 fun _ _ => id) fun _ _ => id⟩
  have e : (⟨(preL ⟨k, f, u, c⟩).toArray⟩ : ByteArray) ++ eightS (crcF ⟨(preL ⟨k, f, u, c⟩).toArray⟩) ++ ByteArray.mk #[10] = ⟨(noteL ⟨k, f, u, c⟩).toArray⟩ := by
    apply ByteArray.ext
    rw [ByteArray.data_append, ByteArray.data_append]
    show (preL ⟨k, f, u, c⟩).toArray ++ (eightL _).toArray ++ #[10] = (preL ⟨k, f, u, c⟩ ++ eightL _ ++ [10]).toArray
    simp
  rw [e]
end
end Go.Proofs.YthlpfhjcdedhgaaDoor

/-
  Layer 4 (paper): part I: the document's note, printed.
-/
namespace Go.Proofs.YthlpfhjcdedhgaaDoor
open Go.Lift Go.Sort
set_option linter.unusedSimpArgs false
set_option linter.unusedVariables false
set_option maxHeartbeats 4000000
section
variable {w w1 w2 : World}
def sb (l : List UInt8) : ByteArray := ⟨l.toArray⟩
theorem sb_size (l : List UInt8) : (sb l).size = l.length := by
  show l.toArray.size = _
  rw [List.size_toArray]
theorem sbAdd {a c : List UInt8} (h : a.length + c.length ≤ 9223372036854775807) : binV .add (.string (sb a)) (.string (sb c)) = some (.string (sb (a ++ c))) := by
  rw [strAdd (by rw [sb_size, sb_size]; exact h)]
  have e : sb a ++ sb c = sb (a ++ c) := by
    apply ByteArray.ext
    rw [ByteArray.data_append]
    show a.toArray ++ c.toArray = (a ++ c).toArray
    simp
  rw [e]
theorem rprint_run (ht : Tb w) (n : Nt) : Run (F.granaryref4_PrintNote n.v) w fun r w' => r = noteO n ∧ Fr (fun _ => False) w w' := by
  unfold F.granaryref4_PrintNote
  rw [Run_bind]
  refine Run_new fun x w1 hx hxw f1 hxle => ?_
  replace hx : bk w1 x = some [.int .i64 n.k, .int .i64 n.f, .int .i64 n.u, .int .i64 n.c] := hx
  have ht1 := ht.fr0 f1
  have hno : ∀ {p : Prop}, p → (p → ¬ n.ok) → noteO n = .tuple #[.string (ByteArray.mk #[]), .int .i64 42] := fun hp h => by rw [noteO, if_neg (h hp)]
  by_cases h1 : 1 ≤ n.k ∧ n.k ≤ 4
  case neg => simp [-ldA_ptr, hx, Run_in, h1, hno h1 fun h hn => h hn.1, f1]
  by_cases h2 : 0 ≤ n.f ∧ n.f ≤ 9007199254740992
  case neg => simp [-ldA_ptr, hx, Run_in, h1, h2, hno h2 fun h hn => h hn.2.1, f1]
  by_cases h3 : 0 ≤ n.u ∧ n.u ≤ 9007199254740992
  case neg => simp [-ldA_ptr, hx, Run_in, h1, h2, h3, hno h3 fun h hn => h hn.2.2.1, f1]
  by_cases h4 : 0 ≤ n.c ∧ n.c ≤ 4294967295
  case neg => simp [-ldA_ptr, hx, Run_in, h1, h2, h3, h4, hno h4 fun h hn => h ⟨hn.2.2.2.1, by have := hn.2.2.2.2; omega⟩, f1]
  have hok : n.ok := ⟨h1, h2, h3, h4.1, by omega⟩
  rw [noteO, if_pos hok]
  obtain ⟨k, f, u, c⟩ := n
  simp only at h1 h2 h3 h4 hx
  obtain ⟨k, rfl⟩ : ∃ n : Nat, k = n := ⟨k.toNat, by omega⟩
  obtain ⟨f, rfl⟩ : ∃ n : Nat, f = n := ⟨f.toNat, by omega⟩
  obtain ⟨u, rfl⟩ : ∃ n : Nat, u = n := ⟨u.toNat, by omega⟩
  obtain ⟨c, rfl⟩ : ∃ n : Nat, c = n := ⟨c.toNat, by omega⟩
  simp [-ldA_ptr, hx, Run_in, h1, h2, h3, h4]
  have fd : Fr (fun _ => False) w1 w1.drew := (Fr.refl _ _).drew
  have td := ht1.fr0 fd
  have hxd : bk w1.drew x = some [.int .i64 (k : Int), .int .i64 (f : Int), .int .i64 (u : Int), .int .i64 (c : Int)] := hx
  generalize w1.drew = w2 at *
  have l1 := dec_len (n := k) (by omega)
  have l2 := dec_len (n := f) (by omega)
  have l3 := dec_len (n := u) (by omega)
  have l4 : (eightL c).length = 8 := lowD_len _ _
  have eB : ByteArray.mk #[32] = sb [32] := rfl
  have eI : ∀ n, itoaS n = sb (Lib.decDigits n) := fun _ => rfl
  have eE : ∀ n, eightS n = sb (eightL n) := fun _ => rfl
  refine (itoa_run td (n := k) (by omega)).mono ?_
  rintro _ w3 ⟨rfl, f3⟩
  have hx3 := f3.bk_some hxd id
  have t3 := td.fr0 f3
  have a1 := sbAdd (a := Lib.decDigits k) (c := [32]) (by simp; omega)
  rw [eI, eB, a1]
  generalize hA : Lib.decDigits k ++ [32] = A at *
  have lA : A.length ≤ 21 := by rw [← hA]; simp; omega
  simp [-ldA_ptr, hx3, -binV_str]
  refine (itoa_run t3 (n := f) (by omega)).mono ?_
  rintro _ w4 ⟨rfl, f4⟩
  have hx4 := f4.bk_some hx3 id
  have t4 := t3.fr0 f4
  have a2 := sbAdd (a := A) (c := Lib.decDigits f) (by omega)
  rw [eI, a2, Run_bindO_some]
  have a3 := sbAdd (a := A ++ Lib.decDigits f) (c := [32]) (by simp; omega)
  rw [a3]
  generalize hB : A ++ Lib.decDigits f ++ [32] = B at *
  have lB : B.length ≤ 42 := by rw [← hB]; simp; omega
  simp [-ldA_ptr, hx4, -binV_str]
  refine (itoa_run t4 (n := u) (by omega)).mono ?_
  rintro _ w5 ⟨rfl, f5⟩
  have hx5 := f5.bk_some hx4 id
  have t5 := t4.fr0 f5
  have a4 := sbAdd (a := B) (c := Lib.decDigits u) (by omega)
  rw [eI, a4, Run_bindO_some]
  have a5 := sbAdd (a := B ++ Lib.decDigits u) (c := [32]) (by simp; omega)
  rw [a5]
  generalize hC : B ++ Lib.decDigits u ++ [32] = C at *
  have lC : C.length ≤ 63 := by rw [← hC]; simp; omega
  simp [-ldA_ptr, hx5, -binV_str]
  refine (eight_run c (by omega)).mono ?_
  rintro _ w6 ⟨rfl, f6⟩
  have t6 := t5.fr0 f6
  have a6 := sbAdd (a := C) (c := eightL c) (by omega)
  rw [eE, a6, Run_bindO_some]
  have a7 := sbAdd (a := C ++ eightL c) (c := [32]) (by simp; omega)
  rw [a7]
  have eP : C ++ eightL c ++ [32] = preL ⟨k, f, u, c⟩ := by
    rw [← hC, ← hB, ← hA]
    simp [preL]
  rw [eP]
  have hp := pre_len ⟨k, f, u, c⟩ hok
  simp [-ldA_ptr, hx, hx3, hx4, hx5, hxd, -binV_str]
  refine (rcrc_run (sb (preL ⟨k, f, u, c⟩)) (by rw [sb_size]; omega)).mono ?_
  rintro _ w10 ⟨rfl, rfl⟩
  refine (eight_run _ (crcF_lt _)).mono ?_
  rintro _ w11 ⟨rfl, f11⟩
  have l5 : (eightL (crcF (sb (preL ⟨k, f, u, c⟩)))).length = 8 := lowD_len _ _
  have a8 := sbAdd (a := preL ⟨k, f, u, c⟩) (c := eightL (crcF (sb (preL ⟨k, f, u, c⟩)))) (by omega)
  have a9 := sbAdd (a := preL ⟨k, f, u, c⟩ ++ eightL (crcF (sb (preL ⟨k, f, u, c⟩)))) (c := [10]) (by simp; omega)
  rw [eE, a8, Run_bindO_some]
  have eN : ByteArray.mk #[10] = sb [10] := rfl
  rw [eN, a9, Run_bindO_some, Run_ret]
  exact ⟨rfl, (((((f1.trans fd fun _ _ => id).trans f3 fun _ _ => id).trans f4 fun _ _ => id).trans f5 fun _ _ => id).trans f6 fun _ _ => id).trans f11 fun _ _ => id⟩
end
end Go.Proofs.YthlpfhjcdedhgaaDoor
