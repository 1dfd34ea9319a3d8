/- What the statement rests on: part 6. -/
import Derived.Test.YtojnickeblbgoaaGreatDoorWa4
import Derived.Lib.ItoaNum
namespace Go.Proofs.YtojnickeblbgoaaGreatDoor.SortStored
open Go.Lift Go.Sort
set_option linter.unusedSimpArgs false
set_option linter.unusedVariables false
set_option maxHeartbeats 4000000
section
variable {α : Type} [Inhabited α] {enc : α -> List Value} {w w' : World} {v c : Value} {d : Array α} {cf : α -> α -> Int} {a b : Nat}
theorem bin_xor (k : IntKind) (x y : Int) : intBin .xor k x y = some (.int k (k.wrap (BitVec.ofInt k.bits x ^^^ BitVec.ofInt k.bits y).toNat)):=rfl
theorem bin_and (k : IntKind) (x y : Int) : intBin .and k x y = some (.int k (k.wrap (BitVec.ofInt k.bits x &&& BitVec.ofInt k.bits y).toNat)):=rfl
theorem sh_l (k j : IntKind) (x : Int) (n : Nat) : shV .shl (.int k x) (.int j (n : Int)) = some (.int k (k.wrap (x * 2 ^ (min n k.bits)))):=by
 unfold shV; simp only [if_neg (show ¬ (n : Int) < 0 by omega), Int.toNat_natCast]
theorem sh_r (k j : IntKind) (x : Int) (n : Nat) : shV .shr (.int k x) (.int j (n : Int)) = some (.int k (x.fdiv (2 ^ (min n k.bits)))):=by
 unfold shV; simp only [if_neg (show ¬ (n : Int) < 0 by omega), Int.toNat_natCast]
theorem next_run {z : Nat} {x : Int} (hz : bk w z = some [.int .u64 x]) (hw : wr w z = true) :
  Run (F.s_xorshift_Next (.pointer (some ⟨z, 0, none⟩))) w λ r w' => ∃ y, r = .int .u64 y /\ bk w' z = some [.int .u64 y] /\ wr w' z = true /\ Fr (λ c => c = z) w w':=by
 unfold F.s_xorshift_Next
 have h13:=λ x => sh_l .u64 .u64 x 13
 have h7:=λ x => sh_r .u64 .u64 x 7
 have h17:=λ x => sh_l .u64 .u64 x 17
 simp only [show ((13 : Nat) : Int) = 13 from rfl, show ((7 : Nat) : Int) = 7 from rfl, show ((17 : Nat) : Int) = 17 from rfl] at h13 h7 h17
 simp [hz, hw, h13, h7, h17, bin_xor]
 exact ((((((Fr.refl (λ c => c = z) w).drew).sto (.inl rfl) _ _).drew).sto (.inl rfl) _ _).drew).sto (.inl rfl) _ _
theorem pow2_run {n : Nat} (h1 : 1 <= n) (h2 : n <= 1152921504606846976) : Run (F.s_nextPowerOfTwo (.int .i64 n)) w λ r w' => w' = w /\ ∃ m : Nat, r = .int .u64 (m : Int) /\ 1 <= m /\ m <= 2 * n:=by
 unfold F.s_nextPowerOfTwo
 have wu : IntKind.u64.wrap (n : Int) = (n : Int):=by simp [IntKind.wrap, IntKind.bits, IntKind.signed]; omega
 obtain ⟨b1, b2, b3⟩:=Lib.bitLenAux_bounds 64 n (by omega) (by omega)
 have hL : Lib.bitLen n = Lib.bitLenAux 64 n:=rfl
 obtain ⟨L, hLL⟩ : ∃ L, L + 1 = Lib.bitLenAux 64 n:=⟨Lib.bitLenAux 64 n - 1, by omega⟩
 rw [<- hLL] at b2 b3 hL
 simp only [Nat.add_sub_cancel] at b2
 have hlt : L < 61:=by
  refine Nat.not_le.1 λ h => ?_
  have : 2 ^ 61 <= 2 ^ L:=Nat.pow_le_pow_right (by omega) h
  omega
 have e : Run (F.bits_Len (.int .u64 n)) w λ r w' => r = .int .i64 ((L + 1 : Nat) : Int) /\ w' = w:=by
  refine ⟨_, _, ?_, rfl, rfl⟩
  unfold F.bits_Len
  simp only []
  rw [if_pos ⟨by omega, by omega⟩, Int.toNat_natCast, hL]
 simp only [cvtI_int, wu, Run_bindO_some, Run_bind]
 refine e.mono ?_
 rintro _ w1 ⟨rfl, rfl⟩
 have hm : min (L + 1) IntKind.u64.bits = L + 1:=by show min (L + 1) 64 = L + 1; omega
 have hp : 1 <= 2 ^ (L + 1):=Nat.one_le_two_pow
 have hp2 : 2 ^ (L + 1) = 2 * 2 ^ L:=by rw [Nat.pow_succ]; omega
 have wm : IntKind.u64.wrap (1 * 2 ^ (L + 1)) = ((2 ^ (L + 1) : Nat) : Int):=by
  have : (1 * 2 ^ (L + 1) : Int) = ((2 ^ (L + 1) : Nat) : Int):=by simp
  rw [this]
  simp only [IntKind.wrap, IntKind.bits, IntKind.signed]
  have : 2 ^ (L + 1) <= 2 * n:=by omega
  simp
  omega
 simp only [sh_l, hm, wm, Run_bindO_some, Run_ret]
 exact ⟨trivial, _, rfl, hp, by omega⟩
theorem break_run (h : RowS 3 enc w v d) (hab : a < b) (hb : b <= d.size) (hs : d.size <= 1152921504606846976) :
  Run (F.s_breakPatternsCmpFunc_Stored v (.int .i64 a) (.int .i64 b) c) w λ _ w' => PermS enc a b w v d w':=by
 unfold F.s_breakPatternsCmpFunc_Stored
 obtain ⟨n, hn⟩ : ∃ n, n = b - a:=⟨_, rfl⟩
 have wn : IntKind.i64.wrap ((b : Int) - (a : Int)) = (n : Int):=by rw [wrapS] <;> omega
 simp only [binV_int, intBin_sub, intBin_geq, ge_iff_le, Run_bindO_some, wn]
 by_cases h8 : 8 <= n
 ·have h8' : (8 : Int) <= (n : Int):=by omega
  have wu : IntKind.u64.wrap (n : Int) = (n : Int):=by simp [IntKind.wrap, IntKind.bits, IntKind.signed]; omega
  obtain ⟨q, hq⟩ : ∃ q, q = n / 4:=⟨_, rfl⟩
  obtain ⟨p0, hp0⟩ : ∃ q2, q2 + 1 = a + q * 2:=⟨a + q * 2 - 1, by omega⟩
  have w4 : IntKind.i64.wrap ((n : Int).tdiv 4) = (q : Int):=by
   rw [Int.tdiv_eq_ediv_of_nonneg (by omega), wrapS] <;> omega
  have w2q : IntKind.i64.wrap ((q : Int) * 2) = (q : Int) * 2:=by rw [wrapS] <;> omega
  have wa : IntKind.i64.wrap ((a : Int) + (q : Int) * 2) = (a : Int) + (q : Int) * 2:=by rw [wrapS] <;> omega
  have wp0 : IntKind.i64.wrap ((a : Int) + (q : Int) * 2 - 1) = (p0 : Int):=by rw [wrapS] <;> omega
  have wp1 : IntKind.i64.wrap ((a : Int) + (q : Int) * 2 + 1) = (p0 : Int) + 2:=by rw [wrapS] <;> omega
  simp only [h8', decide_true, Run_condM_true, cvtI_int, wu, Run_bindO_some, Run_bind]
  refine Run_new λ z w1 hz hwz f1 hzle => ?_
  have hz' : bk w1 z = some [.int .u64 0]:=hz
  have hin : ∀ x, inB v x -> x < w.heap.size:=λ x hx => h.sl.1.lt (by simp; omega) hx
  simp only [Run_stM_iff, cells_int, hz', hwz, Option.some.injEq, exists_eq_left']
  refine ⟨rfl, rfl, by simp, trivial, ?_⟩
  obtain ⟨w2, hw2⟩ : ∃ w2, w2 = sto w1 z 0 [.int .u64 (n : Int)]:=⟨_, rfl⟩
  have f2 : Fr (λ _ => False) w w2:=by rw [hw2]; exact f1.sto (.inr hzle) _ _
  have hz2 : bk w2 z = some [.int .u64 (n : Int)]:=by rw [hw2]; simp [hz']
  have hwz2 : wr w2 z = true:=by rw [hw2, wr_sto]; exact hwz
  show Run _ (sto w1 z 0 [.int .u64 (n : Int)]) _
  rw [<- hw2]
  refine (pow2_run (by omega) (by omega)).mono ?_
  rintro _ _ ⟨rfl, M, rfl, hM1, hM2⟩
  have wM : IntKind.u64.wrap ((M : Int) - 1) = ((M - 1 : Nat) : Int):=by simp [IntKind.wrap, IntKind.bits, IntKind.signed]; omega
  simp only [binV_int, intBin_add, intBin_sub, intBin_mul, intBin_quo, intBin_leq, if_neg (show ¬ (4 : Int) = 0 by decide), w4, w2q, wa, wp0, wp1, wM, Run_bindO_some, Run_bind]
  refine Run_loopM (λ l w3 => ∃ (i : Nat) (d1 : Array α) (x : Int), l = [.int .i64 i] /\ p0 <= i /\ i <= p0 + 3 /\ PermIn a b d d1 /\ RowS 3 enc w3 v d1 /\ Fr (inB v) w w3 /\ bk w3 z = some [.int .u64 x] /\ wr w3 z = true)
   (λ l _ => match l with | [.int .i64 i] => p0 + 4 - i.toNat | _ => 0) ?_ ⟨p0, d, n, rfl, by omega, by omega, permIn_refl _ _ _, h.fr0 f2, f2.mono λ _ h => h.elim, hz2, hwz2⟩
  rintro l w3 ⟨i, d1, x, rfl, hi1, hi2, hp, h3, f3, hz3, hwz3⟩
  have hz1:=hp.1
  by_cases hi : i <= p0 + 2
  ·have hi' : (i : Int) <= (p0 : Int) + 2:=by omega
   obtain ⟨i', hi1'⟩ : ∃ m, m = i + 1:=⟨_, rfl⟩
   have wi : IntKind.i64.wrap ((i : Int) + 1) = (i' : Int):=by rw [wrapS] <;> omega
   simp only [getL_zero, binV_int, intBin_mul, intBin_add, intBin_leq, w2q, wa, wp1, hi', decide_true, Run_bindO_some, Run_condM_true, Run_bind]
   refine (next_run hz3 hwz3).mono ?_
   rintro _ w4 ⟨y, rfl, hz4, hwz4, f4⟩
   have h4:=h3.fr f4 λ x hx hxz => by have:=hin x hx; omega
   have f04 : Fr (inB v) w w4:=f3.trans f4 λ x hx hxz => by omega
   obtain ⟨o, ho⟩ : ∃ o, o = (BitVec.ofInt IntKind.u64.bits y &&& BitVec.ofInt IntKind.u64.bits ((M - 1 : Nat) : Int)).toNat:=⟨_, rfl⟩
   have hoM : o <= M - 1:=by
    rw [ho, BitVec.toNat_and]
    refine Nat.le_trans Nat.and_le_right ?_
    have : (BitVec.ofInt IntKind.u64.bits ((M - 1 : Nat) : Int)).toNat = M - 1:=by
     show (BitVec.ofInt 64 ((M - 1 : Nat) : Int)).toNat = M - 1
     rw [BitVec.ofInt_natCast, BitVec.toNat_ofNat]
     omega
    omega
   have wo : IntKind.u64.wrap (o : Int) = (o : Int):=by simp [IntKind.wrap, IntKind.bits, IntKind.signed]; omega
   have wo2 : IntKind.i64.wrap (o : Int) = (o : Int):=by rw [wrapS] <;> omega
   simp only [binV_int, bin_and, <- ho, wo, wo2, cvtI_int, Run_bindO_some, Run_bind, intBin_geq, ge_iff_le]
   refine Run.mono (Q:=λ r w5 => ∃ t : Nat, r = .norm [.int .i64 t] /\ t < n /\ w5 = w4) ?_ ?_
   ·by_cases hon : n <= o
    ·have hon' : (n : Int) <= (o : Int):=by omega
     have wt : IntKind.i64.wrap ((o : Int) - (n : Int)) = ((o - n : Nat) : Int):=by rw [wrapS] <;> omega
     simp only [hon', decide_true, Run_condM_true, intBin_sub, binV_int, wt, Run_bindO_some, Run_ret]
     exact ⟨_, rfl, by omega, trivial⟩
    ·have hon' : ¬ (n : Int) <= (o : Int):=by omega
     simp only [hon', decide_false, Run_condM_false, Run_ret]
     exact ⟨o, rfl, by omega, trivial⟩
   ·rintro _ _ ⟨t, rfl, ht, rfl⟩
    obtain ⟨p, hpp⟩ : ∃ p, p = a + t:=⟨_, rfl⟩
    have wp : IntKind.i64.wrap ((a : Int) + (t : Int)) = (p : Int):=by rw [wrapS] <;> omega
    simp only [outK_norm, getL_zero]
    refine Run_drw λ w5 f5 => ?_
    have h5:=h4.fr0 f5
    obtain ⟨x0, l0⟩:=h5.ld (i:=i) (by omega)
    obtain ⟨x1, l1⟩:=h5.ld (i:=p) (by omega)
    simp only [binV_int, intBin_add, wp, x0, x1, Run_bindO_some, Run_bind, Run_rdM, l0, l1, Option.some.injEq, exists_eq_left']
    refine h5.swp (by omega) (by omega) λ w6 h6 f6 => ?_
    simp only [binV_int, intBin_add, wi, Run_bindO_some, Run_ret]
    have hnz : ¬ inB v z:=λ hx => by have:=hin z hx; omega
    refine ⟨⟨i', _, y, rfl, by omega, by omega, perm_swp hp hb ⟨by omega, by omega⟩ ⟨by omega, by omega⟩, h6, (f04.trans f5 λ _ _ h => h.elim).trans f6 λ _ _ => id, ?_, ?_⟩, by show p0 + 4 - (i' : Int).toNat < p0 + 4 - (i : Int).toNat; omega⟩
    ·exact f6.bk_some (f5.bk_some hz4 id) hnz
    ·rw [f6.wr (by have:=bk_lt (f5.bk_some hz4 id); exact this) hnz, f5.wr (bk_lt hz4) id]
     exact hwz4
  ·have hi' : ¬ (i : Int) <= (p0 : Int) + 2:=by omega
   simp only [getL_zero, binV_int, intBin_mul, intBin_add, intBin_leq, w2q, wa, wp1, hi', decide_false, Run_bindO_some, Run_condM_false, Run_ret, outK_exit, natBeq, decide_true, cond_true]
   exact ⟨d1, hp, h3, f3⟩
 ·have h8' : ¬ (8 : Int) <= (n : Int):=by omega
  simp only [h8', decide_false, Run_condM_false, Run_ret]
  exact ⟨d, permIn_refl _ _ _, h, Fr.refl _ _⟩
theorem order2_run (h : RowS 3 enc w v d) (hc : Cmp 3 enc c cf) {z : Nat} {x : Int} (hz : bk w z = some [.int .i64 x]) (hw : wr w z = true) {i j : Nat} (hi : i < d.size) (hj : j < d.size) :
  Run (F.s_order2CmpFunc_Stored v (.int .i64 i) (.int .i64 j) (.pointer (some ⟨z, 0, none⟩)) c) w λ r w' => (r = .tuple #[.int .i64 i, .int .i64 j] ∨ r = .tuple #[.int .i64 j, .int .i64 i]) /\ (∃ y, bk w' z = some [.int .i64 y]) /\ wr w' z = true /\ Fr (λ c => c = z) w w':=by
 unfold F.s_order2CmpFunc_Stored
 refine Run_drw λ w1 f1 => ?_
 have h1:=h.fr0 f1
 obtain ⟨x0, l0⟩:=h1.ld hi
 obtain ⟨x1, l1⟩:=h1.ld hj
 simp only [x0, x1, Run_bindO_some, Run_bind, Run_rdM, l0, l1, Option.some.injEq, exists_eq_left']
 refine hc _ _ _ _ λ w2 f2 => ?_
 have f02:=f1.trans f2 λ _ _ h => h
 have hz2:=f02.bk_some hz id
 have hw2 : wr w2 z = true:=by rw [f02.wr (bk_lt hz) id]; exact hw
 by_cases hlt : cf (eAt d j) (eAt d i) < 0
 ·simp [hlt, hz2, hw2]
  exact (Fr.mono (G:=λ c => c = z) f02 λ _ h => h.elim).sto (.inl rfl) _ _
 ·simp [hlt, hz2, hw2]
  exact f02.mono λ _ h => h.elim
theorem median_run (h : RowS 3 enc w v d) (hc : Cmp 3 enc c cf) {z : Nat} {x : Int} (hz : bk w z = some [.int .i64 x]) (hw : wr w z = true) (hnz : ¬ inB v z) {i j k : Nat} (hi : i < d.size) (hj : j < d.size) (hk : k < d.size) :
  Run (F.s_medianCmpFunc_Stored v (.int .i64 i) (.int .i64 j) (.int .i64 k) (.pointer (some ⟨z, 0, none⟩)) c) w λ r w' => (∃ m : Nat, r = .int .i64 m /\ (m = i ∨ m = j ∨ m = k)) /\ (∃ y, bk w' z = some [.int .i64 y]) /\ wr w' z = true /\ Fr (λ c => c = z) w w':=by
 unfold F.s_medianCmpFunc_Stored
 have hF : ∀ b, inB v b -> ¬ b = z:=λ b hb e => hnz (e ▸ hb)
 simp only [Run_bind]
 refine (order2_run h hc hz hw hi hj).mono ?_
 rintro r w1 ⟨hr, ⟨y1, hz1⟩, hw1, f1⟩
 have h1:=h.fr f1 hF
 obtain ⟨p, q, rfl, hp, hq, hpq⟩ : ∃ p q : Nat, r = .tuple #[.int .i64 p, .int .i64 q] /\ (p = i ∨ p = j) /\ (q = i ∨ q = j) /\ True:=by
  rcases hr with rfl | rfl
  ·exact ⟨i, j, rfl, .inl rfl, .inr rfl, trivial⟩
  ·exact ⟨j, i, rfl, .inr rfl, .inl rfl, trivial⟩
 simp only [extV_tuple, List.getElem?_toArray, List.getElem?_cons_zero, List.getElem?_cons_succ, Run_bindO_some, Run_bind]
 refine (order2_run h1 hc hz1 hw1 (i:=q) (j:=k) (by omega) hk).mono ?_
 rintro r w2 ⟨hr, ⟨y2, hz2⟩, hw2, f2⟩
 have h2:=h1.fr f2 hF
 obtain ⟨s, t, rfl, hs⟩ : ∃ s t : Nat, r = .tuple #[.int .i64 s, .int .i64 t] /\ (s = q ∨ s = k):=by
  rcases hr with rfl | rfl
  ·exact ⟨q, k, rfl, .inl rfl⟩
  ·exact ⟨k, q, rfl, .inr rfl⟩
 simp only [extV_tuple, List.getElem?_toArray, List.getElem?_cons_zero, List.getElem?_cons_succ, Run_bindO_some, Run_bind]
 refine (order2_run h2 hc hz2 hw2 (i:=p) (j:=s) (by omega) (by omega)).mono ?_
 rintro r w3 ⟨hr, hz3, hw3, f3⟩
 have f03:=(f1.trans f2 λ _ _ h => h).trans f3 λ _ _ h => h
 rcases hr with rfl | rfl
 ·simp only [extV_tuple, List.getElem?_toArray, List.getElem?_cons_zero, List.getElem?_cons_succ, Run_bindO_some, Run_ret]
  exact ⟨⟨s, rfl, by omega⟩, hz3, hw3, f03⟩
 ·simp only [extV_tuple, List.getElem?_toArray, List.getElem?_cons_zero, List.getElem?_cons_succ, Run_bindO_some, Run_ret]
  exact ⟨⟨p, rfl, by omega⟩, hz3, hw3, f03⟩
theorem medianAdj_run (h : RowS 3 enc w v d) (hc : Cmp 3 enc c cf) {z : Nat} {x : Int} (hz : bk w z = some [.int .i64 x]) (hw : wr w z = true) (hnz : ¬ inB v z) {i : Nat} (h1 : 1 <= i) (hi : i + 1 < d.size) (hs : d.size <= 1152921504606846976) :
  Run (F.s_medianAdjacentCmpFunc_Stored v (.int .i64 i) (.pointer (some ⟨z, 0, none⟩)) c) w λ r w' => (∃ m : Nat, r = .int .i64 m /\ i <= m + 1 /\ m <= i + 1) /\ (∃ y, bk w' z = some [.int .i64 y]) /\ wr w' z = true /\ Fr (λ c => c = z) w w':=by
 unfold F.s_medianAdjacentCmpFunc_Stored
 have wa : IntKind.i64.wrap ((i : Int) - 1) = ((i - 1 : Nat) : Int):=by rw [wrapS] <;> omega
 have wb : IntKind.i64.wrap ((i : Int) + 1) = ((i + 1 : Nat) : Int):=by rw [wrapS] <;> omega
 simp only [binV_int, intBin_sub, intBin_add, wa, wb, Run_bindO_some, Run_bind]
 refine (median_run h hc hz hw hnz (by omega) (by omega) (by omega)).mono ?_
 rintro _ w1 ⟨⟨m, rfl, hm⟩, r⟩
 simp only [Run_ret]
 exact ⟨⟨m, rfl, by omega, by omega⟩, r⟩
theorem pivot_run (h : RowS 3 enc w v d) (hc : Cmp 3 enc c cf) (hab : a < b) (hb : b <= d.size) (hs : d.size <= 1152921504606846976) :
  Run (F.s_choosePivotCmpFunc_Stored v (.int .i64 a) (.int .i64 b) c) w λ r w' => (∃ (p : Nat) (t : Int), r = .tuple #[.int .i64 p, .int .i64 t] /\ a <= p /\ p < b) /\ Fr (λ _ => False) w w':=by
 unfold F.s_choosePivotCmpFunc_Stored
 obtain ⟨n, hn⟩ : ∃ n, n = b - a:=⟨_, rfl⟩
 obtain ⟨q, hq⟩ : ∃ q, q = n / 4:=⟨_, rfl⟩
 obtain ⟨i, hi⟩ : ∃ i, i = a + q:=⟨_, rfl⟩
 obtain ⟨j, hj⟩ : ∃ j, j = a + q * 2:=⟨_, rfl⟩
 obtain ⟨k, hk⟩ : ∃ k, k = a + q * 3:=⟨_, rfl⟩
 have wn : IntKind.i64.wrap ((b : Int) - (a : Int)) = (n : Int):=by rw [wrapS] <;> omega
 have w4 : IntKind.i64.wrap ((n : Int).tdiv 4) = (q : Int):=by
  rw [Int.tdiv_eq_ediv_of_nonneg (by omega), wrapS] <;> omega
 have wq1 : IntKind.i64.wrap ((q : Int) * 1) = (q : Int):=by rw [wrapS] <;> omega
 have wq2 : IntKind.i64.wrap ((q : Int) * 2) = (q : Int) * 2:=by rw [wrapS] <;> omega
 have wq3 : IntKind.i64.wrap ((q : Int) * 3) = (q : Int) * 3:=by rw [wrapS] <;> omega
 have wi : IntKind.i64.wrap ((a : Int) + (q : Int)) = (i : Int):=by rw [wrapS] <;> omega
 have wj : IntKind.i64.wrap ((a : Int) + (q : Int) * 2) = (j : Int):=by rw [wrapS] <;> omega
 have wk : IntKind.i64.wrap ((a : Int) + (q : Int) * 3) = (k : Int):=by rw [wrapS] <;> omega
 have hin : ∀ x, inB v x -> x < w.heap.size:=λ x hx => h.sl.1.lt (by simp; omega) hx
 simp only [binV_int, intBin_sub, intBin_quo, if_neg (show ¬ (4 : Int) = 0 by decide), intBin_mul, intBin_add, wn, w4, wq1, wq2, wq3, wi, wj, wk, Run_bindO_some, Run_bind]
 refine Run_new λ z w1 hz hwz f1 hzle => ?_
 have hz' : bk w1 z = some [.int .i64 0]:=hz
 have h1:=h.fr0 f1
 have hnz : ¬ inB v z:=λ hx => by have:=hin z hx; omega
 have hF : ∀ b, inB v b -> ¬ b = z:=λ b hb e => hnz (e ▸ hb)
 have fz : ∀ {w2 w3 : World}, Fr (λ _ => False) w w2 -> Fr (λ c => c = z) w2 w3 -> Fr (λ _ => False) w w3:=λ f g => f.new g λ b hb => by omega
 refine Run.mono (Q:=λ r w2 => ∃ p : Nat, r = .norm [.int .i64 p] /\ a <= p /\ p < b /\ Fr (λ _ => False) w w2 /\ ∃ y, bk w2 z = some [.int .i64 y]) ?_ ?_
 ·simp only [intBin_geq, ge_iff_le, Run_bindO_some]
  by_cases h8 : 8 <= n
  ·have h8' : (8 : Int) <= (n : Int):=by omega
   simp only [h8', decide_true, Run_condM_true, Run_bind]
   refine Run.mono (Q:=λ r w2 => ∃ p1 p2 p3 : Nat, r = .norm [.int .i64 p1, .int .i64 p2, .int .i64 p3] /\ (a <= p1 /\ p1 < b) /\ (a <= p2 /\ p2 < b) /\ (a <= p3 /\ p3 < b) /\ Fr (λ _ => False) w w2 /\ (∃ y, bk w2 z = some [.int .i64 y]) /\ wr w2 z = true) ?_ ?_
   ·by_cases h50 : 50 <= n
    ·have h50' : (50 : Int) <= (n : Int):=by omega
     simp only [h50', decide_true, Run_bindO_some, Run_condM_true, Run_bind]
     refine (medianAdj_run h1 hc hz' hwz hnz (i:=i) (by omega) (by omega) hs).mono ?_
     rintro _ w2 ⟨⟨p1, rfl, m1⟩, ⟨y2, hz2⟩, hw2, f2⟩
     have h2:=h1.fr f2 hF
     refine (medianAdj_run h2 hc hz2 hw2 hnz (i:=j) (by omega) (by omega) hs).mono ?_
     rintro _ w3 ⟨⟨p2, rfl, m2⟩, ⟨y3, hz3⟩, hw3, f3⟩
     have h3:=h2.fr f3 hF
     refine (medianAdj_run h3 hc hz3 hw3 hnz (i:=k) (by omega) (by omega) hs).mono ?_
     rintro _ w4 ⟨⟨p3, rfl, m3⟩, hz4, hw4, f4⟩
     simp only [Run_ret]
     exact ⟨p1, p2, p3, rfl, by omega, by omega, by omega, fz (fz (fz f1 f2) f3) f4, hz4, hw4⟩
    ·have h50' : ¬ (50 : Int) <= (n : Int):=by omega
     simp only [h50', decide_false, Run_bindO_some, Run_condM_false, Run_ret]
     exact ⟨i, j, k, rfl, by omega, by omega, by omega, f1, ⟨_, hz'⟩, hwz⟩
   ·rintro _ w2 ⟨p1, p2, p3, rfl, c1, c2, c3, f2, ⟨y2, hz2⟩, hw2⟩
    simp only [outK_norm, getL_zero, getL_succ, Run_bind]
    refine (median_run (h.fr0 f2) hc hz2 hw2 hnz (by omega) (by omega) (by omega)).mono ?_
    rintro _ w3 ⟨⟨m, rfl, hm⟩, hz3, hw3, f3⟩
    simp only [Run_ret]
    exact ⟨m, rfl, by omega, by omega, fz f2 f3, hz3⟩
  ·have h8' : ¬ (8 : Int) <= (n : Int):=by omega
   simp only [h8', decide_false, Run_condM_false, Run_ret]
   exact ⟨j, rfl, by omega, by omega, f1, _, hz'⟩
 ·rintro _ w2 ⟨p, rfl, hp1, hp2, f2, y, hz2⟩
  simp only [outK_norm, getL_zero, Run_bind, Run_rdM, ld1_ptr, hz2, Option.bind_some, List.getElem?_cons_zero, Option.some.injEq, exists_eq_left', binV_int, intBin_eql, Run_bindO_some]
  by_cases y0 : y = 0
  ·simp only [y0, decide_true, Run_condM_true, Run_ret]
   exact ⟨⟨p, 1, rfl, hp1, hp2⟩, f2⟩
  ·by_cases y12 : y = 12
   ·subst y12
    simp only [show ¬ (12 : Int) = 0 by decide, decide_false, decide_true, Run_condM_false, Run_condM_true, Run_ret, Run_bindO_some]
    exact ⟨⟨p, 2, rfl, hp1, hp2⟩, f2⟩
   ·simp only [y0, y12, decide_false, decide_true, Run_condM_false, Run_condM_true, Run_ret, Run_bindO_some]
    exact ⟨⟨p, 0, rfl, hp1, hp2⟩, f2⟩
end
section
variable {α : Type} [Inhabited α] {enc : α -> List Value} {w w' : World} {v c : Value} {d : Array α} {cf : α -> α -> Int} {a b : Nat}
theorem scanUp_le (p : α -> Bool) (d : Array α) (j i : Nat) : i <= scanUp p d j i /\ scanUp p d j i <= max i (j + 1):=by
 fun_induction scanUp p d j i with
 | case1 i h ih =>
  simp only [Bool.and_eq_true, decide_eq_true_eq] at h
  omega
 | case2 i h => omega
theorem scanDown_le (p : α -> Bool) (d : Array α) (i : Nat) : ∀ j, scanDown p d i j <= j /\ (1 <= i -> i <= j + 1 -> i <= scanDown p d i j + 1)
 | 0 => ⟨Nat.le_refl _, λ h1 h2 => h2⟩
 | j + 1 => by
  unfold scanDown
  split
  ·rename_i h
   simp only [Bool.and_eq_true, decide_eq_true_eq] at h
   have:=scanDown_le p d i j
   exact ⟨by omega, λ h1 h2 => this.2 h1 h.1⟩
  ·exact ⟨Nat.le_refl _, λ _ h => h⟩
theorem scanUp_loop {step : List Value -> M Out} {p : α -> Bool} {j : Nat} (ex : Nat) (h : RowS 3 enc w v d)
  (hstep : ∀ i w1, RowS 3 enc w1 v d -> i <= j + 2 -> Run (step [.int .i64 (i : Nat)]) w1 λ o w2 => Fr (λ _ => False) w1 w2 /\ o = (if i <= j && p d[i]! then Out.norm [.int .i64 ((i + 1 : Nat) : Int)] else Out.exit ex [.int .i64 (i : Nat)]))
  {i : Nat} (hi : i <= j + 2) : Run (loopM step [.int .i64 i]) w λ o w' => o = .exit ex [.int .i64 (scanUp p d j i : Nat)] /\ RowS 3 enc w' v d /\ Fr (λ _ => False) w w':=by
 refine Run_loopM (λ l w1 => ∃ i2 : Nat, l = [.int .i64 i2] /\ i2 <= j + 2 /\ Fr (λ _ => False) w w1 /\ scanUp p d j i2 = scanUp p d j i) (λ l _ => match l with | [.int .i64 i] => j + 1 - i.toNat | _ => 0) ?_ ⟨i, rfl, hi, Fr.refl _ _, rfl⟩
 rintro l w1 ⟨i2, rfl, hi2, f1, e2⟩
 generalize scanUp p d j i = S at e2 ⊢
 refine (hstep i2 w1 (h.fr0 f1) hi2).mono ?_
 rintro _ w2 ⟨f2, rfl⟩
 have f02:=f1.trans f2 λ _ _ h => h
 unfold scanUp at e2
 by_cases hc : (decide (i2 <= j) && p d[i2]!) = true
 ·rw [if_pos hc] at e2 ⊢
  simp only [Bool.and_eq_true, decide_eq_true_eq] at hc
  exact ⟨⟨i2 + 1, rfl, by omega, f02, e2⟩, by show j + 1 - ((i2 + 1 : Nat) : Int).toNat < j + 1 - (i2 : Int).toNat; omega⟩
 ·rw [if_neg hc] at e2 ⊢
  rw [<- e2]
  exact ⟨rfl, h.fr0 f02, f02⟩
theorem scanDown_loop {step : List Value -> M Out} {p : α -> Bool} {i : Nat} (ex : Nat) (h : RowS 3 enc w v d) (h1 : 1 <= i) {j : Nat}
  (hstep : ∀ k w1, RowS 3 enc w1 v d -> k <= j -> Run (step [.int .i64 (k : Nat)]) w1 λ o w2 => Fr (λ _ => False) w1 w2 /\ o = (if i <= k && p d[k]! then Out.norm [.int .i64 ((k - 1 : Nat) : Int)] else Out.exit ex [.int .i64 (k : Nat)])) :
  Run (loopM step [.int .i64 j]) w λ o w' => o = .exit ex [.int .i64 (scanDown p d i j : Nat)] /\ RowS 3 enc w' v d /\ Fr (λ _ => False) w w':=by
 refine Run_loopM (λ l w1 => ∃ k : Nat, l = [.int .i64 k] /\ k <= j /\ Fr (λ _ => False) w w1 /\ scanDown p d i k = scanDown p d i j) (λ l _ => match l with | [.int .i64 i] => i.toNat | _ => 0) ?_ ⟨j, rfl, Nat.le_refl _, Fr.refl _ _, rfl⟩
 rintro l w1 ⟨k, rfl, hk, f1, e2⟩
 generalize scanDown p d i j = S at e2 ⊢
 refine (hstep k w1 (h.fr0 f1) hk).mono ?_
 rintro _ w2 ⟨f2, rfl⟩
 have f02:=f1.trans f2 λ _ _ h => h
 by_cases hc : (decide (i <= k) && p d[k]!) = true
 ·rw [if_pos hc]
  have hc':=hc
  simp only [Bool.and_eq_true, decide_eq_true_eq] at hc'
  obtain ⟨m, rfl⟩ : ∃ m, k = m + 1:=⟨k - 1, by omega⟩
  unfold scanDown at e2
  rw [if_pos hc] at e2
  exact ⟨⟨m, rfl, by omega, f02, e2⟩, by show ((m : Nat) : Int).toNat < ((m + 1 : Nat) : Int).toNat; omega⟩
 ·rw [if_neg hc]
  have e3 : k = S:=by
   cases k with
   | zero => exact e2
   | succ m =>
    unfold scanDown at e2
    rw [if_neg hc] at e2
    exact e2
  rw [<- e3]
  exact ⟨rfl, h.fr0 f02, f02⟩
theorem eq_run (h : RowS 3 enc w v d) (hc : Cmp 3 enc c cf) (hab : a < b) (hb : b <= d.size) {pv : Nat} (hp1 : a <= pv) (hp2 : pv < b) (hs : d.size <= 1152921504606846976) :
  Run (F.s_partitionEqualCmpFunc_Stored v (.int .i64 a) (.int .i64 b) (.int .i64 pv) c) w λ r w' => r = .int .i64 ((partitionEqual (ltC cf) d a b pv).1 : Nat) /\ RowS 3 enc w' v (partitionEqual (ltC cf) d a b pv).2 /\ Fr (inB v) w w':=by
 unfold F.s_partitionEqualCmpFunc_Stored
 have wa : IntKind.i64.wrap ((a : Int) + 1) = ((a + 1 : Nat) : Int):=by rw [wrapS] <;> omega
 have wb : IntKind.i64.wrap ((b : Int) - 1) = ((b - 1 : Nat) : Int):=by rw [wrapS] <;> omega
 refine Run_drw λ w1 f1 => ?_
 have h1:=h.fr0 f1
 obtain ⟨x0, l0⟩:=h1.ld (i:=pv) (by omega)
 obtain ⟨x1, l1⟩:=h1.ld (i:=a) (by omega)
 simp only [x0, x1, Run_bindO_some, Run_bind, Run_rdM, l0, l1, Option.some.injEq, exists_eq_left']
 refine h1.swp (by omega) (by omega) λ w2 h2 f2 => ?_
 have f02 : Fr (inB v) w w2:=(f1.mono λ _ h => h.elim).trans f2 λ _ _ => id
 simp only [binV_int, intBin_add, intBin_sub, wa, wb, Run_bindO_some, Run_bind]
 refine Run_loopM (λ l w3 => ∃ (i j : Nat) (d1 : Array α), l = [.int .i64 i, .int .i64 j] /\ a + 1 <= i /\ i <= j + 2 /\ j < b /\ d1.size = d.size /\ RowS 3 enc w3 v d1 /\ Fr (inB v) w w3 /\ partEqLoop (ltC cf) a i j d1 = partitionEqual (ltC cf) d a b pv)
  (λ l _ => match l with | [.int .i64 i, .int .i64 _] => b + 1 - i.toNat | _ => 0) ?_ ⟨a + 1, b - 1, _, rfl, by omega, by omega, by omega, swp_size d a pv, h2, f02, rfl⟩
 rintro l w3 ⟨i, j, d1, rfl, hi, hij, hj, hd1, h3, f3, e3⟩
 simp only [Run_bind, getL_zero, getL_succ]
 have up:=scanUp_le (λ x => !ltC cf d1[a]! x) d1 j i
 refine Run.mono (scanUp_loop (p:=λ x => !ltC cf d1[a]! x) (j:=j) 2 h3 (λ k w1 h1 hk => ?_) hij) ?_
 ·refine Run_drw λ w2 f2 => ?_
  have h2:=h1.fr0 f2
  by_cases hkj : k <= j
  ·have hkj' : (k : Int) <= (j : Int):=by omega
   obtain ⟨x0, l0⟩:=h2.ld (i:=a) (by omega)
   obtain ⟨x1, l1⟩:=h2.ld (i:=k) (by omega)
   have wk : IntKind.i64.wrap ((k : Int) + 1) = ((k + 1 : Nat) : Int):=by rw [wrapS] <;> omega
   simp [-ldA_ptr, -Run_drewM, hkj', hkj, x0, x1, l0, l1]
   refine hc _ _ _ _ λ w3 f3 => ?_
   by_cases hlt : cf (eAt d1 a) (eAt d1 k) < 0
   ·have hl : ltC cf d1[a]! d1[k]! = true:=decide_eq_true hlt
    simp [-ldA_ptr, -Run_drewM, hlt, hl, -getElem!_pos]
    exact f2.trans f3 λ _ _ h => h
   ·have hl : ltC cf d1[a]! d1[k]! = false:=decide_eq_false hlt
    simp [-ldA_ptr, -Run_drewM, hlt, hl, wk, -getElem!_pos]
    exact f2.trans f3 λ _ _ h => h
  ·have hkj' : ¬ (k : Int) <= (j : Int):=by omega
   simp [-ldA_ptr, -Run_drewM, hkj', hkj]
   exact f2
 ·rintro _ w4 ⟨rfl, h4, f4⟩
  obtain ⟨i2, hi2⟩ : ∃ i2, i2 = scanUp (λ x => !ltC cf d1[a]! x) d1 j i:=⟨_, rfl⟩
  rw [<- hi2] at up ⊢
  simp only [outK_exit, natBeq, decide_true, cond_true, getL_zero, Run_bind]
  have dn:=scanDown_le (λ x => ltC cf d1[a]! x) d1 i2 j
  refine Run.mono (scanDown_loop (p:=λ x => ltC cf d1[a]! x) (i:=i2) 4 h4 (by omega) (j:=j) (λ k w1 h1 hk => ?_)) ?_
  ·refine Run_drw λ w2 f2 => ?_
   have h2:=h1.fr0 f2
   by_cases hkj : i2 <= k
   ·have hkj' : (i2 : Int) <= (k : Int):=by omega
    obtain ⟨x0, l0⟩:=h2.ld (i:=a) (by omega)
    obtain ⟨x1, l1⟩:=h2.ld (i:=k) (by omega)
    have wk : IntKind.i64.wrap ((k : Int) - 1) = ((k - 1 : Nat) : Int):=by rw [wrapS] <;> omega
    simp [-ldA_ptr, -Run_drewM, hkj', hkj, x0, x1, l0, l1]
    refine hc _ _ _ _ λ w3 f3 => ?_
    by_cases hlt : cf (eAt d1 a) (eAt d1 k) < 0
    ·have hl : ltC cf d1[a]! d1[k]! = true:=decide_eq_true hlt
     simp [-ldA_ptr, -Run_drewM, hlt, hl, wk, -getElem!_pos]
     exact f2.trans f3 λ _ _ h => h
    ·have hl : ltC cf d1[a]! d1[k]! = false:=decide_eq_false hlt
     simp [-ldA_ptr, -Run_drewM, hlt, hl, -getElem!_pos]
     exact f2.trans f3 λ _ _ h => h
   ·have hkj' : ¬ (i2 : Int) <= (k : Int):=by omega
    simp [-ldA_ptr, -Run_drewM, hkj', hkj]
    exact f2
  ·rintro _ w5 ⟨rfl, h5, f5⟩
   obtain ⟨j2, hj2⟩ : ∃ j2, j2 = scanDown (λ x => ltC cf d1[a]! x) d1 i2 j:=⟨_, rfl⟩
   rw [<- hj2] at dn ⊢
   have f05 : Fr (inB v) w w5:=(f3.trans f4 λ _ _ h => h.elim).trans f5 λ _ _ h => h.elim
   have un : partEqLoop (ltC cf) a i j d1 = if i2 > j2 then (i2, d1) else if h : (j2 - 1) + 1 - (i2 + 1) < j + 1 - i then partEqLoop (ltC cf) a (i2 + 1) (j2 - 1) (Sort.swp d1 i2 j2) else (i2, d1):=by
    conv => lhs; unfold partEqLoop
    simp only [<- hi2, <- hj2]
   simp only [outK_exit, natBeq, decide_true, cond_true, getL_zero, binV_int, intBin_gtr, Run_bindO_some]
   by_cases hgt : i2 > j2
   ·have hgt' : (i2 : Int) > (j2 : Int):=by omega
    rw [if_pos hgt] at un
    simp only [hgt', decide_true, Run_condM_true, Run_ret, outK_exit, natBeq, cond_true, getL_zero]
    rw [<- e3, un]
    exact ⟨rfl, h5, f05⟩
   ·have hgt' : ¬ (i2 : Int) > (j2 : Int):=by omega
    rw [if_neg hgt, dif_pos (by omega)] at un
    have wi : IntKind.i64.wrap ((i2 : Int) + 1) = ((i2 + 1 : Nat) : Int):=by rw [wrapS] <;> omega
    have wj : IntKind.i64.wrap ((j2 : Int) - 1) = ((j2 - 1 : Nat) : Int):=by rw [wrapS] <;> omega
    simp only [hgt', decide_false, Run_condM_false]
    refine Run_drw λ w6 f6 => ?_
    have h6:=h5.fr0 f6
    obtain ⟨x0, l0⟩:=h6.ld (i:=j2) (by omega)
    obtain ⟨x1, l1⟩:=h6.ld (i:=i2) (by omega)
    simp only [x0, x1, Run_bindO_some, Run_bind, Run_rdM, l0, l1, Option.some.injEq, exists_eq_left']
    refine h6.swp (by omega) (by omega) λ w7 h7 f7 => ?_
    simp only [binV_int, intBin_add, intBin_sub, wi, wj, Run_bindO_some, Run_ret]
    exact ⟨⟨i2 + 1, j2 - 1, _, rfl, by omega, by omega, by omega, by rw [swp_size, hd1], h7, (f05.trans f6 λ _ _ h => h.elim).trans f7 λ _ _ => id, by rw [<- un, e3]⟩,
     by show b + 1 - ((i2 + 1 : Nat) : Int).toNat < b + 1 - (i : Int).toNat; omega⟩
end
section
variable {α : Type} [Inhabited α] {enc : α -> List Value} {w w' : World} {v c : Value} {d : Array α} {cf : α -> α -> Int} {a b : Nat}
theorem part_run (h : RowS 3 enc w v d) (hc : Cmp 3 enc c cf) (hab : a < b) (hb : b <= d.size) {pv : Nat} (hp1 : a <= pv) (hp2 : pv < b) (hs : d.size <= 1152921504606846976) :
  Run (F.s_partitionCmpFunc_Stored v (.int .i64 a) (.int .i64 b) (.int .i64 pv) c) w λ r w' => r = .tuple #[.int .i64 ((partition (ltC cf) d a b pv).1 : Nat), .bool (partition (ltC cf) d a b pv).2.1] /\ RowS 3 enc w' v (partition (ltC cf) d a b pv).2.2 /\ Fr (inB v) w w':=by
 unfold F.s_partitionCmpFunc_Stored
 have wa : IntKind.i64.wrap ((a : Int) + 1) = ((a + 1 : Nat) : Int):=by rw [wrapS] <;> omega
 obtain ⟨b1, hb1⟩ : ∃ b1, b1 = b - 1:=⟨_, rfl⟩
 have wb : IntKind.i64.wrap ((b : Int) - 1) = (b1 : Int):=by rw [wrapS] <;> omega
 refine Run_drw λ w1 f1 => ?_
 have h1:=h.fr0 f1
 obtain ⟨x0, l0⟩:=h1.ld (i:=pv) (by omega)
 obtain ⟨x1, l1⟩:=h1.ld (i:=a) (by omega)
 simp only [x0, x1, Run_bindO_some, Run_bind, Run_rdM, l0, l1, Option.some.injEq, exists_eq_left']
 refine h1.swp (by omega) (by omega) λ w2 h2 f2 => ?_
 have f02 : Fr (inB v) w w2:=(f1.mono λ _ h => h.elim).trans f2 λ _ _ => id
 have hdz : (Sort.swp d a pv).size = d.size:=swp_size d a pv
 obtain ⟨D, hD⟩ : ∃ D, D = Sort.swp d a pv:=⟨_, rfl⟩
 rw [<- hD] at h2 hdz
 simp only [binV_int, intBin_add, intBin_sub, wa, wb, Run_bindO_some, Run_bind]
 have pe : partition (ltC cf) d a b pv = if scanUp (λ x => ltC cf x D[a]!) D b1 (a + 1) > scanDown (λ x => !ltC cf x D[a]!) D (scanUp (λ x => ltC cf x D[a]!) D b1 (a + 1)) b1 then (scanDown (λ x => !ltC cf x D[a]!) D (scanUp (λ x => ltC cf x D[a]!) D b1 (a + 1)) b1, true, Sort.swp D (scanDown (λ x => !ltC cf x D[a]!) D (scanUp (λ x => ltC cf x D[a]!) D b1 (a + 1)) b1) a) else
   ((partLoop (ltC cf) a (scanUp (λ x => ltC cf x D[a]!) D b1 (a + 1) + 1) (scanDown (λ x => !ltC cf x D[a]!) D (scanUp (λ x => ltC cf x D[a]!) D b1 (a + 1)) b1 - 1) (Sort.swp D (scanUp (λ x => ltC cf x D[a]!) D b1 (a + 1)) (scanDown (λ x => !ltC cf x D[a]!) D (scanUp (λ x => ltC cf x D[a]!) D b1 (a + 1)) b1))).1, false,
    Sort.swp (partLoop (ltC cf) a (scanUp (λ x => ltC cf x D[a]!) D b1 (a + 1) + 1) (scanDown (λ x => !ltC cf x D[a]!) D (scanUp (λ x => ltC cf x D[a]!) D b1 (a + 1)) b1 - 1) (Sort.swp D (scanUp (λ x => ltC cf x D[a]!) D b1 (a + 1)) (scanDown (λ x => !ltC cf x D[a]!) D (scanUp (λ x => ltC cf x D[a]!) D b1 (a + 1)) b1))).2
     (partLoop (ltC cf) a (scanUp (λ x => ltC cf x D[a]!) D b1 (a + 1) + 1) (scanDown (λ x => !ltC cf x D[a]!) D (scanUp (λ x => ltC cf x D[a]!) D b1 (a + 1)) b1 - 1) (Sort.swp D (scanUp (λ x => ltC cf x D[a]!) D b1 (a + 1)) (scanDown (λ x => !ltC cf x D[a]!) D (scanUp (λ x => ltC cf x D[a]!) D b1 (a + 1)) b1))).1 a):=by
  rw [hD, hb1]; rfl
 have up:=scanUp_le (λ x => ltC cf x D[a]!) D b1 (a + 1)
 refine Run.mono (scanUp_loop (p:=λ x => ltC cf x D[a]!) (j:=b1) 0 h2 (λ k w1 h1 hk => ?_) (by omega)) ?_
 ·show Run _ w1 λ o w2 => Fr (λ _ => False) w1 w2 /\ o = _
  refine Run_drw λ w2 f2 => ?_
  have h2:=h1.fr0 f2
  by_cases hkj : k <= b1
  ·have hkj' : (k : Int) <= (b1 : Int):=by omega
   obtain ⟨x0, l0⟩:=h2.ld (i:=k) (by omega)
   obtain ⟨x1, l1⟩:=h2.ld (i:=a) (by omega)
   have wk : IntKind.i64.wrap ((k : Int) + 1) = ((k + 1 : Nat) : Int):=by rw [wrapS] <;> omega
   simp [-ldA_ptr, -Run_drewM, hkj', hkj, x0, x1, l0, l1]
   refine hc _ _ _ _ λ w3 f3 => ?_
   by_cases hlt : cf (eAt D k) (eAt D a) < 0
   ·have hl : ltC cf D[k]! D[a]! = true:=decide_eq_true hlt
    simp [-ldA_ptr, -Run_drewM, hlt, hl, wk, -getElem!_pos]
    exact f2.trans f3 λ _ _ h => h
   ·have hl : ltC cf D[k]! D[a]! = false:=decide_eq_false hlt
    simp [-ldA_ptr, -Run_drewM, hlt, hl, -getElem!_pos]
    exact f2.trans f3 λ _ _ h => h
  ·have hkj' : ¬ (k : Int) <= (b1 : Int):=by omega
   simp [-ldA_ptr, -Run_drewM, hkj', hkj]
   exact f2
 rintro _ w3 ⟨rfl, h3, f3⟩
 obtain ⟨i, hi⟩ : ∃ i, i = scanUp (λ x => ltC cf x D[a]!) D b1 (a + 1):=⟨_, rfl⟩
 rw [<- hi] at up pe ⊢
 simp only [outK_exit, natBeq, decide_true, cond_true, getL_zero, Run_bind]
 have dn:=scanDown_le (λ x => !ltC cf x D[a]!) D i b1
 refine Run.mono (scanDown_loop (p:=λ x => !ltC cf x D[a]!) (i:=i) 2 h3 (by omega) (j:=b1) (λ k w1 h1 hk => ?_)) ?_
 ·show Run _ w1 λ o w2 => Fr (λ _ => False) w1 w2 /\ o = _
  refine Run_drw λ w2 f2 => ?_
  have h2:=h1.fr0 f2
  by_cases hkj : i <= k
  ·have hkj' : (i : Int) <= (k : Int):=by omega
   obtain ⟨x0, l0⟩:=h2.ld (i:=k) (by omega)
   obtain ⟨x1, l1⟩:=h2.ld (i:=a) (by omega)
   have wk : IntKind.i64.wrap ((k : Int) - 1) = ((k - 1 : Nat) : Int):=by rw [wrapS] <;> omega
   simp [-ldA_ptr, -Run_drewM, hkj', hkj, x0, x1, l0, l1]
   refine hc _ _ _ _ λ w3 f3 => ?_
   by_cases hlt : cf (eAt D k) (eAt D a) < 0
   ·have hl : ltC cf D[k]! D[a]! = true:=decide_eq_true hlt
    simp [-ldA_ptr, -Run_drewM, hlt, hl, -getElem!_pos]
    exact f2.trans f3 λ _ _ h => h
   ·have hl : ltC cf D[k]! D[a]! = false:=decide_eq_false hlt
    simp [-ldA_ptr, -Run_drewM, hlt, hl, wk, -getElem!_pos]
    exact f2.trans f3 λ _ _ h => h
  ·have hkj' : ¬ (i : Int) <= (k : Int):=by omega
   simp [-ldA_ptr, -Run_drewM, hkj', hkj]
   exact f2
 rintro _ w4 ⟨rfl, h4, f4⟩
 obtain ⟨j, hj⟩ : ∃ j, j = scanDown (λ x => !ltC cf x D[a]!) D i b1:=⟨_, rfl⟩
 rw [<- hj] at dn pe ⊢
 have f04 : Fr (inB v) w w4:=(f02.trans f3 λ _ _ h => h.elim).trans f4 λ _ _ h => h.elim
 simp only [outK_exit, natBeq, decide_true, cond_true, getL_zero, binV_int, intBin_gtr, Run_bindO_some]
 by_cases hgt : i > j
 ·have hgt' : (i : Int) > (j : Int):=by omega
  rw [if_pos hgt] at pe
  simp only [hgt', decide_true, Run_condM_true]
  refine Run_drw λ w5 f5 => ?_
  have h5:=h4.fr0 f5
  obtain ⟨x0, l0⟩:=h5.ld (i:=a) (by omega)
  obtain ⟨x1, l1⟩:=h5.ld (i:=j) (by omega)
  simp only [x0, x1, Run_bindO_some, Run_bind, Run_rdM, l0, l1, Option.some.injEq, exists_eq_left']
  refine h5.swp (by omega) (by omega) λ w6 h6 f6 => ?_
  simp only [Run_ret]
  rw [pe]
  exact ⟨rfl, h6, (f04.trans f5 λ _ _ h => h.elim).trans f6 λ _ _ => id⟩
 have hgt' : ¬ (i : Int) > (j : Int):=by omega
 rw [if_neg hgt] at pe
 simp only [hgt', decide_false, Run_condM_false]
 have wi : IntKind.i64.wrap ((i : Int) + 1) = ((i + 1 : Nat) : Int):=by rw [wrapS] <;> omega
 have wj : IntKind.i64.wrap ((j : Int) - 1) = ((j - 1 : Nat) : Int):=by rw [wrapS] <;> omega
 refine Run_drw λ w5 f5 => ?_
 have h5:=h4.fr0 f5
 obtain ⟨x0, l0⟩:=h5.ld (i:=j) (by omega)
 obtain ⟨x1, l1⟩:=h5.ld (i:=i) (by omega)
 simp only [x0, x1, Run_bindO_some, Run_bind, Run_rdM, l0, l1, Option.some.injEq, exists_eq_left']
 refine h5.swp (by omega) (by omega) λ w6 h6 f6 => ?_
 have f06:=(f04.trans f5 λ _ _ h => h.elim).trans f6 λ _ _ => id
 simp only [binV_int, intBin_add, intBin_sub, wi, wj, Run_bindO_some, Run_bind]
 refine Run_loopM (λ l w3 => ∃ (i1 j1 : Nat) (d1 : Array α), l = [.int .i64 i1, .int .i64 j1] /\ a + 1 <= i1 /\ i1 <= j1 + 2 /\ j1 < b /\ d1.size = d.size /\ RowS 3 enc w3 v d1 /\ Fr (inB v) w w3 /\ partLoop (ltC cf) a i1 j1 d1 = partLoop (ltC cf) a (i + 1) (j - 1) (Sort.swp D i j))
  (λ l _ => match l with | [.int .i64 i, .int .i64 _] => b + 1 - i.toNat | _ => 0) ?_ ⟨i + 1, j - 1, _, rfl, by omega, by omega, by omega, by rw [swp_size, hdz], h6, f06, rfl⟩
 rintro l w3 ⟨i1, j1, d1, rfl, hi1, hij1, hj1, hd1, h3, f3, e3⟩
 generalize partLoop (ltC cf) a (i + 1) (j - 1) (Sort.swp D i j) = R at e3 pe
 simp only [Run_bind, getL_zero, getL_succ]
 have up1:=scanUp_le (λ x => ltC cf x d1[a]!) d1 j1 i1
 refine Run.mono (scanUp_loop (p:=λ x => ltC cf x d1[a]!) (j:=j1) 6 h3 (λ k w1 h1 hk => ?_) hij1) ?_
 ·show Run _ w1 λ o w2 => Fr (λ _ => False) w1 w2 /\ o = _
  refine Run_drw λ w2 f2 => ?_
  have h2:=h1.fr0 f2
  by_cases hkj : k <= j1
  ·have hkj' : (k : Int) <= (j1 : Int):=by omega
   obtain ⟨x0, l0⟩:=h2.ld (i:=k) (by omega)
   obtain ⟨x1, l1⟩:=h2.ld (i:=a) (by omega)
   have wk : IntKind.i64.wrap ((k : Int) + 1) = ((k + 1 : Nat) : Int):=by rw [wrapS] <;> omega
   simp [-ldA_ptr, -Run_drewM, hkj', hkj, x0, x1, l0, l1]
   refine hc _ _ _ _ λ w3 f3 => ?_
   by_cases hlt : cf (eAt d1 k) (eAt d1 a) < 0
   ·have hl : ltC cf d1[k]! d1[a]! = true:=decide_eq_true hlt
    simp [-ldA_ptr, -Run_drewM, hlt, hl, wk, -getElem!_pos]
    exact f2.trans f3 λ _ _ h => h
   ·have hl : ltC cf d1[k]! d1[a]! = false:=decide_eq_false hlt
    simp [-ldA_ptr, -Run_drewM, hlt, hl, -getElem!_pos]
    exact f2.trans f3 λ _ _ h => h
  ·have hkj' : ¬ (k : Int) <= (j1 : Int):=by omega
   simp [-ldA_ptr, -Run_drewM, hkj', hkj]
   exact f2
 rintro _ w4 ⟨rfl, h4, f4⟩
 obtain ⟨i2, hi2⟩ : ∃ i2, i2 = scanUp (λ x => ltC cf x d1[a]!) d1 j1 i1:=⟨_, rfl⟩
 rw [<- hi2] at up1 ⊢
 simp only [outK_exit, natBeq, decide_true, cond_true, getL_zero, Run_bind]
 have dn1:=scanDown_le (λ x => !ltC cf x d1[a]!) d1 i2 j1
 refine Run.mono (scanDown_loop (p:=λ x => !ltC cf x d1[a]!) (i:=i2) 8 h4 (by omega) (j:=j1) (λ k w1 h1 hk => ?_)) ?_
 ·show Run _ w1 λ o w2 => Fr (λ _ => False) w1 w2 /\ o = _
  refine Run_drw λ w2 f2 => ?_
  have h2:=h1.fr0 f2
  by_cases hkj : i2 <= k
  ·have hkj' : (i2 : Int) <= (k : Int):=by omega
   obtain ⟨x0, l0⟩:=h2.ld (i:=k) (by omega)
   obtain ⟨x1, l1⟩:=h2.ld (i:=a) (by omega)
   have wk : IntKind.i64.wrap ((k : Int) - 1) = ((k - 1 : Nat) : Int):=by rw [wrapS] <;> omega
   simp [-ldA_ptr, -Run_drewM, hkj', hkj, x0, x1, l0, l1]
   refine hc _ _ _ _ λ w3 f3 => ?_
   by_cases hlt : cf (eAt d1 k) (eAt d1 a) < 0
   ·have hl : ltC cf d1[k]! d1[a]! = true:=decide_eq_true hlt
    simp [-ldA_ptr, -Run_drewM, hlt, hl, -getElem!_pos]
    exact f2.trans f3 λ _ _ h => h
   ·have hl : ltC cf d1[k]! d1[a]! = false:=decide_eq_false hlt
    simp [-ldA_ptr, -Run_drewM, hlt, hl, wk, -getElem!_pos]
    exact f2.trans f3 λ _ _ h => h
  ·have hkj' : ¬ (i2 : Int) <= (k : Int):=by omega
   simp [-ldA_ptr, -Run_drewM, hkj', hkj]
   exact f2
 rintro _ w5 ⟨rfl, h5, f5⟩
 obtain ⟨j2, hj2⟩ : ∃ j2, j2 = scanDown (λ x => !ltC cf x d1[a]!) d1 i2 j1:=⟨_, rfl⟩
 rw [<- hj2] at dn1 ⊢
 have f05 : Fr (inB v) w w5:=(f3.trans f4 λ _ _ h => h.elim).trans f5 λ _ _ h => h.elim
 have un : partLoop (ltC cf) a i1 j1 d1 = if i2 > j2 then (j2, d1) else if h : (j2 - 1) + 1 - (i2 + 1) < j1 + 1 - i1 then partLoop (ltC cf) a (i2 + 1) (j2 - 1) (Sort.swp d1 i2 j2) else (j2, d1):=by
  conv => lhs; unfold partLoop
  simp only [<- hi2, <- hj2]
 simp only [outK_exit, natBeq, decide_true, cond_true, getL_zero, binV_int, intBin_gtr, Run_bindO_some]
 by_cases hg2 : i2 > j2
 ·have hg2' : (i2 : Int) > (j2 : Int):=by omega
  rw [if_pos hg2] at un
  rw [un] at e3
  subst e3
  simp only [hg2', decide_true, Run_condM_true, Run_ret, outK_exit, natBeq, cond_true, getL_zero, getL_succ]
  refine Run_drw λ w6 f6 => ?_
  have h6:=h5.fr0 f6
  obtain ⟨x0, l0⟩:=h6.ld (i:=a) (by omega)
  obtain ⟨x1, l1⟩:=h6.ld (i:=j2) (by omega)
  simp only [x0, x1, Run_bindO_some, Run_bind, Run_rdM, l0, l1, Option.some.injEq, exists_eq_left']
  refine h6.swp (by omega) (by omega) λ w7 h7 f7 => ?_
  simp only [Run_ret]
  rw [pe]
  exact ⟨rfl, h7, (f05.trans f6 λ _ _ h => h.elim).trans f7 λ _ _ => id⟩
 ·have hg2' : ¬ (i2 : Int) > (j2 : Int):=by omega
  rw [if_neg hg2, dif_pos (by omega)] at un
  have wi : IntKind.i64.wrap ((i2 : Int) + 1) = ((i2 + 1 : Nat) : Int):=by rw [wrapS] <;> omega
  have wj : IntKind.i64.wrap ((j2 : Int) - 1) = ((j2 - 1 : Nat) : Int):=by rw [wrapS] <;> omega
  simp only [hg2', decide_false, Run_condM_false]
  refine Run_drw λ w6 f6 => ?_
  have h6:=h5.fr0 f6
  obtain ⟨x0, l0⟩:=h6.ld (i:=j2) (by omega)
  obtain ⟨x1, l1⟩:=h6.ld (i:=i2) (by omega)
  simp only [x0, x1, Run_bindO_some, Run_bind, Run_rdM, l0, l1, Option.some.injEq, exists_eq_left']
  refine h6.swp (by omega) (by omega) λ w7 h7 f7 => ?_
  simp only [binV_int, intBin_add, intBin_sub, wi, wj, Run_bindO_some, Run_ret]
  exact ⟨⟨i2 + 1, j2 - 1, _, rfl, by omega, by omega, by omega, by rw [swp_size, hd1], h7, (f05.trans f6 λ _ _ h => h.elim).trans f7 λ _ _ => id, by rw [<- un, e3]⟩,
   by show b + 1 - ((i2 + 1 : Nat) : Int).toNat < b + 1 - (i1 : Int).toNat; omega⟩
end
section
variable {α : Type} [Inhabited α] {enc : α -> List Value} {w w' : World} {v c : Value} {d : Array α} {cf : α -> α -> Int} {a b : Nat}
theorem scanSorted_le (lt : α -> α -> Bool) (d : Array α) (b i : Nat) : i <= scanSorted lt d b i /\ scanSorted lt d b i <= max i b:=by
 fun_induction scanSorted lt d b i with
 | case1 i h ih =>
  simp only [Bool.and_eq_true, decide_eq_true_eq] at h
  omega
 | case2 i h => omega
theorem shiftDown_size (lt : α -> α -> Bool) : ∀ (j : Nat) (d : Array α), (shiftDown lt j d).size = d.size
 | 0, d => rfl
 | j + 1, d => by
  unfold shiftDown
  split
  ·rfl
  ·rw [shiftDown_size lt j, swp_size]
theorem shiftUp_size (lt : α -> α -> Bool) (b j : Nat) (d : Array α) : (shiftUp lt b j d).size = d.size:=by
 fun_induction shiftUp lt b j d <;> simp_all [swp_size]
theorem partial_run (h : RowS 3 enc w v d) (hc : Cmp 3 enc c cf) (hab : a < b) (hb : b <= d.size) (hs : d.size <= 1152921504606846976) :
  Run (F.s_partialInsertionSortCmpFunc_Stored v (.int .i64 a) (.int .i64 b) c) w λ r w' => r = .bool (partialInsertionSort (ltC cf) d a b).2 /\ RowS 3 enc w' v (partialInsertionSort (ltC cf) d a b).1 /\ Fr (inB v) w w':=by
 unfold F.s_partialInsertionSortCmpFunc_Stored
 have wa : IntKind.i64.wrap ((a : Int) + 1) = ((a + 1 : Nat) : Int):=by rw [wrapS] <;> omega
 have wba : IntKind.i64.wrap ((b : Int) - (a : Int)) = ((b - a : Nat) : Int):=by rw [wrapS] <;> omega
 simp only [binV_int, intBin_add, wa, Run_bindO_some, Run_bind]
 obtain ⟨R, hR⟩ : ∃ R, R = partialInsertionSort (ltC cf) d a b:=⟨_, rfl⟩
 rw [<- hR]
 refine Run_loopM (λ l w1 => ∃ (s i jn : Nat) (d1 : Array α), l = [.int .i64 i, .int .i64 jn] /\ jn + s = 5 /\ a + 1 <= i /\ i <= b /\ d1.size = d.size /\ RowS 3 enc w1 v d1 /\ Fr (inB v) w w1 /\ partialIns (ltC cf) a b s i d1 = R)
  (λ l _ => match l with | [_, .int .i64 j] => 5 - j.toNat | _ => 0) ?_ ⟨5, a + 1, 0, d, rfl, rfl, by omega, by omega, rfl, h, Fr.refl _ _, hR.symm⟩
 rintro l w1 ⟨s, i, jn, d1, rfl, hjs, hai, hib, hd1, h1, f1, e1⟩
 cases s with
 | zero =>
  have hj : ¬ (jn : Int) < 5:=by omega
  have e2 : R = (d1, false):=e1.symm
  simp only [getL_zero, getL_succ, binV_int, intBin_lss, hj, decide_false, Run_bindO_some, Run_condM_false, Run_ret, outK_exit, natBeq, decide_true, cond_true]
  rw [e2]
  exact ⟨rfl, h1, f1⟩
 | succ s =>
  have hj : (jn : Int) < 5:=by omega
  simp only [getL_zero, getL_succ, binV_int, intBin_lss, hj, decide_true, Run_bindO_some, Run_condM_true, Run_bind]
  have sc:=scanSorted_le (ltC cf) d1 b i
  refine Run.mono (Q:=λ o w2 => o = .exit 2 [.int .i64 (scanSorted (ltC cf) d1 b i : Nat)] /\ RowS 3 enc w2 v d1 /\ Fr (λ _ => False) w1 w2) ?_ ?_
  ·refine Run_loopM (λ l w2 => ∃ k : Nat, l = [.int .i64 k] /\ i <= k /\ k <= b /\ Fr (λ _ => False) w1 w2 /\ scanSorted (ltC cf) d1 b k = scanSorted (ltC cf) d1 b i) (λ l _ => match l with | [.int .i64 i] => b - i.toNat | _ => 0) ?_ ⟨i, rfl, Nat.le_refl _, hib, Fr.refl _ _, rfl⟩
   rintro l w2 ⟨k, rfl, hik, hkb, f2, e2⟩
   generalize scanSorted (ltC cf) d1 b i = S at e2 ⊢
   refine Run_drw λ w3 f3 => ?_
   have f03:=f2.trans f3 λ _ _ h => h
   have h3:=h1.fr0 f03
   unfold scanSorted at e2
   by_cases hk : k < b
   ·have hk' : (k : Int) < (b : Int):=by omega
    obtain ⟨m, hm⟩ : ∃ m, m = k - 1:=⟨_, rfl⟩
    have wk : IntKind.i64.wrap ((k : Int) - 1) = (m : Int):=by rw [wrapS] <;> omega
    have wk2 : IntKind.i64.wrap ((k : Int) + 1) = ((k + 1 : Nat) : Int):=by rw [wrapS] <;> omega
    obtain ⟨x0, l0⟩:=h3.ld (i:=k) (by omega)
    obtain ⟨x1, l1⟩:=h3.ld (i:=m) (by omega)
    simp [-ldA_ptr, -Run_drewM, hk', wk, x0, x1, l0, l1]
    refine hc _ _ _ _ λ w4 f4 => ?_
    have f04:=f03.trans f4 λ _ _ h => h
    rw [<- hm] at e2
    by_cases hlt : cf (eAt d1 k) (eAt d1 m) < 0
    ·have hl : ltC cf d1[k]! d1[m]! = true:=decide_eq_true hlt
     rw [hl, if_neg (by simp)] at e2
     simp [-ldA_ptr, -Run_drewM, hlt]
     rw [<- e2]
     exact ⟨rfl, h1.fr0 f04, f04⟩
    ·have hl : ltC cf d1[k]! d1[m]! = false:=decide_eq_false hlt
     rw [hl, if_pos (by simpa using hk)] at e2
     simp [-ldA_ptr, -Run_drewM, hlt, wk2]
     exact ⟨⟨k + 1, by omega, by omega, by omega, f04, e2⟩, by omega⟩
   ·have hk' : ¬ (k : Int) < (b : Int):=by omega
    rw [if_neg (by simp [hk])] at e2
    simp [-ldA_ptr, -Run_drewM, hk']
    rw [<- e2]
    exact ⟨rfl, h1.fr0 f03, f03⟩
  rintro _ w2 ⟨rfl, h2, f2⟩
  obtain ⟨i2, hi2⟩ : ∃ i2, i2 = scanSorted (ltC cf) d1 b i:=⟨_, rfl⟩
  have f02 : Fr (inB v) w w2:=f1.trans f2 λ _ _ h => h.elim
  rw [<- hi2] at sc ⊢
  unfold partialIns at e1
  simp only [<- hi2] at e1
  simp only [outK_exit, natBeq, decide_true, cond_true, getL_zero, binV_int, intBin_eql, Run_bindO_some]
  by_cases hib2 : i2 = b
  ·have hib2' : (i2 : Int) = (b : Int):=by omega
   rw [if_pos hib2] at e1
   simp only [hib2', decide_true, Run_condM_true, Run_ret, outK_ret]
   rw [<- e1]
   exact ⟨rfl, h2, f02⟩
  have hib2' : ¬ (i2 : Int) = (b : Int):=by omega
  rw [if_neg hib2] at e1
  simp only [hib2', decide_false, Run_condM_false, intBin_sub, binV_int, intBin_lss, wba, Run_bindO_some]
  by_cases h50 : b - a < 50
  ·have h50' : ((b - a : Nat) : Int) < 50:=by omega
   rw [if_pos h50] at e1
   simp only [h50', decide_true, Run_condM_true, Run_ret, outK_ret]
   rw [<- e1]
   exact ⟨rfl, h2, f02⟩
  have h50' : ¬ ((b - a : Nat) : Int) < 50:=by omega
  rw [if_neg h50] at e1
  simp only [h50', decide_false, Run_condM_false]
  obtain ⟨m, hm⟩ : ∃ m, m = i2 - 1:=⟨_, rfl⟩
  rw [<- hm] at e1
  have wm : IntKind.i64.wrap ((i2 : Int) - 1) = (m : Int):=by rw [wrapS] <;> omega
  refine Run_drw λ w3 f3 => ?_
  have h3:=h2.fr0 f3
  obtain ⟨x0, l0⟩:=h3.ld (i:=m) (by omega)
  obtain ⟨x1, l1⟩:=h3.ld (i:=i2) (by omega)
  simp only [binV_int, intBin_sub, wm, x0, x1, Run_bindO_some, Run_bind, Run_rdM, l0, l1, Option.some.injEq, exists_eq_left']
  refine h3.swp (by omega) (by omega) λ w4 h4 f4 => ?_
  have f04:=(f02.trans f3 λ _ _ h => h.elim).trans f4 λ _ _ => id
  obtain ⟨d2, hd2⟩ : ∃ d2, d2 = Sort.swp d1 i2 m:=⟨_, rfl⟩
  rw [<- hd2] at e1 h4
  have hz2 : d2.size = d.size:=by rw [hd2, swp_size, hd1]
  obtain ⟨q, hq⟩ : ∃ q, q = i2 - a:=⟨_, rfl⟩
  have wq : IntKind.i64.wrap ((i2 : Int) - (a : Int)) = (q : Int):=by rw [wrapS] <;> omega
  refine Run.mono (Q:=λ o w5 => o = .norm [] /\ RowS 3 enc w5 v (if i2 - a >= 2 then shiftDown (ltC cf) m d2 else d2) /\ Fr (inB v) w w5) ?_ ?_
  ·simp only [binV_int, intBin_sub, intBin_geq, ge_iff_le, wq, Run_bindO_some]
   by_cases hq2 : 2 <= q
   ·have hq2' : (2 : Int) <= (q : Int):=by omega
    rw [if_pos (show i2 - a >= 2 by omega)]
    simp only [hq2', decide_true, Run_condM_true, Run_bindO_some, Run_bind]
    refine Run_loopM (λ l w5 => ∃ (k : Nat) (d3 : Array α), l = [.int .i64 k] /\ k <= m /\ d3.size = d.size /\ RowS 3 enc w5 v d3 /\ Fr (inB v) w w5 /\ shiftDown (ltC cf) k d3 = shiftDown (ltC cf) m d2) (λ l _ => match l with | [.int .i64 i] => i.toNat | _ => 0) ?_ ⟨m, d2, rfl, Nat.le_refl _, hz2, h4, f04, rfl⟩
    rintro l w5 ⟨k, d3, rfl, hk, hz3, h5, f5, e5⟩
    generalize shiftDown (ltC cf) m d2 = S at e5 ⊢
    cases k with
    | zero =>
     have hge : ¬ (1 : Int) <= ((0 : Nat) : Int):=by omega
     have e5' : d3 = S:=e5
     simp only [getL_zero, binV_int, intBin_geq, ge_iff_le, hge, decide_false, Run_bindO_some, Run_condM_false, Run_ret, outK_exit, natBeq, decide_true, cond_true]
     rw [<- e5']
     exact ⟨trivial, h5, f5⟩
    | succ k =>
     obtain ⟨k1, hk1⟩ : ∃ k1, k1 = k + 1:=⟨_, rfl⟩
     rw [<- hk1]
     have hge : (1 : Int) <= (k1 : Int):=by omega
     have wk : IntKind.i64.wrap ((k1 : Int) - 1) = (k : Int):=by rw [wrapS] <;> omega
     simp only [getL_zero, binV_int, intBin_geq, ge_iff_le, hge, decide_true, Run_bindO_some, Run_condM_true]
     refine Run_drw λ w6 f6 => ?_
     have h6:=h5.fr0 f6
     have f06:=f5.trans f6 λ _ _ h => h.elim
     obtain ⟨x0, l0⟩:=h6.ld (i:=k1) (by omega)
     obtain ⟨x1, l1⟩:=h6.ld (i:=k) (by omega)
     simp only [binV_int, intBin_sub, wk, x0, x1, Run_bindO_some, Run_bind, Run_rdM, l0, l1, Option.some.injEq, exists_eq_left']
     refine hc _ _ _ _ λ w7 f7 => ?_
     have h7:=h6.fr0 f7
     have f07:=f06.trans f7 λ _ _ h => h.elim
     unfold shiftDown at e5
     by_cases hlt : cf (eAt d3 k1) (eAt d3 k) < 0
     ·have hl : ltC cf d3[k + 1]! d3[k]! = true:=by rw [<- hk1]; exact decide_eq_true hlt
      rw [hl, if_neg (by simp)] at e5
      simp only [binV_int, intBin_lss, hlt, decide_true, Run_bindO_some, notV_bool, Bool.not_true, Run_condM_false]
      refine Run_drw λ w8 f8 => ?_
      have h8:=h7.fr0 f8
      obtain ⟨_, l0⟩:=h8.ld (i:=k1) (by omega)
      obtain ⟨_, l1⟩:=h8.ld (i:=k) (by omega)
      simp only [binV_int, intBin_sub, wk, x0, x1, Run_bindO_some, Run_bind, Run_rdM, l0, l1, Option.some.injEq, exists_eq_left']
      refine h8.swp (by omega) (by omega) λ w9 h9 f9 => ?_
      simp only [Run_ret]
      exact ⟨⟨k, _, rfl, by omega, by rw [swp_size, hz3], h9, (f07.trans f8 λ _ _ h => h.elim).trans f9 λ _ _ => id, by rw [hk1]; exact e5⟩, by show (k : Int).toNat < (k1 : Int).toNat; omega⟩
     ·have hl : ltC cf d3[k + 1]! d3[k]! = false:=by rw [<- hk1]; exact decide_eq_false hlt
      rw [hl, if_pos (by simp)] at e5
      simp only [binV_int, intBin_lss, hlt, decide_false, Run_bindO_some, notV_bool, Bool.not_false, Run_condM_true, Run_ret, outK_exit, natBeq, decide_true, cond_true]
      rw [<- e5]
      exact ⟨trivial, h7, f07⟩
   ·have hq2' : ¬ (2 : Int) <= (q : Int):=by omega
    rw [if_neg (show ¬ i2 - a >= 2 by omega)]
    simp only [hq2', decide_false, Run_condM_false, Run_ret]
    exact ⟨trivial, h4, f04⟩
  rintro _ w5 ⟨rfl, h5, f5⟩
  obtain ⟨d3, hd3⟩ : ∃ d3, d3 = (if i2 - a >= 2 then shiftDown (ltC cf) m d2 else d2):=⟨_, rfl⟩
  rw [<- hd3] at e1 h5
  have hz3 : d3.size = d.size:=by
   rw [hd3]
   split
   ·rw [shiftDown_size, hz2]
   ·exact hz2
  simp only [outK_norm, Run_bind]
  obtain ⟨q2, hq2⟩ : ∃ q2, q2 = b - i2:=⟨_, rfl⟩
  have wq2 : IntKind.i64.wrap ((b : Int) - (i2 : Int)) = (q2 : Int):=by rw [wrapS] <;> omega
  have wi2 : IntKind.i64.wrap ((i2 : Int) + 1) = ((i2 + 1 : Nat) : Int):=by rw [wrapS] <;> omega
  refine Run.mono (Q:=λ o w6 => o = .norm [.int .i64 i2] /\ RowS 3 enc w6 v (if b - i2 >= 2 then shiftUp (ltC cf) b (i2 + 1) d3 else d3) /\ Fr (inB v) w w6) ?_ ?_
  ·simp only [binV_int, intBin_sub, intBin_geq, ge_iff_le, wq2, Run_bindO_some]
   by_cases hq3 : 2 <= q2
   ·have hq3' : (2 : Int) <= (q2 : Int):=by omega
    rw [if_pos (show b - i2 >= 2 by omega)]
    simp only [hq3', decide_true, Run_condM_true, binV_int, intBin_add, wi2, Run_bindO_some, Run_bind]
    refine Run_loopM (λ l w5 => ∃ (k : Nat) (d4 : Array α), l = [.int .i64 k] /\ i2 + 1 <= k /\ k <= b /\ d4.size = d.size /\ RowS 3 enc w5 v d4 /\ Fr (inB v) w w5 /\ shiftUp (ltC cf) b k d4 = shiftUp (ltC cf) b (i2 + 1) d3) (λ l _ => match l with | [.int .i64 i] => b - i.toNat | _ => 0) ?_ ⟨i2 + 1, d3, rfl, Nat.le_refl _, by omega, hz3, h5, f5, rfl⟩
    rintro l w5 ⟨k, d4, rfl, hik, hkb, hz4, h5, f5, e5⟩
    generalize shiftUp (ltC cf) b (i2 + 1) d3 = S at e5 ⊢
    unfold shiftUp at e5
    by_cases hk : k < b
    ·have hk' : (k : Int) < (b : Int):=by omega
     rw [if_pos hk] at e5
     obtain ⟨k1, hk1⟩ : ∃ k1, k1 = k - 1:=⟨_, rfl⟩
     rw [<- hk1] at e5
     have wk : IntKind.i64.wrap ((k : Int) - 1) = (k1 : Int):=by rw [wrapS] <;> omega
     have wk2 : IntKind.i64.wrap ((k : Int) + 1) = ((k + 1 : Nat) : Int):=by rw [wrapS] <;> omega
     simp only [getL_zero, binV_int, intBin_lss, hk', decide_true, Run_bindO_some, Run_condM_true]
     refine Run_drw λ w6 f6 => ?_
     have h6:=h5.fr0 f6
     have f06:=f5.trans f6 λ _ _ h => h.elim
     obtain ⟨x0, l0⟩:=h6.ld (i:=k) (by omega)
     obtain ⟨x1, l1⟩:=h6.ld (i:=k1) (by omega)
     simp only [binV_int, intBin_sub, wk, x0, x1, Run_bindO_some, Run_bind, Run_rdM, l0, l1, Option.some.injEq, exists_eq_left']
     refine hc _ _ _ _ λ w7 f7 => ?_
     have h7:=h6.fr0 f7
     have f07:=f06.trans f7 λ _ _ h => h.elim
     by_cases hlt : cf (eAt d4 k) (eAt d4 k1) < 0
     ·have hl : ltC cf d4[k]! d4[k1]! = true:=decide_eq_true hlt
      rw [hl, if_neg (by simp)] at e5
      simp only [binV_int, intBin_lss, hlt, decide_true, Run_bindO_some, notV_bool, Bool.not_true, Run_condM_false]
      refine Run_drw λ w8 f8 => ?_
      have h8:=h7.fr0 f8
      obtain ⟨_, l0⟩:=h8.ld (i:=k) (by omega)
      obtain ⟨_, l1⟩:=h8.ld (i:=k1) (by omega)
      simp only [binV_int, intBin_sub, wk, x0, x1, Run_bindO_some, Run_bind, Run_rdM, l0, l1, Option.some.injEq, exists_eq_left']
      refine h8.swp (by omega) (by omega) λ w9 h9 f9 => ?_
      simp only [binV_int, intBin_add, wk2, Run_bindO_some, Run_ret]
      exact ⟨⟨k + 1, _, rfl, by omega, by omega, by rw [swp_size, hz4], h9, (f07.trans f8 λ _ _ h => h.elim).trans f9 λ _ _ => id, e5⟩, by show b - ((k + 1 : Nat) : Int).toNat < b - (k : Int).toNat; omega⟩
     ·have hl : ltC cf d4[k]! d4[k1]! = false:=decide_eq_false hlt
      rw [hl, if_pos (by simp)] at e5
      simp only [binV_int, intBin_lss, hlt, decide_false, Run_bindO_some, notV_bool, Bool.not_false, Run_condM_true, Run_ret, outK_exit, natBeq, decide_true, cond_true]
      rw [<- e5]
      exact ⟨trivial, h7, f07⟩
    ·have hk' : ¬ (k : Int) < (b : Int):=by omega
     rw [if_neg hk] at e5
     simp only [getL_zero, binV_int, intBin_lss, hk', decide_false, Run_bindO_some, Run_condM_false, Run_ret, outK_exit, natBeq, decide_true, cond_true]
     rw [<- e5]
     exact ⟨trivial, h5, f5⟩
   ·have hq3' : ¬ (2 : Int) <= (q2 : Int):=by omega
    rw [if_neg (show ¬ b - i2 >= 2 by omega)]
    simp only [hq3', decide_false, Run_condM_false, Run_ret]
    exact ⟨trivial, h5, f5⟩
  rintro _ w6 ⟨rfl, h6, f6⟩
  have wj : IntKind.i64.wrap ((jn : Int) + 1) = ((jn + 1 : Nat) : Int):=by rw [wrapS] <;> omega
  simp only [outK_norm, getL_zero, binV_int, intBin_add, wj, Run_bindO_some, Run_ret]
  refine ⟨⟨s, i2, jn + 1, _, rfl, by omega, by omega, by omega, ?_, h6, f6, e1⟩, by show 5 - ((jn + 1 : Nat) : Int).toNat < 5 - (jn : Int).toNat; omega⟩
  split
  ·rw [shiftUp_size, hz3]
  ·exact hz3
end
end Go.Proofs.YtojnickeblbgoaaGreatDoor.SortStored
namespace Go.Proofs.YtojnickeblbgoaaGreatDoor.SortStored
open Go.Lift Go.Sort
set_option linter.unusedSimpArgs false
set_option linter.unusedVariables false
set_option maxHeartbeats 8000000
section
variable {α : Type} [Inhabited α] {enc : α -> List Value} {w w' : World} {v c : Value} {cf : α -> α -> Int}
theorem pdq_run (hS : SWO (ltC cf)) (hc : Cmp 3 enc c cf) : ∀ (n a b : Nat) (limit : Int) (d : Array α) (w : World), RowS 3 enc w v d -> a <= b -> b <= d.size -> d.size <= 1152921504606846976 -> Below (ltC cf) a b d -> b - a < n ->
  Run (F.s_pdqsortCmpFunc_Stored.it n v (.int .i64 a) (.int .i64 b) (.int .i64 limit) c) w λ _ w' => ∃ d', PermIn a b d d' /\ SortedIn (ltC cf) a b d' /\ RowS 3 enc w' v d' /\ Fr (inB v) w w':=by
 intro n
 induction n with
 | zero => intro a b limit d w _ _ _ _ _ hn; omega
 | succ n ih =>
  intro a b limit d w h hab hb hs hB hn
  show Run (F.s_pdqsortCmpFunc_Stored.step (F.s_pdqsortCmpFunc_Stored.it n) v (.int .i64 a) (.int .i64 b) (.int .i64 limit) c) w _
  unfold F.s_pdqsortCmpFunc_Stored.step
  simp only [Run_bind]
  refine Run_loopM (λ l w1 => ∃ (x y : Nat) (lim : Int) (wb wp : Bool) (d1 : Array α), l = [.int .i64 x, .int .i64 y, .int .i64 lim, .bool wb, .bool wp] /\ a <= x /\ x <= y /\ y <= b /\ d1.size = d.size /\ RowS 3 enc w1 v d1 /\ Fr (inB v) w w1 /\ Below (ltC cf) x y d1 /\
   (∀ R, PermIn x y d1 R -> SortedIn (ltC cf) x y R -> PermIn a b d R /\ SortedIn (ltC cf) a b R))
   (λ l _ => match l with | [.int .i64 x, .int .i64 y, _, _, _] => y.toNat - x.toNat | _ => 0) ?_
   ⟨a, b, limit, true, true, d, rfl, Nat.le_refl _, hab, Nat.le_refl _, rfl, h, Fr.refl _ _, hB, λ R h1 h2 => ⟨h1, h2⟩⟩
  rintro l w1 ⟨x, y, lim, wb, wp, d1, rfl, hax, hxy, hyb, hz1, h1, f1, hB1, hfin⟩
  obtain ⟨len, hlen⟩ : ∃ len, len = y - x:=⟨_, rfl⟩
  have wl : IntKind.i64.wrap ((y : Int) - (x : Int)) = (len : Int):=by rw [wrapS] <;> omega
  simp only [getL_zero, getL_succ, binV_int, intBin_sub, wl, intBin_leq, Run_bindO_some]
  by_cases h12 : len <= 12
  ·have h12' : (len : Int) <= 12:=by omega
   simp only [h12', decide_true, Run_condM_true, Run_bind]
   refine (ins_run h1 hc hxy (by omega) (by omega)).mono ?_
   rintro _ w2 ⟨_, h2, f2⟩
   obtain ⟨q1, q2⟩:=insertionSort_holds hS d1 x y hxy (by omega)
   obtain ⟨r1, r2⟩:=hfin _ q1 q2
   simp only [Run_ret, outK_ret]
   exact ⟨_, r1, r2, h2, f1.trans f2 λ _ _ => id⟩
  have h12' : ¬ (len : Int) <= 12:=by omega
  simp only [h12', decide_false, Run_condM_false, binV_int, intBin_eql, Run_bindO_some]
  by_cases hl0 : lim = 0
  ·simp only [hl0, decide_true, Run_condM_true, Run_bind]
   refine (heap_run h1 hc hxy (by omega) (by omega)).mono ?_
   rintro _ w2 ⟨_, h2, f2⟩
   obtain ⟨q1, q2⟩:=heapSort_holds hS d1 x y hxy (by omega)
   obtain ⟨r1, r2⟩:=hfin _ q1 q2
   simp only [Run_ret, outK_ret]
   exact ⟨_, r1, r2, h2, f1.trans f2 λ _ _ => id⟩
  simp only [hl0, decide_false, Run_condM_false, Run_bind]
  refine Run.mono (Q:=λ o w2 => ∃ (lim2 : Int) (d2 : Array α), o = .norm [.int .i64 lim2] /\ PermIn x y d1 d2 /\ RowS 3 enc w2 v d2 /\ Fr (inB v) w w2) ?_ ?_
  ·cases wb with
   | true =>
    simp only [notV_bool, Bool.not_true, Run_bindO_some, Run_condM_false, Run_ret]
    exact ⟨lim, d1, rfl, permIn_refl _ _ _, h1, f1⟩
   | false =>
    simp only [notV_bool, Bool.not_false, Run_bindO_some, Run_condM_true, Run_bind]
    refine (break_run h1 (by omega) (by omega) (by omega)).mono ?_
    rintro _ w2 ⟨d2, hp2, h2, f2⟩
    simp only [binV_int, intBin_sub, Run_bindO_some, Run_ret]
    exact ⟨_, d2, rfl, hp2, h2, f1.trans f2 λ _ _ => id⟩
  rintro _ w2 ⟨lim2, d2, rfl, hp2, h2, f2⟩
  have hz2:=hp2.1
  simp only [outK_norm, getL_zero, Run_bind]
  refine (pivot_run h2 hc (by omega) (by omega) (by omega)).mono ?_
  rintro _ w3 ⟨⟨p, t, rfl, hp, hp'⟩, f3⟩
  have h3:=h2.fr0 f3
  have f03 : Fr (inB v) w w3:=f2.trans f3 λ _ _ h => h.elim
  simp only [extV_tuple, List.getElem?_toArray, List.getElem?_cons_zero, List.getElem?_cons_succ, Run_bindO_some, Run_bind]
  refine Run.mono (Q:=λ o w4 => ∃ (p : Nat) (t : Int) (d3 : Array α), o = .norm [.int .i64 p, .int .i64 t] /\ x <= p /\ p < y /\ PermIn x y d1 d3 /\ RowS 3 enc w4 v d3 /\ Fr (inB v) w w4) ?_ ?_
  ·simp only [binV_int, intBin_eql, Run_bindO_some]
   by_cases ht : t = 2
   ·simp only [ht, decide_true, Run_condM_true, Run_bind]
    refine (rev_run h3 (by omega) (by omega) (by omega)).mono ?_
    rintro _ w4 ⟨d3, hp3, h4, f4⟩
    have wy : IntKind.i64.wrap ((y : Int) - 1) = (y : Int) - 1:=by rw [wrapS] <;> omega
    have wpx : IntKind.i64.wrap ((p : Int) - (x : Int)) = (p : Int) - (x : Int):=by rw [wrapS] <;> omega
    have wr : IntKind.i64.wrap ((y : Int) - 1 - ((p : Int) - (x : Int))) = ((y - 1 - (p - x) : Nat) : Int):=by rw [wrapS] <;> omega
    simp only [binV_int, intBin_sub, wy, wpx, wr, Run_bindO_some, Run_ret]
    exact ⟨_, _, d3, rfl, by omega, by omega, permIn_trans _ _ _ _ _ hp2 hp3, h4, f03.trans f4 λ _ _ => id⟩
   ·simp only [ht, decide_false, Run_condM_false, Run_ret]
    exact ⟨p, t, d2, rfl, hp, hp', hp2, h3, f03⟩
  rintro _ w4 ⟨p, t, d3, rfl, hp, hp', hp3, h4, f4⟩
  clear h3 hz2 h2 hp2 d2
  have hz3:=hp3.1
  have hB3 : Below (ltC cf) x y d3:=hB1.perm (by omega) hp3
  simp only [outK_norm, getL_zero, getL_succ]
  rw [Run_bind]
  refine Run.mono (Q:=λ o w5 => (o = .norm [] /\ ∃ d4 : Array α, PermIn x y d1 d4 /\ RowS 3 enc w5 v d4 /\ Fr (inB v) w w5) ∨ (∃ r, o = .ret r /\ ∃ d4 : Array α, PermIn x y d1 d4 /\ SortedIn (ltC cf) x y d4 /\ RowS 3 enc w5 v d4 /\ Fr (inB v) w w5)) ?_ ?_
  ·have go : Run (M.bind (F.s_partialInsertionSortCmpFunc_Stored v (.int .i64 x) (.int .i64 y) c) λ x31 => condM x31 (M.ret (Out.ret (Value.tuple #[]))) (M.ret (Out.norm []))) w4 λ (o : Out) w5 => (o = .norm [] /\ ∃ d4 : Array α, PermIn x y d1 d4 /\ RowS 3 enc w5 v d4 /\ Fr (inB v) w w5) ∨ (∃ r, o = .ret r /\ ∃ d4 : Array α, PermIn x y d1 d4 /\ SortedIn (ltC cf) x y d4 /\ RowS 3 enc w5 v d4 /\ Fr (inB v) w w5):=by
    simp only [Run_bind]
    refine (partial_run h4 hc (by omega) (by omega) (by omega)).mono ?_
    rintro _ w5 ⟨rfl, h5, f5⟩
    obtain ⟨q1, q2⟩:=partialInsertionSort_holds hS d3 x y (by omega) (by omega) hB3
    cases hr : (partialInsertionSort (ltC cf) d3 x y).2 with
    | true =>
     simp only [Run_condM_true, Run_ret]
     exact .inr ⟨_, rfl, _, permIn_trans _ _ _ _ _ hp3 q1, q2 hr, h5, f4.trans f5 λ _ _ => id⟩
    | false =>
     simp only [Run_condM_false, Run_ret]
     exact .inl ⟨trivial, _, permIn_trans _ _ _ _ _ hp3 q1, h5, f4.trans f5 λ _ _ => id⟩
   have no : (True /\ ∃ d4 : Array α, PermIn x y d1 d4 /\ RowS 3 enc w4 v d4 /\ Fr (inB v) w w4) ∨ (∃ r : Value, (Out.norm [] : Out) = Out.ret r /\ ∃ d4 : Array α, PermIn x y d1 d4 /\ SortedIn (ltC cf) x y d4 /\ RowS 3 enc w4 v d4 /\ Fr (inB v) w w4):=.inl ⟨trivial, d3, hp3, h4, f4⟩
   cases wb with
   | false =>
    simp only [Run_bind, Run_guardM_ft, pickV_bool, cond_false, Run_bindO_some, Run_condM_false, Run_ret]
    exact no
   | true =>
    cases wp with
    | false =>
     simp only [Run_bind, Run_guardM_tt, Run_ret, Run_guardM_ft, pickV_bool, cond_true, cond_false, Run_bindO_some, Run_condM_false]
     exact no
    | true =>
     simp only [Run_bind, Run_guardM_tt, Run_ret, pickV_bool, cond_true, binV_int, intBin_eql, Run_optM_some, Run_bindO_some]
     by_cases ht : t = 1
     ·simp only [ht, decide_true, Run_condM_true]
      exact go
     ·simp only [ht, decide_false, Run_condM_false, Run_ret]
      exact no
  rintro o w5 (⟨rfl, d4, hp4, h5, f5⟩ | ⟨r, rfl, d4, hp4, hs4, h5, f5⟩)
  ·have hz4:=hp4.1
   have hB4 : Below (ltC cf) x y d4:=hB1.perm (by omega) hp4
   have hfin4 : ∀ R, PermIn x y d4 R -> SortedIn (ltC cf) x y R -> PermIn a b d R /\ SortedIn (ltC cf) a b R:=λ R h1 h2 => hfin R (permIn_trans _ _ _ _ _ hp4 h1) h2
   simp only [outK_norm]
   refine Run_drw λ w6 f6 => ?_
   have h6:=h5.fr0 f6
   have f06:=f5.trans f6 λ _ _ h => h.elim
   obtain ⟨x1, l1⟩:=h6.ld (i:=p) (by omega)
   have left : ∀ w7, RowS 3 enc w7 v d4 -> Fr (inB v) w w7 -> 0 < x -> ltC cf d4[x - 1]! d4[p]! = false ->
     Run (M.bind (F.s_partitionEqualCmpFunc_Stored v (.int .i64 x) (.int .i64 y) (.int .i64 p) c) λ x51 => M.ret (Out.norm [x51, .int .i64 y, .int .i64 lim2, .bool wb, .bool wp])) w7 λ o w' => match o with
      | .norm l' => (∃ (x y : Nat) (lim : Int) (wb wp : Bool) (d1 : Array α), l' = [.int .i64 x, .int .i64 y, .int .i64 lim, .bool wb, .bool wp] /\ a <= x /\ x <= y /\ y <= b /\ d1.size = d.size /\ RowS 3 enc w' v d1 /\ Fr (inB v) w w' /\ Below (ltC cf) x y d1 /\
   (∀ R, PermIn x y d1 R -> SortedIn (ltC cf) x y R -> PermIn a b d R /\ SortedIn (ltC cf) a b R)) /\ (match l' with | [.int .i64 x, .int .i64 y, _, _, _] => y.toNat - x.toNat | _ => 0) < y - x
      | _ => False:=by
    intro w7 h7 f7 hx0 hnl
    simp only [Run_bind]
    refine (eq_run h7 hc (by omega) (by omega) hp hp' (by omega)).mono ?_
    rintro _ w8 ⟨rfl, h8, f8⟩
    obtain ⟨mid, d5, hx⟩ : ∃ mid d5, partitionEqual (ltC cf) d4 x y p = (mid, d5):=⟨_, _, rfl⟩
    obtain ⟨g1, g2, g3, g4, g5⟩:=round_eq hS (partitionEqual_holds _) hx0 hp hp' (by omega) hB4 hnl hx
    rw [hx] at h8 ⊢
    simp only [Run_ret]
    exact ⟨⟨mid, y, lim2, wb, wp, d5, rfl, by omega, by omega, hyb, by omega, h8, f7.trans f8 λ _ _ => id, g4, λ R q1 q2 => (λ h => hfin4 R h.1 h.2) (g5 R q1 q2)⟩, by show y - (mid : Int).toNat < y - x; omega⟩
   have right : ∀ w7, RowS 3 enc w7 v d4 -> Fr (inB v) w w7 -> ∀ K, (∀ (mid : Nat) (ap : Bool) (d5 : Array α) w8, partition (ltC cf) d4 x y p = (mid, ap, d5) -> RowS 3 enc w8 v d5 -> Fr (inB v) w w8 -> K (.tuple #[.int .i64 mid, .bool ap]) w8) ->
     Run (F.s_partitionCmpFunc_Stored v (.int .i64 x) (.int .i64 y) (.int .i64 p) c) w7 K:=by
    intro w7 h7 f7 K hK
    refine (part_run h7 hc (by omega) (by omega) hp hp' (by omega)).mono ?_
    rintro _ w8 ⟨rfl, h8, f8⟩
    exact hK _ _ _ w8 rfl h8 (f7.trans f8 λ _ _ => id)
   have rest : ∀ (mid : Nat) (ap : Bool) (d5 : Array α) w8, partition (ltC cf) d4 x y p = (mid, ap, d5) -> RowS 3 enc w8 v d5 -> Fr (inB v) w w8 ->
     Run (bindO (binV BinOp.sub (.int .i64 mid) (.int .i64 x)) λ x55 =>
        bindO (binV BinOp.sub (.int .i64 y) (.int .i64 mid)) λ x56 =>
        bindO (binV BinOp.quo (.int .i64 len) (Value.int IntKind.i64 8)) λ x57 =>
        bindO (binV BinOp.lss x55 x56) λ x58 =>
        condM x58 (
         bindO (binV BinOp.geq x55 x57) λ x59 =>
         M.bind (F.s_pdqsortCmpFunc_Stored.it n v (.int .i64 x) (.int .i64 mid) (.int .i64 lim2) c) λ _ =>
         bindO (binV BinOp.add (.int .i64 mid) (Value.int IntKind.i64 1)) λ x61 =>
         M.ret (Out.norm [x61, .int .i64 y, .int .i64 lim2, x59, .bool ap])) (
         bindO (binV BinOp.geq x56 x57) λ x62 =>
         bindO (binV BinOp.add (.int .i64 mid) (Value.int IntKind.i64 1)) λ x63 =>
         M.bind (F.s_pdqsortCmpFunc_Stored.it n v x63 (.int .i64 y) (.int .i64 lim2) c) λ _ =>
         M.ret (Out.norm [.int .i64 x, .int .i64 mid, .int .i64 lim2, x62, .bool ap]))) w8 λ o w' => match o with
      | .norm l' => (∃ (x y : Nat) (lim : Int) (wb wp : Bool) (d1 : Array α), l' = [.int .i64 x, .int .i64 y, .int .i64 lim, .bool wb, .bool wp] /\ a <= x /\ x <= y /\ y <= b /\ d1.size = d.size /\ RowS 3 enc w' v d1 /\ Fr (inB v) w w' /\ Below (ltC cf) x y d1 /\
   (∀ R, PermIn x y d1 R -> SortedIn (ltC cf) x y R -> PermIn a b d R /\ SortedIn (ltC cf) a b R)) /\ (match l' with | [.int .i64 x, .int .i64 y, _, _, _] => y.toNat - x.toNat | _ => 0) < y - x
      | _ => False:=by
    intro mid ap d5 w8 hx h8 f8
    obtain ⟨g1, g2, g3, g4, g5, g6, g7⟩:=round_part hS (partition_holds _) hp hp' (by omega) hB4 hx
    have w1 : IntKind.i64.wrap ((mid : Int) - (x : Int)) = ((mid - x : Nat) : Int):=by rw [wrapS] <;> omega
    have w2 : IntKind.i64.wrap ((y : Int) - (mid : Int)) = ((y - mid : Nat) : Int):=by rw [wrapS] <;> omega
    have w3 : IntKind.i64.wrap ((mid : Int) + 1) = ((mid + 1 : Nat) : Int):=by rw [wrapS] <;> omega
    simp only [binV_int, intBin_sub, intBin_quo, intBin_lss, intBin_geq, intBin_add, if_neg (show ¬ (8 : Int) = 0 by decide), w1, w2, w3, Run_bindO_some]
    by_cases hlt : mid - x < y - mid
    ·have hlt' : ((mid - x : Nat) : Int) < ((y - mid : Nat) : Int):=by omega
     simp only [hlt', decide_true, Run_condM_true, Run_bind, Run_bindO_some]
     refine (ih x mid lim2 d5 w8 h8 g1 (by omega) (by omega) g4 (by omega)).mono ?_
     rintro _ w9 ⟨d6, q1, q2, h9, f9⟩
     obtain ⟨e1, e2⟩:=g6 d6 q1 q2
     have hz6:=q1.1
     simp only [Run_ret, Run_bindO_some]
     exact ⟨⟨mid + 1, y, lim2, _, ap, d6, rfl, by omega, by omega, hyb, by omega, h9, f8.trans f9 λ _ _ => id, e1, λ R r1 r2 => (λ h => hfin4 R h.1 h.2) (e2 R r1 r2)⟩, by show y - ((mid + 1 : Nat) : Int).toNat < y - x; omega⟩
    ·have hlt' : ¬ ((mid - x : Nat) : Int) < ((y - mid : Nat) : Int):=by omega
     simp only [hlt', decide_false, Run_condM_false, Run_bind, Run_bindO_some]
     refine (ih (mid + 1) y lim2 d5 w8 h8 (by omega) (by omega) (by omega) g5 (by omega)).mono ?_
     rintro _ w9 ⟨d6, q1, q2, h9, f9⟩
     obtain ⟨e1, e2⟩:=g7 d6 q1 q2
     have hz6:=q1.1
     simp only [Run_ret, Run_bindO_some]
     exact ⟨⟨x, mid, lim2, _, ap, d6, rfl, by omega, by omega, by omega, by omega, h9, f8.trans f9 λ _ _ => id, e1, λ R r1 r2 => (λ h => hfin4 R h.1 h.2) (e2 R r1 r2)⟩, by show mid - (x : Int).toNat < y - x; omega⟩
   by_cases hx0 : 0 < x
   ·obtain ⟨m, hm⟩ : ∃ m, m = x - 1:=⟨_, rfl⟩
    have hx0' : (x : Int) > 0:=by omega
    have wm : IntKind.i64.wrap ((x : Int) - 1) = (m : Int):=by rw [wrapS] <;> omega
    obtain ⟨x0, l0⟩:=h6.ld (i:=m) (by omega)
    simp only [binV_int, intBin_gtr, intBin_sub, hx0', decide_true, Run_bindO_some, Run_bind, Run_guardM_tt, Run_ret, Run_optM_some, wm, x0, x1, Run_rdM, l0, l1, Option.some.injEq, exists_eq_left']
    refine hc _ _ _ _ λ w7 f7 => ?_
    have h7:=h6.fr0 f7
    have f07:=f06.trans f7 λ _ _ h => h.elim
    by_cases hlt : cf (eAt d4 m) (eAt d4 p) < 0
    ·simp only [binV_int, intBin_lss, hlt, decide_true, Run_optM_some, notV_bool, Bool.not_true, pickV_bool, cond_true, Run_bindO_some, Run_condM_false, Run_bind]
     refine right w7 h7 f07 _ λ mid ap d5 w8 hx h8 f8 => ?_
     simp only [extV_tuple, List.getElem?_toArray, List.getElem?_cons_zero, List.getElem?_cons_succ, Run_bindO_some]
     refine (rest mid ap d5 w8 hx h8 f8).mono λ o w9 hq => ?_
     cases o with
     | norm l' => exact hq
     | exit i l => exact hq.elim
     | ret r => exact hq.elim
    ·simp only [binV_int, intBin_lss, hlt, decide_false, Run_optM_some, notV_bool, Bool.not_false, pickV_bool, cond_true, Run_bindO_some, Run_condM_true]
     refine (left w7 h7 f07 hx0 (by rw [<- hm]; exact decide_eq_false hlt)).mono λ o w9 hq => ?_
     cases o with
     | norm l' => exact hq
     | exit i l => exact hq.elim
     | ret r => exact hq.elim
   ·have hx0' : ¬ (x : Int) > 0:=by omega
    simp only [binV_int, intBin_gtr, hx0', decide_false, Run_bindO_some, Run_bind, Run_guardM_ft, pickV_bool, cond_false, Run_condM_false]
    refine right w6 h6 f06 _ λ mid ap d5 w8 hx h8 f8 => ?_
    simp only [extV_tuple, List.getElem?_toArray, List.getElem?_cons_zero, List.getElem?_cons_succ, Run_bindO_some]
    refine (rest mid ap d5 w8 hx h8 f8).mono λ o w9 hq => ?_
    cases o with
    | norm l' => exact hq
    | exit i l => exact hq.elim
    | ret r => exact hq.elim
  ·obtain ⟨r1, r2⟩:=hfin _ hp4 hs4
   simp only [outK_ret, Run_ret]
   exact ⟨_, r1, r2, h5, f5⟩
theorem sort_run {d : Array α} (h : RowS 3 enc w v d) (hS : SWO (ltC cf)) (hc : Cmp 3 enc c cf) (hs : d.size <= 1152921504606846976) :
  Run (F.s_SortFunc_Stored v c) w λ _ w' => ∃ d', PermIn 0 d.size d d' /\ SortedIn (ltC cf) 0 d.size d' /\ RowS 3 enc w' v d' /\ Fr (inB v) w w':=by
 unfold F.s_SortFunc_Stored
 have hl : lenL v = some (.int .i64 d.size):=by
  have:=h.sl.1.lenL
  rw [List.length_map, Array.length_toList] at this
  exact this
 have wu : IntKind.u64.wrap (d.size : Int) = (d.size : Int):=by simp [IntKind.wrap, IntKind.bits, IntKind.signed]; omega
 have e : Run (F.bits_Len (.int .u64 d.size)) w λ r w' => (∃ L : Int, r = .int .i64 L) /\ w' = w:=by
  refine ⟨.int .i64 (Lib.bitLen d.size), w, ?_, ⟨_, rfl⟩, rfl⟩
  unfold F.bits_Len
  simp only []
  rw [if_pos ⟨by omega, by omega⟩, Int.toNat_natCast]
 simp only [hl, Run_bindO_some, cvtI_int, wu, Run_bind]
 refine e.mono ?_
 rintro _ w1 ⟨⟨L, rfl⟩, rfl⟩
 refine (F.s_pdqsortCmpFunc_Stored.run (pdq_run hS hc (d.size + 1) 0 d.size L d w1 h (by omega) (Nat.le_refl _) hs (.inl rfl) (by omega))).mono ?_
 rintro _ w2 ⟨d', q1, q2, h2, f2⟩
 simp only [Run_ret]
 exact ⟨d', q1, q2, h2, f2⟩
end
end Go.Proofs.YtojnickeblbgoaaGreatDoor.SortStored
namespace Go.Proofs.YtojnickeblbgoaaGreatDoor
open Go.Lift Go.Sort
set_option linter.unusedSimpArgs false
set_option linter.unusedVariables false
set_option maxHeartbeats 4000000
structure Std where
 path : ByteArray
 kind : Int
 data : ByteArray
 deriving Inhabited
def Std.cells (x : Std) : List Value:=[.string x.path, .int .i64 x.kind, .string x.data]
abbrev cbF:=Lib.compareBytes
theorem cb_self : ∀ a : List UInt8, cbF a a = 0
 | [] => rfl
 | x :: a => by simp [cbF, Lib.compareBytes]; exact cb_self a
theorem cb_neg : ∀ a b : List UInt8, cbF b a = - cbF a b
 | [], [] => rfl
 | [], y :: b => rfl
 | x :: a, [] => rfl
 | x :: a, y :: b => by
  have ih:=cb_neg a b
  simp only [cbF, Lib.compareBytes] at ih ⊢
  by_cases h1 : x < y
  ·have h2 : ¬ y < x:=λ h => by have:=UInt8.lt_iff_toNat_lt.1 h; have:=UInt8.lt_iff_toNat_lt.1 h1; omega
   simp [h1, h2]
  ·by_cases h2 : y < x
   ·simp [h1, h2]
   ·simp [h1, h2, ih]
theorem cb_zero : ∀ {a b : List UInt8}, cbF a b = 0 -> a = b
 | [], [], _ => rfl
 | [], y :: b, h => by simp [cbF, Lib.compareBytes] at h
 | x :: a, [], h => by simp [cbF, Lib.compareBytes] at h
 | x :: a, y :: b, h => by
  simp only [cbF, Lib.compareBytes] at h
  split at h
  ·cases h
  ·split at h
   ·cases h
   ·rename_i h1 h2
    have : x = y:=by
     apply UInt8.toNat_inj.1
     have k1 : ¬ x.toNat < y.toNat:=λ h => h1 (UInt8.lt_iff_toNat_lt.2 h)
     have k2 : ¬ y.toNat < x.toNat:=λ h => h2 (UInt8.lt_iff_toNat_lt.2 h)
     omega
    rw [this, cb_zero h]
theorem cb_trans : ∀ {a b c : List UInt8}, cbF a b < 0 -> cbF b c < 0 -> cbF a c < 0
 | [], [], c, h, _ => by simp [cbF, Lib.compareBytes] at h
 | [], y :: b, [], _, h => by simp [cbF, Lib.compareBytes] at h
 | [], y :: b, z :: c, _, _ => by simp [cbF, Lib.compareBytes]
 | x :: a, [], c, h, _ => by simp [cbF, Lib.compareBytes] at h
 | x :: a, y :: b, [], _, h => by simp [cbF, Lib.compareBytes] at h
 | x :: a, y :: b, z :: c, h, h' => by
  simp only [cbF, Lib.compareBytes] at h h' ⊢
  have nx : ∀ u v : UInt8, u < v ↔ u.toNat < v.toNat:=λ u v => UInt8.lt_iff_toNat_lt
  simp only [nx] at *
  split at h
  ·split at h'
   ·rw [if_pos (by omega)]; decide
   ·split at h'
    ·exact absurd h' (by decide)
    ·rw [if_pos (by omega)]; decide
  ·split at h
   ·exact absurd h (by decide)
   ·split at h'
    ·rw [if_pos (by omega)]; decide
    ·split at h'
     ·exact absurd h' (by decide)
     ·rw [if_neg (by omega), if_neg (by omega)]
      exact cb_trans h h'
def cfS (x y : Std) : Int:=cbF x.path.data.toList y.path.data.toList
theorem swoS : SWO (ltC cfS):=by
 have lt_t : ∀ {x y : Std}, ltC cfS x y = true -> cbF x.path.data.toList y.path.data.toList < 0:=λ h => of_decide_eq_true h
 have lt_f : ∀ {x y : Std}, ltC cfS x y = false -> ¬ cbF x.path.data.toList y.path.data.toList < 0:=λ h => of_decide_eq_false h
 refine ⟨λ x => decide_eq_false ?_, λ x y z h1 h2 => decide_eq_true (cb_trans (lt_t h1) (lt_t h2)), λ x y z h1 h2 => decide_eq_false ?_⟩
 ·unfold cfS; rw [cb_self]; decide
 ·intro h3
  have h3' : cbF x.path.data.toList z.path.data.toList < 0:=h3
  rcases Int.lt_trichotomy (cbF y.path.data.toList z.path.data.toList) 0 with h4 | h4 | h4
  ·exact lt_f h2 h4
  ·rw [<- cb_zero h4] at h3'; exact lt_f h1 h3'
  ·have h5 : cbF z.path.data.toList y.path.data.toList < 0:=by rw [cb_neg]; omega
   exact lt_f h1 (cb_trans h3' h5)
def ltP (x y : Std) : Prop:=cbF x.path.data.toList y.path.data.toList < 0
theorem ltP_asymm {x y : Std} (h : ltP x y) (h' : ltP y x) : False:=by
 unfold ltP at h h'
 rw [cb_neg] at h'
 omega
noncomputable def nmOf (m : Slt -> Option Int) (k : Int) : List ByteArray:=open Classical in if h : ∃ N, Rt m k N then Classical.choose h else []
section
variable {A M n : Nat} {dep : Int -> Nat} {kd : Int -> Prop} {d d' : Dk} {m : Slt -> Option Int}
theorem rt_uniq (h : Ents n kd dep m) {k : Int} {N N' : List ByteArray} (hr : Rt m k N) (hr' : Rt m k N') : N = N':=by
 induction hr generalizing N' with
 | root =>
  generalize hz : (0 : Int) = z at hr'
  cases hr' with
  | root => rfl
  | step _ hk => have:=(h.rng _ _ hk).1; omega
 | step hr hk ih =>
  rename_i D x nm pre
  cases hr' with
  | root => have:=(h.rng _ _ hk).1; omega
  | step hr' hk' =>
   have:=h.inj _ _ _ hk hk'
   cases this
   rw [ih hr']
theorem nm_eq (h : Ents n kd dep m) {k : Int} {N : List ByteArray} (hr : Rt m k N) : nmOf m k = N:=by
 have hh : ∃ N, Rt m k N:=⟨N, hr⟩
 unfold nmOf
 rw [dif_pos hh]
 exact rt_uniq h (Classical.choose_spec hh) hr
theorem rt_names (h : Ents n kd dep m) {k : Int} {N : List ByteArray} (hr : Rt m k N) : ∀ x ∈ N, nameF x = true:=by
 induction hr with
 | root => intro x hx; cases hx
 | step hr hk ih =>
  intro x hx
  rcases List.mem_append.1 hx with hx | hx
  ·exact ih x hx
  ·obtain rfl:=List.mem_singleton.1 hx; exact h.nam _ _ hk
noncomputable def stdOf (d : Dk) (k : Int) : Std:=⟨pathF (nmOf d.seen k), (d.nd k).kind, (d.nd k).seen⟩
structure DumpOk (d : Dk) (l : List Std) : Prop where
 ex : ∃ ks : List Int, ks.Nodup /\ (∀ k, k ∈ ks ↔ ∃ s, d.seen s = some k) /\ l.Perm (ks.map (stdOf d))
 srt : l.Pairwise ltP
theorem nodup_perm {α : Type} [DecidableEq α] : ∀ {xs ys : List α}, xs.Nodup -> ys.Nodup -> (∀ x, x ∈ xs ↔ x ∈ ys) -> xs.Perm ys
 | [], ys, _, _, h => by
  cases ys with
  | nil => exact List.Perm.refl _
  | cons y ys => exact absurd ((h y).2 (by simp)) (by simp)
 | x :: xs, ys, hx, hy, h => by
  have hxy : x ∈ ys:=(h x).1 (by simp)
  have p:=List.perm_cons_erase hxy
  refine List.Perm.trans (List.Perm.cons x ?_) p.symm
  refine nodup_perm (List.nodup_cons.1 hx).2 (hy.erase x) λ z => ?_
  rw [hy.mem_erase_iff]
  constructor
  ·intro hz
   exact ⟨λ he => (List.nodup_cons.1 hx).1 (he ▸ hz), (h z).1 (by simp [hz])⟩
  ·rintro ⟨h1, h2⟩
   rcases List.mem_cons.1 ((h z).2 h2) with h3 | h3
   ·exact absurd h3 h1
   ·exact h3
theorem DumpOk.eq {l l' : List Std} (h : DumpOk d l) (h' : DumpOk d' l') (hs : ∀ k, (∃ s, d.seen s = some k) ↔ ∃ s, d'.seen s = some k) (hk : ∀ k, (∃ s, d.seen s = some k) -> stdOf d k = stdOf d' k) : l = l':=by
 obtain ⟨ks, q1, q2, q3⟩:=h.ex
 obtain ⟨ks', q1', q2', q3'⟩:=h'.ex
 have hp : ks.Perm ks':=nodup_perm q1 q1' λ k => by rw [q2, q2', hs]
 have he : ks.map (stdOf d) = ks.map (stdOf d'):=List.map_congr_left λ k hk' => hk k ((q2 k).1 hk')
 refine List.Perm.eq_of_pairwise (le:=ltP) (λ a b _ _ h1 h2 => (ltP_asymm h1 h2).elim) h.srt h'.srt ?_
 exact q3.trans ((he ▸ hp.map (stdOf d')).trans q3'.symm)
end
theorem keyI : KeyOk Tryz.prog 3 (EqSh.one EqK.int) idv where
 eq:=λ a b => by simp [idv]
 ok:=λ a => by simp [idv]; kernel_rfl
 bits:=λ a => by simp [idv, Instr.sameBits]
def dumpC : Value:=.func (.func 80) #[] #[]
theorem Std.all (x : Std) : x.cells.all isCell = true:=by simp [Std.cells]
theorem dump_cmp : Cmp 3 Std.cells dumpC cfS:=by
 intro x y w Q q
 show Run (F.d_Dump_1 (.agg x.cells.toArray) (.agg y.cells.toArray)) w Q
 unfold F.d_Dump_1
 simp only [Run_bind]
 refine Run_new λ a w1 ha _ f1 _ => ?_
 refine Run_new λ b w2 hb _ f2 _ => ?_
 have ha' : bk w2 a = some x.cells:=f2.bk_some (by simpa using ha) id
 have hb' : bk w2 b = some y.cells:=by simpa using hb
 simp [ha', hb', Std.cells]
 refine ⟨_, _, rfl, q _ (f1.trans f2 λ _ _ => id)⟩
theorem sizes_le : ∀ (N : List ByteArray), (∀ x ∈ N, x.size <= 40) -> (pathF N).size <= 41 * N.length
 | [], _ => by simp [pathF, joinL, ByteArray.size]
 | x :: N, h => by
  have h1 : ∀ (N : List ByteArray), (∀ x ∈ N, x.size <= 40) -> (N.map λ y => slash.data.toList ++ y.data.toList).flatten.length <= 41 * N.length:=by
   intro N
   induction N with
   | nil => simp
   | cons y N ih =>
    intro h
    have:=ih λ z hz => h z (by simp [hz])
    have hy : y.data.toList.length <= 40:=h y (by simp)
    have hs : slash.data.toList.length = 1:=rfl
    simp only [List.map_cons, List.flatten_cons, List.length_append, List.length_cons]
    omega
  have h2:=h1 N λ z hz => h z (by simp [hz])
  have hx : x.data.toList.length <= 40:=h x (by simp)
  have e : (pathF (x :: N)).size = x.data.toList.length + (N.map λ y => slash.data.toList ++ y.data.toList).flatten.length:=by
   simp only [pathF, ByteArray.size, joinL, List.size_toArray, List.length_append]
  rw [e, List.length_cons]
  omega
theorem path_cons {x : ByteArray} {N : List ByteArray} (h : N ≠ []) : pathF (x :: N) = x ++ slash ++ pathF N:=by
 apply ba_ext
 obtain ⟨y, r, rfl⟩:=List.exists_cons_of_ne_nil h
 simp only [pathF, joinL, List.map_cons, List.flatten_cons, ByteArray.data_append, Array.toList_append, List.append_assoc]
section
variable {w w' w'' : World} {b : Nat} {d d' : Dk} {v : DV} {tag : Nat -> Nat} {A B : Nat} {dep : Int -> Nat}
theorem it_lt2 {K V : Type} [DecidableEq K] {kv : K -> Value} {vv : V -> Value} {r b : Nat} {l : List (K × V)} {js : List Nat} {w : World} (h : ItAt kv vv w r b l js) : r < w.heap.size:=by
 obtain ⟨es, c, _, h2, _⟩:=h.ex
 exact (Array.getElem?_eq_some_iff.1 h2).1
def PFor (ls : List (Slt × Int)) (js : List Nat) (pl : List (Int × Slt)) : Prop:=∀ k s, getK k pl = some s ↔ ∃ j ∈ js, ls[j]? = some (s, k)
def Parent (d : Dk) (pl : List (Int × Slt)) : Prop:=∀ k s, getK k pl = some s ↔ d.seen s = some k
theorem bin_addS {x y : ByteArray} (h : x.size + y.size < 9223372036854775808) : binV .add (.string x) (.string y) = some (.string (x ++ y)):=by
 have : ¬ (((x.size + y.size : Nat) : Int) > IntKind.i64.max):=by
  show ¬ (((x.size + y.size : Nat) : Int) > 9223372036854775807)
  omega
 simp only [binV_str, strBin]
 rw [if_neg this]
theorem climb_run {m : Nat} {pl : List (Int × Slt)} (hI : GI A B dep d) (hp : MapAt idv slv w m pl) (hP : Parent d pl) {z : Nat} {s : Slt} {k : Int} (hz : bk w z = some [.int .i64 s.1, .string s.2]) (hw : wr w z = true) (hs : d.seen s = some k) :
  Run (loopM (λ l32 =>
       bindO (fieldA 0 (Ptr z)) λ x33 =>
       M.bind (rdM (ld1 x33)) λ x34 =>
       bindO (binV BinOp.neq x34 (Value.int IntKind.i64 0)) λ x35 =>
       condM x35 (
        bindO (fieldA 0 (Ptr z)) λ x36 =>
        M.bind (rdM (ld1 x36)) λ x37 =>
        M.bind (rdM (lookV Tryz.prog 3 (EqSh.one EqK.int) (Value.agg #[(Value.int IntKind.i64 0), (Value.string ByteArray.empty)]) false (.map (some m)) x37)) λ x38 =>
        M.bind (stM 2 (Ptr z) x38) λ _ =>
        bindO (fieldA 1 (Ptr z)) λ x40 =>
        M.bind (rdM (ld1 x40)) λ x41 =>
        bindO (binV BinOp.add x41 (Value.string (ByteArray.mk #[47]))) λ x42 =>
        bindO (binV BinOp.add x42 (getL l32 0)) λ x43 =>
        M.ret (Out.norm [x43])) (
        M.ret (Out.exit 4 [(getL l32 0)]))) [.string s.2]) w λ o w' => o = .exit 4 [.string (pathF (nmOf d.seen k))] /\ Fr (λ c => c = z) w w':=by
 obtain ⟨pre0, hr0, hk0⟩:=hI.rt hs
 have hnm : nmOf d.seen k = pre0 ++ [s.2]:=nm_eq hI.pseen hk0
 have hdk:=rt_dep hI.pseen hI.dep0 hk0
 have hd8:=(hI.pseen.dpt _ _ hs).2
 have hlenN : (pre0 ++ [s.2]).length <= 8:=by omega
 have hnames:=rt_names hI.pseen hk0
 have hsz : ∀ x ∈ pre0 ++ [s.2], x.size <= 40:=λ x hx => by
  have:=hnames x hx
  simp only [nameF, Bool.and_eq_true, decide_eq_true_eq] at this
  exact this.1.1.1.2
 have hzm : z ≠ m:=λ he => by
  obtain ⟨es, c, q, _⟩:=hp.ex
  obtain ⟨c', e, mm, q', _⟩:=bk_cells hz
  rw [he, q] at q'
  cases q'
 refine Run_loopM (λ l w1 => ∃ (t : Slt) (pre suf : List ByteArray), l = [.string (pathF (t.2 :: suf))] /\ bk w1 z = some [.int .i64 t.1, .string t.2] /\ Rt d.seen t.1 pre /\ pre ++ t.2 :: suf = pre0 ++ [s.2] /\ Fr (λ c => c = z) w w1 /\ wr w1 z = true)
  (λ l w1 => match bk w1 z with | some [.int .i64 x, _] => dep x | _ => 0) ?_ ⟨s, pre0, [], by simp [pathF, joinL], hz, hr0, rfl, Fr.refl _ _, hw⟩
 rintro l w1 ⟨t, pre, suf, rfl, hz1, hr, he, f1, hw1⟩
 by_cases h0 : t.1 = 0
 ·simp [hz1, h0]
  refine ⟨?_, f1⟩
  show pathF (t.2 :: suf) = pathF (nmOf d.seen k)
  have hpre : pre = []:=by
   have:=rt_dep hI.pseen hI.dep0 hr
   rw [h0, hI.dep0] at this
   exact List.eq_nil_of_length_eq_zero this.symm
  rw [hnm, <- he, hpre]
  rfl
 ·obtain ⟨t2, ht2⟩ : ∃ t2, d.seen t2 = some t.1:=(rt_up hr).resolve_left h0
  obtain ⟨pre2, hr2, hr3⟩:=hI.rt ht2
  have hpe : pre = pre2 ++ [t2.2]:=rt_uniq hI.pseen hr hr3
  have hg : getK t.1 pl = some t2:=(hP _ _).2 ht2
  have hm1:=hp.fr f1 (λ h => hzm h.symm)
  have hl:=hm1.look (w:=w1) (P:=Tryz.prog) keyI t.1 (.agg #[(Value.int IntKind.i64 0), (Value.string ByteArray.empty)]) false
  rw [hg] at hl
  simp only [Bool.false_eq_true, if_false, Option.map_some, Option.getD_some] at hl
  have hl' : lookV Tryz.prog 3 (EqSh.one EqK.int) (.agg #[(Value.int IntKind.i64 0), (Value.string ByteArray.empty)]) false (.map (some m)) (.int .i64 t.1) w1 = some (.agg #[.int .i64 t2.1, .string t2.2]):=hl
  have hle:=congrArg List.length he
  rw [hpe] at hle he
  simp only [List.length_append, List.length_cons, List.length_nil] at hle hlenN
  have hs1 : ∀ x ∈ t.2 :: suf, x.size <= 40:=λ x hx => hsz x (by rw [<- he]; exact List.mem_append_right _ hx)
  have hs2 : t2.2.size <= 40:=hsz t2.2 (by rw [<- he]; simp)
  have hb1:=sizes_le (t.2 :: suf) hs1
  rw [List.length_cons] at hb1
  have e47 : ByteArray.mk #[47] = slash:=rfl
  have hsl : slash.size = 1:=rfl
  have a1 : binV .add (.string t2.2) (.string slash) = some (.string (t2.2 ++ slash)):=bin_addS (by omega)
  have a2 : binV .add (.string (t2.2 ++ slash)) (.string (pathF (t.2 :: suf))) = some (.string (pathF (t2.2 :: t.2 :: suf))):=by
   rw [bin_addS (by rw [ByteArray.size_append]; omega), path_cons (x:=t2.2) (by simp)]
  rw [e47]
  simp only [fieldA_ptr, Run_bindO_some, Run_bind, Run_rdM, ld1_ptr, hz1, Option.bind_some, List.getElem?_cons_zero, Option.some.injEq, exists_eq_left', binV_int, intBin_neq, h0, decide_false, Bool.not_false, Run_condM_true, hl', Nat.zero_add]
  rw [Run_stA ⟨⟨⟨_, hz1, by simp⟩, hw1⟩, by simp, by simp⟩]
  have hz2 : bk (sto w1 z 0 [.int .i64 t2.1, .string t2.2]) z = some [.int .i64 t2.1, .string t2.2]:=by simp [hz1]
  simp only [hz2, Option.bind_some, List.getElem?_cons_succ, List.getElem?_cons_zero, Option.some.injEq, exists_eq_left', a1, getL_zero, a2, Run_bindO_some, Run_ret]
  refine ⟨⟨t2, pre2, t.2 :: suf, rfl, rfl, hr2, by rw [<- he]; simp, f1.sto (.inl rfl) _ _, by rw [wr_sto]; exact hw1⟩, ?_⟩
  have:=(hI.pseen.dpt _ _ ht2).1
  omega
theorem dump_run (h : DA w b d v tag) (hI : GI A B dep d) (hB : B <= 16777216) (hA : A <= 2305843009213693952) :
  Run (F.d_Dump (Ptr b)) w λ r w' => ∃ l : List Std, SlW 3 w' r (l.map Std.cells) /\ DumpOk d l /\ Fr (λ _ => False) w w' /\ ∀ c, inB r c -> w.heap.size <= c /\ c < w'.heap.size:=by
 unfold F.d_Dump
 simp [-ldA_ptr]
 refine Run_mkmM (kv:=idv) (vv:=slv) λ w1 m hm f1 hmle => ?_
 have hb1:=(h.fr0 f1).blk
 simp [-ldA_ptr, hb1, Dk.cells]
 have h1:=h.fr0 f1
 have hnls:=h.seen.nodup
 refine Run_rngM h1.seen λ w2 r hit f2 hr => ?_
 have hm2:=hm.fr f2 id
 have hml:=hm.lt
 have hmbs : m ≠ v.bs:=λ he => by have:=h.seen.lt; omega
 have hrm : r ≠ m:=by omega
 have hin : ∀ {j : Nat} {p : Slt × Int}, v.ls[j]? = some p -> d.seen p.1 = some p.2:=λ {j p} hj => by
  rw [<- h.seenE]; exact getK_of_mem hnls (List.mem_of_getElem? hj)
 refine Run_range (k:=λ _ _ => _) (λ x => rfl) (λ js x w' => x = [] /\ Fr (λ c => c = r ∨ c = m) w2 w' /\ ∃ pl : List (Int × Slt), MapAt idv slv w' m pl /\ PFor v.ls js pl) ⟨rfl, Fr.refl _ _, [], hm2, λ k s => by simp [getK]⟩ hit ?_ ?_
 ·rintro js j p x wa wb hp hj ⟨rfl, fa, pl, hpl, hP⟩ hitb fb _
  have he:=hitb.entry hp
  obtain ⟨⟨pd, pn⟩, pk⟩:=p
  simp [-ldA_ptr, he, slv, idv]
  refine Run_newSt (cs:=#[.int .i64 pd, .string pn]) rfl rfl (by simp) λ z wc hz hzw fc hzle => ?_
  have hz' : bk wc z = some [.int .i64 pd, .string pn]:=hz
  have hpl':=(hpl.fr fb (λ h => hrm h.symm)).fr fc id
  have hl2 : ldA 2 (Ptr z) wc = some (slv (pd, pn)):=by rw [ldA_bk hz' (by simp)]; rfl
  simp only [hl2, Option.some.injEq, exists_eq_left']
  refine Run_updM (kv:=idv) (vv:=slv) keyI hpl' pk (pd, pn) λ wd hpd fd _ => ?_
  have hzm2 : z ≠ m:=λ h => by have:=hpl.lt; have:=fb.size; omega
  refine ⟨⟨((fa.trans fb λ c _ hc => .inl hc).trans fc λ _ _ h => h.elim).trans fd λ c _ hc => .inr hc, _, hpd, λ k s => ?_⟩, (hitb.fr fc id id).fr fd (λ h => hmbs h.symm) (λ h => hrm h)⟩
  show getK k (putK pk (pd, pn) pl) = some s ↔ ∃ i ∈ js ++ [j], v.ls[i]? = some (s, k)
  rw [getK_putK]
  by_cases hk : k = pk
  ·rw [if_pos hk]
   constructor
   ·intro hs
    cases hs
    exact ⟨j, by simp, by rw [hp, hk]⟩
   ·rintro ⟨i, _, hi⟩
    have q1:=hin hi
    have q2:=hin hp
    rw [hk] at q1
    have q3:=hI.pseen.inj _ _ _ q1 q2
    simp only at q3
    rw [q3]
  ·rw [if_neg hk, hP k s]
   constructor
   ·rintro ⟨i, hi, hs⟩
    exact ⟨i, by simp [hi], hs⟩
   ·rintro ⟨i, hi, hs⟩
    rcases List.mem_append.1 hi with hi | hi
    ·exact ⟨i, hi, hs⟩
    ·obtain rfl:=List.mem_singleton.1 hi
     rw [hp] at hs
     cases hs
     exact absurd rfl hk
 ·rintro js x wa wb hperm ⟨rfl, fa, pl, hpl, hP0⟩ hitb fb _
  have f0b : Fr (λ _ => False) w wb:=((f1.trans f2 λ _ _ h => h).new fa λ c hc => by rcases hc with h' | h' <;> omega).trans fb λ _ _ h => h
  have hP : Parent d pl:=λ k s => by
   rw [hP0 k s]
   constructor
   ·rintro ⟨j, _, hj⟩; exact hin hj
   ·intro hs
    rw [<- h.seenE] at hs
    obtain ⟨j, hj⟩:=List.getElem?_of_mem (getK_mem hs)
    exact ⟨j, hperm.mem_iff.2 (List.mem_range.2 (List.getElem?_eq_some_iff.1 hj).1), hj⟩
  have hplb:=hpl.fr fb id
  simp [-ldA_ptr]
  refine Run_rngM hplb λ w4 r2 hit2 f4 hr2 => ?_
  have f04:=f0b.trans f4 λ _ _ h => h
  have hnpl:=hpl.nodup
  have hpos:=hI.pos
  have hplen : pl.length <= B:=by
   refine Nat.le_trans ?_ hI.len
   have q:=pigeon (pl.map (·.1)) ((List.range d.nodes.length).map λ n : Nat => (n : Int)) hnpl λ x hx => by
    obtain ⟨p, hp, rfl⟩:=List.mem_map.1 hx
    have:=(hP p.1 p.2).1 (getK_of_mem hnpl hp)
    have:=hI.pseen.rng _ _ this
    exact List.mem_map.2 ⟨p.1.toNat, List.mem_range.2 (by omega), by omega⟩
   simpa using q
  refine Run_range (k:=λ _ _ => _) (λ x => rfl) (λ js x w' => ∃ rv, x = [rv] /\ Fr (λ c => c = r2) w4 w' /\ SlW 3 w' rv (((js.filterMap λ j => pl[j]?).map λ p => stdOf d p.1).map Std.cells) /\ ∀ c, inB rv c -> w4.heap.size <= c /\ c ≠ r2 /\ c ≠ m /\ c < w'.heap.size) ⟨_, rfl, Fr.refl _ _, SlW.nil _ _, λ c hc => hc.elim⟩ hit2 ?_ ?_
  ·rintro js2 j p x wc wd hp hj ⟨rv, rfl, fc, hrv, hrin⟩ hitd fd sd
   have he:=hitd.entry hp
   obtain ⟨k, s⟩:=p
   have hks : d.seen s = some k:=(hP k s).1 (getK_of_mem hnpl (List.mem_of_getElem? hp))
   simp [-ldA_ptr, he, idv, slv]
   refine Run_newSt (cs:=#[.int .i64 s.1, .string s.2]) rfl rfl (by simp) λ z we hz hzw fe hzle => ?_
   have hz' : bk we z = some [.int .i64 s.1, .string s.2]:=hz
   have hmb:=hplb.lt
   have fcd : Fr (λ c => c = r2) w4 wd:=fc.trans fd λ _ _ h => h
   have hple : MapAt idv slv we m pl:=((hplb.fr f4 id).fr fcd (by omega)).fr fe id
   refine (Run_bindO (fieldA_ptr 1 z 0)).2 (Run_bind.2 (Run_rdM.2 ⟨.string s.2, by rw [ld1_ptr, hz']; rfl, Run_bind.2 ?_⟩))
   refine Run.mono (climb_run hI hple hP hz' hzw hks) ?_
   rintro _ wf ⟨rfl, ff⟩
   have z1:=f04.size
   have z2:=fcd.size
   have z3:=fe.size
   have z4:=ff.size
   have z5:=fb.size
   have z6:=f0b.size
   have z7:=fd.size
   have z10:=f4.size
   have f0d : Fr (λ _ => False) w wd:=f04.new fcd λ c hc => by omega
   have f0f : Fr (λ _ => False) w wf:=(f0d.trans fe λ _ _ h => h).new ff λ c hc => by omega
   simp only [outK_exit, natBeq, decide_true, cond_true, getL_zero]
   refine Run_drw λ wg fg => ?_
   have f0g:=f0f.trans fg λ _ _ h => h
   have hg:=h.fr0 f0g
   have hbg:=hg.blk
   have hrk:=hI.pseen.rng _ _ hks
   obtain ⟨i, hi⟩ : ∃ i : Nat, k = i:=⟨k.toNat, by omega⟩
   have hil : i < d.nodes.length:=by omega
   have hin : d.nodes[i]? = some d.nodes[i]:=List.getElem?_eq_getElem hil
   generalize d.nodes[i] = nd at hin
   have hnd : d.nd k = nd:=by simp [Dk.nd, hi, hin]
   obtain ⟨b0, o, l0, i1, t4, i2, q0, q1, _, _⟩:=hg.setNode hin
   have i1' : idxA 3 v.nv (.int .i64 k) = some (.pointer (some ⟨b0, o, none⟩)):=by rw [hi]; exact i1
   have hbd : buildV #[Value.string ByteArray.empty, Value.int IntKind.i64 0, Value.string ByteArray.empty] [(0, 1, .string (pathF (nmOf d.seen k))), (1, 1, .int .i64 nd.kind), (2, 1, .string nd.seen)] = some (.agg (stdOf d k).cells.toArray):=by
    simp [buildV, fillV, Std.cells, stdOf, hnd]
   have hrg : SlW 3 wg rv (((js2.filterMap λ j => pl[j]?).map λ p => stdOf d p.1).map Std.cells):=by
    refine ((hrv.fr fd λ c hc => (hrin c hc).2.1).fr fe λ _ _ => id).fr (ff.trans fg λ _ _ h => h.elim) λ c hc he => ?_
    have:=hrin c hc
    omega
   simp only [Run_bindO_some, fieldA_ptr, Run_bind, Run_rdM, ld1_ptr, hbg, Dk.cells, Option.bind_some, List.getElem?_cons_succ, List.getElem?_cons_zero, Option.some.injEq, exists_eq_left', i1', i2, Nat.add_zero, Nat.zero_add, q0, q1, hbd]
   have hjl : js2.length < pl.length:=by
    have h1:=hitd.nd
    have h2:=nodup_lt_len h1 hitd.lt
    rw [List.length_append, List.length_singleton] at h2
    omega
   refine Run_app1 (k:=3) (y:=.agg (stdOf d k).cells.toArray) rfl hrg (by decide) rfl (by decide) (by simpa using (stdOf d k).all) ?_ λ r3 wh hr3 fh hin3 wi fi => ?_
   ·have h1 : ((js2.filterMap λ j => pl[j]?).map λ p => stdOf d p.1).length <= js2.length:=by rw [List.length_map]; exact List.length_filterMap_le _ _
    rw [List.length_map]
    omega
   ·have z8:=fg.size
    have z9:=fh.size
    simp only [Run_ret]
    refine ⟨⟨r3, rfl, ?_, ?_, ?_⟩, ?_⟩
    ·refine ((fcd.trans fe λ _ _ h => h.elim).trans (ff.trans fg λ _ _ h => h.elim) λ c hc he => by omega).trans fh λ c hc he => ?_
     have:=hrin c he
     omega
    ·simpa [List.filterMap_append, hp] using hr3
    ·intro c hc
     rcases hin3 c hc with h' | h'
     ·have:=hrin c h'
      omega
     ·have:=it_lt2 hitd
      omega
    ·have hitf:=(hitd.fr fe id id).fr (ff.trans fg λ _ _ h => h.elim) (λ he => by omega) (λ he => by have:=it_lt2 hitd; omega)
     refine hitf.fr fh (λ he => ?_) (λ he => ?_)
     ·exact (hrin m he).2.2.1 rfl
     ·exact (hrin r2 he).2.1 rfl
  ·rintro js2 x wc wd hperm2 ⟨rv, rfl, fc, hrv, hrin⟩ hitd fd sd
   have z1:=f04.size
   have f0d : Fr (λ _ => False) w wd:=(f04.new fc λ c hc => by have:=f0b.size; omega).trans fd λ _ _ h => h
   have hrd:=hrv.fr fd λ _ _ => id
   simp
   obtain ⟨L, hL⟩ : ∃ L, L = ((js2.filterMap λ j => pl[j]?).map λ p => stdOf d p.1):=⟨_, rfl⟩
   have hrow : RowS 3 Std.cells wd rv L.toArray:=⟨by rw [hL]; exact hrd, by decide, λ x => ⟨rfl, x.all⟩⟩
   have hLn : L.length <= B:=by
    rw [hL, List.length_map, (perm_all hperm2).length_eq]
    exact hplen
   refine (SortStored.sort_run hrow swoS dump_cmp (by simp; omega)).mono ?_
   rintro _ we ⟨D, hp1, hp2, hD, fe⟩
   have hks : (L.map id).Perm ((pl.map (·.1)).map (stdOf d)):=by
    rw [hL, List.map_id, List.map_map]
    exact (perm_all hperm2).map _
   have hpD : D.toList.Perm L:=by
    have h2:=hp1.2.2
    have e1 : (D.extract 0 L.toArray.size).toList = D.toList:=by
     have : L.toArray.size = D.size:=hp1.1.symm
     rw [this]; simp
    have e2 : (L.toArray.extract 0 L.toArray.size).toList = L:=by simp
    rw [e1, e2] at h2
    exact h2
   refine ⟨D.toList, hD.sl, ⟨⟨pl.map (·.1), hnpl, λ k => ?_, hpD.trans (by simpa using hks)⟩, ?_⟩, f0d.new fe λ c hc => by have:=(hrin c hc).1; omega, λ c hc => by have:=hrin c hc; have:=fd.size; have:=fe.size; omega⟩
   ·constructor
    ·intro hk
     obtain ⟨p, hp, rfl⟩:=List.mem_map.1 hk
     exact ⟨p.2, (hP _ _).1 (getK_of_mem hnpl hp)⟩
    ·rintro ⟨s, hs⟩
     exact List.mem_map.2 ⟨(k, s), getK_mem ((hP _ _).2 hs), rfl⟩
   ·have hnd : (D.toList.map (·.path)).Nodup:=by
     have hp:=(hpD.trans (by simpa using hks)).map (λ x : Std => x.path)
     refine hp.nodup_iff.2 ?_
     rw [List.map_map]
     rw [List.nodup_iff_pairwise_ne, List.pairwise_map]
     rw [List.nodup_iff_pairwise_ne, List.pairwise_map] at hnpl
     refine hnpl.imp_of_mem λ {p q} hpm hqm hne he => hne ?_
     have q1:=(hP p.1 p.2).1 (getK_of_mem hpl.nodup hpm)
     have q2:=(hP q.1 q.2).1 (getK_of_mem hpl.nodup hqm)
     obtain ⟨_, _, r1⟩:=hI.rt q1
     obtain ⟨_, _, r2⟩:=hI.rt q2
     have e : pathF (nmOf d.seen p.1) = pathF (nmOf d.seen q.1):=he
     rw [nm_eq hI.pseen r1, nm_eq hI.pseen r2] at e
     have e2:=path_inj (rt_names hI.pseen r1) (rt_names hI.pseen r2) e
     rw [e2] at r1
     exact rt_fun r1 r2
    have hsz : D.size = L.toArray.size:=hp1.1
    rw [List.pairwise_iff_getElem]
    intro i j hi hj hij
    rw [Array.length_toList] at hi hj
    have hs:=hp2 i j (Nat.zero_le _) hij (by omega)
    rw [getElem!_pos D j (by omega), getElem!_pos D i (by omega)] at hs
    have hne : D[i].path ≠ D[j].path:=λ he => by
     rw [List.nodup_iff_pairwise_ne, List.pairwise_iff_getElem] at hnd
     exact hnd i j (by simpa using hi) (by simpa using hj) hij (by simpa using he)
    have hs' : ¬ cbF D[j].path.data.toList D[i].path.data.toList < 0:=of_decide_eq_false hs
    have hn:=cb_neg D[i].path.data.toList D[j].path.data.toList
    have h0 : cbF D[i].path.data.toList D[j].path.data.toList ≠ 0:=λ h => hne (ba_ext (cb_zero h))
    show cbF D.toList[i].path.data.toList D.toList[j].path.data.toList < 0
    rw [Array.getElem_toList, Array.getElem_toList]
    omega
end
section
variable {w w' w'' : World} {b : Nat} {d d' : Dk} {v : DV} {tag : Nat -> Nat} {A B : Nat} {dep : Int -> Nat}
theorem acts_run (h : DA w b d v tag) : Run (F.d_Acts (Ptr b)) w λ r w' => r = .int .i64 d.acts /\ w' = w:=by
 unfold F.d_Acts
 have hb:=h.blk
 simp [hb, Dk.cells]
theorem reads_run (h : DA w b d v tag) : Run (F.d_Reads (Ptr b)) w λ r w' => r = .int .i64 d.reads /\ w' = w:=by
 unfold F.d_Reads
 have hb:=h.blk
 simp [hb, Dk.cells]
theorem pending_run (h : DA w b d v tag) : Run (F.d_Pending (Ptr b)) w λ r w' => r = .int .i64 d.pending.length /\ w' = w:=by
 unfold F.d_Pending
 have hb:=h.blk
 have hl:=h.pend.1.lenL
 rw [List.length_map] at hl
 simp [hb, Dk.cells, hl]
def IsUsed (d : Dk) (U : Int) : Prop:=∃ ls : List (Slt × Int), (ls.map (·.1)).Nodup /\ Eqm ls d.seen /\ U = IntKind.i64.wrap (sumF d ls)
theorem used2_run (h : DA w b d v tag) (hI : GI A B dep d) : Run (F.d_Used (Ptr b)) w λ r w' => ∃ U, r = .int .i64 U /\ IsUsed d U /\ Fr (λ _ => False) w w':=by
 refine (used_run h hI.good (λ s k hs => by have:=hI.pseen.rng s k hs; omega)).mono ?_
 rintro _ w1 ⟨rfl, f1⟩
 exact ⟨_, rfl, ⟨v.ls, h.seen.nodup, h.seenE, rfl⟩, f1⟩
theorem same_run {x y : Value} {l : List Std} (hx : Sl 3 w x (l.map Std.cells)) (hy : Sl 3 w y (l.map Std.cells)) (hl : l.length <= 4611686018427387904) : Run (F.l_sameStored x y) w λ r w' => r = .bool true /\ Fr (λ _ => False) w w':=by
 unfold F.l_sameStored
 have l1:=hx.lenL
 have l2:=hy.lenL
 rw [List.length_map] at l1 l2
 simp [-ldA_ptr, l1, l2]
 refine Run_for l.length (λ i L w' => L = [.int .i64 i] /\ Fr (λ _ => False) w w') ⟨rfl, Fr.refl _ _⟩ ?_ ?_
 ·rintro i L w1 hi ⟨rfl, f1⟩
  have hi' : (i : Int) < l.length:=by omega
  have ei : l[i]? = some l[i]:=List.getElem?_eq_getElem hi
  generalize l[i] = e at ei
  have wi : IntKind.i64.wrap ((i : Int) + 1) = ((i + 1 : Nat) : Int):=by rw [wrapS] <;> omega
  simp only [getL_zero, l1, binV_int, intBin_lss, hi', decide_true, Run_bindO_some, Run_condM_true]
  refine Run_drw λ w2 f2 => ?_
  have f02:=f1.trans f2 λ _ _ h => h
  obtain ⟨p, p1, p2⟩:=(hx.fr0 f02).rdA (i:=i) (e:=e.cells) (by decide) (by simp [ei]) .i64
  obtain ⟨q, q1, q2⟩:=(hy.fr0 f02).rdA (i:=i) (e:=e.cells) (by decide) (by simp [ei]) .i64
  simp [-ldA_ptr, p1, p2, q1, q2, Std.cells, ba_eq, wi]
  exact f02
 ·rintro L w1 ⟨rfl, f1⟩
  simp [l1]
  exact f1
def readX (d : Dk) (p : ByteArray) (at' n : Int) : (ByteArray × Int) × Dk:=if d.down then ((E0, 10), d) else if (parseF p).isSome = false then ((E0, 11), d) else if at' < 0 ∨ n < 0 then ((E0, 1), d) else
 if (d.findF p 2).1 ≠ 0 then ((E0, (d.findF p 2).1), d) else if ((d.nd (d.findF p 2).2.2).seen.size : Int) < at' then ((E0, 16), d) else
 (((d.nd (d.findF p 2).2.2).seen.extract at'.toNat (at' + min n ((d.nd (d.findF p 2).2.2).seen.size - at')).toNat, 0), { d with reads:=IntKind.i64.wrap (d.reads + 1) })
theorem read2_run (h : DA w b d v tag) (g : Good d) {path : ByteArray} (hs : path.size < 4294967281) (at' n : Int) (hn : ∀ nd ∈ d.nodes, nd.seen.size <= 2305843009213693952) :
  Run (F.d_Read (Ptr b) (.string path) (.int .i64 at') (.int .i64 n)) w λ r w' => r = .tuple #[.string (readX d path at' n).1.1, .int .i64 (readX d path at' n).1.2] /\ DDid w w' b tag (readX d path at' n).2:=by
 unfold F.d_Read
 have eE : ByteArray.mk #[] = E0:=rfl
 rw [eE]
 have same : ∀ w', Fr (λ _ => False) w w' -> DDid w w' b tag d:=λ w' f => (h.fr0 f).did (f.mono λ _ h => h.elim)
 unfold readX
 simp only [Run_bind]
 refine ready_run h ?_
 by_cases hd : d.down = true
 ·simp [hd]
  exact same _ (Fr.refl _ _)
 obtain ⟨m, hm⟩:=h.ml
 simp [-ldA_ptr, hd]
 refine (parse_run path hs hm).mono ?_
 rintro _ w2 ⟨nv, rfl, f2, _⟩
 have h2:=h.fr0 f2
 by_cases hp : (parseF path).isSome = false
 ·simp [-ldA_ptr, hp]
  have hp' : parseF path = none:=by simpa using hp
  simp [hp']
  exact same _ f2
 have hp1 : (parseF path).isSome = true:=by
  cases hq : parseF path with
  | none => exact absurd (by rw [hq]; rfl) hp
  | some _ => rfl
 have hp2 : ¬ parseF path = none:=by intro h; rw [h] at hp1; cases hp1
 by_cases ha : at' < 0
 ·simp [-ldA_ptr, hp1, ha, hp2]
  exact same _ f2
 by_cases hnn : n < 0
 ·simp [-ldA_ptr, hp1, ha, hnn, hp2]
  exact same _ f2
 simp [-ldA_ptr, hp1, ha, hnn, hp2]
 refine (find_run h2 g hs 2).mono ?_
 rintro _ w3 ⟨rfl, f3⟩
 have hlt:=find_lt g path 2
 have hpos:=find_pos (d:=d) (path:=path) (kind:=2)
 generalize d.findF path 2 = s at *
 obtain ⟨e, ⟨a1, a2⟩, node⟩:=s
 simp only at hlt hpos ⊢
 simp [-ldA_ptr, spotV]
 refine spot_mem λ x w4 hx _ f4 _ => ?_
 have f04 : Fr (λ _ => False) w w4:=(f2.trans f3 λ _ _ => id).trans f4 λ _ _ => id
 have h4:=h.fr0 f04
 by_cases he : e = 0
 ·subst he
  have hnn:=(hpos rfl).1
  obtain ⟨j, hj⟩ : ∃ j : Nat, node = j:=⟨node.toNat, by omega⟩
  have hjl : j < d.nodes.length:=by omega
  have hjn : d.nodes[j]? = some d.nodes[j]:=List.getElem?_eq_getElem hjl
  have hsz:=hn d.nodes[j] (List.getElem_mem hjl)
  generalize d.nodes[j] = nd at hjn hsz
  have hnd : d.nd node = nd:=by simp [Dk.nd, hj, hjn]
  rw [hnd]
  simp only [Run_bind, Run_bindO_some, intBin_neq, binV_int, decide_true, Bool.not_true, Run_condM_false]
  simp [-ldA_ptr, -Run_drewM]
  refine Run_drw λ w5 f5 => ?_
  have h5:=h4.fr0 f5
  obtain ⟨b0, o, l0, i1, t4, i2, _, q1, _, _⟩:=h5.setNode hjn
  have i1' : idxA 3 v.nv (.int .i64 node) = some (.pointer (some ⟨b0, o, none⟩)):=by rw [hj]; exact i1
  have hb5:=h5.blk
  have hw5:=h5.wr
  have hx5:=f5.bk_some hx id
  have f05:=f04.trans f5 λ _ _ h => h
  by_cases hbig : (nd.seen.size : Int) < at'
  ·simp [-ldA_ptr, hx5, hb5, hw5, Dk.cells, i1', i2, q1, hbig]
   exact same _ f05
  ·have ws : IntKind.i64.wrap ((nd.seen.size : Int) - at') = (nd.seen.size : Int) - at':=wrap_int (by omega) (by omega)
   have t:=(h5.put (i:=2) (x:=.int .i64 (IntKind.i64.wrap (d.reads + 1))) (d':={ d with reads:=IntKind.i64.wrap (d.reads + 1) }) (by simp [Dk.cells]) rfl rfl rfl rfl)
   obtain ⟨mn, hmn⟩ : ∃ mn, mn = min n ((nd.seen.size : Int) - at'):=⟨_, rfl⟩
   have hm1 : minV (.int .i64 n) (.int .i64 ((nd.seen.size : Int) - at')) = some (.int .i64 mn):=by
    show some (Value.int .i64 (if (nd.seen.size : Int) - at' < n then (nd.seen.size : Int) - at' else n)) = _
    congr 2
    rw [hmn]
    split <;> omega
   have wm : IntKind.i64.wrap (at' + mn) = at' + mn:=wrap_int (by omega) (by omega)
   have hsl : sliceS (.string nd.seen) (some (.int .i64 at')) (some (.int .i64 (at' + mn))) = some (.string (nd.seen.extract at'.toNat (at' + mn).toNat)):=by
    have h1 : 0 <= at' + mn /\ at' + mn <= (nd.seen.size : Int):=by omega
    have h2 : 0 <= at' /\ at' <= ((at' + mn).toNat : Int):=by omega
    simp only [sliceS, highV, boundV]
    rw [if_pos h1]
    simp only [lowV, boundV]
    rw [if_pos h2]
   rw [<- hmn]
   simp [-ldA_ptr, hx5, hb5, hw5, Dk.cells, i1', i2, q1, hbig, ws, hm1, wm, hsl]
   have hd' : d.down = false:=by simpa using hd
   rw [hd'] at t
   exact t.did ((f05.mono λ _ h => h.elim).sto (b:=b) (.inl (by rw [h.tb]; decide)) _ _)
 ·simp [-ldA_ptr, he]
  exact same _ f04
structure Vis (d d' : Dk) : Prop where
 seen : d'.seen = d.seen
 nd : ∀ s k, d.seen s = some k -> d'.nd k = d.nd k
 acts : d'.acts = d.acts
 reads : d'.reads = d.reads
 pend : d'.pending = d.pending
theorem Vis.refl (d : Dk) : Vis d d:=⟨rfl, λ _ _ _ => rfl, rfl, rfl, rfl⟩
theorem act_vis (h : d.actF.1 ≠ 0) : Vis d d.actF.2:=by
 unfold Dk.actF at h ⊢
 split
 ·rename_i ha
  rw [if_pos ha] at h
  split
  ·exact ⟨rfl, λ _ _ _ => rfl, rfl, rfl, rfl⟩
  ·rename_i hl
   rw [if_neg hl] at h
   exact absurd rfl h
 ·rename_i ha
  rw [if_neg ha] at h
  exact absurd rfl h
theorem do_vis {c : Chg} {i : Nat} {nd : Nd} (h : (doF d c i nd).1 ≠ 0) : Vis d (doF d c i nd).2:=by
 unfold doF at h ⊢
 split
 ·rename_i ha; exact act_vis ha
 ·rename_i ha
  rw [if_neg ha] at h
  exact absurd rfl h
theorem create_vis (hI : GI A B dep d) (p : ByteArray) (kind : Int) (h : (createF d p kind).1 ≠ 0) : Vis d (createF d p kind).2:=by
 unfold createF at h ⊢
 by_cases h0 : d.down = true
 ·rw [if_pos h0]; exact .refl d
 rw [if_neg h0] at h ⊢
 cases hp : parseF p with
 | none => exact .refl d
 | some names =>
  rw [hp] at h
  simp only at h ⊢
  by_cases h1 : (d.walkF names).1 ≠ 0
  ·rw [if_pos h1]; exact .refl d
  rw [if_neg h1] at h ⊢
  by_cases h2 : 0 <= (d.walkF names).2.2
  ·rw [if_pos h2]; exact .refl d
  rw [if_neg h2] at h ⊢
  have t:=do_vis h
  refine ⟨t.seen, λ s k hs => ?_, t.acts, t.reads, t.pend⟩
  have hr:=hI.pseen.rng s k hs
  rw [t.nd s k hs]
  exact nd_add d kind (by omega) hr.2
theorem append_vis (p data : ByteArray) (U : Nat) (h : (appendF d p data U).1 ≠ 0) : Vis d (appendF d p data U).2:=by
 unfold appendF at h ⊢
 split
 ·exact .refl d
 rename_i h1
 rw [if_neg h1] at h
 split
 ·exact .refl d
 rename_i h2
 rw [if_neg h2] at h
 exact do_vis h
theorem trunc_vis (p : ByteArray) (n : Int) (h : (truncF d p n).1 ≠ 0) : Vis d (truncF d p n).2:=by
 unfold truncF at h ⊢
 repeat' split
 all_goals first
  | exact .refl d
  | (rename_i h1 h2 h3 h4 h5
     rw [if_neg h1, if_neg h2, if_neg h3, if_neg h4, if_neg h5] at h
     exact do_vis h)
theorem remove_vis (p : ByteArray) (h : (removeX d p).1 ≠ 0) : Vis d (removeX d p).2:=by
 unfold removeX at h ⊢
 split
 ·exact .refl d
 rename_i h1
 rw [if_neg h1] at h
 split
 ·exact .refl d
 rename_i h2
 rw [if_neg h2] at h
 split
 ·exact .refl d
 rename_i h3
 rw [if_neg h3] at h
 unfold removeF at h ⊢
 rw [if_neg h2] at h ⊢
 exact do_vis h
theorem renW_vis (s t : Spot) (h : (renW d s t).1 ≠ 0) : Vis d (renW d s t).2:=by
 unfold renW at h ⊢
 split
 ·exact .refl d
 rename_i h1
 rw [if_neg h1] at h
 split
 ·exact .refl d
 rename_i h2
 rw [if_neg h2] at h
 split
 ·exact .refl d
 rename_i h3
 rw [if_neg h3] at h
 exact do_vis h
theorem rename_vis (p q : ByteArray) (h : (renameX d p q).1 ≠ 0) : Vis d (renameX d p q).2:=by
 unfold renameX at h ⊢
 by_cases h0 : d.down = true
 ·rw [if_pos h0]; exact .refl d
 rw [if_neg h0] at h ⊢
 cases hp : parseF p with
 | none => exact .refl d
 | some a =>
  cases hq : parseF q with
  | none => exact .refl d
  | some c =>
   rw [hp, hq] at h
   simp only at h ⊢
   by_cases h1 : p = E0 ∨ q = E0
   ·rw [if_pos h1]; exact .refl d
   rw [if_neg h1] at h ⊢
   by_cases h2 : pathF (a.take (a.length - 1)) ≠ pathF (c.take (c.length - 1)) ∨ a.length ≠ c.length
   ·rw [if_pos h2]; exact .refl d
   rw [if_neg h2] at h ⊢
   exact renW_vis _ _ h
end
def UsedN (d : Dk) (U : Nat) : Prop:=∃ ls : List (Slt × Int), (ls.map (·.1)).Nodup /\ Eqm ls d.seen /\ U = sumF d ls
def ActR (d : Dk) (o : Dop) (e : Int) (d' : Dk) : Prop :=
 if o.kind = 1 then (e, d') = createF d o.p 1 else if o.kind = 2 then (e, d') = createF d o.p 2 else
 if o.kind = 3 then ∃ U, UsedN d U /\ (e, d') = appendF d o.p o.q U else
 if o.kind = 4 then (e, d') = truncF d o.p o.n else if o.kind = 5 then (e, d') = renameX d o.p o.q else (e, d') = removeX d o.p
section
variable {w w' w'' : World} {b : Nat} {d d' : Dk} {v : DV} {tag : Nat -> Nat} {A B : Nat} {dep : Int -> Nat}
theorem GI.small (h : GI A B dep d) (hA : A <= 1099511627776) : ∀ nd ∈ d.nodes, nd.seen.size <= 2305843009213693952:=λ nd hnd => by
 obtain ⟨j, hj⟩:=List.getElem?_of_mem hnd
 have:=(h.node j nd hj).seen
 omega
theorem ActR.gi (hI : GI A B dep d) (hA : A <= 1099511627776) {o : Dop} {e : Int} (hq : o.q.size <= 1048576) (h : ActR d o e d') : (∃ dep', GI (A + o.q.size) (B + 2) dep' d') /\ (e ≠ 0 -> Vis d d'):=by
 unfold ActR at h
 have more : ∀ {A' B' : Nat} {dep' : Int -> Nat} {D : Dk}, GI A' B' dep' D -> A' <= A + o.q.size -> B' <= B + 2 -> ∃ dep', GI (A + o.q.size) (B + 2) dep' D:=λ h h1 h2 => ⟨_, h.more h1 h2⟩
 have hns:=hI.small hA
 split at h
 ·obtain ⟨dep', t⟩:=gi_create hI o.p (kind:=1) (.inl rfl)
  have u:=create_vis hI o.p 1
  rw [<- h] at t u
  exact ⟨more t (by omega) (by omega), u⟩
 split at h
 ·obtain ⟨dep', t⟩:=gi_create hI o.p (kind:=2) (.inr rfl)
  have u:=create_vis hI o.p 2
  rw [<- h] at t u
  exact ⟨more t (by omega) (by omega), u⟩
 split at h
 ·obtain ⟨U, hU, h⟩:=h
  have u:=append_vis (d:=d) o.p o.q U
  rw [<- h] at u
  refine ⟨?_, u⟩
  unfold appendF at h
  split at h
  ·cases h; exact more hI (by omega) (by omega)
  rename_i hf
  split at h
  ·cases h; exact more hI (by omega) (by omega)
  have hf0 : (d.findF o.p 2).1 = 0:=by simpa using hf
  have hlt:=find_lt hI.good o.p 2
  have hsz:=hns _ (List.mem_of_getElem? (nd_at d (find_pos hf0).1 hlt))
  have t:=gi_byte (c:=⟨0, (d.findF o.p 2).2.2, o.q, 0, e0, e0, 0⟩) hI hf0 rfl (.inl rfl) ⟨λ _ => by simp only; omega, λ hc => by simp at hc⟩
  rw [<- h] at t
  exact more t (Nat.le_refl _) (by omega)
 split at h
 ·have u:=trunc_vis (d:=d) o.p o.n
  rw [<- h] at u
  refine ⟨?_, u⟩
  unfold truncF at h
  split at h
  ·cases h; exact more hI (by omega) (by omega)
  split at h
  ·cases h; exact more hI (by omega) (by omega)
  split at h
  ·cases h; exact more hI (by omega) (by omega)
  rename_i hn0
  split at h
  ·cases h; exact more hI (by omega) (by omega)
  rename_i hf
  split at h
  ·cases h; exact more hI (by omega) (by omega)
  rename_i hsz
  have hf0 : (d.findF o.p 2).1 = 0:=by simpa using hf
  have t:=gi_byte (c:=⟨1, (d.findF o.p 2).2.2, e0, o.n, e0, e0, 0⟩) hI hf0 rfl (.inr rfl) ⟨λ hc => by simp at hc, λ _ => by simp only; omega⟩
  rw [<- h] at t
  have e : A + (Chg.mk 1 (d.findF o.p 2).2.2 e0 o.n e0 e0 0).data.size = A:=rfl
  rw [e] at t
  exact more t (by omega) (by omega)
 split at h
 ·have t:=gi_rename hI o.p o.q
  have u:=rename_vis (d:=d) o.p o.q
  rw [<- h] at t u
  exact ⟨more t (by omega) (by omega), u⟩
 ·have t:=gi_remove hI o.p
  have u:=remove_vis (d:=d) o.p
  rw [<- h] at t u
  exact ⟨more t (by omega) (by omega), u⟩
end
end Go.Proofs.YtojnickeblbgoaaGreatDoor
namespace Go.Proofs.YtojnickeblbgoaaGreatDoor
open Go.Lift
set_option linter.unusedSimpArgs false
set_option linter.unusedVariables false
set_option maxHeartbeats 4000000
def visP (r : Rk) : Nat -> Int -> List ByteArray -> List (List ByteArray × Int)
 | 0, _, _ => []
 | n + 1, k, pre => ((r.th k).seen.slots.map λ e => (pre ++ [e.1], e.2) :: if (r.th e.2).kind = 1 then visP r n e.2 (pre ++ [e.1]) else []).flatten
theorem flat_map {α β γ : Type} (f : α -> List β) (g : β -> γ) (l : List α) : (l.map f).flatten.map g = (l.map λ e => (f e).map g).flatten:=by rw [List.map_flatten, List.map_map]; rfl
theorem flat_sum {α : Type} (f : α -> List Nat) : ∀ l : List α, (l.map f).flatten.sum = (l.map λ e => (f e).sum).sum
 | [] => rfl
 | x :: l => by simp only [List.map_cons, List.flatten_cons, List.sum_append, List.sum_cons, flat_sum f l]
theorem wsum_vis (r : Rk) : ∀ (n : Nat) (k : Int) (pre : List ByteArray), wsum r n k = ((visP r n k pre).map λ v => (r.th v.2).seen.data.size).sum
 | 0, _, _ => rfl
 | n + 1, k, pre => by
  unfold wsum visP
  rw [flat_map, flat_sum]
  congr 1
  refine List.map_congr_left λ e _ => ?_
  rw [List.map_cons, List.sum_cons]
  congr 1
  split
  ·exact wsum_vis r n e.2 _
  ·rfl
def headF (pre : List ByteArray) : ByteArray:=if pre = [] then E0 else pathF pre ++ slash
theorem path_snoc (pre : List ByteArray) (x : ByteArray) : pathF (pre ++ [x]) = headF pre ++ x:=by
 unfold headF
 apply ba_ext
 cases pre with
 | nil => simp [pathF, joinL, E0]
 | cons y l =>
  rw [if_neg (by simp)]
  simp only [pathF, joinL, List.cons_append, List.map_append, List.map_cons, List.map_nil, List.flatten_append, List.flatten_cons, List.flatten_nil, List.append_nil, ByteArray.data_append, Array.toList_append, List.append_assoc]
theorem undL_vis (r : Rk) : ∀ (n : Nat) (k : Int) (pre : List ByteArray), undL r n k (headF pre) = (visP r n k pre).map λ v => (pathF v.1, (r.th v.2).kind, (r.th v.2).seen.data)
 | 0, _, _ => rfl
 | n + 1, k, pre => by
  unfold undL visP
  rw [flat_map]
  congr 1
  refine List.map_congr_left λ e _ => ?_
  rw [List.map_cons, <- path_snoc]
  congr 1
  split
  ·have : pathF (pre ++ [e.1]) ++ slash = headF (pre ++ [e.1]):=by
    unfold headF
    rw [if_neg (by simp)]
   rw [this]
   exact undL_vis r n e.2 _
  ·rfl
theorem vis_seg {r : Rk} : ∀ (n : Nat) (k : Int) (pre : List ByteArray) (v : List ByteArray × Int), v ∈ visP r n k pre -> ∃ e ∈ (r.th k).seen.slots, ∃ rest, v.1 = pre ++ e.1 :: rest
 | 0, _, _, _, h => by cases h
 | n + 1, k, pre, v, h => by
  unfold visP at h
  obtain ⟨l, hl, hv⟩:=List.mem_flatten.1 h
  obtain ⟨e, he, rfl⟩:=List.mem_map.1 hl
  rcases List.mem_cons.1 hv with rfl | hv
  ·exact ⟨e, he, [], by simp⟩
  ·split at hv
   ·obtain ⟨e', _, rest, hr⟩:=vis_seg n e.2 _ v hv
    exact ⟨e, he, e'.1 :: rest, by rw [hr]; simp⟩
   ·cases hv
theorem vis_step {r : Rk} : ∀ (n : Nat) (k : Int) (pre N : List ByteArray) (j : Int), (N, j) ∈ visP r n k pre -> (r.th j).kind = 1 -> ∀ v ∈ visP r (n - (N.length - pre.length)) j N, v ∈ visP r n k pre
 | 0, _, _, _, _, h, _, _, _ => by cases h
 | n + 1, k, pre, N, j, h, hk, v, hv => by
  unfold visP at h ⊢
  obtain ⟨l, hl, hN⟩:=List.mem_flatten.1 h
  obtain ⟨e, he, rfl⟩:=List.mem_map.1 hl
  refine List.mem_flatten.2 ⟨_, List.mem_map.2 ⟨e, he, rfl⟩, List.mem_cons_of_mem _ ?_⟩
  rcases List.mem_cons.1 hN with h1 | h1
  ·have e1 : N = pre ++ [e.1]:=congrArg Prod.fst h1
   have e2 : j = e.2:=congrArg Prod.snd h1
   subst e1 e2
   rw [if_pos hk]
   have : n + 1 - ((pre ++ [e.1]).length - pre.length) = n:=by simp
   rw [this] at hv
   exact hv
  ·by_cases hke : (r.th e.2).kind = 1
   ·rw [if_pos hke] at h1 ⊢
    obtain ⟨e', _, rest, hr⟩:=vis_seg n e.2 _ _ h1
    have hr : N = pre ++ [e.1] ++ e'.1 :: rest:=hr
    have : n + 1 - (N.length - pre.length) = n - (N.length - (pre ++ [e.1]).length):=by
     rw [hr]; simp; omega
    rw [this] at hv
    exact vis_step n e.2 _ N j h1 hk v hv
   ·rw [if_neg hke] at h1; cases h1
theorem find_mem {l : RSl} {x : ByteArray} (h : 0 <= findL l x) : (x, findL l x) ∈ l:=by
 induction l with
 | nil => simp [findL] at h
 | cons e l ih =>
  unfold findL at h ⊢
  by_cases he : e.1 = x
  ·rw [if_pos he, <- he]; simp
  ·rw [if_neg he] at h ⊢
   exact List.mem_cons_of_mem _ (ih h)
section
variable {A B : Nat} {dep : Int -> Nat} {D : Int -> Prop} {d d' : Dk} {r r' : Rk}
theorem vis_nodup (S : Sim D d r) (hI : GI A B dep d) : ∀ (n : Nat) (k : Int) (pre : List ByteArray), 0 <= k -> k < d.nodes.length -> ¬ D k -> (visP r n k pre).Pairwise λ a b => a.1 ≠ b.1
 | 0, _, _, _, _, _ => List.Pairwise.nil
 | n + 1, k, pre, k0, k1, hD => by
  have L:=(S.live k k0 k1 hD).1
  unfold visP
  refine List.pairwise_flatten.2 ⟨λ l hl => ?_, ?_⟩
  ·obtain ⟨e, he, rfl⟩:=List.mem_map.1 hl
   have hs:=side_mem L he
   have hr:=hI.pseen.rng _ _ hs
   refine List.pairwise_cons.2 ⟨λ v hv => ?_, ?_⟩
   ·split at hv
    ·obtain ⟨e', _, rest, h⟩:=vis_seg n e.2 _ v hv
     rw [h]
     intro h2
     have:=congrArg List.length h2
     simp at this
    ·cases hv
   ·split
    ·exact vis_nodup S hI n e.2 _ (by omega) hr.2 (S.seenL _ _ hs).2
    ·exact List.Pairwise.nil
  ·refine List.pairwise_map.2 ((List.pairwise_map.1 (side_names L)).imp λ {a b} hne x hx y hy he => hne ?_)
   have seg : ∀ (e : ByteArray × Int) (v : List ByteArray × Int), (v ∈ (pre ++ [e.1], e.2) :: if (r.th e.2).kind = 1 then visP r n e.2 (pre ++ [e.1]) else []) -> ∃ rest, v.1 = pre ++ e.1 :: rest:=λ e v hv => by
    rcases List.mem_cons.1 hv with rfl | hv
    ·exact ⟨[], rfl⟩
    ·split at hv
     ·obtain ⟨e', _, rest, h⟩:=vis_seg n e.2 _ v hv
      exact ⟨e'.1 :: rest, by rw [h]; simp⟩
     ·cases hv
   obtain ⟨r1, h1⟩:=seg a x hx
   obtain ⟨r2, h2⟩:=seg b y hy
   rw [h1, h2] at he
   have:=List.append_cancel_left he
   exact (List.cons.inj this).1
theorem vis_rt (S : Sim D d r) (hI : GI A B dep d) : ∀ (n : Nat) (k : Int) (pre : List ByteArray), 0 <= k -> k < d.nodes.length -> ¬ D k -> Rt d.seen k pre -> ∀ v ∈ visP r n k pre, Rt d.seen v.2 v.1 /\ ∃ s, d.seen s = some v.2
 | 0, _, _, _, _, _, _, _, h => by cases h
 | n + 1, k, pre, k0, k1, hD, hr, v, h => by
  unfold visP at h
  obtain ⟨l, hl, hv⟩:=List.mem_flatten.1 h
  obtain ⟨e, he, rfl⟩:=List.mem_map.1 hl
  have hs:=side_mem (S.live k k0 k1 hD).1 he
  have hg:=hI.pseen.rng _ _ hs
  rcases List.mem_cons.1 hv with rfl | hv
  ·exact ⟨.step hr hs, _, hs⟩
  ·split at hv
   ·exact vis_rt S hI n e.2 _ (by omega) hg.2 (S.seenL _ _ hs).2 (.step hr hs) v hv
   ·cases hv
theorem vis_slot (S : Sim D d r) (hI : GI A B dep d) {n : Nat} {s : Slt} {k : Int} {pre : List ByteArray} (hs : d.seen s = some k) : (pre ++ [s.2], k) ∈ visP r (n + 1) s.1 pre:=by
 have hd:=hI.pseen.dir _ _ hs
 have L:=(S.live s.1 hd.1 hd.2.1 (S.seenL _ _ hs).1).1
 have hf:=L.find s.2
 rw [show d.seen (s.1, s.2) = some k from hs] at hf
 have hk:=hI.pseen.rng _ _ hs
 have hf : findL (r.th s.1).seen.slots s.2 = k:=hf
 have hm:=find_mem (l:=(r.th s.1).seen.slots) (x:=s.2) (by rw [hf]; omega)
 rw [hf] at hm
 unfold visP
 exact List.mem_flatten.2 ⟨_, List.mem_map.2 ⟨_, hm, rfl⟩, List.mem_cons_self⟩
theorem vis_all (S : Sim D d r) (hI : GI A B dep d) : ∀ (n : Nat) (s : Slt) (k : Int), dep k <= n -> d.seen s = some k -> ∃ N, (N, k) ∈ visP r 9 0 [] /\ Rt d.seen k N
 | 0, s, k, hn, hs => by have:=(hI.pseen.dpt s k hs).1; omega
 | n + 1, s, k, hn, hs => by
  have hd:=hI.pseen.dpt s k hs
  rcases hI.up s k hs with h0 | ⟨t, ht⟩
  ·have:=vis_slot S hI (n:=8) (pre:=[]) hs
   rw [h0] at this
   refine ⟨_, this, ?_⟩
   have hr : Rt d.seen k ([] ++ [s.2]):=.step .root (by rw [<- h0]; exact hs)
   exact hr
  ·obtain ⟨N, h1, h2⟩:=vis_all S hI n t s.1 (by omega) ht
   have hl:=rt_dep hI.pseen hI.dep0 h2
   have hkd : (r.th s.1).kind = 1:=by
    rw [S.kind]; exact (hI.pseen.dir _ _ hs).2.2
   refine ⟨N ++ [s.2], vis_step 9 0 [] N s.1 h1 hkd _ ?_, .step h2 hs⟩
   obtain ⟨q, hq⟩ : ∃ q, 9 - (N.length - ([] : List ByteArray).length) = q + 1:=⟨8 - N.length, by simp; omega⟩
   rw [hq]
   exact vis_slot S hI hs
theorem vis_keys (S : Sim D d r) (hI : GI A B dep d) : ((visP r 9 0 []).map (·.2)).Nodup /\ ∀ k, k ∈ (visP r 9 0 []).map (·.2) ↔ ∃ s, d.seen s = some k:=by
 have hp:=hI.pos
 have hrt:=vis_rt S hI 9 0 [] (Int.le_refl _) (by omega) S.root .root
 refine ⟨?_, λ k => ⟨λ h => ?_, λ ⟨s, hs⟩ => ?_⟩⟩
 ·refine List.pairwise_map.2 ((vis_nodup S hI 9 0 [] (Int.le_refl _) (by omega) S.root).imp_of_mem λ {a b} ha hb hne he => hne ?_)
  have h1:=(hrt a ha).1
  rw [he] at h1
  exact rt_uniq hI.pseen h1 (hrt b hb).1
 ·obtain ⟨v, hv, rfl⟩:=List.mem_map.1 h
  exact (hrt v hv).2
 ·obtain ⟨N, hN, _⟩:=vis_all S hI (dep k) s k (Nat.le_refl _) hs
  exact List.mem_map.2 ⟨_, hN, rfl⟩
theorem sim_data (S : Sim D d r) (hI : GI A B dep d) {s : Slt} {k : Int} (hs : d.seen s = some k) : (r.th k).seen.data = (d.nd k).seen:=by
 have hr:=hI.pseen.rng _ _ hs
 exact (S.live k (by omega) hr.2 (S.seenL _ _ hs).2).1.data (by omega)
theorem keys_perm (hI : GI A B dep d) {ls : List (Slt × Int)} (hn : (ls.map (·.1)).Nodup) (hE : Eqm ls d.seen) {ks : List Int} (h1 : ks.Nodup) (h2 : ∀ k, k ∈ ks ↔ ∃ s, d.seen s = some k) : ks.Perm (ls.map (·.2)):=by
 have get : ∀ p ∈ ls, d.seen p.1 = some p.2:=λ p hp => by rw [<- hE p.1]; exact getK_of_mem hn hp
 refine nodup_perm h1 ?_ λ k => ?_
 ·refine List.pairwise_map.2 ((List.pairwise_map.1 hn).imp_of_mem λ {a b} ha hb h he => h ?_)
  have q1:=get a ha
  rw [he] at q1
  exact hI.pseen.inj _ _ _ q1 (get b hb)
 ·rw [h2]
  constructor
  ·rintro ⟨s, hs⟩
   rw [<- hE s] at hs
   exact List.mem_map.2 ⟨_, getK_mem hs, rfl⟩
  ·intro h
   obtain ⟨p, hp, rfl⟩:=List.mem_map.1 h
   exact ⟨_, get p hp⟩
theorem sim_used (S : Sim D d r) (hI : GI A B dep d) {ls : List (Slt × Int)} (hn : (ls.map (·.1)).Nodup) (hE : Eqm ls d.seen) : wsum r 9 0 = sumF d ls:=by
 obtain ⟨h1, h2⟩:=vis_keys S hI
 have hp:=keys_perm hI hn hE h1 h2
 rw [wsum_vis r 9 0 []]
 unfold sumF
 have e1 : ((visP r 9 0 []).map λ v => (r.th v.2).seen.data.size) = ((visP r 9 0 []).map (·.2)).map λ k => (d.nd k).seen.size:=by
  rw [List.map_map]
  refine List.map_congr_left λ v hv => ?_
  obtain ⟨s, hs⟩:=(h2 v.2).1 (List.mem_map.2 ⟨v, hv, rfl⟩)
  rw [sim_data S hI hs]; rfl
 rw [e1, sum_perm (hp.map _), List.map_map]
 rfl
def toStd (x : StD) : Std:=⟨x.1, x.2.1, x.2.2⟩
theorem lt_cmp : ∀ a b : List UInt8, Op.bytesLess a b = true -> Lib.compareBytes a b < 0
 | [], [], h => by simp [Op.bytesLess] at h
 | [], _ :: _, _ => by simp [Lib.compareBytes]
 | _ :: _, [], h => by simp [Op.bytesLess] at h
 | x :: a, y :: b, h => by
  simp only [Op.bytesLess, Bool.or_eq_true, decide_eq_true_eq, Bool.and_eq_true, beq_iff_eq] at h
  unfold Lib.compareBytes
  rcases h with h | ⟨rfl, h⟩
  ·rw [if_pos h]; decide
  ·rw [if_neg (by simp), if_neg (by simp)]
   exact lt_cmp a b h
theorem sim_dump (S : Sim D d r) (hI : GI A B dep d) {l : List StD} (hp : l.Perm (undL r 9 0 E0)) (hs : l.Pairwise leS) : DumpOk d (l.map toStd):=by
 obtain ⟨h1, h2⟩:=vis_keys S hI
 have hpos:=hI.pos
 have hrt:=vis_rt S hI 9 0 [] (Int.le_refl _) (by omega) S.root .root
 have eU : undL r 9 0 E0 = (visP r 9 0 []).map λ v => (pathF v.1, (r.th v.2).kind, (r.th v.2).seen.data):=undL_vis r 9 0 []
 refine ⟨⟨_, h1, h2, ?_⟩, ?_⟩
 ·refine (hp.map toStd).trans ?_
  rw [eU, List.map_map, List.map_map]
  refine List.Perm.of_eq (List.map_congr_left λ v hv => ?_)
  obtain ⟨q1, s, q2⟩:=hrt v hv
  show Std.mk (pathF v.1) (r.th v.2).kind (r.th v.2).seen.data = stdOf d v.2
  unfold stdOf
  rw [nm_eq hI.pseen q1, <- S.kind, sim_data S hI q2]
 ·have hne : l.Pairwise λ a b => a.1 ≠ b.1:=by
   have hu : ((undL r 9 0 E0).map (·.1)).Nodup:=by
    rw [eU, List.map_map]
    refine List.pairwise_map.2 ((vis_nodup S hI 9 0 [] (Int.le_refl _) (by omega) S.root).imp_of_mem λ {a b} ha hb hne he => hne ?_)
    exact path_inj (rt_names hI.pseen (hrt a ha).1) (rt_names hI.pseen (hrt b hb).1) he
   exact List.pairwise_map.1 ((hp.map (Prod.fst : StD -> ByteArray)).nodup_iff.2 hu)
  refine List.pairwise_map.2 ((hs.and hne).imp λ {a b} h => ?_)
  have:=ltB_tot (show ltB b.1 a.1 = false from h.1) λ he => h.2 he.symm
  have t : Lib.compareBytes a.1.toList b.1.toList < 0:=lt_cmp _ _ this
  rw [ba_list, ba_list] at t
  exact t
theorem sim_reads (S : Sim D d r) : Sim D { d with reads:=IntKind.i64.wrap (d.reads + 1) } { r with reads:=IntKind.i64.wrap (r.reads + 1) } :=
 ⟨S.cap, S.acts, by simp only [S.reads], S.down, S.left, S.lpos, S.len, S.kind, S.live, S.root, S.seenL, S.keptL, S.pendL, S.line, S.bnd, S.dead, S.r0⟩
theorem sim_read (S : Sim D d r) (hI : GI A B dep d) (p : ByteArray) (a n : Int) : (rreadF r p a n).1 = (readX d p a n).1 /\ Sim D (readX d p a n).2 (rreadF r p a n).2:=by
 obtain ⟨q1, q2⟩:=sim_find S hI p 2
 cases hd : d.down with
 | true =>
  have e : rnamesF r p true = (10, []):=by simp [rnamesF, S.down, hd]
  simpa [rreadF, readX, hd, e] using S
 | false =>
  cases hp : parseF p with
  | none =>
   have e : rnamesF r p true = (11, []):=by simp [rnamesF, S.down, hd, hp]
   simpa [rreadF, readX, hd, hp, e] using S
  | some l =>
   have e : rnamesF r p true = (0, l):=by simp [rnamesF, S.down, hd, hp]
   unfold rreadF readX
   rw [e, if_neg (show ¬ ((0, l) : Int × List ByteArray).1 ≠ 0 by simp), if_neg (show ¬ d.down = true by simp [hd]), if_neg (show ¬ (parseF p).isSome = false by simp [hp]), q1]
   by_cases hz : a < 0 ∨ n < 0
   ·rw [if_pos hz, if_pos hz]; exact ⟨rfl, S⟩
   rw [if_neg hz, if_neg hz]
   by_cases h0 : (d.findF p 2).1 = 0
   ·have hnz : ¬ (d.findF p 2).1 ≠ 0:=λ h => h h0
    obtain ⟨k0, k1, kD⟩:=find_lives S hI h0
    have ef : (flat (d.findF p 2)).2.2 = (d.findF p 2).2.2:=rfl
    rw [if_neg hnz, if_neg hnz, q2 h0, ef, (S.live _ k0 k1 kD).1.data (find_two hI h0)]
    by_cases hg : ((d.nd (d.findF p 2).2.2).seen.size : Int) < a
    ·rw [if_pos hg, if_pos hg]; exact ⟨rfl, S⟩
    ·rw [if_neg hg, if_neg hg]; exact ⟨rfl, sim_reads S⟩
   ·rw [if_pos h0, if_pos h0]; exact ⟨rfl, S⟩
end
inductive DObj
 | own (d : Dk)
 | ref (r : Rk)
def MA (w : World) (b : Nat) (x : DObj) (t : Nat -> Nat) : Prop:=match x with
 | .own d => ∃ v, DA w b d v t
 | .ref r => ∃ v, RA w b r v t
def MDid (w w' : World) (b : Nat) (t : Nat -> Nat) (x : DObj) : Prop:=Fr (λ c => t c ≠ 0) w w' /\ ∃ t', MA w' b x t' /\ ∀ c, t' c ≠ 0 -> t c ≠ 0 ∨ w.heap.size <= c
section
variable {w w' w0 : World} {b : Nat} {t : Nat -> Nat} {x : DObj}
theorem MA.fr {F : Nat -> Prop} (h : MA w b x t) (f : Fr F w w') (hF : ∀ c, F c -> t c = 0 /\ c ≠ 0) : MA w' b x t:=by
 cases x with
 | own d => obtain ⟨v, h⟩:=h; exact ⟨v, h.fr f hF⟩
 | ref r => obtain ⟨v, h⟩:=h; exact ⟨v, h.fr f λ c hc => (hF c hc).1⟩
theorem MA.t0 (h : MA w b x t) : t 0 = 0:=by
 cases x with
 | own d => obtain ⟨v, h⟩:=h; exact h.t0
 | ref r => obtain ⟨v, h⟩:=h; exact h.t0
theorem MA.bound (h : MA w b x t) : ∀ c, t c ≠ 0 -> c < w.heap.size:=by
 cases x with
 | own d => obtain ⟨v, h⟩:=h; exact h.bound
 | ref r => obtain ⟨v, h⟩:=h; exact h.bound
theorem DDid.m {d : Dk} (h : DDid w w' b t d) : MDid w w' b t (.own d):=by
 obtain ⟨f, v, t', h1, h2⟩:=h
 exact ⟨f, t', ⟨v, h1⟩, h2⟩
theorem RDid.m {r : Rk} (h : RDid w w' b t r) : MDid w w' b t (.ref r):=by
 obtain ⟨f, v, t', h1, h2⟩:=h
 exact ⟨f, t', ⟨v, h1⟩, h2⟩
abbrev Objs:=Nat -> Option (Nat × DObj)
def updO (P : Objs) (j : Nat) (x : Option (Nat × DObj)) : Objs:=λ i => if i = j then x else P i
structure BM (w0 w : World) (P : Objs) (kp : List (Nat × List Value)) : Prop where
 ex : ∃ T : Nat -> Nat -> Nat, (∀ j b x, P j = some (b, x) -> MA w b x (T j)) /\ (∀ j c, T j c ≠ 0 -> w0.heap.size <= c /\ c < w.heap.size) /\ (∀ i j c, T i c ≠ 0 -> T j c ≠ 0 -> i = j) /\ ∀ e ∈ kp, bk w e.1 = some e.2 /\ wr w e.1 = true /\ ∀ j, T j e.1 = 0
 keys : (kp.map (·.1)).Nodup
 pos : 0 < w0.heap.size
 fr : Fr (λ _ => False) w0 w
variable {P : Objs} {kp : List (Nat × List Value)}
theorem BM.fr0 (B : BM w0 w P kp) (f : Fr (λ _ => False) w w') : BM w0 w' P kp:=by
 obtain ⟨T, h1, h2, h3, h4⟩:=B.ex
 have s:=f.size
 exact ⟨⟨T, λ j b x h => (h1 j b x h).fr f λ _ h => h.elim, λ j c h => by have:=h2 j c h; omega, h3, λ e he => ⟨f.bk_some (h4 e he).1 id, by rw [f.wr (bk_lt (h4 e he).1) id]; exact (h4 e he).2.1, (h4 e he).2.2⟩⟩, B.keys, B.pos, B.fr.trans f λ _ _ => id⟩
theorem BM.blk (B : BM w0 w P kp) {c : Nat} {l : List Value} (h : (c, l) ∈ kp) : bk w c = some l:=by
 obtain ⟨T, h1, h2, h3, h4⟩:=B.ex
 exact (h4 _ h).1
theorem BM.wr (B : BM w0 w P kp) {c : Nat} {l : List Value} (h : (c, l) ∈ kp) : Go.Lift.wr w c = true:=by
 obtain ⟨T, h1, h2, h3, h4⟩:=B.ex
 exact (h4 _ h).2.1
theorem BM.new (B : BM w0 w P kp) (f : Fr (λ _ => False) w w') {c : Nat} {l : List Value} (hc : bk w' c = some l) (hw : Go.Lift.wr w' c = true) (hle : w.heap.size <= c) : BM w0 w' P ((c, l) :: kp):=by
 have hk:=B.keys
 obtain ⟨T, h1, h2, h3, h4⟩:=B.ex
 obtain ⟨T', g1, g2, g3, g4⟩:=(B.fr0 f).ex
 have B':=B.fr0 f
 refine ⟨⟨T, λ j b x h => (h1 j b x h).fr f λ _ h => h.elim, λ j c h => by have:=h2 j c h; have:=f.size; omega, h3, λ e he => ?_⟩, ?_, B.pos, B'.fr⟩
 ·rcases List.mem_cons.1 he with rfl | he
  ·exact ⟨hc, hw, λ j => Classical.byContradiction λ hn => by have:=h2 j c hn; omega⟩
  ·exact ⟨f.bk_some (h4 e he).1 id, by rw [f.wr (bk_lt (h4 e he).1) id]; exact (h4 e he).2.1, (h4 e he).2.2⟩
 ·rw [List.map_cons]
  refine List.nodup_cons.2 ⟨λ hm => ?_, hk⟩
  obtain ⟨e, he, hec⟩:=List.mem_map.1 hm
  have:=bk_lt (h4 e he).1
  omega
theorem BM.less (B : BM w0 w P kp) {kp' : List (Nat × List Value)} (h : kp'.Sublist kp) : BM w0 w P kp':=by
 obtain ⟨T, h1, h2, h3, h4⟩:=B.ex
 exact ⟨⟨T, h1, h2, h3, λ e he => h4 e (h.subset he)⟩, B.keys.sublist (h.map _), B.pos, B.fr⟩
theorem BM.set (B : BM w0 w P kp) {c : Nat} {l : List Value} {kp' : List (Nat × List Value)} (h : kp = (c, l) :: kp') (hle : w0.heap.size <= c) (i : Nat) (vs : List Value) : BM w0 (sto w c i vs) P ((c, setL l i vs) :: kp'):=by
 subst h
 have hk:=B.keys
 rw [List.map_cons] at hk
 obtain ⟨k1, k2⟩:=List.nodup_cons.1 hk
 obtain ⟨T, h1, h2, h3, h4⟩:=B.ex
 have hc:=h4 (c, l) (by simp)
 have f : Fr (λ k => k = c) w (sto w c i vs):=(Fr.refl (λ k => k = c) w).sto (.inl rfl) _ _
 refine ⟨⟨T, λ j b x h => (h1 j b x h).fr f λ k hk => by rw [hk]; exact ⟨hc.2.2 j, by have:=B.pos; omega⟩, λ j k h => by rw [size_sto]; exact h2 j k h, h3, λ e he => ?_⟩, hk, B.pos, B.fr.new f λ k hk => by rw [hk]; exact hle⟩
 rcases List.mem_cons.1 he with rfl | he
 ·exact ⟨by rw [bk_sto_eq, hc.1]; rfl, by rw [wr_sto]; exact hc.2.1, hc.2.2⟩
 ·have hne : e.1 ≠ c:=λ h => k1 (by rw [<- h]; exact List.mem_map.2 ⟨e, he, rfl⟩)
  have:=h4 e (List.mem_cons_of_mem _ he)
  exact ⟨by rw [bk_sto_ne hne]; exact this.1, by rw [wr_sto]; exact this.2.1, this.2.2⟩
theorem BM.call (B : BM w0 w P kp) {j : Nat} (hj : P j = some (b, x)) {m : M Value} {R : Value -> DObj -> Prop} (hm : ∀ t, MA w b x t -> Run m w λ y w' => ∃ x', R y x' /\ MDid w w' b t x') :
  Run m w λ y w' => ∃ x', R y x' /\ BM w0 w' (updO P j (some (b, x'))) kp:=by
 obtain ⟨T, h1, h2, h3, h4⟩:=B.ex
 refine (hm (T j) (h1 j b x hj)).mono ?_
 rintro y w' ⟨x', hr, f, t', h', ht⟩
 have s:=f.size
 have s0:=B.fr.size
 refine ⟨x', hr, ⟨λ i => if i = j then t' else T i, λ i b2 x2 h => ?_, λ i c h => ?_, λ i k c hi hk => ?_, λ e he => ?_⟩, B.keys, B.pos, B.fr.new f λ c hc => (h2 j c hc).1⟩
 ·unfold updO at h
  by_cases hi : i = j
  ·rw [if_pos hi] at h
   cases h
   simp only [hi, if_true]; exact h'
  ·rw [if_neg hi] at h
   simp only [if_neg hi]
   exact (h1 i b2 x2 h).fr f λ c hc => ⟨Classical.byContradiction λ hn => hi (h3 i j c hn hc), λ h0 => hc (by rw [h0]; exact (h1 j b x hj).t0)⟩
 ·by_cases hi : i = j
  ·simp only [if_pos hi] at h
   exact ⟨(ht c h).elim (λ h => (h2 j c h).1) λ h => by omega, h'.bound c h⟩
  ·simp only [if_neg hi] at h
   have:=h2 i c h
   omega
 ·by_cases hi' : i = j <;> by_cases hk' : k = j
  ·rw [hi', hk']
  ·simp only [if_pos hi'] at hi
   simp only [if_neg hk'] at hk
   rcases ht c hi with h | h
   ·rw [hi']; exact h3 j k c h hk
   ·have:=h2 k c hk; omega
  ·simp only [if_neg hi'] at hi
   simp only [if_pos hk'] at hk
   rcases ht c hk with h | h
   ·rw [hk']; exact h3 i j c hi h
   ·have:=h2 i c hi; omega
  ·simp only [if_neg hi'] at hi
   simp only [if_neg hk'] at hk
   exact h3 i k c hi hk
 ·have h5:=h4 e he
  have hn : ¬ T j e.1 ≠ 0:=λ h => h (h5.2.2 j)
  refine ⟨f.bk_some h5.1 hn, by rw [f.wr (bk_lt h5.1) hn]; exact h5.2.1, λ i => ?_⟩
  by_cases hi : i = j
  ·simp only [if_pos hi]
   exact Classical.byContradiction λ h => (ht e.1 h).elim hn λ h => by have:=bk_lt h5.1; omega
  ·simp only [if_neg hi]; exact h5.2.2 i
theorem BM.made (B : BM w0 w P kp) (j : Nat) {t' : Nat -> Nat} (f : Fr (λ _ => False) w w') (h : MA w' b x t') (ht : ∀ c, t' c ≠ 0 -> w.heap.size <= c) : BM w0 w' (updO P j (some (b, x))) kp:=by
 have B':=B.fr0 f
 obtain ⟨T, h1, h2, h3, h4⟩:=B.ex
 have s:=f.size
 have s0:=B.fr.size
 refine ⟨⟨λ i => if i = j then t' else T i, λ i b2 x2 h' => ?_, λ i c h' => ?_, λ i k c hi hk => ?_, λ e he => ?_⟩, B.keys, B.pos, B'.fr⟩
 ·unfold updO at h'
  by_cases hi : i = j
  ·rw [if_pos hi] at h'
   cases h'
   simp only [hi, if_true]; exact h
  ·rw [if_neg hi] at h'
   simp only [if_neg hi]
   exact (h1 i b2 x2 h').fr f λ _ h => h.elim
 ·by_cases hi : i = j
  ·simp only [if_pos hi] at h'
   exact ⟨by have:=ht c h'; omega, h.bound c h'⟩
  ·simp only [if_neg hi] at h'
   have:=h2 i c h'
   omega
 ·by_cases hi' : i = j <;> by_cases hk' : k = j
  ·rw [hi', hk']
  ·simp only [if_pos hi'] at hi
   simp only [if_neg hk'] at hk
   have:=ht c hi; have:=h2 k c hk; omega
  ·simp only [if_neg hi'] at hi
   simp only [if_pos hk'] at hk
   have:=ht c hk; have:=h2 i c hi; omega
  ·simp only [if_neg hi'] at hi
   simp only [if_neg hk'] at hk
   exact h3 i k c hi hk
 ·have h5:=h4 e he
  refine ⟨f.bk_some h5.1 id, by rw [f.wr (bk_lt h5.1) id]; exact h5.2.1, λ i => ?_⟩
  by_cases hi : i = j
  ·simp only [if_pos hi]
   exact Classical.byContradiction λ h => by have:=ht e.1 h; have:=bk_lt h5.1; omega
  ·simp only [if_neg hi]; exact h5.2.2 i
theorem BM.gone (B : BM w0 w P kp) (j : Nat) : BM w0 w (updO P j none) kp:=by
 obtain ⟨T, h1, h2, h3, h4⟩:=B.ex
 refine ⟨⟨λ i => if i = j then λ _ => 0 else T i, λ i b2 x2 h => ?_, λ i c h => ?_, λ i k c hi hk => ?_, λ e he => ⟨(h4 e he).1, (h4 e he).2.1, λ i => ?_⟩⟩, B.keys, B.pos, B.fr⟩
 ·unfold updO at h
  by_cases hi : i = j
  ·rw [if_pos hi] at h; cases h
  ·rw [if_neg hi] at h
   simp only [if_neg hi]; exact h1 i b2 x2 h
 ·by_cases hi : i = j
  ·simp only [if_pos hi] at h; exact absurd rfl h
  ·simp only [if_neg hi] at h; exact h2 i c h
 ·by_cases hi' : i = j
  ·simp only [if_pos hi'] at hi; exact absurd rfl hi
  ·by_cases hk' : k = j
   ·simp only [if_pos hk'] at hk; exact absurd rfl hk
   ·simp only [if_neg hi'] at hi
    simp only [if_neg hk'] at hk
    exact h3 i k c hi hk
 ·by_cases hi : i = j
  ·simp only [if_pos hi]
  ·simp only [if_neg hi]; exact (h4 e he).2.2 i
structure PS where
 b1 : Nat
 d : Dk
 b2 : Nat
 r : Rk
abbrev Pls:=Nat -> Option PS
def objs (s : Pls) : Objs:=λ j => (s (j / 2)).map λ p => if j % 2 = 0 then (p.b1, .own p.d) else (p.b2, .ref p.r)
def updS (s : Pls) (i : Nat) (p : Option PS) : Pls:=λ j => if j = i then p else s j
def pv1 (p : Option PS) : Value:=match p with
 | none => .pointer none
 | some p => Ptr p.b1
def pv2 (p : Option PS) : Value:=match p with
 | none => .pointer none
 | some p => Ptr p.b2
def benchC (s : Pls) : List Value:=[pv1 (s 0), pv1 (s 1), pv2 (s 0), pv2 (s 1)]
structure BN (w0 w : World) (bb : Nat) (s : Pls) (kp : List (Nat × List Value)) : Prop where
 bm : BM w0 w (objs s) ((bb, benchC s) :: kp)
 le : w0.heap.size <= bb
variable {s : Pls} {bb i : Nat} {p : PS}
@[simp] theorem updS_same (s : Pls) (i : Nat) (p : Option PS) : updS s i p i = p:=by simp [updS]
@[simp] theorem updS_twice (s : Pls) (i : Nat) (p q : Option PS) : updS (updS s i p) i q = updS s i q:=by
 funext j; unfold updS; split <;> rfl
theorem objs_own (h : s i = some p) : objs s (2 * i) = some (p.b1, .own p.d):=by
 unfold objs
 rw [show 2 * i / 2 = i by omega, h]
 simp
theorem objs_ref (h : s i = some p) : objs s (2 * i + 1) = some (p.b2, .ref p.r):=by
 unfold objs
 rw [show (2 * i + 1) / 2 = i by omega, h]
 simp only [Option.map_some]
 rw [if_neg (by omega)]
theorem upd_own (h : s i = some p) (d' : Dk) : updO (objs s) (2 * i) (some (p.b1, .own d')) = objs (updS s i (some { p with d:=d' })):=by
 funext j
 unfold updO objs updS
 by_cases hj : j = 2 * i
 ·rw [if_pos hj, hj, if_pos (by omega)]
  simp
 ·rw [if_neg hj]
  by_cases hi : j / 2 = i
  ·rw [if_pos hi, hi, h]
   simp only [Option.map_some]
   rw [if_neg (by omega), if_neg (by omega)]
  ·rw [if_neg hi]
theorem upd_ref (h : s i = some p) (r' : Rk) : updO (objs s) (2 * i + 1) (some (p.b2, .ref r')) = objs (updS s i (some { p with r:=r' })):=by
 funext j
 unfold updO objs updS
 by_cases hj : j = 2 * i + 1
 ·rw [if_pos hj, hj, if_pos (by omega)]
  simp only [Option.map_some]
  rw [if_neg (by omega)]
 ·rw [if_neg hj]
  by_cases hi : j / 2 = i
  ·rw [if_pos hi, hi, h]
   simp only [Option.map_some]
   rw [if_pos (by omega), if_pos (by omega)]
  ·rw [if_neg hi]
theorem upd_both (q : PS) (i : Nat) : updO (updO (objs s) (2 * i) (some (q.b1, .own q.d))) (2 * i + 1) (some (q.b2, .ref q.r)) = objs (updS s i (some q)):=by
 funext j
 unfold updO objs updS
 by_cases hj : j = 2 * i + 1
 ·rw [if_pos hj, hj, if_pos (by omega)]
  simp only [Option.map_some]
  rw [if_neg (by omega)]
 ·rw [if_neg hj]
  by_cases hk : j = 2 * i
  ·rw [if_pos hk, hk, if_pos (by omega)]
   simp
  ·rw [if_neg hk, if_neg (by omega)]
theorem upd_gone (i : Nat) : updO (updO (objs s) (2 * i) none) (2 * i + 1) none = objs (updS s i none):=by
 funext j
 unfold updO objs updS
 by_cases hj : j = 2 * i + 1
 ·rw [if_pos hj, hj, if_pos (by omega)]; rfl
 ·rw [if_neg hj]
  by_cases hk : j = 2 * i
  ·rw [if_pos hk, hk, if_pos (by omega)]; rfl
  ·rw [if_neg hk, if_neg (by omega)]
theorem bench_same (h : s i = some p) {q : PS} (h1 : q.b1 = p.b1) (h2 : q.b2 = p.b2) : benchC (updS s i (some q)) = benchC s:=by
 have e1 : ∀ j, pv1 (updS s i (some q) j) = pv1 (s j):=λ j => by
  unfold updS
  split
  ·rename_i hj; rw [hj, h]; simp [pv1, h1]
  ·rfl
 have e2 : ∀ j, pv2 (updS s i (some q) j) = pv2 (s j):=λ j => by
  unfold updS
  split
  ·rename_i hj; rw [hj, h]; simp [pv2, h2]
  ·rfl
 unfold benchC
 rw [e1, e1, e2, e2]
theorem BN.own (B : BN w0 w bb s kp) (hs : s i = some p) {m : M Value} {R : Value -> Dk -> Prop} (hm : ∀ v t, DA w p.b1 p.d v t -> Run m w λ y w' => ∃ d', R y d' /\ DDid w w' p.b1 t d') :
  Run m w λ y w' => ∃ d', R y d' /\ BN w0 w' bb (updS s i (some { p with d:=d' })) kp:=by
 refine (B.bm.call (objs_own hs) (R:=λ y x => ∃ d', x = .own d' /\ R y d') λ t h => ?_).mono ?_
 ·obtain ⟨v, h⟩:=h
  refine (hm v t h).mono ?_
  rintro y w' ⟨d', hr, hd⟩
  exact ⟨_, ⟨d', rfl, hr⟩, hd.m⟩
 ·rintro y w' ⟨_, ⟨d', rfl, hr⟩, B'⟩
  rw [upd_own hs] at B'
  refine ⟨d', hr, ⟨?_, B.le⟩⟩
  rw [bench_same (q:={ p with d:=d' }) hs rfl rfl]; exact B'
theorem BN.ref (B : BN w0 w bb s kp) (hs : s i = some p) {m : M Value} {R : Value -> Rk -> Prop} (hm : ∀ v t, RA w p.b2 p.r v t -> Run m w λ y w' => ∃ r', R y r' /\ RDid w w' p.b2 t r') :
  Run m w λ y w' => ∃ r', R y r' /\ BN w0 w' bb (updS s i (some { p with r:=r' })) kp:=by
 refine (B.bm.call (objs_ref hs) (R:=λ y x => ∃ r', x = .ref r' /\ R y r') λ t h => ?_).mono ?_
 ·obtain ⟨v, h⟩:=h
  refine (hm v t h).mono ?_
  rintro y w' ⟨r', hr, hd⟩
  exact ⟨_, ⟨r', rfl, hr⟩, hd.m⟩
 ·rintro y w' ⟨_, ⟨r', rfl, hr⟩, B'⟩
  rw [upd_ref hs] at B'
  refine ⟨r', hr, ⟨?_, B.le⟩⟩
  rw [bench_same (q:={ p with r:=r' }) hs rfl rfl]; exact B'
theorem BN.fr0 (B : BN w0 w bb s kp) (f : Fr (λ _ => False) w w') : BN w0 w' bb s kp:=⟨B.bm.fr0 f, B.le⟩
theorem BN.blk (B : BN w0 w bb s kp) : bk w bb = some (benchC s):=B.bm.blk (by simp)
theorem BN.kept (B : BN w0 w bb s kp) {c : Nat} {l : List Value} (h : (c, l) ∈ kp) : bk w c = some l:=B.bm.blk (List.mem_cons_of_mem _ h)
theorem BN.new (B : BN w0 w bb s kp) (f : Fr (λ _ => False) w w') {c : Nat} {l : List Value} (hc : bk w' c = some l) (hw : Go.Lift.wr w' c = true) (hle : w.heap.size <= c) : BN w0 w' bb s ((c, l) :: kp):=by
 have B1:=B.bm.new f hc hw hle
 obtain ⟨T, h1, h2, h3, h4⟩:=B1.ex
 refine ⟨⟨⟨T, h1, h2, h3, λ e he => h4 e ?_⟩, ?_, B1.pos, B1.fr⟩, B.le⟩
 ·rcases List.mem_cons.1 he with rfl | he
  ·simp
  ·rcases List.mem_cons.1 he with rfl | he
   ·simp
   ·simp [he]
 ·have:=B1.keys
  simp only [List.map_cons] at this ⊢
  obtain ⟨k1, k2⟩:=List.nodup_cons.1 this
  obtain ⟨k3, k4⟩:=List.nodup_cons.1 k2
  refine List.nodup_cons.2 ⟨λ h => ?_, List.nodup_cons.2 ⟨λ h => k1 (List.mem_cons_of_mem _ h), k4⟩⟩
  rcases List.mem_cons.1 h with h | h
  ·exact k1 (by rw [h]; simp)
  ·exact k3 h
theorem BN.drop (B : BN w0 w bb s kp) {kp' : List (Nat × List Value)} (h : kp'.Sublist kp) : BN w0 w bb s kp':=⟨B.bm.less (h.cons_cons _), B.le⟩
theorem BN.out (B : BN w0 w bb s kp) : Fr (λ _ => False) w0 w:=B.bm.fr
theorem BN.own0 (B : BN w0 w bb s kp) (hs : s i = some p) {m : M Value} {R : Value -> World -> Prop} (hm : ∀ v t, DA w p.b1 p.d v t -> Run m w λ y w' => R y w' /\ Fr (λ _ => False) w w') :
  Run m w λ y w' => R y w' /\ Fr (λ _ => False) w w' /\ BN w0 w' bb s kp:=by
 obtain ⟨T, h1, h2, h3, h4⟩:=B.bm.ex
 obtain ⟨v, h⟩:=h1 (2 * i) _ _ (objs_own hs)
 refine (hm v _ h).mono ?_
 rintro y w' ⟨hr, f⟩
 exact ⟨hr, f, B.fr0 f⟩
theorem BN.ref0 (B : BN w0 w bb s kp) (hs : s i = some p) {m : M Value} {R : Value -> World -> Prop} (hm : ∀ v t, RA w p.b2 p.r v t -> Run m w λ y w' => R y w' /\ Fr (λ _ => False) w w') :
  Run m w λ y w' => R y w' /\ Fr (λ _ => False) w w' /\ BN w0 w' bb s kp:=by
 obtain ⟨T, h1, h2, h3, h4⟩:=B.bm.ex
 obtain ⟨v, h⟩:=h1 (2 * i + 1) _ _ (objs_ref hs)
 refine (hm v _ h).mono ?_
 rintro y w' ⟨hr, f⟩
 exact ⟨hr, f, B.fr0 f⟩
end
end Go.Proofs.YtojnickeblbgoaaGreatDoor
namespace Go.Proofs.YtojnickeblbgoaaGreatDoor
open Go.Lift Go.Sort
set_option linter.unusedSimpArgs false
set_option linter.unusedVariables false
set_option maxHeartbeats 4000000
abbrev EnD:=ByteArray × Int × Int
theorem enC_all (x : EnD) : (enC x).all isCell = true:=by simp [enC]
def listC : Value:=.func (.func 74) #[] #[]
def cfE (x y : EnD) : Int:=cbF x.1.data.toList y.1.data.toList
theorem swoE : SWO (ltC cfE):=by
 have lt_t : ∀ {x y : EnD}, ltC cfE x y = true -> cbF x.1.data.toList y.1.data.toList < 0:=λ h => of_decide_eq_true h
 have lt_f : ∀ {x y : EnD}, ltC cfE x y = false -> ¬ cbF x.1.data.toList y.1.data.toList < 0:=λ h => of_decide_eq_false h
 refine ⟨λ x => decide_eq_false ?_, λ x y z h1 h2 => decide_eq_true (cb_trans (lt_t h1) (lt_t h2)), λ x y z h1 h2 => decide_eq_false ?_⟩
 ·unfold cfE; rw [cb_self]; decide
 ·intro h3
  have h3' : cbF x.1.data.toList z.1.data.toList < 0:=h3
  rcases Int.lt_trichotomy (cbF y.1.data.toList z.1.data.toList) 0 with h4 | h4 | h4
  ·exact lt_f h2 h4
  ·rw [<- cb_zero h4] at h3'; exact lt_f h1 h3'
  ·have h5 : cbF z.1.data.toList y.1.data.toList < 0:=by rw [cb_neg]; omega
   exact lt_f h1 (cb_trans h3' h5)
theorem list_cmp : Cmp 3 enC listC cfE:=by
 intro x y w Q q
 show Run (F.d_List_1 (.agg (enC x).toArray) (.agg (enC y).toArray)) w Q
 unfold F.d_List_1
 simp only [Run_bind]
 refine Run_new λ a w1 ha _ f1 _ => ?_
 refine Run_new λ b w2 hb _ f2 _ => ?_
 have ha' : bk w2 a = some (enC x):=f2.bk_some (by simpa using ha) id
 have hb' : bk w2 b = some (enC y):=by simpa using hb
 simp [ha', hb', enC]
 refine ⟨_, _, rfl, q _ (f1.trans f2 λ _ _ => id)⟩
def ltE (x y : EnD) : Prop:=cfE x y < 0
structure ListOk (d : Dk) (k : Int) (l : List EnD) : Prop where
 mem : ∀ e, e ∈ l ↔ ∃ j, d.seen (k, e.1) = some j /\ e.2 = ((d.nd j).kind, ((d.nd j).seen.size : Int))
 srt : l.Pairwise ltE
theorem ltE_asymm {x y : EnD} (h : ltE x y) (h' : ltE y x) : False:=by
 unfold ltE cfE at h h'
 rw [cb_neg] at h'
 omega
theorem ltE_nodup {l : List EnD} (h : l.Pairwise ltE) : l.Nodup:=h.imp λ {a b} hab he => by
 rw [he] at hab
 exact ltE_asymm hab hab
theorem ListOk.eq {d : Dk} {k : Int} {l l' : List EnD} (h : ListOk d k l) (h' : ListOk d k l') : l = l':=by
 refine List.Perm.eq_of_pairwise (le:=ltE) (λ a b _ _ h1 h2 => (ltE_asymm h1 h2).elim) h.srt h'.srt ?_
 exact nodup_perm (ltE_nodup h.srt) (ltE_nodup h'.srt) λ x => by rw [h.mem, h'.mem]
def enOf (d : Dk) (k : Int) (p : Slt × Int) : Option EnD:=if p.1.1 = k then some (p.1.2, (d.nd p.2).kind, ((d.nd p.2).seen.size : Int)) else none
theorem sortE : F.s_SortFunc_Entry = F.s_SortFunc_Stored:=by kernel_rfl
section
variable {w w' : World} {b : Nat} {d : Dk} {v : DV} {tag : Nat -> Nat} {A B : Nat} {dep : Int -> Nat}
theorem list_run (h : DA w b d v tag) (hI : GI A B dep d) (hB : B <= 16777216) {path : ByteArray} (hs : path.size < 4294967281) :
  Run (F.d_List (Ptr b) (.string path)) w λ r w' => ∃ u l, r = .tuple #[u, .int .i64 (d.findF path 1).1] /\ SlW 3 w' u (l.map enC) /\ ((d.findF path 1).1 ≠ 0 -> l = []) /\ ((d.findF path 1).1 = 0 -> ListOk d (d.findF path 1).2.2 l) /\ Fr (λ _ => False) w w' /\ ∀ c, inB u c -> w.heap.size <= c /\ c < w'.heap.size:=by
 unfold F.d_List
 simp only [Run_bind]
 refine (find_run h hI.good hs 1).mono ?_
 rintro _ w1 ⟨rfl, f1⟩
 have hlt:=find_lt hI.good path 1
 have hpos:=find_pos (d:=d) (path:=path) (kind:=1)
 generalize d.findF path 1 = s at *
 obtain ⟨e, ⟨a1, a2⟩, node⟩:=s
 simp only at hlt hpos ⊢
 simp [-ldA_ptr, spotV]
 refine spot_mem λ x w2 hx _ f2 hxle => ?_
 have f02 : Fr (λ _ => False) w w2:=f1.trans f2 λ _ _ => id
 by_cases k1 : e = 0
 ·have h2:=h.fr0 f02
  have hb2:=h2.blk
  simp [-ldA_ptr, k1, hb2, Dk.cells]
  refine Run_rngM h2.seen λ w3 r hit f3 hr => ?_
  have f03:=f02.trans f3 λ _ _ => id
  have hnls:=h.seen.nodup
  have hin : ∀ {j : Nat} {p : Slt × Int}, v.ls[j]? = some p -> d.seen p.1 = some p.2:=λ {j p} hj => by
   rw [<- h.seenE]; exact getK_of_mem hnls (List.mem_of_getElem? hj)
  have hx3 : bk w3 x = some _:=f3.bk_some hx id
  refine Run_range (k:=λ _ _ => _) (λ x => rfl) (λ js y w' => ∃ rv, y = [rv] /\ Fr (λ c => c = r) w3 w' /\ SlW 3 w' rv (((js.filterMap λ j => v.ls[j]?).filterMap (enOf d node)).map enC) /\ ∀ c, inB rv c -> w3.heap.size <= c /\ c ≠ r /\ c < w'.heap.size) ⟨_, rfl, Fr.refl _ _, SlW.nil _ _, λ c hc => hc.elim⟩ hit ?_ ?_
  ·rintro js j p y wc wd hp hj ⟨rv, rfl, fc, hrv, hrin⟩ hitd fd sd
   have he:=hitd.entry hp
   have hds:=hin hp
   obtain ⟨⟨pd, pn⟩, pk⟩:=p
   simp [-ldA_ptr, he, idv, slv]
   refine Run_newSt (cs:=#[.int .i64 pd, .string pn]) rfl rfl (by simp) λ z we hz hzw fe hzle => ?_
   have hz' : bk we z = some [.int .i64 pd, .string pn]:=hz
   have f3d : Fr (λ c => c = r) w3 wd:=fc.trans fd λ _ _ h => h
   have f3e : Fr (λ c => c = r) w3 we:=f3d.trans fe λ _ _ h => h.elim
   have s3:=f3d.size
   have se:=fe.size
   have sfd:=fd.size
   have hxr : x ≠ r:=λ he => by have:=bk_lt hx; omega
   have hxe : bk we x = some _:=f3e.bk_some hx3 hxr
   have hit':=hitd.fr fe id id
   have hrve : SlW 3 we rv (((js.filterMap λ j => v.ls[j]?).filterMap (enOf d node)).map enC):=(hrv.fr fd λ c hc => (hrin c hc).2.1).fr fe λ _ _ => id
   by_cases hpd : pd = node
   ·have f0e : Fr (λ _ => False) w we:=f03.new f3e λ c hc => by have:=f02.size; omega
    have hg:=h.fr0 f0e
    have hbg:=hg.blk
    have hrk:=hI.pseen.rng _ _ hds
    obtain ⟨i, hi⟩ : ∃ i : Nat, pk = i:=⟨pk.toNat, by omega⟩
    have hil : i < d.nodes.length:=by omega
    have hin' : d.nodes[i]? = some d.nodes[i]:=List.getElem?_eq_getElem hil
    generalize d.nodes[i] = nd at hin'
    have hnd : d.nd pk = nd:=by simp [Dk.nd, hi, hin']
    obtain ⟨b0, o, l0, i1, t4, i2, q0, q1, _, _⟩:=hg.setNode hin'
    have i1' : idxA 3 v.nv (.int .i64 pk) = some (.pointer (some ⟨b0, o, none⟩)):=by rw [hi]; exact i1
    have hen : enOf d node ((pd, pn), pk) = some (pn, nd.kind, (nd.seen.size : Int)):=by simp [enOf, hpd, hnd]
    have hbd : buildV #[Value.string ByteArray.empty, Value.int IntKind.i64 0, Value.int IntKind.i64 0] [(0, 1, .string pn), (1, 1, .int .i64 nd.kind), (2, 1, .int .i64 nd.seen.size)] = some (enV (pn, nd.kind, (nd.seen.size : Int))):=build_en pn nd.kind nd.seen.size
    have hjl : js.length < v.ls.length:=by
     have h1:=hitd.nd
     have h2:=nodup_lt_len h1 hitd.lt
     rw [List.length_append, List.length_singleton] at h2
     omega
    have hvl : v.ls.length <= B:=by
     have h1:=map_len hI.pseen.rng hI.pseen.inj hnls h.seenE
     have:=hI.len
     omega
    simp [-ldA_ptr, hz', hxe, hpd, hbg, Dk.cells, i1', i2, q0, q1, hbd]
    refine Run_app1 (w:=we.drew) (k:=3) (y:=enV (pn, nd.kind, (nd.seen.size : Int))) rfl (hrve.fr ((Fr.refl (λ _ => False) we).drew) λ _ _ => id) (by decide) rfl (by decide) (by simpa [enV] using enC_all _) ?_ λ r3 wh hr3 fh hin3 wi fi => ?_
    ·have h1 : ((js.filterMap λ j => v.ls[j]?).filterMap (enOf d node)).length <= (js.filterMap λ j => v.ls[j]?).length:=List.length_filterMap_le _ _
     have h2 : (js.filterMap λ j => v.ls[j]?).length <= js.length:=List.length_filterMap_le _ _
     rw [List.length_map]
     omega
    ·have z9:=fh.size
     have z8 : we.drew.heap.size = we.heap.size:=rfl
     have fh' : Fr (λ c => inB rv c) we wh:=(Fr.refl (λ c => inB rv c) we).drew.trans fh λ _ _ h => h
     refine ⟨⟨?_, ?_, ?_⟩, ?_⟩
     ·exact f3e.trans fh' λ c hc hi => by have:=hrin c hi; omega
     ·simpa [List.filterMap_append, hp, hen, enV] using hr3
     ·intro c hc
      rcases hin3 c hc with h' | h'
      ·have:=hrin c h'
       omega
      ·have:=it_lt2 hitd
       omega
     ·exact hit'.fr fh' (λ he => by
       have:=hrin _ he
       have hl:=h2.seen.lt
       have:=f3.size
       omega) (λ he => (hrin r he).2.1 rfl)
   ·have hen : enOf d node ((pd, pn), pk) = none:=by simp [enOf, hpd]
    simp [-ldA_ptr, hz', hxe, hpd]
    refine ⟨⟨f3e, ?_, λ c hc => ?_⟩, hit'⟩
    ·simpa [List.filterMap_append, hp, hen] using hrve
    ·have:=hrin c hc
     omega
  ·rintro js y wc wd hperm ⟨rv, rfl, fc, hrv, hrin⟩ hitd fd sd
   have f0d : Fr (λ _ => False) w wd:=(f03.new fc λ c hc => by have:=f02.size; omega).trans fd λ _ _ h => h
   have hrd:=hrv.fr fd λ _ _ => id
   simp
   obtain ⟨L, hL⟩ : ∃ L, L = ((js.filterMap λ j => v.ls[j]?).filterMap (enOf d node)):=⟨_, rfl⟩
   have hpa : (js.filterMap λ j => v.ls[j]?).Perm v.ls:=perm_all hperm
   have hvl : v.ls.length <= B:=by
    have h1:=map_len hI.pseen.rng hI.pseen.inj hnls h.seenE
    have:=hI.len
    omega
   have hLn : L.length <= B:=by
    rw [hL]
    have h1 : ((js.filterMap λ j => v.ls[j]?).filterMap (enOf d node)).length <= (js.filterMap λ j => v.ls[j]?).length:=List.length_filterMap_le _ _
    have:=hpa.length_eq
    omega
   have hrow : RowS 3 enC wd rv L.toArray:=⟨by rw [hL]; exact hrd, by decide, λ x => ⟨rfl, enC_all x⟩⟩
   rw [sortE]
   refine (SortStored.sort_run hrow swoE list_cmp (by simp; omega)).mono ?_
   rintro _ we ⟨D, hp1, hp2, hD, fe⟩
   have hpD : D.toList.Perm L:=by
    have h2:=hp1.2.2
    have e1 : (D.extract 0 L.toArray.size).toList = D.toList:=by
     have : L.toArray.size = D.size:=hp1.1.symm
     rw [this]; simp
    have e2 : (L.toArray.extract 0 L.toArray.size).toList = L:=by simp
    rw [e1, e2] at h2
    exact h2
   have hmem : ∀ e : EnD, e ∈ L ↔ ∃ j, d.seen (node, e.1) = some j /\ e.2 = ((d.nd j).kind, ((d.nd j).seen.size : Int)):=λ e => by
    rw [hL, List.mem_filterMap]
    constructor
    ·rintro ⟨p, hp, he⟩
     have hp':=hpa.mem_iff.1 hp
     unfold enOf at he
     split at he
     ·rename_i hk
      cases he
      refine ⟨p.2, ?_, rfl⟩
      have:=getK_of_mem hnls (show (p.1, p.2) ∈ v.ls from hp')
      rw [h.seenE] at this
      rw [<- hk]; exact this
     ·cases he
    ·rintro ⟨j, hj, he⟩
     rw [<- h.seenE] at hj
     refine ⟨_, hpa.mem_iff.2 (getK_mem hj), ?_⟩
     unfold enOf
     rw [if_pos rfl, <- he]
   have hnames : (D.toList.map (·.1)).Nodup:=by
    refine (hpD.map (·.1)).nodup_iff.2 ?_
    have hnn : (js.filterMap λ j => v.ls[j]?).Pairwise λ p q => p.1 ≠ q.1:=List.pairwise_map.1 ((hpa.map (Prod.fst : Slt × Int -> Slt)).nodup_iff.2 hnls)
    rw [hL]
    refine List.pairwise_map.2 (List.Pairwise.filterMap (S:=λ a b : EnD => a.1 ≠ b.1) (enOf d node) (λ p q hne a ha b hb he => hne ?_) hnn)
    unfold enOf at ha hb
    split at ha
    ·split at hb
     ·rename_i k1 k2
      cases ha
      cases hb
      exact Prod.ext (k1.trans k2.symm) he
     ·cases hb
    ·cases ha
   have hsz : D.size = L.toArray.size:=hp1.1
   refine ⟨D.toList, hD.sl, ⟨λ e => (hpD.mem_iff).trans (hmem e), ?_⟩, f0d.new fe λ c hc => by have:=(hrin c hc).1; have:=f03.size; omega, λ c hc => by have:=hrin c hc; have:=fd.size; have:=fe.size; have:=f03.size; omega⟩
   have hne' : D.toList.Pairwise λ a b => a.1 ≠ b.1:=List.pairwise_map.1 hnames
   rw [List.pairwise_iff_getElem] at hne' ⊢
   intro i j hi hj hij
   have h1:=hne' i j hi hj hij
   rw [Array.getElem_toList, Array.getElem_toList] at h1
   rw [Array.length_toList] at hi hj
   have hs:=hp2 i j (Nat.zero_le _) hij (by omega)
   rw [getElem!_pos D j (by omega), getElem!_pos D i (by omega)] at hs
   have hs' : ¬ cbF D[j].1.data.toList D[i].1.data.toList < 0:=of_decide_eq_false hs
   have hn:=cb_neg D[i].1.data.toList D[j].1.data.toList
   have h0 : cbF D[i].1.data.toList D[j].1.data.toList ≠ 0:=λ h => h1 (ba_ext (cb_zero h))
   show cbF D.toList[i].1.data.toList D.toList[j].1.data.toList < 0
   rw [Array.getElem_toList, Array.getElem_toList]
   omega
 ·simp [-ldA_ptr, k1]
  exact ⟨[], SlW.nil _ _, rfl, f02⟩
end
end Go.Proofs.YtojnickeblbgoaaGreatDoor
namespace Go.Proofs.YtojnickeblbgoaaGreatDoor
open Go.Lift Go.Lift.Plan
noncomputable def F.b_plays (a0 a1 : Value) : M Value:=M.bind (newM 35 (Value.cells a1)) λ x1 => bindO (fieldA 1 x1) λ x2 => M.bind (rdM (ld1 x2)) λ x3 => M.bind (F.l_place x3) λ x4 => bindO (fieldA 0 x1) λ x5 => M.bind (rdM (ld1 x5)) λ x6 => bindO (binV .geq x6 (.int .i64 1)) λ x7 => M.bind (guardM x7 true (optM (fieldA 0 x1))) λ x8 => M.bind (guardM x7 true (rdM (ld1 x8))) λ x9 => M.bind (guardM x7 true (optM (binV .leq x9 (.int .i64 8)))) λ x10 => bindO (pickV x7 x10 (.bool false)) λ x11 => condM x11 ( M.bind (rdM (ldA 6 x1)) λ x12 => M.bind (F.b_writes a0 x12) λ x13 => M.ret x13) ( bindO (fieldA 0 x1) λ x14 => M.bind (rdM (ld1 x14)) λ x15 => bindO (binV .geq x15 (.int .i64 9)) λ x16 => M.bind (guardM x16 true (optM (fieldA 0 x1))) λ x17 => M.bind (guardM x16 true (rdM (ld1 x17))) λ x18 => M.bind (guardM x16 true (optM (binV .leq x18 (.int .i64 13)))) λ x19 => bindO (pickV x16 x19 (.bool false)) λ x20 => condM x20 ( M.bind (rdM (ldA 6 x1)) λ x21 => M.bind (F.b_looks a0 x21) λ x22 => M.ret x22) ( bindO (fieldA 0 x1) λ x23 => M.bind (rdM (ld1 x23)) λ x24 => bindO (binV .geq x24 (.int .i64 14)) λ x25 => M.bind (guardM x25 true (optM (fieldA 0 x1))) λ x26 => M.bind (guardM x25 true (rdM (ld1 x26))) λ x27 => M.bind (guardM x25 true (optM (binV .leq x27 (.int .i64 19)))) λ x28 => bindO (pickV x25 x28 (.bool false)) λ x29 => condM x29 ( M.bind (rdM (ldA 6 x1)) λ x30 => M.bind (F.b_counts a0 x30) λ x31 => M.ret x31) ( bindO (fieldA 0 x1) λ x32 => M.bind (rdM (ld1 x32)) λ x33 => bindO (binV .eql x33 (.int .i64 20)) λ x34 => condM x34 ( drewM <| bindO (nilChk a0) λ x35 => bindO (fieldA 0 x35) λ x36 => bindO (idxR 2 1 x36 x4) λ x37 => M.bind (rdM (ld1 x37)) λ x38 => bindO (fieldA 2 x1) λ x39 => M.bind (rdM (ld1 x39)) λ x40 => M.bind (F.d_Arm x38 x40) λ x41 => drewM <| bindO (nilChk a0) λ x42 => bindO (fieldA 2 x42) λ x43 => bindO (idxR 2 1 x43 x4) λ x44 => M.bind (rdM (ld1 x44)) λ x45 => bindO (fieldA 2 x1) λ x46 => M.bind (rdM (ld1 x46)) λ x47 => M.bind (F.r_Arm x45 x47) λ x48 => M.bind (F.l_num x41) λ x49 => bindO (binV .eql x49 x48) λ x50 => M.ret x50) ( bindO (fieldA 0 x1) λ x51 => M.bind (rdM (ld1 x51)) λ x52 => bindO (binV .eql x52 (.int .i64 21)) λ x53 => condM x53 ( drewM <| bindO (nilChk a0) λ x54 => bindO (fieldA 0 x54) λ x55 => bindO (idxR 2 1 x55 x4) λ x56 => M.bind (rdM (ld1 x56)) λ x57 => bindO (fieldA 2 x1) λ x58 => M.bind (rdM (ld1 x58)) λ x59 => bindO (fieldA 3 x1) λ x60 => M.bind (rdM (ld1 x60)) λ x61 => M.bind (F.d_Crash x57 x59 x61) λ x62 => drewM <| bindO (nilChk a0) λ x63 => bindO (fieldA 2 x63) λ x64 => bindO (idxR 2 1 x64 x4) λ x65 => M.bind (rdM (ld1 x65)) λ x66 => bindO (fieldA 2 x1) λ x67 => M.bind (rdM (ld1 x67)) λ x68 => bindO (fieldA 3 x1) λ x69 => M.bind (rdM (ld1 x69)) λ x70 => M.bind (F.r_Crash x66 x68 x70) λ x71 => bindO (binV .eql x62 x71) λ x72 => M.ret x72) ( bindO (fieldA 0 x1) λ x73 => M.bind (rdM (ld1 x73)) λ x74 => bindO (binV .eql x74 (.int .i64 22)) λ x75 => condM x75 ( bindO (fieldA 2 x1) λ x76 => M.bind (rdM (ld1 x76)) λ x77 => M.bind (F.b_fresh a0 x4 x77) λ x78 => M.ret x78) ( M.ret (.bool true)))))))
def F.b_plays.plan : Plan:=(ls 2 (seq (body (ls 1 (cond (ls 1 leaf) (ls 1 (cond (ls 1 leaf) (ls 1 (cond (ls 1 leaf) (ls 1 (cond (ls 3 leaf) (ls 1 (cond (ls 3 leaf) (ls 1 (cond (ls 1 leaf) leaf))))))))))))) (ls 1 leaf)))
theorem F.b_plays.lift : LiftOk Tryz.prog 18 (ap2 F.b_plays):=lift2 (g:=evFn Tryz.prog (tcons 12 (ap3 F.b_fresh) (tcons 13 (ap2 F.b_looks) (tcons 14 (ap2 F.b_writes) (tcons 17 (ap2 F.b_counts) (tcons 20 (ap1 F.l_place) (tcons 23 (ap1 F.l_num) (tcons 67 (ap2 F.d_Arm) (tcons 68 (ap2 F.r_Arm) (tcons 69 (ap3 F.d_Crash) (tcons 70 (ap3 F.r_Crash) tnil)))))))))) tnil 18 Tryz.f18 F.b_plays.plan) (evFn_sound (tcons_ok F.b_fresh.lift (tcons_ok F.b_looks.lift (tcons_ok F.b_writes.lift (tcons_ok F.b_counts.lift (tcons_ok F.l_place.lift (tcons_ok F.l_num.lift (tcons_ok F.d_Arm.lift (tcons_ok F.r_Arm.lift (tcons_ok F.d_Crash.lift (tcons_ok F.r_Crash.lift tnil_ok)))))))))) tnil_ok Tryz.func18 (by kernel_rfl)) (λ x0 x1 => by kernel_rfl)
noncomputable def F.l_upTo (a0 a1 a2 a3 : Value) : M Value:=M.bind (loopM (λ l1 => bindO (lenL a1) λ x2 => bindO (binV .lss (getL l1 0) x2) λ x3 => condM x3 ( bindO (idxA 6 a1 (getL l1 0)) λ x4 => M.bind (rdM (ldA 6 x4)) λ x5 => M.bind (newM 35 #[(.int .i64 0), (.int .i64 0), (.int .i64 0), (.int .i64 0), (.string .empty), (.string .empty)]) λ x6 => M.bind (stM 6 x6 x5) λ _ => M.bind (rdM (ldA 6 x6)) λ x8 => M.bind (F.b_plays a0 x8) λ x9 => bindO (notV x9) λ x10 => M.bind (guardM x10 true (optM (fieldA 0 x6))) λ x11 => M.bind (guardM x10 true (rdM (ld1 x11))) λ x12 => M.bind (guardM x10 true (M.ret a2)) λ x13 => M.bind (guardM x10 true (optM (binV .geq x12 x13))) λ x14 => M.bind (guardM x10 true (M.ret x14)) λ x15 => M.bind (guardM x15 true (optM (fieldA 0 x6))) λ x16 => M.bind (guardM x15 true (rdM (ld1 x16))) λ x17 => M.bind (guardM x15 true (M.ret a3)) λ x18 => M.bind (guardM x15 true (optM (binV .leq x17 x18))) λ x19 => M.bind (guardM x10 true (optM (pickV x15 x19 (.bool false)))) λ x20 => M.bind (guardM x10 true (M.ret x20)) λ x21 => M.bind (guardM x21 false (optM (fieldA 0 x6))) λ x22 => M.bind (guardM x21 false (rdM (ld1 x22))) λ x23 => M.bind (guardM x21 false (optM (binV .eql x23 (.int .i64 22)))) λ x24 => M.bind (guardM x10 true (optM (pickV x21 (.bool true) x24))) λ x25 => bindO (pickV x10 x25 (.bool false)) λ x26 => condM x26 ( M.ret (Out.ret (.bool false))) ( bindO (binV .add (getL l1 0) (.int .i64 1)) λ x27 => M.ret (Out.norm [x27]))) ( M.ret (Out.exit 0 [(getL l1 0)]))) [(.int .i64 0)]) λ o29 => outK o29 (λ _ => M.fail) (λ k30 _ => bif Nat.beq k30 0 then ( M.ret (.bool true)) else M.fail) (λ r31 => M.ret r31)
def F.l_upTo.plan : Plan:=(ls 1 (seq (ls 1 (body (loop [9] [8, 9, 10, 11, 12, 13, 14, 15, 16, 17, 18, 19, 20, 21, 22, 23, 24, 25, 26, 27, 28, 29, 30, 31, 32, 33, 34, 35, 36, 37, 38, 39, 40, 41, 42, 43] [0] (seq (ls 1 (cond leaf leaf)) (seq (body (ls 3 (cond (ls 1 leaf) leaf))) leaf))))) (ls 1 leaf)))
theorem F.l_upTo.lift : LiftOk Tryz.prog 16 (ap4 F.l_upTo):=lift4 (g:=evFn Tryz.prog (tcons 18 (ap2 F.b_plays) tnil) tnil 16 Tryz.f16 F.l_upTo.plan) (evFn_sound (tcons_ok F.b_plays.lift tnil_ok) tnil_ok Tryz.func16 (by kernel_rfl)) (λ x0 x1 x2 x3 => by kernel_rfl)
noncomputable def F.l_DiskWrites (a0 a1 : Value) : M Value:=bindO (buildV #[(.pointer none), (.pointer none), (.pointer none), (.pointer none)] []) λ x1 => M.bind (newM 31 (Value.cells x1)) λ x2 => M.bind (F.b_begins x2 a0) λ x3 => bindO (notV x3) λ x4 => condM x4 ( M.ret (.bool false)) ( M.bind (F.l_upTo x2 a1 (.int .i64 1) (.int .i64 8)) λ x5 => M.bind (guardM x5 true (M.ret x2)) λ x6 => M.bind (guardM x5 true (optM (buildV #[(.int .i64 0), (.int .i64 0), (.int .i64 0), (.int .i64 0), (.string .empty), (.string .empty)] [(0, 1, (.int .i64 13))]))) λ x7 => M.bind (guardM x5 true (F.b_looks x6 x7)) λ x8 => bindO (pickV x5 x8 (.bool false)) λ x9 => M.ret x9)
def F.l_DiskWrites.plan : Plan:=(ls 3 (seq (ls 1 (cond (ls 1 leaf) leaf)) (ls 2 leaf)))
theorem F.l_DiskWrites.lift : LiftOk Tryz.prog 4 (ap2 F.l_DiskWrites):=lift2 (g:=evFn Tryz.prog (tcons 13 (ap2 F.b_looks) (tcons 15 (ap2 F.b_begins) (tcons 16 (ap4 F.l_upTo) tnil))) tnil 4 Tryz.f4 F.l_DiskWrites.plan) (evFn_sound (tcons_ok F.b_looks.lift (tcons_ok F.b_begins.lift (tcons_ok F.l_upTo.lift tnil_ok))) tnil_ok Tryz.func4 (by kernel_rfl)) (λ x0 x1 => by kernel_rfl)
noncomputable def F.l_DiskLooks (a0 a1 : Value) : M Value:=bindO (buildV #[(.pointer none), (.pointer none), (.pointer none), (.pointer none)] []) λ x1 => M.bind (newM 31 (Value.cells x1)) λ x2 => M.bind (F.b_begins x2 a0) λ x3 => bindO (notV x3) λ x4 => condM x4 ( M.ret (.bool false)) ( M.bind (F.l_upTo x2 a1 (.int .i64 9) (.int .i64 13)) λ x5 => M.bind (guardM x5 true (M.ret x2)) λ x6 => M.bind (guardM x5 true (optM (buildV #[(.int .i64 0), (.int .i64 0), (.int .i64 0), (.int .i64 0), (.string .empty), (.string .empty)] [(0, 1, (.int .i64 11))]))) λ x7 => M.bind (guardM x5 true (F.b_looks x6 x7)) λ x8 => bindO (pickV x5 x8 (.bool false)) λ x9 => M.ret x9)
def F.l_DiskLooks.plan : Plan:=(ls 3 (seq (ls 1 (cond (ls 1 leaf) leaf)) (ls 2 leaf)))
theorem F.l_DiskLooks.lift : LiftOk Tryz.prog 5 (ap2 F.l_DiskLooks):=lift2 (g:=evFn Tryz.prog (tcons 13 (ap2 F.b_looks) (tcons 15 (ap2 F.b_begins) (tcons 16 (ap4 F.l_upTo) tnil))) tnil 5 Tryz.f5 F.l_DiskLooks.plan) (evFn_sound (tcons_ok F.b_looks.lift (tcons_ok F.b_begins.lift (tcons_ok F.l_upTo.lift tnil_ok))) tnil_ok Tryz.func5 (by kernel_rfl)) (λ x0 x1 => by kernel_rfl)
noncomputable def F.l_DiskCounts (a0 a1 : Value) : M Value:=bindO (buildV #[(.pointer none), (.pointer none), (.pointer none), (.pointer none)] []) λ x1 => M.bind (newM 31 (Value.cells x1)) λ x2 => M.bind (F.b_begins x2 a0) λ x3 => bindO (notV x3) λ x4 => condM x4 ( M.ret (.bool false)) ( M.bind (F.l_upTo x2 a1 (.int .i64 14) (.int .i64 19)) λ x5 => M.bind (guardM x5 true (M.ret x2)) λ x6 => M.bind (guardM x5 true (optM (buildV #[(.int .i64 0), (.int .i64 0), (.int .i64 0), (.int .i64 0), (.string .empty), (.string .empty)] [(0, 1, (.int .i64 16))]))) λ x7 => M.bind (guardM x5 true (F.b_counts x6 x7)) λ x8 => bindO (pickV x5 x8 (.bool false)) λ x9 => M.bind (guardM x9 true (M.ret x2)) λ x10 => M.bind (guardM x9 true (optM (buildV #[(.int .i64 0), (.int .i64 0), (.int .i64 0), (.int .i64 0), (.string .empty), (.string .empty)] [(0, 1, (.int .i64 15))]))) λ x11 => M.bind (guardM x9 true (F.b_counts x10 x11)) λ x12 => bindO (pickV x9 x12 (.bool false)) λ x13 => M.ret x13)
def F.l_DiskCounts.plan : Plan:=(ls 3 (seq (ls 1 (cond (ls 1 leaf) leaf)) (ls 2 leaf)))
theorem F.l_DiskCounts.lift : LiftOk Tryz.prog 6 (ap2 F.l_DiskCounts):=lift2 (g:=evFn Tryz.prog (tcons 15 (ap2 F.b_begins) (tcons 16 (ap4 F.l_upTo) (tcons 17 (ap2 F.b_counts) tnil))) tnil 6 Tryz.f6 F.l_DiskCounts.plan) (evFn_sound (tcons_ok F.b_begins.lift (tcons_ok F.l_upTo.lift (tcons_ok F.b_counts.lift tnil_ok))) tnil_ok Tryz.func6 (by kernel_rfl)) (λ x0 x1 => by kernel_rfl)
noncomputable def F.l_DiskCrashes (a0 a1 : Value) : M Value:=bindO (buildV #[(.pointer none), (.pointer none), (.pointer none), (.pointer none)] []) λ x1 => M.bind (newM 31 (Value.cells x1)) λ x2 => M.bind (F.b_begins x2 a0) λ x3 => bindO (notV x3) λ x4 => condM x4 ( M.ret (.bool false)) ( M.bind (loopM (λ l5 => bindO (lenL a1) λ x6 => bindO (binV .lss (getL l5 0) x6) λ x7 => condM x7 ( M.bind ( bindO (idxA 6 a1 (getL l5 0)) λ x8 => M.bind (rdM (ldA 6 x8)) λ x9 => M.bind (newM 35 #[(.int .i64 0), (.int .i64 0), (.int .i64 0), (.int .i64 0), (.string .empty), (.string .empty)]) λ x10 => M.bind (stM 6 x10 x9) λ _ => M.bind (rdM (ldA 6 x10)) λ x12 => M.bind (F.b_plays x2 x12) λ x13 => bindO (notV x13) λ x14 => M.bind (guardM x14 true (optM (fieldA 0 x10))) λ x15 => M.bind (guardM x14 true (rdM (ld1 x15))) λ x16 => M.bind (guardM x14 true (optM (binV .eql x16 (.int .i64 20)))) λ x17 => M.bind (guardM x14 true (M.ret x17)) λ x18 => M.bind (guardM x18 false (optM (fieldA 0 x10))) λ x19 => M.bind (guardM x18 false (rdM (ld1 x19))) λ x20 => M.bind (guardM x18 false (optM (binV .eql x20 (.int .i64 21)))) λ x21 => M.bind (guardM x14 true (optM (pickV x18 (.bool true) x21))) λ x22 => M.bind (guardM x14 true (M.ret x22)) λ x23 => M.bind (guardM x23 false (optM (fieldA 0 x10))) λ x24 => M.bind (guardM x23 false (rdM (ld1 x24))) λ x25 => M.bind (guardM x23 false (optM (binV .eql x25 (.int .i64 22)))) λ x26 => M.bind (guardM x14 true (optM (pickV x23 (.bool true) x26))) λ x27 => bindO (pickV x14 x27 (.bool false)) λ x28 => condM x28 ( M.ret (Out.ret (.bool false))) ( bindO (fieldA 0 x10) λ x29 => M.bind (rdM (ld1 x29)) λ x30 => bindO (binV .eql x30 (.int .i64 21)) λ x31 => condM x31 ( bindO (fieldA 1 x10) λ x32 => M.bind (rdM (ld1 x32)) λ x33 => bindO (buildV #[(.int .i64 0), (.int .i64 0), (.int .i64 0), (.int .i64 0), (.string .empty), (.string .empty)] [(0, 1, (.int .i64 13)), (1, 1, x33)]) λ x34 => M.bind (F.b_looks x2 x34) λ x35 => bindO (notV x35) λ x36 => condM x36 ( M.ret (Out.ret (.bool false))) ( M.ret (Out.norm []))) ( M.ret (Out.norm [])))) λ o38 => outK o38 (λ _ => bindO (binV .add (getL l5 0) (.int .i64 1)) λ x41 => M.ret (Out.norm [x41])) (λ _ _ => M.fail) (λ r40 => M.ret (Out.ret r40))) ( M.ret (Out.exit 0 [(getL l5 0)]))) [(.int .i64 0)]) λ o44 => outK o44 (λ _ => M.fail) (λ k45 _ => bif Nat.beq k45 0 then ( bindO (buildV #[(.int .i64 0), (.int .i64 0), (.int .i64 0), (.int .i64 0), (.string .empty), (.string .empty)] [(0, 1, (.int .i64 11))]) λ x47 => M.bind (F.b_looks x2 x47) λ x48 => M.ret x48) else M.fail) (λ r46 => M.ret r46))
def F.l_DiskCrashes.plan : Plan:=(ls 3 (seq (ls 1 (cond (ls 1 leaf) leaf)) (seq (ls 1 (body (loop [7] [4, 6, 7, 8, 16, 17, 18, 19, 20, 21, 22, 23, 24, 25, 26, 27, 28, 29, 30, 31, 32, 33, 34, 35, 36, 37, 38, 39, 40, 41, 42, 43, 44, 45, 46, 47, 48, 49, 50, 51, 52, 53, 54, 55] [0] (seq (ls 1 (cond leaf leaf)) (fork [] [4, 6, 8, 22, 23, 24, 25, 26, 27, 28, 29, 30, 31, 32, 33, 34, 35, 36, 37, 38, 39, 40, 41, 42, 43, 44, 45, 46, 47, 48, 49, 50, 51, 52, 53, 54, 55] [] (body (ls 2 (seq (ls 1 (cond (ls 1 leaf) leaf)) (ls 1 (cond (ls 2 (cond (ls 1 leaf) leaf)) leaf))))) leaf))))) (ls 1 leaf))))
theorem F.l_DiskCrashes.lift : LiftOk Tryz.prog 7 (ap2 F.l_DiskCrashes):=lift2 (g:=evFn Tryz.prog (tcons 13 (ap2 F.b_looks) (tcons 15 (ap2 F.b_begins) (tcons 18 (ap2 F.b_plays) tnil))) tnil 7 Tryz.f7 F.l_DiskCrashes.plan) (evFn_sound (tcons_ok F.b_looks.lift (tcons_ok F.b_begins.lift (tcons_ok F.b_plays.lift tnil_ok))) tnil_ok Tryz.func7 (by kernel_rfl)) (λ x0 x1 => by kernel_rfl)
noncomputable def F.l_DiskPlays (a0 a1 : Value) : M Value:=bindO (buildV #[(.pointer none), (.pointer none), (.pointer none), (.pointer none)] []) λ x1 => M.bind (newM 31 (Value.cells x1)) λ x2 => M.bind (F.b_begins x2 a0) λ x3 => bindO (notV x3) λ x4 => condM x4 ( M.ret (.bool false)) ( M.bind (F.l_upTo x2 a1 (.int .i64 1) (.int .i64 22)) λ x5 => M.bind (guardM x5 true (M.ret x2)) λ x6 => M.bind (guardM x5 true (optM (buildV #[(.int .i64 0), (.int .i64 0), (.int .i64 0), (.int .i64 0), (.string .empty), (.string .empty)] [(0, 1, (.int .i64 11))]))) λ x7 => M.bind (guardM x5 true (F.b_looks x6 x7)) λ x8 => bindO (pickV x5 x8 (.bool false)) λ x9 => M.ret x9)
def F.l_DiskPlays.plan : Plan:=(ls 3 (seq (ls 1 (cond (ls 1 leaf) leaf)) (ls 2 leaf)))
theorem F.l_DiskPlays.lift : LiftOk Tryz.prog 8 (ap2 F.l_DiskPlays):=lift2 (g:=evFn Tryz.prog (tcons 13 (ap2 F.b_looks) (tcons 15 (ap2 F.b_begins) (tcons 16 (ap4 F.l_upTo) tnil))) tnil 8 Tryz.f8 F.l_DiskPlays.plan) (evFn_sound (tcons_ok F.b_looks.lift (tcons_ok F.b_begins.lift (tcons_ok F.l_upTo.lift tnil_ok))) tnil_ok Tryz.func8 (by kernel_rfl)) (λ x0 x1 => by kernel_rfl)
end Go.Proofs.YtojnickeblbgoaaGreatDoor
namespace Go.Proofs.YtojnickeblbgoaaGreatDoor
open Go.Lift
set_option linter.unusedSimpArgs false
set_option linter.unusedVariables false
set_option maxHeartbeats 4000000
theorem tmod2 (n : Int) : (0 <= n -> n.tmod 2 = n % 2) /\ (n < 0 -> n.tmod 2 = -((-n) % 2)):=by
 refine ⟨λ h => Int.tmod_eq_emod_of_nonneg h, λ h => ?_⟩
 have h1 : (-n).tmod 2 = (-n) % 2:=Int.tmod_eq_emod_of_nonneg (by omega)
 rw [Int.neg_tmod] at h1
 omega
theorem place_run {w : World} (n : Int) {Q : Value -> World -> Prop} (q : Q (.int .i64 (n % 2)) w) : Run (F.l_place (.int .i64 n)) w Q:=by
 unfold F.l_place
 obtain ⟨a1, a2⟩:=tmod2 n
 have hr : -1 <= n.tmod 2 /\ n.tmod 2 <= 1:=by
  by_cases h : 0 <= n
  ·have:=a1 h; omega
  ·have:=a2 (by omega); omega
 have e2 : IntKind.i64.wrap (n.tmod 2 + 2) = n.tmod 2 + 2:=wrap_int (by omega) (by omega)
 have e3 : (n.tmod 2 + 2).tmod 2 = n % 2:=by
  rw [(tmod2 (n.tmod 2 + 2)).1 (by omega)]
  by_cases h : 0 <= n
  ·have:=a1 h; omega
  ·have:=a2 (by omega); omega
 simp [e2, e3]
 exact q
abbrev nilP : Value:=.pointer none
section
variable {w : World}
theorem ready_nil : Run (F.d_ready nilP) w λ x w' => x = .int .i64 2 /\ w' = w:=by unfold F.d_ready; simp
theorem add_nil (p : ByteArray) (k : Int) : Run (F.d_add nilP (.string p) (.int .i64 k)) w λ x w' => x = .int .i64 2 /\ Fr (λ _ => False) w w':=by
 unfold F.d_add
 simp only [Run_bind]
 refine ready_nil.mono ?_
 rintro _ _ ⟨rfl, rfl⟩
 simp
 exact Fr.refl _ _
theorem find_nil (p : ByteArray) (k : Int) : Run (F.d_find nilP (.string p) (.int .i64 k)) w λ x w' => x = .tuple #[spotV (zspot 2), .int .i64 2] /\ Fr (λ _ => False) w w':=by
 unfold F.d_find
 simp only [Run_bind]
 refine Run_new λ x w1 hx hxw f1 hxle => ?_
 refine ready_nil.mono ?_
 rintro _ _ ⟨rfl, hw⟩
 rw [hw]
 have hx' : bk w1 x = some [.int .i64 0, .string e0, .int .i64 0]:=hx
 have back : ldA 3 (Ptr x) (sto w1 x 0 [.int .i64 0, .string ByteArray.empty, .int .i64 0]) = some (spotV (zspot 2)):=back3 hx' rfl _ _ _
 simp [-ldA_ptr, build_z, hx', hxw]
 exact ⟨_, back, rfl, f1.sto (.inr hxle) _ _⟩
theorem append_nil (p q : ByteArray) : Run (F.d_Append nilP (.string p) (.string q)) w λ x w' => x = .int .i64 2 /\ Fr (λ _ => False) w w':=by
 unfold F.d_Append
 simp only [Run_bind]
 refine (find_nil p _).mono ?_
 rintro _ w1 ⟨rfl, f1⟩
 simp [-ldA_ptr, spotV, zspot]
 refine spot_mem λ x w2 hx _ f2 _ => ?_
 exact f1.trans f2 λ _ _ => id
theorem remove_nil (p : ByteArray) : Run (F.d_Remove nilP (.string p)) w λ x w' => x = .int .i64 2 /\ Fr (λ _ => False) w w':=by
 unfold F.d_Remove
 simp only [Run_bind]
 refine (find_nil p _).mono ?_
 rintro _ w1 ⟨rfl, f1⟩
 simp [-ldA_ptr, spotV, zspot]
 refine spot_mem λ x w2 hx _ f2 _ => ?_
 cases h : p.toList.isEmpty <;> simp [-ldA_ptr] <;> exact f1.trans f2 λ _ _ => id
theorem sync_nil (p : ByteArray) : Run (F.d_Sync nilP (.string p)) w λ x w' => x = .int .i64 2 /\ Fr (λ _ => False) w w':=by
 unfold F.d_Sync
 simp only [Run_bind]
 refine (find_nil p _).mono ?_
 rintro _ w1 ⟨rfl, f1⟩
 simp [-ldA_ptr, spotV, zspot]
 refine spot_mem λ x w2 hx _ f2 _ => ?_
 exact f1.trans f2 λ _ _ => id
theorem syncdir_nil (p : ByteArray) : Run (F.d_SyncDir nilP (.string p)) w λ x w' => x = .int .i64 2 /\ Fr (λ _ => False) w w':=by
 unfold F.d_SyncDir
 simp only [Run_bind]
 refine (find_nil p _).mono ?_
 rintro _ w1 ⟨rfl, f1⟩
 simp [-ldA_ptr, spotV, zspot]
 refine spot_mem λ x w2 hx _ f2 _ => ?_
 exact f1.trans f2 λ _ _ => id
theorem size_nil (p : ByteArray) : Run (F.d_Size nilP (.string p)) w λ x w' => x = .tuple #[.int .i64 0, .int .i64 2] /\ Fr (λ _ => False) w w':=by
 unfold F.d_Size
 simp only [Run_bind]
 refine (find_nil p _).mono ?_
 rintro _ w1 ⟨rfl, f1⟩
 simp [-ldA_ptr, spotV, zspot]
 refine spot_mem λ x w2 hx _ f2 _ => ?_
 exact f1.trans f2 λ _ _ => id
theorem kind_nil (p : ByteArray) : Run (F.d_Kind nilP (.string p)) w λ x w' => x = .tuple #[.int .i64 0, .int .i64 2] /\ Fr (λ _ => False) w w':=by
 unfold F.d_Kind
 simp only [Run_bind]
 refine (find_nil p _).mono ?_
 rintro _ w1 ⟨rfl, f1⟩
 simp [-ldA_ptr, spotV, zspot]
 refine spot_mem λ x w2 hx _ f2 _ => ?_
 exact f1.trans f2 λ _ _ => id
theorem list_nil (p : ByteArray) : Run (F.d_List nilP (.string p)) w λ x w' => x = .tuple #[.slice none 0 0, .int .i64 2] /\ Fr (λ _ => False) w w':=by
 unfold F.d_List
 simp only [Run_bind]
 refine (find_nil p _).mono ?_
 rintro _ w1 ⟨rfl, f1⟩
 simp [-ldA_ptr, spotV, zspot]
 refine spot_mem λ x w2 hx _ f2 _ => ?_
 exact f1.trans f2 λ _ _ => id
theorem trunc_nil (p : ByteArray) (n : Int) : Run (F.d_Truncate nilP (.string p) (.int .i64 n)) w λ x w' => x = .int .i64 2 /\ Fr (λ _ => False) w w':=by
 unfold F.d_Truncate
 simp only [Run_bind]
 refine ready_nil.mono ?_
 rintro _ _ ⟨rfl, hw⟩
 rw [hw]
 simp
 exact Fr.refl _ _
theorem rename_nil (p q : ByteArray) : Run (F.d_Rename nilP (.string p) (.string q)) w λ x w' => x = .int .i64 2 /\ Fr (λ _ => False) w w':=by
 unfold F.d_Rename
 simp only [Run_bind]
 refine ready_nil.mono ?_
 rintro _ _ ⟨rfl, hw⟩
 rw [hw]
 simp
 exact Fr.refl _ _
theorem read_nil (p : ByteArray) (a n : Int) : Run (F.d_Read nilP (.string p) (.int .i64 a) (.int .i64 n)) w λ x w' => x = .tuple #[.string E0, .int .i64 2] /\ Fr (λ _ => False) w w':=by
 unfold F.d_Read
 simp only [Run_bind]
 refine ready_nil.mono ?_
 rintro _ _ ⟨rfl, hw⟩
 rw [hw]
 simp
 exact ⟨rfl, Fr.refl _ _⟩
theorem arm_nil (n : Int) : Run (F.d_Arm nilP (.int .i64 n)) w λ x w' => x = .int .i64 2 /\ Fr (λ _ => False) w w':=by
 unfold F.d_Arm
 simp only [Run_bind]
 refine ready_nil.mono ?_
 rintro _ _ ⟨rfl, hw⟩
 rw [hw]
 simp
 exact Fr.refl _ _
theorem used_nil  : Run (F.d_Used nilP) w λ x w' => x = .int .i64 0 /\ Fr (λ _ => False) w w':=by
 unfold F.d_Used
 simp
 exact Fr.refl _ _
theorem rused_nil  : Run (F.r_Used nilP) w λ x w' => x = .int .i64 0 /\ Fr (λ _ => False) w w':=by
 unfold F.r_Used
 simp
 exact Fr.refl _ _
theorem capacity_nil  : Run (F.d_Capacity nilP) w λ x w' => x = .int .i64 0 /\ Fr (λ _ => False) w w':=by
 unfold F.d_Capacity
 simp
 exact Fr.refl _ _
theorem rcapacity_nil  : Run (F.r_Capacity nilP) w λ x w' => x = .int .i64 0 /\ Fr (λ _ => False) w w':=by
 unfold F.r_Capacity
 simp
 exact Fr.refl _ _
theorem acts_nil  : Run (F.d_Acts nilP) w λ x w' => x = .int .i64 0 /\ Fr (λ _ => False) w w':=by
 unfold F.d_Acts
 simp
 exact Fr.refl _ _
theorem racts_nil  : Run (F.r_Acts nilP) w λ x w' => x = .int .i64 0 /\ Fr (λ _ => False) w w':=by
 unfold F.r_Acts
 simp
 exact Fr.refl _ _
theorem reads_nil  : Run (F.d_Reads nilP) w λ x w' => x = .int .i64 0 /\ Fr (λ _ => False) w w':=by
 unfold F.d_Reads
 simp
 exact Fr.refl _ _
theorem rreads_nil  : Run (F.r_Reads nilP) w λ x w' => x = .int .i64 0 /\ Fr (λ _ => False) w w':=by
 unfold F.r_Reads
 simp
 exact Fr.refl _ _
theorem pending_nil  : Run (F.d_Pending nilP) w λ x w' => x = .int .i64 0 /\ Fr (λ _ => False) w w':=by
 unfold F.d_Pending
 simp
 exact Fr.refl _ _
theorem rpending_nil  : Run (F.r_Pending nilP) w λ x w' => x = .int .i64 0 /\ Fr (λ _ => False) w w':=by
 unfold F.r_Pending
 simp
 exact Fr.refl _ _
theorem down_nil  : Run (F.d_Down nilP) w λ x w' => x = .bool false /\ Fr (λ _ => False) w w':=by
 unfold F.d_Down
 simp
 exact Fr.refl _ _
theorem rdown_nil  : Run (F.r_Down nilP) w λ x w' => x = .bool false /\ Fr (λ _ => False) w w':=by
 unfold F.r_Down
 simp
 exact Fr.refl _ _
theorem dump_nil  : Run (F.d_Dump nilP) w λ x w' => x = .slice none 0 0 /\ Fr (λ _ => False) w w':=by
 unfold F.d_Dump
 simp
 exact Fr.refl _ _
theorem rdump_nil  : Run (F.r_Dump nilP) w λ x w' => x = .slice none 0 0 /\ Fr (λ _ => False) w w':=by
 unfold F.r_Dump
 simp
 exact Fr.refl _ _
theorem crash_nil (n m : Int) : Run (F.d_Crash nilP (.int .i64 n) (.int .i64 m)) w λ x w' => x = .int .i64 0 /\ Fr (λ _ => False) w w':=by
 unfold F.d_Crash
 simp
 exact Fr.refl _ _
theorem rcrash_nil (n m : Int) : Run (F.r_Crash nilP (.int .i64 n) (.int .i64 m)) w λ x w' => x = .int .i64 0 /\ Fr (λ _ => False) w w':=by
 unfold F.r_Crash
 simp
 exact Fr.refl _ _
theorem rarm_nil (n : Int) : Run (F.r_Arm nilP (.int .i64 n)) w λ x w' => x = .int .i64 2 /\ Fr (λ _ => False) w w':=by
 unfold F.r_Arm
 simp
 exact Fr.refl _ _
theorem names_nil (p : ByteArray) (b : Bool) : Run (F.r_names nilP (.string p) (.bool b)) w λ x w' => x = .tuple #[.slice none 0 0, .int .i64 2] /\ Fr (λ _ => False) w w':=by
 unfold F.r_names
 simp
 exact Fr.refl _ _
theorem at_nil (p : ByteArray) (k : Int) : Run (F.r_at nilP (.string p) (.int .i64 k)) w λ x w' => x = .tuple #[rspotV zrs, .int .i64 2] /\ Fr (λ _ => False) w w':=by
 unfold F.r_at
 simp only [Run_bind]
 refine Run_new λ x w1 hx hxw f1 hxle => ?_
 refine (names_nil p _).mono ?_
 rintro _ w2 ⟨rfl, f2⟩
 have hx' : bk w2 x = some [.int .i64 0, .string e0, .int .i64 0]:=f2.bk_some (show bk w1 x = _ from hx) id
 have hxw' : wr w2 x = true:=by rw [f2.wr (bk_lt hx) id]; exact hxw
 have back : ldA 3 (Ptr x) (sto w2 x 0 [.int .i64 0, .string ByteArray.empty, .int .i64 0]) = some (rspotV zrs):=back3 hx' rfl _ _ _
 simp [-ldA_ptr, build_z, hx', hxw']
 exact ⟨_, back, rfl, (f1.trans f2 λ _ _ => id).sto (.inr hxle) _ _⟩
theorem rappend_nil (p q : ByteArray) : Run (F.r_Append nilP (.string p) (.string q)) w λ x w' => x = .int .i64 2 /\ Fr (λ _ => False) w w':=by
 unfold F.r_Append
 simp only [Run_bind]
 refine (at_nil p _).mono ?_
 rintro _ w1 ⟨rfl, f1⟩
 simp [-ldA_ptr, rspotV, zrs]
 refine Run_newSt (cs:=#[.int .i64 0, .string e0, .int .i64 0]) rfl rfl (by simp) λ x w2 hx _ f2 _ => ?_
 exact f1.trans f2 λ _ _ => id
theorem rsync_nil (p : ByteArray) : Run (F.r_Sync nilP (.string p)) w λ x w' => x = .int .i64 2 /\ Fr (λ _ => False) w w':=by
 unfold F.r_Sync
 simp only [Run_bind]
 refine (at_nil p _).mono ?_
 rintro _ w1 ⟨rfl, f1⟩
 simp [-ldA_ptr, rspotV, zrs]
 refine Run_newSt (cs:=#[.int .i64 0, .string e0, .int .i64 0]) rfl rfl (by simp) λ x w2 hx _ f2 _ => ?_
 exact f1.trans f2 λ _ _ => id
theorem rsyncdir_nil (p : ByteArray) : Run (F.r_SyncDir nilP (.string p)) w λ x w' => x = .int .i64 2 /\ Fr (λ _ => False) w w':=by
 unfold F.r_SyncDir
 simp only [Run_bind]
 refine (at_nil p _).mono ?_
 rintro _ w1 ⟨rfl, f1⟩
 simp [-ldA_ptr, rspotV, zrs]
 refine Run_newSt (cs:=#[.int .i64 0, .string e0, .int .i64 0]) rfl rfl (by simp) λ x w2 hx _ f2 _ => ?_
 exact f1.trans f2 λ _ _ => id
theorem rsize_nil (p : ByteArray) : Run (F.r_Size nilP (.string p)) w λ x w' => x = .tuple #[.int .i64 0, .int .i64 2] /\ Fr (λ _ => False) w w':=by
 unfold F.r_Size
 simp only [Run_bind]
 refine (at_nil p _).mono ?_
 rintro _ w1 ⟨rfl, f1⟩
 simp [-ldA_ptr, rspotV, zrs]
 refine Run_newSt (cs:=#[.int .i64 0, .string e0, .int .i64 0]) rfl rfl (by simp) λ x w2 hx _ f2 _ => ?_
 exact f1.trans f2 λ _ _ => id
theorem rkind_nil (p : ByteArray) : Run (F.r_Kind nilP (.string p)) w λ x w' => x = .tuple #[.int .i64 0, .int .i64 2] /\ Fr (λ _ => False) w w':=by
 unfold F.r_Kind
 simp only [Run_bind]
 refine (at_nil p _).mono ?_
 rintro _ w1 ⟨rfl, f1⟩
 simp [-ldA_ptr, rspotV, zrs]
 refine Run_newSt (cs:=#[.int .i64 0, .string e0, .int .i64 0]) rfl rfl (by simp) λ x w2 hx _ f2 _ => ?_
 exact f1.trans f2 λ _ _ => id
theorem rlist_nil (p : ByteArray) : Run (F.r_List nilP (.string p)) w λ x w' => x = .tuple #[.slice none 0 0, .int .i64 2] /\ Fr (λ _ => False) w w':=by
 unfold F.r_List
 simp only [Run_bind]
 refine (at_nil p _).mono ?_
 rintro _ w1 ⟨rfl, f1⟩
 simp [-ldA_ptr, rspotV, zrs]
 refine Run_newSt (cs:=#[.int .i64 0, .string e0, .int .i64 0]) rfl rfl (by simp) λ x w2 hx _ f2 _ => ?_
 exact f1.trans f2 λ _ _ => id
theorem rmake_nil (p : ByteArray) (k : Int) : Run (F.r_make nilP (.string p) (.int .i64 k)) w λ x w' => x = .int .i64 2 /\ Fr (λ _ => False) w w':=by
 unfold F.r_make
 simp only [Run_bind]
 refine (names_nil p _).mono ?_
 rintro _ w1 ⟨rfl, f1⟩
 simp
 exact f1
theorem rtrunc_nil (p : ByteArray) (n : Int) : Run (F.r_Truncate nilP (.string p) (.int .i64 n)) w λ x w' => x = .int .i64 2 /\ Fr (λ _ => False) w w':=by
 unfold F.r_Truncate
 simp only [Run_bind]
 refine (names_nil p _).mono ?_
 rintro _ w1 ⟨rfl, f1⟩
 simp
 exact f1
theorem rrename_nil (p q : ByteArray) : Run (F.r_Rename nilP (.string p) (.string q)) w λ x w' => x = .int .i64 2 /\ Fr (λ _ => False) w w':=by
 unfold F.r_Rename
 simp only [Run_bind]
 refine (names_nil p _).mono ?_
 rintro _ w1 ⟨rfl, f1⟩
 simp
 exact f1
theorem rremove_nil (p : ByteArray) : Run (F.r_Remove nilP (.string p)) w λ x w' => x = .int .i64 2 /\ Fr (λ _ => False) w w':=by
 unfold F.r_Remove
 simp only [Run_bind]
 refine (names_nil p _).mono ?_
 rintro _ w1 ⟨rfl, f1⟩
 simp
 exact f1
theorem rread_nil (p : ByteArray) (a n : Int) : Run (F.r_Read nilP (.string p) (.int .i64 a) (.int .i64 n)) w λ x w' => x = .tuple #[.string E0, .int .i64 2] /\ Fr (λ _ => False) w w':=by
 unfold F.r_Read
 simp only [Run_bind]
 refine (names_nil p _).mono ?_
 rintro _ w1 ⟨rfl, f1⟩
 simp
 exact ⟨rfl, f1⟩
end
section
variable {d : Dk}
theorem act_cap (d : Dk) : d.actF.2.cap = d.cap:=by
 unfold Dk.actF
 repeat' split
 all_goals rfl
theorem do_cap (d : Dk) (c : Chg) (i : Nat) (nd : Nd) : (doF d c i nd).2.cap = d.cap:=by
 unfold doF
 split
 ·exact act_cap d
 ·exact act_cap d
theorem settle_cap (d : Dk) (i : Nat) (nd : Nd) : (settleF d i nd).2.cap = d.cap:=by
 unfold settleF
 split
 ·exact act_cap d
 ·exact act_cap d
theorem create_cap (d : Dk) (p : ByteArray) (k : Int) : (createF d p k).2.cap = d.cap:=by
 unfold createF
 split
 ·rfl
 split
 ·rfl
 split
 ·rfl
 split
 ·rfl
 exact do_cap _ _ _ _
theorem append_cap (d : Dk) (p q : ByteArray) (U : Nat) : (appendF d p q U).2.cap = d.cap:=by
 unfold appendF
 split
 ·rfl
 split
 ·rfl
 exact do_cap _ _ _ _
theorem trunc_cap (d : Dk) (p : ByteArray) (n : Int) : (truncF d p n).2.cap = d.cap:=by
 unfold truncF
 repeat' split
 all_goals first | rfl | exact do_cap _ _ _ _
theorem remove_cap (d : Dk) (p : ByteArray) : (removeX d p).2.cap = d.cap:=by
 unfold removeX removeF
 repeat' split
 all_goals first | rfl | exact do_cap _ _ _ _
theorem rename_cap (d : Dk) (p q : ByteArray) : (renameX d p q).2.cap = d.cap:=by
 unfold renameX renW
 repeat' split
 all_goals first | rfl | exact do_cap _ _ _ _
theorem sync_cap (d : Dk) (p : ByteArray) (k : Int) : (syncF d p k).2.cap = d.cap:=by
 unfold syncF
 repeat' split
 all_goals first | rfl | exact settle_cap _ _ _
theorem read_cap (d : Dk) (p : ByteArray) (a n : Int) : (readX d p a n).2.cap = d.cap:=by
 unfold readX
 repeat' split
 all_goals rfl
end
structure Pok (A Mx : Nat) (p : PS) : Prop where
 ex : ∃ dep D, GI A Mx dep p.d /\ Sim D p.d p.r
 cap : 0 <= p.d.cap /\ p.d.cap <= 1073741824
def Sok (A Mx : Nat) (s : Pls) : Prop:=∀ i p, s i = some p -> Pok A Mx p
theorem Pok.more {A Mx A' Mx' : Nat} {p : PS} (h : Pok A Mx p) (hA : A <= A') (hM : Mx <= Mx') : Pok A' Mx' p:=by
 obtain ⟨dep, D, h1, h2⟩:=h.ex
 exact ⟨⟨dep, D, h1.more hA hM, h2⟩, h.cap⟩
theorem Sok.more {A Mx A' Mx' : Nat} {s : Pls} (h : Sok A Mx s) (hA : A <= A') (hM : Mx <= Mx') : Sok A' Mx' s:=λ i p hp => (h i p hp).more hA hM
theorem Sok.upd {A Mx A' Mx' : Nat} {s : Pls} {i : Nat} {q : Option PS} (h : Sok A Mx s) (hA : A <= A') (hM : Mx <= Mx') (hq : ∀ p, q = some p -> Pok A' Mx' p) : Sok A' Mx' (updS s i q):=λ j p hp => by
 unfold updS at hp
 split at hp
 ·exact hq p hp
 ·exact (h j p hp).more hA hM
def TI (x : Value) : Prop:=∃ e : Int, x = .int .i64 e
def TB (x : Value) : Prop:=∃ b : Bool, x = .bool b
def TSI (x : Value) : Prop:=∃ (p : ByteArray) (e : Int), x = .tuple #[.string p, .int .i64 e]
def TII (x : Value) : Prop:=∃ a e : Int, x = .tuple #[.int .i64 a, .int .i64 e]
def Both (T : Value -> Prop) (A Mx : Nat) (q : Option PS) (m1 m2 : Value -> M Value) : Prop:=match q with
 | none => ∃ x : Value, T x /\ (∀ w, Run (m1 nilP) w λ y w' => y = x /\ Fr (λ _ => False) w w') /\ ∀ w, Run (m2 nilP) w λ y w' => y = x /\ Fr (λ _ => False) w w'
 | some p => ∃ (x : Value) (r' : Rk) (R : Dk -> Prop), T x /\ (∀ w v t, DA w p.b1 p.d v t -> Run (m1 (Ptr p.b1)) w λ y w' => y = x /\ ∃ d', R d' /\ DDid w w' p.b1 t d') /\ (∀ w v t, RA w p.b2 p.r v t -> Run (m2 (Ptr p.b2)) w λ y w' => y = x /\ RDid w w' p.b2 t r') /\ ∀ d', R d' -> Pok A Mx { p with d:=d', r:=r' }
section
variable {w w' w0 : World} {s : Pls} {bb i : Nat} {p : PS} {kp : List (Nat × List Value)} {A Mx A' Mx' : Nat}
theorem two_run {T : Value -> Prop} (B : BN w0 w bb s kp) (K : Sok A Mx s) (hA : A <= A') (hM : Mx <= Mx') (i : Nat) (m1 m2 : Value -> M Value) (h : Both T A' Mx' (s i) m1 m2) :
  Run (m1 (pv1 (s i))) w λ y w1 => T y /\ bk w1 bb = some (benchC s) /\ (∀ e ∈ kp, bk w1 e.1 = some e.2) /\ ∀ w2, Fr (λ _ => False) w1 w2 -> Run (m2 (pv2 (s i))) w2 λ z w3 => z = y /\ ∃ s', BN w0 w3 bb s' kp /\ Sok A' Mx' s':=by
 cases hs : s i with
 | none =>
  rw [hs] at h
  obtain ⟨x, hT, h1, h2⟩:=h
  refine (h1 w).mono ?_
  rintro _ w1 ⟨rfl, f1⟩
  have B1:=B.fr0 f1
  refine ⟨hT, B1.blk, λ e he => B1.kept he, λ w2 f2 => (h2 w2).mono ?_⟩
  rintro _ w3 ⟨rfl, f3⟩
  exact ⟨rfl, s, (B1.fr0 f2).fr0 f3, K.more hA hM⟩
 | some p =>
  rw [hs] at h
  obtain ⟨x, r', R, hT, h1, h2, h3⟩:=h
  refine (B.own hs (R:=λ y d' => y = x /\ R d') λ v t hd => (h1 w v t hd).mono λ y w' ⟨e, d', a, b⟩ => ⟨d', ⟨e, a⟩, b⟩).mono ?_
  rintro y0 w1 ⟨d', ⟨e0', hr⟩, B1⟩
  refine ⟨by rw [e0']; exact hT, by rw [B1.blk, bench_same (q:={ p with d:=d' }) hs rfl rfl], λ e he => B1.kept he, λ w2 f2 => ?_⟩
  refine ((B1.fr0 f2).ref (p:={ p with d:=d' }) (i:=i) (by simp) (R:=λ y r'' => y = x /\ r'' = r') λ v t hd => (h2 w2 v t hd).mono λ y w' ⟨e, b⟩ => ⟨r', ⟨e, rfl⟩, b⟩).mono ?_
  rintro z w3 ⟨_, ⟨e3, rfl⟩, B3⟩
  rw [updS_twice] at B3
  exact ⟨e3.trans e0'.symm, _, B3, K.upd hA hM λ q hq => by
   cases hq
   exact h3 d' hr⟩
theorem Pok.small (h : Pok A Mx p) (hA : A <= 1048576) (hM : Mx <= 1048576) : p.d.pending.length <= 1048576 /\ p.d.nodes.length <= 1048576 /\ p.r.line.length <= 1048576 /\ p.r.things.length <= 1048576 /\ RGood p.r /\ Good p.d /\ ∀ nd ∈ p.d.nodes, nd.seen.size <= 2305843009213693952:=by
 obtain ⟨dep, D, hI, S⟩:=h.ex
 have h1:=hI.plen
 have h2:=hI.len
 have h3:=S.len
 have h4 : p.r.line.length = p.d.pending.length:=by rw [S.line, List.length_map]
 exact ⟨by omega, by omega, by omega, by omega, sim_good S hI (by omega) (by omega), hI.good, hI.small (by omega)⟩
theorem both_make (K : ∀ p, s i = some p -> Pok A Mx p) (hA : A <= 1048576) (hM : Mx <= 1048576) {path : ByteArray} (hs : path.size <= 1048576) (k : Int) (hk : k = 1 ∨ k = 2) :
  Both TI A (Mx + 2) (s i) (λ v => F.d_add v (.string path) (.int .i64 k)) (λ v => F.r_make v (.string path) (.int .i64 k)):=by
 cases h : s i with
 | none => exact ⟨_, ⟨_, rfl⟩, λ w => add_nil path k, λ w => rmake_nil path k⟩
 | some p =>
  have P:=K p h
  obtain ⟨z1, z2, z3, z4, g, g', _⟩:=P.small hA hM
  obtain ⟨dep, D, hI, S⟩:=P.ex
  refine ⟨.int .i64 (createF p.d path k).1, (rmakeF p.r path k).2, (· = (createF p.d path k).2), ⟨_, rfl⟩, λ w v t hd => ?_, λ w v t hd => ?_, ?_⟩
  ·exact (create_run hd g' (by omega) k (by omega) (by omega)).mono λ y w' ⟨e, b⟩ => ⟨e, _, rfl, b⟩
  ·exact (rmake_run hd g (by omega) k (by omega) (by omega)).mono λ y w' ⟨e, b⟩ => ⟨by rw [e, sim_make1 S hI], b⟩
  ·rintro _ rfl
   obtain ⟨dep', t⟩:=gi_create hI path hk
   exact ⟨⟨dep', D, t, sim_make S hI path k⟩, by simp only; rw [create_cap]; exact P.cap⟩
theorem wsum_le {A B : Nat} {dep : Int -> Nat} {D : Int -> Prop} {d : Dk} {r : Rk} (S : Sim D d r) (hI : GI A B dep d) : wsum r 9 0 <= B * A:=by
 obtain ⟨h1, h2⟩:=vis_keys S hI
 rw [wsum_vis r 9 0 []]
 have hl : ((visP r 9 0 []).map (·.2)).length <= B:=by
  have q:=pigeon ((visP r 9 0 []).map (·.2)) ((List.range d.nodes.length).map λ n : Nat => (n : Int)) h1 λ x hx => by
   obtain ⟨s, hs⟩:=(h2 x).1 hx
   have:=hI.pseen.rng _ _ hs
   exact List.mem_map.2 ⟨x.toNat, List.mem_range.2 (by omega), by omega⟩
  have:=hI.len
  simp only [List.length_map, List.length_range] at q ⊢
  omega
 have hb : ∀ v ∈ visP r 9 0 [], (r.th v.2).seen.data.size <= A:=λ v hv => by
  obtain ⟨s, hs⟩:=(h2 v.2).1 (List.mem_map.2 ⟨v, hv, rfl⟩)
  rw [sim_data S hI hs]
  have hr:=hI.pseen.rng _ _ hs
  exact (hI.node v.2.toNat _ (nd_some (by omega) hr.2)).seen
 rw [List.length_map] at hl
 have key : ∀ l : List (List ByteArray × Int), (∀ v ∈ l, (r.th v.2).seen.data.size <= A) -> (l.map λ v => (r.th v.2).seen.data.size).sum <= l.length * A:=by
  intro l
  induction l with
  | nil => intro _; simp
  | cons v l ih =>
   intro h
   have h1:=h v (by simp)
   have h2:=ih λ y hy => h y (List.mem_cons_of_mem _ hy)
   simp only [List.map_cons, List.sum_cons, List.length_cons, Nat.add_mul]
   omega
 exact Nat.le_trans (key _ hb) (Nat.mul_le_mul_right _ hl)
theorem Pok.sum (h : Pok A Mx p) (hA : A <= 1048576) (hM : Mx <= 1048576) : wsum p.r 9 0 <= 2305843009213693952 /\ Deep p.r 9 0 /\ (∀ ls, (ls.map (·.1)).Nodup -> Eqm ls p.d.seen -> sumF p.d ls = wsum p.r 9 0) /\ ∀ t ∈ p.r.things, SdOk p.r.things.length t.seen:=by
 obtain ⟨dep, D, hI, S⟩:=h.ex
 have h1:=wsum_le S hI
 have h2 : Mx * A <= 1048576 * 1048576:=Nat.mul_le_mul hM hA
 exact ⟨by omega, sim_deep S hI, λ ls a b => (sim_used S hI a b).symm, sim_seenOk S hI (by omega) (by omega)⟩
theorem both_append (K : ∀ p, s i = some p -> Pok A Mx p) (hA : A <= 1048576) (hM : Mx <= 1048576) {path q : ByteArray} (hs : path.size <= 1048576) (hq : q.size <= 1048576) :
  Both TI (A + q.size) (Mx + 2) (s i) (λ v => F.d_Append v (.string path) (.string q)) (λ v => F.r_Append v (.string path) (.string q)):=by
 cases h : s i with
 | none => exact ⟨_, ⟨_, rfl⟩, λ w => append_nil path q, λ w => rappend_nil path q⟩
 | some p =>
  have P:=K p h
  obtain ⟨z1, z2, z3, z4, g, g', hns⟩:=P.small hA hM
  obtain ⟨u1, u2, u3, u4⟩:=P.sum hA hM
  obtain ⟨dep, D, hI, S⟩:=P.ex
  obtain ⟨q1, q2⟩:=sim_append S hI path q (wsum p.r 9 0)
  have hcap:=P.cap
  have hrc : p.r.cap = p.d.cap:=S.cap
  refine ⟨.int .i64 (appendF p.d path q (wsum p.r 9 0)).1, (rappendF p.r path q (wsum p.r 9 0)).2, λ d' => ∃ ls, (ls.map (·.1)).Nodup /\ Eqm ls p.d.seen /\ d' = (appendF p.d path q (sumF p.d ls)).2, ⟨_, rfl⟩, λ w v t hd => ?_, λ w v t hd => ?_, ?_⟩
  ·refine (append_run hd g' (λ s k hk => by have:=(hI.pseen.rng s k hk).1; omega) (by omega) (by omega) (λ ls a b => by rw [u3 ls a b]; exact u1) hns (by omega)).mono ?_
   rintro y w' ⟨ls, a, b, e, c⟩
   exact ⟨by rw [e, u3 ls a b], _, ⟨ls, a, b, rfl⟩, c⟩
  ·refine (rappend_run hd g (by omega) u2 u1 (by omega) (by omega) (λ t ht => (u4 t ht).data) (by omega) (by omega)).mono ?_
   rintro y w' ⟨e, b⟩
   exact ⟨by rw [e, q1], b⟩
  ·rintro _ ⟨ls, a, b, rfl⟩
   rw [u3 ls a b]
   have o : Dop:=⟨3, 0, 0, 0, path, q⟩
   obtain ⟨⟨dep', t⟩, _⟩:=ActR.gi (o:=⟨3, 0, 0, 0, path, q⟩) (e:=(appendF p.d path q (sumF p.d ls)).1) (d':=(appendF p.d path q (sumF p.d ls)).2) hI (by omega) hq ⟨_, ⟨ls, a, b, rfl⟩, rfl⟩
   rw [u3 ls a b] at t
   exact ⟨⟨dep', D, t, q2⟩, by simp only; rw [append_cap]; exact hcap⟩
theorem both_trunc (K : ∀ p, s i = some p -> Pok A Mx p) (hA : A <= 1048576) (hM : Mx <= 1048576) {path : ByteArray} (hs : path.size <= 1048576) (n : Int) :
  Both TI A (Mx + 2) (s i) (λ v => F.d_Truncate v (.string path) (.int .i64 n)) (λ v => F.r_Truncate v (.string path) (.int .i64 n)):=by
 cases h : s i with
 | none => exact ⟨_, ⟨_, rfl⟩, λ w => trunc_nil path n, λ w => rtrunc_nil path n⟩
 | some p =>
  have P:=K p h
  obtain ⟨z1, z2, z3, z4, g, g', hns⟩:=P.small hA hM
  obtain ⟨dep, D, hI, S⟩:=P.ex
  obtain ⟨q1, q2⟩:=sim_trunc S hI path n
  refine ⟨.int .i64 (truncF p.d path n).1, (rtruncF p.r path n).2, (· = (truncF p.d path n).2), ⟨_, rfl⟩, λ w v t hd => ?_, λ w v t hd => ?_, ?_⟩
  ·exact (trunc_run hd g' (by omega) n hns (by omega)).mono λ y w' ⟨e, b⟩ => ⟨e, _, rfl, b⟩
  ·exact (rtrunc_run hd g (by omega) n (by omega)).mono λ y w' ⟨e, b⟩ => ⟨by rw [e, q1], b⟩
  ·rintro _ rfl
   obtain ⟨⟨dep', t⟩, _⟩:=ActR.gi (o:=⟨4, 0, n, 0, path, e0⟩) (e:=(truncF p.d path n).1) (d':=(truncF p.d path n).2) hI (by omega) (by show (0 : Nat) <= _; omega) rfl
   exact ⟨⟨dep', D, t, q2⟩, by simp only; rw [trunc_cap]; exact P.cap⟩
theorem both_rename (K : ∀ p, s i = some p -> Pok A Mx p) (hA : A <= 1048576) (hM : Mx <= 1048576) {path q : ByteArray} (hs : path.size <= 1048576) (hq : q.size <= 1048576) :
  Both TI A (Mx + 2) (s i) (λ v => F.d_Rename v (.string path) (.string q)) (λ v => F.r_Rename v (.string path) (.string q)):=by
 cases h : s i with
 | none => exact ⟨_, ⟨_, rfl⟩, λ w => rename_nil path q, λ w => rrename_nil path q⟩
 | some p =>
  have P:=K p h
  obtain ⟨z1, z2, z3, z4, g, g', hns⟩:=P.small hA hM
  obtain ⟨dep, D, hI, S⟩:=P.ex
  obtain ⟨q1, q2⟩:=sim_rename S hI path q
  refine ⟨.int .i64 (renameX p.d path q).1, (rrenameF p.r path q).2, (· = (renameX p.d path q).2), ⟨_, rfl⟩, λ w v t hd => ?_, λ w v t hd => ?_, ?_⟩
  ·exact (rename3_run hd g' hI.k0 (by omega) (by omega) (by omega)).mono λ y w' ⟨e, b⟩ => ⟨e, _, rfl, b⟩
  ·exact (rrename_run hd g (by omega) (by omega) (by omega)).mono λ y w' ⟨e, b⟩ => ⟨by rw [e, q1], b⟩
  ·rintro _ rfl
   exact ⟨⟨dep, D, (gi_rename hI path q).more (Nat.le_refl _) (by omega), q2⟩, by simp only; rw [rename_cap]; exact P.cap⟩
theorem both_remove (K : ∀ p, s i = some p -> Pok A Mx p) (hA : A <= 1048576) (hM : Mx <= 1048576) {path : ByteArray} (hs : path.size <= 1048576) :
  Both TI A (Mx + 2) (s i) (λ v => F.d_Remove v (.string path)) (λ v => F.r_Remove v (.string path)):=by
 cases h : s i with
 | none => exact ⟨_, ⟨_, rfl⟩, λ w => remove_nil path, λ w => rremove_nil path⟩
 | some p =>
  have P:=K p h
  obtain ⟨z1, z2, z3, z4, g, g', hns⟩:=P.small hA hM
  obtain ⟨dep, D, hI, S⟩:=P.ex
  refine ⟨.int .i64 (removeX p.d path).1, (rremoveF p.r path).2, (· = (removeX p.d path).2), ⟨_, rfl⟩, λ w v t hd => ?_, λ w v t hd => ?_, ?_⟩
  ·exact (remove3_run hd g' (by omega) (by omega)).mono λ y w' ⟨e, b⟩ => ⟨e, _, rfl, b⟩
  ·exact (rremove_run hd g (by omega) (by omega)).mono λ y w' ⟨e, b⟩ => ⟨by rw [e, sim_remove1 S hI g], b⟩
  ·rintro _ rfl
   exact ⟨⟨dep, D, (gi_remove hI path).more (Nat.le_refl _) (by omega), sim_remove S hI g path⟩, by simp only; rw [remove_cap]; exact P.cap⟩
theorem both_sync (K : ∀ p, s i = some p -> Pok A Mx p) (hA : A <= 1048576) (hM : Mx <= 1048576) {path : ByteArray} (hs : path.size <= 1048576) :
  Both TI A (Mx + 2) (s i) (λ v => F.d_Sync v (.string path)) (λ v => F.r_Sync v (.string path)):=by
 cases h : s i with
 | none => exact ⟨_, ⟨_, rfl⟩, λ w => sync_nil path, λ w => rsync_nil path⟩
 | some p =>
  have P:=K p h
  obtain ⟨z1, z2, z3, z4, g, g', hns⟩:=P.small hA hM
  obtain ⟨dep, D, hI, S⟩:=P.ex
  obtain ⟨q0, q1, q2⟩:=sim_sync S hI (by omega) path 2
  refine ⟨.int .i64 (syncF p.d path 2).1, (rsyncF p.r path 2).2, (· = (syncF p.d path 2).2), ⟨_, rfl⟩, λ w v t hd => ?_, λ w v t hd => ?_, ?_⟩
  ·exact (sync_run hd g' (by omega) hI.fold (by omega)).mono λ y w' ⟨e, b⟩ => ⟨e, _, rfl, b⟩
  ·exact (rsync_run hd g (by omega) (by omega) q0).mono λ y w' ⟨e, b⟩ => ⟨by rw [e, q1], b⟩
  ·rintro _ rfl
   exact ⟨⟨dep, D, (gi_sync hI path 2).more (Nat.le_refl _) (by omega), q2⟩, by simp only; rw [sync_cap]; exact P.cap⟩
theorem both_syncdir (K : ∀ p, s i = some p -> Pok A Mx p) (hA : A <= 1048576) (hM : Mx <= 1048576) {path : ByteArray} (hs : path.size <= 1048576) :
  Both TI A (Mx + 2) (s i) (λ v => F.d_SyncDir v (.string path)) (λ v => F.r_SyncDir v (.string path)):=by
 cases h : s i with
 | none => exact ⟨_, ⟨_, rfl⟩, λ w => syncdir_nil path, λ w => rsyncdir_nil path⟩
 | some p =>
  have P:=K p h
  obtain ⟨z1, z2, z3, z4, g, g', hns⟩:=P.small hA hM
  obtain ⟨dep, D, hI, S⟩:=P.ex
  obtain ⟨q0, q1, q2⟩:=sim_sync S hI (by omega) path 1
  refine ⟨.int .i64 (syncF p.d path 1).1, (rsyncF p.r path 1).2, (· = (syncF p.d path 1).2), ⟨_, rfl⟩, λ w v t hd => ?_, λ w v t hd => ?_, ?_⟩
  ·exact (syncdir_run hd g' (by omega) hI.fold (by omega)).mono λ y w' ⟨e, b⟩ => ⟨e, _, rfl, b⟩
  ·exact (rsyncdir_run hd g (by omega) (by omega) q0).mono λ y w' ⟨e, b⟩ => ⟨by rw [e, q1], b⟩
  ·rintro _ rfl
   exact ⟨⟨dep, D, (gi_sync hI path 1).more (Nat.le_refl _) (by omega), q2⟩, by simp only; rw [sync_cap]; exact P.cap⟩
theorem both_read (K : ∀ p, s i = some p -> Pok A Mx p) (hA : A <= 1048576) (hM : Mx <= 1048576) {path : ByteArray} (hs : path.size <= 1048576) (a n : Int) :
  Both TSI A (Mx + 2) (s i) (λ v => F.d_Read v (.string path) (.int .i64 a) (.int .i64 n)) (λ v => F.r_Read v (.string path) (.int .i64 a) (.int .i64 n)):=by
 cases h : s i with
 | none => exact ⟨_, ⟨_, _, rfl⟩, λ w => read_nil path a n, λ w => rread_nil path a n⟩
 | some p =>
  have P:=K p h
  obtain ⟨z1, z2, z3, z4, g, g', hns⟩:=P.small hA hM
  obtain ⟨u1, u2, u3, u4⟩:=P.sum hA hM
  obtain ⟨dep, D, hI, S⟩:=P.ex
  obtain ⟨q1, q2⟩:=sim_read S hI path a n
  refine ⟨.tuple #[.string (readX p.d path a n).1.1, .int .i64 (readX p.d path a n).1.2], (rreadF p.r path a n).2, (· = (readX p.d path a n).2), ⟨_, _, rfl⟩, λ w v t hd => ?_, λ w v t hd => ?_, ?_⟩
  ·exact (read2_run hd g' (by omega) a n hns).mono λ y w' ⟨e, b⟩ => ⟨e, _, rfl, b⟩
  ·exact (rread_run hd g (by omega) a n (λ t ht => by have:=(u4 t ht).data; omega)).mono λ y w' ⟨e, b⟩ => ⟨by rw [e, q1], b⟩
  ·rintro _ rfl
   refine ⟨⟨dep, D, ?_, q2⟩, by simp only; rw [read_cap]; exact P.cap⟩
   unfold readX
   repeat' split
   all_goals exact hI.congr rfl rfl rfl rfl (Nat.le_refl _) (by omega)
theorem both_same {T : Value -> Prop} (K : ∀ p, s i = some p -> Pok A Mx p) (m1 m2 : Value -> M Value) (hn : ∃ x : Value, T x /\ (∀ w, Run (m1 nilP) w λ y w' => y = x /\ Fr (λ _ => False) w w') /\ ∀ w, Run (m2 nilP) w λ y w' => y = x /\ Fr (λ _ => False) w w')
  (h : ∀ p, s i = some p -> Pok A Mx p -> ∃ x : Value, T x /\ (∀ w v t, DA w p.b1 p.d v t -> Run (m1 (Ptr p.b1)) w λ y w' => y = x /\ Fr (λ _ => False) w w') /\ ∀ w v t, RA w p.b2 p.r v t -> Run (m2 (Ptr p.b2)) w λ y w' => y = x /\ Fr (λ _ => False) w w') : Both T A (Mx + 2) (s i) m1 m2:=by
 cases hs : s i with
 | none => exact hn
 | some p =>
  have P:=K p hs
  obtain ⟨x, hT, h1, h2⟩:=h p hs P
  refine ⟨x, p.r, (· = p.d), hT, λ w v t hd => ?_, λ w v t hd => ?_, ?_⟩
  ·exact (h1 w v t hd).mono λ y w' ⟨e, f⟩ => ⟨e, _, rfl, (hd.fr0 f).did (f.mono λ _ h => h.elim)⟩
  ·exact (h2 w v t hd).mono λ y w' ⟨e, f⟩ => ⟨e, (hd.fr0 f).did (f.mono λ _ h => h.elim)⟩
  ·rintro _ rfl
   exact P.more (Nat.le_refl _) (by omega)
theorem both_size (K : ∀ p, s i = some p -> Pok A Mx p) (hA : A <= 1048576) (hM : Mx <= 1048576) {path : ByteArray} (hs : path.size <= 1048576) :
  Both TII A (Mx + 2) (s i) (λ v => F.d_Size v (.string path)) (λ v => F.r_Size v (.string path)) :=
 both_same K _ _ ⟨_, ⟨_, _, rfl⟩, λ w => size_nil path, λ w => rsize_nil path⟩ λ p hp P => by
  obtain ⟨z1, z2, z3, z4, g, g', hns⟩:=P.small hA hM
  obtain ⟨dep, D, hI, S⟩:=P.ex
  exact ⟨_, ⟨_, _, rfl⟩, λ w v t hd => size_run hd g' (by omega), λ w v t hd => by rw [<- sim_size S hI]; exact rsize_run hd g (by omega)⟩
theorem both_kind (K : ∀ p, s i = some p -> Pok A Mx p) (hA : A <= 1048576) (hM : Mx <= 1048576) {path : ByteArray} (hs : path.size <= 1048576) :
  Both TII A (Mx + 2) (s i) (λ v => F.d_Kind v (.string path)) (λ v => F.r_Kind v (.string path)) :=
 both_same K _ _ ⟨_, ⟨_, _, rfl⟩, λ w => kind_nil path, λ w => rkind_nil path⟩ λ p hp P => by
  obtain ⟨z1, z2, z3, z4, g, g', hns⟩:=P.small hA hM
  obtain ⟨dep, D, hI, S⟩:=P.ex
  exact ⟨_, ⟨_, _, rfl⟩, λ w v t hd => kind_run hd g' (by omega), λ w v t hd => by rw [<- sim_kind S hI]; exact rkind_run hd g (by omega)⟩
theorem both_used (K : ∀ p, s i = some p -> Pok A Mx p) (hA : A <= 1048576) (hM : Mx <= 1048576) : Both TI A (Mx + 2) (s i) F.d_Used F.r_Used :=
 both_same K _ _ ⟨_, ⟨_, rfl⟩, λ w => used_nil, λ w => rused_nil⟩ λ p hp P => by
  obtain ⟨z1, z2, z3, z4, g, g', hns⟩:=P.small hA hM
  obtain ⟨u1, u2, u3, u4⟩:=P.sum hA hM
  obtain ⟨dep, D, hI, S⟩:=P.ex
  refine ⟨_, ⟨_, rfl⟩, λ w v t hd => ?_, λ w v t hd => rused_run hd g u2⟩
  refine (used2_run hd hI).mono ?_
  rintro _ w' ⟨U, rfl, ⟨ls, a, b, rfl⟩, f⟩
  exact ⟨by rw [u3 ls a b], f⟩
theorem both_capacity (K : ∀ p, s i = some p -> Pok A Mx p) : Both TI A (Mx + 2) (s i) F.d_Capacity F.r_Capacity :=
 both_same K _ _ ⟨_, ⟨_, rfl⟩, λ w => capacity_nil, λ w => rcapacity_nil⟩ λ p hp P => by
  obtain ⟨dep, D, hI, S⟩:=P.ex
  refine ⟨.int .i64 p.d.cap, ⟨_, rfl⟩, λ w v t hd => ?_, λ w v t hd => (rcounts_run hd).1 ⟨by rw [S.cap], Fr.refl _ _⟩⟩
  unfold F.d_Capacity
  have hb:=hd.blk
  simp [hb, Dk.cells]
  exact Fr.refl _ _
theorem both_acts (K : ∀ p, s i = some p -> Pok A Mx p) : Both TI A (Mx + 2) (s i) F.d_Acts F.r_Acts :=
 both_same K _ _ ⟨_, ⟨_, rfl⟩, λ w => acts_nil, λ w => racts_nil⟩ λ p hp P => by
  obtain ⟨dep, D, hI, S⟩:=P.ex
  exact ⟨.int .i64 p.d.acts, ⟨_, rfl⟩, λ w v t hd => (acts_run hd).mono λ y w' ⟨e, f⟩ => ⟨e, by rw [f]; exact Fr.refl _ _⟩, λ w v t hd => (rcounts_run hd).2.1 ⟨by rw [S.acts], Fr.refl _ _⟩⟩
theorem both_reads (K : ∀ p, s i = some p -> Pok A Mx p) : Both TI A (Mx + 2) (s i) F.d_Reads F.r_Reads :=
 both_same K _ _ ⟨_, ⟨_, rfl⟩, λ w => reads_nil, λ w => rreads_nil⟩ λ p hp P => by
  obtain ⟨dep, D, hI, S⟩:=P.ex
  exact ⟨.int .i64 p.d.reads, ⟨_, rfl⟩, λ w v t hd => (reads_run hd).mono λ y w' ⟨e, f⟩ => ⟨e, by rw [f]; exact Fr.refl _ _⟩, λ w v t hd => (rcounts_run hd).2.2.1 ⟨by rw [S.reads], Fr.refl _ _⟩⟩
theorem both_pending (K : ∀ p, s i = some p -> Pok A Mx p) : Both TI A (Mx + 2) (s i) F.d_Pending F.r_Pending :=
 both_same K _ _ ⟨_, ⟨_, rfl⟩, λ w => pending_nil, λ w => rpending_nil⟩ λ p hp P => by
  obtain ⟨dep, D, hI, S⟩:=P.ex
  exact ⟨.int .i64 p.d.pending.length, ⟨_, rfl⟩, λ w v t hd => (pending_run hd).mono λ y w' ⟨e, f⟩ => ⟨e, by rw [f]; exact Fr.refl _ _⟩, λ w v t hd => (rcounts_run hd).2.2.2.1 ⟨by rw [S.line, List.length_map], Fr.refl _ _⟩⟩
theorem both_down (K : ∀ p, s i = some p -> Pok A Mx p) : Both TB A (Mx + 2) (s i) F.d_Down F.r_Down :=
 both_same K _ _ ⟨_, ⟨_, rfl⟩, λ w => down_nil, λ w => rdown_nil⟩ λ p hp P => by
  obtain ⟨dep, D, hI, S⟩:=P.ex
  refine ⟨.bool p.d.down, ⟨_, rfl⟩, λ w v t hd => ?_, λ w v t hd => (rcounts_run hd).2.2.2.2 ⟨by rw [S.down], Fr.refl _ _⟩⟩
  unfold F.d_Down
  have hb:=hd.blk
  simp [hb, Dk.cells]
  exact Fr.refl _ _
theorem both_arm (K : ∀ p, s i = some p -> Pok A Mx p) (n : Int) (hn : n <= 9223372036854775807) : Both TI A (Mx + 2) (s i) (λ v => F.d_Arm v (.int .i64 n)) (λ v => F.r_Arm v (.int .i64 n)):=by
 cases h : s i with
 | none => exact ⟨_, ⟨_, rfl⟩, λ w => arm_nil n, λ w => rarm_nil n⟩
 | some p =>
  have P:=K p h
  obtain ⟨dep, D, hI, S⟩:=P.ex
  cases hdn : p.d.down with
  | true =>
   have e : rarmF p.r n = (10, p.r):=by unfold rarmF; rw [if_pos (by rw [S.down, hdn])]
   refine ⟨.int .i64 10, p.r, (· = p.d), ⟨_, rfl⟩, λ w v t hd => ?_, λ w v t hd => ?_, ?_⟩
   ·refine (arm_run hd n).mono ?_
    rintro y w' (⟨_, e, rfl⟩ | ⟨h1, _⟩)
    ·exact ⟨e, _, rfl, hd.did (Fr.refl _ _)⟩
    ·rw [hdn] at h1; cases h1
   ·have:=rarm_run hd n
    rw [e] at this
    exact this
   ·rintro _ rfl
    exact P.more (Nat.le_refl _) (by omega)
  | false =>
   obtain ⟨q1, q2⟩:=sim_arm S n hn rfl hdn
   refine ⟨.int .i64 0, (rarmF p.r n).2, (· = { p.d with armed:=decide (0 <= n), left:=n }), ⟨_, rfl⟩, λ w v t hd => ?_, λ w v t hd => ?_, ?_⟩
   ·refine (arm_run hd n).mono ?_
    rintro y w' (⟨h1, _⟩ | ⟨_, e, b⟩)
    ·rw [hdn] at h1; cases h1
    ·exact ⟨e, _, rfl, b⟩
   ·refine (rarm_run hd n).mono ?_
    rintro y w' ⟨e, b⟩
    exact ⟨by rw [e, q1], b⟩
   ·rintro _ rfl
    exact ⟨⟨dep, D, hI.congr rfl rfl rfl rfl (Nat.le_refl _) (by omega), q2⟩, P.cap⟩
theorem both_crash (K : ∀ p, s i = some p -> Pok A Mx p) (hA : A <= 1048576) (hM : Mx <= 1048576) (n m : Int) : Both TI A (Mx + 2) (s i) (λ v => F.d_Crash v (.int .i64 n) (.int .i64 m)) (λ v => F.r_Crash v (.int .i64 n) (.int .i64 m)):=by
 cases h : s i with
 | none => exact ⟨_, ⟨_, rfl⟩, λ w => crash_nil n m, λ w => rcrash_nil n m⟩
 | some p =>
  have P:=K p h
  obtain ⟨z1, z2, z3, z4, g, g', hns⟩:=P.small hA hM
  obtain ⟨dep, D, hI, S⟩:=P.ex
  obtain ⟨c1, c2, c3⟩:=hI.crash n m (by omega)
  refine ⟨.int .i64 ((p.d.pending.length : Int) - (clampN n p.d.pending.length : Nat)), (rcrashF p.r n m).2, λ d' => GI A Mx dep d' /\ Crashed p.d n m d', ⟨_, rfl⟩, λ w v t hd => ?_, λ w v t hd => ?_, ?_⟩
  ·refine (crash2_run hd (by omega) c1 (by omega) c2).mono ?_
   rintro y w' ⟨e, d', hr, b⟩
   exact ⟨e, d', c3 d' hr, b⟩
  ·obtain ⟨q1, q2⟩:=sim_crash_fits S hI (by omega) (by omega) (keep:=n) (torn:=m)
   exact (rcrash_run hd q1 (by omega) (by omega)).mono λ y w' ⟨e, b⟩ => ⟨by rw [e, q2], b⟩
  ·rintro d' ⟨gi, cr⟩
   obtain ⟨D', S'⟩:=sim_crash S hI (by omega) (by omega) cr gi
   exact ⟨⟨dep, D', gi.more (Nat.le_refl _) (by omega), S'⟩, by simp only; rw [cr.same.1]; exact P.cap⟩
end
section
variable {w w' w0 : World} {s : Pls} {bb i : Nat} {p : PS} {kp : List (Nat × List Value)} {A B : Nat}
theorem own_ld {α : Type} {rest : Value -> M α} {Q : α -> World -> Prop} (hb : bk w bb = some (benchC s)) (n : Int) (h : Run (rest (pv1 (s (n % 2).toNat))) w Q) :
  Run (bindO (nilChk (Ptr bb)) λ x5 => bindO (fieldA 0 x5) λ x6 => bindO (idxR 2 1 x6 (.int .i64 (n % 2))) λ x7 => M.bind (rdM (ld1 x7)) rest) w Q:=by
 have : n % 2 = 0 ∨ n % 2 = 1:=by omega
 rcases this with e | e <;> rw [e] at h ⊢ <;> simp [-ldA_ptr, hb, idxR, Addr.add_lit, benchC] <;> exact h
theorem ref_ld {α : Type} {rest : Value -> M α} {Q : α -> World -> Prop} (hb : bk w bb = some (benchC s)) (n : Int) (h : Run (rest (pv2 (s (n % 2).toNat))) w Q) :
  Run (bindO (nilChk (Ptr bb)) λ x5 => bindO (fieldA 2 x5) λ x6 => bindO (idxR 2 1 x6 (.int .i64 (n % 2))) λ x7 => M.bind (rdM (ld1 x7)) rest) w Q:=by
 have : n % 2 = 0 ∨ n % 2 = 1:=by omega
 rcases this with e | e <;> rw [e] at h ⊢ <;> simp [-ldA_ptr, hb, idxR, Addr.add_lit, benchC] <;> exact h
theorem fld_ld {α : Type} {rest : Value -> M α} {Q : α -> World -> Prop} {x k : Nat} {l : List Value} {v : Value} (hx : bk w x = some l) (hk : l[k]? = some v) (h : Run (rest v) w Q) :
  Run (bindO (fieldA k (Ptr x)) λ a => M.bind (rdM (ld1 a)) rest) w Q:=by
 simp [-ldA_ptr, hx, hk]
 exact h
theorem kind_yes {α : Type} {a b : M α} {Q : α -> World -> Prop} {k c : Int} (h : k = c) (q : Run a w Q) : Run (bindO (binV BinOp.eql (.int .i64 k) (.int .i64 c)) λ x => condM x a b) w Q:=by
 simp [h]; exact q
theorem kind_no {α : Type} {a b : M α} {Q : α -> World -> Prop} {k c : Int} (h : k ≠ c) (q : Run b w Q) : Run (bindO (binV BinOp.eql (.int .i64 k) (.int .i64 c)) λ x => condM x a b) w Q:=by
 simp [h]; exact q
theorem rmkdirG (a p : Value) {Q : Value -> World -> Prop} : Run (F.r_Mkdir a p) w Q ↔ Run (F.r_make a p (.int .i64 1)) w Q:=by
 unfold F.r_Mkdir
 simp
theorem rcreateG (a p : Value) {Q : Value -> World -> Prop} : Run (F.r_Create a p) w Q ↔ Run (F.r_make a p (.int .i64 2)) w Q:=by
 unfold F.r_Create
 simp
theorem head_run {a : Nat} {o : Dop} {rest : Nat -> Value -> Value -> M Value} {Q : Value -> World -> Prop} (N : BN w0 w bb s kp)
  (h : ∀ x w1, BN w0 w1 bb s ((x, o.cells) :: kp) -> w.heap.size <= x -> Run (rest x (pv1 (s (o.pos % 2).toNat)) (pv2 (s (o.pos % 2).toNat))) w1 Q) (r2 : Value -> Value -> Value -> M Value) (hr : ∀ x v1 v2, r2 (Ptr x) v1 v2 = rest x v1 v2) :
  Run (M.bind (newM a (Value.cells o.val)) λ x1 => drewM <| bindO (fieldA 1 x1) λ x2 => M.bind (rdM (ld1 x2)) λ x3 => M.bind (F.l_place x3) λ x4 =>
   bindO (nilChk (Ptr bb)) λ x5 => bindO (fieldA 0 x5) λ x6 => bindO (idxR 2 1 x6 x4) λ x7 => M.bind (rdM (ld1 x7)) λ x8 =>
   drewM <| bindO (fieldA 1 x1) λ x9 => M.bind (rdM (ld1 x9)) λ x10 => M.bind (F.l_place x10) λ x11 =>
   bindO (nilChk (Ptr bb)) λ x12 => bindO (fieldA 2 x12) λ x13 => bindO (idxR 2 1 x13 x11) λ x14 => M.bind (rdM (ld1 x14)) λ x15 => r2 x1 x8 x15) w Q:=by
 rw [Run_bind]
 refine Run_new λ x w1 hx hxw f1 hxle => ?_
 have N1 : BN w0 w1 bb s ((x, o.cells) :: kp):=N.new f1 (by simpa [Dop.val] using hx) hxw hxle
 refine Run_drw λ w2 f2 => ?_
 have N2:=N1.fr0 f2
 refine fld_ld (N2.kept (c:=x) (l:=o.cells) (by simp)) (k:=1) rfl ?_
 rw [Run_bind]
 refine place_run o.pos ?_
 refine own_ld N2.blk o.pos ?_
 refine Run_drw λ w3 f3 => ?_
 have N3:=N2.fr0 f3
 refine fld_ld (N3.kept (c:=x) (l:=o.cells) (by simp)) (k:=1) rfl ?_
 rw [Run_bind]
 refine place_run o.pos ?_
 refine ref_ld N3.blk o.pos ?_
 rw [hr]
 exact h x w3 N3 hxle
theorem Sok.at (K : Sok A B s) (i : Nat) : ∀ p, s i = some p -> Pok A B p:=K i
theorem writes_run (N : BN w0 w bb s kp) (K : Sok A B s) (o : Dop) (hA : A <= 1048576) (hB : B <= 1048576) (hp : o.p.size <= 1048576) (hq : o.q.size <= 1048576) :
  Run (F.b_writes (Ptr bb) o.val) w λ x w' => x = .bool true /\ ∃ s', BN w0 w' bb s' kp /\ Sok (A + o.q.size) (B + 2) s':=by
 unfold F.b_writes
 refine head_run (rest:=λ x v1 v2 => _) N (λ x w1 N1 _ => ?_) _ λ x v1 v2 => rfl
 rw [Run_bind]
 obtain ⟨Q, hQ⟩ : ∃ Q : Out -> World -> Prop, ∀ r w', Q r w' ↔ ∃ (e : Int) (s' : Pls), r = .norm [.int .i64 e, .int .i64 e] /\ BN w0 w' bb s' kp /\ Sok (A + o.q.size) (B + 2) s':=⟨_, λ _ _ => Iff.rfl⟩
 refine Run.mono (Q:=Q) ?_ ?_
 ·have hx:=N1.kept (c:=x) (l:=o.cells) (by simp)
  have drop : ∀ {w' : World} {s' : Pls}, BN w0 w' bb s' ((x, o.cells) :: kp) -> BN w0 w' bb s' kp:=λ h => h.drop (List.sublist_cons_self _ _)
  have fin : ∀ {y z : Value} {w3 : World} {A' : Nat}, TI y -> z = y -> A' <= A + o.q.size -> (∃ s', BN w0 w3 bb s' ((x, o.cells) :: kp) /\ Sok A' (B + 2) s') -> Run (M.ret (Out.norm [y, z])) w3 Q:=λ hT e hA' ⟨s', b, k⟩ => by
   obtain ⟨n, rfl⟩:=hT
   subst e
   rw [Run_ret]
   exact (hQ _ _).2 ⟨n, s', rfl, drop b, k.more hA' (Nat.le_refl _)⟩
  refine fld_ld hx (k:=0) rfl ?_
  by_cases c1 : o.kind = 1
  ·refine kind_yes c1 (fld_ld hx (k:=4) rfl ?_)
   rw [Run_bind]
   refine (mkdirG _ _).2 ?_
   refine (two_run N1 K (Nat.le_refl _) (by omega) _ _ _ (both_make (K.at _) hA hB hp 1 (.inl rfl))).mono ?_
   rintro y w2 ⟨hT, _, hk, h2⟩
   refine fld_ld (hk (x, o.cells) (by simp)) (k:=4) rfl ?_
   rw [Run_bind]
   refine (rmkdirG _ _).2 ?_
   refine (h2 w2 (Fr.refl _ _)).mono ?_
   rintro z w3 ⟨e, h3⟩
   exact fin hT e (Nat.le_add_right _ _) h3
  refine kind_no c1 ?_
  by_cases c2 : o.kind = 2
  ·refine kind_yes c2 (fld_ld hx (k:=4) rfl ?_)
   rw [Run_bind]
   refine (createG _ _).2 ?_
   refine (two_run N1 K (Nat.le_refl _) (by omega) _ _ _ (both_make (K.at _) hA hB hp 2 (.inr rfl))).mono ?_
   rintro y w2 ⟨hT, _, hk, h2⟩
   refine fld_ld (hk (x, o.cells) (by simp)) (k:=4) rfl ?_
   rw [Run_bind]
   refine (rcreateG _ _).2 ?_
   refine (h2 w2 (Fr.refl _ _)).mono ?_
   rintro z w3 ⟨e, h3⟩
   exact fin hT e (Nat.le_add_right _ _) h3
  refine kind_no c2 ?_
  by_cases c3 : o.kind = 3
  ·refine kind_yes c3 (fld_ld hx (k:=4) rfl (fld_ld hx (k:=5) rfl ?_))
   rw [Run_bind]
   refine (two_run N1 K (Nat.le_add_right _ _) (by omega) _ _ _ (both_append (K.at _) hA hB hp hq)).mono ?_
   rintro y w2 ⟨hT, _, hk, h2⟩
   have hx2:=hk (x, o.cells) (by simp)
   refine fld_ld hx2 (k:=4) rfl (fld_ld hx2 (k:=5) rfl ?_)
   rw [Run_bind]
   refine (h2 w2 (Fr.refl _ _)).mono ?_
   rintro z w3 ⟨e, h3⟩
   exact fin hT e (Nat.le_refl _) h3
  refine kind_no c3 ?_
  by_cases c4 : o.kind = 4
  ·refine kind_yes c4 (fld_ld hx (k:=4) rfl (fld_ld hx (k:=2) rfl ?_))
   rw [Run_bind]
   refine (two_run N1 K (Nat.le_refl _) (by omega) _ _ _ (both_trunc (K.at _) hA hB hp o.n)).mono ?_
   rintro y w2 ⟨hT, _, hk, h2⟩
   have hx2:=hk (x, o.cells) (by simp)
   refine fld_ld hx2 (k:=4) rfl (fld_ld hx2 (k:=2) rfl ?_)
   rw [Run_bind]
   refine (h2 w2 (Fr.refl _ _)).mono ?_
   rintro z w3 ⟨e, h3⟩
   exact fin hT e (Nat.le_add_right _ _) h3
  refine kind_no c4 ?_
  by_cases c5 : o.kind = 5
  ·refine kind_yes c5 (fld_ld hx (k:=4) rfl (fld_ld hx (k:=5) rfl ?_))
   rw [Run_bind]
   refine (two_run N1 K (Nat.le_refl _) (by omega) _ _ _ (both_rename (K.at _) hA hB hp hq)).mono ?_
   rintro y w2 ⟨hT, _, hk, h2⟩
   have hx2:=hk (x, o.cells) (by simp)
   refine fld_ld hx2 (k:=4) rfl (fld_ld hx2 (k:=5) rfl ?_)
   rw [Run_bind]
   refine (h2 w2 (Fr.refl _ _)).mono ?_
   rintro z w3 ⟨e, h3⟩
   exact fin hT e (Nat.le_add_right _ _) h3
  refine kind_no c5 ?_
  by_cases c6 : o.kind = 6
  ·refine kind_yes c6 (fld_ld hx (k:=4) rfl ?_)
   rw [Run_bind]
   refine (two_run N1 K (Nat.le_refl _) (by omega) _ _ _ (both_remove (K.at _) hA hB hp)).mono ?_
   rintro y w2 ⟨hT, _, hk, h2⟩
   refine fld_ld (hk (x, o.cells) (by simp)) (k:=4) rfl ?_
   rw [Run_bind]
   refine (h2 w2 (Fr.refl _ _)).mono ?_
   rintro z w3 ⟨e, h3⟩
   exact fin hT e (Nat.le_add_right _ _) h3
  refine kind_no c6 ?_
  by_cases c7 : o.kind = 7
  ·refine kind_yes c7 (fld_ld hx (k:=4) rfl ?_)
   rw [Run_bind]
   refine (two_run N1 K (Nat.le_refl _) (by omega) _ _ _ (both_sync (K.at _) hA hB hp)).mono ?_
   rintro y w2 ⟨hT, _, hk, h2⟩
   refine fld_ld (hk (x, o.cells) (by simp)) (k:=4) rfl ?_
   rw [Run_bind]
   refine (h2 w2 (Fr.refl _ _)).mono ?_
   rintro z w3 ⟨e, h3⟩
   exact fin hT e (Nat.le_add_right _ _) h3
  refine kind_no c7 ?_
  by_cases c8 : o.kind = 8
  ·refine kind_yes c8 (fld_ld hx (k:=4) rfl ?_)
   rw [Run_bind]
   refine (two_run N1 K (Nat.le_refl _) (by omega) _ _ _ (both_syncdir (K.at _) hA hB hp)).mono ?_
   rintro y w2 ⟨hT, _, hk, h2⟩
   refine fld_ld (hk (x, o.cells) (by simp)) (k:=4) rfl ?_
   rw [Run_bind]
   refine (h2 w2 (Fr.refl _ _)).mono ?_
   rintro z w3 ⟨e, h3⟩
   exact fin hT e (Nat.le_add_right _ _) h3
  refine kind_no c8 ?_
  exact fin ⟨0, rfl⟩ rfl (Nat.le_add_right A _) ⟨s, N1, K.more (Nat.le_refl _) (by omega)⟩
 ·rintro r w2 h
  obtain ⟨e, s', rfl, b, k⟩:=(hQ _ _).1 h
  simp [F.l_num]
  exact ⟨s', b, k⟩
theorem counts_run (N : BN w0 w bb s kp) (K : Sok A B s) (o : Dop) (hA : A <= 1048576) (hB : B <= 1048576) :
  Run (F.b_counts (Ptr bb) o.val) w λ x w' => x = .bool true /\ ∃ s', BN w0 w' bb s' kp /\ Sok A (B + 2) s':=by
 unfold F.b_counts
 refine head_run (rest:=λ x v1 v2 => _) N (λ x w1 N1 _ => ?_) _ λ x v1 v2 => rfl
 have hx:=N1.kept (c:=x) (l:=o.cells) (by simp)
 have go : ∀ (T : Value -> Prop) (m1 m2 : Value -> M Value) (k : Value -> Value -> M Value), Both T A (B + 2) (s (o.pos % 2).toNat) m1 m2 -> (∀ y w3 (Q : Value -> World -> Prop), T y -> Q (.bool true) w3 -> Run (k y y) w3 Q) ->
   Run (M.bind (m1 (pv1 (s (o.pos % 2).toNat))) λ y => M.bind (m2 (pv2 (s (o.pos % 2).toNat))) λ z => k y z) w1 λ x w' => x = .bool true /\ ∃ s', BN w0 w' bb s' kp /\ Sok A (B + 2) s':=λ T m1 m2 k h hk => by
  rw [Run_bind]
  refine (two_run N1 K (Nat.le_refl _) (by omega) _ _ _ h).mono ?_
  rintro y w2 ⟨hT, _, _, h2⟩
  rw [Run_bind]
  refine (h2 w2 (Fr.refl _ _)).mono ?_
  rintro z w3 ⟨rfl, s', b, c⟩
  exact hk _ w3 _ hT ⟨rfl, s', b.drop (List.sublist_cons_self _ _), c⟩
 have kI : ∀ y w3 (Q : Value -> World -> Prop), TI y -> Q (.bool true) w3 -> Run (bindO (binV BinOp.eql y y) λ x21 => M.ret x21) w3 Q:=λ y w3 Q hT q => by
  obtain ⟨n, rfl⟩:=hT
  simp; exact q
 refine fld_ld hx (k:=0) rfl ?_
 by_cases c1 : o.kind = 14
 ·exact kind_yes c1 (go TI _ _ _ (both_used (K.at _) hA hB) kI)
 refine kind_no c1 ?_
 by_cases c2 : o.kind = 15
 ·exact kind_yes c2 (go TI _ _ _ (both_capacity (K.at _)) kI)
 refine kind_no c2 ?_
 by_cases c3 : o.kind = 16
 ·exact kind_yes c3 (go TI _ _ _ (both_acts (K.at _)) kI)
 refine kind_no c3 ?_
 by_cases c4 : o.kind = 17
 ·exact kind_yes c4 (go TI _ _ _ (both_reads (K.at _)) kI)
 refine kind_no c4 ?_
 by_cases c5 : o.kind = 18
 ·exact kind_yes c5 (go TI _ _ _ (both_pending (K.at _)) kI)
 refine kind_no c5 ?_
 refine go TB _ _ _ (both_down (K.at _)) λ y w3 Q hT q => ?_
 obtain ⟨n, rfl⟩:=hT
 simp; exact q
theorem same_en_run {x y : Value} {l : List EnD} (hx : Sl 3 w x (l.map enC)) (hy : Sl 3 w y (l.map enC)) (hl : l.length <= 4611686018427387904) : Run (F.l_sameEntries x y) w λ r w' => r = .bool true /\ Fr (λ _ => False) w w':=by
 unfold F.l_sameEntries
 have l1:=hx.lenL
 have l2:=hy.lenL
 rw [List.length_map] at l1 l2
 simp [-ldA_ptr, l1, l2]
 refine Run_for l.length (λ i L w' => L = [.int .i64 i] /\ Fr (λ _ => False) w w') ⟨rfl, Fr.refl _ _⟩ ?_ ?_
 ·rintro i L w1 hi ⟨rfl, f1⟩
  have hi' : (i : Int) < l.length:=by omega
  have ei : l[i]? = some l[i]:=List.getElem?_eq_getElem hi
  generalize l[i] = e at ei
  have wi : IntKind.i64.wrap ((i : Int) + 1) = ((i + 1 : Nat) : Int):=by rw [wrapS] <;> omega
  simp only [getL_zero, l1, binV_int, intBin_lss, hi', decide_true, Run_bindO_some, Run_condM_true]
  refine Run_drw λ w2 f2 => ?_
  have f02:=f1.trans f2 λ _ _ h => h
  obtain ⟨p, p1, p2⟩:=(hx.fr0 f02).rdA (i:=i) (e:=enC e) (by decide) (by simp [ei]) .i64
  obtain ⟨q, q1, q2⟩:=(hy.fr0 f02).rdA (i:=i) (e:=enC e) (by decide) (by simp [ei]) .i64
  simp [-ldA_ptr, p1, p2, q1, q2, enC, ba_eq, wi]
  exact f02
 ·rintro L w1 ⟨rfl, f1⟩
  simp [l1]
  exact f1
theorem sim_list {dep : Int -> Nat} {D : Int -> Prop} {d : Dk} {r : Rk} (S : Sim D d r) (hI : GI A B dep d) (path : ByteArray) : (rlistF r path).2 = (d.findF path 1).1 /\ ((d.findF path 1).1 ≠ 0 -> (rlistF r path).1 = []) /\ ((d.findF path 1).1 = 0 -> ListOk d (d.findF path 1).2.2 (rlistF r path).1):=by
 obtain ⟨q1, q2⟩:=sim_find S hI path 1
 unfold rlistF
 rw [q1]
 by_cases h0 : (d.findF path 1).1 = 0
 ·have hnz : ¬ (d.findF path 1).1 ≠ 0:=λ h => h h0
  obtain ⟨k0, k1, kD⟩:=find_lives S hI h0
  have ef : (flat (d.findF path 1)).2.2 = (d.findF path 1).2.2:=rfl
  rw [if_neg hnz, q2 h0, ef]
  refine ⟨h0.symm, λ h => absurd h0 h, λ _ => ?_⟩
  have L:=(S.live _ k0 k1 kD).1
  generalize (d.findF path 1).2.2 = k at *
  have ent : ∀ e ∈ (r.th k).seen.slots, entF r e = (e.1, (d.nd e.2).kind, ((d.nd e.2).seen.size : Int)):=λ e he => by
   unfold entF
   rw [S.kind, sim_data S hI (side_mem L he)]
  refine ⟨λ e => ?_, ?_⟩
  ·simp only
   constructor
   ·intro he
    obtain ⟨y, hy, rfl⟩:=List.mem_map.1 he
    rw [ent y hy]
    exact ⟨y.2, side_mem L hy, rfl⟩
   ·rintro ⟨j, hj, he⟩
    have hf:=L.find e.1
    rw [hj] at hf
    have hr:=hI.pseen.rng _ _ hj
    have hf : findL (r.th k).seen.slots e.1 = j:=hf
    have hm:=find_mem (l:=(r.th k).seen.slots) (x:=e.1) (by rw [hf]; omega)
    rw [hf] at hm
    refine List.mem_map.2 ⟨_, hm, ?_⟩
    rw [ent _ hm, <- he]
  ·refine List.pairwise_map.2 (L.srt.imp λ {a b} h => ?_)
   have t : Lib.compareBytes a.1.toList b.1.toList < 0:=lt_cmp _ _ h
   rw [ba_list, ba_list] at t
   exact t
 ·rw [if_pos h0]
  exact ⟨rfl, λ _ => rfl, λ h => absurd h h0⟩
theorem lists_run (N : BN w0 w bb s kp) (K : Sok A B s) (hA : A <= 1048576) (hB : B <= 1048576) (i : Nat) {path : ByteArray} (hs : path.size <= 1048576) :
  Run (F.d_List (pv1 (s i)) (.string path)) w λ y w1 => ∃ (u : Value) (l : List EnD) (e : Int), y = .tuple #[u, .int .i64 e] /\ SlW 3 w1 u (l.map enC) /\ l.length <= 4611686018427387904 /\ Fr (λ _ => False) w w1 /\ (∀ c, inB u c -> w.heap.size <= c /\ c < w1.heap.size) /\
   ∀ w2, Fr (λ _ => False) w1 w2 -> Run (F.r_List (pv2 (s i)) (.string path)) w2 λ z w3 => ∃ u', z = .tuple #[u', .int .i64 e] /\ Sl 3 w3 u' (l.map enC) /\ Fr (λ _ => False) w2 w3:=by
 cases h : s i with
 | none =>
  refine (list_nil path).mono ?_
  rintro _ w1 ⟨rfl, f1⟩
  refine ⟨_, [], 2, rfl, SlW.nil _ _, by decide, f1, λ c hc => hc.elim, λ w2 f2 => (rlist_nil path).mono ?_⟩
  rintro _ w3 ⟨rfl, f3⟩
  exact ⟨_, rfl, (SlW.nil _ _).1, f3⟩
 | some p =>
  have P:=K i p h
  obtain ⟨z1, z2, z3, z4, g, g', hns⟩:=P.small hA hB
  obtain ⟨dep, D, hI, S⟩:=P.ex
  obtain ⟨q1, q2, q3⟩:=sim_list S hI path
  refine (N.own0 h (R:=λ y w1 => ∃ u l, y = .tuple #[u, .int .i64 (p.d.findF path 1).1] /\ SlW 3 w1 u (l.map enC) /\ ((p.d.findF path 1).1 ≠ 0 -> l = []) /\ ((p.d.findF path 1).1 = 0 -> ListOk p.d (p.d.findF path 1).2.2 l) /\ ∀ c, inB u c -> w.heap.size <= c /\ c < w1.heap.size) λ v t hd => (list_run hd hI (by omega) (by omega)).mono λ y w' ⟨u, l, a1, a2, a3, a4, a5, a6⟩ => ⟨⟨u, l, a1, a2, a3, a4, a6⟩, a5⟩).mono ?_
  rintro y w1 ⟨⟨u, l, rfl, b2, b3, b4, b5⟩, f1, N1⟩
  have hl : l = (rlistF p.r path).1:=by
   by_cases h0 : (p.d.findF path 1).1 = 0
   ·exact (b4 h0).eq (q3 h0)
   ·rw [b3 h0, q2 h0]
  refine ⟨u, l, _, rfl, b2, ?_, f1, b5, λ w2 f2 => ?_⟩
  ·rw [hl]
   unfold rlistF
   split
   ·exact Nat.zero_le _
   ·rw [List.length_map]
    by_cases hr : p.r.th (ratF p.r path 1).2.2.2 ∈ p.r.things
    ·have:=g.few _ hr; omega
    ·have : p.r.th (ratF p.r path 1).2.2.2 = th0:=by
      unfold Rk.th at hr ⊢
      cases hx : p.r.things[(ratF p.r path 1).2.2.2.toNat]? with
      | none => rfl
      | some t => rw [hx] at hr; exact absurd (List.mem_of_getElem? hx) hr
     rw [this]; exact Nat.zero_le _
  ·refine ((N1.fr0 f2).ref0 h (R:=λ z w3 => ∃ u', z = .tuple #[u', .int .i64 (p.d.findF path 1).1] /\ Sl 3 w3 u' (l.map enC)) λ v t hd => (rlist_run hd g (by omega)).mono λ y w' ⟨u', a1, a2⟩ => ⟨⟨u', by rw [a1, q1], by rw [hl]; exact a2.sl.1⟩, a2.fr⟩).mono ?_
   rintro z w3 ⟨⟨u', a1, a2⟩, f3, _⟩
   exact ⟨u', a1, a2, f3⟩
theorem dumps_run (N : BN w0 w bb s kp) (K : Sok A B s) (hA : A <= 1048576) (hB : B <= 1048576) (i : Nat) :
  Run (F.d_Dump (pv1 (s i))) w λ u w1 => ∃ l : List Std, SlW 3 w1 u (l.map Std.cells) /\ l.length <= 4611686018427387904 /\ Fr (λ _ => False) w w1 /\ (∀ c, inB u c -> w.heap.size <= c /\ c < w1.heap.size) /\
   ∀ w2, Fr (λ _ => False) w1 w2 -> Run (F.r_Dump (pv2 (s i))) w2 λ u' w3 => Sl 3 w3 u' (l.map Std.cells) /\ Fr (λ _ => False) w2 w3:=by
 cases h : s i with
 | none =>
  refine dump_nil.mono ?_
  rintro _ w1 ⟨rfl, f1⟩
  refine ⟨[], SlW.nil _ _, by decide, f1, λ c hc => hc.elim, λ w2 f2 => rdump_nil.mono ?_⟩
  rintro _ w3 ⟨rfl, f3⟩
  exact ⟨(SlW.nil _ _).1, f3⟩
 | some p =>
  have P:=K i p h
  obtain ⟨z1, z2, z3, z4, g, g', hns⟩:=P.small hA hB
  obtain ⟨u1, u2, u3, u4⟩:=P.sum hA hB
  obtain ⟨dep, D, hI, S⟩:=P.ex
  have hvl : (undL p.r 9 0 E0).length <= 33554432:=by
   have e : undL p.r 9 0 E0 = (visP p.r 9 0 []).map λ v => (pathF v.1, (p.r.th v.2).kind, (p.r.th v.2).seen.data):=undL_vis p.r 9 0 []
   rw [e, List.length_map]
   obtain ⟨h1, h2⟩:=vis_keys S hI
   have q:=pigeon ((visP p.r 9 0 []).map (·.2)) ((List.range p.d.nodes.length).map λ n : Nat => (n : Int)) h1 λ x hx => by
    obtain ⟨s, hs⟩:=(h2 x).1 hx
    have:=hI.pseen.rng _ _ hs
    exact List.mem_map.2 ⟨x.toNat, List.mem_range.2 (by omega), by omega⟩
   simp only [List.length_map, List.length_range] at q
   omega
  refine (N.own0 h (R:=λ u w1 => ∃ l : List Std, SlW 3 w1 u (l.map Std.cells) /\ DumpOk p.d l /\ ∀ c, inB u c -> w.heap.size <= c /\ c < w1.heap.size) λ v t hd => (dump_run hd hI (by omega) (by omega)).mono λ y w' ⟨l, a1, a2, a3, a4⟩ => ⟨⟨l, a1, a2, a4⟩, a3⟩).mono ?_
  rintro u w1 ⟨⟨l, b1, b2, b3⟩, f1, N1⟩
  refine ⟨l, b1, ?_, f1, b3, λ w2 f2 => ?_⟩
  ·obtain ⟨ks, k1, k2, k3⟩:=b2.ex
   rw [k3.length_eq, List.length_map]
   have q:=pigeon ks ((List.range p.d.nodes.length).map λ n : Nat => (n : Int)) k1 λ x hx => by
    obtain ⟨s, hs⟩:=(k2 x).1 hx
    have:=hI.pseen.rng _ _ hs
    exact List.mem_map.2 ⟨x.toNat, List.mem_range.2 (by omega), by omega⟩
   simp only [List.length_map, List.length_range] at q
   omega
  ·refine ((N1.fr0 f2).ref0 h (R:=λ u' w3 => Sl 3 w3 u' (l.map Std.cells)) λ v t hd => (rdump_run hd g (λ t ht => (u4 t ht).nam) (by decide) u2 hvl).mono λ y w' ⟨l', a1, a2, a3⟩ => ⟨?_, a1.fr⟩).mono ?_
   ·have e:=b2.eq (sim_dump S hI a2 a3) (λ _ => Iff.rfl) λ _ _ => rfl
    rw [e, List.map_map]
    exact a1.sl.1
   ·rintro z w3 ⟨a1, f3, _⟩
    exact ⟨a1, f3⟩
theorem looks_run (N : BN w0 w bb s kp) (K : Sok A B s) (o : Dop) (hA : A <= 1048576) (hB : B <= 1048576) (hp : o.p.size <= 1048576) :
  Run (F.b_looks (Ptr bb) o.val) w λ x w' => x = .bool true /\ ∃ s', BN w0 w' bb s' kp /\ Sok A (B + 2) s':=by
 unfold F.b_looks
 refine head_run (rest:=λ x v1 v2 => _) N (λ x w1 N1 _ => ?_) _ λ x v1 v2 => rfl
 have hx:=N1.kept (c:=x) (l:=o.cells) (by simp)
 have dr : ∀ {w' : World} {s' : Pls}, BN w0 w' bb s' ((x, o.cells) :: kp) -> BN w0 w' bb s' kp:=λ h => h.drop (List.sublist_cons_self _ _)
 refine fld_ld hx (k:=0) rfl ?_
 by_cases c1 : o.kind = 9
 ·refine kind_yes c1 (fld_ld hx (k:=4) rfl (fld_ld hx (k:=2) rfl (fld_ld hx (k:=3) rfl ?_)))
  rw [Run_bind]
  refine (two_run N1 K (Nat.le_refl _) (by omega) _ _ _ (both_read (K.at _) hA hB hp o.n o.m)).mono ?_
  rintro y w2 ⟨⟨a, e, rfl⟩, _, hk, h2⟩
  have hx2:=hk (x, o.cells) (by simp)
  simp only [extV_tuple, List.getElem?_toArray, List.getElem?_cons_zero, List.getElem?_cons_succ, Run_bindO_some]
  refine fld_ld hx2 (k:=4) rfl (fld_ld hx2 (k:=2) rfl (fld_ld hx2 (k:=3) rfl ?_))
  rw [Run_bind]
  refine (h2 w2 (Fr.refl _ _)).mono ?_
  rintro _ w3 ⟨rfl, s', b, c⟩
  simp [F.l_num, ba_eq]
  exact ⟨s', dr b, c⟩
 refine kind_no c1 ?_
 by_cases c2 : o.kind = 10
 ·refine kind_yes c2 (fld_ld hx (k:=4) rfl ?_)
  rw [Run_bind]
  refine (two_run N1 K (Nat.le_refl _) (by omega) _ _ _ (both_size (K.at _) hA hB hp)).mono ?_
  rintro y w2 ⟨⟨a, e, rfl⟩, _, hk, h2⟩
  have hx2:=hk (x, o.cells) (by simp)
  simp only [extV_tuple, List.getElem?_toArray, List.getElem?_cons_zero, List.getElem?_cons_succ, Run_bindO_some]
  refine fld_ld hx2 (k:=4) rfl ?_
  rw [Run_bind]
  refine (h2 w2 (Fr.refl _ _)).mono ?_
  rintro _ w3 ⟨rfl, s', b, c⟩
  simp [F.l_num]
  exact ⟨s', dr b, c⟩
 refine kind_no c2 ?_
 by_cases c3 : o.kind = 11
 ·refine kind_yes c3 (fld_ld hx (k:=4) rfl ?_)
  rw [Run_bind]
  refine (two_run N1 K (Nat.le_refl _) (by omega) _ _ _ (both_kind (K.at _) hA hB hp)).mono ?_
  rintro y w2 ⟨⟨a, e, rfl⟩, _, hk, h2⟩
  have hx2:=hk (x, o.cells) (by simp)
  simp only [extV_tuple, List.getElem?_toArray, List.getElem?_cons_zero, List.getElem?_cons_succ, Run_bindO_some]
  refine fld_ld hx2 (k:=4) rfl ?_
  rw [Run_bind]
  refine (h2 w2 (Fr.refl _ _)).mono ?_
  rintro _ w3 ⟨rfl, s', b, c⟩
  simp [F.l_num]
  exact ⟨s', dr b, c⟩
 refine kind_no c3 ?_
 have K2 : Sok A (B + 2) s:=K.more (Nat.le_refl _) (by omega)
 by_cases c4 : o.kind = 12
 ·refine kind_yes c4 (fld_ld hx (k:=4) rfl ?_)
  rw [Run_bind]
  refine (lists_run N1 K hA hB _ hp).mono ?_
  rintro _ w2 ⟨u, l, e, rfl, a2, a3, f2, _, h2⟩
  have hx2 : bk w2 x = some o.cells:=f2.bk_some hx id
  simp only [extV_tuple, List.getElem?_toArray, List.getElem?_cons_zero, List.getElem?_cons_succ, Run_bindO_some]
  refine fld_ld hx2 (k:=4) rfl ?_
  rw [Run_bind]
  refine (h2 w2 (Fr.refl _ _)).mono ?_
  rintro _ w3 ⟨u', rfl, b2, f3⟩
  simp only [extV_tuple, List.getElem?_toArray, List.getElem?_cons_zero, List.getElem?_cons_succ, Run_bindO_some]
  rw [Run_bind]
  refine (same_en_run (a2.1.fr0 f3) b2 a3).mono ?_
  rintro _ w4 ⟨rfl, f4⟩
  simp [F.l_num]
  exact ⟨s, ((dr N1).fr0 f2 |>.fr0 f3).fr0 f4, K2⟩
 refine kind_no c4 ?_
 rw [Run_bind]
 refine (dumps_run N1 K hA hB _).mono ?_
 rintro u w2 ⟨l, a2, a3, f2, _, h2⟩
 rw [Run_bind]
 refine (h2 w2 (Fr.refl _ _)).mono ?_
 rintro u' w3 ⟨b2, f3⟩
 rw [Run_bind]
 refine (same_run (a2.1.fr0 f3) b2 a3).mono ?_
 rintro _ w4 ⟨rfl, f4⟩
 rw [Run_ret]
 exact ⟨rfl, s, ((dr N1).fr0 f2 |>.fr0 f3).fr0 f4, K2⟩
end
section
variable {w w' w0 : World} {s : Pls} {bb i : Nat} {p : PS} {kp : List (Nat × List Value)} {A B : Nat}
theorem range_if {α : Type} {a b : M α} {Q : α -> World -> Prop} {x : Nat} {l : List Value} {k : Int} (hx : bk w x = some l) (h0 : l[0]? = some (.int .i64 k)) (lo hi : Int) (h1 : lo <= k -> k <= hi -> Run a w Q) (h2 : ¬ (lo <= k /\ k <= hi) -> Run b w Q) :
  Run (bindO (fieldA 0 (Ptr x)) λ x5 => M.bind (rdM (ld1 x5)) λ x6 => bindO (binV BinOp.geq x6 (.int .i64 lo)) λ x7 => M.bind (guardM x7 true (optM (fieldA 0 (Ptr x)))) λ x8 => M.bind (guardM x7 true (rdM (ld1 x8))) λ x9 =>
   M.bind (guardM x7 true (optM (binV BinOp.leq x9 (.int .i64 hi)))) λ x10 => bindO (pickV x7 x10 (Value.bool false)) λ x11 => condM x11 a b) w Q:=by
 by_cases c1 : lo <= k
 ·by_cases c2 : k <= hi
  ·simp [-ldA_ptr, hx, h0, c1, c2]; exact h1 c1 c2
  ·simp [-ldA_ptr, hx, h0, c1, c2]; exact h2 λ h => c2 h.2
 ·simp [-ldA_ptr, hx, h0, c1]; exact h2 λ h => c1 h.1
theorem val_ld {α : Type} {rest : Value -> M α} {Q : α -> World -> Prop} {x : Nat} {o : Dop} (hx : bk w x = some o.cells) (h : Run (rest o.val) w Q) : Run (M.bind (rdM (ldA 6 (Ptr x))) rest) w Q:=by
 have e : ldA 6 (Ptr x) w = some o.val:=by rw [ldA_bk hx (by simp [Dop.cells])]; rfl
 simp [-ldA_ptr, e]; exact h
theorem kind_if {α : Type} {a b : M α} {Q : α -> World -> Prop} {x : Nat} {l : List Value} {k : Int} (hx : bk w x = some l) (h0 : l[0]? = some (.int .i64 k)) (c : Int) (h1 : k = c -> Run a w Q) (h2 : k ≠ c -> Run b w Q) :
  Run (bindO (fieldA 0 (Ptr x)) λ x5 => M.bind (rdM (ld1 x5)) λ x6 => bindO (binV BinOp.eql x6 (.int .i64 c)) λ x7 => condM x7 a b) w Q:=by
 by_cases c1 : k = c
 ·simp [-ldA_ptr, hx, h0, c1]; exact h1 c1
 ·simp [-ldA_ptr, hx, h0, c1]; exact h2 c1
theorem fresh_run (N : BN w0 w bb s kp) (hm0 : ∃ m : Int, bk w0 0 = some [.int .i64 m]) (K : Sok A B s) (hB : 1 <= B) (n : Int) (cap : Int) :
  Run (F.b_fresh (Ptr bb) (.int .i64 (n % 2)) (.int .i64 cap)) w λ x w' => x = .bool true /\ ∃ s', BN w0 w' bb s' kp /\ Sok A B s':=by
 have hm : ∃ m : Int, bk w 0 = some [.int .i64 m]:=hm0.imp λ m h => N.out.bk_some h id
 have hj : n % 2 = 0 ∨ n % 2 = 1:=by omega
 have hle:=N.le
 unfold F.b_fresh F.l_num
 simp only [Run_bind]
 by_cases hc : 0 <= cap /\ cap <= 1073741824
 ·refine (new2_run hc.1 hc.2 hm).mono ?_
  rintro _ w1 ⟨b1, rfl, v1, t1, h1, hf1, f1⟩
  have N1:=N.bm.made (2 * (n % 2).toNat) f1 (x:=.own (newD cap)) ⟨v1, h1⟩ hf1
  simp only [extV_tuple, List.getElem?_toArray, List.getElem?_cons_zero, List.getElem?_cons_succ, Run_bindO_some, Run_bind]
  refine (rnew_run hc.1 hc.2 (by have:=f1.size; have:=N.out.size; have:=N.bm.pos; omega)).mono ?_
  rintro _ w2 ⟨b2, rfl, v2, t2, h2, hf2, f2⟩
  have N2:=N1.made (2 * (n % 2).toNat + 1) f2 (x:=.ref (newR cap)) ⟨v2, h2⟩ hf2
  have hb2:=N2.blk (c:=bb) (l:=benchC s) (by simp)
  have hw2:=N2.wr (c:=bb) (l:=benchC s) (by simp)
  have e:=upd_both (s:=s) ⟨b1, newD cap, b2, newR cap⟩ (n % 2).toNat
  simp only at e
  rw [e] at N2
  have K' : Sok A B (updS s (n % 2).toNat (some ⟨b1, newD cap, b2, newR cap⟩)):=K.upd (Nat.le_refl _) (Nat.le_refl _) λ q hq => by
   cases hq
   exact ⟨⟨_, _, (newD_gi cap).more (Nat.zero_le _) hB, new_sim cap⟩, hc⟩
  rcases hj with e0 | e0
  ·have N3:=(N2.set rfl hle 0 [Ptr b1]).set rfl hle 2 [Ptr b2]
   rw [e0] at N3 K' ⊢
   have hb3 : bk (sto w2 bb 0 [Ptr b1]) bb = some (setL (benchC s) 0 [Ptr b1]):=by rw [bk_sto_eq, hb2]; rfl
   simp [-ldA_ptr, idxR, hb2, hw2, Addr.add_lit, hb3, benchC]
   refine ⟨_, ⟨?_, hle⟩, K'⟩
   have ec : benchC (updS s (0 : Int).toNat (some ⟨b1, newD cap, b2, newR cap⟩)) = setL (setL (benchC s) 0 [Ptr b1]) 2 [Ptr b2]:=rfl
   rw [ec]; exact N3
  ·have N3:=(N2.set rfl hle 1 [Ptr b1]).set rfl hle 3 [Ptr b2]
   rw [e0] at N3 K' ⊢
   have hb3 : bk (sto w2 bb 1 [Ptr b1]) bb = some (setL (benchC s) 1 [Ptr b1]):=by rw [bk_sto_eq, hb2]; rfl
   simp [-ldA_ptr, idxR, hb2, hw2, Addr.add_lit, hb3, benchC]
   refine ⟨_, ⟨?_, hle⟩, K'⟩
   have ec : benchC (updS s (1 : Int).toNat (some ⟨b1, newD cap, b2, newR cap⟩)) = setL (setL (benchC s) 1 [Ptr b1]) 3 [Ptr b2]:=rfl
   rw [ec]; exact N3
 ·refine (new_bad hc).mono ?_
  rintro _ w1 ⟨rfl, hw1⟩
  rw [hw1]
  simp only [extV_tuple, List.getElem?_toArray, List.getElem?_cons_zero, List.getElem?_cons_succ, Run_bindO_some, Run_bind]
  refine (rnew_bad hc).mono ?_
  rintro _ w2 ⟨rfl, hw2⟩
  rw [hw2]
  have N2:=(N.bm.gone (2 * (n % 2).toNat)).gone (2 * (n % 2).toNat + 1)
  have hb2:=N2.blk (c:=bb) (l:=benchC s) (by simp)
  have hww:=N2.wr (c:=bb) (l:=benchC s) (by simp)
  rw [upd_gone] at N2
  have K' : Sok A B (updS s (n % 2).toNat none):=K.upd (Nat.le_refl _) (Nat.le_refl _) λ q hq => by cases hq
  rcases hj with e0 | e0
  ·have N3:=(N2.set rfl hle 0 [nilP]).set rfl hle 2 [nilP]
   rw [e0] at N3 K' ⊢
   have hb3 : bk (sto w bb 0 [nilP]) bb = some (setL (benchC s) 0 [nilP]):=by rw [bk_sto_eq, hb2]; rfl
   simp [-ldA_ptr, idxR, hb2, hww, Addr.add_lit, hb3, benchC]
   refine ⟨_, ⟨?_, hle⟩, K'⟩
   have ec : benchC (updS s (0 : Int).toNat none) = setL (setL (benchC s) 0 [nilP]) 2 [nilP]:=rfl
   rw [ec]; exact N3
  ·have N3:=(N2.set rfl hle 1 [nilP]).set rfl hle 3 [nilP]
   rw [e0] at N3 K' ⊢
   have hb3 : bk (sto w bb 1 [nilP]) bb = some (setL (benchC s) 1 [nilP]):=by rw [bk_sto_eq, hb2]; rfl
   simp [-ldA_ptr, idxR, hb2, hww, Addr.add_lit, hb3, benchC]
   refine ⟨_, ⟨?_, hle⟩, K'⟩
   have ec : benchC (updS s (1 : Int).toNat none) = setL (setL (benchC s) 1 [nilP]) 3 [nilP]:=rfl
   rw [ec]; exact N3
theorem plays_run (N : BN w0 w bb s kp) (hm0 : ∃ m : Int, bk w0 0 = some [.int .i64 m]) (K : Sok A B s) (o : Dop) (hA : A <= 1048576) (hB : B <= 1048576) (hB1 : 1 <= B) (hp : o.p.size <= 1048576) (hq : o.q.size <= 1048576) (hn : o.n <= 9223372036854775807) :
  Run (F.b_plays (Ptr bb) o.val) w λ x w' => x = .bool true /\ ∃ s', BN w0 w' bb s' kp /\ Sok (A + o.q.size) (B + 2) s':=by
 unfold F.b_plays
 rw [Run_bind]
 refine Run_new λ x w1 hx0 hxw f1 hxle => ?_
 have N1 : BN w0 w1 bb s ((x, o.cells) :: kp):=N.new f1 (by simpa [Dop.val] using hx0) hxw hxle
 have hx:=N1.kept (c:=x) (l:=o.cells) (by simp)
 have dr : ∀ {w' : World} {s' : Pls}, BN w0 w' bb s' ((x, o.cells) :: kp) -> BN w0 w' bb s' kp:=λ h => h.drop (List.sublist_cons_self _ _)
 have fin : ∀ {y : Value} {w3 : World} {A' B' : Nat}, y = .bool true -> A' <= A + o.q.size -> B' <= B + 2 -> (∃ s', BN w0 w3 bb s' ((x, o.cells) :: kp) /\ Sok A' B' s') -> Run (M.ret y) w3 λ x w' => x = .bool true /\ ∃ s', BN w0 w' bb s' kp /\ Sok (A + o.q.size) (B + 2) s':=λ e hA' hB' ⟨s', b, k⟩ => by
  rw [Run_ret]
  exact ⟨e, s', dr b, k.more hA' hB'⟩
 refine fld_ld hx (k:=1) rfl ?_
 rw [Run_bind]
 refine place_run o.pos ?_
 refine range_if hx (k:=o.kind) rfl 1 8 (λ _ _ => val_ld hx ?_) λ c1 => range_if hx (k:=o.kind) rfl 9 13 (λ _ _ => val_ld hx ?_) λ c2 => range_if hx (k:=o.kind) rfl 14 19 (λ _ _ => val_ld hx ?_) λ c3 => kind_if hx (k:=o.kind) rfl 20 (λ c4 => ?_) λ c4 => kind_if hx (k:=o.kind) rfl 21 (λ c5 => ?_) λ c5 => kind_if hx (k:=o.kind) rfl 22 (λ c6 => ?_) λ c6 => ?_
 ·rw [Run_bind]
  refine (writes_run N1 K o hA hB hp hq).mono ?_
  rintro _ w2 ⟨rfl, h⟩
  exact fin rfl (Nat.le_refl _) (Nat.le_refl _) h
 ·rw [Run_bind]
  refine (looks_run N1 K o hA hB hp).mono ?_
  rintro _ w2 ⟨rfl, h⟩
  exact fin rfl (Nat.le_add_right _ _) (Nat.le_refl _) h
 ·rw [Run_bind]
  refine (counts_run N1 K o hA hB).mono ?_
  rintro _ w2 ⟨rfl, h⟩
  exact fin rfl (Nat.le_add_right _ _) (Nat.le_refl _) h
 ·refine Run_drw λ w2 f2 => ?_
  have N2:=N1.fr0 f2
  refine own_ld N2.blk o.pos ?_
  refine fld_ld (N2.kept (c:=x) (l:=o.cells) (by simp)) (k:=2) rfl ?_
  rw [Run_bind]
  refine (two_run N2 K (Nat.le_refl _) (by omega) _ _ _ (both_arm (K.at _) o.n hn)).mono ?_
  rintro y w3 ⟨hT, hb, hk, h2⟩
  refine Run_drw λ w4 f4 => ?_
  refine ref_ld (f4.bk_some hb id) o.pos ?_
  refine fld_ld (f4.bk_some (hk (x, o.cells) (by simp)) id) (k:=2) rfl ?_
  rw [Run_bind]
  refine (h2 w4 f4).mono ?_
  rintro z w5 ⟨e, h3⟩
  obtain ⟨n, rfl⟩:=hT
  subst e
  simp only [F.l_num, Run_bind, Run_ret, binV_int, intBin_eql, decide_true, Run_bindO_some]
  obtain ⟨s', b, k⟩:=h3
  exact ⟨trivial, s', dr b, k.more (Nat.le_add_right _ _) (Nat.le_refl _)⟩
 ·refine Run_drw λ w2 f2 => ?_
  have N2:=N1.fr0 f2
  have hx2:=N2.kept (c:=x) (l:=o.cells) (by simp)
  refine own_ld N2.blk o.pos ?_
  refine fld_ld hx2 (k:=2) rfl (fld_ld hx2 (k:=3) rfl ?_)
  rw [Run_bind]
  refine (two_run N2 K (Nat.le_refl _) (by omega) _ _ _ (both_crash (K.at _) hA hB o.n o.m)).mono ?_
  rintro y w3 ⟨hT, hb, hk, h2⟩
  refine Run_drw λ w4 f4 => ?_
  have hx4:=f4.bk_some (hk (x, o.cells) (by simp)) id
  refine ref_ld (f4.bk_some hb id) o.pos ?_
  refine fld_ld hx4 (k:=2) rfl (fld_ld hx4 (k:=3) rfl ?_)
  rw [Run_bind]
  refine (h2 w4 f4).mono ?_
  rintro z w5 ⟨e, h3⟩
  obtain ⟨n, rfl⟩:=hT
  subst e
  simp only [Run_ret, binV_int, intBin_eql, decide_true, Run_bindO_some]
  obtain ⟨s', b, k⟩:=h3
  exact ⟨trivial, s', dr b, k.more (Nat.le_add_right _ _) (Nat.le_refl _)⟩
 ·refine fld_ld hx (k:=2) rfl ?_
  rw [Run_bind]
  refine (fresh_run N1 hm0 K hB1 o.pos o.n).mono ?_
  rintro _ w2 ⟨rfl, h⟩
  exact fin rfl (Nat.le_add_right _ _) (by omega) h
 ·exact fin rfl (Nat.le_add_right A _) (by omega) ⟨s, N1, K⟩
theorem begins_run (N : BN w0 w bb s kp) (hm0 : ∃ m : Int, bk w0 0 = some [.int .i64 m]) (K : Sok A B s) (hB : 1 <= B) (cap : Int) :
  Run (F.b_begins (Ptr bb) (.int .i64 cap)) w λ x w' => x = .bool true /\ ∃ s', BN w0 w' bb s' kp /\ Sok A B s':=by
 unfold F.b_begins
 rw [Run_bind]
 refine (fresh_run N hm0 K hB 0 cap).mono ?_
 rintro _ w1 ⟨rfl, s1, N1, K1⟩
 have hb:=N1.blk
 simp only [notV_bool, Bool.not_true, Run_bindO_some, Run_condM_false, Run_bind]
 refine Run.mono (Q:=λ o w' => o = .norm [] /\ ∃ s', BN w0 w' bb s' kp /\ Sok A B s') ?_ ?_
 ·simp [-ldA_ptr, hb, idxR, Addr.add_lit, benchC]
  cases hs : s1 0 with
  | none =>
   simp [pv2]
   refine (fresh_run N1 hm0 K1 hB 0 1000).mono ?_
   rintro _ w2 ⟨rfl, s2, N2, K2⟩
   simp
   exact ⟨s2, N2, K2⟩
  | some p =>
   simp [pv2]
   exact ⟨s1, N1, K1⟩
 ·rintro _ w2 ⟨rfl, s2, N2, K2⟩
  simp
  exact (fresh_run N2 hm0 K2 hB 1 cap).mono λ _ _ h => h
theorem upTo_run {cv : Value} {ops : List Dop} (N : BN w0 w bb s kp) (hm0 : ∃ m : Int, bk w0 0 = some [.int .i64 m]) (K : Sok 0 1 s) (hv : Sl 6 w0 cv (ops.map Dop.cells)) (hb : (ops.map Dop.bulk).sum <= 1048576) (hn : ∀ o ∈ ops, o.n <= 9223372036854775807) (lo hi : Int) :
  Run (F.l_upTo (Ptr bb) cv (.int .i64 lo) (.int .i64 hi)) w λ x w' => x = .bool true /\ ∃ s', BN w0 w' bb s' kp /\ Sok (qsum ops) (1 + 2 * ops.length) s':=by
 unfold F.l_upTo
 have hlen:=hv.lenL
 rw [List.length_map] at hlen
 have hql:=qsum_le ops
 rw [Run_bind]
 refine Run_for ops.length (λ i L w' => L = [.int .i64 i] /\ ∃ s', BN w0 w' bb s' kp /\ Sok (qsum (ops.take i)) (1 + 2 * i) s') ⟨rfl, s, N, K⟩ ?_ ?_
 ·rintro i L w1 hi ⟨rfl, s1, N1, K1⟩
  have hi' : (i : Int) < ops.length:=by omega
  have ei : ops[i]? = some ops[i]:=List.getElem?_eq_getElem hi
  generalize ops[i] = o at ei
  have wi:=wrap_succ (n:=i) (by omega)
  have hmem:=List.mem_of_getElem? ei
  have hob : o.p.size + o.q.size + 6 <= _:=bulk_mem hmem
  have hq:=qsum_take ops i ei
  have hq2:=qsum_take_le ops i
  obtain ⟨q, q1, q2⟩:=(hv.fr0 N1.out).rdA (i:=i) (e:=o.cells) (by decide) (by simp [ei]) .i64
  have q2' : ldA 6 q w1 = some (.agg o.cells.toArray):=q2
  simp only [getL_zero, hlen, Run_bindO_some, binV_int, intBin_lss, hi', decide_true, Run_condM_true, Run_bind, q1, Run_rdM, q2', Option.some.injEq, exists_eq_left']
  refine Run_newSt (cs:=o.cells.toArray) rfl rfl (by simpa using o.all) λ z w2 hz hzw f2 hzle => ?_
  have hz2 : bk w2 z = some o.cells:=by simpa using hz
  have e6 : ldA 6 (Ptr z) w2 = some o.val:=by rw [ldA_bk hz2 (by simp [Dop.cells])]; rfl
  refine ⟨_, e6, ?_⟩
  refine (plays_run (N1.fr0 f2) hm0 K1 o (by omega) (by omega) (by omega) (by omega) (by omega) (hn o hmem)).mono ?_
  rintro _ w3 ⟨rfl, s3, N3, K3⟩
  simp [wi]
  rw [hq]
  exact ⟨s3, N3, K3.more (by omega) (by omega)⟩
 ·rintro L w1 ⟨rfl, s1, N1, K1⟩
  rw [List.take_length] at K1
  simp [hlen]
  exact ⟨s1, N1, K1⟩
theorem bench_new (hpos : 0 < w.heap.size) {w1 : World} {bb : Nat} (hb : bk w1 bb = some [nilP, nilP, nilP, nilP]) (hw : Go.Lift.wr w1 bb = true) (f : Fr (λ _ => False) w w1) (hle : w.heap.size <= bb) : BN w w1 bb (λ _ => none) [] /\ Sok 0 1 (λ _ => none):=by
 refine ⟨⟨⟨⟨λ _ _ => 0, λ j b x h => by simp [objs] at h, λ j c h => absurd rfl h, λ i j c h => absurd rfl h, λ e he => ?_⟩, by simp, hpos, f⟩, hle⟩, λ i p h => by cases h⟩
 rw [List.mem_singleton.1 he]
 exact ⟨hb, hw, λ _ => rfl⟩
def ok0 (k : Int) : Dop:=⟨k, 0, 0, 0, e0, e0⟩
theorem build_op (k : Int) : buildV #[.int .i64 0, .int .i64 0, .int .i64 0, .int .i64 0, .string ByteArray.empty, .string ByteArray.empty] [(0, 1, .int .i64 k)] = some (ok0 k).val:=by simp [buildV, fillV, ok0, Dop.val, Dop.cells]
theorem build_at (k a : Int) : buildV #[.int .i64 0, .int .i64 0, .int .i64 0, .int .i64 0, .string ByteArray.empty, .string ByteArray.empty] [(0, 1, .int .i64 k), (1, 1, .int .i64 a)] = some (Dop.val ⟨k, a, 0, 0, e0, e0⟩):=by simp [buildV, fillV, Dop.val, Dop.cells]
theorem open_run {rest : Value -> Value -> M Value} {cap : Int} (hm0 : ∃ m : Int, bk w 0 = some [.int .i64 m]) {Q : Value -> World -> Prop} {a : Nat}
  (h : ∀ bb w1 s, BN w w1 bb s [] -> Sok 0 1 s -> Run (rest (Ptr bb) (.bool true)) w1 Q) :
  Run (bindO (buildV #[(Value.pointer none), (Value.pointer none), (Value.pointer none), (Value.pointer none)] []) λ x1 => M.bind (newM a (Value.cells x1)) λ x2 => M.bind (F.b_begins x2 (.int .i64 cap)) λ x3 => rest x2 x3) w Q:=by
 have eb : buildV #[.pointer none, .pointer none, .pointer none, .pointer none] [] = some (.agg #[.pointer none, .pointer none, .pointer none, .pointer none]):=rfl
 have hpos : 0 < w.heap.size:=by obtain ⟨m, hm⟩:=hm0; exact bk_lt hm
 rw [eb, Run_bindO_some, Run_bind]
 refine Run_new λ bb w1 hb hbw f1 hble => ?_
 obtain ⟨N, K⟩:=bench_new hpos (by simpa using hb) hbw f1 hble
 rw [Run_bind]
 refine (begins_run N hm0 K (Nat.le_refl _) cap).mono ?_
 rintro _ w2 ⟨rfl, s2, N2, K2⟩
 exact h bb w2 s2 N2 K2
end
section
variable {w : World} {cv : Value} {ops : List Dop}
theorem writes_walk (cap : Int) (hm0 : ∃ m : Int, bk w 0 = some [.int .i64 m]) (hv : Sl 6 w cv (ops.map Dop.cells)) (hb : (ops.map Dop.bulk).sum <= 1048576) (hn : ∀ o ∈ ops, o.n <= 9223372036854775807) :
  Run (F.l_DiskWrites (.int .i64 cap) cv) w λ r w' => r = .bool true /\ Fr (λ _ => False) w w':=by
 unfold F.l_DiskWrites
 have hql:=qsum_le ops
 refine open_run hm0 λ bb w1 s N K => ?_
 simp only [notV_bool, Bool.not_true, Run_bindO_some, Run_condM_false, Run_bind]
 refine (upTo_run N hm0 K hv hb hn 1 8).mono ?_
 rintro _ w2 ⟨rfl, s2, N2, K2⟩
 simp [build_op]
 refine (looks_run N2 K2 (ok0 13) (by omega) (by omega) (by show (0 : Nat) <= _; omega)).mono ?_
 rintro _ w3 ⟨rfl, s3, N3, _⟩
 simp
 exact N3.out
theorem looks_walk (cap : Int) (hm0 : ∃ m : Int, bk w 0 = some [.int .i64 m]) (hv : Sl 6 w cv (ops.map Dop.cells)) (hb : (ops.map Dop.bulk).sum <= 1048576) (hn : ∀ o ∈ ops, o.n <= 9223372036854775807) :
  Run (F.l_DiskLooks (.int .i64 cap) cv) w λ r w' => r = .bool true /\ Fr (λ _ => False) w w':=by
 unfold F.l_DiskLooks
 have hql:=qsum_le ops
 refine open_run hm0 λ bb w1 s N K => ?_
 simp only [notV_bool, Bool.not_true, Run_bindO_some, Run_condM_false, Run_bind]
 refine (upTo_run N hm0 K hv hb hn 9 13).mono ?_
 rintro _ w2 ⟨rfl, s2, N2, K2⟩
 simp [build_op]
 refine (looks_run N2 K2 (ok0 11) (by omega) (by omega) (by show (0 : Nat) <= _; omega)).mono ?_
 rintro _ w3 ⟨rfl, s3, N3, _⟩
 simp
 exact N3.out
theorem counts_walk (cap : Int) (hm0 : ∃ m : Int, bk w 0 = some [.int .i64 m]) (hv : Sl 6 w cv (ops.map Dop.cells)) (hb : (ops.map Dop.bulk).sum <= 1048576) (hn : ∀ o ∈ ops, o.n <= 9223372036854775807) :
  Run (F.l_DiskCounts (.int .i64 cap) cv) w λ r w' => r = .bool true /\ Fr (λ _ => False) w w':=by
 unfold F.l_DiskCounts
 have hql:=qsum_le ops
 refine open_run hm0 λ bb w1 s N K => ?_
 simp only [notV_bool, Bool.not_true, Run_bindO_some, Run_condM_false, Run_bind]
 refine (upTo_run N hm0 K hv hb hn 14 19).mono ?_
 rintro _ w2 ⟨rfl, s2, N2, K2⟩
 simp [build_op]
 refine (counts_run N2 K2 (ok0 16) (by omega) (by omega)).mono ?_
 rintro _ w3 ⟨rfl, s3, N3, K3⟩
 simp [build_op]
 refine (counts_run N3 K3 (ok0 15) (by omega) (by omega)).mono ?_
 rintro _ w4 ⟨rfl, s4, N4, K4⟩
 simp
 exact N4.out
theorem plays_walk (cap : Int) (hm0 : ∃ m : Int, bk w 0 = some [.int .i64 m]) (hv : Sl 6 w cv (ops.map Dop.cells)) (hb : (ops.map Dop.bulk).sum <= 1048576) (hn : ∀ o ∈ ops, o.n <= 9223372036854775807) :
  Run (F.l_DiskPlays (.int .i64 cap) cv) w λ r w' => r = .bool true /\ Fr (λ _ => False) w w':=by
 unfold F.l_DiskPlays
 have hql:=qsum_le ops
 refine open_run hm0 λ bb w1 s N K => ?_
 simp only [notV_bool, Bool.not_true, Run_bindO_some, Run_condM_false, Run_bind]
 refine (upTo_run N hm0 K hv hb hn 1 22).mono ?_
 rintro _ w2 ⟨rfl, s2, N2, K2⟩
 simp [build_op]
 refine (looks_run N2 K2 (ok0 11) (by omega) (by omega) (by show (0 : Nat) <= _; omega)).mono ?_
 rintro _ w3 ⟨rfl, s3, N3, _⟩
 simp
 exact N3.out
theorem crashes_walk (cap : Int) (hm0 : ∃ m : Int, bk w 0 = some [.int .i64 m]) (hv : Sl 6 w cv (ops.map Dop.cells)) (hb : (ops.map Dop.bulk).sum <= 1048576) (hn : ∀ o ∈ ops, o.n <= 9223372036854775807) :
  Run (F.l_DiskCrashes (.int .i64 cap) cv) w λ r w' => r = .bool true /\ Fr (λ _ => False) w w':=by
 unfold F.l_DiskCrashes
 have hql:=qsum_le ops
 have hlen:=hv.lenL
 rw [List.length_map] at hlen
 refine open_run hm0 λ bb w1 s N K => ?_
 simp only [notV_bool, Bool.not_true, Run_bindO_some, Run_condM_false, Run_bind]
 refine Run_for ops.length (λ i L w' => L = [.int .i64 i] /\ ∃ s', BN w w' bb s' [] /\ Sok (qsum (ops.take i)) (1 + 4 * i) s') ⟨rfl, s, N, K⟩ ?_ ?_
 ·rintro i L w1 hi ⟨rfl, s1, N1, K1⟩
  have hi' : (i : Int) < ops.length:=by omega
  have ei : ops[i]? = some ops[i]:=List.getElem?_eq_getElem hi
  generalize ops[i] = o at ei
  have wi:=wrap_succ (n:=i) (by omega)
  have hmem:=List.mem_of_getElem? ei
  have hob : o.p.size + o.q.size + 6 <= _:=bulk_mem hmem
  have hq:=qsum_take ops i ei
  have hq2:=qsum_take_le ops i
  have hq3:=qsum_take_le ops (i + 1)
  obtain ⟨q, q1, q2⟩:=(hv.fr0 N1.out).rdA (i:=i) (e:=o.cells) (by decide) (by simp [ei]) .i64
  have q2' : ldA 6 q w1 = some (.agg o.cells.toArray):=q2
  simp only [getL_zero, hlen, Run_bindO_some, binV_int, intBin_lss, hi', decide_true, Run_condM_true, Run_bind, q1, Run_rdM, q2', Option.some.injEq, exists_eq_left']
  refine Run_newSt (cs:=o.cells.toArray) rfl rfl (by simpa using o.all) λ z w2 hz hzw f2 hzle => ?_
  have hz2 : bk w2 z = some o.cells:=by simpa using hz
  have e6 : ldA 6 (Ptr z) w2 = some o.val:=by rw [ldA_bk hz2 (by simp [Dop.cells])]; rfl
  have N2 : BN w w2 bb s1 [(z, o.cells)]:=N1.new f2 hz2 hzw hzle
  refine ⟨_, e6, ?_⟩
  refine (plays_run N2 hm0 K1 o (by omega) (by omega) (by omega) (by omega) (by omega) (hn o hmem)).mono ?_
  rintro _ w3 ⟨rfl, s3, N3, K3⟩
  have hz3:=N3.kept (c:=z) (l:=o.cells) (by simp)
  have dr : ∀ {w' : World} {s' : Pls}, BN w w' bb s' [(z, o.cells)] -> BN w w' bb s' []:=λ h => h.drop (List.nil_sublist _)
  by_cases c1 : o.kind = 21
  ·simp [-ldA_ptr, hz3, Dop.cells, c1, build_at]
   refine (looks_run N3 K3 ⟨13, o.pos, 0, 0, e0, e0⟩ (by omega) (by omega) (by show (0 : Nat) <= _; omega)).mono ?_
   rintro _ w4 ⟨rfl, s4, N4, K4⟩
   simp [wi]
   rw [hq]
   exact ⟨s4, dr N4, K4.more (by omega) (by omega)⟩
  ·simp [-ldA_ptr, hz3, Dop.cells, c1, wi]
   rw [hq]
   exact ⟨s3, dr N3, K3.more (by omega) (by omega)⟩
 ·rintro L w1 ⟨rfl, s1, N1, K1⟩
  rw [List.take_length] at K1
  simp [hlen, build_op]
  refine (looks_run N1 K1 (ok0 11) (by omega) (by omega) (by show (0 : Nat) <= _; omega)).mono ?_
  rintro _ w3 ⟨rfl, s3, N3, _⟩
  simp
  exact N3.out
end
theorem rd_dopsN {w : World} {v : Value} {n : Nat} (h : dopSh.Rd w [v] n) : ∃ ops : List Dop, Sl 6 w v (ops.map Dop.cells) /\ (ops.map Dop.bulk).sum <= n /\ ∀ o ∈ ops, o.n <= 9223372036854775807:=by
 obtain ⟨l, h1, h2⟩:=h.slice2 (T:={o : Dop // o.n <= 9223372036854775807}) (f:=λ o => o.1.cells) (g:=λ o => o.1.bulk) λ c k hk hc => by
  obtain ⟨i1, c1, m1, rfl, _, h1, i2, c2, m2, rfl, _, h2, i3, c3, m3, rfl, hw, h3, i4, c4, m4, rfl, _, h4, s5, c5, m5, rfl, h5, s6, c6, m6, rfl, h6, h7⟩:=hc
  cases h7
  have hr : i3 <= 9223372036854775807:=by
   have hmax : IntKind.i64.max = 9223372036854775807:=by decide
   simp only [Lit.wf, Bool.and_eq_true, decide_eq_true_eq, hmax] at hw
   omega
  refine ⟨⟨⟨i1, i2, i3, i4, s5, s6⟩, hr⟩, rfl, ?_⟩
  simp only [Dop.bulk]
  omega
 refine ⟨l.map Subtype.val, by rw [List.map_map]; exact h1, by rw [List.map_map]; exact h2, λ o ho => ?_⟩
 obtain ⟨x, _, rfl⟩:=List.mem_map.1 ho
 exact x.2
theorem diskWrites_top {W : World} (cap : Int) {n0 : Nat} {v : Value} {n : Nat} (hv : dopSh.Rd W [v] n) (hk : n0 + n <= 1048576) (_hL : laidMetH Tryz.prog Rows.diskWritesUptoRow.laid W) (hsh : W.ShapedOpen Tryz.prog) :
  Run (F.l_DiskWrites (.int .i64 cap) v) W λ r w' => r = .bool true /\ Fr (λ _ => False) W w':=by
 obtain ⟨ops, h1, h2, h3⟩:=rd_dopsN hv
 exact writes_walk cap (ml_of hsh) h1 (by omega) h3
theorem diskLooks_top {W : World} (cap : Int) {n0 : Nat} {v : Value} {n : Nat} (hv : dopSh.Rd W [v] n) (hk : n0 + n <= 1048576) (_hL : laidMetH Tryz.prog Rows.diskLooksUptoRow.laid W) (hsh : W.ShapedOpen Tryz.prog) :
  Run (F.l_DiskLooks (.int .i64 cap) v) W λ r w' => r = .bool true /\ Fr (λ _ => False) W w':=by
 obtain ⟨ops, h1, h2, h3⟩:=rd_dopsN hv
 exact looks_walk cap (ml_of hsh) h1 (by omega) h3
theorem diskCounts_top {W : World} (cap : Int) {n0 : Nat} {v : Value} {n : Nat} (hv : dopSh.Rd W [v] n) (hk : n0 + n <= 1048576) (_hL : laidMetH Tryz.prog Rows.diskCountsUptoRow.laid W) (hsh : W.ShapedOpen Tryz.prog) :
  Run (F.l_DiskCounts (.int .i64 cap) v) W λ r w' => r = .bool true /\ Fr (λ _ => False) W w':=by
 obtain ⟨ops, h1, h2, h3⟩:=rd_dopsN hv
 exact counts_walk cap (ml_of hsh) h1 (by omega) h3
theorem diskCrashes_top {W : World} (cap : Int) {n0 : Nat} {v : Value} {n : Nat} (hv : dopSh.Rd W [v] n) (hk : n0 + n <= 1048576) (_hL : laidMetH Tryz.prog Rows.diskCrashesUptoRow.laid W) (hsh : W.ShapedOpen Tryz.prog) :
  Run (F.l_DiskCrashes (.int .i64 cap) v) W λ r w' => r = .bool true /\ Fr (λ _ => False) W w':=by
 obtain ⟨ops, h1, h2, h3⟩:=rd_dopsN hv
 exact crashes_walk cap (ml_of hsh) h1 (by omega) h3
theorem diskPlays_top {W : World} (cap : Int) {n0 : Nat} {v : Value} {n : Nat} (hv : dopSh.Rd W [v] n) (hk : n0 + n <= 1048576) (_hL : laidMetH Tryz.prog Rows.diskPlaysUptoRow.laid W) (hsh : W.ShapedOpen Tryz.prog) :
  Run (F.l_DiskPlays (.int .i64 cap) v) W λ r w' => r = .bool true /\ Fr (λ _ => False) W w':=by
 obtain ⟨ops, h1, h2, h3⟩:=rd_dopsN hv
 exact plays_walk cap (ml_of hsh) h1 (by omega) h3
end Go.Proofs.YtojnickeblbgoaaGreatDoor
