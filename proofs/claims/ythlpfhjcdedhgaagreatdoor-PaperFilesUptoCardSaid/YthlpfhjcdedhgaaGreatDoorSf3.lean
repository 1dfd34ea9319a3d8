/- What the statement rests on: part 4. -/
import Derived.Test.YthlpfhjcdedhgaaGreatDoorSf2
import Derived.ChangeArms
import Derived.Test.YthlpfhjcdedhgaaGreatDoorRows
import Derived.WalkKit
import Derived.ProofKit
import Derived.LaidLaws
import Derived.Lib.LaidTab
namespace Go.Proofs.YthlpfhjcdedhgaaGreatDoor
open Go.Lift Go.Sort
set_option linter.unusedSimpArgs false
set_option linter.unusedVariables false
set_option maxHeartbeats 4000000
section
variable {w w1 w2 : World}
structure SuP (w w' : World) (b : Nat) (l : List UInt8) (p : Nat) (bad : Bool) (r : Value) : Prop where
 val : r = .int .i64 ((((if bad then none else (pairsF (l.drop p) 4).map valB).getD 0 : Nat)) : Int)
 rs : ∃ p', RS w' b l p' (if bad then none else (pairsF (l.drop p) 4).map valB).isNone /\ p' <= l.length /\ ((if bad then none else (pairsF (l.drop p) 4).map valB).isSome = true -> p' = p + 8)
 fr : Fr (λ c => c = b) w w'
theorem rsum_run {b p : Nat} {l : List UInt8} {bad : Bool} (h : RS w b l p bad) (hp : p <= l.length) (hl : l.length <= 4611686018427387904) :
  Run (F.granaryref4_Reader_sum (.pointer (some ⟨b, 0, none⟩))) w λ r w' => SuP w w' b l p bad r:=by
 unfold F.granaryref4_Reader_sum
 rw [Run_bind]
 refine (rbytes_run h hp hl (n:=4) (by decide) (by decide)).mono ?_
 rintro _ w1 ⟨rfl, ⟨p', hr, hple, hpe⟩, f1⟩
 generalize hB : (if bad = true then none else pairsF (l.drop p) 4) = B at *
 have hB' : (if bad = true then none else (pairsF (l.drop p) 4).map valB) = B.map valB:=by rw [<- hB]; cases bad <;> rfl
 have hBl : ((B.getD [])).length <= 4:=by
  cases hb : B with
  | none => simp
  | some bs =>
   rw [hb] at hB
   cases bad with
   | true => simp at hB
   | false => simp only [Bool.false_eq_true, if_false] at hB; rw [Option.getD_some, pairsF_len hB]; decide
 rw [Run_bind]
 generalize hbs : B.getD [] = bs at hBl
 refine Run_for bs.length (λ i L' w' => L' = [.int .i64 ((valB (bs.take i) : Nat) : Int), .int .i64 (i : Int)] /\ w' = w1) ⟨rfl, rfl⟩ ?_ ?_
 ·rintro i L' w3 hi ⟨rfl, hw3⟩
  rw [hw3]
  obtain ⟨c, hc⟩ : ∃ c, bs[i]? = some c:=⟨_, List.getElem?_eq_getElem hi⟩
  have ix:=idxSb (kd:=.i64) hc
  have hv:=valB_snoc (bs.take i) c
  rw [<- take_snocP hc] at hv
  have hlt:=valB_lt (bs.take i)
  have hp : 256 ^ (bs.take i).length <= 256 ^ 3:=Nat.pow_le_pow_right (by decide) (by rw [List.length_take]; omega)
  have e16 : (256 : Nat) ^ 3 = 16777216:=by decide
  rw [e16] at hp
  have hil : (i : Int) < bs.length:=by omega
  have wi:=wrap_succ' (n:=i) (by omega)
  have hct:=c.toNat_lt
  have wc : IntKind.i64.wrap (c.toNat : Int) = c.toNat:=i64W (by omega)
  generalize valB (bs.take i) = V at *
  have w2' : IntKind.i64.wrap (256 * (V : Int)) = ((256 * V : Nat) : Int):=by rw [show 256 * (V : Int) = ((256 * V : Nat) : Int) by omega]; exact i64W (by omega)
  have w3' : IntKind.i64.wrap (((256 * V : Nat) : Int) + (c.toNat : Int)) = ((256 * V + c.toNat : Nat) : Int):=by rw [show ((256 * V : Nat) : Int) + (c.toNat : Int) = ((256 * V + c.toNat : Nat) : Int) by omega]; exact i64W (by omega)
  rw [lenS_string, sb_size, Run_bindO_some, getL_succ, getL_zero, lssT hil, Run_bindO_some, Run_condM_true, getL_zero, binV_int, intBin_mul, w2', Run_bindO_some, ix, Run_bindO_some]
  simp only [by8, cvtI_int, wc, Run_bindO_some, binV_int, intBin_add, w3', wi, Run_ret]
  rw [hv]
  exact ⟨rfl, trivial⟩
 ·rintro L' w3 ⟨rfl, hw3⟩
  rw [hw3]
  have hn : ¬ ((bs.length : Nat) : Int) < bs.length:=by omega
  rw [lenS_string, sb_size, Run_bindO_some, getL_succ, getL_zero, lssF hn, Run_bindO_some, Run_condM_false, Run_ret]
  simp only [outK_exit, getL_zero]
  rw [show Nat.beq 0 0 = true from rfl, cond_true, Run_ret, List.take_length]
  refine ⟨?_, ⟨p', ?_, hple, ?_⟩, f1⟩
  ·rw [hB', <- hbs]; cases B <;> rfl
  ·rw [hB']; cases B <;> exact hr
  ·rw [hB']
   intro h
   refine hpe ?_
   cases B with
   | none => cases h
   | some _ => rfl
end
theorem hvN_hexd : ∀ i, i < 16 -> hvN (hexd i).toNat = some i:=by decide +kernel
theorem lowD_at (n : Nat) : ∀ (k i : Nat), i < k -> (lowD n k)[i]? = some (hexd (n / 16 ^ (k - 1 - i) % 16))
 | 0, i, h => absurd h (by omega)
 | k + 1, 0, _ => by simp [lowD]
 | k + 1, i + 1, h => by
  have:=lowD_at n k i (by omega)
  rw [show k + 1 - 1 - (i + 1) = k - 1 - i by omega]
  simpa [lowD] using this
theorem eight_pair (n : Nat) (r : List UInt8) {i : Nat} (hi : i < 4) : pairV (eightL n ++ r) i = some (UInt8.ofNat (16 * (n / 16 ^ (7 - 2 * i) % 16) + n / 16 ^ (6 - 2 * i) % 16)):=by
 have hl : (eightL n).length = 8:=lowD_len _ _
 unfold pairV
 rw [List.getElem?_append_left (by omega), List.getElem?_append_left (by omega)]
 unfold eightL
 rw [lowD_at n 8 (2 * i) (by omega), lowD_at n 8 (2 * i + 1) (by omega)]
 simp only
 rw [hvN_hexd _ (Nat.mod_lt _ (by decide)), hvN_hexd _ (Nat.mod_lt _ (by decide))]
 rw [show 8 - 1 - 2 * i = 7 - 2 * i by omega, show 8 - 1 - (2 * i + 1) = 6 - 2 * i by omega]
theorem ofNat_two (x y : Nat) (hx : x < 16) (hy : y < 16) : (UInt8.ofNat (16 * x + y)).toNat = 16 * x + y:=UInt8.toNat_ofNat_of_lt' (show 16 * x + y < UInt8.size by show _ < 256; omega)
theorem eight_read {n : Nat} (hn : n < 4294967296) (r : List UInt8) : (pairsF (eightL n ++ r) 4).map valB = some n:=by
 have e : pairsF (eightL n ++ r) 4 = some [UInt8.ofNat (16 * (n / 16 ^ 7 % 16) + n / 16 ^ 6 % 16), UInt8.ofNat (16 * (n / 16 ^ 5 % 16) + n / 16 ^ 4 % 16), UInt8.ofNat (16 * (n / 16 ^ 3 % 16) + n / 16 ^ 2 % 16), UInt8.ofNat (16 * (n / 16 ^ 1 % 16) + n / 16 ^ 0 % 16)]:=by
  simp only [pairsF, eight_pair n r (i:=0) (by decide), eight_pair n r (i:=1) (by decide), eight_pair n r (i:=2) (by decide), eight_pair n r (i:=3) (by decide)]
  rfl
 rw [e, Option.map_some]
 have m : ∀ a, n / 16 ^ a % 16 < 16:=λ a => Nat.mod_lt _ (by decide)
 simp only [valB, List.foldl_cons, List.foldl_nil]
 rw [ofNat_two _ _ (m 7) (m 6), ofNat_two _ _ (m 5) (m 4), ofNat_two _ _ (m 3) (m 2), ofNat_two _ _ (m 1) (m 0)]
 have d : ∀ a, n / 16 ^ (a + 1) = n / 16 ^ a / 16:=λ a => by rw [Nat.pow_succ, Nat.div_div_eq_div_mul]
 have h0 : n / 16 ^ 0 = n:=by simp
 rw [d 6, d 5, d 4, d 3, d 2, d 1, d 0, h0]
 refine congrArg some ?_
 omega
theorem eight_sum {n : Nat} (hn : n < 4294967296) : sumF (eightL n) = some n:=by
 unfold sumF
 have h:=eight_read hn []
 rw [List.append_nil] at h
 have hl : (eightL n).length = 8:=lowD_len _ _
 rw [if_pos hl, h]
theorem dec_small {n : Nat} (h : n < 10) : Lib.decDigits n = [UInt8.ofNat (48 + n)]:=by rw [Lib.decDigits, dif_pos h]
theorem dec_big {n : Nat} (h : ¬ n < 10) : Lib.decDigits n = Lib.decDigits (n / 10) ++ [UInt8.ofNat (48 + n % 10)]:=by conv => lhs; rw [Lib.decDigits, dif_neg h]
theorem dig_nat {k : Nat} (h : k < 10) : (UInt8.ofNat (48 + k)).toNat = 48 + k:=UInt8.toNat_ofNat_of_lt' (show 48 + k < 256 by omega)
theorem dec_facts (n : Nat) : (Lib.decDigits n).all isD = true /\ valL (Lib.decDigits n) = n /\ Lib.decDigits n ≠ [] /\ (1 <= n -> (Lib.decDigits n).head? ≠ some 48):=by
 induction n using Nat.strongRecOn with
 | _ n ih =>
  by_cases h : n < 10
  ·have hd:=dig_nat h
   rw [dec_small h]
   refine ⟨?_, ?_, by simp, λ h1 he => ?_⟩
   ·simp only [List.all_cons, List.all_nil, Bool.and_true, isD, hd, decide_eq_true_eq]; omega
   ·simp only [valL, List.foldl_cons, List.foldl_nil, valF, hd]; omega
   ·simp only [List.head?_cons, Option.some.injEq] at he
    have : (UInt8.ofNat (48 + n)).toNat = (48 : UInt8).toNat:=by rw [he]
    rw [hd] at this
    have e48 : (48 : UInt8).toNat = 48:=rfl
    omega
  ·obtain ⟨h1, h2, h3, h4⟩:=ih (n / 10) (by omega)
   have hd:=dig_nat (k:=n % 10) (Nat.mod_lt _ (by decide))
   rw [dec_big h]
   refine ⟨?_, ?_, by simp, λ _ he => ?_⟩
   ·rw [List.all_append, h1]
    simp only [List.all_cons, List.all_nil, Bool.and_true, Bool.true_and, isD, hd, decide_eq_true_eq]; omega
   ·rw [valL_snoc, h2, hd]; omega
   ·have e : (Lib.decDigits (n / 10) ++ [UInt8.ofNat (48 + n % 10)]).head? = (Lib.decDigits (n / 10)).head?:=by
     obtain ⟨c, r, e⟩:=List.exists_cons_of_ne_nil h3
     rw [e]; rfl
    rw [e] at he
    exact h4 (by omega) he
theorem nDig_pow : ∀ (k n : Nat), 1 <= k -> n < 10 ^ k -> Lib.nDigits n <= k
 | 0, _, h, _ => absurd h (by decide)
 | k + 1, n, _, h => by
  by_cases hn : n < 10
  ·rw [Lib.nDigits_small hn]; omega
  ·rw [Lib.nDigits_big hn]
   rw [Nat.pow_succ] at h
   rcases Nat.eq_zero_or_pos k with rfl | hk
   ·omega
   ·have:=nDig_pow k (n / 10) hk (by omega)
    omega
theorem dec_le16 {n : Nat} (h : n < 10000000000000000) : (Lib.decDigits n).length <= 16:=by
 rw [Lib.decDigits_length]
 exact nDig_pow 16 n (by decide) h
theorem dec_num {n : Nat} (h : n < 10000000000000000) : numF (Lib.decDigits n) = some n:=by
 obtain ⟨h1, h2, h3, h4⟩:=dec_facts n
 unfold numF
 rw [if_neg, h2]
 rintro (hh | hh | ⟨ha, hb⟩ | hh)
 ·exact h3 hh
 ·have:=dec_le16 h; omega
 ·by_cases hn : n < 10
  ·rw [dec_small hn] at ha; simp at ha
  ·exact h4 (by omega) hb
 ·rw [h1] at hh; cases hh
section
variable {w w1 w2 : World}
structure NS (w0 w : World) (v : Value) (N : List (List UInt8)) (x1 x8 x9 : Nat) (l8 l9 : List Value) : Prop where
 tb : Tb w
 ws : Sl 1 w v (N.map λ x => [.string (sb x)])
 b1 : bk w x1 = some [.int .i64 0, .int .i64 0, .int .i64 0, .int .i64 0]
 w1 : wr w x1 = true
 b8 : bk w x8 = some l8
 w8 : wr w x8 = true
 b9 : bk w x9 = some l9
 w9 : wr w x9 = true
 e8 : l8.length = 4
 e9 : l9.length = 5
 n1 : w0.heap.size <= x1
 n8 : w0.heap.size <= x8
 n9 : w0.heap.size <= x9
 d8 : x1 ≠ x8 /\ x1 ≠ x9 /\ x8 ≠ x9 /\ ¬ inB v x8 /\ ¬ inB v x9
 low : 11 <= w0.heap.size
 fr : Fr (λ _ => False) w0 w
theorem NS.frm {w0 : World} {v : Value} {N : List (List UInt8)} {x1 x8 x9 : Nat} {l8 l9 : List Value} (h : NS w0 w v N x1 x8 x9 l8 l9) (f : Fr (λ _ => False) w w2) : NS w0 w2 v N x1 x8 x9 l8 l9 where
 tb:=h.tb.fr0 f
 ws:=h.ws.fr0 f
 b1:=f.bk_some h.b1 id
 w1:=by rw [f.wr (bk_lt h.b1) id]; exact h.w1
 b8:=f.bk_some h.b8 id
 w8:=by rw [f.wr (bk_lt h.b8) id]; exact h.w8
 b9:=f.bk_some h.b9 id
 w9:=by rw [f.wr (bk_lt h.b9) id]; exact h.w9
 e8:=h.e8
 e9:=h.e9
 n1:=h.n1
 n8:=h.n8
 n9:=h.n9
 d8:=h.d8
 low:=h.low
 fr:=h.fr.trans f λ _ _ => id
theorem NS.word {β : Type} {w0 : World} {v : Value} {N : List (List UInt8)} {x1 x8 x9 : Nat} {l8 l9 : List Value} (h : NS w0 w v N x1 x8 x9 l8 l9) {i : Nat} {s : List UInt8} (hs : N[i]? = some s) {Fn : Value -> M Value} {g : List UInt8 -> Option Nat}
  (hF : ∀ w, Run (Fn (.string (sb s))) w λ r w' => r = numV (g s) /\ Fr (λ _ => False) w w') {K : Value -> M β} {Q : β -> World -> Prop} (q : ∀ w', NS w0 w' v N x1 x8 x9 l8 l9 -> Run (K (numV (g s))) w' Q) :
  Run (bindO (idxA 1 v (.int .i64 (i : Int))) λ x10 => M.bind (rdM (ld1 x10)) λ x11 => M.bind (Fn x11) K) w Q:=by
 obtain ⟨p, p1, p2⟩:=h.ws.rd1 (i:=i) (y:=.string (sb s)) (by simp [hs]) .i64
 have p1' : idxA 1 v (.int .i64 (i : Int)) = some p:=p1
 rw [p1', Run_bindO_some, Run_bind, Run_rdM]
 refine ⟨_, p2, ?_⟩
 rw [Run_bind]
 refine (hF w).mono ?_
 rintro _ w' ⟨rfl, f⟩
 exact q w' (h.frm f)
end
section
variable {w w1 w2 : World}
theorem tb_low (ht : Tb w) : 11 <= w.heap.size:=by
 obtain ⟨l, h, _⟩:=ht.bits
 have:=bk_lt h
 omega
end
section
variable {w w1 w2 : World}
structure RN (w0 w : World) (b : Nat) (l : List UInt8) (p : Nat) (bad : Bool) (x1 x6 : Nat) (l6 : List Value) : Prop where
 tb : Tb w
 rs : RS w b l p bad
 hp : p <= l.length
 b1 : bk w x1 = some [.int .i64 0, .int .i64 0, .int .i64 0, .int .i64 0]
 w1 : wr w x1 = true
 b6 : bk w x6 = some l6
 w6 : wr w x6 = true
 e6 : l6.length = 4
 n1 : w0.heap.size <= x1
 n6 : w0.heap.size <= x6
 ne : x1 ≠ x6
 nb : b < w0.heap.size
 b5 : 11 <= b
 fr : Fr (λ c => c = b) w0 w
theorem RN.call {w0 : World} {b p : Nat} {l : List UInt8} {bad : Bool} {x1 x6 : Nat} {l6 : List Value} (h : RN w0 w b l p bad x1 x6 l6) (f : Fr (λ c => c = b) w w2) {p' : Nat} {bad' : Bool} (rs : RS w2 b l p' bad') (hp : p' <= l.length) : RN w0 w2 b l p' bad' x1 x6 l6 where
 tb:=h.tb.fr f λ c hc he => by have:=h.b5; omega
 rs:=rs
 hp:=hp
 b1:=f.bk_some h.b1 λ e => by have:=h.n1; have:=h.nb; omega
 w1:=by rw [f.wr (bk_lt h.b1) λ e => by have:=h.n1; have:=h.nb; omega]; exact h.w1
 b6:=f.bk_some h.b6 λ e => by have:=h.n6; have:=h.nb; omega
 w6:=by rw [f.wr (bk_lt h.b6) λ e => by have:=h.n6; have:=h.nb; omega]; exact h.w6
 e6:=h.e6
 n1:=h.n1
 n6:=h.n6
 ne:=h.ne
 nb:=h.nb
 b5:=h.b5
 fr:=h.fr.trans f λ _ _ he => he
theorem RN.put6 {w0 : World} {b p : Nat} {l : List UInt8} {bad : Bool} {x1 x6 : Nat} {l6 : List Value} (h : RN w0 w b l p bad x1 x6 l6) (i : Nat) (y : Value) : RN w0 (sto w x6 i [y]) b l p bad x1 x6 (l6.set i y):=by
 have f : Fr (λ c => c = x6) w (sto w x6 i [y]):=(show Fr (λ c => c = x6) w w from Fr.refl _ _).sto (.inl rfl) _ _
 have h6:=h.n6
 have hb:=h.nb
 have h5:=h.b5
 exact {
   tb:=h.tb.fr f λ c hc he => by omega
   rs:=⟨f.bk_some h.rs.1 λ e => by omega, by rw [wr_sto]; exact h.rs.2⟩
   hp:=h.hp
   b1:=f.bk_some h.b1 h.ne
   w1:=by rw [wr_sto]; exact h.w1
   b6:=by rw [bk_sto_same h.b6]; simp only [setL_cons, setL_nil]
   w6:=by rw [wr_sto]; exact h.w6
   e6:=by rw [List.length_set]; exact h.e6
   n1:=h.n1, n6:=h.n6, ne:=h.ne, nb:=h.nb, b5:=h.b5
   fr:=h.fr.sto (.inr h.n6) _ _ }
theorem RN.num {β : Type} {w0 : World} {b p : Nat} {l : List UInt8} {bad : Bool} {x1 x6 : Nat} {l6 : List Value} (h : RN w0 w b l p bad x1 x6 l6) (hl : l.length <= 4611686018427387904) {i : Nat} (hi : i < 4) {K : M β} {Q : β -> World -> Prop}
  (q : ∀ w', RN w0 w' b l (p + (rdD l p).length) (bad || (numF (rdD l p)).isNone) x1 x6 (l6.set i (.int .i64 (((numF (rdD l p)).getD 0 : Nat) : Int))) -> Run K w' Q) :
  Run (M.bind (F.granaryref4_Reader_number (.pointer (some ⟨b, 0, none⟩))) λ x8 => bindO (fieldA i (.pointer (some ⟨x6, 0, none⟩))) λ x9 => M.bind (stM 1 x9 x8) λ _ => K) w Q:=by
 rw [Run_bind]
 refine (rnum_run h.rs h.hp hl).mono ?_
 rintro _ w2 ⟨rfl, rs, f⟩
 have hd:=rdD_len l p
 have hple:=h.hp
 have h2:=h.call f rs (by omega)
 rw [fieldA_ptr, Run_bindO_some, Run_bind, Run_stM (by rfl) (by rfl) ⟨⟨l6, h2.b6, by rw [h2.e6]; show 0 + i + 1 <= 4; omega⟩, h2.w6⟩]
 have h3:=h2.put6 (0 + i) (.int .i64 (((numF (rdD l p)).getD 0 : Nat) : Int))
 have q2:=q (sto w2 x6 (0 + i) [.int .i64 (((numF (rdD l p)).getD 0 : Nat) : Int)])
 rw [Nat.zero_add] at h3 q2
 rw [Nat.zero_add]
 exact q2 h3
theorem RN.lit {β : Type} {w0 : World} {b p : Nat} {l : List UInt8} {bad : Bool} {x1 x6 : Nat} {l6 : List Value} (h : RN w0 w b l p bad x1 x6 l6) (hl : l.length <= 4611686018427387904) {y : List UInt8} (hy : y.length <= 4611686018427387904) {K : M β} {Q : β -> World -> Prop}
  (q : ∀ w' p', RN w0 w' b l p' (bad || !decide (y <+: l.drop p)) x1 x6 l6 -> (bad = false -> y <+: l.drop p -> p' = p + y.length) -> Run K w' Q) :
  Run (M.bind (F.granaryref4_Reader_lit (.pointer (some ⟨b, 0, none⟩)) (.string (sb y))) λ _ => K) w Q:=by
 rw [Run_bind]
 refine (rlit_run h.rs h.hp hl hy).mono ?_
 rintro _ w2 ⟨⟨p', rs, hp', hh⟩, f⟩
 exact q w2 p' (h.call f rs hp') hh
theorem RN.sum {β : Type} {w0 : World} {b p : Nat} {l : List UInt8} {bad : Bool} {x1 x6 : Nat} {l6 : List Value} (h : RN w0 w b l p bad x1 x6 l6) (hl : l.length <= 4611686018427387904) {i : Nat} (hi : i < 4) {K : M β} {Q : β -> World -> Prop}
  (q : ∀ w' p', RN w0 w' b l p' (if bad then none else (pairsF (l.drop p) 4).map valB).isNone x1 x6 (l6.set i (.int .i64 ((((if bad then none else (pairsF (l.drop p) 4).map valB).getD 0 : Nat)) : Int))) -> Run K w' Q) :
  Run (M.bind (F.granaryref4_Reader_sum (.pointer (some ⟨b, 0, none⟩))) λ x8 => bindO (fieldA i (.pointer (some ⟨x6, 0, none⟩))) λ x9 => M.bind (stM 1 x9 x8) λ _ => K) w Q:=by
 rw [Run_bind]
 refine (rsum_run h.rs h.hp hl).mono ?_
 rintro _ w2 ⟨rfl, ⟨p', rs, hp', _⟩, f⟩
 have h2:=h.call f rs hp'
 generalize (if bad = true then none else (pairsF (l.drop p) 4).map valB) = o at *
 rw [fieldA_ptr, Run_bindO_some, Run_bind, Run_stM (by rfl) (by rfl) ⟨⟨l6, h2.b6, by rw [h2.e6]; show 0 + i + 1 <= 4; omega⟩, h2.w6⟩]
 have h3:=h2.put6 (0 + i) (.int .i64 ((o.getD 0 : Nat) : Int))
 have q2:=q (sto w2 x6 (0 + i) [.int .i64 ((o.getD 0 : Nat) : Int)]) p'
 rw [Nat.zero_add] at h3 q2
 rw [Nat.zero_add]
 exact q2 h3
end
def allL (ns : List Nt) : List UInt8:=(ns.map noteL).flatten
structure Chn (l : List UInt8) (ns : List Nt) : Prop where
 ok : ∀ n ∈ ns, n.ok
 pre : allL ns <+: l
 far : ∀ n : Nt, n.ok -> ¬ noteL n <+: l.drop (allL ns).length
theorem note_len (n : Nt) : 1 <= (noteL n).length:=by simp [noteL]; omega
theorem Chn.at {l : List UInt8} {ns : List Nt} (h : Chn l ns) {i : Nat} {n : Nt} (hi : ns[i]? = some n) : n.ok /\ noteL n <+: l.drop (allL (ns.take i)).length /\ allL (ns.take (i + 1)) = allL (ns.take i) ++ noteL n /\ (allL (ns.take i)).length + (noteL n).length <= l.length:=by
 have e : allL (ns.take (i + 1)) = allL (ns.take i) ++ noteL n:=by
  rw [take_snocP hi]; simp [allL]
 have hsplit : allL ns = allL (ns.take (i + 1)) ++ allL (ns.drop (i + 1)):=by
  unfold allL
  rw [<- List.flatten_append, <- List.map_append, List.take_append_drop]
 obtain ⟨r, hr⟩:=h.pre
 rw [hsplit, e] at hr
 refine ⟨h.ok n (List.mem_of_getElem? hi), ⟨allL (ns.drop (i + 1)) ++ r, ?_⟩, e, ?_⟩
 ·rw [<- hr]; simp
 ·rw [<- hr, List.length_append, List.length_append, List.length_append]; omega
theorem Chn.count {l : List UInt8} {ns : List Nt} (h : Chn l ns) : ns.length <= l.length:=by
 have h1:=h.pre.length_le
 have h2 : ∀ ns : List Nt, ns.length <= (allL ns).length:=λ ns => by
  induction ns with
  | nil => simp
  | cons n ns ih =>
   have:=note_len n
   simp only [allL, List.map_cons, List.flatten_cons, List.length_append, List.length_cons] at ih ⊢
   omega
 have:=h2 ns
 omega
section
variable {w w1 w2 : World}
def Nt.row (n : Nt) : List Value:=[.int .i64 n.k, .int .i64 n.f, .int .i64 n.u, .int .i64 n.c]
structure OwnN (w w1 : World) (v : Value) (ns : List Nt) : Prop where
 sl : SlW 4 w1 v (ns.map Nt.row)
 fresh : ∀ c, inB v c -> w.heap.size <= c /\ c < w1.heap.size
 fr : Fr (λ _ => False) w w1
theorem OwnN.frm {v : Value} {ns : List Nt} (h : OwnN w w1 v ns) (f : Fr (λ _ => False) w1 w2) : OwnN w w2 v ns:=⟨h.sl.fr f λ _ _ => id, λ c hc => ⟨(h.fresh c hc).1, Nat.lt_of_lt_of_le (h.fresh c hc).2 f.size⟩, h.fr.trans f λ _ _ => id⟩
end
end Go.Proofs.YthlpfhjcdedhgaaGreatDoor
namespace Go.Lift
section
variable {H : Type} {enc : TypeId × Value -> H} {P : Program} {w : World}
theorem cells_get {base : Nat} {a : Addr} {n : Nat} {cs : List Value} (h : w.cells? base a n = some cs) : cs.length = n /\ ∀ j, j < n -> w.cell? (a.add j) = cs[j]?:=by
 unfold World.cells? at h
 split at h
 ·have hl:=mapM_some_length h
  refine ⟨by simpa using hl, λ j hj => mapM_some_get h j j (by simp [hj])⟩
 ·cases h
theorem cell_some {a : Addr} {v : Value} (h : w.cell? a = some v) : a.spot = none /\ ∃ l, bk w a.block = some l /\ l[a.off]? = some v:=by
 unfold World.cell? at h
 unfold bk
 cases hh : w.heap[a.block]? with
 | none => simp [hh] at h
 | some x =>
  cases x with
  | cells c t m =>
   simp only [hh] at h ⊢
   split at h
   ·cases h
   ·rename_i hs
    refine ⟨?_, c.toList, rfl, by simpa using h⟩
    cases hsp : a.spot with
    | none => rfl
    | some s => rw [hsp] at hs; simp at hs
  | _ => simp [hh] at h
theorem open_sl {t e : TypeId} {fuel k : Nat} {cs : List Value} {x : DataW H × List MemPlace} (ht : P.underlying t = some (.slice e)) (hk : P.cellsOf e = k) (hk0 : 0 < k)
  (h : DataW.trod enc P w 0 (λ _ => true) true fuel t cs = some x) :
  ∃ v els, cs = [v] /\ Sl k w v els /\ ((x.1 = .nil /\ els = []) ∨ ∃ Ds spare, x.1 = .slice Ds spare /\ Ds.length = els.length /\
   ∀ (i : Nat) (c : List Value) (d : DataW H), els[i]? = some c -> Ds[i]? = some d -> ∃ n ps, DataW.trod enc P w 0 (λ _ => true) true n e c = some (d, ps)):=by
 rcases DataW.trod_slice ht h with ⟨rfl, rfl⟩ | ⟨a, len, cap, elems, rest, n, _, rfl, rfl, hb, hl, hm, hlen, hel, hsp, hns⟩
 ·exact ⟨_, [], rfl, Sl.nil k w, .inl ⟨rfl, rfl⟩⟩
 obtain ⟨hrl, hrs⟩:=hsp rfl
 rw [hk] at hel hrs
 have hall : ∀ i, i < cap -> ∃ c' y, w.cells? 0 (a.add (i * k)) k = some c' /\ DataW.trod enc P w 0 (λ _ => true) true n e c' = some y /\ (i < len -> elems[i]? = some y):=by
  intro i hi
  by_cases hil : i < len
  ·have h1:=hel i hil
   rw [List.getElem?_eq_getElem (by omega)] at h1
   obtain ⟨c', h2, h3⟩:=Option.bind_eq_some_iff.1 h1
   exact ⟨c', _, h2, h3, λ _ => List.getElem?_eq_getElem (by omega)⟩
  ·have h1:=hrs (i - len) (by omega)
   rw [show len + (i - len) = i by omega, List.getElem?_eq_getElem (by omega)] at h1
   obtain ⟨c', h2, h3⟩:=Option.bind_eq_some_iff.1 h1
   exact ⟨c', _, h2, h3, λ h => absurd h hil⟩
 by_cases hc0 : cap = 0
 ·have hl0 : len = 0:=by omega
  subst hc0; subst hl0
  refine ⟨_, [], rfl, ⟨by simp, some a, 0, rfl, Nat.le_refl _, .inl rfl⟩, .inr ⟨_, _, rfl, by simp [hlen], λ i c d hi => by simp at hi⟩⟩
 obtain ⟨b, o, sp⟩:=a
 have h00 : w.cell? ⟨b, o, sp⟩ ≠ none:=by
  obtain ⟨c', y, h1, _⟩:=hall 0 (by omega)
  have h2:=(cells_get h1).2 0 hk0
  have h3:=(cells_get h1).1
  have e : ((⟨b, o, sp⟩ : Addr).add (0 * k)).add 0 = ⟨b, o, sp⟩:=by simp [Addr.add]
  rw [e, List.getElem?_eq_getElem (by omega)] at h2
  rw [h2]; simp
 obtain ⟨v0, hv0⟩:=Option.ne_none_iff_exists'.1 h00
 obtain ⟨hsp0, l, hbk, _⟩:=cell_some hv0
 simp only at hsp0 hbk
 subst hsp0
 have hread : ∀ i j, i < cap -> j < k -> ∃ c', w.cells? 0 ((⟨b, o, none⟩ : Addr).add (i * k)) k = some c' /\ l[o + i * k + j]? = c'[j]? /\ o + i * k + j < l.length:=by
  intro i j hi hj
  obtain ⟨c', y, h1, _⟩:=hall i hi
  have h2:=(cells_get h1).2 j hj
  have h3:=(cells_get h1).1
  rw [Addr.add_lit, Addr.add_lit, List.getElem?_eq_getElem (by omega)] at h2
  obtain ⟨_, l', hbk', hg⟩:=cell_some h2
  simp only at hbk' hg
  rw [hbk] at hbk'; cases hbk'
  refine ⟨c', h1, ?_, (List.getElem?_eq_some_iff.1 hg).1⟩
  rw [hg, List.getElem?_eq_getElem (by omega)]
 have hfit : o + cap * k <= l.length:=by
  obtain ⟨_, _, _, h1⟩:=hread (cap - 1) (k - 1) (by omega) (by omega)
  obtain ⟨q, hq⟩ : ∃ q, cap = q + 1:=⟨cap - 1, by omega⟩
  rw [hq, show q + 1 - 1 = q by omega] at h1
  rw [hq, Nat.add_mul]
  omega
 have hels : ∀ m, m <= cap -> ((List.range m).map λ i => (l.drop (o + i * k)).take k).flatten = (l.drop o).take (m * k):=by
  intro m
  induction m with
  | zero => intro _; simp
  | succ m ih =>
   intro hmc
   rw [List.range_succ, List.map_append, List.flatten_append, ih (by omega)]
   simp only [List.map_cons, List.map_nil, List.flatten_cons, List.flatten_nil, List.append_nil]
   rw [Nat.add_mul, Nat.one_mul, List.take_add, List.drop_drop]
 have hlk : len * k <= cap * k:=Nat.mul_le_mul_right _ hl
 refine ⟨_, (List.range len).map λ i => (l.drop (o + i * k)).take k, rfl, ⟨?_, some ⟨b, o, none⟩, cap, by simp, by simpa using hl, .inr ⟨b, o, l, rfl, hbk, hfit, ?_⟩⟩, .inr ⟨_, _, rfl, by simp [hlen], ?_⟩⟩
 ·intro c hc
  obtain ⟨i, hi, rfl⟩:=List.mem_map.1 hc
  have hi' : i < len:=List.mem_range.1 hi
  have : (i + 1) * k <= cap * k:=Nat.mul_le_mul_right _ (by omega)
  rw [Nat.add_mul] at this
  rw [List.length_take, List.length_drop]
  omega
 ·rw [hels len hl]; simp
 ·intro i c d hc hd
  have hil : i < len:=by
   have:=(List.getElem?_eq_some_iff.1 hc).1
   simpa using this
  simp [hil] at hc
  obtain ⟨c', y, h1, h2, h3⟩:=hall i (by omega)
  have he:=h3 hil
  rw [List.getElem?_map, he] at hd
  simp at hd
  subst hd
  refine ⟨n, y.2, ?_⟩
  have hcc : c = c':=by
   have hcl:=(cells_get h1).1
   have : (i + 1) * k <= cap * k:=Nat.mul_le_mul_right _ (by omega)
   rw [Nat.add_mul] at this
   apply List.ext_getElem?
   intro j
   by_cases hj : j < k
   ·obtain ⟨c2, h4, h5, h6⟩:=hread i j (by omega) hj
    rw [h1] at h4; cases h4
    rw [<- h5, <- hc, List.getElem?_take, if_pos hj, List.getElem?_drop]
   ·rw [List.getElem?_eq_none (by rw [<- hc, List.length_take]; omega), List.getElem?_eq_none (by omega)]
  rw [hcc]; exact h2
end
end Go.Lift
namespace Go.Proofs.YthlpfhjcdedhgaaGreatDoor
open Go.Lift
inductive Shs where
 | nil
 | int (k : IntKind) (r : Shs)
 | bool (r : Shs)
 | str (r : Shs)
 | slice (e r : Shs)
def Shs.len : Shs -> Nat
 | .nil => 0
 | .int _ r => r.len + 1
 | .bool r => r.len + 1
 | .str r => r.len + 1
 | .slice _ r => r.len + 1
def Shs.app : Shs -> Shs -> Shs
 | .nil, s => s
 | .int k r, s => .int k (r.app s)
 | .bool r, s => .bool (r.app s)
 | .str r, s => .str (r.app s)
 | .slice e r, s => .slice e (r.app s)
def shFields (sh : TypeId -> Option Shs) : List Field -> Nat -> Option Shs
 | [], _ => some .nil
 | f :: fs, off => if f.offset = off then match sh f.type with
   | some s => match shFields sh fs (off + s.len) with
    | some r => some (s.app r)
    | none => none
   | none => none
  else none
def shOf (P : Program) : Nat -> TypeId -> Option Shs
 | 0, _ => none
 | n + 1, t => match P.underlying t with
  | some (.int k) => some (.int k .nil)
  | some .bool => some (.bool .nil)
  | some .string => some (.str .nil)
  | some (.slice e) => match shOf P n e with
   | some s => if 0 < s.len /\ P.cellsOf e = s.len then some (.slice s .nil) else none
   | none => none
  | some (.struct fs) => match shFields (shOf P n) fs.toList 0 with
   | some s => if P.cellsOf t = s.len then some s else none
   | none => none
  | _ => none
def Shs.Rd (w : World) : Shs -> List Value -> Nat -> Prop
 | .nil, cs, _ => cs = []
 | .int k r, cs, n => ∃ (i : Int) (cs' : List Value) (m : Nat), cs = .int k i :: cs' /\ (Lit.int k i).wf = true /\ m + 1 <= n /\ r.Rd w cs' m
 | .bool r, cs, n => ∃ (b : Bool) (cs' : List Value) (m : Nat), cs = .bool b :: cs' /\ m + 1 <= n /\ r.Rd w cs' m
 | .str r, cs, n => ∃ (s : ByteArray) (cs' : List Value) (m : Nat), cs = .string s :: cs' /\ m + (s.size + 1) <= n /\ r.Rd w cs' m
 | .slice e r, cs, n => ∃ (v : Value) (els : List (List Value)) (cs' : List Value) (ns : List Nat) (m : Nat), cs = v :: cs' /\ Sl e.len w v els /\ ns.length = els.length /\
   (∀ (i : Nat) (c : List Value) (k : Nat), els[i]? = some c -> ns[i]? = some k -> 1 <= k /\ e.Rd w c k) /\ m + (ns.sum + 1) <= n /\ r.Rd w cs' m
theorem Shs.app_len : ∀ a b : Shs, (a.app b).len = a.len + b.len
 | .nil, b => by simp [Shs.app, Shs.len]
 | .int k r, b => by simp only [Shs.app, Shs.len, Shs.app_len r b]; omega
 | .bool r, b => by simp only [Shs.app, Shs.len, Shs.app_len r b]; omega
 | .str r, b => by simp only [Shs.app, Shs.len, Shs.app_len r b]; omega
 | .slice e r, b => by simp only [Shs.app, Shs.len, Shs.app_len r b]; omega
section
variable {w : World}
theorem Shs.Rd.len : ∀ {s : Shs} {cs : List Value} {n : Nat}, s.Rd w cs n -> cs.length = s.len
 | .nil, cs, n, h => by cases h; rfl
 | .int k r, cs, n, ⟨i, cs', m, h1, _, _, h3⟩ => by subst h1; simp [Shs.len, Shs.Rd.len h3]
 | .bool r, cs, n, ⟨i, cs', m, h1, _, h3⟩ => by subst h1; simp [Shs.len, Shs.Rd.len h3]
 | .str r, cs, n, ⟨i, cs', m, h1, _, h3⟩ => by subst h1; simp [Shs.len, Shs.Rd.len h3]
 | .slice e r, cs, n, ⟨v, els, cs', ns, m, h1, _, _, _, _, h3⟩ => by subst h1; simp [Shs.len, Shs.Rd.len h3]
theorem Shs.Rd.mono : ∀ {s : Shs} {cs : List Value} {n n' : Nat}, s.Rd w cs n -> n <= n' -> s.Rd w cs n'
 | .nil, cs, n, n', h, _ => h
 | .int k r, cs, n, n', ⟨i, cs', m, h1, h0, h2, h3⟩, h => ⟨i, cs', m, h1, h0, by omega, h3⟩
 | .bool r, cs, n, n', ⟨i, cs', m, h1, h2, h3⟩, h => ⟨i, cs', m, h1, by omega, h3⟩
 | .str r, cs, n, n', ⟨i, cs', m, h1, h2, h3⟩, h => ⟨i, cs', m, h1, by omega, h3⟩
 | .slice e r, cs, n, n', ⟨v, els, cs', ns, m, h1, h2, h3, h4, h5, h6⟩, h => ⟨v, els, cs', ns, m, h1, h2, h3, h4, by omega, h6⟩
theorem Shs.Rd.app : ∀ {a b : Shs} {cs ds : List Value} {n k : Nat}, a.Rd w cs n -> b.Rd w ds k -> (a.app b).Rd w (cs ++ ds) (n + k)
 | .nil, b, cs, ds, n, k, h, h' => by cases h; exact h'.mono (by omega)
 | .int _ r, b, cs, ds, n, k, ⟨i, cs', m, h1, h0, h2, h3⟩, h' => ⟨i, cs' ++ ds, m + k, by rw [h1]; rfl, h0, by omega, h3.app h'⟩
 | .bool r, b, cs, ds, n, k, ⟨i, cs', m, h1, h2, h3⟩, h' => ⟨i, cs' ++ ds, m + k, by rw [h1]; rfl, by omega, h3.app h'⟩
 | .str r, b, cs, ds, n, k, ⟨i, cs', m, h1, h2, h3⟩, h' => ⟨i, cs' ++ ds, m + k, by rw [h1]; rfl, by omega, h3.app h'⟩
 | .slice e r, b, cs, ds, n, k, ⟨v, els, cs', ns, m, h1, h2, h3, h4, h5, h6⟩, h' => ⟨v, els, cs' ++ ds, ns, m + k, by rw [h1]; rfl, h2, h3, h4, by omega, h6.app h'⟩
end
theorem bulkT_one {H : Type} (d : DataW H) : 1 <= Rows.uptoBulk d:=by
 cases d with
 | lit l => cases l <;> simp [Rows.uptoBulk]
 | nil => simp [Rows.uptoBulk]
 | ptr d => simp [Rows.uptoBulk]
 | slice elems spare => simp [Rows.uptoBulk]
 | agg parts => simp [Rows.uptoBulk]
 | iface t d => simp [Rows.uptoBulk]
 | map entries => simp [Rows.uptoBulk]
 | held h => simp [Rows.uptoBulk]
theorem bulkT_sum {H : Type} : ∀ l : List (DataW H), (l.map Rows.uptoBulk).sum = Rows.uptoBulkAll l
 | [] => by simp [Rows.uptoBulkAll]
 | x :: r => by simp [Rows.uptoBulkAll, bulkT_sum r]
theorem take_of_len {l : List Value} {c k : Nat} (h : (l.take c).length = k) : l.take c = l.take k:=by
 rw [List.length_take] at h
 have : l.take k = (l.take c).take k:=by
  rw [List.take_take]
  by_cases hc : k <= c
  ·rw [Nat.min_eq_left hc]
  ·omega
 exact (this.trans (List.take_of_length_le (by rw [List.length_take]; omega))).symm
section
variable {H : Type} {enc : TypeId × Value -> H} {P : Program} {w : World}
theorem rd_fields {sh : TypeId -> Option Shs} {n : Nat} (ih : ∀ t s cs x, sh t = some s -> DataW.trod enc P w 0 (λ _ => true) true n t cs = some x -> s.Rd w cs (Rows.uptoBulk x.1)) (cs : List Value) :
  ∀ (fs : List Field) (off : Nat) (s : Shs) (xs : List (DataW H × List MemPlace)), shFields sh fs off = some s -> xs.length = fs.length ->
   (∀ (i : Nat) (f : Field), fs[i]? = some f -> DataW.trod enc P w 0 (λ _ => true) true n f.type ((cs.drop f.offset).take (P.cellsOf f.type)) = xs[i]?) ->
   s.Rd w ((cs.drop off).take s.len) (Rows.uptoBulkAll (xs.map (·.1)))
 | [], off, s, xs, h, _, _ => by
  cases h
  simp [Shs.len, Shs.Rd]
 | f :: fs, off, s, xs, h, hl, hf => by
  cases xs with
  | nil => simp at hl
  | cons x xs =>
   unfold shFields at h
   split at h
   ·rename_i hoff
    cases h1 : sh f.type with
    | none => simp [h1] at h
    | some a =>
     simp only [h1] at h
     cases h2 : shFields sh fs (off + a.len) with
     | none => simp [h2] at h
     | some r =>
      simp only [h2, Option.some.injEq] at h
      subst h
      have e0:=hf 0 f rfl
      rw [List.getElem?_cons_zero] at e0
      have r0:=ih _ _ _ _ h1 e0
      have hlen:=r0.len
      rw [take_of_len hlen, hoff] at r0
      have r1:=rd_fields ih cs fs (off + a.len) r xs h2 (by simpa using hl) λ i g hg => by
       have:=hf (i + 1) g (by simpa using hg)
       simpa using this
      have:=r0.app r1
      rw [Shs.app_len, List.take_add, List.drop_drop]
      simp only [List.map_cons, Rows.uptoBulkAll]
      exact this
   ·cases h
theorem rd_of_trod : ∀ (n : Nat) (t : TypeId) (s : Shs) (fuel : Nat) (cs : List Value) (x : DataW H × List MemPlace), shOf P n t = some s -> DataW.trod enc P w 0 (λ _ => true) true fuel t cs = some x -> s.Rd w cs (Rows.uptoBulk x.1)
 | 0, t, s, fuel, cs, x, h, _ => by cases h
 | n + 1, t, s, fuel, cs, x, h, hx => by
  unfold shOf at h
  split at h
  ·rename_i k hu
   cases h
   obtain ⟨i, rfl, rfl, hr⟩:=DataW.trod_int hu hx
   exact ⟨i, [], 0, rfl, hr, bulkT_one _, rfl⟩
  ·rename_i hu
   cases h
   obtain ⟨i, rfl, rfl⟩:=DataW.trod_bool hu hx
   exact ⟨i, [], 0, rfl, bulkT_one _, rfl⟩
  ·rename_i hu
   cases h
   obtain ⟨i, rfl, rfl, _⟩:=DataW.trod_string hu hx
   refine ⟨i, [], 0, rfl, ?_, rfl⟩
   simp only [Rows.uptoBulk, Array.length_toList, Nat.zero_add]
   exact Nat.le_refl _
  ·rename_i e hu
   cases h1 : shOf P n e with
   | none => simp [h1] at h
   | some a =>
    simp only [h1] at h
    split at h
    ·rename_i hc
     cases h
     obtain ⟨v, els, rfl, hs, hcase⟩:=open_sl hu hc.2 hc.1 hx
     rcases hcase with ⟨hn, rfl⟩ | ⟨Ds, spare, hd, hl, hel⟩
     ·refine ⟨v, [], [], [], 0, rfl, hs, rfl, λ i c k hi => by simp at hi, ?_, rfl⟩
      rw [hn]; simp [Rows.uptoBulk]
     ·refine ⟨v, els, [], Ds.map Rows.uptoBulk, 0, rfl, hs, by simpa using hl, λ i c k hi hk => ?_, ?_, rfl⟩
      ·rw [List.getElem?_map] at hk
       cases hd' : Ds[i]? with
       | none => simp [hd'] at hk
       | some d =>
        simp only [hd', Option.map_some, Option.some.injEq] at hk
        subst hk
        obtain ⟨m, ps, hm⟩:=hel i c d hi hd'
        exact ⟨bulkT_one d, rd_of_trod n e a m c (d, ps) h1 hm⟩
      ·rw [hd, bulkT_sum]; simp only [Rows.uptoBulk]; omega
    ·cases h
  ·rename_i fs hu
   cases h1 : shFields (shOf P n) fs.toList 0 with
   | none => simp [h1] at h
   | some a =>
    simp only [h1] at h
    split at h
    ·rename_i hc
     cases h
     obtain ⟨xs, m, _, rfl, hl, hxl, hf⟩:=DataW.trod_struct hu hx
     have:=rd_fields (sh:=shOf P n) (n:=m) (λ t s cs x h h' => rd_of_trod n t s m cs x h h') cs fs.toList 0 s xs h1 (by simpa using hxl) λ i f hi => hf i f (by simpa using hi)
     rw [List.drop_zero, List.take_of_length_le (by omega)] at this
     refine this.mono ?_
     simp only [Rows.uptoBulk]; omega
    ·cases h
  ·cases h
end
theorem els_map {T : Type} {f : T -> List Value} : ∀ {els : List (List Value)}, (∀ c ∈ els, ∃ a : T, c = f a) -> ∃ l : List T, els = l.map f
 | [], _ => ⟨[], rfl⟩
 | c :: els, h => by
  obtain ⟨a, ha⟩:=h c (by simp)
  obtain ⟨l, hl⟩:=els_map (els:=els) λ c hc => h c (by simp [hc])
  exact ⟨a :: l, by rw [ha, hl]; rfl⟩
theorem le_sum_of_mem : ∀ {l : List Nat} {k : Nat}, k ∈ l -> k <= l.sum
 | x :: l, k, h => by
  rcases List.mem_cons.1 h with rfl | h
  ·simp
  ·have:=le_sum_of_mem h; simp; omega
theorem Shs.Rd.slice1 {T : Type} {f : T -> List Value} {w : World} {e : Shs} {v : Value} {n : Nat} (h : (Shs.slice e .nil).Rd w [v] n) (hf : ∀ c k, k <= n -> e.Rd w c k -> ∃ a : T, c = f a) :
  ∃ l : List T, Sl e.len w v (l.map f) /\ l.length <= n:=by
 obtain ⟨v', els, cs', ns, m, h1, h2, h3, h4, h5, h6⟩:=h
 cases h1
 obtain ⟨l, rfl⟩:=els_map (f:=f) (els:=els) λ c hc => by
  obtain ⟨i, hi⟩:=List.getElem?_of_mem hc
  have hil : i < ns.length:=by have:=(List.getElem?_eq_some_iff.1 hi).1; omega
  have:=le_sum_of_mem (List.getElem_mem hil)
  exact hf c _ (by omega) (h4 i c _ hi (List.getElem?_eq_getElem hil)).2
 refine ⟨l, h2, ?_⟩
 have : ∀ (els : List (List Value)) (ns : List Nat), ns.length = els.length -> (∀ (i : Nat) (c : List Value) (k : Nat), els[i]? = some c -> ns[i]? = some k -> 1 <= k) -> els.length <= ns.sum:=by
  intro els
  induction els with
  | nil => intro ns _ _; simp
  | cons c els ih =>
   intro ns hl hn
   cases ns with
   | nil => simp at hl
   | cons k ns =>
    have:=ih ns (by simpa using hl) λ i c k hi hk => hn (i + 1) c k (by simpa using hi) (by simpa using hk)
    have:=hn 0 c k rfl rfl
    simp; omega
 have:=this _ ns h3 λ i c k hi hk => (h4 i c k hi hk).1
 simp at this
 omega
end Go.Proofs.YthlpfhjcdedhgaaGreatDoor
namespace Go.Proofs.YthlpfhjcdedhgaaGreatDoor
open Go.Lift
set_option linter.unusedSimpArgs false
set_option linter.unusedVariables false
noncomputable def gTy (g : Nat) : TypeId:=((Tryz.prog.globals[g]?).map (·.type)).getD 0
noncomputable def eTy (g : Nat) : TypeId:=match Tryz.prog.underlying (gTy g) with
 | some (.array _ e) => e
 | _ => 0
theorem bk_of_var {W : World} {name : String} {k : IntKind} {zs : List Int} {g : Nat} (hg : Tryz.prog.globalNamed name = some g) (h : Lib.TabIs Tryz.prog W name k zs) : bk W g = some (zs.map λ z => Value.int k z):=by
 unfold Lib.TabIs World.var? at h
 rw [hg] at h
 simp only [Option.bind_some] at h
 unfold bk
 cases hh : W.heap[g]? with
 | none => rw [hh] at h; cases h
 | some x =>
  rw [hh] at h
  cases x with
  | cells c t m =>
   simp only [Option.some.injEq] at h
   subst h
   simp
  | _ => cases h
theorem tab_step {W : World} {name : String} {k : IntKind} {zs : List Int} {rest : List (String × DataW Unit)} {g : Nat} {t e : TypeId} {n : Nat} {ps : List MemPlace}
  (hg : Tryz.prog.globalNamed name = some g) (hty : (Tryz.prog.globals[g]?).map (·.type) = some t) (ht : Tryz.prog.underlying t = some (.array n e)) (he : Tryz.prog.underlying e = some (.int k)) (hce : Tryz.prog.cellsOf e = 1) (hct : Tryz.prog.cellsOf t = n)
  (h : DataW.LaidVars Tryz.prog W ((name, Lib.tabData k zs) :: rest) ps) : bk W g = some (zs.map λ z => Value.int k z) /\ ∃ q, DataW.LaidVars Tryz.prog W rest q:=by
 obtain ⟨g', t', cs, fuel, p, q, hg', ht', hvar, hd, hr, _⟩:=h
 obtain rfl:=Option.some.inj (hg.symm.trans hg')
 obtain rfl:=Option.some.inj (hty.symm.trans ht')
 refine ⟨bk_of_var hg ?_, q, hr⟩
 unfold Lib.TabIs
 rw [hvar, <- Lib.cells_of_tab ht he hce hct hd]
def nibZ : List Int:=[0, 498536548, 997073096, 651767980, 1994146192, 1802195444, 1303535960, 1342533948, 3988292384, 4027552580, 3604390888, 3412177804, 2607071920, 2262029012, 2685067896, 3183342108]
def deb64 : List Int:=[0,1,56,2,57,49,28,3,61,58,42,50,38,29,17,4,62,47,59,36,45,43,51,22,53,39,33,30,24,18,12,5,63,55,48,27,60,41,37,16,46,35,44,21,52,32,23,11,54,26,40,15,34,20,31,10,25,14,19,9,13,8,7,6]
def deb32 : List Int:=[0,1,28,2,29,14,24,3,30,22,20,15,25,17,4,8,31,27,13,23,21,19,16,7,26,12,18,6,11,5,10,9]
theorem ml_of {W : World} (h : W.ShapedOpen Tryz.prog) : ∃ m : Int, bk W 3 = some [.int .i64 m]:=by
 obtain ⟨cs, hh, hs, _⟩:=h.1 3 #[.int .i64 0] 3 (of_decide_eq_true (by kernel_rfl)) (by kernel_rfl)
 obtain ⟨m, hm⟩:=cell_of_shapedOpen_int (P:=Tryz.prog) (g:=3) (t:=3) (zero:=#[.int .i64 0]) h (of_decide_eq_true (by kernel_rfl)) (by kernel_rfl) rfl (by kernel_rfl) (by kernel_rfl) (show Tryz.prog.underlying 3 = some (.int .i64) by kernel_rfl)
 refine ⟨m, ?_⟩
 unfold World.cell? at hm
 rw [hh] at hm
 simp at hm
 unfold bk
 rw [hh]
 have h1 : cs.size = 1:=hs
 obtain ⟨x, rfl⟩ : ∃ x, cs = #[x]:=by
  obtain ⟨l⟩:=cs
  match l, h1 with
  | [x], _ => exact ⟨x, rfl⟩
 simp at hm
 rw [hm]
theorem sb_self (s : ByteArray) : s = sb s.data.toList:=rfl
def stI : Nat -> Nat -> Nat
 | 0, x => x
 | n + 1, x => stI n (st x)
theorem stI_add : ∀ (a b x : Nat), stI (a + b) x = stI b (stI a x)
 | 0, b, x => by rw [Nat.zero_add]; rfl
 | a + 1, b, x => by rw [show a + 1 + b = (a + b) + 1 by omega]; exact stI_add a b (st x)
theorem stI_succ (n x : Nat) : stI (n + 1) x = st (stI n x):=stI_add n 1 x
theorem stI_lt : ∀ (n : Nat) {x : Nat}, x < 4294967296 -> stI n x < 4294967296
 | 0, x, h => h
 | n + 1, x, h => stI_lt n (st_lt h)
theorem st_zero : st 0 = 0:=rfl
theorem stI_zero : ∀ n, stI n 0 = 0
 | 0 => rfl
 | n + 1 => by show stI n (st 0) = 0; rw [st_zero]; exact stI_zero n
theorem stI_xor : ∀ (n x y : Nat), stI n (x ^^^ y) = stI n x ^^^ stI n y
 | 0, x, y => rfl
 | n + 1, x, y => by show stI n (st (x ^^^ y)) = _; rw [st_xor, stI_xor n]; rfl
def accF (a b : Nat) : Nat -> Nat
 | 0 => 0
 | i + 1 => accF a b i ^^^ (if a.testBit (31 - i) = true then stI i b else 0)
theorem stI_top : ∀ i, i <= 31 -> stI i 2147483648 = 2 ^ (31 - i):=by decide +kernel
theorem accF_st (a k : Nat) : ∀ i, accF a (stI k 2147483648) i = stI k (accF a 2147483648 i)
 | 0 => by unfold accF; rw [stI_zero]
 | i + 1 => by
  unfold accF
  rw [stI_xor, accF_st a k i]
  congr 1
  split
  ·rw [<- stI_add, <- stI_add, Nat.add_comm]
  ·rw [stI_zero]
theorem accF_bit (a : Nat) : ∀ i, i <= 32 -> ∀ j, (accF a 2147483648 i).testBit j = (decide (32 - i <= j /\ j < 32) && a.testBit j)
 | 0, _, j => by
  unfold accF
  rw [Nat.zero_testBit, decide_eq_false (by omega), Bool.false_and]
 | i + 1, h, j => by
  unfold accF
  rw [Nat.testBit_xor, accF_bit a i (by omega) j, stI_top i (by omega)]
  by_cases hj : j = 31 - i
  ·subst hj
   rw [decide_eq_false (by omega), decide_eq_true (by omega)]
   split
   ·rename_i hb; rw [hb, Nat.testBit_two_pow_self]; rfl
   ·rename_i hb; simp at hb; rw [hb]; simp
  ·have e : (if a.testBit (31 - i) = true then 2 ^ (31 - i) else 0).testBit j = false:=by
    split
    ·rw [Nat.testBit_two_pow]; exact decide_eq_false (by omega)
    ·exact Nat.zero_testBit j
   have e2 : decide (32 - i <= j /\ j < 32) = decide (32 - (i + 1) <= j /\ j < 32):=decide_eq_decide.2 (by omega)
   rw [e, Bool.xor_false, e2]
theorem accF_one {a : Nat} (h : a < 4294967296) : accF a 2147483648 32 = a:=by
 apply Nat.eq_of_testBit_eq
 intro j
 rw [accF_bit a 32 (Nat.le_refl _) j]
 by_cases hj : j < 32
 ·rw [decide_eq_true (by omega), Bool.true_and]
 ·rw [decide_eq_false (by omega), Bool.false_and]
  exact (Nat.testBit_lt_two_pow (Nat.lt_of_lt_of_le h (Nat.pow_le_pow_right (n:=2) (i:=32) (by decide) (by omega)))).symm
theorem times_st {a : Nat} (k : Nat) (h : a < 4294967296) : accF a (stI k 2147483648) 32 = stI k a:=by rw [accF_st, accF_one h]
def joinF (a b n : Nat) : Nat:=stI (8 * n) a ^^^ b
theorem joinF_lt {a b : Nat} (n : Nat) (h : a < 4294967296) (h' : b < 4294967296) : joinF a b n < 4294967296:=Nat.xor_lt_two_pow (n:=32) (stI_lt _ h) h'
theorem byF_stI (w : Nat) (b : UInt8) : byF w b = stI 8 (w ^^^ b.toNat):=rfl
theorem runF_xor : ∀ (l : List UInt8) (u v : Nat), runF (u ^^^ v) l = stI (8 * l.length) u ^^^ runF v l
 | [], u, v => rfl
 | b :: l, u, v => by
  have e : ∀ x, runF x (b :: l) = runF (byF x b) l:=λ x => rfl
  rw [e, e, byF_stI, byF_stI, Nat.xor_assoc, stI_xor, runF_xor l, List.length_cons, show 8 * (l.length + 1) = 8 + 8 * l.length by omega, stI_add]
theorem crc_join (a b : List UInt8) : crcF (sb (a ++ b)) = joinF (crcF (sb a)) (crcF (sb b)) b.length:=by
 have e : ∀ l, crcF (sb l) = runF 4294967295 l ^^^ 4294967295:=λ l => rfl
 have r : runF 4294967295 (a ++ b) = runF (runF 4294967295 a) b:=by unfold runF; rw [List.foldl_append]
 unfold joinF
 rw [e, e, e, r]
 have x : runF 4294967295 a = (runF 4294967295 a ^^^ 4294967295) ^^^ 4294967295:=by rw [Nat.xor_assoc, Nat.xor_self, Nat.xor_zero]
 conv => lhs; rw [x]
 rw [runF_xor, Nat.xor_assoc]
end Go.Proofs.YthlpfhjcdedhgaaGreatDoor
namespace Go.Proofs.YthlpfhjcdedhgaaGreatDoor
open Go.Lift
set_option linter.unusedSimpArgs false
set_option linter.unusedVariables false
set_option maxHeartbeats 4000000
theorem binV_and32 {a b : Nat} (ha : a < 4294967296) (hb : b < 4294967296) : intBin .and .u32 a b = some (.int .u32 ((a &&& b : Nat) : Int)):=by
 have h : a &&& b < 4294967296:=Nat.lt_of_le_of_lt Nat.and_le_left ha
 simp only [intBin]
 rw [bv_and (n:=IntKind.u32.bits) (show a < 2 ^ 32 from ha) (show b < 2 ^ 32 from hb), u32W h]
theorem shr_one {k : IntKind} {a : Nat} : shV .shr (.int k a) (.int .u64 1) = some (.int k ((a / 2 : Nat) : Int)):=by
 have h : ¬ ((1 : Int) < 0):=by omega
 simp only [shV, h, if_false]
 rw [show (1 : Int).toNat = 1 from rfl, Nat.min_eq_left (by cases k <;> decide), Int.fdiv_eq_ediv_of_nonneg _ (by decide)]
 norm_cast
theorem accF_lt (a : Nat) {b : Nat} (hb : b < 4294967296) : ∀ i, accF a b i < 4294967296
 | 0 => by unfold accF; decide
 | i + 1 => by
  unfold accF
  refine Nat.xor_lt_two_pow (n:=32) (accF_lt a hb i) ?_
  split
  ·exact stI_lt _ hb
  ·decide
def mskF (i : Nat) : Nat:=if i < 32 then 2 ^ (31 - i) else 0
theorem msk_half : ∀ i, i < 32 -> mskF i / 2 = mskF (i + 1):=by decide +kernel
theorem msk_lt : ∀ i, i < 32 -> mskF i < 4294967296 /\ mskF i ≠ 0:=by decide +kernel
section
variable {w w1 w2 : World}
theorem times_run {a b : Nat} (ha : a < 4294967296) (hb : b < 4294967296) : Run (F.digest_times (.int .u32 (a : Int)) (.int .u32 (b : Int))) w λ r w' => r = .int .u32 ((accF a b 32 : Nat) : Int) /\ w' = w:=by
 unfold F.digest_times
 rw [Run_bind]
 refine Run_for 32 (λ i L w' => L = [.int .u32 ((stI i b : Nat) : Int), .int .u32 ((accF a b i : Nat) : Int), .int .u32 ((mskF i : Nat) : Int)] /\ w' = w) ⟨rfl, rfl⟩ ?_ ?_
 ·rintro i L w1 hi ⟨rfl, rfl⟩
  obtain ⟨m1, m2⟩:=msk_lt i hi
  have hmh:=msk_half i hi
  have hs:=stI_lt i hb
  have hp:=accF_lt a hb i
  have hne : (!decide (((mskF i : Nat) : Int) = 0)) = true:=by
   have : ¬ ((mskF i : Nat) : Int) = 0:=by omega
   rw [decide_eq_false this]; rfl
  have hand : a &&& mskF i = if a.testBit (31 - i) = true then 2 ^ (31 - i) else 0:=by
   unfold mskF
   rw [if_pos hi]
   apply Nat.eq_of_testBit_eq
   intro j
   rw [Nat.testBit_and, Nat.testBit_two_pow]
   by_cases hj : 31 - i = j
   ·subst hj
    cases hb : a.testBit (31 - i) with
    | true => simp [Nat.testBit_two_pow_self]
    | false => simp
   ·rw [decide_eq_false hj, Bool.and_false]
    split
    ·rw [Nat.testBit_two_pow, decide_eq_false hj]
    ·rw [Nat.zero_testBit]
  have hacc : accF a b (i + 1) = accF a b i ^^^ (if a.testBit (31 - i) = true then stI i b else 0):=rfl
  have hsucc:=stI_succ i b
  have hpl:=binV_and32 ha m1
  rw [getL_succ, getL_succ, getL_zero, binV_int, intBin_neq]
  have e0 : (0 : Int) = ((0 : Nat) : Int):=rfl
  rw [hne, Run_bindO_some, Run_condM_true, getL_succ, getL_zero, getL_zero, Run_bind, Run_bind]
  have first : Run (bindO (binV BinOp.and (.int .u32 (a : Int)) (.int .u32 ((mskF i : Nat) : Int))) λ x3 =>
     bindO (binV BinOp.neq x3 (Value.int IntKind.u32 0)) λ x4 =>
     condM x4 (
      bindO (binV BinOp.xor (.int .u32 ((accF a b i : Nat) : Int)) (.int .u32 ((stI i b : Nat) : Int))) λ x5 =>
      M.ret (Out.norm [x5])) (
      M.ret (Out.norm [(.int .u32 ((accF a b i : Nat) : Int))]))) w1 λ o w' => o = .norm [.int .u32 ((accF a b (i + 1) : Nat) : Int)] /\ w' = w1:=by
   rw [binV_int, hpl, Run_bindO_some, binV_int, intBin_neq, hand]
   cases hbit : a.testBit (31 - i) with
   | true =>
    have hn : (!decide (((2 ^ (31 - i) : Nat) : Int) = 0)) = true:=by
     have h1 : (0 : Nat) < 2 ^ (31 - i):=Nat.two_pow_pos _
     generalize 2 ^ (31 - i) = z at h1
     have : ¬ ((z : Nat) : Int) = 0:=by omega
     rw [decide_eq_false this]; rfl
    rw [if_pos rfl, hn, Run_bindO_some, Run_condM_true, binV_int, binV_xor32 hp hs, Run_bindO_some, Run_ret, hacc, hbit, if_pos rfl]
    exact ⟨rfl, rfl⟩
   | false =>
    have hn : (!decide (((0 : Nat) : Int) = 0)) = false:=rfl
    rw [if_neg (by simp), hn, Run_bindO_some, Run_condM_false, Run_ret, hacc, hbit, if_neg (by simp), Nat.xor_zero]
    exact ⟨rfl, rfl⟩
  refine first.mono ?_
  rintro _ w1 ⟨rfl, rfl⟩
  rw [outK_norm, binV_int]
  have h1:=binV_and32 (a:=stI i b) (b:=1) hs (by decide)
  have e1 : ((1 : Nat) : Int) = 1:=rfl
  rw [e1, Nat.and_one_is_mod] at h1
  rw [h1, Run_bindO_some, binV_int, intBin_neq, Run_bindO_some, shr_one, Run_bindO_some, getL_zero]
  have hst : st (stI i b) = if stI i b % 2 = 0 then stI i b / 2 else (stI i b / 2) ^^^ PLY:=rfl
  have fin : ∀ {K : Out -> World -> Prop}, K (.norm [.int .u32 ((stI (i + 1) b : Nat) : Int), .int .u32 ((accF a b (i + 1) : Nat) : Int)]) w1 -> Run (condM (.bool (!decide (((stI i b % 2 : Nat) : Int) = 0))) (
      bindO (binV BinOp.xor (.int .u32 ((stI i b / 2 : Nat) : Int)) (Value.int IntKind.u32 3988292384)) λ x13 =>
      M.ret (Out.norm [x13, .int .u32 ((accF a b (i + 1) : Nat) : Int)])) (
      M.ret (Out.norm [.int .u32 ((stI i b / 2 : Nat) : Int), .int .u32 ((accF a b (i + 1) : Nat) : Int)]))) w1 K:=λ {K} hK => by
   rw [hsucc, hst] at hK
   by_cases h2 : stI i b % 2 = 0
   ·rw [if_pos h2] at hK
    rw [h2, show (!decide (((0 : Nat) : Int) = 0)) = false from rfl, Run_condM_false, Run_ret]
    exact hK
   ·rw [if_neg h2] at hK
    have hn : (!decide (((stI i b % 2 : Nat) : Int) = 0)) = true:=by
     have : ¬ ((stI i b % 2 : Nat) : Int) = 0:=by omega
     rw [decide_eq_false this]; rfl
    have hx:=binV_xor32 (a:=stI i b / 2) (b:=PLY) (by omega) (by decide)
    have ep : ((PLY : Nat) : Int) = 3988292384:=rfl
    rw [ep] at hx
    rw [hn, Run_condM_true, binV_int, hx, Run_bindO_some, Run_ret]
    exact hK
  refine fin ?_
  simp only [outK_norm]
  rw [shr_one, Run_bindO_some, Run_ret, hmh]
  exact ⟨rfl, rfl⟩
 ·rintro L w1 ⟨rfl, rfl⟩
  have hm : mskF 32 = 0:=rfl
  rw [getL_succ, getL_succ, getL_zero, hm, binV_int, intBin_neq, show (!decide (((0 : Nat) : Int) = 0)) = false from rfl, Run_bindO_some, Run_condM_false, Run_ret]
  simp only [outK_exit]
  rw [show Nat.beq 0 0 = true from rfl, cond_true, Run_ret]
  exact ⟨rfl, rfl⟩
theorem and64_one {n : Nat} (h : n < 9223372036854775808) : intBin .and .i64 (n : Int) 1 = some (.int .i64 ((n % 2 : Nat) : Int)):=by
 have e1 : (1 : Int) = ((1 : Nat) : Int):=rfl
 rw [e1]
 simp only [intBin]
 rw [bv_and (n:=IntKind.i64.bits) (show n < 2 ^ 64 by omega) (show 1 < 2 ^ 64 by decide), Nat.and_one_is_mod, i64W (by omega)]
theorem shifted_run {n : Nat} (hn : n <= 9007199254740992) : Run (F.digest_shifted (.int .i64 (n : Int))) w λ r w' => r = .int .u32 ((stI (8 * n) 2147483648 : Nat) : Int) /\ w' = w:=by
 unfold F.digest_shifted
 rw [Run_bind]
 have h31 : ∀ k, stI k 2147483648 < 4294967296:=λ k => stI_lt k (by decide)
 refine Run_loopM (λ L w' => (∃ m r q : Nat, L = [.int .i64 (m : Int), .int .u32 ((stI (8 * r) 2147483648 : Nat) : Int), .int .u32 ((stI (8 * q) 2147483648 : Nat) : Int)] /\ r + q * m = n /\ m <= n) /\ w' = w) (λ L _ => match getL L 0 with | .int _ z => z.toNat | _ => 0) ?_ ⟨⟨n, 0, 1, rfl, by omega, Nat.le_refl _⟩, rfl⟩
 rintro L w1 ⟨⟨m, r, q, rfl, hr, hmn⟩, rfl⟩
 have fin : ∀ {α : Type} {K : α -> World -> Prop} {k : α}, K k w1 -> K k w1:=λ h => h
 rw [getL_zero, binV_int, intBin_gtr]
 by_cases hm : m = 0
 ·subst hm
  rw [show decide (((0 : Nat) : Int) > 0) = false from rfl, Run_bindO_some, Run_condM_false, Run_ret]
  simp only [outK_exit, getL_succ, getL_zero]
  rw [show Nat.beq 0 0 = true from rfl, cond_true, Run_ret]
  have : r = n:=by omega
  rw [this]
  exact ⟨rfl, rfl⟩
 have hg : decide ((m : Int) > 0) = true:=decide_eq_true (by omega)
 rw [hg, Run_bindO_some, Run_condM_true]
 simp only [getL_zero, getL_succ]
 rw [Run_bind]
 have e2 : m = 2 * (m / 2) + m % 2:=(Nat.div_add_mod m 2).symm
 have first : Run (bindO (binV BinOp.and (.int .i64 (m : Int)) (Value.int IntKind.i64 1)) λ x3 =>
    bindO (binV BinOp.eql x3 (Value.int IntKind.i64 1)) λ x4 =>
    condM x4 (
     M.bind (F.digest_times (.int .u32 ((stI (8 * r) 2147483648 : Nat) : Int)) (.int .u32 ((stI (8 * q) 2147483648 : Nat) : Int))) λ x5 =>
     M.ret (Out.norm [x5])) (
     M.ret (Out.norm [.int .u32 ((stI (8 * r) 2147483648 : Nat) : Int)]))) w1 λ o w' => o = .norm [.int .u32 ((stI (8 * (r + q * (m % 2))) 2147483648 : Nat) : Int)] /\ w' = w1:=by
  rw [binV_int, and64_one (by omega), Run_bindO_some, binV_int, intBin_eql, Run_bindO_some]
  rcases Nat.mod_two_eq_zero_or_one m with h | h
  ·rw [h, show decide (((0 : Nat) : Int) = 1) = false from rfl, Run_condM_false, Run_ret, Nat.mul_zero, Nat.add_zero]
   exact ⟨rfl, rfl⟩
  ·rw [h, show decide (((1 : Nat) : Int) = 1) = true from rfl, Run_condM_true, Run_bind]
   refine (times_run (h31 _) (h31 _)).mono ?_
   rintro _ _ ⟨rfl, rfl⟩
   rw [Run_ret, times_st _ (h31 _), <- stI_add, Nat.mul_one, Nat.mul_add]
   exact ⟨rfl, rfl⟩
 refine first.mono ?_
 rintro _ w1 ⟨rfl, rfl⟩
 rw [outK_norm, Run_bind]
 refine (times_run (h31 _) (h31 _)).mono ?_
 rintro _ _ ⟨rfl, rfl⟩
 rw [times_st _ (h31 _), <- stI_add, shr_one, Run_bindO_some, Run_ret]
 try simp only [getL_zero]
 refine ⟨⟨⟨m / 2, r + q * (m % 2), 2 * q, by rw [show 8 * q + 8 * q = 8 * (2 * q) by omega], ?_, by omega⟩, trivial⟩, ?_⟩
 ·rw [<- hr, Nat.add_assoc]
  congr 1
  rw [Nat.mul_comm 2 q, Nat.mul_assoc, <- Nat.mul_add, Nat.add_comm, <- e2]
 ·show ((((m / 2 : Nat) : Int)).toNat) < (((m : Nat) : Int)).toNat
  omega
theorem sumOK_run {a : Int} : Run (F.digest_sumOK (.int .i64 a)) w λ r w' => r = .bool (decide (0 <= a /\ a <= 4294967295)) /\ w' = w:=by
 unfold F.digest_sumOK
 by_cases h1 : 0 <= a <;> by_cases h2 : a <= 4294967295 <;> simp [h1, h2]
theorem crcjoin_run {a b n : Nat} (ha : a < 4294967296) (hb : b < 4294967296) (hn : n <= 9007199254740992) : Run (F.digest_CRCJoin (.int .i64 (a : Int)) (.int .i64 (b : Int)) (.int .i64 (n : Int))) w λ r w' => r = .tuple #[.int .i64 ((joinF a b n : Nat) : Int), .int .i64 0] /\ w' = w:=by
 unfold F.digest_CRCJoin
 have nv : ∀ b, notV (.bool b) = some (.bool !b):=λ _ => rfl
 rw [Run_bind]
 refine sumOK_run.mono ?_
 rintro _ _ ⟨rfl, rfl⟩
 have h1 : decide (0 <= (a : Int) /\ (a : Int) <= 4294967295) = true:=decide_eq_true (by omega)
 have h2 : decide (0 <= (b : Int) /\ (b : Int) <= 4294967295) = true:=decide_eq_true (by omega)
 have h3 : ¬ (n : Int) < 0:=by omega
 have h4 : ¬ (n : Int) > 9007199254740992:=by omega
 rw [h1, nv, Run_bindO_some]
 simp only [Bool.not_true, Run_bind, Run_guardM_ff, Run_ret]
 refine sumOK_run.mono ?_
 rintro _ _ ⟨rfl, rfl⟩
 rw [h2, nv, Run_optM_some]
 simp only [Bool.not_true, pickV_bool, cond_false, Run_bindO_some, Run_bind, Run_guardM_ff, Run_ret, binV_int, intBin_lss, h3, decide_false, Run_optM_some, intBin_gtr, h4, Run_condM_false, cvtI_int, u32W ha, u32W hb]
 refine (shifted_run hn).mono ?_
 rintro _ _ ⟨rfl, rfl⟩
 refine (times_run ha (stI_lt _ (by decide))).mono ?_
 rintro _ _ ⟨rfl, rfl⟩
 have hj:=joinF_lt n ha hb
 rw [times_st _ ha, binV_int, binV_xor32 (stI_lt _ ha) hb, Run_bindO_some, cvtI_int, i64W (show stI (8 * n) a ^^^ b < 9223372036854775808 by unfold joinF at hj; omega), Run_bindO_some, Run_ret]
 exact ⟨rfl, rfl⟩
end
end Go.Proofs.YthlpfhjcdedhgaaGreatDoor
namespace Go.Proofs.YthlpfhjcdedhgaaGreatDoor
open Go.Lift
set_option linter.unusedSimpArgs false
set_option linter.unusedVariables false
set_option maxHeartbeats 4000000
set_option maxRecDepth 4000
def rowP (k i : Nat) : List Value:=(List.range 32).map λ j => Value.int .i64 (((if j < i then stI k (2 ^ j) else 0) : Nat) : Int)
abbrev rowS (k : Nat) : List Value:=rowP k 32
theorem rowP_len (k i : Nat) : (rowP k i).length = 32:=by simp [rowP]
theorem rowP_cell (k i : Nat) : (rowP k i).all isCell = true:=by
 rw [List.all_eq_true]
 intro v hv
 unfold rowP at hv
 obtain ⟨j, _, rfl⟩:=List.mem_map.1 hv
 rfl
section
variable {w w1 w2 : World}
theorem st32 {x k z i : Nat} (h : bk w x = some (rowP z i)) (hw : wr w x = true) {Q : Value -> World -> Prop} (q : ∀ w', bk w' x = some (rowS k) -> wr w' x = true -> Fr (λ c => c = x) w w' -> Q undef w') : Run (stM 32 (.pointer (some ⟨x, 0, none⟩)) (.agg (rowS k).toArray)) w Q:=by
 have hok : okAt w x 0 32:=⟨⟨rowP z i, h, by rw [rowP_len]; exact Nat.le_refl _⟩, hw⟩
 have hsz : (rowS k).toArray.size = 32:=by rw [List.size_toArray, rowP_len]
 have hc : (rowS k).toArray.toList.all isCell = true:=rowP_cell k 32
 refine (Run_stA (w:=w) (b:=x) (o:=0) (n:=32) (cs:=(rowS k).toArray) (Q:=Q) ⟨hok, hsz, hc⟩).2 (q _ ?_ (by rw [wr_sto]; exact hw) ((show Fr (λ c => c = x) w w from Fr.refl _ _).sto (.inl rfl) _ _))
 rw [bk_sto_same h]
 show some (setL (rowP z i) 0 (rowS k)) = _
 rw [setL_eq _ _ _ (by rw [rowP_len, rowP_len]; exact Nat.le_refl _), rowP_len, Nat.zero_add, List.drop_of_length_le (by rw [rowP_len]; exact Nat.le_refl _)]
 simp
end
def rowA (cs : List UInt8) : List Value:=(List.range 256).map λ i => Value.bool (decide (UInt8.ofNat i ∈ cs))
theorem rowA_len (cs : List UInt8) : (rowA cs).length = 256:=by simp [rowA]
theorem rowA_nil : rowA [] = List.replicate 256 (.bool false):=by
 unfold rowA
 simp only [List.not_mem_nil, decide_false]
 rw [List.map_const', List.length_range]
theorem rowA_at (cs : List UInt8) (c : UInt8) : (rowA cs)[c.toNat]? = some (.bool (decide (c ∈ cs))):=by
 have h:=c.toNat_lt
 unfold rowA
 rw [List.getElem?_map, List.getElem?_range (by omega)]
 simp
theorem rowA_set (cs : List UInt8) (c : UInt8) : (rowA cs).set c.toNat (.bool true) = rowA (cs ++ [c]):=by
 have hc:=c.toNat_lt
 apply List.ext_getElem?
 intro i
 by_cases hi : i < 256
 ·have e : ∀ l : List UInt8, (rowA l)[i]? = some (.bool (decide (UInt8.ofNat i ∈ l))):=λ l => by
   unfold rowA
   rw [List.getElem?_map, List.getElem?_range hi]
   rfl
  rw [List.getElem?_set, e, e, rowA_len]
  by_cases h : c.toNat = i
  ·subst h
   simp [hc]
  ·rw [if_neg h]
   have hne : UInt8.ofNat i ≠ c:=λ he => h (by rw [<- he, UInt8.toNat_ofNat', Nat.mod_eq_of_lt hi])
   simp [hne]
 ·rw [List.getElem?_eq_none (by rw [List.length_set, rowA_len]; omega), List.getElem?_eq_none (by rw [rowA_len]; omega)]
section
variable {w w1 w2 : World}
theorem idxU8 {b : Nat} (c : UInt8) : idxR 256 1 (.pointer (some ⟨b, 0, none⟩)) (by8 c) = some (.pointer (some ⟨b, c.toNat, none⟩)):=by
 have h:=c.toNat_lt
 have h2 : (c.toNat : Int) < 256:=by omega
 simp [by8, h2]
theorem rowA_cell (cs : List UInt8) : (rowA cs).all isCell = true:=by
 rw [List.all_eq_true]
 intro v hv
 unfold rowA at hv
 obtain ⟨i, _, rfl⟩:=List.mem_map.1 hv
 rfl
theorem stRow {b : Nat} {cs row : List UInt8} (hb : bk w b = some (rowA row)) (hw : wr w b = true) {Q : Value -> World -> Prop} (q : Q undef (sto w b 0 (rowA cs))) : Run (stM 256 (.pointer (some ⟨b, 0, none⟩)) (.agg (rowA cs).toArray)) w Q:=by
 have hok : okAt w b 0 256:=⟨⟨rowA row, hb, by rw [rowA_len]; exact Nat.le_refl _⟩, hw⟩
 have hsz : (rowA cs).toArray.size = 256:=by rw [List.size_toArray, rowA_len]
 have hc : (rowA cs).toArray.toList.all isCell = true:=rowA_cell cs
 exact (Run_stA (w:=w) (b:=b) (o:=0) (n:=256) (cs:=(rowA cs).toArray) (Q:=Q) ⟨hok, hsz, hc⟩).2 q
theorem aset_run {cs : List UInt8} (hcs : ∀ c ∈ cs, c.toNat < 128) (hl : cs.length <= 1000) : Run (F.strings_makeASCIISet (.string (sb cs))) w λ r w' => r = .tuple #[.agg (rowA cs).toArray, .bool true] /\ Fr (λ _ => False) w w':=by
 unfold F.strings_makeASCIISet
 rw [Run_bind]
 refine Run_new λ x w1 hx hxw f1 hxle => ?_
 have hx0 : bk w1 x = some (rowA []):=by
  rw [hx, rowA_nil]
  exact congrArg some (by kernel_rfl)
 rw [Run_bind]
 refine Run_for cs.length (λ i L w' => L = [.int .i64 (i : Int)] /\ bk w' x = some (rowA (cs.take i)) /\ wr w' x = true /\ Fr (λ _ => False) w w') ⟨rfl, hx0, hxw, f1⟩ ?_ ?_
 ·rintro i L w2 hi ⟨rfl, hb, hw, f2⟩
  obtain ⟨c, hc⟩ : ∃ c, cs[i]? = some c:=⟨_, List.getElem?_eq_getElem hi⟩
  have hc8:=hcs c (List.mem_of_getElem? hc)
  have hil : (i : Int) < cs.length:=by omega
  have h128 : binV .geq (by8 c) (.int .u8 128) = some (.bool false):=by
   have : ¬ (c.toNat : Int) >= 128:=by omega
   simp [by8, this]
  have hs:=bk_sto_same (o:=c.toNat) hb [.bool true]
  have hset : setL (rowA (cs.take i)) c.toNat [.bool true] = rowA (cs.take (i + 1)):=by
   rw [setL_cons, setL_nil, rowA_set, take_snocP hc]
  rw [lenS_string, sb_size, Run_bindO_some, getL_zero, lssT hil, Run_bindO_some, Run_condM_true, idxSb hc, Run_bindO_some, h128, Run_bindO_some, Run_condM_false, idxU8, Run_bindO_some, Run_bind]
  rw [Run_st1 ⟨⟨⟨_, hb, by rw [rowA_len]; have:=c.toNat_lt; omega⟩, hw⟩, rfl⟩]
  rw [binV_int, intBin_add, wrap_succ' (by omega), Run_bindO_some, Run_ret]
  exact ⟨rfl, by rw [hs, hset], by rw [wr_sto]; exact hw, f2.sto (.inr hxle) _ _⟩
 ·rintro L w2 ⟨rfl, hb, hw, f2⟩
  rw [List.take_length] at hb
  have hil : ¬ ((cs.length : Nat) : Int) < cs.length:=by omega
  have hld : ∀ {u : World}, bk u x = some (rowA cs) -> ldA 256 (.pointer (some ⟨x, 0, none⟩)) u = some (.agg (rowA cs).toArray):=λ h => by
   rw [ldA_bk h (by rw [rowA_len]; exact Nat.le_refl _), List.drop_zero, List.take_of_length_le (by rw [rowA_len]; exact Nat.le_refl _)]
  have hs:=bk_sto_same (o:=0) hb (rowA cs)
  have he : setL (rowA cs) 0 (rowA cs) = rowA cs:=by rw [setL_eq _ _ _ (by omega)]; simp
  rw [he] at hs
  rw [lenS_string, sb_size, Run_bindO_some, getL_zero, lssF hil, Run_bindO_some, Run_condM_false, Run_ret]
  simp only [outK_exit]
  rw [show Nat.beq 0 0 = true from rfl, cond_true, Run_bind, Run_rdM]
  refine ⟨_, hld hb, ?_⟩
  rw [Run_bind]
  refine stRow hb hw ?_
  rw [Run_bind, Run_rdM]
  refine ⟨_, hld hs, ?_⟩
  rw [Run_ret]
  exact ⟨rfl, f2.sto (.inr hxle) _ _⟩
theorem has_run {b : Nat} {cs : List UInt8} (h : bk w b = some (rowA cs)) (c : UInt8) {Q : Value -> World -> Prop} (q : Q (.bool (decide (c ∈ cs))) w) : Run (F.strings_asciiSet_contains (.pointer (some ⟨b, 0, none⟩)) (by8 c)) w Q:=by
 unfold F.strings_asciiSet_contains
 have ld : ld1 (.pointer (some ⟨b, c.toNat, none⟩)) w = some (.bool (decide (c ∈ cs))):=by
  rw [ld1_ptr, h]
  exact rowA_at cs c
 rw [nilChk_ptr, Run_bindO_some, idxU8, Run_bindO_some, Run_bind, Run_rdM]
 exact ⟨_, ld, by rw [Run_ret]; exact q⟩
def szL (L : List Value) : Nat:=match getL L 0 with
 | .string s => s.size
 | _ => 0
theorem trimL_run {b : Nat} {cs : List UInt8} (h : bk w b = some (rowA cs)) (l : List UInt8) (hl : l.length <= 4611686018427387904) : Run (F.strings_trimLeftASCII (.string (sb l)) (.pointer (some ⟨b, 0, none⟩))) w λ r w' =>
  (∃ t, r = .string (sb t) /\ (∀ c ∈ t, c ∈ l) /\ (∀ c ∈ l, c ∈ t ∨ c ∈ cs)) /\ w' = w:=by
 unfold F.strings_trimLeftASCII
 have n1 : ∀ b, notV (.bool b) = some (.bool !b):=λ _ => rfl
 rw [Run_bind]
 refine Run_loopM (λ L w' => (∃ t, L = [.string (sb t)] /\ t.length <= l.length /\ (∀ c ∈ t, c ∈ l) /\ (∀ c ∈ l, c ∈ t ∨ c ∈ cs)) /\ w' = w) (λ L _ => szL L) ?_ ⟨⟨l, rfl, Nat.le_refl _, λ _ h => h, λ _ h => .inl h⟩, rfl⟩
 rintro L w1 ⟨⟨t, rfl, htl, h1, h2⟩, rfl⟩
 rw [getL_zero, lenS_string, sb_size, Run_bindO_some, binV_int, intBin_gtr]
 cases t with
 | nil =>
  simp only [List.length_nil, Int.natCast_zero, gt_iff_lt, Int.lt_irrefl, decide_false, Run_bindO_some, Run_condM_false, Run_ret, outK_exit, getL_zero]
  rw [show Nat.beq 0 0 = true from rfl, cond_true, Run_ret]
  exact ⟨⟨[], rfl, h1, h2⟩, rfl⟩
 | cons c t =>
  have h0 : (((c :: t).length : Nat) : Int) > 0:=by rw [List.length_cons]; omega
  have hix : idxS (.string (sb (c :: t))) (.int .i64 0) = some (by8 c):=idxSb (i:=0) rfl
  rw [decide_eq_true h0, Run_bindO_some, Run_condM_true, hix, Run_bindO_some, Run_bind]
  refine has_run h c ?_
  rw [n1, Run_bindO_some]
  by_cases hc : c ∈ cs
  ·have hsl:=slFrom (l:=c :: t) (n:=1) (by rw [List.length_cons]; omega)
   have e1 : ((1 : Nat) : Int) = 1:=rfl
   rw [e1] at hsl
   rw [decide_eq_true hc, Bool.not_true, Run_condM_false, hsl, Run_bindO_some, Run_ret]
   rw [List.length_cons] at htl
   refine ⟨⟨⟨t, rfl, by omega, λ x hx => h1 x (by simp [hx]), λ x hx => ?_⟩, rfl⟩, ?_⟩
   ·rcases h2 x hx with h | h
    ·rcases List.mem_cons.1 h with rfl | h
     ·exact .inr hc
     ·exact .inl h
    ·exact .inr h
   ·show (sb t).size < (sb (c :: t)).size
    rw [sb_size, sb_size, List.length_cons]; omega
  ·rw [decide_eq_false hc, Bool.not_false, Run_condM_true, Run_ret]
   simp only [outK_exit, getL_zero]
   rw [show Nat.beq 0 0 = true from rfl, cond_true, Run_ret]
   exact ⟨⟨c :: t, rfl, h1, h2⟩, rfl⟩
theorem trimR_run {b : Nat} {cs : List UInt8} (h : bk w b = some (rowA cs)) (l : List UInt8) (hl : l.length <= 4611686018427387904) : Run (F.strings_trimRightASCII (.string (sb l)) (.pointer (some ⟨b, 0, none⟩))) w λ r w' =>
  (∃ t, r = .string (sb t) /\ t.length <= l.length /\ (∀ c ∈ t, c ∈ l) /\ (∀ c ∈ l, c ∈ t ∨ c ∈ cs) /\ (t ≠ [] -> ∃ c ∈ t, c ∉ cs)) /\ w' = w:=by
 unfold F.strings_trimRightASCII
 have n1 : ∀ b, notV (.bool b) = some (.bool !b):=λ _ => rfl
 rw [Run_bind]
 refine Run_loopM (λ L w' => (∃ t, L = [.string (sb t)] /\ t.length <= l.length /\ (∀ c ∈ t, c ∈ l) /\ (∀ c ∈ l, c ∈ t ∨ c ∈ cs)) /\ w' = w) (λ L _ => szL L) ?_ ⟨⟨l, rfl, Nat.le_refl _, λ _ h => h, λ _ h => .inl h⟩, rfl⟩
 rintro L w1 ⟨⟨t, rfl, htl, h1, h2⟩, rfl⟩
 rw [getL_zero, lenS_string, sb_size, Run_bindO_some, binV_int, intBin_gtr]
 rcases List.eq_nil_or_concat t with rfl | ⟨t, c, rfl⟩
 ·simp only [List.length_nil, Int.natCast_zero, gt_iff_lt, Int.lt_irrefl, decide_false, Run_bindO_some, Run_condM_false, Run_ret, outK_exit, getL_zero]
  rw [show Nat.beq 0 0 = true from rfl, cond_true, Run_ret]
  exact ⟨⟨[], rfl, htl, h1, h2, λ h => absurd rfl h⟩, rfl⟩
 ·rw [List.concat_eq_append] at htl h1 h2 ⊢
  rw [List.length_append, List.length_singleton] at htl ⊢
  have h0 : ((t.length + 1 : Nat) : Int) > 0:=by omega
  have hw : IntKind.i64.wrap (((t.length + 1 : Nat) : Int) - 1) = (t.length : Int):=by rw [show ((t.length + 1 : Nat) : Int) - 1 = (t.length : Int) by omega]; exact i64W (by omega)
  have hix : idxS (.string (sb (t ++ [c]))) (.int .i64 (t.length : Int)) = some (by8 c):=idxSb (by simp)
  rw [decide_eq_true h0, Run_bindO_some, Run_condM_true, Run_bindO_some, binV_int, intBin_sub, hw, Run_bindO_some, hix, Run_bindO_some, Run_bind]
  refine has_run h c ?_
  rw [n1, Run_bindO_some]
  by_cases hc : c ∈ cs
  ·have hsl:=slTo (l:=t ++ [c]) (n:=t.length) (by rw [List.length_append]; omega)
   rw [List.take_left] at hsl
   rw [decide_eq_true hc, Bool.not_true, Run_condM_false, Run_bindO_some, binV_int, intBin_sub, hw, Run_bindO_some, hsl, Run_bindO_some, Run_ret]
   refine ⟨⟨⟨t, rfl, by omega, λ x hx => h1 x (by simp [hx]), λ x hx => ?_⟩, rfl⟩, ?_⟩
   ·rcases h2 x hx with h | h
    ·rcases List.mem_append.1 h with h | h
     ·exact .inl h
     ·rw [List.mem_singleton] at h; subst h; exact .inr hc
    ·exact .inr h
   ·show (sb t).size < (sb (t ++ [c])).size
    rw [sb_size, sb_size, List.length_append, List.length_singleton]; omega
  ·rw [decide_eq_false hc, Bool.not_false, Run_condM_true, Run_ret]
   simp only [outK_exit, getL_zero]
   rw [show Nat.beq 0 0 = true from rfl, cond_true, Run_ret]
   exact ⟨⟨t ++ [c], rfl, by rw [List.length_append, List.length_singleton]; omega, h1, h2, λ _ => ⟨c, by simp, hc⟩⟩, rfl⟩
theorem trim_run {l cs : List UInt8} (h0 : l ≠ []) (hl : l.length <= 4611686018427387904) (hcs : ∀ c ∈ cs, c.toNat < 128) (hc2 : 2 <= cs.length) (hc3 : cs.length <= 1000) : Run (F.strings_Trim (.string (sb l)) (.string (sb cs))) w λ r w' =>
  (∃ t, r = .string (sb t) /\ (t = [] ↔ ∀ c ∈ l, c ∈ cs)) /\ Fr (λ _ => False) w w':=by
 unfold F.strings_Trim
 have e0 : ByteArray.mk #[] = sb []:=rfl
 have y0 : ∀ v x, extV 0 (.tuple #[v, x]) = some v:=λ _ _ => rfl
 have y1 : ∀ v x, extV 1 (.tuple #[v, x]) = some x:=λ _ _ => rfl
 have hcn : cs ≠ []:=λ h => by subst h; simp at hc2
 have h1 : ¬ ((cs.length : Nat) : Int) = 1:=by omega
 rw [e0, sbEq, decide_eq_false h0, Run_bindO_some]
 simp only [Run_bind, Run_guardM_ff, Run_ret, sbEq, decide_eq_false hcn, Run_optM_some, pickV_bool, cond_false, Run_bindO_some, Run_condM_false, lenS_string, sb_size, binV_int, intBin_eql, decide_eq_false h1, Run_guardM_ft]
 refine (aset_run hcs hc3).mono ?_
 rintro _ w1 ⟨rfl, f1⟩
 simp only [y0, y1, Run_bindO_some, Run_bind]
 refine Run_new λ b w2 hb hbw f2 hble => ?_
 have hb0 : bk w2 b = some (rowA []):=by
  rw [hb, rowA_nil]
  exact congrArg some (by kernel_rfl)
 refine stRow hb0 hbw ?_
 have hs:=bk_sto_same (o:=0) hb0 (rowA cs)
 have he : setL (rowA []) 0 (rowA cs) = rowA cs:=by
  rw [setL_eq _ _ _ (by rw [rowA_len, rowA_len]; omega), rowA_len, Nat.zero_add, List.drop_of_length_le (by rw [rowA_len]; exact Nat.le_refl _)]
  simp
 rw [he] at hs
 have f3 : Fr (λ _ => False) w (sto w2 b 0 (rowA cs)):=f1.trans (f2.sto (.inr hble) _ _) λ _ _ => id
 generalize sto w2 b 0 (rowA cs) = w3 at *
 rw [Run_condM_true]
 simp only [Run_bind]
 refine (trimR_run hs l hl).mono ?_
 rintro _ w4 ⟨⟨t, rfl, t0, t1, t2, t3⟩, rfl⟩
 refine (trimL_run hs t (by omega)).mono ?_
 rintro _ w5 ⟨⟨u, rfl, u1, u2⟩, rfl⟩
 rw [Run_ret]
 refine ⟨⟨u, rfl, λ hu c hc => ?_, λ ha => ?_⟩, f3⟩
 ·subst hu
  rcases t2 c hc with h | h
  ·rcases u2 c h with h | h
   ·cases h
   ·exact h
  ·exact h
 ·have ht : t = []:=by
   by_cases ht : t = []
   ·exact ht
   ·obtain ⟨c, c1, c2⟩:=t3 ht
    exact absurd (ha c (t1 c c1)) c2
  subst ht
  cases u with
  | nil => rfl
  | cons c u => exact absurd (u1 c (by simp)) (by simp)
end
end Go.Proofs.YthlpfhjcdedhgaaGreatDoor
namespace Go.Proofs.YthlpfhjcdedhgaaGreatDoor
open Go.Lift Go.Sort
set_option linter.unusedSimpArgs false
set_option linter.unusedVariables false
set_option maxHeartbeats 4000000
section
variable {w w1 w2 : World}
def RowB (A : Nat -> Prop) (w : World) (x : Nat) (v : Value) (l : List UInt8) : Prop:=(l = [] /\ v = .slice none 0 0) ∨
 ∃ (g cap : Nat) (cs : Array Value), v = .slice (some ⟨g, 0, none⟩) l.length cap /\ w.heap[g]? = some (.cells cs 5 (0, 0)) /\ cs.size = cap /\ l.length <= cap /\ (cs.toList.take l.length = l.map λ b => Value.int .u8 b.toNat) /\ ¬ A g /\ x ≠ g
theorem raw_app {A : Nat -> Prop} {x : Nat} {v y : Value} {l s : List UInt8} (h : RowB A w x v l) (hA : ∀ c, A c -> c < w.heap.size) (hx : x < w.heap.size) (hn : lenN y = some s.length) (hf : firstN w 1 s.length y = some (s.map λ b => Value.int .u8 b.toNat))
  (hs : s ≠ []) (hl : l.length + s.length <= 1073741824) : Run (appM 5 1 1 #[.int .u8 0] v y) w λ r w1 => RowB A w1 x r (l ++ s) /\ w1.heap[x]? = w.heap[x]? /\ Fr (λ c => ¬ A c /\ c ≠ x) w w1:=by
 have hs0 : s.length ≠ 0:=by simpa using hs
 have grow : ∀ (cap : Nat) (old : List Value), (∃ a, v = .slice a l.length cap) -> ¬ (l.length + s.length <= cap) -> cap <= 1073741824 -> firstN w 1 l.length v = some old -> old = l.map (λ b => Value.int .u8 b.toNat) -> Run (appM 5 1 1 #[.int .u8 0] v y) w λ r w1 => RowB A w1 x r (l ++ s) /\ w1.heap[x]? = w.heap[x]? /\ Fr (λ c => ¬ A c /\ c ≠ x) w w1:=by
  rintro cap old ⟨a, rfl⟩ hroom hcap ho rfl
  unfold Run appM
  simp only [hn]
  rw [if_neg hroom]
  have hg : Builtin.nextslicecap (l.length + s.length) cap * 1 <= 2 ^ 48:=growslice_fits_wide (by omega) (by omega)
  rw [if_neg (not_or.2 ⟨by decide, Nat.not_lt.2 hg⟩)]
  simp only [ho, hf]
  have hge : l.length + s.length <= (Question.appendCap (l.length + s.length) cap 5).cut (w.tape w.drawn (.appendCap (l.length + s.length) cap 5)):=by simp only [Question.cut]; omega
  generalize (Question.appendCap (l.length + s.length) cap 5).cut (w.tape w.drawn (.appendCap (l.length + s.length) cap 5)) = C at hge
  refine ⟨_, _, rfl, .inr ⟨w.heap.size, C, ((l.map λ b => Value.int .u8 (b.toNat : Int)) ++ s.map λ b => Value.int .u8 (b.toNat : Int)).toArray ++ Builtin.zeroCells #[.int .u8 0] (C - (l.length + s.length)), by rw [List.length_append], ?_, ?_, ?_, ?_, λ h => Nat.lt_irrefl _ (hA _ h), by omega⟩, ?_, ((Fr.refl _ w).drew).alloc _⟩
  ·show (w.heap.push _)[w.heap.size]? = _
   simp
  ·simp [size_zeroCells]
   omega
  ·rw [List.length_append]; exact hge
  ·rw [List.length_append]
   simp only [Array.toList_append]
   rw [List.take_append_of_le_length (by simp), List.take_of_length_le (by simp)]
   simp
  ·show (w.heap.push _)[x]? = _
   rw [Array.getElem?_push, if_neg (by omega)]
 rcases h with ⟨rfl, rfl⟩ | ⟨g, cap, cs, rfl, h1, h2, h3, h4, h5, h6⟩
 ·exact grow 0 [] ⟨_, rfl⟩ (by simp; omega) (by decide) rfl rfl
 ·have hbk : bk w g = some cs.toList:=by unfold bk; rw [h1]
  have hwr : wr w g = true:=by unfold wr; rw [h1]; simp
  have hcl : cs.toList.length = cap:=(Array.length_toList (xs:=cs)).trans h2
  by_cases hroom : l.length + s.length <= cap
  ·unfold Run appM
   simp only [hn]
   rw [if_pos hroom]
   simp only [hf]
   have hst : stN (Addr.add ⟨g, 0, none⟩ (l.length * 1)) (s.map λ b => Value.int .u8 b.toNat) w = some (sto w g l.length (s.map λ b => Value.int .u8 b.toNat)):=by
    simp only [Addr.add_lit, stN, Nat.zero_add, Nat.mul_one]
    rw [if_neg (by simpa using hs)]
    simp only [hbk]
    rw [if_pos ⟨⟨by rw [List.length_map]; omega, byteV_all _⟩, hwr⟩]
   simp only [hst]
   have hfr : Fr (λ c => c = g) w (sto w g l.length (s.map λ b => Value.int .u8 b.toNat)):=(show Fr (λ c => c = g) w w from Fr.refl _ _).sto (.inl rfl) _ _
   refine ⟨_, _, rfl, .inr ⟨g, cap, (setL cs.toList l.length (s.map λ b => Value.int .u8 b.toNat)).toArray, by rw [List.length_append], ?_, ?_, by rw [List.length_append]; exact hroom, ?_, h5, h6⟩, hfr.block x hx h6, hfr.mono λ c hc => hc ▸ ⟨h5, λ e => h6 e.symm⟩⟩
   ·simp only [sto, Array.getElem?_modify, h1, if_true]
    rfl
   ·rw [List.size_toArray, length_setL, hcl]
   ·have:=drop_take_setL (l:=cs.toList) (o:=0) (p:=l.length) (n:=l.length) (vs:=s.map λ b => Value.int .u8 b.toNat) (by rw [List.length_map]; omega) (by omega)
    simp only [List.drop_zero, List.length_map] at this
    rw [List.toList_toArray, List.length_append, this, h4, List.map_append]
  ·by_cases hcap : cap <= 1073741824
   ·refine grow cap _ ⟨_, rfl⟩ hroom hcap ?_ h4
    have:=ldN_bk (o:=0) (n:=l.length) hbk (by omega)
    simp only [firstN, Nat.mul_one]
    rw [this, List.drop_zero]
   ·omega
structure BG (A : Nat -> Prop) (w : World) (x : Nat) (l : List UInt8) : Prop where
 st : (l = [] /\ w.heap[x]? = some (.cells #[.pointer none, .slice none 0 0] 93 (0, 0))) ∨ ∃ v, bk w x = some [PtrB x, v] /\ wr w x = true /\ RowB A w x v l
 new : ¬ A x
 lo : ∀ c, A c -> c < w.heap.size
theorem RowB.frm {A : Nat -> Prop} {x : Nat} {v : Value} {l : List UInt8} (h : RowB A w x v l) (f : Fr (λ _ => False) w w2) : RowB A w2 x v l:=by
 rcases h with h | ⟨g, cap, cs, h1, h2, h3⟩
 ·exact .inl h
 ·exact .inr ⟨g, cap, cs, h1, by rw [f.block g (Array.getElem?_eq_some_iff.1 h2).1 id]; exact h2, h3⟩
theorem BG.frm {A : Nat -> Prop} {x : Nat} {l : List UInt8} (h : BG A w x l) (f : Fr (λ _ => False) w w2) : BG A w2 x l:=by
 refine ⟨?_, h.new, λ c hc => Nat.lt_of_lt_of_le (h.lo c hc) f.size⟩
 rcases h.st with ⟨h1, h2⟩ | ⟨v, h1, h2, h3⟩
 ·exact .inl ⟨h1, by rw [f.block x (Array.getElem?_eq_some_iff.1 h2).1 id]; exact h2⟩
 ·exact .inr ⟨v, f.bk_some h1 id, by rw [f.wr (bk_lt h1) id]; exact h2, h3.frm f⟩
theorem BG.lt {A : Nat -> Prop} {x : Nat} {l : List UInt8} (h : BG A w x l) : x < w.heap.size:=by
 rcases h.st with ⟨h1, h2⟩ | ⟨v, h1, h2, h3⟩
 ·exact (Array.getElem?_eq_some_iff.1 h2).1
 ·exact bk_lt h1
theorem BG.more {A : Nat -> Prop} {x : Nat} {l : List UInt8} (h : BG A w x l) (f : Fr (λ _ => False) w w2) : BG (λ c => A c ∨ (w.heap.size <= c /\ c < w2.heap.size)) w2 x l:=by
 have h2:=h.frm f
 refine ⟨?_, λ hx => hx.elim h.new λ hc => by have:=h.lt; omega, λ c hc => hc.elim (h2.lo c) (·.2)⟩
 rcases h2.st with h1 | ⟨v, h1, h3, h4⟩
 ·exact .inl h1
 ·refine .inr ⟨v, h1, h3, ?_⟩
  have hr : RowB A w x v l:=by
   rcases h.st with ⟨_, e2⟩ | ⟨v', e1, e2, e3⟩
   ·exfalso
    have e3:=f.block x (Array.getElem?_eq_some_iff.1 e2).1 id
    rw [e2] at e3
    unfold bk at h1
    rw [e3] at h1
    simp at h1
   ·have:=f.bk_some e1 id
    rw [h1] at this
    simp only [Option.some.injEq, List.cons.injEq, and_true, true_and] at this
    rw [this]; exact e3
  rcases hr with e | ⟨g, cap, cs, e1, e2, e3, e4, e5, e6, e7⟩
  ·exact .inl e
  ·have hg:=(Array.getElem?_eq_some_iff.1 e2).1
   exact .inr ⟨g, cap, cs, e1, by rw [f.block g hg id]; exact e2, e3, e4, e5, λ hc => hc.elim e6 λ hc => by omega, e7⟩
theorem bgCheck {A : Nat -> Prop} {x : Nat} {l : List UInt8} (h : BG A w x l) {Q : Value -> World -> Prop} (q : ∀ w' v, bk w' x = some [PtrB x, v] -> wr w' x = true -> RowB A w' x v l -> Fr (λ c => ¬ A c) w w' -> Q (.tuple #[]) w') :
  Run (F.strings_Builder_copyCheck (PtrB x)) w Q:=by
 rcases h.st with ⟨rfl, hh⟩ | ⟨v, h1, h2, h3⟩
 ·have h0 : w.cell? ⟨x, 0, none⟩ = some (.pointer none):=by
   unfold World.cell?
   rw [hh]; rfl
  have h1 : w.shape? x = some (93, 2):=by
   unfold World.shape?
   rw [hh]
   rfl
  have h2 : w.frozen? ⟨x, 0, none⟩ = false:=by
   unfold World.frozen?
   rw [hh]
   rfl
  have hlt:=(Array.getElem?_eq_some_iff.1 hh).1
  refine ⟨_, _, ?_, q (w.setCell ⟨x, 0, none⟩ (PtrB x)) (.slice none 0 0) ?_ ?_ (.inl ⟨rfl, rfl⟩) ?_⟩
  ·unfold F.strings_Builder_copyCheck
   simp only [h0, h1, h2, and_self, if_true]
  ·unfold bk World.setCell
   simp only [Array.getElem?_modify, hh, if_true]
   rfl
  ·unfold wr World.setCell
   simp only [Array.getElem?_modify, hh, if_true]
   rfl
  ·have f : Fr (λ c => c = x) w (w.setCell ⟨x, 0, none⟩ (PtrB x)):=by
    refine ⟨rfl, rfl, rfl, ?_, λ b hb hne => ?_⟩
    ·unfold World.setCell
     simp only [Array.size_modify]
     exact Nat.le_refl _
    ·unfold World.setCell
     simp only [Array.getElem?_modify]
     rw [if_neg (λ e => hne e.symm)]
   exact f.mono λ c hc => hc ▸ h.new
 ·exact bldUsed_run h1 (q w v h1 h2 h3 (Fr.refl _ _))
theorem bgStore {A : Nat -> Prop} {x : Nat} {v r : Value} {l : List UInt8} (h1 : bk w x = some [PtrB x, v]) (h2 : wr w x = true) (h3 : RowB A w x r l) (hn : ¬ A x) (hA : ∀ c, A c -> c < w.heap.size) : BG A (sto w x 1 [r]) x l /\ Fr (λ c => c = x) w (sto w x 1 [r]):=by
 have f : Fr (λ c => c = x) w (sto w x 1 [r]):=(show Fr (λ c => c = x) w w from Fr.refl _ _).sto (.inl rfl) _ _
 refine ⟨⟨.inr ⟨r, by rw [bk_sto_same h1]; rfl, by rw [wr_sto]; exact h2, ?_⟩, hn, λ c hc => Nat.lt_of_lt_of_le (hA c hc) f.size⟩, f⟩
 rcases h3 with h | ⟨g, cap, cs, e1, e2, e3, e4, e5, e6, e7⟩
 ·exact .inl h
 ·exact .inr ⟨g, cap, cs, e1, by rw [f.block g (Array.getElem?_eq_some_iff.1 e2).1 (λ e => e7 e.symm)]; exact e2, e3, e4, e5, e6, e7⟩
theorem bk_of_heapEq {x : Nat} (h : w1.heap[x]? = w.heap[x]?) : bk w1 x = bk w x /\ wr w1 x = wr w x:=by
 unfold bk wr
 rw [h]
 exact ⟨rfl, rfl⟩
theorem bgWrite_run {A : Nat -> Prop} {x : Nat} {l s : List UInt8} (h : BG A w x l) (hs : s ≠ []) (hl : l.length + s.length <= 1073741824) :
  Run (F.strings_Builder_WriteString (PtrB x) (.string (sb s))) w λ _ w' => BG A w' x (l ++ s) /\ Fr (λ c => ¬ A c) w w':=by
 unfold F.strings_Builder_WriteString
 rw [Run_bind]
 refine bgCheck h λ w1 v b1 b2 b3 b4 => ?_
 have nck : nilChk (PtrB x) = some (PtrB x):=rfl
 have ld : ld1 (.pointer (some ⟨x, 0 + 1, none⟩)) w1 = some v:=by rw [ld1_ptr, b1]; rfl
 rw [nck, Run_bindO_some, fieldA_ptr, Run_bindO_some, Run_bind, Run_rdM]
 refine ⟨_, ld, ?_⟩
 rw [Run_bind]
 have hf : firstN w1 1 s.length (.string (sb s)) = some (s.map λ b => Value.int .u8 b.toNat):=by
  have he : (sb s).extract 0 s.length = sb s:=by rw [sb_extract, List.take_length, List.drop_zero]
  simp only [firstN, he]
  simp [sb]
 have lo1 : ∀ c, A c -> c < w1.heap.size:=λ c hc => Nat.lt_of_lt_of_le (h.lo c hc) b4.size
 refine (raw_app b3 lo1 (bk_lt b1) (by simp only [lenN, sb_size]) hf hs hl).mono ?_
 rintro r w2 ⟨c1, c2, c3⟩
 obtain ⟨d1, d2⟩:=bk_of_heapEq c2
 rw [b1] at d1
 rw [b2] at d2
 rw [Run_bindO_some, fieldA_ptr, Run_bindO_some, Run_bind]
 have hcell : isCell r = true:=by
  rcases c1 with ⟨_, rfl⟩ | ⟨g, cap, cs, rfl, _⟩ <;> rfl
 have hsz : r.cells = #[r]:=by
  rcases c1 with ⟨_, rfl⟩ | ⟨g, cap, cs, rfl, _⟩ <;> rfl
 rw [Run_stM (by rw [hsz]; rfl) (by rw [hsz]; simp [hcell]) ⟨⟨_, d1, by simp⟩, d2⟩]
 have hst : sto w2 x (0 + 1) r.cells.toList = sto w2 x 1 [r]:=by rw [hsz]
 rw [hst, lenS_string, Run_bindO_some, Run_ret]
 obtain ⟨g1, g2⟩:=bgStore d1 d2 c1 h.new λ c hc => Nat.lt_of_lt_of_le (lo1 c hc) c3.size
 exact ⟨g1, (b4.trans c3 λ _ _ hc => hc.1).trans g2 λ _ _ hc => hc ▸ h.new⟩
theorem bgByte_run {A : Nat -> Prop} {x : Nat} {l : List UInt8} (h : BG A w x l) (c : UInt8) (hl : l.length + 1 <= 1073741824) :
  Run (F.strings_Builder_WriteByte (PtrB x) (by8 c)) w λ _ w' => BG A w' x (l ++ [c]) /\ Fr (λ c => ¬ A c) w w':=by
 unfold F.strings_Builder_WriteByte
 rw [Run_bind]
 refine bgCheck h λ w1 v b1 b2 b3 b4 => ?_
 have nck : nilChk (PtrB x) = some (PtrB x):=rfl
 have ld : ld1 (.pointer (some ⟨x, 0 + 1, none⟩)) w1 = some v:=by rw [ld1_ptr, b1]; rfl
 rw [nck, Run_bindO_some, fieldA_ptr, Run_bindO_some, Run_bind, Run_rdM]
 refine ⟨_, ld, ?_⟩
 rw [Run_bind]
 refine Run_bsl (k:=1) (vs:=[by8 c]) (by rfl) (by intro v hv; simp only [List.mem_singleton] at hv; subst hv; rfl) rfl (by kernel_rfl) λ y w2 hy f2 _ => ?_
 have b3':=b3.frm f2
 have b1':=f2.bk_some b1 id
 have b2' : wr w2 x = true:=by rw [f2.wr (bk_lt b1) id]; exact b2
 have hn : lenN y = some [c].length:=hy.1.lenN
 have hf : firstN w2 1 [c].length y = some ([c].map λ b => Value.int .u8 b.toNat):=by
  have hy1:=hy.1
  obtain ⟨_, a, cp, rfl, _⟩:=hy1
  exact ldN_sl hy.1
 rw [Run_bind]
 have b5 : Fr (λ c => ¬ A c) w w2:=b4.trans f2 λ _ _ hf => hf.elim
 have lo2 : ∀ c, A c -> c < w2.heap.size:=λ c hc => Nat.lt_of_lt_of_le (h.lo c hc) b5.size
 refine (raw_app b3' lo2 (bk_lt b1') hn hf (by simp) (by simp; omega)).mono ?_
 rintro r w3 ⟨c1, c2, c3⟩
 obtain ⟨d1, d2⟩:=bk_of_heapEq c2
 rw [b1'] at d1
 rw [b2'] at d2
 rw [Run_bindO_some, fieldA_ptr, Run_bindO_some, Run_bind]
 have hcell : isCell r = true:=by
  rcases c1 with ⟨_, rfl⟩ | ⟨g, cap, cs, rfl, _⟩ <;> rfl
 have hsz : r.cells = #[r]:=by
  rcases c1 with ⟨_, rfl⟩ | ⟨g, cap, cs, rfl, _⟩ <;> rfl
 rw [Run_stM (by rw [hsz]; rfl) (by rw [hsz]; simp [hcell]) ⟨⟨_, d1, by simp⟩, d2⟩]
 have hst : sto w3 x (0 + 1) r.cells.toList = sto w3 x 1 [r]:=by rw [hsz]
 rw [hst, Run_ret]
 obtain ⟨g1, g2⟩:=bgStore d1 d2 c1 h.new λ c hc => Nat.lt_of_lt_of_le (lo2 c hc) c3.size
 exact ⟨g1, (b5.trans c3 λ _ _ hc => hc.1).trans g2 λ _ _ hc => hc ▸ h.new⟩
theorem bgString_run {A : Nat -> Prop} {x : Nat} {l : List UInt8} (h : BG A w x l) (h0 : l ≠ []) (hl : l.length <= 1073741824) : Run (F.strings_Builder_String (PtrB x)) w λ r w' => r = .string (sb l) /\ Fr (λ c => ¬ A c) w w':=by
 rcases h.st with ⟨h1, _⟩ | ⟨v, h1, h2, h3⟩
 ·exact absurd h1 h0
 rcases h3 with ⟨h3, _⟩ | ⟨g, cap, cs, rfl, e2, e3, e4, e5, e6, e7⟩
 ·exact absurd h3 h0
 refine (bldString_run (cap:=cap) (g:=g) ⟨h1, h2, e7, e4, cs, e2, e3, e5⟩ h0 (by omega)).mono ?_
 rintro _ w' ⟨rfl, f⟩
 exact ⟨rfl, f.mono λ c hc => by rcases hc with rfl | rfl; exact h.new; exact e6⟩
theorem bgNew {Q : Value -> World -> Prop} (q : ∀ x w', BG (λ c => c < w.heap.size) w' x [] -> Fr (λ _ => False) w w' -> Q (PtrB x) w') : Run (newM 93 #[(Value.pointer none), (Value.slice none 0 0)]) w Q:=by
 refine Run_newM.2 (q _ _ ⟨.inl ⟨rfl, ?_⟩, Nat.lt_irrefl _, λ c hc => ?_⟩ ((Fr.refl _ _).alloc _))
 ·show (w.heap.push _)[w.heap.size]? = _
  simp
 ·show c < (w.heap.push _).size
  simp; omega
end
theorem far_ex {α : Type} (p : α -> Bool) : ∀ l : List α, ∃ J, J <= l.length /\ (∀ i a, i < J -> l[i]? = some a -> p a = true) /\ ((J = l.length /\ l.all p = true) ∨ ∃ a, l[J]? = some a /\ p a = false /\ l.all p = false)
 | [] => ⟨0, Nat.le_refl _, λ i a h => absurd h (by omega), .inl ⟨rfl, rfl⟩⟩
 | a :: l => by
  by_cases h : p a = true
  ·obtain ⟨J, h1, h2, h3⟩:=far_ex p l
   refine ⟨J + 1, by rw [List.length_cons]; omega, λ i b hi hb => ?_, ?_⟩
   ·cases i with
    | zero => simp at hb; subst hb; exact h
    | succ i => exact h2 i b (by omega) (by simpa using hb)
   ·rcases h3 with ⟨e, ha⟩ | ⟨b, hb, hp, ha⟩
    ·exact .inl ⟨by rw [List.length_cons, e], by rw [List.all_cons, h, ha]; rfl⟩
    ·exact .inr ⟨b, by simpa using hb, hp, by rw [List.all_cons, ha, Bool.and_false]⟩
  ·exact ⟨0, by omega, λ i b hi => absurd hi (by omega), .inr ⟨a, rfl, by simpa using h, by rw [List.all_cons]; simp [h]⟩⟩
structure Fd where
 word : List UInt8
 lo : Int
 hi : Int
 off : Nat
 fn : Value
def Fd.row (f : Fd) : List Value:=[.string (sb f.word), .int .i64 f.lo, .int .i64 f.hi, f.fn]
def Fd.v (f : Fd) : Value:=.agg #[.string (sb f.word), .int .i64 f.lo, .int .i64 f.hi, f.fn]
structure Fd.Ok (f : Fd) : Prop where
 cls : ∀ (x : Nat) (w : World) (Q : Value -> World -> Prop), Q (.pointer (some ⟨x, f.off, none⟩)) w -> Run (callV F.clos f.fn [.pointer (some ⟨x, 0, none⟩)]) w Q
 cell : f.fn.cells = #[f.fn] /\ isCell f.fn = true
 low : 0 <= f.lo /\ f.hi <= 9007199254740992
 word : f.word ≠ [] /\ f.word.length <= 100 /\ (10 : UInt8) ∉ f.word
def Fd.inR (f : Fd) (g : Nat -> Int) : Bool:=decide (f.lo <= g f.off /\ g f.off <= f.hi)
section
variable {w w1 w2 : World}
theorem Fd.cells {f : Fd} (h : f.Ok) : f.v.cells.size = 4 /\ f.v.cells.toList.all isCell = true /\ f.v.cells.toList = f.row:=by
 have h1:=h.cell.1
 have e : f.v.cells = #[.string (sb f.word), .int .i64 f.lo, .int .i64 f.hi, f.fn]:=rfl
 rw [e]
 refine ⟨rfl, ?_, rfl⟩
 show (true && (true && (true && (isCell f.fn && true)))) = true
 rw [h.cell.2]; rfl
theorem Run_field {β : Type} {t : Value} {fs : List Fd} (ht : Sl 4 w t (fs.map Fd.row)) {i : Nat} {f : Fd} (hf : fs[i]? = some f) (hok : f.Ok) {ty : TypeId} {K : Value -> M β} {Q : β -> World -> Prop}
  (q : ∀ x w', bk w' x = some f.row -> wr w' x = true -> w.heap.size <= x -> Fr (λ _ => False) w w' -> Run (K (.pointer (some ⟨x, 0, none⟩))) w' Q) :
  Run (bindO (idxA 4 t (.int .i64 (i : Int))) λ x4 => M.bind (rdM (ldA 4 x4)) λ x5 => M.bind (newM ty #[(Value.string ByteArray.empty), (Value.int IntKind.i64 0), (Value.int IntKind.i64 0), Value.nilFunc]) λ x6 => M.bind (stM 4 x6 x5) λ _ => K x6) w Q:=by
 obtain ⟨p, p1, p2⟩:=ht.rdA (by decide) (i:=i) (e:=f.row) (by simp [hf]) .i64
 have p1' : idxA 4 t (.int .i64 (i : Int)) = some p:=p1
 rw [p1', Run_bindO_some, Run_bind, Run_rdM]
 refine ⟨_, p2, ?_⟩
 rw [Run_bind]
 refine Run_new λ x w1 hx hw f1 hle => ?_
 obtain ⟨c1, c2, c3⟩:=Fd.cells hok
 have c1' : (Value.agg f.row.toArray).cells.size = 4:=c1
 have c2' : (Value.agg f.row.toArray).cells.toList.all isCell = true:=c2
 rw [Run_bind, Run_stM c1' c2' ⟨⟨_, hx, by simp⟩, hw⟩]
 refine q x _ ?_ (by rw [wr_sto]; exact hw) hle (f1.sto (.inr hle) _ _)
 rw [bk_sto_same hx]
 rfl
theorem ranges_run {t : Value} {fs : List Fd} (ht : Sl 4 w t (fs.map Fd.row)) (hok : ∀ f ∈ fs, f.Ok) {x : Nat} {l : List Value} {g : Nat -> Int} (hx : bk w x = some l) (hg : ∀ f ∈ fs, l[f.off]? = some (.int .i64 (g f.off))) (hn : fs.length <= 1000) :
  Run (F.api_Pointer t (.pointer (some ⟨x, 0, none⟩))) w λ r w' => r = .bool (fs.all λ f => f.inR g) /\ Fr (λ _ => False) w w':=by
 unfold F.api_Pointer
 have hlen:=ht.lenL
 rw [List.length_map] at hlen
 rw [hlen, Run_bindO_some, Run_bind]
 obtain ⟨J, hJ, hgood, hend⟩:=far_ex (λ f : Fd => f.inR g) fs
 have step : ∀ (i : Nat) (f : Fd) (w1 : World), fs[i]? = some f -> Fr (λ _ => False) w w1 -> ∀ {β : Type} {K : Value -> M β} {Q : β -> World -> Prop}, (∀ w', Fr (λ _ => False) w w' -> Run (K (.bool (!f.inR g))) w' Q) ->
   Run (bindO (idxA 4 t (.int .i64 (i : Int))) λ x4 => M.bind (rdM (ldA 4 x4)) λ x5 => M.bind (newM 165 #[(Value.string ByteArray.empty), (Value.int IntKind.i64 0), (Value.int IntKind.i64 0), Value.nilFunc]) λ x6 => M.bind (stM 4 x6 x5) λ _ =>
    bindO (fieldA 3 x6) λ x8 =>
    M.bind (rdM (ld1 x8)) λ x9 =>
    M.bind (callV F.clos x9 [.pointer (some ⟨x, 0, none⟩)]) λ x10 =>
    bindO (nilChk x10) λ x11 =>
    M.bind (rdM (ld1 x11)) λ x12 =>
    bindO (fieldA 1 x6) λ x13 =>
    M.bind (rdM (ld1 x13)) λ x14 =>
    bindO (binV BinOp.lss x12 x14) λ x15 =>
    M.bind (guardM x15 false (M.ret x12)) λ x16 =>
    M.bind (guardM x15 false (optM (fieldA 2 x6))) λ x17 =>
    M.bind (guardM x15 false (rdM (ld1 x17))) λ x18 =>
    M.bind (guardM x15 false (optM (binV BinOp.gtr x16 x18))) λ x19 =>
    bindO (pickV x15 (Value.bool true) x19) K) w1 Q:=by
  intro i f w1 hf f1 β K Q q
  have hfm:=List.mem_of_getElem? hf
  refine Run_field (ht.fr0 f1) hf (hok f hfm) λ y w2 hy hwy hyle f2 => ?_
  have f12:=f1.trans f2 λ _ _ => id
  have hx2:=f12.bk_some hx id
  have ld3 : ld1 (.pointer (some ⟨y, 0 + 3, none⟩)) w2 = some f.fn:=by rw [ld1_ptr, hy]; rfl
  have ld1' : ld1 (.pointer (some ⟨y, 0 + 1, none⟩)) w2 = some (.int .i64 f.lo):=by rw [ld1_ptr, hy]; rfl
  have ld2 : ld1 (.pointer (some ⟨y, 0 + 2, none⟩)) w2 = some (.int .i64 f.hi):=by rw [ld1_ptr, hy]; rfl
  have ldx : ld1 (.pointer (some ⟨x, f.off, none⟩)) w2 = some (.int .i64 (g f.off)):=by rw [ld1_ptr, hx2]; exact hg f hfm
  rw [fieldA_ptr, Run_bindO_some, Run_bind, Run_rdM]
  refine ⟨_, ld3, ?_⟩
  rw [Run_bind]
  refine (hok f hfm).cls x w2 _ ?_
  have nck : nilChk (.pointer (some ⟨x, f.off, none⟩)) = some (.pointer (some ⟨x, f.off, none⟩)):=rfl
  rw [nck, Run_bindO_some, Run_bind, Run_rdM]
  refine ⟨_, ldx, ?_⟩
  rw [fieldA_ptr, Run_bindO_some, Run_bind, Run_rdM]
  refine ⟨_, ld1', ?_⟩
  by_cases h1 : g f.off < f.lo
  ·have hi : f.inR g = false:=by unfold Fd.inR; exact decide_eq_false (by omega)
   rw [hi] at q
   rw [lssT h1, Run_bindO_some]
   simp only [Run_bind, Run_guardM_tf, pickV_bool, cond_true, Run_bindO_some]
   exact q w2 f12
  ·rw [lssF h1, Run_bindO_some]
   simp only [Run_bind, Run_guardM_ff, Run_ret, fieldA_ptr, Run_optM_some, Run_rdM]
   refine ⟨_, ld2, ?_⟩
   by_cases h2 : f.hi < g f.off
   ·have hi : f.inR g = false:=by unfold Fd.inR; exact decide_eq_false (by omega)
    rw [hi] at q
    simp only [binV_int, intBin_gtr, gt_iff_lt, h2, decide_true, Run_optM_some, pickV_bool, cond_false, Run_bindO_some]
    exact q w2 f12
   ·have hi : f.inR g = true:=by unfold Fd.inR; exact decide_eq_true (by omega)
    rw [hi] at q
    simp only [binV_int, intBin_gtr, gt_iff_lt, h2, decide_false, Run_optM_some, pickV_bool, cond_false, Run_bindO_some]
    exact q w2 f12
 refine Run_for J (λ i L w' => L = [.int .i64 (i : Int)] /\ Fr (λ _ => False) w w') ⟨rfl, Fr.refl _ _⟩ ?_ ?_
 ·rintro i L w1 hi ⟨rfl, f1⟩
  obtain ⟨f, hf⟩ : ∃ f, fs[i]? = some f:=⟨_, List.getElem?_eq_getElem (by omega)⟩
  have hil : (i : Int) < fs.length:=by omega
  have wi:=wrap_succ' (n:=i) (by omega)
  rw [getL_zero, lssT hil, Run_bindO_some, Run_condM_true]
  refine step i f w1 hf f1 λ w2 f2 => ?_
  rw [hgood i f hi hf, Bool.not_true, Run_condM_false, binV_int, intBin_add, wi, Run_bindO_some, Run_ret]
  exact ⟨rfl, f2⟩
 ·rintro L w1 ⟨rfl, f1⟩
  rcases hend with ⟨rfl, hall⟩ | ⟨f, hf, hp, hall⟩
  ·have hn : ¬ ((fs.length : Nat) : Int) < fs.length:=by omega
   rw [getL_zero, lssF hn, Run_bindO_some, Run_condM_false, Run_ret]
   simp only [outK_exit]
   rw [show Nat.beq 0 0 = true from rfl, cond_true, Run_ret, hall]
   exact ⟨rfl, f1⟩
  ·have hlt:=(List.getElem?_eq_some_iff.1 hf).1
   have hil : (J : Int) < fs.length:=by omega
   rw [getL_zero, lssT hil, Run_bindO_some, Run_condM_true]
   refine step J f w1 hf f1 λ w2 f2 => ?_
   rw [hp, Bool.not_false, Run_condM_true, Run_ret]
   simp only [outK_ret, Run_ret, hall]
   exact ⟨trivial, f2⟩
end
def SUM : List UInt8:=[115, 117, 109, 32]
def closeL (l : List UInt8) : List UInt8:=l ++ SUM ++ eightL (crcF (sb l)) ++ [10]
def fldL (f : Fd) (n : Nat) : List UInt8:=f.word ++ [32] ++ Lib.decDigits n ++ [10]
def fldsL (fs : List Fd) (g : Nat -> Int) : List UInt8:=(fs.map λ f => fldL f (g f.off).toNat).flatten
section
variable {w w1 w2 : World}
theorem line_run {A : Nat -> Prop} {x : Nat} {l : List UInt8} (h : BG A w x l) {v : Value} {xs : List (List UInt8)} (hv : Sl 1 w v (xs.map λ y => [.string (sb y)])) (hne : joinL (xs.map sb) (sb [32]) ≠ []) (hx : xs.length <= 100) (hs : (joinL (xs.map sb) (sb [32])).length <= 1048576)
  (hsum : ((xs.map sb).map (·.size)).sum <= 1048576) (hl : l.length <= 536870912) :
  Run (F.paper_line (PtrB x) v) w λ _ w' => BG A w' x (l ++ (joinL (xs.map sb) (sb [32]) ++ [10])) /\ Fr (λ c => ¬ A c) w w':=by
 unfold F.paper_line
 have e32 : ByteArray.mk #[32] = sb [32]:=rfl
 rw [e32, Run_bind]
 have hv' : Sl 1 w v ((xs.map sb).map λ y => [.string y]):=by rw [List.map_map]; exact hv
 refine (join2_run hv' (by rw [sb_size]; decide) (by rw [sb_size]; decide) (by omega) (by rw [List.length_map]; omega)).mono ?_
 rintro _ w1 ⟨rfl, f1⟩
 rw [Run_bind]
 refine (bgWrite_run (h.frm f1) hne (by omega)).mono ?_
 rintro _ w2 ⟨h2, f2⟩
 rw [Run_bind]
 have e10 : Value.int IntKind.u8 10 = by8 10:=rfl
 rw [e10]
 refine (bgByte_run h2 10 (by rw [List.length_append]; omega)).mono ?_
 rintro _ w3 ⟨h3, f3⟩
 rw [Run_ret]
 rw [List.append_assoc] at h3
 exact ⟨h3, ((f1.mono λ _ hc => hc.elim).trans f2 λ _ _ hc => hc).trans f3 λ _ _ hc => hc⟩
theorem closed_run {A : Nat -> Prop} {x : Nat} {l : List UInt8} (ht : Tb w) (h : BG A w x l) (h0 : l ≠ []) (hl : l.length <= 536870912) (hA : ∀ c, c < 11 -> A c) :
  Run (F.paper_closed (PtrB x)) w λ r w' => r = .string (sb (closeL l)) /\ Fr (λ c => ¬ A c) w w':=by
 unfold F.paper_closed
 rw [Run_bind]
 refine (bgString_run h h0 (by omega)).mono ?_
 rintro _ w1 ⟨rfl, f1⟩
 have t1:=ht.fr f1 λ c hc hn => hn (hA c hc)
 have eS : ByteArray.mk #[115, 117, 109, 32] = sb SUM:=rfl
 have e10 : ByteArray.mk #[10] = sb [10]:=rfl
 have lS : SUM.length = 4:=rfl
 have a1:=sbAdd (a:=l) (c:=SUM) (by omega)
 rw [eS, a1, Run_bindO_some, Run_bind]
 refine Run_bsl (k:=1) (vs:=[.string (sb l)]) (by rfl) (by intro v hv; simp only [List.mem_singleton] at hv; subst hv; rfl) rfl (by kernel_rfl) λ r w2 hr f2 _ => ?_
 have t2:=t1.fr0 f2
 rw [Run_bind]
 refine (crc_run t2.nib hr.1 (by rw [sb_size]; omega)).mono ?_
 rintro _ w3 ⟨rfl, rfl⟩
 rw [Run_bind]
 refine (hex8_run t2.bits (crcF_lt _)).mono ?_
 rintro _ w4 ⟨rfl, f4⟩
 have l8 : (eightL (crcF (sb l))).length = 8:=lowD_len _ _
 have eE : eightS (crcF (sb l)) = sb (eightL (crcF (sb l))):=rfl
 have a2:=sbAdd (a:=l ++ SUM) (c:=eightL (crcF (sb l))) (by rw [List.length_append]; omega)
 have a3:=sbAdd (a:=l ++ SUM ++ eightL (crcF (sb l))) (c:=[10]) (by rw [List.length_append, List.length_append, List.length_singleton]; omega)
 rw [eE, a2, Run_bindO_some, e10, a3, Run_bindO_some, Run_ret]
 exact ⟨rfl, (f1.trans f2 λ _ _ hc => hc.elim).trans f4 λ _ _ hc => hc.elim⟩
theorem join_two (a b : List UInt8) : joinL ([a, b].map sb) (sb [32]) = a ++ [32] ++ b:=by simp [joinL, sb]
theorem join_one (a : List UInt8) : joinL ([a].map sb) (sb [32]) = a:=by simp [joinL, sb]
theorem write_run {A : Nat -> Prop} {b : Nat} {l0 : List UInt8} {t : Value} {fs : List Fd} (hB : BG A w b l0) (htb : Tb w) (hA : ∀ c, c < 11 -> A c) (htA : ∀ c, inB t c -> A c) (ht : Sl 4 w t (fs.map Fd.row)) (hok : ∀ f ∈ fs, f.Ok) {x : Nat} {l : List Value} {g : Nat -> Int} (hx : bk w x = some l) (hxA : A x) (hg : ∀ f ∈ fs, l[f.off]? = some (.int .i64 (g f.off)))
  (hr : ∀ f ∈ fs, f.inR g = true) (hn : fs.length <= 100) (hl : l0.length <= 1048576) :
  Run (F.api_Pointer_64 (PtrB b) t (.pointer (some ⟨x, 0, none⟩))) w λ _ w' => BG A w' b (l0 ++ fldsL fs g) /\ Fr (λ c => ¬ A c) w w':=by
 unfold F.api_Pointer_64
 have hlen:=ht.lenL
 rw [List.length_map] at hlen
 rw [hlen, Run_bindO_some, Run_bind]
 have hdec : ∀ f ∈ fs, (Lib.decDigits (g f.off).toNat).length <= 20 /\ (fldL f (g f.off).toNat).length <= 122 /\ 0 <= g f.off /\ (g f.off).toNat < 9223372036854775808:=λ f hf => by
  have h1:=hr f hf
  unfold Fd.inR at h1
  have h2:=of_decide_eq_true h1
  have h3:=(hok f hf).low
  have h4:=(hok f hf).word.2.1
  have h5:=dec_len (n:=(g f.off).toNat) (by omega)
  refine ⟨h5, ?_, by omega, by omega⟩
  simp only [fldL, List.length_append, List.length_singleton]
  omega
 have hfl : ∀ i, (fldsL (fs.take i) g).length <= i * 122:=λ i => by
  have : ∀ (l : List Fd), (∀ f ∈ l, f ∈ fs) -> (fldsL l g).length <= l.length * 122:=λ l => by
   induction l with
   | nil => intro _; simp [fldsL]
   | cons f l ih =>
    intro hm
    have h1:=ih λ f hf => hm f (List.mem_cons_of_mem _ hf)
    have h2:=(hdec f (hm f (by simp))).2.1
    simp only [fldsL, List.map_cons, List.flatten_cons, List.length_append, List.length_cons] at h1 ⊢
    omega
  have h1:=this (fs.take i) λ f hf => List.mem_of_mem_take hf
  have h2 : (fs.take i).length * 122 <= i * 122:=Nat.mul_le_mul_right _ (List.length_take_le i fs)
  omega
 refine Run_for fs.length (λ i L w' => L = [.int .i64 (i : Int)] /\ BG A w' b (l0 ++ fldsL (fs.take i) g) /\ Fr (λ c => ¬ A c) w w') ⟨rfl, by simpa [fldsL] using hB, Fr.refl _ _⟩ ?_ ?_
 ·rintro i L w1 hi ⟨rfl, hB1, f1⟩
  have ht1:=ht.fr f1 λ c hc hn => hn (htA c hc)
  have hx1:=f1.bk_some hx λ hn => hn hxA
  have tb1:=htb.fr f1 λ c hc hn => hn (hA c hc)
  obtain ⟨f, hf⟩ : ∃ f, fs[i]? = some f:=⟨_, List.getElem?_eq_getElem (by omega)⟩
  have hfm:=List.mem_of_getElem? hf
  have hil : (i : Int) < fs.length:=by omega
  have wi:=wrap_succ' (n:=i) (by omega)
  obtain ⟨d1, d2, d3, d4⟩:=hdec f hfm
  have hsnoc : fldsL (fs.take (i + 1)) g = fldsL (fs.take i) g ++ fldL f (g f.off).toNat:=by
   rw [take_snocP hf]; simp [fldsL]
  rw [getL_zero, lssT hil, Run_bindO_some, Run_condM_true]
  refine Run_field ht1 hf (hok f hfm) λ y w2 hy hwy hyle f2 => ?_
  rw [Run_drewM, Run_getM, fieldA_ptr, Run_bindO_some, Run_bind, Run_rdM]
  have f2d : Fr (λ _ => False) w1 w2.drew:=f2.drew
  have hyd : bk w2.drew y = some f.row:=hy
  generalize w2.drew = w3 at *
  have ld0 : ld1 (.pointer (some ⟨y, 0 + 0, none⟩)) w3 = some (.string (sb f.word)):=by rw [ld1_ptr, hyd]; rfl
  have ld3 : ld1 (.pointer (some ⟨y, 0 + 3, none⟩)) w3 = some f.fn:=by rw [ld1_ptr, hyd]; rfl
  refine ⟨_, ld0, ?_⟩
  rw [fieldA_ptr, Run_bindO_some, Run_bind, Run_rdM]
  refine ⟨_, ld3, ?_⟩
  rw [Run_bind]
  refine (hok f hfm).cls x w3 _ ?_
  rw [Run_getM]
  have nck : nilChk (.pointer (some ⟨x, f.off, none⟩)) = some (.pointer (some ⟨x, f.off, none⟩)):=rfl
  have ldx : ld1 (.pointer (some ⟨x, f.off, none⟩)) w3 = some (.int .i64 (g f.off)):=by rw [ld1_ptr, f2d.bk_some hx1 id]; exact hg f hfm
  rw [nck, Run_bindO_some, Run_bind, Run_rdM]
  refine ⟨_, ldx, ?_⟩
  have hgn : g f.off = (((g f.off).toNat : Nat) : Int):=(Int.toNat_of_nonneg d3).symm
  rw [Run_bind]
  have hit:=itoa_run (tb1.fr0 f2d) (n:=(g f.off).toNat) d4
  rw [<- hgn] at hit
  refine hit.mono ?_
  rintro _ w4 ⟨rfl, f4⟩
  rw [Run_getM, Run_bind]
  have hy4:=f4.bk_some hyd id
  have ld4 : ld1 (.pointer (some ⟨y, 0 + 0, none⟩)) w4 = some (.string (sb f.word)):=by rw [ld1_ptr, hy4]; rfl
  refine Run_bsl (k:=1) (vs:=[.string (sb f.word), .string (itoaS (g f.off).toNat)]) (by rfl) (by intro v hv; simp only [List.mem_cons, List.not_mem_nil, or_false] at hv; rcases hv with rfl | rfl <;> rfl) rfl (by kernel_rfl) λ r w5 hr f5 _ => ?_
  rw [Run_getM, Run_bind]
  have f15:=(f2d.trans f4 λ _ _ => id).trans f5 λ _ _ => id
  have hB5:=hB1.frm f15
  have hwl:=(hok f hfm).word
  have hi122:=hfl i
  have hjl : (f.word ++ [32] ++ Lib.decDigits (g f.off).toNat).length <= 121:=by simp only [List.length_append, List.length_singleton]; omega
  refine (line_run hB5 (xs:=[f.word, Lib.decDigits (g f.off).toNat]) hr.1 (by rw [join_two]; simp) (by simp) (by rw [join_two]; omega) ?_ ?_).mono ?_
  ·simp only [List.map_cons, List.map_nil, List.sum_cons, List.sum_nil, sb_size]
   omega
  ·rw [List.length_append]
   omega
  ·rintro _ w6 ⟨h6, f6⟩
   rw [Run_getM, Run_reqM, Run_reqM]
   refine ⟨ld0, ld4, ?_⟩
   rw [binV_int, intBin_add, wi, Run_bindO_some, Run_ret]
   rw [join_two] at h6
   rw [hsnoc]
   refine ⟨rfl, ?_, (f1.trans f15 λ _ _ hc => hc.elim).trans f6 λ _ _ hc => hc⟩
   rw [List.append_assoc] at h6
   exact h6
 ·rintro L w1 ⟨rfl, hB1, f1⟩
  rw [List.take_length] at hB1
  have hn : ¬ ((fs.length : Nat) : Int) < fs.length:=by omega
  rw [getL_zero, lssF hn, Run_bindO_some, Run_condM_false, Run_ret]
  simp only [outK_exit]
  rw [show Nat.beq 0 0 = true from rfl, cond_true, Run_ret]
  exact ⟨hB1, f1⟩
end
def CUR : List UInt8:=[99, 117, 114]
def PREV : List UInt8:=[112, 114, 101, 118]
def EPOCH : List UInt8:=[101, 112, 111, 99, 104]
def SEQ : List UInt8:=[115, 101, 113]
def LATEST : List UInt8:=[103, 114, 97, 110, 97, 114, 121, 32, 108, 97, 116, 101, 115, 116, 32, 49]
def ptrF : List Fd:=[⟨CUR, 0, 999999, 0, .func (.func 109) #[] #[]⟩, ⟨PREV, 0, 999999, 1, .func (.func 110) #[] #[]⟩, ⟨EPOCH, 0, 9007199254740992, 2, .func (.func 111) #[] #[]⟩, ⟨SEQ, 0, 9007199254740992, 3, .func (.func 112) #[] #[]⟩]
def Nt.at (n : Nt) (i : Nat) : Int:=match i with
 | 0 => n.k
 | 1 => n.f
 | 2 => n.u
 | _ => n.c
def Nt.pok (n : Nt) : Bool:=ptrF.all λ f => f.inR n.at
def ptrL (n : Nt) : List UInt8:=LATEST ++ [10] ++ fldsL ptrF n.at
def ptrO (n : Nt) : Value:=if n.pok = true then .tuple #[.string (sb (closeL (ptrL n))), .int .i64 0] else .tuple #[.string (sb []), .int .i64 42]
theorem pok_iff (n : Nt) : n.pok = true ↔ (0 <= n.k /\ n.k <= 999999) /\ (0 <= n.f /\ n.f <= 999999) /\ (0 <= n.u /\ n.u <= 9007199254740992) /\ (0 <= n.c /\ n.c <= 9007199254740992):=by
 simp [Nt.pok, ptrF, Fd.inR, Nt.at]
theorem ptr_len {n : Nt} (h : n.pok = true) : (ptrL n).length <= 1000:=by
 have h1:=(pok_iff n).1 h
 have a:=dec_len (n:=n.k.toNat) (by omega)
 have b:=dec_len (n:=n.f.toNat) (by omega)
 have c:=dec_len (n:=n.u.toNat) (by omega)
 have d:=dec_len (n:=n.c.toNat) (by omega)
 simp [ptrL, fldsL, ptrF, fldL, Nt.at, CUR, PREV, EPOCH, SEQ, LATEST]
 omega
section
variable {w w1 w2 : World}
theorem ptrF_ok : ∀ f ∈ ptrF, f.Ok:=by
 intro f hf
 simp only [ptrF, List.mem_cons, List.not_mem_nil, or_false] at hf
 rcases hf with rfl | rfl | rfl | rfl
 ·exact ⟨λ x w Q q => by
   have e : callV F.clos (.func (.func 109) #[] #[]) [.pointer (some ⟨x, 0, none⟩)] = F.paper_pointerFields_1 (.pointer (some ⟨x, 0, none⟩)):=by kernel_rfl
   show Run (callV F.clos (.func (.func 109) #[] #[]) [.pointer (some ⟨x, 0, none⟩)]) w Q
   rw [e]
   unfold F.paper_pointerFields_1
   simp
   exact q, ⟨rfl, rfl⟩, by decide, by decide⟩
 ·exact ⟨λ x w Q q => by
   have e : callV F.clos (.func (.func 110) #[] #[]) [.pointer (some ⟨x, 0, none⟩)] = F.paper_pointerFields_2 (.pointer (some ⟨x, 0, none⟩)):=by kernel_rfl
   show Run (callV F.clos (.func (.func 110) #[] #[]) [.pointer (some ⟨x, 0, none⟩)]) w Q
   rw [e]
   unfold F.paper_pointerFields_2
   simp
   exact q, ⟨rfl, rfl⟩, by decide, by decide⟩
 ·exact ⟨λ x w Q q => by
   have e : callV F.clos (.func (.func 111) #[] #[]) [.pointer (some ⟨x, 0, none⟩)] = F.paper_pointerFields_3 (.pointer (some ⟨x, 0, none⟩)):=by kernel_rfl
   show Run (callV F.clos (.func (.func 111) #[] #[]) [.pointer (some ⟨x, 0, none⟩)]) w Q
   rw [e]
   unfold F.paper_pointerFields_3
   simp
   exact q, ⟨rfl, rfl⟩, by decide, by decide⟩
 ·exact ⟨λ x w Q q => by
   have e : callV F.clos (.func (.func 112) #[] #[]) [.pointer (some ⟨x, 0, none⟩)] = F.paper_pointerFields_4 (.pointer (some ⟨x, 0, none⟩)):=by kernel_rfl
   show Run (callV F.clos (.func (.func 112) #[] #[]) [.pointer (some ⟨x, 0, none⟩)]) w Q
   rw [e]
   unfold F.paper_pointerFields_4
   simp
   exact q, ⟨rfl, rfl⟩, by decide, by decide⟩
theorem ptrF_at (n : Nt) : ∀ f ∈ ptrF, n.row[f.off]? = some (.int .i64 (n.at f.off)):=by
 intro f hf
 simp only [ptrF, List.mem_cons, List.not_mem_nil, or_false] at hf
 rcases hf with rfl | rfl | rfl | rfl <;> rfl
theorem pfields_run : Run F.paper_pointerFields w λ r w' => SlW 4 w' r (ptrF.map Fd.row) /\ Fr (λ _ => False) w w' /\ ∀ c, inB r c -> w.heap.size <= c /\ c < w'.heap.size:=by
 unfold F.paper_pointerFields
 have b1 : buildV #[(Value.string ByteArray.empty), (Value.int IntKind.i64 0), (Value.int IntKind.i64 0), Value.nilFunc] [(0, 1, (Value.string (ByteArray.mk #[99, 117, 114]))), (1, 1, (Value.int IntKind.i64 0)), (2, 1, (Value.int IntKind.i64 999999)), (3, 1, (Value.func (Fn.func 109) #[] #[]))] = some (Fd.v ⟨CUR, 0, 999999, 0, .func (.func 109) #[] #[]⟩):=by kernel_rfl
 have b2 : buildV #[(Value.string ByteArray.empty), (Value.int IntKind.i64 0), (Value.int IntKind.i64 0), Value.nilFunc] [(0, 1, (Value.string (ByteArray.mk #[112, 114, 101, 118]))), (1, 1, (Value.int IntKind.i64 0)), (2, 1, (Value.int IntKind.i64 999999)), (3, 1, (Value.func (Fn.func 110) #[] #[]))] = some (Fd.v ⟨PREV, 0, 999999, 1, .func (.func 110) #[] #[]⟩):=by kernel_rfl
 have b3 : buildV #[(Value.string ByteArray.empty), (Value.int IntKind.i64 0), (Value.int IntKind.i64 0), Value.nilFunc] [(0, 1, (Value.string (ByteArray.mk #[101, 112, 111, 99, 104]))), (1, 1, (Value.int IntKind.i64 0)), (2, 1, (Value.int IntKind.i64 9007199254740992)), (3, 1, (Value.func (Fn.func 111) #[] #[]))] = some (Fd.v ⟨EPOCH, 0, 9007199254740992, 2, .func (.func 111) #[] #[]⟩):=by kernel_rfl
 have b4 : buildV #[(Value.string ByteArray.empty), (Value.int IntKind.i64 0), (Value.int IntKind.i64 0), Value.nilFunc] [(0, 1, (Value.string (ByteArray.mk #[115, 101, 113]))), (1, 1, (Value.int IntKind.i64 0)), (2, 1, (Value.int IntKind.i64 9007199254740992)), (3, 1, (Value.func (Fn.func 112) #[] #[]))] = some (Fd.v ⟨SEQ, 0, 9007199254740992, 3, .func (.func 112) #[] #[]⟩):=by kernel_rfl
 rw [b1, Run_bindO_some, b2, Run_bindO_some, b3, Run_bindO_some, b4, Run_bindO_some, Run_bind]
 refine Run_bsl (k:=4) (vs:=ptrF.map Fd.v) (by kernel_rfl) (by intro v hv; simp only [ptrF, List.map_cons, List.map_nil, List.mem_cons, List.not_mem_nil, or_false] at hv; rcases hv with rfl | rfl | rfl | rfl <;> rfl) rfl (by kernel_rfl) λ r w' hr f hb => ?_
 rw [Run_ret]
 exact ⟨hr, f, λ c hc => ⟨Nat.le_of_eq (hb c hc).1.symm, (hb c hc).2⟩⟩
theorem pprint_run (ht : Tb w) (n : Nt) : Run (F.paper_PrintPointer n.v) w λ r w' => r = ptrO n /\ Fr (λ _ => False) w w':=by
 unfold F.paper_PrintPointer
 rw [Run_bind]
 refine Run_new λ x w1 hx hxw f1 hxle => ?_
 replace hx : bk w1 x = some n.row:=hx
 have e0 : ByteArray.mk #[] = sb []:=rfl
 have eL : ByteArray.mk #[103, 114, 97, 110, 97, 114, 121, 32, 108, 97, 116, 101, 115, 116, 32, 49] = sb LATEST:=rfl
 rw [Run_bind]
 refine pfields_run.mono ?_
 rintro t w2 ⟨ht2, f2, hn2⟩
 rw [Run_bind]
 refine (ranges_run ht2.1 ptrF_ok (f2.bk_some hx id) (ptrF_at n) (by decide)).mono ?_
 rintro _ w3 ⟨rfl, f3⟩
 have f13:=(f1.trans f2 λ _ _ => id).trans f3 λ _ _ => id
 have hx3:=f3.bk_some (f2.bk_some hx id) id
 have hnv : ∀ b, notV (.bool b) = some (.bool !b):=λ _ => rfl
 rw [hnv, Run_bindO_some]
 cases hok : n.pok with
 | false =>
  have hok' : (ptrF.all λ f => f.inR n.at) = false:=hok
  rw [hok', Bool.not_false, Run_condM_true, Run_ret, ptrO, hok]
  exact ⟨by rw [if_neg (by simp), e0], f13⟩
 | true =>
  have hok' : (ptrF.all λ f => f.inR n.at) = true:=hok
  have z0 : buildV #[(Value.pointer none), (Value.slice none 0 0)] [] = some (.agg #[(Value.pointer none), (Value.slice none 0 0)]):=rfl
  rw [hok', Bool.not_true, Run_condM_false, z0, Run_bindO_some, Run_bind]
  refine bgNew λ b w4 hB f4 => ?_
  rw [Run_bind]
  refine Run_bsl (k:=1) (vs:=[.string (sb LATEST)]) (by rfl) (by intro v hv; simp only [List.mem_singleton] at hv; subst hv; rfl) rfl (by kernel_rfl) λ r w5 hr f5 _ => ?_
  rw [Run_bind]
  refine (line_run (hB.frm f5) (xs:=[LATEST]) hr.1 (by rw [join_one]; decide) (by decide) (by rw [join_one]; decide) (by simp [sb_size]; decide) (by decide)).mono ?_
  rintro _ w6 ⟨hB6, f6⟩
  rw [join_one, List.nil_append] at hB6
  rw [Run_bind]
  refine pfields_run.mono ?_
  rintro t2 w7 ⟨ht7, f7, hn7⟩
  have hB7:=hB6.more f7
  have low:=tb_low (ht.fr0 f13)
  have hx4:=bk_lt hx3
  have f37 : Fr (λ c => ¬ c < w3.heap.size) w3 w7:=(((f4.trans f5 λ _ _ => id).mono λ _ h => h.elim).trans f6 λ _ _ hc => hc).trans f7 λ _ _ h => h.elim
  have t7:=(ht.fr0 f13).fr f37 λ c hc hn => hn (by omega)
  rw [Run_bind]
  refine (write_run hB7 t7 (λ c hc => .inl (by omega)) (λ c hc => .inr (hn7 c hc)) ht7.1 ptrF_ok (f37.bk_some hx3 λ hn => hn hx4) (.inl hx4) (ptrF_at n) (λ f hf => List.all_eq_true.1 hok' f hf) (by decide) (by decide)).mono ?_
  rintro _ w8 ⟨hB8, f8⟩
  have t8:=t7.fr f8 λ c hc hn => hn (.inl (by omega))
  have f38 : Fr (λ c => ¬ c < w3.heap.size) w3 w8:=f37.trans f8 λ c _ hc h => hc (.inl h)
  have hpl : (ptrL n).length <= 100000:=by have:=ptr_len hok; omega
  rw [Run_bind]
  refine (closed_run t8 hB8 (by simp [LATEST]) (by
   show (ptrL n).length <= _
   omega) (λ c hc => .inl (by omega))).mono ?_
  rintro _ w9 ⟨rfl, f9⟩
  rw [Run_ret, ptrO, if_pos hok]
  refine ⟨rfl, f13.trans (f38.trans f9 λ c _ hc h => hc (.inl h)) λ c hc hn => hn ?_⟩
  have:=f13.size
  omega
end
section
variable {w w1 w2 : World}
def T1 : List UInt8:=LATEST ++ [10] ++ CUR ++ [32]
def T2 : List UInt8:=[10] ++ PREV ++ [32]
def T3 : List UInt8:=[10] ++ EPOCH ++ [32]
def T4 : List UInt8:=[10] ++ SEQ ++ [32]
theorem ptr_parts (n : Nt) : ptrL n = T1 ++ Lib.decDigits n.k.toNat ++ T2 ++ Lib.decDigits n.f.toNat ++ T3 ++ Lib.decDigits n.u.toNat ++ T4 ++ Lib.decDigits n.c.toNat ++ [10]:=by
 simp [ptrL, fldsL, ptrF, fldL, Nt.at, T1, T2, T3, T4]
end
def fldO (f : Fd) (l : List UInt8) : Option Nat:=if (f.word ++ [32]) <+: l then numF (l.drop (f.word ++ [32]).length) else none
def putF : List (Fd × List UInt8) -> List Value -> List Value
 | [], l => l
 | z :: r, l => putF r (l.set z.1.off (.int .i64 (((fldO z.1 z.2).getD 0 : Nat) : Int)))
theorem putF_snoc : ∀ (a : List (Fd × List UInt8)) (z : Fd × List UInt8) (l : List Value), putF (a ++ [z]) l = (putF a l).set z.1.off (.int .i64 (((fldO z.1 z.2).getD 0 : Nat) : Int))
 | [], z, l => rfl
 | y :: a, z, l => by rw [List.cons_append]; unfold putF; rw [putF_snoc a z]
theorem putF_len : ∀ (a : List (Fd × List UInt8)) (l : List Value), (putF a l).length = l.length
 | [], l => rfl
 | y :: a, l => by unfold putF; rw [putF_len a, List.length_set]
theorem hasPrefix_iff {s p : List UInt8} : Lib.hasPrefix s p = decide (p <+: s):=by
 unfold Lib.hasPrefix
 rw [Bool.eq_iff_iff, List.isPrefixOf_iff_prefix, decide_eq_true_iff]
theorem trim_of {s p : List UInt8} (h : p <+: s) : Lib.trimPrefix s p = s.drop p.length:=by
 unfold Lib.trimPrefix
 rw [hasPrefix_iff, decide_eq_true h, if_pos rfl]
section
variable {w w1 w2 : World}
theorem cutp_run (s p : List UInt8) : F.strings_CutPrefix (.string (sb s)) (.string (sb p)) w = some (.tuple #[.string (sb (Lib.trimPrefix s p)), .bool (decide (p <+: s))], w):=by
 unfold F.strings_CutPrefix
 show some (Value.tuple #[.string (sb (Lib.trimPrefix s p)), .bool (Lib.hasPrefix s p)], w) = _
 rw [hasPrefix_iff]
theorem numberOf_run {f : Fd} {l : List UInt8} (hl : l.length <= 4611686018427387904) (hw : f.word.length <= 100) : Run (F.paper_numberOf (.string (sb l)) (.string (sb f.word))) w λ r w' => r = numV (fldO f l) /\ Fr (λ _ => False) w w':=by
 unfold F.paper_numberOf
 have e32 : ByteArray.mk #[32] = sb [32]:=rfl
 have a1:=sbAdd (a:=f.word) (c:=[32]) (by simp; omega)
 have hnv : ∀ b, notV (.bool b) = some (.bool !b):=λ _ => rfl
 have y0 : ∀ v x, extV 0 (.tuple #[v, x]) = some v:=λ _ _ => rfl
 have y1 : ∀ v x, extV 1 (.tuple #[v, x]) = some x:=λ _ _ => rfl
 rw [e32, a1, Run_bindO_some, Run_bind]
 refine ⟨_, _, cutp_run l (f.word ++ [32]), ?_⟩
 show Run (bindO (extV 0 (.tuple #[.string (sb (Lib.trimPrefix l (f.word ++ [32]))), .bool (decide ((f.word ++ [32]) <+: l))])) _) w _
 rw [y0, Run_bindO_some, y1, Run_bindO_some, hnv, Run_bindO_some]
 unfold fldO
 by_cases h : (f.word ++ [32]) <+: l
 ·rw [decide_eq_true h, Bool.not_true, Run_condM_false, Run_bind, trim_of h, if_pos h]
  refine (number_run _ (by rw [List.length_drop]; omega)).mono ?_
  rintro _ w1 ⟨rfl, f1⟩
  have e : ∀ o, extV 0 (numV o) = some (.int .i64 ((o.getD 0 : Nat) : Int)):=λ _ => rfl
  have e' : ∀ o, extV 1 (numV o) = some (.bool o.isSome):=λ _ => rfl
  rw [e, Run_bindO_some, e', Run_bindO_some, Run_ret]
  exact ⟨rfl, f1⟩
 ·rw [decide_eq_false h, Bool.not_false, Run_condM_true, Run_ret, if_neg h]
  exact ⟨rfl, Fr.refl _ _⟩
theorem parseF_run {t v : Value} {fs : List Fd} {N : List (List UInt8)} (ht : Sl 4 w t (fs.map Fd.row)) (hv : Sl 1 w v (N.map λ s => [.string (sb s)])) (hok : ∀ f ∈ fs, f.Ok) {x : Nat} {l : List Value} (hx : bk w x = some l) (hxw : wr w x = true)
  (hoff : ∀ f ∈ fs, f.off < l.length) (hn : fs.length <= 1000) (hN : N.length <= 4611686018427387904) (hNl : ∀ s ∈ N, s.length <= 4611686018427387904) (htx : ¬ inB t x) (hvx : ¬ inB v x) :
  Run (F.api_Pointer_65 v t (.pointer (some ⟨x, 0, none⟩))) w λ r w' => r = .bool (decide (N.length = fs.length) && (fs.zip N).all λ z => (fldO z.1 z.2).isSome) /\
   (∃ l', bk w' x = some l' /\ wr w' x = true /\ l'.length = l.length /\ ((decide (N.length = fs.length) && (fs.zip N).all λ z => (fldO z.1 z.2).isSome) = true -> l' = putF (fs.zip N) l)) /\ Fr (λ c => c = x) w w':=by
 unfold F.api_Pointer_65
 have hlen:=ht.lenL
 have hlv:=hv.lenL
 rw [List.length_map] at hlen hlv
 rw [hlv, Run_bindO_some, hlen, Run_bindO_some, binV_int, intBin_neq, Run_bindO_some]
 by_cases hlen2 : N.length = fs.length
 case neg =>
  have h' : ¬ ((N.length : Nat) : Int) = fs.length:=by omega
  have hf : (!decide (((N.length : Nat) : Int) = fs.length)) = true:=by simp [h']
  rw [hf, Run_condM_true, Run_ret, decide_eq_false hlen2, Bool.false_and]
  exact ⟨rfl, ⟨l, hx, hxw, rfl, λ h => Bool.noConfusion h⟩, Fr.refl _ _⟩
 have h' : ((N.length : Nat) : Int) = fs.length:=by omega
 have hf : (!decide (((N.length : Nat) : Int) = fs.length)) = false:=by simp [h']
 rw [hf, Run_condM_false, Run_bindO_some, Run_bind, decide_eq_true hlen2, Bool.true_and]
 have hzl : (fs.zip N).length = fs.length:=by rw [List.length_zip]; omega
 obtain ⟨J, hJ, hgood, hend⟩:=far_ex (λ z : Fd × List UInt8 => (fldO z.1 z.2).isSome) (fs.zip N)
 rw [hzl] at hJ
 have step : ∀ (i : Nat) (z : Fd × List UInt8) (w1 : World), (fs.zip N)[i]? = some z -> Fr (λ c => c = x) w w1 -> ∀ {β : Type} {K : Value -> Value -> Value -> M β} {Q : β -> World -> Prop}, (∀ y w', bk w' y = some z.1.row -> Fr (λ _ => False) w1 w' -> Run (K (.int .i64 (((fldO z.1 z.2).getD 0 : Nat) : Int)) (.bool (fldO z.1 z.2).isSome) (.pointer (some ⟨y, 0, none⟩))) w' Q) ->
   Run (bindO (idxA 4 t (.int .i64 (i : Int))) λ x4 => M.bind (rdM (ldA 4 x4)) λ x5 => M.bind (newM 165 #[(Value.string ByteArray.empty), (Value.int IntKind.i64 0), (Value.int IntKind.i64 0), Value.nilFunc]) λ x9 => M.bind (stM 4 x9 x5) λ _ =>
    drewM <|
    bindO (idxA 1 v (.int .i64 (i : Int))) λ x11 =>
    M.bind (rdM (ld1 x11)) λ x12 =>
    bindO (fieldA 0 x9) λ x13 =>
    M.bind (rdM (ld1 x13)) λ x14 =>
    M.bind (F.paper_numberOf x12 x14) λ x15 =>
    bindO (extV 0 x15) λ x16 =>
    bindO (extV 1 x15) λ x17 => K x16 x17 x9) w1 Q:=by
  intro i z w1 hz f1 β K Q q
  obtain ⟨hz1, hz2⟩:=List.getElem?_zip_eq_some.1 hz
  have hfm:=List.mem_of_getElem? hz1
  have hsm:=List.mem_of_getElem? hz2
  refine Run_field (ht.fr f1 λ c hc he => htx (he ▸ hc)) hz1 (hok _ hfm) λ y w2 hy hwy hyle f2 => ?_
  rw [Run_drewM]
  have f2d : Fr (λ _ => False) w1 w2.drew:=f2.drew
  have hyd : bk w2.drew y = some z.1.row:=hy
  generalize w2.drew = w3 at *
  have hv3:=(hv.fr f1 λ c hc he => hvx (he ▸ hc)).fr0 f2d
  obtain ⟨p, p1, p2⟩:=hv3.rd1 (i:=i) (y:=.string (sb z.2)) (by simp [hz2]) .i64
  have p1' : idxA 1 v (.int .i64 (i : Int)) = some p:=p1
  have ld0 : ld1 (.pointer (some ⟨y, 0 + 0, none⟩)) w3 = some (.string (sb z.1.word)):=by rw [ld1_ptr, hyd]; rfl
  rw [p1', Run_bindO_some, Run_bind, Run_rdM]
  refine ⟨_, p2, ?_⟩
  rw [fieldA_ptr, Run_bindO_some, Run_bind, Run_rdM]
  refine ⟨_, ld0, ?_⟩
  rw [Run_bind]
  refine (numberOf_run (hNl _ hsm) (hok _ hfm).word.2.1).mono ?_
  rintro _ w4 ⟨rfl, f4⟩
  have e : ∀ o, extV 0 (numV o) = some (.int .i64 ((o.getD 0 : Nat) : Int)):=λ _ => rfl
  have e' : ∀ o, extV 1 (numV o) = some (.bool o.isSome):=λ _ => rfl
  rw [e, Run_bindO_some, e', Run_bindO_some]
  exact q y w4 (f4.bk_some hyd id) (f2d.trans f4 λ _ _ => id)
 have hnv : ∀ b, notV (.bool b) = some (.bool !b):=λ _ => rfl
 refine Run_for J (λ i L w' => L = [.int .i64 (i : Int)] /\ bk w' x = some (putF ((fs.zip N).take i) l) /\ wr w' x = true /\ Fr (λ c => c = x) w w') ⟨rfl, hx, hxw, Fr.refl _ _⟩ ?_ ?_
 ·rintro i L w1 hi ⟨rfl, hb1, hw1, f1⟩
  obtain ⟨z, hz⟩ : ∃ z, (fs.zip N)[i]? = some z:=⟨_, List.getElem?_eq_getElem (by omega)⟩
  obtain ⟨hz1, hz2⟩:=List.getElem?_zip_eq_some.1 hz
  have hfm:=List.mem_of_getElem? hz1
  have hil : (i : Int) < fs.length:=by omega
  have wi:=wrap_succ' (n:=i) (by omega)
  rw [getL_zero, lssT hil, Run_bindO_some, Run_condM_true]
  refine step i z w1 hz f1 λ y w2 hy f2 => ?_
  have hy3 : ld1 (.pointer (some ⟨y, 0 + 3, none⟩)) w2 = some z.1.fn:=by rw [ld1_ptr, hy]; rfl
  rw [hgood i z hi hz, hnv, Run_bindO_some, Bool.not_true, Run_condM_false, fieldA_ptr, Run_bindO_some, Run_bind, Run_rdM]
  refine ⟨_, hy3, ?_⟩
  rw [Run_bind]
  refine (hok _ hfm).cls x w2 _ ?_
  have nck : nilChk (.pointer (some ⟨x, z.1.off, none⟩)) = some (.pointer (some ⟨x, z.1.off, none⟩)):=rfl
  have hb2:=f2.bk_some hb1 id
  have hw2 : wr w2 x = true:=by rw [f2.wr (bk_lt hb1) id]; exact hw1
  have ho:=hoff _ hfm
  rw [nck, Run_bindO_some, Run_bind, Run_stM (by rfl) (by rfl) ⟨⟨_, hb2, by rw [putF_len]; show z.1.off + 1 <= _; omega⟩, hw2⟩, binV_int, intBin_add, wi, Run_bindO_some, Run_ret]
  refine ⟨rfl, ?_, by rw [wr_sto]; exact hw2, (f1.trans f2 λ _ _ h => h.elim).sto (.inl rfl) _ _⟩
  rw [bk_sto_same hb2, take_snocP hz, putF_snoc]
  rfl
 ·rintro L w1 ⟨rfl, hb1, hw1, f1⟩
  rcases hend with ⟨hJe, hall⟩ | ⟨z, hz, hp, hall⟩
  ·have hJf : J = fs.length:=by omega
   have hn : ¬ (J : Int) < fs.length:=by omega
   rw [getL_zero, lssF hn, Run_bindO_some, Run_condM_false, Run_ret]
   simp only [outK_exit]
   rw [show Nat.beq 0 0 = true from rfl, cond_true, Run_ret]
   rw [hJe, List.take_length] at hb1
   exact ⟨by rw [hall], ⟨_, hb1, hw1, putF_len _ _, λ _ => rfl⟩, f1⟩
  ·have hlt:=(List.getElem?_eq_some_iff.1 hz).1
   have hil : (J : Int) < fs.length:=by omega
   rw [getL_zero, lssT hil, Run_bindO_some, Run_condM_true]
   refine step J z w1 hz f1 λ y w2 hy f2 => ?_
   rw [hp, hnv, Run_bindO_some, Bool.not_false, Run_condM_true, Run_ret]
   simp only [outK_ret, Run_ret]
   exact ⟨by rw [hall], ⟨_, f2.bk_some hb1 id, by rw [f2.wr (bk_lt hb1) id]; exact hw1, putF_len _ _, λ h => by rw [hall] at h; cases h⟩, f1.trans f2 λ _ _ h => h.elim⟩
end
def okF (s title : List UInt8) : Bool:=decide (SUM <+: ((spl 10 s).getLast?).getD []) && (sumF ((((spl 10 s).getLast?).getD []).drop 4)).isSome && decide ((spl 10 s).head? = some title)
section
variable {w w1 w2 : World}
theorem sub13 {q : Nat} (h : 13 <= q) (h2 : q < 9223372036854775808) : IntKind.i64.wrap ((q : Int) - 13) = ((q - 13 : Nat) : Int):=by
 rw [show (q : Int) - 13 = ((q - 13 : Nat) : Int) by omega]
 exact i64W (by omega)
theorem sl_mid {k : Nat} {v : Value} {els : List (List Value)} (h : Sl k w v els) {a b : Nat} (hab : a <= b) (hb : b <= els.length) (kd : IntKind) : ∃ v', sliceV k v (some (.int kd a)) (some (.int kd b)) = some v' /\ Sl k w v' ((els.take b).drop a) /\ ∀ c, inB v' c -> inB v c:=by
 obtain ⟨h1, ad, c, rfl, h2, h3⟩:=h
 have ht : Sl k w (.slice ad (els.take b).length c) (els.take b):=by
  refine ⟨λ x hx => h1 x (List.mem_of_mem_take hx), ad, c, rfl, by rw [List.length_take]; omega, ?_⟩
  rcases h3 with h3 | ⟨bl, o, l, rfl, h4, h5, h6⟩
  ·exact .inl h3
  ·refine .inr ⟨bl, o, l, rfl, h4, h5, ?_⟩
   have hfl:=flat_len h1
   have e : (els.take b).flatten = els.flatten.take (b * k):=by
    have hsp : els.flatten = (els.take b).flatten ++ (els.drop b).flatten:=by rw [<- List.flatten_append, List.take_append_drop]
    have hlt : (els.take b).flatten.length = b * k:=by
     rw [flat_len λ x hx => h1 x (List.mem_of_mem_take hx), List.length_take, Nat.min_eq_left hb]
    rw [hsp, List.take_append_of_le_length (by omega), List.take_of_length_le (Nat.le_of_eq hlt)]
   rw [e, <- h6, List.take_take, List.length_take, Nat.min_eq_left hb, Nat.min_eq_left (Nat.mul_le_mul_right _ hb)]
 obtain ⟨v', e1, e2, e3⟩:=ht.drop (n:=a) (by rw [List.length_take]; omega) kd
 refine ⟨v', ?_, e2, λ c hc => by have:=e3 c hc; cases ad <;> exact this⟩
 rw [<- e1, List.length_take, Nat.min_eq_left hb]
 have hbc : boundV (.int kd (b : Int)) c = some b:=bound_at (by omega)
 simp only [sliceV, highV, hbc]
structure OpenP (w w' : World) (s title : List UInt8) (r : Value) : Prop where
 val : ∃ v right, r = .tuple #[v, .bool right, .bool (okF s title)] /\ (okF s title = true -> right = decide (sumF ((((spl 10 s).getLast?).getD []).drop 4) = some (crcF (sb ((s ++ [10]).take ((s ++ [10]).length - 13))))) /\
  Sl 1 w' v ((((spl 10 s).take ((spl 10 s).length - 1)).drop 1).map λ x => [.string (sb x)]) /\ ∀ c, inB v c -> w.heap.size <= c /\ c < w'.heap.size)
 fr : Fr (λ _ => False) w w'
theorem open_no {t title : List UInt8} (ht : ¬ [10] <:+ t) (hl : t.length <= 4294960000) : Run (F.paper_open (.string (sb t)) (.string (sb title))) w λ r w' => r = .tuple #[.slice none 0 0, .bool false, .bool false] /\ w' = w:=by
 unfold F.paper_open
 have e10 : ByteArray.mk #[10] = sb [10]:=rfl
 have hs : F.strings_HasSuffix (.string (sb t)) (.string (sb [10])) w = some (.bool false, w):=by
  unfold F.strings_HasSuffix
  simp only
  rw [if_pos (by rw [sb_size]; omega)]
  show some (Value.bool (([10] : List UInt8).isSuffixOf t), w) = _
  have : ([10] : List UInt8).isSuffixOf t = false:=by
   rw [Bool.eq_false_iff]
   exact λ h => ht (List.isSuffixOf_iff_suffix.1 h)
  rw [this]
 have hnv : ∀ b, notV (.bool b) = some (.bool !b):=λ _ => rfl
 rw [e10, Run_bind]
 refine ⟨_, _, hs, ?_⟩
 show Run (bindO (notV (.bool false)) _) w _
 rw [hnv, Run_bindO_some, Bool.not_false, Run_condM_true, Run_ret]
 exact ⟨rfl, rfl⟩
theorem open_yes (htb : Tb w) {s title : List UInt8} (hts : ¬ SUM <+: title) (hl : s.length <= 4294960000) : Run (F.paper_open (.string (sb (s ++ [10]))) (.string (sb title))) w λ r w' => OpenP w w' s title r:=by
 unfold F.paper_open
 have e10 : ByteArray.mk #[10] = sb [10]:=rfl
 have eS : ByteArray.mk #[115, 117, 109, 32] = sb SUM:=rfl
 have hs : F.strings_HasSuffix (.string (sb (s ++ [10]))) (.string (sb [10])) w = some (.bool true, w):=by
  unfold F.strings_HasSuffix
  simp only
  rw [if_pos (by rw [sb_size, List.length_append, List.length_singleton]; omega)]
  show some (Value.bool (([10] : List UInt8).isSuffixOf (s ++ [10])), w) = _
  rw [List.isSuffixOf_iff_suffix.2 (List.suffix_append s [10])]
 have hnv : ∀ b, notV (.bool b) = some (.bool !b):=λ _ => rfl
 have y0 : ∀ v x, extV 0 (.tuple #[v, x]) = some v:=λ _ _ => rfl
 have y1 : ∀ v x, extV 1 (.tuple #[v, x]) = some x:=λ _ _ => rfl
 rw [e10, Run_bind]
 refine ⟨_, _, hs, ?_⟩
 show Run (bindO (notV (.bool true)) _) w _
 rw [hnv, Run_bindO_some, Bool.not_true, Run_condM_false]
 have hlen : (s ++ [10]).length = s.length + 1:=by simp
 have ws : IntKind.i64.wrap (((s ++ [10]).length : Int) - 1) = (s.length : Int):=by rw [hlen, show ((s.length + 1 : Nat) : Int) - 1 = (s.length : Int) by omega]; exact i64W (by omega)
 have hsl:=slTo (l:=s ++ [10]) (n:=s.length) (by omega)
 rw [List.take_left' rfl] at hsl
 rw [lenS_string, sb_size, Run_bindO_some, binV_int, intBin_sub, ws, Run_bindO_some, hsl, Run_bindO_some, Run_bind]
 refine (split_run htb s 10 (by omega)).mono ?_
 rintro v w1 ⟨hv, f1, hn1⟩
 have hne:=spl_ne 10 s
 obtain ⟨hjn, hno⟩:=spl_jn 10 s
 generalize hN : spl 10 s = N at *
 have hN0 : 0 < N.length:=List.length_pos_iff.2 hne
 have hNs : N.length <= s.length + 1:=by
  have:=jn_count 10 N hne hno
  have h2 : (jn 10 N).count 10 <= (jn 10 N).length:=List.count_le_length
  rw [hjn] at this h2
  omega
 have hlv:=hv.1.lenL
 rw [List.length_map] at hlv
 have wl : IntKind.i64.wrap ((N.length : Int) - 1) = ((N.length - 1 : Nat) : Int):=by rw [show (N.length : Int) - 1 = ((N.length - 1 : Nat) : Int) by omega]; exact i64W (by omega)
 obtain ⟨last, hlast⟩ : ∃ x, N[N.length - 1]? = some x:=⟨_, List.getElem?_eq_getElem (by omega)⟩
 have hgl : N.getLast? = some last:=by rw [List.getLast?_eq_getElem?]; exact hlast
 obtain ⟨p, p1, p2⟩:=hv.1.rd1 (i:=N.length - 1) (y:=.string (sb last)) (by simp [hlast]) .i64
 have p1' : idxA 1 v (.int .i64 ((N.length - 1 : Nat) : Int)) = some p:=p1
 have hmem : ∀ x ∈ N, x.length <= s.length:=λ x hx => by
  have : ∀ (N : List (List UInt8)), x ∈ N -> x.length <= (jn 10 N).length:=λ N => by
   induction N with
   | nil => intro h; cases h
   | cons y r ih =>
    intro h
    by_cases hr : r = []
    ·subst hr; simp at h; subst h; simp [jn]
    ·rw [jn_cons 10 hr, List.length_append, List.length_append]
     rcases List.mem_cons.1 h with rfl | h
     ·omega
     ·have:=ih h; omega
  have:=this N hx
  rwa [hjn] at this
 have hll:=hmem last (List.mem_of_getElem? hlast)
 rw [hlv, Run_bindO_some, binV_int, intBin_sub, wl, Run_bindO_some, p1', Run_bindO_some, Run_bind, Run_rdM]
 refine ⟨_, p2, ?_⟩
 rw [eS, Run_bind]
 refine ⟨_, _, cutp_run last SUM, ?_⟩
 show Run (bindO (extV 0 (.tuple #[.string (sb (Lib.trimPrefix last SUM)), .bool (decide (SUM <+: last))])) _) w1 _
 rw [y0, Run_bindO_some, y1, Run_bindO_some, Run_bind]
 have htl : (Lib.trimPrefix last SUM).length <= 4611686018427387904:=by
  unfold Lib.trimPrefix
  split
  ·rw [List.length_drop]; omega
  ·omega
 refine (sumOf_run htl).mono ?_
 rintro _ w2 ⟨rfl, f2⟩
 have e : ∀ o, extV 0 (numV o) = some (.int .i64 ((o.getD 0 : Nat) : Int)):=λ _ => rfl
 have e' : ∀ o, extV 1 (numV o) = some (.bool o.isSome):=λ _ => rfl
 have hv2:=hv.1.fr0 f2
 obtain ⟨first, hfirst⟩ : ∃ x, N[0]? = some x:=⟨_, List.getElem?_eq_getElem (by omega)⟩
 have hhd : N.head? = some first:=by rw [List.head?_eq_getElem?]; exact hfirst
 obtain ⟨p0, q1, q2⟩:=hv2.rd1 (i:=0) (y:=.string (sb first)) (by simp [hfirst]) .i64
 have q1' : idxA 1 v (.int .i64 0) = some p0:=q1
 have hokF : okF s title = (decide (SUM <+: last) && (sumF (last.drop 4)).isSome && decide (first = title)):=by
  unfold okF
  rw [hN, hgl, hhd, Option.getD_some]
  simp
 have bad : okF s title = false -> Run (condM (.bool true) (M.ret (Value.tuple #[(Value.slice none 0 0), (Value.bool false), (Value.bool false)])) (M.fail : M Value)) w2 λ r w' => OpenP w w' s title r:=λ hb => by
  rw [Run_condM_true, Run_ret]
  exact ⟨⟨_, false, by rw [hb], λ h => by rw [hb] at h; cases h⟩, f1.trans f2 λ _ _ => id⟩
 have bad' : okF s title = false -> ∀ K, Run (condM (.bool true) (M.ret (Value.tuple #[(Value.slice none 0 0), (Value.bool false), (Value.bool false)])) K) w2 λ r w' => OpenP w w' s title r:=λ hb K => by
  have:=bad hb
  rw [Run_condM_true] at this ⊢
  exact this
 rw [e, Run_bindO_some, e', Run_bindO_some, hnv, Run_bindO_some]
 by_cases c1 : SUM <+: last
 case neg =>
  rw [decide_eq_false c1]
  simp only [Bool.not_false, Run_bind, Run_guardM_tf, pickV_bool, cond_true, Run_bindO_some]
  exact bad' (by rw [hokF, decide_eq_false c1]; rfl) _
 rw [decide_eq_true c1, trim_of c1]
 have hS4 : SUM.length = 4:=rfl
 rw [hS4]
 cases hsm : sumF (last.drop 4) with
 | none =>
  simp only [Bool.not_true, Run_bind, Run_guardM_ff, Run_ret, Option.isSome_none, hnv, Bool.not_false, Run_optM_some, pickV_bool, cond_false, cond_true, Run_bindO_some, Run_guardM_tf]
  exact bad' (by rw [hokF, hsm]; simp) _
 | some n =>
  simp only [Bool.not_true, Run_bind, Run_guardM_ff, Run_ret, Option.isSome_some, hnv, Run_optM_some, pickV_bool, cond_false, Run_bindO_some, q1', Run_rdM]
  refine ⟨_, q2, ?_⟩
  rw [sbNe, Run_optM_some]
  by_cases c3 : first = title
  case neg =>
   rw [decide_eq_false c3, Bool.not_false]
   exact bad' (by rw [hokF, decide_eq_false c3]; simp) _
  have hok : okF s title = true:=by rw [hokF, decide_eq_true c1, hsm, decide_eq_true c3]; rfl
  have hN2 : 2 <= N.length:=Nat.not_lt.1 λ h => by
   have h1 : N.length - 1 = 0:=by omega
   rw [h1, hfirst] at hlast
   rw [<- Option.some.inj hlast, c3] at c1
   exact hts c1
  have hs13 : 13 <= (s ++ [10]).length:=by
   have h8 : (last.drop 4).length = 8:=by
    unfold sumF at hsm
    split at hsm
    ·assumption
    ·cases hsm
   rw [List.length_drop] at h8
   omega
  have w13 : IntKind.i64.wrap (((s ++ [10]).length : Int) - 13) = (((s ++ [10]).length - 13 : Nat) : Int):=sub13 hs13 (by omega)
  obtain ⟨vm, m1, m2, m3⟩:=sl_mid (hv2.fr0 (show Fr (λ _ => False) w2 w2.drew from (Fr.refl _ _).drew)) (a:=1) (b:=N.length - 1) (by omega) (by rw [List.length_map]; omega) .i64
  have m1' : sliceV 1 v (some (.int .i64 1)) (some (.int .i64 ((N.length - 1 : Nat) : Int))) = some vm:=m1
  have hsl2:=slTo (l:=s ++ [10]) (n:=(s ++ [10]).length - 13) (by omega)
  rw [decide_eq_true c3, Bool.not_true, Run_condM_false, Run_drewM, m1', Run_bindO_some, Run_bindO_some, binV_int, intBin_sub, w13, Run_bindO_some, hsl2, Run_bindO_some, Run_bind]
  refine Run_bsl (k:=1) (vs:=[.string (sb ((s ++ [10]).take ((s ++ [10]).length - 13)))]) (by rfl) (by intro v hv; simp only [List.mem_singleton] at hv; subst hv; rfl) rfl (by kernel_rfl) λ r w3 hr f3 _ => ?_
  have fd3 : Fr (λ _ => False) w2 w3:=((Fr.refl _ _).drew).trans f3 λ _ _ => id
  have f13:=(f1.trans f2 λ _ _ => id).trans fd3 λ _ _ => id
  rw [Run_bind]
  refine (crc_run (htb.fr0 f13).nib hr.1 (by rw [sb_size, List.length_take]; omega)).mono ?_
  rintro _ w4 ⟨rfl, rfl⟩
  rw [binV_int, intBin_eql, Run_bindO_some, Run_ret, Option.getD_some]
  refine ⟨⟨vm, _, by rw [hok], λ _ => ⟨?_, ?_, λ c hc => ?_⟩⟩, f13⟩
  ·rw [hN, hgl, Option.getD_some, hsm]
   congr 1
   rw [eq_iff_iff]
   constructor
   ·intro h; rw [Int.ofNat_inj.1 h]
   ·intro h; rw [Option.some.inj h]
  ·rw [hN]
   have:=m2.fr0 f3
   rwa [<- List.map_take, <- List.map_drop] at this
  ·exact ⟨(hn1 c (m3 c hc)).1, Nat.lt_of_lt_of_le (hn1 c (m3 c hc)).2 (f2.trans fd3 λ _ _ => id).size⟩
end
theorem num_all {d : List UInt8} {v : Nat} (h : numF d = some v) : d.all isD = true /\ v = valL d /\ d ≠ [] /\ d.length <= 16:=by
 unfold numF at h
 split at h
 ·cases h
 ·rename_i hn
  simp only [not_or, Option.some.injEq] at hn h
  exact ⟨by simpa using hn.2.2.2, h.symm, hn.1, by omega⟩
theorem num_no10 {d : List UInt8} {v : Nat} (h : numF d = some v) : (10 : UInt8) ∉ d:=λ hm => by
 have:=List.all_eq_true.1 (num_all h).1 10 hm
 exact absurd this (by decide)
theorem sum_no10 {e : List UInt8} {v : Nat} (h : sumF e = some v) : (10 : UInt8) ∉ e /\ e.length = 8:=by
 unfold sumF at h
 split at h
 ·rename_i hl
  refine ⟨λ hm => ?_, hl⟩
  obtain ⟨j, hj⟩:=List.getElem?_of_mem hm
  have hj8 : j < 8:=by have:=(List.getElem?_eq_some_iff.1 hj).1; omega
  have hp : pairV e (j / 2) = none:=by
   unfold pairV
   rcases Nat.mod_two_eq_zero_or_one j with h0 | h1
   ·rw [show 2 * (j / 2) = j by omega, hj]
    have h10 : hvN (10 : UInt8).toNat = none:=by decide
    split
    ·rename_i a b h1 h2
     cases h1
     rw [h10]
    ·rfl
   ·rw [show 2 * (j / 2) + 1 = j by omega, hj]
    have h10 : hvN (10 : UInt8).toNat = none:=by decide
    split
    ·rename_i a b h1 h2
     cases h2
     rw [h10]
     split <;> simp_all
    ·rfl
  rw [pairsF_bad hp (n:=4) (by omega)] at h
  cases h
 ·cases h
def pform (t : List UInt8) (n : Nt) (sm : Nat) : Prop:=∃ d1 d2 d3 d4 e a b c d, t = T1 ++ d1 ++ T2 ++ d2 ++ T3 ++ d3 ++ T4 ++ d4 ++ [10] ++ SUM ++ e ++ [10] /\ numF d1 = some a /\ numF d2 = some b /\ numF d3 = some c /\ numF d4 = some d /\ sumF e = some sm /\ n = ⟨(a : Int), (b : Int), (c : Int), (d : Int)⟩
def zNt : Nt:=⟨0, 0, 0, 0⟩
def ansV (t : List UInt8) (n : Nt) (sm : Nat) : Value:=if sm = crcF (sb (t.take (t.length - 13))) then (if n.pok = true then .tuple #[n.v, .int .i64 0] else .tuple #[zNt.v, .int .i64 42]) else .tuple #[zNt.v, .int .i64 41]
structure PAns (t : List UInt8) (r : Value) : Prop where
 yes : ∀ n sm, pform t n sm -> r = ansV t n sm
 no : (∀ n sm, ¬ pform t n sm) -> r = .tuple #[zNt.v, .int .i64 40]
def midL (s : List UInt8) : List (List UInt8):=((spl 10 s).take ((spl 10 s).length - 1)).drop 1
def lastL (s : List UInt8) : List UInt8:=((spl 10 s).getLast?).getD []
def condF (s : List UInt8) : Bool:=okF s LATEST && (decide ((midL s).length = ptrF.length) && (ptrF.zip (midL s)).all λ z => (fldO z.1 z.2).isSome)
theorem form_lines {s d1 d2 d3 d4 e : List UInt8} {a b c d sm : Nat} (h : s ++ [10] = T1 ++ d1 ++ T2 ++ d2 ++ T3 ++ d3 ++ T4 ++ d4 ++ [10] ++ SUM ++ e ++ [10]) (h1 : numF d1 = some a) (h2 : numF d2 = some b) (h3 : numF d3 = some c) (h4 : numF d4 = some d) (h5 : sumF e = some sm) :
  spl 10 s = [LATEST, CUR ++ [32] ++ d1, PREV ++ [32] ++ d2, EPOCH ++ [32] ++ d3, SEQ ++ [32] ++ d4, SUM ++ e]:=by
 have hs : s = jn 10 [LATEST, CUR ++ [32] ++ d1, PREV ++ [32] ++ d2, EPOCH ++ [32] ++ d3, SEQ ++ [32] ++ d4, SUM ++ e]:=by
  have:=List.append_cancel_right h
  rw [this]
  simp [jn, T1, T2, T3, T4]
 rw [hs]
 refine spl_of 10 (by simp) λ x hx => ?_
 simp only [List.mem_cons, List.not_mem_nil, or_false] at hx
 have k1:=num_no10 h1
 have k2:=num_no10 h2
 have k3:=num_no10 h3
 have k4:=num_no10 h4
 have k5:=(sum_no10 h5).1
 rcases hx with rfl | rfl | rfl | rfl | rfl | rfl
 ·decide
 ·simp only [List.mem_append, not_or]; exact ⟨⟨by decide, by decide⟩, k1⟩
 ·simp only [List.mem_append, not_or]; exact ⟨⟨by decide, by decide⟩, k2⟩
 ·simp only [List.mem_append, not_or]; exact ⟨⟨by decide, by decide⟩, k3⟩
 ·simp only [List.mem_append, not_or]; exact ⟨⟨by decide, by decide⟩, k4⟩
 ·simp only [List.mem_append, not_or]; exact ⟨by decide, k5⟩
theorem fldO_of {f : Fd} {d : List UInt8} : fldO f (f.word ++ [32] ++ d) = numF d:=by
 unfold fldO
 rw [if_pos (List.prefix_append _ _), List.drop_left]
theorem form_yes {s : List UInt8} {n : Nt} {sm : Nat} (h : pform (s ++ [10]) n sm) : condF s = true /\ putF (ptrF.zip (midL s)) [.int .i64 0, .int .i64 0, .int .i64 0, .int .i64 0] = n.row /\ sumF ((lastL s).drop 4) = some sm:=by
 obtain ⟨d1, d2, d3, d4, e, a, b, c, d, ht, h1, h2, h3, h4, h5, rfl⟩:=h
 have hN:=form_lines ht h1 h2 h3 h4 h5
 have hm : midL s = [CUR ++ [32] ++ d1, PREV ++ [32] ++ d2, EPOCH ++ [32] ++ d3, SEQ ++ [32] ++ d4]:=by unfold midL; rw [hN]; rfl
 have hl : lastL s = SUM ++ e:=by unfold lastL; rw [hN]; rfl
 have hd4 : (SUM ++ e).drop 4 = e:=List.drop_left (l₁:=SUM)
 have hok : okF s LATEST = true:=by
  unfold okF
  have e1 : ((spl 10 s).getLast?).getD [] = SUM ++ e:=hl
  rw [e1, hd4, h5, hN, decide_eq_true (List.prefix_append SUM e)]
  simp
 have f1:=fldO_of (f:=⟨CUR, 0, 999999, 0, .func (.func 109) #[] #[]⟩) (d:=d1)
 have f2:=fldO_of (f:=⟨PREV, 0, 999999, 1, .func (.func 110) #[] #[]⟩) (d:=d2)
 have f3:=fldO_of (f:=⟨EPOCH, 0, 9007199254740992, 2, .func (.func 111) #[] #[]⟩) (d:=d3)
 have f4:=fldO_of (f:=⟨SEQ, 0, 9007199254740992, 3, .func (.func 112) #[] #[]⟩) (d:=d4)
 rw [h1] at f1
 rw [h2] at f2
 rw [h3] at f3
 rw [h4] at f4
 refine ⟨?_, ?_, by rw [hl, hd4, h5]⟩
 ·unfold condF
  rw [hok, hm]
  simp only [ptrF, List.zip_cons_cons, List.zip_nil_right, List.all_cons, List.all_nil, f1, f2, f3, f4]
  rfl
 ·rw [hm]
  simp only [ptrF, List.zip_cons_cons, List.zip_nil_right, putF, f1, f2, f3, f4]
  rfl
theorem fldO_some {f : Fd} {l : List UInt8} (h : (fldO f l).isSome = true) : ∃ d v, l = f.word ++ [32] ++ d /\ numF d = some v:=by
 unfold fldO at h
 split at h
 ·rename_i hp
  obtain ⟨d, rfl⟩:=hp
  rw [List.drop_left] at h
  obtain ⟨v, hv⟩:=Option.isSome_iff_exists.1 h
  exact ⟨d, v, rfl, hv⟩
 ·cases h
theorem form_no {s : List UInt8} (h : condF s = true) : ∃ n sm, pform (s ++ [10]) n sm:=by
 unfold condF at h
 simp only [Bool.and_eq_true, decide_eq_true_eq] at h
 obtain ⟨hok, hlen, hall⟩:=h
 obtain ⟨hjn, hno⟩:=spl_jn 10 s
 unfold okF at hok
 unfold midL at hlen hall
 generalize spl 10 s = N at *
 have h4 : ptrF.length = 4:=rfl
 rw [h4, List.length_drop, List.length_take] at hlen
 have hl6 : N.length = 6:=by omega
 obtain ⟨x0, x1, x2, x3, x4, x5, rfl⟩ : ∃ x0 x1 x2 x3 x4 x5, N = [x0, x1, x2, x3, x4, x5]:=by
  match N, hl6 with
  | [x0, x1, x2, x3, x4, x5], _ => exact ⟨_, _, _, _, _, _, rfl⟩
 simp only [Bool.and_eq_true, decide_eq_true_eq, List.getLast?_cons_cons, List.getLast?_singleton, Option.getD_some, List.head?_cons, Option.some.injEq] at hok
 obtain ⟨⟨hp, hsm⟩, rfl⟩:=hok
 obtain ⟨e, rfl⟩:=hp
 have hd4 : (SUM ++ e).drop 4 = e:=List.drop_left (l₁:=SUM)
 rw [hd4] at hsm
 obtain ⟨sm, hsm⟩:=Option.isSome_iff_exists.1 hsm
 have hall' : (ptrF.zip [x1, x2, x3, x4]).all (λ z => (fldO z.1 z.2).isSome) = true:=hall
 simp only [ptrF, List.zip_cons_cons, List.zip_nil_right, List.all_cons, List.all_nil, Bool.and_eq_true, Bool.and_true] at hall'
 obtain ⟨g1, g2, g3, g4⟩:=hall'
 obtain ⟨d1, a, rfl, v1⟩:=fldO_some g1
 obtain ⟨d2, b, rfl, v2⟩:=fldO_some g2
 obtain ⟨d3, c, rfl, v3⟩:=fldO_some g3
 obtain ⟨d4, d, rfl, v4⟩:=fldO_some g4
 refine ⟨_, sm, d1, d2, d3, d4, e, a, b, c, d, ?_, v1, v2, v3, v4, hsm, rfl⟩
 rw [<- hjn]
 simp [jn, T1, T2, T3, T4]
section
variable {w w1 w2 : World}
theorem fin_run {x1 : Nat} (h1 : bk w x1 = some zNt.row) (hw1 : wr w x1 = true) (m : Nt) {K : Value -> World -> Prop} (q : ∀ w', Fr (λ c => c = x1) w w' -> K m.v w') :
  Run (stM 4 (.pointer (some ⟨x1, 0, none⟩)) m.v) w λ _ w' => Run (rdM (ldA 4 (.pointer (some ⟨x1, 0, none⟩)))) w' K:=by
 rw [Run_stM (by rfl) (by rfl) ⟨⟨_, h1, by simp [Nt.v, Value.cells, Nt.row]⟩, hw1⟩, Run_rdM]
 have hb:=bk_sto_same (o:=0) h1 m.v.cells.toList
 exact ⟨_, ldA_bk hb (by first | exact Nat.le_refl _ | simp), q _ ((show Fr (λ c => c = x1) w w from Fr.refl _ _).sto (.inl rfl) _ _)⟩
theorem ptrOff : ∀ f ∈ ptrF, f.off < zNt.row.length:=by
 intro f hf
 simp only [ptrF, List.mem_cons, List.not_mem_nil, or_false] at hf
 rcases hf with rfl | rfl | rfl | rfl <;> decide
theorem pparse_run (ht : Tb w) {t : List UInt8} (hl : t.length <= 4294960000) : Run (F.paper_ParsePointer (.string (sb t))) w λ r w' => PAns t r /\ Fr (λ _ => False) w w':=by
 unfold F.paper_ParsePointer
 have eL : ByteArray.mk #[103, 114, 97, 110, 97, 114, 121, 32, 108, 97, 116, 101, 115, 116, 32, 49] = sb LATEST:=rfl
 have z0 : buildV #[(Value.int IntKind.i64 0), (Value.int IntKind.i64 0), (Value.int IntKind.i64 0), (Value.int IntKind.i64 0)] [] = some zNt.v:=rfl
 have hnv : ∀ b, notV (.bool b) = some (.bool !b):=λ _ => rfl
 have y0 : ∀ v x z, extV 0 (.tuple #[v, x, z]) = some v:=λ _ _ _ => rfl
 have y1 : ∀ v x z, extV 1 (.tuple #[v, x, z]) = some x:=λ _ _ _ => rfl
 have y2 : ∀ v x z, extV 2 (.tuple #[v, x, z]) = some z:=λ _ _ _ => rfl
 rw [Run_bind]
 refine Run_new λ x1 wa hx1 hw1 fa hx1le => ?_
 replace hx1 : bk wa x1 = some zNt.row:=hx1
 have ta:=ht.fr0 fa
 rw [eL, Run_bind]
 by_cases hsuf : [10] <:+ t
 case neg =>
  refine (open_no hsuf hl).mono ?_
  rintro _ wb ⟨rfl, hwb⟩
  rw [hwb, y0, Run_bindO_some, y1, Run_bindO_some, y2, Run_bindO_some, Run_bind]
  refine Run_new λ x6 wc hx6 hw6 fc hx6le => ?_
  rw [hnv, Run_bindO_some]
  simp only [Bool.not_false, Run_bind, Run_guardM_tf, pickV_bool, cond_true, Run_bindO_some, Run_condM_true, z0, Run_ret]
  refine fin_run (fc.bk_some hx1 id) (by rw [fc.wr (bk_lt hx1) id]; exact hw1) zNt λ wd fd => ?_
  refine ⟨⟨λ n sm hp => ?_, λ _ => rfl⟩, (fa.trans fc λ _ _ => id).new fd λ c hc => hc ▸ hx1le⟩
  obtain ⟨d1, d2, d3, d4, e, a, b, c, d, he, _⟩:=hp
  exact absurd ⟨_, he.symm⟩ hsuf
 obtain ⟨s, rfl⟩:=hsuf
 have hsl : s.length <= 4294960000:=by rw [List.length_append] at hl; omega
 refine (open_yes ta (s:=s) (title:=LATEST) (by decide) hsl).mono ?_
 rintro _ wb ⟨⟨v, right, rfl, hv⟩, fb⟩
 rw [y0, Run_bindO_some, y1, Run_bindO_some, y2, Run_bindO_some, Run_bind]
 refine Run_new λ x6 wc hx6 hw6 fc hx6le => ?_
 replace hx6 : bk wc x6 = some zNt.row:=hx6
 have fac:=(fa.trans fb λ _ _ => id).trans fc λ _ _ => id
 have hx1c:=fc.bk_some (fb.bk_some hx1 id) id
 have hw1c : wr wc x1 = true:=by rw [fc.wr (bk_lt (fb.bk_some hx1 id)) id, fb.wr (bk_lt hx1) id]; exact hw1
 have l1:=bk_lt hx1
 have sb1:=fb.size
 have hno : condF s = false -> PAns (s ++ [10]) (.tuple #[zNt.v, .int .i64 40]):=λ hc => ⟨λ n sm hp => by
  rw [(form_yes hp).1] at hc
  exact Bool.noConfusion hc, λ _ => rfl⟩
 rw [hnv, Run_bindO_some]
 cases hok : okF s LATEST with
 | false =>
  simp only [Bool.not_false, Run_bind, Run_guardM_tf, pickV_bool, cond_true, Run_bindO_some, Run_condM_true, z0, Run_ret]
  refine fin_run hx1c hw1c zNt λ wd fd => ⟨hno (by unfold condF; rw [hok]; rfl), fac.new fd λ c hc => hc ▸ hx1le⟩
 | true =>
  obtain ⟨hright, hvs, hvn⟩:=hv hok
  simp only [Bool.not_true, Run_bind, Run_guardM_ff, Run_ret]
  refine pfields_run.mono ?_
  rintro tb wd ⟨htd, fd, hnd⟩
  have sz:=fc.size
  have szd:=fd.size
  have l6:=bk_lt hx6
  have hx6d:=fd.bk_some hx6 id
  have hw6d : wr wd x6 = true:=by rw [fd.wr l6 id]; exact hw6
  have hvs' : Sl 1 wb v ((midL s).map λ x => [.string (sb x)]):=hvs
  have hml : ∀ x ∈ midL s, x.length <= 4611686018427387904:=λ x hx => by
   have hm:=List.mem_of_mem_take (List.mem_of_mem_drop hx)
   have : ∀ (N : List (List UInt8)), x ∈ N -> x.length <= (jn 10 N).length:=λ N => by
    induction N with
    | nil => intro h; cases h
    | cons y r ih =>
     intro h
     by_cases hr : r = []
     ·subst hr; simp at h; subst h; simp [jn]
     ·rw [jn_cons 10 hr, List.length_append, List.length_append]
      rcases List.mem_cons.1 h with rfl | h
      ·omega
      ·have:=ih h; omega
   have:=this _ hm
   rw [(spl_jn 10 s).1] at this
   omega
  have hmN : (midL s).length <= 4611686018427387904:=by
   have h1:=jn_count 10 _ (spl_ne 10 s) (spl_jn 10 s).2
   have h2 : (jn 10 (spl 10 s)).count 10 <= (jn 10 (spl 10 s)).length:=List.count_le_length
   rw [(spl_jn 10 s).1] at h1 h2
   unfold midL
   rw [List.length_drop, List.length_take]
   omega
  have hvx6 : ¬ inB v x6:=λ h => by have:=(hvn _ h).2; omega
  refine (parseF_run htd.1 ((hvs'.fr0 fc).fr0 fd) ptrF_ok hx6d hw6d ptrOff (by decide) hmN hml (λ h => by have:=(hnd _ h).1; omega) hvx6).mono ?_
  rintro _ we ⟨rfl, ⟨l', hb', hwb', hl', hput⟩, fe⟩
  have fde : Fr (λ c => c = x6) wc we:=(fd.mono λ _ h => h.elim).trans fe λ _ _ h => h
  have hx1e:=fde.bk_some hx1c λ e => by omega
  have hw1e : wr we x1 = true:=by rw [fde.wr (bk_lt hx1c) λ e => by omega]; exact hw1c
  have fwe : Fr (λ _ => False) w we:=fac.new fde λ c hc => by omega
  have hcd : condF s = (decide ((midL s).length = ptrF.length) && (ptrF.zip (midL s)).all λ z => (fldO z.1 z.2).isSome):=by unfold condF; rw [hok, Bool.true_and]
  rw [<- hcd] at hput ⊢
  rw [hnv, Run_optM_some]
  simp only [pickV_bool, cond_false, Run_bindO_some]
  cases hc : condF s with
  | false =>
   simp only [Bool.not_false, Run_condM_true, z0, Run_bindO_some, Run_bind, Run_ret]
   exact fin_run hx1e hw1e zNt λ wf ff => ⟨hno hc, fwe.new ff λ c hc => hc ▸ hx1le⟩
  | true =>
   obtain ⟨n, sm, hpf⟩:=form_no hc
   obtain ⟨_, hput2, hsm⟩:=form_yes hpf
   have hl2:=hput hc
   have hz : zNt.row = [.int .i64 0, .int .i64 0, .int .i64 0, .int .i64 0]:=rfl
   rw [hz, hput2] at hl2
   subst hl2
   have hans : ∀ r, r = ansV (s ++ [10]) n sm -> PAns (s ++ [10]) r:=λ r hr => by
    refine ⟨λ n' sm' hp' => ?_, λ hno => absurd hpf (hno n sm)⟩
    obtain ⟨_, e1, e2⟩:=form_yes hp'
    rw [hput2] at e1
    rw [hsm] at e2
    have en : n = n':=by
     obtain ⟨a, b, c, d⟩:=n
     obtain ⟨a', b', c', d'⟩:=n'
     simp only [Nt.row, List.cons.injEq, Value.int.injEq, true_and, and_true] at e1
     obtain ⟨rfl, rfl, rfl, rfl⟩:=e1
     rfl
    rw [hr, en, Option.some.inj e2]
   have hr2 : right = decide (sm = crcF (sb ((s ++ [10]).take ((s ++ [10]).length - 13)))):=by
    have hsm' : sumF ((((spl 10 s).getLast?).getD []).drop 4) = some sm:=hsm
    rw [hright]
    refine decide_eq_decide.2 ?_
    rw [hsm']
    simp
   simp only [Bool.not_true, Run_condM_false, Run_bindO_some, hnv]
   by_cases hcrc : sm = crcF (sb ((s ++ [10]).take ((s ++ [10]).length - 13)))
   case neg =>
    rw [hr2, decide_eq_false hcrc]
    simp only [Bool.not_false, Run_condM_true, z0, Run_bindO_some, Run_bind, Run_ret]
    exact fin_run hx1e hw1e zNt λ wf ff => ⟨hans _ (by rw [ansV, if_neg hcrc]), fwe.new ff λ c hc => hc ▸ hx1le⟩
   rw [hr2, decide_eq_true hcrc, Bool.not_true, Run_condM_false, Run_bind]
   refine pfields_run.mono ?_
   rintro tb2 wf ⟨htf, ff, hnf⟩
   have hx6f:=ff.bk_some hb' id
   rw [Run_bind]
   refine (ranges_run htf.1 ptrF_ok hx6f (ptrF_at n) (by decide)).mono ?_
   rintro _ wg ⟨rfl, fg⟩
   have fwg:=(fwe.trans ff λ _ _ => id).trans fg λ _ _ => id
   have hx1g:=fg.bk_some (ff.bk_some hx1e id) id
   have hw1g : wr wg x1 = true:=by rw [fg.wr (bk_lt (ff.bk_some hx1e id)) id, ff.wr (bk_lt hx1e) id]; exact hw1e
   have hx6g:=fg.bk_some hx6f id
   rw [hnv, Run_bindO_some]
   cases hpk : n.pok with
   | false =>
    have hpk' : (ptrF.all λ f => f.inR n.at) = false:=hpk
    rw [hpk', Bool.not_false, Run_condM_true, z0, Run_bindO_some]
    simp only [Run_bind, Run_ret]
    exact fin_run hx1g hw1g zNt λ wh fh => ⟨hans _ (by rw [ansV, if_pos hcrc, hpk]; rfl), fwg.new fh λ c hc => hc ▸ hx1le⟩
   | true =>
    have hpk' : (ptrF.all λ f => f.inR n.at) = true:=hpk
    have l6g : ldA 4 (.pointer (some ⟨x6, 0, none⟩)) wg = some n.v:=ldA_bk hx6g (Nat.le_refl _)
    rw [hpk', Bool.not_true, Run_condM_false, Run_bind, Run_rdM]
    refine ⟨_, l6g, ?_⟩
    simp only [Run_bind, Run_ret]
    exact fin_run hx1g hw1g n λ wh fh => ⟨hans _ (by rw [ansV, if_pos hcrc, hpk]; rfl), fwg.new fh λ c hc => hc ▸ hx1le⟩
end
section
variable {w w1 w2 : World}
structure RP (w0 w : World) (b : Nat) (l : List UInt8) (p : Nat) (bad : Bool) (x6 : Nat) (l6 : List Value) : Prop where
 rs : RS w b l p bad
 hp : p <= l.length
 b6 : bk w x6 = some l6
 w6 : wr w x6 = true
 e6 : l6.length = 4
 ne : x6 ≠ b
 fr : Fr (λ c => c = b ∨ c = x6) w0 w
theorem RP.call {w0 : World} {b p : Nat} {l : List UInt8} {bad : Bool} {x6 : Nat} {l6 : List Value} (h : RP w0 w b l p bad x6 l6) (f : Fr (λ c => c = b) w w2) {p' : Nat} {bad' : Bool} (rs : RS w2 b l p' bad') (hp : p' <= l.length) : RP w0 w2 b l p' bad' x6 l6 :=
 ⟨rs, hp, f.bk_some h.b6 h.ne, by rw [f.wr (bk_lt h.b6) h.ne]; exact h.w6, h.e6, h.ne, h.fr.trans f λ _ _ he => .inl he⟩
theorem RP.put6 {w0 : World} {b p : Nat} {l : List UInt8} {bad : Bool} {x6 : Nat} {l6 : List Value} (h : RP w0 w b l p bad x6 l6) (i : Nat) (y : Value) : RP w0 (sto w x6 i [y]) b l p bad x6 (l6.set i y):=by
 have f : Fr (λ c => c = x6) w (sto w x6 i [y]):=(show Fr (λ c => c = x6) w w from Fr.refl _ _).sto (.inl rfl) _ _
 exact ⟨⟨f.bk_some h.rs.1 λ e => h.ne e.symm, by rw [wr_sto]; exact h.rs.2⟩, h.hp, by rw [bk_sto_same h.b6]; simp only [setL_cons, setL_nil], by rw [wr_sto]; exact h.w6, by rw [List.length_set]; exact h.e6, h.ne, h.fr.trans f λ _ _ he => .inr he⟩
theorem RP.num {β : Type} {w0 : World} {b p : Nat} {l : List UInt8} {bad : Bool} {x6 : Nat} {l6 : List Value} (h : RP w0 w b l p bad x6 l6) (hl : l.length <= 4611686018427387904) {i : Nat} (hi : i < 4) {K : M β} {Q : β -> World -> Prop}
  (q : ∀ w', RP w0 w' b l (p + (rdD l p).length) (bad || (numF (rdD l p)).isNone) x6 (l6.set i (.int .i64 (((numF (rdD l p)).getD 0 : Nat) : Int))) -> Run K w' Q) :
  Run (M.bind (F.granaryref4_Reader_number (.pointer (some ⟨b, 0, none⟩))) λ x8 => bindO (fieldA i (.pointer (some ⟨x6, 0, none⟩))) λ x9 => M.bind (stM 1 x9 x8) λ _ => K) w Q:=by
 rw [Run_bind]
 refine (rnum_run h.rs h.hp hl).mono ?_
 rintro _ w2 ⟨rfl, rs, f⟩
 have hd:=rdD_len l p
 have hple:=h.hp
 have h2:=h.call f rs (by omega)
 rw [fieldA_ptr, Run_bindO_some, Run_bind, Run_stM (by rfl) (by rfl) ⟨⟨l6, h2.b6, by rw [h2.e6]; show 0 + i + 1 <= 4; omega⟩, h2.w6⟩]
 have h3:=h2.put6 (0 + i) (.int .i64 (((numF (rdD l p)).getD 0 : Nat) : Int))
 have q2:=q (sto w2 x6 (0 + i) [.int .i64 (((numF (rdD l p)).getD 0 : Nat) : Int)])
 rw [Nat.zero_add] at h3 q2
 rw [Nat.zero_add]
 exact q2 h3
theorem RP.lit {β : Type} {w0 : World} {b p : Nat} {l : List UInt8} {bad : Bool} {x6 : Nat} {l6 : List Value} (h : RP w0 w b l p bad x6 l6) (hl : l.length <= 4611686018427387904) {y : List UInt8} (hy : y.length <= 4611686018427387904) {K : M β} {Q : β -> World -> Prop}
  (q : ∀ w' p', RP w0 w' b l p' (bad || !decide (y <+: l.drop p)) x6 l6 -> (bad = false -> y <+: l.drop p -> p' = p + y.length) -> Run K w' Q) :
  Run (M.bind (F.granaryref4_Reader_lit (.pointer (some ⟨b, 0, none⟩)) (.string (sb y))) λ _ => K) w Q:=by
 rw [Run_bind]
 refine (rlit_run h.rs h.hp hl hy).mono ?_
 rintro _ w2 ⟨⟨p', rs, hp', hh⟩, f⟩
 exact q w2 p' (h.call f rs hp') hh
end
section
variable {w w1 w2 : World}
theorem eqRow (n : Nt) : eqV (EqSh.offs [(EqK.int, 0), (EqK.int, 1), (EqK.int, 2), (EqK.int, 3)]) n.v n.v = some (.bool true):=by
 simp [Nt.v, eqOffs, eqPrim]
end
end Go.Proofs.YthlpfhjcdedhgaaGreatDoor
namespace Go.Proofs.YthlpfhjcdedhgaaGreatDoor.Me
open Go.Lift Go.Sort
set_option linter.unusedSimpArgs false
set_option linter.unusedVariables false
set_option maxHeartbeats 4000000
section
variable {w w1 w2 : World}
theorem ranges_run {t : Value} {fs : List Fd} (ht : Sl 4 w t (fs.map Fd.row)) (hok : ∀ f ∈ fs, f.Ok) {x : Nat} {l : List Value} {g : Nat -> Int} (hx : bk w x = some l) (hg : ∀ f ∈ fs, l[f.off]? = some (.int .i64 (g f.off))) (hn : fs.length <= 1000) :
  Run (F.api_Meta t (.pointer (some ⟨x, 0, none⟩))) w λ r w' => r = .bool (fs.all λ f => f.inR g) /\ Fr (λ _ => False) w w':=by
 unfold F.api_Meta
 have hlen:=ht.lenL
 rw [List.length_map] at hlen
 rw [hlen, Run_bindO_some, Run_bind]
 obtain ⟨J, hJ, hgood, hend⟩:=far_ex (λ f : Fd => f.inR g) fs
 have step : ∀ (i : Nat) (f : Fd) (w1 : World), fs[i]? = some f -> Fr (λ _ => False) w w1 -> ∀ {β : Type} {K : Value -> M β} {Q : β -> World -> Prop}, (∀ w', Fr (λ _ => False) w w' -> Run (K (.bool (!f.inR g))) w' Q) ->
   Run (bindO (idxA 4 t (.int .i64 (i : Int))) λ x4 => M.bind (rdM (ldA 4 x4)) λ x5 => M.bind (newM 144 #[(Value.string ByteArray.empty), (Value.int IntKind.i64 0), (Value.int IntKind.i64 0), Value.nilFunc]) λ x6 => M.bind (stM 4 x6 x5) λ _ =>
    bindO (fieldA 3 x6) λ x8 =>
    M.bind (rdM (ld1 x8)) λ x9 =>
    M.bind (callV F.clos x9 [.pointer (some ⟨x, 0, none⟩)]) λ x10 =>
    bindO (nilChk x10) λ x11 =>
    M.bind (rdM (ld1 x11)) λ x12 =>
    bindO (fieldA 1 x6) λ x13 =>
    M.bind (rdM (ld1 x13)) λ x14 =>
    bindO (binV BinOp.lss x12 x14) λ x15 =>
    M.bind (guardM x15 false (M.ret x12)) λ x16 =>
    M.bind (guardM x15 false (optM (fieldA 2 x6))) λ x17 =>
    M.bind (guardM x15 false (rdM (ld1 x17))) λ x18 =>
    M.bind (guardM x15 false (optM (binV BinOp.gtr x16 x18))) λ x19 =>
    bindO (pickV x15 (Value.bool true) x19) K) w1 Q:=by
  intro i f w1 hf f1 β K Q q
  have hfm:=List.mem_of_getElem? hf
  refine Run_field (ht.fr0 f1) hf (hok f hfm) λ y w2 hy hwy hyle f2 => ?_
  have f12:=f1.trans f2 λ _ _ => id
  have hx2:=f12.bk_some hx id
  have ld3 : ld1 (.pointer (some ⟨y, 0 + 3, none⟩)) w2 = some f.fn:=by rw [ld1_ptr, hy]; rfl
  have ld1' : ld1 (.pointer (some ⟨y, 0 + 1, none⟩)) w2 = some (.int .i64 f.lo):=by rw [ld1_ptr, hy]; rfl
  have ld2 : ld1 (.pointer (some ⟨y, 0 + 2, none⟩)) w2 = some (.int .i64 f.hi):=by rw [ld1_ptr, hy]; rfl
  have ldx : ld1 (.pointer (some ⟨x, f.off, none⟩)) w2 = some (.int .i64 (g f.off)):=by rw [ld1_ptr, hx2]; exact hg f hfm
  rw [fieldA_ptr, Run_bindO_some, Run_bind, Run_rdM]
  refine ⟨_, ld3, ?_⟩
  rw [Run_bind]
  refine (hok f hfm).cls x w2 _ ?_
  have nck : nilChk (.pointer (some ⟨x, f.off, none⟩)) = some (.pointer (some ⟨x, f.off, none⟩)):=rfl
  rw [nck, Run_bindO_some, Run_bind, Run_rdM]
  refine ⟨_, ldx, ?_⟩
  rw [fieldA_ptr, Run_bindO_some, Run_bind, Run_rdM]
  refine ⟨_, ld1', ?_⟩
  by_cases h1 : g f.off < f.lo
  ·have hi : f.inR g = false:=by unfold Fd.inR; exact decide_eq_false (by omega)
   rw [hi] at q
   rw [lssT h1, Run_bindO_some]
   simp only [Run_bind, Run_guardM_tf, pickV_bool, cond_true, Run_bindO_some]
   exact q w2 f12
  ·rw [lssF h1, Run_bindO_some]
   simp only [Run_bind, Run_guardM_ff, Run_ret, fieldA_ptr, Run_optM_some, Run_rdM]
   refine ⟨_, ld2, ?_⟩
   by_cases h2 : f.hi < g f.off
   ·have hi : f.inR g = false:=by unfold Fd.inR; exact decide_eq_false (by omega)
    rw [hi] at q
    simp only [binV_int, intBin_gtr, gt_iff_lt, h2, decide_true, Run_optM_some, pickV_bool, cond_false, Run_bindO_some]
    exact q w2 f12
   ·have hi : f.inR g = true:=by unfold Fd.inR; exact decide_eq_true (by omega)
    rw [hi] at q
    simp only [binV_int, intBin_gtr, gt_iff_lt, h2, decide_false, Run_optM_some, pickV_bool, cond_false, Run_bindO_some]
    exact q w2 f12
 refine Run_for J (λ i L w' => L = [.int .i64 (i : Int)] /\ Fr (λ _ => False) w w') ⟨rfl, Fr.refl _ _⟩ ?_ ?_
 ·rintro i L w1 hi ⟨rfl, f1⟩
  obtain ⟨f, hf⟩ : ∃ f, fs[i]? = some f:=⟨_, List.getElem?_eq_getElem (by omega)⟩
  have hil : (i : Int) < fs.length:=by omega
  have wi:=wrap_succ' (n:=i) (by omega)
  rw [getL_zero, lssT hil, Run_bindO_some, Run_condM_true]
  refine step i f w1 hf f1 λ w2 f2 => ?_
  rw [hgood i f hi hf, Bool.not_true, Run_condM_false, binV_int, intBin_add, wi, Run_bindO_some, Run_ret]
  exact ⟨rfl, f2⟩
 ·rintro L w1 ⟨rfl, f1⟩
  rcases hend with ⟨rfl, hall⟩ | ⟨f, hf, hp, hall⟩
  ·have hn : ¬ ((fs.length : Nat) : Int) < fs.length:=by omega
   rw [getL_zero, lssF hn, Run_bindO_some, Run_condM_false, Run_ret]
   simp only [outK_exit]
   rw [show Nat.beq 0 0 = true from rfl, cond_true, Run_ret, hall]
   exact ⟨rfl, f1⟩
  ·have hlt:=(List.getElem?_eq_some_iff.1 hf).1
   have hil : (J : Int) < fs.length:=by omega
   rw [getL_zero, lssT hil, Run_bindO_some, Run_condM_true]
   refine step J f w1 hf f1 λ w2 f2 => ?_
   rw [hp, Bool.not_false, Run_condM_true, Run_ret]
   simp only [outK_ret, Run_ret, hall]
   exact ⟨trivial, f2⟩
theorem write_run {A : Nat -> Prop} {b : Nat} {l0 : List UInt8} {t : Value} {fs : List Fd} (hB : BG A w b l0) (htb : Tb w) (hA : ∀ c, c < 11 -> A c) (htA : ∀ c, inB t c -> A c) (ht : Sl 4 w t (fs.map Fd.row)) (hok : ∀ f ∈ fs, f.Ok) {x : Nat} {l : List Value} {g : Nat -> Int} (hx : bk w x = some l) (hxA : A x) (hg : ∀ f ∈ fs, l[f.off]? = some (.int .i64 (g f.off)))
  (hr : ∀ f ∈ fs, f.inR g = true) (hn : fs.length <= 100) (hl : l0.length <= 1048576) :
  Run (F.api_Meta_45 (PtrB b) t (.pointer (some ⟨x, 0, none⟩))) w λ _ w' => BG A w' b (l0 ++ fldsL fs g) /\ Fr (λ c => ¬ A c) w w':=by
 unfold F.api_Meta_45
 have hlen:=ht.lenL
 rw [List.length_map] at hlen
 rw [hlen, Run_bindO_some, Run_bind]
 have hdec : ∀ f ∈ fs, (Lib.decDigits (g f.off).toNat).length <= 20 /\ (fldL f (g f.off).toNat).length <= 122 /\ 0 <= g f.off /\ (g f.off).toNat < 9223372036854775808:=λ f hf => by
  have h1:=hr f hf
  unfold Fd.inR at h1
  have h2:=of_decide_eq_true h1
  have h3:=(hok f hf).low
  have h4:=(hok f hf).word.2.1
  have h5:=dec_len (n:=(g f.off).toNat) (by omega)
  refine ⟨h5, ?_, by omega, by omega⟩
  simp only [fldL, List.length_append, List.length_singleton]
  omega
 have hfl : ∀ i, (fldsL (fs.take i) g).length <= i * 122:=λ i => by
  have : ∀ (l : List Fd), (∀ f ∈ l, f ∈ fs) -> (fldsL l g).length <= l.length * 122:=λ l => by
   induction l with
   | nil => intro _; simp [fldsL]
   | cons f l ih =>
    intro hm
    have h1:=ih λ f hf => hm f (List.mem_cons_of_mem _ hf)
    have h2:=(hdec f (hm f (by simp))).2.1
    simp only [fldsL, List.map_cons, List.flatten_cons, List.length_append, List.length_cons] at h1 ⊢
    omega
  have h1:=this (fs.take i) λ f hf => List.mem_of_mem_take hf
  have h2 : (fs.take i).length * 122 <= i * 122:=Nat.mul_le_mul_right _ (List.length_take_le i fs)
  omega
 refine Run_for fs.length (λ i L w' => L = [.int .i64 (i : Int)] /\ BG A w' b (l0 ++ fldsL (fs.take i) g) /\ Fr (λ c => ¬ A c) w w') ⟨rfl, by simpa [fldsL] using hB, Fr.refl _ _⟩ ?_ ?_
 ·rintro i L w1 hi ⟨rfl, hB1, f1⟩
  have ht1:=ht.fr f1 λ c hc hn => hn (htA c hc)
  have hx1:=f1.bk_some hx λ hn => hn hxA
  have tb1:=htb.fr f1 λ c hc hn => hn (hA c hc)
  obtain ⟨f, hf⟩ : ∃ f, fs[i]? = some f:=⟨_, List.getElem?_eq_getElem (by omega)⟩
  have hfm:=List.mem_of_getElem? hf
  have hil : (i : Int) < fs.length:=by omega
  have wi:=wrap_succ' (n:=i) (by omega)
  obtain ⟨d1, d2, d3, d4⟩:=hdec f hfm
  have hsnoc : fldsL (fs.take (i + 1)) g = fldsL (fs.take i) g ++ fldL f (g f.off).toNat:=by
   rw [take_snocP hf]; simp [fldsL]
  rw [getL_zero, lssT hil, Run_bindO_some, Run_condM_true]
  refine Run_field ht1 hf (hok f hfm) λ y w2 hy hwy hyle f2 => ?_
  rw [Run_drewM, Run_getM, fieldA_ptr, Run_bindO_some, Run_bind, Run_rdM]
  have f2d : Fr (λ _ => False) w1 w2.drew:=f2.drew
  have hyd : bk w2.drew y = some f.row:=hy
  generalize w2.drew = w3 at *
  have ld0 : ld1 (.pointer (some ⟨y, 0 + 0, none⟩)) w3 = some (.string (sb f.word)):=by rw [ld1_ptr, hyd]; rfl
  have ld3 : ld1 (.pointer (some ⟨y, 0 + 3, none⟩)) w3 = some f.fn:=by rw [ld1_ptr, hyd]; rfl
  refine ⟨_, ld0, ?_⟩
  rw [fieldA_ptr, Run_bindO_some, Run_bind, Run_rdM]
  refine ⟨_, ld3, ?_⟩
  rw [Run_bind]
  refine (hok f hfm).cls x w3 _ ?_
  rw [Run_getM]
  have nck : nilChk (.pointer (some ⟨x, f.off, none⟩)) = some (.pointer (some ⟨x, f.off, none⟩)):=rfl
  have ldx : ld1 (.pointer (some ⟨x, f.off, none⟩)) w3 = some (.int .i64 (g f.off)):=by rw [ld1_ptr, f2d.bk_some hx1 id]; exact hg f hfm
  rw [nck, Run_bindO_some, Run_bind, Run_rdM]
  refine ⟨_, ldx, ?_⟩
  have hgn : g f.off = (((g f.off).toNat : Nat) : Int):=(Int.toNat_of_nonneg d3).symm
  rw [Run_bind]
  have hit:=itoa_run (tb1.fr0 f2d) (n:=(g f.off).toNat) d4
  rw [<- hgn] at hit
  refine hit.mono ?_
  rintro _ w4 ⟨rfl, f4⟩
  rw [Run_getM, Run_bind]
  have hy4:=f4.bk_some hyd id
  have ld4 : ld1 (.pointer (some ⟨y, 0 + 0, none⟩)) w4 = some (.string (sb f.word)):=by rw [ld1_ptr, hy4]; rfl
  refine Run_bsl (k:=1) (vs:=[.string (sb f.word), .string (itoaS (g f.off).toNat)]) (by rfl) (by intro v hv; simp only [List.mem_cons, List.not_mem_nil, or_false] at hv; rcases hv with rfl | rfl <;> rfl) rfl (by kernel_rfl) λ r w5 hr f5 _ => ?_
  rw [Run_getM, Run_bind]
  have f15:=(f2d.trans f4 λ _ _ => id).trans f5 λ _ _ => id
  have hB5:=hB1.frm f15
  have hwl:=(hok f hfm).word
  have hi122:=hfl i
  have hjl : (f.word ++ [32] ++ Lib.decDigits (g f.off).toNat).length <= 121:=by simp only [List.length_append, List.length_singleton]; omega
  refine (line_run hB5 (xs:=[f.word, Lib.decDigits (g f.off).toNat]) hr.1 (by rw [join_two]; simp) (by simp) (by rw [join_two]; omega) ?_ ?_).mono ?_
  ·simp only [List.map_cons, List.map_nil, List.sum_cons, List.sum_nil, sb_size]
   omega
  ·rw [List.length_append]
   omega
  ·rintro _ w6 ⟨h6, f6⟩
   rw [Run_getM, Run_reqM, Run_reqM]
   refine ⟨ld0, ld4, ?_⟩
   rw [binV_int, intBin_add, wi, Run_bindO_some, Run_ret]
   rw [join_two] at h6
   rw [hsnoc]
   refine ⟨rfl, ?_, (f1.trans f15 λ _ _ hc => hc.elim).trans f6 λ _ _ hc => hc⟩
   rw [List.append_assoc] at h6
   exact h6
 ·rintro L w1 ⟨rfl, hB1, f1⟩
  rw [List.take_length] at hB1
  have hn : ¬ ((fs.length : Nat) : Int) < fs.length:=by omega
  rw [getL_zero, lssF hn, Run_bindO_some, Run_condM_false, Run_ret]
  simp only [outK_exit]
  rw [show Nat.beq 0 0 = true from rfl, cond_true, Run_ret]
  exact ⟨hB1, f1⟩
theorem parseF_run {t v : Value} {fs : List Fd} {N : List (List UInt8)} (ht : Sl 4 w t (fs.map Fd.row)) (hv : Sl 1 w v (N.map λ s => [.string (sb s)])) (hok : ∀ f ∈ fs, f.Ok) {x : Nat} {l : List Value} (hx : bk w x = some l) (hxw : wr w x = true)
  (hoff : ∀ f ∈ fs, f.off < l.length) (hn : fs.length <= 1000) (hN : N.length <= 4611686018427387904) (hNl : ∀ s ∈ N, s.length <= 4611686018427387904) (htx : ¬ inB t x) (hvx : ¬ inB v x) :
  Run (F.api_Meta_61 v t (.pointer (some ⟨x, 0, none⟩))) w λ r w' => r = .bool (decide (N.length = fs.length) && (fs.zip N).all λ z => (fldO z.1 z.2).isSome) /\
   (∃ l', bk w' x = some l' /\ wr w' x = true /\ l'.length = l.length /\ ((decide (N.length = fs.length) && (fs.zip N).all λ z => (fldO z.1 z.2).isSome) = true -> l' = putF (fs.zip N) l)) /\ Fr (λ c => c = x) w w':=by
 unfold F.api_Meta_61
 have hlen:=ht.lenL
 have hlv:=hv.lenL
 rw [List.length_map] at hlen hlv
 rw [hlv, Run_bindO_some, hlen, Run_bindO_some, binV_int, intBin_neq, Run_bindO_some]
 by_cases hlen2 : N.length = fs.length
 case neg =>
  have h' : ¬ ((N.length : Nat) : Int) = fs.length:=by omega
  have hf : (!decide (((N.length : Nat) : Int) = fs.length)) = true:=by simp [h']
  rw [hf, Run_condM_true, Run_ret, decide_eq_false hlen2, Bool.false_and]
  exact ⟨rfl, ⟨l, hx, hxw, rfl, λ h => Bool.noConfusion h⟩, Fr.refl _ _⟩
 have h' : ((N.length : Nat) : Int) = fs.length:=by omega
 have hf : (!decide (((N.length : Nat) : Int) = fs.length)) = false:=by simp [h']
 rw [hf, Run_condM_false, Run_bindO_some, Run_bind, decide_eq_true hlen2, Bool.true_and]
 have hzl : (fs.zip N).length = fs.length:=by rw [List.length_zip]; omega
 obtain ⟨J, hJ, hgood, hend⟩:=far_ex (λ z : Fd × List UInt8 => (fldO z.1 z.2).isSome) (fs.zip N)
 rw [hzl] at hJ
 have step : ∀ (i : Nat) (z : Fd × List UInt8) (w1 : World), (fs.zip N)[i]? = some z -> Fr (λ c => c = x) w w1 -> ∀ {β : Type} {K : Value -> Value -> Value -> M β} {Q : β -> World -> Prop}, (∀ y w', bk w' y = some z.1.row -> Fr (λ _ => False) w1 w' -> Run (K (.int .i64 (((fldO z.1 z.2).getD 0 : Nat) : Int)) (.bool (fldO z.1 z.2).isSome) (.pointer (some ⟨y, 0, none⟩))) w' Q) ->
   Run (bindO (idxA 4 t (.int .i64 (i : Int))) λ x4 => M.bind (rdM (ldA 4 x4)) λ x5 => M.bind (newM 144 #[(Value.string ByteArray.empty), (Value.int IntKind.i64 0), (Value.int IntKind.i64 0), Value.nilFunc]) λ x9 => M.bind (stM 4 x9 x5) λ _ =>
    drewM <|
    bindO (idxA 1 v (.int .i64 (i : Int))) λ x11 =>
    M.bind (rdM (ld1 x11)) λ x12 =>
    bindO (fieldA 0 x9) λ x13 =>
    M.bind (rdM (ld1 x13)) λ x14 =>
    M.bind (F.paper_numberOf x12 x14) λ x15 =>
    bindO (extV 0 x15) λ x16 =>
    bindO (extV 1 x15) λ x17 => K x16 x17 x9) w1 Q:=by
  intro i z w1 hz f1 β K Q q
  obtain ⟨hz1, hz2⟩:=List.getElem?_zip_eq_some.1 hz
  have hfm:=List.mem_of_getElem? hz1
  have hsm:=List.mem_of_getElem? hz2
  refine Run_field (ht.fr f1 λ c hc he => htx (he ▸ hc)) hz1 (hok _ hfm) λ y w2 hy hwy hyle f2 => ?_
  rw [Run_drewM]
  have f2d : Fr (λ _ => False) w1 w2.drew:=f2.drew
  have hyd : bk w2.drew y = some z.1.row:=hy
  generalize w2.drew = w3 at *
  have hv3:=(hv.fr f1 λ c hc he => hvx (he ▸ hc)).fr0 f2d
  obtain ⟨p, p1, p2⟩:=hv3.rd1 (i:=i) (y:=.string (sb z.2)) (by simp [hz2]) .i64
  have p1' : idxA 1 v (.int .i64 (i : Int)) = some p:=p1
  have ld0 : ld1 (.pointer (some ⟨y, 0 + 0, none⟩)) w3 = some (.string (sb z.1.word)):=by rw [ld1_ptr, hyd]; rfl
  rw [p1', Run_bindO_some, Run_bind, Run_rdM]
  refine ⟨_, p2, ?_⟩
  rw [fieldA_ptr, Run_bindO_some, Run_bind, Run_rdM]
  refine ⟨_, ld0, ?_⟩
  rw [Run_bind]
  refine (numberOf_run (hNl _ hsm) (hok _ hfm).word.2.1).mono ?_
  rintro _ w4 ⟨rfl, f4⟩
  have e : ∀ o, extV 0 (numV o) = some (.int .i64 ((o.getD 0 : Nat) : Int)):=λ _ => rfl
  have e' : ∀ o, extV 1 (numV o) = some (.bool o.isSome):=λ _ => rfl
  rw [e, Run_bindO_some, e', Run_bindO_some]
  exact q y w4 (f4.bk_some hyd id) (f2d.trans f4 λ _ _ => id)
 have hnv : ∀ b, notV (.bool b) = some (.bool !b):=λ _ => rfl
 refine Run_for J (λ i L w' => L = [.int .i64 (i : Int)] /\ bk w' x = some (putF ((fs.zip N).take i) l) /\ wr w' x = true /\ Fr (λ c => c = x) w w') ⟨rfl, hx, hxw, Fr.refl _ _⟩ ?_ ?_
 ·rintro i L w1 hi ⟨rfl, hb1, hw1, f1⟩
  obtain ⟨z, hz⟩ : ∃ z, (fs.zip N)[i]? = some z:=⟨_, List.getElem?_eq_getElem (by omega)⟩
  obtain ⟨hz1, hz2⟩:=List.getElem?_zip_eq_some.1 hz
  have hfm:=List.mem_of_getElem? hz1
  have hil : (i : Int) < fs.length:=by omega
  have wi:=wrap_succ' (n:=i) (by omega)
  rw [getL_zero, lssT hil, Run_bindO_some, Run_condM_true]
  refine step i z w1 hz f1 λ y w2 hy f2 => ?_
  have hy3 : ld1 (.pointer (some ⟨y, 0 + 3, none⟩)) w2 = some z.1.fn:=by rw [ld1_ptr, hy]; rfl
  rw [hgood i z hi hz, hnv, Run_bindO_some, Bool.not_true, Run_condM_false, fieldA_ptr, Run_bindO_some, Run_bind, Run_rdM]
  refine ⟨_, hy3, ?_⟩
  rw [Run_bind]
  refine (hok _ hfm).cls x w2 _ ?_
  have nck : nilChk (.pointer (some ⟨x, z.1.off, none⟩)) = some (.pointer (some ⟨x, z.1.off, none⟩)):=rfl
  have hb2:=f2.bk_some hb1 id
  have hw2 : wr w2 x = true:=by rw [f2.wr (bk_lt hb1) id]; exact hw1
  have ho:=hoff _ hfm
  rw [nck, Run_bindO_some, Run_bind, Run_stM (by rfl) (by rfl) ⟨⟨_, hb2, by rw [putF_len]; show z.1.off + 1 <= _; omega⟩, hw2⟩, binV_int, intBin_add, wi, Run_bindO_some, Run_ret]
  refine ⟨rfl, ?_, by rw [wr_sto]; exact hw2, (f1.trans f2 λ _ _ h => h.elim).sto (.inl rfl) _ _⟩
  rw [bk_sto_same hb2, take_snocP hz, putF_snoc]
  rfl
 ·rintro L w1 ⟨rfl, hb1, hw1, f1⟩
  rcases hend with ⟨hJe, hall⟩ | ⟨z, hz, hp, hall⟩
  ·have hJf : J = fs.length:=by omega
   have hn : ¬ (J : Int) < fs.length:=by omega
   rw [getL_zero, lssF hn, Run_bindO_some, Run_condM_false, Run_ret]
   simp only [outK_exit]
   rw [show Nat.beq 0 0 = true from rfl, cond_true, Run_ret]
   rw [hJe, List.take_length] at hb1
   exact ⟨by rw [hall], ⟨_, hb1, hw1, putF_len _ _, λ _ => rfl⟩, f1⟩
  ·have hlt:=(List.getElem?_eq_some_iff.1 hz).1
   have hil : (J : Int) < fs.length:=by omega
   rw [getL_zero, lssT hil, Run_bindO_some, Run_condM_true]
   refine step J z w1 hz f1 λ y w2 hy f2 => ?_
   rw [hp, hnv, Run_bindO_some, Bool.not_false, Run_condM_true, Run_ret]
   simp only [outK_ret, Run_ret]
   exact ⟨by rw [hall], ⟨_, f2.bk_some hb1 id, by rw [f2.wr (bk_lt hb1) id]; exact hw1, putF_len _ _, λ h => by rw [hall] at h; cases h⟩, f1.trans f2 λ _ _ h => h.elim⟩
end
end Go.Proofs.YthlpfhjcdedhgaaGreatDoor.Me
namespace Go.Proofs.YthlpfhjcdedhgaaGreatDoor
open Go.Lift
set_option linter.unusedSimpArgs false
set_option linter.unusedVariables false
set_option maxHeartbeats 4000000
theorem u8_all {P : UInt8 -> Prop} (h : ∀ n, n < 256 -> P (UInt8.ofNat n)) (c : UInt8) : P c:=by
 have:=h c.toNat c.toNat_lt
 rwa [UInt8.ofNat_toNat] at this
def stSet : List UInt8:=[97, 98, 99, 100, 101, 102, 103, 104, 105, 106, 107, 108, 109, 110, 111, 112, 113, 114, 115, 116, 117, 118, 119, 120, 121, 122, 48, 49, 50, 51, 52, 53, 54, 55, 56, 57, 45]
theorem stSet_iff (c : UInt8) : c ∈ stSet ↔ ((97 <= c.toNat /\ c.toNat <= 122) ∨ (48 <= c.toNat /\ c.toNat <= 57)) ∨ c.toNat = 45:=u8_all (P:=λ c => c ∈ stSet ↔ ((97 <= c.toNat /\ c.toNat <= 122) ∨ (48 <= c.toNat /\ c.toNat <= 57)) ∨ c.toNat = 45) (by decide +kernel) c
theorem stSet_low : ∀ c ∈ stSet, c.toNat < 128:=by decide +kernel
def storeP (l : List UInt8) : Bool:=match l with
 | [] => false
 | c :: r => decide ((c :: r).length <= 40 /\ 97 <= c.toNat /\ c.toNat <= 122) && (c :: r).all λ c => decide (c ∈ stSet)
theorem storeP_no {c : UInt8} {r : List UInt8} (h : ¬ ((c :: r).length <= 40 /\ 97 <= c.toNat /\ c.toNat <= 122)) : storeP (c :: r) = false:=by
 show (decide ((c :: r).length <= 40 /\ 97 <= c.toNat /\ c.toNat <= 122) && (c :: r).all λ c => decide (c ∈ stSet)) = false
 rw [decide_eq_false h, Bool.false_and]
theorem storeP_yes {c : UInt8} {r : List UInt8} (h : (c :: r).length <= 40 /\ 97 <= c.toNat /\ c.toNat <= 122) : storeP (c :: r) = (c :: r).all λ c => decide (c ∈ stSet):=by
 show (decide ((c :: r).length <= 40 /\ 97 <= c.toNat /\ c.toNat <= 122) && (c :: r).all λ c => decide (c ∈ stSet)) = _
 rw [decide_eq_true h, Bool.true_and]
theorem storeP_len {l : List UInt8} (h : storeP l = true) : 1 <= l.length /\ l.length <= 40 /\ ∀ c ∈ l, c ∈ stSet:=by
 cases l with
 | nil => cases h
 | cons c r =>
  simp only [storeP, Bool.and_eq_true, decide_eq_true_eq] at h
  refine ⟨by rw [List.length_cons]; omega, h.1.1, λ x hx => ?_⟩
  have:=List.all_eq_true.1 h.2 x hx
  exact of_decide_eq_true this
section
variable {w w1 w2 : World}
theorem storeOK_run (l : List UInt8) (hl : l.length <= 4611686018427387904) : Run (F.paper_storeOK (.string (sb l))) w λ r w' => r = .bool (storeP l) /\ Fr (λ _ => False) w w':=by
 unfold F.paper_storeOK
 have e0 : ByteArray.mk #[] = sb []:=rfl
 have eS : ByteArray.mk #[97, 98, 99, 100, 101, 102, 103, 104, 105, 106, 107, 108, 109, 110, 111, 112, 113, 114, 115, 116, 117, 118, 119, 120, 121, 122, 48, 49, 50, 51, 52, 53, 54, 55, 56, 57, 45] = sb stSet:=rfl
 rw [e0, eS, sbEq]
 cases l with
 | nil =>
  simp only [decide_true, Run_bindO_some, Run_bind, Run_guardM_tf, pickV_bool, cond_true, Run_condM_true, Run_ret]
  exact ⟨rfl, Fr.refl _ _⟩
 | cons c r =>
  have hix : idxS (.string (sb (c :: r))) (.int .i64 0) = some (by8 c):=idxSb (i:=0) rfl
  have d0 : decide (c :: r = []) = false:=rfl
  simp only [d0, Run_bindO_some, Run_bind, Run_guardM_ff, Run_ret, lenS_string, sb_size, Run_optM_some, binV_int, intBin_gtr, pickV_bool, cond_false]
  by_cases h40 : (c :: r).length <= 40
  case neg =>
   have h1 : (((c :: r).length : Nat) : Int) > 40:=by omega
   have hs : storeP (c :: r) = false:=storeP_no λ h => h40 h.1
   rw [hs, decide_eq_true h1]
   simp only [Run_bindO_some, Run_bind, Run_guardM_tf, pickV_bool, cond_true, Run_condM_true, Run_ret]
   exact ⟨trivial, Fr.refl _ _⟩
  have h1 : ¬ (((c :: r).length : Nat) : Int) > 40:=by omega
  rw [decide_eq_false h1]
  simp only [Run_bindO_some, Run_bind, Run_guardM_ff, Run_ret, hix, Run_optM_some, by8, binV_int, intBin_lss, pickV_bool, cond_false]
  by_cases h97 : 97 <= c.toNat
  case neg =>
   have h2 : (c.toNat : Int) < 97:=by omega
   have hs : storeP (c :: r) = false:=storeP_no λ h => h97 h.2.1
   rw [hs, decide_eq_true h2]
   simp only [Run_bindO_some, Run_bind, Run_guardM_tf, pickV_bool, cond_true, Run_condM_true, Run_ret]
   exact ⟨trivial, Fr.refl _ _⟩
  have h2 : ¬ (c.toNat : Int) < 97:=by omega
  rw [decide_eq_false h2]
  simp only [Run_bindO_some, Run_bind, Run_guardM_ff, Run_ret, hix, Run_optM_some, by8, binV_int, intBin_gtr, pickV_bool, cond_false]
  by_cases h122 : c.toNat <= 122
  case neg =>
   have h3 : (c.toNat : Int) > 122:=by omega
   have hs : storeP (c :: r) = false:=storeP_no λ h => h122 h.2.2
   rw [hs, decide_eq_true h3]
   simp only [Run_bindO_some, Run_condM_true, Run_ret]
   exact ⟨trivial, Fr.refl _ _⟩
  have h3 : ¬ (c.toNat : Int) > 122:=by omega
  rw [decide_eq_false h3]
  simp only [Run_bindO_some, Run_condM_false, Run_bind]
  refine (trim_run (l:=c :: r) (cs:=stSet) (by simp) hl stSet_low (by decide) (by decide)).mono ?_
  rintro _ w1 ⟨⟨t, rfl, ht⟩, f1⟩
  rw [sbEq, Run_bindO_some, Run_ret]
  have : storeP (c :: r) = decide (t = []):=by
   rw [storeP_yes ⟨h40, h97, h122⟩, Bool.eq_iff_iff, decide_eq_true_iff, ht, List.all_eq_true]
   simp
  rw [this]
  exact ⟨rfl, f1⟩
end
end Go.Proofs.YthlpfhjcdedhgaaGreatDoor
namespace Go.Proofs.YthlpfhjcdedhgaaGreatDoor
open Go.Lift Go.Sort
set_option linter.unusedSimpArgs false
set_option linter.unusedVariables false
set_option maxHeartbeats 4000000
def VERSION : List UInt8:=[118, 101, 114, 115, 105, 111, 110]
def NODE : List UInt8:=[110, 111, 100, 101]
def STORE : List UInt8:=[115, 116, 111, 114, 101]
structure Mt where
 st : List UInt8
 a : Int
 b : Int
 c : Int
 d : Int
 e : Int
 f : Int
 h : Int
def Mt.at (m : Mt) (i : Nat) : Int:=match i with
 | 1 => m.a
 | 2 => m.b
 | 3 => m.c
 | 4 => m.d
 | 5 => m.e
 | 6 => m.f
 | _ => m.h
def Mt.row (m : Mt) : List Value:=[.string (sb m.st), .int .i64 m.a, .int .i64 m.b, .int .i64 m.c, .int .i64 m.d, .int .i64 m.e, .int .i64 m.f, .int .i64 m.h]
def Mt.v (m : Mt) : Value:=.agg #[.string (sb m.st), .int .i64 m.a, .int .i64 m.b, .int .i64 m.c, .int .i64 m.d, .int .i64 m.e, .int .i64 m.f, .int .i64 m.h]
section
variable {w w1 w2 : World}
theorem itoa_int (ht : Tb w) {z : Int} (h0 : 0 <= z) (h1 : z < 9223372036854775808) : Run (F.strconv_Itoa (.int .i64 z)) w λ r w' => r = .string (sb (Lib.decDigits z.toNat)) /\ Fr (λ _ => False) w w':=by
 obtain ⟨n, rfl⟩ : ∃ n : Nat, z = n:=⟨z.toNat, by omega⟩
 exact itoa_run ht (by omega)
end
section
variable {w w1 w2 : World}
structure RQ (w0 w : World) (b : Nat) (l : List UInt8) (p : Nat) (bad : Bool) (x6 : Nat) (l6 : List Value) : Prop where
 rs : RS w b l p bad
 hp : p <= l.length
 b6 : bk w x6 = some l6
 w6 : wr w x6 = true
 ne : x6 ≠ b
 fr : Fr (λ c => c = b ∨ c = x6) w0 w
section
variable {β : Type} {w0 : World} {b p : Nat} {l : List UInt8} {bad : Bool} {x6 : Nat} {l6 : List Value}
theorem RQ.call (h : RQ w0 w b l p bad x6 l6) (f : Fr (λ c => c = b) w w2) {p' : Nat} {bad' : Bool} (rs : RS w2 b l p' bad') (hp : p' <= l.length) : RQ w0 w2 b l p' bad' x6 l6 :=
 ⟨rs, hp, f.bk_some h.b6 h.ne, by rw [f.wr (bk_lt h.b6) h.ne]; exact h.w6, h.ne, h.fr.trans f λ _ _ he => .inl he⟩
theorem RQ.put6 (h : RQ w0 w b l p bad x6 l6) (i : Nat) (y : Value) : RQ w0 (sto w x6 i [y]) b l p bad x6 (l6.set i y):=by
 have f : Fr (λ c => c = x6) w (sto w x6 i [y]):=(show Fr (λ c => c = x6) w w from Fr.refl _ _).sto (.inl rfl) _ _
 exact ⟨⟨f.bk_some h.rs.1 λ e => h.ne e.symm, by rw [wr_sto]; exact h.rs.2⟩, h.hp, by rw [bk_sto_same h.b6]; simp only [setL_cons, setL_nil], by rw [wr_sto]; exact h.w6, h.ne, h.fr.trans f λ _ _ he => .inr he⟩
theorem RQ.put {K : M β} {Q : β -> World -> Prop} (h : RQ w0 w b l p bad x6 l6) {i : Nat} (hi : i < l6.length) {y : Value} (hy : isCell y = true) (q : ∀ w', RQ w0 w' b l p bad x6 (l6.set i y) -> Run K w' Q) :
  Run (bindO (fieldA i (.pointer (some ⟨x6, 0, none⟩))) λ x9 => M.bind (stM 1 x9 y) λ _ => K) w Q:=by
 rw [fieldA_ptr, Run_bindO_some, Run_bind, Run_st1 ⟨⟨⟨l6, h.b6, by omega⟩, h.w6⟩, hy⟩, Nat.zero_add]
 exact q _ (h.put6 i y)
end
end
section
variable {w w1 w2 : World}
theorem finN_run {n x1 : Nat} {l1 : List Value} (h1 : bk w x1 = some l1) (hw1 : wr w x1 = true) (cs : Array Value) (hs : cs.size = n + 1) (hl : l1.length = n + 1) (hc : cs.toList.all isCell = true) {K : Value -> World -> Prop} (q : ∀ w', Fr (λ c => c = x1) w w' -> K (.agg cs) w') :
  Run (stM (n + 1) (.pointer (some ⟨x1, 0, none⟩)) (.agg cs)) w λ _ w' => Run (rdM (ldA (n + 1) (.pointer (some ⟨x1, 0, none⟩)))) w' K:=by
 rw [Run_stA ⟨⟨⟨_, h1, by omega⟩, hw1⟩, hs, hc⟩, Run_rdM]
 have hb:=bk_sto_same (o:=0) h1 cs.toList
 have hcl : cs.toList.length = n + 1:=by rw [Array.length_toList, hs]
 have he : setL l1 0 cs.toList = cs.toList:=by
  rw [setL_eq _ _ _ (by omega), List.drop_of_length_le (by omega)]
  simp
 rw [he] at hb
 refine ⟨_, ?_, q _ ((show Fr (λ c => c = x1) w w from Fr.refl _ _).sto (.inl rfl) _ _)⟩
 rw [ldA_bk hb (by omega), List.drop_zero, <- hcl, List.take_length]
end
def nameF (word l : List UInt8) : Option (List UInt8):=if (word ++ [32]) <+: l /\ l.drop (word ++ [32]).length ≠ [] /\ (32 : UInt8) ∉ l.drop (word ++ [32]).length then some (l.drop (word ++ [32]).length) else none
theorem nameF_of {word d : List UInt8} (h0 : d ≠ []) (h32 : (32 : UInt8) ∉ d) : nameF word (word ++ [32] ++ d) = some d:=by
 unfold nameF
 rw [List.drop_left, if_pos ⟨List.prefix_append _ _, h0, h32⟩]
theorem nameF_some {word l d : List UInt8} (h : nameF word l = some d) : l = word ++ [32] ++ d /\ d ≠ [] /\ (32 : UInt8) ∉ d:=by
 unfold nameF at h
 split at h
 ·rename_i hc
  obtain ⟨⟨t, ht⟩, h2, h3⟩:=hc
  rw [<- ht, List.drop_left] at h h2 h3
  cases h
  exact ⟨ht.symm, h2, h3⟩
 ·cases h
theorem index_in {x : List UInt8} {b : UInt8} : decide (0 <= Lib.indexByte x b) = decide (b ∈ x):=by
 by_cases h : b ∈ x
 ·obtain ⟨y, s, rfl, hy⟩:=List.eq_append_cons_of_mem h
  rw [index_at b hy]
  simp
 ·rw [index_no b h, decide_eq_false h]
  rfl
section
variable {w w1 w2 : World}
theorem nameOf_run {word l : List UInt8} (hw : word.length <= 100) : Run (F.paper_nameOf (.string (sb l)) (.string (sb word))) w λ r w' => r = .tuple #[.string (sb (Lib.trimPrefix l (word ++ [32]))), .bool (nameF word l).isSome] /\ w' = w:=by
 unfold F.paper_nameOf
 have e32 : ByteArray.mk #[32] = sb [32]:=rfl
 have e0 : ByteArray.mk #[] = sb []:=rfl
 have a1:=sbAdd (a:=word) (c:=[32]) (by simp; omega)
 have hnv : ∀ b, notV (.bool b) = some (.bool !b):=λ _ => rfl
 have y0 : ∀ v x, extV 0 (.tuple #[v, x]) = some v:=λ _ _ => rfl
 have y1 : ∀ v x, extV 1 (.tuple #[v, x]) = some x:=λ _ _ => rfl
 rw [e32, a1, Run_bindO_some, Run_bind]
 refine ⟨_, _, cutp_run l (word ++ [32]), ?_⟩
 show Run (bindO (extV 0 (.tuple #[.string (sb (Lib.trimPrefix l (word ++ [32]))), .bool (decide ((word ++ [32]) <+: l))])) _) w _
 rw [y0, Run_bindO_some, y1, Run_bindO_some]
 by_cases h : (word ++ [32]) <+: l
 case neg =>
  have hn : nameF word l = none:=by unfold nameF; rw [if_neg λ hc => h hc.1]
  rw [decide_eq_false h, hn]
  simp only [Run_bind, Run_guardM_ft, pickV_bool, cond_false, Run_bindO_some, Run_ret]
  exact ⟨rfl, trivial⟩
 rw [decide_eq_true h, trim_of h, e0]
 simp only [Run_bind, Run_guardM_tt, Run_ret, sbNe, Run_optM_some, pickV_bool, cond_true, Run_bindO_some]
 by_cases h0 : l.drop (word ++ [32]).length = []
 case pos =>
  have hn : nameF word l = none:=by unfold nameF; rw [if_neg λ hc => hc.2.1 h0]
  rw [decide_eq_true h0, hn]
  simp only [Bool.not_true, Run_bind, Run_guardM_ft, pickV_bool, cond_false, Run_bindO_some, Run_ret]
  exact ⟨rfl, trivial⟩
 rw [decide_eq_false h0]
 simp only [Bool.not_false, Run_bind, Run_guardM_tt, Run_ret]
 have hc : F.strings_Contains (.string (sb (l.drop (word ++ [32]).length))) (.string (sb [32])) w = some (.bool (decide ((32 : UInt8) ∈ l.drop (word ++ [32]).length)), w):=by
  unfold F.strings_Contains
  show some (Value.bool (decide (0 <= Lib.indexByte (l.drop (word ++ [32]).length) 32)), w) = _
  rw [index_in]
 refine ⟨_, _, hc, ?_⟩
 show Run (optM (notV (.bool (decide ((32 : UInt8) ∈ l.drop (word ++ [32]).length))))) w _
 rw [hnv, Run_optM_some]
 simp only [pickV_bool, cond_true, Run_bindO_some, Run_ret]
 have hn : (nameF word l).isSome = !decide ((32 : UInt8) ∈ l.drop (word ++ [32]).length):=by
  unfold nameF
  by_cases h32 : (32 : UInt8) ∈ l.drop (word ++ [32]).length
  ·rw [if_neg λ hc => hc.2.2 h32, decide_eq_true h32]; rfl
  ·rw [if_pos ⟨h, h0, h32⟩, decide_eq_false h32]; rfl
 rw [hn]
 exact ⟨rfl, trivial⟩
end
end Go.Proofs.YthlpfhjcdedhgaaGreatDoor
namespace Go.Proofs.YthlpfhjcdedhgaaGreatDoor
open Go.Lift
set_option linter.unusedSimpArgs false
set_option linter.unusedVariables false
set_option maxHeartbeats 4000000
section
variable {w w1 w2 : World}
theorem printed_form {n : Nt} (h : n.pok = true) : pform (closeL (ptrL n)) n (crcF (sb (ptrL n))):=by
 have hp:=(pok_iff n).1 h
 refine ⟨_, _, _, _, eightL (crcF (sb (ptrL n))), n.k.toNat, n.f.toNat, n.u.toNat, n.c.toNat, ?_, dec_num (n:=n.k.toNat) (by omega), dec_num (n:=n.f.toNat) (by omega), dec_num (n:=n.u.toNat) (by omega), dec_num (n:=n.c.toNat) (by omega), eight_sum (crcF_lt _), ?_⟩
 ·unfold closeL
  generalize crcF (sb (ptrL n)) = q
  rw [ptr_parts]
 ·obtain ⟨k, f, u, c⟩:=n
  simp only at hp
  simp only [Nt.mk.injEq]
  omega
theorem close_take (l : List UInt8) : (closeL l).take ((closeL l).length - 13) = l:=by
 have h8 : (eightL (crcF (sb l))).length = 8:=lowD_len _ _
 have h4 : SUM.length = 4:=rfl
 have hl : (closeL l).length = l.length + 13:=by
  simp only [closeL, List.length_append, h8, h4, List.length_singleton]
 rw [hl, Nat.add_sub_cancel]
 unfold closeL
 rw [List.append_assoc, List.append_assoc, List.take_left]
theorem first_run (ht : Tb w) : Run F.granarylaw4_first w λ r w' => r = .bool true /\ Fr (λ _ => False) w w':=by
 unfold F.granarylaw4_first
 have hb : buildV #[(Value.int IntKind.i64 0), (Value.int IntKind.i64 0), (Value.int IntKind.i64 0), (Value.int IntKind.i64 0)] [(0, 1, (Value.int IntKind.i64 1)), (2, 1, (Value.int IntKind.i64 1)), (3, 1, (Value.int IntKind.i64 1))] = some (Nt.v ⟨1, 0, 1, 1⟩):=by kernel_rfl
 have hp : (⟨1, 0, 1, 1⟩ : Nt).pok = true:=by decide
 have y0 : ∀ v x, extV 0 (.tuple #[v, x]) = some v:=λ _ _ => rfl
 have y1 : ∀ v x, extV 1 (.tuple #[v, x]) = some x:=λ _ _ => rfl
 rw [hb, Run_bindO_some, Run_bind]
 refine (pprint_run ht _).mono ?_
 rintro _ w1 ⟨rfl, f1⟩
 have hl:=ptr_len hp
 have hlc : (closeL (ptrL ⟨1, 0, 1, 1⟩)).length <= 4294960000:=by
  have h8 : (eightL (crcF (sb (ptrL ⟨1, 0, 1, 1⟩)))).length = 8:=lowD_len _ _
  have h4 : SUM.length = 4:=rfl
  simp only [closeL, List.length_append, h8, h4, List.length_singleton]
  omega
 rw [ptrO, if_pos hp, y0, Run_bindO_some, y1, Run_bindO_some, Run_bind]
 refine (pparse_run (ht.fr0 f1) hlc).mono ?_
 rintro r w2 ⟨hr, f2⟩
 have e:=hr.yes _ _ (printed_form hp)
 rw [ansV, close_take, if_pos rfl, if_pos hp] at e
 subst e
 rw [y0, Run_bindO_some, y1, Run_bindO_some, Run_bind]
 refine Run_new λ x8 w3 hx8 hw8 f3 hle8 => ?_
 rw [Run_bind, Run_stM (by rfl) (by rfl) ⟨⟨_, hx8, by simp [Nt.v, Value.cells]⟩, hw8⟩]
 have b8:=bk_sto_same (o:=0) hx8 (Nt.v ⟨1, 0, 1, 1⟩).cells.toList
 have f34 : Fr (λ _ => False) w2 (sto w3 x8 0 (Nt.v ⟨1, 0, 1, 1⟩).cells.toList):=f3.sto (.inr hle8) _ _
 generalize sto w3 x8 0 (Nt.v ⟨1, 0, 1, 1⟩).cells.toList = w4 at *
 have l8 : ldA 4 (.pointer (some ⟨x8, 0, none⟩)) w4 = some (Nt.v ⟨1, 0, 1, 1⟩):=ldA_bk b8 (by first | exact Nat.le_refl _ | simp)
 simp only [F.granarylaw4_num, Run_bind, Run_ret, binV_int, intBin_eql, decide_true, Run_bindO_some, Run_guardM_tt, Run_optM_some, pickV_bool, cond_true, Run_rdM]
 refine ⟨_, l8, ?_⟩
 simp only [hb, Run_optM_some, eqRow, pickV_bool, cond_true, Run_bindO_some]
 exact ⟨trivial, (f1.trans f2 λ _ _ => id).trans f34 λ _ _ => id⟩
end
def lettersP (l : List UInt8) : Bool:=decide (1 <= l.length /\ l.length <= 40) && l.all λ c => decide (97 <= c.toNat /\ c.toNat <= 122)
theorem letters_store {l : List UInt8} (h : lettersP l = true) : storeP l = true:=by
 unfold lettersP at h
 simp only [Bool.and_eq_true, decide_eq_true_eq, List.all_eq_true] at h
 obtain ⟨⟨h1, h2⟩, h3⟩:=h
 cases l with
 | nil => simp at h1
 | cons c r =>
  rw [storeP_yes ⟨h2, h3 c (by simp)⟩, List.all_eq_true]
  intro x hx
  exact decide_eq_true ((stSet_iff x).2 (.inl (.inl (h3 x hx))))
section
variable {w w1 w2 : World}
theorem letters_run (l : List UInt8) (hl : l.length <= 4611686018427387904) : Run (F.granarylaw4_letters (.string (sb l))) w λ r w' => r = .bool (lettersP l) /\ w' = w:=by
 unfold F.granarylaw4_letters
 by_cases h1 : 1 <= l.length
 case neg =>
  have hs : lettersP l = false:=by unfold lettersP; rw [decide_eq_false λ h => h1 h.1, Bool.false_and]
  have h1' : ((l.length : Nat) : Int) < 1:=by omega
  rw [hs]
  simp only [lenS_string, sb_size, binV_int, intBin_lss, h1', decide_true, Run_bindO_some, Run_bind, Run_guardM_tf, pickV_bool, cond_true, Run_condM_true, Run_ret]
  exact ⟨trivial, trivial⟩
 have h1' : ¬ ((l.length : Nat) : Int) < 1:=by omega
 by_cases h40 : l.length <= 40
 case neg =>
  have hs : lettersP l = false:=by unfold lettersP; rw [decide_eq_false λ h => h40 h.2, Bool.false_and]
  have h2 : ((l.length : Nat) : Int) > 40:=by omega
  rw [hs]
  simp only [lenS_string, sb_size, binV_int, intBin_lss, h1', decide_false, Run_bindO_some, Run_bind, Run_guardM_ff, Run_ret, Run_optM_some, intBin_gtr, h2, decide_true, pickV_bool, cond_false, Run_condM_true]
  exact ⟨trivial, trivial⟩
 have h2 : ¬ ((l.length : Nat) : Int) > 40:=by omega
 have hs : lettersP l = l.all λ c => decide (97 <= c.toNat /\ c.toNat <= 122):=by unfold lettersP; rw [decide_eq_true ⟨h1, h40⟩, Bool.true_and]
 rw [hs]
 simp only [lenS_string, sb_size, binV_int, intBin_lss, h1', decide_false, Run_bindO_some, Run_bind, Run_guardM_ff, Run_ret, Run_optM_some, intBin_gtr, h2, pickV_bool, cond_false, Run_condM_false]
 obtain ⟨J, hJ, hgood, hend⟩:=far_ex (λ c : UInt8 => decide (97 <= c.toNat /\ c.toNat <= 122)) l
 have step : ∀ (i : Nat) (x : UInt8), l[i]? = some x -> ∀ {β : Type} {K : Value -> M β} {Q : β -> World -> Prop}, Run (K (.bool (!decide (97 <= x.toNat /\ x.toNat <= 122)))) w Q ->
   Run (bindO (idxS (.string (sb l)) (.int .i64 (i : Int))) λ x10 =>
    bindO (binV BinOp.lss x10 (Value.int IntKind.u8 97)) λ x11 =>
    M.bind (guardM x11 false (M.ret (.string (sb l)))) λ x12 =>
    M.bind (guardM x11 false (M.ret (.int .i64 (i : Int)))) λ x13 =>
    M.bind (guardM x11 false (optM (idxS x12 x13))) λ x14 =>
    M.bind (guardM x11 false (optM (binV BinOp.gtr x14 (Value.int IntKind.u8 122)))) λ x15 =>
    bindO (pickV x11 (Value.bool true) x15) K) w Q:=λ i x hx {β K Q} q => by
  rw [idxSb hx]
  by_cases a1 : 97 <= x.toNat
  ·have b1 : ¬ (x.toNat : Int) < 97:=by omega
   by_cases a2 : x.toNat <= 122
   ·have b2 : ¬ (x.toNat : Int) > 122:=by omega
    rw [decide_eq_true ⟨a1, a2⟩] at q
    simp only [Run_bindO_some, by8, binV_int, intBin_lss, b1, decide_false, Run_bind, Run_guardM_ff, Run_ret, idxSb hx, Run_optM_some, intBin_gtr, b2, pickV_bool, cond_false]
    exact q
   ·have b2 : (x.toNat : Int) > 122:=by omega
    rw [decide_eq_false λ h => a2 h.2] at q
    simp only [Run_bindO_some, by8, binV_int, intBin_lss, b1, decide_false, Run_bind, Run_guardM_ff, Run_ret, idxSb hx, Run_optM_some, intBin_gtr, b2, decide_true, pickV_bool, cond_false]
    exact q
  ·have b1 : (x.toNat : Int) < 97:=by omega
   rw [decide_eq_false λ h => a1 h.1] at q
   simp only [Run_bindO_some, by8, binV_int, intBin_lss, b1, decide_true, Run_bind, Run_guardM_tf, pickV_bool, cond_true]
   exact q
 refine Run_for J (λ i L w' => L = [.int .i64 (i : Int)] /\ w' = w) ⟨rfl, rfl⟩ ?_ ?_
 ·rintro i L w1 hi ⟨rfl, rfl⟩
  obtain ⟨x, hx⟩ : ∃ x, l[i]? = some x:=⟨_, List.getElem?_eq_getElem (by omega)⟩
  have hil : (i : Int) < l.length:=by omega
  rw [getL_zero, Run_bindO_some, lssT hil, Run_bindO_some, Run_condM_true]
  refine step i x hx ?_
  rw [hgood i x hi hx, Bool.not_true, Run_condM_false, binV_int, intBin_add, wrap_succ' (by omega), Run_bindO_some, Run_ret]
  exact ⟨rfl, rfl⟩
 ·rintro L w1 ⟨rfl, rfl⟩
  rcases hend with ⟨rfl, hall⟩ | ⟨x, hx, hp, hall⟩
  ·have hil : ¬ ((l.length : Nat) : Int) < l.length:=by omega
   rw [getL_zero, Run_bindO_some, lssF hil, Run_bindO_some, Run_condM_false, Run_ret, hall]
   simp only [outK_exit]
   rw [show Nat.beq 0 0 = true from rfl, cond_true, Run_ret]
   exact ⟨rfl, rfl⟩
  ·have hil : (J : Int) < l.length:=by have:=(List.getElem?_eq_some_iff.1 hx).1; omega
   rw [getL_zero, Run_bindO_some, lssT hil, Run_bindO_some, Run_condM_true]
   refine step J x hx ?_
   rw [hp, Bool.not_false, Run_condM_true, Run_ret, hall]
   simp only [outK_ret, Run_ret]
   exact ⟨trivial, trivial⟩
end
theorem store_no {l : List UInt8} (h : storeP l = true) : l ≠ [] /\ (32 : UInt8) ∉ l /\ (10 : UInt8) ∉ l:=by
 obtain ⟨h1, _, h3⟩:=storeP_len h
 refine ⟨λ e => by subst e; simp at h1, λ hc => ?_, λ hc => ?_⟩
 ·exact absurd (h3 _ hc) (by decide)
 ·exact absurd (h3 _ hc) (by decide)
theorem close_len (l : List UInt8) : (closeL l).length = l.length + 13:=by
 have h8 : (eightL (crcF (sb l))).length = 8:=lowD_len _ _
 have h4 : SUM.length = 4:=rfl
 simp only [closeL, List.length_append, h8, h4, List.length_singleton]
end Go.Proofs.YthlpfhjcdedhgaaGreatDoor
namespace Go.Proofs.YthlpfhjcdedhgaaGreatDoor
open Go.Lift
set_option linter.unusedSimpArgs false
set_option linter.unusedVariables false
set_option maxHeartbeats 4000000
set_option maxRecDepth 4000
def fiSet : List UInt8:=[97, 98, 99, 100, 101, 102, 103, 104, 105, 106, 107, 108, 109, 110, 111, 112, 113, 114, 115, 116, 117, 118, 119, 120, 121, 122, 48, 49, 50, 51, 52, 53, 54, 55, 56, 57, 45, 95, 46]
theorem fiSet_low : ∀ c ∈ fiSet, c.toNat < 128:=by decide +kernel
def fileP (l : List UInt8) : Bool:=decide (1 <= l.length /\ l.length <= 40 /\ l ≠ [46] /\ l ≠ [46, 46]) && l.all λ c => decide (c ∈ fiSet)
theorem fileP_mem {l : List UInt8} (h : fileP l = true) : 1 <= l.length /\ l.length <= 40 /\ ∀ c ∈ l, c ∈ fiSet:=by
 unfold fileP at h
 simp only [Bool.and_eq_true, decide_eq_true_eq] at h
 exact ⟨h.1.1, h.1.2.1, λ x hx => of_decide_eq_true (List.all_eq_true.1 h.2 x hx)⟩
section
variable {w w1 w2 : World}
theorem fileOK_run (l : List UInt8) (hl : l.length <= 4611686018427387904) : Run (F.paper_fileOK (.string (sb l))) w λ r w' => r = .bool (fileP l) /\ Fr (λ _ => False) w w':=by
 unfold F.paper_fileOK
 have e0 : ByteArray.mk #[] = sb []:=rfl
 have e1 : ByteArray.mk #[46] = sb [46]:=rfl
 have e2 : ByteArray.mk #[46, 46] = sb [46, 46]:=rfl
 have eS : ByteArray.mk #[97, 98, 99, 100, 101, 102, 103, 104, 105, 106, 107, 108, 109, 110, 111, 112, 113, 114, 115, 116, 117, 118, 119, 120, 121, 122, 48, 49, 50, 51, 52, 53, 54, 55, 56, 57, 45, 95, 46] = sb fiSet:=rfl
 have no : ¬ (1 <= l.length /\ l.length <= 40 /\ l ≠ [46] /\ l ≠ [46, 46]) -> fileP l = false:=λ h => by
  unfold fileP
  rw [decide_eq_false h, Bool.false_and]
 rw [e0, e1, e2, eS, sbEq]
 by_cases h0 : l = []
 ·rw [decide_eq_true h0, Run_bindO_some, no λ h => by rw [h0] at h; exact absurd h.1 (by decide)]
  simp only [Run_bind, Run_guardM_tf, pickV_bool, cond_true, Run_bindO_some, Run_condM_true, Run_ret]
  exact ⟨trivial, Fr.refl _ _⟩
 rw [decide_eq_false h0, Run_bindO_some]
 simp only [Run_bind, Run_guardM_ff, Run_ret, lenS_string, sb_size, Run_optM_some, binV_int, intBin_gtr, pickV_bool, cond_false, Run_bindO_some]
 by_cases h40 : l.length <= 40
 case neg =>
  have h1 : ((l.length : Nat) : Int) > 40:=by omega
  rw [decide_eq_true h1, no λ h => h40 h.2.1]
  simp only [Run_bind, Run_guardM_tf, pickV_bool, cond_true, Run_bindO_some, Run_condM_true, Run_ret]
  exact ⟨trivial, Fr.refl _ _⟩
 have h1 : ¬ ((l.length : Nat) : Int) > 40:=by omega
 rw [decide_eq_false h1]
 simp only [Run_bind, Run_guardM_ff, Run_ret, sbEq, Run_optM_some, pickV_bool, cond_false, Run_bindO_some]
 by_cases d1 : l = [46]
 ·rw [decide_eq_true d1, no λ h => h.2.2.1 d1]
  simp only [Run_bind, Run_guardM_tf, pickV_bool, cond_true, Run_bindO_some, Run_condM_true, Run_ret]
  exact ⟨trivial, Fr.refl _ _⟩
 rw [decide_eq_false d1]
 simp only [Run_bind, Run_guardM_ff, Run_ret, sbEq, Run_optM_some, pickV_bool, cond_false, Run_bindO_some]
 by_cases d2 : l = [46, 46]
 ·rw [decide_eq_true d2, no λ h => h.2.2.2 d2]
  simp only [Run_condM_true, Run_ret]
  exact ⟨trivial, Fr.refl _ _⟩
 rw [decide_eq_false d2, Run_condM_false, Run_bind]
 refine (trim_run (l:=l) (cs:=fiSet) h0 hl fiSet_low (by decide) (by decide)).mono ?_
 rintro _ w1 ⟨⟨t, rfl, ht⟩, f1⟩
 rw [sbEq, Run_bindO_some, Run_ret]
 have hl1 : 1 <= l.length:=List.length_pos_iff.2 h0
 have : fileP l = decide (t = []):=by
  unfold fileP
  rw [decide_eq_true ⟨hl1, h40, d1, d2⟩, Bool.true_and, Bool.eq_iff_iff, decide_eq_true_iff, ht, List.all_eq_true]
  simp
 rw [this]
 exact ⟨rfl, f1⟩
end
end Go.Proofs.YthlpfhjcdedhgaaGreatDoor
namespace Go.Proofs.YthlpfhjcdedhgaaGreatDoor
open Go.Lift
set_option linter.unusedSimpArgs false
set_option linter.unusedVariables false
set_option maxHeartbeats 4000000
theorem bl_irrefl : ∀ x : List UInt8, Op.bytesLess x x = false
 | [] => rfl
 | a :: x => by simp [Op.bytesLess, bl_irrefl x]
theorem bl_trans : ∀ {x y z : List UInt8}, Op.bytesLess x y = true -> Op.bytesLess y z = true -> Op.bytesLess x z = true
 | _, [], _, h, _ => by simp [Op.bytesLess] at h
 | _, _ :: _, [], _, h => by simp [Op.bytesLess] at h
 | [], _ :: _, _ :: _, _, _ => rfl
 | a :: x, b :: y, c :: z, h, h' => by
  simp only [Op.bytesLess, Bool.or_eq_true, decide_eq_true_eq, Bool.and_eq_true, beq_iff_eq, UInt8.lt_iff_toNat_lt] at h h' ⊢
  rcases h with h | ⟨h, h1⟩ <;> rcases h' with h' | ⟨h', h2⟩
  ·left; omega
  ·left; rw [<- h']; exact h
  ·left; rw [h]; exact h'
  ·right; exact ⟨h.trans h', bl_trans h1 h2⟩
theorem bl_total : ∀ {x y : List UInt8}, Op.bytesLess x y = false -> Op.bytesLess y x = false -> x = y
 | [], [], _, _ => rfl
 | [], _ :: _, h, _ => by simp [Op.bytesLess] at h
 | _ :: _, [], _, h => by simp [Op.bytesLess] at h
 | a :: x, b :: y, h, h' => by
  simp only [Op.bytesLess, Bool.or_eq_false_iff, decide_eq_false_iff_not, Bool.and_eq_false_iff, beq_eq_false_iff_ne, UInt8.lt_iff_toNat_lt] at h h'
  have hab : a = b:=UInt8.toNat_inj.1 (by omega)
  subst hab
  have h1 : Op.bytesLess x y = false:=h.2.resolve_left λ h => h rfl
  have h2 : Op.bytesLess y x = false:=h'.2.resolve_left λ h => h rfl
  rw [bl_total h1 h2]
theorem bl_le (x y : List UInt8) : (Op.bytesLess x y || decide (x = y)) = !(Op.bytesLess y x):=by
 cases h1 : Op.bytesLess y x with
 | true =>
  have h2 : Op.bytesLess x y = false:=by
   cases h : Op.bytesLess x y with
   | false => rfl
   | true => rw [<- bl_irrefl x, bl_trans h h1]
  have h3 : ¬ x = y:=λ e => by subst e; rw [bl_irrefl] at h1; cases h1
  rw [h2, decide_eq_false h3]; rfl
 | false =>
  cases h2 : Op.bytesLess x y with
  | true => rfl
  | false => rw [decide_eq_true (bl_total h2 h1)]; rfl
theorem sbGeq (a c : List UInt8) : binV .geq (.string (sb a)) (.string (sb c)) = some (.bool (!(Op.bytesLess a c))):=by
 show strBin .geq (sb a) (sb c) = _
 simp only [strBin, ByteArray.toList_eq]
 rfl
theorem sbLeq (a c : List UInt8) : binV .leq (.string (sb a)) (.string (sb c)) = some (.bool (!(Op.bytesLess c a))):=by
 show strBin .leq (sb a) (sb c) = _
 simp only [strBin, ByteArray.toList_eq]
 show some (Value.bool (Op.bytesLess a c || (a == c))) = _
 rw [<- bl_le]
 by_cases h : a = c <;> simp [h]
def hexL (s : List UInt8) : List UInt8:=(s.map λ c => [hexd (c.toNat / 16), hexd (c.toNat % 16)]).flatten
theorem hexL_len : ∀ s : List UInt8, (hexL s).length = 2 * s.length
 | [] => rfl
 | c :: s => by
  have:=hexL_len s
  simp only [hexL, List.map_cons, List.flatten_cons, List.length_append, List.length_cons, List.length_nil] at this ⊢
  omega
theorem hexL_snoc (s : List UInt8) (c : UInt8) : hexL (s ++ [c]) = hexL s ++ [hexd (c.toNat / 16), hexd (c.toNat % 16)]:=by simp [hexL]
section
variable {w w1 w2 : World}
theorem ownB_more {v x : Value} {l s : List UInt8} (h : OwnB w w1 v l) (hx : Sl 1 w1 x (s.map λ b => [by8 b])) {a2 : Nat} (hl : l.length + s.length <= 33554432) {K : Value -> World -> Prop} (q : ∀ r w2, OwnB w w2 r (l ++ s) -> K r w2) :
  Run (appM a2 1 1 #[(Value.int IntKind.u8 0)] v x) w1 λ r w' => K r w':=by
 refine Run_appM (k:=1) h.sl hx (by decide) rfl (by decide) (λ e he => by obtain ⟨b, _, rfl⟩:=List.mem_map.1 he; rfl) (by simp only [List.length_map]; omega) λ r w2 hr f2 hin => q r w2 ?_
 have s2:=f2.size
 have s0:=h.fr.size
 refine ⟨by rw [List.map_append]; exact hr, λ c hc => ?_, h.fr.new f2 λ c hc => (h.fresh c hc).1⟩
 rcases hin c hc with hc | hc
 ·have:=h.fresh c hc; omega
 ·omega
theorem shr8_4 {a : Nat} : shV .shr (.int .u8 (a : Int)) (.int .u64 4) = some (.int .u8 ((a / 16 : Nat) : Int)):=by
 have h : ¬ ((4 : Int) < 0):=by omega
 simp only [shV, h, if_false]
 rw [show (4 : Int).toNat = 4 from rfl, Nat.min_eq_left (by decide), Int.fdiv_eq_ediv_of_nonneg _ (by decide)]
 norm_cast
theorem and8_15 {a : Nat} (ha : a < 256) : intBin .and .u8 (a : Int) 15 = some (.int .u8 ((a % 16 : Nat) : Int)):=by
 have h15 : ((15 : Int)) = ((15 : Nat) : Int):=rfl
 rw [h15]
 simp only [intBin]
 rw [bv_and (n:=IntKind.u8.bits) (show a < 2 ^ 8 from ha) (show 15 < 2 ^ 8 by decide), show (15 : Nat) = 2 ^ 4 - 1 from rfl, Nat.and_two_pow_sub_one_eq_mod, u8W (by omega)]
theorem hex_run {s : List UInt8} (hs : s.length <= 1048576) : Run (F.digest_Hex (.string (sb s))) w λ r w' => r = .string (sb (hexL s)) /\ Fr (λ _ => False) w w':=by
 unfold F.digest_Hex
 have eD : ByteArray.mk #[48, 49, 50, 51, 52, 53, 54, 55, 56, 57, 97, 98, 99, 100, 101, 102] = DIG:=rfl
 have w2' : IntKind.i64.wrap (2 * (s.length : Int)) = ((2 * s.length : Nat) : Int):=by rw [show 2 * (s.length : Int) = ((2 * s.length : Nat) : Int) by omega]; exact i64W (by omega)
 rw [lenS_string, sb_size, Run_bindO_some, binV_int, intBin_mul, w2', Run_bindO_some, Run_bind]
 refine Run_mksM (k:=1) (n:=0) (c:=2 * s.length) rfl (by omega) (by omega) (by omega) λ v w1 hv f1 hn => ?_
 rw [eD, Run_bind]
 refine Run_for s.length (λ i L w' => ∃ v, L = [v, .int .i64 (i : Int)] /\ OwnB w w' v (hexL (s.take i))) ⟨v, rfl, ⟨hv, hn, f1⟩⟩ ?_ ?_
 ·rintro i L w2 hi ⟨v, rfl, hO⟩
  obtain ⟨c, hc⟩ : ∃ c, s[i]? = some c:=⟨_, List.getElem?_eq_getElem hi⟩
  have hil : (i : Int) < s.length:=by omega
  have hct:=c.toNat_lt
  rw [Run_bindO_some, getL_succ, getL_zero, lssT hil, Run_bindO_some, Run_condM_true, Run_drewM]
  have hO2 : OwnB w w2.drew v (hexL (s.take i)):=⟨hO.sl.fr (show Fr (λ _ => False) w2 w2.drew from (Fr.refl _ _).drew) λ _ _ => id, hO.fresh, hO.fr.drew⟩
  generalize w2.drew = w3 at *
  have hix : idxS (.string (sb s)) (.int .i64 (i : Int)) = some (by8 c):=idxSb hc
  rw [hix, Run_bindO_some]
  have b8 : by8 c = .int .u8 ((c.toNat : Nat) : Int):=rfl
  rw [b8, shr8_4, Run_bindO_some, idx_DIG (by omega), Run_bindO_some, Run_bindO_some, binV_int, and8_15 (by omega), Run_bindO_some, idx_DIG (by omega), Run_bindO_some, Run_bind]
  refine Run_bsl (k:=1) (vs:=[by8 (hexd (c.toNat / 16)), by8 (hexd (c.toNat % 16))]) (by rfl) (by intro v hv; simp only [List.mem_cons, List.not_mem_nil, or_false] at hv; rcases hv with rfl | rfl <;> rfl) rfl (by kernel_rfl) λ x w4 hx f4 _ => ?_
  have hO4 : OwnB w w4 v (hexL (s.take i)):=⟨hO2.sl.fr f4 λ _ _ => id, λ c hc => ⟨(hO2.fresh c hc).1, Nat.lt_of_lt_of_le (hO2.fresh c hc).2 f4.size⟩, hO2.fr.trans f4 λ _ _ => id⟩
  have hl:=hexL_len (s.take i)
  have hlt : (s.take i).length <= i:=List.length_take_le i s
  rw [getL_zero, Run_bind]
  refine ownB_more (s:=[hexd (c.toNat / 16), hexd (c.toNat % 16)]) hO4 hx.1 (by simp only [List.length_cons, List.length_nil]; omega) λ r w5 h5 => ?_
  rw [binV_int, intBin_add, wrap_succ' (by omega), Run_bindO_some, Run_ret, take_snocP hc, hexL_snoc]
  exact ⟨r, rfl, h5⟩
 ·rintro L w2 ⟨v, rfl, hO⟩
  have hil : ¬ ((s.length : Nat) : Int) < s.length:=by omega
  rw [List.take_length] at hO
  rw [Run_bindO_some, getL_succ, getL_zero, lssF hil, Run_bindO_some, Run_condM_false, Run_ret]
  simp only [outK_exit, getL_zero]
  rw [show Nat.beq 0 0 = true from rfl, cond_true, Run_bind, Run_rdM]
  refine ⟨_, ownB_text hO.sl.1, ?_⟩
  rw [Run_ret]
  exact ⟨rfl, hO.fr⟩
end
structure Fl where
 nm : List UInt8
 sz : Int
 crc : Int
 md : List UInt8
def Fl.row (f : Fl) : List Value:=[.string (sb f.nm), .int .i64 f.sz, .int .i64 f.crc, .string (sb f.md)]
def Fl.ok (f : Fl) : Bool:=fileP f.nm && decide (0 <= f.sz /\ f.sz <= 1073741824) && decide (0 <= f.crc /\ f.crc <= 4294967295) && decide (f.md.length = 16)
theorem Fl.row_cell (f : Fl) : f.row.toArray.toList.all isCell = true:=by simp [Fl.row]
structure Mf where
 st : List UInt8
 ver : Int
 node : Int
 fs : List Fl
 tot : Int
 who : Int
def mval (m : Mf) (v : Value) : List Value:=[.string (sb m.st), .int .i64 m.ver, .int .i64 m.node, v, .int .i64 m.tot, .int .i64 m.who]
def prs : Option (List UInt8) -> List Fl -> List (Option (List UInt8) × Fl)
 | _, [] => []
 | p, f :: r => (p, f) :: prs (some f.nm) r
def okP (z : Option (List UInt8) × Fl) : Bool:=z.2.ok && (match z.1 with
 | none => true
 | some a => Op.bytesLess a z.2.nm)
def filesOk (fs : List Fl) : Bool:=(prs none fs).all okP
def totF (fs : List Fl) : Nat:=(fs.map λ f => f.sz.toNat).sum
def whoF (fs : List Fl) : Nat:=fs.foldl (λ w f => joinF w f.crc.toNat f.sz.toNat) 0
def headOk (m : Mf) : Bool:=storeP m.st && decide (1 <= m.ver /\ m.ver <= 999999) && decide (0 <= m.node /\ m.node <= 15) && decide (m.fs.length <= 1025) && (decide (0 <= m.tot /\ m.tot <= 9007199254740992) && decide (0 <= m.who /\ m.who <= 4294967295))
def holdsF (m : Mf) : Int:=if (headOk m && filesOk m.fs) = true then (if (totF m.fs : Int) = m.tot /\ (whoF m.fs : Int) = m.who then 0 else 43) else 42
theorem prs_len : ∀ (fs : List Fl) (p : Option (List UInt8)), (prs p fs).length = fs.length
 | [], p => rfl
 | f :: r, p => by show (prs (some f.nm) r).length + 1 = _; rw [prs_len r]; rfl
theorem prs_zero {fs : List Fl} {f : Fl} (p : Option (List UInt8)) (h : fs[0]? = some f) : (prs p fs)[0]? = some (p, f):=by
 cases fs with
 | nil => cases h
 | cons x r => cases h; rfl
theorem prs_succ : ∀ {fs : List Fl} {i : Nat} {f g : Fl} (p : Option (List UInt8)), fs[i]? = some g -> fs[i + 1]? = some f -> (prs p fs)[i + 1]? = some (some g.nm, f)
 | [], i, f, g, p, h, _ => by simp at h
 | x :: r, 0, f, g, p, h, h' => by
  cases h
  exact prs_zero (some _) (by simpa using h')
 | x :: r, i + 1, f, g, p, h, h' => by
  have:=prs_succ (fs:=r) (i:=i) (some x.nm) (by simpa using h) (by simpa using h')
  exact this
theorem Fl.ok_iff {f : Fl} : f.ok = true ↔ fileP f.nm = true /\ (0 <= f.sz /\ f.sz <= 1073741824) /\ (0 <= f.crc /\ f.crc <= 4294967295) /\ f.md.length = 16:=by
 unfold Fl.ok
 simp only [Bool.and_eq_true, decide_eq_true_eq, and_assoc]
theorem filesOk_at {fs : List Fl} (h : filesOk fs = true) : ∀ f ∈ fs, f.ok = true:=by
 have : ∀ (fs : List Fl) (p : Option (List UInt8)), (prs p fs).all okP = true -> ∀ f ∈ fs, f.ok = true:=by
  intro fs
  induction fs with
  | nil => intro _ _ f hf; cases hf
  | cons x r ih =>
   intro p hp f hf
   have hp' : (okP (p, x) && (prs (some x.nm) r).all okP) = true:=hp
   rw [Bool.and_eq_true] at hp'
   rcases List.mem_cons.1 hf with rfl | hf
   ·unfold okP at hp'
    rw [Bool.and_eq_true] at hp'
    exact hp'.1.1
   ·exact ih _ hp'.2 f hf
 exact this fs none h
theorem totF_snoc {fs : List Fl} {i : Nat} {f : Fl} (h : fs[i]? = some f) : totF (fs.take (i + 1)) = totF (fs.take i) + f.sz.toNat:=by
 unfold totF
 rw [take_snocP h]
 simp
theorem whoF_snoc {fs : List Fl} {i : Nat} {f : Fl} (h : fs[i]? = some f) : whoF (fs.take (i + 1)) = joinF (whoF (fs.take i)) f.crc.toNat f.sz.toNat:=by
 unfold whoF
 rw [take_snocP h, List.foldl_append]
 rfl
theorem tot_le : ∀ {fs : List Fl}, (∀ f ∈ fs, f.ok = true) -> totF fs <= fs.length * 1073741824
 | [], _ => by simp [totF]
 | f :: r, h => by
  have h1:=(Fl.ok_iff.1 (h f (by simp))).2.1
  have h2:=tot_le (fs:=r) λ g hg => h g (by simp [hg])
  simp only [totF, List.map_cons, List.sum_cons, List.length_cons] at h2 ⊢
  omega
theorem who_lt {fs : List Fl} (h : ∀ f ∈ fs, f.ok = true) : whoF fs < 4294967296:=by
 have : ∀ (fs : List Fl) (a : Nat), a < 4294967296 -> (∀ f ∈ fs, f.ok = true) -> fs.foldl (λ w f => joinF w f.crc.toNat f.sz.toNat) a < 4294967296:=by
  intro fs
  induction fs with
  | nil => intro a ha _; exact ha
  | cons f r ih =>
   intro a ha hok
   have h1:=(Fl.ok_iff.1 (hok f (by simp))).2.2.1
   exact ih _ (joinF_lt _ ha (by omega)) λ g hg => hok g (by simp [hg])
 exact this fs 0 (by decide) h
structure Mf.Fit (m : Mf) : Prop where
 st : m.st.length <= 4294967296
 fs : ∀ f ∈ m.fs, f.nm.length <= 4294967296 /\ f.md.length <= 4294967296
 n : m.fs.length <= 4294967296
section
variable {w w1 w2 : World}
theorem isSumR {a : Int} : Run (F.paper_isSum (.int .i64 a)) w λ r w' => r = .bool (decide (0 <= a /\ a <= 4294967295)) /\ w' = w:=by
 refine ⟨_, _, isSum_run, ?_, rfl⟩
 congr 1
 exact decide_eq_decide.2 (by omega)
theorem filesOk_bad {fs : List Fl} {i : Nat} {z : Option (List UInt8) × Fl} (h : (prs none fs)[i]? = some z) (hz : okP z = false) : filesOk fs = false:=by
 unfold filesOk
 rw [List.all_eq_false]
 exact ⟨z, List.mem_of_getElem? h, by rw [hz]; simp⟩
theorem filesOk_good {fs : List Fl} (h : ∀ j z, j < fs.length -> (prs none fs)[j]? = some z -> okP z = true) : filesOk fs = true:=by
 unfold filesOk
 rw [List.all_eq_true]
 intro z hz
 obtain ⟨j, hj⟩:=List.getElem?_of_mem hz
 exact h j z (by have:=(List.getElem?_eq_some_iff.1 hj).1; rwa [prs_len] at this) hj
theorem holds_run {m : Mf} {v : Value} (hv : Sl 4 w v (m.fs.map Fl.row)) (hm : m.Fit) : Run (F.paper_holds (.agg (mval m v).toArray)) w λ r w' => r = .int .i64 (holdsF m) /\ Fr (λ _ => False) w w':=by
 unfold F.paper_holds
 have nv : ∀ b, notV (.bool b) = some (.bool !b):=λ _ => rfl
 have bad : headOk m = false -> holdsF m = 42:=λ h => by
  unfold holdsF
  rw [h, Bool.false_and, if_neg (by simp)]
 have hvl:=hv.lenL
 rw [List.length_map] at hvl
 rw [Run_bind]
 refine Run_new λ x w1 hx hxw f1 hxle => ?_
 replace hx : bk w1 x = some (mval m v):=hx
 have lx:=bk_lt hx
 have c0 : ∀ {u : World}, bk u x = some (mval m v) -> ld1 (.pointer (some ⟨x, 0 + 0, none⟩)) u = some (.string (sb m.st)):=λ h => by rw [ld1_ptr, h]; rfl
 have c1 : ∀ {u : World}, bk u x = some (mval m v) -> ld1 (.pointer (some ⟨x, 0 + 1, none⟩)) u = some (.int .i64 m.ver):=λ h => by rw [ld1_ptr, h]; rfl
 have c2 : ∀ {u : World}, bk u x = some (mval m v) -> ld1 (.pointer (some ⟨x, 0 + 2, none⟩)) u = some (.int .i64 m.node):=λ h => by rw [ld1_ptr, h]; rfl
 have c3 : ∀ {u : World}, bk u x = some (mval m v) -> ld1 (.pointer (some ⟨x, 0 + 3, none⟩)) u = some v:=λ h => by rw [ld1_ptr, h]; rfl
 have c4 : ∀ {u : World}, bk u x = some (mval m v) -> ld1 (.pointer (some ⟨x, 0 + 4, none⟩)) u = some (.int .i64 m.tot):=λ h => by rw [ld1_ptr, h]; rfl
 have c5 : ∀ {u : World}, bk u x = some (mval m v) -> ld1 (.pointer (some ⟨x, 0 + 5, none⟩)) u = some (.int .i64 m.who):=λ h => by rw [ld1_ptr, h]; rfl
 simp only [fieldA_ptr, Run_bindO_some]
 rw [Run_bind, Run_rdM]
 refine ⟨_, c0 hx, ?_⟩
 rw [Run_bind]
 refine (storeOK_run m.st (by have:=hm.st; omega)).mono ?_
 rintro _ w2 ⟨rfl, f2⟩
 have hx2:=f2.bk_some hx id
 have f12:=f1.trans f2 λ _ _ => id
 rw [nv, Run_bindO_some]
 cases hs : storeP m.st with
 | false =>
  simp only [Bool.not_false, Run_bind, Run_guardM_tf, pickV_bool, cond_true, Run_bindO_some, Run_condM_true, Run_ret]
  exact ⟨by rw [bad (by unfold headOk; rw [hs]; rfl)], f12⟩
 | true =>
 simp only [Bool.not_true, Run_bind, Run_guardM_ff, Run_ret, Run_optM_some, Run_rdM]
 refine ⟨_, c1 hx2, ?_⟩
 by_cases v1 : m.ver < 1
 ·have hb : headOk m = false:=by unfold headOk; rw [decide_eq_false (p:=1 <= m.ver /\ m.ver <= 999999) (by omega)]; simp
  simp only [binV_int, intBin_lss, v1, decide_true, Run_optM_some, Run_bind, Run_guardM_tf, pickV_bool, cond_false, cond_true, Run_bindO_some, Run_condM_true, Run_ret]
  exact ⟨by rw [bad hb], f12⟩
 simp only [binV_int, intBin_lss, v1, decide_false, Run_optM_some, Run_bind, Run_guardM_ff, Run_ret, pickV_bool, cond_false, Run_bindO_some, Run_rdM]
 refine ⟨_, c1 hx2, ?_⟩
 by_cases v2 : m.ver > 999999
 ·have hb : headOk m = false:=by unfold headOk; rw [decide_eq_false (p:=1 <= m.ver /\ m.ver <= 999999) (by omega)]; simp
  simp only [binV_int, intBin_gtr, v2, decide_true, Run_optM_some, Run_bind, Run_guardM_tf, pickV_bool, cond_false, cond_true, Run_bindO_some, Run_condM_true, Run_ret]
  exact ⟨by rw [bad hb], f12⟩
 simp only [binV_int, intBin_gtr, v2, decide_false, Run_optM_some, Run_bind, Run_guardM_ff, Run_ret, pickV_bool, cond_false, Run_bindO_some, Run_rdM]
 refine ⟨_, c2 hx2, ?_⟩
 by_cases n1 : m.node < 0
 ·have hb : headOk m = false:=by unfold headOk; rw [decide_eq_false (p:=0 <= m.node /\ m.node <= 15) (by omega)]; simp
  simp only [binV_int, intBin_lss, n1, decide_true, Run_optM_some, Run_bind, Run_guardM_tf, pickV_bool, cond_false, cond_true, Run_bindO_some, Run_condM_true, Run_ret]
  exact ⟨by rw [bad hb], f12⟩
 simp only [binV_int, intBin_lss, n1, decide_false, Run_optM_some, Run_bind, Run_guardM_ff, Run_ret, pickV_bool, cond_false, Run_bindO_some, Run_rdM]
 refine ⟨_, c2 hx2, ?_⟩
 by_cases n2 : m.node >= 16
 ·have hb : headOk m = false:=by unfold headOk; rw [decide_eq_false (p:=0 <= m.node /\ m.node <= 15) (by omega)]; simp
  simp only [binV_int, intBin_geq, n2, decide_true, Run_optM_some, Run_bind, Run_guardM_tf, pickV_bool, cond_false, cond_true, Run_bindO_some, Run_condM_true, Run_ret]
  exact ⟨by rw [bad hb], f12⟩
 simp only [binV_int, intBin_geq, n2, decide_false, Run_optM_some, Run_bind, Run_guardM_ff, Run_ret, pickV_bool, cond_false, Run_bindO_some, Run_rdM]
 refine ⟨_, c3 hx2, ?_⟩
 by_cases l1 : m.fs.length <= 1025
 case neg =>
  have l2 : ((m.fs.length : Nat) : Int) > 1025:=by omega
  have hb : headOk m = false:=by unfold headOk; rw [decide_eq_false l1]; simp
  simp only [hvl, Run_optM_some, binV_int, intBin_gtr, l2, decide_true, Run_bind, pickV_bool, cond_false, Run_bindO_some, Run_condM_true, Run_ret]
  exact ⟨by rw [bad hb], f12⟩
 have l2 : ¬ ((m.fs.length : Nat) : Int) > 1025:=by omega
 simp only [hvl, Run_optM_some, binV_int, intBin_gtr, l2, decide_false, Run_bind, pickV_bool, cond_false, Run_bindO_some, Run_condM_false, Run_rdM]
 refine ⟨_, c4 hx2, ?_⟩
 by_cases t1 : m.tot < 0
 ·have hb : headOk m = false:=by unfold headOk; rw [decide_eq_false (p:=0 <= m.tot /\ m.tot <= 9007199254740992) (by omega)]; simp
  simp only [binV_int, intBin_lss, t1, decide_true, Run_optM_some, Run_bind, Run_guardM_tf, pickV_bool, cond_false, cond_true, Run_bindO_some, Run_condM_true, Run_ret]
  exact ⟨by rw [bad hb], f12⟩
 simp only [binV_int, intBin_lss, t1, decide_false, Run_optM_some, Run_bind, Run_guardM_ff, Run_ret, pickV_bool, cond_false, Run_bindO_some, Run_rdM]
 refine ⟨_, c4 hx2, ?_⟩
 by_cases t2 : m.tot > 9007199254740992
 ·have hb : headOk m = false:=by unfold headOk; rw [decide_eq_false (p:=0 <= m.tot /\ m.tot <= 9007199254740992) (by omega)]; simp
  simp only [binV_int, intBin_gtr, t2, decide_true, Run_optM_some, Run_bind, Run_guardM_tf, pickV_bool, cond_false, cond_true, Run_bindO_some, Run_condM_true, Run_ret]
  exact ⟨by rw [bad hb], f12⟩
 simp only [binV_int, intBin_gtr, t2, decide_false, Run_optM_some, Run_bind, Run_guardM_ff, Run_ret, pickV_bool, cond_false, Run_bindO_some, Run_rdM]
 refine ⟨_, c5 hx2, ?_⟩
 refine isSumR.mono ?_
 rintro _ w2 ⟨rfl, rfl⟩
 rw [nv, Run_optM_some]
 by_cases o1 : 0 <= m.who /\ m.who <= 4294967295
 case neg =>
  have hb : headOk m = false:=by unfold headOk; rw [decide_eq_false o1]; simp
  rw [decide_eq_false o1]
  simp only [Bool.not_false, pickV_bool, cond_false, Run_bindO_some, Run_condM_true, Run_ret]
  exact ⟨by rw [bad hb], f12⟩
 rw [decide_eq_true o1]
 have hh : headOk m = true:=by
  unfold headOk
  rw [hs, decide_eq_true (p:=1 <= m.ver /\ m.ver <= 999999) (by omega), decide_eq_true (p:=0 <= m.node /\ m.node <= 15) (by omega), decide_eq_true l1, decide_eq_true (p:=0 <= m.tot /\ m.tot <= 9007199254740992) (by omega), decide_eq_true o1]
  rfl
 have hF : holdsF m = if filesOk m.fs = true then (if (totF m.fs : Int) = m.tot /\ (whoF m.fs : Int) = m.who then 0 else 43) else 42:=by
  unfold holdsF
  rw [hh, Bool.true_and]
 simp only [Bool.not_true, pickV_bool, cond_false, Run_bindO_some, Run_condM_false, Run_bind, Run_rdM]
 refine ⟨_, c3 hx2, ?_⟩
 simp only [hvl, Run_bindO_some, Run_bind]
 have hv2:=hv.fr0 f12
 refine Run_loopM (λ L w' => (∃ i : Nat, L = [.int .i64 ((totF (m.fs.take i) : Nat) : Int), .int .i64 ((whoF (m.fs.take i) : Nat) : Int), .int .i64 (i : Int)] /\ i <= m.fs.length /\ ∀ j z, j < i -> (prs none m.fs)[j]? = some z -> okP z = true) /\ Fr (λ _ => False) w2 w') (λ L _ => m.fs.length - (match getL L 2 with | .int _ z => z.toNat | _ => 0)) ?_ ⟨⟨0, rfl, Nat.zero_le _, λ j z h => absurd h (Nat.not_lt_zero j)⟩, Fr.refl _ _⟩
 rintro L w3 ⟨⟨i, rfl, hi, hgood⟩, f3⟩
 have hx3:=f3.bk_some hx2 id
 have hgf : ∀ f ∈ m.fs.take i, f.ok = true:=λ f hf => by
  obtain ⟨j, hj⟩:=List.getElem?_of_mem hf
  have hji : j < i:=by have:=(List.getElem?_eq_some_iff.1 hj).1; rw [List.length_take] at this; omega
  rw [List.getElem?_take_of_lt hji] at hj
  have hz : ∃ p, (prs none m.fs)[j]? = some (p, f):=by
   cases j with
   | zero => exact ⟨_, prs_zero none hj⟩
   | succ j =>
    obtain ⟨g, hg⟩ : ∃ g, m.fs[j]? = some g:=⟨_, List.getElem?_eq_getElem (by omega)⟩
    exact ⟨_, prs_succ none hg hj⟩
  obtain ⟨p, hp⟩:=hz
  have:=hgood j _ hji hp
  unfold okP at this
  rw [Bool.and_eq_true] at this
  exact this.1
 have htl:=tot_le hgf
 have hwl:=who_lt hgf
 have hlt : (m.fs.take i).length <= i:=List.length_take_le i m.fs
 simp only [getL_succ, getL_zero, binV_int, intBin_lss]
 by_cases hil : i < m.fs.length
 case neg =>
  have hil' : ¬ (i : Int) < m.fs.length:=by omega
  have hin : i = m.fs.length:=by omega
  have hok : filesOk m.fs = true:=filesOk_good λ j z hj hz => hgood j z (by omega) hz
  rw [decide_eq_false hil', Run_bindO_some, Run_condM_false, Run_ret, hin, List.take_length]
  simp only [outK_exit, getL_succ, getL_zero]
  rw [hF, if_pos hok, show Nat.beq 0 0 = true from rfl, cond_true]
  simp only [Run_bindO_some, Run_bind, Run_rdM]
  refine ⟨_, c4 hx3, ?_⟩
  by_cases e1 : (totF m.fs : Int) = m.tot
  ·simp only [binV_int, intBin_neq, e1, decide_true, Bool.not_true, Run_bindO_some, Run_bind, Run_guardM_ff, Run_ret, Run_optM_some, Run_rdM]
   refine ⟨_, c5 hx3, ?_⟩
   by_cases e2 : (whoF m.fs : Int) = m.who
   ·simp only [binV_int, intBin_neq, e2, decide_true, Bool.not_true, Run_optM_some, pickV_bool, cond_false, Run_bindO_some, Run_condM_false, Run_ret]
    exact ⟨rfl, f12.trans f3 λ _ _ => id⟩
   ·simp only [binV_int, intBin_neq, e2, decide_false, Bool.not_false, Run_optM_some, pickV_bool, cond_false, Run_bindO_some, Run_condM_true, Run_ret]
    exact ⟨rfl, f12.trans f3 λ _ _ => id⟩
  ·simp only [binV_int, intBin_neq, e1, decide_false, Bool.not_false, Run_bindO_some, Run_bind, Run_guardM_tf, pickV_bool, cond_true, Run_condM_true, Run_ret]
   exact ⟨rfl, f12.trans f3 λ _ _ => id⟩
 have hil' : (i : Int) < m.fs.length:=by omega
 obtain ⟨f, hf⟩ : ∃ f, m.fs[i]? = some f:=⟨_, List.getElem?_eq_getElem hil⟩
 have hfm:=List.mem_of_getElem? hf
 obtain ⟨q, q1, q2⟩:=(hv2.fr0 f3).rdA (by decide) (i:=i) (e:=f.row) (by simp [hf]) .i64
 have q1' : idxA 4 v (.int .i64 (i : Int)) = some q:=q1
 obtain ⟨pv, hpz, hpv⟩ : ∃ pv, (prs none m.fs)[i]? = some (pv, f) /\ ((i = 0 /\ pv = none) ∨ ∃ g, 0 < i /\ m.fs[i - 1]? = some g /\ pv = some g.nm):=by
  cases i with
  | zero => exact ⟨_, prs_zero none hf, .inl ⟨rfl, rfl⟩⟩
  | succ j =>
   obtain ⟨g, hg⟩ : ∃ g, m.fs[j]? = some g:=⟨_, List.getElem?_eq_getElem (by omega)⟩
   exact ⟨_, prs_succ none hg hf, .inr ⟨g, by omega, by simpa using hg, rfl⟩⟩
 have hbadF : okP (pv, f) = false -> holdsF m = 42:=λ h => by
  rw [hF, filesOk_bad hpz h, if_neg (by simp)]
 have hfok : f.ok = false -> okP (pv, f) = false:=λ h => by unfold okP; rw [h, Bool.false_and]
 rw [decide_eq_true hil', Run_bindO_some, Run_condM_true, q1', Run_bindO_some]
 simp only [Run_bind, Run_rdM]
 refine ⟨_, q2, ?_⟩
 refine Run_new λ y w4 hy hyw f4 hyle => ?_
 rw [Run_stA (n:=4) ⟨⟨⟨_, hy, by simp⟩, hyw⟩, rfl, f.row_cell⟩]
 have hyb:=bk_sto_same (o:=0) hy f.row
 have ey : setL #[Value.string ByteArray.empty, Value.int IntKind.i64 0, Value.int IntKind.i64 0, Value.string ByteArray.empty].toList 0 f.row = f.row:=rfl
 rw [ey] at hyb
 rw [show f.row.toArray.toList = f.row from rfl]
 have f45 : Fr (λ _ => False) w3 (sto w4 y 0 f.row):=f4.sto (.inr hyle) _ _
 generalize sto w4 y 0 f.row = w5 at *
 have f25:=f3.trans f45 λ _ _ => id
 have d0 : ∀ {u : World}, Fr (λ _ => False) w5 u -> ld1 (.pointer (some ⟨y, 0 + 0, none⟩)) u = some (.string (sb f.nm)):=λ h => by rw [ld1_ptr, h.bk_some hyb id]; rfl
 have d1 : ∀ {u : World}, Fr (λ _ => False) w5 u -> ld1 (.pointer (some ⟨y, 0 + 1, none⟩)) u = some (.int .i64 f.sz):=λ h => by rw [ld1_ptr, h.bk_some hyb id]; rfl
 have d2 : ∀ {u : World}, Fr (λ _ => False) w5 u -> ld1 (.pointer (some ⟨y, 0 + 2, none⟩)) u = some (.int .i64 f.crc):=λ h => by rw [ld1_ptr, h.bk_some hyb id]; rfl
 have d3 : ∀ {u : World}, Fr (λ _ => False) w5 u -> ld1 (.pointer (some ⟨y, 0 + 3, none⟩)) u = some (.string (sb f.md)):=λ h => by rw [ld1_ptr, h.bk_some hyb id]; rfl
 simp only [fieldA_ptr, Run_bindO_some, Run_bind, Run_rdM]
 refine ⟨_, d0 (Fr.refl _ _), ?_⟩
 refine (fileOK_run f.nm (by have:=(hm.fs f hfm).1; omega)).mono ?_
 rintro _ w6 ⟨rfl, f6⟩
 have f26:=f25.trans f6 λ _ _ => id
 have fw6:=f12.trans f26 λ _ _ => id
 rw [nv, Run_bindO_some]
 cases hfp : fileP f.nm with
 | false =>
  have hb:=hbadF (hfok (by unfold Fl.ok; rw [hfp]; rfl))
  simp only [Bool.not_false, Run_bind, Run_guardM_tf, pickV_bool, cond_true, Run_bindO_some, Run_condM_true, Run_ret, outK_ret]
  exact ⟨by rw [hb], fw6⟩
 | true =>
 simp only [Bool.not_true, Run_bind, Run_guardM_ff, Run_ret, Run_optM_some, Run_rdM]
 refine ⟨_, d1 f6, ?_⟩
 by_cases s1 : f.sz < 0
 ·have hb:=hbadF (hfok (by unfold Fl.ok; rw [decide_eq_false (p:=0 <= f.sz /\ f.sz <= 1073741824) (by omega)]; simp))
  simp only [binV_int, intBin_lss, s1, decide_true, Run_optM_some, Run_bind, Run_guardM_tf, pickV_bool, cond_false, cond_true, Run_bindO_some, Run_condM_true, Run_ret, outK_ret]
  exact ⟨by rw [hb], fw6⟩
 simp only [binV_int, intBin_lss, s1, decide_false, Run_optM_some, Run_bind, Run_guardM_ff, Run_ret, pickV_bool, cond_false, Run_bindO_some, Run_rdM]
 refine ⟨_, d1 f6, ?_⟩
 by_cases s2 : f.sz > 1073741824
 ·have hb:=hbadF (hfok (by unfold Fl.ok; rw [decide_eq_false (p:=0 <= f.sz /\ f.sz <= 1073741824) (by omega)]; simp))
  simp only [binV_int, intBin_gtr, s2, decide_true, Run_optM_some, Run_bind, Run_guardM_tf, pickV_bool, cond_false, cond_true, Run_bindO_some, Run_condM_true, Run_ret, outK_ret]
  exact ⟨by rw [hb], fw6⟩
 simp only [binV_int, intBin_gtr, s2, decide_false, Run_optM_some, Run_bind, Run_guardM_ff, Run_ret, pickV_bool, cond_false, Run_bindO_some, Run_rdM]
 refine ⟨_, d2 f6, ?_⟩
 refine isSumR.mono ?_
 rintro _ w6 ⟨rfl, rfl⟩
 rw [nv, Run_optM_some]
 by_cases k1 : 0 <= f.crc /\ f.crc <= 4294967295
 case neg =>
  have hb:=hbadF (hfok (by unfold Fl.ok; rw [decide_eq_false k1]; simp))
  rw [decide_eq_false k1]
  simp only [Bool.not_false, Run_bind, Run_guardM_tf, pickV_bool, cond_false, cond_true, Run_bindO_some, Run_condM_true, Run_ret, outK_ret]
  exact ⟨by rw [hb], fw6⟩
 rw [decide_eq_true k1]
 simp only [Bool.not_true, pickV_bool, cond_false, Run_bindO_some, Run_bind, Run_guardM_ff, Run_ret, Run_optM_some, Run_rdM]
 refine ⟨_, d3 f6, ?_⟩
 by_cases m1 : f.md.length = 16
 case neg =>
  have m1' : ¬ ((f.md.length : Nat) : Int) = 16:=by omega
  have hb:=hbadF (hfok (by unfold Fl.ok; rw [decide_eq_false m1]; simp))
  simp only [lenS_string, sb_size, Run_optM_some, binV_int, intBin_neq, m1', decide_false, Bool.not_false, pickV_bool, cond_false, Run_bindO_some, Run_condM_true, Run_ret, outK_ret]
  exact ⟨by rw [hb], fw6⟩
 have m1' : ((f.md.length : Nat) : Int) = 16:=by omega
 have hfo : f.ok = true:=Fl.ok_iff.2 ⟨hfp, by omega, k1, m1⟩
 simp only [lenS_string, sb_size, Run_optM_some, binV_int, intBin_neq, m1', decide_true, Bool.not_true, pickV_bool, cond_false, Run_bindO_some, Run_condM_false, Run_drewM]
 have f6d : Fr (λ _ => False) w5 w6.drew:=f6.drew
 have f26d : Fr (λ _ => False) w2 w6.drew:=f26.drew
 have fw6d:=f12.trans f26d λ _ _ => id
 have hx7:=f26d.bk_some hx2 id
 have hv7:=hv2.fr0 f26d
 generalize w6.drew = w7 at *
 have cont : okP (pv, f) = true -> ∀ {K : Out -> World -> Prop}, (∀ w', Fr (λ _ => False) w2 w' -> K (.norm [.int .i64 ((totF (m.fs.take (i + 1)) : Nat) : Int), .int .i64 ((whoF (m.fs.take (i + 1)) : Nat) : Int), .int .i64 ((i + 1 : Nat) : Int)]) w') -> Run (M.bind (rdM (ld1 (.pointer (some ⟨y, 0 + 1, none⟩)))) λ x83 =>
       bindO (binV BinOp.add (.int .i64 ((totF (m.fs.take i) : Nat) : Int)) x83) λ x84 =>
       M.bind (rdM (ld1 (.pointer (some ⟨y, 0 + 2, none⟩)))) λ x86 =>
       M.bind (rdM (ld1 (.pointer (some ⟨y, 0 + 1, none⟩)))) λ x88 =>
       M.bind (F.digest_CRCJoin (.int .i64 ((whoF (m.fs.take i) : Nat) : Int)) x86 x88) λ x89 =>
       bindO (extV 0 x89) λ x90 =>
       bindO (extV 1 x89) λ _ =>
       bindO (binV BinOp.add (.int .i64 (i : Int)) (Value.int IntKind.i64 1)) λ x92 =>
       M.ret (Out.norm [x84, x90, x92])) w7 K:=λ hok {K} hK => by
  obtain ⟨z, hz⟩ : ∃ z : Nat, f.sz = z:=⟨f.sz.toNat, by omega⟩
  obtain ⟨c, hc⟩ : ∃ c : Nat, f.crc = c:=⟨f.crc.toNat, by omega⟩
  have e1:=totF_snoc hf
  have e2:=whoF_snoc hf
  rw [hz, Int.toNat_natCast] at e1 e2
  rw [hc, Int.toNat_natCast] at e2
  have wa : IntKind.i64.wrap (((totF (m.fs.take i) : Nat) : Int) + (z : Int)) = ((totF (m.fs.take (i + 1)) : Nat) : Int):=by
   rw [show ((totF (m.fs.take i) : Nat) : Int) + (z : Int) = ((totF (m.fs.take i) + z : Nat) : Int) by omega, <- e1]
   exact i64W (by omega)
  rw [Run_bind, Run_rdM]
  refine ⟨_, d1 f6d, ?_⟩
  rw [hz, binV_int, intBin_add, wa, Run_bindO_some, Run_bind, Run_rdM]
  refine ⟨_, d2 f6d, ?_⟩
  rw [Run_bind, Run_rdM]
  refine ⟨_, d1 f6d, ?_⟩
  rw [hz, hc, Run_bind]
  refine (crcjoin_run hwl (by omega) (by omega)).mono ?_
  rintro _ w8 ⟨rfl, rfl⟩
  rw [<- e2]
  rw [show extV 0 (.tuple #[.int .i64 ((whoF (m.fs.take (i + 1)) : Nat) : Int), .int .i64 0]) = some (.int .i64 ((whoF (m.fs.take (i + 1)) : Nat) : Int)) from rfl, show extV 1 (.tuple #[.int .i64 ((whoF (m.fs.take (i + 1)) : Nat) : Int), .int .i64 0]) = some (.int .i64 0) from rfl, Run_bindO_some, Run_bindO_some, binV_int, intBin_add, wrap_succ' (by omega), Run_bindO_some, Run_ret]
  exact hK _ f26d
 have fin : okP (pv, f) = true -> ∀ w', Fr (λ _ => False) w2 w' -> (∃ i' : Nat, [Value.int .i64 ((totF (m.fs.take (i + 1)) : Nat) : Int), .int .i64 ((whoF (m.fs.take (i + 1)) : Nat) : Int), .int .i64 ((i + 1 : Nat) : Int)] = [.int .i64 ((totF (m.fs.take i') : Nat) : Int), .int .i64 ((whoF (m.fs.take i') : Nat) : Int), .int .i64 (i' : Int)] /\ i' <= m.fs.length /\ ∀ j z, j < i' -> (prs none m.fs)[j]? = some z -> okP z = true) /\ Fr (λ _ => False) w2 w':=λ hok w' f' => by
  refine ⟨⟨i + 1, rfl, by omega, λ j z hj hz => ?_⟩, f'⟩
  rcases Nat.lt_or_ge j i with h | h
  ·exact hgood j z h hz
  ·have : j = i:=by omega
   subst this
   rw [hpz] at hz
   cases hz
   exact hok
 have meas : m.fs.length - (((i + 1 : Nat) : Int)).toNat < m.fs.length - ((i : Nat) : Int).toNat:=by omega
 rcases hpv with ⟨i0, rfl⟩ | ⟨g, hg0, hg, rfl⟩
 ·have hg : ¬ (i : Int) > 0:=by omega
  have hok : okP (none, f) = true:=by unfold okP; rw [hfo]; rfl
  simp only [binV_int, intBin_gtr, hg, decide_false, Run_bindO_some, Run_bind, Run_guardM_ft, pickV_bool, cond_false, Run_condM_false]
  exact Run_bind.1 (cont hok λ w' f' => ⟨fin hok w' f', meas⟩)
 ·have hg' : (i : Int) > 0:=by omega
  have wi : IntKind.i64.wrap ((i : Int) - 1) = ((i - 1 : Nat) : Int):=by rw [show (i : Int) - 1 = ((i - 1 : Nat) : Int) by omega]; exact i64W (by omega)
  obtain ⟨q', q3, q4⟩:=hv7.rdF (i:=i - 1) (e:=g.row) (by rw [List.getElem?_map, hg]; rfl) .i64
  obtain ⟨q5, q6, q7⟩:=q4 0 (by decide)
  have q3' : idxA 4 v (.int .i64 ((i - 1 : Nat) : Int)) = some q':=q3
  have q7' : ld1 q5 w7 = some (.string (sb g.nm)):=q7
  simp only [binV_int, intBin_gtr, hg', decide_true, Run_bindO_some, Run_bind, Run_guardM_tt, Run_ret, Run_optM_some, fieldA_ptr, Run_rdM]
  refine ⟨_, c3 hx7, ?_⟩
  simp only [binV_int, intBin_sub, wi, Run_optM_some, q3', q6, Run_rdM]
  refine ⟨_, q7', _, d0 f6d, ?_⟩
  rw [sbGeq, Run_optM_some]
  simp only [pickV_bool, cond_true, Run_bindO_some]
  cases hless : Op.bytesLess g.nm f.nm with
  | false =>
   have hb:=hbadF (show okP (some g.nm, f) = false by unfold okP; rw [hfo]; exact hless)
   simp only [Bool.not_false, Run_condM_true, Run_ret, outK_ret]
   exact ⟨by rw [hb], fw6d⟩
  | true =>
   have hok : okP (some g.nm, f) = true:=by unfold okP; rw [hfo]; exact hless
   simp only [Bool.not_true, Run_condM_false]
   exact cont hok λ w' f' => ⟨fin hok w' f', meas⟩
end
end Go.Proofs.YthlpfhjcdedhgaaGreatDoor
