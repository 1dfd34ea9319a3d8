/-
  Layer 4 (paper): part L: digits of a sum that are read.
-/
import Derived.Test.YthlpfhjcdedhgaaDoorPapK
namespace Go.Proofs.YthlpfhjcdedhgaaDoor
open Go.Lift Go.Sort
set_option linter.unusedSimpArgs false
set_option linter.unusedVariables false
set_option maxHeartbeats 4000000
/-- What a digit of sums is worth. -/
def hvN (m : Nat) : Option Nat := if 48 ≤ m ∧ m ≤ 57 then some (m - 48) else if 97 ≤ m ∧ m ≤ 102 then some (m - 87) else none
theorem hvN_lt {m k : Nat} (h : hvN m = some k) : k < 16 := by
  unfold hvN at h
  split at h
  · cases h; omega
  · split at h
    · cases h; omega
    · cases h
def hvV (m : Nat) : Int := match hvN m with
  | some k => k
  | none => -1
/-- The byte that the pair i of digits writes. -/
def pairV (l : List UInt8) (i : Nat) : Option UInt8 := match l[2 * i]?, l[2 * i + 1]? with
  | some a, some b => match hvN a.toNat, hvN b.toNat with
    | some x, some y => some (UInt8.ofNat (16 * x + y))
    | _, _ => none
  | _, _ => none
/-- The bytes of the first n pairs. -/
def pairsF (l : List UInt8) : Nat → Option (List UInt8)
  | 0 => some []
  | n + 1 => match pairsF l n, pairV l n with
    | some r, some c => some (r ++ [c])
    | _, _ => none
theorem pairsF_len {l : List UInt8} : ∀ {n : Nat} {r : List UInt8}, pairsF l n = some r → r.length = n
  | 0, r, h => by cases h; rfl
  | n + 1, r, h => by
    unfold pairsF at h
    split at h
    · rename_i r' c h1 h2
      cases h
      rw [List.length_append, pairsF_len h1]; rfl
    · cases h
theorem pairsF_bad {l : List UInt8} {J : Nat} (hJ : pairV l J = none) : ∀ {n : Nat}, J < n → pairsF l n = none
  | 0, h => absurd h (by omega)
  | n + 1, h => by
    unfold pairsF
    by_cases hn : J = n
    · subst hn; rw [hJ]; split <;> simp_all
    · rw [pairsF_bad hJ (n := n) (by omega)]
/-- How far the pairs are good. -/
theorem pairs_far (l : List UInt8) : ∀ n : Nat, ∃ J, J ≤ n ∧ (∀ i, i ≤ J → ∃ r, pairsF l i = some r) ∧ (J = n ∨ pairV l J = none)
  | 0 => ⟨0, Nat.le_refl _, fun i hi => ⟨[], by obtain rfl : i = 0 := by omega
                                                rfl⟩, .inl rfl⟩
  | n + 1 => by
    obtain ⟨J, h1, h2, h3⟩ := pairs_far l n
    rcases h3 with rfl | h3
    · cases hp : pairV l J with
      | none => exact ⟨J, by omega, h2, .inr hp⟩
      | some c =>
        refine ⟨J + 1, Nat.le_refl _, fun i hi => ?_, .inl rfl⟩
        rcases Nat.lt_or_ge i (J + 1) with h | h
        · exact h2 i (by omega)
        · obtain rfl : i = J + 1 := by omega
          obtain ⟨r, hr⟩ := h2 J (Nat.le_refl _)
          exact ⟨r ++ [c], by unfold pairsF; rw [hr, hp]⟩
    · exact ⟨J, by omega, h2, .inr h3⟩
section
variable {w w1 w2 : World}
theorem digit_run {c : UInt8} : F.digest_digit (by8 c) w = some (.int .i64 (hvV c.toNat), w) := by
  have : Run (F.digest_digit (by8 c)) w fun r w' => r = .int .i64 (hvV c.toNat) ∧ w' = w := by
    unfold F.digest_digit by8 hvV hvN
    have hlt := c.toNat_lt
    by_cases h1 : 48 ≤ c.toNat
    · by_cases h2 : c.toNat ≤ 57
      · have a1 : (48 : Int) ≤ c.toNat := by omega
        have a2 : (c.toNat : Int) ≤ 57 := by omega
        have e1 : IntKind.u8.wrap ((c.toNat : Int) - 48) = ((c.toNat - 48 : Nat) : Int) := by
          rw [show (c.toNat : Int) - 48 = ((c.toNat - 48 : Nat) : Int) by omega]; exact u8W (by omega)
        have e2 : IntKind.i64.wrap ((c.toNat - 48 : Nat) : Int) = ((c.toNat - 48 : Nat) : Int) := i64W (by omega)
        simp [a1, a2, h1, h2, e1, e2]
      · have a1 : (48 : Int) ≤ c.toNat := by omega
        have a2 : ¬ (c.toNat : Int) ≤ 57 := by omega
        by_cases h3 : 97 ≤ c.toNat
        · have a3 : (97 : Int) ≤ c.toNat := by omega
          by_cases h4 : c.toNat ≤ 102
          · have a4 : (c.toNat : Int) ≤ 102 := by omega
            have e1 : IntKind.u8.wrap ((c.toNat : Int) - 97) = ((c.toNat - 97 : Nat) : Int) := by
              rw [show (c.toNat : Int) - 97 = ((c.toNat - 97 : Nat) : Int) by omega]; exact u8W (by omega)
            have e2 : IntKind.i64.wrap ((c.toNat - 97 : Nat) : Int) = ((c.toNat - 97 : Nat) : Int) := i64W (by omega)
            have e3 : IntKind.i64.wrap (((c.toNat - 97 : Nat) : Int) + 10) = ((c.toNat - 87 : Nat) : Int) := by
              rw [show ((c.toNat - 97 : Nat) : Int) + 10 = ((c.toNat - 87 : Nat) : Int) by omega]; exact i64W (by omega)
            simp [a1, a2, a3, a4, h1, h2, h3, h4, e1, e2, e3]
          · have a4 : ¬ (c.toNat : Int) ≤ 102 := by omega
            simp [a1, a2, a3, a4, h1, h2, h3, h4]
        · have a3 : ¬ (97 : Int) ≤ c.toNat := by omega
          simp [a1, a2, a3, h1, h2, h3]
    · have a1 : ¬ (48 : Int) ≤ c.toNat := by omega
      have h3 : ¬ 97 ≤ c.toNat := by omega
      have a3 : ¬ (97 : Int) ≤ c.toNat := by omega
      simp [a1, a3, h1, h3]
  obtain ⟨r, w', e, rfl, rfl⟩ := this
  exact e
theorem OwnB.put {v : Value} {l : List UInt8} (h : OwnB w w1 v l) {i : Nat} {y : UInt8} (hy : l[i]? = some y) (kd : IntKind) :
    ∃ p, idxA 1 v (.int kd (i : Int)) = some p ∧ ld1 p w1 = some (by8 y) ∧ ∀ (β : Type) (b : UInt8) (K : M β) (Q : β → World → Prop), (∀ w2, OwnB w w2 v (l.set i b) → Fr (inB v) w1 w2 → Run K w2 Q) → Run (M.bind (stM 1 p (by8 b)) fun _ => K) w1 Q := by
  obtain ⟨bl, o, e1, hin, hlt, ok, hp⟩ := h.sl.put (i := i) (e := [by8 y]) (by simp [hy]) kd
  obtain ⟨p, p1, p2⟩ := h.sl.1.rd1 (i := i) (y := by8 y) (by simp [hy]) kd
  have e1' : idxA 1 v (.int kd (i : Int)) = some (.pointer (some ⟨bl, o, none⟩)) := e1
  have p1' : idxA 1 v (.int kd (i : Int)) = some p := p1
  rw [e1'] at p1'
  cases p1'
  refine ⟨_, e1', p2, fun β b K Q q => ?_⟩
  rw [Run_bind, Run_stM (by rfl) (by rfl) ok]
  have hs := (hp 0 [by8 b] (by simp)).2
  have hf : Fr (inB v) w1 (sto w1 bl o [by8 b]) := (Fr.refl _ _).sto (.inl hin) _ _
  refine q _ ⟨?_, fun c hc => ?_, ?_⟩ hf
  · rw [List.map_set]; exact hs
  · exact ⟨(h.fresh c hc).1, Nat.lt_of_lt_of_le (h.fresh c hc).2 hf.size⟩
  · exact h.fr.sto (.inr (h.fresh _ hin).1) _ _
theorem shl4 {m : Nat} (h : m < 16) : shV .shl (.int .u8 (m : Int)) (.int .u64 4) = some (.int .u8 ((16 * m : Nat) : Int)) := by
  have h0 : ¬ ((4 : Int) < 0) := by omega
  simp only [shV, h0, if_false]
  have e : (m : Int) * 2 ^ (min (4 : Int).toNat IntKind.u8.bits) = ((16 * m : Nat) : Int) := by
    have : min (4 : Int).toNat IntKind.u8.bits = 4 := by decide
    rw [this]; omega
  rw [e, u8W (by omega)]
theorem or8 {m d : Nat} (h : m < 16) (hd : d < 16) : intBin .or .u8 ((16 * m : Nat) : Int) (d : Int) = some (.int .u8 ((16 * m + d : Nat) : Int)) := by
  simp only [intBin]
  have e : (BitVec.ofInt IntKind.u8.bits ((16 * m : Nat) : Int) ||| BitVec.ofInt IntKind.u8.bits (d : Int)).toNat = 16 * m + d := by
    rw [BitVec.toNat_or, BitVec.ofInt_natCast, BitVec.ofInt_natCast, BitVec.toNat_ofNat, BitVec.toNat_ofNat]
    show 16 * m % 2 ^ 8 ||| d % 2 ^ 8 = _
    rw [Nat.mod_eq_of_lt (show 16 * m < 2 ^ 8 by omega), Nat.mod_eq_of_lt (show d < 2 ^ 8 by omega)]
    have := Nat.two_pow_add_eq_or_of_lt (i := 4) (b := d) (by omega) m
    rw [show (2 : Nat) ^ 4 = 16 from rfl] at this
    exact this.symm
  rw [e, u8W (by omega)]
theorem Run_digit {c : UInt8} {Q : Value → World → Prop} : Run (F.digest_digit (by8 c)) w Q ↔ Q (.int .i64 (hvV c.toNat)) w := by
  constructor
  · rintro ⟨r, w', e, q⟩
    rw [digit_run] at e
    cases e
    exact q
  · exact fun q => ⟨_, _, digit_run, q⟩
/-- What is read of two digits, k of them done. -/
def accP (x y : Nat) : Nat → Nat
  | 0 => 0
  | 1 => x
  | _ => 16 * x + y
theorem lssT {k : IntKind} {a b : Int} (h : a < b) : binV .lss (.int k a) (.int k b) = some (.bool true) := by simp [h]
theorem lssF {k : IntKind} {a b : Int} (h : ¬ a < b) : binV .lss (.int k a) (.int k b) = some (.bool false) := by simp only [binV_int, intBin_lss, h, decide_false]
theorem take2 {l : List UInt8} {i : Nat} {a b : UInt8} (ha : l[2 * i]? = some a) (hb : l[2 * i + 1]? = some b) : (l.take (2 * i + 2)).drop (2 * i) = [a, b] := by
  apply List.ext_getElem?
  intro k
  rw [List.getElem?_drop, List.getElem?_take]
  match k with
  | 0 => simp [ha]
  | 1 => simp [hb]
  | k + 2 => simp; omega
theorem by8_of {m : Nat} (h : m < 256) : by8 (UInt8.ofNat m) = .int .u8 (m : Int) := by
  unfold by8
  rw [show (UInt8.ofNat m).toNat = m from UInt8.toNat_ofNat_of_lt' h]
theorem hvV_some {m k : Nat} (h : hvN m = some k) : hvV m = (k : Int) := by unfold hvV; rw [h]
theorem hvV_none {m : Nat} (h : hvN m = none) : hvV m = -1 := by unfold hvV; rw [h]
noncomputable def pairB (v x14 : Value) (i : Nat) : List Value → M Out := fun l16 =>
  bindO (binV BinOp.lss (getL l16 0) (.int .i64 2)) fun x17 =>
  condM x17 (
    bindO (idxA 1 x14 (getL l16 0)) fun x18 =>
    M.bind (rdM (ld1 x18)) fun x19 =>
    M.bind (F.digest_digit x19) fun x20 =>
    bindO (binV BinOp.lss x20 (Value.int IntKind.i64 0)) fun x21 =>
    condM x21 (
      M.ret (Out.ret (Value.tuple #[(Value.string (sb [])), (Value.int IntKind.i64 20)]))) (
      bindO (idxA 1 v (.int .i64 (i : Int))) fun x22 =>
      M.bind (rdM (ld1 x22)) fun x23 =>
      bindO (shV BinOp.shl x23 (Value.int IntKind.u64 4)) fun x24 =>
      bindO (cvtI IntKind.u8 x20) fun x25 =>
      bindO (binV BinOp.or x24 x25) fun x26 =>
      bindO (idxA 1 v (.int .i64 (i : Int))) fun x27 =>
      M.bind (stM 1 x27 x26) fun _ =>
      bindO (binV BinOp.add (getL l16 0) (Value.int IntKind.i64 1)) fun x29 =>
      M.ret (Out.norm [x29]))) (
    M.ret (Out.exit 2 [(getL l16 0)]))
theorem pair_bad {v x14 : Value} {i k : Nat} (hk : k < 2) {c : UInt8} {els : List (List Value)} (h14 : Sl 1 w1 x14 els) (hc : els[k]? = some [by8 c]) (hb : hvN c.toNat = none) {Q : Out → World → Prop}
    (q : Q (.ret (.tuple #[.string (sb []), .int .i64 20])) w1) : Run (pairB v x14 i [.int .i64 (k : Int)]) w1 Q := by
  unfold pairB
  obtain ⟨p, p1, p2⟩ := h14.rd1 hc .i64
  have p1' : idxA 1 x14 (.int .i64 (k : Int)) = some p := p1
  have hk' : (k : Int) < 2 := by omega
  simp only [getL_zero, binV_int, intBin_lss, hk', decide_true, Run_bindO_some, Run_condM_true, p1', Run_bind, Run_rdM, p2]
  refine ⟨_, rfl, ?_⟩
  rw [Run_digit, hvV_none hb]
  have hn : (-1 : Int) < 0 := by decide
  simp only [binV_int, intBin_lss, hn, decide_true, Run_bindO_some, Run_condM_true, Run_ret]
  exact q
theorem pair_step {v x14 : Value} {i k m d : Nat} (hk : k < 2) {c : UInt8} {els : List (List Value)} (h14 : Sl 1 w1 x14 els) (hc : els[k]? = some [by8 c]) (hb : hvN c.toNat = some d) {r R : List UInt8} (hi : r.length = i) (hm : m < 16)
    (hO : OwnB w w1 v (r ++ UInt8.ofNat m :: R)) (hd : ∀ c, inB x14 c → ¬ inB v c) {Q : Out → World → Prop}
    (q : ∀ w2, OwnB w w2 v (r ++ UInt8.ofNat (16 * m + d) :: R) → Sl 1 w2 x14 els → Q (.norm [.int .i64 ((k + 1 : Nat) : Int)]) w2) : Run (pairB v x14 i [.int .i64 (k : Int)]) w1 Q := by
  unfold pairB
  obtain ⟨p, p1, p2⟩ := h14.rd1 hc .i64
  have p1' : idxA 1 x14 (.int .i64 (k : Int)) = some p := p1
  have hk' : (k : Int) < 2 := by omega
  have hlt := hvN_lt hb
  simp only [getL_zero, binV_int, intBin_lss, hk', decide_true, Run_bindO_some, Run_condM_true, p1', Run_bind, Run_rdM, p2]
  refine ⟨_, rfl, ?_⟩
  rw [Run_digit, hvV_some hb]
  have hn : ¬ (d : Int) < 0 := by omega
  obtain ⟨p3, e1, e2, e3⟩ := hO.put (i := i) (y := UInt8.ofNat m) (by rw [← hi]; simp) .i64
  have wd : IntKind.u8.wrap (d : Int) = d := u8W (by omega)
  have wk := wrap_succ' (n := k) (by omega)
  simp only [binV_int, intBin_lss, hn, decide_false, Run_bindO_some, Run_condM_false, e1, Run_bind, Run_rdM, e2]
  refine ⟨_, rfl, ?_⟩
  rw [by8_of (by omega), shl4 hm, Run_bindO_some, cvtI_int, wd, Run_bindO_some, binV_int, or8 hm hlt, Run_bindO_some, ← by8_of (by omega), Run_bindO_some]
  refine (e3 _ (UInt8.ofNat (16 * m + d)) _ _ fun w2 h2 f2 => ?_)
  rw [intBin_add, wk, Run_bindO_some, Run_ret]
  refine q w2 ?_ (h14.fr f2 hd)
  have : (r ++ UInt8.ofNat m :: R).set i (UInt8.ofNat (16 * m + d)) = r ++ UInt8.ofNat (16 * m + d) :: R := by
    rw [List.set_append_right _ _ (by omega), hi, Nat.sub_self]; rfl
  rwa [this] at h2
theorem pair_end {v x14 : Value} {i : Nat} {Q : Out → World → Prop} (q : Q (.exit 2 [.int .i64 2]) w1) : Run (pairB v x14 i [.int .i64 ((2 : Nat) : Int)]) w1 Q := by
  unfold pairB
  have h : ¬ ((2 : Nat) : Int) < 2 := by omega
  simp only [getL_zero, binV_int, intBin_lss, h, decide_false, Run_bindO_some, Run_condM_false, Run_ret]
  exact q
theorem pair_loop {v x14 : Value} {r R : List UInt8} {i : Nat} (hi : r.length = i) {a b : UInt8} (hO : OwnB w w1 v (r ++ 0 :: R)) (h14 : Sl 1 w1 x14 [[by8 a], [by8 b]]) (hd : ∀ c, inB x14 c → ¬ inB v c) :
    Run (loopM (pairB v x14 i) [.int .i64 0]) w1 fun o w2 => match hvN a.toNat, hvN b.toNat with
      | some x, some y => o = .exit 2 [.int .i64 2] ∧ OwnB w w2 v (r ++ UInt8.ofNat (16 * x + y) :: R)
      | _, _ => o = .ret (.tuple #[.string (sb []), .int .i64 20]) ∧ Fr (fun _ => False) w w2 := by
  have hO0 : OwnB w w1 v (r ++ UInt8.ofNat 0 :: R) := hO
  cases ha : hvN a.toNat with
  | none =>
    refine Run_for 0 (fun k L w' => L = [.int .i64 (k : Int)] ∧ w' = w1) ⟨rfl, rfl⟩ (fun i l w hi => absurd hi (by omega)) ?_
    rintro L w2 ⟨rfl, hw2⟩
    rw [hw2]
    exact pair_bad (k := 0) (by decide) h14 rfl ha ⟨rfl, hO.fr⟩
  | some x =>
    have hx := hvN_lt ha
    cases hb : hvN b.toNat with
    | none =>
      refine Run_for 1 (fun k L w' => L = [.int .i64 (k : Int)] ∧ OwnB w w' v (r ++ UInt8.ofNat (accP x 0 k) :: R) ∧ Sl 1 w' x14 [[by8 a], [by8 b]]) ⟨rfl, hO0, h14⟩ ?_ ?_
      · rintro k L w2 hk ⟨rfl, h1, h2⟩
        obtain rfl : k = 0 := by omega
        refine pair_step (k := 0) (m := 0) (by decide) h2 rfl ha hi (by decide) h1 hd fun w3 h3 h4 => ⟨rfl, ?_, h4⟩
        simpa [accP] using h3
      · rintro L w2 ⟨rfl, h1, h2⟩
        exact pair_bad (k := 1) (by decide) h2 rfl hb ⟨rfl, h1.fr⟩
    | some y =>
      refine Run_for 2 (fun k L w' => L = [.int .i64 (k : Int)] ∧ OwnB w w' v (r ++ UInt8.ofNat (accP x y k) :: R) ∧ Sl 1 w' x14 [[by8 a], [by8 b]]) ⟨rfl, hO0, h14⟩ ?_ ?_
      · rintro k L w2 hk ⟨rfl, h1, h2⟩
        match k, hk with
        | 0, _ =>
          refine pair_step (k := 0) (m := 0) (by decide) h2 rfl ha hi (by decide) h1 hd fun w3 h3 h4 => ⟨rfl, ?_, h4⟩
          simpa [accP] using h3
        | 1, _ =>
          refine pair_step (k := 1) (m := x) (by decide) h2 rfl hb hi hx h1 hd fun w3 h3 h4 => ⟨rfl, ?_, h4⟩
          exact h3
      · rintro L w2 ⟨rfl, h1, h2⟩
        exact pair_end ⟨rfl, h1⟩
theorem unhex_run {l : List UInt8} {n : Nat} (hl : l.length = 2 * n) (hn : n ≤ 1048576) :
    Run (F.digest_Unhex (.string (sb l))) w fun r w' => r = (match pairsF l n with
      | some b => .tuple #[.string (sb b), .int .i64 0]
      | none => .tuple #[.string (sb []), .int .i64 20]) ∧ Fr (fun _ => False) w w' := by
  unfold F.digest_Unhex
  have e0 : ByteArray.mk #[] = sb [] := rfl
  rw [e0]
  have r2 := rem_nat (a := 2 * n) (b := 2) (k := .i64) (by decide)
  have q2 := quo_nat (a := 2 * n) (b := 2) (k := .i64) (by decide) (by rw [Nat.mul_div_cancel_left _ (by decide)]; exact i64W (by omega))
  rw [Nat.mul_mod_right] at r2
  rw [Nat.mul_div_cancel_left _ (by decide)] at q2
  have hs : lenS (.string (sb l)) = some (.int .i64 ((2 * n : Nat) : Int)) := by rw [lenS_string, sb_size, hl]
  have r2' : intBin .rem .i64 ((2 * n : Nat) : Int) 2 = some (.int .i64 0) := r2
  have q2' : intBin .quo .i64 ((2 * n : Nat) : Int) 2 = some (.int .i64 (n : Int)) := q2
  have h01 : ¬ (0 : Int) = 1 := by decide
  rw [hs]
  simp only [Run_bindO_some, binV_int, r2', q2', intBin_eql, h01, decide_false, Run_condM_false, Run_bind]
  refine Run_mksM (k := 1) rfl (Nat.le_refl n) (by omega) (by omega) fun v w1 hv f1 hfr => ?_
  have hO : OwnB w w1 v (List.replicate n 0) := ⟨by simpa [by8] using hv, hfr, f1⟩
  have hlen := hv.1.lenL
  rw [List.length_replicate] at hlen
  rw [hlen, Run_bindO_some, Run_bind]
  obtain ⟨J, hJn, hgood, hbad⟩ := pairs_far l n
  have head : ∀ (i : Nat), i < n → ∀ (w2 : World) {r : List UInt8}, OwnB w w2 v (r ++ List.replicate (n - i) 0) → ∀ {a b : UInt8}, l[2 * i]? = some a → l[2 * i + 1]? = some b → ∀ {β : Type} {K : Value → M β} {Q : β → World → Prop},
      (∀ x14 w3, OwnB w w3 v (r ++ 0 :: List.replicate (n - (i + 1)) 0) → Sl 1 w3 x14 [[by8 a], [by8 b]] → (∀ c, inB x14 c → ¬ inB v c) → Run (K x14) w3 Q) →
      Run (bindO (binV BinOp.mul (Value.int IntKind.i64 2) (.int .i64 (i : Int))) fun x10 =>
        bindO (binV BinOp.mul (Value.int IntKind.i64 2) (.int .i64 (i : Int))) fun x11 =>
        bindO (binV BinOp.add x11 (Value.int IntKind.i64 2)) fun x12 =>
        bindO (sliceS (.string (sb l)) (some x10) (some x12)) fun x13 =>
        M.bind (sbM 5 x13) K) w2 Q := by
    intro i hi w2 r hI a b ha hb β K Q q
    have m2' : IntKind.i64.wrap (2 * (i : Int)) = ((2 * i : Nat) : Int) := by rw [show 2 * (i : Int) = ((2 * i : Nat) : Int) by omega]; exact i64W (by omega)
    have a2' : IntKind.i64.wrap (((2 * i : Nat) : Int) + 2) = ((2 * i + 2 : Nat) : Int) := by rw [show ((2 * i : Nat) : Int) + 2 = ((2 * i + 2 : Nat) : Int) by omega]; exact i64W (by omega)
    have hsl := slBoth (l := l) (n := 2 * i) (m := 2 * i + 2) (by omega) (by omega)
    rw [take2 ha hb] at hsl
    simp only [binV_int, intBin_mul, m2', Run_bindO_some, intBin_add, a2', hsl, Run_bind]
    refine Run_sbM fun x14 w3 h14 f3 hn => q x14 w3 ?_ h14.1 fun c hc hv => ?_
    · have : List.replicate (n - i) (0 : UInt8) = 0 :: List.replicate (n - (i + 1)) 0 := by rw [show n - i = n - (i + 1) + 1 by omega, List.replicate_succ]
      rw [this] at hI
      exact ⟨hI.sl.fr f3 fun _ _ => id, fun c hc => ⟨(hI.fresh c hc).1, Nat.lt_of_lt_of_le (hI.fresh c hc).2 f3.size⟩, hI.fr.trans f3 fun _ _ => id⟩
    · have h1 := (hn c hc).1
      have h2 := (hI.fresh c hv).2
      omega
  refine Run_for J (fun i L w' => L = [.int .i64 (i : Int)] ∧ ∃ r, pairsF l i = some r ∧ OwnB w w' v (r ++ List.replicate (n - i) 0)) ⟨rfl, [], rfl, by simpa using hO⟩ ?_ ?_
  · rintro i L w2 hi ⟨rfl, r, hr, hI⟩
    obtain ⟨r', hr'⟩ := hgood (i + 1) (by omega)
    have hlr := pairsF_len hr
    unfold pairsF at hr'
    rw [hr] at hr'
    cases hp : pairV l i with
    | none => rw [hp] at hr'; simp at hr'
    | some c =>
      have hp2 := hp
      unfold pairV at hp2
      obtain ⟨a, ha⟩ : ∃ a, l[2 * i]? = some a := ⟨_, List.getElem?_eq_getElem (by omega)⟩
      obtain ⟨b, hb⟩ : ∃ b, l[2 * i + 1]? = some b := ⟨_, List.getElem?_eq_getElem (by omega)⟩
      rw [ha, hb] at hp2
      simp only at hp2
      cases hx : hvN a.toNat with
      | none => rw [hx] at hp2; simp at hp2
      | some x =>
        cases hy : hvN b.toNat with
        | none => rw [hx, hy] at hp2; simp at hp2
        | some y =>
          rw [hx, hy] at hp2
          simp only [Option.some.injEq] at hp2
          have hin : (i : Int) < n := by omega
          rw [getL_zero, lssT hin, Run_bindO_some, Run_condM_true]
          refine head i (by omega) w2 hI ha hb fun x14 w3 h3 h14 hd => ?_
          have hl14 : lenL x14 = some (.int .i64 2) := h14.lenL
          rw [hl14, Run_bindO_some, Run_bind]
          refine (pair_loop hlr h3 h14 hd).mono ?_
          rw [hx, hy]
          rintro _ w4 ⟨rfl, h4⟩
          have wi := wrap_succ' (n := i) (by omega)
          simp only [outK_exit]
          show Run (bindO (binV BinOp.add (.int .i64 (i : Int)) (Value.int IntKind.i64 1)) fun x34 => M.ret (Out.norm [x34])) w4 _
          rw [binV_int, intBin_add, wi, Run_bindO_some, Run_ret]
          refine ⟨rfl, r ++ [c], by unfold pairsF; rw [hr, hp], ?_⟩
          rw [hp2] at h4
          rw [List.append_assoc]
          exact h4
  · rintro L w2 ⟨rfl, r, hr, hI⟩
    rcases hbad with rfl | hp
    · have hin : ¬ (J : Int) < (J : Int) := by omega
      rw [getL_zero, lssF hin, Run_bindO_some, Run_condM_false, Run_ret]
      simp only [outK_exit]
      rw [show Nat.beq 0 0 = true from rfl, cond_true, Run_bind, Run_rdM]
      have hz : r ++ List.replicate (J - J) 0 = r := by simp
      rw [hz] at hI
      refine ⟨_, ownB_text hI.sl.1, ?_⟩
      rw [Run_ret, hr]
      exact ⟨rfl, hI.fr⟩
    · rcases Nat.lt_or_ge J n with hlt | hge
      · have hin : (J : Int) < n := by omega
        rw [getL_zero, lssT hin, Run_bindO_some, Run_condM_true]
        obtain ⟨a, ha⟩ : ∃ a, l[2 * J]? = some a := ⟨_, List.getElem?_eq_getElem (by omega)⟩
        obtain ⟨b, hb⟩ : ∃ b, l[2 * J + 1]? = some b := ⟨_, List.getElem?_eq_getElem (by omega)⟩
        refine head J hlt w2 hI ha hb fun x14 w3 h3 h14 hd => ?_
        have hl14 : lenL x14 = some (.int .i64 2) := h14.lenL
        rw [hl14, Run_bindO_some, Run_bind]
        refine (pair_loop (pairsF_len hr) h3 h14 hd).mono ?_
        have hp2 := hp
        unfold pairV at hp2
        rw [ha, hb] at hp2
        simp only at hp2
        rw [pairsF_bad hp hlt]
        cases hx : hvN a.toNat with
        | none =>
          rintro _ w4 ⟨rfl, h4⟩
          simp only [outK_ret, Run_ret]
          exact ⟨trivial, h4⟩
        | some x =>
          cases hy : hvN b.toNat with
          | none =>
            rintro _ w4 ⟨rfl, h4⟩
            simp only [outK_ret, Run_ret]
            exact ⟨trivial, h4⟩
          | some y => rw [hx, hy] at hp2; simp at hp2
      · obtain rfl : J = n := by omega
        have hin : ¬ (J : Int) < (J : Int) := by omega
        rw [getL_zero, lssF hin, Run_bindO_some, Run_condM_false, Run_ret]
        simp only [outK_exit]
        rw [show Nat.beq 0 0 = true from rfl, cond_true, Run_bind, Run_rdM]
        have hz : r ++ List.replicate (J - J) 0 = r := by simp
        rw [hz] at hI
        refine ⟨_, ownB_text hI.sl.1, ?_⟩
        rw [Run_ret, hr]
        exact ⟨rfl, hI.fr⟩
end
end Go.Proofs.YthlpfhjcdedhgaaDoor
