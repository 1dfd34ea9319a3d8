/-
  Layer 4 (paper): part Zl: a sum tells a text from one with one byte turned.
-/
import Derived.Test.YthlpfhjcdedhgaaDoorPxC
namespace Go.Proofs.YthlpfhjcdedhgaaDoor
open Go.Lift
set_option linter.unusedSimpArgs false
set_option linter.unusedVariables false
theorem xor_cancel {a b c : Nat} (h : a ^^^ c = b ^^^ c) : a = b := by
  have := congrArg (· ^^^ c) h
  simpa [Nat.xor_assoc] using this
theorem ply31 : PLY.testBit 31 = true := by decide +kernel
theorem bit31 {x : Nat} (h : x < 4294967296) : (x / 2).testBit 31 = false := Nat.testBit_lt_two_pow (by omega)
theorem st_inj {x y : Nat} (hx : x < 4294967296) (hy : y < 4294967296) (h : st x = st y) : x = y := by
  unfold st at h
  rcases Nat.mod_two_eq_zero_or_one x with a | a <;> rcases Nat.mod_two_eq_zero_or_one y with b | b
  · rw [if_pos a, if_pos b] at h; omega
  · rw [if_pos a, if_neg (by omega)] at h
    have := congrArg (fun n => Nat.testBit n 31) h
    simp only [Nat.testBit_xor, bit31 hx, bit31 hy, ply31] at this
    cases this
  · rw [if_neg (by omega), if_pos b] at h
    have := congrArg (fun n => Nat.testBit n 31) h
    simp only [Nat.testBit_xor, bit31 hx, bit31 hy, ply31] at this
    cases this
  · rw [if_neg (by omega), if_neg (by omega)] at h
    have := xor_cancel h
    omega
theorem st4_inj {x y : Nat} (hx : x < 4294967296) (hy : y < 4294967296) (h : st4 x = st4 y) : x = y :=
  st_inj hx hy (st_inj (st_lt hx) (st_lt hy) (st_inj (st_lt (st_lt hx)) (st_lt (st_lt hy)) (st_inj (st_lt (st_lt (st_lt hx))) (st_lt (st_lt (st_lt hy))) h)))
theorem xb_lt {w : Nat} (h : w < 4294967296) (b : UInt8) : w ^^^ b.toNat < 4294967296 := Nat.xor_lt_two_pow (n := 32) h (by have := b.toNat_lt; omega)
theorem byF_inj {w w' : Nat} {b b' : UInt8} (h : w < 4294967296) (h' : w' < 4294967296) (he : byF w b = byF w' b') : w ^^^ b.toNat = w' ^^^ b'.toNat := by
  unfold byF at he
  exact st4_inj (xb_lt h b) (xb_lt h' b') (st4_inj (st4_lt (xb_lt h b)) (st4_lt (xb_lt h' b')) he)
theorem runF_inj : ∀ (l : List UInt8) {w w' : Nat}, w < 4294967296 → w' < 4294967296 → runF w l = runF w' l → w = w'
  | [], _, _, _, _, h => h
  | b :: l, w, w', h, h', he => xor_cancel (byF_inj h h' (runF_inj l (byF_lt h b) (byF_lt h' b) he))
/-- One byte turned: another sum. -/
theorem crc_one {a r : List UInt8} {b b' : UInt8} (hb : b ≠ b') : crcF (⟨(a ++ b :: r).toArray⟩ : ByteArray) ≠ crcF ⟨(a ++ b' :: r).toArray⟩ := fun he => by
  unfold crcF at he
  have h1 := xor_cancel he
  have e : ∀ c : UInt8, runF 4294967295 (a ++ c :: r) = runF (byF (runF 4294967295 a) c) r := fun c => by simp [runF]
  have h2 : runF 4294967295 (a ++ b :: r) = runF 4294967295 (a ++ b' :: r) := h1
  rw [e, e] at h2
  have hw := runF_lt a (w := 4294967295) (by decide)
  have h3 := byF_inj hw hw (runF_inj r (byF_lt hw b) (byF_lt hw b') h2)
  rw [Nat.xor_comm _ b.toNat, Nat.xor_comm _ b'.toNat] at h3
  exact hb (UInt8.toNat_inj.1 (xor_cancel h3))
end Go.Proofs.YthlpfhjcdedhgaaDoor

/-
  Layer 4 (paper): part Zm: journals, plainly: what is read of a text that begins with notes.
-/
namespace Go.Proofs.YthlpfhjcdedhgaaDoor
open Go.Lift
set_option linter.unusedSimpArgs false
set_option linter.unusedVariables false
/-- Notes, and nothing that is read behind them. -/
theorem chn_of {ns : List Nt} {r : List UInt8} (hok : ∀ n ∈ ns, n.ok) (hr : ∀ n : Nt, n.ok → ¬ noteL n <+: r) : Chn (allL ns ++ r) ns :=
  ⟨hok, List.prefix_append _ _, fun n hn => by rw [List.drop_left]; exact hr n hn⟩
/-- What stands at a place is one note alone. -/
theorem good_unique {n m : Nt} {l : List UInt8} (hn : n.ok) (hm : m.ok) (h1 : noteL n <+: l) (h2 : noteL m <+: l) : n = m := by
  obtain ⟨r1, rfl⟩ := h1
  obtain ⟨r2, h2⟩ := h2
  have c1 : cutL 10 (noteL n ++ r1) = some (jn 32 (wordsL n), r1) := by
    rw [nt_line]
    simp only [List.append_assoc, List.cons_append, List.nil_append]
    exact cut_at (no10w n)
  have c2 : cutL 10 (noteL n ++ r1) = some (jn 32 (wordsL m), r2) := by
    rw [← h2, nt_line]
    simp only [List.append_assoc, List.cons_append, List.nil_append]
    exact cut_at (no10w m)
  rw [c1] at c2
  simp only [Option.some.injEq, Prod.mk.injEq] at c2
  have hw : wordsL n = wordsL m := by rw [← words_spl n, ← words_spl m, c2.1]
  simp only [wordsL, List.cons.injEq, and_true] at hw
  obtain ⟨a1, a2, a3, a4⟩ := ok_read hn
  obtain ⟨b1, b2, b3, b4⟩ := ok_read hm
  rw [hw.1, b1] at a1
  rw [hw.2.1, b2] at a2
  rw [hw.2.2.1, b3] at a3
  rw [hw.2.2.2.1, b4] at a4
  rw [← Nt.cast hn, ← Nt.cast hm, ← Option.some.inj a1, ← Option.some.inj a2, ← Option.some.inj a3, ← Option.some.inj a4]
/-- A note's beginning holds no whole note. -/
theorem torn_no {n m : Nt} {k : Nat} (hk : k < (noteL n).length) (hm : m.ok) : ¬ noteL m <+: (noteL n).take k := fun h => by
  have h10 : (10 : UInt8) ∈ (noteL n).take k := h.mem (by rw [nt_line]; simp)
  rw [nt_line] at h10 hk
  rw [List.length_append, List.length_singleton] at hk
  rw [List.take_append_of_le_length (by omega)] at h10
  exact no10w n (List.mem_of_mem_take h10)
/-- Notes that a text begins with stay, whatever is written behind. -/
theorem chn_more {ns ms : List Nt} {r : List UInt8} (hok : ∀ n ∈ ns, n.ok) (hc : Chn (allL ns ++ r) ms) : ns <+: ms := by
  induction ns generalizing ms with
  | nil => exact List.nil_prefix
  | cons n ns ih =>
    have hl : allL (n :: ns) ++ r = noteL n ++ (allL ns ++ r) := by simp [allL]
    rw [hl] at hc
    cases ms with
    | nil =>
      have := hc.far n (hok n (by simp))
      have e : (noteL n ++ (allL ns ++ r)).drop (allL []).length = noteL n ++ (allL ns ++ r) := rfl
      rw [e] at this
      exact absurd (List.prefix_append _ _) this
    | cons m ms =>
      have hm := hc.ok m (by simp)
      have hpre : noteL m <+: noteL n ++ (allL ns ++ r) := by
        obtain ⟨t, ht⟩ := hc.pre
        exact ⟨allL ms ++ t, by rw [← ht]; simp [allL]⟩
      obtain rfl := good_unique (hok n (by simp)) hm (List.prefix_append _ _) hpre
      have hc2 : Chn (allL ns ++ r) ms := by
        refine ⟨fun x hx => hc.ok x (by simp [hx]), ?_, fun x hx => ?_⟩
        · obtain ⟨t, ht⟩ := hc.pre
          have : noteL n ++ (allL ms ++ t) = noteL n ++ (allL ns ++ r) := by rw [← ht]; simp [allL]
          exact ⟨t, List.append_cancel_left this⟩
        · have := hc.far x hx
          have e : (noteL n ++ (allL ns ++ r)).drop (allL (n :: ms)).length = (allL ns ++ r).drop (allL ms).length := by
            simp only [allL, List.map_cons, List.flatten_cons, List.length_append]
            rw [← List.drop_drop, List.drop_left]
          rwa [e] at this
      exact (List.cons_prefix_cons).2 ⟨rfl, ih (fun x hx => hok x (by simp [hx])) hc2⟩
end Go.Proofs.YthlpfhjcdedhgaaDoor

/-
  Layer 4 (paper): part Zn: a line of a journal with one byte turned is none.
-/
namespace Go.Proofs.YthlpfhjcdedhgaaDoor
open Go.Lift
set_option linter.unusedSimpArgs false
set_option linter.unusedVariables false
theorem jn_app (b : UInt8) : ∀ (N P : List (List UInt8)), N ≠ [] → P ≠ [] → jn b (N ++ P) = jn b N ++ [b] ++ jn b P
  | [], _, h, _ => absurd rfl h
  | [x], P, _, hP => by rw [List.singleton_append, jn_cons b hP]; simp [jn]
  | x :: y :: r, P, _, hP => by
    have ih := jn_app b (y :: r) P (by simp) hP
    rw [List.cons_append, jn_cons b (by simp), ih, jn_cons b (x := x) (l := y :: r) (by simp)]
    simp
/-- The first four words of a note, joined. -/
def frontL (n : Nt) : List (List UInt8) := [Lib.decDigits n.k.toNat, Lib.decDigits n.f.toNat, Lib.decDigits n.u.toNat, eightL n.c.toNat]
def sumL (n : Nt) : List UInt8 := eightL (crcF (sb (preL n)))
theorem words_front (n : Nt) : wordsL n = frontL n ++ [sumL n] := rfl
theorem sumL_len (n : Nt) : (sumL n).length = 8 := lowD_len _ _
theorem front_no (n : Nt) : ∀ x ∈ frontL n, (32 : UInt8) ∉ x := fun x hx => by
  simp only [frontL, List.mem_cons, List.not_mem_nil, or_false] at hx
  rcases hx with rfl | rfl | rfl | rfl
  · exact no32
  · exact no32
  · exact no32
  · exact no32e
/-- A note's line is no beginning of another's. -/
theorem no_longer {n m : Nt} {z : List UInt8} (hz : z ≠ []) : jn 32 (wordsL m) ≠ jn 32 (wordsL n) ++ z := fun h => by
  obtain ⟨h1, h2⟩ := spl_jn 32 (sumL n ++ z)
  have hne := spl_ne 32 (sumL n ++ z)
  have e : jn 32 (wordsL n) ++ z = jn 32 (frontL n ++ spl 32 (sumL n ++ z)) := by
    rw [words_front, jn_app 32 _ _ (by simp [frontL]) (by simp), jn_app 32 _ _ (by simp [frontL]) hne, h1]
    simp [jn]
  rw [e] at h
  have s1 := words_spl m
  rw [h, spl_of 32 (by simp [frontL]) (fun x hx => by
    rcases List.mem_append.1 hx with hx | hx
    · exact front_no n x hx
    · exact h2 x hx), words_front] at s1
  have hl := congrArg List.length s1
  simp only [List.length_append, List.length_singleton, frontL, List.length_cons, List.length_nil] at hl
  have hl1 : (spl 32 (sumL n ++ z)).length = 1 := by omega
  obtain ⟨q, hq⟩ : ∃ q, spl 32 (sumL n ++ z) = [q] := List.length_eq_one_iff.1 hl1
  rw [hq] at s1 h1
  have hlast := (List.append_inj' s1 rfl).2
  simp only [List.cons.injEq, and_true] at hlast
  have hq2 : q = sumL n ++ z := by simpa [jn] using h1
  rw [hq2] at hlast
  have := congrArg List.length hlast
  rw [List.length_append, sumL_len, sumL_len] at this
  have : z.length ≠ 0 := by simpa using hz
  omega
theorem pre_front (n : Nt) : jn 32 (wordsL n) = preL n ++ sumL n := by simp [jn, wordsL, preL, sumL]
/-- One byte of a line turned, in place. -/
theorem turned_no {n m : Nt} {a r : List UInt8} {b b' : UInt8} (hb : b ≠ b') (hn : jn 32 (wordsL n) = a ++ b :: r) (hm : jn 32 (wordsL m) = a ++ b' :: r) : False := by
  rw [pre_front] at hn hm
  have l1 := congrArg List.length hn
  have l2 := congrArg List.length hm
  simp only [List.length_append, List.length_cons, sumL_len] at l1 l2
  have hp : (preL n).length = (preL m).length := by omega
  by_cases h : a.length < (preL n).length
  · have e1 : preL n = (a ++ b :: r).take (preL n).length := by rw [← hn, List.take_left]
    have e2 : preL m = (a ++ b' :: r).take (preL n).length := by rw [← hm, hp, List.take_left]
    have s1 : sumL n = (a ++ b :: r).drop (preL n).length := by rw [← hn, List.drop_left]
    have s2 : sumL m = (a ++ b' :: r).drop (preL n).length := by rw [← hm, hp, List.drop_left]
    obtain ⟨k, hk⟩ : ∃ k, (preL n).length = a.length + (k + 1) := ⟨(preL n).length - a.length - 1, by omega⟩
    have t : ∀ c : UInt8, (a ++ c :: r).take (preL n).length = a ++ c :: r.take k := fun c => by
      rw [hk, List.take_append, List.take_of_length_le (by omega), Nat.add_sub_cancel_left, List.take_succ_cons]
    have d : ∀ c : UInt8, (a ++ c :: r).drop (preL n).length = r.drop k := fun c => by
      rw [hk, List.drop_append, List.drop_of_length_le (by omega), Nat.add_sub_cancel_left, List.drop_succ_cons, List.nil_append]
    rw [t] at e1 e2
    rw [d] at s1 s2
    have hs : sumL n = sumL m := by rw [s1, s2]
    have x1 := eight_sum (crcF_lt (sb (preL n)))
    have x2 := eight_sum (crcF_lt (sb (preL m)))
    unfold sumL at hs
    rw [hs, x2] at x1
    have hc := Option.some.inj x1
    rw [e1, e2] at hc
    exact crc_one (a := a) (r := r.take k) hb hc.symm
  · have e1 : preL n = a.take (preL n).length := by
      have : preL n = (a ++ b :: r).take (preL n).length := by rw [← hn, List.take_left]
      rwa [List.take_append_of_le_length (by omega)] at this
    have e2 : preL m = a.take (preL n).length := by
      have : preL m = (a ++ b' :: r).take (preL n).length := by rw [← hm, hp, List.take_left]
      rwa [List.take_append_of_le_length (by omega)] at this
    have he : preL n = preL m := by rw [e1, e2]
    have hs : sumL n = sumL m := by unfold sumL; rw [he]
    rw [he, hs, hm] at hn
    have := List.append_cancel_left hn
    simp only [List.cons.injEq, and_true] at this
    exact hb this.symm
/-- A line with one byte turned begins with no note, whatever stands behind. -/
theorem spoilt_no {n m : Nt} {a r rest : List UInt8} {b b' : UInt8} (hb : b ≠ b') (hn : noteL n = a ++ b :: r) (hp : noteL m <+: a ++ b' :: (r ++ rest)) : False := by
  have hcut : cutL 10 (a ++ b' :: (r ++ rest)) = some (jn 32 (wordsL m), ((a ++ b' :: (r ++ rest)).drop (noteL m).length)) := by
    obtain ⟨t, ht⟩ := hp
    rw [← ht, List.drop_left, nt_line]
    simp only [List.append_assoc, List.cons_append, List.nil_append]
    exact cut_at (no10w m)
  rw [nt_line] at hn
  have h10 := no10w n
  rcases List.eq_nil_or_concat r with rfl | ⟨r0, z, rfl⟩
  · have h := List.append_inj' (show jn 32 (wordsL n) ++ [10] = a ++ [b] from hn) rfl
    obtain ⟨rfl, hbb⟩ := h
    simp only [List.cons.injEq, and_true] at hbb
    subst hbb
    obtain ⟨h1, _⟩ := cut_some (x := jn 32 (wordsL m)) hcut
    have hu : (10 : UInt8) ∉ jn 32 (wordsL n) ++ [b'] := by
      simp only [List.mem_append, List.mem_singleton, not_or]
      exact ⟨h10, hb⟩
    have h2 : (jn 32 (wordsL n) ++ [b']) ++ rest = jn 32 (wordsL m) ++ 10 :: ((jn 32 (wordsL n) ++ b' :: ([] ++ rest)).drop (noteL m).length) := by
      rw [← h1]; simp
    rcases List.append_eq_append_iff.1 h2 with ⟨c, hc, _⟩ | ⟨c, hc, hd⟩
    · exact no_longer (n := n) (m := m) (z := [b'] ++ c) (by simp) (by rw [hc, List.append_assoc])
    · cases c with
      | nil =>
        rw [List.append_nil] at hc
        exact no_longer (n := n) (m := m) (z := [b']) (by simp) hc.symm
      | cons x c =>
        simp only [List.cons_append, List.cons.injEq] at hd
        exact hu (by rw [hc, ← hd.1]; simp)
  · rw [List.concat_eq_append] at hn hcut
    have h := List.append_inj' (show jn 32 (wordsL n) ++ [10] = (a ++ b :: r0) ++ [z] by rw [hn]; simp) rfl
    obtain ⟨hx, hz⟩ := h
    simp only [List.cons.injEq, and_true] at hz
    subst hz
    have h10' := h10
    rw [hx] at h10'
    simp only [List.mem_append, List.mem_cons, not_or] at h10'
    by_cases hb10 : b' = 10
    · subst hb10
      rw [cut_at h10'.1] at hcut
      simp only [Option.some.injEq, Prod.mk.injEq] at hcut
      exact no_longer (n := m) (m := n) (z := b :: r0) (by simp) (by rw [← hcut.1]; exact hx)
    · have e : a ++ b' :: (r0 ++ [10] ++ rest) = (a ++ b' :: r0) ++ 10 :: rest := by simp
      rw [e, cut_at (by simp only [List.mem_append, List.mem_cons, not_or]; exact ⟨h10'.1, fun h => hb10 h.symm, h10'.2.2⟩)] at hcut
      simp only [Option.some.injEq, Prod.mk.injEq] at hcut
      exact turned_no hb hx hcut.1.symm
end Go.Proofs.YthlpfhjcdedhgaaDoor

/-
  Layer 4 (paper): part Zo: what the law of journals calls.
-/
namespace Go.Proofs.YthlpfhjcdedhgaaDoor
open Go.Lift
set_option linter.unusedSimpArgs false
set_option linter.unusedVariables false
set_option maxHeartbeats 4000000
section
variable {w w1 w2 : World}
theorem lin_run {x a b : Int} : F.granarylaw4_in (.int .i64 x) (.int .i64 a) (.int .i64 b) w = some (.bool (decide (a ≤ x ∧ x ≤ b)), w) := by
  have : Run (F.granarylaw4_in (.int .i64 x) (.int .i64 a) (.int .i64 b)) w fun r w' => r = .bool (decide (a ≤ x ∧ x ≤ b)) ∧ w' = w := by
    unfold F.granarylaw4_in
    by_cases h1 : a ≤ x <;> by_cases h2 : x ≤ b <;> simp [h1, h2]
  obtain ⟨r, w', e, rfl, rfl⟩ := this
  exact e
theorem Run_lin {x a b : Int} {Q : Value → World → Prop} : Run (F.granarylaw4_in (.int .i64 x) (.int .i64 a) (.int .i64 b)) w Q ↔ Q (.bool (decide (a ≤ x ∧ x ≤ b))) w := by
  constructor
  · rintro ⟨r, w', e, q⟩
    rw [lin_run] at e
    cases e
    exact q
  · exact fun q => ⟨_, _, lin_run, q⟩
theorem goodNote_run (n : Nt) : Run (F.granarylaw4_goodNote n.v) w fun r w' => r = .bool (decide n.ok) ∧ Fr (fun _ => False) w w' := by
  unfold F.granarylaw4_goodNote
  rw [Run_bind]
  refine Run_new fun x w1 hx hxw f1 hxle => ?_
  replace hx : bk w1 x = some n.row := hx
  by_cases h1 : 1 ≤ n.k ∧ n.k ≤ 4
  case neg =>
    have hn : ¬ n.ok := fun h => h1 h.1
    simp [-ldA_ptr, hx, Nt.row, Run_lin, h1, hn, f1]
  by_cases h2 : 0 ≤ n.f ∧ n.f ≤ 9007199254740992
  case neg =>
    have hn : ¬ n.ok := fun h => h2 h.2.1
    simp [-ldA_ptr, hx, Nt.row, Run_lin, h1, h2, hn, f1]
  by_cases h3 : 0 ≤ n.u ∧ n.u ≤ 9007199254740992
  case neg =>
    have hn : ¬ n.ok := fun h => h3 h.2.2.1
    simp [-ldA_ptr, hx, Nt.row, Run_lin, h1, h2, h3, hn, f1]
  by_cases h4 : 0 ≤ n.c ∧ n.c ≤ 4294967295
  case neg =>
    have hn : ¬ n.ok := fun h => h4 ⟨h.2.2.2.1, by have := h.2.2.2.2; omega⟩
    simp [-ldA_ptr, hx, Nt.row, Run_lin, h1, h2, h3, h4, hn, f1]
  have hn : n.ok := ⟨h1, h2, h3, h4.1, by omega⟩
  simp [-ldA_ptr, hx, Nt.row, Run_lin, h1, h2, h3, h4, hn, f1]
/-- What is printed of a pointer has its form. -/
theorem printed_form {n : Nt} (h : n.pok = true) : pform (closeL (ptrL n)) n (crcF (sb (ptrL n))) := by
  have hp := (pok_iff n).1 h
  refine ⟨_, _, _, _, eightL (crcF (sb (ptrL n))), n.k.toNat, n.f.toNat, n.u.toNat, n.c.toNat, ?_, dec_num (n := n.k.toNat) (by omega), dec_num (n := n.f.toNat) (by omega), dec_num (n := n.u.toNat) (by omega), dec_num (n := n.c.toNat) (by omega), eight_sum (crcF_lt _), ?_⟩
  · unfold closeL
    generalize crcF (sb (ptrL n)) = q
    rw [ptr_parts]
  · obtain ⟨k, f, u, c⟩ := n
    simp only at hp
    simp only [Nt.mk.injEq]
    omega
theorem close_take (l : List UInt8) : (closeL l).take ((closeL l).length - 13) = l := by
  have h8 : (eightL (crcF (sb l))).length = 8 := lowD_len _ _
  have h4 : SUM.length = 4 := rfl
  have hl : (closeL l).length = l.length + 13 := by
    simp only [closeL, List.length_append, h8, h4, List.length_singleton]
  rw [hl, Nat.add_sub_cancel]
  unfold closeL
  rw [List.append_assoc, List.append_assoc, List.take_left]
theorem first_run (ht : Tb w) : Run F.granarylaw4_first w fun r w' => r = .bool true ∧ Fr (fun _ => False) w w' := by
  unfold F.granarylaw4_first
  have hb : buildV #[(Value.int IntKind.i64 0), (Value.int IntKind.i64 0), (Value.int IntKind.i64 0), (Value.int IntKind.i64 0)] [(0, 1, (Value.int IntKind.i64 1)), (2, 1, (Value.int IntKind.i64 1)), (3, 1, (Value.int IntKind.i64 1))] = some (Nt.v ⟨1, 0, 1, 1⟩) := by kernel_rfl
  have hp : (⟨1, 0, 1, 1⟩ : Nt).pok = true := by decide
  have y0 : ∀ v x, extV 0 (.tuple #[v, x]) = some v := fun _ _ => rfl
  have y1 : ∀ v x, extV 1 (.tuple #[v, x]) = some x := fun _ _ => rfl
  rw [hb, Run_bindO_some, Run_bind]
  refine (pprint_run ht _).mono ?_
  rintro _ w1 ⟨rfl, f1⟩
  have hl := ptr_len hp
  have hlc : (closeL (ptrL ⟨1, 0, 1, 1⟩)).length ≤ 4294960000 := by
    have h8 : (eightL (crcF (sb (ptrL ⟨1, 0, 1, 1⟩)))).length = 8 := lowD_len _ _
    have h4 : SUM.length = 4 := rfl
    simp only [closeL, List.length_append, h8, h4, List.length_singleton]
    omega
  rw [ptrO, if_pos hp, y0, Run_bindO_some, y1, Run_bindO_some, Run_bind]
  refine (pparse_run (ht.fr0 f1) hlc).mono ?_
  rintro r w2 ⟨hr, f2⟩
  have e := hr.yes _ _ (printed_form hp)
  rw [ansV, close_take, if_pos rfl, if_pos hp] at e
  subst e
  rw [y0, Run_bindO_some, y1, Run_bindO_some, Run_bind]
  refine Run_new fun x8 w3 hx8 hw8 f3 hle8 => ?_
  rw [Run_bind, Run_stM (by rfl) (by rfl) ⟨⟨_, hx8, by simp [Nt.v, Value.cells]⟩, hw8⟩]
  have b8 := bk_sto_same (o := 0) hx8 (Nt.v ⟨1, 0, 1, 1⟩).cells.toList
  have f34 : Fr (fun _ => False) w2 (sto w3 x8 0 (Nt.v ⟨1, 0, 1, 1⟩).cells.toList) := f3.sto (.inr hle8) _ _
  generalize sto w3 x8 0 (Nt.v ⟨1, 0, 1, 1⟩).cells.toList = w4 at *
  have l8 : ldA 4 (.pointer (some ⟨x8, 0, none⟩)) w4 = some (Nt.v ⟨1, 0, 1, 1⟩) := ldA_bk b8 (by first | exact Nat.le_refl _ | simp)
  simp only [F.granarylaw4_num, Run_bind, Run_ret, binV_int, intBin_eql, decide_true, Run_bindO_some, Run_guardM_tt, Run_optM_some, pickV_bool, cond_true, Run_rdM]
  refine ⟨_, l8, ?_⟩
  simp only [hb, Run_optM_some, eqRow, pickV_bool, cond_true, Run_bindO_some]
  exact ⟨trivial, (f1.trans f2 fun _ _ => id).trans f34 fun _ _ => id⟩
end
end Go.Proofs.YthlpfhjcdedhgaaDoor

/-
  Layer 4 (paper): part Zp: a place that counts round; a byte turned; the line of a place.
-/
namespace Go.Proofs.YthlpfhjcdedhgaaDoor
open Go.Lift
set_option linter.unusedSimpArgs false
set_option linter.unusedVariables false
set_option maxHeartbeats 4000000
/-- The place a, of n, counted round, is p. -/
def Plc (a : Int) (n p : Nat) : Prop := p < n ∧ ∃ q q' : Int, binV .rem (.int .i64 a) (.int .i64 (n : Int)) = some (.int .i64 q) ∧ binV .add (.int .i64 q) (.int .i64 (n : Int)) = some (.int .i64 q') ∧ binV .rem (.int .i64 q') (.int .i64 (n : Int)) = some (.int .i64 (p : Int))
theorem plc_ex (a : Int) {n : Nat} (h0 : 0 < n) (hn : n ≤ 4611686018427387903) : ∃ p, Plc a n p := by
  have hn0 : ¬ ((n : Nat) : Int) = 0 := by omega
  obtain ⟨x, hx1, hx2⟩ : ∃ x : Nat, x < 2 * n ∧ a.tmod n + n = x := by
    rcases Int.eq_nat_or_neg a with ⟨m, rfl | rfl⟩
    · rw [← Int.ofNat_tmod]
      have := Nat.mod_lt m h0
      exact ⟨m % n + n, by omega, by omega⟩
    · rw [Int.neg_tmod, ← Int.ofNat_tmod]
      have := Nat.mod_lt m h0
      exact ⟨n - m % n, by omega, by omega⟩
  refine ⟨x % n, Nat.mod_lt _ h0, a.tmod n, (x : Int), by rw [binV_int, intBin_rem, if_neg hn0], ?_, ?_⟩
  · rw [binV_int, intBin_add, hx2, i64W (by omega)]
  · rw [binV_int, intBin_rem, if_neg hn0, ← Int.ofNat_tmod]
theorem u8M {n : Nat} : IntKind.u8.wrap (n : Int) = ((n % 256 : Nat) : Int) := by simp [IntKind.wrap, IntKind.bits, IntKind.signed]
section
variable {w w1 w2 : World}
theorem spoilt_run {l : List UInt8} {a : Int} {p : Nat} (hp : Plc a l.length p) (hl : l.length ≤ 4611686018427387903) (b : Int) : Run (F.granarylaw4_spoilt (.string (sb l)) (.int .i64 a) (.int .i64 b)) w fun r w' =>
    (∃ x c c' y, l = x ++ c :: y ∧ x.length = p ∧ c ≠ c' ∧ r = .string (sb (x ++ c' :: y))) ∧ Fr (fun _ => False) w w' := by
  unfold F.granarylaw4_spoilt
  obtain ⟨hpl, q, q', e1, e2, e3⟩ := hp
  have h0 : ¬ ((l.length : Nat) : Int) = 0 := by omega
  obtain ⟨c, hc⟩ : ∃ c, l[p]? = some c := ⟨_, List.getElem?_eq_getElem hpl⟩
  obtain ⟨z, hz, z1, z2, z3, z4, z5⟩ := plc_ex b (n := 255) (by decide) (by decide)
  have cl := c.toNat_lt
  have hidx : idxS (.string (sb l)) (.int .i64 (p : Int)) = some (by8 c) := idxSb hc
  have w1' : IntKind.i64.wrap ((c.toNat : Nat) : Int) = ((c.toNat : Nat) : Int) := i64W (by omega)
  have w2' : IntKind.i64.wrap (((c.toNat : Nat) : Int) + 1) = ((c.toNat + 1 : Nat) : Int) := wrap_succ' (by omega)
  have w3' : IntKind.i64.wrap (((c.toNat + 1 : Nat) : Int) + (z : Int)) = ((c.toNat + 1 + z : Nat) : Int) := by rw [show ((c.toNat + 1 : Nat) : Int) + (z : Int) = ((c.toNat + 1 + z : Nat) : Int) by omega]; exact i64W (by omega)
  have hcv : cvtI .i64 (by8 c) = some (.int .i64 ((c.toNat : Nat) : Int)) := by
    show some (Value.int .i64 (IntKind.i64.wrap ((c.toNat : Nat) : Int))) = _
    rw [w1']
  have n255 : ((255 : Nat) : Int) = 255 := rfl
  rw [n255] at z3 z4 z5
  rw [lenS_string, sb_size, Run_bindO_some, binV_int, intBin_eql, decide_eq_false h0, Run_bindO_some, Run_condM_false, Run_bindO_some, e1, Run_bindO_some, Run_bindO_some, e2, Run_bindO_some, Run_bindO_some, e3, Run_bindO_some, hidx, Run_bindO_some, hcv, Run_bindO_some, binV_int, intBin_add, w2', Run_bindO_some,
    z3, Run_bindO_some, z4, Run_bindO_some, z5, Run_bindO_some, binV_int, intBin_add, w3', Run_bindO_some, cvtI_int, u8M, Run_bindO_some, Run_drewM]
  have hm := Nat.mod_lt (c.toNat + 1 + z) (show 0 < 256 by decide)
  have hb8 : Value.int .u8 (((c.toNat + 1 + z) % 256 : Nat) : Int) = by8 (UInt8.ofNat ((c.toNat + 1 + z) % 256)) := (by8_of hm).symm
  rw [hb8]
  have hne : c ≠ UInt8.ofNat ((c.toNat + 1 + z) % 256) := fun h => by
    have := congrArg UInt8.toNat h
    rw [UInt8.toNat_ofNat', Nat.mod_mod_of_dvd _ (Nat.dvd_refl 256)] at this
    omega
  generalize UInt8.ofNat ((c.toNat + 1 + z) % 256) = c' at *
  have fd : Fr (fun _ => False) w w.drew := (Fr.refl _ _).drew
  have hsl := slTo (l := l) (n := p) (by omega)
  have wp : IntKind.i64.wrap ((p : Int) + 1) = ((p + 1 : Nat) : Int) := wrap_succ' (by omega)
  have hsf := slFrom (l := l) (n := p + 1) (by omega)
  rw [hsl, Run_bindO_some, Run_bind]
  refine Run_bsl (k := 1) (vs := [by8 c']) (by rfl) (by intro v hv; simp only [List.mem_singleton] at hv; subst hv; rfl) rfl (by kernel_rfl) fun r w2 hr f2 _ => ?_
  rw [Run_bind, Run_rdM]
  refine ⟨_, ownB_text (l := [c']) hr.1, ?_⟩
  have es : (⟨[c'].toArray⟩ : ByteArray) = sb [c'] := rfl
  have a1 := sbAdd (a := l.take p) (c := [c']) (by rw [List.length_take]; simp; omega)
  have a2 := sbAdd (a := l.take p ++ [c']) (c := l.drop (p + 1)) (by rw [List.length_append, List.length_take, List.length_drop]; simp; omega)
  rw [es, a1, Run_bindO_some, binV_int, intBin_add, wp, Run_bindO_some, hsf, Run_bindO_some, a2, Run_bindO_some, Run_ret]
  refine ⟨⟨l.take p, c, c', l.drop (p + 1), ?_, by rw [List.length_take]; omega, hne, by simp⟩, fd.trans f2 fun _ _ => id⟩
  obtain ⟨hlt, rfl⟩ := List.getElem?_eq_some_iff.1 hc
  rw [List.getElem_cons_drop, List.take_append_drop]
end
/-- The line in which a place lies. -/
theorem line_ex : ∀ {ns : List Nt} {p : Nat}, p < (allL ns).length → ∃ J n, ns[J]? = some n ∧ (∀ j, j < J → (allL (ns.take (j + 1))).length ≤ p) ∧ (allL (ns.take J)).length ≤ p ∧ p < (allL (ns.take (J + 1))).length
  | [], p, h => absurd h (by simp [allL])
  | n :: ns, p, h => by
    have hc : ∀ l : List Nt, (allL (n :: l)).length = (noteL n).length + (allL l).length := fun l => by simp [allL]
    by_cases hp : p < (noteL n).length
    · refine ⟨0, n, rfl, fun j hj => absurd hj (Nat.not_lt_zero j), by simp [allL], ?_⟩
      rw [List.take_succ_cons, hc]; omega
    · rw [hc] at h
      obtain ⟨J, m, h1, h2, h3, h4⟩ := line_ex (ns := ns) (p := p - (noteL n).length) (by omega)
      refine ⟨J + 1, m, by simpa using h1, fun j hj => ?_, ?_, ?_⟩
      · rw [List.take_succ_cons, hc]
        cases j with
        | zero => simp [allL]; omega
        | succ j => have := h2 j (by omega); omega
      · rw [List.take_succ_cons, hc]; omega
      · rw [List.take_succ_cons, hc]; omega
/-- A journal with one byte turned: just the notes ahead of its line. -/
theorem turned_chn {ns : List Nt} {n : Nt} {J : Nat} {x y more : List UInt8} {b b' : UInt8} (hok : ∀ n ∈ ns, n.ok) (hJ : ns[J]? = some n) (h : allL ns = x ++ b :: y) (h1 : (allL (ns.take J)).length ≤ x.length) (h2 : x.length < (allL (ns.take (J + 1))).length) (hb : b ≠ b') :
    Chn (x ++ b' :: y ++ more) (ns.take J) := by
  have hsplit : allL ns = allL (ns.take (J + 1)) ++ allL (ns.drop (J + 1)) := by
    unfold allL
    rw [← List.flatten_append, ← List.map_append, List.take_append_drop]
  have e : allL (ns.take (J + 1)) = allL (ns.take J) ++ noteL n := by
    rw [take_snocP hJ]; simp [allL]
  rw [e] at h2 hsplit
  generalize allL (ns.drop (J + 1)) = Z at *
  rw [hsplit, List.append_assoc] at h
  obtain ⟨a, ha⟩ : ∃ a, x = allL (ns.take J) ++ a := by
    rcases List.append_eq_append_iff.1 h with ⟨c, hc, _⟩ | ⟨c, hc, _⟩
    · exact ⟨c, hc⟩
    · have := congrArg List.length hc
      rw [List.length_append] at this
      have : c = [] := List.eq_nil_of_length_eq_zero (by omega)
      subst this
      exact ⟨[], by rw [hc]; simp⟩
  subst ha
  rw [List.append_assoc] at h
  have h' := List.append_cancel_left h
  rw [List.length_append, List.length_append] at h2
  obtain ⟨r, hr, hy⟩ : ∃ r, noteL n = a ++ b :: r ∧ y = r ++ Z := by
    rcases List.append_eq_append_iff.1 h' with ⟨c, hc, _⟩ | ⟨c, hc, hd⟩
    · have := congrArg List.length hc
      rw [List.length_append] at this
      omega
    · cases c with
      | nil => rw [List.append_nil] at hc; rw [hc] at h2; omega
      | cons z c =>
        simp only [List.cons_append, List.cons.injEq] at hd
        obtain ⟨rfl, hd⟩ := hd
        exact ⟨c, hc, hd⟩
  subst hy
  have ee : allL (ns.take J) ++ a ++ b' :: (r ++ Z) ++ more = allL (ns.take J) ++ (a ++ b' :: (r ++ (Z ++ more))) := by simp
  rw [ee]
  exact chn_of (fun m hm => hok m (List.mem_of_mem_take hm)) fun m hm hpre => spoilt_no hb hr hpre
end Go.Proofs.YthlpfhjcdedhgaaDoor

/-
  Layer 4 (paper): part Zq: the law of journals.
-/
namespace Go.Proofs.YthlpfhjcdedhgaaDoor
open Go.Lift
set_option linter.unusedSimpArgs false
set_option linter.unusedVariables false
set_option maxHeartbeats 4000000
section
variable {w w1 w2 : World}
def nums (xs : List Nat) : List (List Value) := xs.map fun n : Nat => [Value.int .i64 (n : Int)]
/-- A list of whole numbers of one's own. -/
structure OwnE (w w1 : World) (v : Value) (xs : List Nat) : Prop where
  sl : SlW 1 w1 v (nums xs)
  fresh : ∀ c, inB v c → w.heap.size ≤ c ∧ c < w1.heap.size
  fr : Fr (fun _ => False) w w1
theorem OwnE.frm {v : Value} {xs : List Nat} (h : OwnE w w1 v xs) (f : Fr (fun _ => False) w1 w2) : OwnE w w2 v xs := ⟨h.sl.fr f fun _ _ => id, fun c hc => ⟨(h.fresh c hc).1, Nat.lt_of_lt_of_le (h.fresh c hc).2 f.size⟩, h.fr.trans f fun _ _ => id⟩
theorem ownE_app {v : Value} {xs : List Nat} (h : OwnE w w1 v xs) (n : Nat) {a1 a2 : Nat} (hl : xs.length ≤ 4294967296) {K : Value → World → Prop} (q : ∀ r w2, OwnE w w2 r (xs ++ [n]) → Fr (inB v) w1 w2 → K r w2) :
    Run (bslM a1 1 (Builtin.zeroCells #[(Value.int IntKind.i64 0)] 1) [(0, 1, (Value.int .i64 (n : Int)))]) w1 fun a w2 => Run (appM a2 1 8 #[(Value.int IntKind.i64 0)] v a) w2 fun r w' => K r w' := by
  refine Run_app1 (K := fun _ r w' => K r w') (k := 1) (y := Value.int .i64 (n : Int)) rfl h.sl (by decide) rfl (by decide) rfl (by simp only [nums, List.length_map]; omega) fun r w2 hr f2 hin w3 f3 => q r w2 ?_ f2
  have s := f2.size
  refine ⟨by unfold nums; rw [List.map_append]; exact hr, fun c hc => ?_, h.fr.new f2 fun c hc => (h.fresh c hc).1⟩
  have s0 := h.fr.size
  rcases hin c hc with hc | hc
  · have := h.fresh c hc; omega
  · omega
theorem noteL_len {n : Nt} (hn : n.ok) : (noteL n).length ≤ 200 := by
  have h1 := pre_len n hn
  have h2 : (eightL (crcF ⟨(preL n).toArray⟩)).length = 8 := lowD_len _ _
  simp only [noteL, List.length_append, h2, List.length_singleton]
  omega
theorem allL_len : ∀ {ns : List Nt}, (∀ n ∈ ns, n.ok) → (allL ns).length ≤ ns.length * 200
  | [], _ => by simp [allL]
  | n :: ns, h => by
    have h1 := noteL_len (h n (by simp))
    have h2 := allL_len (ns := ns) fun m hm => h m (by simp [hm])
    simp only [allL, List.map_cons, List.flatten_cons, List.length_append, List.length_cons] at h2 ⊢
    omega
def endsL (ns : List Nt) (i : Nat) : List Nat := (List.range i).map fun j => (allL (ns.take (j + 1))).length
theorem endsL_at {ns : List Nt} {i j : Nat} (h : j < i) : (nums (endsL ns i))[j]? = some [.int .i64 (((allL (ns.take (j + 1))).length : Nat) : Int)] := by
  simp [nums, endsL, List.getElem?_range h]
/-- The notes that are handed in, printed one behind the other. -/
theorem journal_walk (ht : Tb w) {v : Value} {ns : List Nt} (hv : Sl 4 w v (ns.map Nt.row)) (hn : ns.length ≤ 1048576) (last : Nt) (torn at_ by_ : Int) {more : List UInt8} (hm : more.length ≤ 1048576) :
    Run (F.granarylaw4_PaperJournal v last.v (.int .i64 torn) (.int .i64 at_) (.int .i64 by_) (.string (sb more))) w fun r w' => r = .bool true ∧ Fr (fun _ => False) w w' := by
  unfold F.granarylaw4_PaperJournal
  have y0 : ∀ v x, extV 0 (.tuple #[v, x]) = some v := fun _ _ => rfl
  have y1 : ∀ v x, extV 1 (.tuple #[v, x]) = some x := fun _ _ => rfl
  have hnv : ∀ b, notV (.bool b) = some (.bool !b) := fun _ => rfl
  have n00 : (!decide ((0 : Int) = 0)) = false := by decide
  have hvl := hv.lenL
  rw [List.length_map] at hvl
  rw [Run_bind]
  refine Run_new fun x1 wa hx1 hw1 fa hx1le => ?_
  have ta := ht.fr0 fa
  have hva := hv.fr0 fa
  rw [Run_bind]
  obtain ⟨J, hJ, hgood, hend⟩ := far_ex (fun n : Nt => decide n.ok) ns
  have good : ∀ i, i ≤ J → ∀ n ∈ ns.take i, n.ok := fun i hi n hn => by
    obtain ⟨j, hj⟩ := List.getElem?_of_mem hn
    have hji : j < i := by have := (List.getElem?_eq_some_iff.1 hj).1; rw [List.length_take] at this; omega
    rw [List.getElem?_take_of_lt hji] at hj
    exact of_decide_eq_true (hgood j n (by omega) hj)
  have alen : ∀ i, i ≤ J → (allL (ns.take i)).length ≤ 209715200 := fun i hi => by
    have h1 := allL_len (good i hi)
    have h2 : (ns.take i).length ≤ ns.length := List.length_take_le' i ns
    omega
  have pick : ∀ (i : Nat) (n : Nt) (u : World), ns[i]? = some n → Fr (fun _ => False) wa u → ∃ p, idxA 4 v (.int .i64 (i : Int)) = some p ∧ ldA 4 p u = some n.v := fun i n u hi f => by
    obtain ⟨p, p1, p2⟩ := (hva.fr0 f).rdA (by decide) (i := i) (e := n.row) (by simp [hi]) .i64
    exact ⟨p, p1, p2⟩
  refine Run_for J (fun i L w' => ∃ u, L = [.string (sb (allL (ns.take i))), u, .int .i64 (i : Int)] ∧ OwnE wa w' u (endsL ns i)) ⟨_, rfl, SlW.nil _ _, fun _ h => h.elim, Fr.refl _ _⟩ ?_ ?_
  · rintro i L w1 hi ⟨u, rfl, hO⟩
    obtain ⟨n, hni⟩ : ∃ n, ns[i]? = some n := ⟨_, List.getElem?_eq_getElem (by omega)⟩
    have hok : n.ok := of_decide_eq_true (hgood i n hi hni)
    have hil : (i : Int) < ns.length := by omega
    obtain ⟨p, p1, p2⟩ := pick i n w1 hni hO.fr
    have p1' : idxA 4 v (.int .i64 (i : Int)) = some p := p1
    have wi := wrap_succ' (n := i) (by omega)
    rw [hvl, Run_bindO_some, getL_succ, getL_succ, getL_zero, lssT hil, Run_bindO_some, Run_condM_true, p1', Run_bindO_some, Run_bind, Run_rdM]
    refine ⟨_, p2, ?_⟩
    rw [Run_bind]
    refine (goodNote_run n).mono ?_
    rintro _ w2 ⟨rfl, f2⟩
    obtain ⟨p', p1'', p2'⟩ := pick i n w2 hni (hO.fr.trans f2 fun _ _ => id)
    obtain rfl : p' = p := Option.some.inj (p1''.symm.trans p1)
    rw [decide_eq_true hok, hnv, Run_bindO_some, Bool.not_true, Run_condM_false, Run_bindO_some, Run_bind, Run_rdM]
    refine ⟨_, p2', ?_⟩
    rw [Run_bind]
    refine (print_run ((ta.fr0 hO.fr).fr0 f2) n).mono ?_
    rintro _ w3 ⟨rfl, f3⟩
    have l1 := alen i (by omega)
    have l2 := noteL_len hok
    have ea := sbAdd (a := allL (ns.take i)) (c := noteL n) (by omega)
    have enext : allL (ns.take i) ++ noteL n = allL (ns.take (i + 1)) := by rw [take_snocP hni]; simp [allL]
    have no : noteO n = .tuple #[.string (sb (noteL n)), .int .i64 0] := by unfold noteO; rw [if_pos hok]; rfl
    rw [enext] at ea
    rw [no, y0, Run_bindO_some, y1, Run_bindO_some]
    simp only [F.granarylaw4_num, Run_bind, Run_ret]
    rw [binV_int, intBin_neq, n00, Run_bindO_some, Run_condM_false, getL_zero, ea, Run_bindO_some, lenS_string, sb_size, Run_bindO_some, Run_bind]
    have hO3 := (hO.frm f2).frm f3
    have hel : (endsL ns i).length ≤ 4294967296 := by simp [endsL]; omega
    simp only [Run_bind]
    refine ownE_app hO3 _ hel fun r w4 h4 _ => ?_
    rw [binV_int, intBin_add, wi, Run_bindO_some, Run_ret]
    refine ⟨r, rfl, ?_⟩
    have : endsL ns (i + 1) = endsL ns i ++ [(allL (ns.take (i + 1))).length] := by simp [endsL, List.range_succ]
    rw [this]
    exact h4
  · rintro L w1 ⟨u, rfl, hO⟩
    have t1 := ta.fr0 hO.fr
    rcases hend with ⟨rfl, hall⟩ | ⟨n, hnJ, hbad, _⟩
    case inr =>
      have hJl : J < ns.length := (List.getElem?_eq_some_iff.1 hnJ).1
      have hil : (J : Int) < ns.length := by omega
      obtain ⟨p, p1, p2⟩ := pick J n w1 hnJ hO.fr
      rw [hvl, Run_bindO_some, getL_succ, getL_succ, getL_zero, lssT hil, Run_bindO_some, Run_condM_true, p1, Run_bindO_some, Run_bind, Run_rdM]
      refine ⟨_, p2, ?_⟩
      rw [Run_bind]
      refine (goodNote_run n).mono ?_
      rintro _ w2 ⟨rfl, f2⟩
      rw [hbad, hnv, Run_bindO_some, Bool.not_false, Run_condM_true, Run_bind]
      refine (first_run (t1.fr0 f2)).mono ?_
      rintro _ w3 ⟨rfl, f3⟩
      rw [Run_ret]
      simp only [outK_ret, Run_ret]
      exact ⟨trivial, ((fa.trans hO.fr fun _ _ => id).trans f2 fun _ _ => id).trans f3 fun _ _ => id⟩
    have hni : ¬ ((ns.length : Nat) : Int) < ns.length := by omega
    have hok : ∀ n ∈ ns, n.ok := fun n hn => of_decide_eq_true (List.all_eq_true.1 hall n hn)
    have sl := alen ns.length (Nat.le_refl _)
    rw [List.take_length] at sl
    rw [hvl, Run_bindO_some, getL_succ, getL_succ, getL_zero, lssF hni, Run_bindO_some, Run_condM_false, Run_ret, getL_zero, getL_succ, getL_zero, List.take_length]
    simp only [outK_exit]
    rw [show Nat.beq 0 0 = true from rfl, cond_true, Run_bind]
    have hxl : ∀ {u : World}, Fr (fun _ => False) wa u → ldA 4 (.pointer (some ⟨x1, 0, none⟩)) u = some last.v := fun f => ldA_bk (f.bk_some hx1 id) (Nat.le_refl _)
    rw [Run_rdM]
    refine ⟨_, hxl hO.fr, ?_⟩
    rw [Run_bind]
    refine (goodNote_run last).mono ?_
    rintro _ w2 ⟨rfl, f2⟩
    rw [hnv, Run_bindO_some]
    by_cases hlast : last.ok
    case neg =>
      rw [decide_eq_false hlast, Bool.not_false, Run_condM_true, Run_bind]
      refine (first_run (t1.fr0 f2)).mono ?_
      rintro _ w3 ⟨rfl, f3⟩
      rw [Run_ret]
      exact ⟨rfl, ((fa.trans hO.fr fun _ _ => id).trans f2 fun _ _ => id).trans f3 fun _ _ => id⟩
    rw [decide_eq_true hlast, Bool.not_true, Run_condM_false, Run_bind, Run_rdM]
    have f12 := hO.fr.trans f2 fun _ _ => id
    refine ⟨_, hxl f12, ?_⟩
    rw [Run_bind]
    refine (print_run (ta.fr0 f12) last).mono ?_
    rintro _ w3 ⟨rfl, f3⟩
    have f13 := f12.trans f3 fun _ _ => id
    have no : noteO last = .tuple #[.string (sb (noteL last)), .int .i64 0] := by unfold noteO; rw [if_pos hlast]; rfl
    have l2 := noteL_len hlast
    have l3 := note_len last
    have e0 : decide ((((noteL last).length : Nat) : Int) = 0) = false := decide_eq_false (by omega)
    rw [no, y0, Run_bindO_some, y1, Run_bindO_some]
    simp only [F.granarylaw4_num, Run_bind, Run_ret]
    rw [binV_int, intBin_neq, n00, Run_bindO_some]
    simp only [Run_bind, Run_guardM_ff, Run_ret, lenS_string, sb_size, Run_optM_some, binV_int, intBin_eql, e0, pickV_bool, cond_false, Run_bindO_some, Run_condM_false]
    obtain ⟨k, hk, q, q', k1, k2, k3⟩ := plc_ex torn (n := (noteL last).length) (by omega) (by omega)
    simp only [binV_int] at k1 k2 k3
    have hsl := slTo (l := noteL last) (n := k) (by omega)
    have ea := sbAdd (a := allL ns) (c := (noteL last).take k) (by rw [List.length_take]; omega)
    have ea' := ea
    rw [binV_str] at ea'
    simp only [binV_int, k1, k2, k3, Run_bindO_some, hsl, binV_str, ea', getL_zero, getL_succ, Run_bind]
    refine (parse_run (ta.fr0 f13) (by rw [List.length_append, List.length_take]; omega) (chn_of hok fun m hm => torn_no hk hm)).mono ?_
    rintro _ w4 ⟨v4, rfl, h4⟩
    rw [y0, Run_bindO_some, y1, Run_bindO_some]
    have f14 := f13.trans h4.fr fun _ _ => id
    simp only [Run_bind]
    refine (same_run h4.sl.1 (hva.fr0 f14) (by omega)).mono ?_
    rintro _ w5 ⟨rfl, f5⟩
    have f15 := f14.trans f5 fun _ _ => id
    have ea2 := sbAdd (a := allL ns) (c := more) (by omega)
    rw [binV_str] at ea2
    have en : ∀ x : Int, decide (x = x) = true := fun x => by simp
    simp only [hnv, Bool.not_true, Run_bindO_some, Run_bind, Run_guardM_ff, Run_ret, lenS_string, sb_size, Run_optM_some, binV_int, intBin_neq, en, decide_true, pickV_bool, cond_false, Run_condM_false, binV_str, ea2]
    obtain ⟨ms, hms⟩ := chain_ex _ (allL ns ++ more) (Nat.le_refl _)
    have hpre := chn_more hok hms
    refine (parse_run (ta.fr0 f15) (by rw [List.length_append]; omega) hms).mono ?_
    rintro _ w6 ⟨v6, rfl, h6⟩
    have f16 := f15.trans h6.fr fun _ _ => id
    have l6 := h6.sl.1.lenL
    rw [List.length_map] at l6
    have hml : ns.length ≤ ms.length := hpre.length_le
    have hmm : ¬ ((ms.length : Nat) : Int) < ns.length := by omega
    obtain ⟨v7, s1, s2, _⟩ := h6.sl.1.take (n := ns.length) (by rw [List.length_map]; exact hml) .i64
    have s1' : sliceV 4 v6 none (some (.int .i64 (ns.length : Int))) = some v7 := s1
    have s2' : Sl 4 w6 v7 (ns.map Nt.row) := by
      rw [← List.map_take, ← List.prefix_iff_eq_take.1 hpre] at s2
      exact s2
    have hal : ¬ (((allL ms).length : Nat) : Int) < (allL ns).length := by
      obtain ⟨t, rfl⟩ := hpre
      have : (allL (ns ++ t)).length = (allL ns).length + (allL t).length := by simp [allL]
      omega
    simp only [y0, y1, Run_bindO_some, l6, hvl, binV_int, intBin_lss, hmm, decide_false, Run_bind, Run_guardM_ff, Run_ret, Run_optM_some, s1']
    refine (same_run s2' (hva.fr0 f16) (by omega)).mono ?_
    rintro _ w7 ⟨rfl, f7⟩
    have f17 := f16.trans f7 fun _ _ => id
    simp only [hnv, Bool.not_true, Run_bindO_some, Run_bind, Run_guardM_ff, Run_ret, lenS_string, sb_size, Run_optM_some, binV_int, intBin_lss, hal, decide_false, pickV_bool, cond_false, Run_condM_false, intBin_eql]
    by_cases hz : ns = []
    · subst hz
      simp only [List.length_nil, en, Run_condM_true, Run_ret, Int.natCast_zero, decide_true]
      exact ⟨trivial, fa.trans f17 fun _ _ => id⟩
    have hz' : decide (((ns.length : Nat) : Int) = 0) = false := decide_eq_false (by have : ns.length ≠ 0 := by simpa using hz
                                                                                     omega)
    have hs0 : 0 < (allL ns).length := by
      obtain ⟨n, r, rfl⟩ := List.exists_cons_of_ne_nil hz
      have := note_len n
      simp [allL]; omega
    obtain ⟨p, hp⟩ := plc_ex at_ hs0 (by omega)
    obtain ⟨hp1, q, q', k1, k2, k3⟩ := id hp
    simp only [binV_int] at k1 k2 k3
    obtain ⟨J, n, hJ, j1, j2, j3⟩ := line_ex hp1
    have hJl : J < ns.length := (List.getElem?_eq_some_iff.1 hJ).1
    simp only [hz', binV_int, Run_condM_false, k1, k2, k3, Run_bindO_some, Run_bind]
    have hO7 : OwnE wa w7 u (endsL ns ns.length) := by
      have f : Fr (fun _ => False) w1 w7 := ((((f2.trans f3 fun _ _ => id).trans h4.fr fun _ _ => id).trans f5 fun _ _ => id).trans h6.fr fun _ _ => id).trans f7 fun _ _ => id
      exact hO.frm f
    have rd : ∀ j, j < ns.length → ∃ p, idxA 1 u (.int .i64 (j : Int)) = some p ∧ ld1 p w7 = some (.int .i64 (((allL (ns.take (j + 1))).length : Nat) : Int)) := fun j hj =>
      hO7.sl.1.rd1 (i := j) (endsL_at hj) .i64
    refine Run_for J (fun i L w' => L = [.int .i64 (i : Int)] ∧ w' = w7) ⟨rfl, rfl⟩ ?_ ?_
    · rintro i L w8 hi ⟨rfl, rfl⟩
      obtain ⟨p8, p1, p2⟩ := rd i (by omega)
      have hle : (((allL (ns.take (i + 1))).length : Nat) : Int) ≤ (p : Int) := by have := j1 i hi; omega
      rw [getL_zero, p1, Run_bindO_some, Run_bind, Run_rdM]
      refine ⟨_, p2, ?_⟩
      rw [binV_int, intBin_leq, decide_eq_true hle, Run_bindO_some, Run_condM_true, binV_int, intBin_add, wrap_succ' (by omega), Run_bindO_some, Run_ret]
      exact ⟨rfl, rfl⟩
    · rintro L w8 ⟨rfl, rfl⟩
      obtain ⟨p8, p1, p2⟩ := rd J hJl
      have hle : ¬ (((allL (ns.take (J + 1))).length : Nat) : Int) ≤ (p : Int) := by omega
      rw [getL_zero, p1, Run_bindO_some, Run_bind, Run_rdM]
      refine ⟨_, p2, ?_⟩
      rw [binV_int, intBin_leq, decide_eq_false hle, Run_bindO_some, Run_condM_false, Run_ret]
      simp only [outK_exit]
      rw [show Nat.beq 2 2 = true from rfl, cond_true, Run_bind]
      have start : ∀ {K : Out → World → Prop}, K (.norm [.int .i64 (((allL (ns.take J)).length : Nat) : Int)]) w8 → Run (bindO (binV BinOp.gtr (.int .i64 (J : Int)) (Value.int IntKind.i64 0)) fun x95 =>
          condM x95 (
            bindO (binV BinOp.sub (.int .i64 (J : Int)) (Value.int IntKind.i64 1)) fun x96 =>
            bindO (idxA 1 u x96) fun x97 =>
            M.bind (rdM (ld1 x97)) fun x98 =>
            M.ret (Out.norm [x98])) (
            M.ret (Out.norm [(Value.int IntKind.i64 0)]))) w8 K := fun {K} hK => by
        cases J with
        | zero =>
          simp only [allL, List.take_zero, List.map_nil, List.flatten_nil, List.length_nil] at hK
          rw [binV_int, intBin_gtr, show decide (((0 : Nat) : Int) > 0) = false from rfl, Run_bindO_some, Run_condM_false, Run_ret]
          exact hK
        | succ j =>
          have hg : decide (((j + 1 : Nat) : Int) > 0) = true := decide_eq_true (by omega)
          have hw : IntKind.i64.wrap (((j + 1 : Nat) : Int) - 1) = (j : Int) := by rw [show ((j + 1 : Nat) : Int) - 1 = (j : Int) by omega]; exact i64W (by omega)
          obtain ⟨p9, p3, p4⟩ := rd j (by omega)
          rw [binV_int, intBin_gtr, hg, Run_bindO_some, Run_condM_true, binV_int, intBin_sub, hw, Run_bindO_some, p3, Run_bindO_some, Run_bind, Run_rdM]
          refine ⟨_, p4, ?_⟩
          rw [Run_ret]
          exact hK
      rw [getL_zero]
      refine start ?_
      simp only [outK_norm]
      rw [Run_bind]
      refine (spoilt_run hp (by omega) by_).mono ?_
      rintro _ w9 ⟨⟨x, c, c', y, hxy, hxp, hcc, rfl⟩, f9⟩
      have f19 := f17.trans f9 fun _ _ => id
      have hlen : (x ++ c' :: y).length = (allL ns).length := by rw [hxy]; simp
      have ea3 := sbAdd (a := x ++ c' :: y) (c := more) (by omega)
      have hch := turned_chn (more := more) hok hJ hxy (by omega) (by omega) hcc
      simp only [ea3, Run_bindO_some, Run_bind]
      refine (parse_run (ta.fr0 f19) (by rw [List.length_append]; omega) hch).mono ?_
      rintro _ w10 ⟨v10, rfl, h10⟩
      have f110 := f19.trans h10.fr fun _ _ => id
      obtain ⟨v11, z1, z2, _⟩ := (hva.fr0 f110).take (n := J) (by rw [List.length_map]; omega) .i64
      have z1' : sliceV 4 v none (some (.int .i64 (J : Int))) = some v11 := z1
      rw [← List.map_take] at z2
      simp only [y0, y1, Run_bindO_some, getL_zero, z1', Run_bind]
      refine (same_run h10.sl.1 z2 (by rw [List.length_take]; omega)).mono ?_
      rintro _ w11 ⟨rfl, f11⟩
      simp only [Run_bind, Run_guardM_tt, Run_ret, Run_optM_some, binV_int, intBin_eql, en, decide_true, pickV_bool, cond_true, Run_bindO_some]
      exact ⟨trivial, fa.trans (f110.trans f11 fun _ _ => id) fun _ _ => id⟩
end
theorem rd_notes {w : World} {v : Value} {n : Nat} (h : (Shs.slice (.int .i64 (.int .i64 (.int .i64 (.int .i64 .nil)))) .nil).Rd w [v] n) (hn : n ≤ 1048576) : ∃ ns : List Nt, Sl 4 w v (ns.map Nt.row) ∧ ns.length ≤ 1048576 := by
  obtain ⟨l, h1, h2⟩ := h.slice1 (T := Nt) (f := Nt.row) fun c k hk hc => by
    obtain ⟨m, hm⟩ := rd4 (cs := c.toArray) (by simpa using hc)
    refine ⟨m, ?_⟩
    have : c.toArray = m.row.toArray := by simpa [Nt.v, Nt.row] using hm
    exact congrArg Array.toList this
  exact ⟨l, h1, by omega⟩
theorem jtb_of {W : World} (h : laidMetH Tryd.prog Rows.paperJournalUptoRow.laid W) (hsh : W.ShapedOpen Tryd.prog) : Tb W := tb_of h hsh
theorem paperJournal_top {W : World} {v : Value} {n : Nat} (hv : (Shs.slice (.int .i64 (.int .i64 (.int .i64 (.int .i64 .nil)))) .nil).Rd W [v] n) {cs : Array Value} {n1 : Nat} (hl : (Shs.int .i64 (.int .i64 (.int .i64 (.int .i64 .nil)))).Rd W cs.toList n1) (torn at_ by_ : Int) {n5 : Nat} (s : ByteArray) (hs : s.size + 1 ≤ n5)
    {k2 k3 k4 : Nat} (hk : n + n1 + k2 + k3 + k4 + n5 ≤ 1048576) (hL : laidMetH Tryd.prog Rows.paperJournalUptoRow.laid W) (hsh : W.ShapedOpen Tryd.prog) :
    Run (F.granarylaw4_PaperJournal v (.agg cs) (.int .i64 torn) (.int .i64 at_) (.int .i64 by_) (.string s)) W fun r w' => r = .bool true ∧ Fr (fun _ => False) W w' := by
  obtain ⟨m, hm⟩ := rd4 hl
  obtain ⟨ns, h1, h2⟩ := rd_notes hv (by omega)
  rw [hm, sb_self s]
  have hl : s.data.toList.length = s.size := Array.length_toList
  exact journal_walk (jtb_of hL hsh) h1 h2 m torn at_ by_ (by omega)
end Go.Proofs.YthlpfhjcdedhgaaDoor
