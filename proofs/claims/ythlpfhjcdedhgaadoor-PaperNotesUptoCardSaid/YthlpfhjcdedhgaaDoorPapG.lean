/-
  Layer 4 (paper): part G: a number's text; the tables that the library keeps.
-/
import Derived.Test.YthlpfhjcdedhgaaDoorPapF
import Derived.Test.YthlpfhjcdedhgaaDoorLiftX
namespace Go.Proofs.YthlpfhjcdedhgaaDoor
open Go.Lift Go.Sort
set_option linter.unusedSimpArgs false
set_option linter.unusedVariables false
set_option maxHeartbeats 4000000
section
variable {w w1 w2 : World}
/-- The tables that the library keeps. -/
structure Tb (w : World) : Prop where
  nib : bk w 0 = some nibV
  ml : ∃ m : Int, bk w 1 = some [.int .i64 m]
  p10 : bk w 2 = some (Lib.pow10Tab.map fun z => Value.int .u64 z)
  bits : BitsTab w
theorem Tb.fr {F : Nat → Prop} (h : Tb w) (f : Fr F w w1) (hF : ∀ b, b < 5 → ¬ F b) : Tb w1 where
  nib := f.bk_some h.nib (hF 0 (by decide))
  ml := by obtain ⟨m, hm⟩ := h.ml; exact ⟨m, f.bk_some hm (hF 1 (by decide))⟩
  p10 := f.bk_some h.p10 (hF 2 (by decide))
  bits := by obtain ⟨l, h1, h2⟩ := h.bits; exact ⟨l, f.bk_some h1 (hF 4 (by decide)), h2⟩
theorem Tb.fr0 (h : Tb w) (f : Fr (fun _ => False) w w1) : Tb w1 := h.fr f fun _ _ => id
theorem Tb.tab (h : Tb w) : Lib.TabIs Tryd.prog w "internal/strconv.uint64pow10" .u64 Lib.pow10Tab := by
  have hg : Tryd.prog.globalNamed "internal/strconv.uint64pow10" = some 2 := by kernel_rfl
  obtain ⟨c, e, m, hh, hc⟩ := bk_cells h.p10
  unfold Lib.TabIs World.var?
  rw [hg]
  show (match w.heap[2]? with | some (.cells cs _ _) => some cs | _ => none) = _
  rw [hh, ← hc]
theorem fr_grow (w : World) (k : Nat) (os : Array Obj) : Fr (fun _ => False) w (grow (w.drewN k) os) where
  os := rfl
  tape := rfl
  output := rfl
  size := by show w.heap.size ≤ (w.heap ++ os).size; simp
  block := fun b hb _ => heap_grow_old (w.drewN k) os hb
theorem calls_post {P : Program} {f : FuncId} {args : Array Value} {w w1 : World} {v1 : Value} {R : Value → World → Prop} (h1 : Calls P f args w fun e w'' => e = .returned v1 ∧ w'' = w1)
    (h2 : Calls P f args w fun e w'' => ∃ v, e = .returned v ∧ R v w'') (hi : P.inits.idxOf? f = none) : R v1 w1 := by
  obtain ⟨e, w', fr, ⟨rfl, rfl⟩, ⟨a, ha⟩, hf, hl⟩ := h1 []
  obtain ⟨e', w'', fr', ⟨v, rfl, hR⟩, ⟨b, hb⟩, hf', hl'⟩ := h2 []
  have d := step_leave_done hl (by rw [hf]; exact hi)
  have d' := step_leave_done hl' (by rw [hf']; exact hi)
  have hab : a = b := Nat.le_antisymm (ended_lt hb d' ha) (ended_lt ha d hb)
  subst hab
  rw [ha] at hb
  have hm := Stepped.next.inj hb
  rw [hm] at d
  rw [d] at d'
  simp only [Stepped.ended.injEq, Outcome.done.injEq] at d'
  obtain ⟨rfl, rfl⟩ := d'
  exact hR
theorem own20 : Own Tryd.prog 20 := ⟨⟨_, Tryd.func20, by kernel_rfl, by kernel_rfl⟩, by kernel_rfl⟩
theorem nDig_le {n : Nat} (h1 : 1 ≤ n) (h : n < 18446744073709551616) : Lib.nDigits n ≤ 20 := by
  have := Lib.numDigits_eq n h1 h
  have h2 := this.1
  split at h2 <;> omega
theorem itoa_ends (ht : Tb w) {n : Nat} (hn : n < 9223372036854775808) : Run (F.strconv_Itoa (.int .i64 n)) w fun _ _ => True := by
  unfold F.strconv_Itoa F.strconv_Itoa_42 F.strconv_FormatInt_64
  have h0 : (0 : Int) ≤ (n : Int) := by omega
  have hnn : ¬ (n : Int) < 0 := by omega
  by_cases h100 : n < 100
  · have h1 : (n : Int) < 100 := by omega
    simp [h0, h1]
    exact ⟨_, _, by unfold F.strconv_small; simp only; rw [if_pos ⟨h0, h1⟩], trivial⟩
  · have h1 : ¬ (n : Int) < 100 := by omega
    have c0 : IntKind.u64.wrap (n : Int) = n := u64W (by omega)
    simp [-ldA_ptr, h0, h1, hnn, c0]
    refine Run_new fun x w1 hx hxw f1 hxle => ?_
    have ht1 := ht.fr0 f1
    have hd := nDig_le (n := n) (by omega) (by omega)
    have hp := Lib.nDigits_pos n
    have e1 : F.strconv_numDigits (.int .u64 (n : Int)) w1 = some (.int .i64 (Lib.nDigits n), w1) := by
      unfold F.strconv_numDigits
      simp only
      rw [if_pos ⟨⟨by omega, by omega⟩, ht1.tab⟩]
      simp
    have wn : IntKind.i64.wrap (1 + ((Lib.nDigits n : Nat) : Int)) = ((1 + Lib.nDigits n : Nat) : Int) := by
      rw [show 1 + ((Lib.nDigits n : Nat) : Int) = ((1 + Lib.nDigits n : Nat) : Int) by omega]; exact i64W (by omega)
    generalize hnd : Lib.nDigits n = nd at *
    have es : sliceR 24 1 (.pointer (some ⟨x, 0, none⟩)) (some (.int .i64 1)) (some (.int .i64 ((1 + nd : Nat) : Int))) = some (.slice (some ⟨x, 1, none⟩) nd 23) := by
      have b1 : boundV (.int .i64 1) (1 + nd) = some 1 := by
        unfold boundV
        simp only
        rw [if_pos (by omega)]
        simp
      have b2 : boundV (.int .i64 ((1 + nd : Nat) : Int)) 24 = some (1 + nd) := by
        unfold boundV
        simp only
        rw [if_pos (by omega)]
        rfl
      simp only [sliceR, highV, lowV, b2, b1]
      rw [if_neg (by omega)]
      simp [Addr.add_lit]
    have hrow : Row w1 (.slice (some ⟨x, 1, none⟩) nd 23) nd := by
      refine ⟨List.replicate nd 0, by simp, ⟨fun e he => ?_, some ⟨x, 1, none⟩, 23, by simp, by simp; omega, .inr ⟨x, 1, _, rfl, hx, by simp, ?_⟩⟩, fun b hb _ => ?_⟩
      · obtain ⟨y, _, rfl⟩ := List.mem_map.1 he; rfl
      · have ez : ∀ k, ((List.replicate k (0 : UInt8)).map fun b => [by8 b]).flatten = List.replicate k (by8 0) := fun k => by
          induction k with
          | zero => rfl
          | succ k ih => simp only [List.replicate_succ, List.map_cons, List.flatten_cons, ih]; rfl
        rw [ez]
        show ((List.replicate 24 (by8 0)).drop 1).take _ = _
        rw [List.drop_replicate, List.take_replicate, List.length_map, List.length_replicate, Nat.mul_one, Nat.min_eq_left (by omega)]
      · cases hb
        exact hxw
    refine ⟨_, _, e1, ?_⟩
    simp only [Run_bindO_some, binV_int, intBin_add, wn, es, Run_bind]
    refine (fb10_run hrow (by omega) hp (by omega)).mono ?_
    rintro _ w2 hr2
    obtain ⟨l, hl, hs⟩ := hr2
    have hlt : intBin .lss .i64 (n : Int) 0 = some (.bool false) := by simp [hnn]
    simp only [hlt, Run_bindO_some, Run_condM_false, wn, es, Run_bind, Run_rdM, Run_ret]
    exact ⟨_, ownB_text hs.1, trivial⟩
def itoaS (n : Nat) : ByteArray := ⟨(Lib.decDigits n).toArray⟩
theorem itoa_run (ht : Tb w) {n : Nat} (hn : n < 9223372036854775808) : Run (F.strconv_Itoa (.int .i64 n)) w fun r w' => r = .string (itoaS n) ∧ Fr (fun _ => False) w w' := by
  obtain ⟨v, w1, e, _⟩ := itoa_ends ht hn
  have g := got_own own20 (F.strconv_Itoa.lift [.int .i64 (n : Int)] w v w1 e)
  have c := Tryd.strconv_Itoa (n : Int) (by omega) (by omega) w ht.tab
  obtain ⟨h1, k, os, h2⟩ := calls_post (R := fun v w' => v = .string ⟨(Lib.itoa n).toArray⟩ ∧ ∃ k os, w' = grow (w.drewN k) os) g (c.mono fun e w' h => ⟨_, h.1, rfl, h.2⟩) (by kernel_rfl)
  refine ⟨v, w1, e, ?_, by rw [h2]; exact fr_grow w k os⟩
  rw [h1]
  unfold Lib.itoa itoaS
  rw [if_neg (by omega), Int.toNat_natCast]
end
end Go.Proofs.YthlpfhjcdedhgaaDoor
