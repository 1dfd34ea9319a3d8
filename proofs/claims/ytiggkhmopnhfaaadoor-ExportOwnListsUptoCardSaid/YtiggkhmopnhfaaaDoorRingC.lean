/-
  Layer 6 (ring), part C: rising lists, and the homes of the partitions.
-/
import Derived.Test.YtiggkhmopnhfaaaDoorRingB
namespace Go.Proofs.YtiggkhmopnhfaaaDoor
open Go.Lift
set_option linter.unusedSimpArgs false

/-- A list that does not fall. -/
def sortedP (l : List Int) : Prop := ∀ (i : Nat) (a b : Int), l[i]? = some a → l[i + 1]? = some b → a ≤ b
/-- v lies in memory that is new in w'. -/
def New (w w' : World) (v : Value) : Prop := ∀ b, inB v b → w.heap.size ≤ b ∧ b < w'.heap.size

theorem wrap_nat {n : Nat} (h : n < 9223372036854775808) : IntKind.i64.wrap (n : Int) = n := by simp [IntKind.wrap, IntKind.bits, IntKind.signed]; omega
theorem wrap_succ {n : Nat} (h : n + 1 < 9223372036854775808) : IntKind.i64.wrap ((n : Int) + 1) = ((n + 1 : Nat) : Int) := by simp [IntKind.wrap, IntKind.bits, IntKind.signed]; omega
theorem wrap_add {n m : Nat} (h : n + m < 9223372036854775808) : IntKind.i64.wrap ((n : Int) + (m : Int)) = ((n + m : Nat) : Int) := by simp [IntKind.wrap, IntKind.bits, IntKind.signed]; omega
theorem wrap_pred {n : Nat} (h : n + 1 < 9223372036854775808) : IntKind.i64.wrap (((n + 1 : Nat) : Int) - 1) = (n : Int) := by simp [IntKind.wrap, IntKind.bits, IntKind.signed]; omega

theorem less_run (w : World) (a b : Int) {Q : Value → World → Prop} : Run (F.cmp_Less_inst (.int .i64 a) (.int .i64 b)) w Q ↔ Q (.bool (decide (a < b))) w := by
  unfold F.cmp_Less_inst F.cmp_isNaN_inst
  simp

theorem sorted_run {w : World} {v : Value} {l : List Int} (h : Ints w v l) (hn : l.length < 9223372036854775808) :
    Run (F.sort_IntsAreSorted v) w fun r w' => (∃ b : Bool, r = .bool b ∧ (b = true ↔ sortedP l)) ∧ Fr (fun _ => False) w w' := by
  unfold F.sort_IntsAreSorted F.slices_IsSorted_inst
  simp [h.lenL]
  by_cases h0 : l.length = 0
  · have hw : IntKind.i64.wrap (((0 : Nat) : Int) - 1) = -1 := by simp [IntKind.wrap, IntKind.bits, IntKind.signed]
    have hs : sortedP l := by
      obtain rfl := List.eq_nil_of_length_eq_zero h0
      intro i a b h; simp at h
    refine Run_for 0 (fun i l w'' => l = [.int .i64 (-1)] ∧ w'' = w) ?_ (fun i _ _ hi => absurd hi (Nat.not_lt_zero _)) ?_
    · simp [h0] at hw ⊢; exact hw
    · rintro l' w'' ⟨rfl, rfl⟩
      simp [hs, Fr.refl]
  · obtain ⟨n, hl⟩ : ∃ n, l.length = n + 1 := ⟨l.length - 1, by omega⟩
    refine Run_for n (fun i l' w'' => i ≤ n ∧ l' = [.int .i64 ((n - i : Nat) : Int)] ∧ Fr (fun _ => False) w w'' ∧ ∀ (j : Nat) (a b : Int), n ≤ j + i → l[j]? = some a → l[j + 1]? = some b → a ≤ b) ⟨Nat.zero_le _, ?_, Fr.refl _ _, ?_⟩ ?_ ?_
    · rw [hl, wrap_pred (by omega)]; simp
    · intro j a b hj _ hb
      have := (List.getElem?_eq_some_iff.1 hb).1
      omega
    · rintro i l' w'' hi ⟨_, rfl, fr, ih⟩
      obtain ⟨m, hm⟩ : ∃ m, n - i = m + 1 := ⟨n - i - 1, by omega⟩
      have h1 : m + 1 < l.length := by omega
      have e1 : l[m + 1]? = some l[m + 1] := List.getElem?_eq_getElem h1
      have e2 : l[m]? = some l[m] := List.getElem?_eq_getElem (by omega)
      generalize l[m + 1] = a at e1
      generalize l[m] = b at e2
      have h' := h.fr0 fr
      obtain ⟨p, p1, p2⟩ := h'.rd1 (i := m + 1) (y := .int .i64 a) (by simp [e1]) .i64
      obtain ⟨q, q1, q2⟩ := h'.rd1 (i := m) (y := .int .i64 b) (by simp [e2]) .i64
      have hw := wrap_pred (n := m) (by omega)
      rw [hm]
      have hpos : (0 : Int) < ((m + 1 : Nat) : Int) := by omega
      simp at p1 hw hpos
      have p2' : ld1 p w''.drew = some (.int .i64 a) := p2
      have q2' : ld1 q w''.drew = some (.int .i64 b) := q2
      simp [p1, p2', q1, q2', hw, hpos, less_run]
      refine Run_cond (fun h => ?_) (fun h => ?_)
      · have : a < b := by simpa using h
        have hs : ¬ sortedP l := fun hs => by have := hs m b a e2 e1; omega
        simp [hs, fr.drew]
      · have : ¬ a < b := by simpa using h
        simp
        refine ⟨by omega, by omega, fr.drew, ?_⟩
        intro j c d hj hc hd
        by_cases hjm : n ≤ j + i
        · exact ih j c d hjm hc hd
        · obtain rfl : j = m := by omega
          rw [e2] at hc; rw [e1] at hd
          cases hc; cases hd
          omega
    · rintro l' w'' ⟨_, rfl, fr, ih⟩
      have hs : sortedP l := fun j a b ha hb => ih j a b (by omega) ha hb
      simp [hs, fr]

theorem nodup_sub_len {α : Type} [DecidableEq α] : ∀ {l m : List α}, l.Nodup → (∀ a ∈ l, a ∈ m) → l.length ≤ m.length
  | [], m, _, _ => Nat.zero_le _
  | a :: l, m, hn, hs => by
    have hn' := List.nodup_cons.1 hn
    have ha := hs a (by simp)
    have ih := nodup_sub_len (l := l) (m := m.erase a) hn'.2 fun b hb => by
      have hba : b ≠ a := fun h => hn'.1 (h ▸ hb)
      exact (List.mem_erase_of_ne hba).2 (hs b (by simp [hb]))
    have := List.length_erase_of_mem ha
    have hp : 0 < m.length := List.length_pos_of_mem ha
    simp only [List.length_cons]
    omega
end Go.Proofs.YtiggkhmopnhfaaaDoor
