/-
  Layer 6 (ring), part B: names and rising lists.
-/
import Derived.Test.YtiggkhmopnhfaaaDoorRingA
namespace Go.Proofs.YtiggkhmopnhfaaaDoor
open Go.Lift

/-- A letter of a store's name, at place i. -/
def nameC (i : Nat) (c : Nat) : Bool := (decide (97 ≤ c) && decide (c ≤ 122)) || (((decide (48 ≤ c) && decide (c ≤ 57)) || c == 45) && i != 0)
/-- May s be a store's name? -/
def nameP (s : ByteArray) : Prop := 1 ≤ s.size ∧ s.size ≤ 40 ∧ ∀ i (c : UInt8), s.data[i]? = some c → nameC i c.toNat = true

theorem nameOK_run (w : World) (s : ByteArray) : Run (F.ring_nameOK (.string s)) w fun r w' => (∃ b : Bool, r = .bool b ∧ (b = true ↔ nameP s)) ∧ Fr (fun _ => False) w w' := by
  unfold F.ring_nameOK
  by_cases h1 : (s.size : Int) < 1
  · have : ¬ nameP s := fun h => by have := h.1; omega
    simp [h1, this, Fr.refl]
  by_cases h2 : (s.size : Int) > 40
  · have : ¬ nameP s := fun h => by have := h.2.1; omega
    simp [h1, h2, this, Fr.refl]
  simp [h1, h2]
  refine Run_sbM fun r w' hr fr _ => ?_
  have hlen := hr.1.lenL
  simp [hlen]
  refine Run_for s.size (fun i l w'' => l = [.int .i64 i] ∧ w'' = w' ∧ ∀ j (c : UInt8), j < i → s.data[j]? = some c → nameC j c.toNat = true) ⟨rfl, rfl, fun j c hj => absurd hj (Nat.not_lt_zero _)⟩ ?_ ?_
  · rintro i l w'' hi ⟨rfl, rfl, ih⟩
    have hc : s.data[i]? = some s.data[i] := Array.getElem?_eq_getElem hi
    obtain ⟨p, e1, e2⟩ := hr.1.rd1 (i := i) (y := .int .u8 s.data[i].toNat) (by simp [hc]) .i64
    have hw : IntKind.i64.wrap (i + 1) = ((i + 1 : Nat) : Int) := by simp [IntKind.wrap, IntKind.bits, IntKind.signed]; omega
    generalize s.data[i] = c at hc e2
    simp [hi, e1, e2, hw]
    have step : nameC i c.toNat = true → ∀ (j : Nat) (c : UInt8), j < i + 1 → s.data[j]? = some c → nameC j c.toNat = true := by
      intro h j c' hj hc'
      by_cases hji : j < i
      · exact ih j c' hji hc'
      · obtain rfl : j = i := by omega
        rw [hc] at hc'; cases hc'
        exact h
    have bad : nameC i c.toNat = false → ¬ nameP s := fun h h' => by rw [h'.2.2 i c hc] at h; cases h
    repeat' ((first | refine Run_guard (fun h => ?_) (fun h => ?_) | refine Run_cond (fun h => ?_) (fun h => ?_)) <;> have h' := h <;> simp only [decide_eq_true_eq, decide_eq_false_iff_not, beq_iff_eq, beq_eq_false_iff_ne, ne_eq, Bool.not_eq_true', Bool.not_eq_false'] at h' <;> simp [*])
    all_goals first
      | exact bad (by simp [nameC]; omega)
      | exact step (by simp [nameC]; omega)
      | (exfalso; omega)
  · rintro l w'' ⟨rfl, rfl, ih⟩
    simp
    exact ⟨⟨by omega, by omega, fun i c hc => ih i c (Array.getElem?_eq_some_iff.1 hc).1 hc⟩, fr⟩
end Go.Proofs.YtiggkhmopnhfaaaDoor
