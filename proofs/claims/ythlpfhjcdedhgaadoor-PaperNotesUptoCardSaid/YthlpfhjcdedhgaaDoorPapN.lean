/-
  Layer 4 (paper): part N: the document's reader: numbers, what must stand.
-/
import Derived.Test.YthlpfhjcdedhgaaDoorPapM
namespace Go.Proofs.YthlpfhjcdedhgaaDoor
open Go.Lift Go.Sort
set_option linter.unusedSimpArgs false
set_option linter.unusedVariables false
set_option maxHeartbeats 4000000
/-- The digits at a place, seventeen at most. -/
def rdD (l : List UInt8) (p : Nat) : List UInt8 := runD ((l.drop p).take 17)
theorem rdD_len (l : List UInt8) (p : Nat) : (rdD l p).length ≤ 17 ∧ (rdD l p).length ≤ l.length - p := by
  have h1 := runD_le ((l.drop p).take 17)
  rw [List.length_take, List.length_drop] at h1
  unfold rdD
  omega
theorem rdD_at (l : List UInt8) (p : Nat) {i : Nat} (h : i < (rdD l p).length) : ∃ c, l[p + i]? = some c ∧ isD c = true ∧ (rdD l p)[i]? = some c := by
  obtain ⟨c, h1, h2⟩ := runD_at _ h
  have h3 := (rdD_len l p).1
  have h4 : (rdD l p)[i]? = some c := by
    unfold rdD
    rw [← runD_take]
    unfold rdD at h h3
    rw [List.getElem?_take_of_lt h, h1]
  rw [List.getElem?_take_of_lt (by omega), List.getElem?_drop] at h1
  exact ⟨c, h1, h2, h4⟩
theorem rdD_end (l : List UInt8) (p : Nat) (h17 : (rdD l p).length < 17) {c : UInt8} (h : l[p + (rdD l p).length]? = some c) : isD c = false := by
  refine runD_end ((l.drop p).take 17) (c := c) ?_
  unfold rdD at h17 h
  rw [List.getElem?_take_of_lt h17, List.getElem?_drop]
  exact h
section
variable {w w1 w2 : World}
/-- The reader in memory. -/
def RS (w : World) (b : Nat) (l : List UInt8) (p : Nat) (bad : Bool) : Prop := bk w b = some [.string (sb l), .int .i64 (p : Int), .bool bad] ∧ wr w b = true
theorem RS.drew {b p : Nat} {l : List UInt8} {bad : Bool} (h : RS w b l p bad) : RS w.drew b l p bad := h
theorem RS.at {b p : Nat} {l : List UInt8} {bad : Bool} (h : RS w b l p bad) (p' : Nat) : RS (sto w b 1 [.int .i64 (p' : Int)]) b l p' bad := by
  refine ⟨?_, by rw [wr_sto]; exact h.2⟩
  rw [bk_sto_same h.1]
  rfl
theorem RS.bad {b p : Nat} {l : List UInt8} {bad : Bool} (h : RS w b l p bad) : RS (sto w b 2 [.bool true]) b l p true := by
  refine ⟨?_, by rw [wr_sto]; exact h.2⟩
  rw [bk_sto_same h.1]
  rfl
theorem rnum_run {b p : Nat} {l : List UInt8} {bad : Bool} (h : RS w b l p bad) (hp : p ≤ l.length) (hl : l.length ≤ 4611686018427387904) :
    Run (F.granaryref4_Reader_number (.pointer (some ⟨b, 0, none⟩))) w fun r w' => r = .int .i64 (((numF (rdD l p)).getD 0 : Nat) : Int) ∧ RS w' b l (p + (rdD l p).length) (bad || (numF (rdD l p)).isNone) ∧ Fr (fun c => c = b) w w' := by
  unfold F.granaryref4_Reader_number
  obtain ⟨hb, hw⟩ := h
  have hd := rdD_len l p
  simp [-ldA_ptr, hb]
  refine Run_for (rdD l p).length (fun i L w' => L = [.int .i64 ((valL ((rdD l p).take i) : Nat) : Int)] ∧ RS w' b l (p + i) bad ∧ Fr (fun c => c = b) w w') ⟨rfl, ⟨hb, hw⟩, Fr.refl _ _⟩ ?_ ?_
  · rintro i L w1 hi ⟨rfl, ⟨hb1, hw1⟩, f1⟩
    obtain ⟨c, hc, hdg, hci⟩ := rdD_at l p hi
    have hpi : p + i < l.length := by omega
    simp only [isD, decide_eq_true_eq] at hdg
    have h1 : ((p + i : Nat) : Int) < l.length := by omega
    have w1' : IntKind.i64.wrap (((p + i : Nat) : Int) - p) = (i : Int) := by rw [show ((p + i : Nat) : Int) - p = (i : Int) by omega]; exact i64W (by omega)
    have h2 : (i : Int) < 17 := by omega
    have ix := idxSb (kd := .i64) hc
    have h3 : (48 : Int) ≤ c.toNat := by omega
    have h4 : (c.toNat : Int) ≤ 57 := by omega
    have hlen : (sb l).size = l.length := sb_size l
    have hv := valL_snoc ((rdD l p).take i) c
    rw [← take_snocP hci] at hv
    have hall : ((rdD l p).take i).all isD = true := List.all_eq_true.2 fun x hx => List.all_eq_true.1 (runD_all _) x (List.mem_of_mem_take hx)
    have hlt := valL_lt _ hall
    have h17 : 10 ^ ((rdD l p).take i).length ≤ 10 ^ 17 := Nat.pow_le_pow_right (by decide) (by rw [List.length_take]; omega)
    have e17 : (10 : Nat) ^ 17 = 100000000000000000 := by decide
    rw [e17] at h17
    have hct := c.toNat_lt
    generalize valL ((rdD l p).take i) = V at *
    generalize valL ((rdD l p).take (i + 1)) = V' at *
    have wq := wrap_succ' (n := p + i) (by omega)
    rw [show p + (i + 1) = p + i + 1 by omega]
    generalize p + i = q at *
    have w2' : IntKind.i64.wrap (10 * (V : Int)) = ((10 * V : Nat) : Int) := by rw [show 10 * (V : Int) = ((10 * V : Nat) : Int) by omega]; exact i64W (by omega)
    have w3' : IntKind.u8.wrap ((c.toNat : Int) - 48) = ((c.toNat - 48 : Nat) : Int) := by rw [show (c.toNat : Int) - 48 = ((c.toNat - 48 : Nat) : Int) by omega]; exact u8W (by omega)
    have w4' : IntKind.i64.wrap ((c.toNat - 48 : Nat) : Int) = ((c.toNat - 48 : Nat) : Int) := i64W (by omega)
    have w5' : IntKind.i64.wrap (((10 * V : Nat) : Int) + ((c.toNat - 48 : Nat) : Int)) = (V' : Int) := by rw [show ((10 * V : Nat) : Int) + ((c.toNat - 48 : Nat) : Int) = (V' : Int) by omega]; exact i64W (by omega)
    simp [-ldA_ptr, -Int.natCast_mul, hb1, hlen, h1, w1', h2, ix, by8, h3, h4, w2', w3', w4', w5', wq, hw1]
    have hR : RS w1.drew.drew b l q bad := ⟨hb1, hw1⟩
    exact ⟨hR.at (q + 1), (f1.drew.drew).sto (.inl rfl) _ _⟩
  · rintro L w1 ⟨rfl, ⟨hb1, hw1⟩, f1⟩
    have hlen : (sb l).size = l.length := sb_size l
    have hJ : (rdD l p).length ≤ 17 := hd.1
    have hJ2 : p + (rdD l p).length ≤ l.length := by omega
    have wJ : IntKind.i64.wrap (((p + (rdD l p).length : Nat) : Int) - p) = ((rdD l p).length : Int) := by rw [show ((p + (rdD l p).length : Nat) : Int) - p = ((rdD l p).length : Int) by omega]; exact i64W (by omega)
    have hR : RS w1.drew b l (p + (rdD l p).length) bad := ⟨hb1, hw1⟩
    have htk : (rdD l p).take (rdD l p).length = rdD l p := List.take_length
    refine Run.mono (Q := fun o w' => o = .exit 0 [.int .i64 ((valL (rdD l p) : Nat) : Int)] ∧ RS w' b l (p + (rdD l p).length) bad ∧ Fr (fun c => c = b) w w') ?_ ?_
    · rw [htk]
      by_cases e1 : p + (rdD l p).length < l.length
      · by_cases e2 : (rdD l p).length < 17
        · obtain ⟨c, hc⟩ : ∃ c, l[p + (rdD l p).length]? = some c := ⟨_, List.getElem?_eq_getElem e1⟩
          have hng := rdD_end l p e2 hc
          simp only [isD, decide_eq_false_iff_not] at hng
          have ix := idxSb (kd := .i64) hc
          have h1 : ((p + (rdD l p).length : Nat) : Int) < l.length := by omega
          have h2 : ((rdD l p).length : Int) < 17 := by omega
          generalize p + (rdD l p).length = q at *
          by_cases e3 : 48 ≤ c.toNat
          · have h3 : (48 : Int) ≤ c.toNat := by omega
            have h4 : ¬ (c.toNat : Int) ≤ 57 := by omega
            simp [-ldA_ptr, hb1, hlen, h1, wJ, h2, ix, by8, h3, h4, hR, f1.drew]
          · have h3 : ¬ (48 : Int) ≤ c.toNat := by omega
            simp [-ldA_ptr, hb1, hlen, h1, wJ, h2, ix, by8, h3, hR, f1.drew]
        · have h1 : ((p + (rdD l p).length : Nat) : Int) < l.length := by omega
          have h2 : ¬ ((rdD l p).length : Int) < 17 := by omega
          generalize p + (rdD l p).length = q at *
          simp [-ldA_ptr, hb1, hlen, h1, wJ, h2, hR, f1.drew]
      · have h1 : ¬ ((p + (rdD l p).length : Nat) : Int) < l.length := by omega
        generalize p + (rdD l p).length = q at *
        simp [-ldA_ptr, hb1, hlen, h1, wJ, hR, f1.drew]
    · rintro _ w2 ⟨rfl, hR2, f2⟩
      clear hR hw1 hb1 f1
      obtain ⟨hb2, hw2⟩ := hR2
      have hR2 : RS w2 b l (p + (rdD l p).length) bad := ⟨hb2, hw2⟩
      have hdall : (rdD l p).all isD = true := runD_all _
      have hbadR := hR2.bad
      have hbadF : Fr (fun c => c = b) w (sto w2 b 2 [.bool true]) := f2.sto (.inl rfl) _ _
      by_cases c1 : (rdD l p).length < 1
      · have hnum : numF (rdD l p) = none := by
          unfold numF
          rw [if_pos (.inl (List.eq_nil_of_length_eq_zero (by omega)))]
        have h1 : ((rdD l p).length : Int) < 1 := by omega
        rw [hnum]
        generalize p + (rdD l p).length = q at *
        simp [-ldA_ptr, hb2, wJ, h1, hw2]
        exact ⟨hbadR, hbadF⟩
      by_cases c2 : 16 < (rdD l p).length
      · have hnum : numF (rdD l p) = none := by
          unfold numF
          rw [if_pos (.inr (.inl c2))]
        have h1 : ¬ ((rdD l p).length : Int) < 1 := by omega
        have h2 : (16 : Int) < (rdD l p).length := by omega
        rw [hnum]
        generalize p + (rdD l p).length = q at *
        simp [-ldA_ptr, hb2, wJ, h1, h2, hw2]
        exact ⟨hbadR, hbadF⟩
      obtain ⟨c, hc, _, hc0⟩ := rdD_at l p (i := 0) (by omega)
      have ix := idxSb (kd := .i64) (i := p) hc
      have hh : (rdD l p).head? = some c := by rw [List.head?_eq_getElem?]; exact hc0
      have h1 : ¬ ((rdD l p).length : Int) < 1 := by omega
      have h2 : ¬ (16 : Int) < (rdD l p).length := by omega
      have hz : ((c.toNat : Int) = 48) ↔ c = 48 := by
        constructor
        · intro h
          have : c.toNat = (48 : UInt8).toNat := by have : c.toNat = 48 := by omega
                                                    rw [this]; rfl
          exact UInt8.toNat_inj.1 this
        · rintro rfl; rfl
      have hgood : ¬ (1 < (rdD l p).length ∧ c = 48) → numF (rdD l p) = some (valL (rdD l p)) := by
        intro hn
        unfold numF
        rw [if_neg]
        rintro (h | h | ⟨h, h'⟩ | h)
        · rw [h] at c1; simp at c1
        · exact c2 h
        · rw [hh] at h'; cases h'; exact hn ⟨h, rfl⟩
        · rw [hdall] at h; cases h
      by_cases c3 : 1 < (rdD l p).length
      · have h3 : (1 : Int) < (rdD l p).length := by omega
        by_cases c4 : c = 48
        · have hnum : numF (rdD l p) = none := by
            unfold numF
            rw [if_pos (.inr (.inr (.inl ⟨c3, by rw [hh, c4]⟩)))]
          have h4 := hz.2 c4
          rw [hnum]
          generalize p + (rdD l p).length = q at *
          simp [-ldA_ptr, hb2, wJ, h1, h2, h3, hw2, ix, by8, h4]
          exact ⟨hbadR, hbadF⟩
        · have h4 : ¬ (c.toNat : Int) = 48 := fun h => c4 (hz.1 h)
          rw [hgood fun h => c4 h.2]
          generalize p + (rdD l p).length = q at *
          simp [-ldA_ptr, hb2, wJ, h1, h2, h3, hw2, ix, by8, h4, hR2, f2]
      · have h3 : ¬ (1 : Int) < (rdD l p).length := by omega
        rw [hgood fun h => c3 h.1]
        generalize p + (rdD l p).length = q at *
        simp [-ldA_ptr, hb2, wJ, h1, h2, h3, hw2, hR2, f2]
end
end Go.Proofs.YthlpfhjcdedhgaaDoor
