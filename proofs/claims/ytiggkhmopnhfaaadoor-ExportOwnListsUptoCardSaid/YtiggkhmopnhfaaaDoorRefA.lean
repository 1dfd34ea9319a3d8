/-
  The document's ring (granaryref6), part A: partitions, names, settings.
-/
import Derived.Test.YtiggkhmopnhfaaaDoorRingQ
import Derived.Test.YtiggkhmopnhfaaaDoorGZ
namespace Go.Proofs.YtiggkhmopnhfaaaDoor
open Go.Lift
set_option linter.unusedSimpArgs false
set_option maxHeartbeats 1000000

theorem idxS_at {s : ByteArray} {i : Nat} {c : UInt8} (h : s.data[i]? = some c) (k : IntKind) : idxS (.string s) (.int k i) = some (.int .u8 c.toNat) := by
  have : s[i]? = some c := by
    obtain ⟨hi, rfl⟩ := Array.getElem?_eq_some_iff.1 h
    exact getElem?_pos s i hi
  simp [idxS, this]

theorem parts6_run {w : World} {C : Clu} {nv : Value} {pvs : List Value} (hN : Nodes w nv C.nodes pvs) (hF : Fits C) :
    Run (F.granaryref6_Parts (C.val nv)) w fun r w' => r = .int .i64 C.count ∧ Fr (fun _ => False) w w' := by
  unfold F.granaryref6_Parts
  simp [Clu.val]
  refine Run_new fun b w0 hb _ fr0 _ => ?_
  have hb0 : bk w0 b = some (C.cells nv) := by simpa using hb
  have hl := hF.count
  have hp := hF.parts
  refine Run_for C.nodes.length (fun i l w'' => l = [.int .i64 (((C.nodes.take i).map (·.2.length)).sum : Nat), .int .i64 i] ∧ w'' = w0) ?_ ?_ ?_
  · exact ⟨by simp, rfl⟩
  · rintro i l w'' hi ⟨rfl, rfl⟩
    have hN' := hN.fr0 fr0
    have hg : C.nodes[i]? = some C.nodes[i] := List.getElem?_eq_getElem hi
    generalize C.nodes[i] = n at hg
    obtain ⟨p, _, he, hpv⟩ := hN'.get hg
    obtain ⟨u, u1, u2⟩ := hN'.sl.rdF he .i64
    obtain ⟨z, z1, z2⟩ := u2 1 (by decide)
    have z2' : ld1 z w'' = some p := z2
    have hs : ((C.nodes.take (i + 1)).map (·.2.length)).sum = ((C.nodes.take i).map (·.2.length)).sum + n.2.length := by
      rw [List.take_add_one, hg]; simp
    have hb : ((C.nodes.take (i + 1)).map (·.2.length)).sum ≤ (C.nodes.map (·.2.length)).sum := by rw [List.map_take]; exact sum_take_le _ _
    have w1 := wrap_add (n := ((C.nodes.take i).map (·.2.length)).sum) (m := n.2.length) (by omega)
    have w2 := wrap_succ (n := i) (by omega)
    have hpl := hpv.lenL
    rw [hs]
    generalize ((C.nodes.take i).map (·.2.length)).sum = m at w1 hs
    simp at hpl
    simp [hb0, Clu.cells, hN.lenL, hi, u1, z1, z2', hpl, w1, w2]
  · rintro l w'' ⟨rfl, rfl⟩
    simp [hb0, Clu.cells, hN.lenL]
    exact ⟨rfl, fr0⟩

theorem named_run (w : World) (s : ByteArray) : Run (F.granaryref6_named (.string s)) w fun r w' => (∃ b : Bool, r = .bool b ∧ (b = true ↔ nameP s)) ∧ Fr (fun _ => False) w w' := by
  unfold F.granaryref6_named
  have hsz : s.toList.length = s.size := by rw [ByteArray.toList_eq, Array.length_toList]; rfl
  have hemp : (ByteArray.mk #[]).toList = [] := by simp [ByteArray.toList_eq]
  by_cases h0 : s.size = 0
  · have hl : s.toList = [] := List.eq_nil_of_length_eq_zero (by omega)
    have : ¬ nameP s := fun h => by have := h.1; omega
    simp [hl, hemp, this, Fr.refl]
  have hl : s.toList.isEmpty = false := by
    cases h : s.toList with
    | nil => exact absurd (by rw [← hsz, h]; rfl) h0
    | cons a l => rfl
  by_cases h2 : (s.size : Int) > 40
  · have : ¬ nameP s := fun h => by have := h.2.1; omega
    simp [hl, hemp, h2, this, Fr.refl]
  have hc0 : s.data[0]? = some (s.data[0]'(by have : s.data.size = s.size := rfl; omega)) := Array.getElem?_eq_getElem _
  generalize s.data[0]'_ = c0 at hc0
  have i0 : idxS (.string s) (.int .i64 0) = some (.int .u8 c0.toNat) := idxS_at hc0 .i64
  by_cases h3 : (c0.toNat : Int) < 97
  · have : ¬ nameP s := fun h => by
      have := h.2.2 0 c0 hc0
      simp [nameC] at this
      omega
    have h3' : c0.toNat < 97 := by omega
    simp [hl, hemp, h2, i0, h3, h3', this, Fr.refl]
  by_cases h4 : (c0.toNat : Int) > 122
  · have : ¬ nameP s := fun h => by
      have := h.2.2 0 c0 hc0
      simp [nameC] at this
      omega
    have h3' : ¬ c0.toNat < 97 := by omega
    have h4' : 122 < c0.toNat := by omega
    have h4'' : (122 : Int) < c0.toNat := h4
    simp [hl, hemp, h2, i0, h3, h3', h4', h4'', this, Fr.refl]
  have h3' : ¬ c0.toNat < 97 := by omega
  have h4' : ¬ 122 < c0.toNat := by omega
  have h4'' : ¬ (122 : Int) < c0.toNat := h4
  simp [hl, hemp, h2, i0, h3, h3', h4', h4'']
  refine Run_for s.size (fun i l w'' => l = [.int .i64 i] ∧ w'' = w ∧ ∀ j (c : UInt8), j < i → s.data[j]? = some c → nameC j c.toNat = true) ⟨rfl, rfl, fun j c hj => absurd hj (Nat.not_lt_zero _)⟩ ?_ ?_
  · rintro i l w'' hi ⟨rfl, rfl, ih⟩
    have hc : s.data[i]? = some s.data[i] := Array.getElem?_eq_getElem hi
    generalize s.data[i] = c at hc
    have e1 := idxS_at hc .i64
    have hw : IntKind.i64.wrap (i + 1) = ((i + 1 : Nat) : Int) := by simp [IntKind.wrap, IntKind.bits, IntKind.signed]; omega
    have hi' : (i : Int) < s.size := by omega
    have hfirst : ¬ i = 0 ∨ (97 ≤ c.toNat ∧ c.toNat ≤ 122) := by
      by_cases hi0 : i = 0
      · subst hi0
        rw [hc0] at hc; cases hc
        right; omega
      · exact .inl hi0
    have step : nameC i c.toNat = true → ∀ (j : Nat) (c : UInt8), j < i + 1 → s.data[j]? = some c → nameC j c.toNat = true := by
      intro h j c' hj hc'
      by_cases hji : j < i
      · exact ih j c' hji hc'
      · obtain rfl : j = i := by omega
        rw [hc] at hc'; cases hc'
        exact h
    have bad : nameC i c.toNat = false → ¬ nameP s := fun h h' => by rw [h'.2.2 i c hc] at h; cases h
    simp [hi, hi', e1, hw]
    repeat' ((first | refine Run_guard (fun h => ?_) (fun h => ?_) | refine Run_cond (fun h => ?_) (fun h => ?_)) <;> have h' := h <;> simp only [decide_eq_true_eq, decide_eq_false_iff_not, beq_iff_eq, beq_eq_false_iff_ne, ne_eq, Bool.not_eq_true', Bool.not_eq_false'] at h' <;> simp [*])
    all_goals first
      | exact ⟨bad (by simp [nameC]; omega), Fr.refl _ _⟩
      | exact bad (by simp [nameC]; omega)
      | exact step (by simp [nameC]; omega)
      | (exfalso; omega)
  · rintro l w'' ⟨rfl, rfl, ih⟩
    simp
    exact ⟨⟨by omega, by omega, fun i c hc => ih i c (Array.getElem?_eq_some_iff.1 hc).1 hc⟩, Fr.refl _ _⟩
end Go.Proofs.YtiggkhmopnhfaaaDoor
namespace Go.Proofs.YtiggkhmopnhfaaaDoor
open Go.Lift
set_option linter.unusedSimpArgs false
set_option maxHeartbeats 1000000

theorem Clu.ldA6 {C : Clu} {nv : Value} {w : World} {b : Nat} (h : bk w b = some (C.cells nv)) : Go.Lift.ldA 23 (.pointer (some ⟨b, 0, none⟩)) w = some (C.val nv) := by
  rw [ldA_bk h (by simp [Clu.cells])]; rfl
def numsV (C : Clu) : List Value := C.nums.map fun n => .int .i64 n
/-- What the variable greatest holds. -/
def greatV : List Value := lims.map fun l => .int .i64 l.2

theorem values_run {w : World} {C : Clu} {nv : Value} (hnv : isCell nv = true) :
    Run (F.granaryref6_Values (C.val nv)) w fun r w' => r = .agg (numsV C).toArray ∧ Fr (fun _ => False) w w' := by
  unfold F.granaryref6_Values
  simp [-ldA_ptr, Clu.val]
  refine Run_new fun b w0 hb _ fr0 _ => ?_
  have hb0 : bk w0 b = some (C.cells nv) := by simpa using hb
  refine Run_new fun c w1 hc hcw fr1 hcle => ?_
  have hb1 := fr1.bk_some hb0 id
  simp [-ldA_ptr, hb1, Clu.cells, buildV, fillV_cell, hc, hcw]
  have hcl : w.heap.size ≤ c := by have := fr0.size; omega
  refine ⟨_, ldA_bk (n := 21) (l := numsV C) ?_ (by simp [numsV, Clu.nums]), ?_, ?_⟩
  · simp [hc, numsV, Clu.nums]
  · simp [numsV, Clu.nums]
  · exact (fr0.trans fr1 fun _ _ => id).sto (.inr hcl) _ _

def setP (C : Clu) : Prop := settingP C ∧ C.block ≤ C.burst ∧ C.base ≤ C.most
theorem set_run {w : World} {C : Clu} {nv : Value} (hnv : isCell nv = true) (hG : bk w 0 = some greatV) :
    Run (F.granaryref6_set (C.val nv)) w fun r w' => (∃ b : Bool, r = .bool b ∧ (b = true ↔ setP C)) ∧ Fr (fun _ => False) w w' := by
  unfold F.granaryref6_set
  simp [-ldA_ptr, Clu.val]
  refine Run_new fun b w0 hb _ fr0 _ => ?_
  have hb0 : bk w0 b = some (C.cells nv) := by simpa using hb
  simp [-ldA_ptr, Clu.ldA6 hb0]
  refine (values_run hnv).mono ?_
  rintro _ w1 ⟨rfl, fr1⟩
  refine Run_newSt (n := 21) (cs := (numsV C).toArray) rfl (by simp [numsV, Clu.nums]) (by simp [numsV, Clu.nums]) fun v w2 hv hvw fr2 hvle => ?_
  have hv2 : bk w2 v = some (numsV C) := by simpa using hv
  have hb2 : bk w2 b = some (C.cells nv) := fr2.bk_some (fr1.bk_some hb0 id) id
  have fr02 : Fr (fun _ => False) w w2 := (fr0.trans fr1 fun _ _ => id).trans fr2 fun _ _ => id
  have hG2 : bk w2 0 = some greatV := fr02.bk_some hG id
  refine Run_for 21 (fun i l w' => l = [.int .i64 i] ∧ Fr (fun _ => False) w2 w' ∧ ∀ (j : Nat) (l : Int × Int) (n : Int), j < i → lims[j]? = some l → C.nums[j]? = some n → l.1 ≤ n ∧ n ≤ l.2) ⟨rfl, Fr.refl _ _, fun j l n hj => absurd hj (Nat.not_lt_zero _)⟩ ?_ ?_
  · rintro i l w' hi ⟨rfl, f, ih⟩
    have hv' := f.bk_some hv2 id
    have hG' := f.bk_some hG2 id
    obtain ⟨lm, hlm⟩ : ∃ lm, lims[i]? = some lm := ⟨_, List.getElem?_eq_getElem (by simpa [lims] using hi)⟩
    obtain ⟨n, hn⟩ : ∃ n, C.nums[i]? = some n := ⟨_, List.getElem?_eq_getElem (by simpa [Clu.nums] using hi)⟩
    have e1 : (numsV C)[i]? = some (.int .i64 n) := by simp [numsV, hn]
    have e2 : greatV[i]? = some (.int .i64 lm.2) := by simp [greatV, hlm]
    have hi' : (i : Int) < 21 := by omega
    have ws := wrap_succ (n := i) (by omega)
    have hlow : lm.1 = if i < 20 then 1 else 0 := by
      simp only [lims] at hlm
      match i, hi with
      | 0, _ | 1, _ | 2, _ | 3, _ | 4, _ | 5, _ | 6, _ | 7, _ | 8, _ | 9, _ | 10, _ | 11, _ | 12, _ | 13, _ | 14, _ | 15, _ | 16, _ | 17, _ | 18, _ | 19, _ | 20, _ => cases hlm; rfl
    have bad : ¬ (lm.1 ≤ n ∧ n ≤ lm.2) → ¬ setP C := fun h h' => h (h'.1 i lm n hlm hn)
    have step : (lm.1 ≤ n ∧ n ≤ lm.2) → ∀ (j : Nat) (l : Int × Int) (m : Int), j < i + 1 → lims[j]? = some l → C.nums[j]? = some m → l.1 ≤ m ∧ m ≤ l.2 := by
      intro h j l m hj hl hm
      by_cases hji : j < i
      · exact ih j l m hji hl hm
      · obtain rfl : j = i := by omega
        rw [hlm] at hl; rw [hn] at hm
        cases hl; cases hm
        exact h
    have fd : Fr (fun _ => False) w w'.drew := (fr02.trans f fun _ _ => id).drew
    simp [hi, hi', hv', hG', e1, e2, ws]
    by_cases h1 : n < 0
    · have : ¬ setP C := bad (by rw [hlow]; split <;> omega)
      simp [h1, this, fd]
    by_cases h2 : lm.2 < n
    · have : ¬ setP C := bad (by omega)
      simp [h1, h2, this, fd, hi, hi', hv', hG', e1, e2]
    by_cases h3 : n = 0
    · by_cases h4 : i < 20
      · have : ¬ setP C := bad (by rw [hlow, if_pos h4]; omega)
        have h4' : (i : Int) < 20 := by omega
        have h2' : ¬ lm.2 < 0 := by omega
        simp [h1, h2, h2', h3, h4, h4', this, fd, hi, hi', hv', hG', e1, e2]
      · have h4' : ¬ (i : Int) < 20 := by omega
        have h2' : ¬ lm.2 < 0 := by omega
        simp [h1, h2, h2', h3, h4, h4', ws, hi, hi', hv', hG', e1, e2]
        exact ⟨f.drew, fun j a b m hj hl hm => step (by rw [hlow, if_neg h4]; omega) j (a, b) m hj hl hm⟩
    · simp [h1, h2, h3, ws, hi, hi', hv', hG', e1, e2]
      exact ⟨f.drew, fun j a b m hj hl hm => step (by rw [hlow]; split <;> omega) j (a, b) m hj hl hm⟩
  · rintro l w' ⟨rfl, f, ih⟩
    have hb' := f.bk_some hb2 id
    have fd : Fr (fun _ => False) w w' := fr02.trans f fun _ _ => id
    have hset : settingP C := fun j l n hl hn => ih j l n (by have := (List.getElem?_eq_some_iff.1 hl).1; simpa [lims] using this) hl hn
    simp [hb', Clu.cells]
    by_cases h1 : C.block ≤ C.burst
    · simp [h1, hb', Clu.cells, fd, setP, hset]
      omega
    · have : ¬ setP C := fun h => h1 h.2.1
      simp [h1, fd, this]

end Go.Proofs.YtiggkhmopnhfaaaDoor
