/-
  Layer 1 (disk), part T: DiskReplace.
-/
import Derived.Test.YtojnickeblbgoaaDoorDiskS
namespace Go.Proofs.YtojnickeblbgoaaDoor
open Go.Lift
set_option linter.unusedSimpArgs false
set_option maxHeartbeats 4000000

/-- A disk whose memory is all newer than w, beside a block that stays. -/
def At1 (w : World) (b z : Nat) (cs : List Value) (w' : World) (d : Dk) : Prop := Fr (fun _ => False) w w' ∧ bk w' z = some cs ∧ ∃ v tag, DA w' b d v tag ∧ (∀ c, tag c ≠ 0 → w.heap.size ≤ c) ∧ tag z = 0
section
variable {w w1 w2 : World} {b z : Nat} {cs : List Value} {d d2 : Dk} {v : DV} {tag : Nat → Nat}
theorem At1.mk (f : Fr (fun _ => False) w w1) (hz : bk w1 z = some cs) (ht : ∀ c, tag c ≠ 0 → w.heap.size ≤ c) (h0 : tag z = 0) (h : DDid w1 w2 b tag d2) : At1 w b z cs w2 d2 := by
  obtain ⟨f2, v2, tag2, h2, t2⟩ := h
  have s := f.size
  refine ⟨f.new f2 fun c hc => ht c hc, f2.bk_some hz (by rw [h0]; simp), v2, tag2, h2, fun c hc => (t2 c hc).elim (ht c) fun h => by omega, Classical.byContradiction fun hn => ?_⟩
  rcases t2 z hn with h | h
  · exact h h0
  · have := bk_lt hz; omega
end
theorem replace_walk {w : World} {old : ByteArray} {cv : Value} {cuts : List Cut} (hm : ∃ m : Int, bk w 0 = some [.int .i64 m]) (ho : old.size ≤ 1048576) (hs : Sl 4 w cv (cuts.map Cut.cells)) (hc : ∀ c ∈ cuts, c.ok) (hl : cuts.length ≤ 1048576) :
    Run (F.granarylaw1_DiskReplace (.string old) cv) w fun r w' => r = .bool true ∧ Fr (fun _ => False) w w' := by
  unfold F.granarylaw1_DiskReplace F.granarylaw1_num
  have eN : ByteArray.mk #[108, 97, 116, 101, 115, 116, 46, 110, 101, 119] = LN := rfl
  have eT : ByteArray.mk #[108, 97, 116, 101, 115, 116] = LT := rfl
  have eE : ByteArray.mk #[] = E0 := rfl
  rw [eN, eT, eE]
  have hln := hs.lenL
  rw [List.length_map] at hln
  simp only [Run_bind]
  refine Run_for cuts.length (fun i l w' => l = [.int .i64 i] ∧ w' = w) ⟨rfl, rfl⟩ ?_ ?_
  · rintro i l w' hi ⟨rfl, rfl⟩
    have ei : cuts[i]? = some cuts[i] := List.getElem?_eq_getElem hi
    generalize cuts[i] = c at ei
    obtain ⟨qb, qo, ql, q1, q2, q3, q4, _⟩ := hs.rd (i := i) (e := c.cells) (by decide) (by simp [ei]) .i64
    have qk : ql[qo]? = some (.string c.data) := take_get0 q4 (by decide)
    have hok := (hc c (List.mem_of_getElem? ei)).1
    have hi' : (i : Int) < cuts.length := by omega
    have hbig : ¬ (536870912 : Int) < c.data.size := by omega
    have wi := wrap_succ (n := i) (by omega)
    simp [hln, hi', hi, q1, q2, qk, hbig, wi]
  rintro l w' ⟨rfl, rfl⟩
  have hbig : ¬ (536870912 : Int) < old.size := by omega
  simp [-ldA_ptr, hln, hbig]
  refine (start_run hm).mono ?_
  rintro _ w1 ⟨b, rfl, d1, v1, tag1, h1, a1, t1, f1⟩
  simp [-ldA_ptr]
  refine Run_bind.1 (init_run ho h1 a1 fun d2 w2 h2 hc2 => ?_)
  obtain ⟨f2, v2, tag2, h2, t2⟩ := h2
  have s1 := f1.size
  have t2' : ∀ c, tag2 c ≠ 0 → w'.heap.size ≤ c := fun c hc => (t2 c hc).elim (t1 c) fun h => by omega
  have f02 : Fr (fun _ => False) w' w2 := f1.new f2 fun c hc => t1 c hc
  clear t2 h1 a1
  simp [-ldA_ptr]
  refine Run_for cuts.length (fun i l w3 => ∃ V d v tag, l = [.string V, .int .i64 i] ∧ DA w3 b d v tag ∧ Calm (2 + i) d V ∧ (∀ c, tag c ≠ 0 → w'.heap.size ≤ c) ∧ Fr (fun _ => False) w' w3) ⟨old, d2, v2, tag2, rfl, h2, hc2, t2', f02⟩ ?_ ?_
  · rintro i l w3 hi ⟨V, d, v, tag, rfl, h3, hcalm, t3, f3⟩
    have ei : cuts[i]? = some cuts[i] := List.getElem?_eq_getElem hi
    generalize cuts[i] = c at ei
    obtain ⟨hok1, hok2⟩ := hc c (List.mem_of_getElem? ei)
    obtain ⟨q, q1, q2⟩ := (hs.fr0 f3).rdA (i := i) (e := c.cells) (by decide) (by simp [ei]) .i64
    have q2' : ldA 4 q w3 = some (.agg c.cells.toArray) := q2
    have hi' : (i : Int) < cuts.length := by omega
    have wi := wrap_succ (n := i) (by omega)
    simp only [getL_zero, getL_succ, hln, Run_bindO_some, binV_int, intBin_lss, hi', decide_true, Run_condM_true, Run_bind, q1, Run_rdM, q2', Option.some.injEq, exists_eq_left']
    refine Run_newSt (cs := c.cells.toArray) rfl rfl (by simpa using c.all) fun z w4 hz _ f4 hzle => ?_
    have hz4 : bk w4 z = some c.cells := by simpa using hz
    have h4 := h3.fr0 f4
    have hz0 : tag z = 0 := Classical.byContradiction fun hn => by have := h3.bound z hn; omega
    have f04 : Fr (fun _ => False) w' w4 := f3.trans f4 fun _ _ => id
    refine Run_bind.1 (clear_run h4 hcalm (by omega) hok1 fun d5 w5 N S P f h5 a5 g hsf hNl => ?_)
    obtain ⟨f05, hz5, v5, tag5, h5, t5, z5⟩ := At1.mk f04 hz4 t3 hz0 h5
    simp [-ldA_ptr, hz5, Cut.cells]
    refine (arm_step h5 a5 hok2).mono ?_
    rintro _ w6 ⟨rfl, d6, h6, a6⟩
    obtain ⟨f06, hz6, v6, tag6, h6, t6, z6⟩ := At1.mk f05 hz5 t5 z5 h6
    simp [-ldA_ptr, hz6, Cut.cells]
    refine (replace_run g (bound_is c.k) h6 a6).mono ?_
    rintro _ w7 ⟨a, d7, rfl, h7, hI⟩
    obtain ⟨f07, hz7, v7, tag7, h7, t7, z7⟩ := At1.mk f06 hz6 t6 z6 h7
    simp [-ldA_ptr, hz7, Cut.cells]
    refine (crash_step g hsf h7 hI c.keep c.torn).mono ?_
    rintro _ w8 ⟨d8, V', hc8, hV, h8⟩
    obtain ⟨f08, hz8, v8, tag8, h8, t8, z8⟩ := At1.mk f07 hz7 t7 z7 h8
    refine (whole_step h8 hc8 (by omega)).mono ?_
    rintro _ w9 ⟨rfl, d9, h9, hc9⟩
    obtain ⟨f09, hz9, v9, tag9, h9, t9, z9⟩ := At1.mk f08 hz8 t8 z8 h9
    have hc9' : Calm (2 + (i + 1)) d9 V' := ⟨hc9.cap, hc9.up, hc9.off, hc9.pend, hc9.same, hc9.file, by have := hc9.len; omega⟩
    have fin : ∃ V d v tag, ([.string V', .int .i64 ((i + 1 : Nat) : Int)] : List Value) = [.string V, .int .i64 ((i + 1 : Nat) : Int)] ∧ DA w9 b d v tag ∧ Calm (2 + (i + 1)) d V ∧ (∀ c, tag c ≠ 0 → w'.heap.size ≤ c) ∧ Fr (fun _ => False) w' w9 := ⟨V', d9, v9, tag9, rfl, h9, hc9', t9, f09⟩
    have p1 := hV.1
    have p2 := hV.2.1
    have x5 : a = 5 → (a : Int) = 5 := fun h => by omega
    have n5 : ¬ a = 5 → ¬ (a : Int) = 5 := fun h => by omega
    have x4 : a < 4 → (a : Int) < 4 := fun h => by omega
    have n4 : ¬ a < 4 → ¬ (a : Int) < 4 := fun h => by omega
    have fin' := fin
    clear fin
    by_cases e1 : V' = V
    · by_cases k5 : a = 5
      · have e2 := p2 k5
        have k4 : ¬ a < 4 := by omega
        have e3 : c.data = V := e2.symm.trans e1
        have k5' := x5 k5
        have k4' := n4 k4
        simp [-ldA_ptr, e1, e3, k5', hz9, Cut.cells, ba_eq, wi]
        rw [e1] at fin'
        simpa using fin'
      · have k5' := n5 k5
        by_cases k4 : a < 4
        · have k4' := x4 k4
          simp [-ldA_ptr, e1, k4', k5', hz9, Cut.cells, ba_eq, wi]
          rw [e1] at fin'
          simpa using fin'
        · have k4' := n4 k4
          simp [-ldA_ptr, e1, k4', k5', hz9, Cut.cells, ba_eq, wi]
          rw [e1] at fin'
          simpa using fin'
    · have k4 : ¬ a < 4 := fun h => e1 (p1 h)
      have e2 : V' = c.data := hV.2.2.resolve_left e1
      have e3 : ¬ c.data = V := fun h => e1 (e2.trans h)
      have k4' := n4 k4
      by_cases k5 : a = 5
      · have k5' := x5 k5
        simp [-ldA_ptr, e1, e2, e3, k5', hz9, Cut.cells, ba_eq, wi]
        rw [e2] at fin'
        simpa using fin'
      · have k5' := n5 k5
        simp [-ldA_ptr, e1, e2, e3, k4', k5', hz9, Cut.cells, ba_eq, wi]
        rw [e2] at fin'
        simpa using fin'
  · rintro l w3 ⟨V, d, v, tag, rfl, h3, hcalm, t3, f3⟩
    simp [hln]
    exact f3
end Go.Proofs.YtojnickeblbgoaaDoor
