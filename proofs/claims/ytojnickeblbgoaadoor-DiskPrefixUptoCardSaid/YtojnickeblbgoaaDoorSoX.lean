/-
  slices.SortFunc, part A: the row that is sorted, in memory; reading, storing, changing places, comparing.
-/
import Derived.Test.YtojnickeblbgoaaDoorGZ
import Derived.Test.YtojnickeblbgoaaDoorLiftS
import Derived.Sort.AssemblyPlain
import Derived.Lib.ItoaNum
namespace Go.Proofs.YtojnickeblbgoaaDoor
open Go.Lift Go.Sort
set_option linter.unusedSimpArgs false
set_option linter.unusedVariables false

theorem wrapS {n : Int} (h1 : -9223372036854775808 ≤ n) (h2 : n ≤ 9223372036854775807) : IntKind.i64.wrap n = n := by simp [IntKind.wrap, IntKind.bits, IntKind.signed]; omega
/-- The row v holds the elements d, k cells each. -/
structure RowS {α : Type} (k : Nat) (enc : α → List Value) (w : World) (v : Value) (d : Array α) : Prop where
  sl : SlW k w v (d.toList.map enc)
  k0 : k ≠ 0
  cells : ∀ x, (enc x).length = k ∧ (enc x).all isCell = true
def pAt (k : Nat) (v : Value) (i : Nat) : Value := (idxA k v (.int .i64 i)).getD undef
def eAt {α : Type} [Inhabited α] (d : Array α) (i : Nat) : α := d[i]!
section
variable {α : Type} {k : Nat} {enc : α → List Value} {w w' : World} {v : Value} {d : Array α}
theorem RowS.fr {F : Nat → Prop} (h : RowS k enc w v d) (f : Fr F w w') (hF : ∀ b, inB v b → ¬ F b) : RowS k enc w' v d := ⟨h.sl.fr f hF, h.k0, h.cells⟩
theorem RowS.fr0 (h : RowS k enc w v d) (f : Fr (fun _ => False) w w') : RowS k enc w' v d := h.fr f fun _ _ => id
end
section
variable {α : Type} [Inhabited α] {k : Nat} {enc : α → List Value} {w w' : World} {v : Value} {d : Array α} {i j : Nat}
theorem map_at (hi : i < d.size) : (d.toList.map enc)[i]? = some (enc (eAt d i)) := by
  simp [eAt, hi]
theorem RowS.ld (h : RowS k enc w v d) (hi : i < d.size) : idxA k v (.int .i64 i) = some (pAt k v i) ∧ ldA k (pAt k v i) w = some (.agg (enc (eAt d i)).toArray) := by
  obtain ⟨p, h1, h2⟩ := h.sl.1.rdA h.k0 (map_at (enc := enc) hi) .i64
  unfold pAt
  rw [h1]
  exact ⟨rfl, h2⟩
theorem RowS.st (h : RowS k enc w v d) (hi : i < d.size) (x : α) {Q : Value → World → Prop} (q : ∀ w', RowS k enc w' v (d.setIfInBounds i x) → Fr (inB v) w w' → Q undef w') : Run (stM k (pAt k v i) (.agg (enc x).toArray)) w Q := by
  obtain ⟨b, o, h1, hb, hlt, hok, hput⟩ := h.sl.put (map_at (enc := enc) hi) .i64
  have hp : pAt k v i = .pointer (some ⟨b, o, none⟩) := by unfold pAt; rw [h1]; rfl
  obtain ⟨hl, hc⟩ := h.cells x
  obtain ⟨ho2, hs⟩ := hput 0 (enc x) (by omega)
  rw [hp]
  refine (Run_stA ⟨hok, by simpa using hl, by simpa using hc⟩).2 (q _ ⟨?_, h.k0, h.cells⟩ ((Fr.refl _ _).sto (.inl hb) _ _))
  have e : setL (enc (eAt d i)) 0 (enc x) = enc x := by
    rw [setL_eq _ _ _ (by rw [(h.cells (eAt d i)).1, hl]; omega)]
    simp [(h.cells (eAt d i)).1, hl]
  rw [e] at hs
  have e2 : (d.setIfInBounds i x).toList.map enc = (d.toList.map enc).set i (enc x) := by simp
  rw [e2]
  exact hs
theorem Run_drw {β : Type} {m : M β} {Q : β → World → Prop} (q : ∀ w', Fr (fun _ => False) w w' → Run m w' Q) : Run (drewM m) w Q := q _ (Fr.refl _ _).drew
/-- Two elements change places. -/
theorem RowS.swp (h : RowS k enc w v d) (hi : i < d.size) (hj : j < d.size) {K : Value → Value → World → Prop} (q : ∀ w', RowS k enc w' v (swp d i j) → Fr (inB v) w w' → K undef undef w') :
    Run (stM k (pAt k v i) (.agg (enc (eAt d j)).toArray)) w fun a w1 => Run (stM k (pAt k v j) (.agg (enc (eAt d i)).toArray)) w1 fun b w2 => K a b w2 := by
  refine h.st hi _ fun w1 h1 f1 => ?_
  refine h1.st (by simpa using hj) _ fun w2 h2 f2 => ?_
  exact q _ h2 (f1.trans f2 fun _ _ => id)
/-- What the comparing function answers: cf, whatever the world. -/
def Cmp (k : Nat) (enc : α → List Value) (c : Value) (cf : α → α → Int) : Prop := ∀ (x y : α) (w : World) (Q : Value → World → Prop), (∀ w', Fr (fun _ => False) w w' → Q (.int .i64 (cf x y)) w') →
  Run (callV F.clos c [.agg (enc x).toArray, .agg (enc y).toArray]) w Q
def ltC (cf : α → α → Int) (x y : α) : Bool := decide (cf x y < 0)
theorem swp_size (d : Array α) (i j : Nat) : (Sort.swp d i j).size = d.size := by simp [Sort.swp]
end
end Go.Proofs.YtojnickeblbgoaaDoor

/-
  slices.SortFunc, part B: insertion sort.
-/
namespace Go.Proofs.YtojnickeblbgoaaDoor.SortStored
open Go.Lift Go.Sort
set_option linter.unusedSimpArgs false
set_option linter.unusedVariables false
set_option maxHeartbeats 4000000
section
variable {α : Type} [Inhabited α] {enc : α → List Value} {w w' : World} {v c : Value} {d : Array α} {cf : α → α → Int} {a b : Nat}
theorem insInner_size (lt : α → α → Bool) (a : Nat) : ∀ (j : Nat) (d : Array α), (insInner lt a j d).size = d.size
  | 0, d => rfl
  | j + 1, d => by
    unfold insInner
    split
    · rw [insInner_size lt a j, swp_size]
    · rfl
theorem ins_run (h : RowS 3 enc w v d) (hc : Cmp 3 enc c cf) (hab : a ≤ b) (hb : b ≤ d.size) (hs : d.size ≤ 4611686018427387904) :
    Run (F.slices_insertionSortCmpFunc_Stored v (.int .i64 a) (.int .i64 b) c) w fun r w' => r = .tuple #[] ∧ RowS 3 enc w' v (insertionSort (ltC cf) d a b) ∧ Fr (inB v) w w' := by
  unfold F.slices_insertionSortCmpFunc_Stored
  have wa : IntKind.i64.wrap ((a : Int) + 1) = ((a + 1 : Nat) : Int) := by rw [wrapS] <;> omega
  simp [-ldA_ptr, wa]
  refine Run_loopM (fun l w1 => ∃ (i : Nat) (d1 : Array α), l = [.int .i64 i] ∧ i ≤ b + 1 ∧ a + 1 ≤ i ∧ d1.size = d.size ∧ RowS 3 enc w1 v d1 ∧ Fr (inB v) w w1 ∧ insOuter (ltC cf) a b i d1 = insertionSort (ltC cf) d a b)
    (fun l _ => match l with | [.int .i64 i] => b + 1 - i.toNat | _ => 0) ?_ ⟨a + 1, d, rfl, by omega, by omega, rfl, h, Fr.refl _ _, rfl⟩
  rintro l w1 ⟨i, d1, rfl, hi, hai, hd1, h1, f1, e1⟩
  by_cases hib : i < b
  · have hib' : (i : Int) < b := by omega
    simp [-ldA_ptr, hib']
    refine Run_loopM (fun l w2 => ∃ (j : Nat) (d2 : Array α), l = [.int .i64 j] ∧ j ≤ i ∧ d2.size = d.size ∧ RowS 3 enc w2 v d2 ∧ Fr (inB v) w w2 ∧ insInner (ltC cf) a j d2 = insInner (ltC cf) a i d1)
      (fun l _ => match l with | [.int .i64 j] => j.toNat | _ => 0) ?_ ⟨i, d1, rfl, Nat.le_refl _, hd1, h1, f1, rfl⟩
    rintro l w2 ⟨j, d2, rfl, hj, hd2, h2, f2, e2⟩
    obtain ⟨i', hi'⟩ : ∃ m, m = i + 1 := ⟨_, rfl⟩
    have wi : IntKind.i64.wrap ((i : Int) + 1) = (i' : Int) := by rw [wrapS] <;> omega
    refine Run_drw fun w3 f3 => ?_
    have h3 := h2.fr0 f3
    have f03 := f2.trans f3 fun _ _ h => h.elim
    have fin : ∀ w3 d3, d3 = insInner (ltC cf) a j d2 → RowS 3 enc w3 v d3 → Fr (inB v) w w3 → i' ≤ b + 1 ∧ a + 1 ≤ i' ∧ ∃ d1' : Array α, d1'.size = d.size ∧ RowS 3 enc w3 v d1' ∧ Fr (inB v) w w3 ∧ insOuter (ltC cf) a b i' d1' = insertionSort (ltC cf) d a b := by
      rintro w3 d3 rfl h3 f3
      refine ⟨by omega, by omega, _, by rw [insInner_size, hd2], h3, f3, ?_⟩
      rw [← e1, e2, hi']
      conv => rhs; unfold insOuter
      rw [if_pos hib]
    by_cases hja : a < j
    · obtain ⟨m, hm⟩ : ∃ m, j = m + 1 := ⟨j - 1, by omega⟩
      have hja' : (a : Int) < (j : Int) := by omega
      have wj : IntKind.i64.wrap ((j : Int) - 1) = (m : Int) := by rw [wrapS] <;> omega
      obtain ⟨x1, l1⟩ := h3.ld (i := j) (by omega)
      obtain ⟨x2, l2⟩ := h3.ld (i := m) (by omega)
      simp [-ldA_ptr, -Run_drewM, hja', wj, x1, x2, l1, l2]
      refine hc _ _ _ _ fun w4 f4 => ?_
      have h4 := h3.fr0 f4
      have f04 := f03.trans f4 fun _ _ h => h.elim
      by_cases hlt : cf (eAt d2 j) (eAt d2 m) < 0
      · simp [-ldA_ptr, -Run_drewM, hlt]
        refine Run_drw fun w5 f5 => ?_
        have h5 := h4.fr0 f5
        obtain ⟨_, l1⟩ := h5.ld (i := j) (by omega)
        obtain ⟨_, l2⟩ := h5.ld (i := m) (by omega)
        simp [-ldA_ptr, -Run_drewM, wj, x1, x2, l1, l2, -Run_stM_iff]
        refine h5.swp (by omega) (by omega) fun w6 h6 f6 => ?_
        refine ⟨⟨m, rfl, by omega, _, by rw [swp_size, hd2], h6, (f04.trans f5 fun _ _ h => h.elim).trans f6 fun _ _ => id, ?_⟩, by omega⟩
        rw [← e2, hm]
        conv => rhs; unfold insInner
        have c1 : (decide (m + 1 > a) && ltC cf d2[m + 1]! d2[m]!) = true := by
          rw [Bool.and_eq_true]
          refine ⟨decide_eq_true (by omega), decide_eq_true ?_⟩
          rw [hm] at hlt
          exact hlt
        rw [if_pos c1]
      · simp [-ldA_ptr, -Run_drewM, hlt, wi]
        refine ⟨⟨i', rfl, fin _ _ ?_ h4 f04⟩, by omega⟩
        rw [hm]
        unfold insInner
        rw [if_neg]
        intro c1
        rw [Bool.and_eq_true] at c1
        rw [hm] at hlt
        exact hlt (of_decide_eq_true c1.2)
    · have hja' : ¬ (a : Int) < j := by omega
      simp [-ldA_ptr, -Run_drewM, hja', wi]
      refine ⟨⟨i', rfl, fin _ _ ?_ h3 f03⟩, by omega⟩
      cases j with
      | zero => rfl
      | succ m =>
        unfold insInner
        rw [if_neg]
        intro c1
        rw [Bool.and_eq_true] at c1
        have := of_decide_eq_true c1.1
        omega
  · have hib' : ¬ (i : Int) < b := by omega
    have e : insOuter (ltC cf) a b i d1 = d1 := by unfold insOuter; rw [if_neg hib]
    simp [-ldA_ptr, hib']
    rw [← e1, e]
    exact ⟨h1, f1⟩
end
end Go.Proofs.YtojnickeblbgoaaDoor.SortStored

/-
  slices.SortFunc, part C: heap sort.
-/
namespace Go.Proofs.YtojnickeblbgoaaDoor.SortStored
open Go.Lift Go.Sort
set_option linter.unusedSimpArgs false
set_option linter.unusedVariables false
set_option maxHeartbeats 4000000
section
variable {α : Type} [Inhabited α] {enc : α → List Value} {w w' : World} {v c : Value} {d : Array α} {cf : α → α → Int} {a b : Nat}
theorem sift_size (lt : α → α → Bool) (hi first : Nat) : ∀ (root : Nat) (d : Array α), (siftDown lt hi first root d).size = d.size := by
  intro root d
  fun_induction siftDown lt hi first root d <;> simp_all [swp_size]
theorem sift_run (h : RowS 3 enc w v d) (hc : Cmp 3 enc c cf) {lo hi first : Nat} (hb : first + hi ≤ d.size) (hlo : lo ≤ hi) (hs : d.size ≤ 1152921504606846976) :
    Run (F.slices_siftDownCmpFunc_Stored v (.int .i64 lo) (.int .i64 hi) (.int .i64 first) c) w fun r w' => r = .tuple #[] ∧ RowS 3 enc w' v (siftDown (ltC cf) hi first lo d) ∧ Fr (inB v) w w' := by
  unfold F.slices_siftDownCmpFunc_Stored
  simp only [Run_bind]
  refine Run_loopM (fun l w1 => ∃ (root : Nat) (d1 : Array α), l = [.int .i64 root] ∧ root ≤ hi ∧ d1.size = d.size ∧ RowS 3 enc w1 v d1 ∧ Fr (inB v) w w1 ∧ siftDown (ltC cf) hi first root d1 = siftDown (ltC cf) hi first lo d)
    (fun l _ => match l with | [.int .i64 i] => hi - i.toNat | _ => 0) ?_ ⟨lo, d, rfl, hlo, rfl, h, Fr.refl _ _, rfl⟩
  rintro l w1 ⟨root, d1, rfl, hrt, hd1, h1, f1, e1⟩
  obtain ⟨r1, hr1⟩ : ∃ m, m = 2 * root + 1 := ⟨_, rfl⟩
  obtain ⟨r2, hr2⟩ : ∃ m, m = r1 + 1 := ⟨_, rfl⟩
  obtain ⟨p0, hp0⟩ : ∃ m, m = first + root := ⟨_, rfl⟩
  obtain ⟨p1, hp1⟩ : ∃ m, m = first + r1 := ⟨_, rfl⟩
  obtain ⟨p2, hp2⟩ : ∃ m, m = first + r2 := ⟨_, rfl⟩
  have wa : IntKind.i64.wrap (2 * (root : Int)) = 2 * (root : Int) := by rw [wrapS] <;> omega
  have wb : IntKind.i64.wrap (2 * (root : Int) + 1) = (r1 : Int) := by rw [wrapS] <;> omega
  by_cases hge : hi ≤ r1
  · have hge' : (hi : Int) ≤ (r1 : Int) := by omega
    have e : siftDown (ltC cf) hi first root d1 = d1 := by unfold siftDown; rw [dif_pos (by omega)]
    simp [-ldA_ptr, -Run_drewM, wa, wb, hge']
    rw [← e1, e]
    exact ⟨h1, f1⟩
  have hge' : ¬ (hi : Int) ≤ (r1 : Int) := by omega
  have wc : IntKind.i64.wrap ((r1 : Int) + 1) = (r2 : Int) := by rw [wrapS] <;> omega
  have wp0 : IntKind.i64.wrap ((first : Int) + (root : Int)) = (p0 : Int) := by rw [wrapS] <;> omega
  have wp1 : IntKind.i64.wrap ((first : Int) + (r1 : Int)) = (p1 : Int) := by rw [wrapS] <;> omega
  have wp2 : IntKind.i64.wrap ((p1 : Int) + 1) = (p2 : Int) := by rw [wrapS] <;> omega
  simp only [getL_zero, binV_int, intBin_mul, intBin_add, intBin_geq, Run_bindO_some, wa, wb, hge', ge_iff_le, decide_false, Run_condM_false, Run_bind]
  refine Run.mono (Q := fun o w2 => ∃ ch : Nat, o = .norm [.int .i64 ch] ∧ (ch = r1 ∨ ch = r2) ∧ ch < hi ∧ RowS 3 enc w2 v d1 ∧ Fr (inB v) w w2 ∧
      siftDown (ltC cf) hi first root d1 = if (!ltC cf d1[first + root]! d1[first + ch]!) then d1 else siftDown (ltC cf) hi first ch (Sort.swp d1 (first + root) (first + ch))) ?_ ?_
  · refine Run_drw fun w2 f2 => ?_
    have h2 := h1.fr0 f2
    have f02 := f1.trans f2 fun _ _ h => h.elim
    have un : siftDown (ltC cf) hi first root d1 = if r2 < hi && ltC cf d1[first + r1]! d1[first + r1 + 1]! then
        (if !ltC cf d1[first + root]! d1[first + r2]! then d1 else if _h2 : r2 < hi then siftDown (ltC cf) hi first r2 (Sort.swp d1 (first + root) (first + r2)) else d1) else
        (if !ltC cf d1[first + root]! d1[first + r1]! then d1 else siftDown (ltC cf) hi first r1 (Sort.swp d1 (first + root) (first + r1))) := by
      conv => lhs; unfold siftDown
      rw [dif_neg (by omega), hr2, hr1]
    by_cases h2i : r2 < hi
    · have h2i' : (r2 : Int) < (hi : Int) := by omega
      obtain ⟨x1, l1⟩ := h2.ld (i := p1) (by omega)
      obtain ⟨x2, l2⟩ := h2.ld (i := p2) (by omega)
      simp [-ldA_ptr, -Run_drewM, wc, h2i', wp1, wp2, x1, x2, l1, l2]
      refine hc _ _ _ _ fun w3 f3 => ?_
      have h3 := h2.fr0 f3
      have f03 := f02.trans f3 fun _ _ h => h.elim
      by_cases hlt : cf (eAt d1 p1) (eAt d1 p2) < 0
      · have hl : ltC cf d1[p1]! d1[p2]! = true := decide_eq_true hlt
        simp [-ldA_ptr, -Run_drewM, hlt, wc]
        refine ⟨r2, rfl, .inr rfl, h2i, h3, f03, ?_⟩
        rw [un, if_pos, dif_pos h2i]
        · simp
        · rw [← hp1, show p1 + 1 = p2 by omega, hl]
          simpa using h2i
      · have hl : ltC cf d1[p1]! d1[p2]! = false := decide_eq_false hlt
        simp [-ldA_ptr, -Run_drewM, hlt]
        refine ⟨r1, rfl, .inl rfl, by omega, h3, f03, ?_⟩
        rw [un, if_neg]
        · simp
        · rw [← hp1, show p1 + 1 = p2 by omega, hl]
          simp
    · have h2i' : ¬ (r2 : Int) < (hi : Int) := by omega
      simp [-ldA_ptr, -Run_drewM, wc, h2i']
      refine ⟨r1, rfl, .inl rfl, by omega, h2, f02, ?_⟩
      rw [un, if_neg]
      · simp
      · simp [h2i]
  · rintro _ w2 ⟨ch, rfl, hch, hchi, h2, f2, e2⟩
    obtain ⟨pc, hpc⟩ : ∃ m, m = first + ch := ⟨_, rfl⟩
    rw [← hpc, ← hp0] at e2
    have wpc : IntKind.i64.wrap ((first : Int) + (ch : Int)) = (pc : Int) := by rw [wrapS] <;> omega
    simp only [outK_norm]
    refine Run_drw fun w3 f3 => ?_
    have h3 := h2.fr0 f3
    have f03 := f2.trans f3 fun _ _ h => h.elim
    obtain ⟨x0, l0⟩ := h3.ld (i := p0) (by omega)
    obtain ⟨x1, l1⟩ := h3.ld (i := pc) (by omega)
    simp [-ldA_ptr, -Run_drewM, wp0, wpc, x0, x1, l0, l1]
    refine hc _ _ _ _ fun w4 f4 => ?_
    have h4 := h3.fr0 f4
    have f04 := f03.trans f4 fun _ _ h => h.elim
    by_cases hlt : cf (eAt d1 p0) (eAt d1 pc) < 0
    · simp [-ldA_ptr, -Run_drewM, hlt]
      refine Run_drw fun w5 f5 => ?_
      have h5 := h4.fr0 f5
      obtain ⟨_, l0⟩ := h5.ld (i := p0) (by omega)
      obtain ⟨_, l1⟩ := h5.ld (i := pc) (by omega)
      simp [-ldA_ptr, -Run_drewM, wp0, wpc, x0, x1, l0, l1, -Run_stM_iff]
      refine h5.swp (by omega) (by omega) fun w6 h6 f6 => ?_
      refine ⟨⟨ch, rfl, by omega, _, by rw [swp_size, hd1], h6, (f04.trans f5 fun _ _ h => h.elim).trans f6 fun _ _ => id, ?_⟩, by omega⟩
      rw [← e1, e2, if_neg]
      have : ltC cf d1[p0]! d1[pc]! = true := decide_eq_true hlt
      rw [this]
      decide
    · simp [-ldA_ptr, -Run_drewM, hlt]
      rw [← e1, e2, if_pos]
      · exact ⟨h4, f04⟩
      · have : ltC cf d1[p0]! d1[pc]! = false := decide_eq_false hlt
        rw [this]
        rfl
end
end Go.Proofs.YtojnickeblbgoaaDoor.SortStored

/-
  slices.SortFunc, part D: heap sort, the two loops; reversing.
-/
namespace Go.Proofs.YtojnickeblbgoaaDoor.SortStored
open Go.Lift Go.Sort
set_option linter.unusedSimpArgs false
set_option linter.unusedVariables false
set_option maxHeartbeats 4000000
section
variable {α : Type} [Inhabited α] {enc : α → List Value} {w w' : World} {v c : Value} {d : Array α} {cf : α → α → Int} {a b : Nat}
theorem heap_run (h : RowS 3 enc w v d) (hc : Cmp 3 enc c cf) (hab : a ≤ b) (hb : b ≤ d.size) (hs : d.size ≤ 1152921504606846976) :
    Run (F.slices_heapSortCmpFunc_Stored v (.int .i64 a) (.int .i64 b) c) w fun r w' => r = .tuple #[] ∧ RowS 3 enc w' v (heapSort (ltC cf) d a b) ∧ Fr (inB v) w w' := by
  unfold F.slices_heapSortCmpFunc_Stored
  obtain ⟨n, hn⟩ : ∃ n, n = b - a := ⟨_, rfl⟩
  obtain ⟨t, ht⟩ : ∃ t, t = (n - 1) / 2 := ⟨_, rfl⟩
  have wn : IntKind.i64.wrap ((b : Int) - (a : Int)) = (n : Int) := by rw [wrapS] <;> omega
  have wn1 : IntKind.i64.wrap ((n : Int) - 1) = (n : Int) - 1 := by rw [wrapS] <;> omega
  have wt : IntKind.i64.wrap (((n : Int) - 1).tdiv 2) = ((t + 1 : Nat) : Int) - 1 := by
    have : ((n : Int) - 1).tdiv 2 = (t : Int) := by
      rcases Nat.eq_zero_or_pos n with h0 | h0
      · subst h0; rw [ht]; rfl
      · obtain ⟨m, rfl⟩ : ∃ m, n = m + 1 := ⟨n - 1, by omega⟩
        rw [show (((m + 1 : Nat) : Int) - 1) = (m : Int) by omega, ht]
        rw [Int.tdiv_eq_ediv_of_nonneg (by omega)]
        omega
    rw [this, wrapS] <;> omega
  simp only [binV_int, intBin_sub, intBin_quo, Run_bindO_some, wn, wn1, wt, if_neg (show ¬ (2 : Int) = 0 by decide), Run_bind]
  refine Run_loopM (fun l w1 => ∃ (k : Nat) (d1 : Array α), l = [.int .i64 ((k : Int) - 1)] ∧ k ≤ t + 1 ∧ d1.size = d.size ∧ RowS 3 enc w1 v d1 ∧ Fr (inB v) w w1 ∧ heapBuild (ltC cf) n a k d1 = heapBuild (ltC cf) n a (t + 1) d)
    (fun l _ => match l with | [.int .i64 i] => (i + 1).toNat | _ => 0) ?_ ⟨t + 1, d, rfl, Nat.le_refl _, rfl, h, Fr.refl _ _, rfl⟩
  rintro l w1 ⟨k, d1, rfl, hk, hd1, h1, f1, e1⟩
  cases k with
  | succ m =>
    have em : (((m + 1 : Nat) : Int) - 1) = (m : Int) := by omega
    rw [em]
    have hge : (0 : Int) ≤ (m : Int) := by omega
    simp only [getL_zero, binV_int, intBin_geq, ge_iff_le, hge, decide_true, Run_bindO_some, Run_condM_true, Run_bind]
    refine (sift_run h1 hc (by omega) (by omega) (by omega)).mono ?_
    rintro _ w2 ⟨_, h2, f2⟩
    have wm : IntKind.i64.wrap ((m : Int) - 1) = (m : Int) - 1 := by rw [wrapS] <;> omega
    simp only [binV_int, intBin_sub, wm, Run_bindO_some, Run_ret]
    exact ⟨⟨m, _, rfl, by omega, by rw [sift_size, hd1], h2, f1.trans f2 fun _ _ => id, by rw [← e1]; rfl⟩, by show ((m : Int) - 1 + 1).toNat < ((m : Int) + 1).toNat; omega⟩
  | zero =>
    have hge : ¬ (0 : Int) ≤ ((0 : Nat) : Int) - 1 := by omega
    simp only [getL_zero, binV_int, intBin_geq, ge_iff_le, hge, decide_false, Run_bindO_some, Run_condM_false, Run_bind, Run_ret, outK_exit, natBeq, decide_true, cond_true]
    have e1' : d1 = heapBuild (ltC cf) n a (t + 1) d := e1
    refine Run_loopM (fun l w2 => ∃ (k : Nat) (d2 : Array α), l = [.int .i64 ((k : Int) - 1)] ∧ k ≤ n ∧ d2.size = d.size ∧ RowS 3 enc w2 v d2 ∧ Fr (inB v) w w2 ∧ heapPop (ltC cf) a k d2 = heapPop (ltC cf) a n d1)
      (fun l _ => match l with | [.int .i64 i] => (i + 1).toNat | _ => 0) ?_ ⟨n, d1, rfl, Nat.le_refl _, hd1, h1, f1, rfl⟩
    rintro l w2 ⟨k, d2, rfl, hk, hd2, h2, f2, e2⟩
    cases k with
    | succ m =>
      have em : (((m + 1 : Nat) : Int) - 1) = (m : Int) := by omega
      rw [em]
      have hge : (0 : Int) ≤ (m : Int) := by omega
      obtain ⟨p, hp⟩ : ∃ p, p = a + m := ⟨_, rfl⟩
      have wp : IntKind.i64.wrap ((a : Int) + (m : Int)) = (p : Int) := by rw [wrapS] <;> omega
      simp only [getL_zero, binV_int, intBin_geq, ge_iff_le, hge, decide_true, Run_bindO_some, Run_condM_true, Run_bind]
      refine Run_drw fun w3 f3 => ?_
      have h3 := h2.fr0 f3
      obtain ⟨x0, l0⟩ := h3.ld (i := a) (by omega)
      obtain ⟨x1, l1⟩ := h3.ld (i := p) (by omega)
      simp only [binV_int, intBin_add, wp, x0, x1, Run_bindO_some, Run_bind, Run_rdM, l0, l1, Option.some.injEq, exists_eq_left']
      refine h3.swp (by omega) (by omega) fun w4 h4 f4 => ?_
      refine (sift_run (lo := 0) h4 hc (by rw [swp_size]; omega) (by omega) (by rw [swp_size]; omega)).mono ?_
      rintro _ w5 ⟨_, h5, f5⟩
      have wm : IntKind.i64.wrap ((m : Int) - 1) = (m : Int) - 1 := by rw [wrapS] <;> omega
      simp only [binV_int, intBin_sub, wm, Run_bindO_some, Run_ret]
      exact ⟨⟨m, _, rfl, by omega, by rw [sift_size, swp_size, hd2], h5, ((f2.trans f3 fun _ _ h => h.elim).trans f4 fun _ _ => id).trans f5 fun _ _ => id, by rw [← e2, hp]; rfl⟩, by show ((m : Int) - 1 + 1).toNat < ((m : Int) + 1).toNat; omega⟩
    | zero =>
      have hge : ¬ (0 : Int) ≤ ((0 : Nat) : Int) - 1 := by omega
      simp only [getL_zero, binV_int, intBin_geq, ge_iff_le, hge, decide_false, Run_bindO_some, Run_condM_false, Run_bind, Run_ret, outK_exit, natBeq, decide_true, cond_true]
      have e3 : d2 = heapSort (ltC cf) d a b := by
        unfold heapSort
        rw [← hn, ← ht, ← e1']
        exact e2
      rw [← e3]
      exact ⟨trivial, h2, f2⟩
/-- What is behind a run: the places from a to b are permuted. -/
def PermS (enc : α → List Value) (a b : Nat) (w : World) (v : Value) (d : Array α) (w' : World) : Prop := ∃ d', PermIn a b d d' ∧ RowS 3 enc w' v d' ∧ Fr (inB v) w w'
theorem perm_swp {d' : Array α} (hp : PermIn a b d d') {i j : Nat} (hb : b ≤ d.size) (hi : a ≤ i ∧ i < b) (hj : a ≤ j ∧ j < b) : PermIn a b d (Sort.swp d' i j) :=
  permIn_trans _ _ _ a b hp (swp_permIn d' a b i j hi.1 hi.2 hj.1 hj.2 (by rw [hp.1]; exact hb))
theorem rev_run (h : RowS 3 enc w v d) (hab : a < b) (hb : b ≤ d.size) (hs : d.size ≤ 1152921504606846976) :
    Run (F.slices_reverseRangeCmpFunc_Stored v (.int .i64 a) (.int .i64 b) c) w fun _ w' => PermS enc a b w v d w' := by
  unfold F.slices_reverseRangeCmpFunc_Stored
  obtain ⟨b1, hb1⟩ : ∃ n, n = b - 1 := ⟨_, rfl⟩
  have wb : IntKind.i64.wrap ((b : Int) - 1) = (b1 : Int) := by rw [wrapS] <;> omega
  simp only [binV_int, intBin_sub, Run_bindO_some, wb, Run_bind]
  refine Run_loopM (fun l w1 => ∃ (i j : Nat) (d1 : Array α), l = [.int .i64 i, .int .i64 j] ∧ a ≤ i ∧ i ≤ b ∧ a ≤ j + 1 ∧ j < b ∧ PermIn a b d d1 ∧ RowS 3 enc w1 v d1 ∧ Fr (inB v) w w1)
    (fun l _ => match l with | [.int .i64 i, .int .i64 _] => b - i.toNat | _ => 0) ?_ ⟨a, b1, d, rfl, Nat.le_refl _, by omega, by omega, by omega, permIn_refl _ _ _, h, Fr.refl _ _⟩
  rintro l w1 ⟨i, j, d1, rfl, hai, hib, haj, hjb, hp, h1, f1⟩
  have hz := hp.1
  by_cases hij : i < j
  · have hij' : (i : Int) < (j : Int) := by omega
    obtain ⟨i', hi'⟩ : ∃ n, n = i + 1 := ⟨_, rfl⟩
    obtain ⟨j', hj'⟩ : ∃ n, n + 1 = j := ⟨j - 1, by omega⟩
    have wi : IntKind.i64.wrap ((i : Int) + 1) = (i' : Int) := by rw [wrapS] <;> omega
    have wj : IntKind.i64.wrap ((j : Int) - 1) = (j' : Int) := by rw [wrapS] <;> omega
    simp only [getL_zero, getL_succ, binV_int, intBin_lss, hij', decide_true, Run_bindO_some, Run_condM_true, Run_bind]
    refine Run_drw fun w3 f3 => ?_
    have h3 := h1.fr0 f3
    obtain ⟨x0, l0⟩ := h3.ld (i := i) (by omega)
    obtain ⟨x1, l1⟩ := h3.ld (i := j) (by omega)
    simp only [binV_int, intBin_add, x0, x1, Run_bindO_some, Run_bind, Run_rdM, l0, l1, Option.some.injEq, exists_eq_left']
    refine h3.swp (by omega) (by omega) fun w4 h4 f4 => ?_
    simp only [binV_int, intBin_add, intBin_sub, wi, wj, Run_bindO_some, Run_ret]
    exact ⟨⟨i', j', _, rfl, by omega, by omega, by omega, by omega, perm_swp hp hb ⟨hai, by omega⟩ ⟨by omega, hjb⟩, h4, (f1.trans f3 fun _ _ h => h.elim).trans f4 fun _ _ => id⟩, by show b - (i' : Int).toNat < b - (i : Int).toNat; omega⟩
  · have hij' : ¬ (i : Int) < (j : Int) := by omega
    simp only [getL_zero, getL_succ, binV_int, intBin_lss, hij', decide_false, Run_bindO_some, Run_condM_false, Run_bind, Run_ret, outK_exit, natBeq, decide_true, cond_true]
    exact ⟨d1, hp, h1, f1⟩
end
end Go.Proofs.YtojnickeblbgoaaDoor.SortStored

/-
  slices.SortFunc, part E: the patterns that are broken, the pivot that is chosen.
-/
namespace Go.Proofs.YtojnickeblbgoaaDoor.SortStored
open Go.Lift Go.Sort
set_option linter.unusedSimpArgs false
set_option linter.unusedVariables false
set_option maxHeartbeats 4000000
section
variable {α : Type} [Inhabited α] {enc : α → List Value} {w w' : World} {v c : Value} {d : Array α} {cf : α → α → Int} {a b : Nat}
theorem bin_xor (k : IntKind) (x y : Int) : intBin .xor k x y = some (.int k (k.wrap (BitVec.ofInt k.bits x ^^^ BitVec.ofInt k.bits y).toNat)) := rfl
theorem bin_and (k : IntKind) (x y : Int) : intBin .and k x y = some (.int k (k.wrap (BitVec.ofInt k.bits x &&& BitVec.ofInt k.bits y).toNat)) := rfl
theorem sh_l (k j : IntKind) (x : Int) (n : Nat) : shV .shl (.int k x) (.int j (n : Int)) = some (.int k (k.wrap (x * 2 ^ (min n k.bits)))) := by
  unfold shV; simp only [if_neg (show ¬ (n : Int) < 0 by omega), Int.toNat_natCast]
theorem sh_r (k j : IntKind) (x : Int) (n : Nat) : shV .shr (.int k x) (.int j (n : Int)) = some (.int k (x.fdiv (2 ^ (min n k.bits)))) := by
  unfold shV; simp only [if_neg (show ¬ (n : Int) < 0 by omega), Int.toNat_natCast]
theorem next_run {z : Nat} {x : Int} (hz : bk w z = some [.int .u64 x]) (hw : wr w z = true) :
    Run (F.slices_xorshift_Next (.pointer (some ⟨z, 0, none⟩))) w fun r w' => ∃ y, r = .int .u64 y ∧ bk w' z = some [.int .u64 y] ∧ wr w' z = true ∧ Fr (fun c => c = z) w w' := by
  unfold F.slices_xorshift_Next
  have h13 := fun x => sh_l .u64 .u64 x 13
  have h7 := fun x => sh_r .u64 .u64 x 7
  have h17 := fun x => sh_l .u64 .u64 x 17
  simp only [show ((13 : Nat) : Int) = 13 from rfl, show ((7 : Nat) : Int) = 7 from rfl, show ((17 : Nat) : Int) = 17 from rfl] at h13 h7 h17
  simp [hz, hw, h13, h7, h17, bin_xor]
  exact ((((((Fr.refl (fun c => c = z) w).drew).sto (.inl rfl) _ _).drew).sto (.inl rfl) _ _).drew).sto (.inl rfl) _ _
theorem pow2_run {n : Nat} (h1 : 1 ≤ n) (h2 : n ≤ 1152921504606846976) : Run (F.slices_nextPowerOfTwo (.int .i64 n)) w fun r w' => w' = w ∧ ∃ m : Nat, r = .int .u64 (m : Int) ∧ 1 ≤ m ∧ m ≤ 2 * n := by
  unfold F.slices_nextPowerOfTwo
  have wu : IntKind.u64.wrap (n : Int) = (n : Int) := by simp [IntKind.wrap, IntKind.bits, IntKind.signed]; omega
  obtain ⟨b1, b2, b3⟩ := Lib.bitLenAux_bounds 64 n (by omega) (by omega)
  have hL : Lib.bitLen n = Lib.bitLenAux 64 n := rfl
  obtain ⟨L, hLL⟩ : ∃ L, L + 1 = Lib.bitLenAux 64 n := ⟨Lib.bitLenAux 64 n - 1, by omega⟩
  rw [← hLL] at b2 b3 hL
  simp only [Nat.add_sub_cancel] at b2
  have hlt : L < 61 := by
    refine Nat.not_le.1 fun h => ?_
    have : 2 ^ 61 ≤ 2 ^ L := Nat.pow_le_pow_right (by omega) h
    omega
  have e : Run (F.bits_Len (.int .u64 n)) w fun r w' => r = .int .i64 ((L + 1 : Nat) : Int) ∧ w' = w := by
    refine ⟨_, _, ?_, rfl, rfl⟩
    unfold F.bits_Len
    simp only []
    rw [if_pos ⟨by omega, by omega⟩, Int.toNat_natCast, hL]
  simp only [cvtI_int, wu, Run_bindO_some, Run_bind]
  refine e.mono ?_
  rintro _ w1 ⟨rfl, rfl⟩
  have hm : min (L + 1) IntKind.u64.bits = L + 1 := by show min (L + 1) 64 = L + 1; omega
  have hp : 1 ≤ 2 ^ (L + 1) := Nat.one_le_two_pow
  have hp2 : 2 ^ (L + 1) = 2 * 2 ^ L := by rw [Nat.pow_succ]; omega
  have wm : IntKind.u64.wrap (1 * 2 ^ (L + 1)) = ((2 ^ (L + 1) : Nat) : Int) := by
    have : (1 * 2 ^ (L + 1) : Int) = ((2 ^ (L + 1) : Nat) : Int) := by simp
    rw [this]
    simp only [IntKind.wrap, IntKind.bits, IntKind.signed]
    have : 2 ^ (L + 1) ≤ 2 * n := by omega
    simp
    omega
  simp only [sh_l, hm, wm, Run_bindO_some, Run_ret]
  exact ⟨trivial, _, rfl, hp, by omega⟩
theorem break_run (h : RowS 3 enc w v d) (hab : a < b) (hb : b ≤ d.size) (hs : d.size ≤ 1152921504606846976) :
    Run (F.slices_breakPatternsCmpFunc_Stored v (.int .i64 a) (.int .i64 b) c) w fun _ w' => PermS enc a b w v d w' := by
  unfold F.slices_breakPatternsCmpFunc_Stored
  obtain ⟨n, hn⟩ : ∃ n, n = b - a := ⟨_, rfl⟩
  have wn : IntKind.i64.wrap ((b : Int) - (a : Int)) = (n : Int) := by rw [wrapS] <;> omega
  simp only [binV_int, intBin_sub, intBin_geq, ge_iff_le, Run_bindO_some, wn]
  by_cases h8 : 8 ≤ n
  · have h8' : (8 : Int) ≤ (n : Int) := by omega
    have wu : IntKind.u64.wrap (n : Int) = (n : Int) := by simp [IntKind.wrap, IntKind.bits, IntKind.signed]; omega
    obtain ⟨q, hq⟩ : ∃ q, q = n / 4 := ⟨_, rfl⟩
    obtain ⟨p0, hp0⟩ : ∃ q2, q2 + 1 = a + q * 2 := ⟨a + q * 2 - 1, by omega⟩
    have w4 : IntKind.i64.wrap ((n : Int).tdiv 4) = (q : Int) := by
      rw [Int.tdiv_eq_ediv_of_nonneg (by omega), wrapS] <;> omega
    have w2q : IntKind.i64.wrap ((q : Int) * 2) = (q : Int) * 2 := by rw [wrapS] <;> omega
    have wa : IntKind.i64.wrap ((a : Int) + (q : Int) * 2) = (a : Int) + (q : Int) * 2 := by rw [wrapS] <;> omega
    have wp0 : IntKind.i64.wrap ((a : Int) + (q : Int) * 2 - 1) = (p0 : Int) := by rw [wrapS] <;> omega
    have wp1 : IntKind.i64.wrap ((a : Int) + (q : Int) * 2 + 1) = (p0 : Int) + 2 := by rw [wrapS] <;> omega
    simp only [h8', decide_true, Run_condM_true, cvtI_int, wu, Run_bindO_some, Run_bind]
    refine Run_new fun z w1 hz hwz f1 hzle => ?_
    have hz' : bk w1 z = some [.int .u64 0] := hz
    have hin : ∀ x, inB v x → x < w.heap.size := fun x hx => h.sl.1.lt (by simp; omega) hx
    simp only [Run_stM_iff, cells_int, hz', hwz, Option.some.injEq, exists_eq_left']
    refine ⟨rfl, rfl, by simp, trivial, ?_⟩
    obtain ⟨w2, hw2⟩ : ∃ w2, w2 = sto w1 z 0 [.int .u64 (n : Int)] := ⟨_, rfl⟩
    have f2 : Fr (fun _ => False) w w2 := by rw [hw2]; exact f1.sto (.inr hzle) _ _
    have hz2 : bk w2 z = some [.int .u64 (n : Int)] := by rw [hw2]; simp [hz']
    have hwz2 : wr w2 z = true := by rw [hw2, wr_sto]; exact hwz
    show Run _ (sto w1 z 0 [.int .u64 (n : Int)]) _
    rw [← hw2]
    refine (pow2_run (by omega) (by omega)).mono ?_
    rintro _ _ ⟨rfl, M, rfl, hM1, hM2⟩
    have wM : IntKind.u64.wrap ((M : Int) - 1) = ((M - 1 : Nat) : Int) := by simp [IntKind.wrap, IntKind.bits, IntKind.signed]; omega
    simp only [binV_int, intBin_add, intBin_sub, intBin_mul, intBin_quo, intBin_leq, if_neg (show ¬ (4 : Int) = 0 by decide), w4, w2q, wa, wp0, wp1, wM, Run_bindO_some, Run_bind]
    refine Run_loopM (fun l w3 => ∃ (i : Nat) (d1 : Array α) (x : Int), l = [.int .i64 i] ∧ p0 ≤ i ∧ i ≤ p0 + 3 ∧ PermIn a b d d1 ∧ RowS 3 enc w3 v d1 ∧ Fr (inB v) w w3 ∧ bk w3 z = some [.int .u64 x] ∧ wr w3 z = true)
      (fun l _ => match l with | [.int .i64 i] => p0 + 4 - i.toNat | _ => 0) ?_ ⟨p0, d, n, rfl, by omega, by omega, permIn_refl _ _ _, h.fr0 f2, f2.mono fun _ h => h.elim, hz2, hwz2⟩
    rintro l w3 ⟨i, d1, x, rfl, hi1, hi2, hp, h3, f3, hz3, hwz3⟩
    have hz1 := hp.1
    by_cases hi : i ≤ p0 + 2
    · have hi' : (i : Int) ≤ (p0 : Int) + 2 := by omega
      obtain ⟨i', hi1'⟩ : ∃ m, m = i + 1 := ⟨_, rfl⟩
      have wi : IntKind.i64.wrap ((i : Int) + 1) = (i' : Int) := by rw [wrapS] <;> omega
      simp only [getL_zero, binV_int, intBin_mul, intBin_add, intBin_leq, w2q, wa, wp1, hi', decide_true, Run_bindO_some, Run_condM_true, Run_bind]
      refine (next_run hz3 hwz3).mono ?_
      rintro _ w4 ⟨y, rfl, hz4, hwz4, f4⟩
      have h4 := h3.fr f4 fun x hx hxz => by have := hin x hx; omega
      have f04 : Fr (inB v) w w4 := f3.trans f4 fun x hx hxz => by omega
      obtain ⟨o, ho⟩ : ∃ o, o = (BitVec.ofInt IntKind.u64.bits y &&& BitVec.ofInt IntKind.u64.bits ((M - 1 : Nat) : Int)).toNat := ⟨_, rfl⟩
      have hoM : o ≤ M - 1 := by
        rw [ho, BitVec.toNat_and]
        refine Nat.le_trans Nat.and_le_right ?_
        have : (BitVec.ofInt IntKind.u64.bits ((M - 1 : Nat) : Int)).toNat = M - 1 := by
          show (BitVec.ofInt 64 ((M - 1 : Nat) : Int)).toNat = M - 1
          rw [BitVec.ofInt_natCast, BitVec.toNat_ofNat]
          omega
        omega
      have wo : IntKind.u64.wrap (o : Int) = (o : Int) := by simp [IntKind.wrap, IntKind.bits, IntKind.signed]; omega
      have wo2 : IntKind.i64.wrap (o : Int) = (o : Int) := by rw [wrapS] <;> omega
      simp only [binV_int, bin_and, ← ho, wo, wo2, cvtI_int, Run_bindO_some, Run_bind, intBin_geq, ge_iff_le]
      refine Run.mono (Q := fun r w5 => ∃ t : Nat, r = .norm [.int .i64 t] ∧ t < n ∧ w5 = w4) ?_ ?_
      · by_cases hon : n ≤ o
        · have hon' : (n : Int) ≤ (o : Int) := by omega
          have wt : IntKind.i64.wrap ((o : Int) - (n : Int)) = ((o - n : Nat) : Int) := by rw [wrapS] <;> omega
          simp only [hon', decide_true, Run_condM_true, intBin_sub, binV_int, wt, Run_bindO_some, Run_ret]
          exact ⟨_, rfl, by omega, trivial⟩
        · have hon' : ¬ (n : Int) ≤ (o : Int) := by omega
          simp only [hon', decide_false, Run_condM_false, Run_ret]
          exact ⟨o, rfl, by omega, trivial⟩
      · rintro _ _ ⟨t, rfl, ht, rfl⟩
        obtain ⟨p, hpp⟩ : ∃ p, p = a + t := ⟨_, rfl⟩
        have wp : IntKind.i64.wrap ((a : Int) + (t : Int)) = (p : Int) := by rw [wrapS] <;> omega
        simp only [outK_norm, getL_zero]
        refine Run_drw fun w5 f5 => ?_
        have h5 := h4.fr0 f5
        obtain ⟨x0, l0⟩ := h5.ld (i := i) (by omega)
        obtain ⟨x1, l1⟩ := h5.ld (i := p) (by omega)
        simp only [binV_int, intBin_add, wp, x0, x1, Run_bindO_some, Run_bind, Run_rdM, l0, l1, Option.some.injEq, exists_eq_left']
        refine h5.swp (by omega) (by omega) fun w6 h6 f6 => ?_
        simp only [binV_int, intBin_add, wi, Run_bindO_some, Run_ret]
        have hnz : ¬ inB v z := fun hx => by have := hin z hx; omega
        refine ⟨⟨i', _, y, rfl, by omega, by omega, perm_swp hp hb ⟨by omega, by omega⟩ ⟨by omega, by omega⟩, h6, (f04.trans f5 fun _ _ h => h.elim).trans f6 fun _ _ => id, ?_, ?_⟩, by show p0 + 4 - (i' : Int).toNat < p0 + 4 - (i : Int).toNat; omega⟩
        · exact f6.bk_some (f5.bk_some hz4 id) hnz
        · rw [f6.wr (by have := bk_lt (f5.bk_some hz4 id); exact this) hnz, f5.wr (bk_lt hz4) id]
          exact hwz4
    · have hi' : ¬ (i : Int) ≤ (p0 : Int) + 2 := by omega
      simp only [getL_zero, binV_int, intBin_mul, intBin_add, intBin_leq, w2q, wa, wp1, hi', decide_false, Run_bindO_some, Run_condM_false, Run_ret, outK_exit, natBeq, decide_true, cond_true]
      exact ⟨d1, hp, h3, f3⟩
  · have h8' : ¬ (8 : Int) ≤ (n : Int) := by omega
    simp only [h8', decide_false, Run_condM_false, Run_ret]
    exact ⟨d, permIn_refl _ _ _, h, Fr.refl _ _⟩
/-- Two places in either order; the block of the count alone turns. -/
theorem order2_run (h : RowS 3 enc w v d) (hc : Cmp 3 enc c cf) {z : Nat} {x : Int} (hz : bk w z = some [.int .i64 x]) (hw : wr w z = true) {i j : Nat} (hi : i < d.size) (hj : j < d.size) :
    Run (F.slices_order2CmpFunc_Stored v (.int .i64 i) (.int .i64 j) (.pointer (some ⟨z, 0, none⟩)) c) w fun r w' => (r = .tuple #[.int .i64 i, .int .i64 j] ∨ r = .tuple #[.int .i64 j, .int .i64 i]) ∧ (∃ y, bk w' z = some [.int .i64 y]) ∧ wr w' z = true ∧ Fr (fun c => c = z) w w' := by
  unfold F.slices_order2CmpFunc_Stored
  refine Run_drw fun w1 f1 => ?_
  have h1 := h.fr0 f1
  obtain ⟨x0, l0⟩ := h1.ld hi
  obtain ⟨x1, l1⟩ := h1.ld hj
  simp only [x0, x1, Run_bindO_some, Run_bind, Run_rdM, l0, l1, Option.some.injEq, exists_eq_left']
  refine hc _ _ _ _ fun w2 f2 => ?_
  have f02 := f1.trans f2 fun _ _ h => h
  have hz2 := f02.bk_some hz id
  have hw2 : wr w2 z = true := by rw [f02.wr (bk_lt hz) id]; exact hw
  by_cases hlt : cf (eAt d j) (eAt d i) < 0
  · simp [hlt, hz2, hw2]
    exact (Fr.mono (G := fun c => c = z) f02 fun _ h => h.elim).sto (.inl rfl) _ _
  · simp [hlt, hz2, hw2]
    exact f02.mono fun _ h => h.elim
theorem median_run (h : RowS 3 enc w v d) (hc : Cmp 3 enc c cf) {z : Nat} {x : Int} (hz : bk w z = some [.int .i64 x]) (hw : wr w z = true) (hnz : ¬ inB v z) {i j k : Nat} (hi : i < d.size) (hj : j < d.size) (hk : k < d.size) :
    Run (F.slices_medianCmpFunc_Stored v (.int .i64 i) (.int .i64 j) (.int .i64 k) (.pointer (some ⟨z, 0, none⟩)) c) w fun r w' => (∃ m : Nat, r = .int .i64 m ∧ (m = i ∨ m = j ∨ m = k)) ∧ (∃ y, bk w' z = some [.int .i64 y]) ∧ wr w' z = true ∧ Fr (fun c => c = z) w w' := by
  unfold F.slices_medianCmpFunc_Stored
  have hF : ∀ b, inB v b → ¬ b = z := fun b hb e => hnz (e ▸ hb)
  simp only [Run_bind]
  refine (order2_run h hc hz hw hi hj).mono ?_
  rintro r w1 ⟨hr, ⟨y1, hz1⟩, hw1, f1⟩
  have h1 := h.fr f1 hF
  obtain ⟨p, q, rfl, hp, hq, hpq⟩ : ∃ p q : Nat, r = .tuple #[.int .i64 p, .int .i64 q] ∧ (p = i ∨ p = j) ∧ (q = i ∨ q = j) ∧ True := by
    rcases hr with rfl | rfl
    · exact ⟨i, j, rfl, .inl rfl, .inr rfl, trivial⟩
    · exact ⟨j, i, rfl, .inr rfl, .inl rfl, trivial⟩
  simp only [extV_tuple, List.getElem?_toArray, List.getElem?_cons_zero, List.getElem?_cons_succ, Run_bindO_some, Run_bind]
  refine (order2_run h1 hc hz1 hw1 (i := q) (j := k) (by omega) hk).mono ?_
  rintro r w2 ⟨hr, ⟨y2, hz2⟩, hw2, f2⟩
  have h2 := h1.fr f2 hF
  obtain ⟨s, t, rfl, hs⟩ : ∃ s t : Nat, r = .tuple #[.int .i64 s, .int .i64 t] ∧ (s = q ∨ s = k) := by
    rcases hr with rfl | rfl
    · exact ⟨q, k, rfl, .inl rfl⟩
    · exact ⟨k, q, rfl, .inr rfl⟩
  simp only [extV_tuple, List.getElem?_toArray, List.getElem?_cons_zero, List.getElem?_cons_succ, Run_bindO_some, Run_bind]
  refine (order2_run h2 hc hz2 hw2 (i := p) (j := s) (by omega) (by omega)).mono ?_
  rintro r w3 ⟨hr, hz3, hw3, f3⟩
  have f03 := (f1.trans f2 fun _ _ h => h).trans f3 fun _ _ h => h
  rcases hr with rfl | rfl
  · simp only [extV_tuple, List.getElem?_toArray, List.getElem?_cons_zero, List.getElem?_cons_succ, Run_bindO_some, Run_ret]
    exact ⟨⟨s, rfl, by omega⟩, hz3, hw3, f03⟩
  · simp only [extV_tuple, List.getElem?_toArray, List.getElem?_cons_zero, List.getElem?_cons_succ, Run_bindO_some, Run_ret]
    exact ⟨⟨p, rfl, by omega⟩, hz3, hw3, f03⟩
theorem medianAdj_run (h : RowS 3 enc w v d) (hc : Cmp 3 enc c cf) {z : Nat} {x : Int} (hz : bk w z = some [.int .i64 x]) (hw : wr w z = true) (hnz : ¬ inB v z) {i : Nat} (h1 : 1 ≤ i) (hi : i + 1 < d.size) (hs : d.size ≤ 1152921504606846976) :
    Run (F.slices_medianAdjacentCmpFunc_Stored v (.int .i64 i) (.pointer (some ⟨z, 0, none⟩)) c) w fun r w' => (∃ m : Nat, r = .int .i64 m ∧ i ≤ m + 1 ∧ m ≤ i + 1) ∧ (∃ y, bk w' z = some [.int .i64 y]) ∧ wr w' z = true ∧ Fr (fun c => c = z) w w' := by
  unfold F.slices_medianAdjacentCmpFunc_Stored
  have wa : IntKind.i64.wrap ((i : Int) - 1) = ((i - 1 : Nat) : Int) := by rw [wrapS] <;> omega
  have wb : IntKind.i64.wrap ((i : Int) + 1) = ((i + 1 : Nat) : Int) := by rw [wrapS] <;> omega
  simp only [binV_int, intBin_sub, intBin_add, wa, wb, Run_bindO_some, Run_bind]
  refine (median_run h hc hz hw hnz (by omega) (by omega) (by omega)).mono ?_
  rintro _ w1 ⟨⟨m, rfl, hm⟩, r⟩
  simp only [Run_ret]
  exact ⟨⟨m, rfl, by omega, by omega⟩, r⟩
theorem pivot_run (h : RowS 3 enc w v d) (hc : Cmp 3 enc c cf) (hab : a < b) (hb : b ≤ d.size) (hs : d.size ≤ 1152921504606846976) :
    Run (F.slices_choosePivotCmpFunc_Stored v (.int .i64 a) (.int .i64 b) c) w fun r w' => (∃ (p : Nat) (t : Int), r = .tuple #[.int .i64 p, .int .i64 t] ∧ a ≤ p ∧ p < b) ∧ Fr (fun _ => False) w w' := by
  unfold F.slices_choosePivotCmpFunc_Stored
  obtain ⟨n, hn⟩ : ∃ n, n = b - a := ⟨_, rfl⟩
  obtain ⟨q, hq⟩ : ∃ q, q = n / 4 := ⟨_, rfl⟩
  obtain ⟨i, hi⟩ : ∃ i, i = a + q := ⟨_, rfl⟩
  obtain ⟨j, hj⟩ : ∃ j, j = a + q * 2 := ⟨_, rfl⟩
  obtain ⟨k, hk⟩ : ∃ k, k = a + q * 3 := ⟨_, rfl⟩
  have wn : IntKind.i64.wrap ((b : Int) - (a : Int)) = (n : Int) := by rw [wrapS] <;> omega
  have w4 : IntKind.i64.wrap ((n : Int).tdiv 4) = (q : Int) := by
    rw [Int.tdiv_eq_ediv_of_nonneg (by omega), wrapS] <;> omega
  have wq1 : IntKind.i64.wrap ((q : Int) * 1) = (q : Int) := by rw [wrapS] <;> omega
  have wq2 : IntKind.i64.wrap ((q : Int) * 2) = (q : Int) * 2 := by rw [wrapS] <;> omega
  have wq3 : IntKind.i64.wrap ((q : Int) * 3) = (q : Int) * 3 := by rw [wrapS] <;> omega
  have wi : IntKind.i64.wrap ((a : Int) + (q : Int)) = (i : Int) := by rw [wrapS] <;> omega
  have wj : IntKind.i64.wrap ((a : Int) + (q : Int) * 2) = (j : Int) := by rw [wrapS] <;> omega
  have wk : IntKind.i64.wrap ((a : Int) + (q : Int) * 3) = (k : Int) := by rw [wrapS] <;> omega
  have hin : ∀ x, inB v x → x < w.heap.size := fun x hx => h.sl.1.lt (by simp; omega) hx
  simp only [binV_int, intBin_sub, intBin_quo, if_neg (show ¬ (4 : Int) = 0 by decide), intBin_mul, intBin_add, wn, w4, wq1, wq2, wq3, wi, wj, wk, Run_bindO_some, Run_bind]
  refine Run_new fun z w1 hz hwz f1 hzle => ?_
  have hz' : bk w1 z = some [.int .i64 0] := hz
  have h1 := h.fr0 f1
  have hnz : ¬ inB v z := fun hx => by have := hin z hx; omega
  have hF : ∀ b, inB v b → ¬ b = z := fun b hb e => hnz (e ▸ hb)
  have fz : ∀ {w2 w3 : World}, Fr (fun _ => False) w w2 → Fr (fun c => c = z) w2 w3 → Fr (fun _ => False) w w3 := fun f g => f.new g fun b hb => by omega
  refine Run.mono (Q := fun r w2 => ∃ p : Nat, r = .norm [.int .i64 p] ∧ a ≤ p ∧ p < b ∧ Fr (fun _ => False) w w2 ∧ ∃ y, bk w2 z = some [.int .i64 y]) ?_ ?_
  · simp only [intBin_geq, ge_iff_le, Run_bindO_some]
    by_cases h8 : 8 ≤ n
    · have h8' : (8 : Int) ≤ (n : Int) := by omega
      simp only [h8', decide_true, Run_condM_true, Run_bind]
      refine Run.mono (Q := fun r w2 => ∃ p1 p2 p3 : Nat, r = .norm [.int .i64 p1, .int .i64 p2, .int .i64 p3] ∧ (a ≤ p1 ∧ p1 < b) ∧ (a ≤ p2 ∧ p2 < b) ∧ (a ≤ p3 ∧ p3 < b) ∧ Fr (fun _ => False) w w2 ∧ (∃ y, bk w2 z = some [.int .i64 y]) ∧ wr w2 z = true) ?_ ?_
      · by_cases h50 : 50 ≤ n
        · have h50' : (50 : Int) ≤ (n : Int) := by omega
          simp only [h50', decide_true, Run_bindO_some, Run_condM_true, Run_bind]
          refine (medianAdj_run h1 hc hz' hwz hnz (i := i) (by omega) (by omega) hs).mono ?_
          rintro _ w2 ⟨⟨p1, rfl, m1⟩, ⟨y2, hz2⟩, hw2, f2⟩
          have h2 := h1.fr f2 hF
          refine (medianAdj_run h2 hc hz2 hw2 hnz (i := j) (by omega) (by omega) hs).mono ?_
          rintro _ w3 ⟨⟨p2, rfl, m2⟩, ⟨y3, hz3⟩, hw3, f3⟩
          have h3 := h2.fr f3 hF
          refine (medianAdj_run h3 hc hz3 hw3 hnz (i := k) (by omega) (by omega) hs).mono ?_
          rintro _ w4 ⟨⟨p3, rfl, m3⟩, hz4, hw4, f4⟩
          simp only [Run_ret]
          exact ⟨p1, p2, p3, rfl, by omega, by omega, by omega, fz (fz (fz f1 f2) f3) f4, hz4, hw4⟩
        · have h50' : ¬ (50 : Int) ≤ (n : Int) := by omega
          simp only [h50', decide_false, Run_bindO_some, Run_condM_false, Run_ret]
          exact ⟨i, j, k, rfl, by omega, by omega, by omega, f1, ⟨_, hz'⟩, hwz⟩
      · rintro _ w2 ⟨p1, p2, p3, rfl, c1, c2, c3, f2, ⟨y2, hz2⟩, hw2⟩
        simp only [outK_norm, getL_zero, getL_succ, Run_bind]
        refine (median_run (h.fr0 f2) hc hz2 hw2 hnz (by omega) (by omega) (by omega)).mono ?_
        rintro _ w3 ⟨⟨m, rfl, hm⟩, hz3, hw3, f3⟩
        simp only [Run_ret]
        exact ⟨m, rfl, by omega, by omega, fz f2 f3, hz3⟩
    · have h8' : ¬ (8 : Int) ≤ (n : Int) := by omega
      simp only [h8', decide_false, Run_condM_false, Run_ret]
      exact ⟨j, rfl, by omega, by omega, f1, _, hz'⟩
  · rintro _ w2 ⟨p, rfl, hp1, hp2, f2, y, hz2⟩
    simp only [outK_norm, getL_zero, Run_bind, Run_rdM, ld1_ptr, hz2, Option.bind_some, List.getElem?_cons_zero, Option.some.injEq, exists_eq_left', binV_int, intBin_eql, Run_bindO_some]
    by_cases y0 : y = 0
    · simp only [y0, decide_true, Run_condM_true, Run_ret]
      exact ⟨⟨p, 1, rfl, hp1, hp2⟩, f2⟩
    · by_cases y12 : y = 12
      · subst y12
        simp only [show ¬ (12 : Int) = 0 by decide, decide_false, decide_true, Run_condM_false, Run_condM_true, Run_ret, Run_bindO_some]
        exact ⟨⟨p, 2, rfl, hp1, hp2⟩, f2⟩
      · simp only [y0, y12, decide_false, decide_true, Run_condM_false, Run_condM_true, Run_ret, Run_bindO_some]
        exact ⟨⟨p, 0, rfl, hp1, hp2⟩, f2⟩
end
end Go.Proofs.YtojnickeblbgoaaDoor.SortStored

/-
  slices.SortFunc, part F: the two partitions.
-/
namespace Go.Proofs.YtojnickeblbgoaaDoor.SortStored
open Go.Lift Go.Sort
set_option linter.unusedSimpArgs false
set_option linter.unusedVariables false
set_option maxHeartbeats 4000000
section
variable {α : Type} [Inhabited α] {enc : α → List Value} {w w' : World} {v c : Value} {d : Array α} {cf : α → α → Int} {a b : Nat}
theorem scanUp_le (p : α → Bool) (d : Array α) (j i : Nat) : i ≤ scanUp p d j i ∧ scanUp p d j i ≤ max i (j + 1) := by
  fun_induction scanUp p d j i with
  | case1 i h ih =>
    simp only [Bool.and_eq_true, decide_eq_true_eq] at h
    omega
  | case2 i h => omega
theorem scanDown_le (p : α → Bool) (d : Array α) (i : Nat) : ∀ j, scanDown p d i j ≤ j ∧ (1 ≤ i → i ≤ j + 1 → i ≤ scanDown p d i j + 1)
  | 0 => ⟨Nat.le_refl _, fun h1 h2 => h2⟩
  | j + 1 => by
    unfold scanDown
    split
    · rename_i h
      simp only [Bool.and_eq_true, decide_eq_true_eq] at h
      have := scanDown_le p d i j
      exact ⟨by omega, fun h1 h2 => this.2 h1 h.1⟩
    · exact ⟨Nat.le_refl _, fun _ h => h⟩
/-- A scan upwards: while p holds. -/
theorem scanUp_loop {step : List Value → M Out} {p : α → Bool} {j : Nat} (ex : Nat) (h : RowS 3 enc w v d)
    (hstep : ∀ i w1, RowS 3 enc w1 v d → i ≤ j + 2 → Run (step [.int .i64 (i : Nat)]) w1 fun o w2 => Fr (fun _ => False) w1 w2 ∧ o = (if i ≤ j && p d[i]! then Out.norm [.int .i64 ((i + 1 : Nat) : Int)] else Out.exit ex [.int .i64 (i : Nat)]))
    {i : Nat} (hi : i ≤ j + 2) : Run (loopM step [.int .i64 i]) w fun o w' => o = .exit ex [.int .i64 (scanUp p d j i : Nat)] ∧ RowS 3 enc w' v d ∧ Fr (fun _ => False) w w' := by
  refine Run_loopM (fun l w1 => ∃ i2 : Nat, l = [.int .i64 i2] ∧ i2 ≤ j + 2 ∧ Fr (fun _ => False) w w1 ∧ scanUp p d j i2 = scanUp p d j i) (fun l _ => match l with | [.int .i64 i] => j + 1 - i.toNat | _ => 0) ?_ ⟨i, rfl, hi, Fr.refl _ _, rfl⟩
  rintro l w1 ⟨i2, rfl, hi2, f1, e2⟩
  generalize scanUp p d j i = S at e2 ⊢
  refine (hstep i2 w1 (h.fr0 f1) hi2).mono ?_
  rintro _ w2 ⟨f2, rfl⟩
  have f02 := f1.trans f2 fun _ _ h => h
  unfold scanUp at e2
  by_cases hc : (decide (i2 ≤ j) && p d[i2]!) = true
  · rw [if_pos hc] at e2 ⊢
    simp only [Bool.and_eq_true, decide_eq_true_eq] at hc
    exact ⟨⟨i2 + 1, rfl, by omega, f02, e2⟩, by show j + 1 - ((i2 + 1 : Nat) : Int).toNat < j + 1 - (i2 : Int).toNat; omega⟩
  · rw [if_neg hc] at e2 ⊢
    rw [← e2]
    exact ⟨rfl, h.fr0 f02, f02⟩
theorem scanDown_loop {step : List Value → M Out} {p : α → Bool} {i : Nat} (ex : Nat) (h : RowS 3 enc w v d) (h1 : 1 ≤ i) {j : Nat}
    (hstep : ∀ k w1, RowS 3 enc w1 v d → k ≤ j → Run (step [.int .i64 (k : Nat)]) w1 fun o w2 => Fr (fun _ => False) w1 w2 ∧ o = (if i ≤ k && p d[k]! then Out.norm [.int .i64 ((k - 1 : Nat) : Int)] else Out.exit ex [.int .i64 (k : Nat)])) :
    Run (loopM step [.int .i64 j]) w fun o w' => o = .exit ex [.int .i64 (scanDown p d i j : Nat)] ∧ RowS 3 enc w' v d ∧ Fr (fun _ => False) w w' := by
  refine Run_loopM (fun l w1 => ∃ k : Nat, l = [.int .i64 k] ∧ k ≤ j ∧ Fr (fun _ => False) w w1 ∧ scanDown p d i k = scanDown p d i j) (fun l _ => match l with | [.int .i64 i] => i.toNat | _ => 0) ?_ ⟨j, rfl, Nat.le_refl _, Fr.refl _ _, rfl⟩
  rintro l w1 ⟨k, rfl, hk, f1, e2⟩
  generalize scanDown p d i j = S at e2 ⊢
  refine (hstep k w1 (h.fr0 f1) hk).mono ?_
  rintro _ w2 ⟨f2, rfl⟩
  have f02 := f1.trans f2 fun _ _ h => h
  by_cases hc : (decide (i ≤ k) && p d[k]!) = true
  · rw [if_pos hc]
    have hc' := hc
    simp only [Bool.and_eq_true, decide_eq_true_eq] at hc'
    obtain ⟨m, rfl⟩ : ∃ m, k = m + 1 := ⟨k - 1, by omega⟩
    unfold scanDown at e2
    rw [if_pos hc] at e2
    exact ⟨⟨m, rfl, by omega, f02, e2⟩, by show ((m : Nat) : Int).toNat < ((m + 1 : Nat) : Int).toNat; omega⟩
  · rw [if_neg hc]
    have e3 : k = S := by
      cases k with
      | zero => exact e2
      | succ m =>
        unfold scanDown at e2
        rw [if_neg hc] at e2
        exact e2
    rw [← e3]
    exact ⟨rfl, h.fr0 f02, f02⟩
theorem eq_run (h : RowS 3 enc w v d) (hc : Cmp 3 enc c cf) (hab : a < b) (hb : b ≤ d.size) {pv : Nat} (hp1 : a ≤ pv) (hp2 : pv < b) (hs : d.size ≤ 1152921504606846976) :
    Run (F.slices_partitionEqualCmpFunc_Stored v (.int .i64 a) (.int .i64 b) (.int .i64 pv) c) w fun r w' => r = .int .i64 ((partitionEqual (ltC cf) d a b pv).1 : Nat) ∧ RowS 3 enc w' v (partitionEqual (ltC cf) d a b pv).2 ∧ Fr (inB v) w w' := by
  unfold F.slices_partitionEqualCmpFunc_Stored
  have wa : IntKind.i64.wrap ((a : Int) + 1) = ((a + 1 : Nat) : Int) := by rw [wrapS] <;> omega
  have wb : IntKind.i64.wrap ((b : Int) - 1) = ((b - 1 : Nat) : Int) := by rw [wrapS] <;> omega
  refine Run_drw fun w1 f1 => ?_
  have h1 := h.fr0 f1
  obtain ⟨x0, l0⟩ := h1.ld (i := pv) (by omega)
  obtain ⟨x1, l1⟩ := h1.ld (i := a) (by omega)
  simp only [x0, x1, Run_bindO_some, Run_bind, Run_rdM, l0, l1, Option.some.injEq, exists_eq_left']
  refine h1.swp (by omega) (by omega) fun w2 h2 f2 => ?_
  have f02 : Fr (inB v) w w2 := (f1.mono fun _ h => h.elim).trans f2 fun _ _ => id
  simp only [binV_int, intBin_add, intBin_sub, wa, wb, Run_bindO_some, Run_bind]
  refine Run_loopM (fun l w3 => ∃ (i j : Nat) (d1 : Array α), l = [.int .i64 i, .int .i64 j] ∧ a + 1 ≤ i ∧ i ≤ j + 2 ∧ j < b ∧ d1.size = d.size ∧ RowS 3 enc w3 v d1 ∧ Fr (inB v) w w3 ∧ partEqLoop (ltC cf) a i j d1 = partitionEqual (ltC cf) d a b pv)
    (fun l _ => match l with | [.int .i64 i, .int .i64 _] => b + 1 - i.toNat | _ => 0) ?_ ⟨a + 1, b - 1, _, rfl, by omega, by omega, by omega, swp_size d a pv, h2, f02, rfl⟩
  rintro l w3 ⟨i, j, d1, rfl, hi, hij, hj, hd1, h3, f3, e3⟩
  simp only [Run_bind, getL_zero, getL_succ]
  have up := scanUp_le (fun x => !ltC cf d1[a]! x) d1 j i
  refine Run.mono (scanUp_loop (p := fun x => !ltC cf d1[a]! x) (j := j) 2 h3 (fun k w1 h1 hk => ?_) hij) ?_
  · refine Run_drw fun w2 f2 => ?_
    have h2 := h1.fr0 f2
    by_cases hkj : k ≤ j
    · have hkj' : (k : Int) ≤ (j : Int) := by omega
      obtain ⟨x0, l0⟩ := h2.ld (i := a) (by omega)
      obtain ⟨x1, l1⟩ := h2.ld (i := k) (by omega)
      have wk : IntKind.i64.wrap ((k : Int) + 1) = ((k + 1 : Nat) : Int) := by rw [wrapS] <;> omega
      simp [-ldA_ptr, -Run_drewM, hkj', hkj, x0, x1, l0, l1]
      refine hc _ _ _ _ fun w3 f3 => ?_
      by_cases hlt : cf (eAt d1 a) (eAt d1 k) < 0
      · have hl : ltC cf d1[a]! d1[k]! = true := decide_eq_true hlt
        simp [-ldA_ptr, -Run_drewM, hlt, hl, -getElem!_pos]
        exact f2.trans f3 fun _ _ h => h
      · have hl : ltC cf d1[a]! d1[k]! = false := decide_eq_false hlt
        simp [-ldA_ptr, -Run_drewM, hlt, hl, wk, -getElem!_pos]
        exact f2.trans f3 fun _ _ h => h
    · have hkj' : ¬ (k : Int) ≤ (j : Int) := by omega
      simp [-ldA_ptr, -Run_drewM, hkj', hkj]
      exact f2
  · rintro _ w4 ⟨rfl, h4, f4⟩
    obtain ⟨i2, hi2⟩ : ∃ i2, i2 = scanUp (fun x => !ltC cf d1[a]! x) d1 j i := ⟨_, rfl⟩
    rw [← hi2] at up ⊢
    simp only [outK_exit, natBeq, decide_true, cond_true, getL_zero, Run_bind]
    have dn := scanDown_le (fun x => ltC cf d1[a]! x) d1 i2 j
    refine Run.mono (scanDown_loop (p := fun x => ltC cf d1[a]! x) (i := i2) 4 h4 (by omega) (j := j) (fun k w1 h1 hk => ?_)) ?_
    · refine Run_drw fun w2 f2 => ?_
      have h2 := h1.fr0 f2
      by_cases hkj : i2 ≤ k
      · have hkj' : (i2 : Int) ≤ (k : Int) := by omega
        obtain ⟨x0, l0⟩ := h2.ld (i := a) (by omega)
        obtain ⟨x1, l1⟩ := h2.ld (i := k) (by omega)
        have wk : IntKind.i64.wrap ((k : Int) - 1) = ((k - 1 : Nat) : Int) := by rw [wrapS] <;> omega
        simp [-ldA_ptr, -Run_drewM, hkj', hkj, x0, x1, l0, l1]
        refine hc _ _ _ _ fun w3 f3 => ?_
        by_cases hlt : cf (eAt d1 a) (eAt d1 k) < 0
        · have hl : ltC cf d1[a]! d1[k]! = true := decide_eq_true hlt
          simp [-ldA_ptr, -Run_drewM, hlt, hl, wk, -getElem!_pos]
          exact f2.trans f3 fun _ _ h => h
        · have hl : ltC cf d1[a]! d1[k]! = false := decide_eq_false hlt
          simp [-ldA_ptr, -Run_drewM, hlt, hl, -getElem!_pos]
          exact f2.trans f3 fun _ _ h => h
      · have hkj' : ¬ (i2 : Int) ≤ (k : Int) := by omega
        simp [-ldA_ptr, -Run_drewM, hkj', hkj]
        exact f2
    · rintro _ w5 ⟨rfl, h5, f5⟩
      obtain ⟨j2, hj2⟩ : ∃ j2, j2 = scanDown (fun x => ltC cf d1[a]! x) d1 i2 j := ⟨_, rfl⟩
      rw [← hj2] at dn ⊢
      have f05 : Fr (inB v) w w5 := (f3.trans f4 fun _ _ h => h.elim).trans f5 fun _ _ h => h.elim
      have un : partEqLoop (ltC cf) a i j d1 = if i2 > j2 then (i2, d1) else if h : (j2 - 1) + 1 - (i2 + 1) < j + 1 - i then partEqLoop (ltC cf) a (i2 + 1) (j2 - 1) (Sort.swp d1 i2 j2) else (i2, d1) := by
        conv => lhs; unfold partEqLoop
        simp only [← hi2, ← hj2]
      simp only [outK_exit, natBeq, decide_true, cond_true, getL_zero, binV_int, intBin_gtr, Run_bindO_some]
      by_cases hgt : i2 > j2
      · have hgt' : (i2 : Int) > (j2 : Int) := by omega
        rw [if_pos hgt] at un
        simp only [hgt', decide_true, Run_condM_true, Run_ret, outK_exit, natBeq, cond_true, getL_zero]
        rw [← e3, un]
        exact ⟨rfl, h5, f05⟩
      · have hgt' : ¬ (i2 : Int) > (j2 : Int) := by omega
        rw [if_neg hgt, dif_pos (by omega)] at un
        have wi : IntKind.i64.wrap ((i2 : Int) + 1) = ((i2 + 1 : Nat) : Int) := by rw [wrapS] <;> omega
        have wj : IntKind.i64.wrap ((j2 : Int) - 1) = ((j2 - 1 : Nat) : Int) := by rw [wrapS] <;> omega
        simp only [hgt', decide_false, Run_condM_false]
        refine Run_drw fun w6 f6 => ?_
        have h6 := h5.fr0 f6
        obtain ⟨x0, l0⟩ := h6.ld (i := j2) (by omega)
        obtain ⟨x1, l1⟩ := h6.ld (i := i2) (by omega)
        simp only [x0, x1, Run_bindO_some, Run_bind, Run_rdM, l0, l1, Option.some.injEq, exists_eq_left']
        refine h6.swp (by omega) (by omega) fun w7 h7 f7 => ?_
        simp only [binV_int, intBin_add, intBin_sub, wi, wj, Run_bindO_some, Run_ret]
        exact ⟨⟨i2 + 1, j2 - 1, _, rfl, by omega, by omega, by omega, by rw [swp_size, hd1], h7, (f05.trans f6 fun _ _ h => h.elim).trans f7 fun _ _ => id, by rw [← un, e3]⟩,
          by show b + 1 - ((i2 + 1 : Nat) : Int).toNat < b + 1 - (i : Int).toNat; omega⟩
end
end Go.Proofs.YtojnickeblbgoaaDoor.SortStored

/-
  slices.SortFunc, part G: the partition.
-/
namespace Go.Proofs.YtojnickeblbgoaaDoor.SortStored
open Go.Lift Go.Sort
set_option linter.unusedSimpArgs false
set_option linter.unusedVariables false
set_option maxHeartbeats 4000000
section
variable {α : Type} [Inhabited α] {enc : α → List Value} {w w' : World} {v c : Value} {d : Array α} {cf : α → α → Int} {a b : Nat}
theorem part_run (h : RowS 3 enc w v d) (hc : Cmp 3 enc c cf) (hab : a < b) (hb : b ≤ d.size) {pv : Nat} (hp1 : a ≤ pv) (hp2 : pv < b) (hs : d.size ≤ 1152921504606846976) :
    Run (F.slices_partitionCmpFunc_Stored v (.int .i64 a) (.int .i64 b) (.int .i64 pv) c) w fun r w' => r = .tuple #[.int .i64 ((partition (ltC cf) d a b pv).1 : Nat), .bool (partition (ltC cf) d a b pv).2.1] ∧ RowS 3 enc w' v (partition (ltC cf) d a b pv).2.2 ∧ Fr (inB v) w w' := by
  unfold F.slices_partitionCmpFunc_Stored
  have wa : IntKind.i64.wrap ((a : Int) + 1) = ((a + 1 : Nat) : Int) := by rw [wrapS] <;> omega
  obtain ⟨b1, hb1⟩ : ∃ b1, b1 = b - 1 := ⟨_, rfl⟩
  have wb : IntKind.i64.wrap ((b : Int) - 1) = (b1 : Int) := by rw [wrapS] <;> omega
  refine Run_drw fun w1 f1 => ?_
  have h1 := h.fr0 f1
  obtain ⟨x0, l0⟩ := h1.ld (i := pv) (by omega)
  obtain ⟨x1, l1⟩ := h1.ld (i := a) (by omega)
  simp only [x0, x1, Run_bindO_some, Run_bind, Run_rdM, l0, l1, Option.some.injEq, exists_eq_left']
  refine h1.swp (by omega) (by omega) fun w2 h2 f2 => ?_
  have f02 : Fr (inB v) w w2 := (f1.mono fun _ h => h.elim).trans f2 fun _ _ => id
  have hdz : (Sort.swp d a pv).size = d.size := swp_size d a pv
  obtain ⟨D, hD⟩ : ∃ D, D = Sort.swp d a pv := ⟨_, rfl⟩
  rw [← hD] at h2 hdz
  simp only [binV_int, intBin_add, intBin_sub, wa, wb, Run_bindO_some, Run_bind]
  have pe : partition (ltC cf) d a b pv = if scanUp (fun x => ltC cf x D[a]!) D b1 (a + 1) > scanDown (fun x => !ltC cf x D[a]!) D (scanUp (fun x => ltC cf x D[a]!) D b1 (a + 1)) b1 then (scanDown (fun x => !ltC cf x D[a]!) D (scanUp (fun x => ltC cf x D[a]!) D b1 (a + 1)) b1, true, Sort.swp D (scanDown (fun x => !ltC cf x D[a]!) D (scanUp (fun x => ltC cf x D[a]!) D b1 (a + 1)) b1) a) else
      ((partLoop (ltC cf) a (scanUp (fun x => ltC cf x D[a]!) D b1 (a + 1) + 1) (scanDown (fun x => !ltC cf x D[a]!) D (scanUp (fun x => ltC cf x D[a]!) D b1 (a + 1)) b1 - 1) (Sort.swp D (scanUp (fun x => ltC cf x D[a]!) D b1 (a + 1)) (scanDown (fun x => !ltC cf x D[a]!) D (scanUp (fun x => ltC cf x D[a]!) D b1 (a + 1)) b1))).1, false,
        Sort.swp (partLoop (ltC cf) a (scanUp (fun x => ltC cf x D[a]!) D b1 (a + 1) + 1) (scanDown (fun x => !ltC cf x D[a]!) D (scanUp (fun x => ltC cf x D[a]!) D b1 (a + 1)) b1 - 1) (Sort.swp D (scanUp (fun x => ltC cf x D[a]!) D b1 (a + 1)) (scanDown (fun x => !ltC cf x D[a]!) D (scanUp (fun x => ltC cf x D[a]!) D b1 (a + 1)) b1))).2
          (partLoop (ltC cf) a (scanUp (fun x => ltC cf x D[a]!) D b1 (a + 1) + 1) (scanDown (fun x => !ltC cf x D[a]!) D (scanUp (fun x => ltC cf x D[a]!) D b1 (a + 1)) b1 - 1) (Sort.swp D (scanUp (fun x => ltC cf x D[a]!) D b1 (a + 1)) (scanDown (fun x => !ltC cf x D[a]!) D (scanUp (fun x => ltC cf x D[a]!) D b1 (a + 1)) b1))).1 a) := by
    rw [hD, hb1]; rfl
  have up := scanUp_le (fun x => ltC cf x D[a]!) D b1 (a + 1)
  refine Run.mono (scanUp_loop (p := fun x => ltC cf x D[a]!) (j := b1) 0 h2 (fun k w1 h1 hk => ?_) (by omega)) ?_
  · show Run _ w1 fun o w2 => Fr (fun _ => False) w1 w2 ∧ o = _
    refine Run_drw fun w2 f2 => ?_
    have h2 := h1.fr0 f2
    by_cases hkj : k ≤ b1
    · have hkj' : (k : Int) ≤ (b1 : Int) := by omega
      obtain ⟨x0, l0⟩ := h2.ld (i := k) (by omega)
      obtain ⟨x1, l1⟩ := h2.ld (i := a) (by omega)
      have wk : IntKind.i64.wrap ((k : Int) + 1) = ((k + 1 : Nat) : Int) := by rw [wrapS] <;> omega
      simp [-ldA_ptr, -Run_drewM, hkj', hkj, x0, x1, l0, l1]
      refine hc _ _ _ _ fun w3 f3 => ?_
      by_cases hlt : cf (eAt D k) (eAt D a) < 0
      · have hl : ltC cf D[k]! D[a]! = true := decide_eq_true hlt
        simp [-ldA_ptr, -Run_drewM, hlt, hl, wk, -getElem!_pos]
        exact f2.trans f3 fun _ _ h => h
      · have hl : ltC cf D[k]! D[a]! = false := decide_eq_false hlt
        simp [-ldA_ptr, -Run_drewM, hlt, hl, -getElem!_pos]
        exact f2.trans f3 fun _ _ h => h
    · have hkj' : ¬ (k : Int) ≤ (b1 : Int) := by omega
      simp [-ldA_ptr, -Run_drewM, hkj', hkj]
      exact f2
  rintro _ w3 ⟨rfl, h3, f3⟩
  obtain ⟨i, hi⟩ : ∃ i, i = scanUp (fun x => ltC cf x D[a]!) D b1 (a + 1) := ⟨_, rfl⟩
  rw [← hi] at up pe ⊢
  simp only [outK_exit, natBeq, decide_true, cond_true, getL_zero, Run_bind]
  have dn := scanDown_le (fun x => !ltC cf x D[a]!) D i b1
  refine Run.mono (scanDown_loop (p := fun x => !ltC cf x D[a]!) (i := i) 2 h3 (by omega) (j := b1) (fun k w1 h1 hk => ?_)) ?_
  · show Run _ w1 fun o w2 => Fr (fun _ => False) w1 w2 ∧ o = _
    refine Run_drw fun w2 f2 => ?_
    have h2 := h1.fr0 f2
    by_cases hkj : i ≤ k
    · have hkj' : (i : Int) ≤ (k : Int) := by omega
      obtain ⟨x0, l0⟩ := h2.ld (i := k) (by omega)
      obtain ⟨x1, l1⟩ := h2.ld (i := a) (by omega)
      have wk : IntKind.i64.wrap ((k : Int) - 1) = ((k - 1 : Nat) : Int) := by rw [wrapS] <;> omega
      simp [-ldA_ptr, -Run_drewM, hkj', hkj, x0, x1, l0, l1]
      refine hc _ _ _ _ fun w3 f3 => ?_
      by_cases hlt : cf (eAt D k) (eAt D a) < 0
      · have hl : ltC cf D[k]! D[a]! = true := decide_eq_true hlt
        simp [-ldA_ptr, -Run_drewM, hlt, hl, -getElem!_pos]
        exact f2.trans f3 fun _ _ h => h
      · have hl : ltC cf D[k]! D[a]! = false := decide_eq_false hlt
        simp [-ldA_ptr, -Run_drewM, hlt, hl, wk, -getElem!_pos]
        exact f2.trans f3 fun _ _ h => h
    · have hkj' : ¬ (i : Int) ≤ (k : Int) := by omega
      simp [-ldA_ptr, -Run_drewM, hkj', hkj]
      exact f2
  rintro _ w4 ⟨rfl, h4, f4⟩
  obtain ⟨j, hj⟩ : ∃ j, j = scanDown (fun x => !ltC cf x D[a]!) D i b1 := ⟨_, rfl⟩
  rw [← hj] at dn pe ⊢
  have f04 : Fr (inB v) w w4 := (f02.trans f3 fun _ _ h => h.elim).trans f4 fun _ _ h => h.elim
  simp only [outK_exit, natBeq, decide_true, cond_true, getL_zero, binV_int, intBin_gtr, Run_bindO_some]
  by_cases hgt : i > j
  · have hgt' : (i : Int) > (j : Int) := by omega
    rw [if_pos hgt] at pe
    simp only [hgt', decide_true, Run_condM_true]
    refine Run_drw fun w5 f5 => ?_
    have h5 := h4.fr0 f5
    obtain ⟨x0, l0⟩ := h5.ld (i := a) (by omega)
    obtain ⟨x1, l1⟩ := h5.ld (i := j) (by omega)
    simp only [x0, x1, Run_bindO_some, Run_bind, Run_rdM, l0, l1, Option.some.injEq, exists_eq_left']
    refine h5.swp (by omega) (by omega) fun w6 h6 f6 => ?_
    simp only [Run_ret]
    rw [pe]
    exact ⟨rfl, h6, (f04.trans f5 fun _ _ h => h.elim).trans f6 fun _ _ => id⟩
  have hgt' : ¬ (i : Int) > (j : Int) := by omega
  rw [if_neg hgt] at pe
  simp only [hgt', decide_false, Run_condM_false]
  have wi : IntKind.i64.wrap ((i : Int) + 1) = ((i + 1 : Nat) : Int) := by rw [wrapS] <;> omega
  have wj : IntKind.i64.wrap ((j : Int) - 1) = ((j - 1 : Nat) : Int) := by rw [wrapS] <;> omega
  refine Run_drw fun w5 f5 => ?_
  have h5 := h4.fr0 f5
  obtain ⟨x0, l0⟩ := h5.ld (i := j) (by omega)
  obtain ⟨x1, l1⟩ := h5.ld (i := i) (by omega)
  simp only [x0, x1, Run_bindO_some, Run_bind, Run_rdM, l0, l1, Option.some.injEq, exists_eq_left']
  refine h5.swp (by omega) (by omega) fun w6 h6 f6 => ?_
  have f06 := (f04.trans f5 fun _ _ h => h.elim).trans f6 fun _ _ => id
  simp only [binV_int, intBin_add, intBin_sub, wi, wj, Run_bindO_some, Run_bind]
  refine Run_loopM (fun l w3 => ∃ (i1 j1 : Nat) (d1 : Array α), l = [.int .i64 i1, .int .i64 j1] ∧ a + 1 ≤ i1 ∧ i1 ≤ j1 + 2 ∧ j1 < b ∧ d1.size = d.size ∧ RowS 3 enc w3 v d1 ∧ Fr (inB v) w w3 ∧ partLoop (ltC cf) a i1 j1 d1 = partLoop (ltC cf) a (i + 1) (j - 1) (Sort.swp D i j))
    (fun l _ => match l with | [.int .i64 i, .int .i64 _] => b + 1 - i.toNat | _ => 0) ?_ ⟨i + 1, j - 1, _, rfl, by omega, by omega, by omega, by rw [swp_size, hdz], h6, f06, rfl⟩
  rintro l w3 ⟨i1, j1, d1, rfl, hi1, hij1, hj1, hd1, h3, f3, e3⟩
  generalize partLoop (ltC cf) a (i + 1) (j - 1) (Sort.swp D i j) = R at e3 pe
  simp only [Run_bind, getL_zero, getL_succ]
  have up1 := scanUp_le (fun x => ltC cf x d1[a]!) d1 j1 i1
  refine Run.mono (scanUp_loop (p := fun x => ltC cf x d1[a]!) (j := j1) 6 h3 (fun k w1 h1 hk => ?_) hij1) ?_
  · show Run _ w1 fun o w2 => Fr (fun _ => False) w1 w2 ∧ o = _
    refine Run_drw fun w2 f2 => ?_
    have h2 := h1.fr0 f2
    by_cases hkj : k ≤ j1
    · have hkj' : (k : Int) ≤ (j1 : Int) := by omega
      obtain ⟨x0, l0⟩ := h2.ld (i := k) (by omega)
      obtain ⟨x1, l1⟩ := h2.ld (i := a) (by omega)
      have wk : IntKind.i64.wrap ((k : Int) + 1) = ((k + 1 : Nat) : Int) := by rw [wrapS] <;> omega
      simp [-ldA_ptr, -Run_drewM, hkj', hkj, x0, x1, l0, l1]
      refine hc _ _ _ _ fun w3 f3 => ?_
      by_cases hlt : cf (eAt d1 k) (eAt d1 a) < 0
      · have hl : ltC cf d1[k]! d1[a]! = true := decide_eq_true hlt
        simp [-ldA_ptr, -Run_drewM, hlt, hl, wk, -getElem!_pos]
        exact f2.trans f3 fun _ _ h => h
      · have hl : ltC cf d1[k]! d1[a]! = false := decide_eq_false hlt
        simp [-ldA_ptr, -Run_drewM, hlt, hl, -getElem!_pos]
        exact f2.trans f3 fun _ _ h => h
    · have hkj' : ¬ (k : Int) ≤ (j1 : Int) := by omega
      simp [-ldA_ptr, -Run_drewM, hkj', hkj]
      exact f2
  rintro _ w4 ⟨rfl, h4, f4⟩
  obtain ⟨i2, hi2⟩ : ∃ i2, i2 = scanUp (fun x => ltC cf x d1[a]!) d1 j1 i1 := ⟨_, rfl⟩
  rw [← hi2] at up1 ⊢
  simp only [outK_exit, natBeq, decide_true, cond_true, getL_zero, Run_bind]
  have dn1 := scanDown_le (fun x => !ltC cf x d1[a]!) d1 i2 j1
  refine Run.mono (scanDown_loop (p := fun x => !ltC cf x d1[a]!) (i := i2) 8 h4 (by omega) (j := j1) (fun k w1 h1 hk => ?_)) ?_
  · show Run _ w1 fun o w2 => Fr (fun _ => False) w1 w2 ∧ o = _
    refine Run_drw fun w2 f2 => ?_
    have h2 := h1.fr0 f2
    by_cases hkj : i2 ≤ k
    · have hkj' : (i2 : Int) ≤ (k : Int) := by omega
      obtain ⟨x0, l0⟩ := h2.ld (i := k) (by omega)
      obtain ⟨x1, l1⟩ := h2.ld (i := a) (by omega)
      have wk : IntKind.i64.wrap ((k : Int) - 1) = ((k - 1 : Nat) : Int) := by rw [wrapS] <;> omega
      simp [-ldA_ptr, -Run_drewM, hkj', hkj, x0, x1, l0, l1]
      refine hc _ _ _ _ fun w3 f3 => ?_
      by_cases hlt : cf (eAt d1 k) (eAt d1 a) < 0
      · have hl : ltC cf d1[k]! d1[a]! = true := decide_eq_true hlt
        simp [-ldA_ptr, -Run_drewM, hlt, hl, -getElem!_pos]
        exact f2.trans f3 fun _ _ h => h
      · have hl : ltC cf d1[k]! d1[a]! = false := decide_eq_false hlt
        simp [-ldA_ptr, -Run_drewM, hlt, hl, wk, -getElem!_pos]
        exact f2.trans f3 fun _ _ h => h
    · have hkj' : ¬ (i2 : Int) ≤ (k : Int) := by omega
      simp [-ldA_ptr, -Run_drewM, hkj', hkj]
      exact f2
  rintro _ w5 ⟨rfl, h5, f5⟩
  obtain ⟨j2, hj2⟩ : ∃ j2, j2 = scanDown (fun x => !ltC cf x d1[a]!) d1 i2 j1 := ⟨_, rfl⟩
  rw [← hj2] at dn1 ⊢
  have f05 : Fr (inB v) w w5 := (f3.trans f4 fun _ _ h => h.elim).trans f5 fun _ _ h => h.elim
  have un : partLoop (ltC cf) a i1 j1 d1 = if i2 > j2 then (j2, d1) else if h : (j2 - 1) + 1 - (i2 + 1) < j1 + 1 - i1 then partLoop (ltC cf) a (i2 + 1) (j2 - 1) (Sort.swp d1 i2 j2) else (j2, d1) := by
    conv => lhs; unfold partLoop
    simp only [← hi2, ← hj2]
  simp only [outK_exit, natBeq, decide_true, cond_true, getL_zero, binV_int, intBin_gtr, Run_bindO_some]
  by_cases hg2 : i2 > j2
  · have hg2' : (i2 : Int) > (j2 : Int) := by omega
    rw [if_pos hg2] at un
    rw [un] at e3
    subst e3
    simp only [hg2', decide_true, Run_condM_true, Run_ret, outK_exit, natBeq, cond_true, getL_zero, getL_succ]
    refine Run_drw fun w6 f6 => ?_
    have h6 := h5.fr0 f6
    obtain ⟨x0, l0⟩ := h6.ld (i := a) (by omega)
    obtain ⟨x1, l1⟩ := h6.ld (i := j2) (by omega)
    simp only [x0, x1, Run_bindO_some, Run_bind, Run_rdM, l0, l1, Option.some.injEq, exists_eq_left']
    refine h6.swp (by omega) (by omega) fun w7 h7 f7 => ?_
    simp only [Run_ret]
    rw [pe]
    exact ⟨rfl, h7, (f05.trans f6 fun _ _ h => h.elim).trans f7 fun _ _ => id⟩
  · have hg2' : ¬ (i2 : Int) > (j2 : Int) := by omega
    rw [if_neg hg2, dif_pos (by omega)] at un
    have wi : IntKind.i64.wrap ((i2 : Int) + 1) = ((i2 + 1 : Nat) : Int) := by rw [wrapS] <;> omega
    have wj : IntKind.i64.wrap ((j2 : Int) - 1) = ((j2 - 1 : Nat) : Int) := by rw [wrapS] <;> omega
    simp only [hg2', decide_false, Run_condM_false]
    refine Run_drw fun w6 f6 => ?_
    have h6 := h5.fr0 f6
    obtain ⟨x0, l0⟩ := h6.ld (i := j2) (by omega)
    obtain ⟨x1, l1⟩ := h6.ld (i := i2) (by omega)
    simp only [x0, x1, Run_bindO_some, Run_bind, Run_rdM, l0, l1, Option.some.injEq, exists_eq_left']
    refine h6.swp (by omega) (by omega) fun w7 h7 f7 => ?_
    simp only [binV_int, intBin_add, intBin_sub, wi, wj, Run_bindO_some, Run_ret]
    exact ⟨⟨i2 + 1, j2 - 1, _, rfl, by omega, by omega, by omega, by rw [swp_size, hd1], h7, (f05.trans f6 fun _ _ h => h.elim).trans f7 fun _ _ => id, by rw [← un, e3]⟩,
      by show b + 1 - ((i2 + 1 : Nat) : Int).toNat < b + 1 - (i1 : Int).toNat; omega⟩
end
end Go.Proofs.YtojnickeblbgoaaDoor.SortStored

/-
  slices.SortFunc, part H: the insertion sort that gives up.
-/
namespace Go.Proofs.YtojnickeblbgoaaDoor.SortStored
open Go.Lift Go.Sort
set_option linter.unusedSimpArgs false
set_option linter.unusedVariables false
set_option maxHeartbeats 4000000
section
variable {α : Type} [Inhabited α] {enc : α → List Value} {w w' : World} {v c : Value} {d : Array α} {cf : α → α → Int} {a b : Nat}
theorem scanSorted_le (lt : α → α → Bool) (d : Array α) (b i : Nat) : i ≤ scanSorted lt d b i ∧ scanSorted lt d b i ≤ max i b := by
  fun_induction scanSorted lt d b i with
  | case1 i h ih =>
    simp only [Bool.and_eq_true, decide_eq_true_eq] at h
    omega
  | case2 i h => omega
theorem shiftDown_size (lt : α → α → Bool) : ∀ (j : Nat) (d : Array α), (shiftDown lt j d).size = d.size
  | 0, d => rfl
  | j + 1, d => by
    unfold shiftDown
    split
    · rfl
    · rw [shiftDown_size lt j, swp_size]
theorem shiftUp_size (lt : α → α → Bool) (b j : Nat) (d : Array α) : (shiftUp lt b j d).size = d.size := by
  fun_induction shiftUp lt b j d <;> simp_all [swp_size]
theorem partial_run (h : RowS 3 enc w v d) (hc : Cmp 3 enc c cf) (hab : a < b) (hb : b ≤ d.size) (hs : d.size ≤ 1152921504606846976) :
    Run (F.slices_partialInsertionSortCmpFunc_Stored v (.int .i64 a) (.int .i64 b) c) w fun r w' => r = .bool (partialInsertionSort (ltC cf) d a b).2 ∧ RowS 3 enc w' v (partialInsertionSort (ltC cf) d a b).1 ∧ Fr (inB v) w w' := by
  unfold F.slices_partialInsertionSortCmpFunc_Stored
  have wa : IntKind.i64.wrap ((a : Int) + 1) = ((a + 1 : Nat) : Int) := by rw [wrapS] <;> omega
  have wba : IntKind.i64.wrap ((b : Int) - (a : Int)) = ((b - a : Nat) : Int) := by rw [wrapS] <;> omega
  simp only [binV_int, intBin_add, wa, Run_bindO_some, Run_bind]
  obtain ⟨R, hR⟩ : ∃ R, R = partialInsertionSort (ltC cf) d a b := ⟨_, rfl⟩
  rw [← hR]
  refine Run_loopM (fun l w1 => ∃ (s i jn : Nat) (d1 : Array α), l = [.int .i64 i, .int .i64 jn] ∧ jn + s = 5 ∧ a + 1 ≤ i ∧ i ≤ b ∧ d1.size = d.size ∧ RowS 3 enc w1 v d1 ∧ Fr (inB v) w w1 ∧ partialIns (ltC cf) a b s i d1 = R)
    (fun l _ => match l with | [_, .int .i64 j] => 5 - j.toNat | _ => 0) ?_ ⟨5, a + 1, 0, d, rfl, rfl, by omega, by omega, rfl, h, Fr.refl _ _, hR.symm⟩
  rintro l w1 ⟨s, i, jn, d1, rfl, hjs, hai, hib, hd1, h1, f1, e1⟩
  cases s with
  | zero =>
    have hj : ¬ (jn : Int) < 5 := by omega
    have e2 : R = (d1, false) := e1.symm
    simp only [getL_zero, getL_succ, binV_int, intBin_lss, hj, decide_false, Run_bindO_some, Run_condM_false, Run_ret, outK_exit, natBeq, decide_true, cond_true]
    rw [e2]
    exact ⟨rfl, h1, f1⟩
  | succ s =>
    have hj : (jn : Int) < 5 := by omega
    simp only [getL_zero, getL_succ, binV_int, intBin_lss, hj, decide_true, Run_bindO_some, Run_condM_true, Run_bind]
    have sc := scanSorted_le (ltC cf) d1 b i
    refine Run.mono (Q := fun o w2 => o = .exit 2 [.int .i64 (scanSorted (ltC cf) d1 b i : Nat)] ∧ RowS 3 enc w2 v d1 ∧ Fr (fun _ => False) w1 w2) ?_ ?_
    · refine Run_loopM (fun l w2 => ∃ k : Nat, l = [.int .i64 k] ∧ i ≤ k ∧ k ≤ b ∧ Fr (fun _ => False) w1 w2 ∧ scanSorted (ltC cf) d1 b k = scanSorted (ltC cf) d1 b i) (fun l _ => match l with | [.int .i64 i] => b - i.toNat | _ => 0) ?_ ⟨i, rfl, Nat.le_refl _, hib, Fr.refl _ _, rfl⟩
      rintro l w2 ⟨k, rfl, hik, hkb, f2, e2⟩
      generalize scanSorted (ltC cf) d1 b i = S at e2 ⊢
      refine Run_drw fun w3 f3 => ?_
      have f03 := f2.trans f3 fun _ _ h => h
      have h3 := h1.fr0 f03
      unfold scanSorted at e2
      by_cases hk : k < b
      · have hk' : (k : Int) < (b : Int) := by omega
        obtain ⟨m, hm⟩ : ∃ m, m = k - 1 := ⟨_, rfl⟩
        have wk : IntKind.i64.wrap ((k : Int) - 1) = (m : Int) := by rw [wrapS] <;> omega
        have wk2 : IntKind.i64.wrap ((k : Int) + 1) = ((k + 1 : Nat) : Int) := by rw [wrapS] <;> omega
        obtain ⟨x0, l0⟩ := h3.ld (i := k) (by omega)
        obtain ⟨x1, l1⟩ := h3.ld (i := m) (by omega)
        simp [-ldA_ptr, -Run_drewM, hk', wk, x0, x1, l0, l1]
        refine hc _ _ _ _ fun w4 f4 => ?_
        have f04 := f03.trans f4 fun _ _ h => h
        rw [← hm] at e2
        by_cases hlt : cf (eAt d1 k) (eAt d1 m) < 0
        · have hl : ltC cf d1[k]! d1[m]! = true := decide_eq_true hlt
          rw [hl, if_neg (by simp)] at e2
          simp [-ldA_ptr, -Run_drewM, hlt]
          rw [← e2]
          exact ⟨rfl, h1.fr0 f04, f04⟩
        · have hl : ltC cf d1[k]! d1[m]! = false := decide_eq_false hlt
          rw [hl, if_pos (by simpa using hk)] at e2
          simp [-ldA_ptr, -Run_drewM, hlt, wk2]
          exact ⟨⟨k + 1, by omega, by omega, by omega, f04, e2⟩, by omega⟩
      · have hk' : ¬ (k : Int) < (b : Int) := by omega
        rw [if_neg (by simp [hk])] at e2
        simp [-ldA_ptr, -Run_drewM, hk']
        rw [← e2]
        exact ⟨rfl, h1.fr0 f03, f03⟩
    rintro _ w2 ⟨rfl, h2, f2⟩
    obtain ⟨i2, hi2⟩ : ∃ i2, i2 = scanSorted (ltC cf) d1 b i := ⟨_, rfl⟩
    have f02 : Fr (inB v) w w2 := f1.trans f2 fun _ _ h => h.elim
    rw [← hi2] at sc ⊢
    unfold partialIns at e1
    simp only [← hi2] at e1
    simp only [outK_exit, natBeq, decide_true, cond_true, getL_zero, binV_int, intBin_eql, Run_bindO_some]
    by_cases hib2 : i2 = b
    · have hib2' : (i2 : Int) = (b : Int) := by omega
      rw [if_pos hib2] at e1
      simp only [hib2', decide_true, Run_condM_true, Run_ret, outK_ret]
      rw [← e1]
      exact ⟨rfl, h2, f02⟩
    have hib2' : ¬ (i2 : Int) = (b : Int) := by omega
    rw [if_neg hib2] at e1
    simp only [hib2', decide_false, Run_condM_false, intBin_sub, binV_int, intBin_lss, wba, Run_bindO_some]
    by_cases h50 : b - a < 50
    · have h50' : ((b - a : Nat) : Int) < 50 := by omega
      rw [if_pos h50] at e1
      simp only [h50', decide_true, Run_condM_true, Run_ret, outK_ret]
      rw [← e1]
      exact ⟨rfl, h2, f02⟩
    have h50' : ¬ ((b - a : Nat) : Int) < 50 := by omega
    rw [if_neg h50] at e1
    simp only [h50', decide_false, Run_condM_false]
    obtain ⟨m, hm⟩ : ∃ m, m = i2 - 1 := ⟨_, rfl⟩
    rw [← hm] at e1
    have wm : IntKind.i64.wrap ((i2 : Int) - 1) = (m : Int) := by rw [wrapS] <;> omega
    refine Run_drw fun w3 f3 => ?_
    have h3 := h2.fr0 f3
    obtain ⟨x0, l0⟩ := h3.ld (i := m) (by omega)
    obtain ⟨x1, l1⟩ := h3.ld (i := i2) (by omega)
    simp only [binV_int, intBin_sub, wm, x0, x1, Run_bindO_some, Run_bind, Run_rdM, l0, l1, Option.some.injEq, exists_eq_left']
    refine h3.swp (by omega) (by omega) fun w4 h4 f4 => ?_
    have f04 := (f02.trans f3 fun _ _ h => h.elim).trans f4 fun _ _ => id
    obtain ⟨d2, hd2⟩ : ∃ d2, d2 = Sort.swp d1 i2 m := ⟨_, rfl⟩
    rw [← hd2] at e1 h4
    have hz2 : d2.size = d.size := by rw [hd2, swp_size, hd1]
    obtain ⟨q, hq⟩ : ∃ q, q = i2 - a := ⟨_, rfl⟩
    have wq : IntKind.i64.wrap ((i2 : Int) - (a : Int)) = (q : Int) := by rw [wrapS] <;> omega
    -- downwards
    refine Run.mono (Q := fun o w5 => o = .norm [] ∧ RowS 3 enc w5 v (if i2 - a ≥ 2 then shiftDown (ltC cf) m d2 else d2) ∧ Fr (inB v) w w5) ?_ ?_
    · simp only [binV_int, intBin_sub, intBin_geq, ge_iff_le, wq, Run_bindO_some]
      by_cases hq2 : 2 ≤ q
      · have hq2' : (2 : Int) ≤ (q : Int) := by omega
        rw [if_pos (show i2 - a ≥ 2 by omega)]
        simp only [hq2', decide_true, Run_condM_true, Run_bindO_some, Run_bind]
        refine Run_loopM (fun l w5 => ∃ (k : Nat) (d3 : Array α), l = [.int .i64 k] ∧ k ≤ m ∧ d3.size = d.size ∧ RowS 3 enc w5 v d3 ∧ Fr (inB v) w w5 ∧ shiftDown (ltC cf) k d3 = shiftDown (ltC cf) m d2) (fun l _ => match l with | [.int .i64 i] => i.toNat | _ => 0) ?_ ⟨m, d2, rfl, Nat.le_refl _, hz2, h4, f04, rfl⟩
        rintro l w5 ⟨k, d3, rfl, hk, hz3, h5, f5, e5⟩
        generalize shiftDown (ltC cf) m d2 = S at e5 ⊢
        cases k with
        | zero =>
          have hge : ¬ (1 : Int) ≤ ((0 : Nat) : Int) := by omega
          have e5' : d3 = S := e5
          simp only [getL_zero, binV_int, intBin_geq, ge_iff_le, hge, decide_false, Run_bindO_some, Run_condM_false, Run_ret, outK_exit, natBeq, decide_true, cond_true]
          rw [← e5']
          exact ⟨trivial, h5, f5⟩
        | succ k =>
          obtain ⟨k1, hk1⟩ : ∃ k1, k1 = k + 1 := ⟨_, rfl⟩
          rw [← hk1]
          have hge : (1 : Int) ≤ (k1 : Int) := by omega
          have wk : IntKind.i64.wrap ((k1 : Int) - 1) = (k : Int) := by rw [wrapS] <;> omega
          simp only [getL_zero, binV_int, intBin_geq, ge_iff_le, hge, decide_true, Run_bindO_some, Run_condM_true]
          refine Run_drw fun w6 f6 => ?_
          have h6 := h5.fr0 f6
          have f06 := f5.trans f6 fun _ _ h => h.elim
          obtain ⟨x0, l0⟩ := h6.ld (i := k1) (by omega)
          obtain ⟨x1, l1⟩ := h6.ld (i := k) (by omega)
          simp only [binV_int, intBin_sub, wk, x0, x1, Run_bindO_some, Run_bind, Run_rdM, l0, l1, Option.some.injEq, exists_eq_left']
          refine hc _ _ _ _ fun w7 f7 => ?_
          have h7 := h6.fr0 f7
          have f07 := f06.trans f7 fun _ _ h => h.elim
          unfold shiftDown at e5
          by_cases hlt : cf (eAt d3 k1) (eAt d3 k) < 0
          · have hl : ltC cf d3[k + 1]! d3[k]! = true := by rw [← hk1]; exact decide_eq_true hlt
            rw [hl, if_neg (by simp)] at e5
            simp only [binV_int, intBin_lss, hlt, decide_true, Run_bindO_some, notV_bool, Bool.not_true, Run_condM_false]
            refine Run_drw fun w8 f8 => ?_
            have h8 := h7.fr0 f8
            obtain ⟨_, l0⟩ := h8.ld (i := k1) (by omega)
            obtain ⟨_, l1⟩ := h8.ld (i := k) (by omega)
            simp only [binV_int, intBin_sub, wk, x0, x1, Run_bindO_some, Run_bind, Run_rdM, l0, l1, Option.some.injEq, exists_eq_left']
            refine h8.swp (by omega) (by omega) fun w9 h9 f9 => ?_
            simp only [Run_ret]
            exact ⟨⟨k, _, rfl, by omega, by rw [swp_size, hz3], h9, (f07.trans f8 fun _ _ h => h.elim).trans f9 fun _ _ => id, by rw [hk1]; exact e5⟩, by show (k : Int).toNat < (k1 : Int).toNat; omega⟩
          · have hl : ltC cf d3[k + 1]! d3[k]! = false := by rw [← hk1]; exact decide_eq_false hlt
            rw [hl, if_pos (by simp)] at e5
            simp only [binV_int, intBin_lss, hlt, decide_false, Run_bindO_some, notV_bool, Bool.not_false, Run_condM_true, Run_ret, outK_exit, natBeq, decide_true, cond_true]
            rw [← e5]
            exact ⟨trivial, h7, f07⟩
      · have hq2' : ¬ (2 : Int) ≤ (q : Int) := by omega
        rw [if_neg (show ¬ i2 - a ≥ 2 by omega)]
        simp only [hq2', decide_false, Run_condM_false, Run_ret]
        exact ⟨trivial, h4, f04⟩
    rintro _ w5 ⟨rfl, h5, f5⟩
    obtain ⟨d3, hd3⟩ : ∃ d3, d3 = (if i2 - a ≥ 2 then shiftDown (ltC cf) m d2 else d2) := ⟨_, rfl⟩
    rw [← hd3] at e1 h5
    have hz3 : d3.size = d.size := by
      rw [hd3]
      split
      · rw [shiftDown_size, hz2]
      · exact hz2
    simp only [outK_norm, Run_bind]
    obtain ⟨q2, hq2⟩ : ∃ q2, q2 = b - i2 := ⟨_, rfl⟩
    have wq2 : IntKind.i64.wrap ((b : Int) - (i2 : Int)) = (q2 : Int) := by rw [wrapS] <;> omega
    have wi2 : IntKind.i64.wrap ((i2 : Int) + 1) = ((i2 + 1 : Nat) : Int) := by rw [wrapS] <;> omega
    refine Run.mono (Q := fun o w6 => o = .norm [.int .i64 i2] ∧ RowS 3 enc w6 v (if b - i2 ≥ 2 then shiftUp (ltC cf) b (i2 + 1) d3 else d3) ∧ Fr (inB v) w w6) ?_ ?_
    · simp only [binV_int, intBin_sub, intBin_geq, ge_iff_le, wq2, Run_bindO_some]
      by_cases hq3 : 2 ≤ q2
      · have hq3' : (2 : Int) ≤ (q2 : Int) := by omega
        rw [if_pos (show b - i2 ≥ 2 by omega)]
        simp only [hq3', decide_true, Run_condM_true, binV_int, intBin_add, wi2, Run_bindO_some, Run_bind]
        refine Run_loopM (fun l w5 => ∃ (k : Nat) (d4 : Array α), l = [.int .i64 k] ∧ i2 + 1 ≤ k ∧ k ≤ b ∧ d4.size = d.size ∧ RowS 3 enc w5 v d4 ∧ Fr (inB v) w w5 ∧ shiftUp (ltC cf) b k d4 = shiftUp (ltC cf) b (i2 + 1) d3) (fun l _ => match l with | [.int .i64 i] => b - i.toNat | _ => 0) ?_ ⟨i2 + 1, d3, rfl, Nat.le_refl _, by omega, hz3, h5, f5, rfl⟩
        rintro l w5 ⟨k, d4, rfl, hik, hkb, hz4, h5, f5, e5⟩
        generalize shiftUp (ltC cf) b (i2 + 1) d3 = S at e5 ⊢
        unfold shiftUp at e5
        by_cases hk : k < b
        · have hk' : (k : Int) < (b : Int) := by omega
          rw [if_pos hk] at e5
          obtain ⟨k1, hk1⟩ : ∃ k1, k1 = k - 1 := ⟨_, rfl⟩
          rw [← hk1] at e5
          have wk : IntKind.i64.wrap ((k : Int) - 1) = (k1 : Int) := by rw [wrapS] <;> omega
          have wk2 : IntKind.i64.wrap ((k : Int) + 1) = ((k + 1 : Nat) : Int) := by rw [wrapS] <;> omega
          simp only [getL_zero, binV_int, intBin_lss, hk', decide_true, Run_bindO_some, Run_condM_true]
          refine Run_drw fun w6 f6 => ?_
          have h6 := h5.fr0 f6
          have f06 := f5.trans f6 fun _ _ h => h.elim
          obtain ⟨x0, l0⟩ := h6.ld (i := k) (by omega)
          obtain ⟨x1, l1⟩ := h6.ld (i := k1) (by omega)
          simp only [binV_int, intBin_sub, wk, x0, x1, Run_bindO_some, Run_bind, Run_rdM, l0, l1, Option.some.injEq, exists_eq_left']
          refine hc _ _ _ _ fun w7 f7 => ?_
          have h7 := h6.fr0 f7
          have f07 := f06.trans f7 fun _ _ h => h.elim
          by_cases hlt : cf (eAt d4 k) (eAt d4 k1) < 0
          · have hl : ltC cf d4[k]! d4[k1]! = true := decide_eq_true hlt
            rw [hl, if_neg (by simp)] at e5
            simp only [binV_int, intBin_lss, hlt, decide_true, Run_bindO_some, notV_bool, Bool.not_true, Run_condM_false]
            refine Run_drw fun w8 f8 => ?_
            have h8 := h7.fr0 f8
            obtain ⟨_, l0⟩ := h8.ld (i := k) (by omega)
            obtain ⟨_, l1⟩ := h8.ld (i := k1) (by omega)
            simp only [binV_int, intBin_sub, wk, x0, x1, Run_bindO_some, Run_bind, Run_rdM, l0, l1, Option.some.injEq, exists_eq_left']
            refine h8.swp (by omega) (by omega) fun w9 h9 f9 => ?_
            simp only [binV_int, intBin_add, wk2, Run_bindO_some, Run_ret]
            exact ⟨⟨k + 1, _, rfl, by omega, by omega, by rw [swp_size, hz4], h9, (f07.trans f8 fun _ _ h => h.elim).trans f9 fun _ _ => id, e5⟩, by show b - ((k + 1 : Nat) : Int).toNat < b - (k : Int).toNat; omega⟩
          · have hl : ltC cf d4[k]! d4[k1]! = false := decide_eq_false hlt
            rw [hl, if_pos (by simp)] at e5
            simp only [binV_int, intBin_lss, hlt, decide_false, Run_bindO_some, notV_bool, Bool.not_false, Run_condM_true, Run_ret, outK_exit, natBeq, decide_true, cond_true]
            rw [← e5]
            exact ⟨trivial, h7, f07⟩
        · have hk' : ¬ (k : Int) < (b : Int) := by omega
          rw [if_neg hk] at e5
          simp only [getL_zero, binV_int, intBin_lss, hk', decide_false, Run_bindO_some, Run_condM_false, Run_ret, outK_exit, natBeq, decide_true, cond_true]
          rw [← e5]
          exact ⟨trivial, h5, f5⟩
      · have hq3' : ¬ (2 : Int) ≤ (q2 : Int) := by omega
        rw [if_neg (show ¬ b - i2 ≥ 2 by omega)]
        simp only [hq3', decide_false, Run_condM_false, Run_ret]
        exact ⟨trivial, h5, f5⟩
    rintro _ w6 ⟨rfl, h6, f6⟩
    have wj : IntKind.i64.wrap ((jn : Int) + 1) = ((jn + 1 : Nat) : Int) := by rw [wrapS] <;> omega
    simp only [outK_norm, getL_zero, binV_int, intBin_add, wj, Run_bindO_some, Run_ret]
    refine ⟨⟨s, i2, jn + 1, _, rfl, by omega, by omega, by omega, ?_, h6, f6, e1⟩, by show 5 - ((jn + 1 : Nat) : Int).toNat < 5 - (jn : Int).toNat; omega⟩
    split
    · rw [shiftUp_size, hz3]
    · exact hz3
end
end Go.Proofs.YtojnickeblbgoaaDoor.SortStored

/-
  slices.SortFunc, part I: pdqsort, and slices.SortFunc: what is behind it is sorted, and the same elements.
-/
namespace Go.Proofs.YtojnickeblbgoaaDoor.SortStored
open Go.Lift Go.Sort
set_option linter.unusedSimpArgs false
set_option linter.unusedVariables false
set_option maxHeartbeats 8000000
section
variable {α : Type} [Inhabited α] {enc : α → List Value} {w w' : World} {v c : Value} {cf : α → α → Int}
theorem pdq_run (hS : SWO (ltC cf)) (hc : Cmp 3 enc c cf) : ∀ (n a b : Nat) (limit : Int) (d : Array α) (w : World), RowS 3 enc w v d → a ≤ b → b ≤ d.size → d.size ≤ 1152921504606846976 → Below (ltC cf) a b d → b - a < n →
    Run (F.slices_pdqsortCmpFunc_Stored.it n v (.int .i64 a) (.int .i64 b) (.int .i64 limit) c) w fun _ w' => ∃ d', PermIn a b d d' ∧ SortedIn (ltC cf) a b d' ∧ RowS 3 enc w' v d' ∧ Fr (inB v) w w' := by
  intro n
  induction n with
  | zero => intro a b limit d w _ _ _ _ _ hn; omega
  | succ n ih =>
    intro a b limit d w h hab hb hs hB hn
    show Run (F.slices_pdqsortCmpFunc_Stored.step (F.slices_pdqsortCmpFunc_Stored.it n) v (.int .i64 a) (.int .i64 b) (.int .i64 limit) c) w _
    unfold F.slices_pdqsortCmpFunc_Stored.step
    simp only [Run_bind]
    refine Run_loopM (fun l w1 => ∃ (x y : Nat) (lim : Int) (wb wp : Bool) (d1 : Array α), l = [.int .i64 x, .int .i64 y, .int .i64 lim, .bool wb, .bool wp] ∧ a ≤ x ∧ x ≤ y ∧ y ≤ b ∧ d1.size = d.size ∧ RowS 3 enc w1 v d1 ∧ Fr (inB v) w w1 ∧ Below (ltC cf) x y d1 ∧
      (∀ R, PermIn x y d1 R → SortedIn (ltC cf) x y R → PermIn a b d R ∧ SortedIn (ltC cf) a b R))
      (fun l _ => match l with | [.int .i64 x, .int .i64 y, _, _, _] => y.toNat - x.toNat | _ => 0) ?_
      ⟨a, b, limit, true, true, d, rfl, Nat.le_refl _, hab, Nat.le_refl _, rfl, h, Fr.refl _ _, hB, fun R h1 h2 => ⟨h1, h2⟩⟩
    rintro l w1 ⟨x, y, lim, wb, wp, d1, rfl, hax, hxy, hyb, hz1, h1, f1, hB1, hfin⟩
    obtain ⟨len, hlen⟩ : ∃ len, len = y - x := ⟨_, rfl⟩
    have wl : IntKind.i64.wrap ((y : Int) - (x : Int)) = (len : Int) := by rw [wrapS] <;> omega
    simp only [getL_zero, getL_succ, binV_int, intBin_sub, wl, intBin_leq, Run_bindO_some]
    by_cases h12 : len ≤ 12
    · have h12' : (len : Int) ≤ 12 := by omega
      simp only [h12', decide_true, Run_condM_true, Run_bind]
      refine (ins_run h1 hc hxy (by omega) (by omega)).mono ?_
      rintro _ w2 ⟨_, h2, f2⟩
      obtain ⟨q1, q2⟩ := insertionSort_holds hS d1 x y hxy (by omega)
      obtain ⟨r1, r2⟩ := hfin _ q1 q2
      simp only [Run_ret, outK_ret]
      exact ⟨_, r1, r2, h2, f1.trans f2 fun _ _ => id⟩
    have h12' : ¬ (len : Int) ≤ 12 := by omega
    simp only [h12', decide_false, Run_condM_false, binV_int, intBin_eql, Run_bindO_some]
    by_cases hl0 : lim = 0
    · simp only [hl0, decide_true, Run_condM_true, Run_bind]
      refine (heap_run h1 hc hxy (by omega) (by omega)).mono ?_
      rintro _ w2 ⟨_, h2, f2⟩
      obtain ⟨q1, q2⟩ := heapSort_holds hS d1 x y hxy (by omega)
      obtain ⟨r1, r2⟩ := hfin _ q1 q2
      simp only [Run_ret, outK_ret]
      exact ⟨_, r1, r2, h2, f1.trans f2 fun _ _ => id⟩
    simp only [hl0, decide_false, Run_condM_false, Run_bind]
    -- the patterns
    refine Run.mono (Q := fun o w2 => ∃ (lim2 : Int) (d2 : Array α), o = .norm [.int .i64 lim2] ∧ PermIn x y d1 d2 ∧ RowS 3 enc w2 v d2 ∧ Fr (inB v) w w2) ?_ ?_
    · cases wb with
      | true =>
        simp only [notV_bool, Bool.not_true, Run_bindO_some, Run_condM_false, Run_ret]
        exact ⟨lim, d1, rfl, permIn_refl _ _ _, h1, f1⟩
      | false =>
        simp only [notV_bool, Bool.not_false, Run_bindO_some, Run_condM_true, Run_bind]
        refine (break_run h1 (by omega) (by omega) (by omega)).mono ?_
        rintro _ w2 ⟨d2, hp2, h2, f2⟩
        simp only [binV_int, intBin_sub, Run_bindO_some, Run_ret]
        exact ⟨_, d2, rfl, hp2, h2, f1.trans f2 fun _ _ => id⟩
    rintro _ w2 ⟨lim2, d2, rfl, hp2, h2, f2⟩
    have hz2 := hp2.1
    simp only [outK_norm, getL_zero, Run_bind]
    refine (pivot_run h2 hc (by omega) (by omega) (by omega)).mono ?_
    rintro _ w3 ⟨⟨p, t, rfl, hp, hp'⟩, f3⟩
    have h3 := h2.fr0 f3
    have f03 : Fr (inB v) w w3 := f2.trans f3 fun _ _ h => h.elim
    simp only [extV_tuple, List.getElem?_toArray, List.getElem?_cons_zero, List.getElem?_cons_succ, Run_bindO_some, Run_bind]
    -- reversing
    refine Run.mono (Q := fun o w4 => ∃ (p : Nat) (t : Int) (d3 : Array α), o = .norm [.int .i64 p, .int .i64 t] ∧ x ≤ p ∧ p < y ∧ PermIn x y d1 d3 ∧ RowS 3 enc w4 v d3 ∧ Fr (inB v) w w4) ?_ ?_
    · simp only [binV_int, intBin_eql, Run_bindO_some]
      by_cases ht : t = 2
      · simp only [ht, decide_true, Run_condM_true, Run_bind]
        refine (rev_run h3 (by omega) (by omega) (by omega)).mono ?_
        rintro _ w4 ⟨d3, hp3, h4, f4⟩
        have wy : IntKind.i64.wrap ((y : Int) - 1) = (y : Int) - 1 := by rw [wrapS] <;> omega
        have wpx : IntKind.i64.wrap ((p : Int) - (x : Int)) = (p : Int) - (x : Int) := by rw [wrapS] <;> omega
        have wr : IntKind.i64.wrap ((y : Int) - 1 - ((p : Int) - (x : Int))) = ((y - 1 - (p - x) : Nat) : Int) := by rw [wrapS] <;> omega
        simp only [binV_int, intBin_sub, wy, wpx, wr, Run_bindO_some, Run_ret]
        exact ⟨_, _, d3, rfl, by omega, by omega, permIn_trans _ _ _ _ _ hp2 hp3, h4, f03.trans f4 fun _ _ => id⟩
      · simp only [ht, decide_false, Run_condM_false, Run_ret]
        exact ⟨p, t, d2, rfl, hp, hp', hp2, h3, f03⟩
    rintro _ w4 ⟨p, t, d3, rfl, hp, hp', hp3, h4, f4⟩
    clear h3 hz2 h2 hp2 d2
    have hz3 := hp3.1
    have hB3 : Below (ltC cf) x y d3 := hB1.perm (by omega) hp3
    simp only [outK_norm, getL_zero, getL_succ]
    rw [Run_bind]
    -- the try at an insertion sort
    refine Run.mono (Q := fun o w5 => (o = .norm [] ∧ ∃ d4 : Array α, PermIn x y d1 d4 ∧ RowS 3 enc w5 v d4 ∧ Fr (inB v) w w5) ∨ (∃ r, o = .ret r ∧ ∃ d4 : Array α, PermIn x y d1 d4 ∧ SortedIn (ltC cf) x y d4 ∧ RowS 3 enc w5 v d4 ∧ Fr (inB v) w w5)) ?_ ?_
    · have go : Run (M.bind (F.slices_partialInsertionSortCmpFunc_Stored v (.int .i64 x) (.int .i64 y) c) fun x31 => condM x31 (M.ret (Out.ret (Value.tuple #[]))) (M.ret (Out.norm []))) w4 fun (o : Out) w5 => (o = .norm [] ∧ ∃ d4 : Array α, PermIn x y d1 d4 ∧ RowS 3 enc w5 v d4 ∧ Fr (inB v) w w5) ∨ (∃ r, o = .ret r ∧ ∃ d4 : Array α, PermIn x y d1 d4 ∧ SortedIn (ltC cf) x y d4 ∧ RowS 3 enc w5 v d4 ∧ Fr (inB v) w w5) := by
        simp only [Run_bind]
        refine (partial_run h4 hc (by omega) (by omega) (by omega)).mono ?_
        rintro _ w5 ⟨rfl, h5, f5⟩
        obtain ⟨q1, q2⟩ := partialInsertionSort_holds hS d3 x y (by omega) (by omega) hB3
        cases hr : (partialInsertionSort (ltC cf) d3 x y).2 with
        | true =>
          simp only [Run_condM_true, Run_ret]
          exact .inr ⟨_, rfl, _, permIn_trans _ _ _ _ _ hp3 q1, q2 hr, h5, f4.trans f5 fun _ _ => id⟩
        | false =>
          simp only [Run_condM_false, Run_ret]
          exact .inl ⟨trivial, _, permIn_trans _ _ _ _ _ hp3 q1, h5, f4.trans f5 fun _ _ => id⟩
      have no : (True ∧ ∃ d4 : Array α, PermIn x y d1 d4 ∧ RowS 3 enc w4 v d4 ∧ Fr (inB v) w w4) ∨ (∃ r : Value, (Out.norm [] : Out) = Out.ret r ∧ ∃ d4 : Array α, PermIn x y d1 d4 ∧ SortedIn (ltC cf) x y d4 ∧ RowS 3 enc w4 v d4 ∧ Fr (inB v) w w4) := .inl ⟨trivial, d3, hp3, h4, f4⟩
      cases wb with
      | false =>
        simp only [Run_bind, Run_guardM_ft, pickV_bool, cond_false, Run_bindO_some, Run_condM_false, Run_ret]
        exact no
      | true =>
        cases wp with
        | false =>
          simp only [Run_bind, Run_guardM_tt, Run_ret, Run_guardM_ft, pickV_bool, cond_true, cond_false, Run_bindO_some, Run_condM_false]
          exact no
        | true =>
          simp only [Run_bind, Run_guardM_tt, Run_ret, pickV_bool, cond_true, binV_int, intBin_eql, Run_optM_some, Run_bindO_some]
          by_cases ht : t = 1
          · simp only [ht, decide_true, Run_condM_true]
            exact go
          · simp only [ht, decide_false, Run_condM_false, Run_ret]
            exact no
    rintro o w5 (⟨rfl, d4, hp4, h5, f5⟩ | ⟨r, rfl, d4, hp4, hs4, h5, f5⟩)
    · have hz4 := hp4.1
      have hB4 : Below (ltC cf) x y d4 := hB1.perm (by omega) hp4
      have hfin4 : ∀ R, PermIn x y d4 R → SortedIn (ltC cf) x y R → PermIn a b d R ∧ SortedIn (ltC cf) a b R := fun R h1 h2 => hfin R (permIn_trans _ _ _ _ _ hp4 h1) h2
      simp only [outK_norm]
      -- is the pivot as small as what lies to the left?
      refine Run_drw fun w6 f6 => ?_
      have h6 := h5.fr0 f6
      have f06 := f5.trans f6 fun _ _ h => h.elim
      obtain ⟨x1, l1⟩ := h6.ld (i := p) (by omega)
      have left : ∀ w7, RowS 3 enc w7 v d4 → Fr (inB v) w w7 → 0 < x → ltC cf d4[x - 1]! d4[p]! = false →
          Run (M.bind (F.slices_partitionEqualCmpFunc_Stored v (.int .i64 x) (.int .i64 y) (.int .i64 p) c) fun x51 => M.ret (Out.norm [x51, .int .i64 y, .int .i64 lim2, .bool wb, .bool wp])) w7 fun o w' => match o with
            | .norm l' => (∃ (x y : Nat) (lim : Int) (wb wp : Bool) (d1 : Array α), l' = [.int .i64 x, .int .i64 y, .int .i64 lim, .bool wb, .bool wp] ∧ a ≤ x ∧ x ≤ y ∧ y ≤ b ∧ d1.size = d.size ∧ RowS 3 enc w' v d1 ∧ Fr (inB v) w w' ∧ Below (ltC cf) x y d1 ∧
      (∀ R, PermIn x y d1 R → SortedIn (ltC cf) x y R → PermIn a b d R ∧ SortedIn (ltC cf) a b R)) ∧ (match l' with | [.int .i64 x, .int .i64 y, _, _, _] => y.toNat - x.toNat | _ => 0) < y - x
            | _ => False := by
        intro w7 h7 f7 hx0 hnl
        simp only [Run_bind]
        refine (eq_run h7 hc (by omega) (by omega) hp hp' (by omega)).mono ?_
        rintro _ w8 ⟨rfl, h8, f8⟩
        obtain ⟨mid, d5, hx⟩ : ∃ mid d5, partitionEqual (ltC cf) d4 x y p = (mid, d5) := ⟨_, _, rfl⟩
        obtain ⟨g1, g2, g3, g4, g5⟩ := round_eq hS (partitionEqual_holds _) hx0 hp hp' (by omega) hB4 hnl hx
        rw [hx] at h8 ⊢
        simp only [Run_ret]
        exact ⟨⟨mid, y, lim2, wb, wp, d5, rfl, by omega, by omega, hyb, by omega, h8, f7.trans f8 fun _ _ => id, g4, fun R q1 q2 => (fun h => hfin4 R h.1 h.2) (g5 R q1 q2)⟩, by show y - (mid : Int).toNat < y - x; omega⟩
      have right : ∀ w7, RowS 3 enc w7 v d4 → Fr (inB v) w w7 → ∀ K, (∀ (mid : Nat) (ap : Bool) (d5 : Array α) w8, partition (ltC cf) d4 x y p = (mid, ap, d5) → RowS 3 enc w8 v d5 → Fr (inB v) w w8 → K (.tuple #[.int .i64 mid, .bool ap]) w8) →
          Run (F.slices_partitionCmpFunc_Stored v (.int .i64 x) (.int .i64 y) (.int .i64 p) c) w7 K := by
        intro w7 h7 f7 K hK
        refine (part_run h7 hc (by omega) (by omega) hp hp' (by omega)).mono ?_
        rintro _ w8 ⟨rfl, h8, f8⟩
        exact hK _ _ _ w8 rfl h8 (f7.trans f8 fun _ _ => id)
      have rest : ∀ (mid : Nat) (ap : Bool) (d5 : Array α) w8, partition (ltC cf) d4 x y p = (mid, ap, d5) → RowS 3 enc w8 v d5 → Fr (inB v) w w8 →
          Run (bindO (binV BinOp.sub (.int .i64 mid) (.int .i64 x)) fun x55 =>
                bindO (binV BinOp.sub (.int .i64 y) (.int .i64 mid)) fun x56 =>
                bindO (binV BinOp.quo (.int .i64 len) (Value.int IntKind.i64 8)) fun x57 =>
                bindO (binV BinOp.lss x55 x56) fun x58 =>
                condM x58 (
                  bindO (binV BinOp.geq x55 x57) fun x59 =>
                  M.bind (F.slices_pdqsortCmpFunc_Stored.it n v (.int .i64 x) (.int .i64 mid) (.int .i64 lim2) c) fun _ =>
                  bindO (binV BinOp.add (.int .i64 mid) (Value.int IntKind.i64 1)) fun x61 =>
                  M.ret (Out.norm [x61, .int .i64 y, .int .i64 lim2, x59, .bool ap])) (
                  bindO (binV BinOp.geq x56 x57) fun x62 =>
                  bindO (binV BinOp.add (.int .i64 mid) (Value.int IntKind.i64 1)) fun x63 =>
                  M.bind (F.slices_pdqsortCmpFunc_Stored.it n v x63 (.int .i64 y) (.int .i64 lim2) c) fun _ =>
                  M.ret (Out.norm [.int .i64 x, .int .i64 mid, .int .i64 lim2, x62, .bool ap]))) w8 fun o w' => match o with
            | .norm l' => (∃ (x y : Nat) (lim : Int) (wb wp : Bool) (d1 : Array α), l' = [.int .i64 x, .int .i64 y, .int .i64 lim, .bool wb, .bool wp] ∧ a ≤ x ∧ x ≤ y ∧ y ≤ b ∧ d1.size = d.size ∧ RowS 3 enc w' v d1 ∧ Fr (inB v) w w' ∧ Below (ltC cf) x y d1 ∧
      (∀ R, PermIn x y d1 R → SortedIn (ltC cf) x y R → PermIn a b d R ∧ SortedIn (ltC cf) a b R)) ∧ (match l' with | [.int .i64 x, .int .i64 y, _, _, _] => y.toNat - x.toNat | _ => 0) < y - x
            | _ => False := by
        intro mid ap d5 w8 hx h8 f8
        obtain ⟨g1, g2, g3, g4, g5, g6, g7⟩ := round_part hS (partition_holds _) hp hp' (by omega) hB4 hx
        have w1 : IntKind.i64.wrap ((mid : Int) - (x : Int)) = ((mid - x : Nat) : Int) := by rw [wrapS] <;> omega
        have w2 : IntKind.i64.wrap ((y : Int) - (mid : Int)) = ((y - mid : Nat) : Int) := by rw [wrapS] <;> omega
        have w3 : IntKind.i64.wrap ((mid : Int) + 1) = ((mid + 1 : Nat) : Int) := by rw [wrapS] <;> omega
        simp only [binV_int, intBin_sub, intBin_quo, intBin_lss, intBin_geq, intBin_add, if_neg (show ¬ (8 : Int) = 0 by decide), w1, w2, w3, Run_bindO_some]
        by_cases hlt : mid - x < y - mid
        · have hlt' : ((mid - x : Nat) : Int) < ((y - mid : Nat) : Int) := by omega
          simp only [hlt', decide_true, Run_condM_true, Run_bind, Run_bindO_some]
          refine (ih x mid lim2 d5 w8 h8 g1 (by omega) (by omega) g4 (by omega)).mono ?_
          rintro _ w9 ⟨d6, q1, q2, h9, f9⟩
          obtain ⟨e1, e2⟩ := g6 d6 q1 q2
          have hz6 := q1.1
          simp only [Run_ret, Run_bindO_some]
          exact ⟨⟨mid + 1, y, lim2, _, ap, d6, rfl, by omega, by omega, hyb, by omega, h9, f8.trans f9 fun _ _ => id, e1, fun R r1 r2 => (fun h => hfin4 R h.1 h.2) (e2 R r1 r2)⟩, by show y - ((mid + 1 : Nat) : Int).toNat < y - x; omega⟩
        · have hlt' : ¬ ((mid - x : Nat) : Int) < ((y - mid : Nat) : Int) := by omega
          simp only [hlt', decide_false, Run_condM_false, Run_bind, Run_bindO_some]
          refine (ih (mid + 1) y lim2 d5 w8 h8 (by omega) (by omega) (by omega) g5 (by omega)).mono ?_
          rintro _ w9 ⟨d6, q1, q2, h9, f9⟩
          obtain ⟨e1, e2⟩ := g7 d6 q1 q2
          have hz6 := q1.1
          simp only [Run_ret, Run_bindO_some]
          exact ⟨⟨x, mid, lim2, _, ap, d6, rfl, by omega, by omega, by omega, by omega, h9, f8.trans f9 fun _ _ => id, e1, fun R r1 r2 => (fun h => hfin4 R h.1 h.2) (e2 R r1 r2)⟩, by show mid - (x : Int).toNat < y - x; omega⟩
      by_cases hx0 : 0 < x
      · obtain ⟨m, hm⟩ : ∃ m, m = x - 1 := ⟨_, rfl⟩
        have hx0' : (x : Int) > 0 := by omega
        have wm : IntKind.i64.wrap ((x : Int) - 1) = (m : Int) := by rw [wrapS] <;> omega
        obtain ⟨x0, l0⟩ := h6.ld (i := m) (by omega)
        simp only [binV_int, intBin_gtr, intBin_sub, hx0', decide_true, Run_bindO_some, Run_bind, Run_guardM_tt, Run_ret, Run_optM_some, wm, x0, x1, Run_rdM, l0, l1, Option.some.injEq, exists_eq_left']
        refine hc _ _ _ _ fun w7 f7 => ?_
        have h7 := h6.fr0 f7
        have f07 := f06.trans f7 fun _ _ h => h.elim
        by_cases hlt : cf (eAt d4 m) (eAt d4 p) < 0
        · simp only [binV_int, intBin_lss, hlt, decide_true, Run_optM_some, notV_bool, Bool.not_true, pickV_bool, cond_true, Run_bindO_some, Run_condM_false, Run_bind]
          refine right w7 h7 f07 _ fun mid ap d5 w8 hx h8 f8 => ?_
          simp only [extV_tuple, List.getElem?_toArray, List.getElem?_cons_zero, List.getElem?_cons_succ, Run_bindO_some]
          refine (rest mid ap d5 w8 hx h8 f8).mono fun o w9 hq => ?_
          cases o with
          | norm l' => exact hq
          | exit i l => exact hq.elim
          | ret r => exact hq.elim
        · simp only [binV_int, intBin_lss, hlt, decide_false, Run_optM_some, notV_bool, Bool.not_false, pickV_bool, cond_true, Run_bindO_some, Run_condM_true]
          refine (left w7 h7 f07 hx0 (by rw [← hm]; exact decide_eq_false hlt)).mono fun o w9 hq => ?_
          cases o with
          | norm l' => exact hq
          | exit i l => exact hq.elim
          | ret r => exact hq.elim
      · have hx0' : ¬ (x : Int) > 0 := by omega
        simp only [binV_int, intBin_gtr, hx0', decide_false, Run_bindO_some, Run_bind, Run_guardM_ft, pickV_bool, cond_false, Run_condM_false]
        refine right w6 h6 f06 _ fun mid ap d5 w8 hx h8 f8 => ?_
        simp only [extV_tuple, List.getElem?_toArray, List.getElem?_cons_zero, List.getElem?_cons_succ, Run_bindO_some]
        refine (rest mid ap d5 w8 hx h8 f8).mono fun o w9 hq => ?_
        cases o with
        | norm l' => exact hq
        | exit i l => exact hq.elim
        | ret r => exact hq.elim
    · obtain ⟨r1, r2⟩ := hfin _ hp4 hs4
      simp only [outK_ret, Run_ret]
      exact ⟨_, r1, r2, h5, f5⟩
/-- slices.SortFunc: the row is sorted, and holds the same elements. -/
theorem sort_run {d : Array α} (h : RowS 3 enc w v d) (hS : SWO (ltC cf)) (hc : Cmp 3 enc c cf) (hs : d.size ≤ 1152921504606846976) :
    Run (F.slices_SortFunc_Stored v c) w fun _ w' => ∃ d', PermIn 0 d.size d d' ∧ SortedIn (ltC cf) 0 d.size d' ∧ RowS 3 enc w' v d' ∧ Fr (inB v) w w' := by
  unfold F.slices_SortFunc_Stored
  have hl : lenL v = some (.int .i64 d.size) := by
    have := h.sl.1.lenL
    rw [List.length_map, Array.length_toList] at this
    exact this
  have wu : IntKind.u64.wrap (d.size : Int) = (d.size : Int) := by simp [IntKind.wrap, IntKind.bits, IntKind.signed]; omega
  have e : Run (F.bits_Len (.int .u64 d.size)) w fun r w' => (∃ L : Int, r = .int .i64 L) ∧ w' = w := by
    refine ⟨.int .i64 (Lib.bitLen d.size), w, ?_, ⟨_, rfl⟩, rfl⟩
    unfold F.bits_Len
    simp only []
    rw [if_pos ⟨by omega, by omega⟩, Int.toNat_natCast]
  simp only [hl, Run_bindO_some, cvtI_int, wu, Run_bind]
  refine e.mono ?_
  rintro _ w1 ⟨⟨L, rfl⟩, rfl⟩
  refine (F.slices_pdqsortCmpFunc_Stored.run (pdq_run hS hc (d.size + 1) 0 d.size L d w1 h (by omega) (Nat.le_refl _) hs (.inl rfl) (by omega))).mono ?_
  rintro _ w2 ⟨d', q1, q2, h2, f2⟩
  simp only [Run_ret]
  exact ⟨d', q1, q2, h2, f2⟩
end
end Go.Proofs.YtojnickeblbgoaaDoor.SortStored
