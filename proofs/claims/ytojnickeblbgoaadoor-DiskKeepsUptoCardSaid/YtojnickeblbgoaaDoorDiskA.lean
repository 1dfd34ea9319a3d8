/-
  Layer 1 (disk), part A: names and paths; the keys of the entries.
-/
import Derived.Test.YtojnickeblbgoaaDoorGZ
import Derived.Test.YtojnickeblbgoaaDoorLiftN
namespace Go.Proofs.YtojnickeblbgoaaDoor
open Go.Lift
set_option linter.unusedSimpArgs false
set_option maxHeartbeats 2000000

def New (w w' : World) (v : Value) : Prop := ∀ b, inB v b → w.heap.size ≤ b ∧ b < w'.heap.size
theorem wrap_succ {n : Nat} (h : n + 1 < 9223372036854775808) : IntKind.i64.wrap ((n : Int) + 1) = ((n + 1 : Nat) : Int) := by simp [IntKind.wrap, IntKind.bits, IntKind.signed]; omega
theorem wrap_int {n : Int} (h1 : -9223372036854775808 ≤ n) (h2 : n ≤ 9223372036854775807) : IntKind.i64.wrap n = n := by simp [IntKind.wrap, IntKind.bits, IntKind.signed]; omega
theorem ba_list (a : ByteArray) : a.toList = a.data.toList := ByteArray.toList_eq a
theorem ba_ext {a b : ByteArray} (h : a.data.toList = b.data.toList) : a = b := by
  rcases a with ⟨⟨a⟩⟩
  rcases b with ⟨⟨b⟩⟩
  simp at h
  subst h
  rfl
theorem ba_eq (a b : ByteArray) : (a.toList == b.toList) = decide (a = b) := by
  rw [ba_list, ba_list]
  by_cases h : a = b
  · subst h; simp
  · rw [decide_eq_false h]
    rw [beq_eq_false_iff_ne]
    exact fun h' => h (ba_ext h')

/- Names. -/
def okB (c : Nat) : Bool := (decide (97 ≤ c) && decide (c ≤ 122)) || (decide (48 ≤ c) && decide (c ≤ 57)) || c == 45 || c == 95 || c == 46
def E0 : ByteArray := ByteArray.mk #[]
def dotS : ByteArray := ByteArray.mk #[46]
def dotsS : ByteArray := ByteArray.mk #[46, 46]
def nameF (s : ByteArray) : Bool := !(decide (s = E0)) && decide (s.size ≤ 40) && !(decide (s = dotS)) && !(decide (s = dotsS)) && s.data.toList.all fun c => okB c.toNat
theorem nameOK_run (w : World) (s : ByteArray) : Run (F.disk_nameOK (.string s)) w fun r w' => r = .bool (nameF s) ∧ Fr (fun _ => False) w w' := by
  unfold F.disk_nameOK
  have e1 : ByteArray.mk #[] = E0 := rfl
  have e2 : ByteArray.mk #[46] = dotS := rfl
  have e3 : ByteArray.mk #[46, 46] = dotsS := rfl
  rw [e1, e2, e3]
  by_cases h1 : s = E0
  · have : nameF s = false := by simp [nameF, h1]
    simp [h1, ba_eq]
    rw [h1] at this
    exact ⟨this.symm, Fr.refl _ _⟩
  by_cases h2 : (40 : Int) < s.size
  · have : nameF s = false := by
      have : ¬ s.size ≤ 40 := by omega
      simp [nameF, this]
    simp [h1, h2, ba_eq, this, Fr.refl]
  by_cases h3 : s = dotS
  · have : nameF s = false := by simp [nameF, h3]
    have h4 : ¬ dotS = E0 := fun h => h1 (h3.trans h)
    subst h3
    simp [h4, h2, ba_eq, this, Fr.refl]
  by_cases h4 : s = dotsS
  · have : nameF s = false := by simp [nameF, h4]
    have h5 : ¬ dotsS = E0 := fun h => h1 (h4.trans h)
    have h6 : ¬ dotsS = dotS := fun h => h3 (h4.trans h)
    subst h4
    simp [h5, h6, h2, ba_eq, this, Fr.refl]
  simp [h1, h2, h3, h4, ba_eq]
  have h40 : s.size ≤ 40 := by omega
  refine Run_sbM fun r w' hr fr _ => ?_
  have hlen := hr.1.lenL
  have hsz : s.data.toList.length = s.size := rfl
  simp [hlen]
  refine Run_for s.size (fun i l w'' => l = [.int .i64 i] ∧ w'' = w' ∧ ∀ j (c : UInt8), j < i → s.data[j]? = some c → okB c.toNat = true) ⟨rfl, rfl, fun j c hj => absurd hj (Nat.not_lt_zero _)⟩ ?_ ?_
  · rintro i l w'' hi ⟨rfl, rfl, ih⟩
    have hc : s.data[i]? = some (s.data[i]'hi) := Array.getElem?_eq_getElem hi
    generalize s.data[i]'hi = c at hc
    obtain ⟨p, e1, e2⟩ := hr.1.rd1 (i := i) (y := .int .u8 c.toNat) (by simp [hc]) .i64
    have hw := wrap_succ (n := i) (by omega)
    have hi' : (i : Int) < s.size := by omega
    simp [hi, hi', e1, e2, hw]
    have step : okB c.toNat = true → ∀ (j : Nat) (c : UInt8), j < i + 1 → s.data[j]? = some c → okB c.toNat = true := by
      intro h j c' hj hc'
      by_cases hji : j < i
      · exact ih j c' hji hc'
      · obtain rfl : j = i := by omega
        rw [hc] at hc'; cases hc'
        exact h
    have bad : okB c.toNat = false → nameF s = false := fun h => by
      have : s.data.toList.all (fun c => okB c.toNat) = false := by
        rw [List.all_eq_false]
        exact ⟨c, by simpa using Array.mem_of_getElem? hc, by simp [h]⟩
      simp only [nameF, this, Bool.and_false]
    repeat' ((first | refine Run_guard (fun h => ?_) (fun h => ?_) | refine Run_cond (fun h => ?_) (fun h => ?_)) <;> have h' := h <;> simp only [decide_eq_true_eq, decide_eq_false_iff_not, beq_iff_eq, beq_eq_false_iff_ne, ne_eq, Bool.not_eq_true', Bool.not_eq_false'] at h' <;> simp [*])
    all_goals try first
      | exact bad (by simp [okB]; omega)
      | exact step (by simp [okB]; omega)
      | (exfalso; omega)
  · rintro l w'' ⟨rfl, rfl, ih⟩
    have hall : s.data.toList.all (fun c => okB c.toNat) = true := by
      rw [List.all_eq_true]
      intro c hc
      obtain ⟨j, hj⟩ := Array.getElem?_of_mem (show c ∈ s.data by simpa using hc)
      exact ih j c (Array.getElem?_eq_some_iff.1 hj).1 hj
    have : nameF s = true := by simp only [nameF, hall]; simp [h1, h3, h4, h40]
    simp [this]
    exact fr

/- Paths. -/
def slash : ByteArray := ByteArray.mk #[47]
def partsF (s : ByteArray) : List ByteArray := Lib.splitB slash 0 (Lib.countB s slash) s
def parseF (s : ByteArray) : Option (List ByteArray) := if s = E0 then some [] else if 8 ≤ Lib.countByte s.data.toList 47 then none else if (partsF s).all nameF then some (partsF s) else none
theorem parse_run {w : World} {m : Int} (s : ByteArray) (hs : s.size < 4294967281) (hm : bk w 0 = some [.int .i64 m]) :
    Run (F.disk_parse (.string s)) w fun r w' => ∃ v, r = .tuple #[v, .bool (parseF s).isSome] ∧ Fr (fun _ => False) w w' ∧ ∀ names, parseF s = some names → Sl 1 w' v (names.map fun x => [.string x]) ∧ New w w' v := by
  unfold F.disk_parse
  have e1 : ByteArray.mk #[] = E0 := rfl
  rw [e1]
  by_cases h1 : s = E0
  · subst h1
    have : parseF E0 = some [] := by simp [parseF]
    simp [ba_eq, this]
    exact ⟨Fr.refl _ _, Sl.nil _ _, fun c hc => hc.elim⟩
  simp only [binV_str, strBin_eql, ba_eq, h1, decide_false, Run_bindO_some, Run_condM_false, Run_bind]
  have hcount : Run (F.strings_Count (.string s) (.string (ByteArray.mk #[47]))) w fun r w' => r = .int .i64 (Lib.countByte s.data.toList 47 : Nat) ∧ w' = w := ⟨_, _, rfl, rfl, rfl⟩
  refine hcount.mono ?_
  rintro _ w0 ⟨rfl, hw0⟩
  rw [hw0]
  clear hw0 w0
  by_cases h2 : 8 ≤ Lib.countByte s.data.toList 47
  · have : parseF s = none := by simp [parseF, h1, h2]
    have h2' : (8 : Int) ≤ (Lib.countByte s.data.toList 47 : Nat) := by omega
    simp [h2', this, Fr.refl]
  have h2' : ¬ ((Lib.countByte s.data.toList 47 : Nat) : Int) ≥ 8 := by omega
  simp only [binV_int, intBin_geq, h2', decide_false, Run_bindO_some, Run_condM_false, Run_bind]
  have hsl : ByteArray.mk #[47] = slash := rfl
  rw [hsl]
  have hcell : w.cell? ⟨0, 0, none⟩ = some (.int .i64 m) := by
    obtain ⟨c, e, k, hb, hl⟩ := bk_cells hm
    unfold World.cell?
    rw [hb]
    have : c.toList = [.int .i64 m] := hl.symm ▸ rfl
    simp
    rw [← Array.getElem?_toList, this]
    rfl
  have h47 : (1 : Nat) ≤ slash.size := by decide
  have hlen : (partsF s).length = Lib.countB s slash + 1 := Lib.splitB_all slash h47 0 _ s rfl
  have hle := Lib.countB_le slash h47 s.size s (Nat.le_refl _)
  have hsplit : Run (F.strings_Split (.string s) (.string slash)) w fun r w' => r = .slice (some ⟨w.heap.size, 0, none⟩) (Lib.countB s slash + 1) (Lib.countB s slash + 1) ∧ w' = w.alloc (.cells ((partsF s).map Value.string).toArray 9) := by
    refine ⟨_, _, ?_, rfl, rfl⟩
    unfold F.strings_Split
    simp only
    rw [if_pos ⟨hs, h47, m, hcell⟩]
    rfl
  refine hsplit.mono ?_
  rintro _ w1 ⟨rfl, hw1⟩
  have f1 : Fr (fun _ => False) w w1 := by rw [hw1]; exact (Fr.refl _ _).alloc _
  have hv : Sl 1 w1 (.slice (some ⟨w.heap.size, 0, none⟩) (Lib.countB s slash + 1) (Lib.countB s slash + 1)) ((partsF s).map fun x => [.string x]) := by
    refine ⟨by simp, some ⟨w.heap.size, 0, none⟩, Lib.countB s slash + 1, by rw [List.length_map, hlen], by rw [List.length_map, hlen]; exact Nat.le_refl _, .inr ⟨w.heap.size, 0, (partsF s).map Value.string, rfl, ?_, by simp [hlen], ?_⟩⟩
    · rw [hw1]
      have := bk_alloc_at (w := w) rfl ((partsF s).map Value.string).toArray 9
      simpa using this
    · have : ∀ l : List ByteArray, (l.map fun x => [Value.string x]).flatten = l.map Value.string := by
        intro l
        induction l with
        | nil => rfl
        | cons x l ih => simp [ih]
      rw [this, List.drop_zero, List.length_map, Nat.mul_one, List.take_of_length_le (by simp)]
  have hnew : New w w1 (.slice (some ⟨w.heap.size, 0, none⟩) (Lib.countB s slash + 1) (Lib.countB s slash + 1)) := by
    intro b hb
    simp only [inB_slice] at hb
    subst hb
    rw [hw1]
    simp
  clear hw1 hsplit
  generalize Value.slice (some ⟨w.heap.size, 0, none⟩) (Lib.countB s slash + 1) (Lib.countB s slash + 1) = v at hv hnew
  have hvl := hv.lenL
  rw [List.length_map] at hvl
  simp only [hvl, Run_bindO_some, Run_bind]
  refine Run_for (partsF s).length (fun i l w' => l = [.int .i64 i] ∧ Fr (fun _ => False) w1 w' ∧ ∀ j x, j < i → (partsF s)[j]? = some x → nameF x = true) ⟨rfl, Fr.refl _ _, fun j x hj => absurd hj (Nat.not_lt_zero _)⟩ ?_ ?_
  · rintro i l w2 hi ⟨rfl, f2, ih⟩
    have ei : (partsF s)[i]? = some (partsF s)[i] := List.getElem?_eq_getElem hi
    generalize (partsF s)[i] = x at ei
    obtain ⟨p, p1, p2⟩ := (hv.fr0 f2).rd1 (i := i) (y := .string x) (by simp [ei]) .i64
    have wi := wrap_succ (n := i) (by omega)
    have hi' : (i : Int) < (partsF s).length := by omega
    simp [hi, hi', p1, p2]
    refine (nameOK_run w2 x).mono ?_
    rintro _ w3 ⟨rfl, f3⟩
    have f13 : Fr (fun _ => False) w1 w3 := f2.trans f3 fun _ _ => id
    cases hx : nameF x with
    | false =>
      have : parseF s = none := by
        have : (partsF s).all nameF = false := by
          rw [List.all_eq_false]
          exact ⟨x, List.mem_of_getElem? ei, by simp [hx]⟩
        simp [parseF, h1, h2, this]
      simp [this]
      exact f1.trans f13 fun _ _ => id
    | true =>
      simp [wi]
      refine ⟨f13, fun j y hj hy => ?_⟩
      by_cases hji : j < i
      · exact ih j y hji hy
      · obtain rfl : j = i := by omega
        rw [ei] at hy; cases hy
        exact hx
  · rintro l w2 ⟨rfl, f2, ih⟩
    have hall : (partsF s).all nameF = true := by
      rw [List.all_eq_true]
      intro x hx
      obtain ⟨j, hj⟩ := List.getElem?_of_mem hx
      exact ih j x (List.getElem?_eq_some_iff.1 hj).1 hj
    have : parseF s = some (partsF s) := by simp only [parseF, h1, if_false, h2, hall, if_true]
    simp [this]
    exact ⟨f1.trans f2 fun _ _ => id, hv.fr0 f2, fun b hb => ⟨(hnew b hb).1, Nat.lt_of_lt_of_le (hnew b hb).2 f2.size⟩⟩

/- The keys. -/
abbrev Slt := Int × ByteArray
def slv (s : Slt) : Value := .agg #[.int .i64 s.1, .string s.2]
def idv (n : Int) : Value := .int .i64 n
abbrev shS : EqSh := EqSh.offs [(EqK.int, 0), (EqK.str, 1)]
theorem slv_ok (a : Int) (s : ByteArray) : keyOK Tryd.prog 68 (.agg #[.int .i64 a, .string s]) = true := by kernel_rfl
theorem keyS : KeyOk Tryd.prog 68 shS slv where
  eq := fun a b => by
    obtain ⟨a1, a2⟩ := a
    obtain ⟨b1, b2⟩ := b
    simp [slv, ba_eq]
  ok := fun a => slv_ok a.1 a.2
  bits := fun a => by simp [slv, Instr.sameBits, ba_beq]
end Go.Proofs.YtojnickeblbgoaaDoor
