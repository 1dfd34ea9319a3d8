/-
  Layer 4 (paper): part J: a text that is split at a byte; a text that is cut at its first line feed.
-/
import Derived.Test.YthlpfhjcdedhgaaDoorPapI
import Derived.Lib.SplitLaws
namespace Go.Proofs.YthlpfhjcdedhgaaDoor
open Go.Lift Go.Sort
set_option linter.unusedSimpArgs false
set_option linter.unusedVariables false
set_option maxHeartbeats 4000000
section
variable (b : UInt8)
/-- Texts joined by b. -/
def jn : List (List UInt8) → List UInt8
  | [] => []
  | x :: r => x ++ (r.map fun y => [b] ++ y).flatten
theorem jn_cons {x : List UInt8} {l : List (List UInt8)} (h : l ≠ []) : jn b (x :: l) = x ++ [b] ++ jn b l := by
  cases l with
  | nil => exact absurd rfl h
  | cons y r => simp [jn]
theorem jn_count : ∀ (N : List (List UInt8)), N ≠ [] → (∀ x ∈ N, b ∉ x) → (jn b N).count b + 1 = N.length
  | [], h, _ => absurd rfl h
  | [x], _, h => by simp [jn, List.count_eq_zero_of_not_mem (h x (by simp))]
  | x :: y :: r, _, h => by
    have ih := jn_count (y :: r) (by simp) fun z hz => h z (List.mem_cons_of_mem _ hz)
    rw [jn_cons b (x := x) (by simp)]
    simp only [List.count_append, List.count_eq_zero_of_not_mem (h x (by simp)), List.length_cons] at ih ⊢
    simp
    omega
theorem index_at {x s : List UInt8} (h : b ∉ x) : Lib.indexByte (x ++ b :: s) b = x.length := by
  have hge := Lib.indexByte_ge (x ++ b :: s) b
  have hat : (x ++ b :: s)[x.length]? = some b := by simp
  obtain ⟨o, ho⟩ : ∃ o : Nat, Lib.indexByte (x ++ b :: s) b = o := by
    by_cases hn : Lib.indexByte (x ++ b :: s) b = -1
    · exact absurd hat (Lib.indexByte_none hn _)
    · exact ⟨(Lib.indexByte (x ++ b :: s) b).toNat, by omega⟩
  obtain ⟨h1, h2⟩ := Lib.indexByte_some ho
  have : o = x.length := by
    rcases Nat.lt_trichotomy o x.length with hlt | he | hgt
    · rw [List.getElem?_append_left hlt] at h1
      exact absurd (List.mem_of_getElem? h1) h
    · exact he
    · exact absurd hat (h2 _ hgt)
  rw [ho, this]
theorem index_no {x : List UInt8} (h : b ∉ x) : Lib.indexByte x b = -1 := by
  have hge := Lib.indexByte_ge x b
  refine Classical.byContradiction fun hn => ?_
  obtain ⟨h1, _⟩ := Lib.indexByte_some (o := (Lib.indexByte x b).toNat) (show Lib.indexByte x b = _ by omega)
  exact h (List.mem_of_getElem? h1)
theorem split_join : ∀ (k : Nat) (N : List (List UInt8)), N ≠ [] → (∀ x ∈ N, b ∉ x) → N.length ≤ k + 1 → Lib.splitK [b] 0 k (jn b N) = N
  | _, [], h, _, _ => absurd rfl h
  | 0, [x], _, h, _ => by simp [Lib.splitK, jn]
  | 0, x :: y :: r, _, _, hl => by simp at hl
  | k + 1, [x], _, h, _ => by
    unfold Lib.splitK
    rw [show jn b [x] = x by simp [jn], Lib.index_one, index_no b (h x (by simp))]
    rfl
  | k + 1, x :: y :: r, _, h, hl => by
    have ih := split_join k (y :: r) (by simp) (fun z hz => h z (List.mem_cons_of_mem _ hz)) (by simpa using hl)
    unfold Lib.splitK
    rw [jn_cons b (x := x) (by simp)]
    have e : x ++ [b] ++ jn b (y :: r) = x ++ b :: jn b (y :: r) := by simp
    rw [e, Lib.index_one, index_at b (h x (by simp))]
    have hne : ((x.length : Int) == -1) = false := by simp
    rw [hne]
    have e1 : (x.length : Int).toNat + 0 = x.length := by omega
    have e2 : (x.length : Int).toNat + ([b] : List UInt8).length = x.length + 1 := by simp
    rw [e1, e2]
    simp only [Bool.false_eq_true, if_false, List.take_left]
    have e3 : (x ++ b :: jn b (y :: r)).drop (x.length + 1) = jn b (y :: r) := by simp
    rw [e3, ih]
/-- The pieces of a text between the bytes b. -/
def spl : List UInt8 → List (List UInt8)
  | [] => [[]]
  | c :: r => if c = b then [] :: spl r else match spl r with
    | p :: ps => (c :: p) :: ps
    | [] => [[c]]
theorem spl_ne : ∀ r, spl b r ≠ []
  | [] => by simp [spl]
  | c :: r => by
    unfold spl
    split
    · simp
    · split <;> simp
theorem spl_jn : ∀ r, jn b (spl b r) = r ∧ ∀ x ∈ spl b r, b ∉ x
  | [] => by simp [spl, jn]
  | c :: r => by
    obtain ⟨h1, h2⟩ := spl_jn r
    have hne := spl_ne b r
    unfold spl
    by_cases hc : c = b
    · rw [if_pos hc, jn_cons b hne, h1]
      refine ⟨by simp [hc], fun x hx => ?_⟩
      rcases List.mem_cons.1 hx with rfl | hx
      · simp
      · exact h2 x hx
    · rw [if_neg hc]
      cases hp : spl b r with
      | nil => exact absurd hp hne
      | cons p ps =>
        rw [hp] at h1 h2
        simp only
        refine ⟨?_, fun x hx => ?_⟩
        · cases ps with
          | nil => simp [jn] at h1 ⊢; rw [h1]
          | cons q t =>
            rw [jn_cons b (by simp)] at h1 ⊢
            rw [← h1]; simp
        · rcases List.mem_cons.1 hx with rfl | hx
          · have := h2 p (by simp)
            simp only [List.mem_cons, not_or]
            exact ⟨fun h => hc h.symm, this⟩
          · exact h2 x (List.mem_cons_of_mem _ hx)
/-- Pieces without b, joined, are split again. -/
theorem spl_of {N : List (List UInt8)} (hn : N ≠ []) (h : ∀ x ∈ N, b ∉ x) : spl b (jn b N) = N := by
  obtain ⟨h1, h2⟩ := spl_jn b (jn b N)
  have l1 := jn_count b N hn h
  have l2 := jn_count b _ (spl_ne b (jn b N)) h2
  rw [h1] at l2
  have e1 := split_join b ((jn b N).count b) N hn h (by omega)
  have e2 := split_join b ((jn b N).count b) _ (spl_ne b (jn b N)) h2 (by omega)
  rw [h1] at e2
  rw [← e2, e1]
end
section
variable {w w1 w2 : World}
theorem ba_eq {x y : ByteArray} (h : x.data.toList = y.data.toList) : x = y := by
  apply ByteArray.ext
  exact Array.toList_inj.1 h
theorem mapD_inj {l l' : List ByteArray} (h : l.map (·.data.toList) = l'.map (·.data.toList)) : l = l' := by
  induction l generalizing l' with
  | nil => cases l' with
    | nil => rfl
    | cons y r => simp at h
  | cons x r ih => cases l' with
    | nil => simp at h
    | cons y r' =>
      simp only [List.map_cons, List.cons.injEq] at h
      rw [ba_eq h.1, ih h.2]
theorem split_run (ht : Tb w) (l : List UInt8) (b : UInt8) (hl : l.length < 4294967281) :
    Run (F.strings_Split (.string (sb l)) (.string (sb [b]))) w fun r w' => SlW 1 w' r ((spl b l).map fun x => [.string (sb x)]) ∧ Fr (fun _ => False) w w' ∧ ∀ c, inB r c → w.heap.size ≤ c ∧ c < w'.heap.size := by
  obtain ⟨m, hm⟩ := ht.ml
  have hcell : w.cell? ⟨1, 0, none⟩ = some (.int .i64 m) := by
    obtain ⟨c, e, fr, hh, hc⟩ := bk_cells hm
    unfold World.cell?
    rw [hh]
    simp
    rw [← Array.getElem?_toList, hc]; rfl
  obtain ⟨hj, hno⟩ := spl_jn b l
  have hne := spl_ne b l
  have hcnt := jn_count b _ hne hno
  rw [hj] at hcnt
  have hcb : Lib.countB (sb l) (sb [b]) = l.count b := by
    show Lib.count l [b] = _
    rw [Lib.count_one]
  have hparts : Lib.splitB (sb [b]) 0 (Lib.countB (sb l) (sb [b])) (sb l) = (spl b l).map sb := by
    apply mapD_inj
    rw [Lib.splitB_data, hcb]
    have := split_join b (l.count b) _ hne hno (by omega)
    rw [hj] at this
    rw [List.map_map]
    have e : ((fun x : ByteArray => x.data.toList) ∘ sb) = id := by funext l; rfl
    rw [e, List.map_id]
    exact this
  have e : F.strings_Split (.string (sb l)) (.string (sb [b])) w = some (.slice (some ⟨w.heap.size, 0, none⟩) (spl b l).length (spl b l).length, w.alloc (.cells (((spl b l).map sb).map Value.string).toArray 9)) := by
    unfold F.strings_Split
    simp only
    rw [if_pos ⟨by rw [sb_size]; exact hl, by rw [sb_size]; simp, m, hcell⟩, hparts, hcb, hcnt]
  refine ⟨_, _, e, ⟨⟨by simp, some ⟨w.heap.size, 0, none⟩, (spl b l).length, by simp, by simp, .inr ⟨w.heap.size, 0, ((spl b l).map sb).map Value.string, rfl, ?_, by simp, ?_⟩⟩, fun c hc _ => ?_⟩, (Fr.refl _ _).alloc _, fun c hc => ?_⟩
  · have := bk_alloc_at (w := w) rfl (((spl b l).map sb).map Value.string).toArray 9
    simpa using this
  · have : ∀ l : List (List UInt8), (l.map fun x => [Value.string (sb x)]).flatten = (l.map sb).map Value.string := by
      intro l
      induction l with
      | nil => rfl
      | cons x l ih => simp [ih]
    rw [this, List.drop_zero, List.length_map, Nat.mul_one, List.take_of_length_le (by simp)]
  · cases hc; exact wr_alloc_at rfl _ _
  · cases hc; exact ⟨Nat.le_refl _, by simp⟩
/-- A text up to its first b, and what comes behind. -/
def cutL (b : UInt8) : List UInt8 → Option (List UInt8 × List UInt8)
  | [] => none
  | c :: r => if c = b then some ([], r) else match cutL b r with
    | some p => some (c :: p.1, p.2)
    | none => none
theorem cut_some {b : UInt8} : ∀ {l x y : List UInt8}, cutL b l = some (x, y) → l = x ++ b :: y ∧ b ∉ x
  | [], x, y, h => by cases h
  | c :: r, x, y, h => by
    unfold cutL at h
    by_cases hc : c = b
    · rw [if_pos hc] at h
      cases h
      exact ⟨by simp [hc], by simp⟩
    · rw [if_neg hc] at h
      split at h
      · rename_i p hp
        cases h
        obtain ⟨h1, h2⟩ := cut_some (x := p.1) (y := p.2) hp
        exact ⟨by rw [List.cons_append, ← h1], by simp only [List.mem_cons, not_or]; exact ⟨fun e => hc e.symm, h2⟩⟩
      · cases h
theorem cut_none {b : UInt8} : ∀ {l : List UInt8}, cutL b l = none → b ∉ l
  | [], _ => by simp
  | c :: r, h => by
    unfold cutL at h
    by_cases hc : c = b
    · rw [if_pos hc] at h; cases h
    · rw [if_neg hc] at h
      split at h
      · cases h
      · rename_i hp
        simp only [List.mem_cons, not_or]
        exact ⟨fun e => hc e.symm, cut_none hp⟩
theorem cut_at {b : UInt8} : ∀ {x y : List UInt8}, b ∉ x → cutL b (x ++ b :: y) = some (x, y)
  | [], y, _ => by simp [cutL]
  | c :: x, y, h => by
    simp only [List.mem_cons, not_or] at h
    have ih := cut_at (x := x) (y := y) h.2
    rw [List.cons_append]
    unfold cutL
    rw [if_neg (fun e => h.1 e.symm), ih]
theorem sbEq (a c : List UInt8) : binV .eql (.string (sb a)) (.string (sb c)) = some (.bool (decide (a = c))) := by
  show strBin .eql (sb a) (sb c) = _
  simp only [strBin, ByteArray.toList_eq]
  show some (Value.bool (a == c)) = _
  by_cases h : a = c <;> simp [h]
theorem sbNe (a c : List UInt8) : binV .neq (.string (sb a)) (.string (sb c)) = some (.bool (!decide (a = c))) := by
  show strBin .neq (sb a) (sb c) = _
  simp only [strBin, ByteArray.toList_eq]
  show some (Value.bool (!(a == c))) = _
  by_cases h : a = c <;> simp [h]
theorem sb_extract {l : List UInt8} {n m : Nat} : (sb l).extract n m = sb ((l.take m).drop n) := by
  apply ba_eq
  show ((sb l).extract n m).data.toList = (l.take m).drop n
  simp [sb, List.drop_take]
theorem bound_at {kd : IntKind} {n m : Nat} (h : n ≤ m) : boundV (.int kd (n : Int)) m = some n := by
  unfold boundV
  simp only
  rw [if_pos (by omega)]
  simp
theorem slTo {l : List UInt8} {n : Nat} (h : n ≤ l.length) : sliceS (.string (sb l)) none (some (.int .i64 (n : Int))) = some (.string (sb (l.take n))) := by
  simp only [sliceS, highV, lowV, bound_at (show n ≤ (sb l).size by rw [sb_size]; exact h), sb_extract, List.drop_zero]
theorem slFrom {l : List UInt8} {n : Nat} (h : n ≤ l.length) : sliceS (.string (sb l)) (some (.int .i64 (n : Int))) none = some (.string (sb (l.drop n))) := by
  simp only [sliceS, highV, lowV, sb_extract, sb_size, List.take_length, bound_at h]
theorem slBoth {l : List UInt8} {n m : Nat} (h : n ≤ m) (hm : m ≤ l.length) : sliceS (.string (sb l)) (some (.int .i64 (n : Int))) (some (.int .i64 (m : Int))) = some (.string (sb ((l.take m).drop n))) := by
  simp only [sliceS, highV, lowV, bound_at (show m ≤ (sb l).size by rw [sb_size]; exact hm), bound_at h, sb_extract]
theorem idxSb {l : List UInt8} {kd : IntKind} {i : Nat} {c : UInt8} (h : l[i]? = some c) : idxS (.string (sb l)) (.int kd (i : Int)) = some (by8 c) := by
  obtain ⟨h1, h2⟩ := List.getElem?_eq_some_iff.1 h
  have hs : i < (sb l).size := by rw [sb_size]; exact h1
  have hg : (sb l)[i] = c := by rw [← h2]; rfl
  simp [idxS, hs, hg, by8]
theorem index_run (l : List UInt8) (b : UInt8) : Run (F.stringslite_Index (.string (sb l)) (.string (sb [b]))) w fun r w' => r = .int .i64 (Lib.indexByte l b) ∧ w' = w := by
  unfold F.stringslite_Index
  have i0 : idxS (.string (sb [b])) (.int .i64 0) = some (by8 b) := idxSb (l := [b]) (i := 0) rfl
  by_cases h : [b] = l
  · subst h
    simp [sb_size, -binV_str, sbEq, Lib.indexByte]
  · simp [sb_size, -binV_str, sbEq, h, i0]
    refine ⟨_, _, rfl, ?_⟩
    have e : ((b.toNat : Int)).toNat.toUInt8 = b := by simp
    rw [e]
    exact ⟨rfl, rfl⟩
def cutV (l : List UInt8) : Option (List UInt8 × List UInt8) → Value
  | some p => .tuple #[.string (sb p.1), .string (sb p.2), .bool true]
  | none => .tuple #[.string (sb l), .string (sb []), .bool false]
theorem cut_run (l : List UInt8) (b : UInt8) (hl : l.length < 4294967281) :
    Run (F.strings_Cut (.string (sb l)) (.string (sb [b]))) w fun r w' => r = cutV l (cutL b l) ∧ Fr (fun _ => False) w w' := by
  unfold F.strings_Cut F.stringslite_Cut
  rw [Run_bind, Run_bind]
  refine (index_run l b).mono ?_
  rintro _ w1 ⟨rfl, rfl⟩
  cases h : cutL b l with
  | some p =>
    obtain ⟨h1, h2⟩ := cut_some (x := p.1) (y := p.2) h
    have hi : Lib.indexByte l b = p.1.length := by rw [h1]; exact index_at b h2
    have hlen : l.length = p.1.length + (p.2.length + 1) := by rw [h1]; simp
    have wn : IntKind.i64.wrap ((p.1.length : Int) + 1) = ((p.1.length + 1 : Nat) : Int) := wrap_succ' (by omega)
    have s1 := slTo (l := l) (n := p.1.length) (by omega)
    have s2 := slFrom (l := l) (n := p.1.length + 1) (by omega)
    have e1 : l.take p.1.length = p.1 := by rw [h1]; simp
    have e2 : l.drop (p.1.length + 1) = p.2 := by rw [h1]; simp
    rw [e1] at s1
    rw [e2] at s2
    rw [hi]
    simp [sb_size, -binV_str, s1, wn, cutV]
    have s2' : sliceS (.string (sb l)) (some (.int .i64 ((p.1.length : Int) + 1))) none = some (.string (sb p.2)) := s2
    rw [s2']
    simp
    exact (Fr.refl _ _).drew
  | none =>
    have hi := index_no b (cut_none h)
    rw [hi]
    simp [Fr.refl, cutV]
    rfl
end
end Go.Proofs.YthlpfhjcdedhgaaDoor
