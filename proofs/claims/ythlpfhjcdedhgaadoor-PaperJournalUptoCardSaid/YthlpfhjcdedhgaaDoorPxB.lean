/-
  Layer 4 (paper): part J: a text that is split at a byte; a text that is cut at its first line feed.
-/
import Derived.Test.YthlpfhjcdedhgaaDoorPxA
import Derived.Lib.SplitLaws
namespace Go.Proofs.YthlpfhjcdedhgaaDoor
open Go.Lift Go.Sort
set_option linter.unusedSimpArgs false
set_option linter.unusedVariables false
set_option maxHeartbeats 4000000
section
variable (b : UInt8)
/-- Texts joined by b. -/
def jn : List (List UInt8) → List UInt8
  | [] => []
  | x :: r => x ++ (r.map fun y => [b] ++ y).flatten
theorem jn_cons {x : List UInt8} {l : List (List UInt8)} (h : l ≠ []) : jn b (x :: l) = x ++ [b] ++ jn b l := by
  cases l with
  | nil => exact absurd rfl h
  | cons y r => simp [jn]
theorem jn_count : ∀ (N : List (List UInt8)), N ≠ [] → (∀ x ∈ N, b ∉ x) → (jn b N).count b + 1 = N.length
  | [], h, _ => absurd rfl h
  | [x], _, h => by simp [jn, List.count_eq_zero_of_not_mem (h x (by simp))]
  | x :: y :: r, _, h => by
    have ih := jn_count (y :: r) (by simp) fun z hz => h z (List.mem_cons_of_mem _ hz)
    rw [jn_cons b (x := x) (by simp)]
    simp only [List.count_append, List.count_eq_zero_of_not_mem (h x (by simp)), List.length_cons] at ih ⊢
    simp
    omega
theorem index_at {x s : List UInt8} (h : b ∉ x) : Lib.indexByte (x ++ b :: s) b = x.length := by
  have hge := Lib.indexByte_ge (x ++ b :: s) b
  have hat : (x ++ b :: s)[x.length]? = some b := by simp
  obtain ⟨o, ho⟩ : ∃ o : Nat, Lib.indexByte (x ++ b :: s) b = o := by
    by_cases hn : Lib.indexByte (x ++ b :: s) b = -1
    · exact absurd hat (Lib.indexByte_none hn _)
    · exact ⟨(Lib.indexByte (x ++ b :: s) b).toNat, by omega⟩
  obtain ⟨h1, h2⟩ := Lib.indexByte_some ho
  have : o = x.length := by
    rcases Nat.lt_trichotomy o x.length with hlt | he | hgt
    · rw [List.getElem?_append_left hlt] at h1
      exact absurd (List.mem_of_getElem? h1) h
    · exact he
    · exact absurd hat (h2 _ hgt)
  rw [ho, this]
theorem index_no {x : List UInt8} (h : b ∉ x) : Lib.indexByte x b = -1 := by
  have hge := Lib.indexByte_ge x b
  refine Classical.byContradiction fun hn => ?_
  obtain ⟨h1, _⟩ := Lib.indexByte_some (o := (Lib.indexByte x b).toNat) (show Lib.indexByte x b = _ by omega)
  exact h (List.mem_of_getElem? h1)
theorem split_join : ∀ (k : Nat) (N : List (List UInt8)), N ≠ [] → (∀ x ∈ N, b ∉ x) → N.length ≤ k + 1 → Lib.splitK [b] 0 k (jn b N) = N
  | _, [], h, _, _ => absurd rfl h
  | 0, [x], _, h, _ => by simp [Lib.splitK, jn]
  | 0, x :: y :: r, _, _, hl => by simp at hl
  | k + 1, [x], _, h, _ => by
    unfold Lib.splitK
    rw [show jn b [x] = x by simp [jn], Lib.index_one, index_no b (h x (by simp))]
    rfl
  | k + 1, x :: y :: r, _, h, hl => by
    have ih := split_join k (y :: r) (by simp) (fun z hz => h z (List.mem_cons_of_mem _ hz)) (by simpa using hl)
    unfold Lib.splitK
    rw [jn_cons b (x := x) (by simp)]
    have e : x ++ [b] ++ jn b (y :: r) = x ++ b :: jn b (y :: r) := by simp
    rw [e, Lib.index_one, index_at b (h x (by simp))]
    have hne : ((x.length : Int) == -1) = false := by simp
    rw [hne]
    have e1 : (x.length : Int).toNat + 0 = x.length := by omega
    have e2 : (x.length : Int).toNat + ([b] : List UInt8).length = x.length + 1 := by simp
    rw [e1, e2]
    simp only [Bool.false_eq_true, if_false, List.take_left]
    have e3 : (x ++ b :: jn b (y :: r)).drop (x.length + 1) = jn b (y :: r) := by simp
    rw [e3, ih]
/-- The pieces of a text between the bytes b. -/
def spl : List UInt8 → List (List UInt8)
  | [] => [[]]
  | c :: r => if c = b then [] :: spl r else match spl r with
    | p :: ps => (c :: p) :: ps
    | [] => [[c]]
theorem spl_ne : ∀ r, spl b r ≠ []
  | [] => by simp [spl]
  | c :: r => by
    unfold spl
    split
    · simp
    · split <;> simp
theorem spl_jn : ∀ r, jn b (spl b r) = r ∧ ∀ x ∈ spl b r, b ∉ x
  | [] => by simp [spl, jn]
  | c :: r => by
    obtain ⟨h1, h2⟩ := spl_jn r
    have hne := spl_ne b r
    unfold spl
    by_cases hc : c = b
    · rw [if_pos hc, jn_cons b hne, h1]
      refine ⟨by simp [hc], fun x hx => ?_⟩
      rcases List.mem_cons.1 hx with rfl | hx
      · simp
      · exact h2 x hx
    · rw [if_neg hc]
      cases hp : spl b r with
      | nil => exact absurd hp hne
      | cons p ps =>
        rw [hp] at h1 h2
        simp only
        refine ⟨?_, fun x hx => ?_⟩
        · cases ps with
          | nil => simp [jn] at h1 ⊢; rw [h1]
          | cons q t =>
            rw [jn_cons b (by simp)] at h1 ⊢
            rw [← h1]; simp
        · rcases List.mem_cons.1 hx with rfl | hx
          · have := h2 p (by simp)
            simp only [List.mem_cons, not_or]
            exact ⟨fun h => hc h.symm, this⟩
          · exact h2 x (List.mem_cons_of_mem _ hx)
/-- Pieces without b, joined, are split again. -/
theorem spl_of {N : List (List UInt8)} (hn : N ≠ []) (h : ∀ x ∈ N, b ∉ x) : spl b (jn b N) = N := by
  obtain ⟨h1, h2⟩ := spl_jn b (jn b N)
  have l1 := jn_count b N hn h
  have l2 := jn_count b _ (spl_ne b (jn b N)) h2
  rw [h1] at l2
  have e1 := split_join b ((jn b N).count b) N hn h (by omega)
  have e2 := split_join b ((jn b N).count b) _ (spl_ne b (jn b N)) h2 (by omega)
  rw [h1] at e2
  rw [← e2, e1]
end
section
variable {w w1 w2 : World}
theorem ba_eq {x y : ByteArray} (h : x.data.toList = y.data.toList) : x = y := by
  apply ByteArray.ext
  exact Array.toList_inj.1 h
theorem mapD_inj {l l' : List ByteArray} (h : l.map (·.data.toList) = l'.map (·.data.toList)) : l = l' := by
  induction l generalizing l' with
  | nil => cases l' with
    | nil => rfl
    | cons y r => simp at h
  | cons x r ih => cases l' with
    | nil => simp at h
    | cons y r' =>
      simp only [List.map_cons, List.cons.injEq] at h
      rw [ba_eq h.1, ih h.2]
theorem split_run (ht : Tb w) (l : List UInt8) (b : UInt8) (hl : l.length < 4294967281) :
    Run (F.strings_Split (.string (sb l)) (.string (sb [b]))) w fun r w' => SlW 1 w' r ((spl b l).map fun x => [.string (sb x)]) ∧ Fr (fun _ => False) w w' ∧ ∀ c, inB r c → w.heap.size ≤ c ∧ c < w'.heap.size := by
  obtain ⟨m, hm⟩ := ht.ml
  have hcell : w.cell? ⟨1, 0, none⟩ = some (.int .i64 m) := by
    obtain ⟨c, e, fr, hh, hc⟩ := bk_cells hm
    unfold World.cell?
    rw [hh]
    simp
    rw [← Array.getElem?_toList, hc]; rfl
  obtain ⟨hj, hno⟩ := spl_jn b l
  have hne := spl_ne b l
  have hcnt := jn_count b _ hne hno
  rw [hj] at hcnt
  have hcb : Lib.countB (sb l) (sb [b]) = l.count b := by
    show Lib.count l [b] = _
    rw [Lib.count_one]
  have hparts : Lib.splitB (sb [b]) 0 (Lib.countB (sb l) (sb [b])) (sb l) = (spl b l).map sb := by
    apply mapD_inj
    rw [Lib.splitB_data, hcb]
    have := split_join b (l.count b) _ hne hno (by omega)
    rw [hj] at this
    rw [List.map_map]
    have e : ((fun x : ByteArray => x.data.toList) ∘ sb) = id := by funext l; rfl
    rw [e, List.map_id]
    exact this
  have e : F.strings_Split (.string (sb l)) (.string (sb [b])) w = some (.slice (some ⟨w.heap.size, 0, none⟩) (spl b l).length (spl b l).length, w.alloc (.cells (((spl b l).map sb).map Value.string).toArray 9)) := by
    unfold F.strings_Split
    simp only
    rw [if_pos ⟨by rw [sb_size]; exact hl, by rw [sb_size]; simp, m, hcell⟩, hparts, hcb, hcnt]
  refine ⟨_, _, e, ⟨⟨by simp, some ⟨w.heap.size, 0, none⟩, (spl b l).length, by simp, by simp, .inr ⟨w.heap.size, 0, ((spl b l).map sb).map Value.string, rfl, ?_, by simp, ?_⟩⟩, fun c hc _ => ?_⟩, (Fr.refl _ _).alloc _, fun c hc => ?_⟩
  · have := bk_alloc_at (w := w) rfl (((spl b l).map sb).map Value.string).toArray 9
    simpa using this
  · have : ∀ l : List (List UInt8), (l.map fun x => [Value.string (sb x)]).flatten = (l.map sb).map Value.string := by
      intro l
      induction l with
      | nil => rfl
      | cons x l ih => simp [ih]
    rw [this, List.drop_zero, List.length_map, Nat.mul_one, List.take_of_length_le (by simp)]
  · cases hc; exact wr_alloc_at rfl _ _
  · cases hc; exact ⟨Nat.le_refl _, by simp⟩
/-- A text up to its first b, and what comes behind. -/
def cutL (b : UInt8) : List UInt8 → Option (List UInt8 × List UInt8)
  | [] => none
  | c :: r => if c = b then some ([], r) else match cutL b r with
    | some p => some (c :: p.1, p.2)
    | none => none
theorem cut_some {b : UInt8} : ∀ {l x y : List UInt8}, cutL b l = some (x, y) → l = x ++ b :: y ∧ b ∉ x
  | [], x, y, h => by cases h
  | c :: r, x, y, h => by
    unfold cutL at h
    by_cases hc : c = b
    · rw [if_pos hc] at h
      cases h
      exact ⟨by simp [hc], by simp⟩
    · rw [if_neg hc] at h
      split at h
      · rename_i p hp
        cases h
        obtain ⟨h1, h2⟩ := cut_some (x := p.1) (y := p.2) hp
        exact ⟨by rw [List.cons_append, ← h1], by simp only [List.mem_cons, not_or]; exact ⟨fun e => hc e.symm, h2⟩⟩
      · cases h
theorem cut_none {b : UInt8} : ∀ {l : List UInt8}, cutL b l = none → b ∉ l
  | [], _ => by simp
  | c :: r, h => by
    unfold cutL at h
    by_cases hc : c = b
    · rw [if_pos hc] at h; cases h
    · rw [if_neg hc] at h
      split at h
      · cases h
      · rename_i hp
        simp only [List.mem_cons, not_or]
        exact ⟨fun e => hc e.symm, cut_none hp⟩
theorem cut_at {b : UInt8} : ∀ {x y : List UInt8}, b ∉ x → cutL b (x ++ b :: y) = some (x, y)
  | [], y, _ => by simp [cutL]
  | c :: x, y, h => by
    simp only [List.mem_cons, not_or] at h
    have ih := cut_at (x := x) (y := y) h.2
    rw [List.cons_append]
    unfold cutL
    rw [if_neg (fun e => h.1 e.symm), ih]
theorem sbEq (a c : List UInt8) : binV .eql (.string (sb a)) (.string (sb c)) = some (.bool (decide (a = c))) := by
  show strBin .eql (sb a) (sb c) = _
  simp only [strBin, ByteArray.toList_eq]
  show some (Value.bool (a == c)) = _
  by_cases h : a = c <;> simp [h]
theorem sbNe (a c : List UInt8) : binV .neq (.string (sb a)) (.string (sb c)) = some (.bool (!decide (a = c))) := by
  show strBin .neq (sb a) (sb c) = _
  simp only [strBin, ByteArray.toList_eq]
  show some (Value.bool (!(a == c))) = _
  by_cases h : a = c <;> simp [h]
theorem sb_extract {l : List UInt8} {n m : Nat} : (sb l).extract n m = sb ((l.take m).drop n) := by
  apply ba_eq
  show ((sb l).extract n m).data.toList = (l.take m).drop n
  simp [sb, List.drop_take]
theorem bound_at {kd : IntKind} {n m : Nat} (h : n ≤ m) : boundV (.int kd (n : Int)) m = some n := by
  unfold boundV
  simp only
  rw [if_pos (by omega)]
  simp
theorem slTo {l : List UInt8} {n : Nat} (h : n ≤ l.length) : sliceS (.string (sb l)) none (some (.int .i64 (n : Int))) = some (.string (sb (l.take n))) := by
  simp only [sliceS, highV, lowV, bound_at (show n ≤ (sb l).size by rw [sb_size]; exact h), sb_extract, List.drop_zero]
theorem slFrom {l : List UInt8} {n : Nat} (h : n ≤ l.length) : sliceS (.string (sb l)) (some (.int .i64 (n : Int))) none = some (.string (sb (l.drop n))) := by
  simp only [sliceS, highV, lowV, sb_extract, sb_size, List.take_length, bound_at h]
theorem slBoth {l : List UInt8} {n m : Nat} (h : n ≤ m) (hm : m ≤ l.length) : sliceS (.string (sb l)) (some (.int .i64 (n : Int))) (some (.int .i64 (m : Int))) = some (.string (sb ((l.take m).drop n))) := by
  simp only [sliceS, highV, lowV, bound_at (show m ≤ (sb l).size by rw [sb_size]; exact hm), bound_at h, sb_extract]
theorem idxSb {l : List UInt8} {kd : IntKind} {i : Nat} {c : UInt8} (h : l[i]? = some c) : idxS (.string (sb l)) (.int kd (i : Int)) = some (by8 c) := by
  obtain ⟨h1, h2⟩ := List.getElem?_eq_some_iff.1 h
  have hs : i < (sb l).size := by rw [sb_size]; exact h1
  have hg : (sb l)[i] = c := by rw [← h2]; rfl
  simp [idxS, hs, hg, by8]
theorem index_run (l : List UInt8) (b : UInt8) : Run (F.stringslite_Index (.string (sb l)) (.string (sb [b]))) w fun r w' => r = .int .i64 (Lib.indexByte l b) ∧ w' = w := by
  unfold F.stringslite_Index
  have i0 : idxS (.string (sb [b])) (.int .i64 0) = some (by8 b) := idxSb (l := [b]) (i := 0) rfl
  by_cases h : [b] = l
  · subst h
    simp [sb_size, -binV_str, sbEq, Lib.indexByte]
  · simp [sb_size, -binV_str, sbEq, h, i0]
    refine ⟨_, _, rfl, ?_⟩
    have e : ((b.toNat : Int)).toNat.toUInt8 = b := by simp
    rw [e]
    exact ⟨rfl, rfl⟩
def cutV (l : List UInt8) : Option (List UInt8 × List UInt8) → Value
  | some p => .tuple #[.string (sb p.1), .string (sb p.2), .bool true]
  | none => .tuple #[.string (sb l), .string (sb []), .bool false]
theorem cut_run (l : List UInt8) (b : UInt8) (hl : l.length < 4294967281) :
    Run (F.strings_Cut (.string (sb l)) (.string (sb [b]))) w fun r w' => r = cutV l (cutL b l) ∧ Fr (fun _ => False) w w' := by
  unfold F.strings_Cut F.stringslite_Cut
  rw [Run_bind, Run_bind]
  refine (index_run l b).mono ?_
  rintro _ w1 ⟨rfl, rfl⟩
  cases h : cutL b l with
  | some p =>
    obtain ⟨h1, h2⟩ := cut_some (x := p.1) (y := p.2) h
    have hi : Lib.indexByte l b = p.1.length := by rw [h1]; exact index_at b h2
    have hlen : l.length = p.1.length + (p.2.length + 1) := by rw [h1]; simp
    have wn : IntKind.i64.wrap ((p.1.length : Int) + 1) = ((p.1.length + 1 : Nat) : Int) := wrap_succ' (by omega)
    have s1 := slTo (l := l) (n := p.1.length) (by omega)
    have s2 := slFrom (l := l) (n := p.1.length + 1) (by omega)
    have e1 : l.take p.1.length = p.1 := by rw [h1]; simp
    have e2 : l.drop (p.1.length + 1) = p.2 := by rw [h1]; simp
    rw [e1] at s1
    rw [e2] at s2
    rw [hi]
    simp [sb_size, -binV_str, s1, wn, cutV]
    have s2' : sliceS (.string (sb l)) (some (.int .i64 ((p.1.length : Int) + 1))) none = some (.string (sb p.2)) := s2
    rw [s2']
    simp
    exact (Fr.refl _ _).drew
  | none =>
    have hi := index_no b (cut_none h)
    rw [hi]
    simp [Fr.refl, cutV]
    rfl
end
end Go.Proofs.YthlpfhjcdedhgaaDoor

/-
  Layer 4 (paper): part K: a number that is read.
-/
namespace Go.Proofs.YthlpfhjcdedhgaaDoor
open Go.Lift Go.Sort
set_option linter.unusedSimpArgs false
set_option linter.unusedVariables false
set_option maxHeartbeats 4000000
def isD (c : UInt8) : Bool := decide (48 ≤ c.toNat ∧ c.toNat ≤ 57)
def valF (a : Nat) (c : UInt8) : Nat := 10 * a + (c.toNat - 48)
def valL (l : List UInt8) : Nat := l.foldl valF 0
/-- The number that a text is. -/
def numF (l : List UInt8) : Option Nat := if l = [] ∨ 16 < l.length ∨ (1 < l.length ∧ l.head? = some 48) ∨ l.all isD = false then none else some (valL l)
def numV (o : Option Nat) : Value := .tuple #[.int .i64 ((o.getD 0 : Nat) : Int), .bool o.isSome]
theorem valL_snoc (l : List UInt8) (c : UInt8) : valL (l ++ [c]) = 10 * valL l + (c.toNat - 48) := by
  unfold valL
  rw [List.foldl_append]; rfl
theorem valF_lt : ∀ (l : List UInt8) (a k : Nat), l.all isD = true → a < 10 ^ k → l.foldl valF a < 10 ^ (k + l.length)
  | [], a, k, _, h => h
  | c :: l, a, k, ha, h => by
    simp only [List.all_cons, Bool.and_eq_true, isD, decide_eq_true_eq] at ha
    have := valF_lt l (valF a c) (k + 1) ha.2 (by unfold valF; rw [Nat.pow_succ]; omega)
    rw [List.length_cons, show k + (l.length + 1) = k + 1 + l.length by omega]
    exact this
theorem valL_lt (l : List UInt8) (h : l.all isD = true) : valL l < 10 ^ l.length := by
  have := valF_lt l 0 0 h (by decide)
  rwa [Nat.zero_add] at this
/-- The digits that stand ahead. -/
def runD (l : List UInt8) : List UInt8 := l.takeWhile isD
theorem runD_all (l : List UInt8) : (runD l).all isD = true := by
  unfold runD
  induction l with
  | nil => rfl
  | cons c l ih =>
    by_cases h : isD c = true
    · simp [List.takeWhile_cons, h] at ih ⊢
    · simp [List.takeWhile_cons, h]
theorem runD_le (l : List UInt8) : (runD l).length ≤ l.length := (List.takeWhile_prefix isD).length_le
theorem runD_take (l : List UInt8) : l.take (runD l).length = runD l := ((List.prefix_iff_eq_take).1 (List.takeWhile_prefix isD)).symm
theorem runD_at (l : List UInt8) {i : Nat} (h : i < (runD l).length) : ∃ c, l[i]? = some c ∧ isD c = true := by
  have ha := runD_all l
  have hc : (runD l)[i]? = some (runD l)[i] := List.getElem?_eq_getElem h
  refine ⟨(runD l)[i], ?_, ?_⟩
  · rw [← hc]
    conv => rhs; rw [← runD_take]
    rw [List.getElem?_take_of_lt h]
  · exact List.all_eq_true.1 ha _ (List.getElem_mem h)
theorem runD_end : ∀ (l : List UInt8) {c : UInt8}, l[(runD l).length]? = some c → isD c = false
  | [], c, h => by simp at h
  | x :: l, c, h => by
    unfold runD at h
    by_cases hx : isD x = true
    · simp only [List.takeWhile_cons, hx, if_true, List.length_cons, List.getElem?_cons_succ] at h
      exact runD_end l h
    · simp only [List.takeWhile_cons, hx] at h
      simp at h
      subst h
      simpa using hx
theorem runD_full {l : List UInt8} : l.all isD = true ↔ (runD l).length = l.length := by
  constructor
  · intro h
    unfold runD
    induction l with
    | nil => rfl
    | cons c l ih =>
      simp only [List.all_cons, Bool.and_eq_true] at h
      simp [List.takeWhile_cons, h.1, ih h.2]
  · intro h
    have := runD_take l
    rw [h, List.take_length] at this
    rw [this]
    exact runD_all l
section
variable {w w1 w2 : World}
theorem pow_le16 {i : Nat} (h : i ≤ 16) : 10 ^ i ≤ 10000000000000000 := by
  have : (10 : Nat) ^ i ≤ 10 ^ 16 := Nat.pow_le_pow_right (by decide) h
  exact this
theorem number_run (l : List UInt8) (hl : l.length ≤ 4611686018427387904) : Run (F.paper_number (.string (sb l))) w fun r w' => r = numV (numF l) ∧ Fr (fun _ => False) w w' := by
  unfold F.paper_number
  have e0 : ByteArray.mk #[] = sb [] := rfl
  rw [e0]
  have hno : ∀ {p : Prop}, p → (p → l = [] ∨ 16 < l.length ∨ (1 < l.length ∧ l.head? = some 48) ∨ l.all isD = false) → numV (numF l) = .tuple #[.int .i64 0, .bool false] := fun hp h => by rw [numF, if_pos (h hp)]; rfl
  by_cases h1 : l = []
  · simp [-binV_str, sbEq, h1]
    rw [← h1, hno h1 .inl]
    exact ⟨rfl, Fr.refl _ _⟩
  by_cases h2 : 16 < l.length
  · have h2' : (16 : Int) < l.length := by omega
    simp [-binV_str, sbEq, h1, sb_size, h2']
    rw [hno h2 fun h => .inr (.inl h)]
    exact ⟨rfl, Fr.refl _ _⟩
  have h2' : ¬ (16 : Int) < l.length := by omega
  obtain ⟨c0, r0, rfl⟩ := List.exists_cons_of_ne_nil h1
  have i0 : idxS (.string (sb (c0 :: r0))) (.int .i64 0) = some (by8 c0) := idxSb (l := c0 :: r0) (i := 0) rfl
  have hz : ∀ c : UInt8, ((c.toNat : Int) = 48) ↔ c = 48 := fun c => by
    constructor
    · intro h
      have : c.toNat = (48 : UInt8).toNat := by have : c.toNat = 48 := by omega
                                                rw [this]; rfl
      exact UInt8.toNat_inj.1 this
    · rintro rfl; rfl
  have l1 : (1 : Int) < ((c0 :: r0).length : Int) ↔ 1 < (c0 :: r0).length := by omega
  generalize hL : c0 :: r0 = L at *
  have hsz := sb_size L
  have hh : L.head? = some c0 := by rw [← hL]; rfl
  by_cases h34 : 1 < L.length ∧ c0 = 48
  · have h3' : (1 : Int) < L.length := by omega
    have h4' : (c0.toNat : Int) = 48 := (hz _).2 h34.2
    simp [-binV_str, sbEq, h1, sb_size, h2', h3', i0, by8, h4']
    rw [hno h34.2 fun h => .inr (.inr (.inl ⟨h34.1, by rw [hh, h]⟩))]
    exact ⟨rfl, Fr.refl _ _⟩
  have e : numF L = if L.all isD = true then some (valL L) else none := by
    unfold numF
    by_cases ha : L.all isD = true
    · rw [if_pos ha, if_neg]
      rintro (h | h | ⟨h, h'⟩ | h)
      · exact h1 h
      · exact h2 h
      · rw [hh] at h'; cases h'; exact h34 ⟨h, rfl⟩
      · rw [ha] at h; cases h
    · rw [if_neg ha, if_pos (.inr (.inr (.inr (by simpa using ha))))]
  have hR1 : L.all isD = true → numF L = some (valL L) := fun h => by rw [e, if_pos h]
  have hR0 : ¬ L.all isD = true → numF L = none := fun h => by rw [e, if_neg h]
  generalize numF L = R at *
  have h9 : ((1 : Int) < L.length ∧ ¬ (c0.toNat : Int) = 48) ∨ ¬ (1 : Int) < L.length := by
    by_cases h : 1 < L.length
    · exact .inl ⟨by omega, fun h' => h34 ⟨h, (hz _).1 h'⟩⟩
    · exact .inr (by omega)
  rcases h9 with ⟨h3, h4⟩ | h3
  all_goals
    first
    | simp [-binV_str, sbEq, h1, sb_size, h2', h3, h4, i0, by8]
    | simp [-binV_str, sbEq, h1, sb_size, h2', h3, i0, by8]
    refine Run_sbM fun r w1 hr f1 _ => ?_
    have hlen := hr.1.lenL
    rw [List.length_map] at hlen
    have hlen' : lenL r = some (.int .i64 (L.length : Int)) := hlen
    rw [hlen', Run_bindO_some, Run_bind]
    have hJ := runD_le L
    refine Run_for (runD L).length (fun i L' w' => L' = [.int .i64 ((valL (L.take i) : Nat) : Int), .int .i64 (i : Int)] ∧ w' = w1) ⟨rfl, rfl⟩ ?_ ?_
    · rintro i L' w2 hi ⟨rfl, hw2⟩
      rw [hw2]
      obtain ⟨c, hc, hd⟩ := runD_at L hi
      have hil : (i : Int) < L.length := by omega
      obtain ⟨p, p1, p2⟩ := hr.1.rd1 (i := i) (y := by8 c) (by simp [sb, hc, by8]) .i64
      have hd' := hd
      simp only [isD, decide_eq_true_eq] at hd'
      have d1 : ¬ (c.toNat : Int) < 48 := by omega
      have d2 : ¬ (57 : Int) < c.toNat := by omega
      have hv := valL_snoc (L.take i) c
      rw [← take_snocP hc] at hv
      have hall : (L.take i).all isD = true := by
        have := runD_all L
        rw [← runD_take L] at this
        have e3 : L.take i = (L.take (runD L).length).take i := by rw [List.take_take, Nat.min_eq_left (by omega)]
        rw [e3]
        exact List.all_eq_true.2 fun x hx => List.all_eq_true.1 this x (List.mem_of_mem_take hx)
      have hb := valL_lt _ hall
      have hb2 := pow_le16 (i := (L.take i).length) (by rw [List.length_take]; omega)
      have w1' : IntKind.i64.wrap (10 * ((valL (L.take i) : Nat) : Int)) = ((10 * valL (L.take i) : Nat) : Int) := by
        rw [show 10 * ((valL (L.take i) : Nat) : Int) = ((10 * valL (L.take i) : Nat) : Int) by omega]; exact i64W (by omega)
      have w2' : IntKind.u8.wrap ((c.toNat : Int) - 48) = ((c.toNat - 48 : Nat) : Int) := by
        rw [show (c.toNat : Int) - 48 = ((c.toNat - 48 : Nat) : Int) by omega]; exact u8W (by have := c.toNat_lt; omega)
      have w3' : IntKind.i64.wrap ((c.toNat - 48 : Nat) : Int) = ((c.toNat - 48 : Nat) : Int) := i64W (by have := c.toNat_lt; omega)
      have w4' : IntKind.i64.wrap (((10 * valL (L.take i) : Nat) : Int) + ((c.toNat - 48 : Nat) : Int)) = ((valL (L.take (i + 1)) : Nat) : Int) := by
        rw [show ((10 * valL (L.take i) : Nat) : Int) + ((c.toNat - 48 : Nat) : Int) = ((valL (L.take (i + 1)) : Nat) : Int) by omega]; exact i64W (by have := c.toNat_lt; omega)
      have wi := wrap_succ' (n := i) (by omega)
      have p1' : idxA 1 r (.int .i64 (i : Int)) = some p := p1
      simp only [getL_zero, getL_succ, binV_int, intBin_lss, intBin_gtr, gt_iff_lt, hil, decide_true, Run_bindO_some, Run_condM_true, p1', Run_bind, Run_rdM, p2]
      refine ⟨_, rfl, ?_⟩
      simp only [by8, binV_int, intBin_lss, intBin_gtr, gt_iff_lt, d1, d2, decide_false, Run_bindO_some, Run_bind, Run_guardM_ff, Run_ret, Run_optM_some, pickV_bool, cond_false, Run_condM_false, intBin_mul, w1', intBin_sub, w2', cvtI_int, w3', intBin_add, w4', wi]
      exact ⟨trivial, trivial⟩
    · rintro L' w2 ⟨rfl, hw2⟩
      rw [hw2]
      by_cases hJL : (runD L).length = L.length
      · have hall := runD_full.2 hJL
        have hn : ¬ ((runD L).length : Int) < L.length := by omega
        simp only [getL_zero, getL_succ, binV_int, intBin_lss, hn, decide_false, Run_bindO_some, Run_condM_false, Run_ret, outK_exit]
        show Run (M.ret _) w1 _
        rw [Run_ret, hR1 hall, hJL, List.take_length]
        exact ⟨rfl, f1⟩
      · have hall : ¬ L.all isD = true := fun h => hJL (runD_full.1 h)
        have hil : ((runD L).length : Int) < L.length := by omega
        obtain ⟨c, hc⟩ : ∃ c, L[(runD L).length]? = some c := ⟨_, List.getElem?_eq_getElem (by omega)⟩
        have hd := runD_end L hc
        obtain ⟨p, p1, p2⟩ := hr.1.rd1 (i := (runD L).length) (y := by8 c) (by simp [sb, hc, by8]) .i64
        have p1' : idxA 1 r (.int .i64 ((runD L).length : Int)) = some p := p1
        simp only [isD, decide_eq_false_iff_not] at hd
        simp only [getL_zero, getL_succ, binV_int, intBin_lss, intBin_gtr, gt_iff_lt, hil, decide_true, Run_bindO_some, Run_condM_true, p1', Run_bind, Run_rdM, p2]
        refine ⟨_, rfl, ?_⟩
        rw [hR0 hall]
        by_cases d1 : (c.toNat : Int) < 48
        · simp [by8, d1, numV, f1]
        · have d2 : (57 : Int) < c.toNat := by omega
          simp [by8, d1, d2, numV, f1]
end
end Go.Proofs.YthlpfhjcdedhgaaDoor

/-
  Layer 4 (paper): part L: digits of a sum that are read.
-/
namespace Go.Proofs.YthlpfhjcdedhgaaDoor
open Go.Lift Go.Sort
set_option linter.unusedSimpArgs false
set_option linter.unusedVariables false
set_option maxHeartbeats 4000000
/-- What a digit of sums is worth. -/
def hvN (m : Nat) : Option Nat := if 48 ≤ m ∧ m ≤ 57 then some (m - 48) else if 97 ≤ m ∧ m ≤ 102 then some (m - 87) else none
theorem hvN_lt {m k : Nat} (h : hvN m = some k) : k < 16 := by
  unfold hvN at h
  split at h
  · cases h; omega
  · split at h
    · cases h; omega
    · cases h
def hvV (m : Nat) : Int := match hvN m with
  | some k => k
  | none => -1
/-- The byte that the pair i of digits writes. -/
def pairV (l : List UInt8) (i : Nat) : Option UInt8 := match l[2 * i]?, l[2 * i + 1]? with
  | some a, some b => match hvN a.toNat, hvN b.toNat with
    | some x, some y => some (UInt8.ofNat (16 * x + y))
    | _, _ => none
  | _, _ => none
/-- The bytes of the first n pairs. -/
def pairsF (l : List UInt8) : Nat → Option (List UInt8)
  | 0 => some []
  | n + 1 => match pairsF l n, pairV l n with
    | some r, some c => some (r ++ [c])
    | _, _ => none
theorem pairsF_len {l : List UInt8} : ∀ {n : Nat} {r : List UInt8}, pairsF l n = some r → r.length = n
  | 0, r, h => by cases h; rfl
  | n + 1, r, h => by
    unfold pairsF at h
    split at h
    · rename_i r' c h1 h2
      cases h
      rw [List.length_append, pairsF_len h1]; rfl
    · cases h
theorem pairsF_bad {l : List UInt8} {J : Nat} (hJ : pairV l J = none) : ∀ {n : Nat}, J < n → pairsF l n = none
  | 0, h => absurd h (by omega)
  | n + 1, h => by
    unfold pairsF
    by_cases hn : J = n
    · subst hn; rw [hJ]; split <;> simp_all
    · rw [pairsF_bad hJ (n := n) (by omega)]
/-- How far the pairs are good. -/
theorem pairs_far (l : List UInt8) : ∀ n : Nat, ∃ J, J ≤ n ∧ (∀ i, i ≤ J → ∃ r, pairsF l i = some r) ∧ (J = n ∨ pairV l J = none)
  | 0 => ⟨0, Nat.le_refl _, fun i hi => ⟨[], by obtain rfl : i = 0 := by omega
                                                rfl⟩, .inl rfl⟩
  | n + 1 => by
    obtain ⟨J, h1, h2, h3⟩ := pairs_far l n
    rcases h3 with rfl | h3
    · cases hp : pairV l J with
      | none => exact ⟨J, by omega, h2, .inr hp⟩
      | some c =>
        refine ⟨J + 1, Nat.le_refl _, fun i hi => ?_, .inl rfl⟩
        rcases Nat.lt_or_ge i (J + 1) with h | h
        · exact h2 i (by omega)
        · obtain rfl : i = J + 1 := by omega
          obtain ⟨r, hr⟩ := h2 J (Nat.le_refl _)
          exact ⟨r ++ [c], by unfold pairsF; rw [hr, hp]⟩
    · exact ⟨J, by omega, h2, .inr h3⟩
section
variable {w w1 w2 : World}
theorem digit_run {c : UInt8} : F.digest_digit (by8 c) w = some (.int .i64 (hvV c.toNat), w) := by
  have : Run (F.digest_digit (by8 c)) w fun r w' => r = .int .i64 (hvV c.toNat) ∧ w' = w := by
    unfold F.digest_digit by8 hvV hvN
    have hlt := c.toNat_lt
    by_cases h1 : 48 ≤ c.toNat
    · by_cases h2 : c.toNat ≤ 57
      · have a1 : (48 : Int) ≤ c.toNat := by omega
        have a2 : (c.toNat : Int) ≤ 57 := by omega
        have e1 : IntKind.u8.wrap ((c.toNat : Int) - 48) = ((c.toNat - 48 : Nat) : Int) := by
          rw [show (c.toNat : Int) - 48 = ((c.toNat - 48 : Nat) : Int) by omega]; exact u8W (by omega)
        have e2 : IntKind.i64.wrap ((c.toNat - 48 : Nat) : Int) = ((c.toNat - 48 : Nat) : Int) := i64W (by omega)
        simp [a1, a2, h1, h2, e1, e2]
      · have a1 : (48 : Int) ≤ c.toNat := by omega
        have a2 : ¬ (c.toNat : Int) ≤ 57 := by omega
        by_cases h3 : 97 ≤ c.toNat
        · have a3 : (97 : Int) ≤ c.toNat := by omega
          by_cases h4 : c.toNat ≤ 102
          · have a4 : (c.toNat : Int) ≤ 102 := by omega
            have e1 : IntKind.u8.wrap ((c.toNat : Int) - 97) = ((c.toNat - 97 : Nat) : Int) := by
              rw [show (c.toNat : Int) - 97 = ((c.toNat - 97 : Nat) : Int) by omega]; exact u8W (by omega)
            have e2 : IntKind.i64.wrap ((c.toNat - 97 : Nat) : Int) = ((c.toNat - 97 : Nat) : Int) := i64W (by omega)
            have e3 : IntKind.i64.wrap (((c.toNat - 97 : Nat) : Int) + 10) = ((c.toNat - 87 : Nat) : Int) := by
              rw [show ((c.toNat - 97 : Nat) : Int) + 10 = ((c.toNat - 87 : Nat) : Int) by omega]; exact i64W (by omega)
            simp [a1, a2, a3, a4, h1, h2, h3, h4, e1, e2, e3]
          · have a4 : ¬ (c.toNat : Int) ≤ 102 := by omega
            simp [a1, a2, a3, a4, h1, h2, h3, h4]
        · have a3 : ¬ (97 : Int) ≤ c.toNat := by omega
          simp [a1, a2, a3, h1, h2, h3]
    · have a1 : ¬ (48 : Int) ≤ c.toNat := by omega
      have h3 : ¬ 97 ≤ c.toNat := by omega
      have a3 : ¬ (97 : Int) ≤ c.toNat := by omega
      simp [a1, a3, h1, h3]
  obtain ⟨r, w', e, rfl, rfl⟩ := this
  exact e
theorem OwnB.put {v : Value} {l : List UInt8} (h : OwnB w w1 v l) {i : Nat} {y : UInt8} (hy : l[i]? = some y) (kd : IntKind) :
    ∃ p, idxA 1 v (.int kd (i : Int)) = some p ∧ ld1 p w1 = some (by8 y) ∧ ∀ (β : Type) (b : UInt8) (K : M β) (Q : β → World → Prop), (∀ w2, OwnB w w2 v (l.set i b) → Fr (inB v) w1 w2 → Run K w2 Q) → Run (M.bind (stM 1 p (by8 b)) fun _ => K) w1 Q := by
  obtain ⟨bl, o, e1, hin, hlt, ok, hp⟩ := h.sl.put (i := i) (e := [by8 y]) (by simp [hy]) kd
  obtain ⟨p, p1, p2⟩ := h.sl.1.rd1 (i := i) (y := by8 y) (by simp [hy]) kd
  have e1' : idxA 1 v (.int kd (i : Int)) = some (.pointer (some ⟨bl, o, none⟩)) := e1
  have p1' : idxA 1 v (.int kd (i : Int)) = some p := p1
  rw [e1'] at p1'
  cases p1'
  refine ⟨_, e1', p2, fun β b K Q q => ?_⟩
  rw [Run_bind, Run_stM (by rfl) (by rfl) ok]
  have hs := (hp 0 [by8 b] (by simp)).2
  have hf : Fr (inB v) w1 (sto w1 bl o [by8 b]) := (Fr.refl _ _).sto (.inl hin) _ _
  refine q _ ⟨?_, fun c hc => ?_, ?_⟩ hf
  · rw [List.map_set]; exact hs
  · exact ⟨(h.fresh c hc).1, Nat.lt_of_lt_of_le (h.fresh c hc).2 hf.size⟩
  · exact h.fr.sto (.inr (h.fresh _ hin).1) _ _
theorem shl4 {m : Nat} (h : m < 16) : shV .shl (.int .u8 (m : Int)) (.int .u64 4) = some (.int .u8 ((16 * m : Nat) : Int)) := by
  have h0 : ¬ ((4 : Int) < 0) := by omega
  simp only [shV, h0, if_false]
  have e : (m : Int) * 2 ^ (min (4 : Int).toNat IntKind.u8.bits) = ((16 * m : Nat) : Int) := by
    have : min (4 : Int).toNat IntKind.u8.bits = 4 := by decide
    rw [this]; omega
  rw [e, u8W (by omega)]
theorem or8 {m d : Nat} (h : m < 16) (hd : d < 16) : intBin .or .u8 ((16 * m : Nat) : Int) (d : Int) = some (.int .u8 ((16 * m + d : Nat) : Int)) := by
  simp only [intBin]
  have e : (BitVec.ofInt IntKind.u8.bits ((16 * m : Nat) : Int) ||| BitVec.ofInt IntKind.u8.bits (d : Int)).toNat = 16 * m + d := by
    rw [BitVec.toNat_or, BitVec.ofInt_natCast, BitVec.ofInt_natCast, BitVec.toNat_ofNat, BitVec.toNat_ofNat]
    show 16 * m % 2 ^ 8 ||| d % 2 ^ 8 = _
    rw [Nat.mod_eq_of_lt (show 16 * m < 2 ^ 8 by omega), Nat.mod_eq_of_lt (show d < 2 ^ 8 by omega)]
    have := Nat.two_pow_add_eq_or_of_lt (i := 4) (b := d) (by omega) m
    rw [show (2 : Nat) ^ 4 = 16 from rfl] at this
    exact this.symm
  rw [e, u8W (by omega)]
theorem Run_digit {c : UInt8} {Q : Value → World → Prop} : Run (F.digest_digit (by8 c)) w Q ↔ Q (.int .i64 (hvV c.toNat)) w := by
  constructor
  · rintro ⟨r, w', e, q⟩
    rw [digit_run] at e
    cases e
    exact q
  · exact fun q => ⟨_, _, digit_run, q⟩
/-- What is read of two digits, k of them done. -/
def accP (x y : Nat) : Nat → Nat
  | 0 => 0
  | 1 => x
  | _ => 16 * x + y
theorem lssT {k : IntKind} {a b : Int} (h : a < b) : binV .lss (.int k a) (.int k b) = some (.bool true) := by simp [h]
theorem lssF {k : IntKind} {a b : Int} (h : ¬ a < b) : binV .lss (.int k a) (.int k b) = some (.bool false) := by simp only [binV_int, intBin_lss, h, decide_false]
theorem take2 {l : List UInt8} {i : Nat} {a b : UInt8} (ha : l[2 * i]? = some a) (hb : l[2 * i + 1]? = some b) : (l.take (2 * i + 2)).drop (2 * i) = [a, b] := by
  apply List.ext_getElem?
  intro k
  rw [List.getElem?_drop, List.getElem?_take]
  match k with
  | 0 => simp [ha]
  | 1 => simp [hb]
  | k + 2 => simp; omega
theorem by8_of {m : Nat} (h : m < 256) : by8 (UInt8.ofNat m) = .int .u8 (m : Int) := by
  unfold by8
  rw [show (UInt8.ofNat m).toNat = m from UInt8.toNat_ofNat_of_lt' h]
theorem hvV_some {m k : Nat} (h : hvN m = some k) : hvV m = (k : Int) := by unfold hvV; rw [h]
theorem hvV_none {m : Nat} (h : hvN m = none) : hvV m = -1 := by unfold hvV; rw [h]
noncomputable def pairB (v x14 : Value) (i : Nat) : List Value → M Out := fun l16 =>
  bindO (binV BinOp.lss (getL l16 0) (.int .i64 2)) fun x17 =>
  condM x17 (
    bindO (idxA 1 x14 (getL l16 0)) fun x18 =>
    M.bind (rdM (ld1 x18)) fun x19 =>
    M.bind (F.digest_digit x19) fun x20 =>
    bindO (binV BinOp.lss x20 (Value.int IntKind.i64 0)) fun x21 =>
    condM x21 (
      M.ret (Out.ret (Value.tuple #[(Value.string (sb [])), (Value.int IntKind.i64 20)]))) (
      bindO (idxA 1 v (.int .i64 (i : Int))) fun x22 =>
      M.bind (rdM (ld1 x22)) fun x23 =>
      bindO (shV BinOp.shl x23 (Value.int IntKind.u64 4)) fun x24 =>
      bindO (cvtI IntKind.u8 x20) fun x25 =>
      bindO (binV BinOp.or x24 x25) fun x26 =>
      bindO (idxA 1 v (.int .i64 (i : Int))) fun x27 =>
      M.bind (stM 1 x27 x26) fun _ =>
      bindO (binV BinOp.add (getL l16 0) (Value.int IntKind.i64 1)) fun x29 =>
      M.ret (Out.norm [x29]))) (
    M.ret (Out.exit 2 [(getL l16 0)]))
theorem pair_bad {v x14 : Value} {i k : Nat} (hk : k < 2) {c : UInt8} {els : List (List Value)} (h14 : Sl 1 w1 x14 els) (hc : els[k]? = some [by8 c]) (hb : hvN c.toNat = none) {Q : Out → World → Prop}
    (q : Q (.ret (.tuple #[.string (sb []), .int .i64 20])) w1) : Run (pairB v x14 i [.int .i64 (k : Int)]) w1 Q := by
  unfold pairB
  obtain ⟨p, p1, p2⟩ := h14.rd1 hc .i64
  have p1' : idxA 1 x14 (.int .i64 (k : Int)) = some p := p1
  have hk' : (k : Int) < 2 := by omega
  simp only [getL_zero, binV_int, intBin_lss, hk', decide_true, Run_bindO_some, Run_condM_true, p1', Run_bind, Run_rdM, p2]
  refine ⟨_, rfl, ?_⟩
  rw [Run_digit, hvV_none hb]
  have hn : (-1 : Int) < 0 := by decide
  simp only [binV_int, intBin_lss, hn, decide_true, Run_bindO_some, Run_condM_true, Run_ret]
  exact q
theorem pair_step {v x14 : Value} {i k m d : Nat} (hk : k < 2) {c : UInt8} {els : List (List Value)} (h14 : Sl 1 w1 x14 els) (hc : els[k]? = some [by8 c]) (hb : hvN c.toNat = some d) {r R : List UInt8} (hi : r.length = i) (hm : m < 16)
    (hO : OwnB w w1 v (r ++ UInt8.ofNat m :: R)) (hd : ∀ c, inB x14 c → ¬ inB v c) {Q : Out → World → Prop}
    (q : ∀ w2, OwnB w w2 v (r ++ UInt8.ofNat (16 * m + d) :: R) → Sl 1 w2 x14 els → Q (.norm [.int .i64 ((k + 1 : Nat) : Int)]) w2) : Run (pairB v x14 i [.int .i64 (k : Int)]) w1 Q := by
  unfold pairB
  obtain ⟨p, p1, p2⟩ := h14.rd1 hc .i64
  have p1' : idxA 1 x14 (.int .i64 (k : Int)) = some p := p1
  have hk' : (k : Int) < 2 := by omega
  have hlt := hvN_lt hb
  simp only [getL_zero, binV_int, intBin_lss, hk', decide_true, Run_bindO_some, Run_condM_true, p1', Run_bind, Run_rdM, p2]
  refine ⟨_, rfl, ?_⟩
  rw [Run_digit, hvV_some hb]
  have hn : ¬ (d : Int) < 0 := by omega
  obtain ⟨p3, e1, e2, e3⟩ := hO.put (i := i) (y := UInt8.ofNat m) (by rw [← hi]; simp) .i64
  have wd : IntKind.u8.wrap (d : Int) = d := u8W (by omega)
  have wk := wrap_succ' (n := k) (by omega)
  simp only [binV_int, intBin_lss, hn, decide_false, Run_bindO_some, Run_condM_false, e1, Run_bind, Run_rdM, e2]
  refine ⟨_, rfl, ?_⟩
  rw [by8_of (by omega), shl4 hm, Run_bindO_some, cvtI_int, wd, Run_bindO_some, binV_int, or8 hm hlt, Run_bindO_some, ← by8_of (by omega), Run_bindO_some]
  refine (e3 _ (UInt8.ofNat (16 * m + d)) _ _ fun w2 h2 f2 => ?_)
  rw [intBin_add, wk, Run_bindO_some, Run_ret]
  refine q w2 ?_ (h14.fr f2 hd)
  have : (r ++ UInt8.ofNat m :: R).set i (UInt8.ofNat (16 * m + d)) = r ++ UInt8.ofNat (16 * m + d) :: R := by
    rw [List.set_append_right _ _ (by omega), hi, Nat.sub_self]; rfl
  rwa [this] at h2
theorem pair_end {v x14 : Value} {i : Nat} {Q : Out → World → Prop} (q : Q (.exit 2 [.int .i64 2]) w1) : Run (pairB v x14 i [.int .i64 ((2 : Nat) : Int)]) w1 Q := by
  unfold pairB
  have h : ¬ ((2 : Nat) : Int) < 2 := by omega
  simp only [getL_zero, binV_int, intBin_lss, h, decide_false, Run_bindO_some, Run_condM_false, Run_ret]
  exact q
theorem pair_loop {v x14 : Value} {r R : List UInt8} {i : Nat} (hi : r.length = i) {a b : UInt8} (hO : OwnB w w1 v (r ++ 0 :: R)) (h14 : Sl 1 w1 x14 [[by8 a], [by8 b]]) (hd : ∀ c, inB x14 c → ¬ inB v c) :
    Run (loopM (pairB v x14 i) [.int .i64 0]) w1 fun o w2 => match hvN a.toNat, hvN b.toNat with
      | some x, some y => o = .exit 2 [.int .i64 2] ∧ OwnB w w2 v (r ++ UInt8.ofNat (16 * x + y) :: R)
      | _, _ => o = .ret (.tuple #[.string (sb []), .int .i64 20]) ∧ Fr (fun _ => False) w w2 := by
  have hO0 : OwnB w w1 v (r ++ UInt8.ofNat 0 :: R) := hO
  cases ha : hvN a.toNat with
  | none =>
    refine Run_for 0 (fun k L w' => L = [.int .i64 (k : Int)] ∧ w' = w1) ⟨rfl, rfl⟩ (fun i l w hi => absurd hi (by omega)) ?_
    rintro L w2 ⟨rfl, hw2⟩
    rw [hw2]
    exact pair_bad (k := 0) (by decide) h14 rfl ha ⟨rfl, hO.fr⟩
  | some x =>
    have hx := hvN_lt ha
    cases hb : hvN b.toNat with
    | none =>
      refine Run_for 1 (fun k L w' => L = [.int .i64 (k : Int)] ∧ OwnB w w' v (r ++ UInt8.ofNat (accP x 0 k) :: R) ∧ Sl 1 w' x14 [[by8 a], [by8 b]]) ⟨rfl, hO0, h14⟩ ?_ ?_
      · rintro k L w2 hk ⟨rfl, h1, h2⟩
        obtain rfl : k = 0 := by omega
        refine pair_step (k := 0) (m := 0) (by decide) h2 rfl ha hi (by decide) h1 hd fun w3 h3 h4 => ⟨rfl, ?_, h4⟩
        simpa [accP] using h3
      · rintro L w2 ⟨rfl, h1, h2⟩
        exact pair_bad (k := 1) (by decide) h2 rfl hb ⟨rfl, h1.fr⟩
    | some y =>
      refine Run_for 2 (fun k L w' => L = [.int .i64 (k : Int)] ∧ OwnB w w' v (r ++ UInt8.ofNat (accP x y k) :: R) ∧ Sl 1 w' x14 [[by8 a], [by8 b]]) ⟨rfl, hO0, h14⟩ ?_ ?_
      · rintro k L w2 hk ⟨rfl, h1, h2⟩
        match k, hk with
        | 0, _ =>
          refine pair_step (k := 0) (m := 0) (by decide) h2 rfl ha hi (by decide) h1 hd fun w3 h3 h4 => ⟨rfl, ?_, h4⟩
          simpa [accP] using h3
        | 1, _ =>
          refine pair_step (k := 1) (m := x) (by decide) h2 rfl hb hi hx h1 hd fun w3 h3 h4 => ⟨rfl, ?_, h4⟩
          exact h3
      · rintro L w2 ⟨rfl, h1, h2⟩
        exact pair_end ⟨rfl, h1⟩
theorem unhex_run {l : List UInt8} {n : Nat} (hl : l.length = 2 * n) (hn : n ≤ 1048576) :
    Run (F.digest_Unhex (.string (sb l))) w fun r w' => r = (match pairsF l n with
      | some b => .tuple #[.string (sb b), .int .i64 0]
      | none => .tuple #[.string (sb []), .int .i64 20]) ∧ Fr (fun _ => False) w w' := by
  unfold F.digest_Unhex
  have e0 : ByteArray.mk #[] = sb [] := rfl
  rw [e0]
  have r2 := rem_nat (a := 2 * n) (b := 2) (k := .i64) (by decide)
  have q2 := quo_nat (a := 2 * n) (b := 2) (k := .i64) (by decide) (by rw [Nat.mul_div_cancel_left _ (by decide)]; exact i64W (by omega))
  rw [Nat.mul_mod_right] at r2
  rw [Nat.mul_div_cancel_left _ (by decide)] at q2
  have hs : lenS (.string (sb l)) = some (.int .i64 ((2 * n : Nat) : Int)) := by rw [lenS_string, sb_size, hl]
  have r2' : intBin .rem .i64 ((2 * n : Nat) : Int) 2 = some (.int .i64 0) := r2
  have q2' : intBin .quo .i64 ((2 * n : Nat) : Int) 2 = some (.int .i64 (n : Int)) := q2
  have h01 : ¬ (0 : Int) = 1 := by decide
  rw [hs]
  simp only [Run_bindO_some, binV_int, r2', q2', intBin_eql, h01, decide_false, Run_condM_false, Run_bind]
  refine Run_mksM (k := 1) rfl (Nat.le_refl n) (by omega) (by omega) fun v w1 hv f1 hfr => ?_
  have hO : OwnB w w1 v (List.replicate n 0) := ⟨by simpa [by8] using hv, hfr, f1⟩
  have hlen := hv.1.lenL
  rw [List.length_replicate] at hlen
  rw [hlen, Run_bindO_some, Run_bind]
  obtain ⟨J, hJn, hgood, hbad⟩ := pairs_far l n
  have head : ∀ (i : Nat), i < n → ∀ (w2 : World) {r : List UInt8}, OwnB w w2 v (r ++ List.replicate (n - i) 0) → ∀ {a b : UInt8}, l[2 * i]? = some a → l[2 * i + 1]? = some b → ∀ {β : Type} {K : Value → M β} {Q : β → World → Prop},
      (∀ x14 w3, OwnB w w3 v (r ++ 0 :: List.replicate (n - (i + 1)) 0) → Sl 1 w3 x14 [[by8 a], [by8 b]] → (∀ c, inB x14 c → ¬ inB v c) → Run (K x14) w3 Q) →
      Run (bindO (binV BinOp.mul (Value.int IntKind.i64 2) (.int .i64 (i : Int))) fun x10 =>
        bindO (binV BinOp.mul (Value.int IntKind.i64 2) (.int .i64 (i : Int))) fun x11 =>
        bindO (binV BinOp.add x11 (Value.int IntKind.i64 2)) fun x12 =>
        bindO (sliceS (.string (sb l)) (some x10) (some x12)) fun x13 =>
        M.bind (sbM 5 x13) K) w2 Q := by
    intro i hi w2 r hI a b ha hb β K Q q
    have m2' : IntKind.i64.wrap (2 * (i : Int)) = ((2 * i : Nat) : Int) := by rw [show 2 * (i : Int) = ((2 * i : Nat) : Int) by omega]; exact i64W (by omega)
    have a2' : IntKind.i64.wrap (((2 * i : Nat) : Int) + 2) = ((2 * i + 2 : Nat) : Int) := by rw [show ((2 * i : Nat) : Int) + 2 = ((2 * i + 2 : Nat) : Int) by omega]; exact i64W (by omega)
    have hsl := slBoth (l := l) (n := 2 * i) (m := 2 * i + 2) (by omega) (by omega)
    rw [take2 ha hb] at hsl
    simp only [binV_int, intBin_mul, m2', Run_bindO_some, intBin_add, a2', hsl, Run_bind]
    refine Run_sbM fun x14 w3 h14 f3 hn => q x14 w3 ?_ h14.1 fun c hc hv => ?_
    · have : List.replicate (n - i) (0 : UInt8) = 0 :: List.replicate (n - (i + 1)) 0 := by rw [show n - i = n - (i + 1) + 1 by omega, List.replicate_succ]
      rw [this] at hI
      exact ⟨hI.sl.fr f3 fun _ _ => id, fun c hc => ⟨(hI.fresh c hc).1, Nat.lt_of_lt_of_le (hI.fresh c hc).2 f3.size⟩, hI.fr.trans f3 fun _ _ => id⟩
    · have h1 := (hn c hc).1
      have h2 := (hI.fresh c hv).2
      omega
  refine Run_for J (fun i L w' => L = [.int .i64 (i : Int)] ∧ ∃ r, pairsF l i = some r ∧ OwnB w w' v (r ++ List.replicate (n - i) 0)) ⟨rfl, [], rfl, by simpa using hO⟩ ?_ ?_
  · rintro i L w2 hi ⟨rfl, r, hr, hI⟩
    obtain ⟨r', hr'⟩ := hgood (i + 1) (by omega)
    have hlr := pairsF_len hr
    unfold pairsF at hr'
    rw [hr] at hr'
    cases hp : pairV l i with
    | none => rw [hp] at hr'; simp at hr'
    | some c =>
      have hp2 := hp
      unfold pairV at hp2
      obtain ⟨a, ha⟩ : ∃ a, l[2 * i]? = some a := ⟨_, List.getElem?_eq_getElem (by omega)⟩
      obtain ⟨b, hb⟩ : ∃ b, l[2 * i + 1]? = some b := ⟨_, List.getElem?_eq_getElem (by omega)⟩
      rw [ha, hb] at hp2
      simp only at hp2
      cases hx : hvN a.toNat with
      | none => rw [hx] at hp2; simp at hp2
      | some x =>
        cases hy : hvN b.toNat with
        | none => rw [hx, hy] at hp2; simp at hp2
        | some y =>
          rw [hx, hy] at hp2
          simp only [Option.some.injEq] at hp2
          have hin : (i : Int) < n := by omega
          rw [getL_zero, lssT hin, Run_bindO_some, Run_condM_true]
          refine head i (by omega) w2 hI ha hb fun x14 w3 h3 h14 hd => ?_
          have hl14 : lenL x14 = some (.int .i64 2) := h14.lenL
          rw [hl14, Run_bindO_some, Run_bind]
          refine (pair_loop hlr h3 h14 hd).mono ?_
          rw [hx, hy]
          rintro _ w4 ⟨rfl, h4⟩
          have wi := wrap_succ' (n := i) (by omega)
          simp only [outK_exit]
          show Run (bindO (binV BinOp.add (.int .i64 (i : Int)) (Value.int IntKind.i64 1)) fun x34 => M.ret (Out.norm [x34])) w4 _
          rw [binV_int, intBin_add, wi, Run_bindO_some, Run_ret]
          refine ⟨rfl, r ++ [c], by unfold pairsF; rw [hr, hp], ?_⟩
          rw [hp2] at h4
          rw [List.append_assoc]
          exact h4
  · rintro L w2 ⟨rfl, r, hr, hI⟩
    rcases hbad with rfl | hp
    · have hin : ¬ (J : Int) < (J : Int) := by omega
      rw [getL_zero, lssF hin, Run_bindO_some, Run_condM_false, Run_ret]
      simp only [outK_exit]
      rw [show Nat.beq 0 0 = true from rfl, cond_true, Run_bind, Run_rdM]
      have hz : r ++ List.replicate (J - J) 0 = r := by simp
      rw [hz] at hI
      refine ⟨_, ownB_text hI.sl.1, ?_⟩
      rw [Run_ret, hr]
      exact ⟨rfl, hI.fr⟩
    · rcases Nat.lt_or_ge J n with hlt | hge
      · have hin : (J : Int) < n := by omega
        rw [getL_zero, lssT hin, Run_bindO_some, Run_condM_true]
        obtain ⟨a, ha⟩ : ∃ a, l[2 * J]? = some a := ⟨_, List.getElem?_eq_getElem (by omega)⟩
        obtain ⟨b, hb⟩ : ∃ b, l[2 * J + 1]? = some b := ⟨_, List.getElem?_eq_getElem (by omega)⟩
        refine head J hlt w2 hI ha hb fun x14 w3 h3 h14 hd => ?_
        have hl14 : lenL x14 = some (.int .i64 2) := h14.lenL
        rw [hl14, Run_bindO_some, Run_bind]
        refine (pair_loop (pairsF_len hr) h3 h14 hd).mono ?_
        have hp2 := hp
        unfold pairV at hp2
        rw [ha, hb] at hp2
        simp only at hp2
        rw [pairsF_bad hp hlt]
        cases hx : hvN a.toNat with
        | none =>
          rintro _ w4 ⟨rfl, h4⟩
          simp only [outK_ret, Run_ret]
          exact ⟨trivial, h4⟩
        | some x =>
          cases hy : hvN b.toNat with
          | none =>
            rintro _ w4 ⟨rfl, h4⟩
            simp only [outK_ret, Run_ret]
            exact ⟨trivial, h4⟩
          | some y => rw [hx, hy] at hp2; simp at hp2
      · obtain rfl : J = n := by omega
        have hin : ¬ (J : Int) < (J : Int) := by omega
        rw [getL_zero, lssF hin, Run_bindO_some, Run_condM_false, Run_ret]
        simp only [outK_exit]
        rw [show Nat.beq 0 0 = true from rfl, cond_true, Run_bind, Run_rdM]
        have hz : r ++ List.replicate (J - J) 0 = r := by simp
        rw [hz] at hI
        refine ⟨_, ownB_text hI.sl.1, ?_⟩
        rw [Run_ret, hr]
        exact ⟨rfl, hI.fr⟩
end
end Go.Proofs.YthlpfhjcdedhgaaDoor

/-
  Layer 4 (paper): part M: a sum that is read.
-/
namespace Go.Proofs.YthlpfhjcdedhgaaDoor
open Go.Lift Go.Sort
set_option linter.unusedSimpArgs false
set_option linter.unusedVariables false
set_option maxHeartbeats 4000000
def valB (l : List UInt8) : Nat := l.foldl (fun a c => 256 * a + c.toNat) 0
theorem valB_snoc (l : List UInt8) (c : UInt8) : valB (l ++ [c]) = 256 * valB l + c.toNat := by
  unfold valB
  rw [List.foldl_append]; rfl
theorem valB_foldl : ∀ (l : List UInt8) (a k : Nat), a < 256 ^ k → l.foldl (fun a c => 256 * a + c.toNat) a < 256 ^ (k + l.length)
  | [], a, k, h => h
  | c :: l, a, k, h => by
    have := valB_foldl l (256 * a + c.toNat) (k + 1) (by rw [Nat.pow_succ]; have := c.toNat_lt; omega)
    rw [List.length_cons, show k + (l.length + 1) = k + 1 + l.length by omega]
    exact this
theorem valB_lt (l : List UInt8) : valB l < 256 ^ l.length := by
  have := valB_foldl l 0 0 (by decide)
  rwa [Nat.zero_add] at this
/-- The sum that a text is. -/
def sumF (l : List UInt8) : Option Nat := if l.length = 8 then (pairsF l 4).map valB else none
section
variable {w w1 w2 : World}
theorem shl8 {m : Nat} (h : m < 16777216) : shV .shl (.int .i64 (m : Int)) (.int .u64 8) = some (.int .i64 ((256 * m : Nat) : Int)) := by
  have h0 : ¬ ((8 : Int) < 0) := by omega
  simp only [shV, h0, if_false]
  have e : (m : Int) * 2 ^ (min (8 : Int).toNat IntKind.i64.bits) = ((256 * m : Nat) : Int) := by
    have : min (8 : Int).toNat IntKind.i64.bits = 8 := by decide
    rw [this]; omega
  rw [e, i64W (by omega)]
theorem or64 {m d : Nat} (h : m < 16777216) (hd : d < 256) : intBin .or .i64 ((256 * m : Nat) : Int) (d : Int) = some (.int .i64 ((256 * m + d : Nat) : Int)) := by
  simp only [intBin]
  have e : (BitVec.ofInt IntKind.i64.bits ((256 * m : Nat) : Int) ||| BitVec.ofInt IntKind.i64.bits (d : Int)).toNat = 256 * m + d := by
    rw [BitVec.toNat_or, BitVec.ofInt_natCast, BitVec.ofInt_natCast, BitVec.toNat_ofNat, BitVec.toNat_ofNat]
    show 256 * m % 2 ^ 64 ||| d % 2 ^ 64 = _
    rw [Nat.mod_eq_of_lt (show 256 * m < 2 ^ 64 by omega), Nat.mod_eq_of_lt (show d < 2 ^ 64 by omega)]
    have := Nat.two_pow_add_eq_or_of_lt (i := 8) (b := d) (by omega) m
    rw [show (2 : Nat) ^ 8 = 256 from rfl] at this
    exact this.symm
  rw [e, i64W (by omega)]
theorem punhex_run {l : List UInt8} {n : Nat} (hn : n ≤ 1048576) (hl : l.length ≤ 4611686018427387904) :
    Run (F.paper_unhex (.string (sb l)) (.int .i64 (n : Int))) w fun r w' => r = (match (if l.length = 2 * n then pairsF l n else none) with
      | some b => .tuple #[.string (sb b), .bool true]
      | none => .tuple #[.string (sb []), .bool false]) ∧ Fr (fun _ => False) w w' := by
  unfold F.paper_unhex
  have e0 : ByteArray.mk #[] = sb [] := rfl
  rw [e0]
  have m2' : IntKind.i64.wrap (2 * (n : Int)) = ((2 * n : Nat) : Int) := by rw [show 2 * (n : Int) = ((2 * n : Nat) : Int) by omega]; exact i64W (by omega)
  by_cases h : l.length = 2 * n
  · have h' : ((l.length : Nat) : Int) = ((2 * n : Nat) : Int) := by omega
    rw [if_pos h]
    rw [lenS_string, sb_size]
    simp only [Run_bindO_some, binV_int, intBin_mul, m2', intBin_neq, h', Run_bind]
    simp only [decide_true, Bool.not_true, Run_condM_false, Run_bind]
    refine (unhex_run h hn).mono ?_
    rintro r w1 ⟨rfl, f1⟩
    cases pairsF l n with
    | some b => simp [f1]
    | none => simp [f1]
  · have h' : ¬ ((l.length : Nat) : Int) = ((2 * n : Nat) : Int) := by omega
    rw [if_neg h]
    rw [lenS_string, sb_size]
    simp only [Run_bindO_some, binV_int, intBin_mul, m2', intBin_neq, h', decide_false, Bool.not_false, Run_condM_true, Run_ret]
    exact ⟨trivial, Fr.refl _ _⟩
theorem sumOf_run {l : List UInt8} (hl : l.length ≤ 4611686018427387904) : Run (F.paper_sumOf (.string (sb l))) w fun r w' => r = numV (sumF l) ∧ Fr (fun _ => False) w w' := by
  unfold F.paper_sumOf
  rw [Run_bind]
  refine (punhex_run (n := 4) (by decide) hl).mono ?_
  have key : ∀ (b : List UInt8) (ok : Bool), b.length ≤ 4 → ∀ w1, Fr (fun _ => False) w w1 → Run (M.bind (sbM 5 (.string (sb b))) fun x4 =>
      bindO (lenL x4) fun x5 =>
      M.bind (loopM (fun l6 =>
        bindO (binV BinOp.lss (getL l6 1) x5) fun x7 =>
        condM x7 (
          bindO (idxA 1 x4 (getL l6 1)) fun x8 =>
          M.bind (rdM (ld1 x8)) fun x9 =>
          bindO (shV BinOp.shl (getL l6 0) (Value.int IntKind.u64 8)) fun x10 =>
          bindO (cvtI IntKind.i64 x9) fun x11 =>
          bindO (binV BinOp.or x10 x11) fun x12 =>
          bindO (binV BinOp.add (getL l6 1) (Value.int IntKind.i64 1)) fun x13 =>
          M.ret (Out.norm [x12, x13])) (
          M.ret (Out.exit 0 [(getL l6 0), (getL l6 1)]))) [(Value.int IntKind.i64 0), (Value.int IntKind.i64 0)]) fun o15 =>
      outK o15 (fun _ => M.fail) (fun k16 l14 =>
        bif Nat.beq k16 0 then (
          M.ret (Value.tuple #[(getL l14 0), .bool ok])) else
        M.fail) (fun r17 => M.ret r17)) w1 fun r w' => r = .tuple #[.int .i64 ((valB b : Nat) : Int), .bool ok] ∧ Fr (fun _ => False) w w' := by
    intro b ok hb w1 f1
    rw [Run_bind]
    refine Run_sbM fun r w2 hr f2 _ => ?_
    have hlen := hr.1.lenL
    rw [List.length_map] at hlen
    have hlen' : lenL r = some (.int .i64 (b.length : Int)) := hlen
    rw [hlen', Run_bindO_some, Run_bind]
    refine Run_for b.length (fun i L' w' => L' = [.int .i64 ((valB (b.take i) : Nat) : Int), .int .i64 (i : Int)] ∧ w' = w2) ⟨rfl, rfl⟩ ?_ ?_
    · rintro i L' w3 hi ⟨rfl, hw3⟩
      rw [hw3]
      obtain ⟨c, hc⟩ : ∃ c, b[i]? = some c := ⟨_, List.getElem?_eq_getElem hi⟩
      obtain ⟨p, p1, p2⟩ := hr.1.rd1 (i := i) (y := by8 c) (by simp [sb, hc, by8]) .i64
      have p1' : idxA 1 r (.int .i64 (i : Int)) = some p := p1
      have hv := valB_snoc (b.take i) c
      rw [← take_snocP hc] at hv
      have hlt := valB_lt (b.take i)
      have hp : 256 ^ (b.take i).length ≤ 256 ^ 3 := Nat.pow_le_pow_right (by decide) (by rw [List.length_take]; omega)
      have hil : (i : Int) < b.length := by omega
      have wi := wrap_succ' (n := i) (by omega)
      have hct := c.toNat_lt
      have wc : IntKind.i64.wrap (c.toNat : Int) = c.toNat := i64W (by omega)
      rw [getL_succ, getL_zero, lssT hil, Run_bindO_some, Run_condM_true, p1', Run_bindO_some, Run_bind, Run_rdM]
      refine ⟨_, p2, ?_⟩
      have e16 : (256 : Nat) ^ 3 = 16777216 := by decide
      rw [e16] at hp
      rw [getL_zero, shl8 (by omega), Run_bindO_some]
      simp only [by8, cvtI_int, wc, Run_bindO_some, binV_int, or64 (show valB (b.take i) < 16777216 by omega) hct, intBin_add, wi, Run_ret]
      rw [hv]
      exact ⟨rfl, trivial⟩
    · rintro L' w3 ⟨rfl, hw3⟩
      rw [hw3]
      have hn : ¬ ((b.length : Nat) : Int) < b.length := by omega
      rw [getL_succ, getL_zero, lssF hn, Run_bindO_some, Run_condM_false, Run_ret]
      simp only [outK_exit]
      rw [show Nat.beq 0 0 = true from rfl, cond_true, Run_ret, List.take_length]
      exact ⟨rfl, f1.trans f2 fun _ _ => id⟩
  have e8 : (2 * 4 : Nat) = 8 := rfl
  unfold sumF
  rw [e8]
  by_cases h8 : l.length = 8
  · rw [if_pos h8, if_pos h8]
    cases hp : pairsF l 4 with
    | some b =>
      rintro r w1 ⟨rfl, f1⟩
      have := key b true (by rw [pairsF_len hp]; decide) w1 f1
      simp only [extV_tuple]
      exact this
    | none =>
      rintro r w1 ⟨rfl, f1⟩
      exact key [] false (by decide) w1 f1
  · rw [if_neg h8, if_neg h8]
    rintro r w1 ⟨rfl, f1⟩
    exact key [] false (by decide) w1 f1
end
end Go.Proofs.YthlpfhjcdedhgaaDoor

/-
  Layer 4 (paper): part N: the document's reader: numbers, what must stand.
-/
namespace Go.Proofs.YthlpfhjcdedhgaaDoor
open Go.Lift Go.Sort
set_option linter.unusedSimpArgs false
set_option linter.unusedVariables false
set_option maxHeartbeats 4000000
/-- The digits at a place, seventeen at most. -/
def rdD (l : List UInt8) (p : Nat) : List UInt8 := runD ((l.drop p).take 17)
theorem rdD_len (l : List UInt8) (p : Nat) : (rdD l p).length ≤ 17 ∧ (rdD l p).length ≤ l.length - p := by
  have h1 := runD_le ((l.drop p).take 17)
  rw [List.length_take, List.length_drop] at h1
  unfold rdD
  omega
theorem rdD_at (l : List UInt8) (p : Nat) {i : Nat} (h : i < (rdD l p).length) : ∃ c, l[p + i]? = some c ∧ isD c = true ∧ (rdD l p)[i]? = some c := by
  obtain ⟨c, h1, h2⟩ := runD_at _ h
  have h3 := (rdD_len l p).1
  have h4 : (rdD l p)[i]? = some c := by
    unfold rdD
    rw [← runD_take]
    unfold rdD at h h3
    rw [List.getElem?_take_of_lt h, h1]
  rw [List.getElem?_take_of_lt (by omega), List.getElem?_drop] at h1
  exact ⟨c, h1, h2, h4⟩
theorem rdD_end (l : List UInt8) (p : Nat) (h17 : (rdD l p).length < 17) {c : UInt8} (h : l[p + (rdD l p).length]? = some c) : isD c = false := by
  refine runD_end ((l.drop p).take 17) (c := c) ?_
  unfold rdD at h17 h
  rw [List.getElem?_take_of_lt h17, List.getElem?_drop]
  exact h
section
variable {w w1 w2 : World}
/-- The reader in memory. -/
def RS (w : World) (b : Nat) (l : List UInt8) (p : Nat) (bad : Bool) : Prop := bk w b = some [.string (sb l), .int .i64 (p : Int), .bool bad] ∧ wr w b = true
theorem RS.drew {b p : Nat} {l : List UInt8} {bad : Bool} (h : RS w b l p bad) : RS w.drew b l p bad := h
theorem RS.at {b p : Nat} {l : List UInt8} {bad : Bool} (h : RS w b l p bad) (p' : Nat) : RS (sto w b 1 [.int .i64 (p' : Int)]) b l p' bad := by
  refine ⟨?_, by rw [wr_sto]; exact h.2⟩
  rw [bk_sto_same h.1]
  rfl
theorem RS.bad {b p : Nat} {l : List UInt8} {bad : Bool} (h : RS w b l p bad) : RS (sto w b 2 [.bool true]) b l p true := by
  refine ⟨?_, by rw [wr_sto]; exact h.2⟩
  rw [bk_sto_same h.1]
  rfl
theorem rnum_run {b p : Nat} {l : List UInt8} {bad : Bool} (h : RS w b l p bad) (hp : p ≤ l.length) (hl : l.length ≤ 4611686018427387904) :
    Run (F.granaryref4_Reader_number (.pointer (some ⟨b, 0, none⟩))) w fun r w' => r = .int .i64 (((numF (rdD l p)).getD 0 : Nat) : Int) ∧ RS w' b l (p + (rdD l p).length) (bad || (numF (rdD l p)).isNone) ∧ Fr (fun c => c = b) w w' := by
  unfold F.granaryref4_Reader_number
  obtain ⟨hb, hw⟩ := h
  have hd := rdD_len l p
  simp [-ldA_ptr, hb]
  refine Run_for (rdD l p).length (fun i L w' => L = [.int .i64 ((valL ((rdD l p).take i) : Nat) : Int)] ∧ RS w' b l (p + i) bad ∧ Fr (fun c => c = b) w w') ⟨rfl, ⟨hb, hw⟩, Fr.refl _ _⟩ ?_ ?_
  · rintro i L w1 hi ⟨rfl, ⟨hb1, hw1⟩, f1⟩
    obtain ⟨c, hc, hdg, hci⟩ := rdD_at l p hi
    have hpi : p + i < l.length := by omega
    simp only [isD, decide_eq_true_eq] at hdg
    have h1 : ((p + i : Nat) : Int) < l.length := by omega
    have w1' : IntKind.i64.wrap (((p + i : Nat) : Int) - p) = (i : Int) := by rw [show ((p + i : Nat) : Int) - p = (i : Int) by omega]; exact i64W (by omega)
    have h2 : (i : Int) < 17 := by omega
    have ix := idxSb (kd := .i64) hc
    have h3 : (48 : Int) ≤ c.toNat := by omega
    have h4 : (c.toNat : Int) ≤ 57 := by omega
    have hlen : (sb l).size = l.length := sb_size l
    have hv := valL_snoc ((rdD l p).take i) c
    rw [← take_snocP hci] at hv
    have hall : ((rdD l p).take i).all isD = true := List.all_eq_true.2 fun x hx => List.all_eq_true.1 (runD_all _) x (List.mem_of_mem_take hx)
    have hlt := valL_lt _ hall
    have h17 : 10 ^ ((rdD l p).take i).length ≤ 10 ^ 17 := Nat.pow_le_pow_right (by decide) (by rw [List.length_take]; omega)
    have e17 : (10 : Nat) ^ 17 = 100000000000000000 := by decide
    rw [e17] at h17
    have hct := c.toNat_lt
    generalize valL ((rdD l p).take i) = V at *
    generalize valL ((rdD l p).take (i + 1)) = V' at *
    have wq := wrap_succ' (n := p + i) (by omega)
    rw [show p + (i + 1) = p + i + 1 by omega]
    generalize p + i = q at *
    have w2' : IntKind.i64.wrap (10 * (V : Int)) = ((10 * V : Nat) : Int) := by rw [show 10 * (V : Int) = ((10 * V : Nat) : Int) by omega]; exact i64W (by omega)
    have w3' : IntKind.u8.wrap ((c.toNat : Int) - 48) = ((c.toNat - 48 : Nat) : Int) := by rw [show (c.toNat : Int) - 48 = ((c.toNat - 48 : Nat) : Int) by omega]; exact u8W (by omega)
    have w4' : IntKind.i64.wrap ((c.toNat - 48 : Nat) : Int) = ((c.toNat - 48 : Nat) : Int) := i64W (by omega)
    have w5' : IntKind.i64.wrap (((10 * V : Nat) : Int) + ((c.toNat - 48 : Nat) : Int)) = (V' : Int) := by rw [show ((10 * V : Nat) : Int) + ((c.toNat - 48 : Nat) : Int) = (V' : Int) by omega]; exact i64W (by omega)
    simp [-ldA_ptr, -Int.natCast_mul, hb1, hlen, h1, w1', h2, ix, by8, h3, h4, w2', w3', w4', w5', wq, hw1]
    have hR : RS w1.drew.drew b l q bad := ⟨hb1, hw1⟩
    exact ⟨hR.at (q + 1), (f1.drew.drew).sto (.inl rfl) _ _⟩
  · rintro L w1 ⟨rfl, ⟨hb1, hw1⟩, f1⟩
    have hlen : (sb l).size = l.length := sb_size l
    have hJ : (rdD l p).length ≤ 17 := hd.1
    have hJ2 : p + (rdD l p).length ≤ l.length := by omega
    have wJ : IntKind.i64.wrap (((p + (rdD l p).length : Nat) : Int) - p) = ((rdD l p).length : Int) := by rw [show ((p + (rdD l p).length : Nat) : Int) - p = ((rdD l p).length : Int) by omega]; exact i64W (by omega)
    have hR : RS w1.drew b l (p + (rdD l p).length) bad := ⟨hb1, hw1⟩
    have htk : (rdD l p).take (rdD l p).length = rdD l p := List.take_length
    refine Run.mono (Q := fun o w' => o = .exit 0 [.int .i64 ((valL (rdD l p) : Nat) : Int)] ∧ RS w' b l (p + (rdD l p).length) bad ∧ Fr (fun c => c = b) w w') ?_ ?_
    · rw [htk]
      by_cases e1 : p + (rdD l p).length < l.length
      · by_cases e2 : (rdD l p).length < 17
        · obtain ⟨c, hc⟩ : ∃ c, l[p + (rdD l p).length]? = some c := ⟨_, List.getElem?_eq_getElem e1⟩
          have hng := rdD_end l p e2 hc
          simp only [isD, decide_eq_false_iff_not] at hng
          have ix := idxSb (kd := .i64) hc
          have h1 : ((p + (rdD l p).length : Nat) : Int) < l.length := by omega
          have h2 : ((rdD l p).length : Int) < 17 := by omega
          generalize p + (rdD l p).length = q at *
          by_cases e3 : 48 ≤ c.toNat
          · have h3 : (48 : Int) ≤ c.toNat := by omega
            have h4 : ¬ (c.toNat : Int) ≤ 57 := by omega
            simp [-ldA_ptr, hb1, hlen, h1, wJ, h2, ix, by8, h3, h4, hR, f1.drew]
          · have h3 : ¬ (48 : Int) ≤ c.toNat := by omega
            simp [-ldA_ptr, hb1, hlen, h1, wJ, h2, ix, by8, h3, hR, f1.drew]
        · have h1 : ((p + (rdD l p).length : Nat) : Int) < l.length := by omega
          have h2 : ¬ ((rdD l p).length : Int) < 17 := by omega
          generalize p + (rdD l p).length = q at *
          simp [-ldA_ptr, hb1, hlen, h1, wJ, h2, hR, f1.drew]
      · have h1 : ¬ ((p + (rdD l p).length : Nat) : Int) < l.length := by omega
        generalize p + (rdD l p).length = q at *
        simp [-ldA_ptr, hb1, hlen, h1, wJ, hR, f1.drew]
    · rintro _ w2 ⟨rfl, hR2, f2⟩
      clear hR hw1 hb1 f1
      obtain ⟨hb2, hw2⟩ := hR2
      have hR2 : RS w2 b l (p + (rdD l p).length) bad := ⟨hb2, hw2⟩
      have hdall : (rdD l p).all isD = true := runD_all _
      have hbadR := hR2.bad
      have hbadF : Fr (fun c => c = b) w (sto w2 b 2 [.bool true]) := f2.sto (.inl rfl) _ _
      by_cases c1 : (rdD l p).length < 1
      · have hnum : numF (rdD l p) = none := by
          unfold numF
          rw [if_pos (.inl (List.eq_nil_of_length_eq_zero (by omega)))]
        have h1 : ((rdD l p).length : Int) < 1 := by omega
        rw [hnum]
        generalize p + (rdD l p).length = q at *
        simp [-ldA_ptr, hb2, wJ, h1, hw2]
        exact ⟨hbadR, hbadF⟩
      by_cases c2 : 16 < (rdD l p).length
      · have hnum : numF (rdD l p) = none := by
          unfold numF
          rw [if_pos (.inr (.inl c2))]
        have h1 : ¬ ((rdD l p).length : Int) < 1 := by omega
        have h2 : (16 : Int) < (rdD l p).length := by omega
        rw [hnum]
        generalize p + (rdD l p).length = q at *
        simp [-ldA_ptr, hb2, wJ, h1, h2, hw2]
        exact ⟨hbadR, hbadF⟩
      obtain ⟨c, hc, _, hc0⟩ := rdD_at l p (i := 0) (by omega)
      have ix := idxSb (kd := .i64) (i := p) hc
      have hh : (rdD l p).head? = some c := by rw [List.head?_eq_getElem?]; exact hc0
      have h1 : ¬ ((rdD l p).length : Int) < 1 := by omega
      have h2 : ¬ (16 : Int) < (rdD l p).length := by omega
      have hz : ((c.toNat : Int) = 48) ↔ c = 48 := by
        constructor
        · intro h
          have : c.toNat = (48 : UInt8).toNat := by have : c.toNat = 48 := by omega
                                                    rw [this]; rfl
          exact UInt8.toNat_inj.1 this
        · rintro rfl; rfl
      have hgood : ¬ (1 < (rdD l p).length ∧ c = 48) → numF (rdD l p) = some (valL (rdD l p)) := by
        intro hn
        unfold numF
        rw [if_neg]
        rintro (h | h | ⟨h, h'⟩ | h)
        · rw [h] at c1; simp at c1
        · exact c2 h
        · rw [hh] at h'; cases h'; exact hn ⟨h, rfl⟩
        · rw [hdall] at h; cases h
      by_cases c3 : 1 < (rdD l p).length
      · have h3 : (1 : Int) < (rdD l p).length := by omega
        by_cases c4 : c = 48
        · have hnum : numF (rdD l p) = none := by
            unfold numF
            rw [if_pos (.inr (.inr (.inl ⟨c3, by rw [hh, c4]⟩)))]
          have h4 := hz.2 c4
          rw [hnum]
          generalize p + (rdD l p).length = q at *
          simp [-ldA_ptr, hb2, wJ, h1, h2, h3, hw2, ix, by8, h4]
          exact ⟨hbadR, hbadF⟩
        · have h4 : ¬ (c.toNat : Int) = 48 := fun h => c4 (hz.1 h)
          rw [hgood fun h => c4 h.2]
          generalize p + (rdD l p).length = q at *
          simp [-ldA_ptr, hb2, wJ, h1, h2, h3, hw2, ix, by8, h4, hR2, f2]
      · have h3 : ¬ (1 : Int) < (rdD l p).length := by omega
        rw [hgood fun h => c3 h.1]
        generalize p + (rdD l p).length = q at *
        simp [-ldA_ptr, hb2, wJ, h1, h2, h3, hw2, hR2, f2]
end
end Go.Proofs.YthlpfhjcdedhgaaDoor

/-
  Layer 4 (paper): part O: the document's reader: what must stand, sums.
-/
namespace Go.Proofs.YthlpfhjcdedhgaaDoor
open Go.Lift Go.Sort
set_option linter.unusedSimpArgs false
set_option linter.unusedVariables false
set_option maxHeartbeats 4000000
section
variable {w w1 w2 : World}
theorem prefix_take {p l : List UInt8} (h : p.length ≤ l.length) : p <+: l ↔ l.take p.length = p := by
  rw [List.prefix_iff_eq_take]
  exact eq_comm
/-- What stood: the place is behind it; or the reader is bad. -/
structure LitP (w w' : World) (b : Nat) (l : List UInt8) (p : Nat) (q : List UInt8) (bad : Bool) : Prop where
  rs : ∃ p', RS w' b l p' (bad || !decide (q <+: l.drop p)) ∧ p' ≤ l.length ∧ (bad = false → q <+: l.drop p → p' = p + q.length)
  fr : Fr (fun c => c = b) w w'
theorem rlit_run {b p : Nat} {l q : List UInt8} {bad : Bool} (h : RS w b l p bad) (hp : p ≤ l.length) (hl : l.length ≤ 4611686018427387904) (hq : q.length ≤ 4611686018427387904) :
    Run (F.granaryref4_Reader_lit (.pointer (some ⟨b, 0, none⟩)) (.string (sb q))) w fun _ w' => LitP w w' b l p q bad := by
  unfold F.granaryref4_Reader_lit
  obtain ⟨hb, hw⟩ := h
  have hR : RS w.drew b l p bad := ⟨hb, hw⟩
  have f0 : Fr (fun c => c = b) w w.drew := (Fr.refl _ _).drew
  have hlen : (sb l).size = l.length := sb_size l
  have hlq : (sb q).size = q.length := sb_size q
  have hbadR := hR.bad
  have hbadF : Fr (fun c => c = b) w (sto w.drew b 2 [.bool true]) := f0.sto (.inl rfl) _ _
  have bdone : ¬ (bad = false ∧ q <+: l.drop p) → LitP w (sto w.drew b 2 [.bool true]) b l p q bad := fun hn => by
    refine ⟨⟨p, ?_, hp, fun h1 h2 => absurd ⟨h1, h2⟩ hn⟩, hbadF⟩
    have e : (bad || !decide (q <+: l.drop p)) = true := by
      cases bad with
      | true => rfl
      | false => simp; exact fun h => hn ⟨rfl, h⟩
    rw [e]; exact hbadR
  by_cases c1 : bad = true
  · subst c1
    simp [-ldA_ptr, hb, hw]
    exact bdone fun h => Bool.noConfusion h.1
  have c1' : bad = false := by simpa using c1
  have ws : IntKind.i64.wrap ((l.length : Int) - p) = ((l.length - p : Nat) : Int) := by rw [show (l.length : Int) - p = ((l.length - p : Nat) : Int) by omega]; exact i64W (by omega)
  by_cases c2 : l.length - p < q.length
  · have h2 : ((l.length - p : Nat) : Int) < q.length := by omega
    rw [c1'] at hb
    simp [-ldA_ptr, hb, hw, hlen, hlq, ws, h2]
    refine bdone fun h => ?_
    have := h.2.length_le
    rw [List.length_drop] at this
    omega
  have h2 : ¬ ((l.length - p : Nat) : Int) < q.length := by omega
  have wa : IntKind.i64.wrap ((p : Int) + q.length) = ((p + q.length : Nat) : Int) := by rw [show (p : Int) + q.length = ((p + q.length : Nat) : Int) by omega]; exact i64W (by omega)
  have hsl := slBoth (l := l) (n := p) (m := p + q.length) (by omega) (by omega)
  have htk : (l.take (p + q.length)).drop p = (l.drop p).take q.length := by
    rw [List.drop_take, Nat.add_sub_cancel_left]
  rw [htk] at hsl
  have hpre := prefix_take (p := q) (l := l.drop p) (by rw [List.length_drop]; omega)
  have hb0 := hb
  rw [c1'] at hb
  have he : p + q.length ≤ l.length := by omega
  generalize he0 : p + q.length = e at *
  by_cases c3 : (l.drop p).take q.length = q
  · simp [-ldA_ptr, -binV_str, sbNe, hb, hw, hlen, hlq, ws, h2, wa, hsl, c3]
    have e2 : (bad || !decide (q <+: l.drop p)) = bad := by simp [hpre.2 c3]
    exact ⟨⟨e, by rw [e2]; exact hR.at _, he, fun _ _ => he0.symm⟩, f0.sto (.inl rfl) _ _⟩
  · simp [-ldA_ptr, -binV_str, sbNe, hb, hw, hlen, hlq, ws, h2, wa, hsl, c3]
    exact bdone fun h => c3 (hpre.1 h.2)
theorem hexd_hv : ∀ m : Fin 256, ∀ i : Fin 16, ((hexd i.val).toNat = m.val ↔ hvN m.val = some i.val) := by decide +kernel
theorem half_run (c : UInt8) : Run (F.granaryref4_half (by8 c)) w fun r w' => r = .int .i64 (hvV c.toNat) ∧ w' = w := by
  unfold F.granaryref4_half
  have eD : ByteArray.mk #[48, 49, 50, 51, 52, 53, 54, 55, 56, 57, 97, 98, 99, 100, 101, 102] = DIG := rfl
  rw [eD, Run_bind]
  have key : ∀ i, i < 16 → ((hexd i).toNat = c.toNat ↔ hvN c.toNat = some i) := fun i hi => hexd_hv ⟨c.toNat, c.toNat_lt⟩ ⟨i, hi⟩
  have eq8 : ∀ i, i < 16 → binV .eql (by8 (hexd i)) (by8 c) = some (.bool (decide (hvN c.toNat = some i))) := fun i hi => by
    unfold by8
    rw [binV_int, intBin_eql]
    have : ((hexd i).toNat : Int) = c.toNat ↔ hvN c.toNat = some i := by rw [← key i hi]; omega
    simp only [this]
  obtain ⟨J, hJ, hlt, hend⟩ : ∃ J, J ≤ 16 ∧ (∀ i, i < J → hvN c.toNat ≠ some i) ∧ (J < 16 ∧ hvN c.toNat = some J ∨ J = 16 ∧ hvN c.toNat = none) := by
    cases h : hvN c.toNat with
    | none => exact ⟨16, Nat.le_refl _, fun i _ => by simp, .inr ⟨rfl, rfl⟩⟩
    | some k => exact ⟨k, Nat.le_of_lt (hvN_lt h), fun i hi he => by cases he; omega, .inl ⟨hvN_lt h, rfl⟩⟩
  refine Run_for J (fun i L w' => L = [.int .i64 (i : Int)] ∧ w' = w) ⟨rfl, rfl⟩ ?_ ?_
  · rintro i L w1 hi ⟨rfl, hw⟩
    rw [hw]
    have h1 : (i : Int) < 16 := by omega
    have wi := wrap_succ' (n := i) (by omega)
    rw [getL_zero, lssT h1, Run_bindO_some, Run_condM_true, idx_DIG (show i < 16 by omega), Run_bindO_some, eq8 i (by omega), Run_bindO_some, decide_eq_false (hlt i hi), Run_condM_false, binV_int, intBin_add, wi, Run_bindO_some, Run_ret]
    exact ⟨rfl, rfl⟩
  · rintro L w1 ⟨rfl, hw⟩
    rw [hw]
    rcases hend with ⟨h16, he⟩ | ⟨h16, he⟩
    · have h1 : (J : Int) < 16 := by omega
      rw [getL_zero, lssT h1, Run_bindO_some, Run_condM_true, idx_DIG h16, Run_bindO_some, eq8 J h16, Run_bindO_some, decide_eq_true he, Run_condM_true, Run_ret]
      simp only [outK_ret, Run_ret, hvV_some he]
      exact ⟨trivial, trivial⟩
    · have h1 : ¬ (J : Int) < 16 := by omega
      rw [getL_zero, lssF h1, Run_bindO_some, Run_condM_false, Run_ret]
      simp only [outK_exit]
      rw [show Nat.beq 0 0 = true from rfl, cond_true, Run_ret, hvV_none he]
      exact ⟨rfl, rfl⟩
end
end Go.Proofs.YthlpfhjcdedhgaaDoor

/-
  Layer 4 (paper): part P: the document's reader: bytes, sums.
-/
namespace Go.Proofs.YthlpfhjcdedhgaaDoor
open Go.Lift Go.Sort
set_option linter.unusedSimpArgs false
set_option linter.unusedVariables false
set_option maxHeartbeats 4000000
section
variable {w w1 w2 : World}
/-- A row of bytes of one's own, beside blocks that change. -/
structure OwnF (F : Nat → Prop) (w w1 : World) (v : Value) (l : List UInt8) : Prop where
  sl : SlW 1 w1 v (l.map fun b => [by8 b])
  fresh : ∀ c, inB v c → w.heap.size ≤ c ∧ c < w1.heap.size
  fr : Fr F w w1
theorem ownF_app {F : Nat → Prop} {v : Value} {l : List UInt8} (h : OwnF F w w1 v l) (b : UInt8) {a1 a2 : Nat} (hl : l.length ≤ 33554432) {K : Value → World → Prop} (q : ∀ r w2, OwnF F w w2 r (l ++ [b]) → Fr (inB v) w1 w2 → K r w2) :
    Run (bslM a1 1 (Builtin.zeroCells #[(Value.int IntKind.u8 0)] 1) [(0, 1, by8 b)]) w1 fun a w2 => Run (appM a2 1 1 #[(Value.int IntKind.u8 0)] v a) w2 fun r w' => K r w' := by
  refine Run_app1 (K := fun _ r w' => K r w') (k := 1) (y := by8 b) rfl h.sl (by decide) rfl (by decide) rfl (by simp only [List.length_map]; omega) fun r w2 hr f2 hin w3 f3 => q r w2 ?_ f2
  have s := f2.size
  refine ⟨by simpa [by8] using hr, fun c hc => ?_, h.fr.trans f2 fun c hc hv => ?_⟩
  · have s0 := h.fr.size
    rcases hin c hc with hc | hc
    · have := h.fresh c hc; omega
    · omega
  · have := (h.fresh c hv).1; omega
theorem drop_at {l : List UInt8} {p k : Nat} : (l.drop p)[k]? = l[p + k]? := List.getElem?_drop
theorem RS.blk {b p : Nat} {l : List UInt8} {bad : Bool} (h : RS w b l p bad) : bk w b = some [.string (sb l), .int .i64 (p : Int), .bool bad] := h.1
/-- What n pairs of digits are read as. -/
structure ByP (w w' : World) (b : Nat) (l : List UInt8) (p n : Nat) (bad : Bool) (r : Value) : Prop where
  val : r = .string (sb ((if bad then none else pairsF (l.drop p) n).getD []))
  rs : ∃ p', RS w' b l p' (if bad then none else pairsF (l.drop p) n).isNone ∧ p' ≤ l.length ∧ ((if bad then none else pairsF (l.drop p) n).isSome = true → p' = p + 2 * n)
  fr : Fr (fun c => c = b) w w'
theorem rbytes_run {b p n : Nat} {l : List UInt8} {bad : Bool} (h : RS w b l p bad) (hp : p ≤ l.length) (hl : l.length ≤ 4611686018427387904) (h0 : 0 < n) (hn : n ≤ 1048576) :
    Run (F.granaryref4_Reader_bytes (.pointer (some ⟨b, 0, none⟩)) (.int .i64 (n : Int))) w fun r w' => ByP w w' b l p n bad r := by
  unfold F.granaryref4_Reader_bytes
  have e0 : ByteArray.mk #[] = sb [] := rfl
  have hlen : (sb l).size = l.length := sb_size l
  rw [e0, Run_bind]
  cases bad with
  | true =>
    refine Run_for 0 (fun i L w' => L = [.slice none 0 0, .int .i64 (i : Int)] ∧ w' = w) ⟨rfl, rfl⟩ (fun i l w hi => absurd hi (by omega)) ?_
    rintro L w1 ⟨rfl, hw1⟩
    rw [hw1]
    obtain ⟨hb, hw⟩ := h
    have hR : RS w.drew b l p true := ⟨hb, hw⟩
    have h0' : (0 : Int) < n := by omega
    simp [-ldA_ptr, hb, hw, h0', h0]
    exact ⟨rfl, ⟨p, hR.bad, hp, fun h => by cases h⟩, (show Fr (fun c => c = b) w w.drew from (Fr.refl _ _).drew).sto (.inl rfl) _ _⟩
  | false =>
    obtain ⟨J, hJn, hgood, hbad⟩ := pairs_far (l.drop p) n
    refine Run_for J (fun i L w' => ∃ v r, L = [v, .int .i64 (i : Int)] ∧ pairsF (l.drop p) i = some r ∧ OwnF (fun c => c = b) w w' v r ∧ RS w' b l (p + 2 * i) false ∧ p + 2 * i ≤ l.length) ⟨_, [], rfl, rfl, ⟨SlW.nil _ _, fun _ h => h.elim, Fr.refl _ _⟩, h, hp⟩ ?_ ?_
    · rintro i L w1 hi ⟨v, r, rfl, hr, hO, ⟨hb1, hw1⟩, hle⟩
      obtain ⟨r', hr'⟩ := hgood (i + 1) (by omega)
      have hr2 := hr'
      unfold pairsF at hr'
      rw [hr] at hr'
      cases hpv : pairV (l.drop p) i with
      | none => rw [hpv] at hr'; simp at hr'
      | some c =>
        rw [hpv] at hr'
        simp only [Option.some.injEq] at hr'
        subst hr'
        have hlr := pairsF_len hr
        unfold pairV at hpv
        rw [drop_at, drop_at] at hpv
        cases ha : l[p + 2 * i]? with
        | none => rw [ha] at hpv; simp at hpv
        | some a =>
          cases hb' : l[p + (2 * i + 1)]? with
          | none => rw [ha, hb'] at hpv; simp at hpv
          | some b' =>
            rw [ha, hb'] at hpv
            simp only at hpv
            cases hx : hvN a.toNat with
            | none => rw [hx] at hpv; simp at hpv
            | some x =>
              cases hy : hvN b'.toNat with
              | none => rw [hx, hy] at hpv; simp at hpv
              | some y =>
                rw [hx, hy] at hpv
                simp only [Option.some.injEq] at hpv
                have hlt2 : p + (2 * i + 1) < l.length := (List.getElem?_eq_some_iff.1 hb').1
                have hx16 := hvN_lt hx
                have hy16 := hvN_lt hy
                have i1 := idxSb (kd := .i64) ha
                have i2 := idxSb (kd := .i64) hb'
                rw [show p + (2 * i + 1) = p + 2 * i + 1 by omega] at i2 hlt2
                have e2 : p + 2 * (i + 1) = p + 2 * i + 2 := by omega
                rw [e2]
                have hin : (i : Int) < n := by omega
                have hin' : i < n := by omega
                have wi := wrap_succ' (n := i) (by omega)
                generalize p + 2 * i = Q at *
                have hR1 : RS w1 b l Q false := ⟨hb1, hw1⟩
                have wl : IntKind.i64.wrap ((l.length : Int) - Q) = ((l.length - Q : Nat) : Int) := by rw [show (l.length : Int) - Q = ((l.length - Q : Nat) : Int) by omega]; exact i64W (by omega)
                have hl2 : ¬ ((l.length - Q : Nat) : Int) < 2 := by omega
                have wq := wrap_succ' (n := Q) (by omega)
                have wq2 : IntKind.i64.wrap ((Q : Int) + 2) = ((Q + 2 : Nat) : Int) := by rw [show (Q : Int) + 2 = ((Q + 2 : Nat) : Int) by omega]; exact i64W (by omega)
                simp [-ldA_ptr, hb1, hin, hin', hlen, wl, hl2, i1, -Int.natCast_add]
                refine (half_run a).mono ?_
                rintro _ w2 ⟨rfl, hw2⟩
                rw [hw2, hvV_some hx]
                have nx : ¬ (x : Int) < 0 := by omega
                have ny : ¬ (y : Int) < 0 := by omega
                have m16 : IntKind.i64.wrap (16 * (x : Int)) = ((16 * x : Nat) : Int) := by rw [show 16 * (x : Int) = ((16 * x : Nat) : Int) by omega]; exact i64W (by omega)
                have a16 : IntKind.i64.wrap (((16 * x : Nat) : Int) + y) = ((16 * x + y : Nat) : Int) := by rw [show ((16 * x : Nat) : Int) + y = ((16 * x + y : Nat) : Int) by omega]; exact i64W (by omega)
                have c16 : IntKind.u8.wrap ((16 * x + y : Nat) : Int) = ((16 * x + y : Nat) : Int) := u8W (by omega)
                have hby := by8_of (m := 16 * x + y) (by omega)
                rw [hpv] at hby
                simp [-ldA_ptr, hb1, wq, i2, -Int.natCast_add]
                refine (half_run b').mono ?_
                rintro _ w3 ⟨rfl, hw3⟩
                rw [hw3, hvV_some hy]
                simp [-ldA_ptr, nx, ny, m16, a16, c16, -Int.natCast_add, -Int.natCast_mul]
                rw [← hby]
                have hO2 : OwnF (fun c => c = b) w w1.drew.drew.drew v r := ⟨hO.sl, hO.fresh, hO.fr.drew.drew.drew⟩
                refine ownF_app hO2 c (by omega) fun r2 w4 h4 f4 => ?_
                have hbf : ¬ inB v b := fun hv => by
                  have h1 := (hO.fresh b hv).1
                  have h2 := bk_lt (RS.blk h)
                  omega
                have hb4 : bk w4 b = some [.string (sb l), .int .i64 (Q : Int), .bool false] := f4.bk_some (w := w1.drew.drew.drew) hb1 hbf
                have hw4 : wr w4 b = true := by
                  rw [f4.wr (w := w1.drew.drew.drew) (bk_lt hb1) hbf]; exact hw1
                have hR4 : RS w4 b l Q false := ⟨hb4, hw4⟩
                simp [-ldA_ptr, hb4, hw4, wq2, wi, -Int.natCast_add]
                have f5 : Fr (fun c => c = b) w4 (sto w4 b 1 [.int .i64 ((Q + 2 : Nat) : Int)]) := (show Fr (fun c => c = b) w4 w4 from Fr.refl _ _).sto (.inl rfl) _ _
                refine ⟨r ++ [c], hr2, ⟨h4.sl.fr f5 fun c hc he => ?_, fun c hc => ⟨(h4.fresh c hc).1, Nat.lt_of_lt_of_le (h4.fresh c hc).2 f5.size⟩, h4.fr.trans f5 fun _ _ h => h⟩, hR4.at _, by omega⟩
                subst he
                have h1 := (h4.fresh _ hc).1
                have h2 := bk_lt (RS.blk h)
                omega
    · rintro L w1 ⟨v, r, rfl, hr, hO, ⟨hb1, hw1⟩, hle⟩
      by_cases hJ : J = n
      · subst hJ
        have hin : ¬ (J : Int) < (J : Int) := by omega
        have hR1 : RS w1 b l (p + 2 * J) false := ⟨hb1, hw1⟩
        have ht := ownB_text hO.sl.1
        rw [getL_succ, getL_zero, lssF hin, Run_bindO_some, Run_condM_false, Run_ret]
        simp only [outK_exit, getL_zero]
        rw [show Nat.beq 0 0 = true from rfl, cond_true, Run_bind, Run_rdM]
        refine ⟨_, ht, ?_⟩
        rw [Run_ret]
        refine ⟨by simp only [Bool.false_eq_true, if_false, hr, Option.getD_some]; rfl, ⟨p + 2 * J, ?_, hle, fun _ => rfl⟩, hO.fr⟩
        simp only [Bool.false_eq_true, if_false, hr, Option.isNone_some]
        exact hR1
      · have hpv : pairV (l.drop p) J = none := hbad.resolve_left hJ
        have hlt : J < n := by omega
        have hnone := pairsF_bad hpv hlt
        have hin : (J : Int) < n := by omega
        have byp : ∀ w2, RS w2 b l (p + 2 * J) false → Fr (fun c => c = b) w w2 → ByP w (sto w2 b 2 [.bool true]) b l p n false (.string (sb [])) := fun w2 hR2 f2 => by
          refine ⟨?_, ⟨p + 2 * J, ?_, hle, fun h => ?_⟩, f2.sto (.inl rfl) _ _⟩
          · simp only [Bool.false_eq_true, if_false, hnone, Option.getD_none]
          · simp only [Bool.false_eq_true, if_false, hnone, Option.isNone_none]
            exact hR2.bad
          · simp only [Bool.false_eq_true, if_false, hnone] at h
            cases h
        have fd := hO.fr.drew
        have wl : IntKind.i64.wrap ((l.length : Int) - ((p + 2 * J : Nat) : Int)) = ((l.length - (p + 2 * J) : Nat) : Int) := by rw [show (l.length : Int) - ((p + 2 * J : Nat) : Int) = ((l.length - (p + 2 * J) : Nat) : Int) by omega]; exact i64W (by omega)
        by_cases h2 : l.length - (p + 2 * J) < 2
        · have h2' : ((l.length - (p + 2 * J) : Nat) : Int) < 2 := by omega
          generalize p + 2 * J = Q at *
          have hR1 : RS w1.drew b l Q false := ⟨hb1, hw1⟩
          simp [-ldA_ptr, hb1, hin, hlt, hlen, wl, h2', hw1]
          exact byp _ hR1 fd
        · have h2' : ¬ ((l.length - (p + 2 * J) : Nat) : Int) < 2 := by omega
          unfold pairV at hpv
          rw [drop_at, drop_at] at hpv
          obtain ⟨a, ha⟩ : ∃ a, l[p + 2 * J]? = some a := ⟨_, List.getElem?_eq_getElem (by omega)⟩
          obtain ⟨b', hb'⟩ : ∃ a, l[p + (2 * J + 1)]? = some a := ⟨_, List.getElem?_eq_getElem (by omega)⟩
          rw [ha, hb'] at hpv
          simp only at hpv
          have i1 := idxSb (kd := .i64) ha
          have i2 := idxSb (kd := .i64) hb'
          rw [show p + (2 * J + 1) = p + 2 * J + 1 by omega] at i2
          have wq := wrap_succ' (n := p + 2 * J) (by omega)
          generalize p + 2 * J = Q at *
          simp [-ldA_ptr, hb1, hin, hlt, hlen, wl, h2', i1, -Int.natCast_add]
          refine (half_run a).mono ?_
          rintro _ w2 ⟨rfl, hw2⟩
          rw [hw2]
          simp [-ldA_ptr, hb1, wq, i2, -Int.natCast_add]
          refine (half_run b').mono ?_
          rintro _ w3 ⟨rfl, hw3⟩
          rw [hw3]
          have hR3 : RS w1.drew.drew.drew b l Q false := ⟨hb1, hw1⟩
          have fd3 := fd.drew.drew
          cases hx : hvN a.toNat with
          | none =>
            rw [hvV_none hx]
            simp [-ldA_ptr, hb1, hw1]
            exact byp _ hR3 fd3
          | some x =>
            cases hy : hvN b'.toNat with
            | none =>
              have nx : ¬ (x : Int) < 0 := by omega
              rw [hvV_some hx, hvV_none hy]
              simp [-ldA_ptr, nx, hb1, hw1]
              exact byp _ hR3 fd3
            | some y => rw [hx, hy] at hpv; simp at hpv
end
end Go.Proofs.YthlpfhjcdedhgaaDoor

/-
  Layer 4 (paper): part Q: the document's reader: a sum; what the digits that are printed are read as.
-/
namespace Go.Proofs.YthlpfhjcdedhgaaDoor
open Go.Lift Go.Sort
set_option linter.unusedSimpArgs false
set_option linter.unusedVariables false
set_option maxHeartbeats 4000000
section
variable {w w1 w2 : World}
/-- What a sum is read as. -/
structure SuP (w w' : World) (b : Nat) (l : List UInt8) (p : Nat) (bad : Bool) (r : Value) : Prop where
  val : r = .int .i64 ((((if bad then none else (pairsF (l.drop p) 4).map valB).getD 0 : Nat)) : Int)
  rs : ∃ p', RS w' b l p' (if bad then none else (pairsF (l.drop p) 4).map valB).isNone ∧ p' ≤ l.length ∧ ((if bad then none else (pairsF (l.drop p) 4).map valB).isSome = true → p' = p + 8)
  fr : Fr (fun c => c = b) w w'
theorem rsum_run {b p : Nat} {l : List UInt8} {bad : Bool} (h : RS w b l p bad) (hp : p ≤ l.length) (hl : l.length ≤ 4611686018427387904) :
    Run (F.granaryref4_Reader_sum (.pointer (some ⟨b, 0, none⟩))) w fun r w' => SuP w w' b l p bad r := by
  unfold F.granaryref4_Reader_sum
  rw [Run_bind]
  refine (rbytes_run h hp hl (n := 4) (by decide) (by decide)).mono ?_
  rintro _ w1 ⟨rfl, ⟨p', hr, hple, hpe⟩, f1⟩
  generalize hB : (if bad = true then none else pairsF (l.drop p) 4) = B at *
  have hB' : (if bad = true then none else (pairsF (l.drop p) 4).map valB) = B.map valB := by rw [← hB]; cases bad <;> rfl
  have hBl : ((B.getD [])).length ≤ 4 := by
    cases hb : B with
    | none => simp
    | some bs =>
      rw [hb] at hB
      cases bad with
      | true => simp at hB
      | false => simp only [Bool.false_eq_true, if_false] at hB; rw [Option.getD_some, pairsF_len hB]; decide
  rw [Run_bind]
  generalize hbs : B.getD [] = bs at hBl
  refine Run_for bs.length (fun i L' w' => L' = [.int .i64 ((valB (bs.take i) : Nat) : Int), .int .i64 (i : Int)] ∧ w' = w1) ⟨rfl, rfl⟩ ?_ ?_
  · rintro i L' w3 hi ⟨rfl, hw3⟩
    rw [hw3]
    obtain ⟨c, hc⟩ : ∃ c, bs[i]? = some c := ⟨_, List.getElem?_eq_getElem hi⟩
    have ix := idxSb (kd := .i64) hc
    have hv := valB_snoc (bs.take i) c
    rw [← take_snocP hc] at hv
    have hlt := valB_lt (bs.take i)
    have hp : 256 ^ (bs.take i).length ≤ 256 ^ 3 := Nat.pow_le_pow_right (by decide) (by rw [List.length_take]; omega)
    have e16 : (256 : Nat) ^ 3 = 16777216 := by decide
    rw [e16] at hp
    have hil : (i : Int) < bs.length := by omega
    have wi := wrap_succ' (n := i) (by omega)
    have hct := c.toNat_lt
    have wc : IntKind.i64.wrap (c.toNat : Int) = c.toNat := i64W (by omega)
    generalize valB (bs.take i) = V at *
    have w2' : IntKind.i64.wrap (256 * (V : Int)) = ((256 * V : Nat) : Int) := by rw [show 256 * (V : Int) = ((256 * V : Nat) : Int) by omega]; exact i64W (by omega)
    have w3' : IntKind.i64.wrap (((256 * V : Nat) : Int) + (c.toNat : Int)) = ((256 * V + c.toNat : Nat) : Int) := by rw [show ((256 * V : Nat) : Int) + (c.toNat : Int) = ((256 * V + c.toNat : Nat) : Int) by omega]; exact i64W (by omega)
    rw [lenS_string, sb_size, Run_bindO_some, getL_succ, getL_zero, lssT hil, Run_bindO_some, Run_condM_true, getL_zero, binV_int, intBin_mul, w2', Run_bindO_some, ix, Run_bindO_some]
    simp only [by8, cvtI_int, wc, Run_bindO_some, binV_int, intBin_add, w3', wi, Run_ret]
    rw [hv]
    exact ⟨rfl, trivial⟩
  · rintro L' w3 ⟨rfl, hw3⟩
    rw [hw3]
    have hn : ¬ ((bs.length : Nat) : Int) < bs.length := by omega
    rw [lenS_string, sb_size, Run_bindO_some, getL_succ, getL_zero, lssF hn, Run_bindO_some, Run_condM_false, Run_ret]
    simp only [outK_exit, getL_zero]
    rw [show Nat.beq 0 0 = true from rfl, cond_true, Run_ret, List.take_length]
    refine ⟨?_, ⟨p', ?_, hple, ?_⟩, f1⟩
    · rw [hB', ← hbs]; cases B <;> rfl
    · rw [hB']; cases B <;> exact hr
    · rw [hB']
      intro h
      refine hpe ?_
      cases B with
      | none => cases h
      | some _ => rfl
end
theorem hvN_hexd : ∀ i, i < 16 → hvN (hexd i).toNat = some i := by decide +kernel
theorem lowD_at (n : Nat) : ∀ (k i : Nat), i < k → (lowD n k)[i]? = some (hexd (n / 16 ^ (k - 1 - i) % 16))
  | 0, i, h => absurd h (by omega)
  | k + 1, 0, _ => by simp [lowD]
  | k + 1, i + 1, h => by
    have := lowD_at n k i (by omega)
    rw [show k + 1 - 1 - (i + 1) = k - 1 - i by omega]
    simpa [lowD] using this
theorem eight_pair (n : Nat) (r : List UInt8) {i : Nat} (hi : i < 4) : pairV (eightL n ++ r) i = some (UInt8.ofNat (16 * (n / 16 ^ (7 - 2 * i) % 16) + n / 16 ^ (6 - 2 * i) % 16)) := by
  have hl : (eightL n).length = 8 := lowD_len _ _
  unfold pairV
  rw [List.getElem?_append_left (by omega), List.getElem?_append_left (by omega)]
  unfold eightL
  rw [lowD_at n 8 (2 * i) (by omega), lowD_at n 8 (2 * i + 1) (by omega)]
  simp only
  rw [hvN_hexd _ (Nat.mod_lt _ (by decide)), hvN_hexd _ (Nat.mod_lt _ (by decide))]
  rw [show 8 - 1 - 2 * i = 7 - 2 * i by omega, show 8 - 1 - (2 * i + 1) = 6 - 2 * i by omega]
theorem ofNat_two (x y : Nat) (hx : x < 16) (hy : y < 16) : (UInt8.ofNat (16 * x + y)).toNat = 16 * x + y := UInt8.toNat_ofNat_of_lt' (show 16 * x + y < UInt8.size by show _ < 256; omega)
theorem eight_read {n : Nat} (hn : n < 4294967296) (r : List UInt8) : (pairsF (eightL n ++ r) 4).map valB = some n := by
  have e : pairsF (eightL n ++ r) 4 = some [UInt8.ofNat (16 * (n / 16 ^ 7 % 16) + n / 16 ^ 6 % 16), UInt8.ofNat (16 * (n / 16 ^ 5 % 16) + n / 16 ^ 4 % 16), UInt8.ofNat (16 * (n / 16 ^ 3 % 16) + n / 16 ^ 2 % 16), UInt8.ofNat (16 * (n / 16 ^ 1 % 16) + n / 16 ^ 0 % 16)] := by
    simp only [pairsF, eight_pair n r (i := 0) (by decide), eight_pair n r (i := 1) (by decide), eight_pair n r (i := 2) (by decide), eight_pair n r (i := 3) (by decide)]
    rfl
  rw [e, Option.map_some]
  have m : ∀ a, n / 16 ^ a % 16 < 16 := fun a => Nat.mod_lt _ (by decide)
  simp only [valB, List.foldl_cons, List.foldl_nil]
  rw [ofNat_two _ _ (m 7) (m 6), ofNat_two _ _ (m 5) (m 4), ofNat_two _ _ (m 3) (m 2), ofNat_two _ _ (m 1) (m 0)]
  have d : ∀ a, n / 16 ^ (a + 1) = n / 16 ^ a / 16 := fun a => by rw [Nat.pow_succ, Nat.div_div_eq_div_mul]
  have h0 : n / 16 ^ 0 = n := by simp
  rw [d 6, d 5, d 4, d 3, d 2, d 1, d 0, h0]
  refine congrArg some ?_
  omega
theorem eight_sum {n : Nat} (hn : n < 4294967296) : sumF (eightL n) = some n := by
  unfold sumF
  have h := eight_read hn []
  rw [List.append_nil] at h
  have hl : (eightL n).length = 8 := lowD_len _ _
  rw [if_pos hl, h]
theorem dec_small {n : Nat} (h : n < 10) : Lib.decDigits n = [UInt8.ofNat (48 + n)] := by rw [Lib.decDigits, dif_pos h]
theorem dec_big {n : Nat} (h : ¬ n < 10) : Lib.decDigits n = Lib.decDigits (n / 10) ++ [UInt8.ofNat (48 + n % 10)] := by conv => lhs; rw [Lib.decDigits, dif_neg h]
theorem dig_nat {k : Nat} (h : k < 10) : (UInt8.ofNat (48 + k)).toNat = 48 + k := UInt8.toNat_ofNat_of_lt' (show 48 + k < 256 by omega)
theorem dec_facts (n : Nat) : (Lib.decDigits n).all isD = true ∧ valL (Lib.decDigits n) = n ∧ Lib.decDigits n ≠ [] ∧ (1 ≤ n → (Lib.decDigits n).head? ≠ some 48) := by
  induction n using Nat.strongRecOn with
  | _ n ih =>
    by_cases h : n < 10
    · have hd := dig_nat h
      rw [dec_small h]
      refine ⟨?_, ?_, by simp, fun h1 he => ?_⟩
      · simp only [List.all_cons, List.all_nil, Bool.and_true, isD, hd, decide_eq_true_eq]; omega
      · simp only [valL, List.foldl_cons, List.foldl_nil, valF, hd]; omega
      · simp only [List.head?_cons, Option.some.injEq] at he
        have : (UInt8.ofNat (48 + n)).toNat = (48 : UInt8).toNat := by rw [he]
        rw [hd] at this
        have e48 : (48 : UInt8).toNat = 48 := rfl
        omega
    · obtain ⟨h1, h2, h3, h4⟩ := ih (n / 10) (by omega)
      have hd := dig_nat (k := n % 10) (Nat.mod_lt _ (by decide))
      rw [dec_big h]
      refine ⟨?_, ?_, by simp, fun _ he => ?_⟩
      · rw [List.all_append, h1]
        simp only [List.all_cons, List.all_nil, Bool.and_true, Bool.true_and, isD, hd, decide_eq_true_eq]; omega
      · rw [valL_snoc, h2, hd]; omega
      · have e : (Lib.decDigits (n / 10) ++ [UInt8.ofNat (48 + n % 10)]).head? = (Lib.decDigits (n / 10)).head? := by
          obtain ⟨c, r, e⟩ := List.exists_cons_of_ne_nil h3
          rw [e]; rfl
        rw [e] at he
        exact h4 (by omega) he
theorem nDig_pow : ∀ (k n : Nat), 1 ≤ k → n < 10 ^ k → Lib.nDigits n ≤ k
  | 0, _, h, _ => absurd h (by decide)
  | k + 1, n, _, h => by
    by_cases hn : n < 10
    · rw [Lib.nDigits_small hn]; omega
    · rw [Lib.nDigits_big hn]
      rw [Nat.pow_succ] at h
      rcases Nat.eq_zero_or_pos k with rfl | hk
      · omega
      · have := nDig_pow k (n / 10) hk (by omega)
        omega
theorem dec_le16 {n : Nat} (h : n < 10000000000000000) : (Lib.decDigits n).length ≤ 16 := by
  rw [Lib.decDigits_length]
  exact nDig_pow 16 n (by decide) h
theorem dec_num {n : Nat} (h : n < 10000000000000000) : numF (Lib.decDigits n) = some n := by
  obtain ⟨h1, h2, h3, h4⟩ := dec_facts n
  unfold numF
  rw [if_neg, h2]
  rintro (hh | hh | ⟨ha, hb⟩ | hh)
  · exact h3 hh
  · have := dec_le16 h; omega
  · by_cases hn : n < 10
    · rw [dec_small hn] at ha; simp at ha
    · exact h4 (by omega) hb
  · rw [h1] at hh; cases hh
theorem runD_app {d r : List UInt8} (hd : d.all isD = true) (hr : ∀ c, r.head? = some c → isD c = false) : runD (d ++ r) = d := by
  unfold runD
  induction d with
  | nil =>
    cases r with
    | nil => rfl
    | cons c r => simp [hr c rfl]
  | cons c d ih =>
    simp only [List.all_cons, Bool.and_eq_true] at hd
    rw [List.cons_append, List.takeWhile_cons, if_pos hd.1, ih hd.2]
theorem rdD_dec {l : List UInt8} {p n : Nat} {r : List UInt8} (h : n < 10000000000000000) (hl : l.drop p = Lib.decDigits n ++ r) (hr : ∀ c, r.head? = some c → isD c = false) : rdD l p = Lib.decDigits n := by
  unfold rdD
  rw [hl]
  have h16 := dec_le16 h
  rw [List.take_append, List.take_of_length_le (by omega)]
  refine runD_app (dec_facts n).1 fun c hc => hr c ?_
  cases r with
  | nil => simp at hc
  | cons x r =>
    cases hk : 17 - (Lib.decDigits n).length with
    | zero => omega
    | succ k => rw [hk, List.take_succ_cons] at hc; exact hc
theorem dec_no {n : Nat} {c : UInt8} (hc : isD c = false) : c ∉ Lib.decDigits n := fun h => by
  have := List.all_eq_true.1 (dec_facts n).1 c h
  rw [hc] at this; cases this
theorem eight_no {n : Nat} {c : UInt8} (hc : ∀ i, i < 16 → hexd i ≠ c) : c ∉ eightL n := fun h => by
  have key : ∀ k, c ∉ lowD n k := fun k => by
    induction k with
    | zero => simp [lowD]
    | succ k ih =>
      unfold lowD
      simp only [List.mem_cons, not_or]
      exact ⟨fun e => hc _ (Nat.mod_lt _ (by decide)) e.symm, ih⟩
  exact key 8 h
end Go.Proofs.YthlpfhjcdedhgaaDoor

/-
  Layer 4 (paper): part R: a note's line that is read.
-/
namespace Go.Proofs.YthlpfhjcdedhgaaDoor
open Go.Lift Go.Sort
set_option linter.unusedSimpArgs false
set_option linter.unusedVariables false
set_option maxHeartbeats 4000000
/-- Its five words. -/
def wordsL (n : Nt) : List (List UInt8) := [Lib.decDigits n.k.toNat, Lib.decDigits n.f.toNat, Lib.decDigits n.u.toNat, eightL n.c.toNat, eightL (crcF (sb (preL n)))]
theorem no32 {n : Nat} : (32 : UInt8) ∉ Lib.decDigits n := dec_no rfl
theorem no32e {n : Nat} : (32 : UInt8) ∉ eightL n := eight_no (by decide +kernel)
theorem no10 {n : Nat} : (10 : UInt8) ∉ Lib.decDigits n := dec_no rfl
theorem no10e {n : Nat} : (10 : UInt8) ∉ eightL n := eight_no (by decide +kernel)
theorem note_words (n : Nt) : noteL n = jn 32 (wordsL n) ++ [10] := by
  simp [noteL, preL, wordsL, jn, sb]
theorem words_spl (n : Nt) : spl 32 (jn 32 (wordsL n)) = wordsL n := by
  refine spl_of 32 (by simp [wordsL]) fun x hx => ?_
  simp only [wordsL, List.mem_cons, List.not_mem_nil, or_false] at hx
  rcases hx with rfl | rfl | rfl | rfl | rfl
  · exact no32
  · exact no32
  · exact no32
  · exact no32e
  · exact no32e
theorem line_words {n : Nt} {s : List UInt8} (h : noteL n = s ++ [10]) : spl 32 s = wordsL n := by
  rw [note_words] at h
  have : jn 32 (wordsL n) = s := List.append_cancel_right h
  rw [← this, words_spl]
theorem no10w (n : Nt) : (10 : UInt8) ∉ jn 32 (wordsL n) := by
  simp only [jn, wordsL, List.map_cons, List.map_nil, List.flatten_cons, List.flatten_nil, List.mem_append, List.mem_cons, List.not_mem_nil, or_false, not_or]
  exact ⟨no10, ⟨by decide, no10⟩, ⟨by decide, no10⟩, ⟨by decide, no10e⟩, ⟨by decide, no10e⟩⟩
theorem ok_read {n : Nt} (h : n.ok) : numF (Lib.decDigits n.k.toNat) = some n.k.toNat ∧ numF (Lib.decDigits n.f.toNat) = some n.f.toNat ∧ numF (Lib.decDigits n.u.toNat) = some n.u.toNat ∧ sumF (eightL n.c.toNat) = some n.c.toNat :=
  ⟨dec_num (by have := h.1; omega), dec_num (by have := h.2.1; omega), dec_num (by have := h.2.2.1; omega), eight_sum (by have := h.2.2.2; omega)⟩
theorem Nt.cast {n : Nt} (h : n.ok) : (⟨((n.k.toNat : Nat) : Int), ((n.f.toNat : Nat) : Int), ((n.u.toNat : Nat) : Int), ((n.c.toNat : Nat) : Int)⟩ : Nt) = n := by
  obtain ⟨k, f, u, c⟩ := n
  obtain ⟨h1, h2, h3, h4⟩ := h
  simp only at h1 h2 h3 h4
  simp only [Nt.mk.injEq]
  omega
section
variable {w w1 w2 : World}
/-- While a line is read. -/
structure NS (w0 w : World) (v : Value) (N : List (List UInt8)) (x1 x8 x9 : Nat) (l8 l9 : List Value) : Prop where
  tb : Tb w
  ws : Sl 1 w v (N.map fun x => [.string (sb x)])
  b1 : bk w x1 = some [.int .i64 0, .int .i64 0, .int .i64 0, .int .i64 0]
  w1 : wr w x1 = true
  b8 : bk w x8 = some l8
  w8 : wr w x8 = true
  b9 : bk w x9 = some l9
  w9 : wr w x9 = true
  e8 : l8.length = 4
  e9 : l9.length = 5
  n1 : w0.heap.size ≤ x1
  n8 : w0.heap.size ≤ x8
  n9 : w0.heap.size ≤ x9
  d8 : x1 ≠ x8 ∧ x1 ≠ x9 ∧ x8 ≠ x9 ∧ ¬ inB v x8 ∧ ¬ inB v x9
  low : 5 ≤ w0.heap.size
  fr : Fr (fun _ => False) w0 w
theorem NS.frm {w0 : World} {v : Value} {N : List (List UInt8)} {x1 x8 x9 : Nat} {l8 l9 : List Value} (h : NS w0 w v N x1 x8 x9 l8 l9) (f : Fr (fun _ => False) w w2) : NS w0 w2 v N x1 x8 x9 l8 l9 where
  tb := h.tb.fr0 f
  ws := h.ws.fr0 f
  b1 := f.bk_some h.b1 id
  w1 := by rw [f.wr (bk_lt h.b1) id]; exact h.w1
  b8 := f.bk_some h.b8 id
  w8 := by rw [f.wr (bk_lt h.b8) id]; exact h.w8
  b9 := f.bk_some h.b9 id
  w9 := by rw [f.wr (bk_lt h.b9) id]; exact h.w9
  e8 := h.e8
  e9 := h.e9
  n1 := h.n1
  n8 := h.n8
  n9 := h.n9
  d8 := h.d8
  low := h.low
  fr := h.fr.trans f fun _ _ => id
theorem NS.put8 {w0 : World} {v : Value} {N : List (List UInt8)} {x1 x8 x9 : Nat} {l8 l9 : List Value} (h : NS w0 w v N x1 x8 x9 l8 l9) (i : Nat) (y : Value) : NS w0 (sto w x8 i [y]) v N x1 x8 x9 (l8.set i y) l9 := by
  have f : Fr (fun c => c = x8) w (sto w x8 i [y]) := (show Fr (fun c => c = x8) w w from Fr.refl _ _).sto (.inl rfl) _ _
  have hl := h.low
  have h8 := h.n8
  exact { tb := h.tb.fr f fun b hb he => by omega
          ws := h.ws.fr f fun b hb he => h.d8.2.2.2.1 (he ▸ hb)
          b1 := f.bk_some h.b1 h.d8.1
          w1 := by rw [wr_sto]; exact h.w1
          b8 := by rw [bk_sto_same h.b8]; simp only [setL_cons, setL_nil]
          w8 := by rw [wr_sto]; exact h.w8
          b9 := f.bk_some h.b9 fun e => h.d8.2.2.1 e.symm
          w9 := by rw [wr_sto]; exact h.w9
          e8 := by rw [List.length_set]; exact h.e8
          e9 := h.e9, n1 := h.n1, n8 := h.n8, n9 := h.n9, d8 := h.d8, low := h.low
          fr := h.fr.sto (.inr h.n8) _ _ }
theorem NS.put9 {w0 : World} {v : Value} {N : List (List UInt8)} {x1 x8 x9 : Nat} {l8 l9 : List Value} (h : NS w0 w v N x1 x8 x9 l8 l9) (i : Nat) (y : Value) : NS w0 (sto w x9 i [y]) v N x1 x8 x9 l8 (l9.set i y) := by
  have f : Fr (fun c => c = x9) w (sto w x9 i [y]) := (show Fr (fun c => c = x9) w w from Fr.refl _ _).sto (.inl rfl) _ _
  have hl := h.low
  have h8 := h.n9
  exact { tb := h.tb.fr f fun b hb he => by omega
          ws := h.ws.fr f fun b hb he => h.d8.2.2.2.2 (he ▸ hb)
          b1 := f.bk_some h.b1 h.d8.2.1
          w1 := by rw [wr_sto]; exact h.w1
          b8 := f.bk_some h.b8 h.d8.2.2.1
          w8 := by rw [wr_sto]; exact h.w8
          b9 := by rw [bk_sto_same h.b9]; simp only [setL_cons, setL_nil]
          w9 := by rw [wr_sto]; exact h.w9
          e8 := h.e8
          e9 := by rw [List.length_set]; exact h.e9
          n1 := h.n1, n8 := h.n8, n9 := h.n9, d8 := h.d8, low := h.low
          fr := h.fr.sto (.inr h.n9) _ _ }
theorem idxR5 {x k : Nat} (h : k < 5) : idxR 5 1 (.pointer (some ⟨x, 0, none⟩)) (.int .i64 (k : Int)) = some (.pointer (some ⟨x, k, none⟩)) := by
  rw [idxR_ptr, if_pos (by omega)]; simp
theorem NS.word {β : Type} {w0 : World} {v : Value} {N : List (List UInt8)} {x1 x8 x9 : Nat} {l8 l9 : List Value} (h : NS w0 w v N x1 x8 x9 l8 l9) {i : Nat} {s : List UInt8} (hs : N[i]? = some s) {Fn : Value → M Value} {g : List UInt8 → Option Nat}
    (hF : ∀ w, Run (Fn (.string (sb s))) w fun r w' => r = numV (g s) ∧ Fr (fun _ => False) w w') {K : Value → M β} {Q : β → World → Prop} (q : ∀ w', NS w0 w' v N x1 x8 x9 l8 l9 → Run (K (numV (g s))) w' Q) :
    Run (bindO (idxA 1 v (.int .i64 (i : Int))) fun x10 => M.bind (rdM (ld1 x10)) fun x11 => M.bind (Fn x11) K) w Q := by
  obtain ⟨p, p1, p2⟩ := h.ws.rd1 (i := i) (y := .string (sb s)) (by simp [hs]) .i64
  have p1' : idxA 1 v (.int .i64 (i : Int)) = some p := p1
  rw [p1', Run_bindO_some, Run_bind, Run_rdM]
  refine ⟨_, p2, ?_⟩
  rw [Run_bind]
  refine (hF w).mono ?_
  rintro _ w' ⟨rfl, f⟩
  exact q w' (h.frm f)
theorem NS.both {β : Type} {w0 : World} {v : Value} {N : List (List UInt8)} {x1 x8 x9 : Nat} {l8 l9 : List Value} (h : NS w0 w v N x1 x8 x9 l8 l9) {i : Nat} (hi : i < 4) {o : Option Nat} {K : M β} {Q : β → World → Prop}
    (q : ∀ w', NS w0 w' v N x1 x8 x9 (l8.set i (.int .i64 ((o.getD 0 : Nat) : Int))) (l9.set i (.bool o.isSome)) → Run K w' Q) :
    Run (bindO (extV 0 (numV o)) fun x13 => bindO (extV 1 (numV o)) fun x14 => bindO (fieldA i (.pointer (some ⟨x8, 0, none⟩))) fun x15 => M.bind (stM 1 x15 x13) fun _ =>
      bindO (idxR 5 1 (.pointer (some ⟨x9, 0, none⟩)) (.int .i64 (i : Int))) fun x17 => M.bind (stM 1 x17 x14) fun _ => K) w Q := by
  have e0 : extV 0 (numV o) = some (.int .i64 ((o.getD 0 : Nat) : Int)) := rfl
  have e1 : extV 1 (numV o) = some (.bool o.isSome) := rfl
  rw [e0, Run_bindO_some, e1, Run_bindO_some, fieldA_ptr, Run_bindO_some, Run_bind, Run_stM (by rfl) (by rfl) ⟨⟨l8, h.b8, by rw [h.e8]; omega⟩, h.w8⟩, idxR5 (by omega), Run_bindO_some, Run_bind]
  have h2 := h.put8 (0 + i) (.int .i64 ((o.getD 0 : Nat) : Int))
  refine (Run_stM (w := sto w x8 (0 + i) [.int .i64 ((o.getD 0 : Nat) : Int)]) (by rfl) (by rfl) ⟨⟨l9, h2.b9, by rw [h2.e9]; omega⟩, h2.w9⟩).2 ?_
  have h3 := h2.put9 i (.bool o.isSome)
  rw [Nat.zero_add] at h3 ⊢
  exact q _ h3
end
end Go.Proofs.YthlpfhjcdedhgaaDoor

/-
  Layer 4 (paper): part S: a note's line that is read: the walk.
-/
namespace Go.Proofs.YthlpfhjcdedhgaaDoor
open Go.Lift Go.Sort
set_option linter.unusedSimpArgs false
set_option linter.unusedVariables false
set_option maxHeartbeats 4000000
section
variable {w w1 w2 : World}
/-- What a line is read as. -/
structure NoteP (w w' : World) (s : List UInt8) (r : Value) : Prop where
  val : ∃ m : Nt, ∃ b : Bool, r = .tuple #[m.v, .bool b] ∧ (b = true → m.ok ∧ noteL m = s ++ [10]) ∧ ∀ n : Nt, n.ok → noteL n = s ++ [10] → m = n ∧ b = true
  fr : Fr (fun _ => False) w w'
theorem neOk (a b c d e : Bool) : neV (EqSh.offs [(EqK.bool, 0), (EqK.bool, 1), (EqK.bool, 2), (EqK.bool, 3), (EqK.bool, 4)]) (.agg #[.bool a, .bool b, .bool c, .bool d, .bool e]) (.agg #[.bool true, .bool true, .bool true, .bool true, .bool true]) = some (.bool (!(a && b && c && d && e))) := by
  cases a <;> cases b <;> cases c <;> cases d <;> cases e <;> rfl
theorem tb_low (ht : Tb w) : 5 ≤ w.heap.size := by
  obtain ⟨l, h, _⟩ := ht.bits
  have := bk_lt h
  omega
theorem note_run (ht : Tb w) (s : List UInt8) (hs : s.length ≤ 4294967000) : Run (F.paper_note (.string (sb s))) w fun r w' => NoteP w w' s r := by
  unfold F.paper_note
  rw [Run_bind]
  refine Run_new fun x1 wa hx1 hw1 fa hx1le => ?_
  have ta := ht.fr0 fa
  rw [Run_bind]
  refine (split_run ta s 32 (by omega)).mono ?_
  rintro v wb ⟨hv, fb, hvn⟩
  have hlv := hv.1.lenL
  rw [List.length_map] at hlv
  rw [hlv, Run_bindO_some, binV_int, intBin_neq, Run_bindO_some]
  have hx1b := fb.bk_some hx1 id
  have hw1b : wr wb x1 = true := by rw [fb.wr (bk_lt hx1) id]; exact hw1
  have z0 : buildV #[(Value.int IntKind.i64 0), (Value.int IntKind.i64 0), (Value.int IntKind.i64 0), (Value.int IntKind.i64 0)] [] = some (.agg #[(Value.int IntKind.i64 0), (Value.int IntKind.i64 0), (Value.int IntKind.i64 0), (Value.int IntKind.i64 0)]) := rfl
  by_cases h5 : (spl 32 s).length = 5
  case neg =>
    have h5' : ¬ (((spl 32 s).length : Nat) : Int) = 5 := by omega
    have ht : (!decide ((((spl 32 s).length : Nat) : Int) = 5)) = true := by simp [h5']
    rw [ht, Run_condM_true, z0, Run_bindO_some, Run_bind, Run_stM (by rfl) (by rfl) ⟨⟨_, hx1b, by simp⟩, hw1b⟩, Run_bind, Run_rdM]
    have hb : bk (sto wb x1 0 (Value.agg #[(Value.int IntKind.i64 0), (Value.int IntKind.i64 0), (Value.int IntKind.i64 0), (Value.int IntKind.i64 0)]).cells.toList) x1 = some [.int .i64 0, .int .i64 0, .int .i64 0, .int .i64 0] := by
      rw [bk_sto_same hx1b]; rfl
    refine ⟨_, ldA_bk hb (by simp), ?_⟩
    rw [Run_ret]
    refine ⟨⟨⟨0, 0, 0, 0⟩, false, rfl, fun h => Bool.noConfusion h, fun n hn he => ?_⟩, (fa.trans fb fun _ _ => id).sto (.inr hx1le) _ _⟩
    have := line_words he
    rw [this] at h5
    exact absurd rfl h5
  have h5' : (((spl 32 s).length : Nat) : Int) = 5 := by omega
  have hf : (!decide ((((spl 32 s).length : Nat) : Int) = 5)) = false := by simp [h5']
  rw [hf, Run_condM_false, Run_bind]
  refine Run_new fun x8 wc hx8 hw8 fc hx8le => ?_
  rw [Run_bind]
  refine Run_new fun x9 wd hx9 hw9 fd hx9le => ?_
  obtain ⟨a, b, c, d, e, hN⟩ : ∃ a b c d e, spl 32 s = [a, b, c, d, e] := by
    match spl 32 s, h5 with
    | [a, b, c, d, e], _ => exact ⟨a, b, c, d, e, rfl⟩
  have hjn := (spl_jn 32 s).1
  rw [hN] at hjn
  have hlens : a.length ≤ s.length ∧ b.length ≤ s.length ∧ c.length ≤ s.length ∧ d.length ≤ s.length ∧ e.length ≤ s.length := by
    rw [← hjn]
    simp [jn]
    omega
  have s1 := fa.size
  have s2 := fb.size
  have s3 := fc.size
  have s4 := fd.size
  have l1 := bk_lt hx1
  have l8 := bk_lt hx8
  have l9 := bk_lt hx9
  have nd : NS w wd v [a, b, c, d, e] x1 x8 x9 [.int .i64 0, .int .i64 0, .int .i64 0, .int .i64 0] [.bool false, .bool false, .bool false, .bool false, .bool false] := {
    tb := ((ta.fr0 fb).fr0 fc).fr0 fd
    ws := by rw [← hN]; exact (hv.1.fr0 fc).fr0 fd
    b1 := fd.bk_some (fc.bk_some hx1b id) id
    w1 := by rw [fd.wr (by omega) id, fc.wr (by omega) id]; exact hw1b
    b8 := fd.bk_some hx8 id
    w8 := by rw [fd.wr l8 id]; exact hw8
    b9 := hx9
    w9 := hw9
    e8 := rfl
    e9 := rfl
    n1 := hx1le
    n8 := by omega
    n9 := by omega
    d8 := ⟨by omega, by omega, by omega, fun h => by have := (hvn _ h).2; omega, fun h => by have := (hvn _ h).2; omega⟩
    low := tb_low ht
    fr := ((fa.trans fb fun _ _ => id).trans fc fun _ _ => id).trans fd fun _ _ => id }
  refine nd.word (i := 0) (s := a) rfl (fun w => number_run a (by omega)) fun we ne => ?_
  refine ne.both (i := 0) (by decide) fun we ne => ?_
  refine ne.word (i := 1) (s := b) rfl (fun w => number_run b (by omega)) fun we ne => ?_
  refine ne.both (i := 1) (by decide) fun we ne => ?_
  refine ne.word (i := 2) (s := c) rfl (fun w => number_run c (by omega)) fun we ne => ?_
  refine ne.both (i := 2) (by decide) fun we ne => ?_
  refine ne.word (i := 3) (s := d) rfl (fun w => sumOf_run (by omega)) fun we ne => ?_
  refine ne.both (i := 3) (by decide) fun we ne => ?_
  refine ne.word (i := 4) (s := e) rfl (fun w => sumOf_run (by omega)) fun we ne => ?_
  have e0 : extV 0 (numV (sumF e)) = some (.int .i64 (((sumF e).getD 0 : Nat) : Int)) := rfl
  have e1 : extV 1 (numV (sumF e)) = some (.bool (sumF e).isSome) := rfl
  rw [e0, Run_bindO_some, e1, Run_bindO_some]
  have i4 := idxR5 (x := x9) (k := 4) (by decide)
  have i4' : idxR 5 1 (.pointer (some ⟨x9, 0, none⟩)) (.int .i64 4) = some (.pointer (some ⟨x9, 4, none⟩)) := i4
  rw [i4', Run_bindO_some, Run_bind, Run_stM (by rfl) (by rfl) ⟨⟨_, ne.b9, by rw [ne.e9]; decide⟩, ne.w9⟩]
  replace ne := ne.put9 4 (.bool (sumF e).isSome)
  have l9e := ldA_bk (o := 0) (n := 5) ne.b9 (by rw [ne.e9]; decide)
  have l8e := ldA_bk (o := 0) (n := 4) ne.b8 (by rw [ne.e8]; decide)
  replace l9e : ldA 5 (.pointer (some ⟨x9, 0, none⟩)) (sto we x9 4 [.bool (sumF e).isSome]) = some (.agg #[.bool (numF a).isSome, .bool (numF b).isSome, .bool (numF c).isSome, .bool (sumF d).isSome, .bool (sumF e).isSome]) := l9e
  have bt : buildV #[(Value.bool false), (Value.bool false), (Value.bool false), (Value.bool false), (Value.bool false)] [(0, 1, (Value.bool true)), (1, 1, (Value.bool true)), (2, 1, (Value.bool true)), (3, 1, (Value.bool true)), (4, 1, (Value.bool true))] = some (.agg #[.bool true, .bool true, .bool true, .bool true, .bool true]) := by kernel_rfl
  have hm : ∀ n : Nt, n.ok → noteL n = s ++ [10] → numF a = some n.k.toNat ∧ numF b = some n.f.toNat ∧ numF c = some n.u.toNat ∧ sumF d = some n.c.toNat ∧ (sumF e).isSome = true := fun n hn he => by
    have hw := line_words he
    rw [hN] at hw
    simp only [wordsL, List.cons.injEq, and_true] at hw
    obtain ⟨h1, h2, h3, h4, h5⟩ := hw
    obtain ⟨r1, r2, r3, r4⟩ := ok_read hn
    rw [h1, h2, h3, h4, h5]
    exact ⟨r1, r2, r3, r4, by rw [eight_sum (crcF_lt _)]; rfl⟩
  generalize hnt : (⟨(((numF a).getD 0 : Nat) : Int), (((numF b).getD 0 : Nat) : Int), (((numF c).getD 0 : Nat) : Int), (((sumF d).getD 0 : Nat) : Int)⟩ : Nt) = m
  replace l8e : ldA 4 (.pointer (some ⟨x8, 0, none⟩)) (sto we x9 4 [.bool (sumF e).isSome]) = some m.v := by rw [← hnt]; exact l8e
  have hmm : ∀ n : Nt, n.ok → noteL n = s ++ [10] → m = n := fun n hn he => by
    obtain ⟨h1, h2, h3, h4, _⟩ := hm n hn he
    rw [← hnt, h1, h2, h3, h4]
    exact Nt.cast hn
  show Run _ (sto we x9 4 [.bool (sumF e).isSome]) _
  rw [Run_bind, Run_rdM]
  refine ⟨_, l9e, ?_⟩
  rw [bt, Run_bindO_some, neOk, Run_bindO_some]
  cases hok : ((numF a).isSome && (numF b).isSome && (numF c).isSome && (sumF d).isSome && (sumF e).isSome) with
  | false =>
    rw [Bool.not_false, Run_condM_true, z0, Run_bindO_some, Run_bind, Run_stM (by rfl) (by rfl) ⟨⟨_, ne.b1, by simp⟩, ne.w1⟩, Run_bind, Run_rdM]
    have hb := bk_sto_same (o := 0) ne.b1 (Value.agg #[(Value.int IntKind.i64 0), (Value.int IntKind.i64 0), (Value.int IntKind.i64 0), (Value.int IntKind.i64 0)]).cells.toList
    refine ⟨_, ldA_bk hb (by first | exact Nat.le_refl _ | simp), ?_⟩
    rw [Run_ret]
    refine ⟨⟨⟨0, 0, 0, 0⟩, false, rfl, fun h => Bool.noConfusion h, fun n hn he => ?_⟩, ne.fr.sto (.inr ne.n1) _ _⟩
    obtain ⟨h1, h2, h3, h4, h5⟩ := hm n hn he
    rw [h1, h2, h3, h4, h5] at hok
    simp at hok
  | true =>
    rw [Bool.not_true, Run_condM_false, Run_bind, Run_rdM]
    refine ⟨_, l8e, ?_⟩
    rw [Run_bind]
    refine (print_run ne.tb m).mono ?_
    rintro _ wf ⟨rfl, ff⟩
    have nf := ne.frm ff
    have l8f := ldA_bk (o := 0) (n := 4) nf.b8 (by rw [nf.e8]; decide)
    replace l8f : ldA 4 (.pointer (some ⟨x8, 0, none⟩)) wf = some m.v := by rw [← hnt]; exact l8f
    have hst : ∀ y : Bool, (y = true → m.ok ∧ noteL m = s ++ [10]) → (∀ n : Nt, n.ok → noteL n = s ++ [10] → y = true) → Run (stM 4 (.pointer (some ⟨x1, 0, none⟩)) m.v) wf fun _ w1 => Run (rdM (ldA 4 (.pointer (some ⟨x1, 0, none⟩)))) w1 fun a w' => NoteP w w' s (.tuple #[a, .bool y]) := by
      intro y hy1 hy2
      rw [Run_stM (by rfl) (by rfl) ⟨⟨_, nf.b1, by simp [Nt.v, Value.cells]⟩, nf.w1⟩, Run_rdM]
      have hb := bk_sto_same (o := 0) nf.b1 m.v.cells.toList
      refine ⟨_, ldA_bk hb (by first | exact Nat.le_refl _ | simp), ?_⟩
      exact ⟨⟨m, y, rfl, hy1, fun n hn he => ⟨hmm n hn he, hy2 n hn he⟩⟩, nf.fr.sto (.inr nf.n1) _ _⟩
    by_cases hmo : m.ok
    · have e10 : ByteArray.mk #[10] = sb [10] := rfl
      have ea := sbAdd (a := s) (c := [10]) (by simp; omega)
      have eq := sbEq (noteL m) (s ++ [10])
      rw [noteO, if_pos hmo]
      have x0 : extV 0 (.tuple #[.string ⟨(noteL m).toArray⟩, .int .i64 0]) = some (.string (sb (noteL m))) := rfl
      have x1' : extV 1 (.tuple #[.string ⟨(noteL m).toArray⟩, .int .i64 0]) = some (.int .i64 0) := rfl
      rw [x0, Run_bindO_some, x1', Run_bindO_some, Run_bind, Run_rdM]
      refine ⟨_, l8f, ?_⟩
      simp only [binV_int, intBin_eql, decide_true, Run_bindO_some, Run_bind, Run_guardM_tt, Run_ret, e10, ea, Run_optM_some, eq, pickV_bool, cond_true]
      refine hst (decide (noteL m = s ++ [10])) (fun h => ⟨hmo, of_decide_eq_true h⟩) fun n hn he => ?_
      rw [hmm n hn he]
      exact decide_eq_true he
    · rw [noteO, if_neg hmo]
      have x0 : extV 0 (.tuple #[.string (ByteArray.mk #[]), .int .i64 42]) = some (.string (ByteArray.mk #[])) := rfl
      have x1' : extV 1 (.tuple #[.string (ByteArray.mk #[]), .int .i64 42]) = some (.int .i64 42) := rfl
      rw [x0, Run_bindO_some, x1', Run_bindO_some, Run_bind, Run_rdM]
      refine ⟨_, l8f, ?_⟩
      have h42 : ¬ (42 : Int) = 0 := by decide
      simp only [binV_int, intBin_eql, h42, decide_false, Run_bindO_some, Run_bind, Run_guardM_ft, Run_ret, pickV_bool, cond_false]
      refine hst false (fun h => Bool.noConfusion h) fun n hn he => ?_
      exact absurd (hmm n hn he ▸ hn) hmo
end
end Go.Proofs.YthlpfhjcdedhgaaDoor

/-
  Layer 4 (paper): part T: the document's note that is read.
-/
namespace Go.Proofs.YthlpfhjcdedhgaaDoor
open Go.Lift Go.Sort
set_option linter.unusedSimpArgs false
set_option linter.unusedVariables false
set_option maxHeartbeats 4000000
section
variable {w w1 w2 : World}
/-- What is read at a place. -/
structure NoteR (w w' : World) (b : Nat) (l : List UInt8) (p : Nat) (r : Value) : Prop where
  val : ∃ m : Nt, ∃ k : Nat, r = .tuple #[m.v, .int .i64 (k : Int)] ∧ (k ≠ 0 → m.ok ∧ noteL m <+: l.drop p ∧ k = (noteL m).length) ∧ ∀ n : Nt, n.ok → noteL n <+: l.drop p → m = n ∧ k = (noteL n).length
  fr : Fr (fun c => c = b) w w'
structure RN (w0 w : World) (b : Nat) (l : List UInt8) (p : Nat) (bad : Bool) (x1 x6 : Nat) (l6 : List Value) : Prop where
  tb : Tb w
  rs : RS w b l p bad
  hp : p ≤ l.length
  b1 : bk w x1 = some [.int .i64 0, .int .i64 0, .int .i64 0, .int .i64 0]
  w1 : wr w x1 = true
  b6 : bk w x6 = some l6
  w6 : wr w x6 = true
  e6 : l6.length = 4
  n1 : w0.heap.size ≤ x1
  n6 : w0.heap.size ≤ x6
  ne : x1 ≠ x6
  nb : b < w0.heap.size
  b5 : 5 ≤ b
  fr : Fr (fun c => c = b) w0 w
theorem RN.call {w0 : World} {b p : Nat} {l : List UInt8} {bad : Bool} {x1 x6 : Nat} {l6 : List Value} (h : RN w0 w b l p bad x1 x6 l6) (f : Fr (fun c => c = b) w w2) {p' : Nat} {bad' : Bool} (rs : RS w2 b l p' bad') (hp : p' ≤ l.length) : RN w0 w2 b l p' bad' x1 x6 l6 where
  tb := h.tb.fr f fun c hc he => by have := h.b5; omega
  rs := rs
  hp := hp
  b1 := f.bk_some h.b1 fun e => by have := h.n1; have := h.nb; omega
  w1 := by rw [f.wr (bk_lt h.b1) fun e => by have := h.n1; have := h.nb; omega]; exact h.w1
  b6 := f.bk_some h.b6 fun e => by have := h.n6; have := h.nb; omega
  w6 := by rw [f.wr (bk_lt h.b6) fun e => by have := h.n6; have := h.nb; omega]; exact h.w6
  e6 := h.e6
  n1 := h.n1
  n6 := h.n6
  ne := h.ne
  nb := h.nb
  b5 := h.b5
  fr := h.fr.trans f fun _ _ he => he
theorem RN.put6 {w0 : World} {b p : Nat} {l : List UInt8} {bad : Bool} {x1 x6 : Nat} {l6 : List Value} (h : RN w0 w b l p bad x1 x6 l6) (i : Nat) (y : Value) : RN w0 (sto w x6 i [y]) b l p bad x1 x6 (l6.set i y) := by
  have f : Fr (fun c => c = x6) w (sto w x6 i [y]) := (show Fr (fun c => c = x6) w w from Fr.refl _ _).sto (.inl rfl) _ _
  have h6 := h.n6
  have hb := h.nb
  have h5 := h.b5
  exact { tb := h.tb.fr f fun c hc he => by omega
          rs := ⟨f.bk_some h.rs.1 fun e => by omega, by rw [wr_sto]; exact h.rs.2⟩
          hp := h.hp
          b1 := f.bk_some h.b1 h.ne
          w1 := by rw [wr_sto]; exact h.w1
          b6 := by rw [bk_sto_same h.b6]; simp only [setL_cons, setL_nil]
          w6 := by rw [wr_sto]; exact h.w6
          e6 := by rw [List.length_set]; exact h.e6
          n1 := h.n1, n6 := h.n6, ne := h.ne, nb := h.nb, b5 := h.b5
          fr := h.fr.sto (.inr h.n6) _ _ }
theorem RN.num {β : Type} {w0 : World} {b p : Nat} {l : List UInt8} {bad : Bool} {x1 x6 : Nat} {l6 : List Value} (h : RN w0 w b l p bad x1 x6 l6) (hl : l.length ≤ 4611686018427387904) {i : Nat} (hi : i < 4) {K : M β} {Q : β → World → Prop}
    (q : ∀ w', RN w0 w' b l (p + (rdD l p).length) (bad || (numF (rdD l p)).isNone) x1 x6 (l6.set i (.int .i64 (((numF (rdD l p)).getD 0 : Nat) : Int))) → Run K w' Q) :
    Run (M.bind (F.granaryref4_Reader_number (.pointer (some ⟨b, 0, none⟩))) fun x8 => bindO (fieldA i (.pointer (some ⟨x6, 0, none⟩))) fun x9 => M.bind (stM 1 x9 x8) fun _ => K) w Q := by
  rw [Run_bind]
  refine (rnum_run h.rs h.hp hl).mono ?_
  rintro _ w2 ⟨rfl, rs, f⟩
  have hd := rdD_len l p
  have hple := h.hp
  have h2 := h.call f rs (by omega)
  rw [fieldA_ptr, Run_bindO_some, Run_bind, Run_stM (by rfl) (by rfl) ⟨⟨l6, h2.b6, by rw [h2.e6]; show 0 + i + 1 ≤ 4; omega⟩, h2.w6⟩]
  have h3 := h2.put6 (0 + i) (.int .i64 (((numF (rdD l p)).getD 0 : Nat) : Int))
  have q2 := q (sto w2 x6 (0 + i) [.int .i64 (((numF (rdD l p)).getD 0 : Nat) : Int)])
  rw [Nat.zero_add] at h3 q2
  rw [Nat.zero_add]
  exact q2 h3
theorem RN.lit {β : Type} {w0 : World} {b p : Nat} {l : List UInt8} {bad : Bool} {x1 x6 : Nat} {l6 : List Value} (h : RN w0 w b l p bad x1 x6 l6) (hl : l.length ≤ 4611686018427387904) {y : List UInt8} (hy : y.length ≤ 4611686018427387904) {K : M β} {Q : β → World → Prop}
    (q : ∀ w' p', RN w0 w' b l p' (bad || !decide (y <+: l.drop p)) x1 x6 l6 → (bad = false → y <+: l.drop p → p' = p + y.length) → Run K w' Q) :
    Run (M.bind (F.granaryref4_Reader_lit (.pointer (some ⟨b, 0, none⟩)) (.string (sb y))) fun _ => K) w Q := by
  rw [Run_bind]
  refine (rlit_run h.rs h.hp hl hy).mono ?_
  rintro _ w2 ⟨⟨p', rs, hp', hh⟩, f⟩
  exact q w2 p' (h.call f rs hp') hh
theorem RN.sum {β : Type} {w0 : World} {b p : Nat} {l : List UInt8} {bad : Bool} {x1 x6 : Nat} {l6 : List Value} (h : RN w0 w b l p bad x1 x6 l6) (hl : l.length ≤ 4611686018427387904) {i : Nat} (hi : i < 4) {K : M β} {Q : β → World → Prop}
    (q : ∀ w' p', RN w0 w' b l p' (if bad then none else (pairsF (l.drop p) 4).map valB).isNone x1 x6 (l6.set i (.int .i64 ((((if bad then none else (pairsF (l.drop p) 4).map valB).getD 0 : Nat)) : Int))) → Run K w' Q) :
    Run (M.bind (F.granaryref4_Reader_sum (.pointer (some ⟨b, 0, none⟩))) fun x8 => bindO (fieldA i (.pointer (some ⟨x6, 0, none⟩))) fun x9 => M.bind (stM 1 x9 x8) fun _ => K) w Q := by
  rw [Run_bind]
  refine (rsum_run h.rs h.hp hl).mono ?_
  rintro _ w2 ⟨rfl, ⟨p', rs, hp', _⟩, f⟩
  have h2 := h.call f rs hp'
  generalize (if bad = true then none else (pairsF (l.drop p) 4).map valB) = o at *
  rw [fieldA_ptr, Run_bindO_some, Run_bind, Run_stM (by rfl) (by rfl) ⟨⟨l6, h2.b6, by rw [h2.e6]; show 0 + i + 1 ≤ 4; omega⟩, h2.w6⟩]
  have h3 := h2.put6 (0 + i) (.int .i64 ((o.getD 0 : Nat) : Int))
  have q2 := q (sto w2 x6 (0 + i) [.int .i64 ((o.getD 0 : Nat) : Int)]) p'
  rw [Nat.zero_add] at h3 q2
  rw [Nat.zero_add]
  exact q2 h3
end
end Go.Proofs.YthlpfhjcdedhgaaDoor

/-
  Layer 4 (paper): part U: the document's note that is read: the walk.
-/
namespace Go.Proofs.YthlpfhjcdedhgaaDoor
open Go.Lift Go.Sort
set_option linter.unusedSimpArgs false
set_option linter.unusedVariables false
set_option maxHeartbeats 4000000
section
variable {w w1 w2 : World}
theorem note_parts (n : Nt) : noteL n = Lib.decDigits n.k.toNat ++ ([32] ++ (Lib.decDigits n.f.toNat ++ ([32] ++ (Lib.decDigits n.u.toNat ++ ([32] ++ (eightL n.c.toNat ++ ([32] ++ (eightL (crcF (sb (preL n))) ++ [10])))))))) := by
  simp [noteL, preL, sb]
theorem drop_more {l a r : List UInt8} {p : Nat} (h : l.drop p = a ++ r) : l.drop (p + a.length) = r := by
  rw [← List.drop_drop, h, List.drop_left]
/-- A number at a place where one is printed. -/
theorem num_step {l r : List UInt8} {p n : Nat} (hn : n < 10000000000000000) (h : l.drop p = Lib.decDigits n ++ ([32] ++ r)) : numF (rdD l p) = some n ∧ l.drop (p + (rdD l p).length) = [32] ++ r := by
  have e := rdD_dec hn h fun c hc => by cases hc; rfl
  rw [e]
  exact ⟨dec_num hn, drop_more h⟩
theorem lit_step {l r y : List UInt8} {p : Nat} (h : l.drop p = y ++ r) : y <+: l.drop p ∧ l.drop (p + y.length) = r := ⟨⟨r, h.symm⟩, drop_more h⟩
theorem rnote_run {b p : Nat} {l : List UInt8} (ht : Tb w) (h : RS w b l p false) (h5 : 5 ≤ b) (hp : p ≤ l.length) (hl : l.length ≤ 4611686018427387000) :
    Run (F.granaryref4_Reader_note (.pointer (some ⟨b, 0, none⟩))) w fun r w' => NoteR w w' b l p r := by
  unfold F.granaryref4_Reader_note
  rw [Run_bind]
  refine Run_new fun x1 wa hx1 hw1 fa hx1le => ?_
  have hRa : RS wa b l p false := ⟨fa.bk_some h.1 id, by rw [fa.wr (bk_lt h.1) id]; exact h.2⟩
  have nck : nilChk (.pointer (some ⟨b, 0, none⟩)) = some (.pointer (some ⟨b, 0, none⟩)) := rfl
  have z0 : buildV #[(Value.int IntKind.i64 0), (Value.int IntKind.i64 0), (Value.int IntKind.i64 0), (Value.int IntKind.i64 0)] [] = some (.agg #[(Value.int IntKind.i64 0), (Value.int IntKind.i64 0), (Value.int IntKind.i64 0), (Value.int IntKind.i64 0)]) := rfl
  have la : ld1 (.pointer (some ⟨b, 0 + 1, none⟩)) wa = some (.int .i64 (p : Int)) := by rw [ld1_ptr, hRa.1]; rfl
  rw [nck, Run_bindO_some, fieldA_ptr, Run_bindO_some, Run_bind, Run_rdM]
  refine ⟨_, la, ?_⟩
  rw [z0, Run_bindO_some, Run_bind]
  refine Run_new fun x6 wb hx6 hw6 fb hx6le => ?_
  rw [Run_bind, Run_stM (by rfl) (by rfl) ⟨⟨_, hx6, by simp⟩, hw6⟩]
  have lb := bk_lt h.1
  have l1 := bk_lt hx1
  have sa := fa.size
  have n0 : RN w (sto wb x6 0 (Value.agg #[(Value.int IntKind.i64 0), (Value.int IntKind.i64 0), (Value.int IntKind.i64 0), (Value.int IntKind.i64 0)]).cells.toList) b l p false x1 x6 [.int .i64 0, .int .i64 0, .int .i64 0, .int .i64 0] := by
    have f : Fr (fun c => c = x6) wb (sto wb x6 0 (Value.agg #[(Value.int IntKind.i64 0), (Value.int IntKind.i64 0), (Value.int IntKind.i64 0), (Value.int IntKind.i64 0)]).cells.toList) := (show Fr (fun c => c = x6) wb wb from Fr.refl _ _).sto (.inl rfl) _ _
    have h6 := bk_lt hx6
    have low := tb_low ht
    exact { tb := ((ht.fr0 fa).fr0 fb).fr f fun c hc he => by omega
            rs := ⟨f.bk_some (fb.bk_some hRa.1 id) fun e => by omega, by rw [wr_sto, fb.wr (bk_lt hRa.1) id]; exact hRa.2⟩
            hp := hp
            b1 := f.bk_some (fb.bk_some hx1 id) fun e => by omega
            w1 := by rw [wr_sto, fb.wr l1 id]; exact hw1
            b6 := by rw [bk_sto_same hx6]; rfl
            w6 := by rw [wr_sto]; exact hw6
            e6 := rfl, n1 := hx1le, n6 := by omega, ne := by omega, nb := lb, b5 := h5
            fr := ((fa.trans fb fun _ _ => id).mono fun _ h => h.elim).sto (.inr (by omega)) _ _ }
  have e32 : ByteArray.mk #[32] = sb [32] := rfl
  rw [e32]
  refine n0.num (by omega) (i := 0) (by decide) fun we n1 => ?_
  refine n1.lit (by omega) (by simp) fun we p2 n2 h2 => ?_
  refine n2.num (by omega) (i := 1) (by decide) fun we n3 => ?_
  refine n3.lit (by omega) (by simp) fun we p4 n4 h4 => ?_
  refine n4.num (by omega) (i := 2) (by decide) fun we n5 => ?_
  refine n5.lit (by omega) (by simp) fun we p6 n6 h6 => ?_
  refine n6.sum (by omega) (i := 3) (by decide) fun we p7 n7 => ?_
  have comp : ∀ n : Nt, n.ok → noteL n <+: l.drop p → numF (rdD l p) = some n.k.toNat ∧ numF (rdD l p2) = some n.f.toNat ∧ numF (rdD l p4) = some n.u.toNat ∧
      (((false || (numF (rdD l p)).isNone) || !decide ([32] <+: l.drop (p + (rdD l p).length))) = false ∧ ((((false || (numF (rdD l p)).isNone) || !decide ([32] <+: l.drop (p + (rdD l p).length))) || (numF (rdD l p2)).isNone) || !decide ([32] <+: l.drop (p2 + (rdD l p2).length))) = false) ∧ (((((((false || (numF (rdD l p)).isNone) || !decide ([32] <+: l.drop (p + (rdD l p).length))) || (numF (rdD l p2)).isNone) || !decide ([32] <+: l.drop (p2 + (rdD l p2).length))) || (numF (rdD l p4)).isNone) || !decide ([32] <+: l.drop (p4 + (rdD l p4).length))) = false) ∧ (pairsF (l.drop p6) 4).map valB = some n.c.toNat := by
    rintro n hn ⟨t, ht⟩
    rw [note_parts] at ht
    simp only [List.append_assoc] at ht
    obtain ⟨a1, a2⟩ := num_step (n := n.k.toNat) (by have := hn.1; omega) ht.symm
    obtain ⟨b1, b2⟩ := lit_step a2
    have e1 : ((false || (numF (rdD l p)).isNone) || !decide ([32] <+: l.drop (p + (rdD l p).length))) = false := by rw [a1, decide_eq_true b1]; rfl
    have q2 := h2 (by rw [a1]; rfl) b1
    rw [← q2] at b2
    obtain ⟨a3, a4⟩ := num_step (n := n.f.toNat) (by have := hn.2.1; omega) b2
    obtain ⟨b3, b4⟩ := lit_step a4
    have e2 : ((((false || (numF (rdD l p)).isNone) || !decide ([32] <+: l.drop (p + (rdD l p).length))) || (numF (rdD l p2)).isNone) || !decide ([32] <+: l.drop (p2 + (rdD l p2).length))) = false := by rw [e1, a3, decide_eq_true b3]; rfl
    have q4 := h4 (by rw [e1, a3]; rfl) b3
    rw [← q4] at b4
    obtain ⟨a5, a6⟩ := num_step (n := n.u.toNat) (by have := hn.2.2.1; omega) b4
    obtain ⟨b5, b6⟩ := lit_step a6
    have e3 : ((((((false || (numF (rdD l p)).isNone) || !decide ([32] <+: l.drop (p + (rdD l p).length))) || (numF (rdD l p2)).isNone) || !decide ([32] <+: l.drop (p2 + (rdD l p2).length))) || (numF (rdD l p4)).isNone) || !decide ([32] <+: l.drop (p4 + (rdD l p4).length))) = false := by rw [e2, a5, decide_eq_true b5]; rfl
    have q6 := h6 (by rw [e2, a5]; rfl) b5
    rw [← q6] at b6
    refine ⟨a1, a3, a5, ⟨e1, e2⟩, e3, ?_⟩
    rw [b6]
    exact eight_read (by have := hn.2.2.2; omega) _
  generalize hb6 : ((((((false || (numF (rdD l p)).isNone) || !decide ([32] <+: l.drop (p + (rdD l p).length))) || (numF (rdD l p2)).isNone) || !decide ([32] <+: l.drop (p2 + (rdD l p2).length))) || (numF (rdD l p4)).isNone) || !decide ([32] <+: l.drop (p4 + (rdD l p4).length))) = bad6 at *
  generalize ho : (if bad6 = true then none else (pairsF (l.drop p6) 4).map valB) = o at *
  have comp2 : ∀ n : Nt, n.ok → noteL n <+: l.drop p → numF (rdD l p) = some n.k.toNat ∧ numF (rdD l p2) = some n.f.toNat ∧ numF (rdD l p4) = some n.u.toNat ∧ o = some n.c.toNat := fun n hn hpre => by
    obtain ⟨c1, c2, c3, _, c5, c6⟩ := comp n hn hpre
    refine ⟨c1, c2, c3, ?_⟩
    rw [← ho, c5]
    exact c6
  clear comp h2 h4 h6
  generalize hnt : (⟨(((numF (rdD l p)).getD 0 : Nat) : Int), (((numF (rdD l p2)).getD 0 : Nat) : Int), (((numF (rdD l p4)).getD 0 : Nat) : Int), ((o.getD 0 : Nat) : Int)⟩ : Nt) = m
  have hmm : ∀ n : Nt, n.ok → noteL n <+: l.drop p → m = n := fun n hn hpre => by
    obtain ⟨c1, c2, c3, c4⟩ := comp2 n hn hpre
    rw [← hnt, c1, c2, c3, c4]
    exact Nt.cast hn
  have lbad : ld1 (.pointer (some ⟨b, 0 + 2, none⟩)) we = some (.bool o.isNone) := by rw [ld1_ptr, n7.rs.1]; rfl
  rw [Run_bindO_some, fieldA_ptr, Run_bindO_some, Run_bind, Run_rdM]
  refine ⟨_, lbad, ?_⟩
  have fail : ∀ (l6 : List Value) (bd : Bool) wz, RN w wz b l p7 bd x1 x6 l6 → (∀ n : Nt, n.ok → ¬ noteL n <+: l.drop p) → Run (stM 4 (.pointer (some ⟨x1, 0, none⟩)) (.agg #[(Value.int IntKind.i64 0), (Value.int IntKind.i64 0), (Value.int IntKind.i64 0), (Value.int IntKind.i64 0)])) wz fun _ w1 => Run (rdM (ldA 4 (.pointer (some ⟨x1, 0, none⟩)))) w1 fun a w' => NoteR w w' b l p (.tuple #[a, .int .i64 0]) := by
    intro l6 bd wz nz hno
    rw [Run_stM (by rfl) (by rfl) ⟨⟨_, nz.b1, by simp [Value.cells]⟩, nz.w1⟩, Run_rdM]
    have hb := bk_sto_same (o := 0) nz.b1 (Value.agg #[(Value.int IntKind.i64 0), (Value.int IntKind.i64 0), (Value.int IntKind.i64 0), (Value.int IntKind.i64 0)]).cells.toList
    refine ⟨_, ldA_bk hb (by first | exact Nat.le_refl _ | simp), ?_⟩
    exact ⟨⟨⟨0, 0, 0, 0⟩, 0, rfl, fun h => absurd rfl h, fun n hn he => absurd he (hno n hn)⟩, nz.fr.sto (.inr nz.n1) _ _⟩
  cases hb7 : o.isNone with
  | true =>
    rw [Run_condM_true, Run_bindO_some]
    simp only [Run_bind, Run_ret]
    refine fail _ _ we n7 fun n hn he => ?_
    obtain ⟨_, _, _, c4⟩ := comp2 n hn he
    rw [c4] at hb7; cases hb7
  | false =>
    rw [Run_condM_false, Run_bind, Run_rdM]
    have l6e := ldA_bk (o := 0) (n := 4) n7.b6 (by rw [n7.e6]; decide)
    replace l6e : ldA 4 (.pointer (some ⟨x6, 0, none⟩)) we = some m.v := by rw [← hnt]; exact l6e
    refine ⟨_, l6e, ?_⟩
    rw [Run_bind]
    refine (rprint_run n7.tb m).mono ?_
    rintro _ wf ⟨rfl, ff⟩
    have f2 : Fr (fun c => c = b) we wf := ff.mono fun _ h => h.elim
    have nf := n7.call f2 ⟨ff.bk_some n7.rs.1 id, by rw [ff.wr (bk_lt n7.rs.1) id]; exact n7.rs.2⟩ n7.hp
    have hbf := nf.rs.1
    by_cases hmo : m.ok
    · rw [noteO, if_pos hmo]
      have x0 : extV 0 (.tuple #[.string ⟨(noteL m).toArray⟩, .int .i64 0]) = some (.string (sb (noteL m))) := rfl
      have x1' : extV 1 (.tuple #[.string ⟨(noteL m).toArray⟩, .int .i64 0]) = some (.int .i64 0) := rfl
      rw [x0, Run_bindO_some, x1', Run_bindO_some]
      have hlen : (sb l).size = l.length := sb_size l
      have hlm : (sb (noteL m)).size = (noteL m).length := sb_size _
      have hml : (noteL m).length ≤ 100 := by
        have h1 := pre_len m hmo
        have h2 : (eightL (crcF ⟨(preL m).toArray⟩)).length = 8 := lowD_len _ _
        simp only [noteL, List.length_append, h2, List.length_singleton]
        omega
      have ws : IntKind.i64.wrap ((l.length : Int) - p) = ((l.length - p : Nat) : Int) := by rw [show (l.length : Int) - p = ((l.length - p : Nat) : Int) by omega]; exact i64W (by omega)
      have wa : IntKind.i64.wrap ((p : Int) + (noteL m).length) = ((p + (noteL m).length : Nat) : Int) := by rw [show (p : Int) + (noteL m).length = ((p + (noteL m).length : Nat) : Int) by omega]; exact i64W (by omega)
      have hs0 : (bk wf b).bind (fun x => x[0]?) = some (.string (sb l)) := by rw [hbf]; rfl
      have h00 : (!decide ((0 : Int) = 0)) = false := by decide
      by_cases h1 : l.length - p < (noteL m).length
      · have h1' : ((l.length - p : Nat) : Int) < (noteL m).length := by omega
        simp [-ldA_ptr, -Run_stM_iff, -binV_str, hbf, hlen, hlm, ws, h1']
        have := fail _ _ wf nf fun n hn he => by
          have h2 := he.length_le
          rw [List.length_drop] at h2
          rw [← hmm n hn he] at h2
          omega
        simp only [Run_rdM] at this
        exact this
      · have h1' : ¬ ((l.length - p : Nat) : Int) < (noteL m).length := by omega
        have hsl := slBoth (l := l) (n := p) (m := p + (noteL m).length) (by omega) (by omega)
        rw [show (l.take (p + (noteL m).length)).drop p = (l.drop p).take (noteL m).length by rw [List.drop_take, Nat.add_sub_cancel_left]] at hsl
        have hpre := prefix_take (p := noteL m) (l := l.drop p) (by rw [List.length_drop]; omega)
        by_cases h2 : (l.drop p).take (noteL m).length = noteL m
        · have l6f := ldA_bk (o := 0) (n := 4) nf.b6 (by rw [nf.e6]; decide)
          replace l6f : ldA 4 (.pointer (some ⟨x6, 0, none⟩)) wf = some m.v := by rw [← hnt]; exact l6f
          simp [-ldA_ptr, -Run_stM_iff, -binV_str, -Int.natCast_add, sbNe, hbf, hlen, hlm, ws, wa, hsl, h1', h2, l6f]
          rw [Run_stM (by rfl) (by rfl) ⟨⟨_, nf.b1, by simp [Nt.v, Value.cells]⟩, nf.w1⟩]
          have hb := bk_sto_same (o := 0) nf.b1 m.v.cells.toList
          refine ⟨_, ldA_bk hb (by first | exact Nat.le_refl _ | simp), ?_⟩
          exact ⟨⟨m, (noteL m).length, rfl, fun _ => ⟨hmo, hpre.2 h2, rfl⟩, fun n hn he => ⟨hmm n hn he, by rw [hmm n hn he]⟩⟩, nf.fr.sto (.inr nf.n1) _ _⟩
        · simp [-ldA_ptr, -Run_stM_iff, -binV_str, -Int.natCast_add, sbNe, hbf, hlen, hlm, ws, wa, hsl, h1', h2]
          have := fail _ _ wf nf fun n hn he => by
            rw [← hmm n hn he] at he
            exact h2 (hpre.1 he)
          simp only [Run_rdM] at this
          exact this
    · rw [noteO, if_neg hmo]
      have x0 : extV 0 (.tuple #[.string (ByteArray.mk #[]), .int .i64 42]) = some (.string (ByteArray.mk #[])) := rfl
      have x1' : extV 1 (.tuple #[.string (ByteArray.mk #[]), .int .i64 42]) = some (.int .i64 42) := rfl
      rw [x0, Run_bindO_some, x1', Run_bindO_some]
      have h42 : (!decide ((42 : Int) = 0)) = true := by decide
      simp only [binV_int, intBin_neq, h42, Run_bindO_some, Run_bind, Run_guardM_tf, pickV_bool, cond_true, Run_condM_true, Run_ret]
      exact fail _ _ wf nf fun n hn he => hmo (hmm n hn he ▸ hn)
end
end Go.Proofs.YthlpfhjcdedhgaaDoor

/-
  Layer 4 (paper): part V: all notes that a text begins with, on both sides.
-/
namespace Go.Proofs.YthlpfhjcdedhgaaDoor
open Go.Lift Go.Sort
set_option linter.unusedSimpArgs false
set_option linter.unusedVariables false
set_option maxHeartbeats 4000000
def allL (ns : List Nt) : List UInt8 := (ns.map noteL).flatten
/-- The notes that a text begins with. -/
structure Chn (l : List UInt8) (ns : List Nt) : Prop where
  ok : ∀ n ∈ ns, n.ok
  pre : allL ns <+: l
  far : ∀ n : Nt, n.ok → ¬ noteL n <+: l.drop (allL ns).length
theorem note_len (n : Nt) : 1 ≤ (noteL n).length := by simp [noteL]; omega
theorem chain_ex : ∀ (k : Nat) (l : List UInt8), l.length ≤ k → ∃ ns, Chn l ns
  | 0, l, h => ⟨[], ⟨fun _ h => (nomatch h), List.nil_prefix, fun n _ hp => by
      have h1 := hp.length_le
      have h2 := note_len n
      rw [List.length_drop] at h1; omega⟩⟩
  | k + 1, l, h => by
    by_cases hg : ∃ n : Nt, n.ok ∧ noteL n <+: l
    · obtain ⟨n, hn, t, ht⟩ := hg
      have h1 := note_len n
      obtain ⟨ns, c1, c2, c3⟩ := chain_ex k t (by rw [← ht, List.length_append] at h; omega)
      refine ⟨n :: ns, fun m hm => ?_, ?_, fun m hm => ?_⟩
      · rcases List.mem_cons.1 hm with rfl | hm
        · exact hn
        · exact c1 m hm
      · obtain ⟨r, hr⟩ := c2
        exact ⟨r, by rw [← ht, ← hr]; simp [allL]⟩
      · have := c3 m hm
        rw [← ht]
        have e : (noteL n ++ t).drop (allL (n :: ns)).length = t.drop (allL ns).length := by
          simp only [allL, List.map_cons, List.flatten_cons, List.length_append, List.drop_append]
          rw [List.drop_of_length_le (by omega)]
          simp
        rw [e]; exact this
    · refine ⟨[], ⟨fun _ h => (nomatch h), List.nil_prefix, fun n hn hp => hg ⟨n, hn, by simpa [allL] using hp⟩⟩⟩
theorem Chn.at {l : List UInt8} {ns : List Nt} (h : Chn l ns) {i : Nat} {n : Nt} (hi : ns[i]? = some n) : n.ok ∧ noteL n <+: l.drop (allL (ns.take i)).length ∧ allL (ns.take (i + 1)) = allL (ns.take i) ++ noteL n ∧ (allL (ns.take i)).length + (noteL n).length ≤ l.length := by
  have e : allL (ns.take (i + 1)) = allL (ns.take i) ++ noteL n := by
    rw [take_snocP hi]; simp [allL]
  have hsplit : allL ns = allL (ns.take (i + 1)) ++ allL (ns.drop (i + 1)) := by
    unfold allL
    rw [← List.flatten_append, ← List.map_append, List.take_append_drop]
  obtain ⟨r, hr⟩ := h.pre
  rw [hsplit, e] at hr
  refine ⟨h.ok n (List.mem_of_getElem? hi), ⟨allL (ns.drop (i + 1)) ++ r, ?_⟩, e, ?_⟩
  · rw [← hr]; simp
  · rw [← hr, List.length_append, List.length_append, List.length_append]; omega
theorem Chn.count {l : List UInt8} {ns : List Nt} (h : Chn l ns) : ns.length ≤ l.length := by
  have h1 := h.pre.length_le
  have h2 : ∀ ns : List Nt, ns.length ≤ (allL ns).length := fun ns => by
    induction ns with
    | nil => simp
    | cons n ns ih =>
      have := note_len n
      simp only [allL, List.map_cons, List.flatten_cons, List.length_append, List.length_cons] at ih ⊢
      omega
  have := h2 ns
  omega
theorem nt_line (n : Nt) : noteL n = jn 32 (wordsL n) ++ 10 :: [] := note_words n
section
variable {w w1 w2 : World}
def Nt.row (n : Nt) : List Value := [.int .i64 n.k, .int .i64 n.f, .int .i64 n.u, .int .i64 n.c]
/-- A list of notes of one's own. -/
structure OwnN (w w1 : World) (v : Value) (ns : List Nt) : Prop where
  sl : SlW 4 w1 v (ns.map Nt.row)
  fresh : ∀ c, inB v c → w.heap.size ≤ c ∧ c < w1.heap.size
  fr : Fr (fun _ => False) w w1
theorem OwnN.frm {v : Value} {ns : List Nt} (h : OwnN w w1 v ns) (f : Fr (fun _ => False) w1 w2) : OwnN w w2 v ns := ⟨h.sl.fr f fun _ _ => id, fun c hc => ⟨(h.fresh c hc).1, Nat.lt_of_lt_of_le (h.fresh c hc).2 f.size⟩, h.fr.trans f fun _ _ => id⟩
theorem ownN_app {v : Value} {ns : List Nt} (h : OwnN w w1 v ns) (n : Nt) {a1 a2 : Nat} (hl : ns.length ≤ 4294967296) {K : Value → World → Prop} (q : ∀ r w2, OwnN w w2 r (ns ++ [n]) → Fr (inB v) w1 w2 → K r w2) :
    Run (bslM a1 1 (Builtin.zeroCells #[(Value.int IntKind.i64 0), (Value.int IntKind.i64 0), (Value.int IntKind.i64 0), (Value.int IntKind.i64 0)] 1) [(0, 4, n.v)]) w1 fun a w2 => Run (appM a2 4 32 #[(Value.int IntKind.i64 0), (Value.int IntKind.i64 0), (Value.int IntKind.i64 0), (Value.int IntKind.i64 0)] v a) w2 fun r w' => K r w' := by
  refine Run_app1 (K := fun _ r w' => K r w') (k := 4) (y := n.v) rfl h.sl (by decide) rfl (by decide) rfl (by simp only [List.length_map]; omega) fun r w2 hr f2 hin w3 f3 => q r w2 ?_ f2
  have s := f2.size
  refine ⟨by rw [List.map_append]; exact hr, fun c hc => ?_, h.fr.new f2 fun c hc => (h.fresh c hc).1⟩
  have s0 := h.fr.size
  rcases hin c hc with hc | hc
  · have := h.fresh c hc; omega
  · omega
/-- What is answered for a text. -/
structure ParP (w w' : World) (l : List UInt8) (r : Value) : Prop where
  val : ∃ v ns, r = .tuple #[v, .int .i64 (((allL ns).length : Nat) : Int)] ∧ Chn l ns ∧ SlW 4 w' v (ns.map Nt.row) ∧ ∀ c, inB v c → w.heap.size ≤ c ∧ c < w'.heap.size
  fr : Fr (fun _ => False) w w'
theorem parse_run (ht : Tb w) {l : List UInt8} (hl : l.length ≤ 4294966000) {ns : List Nt} (hc : Chn l ns) : Run (F.paper_ParseNotes (.string (sb l))) w fun r w' => ∃ v, r = .tuple #[v, .int .i64 (((allL ns).length : Nat) : Int)] ∧ OwnN w w' v ns := by
  unfold F.paper_ParseNotes
  rw [Run_bind]
  have hcn := hc.count
  have e10 : ByteArray.mk #[10] = sb [10] := rfl
  rw [e10]
  refine Run_for ns.length (fun i L w' => ∃ v, L = [v, .int .i64 (((allL (ns.take i)).length : Nat) : Int)] ∧ OwnN w w' v (ns.take i)) ⟨_, rfl, SlW.nil _ _, fun _ h => h.elim, Fr.refl _ _⟩ ?_ ?_
  · rintro i L w1 hi ⟨v, rfl, hO⟩
    obtain ⟨n, hn⟩ : ∃ n, ns[i]? = some n := ⟨_, List.getElem?_eq_getElem hi⟩
    obtain ⟨hok, ⟨t, ht2⟩, hnext, hle⟩ := hc.at hn
    rw [hnext, List.length_append, take_snocP hn]
    have hcut : cutL 10 (l.drop (allL (ns.take i)).length) = some (jn 32 (wordsL n), t) := by
      rw [← ht2, nt_line]
      simp only [List.append_assoc, List.cons_append, List.nil_append]
      exact cut_at (no10w n)
    have hnl := nt_line n
    have hlen : (noteL n).length = (jn 32 (wordsL n)).length + 1 := by rw [hnl]; simp
    generalize (allL (ns.take i)).length = p at *
    have hsl := slFrom (l := l) (n := p) (by omega)
    have hdl : (l.drop p).length ≤ l.length := by rw [List.length_drop]; omega
    rw [getL_succ, getL_zero, hsl, Run_bindO_some, Run_bind]
    refine (cut_run (l.drop p) 10 (by omega)).mono ?_
    rintro _ w2 ⟨rfl, f2⟩
    rw [hcut]
    have t2 := (ht.fr0 hO.fr).fr0 f2
    have x0 : extV 0 (.tuple #[.string (sb (jn 32 (wordsL n))), .string (sb t), .bool true]) = some (.string (sb (jn 32 (wordsL n)))) := rfl
    have x1 : extV 1 (.tuple #[.string (sb (jn 32 (wordsL n))), .string (sb t), .bool true]) = some (.string (sb t)) := rfl
    have x2 : extV 2 (.tuple #[.string (sb (jn 32 (wordsL n))), .string (sb t), .bool true]) = some (.bool true) := rfl
    have ec : cutV (l.drop p) (some (jn 32 (wordsL n), t)) = .tuple #[.string (sb (jn 32 (wordsL n))), .string (sb t), .bool true] := rfl
    rw [ec]
    rw [x0, Run_bindO_some, x1, Run_bindO_some, x2, Run_bindO_some, Run_bind]
    refine (note_run t2 (jn 32 (wordsL n)) (by omega)).mono ?_
    rintro _ w3 ⟨⟨m, b, rfl, hb1, hb2⟩, f3⟩
    obtain ⟨rfl, rfl⟩ := hb2 n hok hnl
    have y0 : extV 0 (.tuple #[m.v, .bool true]) = some m.v := rfl
    have y1 : extV 1 (.tuple #[m.v, .bool true]) = some (.bool true) := rfl
    rw [y0, Run_bindO_some, y1, Run_bindO_some, Run_bind]
    refine Run_new fun x10 w4 hx10 hw10 f4 hxle => ?_
    rw [Run_bind, Run_stM (by rfl) (by rfl) ⟨⟨_, hx10, by simp [Nt.v, Value.cells]⟩, hw10⟩]
    have hb := bk_sto_same (o := 0) hx10 m.v.cells.toList
    have f5 : Fr (fun _ => False) w3 (sto w4 x10 0 m.v.cells.toList) := f4.sto (.inr hxle) _ _
    have hO5 := ((hO.frm f2).frm f3).frm f5
    have l10 : ldA 4 (.pointer (some ⟨x10, 0, none⟩)) (sto w4 x10 0 m.v.cells.toList) = some m.v := ldA_bk hb (by first | exact Nat.le_refl _ | simp)
    generalize sto w4 x10 0 m.v.cells.toList = w5 at *
    have nv : notV (.bool true) = some (.bool false) := rfl
    simp only [nv, Run_bindO_some, Run_bind, Run_guardM_ff, Run_ret, Run_optM_some, pickV_bool, cond_false, Run_condM_false, Run_rdM]
    refine ⟨_, l10, ?_⟩
    rw [getL_zero]
    refine ownN_app hO5 m (by rw [List.length_take]; omega) fun r w6 h6 _ => ?_
    have hw1 : IntKind.i64.wrap (((jn 32 (wordsL m)).length : Int) + 1) = (((jn 32 (wordsL m)).length + 1 : Nat) : Int) := wrap_succ' (by omega)
    have hw2 : IntKind.i64.wrap ((p : Int) + (((jn 32 (wordsL m)).length + 1 : Nat) : Int)) = ((p + ((jn 32 (wordsL m)).length + 1) : Nat) : Int) := by rw [show (p : Int) + (((jn 32 (wordsL m)).length + 1 : Nat) : Int) = ((p + ((jn 32 (wordsL m)).length + 1) : Nat) : Int) by omega]; exact i64W (by omega)
    rw [lenS_string, sb_size, Run_bindO_some, binV_int, intBin_add, hw1, Run_bindO_some, binV_int, intBin_add, hw2, Run_bindO_some, Run_ret, hlen]
    exact ⟨r, rfl, h6⟩
  · rintro L w1 ⟨v, rfl, hO⟩
    rw [List.take_length] at hO ⊢
    have hpl := hc.pre.length_le
    have hfar := hc.far
    generalize (allL ns).length = p at *
    have hsl := slFrom (l := l) (n := p) hpl
    have hdl : (l.drop p).length ≤ l.length := by rw [List.length_drop]; omega
    rw [getL_succ, getL_zero, hsl, Run_bindO_some, Run_bind]
    refine (cut_run (l.drop p) 10 (by omega)).mono ?_
    rintro _ w2 ⟨rfl, f2⟩
    have t2 := (ht.fr0 hO.fr).fr0 f2
    obtain ⟨s, t, e, hcv, hlen, hgood⟩ : ∃ (s t : List UInt8) (e : Bool), cutV (l.drop p) (cutL 10 (l.drop p)) = .tuple #[.string (sb s), .string (sb t), .bool e] ∧ s.length ≤ l.length ∧ (e = true → l.drop p = s ++ 10 :: t) := by
      cases hcu : cutL 10 (l.drop p) with
      | some q =>
        have := (cut_some (x := q.1) (y := q.2) hcu).1
        refine ⟨q.1, q.2, true, rfl, ?_, fun _ => this⟩
        have h2 := congrArg List.length this
        rw [List.length_append] at h2
        omega
      | none => exact ⟨_, [], false, rfl, hdl, fun h => Bool.noConfusion h⟩
    rw [hcv]
    have x0 : extV 0 (.tuple #[.string (sb s), .string (sb t), .bool e]) = some (.string (sb s)) := rfl
    have x1 : extV 1 (.tuple #[.string (sb s), .string (sb t), .bool e]) = some (.string (sb t)) := rfl
    have x2 : extV 2 (.tuple #[.string (sb s), .string (sb t), .bool e]) = some (.bool e) := rfl
    rw [x0, Run_bindO_some, x1, Run_bindO_some, x2, Run_bindO_some, Run_bind]
    refine (note_run t2 s (by omega)).mono ?_
    rintro _ w3 ⟨⟨m, b, rfl, hb1, hb2⟩, f3⟩
    have heb : (!e || !b) = true := by
      cases e with
      | false => rfl
      | true =>
        cases b with
        | false => rfl
        | true =>
          obtain ⟨hok, hnl⟩ := hb1 rfl
          exact absurd ⟨t, by rw [hgood rfl, hnl]; simp⟩ (hfar m hok)
    have y0 : extV 0 (.tuple #[m.v, .bool b]) = some m.v := rfl
    have y1 : extV 1 (.tuple #[m.v, .bool b]) = some (.bool b) := rfl
    rw [y0, Run_bindO_some, y1, Run_bindO_some, Run_bind]
    refine Run_new fun x10 w4 hx10 hw10 f4 hxle => ?_
    rw [Run_bind, Run_stM (by rfl) (by rfl) ⟨⟨_, hx10, by simp [Nt.v, Value.cells]⟩, hw10⟩]
    have f5 : Fr (fun _ => False) w3 (sto w4 x10 0 m.v.cells.toList) := f4.sto (.inr hxle) _ _
    have hO5 := ((hO.frm f2).frm f3).frm f5
    generalize sto w4 x10 0 m.v.cells.toList = w5 at *
    have nv : ∀ b, notV (.bool b) = some (.bool !b) := fun _ => rfl
    have hret : ∀ K, Run (condM (.bool true) (M.ret (Out.ret (Value.tuple #[getL [v, .int .i64 (p : Int)] 0, getL [v, .int .i64 (p : Int)] 1]))) K) w5 fun o w' => match o with
        | .norm _ => False
        | o => Run (outK o (fun _ => M.fail) (fun _ _ => M.fail) fun r25 => M.ret r25) w' fun r w' => ∃ v, r = .tuple #[v, .int .i64 (p : Int)] ∧ OwnN w w' v ns := fun K => by
      rw [Run_condM_true, Run_ret]
      simp only [outK_ret, Run_ret, getL_zero, getL_succ]
      exact ⟨v, rfl, hO5⟩
    cases e with
    | false =>
      simp only [nv, Bool.not_false, Run_bindO_some, Run_bind, Run_guardM_tf, pickV_bool, cond_true]
      exact hret _
    | true =>
      cases b with
      | true => simp at heb
      | false =>
        simp only [nv, Bool.not_true, Bool.not_false, Run_bindO_some, Run_bind, Run_guardM_ff, Run_ret, Run_optM_some, pickV_bool, cond_false]
        exact hret _
end
end Go.Proofs.YthlpfhjcdedhgaaDoor

/-
  Layer 4 (paper): part W: the document's notes of a text; the law of notes.
-/
namespace Go.Proofs.YthlpfhjcdedhgaaDoor
open Go.Lift Go.Sort
set_option linter.unusedSimpArgs false
set_option linter.unusedVariables false
set_option maxHeartbeats 4000000
section
variable {w w1 w2 : World}
theorem rparse_run (ht : Tb w) {l : List UInt8} (hl : l.length ≤ 4294966000) {ns : List Nt} (hc : Chn l ns) : Run (F.granaryref4_ParseNotes (.string (sb l))) w fun r w' => ∃ v, r = .tuple #[v, .int .i64 (((allL ns).length : Nat) : Int)] ∧ OwnN w w' v ns := by
  unfold F.granaryref4_ParseNotes
  rw [Run_bind]
  have hcn := hc.count
  have hpl := hc.pre.length_le
  have bld : ∀ p : Nat, buildV #[(Value.string ByteArray.empty), (Value.int IntKind.i64 0), (Value.bool false)] [(0, 1, .string (sb l)), (1, 1, (.int .i64 (p : Int)))] = some (.agg #[.string (sb l), .int .i64 (p : Int), .bool false]) := fun p => rfl
  have read : ∀ {w1 : World} {v : Value} {ms : List Nt} {p : Nat}, OwnN w w1 v ms → p ≤ l.length → ∀ {β : Type} {K : Value → M β} {Q : β → World → Prop},
      (∀ (m : Nt) (k : Nat) w2, OwnN w w2 v ms → (k ≠ 0 → m.ok ∧ noteL m <+: l.drop p ∧ k = (noteL m).length) → (∀ n : Nt, n.ok → noteL n <+: l.drop p → m = n ∧ k = (noteL n).length) → Run (K (.tuple #[m.v, .int .i64 (k : Int)])) w2 Q) →
      Run (M.bind (newM 87 (Value.cells (.agg #[.string (sb l), .int .i64 (p : Int), .bool false]))) fun x5 => M.bind (F.granaryref4_Reader_note x5) K) w1 Q := by
    intro w1 v ms p hO hp β K Q q
    rw [Run_bind]
    refine Run_new fun b w2 hb hw f2 hble => ?_
    have t2 := (ht.fr0 hO.fr).fr0 f2
    have low := tb_low (ht.fr0 hO.fr)
    rw [Run_bind]
    refine (rnote_run t2 (show RS w2 b l p false from ⟨hb, hw⟩) (by omega) hp (by omega)).mono ?_
    rintro _ w3 ⟨⟨m, k, rfl, h1, h2⟩, f3⟩
    have f4 : Fr (fun _ => False) w1 w3 := f2.new f3 fun c hc => by omega
    exact q m k w3 (hO.frm f4) h1 h2
  refine Run_for ns.length (fun i L w' => ∃ v, L = [v, .int .i64 (((allL (ns.take i)).length : Nat) : Int)] ∧ OwnN w w' v (ns.take i)) ⟨_, rfl, SlW.nil _ _, fun _ h => h.elim, Fr.refl _ _⟩ ?_ ?_
  · rintro i L w1 hi ⟨v, rfl, hO⟩
    obtain ⟨n, hn⟩ : ∃ n, ns[i]? = some n := ⟨_, List.getElem?_eq_getElem hi⟩
    obtain ⟨hok, hpre, hnext, hle⟩ := hc.at hn
    have hn1 := note_len n
    rw [hnext, List.length_append, take_snocP hn]
    generalize (allL (ns.take i)).length = p at *
    have hlt : (p : Int) < l.length := by omega
    rw [lenS_string, sb_size, Run_bindO_some, getL_succ, getL_zero, lssT hlt, Run_bindO_some, Run_condM_true, bld, Run_bindO_some]
    refine read hO (by omega) fun m k w2 hO2 h1 h2 => ?_
    obtain ⟨rfl, rfl⟩ := h2 n hok hpre
    have y0 : extV 0 (.tuple #[m.v, .int .i64 (((noteL m).length : Nat) : Int)]) = some m.v := rfl
    have y1 : extV 1 (.tuple #[m.v, .int .i64 (((noteL m).length : Nat) : Int)]) = some (.int .i64 (((noteL m).length : Nat) : Int)) := rfl
    rw [y0, Run_bindO_some, y1, Run_bindO_some, Run_bind]
    refine Run_new fun x10 w4 hx10 hw10 f4 hxle => ?_
    rw [Run_bind, Run_stM (by rfl) (by rfl) ⟨⟨_, hx10, by simp [Nt.v, Value.cells]⟩, hw10⟩]
    have hb := bk_sto_same (o := 0) hx10 m.v.cells.toList
    have f5 : Fr (fun _ => False) w2 (sto w4 x10 0 m.v.cells.toList) := f4.sto (.inr hxle) _ _
    have hO5 := hO2.frm f5
    have l10 : ldA 4 (.pointer (some ⟨x10, 0, none⟩)) (sto w4 x10 0 m.v.cells.toList) = some m.v := ldA_bk hb (by first | exact Nat.le_refl _ | simp)
    generalize sto w4 x10 0 m.v.cells.toList = w5 at *
    have hk0 : ¬ (((noteL m).length : Nat) : Int) = 0 := by omega
    simp only [binV_int, intBin_eql, hk0, decide_false, Run_bindO_some, Run_bind, Run_condM_false, Run_rdM]
    refine ⟨_, l10, ?_⟩
    rw [getL_zero]
    refine ownN_app hO5 m (by rw [List.length_take]; omega) fun r w6 h6 _ => ?_
    have hw2 : IntKind.i64.wrap ((p : Int) + (((noteL m).length : Nat) : Int)) = ((p + (noteL m).length : Nat) : Int) := by rw [show (p : Int) + (((noteL m).length : Nat) : Int) = ((p + (noteL m).length : Nat) : Int) by omega]; exact i64W (by omega)
    simp only [binV_int, intBin_add, hw2, Run_bindO_some, Run_ret]
    exact ⟨r, rfl, h6⟩
  · rintro L w1 ⟨v, rfl, hO⟩
    rw [List.take_length] at hO ⊢
    have hfar := hc.far
    generalize (allL ns).length = p at *
    by_cases hlt' : p < l.length
    · have hlt : (p : Int) < l.length := by omega
      rw [lenS_string, sb_size, Run_bindO_some, getL_succ, getL_zero, lssT hlt, Run_bindO_some, Run_condM_true, bld, Run_bindO_some]
      refine read hO (by omega) fun m k w2 hO2 h1 h2 => ?_
      have hk : k = 0 := by
        by_cases hk : k = 0
        · exact hk
        · obtain ⟨q1, q2, _⟩ := h1 hk
          exact absurd q2 (hfar m q1)
      subst hk
      have y0 : extV 0 (.tuple #[m.v, .int .i64 ((0 : Nat) : Int)]) = some m.v := rfl
      have y1 : extV 1 (.tuple #[m.v, .int .i64 ((0 : Nat) : Int)]) = some (.int .i64 0) := rfl
      rw [y0, Run_bindO_some, y1, Run_bindO_some, Run_bind]
      refine Run_new fun x10 w4 hx10 hw10 f4 hxle => ?_
      rw [Run_bind, Run_stM (by rfl) (by rfl) ⟨⟨_, hx10, by simp [Nt.v, Value.cells]⟩, hw10⟩]
      have f5 : Fr (fun _ => False) w2 (sto w4 x10 0 m.v.cells.toList) := f4.sto (.inr hxle) _ _
      have hO5 := hO2.frm f5
      generalize sto w4 x10 0 m.v.cells.toList = w5 at *
      simp only [binV_int, intBin_eql, decide_true, Run_bindO_some, Run_condM_true, Run_ret, outK_ret, getL_zero]
      exact ⟨v, rfl, hO5⟩
    · have hlt : ¬ (p : Int) < l.length := by omega
      rw [lenS_string, sb_size, Run_bindO_some, getL_succ, getL_zero, lssF hlt, Run_bindO_some, Run_condM_false, Run_ret]
      simp only [outK_exit, getL_zero, getL_succ]
      rw [show Nat.beq 0 0 = true from rfl, cond_true, Run_ret]
      exact ⟨v, rfl, hO⟩
theorem neRow (n : Nt) : neV (EqSh.offs [(EqK.int, 0), (EqK.int, 1), (EqK.int, 2), (EqK.int, 3)]) (.agg n.row.toArray) (.agg n.row.toArray) = some (.bool false) := by
  simp [Nt.row, eqOffs, eqPrim]
theorem same_run {u v : Value} {ns : List Nt} (hu : Sl 4 w u (ns.map Nt.row)) (hv : Sl 4 w v (ns.map Nt.row)) (hl : ns.length ≤ 4294967296) : Run (F.granarylaw4_sameNotes u v) w fun r w' => r = .bool true ∧ Fr (fun _ => False) w w' := by
  unfold F.granarylaw4_sameNotes
  have lu := hu.lenL
  have lv := hv.lenL
  rw [List.length_map] at lu lv
  have hne : (!decide (((ns.length : Nat) : Int) = ns.length)) = false := by simp
  rw [lu, Run_bindO_some, lv, Run_bindO_some, binV_int, intBin_neq, hne, Run_bindO_some, Run_condM_false, Run_bind]
  refine Run_for ns.length (fun i L w' => L = [.int .i64 (i : Int)] ∧ Fr (fun _ => False) w w') ⟨rfl, Fr.refl _ _⟩ ?_ ?_
  · rintro i L w1 hi ⟨rfl, f1⟩
    obtain ⟨n, hn⟩ : ∃ n, ns[i]? = some n := ⟨_, List.getElem?_eq_getElem hi⟩
    have hil : (i : Int) < ns.length := by omega
    have f2 : Fr (fun _ => False) w w1.drew := f1.drew
    obtain ⟨p, p1, p2⟩ := (hu.fr0 f2).rdA (by decide) (i := i) (e := n.row) (by simp [hn]) .i64
    obtain ⟨q, q1, q2⟩ := (hv.fr0 f2).rdA (by decide) (i := i) (e := n.row) (by simp [hn]) .i64
    have p1' : idxA 4 u (.int .i64 (i : Int)) = some p := p1
    have q1' : idxA 4 v (.int .i64 (i : Int)) = some q := q1
    have wi := wrap_succ' (n := i) (by omega)
    rw [Run_bindO_some, getL_zero, lssT hil, Run_bindO_some, Run_condM_true, Run_drewM, p1', Run_bindO_some, Run_bind, Run_rdM]
    refine ⟨_, p2, ?_⟩
    rw [q1', Run_bindO_some, Run_bind, Run_rdM]
    refine ⟨_, q2, ?_⟩
    rw [neRow, Run_bindO_some, Run_condM_false, binV_int, intBin_add, wi, Run_bindO_some, Run_ret]
    exact ⟨rfl, f2⟩
  · rintro L w1 ⟨rfl, f1⟩
    have hn : ¬ ((ns.length : Nat) : Int) < ns.length := by omega
    rw [Run_bindO_some, getL_zero, lssF hn, Run_bindO_some, Run_condM_false, Run_ret]
    simp only [outK_exit]
    rw [show Nat.beq 0 0 = true from rfl, cond_true, Run_ret]
    exact ⟨rfl, f1⟩
theorem answer_run (ht : Tb w) {l : List UInt8} (hl : l.length ≤ 4294966000) : Run (F.granarylaw4_notesAnswer (.string (sb l))) w fun r w' => r = .bool true ∧ Fr (fun _ => False) w w' := by
  unfold F.granarylaw4_notesAnswer
  obtain ⟨ns, hc⟩ := chain_ex l.length l (Nat.le_refl _)
  have hcn := hc.count
  rw [Run_bind]
  refine (parse_run ht hl hc).mono ?_
  rintro _ w1 ⟨u, rfl, h1⟩
  have y0 : ∀ v x, extV 0 (.tuple #[v, x]) = some v := fun _ _ => rfl
  have y1 : ∀ v x, extV 1 (.tuple #[v, x]) = some x := fun _ _ => rfl
  rw [y0, Run_bindO_some, y1, Run_bindO_some, Run_bind]
  refine (rparse_run (ht.fr0 h1.fr) hl hc).mono ?_
  rintro _ w2 ⟨v, rfl, h2⟩
  rw [y0, Run_bindO_some, y1, Run_bindO_some, Run_bind]
  refine (same_run (h1.sl.1.fr0 h2.fr) h2.sl.1 (by omega)).mono ?_
  rintro _ w3 ⟨rfl, f3⟩
  simp only [Run_bind, Run_guardM_tt, Run_ret, binV_int, intBin_eql, decide_true, Run_optM_some, pickV_bool, cond_true, Run_bindO_some]
  exact ⟨trivial, (h1.fr.trans h2.fr fun _ _ => id).trans f3 fun _ _ => id⟩
theorem notes_walk (ht : Tb w) (n : Nt) {l : List UInt8} (hl : l.length ≤ 4294960000) : Run (F.granarylaw4_PaperNotes n.v (.string (sb l))) w fun r w' => r = .bool true ∧ Fr (fun _ => False) w w' := by
  unfold F.granarylaw4_PaperNotes
  rw [Run_bind]
  refine Run_new fun x w1 hx hxw f1 hxle => ?_
  have hx1 : ldA 4 (.pointer (some ⟨x, 0, none⟩)) w1 = some n.v := ldA_bk hx (Nat.le_refl _)
  have t1 := ht.fr0 f1
  rw [Run_bind, Run_rdM]
  refine ⟨_, hx1, ?_⟩
  rw [Run_bind]
  refine (print_run t1 n).mono ?_
  rintro _ w2 ⟨rfl, f2⟩
  have t2 := t1.fr0 f2
  have hx2 : ldA 4 (.pointer (some ⟨x, 0, none⟩)) w2 = some n.v := ldA_bk (f2.bk_some hx id) (Nat.le_refl _)
  obtain ⟨tx, e, hno, htx⟩ : ∃ (t : List UInt8) (e : Int), noteO n = .tuple #[.string (sb t), .int .i64 e] ∧ t.length ≤ 200 := by
    unfold noteO
    by_cases hn : n.ok
    · rw [if_pos hn]
      refine ⟨_, _, rfl, ?_⟩
      have h1 := pre_len n hn
      have h2 : (eightL (crcF ⟨(preL n).toArray⟩)).length = 8 := lowD_len _ _
      simp only [noteL, List.length_append, h2, List.length_singleton]
      omega
    · rw [if_neg hn]
      exact ⟨[], _, rfl, by simp⟩
  have y0 : ∀ v x, extV 0 (.tuple #[v, x]) = some v := fun _ _ => rfl
  have y1 : ∀ v x, extV 1 (.tuple #[v, x]) = some x := fun _ _ => rfl
  rw [hno, y0, Run_bindO_some, y1, Run_bindO_some, Run_bind, Run_rdM]
  refine ⟨_, hx2, ?_⟩
  rw [Run_bind]
  refine (rprint_run t2 n).mono ?_
  rintro _ w3 ⟨rfl, f3⟩
  have t3 := t2.fr0 f3
  rw [hno, y0, Run_bindO_some, y1, Run_bindO_some, sbEq]
  simp only [decide_true, Run_bindO_some, Run_bind, Run_guardM_tt, Run_ret, F.granarylaw4_num, binV_int, intBin_eql, Run_optM_some, pickV_bool, cond_true]
  refine (answer_run t3 (show l.length ≤ 4294966000 by omega)).mono ?_
  rintro _ w4 ⟨rfl, f4⟩
  have t4 := t3.fr0 f4
  simp only [pickV_bool, cond_true, Run_bindO_some, Run_bind, Run_guardM_tt, Run_ret]
  refine (answer_run t4 (show tx.length ≤ 4294966000 by omega)).mono ?_
  rintro _ w5 ⟨rfl, f5⟩
  have t5 := t4.fr0 f5
  have ea := sbAdd (a := tx) (c := l) (by omega)
  simp only [pickV_bool, cond_true, Run_bindO_some, Run_bind, Run_guardM_tt, Run_ret, ea, Run_optM_some]
  refine (answer_run t5 (show (tx ++ l).length ≤ 4294966000 by rw [List.length_append]; omega)).mono ?_
  rintro _ w6 ⟨rfl, f6⟩
  simp only [pickV_bool, cond_true, Run_bindO_some, Run_ret]
  exact ⟨trivial, ((((f1.trans f2 fun _ _ => id).trans f3 fun _ _ => id).trans f4 fun _ _ => id).trans f5 fun _ _ => id).trans f6 fun _ _ => id⟩
end
end Go.Proofs.YthlpfhjcdedhgaaDoor
