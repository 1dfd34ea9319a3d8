/-
  Layer 21 (export), part R: ExportWhole, the plain law: what holds of an exporter and a talk from question to question.
-/
import Derived.Test.YtiggkhmopnhfaaaExportQ
namespace Go.Proofs.Ytiggkhmopnhfaaa
open Go.Lift

/-- An export goes on: partition p, L of its owners were left, k of its pairs were read. -/
structure Going (rows : List (List Int)) (R : Nat) (tb : List (List Pr)) (version : Int) (x : XS) (old : List Ms) (miss : List Int) (p L k : Nat) : Prop where
  busy : x.busy = true
  part : x.part = p
  plt : p < rows.length
  lt : L < R
  left : ∃ row, rows[p]? = some row ∧ x.left = row.drop L
  kle : k ≤ (ofF tb p).length
  pairs : x.pairs = (ofF tb p).take k
  all : x.all = wholeF tb miss p
  missing : x.missing = miss
  job : x.job = 1
  version : x.version = version
  old : ∀ m ∈ old, m.fine ∧ (m.seq < p ∨ (m.seq = p ∧ m.prev < k))
  msort : miss.Pairwise (· < ·)
  mpos : ∀ m ∈ miss, 0 ≤ m ∧ m < (p : Int)
/-- An export has ended. -/
structure Ended (rows : List (List Int)) (tb : List (List Pr)) (version : Int) (x : XS) (miss : List Int) : Prop where
  busy : x.busy = false
  ended : x.ended = true
  lj : x.lj = 1
  lv : x.lv = version
  lm : x.lm = miss
  lp : x.lp = wholeF tb miss rows.length
  msort : miss.Pairwise (· < ·)
  mpos : ∀ m ∈ miss, 0 ≤ m
/-- What never turns. -/
structure Base (rows : List (List Int)) (wt : Int) (x : XS) : Prop where
  rows : x.rows = rows
  wait : x.wait = wt
  now : 0 ≤ x.now ∧ x.now ≤ 1073741824

section
variable {rows : List (List Int)} {R : Nat} {wt : Int} {tb : List (List Pr)} {version : Int} {x : XS} {old : List Ms} {miss : List Int} {p L k : Nat}

theorem askS_eq (hb : Base rows wt x) (hwt : 1 ≤ wt ∧ wt ≤ 1024) : x.askS = { x with due := x.now + wt } := by
  unfold XS.askS
  rw [hb.wait, wrap_small (by have := hb.now; omega) (by have := hb.now; omega)]
theorem take_next (hR : ∀ r ∈ rows, r.length = R) (hR1 : 1 ≤ R) (hb : Base rows wt x) (hwt : 1 ≤ wt ∧ wt ≤ 1024) (hp : p ≤ rows.length) :
    (p < rows.length ∧ ∃ row, rows[p]? = some row ∧ (x.takeS p).1 = { x with part := p, pairs := [], left := row, due := x.now + wt }) ∨
    (p = rows.length ∧ (x.takeS p).1 = { x with part := p, pairs := [], busy := false, ended := true, lj := x.job, lv := x.version, lp := x.all, lm := x.missing }) := by
  unfold XS.takeS
  have hrw := hb.rows
  by_cases h : p = rows.length
  · right
    refine ⟨h, ?_⟩
    rw [if_pos (by rw [hrw]; omega)]
  · left
    have hlt : p < rows.length := by omega
    have e := List.getElem?_eq_getElem hlt
    have hl := hR _ (List.getElem_mem hlt)
    generalize rows[p] = row at e hl
    refine ⟨hlt, row, e, ?_⟩
    rw [← hrw] at e
    rw [if_neg (by rw [hrw]; omega)]
    simp only [Int.toNat_natCast, e]
    cases row with
    | nil => simp at hl; omega
    | cons to rest => exact askS_eq (x := { x with part := p, pairs := [], left := to :: rest }) ⟨hb.rows, hb.wait, hb.now⟩ hwt

theorem wholeF_miss (tb : List (List Pr)) {miss : List Int} (hm : ∀ m ∈ miss, m < (p : Int)) : wholeF tb (miss ++ [(p : Int)]) (p + 1) = wholeF tb miss p := by
  conv => lhs; unfold wholeF
  rw [if_pos (by simp), List.append_nil]
  refine wholeF_congr fun i hi => ?_
  simp
  omega
theorem wholeF_have (tb : List (List Pr)) {miss : List Int} (hm : ∀ m ∈ miss, m < (p : Int)) : wholeF tb miss (p + 1) = wholeF tb miss p ++ ofF tb p := by
  conv => lhs; unfold wholeF
  rw [if_neg fun h => by have := hm _ h; omega]

/-- The owner that is asked is left. -/
theorem Going.leave (h : Going rows R tb version x old miss p L k) (hR : ∀ r ∈ rows, r.length = R) (hR1 : 1 ≤ R) (hb : Base rows wt x) (hwt : 1 ≤ wt ∧ wt ≤ 1024) :
    (Base rows wt x.leaveS.1 ∧ x.leaveS.1.now = x.now) ∧
    ((L + 1 < R ∧ Going rows R tb version x.leaveS.1 old miss p (L + 1) k ∧ x.leaveS.1.due = x.leaveS.1.now + wt) ∨
     (L + 1 = R ∧ Going rows R tb version x.leaveS.1 old (miss ++ [(p : Int)]) (p + 1) 0 0 ∧ x.leaveS.1.due = x.leaveS.1.now + wt) ∨
     (L + 1 = R ∧ Ended rows tb version x.leaveS.1 (miss ++ [(p : Int)]))) := by
  obtain ⟨row, hrow, hleft⟩ := h.left
  have hrl := hR row (List.mem_of_getElem? hrow)
  have hlt := h.lt
  have ht : x.left.tail = row.drop (L + 1) := by rw [hleft, List.tail_drop]
  have hmlt : ∀ m ∈ miss, m < (p : Int) := fun m hm => (h.mpos m hm).2
  have hsort : (miss ++ [(p : Int)]).Pairwise (· < ·) := by
    rw [List.pairwise_append]
    exact ⟨h.msort, List.pairwise_singleton _ _, fun a ha b hb => by simp at hb; rw [hb]; exact hmlt a ha⟩
  by_cases hL : L + 1 < R
  · have hne : row.drop (L + 1) ≠ [] := by
      intro he
      have : (row.drop (L + 1)).length = 0 := by rw [he]; rfl
      simp at this
      omega
    obtain ⟨to, rest, htr⟩ : ∃ to rest, row.drop (L + 1) = to :: rest := by
      cases hx : row.drop (L + 1) with
      | nil => exact absurd hx hne
      | cons to rest => exact ⟨to, rest, rfl⟩
    have e : x.leaveS.1 = { x with left := row.drop (L + 1), due := x.now + wt } := by
      unfold XS.leaveS
      rw [ht, htr]
      exact askS_eq (x := { x with left := to :: rest }) ⟨hb.rows, hb.wait, hb.now⟩ hwt
    rw [e]
    exact ⟨⟨⟨hb.rows, hb.wait, hb.now⟩, rfl⟩, .inl ⟨hL, ⟨h.busy, h.part, h.plt, hL, ⟨row, hrow, rfl⟩, h.kle, h.pairs, h.all, h.missing, h.job, h.version, h.old, h.msort, h.mpos⟩, rfl⟩⟩
  · have hL1 : L + 1 = R := by omega
    have hnil : row.drop (L + 1) = [] := List.drop_eq_nil_of_le (by omega)
    have hpt := h.part
    have e : x.leaveS = ({ x with missing := miss ++ [(p : Int)], left := [] } : XS).takeS ((p + 1 : Nat) : Int) := by
      unfold XS.leaveS
      rw [ht, hnil]
      simp only [h.missing, hpt]
      push_cast
      rfl
    have hplt := h.plt
    rw [e]
    rcases take_next (x := { x with missing := miss ++ [(p : Int)], left := [] }) (p := p + 1) hR hR1 ⟨hb.rows, hb.wait, hb.now⟩ hwt (by omega) with ⟨hlt, row', hrow', e'⟩ | ⟨hlt, e'⟩
    · rw [e']
      refine ⟨⟨⟨hb.rows, hb.wait, hb.now⟩, rfl⟩, .inr (.inl ⟨hL1, ⟨h.busy, rfl, hlt, hR1, ⟨row', hrow', by simp⟩, Nat.zero_le _, by simp, ?_, rfl, h.job, h.version, fun m hm => ⟨(h.old m hm).1, ?_⟩, hsort, fun m hm => ?_⟩, rfl⟩)⟩
      · show x.all = _
        rw [wholeF_miss tb hmlt]; exact h.all
      · rcases (h.old m hm).2 with h' | h'
        · left; push_cast; omega
        · left; push_cast; omega
      · rcases List.mem_append.1 hm with h' | h'
        · have := h.mpos m h'; push_cast; omega
        · simp at h'; push_cast; omega
    · rw [e']
      refine ⟨⟨⟨hb.rows, hb.wait, hb.now⟩, rfl⟩, .inr (.inr ⟨hL1, ⟨rfl, rfl, h.job, h.version, rfl, ?_, hsort, fun m hm => ?_⟩⟩)⟩
      · show x.all = _
        rw [← hlt, wholeF_miss tb hmlt]; exact h.all
      · rcases List.mem_append.1 hm with h' | h'
        · exact (h.mpos m h').1
        · simp at h'; omega

/-- What was answered before is no answer now. -/
theorem Going.stale (h : Going rows R tb version x old miss p L k) {m : Ms} (hm : m ∈ old) : x.tellS m = (x, []) := by
  unfold XS.tellS
  rw [if_pos]
  rintro ⟨_, _, _, _, h1, _, h2⟩
  have hl : x.pairs.length = k := by rw [h.pairs, List.length_take]; have := h.kle; omega
  have h3 := h.part
  rcases (h.old m hm).2 with h' | h' <;> omega
theorem Ended.stale (h : Ended rows tb version x miss) (m : Ms) : x.tellS m = (x, []) := by
  unfold XS.tellS
  rw [if_pos]
  rintro ⟨h1, _⟩
  rw [h.busy] at h1; cases h1

/-- The right answer to the question of now: as it fits, and what it says. -/
theorem Going.right (h : Going rows R tb version x old miss p L k) (hR : ∀ r ∈ rows, r.length = R) (hR1 : 1 ≤ R) :
    (∀ c : Int, x.fits { rightF tb x.q with code := c }) ∧ (rightF tb x.q).seq = p ∧ (rightF tb x.q).prev = k ∧ ((k = (ofF tb p).length ∧ (rightF tb x.q).code = 16) ∨ (k < (ofF tb p).length ∧ (rightF tb x.q).code = 0 ∧ (ofF tb p)[k]? = some ((rightF tb x.q).key, (rightF tb x.q).value))) := by
  obtain ⟨row, hrow, hleft⟩ := h.left
  have hrl := hR row (List.mem_of_getElem? hrow)
  have hlt := h.lt
  have hl : x.pairs.length = k := by rw [h.pairs, List.length_take]; have := h.kle; omega
  obtain ⟨to, rest, htr⟩ : ∃ to rest, x.left = to :: rest := by
    cases hx : x.left with
    | nil =>
      have : (row.drop L).length = 0 := by rw [← hleft, hx]; rfl
      simp at this
      omega
    | cons to rest => exact ⟨to, rest, rfl⟩
  have hq : x.q = ⟨15, 67, to, x.job, 0, x.part, x.version, x.pairs.length, 0, .string ByteArray.empty, .string ByteArray.empty⟩ := by unfold XS.q; rw [htr]; rfl
  have hkle := h.kle
  rw [hq]
  unfold rightF
  simp only
  rw [if_neg (by omega), Int.toNat_natCast, hl, h.part]
  by_cases hk : k < (ofF tb p).length
  · have ek : (ofF tb p)[k]? = some (ofF tb p)[k] := List.getElem?_eq_getElem hk
    generalize (ofF tb p)[k] = y at ek
    simp only [ek]
    exact ⟨fun c => ⟨rfl, by rw [htr]; rfl, rfl, h.part.symm, rfl, by show (k : Int) = x.pairs.length; rw [hl]⟩, trivial, trivial, .inr ⟨hk, trivial, trivial⟩⟩
  · have ek : (ofF tb p)[k]? = none := List.getElem?_eq_none (by omega)
    simp only [ek]
    exact ⟨fun c => ⟨rfl, by rw [htr]; rfl, rfl, h.part.symm, rfl, by show (k : Int) = x.pairs.length; rw [hl]⟩, trivial, trivial, .inl ⟨by omega, trivial⟩⟩

/-- It is answered. -/
theorem Going.answer (h : Going rows R tb version x old miss p L k) (hfine : (rightF tb x.q).fine) (hR : ∀ r ∈ rows, r.length = R) (hR1 : 1 ≤ R) (hb : Base rows wt x) (hwt : 1 ≤ wt ∧ wt ≤ 1024) :
    (Base rows wt (x.tellS (rightF tb x.q)).1 ∧ (x.tellS (rightF tb x.q)).1.now = x.now) ∧
    (((rightF tb x.q).code = 0 ∧ Going rows R tb version (x.tellS (rightF tb x.q)).1 (old ++ [rightF tb x.q]) miss p L (k + 1) ∧ (x.tellS (rightF tb x.q)).1.due = (x.tellS (rightF tb x.q)).1.now + wt ∧ (x.tellS (rightF tb x.q)).2 = elM (x.tellS (rightF tb x.q)).1.outq) ∨
     ((rightF tb x.q).code = 16 ∧ Going rows R tb version (x.tellS (rightF tb x.q)).1 (old ++ [rightF tb x.q]) miss (p + 1) 0 0 ∧ (x.tellS (rightF tb x.q)).1.due = (x.tellS (rightF tb x.q)).1.now + wt ∧ (x.tellS (rightF tb x.q)).2 = elM (x.tellS (rightF tb x.q)).1.outq) ∨
     ((rightF tb x.q).code = 16 ∧ Ended rows tb version (x.tellS (rightF tb x.q)).1 miss ∧ (x.tellS (rightF tb x.q)).2 = elM (x.tellS (rightF tb x.q)).1.outq)) := by
  obtain ⟨hf, hs, hpv, hcase⟩ := h.right hR hR1
  replace hf : x.fits (rightF tb x.q) := hf _
  have hto := hf.2.1
  generalize rightF tb x.q = m at *
  have hmlt : ∀ m ∈ miss, m < (p : Int) := fun m hm => (h.mpos m hm).2
  have hl : x.pairs.length = k := by rw [h.pairs, List.length_take]; have := h.kle; omega
  have h512 := ofF_len tb p
  have hplt := h.plt
  have hpt := h.part
  rcases hcase with ⟨hk, hc⟩ | ⟨hk, hc, he⟩
  · have e : x.tellS m = ({ x with all := x.all ++ x.pairs } : XS).takeS ((p + 1 : Nat) : Int) := by
      unfold XS.tellS
      rw [if_neg (not_not_intro ⟨h.busy, hf⟩), if_pos hc, hpt]
      push_cast
      rfl
    have ho : (x.tellS m).2 = elM (x.tellS m).1.outq := by
      rw [e]
      refine takeS_out (x := { x with all := x.all ++ x.pairs }) h.busy (by omega) (by show _ ≤ (x.rows.length : Int); rw [hb.rows]; push_cast; omega) ?_
      intro r hr hn
      have := hR r (by rw [← hb.rows]; exact hr)
      rw [hn] at this
      simp at this
      omega
    have hall : x.all ++ x.pairs = wholeF tb miss (p + 1) := by rw [wholeF_have tb hmlt, h.all, h.pairs, hk, List.take_length]
    refine ⟨?_, ?_⟩
    · rw [e]
      rcases take_next (x := { x with all := x.all ++ x.pairs }) (p := p + 1) hR hR1 ⟨hb.rows, hb.wait, hb.now⟩ hwt (by omega) with ⟨hlt, row', hrow', e'⟩ | ⟨hlt, e'⟩
      · rw [e']; exact ⟨⟨hb.rows, hb.wait, hb.now⟩, rfl⟩
      · rw [e']; exact ⟨⟨hb.rows, hb.wait, hb.now⟩, rfl⟩
    · right
      rcases take_next (x := { x with all := x.all ++ x.pairs }) (p := p + 1) hR hR1 ⟨hb.rows, hb.wait, hb.now⟩ hwt (by omega) with ⟨hlt, row', hrow', e'⟩ | ⟨hlt, e'⟩
      · left
        refine ⟨hc, ?_, ?_, ho⟩
        · rw [e, e']
          refine ⟨h.busy, rfl, hlt, hR1, ⟨row', hrow', by simp⟩, Nat.zero_le _, by simp, hall, h.missing, h.job, h.version, fun m' hm' => ?_, h.msort, fun m' hm' => ?_⟩
          · rcases List.mem_append.1 hm' with h' | h'
            · refine ⟨(h.old m' h').1, .inl ?_⟩
              rcases (h.old m' h').2 with h'' | h'' <;> · push_cast; omega
            · simp at h'
              subst h'
              exact ⟨hfine, .inl (by push_cast; omega)⟩
          · have := h.mpos m' hm'; push_cast; omega
        · rw [e, e']
      · right
        refine ⟨hc, ?_, ho⟩
        rw [e, e']
        exact ⟨rfl, rfl, h.job, h.version, h.missing, by show x.all ++ x.pairs = _; rw [hall, hlt], h.msort, fun m' hm' => (h.mpos m' hm').1⟩
  · have e1 : x.tellS m = (({ x with pairs := x.pairs ++ [(m.key, m.value)] } : XS).askS, [qMsg m.sender { x with pairs := x.pairs ++ [(m.key, m.value)] }]) := by
      unfold XS.tellS
      rw [if_neg (not_not_intro ⟨h.busy, hf⟩), if_neg (by rw [hc]; decide), if_neg (by rw [hc]; omega)]
    have e2 : ({ x with pairs := x.pairs ++ [(m.key, m.value)] } : XS).askS = { x with pairs := x.pairs ++ [(m.key, m.value)], due := x.now + wt } := askS_eq (x := { x with pairs := x.pairs ++ [(m.key, m.value)] }) ⟨hb.rows, hb.wait, hb.now⟩ hwt
    obtain ⟨to, rest, htr⟩ : ∃ to rest, x.left = to :: rest := by
      cases hx : x.left with
      | nil => rw [hx] at hto; cases hto
      | cons to rest => exact ⟨to, rest, rfl⟩
    have hts : m.sender = to := by
      rw [htr] at hto
      simp at hto
      exact hto.symm
    have e3 : (x.tellS m).1 = { x with pairs := x.pairs ++ [(m.key, m.value)], due := x.now + wt } := by rw [e1]; exact e2
    refine ⟨by rw [e3]; exact ⟨⟨hb.rows, hb.wait, hb.now⟩, rfl⟩, .inl ⟨hc, ?_, by rw [e3], ?_⟩⟩
    · rw [e3]
      refine ⟨h.busy, h.part, h.plt, h.lt, h.left, hk, ?_, h.all, h.missing, h.job, h.version, fun m' hm' => ?_, h.msort, h.mpos⟩
      · show x.pairs ++ [(m.key, m.value)] = _
        rw [List.take_add_one, he, h.pairs]; rfl
      · rcases List.mem_append.1 hm' with h' | h'
        · refine ⟨(h.old m' h').1, ?_⟩
          rcases (h.old m' h').2 with h'' | h''
          · exact .inl h''
          · right; push_cast; omega
        · simp at h'
          subst h'
          refine ⟨hfine, .inr ⟨hs, ?_⟩⟩
          rw [hpv]; push_cast; omega
    · rw [e1, e2]
      unfold XS.outq
      rw [if_pos (by exact h.busy)]
      rw [hts]
      show [qMsg to _] = elM [_]
      rw [qMsg_q (x := { x with pairs := x.pairs ++ [(m.key, m.value)] }) htr]
      rfl
/-- An error comes. -/
theorem Going.error (h : Going rows R tb version x old miss p L k) (hR : ∀ r ∈ rows, r.length = R) (hR1 : 1 ≤ R) {c : Int} (h0 : c ≠ 0) (h16 : c ≠ 16) : x.tellS { rightF tb x.q with code := c } = x.leaveS := by
  obtain ⟨hf, _⟩ := h.right hR hR1
  unfold XS.tellS
  rw [if_neg (not_not_intro ⟨h.busy, hf c⟩), if_neg (by exact h16), if_pos (.inl (by exact h0))]
/-- Ticks go by. -/
theorem Going.later (h : Going rows R tb version x old miss p L k) (n : Int) : Going rows R tb version { x with now := n } old miss p L k :=
  ⟨h.busy, h.part, h.plt, h.lt, h.left, h.kle, h.pairs, h.all, h.missing, h.job, h.version, h.old, h.msort, h.mpos⟩
end

end Go.Proofs.Ytiggkhmopnhfaaa
