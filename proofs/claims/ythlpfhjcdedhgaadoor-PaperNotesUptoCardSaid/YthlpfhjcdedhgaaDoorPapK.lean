/-
  Layer 4 (paper): part K: a number that is read.
-/
import Derived.Test.YthlpfhjcdedhgaaDoorPapJ
namespace Go.Proofs.YthlpfhjcdedhgaaDoor
open Go.Lift Go.Sort
set_option linter.unusedSimpArgs false
set_option linter.unusedVariables false
set_option maxHeartbeats 4000000
def isD (c : UInt8) : Bool := decide (48 ≤ c.toNat ∧ c.toNat ≤ 57)
def valF (a : Nat) (c : UInt8) : Nat := 10 * a + (c.toNat - 48)
def valL (l : List UInt8) : Nat := l.foldl valF 0
/-- The number that a text is. -/
def numF (l : List UInt8) : Option Nat := if l = [] ∨ 16 < l.length ∨ (1 < l.length ∧ l.head? = some 48) ∨ l.all isD = false then none else some (valL l)
def numV (o : Option Nat) : Value := .tuple #[.int .i64 ((o.getD 0 : Nat) : Int), .bool o.isSome]
theorem valL_snoc (l : List UInt8) (c : UInt8) : valL (l ++ [c]) = 10 * valL l + (c.toNat - 48) := by
  unfold valL
  rw [List.foldl_append]; rfl
theorem valF_lt : ∀ (l : List UInt8) (a k : Nat), l.all isD = true → a < 10 ^ k → l.foldl valF a < 10 ^ (k + l.length)
  | [], a, k, _, h => h
  | c :: l, a, k, ha, h => by
    simp only [List.all_cons, Bool.and_eq_true, isD, decide_eq_true_eq] at ha
    have := valF_lt l (valF a c) (k + 1) ha.2 (by unfold valF; rw [Nat.pow_succ]; omega)
    rw [List.length_cons, show k + (l.length + 1) = k + 1 + l.length by omega]
    exact this
theorem valL_lt (l : List UInt8) (h : l.all isD = true) : valL l < 10 ^ l.length := by
  have := valF_lt l 0 0 h (by decide)
  rwa [Nat.zero_add] at this
/-- The digits that stand ahead. -/
def runD (l : List UInt8) : List UInt8 := l.takeWhile isD
theorem runD_all (l : List UInt8) : (runD l).all isD = true := by
  unfold runD
  induction l with
  | nil => rfl
  | cons c l ih =>
    by_cases h : isD c = true
    · simp [List.takeWhile_cons, h] at ih ⊢
    · simp [List.takeWhile_cons, h]
theorem runD_le (l : List UInt8) : (runD l).length ≤ l.length := (List.takeWhile_prefix isD).length_le
theorem runD_take (l : List UInt8) : l.take (runD l).length = runD l := ((List.prefix_iff_eq_take).1 (List.takeWhile_prefix isD)).symm
theorem runD_at (l : List UInt8) {i : Nat} (h : i < (runD l).length) : ∃ c, l[i]? = some c ∧ isD c = true := by
  have ha := runD_all l
  have hc : (runD l)[i]? = some (runD l)[i] := List.getElem?_eq_getElem h
  refine ⟨(runD l)[i], ?_, ?_⟩
  · rw [← hc]
    conv => rhs; rw [← runD_take]
    rw [List.getElem?_take_of_lt h]
  · exact List.all_eq_true.1 ha _ (List.getElem_mem h)
theorem runD_end : ∀ (l : List UInt8) {c : UInt8}, l[(runD l).length]? = some c → isD c = false
  | [], c, h => by simp at h
  | x :: l, c, h => by
    unfold runD at h
    by_cases hx : isD x = true
    · simp only [List.takeWhile_cons, hx, if_true, List.length_cons, List.getElem?_cons_succ] at h
      exact runD_end l h
    · simp only [List.takeWhile_cons, hx] at h
      simp at h
      subst h
      simpa using hx
theorem runD_full {l : List UInt8} : l.all isD = true ↔ (runD l).length = l.length := by
  constructor
  · intro h
    unfold runD
    induction l with
    | nil => rfl
    | cons c l ih =>
      simp only [List.all_cons, Bool.and_eq_true] at h
      simp [List.takeWhile_cons, h.1, ih h.2]
  · intro h
    have := runD_take l
    rw [h, List.take_length] at this
    rw [this]
    exact runD_all l
section
variable {w w1 w2 : World}
theorem pow_le16 {i : Nat} (h : i ≤ 16) : 10 ^ i ≤ 10000000000000000 := by
  have : (10 : Nat) ^ i ≤ 10 ^ 16 := Nat.pow_le_pow_right (by decide) h
  exact this
theorem number_run (l : List UInt8) (hl : l.length ≤ 4611686018427387904) : Run (F.paper_number (.string (sb l))) w fun r w' => r = numV (numF l) ∧ Fr (fun _ => False) w w' := by
  unfold F.paper_number
  have e0 : ByteArray.mk #[] = sb [] := rfl
  rw [e0]
  have hno : ∀ {p : Prop}, p → (p → l = [] ∨ 16 < l.length ∨ (1 < l.length ∧ l.head? = some 48) ∨ l.all isD = false) → numV (numF l) = .tuple #[.int .i64 0, .bool false] := fun hp h => by rw [numF, if_pos (h hp)]; rfl
  by_cases h1 : l = []
  · simp [-binV_str, sbEq, h1]
    rw [← h1, hno h1 .inl]
    exact ⟨rfl, Fr.refl _ _⟩
  by_cases h2 : 16 < l.length
  · have h2' : (16 : Int) < l.length := by omega
    simp [-binV_str, sbEq, h1, sb_size, h2']
    rw [hno h2 fun h => .inr (.inl h)]
    exact ⟨rfl, Fr.refl _ _⟩
  have h2' : ¬ (16 : Int) < l.length := by omega
  obtain ⟨c0, r0, rfl⟩ := List.exists_cons_of_ne_nil h1
  have i0 : idxS (.string (sb (c0 :: r0))) (.int .i64 0) = some (by8 c0) := idxSb (l := c0 :: r0) (i := 0) rfl
  have hz : ∀ c : UInt8, ((c.toNat : Int) = 48) ↔ c = 48 := fun c => by
    constructor
    · intro h
      have : c.toNat = (48 : UInt8).toNat := by have : c.toNat = 48 := by omega
                                                rw [this]; rfl
      exact UInt8.toNat_inj.1 this
    · rintro rfl; rfl
  have l1 : (1 : Int) < ((c0 :: r0).length : Int) ↔ 1 < (c0 :: r0).length := by omega
  generalize hL : c0 :: r0 = L at *
  have hsz := sb_size L
  have hh : L.head? = some c0 := by rw [← hL]; rfl
  by_cases h34 : 1 < L.length ∧ c0 = 48
  · have h3' : (1 : Int) < L.length := by omega
    have h4' : (c0.toNat : Int) = 48 := (hz _).2 h34.2
    simp [-binV_str, sbEq, h1, sb_size, h2', h3', i0, by8, h4']
    rw [hno h34.2 fun h => .inr (.inr (.inl ⟨h34.1, by rw [hh, h]⟩))]
    exact ⟨rfl, Fr.refl _ _⟩
  have e : numF L = if L.all isD = true then some (valL L) else none := by
    unfold numF
    by_cases ha : L.all isD = true
    · rw [if_pos ha, if_neg]
      rintro (h | h | ⟨h, h'⟩ | h)
      · exact h1 h
      · exact h2 h
      · rw [hh] at h'; cases h'; exact h34 ⟨h, rfl⟩
      · rw [ha] at h; cases h
    · rw [if_neg ha, if_pos (.inr (.inr (.inr (by simpa using ha))))]
  have hR1 : L.all isD = true → numF L = some (valL L) := fun h => by rw [e, if_pos h]
  have hR0 : ¬ L.all isD = true → numF L = none := fun h => by rw [e, if_neg h]
  generalize numF L = R at *
  have h9 : ((1 : Int) < L.length ∧ ¬ (c0.toNat : Int) = 48) ∨ ¬ (1 : Int) < L.length := by
    by_cases h : 1 < L.length
    · exact .inl ⟨by omega, fun h' => h34 ⟨h, (hz _).1 h'⟩⟩
    · exact .inr (by omega)
  rcases h9 with ⟨h3, h4⟩ | h3
  all_goals
    first
    | simp [-binV_str, sbEq, h1, sb_size, h2', h3, h4, i0, by8]
    | simp [-binV_str, sbEq, h1, sb_size, h2', h3, i0, by8]
    refine Run_sbM fun r w1 hr f1 _ => ?_
    have hlen := hr.1.lenL
    rw [List.length_map] at hlen
    have hlen' : lenL r = some (.int .i64 (L.length : Int)) := hlen
    rw [hlen', Run_bindO_some, Run_bind]
    have hJ := runD_le L
    refine Run_for (runD L).length (fun i L' w' => L' = [.int .i64 ((valL (L.take i) : Nat) : Int), .int .i64 (i : Int)] ∧ w' = w1) ⟨rfl, rfl⟩ ?_ ?_
    · rintro i L' w2 hi ⟨rfl, hw2⟩
      rw [hw2]
      obtain ⟨c, hc, hd⟩ := runD_at L hi
      have hil : (i : Int) < L.length := by omega
      obtain ⟨p, p1, p2⟩ := hr.1.rd1 (i := i) (y := by8 c) (by simp [sb, hc, by8]) .i64
      have hd' := hd
      simp only [isD, decide_eq_true_eq] at hd'
      have d1 : ¬ (c.toNat : Int) < 48 := by omega
      have d2 : ¬ (57 : Int) < c.toNat := by omega
      have hv := valL_snoc (L.take i) c
      rw [← take_snocP hc] at hv
      have hall : (L.take i).all isD = true := by
        have := runD_all L
        rw [← runD_take L] at this
        have e3 : L.take i = (L.take (runD L).length).take i := by rw [List.take_take, Nat.min_eq_left (by omega)]
        rw [e3]
        exact List.all_eq_true.2 fun x hx => List.all_eq_true.1 this x (List.mem_of_mem_take hx)
      have hb := valL_lt _ hall
      have hb2 := pow_le16 (i := (L.take i).length) (by rw [List.length_take]; omega)
      have w1' : IntKind.i64.wrap (10 * ((valL (L.take i) : Nat) : Int)) = ((10 * valL (L.take i) : Nat) : Int) := by
        rw [show 10 * ((valL (L.take i) : Nat) : Int) = ((10 * valL (L.take i) : Nat) : Int) by omega]; exact i64W (by omega)
      have w2' : IntKind.u8.wrap ((c.toNat : Int) - 48) = ((c.toNat - 48 : Nat) : Int) := by
        rw [show (c.toNat : Int) - 48 = ((c.toNat - 48 : Nat) : Int) by omega]; exact u8W (by have := c.toNat_lt; omega)
      have w3' : IntKind.i64.wrap ((c.toNat - 48 : Nat) : Int) = ((c.toNat - 48 : Nat) : Int) := i64W (by have := c.toNat_lt; omega)
      have w4' : IntKind.i64.wrap (((10 * valL (L.take i) : Nat) : Int) + ((c.toNat - 48 : Nat) : Int)) = ((valL (L.take (i + 1)) : Nat) : Int) := by
        rw [show ((10 * valL (L.take i) : Nat) : Int) + ((c.toNat - 48 : Nat) : Int) = ((valL (L.take (i + 1)) : Nat) : Int) by omega]; exact i64W (by have := c.toNat_lt; omega)
      have wi := wrap_succ' (n := i) (by omega)
      have p1' : idxA 1 r (.int .i64 (i : Int)) = some p := p1
      simp only [getL_zero, getL_succ, binV_int, intBin_lss, intBin_gtr, gt_iff_lt, hil, decide_true, Run_bindO_some, Run_condM_true, p1', Run_bind, Run_rdM, p2]
      refine ⟨_, rfl, ?_⟩
      simp only [by8, binV_int, intBin_lss, intBin_gtr, gt_iff_lt, d1, d2, decide_false, Run_bindO_some, Run_bind, Run_guardM_ff, Run_ret, Run_optM_some, pickV_bool, cond_false, Run_condM_false, intBin_mul, w1', intBin_sub, w2', cvtI_int, w3', intBin_add, w4', wi]
      exact ⟨trivial, trivial⟩
    · rintro L' w2 ⟨rfl, hw2⟩
      rw [hw2]
      by_cases hJL : (runD L).length = L.length
      · have hall := runD_full.2 hJL
        have hn : ¬ ((runD L).length : Int) < L.length := by omega
        simp only [getL_zero, getL_succ, binV_int, intBin_lss, hn, decide_false, Run_bindO_some, Run_condM_false, Run_ret, outK_exit]
        show Run (M.ret _) w1 _
        rw [Run_ret, hR1 hall, hJL, List.take_length]
        exact ⟨rfl, f1⟩
      · have hall : ¬ L.all isD = true := fun h => hJL (runD_full.1 h)
        have hil : ((runD L).length : Int) < L.length := by omega
        obtain ⟨c, hc⟩ : ∃ c, L[(runD L).length]? = some c := ⟨_, List.getElem?_eq_getElem (by omega)⟩
        have hd := runD_end L hc
        obtain ⟨p, p1, p2⟩ := hr.1.rd1 (i := (runD L).length) (y := by8 c) (by simp [sb, hc, by8]) .i64
        have p1' : idxA 1 r (.int .i64 ((runD L).length : Int)) = some p := p1
        simp only [isD, decide_eq_false_iff_not] at hd
        simp only [getL_zero, getL_succ, binV_int, intBin_lss, intBin_gtr, gt_iff_lt, hil, decide_true, Run_bindO_some, Run_condM_true, p1', Run_bind, Run_rdM, p2]
        refine ⟨_, rfl, ?_⟩
        rw [hR0 hall]
        by_cases d1 : (c.toNat : Int) < 48
        · simp [by8, d1, numV, f1]
        · have d2 : (57 : Int) < c.toNat := by omega
          simp [by8, d1, d2, numV, f1]
end
end Go.Proofs.YthlpfhjcdedhgaaDoor
