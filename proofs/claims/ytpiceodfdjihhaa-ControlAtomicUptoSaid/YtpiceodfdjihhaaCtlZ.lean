/-
  Layer 15 (control), part Z: ControlAtomic: the nodes and the letters, walked.
-/
import Derived.Test.YtpiceodfdjihhaaCtlY
namespace Go.Proofs.Ytpiceodfdjihhaa
open Go.Lift
set_option linter.unusedSimpArgs false

theorem set_app {α : Type} (A X : List α) (k : Nat) (v : α) : (A ++ X).set (A.length + k) v = A ++ X.set k v := by
  rw [List.set_append_right _ _ (by omega)]; congr 2; omega
theorem set_app0 {α : Type} (A X : List α) (v : α) : (A ++ X).set A.length v = A ++ X.set 0 v := set_app A X 0 v
theorem get_app {α : Type} (A X : List α) (k : Nat) : (A ++ X)[A.length + k]? = X[k]? := by
  rw [List.getElem?_append_right (by omega)]; congr 1; omega
theorem get_app0 {α : Type} (A X : List α) : (A ++ X)[A.length]? = X[0]? := get_app A X 0
theorem len_app {α : Type} (A X : List α) (k n : Nat) : A.length + k + n ≤ A.length + X.length ↔ k + n ≤ X.length := by omega

section
variable {w : World} {q : Nat} {A B : List Value} {nd : Nd}
set_option maxHeartbeats 2000000 in
theorem order_run (hb : bk w q = some (A ++ (nd.cells ++ B))) (hw : wr w q = true) (m : Ms) :
    Run (F.granarylaw15_Node_order (.pointer (some ⟨q, A.length, none⟩)) m.val) w fun r w' => r = .int .i64 (nd.orderS m).2 ∧ bk w' q = some (A ++ ((nd.orderS m).1.cells ++ B)) ∧ wr w' q = true ∧ Fr (fun c => c = q) w w' := by
  unfold F.granarylaw15_Node_order
  simp [Ms.val]
  refine Run_new fun e w1 he hew f1 hle => ?_
  have he' : bk w1 e = some m.cells := by simpa using he
  have hb1 := f1.bk_some hb id
  have hw1 : wr w1 q = true := by rw [f1.wr (bk_lt hb) id]; exact hw
  have lq := bk_lt hb
  have hqe : e ≠ q := by omega
  have f1' : Fr (fun c => c = q) w w1 := f1.mono fun _ h => h.elim
  have h4 : m.cells[4]? = some (.int .i64 m.epoch) := rfl
  have h5 : m.cells[5]? = some (.int .i64 m.seq) := rfl
  have h0 : m.cells[0]? = some (.int .i64 m.kind) := rfl
  have h6 : m.cells[6]? = some (.int .i64 m.version) := rfl
  have g0 : (nd.cells ++ B)[0]? = some (.int .i64 nd.cur) := rfl
  have g1 : (nd.cells ++ B)[1]? = some (.int .i64 nd.prev) := rfl
  have g2 : (nd.cells ++ B)[2]? = some (.int .i64 nd.epoch) := rfl
  have g3 : (nd.cells ++ B)[3]? = some (.int .i64 nd.seq) := rfl
  simp [he', hb1, h4, h5, h0, h6, get_app, get_app0, g0, g1, g2, g3]
  have done : Fr (fun c => c = q) w w1.drew.drew.drew := f1'.drew.drew.drew
  by_cases c1 : m.epoch < nd.epoch
  · have hst : nd.stale m = true := by simp [Nd.stale, c1]
    have hs : nd.orderS m = (nd, 122) := by unfold Nd.orderS; rw [if_pos hst]
    rw [hs]
    by_cases c2 : m.epoch = nd.epoch
    · omega
    · simp [c1, c2, he', hb1, h4, h5, h0, h6, get_app, get_app0, g0, g1, g2, g3, hw1]
      exact f1'.drew.drew.drew
  by_cases c2 : m.epoch = nd.epoch
  · by_cases c3 : m.seq < nd.seq
    · have hs : nd.orderS m = (nd, 122) := by unfold Nd.orderS; rw [if_pos (by simp [Nd.stale, c2, c3])]
      rw [hs]
      have c4 : ¬ m.seq = nd.seq := by omega
      simp [c1, c2, c3, c4, he', hb1, h4, h5, h0, h6, get_app, get_app0, g0, g1, g2, g3, hw1]
      exact f1'.drew.drew.drew
    · by_cases c4 : m.seq = nd.seq
      · by_cases c5 : m.kind = 5 ∧ nd.cur ≠ m.version
        · have hs : nd.orderS m = (nd, 122) := by unfold Nd.orderS; rw [if_pos (by simp [Nd.stale, c2, c4, c5.1, c5.2])]
          rw [hs]
          simp [c1, c2, c3, c4, c5.1, c5.2, he', hb1, h4, h5, h0, h6, get_app, get_app0, g0, g1, g2, g3, hw1]
          exact f1'.drew.drew.drew
        · have hns : ¬ nd.stale m = true := by
            simp only [Nd.stale, Bool.or_eq_true, Bool.and_eq_true, decide_eq_true_eq]
            rintro ((h | h) | h)
            · omega
            · omega
            · exact c5 ⟨h.1.2, h.2⟩
          have hs : nd.orderS m = (nd, 0) := by unfold Nd.orderS; rw [if_neg hns, if_pos (by simp [Nd.same, c2, c4])]
          rw [hs]
          by_cases c6 : m.kind = 5
          · have c7 : nd.cur = m.version := Classical.byContradiction fun h => c5 ⟨c6, h⟩
            simp [c1, c2, c3, c4, c6, c7, he', hb1, h4, h5, h0, h6, get_app, get_app0, g0, g1, g2, g3, hw1]
            exact f1'.drew.drew.drew
          · simp [c1, c2, c3, c4, c6, he', hb1, h4, h5, h0, h6, get_app, get_app0, g0, g1, g2, g3, hw1]
            exact f1'.drew.drew.drew
      · have hns : ¬ nd.stale m = true := by
          simp only [Nd.stale, Bool.or_eq_true, Bool.and_eq_true, decide_eq_true_eq]
          omega
        have hs : nd.orderS m = (nd.moved m, 0) := by unfold Nd.orderS; rw [if_neg hns, if_neg (by simp [Nd.same, c4])]
        rw [hs]
        simp [c1, c2, c3, c4, he', hb1, h4, h5, h0, h6, get_app, get_app0, g0, g1, g2, g3, hw1]
        by_cases c6 : m.kind = 5
        · have hmv : nd.moved m = { nd with was := nd.cur, swapped := m.epoch, prev := nd.cur, cur := m.version, epoch := m.epoch, seq := m.seq } := by unfold Nd.moved; rw [if_pos c6]
          rw [hmv]
          simp [c6, he', hb1, h4, h5, h6, get_app, get_app0, hw1, hqe, Ne.symm hqe, bk_sto, set_app, set_app0, Nd.cells]
          exact ⟨by omega, by omega, by omega, by omega, by omega, ((((((f1'.drew.drew.drew).sto (.inl rfl) _ _).sto (.inl rfl) _ _).sto (.inl rfl) _ _).sto (.inl rfl) _ _).sto (.inl rfl) _ _).sto (.inl rfl) _ _⟩
        · by_cases c7 : nd.epoch = m.epoch
          · have hmv : nd.moved m = { nd with cur := nd.prev, prev := nd.prev, epoch := m.epoch, seq := m.seq } := by unfold Nd.moved; rw [if_neg c6, if_pos c7]
            rw [hmv]
            simp [c6, c7, he', hb1, h4, h5, h6, get_app, get_app0, hw1, hqe, Ne.symm hqe, bk_sto, set_app, set_app0, Nd.cells]
            exact ⟨by omega, by omega, by omega, ((((f1'.drew.drew.drew.drew).sto (.inl rfl) _ _).sto (.inl rfl) _ _).sto (.inl rfl) _ _).sto (.inl rfl) _ _⟩
          · have hmv : nd.moved m = { nd with cur := nd.cur, prev := nd.cur, epoch := m.epoch, seq := m.seq } := by unfold Nd.moved; rw [if_neg c6, if_neg c7]
            rw [hmv]
            simp [c6, c7, he', hb1, h4, h5, h6, get_app, get_app0, hw1, hqe, Ne.symm hqe, bk_sto, set_app, set_app0, Nd.cells]
            exact ⟨by omega, by omega, by omega, (((f1'.drew.drew.drew.drew).sto (.inl rfl) _ _).sto (.inl rfl) _ _).sto (.inl rfl) _ _⟩
  · have hns : ¬ nd.stale m = true := by
      simp only [Nd.stale, Bool.or_eq_true, Bool.and_eq_true, decide_eq_true_eq]
      omega
    have hs : nd.orderS m = (nd.moved m, 0) := by unfold Nd.orderS; rw [if_neg hns, if_neg (by simp [Nd.same, c2])]
    rw [hs]
    simp [c1, c2, he', hb1, h4, h5, h0, h6, get_app, get_app0, g0, g1, g2, g3, hw1]
    by_cases c6 : m.kind = 5
    · have hmv : nd.moved m = { nd with was := nd.cur, swapped := m.epoch, prev := nd.cur, cur := m.version, epoch := m.epoch, seq := m.seq } := by unfold Nd.moved; rw [if_pos c6]
      rw [hmv]
      simp [c6, he', hb1, h4, h5, h6, get_app, get_app0, hw1, hqe, Ne.symm hqe, bk_sto, set_app, set_app0, Nd.cells]
      exact ⟨by omega, by omega, by omega, by omega, by omega, ((((((f1'.drew.drew.drew).sto (.inl rfl) _ _).sto (.inl rfl) _ _).sto (.inl rfl) _ _).sto (.inl rfl) _ _).sto (.inl rfl) _ _).sto (.inl rfl) _ _⟩
    · by_cases c7 : nd.epoch = m.epoch
      · have hmv : nd.moved m = { nd with cur := nd.prev, prev := nd.prev, epoch := m.epoch, seq := m.seq } := by unfold Nd.moved; rw [if_neg c6, if_pos c7]
        rw [hmv]
        simp [c6, c7, he', hb1, h4, h5, h6, get_app, get_app0, hw1, hqe, Ne.symm hqe, bk_sto, set_app, set_app0, Nd.cells]
        exact ⟨by omega, by omega, by omega, ((((f1'.drew.drew.drew.drew).sto (.inl rfl) _ _).sto (.inl rfl) _ _).sto (.inl rfl) _ _).sto (.inl rfl) _ _⟩
      · have hmv : nd.moved m = { nd with cur := nd.cur, prev := nd.cur, epoch := m.epoch, seq := m.seq } := by unfold Nd.moved; rw [if_neg c6, if_neg c7]
        rw [hmv]
        simp [c6, c7, he', hb1, h4, h5, h6, get_app, get_app0, hw1, hqe, Ne.symm hqe, bk_sto, set_app, set_app0, Nd.cells]
        exact ⟨by omega, by omega, by omega, (((f1'.drew.drew.drew.drew).sto (.inl rfl) _ _).sto (.inl rfl) _ _).sto (.inl rfl) _ _⟩

theorem cell11 (a0 a1 a2 a3 a4 a5 a6 a7 a8 : Int) : ∀ (i : Nat) (h : i < 11), isCell ([Value.int IntKind.i64 a0, .int .i64 a1, .int .i64 a2, .int .i64 a3, .int .i64 a4, .int .i64 a5, .int .i64 a6, .int .i64 a7, .int .i64 a8, .string ByteArray.empty, .string ByteArray.empty][i]'h) = true := by
  intro i h
  have : ∀ x ∈ [Value.int IntKind.i64 a0, .int .i64 a1, .int .i64 a2, .int .i64 a3, .int .i64 a4, .int .i64 a5, .int .i64 a6, .int .i64 a7, .int .i64 a8, .string ByteArray.empty, .string ByteArray.empty], isCell x = true := by simp
  exact this _ (List.getElem_mem h)
set_option maxHeartbeats 2000000 in
theorem does_run (hb : bk w q = some (A ++ (nd.cells ++ B))) (hw : wr w q = true) {m : Ms} (hk : m.kind = 3 ∨ m.kind = 5 ∨ m.kind = 7) :
    Run (F.granarylaw15_Node_Does (.pointer (some ⟨q, A.length, none⟩)) m.val) w fun r w' => r = (nd.doesS m).2.val ∧ bk w' q = some (A ++ ((nd.doesS m).1.cells ++ B)) ∧ wr w' q = true ∧ Fr (fun c => c = q) w w' := by
  unfold F.granarylaw15_Node_Does
  simp [Ms.val]
  refine Run_new fun e w1 he hew f1 hle => ?_
  have he' : bk w1 e = some m.cells := by simpa using he
  refine Run_new fun d w2 hd hdw f2 hle2 => ?_
  have he2 := f2.bk_some he' id
  have h0 : m.cells[0]? = some (.int .i64 m.kind) := rfl
  have h1 : m.cells[1]? = some (.int .i64 m.sender) := rfl
  have h2 : m.cells[2]? = some (.int .i64 m.to) := rfl
  have h3 : m.cells[3]? = some (.int .i64 m.id) := rfl
  have h4 : m.cells[4]? = some (.int .i64 m.epoch) := rfl
  have h5 : m.cells[5]? = some (.int .i64 m.seq) := rfl
  have h6 : m.cells[6]? = some (.int .i64 m.version) := rfl
  have wk : IntKind.i64.wrap (m.kind + 1) = m.kind + 1 := wrap_small (by omega) (by omega)
  simp [he2, h0, h1, h2, h3, h4, h5, wk, buildV, fillV_cell]
  refine Run_newSt rfl rfl (by simp) fun a w3 ha haw f3 hle3 => ?_
  have ha' : bk w3 a = some [.int .i64 (m.kind + 1), .int .i64 m.to, .int .i64 m.sender, .int .i64 m.id, .int .i64 m.epoch, .int .i64 m.seq, .int .i64 0, .int .i64 0, .int .i64 0, .string ByteArray.empty, .string ByteArray.empty] := ha
  have he3 := f3.bk_some he2 id
  have hd3 : bk w3 d = some _ := f3.bk_some hd id
  have hdw3 : wr w3 d = true := by rw [f3.wr (bk_lt hd) id]; exact hdw
  have f03 : Fr (fun _ => False) w w3 := (f1.trans f2 fun _ _ => id).trans f3 fun _ _ => id
  have hb3 := f03.bk_some hb id
  have hw3 : wr w3 q = true := by rw [f03.wr (bk_lt hb) id]; exact hw
  have lq := bk_lt hb
  have le := bk_lt he'
  have ld := bk_lt hd
  have s1 := f1.size
  have s2 := f2.size
  have s3 := f3.size
  have ne1 : e ≠ d := by omega
  have ne2 : e ≠ a := by omega
  have ne3 : d ≠ a := by omega
  have ne4 : q ≠ e := by omega
  have ne5 : q ≠ d := by omega
  have ne6 : q ≠ a := by omega
  have f03' : Fr (fun c => c = q) w w3 := f03.mono fun _ h => h.elim
  have g0 : (nd.cells ++ B)[0]? = some (.int .i64 nd.cur) := rfl
  have g1 : (nd.cells ++ B)[1]? = some (.int .i64 nd.prev) := rfl
  have g6 : (nd.cells ++ B)[6]? = some (.bool nd.sick) := rfl
  simp [he3, h0]
  by_cases k3 : m.kind = 3
  · have hdo : nd.doesS m = (nd, ⟨m.kind + 1, m.to, m.sender, m.id, m.epoch, m.seq, m.version, 0, if nd.sick = true then 99 else 0, noB, noB⟩) := by unfold Nd.doesS; rw [if_pos k3]
    rw [hdo]
    cases hs : nd.sick with
    | true =>
      rw [hs] at g6
      simp [k3, he3, h6, ha', haw, hb3, hw3, get_app, g6, hd3, hdw3, bk_sto, ne1, ne2, ne3, ne4, ne5, ne6, Ne.symm ne1, Ne.symm ne2, Ne.symm ne3, Ne.symm ne6, Ms.cells, noB]
      exact ⟨cell11 _ _ _ _ _ _ _ _ _, (((f03').sto (.inr (by omega)) _ _).sto (.inr (by omega)) _ _).sto (.inr (by omega)) _ _⟩
    | false =>
      rw [hs] at g6
      simp [k3, he3, h6, ha', haw, hb3, hw3, get_app, g6, hd3, hdw3, bk_sto, ne1, ne2, ne3, ne4, ne5, ne6, Ne.symm ne1, Ne.symm ne2, Ne.symm ne3, Ne.symm ne6, Ms.cells, noB]
      exact ⟨cell11 _ _ _ _ _ _ _ _ _, ((f03').sto (.inr (by omega)) _ _).sto (.inr (by omega)) _ _⟩
  have k9 : ¬ m.kind = 9 := by omega
  cases hs : nd.sick with
  | true =>
    have hdo : nd.doesS m = (nd, ⟨m.kind + 1, m.to, m.sender, m.id, m.epoch, m.seq, nd.cur, nd.prev, 99, noB, noB⟩) := by unfold Nd.doesS; rw [if_neg k3, if_pos hs]
    rw [hdo]
    rw [hs] at g6
    simp [k3, k9, he3, h0, ha', haw, hb3, hw3, get_app, get_app0, g0, g1, g6, hd3, hdw3, bk_sto, ne1, ne2, ne3, ne4, ne5, ne6, Ne.symm ne1, Ne.symm ne2, Ne.symm ne3, Ne.symm ne6, Ms.cells, noB]
    exact ⟨cell11 _ _ _ _ _ _ _ _ _, ((((f03').sto (.inr (by omega)) _ _).sto (.inr (by omega)) _ _).sto (.inr (by omega)) _ _).sto (.inr (by omega)) _ _⟩
  | false =>
    have hdo : nd.doesS m = ((nd.orderS m).1, ⟨m.kind + 1, m.to, m.sender, m.id, m.epoch, m.seq, (nd.orderS m).1.cur, (nd.orderS m).1.prev, (nd.orderS m).2, noB, noB⟩) := by unfold Nd.doesS; rw [if_neg k3, if_neg (by simp [hs])]
    rw [hdo]
    rw [hs] at g6
    have hlm : ldA 11 (.pointer (some ⟨e, 0, none⟩)) w3 = some m.val := by rw [ldA_bk he3 (Nat.le_refl 11)]; rfl
    simp [-ldA_ptr, k3, k9, he3, h0, ha', haw, hb3, get_app, get_app0, g6, hlm]
    refine (order_run hb3 hw3 m).mono ?_
    rintro _ w4 ⟨rfl, hb4, hw4, f4⟩
    have ha4 := f4.bk_some ha' (Ne.symm ne6)
    have haw4 : wr w4 a = true := by rw [f4.wr (bk_lt ha') (Ne.symm ne6)]; exact haw
    have hd4 : bk w4 d = some _ := f4.bk_some hd3 (Ne.symm ne5)
    have hdw4 : wr w4 d = true := by rw [f4.wr (bk_lt hd3) (Ne.symm ne5)]; exact hdw3
    have g0' : ((nd.orderS m).1.cells ++ B)[0]? = some (.int .i64 (nd.orderS m).1.cur) := rfl
    have g1' : ((nd.orderS m).1.cells ++ B)[1]? = some (.int .i64 (nd.orderS m).1.prev) := rfl
    simp [ha4, haw4, hb4, hw4, get_app, get_app0, g0', g1', hd4, hdw4, bk_sto, ne1, ne2, ne3, ne4, ne5, ne6, Ne.symm ne1, Ne.symm ne2, Ne.symm ne3, Ne.symm ne6, Ms.cells, noB]
    exact ⟨cell11 _ _ _ _ _ _ _ _ _, (((((f03'.trans f4 fun _ _ h => h)).sto (.inr (by omega)) _ _).sto (.inr (by omega)) _ _).sto (.inr (by omega)) _ _).sto (.inr (by omega)) _ _⟩
end
end Go.Proofs.Ytpiceodfdjihhaa
