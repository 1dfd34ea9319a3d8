/-
  Layer 4 (paper): part W: the document's notes of a text; the law of notes.
-/
import Derived.Test.YthlpfhjcdedhgaaDoorPapV
namespace Go.Proofs.YthlpfhjcdedhgaaDoor
open Go.Lift Go.Sort
set_option linter.unusedSimpArgs false
set_option linter.unusedVariables false
set_option maxHeartbeats 4000000
section
variable {w w1 w2 : World}
theorem rparse_run (ht : Tb w) {l : List UInt8} (hl : l.length ≤ 4294966000) {ns : List Nt} (hc : Chn l ns) : Run (F.granaryref4_ParseNotes (.string (sb l))) w fun r w' => ∃ v, r = .tuple #[v, .int .i64 (((allL ns).length : Nat) : Int)] ∧ OwnN w w' v ns := by
  unfold F.granaryref4_ParseNotes
  rw [Run_bind]
  have hcn := hc.count
  have hpl := hc.pre.length_le
  have bld : ∀ p : Nat, buildV #[(Value.string ByteArray.empty), (Value.int IntKind.i64 0), (Value.bool false)] [(0, 1, .string (sb l)), (1, 1, (.int .i64 (p : Int)))] = some (.agg #[.string (sb l), .int .i64 (p : Int), .bool false]) := fun p => rfl
  have read : ∀ {w1 : World} {v : Value} {ms : List Nt} {p : Nat}, OwnN w w1 v ms → p ≤ l.length → ∀ {β : Type} {K : Value → M β} {Q : β → World → Prop},
      (∀ (m : Nt) (k : Nat) w2, OwnN w w2 v ms → (k ≠ 0 → m.ok ∧ noteL m <+: l.drop p ∧ k = (noteL m).length) → (∀ n : Nt, n.ok → noteL n <+: l.drop p → m = n ∧ k = (noteL n).length) → Run (K (.tuple #[m.v, .int .i64 (k : Int)])) w2 Q) →
      Run (M.bind (newM 87 (Value.cells (.agg #[.string (sb l), .int .i64 (p : Int), .bool false]))) fun x5 => M.bind (F.granaryref4_Reader_note x5) K) w1 Q := by
    intro w1 v ms p hO hp β K Q q
    rw [Run_bind]
    refine Run_new fun b w2 hb hw f2 hble => ?_
    have t2 := (ht.fr0 hO.fr).fr0 f2
    have low := tb_low (ht.fr0 hO.fr)
    rw [Run_bind]
    refine (rnote_run t2 (show RS w2 b l p false from ⟨hb, hw⟩) (by omega) hp (by omega)).mono ?_
    rintro _ w3 ⟨⟨m, k, rfl, h1, h2⟩, f3⟩
    have f4 : Fr (fun _ => False) w1 w3 := f2.new f3 fun c hc => by omega
    exact q m k w3 (hO.frm f4) h1 h2
  refine Run_for ns.length (fun i L w' => ∃ v, L = [v, .int .i64 (((allL (ns.take i)).length : Nat) : Int)] ∧ OwnN w w' v (ns.take i)) ⟨_, rfl, SlW.nil _ _, fun _ h => h.elim, Fr.refl _ _⟩ ?_ ?_
  · rintro i L w1 hi ⟨v, rfl, hO⟩
    obtain ⟨n, hn⟩ : ∃ n, ns[i]? = some n := ⟨_, List.getElem?_eq_getElem hi⟩
    obtain ⟨hok, hpre, hnext, hle⟩ := hc.at hn
    have hn1 := note_len n
    rw [hnext, List.length_append, take_snocP hn]
    generalize (allL (ns.take i)).length = p at *
    have hlt : (p : Int) < l.length := by omega
    rw [lenS_string, sb_size, Run_bindO_some, getL_succ, getL_zero, lssT hlt, Run_bindO_some, Run_condM_true, bld, Run_bindO_some]
    refine read hO (by omega) fun m k w2 hO2 h1 h2 => ?_
    obtain ⟨rfl, rfl⟩ := h2 n hok hpre
    have y0 : extV 0 (.tuple #[m.v, .int .i64 (((noteL m).length : Nat) : Int)]) = some m.v := rfl
    have y1 : extV 1 (.tuple #[m.v, .int .i64 (((noteL m).length : Nat) : Int)]) = some (.int .i64 (((noteL m).length : Nat) : Int)) := rfl
    rw [y0, Run_bindO_some, y1, Run_bindO_some, Run_bind]
    refine Run_new fun x10 w4 hx10 hw10 f4 hxle => ?_
    rw [Run_bind, Run_stM (by rfl) (by rfl) ⟨⟨_, hx10, by simp [Nt.v, Value.cells]⟩, hw10⟩]
    have hb := bk_sto_same (o := 0) hx10 m.v.cells.toList
    have f5 : Fr (fun _ => False) w2 (sto w4 x10 0 m.v.cells.toList) := f4.sto (.inr hxle) _ _
    have hO5 := hO2.frm f5
    have l10 : ldA 4 (.pointer (some ⟨x10, 0, none⟩)) (sto w4 x10 0 m.v.cells.toList) = some m.v := ldA_bk hb (by first | exact Nat.le_refl _ | simp)
    generalize sto w4 x10 0 m.v.cells.toList = w5 at *
    have hk0 : ¬ (((noteL m).length : Nat) : Int) = 0 := by omega
    simp only [binV_int, intBin_eql, hk0, decide_false, Run_bindO_some, Run_bind, Run_condM_false, Run_rdM]
    refine ⟨_, l10, ?_⟩
    rw [getL_zero]
    refine ownN_app hO5 m (by rw [List.length_take]; omega) fun r w6 h6 _ => ?_
    have hw2 : IntKind.i64.wrap ((p : Int) + (((noteL m).length : Nat) : Int)) = ((p + (noteL m).length : Nat) : Int) := by rw [show (p : Int) + (((noteL m).length : Nat) : Int) = ((p + (noteL m).length : Nat) : Int) by omega]; exact i64W (by omega)
    simp only [binV_int, intBin_add, hw2, Run_bindO_some, Run_ret]
    exact ⟨r, rfl, h6⟩
  · rintro L w1 ⟨v, rfl, hO⟩
    rw [List.take_length] at hO ⊢
    have hfar := hc.far
    generalize (allL ns).length = p at *
    by_cases hlt' : p < l.length
    · have hlt : (p : Int) < l.length := by omega
      rw [lenS_string, sb_size, Run_bindO_some, getL_succ, getL_zero, lssT hlt, Run_bindO_some, Run_condM_true, bld, Run_bindO_some]
      refine read hO (by omega) fun m k w2 hO2 h1 h2 => ?_
      have hk : k = 0 := by
        by_cases hk : k = 0
        · exact hk
        · obtain ⟨q1, q2, _⟩ := h1 hk
          exact absurd q2 (hfar m q1)
      subst hk
      have y0 : extV 0 (.tuple #[m.v, .int .i64 ((0 : Nat) : Int)]) = some m.v := rfl
      have y1 : extV 1 (.tuple #[m.v, .int .i64 ((0 : Nat) : Int)]) = some (.int .i64 0) := rfl
      rw [y0, Run_bindO_some, y1, Run_bindO_some, Run_bind]
      refine Run_new fun x10 w4 hx10 hw10 f4 hxle => ?_
      rw [Run_bind, Run_stM (by rfl) (by rfl) ⟨⟨_, hx10, by simp [Nt.v, Value.cells]⟩, hw10⟩]
      have f5 : Fr (fun _ => False) w2 (sto w4 x10 0 m.v.cells.toList) := f4.sto (.inr hxle) _ _
      have hO5 := hO2.frm f5
      generalize sto w4 x10 0 m.v.cells.toList = w5 at *
      simp only [binV_int, intBin_eql, decide_true, Run_bindO_some, Run_condM_true, Run_ret, outK_ret, getL_zero]
      exact ⟨v, rfl, hO5⟩
    · have hlt : ¬ (p : Int) < l.length := by omega
      rw [lenS_string, sb_size, Run_bindO_some, getL_succ, getL_zero, lssF hlt, Run_bindO_some, Run_condM_false, Run_ret]
      simp only [outK_exit, getL_zero, getL_succ]
      rw [show Nat.beq 0 0 = true from rfl, cond_true, Run_ret]
      exact ⟨v, rfl, hO⟩
theorem neRow (n : Nt) : neV (EqSh.offs [(EqK.int, 0), (EqK.int, 1), (EqK.int, 2), (EqK.int, 3)]) (.agg n.row.toArray) (.agg n.row.toArray) = some (.bool false) := by
  simp [Nt.row, eqOffs, eqPrim]
theorem same_run {u v : Value} {ns : List Nt} (hu : Sl 4 w u (ns.map Nt.row)) (hv : Sl 4 w v (ns.map Nt.row)) (hl : ns.length ≤ 4294967296) : Run (F.granarylaw4_sameNotes u v) w fun r w' => r = .bool true ∧ Fr (fun _ => False) w w' := by
  unfold F.granarylaw4_sameNotes
  have lu := hu.lenL
  have lv := hv.lenL
  rw [List.length_map] at lu lv
  have hne : (!decide (((ns.length : Nat) : Int) = ns.length)) = false := by simp
  rw [lu, Run_bindO_some, lv, Run_bindO_some, binV_int, intBin_neq, hne, Run_bindO_some, Run_condM_false, Run_bind]
  refine Run_for ns.length (fun i L w' => L = [.int .i64 (i : Int)] ∧ Fr (fun _ => False) w w') ⟨rfl, Fr.refl _ _⟩ ?_ ?_
  · rintro i L w1 hi ⟨rfl, f1⟩
    obtain ⟨n, hn⟩ : ∃ n, ns[i]? = some n := ⟨_, List.getElem?_eq_getElem hi⟩
    have hil : (i : Int) < ns.length := by omega
    have f2 : Fr (fun _ => False) w w1.drew := f1.drew
    obtain ⟨p, p1, p2⟩ := (hu.fr0 f2).rdA (by decide) (i := i) (e := n.row) (by simp [hn]) .i64
    obtain ⟨q, q1, q2⟩ := (hv.fr0 f2).rdA (by decide) (i := i) (e := n.row) (by simp [hn]) .i64
    have p1' : idxA 4 u (.int .i64 (i : Int)) = some p := p1
    have q1' : idxA 4 v (.int .i64 (i : Int)) = some q := q1
    have wi := wrap_succ' (n := i) (by omega)
    rw [Run_bindO_some, getL_zero, lssT hil, Run_bindO_some, Run_condM_true, Run_drewM, p1', Run_bindO_some, Run_bind, Run_rdM]
    refine ⟨_, p2, ?_⟩
    rw [q1', Run_bindO_some, Run_bind, Run_rdM]
    refine ⟨_, q2, ?_⟩
    rw [neRow, Run_bindO_some, Run_condM_false, binV_int, intBin_add, wi, Run_bindO_some, Run_ret]
    exact ⟨rfl, f2⟩
  · rintro L w1 ⟨rfl, f1⟩
    have hn : ¬ ((ns.length : Nat) : Int) < ns.length := by omega
    rw [Run_bindO_some, getL_zero, lssF hn, Run_bindO_some, Run_condM_false, Run_ret]
    simp only [outK_exit]
    rw [show Nat.beq 0 0 = true from rfl, cond_true, Run_ret]
    exact ⟨rfl, f1⟩
theorem answer_run (ht : Tb w) {l : List UInt8} (hl : l.length ≤ 4294966000) : Run (F.granarylaw4_notesAnswer (.string (sb l))) w fun r w' => r = .bool true ∧ Fr (fun _ => False) w w' := by
  unfold F.granarylaw4_notesAnswer
  obtain ⟨ns, hc⟩ := chain_ex l.length l (Nat.le_refl _)
  have hcn := hc.count
  rw [Run_bind]
  refine (parse_run ht hl hc).mono ?_
  rintro _ w1 ⟨u, rfl, h1⟩
  have y0 : ∀ v x, extV 0 (.tuple #[v, x]) = some v := fun _ _ => rfl
  have y1 : ∀ v x, extV 1 (.tuple #[v, x]) = some x := fun _ _ => rfl
  rw [y0, Run_bindO_some, y1, Run_bindO_some, Run_bind]
  refine (rparse_run (ht.fr0 h1.fr) hl hc).mono ?_
  rintro _ w2 ⟨v, rfl, h2⟩
  rw [y0, Run_bindO_some, y1, Run_bindO_some, Run_bind]
  refine (same_run (h1.sl.1.fr0 h2.fr) h2.sl.1 (by omega)).mono ?_
  rintro _ w3 ⟨rfl, f3⟩
  simp only [Run_bind, Run_guardM_tt, Run_ret, binV_int, intBin_eql, decide_true, Run_optM_some, pickV_bool, cond_true, Run_bindO_some]
  exact ⟨trivial, (h1.fr.trans h2.fr fun _ _ => id).trans f3 fun _ _ => id⟩
theorem notes_walk (ht : Tb w) (n : Nt) {l : List UInt8} (hl : l.length ≤ 4294960000) : Run (F.granarylaw4_PaperNotes n.v (.string (sb l))) w fun r w' => r = .bool true ∧ Fr (fun _ => False) w w' := by
  unfold F.granarylaw4_PaperNotes
  rw [Run_bind]
  refine Run_new fun x w1 hx hxw f1 hxle => ?_
  have hx1 : ldA 4 (.pointer (some ⟨x, 0, none⟩)) w1 = some n.v := ldA_bk hx (Nat.le_refl _)
  have t1 := ht.fr0 f1
  rw [Run_bind, Run_rdM]
  refine ⟨_, hx1, ?_⟩
  rw [Run_bind]
  refine (print_run t1 n).mono ?_
  rintro _ w2 ⟨rfl, f2⟩
  have t2 := t1.fr0 f2
  have hx2 : ldA 4 (.pointer (some ⟨x, 0, none⟩)) w2 = some n.v := ldA_bk (f2.bk_some hx id) (Nat.le_refl _)
  obtain ⟨tx, e, hno, htx⟩ : ∃ (t : List UInt8) (e : Int), noteO n = .tuple #[.string (sb t), .int .i64 e] ∧ t.length ≤ 200 := by
    unfold noteO
    by_cases hn : n.ok
    · rw [if_pos hn]
      refine ⟨_, _, rfl, ?_⟩
      have h1 := pre_len n hn
      have h2 : (eightL (crcF ⟨(preL n).toArray⟩)).length = 8 := lowD_len _ _
      simp only [noteL, List.length_append, h2, List.length_singleton]
      omega
    · rw [if_neg hn]
      exact ⟨[], _, rfl, by simp⟩
  have y0 : ∀ v x, extV 0 (.tuple #[v, x]) = some v := fun _ _ => rfl
  have y1 : ∀ v x, extV 1 (.tuple #[v, x]) = some x := fun _ _ => rfl
  rw [hno, y0, Run_bindO_some, y1, Run_bindO_some, Run_bind, Run_rdM]
  refine ⟨_, hx2, ?_⟩
  rw [Run_bind]
  refine (rprint_run t2 n).mono ?_
  rintro _ w3 ⟨rfl, f3⟩
  have t3 := t2.fr0 f3
  rw [hno, y0, Run_bindO_some, y1, Run_bindO_some, sbEq]
  simp only [decide_true, Run_bindO_some, Run_bind, Run_guardM_tt, Run_ret, F.granarylaw4_num, binV_int, intBin_eql, Run_optM_some, pickV_bool, cond_true]
  refine (answer_run t3 (show l.length ≤ 4294966000 by omega)).mono ?_
  rintro _ w4 ⟨rfl, f4⟩
  have t4 := t3.fr0 f4
  simp only [pickV_bool, cond_true, Run_bindO_some, Run_bind, Run_guardM_tt, Run_ret]
  refine (answer_run t4 (show tx.length ≤ 4294966000 by omega)).mono ?_
  rintro _ w5 ⟨rfl, f5⟩
  have t5 := t4.fr0 f5
  have ea := sbAdd (a := tx) (c := l) (by omega)
  simp only [pickV_bool, cond_true, Run_bindO_some, Run_bind, Run_guardM_tt, Run_ret, ea, Run_optM_some]
  refine (answer_run t5 (show (tx ++ l).length ≤ 4294966000 by rw [List.length_append]; omega)).mono ?_
  rintro _ w6 ⟨rfl, f6⟩
  simp only [pickV_bool, cond_true, Run_bindO_some, Run_ret]
  exact ⟨trivial, ((((f1.trans f2 fun _ _ => id).trans f3 fun _ _ => id).trans f4 fun _ _ => id).trans f5 fun _ _ => id).trans f6 fun _ _ => id⟩
end
end Go.Proofs.YthlpfhjcdedhgaaDoor
