/-
  Layer 4 (paper): part S: a note's line that is read: the walk.
-/
import Derived.Test.YthlpfhjcdedhgaaDoorPapR
namespace Go.Proofs.YthlpfhjcdedhgaaDoor
open Go.Lift Go.Sort
set_option linter.unusedSimpArgs false
set_option linter.unusedVariables false
set_option maxHeartbeats 4000000
section
variable {w w1 w2 : World}
/-- What a line is read as. -/
structure NoteP (w w' : World) (s : List UInt8) (r : Value) : Prop where
  val : ∃ m : Nt, ∃ b : Bool, r = .tuple #[m.v, .bool b] ∧ (b = true → m.ok ∧ noteL m = s ++ [10]) ∧ ∀ n : Nt, n.ok → noteL n = s ++ [10] → m = n ∧ b = true
  fr : Fr (fun _ => False) w w'
theorem neOk (a b c d e : Bool) : neV (EqSh.offs [(EqK.bool, 0), (EqK.bool, 1), (EqK.bool, 2), (EqK.bool, 3), (EqK.bool, 4)]) (.agg #[.bool a, .bool b, .bool c, .bool d, .bool e]) (.agg #[.bool true, .bool true, .bool true, .bool true, .bool true]) = some (.bool (!(a && b && c && d && e))) := by
  cases a <;> cases b <;> cases c <;> cases d <;> cases e <;> rfl
theorem tb_low (ht : Tb w) : 5 ≤ w.heap.size := by
  obtain ⟨l, h, _⟩ := ht.bits
  have := bk_lt h
  omega
theorem note_run (ht : Tb w) (s : List UInt8) (hs : s.length ≤ 4294967000) : Run (F.paper_note (.string (sb s))) w fun r w' => NoteP w w' s r := by
  unfold F.paper_note
  rw [Run_bind]
  refine Run_new fun x1 wa hx1 hw1 fa hx1le => ?_
  have ta := ht.fr0 fa
  rw [Run_bind]
  refine (split_run ta s 32 (by omega)).mono ?_
  rintro v wb ⟨hv, fb, hvn⟩
  have hlv := hv.1.lenL
  rw [List.length_map] at hlv
  rw [hlv, Run_bindO_some, binV_int, intBin_neq, Run_bindO_some]
  have hx1b := fb.bk_some hx1 id
  have hw1b : wr wb x1 = true := by rw [fb.wr (bk_lt hx1) id]; exact hw1
  have z0 : buildV #[(Value.int IntKind.i64 0), (Value.int IntKind.i64 0), (Value.int IntKind.i64 0), (Value.int IntKind.i64 0)] [] = some (.agg #[(Value.int IntKind.i64 0), (Value.int IntKind.i64 0), (Value.int IntKind.i64 0), (Value.int IntKind.i64 0)]) := rfl
  by_cases h5 : (spl 32 s).length = 5
  case neg =>
    have h5' : ¬ (((spl 32 s).length : Nat) : Int) = 5 := by omega
    have ht : (!decide ((((spl 32 s).length : Nat) : Int) = 5)) = true := by simp [h5']
    rw [ht, Run_condM_true, z0, Run_bindO_some, Run_bind, Run_stM (by rfl) (by rfl) ⟨⟨_, hx1b, by simp⟩, hw1b⟩, Run_bind, Run_rdM]
    have hb : bk (sto wb x1 0 (Value.agg #[(Value.int IntKind.i64 0), (Value.int IntKind.i64 0), (Value.int IntKind.i64 0), (Value.int IntKind.i64 0)]).cells.toList) x1 = some [.int .i64 0, .int .i64 0, .int .i64 0, .int .i64 0] := by
      rw [bk_sto_same hx1b]; rfl
    refine ⟨_, ldA_bk hb (by simp), ?_⟩
    rw [Run_ret]
    refine ⟨⟨⟨0, 0, 0, 0⟩, false, rfl, fun h => Bool.noConfusion h, fun n hn he => ?_⟩, (fa.trans fb fun _ _ => id).sto (.inr hx1le) _ _⟩
    have := line_words he
    rw [this] at h5
    exact absurd rfl h5
  have h5' : (((spl 32 s).length : Nat) : Int) = 5 := by omega
  have hf : (!decide ((((spl 32 s).length : Nat) : Int) = 5)) = false := by simp [h5']
  rw [hf, Run_condM_false, Run_bind]
  refine Run_new fun x8 wc hx8 hw8 fc hx8le => ?_
  rw [Run_bind]
  refine Run_new fun x9 wd hx9 hw9 fd hx9le => ?_
  obtain ⟨a, b, c, d, e, hN⟩ : ∃ a b c d e, spl 32 s = [a, b, c, d, e] := by
    match spl 32 s, h5 with
    | [a, b, c, d, e], _ => exact ⟨a, b, c, d, e, rfl⟩
  have hjn := (spl_jn 32 s).1
  rw [hN] at hjn
  have hlens : a.length ≤ s.length ∧ b.length ≤ s.length ∧ c.length ≤ s.length ∧ d.length ≤ s.length ∧ e.length ≤ s.length := by
    rw [← hjn]
    simp [jn]
    omega
  have s1 := fa.size
  have s2 := fb.size
  have s3 := fc.size
  have s4 := fd.size
  have l1 := bk_lt hx1
  have l8 := bk_lt hx8
  have l9 := bk_lt hx9
  have nd : NS w wd v [a, b, c, d, e] x1 x8 x9 [.int .i64 0, .int .i64 0, .int .i64 0, .int .i64 0] [.bool false, .bool false, .bool false, .bool false, .bool false] := {
    tb := ((ta.fr0 fb).fr0 fc).fr0 fd
    ws := by rw [← hN]; exact (hv.1.fr0 fc).fr0 fd
    b1 := fd.bk_some (fc.bk_some hx1b id) id
    w1 := by rw [fd.wr (by omega) id, fc.wr (by omega) id]; exact hw1b
    b8 := fd.bk_some hx8 id
    w8 := by rw [fd.wr l8 id]; exact hw8
    b9 := hx9
    w9 := hw9
    e8 := rfl
    e9 := rfl
    n1 := hx1le
    n8 := by omega
    n9 := by omega
    d8 := ⟨by omega, by omega, by omega, fun h => by have := (hvn _ h).2; omega, fun h => by have := (hvn _ h).2; omega⟩
    low := tb_low ht
    fr := ((fa.trans fb fun _ _ => id).trans fc fun _ _ => id).trans fd fun _ _ => id }
  refine nd.word (i := 0) (s := a) rfl (fun w => number_run a (by omega)) fun we ne => ?_
  refine ne.both (i := 0) (by decide) fun we ne => ?_
  refine ne.word (i := 1) (s := b) rfl (fun w => number_run b (by omega)) fun we ne => ?_
  refine ne.both (i := 1) (by decide) fun we ne => ?_
  refine ne.word (i := 2) (s := c) rfl (fun w => number_run c (by omega)) fun we ne => ?_
  refine ne.both (i := 2) (by decide) fun we ne => ?_
  refine ne.word (i := 3) (s := d) rfl (fun w => sumOf_run (by omega)) fun we ne => ?_
  refine ne.both (i := 3) (by decide) fun we ne => ?_
  refine ne.word (i := 4) (s := e) rfl (fun w => sumOf_run (by omega)) fun we ne => ?_
  have e0 : extV 0 (numV (sumF e)) = some (.int .i64 (((sumF e).getD 0 : Nat) : Int)) := rfl
  have e1 : extV 1 (numV (sumF e)) = some (.bool (sumF e).isSome) := rfl
  rw [e0, Run_bindO_some, e1, Run_bindO_some]
  have i4 := idxR5 (x := x9) (k := 4) (by decide)
  have i4' : idxR 5 1 (.pointer (some ⟨x9, 0, none⟩)) (.int .i64 4) = some (.pointer (some ⟨x9, 4, none⟩)) := i4
  rw [i4', Run_bindO_some, Run_bind, Run_stM (by rfl) (by rfl) ⟨⟨_, ne.b9, by rw [ne.e9]; decide⟩, ne.w9⟩]
  replace ne := ne.put9 4 (.bool (sumF e).isSome)
  have l9e := ldA_bk (o := 0) (n := 5) ne.b9 (by rw [ne.e9]; decide)
  have l8e := ldA_bk (o := 0) (n := 4) ne.b8 (by rw [ne.e8]; decide)
  replace l9e : ldA 5 (.pointer (some ⟨x9, 0, none⟩)) (sto we x9 4 [.bool (sumF e).isSome]) = some (.agg #[.bool (numF a).isSome, .bool (numF b).isSome, .bool (numF c).isSome, .bool (sumF d).isSome, .bool (sumF e).isSome]) := l9e
  have bt : buildV #[(Value.bool false), (Value.bool false), (Value.bool false), (Value.bool false), (Value.bool false)] [(0, 1, (Value.bool true)), (1, 1, (Value.bool true)), (2, 1, (Value.bool true)), (3, 1, (Value.bool true)), (4, 1, (Value.bool true))] = some (.agg #[.bool true, .bool true, .bool true, .bool true, .bool true]) := by kernel_rfl
  have hm : ∀ n : Nt, n.ok → noteL n = s ++ [10] → numF a = some n.k.toNat ∧ numF b = some n.f.toNat ∧ numF c = some n.u.toNat ∧ sumF d = some n.c.toNat ∧ (sumF e).isSome = true := fun n hn he => by
    have hw := line_words he
    rw [hN] at hw
    simp only [wordsL, List.cons.injEq, and_true] at hw
    obtain ⟨h1, h2, h3, h4, h5⟩ := hw
    obtain ⟨r1, r2, r3, r4⟩ := ok_read hn
    rw [h1, h2, h3, h4, h5]
    exact ⟨r1, r2, r3, r4, by rw [eight_sum (crcF_lt _)]; rfl⟩
  generalize hnt : (⟨(((numF a).getD 0 : Nat) : Int), (((numF b).getD 0 : Nat) : Int), (((numF c).getD 0 : Nat) : Int), (((sumF d).getD 0 : Nat) : Int)⟩ : Nt) = m
  replace l8e : ldA 4 (.pointer (some ⟨x8, 0, none⟩)) (sto we x9 4 [.bool (sumF e).isSome]) = some m.v := by rw [← hnt]; exact l8e
  have hmm : ∀ n : Nt, n.ok → noteL n = s ++ [10] → m = n := fun n hn he => by
    obtain ⟨h1, h2, h3, h4, _⟩ := hm n hn he
    rw [← hnt, h1, h2, h3, h4]
    exact Nt.cast hn
  show Run _ (sto we x9 4 [.bool (sumF e).isSome]) _
  rw [Run_bind, Run_rdM]
  refine ⟨_, l9e, ?_⟩
  rw [bt, Run_bindO_some, neOk, Run_bindO_some]
  cases hok : ((numF a).isSome && (numF b).isSome && (numF c).isSome && (sumF d).isSome && (sumF e).isSome) with
  | false =>
    rw [Bool.not_false, Run_condM_true, z0, Run_bindO_some, Run_bind, Run_stM (by rfl) (by rfl) ⟨⟨_, ne.b1, by simp⟩, ne.w1⟩, Run_bind, Run_rdM]
    have hb := bk_sto_same (o := 0) ne.b1 (Value.agg #[(Value.int IntKind.i64 0), (Value.int IntKind.i64 0), (Value.int IntKind.i64 0), (Value.int IntKind.i64 0)]).cells.toList
    refine ⟨_, ldA_bk hb (by first | exact Nat.le_refl _ | simp), ?_⟩
    rw [Run_ret]
    refine ⟨⟨⟨0, 0, 0, 0⟩, false, rfl, fun h => Bool.noConfusion h, fun n hn he => ?_⟩, ne.fr.sto (.inr ne.n1) _ _⟩
    obtain ⟨h1, h2, h3, h4, h5⟩ := hm n hn he
    rw [h1, h2, h3, h4, h5] at hok
    simp at hok
  | true =>
    rw [Bool.not_true, Run_condM_false, Run_bind, Run_rdM]
    refine ⟨_, l8e, ?_⟩
    rw [Run_bind]
    refine (print_run ne.tb m).mono ?_
    rintro _ wf ⟨rfl, ff⟩
    have nf := ne.frm ff
    have l8f := ldA_bk (o := 0) (n := 4) nf.b8 (by rw [nf.e8]; decide)
    replace l8f : ldA 4 (.pointer (some ⟨x8, 0, none⟩)) wf = some m.v := by rw [← hnt]; exact l8f
    have hst : ∀ y : Bool, (y = true → m.ok ∧ noteL m = s ++ [10]) → (∀ n : Nt, n.ok → noteL n = s ++ [10] → y = true) → Run (stM 4 (.pointer (some ⟨x1, 0, none⟩)) m.v) wf fun _ w1 => Run (rdM (ldA 4 (.pointer (some ⟨x1, 0, none⟩)))) w1 fun a w' => NoteP w w' s (.tuple #[a, .bool y]) := by
      intro y hy1 hy2
      rw [Run_stM (by rfl) (by rfl) ⟨⟨_, nf.b1, by simp [Nt.v, Value.cells]⟩, nf.w1⟩, Run_rdM]
      have hb := bk_sto_same (o := 0) nf.b1 m.v.cells.toList
      refine ⟨_, ldA_bk hb (by first | exact Nat.le_refl _ | simp), ?_⟩
      exact ⟨⟨m, y, rfl, hy1, fun n hn he => ⟨hmm n hn he, hy2 n hn he⟩⟩, nf.fr.sto (.inr nf.n1) _ _⟩
    by_cases hmo : m.ok
    · have e10 : ByteArray.mk #[10] = sb [10] := rfl
      have ea := sbAdd (a := s) (c := [10]) (by simp; omega)
      have eq := sbEq (noteL m) (s ++ [10])
      rw [noteO, if_pos hmo]
      have x0 : extV 0 (.tuple #[.string ⟨(noteL m).toArray⟩, .int .i64 0]) = some (.string (sb (noteL m))) := rfl
      have x1' : extV 1 (.tuple #[.string ⟨(noteL m).toArray⟩, .int .i64 0]) = some (.int .i64 0) := rfl
      rw [x0, Run_bindO_some, x1', Run_bindO_some, Run_bind, Run_rdM]
      refine ⟨_, l8f, ?_⟩
      simp only [binV_int, intBin_eql, decide_true, Run_bindO_some, Run_bind, Run_guardM_tt, Run_ret, e10, ea, Run_optM_some, eq, pickV_bool, cond_true]
      refine hst (decide (noteL m = s ++ [10])) (fun h => ⟨hmo, of_decide_eq_true h⟩) fun n hn he => ?_
      rw [hmm n hn he]
      exact decide_eq_true he
    · rw [noteO, if_neg hmo]
      have x0 : extV 0 (.tuple #[.string (ByteArray.mk #[]), .int .i64 42]) = some (.string (ByteArray.mk #[])) := rfl
      have x1' : extV 1 (.tuple #[.string (ByteArray.mk #[]), .int .i64 42]) = some (.int .i64 42) := rfl
      rw [x0, Run_bindO_some, x1', Run_bindO_some, Run_bind, Run_rdM]
      refine ⟨_, l8f, ?_⟩
      have h42 : ¬ (42 : Int) = 0 := by decide
      simp only [binV_int, intBin_eql, h42, decide_false, Run_bindO_some, Run_bind, Run_guardM_ft, Run_ret, pickV_bool, cond_false]
      refine hst false (fun h => Bool.noConfusion h) fun n hn he => ?_
      exact absurd (hmm n hn he ▸ hn) hmo
end
end Go.Proofs.YthlpfhjcdedhgaaDoor
