/-
  Layer 4 (paper): part U: the document's note that is read: the walk.
-/
import Derived.Test.YthlpfhjcdedhgaaDoorPapT
namespace Go.Proofs.YthlpfhjcdedhgaaDoor
open Go.Lift Go.Sort
set_option linter.unusedSimpArgs false
set_option linter.unusedVariables false
set_option maxHeartbeats 4000000
section
variable {w w1 w2 : World}
theorem note_parts (n : Nt) : noteL n = Lib.decDigits n.k.toNat ++ ([32] ++ (Lib.decDigits n.f.toNat ++ ([32] ++ (Lib.decDigits n.u.toNat ++ ([32] ++ (eightL n.c.toNat ++ ([32] ++ (eightL (crcF (sb (preL n))) ++ [10])))))))) := by
  simp [noteL, preL, sb]
theorem drop_more {l a r : List UInt8} {p : Nat} (h : l.drop p = a ++ r) : l.drop (p + a.length) = r := by
  rw [← List.drop_drop, h, List.drop_left]
/-- A number at a place where one is printed. -/
theorem num_step {l r : List UInt8} {p n : Nat} (hn : n < 10000000000000000) (h : l.drop p = Lib.decDigits n ++ ([32] ++ r)) : numF (rdD l p) = some n ∧ l.drop (p + (rdD l p).length) = [32] ++ r := by
  have e := rdD_dec hn h fun c hc => by cases hc; rfl
  rw [e]
  exact ⟨dec_num hn, drop_more h⟩
theorem lit_step {l r y : List UInt8} {p : Nat} (h : l.drop p = y ++ r) : y <+: l.drop p ∧ l.drop (p + y.length) = r := ⟨⟨r, h.symm⟩, drop_more h⟩
theorem rnote_run {b p : Nat} {l : List UInt8} (ht : Tb w) (h : RS w b l p false) (h5 : 5 ≤ b) (hp : p ≤ l.length) (hl : l.length ≤ 4611686018427387000) :
    Run (F.granaryref4_Reader_note (.pointer (some ⟨b, 0, none⟩))) w fun r w' => NoteR w w' b l p r := by
  unfold F.granaryref4_Reader_note
  rw [Run_bind]
  refine Run_new fun x1 wa hx1 hw1 fa hx1le => ?_
  have hRa : RS wa b l p false := ⟨fa.bk_some h.1 id, by rw [fa.wr (bk_lt h.1) id]; exact h.2⟩
  have nck : nilChk (.pointer (some ⟨b, 0, none⟩)) = some (.pointer (some ⟨b, 0, none⟩)) := rfl
  have z0 : buildV #[(Value.int IntKind.i64 0), (Value.int IntKind.i64 0), (Value.int IntKind.i64 0), (Value.int IntKind.i64 0)] [] = some (.agg #[(Value.int IntKind.i64 0), (Value.int IntKind.i64 0), (Value.int IntKind.i64 0), (Value.int IntKind.i64 0)]) := rfl
  have la : ld1 (.pointer (some ⟨b, 0 + 1, none⟩)) wa = some (.int .i64 (p : Int)) := by rw [ld1_ptr, hRa.1]; rfl
  rw [nck, Run_bindO_some, fieldA_ptr, Run_bindO_some, Run_bind, Run_rdM]
  refine ⟨_, la, ?_⟩
  rw [z0, Run_bindO_some, Run_bind]
  refine Run_new fun x6 wb hx6 hw6 fb hx6le => ?_
  rw [Run_bind, Run_stM (by rfl) (by rfl) ⟨⟨_, hx6, by simp⟩, hw6⟩]
  have lb := bk_lt h.1
  have l1 := bk_lt hx1
  have sa := fa.size
  have n0 : RN w (sto wb x6 0 (Value.agg #[(Value.int IntKind.i64 0), (Value.int IntKind.i64 0), (Value.int IntKind.i64 0), (Value.int IntKind.i64 0)]).cells.toList) b l p false x1 x6 [.int .i64 0, .int .i64 0, .int .i64 0, .int .i64 0] := by
    have f : Fr (fun c => c = x6) wb (sto wb x6 0 (Value.agg #[(Value.int IntKind.i64 0), (Value.int IntKind.i64 0), (Value.int IntKind.i64 0), (Value.int IntKind.i64 0)]).cells.toList) := (show Fr (fun c => c = x6) wb wb from Fr.refl _ _).sto (.inl rfl) _ _
    have h6 := bk_lt hx6
    have low := tb_low ht
    exact { tb := ((ht.fr0 fa).fr0 fb).fr f fun c hc he => by omega
            rs := ⟨f.bk_some (fb.bk_some hRa.1 id) fun e => by omega, by rw [wr_sto, fb.wr (bk_lt hRa.1) id]; exact hRa.2⟩
            hp := hp
            b1 := f.bk_some (fb.bk_some hx1 id) fun e => by omega
            w1 := by rw [wr_sto, fb.wr l1 id]; exact hw1
            b6 := by rw [bk_sto_same hx6]; rfl
            w6 := by rw [wr_sto]; exact hw6
            e6 := rfl, n1 := hx1le, n6 := by omega, ne := by omega, nb := lb, b5 := h5
            fr := ((fa.trans fb fun _ _ => id).mono fun _ h => h.elim).sto (.inr (by omega)) _ _ }
  have e32 : ByteArray.mk #[32] = sb [32] := rfl
  rw [e32]
  refine n0.num (by omega) (i := 0) (by decide) fun we n1 => ?_
  refine n1.lit (by omega) (by simp) fun we p2 n2 h2 => ?_
  refine n2.num (by omega) (i := 1) (by decide) fun we n3 => ?_
  refine n3.lit (by omega) (by simp) fun we p4 n4 h4 => ?_
  refine n4.num (by omega) (i := 2) (by decide) fun we n5 => ?_
  refine n5.lit (by omega) (by simp) fun we p6 n6 h6 => ?_
  refine n6.sum (by omega) (i := 3) (by decide) fun we p7 n7 => ?_
  have comp : ∀ n : Nt, n.ok → noteL n <+: l.drop p → numF (rdD l p) = some n.k.toNat ∧ numF (rdD l p2) = some n.f.toNat ∧ numF (rdD l p4) = some n.u.toNat ∧
      (((false || (numF (rdD l p)).isNone) || !decide ([32] <+: l.drop (p + (rdD l p).length))) = false ∧ ((((false || (numF (rdD l p)).isNone) || !decide ([32] <+: l.drop (p + (rdD l p).length))) || (numF (rdD l p2)).isNone) || !decide ([32] <+: l.drop (p2 + (rdD l p2).length))) = false) ∧ (((((((false || (numF (rdD l p)).isNone) || !decide ([32] <+: l.drop (p + (rdD l p).length))) || (numF (rdD l p2)).isNone) || !decide ([32] <+: l.drop (p2 + (rdD l p2).length))) || (numF (rdD l p4)).isNone) || !decide ([32] <+: l.drop (p4 + (rdD l p4).length))) = false) ∧ (pairsF (l.drop p6) 4).map valB = some n.c.toNat := by
    rintro n hn ⟨t, ht⟩
    rw [note_parts] at ht
    simp only [List.append_assoc] at ht
    obtain ⟨a1, a2⟩ := num_step (n := n.k.toNat) (by have := hn.1; omega) ht.symm
    obtain ⟨b1, b2⟩ := lit_step a2
    have e1 : ((false || (numF (rdD l p)).isNone) || !decide ([32] <+: l.drop (p + (rdD l p).length))) = false := by rw [a1, decide_eq_true b1]; rfl
    have q2 := h2 (by rw [a1]; rfl) b1
    rw [← q2] at b2
    obtain ⟨a3, a4⟩ := num_step (n := n.f.toNat) (by have := hn.2.1; omega) b2
    obtain ⟨b3, b4⟩ := lit_step a4
    have e2 : ((((false || (numF (rdD l p)).isNone) || !decide ([32] <+: l.drop (p + (rdD l p).length))) || (numF (rdD l p2)).isNone) || !decide ([32] <+: l.drop (p2 + (rdD l p2).length))) = false := by rw [e1, a3, decide_eq_true b3]; rfl
    have q4 := h4 (by rw [e1, a3]; rfl) b3
    rw [← q4] at b4
    obtain ⟨a5, a6⟩ := num_step (n := n.u.toNat) (by have := hn.2.2.1; omega) b4
    obtain ⟨b5, b6⟩ := lit_step a6
    have e3 : ((((((false || (numF (rdD l p)).isNone) || !decide ([32] <+: l.drop (p + (rdD l p).length))) || (numF (rdD l p2)).isNone) || !decide ([32] <+: l.drop (p2 + (rdD l p2).length))) || (numF (rdD l p4)).isNone) || !decide ([32] <+: l.drop (p4 + (rdD l p4).length))) = false := by rw [e2, a5, decide_eq_true b5]; rfl
    have q6 := h6 (by rw [e2, a5]; rfl) b5
    rw [← q6] at b6
    refine ⟨a1, a3, a5, ⟨e1, e2⟩, e3, ?_⟩
    rw [b6]
    exact eight_read (by have := hn.2.2.2; omega) _
  generalize hb6 : ((((((false || (numF (rdD l p)).isNone) || !decide ([32] <+: l.drop (p + (rdD l p).length))) || (numF (rdD l p2)).isNone) || !decide ([32] <+: l.drop (p2 + (rdD l p2).length))) || (numF (rdD l p4)).isNone) || !decide ([32] <+: l.drop (p4 + (rdD l p4).length))) = bad6 at *
  generalize ho : (if bad6 = true then none else (pairsF (l.drop p6) 4).map valB) = o at *
  have comp2 : ∀ n : Nt, n.ok → noteL n <+: l.drop p → numF (rdD l p) = some n.k.toNat ∧ numF (rdD l p2) = some n.f.toNat ∧ numF (rdD l p4) = some n.u.toNat ∧ o = some n.c.toNat := fun n hn hpre => by
    obtain ⟨c1, c2, c3, _, c5, c6⟩ := comp n hn hpre
    refine ⟨c1, c2, c3, ?_⟩
    rw [← ho, c5]
    exact c6
  clear comp h2 h4 h6
  generalize hnt : (⟨(((numF (rdD l p)).getD 0 : Nat) : Int), (((numF (rdD l p2)).getD 0 : Nat) : Int), (((numF (rdD l p4)).getD 0 : Nat) : Int), ((o.getD 0 : Nat) : Int)⟩ : Nt) = m
  have hmm : ∀ n : Nt, n.ok → noteL n <+: l.drop p → m = n := fun n hn hpre => by
    obtain ⟨c1, c2, c3, c4⟩ := comp2 n hn hpre
    rw [← hnt, c1, c2, c3, c4]
    exact Nt.cast hn
  have lbad : ld1 (.pointer (some ⟨b, 0 + 2, none⟩)) we = some (.bool o.isNone) := by rw [ld1_ptr, n7.rs.1]; rfl
  rw [Run_bindO_some, fieldA_ptr, Run_bindO_some, Run_bind, Run_rdM]
  refine ⟨_, lbad, ?_⟩
  have fail : ∀ (l6 : List Value) (bd : Bool) wz, RN w wz b l p7 bd x1 x6 l6 → (∀ n : Nt, n.ok → ¬ noteL n <+: l.drop p) → Run (stM 4 (.pointer (some ⟨x1, 0, none⟩)) (.agg #[(Value.int IntKind.i64 0), (Value.int IntKind.i64 0), (Value.int IntKind.i64 0), (Value.int IntKind.i64 0)])) wz fun _ w1 => Run (rdM (ldA 4 (.pointer (some ⟨x1, 0, none⟩)))) w1 fun a w' => NoteR w w' b l p (.tuple #[a, .int .i64 0]) := by
    intro l6 bd wz nz hno
    rw [Run_stM (by rfl) (by rfl) ⟨⟨_, nz.b1, by simp [Value.cells]⟩, nz.w1⟩, Run_rdM]
    have hb := bk_sto_same (o := 0) nz.b1 (Value.agg #[(Value.int IntKind.i64 0), (Value.int IntKind.i64 0), (Value.int IntKind.i64 0), (Value.int IntKind.i64 0)]).cells.toList
    refine ⟨_, ldA_bk hb (by first | exact Nat.le_refl _ | simp), ?_⟩
    exact ⟨⟨⟨0, 0, 0, 0⟩, 0, rfl, fun h => absurd rfl h, fun n hn he => absurd he (hno n hn)⟩, nz.fr.sto (.inr nz.n1) _ _⟩
  cases hb7 : o.isNone with
  | true =>
    rw [Run_condM_true, Run_bindO_some]
    simp only [Run_bind, Run_ret]
    refine fail _ _ we n7 fun n hn he => ?_
    obtain ⟨_, _, _, c4⟩ := comp2 n hn he
    rw [c4] at hb7; cases hb7
  | false =>
    rw [Run_condM_false, Run_bind, Run_rdM]
    have l6e := ldA_bk (o := 0) (n := 4) n7.b6 (by rw [n7.e6]; decide)
    replace l6e : ldA 4 (.pointer (some ⟨x6, 0, none⟩)) we = some m.v := by rw [← hnt]; exact l6e
    refine ⟨_, l6e, ?_⟩
    rw [Run_bind]
    refine (rprint_run n7.tb m).mono ?_
    rintro _ wf ⟨rfl, ff⟩
    have f2 : Fr (fun c => c = b) we wf := ff.mono fun _ h => h.elim
    have nf := n7.call f2 ⟨ff.bk_some n7.rs.1 id, by rw [ff.wr (bk_lt n7.rs.1) id]; exact n7.rs.2⟩ n7.hp
    have hbf := nf.rs.1
    by_cases hmo : m.ok
    · rw [noteO, if_pos hmo]
      have x0 : extV 0 (.tuple #[.string ⟨(noteL m).toArray⟩, .int .i64 0]) = some (.string (sb (noteL m))) := rfl
      have x1' : extV 1 (.tuple #[.string ⟨(noteL m).toArray⟩, .int .i64 0]) = some (.int .i64 0) := rfl
      rw [x0, Run_bindO_some, x1', Run_bindO_some]
      have hlen : (sb l).size = l.length := sb_size l
      have hlm : (sb (noteL m)).size = (noteL m).length := sb_size _
      have hml : (noteL m).length ≤ 100 := by
        have h1 := pre_len m hmo
        have h2 : (eightL (crcF ⟨(preL m).toArray⟩)).length = 8 := lowD_len _ _
        simp only [noteL, List.length_append, h2, List.length_singleton]
        omega
      have ws : IntKind.i64.wrap ((l.length : Int) - p) = ((l.length - p : Nat) : Int) := by rw [show (l.length : Int) - p = ((l.length - p : Nat) : Int) by omega]; exact i64W (by omega)
      have wa : IntKind.i64.wrap ((p : Int) + (noteL m).length) = ((p + (noteL m).length : Nat) : Int) := by rw [show (p : Int) + (noteL m).length = ((p + (noteL m).length : Nat) : Int) by omega]; exact i64W (by omega)
      have hs0 : (bk wf b).bind (fun x => x[0]?) = some (.string (sb l)) := by rw [hbf]; rfl
      have h00 : (!decide ((0 : Int) = 0)) = false := by decide
      by_cases h1 : l.length - p < (noteL m).length
      · have h1' : ((l.length - p : Nat) : Int) < (noteL m).length := by omega
        simp [-ldA_ptr, -Run_stM_iff, -binV_str, hbf, hlen, hlm, ws, h1']
        have := fail _ _ wf nf fun n hn he => by
          have h2 := he.length_le
          rw [List.length_drop] at h2
          rw [← hmm n hn he] at h2
          omega
        simp only [Run_rdM] at this
        exact this
      · have h1' : ¬ ((l.length - p : Nat) : Int) < (noteL m).length := by omega
        have hsl := slBoth (l := l) (n := p) (m := p + (noteL m).length) (by omega) (by omega)
        rw [show (l.take (p + (noteL m).length)).drop p = (l.drop p).take (noteL m).length by rw [List.drop_take, Nat.add_sub_cancel_left]] at hsl
        have hpre := prefix_take (p := noteL m) (l := l.drop p) (by rw [List.length_drop]; omega)
        by_cases h2 : (l.drop p).take (noteL m).length = noteL m
        · have l6f := ldA_bk (o := 0) (n := 4) nf.b6 (by rw [nf.e6]; decide)
          replace l6f : ldA 4 (.pointer (some ⟨x6, 0, none⟩)) wf = some m.v := by rw [← hnt]; exact l6f
          simp [-ldA_ptr, -Run_stM_iff, -binV_str, -Int.natCast_add, sbNe, hbf, hlen, hlm, ws, wa, hsl, h1', h2, l6f]
          rw [Run_stM (by rfl) (by rfl) ⟨⟨_, nf.b1, by simp [Nt.v, Value.cells]⟩, nf.w1⟩]
          have hb := bk_sto_same (o := 0) nf.b1 m.v.cells.toList
          refine ⟨_, ldA_bk hb (by first | exact Nat.le_refl _ | simp), ?_⟩
          exact ⟨⟨m, (noteL m).length, rfl, fun _ => ⟨hmo, hpre.2 h2, rfl⟩, fun n hn he => ⟨hmm n hn he, by rw [hmm n hn he]⟩⟩, nf.fr.sto (.inr nf.n1) _ _⟩
        · simp [-ldA_ptr, -Run_stM_iff, -binV_str, -Int.natCast_add, sbNe, hbf, hlen, hlm, ws, wa, hsl, h1', h2]
          have := fail _ _ wf nf fun n hn he => by
            rw [← hmm n hn he] at he
            exact h2 (hpre.1 he)
          simp only [Run_rdM] at this
          exact this
    · rw [noteO, if_neg hmo]
      have x0 : extV 0 (.tuple #[.string (ByteArray.mk #[]), .int .i64 42]) = some (.string (ByteArray.mk #[])) := rfl
      have x1' : extV 1 (.tuple #[.string (ByteArray.mk #[]), .int .i64 42]) = some (.int .i64 42) := rfl
      rw [x0, Run_bindO_some, x1', Run_bindO_some]
      have h42 : (!decide ((42 : Int) = 0)) = true := by decide
      simp only [binV_int, intBin_neq, h42, Run_bindO_some, Run_bind, Run_guardM_tf, pickV_bool, cond_true, Run_condM_true, Run_ret]
      exact fail _ _ wf nf fun n hn he => hmo (hmm n hn he ▸ hn)
end
end Go.Proofs.YthlpfhjcdedhgaaDoor
