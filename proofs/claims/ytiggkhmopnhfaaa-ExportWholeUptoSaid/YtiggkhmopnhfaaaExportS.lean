/-
  Layer 21 (export), part S: ExportWhole: what becomes of a question.
-/
import Derived.Test.YtiggkhmopnhfaaaExportR
namespace Go.Proofs.Ytiggkhmopnhfaaa
open Go.Lift
set_option linter.unusedSimpArgs false
set_option maxHeartbeats 1000000

/-- An act. -/
structure Act where
  what : Int
  ticks : Int
  old : Int
  code : Int
def Act.cells (a : Act) : List Value := [.int .i64 a.what, .int .i64 a.ticks, .int .i64 a.old, .int .i64 a.code]
def Act.val (a : Act) : Value := .agg a.cells.toArray

/-- What holds ahead of each question. -/
structure LInv (rows : List (List Int)) (R : Nat) (wt : Int) (tb : List (List Pr)) (version : Int) (n : Nat) (x : XS) (T : TS) : Prop where
  base : Base rows wt x
  now : x.now ≤ 1024 * n
  opn : T.opn = x.busy
  steps : T.steps = n
  olen : T.old.length ≤ n
  st : (∃ p L k, Going rows R tb version x T.old T.missing p L k ∧ x.due = x.now + wt ∧ T.q = x.q ∧ (T.part = p → T.left = L) ∧ (T.part ≠ p → L = 0) ∧ n ≤ p * (512 + R) + k + L) ∨ Ended rows tb version x T.missing

section
variable {rows : List (List Int)} {R : Nat} {wt : Int} {tb : List (List Pr)} {version : Int} {x y : XS} {T T' : TS} {p L k n : Nat}
theorem hear_outq (T : TS) (x : XS) : T.hear x.outq = if x.busy = true then { T with q := x.q, opn := true } else T := by
  unfold XS.outq
  split <;> rfl
/-- Behind an owner that was left. -/
theorem LInv.left_ (hg : Going rows R tb version y T.old T.missing p L k) (hR : ∀ r ∈ rows, r.length = R) (hR1 : 1 ≤ R) (hb : Base rows wt y) (hwt : 1 ≤ wt ∧ wt ≤ 1024) (hn : y.now ≤ 1024 * n) (ho : T.opn = false) (hs : T.steps = n) (hol : T.old.length ≤ n)
    (hp : T.part = p) (hl : T.left = L) (hm : n ≤ p * (512 + R) + k + L + 1) : LInv rows R wt tb version n y.leaveS.1 ((T.leaves R p).hear y.leaveS.1.outq) := by
  obtain ⟨⟨hb', hnow⟩, hc⟩ := hg.leave hR hR1 hb hwt
  rw [hear_outq]
  rcases hc with ⟨h1, h2, h3⟩ | ⟨h1, h2, h3⟩ | ⟨h1, h2⟩
  · have e : T.leaves R p = { T with left := T.left + 1 } := by unfold TS.leaves; rw [if_neg (by omega)]
    rw [e, if_pos h2.busy]
    refine ⟨hb', by rw [hnow]; exact hn, h2.busy.symm, hs, hol, .inl ⟨p, L + 1, k, h2, h3, rfl, fun _ => ?_, fun h => absurd hp h, by omega⟩⟩
    show T.left + 1 = _
    rw [hl]; push_cast; rfl
  · have e : T.leaves R p = { T with missing := T.missing ++ [(p : Int)], left := 0 } := by unfold TS.leaves; rw [if_pos (by omega)]
    rw [e, if_pos h2.busy]
    have hk := hg.kle
    have hk' := ofF_len tb p
    refine ⟨hb', by rw [hnow]; exact hn, h2.busy.symm, hs, hol, .inl ⟨p + 1, 0, 0, h2, h3, rfl, fun h => ?_, fun _ => rfl, ?_⟩⟩
    · exfalso
      have : T.part = ((p + 1 : Nat) : Int) := h
      rw [hp] at this
      push_cast at this
      omega
    · rw [Nat.add_mul]
      omega
  · have e : T.leaves R p = { T with missing := T.missing ++ [(p : Int)], left := 0 } := by unfold TS.leaves; rw [if_pos (by omega)]
    rw [e, if_neg (by rw [h2.busy]; decide)]
    exact ⟨hb', by rw [hnow]; exact hn, by show T.opn = _; rw [ho, h2.busy], hs, hol, .inr h2⟩
/-- Behind an answer. -/
theorem LInv.answered (hg : Going rows R tb version y T.old T.missing p L k) (hfine : (rightF tb y.q).fine) (hR : ∀ r ∈ rows, r.length = R) (hR1 : 1 ≤ R) (hb : Base rows wt y) (hwt : 1 ≤ wt ∧ wt ≤ 1024) (hn : y.now ≤ 1024 * n) (ho : T.opn = false) (hs : T.steps = n) (hol : T.old.length + 1 ≤ n)
    (hp : T.part = p) (hl : T.left = L) (hm : n ≤ p * (512 + R) + k + L + 1) :
    LInv rows R wt tb version n (y.tellS (rightF tb y.q)).1 (({ T with left := if (rightF tb y.q).code = 16 then 0 else T.left, old := T.old ++ [rightF tb y.q] } : TS).hear (y.tellS (rightF tb y.q)).1.outq) ∧
      (y.tellS (rightF tb y.q)).2 = elM (y.tellS (rightF tb y.q)).1.outq ∧ (y.tellS (rightF tb y.q)).1.tellS (rightF tb y.q) = ((y.tellS (rightF tb y.q)).1, []) := by
  obtain ⟨⟨hb', hnow⟩, hc⟩ := hg.answer hfine hR hR1 hb hwt
  rw [hear_outq]
  have hk := hg.kle
  have hk' := ofF_len tb p
  have hL := hg.lt
  rcases hc with ⟨h1, h2, h3, h4⟩ | ⟨h1, h2, h3, h4⟩ | ⟨h1, h2, h4⟩
  · rw [if_pos h2.busy, if_neg (by rw [h1]; decide)]
    refine ⟨⟨hb', by rw [hnow]; exact hn, h2.busy.symm, hs, by simpa using hol, .inl ⟨p, L, k + 1, h2, h3, rfl, fun _ => hl, fun h => absurd hp h, by omega⟩⟩, h4, h2.stale (by simp)⟩
  · rw [if_pos h1, if_pos h2.busy]
    refine ⟨⟨hb', by rw [hnow]; exact hn, h2.busy.symm, hs, by simpa using hol, .inl ⟨p + 1, 0, 0, h2, h3, rfl, fun _ => rfl, fun _ => rfl, ?_⟩⟩, h4, h2.stale (by simp)⟩
    rw [Nat.add_mul]
    omega
  · rw [if_pos h1, if_neg (by rw [h2.busy]; decide)]
    exact ⟨⟨hb', by rw [hnow]; exact hn, by show T.opn = _; rw [ho, h2.busy], hs, by simpa using hol, .inr h2⟩, h4, h2.stale _⟩
end

theorem tmod_in {a w : Int} (hw : 1 ≤ w) : ∃ k : Nat, ((a.tmod w + w).tmod w) = k ∧ (k : Int) < w ∧ -w < a.tmod w ∧ a.tmod w < w := by
  have h1 : -w < a.tmod w := by
    have := Int.lt_tmod_of_pos a (show 0 < w by omega)
    omega
  have h2 : a.tmod w < w := Int.tmod_lt_of_pos a (by omega)
  have h3 : 0 ≤ a.tmod w + w := by omega
  have h4 := Int.tmod_eq_emod_of_nonneg (b := w) h3
  have h5 := Int.emod_nonneg (a.tmod w + w) (show w ≠ 0 by omega)
  have h6 := Int.emod_lt_of_pos (a.tmod w + w) (show 0 < w by omega)
  exact ⟨((a.tmod w + w).tmod w).toNat, by omega, by omega, h1, h2⟩

section
variable {w0 w : World} {b t : Nat} {x : XS} {T : TS}
theorem act_run {C : Clu} {nv tv : Value} {tb : List (List Pr)} {version : Int} {p L k n R : Nat} (h : Tk w0 w b t x T []) (hT : Tab w0 tv tb) (hnv : isCell nv = true) (hCR : C.replicas = R) (hwt : 1 ≤ C.getwait ∧ C.getwait ≤ 1024) (hR1 : 1 ≤ R) (hR16 : R ≤ 16) {rows : List (List Int)} (hR : ∀ r ∈ rows, r.length = R)
    (hg : Going rows R tb version x T.old T.missing p L k) (hb : Base rows C.getwait x) (hdue : x.due = x.now + C.getwait) (hq : T.q = x.q) (hpart : T.part = p) (hleft : T.left = L) (hs : T.steps = n) (hol : T.old.length + 1 ≤ n) (hn : n ≤ 40000) (hnow : x.now + 1024 ≤ 1024 * n)
    (hm : n ≤ p * (512 + R) + k + L + 1) (a : Act) :
    Run (F.granarylaw21_talk_act (.pointer (some ⟨t, 0, none⟩)) (C.val nv) tv a.val) w fun r w' => r = .bool true ∧ ∃ x' T', Tk w0 w' b t x' T' [] ∧ LInv rows R C.getwait tb version n x' T' := by
  have hxok : XOk x := by obtain ⟨_, _, _, _, h⟩ := h; exact h.ok
  have hml : T.missing.length ≤ 64 := by
    have h1 := (hxok.busy hg.busy).2.2.2.2.2
    have h2 := (hxok.busy hg.busy).2.1
    have h3 := hxok.rl
    rw [hg.missing] at h1
    omega
  have hpx := hg.part
  unfold F.granarylaw21_talk_act
  simp [-ldA_ptr, Clu.val, Act.val, Act.cells]
  refine Run_new fun c w1 hc hcw f1 hcle => ?_
  have hc1 : bk w1 c = some (C.cells nv) := by simpa using hc
  have t1 := h.add f1 hc1 hcw hcle
  refine Run_new fun d w2 hd hdw f2 hdle => ?_
  have hd2 : bk w2 d = some a.cells := by simpa [Act.cells] using hd
  have t2 := t1.add f2 hd2 hdw hdle
  have t2' := t2
  obtain ⟨v, tag, ov, mv, t2m⟩ := t2'
  have hqfine := t2m.fine
  have hld : ldA 11 (.pointer (some ⟨t, 1, none⟩)) w2 = some T.q.val := by
    rw [ldA_bk t2m.blk (by simp [TS.cells])]; rfl
  simp [-ldA_ptr, hld]
  refine Run_newSt (cs := T.q.cells.toArray) rfl rfl (by simpa using Ms.cells_all hqfine) fun g w3 hg3 hgw f3 hgle => ?_
  have hg3' : bk w3 g = some T.q.cells := by simpa using hg3
  have t3 := t2.add f3 hg3' hgw hgle
  obtain ⟨v, tag, ov, mv, t3m⟩ := t3
  have hb3 := t3m.blk
  have hw3 := t3m.wr
  simp [-ldA_ptr, hb3, hw3, TS.cells]
  have hbb : bk (sto w3 t 12 [Value.bool false]) t = some (({ T with opn := false } : TS).cells b ov mv) := by simp [hb3, TS.cells]
  have fst : Fr (fun d => d = t) w3 (sto w3 t 12 [Value.bool false]) := (Fr.refl (fun d => d = t) w3).sto (.inl rfl) _ _
  have t4 : Tk w0 (sto w3 t 12 [Value.bool false]) b t x { T with opn := false } [(g, T.q.cells), (d, a.cells), (c, C.cells nv)] := ⟨v, tag, ov, mv, t3m.num fst hbb (by simp [hw3]) hqfine rfl rfl⟩
  generalize sto w3 t 12 [Value.bool false] = w4 at *
  have hg4 := (t4.get (c := g) (l := T.q.cells) (by simp)).1
  simp [-ldA_ptr, Ms.ldA hg4]
  have hw04 : Fr (fun _ => False) w0 w4 := by obtain ⟨_, _, _, _, h⟩ := t4; exact h.fr
  refine (right_run (hT.fr0 hw04) T.q).mono ?_
  rintro _ w5 ⟨rfl, f5⟩
  have t5 := t4.fr0 f5
  rw [hq]
  have hmfine := rightF_fine hT x.q
  have hfit := hg.right hR hR1
  generalize hmr : rightF tb x.q = m at *
  refine Run_newSt (cs := m.cells.toArray) rfl rfl (by simpa using Ms.cells_all hmfine) fun e w6 he hew f6 hele => ?_
  have he' : bk w6 e = some m.cells := by simpa using he
  have t6 := t5.add f6 he' hew hele
  have hc6 := (t6.get (c := c) (l := C.cells nv) (by simp)).1
  have hd6 := (t6.get (c := d) (l := a.cells) (by simp)).1
  have hg6 := (t6.get (c := g) (l := T.q.cells) (by simp)).1
  have hqs : T.q.seq = p := by rw [hq]; exact hpx
  simp [-ldA_ptr, hd6, Act.cells]
  have hWn : ∃ W : Nat, C.getwait = W := ⟨C.getwait.toNat, by omega⟩
  obtain ⟨W, hW⟩ := hWn
  obtain ⟨Q1, q1⟩ : ∃ Q1 : Out → World → Prop, ∀ o w', Q1 o w' ↔ (o = .ret (.bool true) ∧ ∃ x' T', Tk w0 w' b t x' T' [] ∧ LInv rows R C.getwait tb version n x' T') ∨
    (o = .norm [] ∧ ∃ nw : Int, 0 ≤ nw ∧ nw ≤ 1024 * n ∧ Tk w0 w' b t { x with now := nw } { T with opn := false } [(e, m.cells), (g, T.q.cells), (d, a.cells), (c, C.cells nv)]) := ⟨_, fun _ _ => Iff.rfl⟩
  refine Run.mono (Q := Q1) ?_ ?_
  · by_cases h1 : a.what = 1
    · simp [-ldA_ptr, h1, Clu.ldA hc6, hg6, Ms.cells, hqs]
      refine (leaves_run t6 (C := C) hnv p ⟨by show 0 ≤ T.left; omega, by show T.left ≤ 64; have := hg.lt; omega⟩ hml).mono ?_
      rintro _ w7 t7
      have hc7 := (t7.get (c := c) (l := C.cells nv) (by simp)).1
      simp [hc7, Clu.cells]
      have tk := ticks_run t7 (wt := C.getwait) (k := W) hg.busy hdue (by omega) hwt ⟨hb.now.1, by omega⟩
      rw [← hW] at tk
      refine tk.mono ?_
      rintro _ w8 ⟨rfl, t8⟩
      rw [q1]
      left
      rw [if_pos rfl] at t8
      have ets : x.ticksS C.getwait W = ({ x with now := x.now + C.getwait } : XS).leaveS.1 := by unfold XS.ticksS; rw [if_pos hW.symm]
      rw [ets, hCR] at t8
      refine ⟨rfl, _, _, t8.nil, ?_⟩
      exact LInv.left_ (y := { x with now := x.now + C.getwait }) (T := { T with opn := false }) (hg.later _) hR hR1 ⟨hb.rows, hb.wait, ⟨by show 0 ≤ x.now + C.getwait; have := hb.now.1; omega, by show x.now + C.getwait ≤ 1073741824; omega⟩⟩ hwt (by show x.now + C.getwait ≤ _; omega) rfl hs (by show T.old.length ≤ n; omega) hpart hleft hm
    by_cases h2 : a.what = 2
    · have he6 := t6.get (c := e) (l := m.cells) (by simp)
      have hS : ∀ s ∈ [(g, T.q.cells), (d, a.cells), (c, C.cells nv)], s.1 ≠ e := by
        have g6 := bk_lt (t5.get (c := g) (l := T.q.cells) (by simp)).1
        have d6 := bk_lt (t5.get (c := d) (l := a.cells) (by simp)).1
        have c6 := bk_lt (t5.get (c := c) (l := C.cells nv) (by simp)).1
        intro s hs
        simp at hs
        rcases hs with rfl | rfl | rfl <;> simp only <;> omega
      have t7 := t6.put hS 8 [.int .i64 a.code]
      have es : setL m.cells 8 [.int .i64 a.code] = ({ m with code := a.code } : Ms).cells := rfl
      rw [es] at t7
      simp [-ldA_ptr, h2, hd6, Act.cells, he6.1, he6.2]
      generalize sto w6 e 8 [.int .i64 a.code] = w7 at *
      have hd7 := (t7.get (c := d) (l := a.cells) (by simp)).1
      have he7 := t7.get (c := e) (l := ({ m with code := a.code } : Ms).cells) (by simp)
      have t8 := t7.put hS 8 [.int .i64 123]
      have es8 : setL ({ m with code := a.code } : Ms).cells 8 [.int .i64 123] = ({ m with code := 123 } : Ms).cells := rfl
      rw [es8] at t8
      generalize hw8 : sto w7 e 8 [.int .i64 123] = w8 at t8
      by_cases c0 : a.code = 0
      · simp [-ldA_ptr, num_run, hd7, Act.cells, c0, he7.1, he7.2, hw8]
        have t9 : Tk w0 _ b t x { T with opn := false } [(e, ({ m with code := 123 } : Ms).cells), (g, T.q.cells), (d, a.cells), (c, C.cells nv)] := t8
        have hc9 := (t9.get (c := c) (l := C.cells nv) (by simp)).1
        have hg9 := (t9.get (c := g) (l := T.q.cells) (by simp)).1
        simp [-ldA_ptr, -bk_sto_eq, Clu.ldA hc9, hg9, Ms.cells, hqs]
        refine (leaves_run t9 (C := C) hnv p ⟨by show 0 ≤ T.left; omega, by show T.left ≤ 64; have := hg.lt; omega⟩ hml).mono ?_
        rintro _ w10 t10
        have t11 := t10.fr0 (Fr.refl (fun _ => False) w10).drew
        obtain ⟨ov, mv, hb11, _⟩ := t11.tb
        have he11 := (t11.get (c := e) (l := ({ m with code := 123 } : Ms).cells) (by simp)).1
        have hb10 : bk w10 t = _ := hb11
        have he10 : bk w10 e = _ := he11
        simp [-ldA_ptr, Ms.ldA he10, hb10, TS.cells]
        refine (t11.tell (m := { m with code := 123 }) ⟨hmfine.1, hmfine.2⟩).mono ?_
        rintro _ w12 ⟨t12, rv, rfl, hrs⟩
        have eer := hg.error (c := 123) hR hR1 (by decide) (by decide)
        rw [hmr] at eer
        rw [eer] at t12 hrs
        rw [leaveS_out hg.busy hxok] at hrs
        simp
        refine (hear_run t12 hrs.1 (XS.outq_len _) (XS.outq_fine _)).mono ?_
        rintro _ w13 ⟨rfl, t13⟩
        refine (q1 _ _).2 (.inl ⟨rfl, _, _, t13.nil, ?_⟩)
        rw [hCR]
        exact LInv.left_ (y := x) (T := { T with opn := false }) hg hR hR1 hb hwt (by omega) rfl hs (by show T.old.length ≤ n; omega) hpart hleft hm
      by_cases c16 : a.code = 16
      · simp [-ldA_ptr, num_run, hd7, Act.cells, c0, c16, he7.1, he7.2, hw8]
        have t9 : Tk w0 _ b t x { T with opn := false } [(e, ({ m with code := 123 } : Ms).cells), (g, T.q.cells), (d, a.cells), (c, C.cells nv)] := t8
        have hc9 := (t9.get (c := c) (l := C.cells nv) (by simp)).1
        have hg9 := (t9.get (c := g) (l := T.q.cells) (by simp)).1
        simp [-ldA_ptr, -bk_sto_eq, Clu.ldA hc9, hg9, Ms.cells, hqs]
        refine (leaves_run t9 (C := C) hnv p ⟨by show 0 ≤ T.left; omega, by show T.left ≤ 64; have := hg.lt; omega⟩ hml).mono ?_
        rintro _ w10 t10
        have t11 := t10.fr0 (Fr.refl (fun _ => False) w10).drew
        obtain ⟨ov, mv, hb11, _⟩ := t11.tb
        have he11 := (t11.get (c := e) (l := ({ m with code := 123 } : Ms).cells) (by simp)).1
        have hb10 : bk w10 t = _ := hb11
        have he10 : bk w10 e = _ := he11
        simp [-ldA_ptr, Ms.ldA he10, hb10, TS.cells]
        refine (t11.tell (m := { m with code := 123 }) ⟨hmfine.1, hmfine.2⟩).mono ?_
        rintro _ w12 ⟨t12, rv, rfl, hrs⟩
        have eer := hg.error (c := 123) hR hR1 (by decide) (by decide)
        rw [hmr] at eer
        rw [eer] at t12 hrs
        rw [leaveS_out hg.busy hxok] at hrs
        simp
        refine (hear_run t12 hrs.1 (XS.outq_len _) (XS.outq_fine _)).mono ?_
        rintro _ w13 ⟨rfl, t13⟩
        refine (q1 _ _).2 (.inl ⟨rfl, _, _, t13.nil, ?_⟩)
        rw [hCR]
        exact LInv.left_ (y := x) (T := { T with opn := false }) hg hR hR1 hb hwt (by omega) rfl hs (by show T.old.length ≤ n; omega) hpart hleft hm
      · simp [-ldA_ptr, num_run, hd7, Act.cells, c0, c16]
        have t9 : Tk w0 _ b t x { T with opn := false } [(e, ({ m with code := a.code } : Ms).cells), (g, T.q.cells), (d, a.cells), (c, C.cells nv)] := t7
        have hc9 := (t9.get (c := c) (l := C.cells nv) (by simp)).1
        have hg9 := (t9.get (c := g) (l := T.q.cells) (by simp)).1
        simp [-ldA_ptr, -bk_sto_eq, Clu.ldA hc9, hg9, Ms.cells, hqs]
        refine (leaves_run t9 (C := C) hnv p ⟨by show 0 ≤ T.left; omega, by show T.left ≤ 64; have := hg.lt; omega⟩ hml).mono ?_
        rintro _ w10 t10
        have t11 := t10.fr0 (Fr.refl (fun _ => False) w10).drew
        obtain ⟨ov, mv, hb11, _⟩ := t11.tb
        have he11 := (t11.get (c := e) (l := ({ m with code := a.code } : Ms).cells) (by simp)).1
        have hb10 : bk w10 t = _ := hb11
        have he10 : bk w10 e = _ := he11
        simp [-ldA_ptr, Ms.ldA he10, hb10, TS.cells]
        refine (t11.tell (m := { m with code := a.code }) ⟨hmfine.1, hmfine.2⟩).mono ?_
        rintro _ w12 ⟨t12, rv, rfl, hrs⟩
        have eer := hg.error (c := a.code) hR hR1 c0 c16
        rw [hmr] at eer
        rw [eer] at t12 hrs
        rw [leaveS_out hg.busy hxok] at hrs
        simp
        refine (hear_run t12 hrs.1 (XS.outq_len _) (XS.outq_fine _)).mono ?_
        rintro _ w13 ⟨rfl, t13⟩
        refine (q1 _ _).2 (.inl ⟨rfl, _, _, t13.nil, ?_⟩)
        rw [hCR]
        exact LInv.left_ (y := x) (T := { T with opn := false }) hg hR hR1 hb hwt (by omega) rfl hs (by show T.old.length ≤ n; omega) hpart hleft hm
    by_cases h4 : a.what = 4
    · obtain ⟨ov, mv, hb6, _, hov, _⟩ := t6.tb
      have hovl := hov.1.lenL
      simp only [elM_len] at hovl
      by_cases hne : T.old = []
      · rw [hne] at hovl
        simp at hovl
        simp [-ldA_ptr, h4, hd6, Act.cells, hb6, TS.cells, hovl]
        exact (q1 _ _).2 (.inr ⟨rfl, x.now, hb.now.1, by omega, t6⟩)
      · have hpos : 0 < T.old.length := List.length_pos_iff.2 hne
        have hpos' : (0 : Int) < T.old.length := by omega
        obtain ⟨j, j1, j2, j3, j4⟩ := tmod_in (a := a.old) (w := (T.old.length : Int)) (by omega)
        have wj : IntKind.i64.wrap (a.old.tmod (T.old.length : Int) + (T.old.length : Int)) = a.old.tmod (T.old.length : Int) + (T.old.length : Int) := wrap_small (by omega) (by omega)
        have hz : ¬ ((T.old.length : Int) = 0) := by omega
        have ej : T.old[j]? = some (T.old[j]'(by omega)) := List.getElem?_eq_getElem _
        have hmem := List.getElem_mem (l := T.old) (n := j) (by omega)
        generalize T.old[j]'(by omega) = m' at ej hmem
        obtain ⟨u, u1, u2⟩ := hov.1.rdA (by decide) (elM_some ej) .i64
        have u2' : ldA 11 u w6 = some m'.val := u2
        have t7 := t6.fr0 (Fr.refl (fun _ => False) w6).drew
        simp [-ldA_ptr, h4, hd6, Act.cells, hb6, TS.cells, hovl, hne, hpos, hpos', hz, wj, j1, u1, u2']
        refine (t7.tell (m := m') (hg.old m' hmem).1).mono ?_
        rintro _ w8 ⟨t8, rv, rfl, hrs⟩
        rw [hg.stale hmem] at t8 hrs
        have hrl := hrs.1.lenL
        simp at hrl
        simp [num_run, hrl]
        exact (q1 _ _).2 (.inr ⟨rfl, x.now, hb.now.1, by omega, t8⟩)
    by_cases h5 : a.what = 5
    · obtain ⟨j, j1, j2, j3, j4⟩ := tmod_in (a := a.ticks) (w := C.getwait) hwt.1
      have wj : IntKind.i64.wrap (a.ticks.tmod C.getwait + C.getwait) = a.ticks.tmod C.getwait + C.getwait := wrap_small (by omega) (by omega)
      have hz : ¬ (C.getwait = 0) := by omega
      have t7 := t6.fr0 (Fr.refl (fun _ => False) w6).drew
      simp [-ldA_ptr, h4, h5, hd6, Act.cells, hc6, Clu.cells, hz, wj, j1]
      refine (ticks_run t7 (wt := C.getwait) (k := j) hg.busy hdue (by omega) hwt ⟨hb.now.1, by omega⟩).mono ?_
      rintro _ w8 ⟨rfl, t8⟩
      rw [if_neg (by omega)] at t8
      have ets : x.ticksS C.getwait j = { x with now := x.now + j } := by unfold XS.ticksS; rw [if_neg (by omega)]
      rw [ets] at t8
      simp
      exact (q1 _ _).2 (.inr ⟨rfl, x.now + j, by have := hb.now.1; omega, by omega, t8⟩)
    · simp [-ldA_ptr, h1, h2, h4, h5, hd6, Act.cells]
      exact (q1 _ _).2 (.inr ⟨rfl, x.now, hb.now.1, by omega, t6⟩)
  · rintro o w7 ho
    rcases (q1 _ _).1 ho with ⟨rfl, hh⟩ | ⟨rfl, nw, hnw0, hnw1, t7⟩
    · simp
      exact hh
    have hg7 := hg.later nw
    have hb7 : Base rows C.getwait { x with now := nw } := ⟨hb.rows, hb.wait, ⟨hnw0, by show nw ≤ _; omega⟩⟩
    have hyq : ({ x with now := nw } : XS).q = x.q := rfl
    have hmr' : rightF tb ({ x with now := nw } : XS).q = m := by rw [hyq]; exact hmr
    generalize hy : ({ x with now := nw } : XS) = y at *
    have hynow : y.now = nw := by rw [← hy]
    have he7 := t7.get (c := e) (l := m.cells) (by simp)
    have hd7 := (t7.get (c := d) (l := a.cells) (by simp)).1
    simp [-ldA_ptr, he7.1, Ms.cells, num_run]
    obtain ⟨Q2, q2⟩ : ∃ Q2 : Out → World → Prop, ∀ o w', Q2 o w' ↔ o = .norm [] ∧ Tk w0 w' b t y { T with opn := false, left := if m.code = 16 then 0 else T.left } [(e, m.cells), (g, T.q.cells), (d, a.cells), (c, C.cells nv)] := ⟨_, fun _ _ => Iff.rfl⟩
    refine Run.mono (Q := Q2) ?_ ?_
    · by_cases h16 : m.code = 16
      · obtain ⟨ov, mv, hbt, hbw, _⟩ := t7.tb
        simp [h16, hbt, hbw, TS.cells]
        refine (q2 _ _).2 ⟨rfl, ?_⟩
        rw [if_pos h16]
        exact t7.num ((Fr.refl (fun d => d = t) w7).sto (.inl rfl) _ _) (fun ov mv h => by simp [h, TS.cells]) (by simp) hqfine rfl rfl
      · simp [h16]
        refine (q2 _ _).2 ⟨rfl, ?_⟩
        rw [if_neg h16]
        exact t7
    · rintro o w8 ho
      obtain ⟨rfl, t8⟩ := (q2 _ _).1 ho
      obtain ⟨v, tag, ov, mv, t8m⟩ := t8
      have hb8 := t8m.blk
      have hw8 := t8m.wr
      have he8 := (t8m.side (e, m.cells) (by simp)).1
      have dr8 : Fr (fun _ => False) w8 w8.drew := (Fr.refl (fun _ => False) w8).drew
      simp [-ldA_ptr, hb8, Ms.ldA he8, TS.cells]
      refine Run_app1 (k := 11) rfl (t8m.old.fr dr8 fun _ _ => id) (by decide) rfl (by decide) (by simpa using Ms.cells_all hmfine) (by simp; omega) fun ov' w9 hs9 f9 hin w19 f19 => ?_
      have hbo : ¬ inB ov t := fun hc => (t8m.oldb t hc).2.2.2 rfl
      have hb9 : bk w9 t = _ := f9.bk_some (w := w8.drew) (l := _) hb8 hbo
      have hb19 : bk w19 t = _ := f19.bk_some (w := w8.drew) (l := _) hb8 id
      have hw9 : wr w9 t = true := by rw [f9.wr (w := w8.drew) (bk_lt (w := w8.drew) hb8) hbo]; exact hw8
      have hoc := hs9.1.isCell
      simp [-ldA_ptr, hb9, hw9, hb19, TS.cells, cells_isCell hoc, hoc]
      have hl16 := LInv.answered (T := { T with opn := false }) hg7 (by rw [hmr']; exact hmfine) hR hR1 hb7 hwt (by omega) rfl hs hol hpart hleft hm
      rw [hmr'] at hl16
      obtain ⟨l1, l2, l3⟩ := hl16
      have g9 : Fr (fun d => d = t) w9 (sto w9 t 13 [ov']).drew := ((Fr.refl (fun d => d = t) w9).sto (.inl rfl) _ _).drew
      have hb10 : bk (sto w9 t 13 [ov']).drew t = some (({ T with opn := false, left := if m.code = 16 then 0 else T.left, old := T.old ++ [m] } : TS).cells b ov' mv) := by simp [hb9, TS.cells]
      have hw10 : wr (sto w9 t 13 [ov']).drew t = true := by simp [hw9]
      have hsz : w9.heap.size = (sto w9 t 13 [ov']).drew.heap.size := by show _ = (sto w9 t 13 [ov']).heap.size; simp
      have hdz : w8.drew.heap.size = w8.heap.size := rfl
      have hot : ∀ d, inB ov' d → d ≠ t := by
        intro d hd he
        subst he
        rcases hin d hd with h' | h'
        · exact hbo h'
        · have := bk_lt hb8; omega
      have hmo : ∀ d, inB mv d → ¬ inB ov d := fun d hd => (t8m.misb d hd).2.2.2.2
      have f10 : Fr (fun d => d = t ∨ inB ov d ∨ inB mv d) w8 (sto w9 t 13 [ov']).drew := ((dr8.mono fun _ h => h.elim).trans (f9.mono fun d hd => Or.inr (Or.inl hd)) fun _ _ h => h).trans g9 fun d _ hd => .inl hd
      have t10 : Tk w0 (sto w9 t 13 [ov']).drew b t y { T with opn := false, left := if m.code = 16 then 0 else T.left, old := T.old ++ [m] } [(e, m.cells), (g, T.q.cells), (d, a.cells), (c, C.cells nv)] :=
        ⟨v, tag, ov', mv, t8m.set f10 hb10 hw10 hqfine (by have := hs9.fr g9 hot; rw [← elM_app]; exact this) (fun d hd => by rcases hin d hd with h' | h'; exact .inl h'; exact .inr ⟨h'.1, by omega⟩)
          (((t8m.mis.fr dr8 fun _ _ => id).fr f9 hmo).fr g9 fun d hd => (t8m.misb d hd).2.2.2.1) (fun d hd => .inl hd) fun d hd ho => by
            rcases hin d ho with h' | h'
            · exact hmo d hd h'
            · have := (t8m.misb d hd).2.1; omega⟩
      have he10 := (t10.get (c := e) (l := m.cells) (by simp)).1
      generalize sto w9 t 13 [ov'] = w10 at *
      have he10' : bk w10 e = some m.cells := he10
      simp [-ldA_ptr, Ms.ldA he10']
      refine (t10.tell hmfine).mono ?_
      rintro _ w12 ⟨t12, rv, rfl, hrs⟩
      rw [l2] at hrs
      simp
      refine (hear_run t12 hrs.1 (XS.outq_len _) (XS.outq_fine _)).mono ?_
      rintro _ w13 ⟨rfl, t13⟩
      have hd13 := (t13.get (c := d) (l := a.cells) (by simp)).1
      simp [-ldA_ptr, hd13, Act.cells]
      by_cases h3 : a.what = 3
      · have t14 := t13.fr0 (Fr.refl (fun _ => False) w13).drew
        obtain ⟨ov2, mv2, hb13, _⟩ := t13.tb
        have he13 := (t13.get (c := e) (l := m.cells) (by simp)).1
        simp [-ldA_ptr, h3, hb13, TS.cells, Ms.ldA he13]
        refine (t14.tell hmfine).mono ?_
        rintro _ w15 ⟨t15, rv, rfl, hrs⟩
        rw [l3] at t15 hrs
        have hrl := hrs.1.lenL
        simp at hrl
        simp [num_run, hrl]
        exact ⟨_, _, t15.nil, l1⟩
      · simp [h3]
        exact ⟨_, _, t13.nil, l1⟩
end

end Go.Proofs.Ytiggkhmopnhfaaa
