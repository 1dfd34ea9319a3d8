/-
  The exact laws of layer 21, part D: a step on a desk.
-/
import Derived.Test.YtiggkhmopnhfaaaDoorDeskC
namespace Go.Proofs.YtiggkhmopnhfaaaDoor
open Go.Lift
set_option linter.unusedSimpArgs false
set_option maxHeartbeats 2000000

section
variable {rows : List (List Int)} {R : Nat} {wt n : Int} {w0 w w' : World} {D o : Nat} {l : List Value} {st : Option (XS × RS)} {sent : List Ms} {ov rv sv : Value} {F' : Nat → Prop}
/-- Nothing of the desk was touched. -/
theorem DK.fr {G : Nat → Prop} (h : DK rows wt n w0 w D o l st sent ov rv sv F') (f : Fr G w w') (hD : ¬ G D) (hF : ∀ c, G c → ¬ F' c) (hS : ∀ c, G c → ¬ inB sv c) : DK rows wt n w0 w' D o l st sent ov rv sv F' := by
  have s := f.size
  exact ⟨f.bk_some h.blk hD, by rw [f.wr (bk_lt h.blk) hD]; exact h.wr, h.lo, h.lr, h.ls, h.lx, h.dx.fr f hF, fun c hc => by obtain ⟨h1, h2, h3⟩ := h.fb c hc; exact ⟨h1, by omega, h3⟩, h.hsent.fr f fun c hc hg => hS c hg hc,
    fun c hc => by obtain ⟨h1, h2, h3⟩ := h.sb c hc; exact ⟨h1, by omega, h3⟩, h.str, h.slen, h.dlo⟩
theorem DK.fr0 (h : DK rows wt n w0 w D o l st sent ov rv sv F') (f : Fr (fun _ => False) w w') : DK rows wt n w0 w' D o l st sent ov rv sv F' := h.fr f id (fun _ h => h.elim) fun _ h => h.elim
/-- Other cells of the block were written. -/
theorem DK.cells {l' : List Value} (h : DK rows wt n w0 w D o l st sent ov rv sv F') (f : Fr (fun c => c = D) w w') (hb : bk w' D = some l') (hw : Go.Lift.wr w' D = true) (hl : l'.length = l.length) (h0 : l'[o]? = l[o]?) (h1 : l'[o + 1]? = l[o + 1]?) (h2 : l'[o + 2]? = l[o + 2]?) : DK rows wt n w0 w' D o l' st sent ov rv sv F' := by
  have s := f.size
  exact ⟨hb, hw, by rw [h0]; exact h.lo, by rw [h1]; exact h.lr, by rw [h2]; exact h.ls, by rw [hl]; exact h.lx, h.dx.fr f fun c hc hf => (h.fb c hf).2.2 hc, fun c hc => by obtain ⟨h1, h2, h3⟩ := h.fb c hc; exact ⟨h1, by omega, h3⟩, h.hsent.fr f fun c hc => (h.sb c hc).2.2.1,
    fun c hc => by obtain ⟨h1, h2, h3⟩ := h.sb c hc; exact ⟨h1, by omega, h3⟩, h.str, h.slen, h.dlo⟩
theorem DK.mono {m : Int} (h : DK rows wt n w0 w D o l st sent ov rv sv F') (hm : n ≤ m) : DK rows wt m w0 w D o l st sent ov rv sv F' :=
  ⟨h.blk, h.wr, h.lo, h.lr, h.ls, h.lx, h.dx.mono hm, h.fb, h.hsent, h.sb, h.str, by have := h.slen; omega, h.dlo⟩
theorem Turned.pre {w1 : World} {v : Value} (f : Fr (fun c => c = D) w w1) (h : Turned rows wt n w0 w1 w' D o (l.set (o + 3) v) ov rv sv F') : Turned rows wt n w0 w w' D o l ov rv sv F' := by
  obtain ⟨st', sent', sv', xv, F'', h1, h2, h3, h4, h5⟩ := h
  have s := f.size
  rw [List.set_set] at h1
  exact ⟨st', sent', sv', xv, F'', h1, (f.mono fun c hc => (Or.inl hc : c = D ∨ F' c ∨ inB sv c)).trans h2 fun _ _ h => h, fun c hc => by rcases h3 c hc with h | h; exact .inl h; exact .inr (by omega), fun c hc => by rcases h4 c hc with h | h; exact .inl h; exact .inr (by omega), h5.val, fun c hc => ⟨Nat.le_trans s (h5.new c hc).1, (h5.new c hc).2⟩, h5.off⟩
theorem Turned.same (h : DK rows wt n w0 w' D o (l.set (o + 3) (.slice none 0 0)) st sent ov rv sv F') (f : Fr (fun c => c = D) w w') : Turned rows wt (n + 1) w0 w w' D o l ov rv sv F' := by
  refine ⟨st, sent, sv, .slice none 0 0, F', ?_, f.mono fun c hc => .inl hc, fun c hc => .inl hc, fun c hc => .inl hc, OutL.nil _ _ _ _⟩
  rw [set_same h.ls]
  exact h.mono (by omega)
theorem reply_build (m : Ms) : buildV #[(Value.int IntKind.i64 0), (Value.int IntKind.i64 0), (Value.int IntKind.i64 0), (Value.int IntKind.i64 0), (Value.int IntKind.i64 0), (Value.int IntKind.i64 0), (Value.int IntKind.i64 0), (Value.int IntKind.i64 0), (Value.int IntKind.i64 0), (Value.int IntKind.i64 0), (Value.int IntKind.i64 0), (Value.int IntKind.i64 0), (Value.string ByteArray.empty), (Value.string ByteArray.empty)] [(0, 1, (Value.int IntKind.i64 2)), (3, 11, m.val)] = some (Op.val ⟨2, 0, 0, m⟩) := by
  simp [buildV, fillV, Ms.val, Ms.cells, Op.val, Op.cells]
theorem Op.ldA {op : Op} {w : World} {b : Nat} (h : bk w b = some op.cells) : Go.Lift.ldA 14 (.pointer (some ⟨b, 0, none⟩)) w = some op.val := by
  rw [ldA_bk h (by simp [Op.cells])]; rfl

theorem plays_run (cfg : Cfg rows R wt) (hn : n + 1 ≤ 4194304) (h : DK rows wt n w0 w D o l st sent ov rv sv F') (op : Op) (hop : MStr op.m) :
    Run (F.granarylaw21_desk_plays (.pointer (some ⟨D, o, none⟩)) op.val) w fun r w' => r = .bool true ∧ Turned rows wt (n + 1) w0 w w' D o l ov rv sv F' := by
  unfold F.granarylaw21_desk_plays
  have hof := hop.fine
  simp [-ldA_ptr, Op.val, Op.cells, hof.1, hof.2]
  refine Run_new fun c w1 hc _ f1 hcle => ?_
  have hc1 : bk w1 c = some op.cells := by simpa [Op.cells] using hc
  have h1 := h.fr0 f1
  have hb1 := h1.blk
  have hw1 := h1.wr
  have lx := h.lx
  have hok : o + 3 + 1 ≤ l.length := by omega
  have hDl := bk_lt h.blk
  have hcD : c ≠ D := by omega
  simp [-ldA_ptr, hb1, hw1, hok]
  have hb2 : bk (sto w1 D (o + 3) [.slice none 0 0]) D = some (l.set (o + 3) (.slice none 0 0)) := by simp [hb1]
  have hw2 : wr (sto w1 D (o + 3) [.slice none 0 0]) D = true := by simp [hw1]
  have g2 : Fr (fun c => c = D) w1 (sto w1 D (o + 3) [.slice none 0 0]) := (Fr.refl (fun c => c = D) w1).sto (.inl rfl) _ _
  have hc2 : bk (sto w1 D (o + 3) [.slice none 0 0]) c = some op.cells := by rw [bk_sto_ne hcD]; exact hc1
  generalize sto w1 D (o + 3) [.slice none 0 0] = w2 at *
  have h2 : DK rows wt n w0 w2 D o (l.set (o + 3) (.slice none 0 0)) st sent ov rv sv F' := h1.cells g2 hb2 hw2 (by simp) (by rw [List.getElem?_set_ne (by omega)]) (by rw [List.getElem?_set_ne (by omega)]) (by rw [List.getElem?_set_ne (by omega)])
  have f02 : Fr (fun c => c = D) w w2 := (f1.mono fun _ h => h.elim).trans g2 fun _ _ h => h
  have mv : ∀ w3 (op' : Op), MStr op'.m → Fr (fun _ => False) w2 w3 → Run (F.granarylaw21_desk_moves (.pointer (some ⟨D, o, none⟩)) op'.val) w3 fun r w' => r = .bool true ∧ Turned rows wt (n + 1) w0 w w' D o l ov rv sv F' := by
    intro w3 op' hop' f
    refine (moves_run cfg hn (h2.fr0 f) op' hop').mono ?_
    rintro r w4 ⟨hr, ht⟩
    exact ⟨hr, ht.pre (f02.trans f fun _ _ h => h.elim)⟩
  have hl0 := h2.lo
  have hl1 := h2.lr
  have hl2 := h2.ls
  simp [-ldA_ptr, hc2, Op.cells]
  by_cases k1 : op.kind = 1
  · simp [-ldA_ptr, k1, Op.ldA hc2]
    exact mv w2 op hop (Fr.refl _ _)
  by_cases k2 : op.kind = 2
  · simp [-ldA_ptr, k1, k2, Op.ldA hc2]
    exact mv w2 op hop (Fr.refl _ _)
  by_cases k3 : op.kind = 3
  · simp [-ldA_ptr, k1, k2, k3, Op.ldA hc2]
    exact mv w2 op hop (Fr.refl _ _)
  have sl := h2.slen
  by_cases k6 : op.kind = 6
  · simp [-ldA_ptr, k1, k2, k3, k6]
    have fd : Fr (fun _ => False) w2 w2.drew := (Fr.refl (fun _ => False) w2).drew
    obtain ⟨Q3, q3⟩ : ∃ Q3 : List Value → World → Prop, ∀ a w', Q3 a w' ↔ ∃ e m ok, a = [Ptr e, .bool ok] ∧ bk w' e = some (Ms.cells m) ∧ MStr m ∧ Fr (fun _ => False) w2 w' := ⟨_, fun _ _ => Iff.rfl⟩
    refine Run.mono (Q := Q3) (Run_altM (by simp) fun z hz => ?_) ?_
    · have hsv := (h2.fr0 fd).hsent.1
      have hb2d : bk w2 D = some (l.set (o + 3) (.slice none 0 0)) := hb2
      simp only [List.mem_cons, List.not_mem_nil, or_false] at hz
      rcases hz with rfl | rfl
      · simp [-ldA_ptr, hb2d, hl2, Op.ldA hc2]
        refine (answer_run hsv (by omega) h2.str op hop).mono ?_
        rintro _ w3 ⟨m, ok, rfl, hm, f3⟩
        have hmv : m.val = .agg m.cells.toArray := rfl
        simp [-ldA_ptr, hmv]
        refine Run_newSt (cs := m.cells.toArray) rfl rfl (by simpa using Ms.cells_all6 hm.fine) fun e w4 he _ f4 _ => ?_
        have he4 : bk w4 e = some m.cells := by simpa using he
        try simp
        exact (q3 _ _).2 ⟨e, m, ok, rfl, he4, hm, (fd.trans f3 fun _ _ => id).trans f4 fun _ _ => id⟩
      · simp [-ldA_ptr, hb2d, hl2, Op.ldA hc2]
        refine Run_new fun e w3 he hew f3 hele => ?_
        have f3' : Fr (fun _ => False) w2.drew w3 := f3
        have hb3 : bk w3 D = some (l.set (o + 3) (.slice none 0 0)) := f3.bk_some (w := w2.drew) hb2d id
        have hc3 : bk w3 c = some op.cells := f3.bk_some (w := w2.drew) hc2 id
        try simp [-ldA_ptr]
        refine (answer_run (hsv.fr0 f3) (by omega) h2.str op hop).mono ?_
        rintro _ w4 ⟨m, ok, rfl, hm, f4⟩
        have hmv : m.val = .agg m.cells.toArray := rfl
        have he4 := f4.bk_some he id
        have hew4 : wr w4 e = true := by rw [f4.wr (bk_lt he) id]; exact hew
        have hall := Ms.cells_all6 hm.fine
        have s2 : w2.heap.size ≤ e := hele
        simp [-ldA_ptr, hmv, he4, hew4, hb3, hl2, Op.ldA hc3]
        refine ⟨by simp [Ms.cells], by first | exact fun i hi => List.all_eq_true.1 hall i hi | exact fun i hi => List.all_eq_true.1 hall _ (List.getElem_mem _), ?_⟩
        refine (q3 _ _).2 ⟨e, m, ok, rfl, ?_, hm, ((fd.trans f3 fun _ _ => id).trans f4 fun _ _ => id).sto (.inr s2) _ _⟩
        rw [bk_sto_eq, he4]
        simp [Ms.cells]
    · rintro a w3 ha
      obtain ⟨e, m, ok, rfl, he, hm, f3⟩ := (q3 _ _).1 ha
      cases ok with
      | false =>
        simp
        exact Turned.same (h2.fr0 f3) (f02.trans f3 fun _ _ h => h.elim)
      | true =>
        simp [-ldA_ptr, Ms.ldA6 he, reply_build]
        exact mv w3 ⟨2, 0, 0, m⟩ hm f3
  by_cases k4 : op.kind = 4
  · obtain ⟨k, u1, u2⟩ := two_busy h2.dx
    have fd : Fr (fun _ => False) w2 w2.drew := (Fr.refl (fun _ => False) w2).drew
    obtain ⟨k', v1, v2⟩ := two_busy (h2.fr0 fd).dx
    simp [-ldA_ptr, k1, k2, k3, k4, hb2, hl0]
    refine v1 _ ?_
    simp [-ldA_ptr, hb2, hl1]
    refine v2 w2.drew (Fr.refl _ _) _ ?_
    simp [hb2, hl1, h.lr]
    exact Turned.same (h2.fr0 fd) (f02.trans fd fun _ _ h => h.elim)
  by_cases k5 : op.kind = 5
  · obtain ⟨j, vn, e, ps, ms, b1, b2, b3, rr⟩ := two_report cfg h2.dx
    simp [-ldA_ptr, k1, k2, k3, k4, k5, hb2, hl0]
    refine rr.mono ?_
    rintro _ w3 ⟨f3, pv, mv', rfl, hp0, hm0, _, _, _, cont⟩
    have hp := hp0.1
    have hm := hm0.1
    have hpc := hp.isCell
    have hmc := hm.isCell
    simp [-ldA_ptr]
    refine Run_newSt (cs := #[.int .i64 j, .int .i64 vn, pv, mv']) rfl rfl (by simp [hpc, hmc]) fun a w4 ha haw f4 _ => ?_
    have hb4 : bk w4 D = some (l.set (o + 3) (.slice none 0 0)) := f4.bk_some (f3.bk_some hb2 id) id
    simp [-ldA_ptr, hb4, hl1]
    refine (cont w4 f4).mono ?_
    rintro _ w5 ⟨f5, pv', mv2, rfl, hp', hm'⟩
    have hpc' := hp'.isCell
    have hmc' := hm'.isCell
    simp [-ldA_ptr]
    refine Run_newSt (cs := #[.int .i64 j, .int .i64 vn, pv', mv2]) rfl rfl (by simp [hpc', hmc']) fun a' w6 ha' haw' f6 _ => ?_
    have ha6 : bk w6 a = _ := f6.bk_some (f5.bk_some ha id) id
    have f36 : Fr (fun _ => False) w3 w6 := (f4.trans f5 fun _ _ => id).trans f6 fun _ _ => id
    simp [ha6, ha']
    refine (sameReport_run (hp.fr0 f36) (hm.fr0 f36) (hp'.fr0 f6) (hm'.fr0 f6) b1 b2 b3).mono ?_
    rintro _ w7 ⟨rfl, f7⟩
    simp [num_run]
    have f27 : Fr (fun _ => False) w2 w7 := (f3.trans f36 fun _ _ => id).trans f7 fun _ _ => id
    exact Turned.same (h2.fr0 f27) (f02.trans f27 fun _ _ h => h.elim)
  · simp [-ldA_ptr, k1, k2, k3, k4, k5, k6]
    exact Turned.same h2 f02
end

end Go.Proofs.YtiggkhmopnhfaaaDoor
