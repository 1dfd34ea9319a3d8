/-
  The exact laws of layer 21, part F: two desks; the laws' walks.
-/
import Derived.Test.YtiggkhmopnhfaaaDoorDeskE
namespace Go.Proofs.YtiggkhmopnhfaaaDoor
open Go.Lift
set_option linter.unusedSimpArgs false
set_option maxHeartbeats 2000000

section
variable {rows : List (List Int)} {R : Nat} {wt n : Int} {w0 w w' : World} {D o : Nat} {l l' : List Value} {st : Option (XS × RS)} {sent : List Ms} {ov rv sv : Value} {F' : Nat → Prop}
theorem DK.other {G : Nat → Prop} (h : DK rows wt n w0 w D o l st sent ov rv sv F') (f : Fr G w w') (hb : bk w' D = some l') (hw : Go.Lift.wr w' D = true) (hl : l'.length = l.length) (h0 : l'[o]? = l[o]?) (h1 : l'[o + 1]? = l[o + 1]?) (h2 : l'[o + 2]? = l[o + 2]?)
    (hF : ∀ c, G c → ¬ F' c ∧ ¬ inB sv c) : DK rows wt n w0 w' D o l' st sent ov rv sv F' := by
  have s := f.size
  exact ⟨hb, hw, by rw [h0]; exact h.lo, by rw [h1]; exact h.lr, by rw [h2]; exact h.ls, by rw [hl]; exact h.lx, h.dx.fr f fun c hc => (hF c hc).1, fun c hc => by obtain ⟨h1, h2, h3⟩ := h.fb c hc; exact ⟨h1, by omega, h3⟩, h.hsent.fr f fun c hc hg => (hF c hg).2 hc,
    fun c hc => by obtain ⟨h1, h2, h3⟩ := h.sb c hc; exact ⟨h1, by omega, h3⟩, h.str, h.slen, h.dlo⟩

/-- Two desks in a block of eight cells. -/
def D2 (rows : List (List Int)) (wt n : Int) (w0 w : World) (D : Nat) : Prop :=
  Fr (fun _ => False) w0 w ∧ ∃ l st0 sent0 ov0 rv0 sv0 F0 st1 sent1 ov1 rv1 sv1 F1, l.length = 8 ∧ DK rows wt n w0 w D 0 l st0 sent0 ov0 rv0 sv0 F0 ∧ DK rows wt n w0 w D 4 l st1 sent1 ov1 rv1 sv1 F1 ∧ ∀ c, (F0 c ∨ inB sv0 c) → ¬ (F1 c ∨ inB sv1 c)
theorem D2.fr0 (h : D2 rows wt n w0 w D) (f : Fr (fun _ => False) w w') : D2 rows wt n w0 w' D := by
  obtain ⟨h0, l, st0, sent0, ov0, rv0, sv0, F0, st1, sent1, ov1, rv1, sv1, F1, h1, h2, h3, h4⟩ := h
  exact ⟨h0.trans f fun _ _ => id, l, st0, sent0, ov0, rv0, sv0, F0, st1, sent1, ov1, rv1, sv1, F1, h1, h2.fr0 f, h3.fr0 f, h4⟩
theorem D2.plays (cfg : Cfg rows R wt) (hn : n + 1 ≤ 4194304) (h : D2 rows wt n w0 w D) {i : Nat} (hi : i = 0 ∨ i = 4) (op : Op) (hop : MStr op.m) :
    Run (F.granarylaw21_desk_plays (.pointer (some ⟨D, i, none⟩)) op.val) w fun r w' => r = .bool true ∧ D2 rows wt (n + 1) w0 w' D := by
  obtain ⟨h0, l, st0, sent0, ov0, rv0, sv0, F0, st1, sent1, ov1, rv1, sv1, F1, h1, h2, h3, h4⟩ := h
  rcases hi with rfl | rfl
  · refine (plays_run cfg hn h2 op hop).mono ?_
    rintro r w1 ⟨rfl, st', sent', sv', xv, F'', g1, g2, g3, g4, _⟩
    have s := g2.size
    refine ⟨rfl, h0.new g2 ?_, _, st', sent', ov0, rv0, sv', F'', st1, sent1, ov1, rv1, sv1, F1, by simp [h1], g1, ?_, ?_⟩
    · rintro c (hc | hc | hc)
      · rw [hc]; exact h2.dlo
      · exact (h2.fb c hc).1
      · exact (h2.sb c hc).1
    · refine DK.mono (h3.other g2 g1.blk g1.wr (by simp) ?_ ?_ ?_ ?_) (by omega)
      · rw [List.getElem?_set_ne (by omega), List.getElem?_set_ne (by omega)]
      · rw [List.getElem?_set_ne (by omega), List.getElem?_set_ne (by omega)]
      · rw [List.getElem?_set_ne (by omega), List.getElem?_set_ne (by omega)]
      · rintro c (hc | hc | hc)
        · exact ⟨fun hf => (h3.fb c hf).2.2 hc, fun hf => (h3.sb c hf).2.2.1 hc⟩
        · have := h4 c (.inl hc)
          exact ⟨fun hf => this (.inl hf), fun hf => this (.inr hf)⟩
        · have := h4 c (.inr hc)
          exact ⟨fun hf => this (.inl hf), fun hf => this (.inr hf)⟩
    · rintro c (hc | hc)
      · rcases g3 c hc with h | h
        · exact h4 c (.inl h)
        · rintro (hf | hf)
          · have := (h3.fb c hf).2.1; omega
          · have := (h3.sb c hf).2.1; omega
      · rcases g4 c hc with h | h
        · exact h4 c (.inr h)
        · rintro (hf | hf)
          · have := (h3.fb c hf).2.1; omega
          · have := (h3.sb c hf).2.1; omega
  · refine (plays_run cfg hn h3 op hop).mono ?_
    rintro r w1 ⟨rfl, st', sent', sv', xv, F'', g1, g2, g3, g4, _⟩
    have s := g2.size
    refine ⟨rfl, h0.new g2 ?_, _, st0, sent0, ov0, rv0, sv0, F0, st', sent', ov1, rv1, sv', F'', by simp [h1], ?_, g1, ?_⟩
    · rintro c (hc | hc | hc)
      · rw [hc]; exact h3.dlo
      · exact (h3.fb c hc).1
      · exact (h3.sb c hc).1
    · refine DK.mono (h2.other g2 g1.blk g1.wr (by simp) ?_ ?_ ?_ ?_) (by omega)
      · rw [List.getElem?_set_ne (by omega), List.getElem?_set_ne (by omega)]
      · rw [List.getElem?_set_ne (by omega), List.getElem?_set_ne (by omega)]
      · rw [List.getElem?_set_ne (by omega), List.getElem?_set_ne (by omega)]
      · rintro c (hc | hc | hc)
        · exact ⟨fun hf => (h2.fb c hf).2.2 hc, fun hf => (h2.sb c hf).2.2.1 hc⟩
        · exact ⟨fun hf => h4 c (.inl hf) (.inl hc), fun hf => h4 c (.inr hf) (.inl hc)⟩
        · exact ⟨fun hf => h4 c (.inl hf) (.inr hc), fun hf => h4 c (.inr hf) (.inr hc)⟩
    · rintro c hc (hf | hf)
      · rcases g3 c hf with h | h
        · exact h4 c hc (.inl h)
        · rcases hc with hc | hc
          · have := (h2.fb c hc).2.1; omega
          · have := (h2.sb c hc).2.1; omega
      · rcases g4 c hf with h | h
        · exact h4 c hc (.inr h)
        · rcases hc with hc | hc
          · have := (h2.fb c hc).2.1; omega
          · have := (h2.sb c hc).2.1; omega

theorem tmod2 (a : Int) : ∃ i : Nat, (i = 0 ∨ i = 1) ∧ (a.tmod 2 + 2).tmod 2 = i ∧ IntKind.i64.wrap (a.tmod 2 + 2) = a.tmod 2 + 2 := by
  have h1 : -2 < a.tmod 2 := by
    have := Int.lt_tmod_of_pos a (show (0 : Int) < 2 by omega)
    omega
  have h2 : a.tmod 2 < 2 := Int.tmod_lt_of_pos a (by omega)
  have h3 : 0 ≤ a.tmod 2 + 2 := by omega
  have h4 := Int.tmod_eq_emod_of_nonneg (b := 2) h3
  have h5 := Int.emod_nonneg (a.tmod 2 + 2) (show (2 : Int) ≠ 0 by omega)
  have h6 := Int.emod_lt_of_pos (a.tmod 2 + 2) (show (0 : Int) < 2 by omega)
  exact ⟨((a.tmod 2 + 2).tmod 2).toNat, by omega, by omega, wrap_small (by omega) (by omega)⟩
theorem place_run {w : World} (a : Int) {Q : Value → World → Prop} (q : ∀ i : Nat, (i = 0 ∨ i = 1) → Q (.int .i64 i) w) : Run (F.granarylaw21_place (.int .i64 a)) w Q := by
  obtain ⟨i, h1, h2, h3⟩ := tmod2 a
  unfold F.granarylaw21_place
  simp [h2, h3]
  exact q i h1

/-- Both desks begin. -/
theorem two_begins {C : Clu} {nv : Value} {pvs : List Value} (hN : Nodes w nv C.nodes pvs) (hF : Fits C) (hG : bk w 0 = some greatV) {w1 : World} (f1 : Fr (fun _ => False) w w1) (hb : bk w1 D = some [.pointer none, .pointer none, .slice none 0 0, .slice none 0 0, .pointer none, .pointer none, .slice none 0 0, .slice none 0 0]) (hw : Go.Lift.wr w1 D = true) (hD : w.heap.size ≤ D) {b1 : Nat} (hb1 : bk w1 b1 = some (C.cells nv)) (hbD : b1 ≠ D) :
    Run (F.granarylaw21_desk_begins (.pointer (some ⟨D, 0, none⟩)) (C.val nv)) w1 fun r w2 => r = .bool true ∧ bk w2 b1 = some (C.cells nv) ∧
      Run (F.granarylaw21_desk_begins (.pointer (some ⟨D, 4, none⟩)) (C.val nv)) w2 fun r' w3 => r' = .bool true ∧ ∃ rows R wt, Cfg rows R wt ∧ D2 rows wt 0 w w3 D := by
  have h00 : 0 < w.heap.size := bk_lt hG
  refine (begins_run (w0 := w) (hN.fr0 f1) hF (f1.bk_some hG id) f1 hb hw hD h00 (by simp) rfl).mono ?_
  rintro r w2 ⟨rfl, f2, st0, ov0, rv0, F0, g0, ⟨c0, c1⟩, k0⟩
  have hb12 : bk w2 b1 = some (C.cells nv) := f2.bk_some hb1 hbD
  have f02 : Fr (fun _ => False) w w2 := f1.new f2 fun c hc => by rw [hc]; exact hD
  refine ⟨rfl, hb12, ?_⟩
  obtain ⟨rows, R, wt, cfg, hrw⟩ : ∃ rows R wt, Cfg rows R wt ∧ (checkF C = 0 → rows = rowsF C ∧ wt = C.getwait) := by
    by_cases hc : checkF C = 0
    · obtain ⟨hset, hc1, hc2⟩ := checkF_ok hc
      have hRb := hset 0 _ _ rfl rfl
      have hwb := hset 17 _ _ rfl rfl
      simp only [Clu.nums] at hRb hwb
      obtain ⟨R, hRr⟩ : ∃ R : Nat, C.replicas = R := ⟨C.replicas.toNat, by omega⟩
      exact ⟨rowsF C, R, C.getwait, ⟨fun r hr => by have := rowsF_row hc hr; omega, by have := hRb.1; omega, by have := hRb.2; omega, by rw [rowsF_len]; exact hc1, hwb⟩, fun _ => ⟨rfl, rfl⟩⟩
    · exact ⟨[[0]], 1, 1, ⟨by simp, by decide, by decide, by decide, by decide⟩, fun h => absurd h hc⟩
  have d0 := k0 rows wt hrw
  have lb0 := d0.blk
  have lw0 := d0.wr
  refine (begins_run (w0 := w) (hN.fr0 f02) hF (f02.bk_some hG id) f02 lb0 lw0 hD h00 (by simp) rfl).mono ?_
  rintro r' w3 ⟨rfl, f3, st1, ov1, rv1, F1, g1, _, k1⟩
  have d1 := k1 rows wt hrw
  refine ⟨rfl, rows, R, wt, cfg, f02.new f3 fun c hc => (by rw [hc]; exact hD), _, st0, [], ov0, rv0, .slice none 0 0, F0, st1, [], ov1, rv1, .slice none 0 0, F1, by simp, ?_, d1, ?_⟩
  · refine d0.other f3 d1.blk d1.wr (by simp) ?_ ?_ ?_ fun c hc => ⟨fun hf => (d0.fb c hf).2.2 hc, fun hf => hf.elim⟩
    · rfl
    · rfl
    · rfl
  · rintro c (hc | hc) (hf | hf)
    · have := (d0.fb c hc).2.1
      have := g1 c hf
      omega
    · exact hf.elim
    · exact hc.elim
    · exact hc.elim

def Zm : Ms := ⟨0, 0, 0, 0, 0, 0, 0, 0, 0, .string ByteArray.empty, .string ByteArray.empty⟩
theorem Zm_str : MStr Zm := ⟨_, _, rfl⟩
theorem plays_top {C : Clu} {nv sv : Value} {pvs : List Value} {ops : List Op} (hN : Nodes w nv C.nodes pvs) (hF : Fits C) (hG : bk w 0 = some greatV) (hs : Sl 14 w sv (elO ops)) (hm : ∀ op ∈ ops, MStr op.m) (hl : ops.length ≤ 1048576) :
    Run (F.granarylaw21_ExportPlays (C.val nv) sv) w fun r w' => r = .bool true ∧ Fr (fun _ => False) w w' := by
  unfold F.granarylaw21_ExportPlays
  have hsl := hs.lenL
  simp at hsl
  have hby : ops.length ≤ 2147483647 := by omega
  have hnvc := hN.sl.isCell
  simp [Clu.val]
  refine Run_new fun b1 w1 hb1 _ f1 _ => ?_
  have hb1' : bk w1 b1 = some (C.cells nv) := by simpa using hb1
  simp [-ldA_ptr, hsl, beyond_run hby]
  refine Run_new fun D w2 hD hDw f2 hDle => ?_
  have hD2 : bk w2 D = some [.pointer none, .pointer none, .slice none 0 0, .slice none 0 0, .pointer none, .pointer none, .slice none 0 0, .slice none 0 0] := by simpa using hD
  have hb2 : bk w2 b1 = some (C.cells nv) := f2.bk_some hb1' id
  have s1 := f1.size
  have f02 : Fr (fun _ => False) w w2 := f1.trans f2 fun _ _ => id
  have hbl := bk_lt hb1'
  simp [-ldA_ptr, Clu.ldA6 hb2]
  refine (two_begins hN hF hG f02 hD2 hDw (by omega) hb2 (by omega)).mono ?_
  rintro _ w3 ⟨rfl, hb3, hrun⟩
  simp [-ldA_ptr, Clu.ldA6 hb3]
  refine hrun.mono ?_
  rintro _ w4 ⟨rfl, rows, R, wt, cfg, d4⟩
  simp
  obtain ⟨Q1, q1⟩ : ∃ Q1 : Out → World → Prop, ∀ a w', Q1 a w' ↔ ∃ i, a = .exit 0 [i] ∧ D2 rows wt ops.length w w' D := ⟨_, fun _ _ => Iff.rfl⟩
  refine Run.mono (Q := Q1) (Run_for ops.length (fun i s w' => s = [.int .i64 i] ∧ D2 rows wt i w w' D) ⟨rfl, by simpa using d4⟩ ?_ ?_) ?_
  · rintro i s w5 hi ⟨rfl, d5⟩
    have ei : ops[i]? = some ops[i] := List.getElem?_eq_getElem hi
    generalize ops[i] = op at ei
    have hop := hm op (List.mem_of_getElem? ei)
    have hs5 := hs.fr0 d5.1
    obtain ⟨bo, oo, lo, i1, i2, i3, i4, _⟩ := hs5.rd (by decide) (elO_some ei) .i64
    have g1 : lo[oo + 1]? = some (.int .i64 op.at_) := take_get (j := 1) i4 (by decide)
    have gA : ldA 14 (.pointer (some ⟨bo, oo, none⟩)) w5 = some op.val := by rw [ldA_bk i2 i3, i4]; rfl
    have hi' : (i : Int) < ops.length := by omega
    have ws := wrap_succ (n := i) (by omega)
    have fd : Fr (fun _ => False) w5 w5.drew := (Fr.refl (fun _ => False) w5).drew
    simp [-ldA_ptr, hsl, hi, hi', i1, i2, g1]
    refine place_run op.at_ fun k hk => ?_
    have hk2 : (k : Int) < 2 := by omega
    simp [-ldA_ptr, hk2, gA]
    refine ((d5.fr0 fd).plays cfg (by omega) (i := k * 4) (by omega) op hop).mono ?_
    rintro _ w6 ⟨rfl, d6⟩
    have hk2' : k < 2 := by omega
    simp [-ldA_ptr, ws, hk2', gA]
    exact d6
  · rintro s w5 ⟨rfl, d5⟩
    simp [hsl]
    exact (q1 _ _).2 ⟨_, rfl, d5⟩
  rintro a w5 ha
  obtain ⟨i, rfl, d5⟩ := (q1 _ _).1 ha
  simp [buildV, fillV_cell]
  refine (d5.plays cfg (by omega) (i := 0) (.inl rfl) ⟨5, 0, 0, Zm⟩ Zm_str).mono ?_
  rintro _ w6 ⟨rfl, d6⟩
  try simp
  refine (d6.plays cfg (by omega) (i := 0) (.inl rfl) ⟨1, 0, 3, Zm⟩ Zm_str).mono ?_
  rintro _ w7 ⟨rfl, d7⟩
  simp
  refine (d7.plays cfg (by omega) (i := 0) (.inl rfl) ⟨4, 0, 0, Zm⟩ Zm_str).mono ?_
  rintro _ w8 ⟨rfl, d8⟩
  simp
  exact d8.1
theorem moves_top {C : Clu} {nv sv : Value} {pvs : List Value} {ops : List Op} (hN : Nodes w nv C.nodes pvs) (hF : Fits C) (hG : bk w 0 = some greatV) (hs : Sl 14 w sv (elO ops)) (hm : ∀ op ∈ ops, MStr op.m) (hl : ops.length ≤ 1048576) :
    Run (F.granarylaw21_ExportMoves (C.val nv) sv) w fun r w' => r = .bool true ∧ Fr (fun _ => False) w w' := by
  unfold F.granarylaw21_ExportMoves
  have hsl := hs.lenL
  simp at hsl
  have hby : ops.length ≤ 2147483647 := by omega
  have hnvc := hN.sl.isCell
  simp [Clu.val]
  refine Run_new fun b1 w1 hb1 _ f1 _ => ?_
  have hb1' : bk w1 b1 = some (C.cells nv) := by simpa using hb1
  simp [-ldA_ptr, hsl, beyond_run hby]
  refine Run_new fun D w2 hD hDw f2 hDle => ?_
  have hD2 : bk w2 D = some [.pointer none, .pointer none, .slice none 0 0, .slice none 0 0, .pointer none, .pointer none, .slice none 0 0, .slice none 0 0] := by simpa using hD
  have hb2 : bk w2 b1 = some (C.cells nv) := f2.bk_some hb1' id
  have s1 := f1.size
  have f02 : Fr (fun _ => False) w w2 := f1.trans f2 fun _ _ => id
  have hbl := bk_lt hb1'
  simp [-ldA_ptr, Clu.ldA6 hb2]
  refine (two_begins hN hF hG f02 hD2 hDw (by omega) hb2 (by omega)).mono ?_
  rintro _ w3 ⟨rfl, hb3, hrun⟩
  simp [-ldA_ptr, Clu.ldA6 hb3]
  refine hrun.mono ?_
  rintro _ w4 ⟨rfl, rows, R, wt, cfg, d4⟩
  simp
  obtain ⟨Q1, q1⟩ : ∃ Q1 : Out → World → Prop, ∀ a w', Q1 a w' ↔ ∃ i, a = .exit 0 [i] ∧ D2 rows wt ops.length w w' D := ⟨_, fun _ _ => Iff.rfl⟩
  refine Run.mono (Q := Q1) (Run_for ops.length (fun i s w' => s = [.int .i64 i] ∧ D2 rows wt i w w' D) ⟨rfl, by simpa using d4⟩ ?_ ?_) ?_
  · rintro i s w5 hi ⟨rfl, d5⟩
    have ei : ops[i]? = some ops[i] := List.getElem?_eq_getElem hi
    generalize ops[i] = op at ei
    have hop := hm op (List.mem_of_getElem? ei)
    have hs5 := hs.fr0 d5.1
    obtain ⟨bo, oo, lo, i1, i2, i3, i4, _⟩ := hs5.rd (by decide) (elO_some ei) .i64
    have g0 : lo[oo]? = some (.int .i64 op.kind) := take_get (j := 0) i4 (by decide)
    have g1 : lo[oo + 1]? = some (.int .i64 op.at_) := take_get (j := 1) i4 (by decide)
    have gA : ldA 14 (.pointer (some ⟨bo, oo, none⟩)) w5 = some op.val := by rw [ldA_bk i2 i3, i4]; rfl
    have hi' : (i : Int) < ops.length := by omega
    have ws := wrap_succ (n := i) (by omega)
    have fd : Fr (fun _ => False) w5 w5.drew := (Fr.refl (fun _ => False) w5).drew
    simp [-ldA_ptr, hsl, hi, hi', i1, i2, g0, g1]
    refine place_run op.at_ fun k hk => ?_
    have hk2 : (k : Int) < 2 := by omega
    simp [-ldA_ptr, hk2, gA]
    refine ((d5.fr0 fd).plays cfg (by omega) (i := k * 4) (by omega) op hop).mono ?_
    rintro _ w6 ⟨rfl, d6⟩
    have hk2' : k < 2 := by omega
    simp [-ldA_ptr, ws, hk2', gA]
    exact d6
  · rintro s w5 ⟨rfl, d5⟩
    simp [hsl]
    exact (q1 _ _).2 ⟨_, rfl, d5⟩
  rintro a w5 ha
  obtain ⟨i, rfl, d5⟩ := (q1 _ _).1 ha
  simp [buildV, fillV_cell]
  refine (d5.plays cfg (by omega) (i := 0) (.inl rfl) ⟨3, 0, 0, Zm⟩ Zm_str).mono ?_
  rintro _ w6 ⟨rfl, d6⟩
  try simp
  refine (d6.plays cfg (by omega) (i := 0) (.inl rfl) ⟨1, 0, 3, Zm⟩ Zm_str).mono ?_
  rintro _ w7 ⟨rfl, d7⟩
  simp
  exact d7.1
theorem reports_top {C : Clu} {nv sv : Value} {pvs : List Value} {ops : List Op} (hN : Nodes w nv C.nodes pvs) (hF : Fits C) (hG : bk w 0 = some greatV) (hs : Sl 14 w sv (elO ops)) (hm : ∀ op ∈ ops, MStr op.m) (hl : ops.length ≤ 1048576) :
    Run (F.granarylaw21_ExportReports (C.val nv) sv) w fun r w' => r = .bool true ∧ Fr (fun _ => False) w w' := by
  unfold F.granarylaw21_ExportReports
  have hsl := hs.lenL
  simp at hsl
  have hby : ops.length ≤ 2147483647 := by omega
  have hnvc := hN.sl.isCell
  simp [Clu.val]
  refine Run_new fun b1 w1 hb1 _ f1 _ => ?_
  have hb1' : bk w1 b1 = some (C.cells nv) := by simpa using hb1
  simp [-ldA_ptr, hsl, beyond_run hby]
  refine Run_new fun D w2 hD hDw f2 hDle => ?_
  have hD2 : bk w2 D = some [.pointer none, .pointer none, .slice none 0 0, .slice none 0 0, .pointer none, .pointer none, .slice none 0 0, .slice none 0 0] := by simpa using hD
  have hb2 : bk w2 b1 = some (C.cells nv) := f2.bk_some hb1' id
  have s1 := f1.size
  have f02 : Fr (fun _ => False) w w2 := f1.trans f2 fun _ _ => id
  have hbl := bk_lt hb1'
  simp [-ldA_ptr, Clu.ldA6 hb2]
  refine (two_begins hN hF hG f02 hD2 hDw (by omega) hb2 (by omega)).mono ?_
  rintro _ w3 ⟨rfl, hb3, hrun⟩
  simp [-ldA_ptr, Clu.ldA6 hb3]
  refine hrun.mono ?_
  rintro _ w4 ⟨rfl, rows, R, wt, cfg, d4⟩
  simp
  obtain ⟨Q1, q1⟩ : ∃ Q1 : Out → World → Prop, ∀ a w', Q1 a w' ↔ ∃ i, a = .exit 0 [i] ∧ D2 rows wt ops.length w w' D := ⟨_, fun _ _ => Iff.rfl⟩
  refine Run.mono (Q := Q1) (Run_for ops.length (fun i s w' => s = [.int .i64 i] ∧ D2 rows wt i w w' D) ⟨rfl, by simpa using d4⟩ ?_ ?_) ?_
  · rintro i s w5 hi ⟨rfl, d5⟩
    have ei : ops[i]? = some ops[i] := List.getElem?_eq_getElem hi
    generalize ops[i] = op at ei
    have hop := hm op (List.mem_of_getElem? ei)
    have hs5 := hs.fr0 d5.1
    obtain ⟨bo, oo, lo, i1, i2, i3, i4, _⟩ := hs5.rd (by decide) (elO_some ei) .i64
    have g0 : lo[oo]? = some (.int .i64 op.kind) := take_get (j := 0) i4 (by decide)
    have g1 : lo[oo + 1]? = some (.int .i64 op.at_) := take_get (j := 1) i4 (by decide)
    have gA : ldA 14 (.pointer (some ⟨bo, oo, none⟩)) w5 = some op.val := by rw [ldA_bk i2 i3, i4]; rfl
    have hi' : (i : Int) < ops.length := by omega
    have ws := wrap_succ (n := i) (by omega)
    have fd : Fr (fun _ => False) w5 w5.drew := (Fr.refl (fun _ => False) w5).drew
    simp [-ldA_ptr, hsl, hi, hi', i1, i2, g0, g1]
    refine place_run op.at_ fun k hk => ?_
    have hk2 : (k : Int) < 2 := by omega
    simp [-ldA_ptr, hk2, gA]
    refine ((d5.fr0 fd).plays cfg (by omega) (i := k * 4) (by omega) op hop).mono ?_
    rintro _ w6 ⟨rfl, d6⟩
    have hk2' : k < 2 := by omega
    simp [-ldA_ptr, ws, hk2', gA]
    exact d6
  · rintro s w5 ⟨rfl, d5⟩
    simp [hsl]
    exact (q1 _ _).2 ⟨_, rfl, d5⟩
  rintro a w5 ha
  obtain ⟨i, rfl, d5⟩ := (q1 _ _).1 ha
  simp [buildV, fillV_cell]
  refine (d5.plays cfg (by omega) (i := 0) (.inl rfl) ⟨4, 0, 0, Zm⟩ Zm_str).mono ?_
  rintro _ w6 ⟨rfl, d6⟩
  try simp
  refine (d6.plays cfg (by omega) (i := 0) (.inl rfl) ⟨5, 0, 0, Zm⟩ Zm_str).mono ?_
  rintro _ w7 ⟨rfl, d7⟩
  simp
  exact d7.1
end

end Go.Proofs.YtiggkhmopnhfaaaDoor
