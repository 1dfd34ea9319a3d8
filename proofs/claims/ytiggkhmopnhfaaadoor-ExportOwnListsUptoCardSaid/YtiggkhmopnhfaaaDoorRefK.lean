/-
  The document's exporter (granaryref21), part K: Report.
-/
import Derived.Test.YtiggkhmopnhfaaaDoorRefJ
namespace Go.Proofs.YtiggkhmopnhfaaaDoor
open Go.Lift
set_option linter.unusedSimpArgs false
set_option maxHeartbeats 1000000

/-- A report: its lists can be read. -/
structure RepR (w' : World) (x : Value) (job version : Int) (pairs : List Pr) (missing : List Int) (err : Int) : Prop where
  val : ∃ pv mv, x = .tuple #[.agg #[.int .i64 job, .int .i64 version, pv, mv], .int .i64 err] ∧ Sl 2 w' pv (elP pairs) ∧ Sl 1 w' mv (elI missing)

section
variable {w w' : World} {b : Nat} {r r' : RS} {v v' : RV} {ro ro' foot foot' : Nat → Prop}
theorem report21_run (h : RM w b r v ro foot) (hok : ROk r) :
    Run (F.granaryref21_Export_Report (.pointer (some ⟨b, 0, none⟩))) w fun x w' => Fr (fun _ => False) w w' ∧ if r.ended = true then RepR w' x r.lj r.lv r.lp r.lm 0 else RepR w' x 0 0 [] [] 151 := by
  unfold F.granaryref21_Export_Report
  simp
  refine Run_new fun c w1 hc hcw f1 hcle => ?_
  have hc1 : bk w1 c = some [.int .i64 0, .int .i64 0, .slice none 0 0, .slice none 0 0] := by simpa using hc
  have h1 := h.fr0 f1
  have hb1 := h1.blk
  simp [hb1, RS.cells]
  cases hen : r.ended with
  | false =>
    simp [hc1, hcw, buildV]
    exact ⟨f1.sto (.inr hcle) _ _, ⟨_, _, rfl, Sl.nil _ _, Sl.nil _ _⟩⟩
  | true =>
    simp [hb1, RS.cells, buildV, fillV_cell]
    refine Run_new fun d w20 hd0 hdw0 f20 hdle => ?_
    have s1 := f1.size
    have dr1 : w1.drew.heap.size = w1.heap.size := rfl
    have hb20 : bk w20 b = some (r.cells v) := f20.bk_some (w := w1.drew) hb1 id
    have hc20 : bk w20 c = some [.int .i64 0, .int .i64 0, .slice none 0 0, .slice none 0 0] := f20.bk_some (w := w1.drew) hc1 id
    have hcw20 : wr w20 c = true := by rw [f20.wr (w := w1.drew) (bk_lt (w := w1.drew) hc1) id]; exact hcw
    have hcd : c ≠ d := by have := bk_lt hc1; omega
    have hdl0 : w.heap.size ≤ d := by omega
    simp [hd0, hdw0, hb20, RS.cells]
    have hd2 : bk (sto w20 d 0 [.int .i64 r.lj, .int .i64 r.lv, .slice none 0 0, .slice none 0 0]) d = some [.int .i64 r.lj, .int .i64 r.lv, .slice none 0 0, .slice none 0 0] := by simp [hd0]
    have hdw : wr (sto w20 d 0 [.int .i64 r.lj, .int .i64 r.lv, .slice none 0 0, .slice none 0 0]) d = true := by simp [hdw0]
    have hc2 : bk (sto w20 d 0 [.int .i64 r.lj, .int .i64 r.lv, .slice none 0 0, .slice none 0 0]) c = some [.int .i64 0, .int .i64 0, .slice none 0 0, .slice none 0 0] := by rw [bk_sto_ne hcd]; exact hc20
    have hcw2 : wr (sto w20 d 0 [.int .i64 r.lj, .int .i64 r.lv, .slice none 0 0, .slice none 0 0]) c = true := by simp [hcw20]
    have f2' : Fr (fun _ => False) w (sto w20 d 0 [.int .i64 r.lj, .int .i64 r.lv, .slice none 0 0, .slice none 0 0]) := (f1.drew.trans f20 fun _ _ => id).sto (.inr hdl0) _ _
    generalize sto w20 d 0 [.int .i64 r.lj, .int .i64 r.lv, .slice none 0 0, .slice none 0 0] = w2 at *
    have hlp := h.lp.1.lenL
    have hlm := h.lm.1.lenL
    simp only [elP_len] at hlp
    simp only [elI_len] at hlm
    have k1 := hok.lpl
    have k2 := hok.lml
    have h2 := h.fr0 f2'
    obtain ⟨Q1, q1⟩ : ∃ Q1 : Out → World → Prop, ∀ o w', Q1 o w' ↔ ∃ i pv, o = .exit 0 [i] ∧ Fr (fun _ => False) w w' ∧ bk w' d = some [.int .i64 r.lj, .int .i64 r.lv, pv, .slice none 0 0] ∧ wr w' d = true ∧ bk w' c = some [.int .i64 0, .int .i64 0, .slice none 0 0, .slice none 0 0] ∧ wr w' c = true ∧ SlW 2 w' pv (elP r.lp) ∧ ∀ e, inB pv e → w.heap.size ≤ e ∧ e ≠ d ∧ e ≠ c ∧ e < w'.heap.size := ⟨_, fun _ _ => Iff.rfl⟩
    refine Run.mono (Q := Q1) (Run_for r.lp.length (fun i l w' => l = [.int .i64 i] ∧ ∃ pv, Fr (fun _ => False) w w' ∧ bk w' d = some [.int .i64 r.lj, .int .i64 r.lv, pv, .slice none 0 0] ∧ wr w' d = true ∧ bk w' c = some [.int .i64 0, .int .i64 0, .slice none 0 0, .slice none 0 0] ∧ wr w' c = true ∧ SlW 2 w' pv (elP (r.lp.take i)) ∧ ∀ e, inB pv e → w.heap.size ≤ e ∧ e ≠ d ∧ e ≠ c ∧ e < w'.heap.size)
      ⟨rfl, _, f2', hd2, hdw, hc2, hcw2, SlW.nil _ _, fun e he => he.elim⟩ ?_ ?_) ?_
    · rintro i l w3 hi ⟨rfl, pv, f3, hd3, hdw3, hc3, hcw3, hpv, hpb⟩
      have h3 := h.fr0 f3
      have hb3 := h3.blk
      have ei : r.lp[i]? = some r.lp[i] := List.getElem?_eq_getElem hi
      generalize r.lp[i] = y at ei
      have hcell := hok.lc y (List.mem_of_getElem? ei)
      have hee : (elP r.lp)[i]? = some [y.1, y.2] := by simp [elP, ei]
      obtain ⟨z, z1, z2⟩ := h3.lp.1.rdA (by decide) hee .i64
      have ws := wrap_succ (n := i) (by omega)
      have hi' : (i : Int) < r.lp.length := by omega
      simp [-ldA_ptr, hb3, RS.cells, hlp, hi, hd3, z1, z2]
      refine Run_app1 (k := 2) rfl (hpv.fr (Fr.refl (fun _ => False) w3).drew fun _ _ => id) (by decide) rfl (by decide) (by simp [hcell]) (by simp; omega) fun pv' w4 hs4 f4 hin w14 f14 => ?_
      have hnd : ¬ inB pv d := fun he => (hpb d he).2.1 rfl
      have hnc : ¬ inB pv c := fun he => (hpb c he).2.2.1 rfl
      have hd4 : bk w4 d = _ := f4.bk_some (w := w3.drew) (l := _) hd3 hnd
      have hdw4 : wr w4 d = true := by rw [f4.wr (w := w3.drew) (bk_lt (w := w3.drew) hd3) hnd]; exact hdw3
      have hc4 : bk w4 c = _ := f4.bk_some (w := w3.drew) (l := _) hc3 hnc
      have hcw4 : wr w4 c = true := by rw [f4.wr (w := w3.drew) (bk_lt (w := w3.drew) hc3) hnc]; exact hcw3
      have hd14 : bk w14 d = _ := f14.bk_some (w := w3.drew) (l := _) hd3 id
      have hpc := hs4.1.isCell
      have dr3 : w3.drew.heap.size = w3.heap.size := rfl
      have s3 := f3.size
      have s34 := f4.size
      have hpb' : ∀ e, inB pv' e → w.heap.size ≤ e ∧ e ≠ d ∧ e ≠ c ∧ e < w4.heap.size := fun e he => by
        rcases hin e he with h' | h'
        · obtain ⟨a1, a2, a3, a4⟩ := hpb e h'
          exact ⟨a1, a2, a3, by omega⟩
        · have := bk_lt hd3; have := bk_lt hc3; omega
      have f34 : Fr (fun _ => False) w w4 := f3.drew.new f4 fun e he => (hpb e he).1
      have hdl : w.heap.size ≤ d := by omega
      simp [hd4, hdw4, hd14, cells_isCell hpc, hpc, ws]
      refine ⟨f34.sto (.inr hdl) _ _, by rw [bk_sto_ne hcd]; exact hc4, hcw4, ?_, hpb'⟩
      have := hs4.fr ((Fr.refl (fun e => e = d) w4).sto (.inl rfl) 2 [pv']) fun e he => (hpb' e he).2.1
      rw [List.take_add_one, ei]
      rw [show elP (List.take i r.lp ++ (some y).toList) = elP (List.take i r.lp) ++ [[y.1, y.2]] by simp [elP]]
      exact this
    · rintro l w3 ⟨rfl, pv, f3, hd3, hdw3, hc3, hcw3, hpv, hpb⟩
      have hb3 := (h.fr0 f3).blk
      rw [List.take_length] at hpv
      simp [hb3, RS.cells, hlp]
      exact (q1 _ _).2 ⟨_, pv, rfl, f3, hd3, hdw3, hc3, hcw3, hpv, hpb⟩
    rintro o w3 ho
    obtain ⟨i, pv, rfl, f3, hd3, hdw3, hc3, hcw3, hpv, hpb⟩ := (q1 _ _).1 ho
    simp
    refine Run_for r.lm.length (fun i l w' => l = [.int .i64 i] ∧ ∃ mv, Fr (fun _ => False) w w' ∧ bk w' d = some [.int .i64 r.lj, .int .i64 r.lv, pv, mv] ∧ wr w' d = true ∧ bk w' c = some [.int .i64 0, .int .i64 0, .slice none 0 0, .slice none 0 0] ∧ wr w' c = true ∧ SlW 2 w' pv (elP r.lp) ∧ SlW 1 w' mv (elI (r.lm.take i)) ∧ (∀ e, inB mv e → w.heap.size ≤ e ∧ e ≠ d ∧ e ≠ c ∧ ¬ inB pv e) ∧ w3.heap.size ≤ w'.heap.size)
      ⟨rfl, _, f3, hd3, hdw3, hc3, hcw3, hpv, SlW.nil _ _, fun e he => he.elim, Nat.le_refl _⟩ ?_ ?_
    · rintro i l w4 hi ⟨rfl, mv, f4, hd4, hdw4, hc4, hcw4, hpv4, hmv, hmb, h34⟩
      have h4 := h.fr0 f4
      have hb4 := h4.blk
      have ei : r.lm[i]? = some r.lm[i] := List.getElem?_eq_getElem hi
      generalize r.lm[i] = y at ei
      obtain ⟨z, z1, z2⟩ := h4.lm.1.rd1 (elI_some ei) .i64
      have ws := wrap_succ (n := i) (by omega)
      simp [-ldA_ptr, hb4, RS.cells, hlm, hi, hd4, z1, z2]
      refine Run_app1 (k := 1) rfl (hmv.fr (Fr.refl (fun _ => False) w4).drew fun _ _ => id) (by decide) rfl (by decide) rfl (by simp; omega) fun mv' w5 hs5 f5 hin w15 f15 => ?_
      have hnd : ¬ inB mv d := fun he => (hmb d he).2.1 rfl
      have hnc : ¬ inB mv c := fun he => (hmb c he).2.2.1 rfl
      have hd5 : bk w5 d = _ := f5.bk_some (w := w4.drew) (l := _) hd4 hnd
      have hdw5 : wr w5 d = true := by rw [f5.wr (w := w4.drew) (bk_lt (w := w4.drew) hd4) hnd]; exact hdw4
      have hc5 : bk w5 c = _ := f5.bk_some (w := w4.drew) (l := _) hc4 hnc
      have hcw5 : wr w5 c = true := by rw [f5.wr (w := w4.drew) (bk_lt (w := w4.drew) hc4) hnc]; exact hcw4
      have hd15 : bk w15 d = _ := f15.bk_some (w := w4.drew) (l := _) hd4 id
      have hmc := hs5.1.isCell
      have hpc := hpv4.1.isCell
      have dr4 : w4.drew.heap.size = w4.heap.size := rfl
      have s4 := f4.size
      have hpv5 := (hpv4.fr (Fr.refl (fun _ => False) w4).drew fun _ _ => id).fr f5 fun e he hm => (hmb e hm).2.2.2 he
      have s45 := f5.size
      have hmb' : ∀ e, inB mv' e → w.heap.size ≤ e ∧ e ≠ d ∧ e ≠ c ∧ ¬ inB pv e := fun e he => by
        rcases hin e he with h' | h'
        · exact hmb e h'
        · have := bk_lt hd4; have := bk_lt hc4
          exact ⟨by omega, by omega, by omega, fun hp => by have := (hpb e hp).2.2.2; omega⟩
      have f45 : Fr (fun _ => False) w w5 := f4.drew.new f5 fun e he => (hmb e he).1
      have hdl : w.heap.size ≤ d := by omega
      simp [hd5, hdw5, hd15, cells_isCell hmc, hmc, ws]
      have g6 := (Fr.refl (fun e => e = d) w5).sto (b := d) (.inl rfl) 3 [mv']
      refine ⟨f45.sto (.inr hdl) _ _, by rw [bk_sto_ne hcd]; exact hc5, hcw5, hpv5.fr g6 fun e he => (hpb e he).2.1, ?_, hmb', by omega⟩
      have := hs5.fr g6 fun e he => (hmb' e he).2.1
      rw [List.take_add_one, ei]
      rw [show (List.take i r.lm ++ (some y).toList) = List.take i r.lm ++ [y] from rfl, ← elI_app]
      exact this
    · rintro l w4 ⟨rfl, mv, f4, hd4, hdw4, hc4, hcw4, hpv4, hmv, hmb, h34⟩
      have hb4 := (h.fr0 f4).blk
      rw [List.take_length] at hmv
      have hmc := hmv.1.isCell
      have hpc := hpv4.1.isCell
      have hcl : w.heap.size ≤ c := hcle
      simp [hb4, RS.cells, hlm, hd4, hc4, hcw4, hmc, hpc]
      have g5 := (Fr.refl (fun e => e = c) w4).sto (b := c) (.inl rfl) 0 [.int .i64 r.lj, .int .i64 r.lv, pv, mv]
      refine ⟨fun i hi => ?_, f4.sto (.inr hcl) _ _, ⟨pv, mv, rfl, hpv4.1.fr g5 fun e he => (hpb e he).2.2.1, hmv.1.fr g5 fun e he => (hmb e he).2.2.1⟩⟩
      match i, hi with
      | 0, _ => exact isCell_int _ _
      | 1, _ => exact isCell_int _ _
      | 2, _ => exact hpc
      | 3, _ => exact hmc
end

end Go.Proofs.YtiggkhmopnhfaaaDoor
