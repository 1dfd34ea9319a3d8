/-
  Layer 21 (export), part E: Report.
-/
import Derived.Test.YtiggkhmopnhfaaaDoorExportD
namespace Go.Proofs.YtiggkhmopnhfaaaDoor
open Go.Lift
set_option linter.unusedSimpArgs false

/-- A report: the values of its lists, and what they hold. -/
structure Rep (w w' : World) (r : Value) (job version : Int) (pairs : List Pr) (missing : List Int) (err : Int) : Prop where
  val : ∃ pv mv, r = .tuple #[.agg #[.int .i64 job, .int .i64 version, pv, mv], .int .i64 err] ∧ SlW 2 w' pv (elP pairs) ∧ SlW 1 w' mv (elI missing) ∧ New w w' pv ∧ New w w' mv ∧ ∀ c, inB pv c → ¬ inB mv c

theorem report_run {w : World} {b : Nat} {x : XS} {v : XV} {tag : Nat → Nat} (h : Exp w b x v tag) (hok : XOk x) :
    Run (F.export_Export_Report (.pointer (some ⟨b, 0, none⟩))) w fun r w' => Fr (fun _ => False) w w' ∧
      if x.ended = true then Rep w w' r x.lj x.lv x.lp x.lm 0 else Rep w w' r 0 0 [] [] 151 := by
  unfold F.export_Export_Report
  simp
  refine Run_new fun c w1 hc hcw f1 hcle => ?_
  have hb1 : bk w1 b = some (x.cells v) := f1.bk_some h.x0.blk id
  simp [hb1, XS.cells]
  cases hen : x.ended with
  | false =>
    simp [hc, hcw, buildV]
    exact ⟨f1.sto (.inr hcle) _ _, ⟨_, _, rfl, SlW.nil _ _, SlW.nil _ _, fun c hc => hc.elim, fun c hc => hc.elim, fun c hc => hc.elim⟩⟩
  | true =>
    have hlp := h.x0.lp.1.fr0 f1
    have hlm := h.x0.lm.1.fr0 f1
    simp [hb1, XS.cells]
    refine Run_newSt (cs := #[.int .i64 x.lj, .int .i64 x.lv, v.lp, v.lm]) rfl rfl (by simp [hlp.isCell, hlm.isCell]) fun d w2 hd hdw f2 hdle => ?_
    have hb2 : bk w2 b = some (x.cells v) := f2.bk_some hb1 id
    have hc2 : bk w2 c = _ := f2.bk_some (l := _) hc id
    have hcw2 : wr w2 c = true := by rw [f2.wr (bk_lt hc) id]; exact hcw
    have hlpl := hlp.lenL
    simp at hlpl
    simp [hb2, XS.cells, hlpl]
    have hk1 := hok.lp
    have hk2 := hok.lm
    refine Run_mksM (n := x.lp.length) (c := x.lp.length) rfl (Nat.le_refl _) (by omega) (by omega) fun pv w3 hs3 f3 hn3 => ?_
    have hd3 : bk w3 d = _ := f3.bk_some (l := _) hd id
    have hdw3 : wr w3 d = true := by rw [f3.wr (bk_lt hd) id]; exact hdw
    have hdb : d ≠ b := by have := bk_lt hb1; omega
    have hpvc := hs3.1.isCell
    have hb3 : bk w3 b = some (x.cells v) := f3.bk_some hb2 id
    have hlen3 := hs3.1.lenL
    simp [hd3, hdw3, cells_isCell hpvc, hpvc, bk_sto_ne hdb.symm, hb3, XS.cells]
    have hnd3 : ∀ e, inB pv e → e ≠ d := fun e he h => by subst h; have := (hn3 e he).1; have := bk_lt hd; omega
    have f4 : Fr (fun e => e = d) w3 (sto w3 d 2 [pv]).drew := ((Fr.refl (fun e => e = d) w3).sto (.inl rfl) _ _).drew
    have hd4 : bk (sto w3 d 2 [pv]).drew d = some [.int .i64 x.lj, .int .i64 x.lv, pv, v.lm] := by simp [hd3]
    have hdw4 : wr (sto w3 d 2 [pv]).drew d = true := by simp [hdw3]
    generalize (sto w3 d 2 [pv]).drew = w4 at *
    have hlpb : ∀ e, inB v.lp e → e < w.heap.size := fun e he => h.x0.bound e (by rw [h.x0.lp.2 e he]; decide)
    have hlmb : ∀ e, inB v.lm e → e < w.heap.size := fun e he => h.x0.bound e (by rw [h.x0.lm.2 e he]; decide)
    have hdl : w.heap.size ≤ d := Nat.le_trans f1.size hdle
    have hlp4 : Sl 2 w4 v.lp (elP x.lp) := ((hlp.fr0 f2).fr0 f3).fr f4 fun e he h => by have := hlpb e he; omega
    have hpv4 : SlW 2 w4 pv (List.replicate x.lp.length [.string ByteArray.empty, .string ByteArray.empty]) := hs3.fr f4 hnd3
    refine Run_cpyM hpv4 hlp4 (by decide) (fun e he => ?_) (by simp) fun _ w5 hs5 f5 => ?_
    · obtain ⟨p, hp, rfl⟩ := List.mem_map.1 he
      simp [hok.lc p hp]
    have hd5 : bk w5 d = _ := f5.bk_some (l := _) hd4 fun h => hnd3 d h rfl
    have hdw5 : wr w5 d = true := by rw [f5.wr (bk_lt hd4) fun h => hnd3 d h rfl]; exact hdw4
    have hbw : b < w.heap.size := bk_lt h.x0.blk
    have hpvn : ∀ e, inB pv e → w2.heap.size ≤ e := fun e he => (hn3 e he).1
    have hw2s := f2.size
    have hw1s := f1.size
    have hb4 : bk w4 b = some (x.cells v) := f4.bk_some hb3 fun h => hdb h.symm
    have hb5 : bk w5 b = some (x.cells v) := f5.bk_some hb4 fun h => by have := hpvn b h; omega
    have hlm5 : Ints w5 v.lm x.lm := (((hlm.fr0 f2).fr0 f3).fr f4 fun e he h => by have := hlmb e he; omega).fr f5 fun e he h => by have := hlmb e he; have := hpvn e h; omega
    have hlml := hlm.lenL
    simp at hlml
    simp [hb5, XS.cells, hlml]
    refine Run_mksM (n := x.lm.length) (c := x.lm.length) rfl (Nat.le_refl _) (by omega) (by omega) fun mv w6 hs6 f6 hn6 => ?_
    have hd6 : bk w6 d = _ := f6.bk_some (l := _) hd5 id
    have hdw6 : wr w6 d = true := by rw [f6.wr (bk_lt hd5) id]; exact hdw5
    have hb6 : bk w6 b = some (x.cells v) := f6.bk_some hb5 id
    have hmvc := hs6.1.isCell
    simp [hd6, hdw6, cells_isCell hmvc, hmvc, bk_sto_ne hdb.symm, hb6, XS.cells]
    have hd5l := bk_lt hd5
    have hnd6 : ∀ e, inB mv e → e ≠ d := fun e he h => by subst h; have := (hn6 e he).1; omega
    have f7 : Fr (fun e => e = d) w6 (sto w6 d 3 [mv]).drew := ((Fr.refl (fun e => e = d) w6).sto (.inl rfl) _ _).drew
    have hd7 : bk (sto w6 d 3 [mv]).drew d = some [.int .i64 x.lj, .int .i64 x.lv, pv, mv] := by simp [hd6]
    have hdw7 : wr (sto w6 d 3 [mv]).drew d = true := by simp [hdw6]
    generalize (sto w6 d 3 [mv]).drew = w7 at *
    have hlm7 : Ints w7 v.lm x.lm := (hlm5.fr0 f6).fr f7 fun e he h => by have := hlmb e he; omega
    have hmv7 : SlW 1 w7 mv (List.replicate x.lm.length [.int .i64 0]) := hs6.fr f7 hnd6
    refine Run_cpyM hmv7 hlm7 (by decide) (fun e he => ?_) (by simp) fun _ w8 hs8 f8 => ?_
    · obtain ⟨p, hp, rfl⟩ := List.mem_map.1 he
      simp
    have hd8 : bk w8 d = _ := f8.bk_some (l := _) hd7 fun h => hnd6 d h rfl
    have hs5lt : ∀ e, inB pv e → e < w3.heap.size := fun e he => (hn3 e he).2
    have f38 : w3.heap.size ≤ w8.heap.size := by have := f4.size; have := f5.size; have := f6.size; have := f7.size; have := f8.size; omega
    have hmvn : ∀ e, inB mv e → w5.heap.size ≤ e := fun e he => (hn6 e he).1
    have f35 : w3.heap.size ≤ w5.heap.size := by have := f4.size; have := f5.size; omega
    have hpm : ∀ e, inB pv e → ¬ inB mv e := fun e h1 h2 => by have := hs5lt e h1; have := hmvn e h2; omega
    have hpv8 : SlW 2 w8 pv (elP x.lp) := ((hs5.fr f6 fun _ _ => id).fr f7 hnd3).fr f8 hpm
    have f18 : Fr (fun _ => False) w w8 := by
      have g1 : Fr (fun _ => False) w w3 := (f1.trans f2 fun _ _ => id).trans f3 fun _ _ => id
      have g2 := g1.new f4 fun e he => by omega
      have g3 := g2.new f5 fun e he => by have := hpvn e he; omega
      have g4 := g3.trans f6 fun _ _ => id
      have g5 := g4.new f7 fun e he => by omega
      exact g5.new f8 fun e he => by have := hmvn e he; have := f35; have := f3.size; omega
    have hcd : c ≠ d := by have := bk_lt hc; omega
    have hc8 : bk w8 c = _ := f8.bk_some (l := _) (f7.bk_some (f6.bk_some (f5.bk_some (f4.bk_some (f3.bk_some hc2 id) fun h => hcd h) fun h => by have := hpvn c h; have := bk_lt hc2; omega) id) fun h => hcd h) fun h => by
      have := hmvn c h; have := bk_lt hc2; have := f3.size; omega
    have hcw8 : wr w8 c = true := by
      have hc3 := f3.bk_some hc2 id
      have hc4 := f4.bk_some hc3 fun h => hcd h
      have hcp : ¬ inB pv c := fun h => by have := hpvn c h; have := bk_lt hc2; omega
      have hcm : ¬ inB mv c := fun h => by have := hmvn c h; have := bk_lt hc2; have := f3.size; omega
      have hc5 := f5.bk_some hc4 hcp
      have hc6 := f6.bk_some hc5 id
      have hc7 := f7.bk_some hc6 fun h => hcd h
      rw [f8.wr (bk_lt hc7) hcm, f7.wr (bk_lt hc6) fun h => hcd h, f6.wr (bk_lt hc5) id, f5.wr (bk_lt hc4) hcp, f4.wr (bk_lt hc3) fun h => hcd h, f3.wr (bk_lt hc2) id]
      exact hcw2
    have hpvc8 := hpv8.1.isCell
    simp [hd8, hc8, hcw8, hpvc, hmvc]
    have f9 := f18.sto (b := c) (.inr hcle) 0 [.int .i64 x.lj, .int .i64 x.lv, pv, mv]
    refine ⟨fun i hi => ?_, f9, ⟨pv, mv, rfl, ?_, ?_, fun e he => ?_, fun e he => ?_, hpm⟩⟩
    · match i, hi with
      | 0, _ => exact isCell_int _ _
      | 1, _ => exact isCell_int _ _
      | 2, _ => exact hpvc
      | 3, _ => exact hmvc
    · exact hpv8.fr ((Fr.refl (fun e => e = c) w8).sto (.inl rfl) 0 _) fun e he h => by subst h; have := hpvn e he; have := bk_lt hc2; omega
    · exact hs8.fr ((Fr.refl (fun e => e = c) w8).sto (.inl rfl) 0 _) fun e he h => by subst h; have := hmvn e he; have := bk_lt hc2; have := f3.size; omega
    · have := hpvn e he; have := hs5lt e he; simp; omega
    · have := hmvn e he; have := (hn6 e he).2; have := f7.size; have := f8.size; have := f3.size; simp; omega

end Go.Proofs.YtiggkhmopnhfaaaDoor
