/-
  Layer 15 (control), part F: what the phases do, by their kind.
-/
import Derived.Test.YtpiceodfdjihhaaGreatDoorCtlE
namespace Go.Proofs.YtpiceodfdjihhaaGreatDoor
open Go.Lift
set_option linter.unusedSimpArgs false
set_option linter.unusedVariables false

section
variable {w : World} {b : Nat} {x : CS} {v : CV} {tag : Nat → Nat} {p : Ph}
theorem take_refused (h : Ctl w b x v tag) (hx : x.now = some p) (hk : 1 ≤ p.kind ∧ p.kind ≤ 4) (hn : x.n ≤ 64) (hl : p.said.length ≤ 64 ∧ p.holds.length ≤ 64) (q : Value) :
    Run (invV Tryz.prog F.control_Control_Take.inv "granary/control.refused" (.iface (tyOf p.kind) q) [(.pointer (some ⟨b, 0, none⟩))]) w fun r w' => Did w w' b tag (x.refusedS p).1 r (x.refusedS p).2 := by
  rcases (by omega : p.kind = 1 ∨ p.kind = 2 ∨ p.kind = 3 ∨ p.kind = 4) with e | e | e | e
  · have et : tyOf p.kind = 117 := by rw [e]; rfl
    rw [et, F.control_Control_Take.inv_117_refused]
    unfold F.control_fetching_refused
    simp
    have es : x.refusedS p = x.enterS 3 := by unfold CS.refusedS; simp [e]
    rw [es]
    exact back_run h.c0 hn
  · have et : tyOf p.kind = 120 := by rw [e]; rfl
    rw [et, F.control_Control_Take.inv_120_refused]
    unfold F.control_swapping_refused
    simp
    have es : x.refusedS p = x.enterS 3 := by unfold CS.refusedS; simp [e]
    rw [es]
    exact back_run h.c0 hn
  · have et : tyOf p.kind = 148 := by rw [e]; rfl
    rw [et, F.control_Control_Take.inv_148_refused]
    unfold F.control_backing_refused
    simp
    have es : x.refusedS p = (x, []) := by unfold CS.refusedS; simp [e]
    rw [es]
    exact Did.none h (Fr.refl _ _)
  · have et : tyOf p.kind = 122 := by rw [e]; rfl
    rw [et, F.control_Control_Take.inv_122_refused]
    unfold F.control_looking_refused
    simp
    have es : x.refusedS p = (x, []) := by unfold CS.refusedS; simp [e]
    rw [es]
    exact Did.none h (Fr.refl _ _)
theorem take_done (h : Ctl w b x v tag) (hx : x.now = some p) (hk : 1 ≤ p.kind ∧ p.kind ≤ 4) (hn : x.n ≤ 64) (hl : p.said.length ≤ 64 ∧ p.holds.length ≤ 64) (q : Value) :
    Run (invV Tryz.prog F.control_Control_Take.inv "granary/control.done" (.iface (tyOf p.kind) q) [(.pointer (some ⟨b, 0, none⟩))]) w fun r w' => Did w w' b tag (x.doneS p).1 r (x.doneS p).2 := by
  rcases (by omega : p.kind = 1 ∨ p.kind = 2 ∨ p.kind = 3 ∨ p.kind = 4) with e | e | e | e
  · have et : tyOf p.kind = 117 := by rw [e]; rfl
    rw [et, F.control_Control_Take.inv_117_done]
    have es : x.doneS p = x.enterS 2 := by unfold CS.doneS; simp [e]
    rw [es]
    exact fetched_run h.c0 hn q
  · have et : tyOf p.kind = 120 := by rw [e]; rfl
    rw [et, F.control_Control_Take.inv_120_done]
    unfold F.control_swapping_done
    simp
    have es : x.doneS p = x.endS p 1 := by unfold CS.doneS; simp [e]
    rw [es]
    exact (end_run h hx hk hl).mono fun r w' hr => hr.2
  · have et : tyOf p.kind = 148 := by rw [e]; rfl
    rw [et, F.control_Control_Take.inv_148_done]
    unfold F.control_backing_done
    simp
    have es : x.doneS p = x.endS p 2 := by unfold CS.doneS; simp [e]
    rw [es]
    exact (end_run h hx hk hl).mono fun r w' hr => hr.2
  · have et : tyOf p.kind = 122 := by rw [e]; rfl
    rw [et, F.control_Control_Take.inv_122_done]
    unfold F.control_looking_done
    simp
    have es : x.doneS p = x.endS p 1 := by unfold CS.doneS; simp [e]
    rw [es]
    exact (end_run h hx hk hl).mono fun r w' hr => hr.2
theorem tick_late (h : Ctl w b x v tag) (hx : x.now = some p) (hk : 1 ≤ p.kind ∧ p.kind ≤ 4) (hn : x.n ≤ 64) (hl : p.said.length ≤ 64 ∧ p.holds.length ≤ 64) (q : Value) :
    Run (invV Tryz.prog F.control_Control_Tick.inv "granary/control.late" (.iface (tyOf p.kind) q) [(.pointer (some ⟨b, 0, none⟩))]) w fun r w' => Did w w' b tag (x.lateS p).1 r (x.lateS p).2 := by
  rcases (by omega : p.kind = 1 ∨ p.kind = 2 ∨ p.kind = 3 ∨ p.kind = 4) with e | e | e | e
  · have et : tyOf p.kind = 117 := by rw [e]; rfl
    rw [et, F.control_Control_Tick.inv_117_late]
    unfold F.control_fetching_late
    simp
    have es : x.lateS p = x.enterS 3 := by unfold CS.lateS; simp [e]
    rw [es]
    exact back_run h.c0 hn
  · have et : tyOf p.kind = 120 := by rw [e]; rfl
    rw [et, F.control_Control_Tick.inv_120_late]
    unfold F.control_swapping_late
    simp
    have es : x.lateS p = x.enterS 3 := by unfold CS.lateS; simp [e]
    rw [es]
    exact back_run h.c0 hn
  · have et : tyOf p.kind = 148 := by rw [e]; rfl
    rw [et, F.control_Control_Tick.inv_148_late]
    unfold F.control_backing_late
    simp
    have es : x.lateS p = x.endS p 3 := by unfold CS.lateS; simp [e]
    rw [es]
    exact (end_run h hx hk hl).mono fun r w' hr => hr.2
  · have et : tyOf p.kind = 122 := by rw [e]; rfl
    rw [et, F.control_Control_Tick.inv_122_late]
    unfold F.control_looking_late
    simp
    have es : x.lateS p = x.endS p 3 := by unfold CS.lateS; simp [e]
    rw [es]
    exact (end_run h hx hk hl).mono fun r w' hr => hr.2
theorem stop_stopped (h : Ctl w b x v tag) (hx : x.now = some p) (hk : 1 ≤ p.kind ∧ p.kind ≤ 4) (hn : x.n ≤ 64) (hl : p.said.length ≤ 64 ∧ p.holds.length ≤ 64) (q : Value) :
    Run (invV Tryz.prog F.control_Control_Stop.inv "granary/control.stopped" (.iface (tyOf p.kind) q) [(.pointer (some ⟨b, 0, none⟩))]) w fun r w' => Did w w' b tag (x.stoppedS p).1 r (x.stoppedS p).2 := by
  rcases (by omega : p.kind = 1 ∨ p.kind = 2 ∨ p.kind = 3 ∨ p.kind = 4) with e | e | e | e
  · have et : tyOf p.kind = 117 := by rw [e]; rfl
    rw [et, F.control_Control_Stop.inv_117_stopped]
    unfold F.control_fetching_stopped
    simp
    have es : x.stoppedS p = x.enterS 3 := by unfold CS.stoppedS; simp [e]
    rw [es]
    exact back_run h.c0 hn
  · have et : tyOf p.kind = 120 := by rw [e]; rfl
    rw [et, F.control_Control_Stop.inv_120_stopped]
    unfold F.control_swapping_stopped
    simp
    have es : x.stoppedS p = x.enterS 3 := by unfold CS.stoppedS; simp [e]
    rw [es]
    exact back_run h.c0 hn
  · have et : tyOf p.kind = 148 := by rw [e]; rfl
    rw [et, F.control_Control_Stop.inv_148_stopped]
    unfold F.control_backing_stopped
    simp
    have es : x.stoppedS p = (x, []) := by unfold CS.stoppedS; simp [e]
    rw [es]
    exact Did.none h (Fr.refl _ _)
  · have et : tyOf p.kind = 122 := by rw [e]; rfl
    rw [et, F.control_Control_Stop.inv_122_stopped]
    unfold F.control_looking_stopped
    simp
    have es : x.stoppedS p = x.endS p 3 := by unfold CS.stoppedS; simp [e]
    rw [es]
    exact (end_run h hx hk hl).mono fun r w' hr => hr.2
theorem take_fits (x : CS) {p : Ph} (hk : 1 ≤ p.kind ∧ p.kind ≤ 4) (m : Ms) (q : Value) :
    Run (invV Tryz.prog F.control_Control_Take.inv "granary/control.fits" (.iface (tyOf p.kind) q) [x.orderV, m.val]) w fun r w' => r = .bool (x.fits p m) ∧ Fr (fun _ => False) w w' := by
  rcases (by omega : p.kind = 1 ∨ p.kind = 2 ∨ p.kind = 3 ∨ p.kind = 4) with e | e | e | e
  · have et : tyOf p.kind = 117 := by rw [e]; rfl
    rw [et, F.control_Control_Take.inv_117_fits]
    unfold F.control_fetching_fits
    simp [Ms.val]
    refine Run_new fun c w1 hc hcw f1 hle => ?_
    refine Run_new fun d w2 hd hdw f2 hle2 => ?_
    have hc2 : bk w2 c = some [.int .i64 x.job, .int .i64 x.kind, .int .i64 x.ver] := f2.bk_some hc id
    have hd2 : bk w2 d = some m.cells := hd
    have hf : Fr (fun _ => False) w w2 := f1.trans f2 fun _ _ => id
    simp [hd2, hc2, Ms.cells]
    unfold CS.fits
    simp [e]
    by_cases h1 : m.kind = 4 <;> by_cases h2 : m.epoch = x.job <;> by_cases h3 : m.version = x.ver <;> simp [hd2, hc2, Ms.cells, h1, h2, h3, hf]
  · have et : tyOf p.kind = 120 := by rw [e]; rfl
    rw [et, F.control_Control_Take.inv_120_fits]
    unfold F.control_swapping_fits
    simp [Ms.val]
    refine Run_new fun c w1 hc hcw f1 hle => ?_
    refine Run_new fun d w2 hd hdw f2 hle2 => ?_
    have hc2 : bk w2 c = some [.int .i64 x.job, .int .i64 x.kind, .int .i64 x.ver] := f2.bk_some hc id
    have hd2 : bk w2 d = some m.cells := hd
    have hf : Fr (fun _ => False) w w2 := f1.trans f2 fun _ _ => id
    simp [hd2, hc2, Ms.cells]
    unfold CS.fits
    simp [e]
    by_cases h1 : m.kind = 6 <;> by_cases h2 : m.epoch = x.job <;> by_cases h3 : m.seq = 1 <;> by_cases h4 : m.code = 0 <;> by_cases h5 : m.version = x.ver <;> simp [hd2, hc2, Ms.cells, h1, h2, h3, h4, h5, hf]
  · have et : tyOf p.kind = 148 := by rw [e]; rfl
    rw [et, F.control_Control_Take.inv_148_fits]
    unfold F.control_backing_fits
    simp [Ms.val]
    refine Run_new fun c w1 hc hcw f1 hle => ?_
    refine Run_new fun d w2 hd hdw f2 hle2 => ?_
    have hc2 : bk w2 c = some [.int .i64 x.job, .int .i64 x.kind, .int .i64 x.ver] := f2.bk_some hc id
    have hd2 : bk w2 d = some m.cells := hd
    have hf : Fr (fun _ => False) w w2 := f1.trans f2 fun _ _ => id
    simp [hd2, hc2, Ms.cells]
    unfold CS.fits
    simp [e]
    by_cases h1 : m.kind = 8 <;> by_cases h2 : m.epoch = x.job <;> by_cases h3 : m.seq = 2 <;> simp [hd2, hc2, Ms.cells, h1, h2, h3, hf]
  · have et : tyOf p.kind = 122 := by rw [e]; rfl
    rw [et, F.control_Control_Take.inv_122_fits]
    unfold F.control_looking_fits
    simp [Ms.val]
    refine Run_new fun c w1 hc hcw f1 hle => ?_
    refine Run_new fun d w2 hd hdw f2 hle2 => ?_
    have hc2 : bk w2 c = some [.int .i64 x.job, .int .i64 x.kind, .int .i64 x.ver] := f2.bk_some hc id
    have hd2 : bk w2 d = some m.cells := hd
    have hf : Fr (fun _ => False) w w2 := f1.trans f2 fun _ _ => id
    simp [hd2, hc2, Ms.cells]
    unfold CS.fits
    simp [e]
    exact hf
theorem take_book {k pb : Nat} (hk : 1 ≤ k ∧ k ≤ 4) {Q : Value → World → Prop} :
    Run (invV Tryz.prog F.control_Control_Take.inv "granary/control.book" (.iface (tyOf k) (.pointer (some ⟨pb, 0, none⟩))) []) w Q ↔ Q (.pointer (some ⟨pb, 0, none⟩)) w := by
  rcases (by omega : k = 1 ∨ k = 2 ∨ k = 3 ∨ k = 4) with rfl | rfl | rfl | rfl
  · show Run (invV Tryz.prog F.control_Control_Take.inv "granary/control.book" (.iface 117 _) []) w Q ↔ _
    rw [F.control_Control_Take.inv_117_book]; simp [F.control_ledger_book]
  · show Run (invV Tryz.prog F.control_Control_Take.inv "granary/control.book" (.iface 120 _) []) w Q ↔ _
    rw [F.control_Control_Take.inv_120_book]; simp [F.control_ledger_book]
  · show Run (invV Tryz.prog F.control_Control_Take.inv "granary/control.book" (.iface 148 _) []) w Q ↔ _
    rw [F.control_Control_Take.inv_148_book]; simp [F.control_ledger_book]
  · show Run (invV Tryz.prog F.control_Control_Take.inv "granary/control.book" (.iface 122 _) []) w Q ↔ _
    rw [F.control_Control_Take.inv_122_book]; simp [F.control_ledger_book]
theorem tick_book {k pb : Nat} (hk : 1 ≤ k ∧ k ≤ 4) {Q : Value → World → Prop} :
    Run (invV Tryz.prog F.control_Control_Tick.inv "granary/control.book" (.iface (tyOf k) (.pointer (some ⟨pb, 0, none⟩))) []) w Q ↔ Q (.pointer (some ⟨pb, 0, none⟩)) w := by
  rcases (by omega : k = 1 ∨ k = 2 ∨ k = 3 ∨ k = 4) with rfl | rfl | rfl | rfl
  · show Run (invV Tryz.prog F.control_Control_Tick.inv "granary/control.book" (.iface 117 _) []) w Q ↔ _
    rw [F.control_Control_Tick.inv_117_book]; simp [F.control_ledger_book]
  · show Run (invV Tryz.prog F.control_Control_Tick.inv "granary/control.book" (.iface 120 _) []) w Q ↔ _
    rw [F.control_Control_Tick.inv_120_book]; simp [F.control_ledger_book]
  · show Run (invV Tryz.prog F.control_Control_Tick.inv "granary/control.book" (.iface 148 _) []) w Q ↔ _
    rw [F.control_Control_Tick.inv_148_book]; simp [F.control_ledger_book]
  · show Run (invV Tryz.prog F.control_Control_Tick.inv "granary/control.book" (.iface 122 _) []) w Q ↔ _
    rw [F.control_Control_Tick.inv_122_book]; simp [F.control_ledger_book]
theorem revive_book {k pb : Nat} (hk : 1 ≤ k ∧ k ≤ 4) {Q : Value → World → Prop} :
    Run (invV Tryz.prog F.control_Control_Revive.inv "granary/control.book" (.iface (tyOf k) (.pointer (some ⟨pb, 0, none⟩))) []) w Q ↔ Q (.pointer (some ⟨pb, 0, none⟩)) w := by
  rcases (by omega : k = 1 ∨ k = 2 ∨ k = 3 ∨ k = 4) with rfl | rfl | rfl | rfl
  · show Run (invV Tryz.prog F.control_Control_Revive.inv "granary/control.book" (.iface 117 _) []) w Q ↔ _
    rw [F.control_Control_Revive.inv_117_book]; simp [F.control_ledger_book]
  · show Run (invV Tryz.prog F.control_Control_Revive.inv "granary/control.book" (.iface 120 _) []) w Q ↔ _
    rw [F.control_Control_Revive.inv_120_book]; simp [F.control_ledger_book]
  · show Run (invV Tryz.prog F.control_Control_Revive.inv "granary/control.book" (.iface 148 _) []) w Q ↔ _
    rw [F.control_Control_Revive.inv_148_book]; simp [F.control_ledger_book]
  · show Run (invV Tryz.prog F.control_Control_Revive.inv "granary/control.book" (.iface 122 _) []) w Q ↔ _
    rw [F.control_Control_Revive.inv_122_book]; simp [F.control_ledger_book]
end

end Go.Proofs.YtpiceodfdjihhaaGreatDoor
