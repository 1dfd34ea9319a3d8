/-
  Layer 15 (control), part G: the calls.
-/
import Derived.Test.YtpiceodfdjihhaaGreatDoorCtlF
namespace Go.Proofs.YtpiceodfdjihhaaGreatDoor
open Go.Lift
set_option linter.unusedSimpArgs false

/-- What a call answers. -/
def Got_ (w w' : World) (b : Nat) (tag : Nat → Nat) (a : Ans) (res : Value) : Prop := ∃ r, res = .tuple #[r, .int .i64 a.err] ∧ Did w w' b tag a.x r a.out

section
variable {w : World} {b : Nat} {x : CS} {v : CV} {tag : Nat → Nat}
theorem cells_len (x : CS) (v : CV) : (x.cells v).length = 15 := rfl
theorem face_some {p : Ph} (hx : x.now = some p) : (x.cells v)[7]? = some (.iface (tyOf p.kind) (.pointer (some ⟨v.p, 0, none⟩))) := by simp [CS.cells, CS.face, hx]
theorem face_none (hx : x.now = none) : (x.cells v)[7]? = some .nilIface := by simp [CS.cells, CS.face, hx]
theorem c0_ (x : CS) (v : CV) : (x.cells v)[0]? = some (.int .i64 x.n) := rfl
theorem c1_ (x : CS) (v : CV) : (x.cells v)[1]? = some (.int .i64 x.resend) := rfl
theorem c2_ (x : CS) (v : CV) : (x.cells v)[2]? = some (.int .i64 x.limit) := rfl
theorem c3_ (x : CS) (v : CV) : (x.cells v)[3]? = some (.int .i64 x.patience) := rfl
theorem c4_ (x : CS) (v : CV) : (x.cells v)[4]? = some (.int .i64 x.job) := rfl
theorem c5_ (x : CS) (v : CV) : (x.cells v)[5]? = some (.int .i64 x.kind) := rfl
theorem c6_ (x : CS) (v : CV) : (x.cells v)[6]? = some (.int .i64 x.ver) := rfl
theorem c8_ (x : CS) (v : CV) : (x.cells v)[8]? = some (.bool x.ended) := rfl
theorem cord (x : CS) (v : CV) : (.agg (List.take 3 (List.drop 4 (x.cells v))).toArray : Value) = x.orderV := rfl

theorem busy_run (h : Ctl w b x v tag) {Q : Value → World → Prop} : Run (F.control_Control_Busy (.pointer (some ⟨b, 0, none⟩))) w Q ↔ Q (.bool x.now.isSome) w := by
  unfold F.control_Control_Busy
  have hb := h.c0.blk
  cases hx : x.now with
  | none => simp [hb, face_none hx]
  | some p => simp [hb, face_some hx]

theorem stop_run (h : Ctl w b x v tag) (hok : COk x) : Run (F.control_Control_Stop (.pointer (some ⟨b, 0, none⟩))) w fun r w' => Got_ w w' b tag x.stopS r := by
  unfold F.control_Control_Stop
  have hb := h.c0.blk
  cases hx : x.now with
  | none =>
    simp [hb, face_none hx]
    rw [show x.stopS = ⟨x, [], 151⟩ from by unfold CS.stopS; rw [hx]]
    exact ⟨_, rfl, Did.none h (Fr.refl _ _)⟩
  | some p =>
    have hp := hok.now p hx
    simp [hb, face_some hx]
    refine (stop_stopped h hx hp.kind hok.n.2 ⟨by rw [hp.said]; exact hok.n.2, by rw [hp.holds]; exact hok.n.2⟩ _).mono ?_
    intro r w' hd
    rw [show x.stopS = ⟨(x.stoppedS p).1, (x.stoppedS p).2, 0⟩ from by unfold CS.stopS; rw [hx]]
    exact ⟨r, rfl, hd⟩

theorem revive_run (h : Ctl w b x v tag) (hok : COk x) : Run (F.control_Control_Revive (.pointer (some ⟨b, 0, none⟩))) w fun r w' => Got_ w w' b tag x.reviveS r := by
  unfold F.control_Control_Revive
  have hb := h.c0.blk
  cases hx : x.now with
  | none =>
    simp [hb, face_none hx]
    rw [show x.reviveS = ⟨x, [], 151⟩ from by unfold CS.reviveS; rw [hx]]
    exact ⟨_, rfl, Did.none h (Fr.refl _ _)⟩
  | some p =>
    have hp := hok.now p hx
    have hcp := h.now p hx
    simp [hb, face_some hx, c5_]
    refine Run_cond (fun hk => ?_) (fun hk => ?_)
    · have hk' : x.kind = 3 := by simpa using hk
      rw [show x.reviveS = ⟨(x.endS (Ph.new 4 x.n) 3).1, [], 0⟩ from by unfold CS.reviveS; rw [hx]; simp [hk']]
      have dr : Fr (fun _ => False) w w.drew := (Fr.refl _ _).drew
      simp [hb, face_some hx, c0_, revive_book hp.kind]
      refine (newLedger_run (n := x.n) (by have := hok.n.2; omega)).mono ?_
      rintro _ w1 ⟨sv, hv, rfl, hf⟩
      have f1 : Fr (fun _ => False) w w1 := dr.trans hf.fr fun _ _ => id
      have hp1 : bk w1 v.p = some (p.cells v) := f1.bk_some hcp.blk id
      have hwp : wr w1 v.p = true := by rw [f1.wr (bk_lt hcp.blk) id]; exact hcp.wr
      have hpl : (p.cells v).length = 4 := rfl
      simp [hp1, hwp, hpl, hf.said.1.isCell, hf.holds.1.isCell]
      refine ⟨cell4 hf.said.1.isCell hf.holds.1.isCell, ?_⟩
      have f2 : Fr (fun c => c = v.p) w1 (sto w1 v.p 0 [sv, hv, Value.int .i64 0, Value.int .i64 1]) := (Fr.refl (fun c => c = v.p) w1).sto (.inl rfl) _ _
      have hp2 : bk (sto w1 v.p 0 [sv, hv, Value.int .i64 0, Value.int .i64 1]) v.p = some [sv, hv, Value.int .i64 0, Value.int .i64 1] := by simp [hp1]; rfl
      have hw2 : wr (sto w1 v.p 0 [sv, hv, Value.int .i64 0, Value.int .i64 1]) v.p = true := by simp [hwp]
      generalize sto w1 v.p 0 [sv, hv, Value.int .i64 0, Value.int .i64 1] = w2 at *
      have hbp : b ≠ v.p := fun he => by have := hcp.tp; rw [← he, h.c0.tb] at this; cases this
      have hblt := bk_lt hb
      have z : ∀ c, w.heap.size ≤ c → tag c = 0 := fun c hc => Classical.byContradiction fun h' => by have := h.c0.bound c h'; omega
      have hdr : w.drew.heap.size = w.heap.size := rfl
      have n1 : ∀ c, inB sv c → w.heap.size ≤ c ∧ c < w1.heap.size := hf.ns
      have n2 : ∀ c, inB hv c → w.heap.size ≤ c ∧ c < w1.heap.size := hf.nh
      have hplt : v.p < w.heap.size := bk_lt hcp.blk
      have g2 : Fr (fun c => c = v.p) w w2 := (f1.mono fun _ h => h.elim).trans f2 fun _ _ h => h
      have hF : ∀ c, c = v.p → tag c = 2 := fun c he => by rw [he]; exact hcp.tp
      have l1 := f1.size
      have l2 := f2.size
      have hC : Ctl w2 b { x with now := some { Ph.new 4 x.n with kind := p.kind } } { v with sv := sv, hv := hv } (mkTag tag v.p sv hv) := by
        refine ⟨⟨?_, ?_, ?_, fun c hc => ?_, ⟨?_, fun c hc => ?_⟩, ⟨?_, fun c hc => ?_⟩⟩, fun q hq => ?_⟩
        · rw [show (({ x with now := some { Ph.new 4 x.n with kind := p.kind } } : CS).cells { v with sv := sv, hv := hv }) = x.cells v from by simp [CS.cells, CS.face, hx]]
          exact g2.bk_some hb fun he => hbp he
        · rw [g2.wr hblt fun he => hbp he]; exact h.c0.wr
        · have h1 : ¬ inB sv b := fun hc => by have := (n1 b hc).1; omega
          have h2 : ¬ inB hv b := fun hc => by have := (n2 b hc).1; omega
          simp [mkTag, hbp, h1, h2, h.c0.tb]
        · unfold mkTag at hc
          split at hc
          · omega
          · split at hc
            · rename_i hq; have := (n1 c hq).2; omega
            · split at hc
              · rename_i hq; have := (n2 c hq).2; omega
              · split at hc
                · have := h.c0.bound c hc; omega
                · exact absurd rfl hc
        · exact h.c0.lh.1.fr g2 fun c hc he => by have := h.c0.lh.2 c hc; rw [hF c he] at this; cases this
        · have h5 := h.c0.lh.2 c hc
          have hlt := h.c0.bound c (by rw [h5]; decide)
          have h1 : ¬ inB sv c := fun hq => by have := (n1 c hq).1; omega
          have h2 : ¬ inB hv c := fun hq => by have := (n2 c hq).1; omega
          have h3 : c ≠ v.p := fun he => by rw [hF c he] at h5; cases h5
          simp [mkTag, h1, h2, h3, h5]
        · exact h.c0.lm.1.fr g2 fun c hc he => by have := h.c0.lm.2 c hc; rw [hF c he] at this; cases this
        · have h5 := h.c0.lm.2 c hc
          have hlt := h.c0.bound c (by rw [h5]; decide)
          have h1 : ¬ inB sv c := fun hq => by have := (n1 c hq).1; omega
          have h2 : ¬ inB hv c := fun hq => by have := (n2 c hq).1; omega
          have h3 : c ≠ v.p := fun he => by rw [hF c he] at h5; cases h5
          simp [mkTag, h1, h2, h3, h5]
        · cases hq
          refine ⟨hp2, hw2, by simp [mkTag], hf.said.fr f2 fun c hc he => by have := (n1 c hc).1; omega, fun c hc => ?_, hf.holds.fr f2 fun c hc he => by have := (n2 c hc).1; omega, fun c hc => ?_⟩
          · have := (n1 c hc).1
            simp [mkTag, show c ≠ v.p by omega, hc]
          · have h1 : ¬ inB sv c := fun hq => hf.apart c hq hc
            have := (n2 c hc).1
            simp [mkTag, show c ≠ v.p by omega, h1, hc]
      refine (end_run (o := 3) hC rfl hp.kind (by simpa [Ph.new] using hok.n.2)).mono ?_
      rintro r w' ⟨_, hd⟩
      refine ⟨r, rfl, ?_⟩
      exact hd.sub2 (g2.mono fun c he => by rw [hF c he]; decide) fun c hc => by
        unfold mkTag at hc
        split at hc
        · rename_i he; left; rw [hF c he]; decide
        · split at hc
          · rename_i hq; exact .inr (n1 c hq).1
          · split at hc
            · rename_i hq; exact .inr (n2 c hq).1
            · split at hc
              · exact .inl hc
              · exact absurd rfl hc
    · have hk' : ¬ x.kind = 3 := by simpa using hk
      rw [show x.reviveS = ⟨(x.enterS 3).1, (x.enterS 3).2, 0⟩ from by unfold CS.reviveS; rw [hx]; simp [hk']]
      simp
      refine (back_run h.c0 hok.n.2).mono ?_
      intro r w' hd
      exact ⟨r, rfl, hd⟩

theorem sent_run (h : Ctl w b x v tag) {p : Ph} (hx : x.now = some p) (hk : 1 ≤ p.kind ∧ p.kind ≤ 4) (hn : p.said.length ≤ 64) : Run (F.control_Control_send (.pointer (some ⟨b, 0, none⟩))) w fun r w' => Did w w' b tag x r x.sendS := by
  have hp := h.now p hx
  refine (send_run h.c0.blk hx hk hp.blk hp.said hn).mono ?_
  rintro r w' ⟨f, s, n⟩
  refine ⟨f.mono fun _ h => h.elim, ⟨v, tag, h.fr0 f, fun _ h => .inl h, fun c hc => ?_⟩, s, n⟩
  exact Classical.byContradiction fun h' => by have := h.c0.bound c h'; have := (n c hc).1; omega
theorem Ctl.phase {p p' : Ph} (h : Ctl w b x v tag) (hx : x.now = some p) {o : Nat} {vs : List Value} (hk : p'.kind = p.kind) (hs : p'.said = p.said) (hh : p'.holds = p.holds) (hc : setL (p.cells v) o vs = p'.cells v) :
    Ctl (sto w v.p o vs) b { x with now := some p' } v tag := by
  have hp := h.now p hx
  have f : Fr (fun c => c = v.p) w (sto w v.p o vs) := (Fr.refl (fun c => c = v.p) w).sto (.inl rfl) _ _
  have hF : ∀ c, c = v.p → tag c = 2 := fun c he => by rw [he]; exact hp.tp
  have h1 := h.c0.fr f fun c he => by rw [hF c he]; decide
  refine ⟨⟨?_, h1.wr, h1.tb, h1.bound, h1.lh, h1.lm⟩, fun q hq => ?_⟩
  · have := h1.blk
    rw [show (({ x with now := some p' } : CS).cells v) = x.cells v from by simp [CS.cells, CS.face, hx, hk]]
    exact this
  · cases hq
    refine ⟨by rw [bk_sto_eq, hp.blk, Option.map_some, hc], by simpa using hp.wr, hp.tp, ?_, hp.ts, ?_, hp.th⟩
    · rw [hs]; exact hp.said.fr f fun c hc he => by have := hp.ts c hc; rw [hF c he] at this; cases this
    · rw [hh]; exact hp.holds.fr f fun c hc he => by have := hp.th c hc; rw [hF c he] at this; cases this
theorem due_run {pb r t : Nat} {l : List Value} (hb : bk w pb = some l) (ht : l[2]? = some (.int .i64 t)) (hr : 1 ≤ r) {Q : Value → World → Prop} :
    Run (F.control_ledger_due (.pointer (some ⟨pb, 0, none⟩)) (.int .i64 r)) w Q ↔ Q (.bool (decide (t % r = 0))) w := by
  unfold F.control_ledger_due
  have hr' : ¬ (r = 0) := by omega
  have e : decide ((t : Int).tmod r = 0) = decide (t % r = 0) := by
    rw [← Int.ofNat_tmod]
    simp only [decide_eq_decide]
    omega
  simp [hb, ht, hr', e]
theorem asr_run (k : Nat) (hk : 1 ≤ k ∧ k ≤ 4) (q : Value) : asrV true (Value.pointer none) 117 (.iface (tyOf k) q) = some (if k = 1 then .tuple #[q, .bool true] else .tuple #[.pointer none, .bool false]) := by
  rcases (by omega : k = 1 ∨ k = 2 ∨ k = 3 ∨ k = 4) with rfl | rfl | rfl | rfl <;> rfl

theorem tick_run (h : Ctl w b x v tag) (hok : COk x) : Run (F.control_Control_Tick (.pointer (some ⟨b, 0, none⟩))) w fun r w' => Got_ w w' b tag ⟨x.tickS.1, x.tickS.2, 0⟩ r := by
  unfold F.control_Control_Tick
  have hb := h.c0.blk
  cases hx : x.now with
  | none =>
    simp [hb, face_none hx]
    rw [show x.tickS = (x, []) from by unfold CS.tickS; rw [hx]]
    exact ⟨_, rfl, Did.none h (Fr.refl _ _)⟩
  | some p =>
    have hp := hok.now p hx
    have hcp := h.now p hx
    have hpt : p.ticks < 65536 := by
      by_cases h1 : p.kind = 1
      · have := hp.fetch h1; have := hok.patience.2; omega
      · have := (hp.rest h1).1; have := hok.rl.2; omega
    have wk := wrap_succ (n := p.ticks) (by omega)
    have hF : ∀ c, c = v.p → tag c = 2 := fun c he => by rw [he]; exact hcp.tp
    have f1 : Fr (fun c => tag c ≠ 0) w (sto w v.p 2 [Value.int .i64 ((p.ticks : Int) + 1)]) := (Fr.refl (fun c => tag c ≠ 0) w).sto (.inl (by rw [hcp.tp]; decide)) _ _
    have hC : Ctl (sto w v.p 2 [Value.int .i64 ((p.ticks : Int) + 1)]) b { x with now := some { p with ticks := p.ticks + 1 } } v tag := h.phase hx (p' := { p with ticks := p.ticks + 1 }) rfl rfl rfl rfl
    have hpb : bk w v.p = some [v.sv, v.hv, .int .i64 p.ticks, .int .i64 p.sends] := hcp.blk
    have hbp : b ≠ v.p := fun he => by have := hcp.tp; rw [← he, h.c0.tb] at this; cases this
    have hsn : p.said.length ≤ 64 := by rw [hp.said]; exact hok.n.2
    have hhn : p.holds.length ≤ 64 := by rw [hp.holds]; exact hok.n.2
    have hpb1 : bk (sto w v.p 2 [Value.int .i64 ((p.ticks : Int) + 1)]) v.p = some [v.sv, v.hv, .int .i64 ((p.ticks : Int) + 1), .int .i64 p.sends] := by simp [hpb]
    have hb1 : bk (sto w v.p 2 [Value.int .i64 ((p.ticks : Int) + 1)]) b = some (x.cells v) := by rw [bk_sto, if_neg hbp]; exact hb
    have hw1 : wr (sto w v.p 2 [Value.int .i64 ((p.ticks : Int) + 1)]) v.p = true := by simp [hcp.wr]
    have hr := hok.resend.1
    by_cases hk : p.kind = 1
    · simp [hb, face_some hx, asr_run _ hp.kind]
      rw [if_pos hk]
      simp [hb, hpb, hcp.wr, wk, bk_sto, hbp, c3_]
      generalize sto w v.p 2 [Value.int .i64 ((p.ticks : Int) + 1)] = w1 at *
      have dr : Fr (fun _ => False) w1 w1.drew := (Fr.refl _ _).drew
      have f1' : Fr (fun c => tag c ≠ 0) w w1.drew := f1.drew
      have hC1 := hC.fr0 dr
      refine Run_cond (fun hh => ?_) (fun hh => ?_)
      · have hh' : x.patience ≤ p.ticks + 1 := by simp at hh; omega
        rw [show x.tickS = ({ x with now := some { p with ticks := p.ticks + 1 } } : CS).enterS 3 from by unfold CS.tickS; rw [hx]; simp [hk, hh', CS.lateS]]
        simp [F.control_fetching_late]
        refine (back_run hC1.c0 hok.n.2).mono ?_
        intro r w' hd
        exact ⟨r, rfl, hd.sub f1'⟩
      · have hh' : ¬ x.patience ≤ p.ticks + 1 := by simp at hh; omega
        simp [hb1, c1_]
        rw [due_run (w := w1.drew.drew) (t := p.ticks + 1) hpb1 rfl hr]
        refine Run_cond (fun hd => ?_) (fun hd => ?_)
        · have hd' : (p.ticks + 1) % x.resend = 0 := by simpa using hd
          rw [show x.tickS = (({ x with now := some { p with ticks := p.ticks + 1 } } : CS), ({ x with now := some { p with ticks := p.ticks + 1 } } : CS).sendS) from by unfold CS.tickS; rw [hx]; simp [hk, hh', hd']]
          simp
          refine (sent_run (hC1.fr0 (Fr.refl _ _).drew) rfl hp.kind hsn).mono ?_
          intro r w' hd
          exact ⟨r, rfl, hd.sub f1'.drew⟩
        · have hd' : ¬ (p.ticks + 1) % x.resend = 0 := by simpa using hd
          rw [show x.tickS = (({ x with now := some { p with ticks := p.ticks + 1 } } : CS), []) from by unfold CS.tickS; rw [hx]; simp [hk, hh', hd']]
          simp
          exact ⟨_, rfl, (Did.none (hC1.fr0 (Fr.refl _ _).drew) (Fr.refl _ _)).sub f1'.drew⟩
    · simp [hb, face_some hx, asr_run _ hp.kind]
      rw [if_neg hk]
      simp [hb, face_some hx, hpb, hcp.wr, wk, bk_sto, hbp, c1_, tick_book hp.kind]
      generalize sto w v.p 2 [Value.int .i64 ((p.ticks : Int) + 1)] = w1 at *
      rw [due_run (t := p.ticks + 1) hpb1 rfl hr]
      simp
      refine Run_cond (fun hd => ?_) (fun hd => ?_)
      · have hd' : (p.ticks + 1) % x.resend = 0 := by simpa using hd
        have dr : Fr (fun _ => False) w1 w1.drew := (Fr.refl _ _).drew
        simp [hpb1, hb1, c2_]
        refine Run_cond (fun hl => ?_) (fun hl => ?_)
        · have hl' : x.limit ≤ p.sends := by simpa using hl
          rw [show x.tickS = ({ x with now := some { p with ticks := p.ticks + 1 } } : CS).lateS { p with ticks := p.ticks + 1 } from by unfold CS.tickS; rw [hx]; simp [hk, hd', hl']]
          simp [hb1, face_some hx]
          refine (tick_late (p := { p with ticks := p.ticks + 1 }) (hC.fr0 dr) rfl hp.kind hok.n.2 ⟨hsn, hhn⟩ _).mono ?_
          intro r w' hd
          exact ⟨r, rfl, hd.sub f1.drew⟩
        · have hl' : ¬ x.limit ≤ p.sends := by simpa using hl
          have ws := wrap_succ (n := p.sends) (by have := hok.limit.2; omega)
          rw [show x.tickS = (({ x with now := some { p with ticks := p.ticks + 1, sends := p.sends + 1 } } : CS), ({ x with now := some { p with ticks := p.ticks + 1, sends := p.sends + 1 } } : CS).sendS) from by unfold CS.tickS; rw [hx]; simp [hk, hd', hl']]
          simp [hpb1, hw1, ws]
          have hC2 : Ctl (sto w1.drew v.p 3 [Value.int .i64 ((p.sends : Int) + 1)]) b { x with now := some { p with ticks := p.ticks + 1, sends := p.sends + 1 } } v tag :=
            (hC.fr0 dr).phase rfl (p' := { p with ticks := p.ticks + 1, sends := p.sends + 1 }) rfl rfl rfl rfl
          have f2 : Fr (fun c => tag c ≠ 0) w (sto w1.drew v.p 3 [Value.int .i64 ((p.sends : Int) + 1)]) := f1.drew.sto (.inl (by rw [hcp.tp]; decide)) _ _
          refine (sent_run hC2 rfl hp.kind hsn).mono ?_
          intro r w' hd
          exact ⟨r, rfl, hd.sub f2⟩
      · have hd' : ¬ (p.ticks + 1) % x.resend = 0 := by simpa using hd
        rw [show x.tickS = (({ x with now := some { p with ticks := p.ticks + 1 } } : CS), []) from by unfold CS.tickS; rw [hx]; simp [hk, hd']]
        simp
        exact ⟨_, rfl, (Did.none hC (Fr.refl _ _)).sub f1⟩
end

end Go.Proofs.YtpiceodfdjihhaaGreatDoor
