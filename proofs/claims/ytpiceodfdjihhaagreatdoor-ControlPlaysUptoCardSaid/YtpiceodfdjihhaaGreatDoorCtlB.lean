/-
  Layer 15 (control), part B: what holds of a controller's state, and that its calls keep it; how long a job may last. Plain data, no program.
-/
import Derived.Test.YtpiceodfdjihhaaGreatDoorCtlA
namespace Go.Proofs.YtpiceodfdjihhaaGreatDoor
open Go.Lift

structure POk (x : CS) (p : Ph) : Prop where
  kind : 1 ≤ p.kind ∧ p.kind ≤ 4
  said : p.said.length = x.n
  holds : p.holds.length = x.n
  open_ : false ∈ p.said
  look : x.kind = 3 ↔ p.kind = 4
  fetch : p.kind = 1 → p.ticks < x.patience
  rest : p.kind ≠ 1 → p.ticks < x.resend * x.limit ∧ p.sends = 1 + p.ticks / x.resend
structure COk (x : CS) : Prop where
  n : 1 ≤ x.n ∧ x.n ≤ 64
  resend : 1 ≤ x.resend ∧ x.resend ≤ 1024
  limit : 1 ≤ x.limit ∧ x.limit ≤ 64
  patience : 1 ≤ x.patience ∧ x.patience ≤ 65536
  job : 0 ≤ x.job ∧ x.job ≤ 9007199254740992
  now : ∀ p, x.now = some p → POk x p
  last : x.last.holds.length ≤ 64 ∧ x.last.missing.length ≤ 64

theorem COk.rl {x : CS} (h : COk x) : 1 ≤ x.resend * x.limit ∧ x.resend * x.limit ≤ 65536 :=
  ⟨Nat.mul_pos h.resend.1 h.limit.1, Nat.mul_le_mul h.resend.2 h.limit.2⟩

/-- The state but for the phase, the job, the report. -/
structure Same (x y : CS) : Prop where
  n : y.n = x.n
  resend : y.resend = x.resend
  limit : y.limit = x.limit
  patience : y.patience = x.patience
theorem Same.refl (x : CS) : Same x x := ⟨rfl, rfl, rfl, rfl⟩
theorem Same.trans {x y z : CS} (h : Same x y) (h' : Same y z) : Same x z := ⟨h'.n.trans h.n, h'.resend.trans h.resend, h'.limit.trans h.limit, h'.patience.trans h.patience⟩

theorem COk.enterS {x : CS} (h : COk x) {k : Nat} (hk : 1 ≤ k ∧ k ≤ 4) (hl : x.kind = 3 ↔ k = 4) : COk (x.enterS k).1 := by
  refine ⟨h.n, h.resend, h.limit, h.patience, h.job, fun p hp => ?_, h.last⟩
  cases hp
  have := h.rl
  refine ⟨hk, by simp [Ph.new, CS.enterS], by simp [Ph.new, CS.enterS], ?_, hl, fun _ => h.patience.1, fun _ => ⟨this.1, by simp [Ph.new]⟩⟩
  simp [Ph.new]
  have := h.n.1
  omega
theorem COk.endS {x : CS} (h : COk x) {p : Ph} (hp : p.said.length = x.n ∧ p.holds.length = x.n) (o : Int) : COk (x.endS p o).1 := by
  refine ⟨h.n, h.resend, h.limit, h.patience, h.job, (fun p hp => by cases hp), ?_⟩
  have := missK_len p.said p.said.length
  have := h.n.2
  simp only [CS.endS]
  omega
theorem COk.set {x : CS} (h : COk x) {p : Ph} (hp : POk x p) : COk { x with now := some p } :=
  ⟨h.n, h.resend, h.limit, h.patience, h.job, fun q hq => by cases hq; exact ⟨hp.kind, hp.said, hp.holds, hp.open_, hp.look, hp.fetch, hp.rest⟩, h.last⟩
/-- The phase is put in, though nobody may have to answer any more. -/
structure PIn (x : CS) (p : Ph) : Prop where
  kind : 1 ≤ p.kind ∧ p.kind ≤ 4
  said : p.said.length = x.n
  holds : p.holds.length = x.n
  look : x.kind = 3 ↔ p.kind = 4
theorem POk.in {x : CS} {p : Ph} (h : POk x p) : PIn x p := ⟨h.kind, h.said, h.holds, h.look⟩
/-- A state but for its phase. -/
structure CBase (x : CS) : Prop where
  n : 1 ≤ x.n ∧ x.n ≤ 64
  resend : 1 ≤ x.resend ∧ x.resend ≤ 1024
  limit : 1 ≤ x.limit ∧ x.limit ≤ 64
  patience : 1 ≤ x.patience ∧ x.patience ≤ 65536
  job : 0 ≤ x.job ∧ x.job ≤ 9007199254740992
  last : x.last.holds.length ≤ 64 ∧ x.last.missing.length ≤ 64
theorem COk.base {x : CS} (h : COk x) : CBase x := ⟨h.n, h.resend, h.limit, h.patience, h.job, h.last⟩
theorem CBase.set {x : CS} (h : CBase x) (o : Option Ph) : CBase { x with now := o } := ⟨h.n, h.resend, h.limit, h.patience, h.job, h.last⟩
theorem CBase.enterS {x : CS} (h : CBase x) {k : Nat} (hk : 1 ≤ k ∧ k ≤ 4) (hl : x.kind = 3 ↔ k = 4) : COk (x.enterS k).1 :=
  COk.enterS (x := { x with now := none }) ⟨h.n, h.resend, h.limit, h.patience, h.job, (fun p hp => by cases hp), h.last⟩ hk hl
theorem CBase.endS {x : CS} (h : CBase x) {p : Ph} (hp : p.said.length = x.n ∧ p.holds.length = x.n) (o : Int) : COk (x.endS p o).1 :=
  COk.endS (x := { x with now := none }) ⟨h.n, h.resend, h.limit, h.patience, h.job, (fun p hp => by cases hp), h.last⟩ hp o
theorem CBase.backS {x : CS} (h : CBase x) {p : Ph} (hp : PIn x p) (h2 : p.kind = 1 ∨ p.kind = 2) : COk (x.enterS 3).1 :=
  h.enterS (by omega) (by have := hp.look; omega)
theorem COk.refusedS {x : CS} (h : COk x) {p : Ph} (hp : PIn x p) : COk (x.refusedS p).1 := by
  unfold CS.refusedS
  split
  · rename_i h2; exact h.base.backS hp h2
  · exact h
theorem COk.stoppedS {x : CS} (h : COk x) {p : Ph} (hp : PIn x p) : COk (x.stoppedS p).1 := by
  unfold CS.stoppedS
  split
  · rename_i h2; exact h.base.backS hp h2
  · split
    · exact h
    · exact h.endS ⟨hp.said, hp.holds⟩ _
theorem CBase.doneS {x : CS} (h : CBase x) {p : Ph} (hp : PIn x p) : COk (x.doneS p).1 := by
  unfold CS.doneS
  split
  · rename_i h2; exact h.enterS (by omega) (by have := hp.look; omega)
  · exact h.endS ⟨hp.said, hp.holds⟩ _
theorem CBase.lateS {x : CS} (h : CBase x) {p : Ph} (hp : PIn x p) : COk (x.lateS p).1 := by
  unfold CS.lateS
  split
  · rename_i h2; exact h.backS hp h2
  · exact h.endS ⟨hp.said, hp.holds⟩ _
theorem COk.beginS {x : CS} (h : COk x) (k v : Int) : COk (x.beginS k v).x := by
  unfold CS.beginS
  split
  · exact h
  split
  · exact h
  rename_i hk
  split
  · exact h
  split
  · exact h
  rename_i hj
  have hk' := Classical.not_not.1 hk
  have hjb := h.job
  refine CBase.enterS (x := { x with job := x.job + 1, kind := k, ver := v }) ⟨h.n, h.resend, h.limit, h.patience, ?_, h.last⟩ ?_ ?_
  · show 0 ≤ x.job + 1 ∧ x.job + 1 ≤ 9007199254740992
    omega
  · split <;> omega
  · show k = 3 ↔ _
    split <;> omega
theorem POk.take {x : CS} {p : Ph} (h : POk x p) (m : Ms) : PIn x (p.take m) := by
  refine ⟨h.kind, by simp [Ph.take, h.said], ?_, h.look⟩
  simp only [Ph.take]
  split
  · exact h.holds
  · simp [h.holds]
theorem COk.takeS {x : CS} (h : COk x) (m : Ms) : COk (x.takeS m).1 := by
  unfold CS.takeS
  split
  · exact h
  rename_i p hp
  have hpo := h.now p hp
  split
  · exact h
  split
  · exact h
  split
  · exact h.refusedS hpo.in
  have hin := hpo.take m
  split
  · rename_i hc
    exact h.set ⟨hpo.kind, hin.said, hin.holds, by simpa using hc, hpo.look, hpo.fetch, hpo.rest⟩
  · exact (h.base.set (some (p.take m))).doneS ⟨hin.kind, hin.said, hin.holds, hin.look⟩

theorem div_step {t r : Nat} (hr : 1 ≤ r) : (t + 1) % r ≠ 0 → (t + 1) / r = t / r := by
  intro h
  have h1 := Nat.div_add_mod (t + 1) r
  have h2 := Nat.div_add_mod t r
  have h3 := Nat.mod_lt (t + 1) hr
  have h4 := Nat.mod_lt t hr
  have : (t + 1) / r = t / r := by
    rw [Nat.succ_div]
    rw [if_neg (fun hd => h (Nat.mod_eq_zero_of_dvd hd))]
    rfl
  exact this
theorem div_step0 {t r : Nat} : (t + 1) % r = 0 → (t + 1) / r = t / r + 1 := by
  intro h
  rw [Nat.succ_div, if_pos (Nat.dvd_of_mod_eq_zero h)]
theorem tick_rest {x : CS} {p : Ph} (h : COk x) (hp : POk x p) (hk : p.kind ≠ 1) :
    ((p.ticks + 1) % x.resend ≠ 0 → p.ticks + 1 < x.resend * x.limit ∧ p.sends = 1 + (p.ticks + 1) / x.resend) ∧
    ((p.ticks + 1) % x.resend = 0 → p.sends < x.limit → p.ticks + 1 < x.resend * x.limit ∧ p.sends + 1 = 1 + (p.ticks + 1) / x.resend) := by
  obtain ⟨h1, h2⟩ := hp.rest hk
  have hr := h.resend.1
  refine ⟨fun hm => ⟨?_, by rw [div_step hr hm]; exact h2⟩, fun hm hs => ⟨?_, by rw [div_step0 hm]; omega⟩⟩
  · rcases Nat.lt_or_ge (p.ticks + 1) (x.resend * x.limit) with h3 | h3
    · exact h3
    · have : p.ticks + 1 = x.resend * x.limit := by omega
      rw [this, Nat.mul_mod_right] at hm
      exact absurd rfl hm
  · have h3 := div_step0 hm
    have h4 : (p.ticks + 1) / x.resend < x.limit := by omega
    have h5 := Nat.div_add_mod (p.ticks + 1) x.resend
    rw [hm, Nat.add_zero] at h5
    rw [← h5]
    exact Nat.mul_lt_mul_of_pos_left h4 hr

theorem COk.tickS {x : CS} (h : COk x) : COk x.tickS.1 := by
  unfold CS.tickS
  split
  · exact h
  rename_i p hp
  have hpo := h.now p hp
  have hin := hpo.in
  simp only
  split
  · rename_i hk
    split
    · exact (h.base.set _).lateS ⟨hin.kind, hin.said, hin.holds, hin.look⟩
    · rename_i hpt
      have hs : COk { x with now := some { p with ticks := p.ticks + 1 } } := h.set ⟨hpo.kind, hpo.said, hpo.holds, hpo.open_, hpo.look, fun _ => by simpa using hpt, fun hn => absurd hk hn⟩
      split <;> exact hs
  · rename_i hk
    obtain ⟨t1, t2⟩ := tick_rest h hpo hk
    split
    · rename_i hm
      exact h.set ⟨hpo.kind, hpo.said, hpo.holds, hpo.open_, hpo.look, fun hn => absurd hn hk, fun _ => t1 hm⟩
    · rename_i hm
      split
      · exact (h.base.set _).lateS ⟨hin.kind, hin.said, hin.holds, hin.look⟩
      · rename_i hs
        exact h.set ⟨hpo.kind, hpo.said, hpo.holds, hpo.open_, hpo.look, fun hn => absurd hn hk, fun _ => t2 (Classical.not_not.1 hm) (by simpa using hs)⟩
theorem COk.stopS {x : CS} (h : COk x) : COk x.stopS.x := by
  unfold CS.stopS
  split
  · exact h
  · rename_i p hp; exact h.stoppedS (h.now p hp).in
theorem COk.reviveS {x : CS} (h : COk x) : COk x.reviveS.x := by
  unfold CS.reviveS
  split
  · exact h
  · rename_i p hp
    split
    · exact h.endS (by simp [Ph.new]) _
    · rename_i hk
      exact h.base.enterS (by omega) (by omega)

theorem Same.of_set {x y : CS} {o : Option Ph} (h : Same { x with now := o } y) : Same x y := ⟨h.n, h.resend, h.limit, h.patience⟩
theorem Same.enterS (x : CS) (k : Nat) : Same x (x.enterS k).1 := ⟨rfl, rfl, rfl, rfl⟩
theorem Same.endS (x : CS) (p : Ph) (o : Int) : Same x (x.endS p o).1 := ⟨rfl, rfl, rfl, rfl⟩
theorem Same.refusedS (x : CS) (p : Ph) : Same x (x.refusedS p).1 := by unfold CS.refusedS; split <;> exact ⟨rfl, rfl, rfl, rfl⟩
theorem Same.stoppedS (x : CS) (p : Ph) : Same x (x.stoppedS p).1 := by unfold CS.stoppedS; repeat' split <;> try exact ⟨rfl, rfl, rfl, rfl⟩
theorem Same.doneS (x : CS) (p : Ph) : Same x (x.doneS p).1 := by unfold CS.doneS; split <;> exact ⟨rfl, rfl, rfl, rfl⟩
theorem Same.lateS (x : CS) (p : Ph) : Same x (x.lateS p).1 := by unfold CS.lateS; split <;> exact ⟨rfl, rfl, rfl, rfl⟩
theorem Same.beginS (x : CS) (k v : Int) : Same x (x.beginS k v).x := by unfold CS.beginS; repeat' split <;> try exact ⟨rfl, rfl, rfl, rfl⟩
theorem Same.takeS (x : CS) (m : Ms) : Same x (x.takeS m).1 := by
  unfold CS.takeS
  split
  · exact .refl x
  repeat' split <;> try first | exact .refl x | exact ⟨rfl, rfl, rfl, rfl⟩
  · exact .refusedS x _
  · exact (Same.doneS { x with now := some _ } _).of_set
theorem Same.tickS (x : CS) : Same x x.tickS.1 := by
  unfold CS.tickS
  split
  · exact .refl x
  simp only
  repeat' split <;> try exact ⟨rfl, rfl, rfl, rfl⟩
  · exact (Same.lateS { x with now := some _ } _).of_set
  · exact (Same.lateS { x with now := some _ } _).of_set
theorem Same.stopS (x : CS) : Same x x.stopS.x := by
  unfold CS.stopS
  split
  · exact .refl x
  · exact .stoppedS x _
theorem Same.reviveS (x : CS) : Same x x.reviveS.x := by
  unfold CS.reviveS
  split
  · exact .refl x
  · split <;> exact ⟨rfl, rfl, rfl, rfl⟩

/-- How many ticks a job may last yet. -/
def CS.togo (x : CS) : Nat := match x.now with
  | none => 0
  | some p => if p.kind = 1 then (x.patience - p.ticks) + 2 * (x.resend * x.limit) else if p.kind = 2 then 2 * (x.resend * x.limit) - p.ticks else x.resend * x.limit - p.ticks
theorem CS.togo_pos {x : CS} (h : COk x) {p : Ph} (hp : x.now = some p) : 1 ≤ x.togo := by
  have hpo := h.now p hp
  have := h.rl
  unfold CS.togo
  rw [hp]
  simp only
  split
  · rename_i hk; have := hpo.fetch hk; omega
  · rename_i hk
    have := (hpo.rest hk).1
    split <;> omega
theorem CS.togo_none {x : CS} (h : COk x) (h0 : x.togo = 0) : x.now = none := by
  cases hp : x.now with
  | none => rfl
  | some p => have := CS.togo_pos h hp; omega
theorem togo_enter (x : CS) (k : Nat) : (x.enterS k).1.togo = if k = 1 then x.patience + 2 * (x.resend * x.limit) else if k = 2 then 2 * (x.resend * x.limit) else x.resend * x.limit := by
  simp [CS.togo, CS.enterS, Ph.new]
theorem togo_end (x : CS) (p : Ph) (o : Int) : (x.endS p o).1.togo = 0 := rfl
theorem togo_take {x : CS} (h : COk x) (m : Ms) : (x.takeS m).1.togo ≤ x.togo := by
  unfold CS.takeS
  split
  · exact Nat.le_refl _
  rename_i p hp
  have hpo := h.now p hp
  have hrl := h.rl
  split
  · exact Nat.le_refl _
  split
  · exact Nat.le_refl _
  have hx : x.togo = if p.kind = 1 then (x.patience - p.ticks) + 2 * (x.resend * x.limit) else if p.kind = 2 then 2 * (x.resend * x.limit) - p.ticks else x.resend * x.limit - p.ticks := by unfold CS.togo; rw [hp]
  split
  · unfold CS.refusedS
    split
    · rename_i h2
      rw [togo_enter, hx]
      rcases h2 with h2 | h2
      · rw [if_pos h2]; simp; omega
      · have := (hpo.rest (by omega)).1
        rw [h2]; simp; omega
    · exact Nat.le_refl _
  split
  · rw [hx]; exact Nat.le_refl _
  · unfold CS.doneS
    split
    · rename_i h2
      rw [togo_enter, hx]
      have h2' : p.kind = 1 := h2
      rw [if_pos h2']; simp
    · rw [togo_end]; omega
theorem togo_tick {x : CS} (h : COk x) {p : Ph} (hp : x.now = some p) : x.tickS.1.togo < x.togo := by
  have hpo := h.now p hp
  have hrl := h.rl
  have hx : x.togo = if p.kind = 1 then (x.patience - p.ticks) + 2 * (x.resend * x.limit) else if p.kind = 2 then 2 * (x.resend * x.limit) - p.ticks else x.resend * x.limit - p.ticks := by unfold CS.togo; rw [hp]
  unfold CS.tickS
  rw [hp]
  simp only
  split
  · rename_i hk
    have hf := hpo.fetch hk
    rw [hx, if_pos hk]
    split
    · unfold CS.lateS
      rw [if_pos (Or.inl hk), togo_enter]
      simp; omega
    · have : ({ x with now := some { p with ticks := p.ticks + 1 } } : CS).togo = (x.patience - (p.ticks + 1)) + 2 * (x.resend * x.limit) := by simp [CS.togo, hk]
      split
      · show CS.togo _ < _; rw [this]; omega
      · show CS.togo _ < _; rw [this]; omega
  · rename_i hk
    obtain ⟨hr, _⟩ := hpo.rest hk
    rw [hx, if_neg hk]
    have ht : ∀ s, ({ x with now := some { p with ticks := p.ticks + 1, sends := s } } : CS).togo = if p.kind = 2 then 2 * (x.resend * x.limit) - (p.ticks + 1) else x.resend * x.limit - (p.ticks + 1) := fun s => by simp [CS.togo, hk]
    split
    · show CS.togo _ < _
      rw [ht p.sends]
      split <;> omega
    · split
      · unfold CS.lateS
        split
        · rename_i h2
          have h2' : p.kind = 2 := by rcases h2 with h2 | h2; exact absurd h2 hk; exact h2
          rw [togo_enter, if_pos h2']
          simp; omega
        · rw [togo_end]
          split <;> omega
      · show CS.togo _ < _
        rw [ht (p.sends + 1)]
        split <;> omega

end Go.Proofs.YtpiceodfdjihhaaGreatDoor
