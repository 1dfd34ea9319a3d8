/-
  Layer 21 (export), part C: Begin, Take, Tick, Busy.
-/
import Derived.Test.YtiggkhmopnhfaaaDoorExportB
namespace Go.Proofs.YtiggkhmopnhfaaaDoor
open Go.Lift
set_option linter.unusedSimpArgs false

/-- A message. -/
structure Ms where
  kind : Int
  sender : Int
  to : Int
  id : Int
  epoch : Int
  seq : Int
  version : Int
  prev : Int
  code : Int
  key : Value
  value : Value
def Ms.cells (m : Ms) : List Value := [.int .i64 m.kind, .int .i64 m.sender, .int .i64 m.to, .int .i64 m.id, .int .i64 m.epoch, .int .i64 m.seq, .int .i64 m.version, .int .i64 m.prev, .int .i64 m.code, m.key, m.value]
def Ms.val (m : Ms) : Value := .agg m.cells.toArray
/-- Its texts are cells. -/
def Ms.fine (m : Ms) : Prop := isCell m.key = true ∧ isCell m.value = true

structure Ans where
  x : XS
  out : List (List Value)
  err : Int
def XS.beginS (x : XS) (version : Int) : Ans :=
  if x.busy = true then ⟨x, [], 150⟩ else if version < 1 ∨ version > 999999 then ⟨x, [], 80⟩
  else
    let r := ({ x with busy := true, job := IntKind.i64.wrap (x.job + 1), version := version, all := [], missing := [] } : XS).takeS 0
    ⟨r.1, r.2, 0⟩
/-- Is m the answer to the question of now? -/
def XS.fits (x : XS) (m : Ms) : Prop := m.kind = 16 ∧ x.left.head? = some m.sender ∧ m.id = x.job ∧ m.seq = x.part ∧ m.version = x.version ∧ m.prev = x.pairs.length
open Classical in
noncomputable def XS.tellS (x : XS) (m : Ms) : XS × List (List Value) :=
  if ¬ (x.busy = true ∧ x.fits m) then (x, [])
  else if m.code = 16 then ({ x with all := x.all ++ x.pairs } : XS).takeS (x.part + 1)
  else if m.code ≠ 0 ∨ x.pairs.length = 512 then x.leaveS
  else (({ x with pairs := x.pairs ++ [(m.key, m.value)] } : XS).askS, [qMsg m.sender { x with pairs := x.pairs ++ [(m.key, m.value)] }])
def XS.tickS (x : XS) : XS × List (List Value) :=
  if x.busy = true ∧ IntKind.i64.wrap (x.now + 1) = x.due then ({ x with now := IntKind.i64.wrap (x.now + 1) } : XS).leaveS
  else ({ x with now := IntKind.i64.wrap (x.now + 1) }, [])

theorem XOk.beginS {x : XS} (h : XOk x) (n : Int) : XOk (x.beginS n).x := by
  unfold XS.beginS
  split
  · exact h
  · split
    · exact h
    · exact XOk.takeS (x := { x with busy := true, job := IntKind.i64.wrap (x.job + 1), version := n, all := [], missing := [] }) h.rl h.ne h.lp h.lm (Int.le_refl 0) (by show (0 : Int) ≤ x.rows.length; omega) (by simp) (by simp) (by simp) h.lc
theorem XOk.tellS {x : XS} (h : XOk x) {m : Ms} (hm : m.fine) : XOk (x.tellS m).1 := by
  unfold XS.tellS
  split
  · exact h
  · rename_i hb
    have hb' := (Classical.not_not.1 hb).1
    obtain ⟨h1, h2, h3, h4, h5, h6⟩ := h.busy hb'
    split
    · exact XOk.takeS (x := { x with all := x.all ++ x.pairs }) h.rl h.ne h.lp h.lm (by omega) (by show x.part + 1 ≤ x.rows.length; omega) (by simp; omega) (by show (x.missing.length : Int) ≤ _; omega) (fun p hp => (List.mem_append.1 hp).elim (h.ac p) (h.pc p)) h.lc
    · split
      · exact h.leaveS hb'
      · rename_i hc
        have : x.pairs.length ≠ 512 := fun h => hc (.inr h)
        exact ⟨h.rl, h.ne, fun _ => ⟨h1, h2, h3, (by simp [XS.askS]; omega), h5, h6⟩, h.lp, h.lm, fun p hp => by
          simp only [XS.askS, List.mem_append, List.mem_singleton] at hp
          rcases hp with hp | rfl
          · exact h.pc p hp
          · exact hm, h.ac, h.lc⟩
theorem XOk.tickS {x : XS} (h : XOk x) : XOk x.tickS.1 := by
  unfold XS.tickS
  split
  · rename_i hb
    exact XOk.leaveS (x := { x with now := IntKind.i64.wrap (x.now + 1) }) ⟨h.rl, h.ne, h.busy, h.lp, h.lm, h.pc, h.ac, h.lc⟩ hb.1
  · exact ⟨h.rl, h.ne, h.busy, h.lp, h.lm, h.pc, h.ac, h.lc⟩

theorem Did.same {w w' : World} {b : Nat} {x : XS} {v : XV} {tag : Nat → Nat} (h : Exp w b x v tag) (f : Fr (fun _ => False) w w') : Did w w' b tag x (.slice none 0 0) where
  fr := f.mono fun _ h => h.elim
  exp := ⟨v, tag, ⟨h.x0.fr f fun _ h => h.elim, fun hb => ⟨(h.busy hb).1.fr f fun _ h => h.elim, (h.busy hb).2.fr f fun _ h => h.elim⟩⟩, fun c h => ⟨.inl h, fun hc => hc.elim⟩⟩

theorem begin_run {w : World} {b : Nat} {x : XS} {v : XV} {tag : Nat → Nat} (h : Exp w b x v tag) (hok : XOk x) (n : Int) :
    Run (F.export_Export_Begin (.pointer (some ⟨b, 0, none⟩)) (.int .i64 n)) w fun r w' => ∃ ov, r = .tuple #[ov, .int .i64 (x.beginS n).err] ∧ Did w w' b tag (x.beginS n).x ov ∧ SlW 11 w' ov (x.beginS n).out ∧ New w w' ov := by
  unfold F.export_Export_Begin
  have hb0 := h.x0.blk
  have hw0 := h.x0.wr
  simp [hb0, hw0, XS.cells]
  cases hbu : x.busy with
  | true =>
    have : x.beginS n = ⟨x, [], 150⟩ := by unfold XS.beginS; rw [if_pos hbu]
    simp [this]
    exact ⟨Did.same h (Fr.refl _ _), SlW.nil _ _, fun c hc => hc.elim⟩
  | false =>
    have hbf : ¬ x.busy = true := by simp [hbu]
    simp
    by_cases h1 : n < 1
    · have : x.beginS n = ⟨x, [], 80⟩ := by unfold XS.beginS; rw [if_neg hbf, if_pos (.inl h1)]
      simp [h1, this]
      exact ⟨Did.same h (Fr.refl _ _), SlW.nil _ _, fun c hc => hc.elim⟩
    by_cases h2 : n > 999999
    · have : x.beginS n = ⟨x, [], 80⟩ := by unfold XS.beginS; rw [if_neg hbf, if_pos (.inr h2)]
      simp [h1, h2, this]
      exact ⟨Did.same h (Fr.refl _ _), SlW.nil _ _, fun c hc => hc.elim⟩
    have hbs : x.beginS n = ⟨(({ x with busy := true, job := IntKind.i64.wrap (x.job + 1), version := n, all := [], missing := [] } : XS).takeS 0).1, (({ x with busy := true, job := IntKind.i64.wrap (x.job + 1), version := n, all := [], missing := [] } : XS).takeS 0).2, 0⟩ := by
      unfold XS.beginS; rw [if_neg hbf, if_neg (not_or.2 ⟨h1, h2⟩)]
    rw [hbs]
    simp [h1, h2, hb0, hw0, XS.cells]
    have hb1 : bk (sto (sto (sto (sto (sto w b 5 [Value.bool true]) b 3 [Value.int IntKind.i64 (IntKind.i64.wrap (x.job + 1))]) b 4 [Value.int IntKind.i64 n]) b 10 [Value.slice none 0 0]) b 11 [Value.slice none 0 0]) b =
        some (({ x with busy := true, job := IntKind.i64.wrap (x.job + 1), version := n, all := [], missing := [] } : XS).cells { v with all := .slice none 0 0, missing := .slice none 0 0 }) := by simp [hb0]; rfl
    have hw1 : wr (sto (sto (sto (sto (sto w b 5 [Value.bool true]) b 3 [Value.int IntKind.i64 (IntKind.i64.wrap (x.job + 1))]) b 4 [Value.int IntKind.i64 n]) b 10 [Value.slice none 0 0]) b 11 [Value.slice none 0 0]) b = true := by simp [hw0]
    have f1 : Fr (fun c => c = b) w (sto (sto (sto (sto (sto w b 5 [Value.bool true]) b 3 [Value.int IntKind.i64 (IntKind.i64.wrap (x.job + 1))]) b 4 [Value.int IntKind.i64 n]) b 10 [Value.slice none 0 0]) b 11 [Value.slice none 0 0]) :=
      (((((Fr.refl (fun c => c = b) w).sto (.inl rfl) _ _).sto (.inl rfl) _ _).sto (.inl rfl) _ _).sto (.inl rfl) _ _).sto (.inl rfl) _ _
    generalize sto (sto (sto (sto (sto w b 5 [Value.bool true]) b 3 [Value.int IntKind.i64 (IntKind.i64.wrap (x.job + 1))]) b 4 [Value.int IntKind.i64 n]) b 10 [Value.slice none 0 0]) b 11 [Value.slice none 0 0] = w1 at *
    have hF : ∀ c, c = b → tag c = 1 := fun c hc => by rw [hc]; exact h.x0.tb
    have h1 := h.x0.set f1 (fun c he h => by rw [hF c he] at h; cases h) hb1 hw1 rfl rfl rfl rfl rfl rfl
    refine (take_run h1 ⟨SlW.nil _ _, fun c hc => hc.elim, SlW.nil _ _, fun c hc => hc.elim⟩ rfl (Int.le_refl 0) (by show (0 : Int) ≤ x.rows.length; omega) hok.ne).mono ?_
    rintro r w2 ⟨v2, tag2, f2, he2, ht2, hs2, hn2⟩
    exact ⟨⟨(f1.trans f2 fun _ _ h => h).mono fun c hc => by rw [hF c hc]; decide, v2, tag2, he2, fun c hc => ⟨.inl (ht2 c hc), fun hi => by have := h.x0.bound c (ht2 c hc); have := (hn2 c hi).1; have := f1.size; omega⟩⟩, hs2, fun c hc => ⟨Nat.le_trans f1.size (hn2 c hc).1, (hn2 c hc).2⟩⟩

theorem X0.now {w : World} {b : Nat} {x : XS} {v : XV} {tag : Nat → Nat} {n : Int} (h : Exp w b x v tag) :
    Exp (sto w b 2 [.int .i64 n]) b { x with now := n } v tag ∧ Fr (fun c => c = b) w (sto w b 2 [.int .i64 n]) := by
  have f1 : Fr (fun c => c = b) w (sto w b 2 [.int .i64 n]) := (Fr.refl (fun c => c = b) w).sto (.inl rfl) _ _
  have hF : ∀ c, c = b → tag c = 1 := fun c hc => by rw [hc]; exact h.x0.tb
  have hb1 : bk (sto w b 2 [.int .i64 n]) b = some (({ x with now := n } : XS).cells v) := by simp [h.x0.blk]; rfl
  refine ⟨⟨h.x0.set f1 (fun c he h => by rw [hF c he] at h; cases h) hb1 (by simp [h.x0.wr]) rfl rfl rfl rfl rfl rfl, fun hb => ?_⟩, f1⟩
  obtain ⟨ha, hp⟩ := h.busy hb
  have ha' := ha.fr f1 fun c hc => by rw [hF c hc]; decide
  have hp' := hp.fr f1 fun c hc => by rw [hF c hc]; decide
  exact ⟨⟨ha'.all, ha'.tall, ha'.missing, ha'.tmissing⟩, ⟨hp'.left, hp'.tleft, hp'.pairs, hp'.tpairs⟩⟩

theorem tick_run {w : World} {b : Nat} {x : XS} {v : XV} {tag : Nat → Nat} (h : Exp w b x v tag) (hok : XOk x) :
    Run (F.export_Export_Tick (.pointer (some ⟨b, 0, none⟩))) w fun r w' => ∃ ov, r = .tuple #[ov, .int .i64 0] ∧ Did w w' b tag x.tickS.1 ov ∧ SlW 11 w' ov x.tickS.2 ∧ New w w' ov := by
  unfold F.export_Export_Tick
  have hb0 := h.x0.blk
  have hw0 := h.x0.wr
  simp [hb0, hw0, XS.cells]
  obtain ⟨h1, f1⟩ := X0.now (n := IntKind.i64.wrap (x.now + 1)) h
  have hF : ∀ c, c = b → tag c ≠ 0 := fun c hc => by rw [hc, h.x0.tb]; decide
  have hdr : Fr (fun _ => False) (sto w b 2 [.int .i64 (IntKind.i64.wrap (x.now + 1))]) (sto w b 2 [.int .i64 (IntKind.i64.wrap (x.now + 1))]).drew := (Fr.refl _ _).drew
  have h2 : Exp (sto w b 2 [.int .i64 (IntKind.i64.wrap (x.now + 1))]).drew b { x with now := IntKind.i64.wrap (x.now + 1) } v tag :=
    ⟨h1.x0.fr hdr fun _ h => h.elim, fun hb => ⟨(h1.busy hb).1.fr hdr fun _ h => h.elim, (h1.busy hb).2.fr hdr fun _ h => h.elim⟩⟩
  have f2 := f1.drew
  have hok1 : XOk { x with now := IntKind.i64.wrap (x.now + 1) } := ⟨hok.rl, hok.ne, hok.busy, hok.lp, hok.lm, hok.pc, hok.ac, hok.lc⟩
  have same : (¬ (x.busy = true ∧ IntKind.i64.wrap (x.now + 1) = x.due)) → Did w (sto w b 2 [.int .i64 (IntKind.i64.wrap (x.now + 1))]).drew b tag x.tickS.1 (.slice none 0 0) ∧ x.tickS.2 = [] := by
    intro hn
    have : x.tickS = ({ x with now := IntKind.i64.wrap (x.now + 1) }, []) := by unfold XS.tickS; rw [if_neg hn]
    rw [this]
    exact ⟨⟨f2.mono hF, v, tag, h2, fun c h => ⟨.inl h, fun hc => hc.elim⟩⟩, rfl⟩
  cases hbu : x.busy with
  | false =>
    obtain ⟨s1, s2⟩ := same (by simp [hbu])
    simp [s2]
    exact ⟨s1, SlW.nil _ _, fun c hc => hc.elim⟩
  | true =>
    simp [hb0, XS.cells]
    refine Run_cond (fun hc => ?_) (fun hc => ?_)
    · have hc' : IntKind.i64.wrap (x.now + 1) = x.due := by simpa using hc
      have hts : x.tickS = ({ x with now := IntKind.i64.wrap (x.now + 1) } : XS).leaveS := by unfold XS.tickS; rw [if_pos ⟨hbu, hc'⟩]
      rw [hts]
      simp
      refine (leave_run h2.x0 (h2.busy hbu).1 (h2.busy hbu).2 hbu hok1).mono ?_
      rintro r w3 ⟨⟨f3, v3, tag3, he3, ht3⟩, hs3, hn3⟩
      refine ⟨⟨(f2.mono hF).trans f3 fun _ _ h => h, v3, tag3, he3, fun c hc => ?_⟩, hs3, fun c hc => ⟨Nat.le_trans f2.size (hn3 c hc).1, (hn3 c hc).2⟩⟩
      refine ⟨?_, (ht3 c hc).2⟩
      rcases (ht3 c hc).1 with h | h
      · exact .inl h
      · exact .inr (Nat.le_trans f2.size h)
    · have hc' : ¬ IntKind.i64.wrap (x.now + 1) = x.due := by simpa using hc
      obtain ⟨s1, s2⟩ := same (fun h => hc' h.2)
      simp [s2]
      exact ⟨s1, SlW.nil _ _, fun c hc => hc.elim⟩

theorem busy_run {w : World} {b : Nat} {x : XS} {v : XV} {tag : Nat → Nat} (h : Exp w b x v tag) {Q : Value → World → Prop} (q : Q (.bool x.busy) w) : Run (F.export_Export_Busy (.pointer (some ⟨b, 0, none⟩))) w Q := by
  unfold F.export_Export_Busy
  simp [h.x0.blk, XS.cells]
  exact q

end Go.Proofs.YtiggkhmopnhfaaaDoor
