/-
  Layer 15 (control), part D: the controller in memory; the ledger, who is missing, the messages that go out.
-/
import Derived.Test.YtpiceodfdjihhaaGreatDoorCtlB
import Derived.Test.YtpiceodfdjihhaaGreatDoorRingC
namespace Go.Proofs.YtpiceodfdjihhaaGreatDoor
open Go.Lift
set_option linter.unusedSimpArgs false

/-- The type of a phase's value, by its kind. -/
def tyOf (k : Nat) : TypeId := if k = 1 then 117 else if k = 2 then 120 else if k = 3 then 148 else 122
/-- All blocks of v are marked k. -/
def Tg (tag : Nat → Nat) (k : Nat) (v : Value) : Prop := ∀ c, inB v c → tag c = k
/-- Where the phase lies, and the values of the lists. -/
structure CV where
  p : Nat
  sv : Value
  hv : Value
  lh : Value
  lm : Value
def CS.face (x : CS) (v : CV) : Value := match x.now with
  | none => .nilIface
  | some p => .iface (tyOf p.kind) (.pointer (some ⟨v.p, 0, none⟩))
def CS.cells (x : CS) (v : CV) : List Value :=
  [.int .i64 x.n, .int .i64 x.resend, .int .i64 x.limit, .int .i64 x.patience, .int .i64 x.job, .int .i64 x.kind, .int .i64 x.ver, x.face v, .bool x.ended,
    .int .i64 x.last.job, .int .i64 x.last.kind, .int .i64 x.last.version, .int .i64 x.last.outcome, v.lh, v.lm]
def Ph.cells (p : Ph) (v : CV) : List Value := [v.sv, v.hv, .int .i64 p.ticks, .int .i64 p.sends]
/-- The controller's block, and its last report. -/
structure Ctl0 (w : World) (b : Nat) (x : CS) (v : CV) (tag : Nat → Nat) : Prop where
  blk : bk w b = some (x.cells v)
  wr : wr w b = true
  tb : tag b = 1
  bound : ∀ c, tag c ≠ 0 → c < w.heap.size
  lh : Ints w v.lh x.last.holds ∧ Tg tag 5 v.lh
  lm : Ints w v.lm x.last.missing ∧ Tg tag 5 v.lm
/-- A phase. -/
structure CtlP (w : World) (p : Ph) (v : CV) (tag : Nat → Nat) : Prop where
  blk : bk w v.p = some (p.cells v)
  wr : wr w v.p = true
  tp : tag v.p = 2
  said : SlW 1 w v.sv (elB p.said)
  ts : Tg tag 3 v.sv
  holds : SlW 1 w v.hv (elI p.holds)
  th : Tg tag 4 v.hv
structure Ctl (w : World) (b : Nat) (x : CS) (v : CV) (tag : Nat → Nat) : Prop where
  c0 : Ctl0 w b x v tag
  now : ∀ p, x.now = some p → CtlP w p v tag

section
variable {w w' : World} {b : Nat} {x : CS} {v : CV} {tag : Nat → Nat} {F : Nat → Prop} {p : Ph}
theorem Ctl0.fr (h : Ctl0 w b x v tag) (f : Fr F w w') (hF : ∀ c, F c → tag c ≠ 1 ∧ tag c ≠ 5) : Ctl0 w' b x v tag where
  blk := f.bk_some h.blk fun hb => (hF _ hb).1 h.tb
  wr := by rw [f.wr (bk_lt h.blk) fun hb => (hF _ hb).1 h.tb]; exact h.wr
  tb := h.tb
  bound := fun c hc => Nat.lt_of_lt_of_le (h.bound c hc) f.size
  lh := ⟨h.lh.1.fr f fun c hc hf => (hF c hf).2 (h.lh.2 c hc), h.lh.2⟩
  lm := ⟨h.lm.1.fr f fun c hc hf => (hF c hf).2 (h.lm.2 c hc), h.lm.2⟩
theorem CtlP.fr (h : CtlP w p v tag) (f : Fr F w w') (hF : ∀ c, F c → tag c ≠ 2 ∧ tag c ≠ 3 ∧ tag c ≠ 4) : CtlP w' p v tag where
  blk := f.bk_some h.blk fun hb => (hF _ hb).1 h.tp
  wr := by rw [f.wr (bk_lt h.blk) fun hb => (hF _ hb).1 h.tp]; exact h.wr
  tp := h.tp
  said := h.said.fr f fun c hc hf => (hF c hf).2.1 (h.ts c hc)
  ts := h.ts
  holds := h.holds.fr f fun c hc hf => (hF c hf).2.2 (h.th c hc)
  th := h.th
theorem Ctl.fr (h : Ctl w b x v tag) (f : Fr F w w') (hF : ∀ c, F c → tag c = 0) : Ctl w' b x v tag :=
  ⟨h.c0.fr f fun c hc => by rw [hF c hc]; decide, fun p hp => (h.now p hp).fr f fun c hc => by rw [hF c hc]; decide⟩
theorem Ctl.fr0 (h : Ctl w b x v tag) (f : Fr (fun _ => False) w w') : Ctl w' b x v tag := h.fr f fun _ hc => hc.elim
end

theorem New.sub {G : Nat → Prop} {w w1 w2 : World} {r : Value} (h : New w1 w2 r) (f : Fr G w w1) : New w w2 r := fun c hc => ⟨Nat.le_trans f.size (h c hc).1, (h c hc).2⟩
theorem New.up {G : Nat → Prop} {w w1 w2 : World} {r : Value} (h : New w w1 r) (f : Fr G w1 w2) : New w w2 r := fun c hc => ⟨(h c hc).1, Nat.lt_of_lt_of_le (h c hc).2 f.size⟩

/-- A fresh ledger: what its value is. -/
structure Fresh0 (w w' : World) (n : Nat) (sv hv : Value) : Prop where
  fr : Fr (fun _ => False) w w'
  said : SlW 1 w' sv (elB (List.replicate n false))
  holds : SlW 1 w' hv (elI (List.replicate n (-1)))
  ns : New w w' sv
  nh : New w w' hv
  apart : ∀ c, inB sv c → ¬ inB hv c

theorem mkB_run {w : World} {n : Nat} (hn : n ≤ 1048576) {Q : Value → World → Prop} (q : ∀ r w', SlW 1 w' r (elB (List.replicate n false)) → Fr (fun _ => False) w w' → New w w' r → Q r w') :
    Run (mksM 4 1 1 #[(Value.bool false)] (.int .i64 n) (.int .i64 n)) w Q :=
  Run_mksM (k := 1) rfl (Nat.le_refl _) (by omega) (by omega) fun r w' h1 h2 h3 => q r w' (by simpa [elB] using h1) h2 h3
theorem mkI_run {w : World} {n : Nat} (hn : n ≤ 1048576) {Q : Value → World → Prop} (q : ∀ r w', SlW 1 w' r (elI (List.replicate n 0)) → Fr (fun _ => False) w w' → New w w' r → Q r w') :
    Run (mksM 3 1 8 #[(Value.int IntKind.i64 0)] (.int .i64 n) (.int .i64 n)) w Q :=
  Run_mksM (k := 1) rfl (Nat.le_refl _) (by omega) (by omega) fun r w' h1 h2 h3 => q r w' (by simpa [elI] using h1) h2 h3

/-- The ledger as it is laid, its numbers yet 0. -/
def LQ (n : Nat) (w0 : World) (l : List Value) (w' : World) : Prop := ∃ c sv hv, l = [.pointer (some ⟨c, 0, none⟩)] ∧ bk w' c = some [sv, hv, .int .i64 0, .int .i64 1] ∧ wr w' c = true ∧ w0.heap.size ≤ c ∧ Fr (fun _ => False) w0 w' ∧
  SlW 1 w' sv (elB (List.replicate n false)) ∧ SlW 1 w' hv (elI (List.replicate n 0)) ∧ New w0 w' sv ∧ New w0 w' hv ∧ (∀ c, inB sv c → ¬ inB hv c) ∧ (∀ d, inB sv d ∨ inB hv d → d ≠ c)
theorem ledger_fin {n : Nat} {w w3 : World} {c : Nat} {sv hv : Value} {a1 a2 a3 a4 : Value} (hb : bk w3 c = some [a1, a2, a3, a4]) (hw : wr w3 c = true) (hc : w.heap.size ≤ c) (fr : Fr (fun _ => False) w w3)
    (s : SlW 1 w3 sv (elB (List.replicate n false))) (h : SlW 1 w3 hv (elI (List.replicate n 0))) (ns : New w w3 sv) (nh : New w w3 hv) (ap : ∀ c, inB sv c → ¬ inB hv c) (nc : ∀ d, inB sv d ∨ inB hv d → d ≠ c) :
    Run (stM 4 (.pointer (some ⟨c, 0, none⟩)) (.agg #[sv, hv, .int .i64 0, .int .i64 1])) w3 fun _ w' => LQ n w [.pointer (some ⟨c, 0, none⟩)] w' := by
  simp [hb, hw, s.1.isCell, h.1.isCell]
  have f1 : Fr (fun d => d = c) w3 (sto w3 c 0 [sv, hv, Value.int .i64 0, Value.int .i64 1]) := (Fr.refl (fun d => d = c) w3).sto (.inl rfl) _ _
  refine ⟨c, sv, hv, rfl, by simp [hb], by simp [hw], hc, fr.sto (.inr hc) _ _, s.fr f1 fun d hd he => nc d (.inl hd) he, h.fr f1 fun d hd he => nc d (.inr hd) he, ns.up f1, nh.up f1, ap, nc⟩

theorem cell4 {a b : Value} (ha : isCell a = true) (hb : isCell b = true) {m n : Int} : ∀ (i : Nat) (h : i < 4), isCell ([a, b, Value.int .i64 m, Value.int .i64 n][i]'h) = true := by
  intro i h
  rcases (by omega : i = 0 ∨ i = 1 ∨ i = 2 ∨ i = 3) with rfl | rfl | rfl | rfl
  · exact ha
  · exact hb
  · rfl
  · rfl
theorem set_repI {α : Type} (a b : α) (i m : Nat) : (List.replicate i a ++ List.replicate (m + 1) b).set i a = List.replicate (i + 1) a ++ List.replicate m b := by
  rw [List.set_append, if_neg (by simp), List.length_replicate, Nat.sub_self, List.replicate_succ, List.set_cons_zero, List.replicate_succ' (n := i), List.append_assoc]
  rfl
theorem newLedger_run {w : World} {n : Nat} (hn : n ≤ 1048576) :
    Run (F.control_newLedger (.int .i64 n)) w fun r w' => ∃ sv hv, r = .agg #[sv, hv, .int .i64 0, .int .i64 1] ∧ Fresh0 w w' n sv hv := by
  unfold F.control_newLedger
  simp
  refine Run_new fun b0 w0 hb0 hw0 fr0 hle0 => ?_
  refine Run.mono (Q := LQ n w0) (Run_altM (by simp) ?_) ?_
  · have dr : Fr (fun _ => False) w0 w0.drew := (Fr.refl _ _).drew
    intro x hx
    simp at hx
    rcases hx with rfl | rfl | rfl | rfl | rfl | rfl
    · simp
      refine mkB_run hn fun sv w1 s1 f1 n1 => ?_
      refine mkI_run hn fun hv w2 s2 f2 n2 => ?_
      simp [buildV, fillV_cell, s1.1.isCell, s2.1.isCell, -Run_stM_iff]
      refine Run_new fun c w3 hc hw3 f3 hle => ?_
      have e1 := dr.trans f1 fun _ _ => id
      have e2 := e1.trans f2 fun _ _ => id
      have e3 := e2.trans f3 fun _ _ => id
      refine ledger_fin hc hw3 (Nat.le_trans e2.size hle) e3 ((s1.fr f2 fun _ _ => id).fr f3 fun _ _ => id) (s2.fr f3 fun _ _ => id) (((n1.sub dr).up f2).up f3) ((n2.sub e1).up f3) ?_ ?_
      · intro d h1 h2; have := n1 d h1; have := n2 d h2; have := f1.size; have := f2.size; have := f3.size; have := bk_lt hc; omega
      · rintro d (h | h) rfl
        · have := n1 d h; have := f1.size; have := f2.size; have := f3.size; have := bk_lt hc; omega
        · have := n2 d h; have := f1.size; have := f2.size; have := f3.size; have := bk_lt hc; omega
    · simp
      refine mkB_run hn fun sv w1 s1 f1 n1 => ?_
      refine Run_new fun c w2 hc hw2 f2 hle => ?_
      refine mkI_run hn fun hv w3 s3 f3 n3 => ?_
      simp [buildV, fillV_cell, s1.1.isCell, s3.1.isCell, -Run_stM_iff]
      have e1 := dr.trans f1 fun _ _ => id
      have e2 := e1.trans f2 fun _ _ => id
      have e3 := e2.trans f3 fun _ _ => id
      have hw : wr w3 c = true := by
        rw [f3.wr (by have := bk_lt hc; have := f3.size; omega) id]; exact hw2
      refine ledger_fin (f3.bk_some hc id) hw (Nat.le_trans e1.size hle) e3 ((s1.fr f2 fun _ _ => id).fr f3 fun _ _ => id) s3 (((n1.sub dr).up f2).up f3) (n3.sub e2) ?_ ?_
      · intro d h1 h2; have := n1 d h1; have := n3 d h2; have := f1.size; have := f2.size; have := f3.size; have := bk_lt hc; omega
      · rintro d (h | h) rfl
        · have := n1 d h; have := f1.size; have := f2.size; have := f3.size; have := bk_lt hc; omega
        · have := n3 d h; have := f1.size; have := f2.size; have := f3.size; have := bk_lt hc; omega
    · simp
      refine mkI_run hn fun hv w1 s1 f1 n1 => ?_
      refine mkB_run hn fun sv w2 s2 f2 n2 => ?_
      simp [buildV, fillV_cell, s1.1.isCell, s2.1.isCell, -Run_stM_iff]
      refine Run_new fun c w3 hc hw3 f3 hle => ?_
      have e1 := dr.trans f1 fun _ _ => id
      have e2 := e1.trans f2 fun _ _ => id
      have e3 := e2.trans f3 fun _ _ => id
      refine ledger_fin hc hw3 (Nat.le_trans e2.size hle) e3 (s2.fr f3 fun _ _ => id) ((s1.fr f2 fun _ _ => id).fr f3 fun _ _ => id) ((n2.sub e1).up f3) (((n1.sub dr).up f2).up f3) ?_ ?_
      · intro d h1 h2; have := n2 d h1; have := n1 d h2; have := f1.size; have := f2.size; have := f3.size; have := bk_lt hc; omega
      · rintro d (h | h) rfl
        · have := n2 d h; have := f1.size; have := f2.size; have := f3.size; have := bk_lt hc; omega
        · have := n1 d h; have := f1.size; have := f2.size; have := f3.size; have := bk_lt hc; omega
    · simp
      refine mkI_run hn fun hv w1 s1 f1 n1 => ?_
      refine Run_new fun c w2 hc hw2 f2 hle => ?_
      refine mkB_run hn fun sv w3 s3 f3 n3 => ?_
      simp [buildV, fillV_cell, s3.1.isCell, s1.1.isCell, -Run_stM_iff]
      have e1 := dr.trans f1 fun _ _ => id
      have e2 := e1.trans f2 fun _ _ => id
      have e3 := e2.trans f3 fun _ _ => id
      have hw : wr w3 c = true := by
        rw [f3.wr (by have := bk_lt hc; have := f3.size; omega) id]; exact hw2
      refine ledger_fin (f3.bk_some hc id) hw (Nat.le_trans e1.size hle) e3 s3 ((s1.fr f2 fun _ _ => id).fr f3 fun _ _ => id) (n3.sub e2) (((n1.sub dr).up f2).up f3) ?_ ?_
      · intro d h1 h2; have := n3 d h1; have := n1 d h2; have := f1.size; have := f2.size; have := f3.size; have := bk_lt hc; omega
      · rintro d (h | h) rfl
        · have := n3 d h; have := f1.size; have := f2.size; have := f3.size; have := bk_lt hc; omega
        · have := n1 d h; have := f1.size; have := f2.size; have := f3.size; have := bk_lt hc; omega
    · simp
      refine Run_new fun c w1 hc hw1 f1 hle => ?_
      refine mkB_run hn fun sv w2 s2 f2 n2 => ?_
      refine mkI_run hn fun hv w3 s3 f3 n3 => ?_
      simp [buildV, fillV_cell, s2.1.isCell, s3.1.isCell, -Run_stM_iff]
      have e1 := dr.trans f1 fun _ _ => id
      have e2 := e1.trans f2 fun _ _ => id
      have e3 := e2.trans f3 fun _ _ => id
      have hw : wr w3 c = true := by
        rw [f3.wr (by have := bk_lt hc; have := f2.size; have := f3.size; omega) id, f2.wr (by have := bk_lt hc; have := f2.size; omega) id]; exact hw1
      refine ledger_fin (f3.bk_some (f2.bk_some hc id) id) hw (Nat.le_trans dr.size hle) e3 (s2.fr f3 fun _ _ => id) s3 ((n2.sub e1).up f3) (n3.sub e2) ?_ ?_
      · intro d h1 h2; have := n2 d h1; have := n3 d h2; have := f1.size; have := f2.size; have := f3.size; have := bk_lt hc; omega
      · rintro d (h | h) rfl
        · have := n2 d h; have := f1.size; have := f2.size; have := f3.size; have := bk_lt hc; omega
        · have := n3 d h; have := f1.size; have := f2.size; have := f3.size; have := bk_lt hc; omega
    · simp
      refine Run_new fun c w1 hc hw1 f1 hle => ?_
      refine mkI_run hn fun hv w2 s2 f2 n2 => ?_
      refine mkB_run hn fun sv w3 s3 f3 n3 => ?_
      simp [buildV, fillV_cell, s3.1.isCell, s2.1.isCell, -Run_stM_iff]
      have e1 := dr.trans f1 fun _ _ => id
      have e2 := e1.trans f2 fun _ _ => id
      have e3 := e2.trans f3 fun _ _ => id
      have hw : wr w3 c = true := by
        rw [f3.wr (by have := bk_lt hc; have := f2.size; have := f3.size; omega) id, f2.wr (by have := bk_lt hc; have := f2.size; omega) id]; exact hw1
      refine ledger_fin (f3.bk_some (f2.bk_some hc id) id) hw (Nat.le_trans dr.size hle) e3 s3 (s2.fr f3 fun _ _ => id) (n3.sub e2) ((n2.sub e1).up f3) ?_ ?_
      · intro d h1 h2; have := n3 d h1; have := n2 d h2; have := f1.size; have := f2.size; have := f3.size; have := bk_lt hc; omega
      · rintro d (h | h) rfl
        · have := n3 d h; have := f1.size; have := f2.size; have := f3.size; have := bk_lt hc; omega
        · have := n2 d h; have := f1.size; have := f2.size; have := f3.size; have := bk_lt hc; omega
  · rintro l w1 ⟨c, sv, hv, rfl, hb1, hw1, hle1, f1, s1, h1, ns, nh, ap, nc⟩
    simp [hb1]
    have hsl := h1.1.lenL
    simp at hsl
    simp [hsl]
    have e0 : Fr (fun _ => False) w w1 := fr0.trans f1 fun _ _ => id
    have hc0 : b0 ≠ c := by have := bk_lt hb0; omega
    have hbl : b0 < w0.heap.size := bk_lt hb0
    have hn0 : ∀ d, inB sv d ∨ inB hv d → w0.heap.size ≤ d := fun d hd => by rcases hd with hd | hd; exact (ns d hd).1; exact (nh d hd).1
    refine Run_for n (fun i l w2 => l = [.int .i64 i] ∧ bk w2 c = some [sv, hv, .int .i64 0, .int .i64 1] ∧ Fr (fun _ => False) w0 w2 ∧ SlW 1 w2 sv (elB (List.replicate n false)) ∧
      SlW 1 w2 hv (elI (List.replicate i (-1) ++ List.replicate (n - i) 0)) ∧ New w0 w2 sv ∧ New w0 w2 hv) ⟨rfl, hb1, f1, s1, by simpa using h1, ns, nh⟩ ?_ ?_
    · rintro i l w2 hi ⟨rfl, hb2, f2, s2, h2, ns2, nh2⟩
      obtain ⟨m, hm⟩ : ∃ m, n - i = m + 1 := ⟨n - i - 1, by omega⟩
      have hm' : n - (i + 1) = m := by omega
      have he : (elI (List.replicate i (-1) ++ List.replicate (n - i) 0))[i]? = some [.int .i64 0] := by
        rw [elI_get, List.getElem?_append_right (by simp)]; simp [hm]
      obtain ⟨d, q, c1, c2, c3, c4, c5⟩ := h2.put he .i64
      obtain ⟨c6, c7⟩ := c5 0 [.int .i64 (-1)] (by simp)
      have hok : okAt w2 d q 1 := c4
      have wk := wrap_succ (n := i) (by omega)
      have hdc : d ≠ c := nc d (.inr c2)
      simp [hb2, hi, c1, hok, wk]
      have fs : Fr (fun e => e = d) w2 (sto w2 d q [Value.int .i64 (-1)]) := (Fr.refl (fun e => e = d) w2).sto (.inl rfl) _ _
      refine ⟨fs.bk_some hb2 fun h => hdc h.symm, f2.sto (.inr (hn0 d (.inr c2))) _ _, s2.fr fs fun e h1 h2 => ap e h1 (h2 ▸ c2), ?_, ns2.up fs, nh2.up fs⟩
      have eset : (elI (List.replicate i (-1) ++ List.replicate (n - i) 0)).set i (setL [Value.int .i64 0] 0 [.int .i64 (-1)]) = elI (List.replicate (i + 1) (-1) ++ List.replicate (n - (i + 1)) 0) := by
        rw [hm, hm']
        simp only [elI, ← List.map_set (f := fun n : Int => [Value.int .i64 n])]
        rw [show setL [Value.int .i64 0] 0 [.int .i64 (-1)] = (fun n : Int => [Value.int .i64 n]) (-1) from rfl, ← List.map_set, set_repI]
      rw [eset] at c7
      exact c7
    · rintro l w2 ⟨rfl, hb2, f2, s2, h2, ns2, nh2⟩
      have hb02 : bk w2 b0 = _ := f2.bk_some hb0 id
      have hw02 : wr w2 b0 = true := by rw [f2.wr hbl id]; exact hw0
      simp [hb2, hb02, hw02, s2.1.isCell, h2.1.isCell]
      have fs : Fr (fun e => e = b0) w2 (sto w2 b0 0 [sv, hv, Value.int .i64 0, Value.int .i64 1]) := (Fr.refl (fun e => e = b0) w2).sto (.inl rfl) _ _
      have hnb : ∀ d, inB sv d ∨ inB hv d → d ≠ b0 := fun d hd he => by have := hn0 d hd; omega
      refine ⟨cell4 s2.1.isCell h2.1.isCell, sv, hv, ⟨rfl, rfl⟩, (fr0.trans f2 fun _ _ => id).sto (.inr hle0) _ _, s2.fr fs fun d hd he => hnb d (.inl hd) he, ?_, (ns2.sub fr0).up fs, (nh2.sub fr0).up fs, ap⟩
      have h2' : SlW 1 w2 hv (elI (List.replicate n (-1))) := by simpa using h2
      exact h2'.fr fs fun d hd he => hnb d (.inr hd) he

theorem elB_get (l : List Bool) (i : Nat) : (elB l)[i]? = (l[i]?).map fun b => [.bool b] := by simp [elB]
theorem elI_app (l l' : List Int) : elI (l ++ l') = elI l ++ elI l' := by simp [elI]
/-- The nodes that have not answered. -/
theorem missing_run {w : World} {p : Nat} {sv : Value} {rest : List Value} {said : List Bool} (hb : bk w p = some (sv :: rest)) (hs : SlW 1 w sv (elB said)) (hn : said.length ≤ 1048576) :
    Run (F.control_ledger_missing (.pointer (some ⟨p, 0, none⟩))) w fun r w' => Fr (fun _ => False) w w' ∧ SlW 1 w' r (elI (missK said said.length)) ∧ New w w' r := by
  unfold F.control_ledger_missing
  have hsl := hs.1.lenL
  simp at hsl
  simp [hb, hsl]
  refine Run_for said.length (fun i l w2 => ∃ acc, l = [acc, .int .i64 i] ∧ Fr (fun _ => False) w w2 ∧ SlW 1 w2 acc (elI (missK said i)) ∧ New w w2 acc) ⟨_, rfl, Fr.refl _ _, SlW.nil _ _, fun _ h => h.elim⟩ ?_ ?_
  · rintro i l w2 hi ⟨acc, rfl, f2, s2, n2⟩
    have es : said[i]? = some said[i] := List.getElem?_eq_getElem hi
    obtain ⟨q, q1, q2⟩ := (hs.1.fr0 f2).rd1 (i := i) (y := .bool said[i]) (by rw [elB_get, es]; rfl) .i64
    have wk := wrap_succ (n := i) (by omega)
    have em := missK_succ said i
    rw [es] at em
    simp only [Option.getD_some] at em
    simp [hi, q1, q2]
    refine Run_cond (fun h => ?_) (fun h => ?_)
    · rw [if_pos h, List.append_nil] at em
      simp [wk]
      exact ⟨f2, em ▸ s2, n2⟩
    · rw [if_neg (by rw [h]; decide)] at em
      simp
      have hml := missK_len said i
      refine Run_app1 (k := 1) rfl s2 (by decide) rfl (by decide) rfl (by simp; omega) fun r w3 s3 f3 hin w4 f4 => ?_
      simp [wk]
      refine ⟨f2.new f3 fun d hd => (n2 d hd).1, ?_, fun d hd => ?_⟩
      · rw [em, elI_app]; exact s3
      · rcases hin d hd with h | h
        · exact ⟨(n2 d h).1, Nat.lt_of_lt_of_le (n2 d h).2 f3.size⟩
        · exact ⟨Nat.le_trans f2.size h.1, h.2⟩
  · rintro l w2 ⟨acc, rfl, f2, s2, n2⟩
    simp
    exact ⟨f2, s2, n2⟩

/-- The order of a job, as its three cells. -/
def CS.orderV (x : CS) : Value := .agg #[.int .i64 x.job, .int .i64 x.kind, .int .i64 x.ver]
/-- What a phase's message is, its addresses yet open. -/
def CS.msg0 (x : CS) (k : Nat) : List Value :=
  [.int .i64 (2 * k + 1), .int .i64 0, .int .i64 0, .int .i64 0, .int .i64 (if k = 4 then 0 else x.job), .int .i64 (if k = 2 then 1 else if k = 3 then 2 else 0), .int .i64 (if k = 1 ∨ k = 2 then x.ver else 0), .int .i64 0, .int .i64 0, .string ByteArray.empty, .string ByteArray.empty]
theorem message_run (w : World) (x : CS) {k : Nat} (hk : 1 ≤ k ∧ k ≤ 4) (q : Value) :
    Run (invV Tryz.prog F.control_Control_send.inv "granary/control.message" (.iface (tyOf k) q) [x.orderV]) w fun r w' => r = .agg (x.msg0 k).toArray ∧ Fr (fun _ => False) w w' := by
  rcases (by omega : k = 1 ∨ k = 2 ∨ k = 3 ∨ k = 4) with rfl | rfl | rfl | rfl
  · show Run (invV Tryz.prog F.control_Control_send.inv "granary/control.message" (.iface 117 q) [x.orderV]) w _
    rw [F.control_Control_send.inv_117_message]
    unfold F.control_fetching_message
    simp
    refine Run_new fun c w1 hc hcw fr1 hcle => ?_
    have hc' : bk w1 c = some [.int .i64 x.job, .int .i64 x.kind, .int .i64 x.ver] := hc
    refine Run_new fun d w2 hd hdw fr2 hdle => ?_
    have hc2 := fr2.bk_some hc' id
    simp [hc2, buildV, fillV_cell, hd, hdw]
    exact ⟨by simp [CS.msg0], (fr1.trans fr2 fun _ _ => id).sto (.inr (Nat.le_trans fr1.size hdle)) _ _⟩
  · show Run (invV Tryz.prog F.control_Control_send.inv "granary/control.message" (.iface 120 q) [x.orderV]) w _
    rw [F.control_Control_send.inv_120_message]
    unfold F.control_swapping_message
    simp
    refine Run_new fun c w1 hc hcw fr1 hcle => ?_
    have hc' : bk w1 c = some [.int .i64 x.job, .int .i64 x.kind, .int .i64 x.ver] := hc
    refine Run_new fun d w2 hd hdw fr2 hdle => ?_
    have hc2 := fr2.bk_some hc' id
    simp [hc2, buildV, fillV_cell, hd, hdw]
    exact ⟨by simp [CS.msg0], (fr1.trans fr2 fun _ _ => id).sto (.inr (Nat.le_trans fr1.size hdle)) _ _⟩
  · show Run (invV Tryz.prog F.control_Control_send.inv "granary/control.message" (.iface 148 q) [x.orderV]) w _
    rw [F.control_Control_send.inv_148_message]
    unfold F.control_backing_message
    simp
    refine Run_new fun c w1 hc hcw fr1 hcle => ?_
    have hc' : bk w1 c = some [.int .i64 x.job, .int .i64 x.kind, .int .i64 x.ver] := hc
    refine Run_new fun d w2 hd hdw fr2 hdle => ?_
    have hc2 := fr2.bk_some hc' id
    simp [hc2, buildV, fillV_cell, hd, hdw]
    exact ⟨by simp [CS.msg0], (fr1.trans fr2 fun _ _ => id).sto (.inr (Nat.le_trans fr1.size hdle)) _ _⟩
  · show Run (invV Tryz.prog F.control_Control_send.inv "granary/control.message" (.iface 122 q) [x.orderV]) w _
    rw [F.control_Control_send.inv_122_message]
    unfold F.control_looking_message
    simp
    refine Run_new fun c w1 hc hcw fr1 hcle => ?_
    have hc' : bk w1 c = some [.int .i64 x.job, .int .i64 x.kind, .int .i64 x.ver] := hc
    refine Run_new fun d w2 hd hdw fr2 hdle => ?_
    have hc2 := fr2.bk_some hc' id
    simp [hc2, buildV, fillV_cell, hd, hdw]
    exact ⟨by simp [CS.msg0], (fr1.trans fr2 fun _ _ => id).sto (.inr (Nat.le_trans fr1.size hdle)) _ _⟩

/-- The ledger of a phase's value is where the phase lies. -/
theorem send_book (w : World) {k p : Nat} (hk : 1 ≤ k ∧ k ≤ 4) {Q : Value → World → Prop} :
    Run (invV Tryz.prog F.control_Control_send.inv "granary/control.book" (.iface (tyOf k) (.pointer (some ⟨p, 0, none⟩))) []) w Q ↔ Q (.pointer (some ⟨p, 0, none⟩)) w := by
  rcases (by omega : k = 1 ∨ k = 2 ∨ k = 3 ∨ k = 4) with rfl | rfl | rfl | rfl
  · show Run (invV Tryz.prog F.control_Control_send.inv "granary/control.book" (.iface 117 _) []) w Q ↔ _
    rw [F.control_Control_send.inv_117_book]; simp [F.control_ledger_book]
  · show Run (invV Tryz.prog F.control_Control_send.inv "granary/control.book" (.iface 120 _) []) w Q ↔ _
    rw [F.control_Control_send.inv_120_book]; simp [F.control_ledger_book]
  · show Run (invV Tryz.prog F.control_Control_send.inv "granary/control.book" (.iface 148 _) []) w Q ↔ _
    rw [F.control_Control_send.inv_148_book]; simp [F.control_ledger_book]
  · show Run (invV Tryz.prog F.control_Control_send.inv "granary/control.book" (.iface 122 _) []) w Q ↔ _
    rw [F.control_Control_send.inv_122_book]; simp [F.control_ledger_book]

theorem elM_app (l l' : List Ms) : elM (l ++ l') = elM l ++ elM l' := by simp [elM]
theorem msg_cells (x : CS) {k : Nat} (to : Int) : (x.msg k to).cells = (((x.msg0 k).set 1 (.int .i64 64)).set 2 (.int .i64 to)).set 3 (.int .i64 x.job) := rfl
/-- The messages of a phase go out. -/
theorem send_run {w : World} {b : Nat} {x : CS} {v : CV} {sv : Value} {rest : List Value} {p : Ph} (hb : bk w b = some (x.cells v)) (hx : x.now = some p) (hk : 1 ≤ p.kind ∧ p.kind ≤ 4) (hp : bk w v.p = some (sv :: rest)) (hs : SlW 1 w sv (elB p.said)) (hn : p.said.length ≤ 64) :
    Run (F.control_Control_send (.pointer (some ⟨b, 0, none⟩))) w fun r w' => Fr (fun _ => False) w w' ∧ SlW 11 w' r (elM x.sendS) ∧ New w w' r := by
  unfold F.control_Control_send
  have hface : (x.cells v)[7]? = some (.iface (tyOf p.kind) (.pointer (some ⟨v.p, 0, none⟩))) := by simp [CS.cells, CS.face, hx]
  simp [hb, hface, send_book w hk]
  refine (missing_run hp hs (by omega)).mono ?_
  rintro mv w1 ⟨f1, s1, n1⟩
  have hml := missK_len p.said p.said.length
  have hsl := s1.1.lenL
  simp at hsl
  have hsend : x.sendS = (missK p.said p.said.length).map (x.msg p.kind) := by unfold CS.sendS; rw [hx]
  rw [hsend]
  generalize hL : missK p.said p.said.length = L at *
  simp [hsl]
  refine Run_for L.length (fun i l w2 => ∃ acc, l = [acc, .int .i64 i] ∧ Fr (fun _ => False) w1 w2 ∧ SlW 11 w2 acc (elM ((L.take i).map (x.msg p.kind))) ∧ New w1 w2 acc ∧ SlW 1 w2 mv (elI L)) ⟨_, rfl, Fr.refl _ _, SlW.nil _ _, (fun _ h => h.elim), s1⟩ ?_ ?_
  · rintro i l w2 hi ⟨acc, rfl, f2, s2, n2, m2⟩
    have es : L[i]? = some L[i] := List.getElem?_eq_getElem hi
    obtain ⟨q, q1, q2⟩ := m2.1.rd1 (i := i) (y := .int .i64 L[i]) (by rw [elI_get, es]; rfl) .i64
    have wk := wrap_succ (n := i) (by omega)
    have hb2 : bk w2 b = some (x.cells v) := f2.bk_some (f1.bk_some hb id) id
    have hblt : b < w2.heap.size := bk_lt hb2
    simp [hi, q1, q2]
    refine Run.mono (Q := fun l w3 => ∃ c, l = [.pointer (some ⟨c, 0, none⟩)] ∧ bk w3 c = some (x.msg0 p.kind) ∧ wr w3 c = true ∧ w2.heap.size ≤ c ∧ Fr (fun _ => False) w2 w3) (Run_altM (by simp) ?_) ?_
    · have dr : Fr (fun _ => False) w2 w2.drew := (Fr.refl _ _).drew
      intro y hy
      simp at hy
      rcases hy with rfl | rfl
      · simp [hb2, hface]
        simp [CS.cells]
        refine (message_run w2.drew x hk _).mono ?_
        rintro _ w3 ⟨rfl, f3⟩
        refine Run_newSt (by simp) (by simp [CS.msg0]) (by simp [CS.msg0]) fun c w4 hc hcw f4 hle => ?_
        simp
        exact ⟨by simpa using hc, hcw, Nat.le_trans f3.size hle, (dr.trans f3 fun _ _ => id).trans f4 fun _ _ => id⟩
      · simp [hb2, hface]
        simp [CS.cells]
        refine Run_new fun c w3 hc hcw f3 hle => ?_
        have hb3 : bk w3 b = some (x.cells v) := f3.bk_some hb2 id
        refine (message_run w3 x hk _).mono ?_
        rintro _ w4 ⟨rfl, f4⟩
        have hc4 := f4.bk_some hc id
        have hw4 : wr w4 c = true := by rw [f4.wr (bk_lt hc) id]; exact hcw
        have hla : ∀ i (h : i < 11), isCell ((x.msg0 p.kind)[i]'h) = true := by
          intro i h
          rcases (by omega : i = 0 ∨ i = 1 ∨ i = 2 ∨ i = 3 ∨ i = 4 ∨ i = 5 ∨ i = 6 ∨ i = 7 ∨ i = 8 ∨ i = 9 ∨ i = 10) with rfl | rfl | rfl | rfl | rfl | rfl | rfl | rfl | rfl | rfl | rfl <;> simp [CS.msg0]
        simp [hc4, hw4, hb3, hface]
        refine ⟨rfl, fun y hy => ?_, ⟨by simp [CS.cells], rfl⟩, rfl, hle, ((dr.trans f3 fun _ _ => id).trans f4 fun _ _ => id).sto (.inr hle) _ _⟩
        obtain ⟨i, h, rfl⟩ := List.getElem_of_mem hy
        exact hla i h
    · rintro l3 w3 ⟨c, rfl, hc, hcw, hle, f3⟩
      have hb3 : bk w3 b = some (x.cells v) := f3.bk_some hb2 id
      have hbc : b ≠ c := by omega
      have h4 : (x.cells v)[4]? = some (.int .i64 x.job) := rfl
      have hm0 : (x.msg0 p.kind).length = 11 := rfl
      simp [hb3, hc, hcw, bk_sto, hbc, h4, hm0]
      have ecs : List.take 11 ((((x.msg0 p.kind).set 1 (Value.int .i64 64)).set 2 (Value.int .i64 L[i])).set 3 (Value.int .i64 x.job)) = (x.msg p.kind L[i]).cells := rfl
      rw [ecs]
      have fs : Fr (fun _ => False) w2 (sto (sto (sto w3.drew c 1 [Value.int .i64 64]) c 2 [Value.int .i64 L[i]]) c 3 [Value.int .i64 x.job]) := ((f3.drew.sto (.inr hle) _ _).sto (.inr hle) _ _).sto (.inr hle) _ _
      generalize sto (sto (sto w3.drew c 1 [Value.int .i64 64]) c 2 [Value.int .i64 L[i]]) c 3 [Value.int .i64 x.job] = w4 at fs ⊢
      refine Run_app1 (k := 11) (y := .agg (x.msg p.kind L[i]).cells.toArray) rfl (s2.fr fs fun _ _ => id) (by decide) rfl (by decide) (by simp [Ms.cells, CS.msg]) (by simp; omega) fun r w5 s5 f5 hin w6 f6 => ?_
      simp [wk]
      refine ⟨(f2.trans fs fun _ _ => id).new f5 fun d hd => (n2 d hd).1, ?_, fun d hd => ?_, ?_⟩
      · have et : elM ((L.take (i + 1)).map (x.msg p.kind)) = elM ((L.take i).map (x.msg p.kind)) ++ [(x.msg p.kind L[i]).cells] := by
          rw [List.take_add_one, es, List.map_append, elM_app]; rfl
        rw [List.map_take] at et
        simpa [et] using s5
      · rcases hin d hd with h | h
        · exact ⟨(n2 d h).1, Nat.lt_of_lt_of_le (Nat.lt_of_lt_of_le (n2 d h).2 fs.size) f5.size⟩
        · exact ⟨Nat.le_trans f2.size (Nat.le_trans fs.size h.1), h.2⟩
      · exact (m2.fr fs fun _ _ => id).fr f5 fun d h1 h2 => by have := (n1 d h1).2; have := (n2 d h2).1; omega
  · rintro l w2 ⟨acc, rfl, f2, s2, n2, m2⟩
    simp
    rw [List.take_of_length_le (Nat.le_refl _)] at s2
    exact ⟨f1.trans f2 fun _ _ => id, s2, n2.sub f1⟩

end Go.Proofs.YtpiceodfdjihhaaGreatDoor
