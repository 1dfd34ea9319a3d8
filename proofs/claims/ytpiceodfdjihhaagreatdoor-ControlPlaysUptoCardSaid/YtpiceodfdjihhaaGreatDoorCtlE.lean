/-
  Layer 15 (control), part E: a phase begins; a job ends.
-/
import Derived.Test.YtpiceodfdjihhaaGreatDoorCtlD
namespace Go.Proofs.YtpiceodfdjihhaaGreatDoor
open Go.Lift
set_option linter.unusedSimpArgs false

/-- What a call of a controller comes to: r, the messages. -/
structure Did (w w' : World) (b : Nat) (tag : Nat → Nat) (x' : CS) (r : Value) (out : List Ms) : Prop where
  fr : Fr (fun c => tag c ≠ 0) w w'
  ctl : ∃ v' tag', Ctl w' b x' v' tag' ∧ (∀ c, tag' c ≠ 0 → tag c ≠ 0 ∨ w.heap.size ≤ c) ∧ (∀ c, inB r c → tag' c = 0)
  out : SlW 11 w' r (elM out)
  new : New w w' r
theorem Did.none {w w' : World} {b : Nat} {x : CS} {v : CV} {tag : Nat → Nat} (h : Ctl w b x v tag) (f : Fr (fun _ => False) w w') : Did w w' b tag x (.slice none 0 0) [] :=
  ⟨f.mono fun _ h => h.elim, ⟨v, tag, h.fr0 f, fun _ h => .inl h, fun _ h => h.elim⟩, SlW.nil _ _, fun _ h => h.elim⟩
theorem Did.sub {w w1 w' : World} {b : Nat} {tag : Nat → Nat} {x' : CS} {r : Value} {out : List Ms} (h : Did w1 w' b tag x' r out) (f : Fr (fun c => tag c ≠ 0) w w1) : Did w w' b tag x' r out where
  fr := f.trans h.fr fun _ _ h => h
  ctl := by
    obtain ⟨v', tag', h1, h2, h3⟩ := h.ctl
    exact ⟨v', tag', h1, fun c hc => (h2 c hc).imp id fun h => Nat.le_trans f.size h, h3⟩
  out := h.out
  new := h.new.sub f

theorem Did.sub2 {w w1 w' : World} {b : Nat} {tag tag1 : Nat → Nat} {x' : CS} {r : Value} {out : List Ms} (h : Did w1 w' b tag1 x' r out) (f : Fr (fun c => tag c ≠ 0) w w1) (ht : ∀ c, tag1 c ≠ 0 → tag c ≠ 0 ∨ w.heap.size ≤ c) : Did w w' b tag x' r out where
  fr := f.trans h.fr fun c hc h => (ht c h).resolve_right (by omega)
  ctl := by
    obtain ⟨v', tag', h1, h2, h3⟩ := h.ctl
    exact ⟨v', tag', h1, fun c hc => (h2 c hc).elim (ht c) fun h => .inr (Nat.le_trans f.size h), h3⟩
  out := h.out
  new := h.new.sub f
open Classical in
/-- The marks, where a phase has begun. -/
noncomputable def mkTag (tag : Nat → Nat) (p : Nat) (sv hv : Value) (c : Nat) : Nat := if c = p then 2 else if inB sv c then 3 else if inB hv c then 4 else if tag c = 1 ∨ tag c = 5 then tag c else 0

section
variable {w : World} {b : Nat} {x : CS} {v : CV} {tag : Nat → Nat}
theorem enter_run {k p : Nat} {sv hv : Value} (h0 : Ctl0 w b x v tag) (hk : 1 ≤ k ∧ k ≤ 4) (hn : x.n ≤ 64) (hp : bk w p = some [sv, hv, .int .i64 0, .int .i64 1]) (hw : wr w p = true)
    (hs : SlW 1 w sv (elB (List.replicate x.n false))) (hh : SlW 1 w hv (elI (List.replicate x.n (-1)))) (tp : tag p = 0) (ts : ∀ c, inB sv c → tag c = 0 ∧ c ≠ p ∧ ¬ inB hv c ∧ c < w.heap.size) (th : ∀ c, inB hv c → tag c = 0 ∧ c ≠ p ∧ c < w.heap.size) :
    Run (F.control_Control_enter (.pointer (some ⟨b, 0, none⟩)) (.iface (tyOf k) (.pointer (some ⟨p, 0, none⟩)))) w fun r w' =>
      Fr (fun c => c = b) w w' ∧ (∃ v', Ctl w' b (x.enterS k).1 v' (mkTag tag p sv hv)) ∧ SlW 11 w' r (elM (x.enterS k).2) ∧ New w w' r := by
  unfold F.control_Control_enter
  have hpb : p ≠ b := fun h => by rw [h, h0.tb] at tp; cases tp
  simp [h0.blk, h0.wr, CS.cells]
  have hb1 : bk (sto w b 7 [Value.iface (tyOf k) (Value.pointer (some ⟨p, 0, none⟩))]) b = some ((x.enterS k).1.cells { v with p := p, sv := sv, hv := hv }) := by
    simp [h0.blk]; rfl
  have hw1 : wr (sto w b 7 [Value.iface (tyOf k) (Value.pointer (some ⟨p, 0, none⟩))]) b = true := by simp [h0.wr]
  have f1 : Fr (fun c => c = b) w (sto w b 7 [Value.iface (tyOf k) (Value.pointer (some ⟨p, 0, none⟩))]) := (Fr.refl (fun c => c = b) w).sto (.inl rfl) _ _
  generalize sto w b 7 [Value.iface (tyOf k) (Value.pointer (some ⟨p, 0, none⟩))] = w1 at *
  have hp1 : bk w1 p = some [sv, hv, .int .i64 0, .int .i64 1] := f1.bk_some hp hpb
  have hsb : ∀ c, inB sv c → c ≠ b := fun c hc he => by have := (ts c hc).1; rw [he, h0.tb] at this; cases this
  have hhb : ∀ c, inB hv c → c ≠ b := fun c hc he => by have := (th c hc).1; rw [he, h0.tb] at this; cases this
  have hs1 := hs.fr f1 fun c hc he => hsb c hc he
  have hh1 := hh.fr f1 fun c hc he => hhb c hc he
  refine (send_run hb1 (p := Ph.new k x.n) rfl hk hp1 hs1 (by simpa [Ph.new] using hn)).mono ?_
  rintro r w2 ⟨f2, s2, n2⟩
  have f3 : Fr (fun c => c = b) w w2 := f1.trans f2 fun _ _ h => h.elim
  refine ⟨f3, ⟨{ v with p := p, sv := sv, hv := hv }, ⟨⟨f2.bk_some hb1 id, ?_, ?_, ?_, ?_, ?_⟩, ?_⟩⟩, s2, n2.sub f1⟩
  · rw [f2.wr (bk_lt hb1) id]; exact hw1
  · have h1 : ¬ inB sv b := fun h => hsb b h rfl
    have h2 : ¬ inB hv b := fun h => hhb b h rfl
    simp [mkTag, hpb.symm, h1, h2, h0.tb]
  · intro c hc
    unfold mkTag at hc
    refine Nat.lt_of_lt_of_le ?_ f3.size
    split at hc
    · rename_i h; rw [h]; exact bk_lt hp
    · split at hc
      · rename_i h; exact (ts c h).2.2.2
      · split at hc
        · rename_i h; exact (th c h).2.2
        · split at hc
          · exact h0.bound c hc
          · exact absurd rfl hc
  all_goals first
    | (refine ⟨?_, fun c hc => ?_⟩)
    | skip
  · exact h0.lh.1.fr f3 fun c hc he => by have := h0.lh.2 c hc; rw [he, h0.tb] at this; cases this
  · have h5 := h0.lh.2 c hc
    have h1 : ¬ inB sv c := fun h => by have := (ts c h).1; omega
    have h2 : ¬ inB hv c := fun h => by have := (th c h).1; omega
    have h3 : c ≠ p := fun h => by rw [h, tp] at h5; cases h5
    simp [mkTag, h1, h2, h3, h5]
  · exact h0.lm.1.fr f3 fun c hc he => by have := h0.lm.2 c hc; rw [he, h0.tb] at this; cases this
  · have h5 := h0.lm.2 c hc
    have h1 : ¬ inB sv c := fun h => by have := (ts c h).1; omega
    have h2 : ¬ inB hv c := fun h => by have := (th c h).1; omega
    have h3 : c ≠ p := fun h => by rw [h, tp] at h5; cases h5
    simp [mkTag, h1, h2, h3, h5]
  · intro q hq
    cases hq
    refine ⟨f2.bk_some hp1 id, ?_, by simp [mkTag], hs1.fr f2 fun _ _ => id, fun c hc => ?_, hh1.fr f2 fun _ _ => id, fun c hc => ?_⟩
    · show Go.Lift.wr w2 p = true
      rw [f3.wr (bk_lt hp) hpb]; exact hw
    · have := ts c hc
      simp [mkTag, this.2.1, hc]
    · have := th c hc
      have h1 : ¬ inB sv c := fun h => (ts c h).2.2.1 hc
      simp [mkTag, this.2.1, h1, hc]
theorem phase_run {w0 w1 w2 : World} {k p : Nat} {sv hv : Value} (hbd : ∀ c, tag c ≠ 0 → c < w0.heap.size) (hk : 1 ≤ k ∧ k ≤ 4) (hn : x.n ≤ 64) (hf : Fresh0 w0 w1 x.n sv hv) (f2 : Fr (fun c => c = b) w1 w2) (h2 : Ctl0 w2 b x v tag)
    (hp : bk w2 p = some [sv, hv, .int .i64 0, .int .i64 1]) (hw : wr w2 p = true) (hle : w1.heap.size ≤ p) :
    Run (F.control_Control_enter (.pointer (some ⟨b, 0, none⟩)) (.iface (tyOf k) (.pointer (some ⟨p, 0, none⟩)))) w2 fun r w' => Did w0 w' b tag (x.enterS k).1 r (x.enterS k).2 := by
  have hb0 : b < w0.heap.size := hbd b (by rw [h2.tb]; decide)
  have z : ∀ c, w0.heap.size ≤ c → tag c = 0 := fun c hc => Classical.byContradiction fun h => by have := hbd c h; omega
  have hs := hf.said.fr f2 fun c hc he => by have := (hf.ns c hc).1; omega
  have hh := hf.holds.fr f2 fun c hc he => by have := (hf.nh c hc).1; omega
  have l1 := hf.fr.size
  have l2 := f2.size
  refine (enter_run h2 hk hn hp hw hs hh (z p (by omega)) (fun c hc => ?_) (fun c hc => ?_)).mono ?_
  · have := hf.ns c hc
    exact ⟨z c this.1, by omega, hf.apart c hc, by omega⟩
  · have := hf.nh c hc
    exact ⟨z c this.1, by omega, by omega⟩
  · rintro r w3 ⟨f3, ⟨v', hc⟩, s3, n3⟩
    have hb1 : ∀ c, c = b → tag c ≠ 0 := fun c he => by rw [he, h2.tb]; decide
    refine ⟨((hf.fr.mono fun _ h => h.elim).trans (f2.mono hb1) fun _ _ h => h).trans (f3.mono hb1) fun _ _ h => h, ⟨v', _, hc, fun c h => ?_, fun c h => ?_⟩, s3, (n3.sub f2).sub hf.fr⟩
    · unfold mkTag at h
      split at h
      · right; omega
      · split at h
        · rename_i hq; exact .inr (hf.ns c hq).1
        · split at h
          · rename_i hq; exact .inr (hf.nh c hq).1
          · split at h
            · exact .inl h
            · exact absurd rfl h
    · have hge := (n3 c h).1
      have hlp := bk_lt hp
      have h1 : ¬ inB sv c := fun hq => by have := (hf.ns c hq).2; omega
      have h2' : ¬ inB hv c := fun hq => by have := (hf.nh c hq).2; omega
      have h3 : c ≠ p := by omega
      simp [mkTag, h1, h2', h3, z c (by omega)]
theorem box4 (a c d e : Value) : buildV #[(Value.slice none 0 0), (Value.slice none 0 0), (Value.int IntKind.i64 0), (Value.int IntKind.i64 0)] [(0, 4, .agg #[a, c, d, e])] = some (.agg #[a, c, d, e]) := by
  rfl
theorem back_run (h0 : Ctl0 w b x v tag) (hn : x.n ≤ 64) :
    Run (F.control_Control_back (.pointer (some ⟨b, 0, none⟩))) w fun r w' => Did w w' b tag (x.enterS 3).1 r (x.enterS 3).2 := by
  unfold F.control_Control_back
  simp [h0.blk, CS.cells]
  refine (newLedger_run (n := x.n) (by omega)).mono ?_
  rintro _ w1 ⟨sv, hv, rfl, hf⟩
  simp [box4]
  refine Run_new fun p w2 hp hw f2 hle => ?_
  exact phase_run (k := 3) h0.bound (by omega) hn hf (f2.mono fun _ h => h.elim) ((h0.fr hf.fr fun _ h => h.elim).fr f2 fun _ h => h.elim) hp hw hle
theorem fetched_run (h0 : Ctl0 w b x v tag) (hn : x.n ≤ 64) (q : Value) :
    Run (F.control_fetching_done q (.pointer (some ⟨b, 0, none⟩))) w fun r w' => Did w w' b tag (x.enterS 2).1 r (x.enterS 2).2 := by
  unfold F.control_fetching_done
  simp [h0.blk, CS.cells]
  refine (newLedger_run (n := x.n) (by omega)).mono ?_
  rintro _ w1 ⟨sv, hv, rfl, hf⟩
  simp [box4]
  refine Run_new fun p w2 hp hw f2 hle => ?_
  exact phase_run (k := 2) h0.bound (by omega) hn hf (f2.mono fun _ h => h.elim) ((h0.fr hf.fr fun _ h => h.elim).fr f2 fun _ h => h.elim) hp hw hle

/-- A list of numbers, copied. -/
theorem clone_run {l : Value} {ns : List Int} (hs : Ints w l ns) (hn : ns.length ≤ 1048576) :
    Run (F.slices_Clone_inst l) w fun r w' => Fr (fun _ => False) w w' ∧ SlW 1 w' r (elI ns) ∧ New w w' r := by
  unfold F.slices_Clone_inst
  have hs' := hs
  obtain ⟨_, a, c, rfl, hc, hcc⟩ := hs'
  cases a with
  | none =>
    have : ns = [] := by
      rcases hcc with h | ⟨_, _, _, h, _⟩
      · have : (elI ns).length = 0 := by omega
        simpa [elI] using this
      · cases h
    subst this
    simp
    exact ⟨Fr.refl _ _, SlW.nil _ _, fun _ h => h.elim⟩
  | some a =>
    simp
    refine Run_bsl (k := 1) (vs := []) rfl (by simp) rfl (by simp [Builtin.zeroCells]) fun r w1 hr f1 hnew => ?_
    have hs1 := Sl.fr hs f1 fun _ _ => id
    rw [elI_len] at hs1
    refine Run_appM (k := 1) hr hs1 (by decide) rfl (by decide) (by simp [elI]) (by simp; omega) fun r2 w2 s2 f2 hin => ?_
    simp at s2
    refine ⟨f1.new f2 fun d hd => by have := hnew d hd; omega, s2, fun d hd => ?_⟩
    rcases hin d hd with h | h
    · have := hnew d h; have := f2.size; omega
    · exact ⟨Nat.le_trans f1.size h.1, h.2⟩
theorem end_book (w : World) {k p : Nat} (hk : 1 ≤ k ∧ k ≤ 4) {Q : Value → World → Prop} :
    Run (invV Tryz.prog F.control_Control_end.inv "granary/control.book" (.iface (tyOf k) (.pointer (some ⟨p, 0, none⟩))) []) w Q ↔ Q (.pointer (some ⟨p, 0, none⟩)) w := by
  rcases (by omega : k = 1 ∨ k = 2 ∨ k = 3 ∨ k = 4) with rfl | rfl | rfl | rfl
  · show Run (invV Tryz.prog F.control_Control_end.inv "granary/control.book" (.iface 117 _) []) w Q ↔ _
    rw [F.control_Control_end.inv_117_book]; simp [F.control_ledger_book]
  · show Run (invV Tryz.prog F.control_Control_end.inv "granary/control.book" (.iface 120 _) []) w Q ↔ _
    rw [F.control_Control_end.inv_120_book]; simp [F.control_ledger_book]
  · show Run (invV Tryz.prog F.control_Control_end.inv "granary/control.book" (.iface 148 _) []) w Q ↔ _
    rw [F.control_Control_end.inv_148_book]; simp [F.control_ledger_book]
  · show Run (invV Tryz.prog F.control_Control_end.inv "granary/control.book" (.iface 122 _) []) w Q ↔ _
    rw [F.control_Control_end.inv_122_book]; simp [F.control_ledger_book]
open Classical in
/-- The marks, where a job has ended. -/
noncomputable def endTag (tag : Nat → Nat) (r1 r2 : Value) (c : Nat) : Nat := if tag c = 1 then 1 else if inB r1 c ∨ inB r2 c then 5 else 0
theorem end_run {p : Ph} {o : Int} (h : Ctl w b x v tag) (hx : x.now = some p) (hk : 1 ≤ p.kind ∧ p.kind ≤ 4) (hn : p.said.length ≤ 64 ∧ p.holds.length ≤ 64) :
    Run (F.control_Control_end (.pointer (some ⟨b, 0, none⟩)) (.int .i64 o)) w fun r w' => r = .slice none 0 0 ∧ Did w w' b tag (x.endS p o).1 r [] := by
  unfold F.control_Control_end
  have hb := h.c0.blk
  have hp := h.now p hx
  have hpb : v.p ≠ b := fun he => by have := hp.tp; rw [he, h.c0.tb] at this; cases this
  have hface : (x.cells v)[7]? = some (.iface (tyOf p.kind) (.pointer (some ⟨v.p, 0, none⟩))) := by simp [CS.cells, CS.face, hx]
  have c4 : (x.cells v)[4]? = some (.int .i64 x.job) := rfl
  have c5 : (x.cells v)[5]? = some (.int .i64 x.kind) := rfl
  have c6 : (x.cells v)[6]? = some (.int .i64 x.ver) := rfl
  have p1 : (p.cells v)[1]? = some v.hv := rfl
  simp [hb, hface, end_book w hk, c4, c5, c6, hp.blk, p1]
  have dr : Fr (fun _ => False) w w.drew := (Fr.refl _ _).drew
  refine (clone_run (w := w.drew) (l := v.hv) (ns := p.holds) (hp.holds.1.fr dr fun _ _ => id) (by omega)).mono ?_
  rintro r1 w1 ⟨f1, s1, n1⟩
  have g1 : Fr (fun _ => False) w w1 := dr.trans f1 fun _ _ => id
  refine (missing_run (g1.bk_some hp.blk id) (hp.said.fr g1 fun _ _ => id) (by omega)).mono ?_
  rintro r2 w2 ⟨f2, s2, n2⟩
  have g2 : Fr (fun _ => False) w w2 := g1.trans f2 fun _ _ => id
  have hb1 : bk w1 b = some (x.cells v) := g1.bk_some hb id
  have hb2 : bk w2 b = some (x.cells v) := g2.bk_some hb id
  have hw2 : wr w2 b = true := by rw [g2.wr (bk_lt hb) id]; exact h.c0.wr
  have hlen : (x.cells v).length = 15 := rfl
  simp [hb1, hb2, hw2, c4, c5, c6, buildV, fillV_cell, s1.1.isCell, s2.1.isCell, hlen]
  refine ⟨rfl, rfl, rfl, ?_⟩
  have hb3 : bk (sto (sto (sto w2 b 9 [Value.int .i64 x.job, Value.int .i64 x.kind, Value.int .i64 x.ver, Value.int .i64 o, r1, r2]) b 8 [Value.bool true]) b 7 [Value.nilIface]) b =
      some ((x.endS p o).1.cells { v with lh := r1, lm := r2 }) := by simp [hb2]; rfl
  have hw3 : wr (sto (sto (sto w2 b 9 [Value.int .i64 x.job, Value.int .i64 x.kind, Value.int .i64 x.ver, Value.int .i64 o, r1, r2]) b 8 [Value.bool true]) b 7 [Value.nilIface]) b = true := by simp [hw2]
  have f3 : Fr (fun c => c = b) w2 (sto (sto (sto w2 b 9 [Value.int .i64 x.job, Value.int .i64 x.kind, Value.int .i64 x.ver, Value.int .i64 o, r1, r2]) b 8 [Value.bool true]) b 7 [Value.nilIface]) :=
    (((Fr.refl (fun c => c = b) w2).sto (.inl rfl) _ _).sto (.inl rfl) _ _).sto (.inl rfl) _ _
  generalize sto (sto (sto w2 b 9 [Value.int .i64 x.job, Value.int .i64 x.kind, Value.int .i64 x.ver, Value.int .i64 o, r1, r2]) b 8 [Value.bool true]) b 7 [Value.nilIface] = w3 at *
  have hblt := bk_lt hb
  have z : ∀ c, w.heap.size ≤ c → tag c = 0 := fun c hc => Classical.byContradiction fun h' => by have := h.c0.bound c h'; omega
  have l1 : w.heap.size ≤ w1.heap.size := g1.size
  have l2 := f2.size
  have l3 := f3.size
  have n1' : ∀ c, inB r1 c → w.heap.size ≤ c ∧ c < w1.heap.size := n1
  refine ⟨(g2.mono fun _ h => h.elim).trans (f3.mono fun c he => ?_) fun _ _ h => h, ⟨_, endTag tag r1 r2, ⟨⟨hb3, hw3, ?_, fun c hc => ?_, ⟨?_, fun c hc => ?_⟩, ⟨?_, fun c hc => ?_⟩⟩, fun q hq => by cases hq⟩, fun c hc => ?_, fun _ h => h.elim⟩, SlW.nil _ _, fun _ h => h.elim⟩
  · rw [he, h.c0.tb]; decide
  · simp [endTag, h.c0.tb]
  · unfold endTag at hc
    split at hc
    · rename_i h1; have := h.c0.bound c (by rw [h1]; decide); omega
    · split at hc
      · rename_i h1
        rcases h1 with h1 | h1
        · have := (n1 c h1).2; omega
        · have := (n2 c h1).2; omega
      · exact absurd rfl hc
  · exact (s1.1.fr f2 fun _ _ => id).fr f3 fun c hc he => by have := (n1' c hc).1; omega
  · have := z c (n1' c hc).1
    simp [endTag, this, hc]
  · exact s2.1.fr f3 fun c hc he => by have := (n2 c hc).1; omega
  · have := z c (by have := (n2 c hc).1; omega)
    simp [endTag, this, hc]
  · unfold endTag at hc
    split at hc
    · rename_i h1; left; rw [h1]; decide
    · split at hc
      · rename_i h1
        right
        rcases h1 with h1 | h1
        · exact (n1' c h1).1
        · have := (n2 c h1).1; omega
      · exact absurd rfl hc
end

end Go.Proofs.YtpiceodfdjihhaaGreatDoor
