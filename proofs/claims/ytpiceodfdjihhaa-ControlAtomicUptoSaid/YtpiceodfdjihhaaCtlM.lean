/-
  Layer 15 (control), part M: a controller of one's own beside other memory; a job answered.
-/
import Derived.Test.YtpiceodfdjihhaaCtlL
import Derived.Test.YtpiceodfdjihhaaCtlC
namespace Go.Proofs.Ytpiceodfdjihhaa
open Go.Lift
set_option linter.unusedSimpArgs false

/-- A controller that was made since w0; the blocks of K are none of its. -/
structure OwnC (w0 w : World) (b : Nat) (x : CS) (K : Nat → Prop) : Prop where
  fr : Fr (fun _ => False) w0 w
  ctl : ∃ v tag, Ctl w b x v tag ∧ (∀ c, tag c ≠ 0 → w0.heap.size ≤ c) ∧ ∀ c, K c → tag c = 0 ∧ c < w.heap.size
  ok : COk x

section
variable {w0 w w' : World} {b : Nat} {x : CS} {K K' : Nat → Prop} {G : Nat → Prop}
theorem OwnC.mono (h : OwnC w0 w b x K) (hk : ∀ c, K' c → K c) : OwnC w0 w b x K' :=
  ⟨h.fr, let ⟨v, tag, h1, h2, h3⟩ := h.ctl; ⟨v, tag, h1, h2, fun c hc => h3 c (hk c hc)⟩, h.ok⟩
theorem OwnC.frK (h : OwnC w0 w b x K) (f : Fr G w w') (hG : ∀ c, G c → w0.heap.size ≤ c ∧ K c) : OwnC w0 w' b x (fun c => K c ∨ (w.heap.size ≤ c ∧ c < w'.heap.size)) := by
  obtain ⟨v, tag, h1, h2, h3⟩ := h.ctl
  refine ⟨h.fr.new f fun c hc => (hG c hc).1, ⟨v, tag, h1.fr f fun c hc => (h3 c (hG c hc).2).1, h2, fun c hc => ?_⟩, h.ok⟩
  rcases hc with hc | hc
  · exact ⟨(h3 c hc).1, Nat.lt_of_lt_of_le (h3 c hc).2 f.size⟩
  · exact ⟨Classical.byContradiction fun ht => by have := h1.c0.bound c ht; omega, hc.2⟩
theorem OwnC.fr0 (h : OwnC w0 w b x K) (f : Fr (fun _ => False) w w') : OwnC w0 w' b x (fun c => K c ∨ (w.heap.size ≤ c ∧ c < w'.heap.size)) := h.frK f fun _ hc => hc.elim
theorem OwnC.did (h : OwnC w0 w b x K) {v : CV} {tag : Nat → Nat} (hC : Ctl w b x v tag) (h2 : ∀ c, tag c ≠ 0 → w0.heap.size ≤ c) (h3 : ∀ c, K c → tag c = 0 ∧ c < w.heap.size) {x' : CS} {r : Value} {out : List Ms} (hd : Did w w' b tag x' r out) (hok : COk x') :
    OwnC w0 w' b x' (fun c => K c ∨ inB r c) ∧ SlW 11 w' r (elM out) ∧ New w w' r ∧ Fr (fun c => w0.heap.size ≤ c ∧ ¬ K c) w w' := by
  obtain ⟨v', tag', g1, g2, g3⟩ := hd.ctl
  refine ⟨⟨h.fr.new hd.fr h2, ⟨v', tag', g1, fun c hc => (g2 c hc).elim (h2 c) fun hl => Nat.le_trans h.fr.size hl, fun c hc => ?_⟩, hok⟩, hd.out, hd.new, hd.fr.mono fun c hc => ⟨h2 c hc, fun hk => hc (h3 c hk).1⟩⟩
  rcases hc with hc | hc
  · have := h3 c hc
    exact ⟨Classical.byContradiction fun ht => (g2 c ht).elim (fun h => h this.1) fun h => by omega, Nat.lt_of_lt_of_le this.2 hd.fr.size⟩
  · exact ⟨g3 c hc, (hd.new c hc).2⟩
/-- A call: what it answers, and that the controller is one's own yet. -/
def Call (w0 w w' : World) (b : Nat) (K : Nat → Prop) (a : Ans) (res : Value) : Prop :=
  ∃ l, res = .tuple #[l, .int .i64 a.err] ∧ OwnC w0 w' b a.x (fun c => K c ∨ inB l c) ∧ SlW 11 w' l (elM a.out) ∧ New w w' l ∧ Fr (fun c => w0.heap.size ≤ c ∧ ¬ K c) w w'
theorem OwnC.begin_ (h : OwnC w0 w b x K) (k n : Int) : Run (F.control_Control_Begin (.pointer (some ⟨b, 0, none⟩)) (.int .i64 k) (.int .i64 n)) w fun r w' => Call w0 w w' b K (x.beginS k n) r := by
  obtain ⟨v, tag, h1, h2, h3⟩ := h.ctl
  refine (begin_run h1 h.ok k n).mono ?_
  rintro r w' ⟨l, rfl, hd⟩
  exact ⟨l, rfl, h.did h1 h2 h3 hd (h.ok.beginS k n)⟩
theorem OwnC.take (h : OwnC w0 w b x K) {m : Ms} (hm : m.fine) : Run (F.control_Control_Take (.pointer (some ⟨b, 0, none⟩)) m.val) w fun r w' => Call w0 w w' b K ⟨(x.takeS m).1, (x.takeS m).2, 0⟩ r := by
  obtain ⟨v, tag, h1, h2, h3⟩ := h.ctl
  refine (take_run h1 h.ok m hm).mono ?_
  rintro r w' ⟨l, rfl, hd⟩
  exact ⟨l, rfl, h.did h1 h2 h3 hd (h.ok.takeS m)⟩
theorem OwnC.tick (h : OwnC w0 w b x K) : Run (F.control_Control_Tick (.pointer (some ⟨b, 0, none⟩))) w fun r w' => Call w0 w w' b K ⟨x.tickS.1, x.tickS.2, 0⟩ r := by
  obtain ⟨v, tag, h1, h2, h3⟩ := h.ctl
  refine (tick_run h1 h.ok).mono ?_
  rintro r w' ⟨l, rfl, hd⟩
  exact ⟨l, rfl, h.did h1 h2 h3 hd h.ok.tickS⟩
theorem OwnC.stop (h : OwnC w0 w b x K) : Run (F.control_Control_Stop (.pointer (some ⟨b, 0, none⟩))) w fun r w' => Call w0 w w' b K x.stopS r := by
  obtain ⟨v, tag, h1, h2, h3⟩ := h.ctl
  refine (stop_run h1 h.ok).mono ?_
  rintro r w' ⟨l, rfl, hd⟩
  exact ⟨l, rfl, h.did h1 h2 h3 hd h.ok.stopS⟩
theorem OwnC.revive (h : OwnC w0 w b x K) : Run (F.control_Control_Revive (.pointer (some ⟨b, 0, none⟩))) w fun r w' => Call w0 w w' b K x.reviveS r := by
  obtain ⟨v, tag, h1, h2, h3⟩ := h.ctl
  refine (revive_run h1 h.ok).mono ?_
  rintro r w' ⟨l, rfl, hd⟩
  exact ⟨l, rfl, h.did h1 h2 h3 hd h.ok.reviveS⟩
theorem OwnC.busy (h : OwnC w0 w b x K) {Q : Value → World → Prop} : Run (F.control_Control_Busy (.pointer (some ⟨b, 0, none⟩))) w Q ↔ Q (.bool x.now.isSome) w := by
  obtain ⟨v, tag, h1, h2, h3⟩ := h.ctl
  exact busy_run h1
theorem OwnC.report (h : OwnC w0 w b x K) : Run (F.control_Control_Report (.pointer (some ⟨b, 0, none⟩))) w fun r w' => Told w w' x r := by
  obtain ⟨v, tag, h1, h2, h3⟩ := h.ctl
  exact report_run h1 h.ok
end

/-- No call sends more than one message to a node. -/
theorem sendS_len {x : CS} (h : COk x) : x.sendS.length ≤ 64 := by
  unfold CS.sendS
  split
  · simp
  · rename_i p hp
    rw [List.length_map]
    have := missK_len p.said p.said.length
    have := (h.now p hp).said
    have := h.n.2
    omega
theorem enterS_len {x : CS} (h : x.n ≤ 64) (k : Nat) : (x.enterS k).2.length ≤ 64 := by
  rw [enterS_out]; simp [CS.allS]; exact h
theorem takeS_len {x : CS} (h : COk x) (m : Ms) : (x.takeS m).2.length ≤ 64 := by
  unfold CS.takeS
  have hn := h.n.2
  split
  · simp
  repeat' split
  all_goals first | (simp; done) | skip
  · unfold CS.refusedS; split
    · exact enterS_len hn 3
    · simp
  · unfold CS.doneS; split
    · exact enterS_len (x := { x with now := _ }) hn 2
    · simp [CS.endS]

/-- A message that a controller sends. -/
def Sent (m : Ms) : Prop := ∃ (y : CS) (k : Nat) (to : Int), 1 ≤ k ∧ k ≤ 4 ∧ m = y.msg k to
theorem Sent.cells {m : Ms} (h : Sent m) : m.cells.all isCell = true := by
  obtain ⟨y, k, to, _, _, rfl⟩ := h
  simp [Ms.cells, CS.msg]
theorem Sent.kind {m : Ms} (h : Sent m) : 0 ≤ m.kind ∧ m.kind ≤ 9 := by
  obtain ⟨y, k, to, h1, h2, rfl⟩ := h
  simp only [CS.msg]; omega
theorem Sent.fine {m : Ms} (h : Sent m) : m.fine := by
  obtain ⟨y, k, to, _, _, rfl⟩ := h
  exact ⟨rfl, rfl⟩
theorem enterS_sent (x : CS) {k : Nat} (hk : 1 ≤ k ∧ k ≤ 4) {m : Ms} (h : m ∈ (x.enterS k).2) : Sent m := by
  simp only [CS.enterS, CS.sendS] at h
  obtain ⟨n, _, rfl⟩ := List.mem_map.1 h
  exact ⟨_, k, n, hk.1, hk.2, rfl⟩
theorem takeS_out {x : CS} {m z : Ms} (h : z ∈ (x.takeS m).2) : Sent z := by
  unfold CS.takeS at h
  split at h
  · cases h
  split at h
  · cases h
  split at h
  · cases h
  split at h
  · unfold CS.refusedS at h
    split at h
    · exact enterS_sent x (by omega) h
    · cases h
  split at h
  · cases h
  · unfold CS.doneS at h
    split at h
    · exact enterS_sent _ (by omega) h
    · cases h
theorem ansOf_fine (m : Ms) (h : Int) : (ansOf m h).fine := ⟨rfl, rfl⟩
theorem elM_get (l : List Ms) (i : Nat) : (elM l)[i]? = (l[i]?).map Ms.cells := by simp [elM]

section
variable {w0 w : World} {b : Nat} {x : CS} {K : Nat → Prop}
theorem answers_run (h : OwnC w0 w b x K) {l : Value} {ms : List Ms} (hs : Sl 11 w l (elM ms)) (hK : ∀ c, inB l c → K c) (hl : ms.length ≤ 64) (hkd : ∀ m ∈ ms, 0 ≤ m.kind ∧ m.kind ≤ 9) (hold : Int) :
    Run (F.granarylaw15_answers (.pointer (some ⟨b, 0, none⟩)) l (.int .i64 hold)) w fun r w' => ∃ lo, r = .tuple #[lo, .bool true] ∧ OwnC w0 w' b (x.answersS hold ms).1 (fun c => K c ∨ inB lo c) ∧
      SlW 11 w' lo (elM (x.answersS hold ms).2) ∧ New w w' lo ∧ Fr (fun c => w0.heap.size ≤ c ∧ ¬ K c) w w' := by
  unfold F.granarylaw15_answers
  have hsl := hs.lenL
  simp at hsl
  simp
  have hw0 := h.fr.size
  refine Run_for ms.length (fun i lv w2 => ∃ lo, lv = [lo, .int .i64 i] ∧ OwnC w0 w2 b (x.answersS hold (ms.take i)).1 (fun c => K c ∨ inB lo c) ∧ SlW 11 w2 lo (elM (x.answersS hold (ms.take i)).2) ∧ New w w2 lo ∧
    Fr (fun c => w0.heap.size ≤ c ∧ ¬ K c) w w2 ∧ (x.answersS hold (ms.take i)).2.length ≤ 64 * i) ⟨_, rfl, h.mono fun c hc => hc.elim id fun h => h.elim, SlW.nil _ _, (fun _ h => h.elim), Fr.refl _ _, by simp [CS.answersS]⟩ ?_ ?_
  · rintro i lv w2 hi ⟨lo, rfl, h2, s2, n2, f2, len2⟩
    have em : ms[i]? = some ms[i] := List.getElem?_eq_getElem hi
    have hm := hkd _ (List.getElem_mem hi)
    generalize ms[i] = m at em hm
    have hs2 : Sl 11 w2 l (elM ms) := hs.fr f2 fun c hc hq => hq.2 (hK c hc)
    obtain ⟨q, o, c, i1, i2, i3, i4, _⟩ := hs2.rd (by decide) (e := m.cells) (by rw [elM_get, em]; rfl) .i64
    have g0 : c[o]? = some (.int .i64 m.kind) := take_get (j := 0) i4 (by decide)
    have g1 : c[o + 1]? = some (.int .i64 m.sender) := take_get (j := 1) i4 (by decide)
    have g2 : c[o + 2]? = some (.int .i64 m.to) := take_get (j := 2) i4 (by decide)
    have g3 : c[o + 3]? = some (.int .i64 m.id) := take_get (j := 3) i4 (by decide)
    have g4 : c[o + 4]? = some (.int .i64 m.epoch) := take_get (j := 4) i4 (by decide)
    have g5 : c[o + 5]? = some (.int .i64 m.seq) := take_get (j := 5) i4 (by decide)
    have g6 : c[o + 6]? = some (.int .i64 m.version) := take_get (j := 6) i4 (by decide)
    have wi := wrap_succ (n := i) (by omega)
    have wk : IntKind.i64.wrap (m.kind + 1) = m.kind + 1 := wrap_small (by omega) (by omega)
    simp [hsl, hi, i1, i2, g0, g1, g2, g3, g4, g5, wk, buildV, fillV_cell]
    refine Run_new fun e w3 he hew f3 hle => ?_
    have dr : Fr (fun _ => False) w2 w2.drew := (Fr.refl _ _).drew
    have f23 : Fr (fun _ => False) w2 w3 := dr.trans f3 fun _ _ => id
    have iq : bk w3 q = some c := f23.bk_some i2 id
    have hqe : q ≠ e := by
      have := bk_lt i2
      have hd : w2.drew.heap.size = w2.heap.size := rfl
      omega
    simp at he
    have hle' : w2.heap.size ≤ e := hle
    have hok := h2.ok
    have hlen := takeS_len hok (ansOf m hold)
    have etake : ms.take (i + 1) = ms.take i ++ [m] := by rw [List.take_add_one, em]; rfl
    have est : x.answersS hold (ms.take (i + 1)) = (((x.answersS hold (ms.take i)).1.takeS (ansOf m hold)).1, (x.answersS hold (ms.take i)).2 ++ ((x.answersS hold (ms.take i)).1.takeS (ansOf m hold)).2) := by
      rw [etake, answersS_append]
      simp [CS.answersS]
    have tail : ∀ (w5 : World) (cs : List Value) (P : Value → World → Prop), Fr (fun _ => False) w2 w5 → cs = (ansOf m hold).cells →
        (∀ r w6, Run (appM 44 11 104 #[(Value.int IntKind.i64 0), (Value.int IntKind.i64 0), (Value.int IntKind.i64 0), (Value.int IntKind.i64 0), (Value.int IntKind.i64 0), (Value.int IntKind.i64 0), (Value.int IntKind.i64 0), (Value.int IntKind.i64 0), (Value.int IntKind.i64 0), (Value.string ByteArray.empty), (Value.string ByteArray.empty)] lo r) w6
          (fun a w' => OwnC w0 w' b (x.answersS hold (ms.take (i + 1))).1 (fun c => K c ∨ inB a c) ∧ SlW 11 w' a (elM (x.answersS hold (ms.take (i + 1))).2) ∧ New w w' a ∧ Fr (fun c => w0.heap.size ≤ c ∧ ¬ K c) w w' ∧
            (x.answersS hold (ms.take (i + 1))).2.length ≤ 64 * (i + 1)) → P (.tuple #[r, .int .i64 0]) w6) →
        Run (F.control_Control_Take (.pointer (some ⟨b, 0, none⟩)) (.agg cs.toArray)) w5 P := by
      intro w5 cs P f25 hcs hP
      subst hcs
      have h5 := h2.fr0 f25
      refine (h5.take (ansOf_fine m hold)).mono ?_
      rintro _ w6 ⟨r, rfl, h6, s6, n6, f6⟩
      refine hP r w6 ?_
      have s5 : SlW 11 w6 lo (elM (x.answersS hold (ms.take i)).2) := (s2.fr f25 fun _ _ => id).fr f6 fun c hc hq => hq.2 (.inl (.inr hc))
      have e25 := f25.size
      have e56 := f6.size
      have hws := f2.size
      refine Run_appM (k := 11) s5 s6.1 (by decide) rfl (by decide) ?_ (by simp; omega) fun r7 w7 s7 f7 hin7 => ?_
      · intro y hy
        obtain ⟨z, hz, rfl⟩ := List.mem_map.1 hy
        exact (takeS_out hz).cells
      · rw [est]
        have h7 := h6.frK f7 fun c hc => ⟨Nat.le_trans hw0 (n2 c hc).1, .inl (.inl (.inr hc))⟩
        have e67 := f7.size
        refine ⟨h7.mono fun c hc => ?_, by simpa [elM_app] using s7, fun c hc => ?_, ?_, by simp; omega⟩
        · rcases hc with hc | hc
          · exact .inl (.inl (.inl (.inl hc)))
          · rcases hin7 c hc with hd | hd
            · exact .inl (.inl (.inl (.inr hd)))
            · exact .inr hd
        · rcases hin7 c hc with hd | hd
          · have := n2 c hd; omega
          · omega
        · have g6 : Fr (fun c => w0.heap.size ≤ c ∧ ¬ K c) w w6 := (f2.trans (f25.mono fun _ h => h.elim) fun _ _ h => h).trans f6 fun c hc hq => ⟨hq.1, fun hk => hq.2 (.inl (.inl hk))⟩
          exact g6.trans f7 fun c hc hq => absurd (n2 c hq).1 (by omega)
    have fs : ∀ vs : List Value, Fr (fun _ => False) w2 (sto w3 e 0 vs) := fun vs => f23.sto (.inr hle') _ _
    by_cases k3 : m.kind = 3
    · simp [he, hew, iq, bk_sto, hqe, g0, g1, g2, g3, g4, g5, k3, i1, g6]
      refine tail _ _ _ ((fs _).sto (.inr hle') _ _) (by simp [ansOf, Ms.cells, k3]) fun r w6 hr => ?_
      simp [F.granarylaw15_num]
      refine hr.mono ?_
      rintro a w7 ⟨h1, h2, h3, h4, h5⟩
      simp [wi]
      exact ⟨h1, h2, h3, h4, h5⟩
    by_cases k5 : m.kind = 5
    · simp [he, hew, iq, bk_sto, hqe, g0, g1, g2, g3, g4, g5, k5, i1, g6]
      refine tail _ _ _ ((fs _).sto (.inr hle') _ _) (by simp [ansOf, Ms.cells, k5]) fun r w6 hr => ?_
      simp [F.granarylaw15_num]
      refine hr.mono ?_
      rintro a w7 ⟨h1, h2, h3, h4, h5⟩
      simp [wi]
      exact ⟨h1, h2, h3, h4, h5⟩
    · simp [he, hew, iq, bk_sto, hqe, g0, g1, g2, g3, g4, g5, k3, k5, i1]
      refine tail _ _ _ (fs _) (by simp [ansOf, Ms.cells, k3, k5]) fun r w6 hr => ?_
      simp [F.granarylaw15_num]
      refine hr.mono ?_
      rintro a w7 ⟨h1, h2, h3, h4, h5⟩
      simp [wi]
      exact ⟨h1, h2, h3, h4, h5⟩
  · rintro lv w2 ⟨lo, rfl, h2, s2, n2, f2, len2⟩
    simp [hsl]
    rw [List.take_of_length_le (Nat.le_refl _)] at h2 s2
    exact ⟨h2, s2, n2, f2⟩
end
end Go.Proofs.Ytpiceodfdjihhaa
