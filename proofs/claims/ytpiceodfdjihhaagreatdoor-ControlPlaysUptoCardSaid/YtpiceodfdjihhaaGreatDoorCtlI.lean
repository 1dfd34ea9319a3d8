/-
  Layer 15 (control), part I: Report, New, Resume.
-/
import Derived.Test.YtpiceodfdjihhaaGreatDoorCtlH
namespace Go.Proofs.YtpiceodfdjihhaaGreatDoor
open Go.Lift
set_option linter.unusedSimpArgs false

/-- A report as a value. -/
def Rep.val (r : Rep) (hv mv : Value) : Value := .agg #[.int .i64 r.job, .int .i64 r.kind, .int .i64 r.version, .int .i64 r.outcome, hv, mv]
/-- What Report answers. -/
def Told (w w' : World) (x : CS) (res : Value) : Prop :=
  Fr (fun _ => False) w w' ∧ if x.ended = true then ∃ hv mv, res = .tuple #[x.last.val hv mv, .int .i64 0] ∧ SlW 1 w' hv (elI x.last.holds) ∧ SlW 1 w' mv (elI x.last.missing) ∧ New w w' hv ∧ New w w' mv ∧ (∀ c, inB hv c → ¬ inB mv c)
  else res = .tuple #[Rep.none.val (.slice none 0 0) (.slice none 0 0), .int .i64 151]

section
variable {w : World} {b : Nat} {x : CS} {v : CV} {tag : Nat → Nat}
theorem report_run (h : Ctl w b x v tag) (hok : COk x) : Run (F.control_Control_Report (.pointer (some ⟨b, 0, none⟩))) w fun r w' => Told w w' x r := by
  unfold F.control_Control_Report
  have hb := h.c0.blk
  simp
  refine Run_new fun c w1 hc hcw f1 hle => ?_
  have hb1 : bk w1 b = some (x.cells v) := f1.bk_some hb id
  have hc' : bk w1 c = some [.int .i64 0, .int .i64 0, .int .i64 0, .int .i64 0, .slice none 0 0, .slice none 0 0] := hc
  simp [hb1, c8_]
  refine Run_cond (fun he => ?_) (fun he => ?_)
  · have hh := (h.c0.lh.1.fr f1 fun _ _ => id)
    have hm := (h.c0.lm.1.fr f1 fun _ _ => id)
    have ecs : List.take 6 (List.drop 9 (x.cells v)) = [.int .i64 x.last.job, .int .i64 x.last.kind, .int .i64 x.last.version, .int .i64 x.last.outcome, v.lh, v.lm] := rfl
    simp [hb1, cells_len, ecs]
    refine Run_newSt rfl rfl (by simp [hh.isCell, hm.isCell]) fun d w2 hd hdw f2 hle2 => ?_
    have hd' : bk w2 d = some [.int .i64 x.last.job, .int .i64 x.last.kind, .int .i64 x.last.version, .int .i64 x.last.outcome, v.lh, v.lm] := hd
    simp [hd']
    have g2 : Fr (fun _ => False) w w2.drew := (f1.trans f2 fun _ _ => id).drew
    have dr : Fr (fun _ => False) w2 w2.drew := (Fr.refl _ _).drew
    refine (clone_run (w := w2.drew) ((hh.fr f2 fun _ _ => id).fr dr fun _ _ => id) (by have := hok.last.1; omega)).mono ?_
    rintro hv w3 ⟨f3, s3, n3⟩
    have hd3 := f3.bk_some hd' id
    simp [hd3]
    refine (clone_run (w := w3) (((hm.fr f2 fun _ _ => id).fr dr fun _ _ => id).fr f3 fun _ _ => id) (by have := hok.last.2; omega)).mono ?_
    rintro mv w4 ⟨f4, s4, n4⟩
    have hd4 := f4.bk_some hd3 id
    have hdw4 : wr w4 d = true := by
      rw [f4.wr (bk_lt hd3) id, f3.wr (bk_lt hd') id]; exact hdw
    have hdc : d ≠ c := by have := bk_lt hc'; omega
    have hc4 := f4.bk_some (f3.bk_some (f2.bk_some hc' id) id) id
    have hcw4 : wr w4 c = true := by
      rw [f4.wr (bk_lt (f3.bk_some (f2.bk_some hc' id) id)) id, f3.wr (bk_lt (f2.bk_some hc' id)) id]
      show Go.Lift.wr w2 c = true
      rw [f2.wr (bk_lt hc') id]; exact hcw
    simp [hd4, hdw4, s3.1.isCell, s4.1.isCell, cells_isCell s3.1.isCell, cells_isCell s4.1.isCell, bk_sto, hdc, Ne.symm hdc, hc4, hcw4, hd3]
    refine ⟨fun i hi => ?_, ?_⟩
    · rcases (by omega : i = 0 ∨ i = 1 ∨ i = 2 ∨ i = 3 ∨ i = 4 ∨ i = 5) with rfl | rfl | rfl | rfl | rfl | rfl <;> simp [s3.1.isCell, s4.1.isCell]
    have g4 : Fr (fun _ => False) w w4 := (g2.trans f3 fun _ _ => id).trans f4 fun _ _ => id
    have hle2' : w.heap.size ≤ d := Nat.le_trans f1.size hle2
    have e1 : w1.heap.size ≤ w2.heap.size := f2.size
    have e2 : w2.heap.size ≤ w3.heap.size := f3.size
    have e3 := f4.size
    have ld := bk_lt hd'
    have lc := bk_lt hc'
    have n3' : ∀ z, inB hv z → w2.heap.size ≤ z ∧ z < w3.heap.size := n3
    have gs : Fr (fun z => z = d ∨ z = c) w4 (sto (sto (sto w4 d 4 [hv]) d 5 [mv]) c 0 [Value.int .i64 x.last.job, Value.int .i64 x.last.kind, Value.int .i64 x.last.version, Value.int .i64 x.last.outcome, hv, mv]) :=
      (((Fr.refl (fun z => z = d ∨ z = c) w4).sto (.inl (.inl rfl)) _ _).sto (.inl (.inl rfl)) _ _).sto (.inl (.inr rfl)) _ _
    refine ⟨((g4.sto (.inr hle2') _ _).sto (.inr hle2') _ _).sto (.inr hle) _ _, ?_⟩
    rw [if_pos (by simpa using he)]
    have hs : w.heap.size ≤ w2.heap.size := g2.size
    refine ⟨hv, mv, rfl, (s3.fr f4 fun _ _ => id).fr gs fun z hz he => ?_, s4.fr gs fun z hz he => ?_, fun z hz => ?_, fun z hz => ?_, fun z h1 h2 => ?_⟩
    · have := (n3' z hz).1; omega
    · have := (n4 z hz).1; omega
    · have := n3' z hz; simp; omega
    · have := n4 z hz; simp; omega
    · have := (n3' z h1).2; have := (n4 z h2).1; omega
  · have he' : ¬ x.ended = true := by simpa using he
    simp [hc', hcw, buildV]
    exact ⟨f1.sto (.inr hle) _ _, by rw [if_neg he']; rfl⟩

theorem Clu.ldA {C : Clu} {nv : Value} {w : World} {b : Nat} (h : bk w b = some (C.cells nv)) : Go.Lift.ldA 23 (.pointer (some ⟨b, 0, none⟩)) w = some (C.val nv) := by
  rw [ldA_bk h (by simp [Clu.cells])]; rfl
/-- What a right definition gives. -/
theorem checkF_ok {C : Clu} (h : checkF C = 0) : settingP C ∧ 1 ≤ C.nodes.length ∧ C.nodes.length ≤ 64 := by
  have hk := h
  unfold checkF at hk
  split at hk
  · cases hk
  split at hk
  · cases hk
  rename_i hset
  split at hk
  · cases hk
  split at hk
  · cases hk
  split at hk
  · cases hk
  refine ⟨Classical.not_not.1 hset, ?_⟩
  omega
theorem COk.new {C : Clu} (h : checkF C = 0) : COk (CS.new C) := by
  obtain ⟨hset, h1, h2⟩ := checkF_ok h
  have e1 := hset 14 _ _ rfl rfl
  have e2 := hset 15 _ _ rfl rfl
  have e3 := hset 16 _ _ rfl rfl
  simp only [Clu.nums] at e1 e2 e3
  exact ⟨⟨h1, h2⟩, by simp only [CS.new]; omega, by simp only [CS.new]; omega, by simp only [CS.new]; omega, by simp [CS.new], (fun p hp => by cases hp), by simp [CS.new, Rep.none]⟩
/-- The marks of a new controller: its block. -/
def newTag (b c : Nat) : Nat := if c = b then 1 else 0
theorem ctl_new {w' : World} {b : Nat} {C : Clu} (hb : bk w' b = some ((CS.new C).cells ⟨0, .slice none 0 0, .slice none 0 0, .slice none 0 0, .slice none 0 0⟩)) (hw : wr w' b = true) :
    Ctl w' b (CS.new C) ⟨0, .slice none 0 0, .slice none 0 0, .slice none 0 0, .slice none 0 0⟩ (newTag b) := by
  refine ⟨⟨hb, hw, by simp [newTag], fun c hc => ?_, ⟨Sl.nil 1 _, fun _ h => h.elim⟩, ⟨Sl.nil 1 _, fun _ h => h.elim⟩⟩, fun p hp => by cases hp⟩
  unfold newTag at hc
  split at hc
  · rename_i h; rw [h]; exact bk_lt hb
  · exact absurd rfl hc
theorem new_run {C : Clu} {nv : Value} {pvs : List Value} (hN : Nodes w nv C.nodes pvs) (hF : Fits C) :
    Run (F.control_New (C.val nv)) w fun r w' => Fr (fun _ => False) w w' ∧ (checkF C ≠ 0 → r = .tuple #[.pointer none, .int .i64 (checkF C)]) ∧
      (checkF C = 0 → ∃ b v tag, r = .tuple #[.pointer (some ⟨b, 0, none⟩), .int .i64 0] ∧ Ctl w' b (CS.new C) v tag ∧ ∀ c, tag c ≠ 0 → w.heap.size ≤ c) := by
  unfold F.control_New
  simp [Clu.val]
  refine Run_new fun b0 w0 hb _ fr0 _ => ?_
  have hb0 : bk w0 b0 = some (C.cells nv) := by simpa using hb
  simp [-ldA_ptr, Clu.ldA hb0]
  refine (check_run (hN.fr0 fr0) hF).mono ?_
  rintro _ w1 ⟨fr1, rfl⟩
  have hb1 : bk w1 b0 = some (C.cells nv) := fr1.bk_some hb0 id
  have fr01 : Fr (fun _ => False) w w1 := fr0.trans fr1 fun _ _ => id
  by_cases hc : checkF C = 0
  case neg =>
    simp [hc]
    exact fr01
  obtain ⟨hset, _, _⟩ := checkF_ok hc
  have e1 := hset 14 _ _ rfl rfl
  have e2 := hset 15 _ _ rfl rfl
  have e3 := hset 16 _ _ rfl rfl
  simp only [Clu.nums] at e1 e2 e3
  have hl := (hN.fr0 fr01).lenL
  have k22 : (C.cells nv)[22]? = some nv := rfl
  have k15 : (C.cells nv)[15]? = some (.int .i64 C.resend) := rfl
  have k16 : (C.cells nv)[16]? = some (.int .i64 C.limit) := rfl
  have k17 : (C.cells nv)[17]? = some (.int .i64 C.patience) := rfl
  simp [hc, hb1, k22, k15, k16, k17, hl, buildV, fillV_cell]
  refine Run_new fun b w2 hb2 hw2 fr2 hle => ?_
  refine ⟨fr01.trans fr2 fun _ _ => id, b, rfl, _, _, ctl_new ?_ hw2, fun c hc => ?_⟩
  · rw [hb2]
    simp [CS.cells, CS.face, CS.new, Rep.none]
    omega
  · unfold newTag at hc
    split at hc
    · have := fr01.size; omega
    · exact absurd rfl hc

theorem Ctl.idle (h : Ctl w b x v tag) {o : Nat} {vs : List Value} {x' : CS} (hx' : x'.now = none) (hl : x'.last = x.last) (hc : setL (x.cells v) o vs = x'.cells v) : Ctl (sto w b o vs) b x' v tag := by
  have f : Fr (fun c => c = b) w (sto w b o vs) := (Fr.refl (fun c => c = b) w).sto (.inl rfl) _ _
  have hF : ∀ c, c = b → tag c = 1 := fun c he => by rw [he]; exact h.c0.tb
  refine ⟨⟨by rw [bk_sto_eq, h.c0.blk, Option.map_some, hc], by simpa using h.c0.wr, h.c0.tb, fun c hc => Nat.lt_of_lt_of_le (h.c0.bound c hc) f.size, ?_, ?_⟩, fun p hp => by rw [hx'] at hp; cases hp⟩
  · rw [hl]; exact ⟨h.c0.lh.1.fr f fun c hc he => (by have := h.c0.lh.2 c hc; rw [hF c he] at this; cases this), h.c0.lh.2⟩
  · rw [hl]; exact ⟨h.c0.lm.1.fr f fun c hc he => (by have := h.c0.lm.2 c hc; rw [hF c he] at this; cases this), h.c0.lm.2⟩

/-- A controller that was made since w. -/
structure Made_ (w w' : World) (b : Nat) (x : CS) (l : Value) (out : List Ms) : Prop where
  ctl : ∃ v tag, Ctl w' b x v tag ∧ (∀ c, tag c ≠ 0 → w.heap.size ≤ c) ∧ (∀ c, inB l c → tag c = 0)
  out : SlW 11 w' l (elM out)
  new : New w w' l
  ok : COk x
theorem resume_run {C : Clu} {nv : Value} {pvs : List Value} (hN : Nodes w nv C.nodes pvs) (hF : Fits C) (job kind version : Int) (isOpen : Bool) :
    Run (F.control_Resume (C.val nv) (.int .i64 job) (.int .i64 kind) (.int .i64 version) (.bool isOpen)) w fun r w' => Fr (fun _ => False) w w' ∧
      (checkF C ≠ 0 → r = .tuple #[.pointer none, .slice none 0 0, .int .i64 (checkF C)]) ∧
      (checkF C = 0 → match CS.resumeS C job kind version isOpen with
        | (none, _, e) => r = .tuple #[.pointer none, .slice none 0 0, .int .i64 e]
        | (some x, out, e) => ∃ b l, r = .tuple #[.pointer (some ⟨b, 0, none⟩), l, .int .i64 e] ∧ Made_ w w' b x l out) := by
  unfold F.control_Resume
  simp [Clu.val]
  refine Run_new fun b0 w0 hb _ fr0 _ => ?_
  have hb0 : bk w0 b0 = some (C.cells nv) := by simpa using hb
  simp [-ldA_ptr, Clu.ldA hb0]
  refine (new_run (hN.fr0 fr0) hF).mono ?_
  rintro r1 w1 ⟨fr1, h1, h2⟩
  have fr01 : Fr (fun _ => False) w w1 := fr0.trans fr1 fun _ _ => id
  by_cases hc : checkF C = 0
  case neg =>
    rw [h1 hc]
    simp [hc]
    exact fr01
  obtain ⟨b, v, tag, rfl, hC, htag⟩ := h2 hc
  have hnew := COk.new hc
  unfold CS.resumeS
  simp [hc]
  by_cases a1 : job < 0
  · simp [a1]; exact fr01
  by_cases a2 : 9007199254740992 < job
  · simp [a1, a2]; exact fr01
  simp [a1, a2]
  by_cases a3 : isOpen = true ∧ job = 0
  · obtain ⟨rfl, rfl⟩ := a3
    simp; exact fr01
  have hb1 := hC.c0.blk
  have hw1 := hC.c0.wr
  have htag' : ∀ c, tag c ≠ 0 → w.heap.size ≤ c := fun c h => Nat.le_trans fr0.size (htag c h)
  have hle : w.heap.size ≤ b := htag' b (by rw [hC.c0.tb]; decide)
  have hC2 : Ctl (sto w1 b 4 [Value.int .i64 job]) b { CS.new C with job := job } v tag := hC.idle rfl rfl rfl
  have f2 : Fr (fun _ => False) w (sto w1 b 4 [Value.int .i64 job]) := fr01.sto (.inr hle) _ _
  have ok2 : COk { CS.new C with job := job } := ⟨hnew.n, hnew.resend, hnew.limit, hnew.patience, by show 0 ≤ job ∧ job ≤ 9007199254740992; omega, (fun p hp => by cases hp), hnew.last⟩
  cases isOpen with
  | false =>
    simp [hb1, hw1, cells_len]
    exact ⟨f2, b, _, ⟨rfl, rfl⟩, ⟨_, _, hC2, htag', fun _ h => h.elim⟩, SlW.nil _ _, (fun _ h => h.elim), ok2⟩
  | true =>
    have a3' : ¬ job = 0 := fun h => a3 ⟨rfl, h⟩
    simp [a3', hb1, hw1, cells_len]
    have hb2 := hC2.c0.blk
    have hw2 := hC2.c0.wr
    have hlen2 : (({ CS.new C with job := job } : CS).cells v).length = 15 := rfl
    have key : ∀ k : Int, k = 1 ∨ k = 2 → 1 ≤ version → version ≤ 999999 →
        Run (F.control_Control_back (.pointer (some ⟨b, 0, none⟩))) (sto (sto (sto w1 b 4 [Value.int .i64 job]) b 5 [Value.int .i64 k]) b 6 [Value.int .i64 version]) fun r w' =>
          Fr (fun _ => False) w w' ∧ Made_ w w' b (({ CS.new C with job := job, kind := k, ver := version } : CS).enterS 3).1 r (({ CS.new C with job := job, kind := k, ver := version } : CS).enterS 3).2 := by
      intro k hk hv1 hv2
      have hC3 : Ctl (sto (sto w1 b 4 [Value.int .i64 job]) b 5 [Value.int .i64 k]) b { CS.new C with job := job, kind := k } v tag := hC2.idle rfl rfl rfl
      have hC4 : Ctl (sto (sto (sto w1 b 4 [Value.int .i64 job]) b 5 [Value.int .i64 k]) b 6 [Value.int .i64 version]) b { CS.new C with job := job, kind := k, ver := version } v tag := hC3.idle rfl rfl rfl
      have f4 := (f2.sto (.inr hle) 5 [Value.int .i64 k]).sto (.inr hle) 6 [Value.int .i64 version]
      refine (back_run hC4.c0 hnew.n.2).mono ?_
      intro r w' hd
      refine ⟨f4.trans hd.fr fun c hc ht => absurd (htag' c ht) (by omega), ?_, hd.out, hd.new.sub f4, ?_⟩
      · obtain ⟨v', tag', g1, g2, g3⟩ := hd.ctl
        exact ⟨v', tag', g1, fun c hc => (g2 c hc).elim (htag' c) fun h => Nat.le_trans f4.size h, g3⟩
      · exact CBase.enterS (x := { CS.new C with job := job, kind := k, ver := version }) ⟨hnew.n, hnew.resend, hnew.limit, hnew.patience, by show 0 ≤ job ∧ job ≤ 9007199254740992; omega, hnew.last⟩ (by omega) (by show k = 3 ↔ _; omega)
    by_cases hv1 : version < 1
    · by_cases h1 : kind = 1
      · simp [h1, hv1]; exact f2
      · by_cases h2 : kind = 2
        · simp [h2, hv1]; exact f2
        · simp [h1, h2]; exact f2
    by_cases hv2 : 999999 < version
    · by_cases h1 : kind = 1
      · simp [h1, hv1, hv2]; exact f2
      · by_cases h2 : kind = 2
        · simp [h2, hv1, hv2]; exact f2
        · simp [h1, h2]; exact f2
    by_cases h1 : kind = 1
    · subst h1
      simp [hv1, hv2, hb1, hw1, cells_len]
      refine (key 1 (.inl rfl) (by omega) (by omega)).mono ?_
      intro r w' hr
      exact ⟨hr.1, b, _, ⟨rfl, rfl⟩, hr.2⟩
    · by_cases h2 : kind = 2
      · subst h2
        simp [hv1, hv2, hb1, hw1, cells_len]
        refine (key 2 (.inr rfl) (by omega) (by omega)).mono ?_
        intro r w' hr
        exact ⟨hr.1, b, _, ⟨rfl, rfl⟩, hr.2⟩
      · simp [h1, h2]; exact f2
end

end Go.Proofs.YtpiceodfdjihhaaGreatDoor
