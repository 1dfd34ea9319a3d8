/-
  Layer 15 (control), part N: a job in calm.
-/
import Derived.Test.YtpiceodfdjihhaaCtlM
namespace Go.Proofs.Ytpiceodfdjihhaa
open Go.Lift
set_option linter.unusedSimpArgs false

/-- A job begins. -/
theorem beginS_ok {x : CS} (hx : x.now = none) {kind v : Int} (hk : 1 ≤ kind ∧ kind ≤ 3) (hv : (kind = 3 → v = 0) ∧ (kind ≠ 3 → 1 ≤ v ∧ v ≤ 999999)) (hj : x.job < 9007199254740992) :
    x.beginS kind v = ⟨(({ x with job := x.job + 1, kind := kind, ver := v } : CS).enterS (if kind = 3 then 4 else kind.toNat)).1, (({ x with job := x.job + 1, kind := kind, ver := v } : CS).enterS (if kind = 3 then 4 else kind.toNat)).2, 0⟩ := by
  unfold CS.beginS
  rw [hx, if_neg (by simp), if_neg (fun h => h hk), if_neg (by omega), if_neg (by omega)]
/-- A job that has succeeded. -/
def CS.wonS (x : CS) (kind v h : Int) : CS :=
  { x with job := x.job + 1, kind := kind, ver := v, now := none, ended := true, last := ⟨x.job + 1, kind, v, 1, List.replicate x.n (if kind = 3 then h else v), []⟩ }

section
variable {w0 w : World} {b : Nat} {x : CS} {K : Nat → Prop}
set_option maxHeartbeats 1000000 in
theorem goes_run (h : OwnC w0 w b x K) (hx : x.now = none) (hj : x.job < 9007199254740992) {C : Clu} {nv : Value} (hnv : lenL nv = some (.int .i64 x.n)) {kind v hold job : Int} (hk : 1 ≤ kind ∧ kind ≤ 3) (hv : 1 ≤ v ∧ v ≤ 999999) (hjob : job = x.job + 1) :
    Run (F.granarylaw15_goes (.pointer (some ⟨b, 0, none⟩)) (C.val nv) (.int .i64 kind) (.int .i64 v) (.int .i64 hold) (.int .i64 job)) w fun r w' =>
      r = .bool true ∧ OwnC w0 w' b (x.wonS kind (if kind = 3 then 0 else v) hold) K ∧ Fr (fun c => w0.heap.size ≤ c ∧ ¬ K c) w w' := by
  unfold F.granarylaw15_goes
  subst hjob
  have hw0 := h.fr.size
  have hn := h.ok.n
  simp [Clu.val]
  refine Run_new fun c w1 hc hcw f1 hle => ?_
  have hc' : bk w1 c = some (C.cells nv) := by simpa using hc
  have k22 : (C.cells nv)[22]? = some nv := rfl
  obtain ⟨K1, hK1, h1⟩ : ∃ K1 : Nat → Prop, (∀ c, K1 c ↔ K c ∨ (w.heap.size ≤ c ∧ c < w1.heap.size)) ∧ OwnC w0 w1 b x K1 := ⟨_, fun _ => Iff.rfl, h.fr0 f1⟩
  have hcK : K1 c := (hK1 c).2 (.inr ⟨hle, bk_lt hc'⟩)
  refine Run.mono (Q := fun o w2 => w2 = w1 ∧ o = Out.norm [.int .i64 (if kind = 3 then 0 else v)]) ?_ ?_
  · refine Run_cond (fun hh => ?_) (fun hh => ?_)
    · have : kind = 3 := by simpa using hh
      simp [this]
    · have : ¬ kind = 3 := by simpa using hh
      simp [this]
  rintro o w2 ⟨rfl, rfl⟩
  simp
  refine (h1.begin_ kind (if kind = 3 then 0 else v)).mono ?_
  have hbeg := beginS_ok hx hk (v := if kind = 3 then 0 else v) ⟨fun hh => by rw [if_pos hh], fun hh => by rw [if_neg hh]; exact hv⟩ hj
  rw [hbeg]
  rintro _ w3 ⟨l, rfl, h3, s3, n3, f3⟩
  simp only at h3 s3
  generalize hy : ({ x with job := x.job + 1, kind := kind, ver := if kind = 3 then 0 else v } : CS) = y at *
  have yn : y.n = x.n := by rw [← hy]
  have hl3 := s3.1.lenL
  rw [elM_len, enterS_out] at hl3
  simp only [CS.allS, List.length_map, List.length_range, yn] at hl3
  have hc3 : bk w3 c = some (C.cells nv) := f3.bk_some hc' fun hq => hq.2 hcK
  have hbusy : ∀ k, (y.enterS k).1.now.isSome = true := fun _ => rfl
  simp [F.granarylaw15_num, hl3, hc3, k22, hnv, h3.busy, hbusy]
  refine Run.mono (Q := fun o w5 => ∃ l', o = Out.norm [l'] ∧ OwnC w0 w5 b (y.enterS (if kind = 3 then 4 else 2)).1 (fun c => K1 c ∨ inB l' c) ∧ SlW 11 w5 l' (elM (y.enterS (if kind = 3 then 4 else 2)).2) ∧
    Fr (fun c => w0.heap.size ≤ c ∧ ¬ K1 c) w2 w5) ?_ ?_
  · refine Run_cond (fun hh => ?_) (fun hh => ?_)
    · obtain rfl : kind = 1 := by simpa using hh
      simp at h3 s3
      simp
      refine (answers_run h3 s3.1 (fun c hc => .inr hc) (enterS_len (by rw [yn]; exact hn.2) _) (fun m hm => (enterS_sent y (by omega) hm).kind) hold).mono ?_
      rintro _ w5 ⟨lo, rfl, h5, s5, n5, f5⟩
      rw [answers_fetch y (by rw [yn]; exact hn.1)] at h5 s5
      have hl5 := s5.1.lenL
      rw [elM_len, enterS_out] at hl5
      simp only [CS.allS, List.length_map, List.length_range, yn] at hl5
      have f25 : Fr (fun c => w0.heap.size ≤ c ∧ ¬ K1 c) w2 w5 := f3.trans f5 fun c hc hq => ⟨hq.1, fun hk => hq.2 (.inl hk)⟩
      have hc5 : bk w5 c = some (C.cells nv) := f25.bk_some hc' fun hq => hq.2 hcK
      simp [hl5, hc5, k22, hnv, h5.busy, hbusy]
      exact ⟨h5.mono fun c hc => hc.elim (fun hk => .inl (.inl hk)) fun hk => .inr hk, s5, f25⟩
    · have hh' : ¬ kind = 1 := by simpa using hh
      simp
      by_cases k3 : kind = 3
      · simp [k3] at h3 s3 ⊢
        exact ⟨h3, s3, f3⟩
      · obtain rfl : kind = 2 := by omega
        simp at h3 s3 ⊢
        exact ⟨h3, s3, f3⟩
  rintro o w5 ⟨l', rfl, h5, s5, f5⟩
  simp
  generalize hk2 : (if kind = 3 then 4 else 2) = k2 at *
  have hk2b : 2 ≤ k2 ∧ k2 ≤ 4 := by rw [← hk2]; split <;> omega
  refine (answers_run h5 s5.1 (fun c hc => .inr hc) (enterS_len (by rw [yn]; exact hn.2) _) (fun m hm => (enterS_sent y (by omega) hm).kind) hold).mono ?_
  rintro _ w6 ⟨lo, rfl, h6, s6, n6, f6⟩
  rw [answers_end y (by rw [yn]; exact hn.1) hk2b] at h6 s6
  simp only at h6 s6
  have hl6 := s6.1.lenL
  simp [elM] at hl6
  have hk2' : (if k2 = 3 then (2 : Int) else 1) = 1 := by rw [← hk2]; split <;> rfl
  have hwon : ({ y with now := none, ended := true, last := ⟨y.job, y.kind, y.ver, if k2 = 3 then 2 else 1, List.replicate y.n (y.heldS k2 hold), []⟩ } : CS) = x.wonS kind (if kind = 3 then 0 else v) hold := by
    rw [hk2', ← hy, ← hk2]
    simp only [CS.wonS, CS.heldS]
    by_cases k3 : kind = 3
    · simp [k3]
    · simp [k3]
  rw [hwon] at h6
  simp
  refine (h6.report).mono ?_
  rintro rv w7 ⟨f7, h7⟩
  have he : (x.wonS kind (if kind = 3 then 0 else v) hold).ended = true := rfl
  rw [if_pos he] at h7
  obtain ⟨hv_, mv, rfl, sh, sm, nh, nm, _⟩ := h7
  simp [CS.wonS, Rep.val] at sh sm ⊢
  have hlo : lenL lo = some (.int .i64 0) := by simpa using hl6
  refine Run_newSt rfl rfl (by simp [sh.1.isCell, sm.1.isCell]) fun e w8 he hew f8 hle8 => ?_
  have he8 : bk w8 e = some [.int .i64 (x.job + 1), .int .i64 kind, .int .i64 (if kind = 3 then 0 else v), .int .i64 1, hv_, mv] := he
  have f67 : Fr (fun _ => False) w6 w8 := f7.trans f8 fun _ _ => id
  have h8 := h6.fr0 f67
  have f28 : Fr (fun c => w0.heap.size ≤ c ∧ ¬ K1 c) w2 w8 := (f5.trans f6 fun c hc hq => ⟨hq.1, fun hk => hq.2 (.inl hk)⟩).trans (f67.mono fun _ h => h.elim) fun _ _ h => h
  have hc8 : bk w8 c = some (C.cells nv) := f28.bk_some hc' fun hq => hq.2 hcK
  have hnow : (x.wonS kind (if kind = 3 then 0 else v) hold).now.isSome = false := rfl
  have hml := sm.1.lenL
  have hhl := sh.1.lenL
  simp [elI] at hml hhl
  simp [hlo, h8.busy, hnow, he8, hc8, k22, hnv, hml, hhl]
  refine Run_for x.n (fun i l w9 => l = [.int .i64 i] ∧ w9 = w8) ⟨rfl, rfl⟩ ?_ ?_
  · rintro i l w9 hi ⟨rfl, rfl⟩
    obtain ⟨q, q1, q2⟩ := (sh.1.fr f8 fun _ _ => id).rd1 (i := i) (y := .int .i64 (if kind = 3 then hold else v)) (by
      rw [elI_get, List.getElem?_replicate, if_pos hi]; by_cases k3 : kind = 3 <;> simp [k3]) .i64
    have wi := wrap_succ (n := i) (by omega)
    by_cases k3 : kind = 3
    · simp [k3] at q2
      simp [he8, hhl, hi, q1, q2, k3, wi]
    · simp [k3] at q2
      simp [he8, hhl, hi, q1, q2, k3, wi]
  · rintro l w9 ⟨rfl, rfl⟩
    simp [he8, hhl]
    refine ⟨h8.mono fun c hc => .inl (.inl (.inl ((hK1 c).2 (.inl hc)))), ?_⟩
    exact (f1.mono fun _ h => h.elim).trans f28 fun c hc hq => ⟨hq.1, fun hk => hq.2 ((hK1 c).2 (.inl hk))⟩
end
end Go.Proofs.Ytpiceodfdjihhaa
