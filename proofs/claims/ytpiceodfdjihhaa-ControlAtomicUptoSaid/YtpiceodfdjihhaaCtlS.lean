/-
  Layer 15 (control), part S: ControlGoes, the walk.
-/
import Derived.Test.YtpiceodfdjihhaaCtlR
namespace Go.Proofs.Ytpiceodfdjihhaa
open Go.Lift
set_option linter.unusedSimpArgs false

theorem answers_none {h : Int} {x : CS} : ∀ {ms : List Ms}, (∀ m ∈ ms, x.takeS (ansOf m h) = (x, [])) → x.answersS h ms = (x, [])
  | [], _ => rfl
  | m :: l, hm => by
    simp only [CS.answersS, hm m (by simp), answers_none (ms := l) fun z hz => hm z (by simp [hz])]
    rfl
/-- The Swaps' answers come late. -/
theorem late_none (y : CS) (h : Int) : (y.enterS 3).1.answersS h (y.enterS 2).2 = ((y.enterS 3).1, []) := by
  refine answers_none fun m hm => ?_
  simp only [CS.enterS, CS.sendS] at hm
  obtain ⟨n, _, rfl⟩ := List.mem_map.1 hm
  unfold CS.takeS CS.enterS
  simp only
  rw [if_pos]
  intro hc
  have := hc.2.2.2
  simp [CS.fits, ansOf, CS.msg, Ph.new] at this
/-- A node refuses its Swap. -/
def refusal (bad job : Int) : Ms := ⟨6, bad, 64, job, job, 1, 0, 0, 122, .string ByteArray.empty, .string ByteArray.empty⟩
theorem refused_take (y : CS) {bad : Int} (hb : 0 ≤ bad ∧ bad < y.n) : (y.enterS 2).1.takeS (refusal bad y.job) = y.enterS 3 := by
  unfold CS.takeS CS.enterS
  simp only
  rw [if_neg, if_neg, if_pos]
  · unfold CS.refusedS
    rw [if_pos (by simp [Ph.new])]
    rfl
  · simp [refusal]
  · have : bad.toNat < y.n := by omega
    simp [refusal, Ph.new, this]
  · rw [Classical.not_not]
    refine ⟨hb.1, hb.2, rfl, ?_⟩
    simp [CS.fits, refusal, Ph.new]

theorem job_take (x : CS) (m : Ms) : (x.takeS m).1.job = x.job := by
  unfold CS.takeS
  repeat' split
  all_goals try rfl
  · unfold CS.refusedS; split <;> rfl
  · unfold CS.doneS; split <;> rfl
theorem job_tick (x : CS) : x.tickS.1.job = x.job := by
  have late : ∀ p, (({ x with now := some p } : CS).lateS p).1.job = x.job := fun p => by unfold CS.lateS; split <;> rfl
  unfold CS.tickS
  split
  · rfl
  simp only
  repeat' split
  all_goals first | rfl | exact late _
theorem job_stop (x : CS) : x.stopS.x.job = x.job := by
  unfold CS.stopS
  split
  · rfl
  · unfold CS.stoppedS
    repeat' split
    all_goals rfl
theorem job_revive (x : CS) : x.reviveS.x.job = x.job := by
  unfold CS.reviveS
  repeat' split
  all_goals rfl
theorem job_begin (x : CS) (k v : Int) : ((x.beginS k v).err = 0 ∧ (x.beginS k v).x.job = x.job + 1) ∨ ((x.beginS k v).err ≠ 0 ∧ (x.beginS k v).x.job = x.job) := by
  unfold CS.beginS
  repeat' split
  all_goals first | exact .inr ⟨by simp, rfl⟩ | exact .inl ⟨rfl, rfl⟩
theorem togo_le {x : CS} : x.togo ≤ x.patience + 2 * (x.resend * x.limit) := by
  unfold CS.togo
  split
  · omega
  · split
    · omega
    · split <;> omega

section
variable {w0 w : World} {b : Nat} {x : CS} {K : Nat → Prop}
theorem idle_run (h : OwnC w0 w b x K) {C : Clu} {nv : Value} {R L T : Nat} (hnv : isCell nv = true) (c15 : (C.cells nv)[15]? = some (.int .i64 R)) (c16 : (C.cells nv)[16]? = some (.int .i64 L)) (c17 : (C.cells nv)[17]? = some (.int .i64 T))
    (xr : x.resend = R) (xl : x.limit = L) (xp : x.patience = T) :
    Run (F.granarylaw15_idle (.pointer (some ⟨b, 0, none⟩)) (C.val nv)) w fun r w' => r = .bool true ∧ ∃ x', OwnC w0 w' b x' K ∧ x'.now = none ∧ x'.job = x.job ∧ Same x x' ∧ Fr (fun c => w0.heap.size ≤ c ∧ ¬ K c) w w' := by
  unfold F.granarylaw15_idle
  have hr := h.ok.resend
  have hl := h.ok.limit
  have hp := h.ok.patience
  have hRL : R * L ≤ 1024 * 64 := Nat.mul_le_mul (by omega) (by omega)
  have hw0 := h.fr.size
  simp [Clu.val]
  refine Run_new fun e w1 he hew f1 hle => ?_
  have he' : bk w1 e = some (C.cells nv) := by simpa using he
  have e1 : IntKind.i64.wrap (2 * (R : Int)) = ((2 * R : Nat) : Int) := by rw [wrap_small (by omega) (by omega)]; omega
  have e2 : IntKind.i64.wrap (((2 * R : Nat) : Int) * (L : Int)) = ((2 * (R * L) : Nat) : Int) := by
    have : ((2 * R : Nat) : Int) * (L : Int) = ((2 * (R * L) : Nat) : Int) := by rw [← Int.natCast_mul, Nat.mul_assoc]
    rw [this]; exact wrap_small (by omega) (by omega)
  have e3 : IntKind.i64.wrap ((T : Int) + ((2 * (R * L) : Nat) : Int)) = ((T + 2 * (R * L) : Nat) : Int) := by rw [wrap_small (by omega) (by omega)]; omega
  refine Run_loopM (fun l w2 => ∃ (i : Nat) (y : CS), l = [.int .i64 i] ∧ OwnC w0 w2 b y (fun c => K c ∨ (w.heap.size ≤ c ∧ c < w1.heap.size)) ∧ Same x y ∧ y.job = x.job ∧ y.togo + i ≤ T + 2 * (R * L) ∧ Fr (fun c => w0.heap.size ≤ c ∧ ¬ (K c ∨ (w.heap.size ≤ c ∧ c < w1.heap.size))) w1 w2)
    (fun l w2 => T + 2 * (R * L) + 1 - (match l with | [.int _ i] => i.toNat | _ => 0)) ?_ ⟨0, x, rfl, h.fr0 f1, .refl x, rfl, by have := togo_le (x := x); rw [xr, xl, xp] at this; omega, Fr.refl _ _⟩
  rintro l w2 ⟨i, y, rfl, hy, hs, hj, ht, f2⟩
  have he2 : bk w2 e = some (C.cells nv) := f2.bk_some he' fun hq => hq.2 (.inr ⟨hle, bk_lt he'⟩)
  simp [he2, c15, c16, c17, e1, e2, e3, -Int.natCast_add, -Int.natCast_mul]
  by_cases hi : i ≤ T + 2 * (R * L)
  · simp [hi, hy.busy]
    cases hn : y.now with
    | none =>
      simp [hy.busy, hn]
      refine ⟨y, hy.mono fun c hc => .inl hc, hn, hj, hs, (f1.mono fun _ h => h.elim).trans f2 fun c hc hq => ⟨hq.1, fun hk => hq.2 (.inl hk)⟩⟩
    | some p =>
      simp
      refine (hy.tick).mono ?_
      rintro _ w3 ⟨lv, rfl, h3, s3, n3, f3⟩
      have tg := togo_tick hy.ok hn
      have wi := wrap_succ (n := i) (by omega)
      simp [F.granarylaw15_num, wi]
      refine ⟨⟨i + 1, by omega, _, h3.mono fun c hc => .inl hc, hs.trans (Same.tickS y), by rw [job_tick]; exact hj, by simp only; omega, by have f := f2.trans f3 fun _ _ h => h; simpa using f⟩, by omega⟩
  · have : y.togo = 0 := by omega
    have hn := CS.togo_none hy.ok this
    simp [hi, hy.busy, hn]
    exact ⟨y, hy.mono fun c hc => .inl hc, hn, hj, hs, (f1.mono fun _ h => h.elim).trans f2 fun c hc hq => ⟨hq.1, fun hk => hq.2 (.inl hk)⟩⟩

set_option maxHeartbeats 1000000 in
theorem takenBack_run (h : OwnC w0 w b x K) (hx : x.now = none) (hj : x.job < 9007199254740992) {C : Clu} {nv : Value} (hnv : lenL nv = some (.int .i64 x.n)) {v hold bad job : Int} (hv : 1 ≤ v ∧ v ≤ 999999) (hb : 0 ≤ bad ∧ bad < x.n) (hjob : job = x.job + 1) :
    Run (F.granarylaw15_takenBack (.pointer (some ⟨b, 0, none⟩)) (C.val nv) (.int .i64 v) (.int .i64 hold) (.int .i64 bad) (.int .i64 job)) w fun r w' => r = .bool true ∧ Fr (fun _ => False) w0 w' := by
  unfold F.granarylaw15_takenBack
  subst hjob
  have hw0 := h.fr.size
  have hn := h.ok.n
  simp [Clu.val]
  refine Run_new fun c w1 hc hcw f1 hle => ?_
  have hc' : bk w1 c = some (C.cells nv) := by simpa using hc
  have k22 : (C.cells nv)[22]? = some nv := rfl
  obtain ⟨K1, hK1, h1⟩ : ∃ K1 : Nat → Prop, (∀ c, K1 c ↔ K c ∨ (w.heap.size ≤ c ∧ c < w1.heap.size)) ∧ OwnC w0 w1 b x K1 := ⟨_, fun _ => Iff.rfl, h.fr0 f1⟩
  have hcK : K1 c := (hK1 c).2 (.inr ⟨hle, bk_lt hc'⟩)
  refine (h1.begin_ 2 v).mono ?_
  have hbeg := beginS_ok hx (kind := 2) (v := v) (by decide) ⟨fun hh => by omega, fun _ => hv⟩ hj
  rw [hbeg]
  rintro _ w3 ⟨l, rfl, h3, s3, n3, f3⟩
  simp only at h3 s3
  obtain ⟨y, hy⟩ : ∃ y : CS, y = { x with job := x.job + 1, kind := 2, ver := v } := ⟨_, rfl⟩
  rw [← hy] at h3 s3
  have ek : (if (2 : Int) = 3 then 4 else (2 : Int).toNat) = 2 := rfl
  rw [ek] at h3 s3
  have yn : y.n = x.n := by rw [hy]
  have yj : y.job = x.job + 1 := by rw [hy]
  have hl3 := s3.1.lenL
  rw [elM_len, enterS_out] at hl3
  simp only [CS.allS, List.length_map, List.length_range, yn] at hl3
  have hc3 : bk w3 c = some (C.cells nv) := f3.bk_some hc' fun hq => hq.2 hcK
  simp [F.granarylaw15_num, hl3, hc3, k22, hnv, buildV, fillV_cell]
  have hmr : (refusal bad (x.job + 1)).fine := ⟨rfl, rfl⟩
  have hmv : (Value.agg #[.int .i64 6, .int .i64 bad, .int .i64 64, .int .i64 (x.job + 1), .int .i64 (x.job + 1), .int .i64 1, .int .i64 0, .int .i64 0, .int .i64 122, .string ByteArray.empty, .string ByteArray.empty]) = (refusal bad (x.job + 1)).val := rfl
  rw [hmv]
  refine (h3.take hmr).mono ?_
  have hrt := refused_take y (bad := bad) ⟨hb.1, by rw [yn]; exact hb.2⟩
  rw [yj] at hrt
  rw [hrt]
  rintro _ w4 ⟨l4, rfl, h4, s4, n4, f4⟩
  simp only at h4 s4
  have hl4 := s4.1.lenL
  rw [elM_len, enterS_out] at hl4
  simp only [CS.allS, List.length_map, List.length_range, yn] at hl4
  have hc4 : bk w4 c = some (C.cells nv) := f4.bk_some hc3 fun hq => hq.2 (.inl hcK)
  simp [hl4, hc4, k22, hnv]
  refine Run_for x.n (fun i lv w8 => lv = [.int .i64 i] ∧ w8 = w4) ⟨rfl, rfl⟩ ?_ ?_
  · rintro i lv w8 hi ⟨rfl, rfl⟩
    have em : (y.enterS 3).2[i]? = some (y.msg 3 i) := by rw [enterS_out]; simp [CS.allS, hi, yn]
    obtain ⟨q, o, cc, i1, i2, i3, i4, _⟩ := s4.1.rd (by decide) (e := (y.msg 3 i).cells) (by rw [elM_get, em]; rfl) .i64
    have g0 : cc[o]? = some (.int .i64 (y.msg 3 i).kind) := take_get (j := 0) i4 (by decide)
    have g2 : cc[o + 2]? = some (.int .i64 (y.msg 3 i).to) := take_get (j := 2) i4 (by decide)
    have g4 : cc[o + 4]? = some (.int .i64 (y.msg 3 i).epoch) := take_get (j := 4) i4 (by decide)
    have g5 : cc[o + 5]? = some (.int .i64 (y.msg 3 i).seq) := take_get (j := 5) i4 (by decide)
    have wi := wrap_succ (n := i) (by omega)
    simp [hl4, hi, i1, i2, g0, g2, g4, g5, CS.msg, yj, wi]
  · rintro lv w8 ⟨rfl, rfl⟩
    simp [hl4]
    have s3' : Sl 11 w8 l (elM (y.enterS 2).2) := s3.1.fr f4 fun c hc hq => hq.2 (.inr hc)
    refine (answers_run h4 s3' (fun c hc => .inl (.inr hc)) (enterS_len (by rw [yn]; exact hn.2) _) (fun m hm => (enterS_sent y (by omega) hm).kind) hold).mono ?_
    rw [late_none]
    rintro _ w9 ⟨l9, rfl, h9, s9, n9, f9⟩
    simp only at h9 s9
    have hl9 := s9.1.lenL
    simp [elM] at hl9
    have hb9 : (y.enterS 3).1.now.isSome = true := rfl
    simp [hl9, h9.busy, hb9]
    have s4' : Sl 11 w9 l4 (elM (y.enterS 3).2) := s4.1.fr f9 fun c hc hq => hq.2 (.inr hc)
    refine (answers_run h9 s4' (fun c hc => .inl (.inr hc)) (enterS_len (by rw [yn]; exact hn.2) _) (fun m hm => (enterS_sent y (by omega) hm).kind) hold).mono ?_
    rw [answers_end y (by rw [yn]; exact hn.1) (by omega)]
    rintro _ w10 ⟨l10, rfl, h10, s10, n10, f10⟩
    simp only at h10 s10
    have hl10 := s10.1.lenL
    simp [elM] at hl10
    simp
    refine h10.report.mono ?_
    rintro r11 w11 ⟨f11, h11⟩
    rw [if_pos rfl] at h11
    obtain ⟨hv_, mv, rfl, sh, sm, nh, nm, _⟩ := h11
    simp [Rep.val] at sh sm ⊢
    refine Run_newSt rfl rfl (by simp [sh.1.isCell, sm.1.isCell]) fun g w12 hg hgw f12 hle12 => ?_
    have hg' : bk w12 g = some [.int .i64 y.job, .int .i64 y.kind, .int .i64 y.ver, .int .i64 2, hv_, mv] := hg
    have h12 := h10.fr0 (f11.trans f12 fun _ _ => id)
    have hc9 : bk w9 c = some (C.cells nv) := f9.bk_some hc4 fun hq => hq.2 (.inl (.inl hcK))
    have hc10 : bk w10 c = some (C.cells nv) := f10.bk_some hc9 fun hq => hq.2 (.inl (.inl (.inl hcK)))
    have hc12 : bk w12 c = some (C.cells nv) := (f11.trans f12 fun _ _ => id).bk_some hc10 id
    have hml := sm.1.lenL
    have hhl := sh.1.lenL
    simp [elI, yn] at hml hhl
    simp [hl10, h12.busy, hg', yj, hml, hhl, hc12, k22, hnv]
    refine Run_for x.n (fun i l w13 => l = [.int .i64 i] ∧ w13 = w12) ⟨rfl, rfl⟩ ?_ ?_
    · rintro i l w13 hi ⟨rfl, rfl⟩
      obtain ⟨q, q1, q2⟩ := (sh.1.fr f12 fun _ _ => id).rd1 (i := i) (y := .int .i64 hold) (by
        rw [elI_get, List.getElem?_replicate, if_pos (by rw [yn]; exact hi)]; simp [CS.heldS]) .i64
      have wi := wrap_succ (n := i) (by omega)
      simp [hg', hhl, hi, q1, q2, wi]
    · rintro l w13 ⟨rfl, rfl⟩
      simp [hg', hhl]
      exact h12.fr

/-- A step of a script. -/
structure Stp where
  kind : Int
  n : Int
  v : Int
  m : Ms
def Stp.cells (s : Stp) : List Value := .int .i64 s.kind :: .int .i64 s.n :: .int .i64 s.v :: s.m.cells
def elS (l : List Stp) : List (List Value) := l.map Stp.cells
@[simp] theorem elS_len (l : List Stp) : (elS l).length = l.length := by simp [elS]
theorem elS_get (l : List Stp) (i : Nat) : (elS l)[i]? = (l[i]?).map Stp.cells := by simp [elS]
theorem Stp.all_cell {s : Stp} (h : s.m.fine) : s.cells.all isCell = true := by
  simp [Stp.cells, Ms.cells, h.1, h.2]

set_option maxHeartbeats 2000000 in
theorem goesAll_run {w : World} (nodes r l p version holds bad : Int) {sv : Value} {ss : List Stp} (hs : Sl 14 w sv (elS ss)) (hfine : ∀ s ∈ ss, s.m.fine) :
    Run (F.granarylaw15_ControlGoes (.int .i64 nodes) (.agg #[.int .i64 r, .int .i64 l, .int .i64 p]) sv (.int .i64 version) (.int .i64 holds) (.int .i64 bad)) w fun v w' => v = .bool true ∧ Fr (fun _ => False) w w' := by
  unfold F.granarylaw15_ControlGoes
  simp
  refine Run_new fun b0 w1 hb0 _ f1 hle1 => ?_
  have hb0' : bk w1 b0 = some [.int .i64 r, .int .i64 l, .int .i64 p] := by simpa using hb0
  simp [hb0']
  refine (made_run nodes r l p).mono ?_
  rintro _ w2 ⟨f2, nv, pvs, rfl, hN, hnw, hpw⟩
  have hn1 : 0 ≤ nodes % 16 := Int.emod_nonneg nodes (by decide)
  have hn2 : nodes % 16 < 16 := Int.emod_lt_of_pos nodes (by decide)
  have b1 := Int.emod_nonneg r (b := 16) (by decide)
  have b2 := Int.emod_lt_of_pos r (b := 16) (by decide)
  have b3 := Int.emod_nonneg l (b := 8) (by decide)
  have b4 := Int.emod_lt_of_pos l (b := 8) (by decide)
  have b5 := Int.emod_nonneg p (b := 256) (by decide)
  have b6 := Int.emod_lt_of_pos p (b := 256) (by decide)
  have hcl := hN.sl.isCell
  refine Run_newSt rfl rfl (Clu.all_cell _ hcl) fun d w3 hd hdw f3 hle3 => ?_
  have hd' : bk w3 d = some ((madeC (1 + nodes % 16).toNat (1 + r % 1024) (1 + l % 64) (1 + p % 65536)).cells nv) := hd
  obtain ⟨R, hR⟩ : ∃ R : Nat, 1 + r % 16 = R := ⟨(1 + r % 16).toNat, by omega⟩
  obtain ⟨L, hL⟩ : ∃ L : Nat, 1 + l % 8 = L := ⟨(1 + l % 8).toNat, by omega⟩
  obtain ⟨T, hT⟩ : ∃ T : Nat, 1 + p % 256 = T := ⟨(1 + p % 256).toNat, by omega⟩
  have v1 : IntKind.i64.wrap (1 + r % 16) = R := by rw [hR]; exact wrap_small (by omega) (by omega)
  have v2 : IntKind.i64.wrap (1 + l % 8) = L := by rw [hL]; exact wrap_small (by omega) (by omega)
  have v3 : IntKind.i64.wrap (1 + p % 256) = T := by rw [hT]; exact wrap_small (by omega) (by omega)
  have hb3 : bk w3 b0 = some _ := (f2.trans f3 fun _ _ => id).bk_some hb0' id
  have lb := bk_lt hb0'
  have l2 := f2.size
  have hbd : b0 ≠ d := by omega
  have hlen : ((madeC (1 + nodes % 16).toNat (1 + r % 1024) (1 + l % 64) (1 + p % 65536)).cells nv).length = 23 := rfl
  simp [-ldA_ptr, hd', hdw, hb3, hlen, bk_sto, hbd, Ne.symm hbd, mod15_run, v1, v2, v3]
  have f4 : Fr (fun z => z = d) w3 (sto (sto (sto w3 d 15 [Value.int IntKind.i64 R]) d 16 [Value.int IntKind.i64 L]) d 17 [Value.int IntKind.i64 T]) :=
    (((Fr.refl (fun z => z = d) w3).sto (.inl rfl) _ _).sto (.inl rfl) _ _).sto (.inl rfl) _ _
  have hd4 : bk (sto (sto (sto w3 d 15 [Value.int IntKind.i64 R]) d 16 [Value.int IntKind.i64 L]) d 17 [Value.int IntKind.i64 T]) d = some ((madeC (1 + nodes % 16).toNat R L T).cells nv) := by
    simp [hd']; rfl
  revert f4 hd4
  generalize sto (sto (sto w3 d 15 [Value.int IntKind.i64 R]) d 16 [Value.int IntKind.i64 L]) d 17 [Value.int IntKind.i64 T] = w4
  intro f4 hd4
  have hck : checkF (madeC (1 + nodes % 16).toNat R L T) = 0 := made_ok (by omega) (by omega) (by omega) (by omega)
  have hF := made_fits (1 + nodes % 16).toNat (by omega) R L T
  have hN4 : Nodes w4 nv (madeC (1 + nodes % 16).toNat R L T).nodes pvs := (hN.fr0 f3).fr f4 (fun z hz he => by have := hnw z hz; omega) (fun q hq z hz he => by have := hpw q hq z hz; omega)
  have f04 : Fr (fun _ => False) w w4 := ((f1.trans f2 fun _ _ => id).trans f3 fun _ _ => id).new f4 fun z hz => by have := f1.size; omega
  refine ⟨_, Clu.ldA hd4, (new_run hN4 hF).mono ?_⟩
  rintro rv w5 ⟨f5, _, g5⟩
  obtain ⟨b, cv, tag, rfl, hC, htag⟩ := g5 hck
  have ho := own_new hck f5 hC htag
  have hd5 : bk w5 d = some _ := f5.bk_some hd4 id
  have hRL : R * L ≤ 16 * 8 := Nat.mul_le_mul (by omega) (by omega)
  have e1 : IntKind.i64.wrap (2 * (R : Int)) = ((2 * R : Nat) : Int) := by rw [wrap_small (by omega) (by omega)]; omega
  have e2 : IntKind.i64.wrap (((2 * R : Nat) : Int) * (L : Int)) = ((2 * (R * L) : Nat) : Int) := by
    have : ((2 * R : Nat) : Int) * (L : Int) = ((2 * (R * L) : Nat) : Int) := by rw [← Int.natCast_mul, Nat.mul_assoc]
    rw [this]; exact wrap_small (by omega) (by omega)
  have e3 : IntKind.i64.wrap ((T : Int) + ((2 * (R * L) : Nat) : Int)) = ((T + 2 * (R * L) : Nat) : Int) := by rw [wrap_small (by omega) (by omega)]; omega
  have e4 : IntKind.i64.wrap ((R : Int) * (L : Int)) = ((R * L : Nat) : Int) := by rw [← Int.natCast_mul]; exact wrap_small (by omega) (by omega)
  have c15 : ((madeC (1 + nodes % 16).toNat R L T).cells nv)[15]? = some (.int .i64 R) := rfl
  have c16 : ((madeC (1 + nodes % 16).toNat R L T).cells nv)[16]? = some (.int .i64 L) := rfl
  have c17 : ((madeC (1 + nodes % 16).toNat R L T).cells nv)[17]? = some (.int .i64 T) := rfl
  have xr : (CS.new (madeC (1 + nodes % 16).toNat R L T)).resend = R := by show (R : Int).toNat = R; simp
  have xl : (CS.new (madeC (1 + nodes % 16).toNat R L T)).limit = L := by show (L : Int).toNat = L; simp
  have xp : (CS.new (madeC (1 + nodes % 16).toNat R L T)).patience = T := by show (T : Int).toNat = T; simp
  have xj : (CS.new (madeC (1 + nodes % 16).toNat R L T)).job = 0 := rfl
  have xn : (CS.new (madeC (1 + nodes % 16).toNat R L T)).now = none := rfl
  generalize madeC (1 + nodes % 16).toNat R L T = C at *
  have xn0 : (CS.new C).n = C.nodes.length := rfl
  have hnl : lenL nv = some (.int .i64 C.nodes.length) := hN4.lenL
  have k22 : (C.cells nv)[22]? = some nv := rfl
  have hnodes := (checkF_ok hck).2
  have hs4 : Sl 14 w4 sv (elS ss) := hs.fr0 f04
  have hsl := hs.lenL
  simp at hsl
  simp [-ldA_ptr, F.granarylaw15_num]
  refine Run_for (Nat.min ss.length 1099511627776) (fun i lv w6 => ∃ x, lv = [.int .i64 x.job, .int .i64 i] ∧ OwnC w4 w6 b x (fun z => z < w4.heap.size) ∧ Same (CS.new C) x ∧ x.job ≤ i) ⟨CS.new C, by rw [xj]; rfl, ho, .refl _, by rw [xj]; decide⟩ ?_ ?_
  · rintro i lv w6 hi ⟨x, rfl, hx, hsm, hji⟩
    have hi1 : i < ss.length := Nat.lt_of_lt_of_le hi (Nat.min_le_left _ _)
    have hi2 : i < 1099511627776 := Nat.lt_of_lt_of_le hi (Nat.min_le_right _ _)
    have hi3 : (i : Int) < 1099511627776 := by omega
    have em : ss[i]? = some ss[i] := List.getElem?_eq_getElem hi1
    have hmf := hfine _ (List.getElem_mem hi1)
    generalize ss[i] = st at em hmf
    have hs6 : Sl 14 w6 sv (elS ss) := hs4.congr fun z ll hz hl => by rw [bk_of_heap (hx.fr.block z (bk_lt hl) id)]; exact hl
    obtain ⟨q, z1, z2⟩ := hs6.rdA (by decide) (e := st.cells) (by rw [elS_get, em]; rfl) .i64
    have wi := wrap_succ (n := i) (by omega)
    have hjob := hx.ok.job
    simp [-ldA_ptr, hsl, hi1, hi3, z1, z2]
    refine Run_newSt rfl rfl (Stp.all_cell hmf) fun e w7 he hew f7 hle7 => ?_
    have he' : bk w7 e = some st.cells := he
    have hx7 := hx.fr0 f7
    have c0 : st.cells[0]? = some (.int .i64 st.kind) := rfl
    have c1 : st.cells[1]? = some (.int .i64 st.n) := rfl
    have c2 : st.cells[2]? = some (.int .i64 st.v) := rfl
    have cm : ldA 11 (.pointer (some ⟨e, 3, none⟩)) w7 = some st.m.val := by rw [ldA_bk he' (Nat.le_refl 14)]; rfl
    have fin : ∀ (y : CS) (w8 : World) (K' : Nat → Prop), OwnC w4 w8 b y K' → (∀ z, z < w4.heap.size → K' z) → Same x y → y.job ≤ i + 1 → ∃ x', y.job = x'.job ∧ OwnC w4 w8 b x' (fun z => z < w4.heap.size) ∧ Same (CS.new C) x' ∧ x'.job ≤ (i : Int) + 1 :=
      fun y w8 K' h1 h2 h3 h4 => ⟨y, rfl, h1.mono h2, hsm.trans h3, h4⟩
    simp [-ldA_ptr, he', c0]
    by_cases k1 : st.kind = 1
    · simp [k1, he', c1, c2]
      refine (hx7.begin_ st.n st.v).mono ?_
      rintro _ w8 ⟨l8, rfl, h8, s8, n8, f8⟩
      have hsb := Same.beginS x st.n st.v
      rcases job_begin x st.n st.v with ⟨h1, h2⟩ | ⟨h1, h2⟩
      · have wj : IntKind.i64.wrap (x.job + 1) = x.job + 1 := wrap_small (by omega) (by omega)
        simp [h1, wj, wi]
        rw [← h2]
        exact fin _ _ _ h8 (fun z hz => .inl (.inl hz)) hsb (by omega)
      · simp [h1, wi]
        rw [← h2]
        exact fin _ _ _ h8 (fun z hz => .inl (.inl hz)) hsb (by omega)
    by_cases k2 : st.kind = 2
    · simp [-ldA_ptr, k2, cm]
      refine (hx7.take hmf).mono ?_
      rintro _ w8 ⟨l8, rfl, h8, s8, n8, f8⟩
      simp [wi]
      rw [← job_take x st.m]
      exact fin _ _ _ h8 (fun z hz => .inl (.inl hz)) (Same.takeS x st.m) (by rw [job_take]; omega)
    by_cases k3 : st.kind = 3
    · simp [k3]
      refine (hx7.tick).mono ?_
      rintro _ w8 ⟨l8, rfl, h8, s8, n8, f8⟩
      simp [wi]
      rw [← job_tick x]
      exact fin _ _ _ h8 (fun z hz => .inl (.inl hz)) (Same.tickS x) (by rw [job_tick]; omega)
    by_cases k4 : st.kind = 4
    · simp [k4]
      refine (hx7.stop).mono ?_
      rintro _ w8 ⟨l8, rfl, h8, s8, n8, f8⟩
      simp [wi]
      rw [← job_stop x]
      exact fin _ _ _ h8 (fun z hz => .inl (.inl hz)) (Same.stopS x) (by rw [job_stop]; omega)
    by_cases k5 : st.kind = 5
    · simp [k5]
      refine (hx7.revive).mono ?_
      rintro _ w8 ⟨l8, rfl, h8, s8, n8, f8⟩
      simp [wi]
      rw [← job_revive x]
      exact fin _ _ _ h8 (fun z hz => .inl (.inl hz)) (Same.reviveS x) (by rw [job_revive]; omega)
    · simp [k1, k2, k3, k4, k5, wi]
      exact fin _ _ _ hx7 (fun z hz => .inl hz) (.refl x) (by omega)
  · rintro lv w6 ⟨x, rfl, hx, hsm, hji⟩
    have hNc : Nat.min ss.length 1099511627776 = ss.length ∨ (Nat.min ss.length 1099511627776 = 1099511627776 ∧ 1099511627776 < ss.length) := by
      rcases Nat.lt_or_ge 1099511627776 ss.length with hh | hh
      · exact .inr ⟨Nat.min_eq_right (Nat.le_of_lt hh), hh⟩
      · exact .inl (Nat.min_eq_left hh)
    have hNle : Nat.min ss.length 1099511627776 ≤ 1099511627776 := Nat.min_le_right _ _
    generalize Nat.min ss.length 1099511627776 = N at *
    have hd6 : bk w6 d = some (C.cells nv) := by rw [bk_of_heap (hx.fr.block d (bk_lt hd4) id)]; exact hd4
    have y1 := Int.emod_nonneg version (b := 999999) (by decide)
    have y2 := Int.emod_lt_of_pos version (b := 999999) (by decide)
    have y3 := Int.emod_nonneg holds (b := 999999) (by decide)
    have y4 := Int.emod_lt_of_pos holds (b := 999999) (by decide)
    have x2 : IntKind.i64.wrap (1 + version % 999999) = 1 + version % 999999 := wrap_small (by omega) (by omega)
    have x3 : IntKind.i64.wrap (1 + holds % 999999) = 1 + holds % 999999 := wrap_small (by omega) (by omega)
    have hVb : 1 ≤ 1 + version % 999999 ∧ 1 + version % 999999 ≤ 999999 := by omega
    have hjb := hx.ok.job.1
    rcases hNc with hA | ⟨hA, hB2⟩
    all_goals first
      | (have hA' : ¬ (N : Int) < ss.length := by omega
         simp [-ldA_ptr, hsl, hA'])
      | (have hB' : (N : Int) < ss.length := by omega
         have hB'' : ¬ (N : Int) < 1099511627776 := by omega
         simp [-ldA_ptr, hsl, hB', hB''])
    all_goals
      refine ⟨_, Clu.ldA hd6, ?_⟩
      refine (idle_run hx hcl c15 c16 c17 (by rw [hsm.resend, xr]) (by rw [hsm.limit, xl]) (by rw [hsm.patience, xp])).mono ?_
      rintro _ w7 ⟨rfl, y, hy, hyn, hyj, hys, f7⟩
      simp [-ldA_ptr, mod15_run, x2, x3]
      generalize 1 + version % 999999 = V at *
      generalize 1 + holds % 999999 = H at *
      refine Run_for 3 (fun i lv w8 => ∃ z, lv = [.int .i64 ((i : Int) + 1)] ∧ OwnC w4 w8 b z (fun z => z < w4.heap.size) ∧ z.now = none ∧ Same (CS.new C) z ∧ z.job = x.job + i) ⟨y, rfl, hy, hyn, hsm.trans hys, by rw [hyj]; simp⟩ ?_ ?_
      · rintro i lv w8 hi ⟨z, rfl, hz, hzn, hzs, hzj⟩
        have hi3 : (i : Int) + 1 ≤ 3 := by omega
        have hd8 : bk w8 d = some (C.cells nv) := by rw [bk_of_heap (hz.fr.block d (bk_lt hd4) id)]; exact hd4
        have wj : IntKind.i64.wrap (x.job + ((i : Int) + 1)) = x.job + ((i : Int) + 1) := wrap_small (by omega) (by omega)
        have wi : IntKind.i64.wrap ((i : Int) + 1 + 1) = (i : Int) + 1 + 1 := wrap_small (by omega) (by omega)
        simp [-ldA_ptr, hi3, wj]
        refine ⟨_, Clu.ldA hd8, ?_⟩
        refine (goes_run hz hzn (by omega) (C := C) (nv := nv) (kind := (i : Int) + 1) (v := V) (by rw [hnl, hzs.n, xn0]) (by omega) hVb (by omega)).mono ?_
        rintro _ w9 ⟨rfl, hz9, f9⟩
        simp [wi]
        refine ⟨_, hz9, rfl, hzs.trans ⟨rfl, rfl, rfl, rfl⟩, ?_⟩
        simp only [CS.wonS]; omega
      · rintro lv w8 ⟨z, rfl, hz, hzn, hzs, hzj⟩
        have hd8 : bk w8 d = some (C.cells nv) := by rw [bk_of_heap (hz.fr.block d (bk_lt hd4) id)]; exact hd4
        have hd8' : bk w8.drew d = some (C.cells nv) := hd8
        have hzn' : z.n = C.nodes.length := by rw [hzs.n, xn0]
        have m1 := Int.emod_nonneg bad (b := (C.nodes.length : Int)) (by omega)
        have m2 := Int.emod_lt_of_pos bad (b := (C.nodes.length : Int)) (by omega)
        have wj : IntKind.i64.wrap (x.job + 4) = x.job + 4 := wrap_small (by omega) (by omega)
        simp [-ldA_ptr]
        refine ⟨_, Clu.ldA hd8', ?_⟩
        simp [-ldA_ptr, hd8, k22, hnl, mod15_run (w := w8.drew) (a := bad) (m := (C.nodes.length : Int)) (by omega) (by omega), wj, Clu.ldA hd8']
        refine (takenBack_run (hz.fr0 (Fr.refl _ _).drew) hzn (by omega) (C := C) (nv := nv) (v := V) (by rw [hnl, hzn']) hVb (by omega) (by omega)).mono ?_
        rintro _ w9 ⟨rfl, f9⟩
        exact ⟨rfl, f04.trans f9 fun _ _ => id⟩
end
/-- Steps read. -/
theorem rd_steps {w : World} {v : Value} {n : Nat} (h : (Shs.slice (.int .i64 (.int .i64 (.int .i64 (.int .i64 (.int .i64 (.int .i64 (.int .i64 (.int .i64 (.int .i64 (.int .i64 (.int .i64 (.int .i64 (.str (.str .nil)))))))))))))) .nil).Rd w [v] n) :
    ∃ ss : List Stp, Sl 14 w v (elS ss) ∧ (∀ s ∈ ss, s.m.fine) ∧ ss.length ≤ n := by
  obtain ⟨l, hs, hl⟩ := h.slice1 (f := fun s : { s : Stp // s.m.fine } => s.1.cells) fun c k hc => by
    obtain ⟨a0, _, _, rfl, _, a1, _, _, rfl, _, a2, _, _, rfl, _, hm⟩ := hc
    obtain ⟨m, rfl, hmf⟩ := rd_ms hm
    exact ⟨⟨⟨a0, a1, a2, m⟩, hmf⟩, rfl⟩
  refine ⟨l.map (·.1), ?_, fun m hm => ?_, by simpa using hl⟩
  · have e : elS (l.map (·.1)) = l.map fun m => m.1.cells := by simp [elS, Function.comp_def]
    rw [e]; exact hs
  · obtain ⟨⟨x, hx⟩, _, rfl⟩ := List.mem_map.1 hm
    exact hx
theorem controlGoes_top {W : World} (nodes : Int) {cs : Array Value} {n : Nat} (h : (Shs.int .i64 (.int .i64 (.int .i64 .nil))).Rd W cs.toList n) {v : Value} {n' : Nat}
    (hv : (Shs.slice (.int .i64 (.int .i64 (.int .i64 (.int .i64 (.int .i64 (.int .i64 (.int .i64 (.int .i64 (.int .i64 (.int .i64 (.int .i64 (.int .i64 (.str (.str .nil)))))))))))))) .nil).Rd W [v] n') (version holds bad : Int) :
    Run (F.granarylaw15_ControlGoes (.int .i64 nodes) (.agg cs) v (.int .i64 version) (.int .i64 holds) (.int .i64 bad)) W fun v w' => v = .bool true ∧ Fr (fun _ => False) W w' := by
  obtain ⟨a, b, c, rfl⟩ := rd3 h
  obtain ⟨ss, hs, hf, _⟩ := rd_steps hv
  exact goesAll_run nodes a b c version holds bad hs hf
end Go.Proofs.Ytpiceodfdjihhaa
