/-
  Layer 15 (control), part P: ControlResumes, the walk.
-/
import Derived.Test.YtpiceodfdjihhaaCtlN
import Derived.Test.YtpiceodfdjihhaaLiftT
namespace Go.Proofs.Ytpiceodfdjihhaa
open Go.Lift
set_option linter.unusedSimpArgs false

theorem Made_.own {w0 w : World} {b : Nat} {x : CS} {l : Value} {out : List Ms} (h : Made_ w0 w b x l out) (f : Fr (fun _ => False) w0 w) : OwnC w0 w b x (fun c => inB l c) := by
  obtain ⟨v, tag, h1, h2, h3⟩ := h.ctl
  exact ⟨f, ⟨v, tag, h1, h2, fun c hc => ⟨h3 c hc, (h.new c hc).2⟩⟩, h.ok⟩

section
variable {w : World}
set_option maxHeartbeats 1000000 in
theorem resumes_run (nodes r l p job kind version holds : Int) (isOpen : Bool) :
    Run (F.granarylaw15_ControlResumes (.int .i64 nodes) (.agg #[.int .i64 r, .int .i64 l, .int .i64 p]) (.int .i64 job) (.int .i64 kind) (.int .i64 version) (.bool isOpen) (.int .i64 holds)) w fun v w' => v = .bool true ∧ Fr (fun _ => False) w w' := by
  unfold F.granarylaw15_ControlResumes
  simp
  refine Run_new fun b0 w1 hb0 _ f1 hle1 => ?_
  have hb0' : bk w1 b0 = some [.int .i64 r, .int .i64 l, .int .i64 p] := by simpa using hb0
  simp [hb0']
  refine (made_run nodes r l p).mono ?_
  rintro _ w2 ⟨f2, nv, pvs, rfl, hN, _, _⟩
  have hn1 : 0 ≤ nodes % 16 := Int.emod_nonneg nodes (by decide)
  have hn2 : nodes % 16 < 16 := Int.emod_lt_of_pos nodes (by decide)
  have b1 := Int.emod_nonneg r (b := 1024) (by decide)
  have b2 := Int.emod_lt_of_pos r (b := 1024) (by decide)
  have b3 := Int.emod_nonneg l (b := 64) (by decide)
  have b4 := Int.emod_lt_of_pos l (b := 64) (by decide)
  have b5 := Int.emod_nonneg p (b := 65536) (by decide)
  have b6 := Int.emod_lt_of_pos p (b := 65536) (by decide)
  have hck : checkF (madeC (1 + nodes % 16).toNat (1 + r % 1024) (1 + l % 64) (1 + p % 65536)) = 0 := made_ok (by omega) (by omega) (by omega) (by omega)
  have hF := made_fits (1 + nodes % 16).toNat (by omega) (1 + r % 1024) (1 + l % 64) (1 + p % 65536)
  have hNn : (madeC (1 + nodes % 16).toNat (1 + r % 1024) (1 + l % 64) (1 + p % 65536)).nodes = madeN (1 + nodes % 16).toNat := rfl
  rw [← hNn] at hN
  generalize madeC (1 + nodes % 16).toNat (1 + r % 1024) (1 + l % 64) (1 + p % 65536) = C at *
  refine Run_newSt rfl rfl (Clu.all_cell C hN.sl.isCell) fun d w3 hd hdw f3 hle3 => ?_
  have hd' : bk w3 d = some (C.cells nv) := hd
  have j1 := Int.emod_nonneg job (b := 1000000000) (by decide)
  have j2 := Int.emod_lt_of_pos job (b := 1000000000) (by decide)
  have k1 := Int.emod_nonneg kind (b := 2) (by decide)
  have k2 := Int.emod_lt_of_pos kind (b := 2) (by decide)
  have v1 := Int.emod_nonneg version (b := 999999) (by decide)
  have v2 := Int.emod_lt_of_pos version (b := 999999) (by decide)
  have h1 := Int.emod_nonneg holds (b := 999999) (by decide)
  have h2 := Int.emod_lt_of_pos holds (b := 999999) (by decide)
  have x1 : IntKind.i64.wrap (1 + job % 1000000000) = 1 + job % 1000000000 := wrap_small (by omega) (by omega)
  have x2 : IntKind.i64.wrap (1 + kind % 2) = 1 + kind % 2 := wrap_small (by omega) (by omega)
  have x3 : IntKind.i64.wrap (1 + version % 999999) = 1 + version % 999999 := wrap_small (by omega) (by omega)
  have x4 : IntKind.i64.wrap (1 + holds % 999999) = 1 + holds % 999999 := wrap_small (by omega) (by omega)
  simp [-ldA_ptr, mod15_run, x1, x2, x3, x4, Clu.ldA hd']
  generalize hJ : 1 + job % 1000000000 = J at *
  generalize hKd : 1 + kind % 2 = kd at *
  generalize hV : 1 + version % 999999 = V at *
  generalize hH : 1 + holds % 999999 = H at *
  refine (twin_run (hN.fr0 f3) hF).mono ?_
  rintro _ w4 ⟨f4, nv', pvs', rfl, hN', _, _⟩
  refine (resume_run hN' hF J kd V isOpen).mono ?_
  rintro rv w5 ⟨f5, _, g5⟩
  have f14 : Fr (fun _ => False) w w4 := ((f1.trans f2 fun _ _ => id).trans f3 fun _ _ => id).trans f4 fun _ _ => id
  have hd4 : bk w4 d = some (C.cells nv) := f4.bk_some hd' id
  have hcs := checkF_ok hck
  have hnl : lenL nv = some (.int .i64 C.nodes.length) := hN.lenL
  have k22 : (C.cells nv)[22]? = some nv := rfl
  replace g5 := g5 hck
  cases isOpen with
  | false =>
    have er : CS.resumeS C J kd V false = (some { CS.new C with job := J }, [], 0) := by
      unfold CS.resumeS
      rw [if_neg (by simp; omega), if_pos rfl]
    rw [er] at g5
    obtain ⟨b, lo, rfl, hm⟩ := g5
    have ho := hm.own f5
    have hnow : ({ CS.new C with job := J } : CS).now.isSome = false := rfl
    simp [F.granarylaw15_num, ho.busy, hnow]
    refine ho.report.mono ?_
    rintro r6 w6 ⟨f6, h6⟩
    have hend : ¬ ({ CS.new C with job := J } : CS).ended = true := by simp [CS.new]
    rw [if_neg hend] at h6
    subst h6
    simp [Rep.val]
    refine Run_newSt rfl rfl (by simp [Rep.none]) fun e w7 he hew f7 hle7 => ?_
    have f67 : Fr (fun _ => False) w5 w7 := f6.trans f7 fun _ _ => id
    have hd7 : bk w7 d = some (C.cells nv) := f67.bk_some (f5.bk_some hd4 id) id
    have hll := hm.out.1.lenL
    simp [elM] at hll
    have xj : IntKind.i64.wrap (J + 1) = J + 1 := wrap_small (by omega) (by omega)
    simp [-ldA_ptr, hll, Clu.ldA hd7, xj]
    refine (goes_run (ho.fr0 f67) rfl (by show J < _; omega) (C := C) (nv := nv) (by rw [hnl]; rfl) (by decide) (by omega) rfl).mono ?_
    rintro _ w8 ⟨rfl, h8, f8⟩
    simp
    exact f14.trans h8.fr fun _ _ => id
  | true =>
    obtain ⟨y, hy⟩ : ∃ y : CS, y = { CS.new C with job := J, kind := kd, ver := V } := ⟨_, rfl⟩
    have er : CS.resumeS C J kd V true = (some (y.enterS 3).1, (y.enterS 3).2, 0) := by
      unfold CS.resumeS
      rw [if_neg (by simp; omega), if_neg (by simp), if_neg (by omega), if_neg (by omega), ← hy]
    rw [er] at g5
    obtain ⟨b, lo, rfl, hm⟩ := g5
    have ho := hm.own f5
    have yn : y.n = C.nodes.length := by rw [hy]; rfl
    have yj : y.job = J := by rw [hy]
    have yk : y.kind = kd := by rw [hy]
    have yv : y.ver = V := by rw [hy]
    have hbusy : (y.enterS 3).1.now.isSome = true := rfl
    simp [F.granarylaw15_num, ho.busy, hbusy]
    refine ho.report.mono ?_
    rintro r6 w6 ⟨f6, h6⟩
    have hend : ¬ (y.enterS 3).1.ended = true := by rw [hy]; simp [CS.enterS, CS.new]
    rw [if_neg hend] at h6
    subst h6
    simp [Rep.val]
    refine Run_newSt rfl rfl (by simp [Rep.none]) fun e w7 he hew f7 hle7 => ?_
    have f67 : Fr (fun _ => False) w5 w7 := f6.trans f7 fun _ _ => id
    have hd7 : bk w7 d = some (C.cells nv) := f67.bk_some (f5.bk_some hd4 id) id
    have hll := hm.out.1.lenL
    rw [elM_len, enterS_out] at hll
    simp only [CS.allS, List.length_map, List.length_range, yn] at hll
    have hs7 : Sl 11 w7 lo (elM (y.enterS 3).2) := hm.out.1.fr0 f67
    simp [hll, hd7, k22, hnl]
    refine Run_for C.nodes.length (fun i l w8 => l = [.int .i64 i] ∧ Fr (fun _ => False) w7 w8) ⟨rfl, Fr.refl _ _⟩ ?_ ?_
    · rintro i l w8 hi ⟨rfl, f8⟩
      have em : (y.enterS 3).2[i]? = some (y.msg 3 i) := by rw [enterS_out]; simp [CS.allS, hi, yn]
      obtain ⟨q, q1, q2⟩ := (hs7.fr0 f8).rdA (by decide) (e := (y.msg 3 i).cells) (by rw [elM_get, em]; rfl) .i64
      have wi := wrap_succ (n := i) (by omega)
      simp [hll, hi, q1, q2]
      refine Run_newSt rfl rfl (by simp [Ms.cells, CS.msg]) fun g w9 hg hgw f9 hle9 => ?_
      simp [hg, Ms.cells, CS.msg, yj, wi]
      exact f8.trans f9 fun _ _ => id
    · rintro l w8 ⟨rfl, f8⟩
      simp [hll]
      have f58 : Fr (fun _ => False) w5 w8 := f67.trans f8 fun _ _ => id
      have hoo := ho.fr0 f58
      have hw58 := f58.size
      refine (answers_run hoo (hs7.fr0 f8) (fun c hc => .inl hc) (enterS_len (by rw [yn]; omega) _) (fun m hm => (enterS_sent y (by omega) hm).kind) H).mono ?_
      rintro _ w9 ⟨la, rfl, h9, s9, n9, f9⟩
      rw [answers_end y (by rw [yn]; omega) (by omega)] at h9 s9
      simp only at h9 s9
      have hl9 := s9.1.lenL
      simp [elM] at hl9
      simp
      refine h9.report.mono ?_
      rintro r10 w10 ⟨f10, h10⟩
      rw [if_pos rfl] at h10
      obtain ⟨hv_, mv, rfl, sh, sm, nh, nm, _⟩ := h10
      simp [Rep.val] at sh sm ⊢
      refine Run_newSt rfl rfl (by simp [sh.1.isCell, sm.1.isCell]) fun g w11 hg hgw f11 hle11 => ?_
      have hg' : bk w11 g = some [.int .i64 y.job, .int .i64 y.kind, .int .i64 y.ver, .int .i64 2, hv_, mv] := hg
      have f911 : Fr (fun _ => False) w9 w11 := f10.trans f11 fun _ _ => id
      have h11 := h9.fr0 f911
      have hd8 : bk w8 d = some (C.cells nv) := f8.bk_some hd7 id
      have ld := bk_lt hd4
      have hd9 : bk w9 d = some (C.cells nv) := f9.bk_some hd8 fun hq => by omega
      have hd11 : bk w11 d = some (C.cells nv) := f911.bk_some hd9 id
      have hml := sm.1.lenL
      have hhl := sh.1.lenL
      simp [elI, yn] at hml hhl
      have hnow : ∀ (z : CS), ({ z with now := none, ended := true } : CS).now.isSome = false := fun _ => rfl
      simp [hl9, h11.busy, hg', yj, yk, yv, hml, hhl, hd11, k22, hnl]
      refine Run_for C.nodes.length (fun i l w12 => l = [.int .i64 i] ∧ w12 = w11) ⟨rfl, rfl⟩ ?_ ?_
      · rintro i l w12 hi ⟨rfl, rfl⟩
        obtain ⟨q, q1, q2⟩ := (sh.1.fr f11 fun _ _ => id).rd1 (i := i) (y := .int .i64 H) (by
          rw [elI_get, List.getElem?_replicate, if_pos (by rw [yn]; exact hi)]; simp [CS.heldS]) .i64
        have wi := wrap_succ (n := i) (by omega)
        simp [hg', hhl, hi, q1, q2, wi]
      · rintro l w12 ⟨rfl, rfl⟩
        simp [-ldA_ptr, hg', hhl]
        have xj : IntKind.i64.wrap (J + 1) = J + 1 := wrap_small (by omega) (by omega)
        simp [-ldA_ptr, Clu.ldA hd11, xj]
        refine (goes_run h11 rfl (by show y.job < _; omega) (C := C) (nv := nv) (kind := 1) (v := V) (by rw [hnl, ← yn]) (by decide) (by omega) (by show _ = y.job + 1; rw [yj])).mono ?_
        rintro _ w13 ⟨rfl, h13, f13⟩
        simp
        exact f14.trans h13.fr fun _ _ => id
end
/-- Three cells. -/
theorem rd3 {w : World} {cs : Array Value} {n : Nat} (h : (Shs.int .i64 (.int .i64 (.int .i64 .nil))).Rd w cs.toList n) : ∃ a b c : Int, cs = #[.int .i64 a, .int .i64 b, .int .i64 c] := by
  obtain ⟨a, _, _, h1, _, b, _, _, h2, _, c, _, _, h3, _, h4⟩ := h
  subst h4; subst h3; subst h2
  exact ⟨a, b, c, by cases cs; simp at h1; rw [h1]⟩
theorem controlResumes_top {W : World} (nodes : Int) {cs : Array Value} {n : Nat} (h : (Shs.int .i64 (.int .i64 (.int .i64 .nil))).Rd W cs.toList n) (job kind version : Int) (isOpen : Bool) (holds : Int) :
    Run (F.granarylaw15_ControlResumes (.int .i64 nodes) (.agg cs) (.int .i64 job) (.int .i64 kind) (.int .i64 version) (.bool isOpen) (.int .i64 holds)) W fun v w' => v = .bool true ∧ Fr (fun _ => False) W w' := by
  obtain ⟨a, b, c, rfl⟩ := rd3 h
  exact resumes_run nodes a b c job kind version holds isOpen
end Go.Proofs.Ytpiceodfdjihhaa
