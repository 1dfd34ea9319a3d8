/-
  Layer 15 (control), part Zd: ControlAtomic: a step, and the whole.
-/
import Derived.Test.YtpiceodfdjihhaaCtlZc
namespace Go.Proofs.Ytpiceodfdjihhaa
open Go.Lift
set_option linter.unusedSimpArgs false

section
variable {w0 w w' w1 w2 : World} {pb b : Nat} {J : Int} {p : PS} {v : PV} {tg : Nat → Nat} {x : CS}
/-- A call of the controller, and what it leaves. -/
theorem Pl.went (h : Pl w0 w pb b p v tg) {q : PS} (hq : q.x = p.x ∧ q.letters = p.letters ∧ q.nodes = p.nodes ∧ q.at_ = p.at_ ∧ q.fetched = p.fetched) {v2 : PV} {tg2 : Nat → Nat} (hm : PlM w0 w1 pb b p.x.job q v2 tg2) {a : Ans} {l : Value} (hjob : a.x.job = p.x.job)
    (hc : OwnC w0 w2 b a.x (fun c => KT w0 tg2 c ∨ inB l c) ∧ SlW 11 w2 l (elM a.out) ∧ New w1 w2 l ∧ Fr (fun c => w0.heap.size ≤ c ∧ ¬ KT w0 tg2 c) w1 w2) (hs : ∀ m ∈ a.out, Sent m) (hl : a.out.length ≤ 64) (hw : WentOk q a.x a.out) (hI : Inv (wentS q a.x a.out))
    (hlen : p.letters.length ≤ 549755813888) :
    Run (F.granarylaw15_Play_went (.pointer (some ⟨pb, 0, none⟩)) l (.int .i64 0) (.bool p.x.now.isSome)) w2 fun r w' => r = .bool true ∧ Stepped w0 w' pb b p := by
  obtain ⟨h1, h2, h3, h4, h5⟩ := hq
  obtain ⟨o4, s4, n4, f4⟩ := hc
  have hn16 := h.i.n16
  have hnl := h.i.n
  have hal := h.i.atl
  have hf := h.f
  refine (went_run (hm.call f4) (o4.mono fun c hc => .inl hc) (by rw [h1]) hjob s4.1 (fun c hc => hm.tag0 (n4 c hc).1) (fun z hz => (hs z hz).fine) hw (by rw [h3, h4]; omega) (by rw [h3]; omega) (by rw [h5]; exact hf) (by rw [h2]; omega) hl (by rw [h1])).mono ?_
  rintro _ w5 ⟨rfl, v5, tg5, m5, o5, f5, t5⟩
  refine ⟨rfl, _, v5, tg5, ⟨m5, o5, hI, ?_⟩, ?_, ?_⟩
  · show q.fetched.length ≤ 64
    rw [h5]; exact hf
  · show (q.letters ++ a.out).length ≤ _
    rw [List.length_append, h2]; omega
  · show a.x.job ≤ _
    omega
theorem stopS_out {x : CS} {z : Ms} (h : z ∈ x.stopS.out) : Sent z := by
  unfold CS.stopS at h
  split at h
  · cases h
  · unfold CS.stoppedS at h
    split at h
    · exact enterS_sent x (by omega) h
    · split at h
      · cases h
      · cases h
theorem stopS_len {x : CS} (h : x.n ≤ 64) : x.stopS.out.length ≤ 64 := by
  unfold CS.stopS
  split
  · simp
  · unfold CS.stoppedS
    split
    · exact enterS_len h 3
    · split
      · simp
      · simp [CS.endS]
theorem reviveS_out {x : CS} {z : Ms} (h : z ∈ x.reviveS.out) : Sent z := by
  unfold CS.reviveS at h
  split at h
  · cases h
  · split at h
    · cases h
    · exact enterS_sent x (by omega) h
theorem reviveS_len {x : CS} (h : x.n ≤ 64) : x.reviveS.out.length ≤ 64 := by
  unfold CS.reviveS
  split
  · simp
  · split
    · simp
    · exact enterS_len h 3

set_option maxHeartbeats 4000000 in
theorem step_run (h : Pl w0 w pb b p v tg) (k n ve : Int) (hj : p.x.job < 4503599627370496) (hl : p.letters.length ≤ 549755813888) :
    Run (F.granarylaw15_Play_step (.pointer (some ⟨pb, 0, none⟩)) (.agg #[.int .i64 k, .int .i64 n, .int .i64 ve])) w fun r w' => r = .bool true ∧ Stepped w0 w' pb b p := by
  unfold F.granarylaw15_Play_step
  simp
  refine Run_new fun e w1 he hew f1 hle1 => ?_
  have he' : bk w1 e = some [.int .i64 k, .int .i64 n, .int .i64 ve] := by simpa using he
  have h1 := h.fr0 f1
  have hb1 := h1.m.blk
  have hn16 := h.i.n16
  have hn1 := h.i.ok.n
  have hnn := h.i.n
  simp [he', hb1, PS.cells, h1.o.busy]
  by_cases k1 : k = 1
  · simp [k1, he']
    rw [← k1]
    exact (begin_run_ h1 k n ve hj hl).mono fun r w' hr => hr
  by_cases k2 : k = 2
  · simp [k2, hb1, PS.cells]
    refine (h1.o.tick).mono ?_
    rintro _ w2 ⟨l, rfl, hc⟩
    simp
    obtain ⟨g1, g2⟩ := inv_tick h.i
    exact h1.went ⟨rfl, rfl, rfl, rfl, rfl⟩ h1.m (job_tick p.x) hc (fun m hm => tickS_out h.i.ok hm) (tickS_len h.i.ok) g1 g2 hl
  by_cases k6 : k = 6
  · simp [k6]
    cases hx : p.x.now with
    | none =>
      simp
      exact h1.stay
    | some q0 =>
      simp [he', k6, hb1, PS.cells]
      obtain ⟨g0, g1, g2⟩ := inv_stop h.i hx
      refine (h1.o.stop).mono ?_
      rintro _ w2 ⟨l, rfl, hc⟩
      simp [g0]
      have := h1.went (a := p.x.stopS) ⟨rfl, rfl, rfl, rfl, rfl⟩ h1.m (job_stop p.x) hc (fun m hm => stopS_out hm) (stopS_len hn1.2) g1 g2 hl
      rw [hx] at this
      exact this
  by_cases k7 : k = 7
  · simp [k7]
    cases hx : p.x.now with
    | none =>
      simp
      exact h1.stay
    | some q0 =>
      have hnl1 := h1.m.nodes.1.lenL
      simp at hnl1
      simp [he', k7, hb1, PS.cells, hnl1]
      obtain ⟨g0, g1, g2⟩ := inv_revive h.i hx
      refine (none_run (w := w1) (n := p.nodes.length) (by omega)).mono ?_
      rintro bv w2 ⟨sb, f2, nb⟩
      have hpt : tg pb ≠ 0 := by rw [h1.m.tp]; decide
      have hp0 := (h1.m.bound pb hpt).1
      have m3 := h1.m.setBacked f2 sb nb
      have o3 := h1.o.retag (pb := pb) hpt hp0 f2 (o := 7) (k := 5) (vs := [bv]) nb
      have m2 := h1.m.fr0 f2
      have hb2 := m2.blk
      simp [hb2, PS.cells, m2.wr, sb.1.isCell, cells_isCell sb.1.isCell]
      revert m3 o3
      generalize sto w2 pb 7 [bv] = w3
      intro m3 o3
      refine (o3.revive).mono ?_
      rintro _ w4 ⟨l, rfl, hc⟩
      simp [g0]
      have := h1.went (a := p.x.reviveS) (q := { p with backed := List.replicate p.nodes.length false }) ⟨rfl, rfl, rfl, rfl, rfl⟩ m3 (job_revive p.x) hc (fun m hm => reviveS_out hm) (reviveS_len hn1.2) g1 g2 hl
      rw [hx] at this
      exact this
  have hnl1 := h1.m.nodes.1.lenL
  simp at hnl1
  have hnpos : (1 : Int) ≤ (p.nodes.length : Int) := by omega
  have hnle : (p.nodes.length : Int) ≤ 1099511627776 := by omega
  have m1 := Int.emod_nonneg n (b := (p.nodes.length : Int)) (by omega)
  have m2 := Int.emod_lt_of_pos n (b := (p.nodes.length : Int)) (by omega)
  obtain ⟨i, hi⟩ : ∃ i : Nat, n % (p.nodes.length : Int) = i := ⟨(n % (p.nodes.length : Int)).toNat, by omega⟩
  have hin : i < p.nodes.length := by omega
  have hnd : p.nodes[i]? = some p.nodes[i] := List.getElem?_eq_getElem hin
  by_cases k8 : k = 8
  · generalize p.nodes[i] = nd at hnd
    obtain ⟨q, A, B, q1, q2, q3, q4, q5⟩ := h1.m.nodeAt hnd
    have qpb : q ≠ pb := fun hq => by subst hq; rw [h1.m.tp] at q4; cases q4
    simp [k8, hb1, PS.cells, he', hnl1, mod15_run (w := w1.drew) (a := n) (m := (p.nodes.length : Int)) (by omega) (by omega), mod15_run (w := w1.drew) (a := ve) (m := 2) (by omega) (by omega), hi, q1]
    have f3 : Fr (fun c => c = q) w1 (sto w1.drew q (A.length + 6) [.bool (decide (ve % 2 = 1))]) := (Fr.refl (fun c => c = q) w1).drew.sto (.inl rfl) _ _
    have m3 := q5 (sto w1.drew q (A.length + 6) [.bool (decide (ve % 2 = 1))]) { nd with sick := decide (ve % 2 = 1) } (by rw [bk_sto_eq, bk_drew, q2]; simp [set_app, Nd.cells]) f3 (by simpa using q3)
    have o3 := h1.o.KTput h1.m f3 fun c hc => by subst hc; omega
    have I3 := inv_sick h.i hnd (decide (ve % 2 = 1)) nd.deaf
    exact ⟨⟨_, q2, by simp [Nd.cells]; omega⟩, q3, { p with nodes := p.nodes.set i { nd with sick := decide (ve % 2 = 1) } }, v, tg, ⟨m3, o3, I3, h.f⟩, by show p.letters.length ≤ _; omega, by show p.x.job ≤ _; omega⟩
  by_cases k9 : k = 9
  · generalize p.nodes[i] = nd at hnd
    obtain ⟨q, A, B, q1, q2, q3, q4, q5⟩ := h1.m.nodeAt hnd
    have qpb : q ≠ pb := fun hq => by subst hq; rw [h1.m.tp] at q4; cases q4
    simp [k9, hb1, PS.cells, he', hnl1, mod15_run (w := w1.drew) (a := n) (m := (p.nodes.length : Int)) (by omega) (by omega), mod15_run (w := w1.drew) (a := ve) (m := 2) (by omega) (by omega), hi, q1]
    have f3 : Fr (fun c => c = q) w1 (sto w1.drew q (A.length + 7) [.bool (decide (ve % 2 = 1))]) := (Fr.refl (fun c => c = q) w1).drew.sto (.inl rfl) _ _
    have m3 := q5 (sto w1.drew q (A.length + 7) [.bool (decide (ve % 2 = 1))]) { nd with deaf := decide (ve % 2 = 1) } (by rw [bk_sto_eq, bk_drew, q2]; simp [set_app, Nd.cells]) f3 (by simpa using q3)
    have o3 := h1.o.KTput h1.m f3 fun c hc => by subst hc; omega
    have I3 := inv_sick h.i hnd nd.sick (decide (ve % 2 = 1))
    exact ⟨⟨_, q2, by simp [Nd.cells]; omega⟩, q3, { p with nodes := p.nodes.set i { nd with deaf := decide (ve % 2 = 1) } }, v, tg, ⟨m3, o3, I3, h.f⟩, by show p.letters.length ≤ _; omega, by show p.x.job ≤ _; omega⟩
  have hll := h1.m.letters.1.lenL
  simp at hll
  by_cases hl0 : p.letters.length = 0
  · simp [k1, k2, k6, k7, k8, k9, hb1, PS.cells, hll, hl0]
    exact h1.stay
  have hl0' : ¬ p.letters = [] := fun hh => hl0 (by rw [hh]; rfl)
  have c1 := Int.emod_nonneg n (b := (p.letters.length : Int)) (by omega)
  have c2 := Int.emod_lt_of_pos n (b := (p.letters.length : Int)) (by omega)
  obtain ⟨j, hjj⟩ : ∃ j : Nat, n % (p.letters.length : Int) = j := ⟨(n % (p.letters.length : Int)).toNat, by omega⟩
  have hjl : j < p.letters.length := by omega
  have h1d := h1.fr0 (Fr.refl (fun _ => False) w1).drew
  have em : p.letters[j]? = some p.letters[j] := List.getElem?_eq_getElem hjl
  simp [k1, k2, k6, k7, k8, k9, hb1, PS.cells, hll, hl0', he', mod15_run (w := w1.drew) (a := n) (m := (p.letters.length : Int)) (by omega) (by omega), hjj]
  by_cases k3 : k = 3
  · simp [k3]
    exact (deliver_run h1d hjl hl).mono fun r w' hr => hr
  by_cases k4 : k = 4
  · simp [k4]
    refine (taken_run h1d.m h1d.o em h1d.fine (by omega)).mono ?_
    rintro _ w2 ⟨rfl, v2, tg2, m2, o2, f2, t2⟩
    have hel : (p.letters.eraseIdx j).length ≤ p.letters.length := List.length_eraseIdx_le _ _
    exact ⟨{ p with letters := p.letters.eraseIdx j }, v2, tg2, ⟨m2, o2, h.i.fewer fun z hz => List.mem_of_mem_eraseIdx hz, h.f⟩, by show (p.letters.eraseIdx j).length ≤ _; omega, by show p.x.job ≤ _; omega⟩
  by_cases k5 : k = 5
  · have hmem := List.getElem_mem hjl
    have hmf := h.fine _ hmem
    generalize p.letters[j] = m at em hmem hmf
    obtain ⟨q, z1, z2⟩ := h1.m.letters.1.rdA (by decide) (e := m.cells) (by rw [elM_get, em]; rfl) .i64
    have hdd := h1d.fr0 (Fr.refl (fun _ => False) w1.drew).drew
    simp [-ldA_ptr, -ld1_ptr, -Run_stM_iff, k5]
    refine ⟨v.lv, by simp [hb1, PS.cells], v.lv, by simp [hb1, PS.cells], ?_⟩
    simp [-ldA_ptr, -ld1_ptr, -Run_stM_iff, z1, z2]
    refine letter_run hdd.m hdd.o rfl hmf (by omega) fun r w6 w5 hup f6 hb6 hw6 hc6 f5 => ?_
    rw [Run_st1 ⟨(okAt_some hb6).2 ⟨by simp [PS.cells], hw6⟩, hc6⟩]
    obtain ⟨v6, tg6, m6, o6, t6⟩ := hup
    have hb5 := f5.bk_some hdd.m.blk id
    refine ⟨by simp [hb5, PS.cells], { p with letters := p.letters ++ [m] }, v6, tg6, ⟨m6, o6, h.i.more fun z hz => by rw [List.mem_singleton.1 hz]; exact h.i.letters m hmem, h.f⟩, ?_, ?_⟩
    · show (p.letters ++ [m]).length ≤ _
      rw [List.length_append]; simp
    · show p.x.job ≤ _; omega
  · simp [k3, k4, k5]
    exact h1d.stay
theorem kept_run (h : Pl w0 w pb b p v tg) : Run (F.granarylaw15_Play_kept (.pointer (some ⟨pb, 0, none⟩))) w fun r w' => r = .bool true ∧ Fr (fun _ => False) w w' := by
  unfold F.granarylaw15_Play_kept
  have hnn := h.i.n
  have hn16 := h.i.n16
  have hal := h.i.atl
  simp
  refine Run_for p.nodes.length (fun i lv w2 => lv = [.int .i64 i] ∧ Fr (fun _ => False) w w2) ⟨rfl, Fr.refl _ _⟩ ?_ ?_
  · rintro i lv w2 hi ⟨rfl, f2⟩
    have h2 := h.fr0 f2
    have hb2 := h2.m.blk
    have hnl2 := h2.m.nodes.1.lenL
    simp at hnl2
    have hnd : p.nodes[i]? = some p.nodes[i] := List.getElem?_eq_getElem hi
    generalize p.nodes[i] = nd at hnd
    have hia : i < p.at_.length := by omega
    have hat : p.at_[i]? = some p.at_[i] := List.getElem?_eq_getElem hia
    generalize p.at_[i] = a at hat
    obtain ⟨q, q1, q2⟩ := h2.m.at_.1.rd1 (i := i) (y := .int .i64 a) (by rw [elI_get, hat]; rfl) .i64
    obtain ⟨z, z1, z2⟩ := h2.m.nodes.1.rdF (e := nd.cells) (by rw [elNd_get, hnd]; rfl) .i64
    obtain ⟨y, y1, y2⟩ := z2 0 (by decide)
    have y2' : ld1 y w2 = some (.int .i64 nd.cur) := y2
    have wi := wrap_succ (n := i) (by omega)
    by_cases ha : 0 ≤ a
    · obtain ⟨nd', g1, g2⟩ := h.i.kept hat ha
      rw [hnd] at g1; cases g1
      simp [hb2, PS.cells, hnl2, hi, q1, q2, ha, z1, y1, y2', g2, wi]
      exact f2.drew
    · simp [hb2, PS.cells, hnl2, hi, q1, q2, ha, wi]
      exact f2.drew
  · rintro lv w2 ⟨rfl, f2⟩
    have h2 := h.fr0 f2
    have hb2 := h2.m.blk
    have hnl2 := h2.m.nodes.1.lenL
    simp at hnl2
    simp [hb2, PS.cells, hnl2]
    exact f2
theorem begun_run (h : Pl w0 w pb b p v tg) (hj : p.x.job < 4503599627370496) (hl : p.letters.length ≤ 549755813888) : Run (F.granarylaw15_Play_begun (.pointer (some ⟨pb, 0, none⟩))) w fun r w' => r = .bool true ∧ Fr (fun _ => False) w0 w' := by
  unfold F.granarylaw15_Play_begun
  have hb := h.m.blk
  simp [hb, PS.cells, h.o.busy]
  cases hx : p.x.now with
  | some q => 
    simp
    exact h.o.fr
  | none =>
    simp [buildV, fillV_cell]
    refine (begin_run_ h 1 0 0 hj hl).mono ?_
    rintro _ w' ⟨rfl, p', v', tg', h', _, _⟩
    simp
    exact h'.o.fr

noncomputable def startTag (pb : Nat) (nv av : Value) : Nat → Nat := fun c => if c = pb then 1 else @ite _ (inB nv c) (Classical.propDecidable _) 2 (@ite _ (inB av c) (Classical.propDecidable _) 6 0)
set_option maxHeartbeats 2000000 in
theorem started_run {C : Clu} {nv : Value} {pvs : List Value} (hN : Nodes w nv C.nodes pvs) (hF : Fits C) (hck : checkF C = 0) (hn : C.nodes.length ≤ 16) :
    Run (F.granarylaw15_started (C.val nv)) w fun r w' => ∃ w0 pb b p v tg, r = .tuple #[.pointer (some ⟨pb, 0, none⟩), .bool true] ∧ Fr (fun _ => False) w w0 ∧ Pl w0 w' pb b p v tg ∧ p.letters = [] ∧ p.x.job = 0 := by
  unfold F.granarylaw15_started
  simp [-ldA_ptr]
  refine Run_new fun d w1 hd hdw f1 hle1 => ?_
  have hd' : bk w1 d = some (C.cells nv) := hd
  have hnl : lenL nv = some (.int .i64 C.nodes.length) := hN.lenL
  have k22 : (C.cells nv)[22]? = some nv := rfl
  simp [-ldA_ptr, Clu.ldA hd']
  refine (new_run (hN.fr0 f1) hF).mono ?_
  rintro rv w2 ⟨f2, _, g2⟩
  obtain ⟨b, cv, tag, rfl, hC, htag⟩ := g2 hck
  have ho := own_new hck f2 hC htag
  have hnow : (CS.new C).now.isSome = false := rfl
  simp [F.granarylaw15_num, ho.busy, hnow, buildV, fillV_cell]
  refine Run_new fun pb w3 hp hpw f3 hle3 => ?_
  have hp' : bk w3 pb = some [.pointer (some ⟨b, 0, none⟩), .slice none 0 0, .slice none 0 0, .int .i64 0, .int .i64 0, .int .i64 0, .slice none 0 0, .slice none 0 0, .bool false, .slice none 0 0] := by simpa using hp
  have lp := bk_lt hp'
  have hd3 : bk w3 d = some (C.cells nv) := (f2.trans f3 fun _ _ => id).bk_some hd' id
  have hdp : d ≠ pb := by have := bk_lt hd'; have := f2.size; omega
  refine Run_for C.nodes.length (fun i lv w4 => lv = [.int .i64 i] ∧ ∃ nv' av, bk w4 pb = some [.pointer (some ⟨b, 0, none⟩), nv', .slice none 0 0, .int .i64 0, .int .i64 0, .int .i64 0, .slice none 0 0, .slice none 0 0, .bool false, av] ∧ wr w4 pb = true ∧
      SlW 8 w4 nv' (elNd (List.replicate i Nd.zero)) ∧ SlW 1 w4 av (elI (List.replicate i (-1))) ∧ (∀ c, inB nv' c → w3.heap.size ≤ c ∧ c < w4.heap.size ∧ ¬ inB av c) ∧ (∀ c, inB av c → w3.heap.size ≤ c ∧ c < w4.heap.size) ∧ Fr (fun c => c = pb) w3 w4)
    ⟨rfl, _, _, hp', hpw, SlW.nil 8 w3, SlW.nil 1 w3, fun _ h => h.elim, fun _ h => h.elim, Fr.refl _ _⟩ ?_ ?_
  · rintro i lv w4 hi ⟨rfl, nv', av, hp4, hpw4, sn, sa, bn, ba, f4⟩
    have hd4 := f4.bk_some hd3 hdp
    have wi := wrap_succ (n := i) (by omega)
    simp [hd4, k22, hnl, hi, hp4, buildV, fillV_cell]
    refine Run_app1 (k := 8) rfl sn (by decide) rfl (by decide) (by simp) (by simp; omega) fun r w5 s5 f5 hin5 w6 f6 => ?_
    have npn : ¬ inB nv' pb := fun h => by have := (bn pb h).1; omega
    have npa : ¬ inB av pb := fun h => by have := (ba pb h).1; omega
    have hp5 := f5.bk_some hp4 npn
    have hpw5 : wr w5 pb = true := by rw [f5.wr (bk_lt hp4) npn]; exact hpw4
    have e5 := f5.size
    have e4 := f4.size
    have hr5 : ∀ c, inB r c → w3.heap.size ≤ c ∧ c < w5.heap.size ∧ ¬ inB av c := fun c hc => by
      rcases hin5 c hc with h | h
      · have := bn c h; exact ⟨this.1, by omega, this.2.2⟩
      · exact ⟨by omega, h.2, fun ha => by have := (ba c ha).2; omega⟩
    have sa5 : SlW 1 w5 av (elI (List.replicate i (-1))) := sa.fr f5 fun c hc hq => (bn c hq).2.2 hc
    have fp : Fr (fun c => c = pb) w5 (sto w5 pb 1 [r]) := (Fr.refl (fun c => c = pb) w5).sto (.inl rfl) _ _
    have sa6 : SlW 1 (sto w5 pb 1 [r]) av (elI (List.replicate i (-1))) := sa5.fr fp fun c hc hq => by subst hq; exact npa hc
    have hp6 : bk (sto w5 pb 1 [r]) pb = some [.pointer (some ⟨b, 0, none⟩), r, .slice none 0 0, .int .i64 0, .int .i64 0, .int .i64 0, .slice none 0 0, .slice none 0 0, .bool false, av] := by rw [bk_sto_eq, hp5]; rfl
    have sn6 : SlW 8 (sto w5 pb 1 [r]) r (elNd (List.replicate (i + 1) Nd.zero)) := by
      have e : elNd (List.replicate (i + 1) Nd.zero) = elNd (List.replicate i Nd.zero) ++ [Nd.zero.cells] := by rw [List.replicate_succ']; simp [elNd]
      rw [e]
      exact (show SlW 8 w5 r _ from s5).fr fp fun c hc hq => by subst hq; have := (hr5 _ hc).1; omega
    have hpw6 : wr (sto w5 pb 1 [r]) pb = true := by rw [wr_sto]; exact hpw5
    have f46 : Fr (fun c => c = pb) w3 (sto w5 pb 1 [r]) := (f4.trans f5 fun c hc hq => by have := (bn c hq).1; omega).trans fp fun _ _ h => h
    have z6 : (sto w5 pb 1 [r]).heap.size = w5.heap.size := by simp
    simp [hp5, hpw5, s5.1.isCell, cells_isCell s5.1.isCell]
    revert sa6 hp6 sn6 hpw6 f46 z6
    generalize sto w5 pb 1 [r] = w7
    intro sa6 hp6 sn6 hpw6 f46 z6
    refine Run_app1 (k := 1) rfl sa6 (by decide) rfl (by decide) (by simp) (by simp; omega) fun r2 w8 s8 f8 hin8 w9 f9 => ?_
    have hp8 := f8.bk_some hp6 npa
    have hpw8 : wr w8 pb = true := by rw [f8.wr (bk_lt hp6) npa]; exact hpw6
    have e8 := f8.size
    have sn8 : SlW 8 w8 r (elNd (List.replicate (i + 1) Nd.zero)) := sn6.fr f8 fun c hc hq => (hr5 c hc).2.2 hq
    have fp8 : Fr (fun c => c = pb) w8 (sto w8 pb 9 [r2]) := (Fr.refl (fun c => c = pb) w8).sto (.inl rfl) _ _
    have hr8 : ∀ c, inB r2 c → w3.heap.size ≤ c ∧ c < w8.heap.size ∧ ¬ inB r c := fun c hc => by
      rcases hin8 c hc with h | h
      · have := ba c h; exact ⟨this.1, by omega, fun hr => (hr5 c hr).2.2 h⟩
      · exact ⟨by omega, h.2, fun hr => by have := (hr5 c hr).2.1; omega⟩
    have npr : ¬ inB r pb := fun h => by have := (hr5 pb h).1; omega
    have npr2 : ¬ inB r2 pb := fun h => by have := (hr8 pb h).1; omega
    simp [hp8, hpw8, s8.1.isCell, cells_isCell s8.1.isCell, wi]
    refine ⟨r, r2, ⟨rfl, rfl⟩, sn8.fr fp8 fun c hc hq => by subst hq; exact npr hc, ?_, fun c hc => ?_, fun c hc => ?_, (f46.trans f8 fun c hc hq => by have := (ba c hq).1; omega).trans fp8 fun _ _ h => h⟩
    · have e : elI (List.replicate (i + 1) (-1)) = elI (List.replicate i (-1)) ++ [[.int .i64 (-1)]] := by rw [List.replicate_succ']; simp [elI]
      rw [e]
      exact (show SlW 1 w8 r2 _ from s8).fr fp8 fun c hc hq => by subst hq; exact npr2 hc
    · have := hr5 c hc
      exact ⟨this.1, by omega, fun h => (hr8 c h).2.2 hc⟩
    · have := hr8 c hc
      exact ⟨this.1, this.2.1⟩
  · rintro lv w4 ⟨rfl, nv', av, hp4, hpw4, sn, sa, bn, ba, f4⟩
    have hd4 := f4.bk_some hd3 hdp
    simp [hd4, k22, hnl]
    have e4 := f4.size
    have e3 := f3.size
    have e2 := f2.size
    have npn : ¬ inB nv' pb := fun h => by have := (bn pb h).1; omega
    have npa : ¬ inB av pb := fun h => by have := (ba pb h).1; omega
    have f24 : Fr (fun _ => False) w2 w4 := f3.trans f4 fun c hc hq => by subst hq; omega
    have I0 := inv_new (COk.new hck) hn
    have t2 : ∀ c, inB nv' c → startTag pb nv' av c = 2 := fun c hc => by unfold startTag; rw [if_neg (fun h => by subst h; exact npn hc), if_pos hc]
    have t6 : ∀ c, inB av c → startTag pb nv' av c = 6 := fun c hc => by unfold startTag; rw [if_neg (fun h => by subst h; exact npa hc), if_neg (fun h => (bn c h).2.2 hc), if_pos hc]
    have tne : ∀ c, startTag pb nv' av c ≠ 0 → c = pb ∨ inB nv' c ∨ inB av c := fun c hc => by
      unfold startTag at hc
      by_cases h1 : c = pb
      · exact .inl h1
      · rw [if_neg h1] at hc
        by_cases h2 : inB nv' c
        · exact .inr (.inl h2)
        · rw [if_neg h2] at hc
          by_cases h3 : inB av c
          · exact .inr (.inr h3)
          · rw [if_neg h3] at hc; exact absurd rfl hc
    have tb : ∀ c, startTag pb nv' av c ≠ 0 → w2.heap.size ≤ c ∧ c < w4.heap.size := fun c hc => by
      rcases tne c hc with h | h | h
      · subst h; exact ⟨hle3, bk_lt hp4⟩
      · have := bn c h; omega
      · have := ba c h; omega
    have nil : ∀ k, Tg (startTag pb nv' av) k (.slice none 0 0) := fun k c hc => hc.elim
    refine ⟨w1, f1, b, ⟨CS.new C, List.replicate C.nodes.length Nd.zero, [], 0, 0, [], [], false, List.replicate C.nodes.length (-1)⟩, ⟨⟨nv', .slice none 0 0, .slice none 0 0, .slice none 0 0, av⟩, startTag pb nv' av, ⟨?_, ?_, I0, by simp⟩⟩, rfl, rfl⟩
    · exact ⟨hp4, hpw4, by unfold startTag; rw [if_pos rfl], sn, t2, SlW.nil 11 w4, nil 3, SlW.nil 1 w4, nil 4, SlW.nil 1 w4, nil 5, sa, t6, fun c hc => by have := tb c hc; omega⟩
    · refine (ho.fr0 f24).mono fun c hc => ?_
      rcases hc with hc | hc
      · exact .inr (tb c hc)
      · exact .inl hc
/-- An event. -/
structure Ev where
  kind : Int
  n : Int
  v : Int
def Ev.cells (e : Ev) : List Value := [.int .i64 e.kind, .int .i64 e.n, .int .i64 e.v]
def elE (l : List Ev) : List (List Value) := l.map Ev.cells
@[simp] theorem elE_len (l : List Ev) : (elE l).length = l.length := by simp [elE]
theorem elE_get (l : List Ev) (i : Nat) : (elE l)[i]? = (l[i]?).map Ev.cells := by simp [elE]
set_option maxHeartbeats 2000000 in
theorem atomic_run (nodes r l p : Int) {sv : Value} {es : List Ev} (hs : Sl 3 w sv (elE es)) (hle : es.length ≤ 1048576) :
    Run (F.granarylaw15_ControlAtomic (.int .i64 nodes) (.agg #[.int .i64 r, .int .i64 l, .int .i64 p]) sv) w fun v w' => v = .bool true ∧ Fr (fun _ => False) w w' := by
  unfold F.granarylaw15_ControlAtomic
  simp
  refine Run_new fun b0 w1 hb0 _ f1 hle1 => ?_
  have hb0' : bk w1 b0 = some [.int .i64 r, .int .i64 l, .int .i64 p] := by simpa using hb0
  simp [hb0']
  refine (made_run nodes r l p).mono ?_
  rintro _ w2 ⟨f2, nv, pvs, rfl, hN, _, _⟩
  have hn1 : 0 ≤ nodes % 16 := Int.emod_nonneg nodes (by decide)
  have hn2 : nodes % 16 < 16 := Int.emod_lt_of_pos nodes (by decide)
  have b1 := Int.emod_nonneg r (b := 1024) (by decide)
  have b2 := Int.emod_lt_of_pos r (b := 1024) (by decide)
  have b3 := Int.emod_nonneg l (b := 64) (by decide)
  have b4 := Int.emod_lt_of_pos l (b := 64) (by decide)
  have b5 := Int.emod_nonneg p (b := 65536) (by decide)
  have b6 := Int.emod_lt_of_pos p (b := 65536) (by decide)
  have hck : checkF (madeC (1 + nodes % 16).toNat (1 + r % 1024) (1 + l % 64) (1 + p % 65536)) = 0 := made_ok (by omega) (by omega) (by omega) (by omega)
  have hF := made_fits (1 + nodes % 16).toNat (by omega) (1 + r % 1024) (1 + l % 64) (1 + p % 65536)
  have hNn : (madeC (1 + nodes % 16).toNat (1 + r % 1024) (1 + l % 64) (1 + p % 65536)).nodes = madeN (1 + nodes % 16).toNat := rfl
  have hnn : (madeC (1 + nodes % 16).toNat (1 + r % 1024) (1 + l % 64) (1 + p % 65536)).nodes.length ≤ 16 := by rw [hNn, madeN_len]; omega
  rw [← hNn] at hN
  generalize madeC (1 + nodes % 16).toNat (1 + r % 1024) (1 + l % 64) (1 + p % 65536) = C at *
  refine (started_run hN hF hck hnn).mono ?_
  rintro _ w3 ⟨w0, pb, b, p0, v0, tg0, rfl, f3, hP, hl0, hj0⟩
  have f00 : Fr (fun _ => False) w w0 := (f1.trans f2 fun _ _ => id).trans f3 fun _ _ => id
  have hs0 : Sl 3 w0 sv (elE es) := hs.fr0 f00
  have hsl := hs.lenL
  simp at hsl
  simp
  refine Run_for es.length (fun i lv w4 => lv = [.int .i64 i] ∧ ∃ p v tg, Pl w0 w4 pb b p v tg ∧ p.letters.length ≤ 64 * i ∧ p.x.job ≤ i) ⟨rfl, p0, v0, tg0, hP, by rw [hl0]; simp, by rw [hj0]; decide⟩ ?_ ?_
  · rintro i lv w4 hi ⟨rfl, p, v, tg, h4, hl4, hj4⟩
    have em : es[i]? = some es[i] := List.getElem?_eq_getElem hi
    generalize es[i] = ev at em
    have hs4 : Sl 3 w4 sv (elE es) := hs0.fr0 h4.o.fr
    obtain ⟨q, z1, z2⟩ := hs4.rdA (by decide) (e := ev.cells) (by rw [elE_get, em]; rfl) .i64
    have wi := wrap_succ (n := i) (by omega)
    have hi40 : (i : Int) < 1099511627776 := by omega
    simp [-ldA_ptr, hsl, hi, hi40, z1, z2]
    have hev : ev.cells.toArray = #[.int .i64 ev.kind, .int .i64 ev.n, .int .i64 ev.v] := rfl
    rw [hev]
    refine (step_run h4 ev.kind ev.n ev.v (by omega) (by omega)).mono ?_
    rintro _ w5 ⟨rfl, p', v', tg', h5, hl5, hj5⟩
    simp
    refine (kept_run h5).mono ?_
    rintro _ w6 ⟨rfl, f6⟩
    simp [wi]
    exact ⟨p', ⟨v', tg', h5.fr0 f6⟩, by omega, by omega⟩
  · rintro lv w4 ⟨rfl, p, v, tg, h4, hl4, hj4⟩
    simp [hsl]
    refine (begun_run h4 (by omega) (by omega)).mono ?_
    rintro _ w5 ⟨rfl, f5⟩
    exact ⟨rfl, f00.trans f5 fun _ _ => id⟩
theorem controlAtomic_top {W : World} (nodes : Int) {cs : Array Value} {n : Nat} (h : (Shs.int .i64 (.int .i64 (.int .i64 .nil))).Rd W cs.toList n) {v : Value} {n' n0 : Nat} (hv : (Shs.slice (.int .i64 (.int .i64 (.int .i64 .nil))) .nil).Rd W [v] n') (hk : n0 + n + n' ≤ 1048576) :
    Run (F.granarylaw15_ControlAtomic (.int .i64 nodes) (.agg cs) v) W fun v w' => v = .bool true ∧ Fr (fun _ => False) W w' := by
  obtain ⟨a, b, c, rfl⟩ := rd3 h
  obtain ⟨es, hs, hl⟩ := hv.slice1 (f := Ev.cells) fun c k hc => by
    obtain ⟨a0, _, _, rfl, _, a1, _, _, rfl, _, a2, _, _, rfl, _, rfl⟩ := hc
    exact ⟨⟨a0, a1, a2⟩, rfl⟩
  exact atomic_run nodes a b c hs (by omega)
end
end Go.Proofs.Ytpiceodfdjihhaa
