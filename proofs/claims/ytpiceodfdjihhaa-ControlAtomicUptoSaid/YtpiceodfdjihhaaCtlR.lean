/-
  Layer 15 (control), part R: ControlEnds, the walk.
-/
import Derived.Test.YtpiceodfdjihhaaCtlP
import Derived.Test.YtpiceodfdjihhaaCtlQ
namespace Go.Proofs.Ytpiceodfdjihhaa
open Go.Lift
set_option linter.unusedSimpArgs false

/-- The counts as they lie in memory. -/
def cn4 (c : Nat → Nat) : List Value := [.int .i64 (c 1 : Nat), .int .i64 (c 2 : Nat), .int .i64 (c 3 : Nat), .int .i64 (c 4 : Nat)]
theorem cnt_one (k : Nat) (l : List Ms) (m : Ms) : cnt k (l ++ [m]) = cnt k l + if m.to = 0 ∧ m.kind = 2 * (k : Int) + 1 then 1 else 0 := by
  rw [cnt_append]
  unfold cnt
  rw [List.filter_cons]
  by_cases h : m.to = 0 ∧ m.kind = 2 * (k : Int) + 1
  · rw [if_pos h, if_pos (by simp [h.1, h.2])]; rfl
  · rw [if_neg h, if_neg (by rw [Bool.and_eq_true, decide_eq_true_eq, decide_eq_true_eq]; exact h)]; rfl
/-- A message of a phase, by its kind. -/
theorem Sent.kinds {m : Ms} (h : Sent m) : m.kind = 3 ∨ m.kind = 5 ∨ m.kind = 7 ∨ m.kind = 9 := by
  obtain ⟨y, k, to, h1, h2, rfl⟩ := h
  simp only [CS.msg]; omega
section
variable {w : World}
set_option maxHeartbeats 1000000 in
theorem counted_run {l : Value} {ms : List Ms} (hs : Sl 11 w l (elM ms)) (hl : ms.length ≤ 64) (hm : ∀ m ∈ ms, Sent m) (c : Nat → Nat) (hc : ∀ k, c k ≤ 1048576) :
    Run (F.granarylaw15_counted (.agg (cn4 c).toArray) l) w fun r w' => Fr (fun _ => False) w w' ∧ r = .agg (cn4 fun k => c k + cnt k ms).toArray := by
  unfold F.granarylaw15_counted
  have hsl := hs.lenL
  simp at hsl
  simp only [Run_bind]
  refine Run_new fun b w1 hb hbw f1 hle => ?_
  have hb' : bk w1 b = some (cn4 c) := by simpa using hb
  refine Run_new fun d w2 hd hdw f2 hle2 => ?_
  have hb2 : bk w2 b = some (cn4 c) := f2.bk_some hb' id
  have hbw2 : wr w2 b = true := by rw [f2.wr (bk_lt hb') id]; exact hbw
  have lb := bk_lt hb'
  have f12 : Fr (fun _ => False) w w2 := f1.trans f2 fun _ _ => id
  refine Run_for ms.length (fun i lv w3 => lv = [.int .i64 i] ∧ Fr (fun z => z = b) w2 w3 ∧ bk w3 b = some (cn4 fun k => c k + cnt k (ms.take i)) ∧ wr w3 b = true) ⟨rfl, Fr.refl _ _, by simpa using hb2, hbw2⟩ ?_ ?_
  · rintro i lv w3 hi ⟨rfl, f3, h3, hw3⟩
    have em : ms[i]? = some ms[i] := List.getElem?_eq_getElem hi
    have hmk := hm _ (List.getElem_mem hi)
    generalize ms[i] = m at em hmk
    have f13 : Fr (fun z => z = b) w w3 := (f12.mono fun _ h => h.elim).trans f3 fun _ _ h => h
    have f03 : Fr (fun _ => False) w w3 := f12.trans f3 fun z hz h => by omega
    obtain ⟨q, o, cc, i1, i2, i3, i4, _⟩ := (hs.fr0 f03).rd (by decide) (e := m.cells) (by rw [elM_get, em]; rfl) .i64
    have g0 : cc[o]? = some (.int .i64 m.kind) := take_get (j := 0) i4 (by decide)
    have g2 : cc[o + 2]? = some (.int .i64 m.to) := take_get (j := 2) i4 (by decide)
    have wi := wrap_succ (n := i) (by omega)
    have etake : ms.take (i + 1) = ms.take i ++ [m] := by rw [List.take_add_one, em]; rfl
    have hcl : ∀ k, cnt k (ms.take i) ≤ 64 := fun k => by
      unfold cnt
      refine Nat.le_trans (List.length_filter_le _ _) ?_
      rw [List.length_take]; omega
    have keep : m.to ≠ 0 → (cn4 fun j => c j + cnt j (ms.take (i + 1))) = (cn4 fun j => c j + cnt j (ms.take i)) := by
      intro ht
      unfold cn4
      simp only [etake, cnt_one, ht, false_and, if_false, Nat.add_zero]
    by_cases ht : m.to = 0
    · have hx : ∀ k : Nat, 1 ≤ k → k ≤ 4 → (c k + cnt k (ms.take i) : Nat) ≤ 1048640 := fun k _ _ => by have := hc k; have := hcl k; omega
      have x1 := hx 1 (by decide) (by decide)
      have x2 := hx 2 (by decide) (by decide)
      have x3 := hx 3 (by decide) (by decide)
      have x4 := hx 4 (by decide) (by decide)
      have wk : ∀ n : Nat, n ≤ 1048640 → IntKind.i64.wrap ((n : Int) + 1) = (n : Int) + 1 := fun n hn => wrap_small (by omega) (by omega)
      have q0 : IntKind.i64.wrap ((IntKind.i64.wrap 0).tdiv 2) = 0 := by decide
      have q1 : IntKind.i64.wrap ((IntKind.i64.wrap 2).tdiv 2) = 1 := by decide
      have q2 : IntKind.i64.wrap ((IntKind.i64.wrap 4).tdiv 2) = 2 := by decide
      have q3 : IntKind.i64.wrap ((IntKind.i64.wrap 6).tdiv 2) = 3 := by decide
      rcases hmk.kinds with hk | hk | hk | hk
      · simp [hsl, hi, i1, i2, g0, g2, ht, hk, wi, h3, cn4, q0, q1, q2, q3, wk _ x1, hw3, -Int.natCast_add]
        refine ⟨f3.sto (.inl rfl) _ _, ?_⟩
        have e1 := cnt_one 1 (ms.take i) m
        have e2 := cnt_one 2 (ms.take i) m
        have e3 := cnt_one 3 (ms.take i) m
        have e4 := cnt_one 4 (ms.take i) m
        simp [ht, hk] at e1 e2 e3 e4
        rw [etake, e1, e2, e3, e4]
        omega
      · simp [hsl, hi, i1, i2, g0, g2, ht, hk, wi, h3, cn4, q0, q1, q2, q3, wk _ x2, hw3, -Int.natCast_add]
        refine ⟨f3.sto (.inl rfl) _ _, ?_⟩
        have e1 := cnt_one 1 (ms.take i) m
        have e2 := cnt_one 2 (ms.take i) m
        have e3 := cnt_one 3 (ms.take i) m
        have e4 := cnt_one 4 (ms.take i) m
        simp [ht, hk] at e1 e2 e3 e4
        rw [etake, e1, e2, e3, e4]
        omega
      · simp [hsl, hi, i1, i2, g0, g2, ht, hk, wi, h3, cn4, q0, q1, q2, q3, wk _ x3, hw3, -Int.natCast_add]
        refine ⟨f3.sto (.inl rfl) _ _, ?_⟩
        have e1 := cnt_one 1 (ms.take i) m
        have e2 := cnt_one 2 (ms.take i) m
        have e3 := cnt_one 3 (ms.take i) m
        have e4 := cnt_one 4 (ms.take i) m
        simp [ht, hk] at e1 e2 e3 e4
        rw [etake, e1, e2, e3, e4]
        omega
      · simp [hsl, hi, i1, i2, g0, g2, ht, hk, wi, h3, cn4, q0, q1, q2, q3, wk _ x4, hw3, -Int.natCast_add]
        refine ⟨f3.sto (.inl rfl) _ _, ?_⟩
        have e1 := cnt_one 1 (ms.take i) m
        have e2 := cnt_one 2 (ms.take i) m
        have e3 := cnt_one 3 (ms.take i) m
        have e4 := cnt_one 4 (ms.take i) m
        simp [ht, hk] at e1 e2 e3 e4
        rw [etake, e1, e2, e3, e4]
        omega
    · simp [hsl, hi, i1, i2, g0, g2, ht, wi]
      exact ⟨f3, by rw [keep ht]; exact h3, hw3⟩
  · rintro lv w3 ⟨rfl, f3, h3, hw3⟩
    rw [List.take_of_length_le (Nat.le_refl _)] at h3
    have hd' : bk w2 d = some [.int .i64 0, .int .i64 0, .int .i64 0, .int .i64 0] := by simpa using hd
    have hbd : d ≠ b := by omega
    have hd3 := f3.bk_some hd' fun h => hbd h
    have hdw3 : wr w3 d = true := by rw [f3.wr (bk_lt hd') fun h => hbd h]; exact hdw
    have f03 : Fr (fun _ => False) w w3 := f12.trans f3 fun z hz h => by omega
    have l1 := f1.size
    have hcell : ∀ (n1 n2 n3 n4 : Int) (i : Nat) (h : i < 4), isCell ([Value.int .i64 n1, .int .i64 n2, .int .i64 n3, .int .i64 n4][i]'h) = true := fun n1 n2 n3 n4 i h => by
      rcases (by omega : i = 0 ∨ i = 1 ∨ i = 2 ∨ i = 3) with rfl | rfl | rfl | rfl <;> rfl
    simp [hsl, h3, cn4, hd3, hdw3]
    exact ⟨hcell _ _ _ _, f03.sto (.inr (by omega)) _ _⟩

theorem sendS_sent {x : CS} (hx : COk x) {z : Ms} (h : z ∈ x.sendS) : Sent z := by
  unfold CS.sendS at h
  split at h
  · cases h
  · rename_i p hp
    obtain ⟨n, _, rfl⟩ := List.mem_map.1 h
    exact ⟨x, p.kind, n, (hx.now p hp).kind.1, (hx.now p hp).kind.2, rfl⟩
theorem sendS_sent' {x : CS} {p : Ph} (hp : x.now = some p) (hk : 1 ≤ p.kind ∧ p.kind ≤ 4) {z : Ms} (h : z ∈ x.sendS) : Sent z := by
  unfold CS.sendS at h
  rw [hp] at h
  obtain ⟨n, _, rfl⟩ := List.mem_map.1 h
  exact ⟨x, p.kind, n, hk.1, hk.2, rfl⟩
theorem lateS_sent {x : CS} {p : Ph} {z : Ms} (h : z ∈ (x.lateS p).2) : Sent z := by
  unfold CS.lateS at h
  split at h
  · exact enterS_sent x (by omega) h
  · cases h
theorem lateS_len {x : CS} (hn : x.n ≤ 64) (p : Ph) : (x.lateS p).2.length ≤ 64 := by
  unfold CS.lateS
  split
  · exact enterS_len hn 3
  · simp [CS.endS]
theorem tickS_out {x : CS} (hx : COk x) {z : Ms} (h : z ∈ x.tickS.2) : Sent z := by
  unfold CS.tickS at h
  split at h
  · cases h
  rename_i p hp
  have hk := (hx.now p hp).kind
  simp only at h
  split at h
  · split at h
    · exact lateS_sent h
    · split at h
      · exact sendS_sent' (x := { x with now := some { p with ticks := p.ticks + 1 } }) rfl hk h
      · cases h
  · split at h
    · cases h
    · split at h
      · exact lateS_sent h
      · exact sendS_sent' (x := { x with now := some { p with ticks := p.ticks + 1, sends := p.sends + 1 } }) rfl hk h
theorem sendS_len' {x : CS} {p : Ph} (hp : x.now = some p) (hs : p.said.length ≤ 64) : x.sendS.length ≤ 64 := by
  unfold CS.sendS
  rw [hp]
  simp only [List.length_map]
  exact Nat.le_trans (missK_len _ _) hs
theorem tickS_len {x : CS} (hx : COk x) : x.tickS.2.length ≤ 64 := by
  have hn := hx.n.2
  unfold CS.tickS
  split
  · simp
  rename_i p hp
  have hs := (hx.now p hp).said
  simp only
  split
  · split
    · exact lateS_len (x := { x with now := _ }) hn _
    · split
      · exact sendS_len' (x := { x with now := _ }) rfl (by simp only; omega)
      · simp
  · split
    · simp
    · split
      · exact lateS_len (x := { x with now := _ }) hn _
      · exact sendS_len' (x := { x with now := _ }) rfl (by simp only; omega)

/-- A controller just made. -/
theorem own_new {w w' : World} {b : Nat} {C : Clu} {v : CV} {tag : Nat → Nat} (hc : checkF C = 0) (f : Fr (fun _ => False) w w') (h : Ctl w' b (CS.new C) v tag) (ht : ∀ c, tag c ≠ 0 → w.heap.size ≤ c) :
    OwnC w w' b (CS.new C) (fun c => c < w.heap.size) :=
  ⟨f, ⟨v, tag, h, ht, fun c hc => ⟨Classical.byContradiction fun hh => by have := ht c hh; omega, Nat.lt_of_lt_of_le hc f.size⟩⟩, COk.new hc⟩
/-- The loop's state. -/
structure EndsI (w0 w : World) (b e : Nat) (C : Clu) (k v : Int) (x : CS) (c : Nat → Nat) : Prop where
  own : OwnC w0 w b x (fun z => z < w0.heap.size ∨ z = e)
  same : Same (CS.new C) x
  cnt : CntOk x c
  job : JobIs x 1 k v
  blk : bk w e = some (cn4 c)
  ew : wr w e = true
  le : w0.heap.size ≤ e
theorem CntOk.small {x : CS} {c : Nat → Nat} (hx : COk x) (h : CntOk x c) : ∀ k, 1 ≤ k → k ≤ 4 → c k ≤ 65537 := by
  intro k k1 k2
  have h1 := h.c1
  have h2 := h.c2
  have h3 := h.c3
  have h4 := h.c4
  have hl := hx.limit.2
  have hp := hx.patience.2
  have := Nat.div_le_self x.patience x.resend
  rcases (by omega : k = 1 ∨ k = 2 ∨ k = 3 ∨ k = 4) with rfl | rfl | rfl | rfl <;> omega
/-- Counts beyond the four are none. -/
def cut4 (c : Nat → Nat) : Nat → Nat := fun k => if 1 ≤ k ∧ k ≤ 4 then c k else 0
theorem cn4_cut (c : Nat → Nat) : cn4 (cut4 c) = cn4 c := rfl
/-- Messages counted, and the count stored. -/
theorem count_st {w0 w : World} {b e : Nat} {x : CS} {K : Nat → Prop} {c : Nat → Nat} {l : Value} {ms : List Ms} (h : OwnC w0 w b x K) (hK : K e) (hle : w0.heap.size ≤ e) (he : bk w e = some (cn4 c)) (hw : wr w e = true) (hc : ∀ k, 1 ≤ k → k ≤ 4 → c k ≤ 65537)
    (hs : Sl 11 w l (elM ms)) (hl : ms.length ≤ 64) (hm : ∀ m ∈ ms, Sent m) {Q : Value → World → Prop}
    (q : ∀ w', OwnC w0 w' b x K → Fr (fun z => z = e) w w' → bk w' e = some (cn4 fun k => c k + cnt k ms) → wr w' e = true → Q undef w') :
    Run (F.granarylaw15_counted (.agg (cn4 c).toArray) l) w fun a w1 => Run (stM 4 (.pointer (some ⟨e, 0, none⟩)) a) w1 Q := by
  have hc' := counted_run hs hl hm (cut4 c) (fun k => by unfold cut4; split; · rename_i hk; have := hc k hk.1 hk.2; omega
                                                         · omega)
  rw [cn4_cut] at hc'
  refine hc'.mono ?_
  rintro _ w1 ⟨f1, rfl⟩
  have e1 : (cn4 fun k => cut4 c k + cnt k ms) = cn4 fun k => c k + cnt k ms := rfl
  rw [e1]
  have he1 := f1.bk_some he id
  have hw1 : wr w1 e = true := by rw [f1.wr (bk_lt he) id]; exact hw
  rw [Run_stA ⟨(okAt_some he1).2 ⟨by simp [cn4], hw1⟩, by simp [cn4], by simp [cn4]⟩]
  have f2 : Fr (fun z => z = e) w1 (sto w1 e 0 (cn4 fun k => c k + cnt k ms)) := (Fr.refl (fun z => z = e) w1).sto (.inl rfl) _ _
  refine q _ (((h.fr0 f1).frK f2 fun z hz => by subst hz; exact ⟨hle, .inl hK⟩).mono fun c hc => .inl (.inl hc)) ((f1.mono fun _ h => h.elim).trans f2 fun _ _ h => h) ?_ (by simpa using hw1)
  show bk (sto w1 e 0 _) e = _
  rw [bk_sto_eq, he1]
  simp [cn4]

set_option maxHeartbeats 2000000 in
theorem ends_run (nodes r l p kind version : Int) {sv : Value} {ms : List Ms} (hs : Sl 11 w sv (elM ms)) (hfine : ∀ m ∈ ms, m.fine) :
    Run (F.granarylaw15_ControlEnds (.int .i64 nodes) (.agg #[.int .i64 r, .int .i64 l, .int .i64 p]) (.int .i64 kind) (.int .i64 version) sv) w fun v w' => v = .bool true ∧ Fr (fun _ => False) w w' := by
  unfold F.granarylaw15_ControlEnds
  simp
  refine Run_new fun b0 w1 hb0 _ f1 hle1 => ?_
  have hb0' : bk w1 b0 = some [.int .i64 r, .int .i64 l, .int .i64 p] := by simpa using hb0
  simp [hb0']
  refine (made_run nodes r l p).mono ?_
  rintro _ w2 ⟨f2, nv, pvs, rfl, hN, hnw, hpw⟩
  have hn1 : 0 ≤ nodes % 16 := Int.emod_nonneg nodes (by decide)
  have hn2 : nodes % 16 < 16 := Int.emod_lt_of_pos nodes (by decide)
  have b1 := Int.emod_nonneg r (b := 16) (by decide)
  have b2 := Int.emod_lt_of_pos r (b := 16) (by decide)
  have b3 := Int.emod_nonneg l (b := 8) (by decide)
  have b4 := Int.emod_lt_of_pos l (b := 8) (by decide)
  have b5 := Int.emod_nonneg p (b := 256) (by decide)
  have b6 := Int.emod_lt_of_pos p (b := 256) (by decide)
  have hcl := hN.sl.isCell
  refine Run_newSt rfl rfl (Clu.all_cell _ hcl) fun d w3 hd hdw f3 hle3 => ?_
  have hd' : bk w3 d = some ((madeC (1 + nodes % 16).toNat (1 + r % 1024) (1 + l % 64) (1 + p % 65536)).cells nv) := hd
  obtain ⟨R, hR⟩ : ∃ R : Nat, 1 + r % 16 = R := ⟨(1 + r % 16).toNat, by omega⟩
  obtain ⟨L, hL⟩ : ∃ L : Nat, 1 + l % 8 = L := ⟨(1 + l % 8).toNat, by omega⟩
  obtain ⟨T, hT⟩ : ∃ T : Nat, 1 + p % 256 = T := ⟨(1 + p % 256).toNat, by omega⟩
  have v1 : IntKind.i64.wrap (1 + r % 16) = R := by rw [hR]; exact wrap_small (by omega) (by omega)
  have v2 : IntKind.i64.wrap (1 + l % 8) = L := by rw [hL]; exact wrap_small (by omega) (by omega)
  have v3 : IntKind.i64.wrap (1 + p % 256) = T := by rw [hT]; exact wrap_small (by omega) (by omega)
  have hb3 : bk w3 b0 = some _ := (f2.trans f3 fun _ _ => id).bk_some hb0' id
  have lb := bk_lt hb0'
  have l2 := f2.size
  have hbd : b0 ≠ d := by omega
  have hlen : ((madeC (1 + nodes % 16).toNat (1 + r % 1024) (1 + l % 64) (1 + p % 65536)).cells nv).length = 23 := rfl
  simp [-ldA_ptr, hd', hdw, hb3, hlen, bk_sto, hbd, Ne.symm hbd, mod15_run, v1, v2, v3]
  have f4 : Fr (fun z => z = d) w3 (sto (sto (sto w3 d 15 [Value.int IntKind.i64 R]) d 16 [Value.int IntKind.i64 L]) d 17 [Value.int IntKind.i64 T]) :=
    (((Fr.refl (fun z => z = d) w3).sto (.inl rfl) _ _).sto (.inl rfl) _ _).sto (.inl rfl) _ _
  have hd4 : bk (sto (sto (sto w3 d 15 [Value.int IntKind.i64 R]) d 16 [Value.int IntKind.i64 L]) d 17 [Value.int IntKind.i64 T]) d = some ((madeC (1 + nodes % 16).toNat R L T).cells nv) := by
    simp [hd']; rfl
  revert f4 hd4
  generalize sto (sto (sto w3 d 15 [Value.int IntKind.i64 R]) d 16 [Value.int IntKind.i64 L]) d 17 [Value.int IntKind.i64 T] = w4
  intro f4 hd4
  have hck : checkF (madeC (1 + nodes % 16).toNat R L T) = 0 := made_ok (by omega) (by omega) (by omega) (by omega)
  have hF := made_fits (1 + nodes % 16).toNat (by omega) R L T
  have hN4 : Nodes w4 nv (madeC (1 + nodes % 16).toNat R L T).nodes pvs := (hN.fr0 f3).fr f4 (fun z hz he => by have := hnw z hz; omega) (fun q hq z hz he => by have := hpw q hq z hz; omega)
  have f04 : Fr (fun _ => False) w w4 := ((f1.trans f2 fun _ _ => id).trans f3 fun _ _ => id).new f4 fun z hz => by have := f1.size; omega
  refine ⟨_, Clu.ldA hd4, (new_run hN4 hF).mono ?_⟩
  rintro rv w5 ⟨f5, _, g5⟩
  obtain ⟨b, cv, tag, rfl, hC, htag⟩ := g5 hck
  have ho := own_new hck f5 hC htag
  have hd5 : bk w5 d = some _ := f5.bk_some hd4 id
  have k1 := Int.emod_nonneg kind (b := 3) (by decide)
  have k2 := Int.emod_lt_of_pos kind (b := 3) (by decide)
  have j1 := Int.emod_nonneg version (b := 999999) (by decide)
  have j2 := Int.emod_lt_of_pos version (b := 999999) (by decide)
  have x2 : IntKind.i64.wrap (1 + kind % 3) = 1 + kind % 3 := wrap_small (by omega) (by omega)
  have x3 : IntKind.i64.wrap (1 + version % 999999) = 1 + version % 999999 := wrap_small (by omega) (by omega)
  have hRL : R * L ≤ 16 * 8 := Nat.mul_le_mul (by omega) (by omega)
  have e1 : IntKind.i64.wrap (2 * (R : Int)) = ((2 * R : Nat) : Int) := by rw [wrap_small (by omega) (by omega)]; omega
  have e2 : IntKind.i64.wrap (((2 * R : Nat) : Int) * (L : Int)) = ((2 * (R * L) : Nat) : Int) := by
    have : ((2 * R : Nat) : Int) * (L : Int) = ((2 * (R * L) : Nat) : Int) := by rw [← Int.natCast_mul, Nat.mul_assoc]
    rw [this]; exact wrap_small (by omega) (by omega)
  have e3 : IntKind.i64.wrap ((T : Int) + ((2 * (R * L) : Nat) : Int)) = ((T + 2 * (R * L) : Nat) : Int) := by rw [wrap_small (by omega) (by omega)]; omega
  have e4 : IntKind.i64.wrap ((R : Int) * (L : Int)) = ((R * L : Nat) : Int) := by rw [← Int.natCast_mul]; exact wrap_small (by omega) (by omega)
  have c15 : ((madeC (1 + nodes % 16).toNat R L T).cells nv)[15]? = some (.int .i64 R) := rfl
  have c16 : ((madeC (1 + nodes % 16).toNat R L T).cells nv)[16]? = some (.int .i64 L) := rfl
  have c17 : ((madeC (1 + nodes % 16).toNat R L T).cells nv)[17]? = some (.int .i64 T) := rfl
  have xr : (CS.new (madeC (1 + nodes % 16).toNat R L T)).resend = R := by show (R : Int).toNat = R; simp
  have xl : (CS.new (madeC (1 + nodes % 16).toNat R L T)).limit = L := by show (L : Int).toNat = L; simp
  have xp : (CS.new (madeC (1 + nodes % 16).toNat R L T)).patience = T := by show (T : Int).toNat = T; simp
  have xj : (CS.new (madeC (1 + nodes % 16).toNat R L T)).job = 0 := rfl
  have xn : (CS.new (madeC (1 + nodes % 16).toNat R L T)).now = none := rfl
  generalize madeC (1 + nodes % 16).toNat R L T = C at *
  simp [-ldA_ptr, F.granarylaw15_num, mod15_run, x2, x3, hd5, c15, c16, c17, e1, e2, e3, e4, -Int.natCast_add, -Int.natCast_mul]
  have hkd : 1 ≤ 1 + kind % 3 ∧ 1 + kind % 3 ≤ 3 := by omega
  have hVb : 1 ≤ 1 + version % 999999 ∧ 1 + version % 999999 ≤ 999999 := by omega
  generalize 1 + kind % 3 = kd at *
  generalize 1 + version % 999999 = V at *
  refine Run.mono (Q := fun o w6 => w6 = w5 ∧ o = Out.norm [.int .i64 ((if kd = 2 then 2 * (R * L) else T + 2 * (R * L) : Nat) : Int)]) ?_ ?_
  · refine Run_cond (fun hh => ?_) (fun hh => ?_)
    · have : kd = 2 := by simpa using hh
      simp [this, e1, e2, hd5, c15, c16, -Int.natCast_add, -Int.natCast_mul]
    · have : ¬ kd = 2 := by simpa using hh
      simp [this]
  rintro o w6 ⟨rfl, rfl⟩
  simp
  refine Run.mono (Q := fun o w7 => w7 = w6 ∧ o = Out.norm [.int .i64 (if kd = 3 then 0 else V), .int .i64 ((if kd = 3 then R * L else if kd = 2 then 2 * (R * L) else T + 2 * (R * L) : Nat) : Int)]) ?_ ?_
  · refine Run_cond (fun hh => ?_) (fun hh => ?_)
    · have : kd = 3 := by simpa using hh
      simp [this, e4, hd5, c15, c16, -Int.natCast_add, -Int.natCast_mul]
    · have : ¬ kd = 3 := by simpa using hh
      simp [this]
  rintro o w7 ⟨rfl, rfl⟩
  obtain ⟨Bd, hBd⟩ : ∃ Bd : Nat, (if kd = 3 then R * L else if kd = 2 then 2 * (R * L) else T + 2 * (R * L)) = Bd := ⟨_, rfl⟩
  rw [hBd]
  obtain ⟨V0, hV0⟩ : ∃ V0 : Int, (if kd = 3 then 0 else V) = V0 := ⟨_, rfl⟩
  rw [hV0]
  have hBdle : Bd ≤ 65536 := by rw [← hBd]; split <;> (try split) <;> omega
  simp
  refine (ho.begin_ kd V0).mono ?_
  have hbeg := beginS_ok xn hkd (v := V0) ⟨fun hh => by rw [← hV0, if_pos hh], fun hh => by rw [← hV0, if_neg hh]; exact hVb⟩ (by rw [xj]; decide)
  rw [hbeg]
  generalize hkk : (if kd = 3 then 4 else kd.toNat) = kk at *
  have hkkb : 1 ≤ kk ∧ kk ≤ 4 := by rw [← hkk]; split <;> omega
  rintro _ w8 ⟨lv, rfl, h8, s8, n8, f8⟩
  simp only at h8 s8
  have hy : ({ CS.new C with job := (CS.new C).job + 1, kind := kd, ver := V0 } : CS).resend = R ∧ ({ CS.new C with job := (CS.new C).job + 1, kind := kd, ver := V0 } : CS).limit = L ∧ ({ CS.new C with job := (CS.new C).job + 1, kind := kd, ver := V0 } : CS).patience = T := ⟨xr, xl, xp⟩
  have hsame : Same (CS.new C) { CS.new C with job := (CS.new C).job + 1, kind := kd, ver := V0 } := ⟨rfl, rfl, rfl, rfl⟩
  have hjob : JobIs (({ CS.new C with job := (CS.new C).job + 1, kind := kd, ver := V0 } : CS).enterS kk).1 1 kd V0 := .enterS (by show (CS.new C).job + 1 = 1; rw [xj]; rfl) rfl rfl _
  have hyn : ({ CS.new C with job := (CS.new C).job + 1, kind := kd, ver := V0 } : CS).n ≤ 64 := (h8.ok).n.2
  generalize ({ CS.new C with job := (CS.new C).job + 1, kind := kd, ver := V0 } : CS) = y at *
  have htogo : (y.enterS kk).1.togo = Bd := by
    rw [togo_enter, hy.1, hy.2.1, hy.2.2, ← hBd, ← hkk]
    rcases (by omega : kd = 1 ∨ kd = 2 ∨ kd = 3) with rfl | rfl | rfl <;> simp
  simp [buildV]
  have hc1 := counted_run s8.1 (enterS_len hyn kk) (fun m hm => enterS_sent y hkkb hm) (fun _ => 0) (fun _ => by decide)
  refine hc1.mono ?_
  rintro _ w9 ⟨f9, rfl⟩
  simp only [Nat.zero_add]
  refine Run_newSt rfl rfl rfl fun e w10 he hew f10 hle10 => ?_
  have he' : bk w10 e = some (cn4 fun k => cnt k (y.enterS kk).2) := he
  have f810 : Fr (fun _ => False) w8 w10 := f9.trans f10 fun _ _ => id
  have hle8 := f8.size
  have hle9 := f9.size
  have hle7 := f5.size
  have I0 : EndsI w4 w10 b e C kd V0 (y.enterS kk).1 (fun k => cnt k (y.enterS kk).2) :=
    ⟨(h8.fr0 f810).mono fun z hz => by
        rcases hz with hz | hz
        · exact .inl (.inl hz)
        · subst hz; exact .inr ⟨by omega, bk_lt he'⟩, hsame.trans (Same.enterS y kk), CntOk.first (by rw [hy.2.1]; omega), hjob, he', hew, by omega⟩
  have hd10 : bk w10 d = some _ := f810.bk_some (f8.bk_some hd5 fun hq => hq.2 (bk_lt hd4)) id
  have hs4 : Sl 11 w4 sv (elM ms) := hs.fr0 f04
  have hsl := hs.lenL
  simp at hsl
  refine Run_for Bd (fun i lv w11 => lv = [.int .i64 0, .int .i64 i] ∧ ∃ x c, EndsI w4 w11 b e C kd V0 x c ∧ x.togo + i ≤ Bd) ⟨rfl, _, _, I0, by omega⟩ ?_ ?_
  · rintro i lv w11 hi ⟨rfl, x, c, I, ht⟩
    have hBi : (i : Int) < Bd := by omega
    simp [hBi]
    simp [I.own.busy]
    cases hx : x.now with
    | none =>
      simp
      exact f04.trans I.own.fr fun _ _ => id
    | some ph =>
      simp
      refine (I.own.tick).mono ?_
      rintro _ w12 ⟨l1, rfl, h12, s12, n12, f12⟩
      simp only at h12 s12
      have he12 : bk w12 e = some (cn4 c) := f12.bk_some I.blk fun hq => hq.2 (.inr rfl)
      have hew12 : wr w12 e = true := by rw [f12.wr (bk_lt I.blk) fun hq => hq.2 (.inr rfl)]; exact I.ew
      have etk : List.take 4 (cn4 c) = cn4 c := rfl
      simp [-ldA_ptr, -Run_stM_iff, ldA_bk he12 (show 0 + 4 ≤ (cn4 c).length from Nat.le_refl 4), etk]
      refine count_st h12 (.inl (.inr rfl)) I.le he12 hew12 (I.cnt.small I.own.ok) s12.1 (tickS_len I.own.ok) (fun m hm => tickS_out I.own.ok hm) fun w13 h13 f13 he13 hew13 => ?_
      have cnt1 := I.cnt.tickS I.own.ok
      have same1 := I.same.trans (Same.tickS x)
      have job1 := I.job.tickS
      have tg1 := togo_tick I.own.ok hx
      have I1 : EndsI w4 w13 b e C kd V0 x.tickS.1 (fun k => c k + cnt k x.tickS.2) := ⟨h13.mono fun z hz => .inl hz, same1, cnt1, job1, he13, hew13, I.le⟩
      generalize x.tickS.1 = x1 at *
      generalize (fun k => c k + cnt k x.tickS.2) = c1 at *
      clear he12 hew12 h12 s12 n12 f12 h13 f13 he13 hew13 cnt1 same1 job1
      -- the script's message
      refine Run.mono (Q := fun o w14 => o = Out.norm [] ∧ ∃ x2 c2, EndsI w4 w14 b e C kd V0 x2 c2 ∧ x2.togo ≤ x1.togo) ?_ ?_
      · simp [hsl]
        refine Run_cond (fun hh => ?_) (fun hh => ?_)
        · have hi2 : i < ms.length := by simpa using hh
          have em : ms[i]? = some ms[i] := List.getElem?_eq_getElem hi2
          have hmf := hfine _ (List.getElem_mem hi2)
          generalize ms[i] = m at em hmf
          have hs13 : Sl 11 w13 sv (elM ms) := by
            refine hs4.congr fun z ll hz hl => ?_
            rw [bk_of_heap (I1.own.fr.block z (bk_lt hl) id)]; exact hl
          obtain ⟨q, z1, z2⟩ := hs13.rdA (by decide) (e := m.cells) (by rw [elM_get, em]; rfl) .i64
          simp [-ldA_ptr, -Run_stM_iff, z1, z2]
          refine (I1.own.take hmf).mono ?_
          rintro _ w14 ⟨l2, rfl, h14, s14, n14, f14⟩
          simp only at h14 s14
          have he14 : bk w14 e = some (cn4 c1) := f14.bk_some I1.blk fun hq => hq.2 (.inr rfl)
          have hew14 : wr w14 e = true := by rw [f14.wr (bk_lt I1.blk) fun hq => hq.2 (.inr rfl)]; exact I1.ew
          have etk1 : List.take 4 (cn4 c1) = cn4 c1 := rfl
          simp [-ldA_ptr, -Run_stM_iff, ldA_bk he14 (show 0 + 4 ≤ (cn4 c1).length from Nat.le_refl 4), etk1]
          refine count_st h14 (.inl (.inr rfl)) I1.le he14 hew14 (I1.cnt.small I1.own.ok) s14.1 (takeS_len I1.own.ok m) (fun m hm => takeS_out hm) fun w15 h15 f15 he15 hew15 => ?_
          exact ⟨_, ⟨_, ⟨h15.mono fun z hz => .inl hz, I1.same.trans (Same.takeS x1 m), I1.cnt.takeS I1.own.ok m, I1.job.takeS m, he15, hew15, I1.le⟩⟩, togo_take I1.own.ok m⟩
        · simp
          exact ⟨_, ⟨_, I1⟩, Nat.le_refl _⟩
      rintro o w14 ⟨rfl, x2, c2, I2, ht2⟩
      have hd14 : bk w14 d = some (C.cells nv) := by rw [bk_of_heap (I2.own.fr.block d (bk_lt hd4) id)]; exact hd4
      have wi := wrap_succ (n := i) (by omega)
      have p1 := I2.cnt.c1
      have p2 := I2.cnt.c2
      have p3 := I2.cnt.c3
      have p4 := I2.cnt.c4
      rw [I2.same.patience, I2.same.resend, xp, xr] at p1
      rw [I2.same.limit, xl] at p2 p3 p4
      have hb2 := I2.blk
      have hR0 : ¬ R = 0 := by omega
      have hq : (T : Int).tdiv (R : Int) = ((T / R : Nat) : Int) := by rw [Int.tdiv_eq_ediv_of_nonneg (by omega)]; rfl
      have hTR : T / R ≤ 256 := Nat.le_trans (Nat.div_le_self _ _) (by omega)
      have w1q : IntKind.i64.wrap (((T / R : Nat) : Int)) = ((T / R : Nat) : Int) := wrap_small (by omega) (by omega)
      have w2q : IntKind.i64.wrap (1 + ((T / R : Nat) : Int)) = ((1 + T / R : Nat) : Int) := by rw [wrap_small (by omega) (by omega)]; omega
      have n1 : ¬ 1 + T / R < c2 1 := by omega
      have n2 : ¬ L < c2 2 := by omega
      have n3 : ¬ L < c2 3 := by omega
      have n4 : ¬ L < c2 4 := by omega
      simp [hb2, hd14, c15, c16, c17, cn4, hR0, hq, w1q, w2q, n1, n2, n3, n4, wi, -Int.natCast_ediv, -Int.natCast_add]
      exact ⟨by omega, x2, ⟨c2, ⟨I2.own.fr0 (Fr.refl _ _).drew |>.mono fun z hz => .inl hz, I2.same, I2.cnt, I2.job, hb2, I2.ew, I2.le⟩⟩, by omega⟩
  · rintro lv w11 ⟨rfl, x, c, I, ht⟩
    have hx := CS.togo_none I.own.ok (by omega)
    have hov := I.job.over hx
    simp
    refine I.own.report.mono ?_
    rintro rv w12 ⟨f12, h12⟩
    rw [if_pos hov.1] at h12
    obtain ⟨hv_, mv, rfl, sh, sm, nh, nm, _⟩ := h12
    simp [Rep.val]
    refine Run_newSt rfl rfl (by simp [sh.1.isCell, sm.1.isCell]) fun g w13 hg hgw f13 hle13 => ?_
    have hg' : bk w13 g = some [.int .i64 x.last.job, .int .i64 x.last.kind, .int .i64 x.last.version, .int .i64 x.last.outcome, hv_, mv] := hg
    have h13 := I.own.fr0 (f12.trans f13 fun _ _ => id)
    simp [h13.busy, hx, hg', hov.2.1, hov.2.2.1, hov.2.2.2]
    exact f04.trans h13.fr fun _ _ => id
end
/-- A message read. -/
theorem rd_ms {w : World} {c : List Value} {k : Nat} (h : (Shs.int .i64 (.int .i64 (.int .i64 (.int .i64 (.int .i64 (.int .i64 (.int .i64 (.int .i64 (.int .i64 (.str (.str .nil))))))))))).Rd w c k) : ∃ m : Ms, c = m.cells ∧ m.fine := by
  obtain ⟨a0, _, _, rfl, _, a1, _, _, rfl, _, a2, _, _, rfl, _, a3, _, _, rfl, _, a4, _, _, rfl, _, a5, _, _, rfl, _, a6, _, _, rfl, _, a7, _, _, rfl, _, a8, _, _, rfl, _, s, _, _, rfl, _, s', _, _, rfl, _, rfl⟩ := h
  exact ⟨⟨a0, a1, a2, a3, a4, a5, a6, a7, a8, .string s, .string s'⟩, rfl, isCell_string _, isCell_string _⟩
/-- Messages read. -/
theorem rd_msgs {w : World} {v : Value} {n : Nat} (h : (Shs.slice (.int .i64 (.int .i64 (.int .i64 (.int .i64 (.int .i64 (.int .i64 (.int .i64 (.int .i64 (.int .i64 (.str (.str .nil))))))))))) .nil).Rd w [v] n) :
    ∃ ms : List Ms, Sl 11 w v (elM ms) ∧ ∀ m ∈ ms, m.fine := by
  obtain ⟨l, hs, _⟩ := h.slice1 (f := fun m : { m : Ms // m.fine } => m.1.cells) fun c k hc => by
    obtain ⟨m, rfl, hm⟩ := rd_ms hc
    exact ⟨⟨m, hm⟩, rfl⟩
  refine ⟨l.map (·.1), ?_, fun m hm => ?_⟩
  · have e : elM (l.map (·.1)) = l.map fun m => m.1.cells := by simp [elM, Function.comp_def]
    rw [e]; exact hs
  · obtain ⟨⟨x, hx⟩, _, rfl⟩ := List.mem_map.1 hm
    exact hx
theorem controlEnds_top {W : World} (nodes : Int) {cs : Array Value} {n : Nat} (h : (Shs.int .i64 (.int .i64 (.int .i64 .nil))).Rd W cs.toList n) (kind version : Int) {v : Value} {n' : Nat} (hv : (Shs.slice (.int .i64 (.int .i64 (.int .i64 (.int .i64 (.int .i64 (.int .i64 (.int .i64 (.int .i64 (.int .i64 (.str (.str .nil))))))))))) .nil).Rd W [v] n') :
    Run (F.granarylaw15_ControlEnds (.int .i64 nodes) (.agg cs) (.int .i64 kind) (.int .i64 version) v) W fun v w' => v = .bool true ∧ Fr (fun _ => False) W w' := by
  obtain ⟨a, b, c, rfl⟩ := rd3 h
  obtain ⟨ms, hs, hf⟩ := rd_msgs hv
  exact ends_run nodes a b c kind version hs hf
end Go.Proofs.Ytpiceodfdjihhaa
