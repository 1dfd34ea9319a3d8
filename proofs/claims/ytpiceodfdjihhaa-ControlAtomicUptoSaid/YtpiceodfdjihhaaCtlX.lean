/-
  Layer 15 (control), part X: ControlAtomic: what goes out, and the report, held against the nodes.
-/
import Derived.Test.YtpiceodfdjihhaaCtlW
namespace Go.Proofs.Ytpiceodfdjihhaa
open Go.Lift
set_option linter.unusedSimpArgs false

section
variable {w0 w : World} {pb b : Nat} {J : Int} {p : PS} {v : PV} {tg : Nat → Nat} {x : CS}
set_option maxHeartbeats 1000000 in
theorem right_run (hm : PlM w0 w pb b J p v tg) {m : Ms} (hr : Right p m) (hJ : p.x.job = J) (hf : p.fetched.length ≤ 64) :
    Run (F.granarylaw15_Play_right (.pointer (some ⟨pb, 0, none⟩)) m.val) w fun r w' => r = .bool true ∧ Fr (fun _ => False) w w' := by
  unfold F.granarylaw15_Play_right
  obtain ⟨h1, h2, h3, h4, h5, h6, h7, h8, h9⟩ := hr
  simp [Ms.val]
  refine Run_new fun e w1 he hew f1 hle => ?_
  have he' : bk w1 e = some m.cells := by simpa using he
  have hm1 := hm.fr0 f1
  have hb := hm1.blk
  have hnl := hm1.nodes.1.lenL
  simp at hnl
  have g : m.cells = [.int .i64 m.kind, .int .i64 64, .int .i64 m.to, .int .i64 J, .int .i64 J, .int .i64 m.seq, .int .i64 m.version, .int .i64 0, .int .i64 0, noB, noB] := by
    unfold Ms.cells; rw [h1, h3, h4, h5, h6, h7, h8, hJ]
  rw [g] at he'
  have ht1 : ¬ m.to < 0 := by omega
  have ht2 : ¬ (p.nodes.length : Int) ≤ m.to := by omega
  have dr : Fr (fun _ => False) w w1.drew := f1.drew
  simp [he', hb, PS.cells, hnl, ht1, ht2, noB, F.granarylaw15_num]
  rcases h9 with ⟨k, h10, h11, h12, h13⟩ | ⟨k, h11, h12, h13, h10⟩ | ⟨k, h12, h13⟩
  · simp [he', hb, PS.cells, k, h10, h11, h12, h13]
    exact dr.drew
  · rcases h10 with h10 | ⟨h10, h14⟩
    · simp [he', hb, PS.cells, k, h10, h11, h12, h13]
      exact dr.drew
    · have hall : p.fetched.all id = true := by rw [List.all_eq_true]; exact h14
      simp [he', hb, PS.cells, k, h10, h11, h12, h13]
      refine every_run (w := w1.drew.drew) (l := p.fetched) (hm1.fetched.1.congr fun _ _ _ h => h) (by omega) ?_
      rw [hall]
      simp
      exact dr.drew
  · simp [he', hb, PS.cells, k, h12, h13]
    exact dr

theorem elI_put (l : List Int) (i : Nat) (c : Int) : (elI l).set i [.int .i64 c] = elI (l.set i c) := by simp [elI]
/-- An element of what is to be kept is stored. -/
theorem PlM.stAt (hm : PlM w0 w pb b J p v tg) {i : Nat} (hi : i < p.at_.length) (a : Int) :
    ∃ q o, idxA 1 v.av (.int .i64 i) = some (.pointer (some ⟨q, o, none⟩)) ∧ (∃ l, bk w q = some l ∧ o + 1 ≤ l.length) ∧ Go.Lift.wr w q = true ∧ PlM w0 (sto w q o [.int .i64 a]) pb b J { p with at_ := p.at_.set i a } v tg ∧ Fr (fun c => tg c ≠ 0) w (sto w q o [.int .i64 a]) := by
  have em : (elI p.at_)[i]? = some [.int .i64 p.at_[i]] := by rw [elI_get, List.getElem?_eq_getElem hi]; rfl
  obtain ⟨q, o, h1, h2, h3, h4, h5⟩ := hm.at_.put em .i64
  obtain ⟨_, g2⟩ := h5 0 [.int .i64 a] (by simp)
  have htq : tg q = 6 := hm.ta q h2
  have e0 : (elI p.at_).set i (setL [.int .i64 p.at_[i]] 0 [.int .i64 a]) = elI (p.at_.set i a) := elI_put _ _ _
  rw [e0, Nat.add_zero] at g2
  have f : Fr (fun c => c = q) w (sto w q o [.int .i64 a]) := (Fr.refl (fun c => c = q) w).sto (.inl rfl) _ _
  exact ⟨q, o, h1, h4.1, h4.2, hm.putAt htq f g2, f.mono fun c hc => by subst hc; omega⟩
set_option maxHeartbeats 1000000 in
theorem restored_run (hm : PlM w0 w pb b J p v tg) {i : Nat} {nd : Nd} (hi : p.nodes[i]? = some nd) (ha : i < p.at_.length) (hs : nd.swapped ≠ J ∨ nd.cur = nd.was) (he : nd.epoch = J) (hq : nd.seq = 2) :
    Run (F.granarylaw15_Play_restored (.pointer (some ⟨pb, 0, none⟩)) (.int .i64 i) (.int .i64 nd.cur)) w fun r w' => r = .bool true ∧ PlM w0 w' pb b J { p with at_ := p.at_.set i nd.cur } v tg ∧ Fr (fun c => tg c ≠ 0) w w' := by
  unfold F.granarylaw15_Play_restored
  have hb := hm.blk
  obtain ⟨z, z1, z2⟩ := hm.nodes.1.rdA (by decide) (e := nd.cells) (by rw [elNd_get, hi]; rfl) .i64
  simp [-ldA_ptr, hb, PS.cells, z1, z2]
  refine Run_newSt rfl rfl rfl fun e w1 he1 hew f1 hle => ?_
  have he' : bk w1 e = some nd.cells := he1
  have hm1 := hm.fr0 (f1.drew)
  have hb1 := hm1.blk
  obtain ⟨q, o, q1, q2, q3, q4, q5⟩ := hm1.stAt ha nd.cur
  have hqe : e ≠ q := by
    rintro rfl
    have := hm.tag0 hle
    have h0 : tg e ≠ 0 := by
      have hb2 := q4.bound
      obtain ⟨l, hl, _⟩ := q2
      intro ht
      have hin : inB v.av e := by
        obtain ⟨q', o', e1, e2, _⟩ := hm1.at_.put (i := i) (e := [.int .i64 p.at_[i]]) (by rw [elI_get, List.getElem?_eq_getElem ha]; rfl) .i64
        rw [q1] at e1; cases e1; exact e2
      have := hm1.ta _ hin
      omega
    exact h0 this
  obtain ⟨ql, q2a, q2b⟩ := q2
  have hb1' : bk w1 pb = some (p.cells b J v) := hb1
  have he2 : bk (sto w1 q o [.int .i64 nd.cur]) e = some nd.cells := by rw [bk_sto_ne hqe]; exact he'
  simp [hb1', he', PS.cells, Nd.cells, q1]
  refine ⟨⟨ql, q2a, q2b⟩, q3, ?_⟩
  have hb3 : bk (sto w1.drew q o [.int .i64 nd.cur]) pb = some (p.cells b J v) := q4.blk
  have he3 : bk (sto w1.drew q o [.int .i64 nd.cur]) e = some nd.cells := he2
  generalize sto w1.drew q o [.int .i64 nd.cur] = w3 at *
  have fin : PlM w0 w3.drew pb b J { p with at_ := p.at_.set i nd.cur } v tg ∧ Fr (fun c => tg c ≠ 0) w w3.drew := ⟨q4.fr0 (Fr.refl _ _).drew, ((f1.drew.mono fun _ h => h.elim).trans q5 fun _ _ h => h).drew⟩
  by_cases hsw : nd.swapped = J
  · have hcw : nd.cur = nd.was := hs.resolve_left fun h => h hsw
    simp [hb3, he3, PS.cells, Nd.cells, hsw, hcw, he, hq]
    rw [← hcw]
    exact fin
  · simp [hb3, he3, PS.cells, Nd.cells, hsw, he, hq]
    exact fin

theorem take_drop_set {α : Type} {A B : List α} {i : Nat} {a : α} (hl : A.length = B.length) (ha : A[i]? = some a) : (A.take i ++ B.drop i).set i a = A.take (i + 1) ++ B.drop (i + 1) := by
  have hi : i < A.length := (List.getElem?_eq_some_iff.1 ha).1
  have h1 : (A.take i).length = i := by rw [List.length_take]; omega
  rw [List.set_append_right _ _ (by omega), h1, Nat.sub_self, List.drop_eq_getElem_cons (show i < B.length by omega), List.set_cons_zero, List.take_add_one, ha]
  simp
theorem missK_at {l : List Bool} {n i : Nat} (hi : i < n) (hb : l[i]? = some false) : (missK l n)[(missK l i).length]? = some (i : Int) := by
  have key : ∀ d, (missK l (i + 1 + d))[(missK l i).length]? = some (i : Int) := by
    intro d
    induction d with
    | zero =>
      rw [Nat.add_zero, missK_succ, List.getElem?_append_right (Nat.le_refl _), Nat.sub_self, hb]
      simp
    | succ d ih =>
      rw [show i + 1 + (d + 1) = (i + 1 + d) + 1 by omega, missK_succ]
      rw [List.getElem?_append_left (List.getElem?_eq_some_iff.1 ih).1]
      exact ih
  have := key (n - (i + 1))
  rwa [show i + 1 + (n - (i + 1)) = n by omega] at this
set_option maxHeartbeats 4000000 in
theorem ended_run (hm : PlM w0 w pb b J p v tg) (ho : OwnC w0 w b x (KT w0 tg)) (he : x.ended = true) (hE : EndOk p x.last) (hJ : p.x.job = J) (hal : p.at_.length = p.nodes.length) (hn : p.nodes.length ≤ 64) :
    Run (F.granarylaw15_Play_ended (.pointer (some ⟨pb, 0, none⟩))) w fun r w' => r = .bool true ∧ PlM w0 w' pb b J { p with at_ := atS p x.last } v tg ∧ OwnC w0 w' b x (KT w0 tg) ∧ Fr (fun c => tg c ≠ 0) w w' := by
  unfold F.granarylaw15_Play_ended
  have hb := hm.blk
  simp [hb, PS.cells]
  refine ho.report.mono ?_
  rintro rv w1 ⟨f1, h1⟩
  rw [if_pos he] at h1
  obtain ⟨hv, mv, rfl, sh, sm, nh, nm, _⟩ := h1
  simp [Rep.val]
  refine Run_newSt rfl rfl (by simp [sh.1.isCell, sm.1.isCell]) fun g w2 hg hgw f2 hle2 => ?_
  have hg' : bk w2 g = some [.int .i64 x.last.job, .int .i64 x.last.kind, .int .i64 x.last.version, .int .i64 x.last.outcome, hv, mv] := hg
  have f02 : Fr (fun _ => False) w w2 := f1.trans f2 fun _ _ => id
  have hm2 := hm.fr0 f02
  have ho2 := ho.KTfr f02
  have hb2 := hm2.blk
  have sh2 : Sl 1 w2 hv (elI x.last.holds) := sh.1.fr0 f2
  have sm2 : Sl 1 w2 mv (elI x.last.missing) := sm.1.fr0 f2
  have hhl := sh2.lenL
  have hml := sm2.lenL
  have hnl := hm2.nodes.1.lenL
  simp at hhl hml hnl
  generalize x.last = r at *
  obtain ⟨e1, e2, e3, e4, hw⟩ := hE
  rw [hJ] at e1
  -- what the temporaries are none of
  have tg_g : tg g = 0 := hm.tag0 (by have := f1.size; omega)
  have tg_h : ∀ c, inB hv c → tg c = 0 := fun c hc => hm.tag0 (nh c hc).1
  have tg_m : ∀ c, inB mv c → tg c = 0 := fun c hc => hm.tag0 (nm c hc).1
  simp [hb2, PS.cells, hg', e1, e2, e3, hhl, e4, hnl, F.granarylaw15_num]
  have hAl : (atS p r).length = p.at_.length := by rw [hal]; simp [atS]
  refine Run_for p.nodes.length (fun i lv w3 => lv = [.int .i64 ((if r.outcome = 3 then (missK p.backed i).length else 0 : Nat) : Int), .int .i64 i] ∧ PlM w0 w3 pb b J { p with at_ := (atS p r).take i ++ p.at_.drop i } v tg ∧ OwnC w0 w3 b x (KT w0 tg) ∧ Fr (fun c => tg c ≠ 0) w2 w3)
    ⟨by simp [missK], by simpa using hm2.fr0 (Fr.refl _ _).drew, ho2.KTfr (Fr.refl _ _).drew, (Fr.refl _ _).drew⟩ ?_ ?_
  · rintro i lv w3 hi ⟨rfl, hm3, ho3, f3⟩
    have hb3 := hm3.blk
    have hL : ((atS p r).take i ++ p.at_.drop i).length = p.at_.length := by rw [List.length_append, List.length_take, List.length_drop]; omega
    have hnl3 := hm3.nodes.1.lenL
    simp at hnl3
    have hg3 : bk w3 g = some [.int .i64 J, .int .i64 p.kind, .int .i64 p.ver, .int .i64 r.outcome, hv, mv] := by rw [← e1, ← e2, ← e3]; exact f3.bk_some hg' (by simp [tg_g])
    obtain ⟨q, o, q1, q2, q3, q4, q5⟩ := hm3.stAt (i := i) (by show i < (_ : List Int).length; rw [hL]; omega) (-1)
    have wi := wrap_succ (n := i) (by omega)
    obtain ⟨a, hA⟩ : ∃ a, (atS p r)[i]? = some a := ⟨_, List.getElem?_eq_getElem (show i < (atS p r).length by omega)⟩
    have hset : (((atS p r).take i ++ p.at_.drop i).set i (-1)).set i a = (atS p r).take (i + 1) ++ p.at_.drop (i + 1) := by
      rw [List.set_set, take_drop_set hAl hA]
    have hAv : a = (if r.outcome = 1 then p.ver else if r.outcome = 2 then (p.nodes[i]?.getD .zero).cur else if p.backed[i]? = some true then (p.nodes[i]?.getD .zero).cur else -1) := by
      unfold atS at hA
      rw [List.getElem?_map, List.getElem?_range hi] at hA
      simpa using hA.symm
    obtain ⟨ql, q2a, q2b⟩ := q2
    have f4 : Fr (fun c => tg c ≠ 0) w2 (sto w3 q o [.int .i64 (-1)]) := f3.trans q5 fun _ _ h => h
    have ho4 : OwnC w0 (sto w3 q o [.int .i64 (-1)]) b x (KT w0 tg) := ho3.KTput hm3 q5 fun _ h => h
    have hg4 : bk (sto w3 q o [.int .i64 (-1)]) g = some [.int .i64 J, .int .i64 p.kind, .int .i64 p.ver, .int .i64 r.outcome, hv, mv] := q5.bk_some hg3 (by simp [tg_g])
    simp [hb3, PS.cells, hnl3, hi, q1, q2a, q2b, q3]
    generalize sto w3 q o [.int .i64 (-1)] = w4 at *
    have hb4 := q4.blk
    have hlen4 : i < (((atS p r).take i ++ p.at_.drop i).set i (-1)).length := by rw [List.length_set, hL]; omega
    have sh4 : Sl 1 w4 hv (elI r.holds) := sh2.fr f4 fun c hc hq => hq (tg_h c hc)
    have sm4 : Sl 1 w4 mv (elI r.missing) := sm2.fr f4 fun c hc hq => hq (tg_m c hc)
    have hml4 := sm4.lenL
    simp at hml4
    simp [hg4]
    rcases hw with ⟨o1, hk, hmi, hall⟩ | ⟨o2, hk, hmi, hall⟩ | ⟨o3, hk, hmi, hfm, hbl, hall⟩
    · obtain ⟨nd, g1, g2, g3, _⟩ := hall i hi
      have m5 := q4.fr0 (Fr.refl (fun _ => False) w4).drew
      obtain ⟨q', o', r1, ⟨rl, r2a, r2b⟩, r3, r4, r5⟩ := m5.stAt (i := i) hlen4 p.ver
      have r2a' : bk w4 q' = some rl := r2a
      have r3' : Go.Lift.wr w4 q' = true := r3
      simp [o1, hb4, PS.cells, r1, r2a', r2b, r3']
      have ho5 : OwnC w0 (sto w4.drew q' o' [.int .i64 p.ver]) b x (KT w0 tg) := (ho4.KTfr (Fr.refl (fun _ => False) w4).drew).KTput m5 r5 fun _ h => h
      have f5 : Fr (fun c => tg c ≠ 0) w2 (sto w4.drew q' o' [.int .i64 p.ver]) := f4.drew.trans r5 fun _ _ h => h
      have hg5 : bk (sto w4.drew q' o' [.int .i64 p.ver]) g = some [.int .i64 J, .int .i64 p.kind, .int .i64 p.ver, .int .i64 r.outcome, hv, mv] := r5.bk_some hg4 (by simp [tg_g])
      have sh5 : Sl 1 (sto w4.drew q' o' [.int .i64 p.ver]) hv (elI r.holds) := sh2.fr f5 fun c hc hq => hq (tg_h c hc)
      generalize sto w4.drew q' o' [.int .i64 p.ver] = w5 at *
      have hb5 := r4.blk
      obtain ⟨z, z1, z2⟩ := r4.nodes.1.rdF (e := nd.cells) (by rw [elNd_get]; show (p.nodes[i]?).map _ = _; rw [g1]; rfl) .i64
      obtain ⟨z0, z3, z4⟩ := z2 0 (by decide)
      have z4' : ld1 z0 w5 = some (.int .i64 p.ver) := by rw [z4, ← g2]; rfl
      obtain ⟨y, y1, y2⟩ := sh5.rd1 (i := i) (y := .int .i64 p.ver) (by rw [elI_get, g3]; rfl) .i64
      simp [hb5, PS.cells, z1, z3, z4', hg5, y1, y2, hk, wi]
      refine ⟨?_, ho5.KTfr (Fr.refl _ _).drew, f5.drew⟩
      rw [← hset, hAv, if_pos o1]
      have m6 := r4.fr0 (Fr.refl (fun _ => False) w5).drew
      simp only [hk] at m6
      exact m6
    · obtain ⟨hbk, h, g3, nd, g1, g2, g4, g5, g6⟩ := hall i hi
      subst g2
      obtain ⟨z, z1, z2⟩ := q4.backed.1.rd1 (i := i) (y := .bool true) (by rw [elB_get]; show (p.backed[i]?).map _ = _; rw [hbk]; rfl) .i64
      obtain ⟨y, y1, y2⟩ := sh4.rd1 (i := i) (y := .int .i64 nd.cur) (by rw [elI_get, g3]; rfl) .i64
      simp [o2, hb4, PS.cells, z1, z2, hg4, y1, y2]
      refine (restored_run q4 (i := i) (nd := nd) g1 hlen4 (by rw [← hJ]; exact g4) (by rw [← hJ]; exact g5) g6).mono ?_
      rintro _ w5 ⟨rfl, m5, f5⟩
      simp [wi]
      refine ⟨?_, ho4.KTput q4 f5 fun _ h => h, f4.trans f5 fun _ _ h => h⟩
      have : a = nd.cur := by rw [hAv, if_neg (by omega), if_pos o2, g1]; rfl
      rw [← hset, this]
      exact m5
    · have hbi : i < p.backed.length := by omega
      cases hbv : p.backed[i]? with
      | none => have := List.getElem?_eq_none_iff.1 hbv; omega
      | some bv =>
        obtain ⟨z, z1, z2⟩ := q4.backed.1.rd1 (i := i) (y := .bool bv) (by rw [elB_get]; show (p.backed[i]?).map _ = _; rw [hbv]; rfl) .i64
        have hms := missK_succ p.backed i
        rw [hbv] at hms
        cases bv with
        | true =>
          obtain ⟨h, g3, nd, g1, g2, g4, g5, g6⟩ := (hall i hi).1 hbv
          subst g2
          obtain ⟨y, y1, y2⟩ := sh4.rd1 (i := i) (y := .int .i64 nd.cur) (by rw [elI_get, g3]; rfl) .i64
          simp [o3, hb4, PS.cells, z1, z2, hg4, y1, y2]
          refine (restored_run q4 (i := i) (nd := nd) g1 hlen4 (by rw [← hJ]; exact g4) (by rw [← hJ]; exact g5) g6).mono ?_
          rintro _ w5 ⟨rfl, m5, f5⟩
          simp at hms
          simp [wi, hms]
          refine ⟨?_, ho4.KTput q4 f5 fun _ h => h, f4.trans f5 fun _ _ h => h⟩
          have : a = nd.cur := by rw [hAv, if_neg (by omega), if_neg (by omega), if_pos hbv, g1]; rfl
          rw [← hset, this]
          exact m5
        | false =>
          have g3 := (hall i hi).2 hbv
          have hat := missK_at hi hbv
          have hlt := (List.getElem?_eq_some_iff.1 hat).1
          rw [← hmi] at hat
          obtain ⟨y, y1, y2⟩ := sh4.rd1 (i := i) (y := .int .i64 (-1)) (by rw [elI_get, g3]; rfl) .i64
          obtain ⟨u, u1, u2⟩ := sm4.rd1 (i := (missK p.backed i).length) (y := .int .i64 i) (by rw [elI_get, hat]; rfl) .i64
          have hle3 := missK_len p.backed i
          have wm := wrap_succ (n := (missK p.backed i).length) (by omega)
          have hnge : ¬ r.missing.length ≤ (missK p.backed i).length := by rw [hmi]; omega
          simp at hms
          have hms' : (missK p.backed (i + 1)).length = (missK p.backed i).length + 1 := by rw [hms]; simp
          simp [o3, hb4, PS.cells, z1, z2, hg4, y1, y2, hml4, hnge, u1, u2, wm, wi, hms']
          refine ⟨?_, ho4, f4⟩
          have : a = -1 := by rw [hAv, if_neg (by omega), if_neg (by omega), if_neg (by rw [hbv]; simp)]
          rw [← hset, this, List.set_set]
          exact q4
  · rintro lv w3 ⟨rfl, hm3, ho3, f3⟩
    have hb3 := hm3.blk
    have hnl3 := hm3.nodes.1.lenL
    simp at hnl3
    have hg3 : bk w3 g = some [.int .i64 J, .int .i64 p.kind, .int .i64 p.ver, .int .i64 r.outcome, hv, mv] := by rw [← e1, ← e2, ← e3]; exact f3.bk_some hg' (by simp [tg_g])
    have hfin : (atS p r).take p.nodes.length ++ p.at_.drop p.nodes.length = atS p r := by
      rw [List.take_of_length_le (by omega), List.drop_of_length_le (by omega), List.append_nil]
    rw [hfin] at hm3
    have ff : Fr (fun c => tg c ≠ 0) w w3 := (f02.mono fun _ h => h.elim).trans f3 fun _ _ h => h
    rcases hw with ⟨o1, hk, hmi, hall⟩ | ⟨o2, hk, hmi, hall⟩ | ⟨o3, hk, hmi, hfm, hbl, hall⟩
    · rw [hmi] at hml
      simp [hb3, PS.cells, hnl3, hg3, hml, o1]
      exact ⟨hm3, ho3, ff⟩
    · rw [hmi] at hml
      simp [hb3, PS.cells, hnl3, hg3, hml, o2, hk]
      rw [hk] at hm3
      exact ⟨hm3, ho3, ff⟩
    · rw [hmi] at hml
      have hpos : 0 < (missK p.backed p.nodes.length).length := by
        obtain ⟨j, hj⟩ := List.getElem?_of_mem hfm
        have hjl : j < p.nodes.length := by have := (List.getElem?_eq_some_iff.1 hj).1; omega
        have := (List.getElem?_eq_some_iff.1 (missK_at hjl hj)).1
        omega
      have hpos' : ¬ missK p.backed p.nodes.length = [] := fun h => by rw [h] at hpos; simp at hpos
      simp [hb3, PS.cells, hnl3, hg3, hml, o3, hk, hpos, hpos']
      rw [hk] at hm3
      exact ⟨hm3, ho3, ff⟩
end
end Go.Proofs.Ytpiceodfdjihhaa
