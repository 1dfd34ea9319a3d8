/-
  Layer 1 (disk), part Gen I: DiskRefuses.
-/
import Derived.Test.YtojnickeblbgoaaDoorGnX
namespace Go.Proofs.YtojnickeblbgoaaDoor
open Go.Lift Go.Sort
set_option linter.unusedSimpArgs false
set_option linter.unusedVariables false
set_option maxHeartbeats 4000000

def FI : ByteArray := ByteArray.mk #[102, 105, 114, 115, 116]
theorem parse_FI : parseF FI = some [FI] := by decide +kernel
def firstD (cap : Int) : Dk := { newD cap with acts := 1, nodes := [⟨1, e0, e0⟩, ⟨2, e0, e0⟩], seen := fput (fun _ => none) (0, FI) 1, pending := [⟨2, 0, e0, 0, FI, e0, 1⟩] }
theorem first_create (cap : Int) : createF (newD cap) FI 2 = (0, firstD cap) := by
  have w1 : IntKind.i64.wrap 1 = 1 := by decide
  have hw : (newD cap).walkF [FI] = (0, (0, FI), -1) := by simp [Dk.walkF, Dk.walkGo, newD, Dk.nd]
  unfold createF
  rw [if_neg (by simp [newD]), parse_FI]
  simp only [hw]
  rw [if_neg (by decide), if_neg (by decide)]
  simp [doF, Dk.actF, newD, Dk.addNode, applyF, firstD, w1, Dk.nd]
theorem first_gi (cap : Int) : ∃ dep, GI 0 3 dep (firstD cap) := by
  obtain ⟨dep, t⟩ := gi_create (newD_gi cap) FI (kind := 2) (.inr rfl)
  rw [first_create] at t
  exact ⟨dep, t⟩
theorem first_dump {cap : Int} {l : List Std} (h : DumpOk (firstD cap) l) : l.length = 1 := by
  obtain ⟨ks, q1, q2, q3⟩ := h.ex
  have hk : ∀ k, k ∈ ks ↔ k = 1 := fun k => by
    rw [q2]
    constructor
    · rintro ⟨s, hs⟩
      simp only [firstD, fput] at hs
      split at hs
      · exact (Option.some.inj hs).symm
      · cases hs
    · rintro rfl
      exact ⟨(0, FI), by simp [firstD, fput]⟩
  have := nodup_perm q1 (ys := [1]) (by simp) fun x => by rw [hk]; simp
  rw [q3.length_eq, List.length_map, this.length_eq]
  rfl
theorem refuses_walk {w : World} {cv : Value} {ops : List Dop} (cap : Int) (hm : ∃ m : Int, bk w 0 = some [.int .i64 m]) (hs : Sl 6 w cv (ops.map Dop.cells)) (hb : (ops.map Dop.bulk).sum ≤ 1048576) :
    Run (F.granarylaw1_DiskRefuses (.int .i64 cap) cv) w fun r w' => r = .bool true ∧ Fr (fun _ => False) w w' := by
  unfold F.granarylaw1_DiskRefuses F.granarylaw1_num
  have eF : ByteArray.mk #[102, 105, 114, 115, 116] = FI := rfl
  have eE : ByteArray.mk #[] = E0 := rfl
  rw [eF]
  have hln := hs.lenL
  rw [List.length_map] at hln
  have hq := qsum_le ops
  simp only [Run_bind]
  refine Run.mono (Q := fun o w' => ∃ n : Int, o = .norm [.int .i64 n] ∧ 0 ≤ n ∧ n ≤ 1073741824 ∧ w' = w) ?_ ?_
  · by_cases c1 : cap < 0
    · simp [c1]
    · by_cases c2 : (1073741824 : Int) < cap
      · simp [c1, c2]
      · simp [c1, c2]; omega
  rintro _ _ ⟨n, rfl, hn0, hn1, hw0⟩
  rw [hw0]
  simp [-ldA_ptr]
  refine (new2_run hn0 hn1 hm).mono ?_
  rintro _ w1 ⟨b, rfl, v0, tag0, h0, t0, f0⟩
  simp [-ldA_ptr]
  refine (createG _ _).2 ?_
  refine (create_run h0 (newD_gi n).good (by decide) 2 (by simp [newD]) (by simp [newD])).mono ?_
  rintro _ w2 ⟨rfl, h1⟩
  rw [first_create] at h1 ⊢
  obtain ⟨dep1, I1⟩ := first_gi n
  obtain ⟨f2, v2, tag2, h2, t2⟩ := AtW.go f0 t0 h1
  simp [-ldA_ptr]
  refine (dump_run h2 I1 (by omega) (by omega)).mono ?_
  rintro _ w3 ⟨l1, hl1, hd1, f3, _⟩
  have hl1n := hl1.1.lenL
  rw [List.length_map, first_dump hd1] at hl1n
  simp [-ldA_ptr, hl1n]
  have H3 : AtW w b w3 (firstD n) := (show AtW w b w2 _ from ⟨f2, v2, tag2, h2, t2⟩).fr0 f3
  refine Run_for ops.length (fun i l w3 => ∃ d dep, l = [.int .i64 i] ∧ AtW w b w3 d ∧ GI (qsum (ops.take i)) (3 + 2 * i) dep d) ⟨firstD n, dep1, rfl, H3, I1⟩ ?_ ?_
  · rintro i l w3 hi ⟨d, dep, rfl, H3, I3⟩
    have ei : ops[i]? = some ops[i] := List.getElem?_eq_getElem hi
    generalize ops[i] = o at ei
    have ho : o.p.size + o.q.size + 6 ≤ _ := bulk_mem (List.mem_of_getElem? ei)
    have hqi := qsum_take_le ops i
    have hqs := qsum_take ops i ei
    obtain ⟨f3, v, tag, h3, t3⟩ := H3
    obtain ⟨q, q1, q2⟩ := (hs.fr0 f3).rdA (i := i) (e := o.cells) (by decide) (by simp [ei]) .i64
    have q2' : ldA 6 q w3 = some (.agg o.cells.toArray) := q2
    have hi' : (i : Int) < ops.length := by omega
    have wi := wrap_succ (n := i) (by omega)
    simp only [getL_zero, getL_succ, hln, Run_bindO_some, binV_int, intBin_lss, hi', decide_true, Run_condM_true, Run_bind, q1, Run_rdM, q2', Option.some.injEq, exists_eq_left']
    refine Run_newSt (cs := o.cells.toArray) rfl rfl (by simpa using o.all) fun z w4 hz hzw f4 hzle => ?_
    have hz4 : bk w4 z = some o.cells := by simpa using hz
    have h4 := h3.fr0 f4
    refine (dump_run h4 I3 (by omega) (by omega)).mono ?_
    rintro x34 w5 ⟨l, hl, hd, f5, hin⟩
    have h5 := h4.fr0 f5
    refine (used2_run h5 I3).mono ?_
    rintro _ w6 ⟨U, rfl, hU, f6⟩
    have h6 := h5.fr0 f6
    refine (acts_run h6).mono ?_
    rintro _ _ ⟨rfl, hw⟩
    rw [hw]
    clear hw
    refine (reads_run h6).mono ?_
    rintro _ _ ⟨rfl, hw⟩
    rw [hw]
    clear hw
    refine (pending_run h6).mono ?_
    rintro _ _ ⟨rfl, hw⟩
    rw [hw]
    clear hw
    have f06 : Fr (fun _ => False) w w6 := ((f3.trans f4 fun _ _ h => h).trans f5 fun _ _ h => h).trans f6 fun _ _ h => h
    have hz6 : bk w6 z = some o.cells := f6.bk_some (f5.bk_some hz4 id) id
    have hl6 : SlW 3 w6 x34 (l.map Std.cells) := hl.fr f6 fun _ _ h => h
    have hin0 : ∀ c, inB x34 c → tag c = 0 := fun c hc => Classical.byContradiction fun hn => by
      have := hin c hc
      have := h4.bound c hn
      omega
    have hll : l.length ≤ 4611686018427387904 := by
      obtain ⟨ks, k1, k2, k3⟩ := hd.ex
      rw [k3.length_eq, List.length_map]
      have q := pigeon ks ((List.range d.nodes.length).map fun n : Nat => (n : Int)) k1 fun x hx => by
        obtain ⟨s, hs⟩ := (k2 x).1 hx
        have := I3.pseen.rng _ _ hs
        exact List.mem_map.2 ⟨x.toNat, List.mem_range.2 (by omega), by omega⟩
      have := I3.len
      simp only [List.length_map, List.length_range] at q
      omega
    have hg := I3.good
    have hns := I3.small (by omega)
    have hpl := I3.plen
    have hnl := I3.len
    have same : ∀ w', Fr (fun _ => False) w6 w' → DDid w6 w' b tag d := fun w' f => (h6.fr0 f).did (f.mono fun _ h => h.elim)
    obtain ⟨Q, hQ⟩ : ∃ Q : Out → World → Prop, ∀ r w7, Q r w7 ↔ ∃ (e : Int) (d' : Dk), r = .norm [.int .i64 e] ∧ (e ≠ 0 → Vis d d') ∧ (∃ dep', GI (qsum (ops.take (i + 1))) (3 + 2 * (i + 1)) dep' d') ∧ DDid w6 w7 b tag d' := ⟨_, fun _ _ => Iff.rfl⟩
    refine Run.mono (Q := Q) ?_ ?_
    · have stay : ∀ (e : Int) w7, Fr (fun _ => False) w6 w7 → Q (.norm [.int .i64 e]) w7 := fun e w7 f => (hQ _ _).2 ⟨e, d, rfl, fun _ => .refl d, ⟨dep, I3.more (by omega) (by omega)⟩, same w7 f⟩
      have hval : ldA 6 (Ptr z) w6 = some o.val := by rw [ldA_bk hz6 (by simp [Dop.cells])]; rfl
      by_cases c0 : 1 ≤ o.kind ∧ o.kind ≤ 6
      · simp [-ldA_ptr, hz6, Dop.cells, c0.1, c0.2, hval]
        refine (actX_run h6 I3 o (by omega) (by omega) (by omega) (by omega)).mono ?_
        rintro _ w7 ⟨e, d', rfl, ha, h7⟩
        obtain ⟨⟨dep', g⟩, u⟩ := ActR.gi I3 (by omega) (by omega) ha
        exact (hQ _ _).2 ⟨e, d', rfl, u, ⟨dep', g.more (by omega) (by omega)⟩, h7⟩
      · have c01 : (decide (1 ≤ o.kind) && decide (o.kind ≤ 6)) = false := by
          rw [Bool.and_eq_false_iff]
          by_cases h1 : 1 ≤ o.kind
          · exact .inr (decide_eq_false fun h2 => c0 ⟨h1, h2⟩)
          · exact .inl (decide_eq_false h1)
        have first : ∀ {x : M Out} {y : M Out} {R : Out → World → Prop}, Run y w6 R → Run (bindO (fieldA 0 (Ptr z)) fun x39 => M.bind (rdM (ld1 x39)) fun x40 => bindO (binV BinOp.geq x40 (Value.int IntKind.i64 1)) fun x41 =>
              M.bind (guardM x41 true (optM (fieldA 0 (Ptr z)))) fun x42 => M.bind (guardM x41 true (rdM (ld1 x42))) fun x43 => M.bind (guardM x41 true (optM (binV BinOp.leq x43 (Value.int IntKind.i64 6)))) fun x44 =>
              bindO (pickV x41 x44 (Value.bool false)) fun x45 => condM x45 x y) w6 R := by
          intro x y R hy
          by_cases h1 : 1 ≤ o.kind
          · have h2 : ¬ o.kind ≤ 6 := fun h2 => c0 ⟨h1, h2⟩
            simp [hz6, Dop.cells, h1, h2]
            exact hy
          · simp [hz6, Dop.cells, h1]
            exact hy
        refine first ?_
        clear first
        by_cases c7 : o.kind = 7
        · simp [-ldA_ptr, hz6, Dop.cells, c7]
          refine (sync_run h6 hg (by omega) I3.fold (by omega)).mono ?_
          rintro _ w7 ⟨rfl, h7⟩
          exact (hQ _ _).2 ⟨_, _, rfl, sync_vis o.p 2, ⟨dep, (gi_sync I3 o.p 2).more (by omega) (by omega)⟩, h7⟩
        by_cases c8 : o.kind = 8
        · simp [-ldA_ptr, hz6, Dop.cells, c8]
          refine (syncdir_run h6 hg (by omega) I3.fold (by omega)).mono ?_
          rintro _ w7 ⟨rfl, h7⟩
          exact (hQ _ _).2 ⟨_, _, rfl, sync_vis o.p 1, ⟨dep, (gi_sync I3 o.p 1).more (by omega) (by omega)⟩, h7⟩
        by_cases c9 : o.kind = 9
        · simp [-ldA_ptr, hz6, Dop.cells, c9]
          refine (read2_run h6 hg (by omega) o.n o.m hns).mono ?_
          rintro _ w7 ⟨rfl, h7⟩
          simp [-ldA_ptr]
          refine (hQ _ _).2 ⟨_, _, rfl, read_vis o.p o.n o.m, ⟨dep, ?_⟩, h7⟩
          unfold readX
          repeat' split
          all_goals exact I3.congr rfl rfl rfl rfl (by omega) (by omega)
        by_cases c20 : o.kind = 20
        · simp [-ldA_ptr, hz6, Dop.cells, c20]
          refine (arm_run h6 o.n).mono ?_
          rintro r w7 (⟨_, rfl, hw⟩ | ⟨_, rfl, h7⟩)
          · rw [hw]
            exact stay _ _ (Fr.refl _ _)
          · exact (hQ _ _).2 ⟨_, { d with armed := decide (0 ≤ o.n), left := o.n }, rfl, fun h => absurd rfl h, ⟨dep, I3.congr (d' := { d with armed := decide (0 ≤ o.n), left := o.n }) rfl rfl rfl rfl (by omega) (by omega)⟩, h7⟩
        by_cases c21 : o.kind = 21
        · simp [-ldA_ptr, hz6, Dop.cells, c21]
          obtain ⟨k1, k2, k3⟩ := I3.crash o.n o.m (by omega)
          refine (crash2_run h6 (keep := o.n) (torn := o.m) (by omega) k1 (by omega) k2).mono ?_
          rintro r w7 ⟨_, d', hr, h7⟩
          exact (hQ _ _).2 ⟨_, _, rfl, fun h => absurd rfl h, ⟨dep, (k3 d' hr).1.more (by omega) (by omega)⟩, h7⟩
        · simp [-ldA_ptr, hz6, Dop.cells, c7, c8, c9, c20, c21]
          exact stay _ _ (Fr.refl _ _)
    rintro r7 w7 hr7
    obtain ⟨e, d', rfl, hv, ⟨dep', I7⟩, h7⟩ := (hQ _ _).1 hr7
    simp only [outK_norm, getL_zero, Run_ret, binV_int, intBin_neq, Run_bindO_some, Run_bind]
    obtain ⟨f67, v7, tag7, h7', t7⟩ := h7
    have H7 : AtW w b w7 d' := AtW.go (tag := tag) f06 t3 ⟨f67, v7, tag7, h7', t7⟩
    have hl7 : SlW 3 w7 x34 (l.map Std.cells) := hl6.fr f67 fun c hc => fun hn => hn (hin0 c hc)
    by_cases he : e = 0
    · simp [he, wi]
      exact ⟨d', H7, dep', I7⟩
    · have V := hv he
      simp only [he, decide_false, Bool.not_false, Run_condM_true, Run_bind]
      refine (dump_run h7' I7 (by omega) (by omega)).mono ?_
      rintro x92 w8 ⟨l', hl', hd', f8, _⟩
      have hll' : l' = l := (V.dump hd hd').symm
      subst hll'
      refine (same_run (hl7.fr f8 fun _ _ h => h).1 hl'.1 hll).mono ?_
      rintro _ w9 ⟨rfl, f9⟩
      have h9 := (h7'.fr0 f8).fr0 f9
      simp [-ldA_ptr]
      refine (used2_run h9 I7).mono ?_
      rintro _ w10 ⟨U', rfl, hU', f10⟩
      have hUU := V.used hU hU'
      have h10 := h9.fr0 f10
      simp [hUU]
      refine (acts_run h10).mono ?_
      rintro _ _ ⟨rfl, hw⟩
      rw [hw]
      simp [V.acts]
      refine (reads_run h10).mono ?_
      rintro _ _ ⟨rfl, hw⟩
      rw [hw]
      simp [V.reads]
      refine (pending_run h10).mono ?_
      rintro _ _ ⟨rfl, hw⟩
      rw [hw]
      simp [V.pend, wi]
      exact ⟨d', ((H7.fr0 f8).fr0 f9).fr0 f10, dep', I7⟩
  · rintro l w4 ⟨d, dep, rfl, H4, I4⟩
    simp [hln]
    exact H4.1
theorem diskRefuses_top {W : World} (cap : Int) {n0 : Nat} {v : Value} {n : Nat} (hv : dopSh.Rd W [v] n) (hk : n0 + n ≤ 1048576) (_hL : laidMetH Tryd.prog Rows.diskRefusesUptoRow.laid W) (hsh : W.ShapedOpen Tryd.prog) :
    Run (F.granarylaw1_DiskRefuses (.int .i64 cap) v) W fun r w' => r = .bool true ∧ Fr (fun _ => False) W w' := by
  obtain ⟨ops, h1, h2⟩ := rd_dops hv
  exact refuses_walk cap (ml_of hsh) h1 (by omega)
end Go.Proofs.YtojnickeblbgoaaDoor
