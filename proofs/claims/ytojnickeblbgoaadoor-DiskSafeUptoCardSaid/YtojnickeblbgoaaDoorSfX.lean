/-
  Layer 1 (disk), part Gen I: DiskRefuses.
-/
import Derived.Test.YtojnickeblbgoaaDoorGnX
import Derived.Lib.SplitLaws
namespace Go.Proofs.YtojnickeblbgoaaDoor
open Go.Lift Go.Sort
set_option linter.unusedSimpArgs false
set_option linter.unusedVariables false
set_option maxHeartbeats 4000000

def FI : ByteArray := ByteArray.mk #[102, 105, 114, 115, 116]
theorem parse_FI : parseF FI = some [FI] := by decide +kernel
def firstD (cap : Int) : Dk := { newD cap with acts := 1, nodes := [⟨1, e0, e0⟩, ⟨2, e0, e0⟩], seen := fput (fun _ => none) (0, FI) 1, pending := [⟨2, 0, e0, 0, FI, e0, 1⟩] }
theorem first_create (cap : Int) : createF (newD cap) FI 2 = (0, firstD cap) := by
  have w1 : IntKind.i64.wrap 1 = 1 := by decide
  have hw : (newD cap).walkF [FI] = (0, (0, FI), -1) := by simp [Dk.walkF, Dk.walkGo, newD, Dk.nd]
  unfold createF
  rw [if_neg (by simp [newD]), parse_FI]
  simp only [hw]
  rw [if_neg (by decide), if_neg (by decide)]
  simp [doF, Dk.actF, newD, Dk.addNode, applyF, firstD, w1, Dk.nd]
theorem first_gi (cap : Int) : ∃ dep, GI 0 3 dep (firstD cap) := by
  obtain ⟨dep, t⟩ := gi_create (newD_gi cap) FI (kind := 2) (.inr rfl)
  rw [first_create] at t
  exact ⟨dep, t⟩
theorem first_dump {cap : Int} {l : List Std} (h : DumpOk (firstD cap) l) : l.length = 1 := by
  obtain ⟨ks, q1, q2, q3⟩ := h.ex
  have hk : ∀ k, k ∈ ks ↔ k = 1 := fun k => by
    rw [q2]
    constructor
    · rintro ⟨s, hs⟩
      simp only [firstD, fput] at hs
      split at hs
      · exact (Option.some.inj hs).symm
      · cases hs
    · rintro rfl
      exact ⟨(0, FI), by simp [firstD, fput]⟩
  have := nodup_perm q1 (ys := [1]) (by simp) fun x => by rw [hk]; simp
  rw [q3.length_eq, List.length_map, this.length_eq]
  rfl
theorem refuses_walk {w : World} {cv : Value} {ops : List Dop} (cap : Int) (hm : ∃ m : Int, bk w 0 = some [.int .i64 m]) (hs : Sl 6 w cv (ops.map Dop.cells)) (hb : (ops.map Dop.bulk).sum ≤ 1048576) :
    Run (F.granarylaw1_DiskRefuses (.int .i64 cap) cv) w fun r w' => r = .bool true ∧ Fr (fun _ => False) w w' := by
  unfold F.granarylaw1_DiskRefuses F.granarylaw1_num
  have eF : ByteArray.mk #[102, 105, 114, 115, 116] = FI := rfl
  have eE : ByteArray.mk #[] = E0 := rfl
  rw [eF]
  have hln := hs.lenL
  rw [List.length_map] at hln
  have hq := qsum_le ops
  simp only [Run_bind]
  refine Run.mono (Q := fun o w' => ∃ n : Int, o = .norm [.int .i64 n] ∧ 0 ≤ n ∧ n ≤ 1073741824 ∧ w' = w) ?_ ?_
  · by_cases c1 : cap < 0
    · simp [c1]
    · by_cases c2 : (1073741824 : Int) < cap
      · simp [c1, c2]
      · simp [c1, c2]; omega
  rintro _ _ ⟨n, rfl, hn0, hn1, hw0⟩
  rw [hw0]
  simp [-ldA_ptr]
  refine (new2_run hn0 hn1 hm).mono ?_
  rintro _ w1 ⟨b, rfl, v0, tag0, h0, t0, f0⟩
  simp [-ldA_ptr]
  refine (createG _ _).2 ?_
  refine (create_run h0 (newD_gi n).good (by decide) 2 (by simp [newD]) (by simp [newD])).mono ?_
  rintro _ w2 ⟨rfl, h1⟩
  rw [first_create] at h1 ⊢
  obtain ⟨dep1, I1⟩ := first_gi n
  obtain ⟨f2, v2, tag2, h2, t2⟩ := AtW.go f0 t0 h1
  simp [-ldA_ptr]
  refine (dump_run h2 I1 (by omega) (by omega)).mono ?_
  rintro _ w3 ⟨l1, hl1, hd1, f3, _⟩
  have hl1n := hl1.1.lenL
  rw [List.length_map, first_dump hd1] at hl1n
  simp [-ldA_ptr, hl1n]
  have H3 : AtW w b w3 (firstD n) := (show AtW w b w2 _ from ⟨f2, v2, tag2, h2, t2⟩).fr0 f3
  refine Run_for ops.length (fun i l w3 => ∃ d dep, l = [.int .i64 i] ∧ AtW w b w3 d ∧ GI (qsum (ops.take i)) (3 + 2 * i) dep d) ⟨firstD n, dep1, rfl, H3, I1⟩ ?_ ?_
  · rintro i l w3 hi ⟨d, dep, rfl, H3, I3⟩
    have ei : ops[i]? = some ops[i] := List.getElem?_eq_getElem hi
    generalize ops[i] = o at ei
    have ho : o.p.size + o.q.size + 6 ≤ _ := bulk_mem (List.mem_of_getElem? ei)
    have hqi := qsum_take_le ops i
    have hqs := qsum_take ops i ei
    obtain ⟨f3, v, tag, h3, t3⟩ := H3
    obtain ⟨q, q1, q2⟩ := (hs.fr0 f3).rdA (i := i) (e := o.cells) (by decide) (by simp [ei]) .i64
    have q2' : ldA 6 q w3 = some (.agg o.cells.toArray) := q2
    have hi' : (i : Int) < ops.length := by omega
    have wi := wrap_succ (n := i) (by omega)
    simp only [getL_zero, getL_succ, hln, Run_bindO_some, binV_int, intBin_lss, hi', decide_true, Run_condM_true, Run_bind, q1, Run_rdM, q2', Option.some.injEq, exists_eq_left']
    refine Run_newSt (cs := o.cells.toArray) rfl rfl (by simpa using o.all) fun z w4 hz hzw f4 hzle => ?_
    have hz4 : bk w4 z = some o.cells := by simpa using hz
    have h4 := h3.fr0 f4
    refine (dump_run h4 I3 (by omega) (by omega)).mono ?_
    rintro x34 w5 ⟨l, hl, hd, f5, hin⟩
    have h5 := h4.fr0 f5
    refine (used2_run h5 I3).mono ?_
    rintro _ w6 ⟨U, rfl, hU, f6⟩
    have h6 := h5.fr0 f6
    refine (acts_run h6).mono ?_
    rintro _ _ ⟨rfl, hw⟩
    rw [hw]
    clear hw
    refine (reads_run h6).mono ?_
    rintro _ _ ⟨rfl, hw⟩
    rw [hw]
    clear hw
    refine (pending_run h6).mono ?_
    rintro _ _ ⟨rfl, hw⟩
    rw [hw]
    clear hw
    have f06 : Fr (fun _ => False) w w6 := ((f3.trans f4 fun _ _ h => h).trans f5 fun _ _ h => h).trans f6 fun _ _ h => h
    have hz6 : bk w6 z = some o.cells := f6.bk_some (f5.bk_some hz4 id) id
    have hl6 : SlW 3 w6 x34 (l.map Std.cells) := hl.fr f6 fun _ _ h => h
    have hin0 : ∀ c, inB x34 c → tag c = 0 := fun c hc => Classical.byContradiction fun hn => by
      have := hin c hc
      have := h4.bound c hn
      omega
    have hll : l.length ≤ 4611686018427387904 := by
      obtain ⟨ks, k1, k2, k3⟩ := hd.ex
      rw [k3.length_eq, List.length_map]
      have q := pigeon ks ((List.range d.nodes.length).map fun n : Nat => (n : Int)) k1 fun x hx => by
        obtain ⟨s, hs⟩ := (k2 x).1 hx
        have := I3.pseen.rng _ _ hs
        exact List.mem_map.2 ⟨x.toNat, List.mem_range.2 (by omega), by omega⟩
      have := I3.len
      simp only [List.length_map, List.length_range] at q
      omega
    have hg := I3.good
    have hns := I3.small (by omega)
    have hpl := I3.plen
    have hnl := I3.len
    have same : ∀ w', Fr (fun _ => False) w6 w' → DDid w6 w' b tag d := fun w' f => (h6.fr0 f).did (f.mono fun _ h => h.elim)
    obtain ⟨Q, hQ⟩ : ∃ Q : Out → World → Prop, ∀ r w7, Q r w7 ↔ ∃ (e : Int) (d' : Dk), r = .norm [.int .i64 e] ∧ (e ≠ 0 → Vis d d') ∧ (∃ dep', GI (qsum (ops.take (i + 1))) (3 + 2 * (i + 1)) dep' d') ∧ DDid w6 w7 b tag d' := ⟨_, fun _ _ => Iff.rfl⟩
    refine Run.mono (Q := Q) ?_ ?_
    · have stay : ∀ (e : Int) w7, Fr (fun _ => False) w6 w7 → Q (.norm [.int .i64 e]) w7 := fun e w7 f => (hQ _ _).2 ⟨e, d, rfl, fun _ => .refl d, ⟨dep, I3.more (by omega) (by omega)⟩, same w7 f⟩
      have hval : ldA 6 (Ptr z) w6 = some o.val := by rw [ldA_bk hz6 (by simp [Dop.cells])]; rfl
      by_cases c0 : 1 ≤ o.kind ∧ o.kind ≤ 6
      · simp [-ldA_ptr, hz6, Dop.cells, c0.1, c0.2, hval]
        refine (actX_run h6 I3 o (by omega) (by omega) (by omega) (by omega)).mono ?_
        rintro _ w7 ⟨e, d', rfl, ha, h7⟩
        obtain ⟨⟨dep', g⟩, u⟩ := ActR.gi I3 (by omega) (by omega) ha
        exact (hQ _ _).2 ⟨e, d', rfl, u, ⟨dep', g.more (by omega) (by omega)⟩, h7⟩
      · have c01 : (decide (1 ≤ o.kind) && decide (o.kind ≤ 6)) = false := by
          rw [Bool.and_eq_false_iff]
          by_cases h1 : 1 ≤ o.kind
          · exact .inr (decide_eq_false fun h2 => c0 ⟨h1, h2⟩)
          · exact .inl (decide_eq_false h1)
        have first : ∀ {x : M Out} {y : M Out} {R : Out → World → Prop}, Run y w6 R → Run (bindO (fieldA 0 (Ptr z)) fun x39 => M.bind (rdM (ld1 x39)) fun x40 => bindO (binV BinOp.geq x40 (Value.int IntKind.i64 1)) fun x41 =>
              M.bind (guardM x41 true (optM (fieldA 0 (Ptr z)))) fun x42 => M.bind (guardM x41 true (rdM (ld1 x42))) fun x43 => M.bind (guardM x41 true (optM (binV BinOp.leq x43 (Value.int IntKind.i64 6)))) fun x44 =>
              bindO (pickV x41 x44 (Value.bool false)) fun x45 => condM x45 x y) w6 R := by
          intro x y R hy
          by_cases h1 : 1 ≤ o.kind
          · have h2 : ¬ o.kind ≤ 6 := fun h2 => c0 ⟨h1, h2⟩
            simp [hz6, Dop.cells, h1, h2]
            exact hy
          · simp [hz6, Dop.cells, h1]
            exact hy
        refine first ?_
        clear first
        by_cases c7 : o.kind = 7
        · simp [-ldA_ptr, hz6, Dop.cells, c7]
          refine (sync_run h6 hg (by omega) I3.fold (by omega)).mono ?_
          rintro _ w7 ⟨rfl, h7⟩
          exact (hQ _ _).2 ⟨_, _, rfl, sync_vis o.p 2, ⟨dep, (gi_sync I3 o.p 2).more (by omega) (by omega)⟩, h7⟩
        by_cases c8 : o.kind = 8
        · simp [-ldA_ptr, hz6, Dop.cells, c8]
          refine (syncdir_run h6 hg (by omega) I3.fold (by omega)).mono ?_
          rintro _ w7 ⟨rfl, h7⟩
          exact (hQ _ _).2 ⟨_, _, rfl, sync_vis o.p 1, ⟨dep, (gi_sync I3 o.p 1).more (by omega) (by omega)⟩, h7⟩
        by_cases c9 : o.kind = 9
        · simp [-ldA_ptr, hz6, Dop.cells, c9]
          refine (read2_run h6 hg (by omega) o.n o.m hns).mono ?_
          rintro _ w7 ⟨rfl, h7⟩
          simp [-ldA_ptr]
          refine (hQ _ _).2 ⟨_, _, rfl, read_vis o.p o.n o.m, ⟨dep, ?_⟩, h7⟩
          unfold readX
          repeat' split
          all_goals exact I3.congr rfl rfl rfl rfl (by omega) (by omega)
        by_cases c20 : o.kind = 20
        · simp [-ldA_ptr, hz6, Dop.cells, c20]
          refine (arm_run h6 o.n).mono ?_
          rintro r w7 (⟨_, rfl, hw⟩ | ⟨_, rfl, h7⟩)
          · rw [hw]
            exact stay _ _ (Fr.refl _ _)
          · exact (hQ _ _).2 ⟨_, { d with armed := decide (0 ≤ o.n), left := o.n }, rfl, fun h => absurd rfl h, ⟨dep, I3.congr (d' := { d with armed := decide (0 ≤ o.n), left := o.n }) rfl rfl rfl rfl (by omega) (by omega)⟩, h7⟩
        by_cases c21 : o.kind = 21
        · simp [-ldA_ptr, hz6, Dop.cells, c21]
          obtain ⟨k1, k2, k3⟩ := I3.crash o.n o.m (by omega)
          refine (crash2_run h6 (keep := o.n) (torn := o.m) (by omega) k1 (by omega) k2).mono ?_
          rintro r w7 ⟨_, d', hr, h7⟩
          exact (hQ _ _).2 ⟨_, _, rfl, fun h => absurd rfl h, ⟨dep, (k3 d' hr).1.more (by omega) (by omega)⟩, h7⟩
        · simp [-ldA_ptr, hz6, Dop.cells, c7, c8, c9, c20, c21]
          exact stay _ _ (Fr.refl _ _)
    rintro r7 w7 hr7
    obtain ⟨e, d', rfl, hv, ⟨dep', I7⟩, h7⟩ := (hQ _ _).1 hr7
    simp only [outK_norm, getL_zero, Run_ret, binV_int, intBin_neq, Run_bindO_some, Run_bind]
    obtain ⟨f67, v7, tag7, h7', t7⟩ := h7
    have H7 : AtW w b w7 d' := AtW.go (tag := tag) f06 t3 ⟨f67, v7, tag7, h7', t7⟩
    have hl7 : SlW 3 w7 x34 (l.map Std.cells) := hl6.fr f67 fun c hc => fun hn => hn (hin0 c hc)
    by_cases he : e = 0
    · simp [he, wi]
      exact ⟨d', H7, dep', I7⟩
    · have V := hv he
      simp only [he, decide_false, Bool.not_false, Run_condM_true, Run_bind]
      refine (dump_run h7' I7 (by omega) (by omega)).mono ?_
      rintro x92 w8 ⟨l', hl', hd', f8, _⟩
      have hll' : l' = l := (V.dump hd hd').symm
      subst hll'
      refine (same_run (hl7.fr f8 fun _ _ h => h).1 hl'.1 hll).mono ?_
      rintro _ w9 ⟨rfl, f9⟩
      have h9 := (h7'.fr0 f8).fr0 f9
      simp [-ldA_ptr]
      refine (used2_run h9 I7).mono ?_
      rintro _ w10 ⟨U', rfl, hU', f10⟩
      have hUU := V.used hU hU'
      have h10 := h9.fr0 f10
      simp [hUU]
      refine (acts_run h10).mono ?_
      rintro _ _ ⟨rfl, hw⟩
      rw [hw]
      simp [V.acts]
      refine (reads_run h10).mono ?_
      rintro _ _ ⟨rfl, hw⟩
      rw [hw]
      simp [V.reads]
      refine (pending_run h10).mono ?_
      rintro _ _ ⟨rfl, hw⟩
      rw [hw]
      simp [V.pend, wi]
      exact ⟨d', ((H7.fr0 f8).fr0 f9).fr0 f10, dep', I7⟩
  · rintro l w4 ⟨d, dep, rfl, H4, I4⟩
    simp [hln]
    exact H4.1
theorem diskRefuses_top {W : World} (cap : Int) {n0 : Nat} {v : Value} {n : Nat} (hv : dopSh.Rd W [v] n) (hk : n0 + n ≤ 1048576) (_hL : laidMetH Tryd.prog Rows.diskRefusesUptoRow.laid W) (hsh : W.ShapedOpen Tryd.prog) :
    Run (F.granarylaw1_DiskRefuses (.int .i64 cap) v) W fun r w' => r = .bool true ∧ Fr (fun _ => False) W w' := by
  obtain ⟨ops, h1, h2⟩ := rd_dops hv
  exact refuses_walk cap (ml_of hsh) h1 (by omega)
end Go.Proofs.YtojnickeblbgoaaDoor

/-
  Layer 1 (disk), part Gen J: a path that is joined is parsed back; a crash of what is all safe.
-/
namespace Go.Proofs.YtojnickeblbgoaaDoor
open Go.Lift Go.Sort
set_option linter.unusedSimpArgs false
set_option linter.unusedVariables false
set_option maxHeartbeats 4000000

theorem jl_count : ∀ (N : List (List UInt8)), N ≠ [] → (∀ x ∈ N, (47 : UInt8) ∉ x) → (jl N).count 47 + 1 = N.length
  | [], h, _ => absurd rfl h
  | [x], _, h => by simp [jl, List.count_eq_zero_of_not_mem (h x (by simp))]
  | x :: y :: r, _, h => by
    have ih := jl_count (y :: r) (by simp) fun z hz => h z (List.mem_cons_of_mem _ hz)
    rw [jl_cons (x := x) (by simp)]
    simp only [List.count_append, List.count_eq_zero_of_not_mem (h x (by simp)), List.length_cons] at ih ⊢
    simp
    omega
theorem index_at {x s : List UInt8} (h : (47 : UInt8) ∉ x) : Lib.index (x ++ 47 :: s) [47] = x.length := by
  rw [Lib.index_one]
  have hge := Lib.indexByte_ge (x ++ 47 :: s) 47
  have hat : (x ++ 47 :: s)[x.length]? = some 47 := by simp
  obtain ⟨o, ho⟩ : ∃ o : Nat, Lib.indexByte (x ++ 47 :: s) 47 = o := by
    by_cases hn : Lib.indexByte (x ++ 47 :: s) 47 = -1
    · exact absurd hat (Lib.indexByte_none hn _)
    · exact ⟨(Lib.indexByte (x ++ 47 :: s) 47).toNat, by omega⟩
  obtain ⟨h1, h2⟩ := Lib.indexByte_some ho
  have : o = x.length := by
    rcases Nat.lt_trichotomy o x.length with hlt | he | hgt
    · rw [List.getElem?_append_left hlt] at h1
      exact absurd (List.mem_of_getElem? h1) h
    · exact he
    · exact absurd hat (h2 _ hgt)
  rw [ho, this]
theorem index_no {x : List UInt8} (h : (47 : UInt8) ∉ x) : Lib.index x [47] = -1 := by
  rw [Lib.index_one]
  have hge := Lib.indexByte_ge x 47
  refine Classical.byContradiction fun hn => ?_
  obtain ⟨h1, _⟩ := Lib.indexByte_some (o := (Lib.indexByte x 47).toNat) (show Lib.indexByte x 47 = _ by omega)
  exact h (List.mem_of_getElem? h1)
theorem split_join : ∀ (k : Nat) (N : List (List UInt8)), N ≠ [] → (∀ x ∈ N, (47 : UInt8) ∉ x) → N.length ≤ k + 1 → Lib.splitK [47] 0 k (jl N) = N
  | _, [], h, _, _ => absurd rfl h
  | 0, [x], _, h, _ => by simp [Lib.splitK, jl]
  | 0, x :: y :: r, _, _, hl => by simp at hl
  | k + 1, [x], _, h, _ => by
    unfold Lib.splitK
    rw [show jl [x] = x by simp [jl], index_no (h x (by simp))]
    rfl
  | k + 1, x :: y :: r, _, h, hl => by
    have ih := split_join k (y :: r) (by simp) (fun z hz => h z (List.mem_cons_of_mem _ hz)) (by simpa using hl)
    unfold Lib.splitK
    rw [jl_cons (x := x) (by simp)]
    have e : x ++ [47] ++ jl (y :: r) = x ++ 47 :: jl (y :: r) := by simp
    rw [e, index_at (h x (by simp))]
    have hne : ((x.length : Int) == -1) = false := by simp
    rw [hne]
    have e1 : (x.length : Int).toNat + 0 = x.length := by omega
    have e2 : (x.length : Int).toNat + ([47] : List UInt8).length = x.length + 1 := by simp
    rw [e1, e2]
    simp only [Bool.false_eq_true, if_false, List.take_left]
    have e3 : (x ++ 47 :: jl (y :: r)).drop (x.length + 1) = jl (y :: r) := by simp
    rw [e3, ih]
theorem map_inj {l l' : List ByteArray} (h : l.map (·.data.toList) = l'.map (·.data.toList)) : l = l' := by
  induction l generalizing l' with
  | nil => cases l' with
    | nil => rfl
    | cons y r => simp at h
  | cons x r ih => cases l' with
    | nil => simp at h
    | cons y r' =>
      simp only [List.map_cons, List.cons.injEq] at h
      rw [ba_ext h.1, ih h.2]
/-- A path that is joined is parsed back. -/
theorem parse_join {N : List ByteArray} (hN : N ≠ []) (h : ∀ x ∈ N, nameF x = true) (hl : N.length ≤ 8) : parseF (pathF N) = some N := by
  have hd : (pathF N).data.toList = jl (N.map (·.data.toList)) := by
    rw [← join_jl]
    simp [pathF]
  have hno : ∀ x ∈ N.map (·.data.toList), (47 : UInt8) ∉ x := fun x hx => by
    obtain ⟨y, hy, rfl⟩ := List.mem_map.1 hx
    exact (name_no (h y hy)).1
  have hNm : N.map (·.data.toList) ≠ [] := by simpa using hN
  have hc := jl_count _ hNm hno
  rw [List.length_map] at hc
  have hcb : Lib.countB (pathF N) slash = (jl (N.map (·.data.toList))).count 47 := by
    show Lib.count (pathF N).data.toList [47] = _
    rw [hd, Lib.count_one]
  have hparts : partsF (pathF N) = N := by
    apply map_inj
    unfold partsF
    rw [Lib.splitB_data, hd, hcb]
    exact split_join _ _ hNm hno (by rw [List.length_map]; omega)
  have h0 : pathF N ≠ E0 := fun he => by
    have h1 : (pathF N).data.toList = [] := by rw [he]; rfl
    rw [hd] at h1
    obtain ⟨x, r, rfl⟩ := List.exists_cons_of_ne_nil hN
    have := (name_no (h x (by simp))).2
    cases r with
    | nil => simp [jl] at h1; exact this (by simpa using h1)
    | cons y r => rw [List.map_cons, jl_cons (by simp)] at h1; simp at h1
  have h8 : ¬ 8 ≤ Lib.countByte (pathF N).data.toList 47 := by
    show ¬ 8 ≤ (pathF N).data.toList.count 47
    rw [hd]; omega
  unfold parseF
  rw [if_neg h0, if_neg h8, hparts, if_pos (List.all_eq_true.2 h)]
end Go.Proofs.YtojnickeblbgoaaDoor

/-
  Layer 1 (disk), part Gen K: DiskSafe.
-/
namespace Go.Proofs.YtojnickeblbgoaaDoor
open Go.Lift Go.Sort
set_option linter.unusedSimpArgs false
set_option linter.unusedVariables false
set_option maxHeartbeats 4000000

def Live (d : Dk) : Prop := d.armed = false ∧ d.down = false
section
variable {w w' w'' : World} {b : Nat} {d d' : Dk} {v : DV} {tag : Nat → Nat} {A B : Nat} {dep : Int → Nat}
theorem live_act (h : Live d) : d.actF = (0, { d with acts := IntKind.i64.wrap (d.acts + 1) }) := by
  unfold Dk.actF
  rw [if_neg (by simp [h.1])]
theorem live_do (h : Live d) (c : Chg) (i : Nat) (nd : Nd) : (doF d c i nd).1 = 0 ∧ Live (doF d c i nd).2 := by
  unfold doF
  rw [live_act h, if_neg (by simp)]
  exact ⟨rfl, h⟩
theorem live_settle (h : Live d) (i : Nat) (nd : Nd) : settleF d i nd = (0, { d with acts := IntKind.i64.wrap (d.acts + 1), nodes := d.nodes.set i { nd with kept := (d.pending.foldl (settleStep i) (nd.kept, d.kept)).1 }, kept := (d.pending.foldl (settleStep i) (nd.kept, d.kept)).2, pending := restOf i d.pending }) := by
  unfold settleF
  rw [live_act h, if_neg (by simp)]
theorem live_create (h : Live d) (p : ByteArray) (k : Int) : Live (createF d p k).2 := by
  unfold createF
  rw [if_neg (by simp [h.2])]
  split
  · exact h
  · split
    · exact h
    · split
      · exact h
      · exact (live_do (d := d.addNode k) h _ _ _).2
theorem live_append (h : Live d) (p q : ByteArray) (U : Nat) : Live (appendF d p q U).2 := by
  unfold appendF
  repeat' split
  all_goals first | exact h | exact (live_do h _ _ _).2
theorem live_trunc (h : Live d) (p : ByteArray) (n : Int) : Live (truncF d p n).2 := by
  unfold truncF
  repeat' split
  all_goals first | exact h | exact (live_do h _ _ _).2
theorem live_rename (h : Live d) (p q : ByteArray) : Live (renameX d p q).2 := by
  unfold renameX
  rw [if_neg (by simp [h.2])]
  split
  · split
    · exact h
    · split
      · exact h
      · unfold renW
        repeat' split
        all_goals first | exact h | exact (live_do h _ _ _).2
  · exact h
theorem live_remove (h : Live d) (p : ByteArray) : Live (removeX d p).2 := by
  unfold removeX removeF
  repeat' split
  all_goals first | exact h | exact (live_do h _ _ _).2
theorem live_sync (h : Live d) (p : ByteArray) (k : Int) : Live (syncF d p k).2 := by
  unfold syncF
  split
  · exact h
  · rw [live_settle h]; exact h
theorem step2_run (h : DA w b d v tag) (hI : GI A B dep d) (hL : Live d) (o : Dop) (hk : o.kind ≠ 20) (hA : A ≤ 1099511627776) (hB : B ≤ 1048576) (hz : o.p.size ≤ 1048576) (hz' : o.q.size ≤ 1048576) :
    Run (F.granarylaw1_step (Ptr b) o.val) w fun _ w' => ∃ d', DDid w w' b tag d' ∧ (∃ dep', GI (A + o.q.size) (B + 2) dep' d') ∧ Live d' := by
  obtain ⟨Q, hQ⟩ : ∃ Q : Value → World → Prop, ∀ r w', Q r w' ↔ ∃ d', DDid w w' b tag d' ∧ (∃ dep', GI (A + o.q.size) (B + 2) dep' d') ∧ Live d' := ⟨_, fun _ _ => Iff.rfl⟩
  refine Run.mono (Q := Q) ?_ fun r w' h => (hQ _ _).1 h
  unfold F.granarylaw1_step
  simp only [Run_bind]
  refine Run_new fun x w1 hx _ f1 _ => ?_
  have hx' : bk w1 x = some o.cells := hx
  have hA1 := h.fr0 f1
  have hg := hI.good
  have hlen := hI.len
  have hpl := hI.plen
  have hns := hI.small hA
  have fin : ∀ {w2 : World} {r : Value} (d' : Dk), DDid w1 w2 b tag d' → (∃ dep', GI (A + o.q.size) (B + 2) dep' d') → Live d' → Q r w2 := fun d' hd hi hl => (hQ _ _).2 ⟨_, hd.pre f1, hi, hl⟩
  have act : ∀ {e : Int} {d' : Dk}, ActR d o e d' → ∃ dep', GI (A + o.q.size) (B + 2) dep' d' := fun ha => (ActR.gi hI hA hz' ha).1
  unfold ActR at act
  by_cases c1 : o.kind = 1
  · simp [hx', Dop.cells, c1]
    refine (mkdirG _ _).2 ?_
    refine (create_run hA1 hg (by omega) 1 (by omega) (by omega)).mono ?_
    rintro _ w2 ⟨rfl, h2'⟩
    exact fin _ h2' (act (e := (createF d o.p 1).1) (by rw [if_pos c1])) (live_create hL _ _)
  by_cases c2 : o.kind = 2
  · simp [hx', Dop.cells, c2]
    refine (createG _ _).2 ?_
    refine (create_run hA1 hg (by omega) 2 (by omega) (by omega)).mono ?_
    rintro _ w2 ⟨rfl, h2'⟩
    exact fin _ h2' (act (e := (createF d o.p 2).1) (by rw [if_neg c1, if_pos c2])) (live_create hL _ _)
  by_cases c3 : o.kind = 3
  · simp [hx', Dop.cells, c3]
    refine (append_run hA1 hg (fun s k hk => by have := (hI.pseen.rng s k hk).1; omega) (by omega) (by omega) (fun ls l1 l2 => ?_) hns (by omega)).mono ?_
    · have := hI.usedB l1 l2
      have h2 : B * A ≤ 1048576 * 1099511627776 := Nat.mul_le_mul hB hA
      omega
    rintro _ w2 ⟨ls, q1, q2, rfl, h2'⟩
    exact fin _ h2' (act (e := (appendF d o.p o.q (sumF d ls)).1) (by rw [if_neg c1, if_neg c2, if_pos c3]; exact ⟨_, ⟨ls, q1, q2, rfl⟩, rfl⟩)) (live_append hL _ _ _)
  by_cases c4 : o.kind = 4
  · simp [hx', Dop.cells, c4]
    refine (trunc_run hA1 hg (by omega) o.n hns (by omega)).mono ?_
    rintro _ w2 ⟨rfl, h2'⟩
    exact fin _ h2' (act (e := (truncF d o.p o.n).1) (by rw [if_neg c1, if_neg c2, if_neg c3, if_pos c4])) (live_trunc hL _ _)
  by_cases c5 : o.kind = 5
  · simp [hx', Dop.cells, c5]
    refine (rename3_run hA1 hg hI.k0 (by omega) (by omega) (by omega)).mono ?_
    rintro _ w2 ⟨rfl, h2'⟩
    exact fin _ h2' (act (e := (renameX d o.p o.q).1) (by rw [if_neg c1, if_neg c2, if_neg c3, if_neg c4, if_pos c5])) (live_rename hL _ _)
  by_cases c6 : o.kind = 6
  · simp [hx', Dop.cells, c6]
    refine (remove3_run hA1 hg (by omega) (by omega)).mono ?_
    rintro _ w2 ⟨rfl, h2'⟩
    exact fin _ h2' (act (e := (removeX d o.p).1) (by rw [if_neg c1, if_neg c2, if_neg c3, if_neg c4, if_neg c5])) (live_remove hL _)
  by_cases c7 : o.kind = 7
  · simp [hx', Dop.cells, c7]
    refine (sync_run hA1 hg (by omega) hI.fold (by omega)).mono ?_
    rintro _ w2 ⟨rfl, h2'⟩
    exact fin _ h2' ⟨dep, (gi_sync hI o.p 2).more (by omega) (by omega)⟩ (live_sync hL _ _)
  by_cases c8 : o.kind = 8
  · simp [hx', Dop.cells, c8]
    refine (syncdir_run hA1 hg (by omega) hI.fold (by omega)).mono ?_
    rintro _ w2 ⟨rfl, h2'⟩
    exact fin _ h2' ⟨dep, (gi_sync hI o.p 1).more (by omega) (by omega)⟩ (live_sync hL _ _)
  by_cases c21 : o.kind = 21
  · simp [hx', Dop.cells, c21]
    obtain ⟨k1, k2, k3⟩ := hI.crash o.n o.m (by omega)
    refine (crash2_run hA1 (keep := o.n) (torn := o.m) (by omega) k1 (by omega) k2).mono ?_
    rintro r w2 ⟨_, d', hr, h2'⟩
    exact fin _ h2' ⟨dep, (k3 d' hr).1.more (by omega) (by omega)⟩ ⟨hr.off.1, hr.off.2.1⟩
  · simp [hx', Dop.cells, c1, c2, c3, c4, c5, c6, c7, c8, hk, c21]
    exact (hQ _ _).2 ⟨d, (hA1.did (f1.mono fun _ h => h.elim)), ⟨dep, hI.more (by omega) (by omega)⟩, hL⟩
/-- A path leads where its names lead. -/
theorem walk_rt (hI : GI A B dep d) {k : Int} {N : List ByteArray} (hr : Rt d.seen k N) : ∀ rest, ∃ a, d.walkF (N ++ rest) = d.walkGo a k rest := by
  induction hr with
  | root => intro rest; exact ⟨_, rfl⟩
  | step hr hk ih =>
    rename_i D k n pre
    intro rest
    obtain ⟨a, ha⟩ := ih (n :: rest)
    refine ⟨(D, n), ?_⟩
    rw [List.append_assoc, List.singleton_append, ha]
    have hd := hI.pseen.dir _ _ hk
    have hg := hI.pseen.rng _ _ hk
    have e : d.walkGo a D (n :: rest) = d.walkGo (D, n) ((d.seen (D, n)).getD (-1)) rest := by
      conv => lhs; unfold Dk.walkGo
      have k1 : (d.nd D).kind = 1 := hd.2.2
      have d0 : 0 ≤ D := hd.1
      rw [if_neg (by omega), if_neg (by rw [k1]; decide), if_neg]
      rw [hk]
      rintro ⟨h1, _⟩
      simp only [Option.getD_some] at h1
      omega
    rw [e, hk]
    rfl
theorem find_rt (hI : GI A B dep d) (hL : Live d) {k : Int} {N : List ByteArray} (hr : Rt d.seen k N) (hN : N ≠ []) (hl : N.length ≤ 8) {kind : Int} (hk : (d.nd k).kind = kind) (h0 : 0 ≤ k) : ∃ a, d.findF (pathF N) kind = (0, a, k) := by
  obtain ⟨a, ha⟩ := walk_rt hI hr []
  rw [List.append_nil] at ha
  refine ⟨a, ?_⟩
  unfold Dk.findF
  rw [if_neg (by simp [hL.2]), parse_join hN (rt_names hI.pseen hr) hl]
  simp only [ha, Dk.walkGo]
  rw [if_neg (by simp), if_neg (by omega), if_neg (fun h => h.2 hk)]
theorem find_top (hI : GI A B dep d) (hL : Live d) : ∃ a, d.findF E0 1 = (0, a, 0) := by
  refine ⟨(-1, e0), ?_⟩
  unfold Dk.findF
  have hp : parseF E0 = some [] := by unfold parseF; rw [if_pos rfl]
  rw [if_neg (by simp [hL.2]), hp]
  have hw : d.walkF [] = (0, (-1, e0), 0) := rfl
  simp only [hw]
  rw [if_neg (by simp), if_neg (by decide), if_neg (fun h => h.2 hI.k0)]
theorem std_inj (hI : GI A B dep d) {k k' : Int} (h : ∃ s, d.seen s = some k) (h' : ∃ s, d.seen s = some k') (he : stdOf d k = stdOf d k') : k = k' := by
  obtain ⟨s, q1⟩ := h
  obtain ⟨s', q2⟩ := h'
  obtain ⟨_, _, r1⟩ := hI.rt q1
  obtain ⟨_, _, r2⟩ := hI.rt q2
  have e : pathF (nmOf d.seen k) = pathF (nmOf d.seen k') := congrArg Std.path he
  rw [nm_eq hI.pseen r1, nm_eq hI.pseen r2] at e
  have e2 := path_inj (rt_names hI.pseen r1) (rt_names hI.pseen r2) e
  rw [e2] at r1
  exact rt_fun r1 r2
/-- Some nodes are all safe. -/
structure Synced (d0 d : Dk) (S : Int → Prop) : Prop where
  seen : d.seen = d0.seen
  nd : ∀ k, (d.nd k).kind = (d0.nd k).kind ∧ (d.nd k).seen = (d0.nd k).seen
  none : ∀ c ∈ d.pending, ¬ S c.node
  len : d.nodes.length = d0.nodes.length
theorem Synced.settle {d0 : Dk} {S : Int → Prop} (h : Synced d0 d S) (hL : Live d) {i : Nat} {nd : Nd} (hi : d.nodes[i]? = some nd) : Synced d0 (settleF d i nd).2 (fun k => S k ∨ k = i) ∧ Live (settleF d i nd).2 ∧ (settleF d i nd).1 = 0 := by
  rw [live_settle hL]
  refine ⟨⟨h.seen, fun k => ?_, fun c hc => ?_, by show (d.nodes.set i _).length = _; rw [List.length_set]; exact h.len⟩, hL, rfl⟩
  · have := h.nd k
    unfold Dk.nd at this ⊢
    show ((((d.nodes.set i _)[k.toNat]?).getD _ : Nd).kind = _ ∧ (((d.nodes.set i _)[k.toNat]?).getD _ : Nd).seen = _)
    by_cases hik : i = k.toNat
    · rw [← hik] at this ⊢
      rw [hi] at this
      rw [List.getElem?_set_self (List.getElem?_eq_some_iff.1 hi).1]
      exact this
    · rw [List.getElem?_set_ne hik]
      exact this
  · have hm := List.mem_filter.1 (show c ∈ restOf i d.pending from hc)
    rintro (h1 | h1)
    · exact h.none c hm.1 h1
    · exact absurd h1 (by simpa using hm.2)
/-- A crash that keeps nothing leaves what is all safe. -/
theorem crash_safe {d0 : Dk} {S : Int → Prop} (hI : GI A B dep d) (hI0 : GI A B dep d0) (h : Synced d0 d S) (h0 : S 0) (hS : ∀ s k, d0.seen s = some k → S k) (hc : Crashed d 0 0 d') (hI' : GI A B dep d') :
    d'.seen = d0.seen ∧ ∀ s k, d0.seen s = some k → d'.nd k = ⟨(d0.nd k).kind, (d0.nd k).seen, (d0.nd k).seen⟩ := by
  have hL : ∀ c ∈ crashL d.pending 0 0, c.what = 0 ∧ ¬ S c.node := by
    intro c hm
    have e : clampN 0 d.pending.length = 0 := by unfold clampN; split <;> omega
    unfold crashL at hm
    rw [e] at hm
    simp only [List.take_zero, List.nil_append] at hm
    split at hm
    · rename_i c0 hc0
      split at hm
      · rename_i hw
        obtain rfl := List.mem_singleton.1 hm
        exact ⟨hw, h.none c0 (List.mem_of_getElem? hc0)⟩
      · cases hm
    · cases hm
  have hfold : (crashL d.pending 0 0).foldl entG d.kept = d.kept := by
    have : ∀ (L : List Chg), (∀ c ∈ L, c.what = 0) → ∀ m, L.foldl entG m = m := by
      intro L
      induction L with
      | nil => intros; rfl
      | cons c L ih =>
        intro hL m
        rw [List.foldl_cons, ih (fun x hx => hL x (by simp [hx]))]
        rw [entG_cases, hL c (by simp)]
        rfl
    exact this _ (fun c hc => (hL c hc).1) _
  -- what is kept of safe directories
  have hkept : ∀ x, S x → ∀ n, d.kept (x, n) = d0.seen (x, n) := fun x hx n => by
    rw [← h.seen, ← hI.eq]
    exact (fold_off (j := x) (fun c hc he => h.none c hc (he ▸ hx)) n).symm
  have e : ∀ n s k, dep k ≤ n → (d'.seen s = some k ↔ d0.seen s = some k) := by
    intro n
    induction n with
    | zero =>
      intro s k hn
      constructor
      · intro hs; have := (hI'.pseen.dpt s k hs).1; omega
      · intro hs; have := (hI0.pseen.dpt s k hs).1; omega
    | succ n ih =>
      rintro ⟨x, nm⟩ k hn
      constructor
      · intro hs
        have hk := hc.sub _ _ hs
        rw [hfold] at hk
        rcases hI'.up _ _ hs with hx | ⟨t, ht⟩
        · simp only at hx
          rw [hkept x (hx ▸ h0)] at hk
          exact hk
        · have hd := (hI'.pseen.dpt _ _ hs).1
          have := (ih t x (by simp only at hd; omega)).1 ht
          rw [hkept x (hS _ _ this)] at hk
          exact hk
      · intro hs
        rcases hI0.up _ _ hs with hx | ⟨t, ht⟩
        · simp only at hx
          rw [hx]
          refine hc.root nm k ?_
          rw [hfold, hkept 0 h0, ← hx]
          exact hs
        · have hd := (hI0.pseen.dpt _ _ hs).1
          have := (ih t x (by simp only at hd; omega)).2 ht
          refine hc.closed t x this ?_ nm k ?_
          · have hd2 := (hI0.pseen.dir _ _ hs).2.2
            unfold Dk.isD at hd2 ⊢
            rw [(h.nd x).1]
            exact hd2
          · rw [hfold, hkept x (hS _ _ ht)]
            exact hs
  have hseen : d'.seen = d0.seen := by
    funext s
    cases h1 : d'.seen s with
    | none =>
      cases h2 : d0.seen s with
      | none => rfl
      | some k => rw [(e (dep k) s k (Nat.le_refl _)).2 h2] at h1; cases h1
    | some k => rw [(e (dep k) s k (Nat.le_refl _)).1 h1]
  refine ⟨hseen, fun s k hs => ?_⟩
  have hr := hI0.pseen.rng s k hs
  obtain ⟨j, rfl⟩ : ∃ j : Nat, k = j := ⟨k.toNat, by omega⟩
  have hjl : j < d.nodes.length := by rw [h.len]; omega
  have hj := List.getElem?_eq_getElem hjl
  obtain ⟨x, x1, x2, x3, x4⟩ := hc.kept j _ hj
  have hx : d'.nd (j : Int) = x := by simp [Dk.nd, x1]
  have hd : d.nd (j : Int) = d.nodes[j] := by simp [Dk.nd, hj]
  have nn := h.nd (j : Int)
  rw [hd] at nn
  have hb : bfold (j : Int) d.nodes[j].kept (crashL d.pending 0 0) = d.nodes[j].kept := by
    have : ∀ (L : List Chg), (∀ c ∈ L, c.node ≠ (j : Int)) → ∀ y, bfold (j : Int) y L = y := by
      intro L
      induction L with
      | nil => intros; rfl
      | cons c L ih =>
        intro hL y
        show bfold (j : Int) (bstep j y c) L = y
        rw [ih fun z hz => hL z (by simp [hz])]
        unfold bstep
        rw [if_neg (hL c (by simp))]
    exact this _ (fun c hc he => (hL c hc).2 (he ▸ hS _ _ hs)) _
  have hk2 : d.nodes[j].kept = d.nodes[j].seen := by
    have t := (hI.node j _ hj).eq ⟨s, by rw [h.seen]; exact hs⟩
    rw [← t]
    exact ((bfold_none (j := (j : Int)) (L := d.pending) (fun c hc he => absurd (hS _ _ hs) (he ▸ h.none c hc)) _).1).symm
  have x5 := x4 ⟨s, by rw [hseen]; exact hs⟩
  rw [hx]
  obtain ⟨a1, a2, a3⟩ := x
  simp only at x2 x3 x5
  rw [x5, x3, hb, hk2, x2, nn.1, nn.2]
end
end Go.Proofs.YtojnickeblbgoaaDoor

/-
  Layer 1 (disk), part Gen L: DiskSafe, the walk.
-/
namespace Go.Proofs.YtojnickeblbgoaaDoor
open Go.Lift Go.Sort
set_option linter.unusedSimpArgs false
set_option linter.unusedVariables false
set_option maxHeartbeats 4000000

theorem live_new (cap : Int) : Live (newD cap) := ⟨rfl, rfl⟩
theorem dump_len {d : Dk} {A B : Nat} {dep : Int → Nat} (hI : GI A B dep d) {l : List Std} (hd : DumpOk d l) : l.length ≤ B := by
  obtain ⟨ks, k1, k2, k3⟩ := hd.ex
  rw [k3.length_eq, List.length_map]
  have q := pigeon ks ((List.range d.nodes.length).map fun n : Nat => (n : Int)) k1 fun x hx => by
    obtain ⟨s, hs⟩ := (k2 x).1 hx
    have := hI.pseen.rng _ _ hs
    exact List.mem_map.2 ⟨x.toNat, List.mem_range.2 (by omega), by omega⟩
  have := hI.len
  simp only [List.length_map, List.length_range] at q
  omega
theorem safe_walk {w : World} {cv : Value} {ops : List Dop} (hm : ∃ m : Int, bk w 0 = some [.int .i64 m]) (hs : Sl 6 w cv (ops.map Dop.cells)) (hb : (ops.map Dop.bulk).sum ≤ 1048576) :
    Run (F.granarylaw1_DiskSafe cv) w fun r w' => r = .bool true ∧ Fr (fun _ => False) w w' := by
  unfold F.granarylaw1_DiskSafe F.granarylaw1_num
  have eF : ByteArray.mk #[102, 105, 114, 115, 116] = FI := rfl
  have eE : ByteArray.mk #[] = E0 := rfl
  rw [eF, eE]
  have hln := hs.lenL
  rw [List.length_map] at hln
  have hq := qsum_le ops
  simp only [Run_bind]
  refine (new2_run (by decide) (by decide) hm).mono ?_
  rintro _ w1 ⟨b, rfl, v0, tag0, h0, t0, f0⟩
  simp [-ldA_ptr]
  refine (createG _ _).2 ?_
  refine (create_run h0 (newD_gi 1073741824).good (by decide) 2 (by simp [newD]) (by simp [newD])).mono ?_
  rintro _ w2 ⟨rfl, h1⟩
  have hl1 := live_create (live_new 1073741824) FI 2
  rw [first_create] at h1 hl1 ⊢
  obtain ⟨dep1, I1⟩ := first_gi 1073741824
  simp [-ldA_ptr]
  refine Run_for ops.length (fun i l w3 => ∃ d dep, l = [.int .i64 i] ∧ AtW w b w3 d ∧ GI (qsum (ops.take i)) (3 + 2 * i) dep d ∧ Live d) ⟨firstD 1073741824, dep1, rfl, AtW.go f0 t0 h1, I1, hl1⟩ ?_ ?_
  · rintro i l w3 hi ⟨d, dep, rfl, H3, I3, L3⟩
    have ei : ops[i]? = some ops[i] := List.getElem?_eq_getElem hi
    generalize ops[i] = o at ei
    have ho : o.p.size + o.q.size + 6 ≤ _ := bulk_mem (List.mem_of_getElem? ei)
    have hqi := qsum_take_le ops i
    have hqs := qsum_take ops i ei
    obtain ⟨f3, v, tag, h3, t3⟩ := H3
    obtain ⟨qb, qo, ql, q1, q2, q3, q4, _⟩ := (hs.fr0 f3).rd (i := i) (e := o.cells) (by decide) (by simp [ei]) .i64
    have qk : ql[qo]? = some (.int .i64 o.kind) := take_get0 q4 (by decide)
    have qA : ldA 6 (.pointer (some ⟨qb, qo, none⟩)) w3 = some o.val := by rw [ldA_bk q2 q3, q4]; rfl
    have hi' : (i : Int) < ops.length := by omega
    have wi := wrap_succ (n := i) (by omega)
    by_cases h20 : o.kind = 20
    · simp [-ldA_ptr, hln, hi', hi, q1, q2, qk, h20, wi]
      exact ⟨d, ⟨f3, v, tag, h3, t3⟩, ⟨dep, I3.more (by omega) (by omega)⟩, L3⟩
    · simp [-ldA_ptr, hln, hi', hi, q1, q2, qk, h20, qA]
      refine (step2_run h3 I3 L3 o h20 (by omega) (by omega) (by omega) (by omega)).mono ?_
      rintro _ w4 ⟨d', h4, ⟨dep', I4⟩, L4⟩
      simp [wi]
      exact ⟨d', AtW.go f3 t3 h4, ⟨dep', I4.more (by omega) (by omega)⟩, L4⟩
  · rintro l w3 ⟨d0, dep, rfl, H3, I0, L0⟩
    have hqi := qsum_take_le ops ops.length
    obtain ⟨f3, v, tag, h3, t3⟩ := H3
    simp [-ldA_ptr, hln]
    refine (dump_run h3 I0 (by omega) (by omega)).mono ?_
    rintro x34 w4 ⟨l, hl, hd, f4, hin⟩
    have h4 := h3.fr0 f4
    have f04 := f3.trans f4 fun _ _ h => h
    have hin0 : ∀ c, inB x34 c → tag c = 0 := fun c hc => Classical.byContradiction fun hn => by
      have := hin c hc
      have := h3.bound c hn
      omega
    have hll := dump_len I0 hd
    obtain ⟨a, ha⟩ := find_top I0 L0
    have hn0 : d0.nodes[(0 : Nat)]? = some (d0.nd 0) := by
      have := nd_at d0 (k := 0) (Int.le_refl _) (by have := I0.pos; omega)
      simpa using this
    have e0' : syncF d0 E0 1 = settleF d0 0 (d0.nd 0) := by
      simp only [syncF, ha]
      rw [if_neg (by simp)]
      rfl
    have S0 : Synced d0 d0 (fun _ => False) := ⟨rfl, fun _ => ⟨rfl, rfl⟩, fun _ _ h => h, rfl⟩
    obtain ⟨S1, L1, r1⟩ := S0.settle L0 hn0
    have I1 := I0.settle hn0
    refine (syncdir_run h4 I0.good (by decide) I0.fold (by have := I0.plen; omega)).mono ?_
    rintro _ w5 ⟨rfl, h5⟩
    rw [e0'] at h5 ⊢
    rw [r1]
    obtain ⟨f45, v5, tag5, h5', t5⟩ := h5
    have hl5 : SlW 3 w5 x34 (l.map Std.cells) := hl.fr f45 fun c hc hn => hn (hin0 c hc)
    have H5 : AtW w b w5 (settleF d0 0 (d0.nd 0)).2 := AtW.go f04 t3 ⟨f45, v5, tag5, h5', t5⟩
    have hlx := hl5.1.lenL
    rw [List.length_map] at hlx
    have hT : ∀ x ∈ l, ∃ k, x = stdOf d0 k ∧ ∃ s, d0.seen s = some k := fun x hx => by
      obtain ⟨ks, k1, k2, k3⟩ := hd.ex
      obtain ⟨k, hk, rfl⟩ := List.mem_map.1 (k3.mem_iff.1 hx)
      exact ⟨k, rfl, (k2 k).1 hk⟩
    have hT2 : ∀ s k, d0.seen s = some k → stdOf d0 k ∈ l := fun s k hs => by
      obtain ⟨ks, k1, k2, k3⟩ := hd.ex
      exact k3.mem_iff.2 (List.mem_map.2 ⟨k, (k2 k).2 ⟨s, hs⟩, rfl⟩)
    have hinb : ∀ c, inB x34 c → w3.heap.size ≤ c ∧ tag5 c = 0 := fun c hc => by
      refine ⟨(hin c hc).1, Classical.byContradiction fun hn => ?_⟩
      rcases t5 c hn with h' | h'
      · exact h' (hin0 c hc)
      · have := hin c hc
        omega
    simp [-ldA_ptr]
    obtain ⟨Inv, hInv⟩ : ∃ Inv : Nat → World → Prop, ∀ i w6, Inv i w6 ↔ ∃ d v tag, DA w6 b d v tag ∧ (∀ c, tag c ≠ 0 → w.heap.size ≤ c) ∧ Fr (fun _ => False) w w6 ∧ GI (qsum (ops.take ops.length)) (3 + 2 * ops.length) dep d ∧ Live d ∧
        Synced d0 d (fun k => k = 0 ∨ ∃ j, j < i ∧ l[j]? = some (stdOf d0 k) ∧ ∃ s, d0.seen s = some k) ∧ SlW 3 w6 x34 (l.map Std.cells) ∧ (∀ c, inB x34 c → tag c = 0) ∧ w4.heap.size ≤ w6.heap.size := ⟨fun i w6 => _, fun _ _ => Iff.rfl⟩
    refine Run_for l.length (fun i L w6 => L = [.int .i64 i] ∧ Inv i w6)
      ⟨rfl, (hInv _ _).2 ⟨_, v5, tag5, h5', fun c hc => (t5 c hc).elim (t3 c) fun h => by have := f04.size; omega, H5.1, I1, L1, ⟨S1.seen, S1.nd, fun c hc hs => S1.none c hc (hs.elim .inr fun ⟨j, hj, _⟩ => absurd hj (Nat.not_lt_zero _)), S1.len⟩, hl5, fun c hc => (hinb c hc).2, f45.size⟩⟩ ?_ ?_
    · rintro i L w6 hi ⟨rfl, hinv⟩
      obtain ⟨d, v6, tag6, h6, t6, f6, I6, L6, S6, hl6, hin6, hw46⟩ := (hInv _ _).1 hinv
      have hlx6 := hl6.1.lenL
      rw [List.length_map] at hlx6
      have hi' : (i : Int) < l.length := by omega
      have wi := wrap_succ (n := i) (by omega)
      have ei : l[i]? = some l[i] := List.getElem?_eq_getElem hi
      generalize l[i] = x at ei
      obtain ⟨k, rfl, s, hs⟩ := hT x (List.mem_of_getElem? ei)
      obtain ⟨q0, q1, q2⟩ := hl6.1.rdF (i := i) (e := (stdOf d0 k).cells) (by simp [ei]) .i64
      obtain ⟨r0, r1, r2⟩ := q2 0 (by decide)
      obtain ⟨s0, s1, s2⟩ := q2 1 (by decide)
      have r2' : ld1 r0 w6 = some (.string (stdOf d0 k).path) := r2
      have s2' : ld1 s0 w6 = some (.int .i64 (stdOf d0 k).kind) := s2
      have hr := I0.pseen.rng s k hs
      obtain ⟨_, _, hrt⟩ := I0.rt hs
      have hnm := nm_eq I0.pseen hrt
      have hrt' : Rt d.seen k (nmOf d0.seen k) := by rw [S6.seen, hnm]; exact hrt
      have hlen8 : (nmOf d0.seen k).length ≤ 8 := by
        rw [hnm]
        have := rt_dep I0.pseen I0.dep0 hrt
        have := (I0.pseen.dpt s k hs).2
        omega
      have hne : nmOf d0.seen k ≠ [] := by rw [hnm]; simp
      obtain ⟨a, ha⟩ := find_rt I6 L6 hrt' hne hlen8 (S6.nd k).1 (by omega)
      obtain ⟨j, hj⟩ : ∃ j : Nat, k = j := ⟨k.toNat, by omega⟩
      have hjl : j < d.nodes.length := by rw [S6.len]; omega
      have hnj : d.nodes[j]? = some (d.nd k) := by
        have := nd_at d (k := k) (by omega) (by omega)
        rw [hj] at this ⊢
        simpa using this
      obtain ⟨S7, L7, r7⟩ := S6.settle L6 hnj
      have I7 := I6.settle hnj
      have hpsz : (stdOf d0 k).path.size < 4294967281 := by
        have h1 := sizes_le (nmOf d0.seen k) (fun x hx => by
          rw [hnm] at hx
          have := rt_names I0.pseen hrt x hx
          simp only [nameF, Bool.and_eq_true, decide_eq_true_eq] at this
          exact this.1.1.1.2)
        show (pathF (nmOf d0.seen k)).size < _
        omega
      have hsync : syncF d (stdOf d0 k).path (d0.nd k).kind = settleF d j (d.nd k) := by
        show syncF d (pathF (nmOf d0.seen k)) (d0.nd k).kind = _
        simp only [syncF, ha]
        rw [if_neg (by simp), show k.toNat = j by omega]
      have fin : ∀ w7, DDid w6 w7 b tag6 (settleF d j (d.nd k)).2 → ∃ d v tag, DA w7 b d v tag ∧ (∀ c, tag c ≠ 0 → w.heap.size ≤ c) ∧ Fr (fun _ => False) w w7 ∧ GI (qsum (ops.take ops.length)) (3 + 2 * ops.length) dep d ∧ Live d ∧
          Synced d0 d (fun k => k = 0 ∨ ∃ j, j < i + 1 ∧ l[j]? = some (stdOf d0 k) ∧ ∃ s, d0.seen s = some k) ∧ SlW 3 w7 x34 (l.map Std.cells) ∧ (∀ c, inB x34 c → tag c = 0) ∧ w4.heap.size ≤ w7.heap.size := fun w7 h7 => by
        obtain ⟨f67, v7, tag7, h7', t7⟩ := h7
        obtain ⟨f07, _, _, _, _⟩ := AtW.go f6 t6 ⟨f67, v7, tag7, h7', t7⟩
        have z6 := f6.size
        refine ⟨_, v7, tag7, h7', fun c hc => (t7 c hc).elim (t6 c) fun h => by omega, f07, I7, L7, ⟨S7.seen, S7.nd, fun c hc hS => S7.none c hc ?_, S7.len⟩, hl6.fr f67 fun c hc hn => hn (hin6 c hc), fun c hc => Classical.byContradiction fun hn => ?_, by have := f67.size; omega⟩
        · rcases hS with h0 | ⟨m, hm, hlm, hsm⟩
          · exact .inl (.inl h0)
          · by_cases hmi : m < i
            · exact .inl (.inr ⟨m, hmi, hlm, hsm⟩)
            · have : m = i := by omega
              subst this
              rw [ei] at hlm
              have := std_inj I0 ⟨s, hs⟩ hsm (Option.some.inj hlm)
              exact .inr (by rw [← this]; exact hj)
        · rcases t7 c hn with h' | h'
          · exact h' (hin6 c hc)
          · have h1 := (hin c hc).2
            have h2 : w4.heap.size ≤ w6.heap.size := hw46
            omega
      rcases I0.kinds (d0.nd k) (List.mem_of_getElem? (nd_at d0 (k := k) (by omega) hr.2)) with hk | hk
      · have hk' : (stdOf d0 k).kind = 1 := hk
        rw [hk] at hsync
        simp [-ldA_ptr, hlx6, hi', hi, q1, r1, s1, r2', s2', hk']
        refine (syncdir_run h6 I6.good hpsz I6.fold (by have := I6.plen; omega)).mono ?_
        rintro _ w7 ⟨rfl, h7⟩
        rw [hsync] at h7 ⊢
        rw [r7]
        have G := fin w7 h7
        obtain ⟨_, _, _, _, _, _, _, _, _, g9, _⟩ := G
        obtain ⟨p0, p1, p2⟩ := g9.1.rdF (i := i) (e := (stdOf d0 k).cells) (by simp [ei]) .i64
        rw [q1] at p1
        obtain rfl := Option.some.inj p1
        obtain ⟨u0, u1, u2⟩ := p2 1 (by decide)
        rw [s1] at u1
        obtain rfl := Option.some.inj u1
        have u2' : ld1 s0 w7 = some (.int .i64 (stdOf d0 k).kind) := u2
        simp [-ldA_ptr, q1, s1, u2', hk', wi]
        exact (hInv _ _).2 (fin w7 h7)
      · have hk' : (stdOf d0 k).kind = 2 := hk
        rw [hk] at hsync
        simp [-ldA_ptr, hlx6, hi', hi, q1, r1, s1, r2', s2', hk']
        refine (sync_run h6 I6.good hpsz I6.fold (by have := I6.plen; omega)).mono ?_
        rintro _ w7 ⟨rfl, h7⟩
        rw [hsync] at h7 ⊢
        rw [r7]
        simp [-ldA_ptr, wi]
        exact (hInv _ _).2 (fin w7 h7)
    · rintro L w6 ⟨rfl, hinv⟩
      obtain ⟨d, v6, tag6, h6, t6, f6, I6, L6, S6, hl6, hin6, hw46⟩ := (hInv _ _).1 hinv
      have hlx6 := hl6.1.lenL
      rw [List.length_map] at hlx6
      simp [-ldA_ptr, hlx6]
      obtain ⟨k1, k2, k3⟩ := I6.crash 0 0 (by omega)
      refine (crash2_run h6 (keep := 0) (torn := 0) (by have := I6.plen; omega) k1 (by have := I6.len; omega) k2).mono ?_
      rintro _ w7 ⟨_, d', hr, h7⟩
      obtain ⟨I7, C7⟩ := k3 d' hr
      obtain ⟨c1, c2⟩ := crash_safe I6 I0 S6 (.inl rfl) (fun s k hs => by
        obtain ⟨j, hj⟩ := List.getElem?_of_mem (hT2 s k hs)
        exact .inr ⟨j, (List.getElem?_eq_some_iff.1 hj).1, hj, s, hs⟩) C7 I7
      obtain ⟨f67, v7, tag7, h7', t7⟩ := h7
      have hl7 : SlW 3 w7 x34 (l.map Std.cells) := hl6.fr f67 fun c hc hn => hn (hin6 c hc)
      refine (dump_run h7' I7 (by omega) (by omega)).mono ?_
      rintro x75 w8 ⟨l', hl', hd', f8, _⟩
      have hll' : l' = l := by
        refine (hd.eq hd' (fun k => by rw [c1]) fun k ⟨s, hs⟩ => ?_).symm
        unfold stdOf
        rw [c1, c2 s k hs]
      subst hll'
      refine (same_run (hl7.fr f8 fun _ _ h => h).1 hl'.1 (by omega)).mono ?_
      rintro _ w9 ⟨rfl, f9⟩
      obtain ⟨fz, _⟩ := ((AtW.go f6 t6 ⟨f67, v7, tag7, h7', t7⟩).fr0 f8).fr0 f9
      simp
      exact fz
theorem diskSafe_top {W : World} {v : Value} {n : Nat} (hv : dopSh.Rd W [v] n) (hk : n ≤ 1048576) (_hL : laidMetH Tryd.prog Rows.diskSafeUptoRow.laid W) (hsh : W.ShapedOpen Tryd.prog) :
    Run (F.granarylaw1_DiskSafe v) W fun r w' => r = .bool true ∧ Fr (fun _ => False) W w' := by
  obtain ⟨ops, h1, h2⟩ := rd_dops hv
  exact safe_walk (ml_of hsh) h1 (by omega)
end Go.Proofs.YtojnickeblbgoaaDoor
