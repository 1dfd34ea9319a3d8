/-
  Layer 1 (disk), DiskKeeps, part I: the walk.
-/
import Derived.Test.YtojnickeblbgoaaDoorKeepH
import Derived.Test.YtojnickeblbgoaaDoorRows
import Derived.Shelf.Vars
import Derived.WalkKit
import Derived.ProofKit
import Derived.LaidLaws
namespace Go.Proofs.YtojnickeblbgoaaDoor
open Go.Lift
set_option linter.unusedSimpArgs false
set_option linter.unusedVariables false
set_option maxHeartbeats 4000000

/-- A disk whose memory is all newer than w. -/
def AtW (w : World) (b : Nat) (w' : World) (d : Dk) : Prop := Fr (fun _ => False) w w' ∧ ∃ v tag, DA w' b d v tag ∧ ∀ c, tag c ≠ 0 → w.heap.size ≤ c
theorem AtW.go {w w1 w2 : World} {b : Nat} {d : Dk} {tag : Nat → Nat} (f : Fr (fun _ => False) w w1) (ht : ∀ c, tag c ≠ 0 → w.heap.size ≤ c) (h : DDid w1 w2 b tag d) : AtW w b w2 d := by
  obtain ⟨f2, v2, tag2, h2, t2⟩ := h
  have s := f.size
  exact ⟨f.new f2 fun c hc => ht c hc, v2, tag2, h2, fun c hc => (t2 c hc).elim (ht c) fun h => by omega⟩
theorem AtW.fr0 {w w1 w2 : World} {b : Nat} {d : Dk} (h : AtW w b w1 d) (f : Fr (fun _ => False) w1 w2) : AtW w b w2 d := by
  obtain ⟨f1, v, tag, h1, t1⟩ := h
  exact ⟨f1.trans f fun _ _ => id, v, tag, h1.fr0 f, t1⟩
theorem AtW.goes {w w1 : World} {b : Nat} {d : Dk} {s' : Stage} {m : M Value} (h : AtW w b w1 d) (hm : ∀ v tag, DA w1 b d v tag → Goes w1 b tag m s') {Q : Value → World → Prop} (q : ∀ d' w2, AtW w b w2 d' → At d' none s' → Q (.int .i64 0) w2) : Run m w1 Q := by
  obtain ⟨f1, v, tag, h1, t1⟩ := h
  refine (hm v tag h1).mono ?_
  rintro _ w2 ⟨rfl, d', h2, a2⟩
  exact q d' w2 (AtW.go f1 t1 h2) a2
def Dop.bulk (o : Dop) : Nat := o.p.size + o.q.size + 6
def qsum (l : List Dop) : Nat := (l.map fun o => o.q.size).sum
theorem qsum_le (l : List Dop) : qsum l + 6 * l.length ≤ (l.map Dop.bulk).sum := by
  induction l with
  | nil => simp [qsum]
  | cons o l ih =>
    simp only [qsum, Dop.bulk, List.map_cons, List.sum_cons, List.length_cons] at ih ⊢
    omega
theorem qsum_take (l : List Dop) (i : Nat) {o : Dop} (h : l[i]? = some o) : qsum (l.take (i + 1)) = qsum (l.take i) + o.q.size := by
  rw [List.take_add_one, h]
  simp [qsum]
theorem qsum_take_le (l : List Dop) (i : Nat) : qsum (l.take i) ≤ qsum l := by
  have : qsum l = qsum (l.take i) + qsum (l.drop i) := by
    unfold qsum
    rw [← List.sum_append, ← List.map_append, List.take_append_drop]
  omega
theorem bulk_mem {l : List Dop} {o : Dop} (h : o ∈ l) : o.bulk ≤ (l.map Dop.bulk).sum := le_sum_of_mem (List.mem_map_of_mem h)
theorem keeps_walk {w : World} {data : ByteArray} {cv : Value} {ops : List Dop} (keep torn : Int) (hm : ∃ m : Int, bk w 0 = some [.int .i64 m]) (hd : data.size ≤ 1048576) (hs : Sl 6 w cv (ops.map Dop.cells)) (hb : (ops.map Dop.bulk).sum ≤ 1048576) :
    Run (F.granarylaw1_DiskKeeps (.string data) cv (.int .i64 keep) (.int .i64 torn)) w fun r w' => r = .bool true ∧ Fr (fun _ => False) w w' := by
  unfold F.granarylaw1_DiskKeeps F.granarylaw1_num
  have eA : ByteArray.mk #[97] = FA := rfl
  have eF : ByteArray.mk #[97, 47, 102] = FF := rfl
  have eE : ByteArray.mk #[] = E0 := rfl
  rw [eA, eF, eE]
  have hln := hs.lenL
  rw [List.length_map] at hln
  have hq := qsum_le ops
  have hbig : ¬ (536870912 : Int) < data.size := by omega
  simp [-ldA_ptr, hbig]
  refine (start_run hm).mono ?_
  rintro _ w1 ⟨b, rfl, d0, v0, tag0, h0, a0, t0, f0⟩
  have H0 : AtW w b w1 d0 := ⟨f0, v0, tag0, h0, t0⟩
  simp [-ldA_ptr]
  refine H0.goes (fun v tag h => keeps1 h a0) fun d1 w2 H1 a1 => ?_
  simp [-ldA_ptr]
  refine H1.goes (fun v tag h => keeps2 h a1) fun d2 w3 H2 a2 => ?_
  simp [-ldA_ptr]
  refine H2.goes (fun v tag h => keeps3 h a2) fun d3 w4 H3 a3 => ?_
  simp [-ldA_ptr]
  refine H3.goes (fun v tag h => keeps4 hd h a3) fun d4 w5 H4 a4 => ?_
  simp [-ldA_ptr]
  refine H4.goes (fun v tag h => keeps5 hd h a4) fun d5 w6 H5 a5 => ?_
  simp [-ldA_ptr]
  refine H5.goes (fun v tag h => keeps6 hd h a5) fun d6 w7 H6 a6 => ?_
  simp [-ldA_ptr]
  refine Run_for ops.length (fun i l w3 => ∃ d, l = [.int .i64 i] ∧ AtW w b w3 d ∧ Inv1 (1048576 + qsum (ops.take i)) (3 + 2 * i) data d) ⟨d6, rfl, H6, keep_inv (by simp [qsum]; omega) a6⟩ ?_ ?_
  · rintro i l w3 hi ⟨d, rfl, H3, I3⟩
    have ei : ops[i]? = some ops[i] := List.getElem?_eq_getElem hi
    generalize ops[i] = o at ei
    have ho : o.p.size + o.q.size + 6 ≤ _ := bulk_mem (List.mem_of_getElem? ei)
    have hqi := qsum_take_le ops i
    obtain ⟨f3, v, tag, h3, t3⟩ := H3
    obtain ⟨q, q1, q2⟩ := (hs.fr0 f3).rdA (i := i) (e := o.cells) (by decide) (by simp [ei]) .i64
    have q2' : ldA 6 q w3 = some o.val := q2
    have hi' : (i : Int) < ops.length := by omega
    have wi := wrap_succ (n := i) (by omega)
    simp only [getL_zero, getL_succ, hln, Run_bindO_some, binV_int, intBin_lss, hi', decide_true, Run_condM_true, Run_bind, q1, Run_rdM, q2', Option.some.injEq, exists_eq_left']
    refine touches_run o fun w4 f4 => ?_
    have h4 := h3.fr0 f4
    have f04 : Fr (fun _ => False) w w4 := f3.trans f4 fun _ _ => id
    by_cases hc : (decide (o.p = FA) || decide (o.p = FF) || decide (o.q = FA) || decide (o.q = FF)) = true
    · rw [hc]
      simp [wi]
      refine ⟨d, ⟨f04, v, tag, h4, t3⟩, I3.more ?_ (by omega)⟩
      rw [qsum_take ops i ei]; omega
    · have hc' : (decide (o.p = FA) || decide (o.p = FF) || decide (o.q = FA) || decide (o.q = FF)) = false := by simpa using hc
      rw [hc']
      simp only [Bool.or_eq_false_iff, decide_eq_false_iff_not] at hc'
      obtain ⟨⟨⟨c1, c2⟩, c3⟩, c4⟩ := hc'
      obtain ⟨q', q1', q2'⟩ := (hs.fr0 f04).rdA (i := i) (e := o.cells) (by decide) (by simp [ei]) .i64
      have q3' : ldA 6 q' w4 = some o.val := q2'
      have eq : q = q' := by rw [q1] at q1'; exact Option.some.inj q1'
      subst eq
      simp [-ldA_ptr, q1, q3', wi]
      refine (step_run h4 I3 o c1 c2 c3 c4 (by omega) (by omega) (by omega) (by omega)).mono ?_
      rintro _ w5 ⟨d', h5, I5⟩
      refine ⟨d', AtW.go f04 t3 h5, I5.more ?_ (by omega)⟩
      rw [qsum_take ops i ei]; omega
  · rintro l w3 ⟨d, rfl, H3, I3⟩
    obtain ⟨f3, v, tag, h3, t3⟩ := H3
    have hqi := qsum_take_le ops ops.length
    have hpl := I3.plen
    have hnl := I3.len
    obtain ⟨k1, k2, k3⟩ := I3.crash keep torn (by omega)
    simp [-ldA_ptr, hln]
    refine (crash2_run h3 (by omega) k1 (by omega) k2).mono ?_
    rintro _ w4 ⟨d', hr, h4⟩
    obtain ⟨I4, up⟩ := k3 d' hr
    obtain ⟨f4, v4, tag4, h4, t4⟩ := AtW.go f3 t3 h4
    refine (keep_read h4 I4 up hd).mono ?_
    rintro _ w5 ⟨rfl, h5⟩
    obtain ⟨f5, _⟩ := AtW.go f4 t4 h5
    simp [-ldA_ptr, ba_eq]
    exact f5
/-- What the library's own variable (the block 0) holds: some number. -/
theorem ml_of {W : World} (h : W.ShapedOpen Tryd.prog) : ∃ m : Int, bk W 0 = some [.int .i64 m] := by
  obtain ⟨cs, hh, hs, _⟩ := h.1 0 #[.int .i64 0] 3 (of_decide_eq_true (by kernel_rfl)) (by kernel_rfl)
  obtain ⟨m, hm⟩ := cell_of_shapedOpen_int (P := Tryd.prog) (g := 0) (t := 3) (zero := #[.int .i64 0]) h (of_decide_eq_true (by kernel_rfl)) (by kernel_rfl) rfl (by kernel_rfl) (by kernel_rfl) (show Tryd.prog.underlying 3 = some (.int .i64) by kernel_rfl)
  refine ⟨m, ?_⟩
  unfold World.cell? at hm
  rw [hh] at hm
  simp at hm
  unfold bk
  rw [hh]
  have h1 : cs.size = 1 := hs
  obtain ⟨x, rfl⟩ : ∃ x, cs = #[x] := by
    obtain ⟨l⟩ := cs
    match l, h1 with
    | [x], _ => exact ⟨x, rfl⟩
  simp at hm
  rw [hm]
abbrev dopSh : Shs := .slice (.int .i64 (.int .i64 (.int .i64 (.int .i64 (.str (.str .nil)))))) .nil
theorem rd_dops {w : World} {v : Value} {n : Nat} (h : dopSh.Rd w [v] n) : ∃ ops : List Dop, Sl 6 w v (ops.map Dop.cells) ∧ (ops.map Dop.bulk).sum ≤ n := by
  refine h.slice2 (f := Dop.cells) (g := Dop.bulk) fun c k hk hc => ?_
  obtain ⟨i1, c1, m1, rfl, _, h1, i2, c2, m2, rfl, _, h2, i3, c3, m3, rfl, _, h3, i4, c4, m4, rfl, _, h4, s5, c5, m5, rfl, h5, s6, c6, m6, rfl, h6, h7⟩ := hc
  cases h7
  refine ⟨⟨i1, i2, i3, i4, s5, s6⟩, rfl, ?_⟩
  simp only [Dop.bulk]
  omega
theorem diskKeeps_top {W : World} {n0 : Nat} (s : ByteArray) (h : s.size + 1 ≤ n0) {v : Value} {n : Nat} (hv : dopSh.Rd W [v] n) (keep torn : Int) {n2 n3 : Nat} (hk : n0 + n + n2 + n3 ≤ 1048576) (_hL : laidMetH Tryd.prog Rows.diskKeepsUptoRow.laid W) (hsh : W.ShapedOpen Tryd.prog) :
    Run (F.granarylaw1_DiskKeeps (.string s) v (.int .i64 keep) (.int .i64 torn)) W fun r w' => r = .bool true ∧ Fr (fun _ => False) W w' := by
  obtain ⟨ops, h1, h2⟩ := rd_dops hv
  exact keeps_walk keep torn (ml_of hsh) (by omega) h1 (by omega)
end Go.Proofs.YtojnickeblbgoaaDoor
