/-
  Layer 21 (export), part J: ExportEnds, the walk.
-/
import Derived.Test.YtiggkhmopnhfaaaExportI
namespace Go.Proofs.Ytiggkhmopnhfaaa
open Go.Lift
set_option linter.unusedSimpArgs false
set_option maxHeartbeats 1000000

theorem ends_run {w : World} {C : Clu} {nv sv : Value} {pvs : List Value} {ops : List Op} (hN : Nodes w nv C.nodes pvs) (hF : Fits C) (hs : Sl 14 w sv (elO ops)) (hm : ∀ o ∈ ops, o.m.fine) (hl : ops.length ≤ 1048576) :
    Run (F.granarylaw21_ExportEnds (C.val nv) sv) w fun r w' => r = .bool true ∧ Fr (fun _ => False) w w' := by
  unfold F.granarylaw21_ExportEnds
  have hsl := hs.lenL
  simp at hsl
  have hby : ops.length ≤ 2147483647 := by omega
  simp [Clu.val]
  refine Run_new fun bC w0 hb _ fr0 _ => ?_
  have hb0 : bk w0 bC = some (C.cells nv) := by simpa using hb
  simp [-ldA_ptr, hsl, beyond_run hby, Clu.ldA hb0]
  have hN0 := hN.fr0 fr0
  refine (check_run hN0 hF).mono ?_
  rintro _ w1 ⟨fr1, rfl⟩
  have fr01 : Fr (fun _ => False) w w1 := fr0.trans fr1 fun _ _ => id
  have hb1 : bk w1 bC = some (C.cells nv) := fr1.bk_some hb0 id
  simp [num_run]
  by_cases hc : checkF C = 0
  case neg =>
    simp [-ldA_ptr, hc, Clu.ldA hb1]
    refine (refused_run (hN.fr0 fr01) hF hc).mono ?_
    rintro _ w2 ⟨rfl, fr2⟩
    simp
    exact fr01.trans fr2 fun _ _ => id
  simp [-ldA_ptr, hc, Clu.ldA hb1]
  refine (cluster_run (hN.fr0 fr01) hF).mono ?_
  rintro _ w2 ⟨fr2, nv', pvs', rfl, hN2, _⟩
  refine (new_run hN2 hF).mono ?_
  rintro _ w3 ⟨fr3, _, h3⟩
  obtain ⟨b, v, tag, rfl, hexp, htag⟩ := h3 hc
  have hown : Own w2 w3 b (XS.new C) := ⟨fr3, ⟨v, tag, hexp, htag⟩, XOk.new hc⟩
  obtain ⟨hset, hc1, hc2⟩ := checkF_ok hc
  obtain ⟨R, hRr⟩ : ∃ R : Nat, C.replicas = R := ⟨C.replicas.toNat, by have := (hset 0 _ _ rfl rfl).1; simp at this; omega⟩
  have hRb := hset 0 _ _ rfl rfl
  have hwb := hset 17 _ _ rfl rfl
  simp only [Clu.nums] at hRb hwb
  have hR1 : 1 ≤ R := by have := hRb.1; omega
  have hR16 : R ≤ 16 := by have := hRb.2; omega
  have hwt : 1 ≤ C.getwait ∧ C.getwait ≤ 1024 := hwb
  have hRr' : ∀ r ∈ rowsF C, r.length = R := fun r hr => by have := rowsF_row hc hr; omega
  have hP1 : 1 ≤ (rowsF C).length := by rw [rowsF_len]; exact hc1
  have hxt : XT (rowsF C) R C.getwait 0 (XS.new C) := ⟨rfl, rfl, ⟨Int.le_refl 0, Int.le_refl 0⟩, fun h => by cases h⟩
  have fr02 : Fr (fun _ => False) w w2 := fr01.trans fr2 fun _ _ => id
  have hb2 : bk w2 bC = some (C.cells nv) := fr2.bk_some hb1 id
  simp [num_run]
  refine Run_for ops.length (fun i l w' => l = [.int .i64 i] ∧ ∃ x, Own w2 w' b x ∧ XT (rowsF C) R C.getwait i x) ⟨rfl, _, hown, by simpa using hxt⟩ ?_ ?_
  · rintro i l w4 hi ⟨rfl, x, hox, hxt⟩
    have ei : ops[i]? = some ops[i] := List.getElem?_eq_getElem hi
    generalize ops[i] = o at ei
    have hs4 : Sl 14 w4 sv (elO ops) := (hs.fr0 fr02).fr0 hox.fr
    obtain ⟨bo, oo, lo, i1, i2, i3, i4, _⟩ := hs4.rd (by decide) (elO_some ei) .i64
    have ws := wrap_succ (n := i) (by omega)
    have hof := hm o (List.mem_of_getElem? ei)
    have hstep := hxt.stepS hRr' hR1 hwt (by omega) o
    have g0 : lo[oo]? = some (.int .i64 o.kind) := take_get (j := 0) i4 (by decide)
    have g2 : lo[oo + 2]? = some (.int .i64 o.n) := take_get (j := 2) i4 (by decide)
    have g3 : ldA 11 (.pointer (some ⟨bo, oo + 3, none⟩)) w4 = some o.m.val := by
      rw [ldA_bk i2 (by omega)]
      congr 2
      have : (lo.drop (oo + 3)).take 11 = ((lo.drop oo).take 14).drop 3 := by rw [List.drop_take, List.drop_drop]
      rw [this, i4]
      rfl
    simp [-ldA_ptr, hsl, hi, i1, i2, g0, ws]
    by_cases k1 : o.kind = 1
    · have e : x.stepS o = (x.beginS o.n).x := by unfold XS.stepS; rw [if_pos k1]
      simp [-ldA_ptr, k1, i1, i2, g2]
      refine (hox.begin_ o.n).mono ?_
      rintro _ w5 ⟨h5, ov, rfl, _⟩
      try simp [ws]
      exact ⟨_, e ▸ h5, by simpa using hstep⟩
    by_cases k2 : o.kind = 2
    · have e : x.stepS o = (x.tellS o.m).1 := by unfold XS.stepS; rw [if_neg k1, if_pos k2]
      simp [-ldA_ptr, k1, k2, i1, i2, g3]
      refine (hox.tell hof).mono ?_
      rintro _ w5 ⟨h5, ov, rfl, _⟩
      try simp [ws]
      exact ⟨_, e ▸ h5, by simpa using hstep⟩
    by_cases k3 : o.kind = 3
    · have e : x.stepS o = x.tickS.1 := by unfold XS.stepS; rw [if_neg k1, if_neg k2, if_pos k3]
      simp [-ldA_ptr, k1, k2, k3]
      refine hox.tick.mono ?_
      rintro _ w5 ⟨h5, ov, rfl, _⟩
      try simp [ws]
      exact ⟨_, e ▸ h5, by simpa using hstep⟩
    · have e : x.stepS o = x := by unfold XS.stepS; rw [if_neg k1, if_neg k2, if_neg k3]
      simp [-ldA_ptr, k1, k2, k3, ws]
      exact ⟨_, hox, e ▸ by simpa using hstep⟩
  · rintro l w4 ⟨rfl, x, hox, hxt⟩
    have hb4 : bk w4 bC = some (C.cells nv) := hox.fr.bk_some hb2 id
    have hN4 : Nodes w4.drew nv C.nodes pvs := ((hN.fr0 fr02).fr0 hox.fr).fr0 (Fr.refl _ _).drew
    simp [-ldA_ptr, hsl, Clu.ldA hb4]
    refine (parts_run hN4 hF).mono ?_
    rintro _ w5 ⟨rfl, fr5⟩
    have dr4 : Fr (fun _ => False) w4 w4.drew := (Fr.refl _ _).drew
    have hox5 := (hox.fr0 dr4).fr0 fr5
    have hb5 : bk w5 bC = some (C.cells nv) := hox5.fr.bk_some hb2 id
    obtain ⟨W, hW⟩ : ∃ W : Nat, C.getwait = W := ⟨C.getwait.toNat, by omega⟩
    have hWb : 1 ≤ W ∧ W ≤ 1024 := by omega
    have hcR : C.count * R ≤ 64 * 16 := Nat.mul_le_mul hc2 hR16
    have hcRW : C.count * R * W ≤ 64 * 16 * 1024 := Nat.mul_le_mul hcR hWb.2
    have m1 : IntKind.i64.wrap ((C.count : Int) * C.replicas) = ((C.count * R : Nat) : Int) := by
      rw [hRr, ← Int.natCast_mul]; exact wrap_small (by omega) (by omega)
    have m2 : IntKind.i64.wrap (((C.count * R : Nat) : Int) * C.getwait) = ((C.count * R * W : Nat) : Int) := by
      rw [hW, ← Int.natCast_mul]; exact wrap_small (by omega) (by omega)
    have hmost : ((C.count * R * W : Nat) : Int) = C.getwait * (R * (rowsF C).length : Nat) := by
      rw [hW, rowsF_len, ← Int.natCast_mul]
      congr 1
      rw [Nat.mul_comm W, Nat.mul_comm R]
    simp only [Int.natCast_mul] at m1 m2
    simp [hb5, hb4, Clu.cells, m1, m2]
    rw [← Int.natCast_mul, ← Int.natCast_mul]
    generalize hM : C.count * R * W = M at *
    have hMb : M ≤ 1048576 := by omega
    refine Run.mono (Q := fun o w' => ∃ i, o = .exit 3 [i] ∧ ∃ x, Own w2 w' b x ∧ XT (rowsF C) R C.getwait 2097152 x ∧ x.busy = false) (Run_for M (fun i l w' => l = [.int .i64 i] ∧ ∃ x, Own w2 w' b x ∧ XT (rowsF C) R C.getwait (1048576 + i) x ∧
        (x.busy = true → ∃ d k, XAt x R d k ∧ 1 ≤ d ∧ d ≤ C.getwait ∧ d + C.getwait * k + i ≤ M)) ⟨rfl, x, hox5, by simpa using hxt.mono (by omega), fun hbu => ?_⟩ ?_ ?_) ?_
    · obtain ⟨d, k, h1, h2, h3, h4⟩ := XAt.of hxt hbu
      refine ⟨d, k, h1, h2, h3, ?_⟩
      have : C.getwait * ((k : Int) + 1) ≤ C.getwait * ((R * (rowsF C).length : Nat) : Int) := Int.mul_le_mul_of_nonneg_left (by omega) (by omega)
      rw [Int.mul_add] at this
      omega
    · rintro i l w6 hi ⟨rfl, x, hox, hxt, hbz⟩
      have ws := wrap_succ (n := i) (by omega)
      simp [hi]
      refine hox.isBusy ?_
      cases hbu : x.busy with
      | false =>
        simp
        exact ⟨x, hox, hxt.mono (by omega), hbu⟩
      | true =>
        simp
        refine hox.tick.mono ?_
        rintro _ w7 ⟨h7, ov, rfl, _⟩
        simp [ws]
        obtain ⟨d, k, h1, h2, h3, h4⟩ := hbz hbu
        refine ⟨_, h7, (hxt.tickS hRr' hR1 hwt (by omega)).mono (by omega), fun hbu' => ?_⟩
        rcases h1.tick hRr' hR1 hwt (by omega) hxt h2 with ⟨t1, t2, _⟩ | ⟨t1, t2, t3, _⟩ | ⟨t1, t2, t3, _⟩
        · exact ⟨d - 1, k, t2, by omega, by omega, by omega⟩
        · obtain ⟨k', rfl⟩ : ∃ k', k = k' + 1 := ⟨k - 1, by omega⟩
          refine ⟨_, k', by simpa using t3, hwt.1, Int.le_refl _, ?_⟩
          push_cast at h4
          rw [Int.mul_add] at h4
          omega
        · rw [t3] at hbu'; cases hbu'
    · rintro l w6 ⟨rfl, x, hox, hxt, hbz⟩
      simp
      refine ⟨x, hox, hxt.mono (by omega), ?_⟩
      cases hbu : x.busy with
      | false => rfl
      | true =>
        obtain ⟨d, k, h1, h2, h3, h4⟩ := hbz hbu
        have : 0 ≤ C.getwait * (k : Int) := Int.mul_nonneg (by omega) (by omega)
        omega
    rintro _ w6 ⟨i6, rfl, x6, hox6, hxt6, hbu6⟩
    simp
    refine (hox6.begin_ 1).mono ?_
    rintro _ w7 ⟨hox7, ov7, rfl, hs7, _⟩
    obtain ⟨he7, hl7, hsil⟩ := Sil.begin_ hRr' hR1 hP1 hwt (by omega) hxt6 hbu6
    have hxt7 := hxt6.beginS hRr' hR1 hwt (by omega) 1
    have hol7 := hs7.1.lenL
    rw [hl7] at hol7
    simp [num_run, he7, hol7]
    generalize (x6.beginS 1).x = x7 at *
    have hwt0 : ¬ C.getwait = 0 := by omega
    have hRP : C.count * R = R * (rowsF C).length := by rw [rowsF_len, Nat.mul_comm]
    refine Run.mono (Q := fun o w' => o = .exit 5 [.int .i64 (R * (rowsF C).length : Nat), .int .i64 M] ∧ ∃ x, Own w2 w' b x ∧ x.busy = false ∧ x.ended = true ∧ x.lp = [] ∧ x.lm = (List.range (rowsF C).length).map fun (n : Nat) => (n : Int))
      (Run_for M (fun i l w' => ∃ (asked : Nat) (x : XS), l = [.int .i64 asked, .int .i64 i] ∧ Own w2 w' b x ∧ XT (rowsF C) R C.getwait (2097152 + i) x ∧
        ((i < M ∧ Sil x R (rowsF C).length C.getwait i asked) ∨ (i = M ∧ asked = R * (rowsF C).length ∧ x.busy = false ∧ x.ended = true ∧ x.lp = [] ∧ x.lm = (List.range (rowsF C).length).map fun (n : Nat) => (n : Int)))) ⟨1, x7, rfl, hox7, by simpa using hxt7, .inl ⟨?_, hsil⟩⟩ ?_ ?_) ?_
    · obtain ⟨⟨d, k, ha, hd1, hd2, hsum, hask⟩, _⟩ := hsil
      have : 0 ≤ C.getwait * (k : Int) := Int.mul_nonneg (by omega) (by omega)
      rw [← hmost] at hsum
      omega
    · rintro i l w8 hi ⟨asked, x, rfl, hox, hxt, hcase⟩
      have hsl8 : Sil x R (rowsF C).length C.getwait i asked := by
        rcases hcase with h | h
        · exact h.2
        · omega
      have hbu : x.busy = true := by obtain ⟨⟨d, k, ha, _⟩, _⟩ := hsl8; exact ha.busy
      have ws := wrap_succ (n := i) (by omega)
      have hasked : asked ≤ R * (rowsF C).length := by obtain ⟨⟨d, k, ha, _, _, _, h⟩, _⟩ := hsl8; omega
      have wa := wrap_succ (n := asked) (by omega)
      have hlt : ∀ x' a', Sil x' R (rowsF C).length C.getwait (i + 1) a' → i + 1 < M := by
        rintro x' a' ⟨⟨d, k, ha, hd1, hd2, hsum, hask⟩, _⟩
        have : 0 ≤ C.getwait * (k : Int) := Int.mul_nonneg (by omega) (by omega)
        rw [← hmost] at hsum
        push_cast at hsum
        omega
      simp [hi]
      refine hox.isBusy ?_
      rw [hbu]
      simp
      refine hox.tick.mono ?_
      rintro _ w9 ⟨h9, ov, rfl, hos, _⟩
      have hxt9 := hxt.tickS hRr' hR1 hwt (by omega)
      have hb9 : bk w9 bC = some (C.cells nv) := h9.fr.bk_some hb2 id
      have hol := hos.1.lenL
      rcases hsl8.tick hRr' hR1 hwt (by omega) hxt with ⟨t1, t2⟩ | ⟨t1, t2, t3⟩ | ⟨t1, t2, t3, t4, t5, t6, t7⟩
      · rw [t1] at hol
        simp at hol
        have wa0 : IntKind.i64.wrap (asked : Int) = asked := wrap_nat (by omega)
        simp [num_run, hol, ws, wa0]
        exact ⟨asked, rfl, _, h9, hxt9.mono (by omega), .inl ⟨hlt _ _ t2, t2⟩⟩
      · rw [t1] at hol
        simp at hol
        have htm : (((i : Int) + 1).tmod C.getwait) = 0 := by rw [Int.tmod_eq_emod_of_nonneg (by omega)]; exact t2
        have htm' : ((((i + 1 : Nat) : Int)).tmod C.getwait) = 0 := by push_cast; exact htm
        simp [num_run, hol, ws, wa, hb9, Clu.cells, hwt0, htm, htm']
        exact ⟨asked + 1, by simp, _, h9, hxt9.mono (by omega), .inl ⟨hlt _ _ t3, t3⟩⟩
      · rw [t1] at hol
        simp at hol
        have wa0 : IntKind.i64.wrap (asked : Int) = asked := wrap_nat (by omega)
        rw [← hmost] at t6
        simp [num_run, hol, ws, wa0]
        exact ⟨asked, rfl, _, h9, hxt9.mono (by omega), .inr ⟨by omega, t7, t2, t3, t4, t5⟩⟩
    · rintro l w8 ⟨asked, x, rfl, hox, hxt, hcase⟩
      rcases hcase with h | ⟨_, rfl, h2, h3, h4, h5⟩
      · omega
      · simp
        exact ⟨x, hox, h2, h3, h4, h5⟩
    rintro _ w8 ⟨rfl, x8, hox8, hbu8, hen8, hlp8, hlm8⟩
    simp
    refine hox8.report.mono ?_
    rintro r w9 ⟨⟨hox9, fr9⟩, hr9⟩
    rw [if_pos hen8, hlp8, hlm8] at hr9
    obtain ⟨pv, mv, rfl, hpv, hmv, _⟩ := hr9.val
    have hpc := hpv.1.isCell
    have hmc := hmv.1.isCell
    simp
    refine Run_newSt (cs := #[.int .i64 x8.lj, .int .i64 x8.lv, pv, mv]) rfl rfl (by simp [hpc, hmc]) fun c w10 hc10 hcw10 fr10 _ => ?_
    have dr10 : Fr (fun _ => False) w10 w10.drew := (Fr.refl _ _).drew
    have hox10 := (hox9.fr0 fr10).fr0 dr10
    simp
    refine hox10.isBusy ?_
    rw [hbu8]
    have hb10 : bk w10 bC = some (C.cells nv) := (hox9.fr0 fr10).fr.bk_some hb2 id
    have hN10 : Nodes w10.drew nv C.nodes pvs := (hN.fr0 fr02).fr0 hox10.fr
    have hpl := hpv.1.lenL
    have hml := hmv.1.lenL
    simp [elP] at hpl
    simp at hml
    simp [-ldA_ptr, num_run, Clu.ldA hb10]
    refine (parts_run hN10 hF).mono ?_
    rintro _ w11 ⟨rfl, fr11⟩
    have hox11 := hox10.fr0 fr11
    have hb11 : bk w11 bC = some (C.cells nv) := hox11.fr.bk_some hb2 id
    have hc11 : bk w11 c = _ := fr11.bk_some (w := w10.drew) (l := _) hc10 id
    have hN11 : Nodes w11 nv C.nodes pvs := (hN.fr0 fr02).fr0 hox11.fr
    have hRPi : ((R : Int) * ((rowsF C).length : Int)) = (C.count : Int) * R := by rw [rowsF_len, Int.mul_comm]
    simp [-ldA_ptr, hb11, hb10, Clu.cells, m1, hRPi, hc11, hpl, hml]
    simp [-ldA_ptr, Clu.ldA hb11]
    refine (parts_run hN11 hF).mono ?_
    rintro _ w12 ⟨rfl, fr12⟩
    have hox12 := hox11.fr0 fr12
    have hc12 : bk w12 c = _ := fr12.bk_some (l := _) hc11 id
    have hmv12 : SlW 1 w12 mv (elI ((List.range (rowsF C).length).map fun (n : Nat) => (n : Int))) := (((hmv.fr fr10 fun _ _ => id).fr dr10 fun _ _ => id).fr fr11 fun _ _ => id).fr fr12 fun _ _ => id
    have hlast : Fr (fun _ => False) w w12 := fr02.trans hox12.fr fun _ _ => id
    have hPc : ((rowsF C).length : Int) = (C.count : Int) := by rw [rowsF_len]
    have hmc12 := hmv12.1.lenL
    simp [rowsF_len] at hmc12
    simp [rowsF_len, hc11, hc12]
    refine Run_for C.count (fun i l w' => l = [.int .i64 i] ∧ w' = w12) ⟨rfl, rfl⟩ ?_ ?_
    · rintro i l w13 hi ⟨rfl, rfl⟩
      have ws := wrap_succ (n := i) (by omega)
      have ei : (((List.range (rowsF C).length).map fun (n : Nat) => (n : Int)))[i]? = some (i : Int) := by simp [rowsF_len, hi]
      obtain ⟨q, q1, q2⟩ := hmv12.1.rd1 (elI_some ei) .i64
      simp [hc12, hmc12, hi, q1, q2, ws]
    · rintro l w13 ⟨rfl, rfl⟩
      simp [hc12, hmc12]
      exact hlast

end Go.Proofs.Ytiggkhmopnhfaaa
