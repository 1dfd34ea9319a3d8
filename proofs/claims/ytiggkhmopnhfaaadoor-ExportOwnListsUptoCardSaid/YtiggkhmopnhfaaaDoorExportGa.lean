/-
  Layer 21 (export), part Ga: the law's own small functions.
-/
import Derived.Test.YtiggkhmopnhfaaaDoorExportF
import Derived.Test.YtiggkhmopnhfaaaDoorGZ
namespace Go.Proofs.YtiggkhmopnhfaaaDoor
open Go.Lift
set_option linter.unusedSimpArgs false

theorem beyond_run {w : World} {n : Nat} (h : n ≤ 2147483647) {Q : Value → World → Prop} : Run (F.granaryref21_Beyond (.int .i64 n)) w Q ↔ Q (.bool false) w := by
  unfold F.granaryref21_Beyond
  have : ¬ ((2147483647 : Int) < n) := by omega
  simp [this]
theorem num_run {w : World} {v : Value} {Q : Value → World → Prop} : Run (F.granarylaw21_num v) w Q ↔ Q v w := by
  unfold F.granarylaw21_num
  simp

theorem Clu.ldA {C : Clu} {nv : Value} {w : World} {b : Nat} (h : bk w b = some (C.cells nv)) : Go.Lift.ldA 23 (.pointer (some ⟨b, 0, none⟩)) w = some (C.val nv) := by
  rw [ldA_bk h (by simp [Clu.cells])]; rfl

theorem cluster_run {w : World} {C : Clu} {nv : Value} {pvs : List Value} (hN : Nodes w nv C.nodes pvs) (hF : Fits C) :
    Run (F.granarylaw21_cluster (C.val nv)) w fun r w' => Fr (fun _ => False) w w' ∧ ∃ nv' pvs', r = C.val nv' ∧ Nodes w' nv' C.nodes pvs' ∧ SlW 2 w' nv' (elN C.nodes pvs') ∧ New w w' nv' ∧
      (∀ (i : Nat) (p : Value) (l : List Int), pvs'[i]? = some p → (C.nodes.map (·.2))[i]? = some l → SlW 1 w' p (elI l) ∧ New w w' p ∧ ∀ c, inB p c → ¬ inB nv' c) := by
  unfold F.granarylaw21_cluster
  simp [Clu.val]
  refine Run_new fun b w0 hb hwr fr0 hble => ?_
  have hb0 : bk w0 b = some (C.cells nv) := by simpa using hb
  refine Run_new fun x w1 hx hxw fr1 hxle => ?_
  have hb1 : bk w1 b = some (C.cells nv) := fr1.bk_some hb0 id
  have hbw1 : wr w1 b = true := by rw [fr1.wr (bk_lt hb0) id]; exact hwr
  have fr01 : Fr (fun _ => False) w w1 := fr0.trans fr1 fun _ _ => id
  have hl := hF.count
  have hp := hF.parts
  have hbl := bk_lt hb1
  have hxl := bk_lt hx
  have hbx : b ≠ x := by have := bk_lt hb0; omega
  have hNl := hN.lenL
  refine Run_for C.nodes.length (fun i l w'' => ∃ lv pvs', l = [lv, .int .i64 i] ∧ Fr (fun _ => False) w1 w'' ∧ pvs'.length = i ∧ SlW 2 w'' lv (elN (C.nodes.take i) pvs') ∧
      (∀ c, inB lv c → w1.heap.size ≤ c ∧ c < w''.heap.size) ∧
      ∀ (j : Nat) (p : Value) (n : Int × List Int), pvs'[j]? = some p → C.nodes[j]? = some n → SlW 1 w'' p (elI n.2) ∧ ∀ c, inB p c → w1.heap.size ≤ c ∧ c < w''.heap.size ∧ ¬ inB lv c) ?_ ?_ ?_
  · exact ⟨_, [], rfl, Fr.refl _ _, rfl, SlW.nil _ _, fun c hc => hc.elim, fun j p n hj => by simp at hj⟩
  · rintro i l w2 hi ⟨lv, pvs', rfl, fr2, hpl, hls, hlb, hps⟩
    have hb2 : bk w2 b = some (C.cells nv) := fr2.bk_some hb1 id
    have fr02 : Fr (fun _ => False) w w2 := fr01.trans fr2 fun _ _ => id
    have hN2 := hN.fr0 fr02
    have hg : C.nodes[i]? = some C.nodes[i] := List.getElem?_eq_getElem hi
    generalize C.nodes[i] = n at hg
    obtain ⟨p, hpi, he, hpv⟩ := hN2.get hg
    obtain ⟨u, u1, u2⟩ := hN2.sl.rdF he .i64
    have ws := wrap_succ (n := i) (by omega)
    have hnl : n.2.length ≤ 1048576 := by
      have : n.2.length ≤ (C.nodes.map (·.2.length)).sum := mem_le_sum (List.mem_map.2 ⟨n, List.mem_of_getElem? hg, rfl⟩)
      omega
    have f2s := fr2.size
    simp [hb2, Clu.cells, hNl, hi]
    refine Run_for n.2.length (fun k l w'' => ∃ qv, l = [qv, .int .i64 k] ∧ Fr (fun _ => False) w2 w'' ∧ SlW 1 w'' qv (elI (n.2.take k)) ∧ ∀ c, inB qv c → w2.heap.size ≤ c ∧ c < w''.heap.size) ?_ ?_ ?_
    · exact ⟨_, rfl, Fr.refl _ _, SlW.nil _ _, fun c hc => hc.elim⟩
    · rintro k l w3 hk ⟨qv, rfl, fr3, hqs, hqb⟩
      have hb3 : bk w3 b = some (C.cells nv) := fr3.bk_some hb2 id
      have hN3 := hN2.fr0 fr3
      obtain ⟨u, u1, u2⟩ := hN3.sl.rdF he .i64
      obtain ⟨z, z1, z2⟩ := u2 1 (by decide)
      have z2' : ld1 z w3 = some p := z2
      have hpv3 := hpv.fr0 fr3
      have hpl3 := hpv.lenL
      simp at hpl3
      have ek : n.2[k]? = some n.2[k] := List.getElem?_eq_getElem hk
      generalize n.2[k] = a at ek
      obtain ⟨q, q1, q2⟩ := hpv3.rd1 (elI_some ek) .i64
      have wk := wrap_succ (n := k) (by omega)
      simp [hb3, Clu.cells, u1, z1, z2', hpl3, hk, q1, q2]
      refine Run_app1 (k := 1) rfl hqs (by decide) rfl (by decide) rfl (by simp; omega) fun r w4 hr fr4 hin _ _ => ?_
      change SlW 1 w4 r (elI _ ++ [[Value.int .i64 a]]) at hr
      rw [elI_app] at hr
      have f3s := fr3.size
      have f4s := fr4.size
      simp [wk]
      refine ⟨fr3.new fr4 fun c hc => (hqb c hc).1, ?_, fun c hc => ?_⟩
      · rw [List.take_add_one, ek]; exact hr
      · rcases hin c hc with h | h
        · have := hqb c h; omega
        · omega
    · rintro l w3 ⟨qv, rfl, fr3, hqs, hqb⟩
      simp only [List.take_length] at hqs
      have hb3 : bk w3 b = some (C.cells nv) := fr3.bk_some hb2 id
      have hN3 := hN2.fr0 fr3
      obtain ⟨u, u1, u2⟩ := hN3.sl.rdF he .i64
      obtain ⟨z, z1, z2⟩ := u2 1 (by decide)
      have z2' : ld1 z w3 = some p := z2
      obtain ⟨z', z1', z3⟩ := u2 0 (by decide)
      have z3' : ld1 z' w3 = some (.int .i64 n.1) := z3
      have hpl3 := hpv.lenL
      simp at hpl3
      have hqc := hqs.1.isCell
      have f3s := fr3.size
      simp [hb3, Clu.cells, u1, z1, z2', hpl3, z1', z3', buildV, fillV_cell, hqc]
      refine Run_app1 (k := 2) rfl (hls.fr fr3 fun _ _ => id) (by decide) rfl (by decide) (by simp [hqc]) (by simp [elN]; omega) fun r w4 hr fr4 hin _ _ => ?_
      have f4s := fr4.size
      simp [ws]
      refine ⟨fr2.trans fr3 (fun _ _ => id) |>.new fr4 fun c hc => (hlb c hc).1, pvs' ++ [qv], by simp [hpl], ?_, fun c hc => ?_, ?_⟩
      · have e : elN (C.nodes.take (i + 1)) (pvs' ++ [qv]) = elN (C.nodes.take i) pvs' ++ [[.int .i64 n.1, qv]] := by
          unfold elN
          rw [List.take_add_one, hg]
          rw [List.zipWith_append (by rw [List.length_take, hpl]; omega)]
          rfl
        rw [e]; exact hr
      · rcases hin c hc with h | h
        · have := hlb c h; omega
        · omega
      · intro j q a d hj hn
        by_cases hji : j < i
        · rw [List.getElem?_append_left (by omega)] at hj
          obtain ⟨h1, h2⟩ := hps j q (a, d) hj hn
          refine ⟨(h1.fr fr3 fun _ _ => id).fr fr4 fun c hc h => (h2 c hc).2.2 h, fun c hc => ?_⟩
          have := h2 c hc
          refine ⟨this.1, by omega, fun h => ?_⟩
          rcases hin c h with h | h
          · exact this.2.2 h
          · omega
        · have hjl := (List.getElem?_eq_some_iff.1 hj).1
          simp at hjl
          obtain rfl : j = i := by omega
          rw [List.getElem?_append_right (by omega), hpl] at hj
          simp at hj
          subst hj
          rw [hg] at hn
          cases hn
          refine ⟨hqs.fr fr4 fun c hc h => ?_, fun c hc => ?_⟩
          · have := hqb c hc; have := hlb c h; omega
          · have h1 := hqb c hc
            refine ⟨by omega, by omega, fun h => ?_⟩
            rcases hin c h with h | h
            · have := hlb c h; omega
            · omega
  · rintro l w2 ⟨lv, pvs', rfl, fr2, hpl, hls, hlb, hps⟩
    have hb2 : bk w2 b = some (C.cells nv) := fr2.bk_some hb1 id
    have hbw2 : wr w2 b = true := by rw [fr2.wr hbl id]; exact hbw1
    have hx2 : bk w2 x = _ := fr2.bk_some (l := _) hx id
    have hxw2 : wr w2 x = true := by rw [fr2.wr hxl id]; exact hxw
    have hlc := hls.1.isCell
    have f2s := fr2.size
    have f0s := fr0.size
    have f1s := fr1.size
    simp only [List.take_length] at hls
    simp [hb2, hbw2, Clu.cells, hNl, cells_isCell hlc, hlc, hx2, hxw2, bk_sto_ne hbx.symm]
    have g1 : Fr (fun c => c = b ∨ c = x) w2 (sto (sto w2 b 22 [lv]) x 0 (C.cells lv)) := ((Fr.refl (fun c => c = b ∨ c = x) w2).sto (.inl (.inl rfl)) _ _).sto (.inl (.inr rfl)) _ _
    have hne : ∀ c, w1.heap.size ≤ c → ¬ (c = b ∨ c = x) := fun c hc h => by omega
    have hcl : (C.cells lv).all isCell = true := by simp [Clu.cells, hlc]
    have hgs := g1.size
    have hg2 : w2.heap.size = (sto (sto w2 b 22 [lv]) x 0 (C.cells lv)).heap.size := by simp
    have G1 : Fr (fun _ => False) w (sto (sto w2 b 22 [lv]) x 0 (C.cells lv)) := (fr01.trans fr2 fun _ _ => id).new g1 fun c hc => by omega
    have G2 : SlW 2 (sto (sto w2 b 22 [lv]) x 0 (C.cells lv)) lv (elN C.nodes pvs') := hls.fr g1 fun c hc => hne c (hlb c hc).1
    have G3 : ∀ (i : Nat) (p : Value) (l : List Int), pvs'[i]? = some p → (C.nodes.map (·.2))[i]? = some l → SlW 1 (sto (sto w2 b 22 [lv]) x 0 (C.cells lv)) p (elI l) ∧ New w (sto (sto w2 b 22 [lv]) x 0 (C.cells lv)) p ∧ ∀ c, inB p c → ¬ inB lv c := by
      intro i p l hp hl
      rw [List.getElem?_map] at hl
      cases hn : C.nodes[i]? with
      | none => rw [hn] at hl; cases hl
      | some n =>
        rw [hn] at hl; cases hl
        obtain ⟨h1, h2⟩ := hps i p n hp hn
        refine ⟨h1.fr g1 fun c hc => hne c (h2 c hc).1, fun c hc => ?_, fun c hc => (h2 c hc).2.2⟩
        have := h2 c hc
        omega
    have G4 : New w (sto (sto w2 b 22 [lv]) x 0 (C.cells lv)) lv := fun c hc => by have := hlb c hc; omega
    have G5 : Nodes (sto (sto w2 b 22 [lv]) x 0 (C.cells lv)) lv C.nodes pvs' := ⟨hpl, G2.1, fun i n p hn hp => (G3 i p n.2 hp (by simp [hn])).1.1⟩
    exact ⟨fun i hi => List.all_eq_true.1 hcl _ (List.getElem_mem (l := C.cells lv) hi), G1, pvs', G5, G2, G4, fun i p l hp a hl => G3 i p l hp (by simp [hl])⟩

end Go.Proofs.YtiggkhmopnhfaaaDoor
