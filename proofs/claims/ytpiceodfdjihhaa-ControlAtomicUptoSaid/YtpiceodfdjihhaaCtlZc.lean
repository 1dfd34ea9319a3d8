/-
  Layer 15 (control), part Zc: ControlAtomic: a letter delivered.
-/
import Derived.Test.YtpiceodfdjihhaaCtlZb
namespace Go.Proofs.Ytpiceodfdjihhaa
open Go.Lift
set_option linter.unusedSimpArgs false

theorem inB_one {v : Value} {a c : Nat} (h : inB v a) (h' : inB v c) : a = c := by
  cases v with
  | slice x n c' => cases x with
    | none => exact h.elim
    | some y => simp only [inB_slice] at h h'; omega
  | pointer x => cases x with
    | none => exact h.elim
    | some y => simp only [inB_ptr] at h h'; omega
  | _ => exact h.elim
section
variable {w0 w w' w1 w2 : World} {pb b : Nat} {J : Int} {p : PS} {v : PV} {tg : Nat → Nat} {x : CS}
theorem slw_same {k : Nat} {y : Value} {els : List (List Value)} (h : SlW k w1 y els) (hb : ∀ c, inB y c → bk w2 c = bk w1 c ∧ wr w2 c = wr w1 c) : SlW k w2 y els :=
  ⟨h.1.congr fun c l hc hl => by rw [(hb c hc).1]; exact hl, fun c hc hcap => by rw [(hb c hc).2]; exact h.2 c hc hcap⟩
/-- A node's place. -/
theorem PlM.nodeAt (hm : PlM w0 w pb b J p v tg) {i : Nat} {nd : Nd} (hi : p.nodes[i]? = some nd) :
    ∃ q A B, idxA 8 v.nv (.int .i64 i) = some (.pointer (some ⟨q, A.length, none⟩)) ∧ bk w q = some (A ++ (nd.cells ++ B)) ∧ Go.Lift.wr w q = true ∧ tg q = 2 ∧
      ∀ (w' : World) (nd' : Nd), bk w' q = some (A ++ (nd'.cells ++ B)) → Fr (fun c => c = q) w w' → Go.Lift.wr w' q = true → PlM w0 w' pb b J { p with nodes := p.nodes.set i nd' } v tg := by
  have em : (elNd p.nodes)[i]? = some nd.cells := by rw [elNd_get, hi]; rfl
  obtain ⟨q, o, l, h1, h2, h3, h4, h5⟩ := hm.nodes.1.rd (by decide) em .i64
  obtain ⟨q', o', g1, g2, g3, g4, g5⟩ := hm.nodes.put em .i64
  rw [h1] at g1
  simp only [Option.some.injEq, Value.pointer.injEq, Addr.mk.injEq, and_true] at g1
  obtain ⟨rfl, rfl⟩ := g1
  have hA : (l.take o).length = o := by rw [List.length_take]; omega
  have hl : l = l.take o ++ (nd.cells ++ l.drop (o + 8)) := by
    rw [← h4, ← List.drop_drop, List.take_append_drop, List.take_append_drop]
  refine ⟨q, l.take o, l.drop (o + 8), by rw [hA]; exact h1, by rw [h2, ← hl], g4.2, hm.tn q h5, fun w' nd' hb' f' hw' => ?_⟩
  obtain ⟨_, g6⟩ := g5 0 nd'.cells (Nat.le_refl 8)
  have e1 : setL nd.cells 0 nd'.cells = nd'.cells := setL_all _ _ rfl
  rw [e1, elNd_set, Nat.add_zero] at g6
  refine hm.putNodes (hm.tn q h5) f' (slw_same g6 fun c hc => ?_)
  obtain rfl := inB_one h5 hc
  refine ⟨?_, by rw [hw', wr_sto]; exact g4.2.symm⟩
  rw [hb', bk_sto_eq, h2]
  simp only [Option.map_some, Option.some.injEq]
  rw [setL_eq _ _ _ (show o + nd'.cells.length ≤ l.length from h3)]
  show _ = l.take o ++ nd'.cells ++ l.drop (o + 8)
  rw [List.append_assoc]
theorem elB_put (l : List Bool) (i : Nat) (c : Bool) : (elB l).set i [.bool c] = elB (l.set i c) := by simp [elB]
theorem PlM.stFetched (hm : PlM w0 w pb b J p v tg) {i : Nat} (hi : i < p.fetched.length) (a : Bool) :
    ∃ q o, idxA 1 v.fv (.int .i64 i) = some (.pointer (some ⟨q, o, none⟩)) ∧ (∃ l, bk w q = some l ∧ o + 1 ≤ l.length) ∧ Go.Lift.wr w q = true ∧ PlM w0 (sto w q o [.bool a]) pb b J { p with fetched := p.fetched.set i a } v tg ∧ Fr (fun c => tg c ≠ 0) w (sto w q o [.bool a]) ∧ q ≠ pb ∧ tg q ≠ 0 := by
  have em : (elB p.fetched)[i]? = some [.bool p.fetched[i]] := by rw [elB_get, List.getElem?_eq_getElem hi]; rfl
  obtain ⟨q, o, h1, h2, h3, h4, h5⟩ := hm.fetched.put em .i64
  obtain ⟨_, g2⟩ := h5 0 [.bool a] (by simp)
  have htq : tg q = 4 := hm.tf q h2
  have e0 : (elB p.fetched).set i (setL [.bool p.fetched[i]] 0 [.bool a]) = elB (p.fetched.set i a) := elB_put _ _ _
  rw [e0, Nat.add_zero] at g2
  have f : Fr (fun c => c = q) w (sto w q o [.bool a]) := (Fr.refl (fun c => c = q) w).sto (.inl rfl) _ _
  exact ⟨q, o, h1, h4.1, h4.2, hm.putFetched htq f g2, f.mono fun c hc => by subst hc; omega, fun he => (by subst he; rw [hm.tp] at htq; cases htq), by omega⟩
theorem PlM.stBacked (hm : PlM w0 w pb b J p v tg) {i : Nat} (hi : i < p.backed.length) (a : Bool) :
    ∃ q o, idxA 1 v.bv (.int .i64 i) = some (.pointer (some ⟨q, o, none⟩)) ∧ (∃ l, bk w q = some l ∧ o + 1 ≤ l.length) ∧ Go.Lift.wr w q = true ∧ PlM w0 (sto w q o [.bool a]) pb b J { p with backed := p.backed.set i a } v tg ∧ Fr (fun c => tg c ≠ 0) w (sto w q o [.bool a]) ∧ q ≠ pb ∧ tg q ≠ 0 := by
  have em : (elB p.backed)[i]? = some [.bool p.backed[i]] := by rw [elB_get, List.getElem?_eq_getElem hi]; rfl
  obtain ⟨q, o, h1, h2, h3, h4, h5⟩ := hm.backed.put em .i64
  obtain ⟨_, g2⟩ := h5 0 [.bool a] (by simp)
  have htq : tg q = 5 := hm.tb q h2
  have e0 : (elB p.backed).set i (setL [.bool p.backed[i]] 0 [.bool a]) = elB (p.backed.set i a) := elB_put _ _ _
  rw [e0, Nat.add_zero] at g2
  have f : Fr (fun c => c = q) w (sto w q o [.bool a]) := (Fr.refl (fun c => c = q) w).sto (.inl rfl) _ _
  exact ⟨q, o, h1, h4.1, h4.2, hm.putBacked htq f g2, f.mono fun c hc => by subst hc; omega, fun he => (by subst he; rw [hm.tp] at htq; cases htq), by omega⟩

set_option maxHeartbeats 4000000 in
theorem deliver_run (h : Pl w0 w pb b p v tg) {k : Nat} (hk : k < p.letters.length) (hl : p.letters.length ≤ 549755813888) :
    Run (F.granarylaw15_Play_deliver (.pointer (some ⟨pb, 0, none⟩)) (.int .i64 k)) w fun r w' => r = .bool true ∧ Stepped w0 w' pb b p := by
  unfold F.granarylaw15_Play_deliver
  have em : p.letters[k]? = some p.letters[k] := List.getElem?_eq_getElem hk
  have hmem := List.getElem_mem hk
  generalize p.letters[k] = m at em hmem
  simp
  refine (taken_run h.m h.o em h.fine (by omega)).mono ?_
  rintro _ w1 ⟨rfl, v1, tg1, m1, o1, f1, t1⟩
  have hmf := h.fine m hmem
  have hLm := h.i.letters m hmem
  have i1 : Inv { p with letters := p.letters.eraseIdx k } := h.i.fewer fun z hz => List.mem_of_mem_eraseIdx hz
  have hel : (p.letters.eraseIdx k).length ≤ p.letters.length := List.length_eraseIdx_le _ _
  have hcell := cell11' hmf
  refine Run_newSt rfl rfl (by simp [Ms.cells, hmf.1, hmf.2]) fun e w2 he hew f2 hle2 => ?_
  have he' : bk w2 e = some m.cells := he
  have m2 := m1.fr0 f2
  have o2 := o1.KTfr f2
  have hb2 := m2.blk
  have et : tg1 e = 0 := m1.tag0 hle2
  have epb : e ≠ pb := fun hq => by subst hq; rw [m1.tp] at et; cases et
  have c2 : m.cells[2]? = some (.int .i64 m.to) := rfl
  simp [he', c2]
  by_cases ht : m.to = 64
  · have hn16 := h.i.n16
    have hnl := h.i.n
    have hC : ToC p.x.job p.ver p.nodes m := by
      rcases hLm.road with hr | hr
      · have := hr.to_; omega
      · exact hr
    obtain ⟨nd, s0, s1, s2⟩ := hC.nd
    obtain ⟨i, hi⟩ : ∃ i : Nat, m.sender = i := ⟨m.sender.toNat, by omega⟩
    have hmi : m.sender.toNat = i := by omega
    rw [hmi] at s1
    have hin : i < p.nodes.length := (List.getElem?_eq_some_iff.1 s1).1
    have htake := inv_take i1 hLm ht
    have hfin : (PS.noted { p with letters := p.letters.eraseIdx k } m).fetched.length ≤ 64 := by
      unfold PS.noted
      split
      · simp only
        split
        · simpa using h.f
        · exact h.f
      · exact h.f
    have hlt0 : (PS.noted { p with letters := p.letters.eraseIdx k } m).letters = p.letters.eraseIdx k := by unfold PS.noted; split <;> rfl
    have hnd0 : (PS.noted { p with letters := p.letters.eraseIdx k } m).nodes = p.nodes := by unfold PS.noted; split <;> rfl
    have hat0 : (PS.noted { p with letters := p.letters.eraseIdx k } m).at_ = p.at_ := by unfold PS.noted; split <;> rfl
    have hx0 : (PS.noted { p with letters := p.letters.eraseIdx k } m).x = p.x := by unfold PS.noted; split <;> rfl
    have d0 : m.cells[0]? = some (.int .i64 m.kind) := rfl
    have d1 : m.cells[1]? = some (.int .i64 m.sender) := rfl
    have d4 : m.cells[4]? = some (.int .i64 m.epoch) := rfl
    have d8 : m.cells[8]? = some (.int .i64 m.code) := rfl
    have m2d := m2.fr0 (Fr.refl (fun _ => False) w2).drew
    have o2d := o2.KTfr (Fr.refl (fun _ => False) w2).drew
    refine Run_cond (fun _ => ?_) (fun hh => absurd ht (of_decide_eq_false hh))
    rw [Run_bindO_some, fieldA_ptr, Run_bindO_some, Run_bind, Run_rdM]
    refine ⟨.pointer (some ⟨b, 0, none⟩), by simp [hb2, PS.cells], ?_⟩
    rw [Run_bind, o2.busy, Run_bind]
    refine Run.mono (Q := fun o w3 => o = Out.norm [] ∧ PlM w0 w3 pb b p.x.job (PS.noted { p with letters := p.letters.eraseIdx k } m) v1 tg1 ∧ OwnC w0 w3 b p.x (KT w0 tg1) ∧ bk w3 e = some m.cells) ?_ ?_
    · cases hx : p.x.now with
      | none =>
        have e0 : PS.noted { p with letters := p.letters.eraseIdx k } m = { p with letters := p.letters.eraseIdx k } := by unfold PS.noted; rw [if_neg]; simp [hx]
        rw [e0]
        simp
        exact ⟨m2d, o2d, he'⟩
      | some q0 =>
        have hbz := i1.busy q0 hx
        by_cases hcode : m.code = 0
        · by_cases hep : m.epoch = p.x.job
          · have e0 : PS.noted { p with letters := p.letters.eraseIdx k } m = { p with letters := p.letters.eraseIdx k, fetched := if m.kind = 4 then p.fetched.set m.sender.toNat true else p.fetched, backed := if m.kind = 8 ∧ p.back = true then p.backed.set m.sender.toNat true else p.backed } := by
              unfold PS.noted; rw [if_pos ⟨by show p.x.now.isSome = true; rw [hx]; rfl, hcode, hep⟩]
            rw [e0, hmi]
            have hfl : i < p.fetched.length := by have := hbz.fetched; simp only at this; omega
            have hbl : i < p.backed.length := by have := hbz.backed; simp only at this; omega
            have hk48 : m.kind = 4 ∨ m.kind = 6 ∨ m.kind = 8 := by rcases s2 with h | h | h <;> omega
            simp [he', d8, d4, hcode, hep, hb2, PS.cells, d0, F.granarylaw15_num]
            rcases hk48 with k4 | k6 | k8
            · obtain ⟨q, o, r1, ⟨rl, r2a, r2b⟩, r3, r4, r5, r6, r7⟩ := (m2d.fr0 (Fr.refl (fun _ => False) w2.drew).drew).stFetched (i := i) hfl true
              have r2a' : bk w2 q = some rl := r2a
              have r3' : Go.Lift.wr w2 q = true := r3
              have qe : e ≠ q := fun hq => by subst hq; exact r7 et
              simp [k4, hb2, PS.cells, he', d1, hi, r1, r2a', r2b, r3', bk_sto, qe, Ne.symm r6, d0]
              exact ⟨r4, (o2d.KTfr (Fr.refl (fun _ => False) w2.drew).drew).KTput (m2d.fr0 (Fr.refl (fun _ => False) w2.drew).drew) r5 fun _ h => h⟩
            · simp [k6, hb2, PS.cells, he', d0]
              exact ⟨m2d, o2d⟩
            · cases hbk : p.back with
              | true =>
                obtain ⟨q, o, r1, ⟨rl, r2a, r2b⟩, r3, r4, r5, r6, r7⟩ := (m2d.fr0 (Fr.refl (fun _ => False) w2.drew).drew).stBacked (i := i) hbl true
                have r2a' : bk w2 q = some rl := r2a
                have r3' : Go.Lift.wr w2 q = true := r3
                have qe : e ≠ q := fun hq => by subst hq; exact r7 et
                simp [k8, hbk, hb2, PS.cells, he', d1, hi, r1, r2a', r2b, r3', bk_sto, qe, Ne.symm r6, d0]
                simp only [hbk] at r4
                exact ⟨r4, (o2d.KTfr (Fr.refl (fun _ => False) w2.drew).drew).KTput (m2d.fr0 (Fr.refl (fun _ => False) w2.drew).drew) r5 fun _ h => h⟩
              | false =>
                simp [k8, hbk, hb2, PS.cells, he', d0]
                rw [hbk] at m2d
                exact ⟨m2d, o2d⟩
          · have e0 : PS.noted { p with letters := p.letters.eraseIdx k } m = { p with letters := p.letters.eraseIdx k } := by unfold PS.noted; rw [if_neg]; exact fun hh => hep hh.2.2
            rw [e0]
            simp [he', d8, d4, hcode, hep, hb2, PS.cells, F.granarylaw15_num]
            exact ⟨m2d, o2d⟩
        · have e0 : PS.noted { p with letters := p.letters.eraseIdx k } m = { p with letters := p.letters.eraseIdx k } := by unfold PS.noted; rw [if_neg]; exact fun hh => hcode hh.2.1
          rw [e0]
          simp [he', d8, hcode, F.granarylaw15_num]
          exact ⟨m2d, o2d⟩
    rintro o w3 ⟨rfl, m3, o3, he3⟩
    have hb3 := m3.blk
    have hlm : ldA 11 (.pointer (some ⟨e, 0, none⟩)) w3 = some m.val := by rw [ldA_bk he3 (Nat.le_refl 11)]; rfl
    simp [-ldA_ptr, hb3, PS.cells, hlm]
    have m3d := m3.fr0 (Fr.refl (fun _ => False) w3).drew
    refine ((o3.KTfr (Fr.refl (fun _ => False) w3).drew).take hmf).mono ?_
    rintro _ w4 ⟨l, rfl, o4, s4, n4, f4⟩
    simp only at o4 s4
    have hout : (p.x.takeS m).2.length ≤ 64 := takeS_len h.i.ok m
    simp
    refine (went_run (m3d.call f4) (o4.mono fun c hc => .inl hc) (by rw [hx0]) (job_take p.x m) s4.1 (fun c hc => m3d.tag0 (n4 c hc).1) (fun z hz => (takeS_out hz).fine) htake.1 (by rw [hat0, hnd0, h.i.atl, hnl]) (by rw [hnd0]; omega) hfin (by rw [hlt0]; omega) hout (by rw [hx0])).mono ?_
    rintro _ w5 ⟨rfl, v5, tg5, m5, o5, f5, t5⟩
    refine ⟨rfl, _, v5, tg5, ⟨m5, o5, htake.2, ?_⟩, ?_, ?_⟩
    · exact hfin
    · show ((PS.noted { p with letters := p.letters.eraseIdx k } m).letters ++ (p.x.takeS m).2).length ≤ _
      rw [List.length_append, hlt0]; omega
    · show (p.x.takeS m).1.job ≤ _
      rw [job_take]; omega
  · obtain ⟨hN, hI⟩ := inv_node i1 hLm ht
    obtain ⟨i, hi⟩ : ∃ i : Nat, m.to = i := ⟨m.to.toNat, by have := hN.to_; omega⟩
    have hin : i < p.nodes.length := by have := hN.to_.2; simp only at this; omega
    have hmi : m.to.toNat = i := by omega
    have hnd : p.nodes[i]? = some p.nodes[i] := List.getElem?_eq_getElem hin
    generalize p.nodes[i] = nd at hnd
    obtain ⟨q, A, B, q1, q2, q3, q4, q5⟩ := m2.nodeAt (i := i) (nd := nd) hnd
    have qpb : q ≠ pb := fun hq => by subst hq; rw [m2.tp] at q4; cases q4
    have qe : q ≠ e := fun hq => by subst hq; rw [q4] at et; cases et
    have g7 : (nd.cells ++ B)[7]? = some (.bool nd.deaf) := rfl
    have hq2 : bk w2.drew q = some (A ++ (nd.cells ++ B)) := q2
    have hlm : ldA 11 (.pointer (some ⟨e, 0, none⟩)) w2 = some m.val := by rw [ldA_bk he' (Nat.le_refl 11)]; rfl
    have hkind : m.kind = 3 ∨ m.kind = 5 ∨ m.kind = 7 := by rcases hN.what with h | h | h <;> omega
    have ht' : ¬ (i : Int) = 64 := by omega
    simp [ht, hb2, he', c2, PS.cells, hi, q1, q2, get_app, g7, ht']
    have m2d := m2.fr0 (Fr.refl (fun _ => False) w2).drew
    have o2d := o2.KTfr (Fr.refl (fun _ => False) w2).drew
    cases hdf : nd.deaf with
    | true =>
      simp
      exact ⟨{ p with letters := p.letters.eraseIdx k }, v1, tg1, ⟨m2d, o2d, i1, h.f⟩, by show (p.letters.eraseIdx k).length ≤ _; omega, by show p.x.job ≤ _; omega⟩
    | false =>
      simp [-ldA_ptr, -ld1_ptr, -Run_stM_iff]
      refine ⟨v1.lv, by simp [hb2, PS.cells], _, hlm, ?_⟩
      have hb2dd : bk w2.drew.drew q = some (A ++ (nd.cells ++ B)) := q2
      have q3dd : Go.Lift.wr w2.drew.drew q = true := q3
      refine (does_run hb2dd q3dd hkind).mono ?_
      rintro _ w3 ⟨rfl, hb3, wr3, f3⟩
      have f3' : Fr (fun c => c = q) w2 w3 := (Fr.refl (fun c => c = q) w2).drew.drew.trans f3 fun _ _ h => h
      have m3 := q5 w3 (nd.doesS m).1 hb3 f3' wr3
      have o3 := o2.KTput m2 f3' fun c hc => by subst hc; omega
      have hans : (nd.doesS m).2.fine := by
        unfold Nd.doesS
        split
        · exact ⟨rfl, rfl⟩
        · split <;> exact ⟨rfl, rfl⟩
      have hb3p := m3.blk
      refine letter_run m3 o3 rfl hans (by show (p.letters.eraseIdx k).length ≤ _; omega) fun r w6 w5 hup f6 hb6 hw6 hc6 f5 => ?_
      rw [Run_st1 ⟨(okAt_some hb6).2 ⟨by simp [PS.cells], hw6⟩, hc6⟩]
      obtain ⟨v6, tg6, m6, o6, t6⟩ := hup
      have hb5 := f5.bk_some hb3p id
      refine ⟨by simp [hb3p, PS.cells], by simp [hb5, PS.cells], { p with nodes := p.nodes.set i (nd.doesS m).1, letters := p.letters.eraseIdx k ++ [(nd.doesS m).2] }, v6, tg6, ⟨m6, o6, ?_, h.f⟩, ?_, ?_⟩
      · have := hI nd (by rw [hmi]; exact hnd)
        rw [hmi] at this
        exact this
      · show (p.letters.eraseIdx k ++ [(nd.doesS m).2]).length ≤ _
        rw [List.length_append]; simp; omega
      · show p.x.job ≤ _; omega
end
end Go.Proofs.Ytpiceodfdjihhaa
