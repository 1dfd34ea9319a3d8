/-
  Layer 15 (control), part L: a definition copied; the made one is right.
-/
import Derived.Test.YtpiceodfdjihhaaGreatDoorCtlK
namespace Go.Proofs.YtpiceodfdjihhaaGreatDoor
open Go.Lift
set_option linter.unusedSimpArgs false

theorem setL_all (l cs : List Value) (h : l.length = cs.length) : setL l 0 cs = cs := by
  rw [setL_eq _ _ _ (by omega)]
  simp [h]
section
variable {w : World}
set_option maxHeartbeats 1000000 in
theorem twin_run {C : Clu} {nv : Value} {pvs : List Value} (hN : Nodes w nv C.nodes pvs) (hF : Fits C) :
    Run (F.granarylaw6_twin (C.val nv)) w fun r w' => Fr (fun _ => False) w w' ∧ ∃ nv' pvs', r = C.val nv' ∧ Nodes w' nv' C.nodes pvs' ∧ New w w' nv' ∧ (∀ p ∈ pvs', New w w' p) := by
  unfold F.granarylaw6_twin
  simp [Clu.val]
  refine Run_new fun b w0 hb hwr fr0 hble => ?_
  have hb0 : bk w0 b = some (C.cells nv) := by simpa using hb
  refine Run_new fun x w1 hx hxw fr1 hxle => ?_
  have hb1 : bk w1 b = some (C.cells nv) := fr1.bk_some hb0 id
  have fr01 : Fr (fun _ => False) w w1 := fr0.trans fr1 fun _ _ => id
  have hl := hF.count
  have hp := hF.parts
  have hNl := hN.lenL
  have k22 : (C.cells nv)[22]? = some nv := rfl
  refine Run_for C.nodes.length (fun i l w'' => ∃ lv pvs', l = [lv, .int .i64 i] ∧ Fr (fun _ => False) w1 w'' ∧ pvs'.length = i ∧ SlW 2 w'' lv (elN (C.nodes.take i) pvs') ∧
      (∀ c, inB lv c → w1.heap.size ≤ c ∧ c < w''.heap.size) ∧
      ∀ (j : Nat) (p : Value) (n : Int × List Int), pvs'[j]? = some p → C.nodes[j]? = some n → SlW 1 w'' p (elI n.2) ∧ ∀ c, inB p c → w1.heap.size ≤ c ∧ c < w''.heap.size ∧ ¬ inB lv c) ?_ ?_ ?_
  · exact ⟨_, [], rfl, Fr.refl _ _, rfl, SlW.nil _ _, fun c hc => hc.elim, fun j p n hj => by simp at hj⟩
  · rintro i l w2 hi ⟨lv, pvs', rfl, fr2, hpl, hls, hlb, hps⟩
    have hb2 : bk w2 b = some (C.cells nv) := fr2.bk_some hb1 id
    have fr02 : Fr (fun _ => False) w w2 := fr01.trans fr2 fun _ _ => id
    have hN2 := hN.fr0 fr02
    have hg : C.nodes[i]? = some C.nodes[i] := List.getElem?_eq_getElem hi
    generalize C.nodes[i] = n at hg
    obtain ⟨p, hpi, he, hpv⟩ := hN2.get hg
    obtain ⟨u, u1, u2⟩ := hN2.sl.rdF he .i64
    obtain ⟨z, z1, z2⟩ := u2 1 (by decide)
    have z2' : ld1 z w2 = some p := z2
    obtain ⟨z', z1', z3⟩ := u2 0 (by decide)
    have z3' : ld1 z' w2 = some (.int .i64 n.1) := z3
    have ws := wrap_succ (n := i) (by omega)
    have hnl : n.2.length ≤ 1048576 := by
      have : n.2.length ≤ (C.nodes.map (·.2.length)).sum := mem_le_sum (List.mem_map.2 ⟨n, List.mem_of_getElem? hg, rfl⟩)
      omega
    have dr : Fr (fun _ => False) w2 w2.drew := (Fr.refl _ _).drew
    simp [hb2, k22, hNl, hi, u1, z1, z2', z1', z3']
    refine Run_appM (k := 1) (w := w2.drew) (SlW.nil 1 _) (Sl.fr hpv dr fun _ _ => id) (by decide) rfl (by decide) (by simp [elI]) (by simp; omega) fun qv w3 s3 f3 hin3 => ?_
    have f3' : Fr (fun _ => False) w2 w3 := dr.trans (f3.mono fun c hc => hc.elim) fun _ _ => id
    simp only [List.nil_append] at s3
    have hb3 : bk w3 b = some (C.cells nv) := f3'.bk_some hb2 id
    have hqc := s3.1.isCell
    have hz' : ld1 z' w3 = some (.int .i64 n.1) := by
      have hN3 := hN2.fr0 f3'
      obtain ⟨u', v1, v2⟩ := hN3.sl.rdF he .i64
      rw [u1] at v1; cases v1
      obtain ⟨y, y1, y2⟩ := v2 0 (by decide)
      rw [z1'] at y1; cases y1
      exact y2
    have hqb : ∀ c, inB qv c → w2.heap.size ≤ c ∧ c < w3.heap.size := fun c hc => (hin3 c hc).resolve_left fun h => h.elim
    simp [buildV, fillV_cell, hqc, hb3, k22, hz', ws]
    refine Run_app1 (k := 2) rfl (hls.fr f3' fun _ _ => id) (by decide) rfl (by decide) (by simp [hqc]) (by simp [elN]; omega) fun r w4 hr fr4 hin w5 fr5 => ?_
    have hb5 : bk w5 b = some (C.cells nv) := fr5.bk_some hb3 id
    have f4s := fr4.size
    have f3s := f3'.size
    have f2s := fr2.size
    try simp [ws]
    refine ⟨fr2.trans f3' (fun _ _ => id) |>.new fr4 fun c hc => (hlb c hc).1, pvs' ++ [qv], by simp [hpl], ?_, fun c hc => ?_, ?_⟩
    · have e : elN (C.nodes.take (i + 1)) (pvs' ++ [qv]) = elN (C.nodes.take i) pvs' ++ [[.int .i64 n.1, qv]] := by
        unfold elN
        rw [List.take_add_one, hg]
        rw [List.zipWith_append (by rw [List.length_take, hpl]; omega)]
        rfl
      rw [e]; exact hr
    · rcases hin c hc with h | h
      · have := hlb c h; omega
      · omega
    · intro j q a d hj hn
      by_cases hji : j < i
      · rw [List.getElem?_append_left (by omega)] at hj
        obtain ⟨h1, h2⟩ := hps j q (a, d) hj hn
        refine ⟨(h1.fr f3' fun _ _ => id).fr fr4 fun c hc h => (h2 c hc).2.2 h, fun c hc => ?_⟩
        have := h2 c hc
        refine ⟨this.1, by omega, fun h => ?_⟩
        rcases hin c h with h | h
        · exact this.2.2 h
        · omega
      · have hjl := (List.getElem?_eq_some_iff.1 hj).1
        simp at hjl
        obtain rfl : j = i := by omega
        rw [List.getElem?_append_right (by omega), hpl] at hj
        simp at hj
        subst hj
        rw [hg] at hn
        cases hn
        refine ⟨s3.fr fr4 fun c hc h => ?_, fun c hc => ?_⟩
        · have := hqb c hc; have := hlb c h; omega
        · have h1 := hqb c hc
          refine ⟨by omega, by omega, fun h => ?_⟩
          rcases hin c h with h | h
          · have := hlb c h; omega
          · omega
  · rintro l w2 ⟨lv, pvs', rfl, fr2, hpl, hls, hlb, hps⟩
    have hb2 : bk w2 b = some (C.cells nv) := fr2.bk_some hb1 id
    have hx2 : bk w2 x = _ := fr2.bk_some (l := _) hx id
    have hxw2 : wr w2 x = true := by rw [fr2.wr (bk_lt hx) id]; exact hxw
    have hlc := hls.1.isCell
    have hclen : (C.cells nv).length = 23 := rfl
    simp only [List.take_length] at hls
    simp [-ldA_ptr, hb2, k22, hNl, Clu.ldA hb2]
    refine Run_newSt rfl rfl (Clu.all_cell C hN.sl.isCell) fun e w3 he hew fr3 hle3 => ?_
    have he3 : bk w3 e = some (C.cells nv) := he
    have hx3 : bk w3 x = _ := fr3.bk_some (l := _) hx2 id
    have hxw3 : wr w3 x = true := by rw [fr3.wr (bk_lt hx2) id]; exact hxw2
    have lx := bk_lt hx
    have f2s := fr2.size
    have f3s := fr3.size
    have f0s := fr0.size
    have f1s := fr1.size
    have hxe : x ≠ e := by omega
    have eset : (C.cells nv).set 22 lv = C.cells lv := rfl
    have etk : List.take 23 (C.cells lv) = C.cells lv := rfl
    have hclen' : (C.cells lv).length = 23 := rfl
    simp [he3, hew, hclen, hlc, cells_isCell hlc, eset, etk, hclen', hx3, hxw3, bk_sto, hxe]
    have hall := Clu.all_cell C hlc
    simp only [List.all_eq_true] at hall
    have g1 : Fr (fun c => c = e ∨ c = x) w3 (sto (sto w3 e 22 [lv]) x 0 (C.cells lv)) := ((Fr.refl (fun c => c = e ∨ c = x) w3).sto (.inl (.inl rfl)) _ _).sto (.inl (.inr rfl)) _ _
    have hgs : (sto (sto w3 e 22 [lv]) x 0 (C.cells lv)).heap.size = w3.heap.size := by simp
    have hne : ∀ c, w1.heap.size ≤ c → c < w2.heap.size → ¬ (c = e ∨ c = x) := fun c hc hc' h => by omega
    have G1 : Fr (fun _ => False) w (sto (sto w3 e 22 [lv]) x 0 (C.cells lv)) := ((fr01.trans fr2 fun _ _ => id).trans fr3 fun _ _ => id).new g1 fun c hc => by omega
    have G2 : SlW 2 (sto (sto w3 e 22 [lv]) x 0 (C.cells lv)) lv (elN C.nodes pvs') := (hls.fr fr3 fun _ _ => id).fr g1 fun c hc => hne c (hlb c hc).1 (hlb c hc).2
    have esl : ∀ l : List Value, l.length = 23 → setL l 0 (C.cells lv) = C.cells lv := fun l hl => setL_all l _ (by omega)
    rw [esl _ rfl]
    refine ⟨fun i hi => hall _ (by simp), _, ⟨by omega, rfl⟩, G1, lv, by rw [etk], pvs', ⟨hpl, G2.1, fun i n p hn hp => ?_⟩, fun c hc => ?_, fun p hp c hc => ?_⟩
    · exact (((hps i p n hp hn).1.fr fr3 fun _ _ => id).fr g1 fun c hc => hne c ((hps i p n hp hn).2 c hc).1 ((hps i p n hp hn).2 c hc).2.1).1
    · have := hlb c hc
      rw [hgs]; omega
    · obtain ⟨i, hi⟩ := List.mem_iff_getElem?.1 hp
      have hil : i < C.nodes.length := by have := (List.getElem?_eq_some_iff.1 hi).1; omega
      have := (hps i p _ hi (List.getElem?_eq_getElem hil)).2 c hc
      rw [hgs]; omega
end

theorem sortedP_nil : sortedP [] := fun i a b h => by simp at h
theorem sortedP_one (n : Int) : sortedP [n] := fun i a b h h' => by simp at h'
theorem fold_rest (c : Nat) (h : List Int) : ∀ (m k : Nat), ((List.replicate m ((0 : Int), ([] : List Int))).zipIdx k).foldlM (nodeH c) h = some h
  | 0, k => rfl
  | m + 1, k => by
    rw [List.replicate_succ, List.zipIdx_cons, List.foldlM_cons]
    have e : nodeH c h ((0, []), k) = some h := by
      unfold nodeH
      rw [if_pos sortedP_nil]
      rfl
    rw [e]
    exact fold_rest c h m (k + 1)
theorem made_ok {n : Nat} {r l p : Int} (hn : 1 ≤ n ∧ n ≤ 16) (hr : 1 ≤ r ∧ r ≤ 1024) (hl : 1 ≤ l ∧ l ≤ 64) (hp : 1 ≤ p ∧ p ≤ 65536) : checkF (madeC n r l p) = 0 := by
  obtain ⟨m, rfl⟩ : ∃ m, n = m + 1 := ⟨n - 1, by omega⟩
  have hname : nameP (madeC (m + 1) r l p).store := by
    show nameP storeB
    refine ⟨by decide, by decide, fun i c hc => ?_⟩
    have hc' : (#[97, 45, 115, 116, 111, 114, 101] : Array UInt8)[i]? = some c := hc
    have hi : i < 7 := by
      rcases Nat.lt_or_ge i 7 with h | h
      · exact h
      · rw [Array.getElem?_eq_none (by simpa using h)] at hc'; cases hc'
    rcases (by omega : i = 0 ∨ i = 1 ∨ i = 2 ∨ i = 3 ∨ i = 4 ∨ i = 5 ∨ i = 6) with rfl | rfl | rfl | rfl | rfl | rfl | rfl <;> (simp at hc'; subst hc'; decide)
  have hset : settingP (madeC (m + 1) r l p) := by
    intro i q x hq hx
    have hi : i < 21 := (List.getElem?_eq_some_iff.1 hq).1
    rcases (by omega : i = 0 ∨ i = 1 ∨ i = 2 ∨ i = 3 ∨ i = 4 ∨ i = 5 ∨ i = 6 ∨ i = 7 ∨ i = 8 ∨ i = 9 ∨ i = 10 ∨ i = 11 ∨ i = 12 ∨ i = 13 ∨ i = 14 ∨ i = 15 ∨ i = 16 ∨ i = 17 ∨ i = 18 ∨ i = 19 ∨ i = 20) with
      rfl | rfl | rfl | rfl | rfl | rfl | rfl | rfl | rfl | rfl | rfl | rfl | rfl | rfl | rfl | rfl | rfl | rfl | rfl | rfl | rfl <;>
      (simp [lims] at hq; simp [Clu.nums, madeC] at hx; subst hq hx; simp; try omega)
  have hlen : (madeC (m + 1) r l p).nodes.length = m + 1 := by
    show (madeN (m + 1)).length = m + 1
    exact madeN_len _
  have hz : zoneP (madeC (m + 1) r l p) := by
    intro x hx
    rcases List.mem_cons.1 hx with rfl | hx
    · exact ⟨Int.le_refl _, by decide⟩
    · rw [(List.mem_replicate.1 hx).2]; exact ⟨Int.le_refl _, by decide⟩
  have hcount : (madeC (m + 1) r l p).count = 1 := by
    show ((madeN (m + 1)).map (·.2.length)).sum = 1
    simp [madeN]
  have hhome : homesF (madeC (m + 1) r l p) = some [0] := by
    unfold homesF
    rw [hcount, if_pos (by decide)]
    show (((0, [0]) :: List.replicate m ((0 : Int), ([] : List Int))).zipIdx).foldlM (nodeH 1) (List.replicate 1 (-1)) = some [0]
    rw [List.zipIdx_cons, List.foldlM_cons]
    have e : nodeH 1 (List.replicate 1 (-1)) ((0, [0]), 0) = some [0] := by
      unfold nodeH
      rw [if_pos (sortedP_one 0)]
      simp [putH]
    rw [e]
    exact fold_rest 1 [0] m 1
  have hfull : 1 ≤ fullOf (madeC (m + 1) r l p).nodes := by
    show 1 ≤ fullOf ((0, [0]) :: List.replicate m ((0 : Int), ([] : List Int)))
    simp [fullOf]
  unfold checkF
  rw [if_neg (fun h => h hname), if_neg (fun h => h hset), if_neg (by simp [madeC]), if_neg (by rw [hlen]; omega), if_neg (fun h => h hz), hhome]
  simp only
  have hrep : (madeC (m + 1) r l p).replicas = 1 := rfl
  rw [if_neg (by rw [hrep]; omega), if_neg (by simp [madeC])]
theorem made_fits (n : Nat) (hn : n ≤ 16) (r l p : Int) : Fits (madeC n r l p) := by
  refine ⟨by show (madeN n).length ≤ _; rw [madeN_len]; omega, ?_⟩
  show ((madeN n).map (·.2.length)).sum ≤ 1048576
  cases n with
  | zero => simp [madeN]
  | succ m => simp [madeN]
end Go.Proofs.YtpiceodfdjihhaaGreatDoor
