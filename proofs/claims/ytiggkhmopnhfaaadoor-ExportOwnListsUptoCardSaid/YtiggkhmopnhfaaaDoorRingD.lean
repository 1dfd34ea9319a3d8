/-
  Layer 6 (ring), part D: the homes of the partitions.
-/
import Derived.Test.YtiggkhmopnhfaaaDoorRingC
namespace Go.Proofs.YtiggkhmopnhfaaaDoor
open Go.Lift
set_option linter.unusedSimpArgs false

open Classical in
noncomputable def putH (count : Nat) (i : Nat) (home : List Int) (p : Int) : Option (List Int) :=
  if p < 0 then none else if p ≥ count then none else if home.getD p.toNat 0 ≥ 0 then none else some (home.set p.toNat i)
open Classical in
noncomputable def nodeH (count : Nat) (home : List Int) (x : (Int × List Int) × Nat) : Option (List Int) :=
  if sortedP x.1.2 then x.1.2.foldlM (putH count x.2) home else none
def Clu.count (C : Clu) : Nat := (C.nodes.map (·.2.length)).sum
noncomputable def homesF (C : Clu) : Option (List Int) :=
  if 1 ≤ C.count ∧ C.count ≤ 64 then C.nodes.zipIdx.foldlM (nodeH C.count) (List.replicate C.count (-1)) else none

theorem foldlM_take {α β : Type} (f : β → α → Option β) {l : List α} {i : Nat} {a : α} (h : l[i]? = some a) (s : β) : (l.take (i + 1)).foldlM f s = ((l.take i).foldlM f s).bind fun s => f s a := by
  obtain ⟨hi, rfl⟩ := List.getElem?_eq_some_iff.1 h
  rw [List.take_succ_eq_append_getElem hi, List.foldlM_append]
  simp
theorem foldlM_none {α β : Type} (f : β → α → Option β) {l : List α} (i : Nat) {s : β} (h : (l.take i).foldlM f s = none) : l.foldlM f s = none := by
  rw [← List.take_append_drop i l, List.foldlM_append, h]
  rfl
theorem putH_len {c i : Nat} {h h' : List Int} {p : Int} (e : putH c i h p = some h') : h'.length = h.length := by
  unfold putH at e
  split at e
  · cases e
  · split at e
    · cases e
    · split at e
      · cases e
      · cases e; simp
theorem foldH_len {c i : Nat} : ∀ {l : List Int} {h h' : List Int}, l.foldlM (putH c i) h = some h' → h'.length = h.length
  | [], h, h', e => by cases e; rfl
  | p :: l, h, h', e => by
    simp only [List.foldlM_cons] at e
    cases e1 : putH c i h p with
    | none => simp [e1] at e
    | some h1 => simp [e1] at e; rw [foldH_len e, putH_len e1]
theorem elI_some {l : List Int} {i : Nat} {n : Int} (h : l[i]? = some n) : (elI l)[i]? = some [.int .i64 n] := by rw [elI_get, h]; rfl
theorem elI_set (l : List Int) (i : Nat) (n : Int) : (elI l).set i [.int .i64 n] = elI (l.set i n) := by simp [elI, List.map_set]

theorem sum_take_le (l : List Nat) (i : Nat) : (l.take i).sum ≤ l.sum := by
  conv => rhs; rw [← List.take_append_drop i l, List.sum_append]
  omega
theorem mem_le_sum {l : List Nat} {x : Nat} (h : x ∈ l) : x ≤ l.sum := by
  induction l with
  | nil => cases h
  | cons y l ih =>
    simp only [List.sum_cons]
    rcases List.mem_cons.1 h with rfl | h
    · omega
    · have := ih h; omega

theorem homes_run {w : World} {C : Clu} {nv : Value} {pvs : List Value} (hN : Nodes w nv C.nodes pvs) (hF : Fits C) :
    Run (F.ring_homes (C.val nv)) w fun r w' => Fr (fun _ => False) w w' ∧
      match homesF C with
      | some home => ∃ hv, r = .tuple #[hv, .int .i64 0] ∧ SlW 1 w' hv (elI home) ∧ New w w' hv
      | none => r = .tuple #[.slice none 0 0, .int .i64 66] := by
  unfold F.ring_homes
  simp [Clu.val]
  refine Run_new fun b w0 hb _ fr0 _ => ?_
  have hN0 := hN.fr0 fr0
  simp [hb, Clu.cells, hN.lenL]
  have hl := hF.count
  have hp := hF.parts
  refine Run_for C.nodes.length (fun i l w'' => l = [.int .i64 (((C.nodes.take i).map (·.2.length)).sum : Nat), .int .i64 i] ∧ Fr (fun _ => False) w0 w'') ⟨by simp, Fr.refl _ _⟩ ?_ ?_
  · rintro i l w'' hi ⟨rfl, fr⟩
    have hN' := hN0.fr0 fr
    have hg : C.nodes[i]? = some C.nodes[i] := List.getElem?_eq_getElem hi
    generalize C.nodes[i] = n at hg
    obtain ⟨p, _, he, hpv⟩ := hN'.get hg
    obtain ⟨q, q1, q2⟩ := hN'.sl.rdA (by decide) he .i64
    have hs : ((C.nodes.take (i + 1)).map (·.2.length)).sum = ((C.nodes.take i).map (·.2.length)).sum + n.2.length := by
      rw [List.take_add_one, hg]; simp
    have hb : ((C.nodes.take (i + 1)).map (·.2.length)).sum ≤ (C.nodes.map (·.2.length)).sum := by rw [List.map_take]; exact sum_take_le _ _
    have w1 := wrap_add (n := ((C.nodes.take i).map (·.2.length)).sum) (m := n.2.length) (by omega)
    have w2 := wrap_succ (n := i) (by omega)
    have hpl := hpv.lenL
    rw [hs]
    generalize ((C.nodes.take i).map (·.2.length)).sum = m at w1 hs
    simp at hpl
    simp [hi, q1, q2, w1, w2]
    refine Run_newSt rfl rfl (by simp [hpv.isCell]) fun b w3 hb _ fr3 _ => ?_
    simp [hb, hpl, w1]
    exact fr.trans fr3 fun _ _ => id
  · rintro l w'' ⟨rfl, fr⟩
    have fr1 : Fr (fun _ => False) w w'' := fr0.trans fr fun _ _ => id
    have hb1 : bk w'' b = some (C.cells nv) := fr.bk_some hb id
    change Run _ w'' _
    generalize hcnt : (C.nodes.map (·.2.length)).sum = count at hp
    have hcnt' : C.count = count := hcnt
    simp [within_run, hcnt]
    by_cases hw : (1 : Int) ≤ count ∧ (count : Int) ≤ 64
    case neg =>
      have : homesF C = none := by unfold homesF; rw [if_neg (by rw [hcnt']; omega)]
      by_cases h1 : (1 : Int) ≤ count
      · have h2 : ¬ (count : Int) ≤ 64 := fun h2 => hw ⟨h1, h2⟩
        simp [h1, h2, this, fr1]
      · simp [h1, this, fr1]
    have hw' : 1 ≤ C.count ∧ C.count ≤ 64 := by rw [hcnt']; omega
    simp [hw]
    refine Run_mksM (n := count) (c := count) rfl (Nat.le_refl _) (by omega) (by omega) fun hv w1 hs1 fr2 new1 => ?_
    have hs1' : SlW 1 w1 hv (elI (List.replicate count 0)) := by simpa [elI] using hs1
    have hlen := hs1'.1.lenL
    simp at hlen
    simp [hlen]
    have fr3 : Fr (fun _ => False) w w1 := fr1.trans fr2 fun _ _ => id
    have hnew : ∀ c, inB hv c → w.heap.size ≤ c := fun c hc => Nat.le_trans fr1.size (new1 c hc).1
    have hne : ∀ c, inB hv c → b ≠ c := fun c hc => by have := (new1 c hc).1; have := bk_lt hb1; omega
    refine Run_for count (fun i l w'' => l = [.int .i64 i] ∧ ∃ home, SlW 1 w'' hv (elI home) ∧ home.length = count ∧ (∀ j, j < i → home[j]? = some (-1)) ∧ Fr (fun _ => False) w w'' ∧ bk w'' b = some (C.cells nv))
      ⟨rfl, _, hs1', by simp, fun j hj => absurd hj (Nat.not_lt_zero _), fr3, fr2.bk_some hb1 id⟩ ?_ ?_
    · rintro i l w2 hi ⟨rfl, home, hs2, hl2, hj2, fr4, hb4⟩
      have hg := elI_some (List.getElem?_eq_getElem (l := home) (i := i) (by omega))
      obtain ⟨c, o, e1, hin, hlt, hok, hput⟩ := hs2.put hg .i64
      obtain ⟨hok', hput⟩ := hput 0 [.int .i64 (-1)] (by simp)
      have hok1 : okAt w2 c o 1 := hok
      have hcb := hne c hin
      have ws := wrap_succ (n := i) (by omega)
      simp [hi, e1, hok1, ws]
      refine ⟨home.set i (-1), ?_, by simpa using hl2, ?_, fr4.sto (.inr (hnew c hin)) _ _, ?_⟩
      · rw [← elI_set]
        exact hput
      · intro j hj
        by_cases hji : j = i
        · subst hji; rw [List.getElem?_set_self (by omega)]
        · rw [List.getElem?_set_ne (by omega)]; exact hj2 j (by omega)
      · rw [bk_sto_ne hcb]; exact hb4
    · rintro l w2 ⟨rfl, home, hs2, hl2, hj2, fr4, hb4⟩
      obtain rfl : home = List.replicate count (-1) := by
        apply List.ext_getElem?
        intro j
        by_cases hj : j < count
        · rw [hj2 j hj]; simp [hj]
        · rw [List.getElem?_eq_none (by omega), List.getElem?_eq_none (by simp; omega)]
      simp [hb4, Clu.cells, hN.lenL]
      have hhomes : homesF C = C.nodes.zipIdx.foldlM (nodeH count) (List.replicate count (-1)) := by unfold homesF; rw [if_pos hw', hcnt']
      rw [hhomes]
      refine Run_for C.nodes.length (fun i l w'' => l = [.int .i64 i] ∧ ∃ home, (C.nodes.zipIdx.take i).foldlM (nodeH count) (List.replicate count (-1)) = some home ∧ home.length = count ∧ SlW 1 w'' hv (elI home) ∧ Fr (fun _ => False) w w'')
        ⟨rfl, _, rfl, hl2, hs2, fr4⟩ ?_ ?_
      · rintro i l w3 hi ⟨rfl, home, hf3, hl3, hs3, fr5⟩
        have hN' := hN.fr0 fr5
        have hg : C.nodes[i]? = some C.nodes[i] := List.getElem?_eq_getElem hi
        generalize C.nodes[i] = n at hg
        obtain ⟨p, _, he, hpv⟩ := hN'.get hg
        obtain ⟨q, q1, q2⟩ := hN'.sl.rdA (by decide) he .i64
        have ws := wrap_succ (n := i) (by omega)
        have hz : C.nodes.zipIdx[i]? = some (n, i) := by simp [hg]
        have hstep := foldlM_take (nodeH count) hz (List.replicate count (-1))
        rw [hf3] at hstep
        have hnl : n.2.length ≤ 1048576 := by
          have : n.2.length ≤ (C.nodes.map (·.2.length)).sum := mem_le_sum (List.mem_map.2 ⟨n, List.mem_of_getElem? hg, rfl⟩)
          omega
        simp [hi, q1, q2, ws]
        refine Run_newSt rfl rfl (by simp [hpv.isCell]) fun b5 w5 hb5 _ fr6 _ => ?_
        have hpv5 := hpv.fr0 fr6
        simp [hb5]
        refine (sorted_run hpv5 (by omega)).mono ?_
        rintro _ w6 ⟨⟨bo, rfl, hbo⟩, fr7⟩
        have fr8 : Fr (fun _ => False) w w6 := (fr5.trans fr6 fun _ _ => id).trans fr7 fun _ _ => id
        have hs6 := (hs3.fr fr6 fun _ _ => id).fr fr7 fun _ _ => id
        simp
        refine Run_cond (fun h => ?_) (fun h => ?_)
        · have hsr := hbo.1 h
          have hb6 : bk w6 b5 = _ := fr7.bk_some hb5 id
          have hpv6 : Ints w6 p n.2 := hpv5.fr0 fr7
          simp [hb6, hpv6.lenL]
          refine Run_for n.2.length (fun j l w'' => l = [.int .i64 j] ∧ ∃ home', (n.2.take j).foldlM (putH count i) home = some home' ∧ home'.length = count ∧ SlW 1 w'' hv (elI home') ∧ Fr (fun _ => False) w w'')
            ⟨rfl, _, rfl, hl3, hs6, fr8⟩ ?_ ?_
          · rintro j l w7 hj ⟨rfl, home', hf7, hl7, hs7, fr9⟩
            have hpv7 : Ints w7 p n.2 := (hN.fr0 fr9).parts i n p hg ‹_›
            have hg7 : n.2[j]? = some n.2[j] := List.getElem?_eq_getElem hj
            generalize n.2[j] = a at hg7
            obtain ⟨q, q1, q2⟩ := hpv7.rd1 (i := j) (y := .int .i64 a) (by simp [hg7]) .i64
            have wj := wrap_succ (n := j) (by omega)
            have hstep7 := foldlM_take (putH count i) hg7 home
            rw [hf7] at hstep7
            have bad : putH count i home' a = none → List.foldlM (nodeH count) (List.replicate count (-1)) C.nodes.zipIdx = none := by
              intro h0
              apply foldlM_none _ (i + 1)
              rw [hstep]
              simp only [Option.bind_some, nodeH]
              rw [if_pos hsr]
              apply foldlM_none _ (j + 1)
              rw [hstep7]
              exact h0
            simp [hj, q1, q2, wj]
            refine Run_guard (fun h1 => ?_) (fun h1 => ?_)
            · have h1' : a < 0 := by simpa using h1
              have := bad (by unfold putH; rw [if_pos h1'])
              simp [h1', this, fr9]
            have h1' : ¬ a < 0 := by simpa using h1
            simp [h1']
            refine Run_guard (fun h2 => ?_) (fun h2 => ?_)
            · have h2' : (count : Int) ≤ a := by simpa using h2
              have := bad (by unfold putH; rw [if_neg h1', if_pos h2'])
              simp [h2', this, fr9]
            have h2' : ¬ (count : Int) ≤ a := by simpa using h2
            obtain ⟨m, rfl⟩ : ∃ m : Nat, a = m := ⟨a.toNat, by omega⟩
            have hm : m < count := by omega
            have hgm := elI_some (List.getElem?_eq_getElem (l := home') (i := m) (by omega))
            obtain ⟨c, o, e1, hin, hlt, hok, hput⟩ := hs7.put hgm .i64
            obtain ⟨p7, p71, p72⟩ := hs7.1.rd1 hgm .i64
            obtain ⟨_, hput⟩ := hput 0 [.int .i64 i] (by simp)
            have hok1 : okAt w7 c o 1 := hok
            have hgd : home'[m]?.getD 0 = home'[m]'(by omega) := by simp [hl7, hm]
            generalize home'[m]'(by omega) = x at hgd p72
            rw [e1] at p71
            cases p71
            simp [h2', e1, p72]
            refine Run_cond (fun h3 => ?_) (fun h3 => ?_)
            · have h3' : 0 ≤ x := by simpa using h3
              have := bad (by unfold putH; rw [if_neg h1', if_neg h2', if_pos (by simpa [hgd] using h3')])
              simp [this, fr9]
            · have h3' : ¬ 0 ≤ x := by simpa using h3
              have hp : putH count i home' m = some (home'.set m i) := by unfold putH; rw [if_neg h1', if_neg h2', if_neg (by simpa [hgd] using h3')]; simp
              simp [e1, hok1, wj]
              refine ⟨_, by rw [hstep7]; exact hp, by simpa using hl7, ?_, fr9.sto (.inr (hnew c hin)) _ _⟩
              rw [← elI_set]
              exact hput
          · rintro l w7 ⟨rfl, home', hf7, hl7, hs7, fr9⟩
            simp [ws]
            refine ⟨home', ?_, hl7, hs7, fr9⟩
            rw [hstep]
            simp only [Option.bind_some, nodeH]
            rw [if_pos hsr]
            simpa using hf7
        · have hsr : ¬ sortedP n.2 := fun hs => by rw [hbo.2 hs] at h; cases h
          have : List.foldlM (nodeH count) (List.replicate count (-1)) C.nodes.zipIdx = none := by
            apply foldlM_none _ (i + 1)
            rw [hstep]
            simp [nodeH, hsr]
          simp [this, fr8]
      · rintro l w3 ⟨rfl, home, hf3, hl3, hs3, fr5⟩
        have hf : List.foldlM (nodeH count) (List.replicate count (-1)) C.nodes.zipIdx = some home := by
          rw [← hf3, List.take_of_length_le (by simp)]
        simp [hf, fr5]
        exact ⟨hs3, fun c hc => ⟨hnew c hc, hs3.1.lt (by simp [hl3]; omega) hc⟩⟩

end Go.Proofs.YtiggkhmopnhfaaaDoor
