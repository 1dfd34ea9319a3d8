/-
  Layer 6 (ring), part G: the walk round the ring, and Owners.
-/
import Derived.Test.YtiggkhmopnhfaaaDoorRingF
namespace Go.Proofs.YtiggkhmopnhfaaaDoor
open Go.Lift
set_option linter.unusedSimpArgs false

open Classical in
noncomputable def roundStep (home : List Int) (taken : List Nat) (p : Nat) : List Nat := if ∃ t ∈ taken, home[t]? = home[p]? then taken else taken ++ [p]
noncomputable def roundN (home : List Int) (part : Nat) (reps : Int) : Nat → List Nat
  | 0 => []
  | i + 1 => if ((roundN home part reps i).length : Int) < reps then roundStep home (roundN home part reps i) ((part + i) % home.length) else roundN home part reps i
noncomputable def roundF (home : List Int) (part : Nat) (reps : Int) : List Nat := roundN home part reps home.length

theorem roundN_succ (home : List Int) (part : Nat) (reps : Int) (i : Nat) : roundN home part reps (i + 1) = if ((roundN home part reps i).length : Int) < reps then roundStep home (roundN home part reps i) ((part + i) % home.length) else roundN home part reps i := rfl
theorem roundStep_len (home : List Int) (taken : List Nat) (p : Nat) : (roundStep home taken p).length ≤ taken.length + 1 := by
  unfold roundStep; split <;> simp
theorem roundN_len (home : List Int) (part : Nat) (reps : Int) : ∀ i, (roundN home part reps i).length ≤ i
  | 0 => Nat.le_refl _
  | i + 1 => by
    unfold roundN
    have := roundN_len home part reps i
    split
    · exact Nat.le_trans (roundStep_len _ _ _) (by omega)
    · omega
theorem roundN_lt {home : List Int} (h : 0 < home.length) (part : Nat) (reps : Int) : ∀ i, ∀ t ∈ roundN home part reps i, t < home.length
  | 0, t, ht => by simp [roundN] at ht
  | i + 1, t, ht => by
    unfold roundN at ht
    have ih := roundN_lt h part reps i
    split at ht
    · unfold roundStep at ht
      split at ht
      · exact ih t ht
      · rcases List.mem_append.1 ht with ht | ht
        · exact ih t ht
        · obtain rfl := List.mem_singleton.1 ht
          exact Nat.mod_lt _ h
    · exact ih t ht
theorem roundN_stop {home : List Int} {part : Nat} {reps : Int} {i : Nat} (h : ¬ ((roundN home part reps i).length : Int) < reps) : ∀ d, roundN home part reps (i + d) = roundN home part reps i
  | 0 => rfl
  | d + 1 => by
    have ih := roundN_stop h d
    show roundN home part reps (i + d + 1) = _
    rw [roundN_succ, ih, if_neg h]

def elT (l : List Nat) : List (List Value) := l.map fun (n : Nat) => [.int .i64 (n : Int)]
@[simp] theorem elT_len (l : List Nat) : (elT l).length = l.length := by simp [elT]
theorem elT_some {l : List Nat} {i n : Nat} (h : l[i]? = some n) : (elT l)[i]? = some [.int .i64 n] := by simp [elT, h]
theorem elT_app (l : List Nat) (n : Nat) : elT l ++ [[.int .i64 n]] = elT (l ++ [n]) := by simp [elT]
theorem elI_app (l : List Int) (n : Int) : elI l ++ [[.int .i64 n]] = elI (l ++ [n]) := by simp [elI]

theorem round_run {w : World} {hv : Value} {home : List Int} {part : Nat} {reps : Int} (hs : Sl 1 w hv (elI home)) (h1 : 0 < home.length) (h2 : home.length ≤ 64) (hp : part < 1048576) :
    Run (F.ring_round hv (.int .i64 part) (.int .i64 reps)) w fun r w' => Fr (fun _ => False) w w' ∧ SlW 1 w' r (elT (roundF home part reps)) ∧ New w w' r := by
  unfold F.ring_round
  have hlr := hs.lenL
  simp at hlr
  simp
  refine Run_for home.length (fun i l w' => ∃ tv, l = [tv, .int .i64 i] ∧ SlW 1 w' tv (elT (roundN home part reps i)) ∧ New w w' tv ∧ Fr (fun _ => False) w w') ⟨_, rfl, SlW.nil 1 w, fun b hb => hb.elim, Fr.refl _ _⟩ ?_ ?_
  · rintro i l w1 hi ⟨tv, rfl, ht, hnew, fr1⟩
    have hs1 := hs.fr0 fr1
    have htl := ht.1.lenL
    simp at htl
    have hlen := roundN_len home part reps i
    have hlt := roundN_lt h1 part reps i
    have ws := wrap_succ (n := i) (by omega)
    simp [hlr, hi, htl]
    refine Run_cond (fun hc => ?_) (fun hc => ?_)
    · have hc' : ((roundN home part reps i).length : Int) < reps := by simpa using hc
      have hstep : roundN home part reps (i + 1) = roundStep home (roundN home part reps i) ((part + i) % home.length) := by rw [roundN_succ, if_pos hc']
      rw [hstep]
      generalize roundN home part reps i = taken at *
      have wp := wrap_add (n := part) (m := i) (by omega)
      have hm : (((part + i : Nat) : Int)).tmod (home.length : Int) = (((part + i) % home.length : Nat) : Int) := (Int.ofNat_tmod _ _).symm
      have hn0 : ¬ home = [] := List.ne_nil_of_length_pos h1
      have hpl := Nat.mod_lt (part + i) h1
      simp only [Int.natCast_add] at wp hm
      have hmm : ((part : Int) + (i : Int)) % (home.length : Int) = (((part + i) % home.length : Nat) : Int) := by simp
      simp [wp, hn0, hm]
      rw [hmm]
      generalize (part + i) % home.length = p at hpl
      have eh := List.getElem?_eq_getElem hpl
      generalize home[p] = hp' at eh
      refine Run_for taken.length (fun j l w' => l = [.int .i64 j] ∧ SlW 1 w' tv (elT taken) ∧ New w w' tv ∧ Fr (fun _ => False) w w' ∧ ∀ k t, k < j → taken[k]? = some t → home[t]? ≠ home[p]?) ⟨rfl, ht, hnew, fr1, fun k t hk => absurd hk (Nat.not_lt_zero _)⟩ ?_ ?_
      · rintro j l w2 hj ⟨rfl, ht2, hnew2, fr2, ih⟩
        have et : taken[j]? = some taken[j] := List.getElem?_eq_getElem hj
        generalize taken[j] = t at et
        have htn := hlt t (List.mem_of_getElem? et)
        obtain ⟨q, q1, q2⟩ := ht2.1.rd1 (elT_some et) .i64
        have hs2 := hs.fr0 fr2
        have eh2 := List.getElem?_eq_getElem htn
        generalize home[t] = hp2 at eh2
        obtain ⟨r, r1, r2⟩ := hs2.rd1 (elI_some eh2) .i64
        obtain ⟨u, u1, u2⟩ := hs2.rd1 (elI_some eh) .i64
        have r2' : ld1 r w2.drew = _ := r2
        have u2' : ld1 u w2.drew = _ := u2
        have wj := wrap_succ (n := j) (by omega)
        simp [hj, q1, q2, r1, r2', u1, u2', wj]
        refine Run_cond (fun hc => ?_) (fun hc => ?_)
        · have hc' : hp2 = hp' := by simpa using hc
          have : roundStep home taken p = taken := by unfold roundStep; rw [if_pos ⟨t, List.mem_of_getElem? et, by rw [eh, eh2, hc']⟩]
          simp [this, ws]
          exact ⟨ht2.fr (Fr.refl (fun _ => False) w2).drew fun _ _ => id, hnew2, fr2.drew⟩
        · have hc' : ¬ hp2 = hp' := by simpa using hc
          simp
          refine ⟨ht2.fr (Fr.refl (fun _ => False) w2).drew fun _ _ => id, hnew2, fr2.drew, ?_⟩
          intro k t' hk ht'
          by_cases hkj : k < j
          · exact ih k t' hkj ht'
          · obtain rfl : k = j := by omega
            rw [et] at ht'; cases ht'
            rw [eh, eh2]
            simpa using hc'
      · rintro l w2 ⟨rfl, ht2, hnew2, fr2, ih⟩
        have : roundStep home taken p = taken ++ [p] := by
          unfold roundStep
          rw [if_neg]
          rintro ⟨t, hm, he⟩
          obtain ⟨k, hk⟩ := List.getElem?_of_mem hm
          exact ih k t (List.getElem?_eq_some_iff.1 hk).1 hk he
        rw [this]
        simp
        refine Run_app1 (k := 1) rfl ht2 (by decide) rfl (by decide) rfl (by simp; omega) fun r w3 hr fr3 hin _ _ => ?_
        change SlW 1 w3 r (elT _ ++ [[Value.int .i64 p]]) at hr
        rw [elT_app] at hr
        simp [ws]
        have hF : ∀ b, inB tv b → w.heap.size ≤ b := fun b hb => (hnew2 b hb).1
        refine ⟨hr, fun b hb => ?_, fr2.new fr3 hF⟩
        have := fr2.size; have := fr3.size
        rcases hin b hb with h | h
        · have := hnew2 b h; omega
        · omega
    · have hc' : ¬ ((roundN home part reps i).length : Int) < reps := by simpa using hc
      have : roundF home part reps = roundN home part reps i := by
        unfold roundF
        have := roundN_stop hc' (home.length - i)
        rwa [show i + (home.length - i) = home.length by omega] at this
      simp [this]
      exact ⟨fr1, ht, hnew⟩
  · rintro l w1 ⟨tv, rfl, ht, hnew, fr1⟩
    simp [hlr]
    exact ⟨fr1, ht, hnew⟩

/-- The nodes that hold a partition, if the definition is right. -/
noncomputable def ownersL (home : List Int) (part : Nat) (reps : Int) : List Int := (roundF home part reps).map fun t => home.getD t 0
/-- What Owners answers: the list, the error. -/
noncomputable def ownersF (C : Clu) (part : Int) : List Int × Int :=
  if checkF C ≠ 0 then ([], checkF C) else if part < 0 ∨ part > C.count - 1 then ([], 69)
  else ((homesF C).elim [] fun home => ownersL home part.toNat C.replicas, 0)

theorem owners_run {w : World} {C : Clu} {nv : Value} {pvs : List Value} {part : Int} (hN : Nodes w nv C.nodes pvs) (hF : Fits C) :
    Run (F.ring_Owners (C.val nv) (.int .i64 part)) w fun r w' => Fr (fun _ => False) w w' ∧ ∃ ov, r = .tuple #[ov, .int .i64 (ownersF C part).2] ∧ SlW 1 w' ov (elI (ownersF C part).1) ∧ New w w' ov := by
  unfold F.ring_Owners
  simp [Clu.val]
  refine Run_new fun b w0 hb hwr fr0 _ => ?_
  have hb0 : bk w0 b = some (C.cells nv) := by simpa using hb
  have hld : ldA 23 (.pointer (some ⟨b, 0, none⟩)) w0 = some (C.val nv) := by
    rw [ldA_bk hb0 (by simp [Clu.cells])]; rfl
  simp [hld]
  refine (checked_run (hN.fr0 fr0) hF).mono ?_
  rintro r w1 ⟨fr1, hv, rfl, hv0, hv1⟩
  have fr01 : Fr (fun _ => False) w w1 := fr0.trans fr1 fun _ _ => id
  have hb1 : bk w1 b = some (C.cells nv) := fr1.bk_some hb0 id
  simp
  by_cases hc : checkF C = 0
  case neg =>
    have : ownersF C part = ([], checkF C) := by unfold ownersF; rw [if_pos hc]
    simp [hc, this, fr01]
    exact ⟨SlW.nil 1 w1, fun b hb => hb.elim⟩
  obtain ⟨home, hh, hs, hnew⟩ := hv1 hc
  obtain ⟨hhl, hc1, hc2⟩ := homesF_len hh
  have hlv := hs.1.lenL
  simp at hlv
  have hown : ownersF C part = ownersF C part := rfl
  conv at hown => rhs; unfold ownersF; rw [if_neg (not_not_intro hc), ← hhl, hh]
  have wl : IntKind.i64.wrap ((home.length : Int) - 1) = home.length - 1 := wrap_small (by omega) (by omega)
  simp [hc, hlv, wl, within_run]
  by_cases h1 : 0 ≤ part
  case neg =>
    rw [if_pos (by omega)] at hown
    simp [h1, hown, fr01]
    exact ⟨SlW.nil 1 w1, fun b hb => hb.elim⟩
  by_cases h2 : part ≤ (home.length : Int) - 1
  case neg =>
    rw [if_pos (by omega)] at hown
    simp [h1, h2, hown, fr01]
    exact ⟨SlW.nil 1 w1, fun b hb => hb.elim⟩
  rw [if_neg (by omega)] at hown
  obtain ⟨m, rfl⟩ : ∃ m : Nat, part = m := ⟨part.toNat, by omega⟩
  simp [h2, hb1, Clu.cells]
  refine (round_run hs.1 (by omega) (by omega) (by omega)).mono ?_
  rintro tv w2 ⟨fr2, ht, htnew⟩
  have htl := ht.1.lenL
  simp at htl
  have hrl : (roundF home m C.replicas).length ≤ home.length := roundN_len _ _ _ _
  have hlt := roundN_lt (home := home) (by omega) m C.replicas home.length
  have htake : ownersF C m = (ownersL home m C.replicas, 0) := by rw [hown]; simp
  rw [htake]
  clear hown htake
  unfold ownersL roundF at *
  generalize roundN home m C.replicas home.length = taken at *
  have fr02 : Fr (fun _ => False) w w2 := fr01.trans fr2 fun _ _ => id
  simp [htl]
  refine Run_for taken.length (fun i l w' => ∃ ov, l = [ov, .int .i64 i] ∧ SlW 1 w' ov (elI ((taken.take i).map fun t => home.getD t 0)) ∧ New w w' ov ∧ (∀ b, inB ov b → w2.heap.size ≤ b) ∧ Fr (fun _ => False) w2 w') ⟨_, rfl, SlW.nil 1 w2, fun b hb => hb.elim, fun b hb => hb.elim, Fr.refl _ _⟩ ?_ ?_
  · rintro i l w3 hi ⟨ov, rfl, ho, honew, hole, fr3⟩
    have et : taken[i]? = some taken[i] := List.getElem?_eq_getElem hi
    generalize taken[i] = t at et
    have htn := hlt t (List.mem_of_getElem? et)
    obtain ⟨q, q1, q2⟩ := (ht.1.fr0 fr3).rd1 (elT_some et) .i64
    have eh2 := List.getElem?_eq_getElem htn
    have hgd : home.getD t 0 = home[t] := by simp [List.getD, htn]
    generalize home[t] = x at eh2 hgd
    obtain ⟨r, r1, r2⟩ := ((hs.1.fr0 fr2).fr0 fr3).rd1 (elI_some eh2) .i64
    have wi := wrap_succ (n := i) (by omega)
    simp [hi, q1, q2, r1, r2]
    refine Run_app1 (k := 1) rfl ho (by decide) rfl (by decide) rfl (by simp; omega) fun r w4 hr fr4 hin _ _ => ?_
    have hr := hr
    change SlW 1 w4 r (elI _ ++ [[Value.int .i64 x]]) at hr
    rw [elI_app] at hr
    simp [wi]
    refine ⟨?_, ?_, ?_, fr3.new fr4 hole⟩
    · have e1 : (taken.take (i + 1)).map (fun t => home.getD t 0) = (taken.take i).map (fun t => home.getD t 0) ++ [x] := by
        rw [List.take_add_one, et]
        simp only [Option.toList_some, List.map_append, List.map_cons, List.map_nil, hgd]
      rw [← e1] at hr
      simpa using hr
    · intro b hb
      have h1 := fr02.size; have h2 := fr3.size; have h3 := fr4.size
      rcases hin b hb with h | h
      · have := honew b h; omega
      · omega
    · intro b hb
      have h2 := fr3.size
      rcases hin b hb with h | h
      · exact hole b h
      · omega
  · rintro l w3 ⟨ov, rfl, ho, honew, hole, fr3⟩
    simp
    refine ⟨fr02.trans fr3 fun _ _ => id, ?_, honew⟩
    simpa using ho

end Go.Proofs.YtiggkhmopnhfaaaDoor
