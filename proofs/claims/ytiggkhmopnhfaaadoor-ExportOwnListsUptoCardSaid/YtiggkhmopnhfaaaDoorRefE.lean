/-
  The document's ring (granaryref6), part E: Home, Walk, Owners.
-/
import Derived.Test.YtiggkhmopnhfaaaDoorRefD
namespace Go.Proofs.YtiggkhmopnhfaaaDoor
open Go.Lift
set_option linter.unusedSimpArgs false
set_option maxHeartbeats 1000000

theorem home6_run {w : World} {C : Clu} {nv : Value} {pvs : List Value} {home : List Int} (hN : Nodes w nv C.nodes pvs) (hF : Fits C) (hh : homesF C = some home) {p : Nat} (hp : p < home.length) :
    Run (F.granaryref6_Home (C.val nv) (.int .i64 p)) w fun r w' => r = .int .i64 (home.getD p 0) ∧ Fr (fun _ => False) w w' := by
  unfold F.granaryref6_Home
  simp [Clu.val]
  refine Run_new fun b w0 hb _ fr0 _ => ?_
  have hb0 : bk w0 b = some (C.cells nv) := by simpa using hb
  have hl := hF.count
  have hpp := hF.parts
  have hN0 := hN.fr0 fr0
  refine Run_for C.nodes.length (fun i l w' => l = [.int .i64 i] ∧ w' = w0 ∧ ∀ n ∈ C.nodes.take i, (p : Int) ∉ n.2) ⟨rfl, rfl, by simp⟩ ?_ ?_
  · rintro i l w' hi ⟨rfl, rfl, ih⟩
    have hg : C.nodes[i]? = some C.nodes[i] := List.getElem?_eq_getElem hi
    generalize C.nodes[i] = n at hg
    obtain ⟨u, z, q, u1, z1, z2, hpv, hpl⟩ := node_parts hN0 hg
    have ws := wrap_succ (n := i) (by omega)
    have hnl : n.2.length ≤ 1048576 := by
      have : n.2.length ≤ (C.nodes.map (·.2.length)).sum := mem_le_sum (List.mem_map.2 ⟨n, List.mem_of_getElem? hg, rfl⟩)
      omega
    simp [hb0, Clu.cells, hN.lenL, hi]
    refine Run_for n.2.length (fun j l w'' => l = [.int .i64 j] ∧ w'' = w' ∧ (p : Int) ∉ n.2.take j) ⟨rfl, rfl, by simp⟩ ?_ ?_
    · rintro j l w'' hj ⟨rfl, rfl, ihj⟩
      have ej : n.2[j]? = some n.2[j] := List.getElem?_eq_getElem hj
      generalize n.2[j] = a at ej
      obtain ⟨y, y1, y2⟩ := hpv.rd1 (elI_some ej) .i64
      have wj := wrap_succ (n := j) (by omega)
      simp [hb0, Clu.cells, u1, z1, z2, hpl, hj, y1, y2]
      refine Run_cond (fun hx => ?_) (fun hx => ?_)
      · have hx' : a = p := by simpa using hx
        obtain ⟨k, hk, hk'⟩ := homesF_put hh hg (p := (p : Int)) (by rw [← hx']; exact List.mem_of_getElem? ej)
        have : k = p := by omega
        subst this
        simp [List.getD, hk', fr0]
      · have hx' : ¬ a = p := by simpa using hx
        simp [wj]
        rw [List.take_add_one, ej]
        simp only [Option.toList_some, List.mem_append, List.mem_singleton, not_or]
        exact ⟨ihj, fun h => hx' h.symm⟩
    · rintro l w'' ⟨rfl, rfl, ihj⟩
      rw [List.take_length] at ihj
      simp [hb0, Clu.cells, u1, z1, z2, hpl, ws]
      intro a c hm
      rw [List.take_add_one, hg] at hm
      simp only [Option.toList_some, List.mem_append, List.mem_singleton] at hm
      rcases hm with hm | rfl
      · exact ih _ hm
      · exact ihj
  · rintro l w' ⟨rfl, rfl, ih⟩
    exfalso
    obtain ⟨m, _, x, hx, hpx⟩ := homesF_home hh hp
    rw [List.take_length] at ih
    exact ih x (List.mem_of_getElem? hx) hpx

theorem roundN_from {home : List Int} {part : Nat} {reps : Int} : ∀ i, ∀ t ∈ roundN home part reps i, ∃ k, k < i ∧ t = (part + k) % home.length
  | 0, t, ht => by cases ht
  | i + 1, t, ht => by
    rw [roundN_succ] at ht
    split at ht
    · unfold roundStep at ht
      split at ht
      · obtain ⟨k, hk, e⟩ := roundN_from i t ht
        exact ⟨k, by omega, e⟩
      · rcases List.mem_append.1 ht with ht | ht
        · obtain ⟨k, hk, e⟩ := roundN_from i t ht
          exact ⟨k, by omega, e⟩
        · simp at ht
          exact ⟨i, by omega, ht⟩
    · obtain ⟨k, hk, e⟩ := roundN_from i t ht
      exact ⟨k, by omega, e⟩

theorem tmod_nat (a b : Nat) : ((a : Int).tmod (b : Int)) = ((a % b : Nat) : Int) := by
  rw [Int.tmod_eq_emod_of_nonneg (by omega)]; rfl

theorem walk6_run {w : World} {C : Clu} {nv : Value} {pvs : List Value} {home : List Int} (hN : Nodes w nv C.nodes pvs) (hF : Fits C) (hh : homesF C = some home) {part : Nat} (hp : part < home.length) :
    Run (F.granaryref6_walk (C.val nv) (.int .i64 part)) w fun r w' => SlW 1 w' r (elT (roundF home part C.replicas)) ∧ Fr (fun _ => False) w w' ∧ New w w' r := by
  unfold F.granaryref6_walk
  simp [-ldA_ptr, Clu.val]
  refine Run_new fun b w0 hb _ fr0 _ => ?_
  have hb0 : bk w0 b = some (C.cells nv) := by simpa using hb
  simp [-ldA_ptr, Clu.ldA6 hb0]
  refine (parts6_run (hN.fr0 fr0) hF).mono ?_
  rintro _ w1 ⟨rfl, fr1⟩
  have f1 : Fr (fun _ => False) w w1 := fr0.trans fr1 fun _ _ => id
  have hb1 := fr1.bk_some hb0 id
  obtain ⟨hhl, hc1, hc2⟩ := homesF_len hh
  have hc0 : ¬ C.count = 0 := by omega
  have hcl : home.length = C.count := hhl
  have hgd : ∀ q, q < home.length → home[q]? = some (home.getD q 0) := fun q hq => by simp [List.getD, hq]
  obtain ⟨Q1, q1⟩ : ∃ Q1 : Out → World → Prop, ∀ o w', Q1 o w' ↔ ∃ lv i, o = .exit 0 [lv, i] ∧ SlW 1 w' lv (elT (roundF home part C.replicas)) ∧ Fr (fun _ => False) w w' ∧ ∀ c, inB lv c → w.heap.size ≤ c ∧ c < w'.heap.size := ⟨_, fun _ _ => Iff.rfl⟩
  refine Run.mono (Q := Q1) (Run_for C.count (fun i l w' => ∃ lv, l = [lv, .int .i64 i] ∧ Fr (fun _ => False) w1 w' ∧ SlW 1 w' lv (elT (roundN home part C.replicas i)) ∧ ∀ c, inB lv c → w1.heap.size ≤ c ∧ c < w'.heap.size) ⟨_, rfl, Fr.refl _ _, SlW.nil _ _, fun c hc => hc.elim⟩ ?_ ?_) ?_
  · rintro i l w2 hi ⟨lv, rfl, f2, hls, hlb⟩
    have hi' : (i : Int) < C.count := by omega
    have hb2 := f2.bk_some hb1 id
    have hlen := hls.1.lenL
    simp only [elT_len] at hlen
    have ws := wrap_succ (n := i) (by omega)
    have hrl := roundN_len home part C.replicas i
    simp [hi, hi', hlen, hb2, Clu.cells]
    refine Run_cond (fun hx => ?_) (fun hx => ?_)
    case refine_2 =>
      have hx' : ¬ ((roundN home part C.replicas i).length : Int) < C.replicas := by simpa using hx
      have e : roundF home part C.replicas = roundN home part C.replicas i := by
        unfold roundF
        rw [show home.length = i + (home.length - i) by omega]
        exact roundN_stop hx' _
      simp
      exact (q1 _ _).2 ⟨lv, _, rfl, by rw [e]; exact hls, f1.trans f2 fun _ _ => id, fun c hc => by have := hlb c hc; have := f1.size; omega⟩
    have hx' : ((roundN home part C.replicas i).length : Int) < C.replicas := by simpa using hx
    simp
    have hpi : (part + i) % home.length < home.length := Nat.mod_lt _ (by omega)
    have wpi : IntKind.i64.wrap ((part : Int) + (i : Int)) = ((part + i : Nat) : Int) := wrap_add (by omega)
    let fr_ : Nat → Prop := fun j => ∀ k, k < j → home[(part + k) % home.length]? ≠ home[(part + i) % home.length]?
    obtain ⟨fresh, hfresh⟩ : ∃ fresh : Nat → Bool, ∀ j, (fresh j = true ↔ ∀ k, k < j → home[(part + k) % home.length]? ≠ home[(part + i) % home.length]?) := by
      classical
      exact ⟨fun j => decide (∀ k, k < j → home[(part + k) % home.length]? ≠ home[(part + i) % home.length]?), fun j => by simp⟩
    refine Run.mono (Q := fun o w' => o = .exit 2 [.bool (fresh i), .int .i64 i] ∧ Fr (fun _ => False) w2 w') (Run_for i (fun j l w' => l = [.bool (fresh j), .int .i64 j] ∧ Fr (fun _ => False) w2 w') ⟨?_, Fr.refl _ _⟩ ?_ ?_) ?_
    · have : fresh 0 = true := (hfresh 0).2 fun k hk => absurd hk (Nat.not_lt_zero _)
      simp [this]
    · rintro j l w3 hj ⟨rfl, f3⟩
      have hj' : (j : Int) < i := by omega
      have hb3 := f3.bk_some hb2 id
      have wj := wrap_succ (n := j) (by omega)
      have wpj : IntKind.i64.wrap ((part : Int) + (j : Int)) = ((part + j : Nat) : Int) := wrap_add (by omega)
      have hpj : (part + j) % home.length < home.length := Nat.mod_lt _ (by omega)
      have hN3 : Nodes w3.drew nv C.nodes pvs := (((hN.fr0 f1).fr0 f2).fr0 f3).fr0 (Fr.refl _ _).drew
      have tj := tmod_nat (part + j) C.count
      have ti := tmod_nat (part + i) C.count
      rw [← hcl] at tj ti
      rw [← hcl] at hc0
      simp [-ldA_ptr, hj, hj', Clu.ldA6 hb3, wpj]
      rw [← hcl]
      have hz : ¬ ((home.length : Int) = 0) := by omega
      have hz' : ¬ home = [] := by intro h; rw [h] at hc0; exact hc0 rfl
      rw [← Int.natCast_add] 
      simp [-ldA_ptr, hz, hz', -Int.natCast_add, tj]
      refine (home6_run hN3 hF hh hpj).mono ?_
      rintro _ w4 ⟨rfl, f4⟩
      have hb4 := f4.bk_some (w := w3.drew) hb3 id
      have hN4 := hN3.fr0 f4
      simp [-ldA_ptr, Clu.ldA6 hb4, wpi]
      have ti' : ((part : Int) + (i : Int)).tmod (home.length : Int) = (((part + i) % home.length : Nat) : Int) := by rw [← Int.natCast_add]; exact tmod_nat _ _
      rw [ti']
      refine (home6_run hN4 hF hh hpi).mono ?_
      rintro _ w5 ⟨rfl, f5⟩
      have f25 : Fr (fun _ => False) w2 w5 := ((f3.drew.trans f4 fun _ _ => id)).trans f5 fun _ _ => id
      have hb3' : ((bk w3 b).bind fun l => if 23 ≤ l.length then some (Value.agg (List.take 23 l).toArray) else none) = some (C.val nv) := by
        have := Clu.ldA6 hb3
        simpa using this
      have e1 := hgd _ hpj
      have e2 := hgd _ hpi
      simp [-ldA_ptr, hb3', -List.getD_eq_getElem?_getD]
      refine Run_cond (fun hy => ?_) (fun hy => ?_)
      · have hy' : home.getD ((part + j) % home.length) 0 = home.getD ((part + i) % home.length) 0 := of_decide_eq_true hy
        have ef : fresh (j + 1) = false := by
          rw [Bool.eq_false_iff]
          intro hf
          refine (hfresh (j + 1)).1 hf j (by omega) ?_
          rw [e1, e2, hy']
        simp [wj, ef]
        exact f25
      · have hy' : ¬ home.getD ((part + j) % home.length) 0 = home.getD ((part + i) % home.length) 0 := of_decide_eq_false hy
        have ef : fresh (j + 1) = fresh j := by
          rw [Bool.eq_iff_iff, hfresh, hfresh]
          constructor
          · intro hf k hk; exact hf k (by omega)
          · intro hf k hk
            by_cases hkj : k < j
            · exact hf k hkj
            · obtain rfl : k = j := by omega
              rw [e1, e2]
              intro he
              exact hy' (Option.some.inj he)
        simp [wj, ef]
        exact f25
    · rintro l w3 ⟨rfl, f3⟩
      simp
      exact f3
    · rintro o w3 ⟨rfl, f3⟩
      have hlist : (fresh i = true ∧ roundN home part C.replicas (i + 1) = roundN home part C.replicas i ++ [(part + i) % home.length]) ∨ (fresh i = false ∧ roundN home part C.replicas (i + 1) = roundN home part C.replicas i) := by
        rw [roundN_succ, if_pos hx']
        unfold roundStep
        by_cases hex : ∃ t ∈ roundN home part C.replicas i, home[t]? = home[(part + i) % home.length]?
        · right
          rw [if_pos hex]
          refine ⟨?_, rfl⟩
          rw [Bool.eq_false_iff]
          intro hf
          obtain ⟨t, ht, he⟩ := hex
          obtain ⟨k, hk, rfl⟩ := roundN_from i t ht
          exact (hfresh i).1 hf k hk he
        · left
          rw [if_neg hex]
          refine ⟨(hfresh i).2 fun k hk he => hex ?_, rfl⟩
          obtain ⟨t, ht, he'⟩ := roundN_has i hx' k hk
          exact ⟨t, ht, he'.trans he⟩
      have hb3 := f3.bk_some hb2 id
      have hls3 := hls.fr f3 fun _ _ => id
      have f3s := f3.size
      rcases hlist with ⟨hf, he⟩ | ⟨hf, he⟩
      · have ti' : ((part : Int) + (i : Int)).tmod (home.length : Int) = (((part + i) % home.length : Nat) : Int) := by rw [← Int.natCast_add]; exact tmod_nat _ _
        have hz : ¬ ((home.length : Int) = 0) := by omega
        have hz' : ¬ home = [] := by intro h; rw [h] at hpi; simp at hpi
        rw [← hcl]
        simp [hf, wpi, hz, hz']
        rw [ti']
        refine Run_app1 (k := 1) rfl hls3 (by decide) rfl (by decide) rfl (by simp; omega) fun r w4 hs4 f4 hin w14 f14 => ?_
        simp [ws]
        have f4s := f4.size
        refine ⟨(f2.trans f3 fun _ _ => id).new f4 fun c hc => (hlb c hc).1, by rw [he, ← elT_app]; exact hs4, fun c hc => ?_⟩
        rcases hin c hc with h' | h'
        · have := hlb c h'; omega
        · have := f2.size; omega
      · simp [hf, ws]
        exact ⟨f2.trans f3 fun _ _ => id, by rw [he]; exact hls3, fun c hc => by have := hlb c hc; omega⟩
  · rintro l w2 ⟨lv, rfl, f2, hls, hlb⟩
    simp
    exact (q1 _ _).2 ⟨lv, _, rfl, by unfold roundF; rw [hcl]; exact hls, f1.trans f2 fun _ _ => id, fun c hc => by have := hlb c hc; have := f1.size; omega⟩
  · rintro o w2 ho
    obtain ⟨lv, i, rfl, h1, h2, h3⟩ := (q1 _ _).1 ho
    simp
    exact ⟨h1, h2, h3⟩

end Go.Proofs.YtiggkhmopnhfaaaDoor
namespace Go.Proofs.YtiggkhmopnhfaaaDoor
open Go.Lift
set_option linter.unusedSimpArgs false
set_option maxHeartbeats 1000000

theorem homes_of_check {C : Clu} (h : checkF C = 0) : ∃ home, homesF C = some home := by
  have hk := h
  unfold checkF at hk
  split at hk
  · cases hk
  split at hk
  · cases hk
  split at hk
  · cases hk
  split at hk
  · cases hk
  split at hk
  · cases hk
  cases hh : homesF C with
  | none => rw [hh] at hk; cases hk
  | some home => exact ⟨home, rfl⟩

theorem owners6_run {w : World} {C : Clu} {nv : Value} {pvs : List Value} {part : Int} (hN : Nodes w nv C.nodes pvs) (hF : Fits C) (hG : bk w 0 = some greatV) :
    Run (F.granaryref6_Owners (C.val nv) (.int .i64 part)) w fun r w' => Fr (fun _ => False) w w' ∧ ∃ ov, r = .tuple #[ov, .int .i64 (ownersF C part).2] ∧ SlW 1 w' ov (elI (ownersF C part).1) ∧ New w w' ov := by
  unfold F.granaryref6_Owners
  simp [-ldA_ptr, Clu.val]
  refine Run_new fun b w0 hb _ fr0 _ => ?_
  have hb0 : bk w0 b = some (C.cells nv) := by simpa using hb
  simp [-ldA_ptr, Clu.ldA6 hb0]
  unfold F.granaryref6_Walk
  simp [-ldA_ptr, Clu.val]
  refine Run_new fun d w1 hd _ fr1 _ => ?_
  have hd1 : bk w1 d = some (C.cells nv) := by simpa using hd
  have f1 : Fr (fun _ => False) w w1 := fr0.trans fr1 fun _ _ => id
  simp [-ldA_ptr, Clu.ldA6 hd1]
  refine (check6_run (hN.fr0 f1) hF (f1.bk_some hG id)).mono ?_
  rintro _ w2 ⟨rfl, fr2⟩
  have f2 : Fr (fun _ => False) w w2 := f1.trans fr2 fun _ _ => id
  have hd2 : bk w2 d = some (C.cells nv) := fr2.bk_some hd1 id
  have hb2 : bk w2 b = some (C.cells nv) := fr2.bk_some (fr1.bk_some hb0 id) id
  by_cases hc : checkF C = 0
  case neg =>
    have : ownersF C part = ([], checkF C) := by unfold ownersF; rw [if_pos hc]
    simp [hc, this, f2]
    exact ⟨SlW.nil 1 w2, fun b hb => hb.elim⟩
  have hown : ownersF C part = ownersF C part := rfl
  conv at hown => rhs; unfold ownersF; rw [if_neg (not_not_intro hc)]
  have hh := homes_of_check hc
  obtain ⟨home, hh⟩ := hh
  obtain ⟨hhl, hc1, hc2⟩ := homesF_len hh
  by_cases hp : part < 0
  · rw [if_pos (.inl hp)] at hown
    simp [hc, hp, hown, f2]
    exact ⟨SlW.nil 1 w2, fun b hb => hb.elim⟩
  obtain ⟨p, rfl⟩ : ∃ p : Nat, part = p := ⟨part.toNat, by omega⟩
  simp [-ldA_ptr, hc, hp, Clu.ldA6 hd2]
  refine (parts6_run (hN.fr0 f2) hF).mono ?_
  rintro _ w3 ⟨rfl, fr3⟩
  have f3 : Fr (fun _ => False) w w3 := f2.trans fr3 fun _ _ => id
  have hd3 : bk w3 d = some (C.cells nv) := fr3.bk_some hd2 id
  have hb3 : bk w3 b = some (C.cells nv) := fr3.bk_some hb2 id
  by_cases hp2 : C.count ≤ p
  · rw [if_pos (.inr (by omega))] at hown
    have hp2' : (C.count : Int) ≤ p := by omega
    simp [hp2, hp2', hown, f3]
    exact ⟨SlW.nil 1 w3, fun b hb => hb.elim⟩
  have hp2' : ¬ (C.count : Int) ≤ p := by omega
  rw [if_neg (by omega), hh] at hown
  simp [-ldA_ptr, hp2, hp2', Clu.ldA6 hd3]
  refine (walk6_run (hN.fr0 f3) hF hh (part := p) (by omega)).mono ?_
  rintro lv w4 ⟨hls, fr4, hnew⟩
  have f4 : Fr (fun _ => False) w w4 := f3.trans fr4 fun _ _ => id
  have hb4 : bk w4 b = some (C.cells nv) := fr4.bk_some hb3 id
  have hlen := hls.1.lenL
  simp only [elT_len] at hlen
  have hown1 : (ownersF C p).1 = (roundF home p C.replicas).map fun t => home.getD t 0 := by
    rw [hown]
    simp [ownersL]
  have hown2 : (ownersF C p).2 = 0 := by rw [hown]
  rw [hown1, hown2]
  have hrl : (roundF home p C.replicas).length ≤ 64 := by
    have := roundN_len home p C.replicas home.length
    unfold roundF
    omega
  have hrt : ∀ t ∈ roundF home p C.replicas, t < home.length := roundN_lt (by omega) p C.replicas home.length
  generalize roundF home p C.replicas = ts at *
  simp
  refine Run_for ts.length (fun i l w' => ∃ rv, l = [rv, .int .i64 i] ∧ Fr (fun _ => False) w4 w' ∧ SlW 1 w' rv (elI ((ts.take i).map fun t => home.getD t 0)) ∧ ∀ c, inB rv c → w4.heap.size ≤ c ∧ c < w'.heap.size) ⟨_, rfl, Fr.refl _ _, SlW.nil _ _, fun c hc => hc.elim⟩ ?_ ?_
  · rintro i l w5 hi ⟨rv, rfl, f5, hrs, hrb⟩
    have ei : ts[i]? = some ts[i] := List.getElem?_eq_getElem hi
    have ht := hrt _ (List.getElem_mem hi)
    generalize ts[i] = t at ei ht
    obtain ⟨q, q1, q2⟩ := ((hls.1.fr0 f5)).rd1 (elT_some ei) .i64
    have hb5 := f5.bk_some hb4 id
    have ws := wrap_succ (n := i) (by omega)
    have hN5 : Nodes w5.drew nv C.nodes pvs := ((hN.fr0 f4).fr0 f5).fr0 (Fr.refl _ _).drew
    simp [-ldA_ptr, hlen, hi, Clu.ldA6 hb5, q1, q2]
    refine (home6_run hN5 hF hh ht).mono ?_
    rintro _ w6 ⟨rfl, f6⟩
    have f56 : Fr (fun _ => False) w5 w6 := (Fr.refl (fun _ => False) w5).drew.trans f6 fun _ _ => id
    have hrs6 := hrs.fr f56 fun _ _ => id
    refine Run_app1 (k := 1) rfl hrs6 (by decide) rfl (by decide) rfl (by simp; omega) fun r w7 hs7 f7 hin w17 f17 => ?_
    simp [ws]
    have e : (ts.take (i + 1)).map (fun t => home.getD t 0) = (ts.take i).map (fun t => home.getD t 0) ++ [home.getD t 0] := by rw [List.take_add_one, ei]; simp
    have s7 := f7.size
    have s56 := f56.size
    have s5 := f5.size
    refine ⟨(f5.trans f56 fun _ _ => id).new f7 fun c hc => (hrb c hc).1, ?_, fun c hc => ?_⟩
    · have h7 : SlW 1 w7 r (elI ((ts.take (i + 1)).map (fun t => home.getD t 0))) := by rw [e, ← elI_app]; exact hs7
      simpa [List.getD] using h7
    · rcases hin c hc with h' | h'
      · have := hrb c h'; omega
      · omega
  · rintro l w5 ⟨rv, rfl, f5, hrs, hrb⟩
    rw [List.take_length] at hrs
    have s4 := f4.size
    simp [hlen]
    exact ⟨f4.trans f5 fun _ _ => id, by simpa [List.getD] using hrs, fun c hc => by have := hrb c hc; omega⟩

end Go.Proofs.YtiggkhmopnhfaaaDoor
