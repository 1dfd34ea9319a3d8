/-
  The document's ring (granaryref6), part C: partitions are dealt out, each once.
-/
import Derived.Test.YtiggkhmopnhfaaaDoorRefA
namespace Go.Proofs.YtiggkhmopnhfaaaDoor
open Go.Lift
set_option linter.unusedSimpArgs false
set_option maxHeartbeats 1000000

/-- All lists, one behind the other. -/
def Clu.flat (C : Clu) : List Int := C.nodes.flatMap (·.2)
theorem flat_length (l : List (Int × List Int)) : (l.flatMap (·.2)).length = (l.map (·.2.length)).sum := by
  induction l with
  | nil => rfl
  | cons a l ih => simp [ih]
theorem Clu.flat_len (C : Clu) : C.flat.length = C.count := flat_length C.nodes
def strictP (l : List Int) : Prop := ∀ (i : Nat) (a b : Int), l[i]? = some a → l[i + 1]? = some b → a < b
/-- P partitions, each once, each list rising. -/
def dealtP (C : Clu) : Prop := 1 ≤ C.count ∧ C.count ≤ 64 ∧ (∀ i : Nat, i < C.count → C.flat.count (i : Int) = 1) ∧ ∀ n ∈ C.nodes, strictP n.2

/-- The parts of a node, read. -/
theorem node_parts {w : World} {C : Clu} {nv : Value} {pvs : List Value} (hN : Nodes w nv C.nodes pvs) {i : Nat} {n : Int × List Int} (hg : C.nodes[i]? = some n) :
    ∃ u z p, idxA 2 nv (.int .i64 (i : Nat)) = some u ∧ fieldA 1 u = some z ∧ ld1 z w = some p ∧ Ints w p n.2 ∧ lenL p = some (.int .i64 n.2.length) := by
  obtain ⟨p, _, he, hpv⟩ := hN.get hg
  obtain ⟨u, u1, u2⟩ := hN.sl.rdF he .i64
  obtain ⟨z, z1, z2⟩ := u2 1 (by decide)
  have hpl := hpv.lenL
  simp only [elI_len] at hpl
  exact ⟨u, z, p, u1, z1, z2, hpv, hpl⟩

theorem times_run {w : World} {C : Clu} {nv : Value} {pvs : List Value} (hN : Nodes w nv C.nodes pvs) (hF : Fits C) (part : Int) :
    Run (F.granaryref6_times (C.val nv) (.int .i64 part)) w fun r w' => r = .int .i64 (C.flat.count part : Nat) ∧ Fr (fun _ => False) w w' := by
  unfold F.granaryref6_times
  simp [Clu.val]
  refine Run_new fun b w0 hb _ fr0 _ => ?_
  have hb0 : bk w0 b = some (C.cells nv) := by simpa using hb
  have hl := hF.count
  have hp := hF.parts
  have hN0 := hN.fr0 fr0
  have hfl : C.flat.length ≤ 1048576 := by rw [C.flat_len]; exact hp
  refine Run_for C.nodes.length (fun i l w' => l = [.int .i64 (((C.nodes.take i).flatMap (·.2)).count part : Nat), .int .i64 i] ∧ w' = w0) ⟨by simp, rfl⟩ ?_ ?_
  · rintro i l w' hi ⟨rfl, rfl⟩
    have hg : C.nodes[i]? = some C.nodes[i] := List.getElem?_eq_getElem hi
    generalize C.nodes[i] = n at hg
    obtain ⟨u, z, p, u1, z1, z2, hpv, hpl⟩ := node_parts hN0 hg
    have hs : (C.nodes.take (i + 1)).flatMap (·.2) = (C.nodes.take i).flatMap (·.2) ++ n.2 := by rw [List.take_add_one, hg]; simp
    have hle : ((C.nodes.take (i + 1)).flatMap (·.2)).length ≤ 1048576 := by
      rw [flat_length, List.map_take]
      exact Nat.le_trans (sum_take_le _ _) hp
    rw [hs] at hle
    rw [List.length_append] at hle
    have ws := wrap_succ (n := i) (by omega)
    rw [hs, List.count_append]
    have hcl := List.count_le_length (a := part) (l := (C.nodes.take i).flatMap (·.2))
    generalize ((C.nodes.take i).flatMap (·.2)).count part = m at hcl
    simp [hb0, Clu.cells, hN.lenL, hi]
    refine Run_for n.2.length (fun j l w'' => l = [.int .i64 (m + (n.2.take j).count part : Nat), .int .i64 j] ∧ w'' = w') ⟨by simp, rfl⟩ ?_ ?_
    · rintro j l w'' hj ⟨rfl, rfl⟩
      have ej : n.2[j]? = some n.2[j] := List.getElem?_eq_getElem hj
      generalize n.2[j] = a at ej
      obtain ⟨q, q1, q2⟩ := hpv.rd1 (elI_some ej) .i64
      have wj := wrap_succ (n := j) (by omega)
      have et : n.2.take (j + 1) = n.2.take j ++ [a] := by rw [List.take_add_one, ej]; rfl
      have hcj := List.count_le_length (a := part) (l := n.2.take j)
      have htj := List.length_take_le j n.2
      have wm := wrap_succ (n := m + (n.2.take j).count part) (by omega)
      rw [et, List.count_append]
      simp [hb0, Clu.cells, u1, z1, z2, hpl, hj, q1, q2]
      refine Run_cond (fun hx => ?_) (fun hx => ?_)
      · have hx' : a = part := by simpa using hx
        simp only [Int.natCast_add] at wm
        subst hx'
        simp [wm, wj]
        omega
      · have hx' : ¬ a = part := by simpa using hx
        simp [wj, List.count_singleton, hx']
    · rintro l w'' ⟨rfl, rfl⟩
      simp [hb0, Clu.cells, u1, z1, z2, hpl, ws]
  · rintro l w' ⟨rfl, rfl⟩
    simp [hb0, Clu.cells, hN.lenL]
    exact ⟨rfl, fr0⟩

theorem dealt_run {w : World} {C : Clu} {nv : Value} {pvs : List Value} (hN : Nodes w nv C.nodes pvs) (hF : Fits C) :
    Run (F.granaryref6_dealt (C.val nv)) w fun r w' => (∃ b : Bool, r = .bool b ∧ (b = true ↔ dealtP C)) ∧ Fr (fun _ => False) w w' := by
  unfold F.granaryref6_dealt
  simp [-ldA_ptr, Clu.val]
  refine Run_new fun b w0 hb _ fr0 _ => ?_
  have hb0 : bk w0 b = some (C.cells nv) := by simpa using hb
  have hl := hF.count
  have hp := hF.parts
  simp [-ldA_ptr, Clu.ldA6 hb0]
  refine (parts6_run (hN.fr0 fr0) hF).mono ?_
  rintro _ w1 ⟨rfl, fr1⟩
  have f1 : Fr (fun _ => False) w w1 := fr0.trans fr1 fun _ _ => id
  have hb1 := fr1.bk_some hb0 id
  by_cases h1 : C.count < 1
  · have : ¬ dealtP C := fun h => by have := h.1; omega
    have h1' : (C.count : Int) < 1 := by omega
    simp [h1, h1', this, f1]
  have h1' : ¬ (C.count : Int) < 1 := by omega
  by_cases h2 : 64 < C.count
  · have : ¬ dealtP C := fun h => by have := h.2.1; omega
    have h2' : (64 : Int) < C.count := by omega
    have h0' : ¬ C.count = 0 := by omega
    simp [h1, h1', h2, h2', h0', this, f1]
  have h2' : ¬ (64 : Int) < C.count := by omega
  have h0' : ¬ C.count = 0 := by omega
  simp [-ldA_ptr, h1, h1', h2, h2', h0']
  obtain ⟨Q1, q1⟩ : ∃ Q1 : Out → World → Prop, ∀ o w', Q1 o w' ↔ Fr (fun _ => False) w1 w' ∧ ((o = .ret (.bool false) ∧ ¬ dealtP C) ∨ ((∃ l, o = .exit 0 l) ∧ ∀ i : Nat, i < C.count → C.flat.count (i : Int) = 1)) := ⟨_, fun _ _ => Iff.rfl⟩
  refine Run.mono (Q := Q1) (Run_for C.count (fun i l w' => l = [.int .i64 i] ∧ Fr (fun _ => False) w1 w' ∧ ∀ j : Nat, j < i → C.flat.count (j : Int) = 1) ⟨rfl, Fr.refl _ _, fun j hj => absurd hj (Nat.not_lt_zero _)⟩ ?_ ?_) ?_
  · rintro i l w' hi ⟨rfl, f, ih⟩
    have hi' : (i : Int) < C.count := by omega
    have hb' := f.bk_some hb1 id
    have ws := wrap_succ (n := i) (by omega)
    simp [-ldA_ptr, hi, hi', Clu.ldA6 hb']
    refine (times_run ((hN.fr0 f1).fr0 f) hF i).mono ?_
    rintro _ w2 ⟨rfl, fr2⟩
    have f2 := f.trans fr2 fun _ _ => id
    by_cases hc : C.flat.count (i : Int) = 1
    · simp [hc, ws]
      refine ⟨f2, fun j hj => ?_⟩
      by_cases hji : j < i
      · exact ih j hji
      · obtain rfl : j = i := by omega
        exact hc
    · have hc' : ¬ ((C.flat.count (i : Int) : Nat) : Int) = 1 := by omega
      simp [hc, hc']
      exact (q1 _ _).2 ⟨f2, .inl ⟨rfl, fun h => hc (h.2.2.1 i hi)⟩⟩
  · rintro l w' ⟨rfl, f, ih⟩
    simp
    exact (q1 _ _).2 ⟨f, .inr ⟨⟨_, rfl⟩, ih⟩⟩
  rintro o w2 ho
  obtain ⟨f12, hcase⟩ := (q1 _ _).1 ho
  have f2 := f1.trans f12 fun _ _ => id
  rcases hcase with ⟨rfl, hno⟩ | ⟨⟨l, rfl⟩, hone⟩
  · simp [hno, f2]
  have hN2 := hN.fr0 f2
  have hb2 : bk w2 b = some (C.cells nv) := f12.bk_some hb1 id
  simp
  refine Run_for C.nodes.length (fun i l w' => l = [.int .i64 i] ∧ Fr (fun _ => False) w2 w' ∧ ∀ n ∈ C.nodes.take i, strictP n.2) ⟨rfl, Fr.refl _ _, by simp⟩ ?_ ?_
  · rintro i l w' hi ⟨rfl, f, ih⟩
    have hg : C.nodes[i]? = some C.nodes[i] := List.getElem?_eq_getElem hi
    generalize C.nodes[i] = n at hg
    obtain ⟨u, z, p, u1, z1, z2, hpv, hpl⟩ := node_parts (hN2.fr0 f) hg
    have hb' := f.bk_some hb2 id
    have ws := wrap_succ (n := i) (by omega)
    have hnl : n.2.length ≤ 1048576 := by
      have : n.2.length ≤ (C.nodes.map (·.2.length)).sum := mem_le_sum (List.mem_map.2 ⟨n, List.mem_of_getElem? hg, rfl⟩)
      omega
    have hnm := List.mem_of_getElem? hg
    simp [hb', Clu.cells, hN.lenL, hi, u1, z1, z2]
    refine Run_for (n.2.length - 1) (fun j l w'' => l = [.int .i64 (j + 1 : Nat)] ∧ Fr (fun _ => False) w' w'' ∧ ∀ (k : Nat) (a b : Int), k < j → n.2[k]? = some a → n.2[k + 1]? = some b → a < b) ⟨by simp, Fr.refl _ _, fun k a b hk => absurd hk (Nat.not_lt_zero _)⟩ ?_ ?_
    · rintro j l w'' hj ⟨rfl, fj, ihj⟩
      have ej : n.2[j]? = some (n.2[j]'(by omega)) := List.getElem?_eq_getElem _
      have ej1 : n.2[j + 1]? = some (n.2[j + 1]'(by omega)) := List.getElem?_eq_getElem _
      generalize n.2[j]'(by omega) = a at ej
      generalize n.2[j + 1]'(by omega) = a' at ej1
      have hpv' : Ints w'' p n.2 := hpv.fr0 fj
      obtain ⟨q, q1', q2⟩ := hpv'.rd1 (elI_some ej) .i64
      obtain ⟨q', q1'', q2'⟩ := hpv'.rd1 (elI_some ej1) .i64
      have wj := wrap_succ (n := j + 1) (by omega)
      have wp := wrap_pred (n := j) (by omega)
      have hj' : ((j + 1 : Nat) : Int) < n.2.length := by omega
      have fd := (f.trans fj fun _ _ => id).drew
      simp only [getL_zero, hpl, binV_int, intBin_lss, hj', decide_true, Run_bindO_some, Run_condM_true, Run_drewM, intBin_sub, wp, intBin_add, wj, q1', q1'', Run_bind, Run_rdM, ld1_drew, q2, q2', Option.some.injEq, exists_eq_left', intBin_leq]
      refine Run_cond (fun hx => ?_) (fun hx => ?_)
      · have hx' : a' ≤ a := by simpa using hx
        simp
        refine ⟨fun h => ?_, f2.trans fd fun _ _ => id⟩
        have := h.2.2.2 n hnm j a a' ej ej1
        omega
      · have hx' : ¬ a' ≤ a := by simpa using hx
        simp
        refine ⟨fj.drew, fun k x y hk hx1 hy1 => ?_⟩
        by_cases hkj : k < j
        · exact ihj k x y hkj hx1 hy1
        · obtain rfl : k = j := by omega
          rw [ej] at hx1; rw [ej1] at hy1
          cases hx1; cases hy1
          omega
    · rintro l w'' ⟨rfl, fj, ihj⟩
      have hlt : ¬ (((n.2.length - 1 + 1 : Nat) : Int) < n.2.length) := by omega
      simp only [getL_zero, hpl, binV_int, intBin_lss, hlt, decide_false, Run_bindO_some, Run_condM_false, Run_ret]
      simp [ws]
      refine ⟨f.trans fj fun _ _ => id, fun m1 m2 hm => ?_⟩
      rw [List.take_add_one, hg] at hm
      rcases List.mem_append.1 hm with h | h
      · exact ih (m1, m2) h
      · simp at h
        subst h
        intro k x y hx1 hy1
        have hk := (List.getElem?_eq_some_iff.1 hy1).1
        exact ihj k x y (by simp at hk ⊢; omega) hx1 hy1
  · rintro l w' ⟨rfl, f, ih⟩
    have hb' := f.bk_some hb2 id
    rw [List.take_length] at ih
    simp [hb', Clu.cells, hN.lenL]
    exact ⟨⟨by omega, by omega, hone, ih⟩, f2.trans f fun _ _ => id⟩

/- The plain law: so it is just where each partition has a home. -/
/-- In h the partitions of pre have homes, and no others. -/
def Repr (c : Nat) (h pre : List Int) : Prop := h.length = c ∧ ∀ q : Nat, q < c → (0 ≤ h.getD q 0 ↔ (q : Int) ∈ pre)
theorem putH_iff {c i : Nat} {h pre : List Int} (hr : Repr c h pre) (p : Int) : (∃ h', putH c i h p = some h') ↔ (0 ≤ p ∧ p < c ∧ p ∉ pre) := by
  unfold putH
  constructor
  · rintro ⟨h', e⟩
    split at e
    · cases e
    · split at e
      · cases e
      · split at e
        · cases e
        · rename_i h1 h2 h3
          refine ⟨by omega, by omega, fun hm => h3 ?_⟩
          exact (hr.2 p.toNat (by omega)).2 (by rw [show ((p.toNat : Nat) : Int) = p by omega]; exact hm)
  · rintro ⟨h1, h2, h3⟩
    rw [if_neg (by omega), if_neg (by omega), if_neg]
    · exact ⟨_, rfl⟩
    · intro hm
      have := (hr.2 p.toNat (by omega)).1 hm
      rw [show ((p.toNat : Nat) : Int) = p by omega] at this
      exact h3 this
theorem putH_repr {c i : Nat} {h h' pre : List Int} {p : Int} (hr : Repr c h pre) (e : putH c i h p = some h') : Repr c h' (p :: pre) := by
  obtain ⟨h1, h2, h3⟩ := (putH_iff hr p).1 ⟨h', e⟩
  refine ⟨by rw [putH_len e]; exact hr.1, fun q hq => ?_⟩
  unfold putH at e
  rw [if_neg (by omega), if_neg (by omega)] at e
  split at e
  · cases e
  cases e
  have hl := hr.1
  by_cases hqp : q = p.toNat
  · subst hqp
    have : (h.set p.toNat (i : Int)).getD p.toNat 0 = i := by simp [List.getD, List.getElem?_set_self (show p.toNat < h.length by omega)]
    rw [this]
    simp
    left; omega
  · have : (h.set p.toNat (i : Int)).getD q 0 = h.getD q 0 := by simp only [List.getD]; rw [List.getElem?_set_ne (fun he => hqp he.symm)]
    rw [this, hr.2 q hq, List.mem_cons]
    constructor
    · exact .inr
    · rintro (he | hm)
      · exfalso; omega
      · exact hm
theorem foldH_iff {c i : Nat} : ∀ {l h pre : List Int}, Repr c h pre → ((∃ h', l.foldlM (putH c i) h = some h') ↔ ((∀ p ∈ l, 0 ≤ p ∧ p < c ∧ p ∉ pre) ∧ l.Nodup))
  | [], h, pre, _ => ⟨fun _ => ⟨by simp, List.nodup_nil⟩, fun _ => ⟨h, rfl⟩⟩
  | p :: l, h, pre, hr => by
    simp only [List.foldlM_cons]
    cases e : putH c i h p with
    | none =>
      constructor
      · rintro ⟨h', e'⟩; cases e'
      · rintro ⟨h1, h2⟩
        obtain ⟨h', e'⟩ := (putH_iff (i := i) hr p).2 (h1 p (by simp))
        rw [e] at e'; cases e'
    | some h1 =>
      have hp := (putH_iff (i := i) hr p).1 ⟨h1, e⟩
      have ih := foldH_iff (i := i) (l := l) (putH_repr hr e)
      show (∃ h', l.foldlM (putH c i) h1 = some h') ↔ _
      rw [ih, List.nodup_cons]
      constructor
      · rintro ⟨g1, g2⟩
        refine ⟨fun q hq => ?_, fun hm => (g1 p hm).2.2 (by simp), g2⟩
        rcases List.mem_cons.1 hq with rfl | hq
        · exact hp
        · obtain ⟨a1, a2, a3⟩ := g1 q hq
          exact ⟨a1, a2, fun hm => a3 (by simp [hm])⟩
      · rintro ⟨g1, g2, g3⟩
        refine ⟨fun q hq => ?_, g3⟩
        obtain ⟨a1, a2, a3⟩ := g1 q (by simp [hq])
        refine ⟨a1, a2, fun hm => ?_⟩
        rcases List.mem_cons.1 hm with rfl | hm
        · exact g2 hq
        · exact a3 hm
theorem foldH_repr {c i : Nat} : ∀ {l h h' pre : List Int}, Repr c h pre → l.foldlM (putH c i) h = some h' → Repr c h' (l.reverse ++ pre)
  | [], h, h', pre, hr, e => by cases e; exact hr
  | p :: l, h, h', pre, hr, e => by
    simp only [List.foldlM_cons] at e
    cases e1 : putH c i h p with
    | none => simp [e1] at e
    | some h1 =>
      simp [e1] at e
      have := foldH_repr (putH_repr hr e1) e
      simpa using this
theorem foldN_iff {c : Nat} : ∀ {l : List ((Int × List Int) × Nat)} {h pre : List Int}, Repr c h pre → ((∃ h', l.foldlM (nodeH c) h = some h') ↔
    ((∀ x ∈ l, sortedP x.1.2) ∧ (∀ p : Int, p ∈ l.flatMap (·.1.2) → 0 ≤ p ∧ p < (c : Int) ∧ p ∉ pre) ∧ (l.flatMap (·.1.2)).Nodup))
  | [], h, pre, _ => ⟨fun _ => ⟨by simp, by simp, by simp⟩, fun _ => ⟨h, rfl⟩⟩
  | x :: l, h, pre, hr => by
    simp only [List.foldlM_cons, List.flatMap_cons]
    cases e : nodeH c h x with
    | none =>
      constructor
      · rintro ⟨h', e'⟩; cases e'
      · rintro ⟨h1, h2, h3⟩
        unfold nodeH at e
        rw [if_pos (h1 x (by simp))] at e
        rw [List.nodup_append] at h3
        obtain ⟨h', e'⟩ := (foldH_iff (i := x.2) hr).2 ⟨fun p hp => h2 p (by simp [hp]), h3.1⟩
        rw [e] at e'; cases e'
    | some h1 =>
      have hs : sortedP x.1.2 := by
        unfold nodeH at e
        split at e
        · assumption
        · cases e
      unfold nodeH at e
      rw [if_pos hs] at e
      have hp := (foldH_iff (i := x.2) hr).1 ⟨h1, e⟩
      have ih := foldN_iff (l := l) (foldH_repr hr e)
      show (∃ h', l.foldlM (nodeH c) h1 = some h') ↔ _
      rw [ih, List.nodup_append]
      constructor
      · rintro ⟨g1, g2, g3⟩
        refine ⟨fun y hy => ?_, fun q hq => ?_, hp.2, g3, fun a ha b hb he => ?_⟩
        · rcases List.mem_cons.1 hy with rfl | hy
          · exact hs
          · exact g1 y hy
        · rcases List.mem_append.1 hq with hq | hq
          · exact hp.1 q hq
          · obtain ⟨a1, a2, a3⟩ := g2 q hq
            exact ⟨a1, a2, fun hm => a3 (by simp [hm])⟩
        · subst he
          exact (g2 a hb).2.2 (by simp [ha])
      · rintro ⟨g1, g2, g3, g4, g5⟩
        refine ⟨fun y hy => g1 y (by simp [hy]), fun q hq => ?_, g4⟩
        obtain ⟨a1, a2, a3⟩ := g2 q (by simp [hq])
        refine ⟨a1, a2, fun hm => ?_⟩
        rcases List.mem_append.1 hm with hm | hm
        · exact g5 q (by simpa using hm) q hq rfl
        · exact a3 hm

theorem zip_flat (l : List (Int × List Int)) : ∀ k, ((l.zipIdx k).flatMap (·.1.2)) = l.flatMap (·.2) := by
  induction l with
  | nil => intro k; rfl
  | cons a l ih => intro k; simp [ih]
theorem nodup_strict {l : List Int} (hn : l.Nodup) (hs : sortedP l) : strictP l := by
  intro i a b ha hb
  have h1 := hs i a b ha hb
  have h2 : a ≠ b := by
    rintro rfl
    obtain ⟨hi, e1⟩ := List.getElem?_eq_some_iff.1 ha
    obtain ⟨hj, e2⟩ := List.getElem?_eq_some_iff.1 hb
    have := (List.pairwise_iff_getElem.1 hn) i (i + 1) hi hj (by omega)
    exact this (e1.trans e2.symm)
  omega
theorem range_nodup (n : Nat) : ((List.range n).map fun (k : Nat) => (k : Int)).Nodup := by
  rw [List.Nodup, List.pairwise_map]
  exact (List.nodup_range (n := n)).imp fun h he => h (by omega)
theorem dealt_iff (C : Clu) : dealtP C ↔ homesF C ≠ none := by
  unfold dealtP homesF
  by_cases hc : 1 ≤ C.count ∧ C.count ≤ 64
  case neg =>
    rw [if_neg hc]
    constructor
    · rintro ⟨h1, h2, _⟩; exact absurd ⟨h1, h2⟩ hc
    · intro h; exact absurd rfl h
  rw [if_pos hc]
  have hr : Repr C.count (List.replicate C.count (-1)) [] := ⟨by simp, fun q hq => by simp [List.getD, hq]⟩
  have key := foldN_iff (l := C.nodes.zipIdx) hr
  rw [zip_flat] at key
  have hlen := C.flat_len
  change C.flat.length = _ at hlen
  have hfl : C.nodes.flatMap (·.2) = C.flat := rfl
  rw [hfl] at key
  have hne : C.nodes.zipIdx.foldlM (nodeH C.count) (List.replicate C.count (-1)) ≠ none ↔ ∃ h', C.nodes.zipIdx.foldlM (nodeH C.count) (List.replicate C.count (-1)) = some h' := Option.ne_none_iff_exists'
  rw [hne, key]
  constructor
  · rintro ⟨_, _, h1, h2⟩
    have hmem : ∀ i : Nat, i < C.count → (i : Int) ∈ C.flat := fun i hi => List.count_pos_iff.1 (by rw [h1 i hi]; decide)
    have hin : ∀ p ∈ C.flat, 0 ≤ p ∧ p < C.count := by
      intro p hp
      by_cases hh : 0 ≤ p ∧ p < C.count
      · exact hh
      · exfalso
        have hnd : (p :: (List.range C.count).map fun (k : Nat) => (k : Int)).Nodup := by
          rw [List.nodup_cons]
          refine ⟨fun hm => hh ?_, range_nodup _⟩
          obtain ⟨k, hk, rfl⟩ := List.mem_map.1 hm
          have := List.mem_range.1 hk
          omega
        have := nodup_sub_len hnd (m := C.flat) (by
          intro a ha
          rcases List.mem_cons.1 ha with rfl | ha
          · exact hp
          · obtain ⟨k, hk, rfl⟩ := List.mem_map.1 ha
            exact hmem k (List.mem_range.1 hk))
        simp at this
        omega
    refine ⟨fun x hx => ?_, fun p hp => ⟨(hin p hp).1, (hin p hp).2, by simp⟩, ?_⟩
    · have hxm : x.1 ∈ C.nodes := by
        have := List.mem_zipIdx hx
        rw [this.2.2]
        exact List.getElem_mem _
      intro i a b ha hb
      have := h2 x.1 hxm i a b ha hb
      omega
    · rw [List.nodup_iff_count]
      intro a
      by_cases ha : a ∈ C.flat
      · obtain ⟨a1, a2⟩ := hin a ha
        have := h1 a.toNat (by omega)
        rw [show ((a.toNat : Nat) : Int) = a by omega] at this
        omega
      · rw [List.count_eq_zero_of_not_mem ha]; omega
  · rintro ⟨g1, g2, g3⟩
    have hmem : ∀ i : Nat, i < C.count → (i : Int) ∈ C.flat := by
      intro i hi
      by_cases hm : (i : Int) ∈ C.flat
      · exact hm
      · exfalso
        have := nodup_sub_len (l := (i : Int) :: C.flat) (m := (List.range C.count).map fun (k : Nat) => (k : Int)) (List.nodup_cons.2 ⟨hm, g3⟩) (by
          intro a ha
          rcases List.mem_cons.1 ha with rfl | ha
          · exact List.mem_map.2 ⟨i, List.mem_range.2 hi, rfl⟩
          · obtain ⟨a1, a2, _⟩ := g2 a ha
            exact List.mem_map.2 ⟨a.toNat, List.mem_range.2 (by omega), by omega⟩)
        simp at this
        omega
    refine ⟨hc.1, hc.2, fun i hi => ?_, fun n hn => ?_⟩
    · have h1 := List.count_pos_iff.2 (hmem i hi)
      have h2 := (List.nodup_iff_count.1 g3) (i : Int)
      omega
    · obtain ⟨k, hk⟩ := List.getElem?_of_mem hn
      have hz : (n, k) ∈ C.nodes.zipIdx := List.mem_zipIdx_iff_getElem?.2 hk
      refine nodup_strict ?_ (g1 (n, k) hz)
      have hsub : List.Sublist n.2 C.flat := by
        unfold Clu.flat
        rw [List.flatMap]
        exact List.sublist_flatten_of_mem (List.mem_map.2 ⟨n, hn, rfl⟩)
      exact hsub.nodup g3

end Go.Proofs.YtiggkhmopnhfaaaDoor
