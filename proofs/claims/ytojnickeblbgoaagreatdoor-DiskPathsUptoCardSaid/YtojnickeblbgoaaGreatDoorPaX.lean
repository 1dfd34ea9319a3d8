/-
  Layer 1 (disk): the program's disk beside the document's: part A: paths lead to the same.
-/
import Derived.Test.YtojnickeblbgoaaGreatDoorRdX
namespace Go.Proofs.YtojnickeblbgoaaGreatDoor
open Go.Lift
set_option linter.unusedSimpArgs false
set_option linter.unusedVariables false
set_option maxHeartbeats 4000000

def chR (c : Chg) : Rc := if c.what = 0 then ⟨c.node, 1, 0, e0, e0, c.data⟩ else if c.what = 1 then ⟨c.node, 2, c.size, e0, e0, e0⟩ else if c.what = 2 then ⟨c.node, 3, c.target, c.src, e0, e0⟩ else
  if c.what = 3 then ⟨c.node, 4, 0, c.src, e0, e0⟩ else ⟨c.node, 5, 0, c.src, c.dst, e0⟩
/-- One side of a thing that is alive. -/
structure Side (m : Slt → Option Int) (j : Int) (data : ByteArray) (s : Sd) : Prop where
  data : s.data = data
  find : ∀ x, findL s.slots x = (m (j, x)).getD (-1)
  srt : s.slots.Pairwise fun a b => ltB a.1 b.1 = true
/-- The two disks hold the same; D: what no path leads to any more. -/
structure Sim (D : Int → Prop) (d : Dk) (r : Rk) : Prop where
  cap : r.cap = d.cap
  acts : r.acts = d.acts
  reads : r.reads = d.reads
  down : r.down = d.down
  left : r.left = if d.armed then d.left else -1
  lpos : d.armed = true → 0 ≤ d.left
  len : r.things.length = d.nodes.length
  kind : ∀ k : Int, (r.th k).kind = (d.nd k).kind
  live : ∀ k : Int, 0 ≤ k → k < d.nodes.length → ¬ D k → Side d.seen k (d.nd k).seen (r.th k).seen ∧ Side d.kept k (d.nd k).kept (r.th k).kept
  root : ¬ D 0
  seenL : ∀ s k, d.seen s = some k → ¬ D s.1 ∧ ¬ D k
  keptL : ∀ s k, d.kept s = some k → ¬ D s.1 ∧ ¬ D k
  pendL : ∀ c ∈ d.pending, ¬ D c.node ∧ (c.what = 2 → ¬ D c.target)
  line : r.line = d.pending.map chR
def flat (s : Spot) : RSpot := (s.2.1.1, s.2.1.2, s.2.2)
section
variable {A B : Nat} {dep : Int → Nat} {D : Int → Prop} {d d' : Dk} {r r' : Rk}
theorem sim_walk (S : Sim D d r) (hI : GI A B dep d) : ∀ (l : List ByteArray) (a : Slt) (k : Int), l ≠ [] → 0 ≤ k → k < d.nodes.length → ¬ D k → (d.nd k).kind = 1 →
    (rspotGo r k l).1 = (d.walkGo a k l).1 ∧ ((d.walkGo a k l).1 = 0 → (rspotGo r k l).2 = flat (d.walkGo a k l))
  | [], _, _, h, _, _, _, _ => absurd rfl h
  | [x], a, k, _, h0, h1, hD, hk => by
    have hf := (S.live k h0 h1 hD).1.find x
    unfold Dk.walkGo
    rw [if_neg (by omega), if_neg (by simp [hk]), if_neg (by simp)]
    simp only [rspotGo, Dk.walkGo, hf]
    exact ⟨trivial, fun _ => rfl⟩
  | x :: y :: l, a, k, _, h0, h1, hD, hk => by
    have hf := (S.live k h0 h1 hD).1.find x
    have eO : d.walkGo a k (x :: y :: l) = if (d.seen (k, x)).getD (-1) < 0 ∧ y :: l ≠ [] then zspot 12 else d.walkGo (k, x) ((d.seen (k, x)).getD (-1)) (y :: l) := by
      rw [Dk.walkGo, if_neg (by omega), if_neg (by simp [hk])]
    have eR : rspotGo r k (x :: y :: l) = if (d.seen (k, x)).getD (-1) < 0 then (12, zrs) else if (r.th ((d.seen (k, x)).getD (-1))).kind ≠ 1 then (14, zrs) else rspotGo r ((d.seen (k, x)).getD (-1)) (y :: l) := by
      rw [← hf]; rfl
    rw [eO, eR]
    cases hs : d.seen (k, x) with
    | none => simp [zspot]
    | some j =>
      have hj := hI.pseen.rng _ _ hs
      have hDj := (S.seenL _ _ hs).2
      simp only [Option.getD_some]
      rw [if_neg (show ¬ j < 0 by omega), if_neg (show ¬ (j < 0 ∧ y :: l ≠ []) from fun h => by omega), S.kind]
      by_cases hkj : (d.nd j).kind = 1
      · rw [if_neg (by simp [hkj])]
        exact sim_walk S hI (y :: l) (k, x) j (by simp) (by omega) (by omega) hDj hkj
      · have eO2 : d.walkGo (k, x) j (y :: l) = zspot 14 := by rw [Dk.walkGo, if_neg (by omega), if_pos hkj]
        rw [if_pos hkj, eO2]
        exact ⟨rfl, fun h => by simp [zspot] at h⟩
theorem sim_spot (S : Sim D d r) (hI : GI A B dep d) (l : List ByteArray) : (rspotF r l).1 = (d.walkF l).1 ∧ ((d.walkF l).1 = 0 → (rspotF r l).2 = flat (d.walkF l)) := by
  cases l with
  | nil => exact ⟨rfl, fun _ => rfl⟩
  | cons x l =>
    obtain ⟨nd, h1, h2⟩ := hI.n0
    refine sim_walk S hI (x :: l) (-1, e0) 0 (by simp) (Int.le_refl _) (by have := hI.pos; omega) S.root ?_
    simp [Dk.nd, h1, h2]
theorem sim_find (S : Sim D d r) (hI : GI A B dep d) (p : ByteArray) (kind : Int) : (ratF r p kind).1 = (d.findF p kind).1 ∧ ((d.findF p kind).1 = 0 → (ratF r p kind).2 = flat (d.findF p kind)) := by
  cases hd : d.down with
  | true =>
    have e : rnamesF r p true = (10, []) := by simp [rnamesF, S.down, hd]
    simp [ratF, Dk.findF, hd, e, zspot]
  | false =>
    cases hp : parseF p with
    | none =>
      have e : rnamesF r p true = (11, []) := by simp [rnamesF, S.down, hd, hp]
      simp [ratF, Dk.findF, hd, hp, e, zspot]
    | some l =>
      obtain ⟨q1, q2⟩ := sim_spot S hI l
      have e : rnamesF r p true = (0, l) := by simp [rnamesF, S.down, hd, hp]
      by_cases h0 : (d.walkF l).1 = 0
      · have eO : d.findF p kind = if (d.walkF l).2.2 < 0 then zspot 12 else if kind ≠ 0 ∧ (d.nd (d.walkF l).2.2).kind ≠ kind then zspot 14 else d.walkF l := by simp [Dk.findF, hd, hp, h0]
        have eR : ratF r p kind = if (d.walkF l).2.2 < 0 then (12, zrs) else if kind ≠ 0 ∧ (d.nd (d.walkF l).2.2).kind ≠ kind then (14, zrs) else (0, flat (d.walkF l)) := by
          simp only [ratF, e, q1, h0, q2 h0, ne_eq, not_true, if_false, S.kind]
          rfl
        rw [eO, eR]
        split
        · exact ⟨rfl, fun h => by simp [zspot] at h⟩
        · split
          · exact ⟨rfl, fun h => by simp [zspot] at h⟩
          · exact ⟨h0.symm, fun _ => rfl⟩
      · have eO : d.findF p kind = zspot (d.walkF l).1 := by simp [Dk.findF, hd, hp, h0]
        have eR : ratF r p kind = ((d.walkF l).1, zrs) := by
          simp only [ratF, e, q1, ne_eq, not_true, if_false, h0, not_false_eq_true, if_true]
        rw [eO, eR]
        exact ⟨rfl, fun h => absurd h h0⟩
end
end Go.Proofs.YtojnickeblbgoaaGreatDoor

/-
  Layer 1 (disk): the program's disk beside the document's: part B: what the calls answer.
-/
namespace Go.Proofs.YtojnickeblbgoaaGreatDoor
open Go.Lift
set_option linter.unusedSimpArgs false
set_option linter.unusedVariables false
set_option maxHeartbeats 4000000
section
variable {A B : Nat} {dep : Int → Nat} {D : Int → Prop} {d d' : Dk} {r r' : Rk}
theorem sim_act (S : Sim D d r) : r.actF.1 = d.actF.1 := by
  unfold Rk.actF Dk.actF
  rw [S.left]
  cases ha : d.armed with
  | false => simp
  | true =>
    have hp := S.lpos ha
    simp only [if_true]
    split <;> rfl
theorem sim_kind (S : Sim D d r) (hI : GI A B dep d) (p : ByteArray) : rkindF r p = d.kindF p := by
  obtain ⟨q1, q2⟩ := sim_find S hI p 0
  unfold rkindF Dk.kindF
  rw [q1]
  split
  · rfl
  · rename_i h
    have h0 : (d.findF p 0).1 = 0 := by simpa using h
    rw [q2 h0, S.kind]
    rfl
theorem doF_one (d : Dk) (c : Chg) (i : Nat) (nd : Nd) : (doF d c i nd).1 = d.actF.1 := by
  unfold doF
  split
  · rfl
  · rename_i h; simpa using (Classical.not_not.1 h).symm
theorem rchF_one (r : Rk) (c : Rc) (i : Nat) (t : Th) : (rchF r c i t).1 = r.actF.1 := by
  unfold rchF
  split
  · rfl
  · rename_i h; simpa using (Classical.not_not.1 h).symm
theorem act_add (d : Dk) (k : Int) : (d.addNode k).actF.1 = d.actF.1 := by
  unfold Dk.actF Dk.addNode
  simp only
  split <;> (try split) <;> rfl
theorem ract_add (r : Rk) (k : Int) : (r.addTh k).actF.1 = r.actF.1 := by
  unfold Rk.actF Rk.addTh
  simp only
  split <;> rfl
theorem sim_make1 (S : Sim D d r) (hI : GI A B dep d) (p : ByteArray) (k : Int) : (rmakeF r p k).1 = (createF d p k).1 := by
  cases hd : d.down with
  | true =>
    have e : rnamesF r p true = (10, []) := by simp [rnamesF, S.down, hd]
    simp [rmakeF, createF, hd, e]
  | false =>
    cases hp : parseF p with
    | none =>
      have e : rnamesF r p true = (11, []) := by simp [rnamesF, S.down, hd, hp]
      simp [rmakeF, createF, hd, hp, e]
    | some l =>
      obtain ⟨q1, q2⟩ := sim_spot S hI l
      have e : rnamesF r p true = (0, l) := by simp [rnamesF, S.down, hd, hp]
      by_cases h0 : (d.walkF l).1 = 0
      · have eO : createF d p k = if 0 ≤ (d.walkF l).2.2 then (13, d) else doF (d.addNode k) ⟨2, (d.walkF l).2.1.1, e0, 0, (d.walkF l).2.1.2, e0, d.nodes.length⟩ (d.walkF l).2.1.1.toNat (d.nd (d.walkF l).2.1.1) := by simp [createF, hd, hp, h0]
        have eR : rmakeF r p k = if 0 ≤ (d.walkF l).2.2 then (13, r) else rchF (r.addTh k) ⟨(d.walkF l).2.1.1, 3, r.things.length, (d.walkF l).2.1.2, e0, e0⟩ (d.walkF l).2.1.1.toNat (r.th (d.walkF l).2.1.1) := by
          simp only [rmakeF, e, q1, h0, q2 h0, ne_eq, not_true, if_false]
          rfl
        rw [eO, eR]
        split
        · rfl
        · rw [doF_one, rchF_one, act_add, ract_add, sim_act S]
      · have eO : createF d p k = ((d.walkF l).1, d) := by simp [createF, hd, hp, h0]
        have eR : rmakeF r p k = ((d.walkF l).1, r) := by
          simp only [rmakeF, e, q1, ne_eq, not_true, if_false, h0, not_false_eq_true, if_true]
        rw [eO, eR]
theorem parse_E0 : parseF E0 = some [] := by simp [parseF]
theorem sim_slots (S : Sim D d r) (hI : GI A B dep d) (g : RGood r) {k : Int} (h0 : 0 ≤ k) (h1 : k < d.nodes.length) (hD : ¬ D k) : (r.th k).seen.slots ≠ [] ↔ ∃ n j, d.seen (k, n) = some j := by
  have hf := (S.live k h0 h1 hD).1.find
  constructor
  · intro h
    obtain ⟨e, l, hl⟩ := List.exists_cons_of_ne_nil h
    have hm : r.th k ∈ r.things := by
      have hk : k.toNat < r.things.length := by have := S.len; omega
      have := List.getElem?_eq_getElem hk
      unfold Rk.th
      rw [this]
      exact List.getElem_mem hk
    have := g.rng _ hm e (by rw [hl]; simp)
    have h2 := hf e.1
    rw [hl] at h2
    simp only [findL, if_true] at h2
    cases hs : d.seen (k, e.1) with
    | none => rw [hs] at h2; simp at h2; omega
    | some j => exact ⟨_, j, hs⟩
  · rintro ⟨n, j, hs⟩ he
    have h2 := hf n
    rw [he, hs] at h2
    have := hI.pseen.rng _ _ hs
    simp [findL] at h2
    omega
theorem find_live (S : Sim D d r) (hI : GI A B dep d) : ∀ (l : List ByteArray) (a : Slt) (k : Int), ¬ D k → (d.walkGo a k l).1 = 0 → 0 ≤ (d.walkGo a k l).2.2 → ¬ D (d.walkGo a k l).2.2
  | [], a, k, hD, _, _ => hD
  | x :: l, a, k, hD, h1, h2 => by
    unfold Dk.walkGo at h1 h2 ⊢
    split at h1
    · simp [zspot] at h1
    rename_i c1
    rw [if_neg c1] at h2 ⊢
    split at h1
    · simp [zspot] at h1
    rename_i c2
    rw [if_neg c2] at h2 ⊢
    split at h1
    · simp [zspot] at h1
    rename_i c3
    rw [if_neg c3] at h2 ⊢
    cases hs : d.seen (k, x) with
    | none =>
      rw [hs] at c3
      cases l with
      | nil => rw [hs] at h2; simp [Dk.walkGo] at h2
      | cons y l => simp at c3
    | some j =>
      rw [hs] at h1 h2
      exact find_live S hI l _ _ (S.seenL _ _ hs).2 h1 h2
theorem find_walk {p : ByteArray} {kind : Int} (h : (d.findF p kind).1 = 0) : ∃ l, d.down = false ∧ parseF p = some l ∧ d.findF p kind = d.walkF l ∧ 0 ≤ (d.walkF l).2.2 ∧ (d.walkF l).1 = 0 := by
  unfold Dk.findF at h ⊢
  cases hd : d.down with
  | true => rw [hd] at h; simp [zspot] at h
  | false =>
    rw [hd] at h
    cases hp : parseF p with
    | none => rw [hp] at h; simp [zspot] at h
    | some l =>
      rw [hp] at h
      simp only [Bool.false_eq_true, if_false] at h ⊢
      by_cases h1 : (d.walkF l).1 ≠ 0
      · rw [if_pos h1] at h; exact absurd h h1
      rw [if_neg h1] at h ⊢
      by_cases h2 : (d.walkF l).2.2 < 0
      · rw [if_pos h2] at h; simp [zspot] at h
      rw [if_neg h2] at h ⊢
      by_cases h3 : kind ≠ 0 ∧ (d.nd (d.walkF l).2.2).kind ≠ kind
      · rw [if_pos h3] at h; simp [zspot] at h
      rw [if_neg h3]
      exact ⟨l, trivial, rfl, rfl, by omega, by simpa using h1⟩
theorem sim_remove1 (S : Sim D d r) (hI : GI A B dep d) (g : RGood r) (p : ByteArray) : (rremoveF r p).1 = (removeX d p).1 := by
  obtain ⟨q1, q2⟩ := sim_find S hI p 0
  cases hd : d.down with
  | true =>
    have e : rnamesF r p false = (10, []) := by simp [rnamesF, S.down, hd]
    simp [rremoveF, removeX, Dk.findF, hd, e, zspot]
  | false =>
    cases hp : parseF p with
    | none =>
      have e : rnamesF r p false = (11, []) := by simp [rnamesF, S.down, hd, hp]
      have hE : p ≠ E0 := fun h => by rw [h, parse_E0] at hp; cases hp
      simp [rremoveF, removeX, Dk.findF, hd, hp, e, zspot, hE]
    | some l =>
      by_cases hE : p = E0
      · have hl : l = [] := by
          rw [hE, parse_E0] at hp
          simpa using hp.symm
        have e : rnamesF r p false = (11, []) := by simp [rnamesF, S.down, hd, hp, hl]
        have hf : (d.findF p 0).1 = 0 := by
          rw [hl] at hp
          simp [Dk.findF, hd, hp, Dk.walkF, Dk.walkGo]
        have eO : (removeX d p).1 = 11 := by
          unfold removeX
          rw [if_pos ⟨hE, .inl hf⟩]
        have eR : (rremoveF r p).1 = 11 := by
          unfold rremoveF
          rw [e, if_pos (by simp)]
        rw [eO, eR]
      · have hl : l ≠ [] := fun h => hE (parse_nil (by rw [hp, h]))
        have e : rnamesF r p false = (0, l) := by simp [rnamesF, S.down, hd, hp, hl]
        classical
        have eO : removeX d p = if (d.findF p 0).1 ≠ 0 then ((d.findF p 0).1, d) else if ∃ n k, d.seen ((d.findF p 0).2.2, n) = some k then (17, d) else removeF d p := by
          unfold removeX
          rw [if_neg (fun h => hE h.1)]
        have eR : rremoveF r p = if (ratF r p 0).1 ≠ 0 then ((ratF r p 0).1, r) else if (r.th (ratF r p 0).2.2.2).seen.slots ≠ [] then (17, r) else rchF r ⟨(ratF r p 0).2.1, 4, 0, (ratF r p 0).2.2.1, e0, e0⟩ (ratF r p 0).2.1.toNat (r.th (ratF r p 0).2.1) := by
          unfold rremoveF
          rw [e, if_neg (by simp)]
        rw [eO, eR, q1]
        by_cases h0 : (d.findF p 0).1 = 0
        · have hnz : ¬ (d.findF p 0).1 ≠ 0 := fun h => h h0
          rw [if_neg hnz, if_neg hnz, q2 h0]
          obtain ⟨l', _, hp', hw, hk, hz⟩ := find_walk h0
          have hlt := find_lt hI.good p 0
          have hlive : ¬ D (d.findF p 0).2.2 := by
            rw [hw] at hlt ⊢
            exact find_live S hI l' (-1, e0) 0 S.root hz hk
          have hs := sim_slots S hI g (k := (d.findF p 0).2.2) (by rw [hw]; exact hk) hlt hlive
          have ef : (flat (d.findF p 0)).2.2 = (d.findF p 0).2.2 := rfl
          rw [ef]
          by_cases hn : (r.th (d.findF p 0).2.2).seen.slots ≠ []
          · rw [if_pos hn, if_pos (hs.1 hn)]
          · rw [if_neg hn, if_neg fun h => hn (hs.2 h), rchF_one]
            unfold removeF
            rw [if_neg (by simp [h0]), doF_one, sim_act S]
        · rw [if_pos h0, if_pos h0]
theorem new_sim (cap : Int) : Sim (fun _ => False) (newD cap) (newR cap) := by
  have hth : ∀ k : Int, (newR cap).th k = ⟨((newD cap).nd k).kind, ⟨((newD cap).nd k).seen, []⟩, ⟨((newD cap).nd k).kept, []⟩⟩ := fun k => by
    unfold Rk.th Dk.nd newR newD
    cases h : k.toNat with
    | zero => rfl
    | succ n => simp [th0]
  refine ⟨rfl, rfl, rfl, rfl, rfl, fun h => by simp [newD] at h, rfl, fun k => by rw [hth], fun k h0 h1 _ => ⟨⟨by rw [hth], fun x => by rw [hth]; rfl, by rw [hth]; exact List.Pairwise.nil⟩, ⟨by rw [hth], fun x => by rw [hth]; rfl, by rw [hth]; exact List.Pairwise.nil⟩⟩, fun h => h, fun s k h => by simp [newD] at h, fun s k h => by simp [newD] at h, fun c hc => by simp [newD] at hc, rfl⟩
theorem new_good (cap : Int) : RGood (newR cap) := ⟨by simp [newR], fun t ht => by simp [newR] at ht; rw [ht]; simp, fun t ht e he => by simp [newR] at ht; rw [ht] at he; simp at he⟩
end
end Go.Proofs.YtojnickeblbgoaaGreatDoor

/-
  Layer 1 (disk): DiskPaths: the walk.
-/
namespace Go.Proofs.YtojnickeblbgoaaGreatDoor
open Go.Lift
set_option linter.unusedSimpArgs false
set_option linter.unusedVariables false
set_option maxHeartbeats 4000000

theorem tmod2 (n : Int) : (0 ≤ n → n.tmod 2 = n % 2) ∧ (n < 0 → n.tmod 2 = -((-n) % 2)) := by
  refine ⟨fun h => Int.tmod_eq_emod_of_nonneg h, fun h => ?_⟩
  have h1 : (-n).tmod 2 = (-n) % 2 := Int.tmod_eq_emod_of_nonneg (by omega)
  rw [Int.neg_tmod] at h1
  omega
theorem place_run {w : World} (n : Int) {Q : Value → World → Prop} (q : Q (.int .i64 (n % 2)) w) : Run (F.granarylaw1_place (.int .i64 n)) w Q := by
  unfold F.granarylaw1_place
  obtain ⟨a1, a2⟩ := tmod2 n
  have hr : -1 ≤ n.tmod 2 ∧ n.tmod 2 ≤ 1 := by
    by_cases h : 0 ≤ n
    · have := a1 h; omega
    · have := a2 (by omega); omega
  have e2 : IntKind.i64.wrap (n.tmod 2 + 2) = n.tmod 2 + 2 := wrap_int (by omega) (by omega)
  have e3 : (n.tmod 2 + 2).tmod 2 = n % 2 := by
    rw [(tmod2 (n.tmod 2 + 2)).1 (by omega)]
    by_cases h : 0 ≤ n
    · have := a1 h; omega
    · have := a2 (by omega); omega
  simp [e2, e3]
  exact q
/-- The two disks of a bench. -/
structure Bench (w0 w : World) (bb : Nat) (d : Dk) (r : Rk) : Prop where
  ex : ∃ b1 v1 t1 b2 v2 t2, bk w bb = some [Ptr b1, .pointer none, Ptr b2, .pointer none] ∧ DA w b1 d v1 t1 ∧ RA w b2 r v2 t2 ∧ (∀ c, t1 c ≠ 0 → w0.heap.size ≤ c) ∧ (∀ c, t2 c ≠ 0 → w0.heap.size ≤ c) ∧ (∀ c, t1 c ≠ 0 → t2 c = 0) ∧ t1 bb = 0 ∧ t2 bb = 0
  fr : Fr (fun _ => False) w0 w
section
variable {w w0 w' : World}
theorem fresh0_run {bb : Nat} (hb : bk w bb = some [.pointer none, .pointer none, .pointer none, .pointer none]) (hw : wr w bb = true) (f0 : Fr (fun _ => False) w0 w) (hbb : w0.heap.size ≤ bb) (hm0 : ∃ m : Int, bk w0 0 = some [.int .i64 m]) :
    Run (F.granarylaw1_bench_fresh (Ptr bb) (.int .i64 0) (.int .i64 0)) w fun x w' => x = .bool true ∧ Bench w0 w' bb (newD 0) (newR 0) := by
  have hm : ∃ m : Int, bk w 0 = some [.int .i64 m] := hm0.imp fun m h => f0.bk_some h id
  have hz : 0 < w0.heap.size := by obtain ⟨m, h⟩ := hm0; exact bk_lt h
  unfold F.granarylaw1_bench_fresh F.granarylaw1_num
  simp only [Run_bind]
  refine (new2_run (Int.le_refl 0) (by decide) hm).mono ?_
  rintro _ w1 ⟨b1, rfl, v1, t1, h1, hf1, f1⟩
  simp only [extV_tuple, List.getElem?_toArray, List.getElem?_cons_zero, List.getElem?_cons_succ, Run_bindO_some, Run_bind]
  have lb := bk_lt hb
  refine (rnew_run (Int.le_refl 0) (by decide) (by have := f1.size; omega)).mono ?_
  rintro _ w2 ⟨b2, rfl, v2, t2, h2, hf2, f2⟩
  have s1 := f1.size
  have s2 := f2.size
  have s0 := f0.size
  have hb2 : bk w2 bb = some _ := f2.bk_some (f1.bk_some hb id) id
  have hw2 : wr w2 bb = true := by rw [f2.wr (by omega) id, f1.wr lb id]; exact hw
  have t1b : t1 bb = 0 := Classical.byContradiction fun h => by have := hf1 bb h; omega
  have t2b : t2 bb = 0 := Classical.byContradiction fun h => by have := hf2 bb h; omega
  have f02 : Fr (fun _ => False) w0 w2 := (f0.trans f1 fun _ _ => id).trans f2 fun _ _ => id
  have hb3 : bk (sto w2 bb 0 [Ptr b1]) bb = some [Ptr b1, .pointer none, .pointer none, .pointer none] := by rw [bk_sto_eq, hb2]; rfl
  simp [-ldA_ptr, idxR, hb2, hw2, Addr.add_lit, hb3]
  have f3 : Fr (fun c => c = bb) w2 (sto (sto w2 bb 0 [Ptr b1]) bb 2 [Ptr b2]) := ((Fr.refl (fun c => c = bb) w2).sto (.inl rfl) _ _).sto (.inl rfl) _ _
  refine ⟨⟨b1, v1, t1, b2, v2, t2, by rw [bk_sto_eq, hb3]; rfl, (h1.fr0 f2).fr f3 fun c hc => by rw [hc]; exact ⟨t1b, by omega⟩, h2.fr f3 fun c hc => by rw [hc]; exact t2b, fun c hc => by have := hf1 c hc; omega, fun c hc => by have := hf2 c hc; omega, fun c hc => Classical.byContradiction fun hn => ?_, t1b, t2b⟩, (f02.sto (.inr hbb) _ _).sto (.inr hbb) _ _⟩
  have := h1.bound c hc
  have := hf2 c hn
  omega
def opV (kd at' n m : Int) (p q : ByteArray) : Value := .agg #[.int .i64 kd, .int .i64 at', .int .i64 n, .int .i64 m, .string p, .string q]
/-- The kind of a path, on both. -/
theorem looks11_run {bb : Nat} {d : Dk} {r : Rk} (B : Bench w0 w bb d r) {A M : Nat} {dep : Int → Nat} {D : Int → Prop} (hI : GI A M dep d) (g : RGood r) (S : Sim D d r) {p q : ByteArray} (hs : p.size < 4294967281) (n m : Int) :
    Run (F.granarylaw1_bench_looks (Ptr bb) (opV 11 0 n m p q)) w fun x w' => x = .bool true ∧ Bench w0 w' bb d r := by
  unfold F.granarylaw1_bench_looks F.granarylaw1_num
  obtain ⟨b1, v1, t1, b2, v2, t2, hb, h1, h2, hf1, hf2, hd, tb1, tb2⟩ := B.ex
  simp only [Run_bind]
  refine Run_new fun x w1 hx _ f1 hxle => ?_
  have hx1 : bk w1 x = some [.int .i64 11, .int .i64 0, .int .i64 n, .int .i64 m, .string p, .string q] := hx
  have hb1 : bk w1 bb = some _ := f1.bk_some hb id
  simp [-ldA_ptr, hx1]
  refine place_run 0 ?_
  simp [-ldA_ptr, hb1, idxR, Addr.add_lit, hx1]
  refine place_run 0 ?_
  simp [-ldA_ptr, hb1, idxR, Addr.add_lit, hx1]
  have f1d : Fr (fun _ => False) w w1.drew.drew := f1.drew.drew
  have hx1d : bk w1.drew.drew x = some [.int .i64 11, .int .i64 0, .int .i64 n, .int .i64 m, .string p, .string q] := hx1
  refine (kind_run (h1.fr0 f1d) hI.good hs).mono ?_
  rintro _ w2 ⟨rfl, f2⟩
  have hx2 : bk w2 x = some _ := f2.bk_some hx1d id
  have f02 := f1d.trans f2 fun _ _ => id
  simp [-ldA_ptr, hx2]
  refine (rkind_run (h2.fr0 f02) g hs).mono ?_
  rintro _ w3 ⟨rfl, f3⟩
  rw [sim_kind S hI]
  have f03 := f02.trans f3 fun _ _ => id
  simp [-ldA_ptr]
  exact ⟨⟨b1, v1, t1, b2, v2, t2, f03.bk_some hb id, h1.fr0 f03, h2.fr0 f03, hf1, hf2, hd, tb1, tb2⟩, B.fr.trans f03 fun _ _ => id⟩
/-- Remove, on two new disks. -/
theorem new_walk (cap : Int) : ∀ (l : List ByteArray) (a : Slt) (k : Int), l ≠ [] → ((newD cap).walkGo a k l).1 = 0 → ((newD cap).walkGo a k l).2.2 = -1
  | [], _, _, h, _ => absurd rfl h
  | [x], a, k, _, h => by
    unfold Dk.walkGo at h ⊢
    split at h
    · simp [zspot] at h
    rename_i c1
    rw [if_neg c1]
    split at h
    · simp [zspot] at h
    rename_i c2
    rw [if_neg c2, if_neg (by simp)]
    rfl
  | x :: y :: l, a, k, _, h => by
    unfold Dk.walkGo at h
    split at h
    · simp [zspot] at h
    split at h
    · simp [zspot] at h
    rw [if_pos ⟨by simp [newD], by simp⟩] at h
    simp [zspot] at h
theorem new_find (cap : Int) {p : ByteArray} (hp : p ≠ E0) : ((newD cap).findF p 0).1 ≠ 0 := by
  intro h
  obtain ⟨l, _, h1, _, h2, h3⟩ := find_walk h
  have hl : l ≠ [] := fun he => hp (parse_nil (by rw [h1, he]))
  have := new_walk cap l (-1, e0) 0 hl h3
  have h4 : ((newD cap).walkF l).2.2 = -1 := this
  omega
theorem new_removeX (cap : Int) (p : ByteArray) : (removeX (newD cap) p).2 = newD cap := by
  unfold removeX
  split
  · rfl
  · rename_i h
    by_cases hp : p = E0
    · have h0 : ¬ ((newD cap).findF p 0).1 = 0 := fun h0 => h ⟨hp, .inl h0⟩
      rw [if_pos h0]
    · rw [if_pos (new_find cap hp)]
theorem new_rremoveF (cap : Int) (p : ByteArray) : (rremoveF (newR cap) p).2 = newR cap := by
  unfold rremoveF
  split
  · rfl
  · rename_i h
    obtain ⟨_, _, h3⟩ := rnames_false (by simpa using h)
    have hp : p ≠ E0 := fun he => h3 (by rw [he]; exact parse_E0)
    have := (sim_find (new_sim cap) (newD_gi cap) p 0).1
    rw [if_pos (by rw [this]; exact new_find cap hp)]
/-- Two disks beside one another, and blocks that no call writes to. -/
structure BP (w0 w : World) (b1 b2 : Nat) (d : Dk) (r : Rk) (kp : List (Nat × List Value)) : Prop where
  ex : ∃ v1 t1 v2 t2, DA w b1 d v1 t1 ∧ RA w b2 r v2 t2 ∧ (∀ c, t1 c ≠ 0 → w0.heap.size ≤ c) ∧ (∀ c, t2 c ≠ 0 → w0.heap.size ≤ c) ∧ (∀ c, t1 c ≠ 0 → t2 c = 0) ∧ ∀ e ∈ kp, bk w e.1 = some e.2 ∧ t1 e.1 = 0 ∧ t2 e.1 = 0
  fr : Fr (fun _ => False) w0 w
theorem BP.fr0 {b1 b2 : Nat} {d : Dk} {r : Rk} {kp : List (Nat × List Value)} (B : BP w0 w b1 b2 d r kp) (f : Fr (fun _ => False) w w') : BP w0 w' b1 b2 d r kp := by
  obtain ⟨v1, t1, v2, t2, h1, h2, a1, a2, hd, hk⟩ := B.ex
  exact ⟨⟨v1, t1, v2, t2, h1.fr0 f, h2.fr0 f, a1, a2, hd, fun e he => ⟨f.bk_some (hk e he).1 id, (hk e he).2⟩⟩, B.fr.trans f fun _ _ => id⟩
theorem BP.blk {b1 b2 : Nat} {d : Dk} {r : Rk} {kp : List (Nat × List Value)} (B : BP w0 w b1 b2 d r kp) {x : Nat} {l : List Value} (h : (x, l) ∈ kp) : bk w x = some l := by
  obtain ⟨v1, t1, v2, t2, h1, h2, a1, a2, hd, hk⟩ := B.ex
  exact (hk _ h).1
theorem BP.new {b1 b2 : Nat} {d : Dk} {r : Rk} {kp : List (Nat × List Value)} (B : BP w0 w b1 b2 d r kp) (f : Fr (fun _ => False) w w') {x : Nat} {l : List Value} (hx : bk w' x = some l) (hle : w.heap.size ≤ x) : BP w0 w' b1 b2 d r ((x, l) :: kp) := by
  obtain ⟨v1, t1, v2, t2, h1, h2, a1, a2, hd, hk⟩ := B.ex
  refine ⟨⟨v1, t1, v2, t2, h1.fr0 f, h2.fr0 f, a1, a2, hd, fun e he => ?_⟩, B.fr.trans f fun _ _ => id⟩
  rcases List.mem_cons.1 he with rfl | he
  · exact ⟨hx, Classical.byContradiction fun h => by have := h1.bound x h; omega, Classical.byContradiction fun h => by have := h2.bound x h; omega⟩
  · exact ⟨f.bk_some (hk e he).1 id, (hk e he).2⟩
theorem BP.own {b1 b2 : Nat} {d : Dk} {r : Rk} {kp : List (Nat × List Value)} (B : BP w0 w b1 b2 d r kp) {m : M Value} {R : Value → Dk → Prop} (hm : ∀ v t, DA w b1 d v t → Run m w fun x w' => ∃ d', R x d' ∧ DDid w w' b1 t d') :
    Run m w fun x w' => ∃ d', R x d' ∧ BP w0 w' b1 b2 d' r kp := by
  obtain ⟨v1, t1, v2, t2, h1, h2, a1, a2, hd, hk⟩ := B.ex
  refine (hm v1 t1 h1).mono ?_
  rintro x w' ⟨d', hr, f, v', t', h', ht⟩
  have s := f.size
  have s0 := B.fr.size
  refine ⟨d', hr, ⟨v', t', v2, t2, h', h2.fr f fun c hc => hd c hc, fun c hc => (ht c hc).elim (a1 c) fun h => by omega, a2, fun c hc => Classical.byContradiction fun hn => ?_, fun e he => ⟨f.bk_some (hk e he).1 fun h => h (hk e he).2.1, Classical.byContradiction fun hn => ?_, (hk e he).2.2⟩⟩, B.fr.new f a1⟩
  · rcases ht c hc with h | h
    · exact hn (hd c h)
    · have := h2.bound c hn; omega
  · rcases ht e.1 hn with h | h
    · exact h (hk e he).2.1
    · have := bk_lt (hk e he).1; omega
theorem BP.ref {b1 b2 : Nat} {d : Dk} {r : Rk} {kp : List (Nat × List Value)} (B : BP w0 w b1 b2 d r kp) {m : M Value} {R : Value → Rk → Prop} (hm : ∀ v t, RA w b2 r v t → Run m w fun x w' => ∃ r', R x r' ∧ RDid w w' b2 t r') :
    Run m w fun x w' => ∃ r', R x r' ∧ BP w0 w' b1 b2 d r' kp := by
  obtain ⟨v1, t1, v2, t2, h1, h2, a1, a2, hd, hk⟩ := B.ex
  refine (hm v2 t2 h2).mono ?_
  rintro x w' ⟨r', hr, f, v', t', h', ht⟩
  have s := f.size
  have s0 := B.fr.size
  refine ⟨r', hr, ⟨v1, t1, v', t', h1.fr f fun c hc => ⟨Classical.byContradiction fun hn => hc (hd c hn), fun h => by rw [h] at hc; exact hc h2.t0⟩, h', a1, fun c hc => (ht c hc).elim (a2 c) fun h => by omega, fun c hc => Classical.byContradiction fun hn => ?_, fun e he => ⟨f.bk_some (hk e he).1 fun h => h (hk e he).2.2, (hk e he).2.1, Classical.byContradiction fun hn => ?_⟩⟩, B.fr.new f a2⟩
  · rcases ht c hn with h | h
    · exact h (hd c hc)
    · have := h1.bound c hc; omega
  · rcases ht e.1 hn with h | h
    · exact h (hk e he).2.2
    · have := bk_lt (hk e he).1; omega
theorem Bench.bp {bb : Nat} {d : Dk} {r : Rk} (B : Bench w0 w bb d r) : ∃ b1 b2, BP w0 w b1 b2 d r [(bb, [Ptr b1, .pointer none, Ptr b2, .pointer none])] := by
  obtain ⟨b1, v1, t1, b2, v2, t2, hb, h1, h2, hf1, hf2, hd, tb1, tb2⟩ := B.ex
  exact ⟨b1, b2, ⟨v1, t1, v2, t2, h1, h2, hf1, hf2, hd, fun e he => by rw [List.mem_singleton.1 he]; exact ⟨hb, tb1, tb2⟩⟩, B.fr⟩
theorem BP.bench {bb b1 b2 : Nat} {d : Dk} {r : Rk} {kp : List (Nat × List Value)} (B : BP w0 w b1 b2 d r kp) (h : (bb, [Ptr b1, .pointer none, Ptr b2, .pointer none]) ∈ kp) : Bench w0 w bb d r := by
  obtain ⟨v1, t1, v2, t2, h1, h2, a1, a2, hd, hk⟩ := B.ex
  obtain ⟨k1, k2, k3⟩ := hk _ h
  exact ⟨⟨b1, v1, t1, b2, v2, t2, k1, h1, h2, a1, a2, hd, k2, k3⟩, B.fr⟩
theorem writes6_run {bb : Nat} {d : Dk} {r : Rk} (B : Bench w0 w bb d r) {A M : Nat} {dep : Int → Nat} {D : Int → Prop} (hI : GI A M dep d) (g : RGood r) (S : Sim D d r) {p q : ByteArray} (hs : p.size < 4294967281) (hM : M ≤ 16777216) (n m : Int) :
    Run (F.granarylaw1_bench_writes (Ptr bb) (opV 6 0 n m p q)) w fun x w' => x = .bool true ∧ Bench w0 w' bb (removeX d p).2 (rremoveF r p).2 := by
  unfold F.granarylaw1_bench_writes F.granarylaw1_num
  obtain ⟨b1, b2, B1⟩ := B.bp
  have hlen := hI.plen
  simp only [Run_bind]
  refine Run_new fun x w1 hx _ f1 hxle => ?_
  have hx1 : bk w1 x = some [.int .i64 6, .int .i64 0, .int .i64 n, .int .i64 m, .string p, .string q] := hx
  have B2 := B1.new f1 hx1 hxle
  have hb1 := B2.blk (x := bb) (List.mem_cons_of_mem _ (List.mem_singleton.2 rfl))
  simp [-ldA_ptr, hx1]
  refine place_run 0 ?_
  simp [-ldA_ptr, hb1, idxR, Addr.add_lit, hx1]
  refine place_run 0 ?_
  simp [-ldA_ptr, hb1, idxR, Addr.add_lit, hx1]
  have f1d : Fr (fun _ => False) w1 w1.drew.drew := (Fr.refl (fun _ => False) w1).drew.drew
  refine ((B2.fr0 f1d).own (R := fun x d' => x = .int .i64 (removeX d p).1 ∧ d' = (removeX d p).2) fun v t h => (remove3_run h hI.good hs (by omega)).mono fun x w' ⟨h1, h2⟩ => ⟨_, ⟨h1, rfl⟩, h2⟩).mono ?_
  rintro _ w2 ⟨_, ⟨rfl, rfl⟩, B3⟩
  have hx2 := B3.blk (x := x) List.mem_cons_self
  simp [-ldA_ptr, hx2]
  refine (B3.ref (R := fun x r' => x = .int .i64 (rremoveF r p).1 ∧ r' = (rremoveF r p).2) fun v t h => (rremove_run h g hs (by rw [S.line, List.length_map]; omega)).mono fun x w' ⟨h1, h2⟩ => ⟨_, ⟨h1, rfl⟩, h2⟩).mono ?_
  rintro _ w3 ⟨_, ⟨rfl, rfl⟩, B4⟩
  rw [sim_remove1 S hI g]
  simp [-ldA_ptr]
  exact B4.bench (b1 := b1) (b2 := b2) (by simp)
theorem writes1_run {bb : Nat} {d : Dk} {r : Rk} (B : Bench w0 w bb d r) {A M : Nat} {dep : Int → Nat} {D : Int → Prop} (hI : GI A M dep d) (g : RGood r) (S : Sim D d r) {p q : ByteArray} (hs : p.size < 4294967281) (hM : M ≤ 16777216) (n m : Int) :
    Run (F.granarylaw1_bench_writes (Ptr bb) (opV 1 0 n m p q)) w fun x w' => x = .bool true ∧ Bench w0 w' bb (createF d p 1).2 (rmakeF r p 1).2 := by
  unfold F.granarylaw1_bench_writes F.granarylaw1_num
  obtain ⟨b1, b2, B1⟩ := B.bp
  have hlen := hI.plen
  have hnl := hI.len
  simp only [Run_bind]
  refine Run_new fun x w1 hx _ f1 hxle => ?_
  have hx1 : bk w1 x = some [.int .i64 1, .int .i64 0, .int .i64 n, .int .i64 m, .string p, .string q] := hx
  have B2 := B1.new f1 hx1 hxle
  have hb1 := B2.blk (x := bb) (List.mem_cons_of_mem _ (List.mem_singleton.2 rfl))
  simp [-ldA_ptr, hx1]
  refine place_run 0 ?_
  simp [-ldA_ptr, hb1, idxR, Addr.add_lit, hx1]
  refine place_run 0 ?_
  simp [-ldA_ptr, hb1, idxR, Addr.add_lit, hx1]
  have f1d : Fr (fun _ => False) w1 w1.drew.drew := (Fr.refl (fun _ => False) w1).drew.drew
  refine ((B2.fr0 f1d).own (R := fun x d' => x = .int .i64 (createF d p 1).1 ∧ d' = (createF d p 1).2) fun v t h => (mkdirG _ _).2 ((create_run h hI.good hs 1 (by omega) (by omega)).mono fun x w' ⟨h1, h2⟩ => ⟨_, ⟨h1, rfl⟩, h2⟩)).mono ?_
  rintro _ w2 ⟨_, ⟨rfl, rfl⟩, B3⟩
  have hx2 := B3.blk (x := x) List.mem_cons_self
  simp [-ldA_ptr, hx2, F.granaryref1_Disk_Mkdir]
  refine (B3.ref (R := fun x r' => x = .int .i64 (rmakeF r p 1).1 ∧ r' = (rmakeF r p 1).2) fun v t h => (rmake_run h g hs 1 (by rw [S.line, List.length_map]; omega) (by rw [S.len]; omega)).mono fun x w' ⟨h1, h2⟩ => ⟨_, ⟨h1, rfl⟩, h2⟩).mono ?_
  rintro _ w3 ⟨_, ⟨rfl, rfl⟩, B4⟩
  rw [sim_make1 S hI]
  simp [-ldA_ptr]
  exact B4.bench (b1 := b1) (b2 := b2) (by simp)
end
end Go.Proofs.YtojnickeblbgoaaGreatDoor

/-
  Layer 1 (disk): DiskPaths: the whole walk.
-/
namespace Go.Proofs.YtojnickeblbgoaaGreatDoor
open Go.Lift
set_option linter.unusedSimpArgs false
set_option linter.unusedVariables false
set_option maxHeartbeats 4000000

def XX : ByteArray := ByteArray.mk #[120]
def upd (xs : List ByteArray) (i : Nat) : List ByteArray := (xs.take i).map (· ++ XX) ++ xs.drop i
theorem upd_zero (xs : List ByteArray) : upd xs 0 = xs := by simp [upd]
theorem upd_succ {xs : List ByteArray} {i : Nat} {y : ByteArray} (h : xs[i]? = some y) : (upd xs i).set i (y ++ XX) = upd xs (i + 1) ∧ (upd xs i)[i]? = some y := by
  obtain ⟨h1, h2⟩ := List.getElem?_eq_some_iff.1 h
  have hl : ((xs.take i).map (· ++ XX)).length = i := by rw [List.length_map, List.length_take]; omega
  have e : upd xs i = (xs.take i).map (· ++ XX) ++ y :: xs.drop (i + 1) := by unfold upd; rw [List.drop_eq_getElem_cons h1, h2]
  refine ⟨?_, ?_⟩
  · rw [e, List.set_append_right _ _ (by omega), hl, Nat.sub_self]
    unfold upd
    rw [take_snoc h, List.map_append]
    simp
  · rw [e, List.getElem?_append_right (by omega), hl, Nat.sub_self]
    rfl
theorem upd_len (xs : List ByteArray) (i : Nat) : (upd xs i).length = xs.length := by
  unfold upd
  rw [List.length_append, List.length_map, List.length_take, List.length_drop]; omega
theorem upd_sum (xs : List ByteArray) : ((upd xs xs.length).map (·.size)).sum = (xs.map (·.size)).sum + xs.length := by
  unfold upd
  rw [List.take_length, List.drop_length, List.append_nil, List.map_map]
  induction xs with
  | nil => rfl
  | cons x l ih =>
    simp only [List.map_cons, List.sum_cons, List.length_cons, Function.comp] at ih ⊢
    rw [ih]
    have : (x ++ XX).size = x.size + 1 := by rw [ByteArray.size_append]; rfl
    omega
theorem addX {y : ByteArray} (h : y.size ≤ 140737488355328) : strBin .add y (ByteArray.mk #[120]) = some (.string (y ++ XX)) := by
  simp only [strBin]
  rw [if_neg]
  · rfl
  · simp [IntKind.max, IntKind.bits, IntKind.signed]
    rw [show (ByteArray.mk #[120]).size = 1 from rfl]; omega
theorem build_op (k : Int) (p : ByteArray) : buildV #[.int .i64 0, .int .i64 0, .int .i64 0, .int .i64 0, .string ByteArray.empty, .string ByteArray.empty] [(0, 1, .int .i64 k), (4, 1, .string p)] = some (opV k 0 0 0 p e0) := by simp [buildV, fillV, opV]
theorem paths_walk {w : World} {cv : Value} {xs : List ByteArray} (hm : ∃ m : Int, bk w 0 = some [.int .i64 m]) (hv : Sl 1 w cv (xs.map fun x => [.string x])) (hsum : (xs.map (·.size)).sum + xs.length ≤ 1048576) :
    Run (F.granarylaw1_DiskPaths cv) w fun r w' => r = .bool true ∧ Fr (fun _ => False) w w' := by
  unfold F.granarylaw1_DiskPaths
  have hlen := hv.lenL
  rw [List.length_map] at hlen
  have e47 : ByteArray.mk #[47] = slash := rfl
  simp only [Run_bind]
  refine Run_for xs.length (fun i L w' => ∃ m, L = [m, .int .i64 i] ∧ OwnS w w' m (xs.take i)) ⟨_, rfl, OwnS.nil w⟩ ?_ ?_
  · rintro i L w1 hi ⟨m, rfl, hI⟩
    have hi' : (i : Int) < xs.length := by omega
    have ei : xs[i]? = some xs[i] := List.getElem?_eq_getElem hi
    generalize xs[i] = y at ei
    have wi := wrap_succ (n := i) (by omega)
    obtain ⟨p, p1, p2⟩ := (hv.fr0 hI.fr).rd1 (i := i) (y := .string y) (by simp [ei]) .i64
    rw [take_snoc ei]
    have := List.length_take_le i xs
    simp [-ldA_ptr, hlen, hi, p1, p2]
    refine ownS_app hI y (by omega) fun r w2 h2 => ?_
    simp [wi]
    exact h2
  · rintro L w1 ⟨m, rfl, hI⟩
    rw [List.take_length] at hI
    have hml := hI.sl.1.lenL
    rw [List.length_map] at hml
    simp [-ldA_ptr, hlen, F.disk_Path, e47]
    refine (join2_run hI.sl.1 (by decide) (by decide) (by omega) (by omega)).mono ?_
    rintro _ w2 ⟨rfl, f2⟩
    have hI2 : Fr (fun _ => False) w w2 := hI.fr.trans f2 fun _ _ => id
    refine (rpath_run (hv.fr0 hI2) (by omega) (by omega)).mono ?_
    rintro _ _ ⟨rfl, hw⟩
    rw [hw]
    obtain ⟨P, hP⟩ : ∃ P, P = (⟨(joinL xs slash).toArray⟩ : ByteArray) := ⟨_, rfl⟩
    rw [← hP]
    have hPs : P.size < 4294967281 := by
      have := join_len xs
      rw [hP]
      simp only [ByteArray.size, List.size_toArray]; omega
    have hm2 : SlW 1 w2 m (xs.map fun x => [.string x]) := hI.sl.fr f2 fun _ _ => id
    simp [-ldA_ptr]
    refine Run_for xs.length (fun i L w' => L = [.int .i64 i] ∧ Fr (fun _ => False) w2 w') ⟨rfl, Fr.refl _ _⟩ ?_ ?_
    · rintro i L w3 hi ⟨rfl, f3⟩
      have ei : xs[i]? = some xs[i] := List.getElem?_eq_getElem hi
      generalize xs[i] = y at ei
      have wi := wrap_succ (n := i) (by omega)
      obtain ⟨p, p1, p2⟩ := ((hv.fr0 hI2).fr0 f3).rd1 (i := i) (y := .string y) (by simp [ei]) .i64
      obtain ⟨q, q1, q2⟩ := (hm2.1.fr0 f3).rd1 (i := i) (y := .string y) (by simp [ei]) .i64
      simp [-ldA_ptr, hlen, hi, p1, p2, q1, q2, wi]
      exact f3.drew
    · rintro L w3 ⟨rfl, f3⟩
      have hm3 : SlW 1 w3 m (xs.map fun x => [.string x]) := hm2.fr f3 fun _ _ => id
      have f13 : Fr (fun _ => False) w1 w3 := f2.trans f3 fun _ _ => id
      have s13 := f13.size
      simp [-ldA_ptr, hlen]
      refine Run_for xs.length (fun i L w' => L = [.int .i64 i] ∧ SlW 1 w' m ((upd xs i).map fun x => [.string x]) ∧ Fr (inB m) w3 w') ⟨rfl, by rw [upd_zero]; exact hm3, Fr.refl _ _⟩ ?_ ?_
      · rintro i L w4 hi ⟨rfl, hm4, f4⟩
        have ei : xs[i]? = some xs[i] := List.getElem?_eq_getElem hi
        generalize xs[i] = y at ei
        have wi := wrap_succ (n := i) (by omega)
        obtain ⟨u1, u2⟩ := upd_succ ei
        have hys : y.size ≤ 140737488355328 := by
          have := sum_take_le xs (i + 1)
          rw [take_snoc ei, List.map_append, List.sum_append, List.map_singleton, List.sum_singleton] at this
          omega
        obtain ⟨b0, o, j1, j2, j3, j4, j5⟩ := hm4.put (i := i) (e := [.string y]) (by simp [u2]) .i64
        obtain ⟨q, q1, q2⟩ := hm4.1.rd1 (i := i) (y := .string y) (by simp [u2]) .i64
        rw [j1] at q1; cases q1
        obtain ⟨k1, k2⟩ := j5 0 [.string (y ++ XX)] (by simp)
        have hl4 := hm4.1.lenL
        rw [List.length_map, upd_len] at hl4
        have k1' : okAt w4 b0 o 1 := k1
        simp [-ldA_ptr, hl4, hi, j1, q2, addX hys, k1'.2, wi]
        refine ⟨k1'.1, ?_, f4.sto (.inl j2) _ _⟩
        have k3 : SlW 1 (sto w4 b0 o [.string (y ++ XX)]) m (((upd xs i).map fun x => [.string x]).set i [.string (y ++ XX)]) := k2
        rw [← u1, List.map_set]
        exact k3
      · rintro L w4 ⟨rfl, hm4, f4⟩
        have hus := upd_sum xs
        have hul := upd_len xs xs.length
        have hl4 := hm4.1.lenL
        rw [List.length_map, hul] at hl4
        generalize upd xs xs.length = ys at hm4 hus hul
        have f04 : Fr (fun _ => False) w w4 := (hI.fr.trans f13 fun _ _ => id).new f4 fun c hc => (hI.fresh c hc).1
        simp [-ldA_ptr, hl4, F.disk_Path, e47]
        refine (join2_run hm4.1 (by decide) (by decide) (by omega) (by omega)).mono ?_
        rintro _ w5 ⟨rfl, f5⟩
        refine (rpath_run (hm4.1.fr0 f5) (by omega) (by omega)).mono ?_
        rintro _ _ ⟨rfl, hw⟩
        rw [hw]
        have f05 : Fr (fun _ => False) w w5 := f04.trans f5 fun _ _ => id
        have eb : buildV #[.pointer none, .pointer none, .pointer none, .pointer none] [] = some (.agg #[.pointer none, .pointer none, .pointer none, .pointer none]) := rfl
        simp [-ldA_ptr, eb]
        refine Run_new fun bb w6 hb hbw f6 hble => ?_
        have hb' : bk w6 bb = some [.pointer none, .pointer none, .pointer none, .pointer none] := hb
        have s5 := f05.size
        refine (fresh0_run hb' hbw (f05.trans f6 fun _ _ => id) (by omega) hm).mono ?_
        rintro _ w7 ⟨rfl, B7⟩
        simp [-ldA_ptr]
        simp only [build_op, Run_optM_some]
        refine (looks11_run B7 (newD_gi 0) (new_good 0) (new_sim 0) hPs 0 0).mono ?_
        rintro _ w8 ⟨rfl, B8⟩
        simp [-ldA_ptr, build_op]
        refine (writes6_run B8 (newD_gi 0) (new_good 0) (new_sim 0) hPs (by decide) 0 0).mono ?_
        rintro _ w9 ⟨rfl, B9⟩
        rw [new_removeX, new_rremoveF] at B9
        simp [-ldA_ptr, build_op]
        refine (writes1_run B9 (newD_gi 0) (new_good 0) (new_sim 0) hPs (by decide) 0 0).mono ?_
        rintro _ w10 ⟨rfl, B10⟩
        simp
        exact B10.fr
theorem rd_strs {W : World} : ∀ {v : Value} {n : Nat}, (Shs.slice (.str .nil) .nil).Rd W [v] n → ∃ xs : List ByteArray, Sl 1 W v (xs.map fun x => [.string x]) ∧ (xs.map (·.size)).sum + xs.length ≤ n := fun {v n} h => by
  obtain ⟨xs, h1, h2⟩ := h.slice2 (f := fun x => [.string x]) (g := fun x => x.size + 1) fun c k hk hc => by
    obtain ⟨s, c1, m1, rfl, h1, h2⟩ := hc
    cases h2
    exact ⟨s, rfl, by omega⟩
  refine ⟨xs, h1, ?_⟩
  have : (xs.map fun x => x.size + 1).sum = (xs.map (·.size)).sum + xs.length := by
    clear h1 h2
    induction xs with
    | nil => rfl
    | cons x l ih => simp only [List.map_cons, List.sum_cons, List.length_cons, ih]; omega
  omega
theorem diskPaths_top {W : World} {v : Value} {n : Nat} (hv : (Shs.slice (.str .nil) .nil).Rd W [v] n) (hk : n ≤ 1048576) (_hL : laidMetH Tryz.prog Rows.diskPathsUptoRow.laid W) (hsh : W.ShapedOpen Tryz.prog) :
    Run (F.granarylaw1_DiskPaths v) W fun r w' => r = .bool true ∧ Fr (fun _ => False) W w' := by
  obtain ⟨xs, h1, h2⟩ := rd_strs hv
  exact paths_walk (ml_of hsh) h1 (by omega)
end Go.Proofs.YtojnickeblbgoaaGreatDoor
