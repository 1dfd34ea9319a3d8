/-
  Layer 6 (ring), part P: what is true of the homes and of the owners.
-/
import Derived.Test.YtiggkhmopnhfaaaDoorRingG
namespace Go.Proofs.YtiggkhmopnhfaaaDoor
open Go.Lift

def isHome (n : Int) : Bool := decide (0 ≤ n)
theorem putH_count {c i : Nat} {h h' : List Int} {p : Int} (hc : h.length = c) (e : putH c i h p = some h') : h'.countP isHome = h.countP isHome + 1 := by
  unfold putH at e
  split at e
  · cases e
  · split at e
    · cases e
    · split at e
      · cases e
      · rename_i h1 h2 h3
        cases e
        have hp : p.toNat < h.length := by omega
        have hg : h.getD p.toNat 0 = h[p.toNat] := by simp [List.getD, hp]
        rw [hg] at h3
        rw [List.countP_set hp]
        have e1 : isHome h[p.toNat] = false := by simp [isHome]; omega
        have e2 : isHome (i : Int) = true := by simp [isHome]
        rw [e1, e2]
        simp
theorem foldH_count {c i : Nat} : ∀ {l : List Int} {h h' : List Int}, h.length = c → l.foldlM (putH c i) h = some h' → h'.countP isHome = h.countP isHome + l.length
  | [], h, h', _, e => by cases e; rfl
  | p :: l, h, h', hc, e => by
    simp only [List.foldlM_cons] at e
    cases e1 : putH c i h p with
    | none => simp [e1] at e
    | some h1 =>
      simp [e1] at e
      rw [foldH_count (by rw [putH_len e1]; exact hc) e, putH_count hc e1, List.length_cons]
      omega
theorem foldN_count {c : Nat} : ∀ {l : List ((Int × List Int) × Nat)} {h h' : List Int}, h.length = c → l.foldlM (nodeH c) h = some h' → h'.countP isHome = h.countP isHome + (l.map (·.1.2.length)).sum
  | [], h, h', _, e => by cases e; rfl
  | x :: l, h, h', hc, e => by
    simp only [List.foldlM_cons] at e
    cases e1 : nodeH c h x with
    | none => simp [e1] at e
    | some h1 =>
      simp [e1] at e
      unfold nodeH at e1
      split at e1
      · rw [foldN_count (by rw [foldH_len e1]; exact hc) e, foldH_count hc e1, List.map_cons, List.sum_cons]
        omega
      · cases e1
/-- What is laid down in a list of homes: each entry that is one is a node below n that has the partition. -/
def Laid (C : Clu) (h : List Int) : Prop := ∀ (p : Nat) (a : Int), h[p]? = some a → 0 ≤ a → ∃ n, C.nodes[a.toNat]? = some n ∧ (p : Int) ∈ n.2
theorem putH_laid {C : Clu} {c i : Nat} {h h' : List Int} {p : Int} {n : Int × List Int} (hn : C.nodes[i]? = some n) (hp : p ∈ n.2) (hL : Laid C h) (e : putH c i h p = some h') : Laid C h' := by
  unfold putH at e
  split at e
  · cases e
  · split at e
    · cases e
    · split at e
      · cases e
      · cases e
        intro q a hq ha
        by_cases hqp : p.toNat = q
        · subst hqp
          have hlt := (List.getElem?_eq_some_iff.1 hq).1
          rw [List.getElem?_set_self (by simpa using hlt)] at hq
          cases hq
          refine ⟨n, by simpa using hn, ?_⟩
          rw [Int.toNat_of_nonneg (by omega)]; exact hp
        · rw [List.getElem?_set_ne hqp] at hq
          exact hL q a hq ha
theorem foldH_laid {C : Clu} {c i : Nat} {n : Int × List Int} (hn : C.nodes[i]? = some n) : ∀ {l : List Int} {h h' : List Int}, (∀ p ∈ l, p ∈ n.2) → Laid C h → l.foldlM (putH c i) h = some h' → Laid C h'
  | [], h, h', _, hL, e => by cases e; exact hL
  | p :: l, h, h', hp, hL, e => by
    simp only [List.foldlM_cons] at e
    cases e1 : putH c i h p with
    | none => simp [e1] at e
    | some h1 =>
      simp [e1] at e
      exact foldH_laid hn (fun q hq => hp q (by simp [hq])) (putH_laid hn (hp p (by simp)) hL e1) e
theorem foldN_laid {C : Clu} {c : Nat} : ∀ {l : List ((Int × List Int) × Nat)} {h h' : List Int}, (∀ x ∈ l, C.nodes[x.2]? = some x.1) → Laid C h → l.foldlM (nodeH c) h = some h' → Laid C h'
  | [], h, h', _, hL, e => by cases e; exact hL
  | x :: l, h, h', hx, hL, e => by
    simp only [List.foldlM_cons] at e
    cases e1 : nodeH c h x with
    | none => simp [e1] at e
    | some h1 =>
      simp [e1] at e
      unfold nodeH at e1
      split at e1
      · exact foldN_laid (fun y hy => hx y (by simp [hy])) (foldH_laid (hx x (by simp)) (fun p hp => hp) hL e1) e
      · cases e1
/-- Each partition has its node, and the node has it. -/
theorem homesF_home {C : Clu} {home : List Int} (h : homesF C = some home) {p : Nat} (hp : p < home.length) : ∃ n : Nat, home[p]? = some (n : Int) ∧ ∃ x, C.nodes[n]? = some x ∧ (p : Int) ∈ x.2 := by
  obtain ⟨hl, hc1, hc2⟩ := homesF_len h
  unfold homesF at h
  rw [if_pos ⟨hc1, hc2⟩] at h
  have hcount := foldN_count (by simp) h
  have hrep : (List.replicate C.count (-1 : Int)).countP isHome = 0 := by simp [List.countP_replicate, isHome]
  have hsum : (C.nodes.zipIdx.map (·.1.2.length)).sum = C.count := by
    unfold Clu.count
    congr 1
    apply List.ext_getElem?
    intro i
    simp only [List.getElem?_map, List.getElem?_zipIdx, Option.map_map]
    rfl
  rw [hrep, hsum, Nat.zero_add] at hcount
  have hall : ∀ a ∈ home, isHome a = true := by
    rw [← List.countP_eq_length]
    omega
  have hlaid : Laid C home := by
    refine foldN_laid (fun x hx => ?_) ?_ h
    · obtain ⟨⟨a, i⟩⟩ := x
      have := List.mem_zipIdx_iff_getElem?.1 hx
      exact this
    · intro p a hpa ha
      rw [List.getElem?_replicate] at hpa
      split at hpa
      · cases hpa; omega
      · cases hpa
  have e := List.getElem?_eq_getElem hp
  have hn := hall _ (List.getElem_mem hp)
  have hn' : 0 ≤ home[p] := by simpa [isHome] using hn
  obtain ⟨x, hx, hm⟩ := hlaid p _ e hn'
  exact ⟨home[p].toNat, by rw [e, Int.toNat_of_nonneg hn'], x, hx, hm⟩

end Go.Proofs.YtiggkhmopnhfaaaDoor
