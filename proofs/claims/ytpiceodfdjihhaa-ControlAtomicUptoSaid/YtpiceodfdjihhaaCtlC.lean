/-
  Layer 15 (control), part C: a job all of whose messages are answered. Plain data, no program.
-/
import Derived.Test.YtpiceodfdjihhaaCtlB
namespace Go.Proofs.Ytpiceodfdjihhaa
open Go.Lift

/-- The answer that a node gives: OK, it holds h, or what it is told. -/
def ansOf (m : Ms) (h : Int) : Ms :=
  ⟨m.kind + 1, m.to, m.sender, m.id, m.epoch, m.seq, if m.kind = 3 ∨ m.kind = 5 then m.version else h, 0, 0, .string ByteArray.empty, .string ByteArray.empty⟩
/-- Messages answered one behind the other: the state, and what goes out. -/
def CS.answersS (x : CS) (h : Int) : List Ms → CS × List Ms
  | [] => (x, [])
  | m :: l => let r := x.takeS (ansOf m h); let q := r.1.answersS h l; (q.1, r.2 ++ q.2)
theorem answersS_append (h : Int) : ∀ (l l' : List Ms) (x : CS), x.answersS h (l ++ l') = ((((x.answersS h l).1).answersS h l').1, (x.answersS h l).2 ++ ((x.answersS h l).1.answersS h l').2)
  | [], l', x => by simp [CS.answersS]
  | m :: l, l', x => by simp [CS.answersS, answersS_append h l l', List.append_assoc]

/-- All messages of a phase. -/
def CS.allS (x : CS) (k : Nat) : List Ms := (List.range x.n).map fun (i : Nat) => x.msg k (i : Int)
theorem missK_none (n k : Nat) (h : k ≤ n) : missK (List.replicate n false) k = (List.range k).map fun (i : Nat) => (i : Int) := by
  unfold missK
  congr 1
  rw [List.filter_eq_self]
  intro i hi
  have : i < n := by have := List.mem_range.1 hi; omega
  simp [this]
theorem missK_all (n k : Nat) : missK (List.replicate n true) k = [] := by
  unfold missK
  simp only [List.map_eq_nil_iff, List.filter_eq_nil_iff]
  intro i _
  by_cases h : i < n
  · simp [h]
  · simp [h]
theorem enterS_out (x : CS) (k : Nat) : (x.enterS k).2 = x.allS k := by
  simp only [CS.enterS, CS.sendS, CS.allS, Ph.new, List.length_replicate, missK_none _ _ (Nat.le_refl _), List.map_map]
  rfl

/-- What a node holds by its answer to a message of a phase. -/
def CS.heldS (x : CS) (k : Nat) (h : Int) : Int := if k = 2 then x.ver else h
/-- The phase k behind i answers. -/
def Ph.at_ (x : CS) (k : Nat) (h : Int) (p : Ph) (i : Nat) : Ph :=
  { p with said := List.replicate i true ++ List.replicate (x.n - i) false, holds := if k = 1 then p.holds else List.replicate i (x.heldS k h) ++ List.replicate (x.n - i) (-1) }
theorem set_rep {α : Type} (a b : α) (i m : Nat) : (List.replicate i a ++ List.replicate (m + 1) b).set i a = List.replicate (i + 1) a ++ List.replicate m b := by
  rw [List.set_append, if_neg (by simp), List.length_replicate, Nat.sub_self, List.replicate_succ, List.set_cons_zero, List.replicate_succ' (n := i), List.append_assoc]
  rfl

/-- x, whose phase is of the kind k, and no node has answered. -/
structure Fresh (x : CS) (k : Nat) (p : Ph) : Prop where
  n : 1 ≤ x.n
  now : x.now = some p
  kind : p.kind = k
  said : p.said = List.replicate x.n false
  holds : p.holds = List.replicate x.n (-1)
  k : 1 ≤ k ∧ k ≤ 4

theorem ans_fits {x : CS} {k : Nat} {p : Ph} (hk : p.kind = k) (hkk : 1 ≤ k ∧ k ≤ 4) (i h : Int) : x.fits p (ansOf (x.msg k i) h) = true := by
  subst hk
  unfold CS.fits ansOf CS.msg
  obtain ⟨h1, h2⟩ := hkk
  rcases (by omega : p.kind = 1 ∨ p.kind = 2 ∨ p.kind = 3 ∨ p.kind = 4) with e | e | e | e <;> simp [e]
theorem ans_version (x : CS) (k : Nat) (hk : 1 ≤ k ∧ k ≤ 4) (i h : Int) : k ≠ 1 → (ansOf (x.msg k i) h).version = x.heldS k h := by
  unfold ansOf CS.msg CS.heldS
  rcases (by omega : k = 1 ∨ k = 2 ∨ k = 3 ∨ k = 4) with e | e | e | e <;> simp [e]

theorem step_at {x : CS} {k : Nat} {p : Ph} (hf : Fresh x k p) (h : Int) {i : Nat} (hi : i < x.n) :
    ({ x with now := some (p.at_ x k h i) } : CS).takeS (ansOf (x.msg k (i : Int)) h) =
      if i + 1 < x.n then ({ x with now := some (p.at_ x k h (i + 1)) }, []) else ({ x with now := some (p.at_ x k h (i + 1)) } : CS).doneS (p.at_ x k h (i + 1)) := by
  obtain ⟨m, hm⟩ : ∃ m, x.n - i = m + 1 := ⟨x.n - i - 1, by omega⟩
  have hm' : x.n - (i + 1) = m := by omega
  have e1 : (p.at_ x k h i).take (ansOf (x.msg k (i : Int)) h) = p.at_ x k h (i + 1) := by
    unfold Ph.take Ph.at_
    simp only [hf.kind, ansOf, CS.msg, Int.toNat_natCast, hm, hm']
    rw [set_rep]
    by_cases h1 : k = 1
    · simp [h1]
    · have hv := ans_version x k hf.k i h h1
      simp only [ansOf, CS.msg] at hv
      simp only [if_neg h1, hv, set_rep]
  unfold CS.takeS
  simp only
  rw [if_neg (by
    rw [Classical.not_not]
    refine ⟨by simp [ansOf, CS.msg], by simp [ansOf, CS.msg, hi], rfl, ?_⟩
    exact ans_fits (x := { x with now := some (p.at_ x k h i) }) (p := p.at_ x k h i) hf.kind hf.k i h)]
  rw [if_neg (by simp [ansOf, CS.msg, Ph.at_, List.getElem?_append_right, hm])]
  rw [if_neg (by simp [ansOf]), e1]
  have hc : (p.at_ x k h (i + 1)).said.contains false = decide (i + 1 < x.n) := by
    unfold Ph.at_
    simp only [hm']
    by_cases h2 : i + 1 < x.n
    · simp [h2]; omega
    · simp [h2]; omega
  rw [hc]
  by_cases h2 : i + 1 < x.n
  · simp [h2]
  · simp [h2]
theorem at_zero {x : CS} {k : Nat} {p : Ph} (hf : Fresh x k p) (h : Int) : p.at_ x k h 0 = p := by
  unfold Ph.at_
  cases p
  have := hf.said
  have := hf.holds
  simp_all
theorem answers_at {x : CS} {k : Nat} {p : Ph} (hf : Fresh x k p) (h : Int) : ∀ i, i < x.n →
    x.answersS h ((List.range i).map fun (j : Nat) => x.msg k (j : Int)) = ({ x with now := some (p.at_ x k h i) }, [])
  | 0, _ => by
    have e : ({ x with now := some (p.at_ x k h 0) } : CS) = x := by rw [at_zero hf, ← hf.now]
    rw [e]; rfl
  | i + 1, hi => by
    rw [List.range_succ, List.map_append, answersS_append, answers_at hf h i (by omega)]
    simp only [List.map_cons, List.map_nil, CS.answersS]
    rw [step_at hf h (by omega), if_pos hi]
    simp
/-- All have answered: what comes of it. -/
theorem answers_all {x : CS} {k : Nat} {p : Ph} (hf : Fresh x k p) (h : Int) : x.answersS h (x.allS k) = ({ x with now := some (p.at_ x k h x.n) } : CS).doneS (p.at_ x k h x.n) := by
  unfold CS.allS
  obtain ⟨n, hn⟩ : ∃ n, x.n = n + 1 := ⟨x.n - 1, by have := hf.n; omega⟩
  have hstep := step_at hf h (i := n) (by omega)
  rw [if_neg (by omega)] at hstep
  rw [hn, List.range_succ, List.map_append, answersS_append, answers_at hf h n (by omega)]
  simp only [List.map_cons, List.map_nil, CS.answersS]
  rw [hstep]
  simp [hn]
theorem at_all {x : CS} {k : Nat} {p : Ph} (h : Int) : p.at_ x k h x.n = { p with said := List.replicate x.n true, holds := if k = 1 then p.holds else List.replicate x.n (x.heldS k h) } := by
  simp [Ph.at_]
theorem fresh_enter (x : CS) {k : Nat} (hn : 1 ≤ x.n) (hk : 1 ≤ k ∧ k ≤ 4) : Fresh (x.enterS k).1 k (Ph.new k x.n) := ⟨hn, rfl, rfl, rfl, rfl, hk⟩
theorem enter_all (x : CS) (k : Nat) : (x.enterS k).2 = (x.enterS k).1.allS k := enterS_out x k
/-- A phase that ends the job, all answered. -/
theorem answers_end (x : CS) {k : Nat} (hn : 1 ≤ x.n) (hk : 2 ≤ k ∧ k ≤ 4) (h : Int) :
    (x.enterS k).1.answersS h (x.enterS k).2 = ({ x with now := none, ended := true, last := ⟨x.job, x.kind, x.ver, if k = 3 then 2 else 1, List.replicate x.n (x.heldS k h), []⟩ }, []) := by
  rw [enter_all, answers_all (fresh_enter x hn (by omega)) h]
  unfold CS.doneS
  rw [if_neg (by simp [Ph.at_, Ph.new]; omega)]
  simp only [CS.endS, at_all, Ph.new, CS.enterS, if_neg (show ¬ k = 1 by omega), missK_all]
  rfl
/-- Fetched by all: the Swaps go out. -/
theorem answers_fetch (x : CS) (hn : 1 ≤ x.n) (h : Int) : (x.enterS 1).1.answersS h (x.enterS 1).2 = x.enterS 2 := by
  rw [enter_all, answers_all (fresh_enter x hn (by omega)) h]
  unfold CS.doneS
  rw [if_pos (by simp [Ph.at_, Ph.new])]
  rfl

end Go.Proofs.Ytpiceodfdjihhaa
