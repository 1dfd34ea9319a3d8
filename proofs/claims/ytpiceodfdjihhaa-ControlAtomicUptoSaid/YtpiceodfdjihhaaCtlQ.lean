/-
  Layer 15 (control), part Q: how many messages of a kind go to the first node in a job; a job's number, kind and version. Plain data, no program.
-/
import Derived.Test.YtpiceodfdjihhaaCtlB
namespace Go.Proofs.Ytpiceodfdjihhaa
open Go.Lift

/-- How many of these messages, of a phase's kind, go to the first node. -/
def cnt (k : Nat) (l : List Ms) : Nat := (l.filter fun m => decide (m.to = 0) && decide (m.kind = 2 * (k : Int) + 1)).length
@[simp] theorem cnt_nil (k : Nat) : cnt k [] = 0 := rfl
theorem cnt_append (k : Nat) (l l' : List Ms) : cnt k (l ++ l') = cnt k l + cnt k l' := by simp [cnt]
theorem zeros (said : List Bool) : ∀ k, ((missK said k).filter fun i => decide (i = 0)).length ≤ if k = 0 then 0 else 1
  | 0 => by simp [missK]
  | k + 1 => by
    have ih : ((missK said k).filter fun i => decide (i = 0)).length ≤ if k = 0 then 0 else 1 := zeros said k
    rw [missK_succ, List.filter_append, List.length_append]
    by_cases hk : k = 0
    · subst hk
      have : ((if said[0]?.getD true = true then [] else [((0 : Nat) : Int)]).filter fun i => decide (i = 0)).length ≤ 1 := by split <;> simp
      rw [if_pos rfl] at ih
      simp only [Nat.zero_add, Nat.one_ne_zero, if_false]
      omega
    · have : ((if said[k]?.getD true = true then [] else [(k : Int)]).filter fun i => decide (i = 0)).length = 0 := by
        split
        · rfl
        · simp; exact hk
      rw [if_neg hk] at ih
      simp only [Nat.add_one_ne_zero, if_false]
      omega
theorem cnt_msgs (x : CS) (j k : Nat) : ∀ l : List Int, cnt k (l.map (x.msg j)) = if j = k then (l.filter fun i => decide (i = 0)).length else 0
  | [] => by simp [cnt]
  | n :: l => by
    have ih := cnt_msgs x j k l
    have e : cnt k ((n :: l).map (x.msg j)) = (if n = 0 ∧ j = k then 1 else 0) + cnt k (l.map (x.msg j)) := by
      unfold cnt
      rw [List.map_cons, List.filter_cons]
      have hk : (2 * (j : Int) + 1 = 2 * (k : Int) + 1) ↔ j = k := by omega
      by_cases h : n = 0 ∧ j = k
      · obtain ⟨h1, h2⟩ := h
        subst h2; subst h1
        simp [CS.msg]; omega
      · rw [if_neg h, if_neg]
        · omega
        · rw [Bool.and_eq_true, decide_eq_true_eq, decide_eq_true_eq]; exact fun h' => h ⟨h'.1, hk.1 h'.2⟩
    rw [e, ih]
    by_cases h : j = k
    · subst h
      by_cases h0 : n = 0
      · simp [h0]; omega
      · simp [h0]
    · simp [h]
theorem cnt_send (x : CS) {p : Ph} (hp : x.now = some p) (k : Nat) : cnt k x.sendS ≤ if p.kind = k then 1 else 0 := by
  unfold CS.sendS
  rw [hp]
  simp only
  rw [cnt_msgs]
  split
  · have := zeros p.said p.said.length
    split at this <;> omega
  · exact Nat.le_refl _
theorem cnt_enter (x : CS) (j k : Nat) : cnt k (x.enterS j).2 ≤ if j = k then 1 else 0 := cnt_send (x.enterS j).1 (p := Ph.new j x.n) rfl k

/-- What may have gone out so far. -/
structure CntOk (x : CS) (c : Nat → Nat) : Prop where
  c1 : c 1 ≤ 1 + x.patience / x.resend
  c2 : c 2 ≤ x.limit
  c3 : c 3 ≤ x.limit
  c4 : c 4 ≤ x.limit
  now : ∀ p, x.now = some p → (p.kind = 1 → c 1 ≤ 1 + p.ticks / x.resend ∧ c 2 = 0 ∧ c 3 = 0) ∧ (p.kind = 2 → c 2 ≤ p.sends ∧ c 3 = 0) ∧ (p.kind = 3 → c 3 ≤ p.sends) ∧ (p.kind = 4 → c 4 ≤ p.sends)

theorem CntOk.enter3 {x : CS} {c : Nat → Nat} (h : CntOk x c) (hl : 1 ≤ x.limit) {p : Ph} (hp : x.now = some p) (hk : p.kind = 1 ∨ p.kind = 2) : CntOk (x.enterS 3).1 (fun k => c k + cnt k (x.enterS 3).2) := by
  have e1 := cnt_enter x 3 1
  have e2 := cnt_enter x 3 2
  have e3 := cnt_enter x 3 3
  have e4 := cnt_enter x 3 4
  simp at e1 e2 e3 e4
  obtain ⟨n1, n2, n3, n4⟩ := h.now p hp
  have c1 := h.c1
  have c2 := h.c2
  have c4 := h.c4
  have z3 : c 3 = 0 := by rcases hk with hk | hk; exact (n1 hk).2.2; exact (n2 hk).2
  refine ⟨by show c 1 + _ ≤ 1 + x.patience / x.resend; omega, by show c 2 + _ ≤ x.limit; omega, by show c 3 + _ ≤ x.limit; omega, by show c 4 + _ ≤ x.limit; omega, fun q hq => ?_⟩
  cases hq
  refine ⟨fun h => by simp [Ph.new] at h, fun h => by simp [Ph.new] at h, fun _ => ?_, fun h => by simp [Ph.new] at h⟩
  show c 3 + _ ≤ 1
  omega
theorem CntOk.idle {x : CS} {c : Nat → Nat} (h : CntOk x c) (p : Ph) (o : Int) : CntOk (x.endS p o).1 (fun k => c k + cnt k (x.endS p o).2) :=
  ⟨h.c1, h.c2, h.c3, h.c4, fun q hq => by cases hq⟩
theorem CntOk.same {x y : CS} {c : Nat → Nat} (h : CntOk x c) (hs : Same x y) {p q : Ph} (hp : x.now = some p) (hq : y.now = some q) (hk : q.kind = p.kind) (ht : p.ticks ≤ q.ticks) (hn : q.sends = p.sends) : CntOk y c := by
  obtain ⟨n1, n2, n3, n4⟩ := h.now p hp
  refine ⟨by rw [hs.patience, hs.resend]; exact h.c1, by rw [hs.limit]; exact h.c2, by rw [hs.limit]; exact h.c3, by rw [hs.limit]; exact h.c4, fun r hr => ?_⟩
  rw [hq] at hr; cases hr
  rw [hk, hn, hs.resend]
  refine ⟨fun h => ⟨?_, (n1 h).2⟩, n2, n3, n4⟩
  have := (n1 h).1
  have := Nat.div_le_div_right (c := x.resend) ht
  omega
theorem CntOk.plus0 {x : CS} {c : Nat → Nat} (h : CntOk x c) : CntOk x (fun k => c k + cnt k []) := h

theorem CntOk.takeS {x : CS} {c : Nat → Nat} (hx : COk x) (h : CntOk x c) (m : Ms) : CntOk (x.takeS m).1 (fun k => c k + cnt k (x.takeS m).2) := by
  unfold CS.takeS
  split
  · exact h
  rename_i p hp
  have hpo := hx.now p hp
  have hl := hx.limit.1
  split
  · exact h
  split
  · exact h
  split
  · unfold CS.refusedS
    split
    · rename_i hk; exact h.enter3 hl hp hk
    · exact h
  split
  · exact h.same ⟨rfl, rfl, rfl, rfl⟩ hp rfl rfl (Nat.le_refl _) rfl
  · have h' : CntOk { x with now := some (p.take m) } c := h.same ⟨rfl, rfl, rfl, rfl⟩ hp rfl rfl (Nat.le_refl _) rfl
    unfold CS.doneS
    split
    · rename_i hk
      have e1 := cnt_enter { x with now := some (p.take m) } 2 1
      have e2 := cnt_enter { x with now := some (p.take m) } 2 2
      have e3 := cnt_enter { x with now := some (p.take m) } 2 3
      have e4 := cnt_enter { x with now := some (p.take m) } 2 4
      simp at e1 e2 e3 e4
      have n1 := (h.now p hp).1 hk
      have c1 := h.c1
      have c4 := h.c4
      refine ⟨by show c 1 + _ ≤ 1 + x.patience / x.resend; omega, by show c 2 + _ ≤ x.limit; omega, by show c 3 + _ ≤ x.limit; omega, by show c 4 + _ ≤ x.limit; omega, fun q hq => ?_⟩
      cases hq
      refine ⟨fun h => by simp [Ph.new] at h, fun _ => ⟨?_, ?_⟩, fun h => by simp [Ph.new] at h, fun h => by simp [Ph.new] at h⟩
      · show c 2 + _ ≤ 1; omega
      · show c 3 + _ = 0; omega
    · exact h'.idle _ _
theorem CntOk.tickS {x : CS} {c : Nat → Nat} (hx : COk x) (h : CntOk x c) : CntOk x.tickS.1 (fun k => c k + cnt k x.tickS.2) := by
  unfold CS.tickS
  split
  · exact h
  rename_i p hp
  have hpo := hx.now p hp
  have hl := hx.limit.1
  simp only
  have h' : CntOk { x with now := some { p with ticks := p.ticks + 1 } } c := h.same ⟨rfl, rfl, rfl, rfl⟩ hp rfl rfl (Nat.le_succ _) rfl
  have late : CntOk (({ x with now := some { p with ticks := p.ticks + 1 } } : CS).lateS { p with ticks := p.ticks + 1 }).1 (fun k => c k + cnt k (({ x with now := some { p with ticks := p.ticks + 1 } } : CS).lateS { p with ticks := p.ticks + 1 }).2) := by
    unfold CS.lateS
    split
    · rename_i hk; exact h'.enter3 hl rfl hk
    · exact h'.idle _ _
  split
  · rename_i hk
    split
    · exact late
    · rename_i hpt
      split
      · rename_i hm
        have e1 : cnt 1 ({ x with now := some { p with ticks := p.ticks + 1 } } : CS).sendS ≤ if p.kind = 1 then 1 else 0 := cnt_send _ (p := { p with ticks := p.ticks + 1 }) rfl 1
        have e2 : cnt 2 ({ x with now := some { p with ticks := p.ticks + 1 } } : CS).sendS ≤ if p.kind = 2 then 1 else 0 := cnt_send _ (p := { p with ticks := p.ticks + 1 }) rfl 2
        have e3 : cnt 3 ({ x with now := some { p with ticks := p.ticks + 1 } } : CS).sendS ≤ if p.kind = 3 then 1 else 0 := cnt_send _ (p := { p with ticks := p.ticks + 1 }) rfl 3
        have e4 : cnt 4 ({ x with now := some { p with ticks := p.ticks + 1 } } : CS).sendS ≤ if p.kind = 4 then 1 else 0 := cnt_send _ (p := { p with ticks := p.ticks + 1 }) rfl 4
        rw [if_pos hk] at e1
        rw [if_neg (by omega)] at e2 e3 e4
        have n1 := (h.now p hp).1 hk
        have hd := div_step0 hm
        have hle : (p.ticks + 1) / x.resend ≤ x.patience / x.resend := Nat.div_le_div_right (by simp at hpt; omega)
        have c2 := h.c2
        have c4 := h.c4
        have c3 := h.c3
        suffices hh : CntOk { x with now := some { p with ticks := p.ticks + 1 } } (fun k => c k + cnt k ({ x with now := some { p with ticks := p.ticks + 1 } } : CS).sendS) from hh
        refine ⟨by show c 1 + _ ≤ 1 + x.patience / x.resend; omega, by show c 2 + _ ≤ x.limit; omega, by show c 3 + _ ≤ x.limit; omega, by show c 4 + _ ≤ x.limit; omega, fun q hq => ?_⟩
        cases hq
        refine ⟨fun _ => ⟨?_, ?_, ?_⟩, fun h => by simp [hk] at h, fun h => by simp [hk] at h, fun h => by simp [hk] at h⟩
        · show c 1 + _ ≤ 1 + (p.ticks + 1) / x.resend; omega
        · show c 2 + _ = 0; omega
        · show c 3 + _ = 0; omega
      · exact h'
  · rename_i hk
    split
    · exact h'
    · split
      · exact late
      · rename_i hs
        have e1 := cnt_send { x with now := some { p with ticks := p.ticks + 1, sends := p.sends + 1 } } rfl 1
        have e2 := cnt_send { x with now := some { p with ticks := p.ticks + 1, sends := p.sends + 1 } } rfl 2
        have e3 := cnt_send { x with now := some { p with ticks := p.ticks + 1, sends := p.sends + 1 } } rfl 3
        have e4 := cnt_send { x with now := some { p with ticks := p.ticks + 1, sends := p.sends + 1 } } rfl 4
        simp only at e1 e2 e3 e4
        obtain ⟨_, n2, n3, n4⟩ := h.now p hp
        have c1 := h.c1
        have c2 := h.c2
        have c3 := h.c3
        have c4 := h.c4
        have hs' : p.sends < x.limit := by simpa using hs
        have hkd := hpo.kind
        suffices hh : CntOk { x with now := some { p with ticks := p.ticks + 1, sends := p.sends + 1 } } (fun k => c k + cnt k ({ x with now := some { p with ticks := p.ticks + 1, sends := p.sends + 1 } } : CS).sendS) from hh
        refine ⟨?_, ?_, ?_, ?_, fun q hq => ?_⟩
        · show c 1 + _ ≤ 1 + x.patience / x.resend
          rw [if_neg hk] at e1; omega
        · show c 2 + _ ≤ x.limit
          by_cases k2 : p.kind = 2
          · have := n2 k2; rw [if_pos k2] at e2; omega
          · rw [if_neg k2] at e2; omega
        · show c 3 + _ ≤ x.limit
          by_cases k3 : p.kind = 3
          · have := n3 k3; rw [if_pos k3] at e3; omega
          · rw [if_neg k3] at e3; omega
        · show c 4 + _ ≤ x.limit
          by_cases k4 : p.kind = 4
          · have := n4 k4; rw [if_pos k4] at e4; omega
          · rw [if_neg k4] at e4; omega
        · cases hq
          refine ⟨fun h => absurd h hk, fun k2 => ⟨?_, ?_⟩, fun k3 => ?_, fun k4 => ?_⟩
          · show c 2 + _ ≤ p.sends + 1
            have k2' : p.kind = 2 := k2
            have := n2 k2; rw [if_pos k2'] at e2; omega
          · show c 3 + _ = 0
            have k2' : p.kind = 2 := k2
            have := n2 k2; rw [if_neg (by omega)] at e3; omega
          · show c 3 + _ ≤ p.sends + 1
            have k3' : p.kind = 3 := k3
            have := n3 k3; rw [if_pos k3'] at e3; omega
          · show c 4 + _ ≤ p.sends + 1
            have k4' : p.kind = 4 := k4
            have := n4 k4; rw [if_pos k4'] at e4; omega
/-- The first sending. -/
theorem CntOk.first {x : CS} (hl : 1 ≤ x.limit) {j : Nat} : CntOk (x.enterS j).1 (fun k => cnt k (x.enterS j).2) := by
  have e1 := cnt_enter x j 1
  have e2 := cnt_enter x j 2
  have e3 := cnt_enter x j 3
  have e4 := cnt_enter x j 4
  refine ⟨?_, ?_, ?_, ?_, fun q hq => ?_⟩
  · show _ ≤ 1 + x.patience / x.resend
    have := Nat.zero_le (x.patience / x.resend)
    generalize x.patience / x.resend = q at *
    show cnt 1 (x.enterS j).2 ≤ 1 + q
    split at e1 <;> omega
  · show _ ≤ x.limit
    split at e2 <;> omega
  · show _ ≤ x.limit
    split at e3 <;> omega
  · show _ ≤ x.limit
    split at e4 <;> omega
  · cases hq
    refine ⟨fun h => ⟨?_, ?_, ?_⟩, fun h => ⟨?_, ?_⟩, fun h => ?_, fun h => ?_⟩ <;> simp only [Ph.new] at h <;> subst h <;> simp at e1 e2 e3 e4 <;> first | omega | (show _ ≤ 1; omega) | (show cnt 1 (x.enterS 1).2 ≤ 1 + 0 / x.resend; exact Nat.le_trans e1 (Nat.le_add_right 1 _))

/-- The job that is going on, or has ended. -/
structure JobIs (x : CS) (j k v : Int) : Prop where
  job : x.job = j
  kind : x.kind = k
  ver : x.ver = v
  over : x.now = none → x.ended = true ∧ x.last.job = j ∧ x.last.kind = k ∧ x.last.version = v
theorem JobIs.enterS {x : CS} {j k v : Int} (h1 : x.job = j) (h2 : x.kind = k) (h3 : x.ver = v) (i : Nat) : JobIs (x.enterS i).1 j k v := ⟨h1, h2, h3, fun h => by cases h⟩
theorem JobIs.endS {x : CS} {j k v : Int} (h1 : x.job = j) (h2 : x.kind = k) (h3 : x.ver = v) (p : Ph) (o : Int) : JobIs (x.endS p o).1 j k v := ⟨h1, h2, h3, fun _ => ⟨rfl, h1, h2, h3⟩⟩
theorem JobIs.set {x : CS} {j k v : Int} (h1 : x.job = j) (h2 : x.kind = k) (h3 : x.ver = v) (p : Ph) : JobIs { x with now := some p } j k v := ⟨h1, h2, h3, fun h => by cases h⟩
theorem JobIs.takeS {x : CS} {j k v : Int} (h : JobIs x j k v) (m : Ms) : JobIs (x.takeS m).1 j k v := by
  obtain ⟨h1, h2, h3, h4⟩ := h
  unfold CS.takeS
  split
  · exact ⟨h1, h2, h3, h4⟩
  split
  · exact ⟨h1, h2, h3, h4⟩
  split
  · exact ⟨h1, h2, h3, h4⟩
  split
  · unfold CS.refusedS
    split
    · exact .enterS h1 h2 h3 _
    · exact ⟨h1, h2, h3, h4⟩
  split
  · exact .set h1 h2 h3 _
  · unfold CS.doneS
    split
    · exact .enterS (x := { x with now := _ }) h1 h2 h3 _
    · exact .endS (x := { x with now := _ }) h1 h2 h3 _ _
theorem JobIs.tickS {x : CS} {j k v : Int} (h : JobIs x j k v) : JobIs x.tickS.1 j k v := by
  obtain ⟨h1, h2, h3, h4⟩ := h
  have late : ∀ p, JobIs (({ x with now := some p } : CS).lateS p).1 j k v := by
    intro p
    unfold CS.lateS
    split
    · exact .enterS (x := { x with now := _ }) h1 h2 h3 _
    · exact .endS (x := { x with now := _ }) h1 h2 h3 _ _
  unfold CS.tickS
  split
  · exact ⟨h1, h2, h3, h4⟩
  simp only
  repeat' split
  all_goals first | exact late _ | exact .set h1 h2 h3 _

end Go.Proofs.Ytpiceodfdjihhaa
