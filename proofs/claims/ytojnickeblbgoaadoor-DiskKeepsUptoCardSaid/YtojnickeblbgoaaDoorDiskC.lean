/-
  Layer 1 (disk), part C: a change done; a path walked.
-/
import Derived.Test.YtojnickeblbgoaaDoorDiskB
namespace Go.Proofs.YtojnickeblbgoaaDoor
set_option linter.unusedVariables false
open Go.Lift
set_option linter.unusedSimpArgs false
set_option maxHeartbeats 2000000

/-- What a call on a disk did. -/
def DDid (w w' : World) (b : Nat) (tag : Nat → Nat) (d' : Dk) : Prop := Fr (fun c => tag c ≠ 0) w w' ∧ ∃ v' tag', DA w' b d' v' tag' ∧ ∀ c, tag' c ≠ 0 → tag c ≠ 0 ∨ w.heap.size ≤ c
section
variable {w w' w'' : World} {b : Nat} {d d' : Dk} {v : DV} {tag : Nat → Nat}
theorem DA.did (h : DA w' b d' v tag) (f : Fr (fun c => tag c ≠ 0) w w') : DDid w w' b tag d' := ⟨f, v, tag, h, fun _ h => .inl h⟩
theorem DDid.pre (f : Fr (fun _ => False) w w') (h : DDid w' w'' b tag d') : DDid w w'' b tag d' := by
  obtain ⟨f', v', tag', h1, h2⟩ := h
  have s := f.size
  exact ⟨(f.mono fun _ h => h.elim).trans f' fun _ _ h => h, v', tag', h1, fun c hc => (h2 c hc).imp id fun h => by omega⟩
theorem DDid.post (h : DDid w w' b tag d') (f : Fr (fun _ => False) w' w'') : DDid w w'' b tag d' := by
  obtain ⟨f', v', tag', h1, h2⟩ := h
  exact ⟨f'.trans f fun _ _ h => h.elim, v', tag', h1.fr0 f, h2⟩
theorem DDid.trans {tag' : Nat → Nat} {d'' : Dk} (hb : ∀ c, tag c ≠ 0 → c < w.heap.size) (f : Fr (fun c => tag c ≠ 0) w w') (ht : ∀ c, tag' c ≠ 0 → tag c ≠ 0 ∨ w.heap.size ≤ c) (h : DDid w' w'' b tag' d'') : DDid w w'' b tag d'' := by
  obtain ⟨f', v'', tag'', h1, h2⟩ := h
  have s := f.size
  exact ⟨f.trans f' fun c hc h => (ht c h).elim id fun h' => by omega, v'', tag'', h1, fun c hc => (h2 c hc).elim (ht c) fun h => .inr (by omega)⟩

/-- Another list of pending changes. -/
theorem DA.newPend (h : DA w b d v tag) (f0 : Fr (inB v.pv) w w') {r : Value} {l : List Chg} (hr : SlW 7 w' r (l.map Chg.cells)) (hin : ∀ c, inB r c → inB v.pv c ∨ (w.heap.size ≤ c ∧ c < w'.heap.size)) :
    Go.Lift.bk w' b = some (d.cells v) ∧ Go.Lift.wr w' b = true ∧ ∃ tag', DA (sto w' b 9 [r]) b { d with pending := l } { v with pv := r } tag' ∧ Fr (fun c => tag c ≠ 0) w (sto w' b 9 [r]) ∧ ∀ c, tag' c ≠ 0 → tag c ≠ 0 ∨ w.heap.size ≤ c := by
  classical
  have s := f0.size
  have told : ∀ c, inB v.pv c → tag c = 5 := h.tp
  have nv : ∀ c, tag c ≠ 5 → ¬ inB v.pv c := fun c hc hi => hc (told c hi)
  have hb := h.blk
  have hb' : Go.Lift.bk w' b = some (d.cells v) := f0.bk_some hb (nv b (by rw [h.tb]; decide))
  have hw' : Go.Lift.wr w' b = true := by rw [f0.wr (bk_lt hb) (nv b (by rw [h.tb]; decide))]; exact h.wr
  have f : Fr (fun c => inB v.pv c ∨ c = b) w (sto w' b 9 [r]) := by
    refine Fr.sto (b := b) (f0.mono fun c hc => ?_) (.inl ?_) _ _
    · exact Or.inl hc
    · exact Or.inr rfl
  have nb : ∀ c, tag c ≠ 1 → tag c ≠ 5 → ¬ (inB v.pv c ∨ c = b) := fun c h1 h4 hc => hc.elim (nv c h4) fun he => h1 (by rw [he]; exact h.tb)
  obtain ⟨m, hm⟩ := h.ml
  have hpos := bk_lt hm
  have nr : ∀ c, tag c ≠ 0 → tag c ≠ 5 → ¬ inB r c := fun c h0 h5 hi => by
    rcases hin c hi with h' | h'
    · exact nv c h5 h'
    · have := h.bound c h0; omega
  have hrb : ∀ c, inB r c → ¬ c = b := fun c hc he => nr b (by rw [h.tb]; decide) (by rw [h.tb]; decide) (he ▸ hc)
  have hr' := hr.fr ((Fr.refl (fun c => c = b) w').sto (.inl rfl) 9 [r]) hrb
  obtain ⟨tag', tpos, tneg, tboth⟩ : ∃ tag' : Nat → Nat, (∀ c, inB r c → tag' c = 5) ∧ (∀ c, tag c ≠ 0 → tag c ≠ 5 → tag' c = tag c) ∧ (∀ c, ¬ inB r c → tag' c = tag c) :=
    ⟨fun c => if inB r c then 5 else tag c, fun c hc => if_pos hc, fun c h0 h5 => if_neg (nr c h0 h5), fun c hc => if_neg hc⟩
  refine ⟨hb', hw', tag', ⟨?_, by rw [wr_sto]; exact hw', h.nodes.fr f fun c hc => nb c (by rw [h.tn c hc]; decide) (by rw [h.tn c hc]; decide), h.seen.fr f (nb _ (by rw [h.ts]; decide) (by rw [h.ts]; decide)), h.seenE, h.kept.fr f (nb _ (by rw [h.tk]; decide) (by rw [h.tk]; decide)), h.keptE, hr', ?_, ?_, ?_, fun c hc => by rw [tneg c (by rw [h.tn c hc]; decide) (by rw [h.tn c hc]; decide)]; exact h.tn c hc, fun c hc => tpos c hc, ?_, ⟨m, f.bk_some hm (nb 0 (by rw [h.t0]; decide) (by rw [h.t0]; decide))⟩, ?_⟩, f.mono ?_, ?_⟩
  · rw [bk_sto_eq, hb']
    simp [Dk.cells]
  · rw [tneg b (by rw [h.tb]; decide) (by rw [h.tb]; decide)]; exact h.tb
  · rw [tneg _ (by rw [h.ts]; decide) (by rw [h.ts]; decide)]; exact h.ts
  · rw [tneg _ (by rw [h.tk]; decide) (by rw [h.tk]; decide)]; exact h.tk
  · rw [tboth 0 fun hi => ?_]
    · exact h.t0
    · rcases hin 0 hi with h' | h'
      · have := told 0 h'; rw [h.t0] at this; cases this
      · omega
  · intro c hc
    rw [size_sto]
    by_cases hi : inB r c
    · rcases hin c hi with h' | h'
      · have := h.bound c (by rw [told c h']; decide); omega
      · exact h'.2
    · rw [tboth c hi] at hc
      have := h.bound c hc; omega
  · rintro c (hc | hc)
    · rw [told c hc]; decide
    · rw [hc, h.tb]; decide
  · intro c hc
    by_cases hi : inB r c
    · rcases hin c hi with h' | h'
      · exact .inl (by rw [told c h']; decide)
      · exact .inr h'.1
    · rw [tboth c hi] at hc; exact .inl hc
/-- Another list of pending changes (its memory may be older). -/
theorem DA.newPendG (h : DA w b d v tag) (f0 : Fr (inB v.pv) w w') {r : Value} {l : List Chg} (hr : SlW 7 w' r (l.map Chg.cells)) (hin : ∀ c, inB r c → inB v.pv c ∨ (tag c = 0 ∧ c < w'.heap.size ∧ c ≠ 0)) :
    Go.Lift.bk w' b = some (d.cells v) ∧ Go.Lift.wr w' b = true ∧ ∃ tag', DA (sto w' b 9 [r]) b { d with pending := l } { v with pv := r } tag' ∧ Fr (fun c => tag c ≠ 0) w (sto w' b 9 [r]) ∧ ∀ c, tag' c ≠ 0 → tag c ≠ 0 ∨ inB r c := by
  classical
  have s := f0.size
  have told : ∀ c, inB v.pv c → tag c = 5 := h.tp
  have nv : ∀ c, tag c ≠ 5 → ¬ inB v.pv c := fun c hc hi => hc (told c hi)
  have hb := h.blk
  have hb' : Go.Lift.bk w' b = some (d.cells v) := f0.bk_some hb (nv b (by rw [h.tb]; decide))
  have hw' : Go.Lift.wr w' b = true := by rw [f0.wr (bk_lt hb) (nv b (by rw [h.tb]; decide))]; exact h.wr
  have f : Fr (fun c => inB v.pv c ∨ c = b) w (sto w' b 9 [r]) := by
    refine Fr.sto (b := b) (f0.mono fun c hc => ?_) (.inl ?_) _ _
    · exact Or.inl hc
    · exact Or.inr rfl
  have nb : ∀ c, tag c ≠ 1 → tag c ≠ 5 → ¬ (inB v.pv c ∨ c = b) := fun c h1 h4 hc => hc.elim (nv c h4) fun he => h1 (by rw [he]; exact h.tb)
  obtain ⟨m, hm⟩ := h.ml
  have hpos := bk_lt hm
  have nr : ∀ c, tag c ≠ 0 → tag c ≠ 5 → ¬ inB r c := fun c h0 h5 hi => by
    rcases hin c hi with h' | h'
    · exact nv c h5 h'
    · exact h0 h'.1
  have hrb : ∀ c, inB r c → ¬ c = b := fun c hc he => nr b (by rw [h.tb]; decide) (by rw [h.tb]; decide) (he ▸ hc)
  have hr' := hr.fr ((Fr.refl (fun c => c = b) w').sto (.inl rfl) 9 [r]) hrb
  obtain ⟨tag', tpos, tneg, tboth⟩ : ∃ tag' : Nat → Nat, (∀ c, inB r c → tag' c = 5) ∧ (∀ c, tag c ≠ 0 → tag c ≠ 5 → tag' c = tag c) ∧ (∀ c, ¬ inB r c → tag' c = tag c) :=
    ⟨fun c => if inB r c then 5 else tag c, fun c hc => if_pos hc, fun c h0 h5 => if_neg (nr c h0 h5), fun c hc => if_neg hc⟩
  refine ⟨hb', hw', tag', ⟨?_, by rw [wr_sto]; exact hw', h.nodes.fr f fun c hc => nb c (by rw [h.tn c hc]; decide) (by rw [h.tn c hc]; decide), h.seen.fr f (nb _ (by rw [h.ts]; decide) (by rw [h.ts]; decide)), h.seenE, h.kept.fr f (nb _ (by rw [h.tk]; decide) (by rw [h.tk]; decide)), h.keptE, hr', ?_, ?_, ?_, fun c hc => by rw [tneg c (by rw [h.tn c hc]; decide) (by rw [h.tn c hc]; decide)]; exact h.tn c hc, fun c hc => tpos c hc, ?_, ⟨m, f.bk_some hm (nb 0 (by rw [h.t0]; decide) (by rw [h.t0]; decide))⟩, ?_⟩, f.mono ?_, ?_⟩
  · rw [bk_sto_eq, hb']
    simp [Dk.cells]
  · rw [tneg b (by rw [h.tb]; decide) (by rw [h.tb]; decide)]; exact h.tb
  · rw [tneg _ (by rw [h.ts]; decide) (by rw [h.ts]; decide)]; exact h.ts
  · rw [tneg _ (by rw [h.tk]; decide) (by rw [h.tk]; decide)]; exact h.tk
  · rw [tboth 0 fun hi => ?_]
    · exact h.t0
    · rcases hin 0 hi with h' | h'
      · have := told 0 h'; rw [h.t0] at this; cases this
      · exact h'.2.2 rfl
  · intro c hc
    rw [size_sto]
    by_cases hi : inB r c
    · rcases hin c hi with h' | h'
      · have := h.bound c (by rw [told c h']; decide); omega
      · exact h'.2.1
    · rw [tboth c hi] at hc
      have := h.bound c hc; omega
  · rintro c (hc | hc)
    · rw [told c hc]; decide
    · rw [hc, h.tb]; decide
  · intro c hc
    by_cases hi : inB r c
    · exact .inr hi
    · rw [tboth c hi] at hc; exact .inl hc
/-- Another list of nodes. -/
theorem DA.newNodes (h : DA w b d v tag) (f0 : Fr (inB v.nv) w w') {r : Value} {l : List Nd} (hr : SlW 3 w' r (l.map Nd.cells)) (hin : ∀ c, inB r c → inB v.nv c ∨ (w.heap.size ≤ c ∧ c < w'.heap.size)) :
    Go.Lift.bk w' b = some (d.cells v) ∧ Go.Lift.wr w' b = true ∧ ∃ tag', DA (sto w' b 6 [r]) b { d with nodes := l } { v with nv := r } tag' ∧ Fr (fun c => tag c ≠ 0) w (sto w' b 6 [r]) ∧ ∀ c, tag' c ≠ 0 → tag c ≠ 0 ∨ w.heap.size ≤ c := by
  classical
  have s := f0.size
  have told : ∀ c, inB v.nv c → tag c = 4 := h.tn
  have nv : ∀ c, tag c ≠ 4 → ¬ inB v.nv c := fun c hc hi => hc (told c hi)
  have hb := h.blk
  have hb' : Go.Lift.bk w' b = some (d.cells v) := f0.bk_some hb (nv b (by rw [h.tb]; decide))
  have hw' : Go.Lift.wr w' b = true := by rw [f0.wr (bk_lt hb) (nv b (by rw [h.tb]; decide))]; exact h.wr
  have f : Fr (fun c => inB v.nv c ∨ c = b) w (sto w' b 6 [r]) := by
    refine Fr.sto (b := b) (f0.mono fun c hc => ?_) (.inl ?_) _ _
    · exact Or.inl hc
    · exact Or.inr rfl
  have nb : ∀ c, tag c ≠ 1 → tag c ≠ 4 → ¬ (inB v.nv c ∨ c = b) := fun c h1 h4 hc => hc.elim (nv c h4) fun he => h1 (by rw [he]; exact h.tb)
  obtain ⟨m, hm⟩ := h.ml
  have hpos := bk_lt hm
  have nr : ∀ c, tag c ≠ 0 → tag c ≠ 4 → ¬ inB r c := fun c h0 h5 hi => by
    rcases hin c hi with h' | h'
    · exact nv c h5 h'
    · have := h.bound c h0; omega
  have hrb : ∀ c, inB r c → ¬ c = b := fun c hc he => nr b (by rw [h.tb]; decide) (by rw [h.tb]; decide) (he ▸ hc)
  have hr' := hr.fr ((Fr.refl (fun c => c = b) w').sto (.inl rfl) 6 [r]) hrb
  obtain ⟨tag', tpos, tneg, tboth⟩ : ∃ tag' : Nat → Nat, (∀ c, inB r c → tag' c = 4) ∧ (∀ c, tag c ≠ 0 → tag c ≠ 4 → tag' c = tag c) ∧ (∀ c, ¬ inB r c → tag' c = tag c) :=
    ⟨fun c => if inB r c then 4 else tag c, fun c hc => if_pos hc, fun c h0 h5 => if_neg (nr c h0 h5), fun c hc => if_neg hc⟩
  refine ⟨hb', hw', tag', ⟨?_, by rw [wr_sto]; exact hw', hr', h.seen.fr f (nb _ (by rw [h.ts]; decide) (by rw [h.ts]; decide)), h.seenE, h.kept.fr f (nb _ (by rw [h.tk]; decide) (by rw [h.tk]; decide)), h.keptE, h.pend.fr f fun c hc => nb c (by rw [h.tp c hc]; decide) (by rw [h.tp c hc]; decide), ?_, ?_, ?_, fun c hc => tpos c hc, fun c hc => by rw [tneg c (by rw [h.tp c hc]; decide) (by rw [h.tp c hc]; decide)]; exact h.tp c hc, ?_, ⟨m, f.bk_some hm (nb 0 (by rw [h.t0]; decide) (by rw [h.t0]; decide))⟩, ?_⟩, f.mono ?_, ?_⟩
  · rw [bk_sto_eq, hb']
    simp [Dk.cells]
  · rw [tneg b (by rw [h.tb]; decide) (by rw [h.tb]; decide)]; exact h.tb
  · rw [tneg _ (by rw [h.ts]; decide) (by rw [h.ts]; decide)]; exact h.ts
  · rw [tneg _ (by rw [h.tk]; decide) (by rw [h.tk]; decide)]; exact h.tk
  · rw [tboth 0 fun hi => ?_]
    · exact h.t0
    · rcases hin 0 hi with h' | h'
      · have := told 0 h'; rw [h.t0] at this; cases this
      · omega
  · intro c hc
    rw [size_sto]
    by_cases hi : inB r c
    · rcases hin c hi with h' | h'
      · have := h.bound c (by rw [told c h']; decide); omega
      · exact h'.2
    · rw [tboth c hi] at hc
      have := h.bound c hc; omega
  · rintro c (hc | hc)
    · rw [told c hc]; decide
    · rw [hc, h.tb]; decide
  · intro c hc
    by_cases hi : inB r c
    · rcases hin c hi with h' | h'
      · exact .inl (by rw [told c h']; decide)
      · exact .inr h'.1
    · rw [tboth c hi] at hc; exact .inl hc
/-- A cell of a node is written. -/
theorem DA.setNode (h : DA w b d v tag) {i : Nat} {nd : Nd} (hi : d.nodes[i]? = some nd) :
    ∃ b0 o l, idxA 3 v.nv (.int .i64 i) = some (.pointer (some ⟨b0, o, none⟩)) ∧ tag b0 = 4 ∧ bk w b0 = some l ∧ l[o]? = some (.int .i64 nd.kind) ∧ l[o + 1]? = some (.string nd.seen) ∧ l[o + 2]? = some (.string nd.kept) ∧
      ∀ w1 d1 v1, DA w1 b d1 v1 tag → v1.nv = v.nv → d1.nodes = d.nodes →
        (∀ s, okAt w1 b0 (o + 1) 1 ∧ DA (sto w1 b0 (o + 1) [.string s]) b { d1 with nodes := d.nodes.set i { nd with seen := s } } v1 tag) ∧ (∀ s, okAt w1 b0 (o + 2) 1 ∧ DA (sto w1 b0 (o + 2) [.string s]) b { d1 with nodes := d.nodes.set i { nd with kept := s } } v1 tag) := by
  have he : (d.nodes.map Nd.cells)[i]? = some nd.cells := by simp [hi]
  obtain ⟨b0, o, l, i1, i2, i3, i4, i5⟩ := h.nodes.1.rd (by decide) he .i64
  have t4 := h.tn b0 i5
  refine ⟨b0, o, l, i1, t4, i2, take_get0 i4 (by decide), take_get (j := 1) i4 (by decide), take_get (j := 2) i4 (by decide), ?_⟩
  intro w1 d1 v1 h1 hv hd
  have he1 : (d1.nodes.map Nd.cells)[i]? = some nd.cells := by rw [hd]; exact he
  obtain ⟨b1, o1, j1, j2, j3, j4, j5⟩ := h1.nodes.put he1 .i64
  rw [hv, i1] at j1
  cases j1
  have key : ∀ (j : Nat) (s : ByteArray) (nd' : Nd), j < 3 → setL nd.cells j [.string s] = nd'.cells → okAt w1 b0 (o + j) 1 ∧ DA (sto w1 b0 (o + j) [.string s]) b { d1 with nodes := d.nodes.set i nd' } v1 tag := by
    intro j s nd' hj hset
    obtain ⟨q1, q2⟩ := j5 j [.string s] (by simp; omega)
    have f : Fr (fun c => c = b0) w1 (sto w1 b0 (o + j) [.string s]) := (Fr.refl (fun c => c = b0) w1).sto (.inl rfl) _ _
    have nb : ∀ c, tag c ≠ 4 → ¬ c = b0 := fun c hc he => hc (by rw [he]; exact t4)
    obtain ⟨m, hm⟩ := h1.ml
    refine ⟨q1, f.bk_some h1.blk (nb b (by rw [h1.tb]; decide)), by rw [wr_sto]; exact h1.wr, ?_, h1.seen.fr f (nb _ (by rw [h1.ts]; decide)), h1.seenE, h1.kept.fr f (nb _ (by rw [h1.tk]; decide)), h1.keptE, h1.pend.fr f fun c hc => nb c (by rw [h1.tp c hc]; decide), h1.tb, h1.ts, h1.tk, h1.tn, h1.tp, h1.t0, ⟨m, f.bk_some hm (nb 0 (by rw [h1.t0]; decide))⟩, fun c hc => by rw [size_sto]; exact h1.bound c hc⟩
    rw [hset, hd] at q2
    try simp only
    rw [List.map_set]
    exact q2
  exact ⟨fun s => key 1 s { nd with seen := s } (by decide) rfl, fun s => key 2 s { nd with kept := s } (by decide) rfl⟩

theorem DA.seenSet (h : DA w b d v tag) (f : Fr (fun c => c = v.bs) w w') {ls : List (Slt × Int)} {m : Slt → Option Int} (hm : MapAt slv idv w' v.bs ls) (he : Eqm ls m) : DA w' b { d with seen := m } { v with ls := ls } tag := by
  have nb : ∀ c, tag c ≠ 2 → ¬ c = v.bs := fun c hc he => hc (by rw [he]; exact h.ts)
  obtain ⟨n, hn⟩ := h.ml
  have s := f.size
  have hb := nb b (by rw [h.tb]; decide)
  exact ⟨f.bk_some h.blk hb, by rw [f.wr (bk_lt h.blk) hb]; exact h.wr, h.nodes.fr f fun c hc => nb c (by rw [h.tn c hc]; decide), hm, he, h.kept.fr f (nb _ (by rw [h.tk]; decide)), h.keptE, h.pend.fr f fun c hc => nb c (by rw [h.tp c hc]; decide), h.tb, h.ts, h.tk, h.tn, h.tp, h.t0, ⟨n, f.bk_some hn (nb 0 (by rw [h.t0]; decide))⟩, fun c hc => Nat.lt_of_lt_of_le (h.bound c hc) s⟩
theorem DA.keptSet (h : DA w b d v tag) (f : Fr (fun c => c = v.bk) w w') {ls : List (Slt × Int)} {m : Slt → Option Int} (hm : MapAt slv idv w' v.bk ls) (he : Eqm ls m) : DA w' b { d with kept := m } { v with lk := ls } tag := by
  have nb : ∀ c, tag c ≠ 3 → ¬ c = v.bk := fun c hc he => hc (by rw [he]; exact h.tk)
  obtain ⟨n, hn⟩ := h.ml
  have s := f.size
  have hb := nb b (by rw [h.tb]; decide)
  exact ⟨f.bk_some h.blk hb, by rw [f.wr (bk_lt h.blk) hb]; exact h.wr, h.nodes.fr f fun c hc => nb c (by rw [h.tn c hc]; decide), h.seen.fr f (nb _ (by rw [h.ts]; decide)), h.seenE, hm, he, h.pend.fr f fun c hc => nb c (by rw [h.tp c hc]; decide), h.tb, h.ts, h.tk, h.tn, h.tp, h.t0, ⟨n, f.bk_some hn (nb 0 (by rw [h.t0]; decide))⟩, fun c hc => Nat.lt_of_lt_of_le (h.bound c hc) s⟩
def doF (d : Dk) (c : Chg) (i : Nat) (nd : Nd) : Int × Dk := if d.actF.1 ≠ 0 then d.actF else (0, { d.actF.2 with nodes := d.nodes.set i { nd with seen := (applyF c nd.seen d.seen).1 }, seen := (applyF c nd.seen d.seen).2, pending := d.pending ++ [c] })
theorem Chg.all (c : Chg) : c.cells.all isCell = true := by simp [Chg.cells]
theorem do_run (h : DA w b d v tag) (c : Chg) {i : Nat} {nd : Nd} (hi : d.nodes[i]? = some nd) (hn : c.node = i) (hf : c.fits nd.seen) (hp : d.pending.length ≤ 16777216) :
    Run (F.disk_Disk_do (Ptr b) c.val) w fun r w' => r = .int .i64 (doF d c i nd).1 ∧ DDid w w' b tag (doF d c i nd).2 := by
  unfold F.disk_Disk_do
  simp only [Run_bind]
  refine Run_new fun x w1 hx _ f1 hxle => ?_
  have hx1 : bk w1 x = some c.cells := hx
  have h1 := h.fr0 f1
  refine (act_run h1).mono ?_
  rintro _ w2 ⟨rfl, h2, f2⟩
  obtain ⟨an, asn, ak, ap⟩ := actF_same d
  have tb := h.tb
  have hxb : x ≠ b := fun he => by
    have := h.bound b (by rw [tb]; decide)
    omega
  have f12 : Fr (fun c => tag c ≠ 0) w w2 := (f1.mono fun _ h => h.elim).trans f2 fun c _ hc => by rw [hc, tb]; decide
  have hx2 : bk w2 x = some c.cells := f2.bk_some hx1 hxb
  by_cases ha : d.actF.1 = 0
  · have hi2 : d.actF.2.nodes[i]? = some nd := by rw [an]; exact hi
    obtain ⟨b0, o, l, i1, t4, i2, l0, l1, l2, hset⟩ := h2.setNode hi2
    have hb2 := h2.blk
    have e7 : ∀ w3, bk w3 x = some c.cells → ldA 7 (Ptr x) w3 = some c.val := fun w3 h => by rw [ldA_bk h (by simp [Chg.cells])]; rfl
    have hx2d : bk w2.drew x = some c.cells := hx2
    have e7d := e7 w2.drew hx2d
    have hi2d : bk w2 b0 = some l := i2
    simp [-ldA_ptr, ha, hb2, Dk.cells, hx2, Chg.cells, hn, i1, e7 w2 hx2, hi2d, l1]
    have fd : Fr (fun _ => False) w2 w2.drew.drew := ((Fr.refl (fun _ => False) w2).drew).drew
    have h2d := h2.fr0 fd
    refine (apply_run (w := w2.drew.drew) (data := nd.seen) h2d.seen h2d.seenE hf).mono ?_
    rintro _ w3 ⟨rfl, ⟨ls', hm3, he3⟩, f3⟩
    rw [asn] at he3 ⊢
    obtain ⟨A, hA⟩ : ∃ A, A = applyF c nd.seen d.seen := ⟨_, rfl⟩
    rw [← hA] at he3 ⊢
    have h3 := h2d.seenSet f3 hm3 he3
    obtain ⟨k1, h4⟩ := (hset w3 _ _ h3 rfl rfl).1 A.1
    rw [show (Value.string A.1).cells = #[Value.string A.1] from rfl]
    refine ⟨rfl, by simp, k1.1, k1.2, ?_⟩
    rw [show (#[Value.string A.1] : Array Value).toList = [Value.string A.1] from rfl]
    have s1 := f1.size
    have s2 := f2.size
    have s3 := f3.size
    have hb0 : b0 < w.heap.size := h.bound b0 (by rw [t4]; decide)
    have hxs : x ≠ v.bs := fun he => by
      have := h.bound v.bs (by rw [h.ts]; decide)
      omega
    have hx3 : bk w3 x = some c.cells := f3.bk_some (w := w2.drew.drew) hx2 hxs
    have hx4 : bk (sto w3 b0 (o + 1) [.string A.1]) x = some c.cells := by rw [bk_sto_ne (by omega)]; exact hx3
    have f34 : Fr (fun c => c = b0) w3 (sto w3 b0 (o + 1) [.string A.1]) := (Fr.refl (fun c => c = b0) w3).sto (.inl rfl) _ _
    have z4 : (sto w3 b0 (o + 1) [.string A.1]).heap.size = w3.heap.size := size_sto _ _ _ _
    generalize sto w3 b0 (o + 1) [.string A.1] = w4 at *
    have hb4 := h4.blk
    have f04 : Fr (fun c => tag c ≠ 0) w w4 := ((f12.trans fd fun _ _ h => h.elim).trans f3 fun c _ hc => by rw [hc, h.ts]; decide).trans f34 fun c _ hc => by rw [hc, t4]; decide
    have fd4 : Fr (fun _ => False) w4 w4.drew := (Fr.refl (fun _ => False) w4).drew
    simp [-ldA_ptr, hb4, Dk.cells, e7 w4 hx4]
    refine Run_app1 (k := 7) (w := w4.drew) (by simp [Chg.val, Chg.cells]) (h4.fr0 fd4).pend (by decide) rfl (by decide) (by simpa [Chg.val] using c.all) (by simp only [List.length_map, ap]; omega) fun r w5 hr f5 hin w6 f6 => ?_
    have z5 : w4.drew.heap.size = w4.heap.size := rfl
    have s5 := f5.size
    have npv : ∀ c, inB v.pv c → tag c = 5 := h.tp
    have h5 : bk w5 b = some _ := f5.bk_some (w := w4.drew) hb4 fun hi => by have := npv b hi; rw [tb] at this; cases this
    have hw5 : wr w5 b = true := by
      rw [f5.wr (w := w4.drew) (bk_lt (w := w4.drew) hb4) fun hi => by have := npv b hi; rw [tb] at this; cases this]
      exact h4.wr
    have h6 : bk w6 b = some _ := f6.bk_some (w := w4.drew) hb4 id
    have hrc := hr.1.isCell
    have hr' : SlW 7 w5 r ((d.pending ++ [c]).map Chg.cells) := by
      rw [ap] at hr
      simpa [Chg.val] using hr
    obtain ⟨g1, g2, tag', g3, g4, g5⟩ := (h4.fr0 fd4).newPend f5 hr' hin
    rw [cells_isCell hrc]
    refine ⟨rfl, by simp [hrc], ⟨_, h5, by simp [Dk.cells]⟩, hw5, by rw [h6]; rfl, ?_⟩
    have e : doF d c i nd = (0, { d.actF.2 with nodes := d.nodes.set i { nd with seen := A.1 }, seen := A.2, pending := d.pending ++ [c] }) := by simp [doF, ha, hA]
    rw [e]
    exact ⟨rfl, (f04.trans fd4 fun _ _ h => h.elim).trans g4 fun _ _ h => h, _, tag', by rw [an] at g3; exact g3, fun x hx => (g5 x hx).imp id fun h => by have := f04.size; omega⟩
  · have hne : ¬ d.actF.1 = 0 := ha
    simp [hne]
    have e : doF d c i nd = d.actF := by simp [doF, hne]
    rw [e]
    exact ⟨rfl, h2.did f12⟩
end
end Go.Proofs.YtojnickeblbgoaaDoor
