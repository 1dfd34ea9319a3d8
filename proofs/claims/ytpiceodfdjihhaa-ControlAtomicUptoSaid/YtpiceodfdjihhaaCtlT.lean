/-
  Layer 15 (control), part T: ControlAtomic, the plain law: nodes by P12.6, letters, and what holds of a play.
-/
import Derived.Test.YtpiceodfdjihhaaCtlC
namespace Go.Proofs.Ytpiceodfdjihhaa
open Go.Lift

/-- A node: what is current, what was, the last order, the last Swap. -/
structure Nd where
  cur : Int
  prev : Int
  epoch : Int
  seq : Int
  swapped : Int
  was : Int
  sick : Bool
  deaf : Bool
def Nd.cells (n : Nd) : List Value := [.int .i64 n.cur, .int .i64 n.prev, .int .i64 n.epoch, .int .i64 n.seq, .int .i64 n.swapped, .int .i64 n.was, .bool n.sick, .bool n.deaf]
def Nd.zero : Nd := ⟨0, 0, 0, 0, 0, 0, false, false⟩
def Nd.stale (n : Nd) (m : Ms) : Bool := decide (m.epoch < n.epoch) || (decide (m.epoch = n.epoch) && decide (m.seq < n.seq)) || (decide (m.epoch = n.epoch) && decide (m.seq = n.seq) && decide (m.kind = 5) && decide (n.cur ≠ m.version))
def Nd.same (n : Nd) (m : Ms) : Bool := decide (m.epoch = n.epoch) && decide (m.seq = n.seq)
def Nd.moved (n : Nd) (m : Ms) : Nd :=
  if m.kind = 5 then { n with was := n.cur, swapped := m.epoch, prev := n.cur, cur := m.version, epoch := m.epoch, seq := m.seq }
  else { n with cur := if n.epoch = m.epoch then n.prev else n.cur, prev := if n.epoch = m.epoch then n.prev else n.cur, epoch := m.epoch, seq := m.seq }
def Nd.orderS (n : Nd) (m : Ms) : Nd × Int := if n.stale m = true then (n, 122) else if n.same m = true then (n, 0) else (n.moved m, 0)
def noB : Value := .string ByteArray.empty
def Nd.doesS (n : Nd) (m : Ms) : Nd × Ms :=
  if m.kind = 3 then (n, ⟨m.kind + 1, m.to, m.sender, m.id, m.epoch, m.seq, m.version, 0, if n.sick = true then 99 else 0, noB, noB⟩)
  else if n.sick = true then (n, ⟨m.kind + 1, m.to, m.sender, m.id, m.epoch, m.seq, n.cur, n.prev, 99, noB, noB⟩)
  else ((n.orderS m).1, ⟨m.kind + 1, m.to, m.sender, m.id, m.epoch, m.seq, (n.orderS m).1.cur, (n.orderS m).1.prev, (n.orderS m).2, noB, noB⟩)
/-- A play: the controller, the nodes, the letters; of the job: kind, version, whose OK answers came, whether a Back went out; what is bound to be kept. -/
structure PS where
  x : CS
  nodes : List Nd
  letters : List Ms
  kind : Int
  ver : Int
  fetched : List Bool
  backed : List Bool
  back : Bool
  at_ : List Int

structure NdOk (job ver : Int) (back : Bool) (n : Nd) : Prop where
  e : 0 ≤ n.epoch ∧ n.epoch ≤ job
  s : n.seq = 0 ∨ n.seq = 1 ∨ n.seq = 2
  z : n.seq = 0 → n.epoch = 0
  z' : n.seq ≠ 0 → 1 ≤ n.epoch
  sw : n.swapped ≤ n.epoch
  one : n.seq = 1 → n.swapped = n.epoch ∧ n.prev = n.was
  two : n.seq = 2 → n.swapped = n.epoch → n.cur = n.was
  jb : n.epoch = job → n.seq = 2 → back = true
  jc : n.epoch = job → n.seq = 1 → n.cur = ver
/-- A letter to a node. -/
structure ToN (job ver : Int) (back : Bool) (n : Nat) (m : Ms) : Prop where
  from_ : m.sender = 64
  to_ : 0 ≤ m.to ∧ m.to < n
  what : (m.kind = 3 ∧ m.seq = 0) ∨ (m.kind = 5 ∧ m.seq = 1 ∧ (m.epoch = job → m.version = ver)) ∨ (m.kind = 7 ∧ m.seq = 2 ∧ (m.epoch = job → back = true))
/-- A letter to the controller. -/
structure ToC (job ver : Int) (nodes : List Nd) (m : Ms) : Prop where
  to_ : m.to = 64
  nd : ∃ nd, 0 ≤ m.sender ∧ nodes[m.sender.toNat]? = some nd ∧ (m.kind = 4 ∨ (m.kind = 6 ∧ (m.code = 0 → m.epoch = job → m.version = ver ∧ nd.epoch = job ∧ nd.seq ≠ 0)) ∨
    (m.kind = 8 ∧ (m.code = 0 → m.epoch = job → m.seq = 2 ∧ nd.epoch = job ∧ nd.seq = 2 ∧ m.version = nd.cur)))
structure LOk (job ver : Int) (back : Bool) (nodes : List Nd) (m : Ms) : Prop where
  id : m.id = m.epoch
  e : 1 ≤ m.epoch ∧ m.epoch ≤ job
  key : m.key = noB
  value : m.value = noB
  road : ToN job ver back nodes.length m ∨ ToC job ver nodes m

/-- A node goes on: what it has done it has done. -/
structure Mono (job : Int) (back : Bool) (n n' : Nd) : Prop where
  any : n.epoch = job → n.seq ≠ 0 → n'.epoch = job ∧ n'.seq ≠ 0
  two : n.epoch = job → n.seq = 2 → n'.epoch = job ∧ n'.seq = 2 ∧ n'.cur = n.cur
  one : n.epoch = job → n.seq = 1 → back = false → n'.epoch = job ∧ n'.seq = 1 ∧ n'.cur = n.cur
theorem Mono.refl (job : Int) (back : Bool) (n : Nd) : Mono job back n n := ⟨fun h h' => ⟨h, h'⟩, fun h h' => ⟨h, h', rfl⟩, fun h h' _ => ⟨h, h', rfl⟩⟩
theorem Mono.of_same {job : Int} {back : Bool} {n n' : Nd} (h1 : n'.epoch = n.epoch) (h2 : n'.seq = n.seq) (h3 : n'.cur = n.cur) : Mono job back n n' :=
  ⟨fun h h' => ⟨h1.trans h, by rw [h2]; exact h'⟩, fun h h' => ⟨h1.trans h, h2.trans h', h3⟩, fun h h' _ => ⟨h1.trans h, h2.trans h', h3⟩⟩
theorem NdOk.of_same {job ver : Int} {back : Bool} {n n' : Nd} (h : NdOk job ver back n) (h1 : n'.epoch = n.epoch) (h2 : n'.seq = n.seq) (h3 : n'.cur = n.cur) (h4 : n'.swapped = n.swapped) (h5 : n'.prev = n.prev) (h6 : n'.was = n.was) : NdOk job ver back n' := by
  obtain ⟨a1, a2, a3, a4, a5, a6, a7, a8, a9⟩ := h
  exact ⟨by rw [h1]; exact a1, by rw [h2]; exact a2, by rw [h1, h2]; exact a3, by rw [h1, h2]; exact a4, by rw [h1, h4]; exact a5, by rw [h1, h2, h4, h5, h6]; exact a6, by rw [h1, h2, h3, h4, h6]; exact a7, by rw [h1, h2]; exact a8, by rw [h1, h2, h3]; exact a9⟩

section
variable {job ver : Int} {back : Bool} {n : Nd} {m : Ms}
/-- An order that is newer than what the node has. -/
theorem moved_newer (hn : NdOk job ver back n) (hs : (m.kind = 5 ∧ m.seq = 1) ∨ (m.kind = 7 ∧ m.seq = 2)) (h1 : ¬ n.stale m = true) (h2 : ¬ n.same m = true) : n.epoch < m.epoch ∨ (n.epoch = m.epoch ∧ n.seq < m.seq) := by
  simp only [Nd.stale, Nd.same, Bool.or_eq_true, Bool.and_eq_true, decide_eq_true_eq, not_or, not_and] at h1 h2
  omega
theorem moved_ok (hn : NdOk job ver back n) (he : 1 ≤ m.epoch ∧ m.epoch ≤ job) (hs : (m.kind = 5 ∧ m.seq = 1 ∧ (m.epoch = job → m.version = ver)) ∨ (m.kind = 7 ∧ m.seq = 2 ∧ (m.epoch = job → back = true)))
    (hnew : n.epoch < m.epoch ∨ (n.epoch = m.epoch ∧ n.seq < m.seq)) : NdOk job ver back (n.moved m) ∧ Mono job back n (n.moved m) := by
  obtain ⟨a1, a2, a3, a4, a5, a6, a7, a8, a9⟩ := hn
  rcases hs with ⟨k, s, v⟩ | ⟨k, s, v⟩
  · have e : n.moved m = { n with was := n.cur, swapped := m.epoch, prev := n.cur, cur := m.version, epoch := m.epoch, seq := m.seq } := by unfold Nd.moved; rw [if_pos k]
    rw [e]
    refine ⟨⟨by simp only; omega, by simp only; omega, by simp only; omega, by simp only; omega, by simp only; omega, fun _ => ⟨rfl, rfl⟩, by simp only; omega, by simp only; omega, fun h _ => v h⟩, by simp only; omega, by simp only; omega, by simp only; omega⟩
  · have e : n.moved m = { n with cur := if n.epoch = m.epoch then n.prev else n.cur, prev := if n.epoch = m.epoch then n.prev else n.cur, epoch := m.epoch, seq := m.seq } := by unfold Nd.moved; rw [if_neg (by omega)]
    rw [e]
    refine ⟨⟨by simp only; omega, by simp only; omega, by simp only; omega, by simp only; omega, by simp only; omega, by simp only; omega, ?_, fun h _ => v h, by simp only; omega⟩, by simp only; omega, by simp only; omega, ?_⟩
    · simp only
      intro _ h
      by_cases hh : n.epoch = m.epoch
      · rw [if_pos hh]; exact (a6 (by omega)).2
      · omega
    · simp only
      intro h1 h2 h3
      exfalso
      have := v (by omega)
      rw [h3] at this; cases this
theorem order_ok (hn : NdOk job ver back n) (he : 1 ≤ m.epoch ∧ m.epoch ≤ job) (hs : (m.kind = 5 ∧ m.seq = 1 ∧ (m.epoch = job → m.version = ver)) ∨ (m.kind = 7 ∧ m.seq = 2 ∧ (m.epoch = job → back = true))) :
    NdOk job ver back (n.orderS m).1 ∧ Mono job back n (n.orderS m).1 ∧ ((n.orderS m).2 = 0 → (n.orderS m).1.epoch = m.epoch ∧ (n.orderS m).1.seq = m.seq ∧ (m.kind = 5 → (n.orderS m).1.cur = m.version)) := by
  unfold Nd.orderS
  split
  · exact ⟨hn, Mono.refl _ _ _, fun h => by cases h⟩
  rename_i h1
  split
  · rename_i h2
    refine ⟨hn, Mono.refl _ _ _, fun _ => ?_⟩
    simp only [Nd.stale, Nd.same, Bool.or_eq_true, Bool.and_eq_true, decide_eq_true_eq, not_or, not_and] at h1 h2
    exact ⟨h2.1.symm, h2.2.symm, fun h5 => Classical.not_not.1 (h1.2 ⟨h2, h5⟩)⟩
  · rename_i h2
    obtain ⟨g1, g2⟩ := moved_ok hn he hs (moved_newer hn (by rcases hs with h | h; exact .inl ⟨h.1, h.2.1⟩; exact .inr ⟨h.1, h.2.1⟩) h1 h2)
    refine ⟨g1, g2, fun _ => ?_⟩
    unfold Nd.moved
    split
    · exact ⟨rfl, rfl, fun _ => rfl⟩
    · rename_i h5; exact ⟨rfl, rfl, fun h => absurd h h5⟩
/-- A node does what a letter says: it is well, it has gone on, its answer is true. -/
theorem does_ok {nodes : List Nd} (hn : NdOk job ver back n) (hm : LOk job ver back nodes m) (ht : ToN job ver back nodes.length m) (hi : nodes[m.to.toNat]? = some n) :
    NdOk job ver back (n.doesS m).1 ∧ Mono job back n (n.doesS m).1 ∧ LOk job ver back (nodes.set m.to.toNat (n.doesS m).1) (n.doesS m).2 := by
  have hlt : m.to.toNat < nodes.length := (List.getElem?_eq_some_iff.1 hi).1
  have ans : ∀ (n' : Nd) (v p c : Int), (m.kind + 1 = 4 ∨ (m.kind + 1 = 6 ∧ (c = 0 → m.epoch = job → v = ver ∧ n'.epoch = job ∧ n'.seq ≠ 0)) ∨ (m.kind + 1 = 8 ∧ (c = 0 → m.epoch = job → m.seq = 2 ∧ n'.epoch = job ∧ n'.seq = 2 ∧ v = n'.cur))) →
      LOk job ver back (nodes.set m.to.toNat n') ⟨m.kind + 1, m.to, m.sender, m.id, m.epoch, m.seq, v, p, c, noB, noB⟩ := by
    intro n' v p c h
    exact ⟨hm.id, hm.e, rfl, rfl, .inr ⟨ht.from_, n', ht.to_.1, by simp [hlt], h⟩⟩
  unfold Nd.doesS
  split
  · rename_i h3
    exact ⟨hn, Mono.refl _ _ _, ans n _ _ _ (.inl (by omega))⟩
  rename_i h3
  have hs : (m.kind = 5 ∧ m.seq = 1 ∧ (m.epoch = job → m.version = ver)) ∨ (m.kind = 7 ∧ m.seq = 2 ∧ (m.epoch = job → back = true)) := by
    rcases ht.what with h | h | h
    · exact absurd h.1 h3
    · exact .inl h
    · exact .inr h
  split
  · refine ⟨hn, Mono.refl _ _ _, ans n _ _ _ ?_⟩
    rcases hs with h | h
    · exact .inr (.inl ⟨by omega, fun hc => by cases hc⟩)
    · exact .inr (.inr ⟨by omega, fun hc => by cases hc⟩)
  · obtain ⟨g1, g2, g3⟩ := order_ok hn hm.e hs
    refine ⟨g1, g2, ans _ _ _ _ ?_⟩
    rcases hs with h | h
    · refine .inr (.inl ⟨by omega, fun hc he => ?_⟩)
      obtain ⟨q1, q2, q3⟩ := g3 hc
      exact ⟨by rw [q3 h.1]; exact h.2.2 he, q1.trans he, fun hz => by have hz' : (n.orderS m).1.seq = 0 := hz; omega⟩
    · refine .inr (.inr ⟨by omega, fun hc he => ?_⟩)
      obtain ⟨q1, q2, q3⟩ := g3 hc
      exact ⟨h.2.1, q1.trans he, q2.trans h.2.1, rfl⟩
end

/-- What holds of a phase. -/
structure PhOk (p : PS) (q : Ph) : Prop where
  k : q.kind = 1 ∨ q.kind = 2 ∨ q.kind = 3
  one : q.kind = 1 → p.kind = 1 ∧ p.back = false ∧ p.backed = List.replicate p.x.n false ∧ ∀ i : Nat, q.said[i]? = some true → p.fetched[i]? = some true
  two : q.kind = 2 → p.back = false ∧ p.backed = List.replicate p.x.n false ∧ (p.kind = 1 → ∀ b ∈ p.fetched, b = true) ∧
    ∀ i : Nat, q.said[i]? = some true → ∃ nd, p.nodes[i]? = some nd ∧ nd.epoch = p.x.job ∧ nd.seq ≠ 0 ∧ q.holds[i]? = some p.ver
  three : q.kind = 3 → p.back = true ∧ p.backed = q.said ∧ ∀ i : Nat, (q.said[i]? = some true → ∃ nd, p.nodes[i]? = some nd ∧ nd.epoch = p.x.job ∧ nd.seq = 2 ∧ q.holds[i]? = some nd.cur) ∧
    (q.said[i]? = some false → q.holds[i]? = some (-1))
structure Busy (p : PS) (q : Ph) : Prop where
  kind : p.kind = p.x.kind
  ver : p.ver = p.x.ver
  k12 : p.kind = 1 ∨ p.kind = 2
  job : 1 ≤ p.x.job
  fetched : p.fetched.length = p.x.n
  backed : p.backed.length = p.x.n
  at_ : ∀ a ∈ p.at_, a = -1
  ph : PhOk p q
structure Inv (p : PS) : Prop where
  ok : COk p.x
  n : p.nodes.length = p.x.n
  n16 : p.x.n ≤ 16
  atl : p.at_.length = p.x.n
  nd : ∀ nd ∈ p.nodes, NdOk p.x.job p.ver p.back nd
  letters : ∀ m ∈ p.letters, LOk p.x.job p.ver p.back p.nodes m
  busy : ∀ q, p.x.now = some q → Busy p q
  idle : p.x.now = none → ∀ (i : Nat) (a : Int), p.at_[i]? = some a → 0 ≤ a → ∃ nd, p.nodes[i]? = some nd ∧ nd.cur = a ∧ nd.epoch = p.x.job ∧ (nd.seq = 2 ∨ (nd.seq = 1 ∧ p.back = false))

theorem Inv.kept {p : PS} (h : Inv p) {i : Nat} {a : Int} (ha : p.at_[i]? = some a) (h0 : 0 ≤ a) : ∃ nd, p.nodes[i]? = some nd ∧ nd.cur = a := by
  cases hx : p.x.now with
  | some q => have := (h.busy q hx).at_ a (List.mem_of_getElem? ha); omega
  | none => obtain ⟨nd, h1, h2, _⟩ := h.idle hx i a ha h0; exact ⟨nd, h1, h2⟩

/-- Fewer letters, or some twice. -/
theorem Inv.fewer {p : PS} (h : Inv p) {l : List Ms} (hl : ∀ m ∈ l, m ∈ p.letters) : Inv { p with letters := l } :=
  ⟨h.ok, h.n, h.n16, h.atl, h.nd, fun m hm => h.letters m (hl m hm), fun q hq => let b := h.busy q hq; ⟨b.kind, b.ver, b.k12, b.job, b.fetched, b.backed, b.at_, ⟨b.ph.k, b.ph.one, b.ph.two, b.ph.three⟩⟩, h.idle⟩
theorem Inv.more {p : PS} (h : Inv p) {l : List Ms} (hl : ∀ m ∈ l, LOk p.x.job p.ver p.back p.nodes m) : Inv { p with letters := p.letters ++ l } :=
  ⟨h.ok, h.n, h.n16, h.atl, h.nd, fun m hm => (List.mem_append.1 hm).elim (h.letters m) (hl m), fun q hq => let b := h.busy q hq; ⟨b.kind, b.ver, b.k12, b.job, b.fetched, b.backed, b.at_, ⟨b.ph.k, b.ph.one, b.ph.two, b.ph.three⟩⟩, h.idle⟩
theorem set_get {α : Type} {l : List α} {i j : Nat} {a b c : α} (hi : l[i]? = some a) (hj : l[j]? = some b) : (l.set i c)[j]? = some (if i = j then c else b) := by
  have hlt : i < l.length := (List.getElem?_eq_some_iff.1 hi).1
  rw [List.getElem?_set]
  by_cases h : i = j
  · subst h; simp [hlt]
  · simp [h, hj]
theorem LOk.node {job ver : Int} {back : Bool} {nodes : List Nd} {m : Ms} (h : LOk job ver back nodes m) {i : Nat} {nd nd' : Nd} (hi : nodes[i]? = some nd) (hm : Mono job back nd nd') : LOk job ver back (nodes.set i nd') m := by
  refine ⟨h.id, h.e, h.key, h.value, ?_⟩
  rcases h.road with hr | hr
  · exact .inl ⟨hr.from_, by simpa using hr.to_, hr.what⟩
  · obtain ⟨nx, h1, h2, h3⟩ := hr.nd
    refine .inr ⟨hr.to_, _, h1, set_get hi h2, ?_⟩
    by_cases hij : i = m.sender.toNat
    · rw [if_pos hij]
      subst hij
      rw [hi] at h2; cases h2
      rcases h3 with h3 | ⟨k, h3⟩ | ⟨k, h3⟩
      · exact .inl h3
      · refine .inr (.inl ⟨k, fun hc he => ?_⟩)
        obtain ⟨q1, q2, q3⟩ := h3 hc he
        exact ⟨q1, hm.any q2 q3⟩
      · refine .inr (.inr ⟨k, fun hc he => ?_⟩)
        obtain ⟨q1, q2, q3, q4⟩ := h3 hc he
        obtain ⟨r1, r2, r3⟩ := hm.two q2 q3
        exact ⟨q1, r1, r2, by rw [r3]; exact q4⟩
    · rw [if_neg hij]; exact h3
/-- A node has gone on. -/
theorem Inv.node {p : PS} (h : Inv p) {i : Nat} {nd nd' : Nd} (hi : p.nodes[i]? = some nd) (hn : NdOk p.x.job p.ver p.back nd') (hm : Mono p.x.job p.back nd nd') : Inv { p with nodes := p.nodes.set i nd' } := by
  have pick : ∀ (j : Nat) (nx : Nd), p.nodes[j]? = some nx → ∃ ny, (p.nodes.set i nd')[j]? = some ny ∧ Mono p.x.job p.back nx ny := by
    intro j nx hj
    refine ⟨_, set_get hi hj, ?_⟩
    by_cases hij : i = j
    · subst hij; rw [hi] at hj; cases hj; rw [if_pos rfl]; exact hm
    · rw [if_neg hij]; exact Mono.refl _ _ _
  refine ⟨h.ok, by simpa using h.n, h.n16, h.atl, fun n hn' => ?_, fun m hm' => (h.letters m hm').node hi hm, fun q hq => ?_, fun hx j a hj ha => ?_⟩
  · rcases List.mem_or_eq_of_mem_set hn' with h' | h'
    · exact h.nd n h'
    · subst h'; exact hn
  · obtain ⟨b1, b2, b3, b4, b5, b6, b7, b8⟩ := h.busy q hq
    refine ⟨b1, b2, b3, b4, b5, b6, b7, b8.k, b8.one, fun hk => ?_, fun hk => ?_⟩
    · obtain ⟨c1, c2, c3, c4⟩ := b8.two hk
      refine ⟨c1, c2, c3, fun j hj => ?_⟩
      obtain ⟨nx, e1, e2, e3, e4⟩ := c4 j hj
      obtain ⟨ny, f1, f2⟩ := pick j nx e1
      exact ⟨ny, f1, (f2.any e2 e3).1, (f2.any e2 e3).2, e4⟩
    · obtain ⟨c1, c2, c3⟩ := b8.three hk
      refine ⟨c1, c2, fun j => ⟨fun hj => ?_, (c3 j).2⟩⟩
      obtain ⟨nx, e1, e2, e3, e4⟩ := (c3 j).1 hj
      obtain ⟨ny, f1, f2⟩ := pick j nx e1
      obtain ⟨g1, g2, g3⟩ := f2.two e2 e3
      exact ⟨ny, f1, g1, g2, by rw [g3]; exact e4⟩
  · obtain ⟨nx, e1, e2, e3, e4⟩ := h.idle hx j a hj ha
    obtain ⟨ny, f1, f2⟩ := pick j nx e1
    rcases e4 with e4 | ⟨e4, e5⟩
    · obtain ⟨g1, g2, g3⟩ := f2.two e3 e4
      exact ⟨ny, f1, by rw [g3]; exact e2, g1, .inl g2⟩
    · obtain ⟨g1, g2, g3⟩ := f2.one e3 e4 e5
      exact ⟨ny, f1, by rw [g3]; exact e2, g1, .inr ⟨g2, e5⟩⟩

end Go.Proofs.Ytpiceodfdjihhaa
