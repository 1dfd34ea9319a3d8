/-
  Layer 1 (disk), part N: the plain law of the calls on a disk of files in the root: stages of a disk that has some acts left.
-/
import Derived.Test.YtojnickeblbgoaaDoorDiskM
namespace Go.Proofs.YtojnickeblbgoaaDoor
open Go.Lift
set_option linter.unusedSimpArgs false
set_option maxHeartbeats 4000000

structure Stage where
  N : List Nd
  S : Slt → Option Int
  K : Slt → Option Int
  P : List Chg
/-- A disk that is up, with so many acts left (none: no bound). -/
structure At (d : Dk) (r : Option Nat) (s : Stage) : Prop where
  cap : d.cap = 1073741824
  up : d.down = false
  arm : d.armed = r.isSome
  left : ∀ n, r = some n → d.left = n ∧ n < 9223372036854775808
  nodes : d.nodes = s.N
  seen : d.seen = s.S
  kept : d.kept = s.K
  pend : d.pending = s.P
/-- A disk that is down. -/
structure Dn (d : Dk) (s : Stage) : Prop where
  cap : d.cap = 1073741824
  down : d.down = true
  nodes : d.nodes = s.N
  seen : d.seen = s.S
  kept : d.kept = s.K
  pend : d.pending = s.P
/-- What a call that is an act leads to. -/
def Act (r : Option Nat) (x : Int × Dk) (s s' : Stage) : Prop := (r = some 0 → x.1 = 10 ∧ Dn x.2 s) ∧ (r ≠ some 0 → x.1 = 0 ∧ At x.2 (r.map (· - 1)) s')

theorem act_at {d : Dk} {r : Option Nat} {s : Stage} (h : At d r s) : Act r d.actF s s := by
  refine ⟨fun hr => ?_, fun hr => ?_⟩
  · have ha := h.arm
    have hl := (h.left 0 hr).1
    rw [hr] at ha
    have e : d.actF = (10, { d with down := true }) := by simp [Dk.actF, ha]; simpa using hl
    rw [e]
    exact ⟨rfl, h.cap, rfl, h.nodes, h.seen, h.kept, h.pend⟩
  · cases r with
    | none =>
      have ha := h.arm
      have e : d.actF = (0, { d with acts := IntKind.i64.wrap (d.acts + 1) }) := by simp [Dk.actF, ha]
      rw [e]
      exact ⟨rfl, h.cap, h.up, h.arm, fun n hn => (by cases hn), h.nodes, h.seen, h.kept, h.pend⟩
    | some n =>
      have ha := h.arm
      obtain ⟨hl, hb⟩ := h.left n rfl
      have hn : n ≠ 0 := fun he => hr (by rw [he])
      have hl0 : ¬ d.left = 0 := by omega
      have e : d.actF = (0, { d with left := IntKind.i64.wrap (d.left - 1), acts := IntKind.i64.wrap (d.acts + 1) }) := by simp [Dk.actF, ha, hl0]
      have ew : IntKind.i64.wrap (d.left - 1) = ((n - 1 : Nat) : Int) := by rw [wrap_int (by omega) (by omega)]; omega
      rw [e, ew]
      exact ⟨rfl, h.cap, h.up, h.arm, fun m hm => (by simp at hm; subst hm; exact ⟨rfl, by omega⟩), h.nodes, h.seen, h.kept, h.pend⟩
theorem nd_of {d : Dk} {i : Nat} {nd : Nd} (h : d.nodes[i]? = some nd) {k : Int} (hk : k = i) : d.nd k = nd := by simp [Dk.nd, hk, h]
theorem do_at {d : Dk} {r : Option Nat} {s : Stage} (h : At d r s) (c : Chg) (i : Nat) (nd : Nd) : Act r (doF d c i nd) s ⟨s.N.set i { nd with seen := (applyF c nd.seen s.S).1 }, (applyF c nd.seen s.S).2, s.K, s.P ++ [c]⟩ := by
  obtain ⟨a1, a2⟩ := act_at h
  refine ⟨fun hr => ?_, fun hr => ?_⟩
  · obtain ⟨e1, e2⟩ := a1 hr
    have : doF d c i nd = d.actF := by simp [doF, e1]
    rw [this]
    exact ⟨e1, e2⟩
  · obtain ⟨e1, e2⟩ := a2 hr
    have : doF d c i nd = (0, { d.actF.2 with nodes := d.nodes.set i { nd with seen := (applyF c nd.seen d.seen).1 }, seen := (applyF c nd.seen d.seen).2, pending := d.pending ++ [c] }) := by simp [doF, e1]
    rw [this]
    exact ⟨rfl, e2.cap, e2.up, e2.arm, e2.left, by simp only [h.nodes, h.seen], by simp only [h.seen], e2.kept, by simp only [h.pend]⟩
theorem settle_at {d : Dk} {r : Option Nat} {s : Stage} (h : At d r s) (i : Nat) (nd : Nd) : Act r (settleF d i nd) s ⟨s.N.set i { nd with kept := (s.P.foldl (settleStep i) (nd.kept, s.K)).1 }, s.S, (s.P.foldl (settleStep i) (nd.kept, s.K)).2, restOf i s.P⟩ := by
  obtain ⟨a1, a2⟩ := act_at h
  refine ⟨fun hr => ?_, fun hr => ?_⟩
  · obtain ⟨e1, e2⟩ := a1 hr
    have : settleF d i nd = d.actF := by simp [settleF, e1]
    rw [this]
    exact ⟨e1, e2⟩
  · obtain ⟨e1, e2⟩ := a2 hr
    have : settleF d i nd = (0, { d.actF.2 with nodes := d.nodes.set i { nd with kept := (d.pending.foldl (settleStep i) (nd.kept, d.kept)).1 }, kept := (d.pending.foldl (settleStep i) (nd.kept, d.kept)).2, pending := restOf i d.pending }) := by simp [settleF, e1]
    rw [this]
    exact ⟨rfl, e2.cap, e2.up, e2.arm, e2.left, by simp only [h.nodes, h.kept, h.pend], e2.seen, by simp only [h.kept, h.pend], by simp only [h.pend]⟩

/- Changes of entries. -/
def isEnt (c : Chg) : Prop := c.node = 0 ∧ (c.what = 2 ∨ c.what = 3 ∨ c.what = 4)
theorem ent_data {c : Chg} (h : isEnt c) (x : ByteArray) (m : Slt → Option Int) : (applyF c x m).1 = x := by
  obtain ⟨_, h | h | h⟩ := h <;> simp [applyF, h]
theorem ent_map {c : Chg} (h : isEnt c) (x y : ByteArray) (m : Slt → Option Int) : (applyF c x m).2 = (applyF c y m).2 := by
  obtain ⟨_, h | h | h⟩ := h <;> simp [applyF, h]
def entF (m : Slt → Option Int) (c : Chg) : Slt → Option Int := (applyF c e0 m).2
theorem ent_fits {c : Chg} (h : isEnt c) (x : ByteArray) : c.fits x := by
  obtain ⟨_, h | h | h⟩ := h <;> exact ⟨fun h' => by rw [h] at h'; exact absurd h' (by decide), fun h' => by rw [h] at h'; exact absurd h' (by decide)⟩
theorem set_same {l : List Nd} {i : Nat} {nd : Nd} (h : l[i]? = some nd) : l.set i nd = l := by
  apply List.ext_getElem?
  intro j
  by_cases hj : i = j
  · subst hj; rw [List.getElem?_set_self (List.getElem?_eq_some_iff.1 h).1, h]
  · rw [List.getElem?_set_ne hj]
theorem settle_ents {P : List Chg} (h : ∀ c ∈ P, isEnt c) : ∀ (x : ByteArray) (m : Slt → Option Int), P.foldl (settleStep 0) (x, m) = (x, P.foldl entF m) := by
  induction P with
  | nil => intro x m; rfl
  | cons c P ih =>
    intro x m
    have hc := h c (by simp)
    have e : settleStep 0 (x, m) c = (x, entF m c) := by
      simp only [settleStep, if_pos hc.1]
      exact Prod.ext (ent_data hc x m) (ent_map hc x e0 m)
    rw [List.foldl_cons, List.foldl_cons, e]
    exact ih (fun c hc => h c (by simp [hc])) x _
theorem settle_other {P : List Chg} {i : Int} (h : ∀ c ∈ P, c.node ≠ i) (acc : Acc) : P.foldl (settleStep i) acc = acc := by
  induction P generalizing acc with
  | nil => rfl
  | cons c P ih =>
    rw [List.foldl_cons, show settleStep i acc c = acc by simp [settleStep, h c]]
    exact ih (fun c hc => h c (by simp [hc])) acc
theorem foldOk_ents {P : List Chg} (h : ∀ c ∈ P, isEnt c) (i : Int) : ∀ acc, foldOk i acc P := by
  induction P with
  | nil => intro _; trivial
  | cons c P ih => intro acc; exact ⟨fun _ => ent_fits (h c (by simp)) _, ih (fun c hc => h c (by simp [hc])) _⟩
theorem foldOk_app {P Q : List Chg} {i : Int} : ∀ {acc : Acc}, foldOk i acc P → foldOk i (P.foldl (settleStep i) acc) Q → foldOk i acc (P ++ Q) := by
  induction P with
  | nil => intro acc _ h; exact h
  | cons c P ih => intro acc h1 h2; exact ⟨h1.1, ih h1.2 h2⟩
theorem rest_ents {P : List Chg} (h : ∀ c ∈ P, isEnt c) : restOf 0 P = [] := by
  simp only [restOf, List.filter_eq_nil_iff]
  intro c hc
  simp [(h c hc).1]
theorem rest_other {P : List Chg} {i : Int} (h : ∀ c ∈ P, c.node ≠ i) : restOf i P = P := by
  simp only [restOf, List.filter_eq_self]
  intro c hc
  simpa using h c hc
def cLink (x : ByteArray) (h : Nat) : Chg := ⟨2, 0, e0, 0, x, e0, h⟩
def cGrow (h : Nat) (data : ByteArray) : Chg := ⟨0, h, data, 0, e0, e0, 0⟩
def cGone (x : ByteArray) : Chg := ⟨3, 0, e0, 0, x, e0, 0⟩
def cMove (x y : ByteArray) : Chg := ⟨4, 0, e0, 0, x, y, 0⟩
theorem link_ent (x : ByteArray) (h : Nat) : isEnt (cLink x h) := ⟨rfl, .inl rfl⟩
theorem gone_ent (x : ByteArray) : isEnt (cGone x) := ⟨rfl, .inr (.inl rfl)⟩
theorem move_ent (x y : ByteArray) : isEnt (cMove x y) := ⟨rfl, .inr (.inr rfl)⟩
theorem e0_append (s : ByteArray) : e0 ++ s = s := by
  apply ba_ext
  simp

/- The calls. -/
def isDir (N : List Nd) : Prop := ∃ n0, N[0]? = some n0 ∧ n0.kind = 1
theorem isDir.nd {d : Dk} {N : List Nd} (hN : d.nodes = N) (h : isDir N) : (d.nd 0).kind = 1 := by
  obtain ⟨n0, h1, h2⟩ := h
  have e : d.nd 0 = n0 := nd_of (i := 0) (by rw [hN]; exact h1) rfl
  rw [e]; exact h2
theorem isDir.app {N M : List Nd} (h : isDir N) : isDir (N ++ M) := by
  obtain ⟨n0, h1, h2⟩ := h
  exact ⟨n0, by rw [List.getElem?_append_left (List.getElem?_eq_some_iff.1 h1).1]; exact h1, h2⟩
section
variable {d : Dk} {r : Option Nat} {N : List Nd} {S K : Slt → Option Int} {P : List Chg} {p x : ByteArray}
theorem create_at {kind : Int} (h : At d r ⟨N, S, K, P⟩) (hp : parseF p = some [x]) (hN : isDir N) (hx : S (0, x) = none) :
    Act r (createF d p kind) ⟨N ++ [⟨kind, e0, e0⟩], S, K, P⟩ ⟨N ++ [⟨kind, e0, e0⟩], fput S (0, x) (N.length : Int), K, P ++ [cLink x N.length]⟩ := by
  have hk := hN.nd h.nodes
  have hsx : d.seen (0, x) = none := by rw [h.seen]; exact hx
  have e : createF d p kind = doF (d.addNode kind) (cLink x N.length) 0 (d.nd 0) := by
    simp only [createF, h.up, hp, walk_one hk, hsx, Option.getD_none]
    rw [if_neg (by decide), if_neg (by simp), if_neg (by decide)]
    have : d.nodes.length = N.length := by rw [h.nodes]
    rw [this]
    rfl
  rw [e]
  obtain ⟨n0, h1, h2⟩ := hN
  have hnd : d.nd 0 = n0 := nd_of (i := 0) (by rw [h.nodes]; exact h1) rfl
  have ha : At (d.addNode kind) r ⟨N ++ [⟨kind, e0, e0⟩], S, K, P⟩ := ⟨h.cap, h.up, h.arm, h.left, by show d.nodes ++ _ = _; rw [h.nodes], h.seen, h.kept, h.pend⟩
  have t := do_at ha (cLink x N.length) 0 (d.nd 0)
  rw [hnd] at t ⊢
  rw [ent_data (link_ent x N.length), show ({ n0 with seen := n0.seen } : Nd) = n0 from rfl] at t
  rw [set_same (by rw [List.getElem?_append_left (List.getElem?_eq_some_iff.1 h1).1]; exact h1)] at t
  exact t
theorem append_at {data kp : ByteArray} {U : Nat} (h : At d r ⟨N ++ [⟨2, e0, kp⟩], S, K, P⟩) (hp : parseF p = some [x]) (hN : isDir N) (hx : S (0, x) = some (N.length : Int)) (hU : (U : Int) + data.size ≤ 1073741824) :
    Act r (appendF d p data U) ⟨N ++ [⟨2, e0, kp⟩], S, K, P⟩ ⟨N ++ [⟨2, data, kp⟩], S, K, P ++ [cGrow N.length data]⟩ := by
  have hk := (hN.app (M := [⟨2, e0, kp⟩])).nd h.nodes
  have hsx : d.seen (0, x) = some (N.length : Int) := by rw [h.seen]; exact hx
  have hni : d.nodes[N.length]? = some ⟨2, e0, kp⟩ := by rw [h.nodes]; simp
  have hnd : d.nd (N.length : Int) = ⟨2, e0, kp⟩ := nd_of hni rfl
  have hf := find_one (kind := 2) hk h.up hp hsx (by omega) (.inr (by rw [hnd]))
  have e : appendF d p data U = doF d (cGrow N.length data) N.length ⟨2, e0, kp⟩ := by
    simp only [appendF, hf, hnd]
    rw [if_neg (by simp), if_neg (by rw [h.cap]; omega)]
    rfl
  rw [e]
  have t := do_at h (cGrow N.length data) N.length ⟨2, e0, kp⟩
  have ea : applyF (cGrow N.length data) e0 S = (data, S) := by simp [applyF, cGrow, e0_append]
  simp only [ea] at t
  have es : (N ++ [(⟨2, e0, kp⟩ : Nd)]).set N.length ⟨2, data, kp⟩ = N ++ [⟨2, data, kp⟩] := by simp
  rw [es] at t
  exact t
theorem sync_at {data : ByteArray} (h : At d r ⟨N ++ [⟨2, data, e0⟩], S, K, P ++ [cGrow N.length data]⟩) (hp : parseF p = some [x]) (hN : isDir N) (hx : S (0, x) = some (N.length : Int)) (hP : ∀ c ∈ P, isEnt c) :
    Act r (syncF d p 2) ⟨N ++ [⟨2, data, e0⟩], S, K, P ++ [cGrow N.length data]⟩ ⟨N ++ [⟨2, data, data⟩], S, K, P⟩ := by
  have hk := (hN.app (M := [⟨2, data, e0⟩])).nd h.nodes
  have hsx : d.seen (0, x) = some (N.length : Int) := by rw [h.seen]; exact hx
  have hni : d.nodes[N.length]? = some ⟨2, data, e0⟩ := by rw [h.nodes]; simp
  have hnd : d.nd (N.length : Int) = ⟨2, data, e0⟩ := nd_of hni rfl
  have hf := find_one (kind := 2) hk h.up hp hsx (by omega) (.inr (by rw [hnd]))
  have hpos : N.length ≠ 0 := by
    obtain ⟨n0, h1, _⟩ := hN
    have := (List.getElem?_eq_some_iff.1 h1).1
    omega
  have e : syncF d p 2 = settleF d N.length ⟨2, data, e0⟩ := by
    simp only [syncF, hf, hnd]
    rw [if_neg (by simp)]
    rfl
  rw [e]
  have t := settle_at h N.length ⟨2, data, e0⟩
  have hne : ∀ c ∈ P, c.node ≠ (N.length : Int) := fun c hc => by rw [(hP c hc).1]; omega
  have ea : (P ++ [cGrow N.length data]).foldl (settleStep N.length) (e0, K) = (data, K) := by
    rw [List.foldl_append, settle_other hne]
    simp [settleStep, cGrow, applyF, e0_append]
  have er : restOf N.length (P ++ [cGrow N.length data]) = P := by
    have := rest_other hne
    simp only [restOf] at this
    rw [restOf, List.filter_append, this]
    simp [cGrow]
  simp only [ea, er] at t
  have es : (N ++ [(⟨2, data, e0⟩ : Nd)]).set N.length ⟨2, data, data⟩ = N ++ [⟨2, data, data⟩] := by simp
  rw [es] at t
  exact t
theorem syncdir_at (h : At d r ⟨N, S, K, P⟩) (hp : parseF p = some []) (hN : isDir N) (hP : ∀ c ∈ P, isEnt c) :
    Act r (syncF d p 1) ⟨N, S, K, P⟩ ⟨N, S, P.foldl entF K, []⟩ := by
  have hk := hN.nd h.nodes
  have hf := find_root hk h.up hp
  obtain ⟨n0, h1, h2⟩ := hN
  have hnd : d.nd 0 = n0 := nd_of (i := 0) (by rw [h.nodes]; exact h1) rfl
  have e : syncF d p 1 = settleF d 0 n0 := by
    simp only [syncF, hf, hnd]
    rw [if_neg (by simp)]
    rfl
  rw [e]
  have t := settle_at h 0 n0
  simp only [show ((0 : Nat) : Int) = 0 from rfl, settle_ents hP, rest_ents hP] at t
  rw [show ({ n0 with kept := n0.kept } : Nd) = n0 from rfl, set_same h1] at t
  exact t
theorem entry_at (h : At d r ⟨N, S, K, P⟩) (hN : isDir N) {c : Chg} (hc : isEnt c) : Act r (doF d c 0 (d.nd 0)) ⟨N, S, K, P⟩ ⟨N, entF S c, K, P ++ [c]⟩ := by
  obtain ⟨n0, h1, h2⟩ := hN
  have hnd : d.nd 0 = n0 := nd_of (i := 0) (by rw [h.nodes]; exact h1) rfl
  have t := do_at h c 0 n0
  rw [hnd]
  rw [ent_data hc, show ({ n0 with seen := n0.seen } : Nd) = n0 from rfl, set_same h1, ent_map hc _ e0] at t
  exact t
end
end Go.Proofs.YtojnickeblbgoaaDoor
