/-
  Layer 15 (control), part U: ControlAtomic, the plain law: what a call of the controller sends is right, and what a report says is so.
-/
import Derived.Test.YtpiceodfdjihhaaCtlT
namespace Go.Proofs.Ytpiceodfdjihhaa
open Go.Lift

/-- A message that may go out. -/
structure Right (p : PS) (m : Ms) : Prop where
  from_ : m.sender = 64
  to_ : 0 ≤ m.to ∧ m.to < p.nodes.length
  id : m.id = p.x.job
  epoch : m.epoch = p.x.job
  code : m.code = 0
  prev : m.prev = 0
  key : m.key = noB
  value : m.value = noB
  what : (m.kind = 3 ∧ p.kind = 1 ∧ p.back = false ∧ m.seq = 0 ∧ m.version = p.ver) ∨ (m.kind = 5 ∧ p.back = false ∧ m.seq = 1 ∧ m.version = p.ver ∧ (p.kind = 2 ∨ (p.kind = 1 ∧ ∀ b ∈ p.fetched, b = true))) ∨ (m.kind = 7 ∧ m.seq = 2 ∧ m.version = 0)
/-- Node i is as it was, and h is what it holds. -/
def RestOk (p : PS) (i : Nat) (h : Int) : Prop := ∃ nd, p.nodes[i]? = some nd ∧ h = nd.cur ∧ (nd.swapped ≠ p.x.job ∨ nd.cur = nd.was) ∧ nd.epoch = p.x.job ∧ nd.seq = 2
structure EndOk (p : PS) (r : Rep) : Prop where
  job : r.job = p.x.job
  kind : r.kind = p.kind
  ver : r.version = p.ver
  holds : r.holds.length = p.nodes.length
  what : (r.outcome = 1 ∧ p.back = false ∧ r.missing = [] ∧ ∀ i, i < p.nodes.length → ∃ nd, p.nodes[i]? = some nd ∧ nd.cur = p.ver ∧ r.holds[i]? = some p.ver ∧ nd.epoch = p.x.job ∧ nd.seq = 1) ∨
    (r.outcome = 2 ∧ p.back = true ∧ r.missing = [] ∧ ∀ i, i < p.nodes.length → p.backed[i]? = some true ∧ ∃ h, r.holds[i]? = some h ∧ RestOk p i h) ∨
    (r.outcome = 3 ∧ p.back = true ∧ r.missing = missK p.backed p.nodes.length ∧ false ∈ p.backed ∧ p.backed.length = p.nodes.length ∧
      ∀ i, i < p.nodes.length → (p.backed[i]? = some true → ∃ h, r.holds[i]? = some h ∧ RestOk p i h) ∧ (p.backed[i]? = some false → r.holds[i]? = some (-1)))
def atS (p : PS) (r : Rep) : List Int := (List.range p.nodes.length).map fun i =>
  if r.outcome = 1 then p.ver else if r.outcome = 2 then (p.nodes[i]?.getD .zero).cur else if p.backed[i]? = some true then (p.nodes[i]?.getD .zero).cur else -1
structure WentOk (p : PS) (x' : CS) (out : List Ms) : Prop where
  right : ∀ m ∈ out, Right p m
  homog : (∀ m ∈ out, m.kind = 7) ∨ ∀ m ∈ out, m.kind ≠ 7
  idle : p.x.now = none → out = []
  ended : p.x.now ≠ none → x'.now = none → out = [] ∧ x'.ended = true ∧ EndOk p x'.last
def wentS (p : PS) (x' : CS) (out : List Ms) : PS :=
  { p with x := x', letters := p.letters ++ out, back := p.back || out.any (fun m => decide (m.kind = 7)), at_ := if p.x.now.isSome && x'.now.isNone then atS p x'.last else p.at_ }

/-- A play whose phase may be turned. -/
structure Base (p : PS) : Prop where
  ok : COk p.x
  n : p.nodes.length = p.x.n
  n16 : p.x.n ≤ 16
  atl : p.at_.length = p.x.n
  nd : ∀ nd ∈ p.nodes, NdOk p.x.job p.ver p.back nd
  letters : ∀ m ∈ p.letters, LOk p.x.job p.ver p.back p.nodes m
  kind : p.kind = p.x.kind
  ver : p.ver = p.x.ver
  k12 : p.kind = 1 ∨ p.kind = 2
  job : 1 ≤ p.x.job
  fetched : p.fetched.length = p.x.n
  backed : p.backed.length = p.x.n
  at_ : ∀ a ∈ p.at_, a = -1
  now : p.x.now.isSome = true
theorem Inv.base {p : PS} (h : Inv p) {q : Ph} (hq : p.x.now = some q) : Base p :=
  let b := h.busy q hq
  ⟨h.ok, h.n, h.n16, h.atl, h.nd, h.letters, b.kind, b.ver, b.k12, b.job, b.fetched, b.backed, b.at_, by rw [hq]; rfl⟩

theorem NdOk.up {job ver : Int} {b b' : Bool} {n : Nd} (h : NdOk job ver b n) (hb : b = true → b' = true) : NdOk job ver b' n :=
  ⟨h.e, h.s, h.z, h.z', h.sw, h.one, h.two, fun h1 h2 => hb (h.jb h1 h2), h.jc⟩
theorem LOk.up {job ver : Int} {b b' : Bool} {nodes : List Nd} {m : Ms} (h : LOk job ver b nodes m) (hb : b = true → b' = true) : LOk job ver b' nodes m := by
  refine ⟨h.id, h.e, h.key, h.value, ?_⟩
  rcases h.road with hr | hr
  · refine .inl ⟨hr.from_, hr.to_, ?_⟩
    rcases hr.what with h1 | h1 | h1
    · exact .inl h1
    · exact .inr (.inl h1)
    · exact .inr (.inr ⟨h1.1, h1.2.1, fun he => hb (h1.2.2 he)⟩)
  · exact .inr hr
/-- A message of a phase of this job. -/
theorem msg_ok {p : PS} {y : CS} {k : Nat} {i : Int} {b' : Bool} (hj : y.job = p.x.job) (hv : y.ver = p.ver) (hjob : 1 ≤ p.x.job) (hi : 0 ≤ i ∧ i < p.nodes.length) (hk : k = 1 ∨ k = 2 ∨ k = 3) (hb : k = 3 → b' = true) : LOk p.x.job p.ver b' p.nodes (y.msg k i) := by
  have e4 : ¬ k = 4 := by omega
  refine ⟨by simp [CS.msg, e4], by simp [CS.msg, e4]; omega, rfl, rfl, .inl ⟨rfl, hi, ?_⟩⟩
  rcases hk with rfl | rfl | rfl
  · exact .inl ⟨rfl, rfl⟩
  · exact .inr (.inl ⟨rfl, rfl, fun _ => by simp [CS.msg, hv]⟩)
  · exact .inr (.inr ⟨rfl, rfl, fun _ => hb rfl⟩)
theorem msg_right {p : PS} {y : CS} {k : Nat} {i : Int} (hj : y.job = p.x.job) (hv : y.ver = p.ver) (hi : 0 ≤ i ∧ i < p.nodes.length) (hk : (k = 1 ∧ p.kind = 1 ∧ p.back = false) ∨ (k = 2 ∧ p.back = false ∧ (p.kind = 2 ∨ (p.kind = 1 ∧ ∀ b ∈ p.fetched, b = true))) ∨ k = 3) : Right p (y.msg k i) := by
  have e4 : ¬ k = 4 := by omega
  refine ⟨rfl, hi, hj, by simp [CS.msg, e4, hj], rfl, rfl, rfl, rfl, ?_⟩
  rcases hk with ⟨rfl, h1, h2⟩ | ⟨rfl, h1, h2⟩ | rfl
  · exact .inl ⟨rfl, h1, h2, rfl, by simp [CS.msg, hv]⟩
  · exact .inr (.inl ⟨rfl, h1, rfl, by simp [CS.msg, hv], h2⟩)
  · exact .inr (.inr ⟨rfl, rfl, rfl⟩)
theorem missK_mem {said : List Bool} {k : Nat} {i : Int} (h : i ∈ missK said k) : 0 ≤ i ∧ i < k ∧ said[i.toNat]?.getD true = false := by
  unfold missK at h
  obtain ⟨j, hj, rfl⟩ := List.mem_map.1 h
  obtain ⟨h1, h2⟩ := List.mem_filter.1 hj
  have := List.mem_range.1 h1
  refine ⟨by omega, by omega, by simpa using h2⟩
/-- What a phase sends. -/
theorem send_mem {y : CS} {q : Ph} (hq : y.now = some q) {m : Ms} (hm : m ∈ y.sendS) : ∃ i : Int, m = y.msg q.kind i ∧ 0 ≤ i ∧ i < q.said.length := by
  unfold CS.sendS at hm
  rw [hq] at hm
  obtain ⟨i, hi, rfl⟩ := List.mem_map.1 hm
  exact ⟨i, rfl, (missK_mem hi).1, (missK_mem hi).2.1⟩

section
variable {p : PS}
/-- The phase stays; this goes out. -/
theorem stays (h : Base p) {q q' : Ph} (hq : p.x.now = some q) (hph : PhOk p q') (hk' : q'.kind = q.kind) {x' : CS} (hx' : x' = { p.x with now := some q' }) (hok : COk x') {out : List Ms} (ho : out = [] ∨ (∃ y : CS, y.job = p.x.job ∧ y.ver = p.x.ver ∧ y.now = some q' ∧ out = y.sendS)) :
    WentOk p x' out ∧ Inv (wentS p x' out) := by
  subst hx'
  have hsl : q'.said.length = p.nodes.length := by have := (hok.now q' rfl).said; rw [this, h.n]
  have hmem : ∀ m ∈ out, ∃ (y : CS) (i : Int), y.job = p.x.job ∧ y.ver = p.ver ∧ m = y.msg q'.kind i ∧ 0 ≤ i ∧ i < p.nodes.length := by
    intro m hm
    rcases ho with rfl | ⟨y, hj, hv, hn, rfl⟩
    · cases hm
    · obtain ⟨i, h1, h2, h3⟩ := send_mem hn hm
      exact ⟨y, i, hj, by rw [hv, h.ver], h1, h2, by omega⟩
  have hright : ∀ m ∈ out, Right p m := by
    intro m hm
    obtain ⟨y, i, hj, hv, rfl, hi⟩ := hmem m hm
    refine msg_right hj hv hi ?_
    rcases hph.k with hk | hk | hk
    · exact .inl ⟨hk, (hph.one hk).1, (hph.one hk).2.1⟩
    · refine .inr (.inl ⟨hk, (hph.two hk).1, ?_⟩)
      rcases h.k12 with h1 | h1
      · exact .inr ⟨h1, (hph.two hk).2.2.1 h1⟩
      · exact .inl h1
    · exact .inr (.inr hk)
  have hkind : ∀ m ∈ out, m.kind = 2 * (q'.kind : Int) + 1 := fun m hm => by
    obtain ⟨y, i, hj, hv, rfl, hi⟩ := hmem m hm
    rfl
  have hany : (out.any fun m => decide (m.kind = 7)) = true → p.back = true := by
    intro ha
    obtain ⟨m, hm, h7⟩ := List.any_eq_true.1 ha
    have := hkind m hm
    have h7' : m.kind = 7 := by simpa using h7
    exact (hph.three (by omega)).1
  have hback : (p.back || out.any fun m => decide (m.kind = 7)) = p.back := by
    cases hb : (out.any fun m => decide (m.kind = 7)) with
    | false => simp
    | true => rw [hany hb]; rfl
  refine ⟨⟨hright, ?_, fun hn => (by rw [hn] at hq; cases hq), fun _ hn => by cases hn⟩, ?_⟩
  · by_cases h3 : q'.kind = 3
    · exact .inl fun m hm => by rw [hkind m hm, h3]; rfl
    · exact .inr fun m hm => by rw [hkind m hm]; omega
  · unfold wentS
    rw [hback]
    have hat : (if p.x.now.isSome && ({ p.x with now := some q' } : CS).now.isNone then atS p ({ p.x with now := some q' } : CS).last else p.at_) = p.at_ := by simp
    rw [hat]
    refine ⟨hok, h.n, h.n16, h.atl, h.nd, fun m hm => ?_, fun r hr => ?_, fun hn => by cases hn⟩
    · rcases List.mem_append.1 hm with hm | hm
      · exact h.letters m hm
      · obtain ⟨y, i, hj, hv, rfl, hi⟩ := hmem m hm
        exact msg_ok hj hv h.job hi hph.k fun h3 => (hph.three h3).1
    · cases hr
      exact ⟨h.kind, h.ver, h.k12, h.job, h.fetched, h.backed, h.at_, ⟨hph.k, hph.one, hph.two, hph.three⟩⟩
/-- The phase 3 begins. -/
theorem backs (h : Base p) (hb : p.backed = List.replicate p.x.n false) {y : CS} (hy : { y with now := p.x.now } = p.x) (hok : COk (y.enterS 3).1) :
    WentOk p (y.enterS 3).1 (y.enterS 3).2 ∧ Inv (wentS p (y.enterS 3).1 (y.enterS 3).2) := by
  have yj : y.job = p.x.job := by rw [← hy]
  have yn : y.n = p.x.n := by rw [← hy]
  have yk : y.kind = p.x.kind := by rw [← hy]
  have yv : y.ver = p.x.ver := by rw [← hy]
  have hn1 := h.ok.n.1
  have hmem : ∀ m ∈ (y.enterS 3).2, ∃ i : Int, m = y.msg 3 i ∧ 0 ≤ i ∧ i < p.nodes.length := by
    intro m hm
    rw [enterS_out] at hm
    obtain ⟨i, hi, rfl⟩ := List.mem_map.1 hm
    have := List.mem_range.1 hi
    exact ⟨i, rfl, by omega, by rw [h.n]; omega⟩
  have hany : ((y.enterS 3).2.any fun m => decide (m.kind = 7)) = true := by
    rw [enterS_out, List.any_eq_true]
    exact ⟨y.msg 3 0, List.mem_map.2 ⟨0, List.mem_range.2 (by omega), rfl⟩, by simp [CS.msg]⟩
  have hsome := h.now
  refine ⟨⟨fun m hm => ?_, .inl fun m hm => ?_, fun hn => (by rw [hn] at hsome; cases hsome), fun _ hn => by cases hn⟩, ?_⟩
  · obtain ⟨i, rfl, hi⟩ := hmem m hm
    exact msg_right yj (by rw [yv, h.ver]) hi (.inr (.inr rfl))
  · obtain ⟨i, rfl, hi⟩ := hmem m hm
    rfl
  · unfold wentS
    rw [hany, Bool.or_true]
    have hat : (if p.x.now.isSome && ((y.enterS 3).1).now.isNone then atS p ((y.enterS 3).1).last else p.at_) = p.at_ := by simp [CS.enterS]
    rw [hat]
    refine ⟨hok, by show _ = y.n; rw [yn]; exact h.n, by show y.n ≤ 16; rw [yn]; exact h.n16, by show _ = y.n; rw [yn]; exact h.atl, fun nd hnd => ?_, fun m hm => ?_, fun q hq => ?_, fun hn => by cases hn⟩
    · show NdOk y.job p.ver true nd
      rw [yj]; exact (h.nd nd hnd).up fun _ => rfl
    · show LOk y.job p.ver true p.nodes m
      rw [yj]
      rcases List.mem_append.1 hm with hm | hm
      · exact (h.letters m hm).up fun _ => rfl
      · obtain ⟨i, rfl, hi⟩ := hmem m hm
        exact msg_ok yj (by rw [yv, h.ver]) h.job hi (.inr (.inr rfl)) fun _ => rfl
    · cases hq
      refine ⟨by show p.kind = y.kind; rw [yk]; exact h.kind, by show p.ver = y.ver; rw [yv]; exact h.ver, h.k12, by show 1 ≤ y.job; rw [yj]; exact h.job, by show _ = y.n; rw [yn]; exact h.fetched, by show _ = y.n; rw [yn]; exact h.backed, h.at_, ⟨.inr (.inr rfl), fun h => by simp [Ph.new] at h, fun h => by simp [Ph.new] at h, fun _ => ⟨rfl, ?_, fun i => ⟨fun hi => ?_, fun hi => ?_⟩⟩⟩⟩
      · show p.backed = List.replicate y.n false
        rw [yn]; exact hb
      · simp [Ph.new, List.getElem?_replicate] at hi
      · have hi' : i < y.n := by simpa [Ph.new] using (List.getElem?_eq_some_iff.1 hi).1
        show (List.replicate y.n (-1 : Int))[i]? = some (-1)
        rw [List.getElem?_replicate, if_pos hi']
/-- The phase 2 begins. -/
theorem swaps (h : Base p) (hb : p.backed = List.replicate p.x.n false) (hk : p.back = false) (hf : p.kind = 1 → ∀ b ∈ p.fetched, b = true) {y : CS} (hy : { y with now := p.x.now } = p.x) (hok : COk (y.enterS 2).1) :
    WentOk p (y.enterS 2).1 (y.enterS 2).2 ∧ Inv (wentS p (y.enterS 2).1 (y.enterS 2).2) := by
  have yj : y.job = p.x.job := by rw [← hy]
  have yn : y.n = p.x.n := by rw [← hy]
  have yk : y.kind = p.x.kind := by rw [← hy]
  have yv : y.ver = p.x.ver := by rw [← hy]
  have hmem : ∀ m ∈ (y.enterS 2).2, ∃ i : Int, m = y.msg 2 i ∧ 0 ≤ i ∧ i < p.nodes.length := by
    intro m hm
    rw [enterS_out] at hm
    obtain ⟨i, hi, rfl⟩ := List.mem_map.1 hm
    have := List.mem_range.1 hi
    exact ⟨i, rfl, by omega, by rw [h.n]; omega⟩
  have hany : ((y.enterS 2).2.any fun m => decide (m.kind = 7)) = false := by
    rw [List.any_eq_false]
    intro m hm
    obtain ⟨i, rfl, hi⟩ := hmem m hm
    simp [CS.msg]
  have hsome := h.now
  have hor : p.kind = 2 ∨ (p.kind = 1 ∧ ∀ b ∈ p.fetched, b = true) := by
    rcases h.k12 with h1 | h1
    · exact .inr ⟨h1, hf h1⟩
    · exact .inl h1
  refine ⟨⟨fun m hm => ?_, .inr fun m hm => ?_, fun hn => (by rw [hn] at hsome; cases hsome), fun _ hn => by cases hn⟩, ?_⟩
  · obtain ⟨i, rfl, hi⟩ := hmem m hm
    exact msg_right yj (by rw [yv, h.ver]) hi (.inr (.inl ⟨rfl, hk, hor⟩))
  · obtain ⟨i, rfl, hi⟩ := hmem m hm
    simp [CS.msg]
  · unfold wentS
    rw [hany, Bool.or_false]
    have hat : (if p.x.now.isSome && ((y.enterS 2).1).now.isNone then atS p ((y.enterS 2).1).last else p.at_) = p.at_ := by simp [CS.enterS]
    rw [hat]
    refine ⟨hok, by show _ = y.n; rw [yn]; exact h.n, by show y.n ≤ 16; rw [yn]; exact h.n16, by show _ = y.n; rw [yn]; exact h.atl, fun nd hnd => ?_, fun m hm => ?_, fun q hq => ?_, fun hn => by cases hn⟩
    · show NdOk y.job p.ver p.back nd
      rw [yj]; exact h.nd nd hnd
    · show LOk y.job p.ver p.back p.nodes m
      rw [yj]
      rcases List.mem_append.1 hm with hm | hm
      · exact h.letters m hm
      · obtain ⟨i, rfl, hi⟩ := hmem m hm
        exact msg_ok yj (by rw [yv, h.ver]) h.job hi (.inr (.inl rfl)) fun h3 => by cases h3
    · cases hq
      refine ⟨by show p.kind = y.kind; rw [yk]; exact h.kind, by show p.ver = y.ver; rw [yv]; exact h.ver, h.k12, by show 1 ≤ y.job; rw [yj]; exact h.job, by show _ = y.n; rw [yn]; exact h.fetched, by show _ = y.n; rw [yn]; exact h.backed, h.at_, ⟨.inr (.inl rfl), fun h => by simp [Ph.new] at h, fun _ => ⟨hk, ?_, hf, fun i hi => ?_⟩, fun h => by simp [Ph.new] at h⟩⟩
      · show p.backed = List.replicate y.n false
        rw [yn]; exact hb
      · simp [Ph.new, List.getElem?_replicate] at hi
/-- The job ends. -/
theorem ends_ (h : Base p) {q : Ph} {y : CS} (hy : { y with now := p.x.now } = p.x) {o : Int} (hok : COk (y.endS q o).1) (he : EndOk p (y.endS q o).1.last) :
    WentOk p (y.endS q o).1 (y.endS q o).2 ∧ Inv (wentS p (y.endS q o).1 (y.endS q o).2) := by
  have yj : y.job = p.x.job := by rw [← hy]
  have yn : y.n = p.x.n := by rw [← hy]
  have hsome := h.now
  refine ⟨⟨fun m hm => by simp [CS.endS] at hm, .inr fun m hm => by simp [CS.endS] at hm, fun _ => rfl, fun _ _ => ⟨rfl, rfl, he⟩⟩, ?_⟩
  unfold wentS
  have hat : (if p.x.now.isSome && ((y.endS q o).1).now.isNone then atS p ((y.endS q o).1).last else p.at_) = atS p (y.endS q o).1.last := by rw [hsome]; rfl
  rw [hat]
  have hb0 : (p.back || (y.endS q o).2.any fun m => decide (m.kind = 7)) = p.back := by simp [CS.endS]
  rw [hb0]
  generalize hr : (y.endS q o).1.last = r at *
  refine ⟨hok, by show _ = y.n; rw [yn]; exact h.n, by show y.n ≤ 16; rw [yn]; exact h.n16, by show (atS p r).length = y.n; unfold atS; rw [List.length_map, List.length_range, h.n, yn], fun nd hnd => ?_, fun m hm => ?_, fun q' hq' => (by cases hq'), fun _ i a ha h0 => ?_⟩
  · show NdOk y.job p.ver p.back nd
    rw [yj]; exact h.nd nd hnd
  · show LOk y.job p.ver p.back p.nodes m
    rw [yj]
    rcases List.mem_append.1 hm with hm | hm
    · exact h.letters m hm
    · simp [CS.endS] at hm
  · show ∃ nd, p.nodes[i]? = some nd ∧ nd.cur = a ∧ nd.epoch = y.job ∧ (nd.seq = 2 ∨ (nd.seq = 1 ∧ p.back = false))
    rw [yj]
    have hi : i < p.nodes.length := by
      have := (List.getElem?_eq_some_iff.1 ha).1
      simpa [atS] using this
    unfold atS at ha
    simp [hi] at ha
    rcases he.what with ⟨o1, h1, h2, h3⟩ | ⟨o2, h1, h2, h3⟩ | ⟨o3, h1, h2, h3, h4, h5⟩
    · rw [o1] at ha
      simp at ha
      obtain ⟨nd, g1, g2, _, g4, g5⟩ := h3 i hi
      exact ⟨nd, g1, by rw [g2]; exact ha, g4, .inr ⟨g5, h1⟩⟩
    · rw [o2] at ha
      simp at ha
      obtain ⟨_, hh, _, nd, g1, g2, g3, g4, g5⟩ := h3 i hi
      obtain ⟨_, rfl⟩ := List.getElem?_eq_some_iff.1 g1
      exact ⟨_, g1, ha, g4, .inl g5⟩
    · rw [o3] at ha
      simp at ha
      have hbl : i < p.backed.length := by omega
      cases hb : p.backed[i]? with
      | none => have := List.getElem?_eq_none_iff.1 hb; omega
      | some b =>
        cases b with
        | true =>
          rw [hb] at ha
          simp at ha
          obtain ⟨hh, _, nd, g1, g2, g3, g4, g5⟩ := (h5 i hi).1 hb
          obtain ⟨_, rfl⟩ := List.getElem?_eq_some_iff.1 g1
          exact ⟨_, g1, ha, g4, .inl g5⟩
        | false =>
          rw [hb] at ha
          simp at ha
          omega

/-- The late end of a phase that is taken back. -/
theorem Base.holdsLen (h : Base p) {q : Ph} (hq : p.x.now = some q) : q.said.length = p.nodes.length ∧ q.holds.length = p.nodes.length := by
  have := h.ok.now q hq
  exact ⟨by rw [this.said, h.n], by rw [this.holds, h.n]⟩
theorem restOk (h : Base p) {i : Nat} {nd : Nd} (g1 : p.nodes[i]? = some nd) (g2 : nd.epoch = p.x.job) (g3 : nd.seq = 2) : RestOk p i nd.cur := by
  refine ⟨nd, g1, rfl, ?_, g2, g3⟩
  have hn := h.nd nd (List.mem_of_getElem? g1)
  by_cases hs : nd.swapped = p.x.job
  · exact .inr (hn.two g3 (by omega))
  · exact .inl hs
/-- Incomplete. -/
theorem late3 (h : Base p) {q : Ph} {y : CS} (hy : { y with now := p.x.now } = p.x) (hq : PhOk p q) (hk : q.kind = 3) (hl : q.said.length = p.nodes.length ∧ q.holds.length = p.nodes.length) (ho : false ∈ q.said) : EndOk p (y.endS q 3).1.last := by
  obtain ⟨b1, b2, b3⟩ := hq.three hk
  have yj : y.job = p.x.job := by rw [← hy]
  have yk : y.kind = p.x.kind := by rw [← hy]
  have yv : y.ver = p.x.ver := by rw [← hy]
  refine ⟨yj, by show y.kind = _; rw [yk, h.kind], by show y.ver = _; rw [yv, h.ver], hl.2, .inr (.inr ⟨rfl, b1, ?_, by rw [b2]; exact ho, by rw [b2]; exact hl.1, fun i hi => ⟨fun hb => ?_, fun hb => ?_⟩⟩)⟩
  · show missK q.said q.said.length = _
    rw [b2, hl.1]
  · rw [b2] at hb
    obtain ⟨nd, g1, g2, g3, g4⟩ := (b3 i).1 hb
    exact ⟨nd.cur, g4, restOk h g1 g2 g3⟩
  · rw [b2] at hb
    exact (b3 i).2 hb

theorem inv_tick (h : Inv p) : WentOk p p.x.tickS.1 p.x.tickS.2 ∧ Inv (wentS p p.x.tickS.1 p.x.tickS.2) := by
  have hok' := h.ok.tickS
  cases hx : p.x.now with
  | none =>
    have e : p.x.tickS = (p.x, []) := by unfold CS.tickS; rw [hx]
    rw [e]
    refine ⟨⟨fun m hm => (by cases hm), .inr fun m hm => (by cases hm), fun _ => rfl, fun hn => absurd hx hn⟩, ?_⟩
    have e2 : wentS p p.x [] = p := by
      unfold wentS
      simp [hx]
    rw [e2]; exact h
  | some q =>
    have hb := h.base hx
    have hph := (h.busy q hx).ph
    have hpo := h.ok.now q hx
    have hph1 : PhOk p { q with ticks := q.ticks + 1 } := ⟨hph.k, hph.one, hph.two, hph.three⟩
    have hph2 : PhOk p { q with ticks := q.ticks + 1, sends := q.sends + 1 } := ⟨hph.k, hph.one, hph.two, hph.three⟩
    have hy : ({ ({ p.x with now := some { q with ticks := q.ticks + 1 } } : CS) with now := p.x.now } : CS) = p.x := by simp
    have hlen := hb.holdsLen hx
    unfold CS.tickS at hok' ⊢
    rw [hx] at hok' ⊢
    simp only at hok' ⊢
    have back : (q.kind = 1 ∨ q.kind = 2) → p.backed = List.replicate p.x.n false := by
      rintro (hk | hk)
      · exact (hph.one hk).2.2.1
      · exact (hph.two hk).2.1
    have late : COk (({ p.x with now := some { q with ticks := q.ticks + 1 } } : CS).lateS { q with ticks := q.ticks + 1 }).1 → WentOk p (({ p.x with now := some { q with ticks := q.ticks + 1 } } : CS).lateS { q with ticks := q.ticks + 1 }).1 (({ p.x with now := some { q with ticks := q.ticks + 1 } } : CS).lateS { q with ticks := q.ticks + 1 }).2 ∧
        Inv (wentS p (({ p.x with now := some { q with ticks := q.ticks + 1 } } : CS).lateS { q with ticks := q.ticks + 1 }).1 (({ p.x with now := some { q with ticks := q.ticks + 1 } } : CS).lateS { q with ticks := q.ticks + 1 }).2) := by
      intro hk
      unfold CS.lateS at hk ⊢
      split at hk
      · rename_i h12
        rw [if_pos h12]
        exact backs hb (back h12) hy hk
      · rename_i h12
        rw [if_neg h12]
        have h3 : q.kind = 3 := by
          have := hph.k
          simp only at h12
          omega
        exact ends_ hb hy hk (late3 hb hy hph1 h3 hlen hpo.open_)
    split at hok'
    · rename_i hk
      rw [if_pos hk]
      split at hok'
      · rename_i hp; rw [if_pos hp]; exact late hok'
      · rename_i hp
        rw [if_neg hp]
        split at hok'
        · rename_i hm; rw [if_pos hm]
          exact stays hb hx hph1 rfl rfl hok' (.inr ⟨{ p.x with now := some { q with ticks := q.ticks + 1 } }, rfl, rfl, rfl, rfl⟩)
        · rename_i hm; rw [if_neg hm]
          exact stays hb hx hph1 rfl rfl hok' (.inl rfl)
    · rename_i hk
      rw [if_neg hk]
      split at hok'
      · rename_i hm; rw [if_pos hm]
        exact stays hb hx hph1 rfl rfl hok' (.inl rfl)
      · rename_i hm; rw [if_neg hm]
        split at hok'
        · rename_i hs; rw [if_pos hs]; exact late hok'
        · rename_i hs; rw [if_neg hs]
          exact stays hb hx hph2 rfl rfl hok' (.inr ⟨{ p.x with now := some { q with ticks := q.ticks + 1, sends := q.sends + 1 } }, rfl, rfl, rfl, rfl⟩)
theorem inv_stop (h : Inv p) {q : Ph} (hx : p.x.now = some q) : p.x.stopS.err = 0 ∧ WentOk p p.x.stopS.x p.x.stopS.out ∧ Inv (wentS p p.x.stopS.x p.x.stopS.out) := by
  have hok' := h.ok.stopS
  have hb := h.base hx
  have hph := (h.busy q hx).ph
  unfold CS.stopS at hok' ⊢
  rw [hx] at hok' ⊢
  simp only at hok' ⊢
  refine ⟨trivial, ?_⟩
  unfold CS.stoppedS at hok' ⊢
  split at hok'
  · rename_i h12
    rw [if_pos h12]
    refine backs hb ?_ (by simp) hok'
    rcases h12 with hk | hk
    · exact (hph.one hk).2.2.1
    · exact (hph.two hk).2.1
  · rename_i h12
    have h3 : q.kind = 3 := by have := hph.k; omega
    rw [if_neg h12, if_pos h3]
    exact stays hb hx hph rfl (by rw [← hx]) h.ok (.inl rfl)
theorem inv_revive (h : Inv p) {q : Ph} (hx : p.x.now = some q) : p.x.reviveS.err = 0 ∧ WentOk { p with backed := List.replicate p.nodes.length false } p.x.reviveS.x p.x.reviveS.out ∧ Inv (wentS { p with backed := List.replicate p.nodes.length false } p.x.reviveS.x p.x.reviveS.out) := by
  have hok' := h.ok.reviveS
  have hb := h.base hx
  have hk3 : ¬ p.x.kind = 3 := by have := hb.k12; rw [hb.kind] at this; omega
  have hb' : Base { p with backed := List.replicate p.nodes.length false } := ⟨hb.ok, hb.n, hb.n16, hb.atl, hb.nd, hb.letters, hb.kind, hb.ver, hb.k12, hb.job, hb.fetched, by simp [hb.n], hb.at_, hb.now⟩
  unfold CS.reviveS at hok' ⊢
  rw [hx] at hok' ⊢
  simp only [if_neg hk3] at hok' ⊢
  exact ⟨trivial, backs hb' (by simp [hb.n]) (by simp) hok'⟩

/-- What a delivered answer does to the play's books. -/
def PS.noted (p : PS) (m : Ms) : PS :=
  if p.x.now.isSome = true ∧ m.code = 0 ∧ m.epoch = p.x.job then
    { p with fetched := if m.kind = 4 then p.fetched.set m.sender.toNat true else p.fetched, backed := if m.kind = 8 ∧ p.back = true then p.backed.set m.sender.toNat true else p.backed }
  else p
theorem set_true_get {l : List Bool} {i j : Nat} (h : l[i]? = some true) : (l.set j true)[i]? = some true := by
  rw [List.getElem?_set]
  split
  · rename_i hij
    subst hij
    rw [if_pos (List.getElem?_eq_some_iff.1 h).1]
  · exact h
theorem set_true_back {l : List Bool} {i j : Nat} (h : (l.set j true)[i]? = some true) : i = j ∨ l[i]? = some true := by
  rw [List.getElem?_set] at h
  split at h
  · rename_i hij; exact .inl hij.symm
  · exact .inr h
theorem set_true_same {l : List Bool} {j : Nat} (h : l[j]? = some true) : l.set j true = l := by
  obtain ⟨hj, e⟩ := List.getElem?_eq_some_iff.1 h
  rw [← e]; exact List.set_getElem_self hj
/-- The books noted: all stays. -/
theorem Inv.noted (h : Inv p) {m : Ms} (hm : ToC p.x.job p.ver p.nodes m) (hs : ∀ q, p.x.now = some q → q.kind = 3 → m.kind = 8 → m.code = 0 → m.epoch = p.x.job → q.said[m.sender.toNat]? = some true) : Inv (p.noted m) := by
  unfold PS.noted
  split
  · rename_i hc
    refine ⟨h.ok, h.n, h.n16, h.atl, h.nd, h.letters, fun q hq => ?_, h.idle⟩
    obtain ⟨b1, b2, b3, b4, b5, b6, b7, b8⟩ := h.busy q hq
    refine ⟨b1, b2, b3, b4, ?_, ?_, b7, b8.k, fun hk => ?_, fun hk => ?_, fun hk => ?_⟩
    · simp only; split <;> simp [b5]
    · simp only; split <;> simp [b6]
    · obtain ⟨c1, c2, c3, c4⟩ := b8.one hk
      refine ⟨c1, c2, ?_, fun i hi => ?_⟩
      · simp only [c2]; simpa using c3
      · simp only
        split
        · exact set_true_get (c4 i hi)
        · exact c4 i hi
    · obtain ⟨c1, c2, c3, c4⟩ := b8.two hk
      refine ⟨c1, ?_, fun h1 b hb => ?_, c4⟩
      · simp only [c1]; simpa using c2
      · simp only at hb
        split at hb
        · rcases List.mem_or_eq_of_mem_set hb with hb | hb
          · exact c3 h1 b hb
          · exact hb
        · exact c3 h1 b hb
    · obtain ⟨c1, c2, c3⟩ := b8.three hk
      refine ⟨c1, ?_, c3⟩
      simp only
      split
      · rename_i h8
        rw [c2]
        exact set_true_same (hs q hq hk h8.1 hc.2.1 hc.2.2)
      · exact c2
  · exact h

theorem inv_take (h : Inv p) {m : Ms} (hm : LOk p.x.job p.ver p.back p.nodes m) (ht : m.to = 64) :
    WentOk (p.noted m) (p.x.takeS m).1 (p.x.takeS m).2 ∧ Inv (wentS (p.noted m) (p.x.takeS m).1 (p.x.takeS m).2) := by
  have hn16 := h.n16
  have hnl := h.n
  have hC : ToC p.x.job p.ver p.nodes m := by
    rcases hm.road with hr | hr
    · have := hr.to_; omega
    · exact hr
  have hxn : (p.noted m).x = p.x := by unfold PS.noted; split <;> rfl
  have hok' := h.ok.takeS m
  cases hx : p.x.now with
  | none =>
    have e : p.x.takeS m = (p.x, []) := by unfold CS.takeS; rw [hx]
    have e1 : p.noted m = p := by unfold PS.noted; rw [hx]; simp
    rw [e, e1]
    refine ⟨⟨fun m hm => (by cases hm), .inr fun m hm => (by cases hm), fun _ => rfl, fun hn => absurd hx hn⟩, ?_⟩
    have e2 : wentS p p.x [] = p := by unfold wentS; simp [hx]
    rw [e2]; exact h
  | some q =>
    have hb := h.base hx
    have hbz := h.busy q hx
    have hph := hbz.ph
    have hpo := h.ok.now q hx
    have hlen := hb.holdsLen hx
    obtain ⟨nd, s0, s1, s2⟩ := hC.nd
    have slt : m.sender.toNat < p.nodes.length := (List.getElem?_eq_some_iff.1 s1).1
    have hsr : 0 ≤ m.sender ∧ m.sender < p.x.n := ⟨s0, by omega⟩
    -- the books noted, where the message is in phase 3 and not new
    have same : (q.kind = 3 → m.kind = 8 → m.code = 0 → m.epoch = p.x.job → q.said[m.sender.toNat]? = some true) → p.x.takeS m = (p.x, []) → WentOk (p.noted m) (p.x.takeS m).1 (p.x.takeS m).2 ∧ Inv (wentS (p.noted m) (p.x.takeS m).1 (p.x.takeS m).2) := by
      intro hs e
      have hi := h.noted hC fun q' hq' => by rw [hx] at hq'; cases hq'; exact hs
      rw [e]
      have hx2 : (p.noted m).x.now = some q := by rw [hxn]; exact hx
      have := stays (hi.base hx2) hx2 (hi.busy q hx2).ph rfl (x' := p.x) (by rw [hxn, ← hx]) h.ok (out := []) (.inl rfl)
      exact this
    have hy : ∀ o : Option Ph, ({ ({ p.x with now := o } : CS) with now := (p.noted m).x.now } : CS) = (p.noted m).x := fun o => by rw [hxn]
    by_cases hf : ¬ (0 ≤ m.sender ∧ m.sender < p.x.n ∧ m.id = p.x.job ∧ p.x.fits q m = true)
    · refine same (fun k3 k8 hc he => absurd ⟨hsr.1, hsr.2, by rw [hm.id]; exact he, ?_⟩ hf) (by unfold CS.takeS; rw [hx]; simp only; rw [if_pos hf])
      rcases s2 with s2 | ⟨s2, _⟩ | ⟨_, s3⟩
      · omega
      · omega
      · obtain ⟨t1, _⟩ := s3 hc he
        simp [CS.fits, k3, k8, he, t1]
    by_cases hsd : q.said[m.sender.toNat]? = some true
    · exact same (fun _ _ _ _ => hsd) (by unfold CS.takeS; rw [hx]; simp only; rw [if_neg hf, if_pos hsd])
    have hf' := (Classical.not_not.1 hf).2.2
    have back : (q.kind = 1 ∨ q.kind = 2) → p.backed = List.replicate p.x.n false := by
      rintro (hk | hk)
      · exact (hph.one hk).2.2.1
      · exact (hph.two hk).2.1
    by_cases hc : m.code ≠ 0
    · have e1 : p.noted m = p := by unfold PS.noted; rw [if_neg (fun hh => hc hh.2.1)]
      have e : p.x.takeS m = p.x.refusedS q := by unfold CS.takeS; rw [hx]; simp only; rw [if_neg hf, if_neg hsd, if_pos hc]
      rw [e] at hok' ⊢
      rw [e1]
      unfold CS.refusedS at hok' ⊢
      split at hok'
      · rename_i h12
        rw [if_pos h12]
        exact backs hb (back h12) (by simp) hok'
      · rename_i h12
        rw [if_neg h12]
        exact stays hb hx hph rfl (by rw [← hx]) h.ok (.inl rfl)
    have hc0 : m.code = 0 := Classical.not_not.1 hc
    have hepoch : m.epoch = p.x.job := by rw [← hm.id]; exact hf'.1
    have hnoted : p.noted m = { p with fetched := if m.kind = 4 then p.fetched.set m.sender.toNat true else p.fetched, backed := if m.kind = 8 ∧ p.back = true then p.backed.set m.sender.toNat true else p.backed } := by
      unfold PS.noted; rw [if_pos ⟨by rw [hx]; rfl, hc0, hepoch⟩]
    have hqk := hph.k
    have hsl : m.sender.toNat < q.said.length := by omega
    have hkind : m.kind = 2 * q.kind + 2 := by
      have := hf'.2
      simp only [CS.fits, Bool.and_eq_true, decide_eq_true_eq] at this
      exact this.1.1
    -- the books behind the answer
    have hB : Base (p.noted m) := by
      rw [hnoted]
      refine ⟨h.ok, h.n, h.n16, h.atl, h.nd, h.letters, hb.kind, hb.ver, hb.k12, hb.job, ?_, ?_, hb.at_, hb.now⟩
      · simp only; split <;> simp [hb.fetched]
      · simp only; split <;> simp [hb.backed]
    have hP : PhOk (p.noted m) (q.take m) := by
      rw [hnoted]
      refine ⟨hph.k, fun hk => ?_, fun hk => ?_, fun hk => ?_⟩
      · have hk' : q.kind = 1 := hk
        obtain ⟨c1, c2, c3, c4⟩ := hph.one hk'
        have h4 : m.kind = 4 := by omega
        refine ⟨c1, c2, ?_, fun i hi => ?_⟩
        · simp only [c2]; simpa using c3
        · simp only [h4, if_true]
          rcases set_true_back hi with rfl | hi
          · rw [List.getElem?_set_self]
            rw [hb.fetched]; omega
          · exact set_true_get (c4 i hi)
      · have hk' : q.kind = 2 := hk
        obtain ⟨c1, c2, c3, c4⟩ := hph.two hk'
        have h6 : m.kind = 6 := by omega
        refine ⟨c1, ?_, fun h1 b hb' => ?_, fun i hi => ?_⟩
        · simp only [c1]; simpa using c2
        · simp only [h6] at hb'
          exact c3 h1 b hb'
        · rcases s2 with s2 | ⟨_, s3⟩ | ⟨s2, _⟩
          · omega
          · obtain ⟨t1, t2, t3⟩ := s3 hc0 hepoch
            have hhold : (q.take m).holds = q.holds.set m.sender.toNat m.version := by simp [Ph.take, hk']
            rw [hhold]
            by_cases hi2 : i = m.sender.toNat
            · subst hi2
              refine ⟨nd, s1, t2, t3, ?_⟩
              rw [List.getElem?_set_self (by omega), t1]
            · rcases set_true_back hi with hi3 | hi3
              · exact absurd hi3 hi2
              · obtain ⟨nx, e1, e2, e3, e4⟩ := c4 i hi3
                exact ⟨nx, e1, e2, e3, by rw [List.getElem?_set_ne (by omega)]; exact e4⟩
          · omega
      · have hk' : q.kind = 3 := hk
        obtain ⟨c1, c2, c3⟩ := hph.three hk'
        have h8 : m.kind = 8 := by omega
        have hhold : (q.take m).holds = q.holds.set m.sender.toNat m.version := by simp [Ph.take, hk']
        have hsaid : (q.take m).said = q.said.set m.sender.toNat true := rfl
        rcases s2 with s2 | ⟨s2, _⟩ | ⟨_, s3⟩
        · omega
        · omega
        · obtain ⟨t1, t2, t3, t4⟩ := s3 hc0 hepoch
          refine ⟨c1, ?_, fun i => ⟨fun hi => ?_, fun hi => ?_⟩⟩
          · simp only [h8, c1]
            rw [c2]; rfl
          · rw [hhold]
            by_cases hi2 : i = m.sender.toNat
            · subst hi2
              exact ⟨nd, s1, t2, t3, by rw [List.getElem?_set_self (by omega), t4]⟩
            · rcases set_true_back hi with hi3 | hi3
              · exact absurd hi3 hi2
              · obtain ⟨nx, e1, e2, e3, e4⟩ := (c3 i).1 hi3
                exact ⟨nx, e1, e2, e3, by rw [List.getElem?_set_ne (by omega)]; exact e4⟩
          · rw [hsaid] at hi
            have hi2 : i ≠ m.sender.toNat := by
              rintro rfl
              rw [List.getElem?_set_self (by omega)] at hi
              cases hi
            rw [List.getElem?_set_ne (by omega)] at hi
            rw [hhold, List.getElem?_set_ne (by omega)]
            exact (c3 i).2 hi
    have hx2 : (p.noted m).x.now = some q := by rw [hxn]; exact hx
    by_cases hcon : (q.take m).said.contains false = true
    · have e : p.x.takeS m = ({ p.x with now := some (q.take m) }, []) := by unfold CS.takeS; rw [hx]; simp only; rw [if_neg hf, if_neg hsd, if_neg hc, if_pos hcon]
      rw [e] at hok' ⊢
      exact stays hB hx2 hP rfl (by rw [hxn]) hok' (.inl rfl)
    have e : p.x.takeS m = ({ p.x with now := some (q.take m) } : CS).doneS (q.take m) := by unfold CS.takeS; rw [hx]; simp only; rw [if_neg hf, if_neg hsd, if_neg hc, if_neg hcon]
    rw [e] at hok' ⊢
    have hall : ∀ i, i < p.nodes.length → (q.take m).said[i]? = some true := by
      intro i hi
      have hl : i < (q.take m).said.length := by simp [Ph.take]; omega
      rw [List.getElem?_eq_getElem hl]
      cases hv : (q.take m).said[i] with
      | true => rfl
      | false => exact absurd (List.contains_iff_mem.2 (hv ▸ List.getElem_mem hl)) hcon
    have hnn : (p.noted m).nodes = p.nodes := by rw [hnoted]
    have hnv : (p.noted m).ver = p.ver := by rw [hnoted]
    have hnk : (p.noted m).kind = p.kind := by rw [hnoted]
    have hhl : (q.take m).holds.length = p.nodes.length := by
      simp only [Ph.take]; split
      · exact hlen.2
      · simp [hlen.2]
    have hmiss : missK (q.take m).said (q.take m).said.length = [] := by
      unfold missK
      rw [List.map_eq_nil_iff, List.filter_eq_nil_iff]
      intro i hi
      have hl : (q.take m).said.length = p.nodes.length := by simp [Ph.take]; exact hlen.1
      rw [hall i (by rw [← hl]; exact List.mem_range.1 hi)]
      simp
    unfold CS.doneS at hok' ⊢
    split at hok'
    · rename_i hk1
      have hk1' : q.kind = 1 := hk1
      rw [if_pos hk1]
      refine swaps hB (hP.one hk1).2.2.1 (hP.one hk1).2.1 (fun _ b hb' => ?_) (hy _) hok'
      obtain ⟨i, hi⟩ := List.getElem?_of_mem hb'
      have hil : i < p.nodes.length := by
        have := (List.getElem?_eq_some_iff.1 hi).1
        rw [hB.fetched, hxn] at this
        omega
      have := (hP.one hk1).2.2.2 i (hall i hil)
      rw [this] at hi
      cases hi; rfl
    · rename_i hk1
      rw [if_neg hk1]
      have hk1' : ¬ q.kind = 1 := hk1
      refine ends_ hB (hy _) hok' ?_
      have e0 : ∀ o : Int, (({ p.x with now := some (q.take m) } : CS).endS (q.take m) o).1.last = ⟨p.x.job, p.x.kind, p.x.ver, o, (q.take m).holds, missK (q.take m).said (q.take m).said.length⟩ := fun _ => rfl
      rw [e0, hmiss]
      by_cases hk3 : q.kind = 3
      · have hk3' : (q.take m).kind = 3 := hk3
        obtain ⟨c1, c2, c3⟩ := hP.three hk3
        refine ⟨by rw [hxn], by rw [hnk]; exact hb.kind.symm, by rw [hnv]; exact hb.ver.symm, by rw [hnn]; exact hhl, .inr (.inl ⟨by rw [if_pos hk3'], c1, rfl, fun i hi => ?_⟩)⟩
        rw [hnn] at hi
        obtain ⟨nx, g1, g2, g3, g4⟩ := (c3 i).1 (hall i hi)
        exact ⟨by rw [c2]; exact hall i hi, nx.cur, g4, restOk hB g1 g2 g3⟩
      · have hk2 : q.kind = 2 := by omega
        have hk3' : ¬ (q.take m).kind = 3 := hk3
        obtain ⟨c1, c2, c3, c4⟩ := hP.two hk2
        refine ⟨by rw [hxn], by rw [hnk]; exact hb.kind.symm, by rw [hnv]; exact hb.ver.symm, by rw [hnn]; exact hhl, .inl ⟨by rw [if_neg hk3'], c1, rfl, fun i hi => ?_⟩⟩
        rw [hnn] at hi
        obtain ⟨nx, g1, g2, g3, g4⟩ := c4 i (hall i hi)
        have hn := hB.nd nx (List.mem_of_getElem? g1)
        have hseq : nx.seq = 1 := by
          rcases hn.s with hs | hs | hs
          · exact absurd hs g3
          · exact hs
          · have := hn.jb g2 hs; rw [c1] at this; cases this
        exact ⟨nx, g1, hn.jc g2 hseq, g4, g2, hseq⟩

/-- The play as a job begins. -/
def PS.begun (p : PS) (kind ver : Int) : PS :=
  { p with x := (({ p.x with job := p.x.job + 1, kind := kind, ver := ver } : CS).enterS kind.toNat).1, kind := kind, ver := ver, fetched := List.replicate p.nodes.length false, backed := List.replicate p.nodes.length false, back := false, at_ := List.replicate p.nodes.length (-1) }
theorem inv_begin (h : Inv p) (hx : p.x.now = none) {kind ver : Int} (hk : kind = 1 ∨ kind = 2) (hv : 1 ≤ ver ∧ ver ≤ 999999) (hj : p.x.job < 9007199254740992) :
    WentOk (p.begun kind ver) (({ p.x with job := p.x.job + 1, kind := kind, ver := ver } : CS).enterS kind.toNat).1 (({ p.x with job := p.x.job + 1, kind := kind, ver := ver } : CS).enterS kind.toNat).2 ∧
    Inv (wentS (p.begun kind ver) (({ p.x with job := p.x.job + 1, kind := kind, ver := ver } : CS).enterS kind.toNat).1 (({ p.x with job := p.x.job + 1, kind := kind, ver := ver } : CS).enterS kind.toNat).2) := by
  have hok := h.ok.beginS kind ver
  have hbeg : p.x.beginS kind ver = ⟨(({ p.x with job := p.x.job + 1, kind := kind, ver := ver } : CS).enterS kind.toNat).1, (({ p.x with job := p.x.job + 1, kind := kind, ver := ver } : CS).enterS kind.toNat).2, 0⟩ := by
    unfold CS.beginS
    rw [hx, if_neg (by simp), if_neg (by omega), if_neg (by omega), if_neg (by omega), if_neg (by omega)]
    rfl
  rw [hbeg] at hok
  simp only at hok
  have hjb := h.ok.job
  generalize hy : ({ p.x with job := p.x.job + 1, kind := kind, ver := ver } : CS) = y at *
  have yj : y.job = p.x.job + 1 := by rw [← hy]
  have yn : y.n = p.x.n := by rw [← hy]
  have yk : y.kind = kind := by rw [← hy]
  have yv : y.ver = ver := by rw [← hy]
  have hp1 : p.begun kind ver = { p with x := (y.enterS kind.toNat).1, kind := kind, ver := ver, fetched := List.replicate p.nodes.length false, backed := List.replicate p.nodes.length false, back := false, at_ := List.replicate p.nodes.length (-1) } := by unfold PS.begun; rw [hy]
  have hB : Base (p.begun kind ver) := by
    rw [hp1]
    refine ⟨hok, by show _ = y.n; rw [yn]; exact h.n, by show y.n ≤ 16; rw [yn]; exact h.n16, by show (List.replicate _ _).length = y.n; rw [List.length_replicate, yn, h.n], fun nd hnd => ?_, fun m hm => ?_, by show _ = y.kind; rw [yk], by show _ = y.ver; rw [yv], hk, by show 1 ≤ y.job; omega, by show (List.replicate _ _).length = y.n; rw [List.length_replicate, yn, h.n], by show (List.replicate _ _).length = y.n; rw [List.length_replicate, yn, h.n], fun a ha => List.eq_of_mem_replicate ha, rfl⟩
    · show NdOk y.job ver false nd
      have hn := h.nd nd hnd
      have he := hn.e
      exact ⟨by omega, hn.s, hn.z, hn.z', hn.sw, hn.one, hn.two, by omega, by omega⟩
    · show LOk y.job ver false p.nodes m
      have hm' := h.letters m hm
      have he := hm'.e
      refine ⟨hm'.id, by omega, hm'.key, hm'.value, ?_⟩
      rcases hm'.road with hr | hr
      · refine .inl ⟨hr.from_, hr.to_, ?_⟩
        rcases hr.what with h1 | h1 | h1
        · exact .inl h1
        · exact .inr (.inl ⟨h1.1, h1.2.1, by omega⟩)
        · exact .inr (.inr ⟨h1.1, h1.2.1, by omega⟩)
      · obtain ⟨nd, g1, g2, g3⟩ := hr.nd
        refine .inr ⟨hr.to_, nd, g1, g2, ?_⟩
        rcases g3 with g3 | g3 | g3
        · exact .inl g3
        · exact .inr (.inl ⟨g3.1, by omega⟩)
        · exact .inr (.inr ⟨g3.1, by omega⟩)
  have hbk : (p.begun kind ver).backed = List.replicate (p.begun kind ver).x.n false := by
    rw [hp1]; show List.replicate _ _ = List.replicate y.n false; rw [yn, h.n]
  have hxx : (p.begun kind ver).x = (y.enterS kind.toNat).1 := by rw [hp1]
  rcases hk with rfl | rfl
  · have e1 : (1 : Int).toNat = 1 := rfl
    rw [e1] at hok hxx ⊢
    have hq : (p.begun 1 ver).x.now = some (Ph.new 1 y.n) := by rw [hxx]; rfl
    refine stays hB hq ⟨.inl rfl, fun _ => ⟨rfl, rfl, hbk, fun i hi => ?_⟩, fun h => (by simp [Ph.new] at h), fun h => (by simp [Ph.new] at h)⟩ rfl (by rw [← hq, hxx]) hok (.inr ⟨(y.enterS 1).1, by rw [hxx], by rw [hxx], rfl, rfl⟩)
    simp [Ph.new, List.getElem?_replicate] at hi
  · have e1 : (2 : Int).toNat = 2 := rfl
    rw [e1] at hok hxx ⊢
    refine swaps hB hbk rfl (fun h => by cases h) (by rw [hxx]; rfl) hok
theorem inv_new {C : Clu} (hc : COk (CS.new C)) (hn : C.nodes.length ≤ 16) : Inv ⟨CS.new C, List.replicate C.nodes.length Nd.zero, [], 0, 0, [], [], false, List.replicate C.nodes.length (-1)⟩ := by
  refine ⟨hc, by simp [CS.new], hn, by simp [CS.new], fun nd hnd => ?_, fun m hm => (by cases hm), fun q hq => (by cases hq), fun _ i a ha h0 => ?_⟩
  · rw [List.eq_of_mem_replicate hnd]
    exact ⟨by simp [Nd.zero, CS.new], by simp [Nd.zero], by simp [Nd.zero], by simp [Nd.zero], by simp [Nd.zero], by simp [Nd.zero], by simp [Nd.zero], by simp [Nd.zero], by simp [Nd.zero]⟩
  · have := List.eq_of_mem_replicate (List.mem_of_getElem? ha)
    omega
/-- A letter to a node is delivered. -/
theorem inv_node (h : Inv p) {m : Ms} (hm : LOk p.x.job p.ver p.back p.nodes m) (ht : m.to ≠ 64) : ToN p.x.job p.ver p.back p.nodes.length m ∧ ∀ nd, p.nodes[m.to.toNat]? = some nd → Inv { p with nodes := p.nodes.set m.to.toNat (nd.doesS m).1, letters := p.letters ++ [(nd.doesS m).2] } := by
  have hN : ToN p.x.job p.ver p.back p.nodes.length m := by
    rcases hm.road with hr | hr
    · exact hr
    · exact absurd hr.to_ ht
  refine ⟨hN, fun nd hnd => ?_⟩
  obtain ⟨g1, g2, g3⟩ := does_ok (h.nd nd (List.mem_of_getElem? hnd)) hm hN hnd
  exact (h.node hnd g1 g2).more fun z hz => by rw [List.mem_singleton.1 hz]; exact g3
theorem inv_sick (h : Inv p) {i : Nat} {nd : Nd} (hi : p.nodes[i]? = some nd) (b c : Bool) : Inv { p with nodes := p.nodes.set i { nd with sick := b, deaf := c } } :=
  h.node hi ((h.nd nd (List.mem_of_getElem? hi)).of_same rfl rfl rfl rfl rfl rfl) (Mono.of_same rfl rfl rfl)
end
end Go.Proofs.Ytpiceodfdjihhaa
