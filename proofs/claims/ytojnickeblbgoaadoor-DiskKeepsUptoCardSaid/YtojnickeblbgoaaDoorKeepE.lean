/-
  Layer 1 (disk), DiskKeeps, part E: what stays so behind each call.
-/
import Derived.Test.YtojnickeblbgoaaDoorKeepD
namespace Go.Proofs.YtojnickeblbgoaaDoor
open Go.Lift
set_option linter.unusedSimpArgs false
set_option linter.unusedVariables false
set_option maxHeartbeats 4000000

structure NodeOk (A : Nat) (S : Slt → Option Int) (P : List Chg) (j : Nat) (nd : Nd) : Prop where
  ok : bOk j nd.kept P
  eq : (∃ s, S s = some (j : Int)) → bfold j nd.kept P = nd.seen
  seen : nd.seen.size ≤ A
  kept : nd.kept.size + grows j P ≤ A
structure Inv1 (A M : Nat) (data : ByteArray) (d : Dk) : Prop where
  n0 : ∃ nd, d.nodes[0]? = some nd ∧ nd.kind = 1
  n1 : ∃ nd, d.nodes[1]? = some nd ∧ nd.kind = 1
  n2 : d.nodes[2]? = some ⟨2, data, data⟩
  prot : Prot d.nodes.length d.kept
  sc : ∀ c ∈ d.pending, Sc d.nodes.length c
  src : Src d.kept d.pending
  fr : Fresh d.kept d.pending
  eq : d.pending.foldl entG d.kept = d.seen
  node : ∀ (j : Nat) nd, d.nodes[j]? = some nd → NodeOk A d.seen d.pending j nd
  len : d.nodes.length ≤ M
  plen : d.pending.length ≤ M
section
variable {A M : Nat} {data : ByteArray} {d d' : Dk}
theorem Inv1.pseen (h : Inv1 A M data d) : Prot d.nodes.length d.seen := by
  rw [← h.eq]; exact h.prot.fold h.sc h.src h.fr
theorem Inv1.congr (h : Inv1 A M data d) {A' M' : Nat} (h1 : d'.nodes = d.nodes) (h2 : d'.seen = d.seen) (h3 : d'.kept = d.kept) (h4 : d'.pending = d.pending) (hA : A ≤ A') (hM : M ≤ M') : Inv1 A' M' data d' := by
  refine ⟨by rw [h1]; exact h.n0, by rw [h1]; exact h.n1, by rw [h1]; exact h.n2, by rw [h1, h3]; exact h.prot, by rw [h1, h4]; exact h.sc, by rw [h3, h4]; exact h.src, by rw [h3, h4]; exact h.fr, by rw [h2, h3, h4]; exact h.eq, fun j nd hj => ?_, by rw [h1]; have := h.len; omega, by rw [h4]; have := h.plen; omega⟩
  rw [h1] at hj
  rw [h2, h4]
  have t := h.node j nd hj
  exact ⟨t.ok, t.eq, by have := t.seen; omega, by have := t.kept; omega⟩
theorem Inv1.good (h : Inv1 A M data d) : Good d := ⟨fun s k hs => (h.pseen.rng s k hs).2, by
  obtain ⟨nd, h1, _⟩ := h.n0
  exact (List.getElem?_eq_some_iff.1 h1).1⟩
theorem Inv1.addNode (h : Inv1 A M data d) (kind : Int) : Inv1 A (M + 1) data (d.addNode kind) := by
  have hl : ∀ (i : Nat) a, d.nodes[i]? = some a → (d.nodes ++ [(⟨kind, e0, e0⟩ : Nd)])[i]? = some a := fun i a ha => by rw [List.getElem?_append_left (List.getElem?_eq_some_iff.1 ha).1]; exact ha
  have hle : d.nodes.length ≤ (d.nodes ++ [(⟨kind, e0, e0⟩ : Nd)]).length := by simp
  obtain ⟨a0, b0, c0⟩ := h.n0
  obtain ⟨a1, b1, c1⟩ := h.n1
  refine ⟨⟨a0, hl _ _ b0, c0⟩, ⟨a1, hl _ _ b1, c1⟩, hl _ _ h.n2, h.prot.mono hle, fun c hc => (h.sc c hc).mono hle, h.src, h.fr, h.eq, fun j nd hj => ?_, by
    have := h.len
    show (d.nodes ++ [(⟨kind, e0, e0⟩ : Nd)]).length ≤ M + 1
    simp; omega, by have := h.plen; show d.pending.length ≤ M + 1; omega⟩
  have hj' : (d.nodes ++ [(⟨kind, e0, e0⟩ : Nd)])[j]? = some nd := hj
  by_cases hjl : j < d.nodes.length
  · rw [List.getElem?_append_left hjl] at hj'
    exact h.node j nd hj'
  · rw [List.getElem?_append_right (by omega)] at hj'
    have hjn : j - d.nodes.length = 0 := by
      have := (List.getElem?_eq_some_iff.1 hj').1
      simp at this; omega
    rw [hjn] at hj'
    have : nd = ⟨kind, e0, e0⟩ := by simpa using hj'.symm
    subst this
    obtain ⟨i1, i2, i3⟩ := bfold_none (j := (j : Int)) (L := d.pending) (fun c hc hcj => by
      have := (h.sc c hc).node
      omega) e0
    exact ⟨i2, fun _ => i1, Nat.zero_le _, by show e0.size + grows j d.pending ≤ A; rw [i3]; exact Nat.zero_le _⟩
theorem Inv1.act (h : Inv1 A M data d) : Inv1 A M data d.actF.2 := by
  obtain ⟨e1, e2, e3, e4⟩ := actF_same d
  exact h.congr e1 e2 e3 e4 (Nat.le_refl _) (Nat.le_refl _)
theorem Inv1.do' (h : Inv1 A M data d) {c : Chg} {i : Nat} {nd : Nd} (hi : d.nodes[i]? = some nd) (hn : c.node = i) (hsc : Sc d.nodes.length c) (h4 : c.what = 4 → d.seen (c.node, c.src) ≠ none)
    (h2 : c.what = 2 → (∀ s, d.kept s ≠ some c.target) ∧ (∀ x ∈ d.pending, x.what = 2 → x.target ≠ c.target) ∧ ∀ (t : Nat) nd', c.target = t → d.nodes[t]? = some nd' → bfold t nd'.kept d.pending = nd'.seen)
    (hb : c.what = 0 ∨ c.what = 1 → ∃ s, d.seen s = some (i : Int)) (hf : c.fits nd.seen) : Inv1 (A + c.data.size) (M + 1) data (doF d c i nd).2 := by
  unfold doF
  obtain ⟨e1, e2, e3, e4⟩ := actF_same d
  split
  · exact (h.act).congr rfl rfl rfl rfl (by omega) (by omega)
  have hil := (List.getElem?_eq_some_iff.1 hi).1
  have hprot' : Prot d.nodes.length (entG d.seen c) := h.pseen.step hsc h4 (fun hw s hs => by
    obtain ⟨q1, q2, _⟩ := h2 hw
    rw [← h.eq] at hs
    rcases fold_val hs with ⟨t, ht⟩ | ⟨x, hx, hx2, hk⟩ | h0
    · exact q1 t ht
    · exact q2 x hx hx2 hk.symm
    · have := hsc.tgt hw; omega)
  have hlen : (d.nodes.set i { nd with seen := (applyF c nd.seen d.seen).1 }).length = d.nodes.length := List.length_set
  have hset : ∀ (j : Nat) a, d.nodes[j]? = some a → ∃ b, (d.nodes.set i { nd with seen := (applyF c nd.seen d.seen).1 })[j]? = some b ∧ b.kind = a.kind ∧ b.kept = a.kept := fun j a ha => by
    by_cases hji : i = j
    · subst hji
      rw [hi] at ha; cases ha
      exact ⟨_, List.getElem?_set_self hil, rfl, rfl⟩
    · exact ⟨a, by rw [List.getElem?_set_ne hji]; exact ha, rfl, rfl⟩
  have hfold : (d.pending ++ [c]).foldl entG d.kept = entG d.seen c := by rw [List.foldl_append, h.eq]; rfl
  have halive : ∀ (j : Nat) x, d.nodes[j]? = some x → (∃ s, entG d.seen c s = some (j : Int)) → bfold j x.kept d.pending = x.seen := by
    rintro j x hx ⟨s, hs⟩
    have hr := hprot'.rng s _ hs
    rcases ent_val hs with ht | ⟨hw, hk⟩ | h0
    · exact (h.node j x hx).eq ht
    · exact (h2 hw).2.2 j x hk.symm hx
    · omega
  refine ⟨?_, ?_, ?_, ?_, ?_, ?_, ?_, ?_, ?_, ?_, ?_⟩
  · obtain ⟨a0, b0, c0⟩ := h.n0
    obtain ⟨x, x1, x2, _⟩ := hset 0 a0 b0
    exact ⟨x, x1, by rw [x2]; exact c0⟩
  · obtain ⟨a0, b0, c0⟩ := h.n1
    obtain ⟨x, x1, x2, _⟩ := hset 1 a0 b0
    exact ⟨x, x1, by rw [x2]; exact c0⟩
  · show (d.nodes.set i _)[2]? = _
    by_cases hi2 : i = 2
    · subst hi2
      have hw := hsc.byte
      rw [hn] at hw
      have h0 : c.what ≠ 0 := fun he => hw (.inl he) rfl
      have h1 : c.what ≠ 1 := fun he => hw (.inr he) rfl
      rw [byte_other h0 h1, List.getElem?_set_self hil]
      have := h.n2
      rw [hi] at this
      cases this
      rfl
    · rw [List.getElem?_set_ne hi2]; exact h.n2
  · show Prot (d.nodes.set i _).length d.actF.2.kept
    rw [hlen, e3]; exact h.prot
  · show ∀ x ∈ d.pending ++ [c], Sc (d.nodes.set i _).length x
    rw [hlen]
    intro x hx
    rcases List.mem_append.1 hx with hx | hx
    · exact h.sc x hx
    · obtain rfl := List.mem_singleton.1 hx; exact hsc
  · show Src d.actF.2.kept (d.pending ++ [c])
    rw [e3]
    exact h.src.snoc fun hw => by rw [h.eq]; exact h4 hw
  · show Fresh d.actF.2.kept (d.pending ++ [c])
    rw [e3]
    refine ⟨fun x hx hw => ?_, List.pairwise_append.2 ⟨h.fr.apart, by simp, fun x hx y hy hx2 hy2 => ?_⟩⟩
    · rcases List.mem_append.1 hx with hx | hx
      · exact h.fr.out x hx hw
      · obtain rfl := List.mem_singleton.1 hx; exact (h2 hw).1
    · obtain rfl := List.mem_singleton.1 hy
      exact (h2 hy2).2.1 x hx hx2
  · show (d.pending ++ [c]).foldl entG d.actF.2.kept = (applyF c nd.seen d.seen).2
    rw [e3, hfold, app_map]
  · intro j x hj
    have hj' : (d.nodes.set i { nd with seen := (applyF c nd.seen d.seen).1 })[j]? = some x := hj
    show NodeOk _ (applyF c nd.seen d.seen).2 (d.pending ++ [c]) j x
    rw [app_map]
    have hgs : gsize j c ≤ c.data.size := by unfold gsize; split <;> omega
    have hg1 : grows j (d.pending ++ [c]) = grows j d.pending + gsize j c := by rw [grows_app]; simp [grows]
    by_cases hji : i = j
    · subst hji
      rw [List.getElem?_set_self hil] at hj'
      cases hj'
      have t := h.node i nd hi
      have hal := halive i nd hi
      refine ⟨bOk_snoc t.ok fun _ => ?_, fun ha => ?_, ?_, ?_⟩
      · by_cases hw : c.what = 0 ∨ c.what = 1
        · rw [t.eq (hb hw)]; exact hf
        · rw [not_or] at hw; exact fits_other hw.1 hw.2 _
      · rw [bfold_snoc]
        have e : bfold i nd.kept d.pending = nd.seen := by
          by_cases hw : c.what = 0 ∨ c.what = 1
          · exact t.eq (hb hw)
          · exact hal ha
        show bstep i (bfold i nd.kept d.pending) c = _
        rw [e]
        unfold bstep
        rw [if_pos hn]
        exact app_byte c _ _ _
      · have h1 := app_size c nd.seen d.seen
        have h2 := t.seen
        show (applyF c nd.seen d.seen).1.size ≤ _
        split at h1 <;> omega
      · have h2 := t.kept
        show nd.kept.size + _ ≤ _
        omega
    · rw [List.getElem?_set_ne hji] at hj'
      have t := h.node j x hj'
      have hcj : c.node ≠ (j : Int) := by rw [hn]; omega
      refine ⟨bOk_snoc t.ok fun he => absurd he hcj, fun ha => ?_, by have := t.seen; omega, by have := t.kept; omega⟩
      rw [bfold_snoc, show bstep j (bfold j x.kept d.pending) c = bfold j x.kept d.pending by simp [bstep, hcj]]
      exact halive j x hj' ha
  · show (d.nodes.set i _).length ≤ M + 1
    rw [hlen]; have := h.len; omega
  · show (d.pending ++ [c]).length ≤ M + 1
    have := h.plen
    simp; omega
theorem Inv1.settle (h : Inv1 A M data d) {i : Nat} {nd : Nd} (hi : d.nodes[i]? = some nd) : Inv1 A M data (settleF d i nd).2 := by
  unfold settleF
  obtain ⟨e1, e2, e3, e4⟩ := actF_same d
  split
  · exact h.act
  rw [settle_fold]
  have hil := (List.getElem?_eq_some_iff.1 hi).1
  have hscr : ∀ x ∈ restOf i d.pending, Sc d.nodes.length x := fun x hx => h.sc x (List.mem_filter.1 hx).1
  have hsco : ∀ x ∈ onD i d.pending, Sc d.nodes.length x := fun x hx => h.sc x (List.mem_filter.1 hx).1
  have hlen : (d.nodes.set i { nd with kept := bfold i nd.kept d.pending }).length = d.nodes.length := List.length_set
  have hset : ∀ (j : Nat) a, d.nodes[j]? = some a → ∃ b, (d.nodes.set i { nd with kept := bfold i nd.kept d.pending })[j]? = some b ∧ b.kind = a.kind ∧ b.seen = a.seen := fun j a ha => by
    by_cases hji : i = j
    · subst hji
      rw [hi] at ha; cases ha
      exact ⟨_, List.getElem?_set_self hil, rfl, rfl⟩
    · exact ⟨a, by rw [List.getElem?_set_ne hji]; exact ha, rfl, rfl⟩
  have hplr : (restOf i d.pending).length ≤ d.pending.length := List.length_filter_le _ _
  refine ⟨?_, ?_, ?_, ?_, ?_, ?_, ?_, ?_, ?_, ?_, ?_⟩
  · obtain ⟨a0, b0, c0⟩ := h.n0
    obtain ⟨x, x1, x2, _⟩ := hset 0 a0 b0
    exact ⟨x, x1, by rw [x2]; exact c0⟩
  · obtain ⟨a0, b0, c0⟩ := h.n1
    obtain ⟨x, x1, x2, _⟩ := hset 1 a0 b0
    exact ⟨x, x1, by rw [x2]; exact c0⟩
  · show (d.nodes.set i _)[2]? = _
    by_cases hi2 : i = 2
    · subst hi2
      have hb := (bfold_none (j := ((2 : Nat) : Int)) (L := d.pending) (fun c hc hcj => by
        have := (h.sc c hc).byte
        rw [hcj] at this
        exact ⟨fun he => this (.inl he) rfl, fun he => this (.inr he) rfl⟩) nd.kept).1
      rw [hb, List.getElem?_set_self hil]
      have := h.n2
      rw [hi] at this
      cases this
      rfl
    · rw [List.getElem?_set_ne hi2]; exact h.n2
  · show Prot (d.nodes.set i _).length ((onD i d.pending).foldl entG d.kept)
    rw [hlen]
    exact h.prot.fold hsco (h.src.on i) (h.fr.on i)
  · show ∀ x ∈ restOf i d.pending, Sc (d.nodes.set i _).length x
    rw [hlen]; exact hscr
  · exact h.src.rest i
  · exact h.fr.rest h.sc i
  · show (restOf i d.pending).foldl entG ((onD i d.pending).foldl entG d.kept) = d.actF.2.seen
    rw [settle_eq, e2]; exact h.eq
  · intro j x hj
    have hj' : (d.nodes.set i { nd with kept := bfold i nd.kept d.pending })[j]? = some x := hj
    show NodeOk A d.actF.2.seen (restOf i d.pending) j x
    rw [e2]
    by_cases hji : i = j
    · subst hji
      rw [List.getElem?_set_self hil] at hj'
      cases hj'
      have t := h.node i nd hi
      obtain ⟨q1, q2, q3⟩ := bfold_none (j := (i : Int)) (L := restOf i d.pending) (rest_off i d.pending) (bfold i nd.kept d.pending)
      refine ⟨q2, fun ha => ?_, t.seen, ?_⟩
      · show bfold i (bfold i nd.kept d.pending) (restOf i d.pending) = nd.seen
        rw [q1]; exact t.eq ha
      · show (bfold i nd.kept d.pending).size + grows i (restOf i d.pending) ≤ A
        rw [q3]
        have := bfold_size (i := (i : Int)) d.pending nd.kept
        have := t.kept
        omega
    · rw [List.getElem?_set_ne hji] at hj'
      have t := h.node j x hj'
      obtain ⟨q1, q2, q3⟩ := bfold_rest (j := (j : Int)) (i := (i : Int)) (by omega) d.pending x.kept
      exact ⟨q2 t.ok, fun ha => by rw [q1]; exact t.eq ha, t.seen, by rw [q3]; exact t.kept⟩
  · show (d.nodes.set i _).length ≤ M
    rw [hlen]; exact h.len
  · show (restOf i d.pending).length ≤ M
    have := h.plen; omega
/-- What a crash applies is in order. -/
theorem crash_list (h : Inv1 A M data d) (keep torn : Int) (hA : A ≤ 2305843009213693952) : (∀ c ∈ crashL d.pending keep torn, Sc d.nodes.length c) ∧ Src d.kept (crashL d.pending keep torn) ∧ Fresh d.kept (crashL d.pending keep torn) ∧
    ∀ (j : Nat) nd, d.nodes[j]? = some nd → bOk j nd.kept (crashL d.pending keep torn) ∧ (bfold j nd.kept (crashL d.pending keep torn)).size ≤ A := by
  obtain ⟨k, hk⟩ := crash_any d.pending keep torn
  have hsplit : d.pending = d.pending.take k ++ d.pending.drop k := (List.take_append_drop k _).symm
  have hs := h.src
  have hf := h.fr
  have pre : ∀ (j : Nat) nd, d.nodes[j]? = some nd → bOk j nd.kept (d.pending.take k) ∧ nd.kept.size + grows j (d.pending.take k) ≤ A := fun j nd hj => by
    have t := h.node j nd hj
    have t1 := t.ok
    have t2 := t.kept
    rw [hsplit] at t1 t2
    rw [grows_app] at t2
    exact ⟨bOk_pre t1, by omega⟩
  rw [hsplit] at hs hf
  rcases hk with e | ⟨c, x, hc, hw, hx, e⟩
  · rw [e]
    refine ⟨fun c hc => h.sc c (List.mem_of_mem_take hc), hs.pre, hf.pre, fun j nd hj => ?_⟩
    obtain ⟨p1, p2⟩ := pre j nd hj
    have := bfold_size (i := (j : Int)) (d.pending.take k) nd.kept
    exact ⟨p1, by omega⟩
  · rw [e]
    have hcs := h.sc c (List.mem_of_getElem? hc)
    have hkl := (List.getElem?_eq_some_iff.1 hc).1
    have hdrop : d.pending.drop k = c :: d.pending.drop (k + 1) := by
      rw [List.drop_eq_getElem_cons hkl]
      congr 1
      exact (List.getElem?_eq_some_iff.1 hc).2
    refine ⟨fun y hy => ?_, hs.pre.snoc fun h4 => ?_, ⟨fun y hy h2 => ?_, List.pairwise_append.2 ⟨hf.pre.apart, by simp, fun y hy z hz h2 h2' => ?_⟩⟩, fun j nd hj => ?_⟩
    · rcases List.mem_append.1 hy with hy | hy
      · exact h.sc y (List.mem_of_mem_take hy)
      · obtain rfl := List.mem_singleton.1 hy
        exact ⟨hcs.node, hcs.byte, hcs.ent, hcs.mov, hcs.tgt⟩
    · simp only [hw] at h4; exact absurd h4 (by decide)
    · rcases List.mem_append.1 hy with hy | hy
      · exact hf.pre.out y hy h2
      · obtain rfl := List.mem_singleton.1 hy
        simp only [hw] at h2; exact absurd h2 (by decide)
    · obtain rfl := List.mem_singleton.1 hz
      simp only [hw] at h2'; exact absurd h2' (by decide)
    · obtain ⟨p1, p2⟩ := pre j nd hj
      have hb := bfold_size (i := (j : Int)) (d.pending.take k) nd.kept
      have t := h.node j nd hj
      have t1 := t.ok
      have t2 := t.kept
      rw [hsplit, hdrop] at t1 t2
      rw [grows_app] at t2
      have hg : gsize j c ≤ grows j (c :: d.pending.drop (k + 1)) := by simp [grows]
      refine ⟨bOk_snoc p1 fun hcj => ⟨fun _ => ?_, fun h1 => by simp only [hw] at h1; exact absurd h1 (by decide)⟩, ?_⟩
      · have := (bOk_at t1 hcj).1 hw
        show (bfold j nd.kept (d.pending.take k)).size + x.size ≤ _
        omega
      · rw [bfold_snoc]
        have h1 := bstep_size j (bfold j nd.kept (d.pending.take k)) { c with data := x }
        have h2 : gsize j { c with data := x } ≤ gsize j c := by
          unfold gsize
          simp only
          split
          · exact hx
          · exact Nat.le_refl _
        omega
theorem Inv1.crash (h : Inv1 A M data d) (keep torn : Int) (hA : A ≤ 2305843009213693952) :
    crashOk (d.nodes, d.kept) (crashL d.pending keep torn) ∧ Tree { d with nodes := ((crashL d.pending keep torn).foldl cStep (d.nodes, d.kept)).1, kept := ((crashL d.pending keep torn).foldl cStep (d.nodes, d.kept)).2 } ∧
    ∀ d', Reached { d with nodes := ((crashL d.pending keep torn).foldl cStep (d.nodes, d.kept)).1, kept := ((crashL d.pending keep torn).foldl cStep (d.nodes, d.kept)).2 } d' → Inv1 A M data d' ∧ d'.down = false := by
  obtain ⟨l1, l2, l3, l4⟩ := crash_list h keep torn hA
  generalize crashL d.pending keep torn = L at *
  obtain ⟨f1, f2⟩ := cFold_at L d.nodes d.kept fun c hc => (l1 c hc).node
  have hlen := cFold_len' L (d.nodes, d.kept)
  have hp : Prot d.nodes.length (L.foldl entG d.kept) := h.prot.fold l1 l2 l3
  generalize hst : L.foldl cStep (d.nodes, d.kept) = st at *
  simp only at hlen
  refine ⟨cOk_of L d.nodes d.kept (fun c hc => (l1 c hc).node) fun j nd hj => (l4 j nd hj).1, ⟨fun s k hs => ?_, fun s t k hs ht => ?_⟩, fun d' hr => ⟨?_, hr.off.2.1⟩⟩
  · simp only at hs ⊢
    rw [f1] at hs
    rw [hlen]
    exact hp.rng s k hs
  · simp only at hs ht
    rw [f1] at hs ht
    exact hp.inj s t k hs ht
  · have hsub : ∀ s k, d'.seen s = some k → L.foldl entG d.kept s = some k := fun s k hs => by
      have := hr.sub s k hs
      simp only at this
      rw [f1] at this
      exact this
    have hkept : d'.kept = d'.seen := funext hr.eq
    have hpend : d'.pending = [] := hr.off.2.2
    have hdl : d'.nodes.length = d.nodes.length := by rw [hr.len]; exact hlen
    have hat : ∀ (j : Nat) nd, d.nodes[j]? = some nd → ∃ x, d'.nodes[j]? = some x ∧ x.kind = nd.kind ∧ x.kept = bfold j nd.kept L ∧ (x.seen = nd.seen ∨ x.seen = bfold j nd.kept L) ∧ ((∃ s, d'.seen s = some (j : Int)) → x.seen = x.kept) := fun j nd hj => by
      have e := f2 j nd hj
      have hgot : (∃ s, d'.seen s = some (j : Int)) → d'.nodes[j]? = some ⟨nd.kind, bfold j nd.kept L, bfold j nd.kept L⟩ := fun ⟨s, hs⟩ => by
        have := hr.got s j hs _ (by simpa using e)
        simpa using this
      rcases hr.each j _ e with h' | h'
      · refine ⟨_, h', rfl, rfl, .inl rfl, fun ha => ?_⟩
        have := hgot ha
        rw [h'] at this
        injection this with this
        rw [this]
      · exact ⟨_, h', rfl, rfl, .inr rfl, fun _ => rfl⟩
    have htop : d'.seen sA = some 1 := hr.root FA 1 (by simp only; rw [f1]; exact hp.top)
    have hfil : d'.seen sF = some 2 := by
      refine hr.closed sA 1 htop ?_ nF 2 (by simp only; rw [f1]; exact hp.fil)
      obtain ⟨a1, b1, c1⟩ := h.n1
      have e := f2 1 a1 b1
      simp only [Dk.nd]
      rw [show (1 : Int).toNat = 1 from rfl, e]
      exact c1
    have hprot : Prot d.nodes.length d'.seen := ⟨htop, hfil, fun s k hs => hp.rng s k (hsub s k hs), fun s t k hs ht => hp.inj s t k (hsub s k hs) (hsub t k ht)⟩
    have h2b : bfold ((2 : Nat) : Int) data L = data := (bfold_none (j := ((2 : Nat) : Int)) (L := L) (fun c hc hcj => by
        have := (l1 c hc).byte
        rw [hcj] at this
        exact ⟨fun he => this (.inl he) rfl, fun he => this (.inr he) rfl⟩) data).1
    refine ⟨?_, ?_, ?_, ?_, ?_, ?_, ?_, ?_, ?_, ?_, ?_⟩
    · obtain ⟨a0, b0, c0⟩ := h.n0
      obtain ⟨x, x1, x2, _⟩ := hat 0 a0 b0
      exact ⟨x, x1, by rw [x2]; exact c0⟩
    · obtain ⟨a0, b0, c0⟩ := h.n1
      obtain ⟨x, x1, x2, _⟩ := hat 1 a0 b0
      exact ⟨x, x1, by rw [x2]; exact c0⟩
    · obtain ⟨x, x1, x2, x3, x4, _⟩ := hat 2 _ h.n2
      rw [x1]
      simp only at x2 x3 x4
      rw [h2b] at x3 x4
      obtain ⟨xk, xs, xe⟩ := x
      simp only at x2 x3 x4
      subst x2
      subst x3
      rcases x4 with x4 | x4 <;> rw [x4]
    · rw [hdl, hkept]; exact hprot
    · rw [hpend]; intro c hc; cases hc
    · rw [hpend]; intro L1 c L2 e _; exact absurd e (by simp)
    · rw [hpend]; exact ⟨fun c hc => (by cases hc), List.Pairwise.nil⟩
    · rw [hpend, hkept]; rfl
    · intro j x hj
      rw [hpend]
      have hjl : j < d.nodes.length := by rw [← hdl]; exact (List.getElem?_eq_some_iff.1 hj).1
      obtain ⟨y, y1, y2, y3, y4, y5⟩ := hat j _ (List.getElem?_eq_getElem hjl)
      rw [hj] at y1
      cases y1
      have t := h.node j _ (List.getElem?_eq_getElem hjl)
      have t2 := (l4 j _ (List.getElem?_eq_getElem hjl)).2
      refine ⟨trivial, fun ha => (y5 ha).symm, ?_, ?_⟩
      · rcases y4 with y4 | y4
        · rw [y4]; exact t.seen
        · rw [y4]; exact t2
      · rw [y3]
        have : grows (j : Int) [] = 0 := rfl
        rw [this]; exact t2
    · rw [hdl]; exact h.len
    · rw [hpend]; exact Nat.zero_le _
end
end Go.Proofs.YtojnickeblbgoaaDoor
