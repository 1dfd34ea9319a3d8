/-
  Layer 1 (disk), what every disk keeps to, part A: maps of entries under changes.
-/
import Derived.Test.YtojnickeblbgoaaGreatDoorKpX
import Derived.Test.YtojnickeblbgoaaGreatDoorDkX
import Derived.Test.YtojnickeblbgoaaGreatDoorLiftV
import Derived.Test.YtojnickeblbgoaaGreatDoorRows
import Derived.Shelf.Vars
import Derived.WalkKit
import Derived.ProofKit
import Derived.LaidLaws
import Derived.Lib.SplitLaws
namespace Go.Proofs.YtojnickeblbgoaaGreatDoor
open Go.Lift
set_option linter.unusedSimpArgs false
set_option linter.unusedVariables false
set_option maxHeartbeats 4000000

/-- Entries: n nodes; kd: which are directories; dep: how deep each lies. -/
structure Ents (n : Nat) (kd : Int → Prop) (dep : Int → Nat) (m : Slt → Option Int) : Prop where
  rng : ∀ s k, m s = some k → 1 ≤ k ∧ k < n
  inj : ∀ s t k, m s = some k → m t = some k → s = t
  dir : ∀ s k, m s = some k → 0 ≤ s.1 ∧ s.1 < n ∧ kd s.1
  nam : ∀ s k, m s = some k → nameF s.2 = true
  dpt : ∀ s k, m s = some k → dep k = dep s.1 + 1 ∧ dep k ≤ 8
/-- A change. -/
structure Sg (n : Nat) (kd : Int → Prop) (dep : Int → Nat) (c : Chg) : Prop where
  node : 0 ≤ c.node ∧ c.node < n
  what : 0 ≤ c.what ∧ c.what ≤ 4
  ent : c.what = 2 ∨ c.what = 3 ∨ c.what = 4 → kd c.node ∧ nameF c.src = true
  mov : c.what = 4 → nameF c.dst = true
  tgt : c.what = 2 → 1 ≤ c.target ∧ c.target < n ∧ dep c.target = dep c.node + 1 ∧ dep c.target ≤ 8
section
variable {n : Nat} {kd kd' : Int → Prop} {dep dep' : Int → Nat} {m m' : Slt → Option Int} {c : Chg} {L : List Chg}
theorem Sg.mono {n' : Nat} (h : Sg n kd dep c) (hn : n ≤ n') (hk : ∀ i : Int, 0 ≤ i → i < n → kd i → kd' i) (hd : ∀ i : Int, 0 ≤ i → i < n → dep' i = dep i) : Sg n' kd' dep' c :=
  ⟨by have := h.node; omega, h.what, fun hw => ⟨hk _ h.node.1 h.node.2 (h.ent hw).1, (h.ent hw).2⟩, h.mov, fun hw => by
    have t := h.tgt hw
    rw [hd _ (by omega) t.2.1, hd _ h.node.1 h.node.2]
    exact ⟨t.1, by omega, t.2.2⟩⟩
theorem Ents.mono {n' : Nat} (h : Ents n kd dep m) (hn : n ≤ n') (hk : ∀ i : Int, 0 ≤ i → i < n → kd i → kd' i) (hd : ∀ i : Int, 0 ≤ i → i < n → dep' i = dep i) : Ents n' kd' dep' m :=
  ⟨fun s k hs => by have := h.rng s k hs; omega, h.inj, fun s k hs => by
    have t := h.dir s k hs
    exact ⟨t.1, by omega, hk _ t.1 t.2.1 t.2.2⟩, h.nam, fun s k hs => by
    have t := h.dir s k hs
    have r := h.rng s k hs
    rw [hd k (by omega) r.2, hd s.1 t.1 t.2.1]
    exact h.dpt s k hs⟩
theorem Ents.empty : Ents n kd dep (fun _ : Slt => (none : Option Int)) := ⟨fun s k h => (by cases h), fun s t k h => (by cases h), fun s k h => (by cases h), fun s k h => (by cases h), fun s k h => (by cases h)⟩
theorem Ents.sub (h : Ents n kd dep m) (hs : ∀ s k, m' s = some k → m s = some k) : Ents n kd dep m' :=
  ⟨fun s k hk => h.rng s k (hs s k hk), fun s t k h1 h2 => h.inj s t k (hs s k h1) (hs t k h2), fun s k hk => h.dir s k (hs s k hk), fun s k hk => h.nam s k (hs s k hk), fun s k hk => h.dpt s k (hs s k hk)⟩
theorem Ents.put (h : Ents n kd dep m) {s : Slt} {k : Int} (hf : ∀ t, t ≠ s → m t ≠ some k) (h1 : 1 ≤ k ∧ k < n) (h2 : 0 ≤ s.1 ∧ s.1 < n ∧ kd s.1) (h3 : nameF s.2 = true) (h4 : dep k = dep s.1 + 1 ∧ dep k ≤ 8) : Ents n kd dep (fput m s k) := by
  have key : ∀ t x, fput m s k t = some x → (t = s ∧ x = k) ∨ (t ≠ s ∧ m t = some x) := fun t x ht => by
    simp only [fput] at ht
    split at ht
    · rename_i e; exact .inl ⟨e, by simpa using ht.symm⟩
    · rename_i e; exact .inr ⟨e, ht⟩
  refine ⟨fun t x ht => ?_, fun t u x ht hu => ?_, fun t x ht => ?_, fun t x ht => ?_, fun t x ht => ?_⟩
  · rcases key t x ht with ⟨rfl, rfl⟩ | ⟨_, ht⟩
    · exact h1
    · exact h.rng t x ht
  · rcases key t x ht with ⟨e1, ex⟩ | ⟨e1, ht'⟩
    · rcases key u x hu with ⟨e2, _⟩ | ⟨e2, hu'⟩
      · rw [e1, e2]
      · exact absurd (ex ▸ hu') (hf u e2)
    · rcases key u x hu with ⟨e2, ex⟩ | ⟨e2, hu'⟩
      · exact absurd (ex ▸ ht') (hf t e1)
      · exact h.inj t u x ht' hu'
  · rcases key t x ht with ⟨rfl, rfl⟩ | ⟨_, ht⟩
    · exact h2
    · exact h.dir t x ht
  · rcases key t x ht with ⟨rfl, rfl⟩ | ⟨_, ht⟩
    · exact h3
    · exact h.nam t x ht
  · rcases key t x ht with ⟨rfl, rfl⟩ | ⟨_, ht⟩
    · exact h4
    · exact h.dpt t x ht
theorem fdel_some {s t : Slt} {k : Int} (h : fdel m s t = some k) : t ≠ s ∧ m t = some k := by
  simp only [fdel] at h
  split at h
  · cases h
  · rename_i e; exact ⟨e, h⟩
theorem Ents.del (h : Ents n kd dep m) (s : Slt) : Ents n kd dep (fdel m s) := h.sub fun t k ht => (fdel_some ht).2
theorem Ents.step (h : Ents n kd dep m) (hc : Sg n kd dep c) (h4 : c.what = 4 → m (c.node, c.src) ≠ none) (h2 : c.what = 2 → ∀ s, m s ≠ some c.target) : Ents n kd dep (entG m c) := by
  rw [entG_cases]
  split
  · rename_i hw
    have t := hc.tgt hw
    have e := hc.ent (.inl hw)
    exact h.put (fun s _ => h2 hw s) ⟨t.1, t.2.1⟩ ⟨hc.node.1, hc.node.2, e.1⟩ e.2 t.2.2
  · split
    · exact h.del _
    · split
      · rename_i hw
        obtain ⟨k0, hk0⟩ := Option.ne_none_iff_exists'.1 (h4 hw)
        rw [hk0]
        simp only [Option.getD_some]
        have d := h.dir _ _ hk0
        have dp := h.dpt _ _ hk0
        refine (h.del _).put (fun t ht htk => ?_) (h.rng _ _ hk0) ⟨d.1, d.2.1, d.2.2⟩ (hc.mov hw) dp
        obtain ⟨q1, q2⟩ := fdel_some htk
        exact q1 (h.inj _ _ _ q2 hk0)
      · exact h
theorem Fresh.cons' (h : Fresh m (c :: L)) (hs : ∀ x ∈ L, Sg n kd dep x) : Fresh (entG m c) L := by
  have hp := List.pairwise_cons.1 h.apart
  refine ⟨fun x hx h2 s he => ?_, hp.2⟩
  rcases ent_val he with ⟨t, ht⟩ | ⟨hw, hk⟩ | h0
  · exact h.out x (by simp [hx]) h2 t ht
  · exact hp.1 x hx hw h2 hk.symm
  · have := (hs x hx).tgt h2
    omega
theorem Ents.fold : ∀ {L : List Chg} {m : Slt → Option Int}, Ents n kd dep m → (∀ x ∈ L, Sg n kd dep x) → Src m L → Fresh m L → Ents n kd dep (L.foldl entG m)
  | [], m, h, _, _, _ => h
  | c :: L, m, h, hs, hr, hf => by
    rw [List.foldl_cons]
    exact Ents.fold (h.step (hs c (by simp)) (fun h4 => hr [] c L rfl h4) (fun h2 => hf.out c (by simp) h2)) (fun x hx => hs x (by simp [hx])) hr.cons (hf.cons' fun x hx => hs x (by simp [hx]))
theorem Fresh.rest' (h : Fresh m L) (hs : ∀ x ∈ L, Sg n kd dep x) (i : Int) : Fresh ((onD i L).foldl entG m) (restOf i L) := by
  refine ⟨fun c hc h2 s he => ?_, h.apart.filter _⟩
  have hcL := (List.mem_filter.1 hc).1
  have hci : c.node ≠ i := by simpa [restOf] using (List.mem_filter.1 hc).2
  rcases fold_val he with ⟨t, ht⟩ | ⟨x, hx, h2', hk⟩ | h0
  · exact h.out c hcL h2 t ht
  · have hxi : x.node = i := by simpa [onD] using (List.mem_filter.1 hx).2
    exact apart_ne h.apart hcL (List.mem_filter.1 hx).1 (by rw [hxi]; exact hci) h2 h2' hk
  · have := (hs c hcL).tgt h2
    omega
end
end Go.Proofs.YtojnickeblbgoaaGreatDoor

/-
  Layer 1 (disk), what every disk keeps to, part B: behind each call.
-/
namespace Go.Proofs.YtojnickeblbgoaaGreatDoor
open Go.Lift
set_option linter.unusedSimpArgs false
set_option linter.unusedVariables false
set_option maxHeartbeats 4000000

def Dk.isD (d : Dk) (i : Int) : Prop := (d.nd i).kind = 1
/-- What every disk keeps to; A: bytes at most, M: nodes and changes at most; dep: how deep each node lies. -/
structure GI (A M : Nat) (dep : Int → Nat) (d : Dk) : Prop where
  n0 : ∃ nd, d.nodes[0]? = some nd ∧ nd.kind = 1
  kinds : ∀ nd ∈ d.nodes, nd.kind = 1 ∨ nd.kind = 2
  ents : Ents d.nodes.length d.isD dep d.kept
  sc : ∀ c ∈ d.pending, Sg d.nodes.length d.isD dep c
  src : Src d.kept d.pending
  fr : Fresh d.kept d.pending
  eq : d.pending.foldl entG d.kept = d.seen
  node : ∀ (j : Nat) nd, d.nodes[j]? = some nd → NodeOk A d.seen d.pending j nd
  up : ∀ s k, d.seen s = some k → s.1 = 0 ∨ ∃ t, d.seen t = some s.1
  dep0 : dep 0 = 0
  len : d.nodes.length ≤ M
  plen : d.pending.length ≤ M
section
variable {A M : Nat} {dep : Int → Nat} {d d' : Dk}
theorem isD_congr (h : d'.nodes = d.nodes) : d'.isD = d.isD := by funext i; simp [Dk.isD, Dk.nd, h]
theorem GI.pseen (h : GI A M dep d) : Ents d.nodes.length d.isD dep d.seen := by
  rw [← h.eq]; exact h.ents.fold h.sc h.src h.fr
theorem GI.congr (h : GI A M dep d) {A' M' : Nat} (h1 : d'.nodes = d.nodes) (h2 : d'.seen = d.seen) (h3 : d'.kept = d.kept) (h4 : d'.pending = d.pending) (hA : A ≤ A') (hM : M ≤ M') : GI A' M' dep d' := by
  refine ⟨by rw [h1]; exact h.n0, by rw [h1]; exact h.kinds, by rw [isD_congr h1, h1, h3]; exact h.ents, by rw [isD_congr h1, h1, h4]; exact h.sc, by rw [h3, h4]; exact h.src, by rw [h3, h4]; exact h.fr, by rw [h2, h3, h4]; exact h.eq, fun j nd hj => ?_, by rw [h2]; exact h.up, h.dep0, by rw [h1]; have := h.len; omega, by rw [h4]; have := h.plen; omega⟩
  rw [h1] at hj
  rw [h2, h4]
  have t := h.node j nd hj
  exact ⟨t.ok, t.eq, by have := t.seen; omega, by have := t.kept; omega⟩
theorem GI.more (h : GI A M dep d) {A' M' : Nat} (hA : A ≤ A') (hM : M ≤ M') : GI A' M' dep d := h.congr rfl rfl rfl rfl hA hM
theorem GI.pos (h : GI A M dep d) : 0 < d.nodes.length := by
  obtain ⟨nd, h1, _⟩ := h.n0
  exact (List.getElem?_eq_some_iff.1 h1).1
theorem GI.good (h : GI A M dep d) : Good d := ⟨fun s k hs => (h.pseen.rng s k hs).2, h.pos⟩
theorem GI.k0 (h : GI A M dep d) : (d.nd 0).kind = 1 := by
  obtain ⟨a0, b0, c0⟩ := h.n0
  have : d.nd 0 = a0 := by simp [Dk.nd, b0]
  rw [this]; exact c0
theorem GI.fold (h : GI A M dep d) : ∀ (i : Nat) nd, d.nodes[i]? = some nd → foldOk i (nd.kept, d.kept) d.pending := fun i nd hi => foldOk_bOk (h.node i nd hi).ok
theorem nd_add (d : Dk) (kind : Int) {i : Int} (h0 : 0 ≤ i) (h1 : i < d.nodes.length) : (d.addNode kind).nd i = d.nd i := by
  show ((d.nodes ++ [_])[i.toNat]?).getD _ = _
  rw [List.getElem?_append_left (by omega)]
  rfl
def depN (dep : Int → Nat) (n : Nat) (x : Nat) : Int → Nat := fun i => if i = n then x else dep i
theorem GI.addNode (h : GI A M dep d) {kind : Int} (hk : kind = 1 ∨ kind = 2) (x : Nat) : GI A (M + 1) (depN dep d.nodes.length x) (d.addNode kind) := by
  have hl : ∀ (i : Nat) a, d.nodes[i]? = some a → (d.nodes ++ [(⟨kind, e0, e0⟩ : Nd)])[i]? = some a := fun i a ha => by rw [List.getElem?_append_left (List.getElem?_eq_some_iff.1 ha).1]; exact ha
  have hle : d.nodes.length ≤ (d.nodes ++ [(⟨kind, e0, e0⟩ : Nd)]).length := by simp
  have hkd : ∀ i : Int, 0 ≤ i → i < d.nodes.length → d.isD i → (d.addNode kind).isD i := fun i h0 h1 hd => by
    unfold Dk.isD at hd ⊢
    rw [nd_add d kind h0 h1]; exact hd
  have hdp : ∀ i : Int, 0 ≤ i → i < d.nodes.length → depN dep d.nodes.length x i = dep i := fun i h0 h1 => by
    unfold depN
    rw [if_neg (by omega)]
  obtain ⟨a0, b0, c0⟩ := h.n0
  have hp := h.pos
  refine ⟨⟨a0, hl _ _ b0, c0⟩, fun nd hnd => ?_, h.ents.mono hle hkd hdp, fun c hc => (h.sc c hc).mono hle hkd hdp, h.src, h.fr, h.eq, fun j nd hj => ?_, h.up, by
    unfold depN
    rw [if_neg (by omega)]; exact h.dep0, by
    have := h.len
    show (d.nodes ++ [(⟨kind, e0, e0⟩ : Nd)]).length ≤ M + 1
    simp; omega, by have := h.plen; show d.pending.length ≤ M + 1; omega⟩
  · rcases List.mem_append.1 (show nd ∈ d.nodes ++ [_] from hnd) with hm | hm
    · exact h.kinds nd hm
    · obtain rfl := List.mem_singleton.1 hm; exact hk
  have hj' : (d.nodes ++ [(⟨kind, e0, e0⟩ : Nd)])[j]? = some nd := hj
  by_cases hjl : j < d.nodes.length
  · rw [List.getElem?_append_left hjl] at hj'
    exact h.node j nd hj'
  · rw [List.getElem?_append_right (by omega)] at hj'
    have hjn : j - d.nodes.length = 0 := by
      have := (List.getElem?_eq_some_iff.1 hj').1
      simp at this; omega
    rw [hjn] at hj'
    have : nd = ⟨kind, e0, e0⟩ := by simpa using hj'.symm
    subst this
    obtain ⟨i1, i2, i3⟩ := bfold_none (j := (j : Int)) (L := d.pending) (fun c hc hcj => by
      have := (h.sc c hc).node
      omega) e0
    exact ⟨i2, fun _ => i1, Nat.zero_le _, by show e0.size + grows j d.pending ≤ A; rw [i3]; exact Nat.zero_le _⟩
theorem GI.act (h : GI A M dep d) : GI A M dep d.actF.2 := by
  obtain ⟨e1, e2, e3, e4⟩ := actF_same d
  exact h.congr e1 e2 e3 e4 (Nat.le_refl _) (Nat.le_refl _)
theorem isD_set {N : List Nd} {i : Nat} {nd nd' : Nd} (hN : d'.nodes = d.nodes.set i nd') (hi : d.nodes[i]? = some nd) (hk : nd'.kind = nd.kind) : d'.isD = d.isD := by
  funext j
  unfold Dk.isD Dk.nd
  rw [hN]
  by_cases hij : i = j.toNat
  · rw [← hij, List.getElem?_set_self (List.getElem?_eq_some_iff.1 hi).1, hi]
    simp [hk]
  · rw [List.getElem?_set_ne hij]
theorem GI.do' (h : GI A M dep d) {c : Chg} {i : Nat} {nd : Nd} (hi : d.nodes[i]? = some nd) (hn : c.node = i) (hsc : Sg d.nodes.length d.isD dep c) (h4 : c.what = 4 → d.seen (c.node, c.src) ≠ none)
    (h2 : c.what = 2 → (∀ s, d.kept s ≠ some c.target) ∧ (∀ x ∈ d.pending, x.what = 2 → x.target ≠ c.target) ∧ ∀ (t : Nat) nd', c.target = t → d.nodes[t]? = some nd' → bfold t nd'.kept d.pending = nd'.seen)
    (hb : c.what = 0 ∨ c.what = 1 → ∃ s, d.seen s = some (i : Int)) (hup : ∀ s k, entG d.seen c s = some k → s.1 = 0 ∨ ∃ t, entG d.seen c t = some s.1)
    (hf : c.fits nd.seen) : GI (A + c.data.size) (M + 1) dep (doF d c i nd).2 := by
  unfold doF
  obtain ⟨e1, e2, e3, e4⟩ := actF_same d
  split
  · exact (h.act).congr rfl rfl rfl rfl (by omega) (by omega)
  have hil := (List.getElem?_eq_some_iff.1 hi).1
  have hents' : Ents d.nodes.length d.isD dep (entG d.seen c) := h.pseen.step hsc h4 (fun hw s hs => by
    obtain ⟨q1, q2, _⟩ := h2 hw
    rw [← h.eq] at hs
    rcases fold_val hs with ⟨t, ht⟩ | ⟨x, hx, hx2, hk⟩ | h0
    · exact q1 t ht
    · exact q2 x hx hx2 hk.symm
    · have := hsc.tgt hw; omega)
  have hlen : (d.nodes.set i { nd with seen := (applyF c nd.seen d.seen).1 }).length = d.nodes.length := List.length_set
  have hfold : (d.pending ++ [c]).foldl entG d.kept = entG d.seen c := by rw [List.foldl_append, h.eq]; rfl
  have halive : ∀ (j : Nat) x, d.nodes[j]? = some x → (∃ s, entG d.seen c s = some (j : Int)) → bfold j x.kept d.pending = x.seen := by
    rintro j x hx ⟨s, hs⟩
    have hr := hents'.rng s _ hs
    rcases ent_val hs with ht | ⟨hw, hk⟩ | h0
    · exact (h.node j x hx).eq ht
    · exact (h2 hw).2.2 j x hk.symm hx
    · omega
  obtain ⟨D, hD⟩ : ∃ D : Dk, D = { d.actF.2 with nodes := d.nodes.set i { nd with seen := (applyF c nd.seen d.seen).1 }, seen := (applyF c nd.seen d.seen).2, pending := d.pending ++ [c] } := ⟨_, rfl⟩
  have hDn : D.nodes = d.nodes.set i { nd with seen := (applyF c nd.seen d.seen).1 } := by rw [hD]
  have hDd : D.isD = d.isD := isD_set (N := []) hDn hi rfl
  have hDl : D.nodes.length = d.nodes.length := by rw [hDn, hlen]
  show GI _ _ _ { d.actF.2 with nodes := d.nodes.set i { nd with seen := (applyF c nd.seen d.seen).1 }, seen := (applyF c nd.seen d.seen).2, pending := d.pending ++ [c] }
  rw [← hD]
  have hDk : D.kept = d.kept := by rw [hD]; exact e3
  have hDs : D.seen = entG d.seen c := by rw [hD]; exact app_map _ _ _
  have hDp : D.pending = d.pending ++ [c] := by rw [hD]
  refine ⟨?_, ?_, ?_, ?_, ?_, ?_, ?_, ?_, ?_, h.dep0, ?_, ?_⟩
  · obtain ⟨a0, b0, c0⟩ := h.n0
    rw [hDn]
    by_cases hji : i = 0
    · subst hji
      rw [hi] at b0; cases b0
      exact ⟨_, List.getElem?_set_self hil, c0⟩
    · exact ⟨a0, by rw [List.getElem?_set_ne hji]; exact b0, c0⟩
  · rw [hDn]
    intro x hx
    rcases List.mem_or_eq_of_mem_set hx with hx | rfl
    · exact h.kinds x hx
    · exact h.kinds nd (List.mem_of_getElem? hi)
  · rw [hDd, hDl, hDk]; exact h.ents
  · rw [hDd, hDl, hDp]
    intro x hx
    rcases List.mem_append.1 hx with hx | hx
    · exact h.sc x hx
    · obtain rfl := List.mem_singleton.1 hx; exact hsc
  · rw [hDk, hDp]
    exact h.src.snoc fun hw => by rw [h.eq]; exact h4 hw
  · rw [hDk, hDp]
    refine ⟨fun x hx hw => ?_, List.pairwise_append.2 ⟨h.fr.apart, by simp, fun x hx y hy hx2 hy2 => ?_⟩⟩
    · rcases List.mem_append.1 hx with hx | hx
      · exact h.fr.out x hx hw
      · obtain rfl := List.mem_singleton.1 hx; exact (h2 hw).1
    · obtain rfl := List.mem_singleton.1 hy
      exact (h2 hy2).2.1 x hx hx2
  · rw [hDk, hDp, hDs, hfold]
  · intro j x hj
    rw [hDn] at hj
    have hj' := hj
    rw [hDs, hDp]
    have hgs : gsize j c ≤ c.data.size := by unfold gsize; split <;> omega
    have hg1 : grows j (d.pending ++ [c]) = grows j d.pending + gsize j c := by rw [grows_app]; simp [grows]
    by_cases hji : i = j
    · subst hji
      rw [List.getElem?_set_self hil] at hj'
      cases hj'
      have t := h.node i nd hi
      have hal := halive i nd hi
      refine ⟨bOk_snoc t.ok fun _ => ?_, fun ha => ?_, ?_, ?_⟩
      · by_cases hw : c.what = 0 ∨ c.what = 1
        · rw [t.eq (hb hw)]; exact hf
        · rw [not_or] at hw; exact fits_other hw.1 hw.2 _
      · rw [bfold_snoc]
        have e : bfold i nd.kept d.pending = nd.seen := by
          by_cases hw : c.what = 0 ∨ c.what = 1
          · exact t.eq (hb hw)
          · exact hal ha
        show bstep i (bfold i nd.kept d.pending) c = _
        rw [e]
        unfold bstep
        rw [if_pos hn]
        exact app_byte c _ _ _
      · have h1 := app_size c nd.seen d.seen
        have h2 := t.seen
        show (applyF c nd.seen d.seen).1.size ≤ _
        split at h1 <;> omega
      · have h2 := t.kept
        show nd.kept.size + _ ≤ _
        omega
    · rw [List.getElem?_set_ne hji] at hj'
      have t := h.node j x hj'
      have hcj : c.node ≠ (j : Int) := by rw [hn]; omega
      refine ⟨bOk_snoc t.ok fun he => absurd he hcj, fun ha => ?_, by have := t.seen; omega, by have := t.kept; omega⟩
      rw [bfold_snoc, show bstep j (bfold j x.kept d.pending) c = bfold j x.kept d.pending by simp [bstep, hcj]]
      exact halive j x hj' ha
  · rw [hDs]
    exact hup
  · rw [hDl]; have := h.len; omega
  · rw [hDp]
    have := h.plen
    simp; omega
theorem GI.settle (h : GI A M dep d) {i : Nat} {nd : Nd} (hi : d.nodes[i]? = some nd) : GI A M dep (settleF d i nd).2 := by
  unfold settleF
  obtain ⟨e1, e2, e3, e4⟩ := actF_same d
  split
  · exact h.act
  rw [settle_fold]
  have hil := (List.getElem?_eq_some_iff.1 hi).1
  have hlen : (d.nodes.set i { nd with kept := bfold i nd.kept d.pending }).length = d.nodes.length := List.length_set
  have hplr : (restOf i d.pending).length ≤ d.pending.length := List.length_filter_le _ _
  obtain ⟨D, hD⟩ : ∃ D : Dk, D = { d.actF.2 with nodes := d.nodes.set i { nd with kept := bfold i nd.kept d.pending }, kept := (onD i d.pending).foldl entG d.kept, pending := restOf i d.pending } := ⟨_, rfl⟩
  show GI A M dep { d.actF.2 with nodes := d.nodes.set i { nd with kept := bfold i nd.kept d.pending }, kept := (onD i d.pending).foldl entG d.kept, pending := restOf i d.pending }
  rw [← hD]
  have hDn : D.nodes = d.nodes.set i { nd with kept := bfold i nd.kept d.pending } := by rw [hD]
  have hDd : D.isD = d.isD := isD_set (N := []) hDn hi rfl
  have hDl : D.nodes.length = d.nodes.length := by rw [hDn, hlen]
  have hDk : D.kept = (onD i d.pending).foldl entG d.kept := by rw [hD]
  have hDs : D.seen = d.seen := by rw [hD]; exact e2
  have hDp : D.pending = restOf i d.pending := by rw [hD]
  refine ⟨?_, ?_, ?_, ?_, ?_, ?_, ?_, ?_, ?_, h.dep0, ?_, ?_⟩
  · obtain ⟨a0, b0, c0⟩ := h.n0
    rw [hDn]
    by_cases hji : i = 0
    · subst hji
      rw [hi] at b0; cases b0
      exact ⟨_, List.getElem?_set_self hil, c0⟩
    · exact ⟨a0, by rw [List.getElem?_set_ne hji]; exact b0, c0⟩
  · rw [hDn]
    intro x hx
    rcases List.mem_or_eq_of_mem_set hx with hx | rfl
    · exact h.kinds x hx
    · exact h.kinds nd (List.mem_of_getElem? hi)
  · rw [hDd, hDl, hDk]
    exact h.ents.fold (fun x hx => h.sc x (List.mem_filter.1 hx).1) (h.src.on i) (h.fr.on i)
  · rw [hDd, hDl, hDp]
    exact fun x hx => h.sc x (List.mem_filter.1 hx).1
  · rw [hDk, hDp]; exact h.src.rest i
  · rw [hDk, hDp]; exact h.fr.rest' h.sc i
  · rw [hDk, hDp, hDs, settle_eq]; exact h.eq
  · intro j x hj
    rw [hDn] at hj
    have hj' := hj
    rw [hDs, hDp]
    by_cases hji : i = j
    · subst hji
      rw [List.getElem?_set_self hil] at hj'
      cases hj'
      have t := h.node i nd hi
      obtain ⟨q1, q2, q3⟩ := bfold_none (j := (i : Int)) (L := restOf i d.pending) (rest_off i d.pending) (bfold i nd.kept d.pending)
      refine ⟨q2, fun ha => ?_, t.seen, ?_⟩
      · show bfold i (bfold i nd.kept d.pending) (restOf i d.pending) = nd.seen
        rw [q1]; exact t.eq ha
      · show (bfold i nd.kept d.pending).size + grows i (restOf i d.pending) ≤ A
        rw [q3]
        have := bfold_size (i := (i : Int)) d.pending nd.kept
        have := t.kept
        omega
    · rw [List.getElem?_set_ne hji] at hj'
      have t := h.node j x hj'
      obtain ⟨q1, q2, q3⟩ := bfold_rest (j := (j : Int)) (i := (i : Int)) (by omega) d.pending x.kept
      exact ⟨q2 t.ok, fun ha => by rw [q1]; exact t.eq ha, t.seen, by rw [q3]; exact t.kept⟩
  · rw [hDs]; exact h.up
  · rw [hDl]; exact h.len
  · rw [hDp]
    have := h.plen
    omega
theorem GI.crash_list (h : GI A M dep d) (keep torn : Int) (hA : A ≤ 2305843009213693952) : (∀ c ∈ crashL d.pending keep torn, Sg d.nodes.length d.isD dep c) ∧ Src d.kept (crashL d.pending keep torn) ∧ Fresh d.kept (crashL d.pending keep torn) ∧
    ∀ (j : Nat) nd, d.nodes[j]? = some nd → bOk j nd.kept (crashL d.pending keep torn) ∧ (bfold j nd.kept (crashL d.pending keep torn)).size ≤ A := by
  obtain ⟨k, hk⟩ := crash_any d.pending keep torn
  have hsplit : d.pending = d.pending.take k ++ d.pending.drop k := (List.take_append_drop k _).symm
  have hs := h.src
  have hf := h.fr
  have pre : ∀ (j : Nat) nd, d.nodes[j]? = some nd → bOk j nd.kept (d.pending.take k) ∧ nd.kept.size + grows j (d.pending.take k) ≤ A := fun j nd hj => by
    have t := h.node j nd hj
    have t1 := t.ok
    have t2 := t.kept
    rw [hsplit] at t1 t2
    rw [grows_app] at t2
    exact ⟨bOk_pre t1, by omega⟩
  rw [hsplit] at hs hf
  rcases hk with e | ⟨c, x, hc, hw, hx, e⟩
  · rw [e]
    refine ⟨fun c hc => h.sc c (List.mem_of_mem_take hc), hs.pre, hf.pre, fun j nd hj => ?_⟩
    obtain ⟨p1, p2⟩ := pre j nd hj
    have := bfold_size (i := (j : Int)) (d.pending.take k) nd.kept
    exact ⟨p1, by omega⟩
  · rw [e]
    have hcs := h.sc c (List.mem_of_getElem? hc)
    have hkl := (List.getElem?_eq_some_iff.1 hc).1
    have hdrop : d.pending.drop k = c :: d.pending.drop (k + 1) := by
      rw [List.drop_eq_getElem_cons hkl]
      congr 1
      exact (List.getElem?_eq_some_iff.1 hc).2
    refine ⟨fun y hy => ?_, hs.pre.snoc fun h4 => ?_, ⟨fun y hy h2 => ?_, List.pairwise_append.2 ⟨hf.pre.apart, by simp, fun y hy z hz h2 h2' => ?_⟩⟩, fun j nd hj => ?_⟩
    · rcases List.mem_append.1 hy with hy | hy
      · exact h.sc y (List.mem_of_mem_take hy)
      · obtain rfl := List.mem_singleton.1 hy
        exact ⟨hcs.node, hcs.what, hcs.ent, hcs.mov, hcs.tgt⟩
    · simp only [hw] at h4; exact absurd h4 (by decide)
    · rcases List.mem_append.1 hy with hy | hy
      · exact hf.pre.out y hy h2
      · obtain rfl := List.mem_singleton.1 hy
        simp only [hw] at h2; exact absurd h2 (by decide)
    · obtain rfl := List.mem_singleton.1 hz
      simp only [hw] at h2'; exact absurd h2' (by decide)
    · obtain ⟨p1, p2⟩ := pre j nd hj
      have hb := bfold_size (i := (j : Int)) (d.pending.take k) nd.kept
      have t := h.node j nd hj
      have t1 := t.ok
      have t2 := t.kept
      rw [hsplit, hdrop] at t1 t2
      rw [grows_app] at t2
      have hg : gsize j c ≤ grows j (c :: d.pending.drop (k + 1)) := by simp [grows]
      refine ⟨bOk_snoc p1 fun hcj => ⟨fun _ => ?_, fun h1 => by simp only [hw] at h1; exact absurd h1 (by decide)⟩, ?_⟩
      · have := (bOk_at t1 hcj).1 hw
        show (bfold j nd.kept (d.pending.take k)).size + x.size ≤ _
        omega
      · rw [bfold_snoc]
        have h1 := bstep_size j (bfold j nd.kept (d.pending.take k)) { c with data := x }
        have h2 : gsize j { c with data := x } ≤ gsize j c := by
          unfold gsize
          simp only
          split
          · exact hx
          · exact Nat.le_refl _
        omega
/-- What lies behind a crash. -/
structure Crashed (d : Dk) (keep torn : Int) (d' : Dk) : Prop where
  same : d'.cap = d.cap ∧ d'.acts = d.acts ∧ d'.reads = d.reads
  off : d'.armed = false ∧ d'.down = false ∧ d'.pending = []
  eq : d'.kept = d'.seen
  len : d'.nodes.length = d.nodes.length
  sub : ∀ s k, d'.seen s = some k → (crashL d.pending keep torn).foldl entG d.kept s = some k
  root : ∀ n k, (crashL d.pending keep torn).foldl entG d.kept (0, n) = some k → d'.seen (0, n) = some k
  closed : ∀ s x, d'.seen s = some x → d.isD x → ∀ n k, (crashL d.pending keep torn).foldl entG d.kept (x, n) = some k → d'.seen (x, n) = some k
  kept : ∀ (j : Nat) nd, d.nodes[j]? = some nd → ∃ x, d'.nodes[j]? = some x ∧ x.kind = nd.kind ∧ x.kept = bfold j nd.kept (crashL d.pending keep torn) ∧ ((∃ s, d'.seen s = some (j : Int)) → x.seen = x.kept)
theorem GI.crash (h : GI A M dep d) (keep torn : Int) (hA : A ≤ 2305843009213693952) :
    crashOk (d.nodes, d.kept) (crashL d.pending keep torn) ∧ Tree { d with nodes := ((crashL d.pending keep torn).foldl cStep (d.nodes, d.kept)).1, kept := ((crashL d.pending keep torn).foldl cStep (d.nodes, d.kept)).2 } ∧
    ∀ d', Reached { d with nodes := ((crashL d.pending keep torn).foldl cStep (d.nodes, d.kept)).1, kept := ((crashL d.pending keep torn).foldl cStep (d.nodes, d.kept)).2 } d' → GI A M dep d' ∧ Crashed d keep torn d' := by
  obtain ⟨l1, l2, l3, l4⟩ := h.crash_list keep torn hA
  have hcr : ∀ d', Reached { d with nodes := ((crashL d.pending keep torn).foldl cStep (d.nodes, d.kept)).1, kept := ((crashL d.pending keep torn).foldl cStep (d.nodes, d.kept)).2 } d' → Crashed d keep torn d' ∧ ∀ (j : Nat) nd, d.nodes[j]? = some nd → ∃ x, d'.nodes[j]? = some x ∧ (x.seen = nd.seen ∨ x.seen = bfold j nd.kept (crashL d.pending keep torn)) := by
    intro d' hr
    obtain ⟨f1, f2⟩ := cFold_at (crashL d.pending keep torn) d.nodes d.kept fun c hc => (l1 c hc).node
    have hlen := cFold_len' (crashL d.pending keep torn) (d.nodes, d.kept)
    generalize hL : crashL d.pending keep torn = L at *
    generalize hst : L.foldl cStep (d.nodes, d.kept) = st at *
    simp only at hlen
    have hat : ∀ (j : Nat) nd, d.nodes[j]? = some nd → ∃ x, d'.nodes[j]? = some x ∧ x.kind = nd.kind ∧ x.kept = bfold j nd.kept L ∧ (x.seen = nd.seen ∨ x.seen = bfold j nd.kept L) ∧ ((∃ s, d'.seen s = some (j : Int)) → x.seen = x.kept) := fun j nd hj => by
      have e := f2 j nd hj
      have hgot : (∃ s, d'.seen s = some (j : Int)) → d'.nodes[j]? = some ⟨nd.kind, bfold j nd.kept L, bfold j nd.kept L⟩ := fun ⟨s, hs⟩ => by
        have := hr.got s j hs _ (by simpa using e)
        simpa using this
      rcases hr.each j _ e with h' | h'
      · refine ⟨_, h', rfl, rfl, .inl rfl, fun ha => ?_⟩
        have := hgot ha
        rw [h'] at this
        injection this with this
        rw [this]
      · exact ⟨_, h', rfl, rfl, .inr rfl, fun _ => rfl⟩
    have hkd : ∀ x s, d'.seen s = some x → d.isD x → (({ d with nodes := st.1, kept := st.2 } : Dk).nd x).kind = 1 := fun x s hs hd => by
      have hx := hr.sub s x hs
      have hr2 := (h.ents.fold l1 l2 l3).rng s x (by rw [← f1]; exact hx)
      obtain ⟨j, hj⟩ : ∃ j : Nat, x = j := ⟨x.toNat, by omega⟩
      subst hj
      have hjl : j < d.nodes.length := by omega
      have e := f2 j _ (List.getElem?_eq_getElem hjl)
      unfold Dk.isD at hd
      simp only [Dk.nd, Int.toNat_natCast] at hd ⊢
      rw [e]
      rw [List.getElem?_eq_getElem hjl] at hd
      exact hd
    refine ⟨⟨hr.same, hr.off, funext hr.eq, by rw [hr.len]; exact hlen, fun s k hs => by rw [hL, ← f1]; exact hr.sub s k hs, fun n k hk => hr.root n k (by rw [hL, ← f1] at hk; exact hk), fun s x hs hd n k hk => hr.closed s x hs (hkd x s hs hd) n k (by rw [hL, ← f1] at hk; exact hk), fun j nd hj => ?_⟩, fun j nd hj => ?_⟩
    · obtain ⟨x, x1, x2, x3, _, x5⟩ := hat j nd hj
      exact ⟨x, x1, x2, by rw [hL]; exact x3, x5⟩
    · obtain ⟨x, x1, _, _, x4, _⟩ := hat j nd hj
      exact ⟨x, x1, x4⟩
  have hp : Ents d.nodes.length d.isD dep ((crashL d.pending keep torn).foldl entG d.kept) := h.ents.fold l1 l2 l3
  refine ⟨cOk_of _ d.nodes d.kept (fun c hc => (l1 c hc).node) fun j nd hj => (l4 j nd hj).1, ⟨fun s k hs => ?_, fun s t k hs ht => ?_⟩, fun d' hr => ?_⟩
  · have f1 := (cFold_at (crashL d.pending keep torn) d.nodes d.kept fun c hc => (l1 c hc).node).1
    have hlen := cFold_len' (crashL d.pending keep torn) (d.nodes, d.kept)
    simp only at hs hlen ⊢
    rw [f1] at hs
    rw [hlen]
    exact hp.rng s k hs
  · have f1 := (cFold_at (crashL d.pending keep torn) d.nodes d.kept fun c hc => (l1 c hc).node).1
    simp only at hs ht
    rw [f1] at hs ht
    exact hp.inj s t k hs ht
  · obtain ⟨c, hc4⟩ := hcr d' hr
    refine ⟨?_, c⟩
    have hdD : ∀ i : Int, 0 ≤ i → i < d.nodes.length → d.isD i → d'.isD i := fun i h0 h1 hd => by
      obtain ⟨j, rfl⟩ : ∃ j : Nat, i = j := ⟨i.toNat, by omega⟩
      have hjl : j < d.nodes.length := by omega
      obtain ⟨x, x1, x2, _⟩ := c.kept j _ (List.getElem?_eq_getElem hjl)
      unfold Dk.isD at hd ⊢
      simp only [Dk.nd, Int.toNat_natCast] at hd ⊢
      rw [x1]
      rw [List.getElem?_eq_getElem hjl] at hd
      show x.kind = 1
      rw [x2]; exact hd
    refine ⟨?_, ?_, ?_, (by rw [c.off.2.2]; intro x hx; cases hx), (by rw [c.off.2.2]; intro L1 x L2 e; simp at e), by rw [c.off.2.2]; exact ⟨fun x hx => (by cases hx), List.Pairwise.nil⟩, by rw [c.off.2.2, c.eq]; rfl, ?_, ?_, h.dep0, by rw [c.len]; exact h.len, by rw [c.off.2.2]; exact Nat.zero_le _⟩
    · obtain ⟨a0, b0, c0⟩ := h.n0
      obtain ⟨x, x1, x2, _⟩ := c.kept 0 a0 b0
      exact ⟨x, x1, by rw [x2]; exact c0⟩
    · intro x hx
      obtain ⟨j, hj⟩ := List.getElem?_of_mem hx
      have hjl : j < d.nodes.length := by rw [← c.len]; exact (List.getElem?_eq_some_iff.1 hj).1
      obtain ⟨y, y1, y2, _⟩ := c.kept j _ (List.getElem?_eq_getElem hjl)
      rw [hj] at y1
      cases y1
      rw [y2]
      exact h.kinds _ (List.getElem_mem hjl)
    · rw [c.eq]
      exact (hp.sub c.sub).mono (by rw [c.len]; exact Nat.le_refl _) (fun i h0 h1 hd => hdD i h0 h1 hd) fun _ _ _ => rfl
    · intro j x hj
      rw [c.off.2.2]
      have hjl : j < d.nodes.length := by rw [← c.len]; exact (List.getElem?_eq_some_iff.1 hj).1
      obtain ⟨y, y1, y2, y3, y5⟩ := c.kept j _ (List.getElem?_eq_getElem hjl)
      obtain ⟨z, z1, z4⟩ := hc4 j _ (List.getElem?_eq_getElem hjl)
      rw [hj] at y1 z1
      cases y1
      cases z1
      have t := h.node j _ (List.getElem?_eq_getElem hjl)
      have t2 := (l4 j _ (List.getElem?_eq_getElem hjl)).2
      refine ⟨trivial, fun ha => (y5 ha).symm, ?_, ?_⟩
      · rcases z4 with z4 | z4
        · rw [z4]; exact t.seen
        · rw [z4]; exact t2
      · rw [y3]
        have : grows (j : Int) [] = 0 := rfl
        rw [this]; exact t2
    · exact hr.up
end
end Go.Proofs.YtojnickeblbgoaaGreatDoor

/-
  Layer 1 (disk), part Gen C: Remove and Rename, just what they answer.
-/
namespace Go.Proofs.YtojnickeblbgoaaGreatDoor
open Go.Lift
set_option linter.unusedSimpArgs false
set_option linter.unusedVariables false
set_option maxHeartbeats 4000000

open Classical in
noncomputable def removeX (d : Dk) (p : ByteArray) : Int × Dk := if p = E0 ∧ ((d.findF p 0).1 = 0 ∨ (d.findF p 0).1 = 12) then (11, d) else if (d.findF p 0).1 ≠ 0 then ((d.findF p 0).1, d) else
  if ∃ n k, d.seen ((d.findF p 0).2.2, n) = some k then (17, d) else removeF d p
def renW (d : Dk) (s t : Spot) : Int × Dk := if s.1 ≠ 0 then (s.1, d) else if s.2.2 < 0 then (12, d) else if 0 ≤ t.2.2 ∧ (t.2.1 = s.2.1 ∨ (d.nd s.2.2).kind ≠ 2 ∨ (d.nd t.2.2).kind ≠ 2) then (13, d) else
  doF d ⟨4, s.2.1.1, e0, 0, s.2.1.2, t.2.1.2, 0⟩ s.2.1.1.toNat (d.nd s.2.1.1)
def renameX (d : Dk) (p q : ByteArray) : Int × Dk := if d.down then (10, d) else match parseF p, parseF q with
  | some a, some c => if p = E0 ∨ q = E0 then (11, d) else if pathF (a.take (a.length - 1)) ≠ pathF (c.take (c.length - 1)) ∨ a.length ≠ c.length then (18, d) else renW d (d.walkF a) (d.walkF c)
  | _, _ => (11, d)
section
variable {w w' w'' : World} {b : Nat} {d d' : Dk} {v : DV} {tag : Nat → Nat}
theorem remove3_run (h : DA w b d v tag) (g : Good d) {path : ByteArray} (hs : path.size < 4294967281) (hpl : d.pending.length ≤ 16777216) :
    Run (F.disk_Disk_Remove (Ptr b) (.string path)) w fun r w' => r = .int .i64 (removeX d path).1 ∧ DDid w w' b tag (removeX d path).2 := by
  obtain ⟨R, hR⟩ : ∃ R, R = removeX d path := ⟨_, rfl⟩
  rw [← hR]
  obtain ⟨Q, hQ⟩ : ∃ Q : Value → World → Prop, ∀ r w', Q r w' ↔ (r = .int .i64 R.1 ∧ DDid w w' b tag R.2) := ⟨_, fun _ _ => Iff.rfl⟩
  refine Run.mono (Q := Q) ?_ fun r w' h => (hQ _ _).1 h
  have qs : ∀ e w', R = (e, d) → DDid w w' b tag d → Q (.int .i64 e) w' := fun e w' hX hd => (hQ _ _).2 ⟨by rw [hX], by rw [hX]; exact hd⟩
  unfold removeX removeF at hR
  unfold F.disk_Disk_Remove
  have eE : ByteArray.mk #[] = E0 := rfl
  rw [eE]
  simp only [Run_bind]
  refine (find_run h g hs 0).mono ?_
  rintro _ w1 ⟨rfl, f1⟩
  have hdir := fun hp => find_dir (path := path) (kind := 0) g hp
  generalize d.findF path 0 = s at *
  obtain ⟨e, ⟨a1, a2⟩, node⟩ := s
  simp only at hdir hR
  simp [-ldA_ptr, spotV]
  refine spot_mem fun x w2 hx _ f2 _ => ?_
  have f02 : Fr (fun _ => False) w w2 := f1.trans f2 fun _ _ => id
  have h2 := h.fr0 f02
  have hb2 := h2.blk
  have same : ∀ w', Fr (fun _ => False) w w' → DDid w w' b tag d := fun w' f => (h.fr0 f).did (f.mono fun _ h => h.elim)
  by_cases hp : path = E0
  · by_cases k1 : e = 0
    · simp [-ldA_ptr, k1, ba_eq, hp]
      exact qs _ _ (by rw [hR, if_pos ⟨hp, .inl k1⟩]) (same _ f02)
    · by_cases k2 : e = 12
      · simp [-ldA_ptr, k2, ba_eq, hp]
        exact qs _ _ (by rw [hR, if_pos ⟨hp, .inr k2⟩]) (same _ f02)
      · simp [-ldA_ptr, k1, k2, ba_eq, hp]
        exact qs _ _ (by rw [hR, if_neg (fun h => h.2.elim k1 k2), if_pos k1]) (same _ f02)
  rw [if_neg (fun h => hp h.1)] at hR
  by_cases k1 : e = 0
  · rw [if_neg (by simp [k1])] at hR
    obtain ⟨n1, n2⟩ := hdir hp k1
    obtain ⟨j, hj⟩ : ∃ j : Nat, a1 = j := ⟨a1.toNat, by omega⟩
    have hjl : j < d.nodes.length := by omega
    have hjn : d.nodes[j]? = some d.nodes[j] := List.getElem?_eq_getElem hjl
    generalize d.nodes[j] = nd at hjn
    have hnd : d.nd a1 = nd := by simp [Dk.nd, hj, hjn]
    simp [-ldA_ptr, k1, hx, ba_eq, hp, hb2, Dk.cells]
    refine Run_rngM h2.seen fun w3 r hit f3 hr => ?_
    refine Run_range (k := fun _ _ => _) (fun x => rfl) (fun js x w' => x = [] ∧ Fr (fun c => c = r) w3 w' ∧ ∀ j ∈ js, ∀ p, v.ls[j]? = some p → p.1.1 ≠ node) ⟨rfl, Fr.refl _ _, fun j hj => (by cases hj)⟩ hit ?_ ?_
    · rintro js i p y wa wb hpi hj' ⟨rfl, fa, hno⟩ hitb fb sb
      have he := hitb.entry hpi
      obtain ⟨⟨pd, pn⟩, pk⟩ := p
      simp [-ldA_ptr, he, slv]
      refine Run_newSt (cs := #[.int .i64 pd, .string pn]) rfl rfl (by simp) fun z wc hz hzw fc hzle => ?_
      have hz' : bk wc z = some [.int .i64 pd, .string pn] := hz
      have hxr : x ≠ r := by
        have := bk_lt hx
        omega
      have hxc : bk wc x = some [.int .i64 a1, .string a2, .int .i64 node] := fc.bk_some (fb.bk_some (fa.bk_some (f3.bk_some hx id) hxr) hxr) id
      by_cases hne : pd = node
      · simp [hz', hxc, hne]
        refine qs _ _ (by rw [hR, if_pos ⟨pn, pk, ?_⟩]) (same _ ((f02.trans (f3.new ((fa.trans fb fun _ _ h => h).trans fc fun _ _ h => h.elim) fun c hc => by omega) fun _ _ => id)))
        rw [← h2.seenE, ← hne]
        exact getK_of_mem h2.seen.nodup (List.mem_of_getElem? hpi)
      · simp [hz', hxc, hne]
        refine ⟨⟨(fa.trans fb fun _ _ h => h).trans fc fun _ _ h => h.elim, fun j hj x y z hq => ?_⟩, hitb.fr fc id id⟩
        rcases hj with hj | hj
        · exact hno j hj _ hq
        · subst hj
          rw [hpi] at hq
          cases hq
          exact hne
    · rintro js y wa wb hperm ⟨rfl, fa, hno⟩ hitb fb sb
      have hnf : ¬ ∃ n k, d.seen (node, n) = some k := fun ⟨n, k, hk⟩ => by
        rw [← h2.seenE] at hk
        obtain ⟨j, hj⟩ := List.getElem?_of_mem (getK_mem hk)
        have hjl := (List.getElem?_eq_some_iff.1 hj).1
        exact hno j (hperm.mem_iff.2 (List.mem_range.2 hjl)) _ hj rfl
      have hxr : x ≠ r := by
        have := bk_lt hx
        omega
      have hxb : bk wb x = some [.int .i64 a1, .string a2, .int .i64 node] := fb.bk_some (fa.bk_some (f3.bk_some hx id) hxr) id
      have f0b : Fr (fun _ => False) w wb := (f02.trans (f3.new fa fun c hc => by omega) fun _ _ => id).trans fb fun _ _ => id
      simp [hxb, build_gone]
      refine (do_run (h.fr0 f0b) ⟨3, a1, e0, 0, a2, e0, 0⟩ hjn hj ⟨fun h => by simp at h, fun h => by simp at h⟩ hpl).mono ?_
      rintro r w4 ⟨rfl, h4⟩
      rw [if_neg hnf, if_neg (by simp [k1]), hnd, show a1.toNat = j by omega] at hR
      exact (hQ _ _).2 ⟨by rw [hR], by rw [hR]; exact h4.pre f0b⟩
  · simp [-ldA_ptr, k1, ba_eq, hp]
    exact qs _ _ (by rw [hR, if_pos k1]) (same _ f02)
theorem rename3_run (h : DA w b d v tag) (g : Good d) (hk0 : (d.nd 0).kind = 1) {p q : ByteArray} (hps : p.size < 4294967281) (hqs : q.size < 4294967281) (hpl : d.pending.length ≤ 16777216) :
    Run (F.disk_Disk_Rename (Ptr b) (.string p) (.string q)) w fun r w' => r = .int .i64 (renameX d p q).1 ∧ DDid w w' b tag (renameX d p q).2 := by
  obtain ⟨R, hR⟩ : ∃ R, R = renameX d p q := ⟨_, rfl⟩
  rw [← hR]
  obtain ⟨Q, hQ⟩ : ∃ Q : Value → World → Prop, ∀ r w', Q r w' ↔ (r = .int .i64 R.1 ∧ DDid w w' b tag R.2) := ⟨_, fun _ _ => Iff.rfl⟩
  refine Run.mono (Q := Q) ?_ fun r w' h => (hQ _ _).1 h
  have qs : ∀ e w', R = (e, d) → DDid w w' b tag d → Q (.int .i64 e) w' := fun e w' hX hd => (hQ _ _).2 ⟨by rw [hX], by rw [hX]; exact hd⟩
  unfold renameX at hR
  unfold F.disk_Disk_Rename
  have eE : ByteArray.mk #[] = E0 := rfl
  have same : ∀ w', Fr (fun _ => False) w w' → DDid w w' b tag d := fun w' f => (h.fr0 f).did (f.mono fun _ h => h.elim)
  simp only [Run_bind]
  refine ready_run h ?_
  by_cases hd : d.down = true
  · simp [hd]
    exact qs _ _ (by rw [hR, if_pos hd]) (same _ (Fr.refl _ _))
  rw [if_neg hd] at hR
  obtain ⟨m, hm⟩ := h.ml
  simp [-ldA_ptr, hd]
  refine (parse_run p hps hm).mono ?_
  rintro _ w2 ⟨nv, rfl, f2, hn⟩
  obtain ⟨m2, hm2⟩ := (h.fr0 f2).ml
  simp [-ldA_ptr]
  refine (parse_run q hqs hm2).mono ?_
  rintro _ w3 ⟨nw, rfl, f3, hn'⟩
  have f03 : Fr (fun _ => False) w w3 := f2.trans f3 fun _ _ => id
  cases hp : parseF p with
  | none =>
    rw [hp] at hR
    simp [-ldA_ptr, eE]
    exact qs _ _ hR (same _ f03)
  | some a =>
    cases hq : parseF q with
    | none =>
      rw [hp, hq] at hR
      simp [-ldA_ptr, eE]
      exact qs _ _ hR (same _ f03)
    | some c =>
      rw [hp, hq] at hR
      simp only at hR
      by_cases hp0 : p = E0
      · simp [-ldA_ptr, eE, ba_eq, hp0]
        exact qs _ _ (by rw [hR, if_pos (.inl hp0)]) (same _ f03)
      by_cases hq0 : q = E0
      · simp [-ldA_ptr, eE, ba_eq, hp0, hq0]
        exact qs _ _ (by rw [hR, if_pos (.inr hq0)]) (same _ f03)
      rw [if_neg (fun h => h.elim hp0 hq0)] at hR
      obtain ⟨hn1, _⟩ := hn _ hp
      obtain ⟨hn2, _⟩ := hn' _ hq
      obtain ⟨pa1, pa2⟩ := parse_small hp
      obtain ⟨pc1, pc2⟩ := parse_small hq
      have ha0 : a ≠ [] := fun he => hp0 (parse_nil (he ▸ hp))
      have hc0 : c ≠ [] := fun he => hq0 (parse_nil (he ▸ hq))
      have la := List.length_pos_iff.2 ha0
      have lc := List.length_pos_iff.2 hc0
      have hn1' := hn1.fr0 f3
      have fd : Fr (fun _ => False) w3 w3.drew := (Fr.refl (fun _ => False) w3).drew
      have n1d := hn1'.fr0 fd
      have n2d := hn2.fr0 fd
      have l1 := n1d.lenL
      have l2 := n2d.lenL
      rw [List.length_map] at l1 l2
      have wa : IntKind.i64.wrap ((a.length : Int) - 1) = ((a.length - 1 : Nat) : Int) := by rw [wrap_int (by omega) (by omega)]; omega
      have wc : IntKind.i64.wrap ((c.length : Int) - 1) = ((c.length - 1 : Nat) : Int) := by rw [wrap_int (by omega) (by omega)]; omega
      obtain ⟨u1, s1, s2, _⟩ := n1d.take (n := a.length - 1) (by rw [List.length_map]; omega) .i64
      rw [← List.map_take] at s2
      simp [-ldA_ptr, eE, ba_eq, hp0, hq0, l1, l2, wa, s1]
      refine (path2_run s2 (fun x hx => pa1 x (List.mem_of_mem_take hx)) (by rw [List.length_take]; omega)).mono ?_
      rintro _ w4 ⟨rfl, f4⟩
      obtain ⟨u2, t1, t2, _⟩ := (n2d.fr0 f4).take (n := c.length - 1) (by rw [List.length_map]; omega) .i64
      rw [← List.map_take] at t2
      simp [-ldA_ptr, l2, wc, t1]
      refine (path2_run t2 (fun x hx => pc1 x (List.mem_of_mem_take hx)) (by rw [List.length_take]; omega)).mono ?_
      rintro _ w5 ⟨rfl, f5⟩
      have f35 : Fr (fun _ => False) w3 w5 := (fd.trans f4 fun _ _ => id).trans f5 fun _ _ => id
      have f05 : Fr (fun _ => False) w w5 := f03.trans f35 fun _ _ => id
      by_cases hpe : pathF (a.take (a.length - 1)) = pathF (c.take (c.length - 1))
      · by_cases hle : a.length = c.length
        · have l2' : lenL nw = some (.int .i64 c.length) := l2
          have hle' : ((a.length : Nat) : Int) = c.length := by omega
          have hpe' : pathF (List.take (c.length - 1) a) = pathF (List.take (c.length - 1) c) := by rw [← hle]; rw [hle]; rw [hle] at hpe; exact hpe
          simp [-ldA_ptr, ba_eq, hpe, hpe', l1, l2, hle]
          have h5 := h.fr0 f05
          refine (walk_run h5 g (hn1'.fr0 f35) (by omega)).mono ?_
          rintro _ w6 ⟨rfl, f6⟩
          have h6 := h5.fr0 f6
          have f06 : Fr (fun _ => False) w w6 := f05.trans f6 fun _ _ => id
          rw [if_neg (fun h => h.elim (fun h => h hpe) (fun h => h hle))] at hR
          have hda := walk_dir g ha0
          have hlta := walk_lt g a
          generalize d.walkF a = s at *
          obtain ⟨e, ⟨a1, a2⟩, node⟩ := s
          simp only at hda hlta
          simp [-ldA_ptr, spotV]
          refine spot_mem fun z6 w7 hz7 _ f7 _ => ?_
          have h7 := h6.fr0 f7
          have f07 : Fr (fun _ => False) w w7 := f06.trans f7 fun _ _ => id
          by_cases k1 : e = 0
          · by_cases k2 : node < 0
            · simp [-ldA_ptr, k1, hz7, k2]
              exact qs _ _ (by rw [hR]; unfold renW; rw [if_neg (by simp [k1]), if_pos k2]) (same _ f07)
            simp [-ldA_ptr, k1, hz7, k2]
            refine (walk_run h7 g (((hn2.fr0 f35).fr0 f6).fr0 f7) (by omega)).mono ?_
            rintro _ w8 ⟨rfl, f8⟩
            have h8 := h7.fr0 f8
            have herr : (d.walkF c).1 ≠ 0 → (d.walkF c).2 = ((0, e0), 0) := walk_err c
            have hltc := walk_lt g c
            generalize d.walkF c = t at *
            obtain ⟨et, ⟨t1', t2'⟩, tnode⟩ := t
            simp only at herr hltc
            simp [-ldA_ptr, spotV]
            refine spot_mem fun z9 w9 hz9 _ f9 _ => ?_
            have h9 := h8.fr0 f9
            have hz79 : bk w9 z6 = some [.int .i64 a1, .string a2, .int .i64 node] := f9.bk_some (f8.bk_some hz7 id) id
            have hl7 : ldA 2 (Ptr z6) w9.drew = some (.agg #[.int .i64 a1, .string a2]) := by rw [ldA_bk (w := w9.drew) (l := [.int .i64 a1, .string a2, .int .i64 node]) hz79 (by simp)]; rfl
            have hl9 : ldA 2 (Ptr z9) w9.drew = some (.agg #[.int .i64 t1', .string t2']) := by rw [ldA_bk (w := w9.drew) (l := [.int .i64 t1', .string t2', .int .i64 tnode]) hz9 (by simp)]; rfl
            have f09 : Fr (fun _ => False) w w9.drew := ((f07.trans f8 fun _ _ => id).trans f9 fun _ _ => id).drew
            have hb9 := h9.blk
            obtain ⟨n1, n2⟩ := hda k1
            have fin : ¬ (0 ≤ tnode ∧ ((t1', t2') = (a1, a2) ∨ (d.nd node).kind ≠ 2 ∨ (d.nd tnode).kind ≠ 2)) → Run (F.disk_Disk_do (Ptr b) (Chg.val ⟨4, a1, e0, 0, a2, t2', 0⟩)) w9.drew Q := by
              intro het
              unfold renW at hR
              simp only at hR
              rw [if_neg (by simp [k1]), if_neg k2, if_neg het] at hR
              obtain ⟨j, hj⟩ : ∃ j : Nat, a1 = j := ⟨a1.toNat, by omega⟩
              have hjl : j < d.nodes.length := by omega
              have hjn : d.nodes[j]? = some d.nodes[j] := List.getElem?_eq_getElem hjl
              generalize d.nodes[j] = nd at hjn
              have hnd : d.nd a1 = nd := by simp [Dk.nd, hj, hjn]
              refine (do_run (h.fr0 f09) ⟨4, a1, e0, 0, a2, t2', 0⟩ hjn hj ⟨fun h => by simp at h, fun h => by simp at h⟩ hpl).mono ?_
              rintro _ wz ⟨rfl, hz⟩
              rw [hnd, show a1.toNat = j by omega] at hR
              exact (hQ _ _).2 ⟨by rw [hR], by rw [hR]; exact hz.pre f09⟩
            obtain ⟨i0, hi0⟩ : ∃ i : Nat, node = i := ⟨node.toNat, by omega⟩
            have hi0l : i0 < d.nodes.length := by omega
            have hin : d.nodes[i0]? = some d.nodes[i0] := List.getElem?_eq_getElem hi0l
            generalize d.nodes[i0] = ni at hin
            obtain ⟨b0, o, ll, i1, t4, i2, q0, _, _, _⟩ := h9.setNode hin
            have i1' : idxA 3 v.nv (.int .i64 node) = some (.pointer (some ⟨b0, o, none⟩)) := by rw [hi0]; exact i1
            by_cases k3 : tnode < 0
            · have het : et = 0 := Classical.byContradiction fun hn => by
                have := herr hn
                simp only [Prod.mk.injEq] at this
                omega
              have k3' : ¬ 0 ≤ tnode := by omega
              simp [-ldA_ptr, hz79, hz9, k3']
              rw [build_move]
              simp only [Run_bindO_some, Run_bind, Run_ret]
              exact fin (fun h => k3' h.1)
            have k3' : 0 ≤ tnode := by omega
            obtain ⟨j0, hj0⟩ : ∃ i : Nat, tnode = i := ⟨tnode.toNat, by omega⟩
            have hj0l : j0 < d.nodes.length := by omega
            have hjn0 : d.nodes[j0]? = some d.nodes[j0] := List.getElem?_eq_getElem hj0l
            generalize hnj : d.nodes[j0] = nj at hjn0
            obtain ⟨b1, o1, ll1, j1, t41, j2, q1, _, _, _⟩ := h9.setNode hjn0
            have j1' : idxA 3 v.nv (.int .i64 tnode) = some (.pointer (some ⟨b1, o1, none⟩)) := by rw [hj0]; exact j1
            have hni : d.nd node = ni := by simp [Dk.nd, hi0, hin]
            have hnj' : d.nd tnode = nj := by simp [Dk.nd, hj0, hjn0]
            have bad : ((t1', t2') = (a1, a2) ∨ (d.nd node).kind ≠ 2 ∨ (d.nd tnode).kind ≠ 2) → R = (13, d) := fun hb => by rw [hR]; unfold renW; simp only; rw [if_neg (by simp [k1]), if_neg k2, if_pos ⟨k3', hb⟩]
            by_cases ks : t1' = a1 ∧ t2' = a2
            · simp [-ldA_ptr, hz79, hz9, k3', hl7, hl9, ba_eq, ks.1, ks.2]
              exact qs _ _ (bad (.inl (by rw [ks.1, ks.2]))) (same _ f09)
            have ks' : (decide (t1' = a1) && decide (t2' = a2)) = false := by simpa using ks
            by_cases k4 : ni.kind = 2
            · by_cases k5 : nj.kind = 2
              · simp [-ldA_ptr, hz79, hz9, k3', hl7, hl9, ba_eq, ks', hb9, Dk.cells, i1', i2, q0, j1', j2, q1, k4, k5]
                rw [build_move]
                simp only [Run_bindO_some, Run_bind, Run_ret]
                exact fin (fun h => h.2.elim (fun h => ks (by simpa using h)) fun h => h.elim (fun h => h (by rw [hni]; exact k4)) fun h => h (by rw [hnj']; exact k5))
              · simp [-ldA_ptr, hz79, hz9, k3', hl7, hl9, ba_eq, ks', hb9, Dk.cells, i1', i2, q0, j1', j2, q1, k4, k5]
                exact qs _ _ (bad (.inr (.inr (by rw [hnj']; exact k5)))) (same _ f09)
            · simp [-ldA_ptr, hz79, hz9, k3', hl7, hl9, ba_eq, ks', hb9, Dk.cells, i1', i2, q0, j1', j2, q1, k4]
              exact qs _ _ (bad (.inr (.inl (by rw [hni]; exact k4)))) (same _ f09)
          · simp [-ldA_ptr, k1]
            exact qs _ _ (by rw [hR]; unfold renW; rw [if_pos k1]) (same _ f07)
        · have hle' : ¬ ((a.length : Nat) : Int) = c.length := by omega
          simp [-ldA_ptr, ba_eq, hpe, l1, l2, hle, hle']
          exact qs _ _ (by rw [hR, if_pos (.inr hle)]) (same _ f05)
      · simp [-ldA_ptr, ba_eq, hpe]
        exact qs _ _ (by rw [hR, if_pos (.inl hpe)]) (same _ f05)
end
end Go.Proofs.YtojnickeblbgoaaGreatDoor

/-
  Layer 1 (disk), part Gen D: each call keeps what every disk keeps to.
-/
namespace Go.Proofs.YtojnickeblbgoaaGreatDoor
open Go.Lift
set_option linter.unusedSimpArgs false
set_option linter.unusedVariables false
set_option maxHeartbeats 4000000

theorem parse_ok {s : ByteArray} {names : List ByteArray} (h : parseF s = some names) : ∀ x ∈ names, nameF x = true := by
  unfold parseF at h
  split at h
  · cases h; intro x hx; cases hx
  · split at h
    · cases h
    · split at h
      · rename_i ha
        cases h
        exact List.all_eq_true.1 ha
      · cases h
theorem name_no {x : ByteArray} (h : nameF x = true) : (47 : UInt8) ∉ x.data.toList ∧ x.data.toList ≠ [] := by
  simp only [nameF, Bool.and_eq_true, List.all_eq_true, Bool.not_eq_true', decide_eq_false_iff_not] at h
  refine ⟨fun hm => ?_, fun hn => h.1.1.1.1 (ba_ext (by rw [hn]; rfl))⟩
  have := h.2 _ hm
  exact absurd this (by decide)
theorem cut_inj : ∀ {x y r s : List UInt8}, (47 : UInt8) ∉ x → (47 : UInt8) ∉ y → x ++ 47 :: r = y ++ 47 :: s → x = y ∧ r = s
  | [], [], r, s, _, _, h => ⟨rfl, by simpa using h⟩
  | [], b :: y, r, s, _, hy, h => by
    simp only [List.nil_append, List.cons_append, List.cons.injEq] at h
    exact absurd (by simp [← h.1]) hy
  | a :: x, [], r, s, hx, _, h => by
    simp only [List.nil_append, List.cons_append, List.cons.injEq] at h
    exact absurd (by simp [h.1]) hx
  | a :: x, b :: y, r, s, hx, hy, h => by
    simp only [List.cons_append, List.cons.injEq] at h
    obtain ⟨e1, e2⟩ := cut_inj (fun hm => hx (by simp [hm])) (fun hm => hy (by simp [hm])) h.2
    exact ⟨by rw [h.1, e1], e2⟩
theorem jl_inj : ∀ {l l' : List (List UInt8)}, (∀ x ∈ l, (47 : UInt8) ∉ x ∧ x ≠ []) → (∀ x ∈ l', (47 : UInt8) ∉ x ∧ x ≠ []) → jl l = jl l' → l = l'
  | [], [], _, _, _ => rfl
  | [], [y], _, hy, h => by simp [jl] at h; exact absurd h (hy y (by simp)).2
  | [], y :: z :: r, _, hy, h => by simp [jl] at h
  | [x], [], hx, _, h => by simp [jl] at h; exact absurd h (hx x (by simp)).2
  | x :: z :: r, [], _, _, h => by simp [jl] at h
  | [x], [y], _, _, h => by simp [jl] at h; rw [h]
  | [x], y :: z :: r, hx, _, h => by
    rw [jl_cons (x := y) (by simp)] at h
    simp [jl] at h
    exact absurd (by rw [h]; simp) (hx x (by simp)).1
  | x :: z :: r, [y], _, hy, h => by
    rw [jl_cons (x := x) (by simp)] at h
    simp [jl] at h
    exact absurd (by rw [← h]; simp) (hy y (by simp)).1
  | x :: z :: r, y :: z' :: r', hx, hy, h => by
    rw [jl_cons (x := x) (by simp), jl_cons (x := y) (by simp)] at h
    simp only [List.append_assoc, List.singleton_append] at h
    obtain ⟨e1, e2⟩ := cut_inj (hx x (by simp)).1 (hy y (by simp)).1 h
    have e3 := jl_inj (l := z :: r) (l' := z' :: r') (fun a ha => hx a (List.mem_cons_of_mem _ ha)) (fun a ha => hy a (List.mem_cons_of_mem _ ha)) e2
    rw [e1, e3]
theorem join_jl : ∀ (l : List ByteArray), joinL l slash = jl (l.map (·.data.toList))
  | [] => rfl
  | x :: r => by
    simp only [joinL, jl, List.map_cons, List.map_map]
    rfl
theorem path_inj {l l' : List ByteArray} (h : ∀ x ∈ l, nameF x = true) (h' : ∀ x ∈ l', nameF x = true) (he : pathF l = pathF l') : l = l' := by
  have e : joinL l slash = joinL l' slash := by
    have := congrArg (fun b : ByteArray => b.data.toList) he
    simpa [pathF] using this
  rw [join_jl, join_jl] at e
  have := jl_inj (fun x hx => by obtain ⟨y, hy, rfl⟩ := List.mem_map.1 hx; exact name_no (h y hy)) (fun x hx => by obtain ⟨y, hy, rfl⟩ := List.mem_map.1 hx; exact name_no (h' y hy)) e
  have key : ∀ {l l' : List ByteArray}, l.map (·.data.toList) = l'.map (·.data.toList) → l = l' := by
    intro l
    induction l with
    | nil => intro l' h; cases l' with
      | nil => rfl
      | cons y r => simp at h
    | cons x r ih => intro l' h; cases l' with
      | nil => simp at h
      | cons y r' =>
        simp only [List.map_cons, List.cons.injEq] at h
        rw [ba_ext h.1, ih h.2]
  exact key this
theorem rt_fun {m : Slt → Option Int} {D D' : Int} {pre : List ByteArray} (h : Rt m D pre) (h' : Rt m D' pre) : D = D' := by
  induction h generalizing D' with
  | root =>
    generalize hp : ([] : List ByteArray) = pre at h'
    cases h' with
    | root => rfl
    | step _ _ => simp at hp
  | step hr hk ih =>
    rename_i n pre
    generalize hp : pre ++ [n] = pp at h'
    cases h' with
    | root => simp at hp
    | step hr' hk' =>
      obtain ⟨e1, e2⟩ := List.append_inj' hp rfl
      subst e1
      have := ih hr'
      subst this
      simp only [List.cons.injEq, and_true] at e2
      subst e2
      rw [hk] at hk'
      exact Option.some.inj hk'
section
variable {A M n : Nat} {dep : Int → Nat} {kd : Int → Prop} {d d' : Dk} {m : Slt → Option Int}
theorem rt_dep (h : Ents n kd dep m) (h0 : dep 0 = 0) {D : Int} {pre : List ByteArray} (hr : Rt m D pre) : dep D = pre.length := by
  induction hr with
  | root => exact h0
  | step hr hk ih =>
    have := (h.dpt _ _ hk).1
    simp only at this
    rw [this, ih]; simp
theorem rt_up {D : Int} {pre : List ByteArray} (hr : Rt m D pre) : D = 0 ∨ ∃ t, m t = some D := by
  cases hr with
  | root => exact .inl rfl
  | step hr hk => exact .inr ⟨_, hk⟩
theorem GI.con (h : GI A M dep d) : ∀ (n : Nat) (s : Slt) (k : Int), dep k ≤ n → d.seen s = some k → ∃ pre, Rt d.seen s.1 pre := by
  intro n
  induction n with
  | zero => intro s k hn hs; have := (h.pseen.dpt s k hs).1; omega
  | succ n ih =>
    intro s k hn hs
    rcases h.up s k hs with h0 | ⟨t, ht⟩
    · rw [h0]; exact ⟨[], .root⟩
    · have h1 := (h.pseen.dpt s k hs).1
      obtain ⟨pre, hr⟩ := ih t s.1 (by omega) ht
      exact ⟨pre ++ [t.2], .step hr ht⟩
theorem GI.rt (h : GI A M dep d) {s : Slt} {k : Int} (hs : d.seen s = some k) : ∃ pre, Rt d.seen s.1 pre ∧ Rt d.seen k (pre ++ [s.2]) := by
  obtain ⟨pre, hr⟩ := h.con _ s k (Nat.le_refl _) hs
  exact ⟨pre, hr, .step hr hs⟩
/-- A path that leads to a directory's place. -/
structure Place (d : Dk) (names : List ByteArray) : Prop where
  ex : ∃ D pre last, names = pre ++ [last] ∧ Rt d.seen D pre ∧ d.walkF names = (0, (D, last), (d.seen (D, last)).getD (-1)) ∧ 0 ≤ D ∧ D < d.nodes.length ∧ d.isD D
theorem walkGo_kind {d : Dk} : ∀ (names : List ByteArray) (a : Slt) (node : Int), (d.walkGo a node names).1 = 0 → names ≠ [] → d.isD (d.walkGo a node names).2.1.1
  | [], a, node, _, h => absurd rfl h
  | x :: rest, a, node, h, _ => by
    unfold Dk.walkGo at h ⊢
    by_cases h1 : node < 0
    · rw [if_pos h1] at h; cases h
    rw [if_neg h1] at h ⊢
    by_cases h2 : (d.nd node).kind ≠ 1
    · rw [if_pos h2] at h; cases h
    rw [if_neg h2] at h ⊢
    by_cases h3 : (d.seen (node, x)).getD (-1) < 0 ∧ rest ≠ []
    · rw [if_pos h3] at h; cases h
    rw [if_neg h3] at h ⊢
    by_cases hre : rest = []
    · subst hre
      have : (d.nd node).kind = 1 := Classical.byContradiction h2
      exact this
    · exact walkGo_kind rest _ _ h hre
theorem GI.place (h : GI A M dep d) {names : List ByteArray} (hn : names ≠ []) (hw : (d.walkF names).1 = 0) : Place d names := by
  obtain ⟨D, pre, last, e1, e2, e3, e4⟩ := walk_res hw hn
  obtain ⟨q1, q2⟩ := walk_dir h.good hn hw
  have hk := walkGo_kind names (-1, e0) 0 hw hn
  have e5 : d.walkF names = ((d.walkF names).1, (d.walkF names).2.1, (d.walkF names).2.2) := rfl
  rw [hw, e3, e4] at e5
  rw [e3] at q1 q2
  have hk' : d.isD (d.walkF names).2.1.1 := hk
  rw [e3] at hk'
  exact ⟨D, pre, last, e1, e2, e5, q1, q2, hk'⟩
theorem gi_create (h : GI A M dep d) (p : ByteArray) {kind : Int} (hk : kind = 1 ∨ kind = 2) : ∃ dep', GI A (M + 2) dep' (createF d p kind).2 := by
  have same : GI A (M + 2) dep d := h.more (Nat.le_refl _) (by omega)
  unfold createF
  split
  · exact ⟨dep, same⟩
  split
  · exact ⟨dep, same⟩
  rename_i names hpn
  split
  · exact ⟨dep, same⟩
  rename_i hw
  have hw0 : (d.walkF names).1 = 0 := by simpa using hw
  split
  · exact ⟨dep, same⟩
  rename_i hneg
  have hn : names ≠ [] := fun he => by rw [he] at hneg; exact hneg (show (0 : Int) ≤ 0 by omega)
  obtain ⟨D, pre, last, e1, e2, e3, q1, q2, hkD⟩ := (h.place hn hw0).ex
  rw [e3] at hneg ⊢
  simp only at hneg ⊢
  have hno : d.seen (D, last) = none := by
    cases hs : d.seen (D, last) with
    | none => rfl
    | some k =>
      rw [hs] at hneg
      have := h.pseen.rng _ _ hs
      exact absurd (show (0 : Int) ≤ k by omega) hneg
  have hlast : nameF last = true := parse_ok hpn last (by rw [e1]; simp)
  have hdD := rt_dep h.pseen h.dep0 e2
  have hlen := (parse_small hpn).2
  have hpl : pre.length + 1 ≤ 8 := by rw [e1] at hlen; simpa using hlen
  refine ⟨depN dep d.nodes.length (pre.length + 1), ?_⟩
  have hN := h.addNode hk (pre.length + 1)
  have hnl : (d.addNode kind).nodes.length = d.nodes.length + 1 := by show (d.nodes ++ [_]).length = _; simp
  have hi : (d.addNode kind).nodes[D.toNat]? = some (d.nd D) := by
    show (d.nodes ++ [_])[D.toNat]? = _
    rw [List.getElem?_append_left (by omega)]
    exact nd_at d q1 q2
  have hpos : 0 < d.nodes.length := h.pos
  have hd1 : depN dep d.nodes.length (pre.length + 1) D = pre.length := by unfold depN; rw [if_neg (by omega)]; exact hdD
  have hd2 : depN dep d.nodes.length (pre.length + 1) (d.nodes.length : Int) = pre.length + 1 := by unfold depN; rw [if_pos rfl]
  have t := hN.do' (c := ⟨2, D, e0, 0, last, e0, d.nodes.length⟩) (i := D.toNat) hi (show D = _ by omega) ⟨by rw [hnl]; simp only; omega, by simp, fun _ => ⟨by unfold Dk.isD; rw [nd_add d kind q1 q2]; exact hkD, hlast⟩, fun hc => by simp at hc, fun _ => by rw [hnl]; simp only; rw [hd1, hd2]; omega⟩
    (fun hc => by simp at hc) (fun _ => ⟨fun s hks => ?_, fun x hx hx2 => ?_, fun t nd' ht hnd' => ?_⟩) (fun hc => by rcases hc with hc | hc <;> simp at hc) ?_ ⟨fun hc => by simp at hc, fun hc => by simp at hc⟩
  · have e : A + (Chg.mk 2 D e0 0 last e0 d.nodes.length).data.size = A := rfl
    rw [e] at t
    exact t
  · have := (h.ents.rng s _ hks).2
    simp only at this; omega
  · have := (h.sc x hx).tgt hx2
    simp only; omega
  · have ht' : t = d.nodes.length := by simp only at ht; omega
    subst ht'
    have hnd : nd' = ⟨kind, e0, e0⟩ := by
      have : (d.nodes ++ [(⟨kind, e0, e0⟩ : Nd)])[d.nodes.length]? = some nd' := hnd'
      simpa using this.symm
    subst hnd
    exact (bfold_none (j := ((d.nodes.length : Nat) : Int)) (L := d.pending) (fun c hc hcj => by
      have := (h.sc c hc).node
      omega) e0).1
  · intro s k hs
    have e : entG (d.addNode kind).seen ⟨2, D, e0, 0, last, e0, d.nodes.length⟩ = fput d.seen (D, last) d.nodes.length := by rw [entG_cases]; rfl
    rw [e] at hs ⊢
    have keep : ∀ p : Int, (p = 0 ∨ ∃ t, d.seen t = some p) → p = 0 ∨ ∃ t, fput d.seen (D, last) d.nodes.length t = some p := fun p hp => hp.imp id fun ⟨t, ht⟩ => ⟨t, by
      simp only [fput]
      rw [if_neg (fun he => by rw [he, hno] at ht; cases ht)]
      exact ht⟩
    simp only [fput] at hs
    split at hs
    · rename_i he
      rw [he]
      exact keep _ (rt_up e2)
    · exact keep _ (h.up s k hs)
theorem gi_byte (h : GI A M dep d) {p : ByteArray} (hf : (d.findF p 2).1 = 0) {c : Chg} (hn : c.node = (d.findF p 2).2.2) (hw : c.what = 0 ∨ c.what = 1) (hfit : c.fits (d.nd (d.findF p 2).2.2).seen) :
    GI (A + c.data.size) (M + 1) dep (doF d c (d.findF p 2).2.2.toNat (d.nd (d.findF p 2).2.2)).2 := by
  have hlt := find_lt h.good p 2
  obtain ⟨names, hpn, hw0, he, hge, hkind⟩ := find_res hf
  rw [he] at hn hfit hlt ⊢
  have hne : names ≠ [] := fun hnil => by
    have hk := hkind (by decide)
    rw [hnil] at hk
    have e : (d.walkF []).2.2 = 0 := rfl
    rw [e, h.k0] at hk
    exact absurd hk (by decide)
  obtain ⟨D, pre, last, e1, e2, e3, q1, q2, hkD⟩ := (h.place hne hw0).ex
  have hs : ∃ s, d.seen s = some (d.walkF names).2.2 := by
    rw [e3] at hge ⊢
    simp only at hge ⊢
    cases hs : d.seen (D, last) with
    | none => rw [hs] at hge; exact absurd hge (by decide)
    | some k => exact ⟨_, by rw [hs]; rfl⟩
  have hi := nd_at d hge hlt
  have nw : c.what ≠ 2 ∧ c.what ≠ 3 ∧ c.what ≠ 4 := by rcases hw with hw | hw <;> rw [hw] <;> decide
  have hent : entG d.seen c = d.seen := by rw [entG_cases, if_neg nw.1, if_neg nw.2.1, if_neg nw.2.2]
  refine h.do' (c := c) (i := (d.walkF names).2.2.toNat) hi (by rw [hn]; omega) ⟨by rw [hn]; omega, by omega, fun hc => ?_, fun hc => absurd hc nw.2.2, fun hc => absurd hc nw.1⟩ (fun hc => absurd hc nw.2.2) (fun hc => absurd hc nw.1) (fun _ => ?_) (by rw [hent]; exact h.up) hfit
  · rcases hc with hc | hc | hc
    · exact absurd hc nw.1
    · exact absurd hc nw.2.1
    · exact absurd hc nw.2.2
  · obtain ⟨s, hs⟩ := hs
    exact ⟨s, by rw [hs]; congr 1; omega⟩
theorem gi_remove (h : GI A M dep d) (p : ByteArray) : GI A (M + 1) dep (removeX d p).2 := by
  have same : GI A (M + 1) dep d := h.more (Nat.le_refl _) (by omega)
  unfold removeX
  split
  · exact same
  rename_i h1
  split
  · exact same
  rename_i h2
  have hf : (d.findF p 0).1 = 0 := by simpa using h2
  have h0 : p ≠ E0 := fun he => h1 ⟨he, .inl hf⟩
  split
  · exact same
  rename_i hfull
  unfold removeF
  rw [if_neg (by simp [hf])]
  obtain ⟨names, hpn, hw0, he, hge, _⟩ := find_res hf
  rw [he] at hfull ⊢
  have hne : names ≠ [] := fun hnil => h0 (parse_nil (hnil ▸ hpn))
  obtain ⟨D, pre, last, e1, e2, e3, q1, q2, hkD⟩ := (h.place hne hw0).ex
  rw [e3] at hge hfull ⊢
  simp only at hge hfull ⊢
  obtain ⟨k, hk⟩ : ∃ k, d.seen (D, last) = some k := by
    cases hs : d.seen (D, last) with
    | none => rw [hs] at hge; exact absurd hge (by decide)
    | some k => exact ⟨k, rfl⟩
  rw [hk] at hfull
  simp only [Option.getD_some] at hfull
  have t := h.do' (c := ⟨3, D, e0, 0, last, e0, 0⟩) (i := D.toNat) (nd_at d q1 q2) (show D = _ by omega) ⟨⟨q1, q2⟩, by simp, fun _ => ⟨hkD, parse_ok hpn last (by rw [e1]; simp)⟩, fun hc => by simp at hc, fun hc => by simp at hc⟩
    (fun hc => by simp at hc) (fun hc => by simp at hc) (fun hc => by rcases hc with hc | hc <;> simp at hc) ?_ ⟨fun hc => by simp at hc, fun hc => by simp at hc⟩
  · have e : A + (Chg.mk 3 D e0 0 last e0 0).data.size = A := rfl
    rw [e] at t
    exact t
  · intro s x hs
    have e : entG d.seen ⟨3, D, e0, 0, last, e0, 0⟩ = fdel d.seen (D, last) := by rw [entG_cases]; rfl
    rw [e] at hs ⊢
    obtain ⟨s1, s2⟩ := fdel_some hs
    rcases h.up s x s2 with h0 | ⟨t, ht⟩
    · exact .inl h0
    · right
      refine ⟨t, ?_⟩
      simp only [fdel]
      rw [if_neg]
      · exact ht
      · intro hte
        rw [hte, hk] at ht
        cases ht
        exact hfull ⟨s.2, x, s2⟩
theorem gi_rename (h : GI A M dep d) (p q : ByteArray) : GI A (M + 1) dep (renameX d p q).2 := by
  have same : GI A (M + 1) dep d := h.more (Nat.le_refl _) (by omega)
  unfold renameX
  split
  · exact same
  split
  · rename_i a c hpa hqc
    split
    · exact same
    rename_i hE
    split
    · exact same
    rename_i hP
    have hna : a ≠ [] := fun hnil => hE (.inl (parse_nil (hnil ▸ hpa)))
    have hnc : c ≠ [] := fun hnil => hE (.inr (parse_nil (hnil ▸ hqc)))
    unfold renW
    split
    · exact same
    rename_i hw
    have hw0 : (d.walkF a).1 = 0 := by simpa using hw
    split
    · exact same
    rename_i hge
    split
    · exact same
    rename_i hbad
    obtain ⟨D, pre, last, e1, e2, e3, q1, q2, hkD⟩ := (h.place hna hw0).ex
    have hwc : (d.walkF c).1 = 0 := Classical.byContradiction fun hn => by
      have := walk_err c hn
      rw [this] at hbad
      exact hbad ⟨Int.le_refl _, .inr (.inr (by rw [h.k0]; decide))⟩
    obtain ⟨D', pre', last', f1, f2, f3, r1, r2, hkD'⟩ := (h.place hnc hwc).ex
    rw [e3] at hge hbad ⊢
    rw [f3] at hbad ⊢
    simp only at hge hbad ⊢
    obtain ⟨k, hk⟩ : ∃ k, d.seen (D, last) = some k := by
      cases hs : d.seen (D, last) with
      | none => rw [hs] at hge; exact absurd (show (-1 : Int) < 0 by decide) hge
      | some k => exact ⟨k, rfl⟩
    have hlast' : nameF last' = true := parse_ok hqc last' (by rw [f1]; simp)
    have hDD : D' = D := by
      have hlen : a.length = c.length := Classical.byContradiction fun hn => hP (.inr hn)
      have hpath : pathF (a.take (a.length - 1)) = pathF (c.take (c.length - 1)) := Classical.byContradiction fun hn => hP (.inl hn)
      rw [e1, f1] at hpath
      simp only [List.length_append, List.length_cons, List.length_nil, Nat.zero_add, Nat.add_sub_cancel, List.take_left] at hpath
      have hpp : pre = pre' := path_inj (fun x hx => parse_ok hpa x (by rw [e1]; simp [hx])) (fun x hx => parse_ok hqc x (by rw [f1]; simp [hx])) hpath
      subst hpp
      exact rt_fun f2 e2
    subst hDD
    have t := h.do' (c := ⟨4, D', e0, 0, last, last', 0⟩) (i := D'.toNat) (nd_at d q1 q2) (show D' = _ by omega) ⟨⟨q1, q2⟩, by simp, fun _ => ⟨hkD, parse_ok hpa last (by rw [e1]; simp)⟩, fun _ => hlast', fun hc => by simp at hc⟩
      (fun _ => by show d.seen (D', last) ≠ none; rw [hk]; simp) (fun hc => by simp at hc) (fun hc => by rcases hc with hc | hc <;> simp at hc) ?_ ⟨fun hc => by simp at hc, fun hc => by simp at hc⟩
    · have e : A + (Chg.mk 4 D' e0 0 last last' 0).data.size = A := rfl
      rw [e] at t
      exact t
    · intro s x hs
      have e : entG d.seen ⟨4, D', e0, 0, last, last', 0⟩ = fput (fdel d.seen (D', last)) (D', last') k := by rw [entG_cases]; simp [hk]
      rw [e] at hs ⊢
      have dk := (h.pseen.dpt _ _ hk).1
      simp only at dk
      have keep : ∀ p : Int, (p = 0 ∨ ∃ t, d.seen t = some p) → (d.seen (D', last') = some p → False) → p = 0 ∨ ∃ t, fput (fdel d.seen (D', last)) (D', last') k t = some p := fun p hp hno => by
        rcases hp with h0 | ⟨t, ht⟩
        · exact .inl h0
        · right
          by_cases h1 : t = (D', last)
          · rw [h1, hk] at ht
            cases ht
            exact ⟨(D', last'), by simp [fput]⟩
          · refine ⟨t, ?_⟩
            simp only [fput, fdel]
            rw [if_neg (fun he => hno (by rw [← he]; exact ht)), if_neg h1]
            exact ht
      simp only [fput] at hs
      split at hs
      · rename_i he
        rw [he]
        refine keep _ (rt_up e2) fun hx => ?_
        have := (h.pseen.dpt _ _ hx).1
        simp only at this
        omega
      · obtain ⟨s1, s2⟩ := fdel_some hs
        refine keep _ (h.up s x s2) fun hx => ?_
        have hd := (h.pseen.dir s x s2).2.2
        refine hbad ⟨?_, .inr (.inr ?_)⟩
        · rw [hx]
          have := h.pseen.rng _ _ hx
          simp only [Option.getD_some]; omega
        · rw [hx]
          show (d.nd s.1).kind ≠ 2
          have : (d.nd s.1).kind = 1 := hd
          rw [this]; decide
  · exact same
theorem gi_sync (h : GI A M dep d) (p : ByteArray) (kind : Int) : GI A M dep (syncF d p kind).2 := by
  unfold syncF
  split
  · exact h
  rename_i hf
  have hf0 : (d.findF p kind).1 = 0 := by simpa using hf
  have hlt := find_lt h.good p kind
  obtain ⟨names, hpn, hw0, he, hge, _⟩ := find_res hf0
  rw [he] at hlt ⊢
  exact h.settle (nd_at d hge hlt)
end
end Go.Proofs.YtojnickeblbgoaaGreatDoor

/-
  Layer 1 (disk), part Gen P: New; calls that are others' calls.
-/
namespace Go.Proofs.YtojnickeblbgoaaGreatDoor
open Go.Lift
set_option linter.unusedSimpArgs false
set_option linter.unusedVariables false
set_option maxHeartbeats 4000000

section
variable {w w' w'' : World} {b : Nat} {d d' : Dk} {v : DV} {tag : Nat → Nat} {A B : Nat} {dep : Int → Nat}
theorem new2_run {w : World} {cap : Int} (hc0 : 0 ≤ cap) (hc1 : cap ≤ 1073741824) (hm : ∃ m : Int, bk w 0 = some [.int .i64 m]) :
    Run (F.disk_New (.int .i64 cap)) w fun r w' => ∃ b, r = .tuple #[Ptr b, .int .i64 0] ∧ ∃ v tag, DA w' b (newD cap) v tag ∧ (∀ c, tag c ≠ 0 → w.heap.size ≤ c) ∧ Fr (fun _ => False) w w' := by
  unfold F.disk_New
  have hn0 : ¬ cap < 0 := by omega
  have hn1 : ¬ (1073741824 : Int) < cap := by omega
  simp [-ldA_ptr, build_node, hn0, hn1]
  refine Run_bsl (k := 3) (n := 1) (vs := [.agg #[.int .i64 1, .string ByteArray.empty, .string ByteArray.empty]]) rfl (by simp) rfl (by simp [size_zeroCells]) fun r w1 hr f1 hrn => ?_
  have s1 := f1.size
  refine Run_mkmM (kv := slv) (vv := idv) fun w2 b2 hm2 f2 hb2 => ?_
  refine Run_mkmM (kv := slv) (vv := idv) fun w3 b3 hm3 f3 hb3 => ?_
  have l2 := hm2.lt
  have l3 := hm3.lt
  have s2 := f2.size
  have s3 := f3.size
  have hr2 : SlW 3 w3 r ((newD cap).nodes.map Nd.cells) := (hr.fr f2 fun _ _ h => h).fr f3 fun _ _ h => h
  have e : buildV #[.int .i64 0, .int .i64 0, .int .i64 0, .bool false, .int .i64 0, .bool false, .slice none 0 0, .map none, .map none, .slice none 0 0]
      [(0, 1, .int .i64 cap), (6, 1, r), (7, 1, .map (some b2)), (8, 1, .map (some b3))] = some (.agg ((newD cap).cells ⟨r, .slice none 0 0, b2, b3, [], []⟩).toArray) := by
    obtain ⟨_, a, c, rfl, _⟩ := hr2.1
    simp [buildV, fillV, Dk.cells, newD]
  rw [e]
  simp only [Run_bindO_some, Run_bind]
  refine Run_new fun b w4 hb hw f4 hble => ?_
  have f04 : Fr (fun _ => False) w w4 := ((f1.trans f2 fun _ _ => id).trans f3 fun _ _ => id).trans f4 fun _ _ => id
  have s4 := f4.size
  have hbl := bk_lt hb
  obtain ⟨m, hm0⟩ := hm
  have hz := bk_lt hm0
  have hr4 := hr2.fr f4 fun _ _ h => h
  simp only [Run_ret]
  obtain ⟨tag, htag⟩ : ∃ tag : Nat → Nat, tag = fun c => if c = b then 1 else if c = b2 then 2 else if c = b3 then 3 else if c = w.heap.size ∧ c < w1.heap.size then 4 else 0 := ⟨_, rfl⟩
  have t1 : tag b = 1 := by rw [htag]; simp
  have t2 : tag b2 = 2 := by rw [htag]; simp only; rw [if_neg (by omega), if_pos trivial]
  have t3 : tag b3 = 3 := by rw [htag]; simp only; rw [if_neg (by omega), if_neg (by omega), if_pos trivial]
  have t4 : ∀ c, inB r c → tag c = 4 := fun c hc => by
    have := hrn c hc
    rw [htag]; simp only; rw [if_neg (by omega), if_neg (by omega), if_neg (by omega), if_pos this]
  have tle : ∀ c, tag c ≠ 0 → w.heap.size ≤ c ∧ c < w4.heap.size := fun c hc => by
    rw [htag] at hc
    simp only at hc
    split at hc
    · omega
    · split at hc
      · omega
      · split at hc
        · omega
        · split at hc
          · omega
          · exact absurd rfl hc
  have t0 : tag 0 = 0 := Classical.byContradiction fun h => by have := tle 0 h; omega
  exact ⟨b, rfl, ⟨r, .slice none 0 0, b2, b3, [], []⟩, tag, ⟨hb, hw, hr4, (hm2.fr f3 id).fr f4 id, fun _ => rfl, hm3.fr f4 id, fun _ => rfl, SlW.nil _ _, t1, t2, t3, t4, fun c hc => hc.elim, t0, ⟨m, f04.bk_some hm0 id⟩, fun c hc => (tle c hc).2⟩, fun c hc => (tle c hc).1, f04⟩

theorem new_bad {cap : Int} (h : ¬ (0 ≤ cap ∧ cap ≤ 1073741824)) : Run (F.disk_New (.int .i64 cap)) w fun r w' => r = .tuple #[.pointer none, .int .i64 1] ∧ w' = w := by
  unfold F.disk_New
  by_cases h0 : cap < 0
  · simp [h0]
  · have h1 : (1073741824 : Int) < cap := by omega
    simp [h0, h1]
theorem newD_gi (cap : Int) : GI 0 1 (fun _ => 0) (newD cap) := by
  have hk : ∀ nd, nd ∈ (newD cap).nodes → nd = ⟨1, e0, e0⟩ := fun nd h => by simpa [newD] using h
  refine ⟨⟨_, rfl, rfl⟩, fun nd h => .inl (by rw [hk nd h]), Ents.empty, fun c hc => by simp [newD] at hc, fun L1 c L2 e => by simp [newD] at e, ⟨fun c hc => by simp [newD] at hc, List.Pairwise.nil⟩, rfl, fun j nd hj => ?_, fun s k hs => by simp [newD] at hs, rfl, Nat.le_refl _, Nat.zero_le _⟩
  have := hk nd (List.mem_of_getElem? hj)
  subst this
  exact ⟨trivial, fun _ => rfl, Nat.le_refl _, Nat.le_refl _⟩
theorem mkdirG (a p : Value) {Q : Value → World → Prop} : Run (F.disk_Disk_Mkdir a p) w Q ↔ Run (F.disk_Disk_add a p (.int .i64 1)) w Q := by
  unfold F.disk_Disk_Mkdir
  simp only [Run_bind, Run_ret]
theorem createG (a p : Value) {Q : Value → World → Prop} : Run (F.disk_Disk_Create a p) w Q ↔ Run (F.disk_Disk_add a p (.int .i64 2)) w Q := by
  unfold F.disk_Disk_Create
  simp only [Run_bind, Run_ret]
end
end Go.Proofs.YtojnickeblbgoaaGreatDoor

/-
  Layer 1 (disk), part Gen O: the calls of a script, as they are read; a disk in memory of its own.
-/
namespace Go.Proofs.YtojnickeblbgoaaGreatDoor
open Go.Lift
set_option linter.unusedSimpArgs false
set_option linter.unusedVariables false
set_option maxHeartbeats 4000000

/-- A slice of such elements, with their bulks. -/
theorem Shs.Rd.slice2 {T : Type} {f : T → List Value} {g : T → Nat} {w : World} {e : Shs} {v : Value} {n : Nat} (h : (Shs.slice e .nil).Rd w [v] n) (hf : ∀ c k, k ≤ n → e.Rd w c k → ∃ a : T, c = f a ∧ g a ≤ k) :
    ∃ l : List T, Sl e.len w v (l.map f) ∧ (l.map g).sum ≤ n := by
  obtain ⟨v', els, cs', ns, m, h1, h2, h3, h4, h5, h6⟩ := h
  cases h1
  have key : ∀ (els : List (List Value)) (ns : List Nat), ns.length = els.length → (∀ (i : Nat) (c : List Value) (k : Nat), els[i]? = some c → ns[i]? = some k → ∃ a : T, c = f a ∧ g a ≤ k) → ∃ l : List T, els = l.map f ∧ (l.map g).sum ≤ ns.sum := by
    intro els
    induction els with
    | nil => intro ns _ _; exact ⟨[], rfl, by simp⟩
    | cons c els ih =>
      intro ns hl hn
      cases ns with
      | nil => simp at hl
      | cons k ns =>
        obtain ⟨a, ha, hk⟩ := hn 0 c k rfl rfl
        obtain ⟨l, h1, h2⟩ := ih ns (by simpa using hl) fun i c k hc hk => hn (i + 1) c k (by simpa using hc) (by simpa using hk)
        exact ⟨a :: l, by rw [ha, h1]; rfl, by simp only [List.map_cons, List.sum_cons]; omega⟩
  obtain ⟨l, rfl, hl⟩ := key els ns h3 fun i c k hc hk => by
    have := le_sum_of_mem (List.mem_of_getElem? hk)
    exact hf c k (by omega) (h4 i c k hc hk).2
  exact ⟨l, h2, by omega⟩

structure Dop where
  kind : Int
  pos : Int
  n : Int
  m : Int
  p : ByteArray
  q : ByteArray
def Dop.cells (o : Dop) : List Value := [.int .i64 o.kind, .int .i64 o.pos, .int .i64 o.n, .int .i64 o.m, .string o.p, .string o.q]
def Dop.val (o : Dop) : Value := .agg o.cells.toArray
theorem Dop.all (o : Dop) : o.cells.all isCell = true := by simp [Dop.cells]
theorem sumF_le {d : Dk} {B : Nat} (h : ∀ nd ∈ d.nodes, nd.seen.size ≤ B) (ls : List (Slt × Int)) : sumF d ls ≤ ls.length * B := by
  have hb : ∀ k : Int, (d.nd k).seen.size ≤ B := fun k => by
    unfold Dk.nd
    cases hi : d.nodes[k.toNat]? with
    | none => exact Nat.zero_le _
    | some nd => exact h nd (List.mem_of_getElem? hi)
  induction ls with
  | nil => simp [sumF]
  | cons p ls ih =>
    have := hb p.2
    simp only [sumF, List.map_cons, List.sum_cons, List.length_cons] at ih ⊢
    rw [Nat.add_mul]; omega
/-- A disk whose memory is all newer than w. -/
def AtW (w : World) (b : Nat) (w' : World) (d : Dk) : Prop := Fr (fun _ => False) w w' ∧ ∃ v tag, DA w' b d v tag ∧ ∀ c, tag c ≠ 0 → w.heap.size ≤ c
theorem AtW.go {w w1 w2 : World} {b : Nat} {d : Dk} {tag : Nat → Nat} (f : Fr (fun _ => False) w w1) (ht : ∀ c, tag c ≠ 0 → w.heap.size ≤ c) (h : DDid w1 w2 b tag d) : AtW w b w2 d := by
  obtain ⟨f2, v2, tag2, h2, t2⟩ := h
  have s := f.size
  exact ⟨f.new f2 fun c hc => ht c hc, v2, tag2, h2, fun c hc => (t2 c hc).elim (ht c) fun h => by omega⟩
theorem AtW.fr0 {w w1 w2 : World} {b : Nat} {d : Dk} (h : AtW w b w1 d) (f : Fr (fun _ => False) w1 w2) : AtW w b w2 d := by
  obtain ⟨f1, v, tag, h1, t1⟩ := h
  exact ⟨f1.trans f fun _ _ => id, v, tag, h1.fr0 f, t1⟩
def Dop.bulk (o : Dop) : Nat := o.p.size + o.q.size + 6
def qsum (l : List Dop) : Nat := (l.map fun o => o.q.size).sum
theorem qsum_le (l : List Dop) : qsum l + 6 * l.length ≤ (l.map Dop.bulk).sum := by
  induction l with
  | nil => simp [qsum]
  | cons o l ih =>
    simp only [qsum, Dop.bulk, List.map_cons, List.sum_cons, List.length_cons] at ih ⊢
    omega
theorem qsum_take (l : List Dop) (i : Nat) {o : Dop} (h : l[i]? = some o) : qsum (l.take (i + 1)) = qsum (l.take i) + o.q.size := by
  rw [List.take_add_one, h]
  simp [qsum]
theorem qsum_take_le (l : List Dop) (i : Nat) : qsum (l.take i) ≤ qsum l := by
  have : qsum l = qsum (l.take i) + qsum (l.drop i) := by
    unfold qsum
    rw [← List.sum_append, ← List.map_append, List.take_append_drop]
  omega
theorem bulk_mem {l : List Dop} {o : Dop} (h : o ∈ l) : o.bulk ≤ (l.map Dop.bulk).sum := le_sum_of_mem (List.mem_map_of_mem h)
/-- What the library's own variable (the block 0) holds: some number. -/
theorem ml_of {W : World} (h : W.ShapedOpen Tryz.prog) : ∃ m : Int, bk W 0 = some [.int .i64 m] := by
  obtain ⟨cs, hh, hs, _⟩ := h.1 0 #[.int .i64 0] 3 (of_decide_eq_true (by kernel_rfl)) (by kernel_rfl)
  obtain ⟨m, hm⟩ := cell_of_shapedOpen_int (P := Tryz.prog) (g := 0) (t := 3) (zero := #[.int .i64 0]) h (of_decide_eq_true (by kernel_rfl)) (by kernel_rfl) rfl (by kernel_rfl) (by kernel_rfl) (show Tryz.prog.underlying 3 = some (.int .i64) by kernel_rfl)
  refine ⟨m, ?_⟩
  unfold World.cell? at hm
  rw [hh] at hm
  simp at hm
  unfold bk
  rw [hh]
  have h1 : cs.size = 1 := hs
  obtain ⟨x, rfl⟩ : ∃ x, cs = #[x] := by
    obtain ⟨l⟩ := cs
    match l, h1 with
    | [x], _ => exact ⟨x, rfl⟩
  simp at hm
  rw [hm]
abbrev dopSh : Shs := .slice (.int .i64 (.int .i64 (.int .i64 (.int .i64 (.str (.str .nil)))))) .nil
theorem rd_dops {w : World} {v : Value} {n : Nat} (h : dopSh.Rd w [v] n) : ∃ ops : List Dop, Sl 6 w v (ops.map Dop.cells) ∧ (ops.map Dop.bulk).sum ≤ n := by
  refine h.slice2 (f := Dop.cells) (g := Dop.bulk) fun c k hk hc => ?_
  obtain ⟨i1, c1, m1, rfl, _, h1, i2, c2, m2, rfl, _, h2, i3, c3, m3, rfl, _, h3, i4, c4, m4, rfl, _, h4, s5, c5, m5, rfl, h5, s6, c6, m6, rfl, h6, h7⟩ := hc
  cases h7
  refine ⟨⟨i1, i2, i3, i4, s5, s6⟩, rfl, ?_⟩
  simp only [Dop.bulk]
  omega
end Go.Proofs.YtojnickeblbgoaaGreatDoor

/-
  Layer 1 (disk), part Gen J: a path that is joined is parsed back; a crash of what is all safe.
-/
namespace Go.Proofs.YtojnickeblbgoaaGreatDoor
open Go.Lift
set_option linter.unusedSimpArgs false
set_option linter.unusedVariables false
set_option maxHeartbeats 4000000

theorem jl_count : ∀ (N : List (List UInt8)), N ≠ [] → (∀ x ∈ N, (47 : UInt8) ∉ x) → (jl N).count 47 + 1 = N.length
  | [], h, _ => absurd rfl h
  | [x], _, h => by simp [jl, List.count_eq_zero_of_not_mem (h x (by simp))]
  | x :: y :: r, _, h => by
    have ih := jl_count (y :: r) (by simp) fun z hz => h z (List.mem_cons_of_mem _ hz)
    rw [jl_cons (x := x) (by simp)]
    simp only [List.count_append, List.count_eq_zero_of_not_mem (h x (by simp)), List.length_cons] at ih ⊢
    simp
    omega
theorem index_at {x s : List UInt8} (h : (47 : UInt8) ∉ x) : Lib.index (x ++ 47 :: s) [47] = x.length := by
  rw [Lib.index_one]
  have hge := Lib.indexByte_ge (x ++ 47 :: s) 47
  have hat : (x ++ 47 :: s)[x.length]? = some 47 := by simp
  obtain ⟨o, ho⟩ : ∃ o : Nat, Lib.indexByte (x ++ 47 :: s) 47 = o := by
    by_cases hn : Lib.indexByte (x ++ 47 :: s) 47 = -1
    · exact absurd hat (Lib.indexByte_none hn _)
    · exact ⟨(Lib.indexByte (x ++ 47 :: s) 47).toNat, by omega⟩
  obtain ⟨h1, h2⟩ := Lib.indexByte_some ho
  have : o = x.length := by
    rcases Nat.lt_trichotomy o x.length with hlt | he | hgt
    · rw [List.getElem?_append_left hlt] at h1
      exact absurd (List.mem_of_getElem? h1) h
    · exact he
    · exact absurd hat (h2 _ hgt)
  rw [ho, this]
theorem index_no {x : List UInt8} (h : (47 : UInt8) ∉ x) : Lib.index x [47] = -1 := by
  rw [Lib.index_one]
  have hge := Lib.indexByte_ge x 47
  refine Classical.byContradiction fun hn => ?_
  obtain ⟨h1, _⟩ := Lib.indexByte_some (o := (Lib.indexByte x 47).toNat) (show Lib.indexByte x 47 = _ by omega)
  exact h (List.mem_of_getElem? h1)
theorem split_join : ∀ (k : Nat) (N : List (List UInt8)), N ≠ [] → (∀ x ∈ N, (47 : UInt8) ∉ x) → N.length ≤ k + 1 → Lib.splitK [47] 0 k (jl N) = N
  | _, [], h, _, _ => absurd rfl h
  | 0, [x], _, h, _ => by simp [Lib.splitK, jl]
  | 0, x :: y :: r, _, _, hl => by simp at hl
  | k + 1, [x], _, h, _ => by
    unfold Lib.splitK
    rw [show jl [x] = x by simp [jl], index_no (h x (by simp))]
    rfl
  | k + 1, x :: y :: r, _, h, hl => by
    have ih := split_join k (y :: r) (by simp) (fun z hz => h z (List.mem_cons_of_mem _ hz)) (by simpa using hl)
    unfold Lib.splitK
    rw [jl_cons (x := x) (by simp)]
    have e : x ++ [47] ++ jl (y :: r) = x ++ 47 :: jl (y :: r) := by simp
    rw [e, index_at (h x (by simp))]
    have hne : ((x.length : Int) == -1) = false := by simp
    rw [hne]
    have e1 : (x.length : Int).toNat + 0 = x.length := by omega
    have e2 : (x.length : Int).toNat + ([47] : List UInt8).length = x.length + 1 := by simp
    rw [e1, e2]
    simp only [Bool.false_eq_true, if_false, List.take_left]
    have e3 : (x ++ 47 :: jl (y :: r)).drop (x.length + 1) = jl (y :: r) := by simp
    rw [e3, ih]
theorem map_inj {l l' : List ByteArray} (h : l.map (·.data.toList) = l'.map (·.data.toList)) : l = l' := by
  induction l generalizing l' with
  | nil => cases l' with
    | nil => rfl
    | cons y r => simp at h
  | cons x r ih => cases l' with
    | nil => simp at h
    | cons y r' =>
      simp only [List.map_cons, List.cons.injEq] at h
      rw [ba_ext h.1, ih h.2]
/-- A path that is joined is parsed back. -/
theorem parse_join {N : List ByteArray} (hN : N ≠ []) (h : ∀ x ∈ N, nameF x = true) (hl : N.length ≤ 8) : parseF (pathF N) = some N := by
  have hd : (pathF N).data.toList = jl (N.map (·.data.toList)) := by
    rw [← join_jl]
    simp [pathF]
  have hno : ∀ x ∈ N.map (·.data.toList), (47 : UInt8) ∉ x := fun x hx => by
    obtain ⟨y, hy, rfl⟩ := List.mem_map.1 hx
    exact (name_no (h y hy)).1
  have hNm : N.map (·.data.toList) ≠ [] := by simpa using hN
  have hc := jl_count _ hNm hno
  rw [List.length_map] at hc
  have hcb : Lib.countB (pathF N) slash = (jl (N.map (·.data.toList))).count 47 := by
    show Lib.count (pathF N).data.toList [47] = _
    rw [hd, Lib.count_one]
  have hparts : partsF (pathF N) = N := by
    apply map_inj
    unfold partsF
    rw [Lib.splitB_data, hd, hcb]
    exact split_join _ _ hNm hno (by rw [List.length_map]; omega)
  have h0 : pathF N ≠ E0 := fun he => by
    have h1 : (pathF N).data.toList = [] := by rw [he]; rfl
    rw [hd] at h1
    obtain ⟨x, r, rfl⟩ := List.exists_cons_of_ne_nil hN
    have := (name_no (h x (by simp))).2
    cases r with
    | nil => simp [jl] at h1; exact this (by simpa using h1)
    | cons y r => rw [List.map_cons, jl_cons (by simp)] at h1; simp at h1
  have h8 : ¬ 8 ≤ Lib.countByte (pathF N).data.toList 47 := by
    show ¬ 8 ≤ (pathF N).data.toList.count 47
    rw [hd]; omega
  unfold parseF
  rw [if_neg h0, if_neg h8, hparts, if_pos (List.all_eq_true.2 h)]
end Go.Proofs.YtojnickeblbgoaaGreatDoor
