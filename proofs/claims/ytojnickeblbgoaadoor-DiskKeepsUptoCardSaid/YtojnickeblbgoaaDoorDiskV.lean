/-
  Layer 1 (disk), part V: a disk begins anew (of any tree).
-/
import Derived.Test.YtojnickeblbgoaaDoorDiskM
namespace Go.Proofs.YtojnickeblbgoaaDoor
open Go.Lift
set_option linter.unusedSimpArgs false
set_option linter.unusedVariables false
set_option maxHeartbeats 8000000

/-- What is left when what is kept and can be reached begins anew. -/
structure Reached (d d' : Dk) : Prop where
  same : d'.cap = d.cap ∧ d'.acts = d.acts ∧ d'.reads = d.reads
  off : d'.armed = false ∧ d'.down = false ∧ d'.pending = []
  eq : ∀ k, d'.kept k = d'.seen k
  sub : ∀ s k, d'.seen s = some k → d.kept s = some k
  root : ∀ n k, d.kept (0, n) = some k → d'.seen (0, n) = some k
  closed : ∀ s x, d'.seen s = some x → (d.nd x).kind = 1 → ∀ n k, d.kept (x, n) = some k → d'.seen (x, n) = some k
  len : d'.nodes.length = d.nodes.length
  each : ∀ (i : Nat) nd, d.nodes[i]? = some nd → d'.nodes[i]? = some nd ∨ d'.nodes[i]? = some { nd with seen := nd.kept }
  got : ∀ s k, d'.seen s = some k → ∀ nd, d.nodes[k.toNat]? = some nd → d'.nodes[k.toNat]? = some { nd with seen := nd.kept }
/-- What is kept is a tree, or such and loops that nothing leads to. -/
structure Tree (d : Dk) : Prop where
  rng : ∀ s k, d.kept s = some k → 1 ≤ k ∧ k < d.nodes.length
  inj : ∀ s t k, d.kept s = some k → d.kept t = some k → s = t

/-- The books of the walk: visited, waiting, entries put. -/
structure Book (d : Dk) (lk : List (Slt × Int)) (V R : List Int) (L : List (Slt × Int)) : Prop where
  mem : ∀ p, p ∈ L ↔ p ∈ lk ∧ p.1.1 ∈ V
  nod : (V ++ R).Nodup
  org : ∀ x ∈ V ++ R, x = 0 ∨ ∃ s, (s, x) ∈ L
  all : ∀ p ∈ L, (d.nd p.2).kind = 1 → p.2 ∈ V ++ R
  zero : (0 : Int) ∈ V ++ R
structure Book2 (d : Dk) (lk : List (Slt × Int)) (V : List Int) (cur : Int) (R : List Int) (js : List Nat) (L : List (Slt × Int)) : Prop where
  mem : ∀ p, p ∈ L ↔ (p ∈ lk ∧ p.1.1 ∈ V) ∨ (p.1.1 = cur ∧ ∃ j ∈ js, lk[j]? = some p)
  nod : (V ++ cur :: R).Nodup
  org : ∀ x ∈ V ++ cur :: R, x = 0 ∨ ∃ s, (s, x) ∈ L
  all : ∀ p ∈ L, (d.nd p.2).kind = 1 → p.2 ∈ V ++ cur :: R
  zero : (0 : Int) ∈ V ++ cur :: R
theorem key_one {l : List (Slt × Int)} (hn : (l.map (·.1)).Nodup) {p q : Slt × Int} (hp : p ∈ l) (hq : q ∈ l) (h : p.1 = q.1) : p = q := by
  have h1 := getK_of_mem hn (show (p.1, p.2) ∈ l from hp)
  have h2 := getK_of_mem hn (show (q.1, q.2) ∈ l from hq)
  rw [h, h2] at h1
  injection h1 with h1
  exact Prod.ext h h1.symm
theorem at_one {l : List (Slt × Int)} (hn : (l.map (·.1)).Nodup) {i j : Nat} {p : Slt × Int} (hi : l[i]? = some p) (hj : l[j]? = some p) : i = j := by
  obtain ⟨b1, c1⟩ := List.getElem?_eq_some_iff.1 (show (l.map (·.1))[i]? = some p.1 by rw [List.getElem?_map, hi]; rfl)
  obtain ⟨b2, c2⟩ := List.getElem?_eq_some_iff.1 (show (l.map (·.1))[j]? = some p.1 by rw [List.getElem?_map, hj]; rfl)
  have h := List.pairwise_iff_getElem.1 hn
  rcases Nat.lt_trichotomy i j with h1 | h1 | h1
  · exact absurd (c1.trans c2.symm) (h i j b1 b2 h1)
  · exact h1
  · exact absurd (c2.trans c1.symm) (h j i b2 b1 h1)
section
variable {d : Dk} {lk L : List (Slt × Int)} {V R : List Int} {cur : Int} {js : List Nat}
theorem Book.start (h : Book d lk V (cur :: R) L) : Book2 d lk V cur R [] L := ⟨fun p => by rw [h.mem]; simp, h.nod, h.org, h.all, h.zero⟩
theorem Book2.over (h : Book2 d lk V cur R js L) (hj : js.Perm (List.range lk.length)) : Book d lk (V ++ [cur]) R L := by
  have e : V ++ [cur] ++ R = V ++ cur :: R := by simp
  refine ⟨fun p => ?_, by rw [e]; exact h.nod, by rw [e]; exact h.org, by rw [e]; exact h.all, by rw [e]; exact h.zero⟩
  rw [h.mem]
  constructor
  · rintro (⟨h1, h2⟩ | ⟨h1, j, hj', h2⟩)
    · exact ⟨h1, List.mem_append_left _ h2⟩
    · exact ⟨List.mem_of_getElem? h2, by simp [h1]⟩
  · rintro ⟨h1, h2⟩
    rcases List.mem_append.1 h2 with h2 | h2
    · exact .inl ⟨h1, h2⟩
    · obtain ⟨j, hj'⟩ := List.getElem?_of_mem h1
      exact .inr ⟨by simpa using h2, j, hj.mem_iff.2 (List.mem_range.2 (List.getElem?_eq_some_iff.1 hj').1), hj'⟩
theorem Book2.skip (h : Book2 d lk V cur R js L) {j : Nat} {p : Slt × Int} (hp : lk[j]? = some p) (hne : p.1.1 ≠ cur) : Book2 d lk V cur R (js ++ [j]) L := by
  refine ⟨fun q => ?_, h.nod, h.org, h.all, h.zero⟩
  rw [h.mem]
  constructor
  · rintro (h1 | ⟨h1, i, hi, h2⟩)
    · exact .inl h1
    · exact .inr ⟨h1, i, by simp [hi], h2⟩
  · rintro (h1 | ⟨h1, i, hi, h2⟩)
    · exact .inl h1
    · rcases List.mem_append.1 hi with hi | hi
      · exact .inr ⟨h1, i, hi, h2⟩
      · obtain rfl := List.mem_singleton.1 hi
        rw [hp] at h2; cases h2
        exact absurd h1 hne
theorem Book2.fresh (h : Book2 d lk V cur R js L) (hn : (lk.map (·.1)).Nodup) {j : Nat} {p : Slt × Int} (hp : lk[j]? = some p) (hj : j ∉ js) (he : p.1.1 = cur) : getK p.1 L = none := by
  rw [getK_none]
  intro q hq heq
  have hpl := List.mem_of_getElem? hp
  have hcV : cur ∉ V := fun hc => by
    have := List.nodup_append.1 h.nod
    exact this.2.2 cur hc cur (by simp) rfl
  rcases (h.mem q).1 hq with ⟨h1, h2⟩ | ⟨h1, i, hi, h2⟩
  · rw [← heq, he] at h2
    exact hcV h2
  · have := key_one hn hpl (List.mem_of_getElem? h2) heq
    rw [← this] at h2
    exact hj (at_one hn hp h2 ▸ hi)
theorem Book2.take (h : Book2 d lk V cur R js L) (hn : (lk.map (·.1)).Nodup) (ht : Tree d) (hE : Eqm lk d.kept) {j : Nat} {p : Slt × Int} (hp : lk[j]? = some p) (hj : j ∉ js) (he : p.1.1 = cur) :
    ((d.nd p.2).kind = 1 → Book2 d lk V cur (R ++ [p.2]) (js ++ [j]) (L ++ [p])) ∧ (¬ (d.nd p.2).kind = 1 → Book2 d lk V cur R (js ++ [j]) (L ++ [p])) := by
  have hmem : ∀ q, q ∈ L ++ [p] ↔ (q ∈ lk ∧ q.1.1 ∈ V) ∨ (q.1.1 = cur ∧ ∃ i ∈ js ++ [j], lk[i]? = some q) := by
    intro q
    rw [List.mem_append, h.mem]
    constructor
    · rintro ((h1 | ⟨h1, i, hi, h2⟩) | h1)
      · exact .inl h1
      · exact .inr ⟨h1, i, by simp [hi], h2⟩
      · obtain rfl := List.mem_singleton.1 h1
        exact .inr ⟨he, j, by simp, hp⟩
    · rintro (h1 | ⟨h1, i, hi, h2⟩)
      · exact .inl (.inl h1)
      · rcases List.mem_append.1 hi with hi | hi
        · exact .inl (.inr ⟨h1, i, hi, h2⟩)
        · obtain rfl := List.mem_singleton.1 hi
          rw [hp] at h2; cases h2
          exact .inr (by simp)
  have hpl := List.mem_of_getElem? hp
  have hkp : d.kept p.1 = some p.2 := by rw [← hE p.1]; exact getK_of_mem hn hpl
  have hfr := h.fresh hn hp hj he
  rw [getK_none] at hfr
  have hnew : p.2 ∉ V ++ cur :: R := fun hx => by
    rcases h.org p.2 hx with h0 | ⟨s, hs⟩
    · have := (ht.rng _ _ hkp).1; omega
    · have hsl : (s, p.2) ∈ lk := by
        rcases (h.mem _).1 hs with h1 | ⟨_, i, _, h2⟩
        · exact h1.1
        · exact List.mem_of_getElem? h2
      have hks : d.kept s = some p.2 := by rw [← hE s]; exact getK_of_mem hn hsl
      exact hfr _ hs (ht.inj _ _ _ hkp hks)
  refine ⟨fun hk => ⟨hmem, ?_, fun x hx => ?_, fun q hq hqk => ?_, ?_⟩, fun hk => ⟨hmem, h.nod, fun x hx => ?_, fun q hq hqk => ?_, h.zero⟩⟩
  · have e : V ++ cur :: (R ++ [p.2]) = (V ++ cur :: R) ++ [p.2] := by simp
    rw [e]
    exact List.nodup_append.2 ⟨h.nod, by simp, fun a ha b hb hab => by
      obtain rfl := List.mem_singleton.1 hb
      exact hnew (hab ▸ ha)⟩
  · have e : V ++ cur :: (R ++ [p.2]) = (V ++ cur :: R) ++ [p.2] := by simp
    rw [e] at hx
    rcases List.mem_append.1 hx with hx | hx
    · exact (h.org x hx).imp id fun ⟨s, hs⟩ => ⟨s, List.mem_append_left _ hs⟩
    · obtain rfl := List.mem_singleton.1 hx
      exact .inr ⟨p.1, by simp⟩
  · have e : V ++ cur :: (R ++ [p.2]) = (V ++ cur :: R) ++ [p.2] := by simp
    rw [e]
    rcases List.mem_append.1 hq with hq | hq
    · exact List.mem_append_left _ (h.all q hq hqk)
    · obtain rfl := List.mem_singleton.1 hq
      simp
  · have e : V ++ cur :: (R ++ [p.2]) = (V ++ cur :: R) ++ [p.2] := by simp
    rw [e]
    exact List.mem_append_left _ h.zero
  · exact (h.org x hx).imp id fun ⟨s, hs⟩ => ⟨s, List.mem_append_left _ hs⟩
  · rcases List.mem_append.1 hq with hq | hq
    · exact h.all q hq hqk
    · obtain rfl := List.mem_singleton.1 hq
      exact absurd hqk hk
theorem len_bound {xs : List Int} (hx : xs.Nodup) (ho : ∀ x ∈ xs, x = 0 ∨ ∃ s, (s, x) ∈ L) (hL : ∀ p ∈ L, p ∈ lk) : xs.length ≤ lk.length + 1 := by
  have key : ∀ (xs ys : List Int), xs.Nodup → (∀ x ∈ xs, x ∈ ys) → xs.length ≤ ys.length := by
    intro xs
    induction xs with
    | nil => intro ys _ _; simp
    | cons x xs ih =>
      intro ys hx hs
      simp only [List.nodup_cons] at hx
      have hxy := hs x (by simp)
      have := ih (ys.erase x) hx.2 fun y hy => by
        have hne : y ≠ x := fun he => hx.1 (by rw [← he]; exact hy)
        exact (List.mem_erase_of_ne hne).2 (hs y (by simp [hy]))
      rw [List.length_erase_of_mem hxy] at this
      have := List.length_pos_of_mem hxy
      simp only [List.length_cons]; omega
  have := key xs (0 :: lk.map (·.2)) hx fun x hx => by
    rcases ho x hx with h0 | ⟨s, hs⟩
    · simp [h0]
    · exact List.mem_cons_of_mem _ (List.mem_map.2 ⟨_, hL _ hs, rfl⟩)
  simpa using this
theorem Book.bound (h : Book d lk V R L) : (V ++ R).length ≤ lk.length + 1 := len_bound h.nod h.org fun p hp => ((h.mem p).1 hp).1
theorem Book2.bound (h : Book2 d lk V cur R js L) : (V ++ cur :: R).length ≤ lk.length + 1 := len_bound h.nod h.org fun p hp => by
  rcases (h.mem p).1 hp with h1 | ⟨_, i, _, h2⟩
  · exact h1.1
  · exact List.mem_of_getElem? h2
theorem Book.first : Book d lk [] [0] [] := ⟨fun p => by simp, by simp, fun x hx => .inl (by simpa using hx), fun p hp => by simp at hp, by simp⟩
end
section
variable {w w' w'' : World} {b : Nat} {d d' : Dk} {v : DV} {tag : Nat → Nat}
def dkR (d : Dk) (N : List Nd) (L : List (Slt × Int)) : Dk := { d with armed := false, down := false, pending := [], nodes := N, seen := fun k => getK k L, kept := fun k => getK k L }
def dvR (v : DV) (m1 m2 : Nat) (L : List (Slt × Int)) : DV := ⟨v.nv, .slice none 0 0, m1, m2, L, L⟩
theorem dkR_cells (d : Dk) (N : List Nd) (L : List (Slt × Int)) (v : DV) (m1 m2 : Nat) : (dkR d N L).cells (dvR v m1 m2 L) = [.int .i64 d.cap, .int .i64 d.acts, .int .i64 d.reads, .bool false, .int .i64 d.left, .bool false, v.nv, .map (some m1), .map (some m2), .slice none 0 0] := rfl
theorem it_lt {r b : Nat} {l : List (Slt × Int)} {js : List Nat} {w : World} (h : ItAt slv idv w r b l js) : r < w.heap.size := by
  obtain ⟨_, _, _, es, c, _, h2, _⟩ := h
  exact (Array.getElem?_eq_some_iff.1 h2).1
/-- What the walk of restart has in memory. -/
structure RSt (w : World) (b : Nat) (d : Dk) (v : DV) (tag tag0 : Nat → Nat) (m1 m2 : Nat) (w' : World) (rv : Value) (R : List Int) (N : List Nd) (L : List (Slt × Int)) : Prop where
  q : SlW 1 w' rv (R.map fun x => [.int .i64 x])
  qn : ∀ c, inB rv c → w.heap.size ≤ c ∧ c < w'.heap.size ∧ tag0 c = 0
  ren : Renewed d N L
  da : DA w' b (dkR d N L) (dvR v m1 m2 L) tag0
  fr : Fr (fun c => c = b ∨ tag c = 4 ∨ w.heap.size ≤ c) w w'
theorem RSt.fr' {tag0 : Nat → Nat} {m1 m2 : Nat} {rv : Value} {R : List Int} {N : List Nd} {L : List (Slt × Int)} {w1 w2 : World} {F : Nat → Prop} (h : RSt w b d v tag tag0 m1 m2 w1 rv R N L) (f : Fr F w1 w2) (h0 : 0 < w.heap.size) (hF : ∀ c, F c → tag0 c = 0 ∧ w.heap.size ≤ c ∧ ¬ inB rv c) : RSt w b d v tag tag0 m1 m2 w2 rv R N L := by
  have s := f.size
  refine ⟨h.q.fr f fun c hc hf => (hF c hf).2.2 hc, fun c hc => ?_, h.ren, h.da.fr f fun c hc => ⟨(hF c hc).1, by have := (hF c hc).2.1; omega⟩, h.fr.trans f fun c _ hf => .inr (.inr (hF c hf).2.1)⟩
  have := h.qn c hc
  exact ⟨this.1, by omega, this.2.2⟩
theorem restart2_run (h : DA w b d v tag) (ht : Tree d) (hlk : v.lk.length ≤ 16777216) : Run (F.disk_Disk_restart (Ptr b)) w fun _ w' => ∃ d', Reached d d' ∧ DDid w w' b tag d' := by
  unfold F.disk_Disk_restart
  have hb := h.blk
  have hw := h.wr
  have hbl := bk_lt hb
  simp [-ldA_ptr, hb, hw, Dk.cells]
  obtain ⟨w1, hw1⟩ : ∃ w1, w1 = sto (sto (sto w b 9 [.slice none 0 0]) b 3 [.bool false]) b 5 [.bool false] := ⟨_, rfl⟩
  rw [← hw1]
  have hb1 : bk w1 b = some [.int .i64 d.cap, .int .i64 d.acts, .int .i64 d.reads, .bool false, .int .i64 d.left, .bool false, v.nv, .map (some v.bs), .map (some v.bk), .slice none 0 0] := by
    rw [hw1]; simp [hb, Dk.cells]
  have hwr1 : wr w1 b = true := by rw [hw1]; simpa using hw
  have f1 : Fr (fun c => c = b) w w1 := by
    rw [hw1]
    exact (((Fr.refl (fun c => c = b) w).sto (.inl rfl) _ _).sto (.inl rfl) _ _).sto (.inl rfl) _ _
  clear hw1
  refine Run_mkmM (kv := slv) (vv := idv) fun w2 m1 hm1 f2 hm1le => ?_
  refine Run_mkmM (kv := slv) (vv := idv) fun w3 m2 hm2 f3 hm2le => ?_
  have hb3 := f3.bk_some (f2.bk_some hb1 id) id
  have hwr3 : wr w3 b = true := by rw [f3.wr (bk_lt (f2.bk_some hb1 id)) id, f2.wr (bk_lt hb1) id]; exact hwr1
  simp [-ldA_ptr, hb3, hwr3]
  have z1 := f1.size
  have z2 := f2.size
  have z3 := f3.size
  have hmm : m1 ≠ m2 := by have := hm1.lt; omega
  have hm1l := hm1.lt
  have hm2l := hm2.lt
  obtain ⟨w4, hw4⟩ : ∃ w4, w4 = sto (sto w3 b 7 [.map (some m1)]) b 8 [.map (some m2)] := ⟨_, rfl⟩
  rw [← hw4]
  have hb4 : bk w4 b = some [.int .i64 d.cap, .int .i64 d.acts, .int .i64 d.reads, .bool false, .int .i64 d.left, .bool false, v.nv, .map (some m1), .map (some m2), .slice none 0 0] := by
    rw [hw4]; simp [hb3]
  have hwr4 : wr w4 b = true := by rw [hw4]; simpa using hwr3
  have f34 : Fr (fun c => c = b) w3 w4 := by
    rw [hw4]
    exact ((Fr.refl (fun c => c = b) w3).sto (.inl rfl) _ _).sto (.inl rfl) _ _
  have z4 := f34.size
  clear hw4
  refine Run_bsl (k := 1) (n := 1) (vs := [.int .i64 0]) rfl (by simp) rfl (by simp [size_zeroCells]) fun rv w5 hrv f5 hrvn => ?_
  have z5 := f5.size
  have f05 : Fr (fun c => c = b) w w5 := ((((f1.trans f2 fun _ _ h => h.elim).trans f3 fun _ _ h => h.elim).trans f34 fun _ _ h => h).trans f5 fun _ _ h => h.elim)
  have hb5 := f5.bk_some hb4 id
  have hwr5 : wr w5 b = true := by rw [f5.wr (bk_lt hb4) id]; exact hwr4
  have nb1 : ∀ c, tag c ≠ 1 → ¬ c = b := fun c hc he => hc (by rw [he]; exact h.tb)
  have hm15 : MapAt slv idv w5 m1 ([] : List (Slt × Int)) := ((hm1.fr f3 id).fr f34 (by omega)).fr f5 id
  have hm25 : MapAt slv idv w5 m2 ([] : List (Slt × Int)) := (hm2.fr f34 (by omega)).fr f5 id
  have hbk := h.bound v.bk (by rw [h.tk]; decide)
  obtain ⟨ml, hml⟩ := h.ml
  obtain ⟨tag0, t1, t2, t3, t4⟩ : ∃ tag0 : Nat → Nat, tag0 m1 = 2 ∧ tag0 m2 = 3 ∧ (∀ c, c < w.heap.size → tag0 c = tag c) ∧ ∀ c, tag0 c ≠ 0 → tag c ≠ 0 ∨ c = m1 ∨ c = m2 := by
    refine ⟨fun c => if c = m1 then 2 else if c = m2 then 3 else tag c, by simp, by simp [Ne.symm hmm], fun c hc => ?_, fun c hc => ?_⟩
    · have h1 : c ≠ m1 := by omega
      have h2 : c ≠ m2 := by omega
      simp [h1, h2]
    · by_cases h1 : c = m1
      · exact .inr (.inl h1)
      · by_cases h2 : c = m2
        · exact .inr (.inr h2)
        · simp [h1, h2] at hc; exact .inl hc
  have told : ∀ c, tag c ≠ 0 → tag0 c = tag c := fun c hc => t3 c (h.bound c hc)
  have tz : ∀ c, w.heap.size ≤ c → c ≠ m1 → c ≠ m2 → tag0 c = 0 := fun c hc n1 n2 => Classical.byContradiction fun h0 => by
    rcases t4 c h0 with h' | h' | h'
    · have := h.bound c h'; omega
    · exact n1 h'
    · exact n2 h'
  have f05' : Fr (fun c => c = b ∨ tag c = 4 ∨ w.heap.size ≤ c) w w5 := f05.mono fun c hc => Or.inl hc
  have start : RSt w b d v tag tag0 m1 m2 w5 rv [0] d.nodes [] := by
    have s := f05.size
    refine ⟨hrv, fun c hc => ?_, ⟨rfl, fun i nd h => .inl h, fun p hp => by simp at hp⟩, ⟨hb5, hwr5, h.nodes.fr f05 fun c hc => nb1 c (by rw [h.tn c hc]; decide), hm15, fun _ => rfl, hm25, fun _ => rfl, SlW.nil 7 w5, by rw [told b (by rw [h.tb]; decide)]; exact h.tb, t1, t2, fun c hc => by rw [told c (by rw [h.tn c hc]; decide)]; exact h.tn c hc, fun c hc => hc.elim, by rw [t3 0 (bk_lt hml)]; exact h.t0, ⟨ml, f05.bk_some hml (nb1 0 (by rw [h.t0]; decide))⟩, fun c hc => ?_⟩, f05'⟩
    · have := hrvn c hc
      exact ⟨by omega, by omega, tz c (by omega) (by omega) (by omega)⟩
    · rcases t4 c hc with h' | h' | h'
      · have := h.bound c h'; omega
      · omega
      · omega
  have hkmap : ∀ w', Fr (fun c => c = b ∨ tag c = 4 ∨ w.heap.size ≤ c) w w' → MapAt slv idv w' v.bk v.lk := fun w' f => h.kept.fr f fun hc => by
    rcases hc with h' | h' | h'
    · exact nb1 _ (by rw [h.tk]; decide) h'
    · rw [h.tk] at h'; cases h'
    · omega
  have hnk := h.kept.nodup
  refine Run_for (v.lk.length + 2) (fun i l w' => ∃ rv V R N L, l = [rv] ∧ V.length = i ∧ RSt w b d v tag tag0 m1 m2 w' rv R N L ∧ Book d v.lk V R L) ⟨rv, [], [0], d.nodes, [], rfl, rfl, start, Book.first⟩ ?_ ?_
  · rintro i l w6 hi ⟨rv6, V, R, N, L, rfl, hV, hS, hB⟩
    have hrl := hS.q.1.lenL
    rw [List.length_map] at hrl
    cases R with
    | nil =>
      simp at hrl
      simp [-ldA_ptr, hrl]
      have hn := hS.da.seen.nodup
      have hLk : ∀ s k, getK s L = some k → (s, k) ∈ L := fun s k hs => getK_mem hs
      have hin : ∀ s k, d.kept s = some k → s.1 ∈ V → getK s L = some k := fun s k hs hv => by
        refine getK_of_mem hn ((hB.mem (s, k)).2 ⟨?_, hv⟩)
        rw [← h.keptE s] at hs
        exact getK_mem hs
      have hV0 := hB.zero
      rw [List.append_nil] at hV0
      refine ⟨dkR d N L, ⟨⟨rfl, rfl, rfl⟩, ⟨rfl, rfl, rfl⟩, fun _ => rfl, fun s k hs => ?_, fun n k hs => hin _ _ hs hV0, fun s x hs hx n k hk => hin _ _ hk ?_, hS.ren.1, hS.ren.2.1, fun s k hs nd hnd => hS.ren.2.2 (s, k) (hLk s k hs) nd hnd⟩, (Fr.refl (fun c => tag c ≠ 0) w).trans hS.fr fun c hc hf => ?_, _, tag0, hS.da, fun c hc => ?_⟩
      · rw [← h.keptE s]
        exact getK_of_mem hnk ((hB.mem (s, k)).1 (hLk s k hs)).1
      · have := hB.all (s, x) (hLk s x hs) hx
        rwa [List.append_nil] at this
      · rcases hf with h' | h' | h'
        · rw [h', h.tb]; decide
        · rw [h']; decide
        · omega
      · rcases t4 c hc with h' | h' | h'
        · exact .inl h'
        · exact .inr (by omega)
        · exact .inr (by omega)
    | cons cur R =>
      obtain ⟨q, q1, q2⟩ := hS.q.1.rd1 (i := 0) (y := .int .i64 cur) rfl .i64
      obtain ⟨rv2, k1, k2, k3⟩ := hS.q.drop (n := 1) (by simp) .i64
      have k2l := k2.1.lenL
      have q1' : idxA 1 rv6 (.int .i64 0) = some q := q1
      have k1' : sliceV 1 rv6 (some (.int .i64 1)) none = some rv2 := k1
      have hpos : (0 : Int) < ((cur :: R).length : Nat) := by simp only [List.length_cons]; omega
      simp [-ldA_ptr, hrl, q1', q2, k1']
      have hw0 : 0 < w.heap.size := by have := bk_lt hml; omega
      refine Run_rngM (hkmap w6 hS.fr) fun w7 r hit f7 hr => ?_
      have z67 := f7.size
      have z06 := hS.fr.size
      have hSi : RSt w b d v tag tag0 m1 m2 w6 rv2 R N L := ⟨k2, fun c hc => hS.qn c (k3 c hc), hS.ren, hS.da, hS.fr⟩
      have hS7 := hSi.fr' f7 hw0 fun c hc => hc.elim
      have hrz : tag0 r = 0 ∧ w.heap.size ≤ r := by
        have b1 := hS.da.bound m1 (by rw [t1]; decide)
        have b2 := hS.da.bound m2 (by rw [t2]; decide)
        exact ⟨tz r (by omega) (by omega) (by omega), by omega⟩
      refine Run_range (k := fun _ _ => _) (fun x => rfl) (fun js x w' => ∃ rv' R' N' L', x = [rv'] ∧ RSt w b d v tag tag0 m1 m2 w' rv' R' N' L' ∧ Book2 d v.lk V cur R' js L' ∧ (∀ c, inB rv' c → c ≠ r) ∧ r < w'.heap.size) ⟨rv2, R, N, L, rfl, hS7, hB.start, fun c hc he => ?_, it_lt hit⟩ hit ?_ ?_
      · have := (hSi.qn c hc).2.1
        omega
      · rintro js j p x wa wb hp hj ⟨rv', R', N', L', rfl, hSa, hBa, hra, hrl'⟩ hitb fb sb
        have hSb := hSa.fr' fb hw0 fun c hc => by rw [hc]; exact ⟨hrz.1, hrz.2, fun hi => hra r hi rfl⟩
        have he := hitb.entry hp
        have hpm := List.mem_of_getElem? hp
        have hgp := getK_of_mem hnk (show (p.1, p.2) ∈ v.lk from hpm)
        rw [h.keptE p.1] at hgp
        obtain ⟨ppos, plt⟩ := ht.rng _ _ hgp
        have zb : w.heap.size ≤ wb.heap.size := hSb.fr.size
        have m1b := hSb.da.bound m1 (by rw [t1]; decide)
        have m2b := hSb.da.bound m2 (by rw [t2]; decide)
        have hskip := fun hne => hBa.skip hp (j := j) (p := p) hne
        have hfresh := fun he => hBa.fresh hnk hp hj (p := p) he
        have htake := fun he => hBa.take hnk ht h.keptE hp hj (p := p) he
        have hbound := hBa.bound
        rw [List.length_append, List.length_cons] at hbound
        obtain ⟨⟨pd, pn⟩, pk⟩ := p
        simp only at ppos plt hgp hskip hfresh htake
        simp [-ldA_ptr, he, slv]
        refine Run_newSt (cs := #[.int .i64 pd, .string pn]) rfl rfl (by simp) fun x wc hx hxw fc hxle => ?_
        have zbc := fc.size
        have hSc := hSb.fr' fc hw0 fun c hc => hc.elim
        have hx' : bk wc x = some [.int .i64 pd, .string pn] := hx
        by_cases hpd : pd = cur
        · subst hpd
          have hno := hfresh rfl
          have hdc := hSc.da
          have hbc := hdc.blk
          rw [dkR_cells] at hbc
          have hl2 : ∀ w', bk w' x = some [.int .i64 pd, .string pn] → ldA 2 (Ptr x) w' = some (slv (pd, pn)) := fun w' hh => by rw [ldA_bk hh (by simp)]; rfl
          simp [-ldA_ptr, hx', hbc, hl2 wc hx']
          have fdr : Fr (fun _ => False) wc wc.drew := (Fr.refl (fun _ => False) wc).drew
          have hdd := hdc.fr0 fdr
          have hxm1 : x ≠ m1 := by omega
          have hxm2 : x ≠ m2 := by omega
          refine Run_mentM (kv := slv) (vv := idv) keyS hdd.seen hno fun wd cd hh1 fd1 sd1 => ?_
          have hxd : bk wd x = some [.int .i64 pd, .string pn] := fd1.bk_some (w := wc.drew) hx' hxm1
          simp only [extV_tuple, List.getElem?_toArray, List.getElem?_cons_succ, List.getElem?_cons_zero, Run_bindO_some, Run_bind]
          refine Run_estM hh1 pk fun we hme fe1 se1 => ?_
          have hxe : bk we x = some [.int .i64 pd, .string pn] := fe1.bk_some hxd hxm1
          simp only [Run_getM, Run_bind]
          have fm1 : Fr (fun c => c = m1) wc.drew we := fd1.trans fe1 fun _ _ h => h
          have hde := hdd.seenSet (m := fun k => getK k (L' ++ [((pd, pn), pk)])) fm1 hme fun _ => rfl
          refine Run_mentM (kv := slv) (vv := idv) keyS hde.kept hno fun wf cf hh2 ff1 sf1 => ?_
          simp only [extV_tuple, List.getElem?_toArray, List.getElem?_cons_succ, List.getElem?_cons_zero, Run_getM, Run_bindO_some, Run_bind]
          refine Run_estM hh2 pk fun wg hmg fg1 sg1 => ?_
          have fm2 : Fr (fun c => c = m2) we wg := ff1.trans fg1 fun _ _ h => h
          have hdg := hde.keptSet (m := fun k => getK k (L' ++ [((pd, pn), pk)])) fm2 hmg fun _ => rfl
          obtain ⟨i0, hi0⟩ : ∃ i : Nat, pk = i := ⟨pk.toNat, by omega⟩
          have hi0l : i0 < d.nodes.length := by omega
          have hnd0 : d.nodes[i0]? = some d.nodes[i0] := List.getElem?_eq_getElem hi0l
          generalize d.nodes[i0] = nd0 at hnd0
          have hndd : d.nd pk = nd0 := by simp [Dk.nd, hi0, hnd0]
          obtain ⟨nd, hnd, hke⟩ : ∃ nd, N'[i0]? = some nd ∧ nd.kind = nd0.kind := by
            rcases hSc.ren.2.1 _ nd0 hnd0 with h' | h'
            · exact ⟨_, h', rfl⟩
            · exact ⟨_, h', rfl⟩
          obtain ⟨b0, o, l0, i1, t40, i2, q0, qq1, qq2, hset⟩ := hdg.setNode hnd
          have i1' : idxA 3 v.nv (idv pk) = some (.pointer (some ⟨b0, o, none⟩)) := by rw [hi0]; exact i1
          have hbg := hdg.blk
          have hbg' : bk wg b = some [.int .i64 d.cap, .int .i64 d.acts, .int .i64 d.reads, .bool false, .int .i64 d.left, .bool false, v.nv, .map (some m1), .map (some m2), .slice none 0 0] := hbg
          simp [-ldA_ptr, hl2 wd hxd, hl2 we hxe, hbg', i1', i2, qq2]
          obtain ⟨y1, y2⟩ := (hset wg.drew _ _ (hdg.fr0 (Fr.refl (fun _ => False) wg).drew) rfl rfl).1 nd.kept
          have hb0w : b0 < w.heap.size := by
            rcases t4 b0 (by rw [t40]; decide) with h' | h' | h'
            · exact h.bound b0 h'
            · rw [h', t1] at t40; cases t40
            · rw [h', t2] at t40; cases t40
          have hb0b : b0 ≠ b := fun he => by
            rw [he, told b (by rw [h.tb]; decide), h.tb] at t40; cases t40
          have hb0bk : v.bk ≠ b0 := fun he => by
            rw [← he, told v.bk (by rw [h.tk]; decide), h.tk] at t40; cases t40
          have zm1 := fm1.size
          have zm2 := fm2.size
          have zd : wc.drew.heap.size = wc.heap.size := rfl
          obtain ⟨⟨l', hl', hle⟩, hwrb⟩ := y1
          have hll : l' = l0 := by
            have h2 : bk wg b0 = some l' := hl'
            rw [i2] at h2
            cases h2; rfl
          rw [hll] at hle
          have hblk2 : bk (sto wg.drew b0 (o + 1) [.string nd.kept]) b = some [.int .i64 d.cap, .int .i64 d.acts, .int .i64 d.reads, .bool false, .int .i64 d.left, .bool false, v.nv, .map (some m1), .map (some m2), .slice none 0 0] := y2.blk
          refine ⟨hle, hwrb, v.nv, by rw [hblk2]; rfl, ?_⟩
          have hk0 : bk (sto wg.drew b0 (o + 1) [.string nd.kept]) b0 = some (l0.set (o + 1) (.string nd.kept)) := by rw [bk_sto_eq, bk_drew, i2]; rfl
          have hk1 : (l0.set (o + 1) (.string nd.kept))[o]? = some (.int .i64 nd.kind) := by rw [List.getElem?_set_ne (by omega)]; exact q0
          have t4b : tag b0 = 4 := by rw [← t3 b0 hb0w]; exact t40
          have fbz : Fr (fun c => c = m1 ∨ c = m2 ∨ c = b0) wc (sto wg.drew b0 (o + 1) [.string nd.kept]) := by
            refine Fr.sto (b := b0) (Fr.drew ?_) (.inl (.inr (.inr rfl))) _ _
            refine (((fdr.mono fun _ h => h.elim).trans fm1 fun c _ hc => ?_).trans fm2 fun c _ hc => ?_)
            · exact .inl hc
            · exact .inr (.inl hc)
          obtain ⟨wz, hwz⟩ : ∃ wz, wz = sto wg.drew b0 (o + 1) [.string nd.kept] := ⟨_, rfl⟩
          rw [← hwz] at y2 hk0 fbz hblk2 ⊢
          clear hwz
          have hst := hSc.ren.step (p := ((pd, pn), pk)) (i := i0) hi0 hnd0 hnd
          have hqz : SlW 1 wz rv' (R'.map fun x => [.int .i64 x]) := hSc.q.fr fbz fun c hc hf => by
            have := (hSc.qn c hc).2.2
            rcases hf with h' | h' | h'
            · rw [h', t1] at this; cases this
            · rw [h', t2] at this; cases this
            · rw [h', t40] at this; cases this
          have zcz := fbz.size
          have fz : Fr (fun c => c = b ∨ tag c = 4 ∨ w.heap.size ≤ c) w wz := hSc.fr.trans fbz fun c _ hf => by
            rcases hf with h' | h' | h'
            · exact .inr (.inr (by omega))
            · exact .inr (.inr (by omega))
            · rw [h']; exact .inr (.inl t4b)
          have hSz : RSt w b d v tag tag0 m1 m2 wz rv' R' (N'.set i0 { nd with seen := nd.kept }) (L' ++ [((pd, pn), pk)]) := ⟨hqz, fun c hc => by
            have := hSc.qn c hc
            exact ⟨this.1, by omega, this.2.2⟩, hst, y2, fz⟩
          have hitz : ItAt slv idv wz r v.bk v.lk (js ++ [j]) := (hitb.fr fc id id).fr fbz (fun hc => by
            rcases hc with h' | h' | h'
            · omega
            · omega
            · exact hb0bk h') (fun hc => by
            have := hrz
            rcases hc with h' | h' | h'
            · rw [h', t1] at this; cases this.1
            · rw [h', t2] at this; cases this.1
            · rw [h', t40] at this; cases this.1)
          by_cases hk1k : nd.kind = 1
          · simp [i1', hk0, hk1, hk1k, hblk2]
            refine Run_app1 (k := 1) (y := .int .i64 pk) (by simp) hqz (by decide) rfl (by decide) (by simp) (by simp only [List.length_map]; omega) fun r2 wy hr2 fy hin wx fx => ?_
            have hyz := fy.size
            have hB2 := (htake rfl).1 (by rw [hndd, ← hke]; exact hk1k)
            have hr2' : SlW 1 wy r2 ((R' ++ [pk]).map fun x => [.int .i64 x]) := by simpa using hr2
            have hSy : RSt w b d v tag tag0 m1 m2 wy r2 (R' ++ [pk]) (N'.set i0 { nd with seen := nd.kept }) (L' ++ [((pd, pn), pk)]) := by
              refine ⟨hr2', fun c hc => ?_, hst, y2.fr fy fun c hc => ?_, fz.trans fy fun c _ hc => .inr (.inr (hSz.qn c hc).1)⟩
              · rcases hin c hc with h' | h'
                · have := hSz.qn c h'
                  exact ⟨this.1, by omega, this.2.2⟩
                · exact ⟨by omega, h'.2, tz c (by omega) (by omega) (by omega)⟩
              · have := hSz.qn c hc
                exact ⟨this.2.2, by omega⟩
            refine ⟨⟨R' ++ [pk], _, _, hSy, hB2, fun c hc => ?_, by have := it_lt hitb; omega⟩, hitz.fr fy (fun hc => ?_) (fun hc => hra r hc rfl)⟩
            · rcases hin c hc with h' | h'
              · exact hra c h'
              · have := it_lt hitb; omega
            · have := (hSz.qn _ hc).1
              omega
          · simp [i1', hk0, hk1, hk1k, hblk2]
            have hB2 := (htake rfl).2 (by rw [hndd, ← hke]; exact hk1k)
            exact ⟨⟨R', _, _, hSz, hB2, hra, by have := it_lt hitb; omega⟩, hitz⟩
        · simp [-ldA_ptr, hx', hpd]
          exact ⟨⟨R', N', L', hSc, hskip hpd, hra, by omega⟩, hitb.fr fc id id⟩
      · rintro js x wa wb hperm ⟨rv', R', N', L', rfl, hSa, hBa, hra, hrl'⟩ hitb fb sb
        have hSb := hSa.fr' fb hw0 fun c hc => hc.elim
        simp
        exact ⟨V ++ [cur], by simp [hV], R', N', L', hSb, hBa.over hperm⟩
  · rintro l w6 ⟨rv6, V, R, N, L, rfl, hV, hS, hB⟩
    have := hB.bound
    rw [List.length_append] at this
    omega
end
end Go.Proofs.YtojnickeblbgoaaDoor
