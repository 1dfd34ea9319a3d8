/-
  Layer 1 (disk), DiskKeeps, part C: the replay of pending changes, plainly.
-/
import Derived.Test.YtojnickeblbgoaaDoorKeepB
namespace Go.Proofs.YtojnickeblbgoaaDoor
open Go.Lift
set_option linter.unusedSimpArgs false
set_option linter.unusedVariables false
set_option maxHeartbeats 4000000

def FA : ByteArray := ByteArray.mk #[97]
def FF : ByteArray := ByteArray.mk #[97, 47, 102]
def nF : ByteArray := ByteArray.mk #[102]
abbrev sA : Slt := (0, FA)
abbrev sF : Slt := (1, nF)
theorem sAF : sA ≠ sF := by decide
/-- A change's effect on entries. -/
def entG (m : Slt → Option Int) (c : Chg) : Slt → Option Int := (applyF c e0 m).2
theorem app_map (c : Chg) (x : ByteArray) (m : Slt → Option Int) : (applyF c x m).2 = entG m c := by
  unfold entG applyF
  repeat' split
  all_goals rfl
theorem app_byte (c : Chg) (x : ByteArray) (m m' : Slt → Option Int) : (applyF c x m).1 = (applyF c x m').1 := by
  unfold applyF
  repeat' split
  all_goals rfl
theorem entG_cases (m : Slt → Option Int) (c : Chg) : entG m c = if c.what = 2 then fput m (c.node, c.src) c.target else if c.what = 3 then fdel m (c.node, c.src) else if c.what = 4 then fput (fdel m (c.node, c.src)) (c.node, c.dst) ((m (c.node, c.src)).getD 0) else m := by
  unfold entG applyF
  by_cases h0 : c.what = 0
  · simp [h0]
  by_cases h1 : c.what = 1
  · simp [h1]
  by_cases h2 : c.what = 2
  · simp [h2]
  by_cases h3 : c.what = 3
  · simp [h3]
  by_cases h4 : c.what = 4
  · simp [h4]
  simp [h0, h1, h2, h3, h4]
structure Prot (n : Nat) (m : Slt → Option Int) : Prop where
  top : m sA = some 1
  fil : m sF = some 2
  rng : ∀ s k, m s = some k → 1 ≤ k ∧ k < n
  inj : ∀ s t k, m s = some k → m t = some k → s = t
/-- A change that leaves the two entries and the file alone. -/
structure Sc (n : Nat) (c : Chg) : Prop where
  node : 0 ≤ c.node ∧ c.node < n
  byte : c.what = 0 ∨ c.what = 1 → c.node ≠ 2
  ent : c.what = 2 ∨ c.what = 3 ∨ c.what = 4 → (c.node, c.src) ≠ sA ∧ (c.node, c.src) ≠ sF
  mov : c.what = 4 → (c.node, c.dst) ≠ sA ∧ (c.node, c.dst) ≠ sF
  tgt : c.what = 2 → 1 ≤ c.target ∧ c.target < n
theorem Sc.mono {n n' : Nat} {c : Chg} (h : Sc n c) (hn : n ≤ n') : Sc n' c := ⟨by have := h.node; omega, h.byte, h.ent, h.mov, fun h' => by have := h.tgt h'; omega⟩
theorem Prot.mono {n n' : Nat} {m : Slt → Option Int} (h : Prot n m) (hn : n ≤ n') : Prot n' m := ⟨h.top, h.fil, fun s k hs => by have := h.rng s k hs; omega, h.inj⟩
def Src (m : Slt → Option Int) (L : List Chg) : Prop := ∀ L1 c L2, L = L1 ++ c :: L2 → c.what = 4 → L1.foldl entG m (c.node, c.src) ≠ none
def Apart (L : List Chg) : Prop := L.Pairwise fun c c' => c.what = 2 → c'.what = 2 → c.target ≠ c'.target
structure Fresh (m : Slt → Option Int) (L : List Chg) : Prop where
  out : ∀ c ∈ L, c.what = 2 → ∀ s, m s ≠ some c.target
  apart : Apart L
section
variable {n : Nat} {m m' : Slt → Option Int} {c : Chg} {L : List Chg}
theorem ent_val {s : Slt} {k : Int} (h : entG m c s = some k) : (∃ t, m t = some k) ∨ (c.what = 2 ∧ k = c.target) ∨ k = 0 := by
  rw [entG_cases] at h
  split at h
  · rename_i h2
    simp only [fput] at h
    split at h
    · cases h; exact .inr (.inl ⟨h2, rfl⟩)
    · exact .inl ⟨_, h⟩
  · split at h
    · simp only [fdel] at h
      split at h
      · cases h
      · exact .inl ⟨_, h⟩
    · split at h
      · simp only [fput] at h
        split at h
        · cases hm : m (c.node, c.src) with
          | none => rw [hm] at h; cases h; exact .inr (.inr rfl)
          | some y => rw [hm] at h; cases h; exact .inl ⟨_, hm⟩
        · simp only [fdel] at h
          split at h
          · cases h
          · exact .inl ⟨_, h⟩
      · exact .inl ⟨_, h⟩
theorem Prot.step (h : Prot n m) (hc : Sc n c) (h4 : c.what = 4 → m (c.node, c.src) ≠ none) (h2 : c.what = 2 → ∀ s, m s ≠ some c.target) : Prot n (entG m c) := by
  rw [entG_cases]
  split
  · rename_i hw
    have hs := hc.ent (.inl hw)
    have ht := hc.tgt hw
    have hf := h2 hw
    refine ⟨?_, ?_, fun s k hk => ?_, fun s t k hk hk' => ?_⟩
    · simp only [fput, if_neg (Ne.symm hs.1)]; exact h.top
    · simp only [fput, if_neg (Ne.symm hs.2)]; exact h.fil
    · simp only [fput] at hk
      split at hk
      · cases hk; exact ht
      · exact h.rng s k hk
    · simp only [fput] at hk hk'
      split at hk
      · rename_i e1
        cases hk
        split at hk'
        · rename_i e2; rw [e1, e2]
        · exact absurd hk' (hf t)
      · split at hk'
        · cases hk'
          exact absurd hk (hf s)
        · exact h.inj s t k hk hk'
  · split
    · rename_i hw
      have hs := hc.ent (.inr (.inl hw))
      refine ⟨?_, ?_, fun s k hk => ?_, fun s t k hk hk' => ?_⟩
      · simp only [fdel, if_neg (Ne.symm hs.1)]; exact h.top
      · simp only [fdel, if_neg (Ne.symm hs.2)]; exact h.fil
      · simp only [fdel] at hk
        split at hk
        · cases hk
        · exact h.rng s k hk
      · simp only [fdel] at hk hk'
        split at hk
        · cases hk
        · split at hk'
          · cases hk'
          · exact h.inj s t k hk hk'
    · split
      · rename_i hw
        have hs := hc.ent (.inr (.inr hw))
        have hd := hc.mov hw
        obtain ⟨k0, hk0⟩ := Option.ne_none_iff_exists'.1 (h4 hw)
        rw [hk0]
        simp only [Option.getD_some]
        refine ⟨?_, ?_, fun s k hk => ?_, fun s t k hk hk' => ?_⟩
        · simp only [fput, if_neg (Ne.symm hd.1), fdel, if_neg (Ne.symm hs.1)]; exact h.top
        · simp only [fput, if_neg (Ne.symm hd.2), fdel, if_neg (Ne.symm hs.2)]; exact h.fil
        · simp only [fput] at hk
          split at hk
          · cases hk; exact h.rng _ _ hk0
          · simp only [fdel] at hk
            split at hk
            · cases hk
            · exact h.rng s k hk
        · simp only [fput, fdel] at hk hk'
          split at hk
          · rename_i e1
            cases hk
            split at hk'
            · rename_i e2; rw [e1, e2]
            · split at hk'
              · cases hk'
              · rename_i e3
                exact absurd (h.inj _ _ _ hk' hk0) e3
          · split at hk
            · cases hk
            · rename_i e3
              split at hk'
              · cases hk'
                exact absurd (h.inj _ _ _ hk hk0) e3
              · split at hk'
                · cases hk'
                · exact h.inj s t k hk hk'
      · exact h
theorem Src.cons (h : Src m (c :: L)) : Src (entG m c) L := fun L1 x L2 e hx => h (c :: L1) x L2 (by rw [e]; rfl) hx
theorem Src.pre {L' : List Chg} (h : Src m (L ++ L')) : Src m L := fun L1 x L2 e hx => h L1 x (L2 ++ L') (by rw [e]; simp) hx
theorem Src.snoc (h : Src m L) (hc : c.what = 4 → L.foldl entG m (c.node, c.src) ≠ none) : Src m (L ++ [c]) := by
  intro L1 x L2 e hx
  rcases List.eq_nil_or_concat L2 with rfl | ⟨L2', y, rfl⟩
  · have := List.append_inj' e rfl
    have h2 : c = x := by simpa using this.2
    rw [← this.1, ← h2]
    exact hc (h2 ▸ hx)
  · have e' : L ++ [c] = (L1 ++ x :: L2') ++ [y] := by rw [e]; simp
    have := List.append_inj' e' rfl
    exact h L1 x L2' this.1 hx
theorem Fresh.cons (h : Fresh m (c :: L)) (hs : ∀ x ∈ L, Sc n x) : Fresh (entG m c) L := by
  have hp := List.pairwise_cons.1 h.apart
  refine ⟨fun x hx hw s he => ?_, hp.2⟩
  rcases ent_val he with ⟨t, ht⟩ | ⟨h2, hk⟩ | h0
  · exact h.out x (by simp [hx]) hw t ht
  · exact hp.1 x hx h2 hw hk.symm
  · have := (hs x hx).tgt hw
    omega
theorem Fresh.pre {L' : List Chg} (h : Fresh m (L ++ L')) : Fresh m L := ⟨fun x hx => h.out x (by simp [hx]), (List.pairwise_append.1 h.apart).1⟩
theorem Prot.fold : ∀ {L : List Chg} {m : Slt → Option Int}, Prot n m → (∀ x ∈ L, Sc n x) → Src m L → Fresh m L → Prot n (L.foldl entG m)
  | [], m, h, _, _, _ => h
  | c :: L, m, h, hs, hr, hf => by
    rw [List.foldl_cons]
    exact Prot.fold (h.step (hs c (by simp)) (fun h4 => hr [] c L rfl h4) (fun h2 => hf.out c (by simp) h2)) (fun x hx => hs x (by simp [hx])) hr.cons (hf.cons fun x hx => hs x (by simp [hx]))

/- Directories by themselves. -/
def Ag (j : Int) (m m' : Slt → Option Int) : Prop := ∀ x, m (j, x) = m' (j, x)
theorem Ag.refl (j : Int) (m : Slt → Option Int) : Ag j m m := fun _ => rfl
theorem ag_same {j : Int} (h : Ag j m m') (hc : c.node = j) : Ag j (entG m c) (entG m' c) := by
  intro x
  subst hc
  rw [entG_cases, entG_cases]
  split
  · simp only [fput, h x]
  · split
    · simp only [fdel, h x]
    · split
      · simp only [fput, fdel, h x, h c.src]
      · exact h x
theorem ag_other {j : Int} (hc : c.node ≠ j) : Ag j (entG m c) m := by
  intro x
  have hne : ∀ y : ByteArray, (j, x) ≠ (c.node, y) := fun y he => hc (by injection he with h1 _; exact h1.symm)
  rw [entG_cases]
  split
  · simp only [fput, if_neg (hne _)]
  · split
    · simp only [fdel, if_neg (hne _)]
    · split
      · simp only [fput, fdel, if_neg (hne _)]
      · rfl
def onD (j : Int) (L : List Chg) : List Chg := L.filter fun c => decide (c.node = j)
theorem fold_ag {j : Int} : ∀ (L : List Chg) {m m' : Slt → Option Int}, Ag j m m' → Ag j (L.foldl entG m) ((onD j L).foldl entG m')
  | [], m, m', h => h
  | c :: L, m, m', h => by
    by_cases hc : c.node = j
    · have e : onD j (c :: L) = c :: onD j L := by simp [onD, hc]
      rw [e, List.foldl_cons, List.foldl_cons]
      exact fold_ag L (ag_same h hc)
    · have e : onD j (c :: L) = onD j L := by simp [onD, hc]
      rw [e, List.foldl_cons]
      exact fold_ag L fun x => (ag_other hc x).trans (h x)
theorem fold_off {j : Int} : ∀ {L : List Chg} {m : Slt → Option Int}, (∀ c ∈ L, c.node ≠ j) → Ag j (L.foldl entG m) m
  | [], m, _ => Ag.refl j m
  | c :: L, m, h => by
    rw [List.foldl_cons]
    exact fun x => (fold_off (fun c hc => h c (by simp [hc])) x).trans (ag_other (h c (by simp)) x)
theorem on_rest {i j : Int} (h : j ≠ i) (L : List Chg) : onD j (restOf i L) = onD j L := by
  unfold onD restOf
  rw [List.filter_filter]
  apply List.filter_congr
  intro c _
  by_cases hc : c.node = j
  · have : c.node ≠ i := by rw [hc]; exact h
    simp [hc, h]
  · simp [hc]
theorem on_on {i : Int} (L : List Chg) : onD i (onD i L) = onD i L := by
  unfold onD
  rw [List.filter_filter]
  simp
/-- What a directory's changes, made safe, leave. -/
theorem settle_eq (i : Int) (L : List Chg) (m : Slt → Option Int) : (restOf i L).foldl entG ((onD i L).foldl entG m) = L.foldl entG m := by
  funext ⟨j, x⟩
  by_cases hj : j = i
  · subst hj
    rw [fold_off (L := restOf j L) (fun c hc => by simpa [restOf] using (List.mem_filter.1 hc).2) x]
    exact (fold_ag L (Ag.refl j m) x).symm
  · have h1 : Ag j ((onD i L).foldl entG m) m := fold_off fun c hc => by
      have : c.node = i := by simpa [onD] using (List.mem_filter.1 hc).2
      rw [this]; exact Ne.symm hj
    rw [fold_ag (restOf i L) h1 x, on_rest hj, fold_ag L (Ag.refl j m) x]
theorem filter_split {p : Chg → Bool} {c : Chg} : ∀ {L A1 A2 : List Chg}, L.filter p = A1 ++ c :: A2 → ∃ L1 L2, L = L1 ++ c :: L2 ∧ L1.filter p = A1
  | [], A1, A2, h => by simp at h
  | x :: L, A1, A2, h => by
    by_cases hp : p x = true
    · rw [List.filter_cons_of_pos hp] at h
      cases A1 with
      | nil =>
        simp only [List.nil_append, List.cons.injEq] at h
        exact ⟨[], L, by rw [h.1]; rfl, rfl⟩
      | cons y A1 =>
        simp only [List.cons_append, List.cons.injEq] at h
        obtain ⟨L1, L2, e1, e2⟩ := filter_split h.2
        exact ⟨x :: L1, L2, by rw [e1]; rfl, by rw [List.filter_cons_of_pos hp, e2, h.1]⟩
    · rw [List.filter_cons_of_neg hp] at h
      obtain ⟨L1, L2, e1, e2⟩ := filter_split h
      exact ⟨x :: L1, L2, by rw [e1]; rfl, by rw [List.filter_cons_of_neg hp, e2]⟩
theorem Src.on (h : Src m L) (i : Int) : Src m (onD i L) := by
  intro A1 c A2 e hc
  have hci : c.node = i := by
    have : c ∈ onD i L := by rw [e]; simp
    simpa [onD] using (List.mem_filter.1 this).2
  obtain ⟨L1, L2, e1, e2⟩ := filter_split e
  have := h L1 c L2 e1 hc
  rw [hci] at this ⊢
  have h3 := fold_ag (j := i) L1 (Ag.refl i m) c.src
  rw [h3] at this
  have e3 : onD i L1 = A1 := e2
  rw [e3] at this
  exact this
theorem Src.rest (h : Src m L) (i : Int) : Src ((onD i L).foldl entG m) (restOf i L) := by
  intro A1 c A2 e hc
  have hci : c.node ≠ i := by
    have : c ∈ restOf i L := by rw [e]; simp
    simpa [restOf] using (List.mem_filter.1 this).2
  obtain ⟨L1, L2, e1, e2⟩ := filter_split e
  have := h L1 c L2 e1 hc
  have h1 : Ag c.node ((onD i L).foldl entG m) m := fold_off fun x hx => by
    have : x.node = i := by simpa [onD] using (List.mem_filter.1 hx).2
    rw [this]; exact Ne.symm hci
  have e3 : restOf i L1 = A1 := e2
  rw [fold_ag A1 h1 c.src, ← e3, on_rest hci]
  rw [fold_ag L1 (Ag.refl c.node m) c.src] at this
  exact this
theorem fold_val : ∀ {L : List Chg} {m : Slt → Option Int} {s : Slt} {k : Int}, L.foldl entG m s = some k → (∃ t, m t = some k) ∨ (∃ c ∈ L, c.what = 2 ∧ k = c.target) ∨ k = 0
  | [], m, s, k, h => .inl ⟨s, h⟩
  | c :: L, m, s, k, h => by
    rw [List.foldl_cons] at h
    rcases fold_val h with ⟨t, ht⟩ | ⟨x, hx, h2⟩ | h0
    · rcases ent_val ht with h1 | h2 | h0
      · exact .inl h1
      · exact .inr (.inl ⟨c, by simp, h2⟩)
      · exact .inr (.inr h0)
    · exact .inr (.inl ⟨x, by simp [hx], h2⟩)
    · exact .inr (.inr h0)
theorem Fresh.on (h : Fresh m L) (i : Int) : Fresh m (onD i L) := ⟨fun c hc => h.out c (List.mem_filter.1 hc).1, h.apart.filter _⟩
theorem apart_ne (h : Apart L) {x y : Chg} (hx : x ∈ L) (hy : y ∈ L) (hne : x.node ≠ y.node) (h2 : x.what = 2) (h2' : y.what = 2) : x.target ≠ y.target := by
  obtain ⟨i, hi, e1⟩ := List.getElem_of_mem hx
  obtain ⟨j, hj, e2⟩ := List.getElem_of_mem hy
  have hp := List.pairwise_iff_getElem.1 h
  rcases Nat.lt_trichotomy i j with h' | h' | h'
  · have := hp i j hi hj h'
    rw [e1, e2] at this
    exact this h2 h2'
  · subst h'
    rw [e1] at e2
    exact absurd (by rw [e2]) hne
  · have := hp j i hj hi h'
    rw [e1, e2] at this
    exact Ne.symm (this h2' h2)
theorem Fresh.rest (h : Fresh m L) (hs : ∀ x ∈ L, Sc n x) (i : Int) : Fresh ((onD i L).foldl entG m) (restOf i L) := by
  refine ⟨fun c hc h2 s he => ?_, h.apart.filter _⟩
  have hcL := (List.mem_filter.1 hc).1
  have hci : c.node ≠ i := by simpa [restOf] using (List.mem_filter.1 hc).2
  rcases fold_val he with ⟨t, ht⟩ | ⟨x, hx, h2', hk⟩ | h0
  · exact h.out c hcL h2 t ht
  · have hxi : x.node = i := by simpa [onD] using (List.mem_filter.1 hx).2
    exact apart_ne h.apart hcL (List.mem_filter.1 hx).1 (by rw [hxi]; exact hci) h2 h2' hk
  · have := (hs c hcL).tgt h2
    omega
end
end Go.Proofs.YtojnickeblbgoaaDoor
