/-
  Layer 1 (disk), part O: what a crash leaves of a file that is replaced.
-/
import Derived.Test.YtojnickeblbgoaaDoorDiskN
namespace Go.Proofs.YtojnickeblbgoaaDoor
set_option linter.unusedVariables false
open Go.Lift
set_option linter.unusedSimpArgs false
set_option maxHeartbeats 4000000

def LT : ByteArray := ByteArray.mk #[108, 97, 116, 101, 115, 116]
def LN : ByteArray := ByteArray.mk #[108, 97, 116, 101, 115, 116, 46, 110, 101, 119]
abbrev kT : Slt := (0, LT)
abbrev kN : Slt := (0, LN)
theorem nt : kN ≠ kT := by decide
theorem tn : kT ≠ kN := by decide
/-- What is kept: the file 'latest' has these bytes, and there is at most one other, 'latest.new'. -/
structure Sf (B : Nat) (f : Nat) (V : ByteArray) (st : CSt) : Prop where
  top : st.2 kT = some (f : Int)
  file : ∃ nd, st.1[f]? = some nd ∧ nd.kind = 2 ∧ nd.kept = V
  only : ∀ s k, st.2 s = some k → s = kT ∨ s = kN
  other : ∀ k, st.2 kN = some k → ∃ g : Nat, k = g ∧ ∃ nd, st.1[g]? = some nd ∧ nd.kind = 2
  dir : isDir st.1
  small : ∀ nd ∈ st.1, nd.seen.size ≤ B ∧ nd.kept.size ≤ B

theorem cStep_ent {N : List Nd} {K : Slt → Option Int} (hN : isDir N) {c : Chg} (hc : isEnt c) : cStep (N, K) c = (N, entF K c) := by
  obtain ⟨n0, h1, h2⟩ := hN
  have hn : ndAt N c.node = n0 := by simp [ndAt, hc.1, h1]
  simp only [cStep, hn]
  rw [ent_data hc, ent_map hc _ e0, hc.1]
  rw [show ({ n0 with kept := n0.kept } : Nd) = n0 from rfl]
  exact Prod.ext (set_same h1) rfl
theorem cFold_ents {N : List Nd} (hN : isDir N) : ∀ {P : List Chg} (K : Slt → Option Int), (∀ c ∈ P, isEnt c) → P.foldl cStep (N, K) = (N, P.foldl entF K) ∧ crashOk (N, K) P
  | [], K, _ => ⟨rfl, trivial⟩
  | c :: P, K, h => by
    have hc := h c (by simp)
    have ih := cFold_ents hN (P := P) (entF K c) fun c hc => h c (by simp [hc])
    refine ⟨?_, ?_, ?_⟩
    · rw [List.foldl_cons, cStep_ent hN hc]; exact ih.1
    · obtain ⟨n0, h1, _⟩ := hN
      have := (List.getElem?_eq_some_iff.1 h1).1
      exact ⟨by rw [hc.1]; exact Int.le_refl _, by rw [hc.1]; simp only; omega, ent_fits hc _⟩
    · rw [cStep_ent hN hc]; exact ih.2
theorem crashOk_app {st : CSt} {P Q : List Chg} : crashOk st P → crashOk (P.foldl cStep st) Q → crashOk st (P ++ Q) := by
  induction P generalizing st with
  | nil => intro _ h; exact h
  | cons c P ih => intro h1 h2; exact ⟨h1.1, ih h1.2 h2⟩
theorem ent_ne {c : Chg} (h : isEnt c) : c.what ≠ 0 := by obtain ⟨_, h | h | h⟩ := h <;> rw [h] <;> decide
theorem crash_ents {P : List Chg} (h : ∀ c ∈ P, isEnt c) (keep torn : Int) : ∃ k, crashL P keep torn = P.take k := by
  refine ⟨clampN keep P.length, ?_⟩
  unfold crashL
  cases hk : P[clampN keep P.length]? with
  | none => simp
  | some c =>
    have := ent_ne (h c (List.mem_of_getElem? hk))
    simp [this]
theorem crash_grow {P : List Chg} (hP : ∀ c ∈ P, isEnt c) (h : Nat) (data : ByteArray) (keep torn : Int) :
    (∃ k, crashL (P ++ [cGrow h data]) keep torn = P.take k) ∨ ∃ x, x.size ≤ data.size ∧ crashL (P ++ [cGrow h data]) keep torn = P ++ [cGrow h x] := by
  unfold crashL
  have hle := clamp_le keep (P ++ [cGrow h data]).length
  generalize clampN keep (P ++ [cGrow h data]).length = k at *
  rw [List.length_append, List.length_singleton] at hle
  rcases Nat.lt_trichotomy k P.length with hk | hk | hk
  · left
    refine ⟨k, ?_⟩
    have e : (P ++ [cGrow h data])[k]? = some P[k] := by rw [List.getElem?_append_left hk]; exact List.getElem?_eq_getElem hk
    have := ent_ne (hP _ (List.getElem_mem hk))
    rw [e]
    simp only [this, if_false, List.append_nil]
    rw [List.take_append_of_le_length (by omega)]
  · right
    subst hk
    refine ⟨data.extract 0 (clampN torn data.size), ?_, ?_⟩
    · have := clamp_le torn data.size
      rw [ByteArray.size_extract]; omega
    · simp [cGrow]
  · right
    have : k = (P ++ [cGrow h data]).length := by simp; omega
    subst this
    refine ⟨data, Nat.le_refl _, ?_⟩
    rw [List.take_length, List.getElem?_eq_none (Nat.le_refl _)]
    simp

theorem entF_gone (K : Slt → Option Int) (x : ByteArray) : entF K (cGone x) = fdel K (0, x) := by simp [entF, applyF, cGone]
theorem entF_link (K : Slt → Option Int) (x : ByteArray) (h : Nat) : entF K (cLink x h) = fput K (0, x) (h : Int) := by simp [entF, applyF, cLink]
theorem entF_move (K : Slt → Option Int) (x y : ByteArray) : entF K (cMove x y) = fput (fdel K (0, x)) (0, y) ((K (0, x)).getD 0) := by simp [entF, applyF, cMove]
section
variable {B f : Nat} {V : ByteArray} {N : List Nd} {K : Slt → Option Int}
theorem Sf.gone (h : Sf B f V (N, K)) : Sf B f V (N, entF K (cGone LN)) := by
  rw [entF_gone]
  refine ⟨?_, h.file, fun s k hs => ?_, fun k hs => ?_, h.dir, h.small⟩
  · simp only [fdel, if_neg tn]; exact h.top
  · simp only [fdel] at hs
    split at hs
    · cases hs
    · exact h.only s k hs
  · simp [fdel] at hs
theorem Sf.link (h : Sf B f V (N, K)) {g : Nat} {nd : Nd} (hg : N[g]? = some nd) (hk : nd.kind = 2) : Sf B f V (N, entF K (cLink LN g)) := by
  rw [entF_link]
  refine ⟨?_, h.file, fun s k hs => ?_, fun k hs => ?_, h.dir, h.small⟩
  · simp only [fput, if_neg tn]; exact h.top
  · simp only [fput] at hs
    split at hs
    · rename_i he; exact .inr he
    · exact h.only s k hs
  · simp only [fput, if_true, Option.some.injEq] at hs
    exact ⟨g, hs.symm, nd, hg, hk⟩
theorem Sf.move (h : Sf B f V (N, K)) {g : Nat} {nd : Nd} {data : ByteArray} (he : K kN = some (g : Int)) (hg : N[g]? = some nd) (hk : nd.kind = 2) (hd : nd.kept = data) : Sf B g data (N, entF K (cMove LN LT)) := by
  rw [entF_move]
  refine ⟨?_, ⟨nd, hg, hk, hd⟩, fun s k hs => ?_, fun k hs => ?_, h.dir, h.small⟩
  · simp only [fput, if_true, he]; rfl
  · simp only [fput] at hs
    split at hs
    · rename_i he; exact .inl he
    · simp only [fdel] at hs
      split at hs
      · cases hs
      · exact h.only s k hs
  · simp only [fput, if_neg nt, fdel, if_true] at hs
    cases hs
theorem Sf.grow (h : Sf B f V (N, K)) {g : Nat} {nd : Nd} {x : ByteArray} (hg : N[g]? = some nd) (hk : nd.kind = 2) (hgf : g ≠ f) (hx : nd.kept.size + x.size ≤ B) (hB : B ≤ 4611686018427387904) : Sf B f V (cStep (N, K) (cGrow g x)) ∧ crashOk (N, K) [cGrow g x] := by
  have hgl := (List.getElem?_eq_some_iff.1 hg).1
  have hn : ndAt N (cGrow g x).node = nd := by simp [ndAt, cGrow, hg]
  have hB := h.small
  constructor
  · have e : cStep (N, K) (cGrow g x) = (N.set g { nd with kept := nd.kept ++ x }, K) := by
      simp only [cStep, hn]
      simp [applyF, cGrow]
    rw [e]
    have hkeep : ∀ (i : Nat) a, N[i]? = some a → ∃ b, (N.set g { nd with kept := nd.kept ++ x })[i]? = some b ∧ b.kind = a.kind ∧ (i ≠ g → b = a) := by
      intro i a ha
      by_cases hi : g = i
      · subst hi
        rw [hg] at ha; cases ha
        exact ⟨_, List.getElem?_set_self hgl, rfl, fun h => absurd rfl h⟩
      · exact ⟨a, by rw [List.getElem?_set_ne hi]; exact ha, rfl, fun _ => rfl⟩
    refine ⟨h.top, ?_, h.only, fun k hs => ?_, ?_, fun a ha => ?_⟩
    · obtain ⟨nf, f1, f2, f3⟩ := h.file
      obtain ⟨b, b1, b2, b3⟩ := hkeep f nf f1
      exact ⟨b, b1, by rw [b2]; exact f2, by rw [b3 (Ne.symm hgf)]; exact f3⟩
    · obtain ⟨i, i1, a, i2, i3⟩ := h.other k hs
      obtain ⟨b, b1, b2, b3⟩ := hkeep i a i2
      exact ⟨i, i1, b, b1, by rw [b2]; exact i3⟩
    · obtain ⟨n0, n1, n2⟩ := h.dir
      obtain ⟨b, b1, b2, b3⟩ := hkeep 0 n0 n1
      exact ⟨b, b1, by rw [b2]; exact n2⟩
    · rcases List.mem_or_eq_of_mem_set ha with h' | h'
      · exact hB a h'
      · subst h'
        have := hB nd (List.mem_of_getElem? hg)
        exact ⟨this.1, by rw [ByteArray.size_append]; omega⟩
  · refine ⟨⟨?_, ?_, fun _ => ?_, fun h => ?_⟩, trivial⟩
    · simp [cGrow]
    · simp [cGrow]; omega
    · rw [hn]; simp only [cGrow]; omega
    · simp [cGrow] at h
/-- The first pending change: nothing, or the old 'latest.new' gone. -/
def isP0 (P : List Chg) : Prop := P = [] ∨ P = [cGone LN]
theorem isP0.ent {P : List Chg} (h : isP0 P) : ∀ c ∈ P, isEnt c := by
  rcases h with rfl | rfl
  · intro c hc; cases hc
  · intro c hc; obtain rfl := List.mem_singleton.1 hc; exact gone_ent LN
theorem sf_pre0 (h : Sf B f V (N, K)) {P : List Chg} (hP : isP0 P) (k : Nat) : Sf B f V (N, (P.take k).foldl entF K) := by
  rcases hP with rfl | rfl
  · simpa using h
  · match k with
    | 0 => exact h
    | k + 1 => simpa using h.gone
theorem sf_pre1 (h : Sf B f V (N, K)) {P : List Chg} (hP : isP0 P) {g : Nat} {nd : Nd} (hg : N[g]? = some nd) (hk : nd.kind = 2) (k : Nat) : Sf B f V (N, ((P ++ [cLink LN g]).take k).foldl entF K) := by
  rcases hP with rfl | rfl
  · match k with
    | 0 => exact h
    | k + 1 => simpa using h.link hg hk
  · match k with
    | 0 => exact h
    | 1 => simpa using h.gone
    | k + 2 => simpa using h.gone.link hg hk
theorem sf_pre2 (h : Sf B f V (N, K)) {P : List Chg} (hP : isP0 P) {g : Nat} {nd : Nd} (hg : N[g]? = some nd) (hk : nd.kind = 2) (k : Nat) :
    Sf B f V (N, ((P ++ [cLink LN g, cMove LN LT]).take k).foldl entF K) ∨ Sf B g nd.kept (N, ((P ++ [cLink LN g, cMove LN LT]).take k).foldl entF K) := by
  rcases hP with rfl | rfl
  · match k with
    | 0 => exact .inl h
    | 1 => exact .inl (by simpa using h.link hg hk)
    | k + 2 => exact .inr (by simpa using (h.link hg hk).move (by rw [entF_link]; simp [fput]) hg hk rfl)
  · match k with
    | 0 => exact .inl h
    | 1 => exact .inl (by simpa using h.gone)
    | 2 => exact .inl (by simpa using h.gone.link hg hk)
    | k + 3 => exact .inr (by simpa using (h.gone.link hg hk).move (by rw [entF_link]; simp [fput]) hg hk rfl)
theorem sf_all2 (h : Sf B f V (N, K)) {P : List Chg} (hP : isP0 P) {g : Nat} {nd : Nd} (hg : N[g]? = some nd) (hk : nd.kind = 2) :
    Sf B g nd.kept (N, (P ++ [cLink LN g, cMove LN LT]).foldl entF K) := by
  rcases hP with rfl | rfl
  · exact (h.link hg hk).move (by rw [entF_link]; simp [fput]) hg hk rfl
  · exact (h.gone.link hg hk).move (by rw [entF_link]; simp [fput]) hg hk rfl
theorem Sf.app (h : Sf B f V (N, K)) {n : Nd} (hn : n.seen.size ≤ B ∧ n.kept.size ≤ B) : Sf B f V (N ++ [n], K) := by
  have hl : ∀ (i : Nat) a, N[i]? = some a → (N ++ [n])[i]? = some a := fun i a ha => by rw [List.getElem?_append_left (List.getElem?_eq_some_iff.1 ha).1]; exact ha
  obtain ⟨nf, f1, f2, f3⟩ := h.file
  refine ⟨h.top, ⟨nf, hl _ _ f1, f2, f3⟩, h.only, fun k hs => ?_, h.dir.app, fun a ha => ?_⟩
  · obtain ⟨g, g1, a, g2, g3⟩ := h.other k hs
    exact ⟨g, g1, a, hl _ _ g2, g3⟩
  · rcases List.mem_append.1 ha with ha | ha
    · exact h.small a ha
    · obtain rfl := List.mem_singleton.1 ha; exact hn

/-- What a crash leaves. -/
def Left (B : Nat) (st : CSt) (L : List Chg) (V : ByteArray) : Prop := crashOk st L ∧ ∃ f, Sf B f V (L.foldl cStep st)
theorem left_ents {P : List Chg} (hN : isDir N) (hP : ∀ c ∈ P, isEnt c) (keep torn : Int) {C : ByteArray → Prop} (h : ∀ k, ∃ f V, C V ∧ Sf B f V (N, (P.take k).foldl entF K)) : ∃ V, C V ∧ Left B (N, K) (crashL P keep torn) V := by
  obtain ⟨k, e⟩ := crash_ents hP keep torn
  obtain ⟨f, V, hc, hs⟩ := h k
  obtain ⟨h1, h2⟩ := cFold_ents hN (P := P.take k) K fun c hc => hP c (List.mem_of_mem_take hc)
  rw [e]
  exact ⟨V, hc, h2, f, by rw [h1]; exact hs⟩
/-- The stages of a go: nodes N, what is kept K, pending P; new bytes. -/
def goS (N : List Nd) (S K : Slt → Option Int) (P : List Chg) (data : ByteArray) : Nat → Stage
  | 0 => ⟨N ++ [⟨2, e0, e0⟩], S, K, P⟩
  | 1 => ⟨N ++ [⟨2, e0, e0⟩], fput S kN (N.length : Int), K, P ++ [cLink LN N.length]⟩
  | 2 => ⟨N ++ [⟨2, data, e0⟩], fput S kN (N.length : Int), K, P ++ [cLink LN N.length] ++ [cGrow N.length data]⟩
  | 3 => ⟨N ++ [⟨2, data, data⟩], fput S kN (N.length : Int), K, P ++ [cLink LN N.length]⟩
  | 4 => ⟨N ++ [⟨2, data, data⟩], entF (fput S kN (N.length : Int)) (cMove LN LT), K, P ++ [cLink LN N.length] ++ [cMove LN LT]⟩
  | _ => ⟨N ++ [⟨2, data, data⟩], entF (fput S kN (N.length : Int)) (cMove LN LT), (P ++ [cLink LN N.length] ++ [cMove LN LT]).foldl entF K, []⟩
theorem go_left (h : Sf B f V (N, K)) {S : Slt → Option Int} {P : List Chg} (hP : isP0 P) {data : ByteArray} (hd : data.size ≤ B) (hB : B ≤ 4611686018427387904) {a : Nat} (ha : a ≤ 5) (keep torn : Int) :
    ∃ V', ((a < 4 → V' = V) ∧ (a = 5 → V' = data) ∧ (V' = V ∨ V' = data)) ∧ Left B ((goS N S K P data a).N, (goS N S K P data a).K) (crashL (goS N S K P data a).P keep torn) V' := by
  have hz : (e0.size ≤ B) := Nat.zero_le _
  have hg : ∀ n : Nd, (N ++ [n])[N.length]? = some n := fun n => by simp
  have hfl : N.length ≠ f := by
    obtain ⟨nf, f1, _⟩ := h.file
    have hf1 : f < N.length := (List.getElem?_eq_some_iff.1 f1).1
    omega
  have hent1 : ∀ c ∈ P ++ [cLink LN N.length], isEnt c := fun c hc => (List.mem_append.1 hc).elim (hP.ent c) fun hc => by obtain rfl := List.mem_singleton.1 hc; exact link_ent _ _
  have hent2 : ∀ c ∈ P ++ [cLink LN N.length] ++ [cMove LN LT], isEnt c := fun c hc => (List.mem_append.1 hc).elim (hent1 c) fun hc => by obtain rfl := List.mem_singleton.1 hc; exact move_ent _ _
  have eP : P ++ [cLink LN N.length] ++ [cMove LN LT] = P ++ [cLink LN N.length, cMove LN LT] := by simp
  match a, ha with
  | 0, _ => 
    have h0 := h.app (n := ⟨2, e0, e0⟩) ⟨hz, hz⟩
    exact left_ents h0.dir hP.ent keep torn fun k => ⟨f, V, ⟨fun _ => rfl, fun h => (by omega), .inl rfl⟩, sf_pre0 h0 hP k⟩
  | 1, _ =>
    have h0 := h.app (n := ⟨2, e0, e0⟩) ⟨hz, hz⟩
    exact left_ents h0.dir hent1 keep torn fun k => ⟨f, V, ⟨fun _ => rfl, fun h => (by omega), .inl rfl⟩, sf_pre1 h0 hP (hg _) rfl k⟩
  | 2, _ =>
    have h0 := h.app (n := ⟨2, data, e0⟩) ⟨hd, hz⟩
    refine ⟨V, ⟨fun _ => rfl, fun h => (by omega), .inl rfl⟩, ?_⟩
    rcases crash_grow hent1 N.length data keep torn with ⟨k, e⟩ | ⟨x, hx, e⟩
    · obtain ⟨h1, h2⟩ := cFold_ents h0.dir (P := (P ++ [cLink LN N.length]).take k) K fun c hc => hent1 c (List.mem_of_mem_take hc)
      simp only [goS]
      rw [e]
      exact ⟨h2, f, by rw [h1]; exact sf_pre1 h0 hP (hg _) rfl k⟩
    · obtain ⟨h1, h2⟩ := cFold_ents h0.dir (P := P ++ [cLink LN N.length]) K hent1
      have h3 := sf_pre1 h0 hP (hg ⟨2, data, e0⟩) rfl (P ++ [cLink LN N.length]).length
      rw [List.take_length] at h3
      obtain ⟨g1, g2⟩ := h3.grow (hg ⟨2, data, e0⟩) rfl hfl (x := x) (by show 0 + x.size ≤ B; omega) hB
      simp only [goS]
      rw [e]
      refine ⟨crashOk_app h2 (by rw [h1]; exact g2), f, ?_⟩
      rw [List.foldl_append, h1]
      exact g1
  | 3, _ =>
    have h0 := h.app (n := ⟨2, data, data⟩) ⟨hd, hd⟩
    exact left_ents h0.dir hent1 keep torn fun k => ⟨f, V, ⟨fun _ => rfl, fun h => (by omega), .inl rfl⟩, sf_pre1 h0 hP (hg _) rfl k⟩
  | 4, _ =>
    have h0 := h.app (n := ⟨2, data, data⟩) ⟨hd, hd⟩
    refine left_ents h0.dir hent2 keep torn fun k => ?_
    rw [eP]
    rcases sf_pre2 h0 hP (hg ⟨2, data, data⟩) rfl k with h' | h'
    · exact ⟨f, V, ⟨fun _ => rfl, fun h => (by omega), .inl rfl⟩, h'⟩
    · exact ⟨_, data, ⟨fun h => by omega, fun h => (by omega), .inr rfl⟩, h'⟩
  | 5, _ =>
    have h0 := h.app (n := ⟨2, data, data⟩) ⟨hd, hd⟩
    refine left_ents (P := []) h0.dir (fun c hc => by cases hc) keep torn fun k => ?_
    have t := sf_all2 h0 hP (hg ⟨2, data, data⟩) rfl
    rw [← eP] at t
    exact ⟨_, data, ⟨fun h => by omega, fun h => rfl, .inr rfl⟩, by rw [List.take_nil]; exact t⟩
end
end Go.Proofs.YtojnickeblbgoaaDoor
