/-
  THE LIFT, part O: what is read of arguments: slices and structs.
-/
import Derived.Test.YthlpfhjcdedhgaaDoorLiftS
import Derived.ChangeArms
namespace Go.Lift

section
variable {H : Type} {enc : TypeId × Value → H} {P : Program} {w : World}

theorem cells_get {base : Nat} {a : Addr} {n : Nat} {cs : List Value} (h : w.cells? base a n = some cs) : cs.length = n ∧ ∀ j, j < n → w.cell? (a.add j) = cs[j]? := by
  unfold World.cells? at h
  split at h
  · have hl := mapM_some_length h
    refine ⟨by simpa using hl, fun j hj => mapM_some_get h j j (by simp [hj])⟩
  · cases h
theorem cell_some {a : Addr} {v : Value} (h : w.cell? a = some v) : a.spot = none ∧ ∃ l, bk w a.block = some l ∧ l[a.off]? = some v := by
  unfold World.cell? at h
  unfold bk
  cases hh : w.heap[a.block]? with
  | none => simp [hh] at h
  | some x =>
    cases x with
    | cells c t m =>
      simp only [hh] at h ⊢
      split at h
      · cases h
      · rename_i hs
        refine ⟨?_, c.toList, rfl, by simpa using h⟩
        cases hsp : a.spot with
        | none => rfl
        | some s => rw [hsp] at hs; simp at hs
    | _ => simp [hh] at h

/-- A slice that is read: as a list of elements, each of which is read. -/
theorem open_sl {t e : TypeId} {fuel k : Nat} {cs : List Value} {x : DataW H × List MemPlace} (ht : P.underlying t = some (.slice e)) (hk : P.cellsOf e = k) (hk0 : 0 < k)
    (h : DataW.trod enc P w 0 (fun _ => true) true fuel t cs = some x) :
    ∃ v els, cs = [v] ∧ Sl k w v els ∧ ((x.1 = .nil ∧ els = []) ∨ ∃ Ds spare, x.1 = .slice Ds spare ∧ Ds.length = els.length ∧
      ∀ (i : Nat) (c : List Value) (d : DataW H), els[i]? = some c → Ds[i]? = some d → ∃ n ps, DataW.trod enc P w 0 (fun _ => true) true n e c = some (d, ps)) := by
  rcases DataW.trod_slice ht h with ⟨rfl, rfl⟩ | ⟨a, len, cap, elems, rest, n, _, rfl, rfl, hb, hl, hm, hlen, hel, hsp, hns⟩
  · exact ⟨_, [], rfl, Sl.nil k w, .inl ⟨rfl, rfl⟩⟩
  obtain ⟨hrl, hrs⟩ := hsp rfl
  rw [hk] at hel hrs
  have hall : ∀ i, i < cap → ∃ c' y, w.cells? 0 (a.add (i * k)) k = some c' ∧ DataW.trod enc P w 0 (fun _ => true) true n e c' = some y ∧ (i < len → elems[i]? = some y) := by
    intro i hi
    by_cases hil : i < len
    · have h1 := hel i hil
      rw [List.getElem?_eq_getElem (by omega)] at h1
      obtain ⟨c', h2, h3⟩ := Option.bind_eq_some_iff.1 h1
      exact ⟨c', _, h2, h3, fun _ => List.getElem?_eq_getElem (by omega)⟩
    · have h1 := hrs (i - len) (by omega)
      rw [show len + (i - len) = i by omega, List.getElem?_eq_getElem (by omega)] at h1
      obtain ⟨c', h2, h3⟩ := Option.bind_eq_some_iff.1 h1
      exact ⟨c', _, h2, h3, fun h => absurd h hil⟩
  by_cases hc0 : cap = 0
  · have hl0 : len = 0 := by omega
    subst hc0; subst hl0
    refine ⟨_, [], rfl, ⟨by simp, some a, 0, rfl, Nat.le_refl _, .inl rfl⟩, .inr ⟨_, _, rfl, by simp [hlen], fun i c d hi => by simp at hi⟩⟩
  obtain ⟨b, o, sp⟩ := a
  have h00 : w.cell? ⟨b, o, sp⟩ ≠ none := by
    obtain ⟨c', y, h1, _⟩ := hall 0 (by omega)
    have h2 := (cells_get h1).2 0 hk0
    have h3 := (cells_get h1).1
    have e : ((⟨b, o, sp⟩ : Addr).add (0 * k)).add 0 = ⟨b, o, sp⟩ := by simp [Addr.add]
    rw [e, List.getElem?_eq_getElem (by omega)] at h2
    rw [h2]; simp
  obtain ⟨v0, hv0⟩ := Option.ne_none_iff_exists'.1 h00
  obtain ⟨hsp0, l, hbk, _⟩ := cell_some hv0
  simp only at hsp0 hbk
  subst hsp0
  have hread : ∀ i j, i < cap → j < k → ∃ c', w.cells? 0 ((⟨b, o, none⟩ : Addr).add (i * k)) k = some c' ∧ l[o + i * k + j]? = c'[j]? ∧ o + i * k + j < l.length := by
    intro i j hi hj
    obtain ⟨c', y, h1, _⟩ := hall i hi
    have h2 := (cells_get h1).2 j hj
    have h3 := (cells_get h1).1
    rw [Addr.add_lit, Addr.add_lit, List.getElem?_eq_getElem (by omega)] at h2
    obtain ⟨_, l', hbk', hg⟩ := cell_some h2
    simp only at hbk' hg
    rw [hbk] at hbk'; cases hbk'
    refine ⟨c', h1, ?_, (List.getElem?_eq_some_iff.1 hg).1⟩
    rw [hg, List.getElem?_eq_getElem (by omega)]
  have hfit : o + cap * k ≤ l.length := by
    obtain ⟨_, _, _, h1⟩ := hread (cap - 1) (k - 1) (by omega) (by omega)
    obtain ⟨q, hq⟩ : ∃ q, cap = q + 1 := ⟨cap - 1, by omega⟩
    rw [hq, show q + 1 - 1 = q by omega] at h1
    rw [hq, Nat.add_mul]
    omega
  have hels : ∀ m, m ≤ cap → ((List.range m).map fun i => (l.drop (o + i * k)).take k).flatten = (l.drop o).take (m * k) := by
    intro m
    induction m with
    | zero => intro _; simp
    | succ m ih =>
      intro hmc
      rw [List.range_succ, List.map_append, List.flatten_append, ih (by omega)]
      simp only [List.map_cons, List.map_nil, List.flatten_cons, List.flatten_nil, List.append_nil]
      rw [Nat.add_mul, Nat.one_mul, List.take_add, List.drop_drop]
  have hlk : len * k ≤ cap * k := Nat.mul_le_mul_right _ hl
  refine ⟨_, (List.range len).map fun i => (l.drop (o + i * k)).take k, rfl, ⟨?_, some ⟨b, o, none⟩, cap, by simp, by simpa using hl, .inr ⟨b, o, l, rfl, hbk, hfit, ?_⟩⟩, .inr ⟨_, _, rfl, by simp [hlen], ?_⟩⟩
  · intro c hc
    obtain ⟨i, hi, rfl⟩ := List.mem_map.1 hc
    have hi' : i < len := List.mem_range.1 hi
    have : (i + 1) * k ≤ cap * k := Nat.mul_le_mul_right _ (by omega)
    rw [Nat.add_mul] at this
    rw [List.length_take, List.length_drop]
    omega
  · rw [hels len hl]; simp
  · intro i c d hc hd
    have hil : i < len := by
      have := (List.getElem?_eq_some_iff.1 hc).1
      simpa using this
    simp [hil] at hc
    obtain ⟨c', y, h1, h2, h3⟩ := hall i (by omega)
    have he := h3 hil
    rw [List.getElem?_map, he] at hd
    simp at hd
    subst hd
    refine ⟨n, y.2, ?_⟩
    have hcc : c = c' := by
      have hcl := (cells_get h1).1
      have : (i + 1) * k ≤ cap * k := Nat.mul_le_mul_right _ (by omega)
      rw [Nat.add_mul] at this
      apply List.ext_getElem?
      intro j
      by_cases hj : j < k
      · obtain ⟨c2, h4, h5, h6⟩ := hread i j (by omega) hj
        rw [h1] at h4; cases h4
        rw [← h5, ← hc, List.getElem?_take, if_pos hj, List.getElem?_drop]
      · rw [List.getElem?_eq_none (by rw [← hc, List.length_take]; omega), List.getElem?_eq_none (by omega)]
    rw [hcc]; exact h2
end
end Go.Lift
