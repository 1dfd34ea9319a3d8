/-
  THE LIFT, part U: parts of slices.
-/
import Derived.Test.YthlpfhjcdedhgaaDoorLiftS
namespace Go.Lift

section
variable {k : Nat} {w w' : World} {v x : Value} {els fls : List (List Value)}
theorem flat_take : ∀ {els : List (List Value)} (n : Nat), (∀ e ∈ els, e.length = k) → els.flatten.take (n * k) = (els.take n).flatten
  | [], n, _ => by simp
  | e :: els, 0, _ => by simp
  | e :: els, n + 1, h => by
    have he : e.length = k := h e (by simp)
    have ih := flat_take n fun x hx => h x (List.mem_cons_of_mem _ hx)
    simp only [List.flatten_cons, List.take_succ_cons, List.flatten_cons]
    rw [List.take_append, he, List.take_of_length_le (by rw [he, Nat.add_mul]; omega), show (n + 1) * k - k = n * k by rw [Nat.add_mul]; omega, ih]
/-- The first n elements of a slice. -/
theorem Sl.take (h : Sl k w v els) {n : Nat} (hn : n ≤ els.length) (kd : IntKind) : ∃ v', sliceV k v none (some (.int kd n)) = some v' ∧ Sl k w v' (els.take n) ∧ ∀ b, inB v' b → inB v b := by
  obtain ⟨h1, a, c, rfl, h2, h3⟩ := h
  have hnc : n ≤ c := by omega
  have e : sliceV k (.slice a els.length c) none (some (.int kd n)) = some (.slice (if c = 0 then a else a.map (·.add (0 * k))) n c) := by
    simp [sliceV, highV, lowV, boundV, hnc]
  have hlt : (els.take n).length = n := by rw [List.length_take]; omega
  refine ⟨_, e, ⟨fun x hx => h1 x (List.mem_of_mem_take hx), (if c = 0 then a else a.map (·.add (0 * k))), c, by rw [hlt], by rw [hlt]; omega, ?_⟩, ?_⟩
  · by_cases hc : c = 0
    · exact .inl hc
    · rcases h3 with h3 | ⟨b, o, l, rfl, h4, h5, h6⟩
      · exact .inl h3
      · refine .inr ⟨b, o, l, by rw [if_neg hc]; simp [Addr.add_lit], h4, h5, ?_⟩
        rw [hlt]
        have hfl := flat_take n h1
        rw [← hfl, ← h6, List.take_take]
        congr 1
        have : n * k ≤ els.length * k := Nat.mul_le_mul_right _ hn
        omega
  · intro b hb
    cases a with
    | none => simp at hb
    | some a =>
      by_cases hc : c = 0
      · simpa [hc] using hb
      · simp only [hc, if_false, Option.map_some] at hb
        simp only [inB_slice] at hb ⊢
        rw [← hb]
        unfold Addr.add
        split <;> rfl
/-- A part of a slice that may be written, from element n on. -/
theorem SlW.drop (h : SlW k w v els) {n : Nat} (hn : n ≤ els.length) (kd : IntKind) : ∃ v', sliceV k v (some (.int kd n)) none = some v' ∧ SlW k w v' (els.drop n) ∧ ∀ b, inB v' b → inB v b := by
  obtain ⟨v', e1, e2, e3⟩ := h.1.drop hn kd
  refine ⟨v', e1, ⟨e2, fun b hb hc => h.2 b (e3 b hb) fun hz => hc ?_⟩, e3⟩
  obtain ⟨⟨h1, a, c, rfl, h2, h3⟩, _⟩ := h
  simp [capV] at hz
  subst hz
  obtain ⟨_, a', c', rfl, _, _⟩ := e2
  simp [sliceV, highV, lowV, boundV, hn] at e1
  simp [capV]
  omega
/-- The beginning of a slice, with the same address. -/
theorem Sl.pre {a : Option Addr} {n m c : Nat} (h : Sl k w (.slice a m c) els) (hn : n ≤ m) : Sl k w (.slice a n c) (els.take n) := by
  obtain ⟨h1, a', c', he, h2, h3⟩ := h
  cases he
  have hlt : (els.take n).length = n := by rw [List.length_take]; omega
  refine ⟨fun x hx => h1 x (List.mem_of_mem_take hx), a, c, by rw [hlt], by rw [hlt]; omega, ?_⟩
  rcases h3 with h3 | ⟨b, o, l, rfl, h4, h5, h6⟩
  · exact .inl h3
  · refine .inr ⟨b, o, l, rfl, h4, h5, ?_⟩
    rw [hlt]
    have hfl := flat_take n h1
    rw [← hfl, ← h6, List.take_take]
    congr 1
    have : n * k ≤ els.length * k := Nat.mul_le_mul_right _ hn
    omega
/-- append, in place or not. -/
theorem Run_appG {bytes e : Nat} {zero : Array Value} {s : Value} {Q : Value → World → Prop} (hs : SlW k w s els) (hx : Sl k w x fls) (hk : k ≠ 0) (hz : zero.size = k) (hb : bytes ≠ 0)
    (hc : ∀ e ∈ fls, e.all isCell = true) (small : (els.length + fls.length + (els.length + fls.length) / 4 + 192) * bytes ≤ 281474976710656)
    (q : ∀ r w', SlW k w' r (els ++ fls) → Fr (inB s) w w' → (∀ b, inB r b → inB s b ∨ (w.heap.size ≤ b ∧ b < w'.heap.size)) → ((∃ a c, s = .slice a els.length c ∧ r = .slice a (els.length + fls.length) c) ∨ (Fr (fun _ => False) w w' ∧ ∀ b, inB r b → w.heap.size ≤ b)) → Q r w') : Run (appM e k bytes zero s x) w Q := by
  have hs' := hs.1
  obtain ⟨⟨h1, a, c, rfl, h2, h3⟩, hw⟩ := hs
  have hxl := hx.lenN
  have hx1 := hx.1
  have hfl := flat_len h1
  have hfx := flat_len hx1
  have hall : ∀ e ∈ els ++ fls, e.length = k := fun e he => (List.mem_append.1 he).elim (h1 e) (hx1 e)
  have hcf : fls.flatten.all isCell = true := by
    rw [List.all_eq_true]
    intro y hy
    obtain ⟨e, he, hye⟩ := List.mem_flatten.1 hy
    exact List.all_eq_true.1 (hc e he) y hye
  have hnew : firstN w k fls.length x = some fls.flatten := by
    have hx' := hx
    obtain ⟨_, a', c', rfl, _⟩ := hx'
    exact ldN_sl hx
  unfold Run appM
  simp only [hxl]
  by_cases hroom : els.length + fls.length ≤ c
  · rw [if_pos hroom]
    simp only [hnew]
    cases a with
    | none =>
      rcases h3 with h3 | ⟨b, o, l, h4, _⟩
      · have he : els = [] := List.eq_nil_of_length_eq_zero (by omega)
        have hf : fls = [] := List.eq_nil_of_length_eq_zero (by omega)
        subst he; subst hf; subst h3
        exact ⟨_, _, rfl, q _ _ (SlW.nil k w) (Fr.refl _ _) (by simp) (.inl ⟨_, _, rfl, rfl⟩)⟩
      · cases h4
    | some a =>
      simp only []
      by_cases hf : fls.flatten = []
      · have hf0 : fls = [] := by
          apply List.eq_nil_of_length_eq_zero
          rw [hf] at hfx
          simp only [List.length_nil] at hfx
          rcases Nat.mul_eq_zero.1 hfx.symm with h | h
          · exact h
          · exact absurd h hk
        subst hf0
        simp only [List.flatten_nil, stN, if_true]
        refine ⟨_, _, rfl, q _ _ ?_ (Fr.refl _ _) (fun b hb => .inl hb) (.inl ⟨_, _, rfl, by simp⟩)⟩
        simp only [List.append_nil, List.length_nil, Nat.add_zero]
        exact ⟨hs', hw⟩
      · rcases h3 with h3 | ⟨b, o, l, h4, h5, h6, h7⟩
        · have hf : fls = [] := List.eq_nil_of_length_eq_zero (by omega)
          subst hf; simp at hf
        · cases h4
          have hf1 : fls.length ≠ 0 := fun h0 => hf (by rw [List.eq_nil_of_length_eq_zero h0]; rfl)
          have hwb := hw b rfl (by simp; omega)
          have hcc : (els.length + fls.length) * k ≤ c * k := Nat.mul_le_mul_right _ hroom
          rw [Nat.add_mul] at hcc
          simp only [Addr.add_lit, stN]
          rw [if_neg hf]
          simp only [h5]
          rw [if_pos ⟨⟨by omega, hcf⟩, hwb⟩]
          refine ⟨_, _, rfl, q _ _ ⟨⟨hall, _, c, by rw [List.length_append], by rw [List.length_append]; omega, .inr ⟨b, o, setL l (o + els.length * k) fls.flatten, rfl, by rw [bk_sto_eq, h5]; rfl, by rw [length_setL]; omega, ?_⟩⟩, ?_⟩ ?_ (fun b hb => .inl hb) (.inl ⟨_, _, rfl, rfl⟩)⟩
          · rw [List.length_append, Nat.add_mul, ← hfx, drop_take_setL (by omega) rfl, h7, List.flatten_append]
          · intro b' hb' _
            simp only [inB_slice] at hb'
            subst hb'
            simpa using hwb
          · exact (Fr.refl _ _).sto (.inl rfl) _ _
  · rw [if_neg hroom]
    have hg : Builtin.nextslicecap (els.length + fls.length) c * bytes ≤ 2 ^ 48 := growslice_fits_wide (by omega) small
    rw [if_neg (not_or.2 ⟨hb, Nat.not_lt.2 hg⟩)]
    simp only [ldN_sl hs', hnew]
    refine ⟨_, _, rfl, q _ _ ⟨⟨hall, some ⟨w.heap.size, 0, none⟩, _, by rw [List.length_append], ?_, .inr ⟨w.heap.size, 0, _, rfl, bk_alloc_at rfl _ _, ?_, ?_⟩⟩, ?_⟩ ((Fr.refl _ _).drew.alloc _) (fun b hb => .inr ?_) (.inr ⟨(Fr.refl _ _).drew.alloc _, fun b hb => by simp only [inB_slice] at hb; subst hb; simp⟩)⟩
    · rw [List.length_append]; simp only [Question.cut]; omega
    · have hge : els.length + fls.length ≤ (Question.appendCap (els.length + fls.length) c e).cut (w.tape w.drawn (.appendCap (els.length + fls.length) c e)) := by simp only [Question.cut]; omega
      generalize (Question.appendCap (els.length + fls.length) c e).cut (w.tape w.drawn (.appendCap (els.length + fls.length) c e)) = C at hge
      simp only [Array.toList_append, List.length_append, Array.length_toList, size_zeroCells, hz, hfl, hfx]
      rw [← Nat.add_mul, ← Nat.add_mul]
      rw [show els.length + fls.length + (C - (els.length + fls.length)) = C by omega]
      omega
    · simp only [Array.toList_append, List.drop_zero]
      rw [List.length_append, Nat.add_mul, ← hfl, ← hfx, List.flatten_append, ← List.length_append, List.take_left]
    · intro b' hb' _
      simp only [inB_slice] at hb'
      subst hb'
      exact wr_alloc_at (by simp) _ _
    · simp only [inB_slice] at hb
      subst hb
      simp
/-- append of one element, in place or not. -/
theorem Run_app1G {e e' bytes : Nat} {zero : Array Value} {s y : Value} {K : World → Value → World → Prop} (hes : y.cells.size = k) (hs : SlW k w s els) (hk : k ≠ 0) (hz : zero.size = k) (hb : bytes ≠ 0)
    (hc : y.cells.toList.all isCell = true) (small : (els.length + 1 + (els.length + 1) / 4 + 192) * bytes ≤ 281474976710656)
    (q : ∀ r w', SlW k w' r (els ++ [y.cells.toList]) → Fr (inB s) w w' → (∀ b, inB r b → inB s b ∨ (w.heap.size ≤ b ∧ b < w'.heap.size)) → ((∃ a c, s = .slice a els.length c ∧ r = .slice a (els.length + 1) c) ∨ (Fr (fun _ => False) w w' ∧ ∀ b, inB r b → w.heap.size ≤ b)) → ∀ w1, Fr (fun _ => False) w w1 → K w1 r w') :
    Run (bslM e' 1 (Builtin.zeroCells zero 1) [(0, k, y)]) w fun a w1 => Run (appM e k bytes zero s a) w1 fun r w' => K w1 r w' := by
  have hf : fillV (Builtin.zeroCells zero 1) [(0, k, y)] = some y.cells := by
    have := fillV_parts (k := k) [y] 0 (Builtin.zeroCells zero 1) (by simpa using hes) (by simp [size_zeroCells, hz])
    rw [show [(0, k, y)] = partsL k 0 [y] from rfl, this, setL_eq _ _ _ (by simp [size_zeroCells, hz, hes])]
    simp [hes]
    rw [List.drop_of_length_le (by simp [size_zeroCells, hz])]
    simp
  generalize y.cells = es at *
  have fr : Fr (fun _ => False) w (w.alloc (.cells es e')) := (Fr.refl _ _).alloc _
  refine ⟨_, _, by unfold bslM; rw [hf], ?_⟩
  have hx : Sl k (w.alloc (.cells es e')) (.slice (some ⟨w.heap.size, 0, none⟩) 1 1) [es.toList] :=
    ⟨by simp [hes], _, 1, rfl, Nat.le_refl _, .inr ⟨_, _, _, rfl, bk_alloc_at rfl _ _, by simp [hes], by simp [← hes, List.take_of_length_le]⟩⟩
  refine Run_appG (hs.fr fr fun _ _ => id) hx hk hz hb (fun e he => by obtain rfl := List.mem_singleton.1 he; exact hc) (by simpa using small) fun r w' h1 h2 h3 h4 => q r w' h1 (fr.mono (fun _ h => h.elim) |>.trans h2 fun _ _ h => h) (fun b hb => ?_) (h4.imp (fun ⟨a, c, e1, e2⟩ => ⟨a, c, e1, e2⟩) fun ⟨g1, g2⟩ => ⟨fr.trans g1 fun _ _ => id, fun b hb => Nat.le_trans fr.size (g2 b hb)⟩) _ fr
  rcases h3 b hb with h | h
  · exact .inl h
  · have := fr.size; exact .inr ⟨by simp at h; omega, h.2⟩

end
end Go.Lift
