/-
  THE LIFT, part S: slices as lists of elements (each a list of cells), and loops that count.
-/
import Derived.Test.YthlpfhjcdedhgaaDoorLiftR
import Derived.Deep.DeepAppendWide
import Derived.Laws.AppendOwn
namespace Go.Lift

/-- The block that a slice or a pointer points into. -/
def inB (v : Value) (b : Nat) : Prop := match v with
  | .slice (some a) _ _ => a.block = b
  | .pointer (some a) => a.block = b
  | _ => False
@[simp] theorem inB_nil (n c b : Nat) : inB (.slice none n c) b ↔ False := Iff.rfl
@[simp] theorem inB_slice (a : Addr) (n c b : Nat) : inB (.slice (some a) n c) b ↔ a.block = b := Iff.rfl
@[simp] theorem inB_ptr (a : Addr) (b : Nat) : inB (.pointer (some a)) b ↔ a.block = b := Iff.rfl
@[simp] theorem inB_nilptr (b : Nat) : inB (.pointer none) b ↔ False := Iff.rfl

/-- v is, in w, a slice of elements of k cells each: els. -/
def Sl (k : Nat) (w : World) (v : Value) (els : List (List Value)) : Prop :=
  (∀ e ∈ els, e.length = k) ∧ ∃ a c, v = .slice a els.length c ∧ els.length ≤ c ∧
    (c = 0 ∨ ∃ b o l, a = some ⟨b, o, none⟩ ∧ bk w b = some l ∧ o + c * k ≤ l.length ∧ (l.drop o).take (els.length * k) = els.flatten)
/-- Its block may be written. -/
def SlW (k : Nat) (w : World) (v : Value) (els : List (List Value)) : Prop := Sl k w v els ∧ ∀ b, inB v b → capV v ≠ some (.int .i64 0) → wr w b = true

section
variable {k : Nat} {w w' : World} {v x : Value} {els fls : List (List Value)}

theorem Sl.nil (k : Nat) (w : World) : Sl k w (.slice none 0 0) [] := ⟨by simp, none, 0, rfl, Nat.le_refl _, .inl rfl⟩
theorem SlW.nil (k : Nat) (w : World) : SlW k w (.slice none 0 0) [] := ⟨Sl.nil k w, fun _ h => h.elim⟩
theorem Sl.lenL (h : Sl k w v els) : lenL v = some (.int .i64 els.length) := by obtain ⟨_, a, c, rfl, _⟩ := h; rfl
theorem Sl.lenN (h : Sl k w v els) : lenN v = some els.length := by obtain ⟨_, a, c, rfl, _⟩ := h; rfl
theorem Sl.isCell (h : Sl k w v els) : isCell v = true := by obtain ⟨_, a, c, rfl, _⟩ := h; rfl
theorem Sl.congr (h : Sl k w v els) (hb : ∀ b l, inB v b → bk w b = some l → bk w' b = some l) : Sl k w' v els := by
  obtain ⟨h1, a, c, rfl, h2, h3⟩ := h
  refine ⟨h1, a, c, rfl, h2, ?_⟩
  rcases h3 with h3 | ⟨b, o, l, rfl, h4, h5⟩
  · exact .inl h3
  · exact .inr ⟨b, o, l, rfl, hb b l rfl h4, h5⟩
theorem Sl.fr {F : Nat → Prop} (h : Sl k w v els) (f : Fr F w w') (hd : ∀ b, inB v b → ¬ F b) : Sl k w' v els := h.congr fun b _ hb hl => f.bk_some hl (hd b hb)
theorem Sl.fr0 (h : Sl k w v els) (f : Fr (fun _ => False) w w') : Sl k w' v els := h.fr f fun _ _ => id
theorem SlW.fr {F : Nat → Prop} (h : SlW k w v els) (f : Fr F w w') (hd : ∀ b, inB v b → ¬ F b) : SlW k w' v els := by
  refine ⟨h.1.fr f hd, fun b hb hc => ?_⟩
  have hw := h.2 b hb hc
  obtain ⟨⟨_, a, c, rfl, _, h3⟩, _⟩ := h
  rcases h3 with h3 | ⟨b', o, l, rfl, h4, _⟩
  · subst h3; simp at hc
  · simp only [inB_slice] at hb
    subst hb
    rw [f.wr (bk_lt h4) (hd _ rfl)]
    exact hw

theorem Fr.new {w1 w2 : World} {F : Nat → Prop} (h : Fr (fun _ => False) w w1) (h' : Fr F w1 w2) (hF : ∀ b, F b → w.heap.size ≤ b) : Fr (fun _ => False) w w2 :=
  h.trans h' fun b hb hf => Nat.lt_irrefl _ (Nat.lt_of_lt_of_le hb (hF b hf))
theorem Sl.lt (h : Sl k w v els) (hn : 0 < els.length) {b : Nat} (hb : inB v b) : b < w.heap.size := by
  obtain ⟨_, a, c, rfl, h2, h3⟩ := h
  rcases h3 with h3 | ⟨b', o, l, rfl, h4, _⟩
  · omega
  · simp only [inB_slice] at hb; subst hb; exact bk_lt h4
theorem flat_drop : ∀ {els : List (List Value)} (n : Nat), (∀ e ∈ els, e.length = k) → els.flatten.drop (n * k) = (els.drop n).flatten
  | [], n, _ => by simp
  | x :: els, 0, _ => by simp
  | x :: els, n + 1, hk => by
    have hx := hk x (by simp)
    have ih := flat_drop (els := els) n fun e he => hk e (by simp [he])
    simp only [List.flatten_cons, List.drop_succ_cons]
    rw [show (n + 1) * k = x.length + n * k by rw [hx, Nat.add_mul]; omega, ← List.drop_drop, List.drop_left]
    exact ih
theorem flat_get {e : List Value} {els : List (List Value)} {i : Nat} (hk : ∀ e ∈ els, e.length = k) (h : els[i]? = some e) : (els.flatten.drop (i * k)).take k = e := by
  obtain ⟨hi, rfl⟩ := List.getElem?_eq_some_iff.1 h
  rw [flat_drop i hk, List.drop_eq_getElem_cons hi, List.flatten_cons]
  have := hk els[i] (List.getElem_mem hi)
  rw [← this, List.take_left]
theorem flat_len : ∀ {els : List (List Value)}, (∀ e ∈ els, e.length = k) → els.flatten.length = els.length * k
  | [], _ => by simp
  | x :: els, hk => by
    have hx := hk x (by simp)
    have ih := flat_len (els := els) fun e he => hk e (by simp [he])
    simp only [List.flatten_cons, List.length_append, ih, hx, List.length_cons, Nat.add_mul]
    omega

/-- Element i of a slice. -/
theorem Sl.rd (h : Sl k w v els) (_hk : k ≠ 0) {i : Nat} {e : List Value} (he : els[i]? = some e) (kd : IntKind) :
    ∃ b o l, idxA k v (.int kd i) = some (.pointer (some ⟨b, o, none⟩)) ∧ bk w b = some l ∧ o + k ≤ l.length ∧ (l.drop o).take k = e ∧ inB v b := by
  obtain ⟨h1, a, c, rfl, h2, h3⟩ := h
  have hi : i < els.length := (List.getElem?_eq_some_iff.1 he).1
  rcases h3 with h3 | ⟨b, o, l, rfl, h4, h5, h6⟩
  · omega
  · have hle : (i + 1) * k ≤ els.length * k := Nat.mul_le_mul_right _ hi
    have hle2 : els.length * k ≤ c * k := Nat.mul_le_mul_right _ h2
    rw [Nat.add_mul] at hle
    refine ⟨b, o + i * k, l, ?_, h4, by omega, ?_, rfl⟩
    · have hi' : (i : Int) < els.length := by omega
      simp [idxA, Addr.add_lit, hi]
    · have := flat_get h1 he
      rw [← h6, List.drop_take, List.drop_drop, List.take_take] at this
      rw [← this]
      congr 1
      omega
theorem take_get {l e : List Value} {o n j : Nat} (h : (l.drop o).take n = e) (hj : j < n) : l[o + j]? = e[j]? := by
  subst h
  rw [List.getElem?_take]
  rw [if_pos hj, List.getElem?_drop]
theorem take_get0 {l e : List Value} {o n : Nat} (h : (l.drop o).take n = e) (hj : 0 < n) : l[o]? = e[0]? := take_get (j := 0) h hj
/-- Of one cell each. -/
theorem Sl.rd1 (h : Sl 1 w v els) {i : Nat} {y : Value} (he : els[i]? = some [y]) (kd : IntKind) :
    ∃ p, idxA 1 v (.int kd i) = some p ∧ ld1 p w = some y := by
  obtain ⟨b, o, l, h1, h2, h3, h4, _⟩ := h.rd (by decide) he kd
  refine ⟨_, h1, ?_⟩
  rw [ld1_ptr, h2]
  have := take_get0 h4 (by decide)
  simpa using this
/-- Whole. -/
theorem Sl.rdA (h : Sl k w v els) (hk : k ≠ 0) {i : Nat} {e : List Value} (he : els[i]? = some e) (kd : IntKind) :
    ∃ p, idxA k v (.int kd i) = some p ∧ ldA k p w = some (.agg e.toArray) := by
  obtain ⟨b, o, l, h1, h2, h3, h4, _⟩ := h.rd hk he kd
  exact ⟨_, h1, by rw [ldA_bk h2 h3, h4]⟩
/-- One field of it. -/
theorem Sl.rdF (h : Sl k w v els) {i : Nat} {e : List Value} (he : els[i]? = some e) (kd : IntKind) :
    ∃ p, idxA k v (.int kd i) = some p ∧ ∀ j, j < k → ∃ q, fieldA j p = some q ∧ ld1 q w = e[j]? := by
  by_cases hk : k = 0
  · subst hk
    obtain ⟨h1, a, c, rfl, h2, h3⟩ := h
    have hi : i < els.length := (List.getElem?_eq_some_iff.1 he).1
    rcases h3 with h3 | ⟨b, o, l, rfl, h4, h5, h6⟩
    · omega
    · exact ⟨.pointer (some ⟨b, o, none⟩), by simp [idxA, Addr.add_lit, hi], fun j hj => absurd hj (Nat.not_lt_zero _)⟩
  · obtain ⟨b, o, l, h1, h2, h3, h4, _⟩ := h.rd hk he kd
    exact ⟨_, h1, fun j hj => ⟨_, fieldA_ptr j b o, by rw [ld1_ptr, h2]; exact take_get h4 hj⟩⟩

/-- A part of a slice, from element n on. -/
theorem Sl.drop (h : Sl k w v els) {n : Nat} (hn : n ≤ els.length) (kd : IntKind) : ∃ v', sliceV k v (some (.int kd n)) none = some v' ∧ Sl k w v' (els.drop n) ∧ ∀ b, inB v' b → inB v b := by
  obtain ⟨h1, a, c, rfl, h2, h3⟩ := h
  have e : sliceV k (.slice a els.length c) (some (.int kd n)) none = some (.slice (if c = n then a else a.map (·.add (n * k))) (els.length - n) (c - n)) := by
    simp [sliceV, highV, lowV, boundV, hn]
  refine ⟨_, e, ⟨fun x hx => h1 x (List.mem_of_mem_drop hx), (if c = n then a else a.map (·.add (n * k))), c - n, ?_, by rw [List.length_drop]; omega, ?_⟩, ?_⟩
  · rw [List.length_drop]
  · by_cases hc : c = n
    · exact .inl (by omega)
    · rcases h3 with h3 | ⟨b, o, l, rfl, h4, h5, h6⟩
      · exact .inl (by omega)
      · have hm : c * k = n * k + (c - n) * k := by rw [← Nat.add_mul]; congr 1; omega
        refine .inr ⟨b, o + n * k, l, by rw [if_neg hc]; simp [Addr.add_lit], h4, by omega, ?_⟩
        have hfl := flat_drop n h1
        rw [← hfl, ← h6, List.drop_take, List.drop_drop, List.length_drop]
        congr 1
        rw [Nat.sub_mul]
  · intro b hb
    cases a with
    | none => simp at hb
    | some a =>
      by_cases hc : c = n
      · simpa [hc] using hb
      · simp only [hc, if_false, Option.map_some] at hb
        simp only [inB_slice] at hb ⊢
        rw [← hb]
        unfold Addr.add
        split <;> rfl

theorem setL_eq : ∀ (vs l : List Value) (o : Nat), o + vs.length ≤ l.length → setL l o vs = l.take o ++ vs ++ l.drop (o + vs.length)
  | [], l, o, _ => by simp
  | v :: vs, l, o, h => by
    simp only [List.length_cons] at h
    rw [setL_cons, setL_eq vs (l.set o v) (o + 1) (by simp; omega)]
    have ho : o < l.length := by omega
    have h1 : (l.set o v).take (o + 1) = l.take o ++ [v] := by
      rw [List.take_succ_eq_append_getElem (by simpa using ho), List.take_set_of_le (Nat.le_refl _)]
      simp
    have h2 : (l.set o v).drop (o + 1 + vs.length) = l.drop (o + (v :: vs).length) := by
      rw [List.drop_set_of_lt (by omega)]
      simp only [List.length_cons]
      congr 1
      omega
    rw [h1, h2]
    simp
theorem drop_take_setL {vs l : List Value} {o p n : Nat} (h : p + vs.length ≤ l.length) (ho : o + n = p) : (((setL l p vs).drop o).take (n + vs.length)) = ((l.drop o).take n) ++ vs := by
  rw [setL_eq vs l p h]
  subst ho
  have h1 : (l.take (o + n)).length = o + n := by rw [List.length_take]; omega
  rw [List.append_assoc, List.drop_append_of_le_length (by omega), List.drop_take]
  have h2 : ((l.drop o).take (o + n - o)).length = n := by rw [List.length_take, List.length_drop]; omega
  rw [show o + n - o = n by omega] at h2 ⊢
  rw [List.take_append, h2, List.take_of_length_le (by omega)]
  rw [show n + vs.length - n = vs.length by omega, List.take_left]

theorem ldN_sl {x' : Option Addr} {c : Nat} (h : Sl k w (.slice x' els.length c) els) : firstN w k els.length (.slice x' els.length c) = some els.flatten := by
  obtain ⟨h1, a, c', e, h2, h3⟩ := h
  cases e
  have hfl := flat_len h1
  cases x' with
  | none =>
    rcases h3 with h3 | ⟨b, o, l, h4, _⟩
    · have : els = [] := List.eq_nil_of_length_eq_zero (by omega)
      subst this; rfl
    · cases h4
  | some a =>
    simp only [firstN]
    rcases h3 with h3 | ⟨b, o, l, h4, h5, h6, h7⟩
    · have : els = [] := List.eq_nil_of_length_eq_zero (by omega)
      subst this; simp [ldN]
    · cases h4
      have : els.length * k ≤ c * k := Nat.mul_le_mul_right _ h2
      rw [ldN_bk h5 (by omega), h7]

/-- append. -/
theorem Run_appM {bytes e : Nat} {zero : Array Value} {s : Value} {Q : Value → World → Prop} (hs : SlW k w s els) (hx : Sl k w x fls) (hk : k ≠ 0) (hz : zero.size = k) (hb : bytes ≠ 0)
    (hc : ∀ e ∈ fls, e.all isCell = true) (small : (els.length + fls.length + (els.length + fls.length) / 4 + 192) * bytes ≤ 281474976710656)
    (q : ∀ r w', SlW k w' r (els ++ fls) → Fr (inB s) w w' → (∀ b, inB r b → inB s b ∨ (w.heap.size ≤ b ∧ b < w'.heap.size)) → Q r w') : Run (appM e k bytes zero s x) w Q := by
  have hs' := hs.1
  obtain ⟨⟨h1, a, c, rfl, h2, h3⟩, hw⟩ := hs
  have hxl := hx.lenN
  have hx1 := hx.1
  have hfl := flat_len h1
  have hfx := flat_len hx1
  have hall : ∀ e ∈ els ++ fls, e.length = k := fun e he => (List.mem_append.1 he).elim (h1 e) (hx1 e)
  have hcf : fls.flatten.all isCell = true := by
    rw [List.all_eq_true]
    intro y hy
    obtain ⟨e, he, hye⟩ := List.mem_flatten.1 hy
    exact List.all_eq_true.1 (hc e he) y hye
  have hnew : firstN w k fls.length x = some fls.flatten := by
    have hx' := hx
    obtain ⟨_, a', c', rfl, _⟩ := hx'
    exact ldN_sl hx
  unfold Run appM
  simp only [hxl]
  by_cases hroom : els.length + fls.length ≤ c
  · rw [if_pos hroom]
    simp only [hnew]
    cases a with
    | none =>
      rcases h3 with h3 | ⟨b, o, l, h4, _⟩
      · have he : els = [] := List.eq_nil_of_length_eq_zero (by omega)
        have hf : fls = [] := List.eq_nil_of_length_eq_zero (by omega)
        subst he; subst hf; subst h3
        exact ⟨_, _, rfl, q _ _ (SlW.nil k w) (Fr.refl _ _) (by simp)⟩
      · cases h4
    | some a =>
      simp only []
      by_cases hf : fls.flatten = []
      · have hf0 : fls = [] := by
          apply List.eq_nil_of_length_eq_zero
          rw [hf] at hfx
          simp only [List.length_nil] at hfx
          rcases Nat.mul_eq_zero.1 hfx.symm with h | h
          · exact h
          · exact absurd h hk
        subst hf0
        simp only [List.flatten_nil, stN, if_true]
        refine ⟨_, _, rfl, q _ _ ?_ (Fr.refl _ _) (fun b hb => .inl hb)⟩
        simp only [List.append_nil, List.length_nil, Nat.add_zero]
        exact ⟨hs', hw⟩
      · rcases h3 with h3 | ⟨b, o, l, h4, h5, h6, h7⟩
        · have hf : fls = [] := List.eq_nil_of_length_eq_zero (by omega)
          subst hf; simp at hf
        · cases h4
          have hf1 : fls.length ≠ 0 := fun h0 => hf (by rw [List.eq_nil_of_length_eq_zero h0]; rfl)
          have hwb := hw b rfl (by simp; omega)
          have hcc : (els.length + fls.length) * k ≤ c * k := Nat.mul_le_mul_right _ hroom
          rw [Nat.add_mul] at hcc
          simp only [Addr.add_lit, stN]
          rw [if_neg hf]
          simp only [h5]
          rw [if_pos ⟨⟨by omega, hcf⟩, hwb⟩]
          refine ⟨_, _, rfl, q _ _ ⟨⟨hall, _, c, by rw [List.length_append], by rw [List.length_append]; omega, .inr ⟨b, o, setL l (o + els.length * k) fls.flatten, rfl, by rw [bk_sto_eq, h5]; rfl, by rw [length_setL]; omega, ?_⟩⟩, ?_⟩ ?_ (fun b hb => .inl hb)⟩
          · rw [List.length_append, Nat.add_mul, ← hfx, drop_take_setL (by omega) rfl, h7, List.flatten_append]
          · intro b' hb' _
            simp only [inB_slice] at hb'
            subst hb'
            simpa using hwb
          · exact (Fr.refl _ _).sto (.inl rfl) _ _
  · rw [if_neg hroom]
    have hg : Builtin.nextslicecap (els.length + fls.length) c * bytes ≤ 2 ^ 48 := growslice_fits_wide (by omega) small
    rw [if_neg (not_or.2 ⟨hb, Nat.not_lt.2 hg⟩)]
    simp only [ldN_sl hs', hnew]
    refine ⟨_, _, rfl, q _ _ ⟨⟨hall, some ⟨w.heap.size, 0, none⟩, _, by rw [List.length_append], ?_, .inr ⟨w.heap.size, 0, _, rfl, bk_alloc_at rfl _ _, ?_, ?_⟩⟩, ?_⟩ ((Fr.refl _ _).drew.alloc _) (fun b hb => .inr ?_)⟩
    · rw [List.length_append]; simp only [Question.cut]; omega
    · have hge : els.length + fls.length ≤ (Question.appendCap (els.length + fls.length) c e).cut (w.tape w.drawn (.appendCap (els.length + fls.length) c e)) := by simp only [Question.cut]; omega
      generalize (Question.appendCap (els.length + fls.length) c e).cut (w.tape w.drawn (.appendCap (els.length + fls.length) c e)) = C at hge
      simp only [Array.toList_append, List.length_append, Array.length_toList, size_zeroCells, hz, hfl, hfx]
      rw [← Nat.add_mul, ← Nat.add_mul]
      rw [show els.length + fls.length + (C - (els.length + fls.length)) = C by omega]
      omega
    · simp only [Array.toList_append, List.drop_zero]
      rw [List.length_append, Nat.add_mul, ← hfl, ← hfx, List.flatten_append, ← List.length_append, List.take_left]
    · intro b' hb' _
      simp only [inB_slice] at hb'
      subst hb'
      exact wr_alloc_at (by simp) _ _
    · simp only [inB_slice] at hb
      subst hb
      simp

theorem setL_right : ∀ (vs A B : List Value) (j : Nat), setL (A ++ B) (A.length + j) vs = A ++ setL B j vs
  | [], A, B, j => rfl
  | v :: vs, A, B, j => by
    rw [setL_cons, setL_cons, List.set_append_right _ _ (by omega), show A.length + j - A.length = j by omega, show A.length + j + 1 = A.length + (j + 1) by omega]
    exact setL_right vs A (B.set j v) (j + 1)
theorem setL_left : ∀ (vs A B : List Value) (j : Nat), j + vs.length ≤ A.length → setL (A ++ B) j vs = setL A j vs ++ B
  | [], A, B, j, _ => rfl
  | v :: vs, A, B, j, h => by
    simp only [List.length_cons] at h
    rw [setL_cons, setL_cons, List.set_append_left _ _ (by omega)]
    exact setL_left vs (A.set j v) B (j + 1) (by simp; omega)
theorem setL_flat {i j : Nat} {e : List Value} {vs : List Value} (hk : ∀ e ∈ els, e.length = k) (he : els[i]? = some e) (hj : j + vs.length ≤ k) :
    setL els.flatten (i * k + j) vs = (els.set i (setL e j vs)).flatten := by
  obtain ⟨hi, rfl⟩ := List.getElem?_eq_some_iff.1 he
  have hl := hk _ (List.getElem_mem hi)
  have h1 : els = els.take i ++ (els[i] :: els.drop (i + 1)) := by rw [List.getElem_cons_drop, List.take_append_drop]
  have h2 : els.set i (setL els[i] j vs) = els.take i ++ (setL els[i] j vs :: els.drop (i + 1)) := by
    rw [List.set_eq_take_append_cons_drop, if_pos hi]
  have h3 : (els.take i).flatten.length = i * k := by
    rw [flat_len fun e he => hk e (List.mem_of_mem_take he), List.length_take]
    congr 1; omega
  rw [h2]
  conv => lhs; rw [h1]
  simp only [List.flatten_append, List.flatten_cons]
  rw [← h3, setL_right, setL_left _ _ _ _ (by omega)]

/-- Cells stored into element i of a slice, from cell j of it on. -/
theorem SlW.put (h : SlW k w v els) {i : Nat} {e : List Value} (he : els[i]? = some e) (kd : IntKind) :
    ∃ b o, idxA k v (.int kd i) = some (.pointer (some ⟨b, o, none⟩)) ∧ inB v b ∧ b < w.heap.size ∧ okAt w b o k ∧
      ∀ j vs, j + vs.length ≤ k → okAt w b (o + j) vs.length ∧ SlW k (sto w b (o + j) vs) v (els.set i (setL e j vs)) := by
  obtain ⟨⟨h1, a, c, rfl, h2, h3⟩, hw⟩ := h
  obtain ⟨hi, hei⟩ := List.getElem?_eq_some_iff.1 he
  rcases h3 with h3 | ⟨b, o, l, rfl, h4, h5, h6⟩
  · omega
  · have hle : (i + 1) * k ≤ els.length * k := Nat.mul_le_mul_right _ hi
    have hle2 : els.length * k ≤ c * k := Nat.mul_le_mul_right _ h2
    rw [Nat.add_mul] at hle
    have hwb : wr w b = true := hw b rfl (by simp; omega)
    refine ⟨b, o + i * k, ?_, rfl, bk_lt h4, ⟨⟨l, h4, by omega⟩, hwb⟩, fun j vs hj => ⟨⟨⟨l, h4, by omega⟩, hwb⟩, ⟨⟨?_, some ⟨b, o, none⟩, c, ?_, ?_, .inr ⟨b, o, setL l (o + i * k + j) vs, rfl, by rw [bk_sto_eq, h4]; rfl, by rw [length_setL]; exact h5, ?_⟩⟩, ?_⟩⟩⟩
    · have hi' : (i : Int) < els.length := by omega
      simp [idxA, Addr.add_lit, hi]
    · intro x hx
      rcases List.mem_or_eq_of_mem_set hx with hx | rfl
      · exact h1 x hx
      · rw [length_setL]; exact h1 e (hei ▸ List.getElem_mem hi)
    · rw [List.length_set]
    · rw [List.length_set]; exact h2
    · have hfl := flat_len h1
      rw [List.length_set, ← setL_flat h1 he hj]
      have hl : l = l.take o ++ (els.flatten ++ l.drop (o + els.length * k)) := by
        rw [← h6, ← List.drop_drop, List.take_append_drop, List.take_append_drop]
      have ho : (l.take o).length = o := by rw [List.length_take]; omega
      have e1 : setL l (o + i * k + j) vs = l.take o ++ (setL els.flatten (i * k + j) vs ++ l.drop (o + els.length * k)) := by
        conv => lhs; rw [hl]
        rw [show o + i * k + j = (l.take o).length + (i * k + j) by omega, setL_right, setL_left _ _ _ _ (by omega)]
      have e2 : ∀ X : List Value, (l.take o ++ X).drop o = X := fun X => by
        have := List.drop_left (l₁ := l.take o) (l₂ := X)
        rwa [ho] at this
      rw [e1, e2, List.take_append_of_le_length (by rw [length_setL]; omega), List.take_of_length_le (by rw [length_setL]; omega)]
    · intro b' hb' _
      simp only [inB_slice] at hb'
      subst hb'
      simpa using hwb

/-- make. -/
theorem Run_mksM {e bytes n c : Nat} {zero : Array Value} {Q : Value → World → Prop} (hz : zero.size = k) (hn : n ≤ c) (hc : c < 9223372036854775808) (hb : bytes * c ≤ 281474976710656)
    (q : ∀ r w', SlW k w' r (List.replicate n zero.toList) → Fr (fun _ => False) w w' → (∀ b, inB r b → w.heap.size ≤ b ∧ b < w'.heap.size) → Q r w') :
    Run (mksM e k bytes zero (.int .i64 n) (.int .i64 c)) w Q := by
  have hw1 : IntKind.i64.wrap (n : Int) = n := by simp [IntKind.wrap, IntKind.bits, IntKind.signed]; omega
  have hw2 : IntKind.i64.wrap (c : Int) = c := by simp [IntKind.wrap, IntKind.bits, IntKind.signed]; omega
  unfold Run mksM
  simp only [hw1, hw2]
  rw [if_neg (by
    rintro (h | h | h | h)
    · omega
    · omega
    · have : ((bytes * c : Nat) : Int) ≤ 281474976710656 := by omega
      rw [Int.natCast_mul] at this
      omega
    · exact h hz)]
  have hzc : ∀ m, (Builtin.zeroCells zero m).toList = (List.replicate m zero.toList).flatten := by
    intro m
    apply List.ext_getElem?
    intro i
    simp only [Builtin.zeroCells, Array.toList_map, Array.toList_range, List.getElem?_map]
    by_cases hi : i < m * zero.size
    · have hz0 : 0 < zero.size := by rcases Nat.eq_zero_or_pos zero.size with h | h; rw [h] at hi; omega; exact h
      rw [List.getElem?_range hi]
      have hq : i / zero.size < m := Nat.div_lt_of_lt_mul (by rw [Nat.mul_comm]; exact hi)
      have hr := Nat.mod_lt i hz0
      have hk' : ∀ e ∈ List.replicate m zero.toList, e.length = zero.size := by
        intro e he
        rw [List.eq_of_mem_replicate he]
        simp
      have hg := flat_get (i := i / zero.size) (e := zero.toList) hk' (by simp [hq])
      have := take_get (l := (List.replicate m zero.toList).flatten) hg hr
      rw [Nat.div_add_mod' i zero.size] at this
      rw [this]
      simp [hr]
    · have h1 : ((List.replicate m zero.toList).flatten).length = m * zero.size := by
        rw [flat_len (k := zero.size)]
        · simp
        · intro e he
          rw [List.eq_of_mem_replicate he]
          simp
      rw [List.getElem?_eq_none (by simp; omega), List.getElem?_eq_none (by omega)]
      rfl
  refine ⟨_, _, rfl, q _ _ ⟨⟨?_, some ⟨w.heap.size, 0, none⟩, c, by simp, by simp; omega, .inr ⟨_, _, _, rfl, bk_alloc_at rfl _ _, ?_, ?_⟩⟩, ?_⟩ ((Fr.refl _ _).alloc _) (fun b hb => ?_)⟩
  · intro e he
    rw [List.eq_of_mem_replicate he]
    simp [hz]
  · simp [size_zeroCells, hz]
  · simp only [Int.toNat_natCast, hzc, List.drop_zero, List.length_replicate]
    rw [show c = n + (c - n) by omega, ← List.replicate_append_replicate, List.flatten_append]
    have : (List.replicate n zero.toList).flatten.length = n * k := by
      rw [flat_len (k := k)]
      · simp
      · intro e he
        rw [List.eq_of_mem_replicate he]
        simp [hz]
    rw [← this, List.take_left]
  · intro b hb _
    simp only [inB_slice] at hb
    subst hb
    exact wr_alloc_at rfl _ _
  · simp only [inB_slice] at hb
    subst hb
    simp

theorem heap_alloc_at {w : World} {n : Nat} (h : n = w.heap.size) (o : Obj) : (w.alloc o).heap[n]? = some o := by
  subst h
  show (w.heap.push _)[w.heap.size]? = _
  simp
/-- []byte(s). -/
theorem Run_sbM {e : TypeId} {s : ByteArray} {Q : Value → World → Prop}
    (q : ∀ r w', SlW 1 w' r (s.data.toList.map fun b => [.int .u8 b.toNat]) → Fr (fun _ => False) w w' → (∀ b, inB r b → w.heap.size ≤ b ∧ b < w'.heap.size) → Q r w') :
    Run (sbM e (.string s)) w Q := by
  unfold Run
  simp only [sbM]
  have hge : s.size ≤ (Question.appendCap s.size 0 e).cut (w.tape w.drawn (.appendCap s.size 0 e)) := by simp only [Question.cut]; omega
  generalize (Question.appendCap s.size 0 e).cut (w.tape w.drawn (.appendCap s.size 0 e)) = C at hge
  have hs : s.data.size = s.size := rfl
  have hs' : s.data.toList.length = s.size := rfl
  have hget := heap_alloc_at (w := w.drew) (n := w.heap.size) rfl (.cells ((s.data.map fun b => Value.int .u8 b.toNat) ++ Array.replicate (C - s.size) (.int .u8 0)) e (C, C + 1))
  refine ⟨_, _, rfl, q _ _ ⟨⟨?_, some ⟨w.heap.size, 0, none⟩, C, ?_, ?_, .inr ⟨_, _, _, rfl, (by unfold bk; rw [hget]), ?_, ?_⟩⟩, ?_⟩ ((Fr.refl _ _).drew.alloc _) (fun b hb => ?_)⟩
  · intro x hx
    obtain ⟨y, _, rfl⟩ := List.mem_map.1 hx
    rfl
  · rw [List.length_map, hs']
  · rw [List.length_map, hs']; exact hge
  · simp [hs]; omega
  · have : (List.map (fun b : UInt8 => [Value.int .u8 b.toNat]) s.data.toList).flatten = s.data.toList.map fun b => Value.int .u8 b.toNat := by
      induction s.data.toList with
      | nil => rfl
      | cons x l ih => simp [ih]
    rw [this]
    simp only [Array.toList_append, Array.toList_map, List.drop_zero, List.length_map, Nat.mul_one]
    rw [List.take_append_of_le_length (by simp), List.take_of_length_le (by simp)]
  · intro b hb _
    simp only [inB_slice] at hb
    subst hb
    unfold wr
    rw [hget]
    simp [hs]
    omega
  · simp only [inB_slice] at hb
    subst hb
    simp

/-- New memory of these cells. -/
theorem Run_new {t : TypeId} {cs : Array Value} {Q : Value → World → Prop}
    (q : ∀ b w', bk w' b = some cs.toList → wr w' b = true → Fr (fun _ => False) w w' → w.heap.size ≤ b → Q (.pointer (some ⟨b, 0, none⟩)) w') : Run (newM t cs) w Q :=
  Run_newM.2 (q _ _ (bk_alloc_at rfl _ _) (wr_alloc_at rfl _ _) ((Fr.refl _ _).alloc _) (Nat.le_refl _))
/-- New memory into which a struct is stored. -/
theorem Run_newSt {t : TypeId} {zs cs : Array Value} {n : Nat} {K : Value → Value → World → Prop} (hz : zs.size = n) (hn : cs.size = n) (hc : cs.toList.all isCell = true)
    (q : ∀ b w', bk w' b = some cs.toList → wr w' b = true → Fr (fun _ => False) w w' → w.heap.size ≤ b → K (.pointer (some ⟨b, 0, none⟩)) undef w') :
    Run (newM t zs) w fun a w1 => Run (stM n a (.agg cs)) w1 fun u w2 => K a u w2 := by
  refine Run_new fun b w' h1 h2 h3 h4 => ?_
  have hok : okAt w' b 0 n := ⟨⟨_, h1, by simp [hz]⟩, h2⟩
  rw [Run_stA ⟨hok, hn, hc⟩]
  have hb : bk (sto w' b 0 cs.toList) b = some cs.toList := by
    rw [bk_sto_eq, h1]
    simp only [Option.map_some]
    rw [setL_eq _ _ _ (by simp [hz, hn])]
    simp [hz, hn]
  exact q _ _ hb (by simpa using h2) (h3.sto (.inr h4) _ _) h4
/-- The parts of a list of elements, from cell off on. -/
def partsL (k off : Nat) : List Value → List (Nat × Nat × Value)
  | [] => []
  | v :: vs => (off, k, v) :: partsL k (off + k) vs
theorem foldl_set : ∀ (l : List Value) (off j : Nat) (cs : Array Value), off + j + l.length ≤ cs.size →
    ((l.zipIdx j).foldl (fun cs (x : Value × Nat) => cs.setIfInBounds (off + x.2) x.1) cs).toList = setL cs.toList (off + j) l
  | [], off, j, cs, _ => rfl
  | v :: l, off, j, cs, h => by
    simp only [List.length_cons] at h
    simp only [List.zipIdx_cons, List.foldl_cons, setL_cons]
    rw [foldl_set l off (j + 1) _ (by simp; omega)]
    simp [Nat.add_assoc]
theorem fillV_parts : ∀ (vs : List Value) (off : Nat) (cs : Array Value), (∀ v ∈ vs, v.cells.size = k) → off + vs.length * k ≤ cs.size →
    fillV cs (partsL k off vs) = some (setL cs.toList off (vs.map fun v => v.cells.toList).flatten).toArray
  | [], off, cs, _, _ => by simp [partsL]
  | v :: vs, off, cs, hv, h => by
    have hk := hv v (by simp)
    simp only [List.length_cons, Nat.add_mul] at h
    simp only [partsL, fillV, hk]
    rw [if_neg (by simp; omega)]
    have hcs : (v.cells.zipIdx.foldl (fun cs (x : Value × Nat) => cs.setIfInBounds (off + x.2) x.1) cs).toList = setL cs.toList off v.cells.toList := by
      rw [← Array.foldl_toList, Array.toList_zipIdx]
      have := foldl_set v.cells.toList off 0 cs (by simp [hk]; omega)
      simpa using this
    have hsz : (v.cells.zipIdx.foldl (fun cs (x : Value × Nat) => cs.setIfInBounds (off + x.2) x.1) cs).size = cs.size := by
      rw [← Array.length_toList, hcs, length_setL, Array.length_toList]
    have ih := fillV_parts vs (off + k) _ (fun x hx => hv x (by simp [hx])) (by rw [hsz]; omega)
    refine ih.trans ?_
    rw [hcs]
    simp only [List.map_cons, List.flatten_cons]
    have happ : ∀ (a b l : List Value) (o : Nat), setL (setL l o a) (o + a.length) b = setL l o (a ++ b) := by
      intro a
      induction a with
      | nil => intro b l o; simp
      | cons x a ih => intro b l o; simp only [setL_cons, List.cons_append, List.length_cons]; rw [← ih, show o + 1 + a.length = o + (a.length + 1) by omega]
    rw [← happ, Array.length_toList, hk]
/-- A slice of these elements. -/
theorem Run_bsl {e n : Nat} {zero : Array Value} {parts : List (Nat × Nat × Value)} {vs : List Value} {Q : Value → World → Prop} (hp : parts = partsL k 0 vs) (hv : ∀ v ∈ vs, v.cells.size = k) (hn : vs.length = n) (hz : zero.size = n * k)
    (q : ∀ r w', SlW k w' r (vs.map fun v => v.cells.toList) → Fr (fun _ => False) w w' → (∀ b, inB r b → b = w.heap.size ∧ b < w'.heap.size) → Q r w') : Run (bslM e n zero parts) w Q := by
  subst hp
  have hfl : (vs.map fun v => v.cells.toList).flatten.length = n * k := by
    rw [flat_len (k := k)]
    · simp [hn]
    · intro x hx
      obtain ⟨v, hv', rfl⟩ := List.mem_map.1 hx
      simp [hv v hv']
  have hf := fillV_parts (k := k) vs 0 zero hv (by rw [hz, hn]; omega)
  refine ⟨_, _, by unfold bslM; rw [hf], q _ _ ⟨⟨?_, some ⟨w.heap.size, 0, none⟩, n, by simp [hn], by simp [hn], .inr ⟨_, _, _, rfl, bk_alloc_at rfl _ _, ?_, ?_⟩⟩, ?_⟩ ((Fr.refl _ _).alloc _) fun b hb => ?_⟩
  · intro x hx
    obtain ⟨v, hv', rfl⟩ := List.mem_map.1 hx
    simp [hv v hv']
  · simp [length_setL, hz]
  · rw [setL_eq _ _ _ (by simp only [hfl, Array.length_toList, hz]; omega)]
    simp only [List.take_zero, List.nil_append, List.drop_zero, List.length_map, hn]
    rw [← hfl, List.take_left]
  · intro b hb _
    simp only [inB_slice] at hb
    subst hb
    exact wr_alloc_at rfl _ _
  · simp only [inB_slice] at hb
    subst hb
    simp

/-- append of one element. -/
theorem Run_app1 {e e' bytes : Nat} {zero : Array Value} {s y : Value} {K : World → Value → World → Prop} (hes : y.cells.size = k) (hs : SlW k w s els) (hk : k ≠ 0) (hz : zero.size = k) (hb : bytes ≠ 0)
    (hc : y.cells.toList.all isCell = true) (small : (els.length + 1 + (els.length + 1) / 4 + 192) * bytes ≤ 281474976710656)
    (q : ∀ r w', SlW k w' r (els ++ [y.cells.toList]) → Fr (inB s) w w' → (∀ b, inB r b → inB s b ∨ (w.heap.size ≤ b ∧ b < w'.heap.size)) → ∀ w1, Fr (fun _ => False) w w1 → K w1 r w') :
    Run (bslM e' 1 (Builtin.zeroCells zero 1) [(0, k, y)]) w fun a w1 => Run (appM e k bytes zero s a) w1 fun r w' => K w1 r w' := by
  have hf : fillV (Builtin.zeroCells zero 1) [(0, k, y)] = some y.cells := by
    have := fillV_parts (k := k) [y] 0 (Builtin.zeroCells zero 1) (by simpa using hes) (by simp [size_zeroCells, hz])
    rw [show [(0, k, y)] = partsL k 0 [y] from rfl, this, setL_eq _ _ _ (by simp [size_zeroCells, hz, hes])]
    simp [hes]
    rw [List.drop_of_length_le (by simp [size_zeroCells, hz])]
    simp
  generalize y.cells = es at *
  have fr : Fr (fun _ => False) w (w.alloc (.cells es e')) := (Fr.refl _ _).alloc _
  refine ⟨_, _, by unfold bslM; rw [hf], ?_⟩
  have hx : Sl k (w.alloc (.cells es e')) (.slice (some ⟨w.heap.size, 0, none⟩) 1 1) [es.toList] :=
    ⟨by simp [hes], _, 1, rfl, Nat.le_refl _, .inr ⟨_, _, _, rfl, bk_alloc_at rfl _ _, by simp [hes], by simp [← hes, List.take_of_length_le]⟩⟩
  refine Run_appM (hs.fr fr fun _ _ => id) hx hk hz hb (fun e he => by obtain rfl := List.mem_singleton.1 he; exact hc) (by simpa using small) fun r w' h1 h2 h3 => q r w' h1 (fr.mono (fun _ h => h.elim) |>.trans h2 fun _ _ h => h) (fun b hb => ?_) _ fr
  rcases h3 b hb with h | h
  · exact .inl h
  · have := fr.size; exact .inr ⟨by simp at h; omega, h.2⟩

/-- copy, of lists of one length. -/
theorem Run_cpyM {d s : Value} {Q : Value → World → Prop} (hd : SlW k w d els) (hs : Sl k w s fls) (hk : k ≠ 0) (hc : ∀ e ∈ fls, e.all isCell = true) (hl : els.length = fls.length)
    (q : ∀ r w', SlW k w' d fls → Fr (inB d) w w' → Q r w') : Run (cpyM k d s) w Q := by
  have hsn := hs.lenN
  have hs1 := hs.1
  have hnew : firstN w k fls.length s = some fls.flatten := by
    have hs' := hs
    obtain ⟨_, a', c', rfl, _⟩ := hs'
    exact ldN_sl hs
  have hcf : fls.flatten.all isCell = true := by
    rw [List.all_eq_true]
    intro y hy
    obtain ⟨e, he, hye⟩ := List.mem_flatten.1 hy
    exact List.all_eq_true.1 (hc e he) y hye
  have hfx := flat_len hs1
  have hd' := hd
  obtain ⟨⟨h1, a, c, rfl, h2, h3⟩, hw⟩ := hd
  unfold Run cpyM
  simp only [hsn, hl]
  rw [show Nat.min fls.length fls.length = fls.length from Nat.min_self _]
  simp only [hnew]
  by_cases h0 : fls = []
  · have he : els = [] := List.eq_nil_of_length_eq_zero (by rw [hl, h0]; rfl)
    subst he; subst h0
    cases a with
    | none => exact ⟨_, _, rfl, q _ _ hd' (Fr.refl _ _)⟩
    | some a => simp only [List.flatten_nil, stN, if_true]; exact ⟨_, _, rfl, q _ _ hd' (Fr.refl _ _)⟩
  · have hpos : 0 < fls.length := List.length_pos_iff.2 h0
    rcases h3 with h3 | ⟨b, o, l, rfl, h4, h5, h6⟩
    · omega
    · have hne : fls.flatten ≠ [] := by
        intro h
        rw [h] at hfx
        simp only [List.length_nil] at hfx
        rcases Nat.mul_eq_zero.1 hfx.symm with h | h
        · omega
        · exact hk h
      have hwb := hw b rfl (by simp; omega)
      have hle : els.length * k ≤ c * k := Nat.mul_le_mul_right _ h2
      simp only [stN]
      rw [if_neg hne]
      simp only [h4]
      rw [hl] at hle
      rw [if_pos ⟨⟨by omega, hcf⟩, hwb⟩]
      refine ⟨_, _, rfl, q _ _ ⟨⟨hs1, some ⟨b, o, none⟩, c, by rw [hl], by omega, .inr ⟨b, o, setL l o fls.flatten, rfl, by rw [bk_sto_eq, h4]; rfl, by rw [length_setL]; omega, ?_⟩⟩, ?_⟩ (Fr.sto (Fr.refl _ w) (b := b) (.inl (Eq.refl b)) _ _)⟩
      · rw [← hfx]
        have := drop_take_setL (vs := fls.flatten) (l := l) (o := o) (p := o) (n := 0) (by omega) (by omega)
        simpa using this
      · intro b' hb' _
        simp only [inB_slice] at hb'
        subst hb'
        simpa using hwb

/-- A loop that counts. -/
theorem Run_for {step : List Value → M Out} {Q : Out → World → Prop} {l : List Value} (n : Nat) (I : Nat → List Value → World → Prop) (h : I 0 l w)
    (round : ∀ i l w, i < n → I i l w → Run (step l) w fun o w' => match o with | .norm l' => I (i + 1) l' w' | o => Q o w')
    (last : ∀ l w, I n l w → Run (step l) w fun o w' => match o with | .norm _ => False | o => Q o w') : Run (loopM step l) w Q := by
  have key : ∀ d i l w, i + d = n → I i l w → ∃ m r w', iterM step m l w = some (r, w') ∧ Q r w' := by
    intro d
    induction d with
    | zero =>
      intro i l w hi hI
      have hi' : i = n := by omega
      subst hi'
      obtain ⟨o, w1, e, q⟩ := last l w hI
      cases o with
      | norm l' => exact q.elim
      | exit id l' => exact ⟨1, .exit id l', w1, by simp only [iterM, M.bind, e]; rfl, q⟩
      | ret v => exact ⟨1, .ret v, w1, by simp only [iterM, M.bind, e]; rfl, q⟩
    | succ d ih =>
      intro i l w hi hI
      obtain ⟨o, w1, e, q⟩ := round i l w (by omega) hI
      cases o with
      | norm l' =>
        obtain ⟨m, r, w', hm, hq⟩ := ih (i + 1) l' w1 (by omega) q
        exact ⟨m + 1, r, w', by simp only [iterM, M.bind, e]; exact hm, hq⟩
      | exit id l' => exact ⟨1, .exit id l', w1, by simp only [iterM, M.bind, e]; rfl, q⟩
      | ret v => exact ⟨1, .ret v, w1, by simp only [iterM, M.bind, e]; rfl, q⟩
  obtain ⟨m, r, w', hm, hq⟩ := key n 0 l w (by omega) h
  exact ⟨r, w', loopM_some.2 ⟨m, hm⟩, hq⟩
end
end Go.Lift
