/-
  THE LIFT, part N: maps as lists of keys and values: looking up, writing, taking away, and a walk over all entries in any order.
-/
import Derived.Test.YthlpfhjcdedhgaaDoorLiftS
import Derived.Test.YthlpfhjcdedhgaaDoorLiftM
namespace Go.Lift
set_option linter.unusedSectionVars false
set_option linter.unusedSimpArgs false

section
variable {K V : Type} [DecidableEq K] {P : Program} {kt : TypeId} {sh : EqSh} {kv : K → Value} {vv : V → Value} {w w' : World}
/-- Keys of a type as values. -/
structure KeyOk (P : Program) (kt : TypeId) (sh : EqSh) (kv : K → Value) : Prop where
  eq : ∀ a b, eqlV sh (kv a) (kv b) = some (decide (a = b))
  ok : ∀ a, keyOK P kt (kv a) = true
  bits : ∀ a, Instr.sameBits 10000 (kv a) (kv a) = true
/-- Block b is a map of these keys and values. -/
structure MapAt (kv : K → Value) (vv : V → Value) (w : World) (b : Nat) (l : List (K × V)) : Prop where
  ex : ∃ (es : List MapEntry) (c : Nat), w.heap[b]? = some (.map es.toArray c) ∧ es.map (fun e => (e.key, e.val)) = l.map (fun p => (kv p.1, vv p.2)) ∧ (l.map (·.1)).Nodup ∧ (∀ e ∈ es, e.born < c) ∧ (es.map (·.born)).Nodup
theorem MapAt.nodup {b : Nat} {l : List (K × V)} (h : MapAt kv vv w b l) : (l.map (·.1)).Nodup := by
  obtain ⟨es, c, _, _, h, _⟩ := h
  exact h
theorem MapAt.lt {b : Nat} {l : List (K × V)} (h : MapAt kv vv w b l) : b < w.heap.size := by
  obtain ⟨es, c, h, _⟩ := h
  exact (Array.getElem?_eq_some_iff.1 h).1
theorem MapAt.fr {F : Nat → Prop} {b : Nat} {l : List (K × V)} (h : MapAt kv vv w b l) (f : Fr F w w') (hd : ¬ F b) : MapAt kv vv w' b l := by
  have hl := h.lt
  obtain ⟨es, c, h1, h2⟩ := h
  exact ⟨es, c, by rw [f.block b hl hd]; exact h1, h2⟩
def getK (a : K) : List (K × V) → Option V
  | [] => none
  | p :: l => if a = p.1 then some p.2 else getK a l
def putK (a : K) (v : V) : List (K × V) → List (K × V)
  | [] => [(a, v)]
  | p :: l => if a = p.1 then (a, v) :: l else p :: putK a v l
def delK (a : K) : List (K × V) → List (K × V)
  | [] => []
  | p :: l => if a = p.1 then l else p :: delK a l
theorem getK_none {a : K} : ∀ {l : List (K × V)}, getK a l = none ↔ ∀ p ∈ l, a ≠ p.1
  | [] => by simp [getK]
  | p :: l => by
    have ih := getK_none (a := a) (l := l)
    by_cases h : a = p.1
    · simp [getK, h]
    · simp only [getK, h, if_false, ih, List.forall_mem_cons]
      simp [h]
theorem getK_mem {a : K} {v : V} : ∀ {l : List (K × V)}, getK a l = some v → (a, v) ∈ l
  | [], h => by simp [getK] at h
  | p :: l, h => by
    by_cases hp : a = p.1
    · simp only [getK, hp, if_true, Option.some.injEq] at h
      subst h; subst hp
      simp
    · simp only [getK, hp, if_false] at h
      exact List.mem_cons_of_mem _ (getK_mem h)
theorem getK_of_mem {a : K} {v : V} : ∀ {l : List (K × V)}, (l.map (·.1)).Nodup → (a, v) ∈ l → getK a l = some v
  | [], _, h => by simp at h
  | p :: l, hn, h => by
    simp only [List.map_cons, List.nodup_cons] at hn
    rcases List.mem_cons.1 h with rfl | h
    · simp [getK]
    · have : ¬ a = p.1 := fun he => hn.1 (List.mem_map.2 ⟨(a, v), h, he⟩)
      simp only [getK, this, if_false]
      exact getK_of_mem hn.2 h
theorem keys_putK {a : K} {v : V} : ∀ {l : List (K × V)} {x : K}, x ∈ (putK a v l).map (·.1) ↔ x = a ∨ x ∈ l.map (·.1)
  | [], x => by simp [putK]
  | p :: l, x => by
    by_cases h : a = p.1
    · simp [putK, h]
    · have ih := keys_putK (a := a) (v := v) (l := l) (x := x)
      simp only [putK, h, if_false, List.map_cons, List.mem_cons, ih]
      constructor
      · rintro (h | h | h) <;> simp [h]
      · rintro (h | h | h) <;> simp [h]
theorem nodup_putK {a : K} {v : V} : ∀ {l : List (K × V)}, (l.map (·.1)).Nodup → ((putK a v l).map (·.1)).Nodup
  | [], _ => by simp [putK]
  | p :: l, h => by
    by_cases hp : a = p.1
    · simpa [putK, hp] using h
    · simp only [List.map_cons, List.nodup_cons] at h
      simp only [putK, hp, if_false, List.map_cons, List.nodup_cons, keys_putK]
      exact ⟨fun hx => hx.elim (fun he => hp he.symm) h.1, nodup_putK h.2⟩
theorem sub_delK {a : K} : ∀ {l : List (K × V)}, (delK a l).Sublist l
  | [] => by simp [delK]
  | p :: l => by
    by_cases hp : a = p.1
    · simp [delK, hp]
    · simp only [delK, hp, if_false]
      exact sub_delK.cons_cons p
theorem nodup_delK {a : K} {l : List (K × V)} (h : (l.map (·.1)).Nodup) : ((delK a l).map (·.1)).Nodup := (sub_delK.map _).nodup h
theorem getK_putK {a x : K} {v : V} : ∀ {l : List (K × V)}, getK x (putK a v l) = if x = a then some v else getK x l
  | [] => by by_cases h : x = a <;> simp [putK, getK, h]
  | p :: l => by
    by_cases hp : a = p.1
    · by_cases h : x = a
      · simp [putK, getK, hp, h]
      · have : ¬ x = p.1 := by rw [← hp]; exact h
        simp only [putK, hp, if_true, getK, this, if_false]
    · have ih := getK_putK (a := a) (x := x) (v := v) (l := l)
      simp only [putK, hp, if_false, getK, ih]
      by_cases h : x = p.1
      · have : ¬ x = a := by rw [h]; exact fun he => hp he.symm
        simp [h, this]
        intro he
        exact absurd he.symm hp
      · simp [h]
theorem getK_delK {a x : K} : ∀ {l : List (K × V)}, (l.map (·.1)).Nodup → getK x (delK a l) = if x = a then none else getK x l
  | [], _ => by simp [delK, getK]
  | p :: l, hn => by
    simp only [List.map_cons, List.nodup_cons] at hn
    by_cases hp : a = p.1
    · by_cases h : x = a
      · simp only [delK, hp, if_true, getK]
        rw [← hp]
        simp only [h, if_true]
        exact getK_none.2 fun q hq he => hn.1 (List.mem_map.2 ⟨q, hq, by rw [← he, hp]⟩)
      · have : ¬ x = p.1 := by rw [← hp]; exact h
        simp only [delK, hp, if_true, getK, this, if_false]
    · have ih := getK_delK (a := a) (x := x) (l := l) hn.2
      simp only [delK, hp, if_false, getK, ih]
      by_cases h : x = p.1
      · have : ¬ x = a := by rw [h]; exact fun he => hp he.symm
        simp [h, this]
        intro he
        exact absurd he.symm hp
      · simp [h]

theorem findE_run (ko : KeyOk P kt sh kv) (a : K) : ∀ {es : List MapEntry} {l : List (K × V)} (i : Nat), es.map (fun e => (e.key, e.val)) = l.map (fun p => (kv p.1, vv p.2)) →
    (∃ j v, findE sh (kv a) es i = some (some (i + j, vv v)) ∧ getK a l = some v ∧ j < l.length ∧ l[j]? = some (a, v) ∧ (∀ x, putK a x l = l.set j (a, x)) ∧ delK a l = l.eraseIdx j) ∨ (findE sh (kv a) es i = some none ∧ getK a l = none ∧ (∀ x, putK a x l = l ++ [(a, x)]) ∧ delK a l = l)
  | [], [], i, _ => .inr ⟨rfl, rfl, fun _ => rfl, rfl⟩
  | e :: es, [], i, h => by simp at h
  | [], p :: l, i, h => by simp at h
  | e :: es, p :: l, i, h => by
    simp only [List.map_cons, List.cons.injEq, Prod.mk.injEq] at h
    obtain ⟨⟨h1, h2⟩, h3⟩ := h
    have he := ko.eq a p.1
    rw [← h1] at he
    by_cases hp : a = p.1
    · rw [decide_eq_true hp] at he
      refine .inl ⟨0, p.2, ?_, by simp [getK, hp], by simp, ?_, fun x => ?_, ?_⟩
      · simp only [findE, he]; rw [h2]; rfl
      · simp only [List.getElem?_cons_zero, Option.some.injEq]; rw [hp]
      · simp [putK, hp]
      · simp [delK, hp]
    · rw [decide_eq_false hp] at he
      rcases findE_run ko a (i + 1) h3 with ⟨j, v, g1, g2, g3, g4, g5, g6⟩ | ⟨g1, g2, g3, g4⟩
      · refine .inl ⟨j + 1, v, ?_, ?_, ?_, ?_, fun x => ?_, ?_⟩
        · simp only [findE, he]; rw [g1]; congr 3; omega
        · simp only [getK, hp, if_false]; exact g2
        · simp; exact g3
        · simpa using g4
        · simp [putK, hp, g5 x]
        · simp [delK, hp, g6]
      · refine .inr ⟨?_, ?_, fun x => ?_, ?_⟩
        · simp only [findE, he]; exact g1
        · simp only [getK, hp, if_false]; exact g2
        · simp [putK, hp, g3]
        · simp [delK, hp, g4]

/-- Looking up. -/
theorem MapAt.look (ko : KeyOk P kt sh kv) {b : Nat} {l : List (K × V)} (h : MapAt kv vv w b l) (a : K) (zero : Value) (ok : Bool) : lookV P kt sh zero ok (.map (some b)) (kv a) w = some (if ok then .tuple #[((getK a l).map vv).getD zero, .bool (getK a l).isSome] else ((getK a l).map vv).getD zero) := by
  obtain ⟨es, c, h1, h2, _⟩ := h
  have hm : mp w b = some (es, c) := by unfold mp; rw [h1]
  unfold lookV
  simp only [hm, ko.ok, cond_true]
  rcases findE_run ko a 0 h2 with ⟨j, v, g1, g2, _⟩ | ⟨g1, g2, _⟩
  · rw [g1, g2]; rfl
  · rw [g1, g2]; rfl
theorem lookNil (ko : KeyOk P kt sh kv) (a : K) (zero : Value) (ok : Bool) : lookV P kt sh zero ok (.map none) (kv a) w = some (if ok then .tuple #[zero, .bool false] else zero) := by
  simp [lookV, ko.ok]

theorem heap_stMp {b : Nat} {es : List MapEntry} {c : Nat} (hb : b < w.heap.size) : (stMp w b es c).heap[b]? = some (.map es.toArray c) := by
  simp [stMp, hb]
theorem Fr.stMp {F : Nat → Prop} {w1 : World} (h : Fr F w w1) {b : Nat} (hb : F b ∨ w.heap.size ≤ b) (es : List MapEntry) (c : Nat) : Fr F w (Go.Lift.stMp w1 b es c) := by
  refine ⟨h.os, h.tape, h.output, by have := h.size; simp [Go.Lift.stMp]; omega, fun b' hb' hf => ?_⟩
  have hne : b ≠ b' := by rintro rfl; rcases hb with hb | hb; exact hf hb; omega
  simp only [Go.Lift.stMp, Array.getElem?_setIfInBounds]
  rw [if_neg hne]
  exact h.block b' hb' hf
theorem sub_born {es es' : List MapEntry} (h : es'.Sublist es) {c : Nat} (h1 : ∀ e ∈ es, e.born < c) (h2 : (es.map (·.born)).Nodup) : (∀ e ∈ es', e.born < c) ∧ (es'.map (·.born)).Nodup := ⟨fun e he => h1 e (h.mem he), (h.map _).nodup h2⟩
/-- Writing. -/
theorem Run_updM (ko : KeyOk P kt sh kv) {b : Nat} {l : List (K × V)} (h : MapAt kv vv w b l) (a : K) (v : V) {Q : Value → World → Prop} (q : ∀ w', MapAt kv vv w' b (putK a v l) → Fr (fun c => c = b) w w' → w'.heap.size = w.heap.size → Q undef w') : Run (updM P kt sh (.map (some b)) (kv a) (vv v)) w Q := by
  have hb := h.lt
  obtain ⟨es, c, h1, h2, h3, h4, h5⟩ := h
  have hm : mp w b = some (es, c) := by unfold mp; rw [h1]
  unfold Run updM
  simp only [hm, ko.ok, cond_true]
  rcases findE_run ko a 0 h2 with ⟨j, x, g1, g2, g3, g4, g5, g6⟩ | ⟨g1, g2, g3, g4⟩
  · rw [g1]
    simp only [Nat.zero_add]
    have hlen : es.length = l.length := by simpa using congrArg List.length h2
    have hej : ∃ e, es[j]? = some e ∧ e.key = kv a := by
      have hj : j < es.length := by omega
      refine ⟨es[j], List.getElem?_eq_getElem hj, ?_⟩
      have := congrArg (fun z => z[j]?) h2
      simp only [List.getElem?_map, g4, List.getElem?_eq_getElem hj, Option.map_some, Option.some.injEq, Prod.mk.injEq] at this
      exact this.1
    obtain ⟨e, he, hk⟩ := hej
    rw [he]
    simp only [hk, ko.bits, cond_true]
    refine ⟨_, _, rfl, q _ ⟨_, c, heap_stMp hb, ?_, nodup_putK h3, ?_, ?_⟩ ((Fr.refl (fun c => c = b) w).stMp (.inl rfl) _ _) (by simp [stMp])⟩
    · rw [g5 v, List.map_set, h2, List.map_set]
    · intro y hy
      rcases List.mem_or_eq_of_mem_set hy with hy | rfl
      · exact h4 y hy
      · exact h4 e (List.mem_of_getElem? he)
    · rw [List.map_set]
      have : (es.map (·.born))[j]? = some e.born := by simp [he]
      have hs : (es.map (·.born)).set j e.born = es.map (·.born) := by
        apply List.ext_getElem?
        intro i
        by_cases hi : j = i
        · subst hi
          rw [List.getElem?_set_self (by simp; omega), this]
        · rw [List.getElem?_set_ne hi]
      show ((es.map (·.born)).set j e.born).Nodup
      rw [hs]
      exact h5
  · rw [g1]
    refine ⟨_, _, rfl, q _ ⟨_, c + 1, heap_stMp hb, ?_, nodup_putK h3, ?_, ?_⟩ ((Fr.refl (fun c => c = b) w).stMp (.inl rfl) _ _) (by simp [stMp])⟩
    · rw [g3 v]; simp [h2]
    · intro y hy
      rcases List.mem_append.1 hy with hy | hy
      · have := h4 y hy; omega
      · simp at hy; subst hy; simp
    · rw [List.map_append, List.nodup_append]
      refine ⟨h5, by simp, fun x hx y hy => ?_⟩
      simp at hy
      obtain ⟨e, he, rfl⟩ := List.mem_map.1 hx
      have := h4 e he
      omega
theorem map_eraseIdx' {α β : Type} (f : α → β) : ∀ (l : List α) (j : Nat), (l.eraseIdx j).map f = (l.map f).eraseIdx j
  | [], j => by simp
  | x :: l, 0 => rfl
  | x :: l, j + 1 => by simp [map_eraseIdx' f l j]
/-- Taking away. -/
theorem Run_delM (ko : KeyOk P kt sh kv) {b : Nat} {l : List (K × V)} (h : MapAt kv vv w b l) (a : K) {Q : Value → World → Prop} (q : ∀ w', MapAt kv vv w' b (delK a l) → Fr (fun c => c = b) w w' → w'.heap.size = w.heap.size → Q (.tuple #[]) w') : Run (delM P kt sh (.map (some b)) (kv a)) w Q := by
  have hb := h.lt
  obtain ⟨es, c, h1, h2, h3, h4, h5⟩ := h
  have hm : mp w b = some (es, c) := by unfold mp; rw [h1]
  unfold Run delM
  simp only [hm, ko.ok, cond_true]
  rcases findE_run ko a 0 h2 with ⟨j, x, g1, g2, g3, g4, g5, g6⟩ | ⟨g1, g2, g3, g4⟩
  · rw [g1]
    simp only [Nat.zero_add]
    obtain ⟨p1, p2⟩ := sub_born (List.eraseIdx_sublist es j) h4 h5
    refine ⟨_, _, rfl, q _ ⟨_, c, heap_stMp hb, ?_, nodup_delK h3, p1, p2⟩ ((Fr.refl (fun c => c = b) w).stMp (.inl rfl) _ _) (by simp [stMp])⟩
    rw [g6, map_eraseIdx', h2, map_eraseIdx']
  · rw [g1]
    refine ⟨_, _, rfl, q _ ⟨_, c, heap_stMp hb, by rw [g4]; exact h2, by rw [g4]; exact h3, h4, h5⟩ ((Fr.refl (fun c => c = b) w).stMp (.inl rfl) _ _) (by simp [stMp])⟩
/-- A new map. -/
theorem Run_mkmM {Q : Value → World → Prop} (q : ∀ w' b, MapAt kv vv w' b [] → Fr (fun _ => False) w w' → w.heap.size ≤ b → Q (.map (some b)) w') : Run mkmM w Q := by
  refine ⟨_, _, rfl, q _ _ ⟨[], 0, ?_, rfl, by simp, by simp, by simp⟩ ((Fr.refl _ _).alloc _) (Nat.le_refl _)⟩
  show (w.heap.push _)[w.heap.size]? = _
  simp

/-- A walk over a map's entries: those at the places js were met. -/
structure ItAt (kv : K → Value) (vv : V → Value) (w : World) (r b : Nat) (l : List (K × V)) (js : List Nat) : Prop where
  ne : r ≠ b
  nd : js.Nodup
  lt : ∀ j ∈ js, j < l.length
  ex : ∃ (es : List MapEntry) (c : Nat), w.heap[b]? = some (.map es.toArray c) ∧ w.heap[r]? = some (.mapIter (some b) c (js.filterMap fun j => es[j]?.map (·.born)).toArray c) ∧ es.map (fun e => (e.key, e.val)) = l.map (fun p => (kv p.1, vv p.2)) ∧ (l.map (·.1)).Nodup ∧ (∀ e ∈ es, e.born < c) ∧ (es.map (·.born)).Nodup
theorem ItAt.map {r b : Nat} {l : List (K × V)} {js : List Nat} (h : ItAt kv vv w r b l js) : MapAt kv vv w b l := by
  obtain ⟨_, _, _, es, c, h1, _, h2, h3, h4, h5⟩ := h
  exact ⟨es, c, h1, h2, h3, h4, h5⟩
theorem ItAt.fr {F : Nat → Prop} {r b : Nat} {l : List (K × V)} {js : List Nat} (h : ItAt kv vv w r b l js) (f : Fr F w w') (hb : ¬ F b) (hr : ¬ F r) : ItAt kv vv w' r b l js := by
  obtain ⟨ne, nd, lt, es, c, h1, h2, h3⟩ := h
  exact ⟨ne, nd, lt, es, c, by rw [f.block b (Array.getElem?_eq_some_iff.1 h1).1 hb]; exact h1, by rw [f.block r (Array.getElem?_eq_some_iff.1 h2).1 hr]; exact h2, h3⟩
theorem Run_rngM {b : Nat} {l : List (K × V)} (h : MapAt kv vv w b l) {Q : Value → World → Prop} (q : ∀ w' r, ItAt kv vv w' r b l [] → Fr (fun _ => False) w w' → w.heap.size ≤ r → Q (.pointer (some ⟨r, 0, none⟩)) w') : Run (rngM (.map (some b))) w Q := by
  have hb := h.lt
  obtain ⟨es, c, h1, h2, h3, h4, h5⟩ := h
  unfold Run rngM
  simp only [h1]
  refine ⟨_, _, rfl, q _ _ ⟨by omega, by simp, by simp, es, c, ?_, ?_, h2, h3, h4, h5⟩ ((Fr.refl _ _).alloc _) (Nat.le_refl _)⟩
  · show (w.heap.push _)[b]? = _
    rw [Array.getElem?_push, if_neg (by omega)]
    exact h1
  · show (w.heap.push _)[w.heap.size]? = _
    simp
theorem nodup_inj : ∀ {l : List Nat} {i j x : Nat}, l.Nodup → l[i]? = some x → l[j]? = some x → i = j
  | [], i, j, x, _, h, _ => by simp at h
  | y :: l, 0, 0, x, _, _, _ => rfl
  | y :: l, 0, j + 1, x, hn, h, h' => by
    simp only [List.getElem?_cons_zero, Option.some.injEq] at h
    simp only [List.getElem?_cons_succ] at h'
    subst h
    exact absurd (List.mem_of_getElem? h') (List.nodup_cons.1 hn).1
  | y :: l, i + 1, 0, x, hn, h, h' => by
    simp only [List.getElem?_cons_zero, Option.some.injEq] at h'
    simp only [List.getElem?_cons_succ] at h
    subst h'
    exact absurd (List.mem_of_getElem? h) (List.nodup_cons.1 hn).1
  | y :: l, i + 1, j + 1, x, hn, h, h' => by
    simp only [List.getElem?_cons_succ] at h h'
    rw [nodup_inj (List.nodup_cons.1 hn).2 h h']
theorem nextQ_lt {n : Nat} (h : 0 < n) : (nextQ n w).1 < n := by
  unfold nextQ
  split
  · simpa using h
  · exact Nat.mod_lt _ h
theorem nextQ_fr {n : Nat} : Fr (fun _ => False) w (nextQ n w).2 := by
  unfold nextQ
  split
  · exact Fr.refl _ _
  · exact (Fr.refl _ _).drew
/-- The next one. -/
theorem Run_nxtM {r b : Nat} {l : List (K × V)} {js : List Nat} (h : ItAt kv vv w r b l js) {Q : Value → World → Prop}
    (more : ∀ j p, l[j]? = some p → j ∉ js → ∀ w', ItAt kv vv w' r b l (js ++ [j]) → Fr (fun c => c = r) w w' → w'.heap.size = w.heap.size → Q (.tuple #[.bool true, kv p.1, vv p.2]) w')
    (over : js.Perm (List.range l.length) → ∀ w', ItAt kv vv w' r b l js → Fr (fun _ => False) w w' → w'.heap.size = w.heap.size → Q (.tuple #[.bool false]) w') : Run (nxtM (.pointer (some ⟨r, 0, none⟩))) w Q := by
  have hh := h
  obtain ⟨ne, nd, lt, es, c, h1, h2, h3, h4, h5, h6⟩ := h
  have hlen : es.length = l.length := by simpa using congrArg List.length h3
  obtain ⟨seen, hseen⟩ : ∃ seen : List Nat, seen = js.filterMap fun j => es[j]?.map (·.born) := ⟨_, rfl⟩
  rw [← hseen] at h2
  have hs : ∀ x, x ∈ seen ↔ ∃ j ∈ js, ∃ e, es[j]? = some e ∧ e.born = x := by
    intro x
    rw [hseen]
    simp only [List.mem_filterMap, Option.map_eq_some_iff]
  have hinj : ∀ (i j : Nat) (e e' : MapEntry), es[i]? = some e → es[j]? = some e' → e.born = e'.born → i = j := by
    intro i j e e' hi hj he
    have a1 : (es.map (·.born))[i]? = some e.born := by simp [hi]
    have a2 : (es.map (·.born))[j]? = some e.born := by simp [hj, he]
    exact nodup_inj h6 a1 a2
  obtain ⟨left, hleft⟩ : ∃ left : Array MapEntry, left = es.toArray.filter fun e => !seen.toArray.contains e.born := ⟨_, rfl⟩
  have hmem : ∀ e, e ∈ left ↔ e ∈ es ∧ e.born ∉ seen := by
    intro e
    rw [hleft]
    simp
  have hold : left.filter (·.born < c) = left := by
    rw [Array.filter_eq_self]
    intro e he
    simpa using h5 e ((hmem e).1 he).1
  have hnew : left.filter (·.born ≥ c) = #[] := by
    rw [Array.filter_eq_empty_iff]
    intro e he
    have := h5 e ((hmem e).1 he).1
    simp; omega
  have hN : nextC es.toArray c seen.toArray = (if left.isEmpty then #[none] else #[]) ++ left.map some := by
    unfold nextC
    simp only [← hleft, hold, hnew, Array.append_empty]
  have hguard : (!seen.toArray.isEmpty && !es.toArray.isEmpty && es.toArray.all (·.born ≥ c)) = false := by
    cases hes : es with
    | nil => simp
    | cons e es' =>
      have : e.born < c := h5 e (by rw [hes]; simp)
      simp
      intro _
      omega
  unfold Run nxtM
  simp only [h2, h1, hguard]
  rw [if_neg (by simp)]
  by_cases hem : left = #[]
  · have hN' : nextC es.toArray c seen.toArray = #[none] := by rw [hN, hem]; simp
    have hq : (nextQ 1 w) = (0, w) := rfl
    simp only [hN', List.size_toArray, List.length_cons, List.length_nil, Nat.zero_add]
    rw [hq]
    refine ⟨_, _, rfl, over ?_ _ hh (Fr.refl _ _) rfl⟩
    rw [List.perm_ext_iff_of_nodup nd List.nodup_range]
    intro j
    rw [List.mem_range]
    refine ⟨lt j, fun hj => ?_⟩
    have hj' : j < es.length := by omega
    by_cases hjs : j ∈ js
    · exact hjs
    · have : es[j] ∈ left := (hmem _).2 ⟨List.getElem_mem hj', fun hx => by
        obtain ⟨i, hi, e, he, heq⟩ := (hs _).1 hx
        have := hinj i j e es[j] he (List.getElem?_eq_getElem hj') heq
        exact hjs (this ▸ hi)⟩
      rw [hem] at this
      simp at this
  · have hemp : left.isEmpty = false := by simpa using hem
    have hN' : nextC es.toArray c seen.toArray = left.map some := by rw [hN, hemp]; simp
    have hpos : 0 < left.size := by
      rcases Nat.eq_zero_or_pos left.size with h | h
      · exact absurd (Array.eq_empty_of_size_eq_zero h) hem
      · exact h
    simp only [hN', Array.size_map]
    have hq := nextQ_lt (w := w) hpos
    have hfr := nextQ_fr (w := w) (n := left.size)
    have hhp := nextQ_heap left.size w
    generalize nextQ left.size w = q at hq hfr hhp
    have hge : (left.map some)[q.1]? = some (some left[q.1]) := by simp [hq]
    rw [hge]
    have he := (hmem left[q.1]).1 (Array.getElem_mem hq)
    generalize left[q.1] = e at he
    obtain ⟨he1, he2⟩ := he
    obtain ⟨j, hj⟩ := List.getElem?_of_mem he1
    have hjl := (List.getElem?_eq_some_iff.1 hj).1
    have hjs : j ∉ js := fun hjs => he2 ((hs _).2 ⟨j, hjs, e, hj, rfl⟩)
    have hp : ∃ p, l[j]? = some p ∧ e.key = kv p.1 ∧ e.val = vv p.2 := by
      refine ⟨l[j]'(by omega), List.getElem?_eq_getElem _, ?_⟩
      have := congrArg (fun z => z[j]?) h3
      simp only [List.getElem?_map, hj, List.getElem?_eq_getElem (show j < l.length by omega), Option.map_some, Option.some.injEq, Prod.mk.injEq] at this
      exact this
    obtain ⟨p, hp1, hp2, hp3⟩ := hp
    have hrl := (Array.getElem?_eq_some_iff.1 h2).1
    refine ⟨_, _, rfl, ?_⟩
    rw [hp2, hp3]
    refine more j p hp1 hjs _ ⟨ne, ?_, ?_, es, c, ?_, ?_, h3, h4, h5, h6⟩ ⟨hfr.os, hfr.tape, hfr.output, ?_, ?_⟩ ?_
    · rw [List.nodup_append]
      exact ⟨nd, by simp, fun a ha b hb hab => by simp at hb; subst hb; exact hjs (hab ▸ ha)⟩
    · intro i hi
      rcases List.mem_append.1 hi with hi | hi
      · exact lt i hi
      · simp at hi; subst hi; omega
    · show (q.2.heap.setIfInBounds r _)[b]? = _
      rw [hhp, Array.getElem?_setIfInBounds, if_neg ne]
      exact h1
    · show (q.2.heap.setIfInBounds r _)[r]? = _
      rw [hhp, Array.getElem?_setIfInBounds, if_pos rfl, if_pos hrl, hseen]
      simp [List.filterMap_append, hj]
    · show _ ≤ (q.2.heap.setIfInBounds r _).size
      rw [hhp]; simp
    · intro b' hb' hf
      show (q.2.heap.setIfInBounds r _)[b']? = _
      rw [hhp, Array.getElem?_setIfInBounds, if_neg fun h => hf h.symm]
    · show (q.2.heap.setIfInBounds r _).size = _
      rw [hhp]; simp
theorem range_all {α : Type} : ∀ (l : List α), (List.range l.length).filterMap (fun j => l[j]?) = l
  | [] => by simp
  | x :: l => by
    have ih := range_all l
    rw [List.length_cons, List.range_succ_eq_map, List.filterMap_cons]
    simp only [List.getElem?_cons_zero, List.filterMap_map]
    congr 1
/-- What a whole walk met: all, each once. -/
theorem perm_all {α : Type} {l : List α} {js : List Nat} (h : js.Perm (List.range l.length)) : (js.filterMap fun j => l[j]?).Perm l := by
  have h1 := h.filterMap fun j => l[j]?
  have h2 := range_all l
  rwa [h2] at h1
theorem nodup_lt_len : ∀ {n : Nat} {js : List Nat}, js.Nodup → (∀ j ∈ js, j < n) → js.length ≤ n
  | 0, js, _, hl => by
    cases js with
    | nil => simp
    | cons j js => exact absurd (hl j (by simp)) (Nat.not_lt_zero _)
  | n + 1, js, hn, hl => by
    by_cases hm : n ∈ js
    · have h1 := nodup_lt_len (n := n) (js := js.erase n) (hn.erase n) fun j hj => by
        have := (hn.mem_erase_iff).1 hj
        have := hl j this.2
        omega
      have h2 := List.length_erase_of_mem hm
      omega
    · have h1 := nodup_lt_len (n := n) (js := js) hn fun j hj => by
        have := hl j hj
        have : j ≠ n := fun h => hm (h ▸ hj)
        omega
      omega
/-- A loop over all entries of a map, in any order. -/
theorem Run_range {r b : Nat} {l : List (K × V)} {step : List Value → M Out} {k : List Value → Value → M Out} {Q : Out → World → Prop} {ls : List Value} (hstep : ∀ x, step x = M.bind (nxtM (.pointer (some ⟨r, 0, none⟩))) (k x))
    (I : List Nat → List Value → World → Prop) (hI : I [] ls w) (h : ItAt kv vv w r b l [])
    (more : ∀ js j p x w w', l[j]? = some p → j ∉ js → I js x w → ItAt kv vv w' r b l (js ++ [j]) → Fr (fun c => c = r) w w' → w'.heap.size = w.heap.size →
      Run (k x (.tuple #[.bool true, kv p.1, vv p.2])) w' fun o w'' => match o with | .norm x' => I (js ++ [j]) x' w'' ∧ ItAt kv vv w'' r b l (js ++ [j]) | o => Q o w'')
    (over : ∀ js x w w', js.Perm (List.range l.length) → I js x w → ItAt kv vv w' r b l js → Fr (fun _ => False) w w' → w'.heap.size = w.heap.size →
      Run (k x (.tuple #[.bool false])) w' fun o w'' => match o with | .norm _ => False | o => Q o w'') : Run (loopM step ls) w Q := by
  refine Run_for l.length (fun i x w => ∃ js, js.length = i ∧ I js x w ∧ ItAt kv vv w r b l js) ⟨[], rfl, hI, h⟩ ?_ ?_
  · rintro i x w1 hi ⟨js, hjs, hI, h⟩
    rw [hstep, Run_bind]
    refine Run_nxtM h (fun j p hp hj w2 h2 f2 s2 => ?_) fun hperm w2 h2 f2 s2 => ?_
    · refine (more js j p x w1 w2 hp hj hI h2 f2 s2).mono fun o w3 ho => ?_
      cases o with
      | norm x' => exact ⟨_, by simp [hjs], ho.1, ho.2⟩
      | exit a b => exact ho
      | ret v => exact ho
    · have := hperm.length_eq
      rw [List.length_range] at this
      omega
  · rintro x w1 ⟨js, hjs, hI, h⟩
    rw [hstep, Run_bind]
    refine Run_nxtM h (fun j p hp hj w2 h2 f2 s2 => ?_) fun hperm w2 h2 f2 s2 => ?_
    · have := nodup_lt_len h2.nd h2.lt
      simp at this
      omega
    · refine (over js x w1 w2 hperm hI h2 f2 s2).mono fun o w3 ho => ?_
      cases o with
      | norm x' => exact ho
      | exit a b => exact ho
      | ret v => exact ho
/-- The entry at which the walk stands. -/
theorem ItAt.entry {r b : Nat} {l : List (K × V)} {js : List Nat} {j : Nat} {p : K × V} (h : ItAt kv vv w r b l (js ++ [j])) (hp : l[j]? = some p) : entV (.pointer (some ⟨r, 0, none⟩)) w = some (.tuple #[kv p.1, vv p.2]) := by
  obtain ⟨ne, nd, lt, es, c, h1, h2, h3, h4, h5, h6⟩ := h
  have hlen : es.length = l.length := by simpa using congrArg List.length h3
  have hjl := (List.getElem?_eq_some_iff.1 hp).1
  have hej : es[j]? = some (es[j]'(by omega)) := List.getElem?_eq_getElem _
  generalize es[j]'(by omega) = e at hej
  have hkv := congrArg (fun z => z[j]?) h3
  simp only [List.getElem?_map, hej, hp, Option.map_some, Option.some.injEq, Prod.mk.injEq] at hkv
  unfold entV
  simp only [h2]
  have hback : (js ++ [j]).filterMap (fun j => es[j]?.map (·.born)) = js.filterMap (fun j => es[j]?.map (·.born)) ++ [e.born] := by
    simp [List.filterMap_append, hej]
  rw [hback]
  have hb : (js.filterMap (fun j => es[j]?.map (·.born)) ++ [e.born]).toArray.back? = some e.born := by simp
  simp only [hb, h1]
  rw [if_neg (by simp)]
  have hfind : es.toArray.find? (fun x => x.born == e.born) = some e := by
    rw [List.find?_toArray]
    rw [List.find?_eq_some_iff_getElem]
    refine ⟨by simp, j, by omega, ?_, ?_⟩
    · have := (List.getElem?_eq_some_iff.1 hej).2
      exact this
    · intro i hi
      simp only [Bool.not_eq_true', beq_eq_false_iff_ne]
      intro heq
      have a1 : (es.map (·.born))[i]? = some e.born := by
        rw [List.getElem?_map, List.getElem?_eq_getElem (by omega)]
        simp [heq]
      have a2 : (es.map (·.born))[j]? = some e.born := by simp [hej]
      have := nodup_inj h6 a1 a2
      omega
  rw [hfind]
  simp only [hkv.1, hkv.2]
theorem modify_last {α : Type} (f : α → α) : ∀ (es : List α) (x : α), (es ++ [x]).modify es.length f = es ++ [f x]
  | [], x => rfl
  | e :: es, x => by simpa using modify_last f es x
/-- A map into which a new key was put, its value not yet. -/
structure HalfMap (kv : K → Value) (vv : V → Value) (w : World) (b : Nat) (l : List (K × V)) (a : K) (c : Nat) : Prop where
  ex : ∃ (es : List MapEntry) (z : Value), w.heap[b]? = some (.map (es ++ [({ key := kv a, val := z, born := c } : MapEntry)]).toArray (c + 1)) ∧ es.map (fun e => (e.key, e.val)) = l.map (fun p => (kv p.1, vv p.2)) ∧ (l.map (·.1)).Nodup ∧ getK a l = none ∧ (∀ e ∈ es, e.born < c) ∧ (es.map (·.born)).Nodup
theorem HalfMap.fr {F : Nat → Prop} {b c : Nat} {l : List (K × V)} {a : K} (h : HalfMap kv vv w b l a c) (f : Fr F w w') (hd : ¬ F b) : HalfMap kv vv w' b l a c := by
  obtain ⟨es, z, h1, h2⟩ := h
  exact ⟨es, z, by rw [f.block b (Array.getElem?_eq_some_iff.1 h1).1 hd]; exact h1, h2⟩
theorem Run_mentM (ko : KeyOk P kt sh kv) {b : Nat} {l : List (K × V)} (h : MapAt kv vv w b l) {a : K} (hno : getK a l = none) {z : Value} {Q : Value → World → Prop} (q : ∀ w' c, HalfMap kv vv w' b l a c → Fr (fun c => c = b) w w' → w'.heap.size = w.heap.size → Q (.tuple #[z, .int .i64 (c : Nat)]) w') : Run (mentM P kt sh z (.map (some b)) (kv a)) w Q := by
  have hb := h.lt
  obtain ⟨es, c, h1, h2, h3, h4, h5⟩ := h
  have hm : mp w b = some (es, c) := by unfold mp; rw [h1]
  unfold Run mentM
  simp only [hm, ko.ok, cond_true]
  rcases findE_run ko a 0 h2 with ⟨j, x, g1, g2, _⟩ | ⟨g1, g2, g3, g4⟩
  · rw [g2] at hno; cases hno
  · rw [g1]
    exact ⟨_, _, rfl, q _ c ⟨es, z, heap_stMp hb, h2, h3, hno, h4, h5⟩ ((Fr.refl (fun c => c = b) w).stMp (.inl rfl) _ _) (by simp [stMp])⟩
theorem Run_estM {b c : Nat} {l : List (K × V)} {a : K} (h : HalfMap kv vv w b l a c) (v : V) {Q : Value → World → Prop} (q : ∀ w', MapAt kv vv w' b (l ++ [(a, v)]) → Fr (fun c => c = b) w w' → w'.heap.size = w.heap.size → Q undef w') : Run (estM (.map (some b)) (.int .i64 (c : Nat)) (vv v)) w Q := by
  obtain ⟨es, z, h1, h2, h3, hno, h4, h5⟩ := h
  have hb := (Array.getElem?_eq_some_iff.1 h1).1
  have hm : mp w b = some (es ++ [({ key := kv a, val := z, born := c } : MapEntry)], c + 1) := by unfold mp; rw [h1]
  have hf : (es ++ [({ key := kv a, val := z, born := c } : MapEntry)]).findIdx? (fun e => (e.born : Int) == (c : Int)) = some es.length := by
    rw [List.findIdx?_append]
    have : es.findIdx? (fun e => (e.born : Int) == (c : Int)) = none := by
      rw [List.findIdx?_eq_none_iff]
      intro e he
      have := h4 e he
      simp
      omega
    rw [this]
    simp
  unfold Run estM
  simp only [hm, hf]
  have hmod : (es ++ [({ key := kv a, val := z, born := c } : MapEntry)]).modify es.length (fun e => { e with val := vv v }) = es ++ [{ key := kv a, val := vv v, born := c }] := by
    exact modify_last _ es _
  refine ⟨_, _, rfl, q _ ⟨es ++ [{ key := kv a, val := vv v, born := c }], c + 1, ?_, ?_, ?_, ?_, ?_⟩ ((Fr.refl (fun c => c = b) w).stMp (.inl rfl) _ _) (by simp [stMp])⟩
  · rw [hmod]; exact heap_stMp hb
  · simp [h2]
  · rw [List.map_append, List.nodup_append]
    refine ⟨h3, by simp, fun x hx y hy => ?_⟩
    simp at hy
    obtain ⟨p, hp, rfl⟩ := List.mem_map.1 hx
    have := getK_none.1 hno p hp
    rw [hy]
    exact Ne.symm this
  · intro e he
    rcases List.mem_append.1 he with he | he
    · have := h4 e he; omega
    · simp at he; subst he; simp
  · rw [List.map_append, List.nodup_append]
    refine ⟨h5, by simp, fun x hx y hy => ?_⟩
    simp at hy
    obtain ⟨e, he, rfl⟩ := List.mem_map.1 hx
    have := h4 e he
    omega
theorem getK_append {a x : K} {v : V} : ∀ {l : List (K × V)}, getK a l = none → getK x (l ++ [(a, v)]) = if x = a then some v else getK x l
  | [], _ => by by_cases h : x = a <;> simp [getK, h]
  | p :: l, hn => by
    by_cases hp : a = p.1
    · simp [getK, hp] at hn
    · simp only [getK, hp, if_false] at hn
      have ih := getK_append (a := a) (x := x) (v := v) (l := l) hn
      simp only [List.cons_append, getK, ih]
      by_cases h : x = p.1
      · have : ¬ x = a := by rw [h]; exact fun he => hp he.symm
        simp [h]
        intro he
        exact absurd he.symm hp
      · simp [h]
end
end Go.Lift
