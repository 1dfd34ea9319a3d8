/-
  Layer 1 (disk), the document's disk: part A: entries (find, without, having), names.
-/
import Derived.Test.YtojnickeblbgoaaGreatDoorGqX
namespace Go.Proofs.YtojnickeblbgoaaGreatDoor
open Go.Lift
set_option linter.unusedSimpArgs false
set_option linter.unusedVariables false
set_option maxHeartbeats 4000000

abbrev RSl := List (ByteArray × Int)
def slC (e : ByteArray × Int) : List Value := [.string e.1, .int .i64 e.2]
def findL : RSl → ByteArray → Int
  | [], _ => -1
  | e :: l, x => if e.1 = x then e.2 else findL l x
theorem findL_drop (l : RSl) (x : ByteArray) {i : Nat} {e : ByteArray × Int} (he : l[i]? = some e) : findL (l.drop i) x = if e.1 = x then e.2 else findL (l.drop (i + 1)) x := by
  have : l.drop i = e :: l.drop (i + 1) := by
    obtain ⟨h, rfl⟩ := List.getElem?_eq_some_iff.1 he
    exact List.drop_eq_getElem_cons h
  rw [this]; rfl
theorem rfind_run {w : World} {sv : Value} {l : RSl} (hs : Sl 2 w sv (l.map slC)) (x : ByteArray) (hl : l.length ≤ 4611686018427387904) :
    Run (F.granaryref1_find sv (.string x)) w fun r w' => r = .int .i64 (findL l x) ∧ w' = w := by
  unfold F.granaryref1_find
  have hlen := hs.lenL
  rw [List.length_map] at hlen
  simp only [Run_bind]
  refine Run_for l.length (fun i L w' => L = [.int .i64 i] ∧ w' = w ∧ findL l x = findL (l.drop i) x) ⟨rfl, rfl, rfl⟩ ?_ ?_
  · rintro i L w1 hi ⟨rfl, hw, hI⟩
    rw [hw]
    have hi' : (i : Int) < l.length := by omega
    have ei : l[i]? = some l[i] := List.getElem?_eq_getElem hi
    generalize l[i] = e at ei
    rw [findL_drop l x ei] at hI
    obtain ⟨p, q1, q2⟩ := hs.rdF (i := i) (e := slC e) (by simp [ei]) .i64
    obtain ⟨f0, g0, g1⟩ := q2 0 (by decide)
    obtain ⟨f1, g2, g3⟩ := q2 1 (by decide)
    have g1 : ld1 f0 w = some (.string e.1) := g1
    have g3 : ld1 f1 w = some (.int .i64 e.2) := g3
    have wi := wrap_succ (n := i) (by omega)
    by_cases he : e.1 = x
    · simp [hlen, hi', q1, g0, g1, g2, g3, ba_eq, he]
      rw [hI, if_pos he]
    · simp [hlen, hi', q1, g0, g1, ba_eq, he, wi]
      rw [hI, if_neg he]
  · rintro L w1 ⟨rfl, hw, hI⟩
    rw [hw]
    simp [hlen]
    rw [hI, List.drop_length]; rfl
def ltB (a b : ByteArray) : Bool := Op.bytesLess a.toList b.toList
@[simp] theorem strBin_geq {a b : ByteArray} : strBin .geq a b = some (.bool !(ltB a b)) := rfl
/-- A list of entries of one's own. -/
structure Own (w w' : World) (v : Value) (l : RSl) : Prop where
  sl : SlW 2 w' v (l.map slC)
  fresh : ∀ c, inB v c → w.heap.size ≤ c ∧ c < w'.heap.size
  fr : Fr (fun _ => False) w w'
theorem Own.nil (w : World) : Own w w (.slice none 0 0) [] := ⟨SlW.nil _ _, fun _ h => h.elim, Fr.refl _ _⟩
theorem Own.fr0 {w w1 w2 : World} {v : Value} {l : RSl} (h : Own w w1 v l) (f : Fr (fun _ => False) w1 w2) : Own w w2 v l :=
  ⟨h.sl.fr f fun _ _ => id, fun c hc => by have := h.fresh c hc; have := f.size; omega, h.fr.trans f fun _ _ => id⟩
def slV (e : ByteArray × Int) : Value := .agg (slC e).toArray
theorem own_app {w w1 : World} {v : Value} {l : RSl} (h : Own w w1 v l) (e : ByteArray × Int) {a1 a2 : Nat} (hl : l.length ≤ 33554432) {K : Value → World → Prop} (q : ∀ r w2, Own w w2 r (l ++ [e]) → K r w2) :
    Run (bslM a1 1 (Builtin.zeroCells #[(Value.string ByteArray.empty), (Value.int IntKind.i64 0)] 1) [(0, 2, slV e)]) w1 fun a w2 => Run (appM a2 2 24 #[(Value.string ByteArray.empty), (Value.int IntKind.i64 0)] v a) w2 fun r w' => K r w' := by
  refine Run_app1 (K := fun _ r w' => K r w') (k := 2) (y := slV e) (by simp [slV, slC]) h.sl (by decide) rfl (by decide) (by simp [slV, slC]) (by simp only [List.length_map]; omega) fun r w2 hr f2 hin w3 f3 => q r w2 ?_
  have s := f2.size
  refine ⟨by simpa [slV] using hr, fun c hc => ?_, h.fr.new f2 fun c hc => (h.fresh c hc).1⟩
  have s0 := h.fr.size
  rcases hin c hc with hc | hc
  · have := h.fresh c hc; omega
  · omega
theorem build_sl (x : ByteArray) (k : Int) : buildV #[.string ByteArray.empty, .int .i64 0] [(0, 1, .string x), (1, 1, .int .i64 k)] = some (slV (x, k)) := by simp [buildV, fillV, slV, slC]
theorem take_snoc {α : Type} {l : List α} {i : Nat} {e : α} (he : l[i]? = some e) : l.take (i + 1) = l.take i ++ [e] := by rw [List.take_add_one, he]; rfl
def withoutL (l : RSl) (x : ByteArray) : RSl := l.filter fun e => !decide (e.1 = x)
theorem rwithout_run {w : World} {sv : Value} {l : RSl} (hs : Sl 2 w sv (l.map slC)) (x : ByteArray) (hl : l.length ≤ 16777216) :
    Run (F.granaryref1_without sv (.string x)) w fun r w' => Own w w' r (withoutL l x) := by
  unfold F.granaryref1_without
  have hlen := hs.lenL
  rw [List.length_map] at hlen
  simp only [Run_bind]
  refine Run_for l.length (fun i L w' => ∃ m, L = [m, .int .i64 i] ∧ Own w w' m (withoutL (l.take i) x)) ⟨_, rfl, Own.nil w⟩ ?_ ?_
  · rintro i L w1 hi ⟨m, rfl, hI⟩
    have hi' : (i : Int) < l.length := by omega
    have ei : l[i]? = some l[i] := List.getElem?_eq_getElem hi
    generalize l[i] = e at ei
    have et : withoutL (l.take (i + 1)) x = withoutL (l.take i) x ++ (if e.1 = x then [] else [e]) := by
      unfold withoutL
      rw [take_snoc ei, List.filter_append]
      by_cases h : e.1 = x <;> simp [h]
    rw [et]
    obtain ⟨p, q1, q2⟩ := (hs.fr0 hI.fr).rdF (i := i) (e := slC e) (by simp [ei]) .i64
    obtain ⟨f0, g0, g1⟩ := q2 0 (by decide)
    have g1 : ld1 f0 w1 = some (.string e.1) := g1
    obtain ⟨p', q3, q4⟩ := (hs.fr0 hI.fr).rdA (i := i) (e := slC e) (by decide) (by simp [ei]) .i64
    rw [q1] at q3; cases q3
    have q4 : ldA 2 p w1 = some (slV e) := q4
    have wi := wrap_succ (n := i) (by omega)
    have hle : (withoutL (l.take i) x).length ≤ 33554432 := by
      have := List.length_filter_le (fun e : ByteArray × Int => !decide (e.1 = x)) (l.take i)
      have h2 := List.length_take_le i l
      unfold withoutL; omega
    by_cases he : e.1 = x
    · simp [-ldA_ptr, hlen, hi', q1, g0, g1, ba_eq, he, wi]
      exact hI
    · simp [-ldA_ptr, hlen, hi', q1, g0, g1, ba_eq, he, q4]
      refine own_app hI e hle fun r w2 h2 => ?_
      simp [wi]
      exact h2
  · rintro L w1 ⟨m, rfl, hI⟩
    rw [List.take_length] at hI
    simp [hlen]
    exact hI
def hvStep (x : ByteArray) (k : Int) (st : RSl × Bool) (e : ByteArray × Int) : RSl × Bool :=
  let s1 := if st.2 = false ∧ ltB e.1 x = false then (st.1 ++ [(x, k)], true) else st
  if e.1 = x then s1 else (s1.1 ++ [e], s1.2)
def havingL (l : RSl) (x : ByteArray) (k : Int) : RSl := let st := l.foldl (hvStep x k) ([], false); if st.2 then st.1 else st.1 ++ [(x, k)]
theorem hv_len (x : ByteArray) (k : Int) : ∀ (l : RSl) (st : RSl × Bool), (l.foldl (hvStep x k) st).1.length ≤ st.1.length + 2 * l.length
  | [], st => by simp
  | e :: l, st => by
    have := hv_len x k l (hvStep x k st e)
    have h2 : (hvStep x k st e).1.length ≤ st.1.length + 2 := by
      unfold hvStep
      simp only
      split <;> split <;> simp
    simp only [List.foldl_cons, List.length_cons]; omega
theorem rhaving_run {w : World} {sv : Value} {l : RSl} (hs : Sl 2 w sv (l.map slC)) (x : ByteArray) (k : Int) (hl : l.length ≤ 8388608) :
    Run (F.granaryref1_having sv (.string x) (.int .i64 k)) w fun r w' => Own w w' r (havingL l x k) := by
  unfold F.granaryref1_having
  have hlen := hs.lenL
  rw [List.length_map] at hlen
  simp only [Run_bind]
  refine Run_for l.length (fun i L w' => ∃ m, L = [m, .bool ((l.take i).foldl (hvStep x k) ([], false)).2, .int .i64 i] ∧ Own w w' m ((l.take i).foldl (hvStep x k) ([], false)).1) ⟨_, rfl, Own.nil w⟩ ?_ ?_
  · rintro i L w1 hi ⟨m, rfl, hI⟩
    have hi' : (i : Int) < l.length := by omega
    have ei : l[i]? = some l[i] := List.getElem?_eq_getElem hi
    generalize l[i] = e at ei
    rw [take_snoc ei, List.foldl_append, List.foldl_cons, List.foldl_nil]
    have hle := hv_len x k (l.take i) ([], false)
    have h2 := List.length_take_le i l
    simp only [List.length_nil] at hle
    generalize (l.take i).foldl (hvStep x k) ([], false) = st at hI hle
    obtain ⟨p, q1, q2⟩ := (hs.fr0 hI.fr).rdF (i := i) (e := slC e) (by simp [ei]) .i64
    obtain ⟨f0, g0, g1⟩ := q2 0 (by decide)
    have g1 : ld1 f0 w1 = some (.string e.1) := g1
    have wi := wrap_succ (n := i) (by omega)
    -- the second half of a step
    have second : ∀ {m' : Value} {w2 : World} {s1 : RSl × Bool}, Own w w2 m' s1.1 → s1.1.length ≤ 33554432 → ∃ p', idxA 2 sv (.int .i64 i) = some p' ∧ p' = p ∧ ld1 f0 w2 = some (.string e.1) ∧ ldA 2 p w2 = some (slV e) := fun h2 _ => by
      obtain ⟨p2, a1, a2⟩ := (hs.fr0 h2.fr).rdF (i := i) (e := slC e) (by simp [ei]) .i64
      rw [q1] at a1; cases a1
      obtain ⟨f1, b0, b1⟩ := a2 0 (by decide)
      rw [g0] at b0; cases b0
      obtain ⟨p', q3, q4⟩ := (hs.fr0 h2.fr).rdA (i := i) (e := slC e) (by decide) (by simp [ei]) .i64
      rw [q1] at q3; cases q3
      exact ⟨p, q1, rfl, b1, q4⟩
    unfold hvStep
    simp only
    by_cases c1 : st.2 = false ∧ ltB e.1 x = false
    · rw [if_pos c1]
      simp [-ldA_ptr, hlen, hi', q1, g0, g1, c1.1, c1.2, build_sl]
      refine own_app hI (x, k) (by omega) fun r w2 h2 => ?_
      obtain ⟨_, _, _, g1', q4⟩ := second (s1 := (st.1 ++ [(x, k)], true)) h2 (by simp; omega)
      by_cases he : e.1 = x
      · simp [-ldA_ptr, q1, g0, g1', ba_eq, he, wi]
        exact h2
      · simp [-ldA_ptr, q1, g0, g1', ba_eq, he, q4]
        refine own_app h2 e (by simp; omega) fun r w3 h3 => ?_
        simp [wi]
        simpa using h3
    · rw [if_neg c1]
      have hcond : (st.2 = true) ∨ (st.2 = false ∧ ltB e.1 x = true) := by
        cases h : st.2 <;> cases h' : ltB e.1 x <;> simp_all
      obtain ⟨_, _, _, g1', q4⟩ := second (s1 := st) hI (by omega)
      rcases hcond with hc | ⟨hc, hc'⟩
      · by_cases he : e.1 = x
        · simp [-ldA_ptr, hlen, hi', q1, g0, g1', hc, ba_eq, he, wi]
          exact hI
        · simp [-ldA_ptr, hlen, hi', q1, g0, g1', hc, ba_eq, he, q4]
          refine own_app hI e (by omega) fun r w3 h3 => ?_
          simp [wi]
          exact h3
      · by_cases he : e.1 = x
        · rw [he] at hc'
          simp [-ldA_ptr, hlen, hi', q1, g0, g1', hc, hc', ba_eq, he, wi]
          exact hI
        · simp [-ldA_ptr, hlen, hi', q1, g0, g1', hc, hc', ba_eq, he, q4]
          refine own_app hI e (by omega) fun r w3 h3 => ?_
          simp [wi]
          exact h3
  · rintro L w1 ⟨m, rfl, hI⟩
    have hle := hv_len x k l ([], false)
    simp only [List.length_nil] at hle
    rw [List.take_length] at hI ⊢
    unfold havingL
    simp only
    generalize l.foldl (hvStep x k) ([], false) = st at hI hle
    cases hst : st.2
    · simp [hlen, hst, build_sl]
      refine own_app hI (x, k) (by omega) fun r w2 h2 => ?_
      exact h2
    · simp [hlen, hst]
      exact hI
end Go.Proofs.YtojnickeblbgoaaGreatDoor

/-
  Layer 1 (disk), the document's disk: part B: its memory.
-/
namespace Go.Proofs.YtojnickeblbgoaaGreatDoor
open Go.Lift
set_option linter.unusedSimpArgs false
set_option linter.unusedVariables false
set_option maxHeartbeats 4000000

structure Sd where
  data : ByteArray
  slots : RSl
structure Th where
  kind : Int
  seen : Sd
  kept : Sd
structure Rc where
  thing : Int
  what : Int
  n : Int
  a : ByteArray
  b : ByteArray
  data : ByteArray
def Rc.cells (c : Rc) : List Value := [.int .i64 c.thing, .int .i64 c.what, .int .i64 c.n, .string c.a, .string c.b, .string c.data]
def Rc.val (c : Rc) : Value := .agg c.cells.toArray
theorem Rc.all (c : Rc) : c.cells.all isCell = true := by simp [Rc.cells]
structure Rk where
  cap : Int
  acts : Int
  reads : Int
  left : Int
  down : Bool
  things : List Th
  line : List Rc
abbrev TV := Th × Value × Value
def thC (t : TV) : List Value := [.int .i64 t.1.kind, .string t.1.seen.data, t.2.1, .string t.1.kept.data, t.2.2]
structure RV where
  tv : Value
  lv : Value
  ts : List TV
def Rk.cells (r : Rk) (v : RV) : List Value := [.int .i64 r.cap, .int .i64 r.acts, .int .i64 r.reads, .int .i64 r.left, .bool r.down, v.tv, v.lv]
/-- A list of entries that nothing writes to. -/
def SlA (w : World) (tag : Nat → Nat) (l : RSl) (sv : Value) : Prop := Sl 2 w sv (l.map slC) ∧ ∀ c, inB sv c → tag c = 4
/-- The document's disk in memory. -/
structure RA (w : World) (b : Nat) (r : Rk) (v : RV) (tag : Nat → Nat) : Prop where
  blk : Go.Lift.bk w b = some (r.cells v)
  wr : Go.Lift.wr w b = true
  tE : v.ts.map (·.1) = r.things
  things : SlW 5 w v.tv (v.ts.map thC)
  slots : ∀ t ∈ v.ts, SlA w tag t.1.seen.slots t.2.1 ∧ SlA w tag t.1.kept.slots t.2.2
  line : SlW 6 w v.lv (r.line.map Rc.cells)
  tb : tag b = 1
  tt : ∀ c, inB v.tv c → tag c = 2
  tl : ∀ c, inB v.lv c → tag c = 3
  t0 : tag 0 = 0
  bound : ∀ c, tag c ≠ 0 → c < w.heap.size
section
variable {w w' w'' : World} {b : Nat} {r r' : Rk} {v : RV} {tag tag' : Nat → Nat}
theorem SlA.fr {F : Nat → Prop} {l : RSl} {sv : Value} (h : SlA w tag l sv) (f : Fr F w w') (hF : ∀ c, F c → tag c ≠ 4) : SlA w' tag l sv := ⟨h.1.fr f fun c hc hf => hF c hf (h.2 c hc), h.2⟩
theorem RA.fr {F : Nat → Prop} (h : RA w b r v tag) (f : Fr F w w') (hF : ∀ c, F c → tag c = 0) : RA w' b r v tag := by
  have s := f.size
  have nb : ∀ c, tag c ≠ 0 → ¬ F c := fun c hc hf => hc (hF c hf)
  have b1 : ¬ F b := nb b (by rw [h.tb]; decide)
  exact ⟨f.bk_some h.blk b1, by rw [f.wr (bk_lt h.blk) b1]; exact h.wr, h.tE, h.things.fr f fun c hc => nb c (by rw [h.tt c hc]; decide),
    fun t ht => ⟨(h.slots t ht).1.fr f fun c hc => by rw [hF c hc]; decide, (h.slots t ht).2.fr f fun c hc => by rw [hF c hc]; decide⟩,
    h.line.fr f fun c hc => nb c (by rw [h.tl c hc]; decide), h.tb, h.tt, h.tl, h.t0, fun c hc => Nat.lt_of_lt_of_le (h.bound c hc) s⟩
theorem RA.fr0 (h : RA w b r v tag) (f : Fr (fun _ => False) w w') : RA w' b r v tag := h.fr f fun _ h => h.elim
/-- A field of its own block is written. -/
theorem RA.put (h : RA w b r v tag) {i : Nat} {x : Value} (hc : (r.cells v).set i x = r'.cells v) (h1 : r'.things = r.things) (h2 : r'.line = r.line) : RA (sto w b i [x]) b r' v tag := by
  have f : Fr (fun c => c = b) w (sto w b i [x]) := (Fr.refl (fun c => c = b) w).sto (.inl rfl) _ _
  have nb : ∀ c, tag c ≠ 1 → ¬ c = b := fun c hc he => hc (by rw [he]; exact h.tb)
  refine ⟨?_, by rw [wr_sto]; exact h.wr, by rw [h1]; exact h.tE, h.things.fr f fun c hc => nb c (by rw [h.tt c hc]; decide),
    fun t ht => ⟨(h.slots t ht).1.fr f fun c hc => by rw [hc, h.tb]; decide, (h.slots t ht).2.fr f fun c hc => by rw [hc, h.tb]; decide⟩, ?_, h.tb, h.tt, h.tl, h.t0, fun c hc => by rw [size_sto]; exact h.bound c hc⟩
  · rw [bk_sto_eq, h.blk]
    simp [hc]
  · rw [h2]; exact h.line.fr f fun c hc => nb c (by rw [h.tl c hc]; decide)
def Rk.actF (r : Rk) : Int × Rk := if r.left = 0 then (10, { r with down := true }) else (0, { r with left := if 0 < r.left then IntKind.i64.wrap (r.left - 1) else r.left, acts := IntKind.i64.wrap (r.acts + 1) })
theorem ract_run (h : RA w b r v tag) : Run (F.granaryref1_Disk_act (Ptr b)) w fun x w' => x = .int .i64 r.actF.1 ∧ RA w' b r.actF.2 v tag ∧ Fr (fun c => c = b) w w' := by
  unfold F.granaryref1_Disk_act
  have hb := h.blk
  have hw := h.wr
  unfold Rk.actF
  by_cases h0 : r.left = 0
  · simp [hb, hw, Rk.cells, h0]
    exact ⟨h.put (by simp [Rk.cells, h0]) rfl rfl, (Fr.refl (fun c => c = b) w).sto (.inl rfl) _ _⟩
  · by_cases h1 : 0 < r.left
    · have t1 : RA (sto w b 3 [.int .i64 (IntKind.i64.wrap (r.left - 1))]) b { r with left := IntKind.i64.wrap (r.left - 1) } v tag := h.put rfl rfl rfl
      simp [hb, hw, Rk.cells, h0, h1]
      exact ⟨t1.put (by simp [Rk.cells]) rfl rfl, ((Fr.refl (fun c => c = b) w).sto (.inl rfl) _ _).sto (.inl rfl) _ _⟩
    · simp [hb, hw, Rk.cells, h0, h1]
      exact ⟨h.put (by simp [Rk.cells]) rfl rfl, (Fr.refl (fun c => c = b) w).sto (.inl rfl) _ _⟩
/-- What a call on a disk did. -/
def RDid (w w' : World) (b : Nat) (tag : Nat → Nat) (r' : Rk) : Prop := Fr (fun c => tag c ≠ 0) w w' ∧ ∃ v' tag', RA w' b r' v' tag' ∧ ∀ c, tag' c ≠ 0 → tag c ≠ 0 ∨ w.heap.size ≤ c
theorem RA.did (h : RA w' b r' v tag) (f : Fr (fun c => tag c ≠ 0) w w') : RDid w w' b tag r' := ⟨f, v, tag, h, fun _ h => .inl h⟩
theorem RDid.pre (f : Fr (fun _ => False) w w') (h : RDid w' w'' b tag r') : RDid w w'' b tag r' := by
  obtain ⟨f', v', tag', h1, h2⟩ := h
  have s := f.size
  exact ⟨(f.mono fun _ h => h.elim).trans f' fun _ _ h => h, v', tag', h1, fun c hc => (h2 c hc).imp id fun h => by omega⟩
theorem RDid.post (h : RDid w w' b tag r') (f : Fr (fun _ => False) w' w'') : RDid w w'' b tag r' := by
  obtain ⟨f', v', tag', h1, h2⟩ := h
  exact ⟨f'.trans f fun _ _ h => h.elim, v', tag', h1.fr0 f, h2⟩
theorem RDid.trans {r'' : Rk} (f : Fr (fun c => tag c ≠ 0) w w') (ht : ∀ c, tag' c ≠ 0 → tag c ≠ 0 ∨ w.heap.size ≤ c) (h : RDid w' w'' b tag' r'') : RDid w w'' b tag r'' := by
  obtain ⟨f', v'', tag'', h1, h2⟩ := h
  have s := f.size
  exact ⟨f.trans f' fun c hc h => (ht c h).elim id fun h' => by omega, v'', tag'', h1, fun c hc => (h2 c hc).elim (ht c) fun h => .inr (by omega)⟩
/-- Another line. -/
theorem RA.newLine (h : RA w b r v tag) (f0 : Fr (inB v.lv) w w') {x : Value} {l : List Rc} (hr : SlW 6 w' x (l.map Rc.cells)) (hin : ∀ c, inB x c → inB v.lv c ∨ (w.heap.size ≤ c ∧ c < w'.heap.size)) :
    Go.Lift.bk w' b = some (r.cells v) ∧ Go.Lift.wr w' b = true ∧ ∃ tag', RA (sto w' b 6 [x]) b { r with line := l } { v with lv := x } tag' ∧ Fr (fun c => tag c ≠ 0) w (sto w' b 6 [x]) ∧ ∀ c, tag' c ≠ 0 → tag c ≠ 0 ∨ w.heap.size ≤ c := by
  classical
  have s := f0.size
  have told : ∀ c, inB v.lv c → tag c = 3 := h.tl
  have nv : ∀ c, tag c ≠ 3 → ¬ inB v.lv c := fun c hc hi => hc (told c hi)
  have hb := h.blk
  have hb' : Go.Lift.bk w' b = some (r.cells v) := f0.bk_some hb (nv b (by rw [h.tb]; decide))
  have hw' : Go.Lift.wr w' b = true := by rw [f0.wr (bk_lt hb) (nv b (by rw [h.tb]; decide))]; exact h.wr
  have f : Fr (fun c => inB v.lv c ∨ c = b) w (sto w' b 6 [x]) := by
    refine Fr.sto (b := b) (f0.mono fun c hc => ?_) (.inl ?_) _ _
    · exact Or.inl hc
    · exact Or.inr rfl
  have nb : ∀ c, tag c ≠ 1 → tag c ≠ 3 → ¬ (inB v.lv c ∨ c = b) := fun c h1 h4 hc => hc.elim (nv c h4) fun he => h1 (by rw [he]; exact h.tb)
  have nr : ∀ c, tag c ≠ 0 → tag c ≠ 3 → ¬ inB x c := fun c h0 h5 hi => by
    rcases hin c hi with h' | h'
    · exact nv c h5 h'
    · have := h.bound c h0; omega
  have hrb : ∀ c, inB x c → ¬ c = b := fun c hc he => nr b (by rw [h.tb]; decide) (by rw [h.tb]; decide) (he ▸ hc)
  have hr' := hr.fr ((Fr.refl (fun c => c = b) w').sto (.inl rfl) 6 [x]) hrb
  obtain ⟨tag', tpos, tneg, tboth⟩ : ∃ tag' : Nat → Nat, (∀ c, inB x c → tag' c = 3) ∧ (∀ c, tag c ≠ 0 → tag c ≠ 3 → tag' c = tag c) ∧ (∀ c, ¬ inB x c → tag' c = tag c) :=
    ⟨fun c => if inB x c then 3 else tag c, fun c hc => if_pos hc, fun c h0 h5 => if_neg (nr c h0 h5), fun c hc => if_neg hc⟩
  have sla : ∀ {l : RSl} {sv : Value}, SlA w tag l sv → SlA (sto w' b 6 [x]) tag' l sv := fun q => ⟨q.1.fr f fun c hc => nb c (by rw [q.2 c hc]; decide) (by rw [q.2 c hc]; decide), fun c hc => by rw [tneg c (by rw [q.2 c hc]; decide) (by rw [q.2 c hc]; decide)]; exact q.2 c hc⟩
  refine ⟨hb', hw', tag', ⟨?_, by rw [wr_sto]; exact hw', h.tE, h.things.fr f fun c hc => nb c (by rw [h.tt c hc]; decide) (by rw [h.tt c hc]; decide), fun t ht => ⟨sla (h.slots t ht).1, sla (h.slots t ht).2⟩, hr', ?_, fun c hc => by rw [tneg c (by rw [h.tt c hc]; decide) (by rw [h.tt c hc]; decide)]; exact h.tt c hc, tpos, ?_, ?_⟩, f.mono ?_, ?_⟩
  · rw [bk_sto_eq, hb']
    simp [Rk.cells]
  · rw [tneg b (by rw [h.tb]; decide) (by rw [h.tb]; decide)]; exact h.tb
  · rw [tboth 0 fun hi => ?_]
    · exact h.t0
    · rcases hin 0 hi with h' | h'
      · have := told 0 h'; rw [h.t0] at this; cases this
      · have := bk_lt hb; omega
  · intro c hc
    rw [size_sto]
    by_cases hi : inB x c
    · rcases hin c hi with h' | h'
      · have := h.bound c (by rw [told c h']; decide); omega
      · exact h'.2
    · rw [tboth c hi] at hc
      have := h.bound c hc; omega
  · rintro c (hc | hc)
    · rw [told c hc]; decide
    · rw [hc, h.tb]; decide
  · intro c hc
    by_cases hi : inB x c
    · rcases hin c hi with h' | h'
      · exact .inl (by rw [told c h']; decide)
      · exact .inr h'.1
    · rw [tboth c hi] at hc; exact .inl hc
/-- Another list of things. -/
theorem RA.newThings (h : RA w b r v tag) (f0 : Fr (inB v.tv) w w') {x : Value} {l : List TV} (hs : ∀ t ∈ l, SlA w tag t.1.seen.slots t.2.1 ∧ SlA w tag t.1.kept.slots t.2.2) (hr : SlW 5 w' x (l.map thC)) (hin : ∀ c, inB x c → inB v.tv c ∨ (w.heap.size ≤ c ∧ c < w'.heap.size)) :
    Go.Lift.bk w' b = some (r.cells v) ∧ Go.Lift.wr w' b = true ∧ ∃ tag', RA (sto w' b 5 [x]) b { r with things := l.map (·.1) } { v with tv := x, ts := l } tag' ∧ Fr (fun c => tag c ≠ 0) w (sto w' b 5 [x]) ∧ ∀ c, tag' c ≠ 0 → tag c ≠ 0 ∨ w.heap.size ≤ c := by
  classical
  have s := f0.size
  have told : ∀ c, inB v.tv c → tag c = 2 := h.tt
  have nv : ∀ c, tag c ≠ 2 → ¬ inB v.tv c := fun c hc hi => hc (told c hi)
  have hb := h.blk
  have hb' : Go.Lift.bk w' b = some (r.cells v) := f0.bk_some hb (nv b (by rw [h.tb]; decide))
  have hw' : Go.Lift.wr w' b = true := by rw [f0.wr (bk_lt hb) (nv b (by rw [h.tb]; decide))]; exact h.wr
  have f : Fr (fun c => inB v.tv c ∨ c = b) w (sto w' b 5 [x]) := by
    refine Fr.sto (b := b) (f0.mono fun c hc => ?_) (.inl ?_) _ _
    · exact Or.inl hc
    · exact Or.inr rfl
  have nb : ∀ c, tag c ≠ 1 → tag c ≠ 2 → ¬ (inB v.tv c ∨ c = b) := fun c h1 h4 hc => hc.elim (nv c h4) fun he => h1 (by rw [he]; exact h.tb)
  have nr : ∀ c, tag c ≠ 0 → tag c ≠ 2 → ¬ inB x c := fun c h0 h5 hi => by
    rcases hin c hi with h' | h'
    · exact nv c h5 h'
    · have := h.bound c h0; omega
  have hrb : ∀ c, inB x c → ¬ c = b := fun c hc he => nr b (by rw [h.tb]; decide) (by rw [h.tb]; decide) (he ▸ hc)
  have hr' := hr.fr ((Fr.refl (fun c => c = b) w').sto (.inl rfl) 5 [x]) hrb
  obtain ⟨tag', tpos, tneg, tboth⟩ : ∃ tag' : Nat → Nat, (∀ c, inB x c → tag' c = 2) ∧ (∀ c, tag c ≠ 0 → tag c ≠ 2 → tag' c = tag c) ∧ (∀ c, ¬ inB x c → tag' c = tag c) :=
    ⟨fun c => if inB x c then 2 else tag c, fun c hc => if_pos hc, fun c h0 h5 => if_neg (nr c h0 h5), fun c hc => if_neg hc⟩
  have sla : ∀ {l : RSl} {sv : Value}, SlA w tag l sv → SlA (sto w' b 5 [x]) tag' l sv := fun q => ⟨q.1.fr f fun c hc => nb c (by rw [q.2 c hc]; decide) (by rw [q.2 c hc]; decide), fun c hc => by rw [tneg c (by rw [q.2 c hc]; decide) (by rw [q.2 c hc]; decide)]; exact q.2 c hc⟩
  refine ⟨hb', hw', tag', ⟨?_, by rw [wr_sto]; exact hw', rfl, hr', fun t ht => ⟨sla (hs t ht).1, sla (hs t ht).2⟩, h.line.fr f fun c hc => nb c (by rw [h.tl c hc]; decide) (by rw [h.tl c hc]; decide), ?_, tpos, fun c hc => by rw [tneg c (by rw [h.tl c hc]; decide) (by rw [h.tl c hc]; decide)]; exact h.tl c hc, ?_, ?_⟩, f.mono ?_, ?_⟩
  · rw [bk_sto_eq, hb']
    simp [Rk.cells]
  · rw [tneg b (by rw [h.tb]; decide) (by rw [h.tb]; decide)]; exact h.tb
  · rw [tboth 0 fun hi => ?_]
    · exact h.t0
    · rcases hin 0 hi with h' | h'
      · have := told 0 h'; rw [h.t0] at this; cases this
      · have := bk_lt hb; omega
  · intro c hc
    rw [size_sto]
    by_cases hi : inB x c
    · rcases hin c hi with h' | h'
      · have := h.bound c (by rw [told c h']; decide); omega
      · exact h'.2
    · rw [tboth c hi] at hc
      have := h.bound c hc; omega
  · rintro c (hc | hc)
    · rw [told c hc]; decide
    · rw [hc, h.tb]; decide
  · intro c hc
    by_cases hi : inB x c
    · rcases hin c hi with h' | h'
      · exact .inl (by rw [told c h']; decide)
      · exact .inr h'.1
    · rw [tboth c hi] at hc; exact .inl hc
end
end Go.Proofs.YtojnickeblbgoaaGreatDoor

/-
  Layer 1 (disk), the document's disk: part C: a side behind a change, a change of the disk.
-/
namespace Go.Proofs.YtojnickeblbgoaaGreatDoor
open Go.Lift
set_option linter.unusedSimpArgs false
set_option linter.unusedVariables false
set_option maxHeartbeats 4000000

def sideF (s : Sd) (c : Rc) : Sd := if c.what = 1 then { s with data := s.data ++ c.data } else if c.what = 2 then { s with data := s.data.extract 0 c.n.toNat } else
  if c.what = 3 then { s with slots := havingL s.slots c.a c.n } else if c.what = 4 then { s with slots := withoutL s.slots c.a } else if c.what = 5 then { s with slots := havingL (withoutL s.slots c.a) c.b (findL s.slots c.a) } else s
structure Rc.fits (c : Rc) (s : Sd) : Prop where
  add : c.what = 1 → s.data.size + c.data.size ≤ 9223372036854775807
  cut : c.what = 2 → 0 ≤ c.n ∧ c.n ≤ s.data.size
  few : s.slots.length ≤ 8388608
section
variable {w w' : World} {b : Nat} {r r' : Rk} {v : RV} {tag : Nat → Nat}
theorem back2 {x : Nat} {l : List Value} (hx : bk w x = some l) (hl : l.length = 2) (p q : Value) : ldA 2 (Ptr x) (sto w x 0 [p, q]) = some (.agg #[p, q]) := by
  obtain ⟨a, b, rfl⟩ : ∃ a b, l = [a, b] := by
    match l, hl with
    | [a, b], _ => exact ⟨a, b, rfl⟩
  rw [ldA_bk (l := [p, q]) (by rw [bk_sto_eq, hx]; rfl) (by simp)]; rfl
theorem rdone_run {sv : Value} {s : Sd} (hs : Sl 2 w sv (s.slots.map slC)) (hb : ∀ k, inB sv k → k < w.heap.size) (c : Rc) (hf : c.fits s) :
    Run (F.granaryref1_done (.agg #[.string s.data, sv]) c.val) w fun x w' => ∃ sv', x = .agg #[.string (sideF s c).data, sv'] ∧ Sl 2 w' sv' ((sideF s c).slots.map slC) ∧ Fr (fun _ => False) w w' ∧ ∀ k, inB sv' k → inB sv k ∨ (w.heap.size ≤ k ∧ k < w'.heap.size) := by
  obtain ⟨Q, hQ⟩ : ∃ Q : Value → World → Prop, ∀ x w', Q x w' ↔ ∃ sv', x = .agg #[.string (sideF s c).data, sv'] ∧ Sl 2 w' sv' ((sideF s c).slots.map slC) ∧ Fr (fun _ => False) w w' ∧ ∀ k, inB sv' k → inB sv k ∨ (w.heap.size ≤ k ∧ k < w'.heap.size) := ⟨_, fun _ _ => Iff.rfl⟩
  refine Run.mono (Q := Q) ?_ fun x w' h => (hQ _ _).1 h
  unfold F.granaryref1_done
  rw [Run_bind]
  refine Run_new fun x w1 hx hxw f1 hxle => ?_
  have hx : bk w1 x = some [.string s.data, sv] := hx
  rw [Run_bind]
  refine Run_new fun y w2 hy _ f2 hyle => ?_
  have hy : bk w2 y = some c.cells := hy
  rw [Run_bind]
  refine Run_new fun z w3 hz hzw f3 hzle => ?_
  have hz : bk w3 z = some [.string e0, .slice none 0 0] := hz
  have s1 := f1.size
  have s2 := f2.size
  have s3 := f3.size
  have lx := bk_lt hx
  have ly := bk_lt hy
  have hx3 : bk w3 x = some [.string s.data, sv] := f3.bk_some (f2.bk_some hx id) id
  have hy3 : bk w3 y = some c.cells := f3.bk_some hy id
  have hxw3 : wr w3 x = true := by rw [f3.wr (by omega) id, f2.wr lx id]; exact hxw
  have f03 : Fr (fun _ => False) w w3 := (f1.trans f2 fun _ _ => id).trans f3 fun _ _ => id
  have hs3 := hs.fr0 f03
  have hsc := hs.isCell
  rw [Run_bind]
  obtain ⟨P, hP⟩ : ∃ P : Out → World → Prop, ∀ o w', P o w' ↔ o = Out.norm [] ∧ ∃ sv', bk w' x = some [.string (sideF s c).data, sv'] ∧ Sl 2 w' sv' ((sideF s c).slots.map slC) ∧ bk w' z = some [.string e0, .slice none 0 0] ∧ wr w' z = true ∧ Fr (fun _ => False) w w' ∧ (∀ k, inB sv' k → inB sv k ∨ (w.heap.size ≤ k ∧ k < w'.heap.size)) ∧ ∀ k, inB sv' k → k ≠ z := ⟨fun _ _ => _, fun _ _ => Iff.rfl⟩
  refine Run.mono (Q := P) ?_ ?_
  · have put : ∀ {w4 : World} (i : Nat) (u d' sv' : Value), Fr (fun _ => False) w3 w4 → [Value.string s.data, sv].set i u = [d', sv'] → d' = .string (sideF s c).data → Sl 2 w4 sv' ((sideF s c).slots.map slC) → (∀ k, inB sv' k → inB sv k ∨ (w.heap.size ≤ k ∧ k < w4.heap.size)) → (∀ k, inB sv' k → k ≠ x ∧ k ≠ z) → P (Out.norm []) (sto w4 x i [u]) := fun {w4} i u d' sv' f4 he hd hsl hin hne => by
      have s4 := f4.size
      have hx4 : bk w4 x = some [.string s.data, sv] := f4.bk_some hx3 id
      refine (hP _ _).2 ⟨rfl, sv', ?_, hsl.fr ((Fr.refl (fun k => k = x) w4).sto (.inl rfl) _ _) (fun k hk => (hne k hk).1), ?_, ?_, (f03.trans f4 fun _ _ => id).sto (.inr hxle) _ _, fun k hk => by rw [size_sto]; exact hin k hk, fun k hk => (hne k hk).2⟩
      · rw [bk_sto_eq, hx4, ← hd, ← he]; rfl
      · rw [bk_sto_ne (by omega)]; exact f4.bk_some hz id
      · rw [wr_sto, f4.wr (bk_lt hz) id]; exact hzw
    have lz := bk_lt hz
    have svx : ∀ k, inB sv k → k ≠ x ∧ k ≠ z := fun k hk => by have := hb k hk; omega
    have xw : ∀ {w4}, Fr (fun _ => False) w3 w4 → bk w4 x = some [.string s.data, sv] ∧ wr w4 x = true ∧ bk w4 y = some c.cells := fun f4 => ⟨f4.bk_some hx3 id, by rw [f4.wr (by omega) id]; exact hxw3, f4.bk_some hy3 id⟩
    have stay : P (Out.norm []) w3 → Run (M.ret (Out.norm [])) w3 P := fun h => by simpa using h
    by_cases c1 : c.what = 1
    · have hsz := hf.add c1
      have hadd : strBin .add s.data c.data = some (.string (s.data ++ c.data)) := by
        simp only [strBin]
        rw [if_neg]
        simp [IntKind.max, IntKind.bits, IntKind.signed]; omega
      simp [-ldA_ptr, hx3, hy3, hxw3, Rc.cells, c1, hadd]
      exact put 0 _ _ sv (Fr.refl _ _) rfl (by simp [sideF, c1]) (by simpa [sideF, c1] using hs3) (fun k hk => .inl hk) svx
    by_cases c2 : c.what = 2
    · obtain ⟨n, hn⟩ : ∃ n : Nat, c.n = n := ⟨c.n.toNat, by have := (hf.cut c2).1; omega⟩
      have hnl : n ≤ s.data.size := by have := (hf.cut c2).2; omega
      have hsl : sliceS (.string s.data) none (some (.int .i64 n)) = some (.string (s.data.extract 0 n)) := by
        simp [sliceS, highV, lowV, boundV, hnl]
      simp [-ldA_ptr, hx3, hy3, hxw3, Rc.cells, c1, c2, hn, hsl]
      exact put 0 _ _ sv (Fr.refl _ _) rfl (by simp [sideF, c1, c2, hn]) (by simpa [sideF, c1, c2] using hs3) (fun k hk => .inl hk) svx
    by_cases c3 : c.what = 3
    · simp [-ldA_ptr, hx3, hy3, hxw3, Rc.cells, c1, c2, c3]
      refine (rhaving_run hs3 c.a c.n hf.few).mono ?_
      rintro u w4 ho
      obtain ⟨e1, e2, e3⟩ := xw ho.fr
      have huc := ho.sl.1.isCell
      have s4 := ho.fr.size
      simp [-ldA_ptr, e1, e2, huc, cells_isCell huc]
      exact put 1 u _ u ho.fr rfl (by simp [sideF, c1, c2, c3]) (by simpa [sideF, c1, c2, c3] using ho.sl.1) (fun k hk => .inr (by have := ho.fresh k hk; omega)) (fun k hk => by have := ho.fresh k hk; omega)
    by_cases c4 : c.what = 4
    · simp [-ldA_ptr, hx3, hy3, hxw3, Rc.cells, c1, c2, c3, c4]
      refine (rwithout_run hs3 c.a (by have := hf.few; omega)).mono ?_
      rintro u w4 ho
      obtain ⟨e1, e2, e3⟩ := xw ho.fr
      have huc := ho.sl.1.isCell
      have s4 := ho.fr.size
      simp [-ldA_ptr, e1, e2, huc, cells_isCell huc]
      exact put 1 u _ u ho.fr rfl (by simp [sideF, c1, c2, c3, c4]) (by simpa [sideF, c1, c2, c3, c4] using ho.sl.1) (fun k hk => .inr (by have := ho.fresh k hk; omega)) (fun k hk => by have := ho.fresh k hk; omega)
    by_cases c5 : c.what = 5
    · simp [-ldA_ptr, hx3, hy3, hxw3, Rc.cells, c1, c2, c3, c4, c5]
      refine (rfind_run hs3 c.a (by have := hf.few; omega)).mono ?_
      rintro _ w4 ⟨rfl, hw4⟩
      rw [hw4]
      simp [-ldA_ptr, hx3, hy3, hxw3, Rc.cells]
      refine (rwithout_run hs3 c.a (by have := hf.few; omega)).mono ?_
      rintro u1 w4 ho1
      obtain ⟨e1, e2, e3⟩ := xw ho1.fr
      simp [-ldA_ptr, e3, Rc.cells]
      have hlw : (withoutL s.slots c.a).length ≤ s.slots.length := List.length_filter_le _ _
      refine (rhaving_run ho1.sl.1 c.b (findL s.slots c.a) (by have := hf.few; omega)).mono ?_
      rintro u w5 ho
      have f35 := ho1.fr.trans ho.fr fun _ _ => id
      obtain ⟨e1, e2, e3⟩ := xw f35
      have huc := ho.sl.1.isCell
      have s4 := ho1.fr.size
      have s5 := ho.fr.size
      simp [-ldA_ptr, e1, e2, huc, cells_isCell huc]
      exact put 1 u _ u f35 rfl (by simp [sideF, c1, c2, c3, c4, c5]) (by simpa [sideF, c1, c2, c3, c4, c5] using ho.sl.1) (fun k hk => .inr (by have := ho.fresh k hk; omega)) (fun k hk => by have := ho.fresh k hk; omega)
    · simp [-ldA_ptr, hx3, hy3, hxw3, Rc.cells, c1, c2, c3, c4, c5]
      exact (hP _ _).2 ⟨rfl, sv, by rw [hx3]; simp [sideF, c1, c2, c3, c4, c5], by simpa [sideF, c1, c2, c3, c4, c5] using hs3, hz, hzw, f03, fun k hk => .inl hk, fun k hk => (svx k hk).2⟩
  · rintro o w4 ho
    obtain ⟨rfl, sv', h1, h2, h3, h4, h5, h6, h7⟩ := (hP _ _).1 ho
    have hx4 : ldA 2 (Ptr x) w4 = some (.agg #[.string (sideF s c).data, sv']) := by rw [ldA_bk h1 (by simp)]; rfl
    have hc := h2.isCell
    have hb := back2 h3 rfl (.string (sideF s c).data) sv'
    simp [-ldA_ptr, hx4, h3, h4, hc, hb]
    refine ⟨fun i hi => ?_, (hQ _ _).2 ⟨sv', rfl, h2.fr ((Fr.refl (fun k => k = z) w4).sto (.inl rfl) _ _) (fun k hk => h7 k hk), h5.sto (.inr (by omega)) _ _, fun k hk => by rw [size_sto]; exact h6 k hk⟩⟩
    match i, hi with
    | 0, _ => rfl
    | 1, _ => exact hc
end
end Go.Proofs.YtojnickeblbgoaaGreatDoor

/-
  Layer 1 (disk), the document's disk: part D: a change of the disk.
-/
namespace Go.Proofs.YtojnickeblbgoaaGreatDoor
open Go.Lift
set_option linter.unusedSimpArgs false
set_option linter.unusedVariables false
set_option maxHeartbeats 4000000
section
variable {w w' : World} {b : Nat} {r r' : Rk} {v : RV} {tag : Nat → Nat}
structure ThAt (w : World) (tag : Nat → Nat) (v : RV) (i : Nat) (t : TV) (q o : Nat) (l : List Value) : Prop where
  at_ : idxA 5 v.tv (.int .i64 i) = some (.pointer (some ⟨q, o, none⟩))
  tg : tag q = 2
  bk : Go.Lift.bk w q = some l
  c0 : l[o]? = some (.int .i64 t.1.kind)
  c1 : l[o + 1]? = some (.string t.1.seen.data)
  c2 : l[o + 2]? = some t.2.1
  c3 : l[o + 3]? = some (.string t.1.kept.data)
  c4 : l[o + 4]? = some t.2.2
  len : o + 5 ≤ l.length
  cut : (l.drop o).take 5 = thC t
theorem RA.thing (h : RA w b r v tag) {i : Nat} {t : TV} (hi : v.ts[i]? = some t) : ∃ q o l, ThAt w tag v i t q o l := by
  have he : (v.ts.map thC)[i]? = some (thC t) := by simp [hi]
  obtain ⟨q, o, l, i1, i2, i3, i4, i5⟩ := h.things.1.rd (by decide) he .i64
  exact ⟨q, o, l, i1, h.tt q i5, i2, take_get0 i4 (by decide), take_get (j := 1) i4 (by decide), take_get (j := 2) i4 (by decide), take_get (j := 3) i4 (by decide), take_get (j := 4) i4 (by decide), i3, i4⟩
theorem ThAt.fr0 {i : Nat} {t : TV} {q o : Nat} {l : List Value} (h : ThAt w tag v i t q o l) (f : Fr (fun _ => False) w w') : ThAt w' tag v i t q o l := ⟨h.at_, h.tg, f.bk_some h.bk id, h.c0, h.c1, h.c2, h.c3, h.c4, h.len, h.cut⟩
theorem ThAt.seen {i : Nat} {t : TV} {q o : Nat} {l : List Value} (h : ThAt w tag v i t q o l) : ldA 2 (.pointer (some ⟨q, o + 1, none⟩)) w = some (.agg #[.string t.1.seen.data, t.2.1]) := by
  have hl := h.len
  rw [ldA_bk h.bk (by omega)]
  have : (l.drop (o + 1)).take 2 = (((l.drop o).take 5).drop 1).take 2 := by
    rw [List.drop_take, List.drop_drop, List.take_take]; simp
  rw [this, h.cut]; rfl
theorem ThAt.kept {i : Nat} {t : TV} {q o : Nat} {l : List Value} (h : ThAt w tag v i t q o l) : ldA 2 (.pointer (some ⟨q, o + 3, none⟩)) w = some (.agg #[.string t.1.kept.data, t.2.2]) := by
  have hl := h.len
  rw [ldA_bk h.bk (by omega)]
  have : (l.drop (o + 3)).take 2 = (((l.drop o).take 5).drop 3).take 2 := by
    rw [List.drop_take, List.drop_drop, List.take_take]; simp
  rw [this, h.cut]; rfl
theorem RA.setSide (h : RA w b r v tag) {i : Nat} {t : TV} (hi : v.ts[i]? = some t) {q o : Nat} {l : List Value} (hq : ThAt w tag v i t q o l) (s : Sd) (sv : Value) (hsl : Sl 2 w sv (s.slots.map slC)) (hin : ∀ c, inB sv c → tag c = 4 ∨ (tag c = 0 ∧ c < w.heap.size ∧ c ≠ 0)) :
    okAt w q (o + 1) 2 ∧ okAt w q (o + 3) 2 ∧ ∃ tag' : Nat → Nat, (∀ c, tag' c ≠ 0 → tag c ≠ 0 ∨ inB sv c) ∧
      RA (sto w q (o + 1) [.string s.data, sv]) b { r with things := r.things.set i { t.1 with seen := s } } { v with ts := v.ts.set i ({ t.1 with seen := s }, sv, t.2.2) } tag' ∧
      RA (sto w q (o + 3) [.string s.data, sv]) b { r with things := r.things.set i { t.1 with kept := s } } { v with ts := v.ts.set i ({ t.1 with kept := s }, t.2.1, sv) } tag' := by
  classical
  have he : (v.ts.map thC)[i]? = some (thC t) := by simp [hi]
  obtain ⟨q1, o1, j1, j2, j3, j4, j5⟩ := h.things.put he .i64
  rw [hq.at_] at j1
  cases j1
  have tgq := hq.tg
  obtain ⟨tag', tpos, tneg, tboth⟩ : ∃ tag' : Nat → Nat, (∀ c, inB sv c → tag' c = 4) ∧ (∀ c, tag c ≠ 0 → tag' c = tag c) ∧ (∀ c, ¬ inB sv c → tag' c = tag c) :=
    ⟨fun c => if inB sv c then 4 else tag c, fun c hc => if_pos hc, fun c h0 => by
      show (if inB sv c then 4 else tag c) = tag c
      by_cases hc : inB sv c
      · rw [if_pos hc]
        rcases hin c hc with h' | h'
        · exact h'.symm
        · exact absurd h'.1 h0
      · exact if_neg hc, fun c hc => if_neg hc⟩
  have key : ∀ (j : Nat) (t' : TV), j + 2 ≤ 5 → setL (thC t) j [.string s.data, sv] = thC t' → (∀ w1, Fr (fun c => c = q) w w1 → SlA w1 tag' t'.1.seen.slots t'.2.1 ∧ SlA w1 tag' t'.1.kept.slots t'.2.2) →
      okAt w q (o + j) 2 ∧ RA (sto w q (o + j) [.string s.data, sv]) b { r with things := r.things.set i t'.1 } { v with ts := v.ts.set i t' } tag' := by
    intro j t' hj hset hss
    obtain ⟨p1, p2⟩ := j5 j [.string s.data, sv] (by simpa using hj)
    have f : Fr (fun c => c = q) w (sto w q (o + j) [.string s.data, sv]) := (Fr.refl (fun c => c = q) w).sto (.inl rfl) _ _
    have nb : ∀ c, tag c ≠ 2 → ¬ c = q := fun c hc he => hc (by rw [he]; exact tgq)
    refine ⟨p1, f.bk_some h.blk (nb b (by rw [h.tb]; decide)), by rw [wr_sto]; exact h.wr, ?_, ?_, ?_, h.line.fr f fun c hc => nb c (by rw [h.tl c hc]; decide), by rw [tneg b (by rw [h.tb]; decide)]; exact h.tb, fun c hc => by rw [tneg c (by rw [h.tt c hc]; decide)]; exact h.tt c hc, fun c hc => by rw [tneg c (by rw [h.tl c hc]; decide)]; exact h.tl c hc, ?_, fun c hc => ?_⟩
    · rw [← h.tE, List.map_set]
    · rw [hset] at p2
      show SlW 5 _ v.tv ((v.ts.set i t').map thC)
      rw [List.map_set]
      exact p2
    · intro u hu
      rcases List.mem_or_eq_of_mem_set hu with hu | rfl
      · obtain ⟨u1, u2⟩ := h.slots u hu
        exact ⟨⟨u1.1.fr f fun c hc => nb c (by rw [u1.2 c hc]; decide), fun c hc => by rw [tneg c (by rw [u1.2 c hc]; decide)]; exact u1.2 c hc⟩, ⟨u2.1.fr f fun c hc => nb c (by rw [u2.2 c hc]; decide), fun c hc => by rw [tneg c (by rw [u2.2 c hc]; decide)]; exact u2.2 c hc⟩⟩
      · exact hss _ f
    · rw [tboth 0 fun h0 => ?_]
      · exact h.t0
      · rcases hin 0 h0 with h' | h'
        · rw [h.t0] at h'; cases h'
        · exact h'.2.2 rfl
    · rw [size_sto]
      by_cases hc' : inB sv c
      · rcases hin c hc' with h' | h'
        · exact h.bound c (by rw [h']; decide)
        · exact h'.2.1
      · rw [tboth c hc'] at hc; exact h.bound c hc
  have nsv : ∀ c, inB sv c → ¬ c = q := fun c hc he => by
    rcases hin c hc with h' | h'
    · rw [he, tgq] at h'; cases h'
    · rw [he, tgq] at h'; cases h'.1
  have newS : ∀ w1, Fr (fun c => c = q) w w1 → SlA w1 tag' s.slots sv := fun w1 f => ⟨hsl.fr f nsv, tpos⟩
  have oldS : ∀ {l : RSl} {u : Value} w1, Fr (fun c => c = q) w w1 → SlA w tag l u → SlA w1 tag' l u := fun w1 f hu => ⟨hu.1.fr f fun c hc he => (by have := hu.2 c hc; rw [he, tgq] at this; cases this), fun c hc => by rw [tneg c (by rw [hu.2 c hc]; decide)]; exact hu.2 c hc⟩
  have hst := h.slots t (List.mem_of_getElem? hi)
  obtain ⟨a1, a2⟩ := key 1 ({ t.1 with seen := s }, sv, t.2.2) (by decide) rfl fun w1 f => ⟨newS w1 f, oldS w1 f hst.2⟩
  obtain ⟨b1, b2⟩ := key 3 ({ t.1 with kept := s }, t.2.1, sv) (by decide) rfl fun w1 f => ⟨oldS w1 f hst.1, newS w1 f⟩
  refine ⟨a1, b1, tag', fun c hc => ?_, a2, b2⟩
  by_cases hc' : inB sv c
  · exact .inr hc'
  · rw [tboth c hc'] at hc; exact .inl hc
def rchF (r : Rk) (c : Rc) (i : Nat) (t : Th) : Int × Rk := if r.actF.1 ≠ 0 then r.actF else (0, { r.actF.2 with things := r.things.set i { t with seen := sideF t.seen c }, line := r.line ++ [c] })
theorem ract_same (r : Rk) : r.actF.2.things = r.things ∧ r.actF.2.line = r.line := by
  unfold Rk.actF
  split <;> exact ⟨rfl, rfl⟩
theorem rchange_run (h : RA w b r v tag) (c : Rc) {i : Nat} {t : TV} (hi : v.ts[i]? = some t) (hn : c.thing = i) (hf : c.fits t.1.seen) (hp : r.line.length ≤ 16777216) :
    Run (F.granaryref1_Disk_change (Ptr b) c.val) w fun x w' => x = .int .i64 (rchF r c i t.1).1 ∧ RDid w w' b tag (rchF r c i t.1).2 := by
  unfold F.granaryref1_Disk_change
  simp only [Run_bind]
  refine Run_new fun x w1 hx _ f1 hxle => ?_
  have hx1 : bk w1 x = some c.cells := hx
  have h1 := h.fr0 f1
  refine (ract_run h1).mono ?_
  rintro _ w2 ⟨rfl, h2, f2⟩
  obtain ⟨at_, al⟩ := ract_same r
  have tb := h.tb
  have hxb : x ≠ b := fun he => by
    have := h.bound b (by rw [tb]; decide)
    omega
  have f12 : Fr (fun c => tag c ≠ 0) w w2 := (f1.mono fun _ h => h.elim).trans f2 fun c _ hc => by rw [hc, tb]; decide
  have hx2 : bk w2 x = some c.cells := f2.bk_some hx1 hxb
  unfold rchF
  by_cases ha : r.actF.1 = 0
  · obtain ⟨q, o, l, ht⟩ := h2.thing hi
    have hb2 := h2.blk
    have e6 : ∀ w3, bk w3 x = some c.cells → ldA 6 (Ptr x) w3 = some c.val := fun w3 h => by rw [ldA_bk h (by simp [Rc.cells])]; rfl
    have hsn := ht.seen
    simp [-ldA_ptr, ha, hb2, Rk.cells, hx2, Rc.cells, hn, ht.at_, e6 w2 hx2, hsn]
    have fd : Fr (fun _ => False) w2 w2.drew := (Fr.refl (fun _ => False) w2).drew
    have h2d := h2.fr0 fd
    have hst := h2d.slots t (List.mem_of_getElem? hi)
    refine (rdone_run hst.1.1 (fun k hk => h2d.bound k (by rw [hst.1.2 k hk]; decide)) c hf).mono ?_
    rintro _ w3 ⟨sv', rfl, hsl', f3, hin'⟩
    have h3 := h2d.fr0 f3
    have s1 := f1.size
    have s2 := f2.size
    have s3 := f3.size
    have sd : w2.drew.heap.size = w2.heap.size := rfl
    have hpos : 0 < w.heap.size := by have := bk_lt h.blk; omega
    obtain ⟨k1, _, tag3, tg3, h4, _⟩ := h3.setSide hi ((ht.fr0 fd).fr0 f3) (sideF t.1.seen c) sv' hsl' (fun k hk => by
      rcases hin' k hk with hk | hk
      · exact .inl (hst.1.2 k hk)
      · refine .inr ⟨Classical.byContradiction fun hn => ?_, hk.2, by omega⟩
        have := h.bound k hn; omega)
    have hc := hsl'.isCell
    have hb3 := h3.blk
    have hx3 : bk w3 x = some c.cells := f3.bk_some (w := w2.drew) hx2 id
    have tgq := ht.tg
    have hq0 := h.bound q (by rw [tgq]; decide)
    have hx4 : bk (sto w3 q (o + 1) [.string (sideF t.1.seen c).data, sv']) x = some c.cells := by rw [bk_sto_ne (by omega)]; exact hx3
    rw [show (Value.agg #[Value.string (sideF t.1.seen c).data, sv']).cells = #[Value.string (sideF t.1.seen c).data, sv'] from rfl, show (#[Value.string (sideF t.1.seen c).data, sv'] : Array Value).toList = [Value.string (sideF t.1.seen c).data, sv'] from rfl]
    have f34 : Fr (fun c => c = q) w3 (sto w3 q (o + 1) [.string (sideF t.1.seen c).data, sv']) := (Fr.refl (fun c => c = q) w3).sto (.inl rfl) _ _
    refine ⟨rfl, fun i hi => ?_, k1.1, k1.2, by rw [hb3]; rfl, by rw [hx3]; simp [Rc.cells, hn], ?_⟩
    · match i, hi with
      | 0, _ => rfl
      | 1, _ => exact hc
    have z4 : (sto w3 q (o + 1) [.string (sideF t.1.seen c).data, sv']).heap.size = w3.heap.size := size_sto _ _ _ _
    generalize sto w3 q (o + 1) [.string (sideF t.1.seen c).data, sv'] = w4 at *
    have hb4 := h4.blk
    have f04 : Fr (fun c => tag c ≠ 0) w w4 := ((f12.trans fd fun _ _ h => h.elim).trans f3 fun _ _ h => h.elim).trans f34 fun c _ hc => by rw [hc, tgq]; decide
    have fd4 : Fr (fun _ => False) w4 w4.drew := (Fr.refl (fun _ => False) w4).drew
    simp [-ldA_ptr, hb4, Rk.cells, e6 w4 hx4]
    refine Run_app1 (k := 6) (w := w4.drew) (by simp [Rc.val, Rc.cells]) (h4.fr0 fd4).line (by decide) rfl (by decide) (by simpa [Rc.val] using c.all) (by simp only [List.length_map, al]; omega) fun u w5 hr f5 hin w6 f6 => ?_
    have z5 : w4.drew.heap.size = w4.heap.size := rfl
    have s5 := f5.size
    have tb4 := h4.tb
    have npv : ∀ c, inB v.lv c → tag3 c = 3 := h4.tl
    have h5 : bk w5 b = some _ := f5.bk_some (w := w4.drew) hb4 fun hi => by have := npv b hi; rw [tb4] at this; cases this
    have hw5 : wr w5 b = true := by
      rw [f5.wr (w := w4.drew) (bk_lt (w := w4.drew) hb4) fun hi => by have := npv b hi; rw [tb4] at this; cases this]
      exact h4.wr
    have h6 : bk w6 b = some _ := f6.bk_some (w := w4.drew) hb4 id
    have hrc := hr.1.isCell
    have hr' : SlW 6 w5 u ((r.line ++ [c]).map Rc.cells) := by
      simp only [al] at hr
      simpa [Rc.val] using hr
    obtain ⟨g1, g2, tag', g3, g4, g5⟩ := (h4.fr0 fd4).newLine f5 hr' hin
    rw [cells_isCell hrc]
    refine ⟨rfl, by simp [hrc], ⟨_, h5, by simp [Rk.cells]⟩, hw5, by rw [h6]; rfl, ?_⟩
    have old : ∀ k, tag3 k ≠ 0 → tag k ≠ 0 ∨ w.heap.size ≤ k := fun k hk => (tg3 k hk).elim .inl fun h' => (hin' k h').elim (fun h' => .inl (by rw [hst.1.2 k h']; decide)) fun h' => .inr (by omega)
    refine ⟨(f04.trans fd4 fun _ _ h => h.elim).trans g4 fun k hk h => (old k h).elim id fun h' => by omega, _, tag', by simp only [at_] at g3; exact g3, fun k hk => (g5 k hk).elim (old k) fun h => .inr (by have := f04.size; omega)⟩
  · simp [ha]
    exact ⟨f12, v, tag, h2, fun c hc => .inl hc⟩
end
end Go.Proofs.YtojnickeblbgoaaGreatDoor

/-
  Layer 1 (disk), the document's disk: part E: the names of a path.
-/
namespace Go.Proofs.YtojnickeblbgoaaGreatDoor
open Go.Lift
set_option linter.unusedSimpArgs false
set_option linter.unusedVariables false
set_option maxHeartbeats 4000000

theorem idxS_at {s : ByteArray} {i : Nat} {c : UInt8} (h : s.data.toList[i]? = some c) : idxS (.string s) (.int .i64 i) = some (.int .u8 c.toNat) := by
  have hlt : i < s.size := (List.getElem?_eq_some_iff.1 h).1
  have e : s[i]? = some c := by
    rw [getElem?_pos s i hlt]
    obtain ⟨h1, h2⟩ := List.getElem?_eq_some_iff.1 h
    rw [← h2]; rfl
  simp [idxS, e]
theorem rnamed_run {w : World} (s : ByteArray) : Run (F.granaryref1_named (.string s)) w fun r w' => r = .bool (nameF s) ∧ w' = w := by
  unfold F.granaryref1_named
  have e2 : ByteArray.mk #[46] = dotS := rfl
  have e3 : ByteArray.mk #[46, 46] = dotsS := rfl
  rw [e2, e3]
  by_cases h1 : s = E0
  · have : nameF s = false := by simp [nameF, h1]
    have hz : (s.size : Int) < 1 := by rw [h1]; decide
    simp [hz, this]
  have hsz : 0 < s.size := by
    rcases Nat.eq_zero_or_pos s.size with h | h
    · refine absurd (ba_ext ?_) h1
      have : s.data.toList.length = 0 := h
      rw [List.length_eq_zero_iff.1 this]; rfl
    · exact h
  have hz : ¬ (s.size : Int) < 1 := by omega
  by_cases h2 : (40 : Int) < s.size
  · have : nameF s = false := by
      have : ¬ s.size ≤ 40 := by omega
      simp [nameF, this]
    simp [hz, h2, ba_eq, this]
  by_cases h3 : s = dotS
  · have : nameF s = false := by simp [nameF, h3]
    subst h3
    simp [hz, h2, ba_eq, this]
  by_cases h4 : s = dotsS
  · have : nameF s = false := by simp [nameF, h4]
    subst h4
    simp [hz, h2, h3, ba_eq, this]
  simp [hz, h2, h3, h4, ba_eq]
  have h40 : s.size ≤ 40 := by omega
  refine Run_for s.size (fun i l w'' => l = [.int .i64 i] ∧ w'' = w ∧ ∀ j (c : UInt8), j < i → s.data[j]? = some c → okB c.toNat = true) ⟨rfl, rfl, fun j c hj => absurd hj (Nat.not_lt_zero _)⟩ ?_ ?_
  · rintro i l w'' hi ⟨rfl, hw'', ih⟩
    rw [hw'']
    have hc : s.data[i]? = some (s.data[i]'hi) := Array.getElem?_eq_getElem hi
    generalize s.data[i]'hi = c at hc
    have e1 := idxS_at (s := s) (i := i) (c := c) (by simpa using hc)
    have hw := wrap_succ (n := i) (by omega)
    have hi' : (i : Int) < s.size := by omega
    simp [hi, hi', e1, hw]
    have step : okB c.toNat = true → ∀ (j : Nat) (c : UInt8), j < i + 1 → s.data[j]? = some c → okB c.toNat = true := by
      intro h j c' hj hc'
      by_cases hji : j < i
      · exact ih j c' hji hc'
      · obtain rfl : j = i := by omega
        rw [hc] at hc'; cases hc'
        exact h
    have bad : okB c.toNat = false → nameF s = false := fun h => by
      have : s.data.toList.all (fun c => okB c.toNat) = false := by
        rw [List.all_eq_false]
        exact ⟨c, by simpa using Array.mem_of_getElem? hc, by simp [h]⟩
      simp only [nameF, this, Bool.and_false]
    repeat' ((first | refine Run_guard (fun h => ?_) (fun h => ?_) | refine Run_cond (fun h => ?_) (fun h => ?_)) <;> have h' := h <;> simp only [decide_eq_true_eq, decide_eq_false_iff_not, beq_iff_eq, beq_eq_false_iff_ne, ne_eq, Bool.not_eq_true', Bool.not_eq_false'] at h' <;> simp [*])
    all_goals try first
      | exact bad (by simp [okB]; omega)
      | exact step (by simp [okB]; omega)
      | (exfalso; omega)
  · rintro l w'' ⟨rfl, hw'', ih⟩
    rw [hw'']
    have hall : s.data.toList.all (fun c => okB c.toNat) = true := by
      rw [List.all_eq_true]
      intro c hc
      obtain ⟨j, hj⟩ := Array.getElem?_of_mem (show c ∈ s.data by simpa using hc)
      exact ih j c (Array.getElem?_eq_some_iff.1 hj).1 hj
    have : nameF s = true := by simp only [nameF, hall]; simp [h1, h3, h4, h40]
    simp [this]

def pcs : List UInt8 → List (List UInt8)
  | [] => [[]]
  | c :: r => if c = 47 then [] :: pcs r else match pcs r with
    | p :: ps => (c :: p) :: ps
    | [] => [[c]]
theorem pcs_ne : ∀ r, pcs r ≠ []
  | [] => by simp [pcs]
  | c :: r => by
    unfold pcs
    split
    · simp
    · split <;> simp
theorem pcs_jl : ∀ r, jl (pcs r) = r ∧ ∀ x ∈ pcs r, (47 : UInt8) ∉ x
  | [] => by simp [pcs, jl]
  | c :: r => by
    obtain ⟨h1, h2⟩ := pcs_jl r
    have hne := pcs_ne r
    unfold pcs
    by_cases hc : c = 47
    · rw [if_pos hc, jl_cons hne, h1]
      refine ⟨by simp [hc], fun x hx => ?_⟩
      rcases List.mem_cons.1 hx with rfl | hx
      · simp
      · exact h2 x hx
    · rw [if_neg hc]
      cases hp : pcs r with
      | nil => exact absurd hp hne
      | cons p ps =>
        rw [hp] at h1 h2
        simp only
        refine ⟨?_, fun x hx => ?_⟩
        · cases ps with
          | nil => simp [jl] at h1 ⊢; rw [h1]
          | cons q t =>
            rw [jl_cons (by simp)] at h1 ⊢
            rw [← h1]; simp
        · rcases List.mem_cons.1 hx with rfl | hx
          · have := h2 p (by simp)
            simp only [List.mem_cons, not_or]
            exact ⟨fun h => hc h.symm, this⟩
          · exact h2 x (List.mem_cons_of_mem _ hx)
def pcsB (s : ByteArray) : List ByteArray := (pcs s.data.toList).map fun l => ⟨l.toArray⟩
theorem pcsB_map (s : ByteArray) : (pcsB s).map (·.data.toList) = pcs s.data.toList := by
  unfold pcsB
  rw [List.map_map]
  have : ((fun x : ByteArray => x.data.toList) ∘ fun l : List UInt8 => (⟨l.toArray⟩ : ByteArray)) = id := by funext l; rfl
  rw [this, List.map_id]
theorem parse_pcs {s : ByteArray} (h0 : s ≠ E0) : parseF s = if (pcsB s).length ≤ 8 ∧ (pcsB s).all nameF = true then some (pcsB s) else none := by
  obtain ⟨hj, hno⟩ := pcs_jl s.data.toList
  have hne := pcs_ne s.data.toList
  have hc := jl_count _ hne hno
  rw [hj] at hc
  have hl : (pcsB s).length = (pcs s.data.toList).length := by unfold pcsB; rw [List.length_map]
  have hparts : partsF s = pcsB s := by
    apply map_inj
    rw [pcsB_map]
    unfold partsF
    rw [Lib.splitB_data]
    have hcb : Lib.countB s slash = s.data.toList.count 47 := by
      show Lib.count s.data.toList [47] = _
      rw [Lib.count_one]
    rw [hcb]
    conv => lhs; rw [← hj]
    rw [hj]
    have := split_join (s.data.toList.count 47) _ hne hno (by omega)
    rw [hj] at this
    exact this
  unfold parseF
  rw [if_neg h0, hparts]
  have hcc : Lib.countByte s.data.toList 47 = s.data.toList.count 47 := rfl
  rw [hcc]
  by_cases h8 : 8 ≤ s.data.toList.count 47
  · rw [if_pos h8, if_neg (by omega)]
  · rw [if_neg h8]
    by_cases hall : (pcsB s).all nameF = true
    · rw [if_pos hall, if_pos ⟨by omega, hall⟩]
    · rw [if_neg hall, if_neg (fun h => hall h.2)]
end Go.Proofs.YtojnickeblbgoaaGreatDoor

/-
  Layer 1 (disk), the document's disk: part F: the names of a path, the walk.
-/
namespace Go.Proofs.YtojnickeblbgoaaGreatDoor
open Go.Lift
set_option linter.unusedSimpArgs false
set_option linter.unusedVariables false
set_option maxHeartbeats 4000000

/-- A list of strings of one's own. -/
structure OwnS (w w' : World) (v : Value) (l : List ByteArray) : Prop where
  sl : SlW 1 w' v (l.map fun x => [.string x])
  fresh : ∀ c, inB v c → w.heap.size ≤ c ∧ c < w'.heap.size
  fr : Fr (fun _ => False) w w'
theorem OwnS.nil (w : World) : OwnS w w (.slice none 0 0) [] := ⟨SlW.nil _ _, fun _ h => h.elim, Fr.refl _ _⟩
theorem ownS_app {w w1 : World} {v : Value} {l : List ByteArray} (h : OwnS w w1 v l) (y : ByteArray) {a1 a2 : Nat} (hl : l.length ≤ 4294967296) {K : Value → World → Prop} (q : ∀ r w2, OwnS w w2 r (l ++ [y]) → K r w2) :
    Run (bslM a1 1 (Builtin.zeroCells #[(Value.string ByteArray.empty)] 1) [(0, 1, .string y)]) w1 fun a w2 => Run (appM a2 1 16 #[(Value.string ByteArray.empty)] v a) w2 fun r w' => K r w' := by
  refine Run_app1 (K := fun _ r w' => K r w') (k := 1) (y := .string y) (by simp) h.sl (by decide) rfl (by decide) (by simp) (by simp only [List.length_map]; omega) fun r w2 hr f2 hin w3 f3 => q r w2 ?_
  have s := f2.size
  refine ⟨by simpa using hr, fun c hc => ?_, h.fr.new f2 fun c hc => (h.fresh c hc).1⟩
  have s0 := h.fr.size
  rcases hin c hc with hc | hc
  · have := h.fresh c hc; omega
  · omega
theorem pcs_at {l : List UInt8} {i : Nat} {c : UInt8} (h : l[i]? = some c) : pcs (l.drop i) = if c = 47 then [] :: pcs (l.drop (i + 1)) else match pcs (l.drop (i + 1)) with
    | p :: ps => (c :: p) :: ps
    | [] => [[c]] := by
  obtain ⟨h1, h2⟩ := List.getElem?_eq_some_iff.1 h
  rw [List.drop_eq_getElem_cons h1, h2]
  rfl
/-- How far the names of a path are found: P, and cur of the next one. -/
structure Cut1 (s : ByteArray) (i : Nat) (P : List ByteArray) (cur : List UInt8) : Prop where
  le : cur.length ≤ i
  hi : i ≤ s.size
  cut : (s.data.toList.drop (i - cur.length)).take cur.length = cur
  eq : ∃ p ps, pcs (s.data.toList.drop i) = p :: ps ∧ pcs s.data.toList = P.map (·.data.toList) ++ (cur ++ p) :: ps
theorem Cut1.piece {s : ByteArray} {i : Nat} {P : List ByteArray} {cur : List UInt8} (h : Cut1 s i P cur) (he : i = s.size ∨ s.data.toList[i]? = some 47) :
    (s.extract (i - cur.length) i).data.toList = cur ∧ ∃ ps, pcs s.data.toList = P.map (·.data.toList) ++ cur :: ps := by
  refine ⟨?_, ?_⟩
  · have := h.cut
    have hle := h.le
    have e : (s.extract (i - cur.length) i).data.toList = (s.data.toList.drop (i - cur.length)).take cur.length := by
      rw [ByteArray.data_extract, Array.toList_extract]
      simp only [List.extract_eq_take_drop]
      congr 1; omega
    rw [e]; exact this
  · obtain ⟨p, ps, e1, e2⟩ := h.eq
    rcases he with he | he
    · rw [he, List.drop_of_length_le (show s.data.toList.length ≤ s.size from Nat.le_refl _)] at e1
      simp only [pcs, List.cons.injEq] at e1
      rw [← e1.1, List.append_nil] at e2
      exact ⟨ps, e2⟩
    · rw [pcs_at he, if_pos rfl] at e1
      simp only [List.cons.injEq] at e1
      rw [← e1.1, List.append_nil] at e2
      exact ⟨ps, e2⟩
theorem piece_bad {s y : ByteArray} {P : List ByteArray} {cur : List UInt8} {ps : List (List UInt8)} (h0 : s ≠ E0) (hy : y.data.toList = cur) (he : pcs s.data.toList = P.map (·.data.toList) ++ cur :: ps) (hbad : nameF y = false ∨ P.length = 8) : parseF s = none := by
  rw [parse_pcs h0, if_neg]
  rintro ⟨h1, h2⟩
  have hb : pcsB s = P ++ y :: ps.map fun l => ⟨l.toArray⟩ := by
    apply map_inj
    rw [pcsB_map, he, List.map_append, List.map_cons, hy, List.map_map]
    congr 2
    have : ((fun x : ByteArray => x.data.toList) ∘ fun l : List UInt8 => (⟨l.toArray⟩ : ByteArray)) = id := by funext l; rfl
    rw [this, List.map_id]
  rw [hb] at h1 h2
  rcases hbad with hbad | hbad
  · simp [hbad] at h2
  · simp at h1; omega
theorem rNames_run {w : World} (s : ByteArray) (hs : s.size < 4294967281) :
    Run (F.granaryref1_Names (.string s)) w fun r w' => ∃ nv, r = .tuple #[nv, .bool (parseF s).isSome] ∧ Fr (fun _ => False) w w' ∧ ∀ names, parseF s = some names → Sl 1 w' nv (names.map fun x => [.string x]) := by
  unfold F.granaryref1_Names
  rw [show ByteArray.mk #[] = E0 from rfl]
  by_cases h0 : s = E0
  · have hp : parseF s = some [] := by simp [parseF, h0]
    subst h0
    simp [ba_eq, hp]
    exact ⟨Fr.refl _ _, by simpa using Sl.nil 1 w⟩
  simp [h0, ba_eq]
  obtain ⟨I, hI⟩ : ∃ I : Nat → Value → Int → World → Prop, ∀ i m fr w', I i m fr w' ↔ ∃ P : List ByteArray, OwnS w w' m P ∧ P.all nameF = true ∧ P.length ≤ 8 ∧ ((∃ cur, fr = ((i - cur.length : Nat) : Int) ∧ Cut1 s i P cur) ∨ (i = s.size + 1 ∧ pcs s.data.toList = P.map (·.data.toList))) := ⟨fun _ _ _ _ => _, fun _ _ _ _ => Iff.rfl⟩
  refine Run_for (s.size + 1) (fun i L w' => ∃ m fr, L = [m, .int .i64 fr, .int .i64 i] ∧ I i m fr w') ⟨_, _, rfl, (hI _ _ _ _).2 ⟨[], OwnS.nil w, rfl, by decide, .inl ⟨[], rfl, ⟨Nat.le_refl _, Nat.zero_le _, by simp, ?_⟩⟩⟩⟩ ?_ ?_
  · cases hp : pcs s.data.toList with
    | nil => exact absurd hp (pcs_ne _)
    | cons p ps => exact ⟨p, ps, by rw [List.drop_zero]; exact hp, rfl⟩
  · rintro i L w1 hi ⟨m, fr, rfl, hinv⟩
    obtain ⟨P, hO, hall, h8, hcase⟩ := (hI _ _ _ _).1 hinv
    obtain ⟨cur, rfl, hc⟩ := hcase.resolve_right fun h => by omega
    have hle := hc.le
    have hil := hc.hi
    have hlen := hO.sl.1.lenL
    rw [List.length_map] at hlen
    have wi := wrap_succ (n := i) (by omega)
    have hle' : (i : Int) ≤ s.size := by omega
    have hsl : sliceS (.string s) (some (.int .i64 ((i - cur.length : Nat) : Int))) (some (.int .i64 i)) = some (.string (s.extract (i - cur.length) i)) := by
      simp [sliceS, highV, lowV, boundV, hil]
    -- a piece is whole
    have piece : (i = s.size ∨ s.data.toList[i]? = some 47) → Run (condM (.bool true) (
            bindO (sliceS (.string s) (some (.int .i64 ((i - cur.length : Nat) : Int))) (some (.int .i64 i))) fun x12 =>
            M.bind (F.granaryref1_named x12) fun x13 =>
            bindO (notV x13) fun x14 =>
            M.bind (guardM x14 false (M.ret m)) fun x15 =>
            M.bind (guardM x14 false (optM (lenL x15))) fun x16 =>
            M.bind (guardM x14 false (optM (binV BinOp.eql x16 (Value.int IntKind.i64 8)))) fun x17 =>
            bindO (pickV x14 (Value.bool true) x17) fun x18 =>
            condM x18 (
              M.ret (Out.ret (Value.tuple #[m, (Value.bool false)]))) (
              bindO (sliceS (.string s) (some (.int .i64 ((i - cur.length : Nat) : Int))) (some (.int .i64 i))) fun x19 =>
              M.bind (bslM 9 1 (Builtin.zeroCells #[(Value.string ByteArray.empty)] 1) [(0, 1, x19)]) fun x20 =>
              M.bind (appM 9 1 16 #[(Value.string ByteArray.empty)] m x20) fun x21 =>
              bindO (binV BinOp.add (.int .i64 i) (Value.int IntKind.i64 1)) fun x22 =>
              M.ret (Out.norm [x21, x22]))) (M.ret (Out.norm [m, .int .i64 ((i - cur.length : Nat) : Int)]))) w1 fun o w' =>
        (∃ r, o = .ret (.tuple #[r, .bool false]) ∧ parseF s = none ∧ Fr (fun _ => False) w w') ∨ (∃ r, o = .norm [r, .int .i64 ((i + 1 : Nat) : Int)] ∧ I (i + 1) r ((i + 1 : Nat) : Int) w') := by
      intro he
      obtain ⟨e1, ps, e2⟩ := hc.piece he
      generalize s.extract (i - cur.length) i = y at e1 hsl
      simp [hsl]
      refine (rnamed_run y).mono ?_
      rintro _ _ ⟨rfl, hw⟩
      rw [hw]
      cases hn : nameF y with
      | false =>
        simp [hn]
        exact ⟨piece_bad h0 e1 e2 (.inl hn), hO.fr⟩
      | true =>
        by_cases h8' : P.length = 8
        · simp [hn, hlen, h8']
          exact ⟨piece_bad h0 e1 e2 (.inr h8'), hO.fr⟩
        · have h8i : ¬ (P.length : Int) = 8 := by omega
          simp [hn, hlen, h8i]
          refine ownS_app hO y (by omega) fun r w2 hO2 => ?_
          simp [wi]
          refine (hI _ _ _ _).2 ⟨P ++ [y], hO2, by simp [hall, hn], by simp; omega, ?_⟩
          rcases he with he | he
          · right
            refine ⟨by omega, ?_⟩
            obtain ⟨p, ps', q1, q2⟩ := hc.eq
            rw [he, List.drop_of_length_le (show s.data.toList.length ≤ s.size from Nat.le_refl _)] at q1
            simp only [pcs, List.cons.injEq] at q1
            rw [q2, ← q1.1, ← q1.2, List.map_append, List.map_singleton, e1, List.append_nil]
          · left
            refine ⟨[], by simp, ⟨by simp, ?_, by simp, ?_⟩⟩
            · have := (List.getElem?_eq_some_iff.1 he).1
              exact this
            · obtain ⟨p, ps', q1, q2⟩ := hc.eq
              rw [pcs_at he, if_pos rfl] at q1
              simp only [List.cons.injEq] at q1
              cases hp : pcs (s.data.toList.drop (i + 1)) with
              | nil => exact absurd hp (pcs_ne _)
              | cons a1 as1 =>
                refine ⟨a1, as1, rfl, ?_⟩
                rw [q2, ← q1.1, ← q1.2, hp, List.map_append, List.map_singleton, e1, List.append_nil]
                simp
    obtain ⟨Mid, hMid⟩ : ∃ Mid : Out → World → Prop, ∀ o w', Mid o w' ↔ (∃ r, o = .ret (.tuple #[r, .bool false]) ∧ parseF s = none ∧ Fr (fun _ => False) w w') ∨ (∃ r f', o = .norm [r, .int .i64 f'] ∧ I (i + 1) r f' w') := ⟨fun _ _ => _, fun _ _ => Iff.rfl⟩
    have piece' := fun he => (piece he).mono fun o w' h => (hMid o w').2 (h.imp id fun ⟨r, h1, h2⟩ => ⟨r, _, h1, h2⟩)
    clear piece
    simp only [getL_zero, getL_succ, lenS, Run_bindO_some, binV_int, intBin_leq, hle', decide_true, Run_condM_true]
    rw [Run_bind]
    refine Run.mono (Q := Mid) ?_ ?_
    · by_cases hie : i = s.size
      · have hp := piece' (.inl hie)
        have hd : decide ((i : Int) = s.size) = true := by simp [hie]
        simp only [binV_int, intBin_eql, hd, Run_bindO_some] 
        simpa using hp
      · have hlt : i < s.size := by omega
        have hc1 : s.data.toList[i]? = some (s.data.toList[i]'hlt) := List.getElem?_eq_getElem hlt
        generalize s.data.toList[i]'hlt = c at hc1
        have e1 := idxS_at hc1
        have hne : ¬ (i : Int) = s.size := by omega
        by_cases h47 : c = 47
        · subst h47
          have hp := piece' (.inr hc1)
          have e1' : idxS (.string s) (.int .i64 i) = some (.int .u8 47) := e1
          simp [hne, e1']
          simpa using hp
        · have hn47 : ¬ (c.toNat : Int) = 47 := fun h => h47 (UInt8.toNat_inj.1 (by rw [show c.toNat = 47 by omega]; rfl))
          simp [hne, e1, hn47]
          refine (hMid _ _).2 (.inr ⟨m, _, rfl, (hI _ _ _ _).2 ⟨P, hO, hall, h8, .inl ⟨cur ++ [c], by simp, ⟨by simp; omega, by omega, ?_, ?_⟩⟩⟩⟩)
          · have h1 := hc.cut
            have e : i + 1 - (cur ++ [c]).length = i - cur.length := by simp
            rw [e, List.length_append, List.length_singleton, List.take_add_one, h1, List.getElem?_drop, show i - cur.length + cur.length = i by omega, hc1]
            rfl
          · obtain ⟨p, ps', q1, q2⟩ := hc.eq
            rw [pcs_at hc1, if_neg h47] at q1
            cases hp : pcs (s.data.toList.drop (i + 1)) with
            | nil => exact absurd hp (pcs_ne _)
            | cons a1 as1 =>
              rw [hp] at q1
              simp only [List.cons.injEq] at q1
              exact ⟨a1, as1, rfl, by rw [q2, ← q1.1, ← q1.2]; simp⟩
    · rintro o w2 hm2
      rcases (hMid _ _).1 hm2 with ⟨r, rfl, hp, f⟩ | ⟨r, f', rfl, hi2⟩
      · simp [hp]
        exact f
      · simp [wi]
        exact ⟨_, _, ⟨rfl, rfl⟩, hi2⟩
  · rintro L w1 ⟨m, fr, rfl, hinv⟩
    obtain ⟨P, hO, hall, h8, hcase⟩ := (hI _ _ _ _).1 hinv
    have he : pcs s.data.toList = P.map (·.data.toList) := by
      rcases hcase with ⟨cur, _, hc⟩ | h
      · have := hc.hi; omega
      · exact h.2
    have hb : pcsB s = P := map_inj (by rw [pcsB_map, he])
    have hp : parseF s = some P := by rw [parse_pcs h0, hb, if_pos ⟨h8, hall⟩]
    have hn : ¬ ((s.size : Int) + 1 ≤ s.size) := by omega
    simp [hn, hp]
    exact ⟨hO.fr, by simpa using hO.sl.1⟩
end Go.Proofs.YtojnickeblbgoaaGreatDoor

/-
  Layer 1 (disk), the document's disk: part G: where a path leads.
-/
namespace Go.Proofs.YtojnickeblbgoaaGreatDoor
open Go.Lift
set_option linter.unusedSimpArgs false
set_option linter.unusedVariables false
set_option maxHeartbeats 4000000

def th0 : Th := ⟨0, ⟨e0, []⟩, ⟨e0, []⟩⟩
def Rk.th (r : Rk) (i : Int) : Th := (r.things[i.toNat]?).getD th0
structure RGood (r : Rk) : Prop where
  pos : 0 < r.things.length
  few : ∀ t ∈ r.things, t.seen.slots.length ≤ 8388608
  rng : ∀ t ∈ r.things, ∀ e ∈ t.seen.slots, 0 ≤ e.2 ∧ e.2 < r.things.length
def rnamesF (r : Rk) (path : ByteArray) (root : Bool) : Int × List ByteArray := if r.down then (10, []) else match parseF path with
  | none => (11, [])
  | some l => if l = [] ∧ root = false then (11, []) else (0, l)
abbrev RSpot := Int × ByteArray × Int
def zrs : RSpot := (0, e0, 0)
def rspotV (s : RSpot) : Value := .agg #[.int .i64 s.1, .string s.2.1, .int .i64 s.2.2]
def rspotGo (r : Rk) : Int → List ByteArray → Int × RSpot
  | _, [] => (0, (-1, e0, 0))
  | at', [x] => (0, (at', x, findL (r.th at').seen.slots x))
  | at', x :: y :: l => if findL (r.th at').seen.slots x < 0 then (12, zrs) else if (r.th (findL (r.th at').seen.slots x)).kind ≠ 1 then (14, zrs) else rspotGo r (findL (r.th at').seen.slots x) (y :: l)
def rspotF (r : Rk) (l : List ByteArray) : Int × RSpot := rspotGo r 0 l
section
variable {w w' : World} {b : Nat} {r r' : Rk} {v : RV} {tag : Nat → Nat}
theorem findL_rng {l : RSl} {x : ByteArray} (h : 0 ≤ findL l x) : ∃ e ∈ l, findL l x = e.2 := by
  induction l with
  | nil => simp [findL] at h
  | cons e l ih =>
    unfold findL at h ⊢
    by_cases he : e.1 = x
    · rw [if_pos he]; exact ⟨e, by simp, rfl⟩
    · rw [if_neg he] at h ⊢
      obtain ⟨e', h1, h2⟩ := ih h
      exact ⟨e', List.mem_cons_of_mem _ h1, h2⟩
theorem RA.thG (h : RA w b r v tag) {k : Int} (h0 : 0 ≤ k) (h1 : k < r.things.length) : ∃ t q o l, v.ts[k.toNat]? = some t ∧ t.1 = r.th k ∧ r.th k ∈ r.things ∧ idxA 5 v.tv (.int .i64 k) = some (.pointer (some ⟨q, o, none⟩)) ∧ ThAt w tag v k.toNat t q o l := by
  have hl : v.ts.length = r.things.length := by rw [← h.tE, List.length_map]
  have ht := List.getElem?_eq_getElem (l := v.ts) (i := k.toNat) (by omega)
  generalize v.ts[k.toNat] = t at ht
  obtain ⟨q, o, l, hq⟩ := h.thing ht
  have e : r.things[k.toNat]? = some t.1 := by rw [← h.tE, List.getElem?_map, ht]; rfl
  have hth : r.th k = t.1 := by unfold Rk.th; rw [e]; rfl
  refine ⟨t, q, o, l, ht, hth.symm, by rw [hth]; exact List.mem_of_getElem? e, ?_, hq⟩
  have := hq.at_
  rw [show ((k.toNat : Nat) : Int) = k by omega] at this
  exact this
theorem rnames_run (h : RA w b r v tag) {path : ByteArray} (hs : path.size < 4294967281) (root : Bool) :
    Run (F.granaryref1_Disk_names (Ptr b) (.string path) (.bool root)) w fun x w' => ∃ nv, x = .tuple #[nv, .int .i64 (rnamesF r path root).1] ∧ Fr (fun _ => False) w w' ∧ Sl 1 w' nv ((rnamesF r path root).2.map fun x => [.string x]) := by
  unfold F.granaryref1_Disk_names rnamesF
  have hb := h.blk
  by_cases hd : r.down = true
  · simp [hb, Rk.cells, hd]
    exact ⟨Fr.refl _ _, by simpa using Sl.nil 1 w⟩
  · simp [hb, Rk.cells, hd]
    refine (rNames_run path hs).mono ?_
    rintro _ w1 ⟨nv, rfl, f1, hn⟩
    cases hp : parseF path with
    | none =>
      simp
      exact ⟨f1, by simpa using Sl.nil 1 w1⟩
    | some l =>
      have hl := hn l hp
      have hlen := hl.lenL
      rw [List.length_map] at hlen
      cases l with
      | nil =>
        cases root
        · simp [hlen]
          exact ⟨f1, by simpa using Sl.nil 1 w1⟩
        · simp [hlen]
          exact ⟨f1, hl⟩
      | cons x l =>
        have hne : ¬ ((l.length : Int) + 1 = 0) := by omega
        simp [hlen, hne]
        exact ⟨f1, hl⟩
theorem build_rm1 : buildV #[.int .i64 0, .string ByteArray.empty, .int .i64 0] [(0, 1, .int .i64 (-1))] = some (.agg #[.int .i64 (-1), .string ByteArray.empty, .int .i64 0]) := by simp [buildV, fillV]
theorem build_r3 (a : Int) (s : ByteArray) (k : Int) : buildV #[.int .i64 0, .string ByteArray.empty, .int .i64 0] [(0, 1, .int .i64 a), (1, 1, .string s), (2, 1, .int .i64 k)] = some (.agg #[.int .i64 a, .string s, .int .i64 k]) := by simp [buildV, fillV]
theorem rspot_run (h : RA w b r v tag) (g : RGood r) {nv : Value} {names : List ByteArray} (hn : Sl 1 w nv (names.map fun x => [.string x])) (hl : names.length ≤ 4294967296) :
    Run (F.granaryref1_Disk_spot (Ptr b) nv) w fun x w' => x = .tuple #[rspotV (rspotF r names).2, .int .i64 (rspotF r names).1] ∧ Fr (fun _ => False) w w' := by
  unfold F.granaryref1_Disk_spot
  simp only [Run_bind]
  refine Run_new fun x1 w1 hx1 hw1 f1 hx1le => ?_
  have h1 := h.fr0 f1
  have hn1 := hn.fr0 f1
  have hlen := hn1.lenL
  rw [List.length_map] at hlen
  have hx1' : bk w1 x1 = some [.int .i64 0, .string e0, .int .i64 0] := hx1
  have back : ∀ w4, Fr (fun _ => False) w1 w4 → ∀ (p : Int) (q : ByteArray) (s : Int), ldA 3 (Ptr x1) (sto w4 x1 0 [.int .i64 p, .string q, .int .i64 s]) = some (rspotV (p, q, s)) := fun w4 f p q s => back3 (f.bk_some hx1' id) rfl _ _ _
  have out : ∀ w4, Fr (fun _ => False) w1 w4 → ∀ l, Fr (fun _ => False) w (sto w4 x1 0 l) := fun w4 f l => (f1.trans f fun _ _ => id).sto (.inr hx1le) _ _
  have wx : ∀ w4, Fr (fun _ => False) w1 w4 → bk w4 x1 = some [.int .i64 0, .string e0, .int .i64 0] ∧ wr w4 x1 = true := fun w4 f => ⟨f.bk_some hx1' id, by rw [f.wr (bk_lt hx1') id]; exact hw1⟩
  unfold rspotF
  match names, hn1, hl, hlen with
  | [], hn1, hl, hlen =>
    simp [-ldA_ptr, hlen, build_rm1, hx1', hw1, back w1 (Fr.refl _ _), rspotGo, out w1 (Fr.refl _ _)]
  | x0 :: names, hn1, hl, hlen =>
    obtain ⟨ns, hns⟩ : ∃ ns, ns = x0 :: names := ⟨_, rfl⟩
    obtain ⟨n, hnl⟩ : ∃ n, ns.length = n + 1 := ⟨names.length, by rw [hns]; rfl⟩
    rw [← hns] at hn1 hl hlen ⊢
    rw [hnl] at hlen hl
    have hne : ¬ ((n : Int) + 1 = 0) := by omega
    have hgp := g.pos
    have step : ∀ {at' : Int} {i : Nat} {x y : ByteArray} {rest : List ByteArray}, ns.drop i = x :: y :: rest → rspotGo r at' (ns.drop i) = if findL (r.th at').seen.slots x < 0 then (12, zrs) else if (r.th (findL (r.th at').seen.slots x)).kind ≠ 1 then (14, zrs) else rspotGo r (findL (r.th at').seen.slots x) (ns.drop (i + 1)) := fun {at' i x y rest} e => by
      have : ns.drop (i + 1) = y :: rest := by rw [← List.drop_drop, e]; rfl
      rw [this, e]; rfl
    simp [-ldA_ptr, hlen, hne]
    refine Run_for n (fun i L w' => ∃ at', L = [.int .i64 at', .int .i64 i] ∧ 0 ≤ at' ∧ at' < r.things.length ∧ rspotGo r 0 ns = rspotGo r at' (ns.drop i) ∧ Fr (fun _ => False) w1 w') ⟨0, rfl, Int.le_refl _, by omega, rfl, Fr.refl _ _⟩ ?_ ?_
    · rintro i L w2 hi ⟨at', rfl, a0, a1, ha, f2⟩
      have wi := wrap_succ (n := i) (by omega)
      have hi' : ((i + 1 : Nat) : Int) < (n : Int) + 1 := by omega
      have h2 := h1.fr0 f2
      have hb2 := h2.blk
      obtain ⟨t, q, o, l, t1, t2, t3, t4, t5⟩ := h2.thG a0 a1
      have e1 := t5.c2
      have e2 := t5.bk
      have hsl := (h2.slots t (List.mem_of_getElem? t1)).1.1
      have ei : ns[i]? = some (ns[i]'(by omega)) := List.getElem?_eq_getElem (by omega)
      generalize ns[i]'(by omega) = x at ei
      have ei1 : ns[i + 1]? = some (ns[i + 1]'(by omega)) := List.getElem?_eq_getElem (by omega)
      generalize ns[i + 1]'(by omega) = y at ei1
      have hdr : ns.drop i = x :: y :: ns.drop (i + 2) := by
        obtain ⟨q1, q2⟩ := List.getElem?_eq_some_iff.1 ei
        obtain ⟨q3, q4⟩ := List.getElem?_eq_some_iff.1 ei1
        rw [List.drop_eq_getElem_cons q1, q2, List.drop_eq_getElem_cons q3, q4]
      rw [step hdr] at ha
      obtain ⟨p, p1, p2⟩ := (hn1.fr0 f2).rd1 (i := i) (y := .string x) (by simp [ei]) .i64
      have hfew := g.few _ t3
      rw [t2] at hsl
      simp [-ldA_ptr, wi, hi', hi, hlen, hb2, Rk.cells, t4, e2, e1, p1, p2]
      refine (rfind_run (w := w2.drew) (hsl.fr0 (Fr.refl (fun _ => False) w2).drew) x (by omega)).mono ?_
      rintro _ w3 ⟨rfl, hw3⟩
      rw [hw3]
      have fd : Fr (fun _ => False) w1 w2.drew := f2.drew
      obtain ⟨wx1, wx2⟩ := wx _ fd
      by_cases hneg : findL (r.th at').seen.slots x < 0
      · rw [if_pos hneg] at ha
        have wx1' : bk w2 x1 = _ := wx1
        have wx2' : wr w2 x1 = true := wx2
        simp [-ldA_ptr, hneg, build_z, wx1', wx2', ha]
        exact ⟨_, back _ fd 0 e0 0, rfl, out _ fd _⟩
      · rw [if_neg hneg] at ha
        obtain ⟨e, he, hek⟩ := findL_rng (show 0 ≤ findL (r.th at').seen.slots x by omega)
        have hrng := g.rng _ t3 e he
        rw [← hek] at hrng
        generalize findL (r.th at').seen.slots x = k at hneg hrng ha
        obtain ⟨t', q', o', l', u1, u2, u3, u4, u5⟩ := h2.thG hrng.1 hrng.2
        have v1 := u5.c0
        have v2 := u5.bk
        rw [u2] at v1
        by_cases hk : (r.th k).kind = 1
        · rw [if_neg (by simp [hk])] at ha
          simp [-ldA_ptr, hneg, hb2, Rk.cells, u4, v2, v1, hk]
          exact ⟨hrng.1, hrng.2, ha, fd⟩
        · rw [if_pos hk] at ha
          have wx1' : bk w2 x1 = _ := wx1
          have wx2' : wr w2 x1 = true := wx2
          simp [-ldA_ptr, hneg, hb2, Rk.cells, u4, v2, v1, hk, build_z, wx1', wx2', ha]
          exact ⟨_, back _ fd 0 e0 0, rfl, out _ fd _⟩
    · rintro L w2 ⟨at', rfl, a0, a1, ha, f2⟩
      have h2 := h1.fr0 f2
      have hb2 := h2.blk
      obtain ⟨t, q, o, l, t1, t2, t3, t4, t5⟩ := h2.thG a0 a1
      have e1 := t5.c2
      have e2 := t5.bk
      have hsl := (h2.slots t (List.mem_of_getElem? t1)).1.1
      have ei : ns[n]? = some (ns[n]'(by omega)) := List.getElem?_eq_getElem (by omega)
      generalize ns[n]'(by omega) = x at ei
      have hdr : ns.drop n = [x] := by
        obtain ⟨q1, q2⟩ := List.getElem?_eq_some_iff.1 ei
        rw [List.drop_eq_getElem_cons q1, q2, List.drop_of_length_le (by omega)]
      rw [hdr] at ha
      have hfew := g.few _ t3
      rw [t2] at hsl
      have wn := wrap_succ (n := n) (by omega)
      have hnn : ¬ (((n + 1 : Nat) : Int) < (n : Int) + 1) := by omega
      have wn2 : IntKind.i64.wrap (n : Int) = n := wrap_int (by omega) (by omega)
      obtain ⟨p, p1, p2⟩ := (hn1.fr0 f2).rd1 (i := n) (y := .string x) (by simp [ei]) .i64
      obtain ⟨wx1, wx2⟩ := wx _ f2
      simp [-ldA_ptr, wn, hnn, hlen, wn2, hb2, Rk.cells, t4, e2, e1, p1, p2]
      refine (rfind_run hsl x (by omega)).mono ?_
      rintro _ w3 ⟨rfl, hw3⟩
      rw [hw3]
      simp [-ldA_ptr, build_r3, wx1, wx2, ha, rspotGo]
      exact ⟨_, back _ f2 _ _ _, rfl, out _ f2 _⟩
end
end Go.Proofs.YtojnickeblbgoaaGreatDoor

/-
  Layer 1 (disk), the document's disk: part H: what must be there; looks.
-/
namespace Go.Proofs.YtojnickeblbgoaaGreatDoor
open Go.Lift
set_option linter.unusedSimpArgs false
set_option linter.unusedVariables false
set_option maxHeartbeats 4000000
section
variable {w w' : World} {b : Nat} {r r' : Rk} {v : RV} {tag : Nat → Nat}
theorem find_lt' (g : RGood r) (k : Int) (x : ByteArray) : findL (r.th k).seen.slots x < r.things.length := by
  by_cases h : 0 ≤ findL (r.th k).seen.slots x
  · obtain ⟨e, he, hk⟩ := findL_rng h
    by_cases hr : r.th k ∈ r.things
    · rw [hk]; exact (g.rng _ hr e he).2
    · have : r.th k = th0 := by
        unfold Rk.th at hr ⊢
        cases hx : r.things[k.toNat]? with
        | none => rfl
        | some t => rw [hx] at hr; exact absurd (List.mem_of_getElem? hx) hr
      rw [this] at he
      simp [th0] at he
  · have := g.pos; omega
theorem rspotGo_lt (g : RGood r) : ∀ (l : List ByteArray) (at' : Int), (rspotGo r at' l).2.2.2 < r.things.length
  | [], _ => by have := g.pos; simp only [rspotGo]; omega
  | [x], at' => find_lt' g at' x
  | x :: y :: l, at' => by
    have hp := g.pos
    unfold rspotGo
    split
    · simp only [zrs]; omega
    · split
      · simp only [zrs]; omega
      · exact rspotGo_lt g (y :: l) _
theorem rspotGo_dir (g : RGood r) : ∀ (l : List ByteArray) (at' : Int), l ≠ [] → 0 ≤ at' → at' < r.things.length → (rspotGo r at' l).1 = 0 → 0 ≤ (rspotGo r at' l).2.1 ∧ (rspotGo r at' l).2.1 < r.things.length
  | [], _, h, _, _, _ => absurd rfl h
  | [x], at', _, h0, h1, _ => ⟨h0, h1⟩
  | x :: y :: l, at', _, h0, h1, he => by
    unfold rspotGo at he ⊢
    by_cases hn : findL (r.th at').seen.slots x < 0
    · rw [if_pos hn] at he; simp at he
    · rw [if_neg hn] at he ⊢
      split at he
      · simp at he
      · rename_i hk
        rw [if_neg hk]
        exact rspotGo_dir g (y :: l) _ (by simp) (by omega) (find_lt' g at' x) he
def ratF (r : Rk) (path : ByteArray) (kind : Int) : Int × RSpot := if (rnamesF r path true).1 ≠ 0 then ((rnamesF r path true).1, zrs) else
  if (rspotF r (rnamesF r path true).2).1 ≠ 0 then ((rspotF r (rnamesF r path true).2).1, zrs) else if (rspotF r (rnamesF r path true).2).2.2.2 < 0 then (12, zrs) else
  if kind ≠ 0 ∧ (r.th (rspotF r (rnamesF r path true).2).2.2.2).kind ≠ kind then (14, zrs) else (0, (rspotF r (rnamesF r path true).2).2)
theorem rnames_len {path : ByteArray} {root : Bool} : (rnamesF r path root).2.length ≤ path.size + 1 := by
  unfold rnamesF
  split
  · simp
  · split
    · simp
    · rename_i l hp
      split
      · simp
      · exact parse_len hp
theorem isc3 (p : Int) (q : ByteArray) (k : Int) : ∀ (i : Nat) (x : i < 3), isCell ([Value.int IntKind.i64 p, Value.string q, Value.int IntKind.i64 k][i]'x) = true := fun i x => match i, x with
  | 0, _ => rfl
  | 1, _ => rfl
  | 2, _ => rfl
theorem rat_run (h : RA w b r v tag) (g : RGood r) {path : ByteArray} (hs : path.size < 4294967281) (kind : Int) :
    Run (F.granaryref1_Disk_at (Ptr b) (.string path) (.int .i64 kind)) w fun x w' => x = .tuple #[rspotV (ratF r path kind).2, .int .i64 (ratF r path kind).1] ∧ Fr (fun _ => False) w w' := by
  unfold F.granaryref1_Disk_at
  simp only [Run_bind]
  refine Run_new fun x1 w1 hx1 hw1 f1 hx1le => ?_
  have h1 := h.fr0 f1
  have hx1' : bk w1 x1 = some [.int .i64 0, .string e0, .int .i64 0] := hx1
  have back : ∀ w4, Fr (fun _ => False) w1 w4 → ∀ (p : Int) (q : ByteArray) (s : Int), ldA 3 (Ptr x1) (sto w4 x1 0 [.int .i64 p, .string q, .int .i64 s]) = some (rspotV (p, q, s)) := fun w4 f p q s => back3 (f.bk_some hx1' id) rfl _ _ _
  have out : ∀ w4, Fr (fun _ => False) w1 w4 → ∀ l, Fr (fun _ => False) w (sto w4 x1 0 l) := fun w4 f l => (f1.trans f fun _ _ => id).sto (.inr hx1le) _ _
  have wx : ∀ w4, Fr (fun _ => False) w1 w4 → bk w4 x1 = some [.int .i64 0, .string e0, .int .i64 0] ∧ wr w4 x1 = true := fun w4 f => ⟨f.bk_some hx1' id, by rw [f.wr (bk_lt hx1') id]; exact hw1⟩
  refine (rnames_run h1 hs true).mono ?_
  rintro _ w2 ⟨nv, rfl, f2, hn⟩
  have hnl := rnames_len (r := r) (path := path) (root := true)
  unfold ratF
  generalize rnamesF r path true = nm at hn hnl
  obtain ⟨e, names⟩ := nm
  simp only at hn hnl
  by_cases he : e = 0
  · subst he
    simp [-ldA_ptr]
    have h2 := h1.fr0 f2
    refine (rspot_run h2 g hn (by omega)).mono ?_
    rintro _ w3 ⟨rfl, f3⟩
    have hlt := rspotGo_lt g names 0
    have h3 := h2.fr0 f3
    rw [show rspotGo r 0 names = rspotF r names from rfl] at hlt
    generalize rspotF r names = s at hlt
    obtain ⟨e, p, q, k⟩ := s
    have f13 := f2.trans f3 fun _ _ => id
    simp only at hlt
    simp [-ldA_ptr, rspotV]
    refine Run_newSt (cs := #[.int .i64 p, .string q, .int .i64 k]) rfl rfl (by simp) fun x2 w4 hx2 hw2 f4 hx2le => ?_
    have hx2' : bk w4 x2 = some [.int .i64 p, .string q, .int .i64 k] := hx2
    have f14 := f13.trans f4 fun _ _ => id
    obtain ⟨bx, wx1⟩ := wx w4 f14
    by_cases he : e = 0
    · subst he
      by_cases hk : k < 0
      · simp [-ldA_ptr, hk, hx2', build_z, bx, wx1]
        exact ⟨_, back w4 f14 0 e0 0, rfl, out _ f14 _⟩
      · have h4 := h3.fr0 f4
        have hb4 := h4.blk
        obtain ⟨t, q', o, l, t1, t2, t3, t4, t5⟩ := h4.thG (k := k) (by omega) hlt
        have c0 := t5.c0
        rw [t2] at c0
        have c1 := t5.bk
        have e3 : ldA 3 (Ptr x2) w4 = some (.agg #[.int .i64 p, .string q, .int .i64 k]) := by rw [ldA_bk hx2' (by simp)]; rfl
        have f14d : Fr (fun _ => False) w1 w4.drew := f14.drew
        by_cases hz : kind = 0
        · simp [-ldA_ptr, hk, hx2', hz, bx, wx1, e3]
          exact ⟨isc3 p q k, _, back w4.drew f14d p q k, rfl, out _ f14d _⟩
        · by_cases hkk : (r.th k).kind = kind
          · simp [-ldA_ptr, hk, hx2', hz, bx, wx1, e3, hb4, Rk.cells, t4, c1, c0, hkk]
            exact ⟨isc3 p q k, _, back w4.drew f14d p q k, rfl, out _ f14d _⟩
          · simp [-ldA_ptr, hk, hx2', hz, bx, wx1, e3, hb4, Rk.cells, t4, c1, c0, hkk, build_z]
            exact ⟨_, back w4.drew f14d 0 e0 0, rfl, out _ f14d _⟩
    · simp [-ldA_ptr, he, build_z, bx, wx1]
      exact ⟨_, back w4 f14 0 e0 0, rfl, out _ f14 _⟩
  · obtain ⟨bx, wx1⟩ := wx w2 f2
    simp [-ldA_ptr, he, build_z, bx, wx1]
    exact ⟨_, back w2 f2 0 e0 0, rfl, out _ f2 _⟩
theorem rat_pos (g : RGood r) {path : ByteArray} {kind : Int} (h : (ratF r path kind).1 = 0) : 0 ≤ (ratF r path kind).2.2.2 ∧ (ratF r path kind).2.2.2 < r.things.length ∧ r.down = false := by
  unfold ratF at h ⊢
  split at h
  · rename_i hn; exact absurd h hn
  rename_i hn
  rw [if_neg hn]
  split at h
  · rename_i hn; exact absurd h hn
  rename_i hn2
  rw [if_neg hn2]
  split at h
  · simp at h
  rename_i hn3
  rw [if_neg hn3]
  split at h
  · simp at h
  rename_i hn4
  rw [if_neg hn4]
  refine ⟨by simp only; omega, rspotGo_lt g _ _, ?_⟩
  cases hd : r.down
  · rfl
  · exact absurd (by simp [rnamesF, hd]) hn
def rkindF (r : Rk) (path : ByteArray) : Int × Int := if (ratF r path 0).1 ≠ 0 then (0, (ratF r path 0).1) else ((r.th (ratF r path 0).2.2.2).kind, 0)
theorem rkind_run (h : RA w b r v tag) (g : RGood r) {path : ByteArray} (hs : path.size < 4294967281) :
    Run (F.granaryref1_Disk_Kind (Ptr b) (.string path)) w fun x w' => x = .tuple #[.int .i64 (rkindF r path).1, .int .i64 (rkindF r path).2] ∧ Fr (fun _ => False) w w' := by
  unfold F.granaryref1_Disk_Kind
  simp only [Run_bind]
  refine (rat_run h g hs 0).mono ?_
  rintro _ w1 ⟨rfl, f1⟩
  have hp := rat_pos g (path := path) (kind := 0)
  unfold rkindF
  generalize ratF r path 0 = s at hp
  obtain ⟨e, p, q, k⟩ := s
  simp only at hp
  have h1 := h.fr0 f1
  have hb1 := h1.blk
  by_cases he : e = 0
  · obtain ⟨k0, k1, _⟩ := hp he
    obtain ⟨t, q', o, l, t1, t2, t3, t4, t5⟩ := h1.thG k0 k1
    have c0 := t5.c0
    rw [t2] at c0
    have c1 := t5.bk
    subst he
    simp [-ldA_ptr, rspotV]
    refine Run_newSt (cs := #[.int .i64 p, .string q, .int .i64 k]) rfl rfl (by simp) fun x2 w4 hx2 hw2 f4 hx2le => ?_
    have hx2' : bk w4 x2 = some [.int .i64 p, .string q, .int .i64 k] := hx2
    have hb4 : bk w4 b = some _ := f4.bk_some hb1 id
    have c14 : bk w4 q' = some _ := f4.bk_some c1 id
    simp [-ldA_ptr, hx2', hb4, Rk.cells, t4, c14, c0]
    exact (f1.trans f4 fun _ _ => id).drew
  · simp [-ldA_ptr, he, rspotV]
    refine Run_newSt (cs := #[.int .i64 p, .string q, .int .i64 k]) rfl rfl (by simp) fun x2 w4 hx2 hw2 f4 hx2le => ?_
    exact f1.trans f4 fun _ _ => id
end
end Go.Proofs.YtojnickeblbgoaaGreatDoor

/-
  Layer 1 (disk), the document's disk: part I: Remove, make, New.
-/
namespace Go.Proofs.YtojnickeblbgoaaGreatDoor
open Go.Lift
set_option linter.unusedSimpArgs false
set_option linter.unusedVariables false
set_option maxHeartbeats 4000000
section
variable {w w' : World} {b : Nat} {r r' : Rk} {v : RV} {tag : Nat → Nat}
theorem rat_dir (g : RGood r) {path : ByteArray} {kind : Int} (h : (ratF r path kind).1 = 0) (hp : parseF path ≠ some []) : 0 ≤ (ratF r path kind).2.1 ∧ (ratF r path kind).2.1 < r.things.length := by
  unfold ratF at h ⊢
  split at h
  · rename_i hn; exact absurd h hn
  rename_i hn
  rw [if_neg hn]
  split at h
  · rename_i hn; exact absurd h hn
  rename_i hn2
  rw [if_neg hn2]
  split at h
  · simp at h
  rename_i hn3
  rw [if_neg hn3]
  split at h
  · simp at h
  rename_i hn4
  rw [if_neg hn4]
  refine rspotGo_dir g _ 0 ?_ (Int.le_refl _) (by have := g.pos; omega) (by simpa [rspotF] using hn2)
  unfold rnamesF at hn ⊢
  split
  · rename_i hd; rw [if_pos hd] at hn; simp at hn
  · rename_i hd
    rw [if_neg hd] at hn
    split at hn
    · simp at hn
    · rename_i l hl
      rw [if_neg (by simp)]
      exact fun he => hp (by rw [hl]; exact congrArg some he)
def Rk.names0 (r : Rk) (path : ByteArray) : Prop := r.down = false ∧ parseF path ≠ none ∧ parseF path ≠ some []
theorem rnames_false {path : ByteArray} (h : (rnamesF r path false).1 = 0) : r.names0 path := by
  unfold rnamesF at h
  split at h
  · simp at h
  · rename_i hd
    split at h
    · simp at h
    · rename_i l hl
      refine ⟨by simpa using hd, by rw [hl]; simp, ?_⟩
      rw [hl]
      intro he
      simp at he
      simp [he] at h
def rremoveF (r : Rk) (path : ByteArray) : Int × Rk := if (rnamesF r path false).1 ≠ 0 then ((rnamesF r path false).1, r) else if (ratF r path 0).1 ≠ 0 then ((ratF r path 0).1, r) else
  if (r.th (ratF r path 0).2.2.2).seen.slots ≠ [] then (17, r) else rchF r ⟨(ratF r path 0).2.1, 4, 0, (ratF r path 0).2.2.1, e0, e0⟩ (ratF r path 0).2.1.toNat (r.th (ratF r path 0).2.1)
theorem build_rc4 (a : Int) (s : ByteArray) : buildV #[.int .i64 0, .int .i64 0, .int .i64 0, .string ByteArray.empty, .string ByteArray.empty, .string ByteArray.empty] [(0, 1, .int .i64 a), (1, 1, .int .i64 4), (3, 1, .string s)] = some (Rc.val ⟨a, 4, 0, s, e0, e0⟩) := by simp [buildV, fillV, Rc.val, Rc.cells]
theorem RA.same (h : RA w b r v tag) (f : Fr (fun _ => False) w w') : RDid w w' b tag r := (h.fr0 f).did (f.mono fun _ h => h.elim)
theorem rremove_run (h : RA w b r v tag) (g : RGood r) {path : ByteArray} (hs : path.size < 4294967281) (hp : r.line.length ≤ 16777216) :
    Run (F.granaryref1_Disk_Remove (Ptr b) (.string path)) w fun x w' => x = .int .i64 (rremoveF r path).1 ∧ RDid w w' b tag (rremoveF r path).2 := by
  unfold F.granaryref1_Disk_Remove rremoveF
  simp only [Run_bind]
  refine (rnames_run h hs false).mono ?_
  rintro _ w1 ⟨nv, rfl, f1, hn⟩
  have hn0 := rnames_false (r := r) (path := path)
  generalize rnamesF r path false = nm at hn hn0
  obtain ⟨e, names⟩ := nm
  simp only at hn0
  by_cases he : e = 0
  · obtain ⟨_, _, hne⟩ := hn0 he
    subst he
    simp [-ldA_ptr]
    have h1 := h.fr0 f1
    refine (rat_run h1 g hs 0).mono ?_
    rintro _ w2 ⟨rfl, f2⟩
    have hpos := rat_pos g (path := path) (kind := 0)
    have hdir := fun he => rat_dir g (path := path) (kind := 0) he hne
    generalize ratF r path 0 = s at hpos hdir
    obtain ⟨e, p, q, k⟩ := s
    simp only at hpos hdir
    have h2 := h1.fr0 f2
    simp [-ldA_ptr, rspotV]
    refine Run_newSt (cs := #[.int .i64 p, .string q, .int .i64 k]) rfl rfl (by simp) fun x w4 hx hw4 f4 hxle => ?_
    have hx' : bk w4 x = some [.int .i64 p, .string q, .int .i64 k] := hx
    have f04 := (f1.trans f2 fun _ _ => id).trans f4 fun _ _ => id
    have h4 := h2.fr0 f4
    by_cases he : e = 0
    · obtain ⟨k0, k1, _⟩ := hpos he
      obtain ⟨p0, p1⟩ := hdir he
      subst he
      obtain ⟨t, q', o, l, t1, t2, t3, t4, t5⟩ := h4.thG k0 k1
      obtain ⟨t', _, _, _, u1, u2, u3, _, _⟩ := h4.thG p0 p1
      have hb4 := h4.blk
      have c2 := t5.c2
      have c1 := t5.bk
      have hsl := (h4.slots t (List.mem_of_getElem? t1)).1.1
      rw [t2] at hsl
      have hlen := hsl.lenL
      rw [List.length_map] at hlen
      cases hss : (r.th k).seen.slots with
      | cons y ys =>
        rw [hss] at hlen
        have hgt : (0 : Int) < (ys.length : Int) + 1 := by omega
        simp [-ldA_ptr, hx', hb4, Rk.cells, t4, c1, c2, hlen, hgt, hss]
        exact h.same f04.drew
      | nil =>
        rw [hss] at hlen
        simp [-ldA_ptr, hx', hb4, Rk.cells, t4, c1, c2, hlen, hss, build_rc4]
        have f4d : Fr (fun _ => False) w w4.drew := f04.drew
        refine (rchange_run (h.fr0 f4d) ⟨p, 4, 0, q, e0, e0⟩ (i := p.toNat) (t := t') u1 (by simp only; omega) ⟨fun h => by simp at h, fun h => by simp at h, by rw [u2]; exact g.few _ u3⟩ hp).mono ?_
        rintro _ w5 ⟨rfl, h5⟩
        rw [u2] at h5 ⊢
        exact ⟨rfl, h5.pre f4d⟩
    · simp [-ldA_ptr, he]
      exact h.same f04
  · simp [he]
    exact h.same f1
def Rk.addTh (r : Rk) (kind : Int) : Rk := { r with things := r.things ++ [⟨kind, ⟨e0, []⟩, ⟨e0, []⟩⟩] }
def rmakeF (r : Rk) (path : ByteArray) (kind : Int) : Int × Rk := if (rnamesF r path true).1 ≠ 0 then ((rnamesF r path true).1, r) else
  if (rspotF r (rnamesF r path true).2).1 ≠ 0 then ((rspotF r (rnamesF r path true).2).1, r) else if 0 ≤ (rspotF r (rnamesF r path true).2).2.2.2 then (13, r) else
  rchF (r.addTh kind) ⟨(rspotF r (rnamesF r path true).2).2.1, 3, r.things.length, (rspotF r (rnamesF r path true).2).2.2.1, e0, e0⟩ (rspotF r (rnamesF r path true).2).2.1.toNat (r.th (rspotF r (rnamesF r path true).2).2.1)
theorem build_rc3 (a k : Int) (s : ByteArray) : buildV #[.int .i64 0, .int .i64 0, .int .i64 0, .string ByteArray.empty, .string ByteArray.empty, .string ByteArray.empty] [(0, 1, .int .i64 a), (1, 1, .int .i64 3), (3, 1, .string s), (2, 1, .int .i64 k)] = some (Rc.val ⟨a, 3, k, s, e0, e0⟩) := by simp [buildV, fillV, Rc.val, Rc.cells]
def newTh (k : Int) : TV := (⟨k, ⟨e0, []⟩, ⟨e0, []⟩⟩, .slice none 0 0, .slice none 0 0)
theorem build_th (k : Int) : buildV #[.int .i64 0, .string ByteArray.empty, .slice none 0 0, .string ByteArray.empty, .slice none 0 0] [(0, 1, .int .i64 k)] = some (.agg (thC (newTh k)).toArray) := by simp [buildV, fillV, thC, newTh]
theorem slA_nil (w : World) (tag : Nat → Nat) : SlA w tag [] (.slice none 0 0) := ⟨Sl.nil 2 w, fun _ h => h.elim⟩
theorem rmake_run (h : RA w b r v tag) (g : RGood r) {path : ByteArray} (hs : path.size < 4294967281) (kind : Int) (hp : r.line.length ≤ 16777216) (hnl : r.things.length ≤ 16777216) :
    Run (F.granaryref1_Disk_make (Ptr b) (.string path) (.int .i64 kind)) w fun x w' => x = .int .i64 (rmakeF r path kind).1 ∧ RDid w w' b tag (rmakeF r path kind).2 := by
  unfold F.granaryref1_Disk_make rmakeF
  simp only [Run_bind]
  refine (rnames_run h hs true).mono ?_
  rintro _ w1 ⟨nv, rfl, f1, hn⟩
  have hnl' := rnames_len (r := r) (path := path) (root := true)
  generalize rnamesF r path true = nm at hn hnl'
  obtain ⟨e, names⟩ := nm
  simp only at hn hnl'
  by_cases he : e = 0
  · subst he
    simp [-ldA_ptr]
    have h1 := h.fr0 f1
    refine (rspot_run h1 g hn (by omega)).mono ?_
    rintro _ w2 ⟨rfl, f2⟩
    have hdir := fun (h1 : (rspotF r names).1 = 0) (h2 : ¬ 0 ≤ (rspotF r names).2.2.2) => rspotGo_dir g names 0 (fun he => by rw [he] at h2; exact h2 (show (0 : Int) ≤ 0 by omega)) (Int.le_refl _) (by have := g.pos; omega) h1
    rw [show rspotGo r 0 names = rspotF r names from rfl] at hdir
    generalize rspotF r names = s at hdir
    obtain ⟨e, p, q, k⟩ := s
    simp only at hdir
    have h2 := h1.fr0 f2
    simp [-ldA_ptr, rspotV]
    refine Run_newSt (cs := #[.int .i64 p, .string q, .int .i64 k]) rfl rfl (by simp) fun x w4 hx hw4 f4 hxle => ?_
    have hx' : bk w4 x = some [.int .i64 p, .string q, .int .i64 k] := hx
    have f04 := (f1.trans f2 fun _ _ => id).trans f4 fun _ _ => id
    have h4 := h2.fr0 f4
    by_cases he : e = 0
    · by_cases hk : 0 ≤ k
      · simp [-ldA_ptr, he, hx', hk]
        exact h.same f04
      · obtain ⟨p0, p1⟩ := hdir he hk
        obtain ⟨t', _, _, _, u1, u2, u3, _, _⟩ := h4.thG p0 p1
        have hb4 := h4.blk
        have hvl : v.ts.length = r.things.length := by rw [← h.tE, List.length_map]
        simp [-ldA_ptr, he, hk, hx', hb4, Rk.cells, build_th]
        refine Run_app1 (k := 5) (y := .agg (thC (newTh kind)).toArray) (by simp [thC]) h4.things (by decide) rfl (by decide) (by simp [thC, newTh]) (by simp only [List.length_map]; omega) fun u w5 hr f5 hin w6 f6 => ?_
        have hr' : SlW 5 w5 u ((v.ts ++ [newTh kind]).map thC) := by simpa using hr
        obtain ⟨g1, g2, tag', g3, g4, g5⟩ := h4.newThings f5 (l := v.ts ++ [newTh kind]) (fun t ht => by
          rcases List.mem_append.1 ht with ht | ht
          · exact h4.slots t ht
          · rw [List.mem_singleton.1 ht]
            exact ⟨slA_nil _ _, slA_nil _ _⟩) hr' hin
        have hrc := hr.1.isCell
        have s04 := f04.size
        have hx5 : x ≠ b := fun he => by have := h.bound b (by rw [h.tb]; decide); have := (f1.trans f2 fun _ _ => id).size; omega
        have hxn : ¬ inB v.tv x := fun hi => by have := h.bound x (by rw [h.tt x hi]; decide); have := (f1.trans f2 fun _ _ => id).size; omega
        have hx7 : bk (sto w5 b 5 [u]) x = some [.int .i64 p, .string q, .int .i64 k] := by rw [bk_sto_ne hx5]; exact f5.bk_some hx' hxn
        have hlr := hr'.1.lenL
        rw [List.length_map, List.length_append] at hlr
        have e3 : IntKind.i64.wrap (((v.ts.length + 1 : Nat) : Int) - 1) = v.ts.length := by
          rw [show ((v.ts.length + 1 : Nat) : Int) - 1 = v.ts.length by omega]
          exact wrap_int (by omega) (by omega)
        rw [cells_isCell hrc, show (#[u] : Array Value).toList = [u] from rfl]
        refine ⟨rfl, by simp [hrc], ⟨_, g1, by simp [Rk.cells]⟩, g2, ?_⟩
        have hb7 := g3.blk
        refine ⟨_, by rw [hx7]; rfl, _, by rw [hx7]; rfl, _, by rw [g1]; rfl, ?_⟩
        simp only [hlr, Run_bindO_some, binV_int, intBin_sub, List.length_cons, List.length_nil, Nat.zero_add, e3, build_rc3, Run_bind, Run_ret]
        have fd : Fr (fun _ => False) (sto w5 b 5 [u]) (sto w5 b 5 [u]).drew := (Fr.refl (fun _ => False) _).drew
        have u1' : (v.ts ++ [newTh kind])[p.toNat]? = some t' := by rw [List.getElem?_append_left (List.getElem?_eq_some_iff.1 u1).1]; exact u1
        have hrk : ({ r with things := (v.ts ++ [newTh kind]).map (·.1) } : Rk) = r.addTh kind := by
          unfold Rk.addTh
          rw [List.map_append, h.tE]
          rfl
        rw [hrk] at g3
        refine (rchange_run (g3.fr0 fd) ⟨p, 3, v.ts.length, q, e0, e0⟩ (i := p.toNat) (t := t') u1' (by simp only; omega) ⟨fun h => by simp at h, fun h => by simp at h, by rw [u2]; exact g.few _ u3⟩ hp).mono ?_
        rintro _ w8 ⟨rfl, h8⟩
        have f07 : Fr (fun c => tag c ≠ 0) w (sto w5 b 5 [u]).drew := ((f04.mono fun _ h => h.elim).trans g4 fun _ _ h => h).drew
        rw [u2, hvl] at h8 ⊢
        exact ⟨rfl, RDid.trans f07 (fun c hc => (g5 c hc).imp id fun h => by omega) h8⟩
    · simp [-ldA_ptr, he]
      exact h.same f04
  · simp [he]
    exact h.same f1
end
end Go.Proofs.YtojnickeblbgoaaGreatDoor

/-
  Layer 1 (disk), the document's disk: part J: New, Path.
-/
namespace Go.Proofs.YtojnickeblbgoaaGreatDoor
open Go.Lift
set_option linter.unusedSimpArgs false
set_option linter.unusedVariables false
set_option maxHeartbeats 4000000

def newR (cap : Int) : Rk := ⟨cap, 0, 0, -1, false, [⟨1, ⟨e0, []⟩, ⟨e0, []⟩⟩], []⟩
section
variable {w w' : World}
theorem rnew_bad {cap : Int} (h : ¬ (0 ≤ cap ∧ cap ≤ 1073741824)) : Run (F.granaryref1_New (.int .i64 cap)) w fun r w' => r = .tuple #[.pointer none, .int .i64 1] ∧ w' = w := by
  unfold F.granaryref1_New
  by_cases h0 : cap < 0
  · simp [h0]
  · have h1 : (1073741824 : Int) < cap := by omega
    simp [h0, h1]
theorem rnew_run {cap : Int} (hc0 : 0 ≤ cap) (hc1 : cap ≤ 1073741824) (hpos : 0 < w.heap.size) :
    Run (F.granaryref1_New (.int .i64 cap)) w fun r w' => ∃ b, r = .tuple #[Ptr b, .int .i64 0] ∧ ∃ v tag, RA w' b (newR cap) v tag ∧ (∀ c, tag c ≠ 0 → w.heap.size ≤ c) ∧ Fr (fun _ => False) w w' := by
  unfold F.granaryref1_New
  have hn0 : ¬ cap < 0 := by omega
  have hn1 : ¬ (1073741824 : Int) < cap := by omega
  have e1 : buildV #[.int .i64 0, .int .i64 0, .int .i64 0, .int .i64 0, .bool false, .slice none 0 0, .slice none 0 0] [(0, 1, .int .i64 cap), (3, 1, .int .i64 (-1))] = some (.agg #[.int .i64 cap, .int .i64 0, .int .i64 0, .int .i64 (-1), .bool false, .slice none 0 0, .slice none 0 0]) := by simp [buildV, fillV]
  simp [-ldA_ptr, hn0, hn1, e1, build_th]
  refine Run_new fun b w1 hb hbw f1 hble => ?_
  have hb' : bk w1 b = some [.int .i64 cap, .int .i64 0, .int .i64 0, .int .i64 (-1), .bool false, .slice none 0 0, .slice none 0 0] := hb
  have lb := bk_lt hb'
  simp [-ldA_ptr, hb']
  refine Run_app1 (k := 5) (y := .agg (thC (newTh 1)).toArray) (els := []) (by simp [thC]) (SlW.nil 5 w1) (by decide) rfl (by decide) (by simp [thC, newTh]) (by simp) fun u w5 hr f5 hin w6 f6 => ?_
  have hrc := hr.1.isCell
  have s5 := f5.size
  have f5' : Fr (fun _ => False) w1 w5 := f5.mono fun c hc => hc
  have hb5 := f5'.bk_some hb' id
  have hw5 : wr w5 b = true := by rw [f5'.wr lb id]; exact hbw
  simp [-ldA_ptr, hrc, cells_isCell hrc, hb5, hw5]
  have fr5 : ∀ c, inB u c → w1.heap.size ≤ c ∧ c < w5.heap.size := fun c hc => (hin c hc).elim (fun h => h.elim) id
  obtain ⟨tag, htag⟩ : ∃ tag : Nat → Nat, tag = fun c => if c = b then 1 else if w1.heap.size ≤ c ∧ c < w5.heap.size then 2 else 0 := ⟨_, rfl⟩
  have t1 : tag b = 1 := by rw [htag]; simp
  have t2 : ∀ c, inB u c → tag c = 2 := fun c hc => by
    have := fr5 c hc
    rw [htag]; simp only; rw [if_neg (by omega), if_pos this]
  have tle : ∀ c, tag c ≠ 0 → w.heap.size ≤ c ∧ c < w5.heap.size := fun c hc => by
    have s1 := f1.size
    rw [htag] at hc
    simp only at hc
    split at hc
    · omega
    · split at hc
      · omega
      · exact absurd rfl hc
  have t0 : tag 0 = 0 := Classical.byContradiction fun h => by have := tle 0 h; omega
  refine ⟨⟨u, .slice none 0 0, [newTh 1]⟩, tag, ⟨?_, by rw [wr_sto]; exact hw5, rfl, ?_, ?_, SlW.nil _ _, t1, t2, fun c hc => hc.elim, t0, fun c hc => by rw [size_sto]; exact (tle c hc).2⟩, fun c hc => (tle c hc).1, (f1.trans f5' fun _ _ => id).sto (.inr hble) _ _⟩
  · rw [bk_sto_eq, hb5]; rfl
  · refine SlW.fr (by simpa using hr) ((Fr.refl (fun c => c = b) w5).sto (.inl rfl) _ _) fun c hc he => ?_
    have := fr5 c hc; omega
  · intro t ht
    rw [List.mem_singleton.1 ht]
    exact ⟨slA_nil _ _, slA_nil _ _⟩
end
/-- The first names of a path. -/
theorem join_snoc (l : List ByteArray) (y : ByteArray) : joinL (l ++ [y]) slash = if l = [] then y.data.toList else joinL l slash ++ (slash.data.toList ++ y.data.toList) := by
  cases l with
  | nil => simp [joinL]
  | cons x r =>
    rw [if_neg (by simp)]
    simp [joinL]
theorem join_len (l : List ByteArray) : (joinL l slash).length ≤ l.length + (l.map (·.size)).sum := by
  cases l with
  | nil => simp [joinL]
  | cons x r =>
    have h := acc_full x slash r
    have : joinL (x :: r) slash = accL x slash r := rfl
    rw [this, h]
    have : slash.size = 1 := rfl
    rw [this]
    simp; omega
theorem rpath_run {w : World} {v : Value} {xs : List ByteArray} (hv : Sl 1 w v (xs.map fun x => [.string x])) (hx : (xs.map (·.size)).sum ≤ 140737488355328) (hl : xs.length ≤ 16777216) :
    Run (F.granaryref1_Path v) w fun r w' => r = .string ⟨(joinL xs slash).toArray⟩ ∧ w' = w := by
  unfold F.granaryref1_Path
  have hlen := hv.lenL
  rw [List.length_map] at hlen
  simp only [Run_bind]
  refine Run_for xs.length (fun i L w' => L = [.string ⟨(joinL (xs.take i) slash).toArray⟩, .int .i64 i] ∧ w' = w) ⟨rfl, rfl⟩ ?_ ?_
  · rintro i L w1 hi ⟨rfl, hw⟩
    rw [hw]
    have hi' : (i : Int) < xs.length := by omega
    have ei : xs[i]? = some xs[i] := List.getElem?_eq_getElem hi
    generalize xs[i] = y at ei
    have wi := wrap_succ (n := i) (by omega)
    obtain ⟨p, p1, p2⟩ := hv.rd1 (i := i) (y := .string y) (by simp [ei]) .i64
    have hsn := take_snoc ei
    have hj := join_len (xs.take (i + 1))
    have hst := sum_take_le xs (i + 1)
    have hlt := List.length_take_le (i + 1) xs
    rw [hsn] at hj hst hlt ⊢
    rw [join_snoc] at hj ⊢
    by_cases h0 : i = 0
    · subst h0
      have hy : y.size ≤ 9223372036854775807 := by simp at hst; omega
      have hadd : strBin .add (⟨(joinL (xs.take 0) slash).toArray⟩ : ByteArray) y = some (.string y) := by
        have e : (⟨(joinL (xs.take 0) slash).toArray⟩ : ByteArray) = E0 := rfl
        rw [e]
        simp only [strBin]
        rw [if_neg]
        · congr 2
        · simp [IntKind.max, IntKind.bits, IntKind.signed]
          rw [show E0.size = 0 from rfl]; omega
      have p1' : idxA 1 v (.int .i64 0) = some p := p1
      have hadd0 : strBin .add (⟨(joinL [] slash).toArray⟩ : ByteArray) y = some (.string y) := hadd
      have wi' : IntKind.i64.wrap 1 = 1 := by simpa using wi
      simp [hlen, hi, p1', p2, hadd0, wi']
    · have hgt : (0 : Int) < i := by omega
      have hne : xs.take i ≠ [] := fun h => by
        have : (xs.take i).length = 0 := by rw [h]; rfl
        rw [List.length_take] at this; omega
      rw [if_neg hne] at hj ⊢
      simp only [List.length_append, List.length_singleton, List.map_append, List.map_singleton, List.sum_append, List.sum_singleton] at hj hst hlt
      have hsz : slash.data.toList.length = 1 := rfl
      have hys : y.data.toList.length = y.size := rfl
      obtain ⟨J, hJ⟩ : ∃ J, J = joinL (xs.take i) slash := ⟨_, rfl⟩
      rw [← hJ] at hj ⊢
      have hadd1 : strBin .add (⟨J.toArray⟩ : ByteArray) (ByteArray.mk #[47]) = some (.string ⟨(J ++ slash.data.toList).toArray⟩) := by
        simp only [strBin]
        rw [if_neg]
        · exact congrArg some (congrArg Value.string (ba_ext (by rw [ByteArray.data_append]; simp [slash])))
        · rw [show (⟨J.toArray⟩ : ByteArray).size = J.length by simp [ByteArray.size]]
          simp [IntKind.max, IntKind.bits, IntKind.signed]
          rw [show (ByteArray.mk #[47]).size = 1 from rfl]; omega
      have hadd2 : strBin .add (⟨(J ++ slash.data.toList).toArray⟩ : ByteArray) y = some (.string ⟨(J ++ (slash.data.toList ++ y.data.toList)).toArray⟩) := by
        simp only [strBin]
        rw [if_neg]
        · exact congrArg some (congrArg Value.string (ba_ext (by rw [ByteArray.data_append]; simp)))
        · rw [show (⟨(J ++ slash.data.toList).toArray⟩ : ByteArray).size = J.length + 1 by simp [ByteArray.size, slash]]
          simp [IntKind.max, IntKind.bits, IntKind.signed]
          omega
      have hpos : 0 < i := by omega
      simp [hlen, hi, hpos, p1, p2, hadd1, hadd2, wi]
  · rintro L w1 ⟨rfl, hw⟩
    rw [hw, List.take_length]
    simp [hlen]
end Go.Proofs.YtojnickeblbgoaaGreatDoor
