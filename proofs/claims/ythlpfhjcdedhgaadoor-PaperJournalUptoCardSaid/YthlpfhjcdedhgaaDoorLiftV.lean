/-
  THE LIFT, part V: what is read of arguments, by their types alone; whole numbers with their range (else as part T).
-/
import Derived.Test.YthlpfhjcdedhgaaDoorLiftO
import Derived.Test.YthlpfhjcdedhgaaDoorRows
namespace Go.Proofs.YthlpfhjcdedhgaaDoor
open Go.Lift

/-- The shape of a row of cells. -/
inductive Shs where
  | nil
  | int (k : IntKind) (r : Shs)
  | bool (r : Shs)
  | str (r : Shs)
  | slice (e r : Shs)
def Shs.len : Shs → Nat
  | .nil => 0
  | .int _ r => r.len + 1
  | .bool r => r.len + 1
  | .str r => r.len + 1
  | .slice _ r => r.len + 1
def Shs.app : Shs → Shs → Shs
  | .nil, s => s
  | .int k r, s => .int k (r.app s)
  | .bool r, s => .bool (r.app s)
  | .str r, s => .str (r.app s)
  | .slice e r, s => .slice e (r.app s)
def shFields (sh : TypeId → Option Shs) : List Field → Nat → Option Shs
  | [], _ => some .nil
  | f :: fs, off => if f.offset = off then match sh f.type with
      | some s => match shFields sh fs (off + s.len) with
        | some r => some (s.app r)
        | none => none
      | none => none
    else none
/-- The shape of a type. -/
def shOf (P : Program) : Nat → TypeId → Option Shs
  | 0, _ => none
  | n + 1, t => match P.underlying t with
    | some (.int k) => some (.int k .nil)
    | some .bool => some (.bool .nil)
    | some .string => some (.str .nil)
    | some (.slice e) => match shOf P n e with
      | some s => if 0 < s.len ∧ P.cellsOf e = s.len then some (.slice s .nil) else none
      | none => none
    | some (.struct fs) => match shFields (shOf P n) fs.toList 0 with
      | some s => if P.cellsOf t = s.len then some s else none
      | none => none
    | _ => none
/-- Cells of a shape, in w, of no more than this bulk. -/
def Shs.Rd (w : World) : Shs → List Value → Nat → Prop
  | .nil, cs, _ => cs = []
  | .int k r, cs, n => ∃ (i : Int) (cs' : List Value) (m : Nat), cs = .int k i :: cs' ∧ (Lit.int k i).wf = true ∧ m + 1 ≤ n ∧ r.Rd w cs' m
  | .bool r, cs, n => ∃ (b : Bool) (cs' : List Value) (m : Nat), cs = .bool b :: cs' ∧ m + 1 ≤ n ∧ r.Rd w cs' m
  | .str r, cs, n => ∃ (s : ByteArray) (cs' : List Value) (m : Nat), cs = .string s :: cs' ∧ m + (s.size + 1) ≤ n ∧ r.Rd w cs' m
  | .slice e r, cs, n => ∃ (v : Value) (els : List (List Value)) (cs' : List Value) (ns : List Nat) (m : Nat), cs = v :: cs' ∧ Sl e.len w v els ∧ ns.length = els.length ∧
      (∀ (i : Nat) (c : List Value) (k : Nat), els[i]? = some c → ns[i]? = some k → 1 ≤ k ∧ e.Rd w c k) ∧ m + (ns.sum + 1) ≤ n ∧ r.Rd w cs' m

theorem Shs.app_len : ∀ a b : Shs, (a.app b).len = a.len + b.len
  | .nil, b => by simp [Shs.app, Shs.len]
  | .int k r, b => by simp only [Shs.app, Shs.len, Shs.app_len r b]; omega
  | .bool r, b => by simp only [Shs.app, Shs.len, Shs.app_len r b]; omega
  | .str r, b => by simp only [Shs.app, Shs.len, Shs.app_len r b]; omega
  | .slice e r, b => by simp only [Shs.app, Shs.len, Shs.app_len r b]; omega
section
variable {w : World}
theorem Shs.Rd.len : ∀ {s : Shs} {cs : List Value} {n : Nat}, s.Rd w cs n → cs.length = s.len
  | .nil, cs, n, h => by cases h; rfl
  | .int k r, cs, n, ⟨i, cs', m, h1, _, _, h3⟩ => by subst h1; simp [Shs.len, Shs.Rd.len h3]
  | .bool r, cs, n, ⟨i, cs', m, h1, _, h3⟩ => by subst h1; simp [Shs.len, Shs.Rd.len h3]
  | .str r, cs, n, ⟨i, cs', m, h1, _, h3⟩ => by subst h1; simp [Shs.len, Shs.Rd.len h3]
  | .slice e r, cs, n, ⟨v, els, cs', ns, m, h1, _, _, _, _, h3⟩ => by subst h1; simp [Shs.len, Shs.Rd.len h3]
theorem Shs.Rd.mono : ∀ {s : Shs} {cs : List Value} {n n' : Nat}, s.Rd w cs n → n ≤ n' → s.Rd w cs n'
  | .nil, cs, n, n', h, _ => h
  | .int k r, cs, n, n', ⟨i, cs', m, h1, h0, h2, h3⟩, h => ⟨i, cs', m, h1, h0, by omega, h3⟩
  | .bool r, cs, n, n', ⟨i, cs', m, h1, h2, h3⟩, h => ⟨i, cs', m, h1, by omega, h3⟩
  | .str r, cs, n, n', ⟨i, cs', m, h1, h2, h3⟩, h => ⟨i, cs', m, h1, by omega, h3⟩
  | .slice e r, cs, n, n', ⟨v, els, cs', ns, m, h1, h2, h3, h4, h5, h6⟩, h => ⟨v, els, cs', ns, m, h1, h2, h3, h4, by omega, h6⟩
theorem Shs.Rd.app : ∀ {a b : Shs} {cs ds : List Value} {n k : Nat}, a.Rd w cs n → b.Rd w ds k → (a.app b).Rd w (cs ++ ds) (n + k)
  | .nil, b, cs, ds, n, k, h, h' => by cases h; exact h'.mono (by omega)
  | .int _ r, b, cs, ds, n, k, ⟨i, cs', m, h1, h0, h2, h3⟩, h' => ⟨i, cs' ++ ds, m + k, by rw [h1]; rfl, h0, by omega, h3.app h'⟩
  | .bool r, b, cs, ds, n, k, ⟨i, cs', m, h1, h2, h3⟩, h' => ⟨i, cs' ++ ds, m + k, by rw [h1]; rfl, by omega, h3.app h'⟩
  | .str r, b, cs, ds, n, k, ⟨i, cs', m, h1, h2, h3⟩, h' => ⟨i, cs' ++ ds, m + k, by rw [h1]; rfl, by omega, h3.app h'⟩
  | .slice e r, b, cs, ds, n, k, ⟨v, els, cs', ns, m, h1, h2, h3, h4, h5, h6⟩, h' => ⟨v, els, cs' ++ ds, ns, m + k, by rw [h1]; rfl, h2, h3, h4, by omega, h6.app h'⟩
end

theorem bulkT_one {H : Type} (d : DataW H) : 1 ≤ Rows.uptoBulk d := by
  cases d with
  | lit l => cases l <;> simp [Rows.uptoBulk]
  | nil => simp [Rows.uptoBulk]
  | ptr d => simp [Rows.uptoBulk]
  | slice elems spare => simp [Rows.uptoBulk]
  | agg parts => simp [Rows.uptoBulk]
  | iface t d => simp [Rows.uptoBulk]
  | map entries => simp [Rows.uptoBulk]
  | held h => simp [Rows.uptoBulk]
theorem bulkT_sum {H : Type} : ∀ l : List (DataW H), (l.map Rows.uptoBulk).sum = Rows.uptoBulkAll l
  | [] => by simp [Rows.uptoBulkAll]
  | x :: r => by simp [Rows.uptoBulkAll, bulkT_sum r]

theorem take_of_len {l : List Value} {c k : Nat} (h : (l.take c).length = k) : l.take c = l.take k := by
  rw [List.length_take] at h
  have : l.take k = (l.take c).take k := by
    rw [List.take_take]
    by_cases hc : k ≤ c
    · rw [Nat.min_eq_left hc]
    · omega
  exact (this.trans (List.take_of_length_le (by rw [List.length_take]; omega))).symm

section
variable {H : Type} {enc : TypeId × Value → H} {P : Program} {w : World}
theorem rd_fields {sh : TypeId → Option Shs} {n : Nat} (ih : ∀ t s cs x, sh t = some s → DataW.trod enc P w 0 (fun _ => true) true n t cs = some x → s.Rd w cs (Rows.uptoBulk x.1)) (cs : List Value) :
    ∀ (fs : List Field) (off : Nat) (s : Shs) (xs : List (DataW H × List MemPlace)), shFields sh fs off = some s → xs.length = fs.length →
      (∀ (i : Nat) (f : Field), fs[i]? = some f → DataW.trod enc P w 0 (fun _ => true) true n f.type ((cs.drop f.offset).take (P.cellsOf f.type)) = xs[i]?) →
      s.Rd w ((cs.drop off).take s.len) (Rows.uptoBulkAll (xs.map (·.1)))
  | [], off, s, xs, h, _, _ => by
    cases h
    simp [Shs.len, Shs.Rd]
  | f :: fs, off, s, xs, h, hl, hf => by
    cases xs with
    | nil => simp at hl
    | cons x xs =>
      unfold shFields at h
      split at h
      · rename_i hoff
        cases h1 : sh f.type with
        | none => simp [h1] at h
        | some a =>
          simp only [h1] at h
          cases h2 : shFields sh fs (off + a.len) with
          | none => simp [h2] at h
          | some r =>
            simp only [h2, Option.some.injEq] at h
            subst h
            have e0 := hf 0 f rfl
            rw [List.getElem?_cons_zero] at e0
            have r0 := ih _ _ _ _ h1 e0
            have hlen := r0.len
            rw [take_of_len hlen, hoff] at r0
            have r1 := rd_fields ih cs fs (off + a.len) r xs h2 (by simpa using hl) fun i g hg => by
              have := hf (i + 1) g (by simpa using hg)
              simpa using this
            have := r0.app r1
            rw [Shs.app_len, List.take_add, List.drop_drop]
            simp only [List.map_cons, Rows.uptoBulkAll]
            exact this
      · cases h
/-- What is read is of its type's shape. -/
theorem rd_of_trod : ∀ (n : Nat) (t : TypeId) (s : Shs) (fuel : Nat) (cs : List Value) (x : DataW H × List MemPlace), shOf P n t = some s → DataW.trod enc P w 0 (fun _ => true) true fuel t cs = some x → s.Rd w cs (Rows.uptoBulk x.1)
  | 0, t, s, fuel, cs, x, h, _ => by cases h
  | n + 1, t, s, fuel, cs, x, h, hx => by
    unfold shOf at h
    split at h
    · rename_i k hu
      cases h
      obtain ⟨i, rfl, rfl, hr⟩ := DataW.trod_int hu hx
      exact ⟨i, [], 0, rfl, hr, bulkT_one _, rfl⟩
    · rename_i hu
      cases h
      obtain ⟨i, rfl, rfl⟩ := DataW.trod_bool hu hx
      exact ⟨i, [], 0, rfl, bulkT_one _, rfl⟩
    · rename_i hu
      cases h
      obtain ⟨i, rfl, rfl, _⟩ := DataW.trod_string hu hx
      refine ⟨i, [], 0, rfl, ?_, rfl⟩
      simp only [Rows.uptoBulk, Array.length_toList, Nat.zero_add]
      exact Nat.le_refl _
    · rename_i e hu
      cases h1 : shOf P n e with
      | none => simp [h1] at h
      | some a =>
        simp only [h1] at h
        split at h
        · rename_i hc
          cases h
          obtain ⟨v, els, rfl, hs, hcase⟩ := open_sl hu hc.2 hc.1 hx
          rcases hcase with ⟨hn, rfl⟩ | ⟨Ds, spare, hd, hl, hel⟩
          · refine ⟨v, [], [], [], 0, rfl, hs, rfl, fun i c k hi => by simp at hi, ?_, rfl⟩
            rw [hn]; simp [Rows.uptoBulk]
          · refine ⟨v, els, [], Ds.map Rows.uptoBulk, 0, rfl, hs, by simpa using hl, fun i c k hi hk => ?_, ?_, rfl⟩
            · rw [List.getElem?_map] at hk
              cases hd' : Ds[i]? with
              | none => simp [hd'] at hk
              | some d =>
                simp only [hd', Option.map_some, Option.some.injEq] at hk
                subst hk
                obtain ⟨m, ps, hm⟩ := hel i c d hi hd'
                exact ⟨bulkT_one d, rd_of_trod n e a m c (d, ps) h1 hm⟩
            · rw [hd, bulkT_sum]; simp only [Rows.uptoBulk]; omega
        · cases h
    · rename_i fs hu
      cases h1 : shFields (shOf P n) fs.toList 0 with
      | none => simp [h1] at h
      | some a =>
        simp only [h1] at h
        split at h
        · rename_i hc
          cases h
          obtain ⟨xs, m, _, rfl, hl, hxl, hf⟩ := DataW.trod_struct hu hx
          have := rd_fields (sh := shOf P n) (n := m) (fun t s cs x h h' => rd_of_trod n t s m cs x h h') cs fs.toList 0 s xs h1 (by simpa using hxl) fun i f hi => hf i f (by simpa using hi)
          rw [List.drop_zero, List.take_of_length_le (by omega)] at this
          refine this.mono ?_
          simp only [Rows.uptoBulk]; omega
        · cases h
    · cases h
end
/-- Elements each of which is a row of this kind. -/
theorem els_map {T : Type} {f : T → List Value} : ∀ {els : List (List Value)}, (∀ c ∈ els, ∃ a : T, c = f a) → ∃ l : List T, els = l.map f
  | [], _ => ⟨[], rfl⟩
  | c :: els, h => by
    obtain ⟨a, ha⟩ := h c (by simp)
    obtain ⟨l, hl⟩ := els_map (els := els) fun c hc => h c (by simp [hc])
    exact ⟨a :: l, by rw [ha, hl]; rfl⟩
theorem le_sum_of_mem : ∀ {l : List Nat} {k : Nat}, k ∈ l → k ≤ l.sum
  | x :: l, k, h => by
    rcases List.mem_cons.1 h with rfl | h
    · simp
    · have := le_sum_of_mem h; simp; omega
/-- A slice of such elements. -/
theorem Shs.Rd.slice1 {T : Type} {f : T → List Value} {w : World} {e : Shs} {v : Value} {n : Nat} (h : (Shs.slice e .nil).Rd w [v] n) (hf : ∀ c k, k ≤ n → e.Rd w c k → ∃ a : T, c = f a) :
    ∃ l : List T, Sl e.len w v (l.map f) ∧ l.length ≤ n := by
  obtain ⟨v', els, cs', ns, m, h1, h2, h3, h4, h5, h6⟩ := h
  cases h1
  obtain ⟨l, rfl⟩ := els_map (f := f) (els := els) fun c hc => by
    obtain ⟨i, hi⟩ := List.getElem?_of_mem hc
    have hil : i < ns.length := by have := (List.getElem?_eq_some_iff.1 hi).1; omega
    have := le_sum_of_mem (List.getElem_mem hil)
    exact hf c _ (by omega) (h4 i c _ hi (List.getElem?_eq_getElem hil)).2
  refine ⟨l, h2, ?_⟩
  have : ∀ (els : List (List Value)) (ns : List Nat), ns.length = els.length → (∀ (i : Nat) (c : List Value) (k : Nat), els[i]? = some c → ns[i]? = some k → 1 ≤ k) → els.length ≤ ns.sum := by
    intro els
    induction els with
    | nil => intro ns _ _; simp
    | cons c els ih =>
      intro ns hl hn
      cases ns with
      | nil => simp at hl
      | cons k ns =>
        have := ih ns (by simpa using hl) fun i c k hi hk => hn (i + 1) c k (by simpa using hi) (by simpa using hk)
        have := hn 0 c k rfl rfl
        simp; omega
  have := this _ ns h3 fun i c k hi hk => (h4 i c k hi hk).1
  simp at this
  omega
end Go.Proofs.YthlpfhjcdedhgaaDoor
