/-
  Layer 21 (export), part U: ExportWhole: what is read of a table and of acts.
-/
import Derived.Test.YtiggkhmopnhfaaaExportT
import Derived.Test.YtiggkhmopnhfaaaExportL
namespace Go.Proofs.Ytiggkhmopnhfaaa
open Go.Lift
set_option linter.unusedSimpArgs false

theorem und96 : Try.prog.underlying 96 = some (.struct (fsOf 96)) := by kernel_rfl
theorem und81 : Try.prog.underlying 81 = some (.struct (fsOf 81)) := by kernel_rfl
theorem und61 : Try.prog.underlying 61 = some (.struct (fsOf 61)) := by kernel_rfl
theorem und53 : Try.prog.underlying 53 = some (.slice 96) := by kernel_rfl
theorem und46 : Try.prog.underlying 46 = some (.slice 81) := by kernel_rfl
theorem und54 : Try.prog.underlying 54 = some (.slice 61) := by kernel_rfl
theorem cells96 : Try.prog.cellsOf 96 = 1 := by kernel_rfl
theorem cells81 : Try.prog.cellsOf 81 = 2 := by kernel_rfl
theorem cells61 : Try.prog.cellsOf 61 = 4 := by kernel_rfl
theorem cells46 : Try.prog.cellsOf 46 = 1 := by kernel_rfl
theorem fs96 : ((fsOf 96).toList.map fun f => (f.type, f.offset)) = [(46, 0)] := by kernel_rfl
theorem fs81 : ((fsOf 81).toList.map fun f => (f.type, f.offset)) = [(9, 0), (9, 1)] := by kernel_rfl
theorem fs61 : ((fsOf 61).toList.map fun f => (f.type, f.offset)) = [(3, 0), (3, 1), (3, 2), (28, 3)] := by kernel_rfl
theorem len1 {α : Type} : ∀ {l : List α}, l.length = 1 → ∃ a, l = [a]
  | [a], _ => ⟨a, rfl⟩
theorem len4 {α : Type} : ∀ {l : List α}, l.length = 4 → ∃ a b c d, l = [a, b, c, d]
  | [a, b, c, d], _ => ⟨a, b, c, d, rfl⟩

section
variable {H : Type} {enc : TypeId × Value → H} {w : World}
theorem read_pair {fuel : Nat} {cs : List Value} {x : DataW H × List MemPlace} (h : DataW.trod enc Try.prog w 0 (fun _ => true) true fuel 81 cs = some x) : ∃ s s' : ByteArray, cs = [.string s, .string s'] := by
  obtain ⟨hl, xs, n, hx, hxl, hf⟩ := read_fields und81 fs81 h
  rw [cells81] at hl
  obtain ⟨c0, c1, rfl⟩ := len2 hl
  obtain ⟨y0, _, e0⟩ := hf 0 _ rfl
  obtain ⟨s0, hs0, _⟩ := DataW.trod_string und9 e0
  obtain ⟨y1, _, e1⟩ := hf 1 _ rfl
  obtain ⟨s1, hs1, _⟩ := DataW.trod_string und9 e1
  rw [cells9] at hs0 hs1
  obtain rfl : c0 = .string s0 := by simpa using hs0
  obtain rfl : c1 = .string s1 := by simpa using hs1
  exact ⟨s0, s1, rfl⟩
theorem read_pairs {fuel : Nat} {cs : List Value} {x : DataW H × List MemPlace} (h : DataW.trod enc Try.prog w 0 (fun _ => true) true fuel 46 cs = some x) :
    ∃ (pv : Value) (l : List Pr), cs = [pv] ∧ Sl 2 w pv (elP l) ∧ ∀ p ∈ l, ∃ s s' : ByteArray, p = (.string s, .string s') := by
  obtain ⟨pv, els, rfl, hs, hcase⟩ := open_sl und46 cells81 (by decide) h
  rcases hcase with ⟨hx, rfl⟩ | ⟨Ds, sp, hx, hDl, hD⟩
  · exact ⟨pv, [], rfl, hs, by simp⟩
  · have : ∀ c ∈ els, ∃ s s' : ByteArray, c = [.string s, .string s'] := by
      intro c hc
      obtain ⟨i, hi⟩ := List.getElem?_of_mem hc
      have hil := (List.getElem?_eq_some_iff.1 hi).1
      obtain ⟨m, ps, hm⟩ := hD i c _ hi (List.getElem?_eq_getElem (by omega))
      exact read_pair hm
    have hops : ∃ l : List Pr, els = elP l ∧ ∀ p ∈ l, ∃ s s' : ByteArray, p = (.string s, .string s') := by
      clear hD hDl hs
      induction els with
      | nil => exact ⟨[], rfl, by simp⟩
      | cons c els ih =>
        obtain ⟨l, hl, hlf⟩ := ih fun c hc => this c (by simp [hc])
        obtain ⟨s, s', ho⟩ := this c (by simp)
        refine ⟨(.string s, .string s') :: l, by simp [elP, ho, hl], fun p hp => ?_⟩
        rcases List.mem_cons.1 hp with rfl | hp
        · exact ⟨s, s', rfl⟩
        · exact hlf p hp
    obtain ⟨l, rfl, hfine⟩ := hops
    exact ⟨pv, l, rfl, hs, hfine⟩
theorem read_row {fuel : Nat} {cs : List Value} {x : DataW H × List MemPlace} (h : DataW.trod enc Try.prog w 0 (fun _ => true) true fuel 96 cs = some x) :
    ∃ (pv : Value) (l : List Pr), cs = [pv] ∧ Sl 2 w pv (elP l) ∧ ∀ p ∈ l, ∃ s s' : ByteArray, p = (.string s, .string s') := by
  obtain ⟨hl, xs, n, hx, hxl, hf⟩ := read_fields und96 fs96 h
  rw [cells96] at hl
  obtain ⟨c0, rfl⟩ := len1 hl
  obtain ⟨y0, _, e0⟩ := hf 0 _ rfl
  rw [cells46] at e0
  exact read_pairs e0
theorem read_table {fuel : Nat} {cs : List Value} {x : DataW H × List MemPlace} (h : DataW.trod enc Try.prog w 0 (fun _ => true) true fuel 53 cs = some x) (hb : Rows.uptoBulk x.1 ≤ 1048576) :
    ∃ (tv : Value) (tb : List (List Pr)), cs = [tv] ∧ Tab w tv tb := by
  obtain ⟨tv, els, rfl, hs, hcase⟩ := open_sl und53 cells96 (by decide) h
  rcases hcase with ⟨hx, rfl⟩ | ⟨Ds, sp, hx, hDl, hD⟩
  · exact ⟨tv, [], rfl, ⟨[], rfl, hs, fun i p l hi => by simp at hi⟩, by simp, by simp⟩
  · have hlen : els.length ≤ 1048576 := by
      rw [hx] at hb
      have := bulk_length Ds
      simp only [Rows.uptoBulk] at hb
      omega
    have : ∀ c ∈ els, ∃ (pv : Value) (l : List Pr), c = [pv] ∧ Sl 2 w pv (elP l) ∧ ∀ p ∈ l, ∃ s s' : ByteArray, p = (.string s, .string s') := by
      intro c hc
      obtain ⟨i, hi⟩ := List.getElem?_of_mem hc
      have hil := (List.getElem?_eq_some_iff.1 hi).1
      obtain ⟨m, ps, hm⟩ := hD i c _ hi (List.getElem?_eq_getElem (by omega))
      exact read_row hm
    have hops : ∃ (pvs : List Value) (tb : List (List Pr)), els = pvs.map (fun p => [p]) ∧ pvs.length = tb.length ∧ (∀ (i : Nat) (p : Value) (l : List Pr), pvs[i]? = some p → tb[i]? = some l → Sl 2 w p (elP l)) ∧ ∀ l ∈ tb, ∀ p ∈ l, ∃ s s' : ByteArray, p = (.string s, .string s') := by
      clear hD hDl hs hlen
      induction els with
      | nil => exact ⟨[], [], rfl, rfl, fun i p l hi => by simp at hi, by simp⟩
      | cons c els ih =>
        obtain ⟨pvs, tb, h1, h2, h3, h4⟩ := ih fun c hc => this c (by simp [hc])
        obtain ⟨pv, l, ho, hsl, hst⟩ := this c (by simp)
        refine ⟨pv :: pvs, l :: tb, by simp [ho, h1], by simp [h2], fun i p l' hi hl => ?_, fun l' hl' => ?_⟩
        · cases i with
          | zero =>
            simp at hi hl
            subst hi; subst hl
            exact hsl
          | succ i =>
            simp at hi hl
            exact h3 i p l' hi hl
        · rcases List.mem_cons.1 hl' with rfl | hl'
          · exact hst
          · exact h4 l' hl'
    obtain ⟨pvs, tb, rfl, h2, h3, h4⟩ := hops
    exact ⟨tv, tb, rfl, ⟨pvs, h2, hs, h3⟩, h4, by rw [← h2]; simpa using hlen⟩
theorem read_act {fuel : Nat} {cs : List Value} {x : DataW H × List MemPlace} (h : DataW.trod enc Try.prog w 0 (fun _ => true) true fuel 61 cs = some x) : ∃ a : Act, cs = a.cells := by
  obtain ⟨hl, xs, n, hx, hxl, hf⟩ := read_fields und61 fs61 h
  rw [cells61] at hl
  obtain ⟨c0, c1, c2, c3, rfl⟩ := len4 hl
  obtain ⟨y0, _, e0⟩ := hf 0 _ rfl
  obtain ⟨z0, hz0, _⟩ := DataW.trod_int und3 e0
  obtain ⟨y1, _, e1⟩ := hf 1 _ rfl
  obtain ⟨z1, hz1, _⟩ := DataW.trod_int und3 e1
  obtain ⟨y2, _, e2⟩ := hf 2 _ rfl
  obtain ⟨z2, hz2, _⟩ := DataW.trod_int und3 e2
  obtain ⟨y3, _, e3⟩ := hf 3 _ rfl
  obtain ⟨z3, hz3, _⟩ := DataW.trod_int undE e3
  rw [cells3] at hz0 hz1 hz2
  rw [cellsE] at hz3
  obtain rfl : c0 = .int .i64 z0 := by simpa using hz0
  obtain rfl : c1 = .int .i64 z1 := by simpa using hz1
  obtain rfl : c2 = .int .i64 z2 := by simpa using hz2
  obtain rfl : c3 = .int .i64 z3 := by simpa using hz3
  exact ⟨⟨z0, z1, z2, z3⟩, rfl⟩
theorem read_acts {fuel : Nat} {cs : List Value} {x : DataW H × List MemPlace} (h : DataW.trod enc Try.prog w 0 (fun _ => true) true fuel 54 cs = some x) :
    ∃ (sv : Value) (acts : List Act), cs = [sv] ∧ Sl 4 w sv (elA acts) := by
  obtain ⟨sv, els, rfl, hs, hcase⟩ := open_sl und54 cells61 (by decide) h
  rcases hcase with ⟨hx, rfl⟩ | ⟨Ds, sp, hx, hDl, hD⟩
  · exact ⟨sv, [], rfl, hs⟩
  · have : ∀ c ∈ els, ∃ a : Act, c = a.cells := by
      intro c hc
      obtain ⟨i, hi⟩ := List.getElem?_of_mem hc
      have hil := (List.getElem?_eq_some_iff.1 hi).1
      obtain ⟨m, ps, hm⟩ := hD i c _ hi (List.getElem?_eq_getElem (by omega))
      exact read_act hm
    have hops : ∃ acts : List Act, els = elA acts := by
      clear hD hDl hs
      induction els with
      | nil => exact ⟨[], rfl⟩
      | cons c els ih =>
        obtain ⟨l, hl⟩ := ih fun c hc => this c (by simp [hc])
        obtain ⟨a, ho⟩ := this c (by simp)
        exact ⟨a :: l, by simp [elA, ho, hl]⟩
    obtain ⟨acts, rfl⟩ := hops
    exact ⟨sv, acts, rfl, hs⟩
end

end Go.Proofs.Ytiggkhmopnhfaaa
