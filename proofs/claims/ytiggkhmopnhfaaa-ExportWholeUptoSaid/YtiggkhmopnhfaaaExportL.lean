/-
  Layer 21 (export), part L: ExportEnds is true: a silent exporter ends in time, asks each owner once and tells all partitions as missing. For every input whose reading is of bulk at most 1048576.
-/
import Derived.Test.YtiggkhmopnhfaaaExportK
import Derived.WalkKit
import Derived.ProofKit
import Derived.OpenShut
import Derived.JoinedCond
import Derived.Carry
namespace Go.Proofs.Ytiggkhmopnhfaaa
open Go.Lift
set_option linter.unusedSimpArgs false

theorem und36 : Try.prog.underlying 36 = some (.struct (fsOf 36)) := by kernel_rfl
theorem und38 : Try.prog.underlying 38 = some (.struct (fsOf 38)) := by kernel_rfl
theorem und25 : Try.prog.underlying 25 = some (.slice 38) := by kernel_rfl
theorem undE : Try.prog.underlying 28 = some (.int .i64) := by kernel_rfl
theorem cellsE : Try.prog.cellsOf 28 = 1 := by kernel_rfl
theorem cells36 : Try.prog.cellsOf 36 = 11 := by kernel_rfl
theorem cells38 : Try.prog.cellsOf 38 = 14 := by kernel_rfl
theorem fs36 : ((fsOf 36).toList.map fun f => (f.type, f.offset)) = [(3, 0), (3, 1), (3, 2), (3, 3), (3, 4), (3, 5), (3, 6), (3, 7), (28, 8), (9, 9), (9, 10)] := by kernel_rfl
theorem fs38 : ((fsOf 38).toList.map fun f => (f.type, f.offset)) = [(3, 0), (3, 1), (3, 2), (36, 3)] := by kernel_rfl

section
variable {H : Type} {enc : TypeId × Value → H} {w : World}
theorem len11 {α : Type} : ∀ {l : List α}, l.length = 11 → ∃ a0 a1 a2 a3 a4 a5 a6 a7 a8 a9 a10, l = [a0, a1, a2, a3, a4, a5, a6, a7, a8, a9, a10]
  | [a0, a1, a2, a3, a4, a5, a6, a7, a8, a9, a10], _ => ⟨a0, a1, a2, a3, a4, a5, a6, a7, a8, a9, a10, rfl⟩
theorem len14 {α : Type} : ∀ {l : List α}, l.length = 14 → ∃ a0 a1 a2 a3 a4 a5 a6 a7 a8 a9 a10 a11 a12 a13, l = [a0, a1, a2, a3, a4, a5, a6, a7, a8, a9, a10, a11, a12, a13]
  | [a0, a1, a2, a3, a4, a5, a6, a7, a8, a9, a10, a11, a12, a13], _ => ⟨a0, a1, a2, a3, a4, a5, a6, a7, a8, a9, a10, a11, a12, a13, rfl⟩
theorem take_one {l : List Value} {i : Nat} {c : Value} (h : l[i]? = some c) : (l.drop i).take 1 = [c] := by
  obtain ⟨hlt, rfl⟩ := List.getElem?_eq_some_iff.1 h
  rw [List.drop_eq_getElem_cons hlt]
  rfl
theorem read_msg {fuel : Nat} {cs : List Value} {x : DataW H × List MemPlace} (h : DataW.trod enc Try.prog w 0 (fun _ => true) true fuel 36 cs = some x) : ∃ m : Ms, cs = m.cells ∧ m.fine := by
  obtain ⟨hl, xs, n, hx, hxl, hf⟩ := read_fields und36 fs36 h
  rw [cells36] at hl
  obtain ⟨c0, c1, c2, c3, c4, c5, c6, c7, c8, c9, c10, rfl⟩ := len11 hl
  have hint : ∀ (i : Nat) (c : Value), [(3, 0), (3, 1), (3, 2), (3, 3), (3, 4), (3, 5), (3, 6), (3, 7), (28, 8), (9, 9), (9, 10)][i]? = some (3, i) → [c0, c1, c2, c3, c4, c5, c6, c7, c8, c9, c10][i]? = some c → ∃ z : Int, c = .int .i64 z := by
    intro i c hi hc
    obtain ⟨y, _, e⟩ := hf i _ hi
    obtain ⟨z, hz, _⟩ := DataW.trod_int und3 e
    rw [cells3] at hz
    simp only at hz
    rw [take_one hc] at hz
    cases hz; exact ⟨z, rfl⟩
  obtain ⟨z0, rfl⟩ := hint 0 _ rfl rfl
  obtain ⟨z1, rfl⟩ := hint 1 _ rfl rfl
  obtain ⟨z2, rfl⟩ := hint 2 _ rfl rfl
  obtain ⟨z3, rfl⟩ := hint 3 _ rfl rfl
  obtain ⟨z4, rfl⟩ := hint 4 _ rfl rfl
  obtain ⟨z5, rfl⟩ := hint 5 _ rfl rfl
  obtain ⟨z6, rfl⟩ := hint 6 _ rfl rfl
  obtain ⟨z7, rfl⟩ := hint 7 _ rfl rfl
  obtain ⟨y8, _, e8⟩ := hf 8 _ rfl
  obtain ⟨z8, hz8, _⟩ := DataW.trod_int undE e8
  obtain ⟨y9, _, e9⟩ := hf 9 _ rfl
  obtain ⟨s9, hs9, _⟩ := DataW.trod_string und9 e9
  obtain ⟨y10, _, e10⟩ := hf 10 _ rfl
  obtain ⟨s10, hs10, _⟩ := DataW.trod_string und9 e10
  rw [cellsE] at hz8
  rw [cells9] at hs9 hs10
  obtain rfl : c8 = .int .i64 z8 := by simpa using hz8
  obtain rfl : c9 = .string s9 := by simpa using hs9
  obtain rfl : c10 = .string s10 := by simpa using hs10
  exact ⟨⟨z0, z1, z2, z3, z4, z5, z6, z7, z8, .string s9, .string s10⟩, rfl, isCell_string _, isCell_string _⟩
theorem read_op {fuel : Nat} {cs : List Value} {x : DataW H × List MemPlace} (h : DataW.trod enc Try.prog w 0 (fun _ => true) true fuel 38 cs = some x) : ∃ o : Op, cs = o.cells ∧ o.m.fine := by
  obtain ⟨hl, xs, n, hx, hxl, hf⟩ := read_fields und38 fs38 h
  rw [cells38] at hl
  obtain ⟨c0, c1, c2, c3, c4, c5, c6, c7, c8, c9, c10, c11, c12, c13, rfl⟩ := len14 hl
  obtain ⟨y0, _, e0⟩ := hf 0 _ rfl
  obtain ⟨z0, hz0, _⟩ := DataW.trod_int und3 e0
  obtain ⟨y1, _, e1⟩ := hf 1 _ rfl
  obtain ⟨z1, hz1, _⟩ := DataW.trod_int und3 e1
  obtain ⟨y2, _, e2⟩ := hf 2 _ rfl
  obtain ⟨z2, hz2, _⟩ := DataW.trod_int und3 e2
  obtain ⟨y3, _, e3⟩ := hf 3 _ rfl
  obtain ⟨m, hm, hfine⟩ := read_msg e3
  rw [cells3] at hz0 hz1 hz2
  rw [cells36] at hm
  obtain rfl : c0 = .int .i64 z0 := by simpa using hz0
  obtain rfl : c1 = .int .i64 z1 := by simpa using hz1
  obtain rfl : c2 = .int .i64 z2 := by simpa using hz2
  refine ⟨⟨z0, z1, z2, m⟩, ?_, hfine⟩
  have hm' : [c3, c4, c5, c6, c7, c8, c9, c10, c11, c12, c13] = m.cells := hm
  show _ = .int .i64 z0 :: .int .i64 z1 :: .int .i64 z2 :: m.cells
  rw [← hm']
theorem read_ops {fuel : Nat} {cs : List Value} {x : DataW H × List MemPlace} (h : DataW.trod enc Try.prog w 0 (fun _ => true) true fuel 25 cs = some x) :
    ∃ (sv : Value) (ops : List Op), cs = [sv] ∧ Sl 14 w sv (elO ops) ∧ (∀ o ∈ ops, o.m.fine) ∧ ops.length ≤ Rows.uptoBulk x.1 := by
  obtain ⟨sv, els, rfl, hs, hcase⟩ := open_sl und25 cells38 (by decide) h
  rcases hcase with ⟨hx, rfl⟩ | ⟨Ds, sp, hx, hDl, hD⟩
  · exact ⟨sv, [], rfl, hs, by simp, by simp⟩
  · have : ∀ c ∈ els, ∃ o : Op, c = o.cells ∧ o.m.fine := by
      intro c hc
      obtain ⟨i, hi⟩ := List.getElem?_of_mem hc
      have hil := (List.getElem?_eq_some_iff.1 hi).1
      obtain ⟨m, ps, hm⟩ := hD i c _ hi (List.getElem?_eq_getElem (by omega))
      exact read_op hm
    have hops : ∃ ops : List Op, els = elO ops ∧ ∀ o ∈ ops, o.m.fine := by
      clear hD hDl hs
      induction els with
      | nil => exact ⟨[], rfl, by simp⟩
      | cons c els ih =>
        obtain ⟨l, hl, hlf⟩ := ih fun c hc => this c (by simp [hc])
        obtain ⟨o, ho, hof⟩ := this c (by simp)
        refine ⟨o :: l, by simp [elO, ho, hl], fun p hp => ?_⟩
        rcases List.mem_cons.1 hp with rfl | hp
        · exact hof
        · exact hlf p hp
    obtain ⟨ops, rfl, hfine⟩ := hops
    refine ⟨sv, ops, rfl, hs, hfine, ?_⟩
    rw [hx]
    have := bulk_length Ds
    simp only [elO_len] at hDl
    simp only [Rows.uptoBulk]
    omega
end

end Go.Proofs.Ytiggkhmopnhfaaa
