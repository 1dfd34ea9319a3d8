/-
  Layer 1 (disk), part U: DiskReplace, of what is read.
-/
import Derived.Test.YtojnickeblbgoaaDoorDiskT
import Derived.Shelf.Vars
import Derived.WalkKit
import Derived.ProofKit
import Derived.LaidLaws
namespace Go.Proofs.YtojnickeblbgoaaDoor
open Go.Lift
set_option linter.unusedSimpArgs false
/-- What the library's own variable (the block 0) holds: some number. -/
theorem ml_of {W : World} (h : W.ShapedOpen Tryd.prog) : ∃ m : Int, bk W 0 = some [.int .i64 m] := by
  obtain ⟨cs, hh, hs, _⟩ := h.1 0 #[.int .i64 0] 3 (of_decide_eq_true (by kernel_rfl)) (by kernel_rfl)
  obtain ⟨m, hm⟩ := cell_of_shapedOpen_int (P := Tryd.prog) (g := 0) (t := 3) (zero := #[.int .i64 0]) h (of_decide_eq_true (by kernel_rfl)) (by kernel_rfl) rfl (by kernel_rfl) (by kernel_rfl) (show Tryd.prog.underlying 3 = some (.int .i64) by kernel_rfl)
  refine ⟨m, ?_⟩
  unfold World.cell? at hm
  rw [hh] at hm
  simp at hm
  unfold bk
  rw [hh]
  have h1 : cs.size = 1 := hs
  obtain ⟨x, rfl⟩ : ∃ x, cs = #[x] := by
    obtain ⟨l⟩ := cs
    match l, h1 with
    | [x], _ => exact ⟨x, rfl⟩
  simp at hm
  rw [hm]
theorem rd_cut {w : World} {c : List Value} {k : Nat} (h : (Shs.str (.int .i64 (.int .i64 (.int .i64 .nil)))).Rd w c k) : ∃ a : Cut, c = a.cells ∧ a.data.size + 1 ≤ k ∧ a.k < 9223372036854775808 := by
  obtain ⟨s, c1, m1, rfl, h1, i, c2, m2, rfl, wi, h2, j, c3, m3, rfl, wj, h3, l, c4, m4, rfl, wl, h4, h5⟩ := h
  cases h5
  refine ⟨⟨s, i, j, l⟩, rfl, by simp only; omega, ?_⟩
  have hmax : IntKind.i64.max = 9223372036854775807 := by decide
  simp only [Lit.wf, Bool.and_eq_true, decide_eq_true_eq, hmax] at wi
  simp only
  omega
theorem rd_cuts {w : World} {v : Value} {n : Nat} (h : (Shs.slice (.str (.int .i64 (.int .i64 (.int .i64 .nil)))) .nil).Rd w [v] n) (hn : n ≤ 1048576) : ∃ cuts : List Cut, Sl 4 w v (cuts.map Cut.cells) ∧ (∀ c ∈ cuts, c.ok) ∧ cuts.length ≤ 1048576 := by
  obtain ⟨l, h1, h2⟩ := h.slice1 (T := { c : Cut // c.ok }) (f := fun c => c.1.cells) fun c k hk hc => by
    obtain ⟨a, rfl, a1, a2⟩ := rd_cut hc
    exact ⟨⟨a, by omega, a2⟩, rfl⟩
  refine ⟨l.map (·.1), ?_, ?_, by rw [List.length_map]; omega⟩
  · rw [List.map_map]
    exact h1
  · intro c hc
    obtain ⟨x, _, rfl⟩ := List.mem_map.1 hc
    exact x.2
theorem diskReplace_top {W : World} {n0 : Nat} (s : ByteArray) (h : s.size + 1 ≤ n0) {v : Value} {n : Nat} (hv : (Shs.slice (.str (.int .i64 (.int .i64 (.int .i64 .nil)))) .nil).Rd W [v] n) (hk : n0 + n ≤ 1048576) (_hL : laidMetH Tryd.prog Rows.diskReplaceUptoRow.laid W) (hsh : W.ShapedOpen Tryd.prog) :
    Run (F.granarylaw1_DiskReplace (.string s) v) W fun r w' => r = .bool true ∧ Fr (fun _ => False) W w' := by
  obtain ⟨cuts, h1, h2, h3⟩ := rd_cuts hv (by omega)
  exact replace_walk (ml_of hsh) (by omega) h1 h2 h3
end Go.Proofs.YtojnickeblbgoaaDoor
