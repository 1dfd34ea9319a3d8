/-
  ExportEnds: behind any script an export to which nothing comes any more ends within P x Replicas x GetWait ticks; and one to which nothing ever came goes on for just so many, asks each owner of each partition once and tells all partitions as missing.
  For every input whose reading is of bulk at most 1048576.
-/
import Derived.Test.YtiggkhmopnhfaaaExportL
namespace Go.Proofs.Ytiggkhmopnhfaaa.exportEnds
open Go.Lift Go.ChangeShapes Go.WideShapes Go.ChangeAt Go.RowKit
set_option linter.unusedVariables false

theorem own : ownKnob Try.prog.godebug = none := by kernel_rfl
theorem params3 : Try.f3.params = #[24, 25] := by kernel_rfl
theorem results3 : Try.f3.resultTypes = #[4] := by kernel_rfl
theorem und4 : Try.prog.underlying 4 = some .bool := by kernel_rfl
theorem laid : laidOutB Try.prog = true := by kernel_rfl
theorem rec24 : Try.prog.readableRec 24 = true := by kernel_rfl
theorem rec25 : Try.prog.readableRec 25 = true := by kernel_rfl
theorem size24 : (decide (24 < Try.prog.types.size)) = true := by kernel_rfl
theorem size25 : (decide (25 < Try.prog.types.size)) = true := by kernel_rfl

theorem contract (H : Type) (enc : TypeId × Value → H) (W : World) (base : Nat) (args : Array Value) (ds gs : List (DataW H)) (before : List MemPlace)
    (hval : ∀ (j : Nat) t v, Try.f3.params[j]? = some t → args[j]? = some v → Value.okWide Try.prog W .any base t v)
    (hW : DataW.Whole enc Try.prog Try.f3.params.toList Rows.exportEndsSpec.vars false W args.toList ds gs before) (hk : Rows.uptoSmall H (ds ++ gs) = true) :
    Calls Try.prog 3 args W fun e W' => ∃ v, e = .returned v ∧ Rows.exportEndsSpec.post enc Try.prog Try.f3 false true false false W args v W' := by
  have hW' := hW
  obtain ⟨p, q, hA0, hV, rfl, hfz, hnd⟩ := hW
  have hA : DataW.TrodAll enc Try.prog W 0 (fun _ => true) true Try.f3.params.toList args.toList ds p := hA0
  rw [params3] at hA hval
  obtain ⟨v0, vs0, d0, ds0, p0, q0, hargs, rfl, rfl, h0, r0⟩ := trodAll_cons hA
  obtain ⟨v1, vs1, d1, ds1, p1, q1, rfl, rfl, rfl, h1, r1⟩ := trodAll_cons r0
  obtain ⟨rfl, rfl, rfl⟩ := trodAll_nil r1
  obtain rfl : args = #[v0, v1] := by cases args; simp_all
  obtain ⟨rfl, rfl⟩ := trodVars_none hV
  have hlt0 := DataW.TrodAll.lt hA
  obtain ⟨f0, h0'⟩ := h0
  obtain ⟨f1, h1'⟩ := h1
  obtain ⟨C, nv, pvs, hC, hN, hb1, hb2⟩ := read_cluster h0'
  obtain ⟨sv, ops, hS, hs, hfine, hol⟩ := read_ops h1'
  have ok0 := hval 0 24 v0 rfl rfl
  have ok1 := hval 1 25 v1 rfl rfl
  obtain rfl : v0 = C.val nv := by
    unfold Value.okWide at ok0
    rw [und24] at ok0
    obtain ⟨cs, rfl, _⟩ := ok0
    rw [cells_agg] at hC
    unfold Clu.val
    rw [← hC]
  obtain ⟨a, n, c, rfl⟩ := okWide_slice und25 ok1
  obtain rfl : Value.slice a n c = sv := by simpa using hS
  have hk' : Rows.uptoBulk d0 + (Rows.uptoBulk d1 + 0) ≤ 1048576 := by
    have : Rows.uptoBulkAll ([d0, d1] ++ []) ≤ 1048576 := by simpa [Rows.uptoSmall] using hk
    simpa [Rows.uptoBulkAll] using this
  simp only at hb1 hb2 hol
  have hF : Fits C := ⟨by omega, by omega⟩
  obtain ⟨r, W', hrun, rfl, fr⟩ := ends_run hN hF hs hfine (by omega)
  have hcall := LiftOk.calls (F.granarylaw21_ExportEnds.lift) (args := [C.val nv, Value.slice a n c]) Try.func3 (by kernel_rfl) (by kernel_rfl) hrun
  have hbel : Below W.heap.size W W' := ⟨fr.os, fr.tape, fr.output, fr.size, fun k hk => fr.block k hk id⟩
  refine hcall.mono fun e W'' ⟨he, hw⟩ => ?_
  subst hw
  refine ⟨_, he, [d0, d1], [], _, [], p0 ++ (p1 ++ []), [], hW', ?_, ?_, rfl, hbel.frame _, fun h => by cases h⟩
  · rw [results3]
    exact trodAll_cons_mk (shut_bool und4 true) trodAll_mk0
  · rw [params3]
    refine trodAll_cons_mk (Below.trod laid rec24 (of_decide_eq_true size24) ⟨f0, h0'⟩ hbel fun x hx => hlt0 x (by simp [hx])) ?_
    exact trodAll_cons_mk (Below.trod laid rec25 (of_decide_eq_true size25) ⟨f1, h1'⟩ hbel fun x hx => hlt0 x (by simp [hx])) trodAll_mk0

set_option maxRecDepth 100000 in
theorem lifted (os : Os) (started : os.Started) (H : Type) (enc : TypeId × Value → H) (F : Stop.Interp) :
    ReturnsInHanded {} Try.checked os 3 .any ((Rows.OpenSpec.upto Rows.exportEndsSpec).pre6 enc Try.prog Try.f3 Rows.exportEndsUptoRow.domain false) (((Rows.OpenSpec.upto Rows.exportEndsSpec).at F).post enc Try.prog Try.f3 false true false false) := by
  refine returnsInHanded_of_cond (C := Try.checked) (s := Rows.OpenSpec.upto Rows.exportEndsSpec) (k := Rows.uptoSmall) rfl own started (by kernel_rfl) Try.func3
    (OpenSpec.witness (enc := enc) (C := Try.checked) (s := Rows.OpenSpec.upto Rows.exportEndsSpec) (k := Rows.uptoSmall) rfl false ⟨#[], #[.agg #[.string ByteArray.empty, .int .i64 0, .int .i64 0, .int .i64 0, .int .i64 0, .int .i64 0, .int .i64 0, .int .i64 0, .int .i64 0, .int .i64 0, .int .i64 0, .int .i64 0, .int .i64 0, .int .i64 0, .int .i64 0, .int .i64 0, .int .i64 0, .int .i64 0, .int .i64 0, .int .i64 0, .int .i64 0, .int .i64 0, .slice none 0 0], .slice none 0 0], []⟩ 8 (by kernel_rfl) (by kernel_rfl) (by kernel_rfl)
      (x := ([.agg [.lit (.string []), .lit (.int .i64 0), .lit (.int .i64 0), .lit (.int .i64 0), .lit (.int .i64 0), .lit (.int .i64 0), .lit (.int .i64 0), .lit (.int .i64 0), .lit (.int .i64 0), .lit (.int .i64 0), .lit (.int .i64 0), .lit (.int .i64 0), .lit (.int .i64 0), .lit (.int .i64 0), .lit (.int .i64 0), .lit (.int .i64 0), .lit (.int .i64 0), .lit (.int .i64 0), .lit (.int .i64 0), .lit (.int .i64 0), .lit (.int .i64 0), .lit (.int .i64 0), .nil], .nil], [], [])) (by kernel_rfl) rfl (by kernel_rfl)) ?_
  intro W base args ds gs before hval hW _ hk _
  exact contract H enc W base args ds gs before hval hW hk

theorem over : Rows.exportEndsUptoRow.holds Try.pinned (Rows.OpenSpec.upto Rows.exportEndsSpec) :=
  OpenClaim.holds_of_cond 3 Try.f3 rfl rfl rfl rfl rfl rfl rfl ⟨rfl, rfl, rfl, rfl, rfl⟩ rfl rfl rfl rfl rfl (by kernel_rfl) Try.func3 (by kernel_rfl)
    (of_decide_eq_true (by kernel_rfl)) (by unfold Func.isWrapper; first | (rw [if_pos (by decide +kernel)]; kernel_rfl) | (rw [if_neg (by decide +kernel)]; exact ⟨rfl, rfl⟩))
    (fun os started H enc _ F => lifted os started H enc F)

end Go.Proofs.Ytiggkhmopnhfaaa.exportEnds
namespace Go.Proofs.Ytiggkhmopnhfaaa

theorem exportEnds_proved : Rows.ExportEndsUptoSaid :=
  exportEnds.over
end Go.Proofs.Ytiggkhmopnhfaaa
