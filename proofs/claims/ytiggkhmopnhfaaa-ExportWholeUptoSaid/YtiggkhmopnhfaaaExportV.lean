/-
  ExportWhole: whatever becomes of each question (answered, twice, late, behind an older answer, by an error, not at all), the export ends; of every partition that is not missing just its row's pairs are told, each once, in order; missing are just the partitions each of whose owners failed; the owners are asked in their order.
  For every input whose reading is of bulk at most 1048576.
-/
import Derived.Test.YtiggkhmopnhfaaaExportU
namespace Go.Proofs.Ytiggkhmopnhfaaa.exportWhole
open Go.Lift Go.ChangeShapes Go.WideShapes Go.ChangeAt Go.RowKit
set_option linter.unusedVariables false

theorem own : ownKnob Try.prog.godebug = none := by kernel_rfl
theorem params4 : Try.f4.params = #[24, 53, 3, 54] := by kernel_rfl
theorem results4 : Try.f4.resultTypes = #[4] := by kernel_rfl
theorem und4 : Try.prog.underlying 4 = some .bool := by kernel_rfl
theorem laid : laidOutB Try.prog = true := by kernel_rfl
theorem rec24 : Try.prog.readableRec 24 = true := by kernel_rfl
theorem rec53 : Try.prog.readableRec 53 = true := by kernel_rfl
theorem rec3 : Try.prog.readableRec 3 = true := by kernel_rfl
theorem rec54 : Try.prog.readableRec 54 = true := by kernel_rfl
theorem size24 : (decide (24 < Try.prog.types.size)) = true := by kernel_rfl
theorem size53 : (decide (53 < Try.prog.types.size)) = true := by kernel_rfl
theorem size3 : (decide (3 < Try.prog.types.size)) = true := by kernel_rfl
theorem size54 : (decide (54 < Try.prog.types.size)) = true := by kernel_rfl

theorem contract (H : Type) (enc : TypeId × Value → H) (W : World) (base : Nat) (args : Array Value) (ds gs : List (DataW H)) (before : List MemPlace)
    (hval : ∀ (j : Nat) t v, Try.f4.params[j]? = some t → args[j]? = some v → Value.okWide Try.prog W .any base t v)
    (hW : DataW.Whole enc Try.prog Try.f4.params.toList Rows.exportWholeSpec.vars false W args.toList ds gs before) (hk : Rows.uptoSmall H (ds ++ gs) = true) :
    Calls Try.prog 4 args W fun e W' => ∃ v, e = .returned v ∧ Rows.exportWholeSpec.post enc Try.prog Try.f4 false true false false W args v W' := by
  have hW' := hW
  obtain ⟨p, q, hA0, hV, rfl, hfz, hnd⟩ := hW
  have hA : DataW.TrodAll enc Try.prog W 0 (fun _ => true) true Try.f4.params.toList args.toList ds p := hA0
  rw [params4] at hA hval
  obtain ⟨v0, vs0, d0, ds0, p0, q0, hargs, rfl, rfl, h0, r0⟩ := trodAll_cons hA
  obtain ⟨v1, vs1, d1, ds1, p1, q1, rfl, rfl, rfl, h1, r1⟩ := trodAll_cons r0
  obtain ⟨v2, vs2, d2, ds2, p2, q2, rfl, rfl, rfl, h2, r2⟩ := trodAll_cons r1
  obtain ⟨v3, vs3, d3, ds3, p3, q3, rfl, rfl, rfl, h3, r3⟩ := trodAll_cons r2
  obtain ⟨rfl, rfl, rfl⟩ := trodAll_nil r3
  obtain rfl : args = #[v0, v1, v2, v3] := by cases args; simp_all
  obtain ⟨rfl, rfl⟩ := trodVars_none hV
  have hlt0 := DataW.TrodAll.lt hA
  obtain ⟨f0, h0'⟩ := h0
  obtain ⟨f1, h1'⟩ := h1
  obtain ⟨f2, h2'⟩ := h2
  obtain ⟨f3, h3'⟩ := h3
  have hk' : Rows.uptoBulk d0 + (Rows.uptoBulk d1 + (Rows.uptoBulk d2 + (Rows.uptoBulk d3 + 0))) ≤ 1048576 := by
    have : Rows.uptoBulkAll ([d0, d1, d2, d3] ++ []) ≤ 1048576 := by simpa [Rows.uptoSmall] using hk
    simpa [Rows.uptoBulkAll] using this
  obtain ⟨C, nv, pvs, hC, hN, hb1, hb2⟩ := read_cluster h0'
  obtain ⟨tv, tb, hTv, hT⟩ := read_table h1' (by simp only; omega)
  obtain ⟨z, hz, _⟩ := DataW.trod_int und3 h2'
  obtain ⟨sv, acts, hS, hs⟩ := read_acts h3'
  have ok0 := hval 0 24 v0 rfl rfl
  have ok1 := hval 1 53 v1 rfl rfl
  have ok2 := hval 2 3 v2 rfl rfl
  have ok3 := hval 3 54 v3 rfl rfl
  obtain rfl : v0 = C.val nv := by
    unfold Value.okWide at ok0
    rw [und24] at ok0
    obtain ⟨cs, rfl, _⟩ := ok0
    rw [cells_agg] at hC
    unfold Clu.val
    rw [← hC]
  obtain ⟨a1, n1, c1, rfl⟩ := okWide_slice und53 ok1
  obtain ⟨a3, n3, c3, rfl⟩ := okWide_slice und54 ok3
  obtain rfl : Value.slice a1 n1 c1 = tv := by simpa using hTv
  obtain rfl : Value.slice a3 n3 c3 = sv := by simpa using hS
  obtain ⟨z', rfl⟩ := okWide_int und3 ok2
  obtain rfl : z' = z := by simpa using hz
  simp only at hb1 hb2
  have hF : Fits C := ⟨by omega, by omega⟩
  obtain ⟨r, W', hrun, rfl, fr⟩ := whole_top hN hF hT hs z'
  have hcall := LiftOk.calls (F.granarylaw21_ExportWhole.lift) (args := [C.val nv, Value.slice a1 n1 c1, (.int .i64 z'), Value.slice a3 n3 c3]) Try.func4 (by kernel_rfl) (by kernel_rfl) hrun
  have hbel : Below W.heap.size W W' := ⟨fr.os, fr.tape, fr.output, fr.size, fun k hk => fr.block k hk id⟩
  refine hcall.mono fun e W'' ⟨he, hw⟩ => ?_
  subst hw
  refine ⟨_, he, [d0, d1, d2, d3], [], _, [], p0 ++ (p1 ++ (p2 ++ (p3 ++ []))), [], hW', ?_, ?_, rfl, hbel.frame _, fun h => by cases h⟩
  · rw [results4]
    exact trodAll_cons_mk (shut_bool und4 true) trodAll_mk0
  · rw [params4]
    refine trodAll_cons_mk (Below.trod laid rec24 (of_decide_eq_true size24) ⟨f0, h0'⟩ hbel fun x hx => hlt0 x (by simp [hx])) ?_
    refine trodAll_cons_mk (Below.trod laid rec53 (of_decide_eq_true size53) ⟨f1, h1'⟩ hbel fun x hx => hlt0 x (by simp [hx])) ?_
    refine trodAll_cons_mk (Below.trod laid rec3 (of_decide_eq_true size3) ⟨f2, h2'⟩ hbel fun x hx => hlt0 x (by simp [hx])) ?_
    exact trodAll_cons_mk (Below.trod laid rec54 (of_decide_eq_true size54) ⟨f3, h3'⟩ hbel fun x hx => hlt0 x (by simp [hx])) trodAll_mk0

set_option maxRecDepth 100000 in
theorem lifted (os : Os) (started : os.Started) (H : Type) (enc : TypeId × Value → H) (F : Stop.Interp) :
    ReturnsInHanded {} Try.checked os 4 .any ((Rows.OpenSpec.upto Rows.exportWholeSpec).pre6 enc Try.prog Try.f4 Rows.exportWholeUptoRow.domain false) (((Rows.OpenSpec.upto Rows.exportWholeSpec).at F).post enc Try.prog Try.f4 false true false false) := by
  refine returnsInHanded_of_cond (C := Try.checked) (s := Rows.OpenSpec.upto Rows.exportWholeSpec) (k := Rows.uptoSmall) rfl own started (by kernel_rfl) Try.func4
    (OpenSpec.witness (enc := enc) (C := Try.checked) (s := Rows.OpenSpec.upto Rows.exportWholeSpec) (k := Rows.uptoSmall) rfl false ⟨#[], #[.agg #[.string ByteArray.empty, .int .i64 0, .int .i64 0, .int .i64 0, .int .i64 0, .int .i64 0, .int .i64 0, .int .i64 0, .int .i64 0, .int .i64 0, .int .i64 0, .int .i64 0, .int .i64 0, .int .i64 0, .int .i64 0, .int .i64 0, .int .i64 0, .int .i64 0, .int .i64 0, .int .i64 0, .int .i64 0, .int .i64 0, .slice none 0 0], .slice none 0 0, .int .i64 0, .slice none 0 0], []⟩ 8 (by kernel_rfl) (by kernel_rfl) (by kernel_rfl)
      (x := ([.agg [.lit (.string []), .lit (.int .i64 0), .lit (.int .i64 0), .lit (.int .i64 0), .lit (.int .i64 0), .lit (.int .i64 0), .lit (.int .i64 0), .lit (.int .i64 0), .lit (.int .i64 0), .lit (.int .i64 0), .lit (.int .i64 0), .lit (.int .i64 0), .lit (.int .i64 0), .lit (.int .i64 0), .lit (.int .i64 0), .lit (.int .i64 0), .lit (.int .i64 0), .lit (.int .i64 0), .lit (.int .i64 0), .lit (.int .i64 0), .lit (.int .i64 0), .lit (.int .i64 0), .nil], .nil, .lit (.int .i64 0), .nil], [], [])) (by kernel_rfl) rfl (by kernel_rfl)) ?_
  intro W base args ds gs before hval hW _ hk _
  exact contract H enc W base args ds gs before hval hW hk

theorem over : Rows.exportWholeUptoRow.holds Try.pinned (Rows.OpenSpec.upto Rows.exportWholeSpec) :=
  OpenClaim.holds_of_cond 4 Try.f4 rfl rfl rfl rfl rfl rfl rfl ⟨rfl, rfl, rfl, rfl, rfl⟩ rfl rfl rfl rfl rfl (by kernel_rfl) Try.func4 (by kernel_rfl)
    (of_decide_eq_true (by kernel_rfl)) (by unfold Func.isWrapper; first | (rw [if_pos (by decide +kernel)]; kernel_rfl) | (rw [if_neg (by decide +kernel)]; exact ⟨rfl, rfl⟩))
    (fun os started H enc _ F => lifted os started H enc F)

end Go.Proofs.Ytiggkhmopnhfaaa.exportWhole
namespace Go.Proofs.Ytiggkhmopnhfaaa

theorem exportWhole_proved : Rows.ExportWholeUptoSaid :=
  exportWhole.over
end Go.Proofs.Ytiggkhmopnhfaaa
