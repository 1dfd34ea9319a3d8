/-
  ControlEnds (ControlEndsSaid): for every input the call returns true, and each argument reads behind the call as it read before.
-/
import Derived.Test.YtpiceodfdjihhaaCtlR
import Derived.Test.YtpiceodfdjihhaaLiftT
import Derived.WalkKit
import Derived.ProofKit
import Derived.OpenShut
import Derived.JoinedCond
import Derived.Carry
import Derived.LaidLaws
import Derived.Deep.DeepHandedRow
namespace Go.Proofs.Ytpiceodfdjihhaa.controlEnds
open Go.Lift Go.ChangeShapes Go.WideShapes Go.ChangeAt Go.RowKit
set_option linter.unusedVariables false

theorem own : ownKnob Try.prog.godebug = none := by kernel_rfl
theorem params : Try.f4.params = #[3, 23, 3, 3, 30] := by kernel_rfl
theorem results : Try.f4.resultTypes = #[4] := by kernel_rfl
theorem undR : Try.prog.underlying 4 = some .bool := by kernel_rfl
theorem laid : laidOutB Try.prog = true := by kernel_rfl
noncomputable def fsOf (t : TypeId) : Array Field := match Try.prog.underlying t with
  | some (.struct fs) => fs
  | _ => #[]
theorem und3 : Try.prog.underlying 3 = some (.int .i64) := by kernel_rfl
theorem rec3 : Try.prog.readableRec 3 = true := by kernel_rfl
theorem size3 : (decide (3 < Try.prog.types.size)) = true := by kernel_rfl
theorem und23 : Try.prog.underlying 23 = some (.struct (fsOf 23)) := by kernel_rfl
theorem rec23 : Try.prog.readableRec 23 = true := by kernel_rfl
theorem size23 : (decide (23 < Try.prog.types.size)) = true := by kernel_rfl
theorem sh23 : shOf Try.prog 9 23 = some (.int .i64 (.int .i64 (.int .i64 .nil))) := by kernel_rfl
theorem und30 : Try.prog.underlying 30 = some (.slice 44) := by kernel_rfl
theorem rec30 : Try.prog.readableRec 30 = true := by kernel_rfl
theorem size30 : (decide (30 < Try.prog.types.size)) = true := by kernel_rfl
theorem sh30 : shOf Try.prog 9 30 = some (.slice (.int .i64 (.int .i64 (.int .i64 (.int .i64 (.int .i64 (.int .i64 (.int .i64 (.int .i64 (.int .i64 (.str (.str .nil))))))))))) .nil) := by kernel_rfl

set_option maxRecDepth 100000 in
theorem contract (H : Type) (enc : TypeId × Value → H) (W : World) (base : Nat) (args : Array Value) (ds gs : List (DataW H)) (before : List MemPlace)
    (hval : ∀ (j : Nat) t v, Try.f4.params[j]? = some t → args[j]? = some v → Value.okWide Try.prog W .any base t v)
    (hW : DataW.Whole enc Try.prog Try.f4.params.toList Rows.controlEndsSpec.vars false W args.toList ds gs before) :
    Calls Try.prog 4 args W fun e W' => ∃ v, e = .returned v ∧ Rows.controlEndsSpec.post enc Try.prog Try.f4 false true false false W args v W' := by
  have hW' := hW
  obtain ⟨p, q, hA0, hV, rfl, hfz, hnd⟩ := hW
  have hA : DataW.TrodAll enc Try.prog W 0 (fun _ => true) true Try.f4.params.toList args.toList ds p := hA0
  rw [params] at hA hval
  obtain ⟨v0, vs0, d0, ds0, p0, q0, hargs, rfl, rfl, h0, r0⟩ := trodAll_cons hA
  obtain ⟨v1, vs1, d1, ds1, p1, q1, rfl, rfl, rfl, h1, r1⟩ := trodAll_cons r0
  obtain ⟨v2, vs2, d2, ds2, p2, q2, rfl, rfl, rfl, h2, r2⟩ := trodAll_cons r1
  obtain ⟨v3, vs3, d3, ds3, p3, q3, rfl, rfl, rfl, h3, r3⟩ := trodAll_cons r2
  obtain ⟨v4, vs4, d4, ds4, p4, q4, rfl, rfl, rfl, h4, r4⟩ := trodAll_cons r3
  obtain ⟨rfl, rfl, rfl⟩ := trodAll_nil r4
  obtain rfl : args = #[v0, v1, v2, v3, v4] := by cases args; simp_all
  obtain ⟨rfl, rfl⟩ := trodVars_none hV
  have hlt0 := DataW.TrodAll.lt hA
  obtain ⟨f0, h0'⟩ := h0
  obtain ⟨f1, h1'⟩ := h1
  obtain ⟨f2, h2'⟩ := h2
  obtain ⟨f3, h3'⟩ := h3
  obtain ⟨f4, h4'⟩ := h4
  have ok0 := hval 0 3 v0 rfl rfl
  have ok1 := hval 1 23 v1 rfl rfl
  have ok2 := hval 2 3 v2 rfl rfl
  have ok3 := hval 3 3 v3 rfl rfl
  have ok4 := hval 4 30 v4 rfl rfl
  obtain ⟨a0, rfl⟩ := okWide_int und3 ok0
  obtain ⟨a1, rfl, _⟩ := okWide_struct und23 ok1
  have b1 := rd_of_trod 9 23 _ _ _ _ sh23 h1'
  obtain ⟨a2, rfl⟩ := okWide_int und3 ok2
  obtain ⟨a3, rfl⟩ := okWide_int und3 ok3
  obtain ⟨x4, y4, z4, rfl⟩ := okWide_slice und30 ok4
  have b4 := rd_of_trod 9 30 _ _ _ _ sh30 h4'
  obtain ⟨r, W', hrun, rfl, fr⟩ := controlEnds_top a0 b1 a2 a3 b4
  have hcall := LiftOk.calls (F.granarylaw15_ControlEnds.lift) (args := [(.int .i64 a0), (.agg a1), (.int .i64 a2), (.int .i64 a3), (.slice x4 y4 z4)]) Try.func4 (by kernel_rfl) (by kernel_rfl) hrun
  have hbel : Below W.heap.size W W' := ⟨fr.os, fr.tape, fr.output, fr.size, fun k hk => fr.block k hk id⟩
  refine hcall.mono fun e W'' ⟨he, hw⟩ => ?_
  subst hw
  refine ⟨_, he, [d0, d1, d2, d3, d4], [], _, [], p0 ++ (p1 ++ (p2 ++ (p3 ++ (p4 ++ ([]))))), [], hW', ?_, ?_, rfl, hbel.frame _, fun h => by cases h⟩
  · rw [results]
    exact trodAll_cons_mk (shut_bool undR true) trodAll_mk0
  · rw [params]
    refine trodAll_cons_mk (Below.trod laid rec3 (of_decide_eq_true size3) ⟨f0, h0'⟩ hbel fun x hx => hlt0 x (by simp [hx])) ?_
    refine trodAll_cons_mk (Below.trod laid rec23 (of_decide_eq_true size23) ⟨f1, h1'⟩ hbel fun x hx => hlt0 x (by simp [hx])) ?_
    refine trodAll_cons_mk (Below.trod laid rec3 (of_decide_eq_true size3) ⟨f2, h2'⟩ hbel fun x hx => hlt0 x (by simp [hx])) ?_
    refine trodAll_cons_mk (Below.trod laid rec3 (of_decide_eq_true size3) ⟨f3, h3'⟩ hbel fun x hx => hlt0 x (by simp [hx])) ?_
    exact trodAll_cons_mk (Below.trod laid rec30 (of_decide_eq_true size30) ⟨f4, h4'⟩ hbel fun x hx => hlt0 x (by simp [hx])) trodAll_mk0

noncomputable def wit : Array Value := #[(Value.int IntKind.i64 0), (.agg #[(Value.int IntKind.i64 0), (Value.int IntKind.i64 0), (Value.int IntKind.i64 0)]), (Value.int IntKind.i64 0), (Value.int IntKind.i64 0), (Value.slice none 0 0)]
noncomputable def laidWorld (os : Os) : World := World.holding Try.prog os ⟨#[], #[], []⟩
theorem laid_met (os : Os) : laidMet Try.prog Rows.controlEndsRow.laid ((laidWorld os).forCall (fun _ _ => 0) ⟨#[], wit, []⟩).memory :=
  laidMet_of_run' 8 (by kernel_rfl) (by kernel_rfl)
theorem reads (os : Os) {H : Type} (enc : TypeId × Value → H) : ∃ places, DataW.whole enc Try.prog ((laidWorld os).forCall (fun _ _ => 0) ⟨#[], wit, []⟩).memory Try.f4.params.toList Rows.controlEndsSpec.vars false wit.toList 9 = some ([.lit (.int .i64 0), .agg [.lit (.int .i64 0), .lit (.int .i64 0), .lit (.int .i64 0)], .lit (.int .i64 0), .lit (.int .i64 0), .nil], [], places) :=
  ⟨[], by kernel_rfl⟩

set_option maxRecDepth 100000 in
theorem lifted (os : Os) (started : os.Started) (H : Type) (enc : TypeId × Value → H) (F : Stop.Interp) :
    ReturnsInHanded {} Try.checked os 4 .any ((OpenSpec.ofChange Rows.controlEndsSpec).preRow enc Try.prog Try.f4 Rows.controlEndsRow.domain false Rows.controlEndsRow.laid) (((OpenSpec.ofChange Rows.controlEndsSpec).at F).post enc Try.prog Try.f4 false true false false) := by
  obtain ⟨places, hx⟩ := reads os enc
  refine returnsInHanded_of_row (C := Try.checked) (s := OpenSpec.ofChange Rows.controlEndsSpec) own started (by kernel_rfl) Try.func4
    (witness_row_at (enc := enc) (C := Try.checked) false (laidWorld os) wit rfl (by kernel_rfl) (by kernel_rfl) (by kernel_rfl)
      (OpenSpec.preRow_of_cond 9 hx (by kernel_rfl) (fun k hk => by cases hk) (by kernel_rfl) (laid_met os))) ?_
  intro W base args ds gs before hval hW _ hcond _ hL _ _
  exact contract H enc W base args ds gs before hval hW

theorem over : Rows.ControlEndsSaid :=
  OpenClaim.holds_of_cond 4 Try.f4 rfl rfl rfl rfl rfl rfl rfl ⟨rfl, rfl, rfl, rfl, rfl⟩ rfl rfl rfl rfl rfl (by kernel_rfl) Try.func4 (by kernel_rfl)
    (of_decide_eq_true (by kernel_rfl)) (by unfold Func.isWrapper; first | (rw [if_pos (by decide +kernel)]; kernel_rfl) | (rw [if_neg (by decide +kernel)]; exact ⟨rfl, rfl⟩))
    (fun os started H enc _ F => by rw [OpenClaim.pre_eq_preRow]; exact lifted os started H enc F)
end Go.Proofs.Ytpiceodfdjihhaa.controlEnds
namespace Go.Proofs.Ytpiceodfdjihhaa

theorem controlEnds_proved : Rows.ControlEndsSaid :=
  controlEnds.over
end Go.Proofs.Ytpiceodfdjihhaa
