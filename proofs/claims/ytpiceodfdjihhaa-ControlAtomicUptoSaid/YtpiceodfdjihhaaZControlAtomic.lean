/-
  ControlAtomic (ControlAtomicUptoSaid): for every input whose reading is of bulk at most 1048576 the call returns true, and each argument reads behind the call as it read before.
-/
import Derived.Test.YtpiceodfdjihhaaCtlZd
import Derived.Test.YtpiceodfdjihhaaLiftT
import Derived.WalkKit
import Derived.ProofKit
import Derived.OpenShut
import Derived.JoinedCond
import Derived.Carry
import Derived.LaidLaws
import Derived.Deep.DeepHandedRow
namespace Go.Proofs.Ytpiceodfdjihhaa.controlAtomic
open Go.Lift Go.ChangeShapes Go.WideShapes Go.ChangeAt Go.RowKit
set_option linter.unusedVariables false

theorem own : ownKnob Try.prog.godebug = none := by kernel_rfl
theorem params : Try.f5.params = #[3, 23, 57] := by kernel_rfl
theorem results : Try.f5.resultTypes = #[4] := by kernel_rfl
theorem undR : Try.prog.underlying 4 = some .bool := by kernel_rfl
theorem laid : laidOutB Try.prog = true := by kernel_rfl
noncomputable def fsOf (t : TypeId) : Array Field := match Try.prog.underlying t with
  | some (.struct fs) => fs
  | _ => #[]
theorem und3 : Try.prog.underlying 3 = some (.int .i64) := by kernel_rfl
theorem rec3 : Try.prog.readableRec 3 = true := by kernel_rfl
theorem size3 : (decide (3 < Try.prog.types.size)) = true := by kernel_rfl
theorem und23 : Try.prog.underlying 23 = some (.struct (fsOf 23)) := by kernel_rfl
theorem rec23 : Try.prog.readableRec 23 = true := by kernel_rfl
theorem size23 : (decide (23 < Try.prog.types.size)) = true := by kernel_rfl
theorem sh23 : shOf Try.prog 9 23 = some (.int .i64 (.int .i64 (.int .i64 .nil))) := by kernel_rfl
theorem und57 : Try.prog.underlying 57 = some (.slice 63) := by kernel_rfl
theorem rec57 : Try.prog.readableRec 57 = true := by kernel_rfl
theorem size57 : (decide (57 < Try.prog.types.size)) = true := by kernel_rfl
theorem sh57 : shOf Try.prog 9 57 = some (.slice (.int .i64 (.int .i64 (.int .i64 .nil))) .nil) := by kernel_rfl

set_option maxRecDepth 100000 in
theorem contract (H : Type) (enc : TypeId × Value → H) (W : World) (base : Nat) (args : Array Value) (ds gs : List (DataW H)) (before : List MemPlace)
    (hval : ∀ (j : Nat) t v, Try.f5.params[j]? = some t → args[j]? = some v → Value.okWide Try.prog W .any base t v)
    (hW : DataW.Whole enc Try.prog Try.f5.params.toList Rows.controlAtomicSpec.vars false W args.toList ds gs before) (hk : Rows.uptoSmall H (ds ++ gs) = true) :
    Calls Try.prog 5 args W fun e W' => ∃ v, e = .returned v ∧ Rows.controlAtomicSpec.post enc Try.prog Try.f5 false true false false W args v W' := by
  have hW' := hW
  obtain ⟨p, q, hA0, hV, rfl, hfz, hnd⟩ := hW
  have hA : DataW.TrodAll enc Try.prog W 0 (fun _ => true) true Try.f5.params.toList args.toList ds p := hA0
  rw [params] at hA hval
  obtain ⟨v0, vs0, d0, ds0, p0, q0, hargs, rfl, rfl, h0, r0⟩ := trodAll_cons hA
  obtain ⟨v1, vs1, d1, ds1, p1, q1, rfl, rfl, rfl, h1, r1⟩ := trodAll_cons r0
  obtain ⟨v2, vs2, d2, ds2, p2, q2, rfl, rfl, rfl, h2, r2⟩ := trodAll_cons r1
  obtain ⟨rfl, rfl, rfl⟩ := trodAll_nil r2
  obtain rfl : args = #[v0, v1, v2] := by cases args; simp_all
  obtain ⟨rfl, rfl⟩ := trodVars_none hV
  have hlt0 := DataW.TrodAll.lt hA
  obtain ⟨f0, h0'⟩ := h0
  obtain ⟨f1, h1'⟩ := h1
  obtain ⟨f2, h2'⟩ := h2
  have ok0 := hval 0 3 v0 rfl rfl
  have ok1 := hval 1 23 v1 rfl rfl
  have ok2 := hval 2 57 v2 rfl rfl
  obtain ⟨a0, rfl⟩ := okWide_int und3 ok0
  obtain ⟨a1, rfl, _⟩ := okWide_struct und23 ok1
  have b1 := rd_of_trod 9 23 _ _ _ _ sh23 h1'
  obtain ⟨x2, y2, z2, rfl⟩ := okWide_slice und57 ok2
  have b2 := rd_of_trod 9 57 _ _ _ _ sh57 h2'
  have hk' : Rows.uptoBulk d0 + Rows.uptoBulk d1 + Rows.uptoBulk d2 ≤ 1048576 := by
    have h0 : Rows.uptoBulkAll ([d0, d1, d2] ++ []) ≤ 1048576 := of_decide_eq_true hk
    simp only [List.append_nil, Rows.uptoBulkAll] at h0
    omega
  obtain ⟨r, W', hrun, rfl, fr⟩ := controlAtomic_top a0 b1 b2 hk'
  have hcall := LiftOk.calls (F.granarylaw15_ControlAtomic.lift) (args := [(.int .i64 a0), (.agg a1), (.slice x2 y2 z2)]) Try.func5 (by kernel_rfl) (by kernel_rfl) hrun
  have hbel : Below W.heap.size W W' := ⟨fr.os, fr.tape, fr.output, fr.size, fun k hk => fr.block k hk id⟩
  refine hcall.mono fun e W'' ⟨he, hw⟩ => ?_
  subst hw
  refine ⟨_, he, [d0, d1, d2], [], _, [], p0 ++ (p1 ++ (p2 ++ ([]))), [], hW', ?_, ?_, rfl, hbel.frame _, fun h => by cases h⟩
  · rw [results]
    exact trodAll_cons_mk (shut_bool undR true) trodAll_mk0
  · rw [params]
    refine trodAll_cons_mk (Below.trod laid rec3 (of_decide_eq_true size3) ⟨f0, h0'⟩ hbel fun x hx => hlt0 x (by simp [hx])) ?_
    refine trodAll_cons_mk (Below.trod laid rec23 (of_decide_eq_true size23) ⟨f1, h1'⟩ hbel fun x hx => hlt0 x (by simp [hx])) ?_
    exact trodAll_cons_mk (Below.trod laid rec57 (of_decide_eq_true size57) ⟨f2, h2'⟩ hbel fun x hx => hlt0 x (by simp [hx])) trodAll_mk0

noncomputable def wit : Array Value := #[(Value.int IntKind.i64 0), (.agg #[(Value.int IntKind.i64 0), (Value.int IntKind.i64 0), (Value.int IntKind.i64 0)]), (Value.slice none 0 0)]
noncomputable def laidWorld (os : Os) : World := World.holding Try.prog os ⟨#[], #[], []⟩
theorem laid_met (os : Os) : laidMet Try.prog Rows.controlAtomicUptoRow.laid ((laidWorld os).forCall (fun _ _ => 0) ⟨#[], wit, []⟩).memory :=
  laidMet_of_run' 8 (by kernel_rfl) (by kernel_rfl)
theorem reads (os : Os) {H : Type} (enc : TypeId × Value → H) : ∃ places, DataW.whole enc Try.prog ((laidWorld os).forCall (fun _ _ => 0) ⟨#[], wit, []⟩).memory Try.f5.params.toList Rows.controlAtomicSpec.vars false wit.toList 9 = some ([.lit (.int .i64 0), .agg [.lit (.int .i64 0), .lit (.int .i64 0), .lit (.int .i64 0)], .nil], [], places) :=
  ⟨[], by kernel_rfl⟩

set_option maxRecDepth 100000 in
theorem lifted (os : Os) (started : os.Started) (H : Type) (enc : TypeId × Value → H) (F : Stop.Interp) :
    ReturnsInHanded {} Try.checked os 5 .any ((Rows.OpenSpec.upto Rows.controlAtomicSpec).preRow enc Try.prog Try.f5 Rows.controlAtomicUptoRow.domain false Rows.controlAtomicUptoRow.laid) (((Rows.OpenSpec.upto Rows.controlAtomicSpec).at F).post enc Try.prog Try.f5 false true false false) := by
  obtain ⟨places, hx⟩ := reads os enc
  refine returnsInHanded_of_row (C := Try.checked) (s := Rows.OpenSpec.upto Rows.controlAtomicSpec) own started (by kernel_rfl) Try.func5
    (witness_row_at (enc := enc) (C := Try.checked) false (laidWorld os) wit rfl (by kernel_rfl) (by kernel_rfl) (by kernel_rfl)
      (OpenSpec.preRow_of_cond 9 hx (by kernel_rfl) (fun k hk => by cases hk; kernel_rfl) (by kernel_rfl) (laid_met os))) ?_
  intro W base args ds gs before hval hW _ hcond _ hL _ _
  exact contract H enc W base args ds gs before hval hW (hcond _ rfl)

theorem over : Rows.ControlAtomicUptoSaid :=
  OpenClaim.holds_of_cond 5 Try.f5 rfl rfl rfl rfl rfl rfl rfl ⟨rfl, rfl, rfl, rfl, rfl⟩ rfl rfl rfl rfl rfl (by kernel_rfl) Try.func5 (by kernel_rfl)
    (of_decide_eq_true (by kernel_rfl)) (by unfold Func.isWrapper; first | (rw [if_pos (by decide +kernel)]; kernel_rfl) | (rw [if_neg (by decide +kernel)]; exact ⟨rfl, rfl⟩))
    (fun os started H enc _ F => by rw [OpenClaim.pre_eq_preRow]; exact lifted os started H enc F)
end Go.Proofs.Ytpiceodfdjihhaa.controlAtomic
namespace Go.Proofs.Ytpiceodfdjihhaa

theorem controlAtomic_proved : Rows.ControlAtomicUptoSaid :=
  controlAtomic.over
end Go.Proofs.Ytpiceodfdjihhaa
