/-
  DiskPlays (DiskPlaysUptoCardSaid): for every input whose reading is of bulk at most 1048576 the call returns true, and each argument reads behind the call as it read before.
  The row lists package variables, tied by the card to the program's text.
-/
import Derived.Test.YtojnickeblbgoaaGreatDoorWa5
import Derived.Test.YtojnickeblbgoaaGreatDoorCards
import Derived.Test.YtojnickeblbgoaaGreatDoorTie
import Derived.WalkKit
import Derived.ProofKit
import Derived.OpenShut
import Derived.JoinedCond
import Derived.Carry
import Derived.LaidLaws
import Derived.Deep.DeepHandedRow
namespace Go.Proofs.YtojnickeblbgoaaGreatDoor.diskPlays
open Go.Lift Go.ChangeShapes Go.WideShapes Go.ChangeAt Go.RowKit
set_option linter.unusedVariables false

theorem own : ownKnob Tryz.prog.godebug = none := by kernel_rfl
theorem params : Tryz.f8.params = #[3, 37] := by kernel_rfl
theorem results : Tryz.f8.resultTypes = #[4] := by kernel_rfl
theorem undR : Tryz.prog.underlying 4 = some .bool := by kernel_rfl
theorem laid : laidOutB Tryz.prog = true := by kernel_rfl
theorem und3 : Tryz.prog.underlying 3 = some (.int .i64) := by kernel_rfl
theorem rec3 : Tryz.prog.readableRec 3 = true := by kernel_rfl
theorem size3 : (decide (3 < Tryz.prog.types.size)) = true := by kernel_rfl
theorem und37 : Tryz.prog.underlying 37 = some (.slice 35) := by kernel_rfl
theorem rec37 : Tryz.prog.readableRec 37 = true := by kernel_rfl
theorem size37 : (decide (37 < Tryz.prog.types.size)) = true := by kernel_rfl
theorem sh37 : shOf Tryz.prog 9 37 = some (.slice (.int .i64 (.int .i64 (.int .i64 (.int .i64 (.str (.str .nil)))))) .nil) := by kernel_rfl

set_option maxRecDepth 100000 in
set_option maxHeartbeats 2000000 in
theorem contract (H : Type) (enc : TypeId × Value → H) (W : World) (base : Nat) (args : Array Value) (ds gs : List (DataW H)) (before : List MemPlace)
    (hval : ∀ (j : Nat) t v, Tryz.f8.params[j]? = some t → args[j]? = some v → Value.okWide Tryz.prog W .any base t v)
    (hW : DataW.Whole enc Tryz.prog Tryz.f8.params.toList Rows.diskPlaysSpec.vars false W args.toList ds gs before) (hk : Rows.uptoSmall H (ds ++ gs) = true) (hL : laidMetH Tryz.prog Rows.diskPlaysUptoRow.laid W) (hsh : W.ShapedOpen Tryz.prog) :
    Calls Tryz.prog 8 args W fun e W' => ∃ v, e = .returned v ∧ Rows.diskPlaysSpec.post enc Tryz.prog Tryz.f8 false true false false W args v W' := by
  have hW' := hW
  obtain ⟨p, q, hA0, hV, rfl, hfz, hnd⟩ := hW
  have hA : DataW.TrodAll enc Tryz.prog W 0 (fun _ => true) true Tryz.f8.params.toList args.toList ds p := hA0
  rw [params] at hA hval
  obtain ⟨v0, vs0, d0, ds0, p0, q0, hargs, rfl, rfl, h0, r0⟩ := trodAll_cons hA
  obtain ⟨v1, vs1, d1, ds1, p1, q1, rfl, rfl, rfl, h1, r1⟩ := trodAll_cons r0
  obtain ⟨rfl, rfl, rfl⟩ := trodAll_nil r1
  obtain rfl : args = #[v0, v1] := by cases args; simp_all
  obtain ⟨rfl, rfl⟩ := trodVars_none hV
  have hlt0 := DataW.TrodAll.lt hA
  obtain ⟨f0, h0'⟩ := h0
  obtain ⟨f1, h1'⟩ := h1
  have ok0 := hval 0 3 v0 rfl rfl
  have ok1 := hval 1 37 v1 rfl rfl
  obtain ⟨a0, rfl⟩ := okWide_int und3 ok0
  obtain ⟨x1, y1, z1, rfl⟩ := okWide_slice und37 ok1
  have b1 := rd_of_trod 9 37 _ _ _ _ sh37 h1'
  have hk' : Rows.uptoBulk d0 + Rows.uptoBulk d1 ≤ 1048576 := by
    have h0 : Rows.uptoBulkAll ([d0, d1] ++ []) ≤ 1048576 := of_decide_eq_true hk
    simp only [List.append_nil, Rows.uptoBulkAll] at h0
    omega
  obtain ⟨r, W', hrun, rfl, fr⟩ := diskPlays_top a0 b1 hk' hL hsh
  have hcall := LiftOk.calls (F.l_DiskPlays.lift) (args := [(.int .i64 a0), (.slice x1 y1 z1)]) Tryz.func8 (by kernel_rfl) (by kernel_rfl) hrun
  have hbel : Below W.heap.size W W' := ⟨fr.os, fr.tape, fr.output, fr.size, fun k hk => fr.block k hk id⟩
  refine hcall.mono fun e W'' ⟨he, hw⟩ => ?_
  subst hw
  refine ⟨_, he, [d0, d1], [], _, [], p0 ++ (p1 ++ ([])), [], hW', ?_, ?_, rfl, hbel.frame _, fun h => by cases h⟩
  · rw [results]
    exact trodAll_cons_mk (shut_bool undR true) trodAll_mk0
  · rw [params]
    refine trodAll_cons_mk (Below.trod laid rec3 (of_decide_eq_true size3) ⟨f0, h0'⟩ hbel fun x hx => hlt0 x (by simp [hx])) ?_
    exact trodAll_cons_mk (Below.trod laid rec37 (of_decide_eq_true size37) ⟨f1, h1'⟩ hbel fun x hx => hlt0 x (by simp [hx])) trodAll_mk0

noncomputable def wit : Array Value := #[(Value.int IntKind.i64 0), (Value.slice none 0 0)]
/-- A world for the witness: the settled one, the two tables of unicode/utf8 (blocks 1 and 2) as their initialisers lay them. -/
noncomputable def putTab (w : World) (g : Nat) (l : Array Value) : World := { w with heap := w.heap.modify g fun
      | .cells _ t frozen => .cells l t frozen
      | o => o }
noncomputable def laidWorld (os : Os) : World :=
  putTab (putTab (World.holding Tryz.prog os ⟨#[], #[], []⟩) 1 (Go.Pinned.utf8FirstZ.map fun z => Value.int .u8 (Int.ofNat z)).toArray)
    2 #[.int .u8 128, .int .u8 191, .int .u8 160, .int .u8 191, .int .u8 128, .int .u8 159, .int .u8 144, .int .u8 191, .int .u8 128, .int .u8 143, .int .u8 0, .int .u8 0, .int .u8 0, .int .u8 0, .int .u8 0, .int .u8 0, .int .u8 0, .int .u8 0, .int .u8 0, .int .u8 0, .int .u8 0, .int .u8 0, .int .u8 0, .int .u8 0, .int .u8 0, .int .u8 0, .int .u8 0, .int .u8 0, .int .u8 0, .int .u8 0, .int .u8 0, .int .u8 0]
theorem laid_met (os : Os) : laidMet Tryz.prog Rows.diskPlaysUptoRow.laid ((laidWorld os).forCall (fun _ _ => 0) ⟨#[], wit, []⟩).memory :=
  laidMet_of_run' 8 (by kernel_rfl) (by kernel_rfl)
theorem reads (os : Os) {H : Type} (enc : TypeId × Value → H) : ∃ places, DataW.whole enc Tryz.prog ((laidWorld os).forCall (fun _ _ => 0) ⟨#[], wit, []⟩).memory Tryz.f8.params.toList Rows.diskPlaysSpec.vars false wit.toList 9 = some ([.lit (.int .i64 0), .nil], [], places) :=
  ⟨[], by kernel_rfl⟩

set_option maxRecDepth 100000 in
theorem lifted (os : Os) (started : os.Started) (H : Type) (enc : TypeId × Value → H) (F : Stop.Interp) :
    ReturnsInHanded {} Tryz.checked os 8 .any ((Rows.OpenSpec.upto Rows.diskPlaysSpec).preRow enc Tryz.prog Tryz.f8 Rows.diskPlaysUptoRow.domain false Rows.diskPlaysUptoRow.laid) (((Rows.OpenSpec.upto Rows.diskPlaysSpec).at F).post enc Tryz.prog Tryz.f8 false true false false) := by
  obtain ⟨places, hx⟩ := reads os enc
  refine returnsInHanded_of_row (C := Tryz.checked) (s := Rows.OpenSpec.upto Rows.diskPlaysSpec) own started (by kernel_rfl) Tryz.func8
    (witness_row_at (enc := enc) (C := Tryz.checked) false (laidWorld os) wit rfl (by kernel_rfl) (by kernel_rfl) (by kernel_rfl)
      (OpenSpec.preRow_of_cond 9 hx (by kernel_rfl) (fun k hk => by cases hk; kernel_rfl) (by kernel_rfl) (laid_met os))) ?_
  intro W base args ds gs before hval hW _ hcond _ hL hsh _
  exact contract H enc W base args ds gs before hval hW (hcond _ rfl) hL hsh

theorem over : Rows.DiskPlaysUptoSaid :=
  OpenClaim.holds_of_cond 8 Tryz.f8 rfl rfl rfl rfl rfl rfl rfl ⟨rfl, rfl, rfl, rfl, rfl⟩ rfl rfl rfl rfl rfl (by kernel_rfl) Tryz.func8 (by kernel_rfl)
    (of_decide_eq_true (by kernel_rfl)) (by unfold Func.isWrapper; first | (rw [if_pos (by decide +kernel)]; kernel_rfl) | (rw [if_neg (by decide +kernel)]; exact ⟨rfl, rfl⟩))
    (fun os started H enc _ F => by rw [OpenClaim.pre_eq_preRow]; exact lifted os started H enc F)

theorem plain (f : FuncId) (fn : Func) (hf : Tryz.pinned.checked.prog.funcNamed "granary/granarylaw1.DiskPlays" = some f) (hfn : Tryz.pinned.checked.prog.funcs[f]? = some fn) :
    false = Tryz.pinned.checked.prog.looks [] ∧ ∀ (j : Nat) t, fn.params[j]? = some t → Tryz.pinned.checked.prog.wantsStandIn t = false := by
  obtain rfl : f = 8 := Option.some.inj ((show Tryz.prog.funcNamed "granary/granarylaw1.DiskPlays" = some 8 by kernel_rfl).symm.trans hf) |>.symm
  obtain rfl : fn = Tryz.f8 := (Option.some.inj (Tryz.func8.symm.trans hfn)).symm
  refine ⟨by kernel_rfl, fun j t ht => ?_⟩
  rw [params] at ht
  have hm := Array.mem_of_getElem? ht
  have h2 : t = 3 ∨ t = 37 := by simpa using hm
  rcases h2 with rfl | rfl
  · exact (show Tryz.prog.wantsStandIn 3 = false by kernel_rfl)
  · exact (show Tryz.prog.wantsStandIn 37 = false by kernel_rfl)
end Go.Proofs.YtojnickeblbgoaaGreatDoor.diskPlays
namespace Go.Proofs.YtojnickeblbgoaaGreatDoor

theorem diskPlays_proved : Rows.DiskPlaysUptoCardSaid :=
  Claim7.holds_tied_plain_at .later [] _ _ _ _ diskPlays.over (fun _ h => by cases h) (by kernel_rfl) (fun _ h => by cases h) diskPlaysUpto_row_tie rfl ⟨rfl, rfl⟩ (by kernel_rfl) rfl diskPlays.plain (by kernel_rfl)
end Go.Proofs.YtojnickeblbgoaaGreatDoor
