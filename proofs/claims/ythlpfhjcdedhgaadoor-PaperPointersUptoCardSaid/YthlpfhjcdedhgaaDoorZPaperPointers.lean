/-
  PaperPointers (PaperPointersUptoCardSaid): for every input whose reading is of bulk at most 1048576 the call returns true, and each argument reads behind the call as it read before.
  The row lists package variables, tied by the card to the program's text.
-/
import Derived.Test.YthlpfhjcdedhgaaDoorPxC
import Derived.Test.YthlpfhjcdedhgaaDoorLiftV
import Derived.Test.YthlpfhjcdedhgaaDoorCards
import Derived.Test.YthlpfhjcdedhgaaDoorTie
import Derived.WalkKit
import Derived.ProofKit
import Derived.OpenShut
import Derived.JoinedCond
import Derived.Carry
import Derived.LaidLaws
import Derived.Deep.DeepHandedRow
namespace Go.Proofs.YthlpfhjcdedhgaaDoor.paperPointers
open Go.Lift Go.ChangeShapes Go.WideShapes Go.ChangeAt Go.RowKit
set_option linter.unusedVariables false

theorem own : ownKnob Tryd.prog.godebug = none := by kernel_rfl
theorem params : Tryd.f4.params = #[33, 9] := by kernel_rfl
theorem results : Tryd.f4.resultTypes = #[4] := by kernel_rfl
theorem undR : Tryd.prog.underlying 4 = some .bool := by kernel_rfl
theorem laid : laidOutB Tryd.prog = true := by kernel_rfl
noncomputable def fsOf (t : TypeId) : Array Field := match Tryd.prog.underlying t with
  | some (.struct fs) => fs
  | _ => #[]
theorem und33 : Tryd.prog.underlying 33 = some (.struct (fsOf 33)) := by kernel_rfl
theorem rec33 : Tryd.prog.readableRec 33 = true := by kernel_rfl
theorem size33 : (decide (33 < Tryd.prog.types.size)) = true := by kernel_rfl
theorem sh33 : shOf Tryd.prog 9 33 = some (.int .i64 (.int .i64 (.int .i64 (.int .i64 .nil)))) := by kernel_rfl
theorem und9 : Tryd.prog.underlying 9 = some .string := by kernel_rfl
theorem rec9 : Tryd.prog.readableRec 9 = true := by kernel_rfl
theorem size9 : (decide (9 < Tryd.prog.types.size)) = true := by kernel_rfl

set_option maxRecDepth 100000 in
set_option maxHeartbeats 2000000 in
theorem contract (H : Type) (enc : TypeId × Value → H) (W : World) (base : Nat) (args : Array Value) (ds gs : List (DataW H)) (before : List MemPlace)
    (hval : ∀ (j : Nat) t v, Tryd.f4.params[j]? = some t → args[j]? = some v → Value.okWide Tryd.prog W .any base t v)
    (hW : DataW.Whole enc Tryd.prog Tryd.f4.params.toList Rows.paperPointersSpec.vars false W args.toList ds gs before) (hk : Rows.uptoSmall H (ds ++ gs) = true) (hL : laidMetH Tryd.prog Rows.paperPointersUptoRow.laid W) (hsh : W.ShapedOpen Tryd.prog) :
    Calls Tryd.prog 4 args W fun e W' => ∃ v, e = .returned v ∧ Rows.paperPointersSpec.post enc Tryd.prog Tryd.f4 false true false false W args v W' := by
  have hW' := hW
  obtain ⟨p, q, hA0, hV, rfl, hfz, hnd⟩ := hW
  have hA : DataW.TrodAll enc Tryd.prog W 0 (fun _ => true) true Tryd.f4.params.toList args.toList ds p := hA0
  rw [params] at hA hval
  obtain ⟨v0, vs0, d0, ds0, p0, q0, hargs, rfl, rfl, h0, r0⟩ := trodAll_cons hA
  obtain ⟨v1, vs1, d1, ds1, p1, q1, rfl, rfl, rfl, h1, r1⟩ := trodAll_cons r0
  obtain ⟨rfl, rfl, rfl⟩ := trodAll_nil r1
  obtain rfl : args = #[v0, v1] := by cases args; simp_all
  obtain ⟨rfl, rfl⟩ := trodVars_none hV
  have hlt0 := DataW.TrodAll.lt hA
  obtain ⟨f0, h0'⟩ := h0
  obtain ⟨f1, h1'⟩ := h1
  have ok0 := hval 0 33 v0 rfl rfl
  have ok1 := hval 1 9 v1 rfl rfl
  obtain ⟨a0, rfl, _⟩ := okWide_struct und33 ok0
  have b0 := rd_of_trod 9 33 _ _ _ _ sh33 h0'
  obtain ⟨a1, rfl⟩ := okWide_string und9 ok1
  have b1 : a1.size + 1 ≤ Rows.uptoBulk d1 := by
    obtain ⟨s, hs, hx, _⟩ := DataW.trod_string und9 h1'
    obtain rfl : s = a1 := by simpa using hs.symm
    simp only [Prod.mk.injEq] at hx
    rw [hx.1]
    simp only [Rows.uptoBulk, Array.length_toList]
    exact Nat.le_refl _
  have hk' : Rows.uptoBulk d0 + Rows.uptoBulk d1 ≤ 1048576 := by
    have h0 : Rows.uptoBulkAll ([d0, d1] ++ []) ≤ 1048576 := of_decide_eq_true hk
    simp only [List.append_nil, Rows.uptoBulkAll] at h0
    omega
  obtain ⟨r, W', hrun, rfl, fr⟩ := paperPointers_top b0 a1 b1 hk' hL hsh
  have hcall := LiftOk.calls (F.granarylaw4_PaperPointers.lift) (args := [(.agg a0), (.string a1)]) Tryd.func4 (by kernel_rfl) (by kernel_rfl) hrun
  have hbel : Below W.heap.size W W' := ⟨fr.os, fr.tape, fr.output, fr.size, fun k hk => fr.block k hk id⟩
  refine hcall.mono fun e W'' ⟨he, hw⟩ => ?_
  subst hw
  refine ⟨_, he, [d0, d1], [], _, [], p0 ++ (p1 ++ ([])), [], hW', ?_, ?_, rfl, hbel.frame _, fun h => by cases h⟩
  · rw [results]
    exact trodAll_cons_mk (shut_bool undR true) trodAll_mk0
  · rw [params]
    refine trodAll_cons_mk (Below.trod laid rec33 (of_decide_eq_true size33) ⟨f0, h0'⟩ hbel fun x hx => hlt0 x (by simp [hx])) ?_
    exact trodAll_cons_mk (Below.trod laid rec9 (of_decide_eq_true size9) ⟨f1, h1'⟩ hbel fun x hx => hlt0 x (by simp [hx])) trodAll_mk0

noncomputable def wit : Array Value := #[(.agg #[(Value.int IntKind.i64 0), (Value.int IntKind.i64 0), (Value.int IntKind.i64 0), (Value.int IntKind.i64 0)]), (Value.string ByteArray.empty)]
/-- A world for the witness: the settled one, with the tables (digest's nibbles; strconv's powers of ten; math/bits' two; unicode/utf8's two) as their initialisers lay them. -/
noncomputable def putTab (w : World) (g : Nat) (l : Array Value) : World := { w with heap := w.heap.modify g fun
      | .cells _ t frozen => .cells l t frozen
      | o => o }
noncomputable def laidWorld (os : Os) : World :=
  putTab (putTab (putTab (putTab (putTab (putTab (World.holding Tryd.prog os ⟨#[], #[], []⟩) 0 #[.int .u32 0, .int .u32 498536548, .int .u32 997073096, .int .u32 651767980, .int .u32 1994146192, .int .u32 1802195444, .int .u32 1303535960, .int .u32 1342533948, .int .u32 3988292384, .int .u32 4027552580, .int .u32 3604390888, .int .u32 3412177804, .int .u32 2607071920, .int .u32 2262029012, .int .u32 2685067896, .int .u32 3183342108])
    2 #[.int .u64 1, .int .u64 10, .int .u64 100, .int .u64 1000, .int .u64 10000, .int .u64 100000, .int .u64 1000000, .int .u64 10000000, .int .u64 100000000, .int .u64 1000000000, .int .u64 10000000000, .int .u64 100000000000, .int .u64 1000000000000, .int .u64 10000000000000, .int .u64 100000000000000, .int .u64 1000000000000000, .int .u64 10000000000000000, .int .u64 100000000000000000, .int .u64 1000000000000000000, .int .u64 10000000000000000000])
    3 #[.int .u8 0, .int .u8 1, .int .u8 28, .int .u8 2, .int .u8 29, .int .u8 14, .int .u8 24, .int .u8 3, .int .u8 30, .int .u8 22, .int .u8 20, .int .u8 15, .int .u8 25, .int .u8 17, .int .u8 4, .int .u8 8, .int .u8 31, .int .u8 27, .int .u8 13, .int .u8 23, .int .u8 21, .int .u8 19, .int .u8 16, .int .u8 7, .int .u8 26, .int .u8 12, .int .u8 18, .int .u8 6, .int .u8 11, .int .u8 5, .int .u8 10, .int .u8 9])
    4 #[.int .u8 0, .int .u8 1, .int .u8 56, .int .u8 2, .int .u8 57, .int .u8 49, .int .u8 28, .int .u8 3, .int .u8 61, .int .u8 58, .int .u8 42, .int .u8 50, .int .u8 38, .int .u8 29, .int .u8 17, .int .u8 4, .int .u8 62, .int .u8 47, .int .u8 59, .int .u8 36, .int .u8 45, .int .u8 43, .int .u8 51, .int .u8 22, .int .u8 53, .int .u8 39, .int .u8 33, .int .u8 30, .int .u8 24, .int .u8 18, .int .u8 12, .int .u8 5, .int .u8 63, .int .u8 55, .int .u8 48, .int .u8 27, .int .u8 60, .int .u8 41, .int .u8 37, .int .u8 16, .int .u8 46, .int .u8 35, .int .u8 44, .int .u8 21, .int .u8 52, .int .u8 32, .int .u8 23, .int .u8 11, .int .u8 54, .int .u8 26, .int .u8 40, .int .u8 15, .int .u8 34, .int .u8 20, .int .u8 31, .int .u8 10, .int .u8 25, .int .u8 14, .int .u8 19, .int .u8 9, .int .u8 13, .int .u8 8, .int .u8 7, .int .u8 6])
    5 (Go.Pinned.utf8FirstZ.map fun z => Value.int .u8 (Int.ofNat z)).toArray)
    6 #[.int .u8 128, .int .u8 191, .int .u8 160, .int .u8 191, .int .u8 128, .int .u8 159, .int .u8 144, .int .u8 191, .int .u8 128, .int .u8 143, .int .u8 0, .int .u8 0, .int .u8 0, .int .u8 0, .int .u8 0, .int .u8 0, .int .u8 0, .int .u8 0, .int .u8 0, .int .u8 0, .int .u8 0, .int .u8 0, .int .u8 0, .int .u8 0, .int .u8 0, .int .u8 0, .int .u8 0, .int .u8 0, .int .u8 0, .int .u8 0, .int .u8 0, .int .u8 0]
theorem laid_met (os : Os) : laidMet Tryd.prog Rows.paperPointersUptoRow.laid ((laidWorld os).forCall (fun _ _ => 0) ⟨#[], wit, []⟩).memory :=
  laidMet_of_run' 8 (by kernel_rfl) (by kernel_rfl)
theorem reads (os : Os) {H : Type} (enc : TypeId × Value → H) : ∃ places, DataW.whole enc Tryd.prog ((laidWorld os).forCall (fun _ _ => 0) ⟨#[], wit, []⟩).memory Tryd.f4.params.toList Rows.paperPointersSpec.vars false wit.toList 9 = some ([.agg [.lit (.int .i64 0), .lit (.int .i64 0), .lit (.int .i64 0), .lit (.int .i64 0)], .lit (.string [])], [], places) :=
  ⟨[], by kernel_rfl⟩

set_option maxRecDepth 100000 in
theorem lifted (os : Os) (started : os.Started) (H : Type) (enc : TypeId × Value → H) (F : Stop.Interp) :
    ReturnsInHanded {} Tryd.checked os 4 .any ((Rows.OpenSpec.upto Rows.paperPointersSpec).preRow enc Tryd.prog Tryd.f4 Rows.paperPointersUptoRow.domain false Rows.paperPointersUptoRow.laid) (((Rows.OpenSpec.upto Rows.paperPointersSpec).at F).post enc Tryd.prog Tryd.f4 false true false false) := by
  obtain ⟨places, hx⟩ := reads os enc
  refine returnsInHanded_of_row (C := Tryd.checked) (s := Rows.OpenSpec.upto Rows.paperPointersSpec) own started (by kernel_rfl) Tryd.func4
    (witness_row_at (enc := enc) (C := Tryd.checked) false (laidWorld os) wit rfl (by kernel_rfl) (by kernel_rfl) (by kernel_rfl)
      (OpenSpec.preRow_of_cond 9 hx (by kernel_rfl) (fun k hk => by cases hk; kernel_rfl) (by kernel_rfl) (laid_met os))) ?_
  intro W base args ds gs before hval hW _ hcond _ hL hsh _
  exact contract H enc W base args ds gs before hval hW (hcond _ rfl) hL hsh

theorem over : Rows.PaperPointersUptoSaid :=
  OpenClaim.holds_of_cond 4 Tryd.f4 rfl rfl rfl rfl rfl rfl rfl ⟨rfl, rfl, rfl, rfl, rfl⟩ rfl rfl rfl rfl rfl (by kernel_rfl) Tryd.func4 (by kernel_rfl)
    (of_decide_eq_true (by kernel_rfl)) (by unfold Func.isWrapper; first | (rw [if_pos (by decide +kernel)]; kernel_rfl) | (rw [if_neg (by decide +kernel)]; exact ⟨rfl, rfl⟩))
    (fun os started H enc _ F => by rw [OpenClaim.pre_eq_preRow]; exact lifted os started H enc F)

theorem plain (f : FuncId) (fn : Func) (hf : Tryd.pinned.checked.prog.funcNamed "granary/granarylaw4.PaperPointers" = some f) (hfn : Tryd.pinned.checked.prog.funcs[f]? = some fn) :
    false = Tryd.pinned.checked.prog.looks [] ∧ ∀ (j : Nat) t, fn.params[j]? = some t → Tryd.pinned.checked.prog.wantsStandIn t = false := by
  obtain rfl : f = 4 := Option.some.inj ((show Tryd.prog.funcNamed "granary/granarylaw4.PaperPointers" = some 4 by kernel_rfl).symm.trans hf) |>.symm
  obtain rfl : fn = Tryd.f4 := (Option.some.inj (Tryd.func4.symm.trans hfn)).symm
  refine ⟨by kernel_rfl, fun j t ht => ?_⟩
  rw [params] at ht
  have hm := Array.mem_of_getElem? ht
  have h2 : t = 33 ∨ t = 9 := by simpa using hm
  rcases h2 with rfl | rfl
  · exact (show Tryd.prog.wantsStandIn 33 = false by kernel_rfl)
  · exact (show Tryd.prog.wantsStandIn 9 = false by kernel_rfl)
end Go.Proofs.YthlpfhjcdedhgaaDoor.paperPointers
namespace Go.Proofs.YthlpfhjcdedhgaaDoor

theorem paperPointers_proved : Rows.PaperPointersUptoCardSaid :=
  Claim7.holds_tied_plain_at .later [] _ _ _ _ paperPointers.over (fun _ h => by cases h) (by kernel_rfl) (fun _ h => by cases h) paperPointersUpto_row_tie rfl ⟨rfl, rfl⟩ (by kernel_rfl) rfl paperPointers.plain (by kernel_rfl)
end Go.Proofs.YthlpfhjcdedhgaaDoor
