/-
  PaperFiles (PaperFilesUptoCardSaid): for every input whose reading is of bulk at most 1048576 the call returns true, and each argument reads behind the call as it read before.
  The row lists package variables, tied by the card to the program's text.
-/
import Derived.Test.YthlpfhjcdedhgaaGreatDoorSf4
import Derived.Test.YthlpfhjcdedhgaaGreatDoorCards
import Derived.Test.YthlpfhjcdedhgaaGreatDoorTie
import Derived.WalkKit
import Derived.ProofKit
import Derived.OpenShut
import Derived.JoinedCond
import Derived.Carry
import Derived.LaidLaws
import Derived.Deep.DeepHandedRow
namespace Go.Proofs.YthlpfhjcdedhgaaGreatDoor.paperFiles
open Go.Lift Go.ChangeShapes Go.WideShapes Go.ChangeAt Go.RowKit
set_option linter.unusedVariables false

theorem own : ownKnob Tryz.prog.godebug = none := by kernel_rfl
theorem params : Tryz.f7.params = #[9, 76] := by kernel_rfl
theorem results : Tryz.f7.resultTypes = #[4] := by kernel_rfl
theorem undR : Tryz.prog.underlying 4 = some .bool := by kernel_rfl
theorem laid : laidOutB Tryz.prog = true := by kernel_rfl
theorem und9 : Tryz.prog.underlying 9 = some .string := by kernel_rfl
theorem rec9 : Tryz.prog.readableRec 9 = true := by kernel_rfl
theorem size9 : (decide (9 < Tryz.prog.types.size)) = true := by kernel_rfl
theorem und76 : Tryz.prog.underlying 76 = some (.slice 78) := by kernel_rfl
theorem rec76 : Tryz.prog.readableRec 76 = true := by kernel_rfl
theorem size76 : (decide (76 < Tryz.prog.types.size)) = true := by kernel_rfl
theorem sh76 : shOf Tryz.prog 9 76 = some (.slice (.str (.str .nil)) .nil) := by kernel_rfl

set_option maxRecDepth 100000 in
set_option maxHeartbeats 2000000 in
theorem contract (H : Type) (enc : TypeId × Value → H) (W : World) (base : Nat) (args : Array Value) (ds gs : List (DataW H)) (before : List MemPlace)
    (hval : ∀ (j : Nat) t v, Tryz.f7.params[j]? = some t → args[j]? = some v → Value.okWide Tryz.prog W .any base t v)
    (hW : DataW.Whole enc Tryz.prog Tryz.f7.params.toList Rows.paperFilesSpec.vars false W args.toList ds gs before) (hk : Rows.uptoSmall H (ds ++ gs) = true) (hL : laidMetH Tryz.prog Rows.paperFilesUptoRow.laid W) (hsh : W.ShapedOpen Tryz.prog) :
    Calls Tryz.prog 7 args W fun e W' => ∃ v, e = .returned v ∧ Rows.paperFilesSpec.post enc Tryz.prog Tryz.f7 false true false false W args v W' := by
  have hW' := hW
  obtain ⟨p, q, hA0, hV, rfl, hfz, hnd⟩ := hW
  have hA : DataW.TrodAll enc Tryz.prog W 0 (fun _ => true) true Tryz.f7.params.toList args.toList ds p := hA0
  rw [params] at hA hval
  obtain ⟨v0, vs0, d0, ds0, p0, q0, hargs, rfl, rfl, h0, r0⟩ := trodAll_cons hA
  obtain ⟨v1, vs1, d1, ds1, p1, q1, rfl, rfl, rfl, h1, r1⟩ := trodAll_cons r0
  obtain ⟨rfl, rfl, rfl⟩ := trodAll_nil r1
  obtain rfl : args = #[v0, v1] := by cases args; simp_all
  obtain ⟨rfl, rfl⟩ := trodVars_none hV
  have hlt0 := DataW.TrodAll.lt hA
  obtain ⟨f0, h0'⟩ := h0
  obtain ⟨f1, h1'⟩ := h1
  have ok0 := hval 0 9 v0 rfl rfl
  have ok1 := hval 1 76 v1 rfl rfl
  obtain ⟨a0, rfl⟩ := okWide_string und9 ok0
  have b0 : a0.size + 1 ≤ Rows.uptoBulk d0 := by
    obtain ⟨s, hs, hx, _⟩ := DataW.trod_string und9 h0'
    obtain rfl : s = a0 := by simpa using hs.symm
    simp only [Prod.mk.injEq] at hx
    rw [hx.1]
    simp only [Rows.uptoBulk, Array.length_toList]
    exact Nat.le_refl _
  obtain ⟨x1, y1, z1, rfl⟩ := okWide_slice und76 ok1
  have b1 := rd_of_trod 9 76 _ _ _ _ sh76 h1'
  have hk' : Rows.uptoBulk d0 + Rows.uptoBulk d1 ≤ 1048576 := by
    have h0 : Rows.uptoBulkAll ([d0, d1] ++ []) ≤ 1048576 := of_decide_eq_true hk
    simp only [List.append_nil, Rows.uptoBulkAll] at h0
    omega
  obtain ⟨r, W', hrun, rfl, fr⟩ := paperFiles_top a0 b0 b1 hk' hL hsh
  have hcall := LiftOk.calls (F.granarylaw4_PaperFiles.lift) (args := [(.string a0), (.slice x1 y1 z1)]) Tryz.func7 (by kernel_rfl) (by kernel_rfl) hrun
  have hbel : Below W.heap.size W W' := ⟨fr.os, fr.tape, fr.output, fr.size, fun k hk => fr.block k hk id⟩
  refine hcall.mono fun e W'' ⟨he, hw⟩ => ?_
  subst hw
  refine ⟨_, he, [d0, d1], [], _, [], p0 ++ (p1 ++ ([])), [], hW', ?_, ?_, rfl, hbel.frame _, fun h => by cases h⟩
  · rw [results]
    exact trodAll_cons_mk (shut_bool undR true) trodAll_mk0
  · rw [params]
    refine trodAll_cons_mk (Below.trod laid rec9 (of_decide_eq_true size9) ⟨f0, h0'⟩ hbel fun x hx => hlt0 x (by simp [hx])) ?_
    exact trodAll_cons_mk (Below.trod laid rec76 (of_decide_eq_true size76) ⟨f1, h1'⟩ hbel fun x hx => hlt0 x (by simp [hx])) trodAll_mk0

noncomputable def wit : Array Value := #[(Value.string ByteArray.empty), (Value.slice none 0 0)]
/-- A world for the witness: the settled one, with the tables as their initialisers lay them. -/
noncomputable def putTab (w : World) (g : Nat) (l : Array Value) : World := { w with heap := w.heap.modify g fun
      | .cells _ t frozen => .cells l t frozen
      | o => o }
noncomputable def laidWorld (os : Os) : World :=
  putTab (putTab (putTab (putTab (putTab (putTab (putTab (putTab (putTab (putTab (World.holding Tryz.prog os ⟨#[], #[], []⟩) 0 #[.int .i64 1, .int .i64 2, .int .i64 4, .int .i64 8, .int .i64 16, .int .i64 32, .int .i64 64, .int .i64 128, .int .i64 256, .int .i64 512, .int .i64 1024, .int .i64 2048, .int .i64 4096, .int .i64 8192, .int .i64 16384, .int .i64 32768, .int .i64 65536, .int .i64 131072, .int .i64 262144, .int .i64 524288, .int .i64 1048576, .int .i64 2097152, .int .i64 4194304, .int .i64 8388608, .int .i64 16777216, .int .i64 33554432, .int .i64 67108864, .int .i64 134217728, .int .i64 268435456, .int .i64 536870912, .int .i64 1073741824, .int .i64 2147483648])
    1 #[.int .u32 0, .int .u32 498536548, .int .u32 997073096, .int .u32 651767980, .int .u32 1994146192, .int .u32 1802195444, .int .u32 1303535960, .int .u32 1342533948, .int .u32 3988292384, .int .u32 4027552580, .int .u32 3604390888, .int .u32 3412177804, .int .u32 2607071920, .int .u32 2262029012, .int .u32 2685067896, .int .u32 3183342108])
    2 #[.int .u32 1732584193, .int .u32 4023233417, .int .u32 2562383102, .int .u32 271733878])
    4 #[.int .u32 3614090360, .int .u32 3905402710, .int .u32 606105819, .int .u32 3250441966, .int .u32 4118548399, .int .u32 1200080426, .int .u32 2821735955, .int .u32 4249261313, .int .u32 1770035416, .int .u32 2336552879, .int .u32 4294925233, .int .u32 2304563134, .int .u32 1804603682, .int .u32 4254626195, .int .u32 2792965006, .int .u32 1236535329, .int .u32 4129170786, .int .u32 3225465664, .int .u32 643717713, .int .u32 3921069994, .int .u32 3593408605, .int .u32 38016083, .int .u32 3634488961, .int .u32 3889429448, .int .u32 568446438, .int .u32 3275163606, .int .u32 4107603335, .int .u32 1163531501, .int .u32 2850285829, .int .u32 4243563512, .int .u32 1735328473, .int .u32 2368359562, .int .u32 4294588738, .int .u32 2272392833, .int .u32 1839030562, .int .u32 4259657740, .int .u32 2763975236, .int .u32 1272893353, .int .u32 4139469664, .int .u32 3200236656, .int .u32 681279174, .int .u32 3936430074, .int .u32 3572445317, .int .u32 76029189, .int .u32 3654602809, .int .u32 3873151461, .int .u32 530742520, .int .u32 3299628645, .int .u32 4096336452, .int .u32 1126891415, .int .u32 2878612391, .int .u32 4237533241, .int .u32 1700485571, .int .u32 2399980690, .int .u32 4293915773, .int .u32 2240044497, .int .u32 1873313359, .int .u32 4264355552, .int .u32 2734768916, .int .u32 1309151649, .int .u32 4149444226, .int .u32 3174756917, .int .u32 718787259, .int .u32 3951481745])
    5 #[.int .i64 7, .int .i64 12, .int .i64 17, .int .i64 22, .int .i64 5, .int .i64 9, .int .i64 14, .int .i64 20, .int .i64 4, .int .i64 11, .int .i64 16, .int .i64 23, .int .i64 6, .int .i64 10, .int .i64 15, .int .i64 21])
    6 #[.int .u64 1, .int .u64 10, .int .u64 100, .int .u64 1000, .int .u64 10000, .int .u64 100000, .int .u64 1000000, .int .u64 10000000, .int .u64 100000000, .int .u64 1000000000, .int .u64 10000000000, .int .u64 100000000000, .int .u64 1000000000000, .int .u64 10000000000000, .int .u64 100000000000000, .int .u64 1000000000000000, .int .u64 10000000000000000, .int .u64 100000000000000000, .int .u64 1000000000000000000, .int .u64 10000000000000000000])
    7 ((Go.Pinned.utf8FirstZ.map fun z => Value.int .u8 (Int.ofNat z)).toArray))
    8 #[.int .u8 128, .int .u8 191, .int .u8 160, .int .u8 191, .int .u8 128, .int .u8 159, .int .u8 144, .int .u8 191, .int .u8 128, .int .u8 143, .int .u8 0, .int .u8 0, .int .u8 0, .int .u8 0, .int .u8 0, .int .u8 0, .int .u8 0, .int .u8 0, .int .u8 0, .int .u8 0, .int .u8 0, .int .u8 0, .int .u8 0, .int .u8 0, .int .u8 0, .int .u8 0, .int .u8 0, .int .u8 0, .int .u8 0, .int .u8 0, .int .u8 0, .int .u8 0])
    9 #[.int .u8 0, .int .u8 1, .int .u8 28, .int .u8 2, .int .u8 29, .int .u8 14, .int .u8 24, .int .u8 3, .int .u8 30, .int .u8 22, .int .u8 20, .int .u8 15, .int .u8 25, .int .u8 17, .int .u8 4, .int .u8 8, .int .u8 31, .int .u8 27, .int .u8 13, .int .u8 23, .int .u8 21, .int .u8 19, .int .u8 16, .int .u8 7, .int .u8 26, .int .u8 12, .int .u8 18, .int .u8 6, .int .u8 11, .int .u8 5, .int .u8 10, .int .u8 9])
    10 #[.int .u8 0, .int .u8 1, .int .u8 56, .int .u8 2, .int .u8 57, .int .u8 49, .int .u8 28, .int .u8 3, .int .u8 61, .int .u8 58, .int .u8 42, .int .u8 50, .int .u8 38, .int .u8 29, .int .u8 17, .int .u8 4, .int .u8 62, .int .u8 47, .int .u8 59, .int .u8 36, .int .u8 45, .int .u8 43, .int .u8 51, .int .u8 22, .int .u8 53, .int .u8 39, .int .u8 33, .int .u8 30, .int .u8 24, .int .u8 18, .int .u8 12, .int .u8 5, .int .u8 63, .int .u8 55, .int .u8 48, .int .u8 27, .int .u8 60, .int .u8 41, .int .u8 37, .int .u8 16, .int .u8 46, .int .u8 35, .int .u8 44, .int .u8 21, .int .u8 52, .int .u8 32, .int .u8 23, .int .u8 11, .int .u8 54, .int .u8 26, .int .u8 40, .int .u8 15, .int .u8 34, .int .u8 20, .int .u8 31, .int .u8 10, .int .u8 25, .int .u8 14, .int .u8 19, .int .u8 9, .int .u8 13, .int .u8 8, .int .u8 7, .int .u8 6]
theorem laid_met (os : Os) : laidMet Tryz.prog Rows.paperFilesUptoRow.laid ((laidWorld os).forCall (fun _ _ => 0) ⟨#[], wit, []⟩).memory :=
  laidMet_of_run' 8 (by kernel_rfl) (by kernel_rfl)
theorem reads (os : Os) {H : Type} (enc : TypeId × Value → H) : ∃ places, DataW.whole enc Tryz.prog ((laidWorld os).forCall (fun _ _ => 0) ⟨#[], wit, []⟩).memory Tryz.f7.params.toList Rows.paperFilesSpec.vars false wit.toList 9 = some ([.lit (.string []), .nil], [], places) :=
  ⟨[], by kernel_rfl⟩

set_option maxRecDepth 100000 in
theorem lifted (os : Os) (started : os.Started) (H : Type) (enc : TypeId × Value → H) (F : Stop.Interp) :
    ReturnsInHanded {} Tryz.checked os 7 .any ((Rows.OpenSpec.upto Rows.paperFilesSpec).preRow enc Tryz.prog Tryz.f7 Rows.paperFilesUptoRow.domain false Rows.paperFilesUptoRow.laid) (((Rows.OpenSpec.upto Rows.paperFilesSpec).at F).post enc Tryz.prog Tryz.f7 false true false false) := by
  obtain ⟨places, hx⟩ := reads os enc
  refine returnsInHanded_of_row (C := Tryz.checked) (s := Rows.OpenSpec.upto Rows.paperFilesSpec) own started (by kernel_rfl) Tryz.func7
    (witness_row_at (enc := enc) (C := Tryz.checked) false (laidWorld os) wit rfl (by kernel_rfl) (by kernel_rfl) (by kernel_rfl)
      (OpenSpec.preRow_of_cond 9 hx (by kernel_rfl) (fun k hk => by cases hk; kernel_rfl) (by kernel_rfl) (laid_met os))) ?_
  intro W base args ds gs before hval hW _ hcond _ hL hsh _
  exact contract H enc W base args ds gs before hval hW (hcond _ rfl) hL hsh

theorem over : Rows.PaperFilesUptoSaid :=
  OpenClaim.holds_of_cond 7 Tryz.f7 rfl rfl rfl rfl rfl rfl rfl ⟨rfl, rfl, rfl, rfl, rfl⟩ rfl rfl rfl rfl rfl (by kernel_rfl) Tryz.func7 (by kernel_rfl)
    (of_decide_eq_true (by kernel_rfl)) (by unfold Func.isWrapper; first | (rw [if_pos (by decide +kernel)]; kernel_rfl) | (rw [if_neg (by decide +kernel)]; exact ⟨rfl, rfl⟩))
    (fun os started H enc _ F => by rw [OpenClaim.pre_eq_preRow]; exact lifted os started H enc F)

theorem plain (f : FuncId) (fn : Func) (hf : Tryz.pinned.checked.prog.funcNamed "granary/granarylaw4.PaperFiles" = some f) (hfn : Tryz.pinned.checked.prog.funcs[f]? = some fn) :
    false = Tryz.pinned.checked.prog.looks [] ∧ ∀ (j : Nat) t, fn.params[j]? = some t → Tryz.pinned.checked.prog.wantsStandIn t = false := by
  obtain rfl : f = 7 := Option.some.inj ((show Tryz.prog.funcNamed "granary/granarylaw4.PaperFiles" = some 7 by kernel_rfl).symm.trans hf) |>.symm
  obtain rfl : fn = Tryz.f7 := (Option.some.inj (Tryz.func7.symm.trans hfn)).symm
  refine ⟨by kernel_rfl, fun j t ht => ?_⟩
  rw [params] at ht
  have hm := Array.mem_of_getElem? ht
  have h2 : t = 9 ∨ t = 76 := by simpa using hm
  rcases h2 with rfl | rfl
  · exact (show Tryz.prog.wantsStandIn 9 = false by kernel_rfl)
  · exact (show Tryz.prog.wantsStandIn 76 = false by kernel_rfl)
end Go.Proofs.YthlpfhjcdedhgaaGreatDoor.paperFiles
namespace Go.Proofs.YthlpfhjcdedhgaaGreatDoor

theorem paperFiles_proved : Rows.PaperFilesUptoCardSaid :=
  Claim7.holds_tied_plain_at .later [] _ _ _ _ paperFiles.over (fun _ h => by cases h) (by kernel_rfl) (fun _ h => by cases h) paperFilesUpto_row_tie rfl ⟨rfl, rfl⟩ (by kernel_rfl) rfl paperFiles.plain (by kernel_rfl)
end Go.Proofs.YthlpfhjcdedhgaaGreatDoor
