/-
  PaperJournal (PaperJournalUptoCardSaid): for every input whose reading is of bulk at most 1048576 the call returns true, and each argument reads behind the call as it read before.
  The row lists package variables, tied by the card to the program's text.
-/
import Derived.Test.YthlpfhjcdedhgaaDoorPxD
import Derived.Test.YthlpfhjcdedhgaaDoorLiftV
import Derived.Test.YthlpfhjcdedhgaaDoorCards
import Derived.Test.YthlpfhjcdedhgaaDoorTie
import Derived.WalkKit
import Derived.ProofKit
import Derived.OpenShut
import Derived.JoinedCond
import Derived.Carry
import Derived.LaidLaws
import Derived.Deep.DeepHandedRow
namespace Go.Proofs.YthlpfhjcdedhgaaDoor.paperJournal
open Go.Lift Go.ChangeShapes Go.WideShapes Go.ChangeAt Go.RowKit
set_option linter.unusedVariables false

theorem own : ownKnob Tryd.prog.godebug = none := by kernel_rfl
theorem params : Tryd.f5.params = #[37, 23, 3, 3, 3, 9] := by kernel_rfl
theorem results : Tryd.f5.resultTypes = #[4] := by kernel_rfl
theorem undR : Tryd.prog.underlying 4 = some .bool := by kernel_rfl
theorem laid : laidOutB Tryd.prog = true := by kernel_rfl
noncomputable def fsOf (t : TypeId) : Array Field := match Tryd.prog.underlying t with
  | some (.struct fs) => fs
  | _ => #[]
theorem und37 : Tryd.prog.underlying 37 = some (.slice 23) := by kernel_rfl
theorem rec37 : Tryd.prog.readableRec 37 = true := by kernel_rfl
theorem size37 : (decide (37 < Tryd.prog.types.size)) = true := by kernel_rfl
theorem sh37 : shOf Tryd.prog 9 37 = some (.slice (.int .i64 (.int .i64 (.int .i64 (.int .i64 .nil)))) .nil) := by kernel_rfl
theorem und23 : Tryd.prog.underlying 23 = some (.struct (fsOf 23)) := by kernel_rfl
theorem rec23 : Tryd.prog.readableRec 23 = true := by kernel_rfl
theorem size23 : (decide (23 < Tryd.prog.types.size)) = true := by kernel_rfl
theorem sh23 : shOf Tryd.prog 9 23 = some (.int .i64 (.int .i64 (.int .i64 (.int .i64 .nil)))) := by kernel_rfl
theorem und3 : Tryd.prog.underlying 3 = some (.int .i64) := by kernel_rfl
theorem rec3 : Tryd.prog.readableRec 3 = true := by kernel_rfl
theorem size3 : (decide (3 < Tryd.prog.types.size)) = true := by kernel_rfl
theorem und9 : Tryd.prog.underlying 9 = some .string := by kernel_rfl
theorem rec9 : Tryd.prog.readableRec 9 = true := by kernel_rfl
theorem size9 : (decide (9 < Tryd.prog.types.size)) = true := by kernel_rfl

set_option maxRecDepth 100000 in
set_option maxHeartbeats 2000000 in
theorem contract (H : Type) (enc : TypeId × Value → H) (W : World) (base : Nat) (args : Array Value) (ds gs : List (DataW H)) (before : List MemPlace)
    (hval : ∀ (j : Nat) t v, Tryd.f5.params[j]? = some t → args[j]? = some v → Value.okWide Tryd.prog W .any base t v)
    (hW : DataW.Whole enc Tryd.prog Tryd.f5.params.toList Rows.paperJournalSpec.vars false W args.toList ds gs before) (hk : Rows.uptoSmall H (ds ++ gs) = true) (hL : laidMetH Tryd.prog Rows.paperJournalUptoRow.laid W) (hsh : W.ShapedOpen Tryd.prog) :
    Calls Tryd.prog 5 args W fun e W' => ∃ v, e = .returned v ∧ Rows.paperJournalSpec.post enc Tryd.prog Tryd.f5 false true false false W args v W' := by
  have hW' := hW
  obtain ⟨p, q, hA0, hV, rfl, hfz, hnd⟩ := hW
  have hA : DataW.TrodAll enc Tryd.prog W 0 (fun _ => true) true Tryd.f5.params.toList args.toList ds p := hA0
  rw [params] at hA hval
  obtain ⟨v0, vs0, d0, ds0, p0, q0, hargs, rfl, rfl, h0, r0⟩ := trodAll_cons hA
  obtain ⟨v1, vs1, d1, ds1, p1, q1, rfl, rfl, rfl, h1, r1⟩ := trodAll_cons r0
  obtain ⟨v2, vs2, d2, ds2, p2, q2, rfl, rfl, rfl, h2, r2⟩ := trodAll_cons r1
  obtain ⟨v3, vs3, d3, ds3, p3, q3, rfl, rfl, rfl, h3, r3⟩ := trodAll_cons r2
  obtain ⟨v4, vs4, d4, ds4, p4, q4, rfl, rfl, rfl, h4, r4⟩ := trodAll_cons r3
  obtain ⟨v5, vs5, d5, ds5, p5, q5, rfl, rfl, rfl, h5, r5⟩ := trodAll_cons r4
  obtain ⟨rfl, rfl, rfl⟩ := trodAll_nil r5
  obtain rfl : args = #[v0, v1, v2, v3, v4, v5] := by cases args; simp_all
  obtain ⟨rfl, rfl⟩ := trodVars_none hV
  have hlt0 := DataW.TrodAll.lt hA
  obtain ⟨f0, h0'⟩ := h0
  obtain ⟨f1, h1'⟩ := h1
  obtain ⟨f2, h2'⟩ := h2
  obtain ⟨f3, h3'⟩ := h3
  obtain ⟨f4, h4'⟩ := h4
  obtain ⟨f5, h5'⟩ := h5
  have ok0 := hval 0 37 v0 rfl rfl
  have ok1 := hval 1 23 v1 rfl rfl
  have ok2 := hval 2 3 v2 rfl rfl
  have ok3 := hval 3 3 v3 rfl rfl
  have ok4 := hval 4 3 v4 rfl rfl
  have ok5 := hval 5 9 v5 rfl rfl
  obtain ⟨x0, y0, z0, rfl⟩ := okWide_slice und37 ok0
  have b0 := rd_of_trod 9 37 _ _ _ _ sh37 h0'
  obtain ⟨a1, rfl, _⟩ := okWide_struct und23 ok1
  have b1 := rd_of_trod 9 23 _ _ _ _ sh23 h1'
  obtain ⟨a2, rfl⟩ := okWide_int und3 ok2
  obtain ⟨a3, rfl⟩ := okWide_int und3 ok3
  obtain ⟨a4, rfl⟩ := okWide_int und3 ok4
  obtain ⟨a5, rfl⟩ := okWide_string und9 ok5
  have b5 : a5.size + 1 ≤ Rows.uptoBulk d5 := by
    obtain ⟨s, hs, hx, _⟩ := DataW.trod_string und9 h5'
    obtain rfl : s = a5 := by simpa using hs.symm
    simp only [Prod.mk.injEq] at hx
    rw [hx.1]
    simp only [Rows.uptoBulk, Array.length_toList]
    exact Nat.le_refl _
  have hk' : Rows.uptoBulk d0 + Rows.uptoBulk d1 + Rows.uptoBulk d2 + Rows.uptoBulk d3 + Rows.uptoBulk d4 + Rows.uptoBulk d5 ≤ 1048576 := by
    have h0 : Rows.uptoBulkAll ([d0, d1, d2, d3, d4, d5] ++ []) ≤ 1048576 := of_decide_eq_true hk
    simp only [List.append_nil, Rows.uptoBulkAll] at h0
    omega
  obtain ⟨r, W', hrun, rfl, fr⟩ := paperJournal_top b0 b1 a2 a3 a4 a5 b5 hk' hL hsh
  have hcall := LiftOk.calls (F.granarylaw4_PaperJournal.lift) (args := [(.slice x0 y0 z0), (.agg a1), (.int .i64 a2), (.int .i64 a3), (.int .i64 a4), (.string a5)]) Tryd.func5 (by kernel_rfl) (by kernel_rfl) hrun
  have hbel : Below W.heap.size W W' := ⟨fr.os, fr.tape, fr.output, fr.size, fun k hk => fr.block k hk id⟩
  refine hcall.mono fun e W'' ⟨he, hw⟩ => ?_
  subst hw
  refine ⟨_, he, [d0, d1, d2, d3, d4, d5], [], _, [], p0 ++ (p1 ++ (p2 ++ (p3 ++ (p4 ++ (p5 ++ ([])))))), [], hW', ?_, ?_, rfl, hbel.frame _, fun h => by cases h⟩
  · rw [results]
    exact trodAll_cons_mk (shut_bool undR true) trodAll_mk0
  · rw [params]
    refine trodAll_cons_mk (Below.trod laid rec37 (of_decide_eq_true size37) ⟨f0, h0'⟩ hbel fun x hx => hlt0 x (by simp [hx])) ?_
    refine trodAll_cons_mk (Below.trod laid rec23 (of_decide_eq_true size23) ⟨f1, h1'⟩ hbel fun x hx => hlt0 x (by simp [hx])) ?_
    refine trodAll_cons_mk (Below.trod laid rec3 (of_decide_eq_true size3) ⟨f2, h2'⟩ hbel fun x hx => hlt0 x (by simp [hx])) ?_
    refine trodAll_cons_mk (Below.trod laid rec3 (of_decide_eq_true size3) ⟨f3, h3'⟩ hbel fun x hx => hlt0 x (by simp [hx])) ?_
    refine trodAll_cons_mk (Below.trod laid rec3 (of_decide_eq_true size3) ⟨f4, h4'⟩ hbel fun x hx => hlt0 x (by simp [hx])) ?_
    exact trodAll_cons_mk (Below.trod laid rec9 (of_decide_eq_true size9) ⟨f5, h5'⟩ hbel fun x hx => hlt0 x (by simp [hx])) trodAll_mk0

noncomputable def wit : Array Value := #[(Value.slice none 0 0), (.agg #[(Value.int IntKind.i64 0), (Value.int IntKind.i64 0), (Value.int IntKind.i64 0), (Value.int IntKind.i64 0)]), (Value.int IntKind.i64 0), (Value.int IntKind.i64 0), (Value.int IntKind.i64 0), (Value.string ByteArray.empty)]
/-- A world for the witness: the settled one, with the tables (digest's nibbles; strconv's powers of ten; math/bits' two; unicode/utf8's two) as their initialisers lay them. -/
noncomputable def putTab (w : World) (g : Nat) (l : Array Value) : World := { w with heap := w.heap.modify g fun
      | .cells _ t frozen => .cells l t frozen
      | o => o }
noncomputable def laidWorld (os : Os) : World :=
  putTab (putTab (putTab (putTab (putTab (putTab (World.holding Tryd.prog os ⟨#[], #[], []⟩) 0 #[.int .u32 0, .int .u32 498536548, .int .u32 997073096, .int .u32 651767980, .int .u32 1994146192, .int .u32 1802195444, .int .u32 1303535960, .int .u32 1342533948, .int .u32 3988292384, .int .u32 4027552580, .int .u32 3604390888, .int .u32 3412177804, .int .u32 2607071920, .int .u32 2262029012, .int .u32 2685067896, .int .u32 3183342108])
    2 #[.int .u64 1, .int .u64 10, .int .u64 100, .int .u64 1000, .int .u64 10000, .int .u64 100000, .int .u64 1000000, .int .u64 10000000, .int .u64 100000000, .int .u64 1000000000, .int .u64 10000000000, .int .u64 100000000000, .int .u64 1000000000000, .int .u64 10000000000000, .int .u64 100000000000000, .int .u64 1000000000000000, .int .u64 10000000000000000, .int .u64 100000000000000000, .int .u64 1000000000000000000, .int .u64 10000000000000000000])
    3 #[.int .u8 0, .int .u8 1, .int .u8 28, .int .u8 2, .int .u8 29, .int .u8 14, .int .u8 24, .int .u8 3, .int .u8 30, .int .u8 22, .int .u8 20, .int .u8 15, .int .u8 25, .int .u8 17, .int .u8 4, .int .u8 8, .int .u8 31, .int .u8 27, .int .u8 13, .int .u8 23, .int .u8 21, .int .u8 19, .int .u8 16, .int .u8 7, .int .u8 26, .int .u8 12, .int .u8 18, .int .u8 6, .int .u8 11, .int .u8 5, .int .u8 10, .int .u8 9])
    4 #[.int .u8 0, .int .u8 1, .int .u8 56, .int .u8 2, .int .u8 57, .int .u8 49, .int .u8 28, .int .u8 3, .int .u8 61, .int .u8 58, .int .u8 42, .int .u8 50, .int .u8 38, .int .u8 29, .int .u8 17, .int .u8 4, .int .u8 62, .int .u8 47, .int .u8 59, .int .u8 36, .int .u8 45, .int .u8 43, .int .u8 51, .int .u8 22, .int .u8 53, .int .u8 39, .int .u8 33, .int .u8 30, .int .u8 24, .int .u8 18, .int .u8 12, .int .u8 5, .int .u8 63, .int .u8 55, .int .u8 48, .int .u8 27, .int .u8 60, .int .u8 41, .int .u8 37, .int .u8 16, .int .u8 46, .int .u8 35, .int .u8 44, .int .u8 21, .int .u8 52, .int .u8 32, .int .u8 23, .int .u8 11, .int .u8 54, .int .u8 26, .int .u8 40, .int .u8 15, .int .u8 34, .int .u8 20, .int .u8 31, .int .u8 10, .int .u8 25, .int .u8 14, .int .u8 19, .int .u8 9, .int .u8 13, .int .u8 8, .int .u8 7, .int .u8 6])
    5 (Go.Pinned.utf8FirstZ.map fun z => Value.int .u8 (Int.ofNat z)).toArray)
    6 #[.int .u8 128, .int .u8 191, .int .u8 160, .int .u8 191, .int .u8 128, .int .u8 159, .int .u8 144, .int .u8 191, .int .u8 128, .int .u8 143, .int .u8 0, .int .u8 0, .int .u8 0, .int .u8 0, .int .u8 0, .int .u8 0, .int .u8 0, .int .u8 0, .int .u8 0, .int .u8 0, .int .u8 0, .int .u8 0, .int .u8 0, .int .u8 0, .int .u8 0, .int .u8 0, .int .u8 0, .int .u8 0, .int .u8 0, .int .u8 0, .int .u8 0, .int .u8 0]
theorem laid_met (os : Os) : laidMet Tryd.prog Rows.paperJournalUptoRow.laid ((laidWorld os).forCall (fun _ _ => 0) ⟨#[], wit, []⟩).memory :=
  laidMet_of_run' 8 (by kernel_rfl) (by kernel_rfl)
theorem reads (os : Os) {H : Type} (enc : TypeId × Value → H) : ∃ places, DataW.whole enc Tryd.prog ((laidWorld os).forCall (fun _ _ => 0) ⟨#[], wit, []⟩).memory Tryd.f5.params.toList Rows.paperJournalSpec.vars false wit.toList 9 = some ([.nil, .agg [.lit (.int .i64 0), .lit (.int .i64 0), .lit (.int .i64 0), .lit (.int .i64 0)], .lit (.int .i64 0), .lit (.int .i64 0), .lit (.int .i64 0), .lit (.string [])], [], places) :=
  ⟨[], by kernel_rfl⟩

set_option maxRecDepth 100000 in
theorem lifted (os : Os) (started : os.Started) (H : Type) (enc : TypeId × Value → H) (F : Stop.Interp) :
    ReturnsInHanded {} Tryd.checked os 5 .any ((Rows.OpenSpec.upto Rows.paperJournalSpec).preRow enc Tryd.prog Tryd.f5 Rows.paperJournalUptoRow.domain false Rows.paperJournalUptoRow.laid) (((Rows.OpenSpec.upto Rows.paperJournalSpec).at F).post enc Tryd.prog Tryd.f5 false true false false) := by
  obtain ⟨places, hx⟩ := reads os enc
  refine returnsInHanded_of_row (C := Tryd.checked) (s := Rows.OpenSpec.upto Rows.paperJournalSpec) own started (by kernel_rfl) Tryd.func5
    (witness_row_at (enc := enc) (C := Tryd.checked) false (laidWorld os) wit rfl (by kernel_rfl) (by kernel_rfl) (by kernel_rfl)
      (OpenSpec.preRow_of_cond 9 hx (by kernel_rfl) (fun k hk => by cases hk; kernel_rfl) (by kernel_rfl) (laid_met os))) ?_
  intro W base args ds gs before hval hW _ hcond _ hL hsh _
  exact contract H enc W base args ds gs before hval hW (hcond _ rfl) hL hsh

theorem over : Rows.PaperJournalUptoSaid :=
  OpenClaim.holds_of_cond 5 Tryd.f5 rfl rfl rfl rfl rfl rfl rfl ⟨rfl, rfl, rfl, rfl, rfl⟩ rfl rfl rfl rfl rfl (by kernel_rfl) Tryd.func5 (by kernel_rfl)
    (of_decide_eq_true (by kernel_rfl)) (by unfold Func.isWrapper; first | (rw [if_pos (by decide +kernel)]; kernel_rfl) | (rw [if_neg (by decide +kernel)]; exact ⟨rfl, rfl⟩))
    (fun os started H enc _ F => by rw [OpenClaim.pre_eq_preRow]; exact lifted os started H enc F)

theorem plain (f : FuncId) (fn : Func) (hf : Tryd.pinned.checked.prog.funcNamed "granary/granarylaw4.PaperJournal" = some f) (hfn : Tryd.pinned.checked.prog.funcs[f]? = some fn) :
    false = Tryd.pinned.checked.prog.looks [] ∧ ∀ (j : Nat) t, fn.params[j]? = some t → Tryd.pinned.checked.prog.wantsStandIn t = false := by
  obtain rfl : f = 5 := Option.some.inj ((show Tryd.prog.funcNamed "granary/granarylaw4.PaperJournal" = some 5 by kernel_rfl).symm.trans hf) |>.symm
  obtain rfl : fn = Tryd.f5 := (Option.some.inj (Tryd.func5.symm.trans hfn)).symm
  refine ⟨by kernel_rfl, fun j t ht => ?_⟩
  rw [params] at ht
  have hm := Array.mem_of_getElem? ht
  have h2 : t = 37 ∨ t = 23 ∨ t = 3 ∨ t = 3 ∨ t = 3 ∨ t = 9 := by simpa using hm
  rcases h2 with rfl | rfl | rfl | rfl | rfl | rfl
  · exact (show Tryd.prog.wantsStandIn 37 = false by kernel_rfl)
  · exact (show Tryd.prog.wantsStandIn 23 = false by kernel_rfl)
  · exact (show Tryd.prog.wantsStandIn 3 = false by kernel_rfl)
  · exact (show Tryd.prog.wantsStandIn 3 = false by kernel_rfl)
  · exact (show Tryd.prog.wantsStandIn 3 = false by kernel_rfl)
  · exact (show Tryd.prog.wantsStandIn 9 = false by kernel_rfl)
end Go.Proofs.YthlpfhjcdedhgaaDoor.paperJournal
namespace Go.Proofs.YthlpfhjcdedhgaaDoor

theorem paperJournal_proved : Rows.PaperJournalUptoCardSaid :=
  Claim7.holds_tied_plain_at .later [] _ _ _ _ paperJournal.over (fun _ h => by cases h) (by kernel_rfl) (fun _ h => by cases h) paperJournalUpto_row_tie rfl ⟨rfl, rfl⟩ (by kernel_rfl) rfl paperJournal.plain (by kernel_rfl)
end Go.Proofs.YthlpfhjcdedhgaaDoor
