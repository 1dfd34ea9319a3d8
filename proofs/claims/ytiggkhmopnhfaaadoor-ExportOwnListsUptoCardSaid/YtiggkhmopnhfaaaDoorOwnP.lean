/-
  ExportOwnLists: messages and reports are the caller's own lists.
  For every input whose reading is of bulk at most 1048576; the row lists the package variables granaryref6.greatest, uint64pow10, deBruijn32tab and deBruijn64tab, tied by the card to the program's text.
-/
import Derived.Test.YtiggkhmopnhfaaaDoorOwnX
import Derived.Test.YtiggkhmopnhfaaaDoorCards
import Derived.Test.YtiggkhmopnhfaaaDoorTie
namespace Go.Proofs.YtiggkhmopnhfaaaDoor.exportOwnLists
open Go.Lift Go.ChangeShapes Go.WideShapes Go.ChangeAt Go.RowKit
set_option linter.unusedVariables false

noncomputable def gTy (g : Nat) : TypeId := ((Tryd.prog.globals[g]?).map (·.type)).getD 0
noncomputable def eTy (g : Nat) : TypeId := match Tryd.prog.underlying (gTy g) with
  | some (.array _ e) => e
  | _ => 0
theorem bk_of_var {W : World} {name : String} {k : IntKind} {zs : List Int} {g : Nat} (hg : Tryd.prog.globalNamed name = some g) (h : Lib.TabIs Tryd.prog W name k zs) : bk W g = some (zs.map fun z => Value.int k z) := by
  unfold Lib.TabIs World.var? at h
  rw [hg] at h
  simp only [Option.bind_some] at h
  unfold bk
  cases hh : W.heap[g]? with
  | none => rw [hh] at h; cases h
  | some x =>
    rw [hh] at h
    cases x with
    | cells c t m =>
      simp only [Option.some.injEq] at h
      subst h
      simp
    | _ => cases h
/-- One variable of the list, and the rest. -/
theorem tab_step {W : World} {name : String} {k : IntKind} {zs : List Int} {rest : List (String × DataW Unit)} {g : Nat} {t e : TypeId} {n : Nat} {ps : List MemPlace}
    (hg : Tryd.prog.globalNamed name = some g) (hty : (Tryd.prog.globals[g]?).map (·.type) = some t) (ht : Tryd.prog.underlying t = some (.array n e)) (he : Tryd.prog.underlying e = some (.int k)) (hce : Tryd.prog.cellsOf e = 1) (hct : Tryd.prog.cellsOf t = n)
    (h : DataW.LaidVars Tryd.prog W ((name, Lib.tabData k zs) :: rest) ps) : bk W g = some (zs.map fun z => Value.int k z) ∧ ∃ q, DataW.LaidVars Tryd.prog W rest q := by
  obtain ⟨g', t', cs, fuel, p, q, hg', ht', hvar, hd, hr, _⟩ := h
  obtain rfl := Option.some.inj (hg.symm.trans hg')
  obtain rfl := Option.some.inj (hty.symm.trans ht')
  refine ⟨bk_of_var hg ?_, q, hr⟩
  unfold Lib.TabIs
  rw [hvar, ← Lib.cells_of_tab ht he hce hct hd]
theorem g0n : Tryd.prog.globalNamed "granary/granaryref6.greatest" = some 0 := by kernel_rfl
theorem g0t : (Tryd.prog.globals[0]?).map (·.type) = some (gTy 0) := by kernel_rfl
theorem g0u : Tryd.prog.underlying (gTy 0) = some (.array 21 (eTy 0)) := by kernel_rfl
theorem g0c : Tryd.prog.cellsOf (gTy 0) = 21 := by kernel_rfl
theorem g0e : Tryd.prog.underlying (eTy 0) = some (.int .i64) := by kernel_rfl
theorem g0k : Tryd.prog.cellsOf (eTy 0) = 1 := by kernel_rfl
theorem g1n : Tryd.prog.globalNamed "internal/strconv.uint64pow10" = some 1 := by kernel_rfl
theorem g1t : (Tryd.prog.globals[1]?).map (·.type) = some (gTy 1) := by kernel_rfl
theorem g1u : Tryd.prog.underlying (gTy 1) = some (.array 20 (eTy 1)) := by kernel_rfl
theorem g1c : Tryd.prog.cellsOf (gTy 1) = 20 := by kernel_rfl
theorem g1e : Tryd.prog.underlying (eTy 1) = some (.int .u64) := by kernel_rfl
theorem g1k : Tryd.prog.cellsOf (eTy 1) = 1 := by kernel_rfl
theorem g2n : Tryd.prog.globalNamed "math/bits.deBruijn32tab" = some 2 := by kernel_rfl
theorem g2t : (Tryd.prog.globals[2]?).map (·.type) = some (gTy 2) := by kernel_rfl
theorem g2u : Tryd.prog.underlying (gTy 2) = some (.array 32 (eTy 2)) := by kernel_rfl
theorem g2c : Tryd.prog.cellsOf (gTy 2) = 32 := by kernel_rfl
theorem g2e : Tryd.prog.underlying (eTy 2) = some (.int .u8) := by kernel_rfl
theorem g2k : Tryd.prog.cellsOf (eTy 2) = 1 := by kernel_rfl
theorem g3n : Tryd.prog.globalNamed "math/bits.deBruijn64tab" = some 3 := by kernel_rfl
theorem g3t : (Tryd.prog.globals[3]?).map (·.type) = some (gTy 3) := by kernel_rfl
theorem g3u : Tryd.prog.underlying (gTy 3) = some (.array 64 (eTy 3)) := by kernel_rfl
theorem g3c : Tryd.prog.cellsOf (gTy 3) = 64 := by kernel_rfl
theorem g3e : Tryd.prog.underlying (eTy 3) = some (.int .u8) := by kernel_rfl
theorem g3k : Tryd.prog.cellsOf (eTy 3) = 1 := by kernel_rfl
theorem tabs {W : World} (h : laidMetH Tryd.prog Rows.exportOwnListsUptoRow.laid W) : bk W 0 = some greatV ∧ bk W 1 = some powV := by
  have h' : laidMet Tryd.prog Rows.exportOwnListsUptoRow.laid W := h
  obtain ⟨ps, hv, _⟩ := h'
  obtain ⟨b2, q2, v2⟩ := tab_step (zs := [0, 1, 28, 2, 29, 14, 24, 3, 30, 22, 20, 15, 25, 17, 4, 8, 31, 27, 13, 23, 21, 19, 16, 7, 26, 12, 18, 6, 11, 5, 10, 9]) g2n g2t g2u g2e g2k g2c hv
  obtain ⟨b3, q3, v3⟩ := tab_step (zs := [0, 1, 56, 2, 57, 49, 28, 3, 61, 58, 42, 50, 38, 29, 17, 4, 62, 47, 59, 36, 45, 43, 51, 22, 53, 39, 33, 30, 24, 18, 12, 5, 63, 55, 48, 27, 60, 41, 37, 16, 46, 35, 44, 21, 52, 32, 23, 11, 54, 26, 40, 15, 34, 20, 31, 10, 25, 14, 19, 9, 13, 8, 7, 6]) g3n g3t g3u g3e g3k g3c v2
  obtain ⟨b1, q1, v1⟩ := tab_step (zs := [1, 10, 100, 1000, 10000, 100000, 1000000, 10000000, 100000000, 1000000000, 10000000000, 100000000000, 1000000000000, 10000000000000, 100000000000000, 1000000000000000, 10000000000000000, 100000000000000000, 1000000000000000000, 10000000000000000000]) g1n g1t g1u g1e g1k g1c v3
  obtain ⟨b0, q0, v0⟩ := tab_step (zs := [16, 16, 16, 8, 4096, 65536, 1024, 65536, 64, 1024, 1024, 1073741824, 1073741824, 1073741824, 1024, 64, 65536, 1024, 64, 1024, 7]) g0n g0t g0u g0e g0k g0c v1
  exact ⟨b0, b1⟩

theorem own : ownKnob Tryd.prog.godebug = none := by kernel_rfl
theorem params : Tryd.f6.params = #[24, 25] := by kernel_rfl
theorem results : Tryd.f6.resultTypes = #[4] := by kernel_rfl
theorem und4 : Tryd.prog.underlying 4 = some .bool := by kernel_rfl
theorem laid : laidOutB Tryd.prog = true := by kernel_rfl
theorem rec24 : Tryd.prog.readableRec 24 = true := by kernel_rfl
theorem rec25 : Tryd.prog.readableRec 25 = true := by kernel_rfl
theorem size24 : (decide (24 < Tryd.prog.types.size)) = true := by kernel_rfl
theorem size25 : (decide (25 < Tryd.prog.types.size)) = true := by kernel_rfl

set_option maxRecDepth 100000 in
theorem contract (H : Type) (enc : TypeId × Value → H) (W : World) (base : Nat) (args : Array Value) (ds gs : List (DataW H)) (before : List MemPlace)
    (hval : ∀ (j : Nat) t v, Tryd.f6.params[j]? = some t → args[j]? = some v → Value.okWide Tryd.prog W .any base t v)
    (hW : DataW.Whole enc Tryd.prog Tryd.f6.params.toList Rows.exportOwnListsSpec.vars false W args.toList ds gs before) (hk : Rows.uptoSmall H (ds ++ gs) = true) (hL : laidMetH Tryd.prog Rows.exportOwnListsUptoRow.laid W) :
    Calls Tryd.prog 6 args W fun e W' => ∃ v, e = .returned v ∧ Rows.exportOwnListsSpec.post enc Tryd.prog Tryd.f6 false true false false W args v W' := by
  have hW' := hW
  obtain ⟨p, q, hA0, hV, rfl, hfz, hnd⟩ := hW
  have hA : DataW.TrodAll enc Tryd.prog W 0 (fun _ => true) true Tryd.f6.params.toList args.toList ds p := hA0
  rw [params] at hA hval
  obtain ⟨v0, vs0, d0, ds0, p0, q0, hargs, rfl, rfl, h0, r0⟩ := trodAll_cons hA
  obtain ⟨v1, vs1, d1, ds1, p1, q1, rfl, rfl, rfl, h1, r1⟩ := trodAll_cons r0
  obtain ⟨rfl, rfl, rfl⟩ := trodAll_nil r1
  obtain rfl : args = #[v0, v1] := by cases args; simp_all
  obtain ⟨rfl, rfl⟩ := trodVars_none hV
  have hlt0 := DataW.TrodAll.lt hA
  obtain ⟨f0, h0'⟩ := h0
  obtain ⟨f1, h1'⟩ := h1
  obtain ⟨C, nv, pvs, hC, hN, hb1, hb2⟩ := read_cluster h0'
  obtain ⟨sv, ops, hS, hs, hfine, hol⟩ := read_ops h1'
  have ok0 := hval 0 24 v0 rfl rfl
  have ok1 := hval 1 25 v1 rfl rfl
  obtain rfl : v0 = C.val nv := by
    unfold Value.okWide at ok0
    rw [und24] at ok0
    obtain ⟨cs, rfl, _⟩ := ok0
    rw [cells_agg] at hC
    unfold Clu.val
    rw [← hC]
  obtain ⟨a, n, c, rfl⟩ := okWide_slice und25 ok1
  obtain rfl : Value.slice a n c = sv := by simpa using hS
  have hk' : Rows.uptoBulk d0 + (Rows.uptoBulk d1 + 0) ≤ 1048576 := by
    have : Rows.uptoBulkAll ([d0, d1] ++ []) ≤ 1048576 := by simpa [Rows.uptoSmall] using hk
    simpa [Rows.uptoBulkAll] using this
  simp only at hb1 hb2 hol
  have hF : Fits C := ⟨by omega, by omega⟩
  obtain ⟨r, W', hrun, rfl, fr⟩ := ownlists_top hN hF (tabs hL).1 (tabs hL).2 hs hfine (by omega)
  have hcall := LiftOk.calls (F.granarylaw21_ExportOwnLists.lift) (args := [C.val nv, Value.slice a n c]) Tryd.func6 (by kernel_rfl) (by kernel_rfl) hrun
  have hbel : Below W.heap.size W W' := ⟨fr.os, fr.tape, fr.output, fr.size, fun k hk => fr.block k hk id⟩
  refine hcall.mono fun e W'' ⟨he, hw⟩ => ?_
  subst hw
  refine ⟨_, he, [d0, d1], [], _, [], p0 ++ (p1 ++ []), [], hW', ?_, ?_, rfl, hbel.frame _, fun h => by cases h⟩
  · rw [results]
    exact trodAll_cons_mk (shut_bool und4 true) trodAll_mk0
  · rw [params]
    refine trodAll_cons_mk (Below.trod laid rec24 (of_decide_eq_true size24) ⟨f0, h0'⟩ hbel fun x hx => hlt0 x (by simp [hx])) ?_
    exact trodAll_cons_mk (Below.trod laid rec25 (of_decide_eq_true size25) ⟨f1, h1'⟩ hbel fun x hx => hlt0 x (by simp [hx])) trodAll_mk0

/-- A world for the witness: the settled one, the tables (blocks 0 to 3) as their initialisers lay them. -/
noncomputable def wit : Array Value := #[.agg #[.string ByteArray.empty, .int .i64 0, .int .i64 0, .int .i64 0, .int .i64 0, .int .i64 0, .int .i64 0, .int .i64 0, .int .i64 0, .int .i64 0, .int .i64 0, .int .i64 0, .int .i64 0, .int .i64 0, .int .i64 0, .int .i64 0, .int .i64 0, .int .i64 0, .int .i64 0, .int .i64 0, .int .i64 0, .int .i64 0, .slice none 0 0], .slice none 0 0]
noncomputable def putTab (w : World) (g : Nat) (l : Array Value) : World := { w with heap := w.heap.modify g fun
      | .cells _ t frozen => .cells l t frozen
      | o => o }
noncomputable def laidWorld (os : Os) : World :=
  putTab (putTab (putTab (putTab (World.holding Tryd.prog os ⟨#[], #[], []⟩) 0 #[.int .i64 16, .int .i64 16, .int .i64 16, .int .i64 8, .int .i64 4096, .int .i64 65536, .int .i64 1024, .int .i64 65536, .int .i64 64, .int .i64 1024, .int .i64 1024, .int .i64 1073741824, .int .i64 1073741824, .int .i64 1073741824, .int .i64 1024, .int .i64 64, .int .i64 65536, .int .i64 1024, .int .i64 64, .int .i64 1024, .int .i64 7]) 1 #[.int .u64 1, .int .u64 10, .int .u64 100, .int .u64 1000, .int .u64 10000, .int .u64 100000, .int .u64 1000000, .int .u64 10000000, .int .u64 100000000, .int .u64 1000000000, .int .u64 10000000000, .int .u64 100000000000, .int .u64 1000000000000, .int .u64 10000000000000, .int .u64 100000000000000, .int .u64 1000000000000000, .int .u64 10000000000000000, .int .u64 100000000000000000, .int .u64 1000000000000000000, .int .u64 10000000000000000000]) 2 #[.int .u8 0, .int .u8 1, .int .u8 28, .int .u8 2, .int .u8 29, .int .u8 14, .int .u8 24, .int .u8 3, .int .u8 30, .int .u8 22, .int .u8 20, .int .u8 15, .int .u8 25, .int .u8 17, .int .u8 4, .int .u8 8, .int .u8 31, .int .u8 27, .int .u8 13, .int .u8 23, .int .u8 21, .int .u8 19, .int .u8 16, .int .u8 7, .int .u8 26, .int .u8 12, .int .u8 18, .int .u8 6, .int .u8 11, .int .u8 5, .int .u8 10, .int .u8 9]) 3 #[.int .u8 0, .int .u8 1, .int .u8 56, .int .u8 2, .int .u8 57, .int .u8 49, .int .u8 28, .int .u8 3, .int .u8 61, .int .u8 58, .int .u8 42, .int .u8 50, .int .u8 38, .int .u8 29, .int .u8 17, .int .u8 4, .int .u8 62, .int .u8 47, .int .u8 59, .int .u8 36, .int .u8 45, .int .u8 43, .int .u8 51, .int .u8 22, .int .u8 53, .int .u8 39, .int .u8 33, .int .u8 30, .int .u8 24, .int .u8 18, .int .u8 12, .int .u8 5, .int .u8 63, .int .u8 55, .int .u8 48, .int .u8 27, .int .u8 60, .int .u8 41, .int .u8 37, .int .u8 16, .int .u8 46, .int .u8 35, .int .u8 44, .int .u8 21, .int .u8 52, .int .u8 32, .int .u8 23, .int .u8 11, .int .u8 54, .int .u8 26, .int .u8 40, .int .u8 15, .int .u8 34, .int .u8 20, .int .u8 31, .int .u8 10, .int .u8 25, .int .u8 14, .int .u8 19, .int .u8 9, .int .u8 13, .int .u8 8, .int .u8 7, .int .u8 6]
theorem laid_met (os : Os) : laidMet Tryd.prog Rows.exportOwnListsUptoRow.laid ((laidWorld os).forCall (fun _ _ => 0) ⟨#[], wit, []⟩).memory :=
  laidMet_of_run' 8 (by kernel_rfl) (by kernel_rfl)
theorem reads (os : Os) {H : Type} (enc : TypeId × Value → H) : ∃ places, DataW.whole enc Tryd.prog ((laidWorld os).forCall (fun _ _ => 0) ⟨#[], wit, []⟩).memory Tryd.f6.params.toList Rows.exportOwnListsSpec.vars false wit.toList 8 = some ([.agg [.lit (.string []), .lit (.int .i64 0), .lit (.int .i64 0), .lit (.int .i64 0), .lit (.int .i64 0), .lit (.int .i64 0), .lit (.int .i64 0), .lit (.int .i64 0), .lit (.int .i64 0), .lit (.int .i64 0), .lit (.int .i64 0), .lit (.int .i64 0), .lit (.int .i64 0), .lit (.int .i64 0), .lit (.int .i64 0), .lit (.int .i64 0), .lit (.int .i64 0), .lit (.int .i64 0), .lit (.int .i64 0), .lit (.int .i64 0), .lit (.int .i64 0), .lit (.int .i64 0), .nil], .nil], [], places) :=
  ⟨[], by kernel_rfl⟩

set_option maxRecDepth 100000 in
theorem lifted (os : Os) (started : os.Started) (H : Type) (enc : TypeId × Value → H) (F : Stop.Interp) :
    ReturnsInHanded {} Tryd.checked os 6 .any ((Rows.OpenSpec.upto Rows.exportOwnListsSpec).preRow enc Tryd.prog Tryd.f6 Rows.exportOwnListsUptoRow.domain false Rows.exportOwnListsUptoRow.laid) (((Rows.OpenSpec.upto Rows.exportOwnListsSpec).at F).post enc Tryd.prog Tryd.f6 false true false false) := by
  obtain ⟨places, hx⟩ := reads os enc
  refine returnsInHanded_of_row (C := Tryd.checked) (s := Rows.OpenSpec.upto Rows.exportOwnListsSpec) own started (by kernel_rfl) Tryd.func6
    (witness_row_at (enc := enc) (C := Tryd.checked) false (laidWorld os) wit rfl (by kernel_rfl) (by kernel_rfl) (by kernel_rfl)
      (OpenSpec.preRow_of_cond 8 hx (by kernel_rfl) (fun k hk => by cases hk; kernel_rfl) (by kernel_rfl) (laid_met os))) ?_
  intro W base args ds gs before hval hW _ hcond _ hL _ _
  exact contract H enc W base args ds gs before hval hW (hcond _ rfl) hL

theorem over : Rows.ExportOwnListsUptoSaid :=
  OpenClaim.holds_of_cond 6 Tryd.f6 rfl rfl rfl rfl rfl rfl rfl ⟨rfl, rfl, rfl, rfl, rfl⟩ rfl rfl rfl rfl rfl (by kernel_rfl) Tryd.func6 (by kernel_rfl)
    (of_decide_eq_true (by kernel_rfl)) (by unfold Func.isWrapper; first | (rw [if_pos (by decide +kernel)]; kernel_rfl) | (rw [if_neg (by decide +kernel)]; exact ⟨rfl, rfl⟩))
    (fun os started H enc _ F => by rw [OpenClaim.pre_eq_preRow]; exact lifted os started H enc F)

theorem plain (f : FuncId) (fn : Func) (hf : Tryd.pinned.checked.prog.funcNamed "granary/granarylaw21.ExportOwnLists" = some f) (hfn : Tryd.pinned.checked.prog.funcs[f]? = some fn) :
    false = Tryd.pinned.checked.prog.looks [] ∧ ∀ (j : Nat) t, fn.params[j]? = some t → Tryd.pinned.checked.prog.wantsStandIn t = false := by
  obtain rfl : f = 6 := Option.some.inj ((show Tryd.prog.funcNamed "granary/granarylaw21.ExportOwnLists" = some 6 by kernel_rfl).symm.trans hf) |>.symm
  obtain rfl : fn = Tryd.f6 := (Option.some.inj (Tryd.func6.symm.trans hfn)).symm
  refine ⟨by kernel_rfl, fun j t ht => ?_⟩
  rw [params] at ht
  have hm := Array.mem_of_getElem? ht
  have h2 : t = 24 ∨ t = 25 := by simpa using hm
  rcases h2 with rfl | rfl
  · exact (show Tryd.prog.wantsStandIn 24 = false by kernel_rfl)
  · exact (show Tryd.prog.wantsStandIn 25 = false by kernel_rfl)
end Go.Proofs.YtiggkhmopnhfaaaDoor.exportOwnLists
namespace Go.Proofs.YtiggkhmopnhfaaaDoor

theorem exportOwnLists_proved : Rows.ExportOwnListsUptoCardSaid :=
  Claim7.holds_tied_plain_at .later [] _ _ _ _ exportOwnLists.over (fun _ h => by cases h) (by kernel_rfl) (fun _ h => by cases h) exportOwnListsUpto_row_tie rfl ⟨rfl, rfl⟩ (by kernel_rfl) rfl exportOwnLists.plain (by kernel_rfl)
end Go.Proofs.YtiggkhmopnhfaaaDoor
