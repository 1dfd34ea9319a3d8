/-
  Layer 4 (paper): part X: the laid tables; the law of notes.
-/
import Derived.Test.YthlpfhjcdedhgaaDoorPapW
import Derived.Test.YthlpfhjcdedhgaaDoorLiftV
import Derived.Test.YthlpfhjcdedhgaaDoorRows
import Derived.WalkKit
import Derived.ProofKit
import Derived.LaidLaws
import Derived.Lib.LaidTab
namespace Go.Proofs.YthlpfhjcdedhgaaDoor
open Go.Lift
set_option linter.unusedSimpArgs false
set_option linter.unusedVariables false
noncomputable def gTy (g : Nat) : TypeId := ((Tryd.prog.globals[g]?).map (·.type)).getD 0
noncomputable def eTy (g : Nat) : TypeId := match Tryd.prog.underlying (gTy g) with
  | some (.array _ e) => e
  | _ => 0
theorem bk_of_var {W : World} {name : String} {k : IntKind} {zs : List Int} {g : Nat} (hg : Tryd.prog.globalNamed name = some g) (h : Lib.TabIs Tryd.prog W name k zs) : bk W g = some (zs.map fun z => Value.int k z) := by
  unfold Lib.TabIs World.var? at h
  rw [hg] at h
  simp only [Option.bind_some] at h
  unfold bk
  cases hh : W.heap[g]? with
  | none => rw [hh] at h; cases h
  | some x =>
    rw [hh] at h
    cases x with
    | cells c t m =>
      simp only [Option.some.injEq] at h
      subst h
      simp
    | _ => cases h
/-- One variable of the list, and the rest. -/
theorem tab_step {W : World} {name : String} {k : IntKind} {zs : List Int} {rest : List (String × DataW Unit)} {g : Nat} {t e : TypeId} {n : Nat} {ps : List MemPlace}
    (hg : Tryd.prog.globalNamed name = some g) (hty : (Tryd.prog.globals[g]?).map (·.type) = some t) (ht : Tryd.prog.underlying t = some (.array n e)) (he : Tryd.prog.underlying e = some (.int k)) (hce : Tryd.prog.cellsOf e = 1) (hct : Tryd.prog.cellsOf t = n)
    (h : DataW.LaidVars Tryd.prog W ((name, Lib.tabData k zs) :: rest) ps) : bk W g = some (zs.map fun z => Value.int k z) ∧ ∃ q, DataW.LaidVars Tryd.prog W rest q := by
  obtain ⟨g', t', cs, fuel, p, q, hg', ht', hvar, hd, hr, _⟩ := h
  obtain rfl := Option.some.inj (hg.symm.trans hg')
  obtain rfl := Option.some.inj (hty.symm.trans ht')
  refine ⟨bk_of_var hg ?_, q, hr⟩
  unfold Lib.TabIs
  rw [hvar, ← Lib.cells_of_tab ht he hce hct hd]
def nibZ : List Int := [0, 498536548, 997073096, 651767980, 1994146192, 1802195444, 1303535960, 1342533948, 3988292384, 4027552580, 3604390888, 3412177804, 2607071920, 2262029012, 2685067896, 3183342108]
def deb64 : List Int := [0,1,56,2,57,49,28,3,61,58,42,50,38,29,17,4,62,47,59,36,45,43,51,22,53,39,33,30,24,18,12,5,63,55,48,27,60,41,37,16,46,35,44,21,52,32,23,11,54,26,40,15,34,20,31,10,25,14,19,9,13,8,7,6]
def deb32 : List Int := [0,1,28,2,29,14,24,3,30,22,20,15,25,17,4,8,31,27,13,23,21,19,16,7,26,12,18,6,11,5,10,9]
theorem ml_of {W : World} (h : W.ShapedOpen Tryd.prog) : ∃ m : Int, bk W 1 = some [.int .i64 m] := by
  obtain ⟨cs, hh, hs, _⟩ := h.1 1 #[.int .i64 0] 3 (of_decide_eq_true (by kernel_rfl)) (by kernel_rfl)
  obtain ⟨m, hm⟩ := cell_of_shapedOpen_int (P := Tryd.prog) (g := 1) (t := 3) (zero := #[.int .i64 0]) h (of_decide_eq_true (by kernel_rfl)) (by kernel_rfl) rfl (by kernel_rfl) (by kernel_rfl) (show Tryd.prog.underlying 3 = some (.int .i64) by kernel_rfl)
  refine ⟨m, ?_⟩
  unfold World.cell? at hm
  rw [hh] at hm
  simp at hm
  unfold bk
  rw [hh]
  have h1 : cs.size = 1 := hs
  obtain ⟨x, rfl⟩ : ∃ x, cs = #[x] := by
    obtain ⟨l⟩ := cs
    match l, h1 with
    | [x], _ => exact ⟨x, rfl⟩
  simp at hm
  rw [hm]
theorem tb_of {W : World} (h : laidMetH Tryd.prog Rows.paperNotesUptoRow.laid W) (hsh : W.ShapedOpen Tryd.prog) : Tb W := by
  have h' : laidMet Tryd.prog Rows.paperNotesUptoRow.laid W := h
  obtain ⟨ps, hv, _⟩ := h'
  obtain ⟨b3, q3, v3⟩ := tab_step (k := .u8) (zs := deb32) (g := 3) (t := gTy 3) (e := eTy 3) (n := 32) (by kernel_rfl) (by kernel_rfl) (by kernel_rfl) (by kernel_rfl) (by kernel_rfl) (by kernel_rfl) hv
  obtain ⟨b4, q4, v4⟩ := tab_step (k := .u8) (zs := deb64) (g := 4) (t := gTy 4) (e := eTy 4) (n := 64) (by kernel_rfl) (by kernel_rfl) (by kernel_rfl) (by kernel_rfl) (by kernel_rfl) (by kernel_rfl) v3
  obtain ⟨b0, q0, v0⟩ := tab_step (k := .u32) (zs := nibZ) (g := 0) (t := gTy 0) (e := eTy 0) (n := 16) (by kernel_rfl) (by kernel_rfl) (by kernel_rfl) (by kernel_rfl) (by kernel_rfl) (by kernel_rfl) v4
  obtain ⟨b2, q2, v2⟩ := tab_step (k := .u64) (zs := Lib.pow10Tab) (g := 2) (t := gTy 2) (e := eTy 2) (n := 20) (by kernel_rfl) (by kernel_rfl) (by kernel_rfl) (by kernel_rfl) (by kernel_rfl) (by kernel_rfl) v0
  exact ⟨b0, ml_of hsh, b2, _, b4, rfl⟩
theorem rd4 {w : World} {cs : Array Value} {n : Nat} (h : (Shs.int .i64 (.int .i64 (.int .i64 (.int .i64 .nil)))).Rd w cs.toList n) : ∃ m : Nt, .agg cs = m.v := by
  obtain ⟨a, _, _, h1, _, _, b, _, _, h2, _, _, c, _, _, h3, _, _, d, _, _, h4, _, _, h5⟩ := h
  subst h5; subst h4; subst h3; subst h2
  refine ⟨⟨a, b, c, d⟩, ?_⟩
  cases cs
  simp at h1
  rw [h1]
  rfl
theorem sb_self (s : ByteArray) : s = sb s.data.toList := rfl
theorem paperNotes_top {W : World} {cs : Array Value} {n : Nat} (hv : (Shs.int .i64 (.int .i64 (.int .i64 (.int .i64 .nil)))).Rd W cs.toList n) {n0 : Nat} (s : ByteArray) (hs : s.size + 1 ≤ n0) (hk : n + n0 ≤ 1048576) (hL : laidMetH Tryd.prog Rows.paperNotesUptoRow.laid W) (hsh : W.ShapedOpen Tryd.prog) :
    Run (F.granarylaw4_PaperNotes (.agg cs) (.string s)) W fun r w' => r = .bool true ∧ Fr (fun _ => False) W w' := by
  obtain ⟨m, hm⟩ := rd4 hv
  rw [hm, sb_self s]
  have hl : s.data.toList.length = s.size := Array.length_toList
  exact notes_walk (tb_of hL hsh) m (by omega)
end Go.Proofs.YthlpfhjcdedhgaaDoor
