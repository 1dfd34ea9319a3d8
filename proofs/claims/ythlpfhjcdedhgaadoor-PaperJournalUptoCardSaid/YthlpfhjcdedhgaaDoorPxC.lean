/-
  Layer 4 (paper): part X: the laid tables; the law of notes.
-/
import Derived.Test.YthlpfhjcdedhgaaDoorPxB
import Derived.Test.YthlpfhjcdedhgaaDoorLiftV
import Derived.Test.YthlpfhjcdedhgaaDoorRows
import Derived.WalkKit
import Derived.ProofKit
import Derived.LaidLaws
import Derived.Lib.LaidTab
namespace Go.Proofs.YthlpfhjcdedhgaaDoor
open Go.Lift
set_option linter.unusedSimpArgs false
set_option linter.unusedVariables false
noncomputable def gTy (g : Nat) : TypeId := ((Tryd.prog.globals[g]?).map (·.type)).getD 0
noncomputable def eTy (g : Nat) : TypeId := match Tryd.prog.underlying (gTy g) with
  | some (.array _ e) => e
  | _ => 0
theorem bk_of_var {W : World} {name : String} {k : IntKind} {zs : List Int} {g : Nat} (hg : Tryd.prog.globalNamed name = some g) (h : Lib.TabIs Tryd.prog W name k zs) : bk W g = some (zs.map fun z => Value.int k z) := by
  unfold Lib.TabIs World.var? at h
  rw [hg] at h
  simp only [Option.bind_some] at h
  unfold bk
  cases hh : W.heap[g]? with
  | none => rw [hh] at h; cases h
  | some x =>
    rw [hh] at h
    cases x with
    | cells c t m =>
      simp only [Option.some.injEq] at h
      subst h
      simp
    | _ => cases h
/-- One variable of the list, and the rest. -/
theorem tab_step {W : World} {name : String} {k : IntKind} {zs : List Int} {rest : List (String × DataW Unit)} {g : Nat} {t e : TypeId} {n : Nat} {ps : List MemPlace}
    (hg : Tryd.prog.globalNamed name = some g) (hty : (Tryd.prog.globals[g]?).map (·.type) = some t) (ht : Tryd.prog.underlying t = some (.array n e)) (he : Tryd.prog.underlying e = some (.int k)) (hce : Tryd.prog.cellsOf e = 1) (hct : Tryd.prog.cellsOf t = n)
    (h : DataW.LaidVars Tryd.prog W ((name, Lib.tabData k zs) :: rest) ps) : bk W g = some (zs.map fun z => Value.int k z) ∧ ∃ q, DataW.LaidVars Tryd.prog W rest q := by
  obtain ⟨g', t', cs, fuel, p, q, hg', ht', hvar, hd, hr, _⟩ := h
  obtain rfl := Option.some.inj (hg.symm.trans hg')
  obtain rfl := Option.some.inj (hty.symm.trans ht')
  refine ⟨bk_of_var hg ?_, q, hr⟩
  unfold Lib.TabIs
  rw [hvar, ← Lib.cells_of_tab ht he hce hct hd]
def nibZ : List Int := [0, 498536548, 997073096, 651767980, 1994146192, 1802195444, 1303535960, 1342533948, 3988292384, 4027552580, 3604390888, 3412177804, 2607071920, 2262029012, 2685067896, 3183342108]
def deb64 : List Int := [0,1,56,2,57,49,28,3,61,58,42,50,38,29,17,4,62,47,59,36,45,43,51,22,53,39,33,30,24,18,12,5,63,55,48,27,60,41,37,16,46,35,44,21,52,32,23,11,54,26,40,15,34,20,31,10,25,14,19,9,13,8,7,6]
def deb32 : List Int := [0,1,28,2,29,14,24,3,30,22,20,15,25,17,4,8,31,27,13,23,21,19,16,7,26,12,18,6,11,5,10,9]
theorem ml_of {W : World} (h : W.ShapedOpen Tryd.prog) : ∃ m : Int, bk W 1 = some [.int .i64 m] := by
  obtain ⟨cs, hh, hs, _⟩ := h.1 1 #[.int .i64 0] 3 (of_decide_eq_true (by kernel_rfl)) (by kernel_rfl)
  obtain ⟨m, hm⟩ := cell_of_shapedOpen_int (P := Tryd.prog) (g := 1) (t := 3) (zero := #[.int .i64 0]) h (of_decide_eq_true (by kernel_rfl)) (by kernel_rfl) rfl (by kernel_rfl) (by kernel_rfl) (show Tryd.prog.underlying 3 = some (.int .i64) by kernel_rfl)
  refine ⟨m, ?_⟩
  unfold World.cell? at hm
  rw [hh] at hm
  simp at hm
  unfold bk
  rw [hh]
  have h1 : cs.size = 1 := hs
  obtain ⟨x, rfl⟩ : ∃ x, cs = #[x] := by
    obtain ⟨l⟩ := cs
    match l, h1 with
    | [x], _ => exact ⟨x, rfl⟩
  simp at hm
  rw [hm]
theorem tb_of {W : World} (h : laidMetH Tryd.prog Rows.paperNotesUptoRow.laid W) (hsh : W.ShapedOpen Tryd.prog) : Tb W := by
  have h' : laidMet Tryd.prog Rows.paperNotesUptoRow.laid W := h
  obtain ⟨ps, hv, _⟩ := h'
  obtain ⟨b3, q3, v3⟩ := tab_step (k := .u8) (zs := deb32) (g := 3) (t := gTy 3) (e := eTy 3) (n := 32) (by kernel_rfl) (by kernel_rfl) (by kernel_rfl) (by kernel_rfl) (by kernel_rfl) (by kernel_rfl) hv
  obtain ⟨b4, q4, v4⟩ := tab_step (k := .u8) (zs := deb64) (g := 4) (t := gTy 4) (e := eTy 4) (n := 64) (by kernel_rfl) (by kernel_rfl) (by kernel_rfl) (by kernel_rfl) (by kernel_rfl) (by kernel_rfl) v3
  obtain ⟨b0, q0, v0⟩ := tab_step (k := .u32) (zs := nibZ) (g := 0) (t := gTy 0) (e := eTy 0) (n := 16) (by kernel_rfl) (by kernel_rfl) (by kernel_rfl) (by kernel_rfl) (by kernel_rfl) (by kernel_rfl) v4
  obtain ⟨b2, q2, v2⟩ := tab_step (k := .u64) (zs := Lib.pow10Tab) (g := 2) (t := gTy 2) (e := eTy 2) (n := 20) (by kernel_rfl) (by kernel_rfl) (by kernel_rfl) (by kernel_rfl) (by kernel_rfl) (by kernel_rfl) v0
  exact ⟨b0, ml_of hsh, b2, _, b4, rfl⟩
theorem rd4 {w : World} {cs : Array Value} {n : Nat} (h : (Shs.int .i64 (.int .i64 (.int .i64 (.int .i64 .nil)))).Rd w cs.toList n) : ∃ m : Nt, .agg cs = m.v := by
  obtain ⟨a, _, _, h1, _, _, b, _, _, h2, _, _, c, _, _, h3, _, _, d, _, _, h4, _, _, h5⟩ := h
  subst h5; subst h4; subst h3; subst h2
  refine ⟨⟨a, b, c, d⟩, ?_⟩
  cases cs
  simp at h1
  rw [h1]
  rfl
theorem sb_self (s : ByteArray) : s = sb s.data.toList := rfl
theorem paperNotes_top {W : World} {cs : Array Value} {n : Nat} (hv : (Shs.int .i64 (.int .i64 (.int .i64 (.int .i64 .nil)))).Rd W cs.toList n) {n0 : Nat} (s : ByteArray) (hs : s.size + 1 ≤ n0) (hk : n + n0 ≤ 1048576) (hL : laidMetH Tryd.prog Rows.paperNotesUptoRow.laid W) (hsh : W.ShapedOpen Tryd.prog) :
    Run (F.granarylaw4_PaperNotes (.agg cs) (.string s)) W fun r w' => r = .bool true ∧ Fr (fun _ => False) W w' := by
  obtain ⟨m, hm⟩ := rd4 hv
  rw [hm, sb_self s]
  have hl : s.data.toList.length = s.size := Array.length_toList
  exact notes_walk (tb_of hL hsh) m (by omega)
end Go.Proofs.YthlpfhjcdedhgaaDoor

/-
  Layer 4 (paper): part Y: a builder that grows.
-/
namespace Go.Proofs.YthlpfhjcdedhgaaDoor
open Go.Lift Go.Sort
set_option linter.unusedSimpArgs false
set_option linter.unusedVariables false
set_option maxHeartbeats 4000000
section
variable {w w1 w2 : World}
/-- A row of bytes, as a builder holds it; none of the blocks A. -/
def RowB (A : Nat → Prop) (w : World) (x : Nat) (v : Value) (l : List UInt8) : Prop := (l = [] ∧ v = .slice none 0 0) ∨
  ∃ (g cap : Nat) (cs : Array Value), v = .slice (some ⟨g, 0, none⟩) l.length cap ∧ w.heap[g]? = some (.cells cs 5 (0, 0)) ∧ cs.size = cap ∧ l.length ≤ cap ∧ (cs.toList.take l.length = l.map fun b => Value.int .u8 b.toNat) ∧ ¬ A g ∧ x ≠ g
theorem raw_app {A : Nat → Prop} {x : Nat} {v y : Value} {l s : List UInt8} (h : RowB A w x v l) (hA : ∀ c, A c → c < w.heap.size) (hx : x < w.heap.size) (hn : lenN y = some s.length) (hf : firstN w 1 s.length y = some (s.map fun b => Value.int .u8 b.toNat))
    (hs : s ≠ []) (hl : l.length + s.length ≤ 1073741824) : Run (appM 5 1 1 #[.int .u8 0] v y) w fun r w1 => RowB A w1 x r (l ++ s) ∧ w1.heap[x]? = w.heap[x]? ∧ Fr (fun c => ¬ A c ∧ c ≠ x) w w1 := by
  have hs0 : s.length ≠ 0 := by simpa using hs
  have grow : ∀ (cap : Nat) (old : List Value), (∃ a, v = .slice a l.length cap) → ¬ (l.length + s.length ≤ cap) → cap ≤ 1073741824 → firstN w 1 l.length v = some old → old = l.map (fun b => Value.int .u8 b.toNat) → Run (appM 5 1 1 #[.int .u8 0] v y) w fun r w1 => RowB A w1 x r (l ++ s) ∧ w1.heap[x]? = w.heap[x]? ∧ Fr (fun c => ¬ A c ∧ c ≠ x) w w1 := by
    rintro cap old ⟨a, rfl⟩ hroom hcap ho rfl
    unfold Run appM
    simp only [hn]
    rw [if_neg hroom]
    have hg : Builtin.nextslicecap (l.length + s.length) cap * 1 ≤ 2 ^ 48 := growslice_fits_wide (by omega) (by omega)
    rw [if_neg (not_or.2 ⟨by decide, Nat.not_lt.2 hg⟩)]
    simp only [ho, hf]
    have hge : l.length + s.length ≤ (Question.appendCap (l.length + s.length) cap 5).cut (w.tape w.drawn (.appendCap (l.length + s.length) cap 5)) := by simp only [Question.cut]; omega
    generalize (Question.appendCap (l.length + s.length) cap 5).cut (w.tape w.drawn (.appendCap (l.length + s.length) cap 5)) = C at hge
    refine ⟨_, _, rfl, .inr ⟨w.heap.size, C, ((l.map fun b => Value.int .u8 (b.toNat : Int)) ++ s.map fun b => Value.int .u8 (b.toNat : Int)).toArray ++ Builtin.zeroCells #[.int .u8 0] (C - (l.length + s.length)), by rw [List.length_append], ?_, ?_, ?_, ?_, fun h => Nat.lt_irrefl _ (hA _ h), by omega⟩, ?_, ((Fr.refl _ w).drew).alloc _⟩
    · show (w.heap.push _)[w.heap.size]? = _
      simp
    · simp [size_zeroCells]
      omega
    · rw [List.length_append]; exact hge
    · rw [List.length_append]
      simp only [Array.toList_append]
      rw [List.take_append_of_le_length (by simp), List.take_of_length_le (by simp)]
      simp
    · show (w.heap.push _)[x]? = _
      rw [Array.getElem?_push, if_neg (by omega)]
  rcases h with ⟨rfl, rfl⟩ | ⟨g, cap, cs, rfl, h1, h2, h3, h4, h5, h6⟩
  · exact grow 0 [] ⟨_, rfl⟩ (by simp; omega) (by decide) rfl rfl
  · have hbk : bk w g = some cs.toList := by unfold bk; rw [h1]
    have hwr : wr w g = true := by unfold wr; rw [h1]; simp
    have hcl : cs.toList.length = cap := (Array.length_toList (xs := cs)).trans h2
    by_cases hroom : l.length + s.length ≤ cap
    · unfold Run appM
      simp only [hn]
      rw [if_pos hroom]
      simp only [hf]
      have hst : stN (Addr.add ⟨g, 0, none⟩ (l.length * 1)) (s.map fun b => Value.int .u8 b.toNat) w = some (sto w g l.length (s.map fun b => Value.int .u8 b.toNat)) := by
        simp only [Addr.add_lit, stN, Nat.zero_add, Nat.mul_one]
        rw [if_neg (by simpa using hs)]
        simp only [hbk]
        rw [if_pos ⟨⟨by rw [List.length_map]; omega, byteV_all _⟩, hwr⟩]
      simp only [hst]
      have hfr : Fr (fun c => c = g) w (sto w g l.length (s.map fun b => Value.int .u8 b.toNat)) := (show Fr (fun c => c = g) w w from Fr.refl _ _).sto (.inl rfl) _ _
      refine ⟨_, _, rfl, .inr ⟨g, cap, (setL cs.toList l.length (s.map fun b => Value.int .u8 b.toNat)).toArray, by rw [List.length_append], ?_, ?_, by rw [List.length_append]; exact hroom, ?_, h5, h6⟩, hfr.block x hx h6, hfr.mono fun c hc => hc ▸ ⟨h5, fun e => h6 e.symm⟩⟩
      · simp only [sto, Array.getElem?_modify, h1, if_true]
        rfl
      · rw [List.size_toArray, length_setL, hcl]
      · have := drop_take_setL (l := cs.toList) (o := 0) (p := l.length) (n := l.length) (vs := s.map fun b => Value.int .u8 b.toNat) (by rw [List.length_map]; omega) (by omega)
        simp only [List.drop_zero, List.length_map] at this
        rw [List.toList_toArray, List.length_append, this, h4, List.map_append]
    · by_cases hcap : cap ≤ 1073741824
      · refine grow cap _ ⟨_, rfl⟩ hroom hcap ?_ h4
        have := ldN_bk (o := 0) (n := l.length) hbk (by omega)
        simp only [firstN, Nat.mul_one]
        rw [this, List.drop_zero]
      · omega
/-- A builder at x, that holds l; it is none of the blocks A. -/
structure BG (A : Nat → Prop) (w : World) (x : Nat) (l : List UInt8) : Prop where
  st : (l = [] ∧ w.heap[x]? = some (.cells #[.pointer none, .slice none 0 0] 60 (0, 0))) ∨ ∃ v, bk w x = some [PtrB x, v] ∧ wr w x = true ∧ RowB A w x v l
  new : ¬ A x
  lo : ∀ c, A c → c < w.heap.size
theorem RowB.frm {A : Nat → Prop} {x : Nat} {v : Value} {l : List UInt8} (h : RowB A w x v l) (f : Fr (fun _ => False) w w2) : RowB A w2 x v l := by
  rcases h with h | ⟨g, cap, cs, h1, h2, h3⟩
  · exact .inl h
  · exact .inr ⟨g, cap, cs, h1, by rw [f.block g (Array.getElem?_eq_some_iff.1 h2).1 id]; exact h2, h3⟩
theorem BG.frm {A : Nat → Prop} {x : Nat} {l : List UInt8} (h : BG A w x l) (f : Fr (fun _ => False) w w2) : BG A w2 x l := by
  refine ⟨?_, h.new, fun c hc => Nat.lt_of_lt_of_le (h.lo c hc) f.size⟩
  rcases h.st with ⟨h1, h2⟩ | ⟨v, h1, h2, h3⟩
  · exact .inl ⟨h1, by rw [f.block x (Array.getElem?_eq_some_iff.1 h2).1 id]; exact h2⟩
  · exact .inr ⟨v, f.bk_some h1 id, by rw [f.wr (bk_lt h1) id]; exact h2, h3.frm f⟩
theorem BG.lt {A : Nat → Prop} {x : Nat} {l : List UInt8} (h : BG A w x l) : x < w.heap.size := by
  rcases h.st with ⟨h1, h2⟩ | ⟨v, h1, h2, h3⟩
  · exact (Array.getElem?_eq_some_iff.1 h2).1
  · exact bk_lt h1
/-- What was made since is none of the builder's. -/
theorem BG.more {A : Nat → Prop} {x : Nat} {l : List UInt8} (h : BG A w x l) (f : Fr (fun _ => False) w w2) : BG (fun c => A c ∨ (w.heap.size ≤ c ∧ c < w2.heap.size)) w2 x l := by
  have h2 := h.frm f
  refine ⟨?_, fun hx => hx.elim h.new fun hc => by have := h.lt; omega, fun c hc => hc.elim (h2.lo c) (·.2)⟩
  rcases h2.st with h1 | ⟨v, h1, h3, h4⟩
  · exact .inl h1
  · refine .inr ⟨v, h1, h3, ?_⟩
    have hr : RowB A w x v l := by
      rcases h.st with ⟨_, e2⟩ | ⟨v', e1, e2, e3⟩
      · exfalso
        have e3 := f.block x (Array.getElem?_eq_some_iff.1 e2).1 id
        rw [e2] at e3
        unfold bk at h1
        rw [e3] at h1
        simp at h1
      · have := f.bk_some e1 id
        rw [h1] at this
        simp only [Option.some.injEq, List.cons.injEq, and_true, true_and] at this
        rw [this]; exact e3
    rcases hr with e | ⟨g, cap, cs, e1, e2, e3, e4, e5, e6, e7⟩
    · exact .inl e
    · have hg := (Array.getElem?_eq_some_iff.1 e2).1
      exact .inr ⟨g, cap, cs, e1, by rw [f.block g hg id]; exact e2, e3, e4, e5, fun hc => hc.elim e6 fun hc => by omega, e7⟩
theorem bgCheck {A : Nat → Prop} {x : Nat} {l : List UInt8} (h : BG A w x l) {Q : Value → World → Prop} (q : ∀ w' v, bk w' x = some [PtrB x, v] → wr w' x = true → RowB A w' x v l → Fr (fun c => ¬ A c) w w' → Q (.tuple #[]) w') :
    Run (F.strings_Builder_copyCheck (PtrB x)) w Q := by
  rcases h.st with ⟨rfl, hh⟩ | ⟨v, h1, h2, h3⟩
  · have h0 : w.cell? ⟨x, 0, none⟩ = some (.pointer none) := by
      unfold World.cell?
      rw [hh]; rfl
    have h1 : w.shape? x = some (60, 2) := by
      unfold World.shape?
      rw [hh]
      rfl
    have h2 : w.frozen? ⟨x, 0, none⟩ = false := by
      unfold World.frozen?
      rw [hh]
      rfl
    have hlt := (Array.getElem?_eq_some_iff.1 hh).1
    refine ⟨_, _, ?_, q (w.setCell ⟨x, 0, none⟩ (PtrB x)) (.slice none 0 0) ?_ ?_ (.inl ⟨rfl, rfl⟩) ?_⟩
    · unfold F.strings_Builder_copyCheck
      simp only [h0, h1, h2, and_self, if_true]
    · unfold bk World.setCell
      simp only [Array.getElem?_modify, hh, if_true]
      rfl
    · unfold wr World.setCell
      simp only [Array.getElem?_modify, hh, if_true]
      rfl
    · have f : Fr (fun c => c = x) w (w.setCell ⟨x, 0, none⟩ (PtrB x)) := by
        refine ⟨rfl, rfl, rfl, ?_, fun b hb hne => ?_⟩
        · unfold World.setCell
          simp only [Array.size_modify]
          exact Nat.le_refl _
        · unfold World.setCell
          simp only [Array.getElem?_modify]
          rw [if_neg (fun e => hne e.symm)]
      exact f.mono fun c hc => hc ▸ h.new
  · exact bldUsed_run h1 (q w v h1 h2 h3 (Fr.refl _ _))
theorem bgStore {A : Nat → Prop} {x : Nat} {v r : Value} {l : List UInt8} (h1 : bk w x = some [PtrB x, v]) (h2 : wr w x = true) (h3 : RowB A w x r l) (hn : ¬ A x) (hA : ∀ c, A c → c < w.heap.size) : BG A (sto w x 1 [r]) x l ∧ Fr (fun c => c = x) w (sto w x 1 [r]) := by
  have f : Fr (fun c => c = x) w (sto w x 1 [r]) := (show Fr (fun c => c = x) w w from Fr.refl _ _).sto (.inl rfl) _ _
  refine ⟨⟨.inr ⟨r, by rw [bk_sto_same h1]; rfl, by rw [wr_sto]; exact h2, ?_⟩, hn, fun c hc => Nat.lt_of_lt_of_le (hA c hc) f.size⟩, f⟩
  rcases h3 with h | ⟨g, cap, cs, e1, e2, e3, e4, e5, e6, e7⟩
  · exact .inl h
  · exact .inr ⟨g, cap, cs, e1, by rw [f.block g (Array.getElem?_eq_some_iff.1 e2).1 (fun e => e7 e.symm)]; exact e2, e3, e4, e5, e6, e7⟩
theorem bk_of_heapEq {x : Nat} (h : w1.heap[x]? = w.heap[x]?) : bk w1 x = bk w x ∧ wr w1 x = wr w x := by
  unfold bk wr
  rw [h]
  exact ⟨rfl, rfl⟩
theorem bgWrite_run {A : Nat → Prop} {x : Nat} {l s : List UInt8} (h : BG A w x l) (hs : s ≠ []) (hl : l.length + s.length ≤ 1073741824) :
    Run (F.strings_Builder_WriteString (PtrB x) (.string (sb s))) w fun _ w' => BG A w' x (l ++ s) ∧ Fr (fun c => ¬ A c) w w' := by
  unfold F.strings_Builder_WriteString
  rw [Run_bind]
  refine bgCheck h fun w1 v b1 b2 b3 b4 => ?_
  have nck : nilChk (PtrB x) = some (PtrB x) := rfl
  have ld : ld1 (.pointer (some ⟨x, 0 + 1, none⟩)) w1 = some v := by rw [ld1_ptr, b1]; rfl
  rw [nck, Run_bindO_some, fieldA_ptr, Run_bindO_some, Run_bind, Run_rdM]
  refine ⟨_, ld, ?_⟩
  rw [Run_bind]
  have hf : firstN w1 1 s.length (.string (sb s)) = some (s.map fun b => Value.int .u8 b.toNat) := by
    have he : (sb s).extract 0 s.length = sb s := by rw [sb_extract, List.take_length, List.drop_zero]
    simp only [firstN, he]
    simp [sb]
  have lo1 : ∀ c, A c → c < w1.heap.size := fun c hc => Nat.lt_of_lt_of_le (h.lo c hc) b4.size
  refine (raw_app b3 lo1 (bk_lt b1) (by simp only [lenN, sb_size]) hf hs hl).mono ?_
  rintro r w2 ⟨c1, c2, c3⟩
  obtain ⟨d1, d2⟩ := bk_of_heapEq c2
  rw [b1] at d1
  rw [b2] at d2
  rw [Run_bindO_some, fieldA_ptr, Run_bindO_some, Run_bind]
  have hcell : isCell r = true := by
    rcases c1 with ⟨_, rfl⟩ | ⟨g, cap, cs, rfl, _⟩ <;> rfl
  have hsz : r.cells = #[r] := by
    rcases c1 with ⟨_, rfl⟩ | ⟨g, cap, cs, rfl, _⟩ <;> rfl
  rw [Run_stM (by rw [hsz]; rfl) (by rw [hsz]; simp [hcell]) ⟨⟨_, d1, by simp⟩, d2⟩]
  have hst : sto w2 x (0 + 1) r.cells.toList = sto w2 x 1 [r] := by rw [hsz]
  rw [hst, lenS_string, Run_bindO_some, Run_ret]
  obtain ⟨g1, g2⟩ := bgStore d1 d2 c1 h.new fun c hc => Nat.lt_of_lt_of_le (lo1 c hc) c3.size
  exact ⟨g1, (b4.trans c3 fun _ _ hc => hc.1).trans g2 fun _ _ hc => hc ▸ h.new⟩
theorem bgByte_run {A : Nat → Prop} {x : Nat} {l : List UInt8} (h : BG A w x l) (c : UInt8) (hl : l.length + 1 ≤ 1073741824) :
    Run (F.strings_Builder_WriteByte (PtrB x) (by8 c)) w fun _ w' => BG A w' x (l ++ [c]) ∧ Fr (fun c => ¬ A c) w w' := by
  unfold F.strings_Builder_WriteByte
  rw [Run_bind]
  refine bgCheck h fun w1 v b1 b2 b3 b4 => ?_
  have nck : nilChk (PtrB x) = some (PtrB x) := rfl
  have ld : ld1 (.pointer (some ⟨x, 0 + 1, none⟩)) w1 = some v := by rw [ld1_ptr, b1]; rfl
  rw [nck, Run_bindO_some, fieldA_ptr, Run_bindO_some, Run_bind, Run_rdM]
  refine ⟨_, ld, ?_⟩
  rw [Run_bind]
  refine Run_bsl (k := 1) (vs := [by8 c]) (by rfl) (by intro v hv; simp only [List.mem_singleton] at hv; subst hv; rfl) rfl (by kernel_rfl) fun y w2 hy f2 _ => ?_
  have b3' := b3.frm f2
  have b1' := f2.bk_some b1 id
  have b2' : wr w2 x = true := by rw [f2.wr (bk_lt b1) id]; exact b2
  have hn : lenN y = some [c].length := hy.1.lenN
  have hf : firstN w2 1 [c].length y = some ([c].map fun b => Value.int .u8 b.toNat) := by
    have hy1 := hy.1
    obtain ⟨_, a, cp, rfl, _⟩ := hy1
    exact ldN_sl hy.1
  rw [Run_bind]
  have b5 : Fr (fun c => ¬ A c) w w2 := b4.trans f2 fun _ _ hf => hf.elim
  have lo2 : ∀ c, A c → c < w2.heap.size := fun c hc => Nat.lt_of_lt_of_le (h.lo c hc) b5.size
  refine (raw_app b3' lo2 (bk_lt b1') hn hf (by simp) (by simp; omega)).mono ?_
  rintro r w3 ⟨c1, c2, c3⟩
  obtain ⟨d1, d2⟩ := bk_of_heapEq c2
  rw [b1'] at d1
  rw [b2'] at d2
  rw [Run_bindO_some, fieldA_ptr, Run_bindO_some, Run_bind]
  have hcell : isCell r = true := by
    rcases c1 with ⟨_, rfl⟩ | ⟨g, cap, cs, rfl, _⟩ <;> rfl
  have hsz : r.cells = #[r] := by
    rcases c1 with ⟨_, rfl⟩ | ⟨g, cap, cs, rfl, _⟩ <;> rfl
  rw [Run_stM (by rw [hsz]; rfl) (by rw [hsz]; simp [hcell]) ⟨⟨_, d1, by simp⟩, d2⟩]
  have hst : sto w3 x (0 + 1) r.cells.toList = sto w3 x 1 [r] := by rw [hsz]
  rw [hst, Run_ret]
  obtain ⟨g1, g2⟩ := bgStore d1 d2 c1 h.new fun c hc => Nat.lt_of_lt_of_le (lo2 c hc) c3.size
  exact ⟨g1, (b5.trans c3 fun _ _ hc => hc.1).trans g2 fun _ _ hc => hc ▸ h.new⟩
theorem bgString_run {A : Nat → Prop} {x : Nat} {l : List UInt8} (h : BG A w x l) (h0 : l ≠ []) (hl : l.length ≤ 1073741824) : Run (F.strings_Builder_String (PtrB x)) w fun r w' => r = .string (sb l) ∧ Fr (fun c => ¬ A c) w w' := by
  rcases h.st with ⟨h1, _⟩ | ⟨v, h1, h2, h3⟩
  · exact absurd h1 h0
  rcases h3 with ⟨h3, _⟩ | ⟨g, cap, cs, rfl, e2, e3, e4, e5, e6, e7⟩
  · exact absurd h3 h0
  refine (bldString_run (cap := cap) (g := g) ⟨h1, h2, e7, e4, cs, e2, e3, e5⟩ h0 (by omega)).mono ?_
  rintro _ w' ⟨rfl, f⟩
  exact ⟨rfl, f.mono fun c hc => by rcases hc with rfl | rfl; exact h.new; exact e6⟩
theorem bgNew {Q : Value → World → Prop} (q : ∀ x w', BG (fun c => c < w.heap.size) w' x [] → Fr (fun _ => False) w w' → Q (PtrB x) w') : Run (newM 60 #[(Value.pointer none), (Value.slice none 0 0)]) w Q := by
  refine Run_newM.2 (q _ _ ⟨.inl ⟨rfl, ?_⟩, Nat.lt_irrefl _, fun c hc => ?_⟩ ((Fr.refl _ _).alloc _))
  · show (w.heap.push _)[w.heap.size]? = _
    simp
  · show c < (w.heap.push _).size
    simp; omega
end
end Go.Proofs.YthlpfhjcdedhgaaDoor

/-
  Layer 4 (paper): part Z: lines, the table of fields, the ranges.
-/
namespace Go.Proofs.YthlpfhjcdedhgaaDoor
open Go.Lift Go.Sort
set_option linter.unusedSimpArgs false
set_option linter.unusedVariables false
set_option maxHeartbeats 4000000
/-- How far a list is good. -/
theorem far_ex {α : Type} (p : α → Bool) : ∀ l : List α, ∃ J, J ≤ l.length ∧ (∀ i a, i < J → l[i]? = some a → p a = true) ∧ ((J = l.length ∧ l.all p = true) ∨ ∃ a, l[J]? = some a ∧ p a = false ∧ l.all p = false)
  | [] => ⟨0, Nat.le_refl _, fun i a h => absurd h (by omega), .inl ⟨rfl, rfl⟩⟩
  | a :: l => by
    by_cases h : p a = true
    · obtain ⟨J, h1, h2, h3⟩ := far_ex p l
      refine ⟨J + 1, by rw [List.length_cons]; omega, fun i b hi hb => ?_, ?_⟩
      · cases i with
        | zero => simp at hb; subst hb; exact h
        | succ i => exact h2 i b (by omega) (by simpa using hb)
      · rcases h3 with ⟨e, ha⟩ | ⟨b, hb, hp, ha⟩
        · exact .inl ⟨by rw [List.length_cons, e], by rw [List.all_cons, h, ha]; rfl⟩
        · exact .inr ⟨b, by simpa using hb, hp, by rw [List.all_cons, ha, Bool.and_false]⟩
    · exact ⟨0, by omega, fun i b hi => absurd hi (by omega), .inr ⟨a, rfl, by simpa using h, by rw [List.all_cons]; simp [h]⟩⟩
/-- A line of a paper that holds a number. -/
structure Fd where
  word : List UInt8
  lo : Int
  hi : Int
  off : Nat
  fn : Value
def Fd.row (f : Fd) : List Value := [.string (sb f.word), .int .i64 f.lo, .int .i64 f.hi, f.fn]
def Fd.v (f : Fd) : Value := .agg #[.string (sb f.word), .int .i64 f.lo, .int .i64 f.hi, f.fn]
structure Fd.Ok (f : Fd) : Prop where
  cls : ∀ (x : Nat) (w : World) (Q : Value → World → Prop), Q (.pointer (some ⟨x, f.off, none⟩)) w → Run (callV F.clos f.fn [.pointer (some ⟨x, 0, none⟩)]) w Q
  cell : f.fn.cells = #[f.fn] ∧ isCell f.fn = true
  low : 0 ≤ f.lo ∧ f.hi ≤ 9007199254740992
  word : f.word ≠ [] ∧ f.word.length ≤ 100 ∧ (10 : UInt8) ∉ f.word
/-- Is the field in its range? -/
def Fd.inR (f : Fd) (g : Nat → Int) : Bool := decide (f.lo ≤ g f.off ∧ g f.off ≤ f.hi)
section
variable {w w1 w2 : World}
theorem Fd.cells {f : Fd} (h : f.Ok) : f.v.cells.size = 4 ∧ f.v.cells.toList.all isCell = true ∧ f.v.cells.toList = f.row := by
  have h1 := h.cell.1
  have e : f.v.cells = #[.string (sb f.word), .int .i64 f.lo, .int .i64 f.hi, f.fn] := rfl
  rw [e]
  refine ⟨rfl, ?_, rfl⟩
  show (true && (true && (true && (isCell f.fn && true)))) = true
  rw [h.cell.2]; rfl
/-- One field, copied. -/
theorem Run_field {β : Type} {t : Value} {fs : List Fd} (ht : Sl 4 w t (fs.map Fd.row)) {i : Nat} {f : Fd} (hf : fs[i]? = some f) (hok : f.Ok) {ty : TypeId} {K : Value → M β} {Q : β → World → Prop}
    (q : ∀ x w', bk w' x = some f.row → wr w' x = true → w.heap.size ≤ x → Fr (fun _ => False) w w' → Run (K (.pointer (some ⟨x, 0, none⟩))) w' Q) :
    Run (bindO (idxA 4 t (.int .i64 (i : Int))) fun x4 => M.bind (rdM (ldA 4 x4)) fun x5 => M.bind (newM ty #[(Value.string ByteArray.empty), (Value.int IntKind.i64 0), (Value.int IntKind.i64 0), Value.nilFunc]) fun x6 => M.bind (stM 4 x6 x5) fun _ => K x6) w Q := by
  obtain ⟨p, p1, p2⟩ := ht.rdA (by decide) (i := i) (e := f.row) (by simp [hf]) .i64
  have p1' : idxA 4 t (.int .i64 (i : Int)) = some p := p1
  rw [p1', Run_bindO_some, Run_bind, Run_rdM]
  refine ⟨_, p2, ?_⟩
  rw [Run_bind]
  refine Run_new fun x w1 hx hw f1 hle => ?_
  obtain ⟨c1, c2, c3⟩ := Fd.cells hok
  have c1' : (Value.agg f.row.toArray).cells.size = 4 := c1
  have c2' : (Value.agg f.row.toArray).cells.toList.all isCell = true := c2
  rw [Run_bind, Run_stM c1' c2' ⟨⟨_, hx, by simp⟩, hw⟩]
  refine q x _ ?_ (by rw [wr_sto]; exact hw) hle (f1.sto (.inr hle) _ _)
  rw [bk_sto_same hx]
  rfl
theorem ranges_run {t : Value} {fs : List Fd} (ht : Sl 4 w t (fs.map Fd.row)) (hok : ∀ f ∈ fs, f.Ok) {x : Nat} {l : List Value} {g : Nat → Int} (hx : bk w x = some l) (hg : ∀ f ∈ fs, l[f.off]? = some (.int .i64 (g f.off))) (hn : fs.length ≤ 1000) :
    Run (F.api_Pointer t (.pointer (some ⟨x, 0, none⟩))) w fun r w' => r = .bool (fs.all fun f => f.inR g) ∧ Fr (fun _ => False) w w' := by
  unfold F.api_Pointer
  have hlen := ht.lenL
  rw [List.length_map] at hlen
  rw [hlen, Run_bindO_some, Run_bind]
  obtain ⟨J, hJ, hgood, hend⟩ := far_ex (fun f : Fd => f.inR g) fs
  have step : ∀ (i : Nat) (f : Fd) (w1 : World), fs[i]? = some f → Fr (fun _ => False) w w1 → ∀ {β : Type} {K : Value → M β} {Q : β → World → Prop}, (∀ w', Fr (fun _ => False) w w' → Run (K (.bool (!f.inR g))) w' Q) →
      Run (bindO (idxA 4 t (.int .i64 (i : Int))) fun x4 => M.bind (rdM (ldA 4 x4)) fun x5 => M.bind (newM 92 #[(Value.string ByteArray.empty), (Value.int IntKind.i64 0), (Value.int IntKind.i64 0), Value.nilFunc]) fun x6 => M.bind (stM 4 x6 x5) fun _ =>
        bindO (fieldA 3 x6) fun x8 =>
        M.bind (rdM (ld1 x8)) fun x9 =>
        M.bind (callV F.clos x9 [.pointer (some ⟨x, 0, none⟩)]) fun x10 =>
        bindO (nilChk x10) fun x11 =>
        M.bind (rdM (ld1 x11)) fun x12 =>
        bindO (fieldA 1 x6) fun x13 =>
        M.bind (rdM (ld1 x13)) fun x14 =>
        bindO (binV BinOp.lss x12 x14) fun x15 =>
        M.bind (guardM x15 false (M.ret x12)) fun x16 =>
        M.bind (guardM x15 false (optM (fieldA 2 x6))) fun x17 =>
        M.bind (guardM x15 false (rdM (ld1 x17))) fun x18 =>
        M.bind (guardM x15 false (optM (binV BinOp.gtr x16 x18))) fun x19 =>
        bindO (pickV x15 (Value.bool true) x19) K) w1 Q := by
    intro i f w1 hf f1 β K Q q
    have hfm := List.mem_of_getElem? hf
    refine Run_field (ht.fr0 f1) hf (hok f hfm) fun y w2 hy hwy hyle f2 => ?_
    have f12 := f1.trans f2 fun _ _ => id
    have hx2 := f12.bk_some hx id
    have ld3 : ld1 (.pointer (some ⟨y, 0 + 3, none⟩)) w2 = some f.fn := by rw [ld1_ptr, hy]; rfl
    have ld1' : ld1 (.pointer (some ⟨y, 0 + 1, none⟩)) w2 = some (.int .i64 f.lo) := by rw [ld1_ptr, hy]; rfl
    have ld2 : ld1 (.pointer (some ⟨y, 0 + 2, none⟩)) w2 = some (.int .i64 f.hi) := by rw [ld1_ptr, hy]; rfl
    have ldx : ld1 (.pointer (some ⟨x, f.off, none⟩)) w2 = some (.int .i64 (g f.off)) := by rw [ld1_ptr, hx2]; exact hg f hfm
    rw [fieldA_ptr, Run_bindO_some, Run_bind, Run_rdM]
    refine ⟨_, ld3, ?_⟩
    rw [Run_bind]
    refine (hok f hfm).cls x w2 _ ?_
    have nck : nilChk (.pointer (some ⟨x, f.off, none⟩)) = some (.pointer (some ⟨x, f.off, none⟩)) := rfl
    rw [nck, Run_bindO_some, Run_bind, Run_rdM]
    refine ⟨_, ldx, ?_⟩
    rw [fieldA_ptr, Run_bindO_some, Run_bind, Run_rdM]
    refine ⟨_, ld1', ?_⟩
    by_cases h1 : g f.off < f.lo
    · have hi : f.inR g = false := by unfold Fd.inR; exact decide_eq_false (by omega)
      rw [hi] at q
      rw [lssT h1, Run_bindO_some]
      simp only [Run_bind, Run_guardM_tf, pickV_bool, cond_true, Run_bindO_some]
      exact q w2 f12
    · rw [lssF h1, Run_bindO_some]
      simp only [Run_bind, Run_guardM_ff, Run_ret, fieldA_ptr, Run_optM_some, Run_rdM]
      refine ⟨_, ld2, ?_⟩
      by_cases h2 : f.hi < g f.off
      · have hi : f.inR g = false := by unfold Fd.inR; exact decide_eq_false (by omega)
        rw [hi] at q
        simp only [binV_int, intBin_gtr, gt_iff_lt, h2, decide_true, Run_optM_some, pickV_bool, cond_false, Run_bindO_some]
        exact q w2 f12
      · have hi : f.inR g = true := by unfold Fd.inR; exact decide_eq_true (by omega)
        rw [hi] at q
        simp only [binV_int, intBin_gtr, gt_iff_lt, h2, decide_false, Run_optM_some, pickV_bool, cond_false, Run_bindO_some]
        exact q w2 f12
  refine Run_for J (fun i L w' => L = [.int .i64 (i : Int)] ∧ Fr (fun _ => False) w w') ⟨rfl, Fr.refl _ _⟩ ?_ ?_
  · rintro i L w1 hi ⟨rfl, f1⟩
    obtain ⟨f, hf⟩ : ∃ f, fs[i]? = some f := ⟨_, List.getElem?_eq_getElem (by omega)⟩
    have hil : (i : Int) < fs.length := by omega
    have wi := wrap_succ' (n := i) (by omega)
    rw [getL_zero, lssT hil, Run_bindO_some, Run_condM_true]
    refine step i f w1 hf f1 fun w2 f2 => ?_
    rw [hgood i f hi hf, Bool.not_true, Run_condM_false, binV_int, intBin_add, wi, Run_bindO_some, Run_ret]
    exact ⟨rfl, f2⟩
  · rintro L w1 ⟨rfl, f1⟩
    rcases hend with ⟨rfl, hall⟩ | ⟨f, hf, hp, hall⟩
    · have hn : ¬ ((fs.length : Nat) : Int) < fs.length := by omega
      rw [getL_zero, lssF hn, Run_bindO_some, Run_condM_false, Run_ret]
      simp only [outK_exit]
      rw [show Nat.beq 0 0 = true from rfl, cond_true, Run_ret, hall]
      exact ⟨rfl, f1⟩
    · have hlt := (List.getElem?_eq_some_iff.1 hf).1
      have hil : (J : Int) < fs.length := by omega
      rw [getL_zero, lssT hil, Run_bindO_some, Run_condM_true]
      refine step J f w1 hf f1 fun w2 f2 => ?_
      rw [hp, Bool.not_false, Run_condM_true, Run_ret]
      simp only [outK_ret, Run_ret, hall]
      exact ⟨trivial, f2⟩
end
end Go.Proofs.YthlpfhjcdedhgaaDoor

/-
  Layer 4 (paper): part Za: lines that are written; the last line.
-/
namespace Go.Proofs.YthlpfhjcdedhgaaDoor
open Go.Lift Go.Sort
set_option linter.unusedSimpArgs false
set_option linter.unusedVariables false
set_option maxHeartbeats 4000000
def SUM : List UInt8 := [115, 117, 109, 32]
/-- A paper with its last line. -/
def closeL (l : List UInt8) : List UInt8 := l ++ SUM ++ eightL (crcF (sb l)) ++ [10]
/-- A field's line. -/
def fldL (f : Fd) (n : Nat) : List UInt8 := f.word ++ [32] ++ Lib.decDigits n ++ [10]
def fldsL (fs : List Fd) (g : Nat → Int) : List UInt8 := (fs.map fun f => fldL f (g f.off).toNat).flatten
section
variable {w w1 w2 : World}
theorem line_run {A : Nat → Prop} {x : Nat} {l : List UInt8} (h : BG A w x l) {v : Value} {xs : List (List UInt8)} (hv : Sl 1 w v (xs.map fun y => [.string (sb y)])) (hne : joinL (xs.map sb) (sb [32]) ≠ []) (hx : xs.length ≤ 100) (hs : (joinL (xs.map sb) (sb [32])).length ≤ 1048576)
    (hsum : ((xs.map sb).map (·.size)).sum ≤ 1048576) (hl : l.length ≤ 536870912) :
    Run (F.paper_line (PtrB x) v) w fun _ w' => BG A w' x (l ++ (joinL (xs.map sb) (sb [32]) ++ [10])) ∧ Fr (fun c => ¬ A c) w w' := by
  unfold F.paper_line
  have e32 : ByteArray.mk #[32] = sb [32] := rfl
  rw [e32, Run_bind]
  have hv' : Sl 1 w v ((xs.map sb).map fun y => [.string y]) := by rw [List.map_map]; exact hv
  refine (join2_run hv' (by rw [sb_size]; decide) (by rw [sb_size]; decide) (by omega) (by rw [List.length_map]; omega)).mono ?_
  rintro _ w1 ⟨rfl, f1⟩
  rw [Run_bind]
  refine (bgWrite_run (h.frm f1) hne (by omega)).mono ?_
  rintro _ w2 ⟨h2, f2⟩
  rw [Run_bind]
  have e10 : Value.int IntKind.u8 10 = by8 10 := rfl
  rw [e10]
  refine (bgByte_run h2 10 (by rw [List.length_append]; omega)).mono ?_
  rintro _ w3 ⟨h3, f3⟩
  rw [Run_ret]
  rw [List.append_assoc] at h3
  exact ⟨h3, ((f1.mono fun _ hc => hc.elim).trans f2 fun _ _ hc => hc).trans f3 fun _ _ hc => hc⟩
theorem closed_run {A : Nat → Prop} {x : Nat} {l : List UInt8} (ht : Tb w) (h : BG A w x l) (h0 : l ≠ []) (hl : l.length ≤ 536870912) (hA : ∀ c, c < 5 → A c) :
    Run (F.paper_closed (PtrB x)) w fun r w' => r = .string (sb (closeL l)) ∧ Fr (fun c => ¬ A c) w w' := by
  unfold F.paper_closed
  rw [Run_bind]
  refine (bgString_run h h0 (by omega)).mono ?_
  rintro _ w1 ⟨rfl, f1⟩
  have t1 := ht.fr f1 fun c hc hn => hn (hA c hc)
  have eS : ByteArray.mk #[115, 117, 109, 32] = sb SUM := rfl
  have e10 : ByteArray.mk #[10] = sb [10] := rfl
  have lS : SUM.length = 4 := rfl
  have a1 := sbAdd (a := l) (c := SUM) (by omega)
  rw [eS, a1, Run_bindO_some, Run_bind]
  refine Run_bsl (k := 1) (vs := [.string (sb l)]) (by rfl) (by intro v hv; simp only [List.mem_singleton] at hv; subst hv; rfl) rfl (by kernel_rfl) fun r w2 hr f2 _ => ?_
  have t2 := t1.fr0 f2
  rw [Run_bind]
  refine (crc_run t2.nib hr.1 (by rw [sb_size]; omega)).mono ?_
  rintro _ w3 ⟨rfl, rfl⟩
  rw [Run_bind]
  refine (hex8_run t2.bits (crcF_lt _)).mono ?_
  rintro _ w4 ⟨rfl, f4⟩
  have l8 : (eightL (crcF (sb l))).length = 8 := lowD_len _ _
  have eE : eightS (crcF (sb l)) = sb (eightL (crcF (sb l))) := rfl
  have a2 := sbAdd (a := l ++ SUM) (c := eightL (crcF (sb l))) (by rw [List.length_append]; omega)
  have a3 := sbAdd (a := l ++ SUM ++ eightL (crcF (sb l))) (c := [10]) (by rw [List.length_append, List.length_append, List.length_singleton]; omega)
  rw [eE, a2, Run_bindO_some, e10, a3, Run_bindO_some, Run_ret]
  exact ⟨rfl, (f1.trans f2 fun _ _ hc => hc.elim).trans f4 fun _ _ hc => hc.elim⟩
theorem join_two (a b : List UInt8) : joinL ([a, b].map sb) (sb [32]) = a ++ [32] ++ b := by simp [joinL, sb]
theorem join_one (a : List UInt8) : joinL ([a].map sb) (sb [32]) = a := by simp [joinL, sb]
theorem write_run {A : Nat → Prop} {b : Nat} {l0 : List UInt8} {t : Value} {fs : List Fd} (hB : BG A w b l0) (htb : Tb w) (hA : ∀ c, c < 5 → A c) (htA : ∀ c, inB t c → A c) (ht : Sl 4 w t (fs.map Fd.row)) (hok : ∀ f ∈ fs, f.Ok) {x : Nat} {l : List Value} {g : Nat → Int} (hx : bk w x = some l) (hxA : A x) (hg : ∀ f ∈ fs, l[f.off]? = some (.int .i64 (g f.off)))
    (hr : ∀ f ∈ fs, f.inR g = true) (hn : fs.length ≤ 100) (hl : l0.length ≤ 1048576) :
    Run (F.api_Pointer_30 (PtrB b) t (.pointer (some ⟨x, 0, none⟩))) w fun _ w' => BG A w' b (l0 ++ fldsL fs g) ∧ Fr (fun c => ¬ A c) w w' := by
  unfold F.api_Pointer_30
  have hlen := ht.lenL
  rw [List.length_map] at hlen
  rw [hlen, Run_bindO_some, Run_bind]
  have hdec : ∀ f ∈ fs, (Lib.decDigits (g f.off).toNat).length ≤ 20 ∧ (fldL f (g f.off).toNat).length ≤ 122 ∧ 0 ≤ g f.off ∧ (g f.off).toNat < 9223372036854775808 := fun f hf => by
    have h1 := hr f hf
    unfold Fd.inR at h1
    have h2 := of_decide_eq_true h1
    have h3 := (hok f hf).low
    have h4 := (hok f hf).word.2.1
    have h5 := dec_len (n := (g f.off).toNat) (by omega)
    refine ⟨h5, ?_, by omega, by omega⟩
    simp only [fldL, List.length_append, List.length_singleton]
    omega
  have hfl : ∀ i, (fldsL (fs.take i) g).length ≤ i * 122 := fun i => by
    have : ∀ (l : List Fd), (∀ f ∈ l, f ∈ fs) → (fldsL l g).length ≤ l.length * 122 := fun l => by
      induction l with
      | nil => intro _; simp [fldsL]
      | cons f l ih =>
        intro hm
        have h1 := ih fun f hf => hm f (List.mem_cons_of_mem _ hf)
        have h2 := (hdec f (hm f (by simp))).2.1
        simp only [fldsL, List.map_cons, List.flatten_cons, List.length_append, List.length_cons] at h1 ⊢
        omega
    have h1 := this (fs.take i) fun f hf => List.mem_of_mem_take hf
    have h2 : (fs.take i).length * 122 ≤ i * 122 := Nat.mul_le_mul_right _ (List.length_take_le i fs)
    omega
  refine Run_for fs.length (fun i L w' => L = [.int .i64 (i : Int)] ∧ BG A w' b (l0 ++ fldsL (fs.take i) g) ∧ Fr (fun c => ¬ A c) w w') ⟨rfl, by simpa [fldsL] using hB, Fr.refl _ _⟩ ?_ ?_
  · rintro i L w1 hi ⟨rfl, hB1, f1⟩
    have ht1 := ht.fr f1 fun c hc hn => hn (htA c hc)
    have hx1 := f1.bk_some hx fun hn => hn hxA
    have tb1 := htb.fr f1 fun c hc hn => hn (hA c hc)
    obtain ⟨f, hf⟩ : ∃ f, fs[i]? = some f := ⟨_, List.getElem?_eq_getElem (by omega)⟩
    have hfm := List.mem_of_getElem? hf
    have hil : (i : Int) < fs.length := by omega
    have wi := wrap_succ' (n := i) (by omega)
    obtain ⟨d1, d2, d3, d4⟩ := hdec f hfm
    have hsnoc : fldsL (fs.take (i + 1)) g = fldsL (fs.take i) g ++ fldL f (g f.off).toNat := by
      rw [take_snocP hf]; simp [fldsL]
    rw [getL_zero, lssT hil, Run_bindO_some, Run_condM_true]
    refine Run_field ht1 hf (hok f hfm) fun y w2 hy hwy hyle f2 => ?_
    rw [Run_drewM, Run_getM, fieldA_ptr, Run_bindO_some, Run_bind, Run_rdM]
    have f2d : Fr (fun _ => False) w1 w2.drew := f2.drew
    have hyd : bk w2.drew y = some f.row := hy
    generalize w2.drew = w3 at *
    have ld0 : ld1 (.pointer (some ⟨y, 0 + 0, none⟩)) w3 = some (.string (sb f.word)) := by rw [ld1_ptr, hyd]; rfl
    have ld3 : ld1 (.pointer (some ⟨y, 0 + 3, none⟩)) w3 = some f.fn := by rw [ld1_ptr, hyd]; rfl
    refine ⟨_, ld0, ?_⟩
    rw [fieldA_ptr, Run_bindO_some, Run_bind, Run_rdM]
    refine ⟨_, ld3, ?_⟩
    rw [Run_bind]
    refine (hok f hfm).cls x w3 _ ?_
    rw [Run_getM]
    have nck : nilChk (.pointer (some ⟨x, f.off, none⟩)) = some (.pointer (some ⟨x, f.off, none⟩)) := rfl
    have ldx : ld1 (.pointer (some ⟨x, f.off, none⟩)) w3 = some (.int .i64 (g f.off)) := by rw [ld1_ptr, f2d.bk_some hx1 id]; exact hg f hfm
    rw [nck, Run_bindO_some, Run_bind, Run_rdM]
    refine ⟨_, ldx, ?_⟩
    have hgn : g f.off = (((g f.off).toNat : Nat) : Int) := (Int.toNat_of_nonneg d3).symm
    rw [Run_bind]
    have hit := itoa_run (tb1.fr0 f2d) (n := (g f.off).toNat) d4
    rw [← hgn] at hit
    refine hit.mono ?_
    rintro _ w4 ⟨rfl, f4⟩
    rw [Run_getM, Run_bind]
    have hy4 := f4.bk_some hyd id
    have ld4 : ld1 (.pointer (some ⟨y, 0 + 0, none⟩)) w4 = some (.string (sb f.word)) := by rw [ld1_ptr, hy4]; rfl
    refine Run_bsl (k := 1) (vs := [.string (sb f.word), .string (itoaS (g f.off).toNat)]) (by rfl) (by intro v hv; simp only [List.mem_cons, List.not_mem_nil, or_false] at hv; rcases hv with rfl | rfl <;> rfl) rfl (by kernel_rfl) fun r w5 hr f5 _ => ?_
    rw [Run_getM, Run_bind]
    have f15 := (f2d.trans f4 fun _ _ => id).trans f5 fun _ _ => id
    have hB5 := hB1.frm f15
    have hwl := (hok f hfm).word
    have hi122 := hfl i
    have hjl : (f.word ++ [32] ++ Lib.decDigits (g f.off).toNat).length ≤ 121 := by simp only [List.length_append, List.length_singleton]; omega
    refine (line_run hB5 (xs := [f.word, Lib.decDigits (g f.off).toNat]) hr.1 (by rw [join_two]; simp) (by simp) (by rw [join_two]; omega) ?_ ?_).mono ?_
    · simp only [List.map_cons, List.map_nil, List.sum_cons, List.sum_nil, sb_size]
      omega
    · rw [List.length_append]
      omega
    · rintro _ w6 ⟨h6, f6⟩
      rw [Run_getM, Run_reqM, Run_reqM]
      refine ⟨ld0, ld4, ?_⟩
      rw [binV_int, intBin_add, wi, Run_bindO_some, Run_ret]
      rw [join_two] at h6
      rw [hsnoc]
      refine ⟨rfl, ?_, (f1.trans f15 fun _ _ hc => hc.elim).trans f6 fun _ _ hc => hc⟩
      rw [List.append_assoc] at h6
      exact h6
  · rintro L w1 ⟨rfl, hB1, f1⟩
    rw [List.take_length] at hB1
    have hn : ¬ ((fs.length : Nat) : Int) < fs.length := by omega
    rw [getL_zero, lssF hn, Run_bindO_some, Run_condM_false, Run_ret]
    simp only [outK_exit]
    rw [show Nat.beq 0 0 = true from rfl, cond_true, Run_ret]
    exact ⟨hB1, f1⟩
end
end Go.Proofs.YthlpfhjcdedhgaaDoor

/-
  Layer 4 (paper): part Zb: a pointer that is printed, on both sides.
-/
namespace Go.Proofs.YthlpfhjcdedhgaaDoor
open Go.Lift Go.Sort
set_option linter.unusedSimpArgs false
set_option linter.unusedVariables false
set_option maxHeartbeats 4000000
def CUR : List UInt8 := [99, 117, 114]
def PREV : List UInt8 := [112, 114, 101, 118]
def EPOCH : List UInt8 := [101, 112, 111, 99, 104]
def SEQ : List UInt8 := [115, 101, 113]
def LATEST : List UInt8 := [103, 114, 97, 110, 97, 114, 121, 32, 108, 97, 116, 101, 115, 116, 32, 49]
def ptrF : List Fd := [⟨CUR, 0, 999999, 0, .func (.func 48) #[] #[]⟩, ⟨PREV, 0, 999999, 1, .func (.func 49) #[] #[]⟩, ⟨EPOCH, 0, 9007199254740992, 2, .func (.func 50) #[] #[]⟩, ⟨SEQ, 0, 9007199254740992, 3, .func (.func 51) #[] #[]⟩]
def Nt.at (n : Nt) (i : Nat) : Int := match i with
  | 0 => n.k
  | 1 => n.f
  | 2 => n.u
  | _ => n.c
def Nt.pok (n : Nt) : Bool := ptrF.all fun f => f.inR n.at
def ptrL (n : Nt) : List UInt8 := LATEST ++ [10] ++ fldsL ptrF n.at
def ptrO (n : Nt) : Value := if n.pok = true then .tuple #[.string (sb (closeL (ptrL n))), .int .i64 0] else .tuple #[.string (sb []), .int .i64 42]
theorem pok_iff (n : Nt) : n.pok = true ↔ (0 ≤ n.k ∧ n.k ≤ 999999) ∧ (0 ≤ n.f ∧ n.f ≤ 999999) ∧ (0 ≤ n.u ∧ n.u ≤ 9007199254740992) ∧ (0 ≤ n.c ∧ n.c ≤ 9007199254740992) := by
  simp [Nt.pok, ptrF, Fd.inR, Nt.at]
theorem ptr_len {n : Nt} (h : n.pok = true) : (ptrL n).length ≤ 1000 := by
  have h1 := (pok_iff n).1 h
  have a := dec_len (n := n.k.toNat) (by omega)
  have b := dec_len (n := n.f.toNat) (by omega)
  have c := dec_len (n := n.u.toNat) (by omega)
  have d := dec_len (n := n.c.toNat) (by omega)
  simp [ptrL, fldsL, ptrF, fldL, Nt.at, CUR, PREV, EPOCH, SEQ, LATEST]
  omega
section
variable {w w1 w2 : World}
theorem ptrF_ok : ∀ f ∈ ptrF, f.Ok := by
  intro f hf
  simp only [ptrF, List.mem_cons, List.not_mem_nil, or_false] at hf
  rcases hf with rfl | rfl | rfl | rfl
  · exact ⟨fun x w Q q => by
      have e : callV F.clos (.func (.func 48) #[] #[]) [.pointer (some ⟨x, 0, none⟩)] = F.paper_pointerFields_1 (.pointer (some ⟨x, 0, none⟩)) := by kernel_rfl
      show Run (callV F.clos (.func (.func 48) #[] #[]) [.pointer (some ⟨x, 0, none⟩)]) w Q
      rw [e]
      unfold F.paper_pointerFields_1
      simp
      exact q, ⟨rfl, rfl⟩, by decide, by decide⟩
  · exact ⟨fun x w Q q => by
      have e : callV F.clos (.func (.func 49) #[] #[]) [.pointer (some ⟨x, 0, none⟩)] = F.paper_pointerFields_2 (.pointer (some ⟨x, 0, none⟩)) := by kernel_rfl
      show Run (callV F.clos (.func (.func 49) #[] #[]) [.pointer (some ⟨x, 0, none⟩)]) w Q
      rw [e]
      unfold F.paper_pointerFields_2
      simp
      exact q, ⟨rfl, rfl⟩, by decide, by decide⟩
  · exact ⟨fun x w Q q => by
      have e : callV F.clos (.func (.func 50) #[] #[]) [.pointer (some ⟨x, 0, none⟩)] = F.paper_pointerFields_3 (.pointer (some ⟨x, 0, none⟩)) := by kernel_rfl
      show Run (callV F.clos (.func (.func 50) #[] #[]) [.pointer (some ⟨x, 0, none⟩)]) w Q
      rw [e]
      unfold F.paper_pointerFields_3
      simp
      exact q, ⟨rfl, rfl⟩, by decide, by decide⟩
  · exact ⟨fun x w Q q => by
      have e : callV F.clos (.func (.func 51) #[] #[]) [.pointer (some ⟨x, 0, none⟩)] = F.paper_pointerFields_4 (.pointer (some ⟨x, 0, none⟩)) := by kernel_rfl
      show Run (callV F.clos (.func (.func 51) #[] #[]) [.pointer (some ⟨x, 0, none⟩)]) w Q
      rw [e]
      unfold F.paper_pointerFields_4
      simp
      exact q, ⟨rfl, rfl⟩, by decide, by decide⟩
theorem ptrF_at (n : Nt) : ∀ f ∈ ptrF, n.row[f.off]? = some (.int .i64 (n.at f.off)) := by
  intro f hf
  simp only [ptrF, List.mem_cons, List.not_mem_nil, or_false] at hf
  rcases hf with rfl | rfl | rfl | rfl <;> rfl
theorem pfields_run : Run F.paper_pointerFields w fun r w' => SlW 4 w' r (ptrF.map Fd.row) ∧ Fr (fun _ => False) w w' ∧ ∀ c, inB r c → w.heap.size ≤ c ∧ c < w'.heap.size := by
  unfold F.paper_pointerFields
  have b1 : buildV #[(Value.string ByteArray.empty), (Value.int IntKind.i64 0), (Value.int IntKind.i64 0), Value.nilFunc] [(0, 1, (Value.string (ByteArray.mk #[99, 117, 114]))), (1, 1, (Value.int IntKind.i64 0)), (2, 1, (Value.int IntKind.i64 999999)), (3, 1, (Value.func (Fn.func 48) #[] #[]))] = some (Fd.v ⟨CUR, 0, 999999, 0, .func (.func 48) #[] #[]⟩) := by kernel_rfl
  have b2 : buildV #[(Value.string ByteArray.empty), (Value.int IntKind.i64 0), (Value.int IntKind.i64 0), Value.nilFunc] [(0, 1, (Value.string (ByteArray.mk #[112, 114, 101, 118]))), (1, 1, (Value.int IntKind.i64 0)), (2, 1, (Value.int IntKind.i64 999999)), (3, 1, (Value.func (Fn.func 49) #[] #[]))] = some (Fd.v ⟨PREV, 0, 999999, 1, .func (.func 49) #[] #[]⟩) := by kernel_rfl
  have b3 : buildV #[(Value.string ByteArray.empty), (Value.int IntKind.i64 0), (Value.int IntKind.i64 0), Value.nilFunc] [(0, 1, (Value.string (ByteArray.mk #[101, 112, 111, 99, 104]))), (1, 1, (Value.int IntKind.i64 0)), (2, 1, (Value.int IntKind.i64 9007199254740992)), (3, 1, (Value.func (Fn.func 50) #[] #[]))] = some (Fd.v ⟨EPOCH, 0, 9007199254740992, 2, .func (.func 50) #[] #[]⟩) := by kernel_rfl
  have b4 : buildV #[(Value.string ByteArray.empty), (Value.int IntKind.i64 0), (Value.int IntKind.i64 0), Value.nilFunc] [(0, 1, (Value.string (ByteArray.mk #[115, 101, 113]))), (1, 1, (Value.int IntKind.i64 0)), (2, 1, (Value.int IntKind.i64 9007199254740992)), (3, 1, (Value.func (Fn.func 51) #[] #[]))] = some (Fd.v ⟨SEQ, 0, 9007199254740992, 3, .func (.func 51) #[] #[]⟩) := by kernel_rfl
  rw [b1, Run_bindO_some, b2, Run_bindO_some, b3, Run_bindO_some, b4, Run_bindO_some, Run_bind]
  refine Run_bsl (k := 4) (vs := ptrF.map Fd.v) (by kernel_rfl) (by intro v hv; simp only [ptrF, List.map_cons, List.map_nil, List.mem_cons, List.not_mem_nil, or_false] at hv; rcases hv with rfl | rfl | rfl | rfl <;> rfl) rfl (by kernel_rfl) fun r w' hr f hb => ?_
  rw [Run_ret]
  exact ⟨hr, f, fun c hc => ⟨Nat.le_of_eq (hb c hc).1.symm, (hb c hc).2⟩⟩
theorem pprint_run (ht : Tb w) (n : Nt) : Run (F.paper_PrintPointer n.v) w fun r w' => r = ptrO n ∧ Fr (fun _ => False) w w' := by
  unfold F.paper_PrintPointer
  rw [Run_bind]
  refine Run_new fun x w1 hx hxw f1 hxle => ?_
  replace hx : bk w1 x = some n.row := hx
  have e0 : ByteArray.mk #[] = sb [] := rfl
  have eL : ByteArray.mk #[103, 114, 97, 110, 97, 114, 121, 32, 108, 97, 116, 101, 115, 116, 32, 49] = sb LATEST := rfl
  rw [Run_bind]
  refine pfields_run.mono ?_
  rintro t w2 ⟨ht2, f2, hn2⟩
  rw [Run_bind]
  refine (ranges_run ht2.1 ptrF_ok (f2.bk_some hx id) (ptrF_at n) (by decide)).mono ?_
  rintro _ w3 ⟨rfl, f3⟩
  have f13 := (f1.trans f2 fun _ _ => id).trans f3 fun _ _ => id
  have hx3 := f3.bk_some (f2.bk_some hx id) id
  have hnv : ∀ b, notV (.bool b) = some (.bool !b) := fun _ => rfl
  rw [hnv, Run_bindO_some]
  cases hok : n.pok with
  | false =>
    have hok' : (ptrF.all fun f => f.inR n.at) = false := hok
    rw [hok', Bool.not_false, Run_condM_true, Run_ret, ptrO, hok]
    exact ⟨by rw [if_neg (by simp), e0], f13⟩
  | true =>
    have hok' : (ptrF.all fun f => f.inR n.at) = true := hok
    have z0 : buildV #[(Value.pointer none), (Value.slice none 0 0)] [] = some (.agg #[(Value.pointer none), (Value.slice none 0 0)]) := rfl
    rw [hok', Bool.not_true, Run_condM_false, z0, Run_bindO_some, Run_bind]
    refine bgNew fun b w4 hB f4 => ?_
    rw [Run_bind]
    refine Run_bsl (k := 1) (vs := [.string (sb LATEST)]) (by rfl) (by intro v hv; simp only [List.mem_singleton] at hv; subst hv; rfl) rfl (by kernel_rfl) fun r w5 hr f5 _ => ?_
    rw [Run_bind]
    refine (line_run (hB.frm f5) (xs := [LATEST]) hr.1 (by rw [join_one]; decide) (by decide) (by rw [join_one]; decide) (by simp [sb_size]; decide) (by decide)).mono ?_
    rintro _ w6 ⟨hB6, f6⟩
    rw [join_one, List.nil_append] at hB6
    rw [Run_bind]
    refine pfields_run.mono ?_
    rintro t2 w7 ⟨ht7, f7, hn7⟩
    have hB7 := hB6.more f7
    have low := tb_low (ht.fr0 f13)
    have hx4 := bk_lt hx3
    have f37 : Fr (fun c => ¬ c < w3.heap.size) w3 w7 := (((f4.trans f5 fun _ _ => id).mono fun _ h => h.elim).trans f6 fun _ _ hc => hc).trans f7 fun _ _ h => h.elim
    have t7 := (ht.fr0 f13).fr f37 fun c hc hn => hn (by omega)
    rw [Run_bind]
    refine (write_run hB7 t7 (fun c hc => .inl (by omega)) (fun c hc => .inr (hn7 c hc)) ht7.1 ptrF_ok (f37.bk_some hx3 fun hn => hn hx4) (.inl hx4) (ptrF_at n) (fun f hf => List.all_eq_true.1 hok' f hf) (by decide) (by decide)).mono ?_
    rintro _ w8 ⟨hB8, f8⟩
    have t8 := t7.fr f8 fun c hc hn => hn (.inl (by omega))
    have f38 : Fr (fun c => ¬ c < w3.heap.size) w3 w8 := f37.trans f8 fun c _ hc h => hc (.inl h)
    have hpl : (ptrL n).length ≤ 100000 := by have := ptr_len hok; omega
    rw [Run_bind]
    refine (closed_run t8 hB8 (by simp [LATEST]) (by
      show (ptrL n).length ≤ _
      omega) (fun c hc => .inl (by omega))).mono ?_
    rintro _ w9 ⟨rfl, f9⟩
    rw [Run_ret, ptrO, if_pos hok]
    refine ⟨rfl, f13.trans (f38.trans f9 fun c _ hc h => hc (.inl h)) fun c hc hn => hn ?_⟩
    have := f13.size
    omega
end
end Go.Proofs.YthlpfhjcdedhgaaDoor

/-
  Layer 4 (paper): part Zc: the document's pointer, printed.
-/
namespace Go.Proofs.YthlpfhjcdedhgaaDoor
open Go.Lift Go.Sort
set_option linter.unusedSimpArgs false
set_option linter.unusedVariables false
set_option maxHeartbeats 4000000
section
variable {w w1 w2 : World}
def T1 : List UInt8 := LATEST ++ [10] ++ CUR ++ [32]
def T2 : List UInt8 := [10] ++ PREV ++ [32]
def T3 : List UInt8 := [10] ++ EPOCH ++ [32]
def T4 : List UInt8 := [10] ++ SEQ ++ [32]
theorem ptr_parts (n : Nt) : ptrL n = T1 ++ Lib.decDigits n.k.toNat ++ T2 ++ Lib.decDigits n.f.toNat ++ T3 ++ Lib.decDigits n.u.toNat ++ T4 ++ Lib.decDigits n.c.toNat ++ [10] := by
  simp [ptrL, fldsL, ptrF, fldL, Nt.at, T1, T2, T3, T4]
theorem rpf_run (n : Nt) : Run (F.granaryref4_pointerFields n.v) w fun r w' => r = .int .i64 (if n.pok = true then 0 else 42) ∧ Fr (fun _ => False) w w' := by
  unfold F.granaryref4_pointerFields
  rw [Run_bind]
  refine Run_new fun x w1 hx hxw f1 hxle => ?_
  replace hx : bk w1 x = some n.row := hx
  have hp := pok_iff n
  by_cases h1 : 0 ≤ n.k ∧ n.k ≤ 999999
  case neg =>
    have hn : ¬ n.pok = true := fun h => h1 (hp.1 h).1
    simp [-ldA_ptr, hx, Nt.row, Run_in, h1, hn, f1]
  by_cases h2 : 0 ≤ n.f ∧ n.f ≤ 999999
  case neg =>
    have hn : ¬ n.pok = true := fun h => h2 (hp.1 h).2.1
    simp [-ldA_ptr, hx, Nt.row, Run_in, h1, h2, hn, f1]
  by_cases h3 : 0 ≤ n.u ∧ n.u ≤ 9007199254740992
  case neg =>
    have hn : ¬ n.pok = true := fun h => h3 (hp.1 h).2.2.1
    simp [-ldA_ptr, hx, Nt.row, Run_in, h1, h2, h3, hn, f1]
  by_cases h4 : 0 ≤ n.c ∧ n.c ≤ 9007199254740992
  case neg =>
    have hn : ¬ n.pok = true := fun h => h4 (hp.1 h).2.2.2
    simp [-ldA_ptr, hx, Nt.row, Run_in, h1, h2, h3, h4, hn, f1]
  have hn : n.pok = true := hp.2 ⟨h1, h2, h3, h4⟩
  simp [-ldA_ptr, hx, Nt.row, Run_in, h1, h2, h3, h4, hn, f1]
theorem rclosed_run (l : List UInt8) (hl : l.length ≤ 1073741824) : Run (F.granaryref4_closed (.string (sb l))) w fun r w' => r = .string (sb (closeL l)) ∧ Fr (fun _ => False) w w' := by
  unfold F.granaryref4_closed
  have eS : ByteArray.mk #[115, 117, 109, 32] = sb SUM := rfl
  have e10 : ByteArray.mk #[10] = sb [10] := rfl
  have lS : SUM.length = 4 := rfl
  have a1 := sbAdd (a := l) (c := SUM) (by omega)
  rw [eS, a1, Run_bindO_some, Run_bind]
  refine (rcrc_run (sb l) (by rw [sb_size]; omega)).mono ?_
  rintro _ w1 ⟨rfl, rfl⟩
  rw [Run_bind]
  refine (eight_run _ (crcF_lt _)).mono ?_
  rintro _ w2 ⟨rfl, f2⟩
  have l8 : (eightL (crcF (sb l))).length = 8 := lowD_len _ _
  have eE : eightS (crcF (sb l)) = sb (eightL (crcF (sb l))) := rfl
  have a2 := sbAdd (a := l ++ SUM) (c := eightL (crcF (sb l))) (by rw [List.length_append]; omega)
  have a3 := sbAdd (a := l ++ SUM ++ eightL (crcF (sb l))) (c := [10]) (by rw [List.length_append, List.length_append, List.length_singleton]; omega)
  rw [eE, a2, Run_bindO_some, e10, a3, Run_bindO_some, Run_ret]
  exact ⟨rfl, f2⟩
theorem rpprint_run (ht : Tb w) (n : Nt) : Run (F.granaryref4_PrintPointer n.v) w fun r w' => r = ptrO n ∧ Fr (fun _ => False) w w' := by
  unfold F.granaryref4_PrintPointer
  rw [Run_bind]
  refine Run_new fun x w1 hx hxw f1 hxle => ?_
  have hxa : ldA 4 (.pointer (some ⟨x, 0, none⟩)) w1 = some n.v := ldA_bk hx (Nat.le_refl _)
  replace hx : bk w1 x = some n.row := hx
  have ht1 := ht.fr0 f1
  rw [Run_bind, Run_rdM]
  refine ⟨_, hxa, ?_⟩
  rw [Run_bind]
  refine (rpf_run n).mono ?_
  rintro _ w2 ⟨rfl, f2⟩
  have e0 : ByteArray.mk #[] = sb [] := rfl
  by_cases hok : n.pok = true
  case neg =>
    rw [if_neg hok]
    have h42 : (!decide ((42 : Int) = 0)) = true := by decide
    rw [binV_int, intBin_neq, h42, Run_bindO_some, Run_condM_true, Run_ret, ptrO, if_neg hok, e0]
    exact ⟨rfl, f1.trans f2 fun _ _ => id⟩
  rw [if_pos hok]
  have h00 : (!decide ((0 : Int) = 0)) = false := by decide
  rw [binV_int, intBin_neq, h00, Run_bindO_some, Run_condM_false, ptrO, if_pos hok]
  have hp := (pok_iff n).1 hok
  have hx2 := f2.bk_some hx id
  have t2 := ht1.fr0 f2
  obtain ⟨k, f, u, c⟩ := n
  simp only at hp
  obtain ⟨k, rfl⟩ : ∃ n : Nat, k = n := ⟨k.toNat, by omega⟩
  obtain ⟨f, rfl⟩ : ∃ n : Nat, f = n := ⟨f.toNat, by omega⟩
  obtain ⟨u, rfl⟩ : ∃ n : Nat, u = n := ⟨u.toNat, by omega⟩
  obtain ⟨c, rfl⟩ : ∃ n : Nat, c = n := ⟨c.toNat, by omega⟩
  have l1 := dec_len (n := k) (by omega)
  have l2 := dec_len (n := f) (by omega)
  have l3 := dec_len (n := u) (by omega)
  have l4 := dec_len (n := c) (by omega)
  have eT1 : ByteArray.mk #[103, 114, 97, 110, 97, 114, 121, 32, 108, 97, 116, 101, 115, 116, 32, 49, 10, 99, 117, 114, 32] = sb T1 := rfl
  have eT2 : ByteArray.mk #[10, 112, 114, 101, 118, 32] = sb T2 := rfl
  have eT3 : ByteArray.mk #[10, 101, 112, 111, 99, 104, 32] = sb T3 := rfl
  have eT4 : ByteArray.mk #[10, 115, 101, 113, 32] = sb T4 := rfl
  have e10 : ByteArray.mk #[10] = sb [10] := rfl
  have q1 : T1.length = 21 := rfl
  have q2 : T2.length = 6 := rfl
  have q3 : T3.length = 7 := rfl
  have q4 : T4.length = 5 := rfl
  have eI : ∀ n, itoaS n = sb (Lib.decDigits n) := fun _ => rfl
  have ld : ∀ {w : World}, bk w x = some (Nt.row ⟨k, f, u, c⟩) → ld1 (.pointer (some ⟨x, 0 + 0, none⟩)) w = some (.int .i64 (k : Int)) ∧ ld1 (.pointer (some ⟨x, 0 + 1, none⟩)) w = some (.int .i64 (f : Int)) ∧ ld1 (.pointer (some ⟨x, 0 + 2, none⟩)) w = some (.int .i64 (u : Int)) ∧ ld1 (.pointer (some ⟨x, 0 + 3, none⟩)) w = some (.int .i64 (c : Int)) := fun h => by
    refine ⟨?_, ?_, ?_, ?_⟩ <;> rw [ld1_ptr, h] <;> rfl
  have fd : Fr (fun _ => False) w2 w2.drew := (Fr.refl _ _).drew
  have td := t2.fr0 fd
  have hxd : bk w2.drew x = some (Nt.row ⟨k, f, u, c⟩) := hx2
  rw [Run_drewM]
  generalize w2.drew = w3 at *
  rw [Run_getM, fieldA_ptr, Run_bindO_some, Run_bind, Run_rdM]
  refine ⟨_, (ld hxd).1, ?_⟩
  rw [Run_bind]
  refine (itoa_run td (n := k) (by omega)).mono ?_
  rintro _ w4 ⟨rfl, f4⟩
  have hx4 := f4.bk_some hxd id
  have t4 := td.fr0 f4
  have a1 := sbAdd (a := T1) (c := Lib.decDigits k) (by omega)
  have a2 := sbAdd (a := T1 ++ Lib.decDigits k) (c := T2) (by rw [List.length_append]; omega)
  rw [Run_getM, eI, eT1, a1, Run_bindO_some, eT2, a2, Run_bindO_some, fieldA_ptr, Run_bindO_some, Run_bind, Run_rdM]
  refine ⟨_, (ld hx4).2.1, ?_⟩
  rw [Run_bind]
  refine (itoa_run t4 (n := f) (by omega)).mono ?_
  rintro _ w5 ⟨rfl, f5⟩
  have hx5 := f5.bk_some hx4 id
  have t5 := t4.fr0 f5
  have a3 := sbAdd (a := T1 ++ Lib.decDigits k ++ T2) (c := Lib.decDigits f) (by simp only [List.length_append]; omega)
  rw [Run_getM, eI, a3, Run_bindO_some, Run_reqM]
  refine ⟨(ld hxd).2.1, ?_⟩
  have fd5 : Fr (fun _ => False) w5 w5.drew := (Fr.refl _ _).drew
  have td5 := t5.fr0 fd5
  have hxd5 : bk w5.drew x = some (Nt.row ⟨k, f, u, c⟩) := hx5
  rw [Run_drewM]
  generalize w5.drew = w6 at *
  have a4 := sbAdd (a := T1 ++ Lib.decDigits k ++ T2 ++ Lib.decDigits f) (c := T3) (by simp only [List.length_append]; omega)
  rw [Run_getM, eT3, a4, Run_bindO_some, fieldA_ptr, Run_bindO_some, Run_bind, Run_rdM]
  refine ⟨_, (ld hxd5).2.2.1, ?_⟩
  rw [Run_bind]
  refine (itoa_run td5 (n := u) (by omega)).mono ?_
  rintro _ w7 ⟨rfl, f7⟩
  have hx7 := f7.bk_some hxd5 id
  have t7 := td5.fr0 f7
  have a5 := sbAdd (a := T1 ++ Lib.decDigits k ++ T2 ++ Lib.decDigits f ++ T3) (c := Lib.decDigits u) (by simp only [List.length_append]; omega)
  have a6 := sbAdd (a := T1 ++ Lib.decDigits k ++ T2 ++ Lib.decDigits f ++ T3 ++ Lib.decDigits u) (c := T4) (by simp only [List.length_append]; omega)
  rw [Run_getM, eI, a5, Run_bindO_some, eT4, a6, Run_bindO_some, fieldA_ptr, Run_bindO_some, Run_bind, Run_rdM]
  refine ⟨_, (ld hx7).2.2.2, ?_⟩
  rw [Run_bind]
  refine (itoa_run t7 (n := c) (by omega)).mono ?_
  rintro _ w8 ⟨rfl, f8⟩
  have a7 := sbAdd (a := T1 ++ Lib.decDigits k ++ T2 ++ Lib.decDigits f ++ T3 ++ Lib.decDigits u ++ T4) (c := Lib.decDigits c) (by simp only [List.length_append]; omega)
  have a8 := sbAdd (a := T1 ++ Lib.decDigits k ++ T2 ++ Lib.decDigits f ++ T3 ++ Lib.decDigits u ++ T4 ++ Lib.decDigits c) (c := [10]) (by simp only [List.length_append, List.length_singleton]; omega)
  rw [Run_getM, eI, a7, Run_bindO_some, e10, a8, Run_bindO_some, Run_reqM]
  refine ⟨(ld hxd5).2.2.2, ?_⟩
  have hpp := ptr_parts ⟨k, f, u, c⟩
  rw [Run_bind]
  refine (rclosed_run _ (by simp only [List.length_append, List.length_singleton]; omega)).mono ?_
  rintro _ w9 ⟨rfl, f9⟩
  rw [Run_ret, hpp]
  exact ⟨rfl, (((((((f1.trans f2 fun _ _ => id).trans fd fun _ _ => id).trans f4 fun _ _ => id).trans f5 fun _ _ => id).trans fd5 fun _ _ => id).trans f7 fun _ _ => id).trans f8 fun _ _ => id).trans f9 fun _ _ => id⟩
end
end Go.Proofs.YthlpfhjcdedhgaaDoor

/-
  Layer 4 (paper): part Zd: fields' lines that are read.
-/
namespace Go.Proofs.YthlpfhjcdedhgaaDoor
open Go.Lift Go.Sort
set_option linter.unusedSimpArgs false
set_option linter.unusedVariables false
set_option maxHeartbeats 4000000
/-- The number of a field's line. -/
def fldO (f : Fd) (l : List UInt8) : Option Nat := if (f.word ++ [32]) <+: l then numF (l.drop (f.word ++ [32]).length) else none
def putF : List (Fd × List UInt8) → List Value → List Value
  | [], l => l
  | z :: r, l => putF r (l.set z.1.off (.int .i64 (((fldO z.1 z.2).getD 0 : Nat) : Int)))
theorem putF_snoc : ∀ (a : List (Fd × List UInt8)) (z : Fd × List UInt8) (l : List Value), putF (a ++ [z]) l = (putF a l).set z.1.off (.int .i64 (((fldO z.1 z.2).getD 0 : Nat) : Int))
  | [], z, l => rfl
  | y :: a, z, l => by rw [List.cons_append]; unfold putF; rw [putF_snoc a z]
theorem putF_len : ∀ (a : List (Fd × List UInt8)) (l : List Value), (putF a l).length = l.length
  | [], l => rfl
  | y :: a, l => by unfold putF; rw [putF_len a, List.length_set]
theorem hasPrefix_iff {s p : List UInt8} : Lib.hasPrefix s p = decide (p <+: s) := by
  unfold Lib.hasPrefix
  rw [Bool.eq_iff_iff, List.isPrefixOf_iff_prefix, decide_eq_true_iff]
theorem trim_of {s p : List UInt8} (h : p <+: s) : Lib.trimPrefix s p = s.drop p.length := by
  unfold Lib.trimPrefix
  rw [hasPrefix_iff, decide_eq_true h, if_pos rfl]
section
variable {w w1 w2 : World}
theorem cutp_run (s p : List UInt8) : F.strings_CutPrefix (.string (sb s)) (.string (sb p)) w = some (.tuple #[.string (sb (Lib.trimPrefix s p)), .bool (decide (p <+: s))], w) := by
  unfold F.strings_CutPrefix
  show some (Value.tuple #[.string (sb (Lib.trimPrefix s p)), .bool (Lib.hasPrefix s p)], w) = _
  rw [hasPrefix_iff]
theorem numberOf_run {f : Fd} {l : List UInt8} (hl : l.length ≤ 4611686018427387904) (hw : f.word.length ≤ 100) : Run (F.paper_numberOf (.string (sb l)) (.string (sb f.word))) w fun r w' => r = numV (fldO f l) ∧ Fr (fun _ => False) w w' := by
  unfold F.paper_numberOf
  have e32 : ByteArray.mk #[32] = sb [32] := rfl
  have a1 := sbAdd (a := f.word) (c := [32]) (by simp; omega)
  have hnv : ∀ b, notV (.bool b) = some (.bool !b) := fun _ => rfl
  have y0 : ∀ v x, extV 0 (.tuple #[v, x]) = some v := fun _ _ => rfl
  have y1 : ∀ v x, extV 1 (.tuple #[v, x]) = some x := fun _ _ => rfl
  rw [e32, a1, Run_bindO_some, Run_bind]
  refine ⟨_, _, cutp_run l (f.word ++ [32]), ?_⟩
  show Run (bindO (extV 0 (.tuple #[.string (sb (Lib.trimPrefix l (f.word ++ [32]))), .bool (decide ((f.word ++ [32]) <+: l))])) _) w _
  rw [y0, Run_bindO_some, y1, Run_bindO_some, hnv, Run_bindO_some]
  unfold fldO
  by_cases h : (f.word ++ [32]) <+: l
  · rw [decide_eq_true h, Bool.not_true, Run_condM_false, Run_bind, trim_of h, if_pos h]
    refine (number_run _ (by rw [List.length_drop]; omega)).mono ?_
    rintro _ w1 ⟨rfl, f1⟩
    have e : ∀ o, extV 0 (numV o) = some (.int .i64 ((o.getD 0 : Nat) : Int)) := fun _ => rfl
    have e' : ∀ o, extV 1 (numV o) = some (.bool o.isSome) := fun _ => rfl
    rw [e, Run_bindO_some, e', Run_bindO_some, Run_ret]
    exact ⟨rfl, f1⟩
  · rw [decide_eq_false h, Bool.not_false, Run_condM_true, Run_ret, if_neg h]
    exact ⟨rfl, Fr.refl _ _⟩
theorem parseF_run {t v : Value} {fs : List Fd} {N : List (List UInt8)} (ht : Sl 4 w t (fs.map Fd.row)) (hv : Sl 1 w v (N.map fun s => [.string (sb s)])) (hok : ∀ f ∈ fs, f.Ok) {x : Nat} {l : List Value} (hx : bk w x = some l) (hxw : wr w x = true)
    (hoff : ∀ f ∈ fs, f.off < l.length) (hn : fs.length ≤ 1000) (hN : N.length ≤ 4611686018427387904) (hNl : ∀ s ∈ N, s.length ≤ 4611686018427387904) (htx : ¬ inB t x) (hvx : ¬ inB v x) :
    Run (F.api_Pointer_54 v t (.pointer (some ⟨x, 0, none⟩))) w fun r w' => r = .bool (decide (N.length = fs.length) && (fs.zip N).all fun z => (fldO z.1 z.2).isSome) ∧
      (∃ l', bk w' x = some l' ∧ wr w' x = true ∧ l'.length = l.length ∧ ((decide (N.length = fs.length) && (fs.zip N).all fun z => (fldO z.1 z.2).isSome) = true → l' = putF (fs.zip N) l)) ∧ Fr (fun c => c = x) w w' := by
  unfold F.api_Pointer_54
  have hlen := ht.lenL
  have hlv := hv.lenL
  rw [List.length_map] at hlen hlv
  rw [hlv, Run_bindO_some, hlen, Run_bindO_some, binV_int, intBin_neq, Run_bindO_some]
  by_cases hlen2 : N.length = fs.length
  case neg =>
    have h' : ¬ ((N.length : Nat) : Int) = fs.length := by omega
    have hf : (!decide (((N.length : Nat) : Int) = fs.length)) = true := by simp [h']
    rw [hf, Run_condM_true, Run_ret, decide_eq_false hlen2, Bool.false_and]
    exact ⟨rfl, ⟨l, hx, hxw, rfl, fun h => Bool.noConfusion h⟩, Fr.refl _ _⟩
  have h' : ((N.length : Nat) : Int) = fs.length := by omega
  have hf : (!decide (((N.length : Nat) : Int) = fs.length)) = false := by simp [h']
  rw [hf, Run_condM_false, Run_bindO_some, Run_bind, decide_eq_true hlen2, Bool.true_and]
  have hzl : (fs.zip N).length = fs.length := by rw [List.length_zip]; omega
  obtain ⟨J, hJ, hgood, hend⟩ := far_ex (fun z : Fd × List UInt8 => (fldO z.1 z.2).isSome) (fs.zip N)
  rw [hzl] at hJ
  have step : ∀ (i : Nat) (z : Fd × List UInt8) (w1 : World), (fs.zip N)[i]? = some z → Fr (fun c => c = x) w w1 → ∀ {β : Type} {K : Value → Value → Value → M β} {Q : β → World → Prop}, (∀ y w', bk w' y = some z.1.row → Fr (fun _ => False) w1 w' → Run (K (.int .i64 (((fldO z.1 z.2).getD 0 : Nat) : Int)) (.bool (fldO z.1 z.2).isSome) (.pointer (some ⟨y, 0, none⟩))) w' Q) →
      Run (bindO (idxA 4 t (.int .i64 (i : Int))) fun x4 => M.bind (rdM (ldA 4 x4)) fun x5 => M.bind (newM 92 #[(Value.string ByteArray.empty), (Value.int IntKind.i64 0), (Value.int IntKind.i64 0), Value.nilFunc]) fun x9 => M.bind (stM 4 x9 x5) fun _ =>
        drewM <|
        bindO (idxA 1 v (.int .i64 (i : Int))) fun x11 =>
        M.bind (rdM (ld1 x11)) fun x12 =>
        bindO (fieldA 0 x9) fun x13 =>
        M.bind (rdM (ld1 x13)) fun x14 =>
        M.bind (F.paper_numberOf x12 x14) fun x15 =>
        bindO (extV 0 x15) fun x16 =>
        bindO (extV 1 x15) fun x17 => K x16 x17 x9) w1 Q := by
    intro i z w1 hz f1 β K Q q
    obtain ⟨hz1, hz2⟩ := List.getElem?_zip_eq_some.1 hz
    have hfm := List.mem_of_getElem? hz1
    have hsm := List.mem_of_getElem? hz2
    refine Run_field (ht.fr f1 fun c hc he => htx (he ▸ hc)) hz1 (hok _ hfm) fun y w2 hy hwy hyle f2 => ?_
    rw [Run_drewM]
    have f2d : Fr (fun _ => False) w1 w2.drew := f2.drew
    have hyd : bk w2.drew y = some z.1.row := hy
    generalize w2.drew = w3 at *
    have hv3 := (hv.fr f1 fun c hc he => hvx (he ▸ hc)).fr0 f2d
    obtain ⟨p, p1, p2⟩ := hv3.rd1 (i := i) (y := .string (sb z.2)) (by simp [hz2]) .i64
    have p1' : idxA 1 v (.int .i64 (i : Int)) = some p := p1
    have ld0 : ld1 (.pointer (some ⟨y, 0 + 0, none⟩)) w3 = some (.string (sb z.1.word)) := by rw [ld1_ptr, hyd]; rfl
    rw [p1', Run_bindO_some, Run_bind, Run_rdM]
    refine ⟨_, p2, ?_⟩
    rw [fieldA_ptr, Run_bindO_some, Run_bind, Run_rdM]
    refine ⟨_, ld0, ?_⟩
    rw [Run_bind]
    refine (numberOf_run (hNl _ hsm) (hok _ hfm).word.2.1).mono ?_
    rintro _ w4 ⟨rfl, f4⟩
    have e : ∀ o, extV 0 (numV o) = some (.int .i64 ((o.getD 0 : Nat) : Int)) := fun _ => rfl
    have e' : ∀ o, extV 1 (numV o) = some (.bool o.isSome) := fun _ => rfl
    rw [e, Run_bindO_some, e', Run_bindO_some]
    exact q y w4 (f4.bk_some hyd id) (f2d.trans f4 fun _ _ => id)
  have hnv : ∀ b, notV (.bool b) = some (.bool !b) := fun _ => rfl
  refine Run_for J (fun i L w' => L = [.int .i64 (i : Int)] ∧ bk w' x = some (putF ((fs.zip N).take i) l) ∧ wr w' x = true ∧ Fr (fun c => c = x) w w') ⟨rfl, hx, hxw, Fr.refl _ _⟩ ?_ ?_
  · rintro i L w1 hi ⟨rfl, hb1, hw1, f1⟩
    obtain ⟨z, hz⟩ : ∃ z, (fs.zip N)[i]? = some z := ⟨_, List.getElem?_eq_getElem (by omega)⟩
    obtain ⟨hz1, hz2⟩ := List.getElem?_zip_eq_some.1 hz
    have hfm := List.mem_of_getElem? hz1
    have hil : (i : Int) < fs.length := by omega
    have wi := wrap_succ' (n := i) (by omega)
    rw [getL_zero, lssT hil, Run_bindO_some, Run_condM_true]
    refine step i z w1 hz f1 fun y w2 hy f2 => ?_
    have hy3 : ld1 (.pointer (some ⟨y, 0 + 3, none⟩)) w2 = some z.1.fn := by rw [ld1_ptr, hy]; rfl
    rw [hgood i z hi hz, hnv, Run_bindO_some, Bool.not_true, Run_condM_false, fieldA_ptr, Run_bindO_some, Run_bind, Run_rdM]
    refine ⟨_, hy3, ?_⟩
    rw [Run_bind]
    refine (hok _ hfm).cls x w2 _ ?_
    have nck : nilChk (.pointer (some ⟨x, z.1.off, none⟩)) = some (.pointer (some ⟨x, z.1.off, none⟩)) := rfl
    have hb2 := f2.bk_some hb1 id
    have hw2 : wr w2 x = true := by rw [f2.wr (bk_lt hb1) id]; exact hw1
    have ho := hoff _ hfm
    rw [nck, Run_bindO_some, Run_bind, Run_stM (by rfl) (by rfl) ⟨⟨_, hb2, by rw [putF_len]; show z.1.off + 1 ≤ _; omega⟩, hw2⟩, binV_int, intBin_add, wi, Run_bindO_some, Run_ret]
    refine ⟨rfl, ?_, by rw [wr_sto]; exact hw2, (f1.trans f2 fun _ _ h => h.elim).sto (.inl rfl) _ _⟩
    rw [bk_sto_same hb2, take_snocP hz, putF_snoc]
    rfl
  · rintro L w1 ⟨rfl, hb1, hw1, f1⟩
    rcases hend with ⟨hJe, hall⟩ | ⟨z, hz, hp, hall⟩
    · have hJf : J = fs.length := by omega
      have hn : ¬ (J : Int) < fs.length := by omega
      rw [getL_zero, lssF hn, Run_bindO_some, Run_condM_false, Run_ret]
      simp only [outK_exit]
      rw [show Nat.beq 0 0 = true from rfl, cond_true, Run_ret]
      rw [hJe, List.take_length] at hb1
      exact ⟨by rw [hall], ⟨_, hb1, hw1, putF_len _ _, fun _ => rfl⟩, f1⟩
    · have hlt := (List.getElem?_eq_some_iff.1 hz).1
      have hil : (J : Int) < fs.length := by omega
      rw [getL_zero, lssT hil, Run_bindO_some, Run_condM_true]
      refine step J z w1 hz f1 fun y w2 hy f2 => ?_
      rw [hp, hnv, Run_bindO_some, Bool.not_false, Run_condM_true, Run_ret]
      simp only [outK_ret, Run_ret]
      exact ⟨by rw [hall], ⟨_, f2.bk_some hb1 id, by rw [f2.wr (bk_lt hb1) id]; exact hw1, putF_len _ _, fun h => by rw [hall] at h; cases h⟩, f1.trans f2 fun _ _ h => h.elim⟩
end
end Go.Proofs.YthlpfhjcdedhgaaDoor

/-
  Layer 4 (paper): part Ze: a paper that is opened.
-/
namespace Go.Proofs.YthlpfhjcdedhgaaDoor
open Go.Lift Go.Sort
set_option linter.unusedSimpArgs false
set_option linter.unusedVariables false
set_option maxHeartbeats 4000000
/-- Is it a paper of that title, but for what its lines say? -/
def okF (s title : List UInt8) : Bool := decide (SUM <+: ((spl 10 s).getLast?).getD []) && (sumF ((((spl 10 s).getLast?).getD []).drop 4)).isSome && decide ((spl 10 s).head? = some title)
section
variable {w w1 w2 : World}
theorem sub13 {q : Nat} (h : 13 ≤ q) (h2 : q < 9223372036854775808) : IntKind.i64.wrap ((q : Int) - 13) = ((q - 13 : Nat) : Int) := by
  rw [show (q : Int) - 13 = ((q - 13 : Nat) : Int) by omega]
  exact i64W (by omega)
theorem sl_mid {k : Nat} {v : Value} {els : List (List Value)} (h : Sl k w v els) {a b : Nat} (hab : a ≤ b) (hb : b ≤ els.length) (kd : IntKind) : ∃ v', sliceV k v (some (.int kd a)) (some (.int kd b)) = some v' ∧ Sl k w v' ((els.take b).drop a) ∧ ∀ c, inB v' c → inB v c := by
  obtain ⟨h1, ad, c, rfl, h2, h3⟩ := h
  have ht : Sl k w (.slice ad (els.take b).length c) (els.take b) := by
    refine ⟨fun x hx => h1 x (List.mem_of_mem_take hx), ad, c, rfl, by rw [List.length_take]; omega, ?_⟩
    rcases h3 with h3 | ⟨bl, o, l, rfl, h4, h5, h6⟩
    · exact .inl h3
    · refine .inr ⟨bl, o, l, rfl, h4, h5, ?_⟩
      have hfl := flat_len h1
      have e : (els.take b).flatten = els.flatten.take (b * k) := by
        have hsp : els.flatten = (els.take b).flatten ++ (els.drop b).flatten := by rw [← List.flatten_append, List.take_append_drop]
        have hlt : (els.take b).flatten.length = b * k := by
          rw [flat_len fun x hx => h1 x (List.mem_of_mem_take hx), List.length_take, Nat.min_eq_left hb]
        rw [hsp, List.take_append_of_le_length (by omega), List.take_of_length_le (Nat.le_of_eq hlt)]
      rw [e, ← h6, List.take_take, List.length_take, Nat.min_eq_left hb, Nat.min_eq_left (Nat.mul_le_mul_right _ hb)]
  obtain ⟨v', e1, e2, e3⟩ := ht.drop (n := a) (by rw [List.length_take]; omega) kd
  refine ⟨v', ?_, e2, fun c hc => by have := e3 c hc; cases ad <;> exact this⟩
  rw [← e1, List.length_take, Nat.min_eq_left hb]
  have hbc : boundV (.int kd (b : Int)) c = some b := bound_at (by omega)
  simp only [sliceV, highV, hbc]
structure OpenP (w w' : World) (s title : List UInt8) (r : Value) : Prop where
  val : ∃ v right, r = .tuple #[v, .bool right, .bool (okF s title)] ∧ (okF s title = true → right = decide (sumF ((((spl 10 s).getLast?).getD []).drop 4) = some (crcF (sb ((s ++ [10]).take ((s ++ [10]).length - 13))))) ∧
    Sl 1 w' v ((((spl 10 s).take ((spl 10 s).length - 1)).drop 1).map fun x => [.string (sb x)]) ∧ ∀ c, inB v c → w.heap.size ≤ c ∧ c < w'.heap.size)
  fr : Fr (fun _ => False) w w'
theorem open_no {t title : List UInt8} (ht : ¬ [10] <:+ t) (hl : t.length ≤ 4294960000) : Run (F.paper_open (.string (sb t)) (.string (sb title))) w fun r w' => r = .tuple #[.slice none 0 0, .bool false, .bool false] ∧ w' = w := by
  unfold F.paper_open
  have e10 : ByteArray.mk #[10] = sb [10] := rfl
  have hs : F.strings_HasSuffix (.string (sb t)) (.string (sb [10])) w = some (.bool false, w) := by
    unfold F.strings_HasSuffix
    simp only
    rw [if_pos (by rw [sb_size]; omega)]
    show some (Value.bool (([10] : List UInt8).isSuffixOf t), w) = _
    have : ([10] : List UInt8).isSuffixOf t = false := by
      rw [Bool.eq_false_iff]
      exact fun h => ht (List.isSuffixOf_iff_suffix.1 h)
    rw [this]
  have hnv : ∀ b, notV (.bool b) = some (.bool !b) := fun _ => rfl
  rw [e10, Run_bind]
  refine ⟨_, _, hs, ?_⟩
  show Run (bindO (notV (.bool false)) _) w _
  rw [hnv, Run_bindO_some, Bool.not_false, Run_condM_true, Run_ret]
  exact ⟨rfl, rfl⟩
theorem open_yes (htb : Tb w) {s title : List UInt8} (hts : ¬ SUM <+: title) (hl : s.length ≤ 4294960000) : Run (F.paper_open (.string (sb (s ++ [10]))) (.string (sb title))) w fun r w' => OpenP w w' s title r := by
  unfold F.paper_open
  have e10 : ByteArray.mk #[10] = sb [10] := rfl
  have eS : ByteArray.mk #[115, 117, 109, 32] = sb SUM := rfl
  have hs : F.strings_HasSuffix (.string (sb (s ++ [10]))) (.string (sb [10])) w = some (.bool true, w) := by
    unfold F.strings_HasSuffix
    simp only
    rw [if_pos (by rw [sb_size, List.length_append, List.length_singleton]; omega)]
    show some (Value.bool (([10] : List UInt8).isSuffixOf (s ++ [10])), w) = _
    rw [List.isSuffixOf_iff_suffix.2 (List.suffix_append s [10])]
  have hnv : ∀ b, notV (.bool b) = some (.bool !b) := fun _ => rfl
  have y0 : ∀ v x, extV 0 (.tuple #[v, x]) = some v := fun _ _ => rfl
  have y1 : ∀ v x, extV 1 (.tuple #[v, x]) = some x := fun _ _ => rfl
  rw [e10, Run_bind]
  refine ⟨_, _, hs, ?_⟩
  show Run (bindO (notV (.bool true)) _) w _
  rw [hnv, Run_bindO_some, Bool.not_true, Run_condM_false]
  have hlen : (s ++ [10]).length = s.length + 1 := by simp
  have ws : IntKind.i64.wrap (((s ++ [10]).length : Int) - 1) = (s.length : Int) := by rw [hlen, show ((s.length + 1 : Nat) : Int) - 1 = (s.length : Int) by omega]; exact i64W (by omega)
  have hsl := slTo (l := s ++ [10]) (n := s.length) (by omega)
  rw [List.take_left' rfl] at hsl
  rw [lenS_string, sb_size, Run_bindO_some, binV_int, intBin_sub, ws, Run_bindO_some, hsl, Run_bindO_some, Run_bind]
  refine (split_run htb s 10 (by omega)).mono ?_
  rintro v w1 ⟨hv, f1, hn1⟩
  have hne := spl_ne 10 s
  obtain ⟨hjn, hno⟩ := spl_jn 10 s
  generalize hN : spl 10 s = N at *
  have hN0 : 0 < N.length := List.length_pos_iff.2 hne
  have hNs : N.length ≤ s.length + 1 := by
    have := jn_count 10 N hne hno
    have h2 : (jn 10 N).count 10 ≤ (jn 10 N).length := List.count_le_length
    rw [hjn] at this h2
    omega
  have hlv := hv.1.lenL
  rw [List.length_map] at hlv
  have wl : IntKind.i64.wrap ((N.length : Int) - 1) = ((N.length - 1 : Nat) : Int) := by rw [show (N.length : Int) - 1 = ((N.length - 1 : Nat) : Int) by omega]; exact i64W (by omega)
  obtain ⟨last, hlast⟩ : ∃ x, N[N.length - 1]? = some x := ⟨_, List.getElem?_eq_getElem (by omega)⟩
  have hgl : N.getLast? = some last := by rw [List.getLast?_eq_getElem?]; exact hlast
  obtain ⟨p, p1, p2⟩ := hv.1.rd1 (i := N.length - 1) (y := .string (sb last)) (by simp [hlast]) .i64
  have p1' : idxA 1 v (.int .i64 ((N.length - 1 : Nat) : Int)) = some p := p1
  have hmem : ∀ x ∈ N, x.length ≤ s.length := fun x hx => by
    have : ∀ (N : List (List UInt8)), x ∈ N → x.length ≤ (jn 10 N).length := fun N => by
      induction N with
      | nil => intro h; cases h
      | cons y r ih =>
        intro h
        by_cases hr : r = []
        · subst hr; simp at h; subst h; simp [jn]
        · rw [jn_cons 10 hr, List.length_append, List.length_append]
          rcases List.mem_cons.1 h with rfl | h
          · omega
          · have := ih h; omega
    have := this N hx
    rwa [hjn] at this
  have hll := hmem last (List.mem_of_getElem? hlast)
  rw [hlv, Run_bindO_some, binV_int, intBin_sub, wl, Run_bindO_some, p1', Run_bindO_some, Run_bind, Run_rdM]
  refine ⟨_, p2, ?_⟩
  rw [eS, Run_bind]
  refine ⟨_, _, cutp_run last SUM, ?_⟩
  show Run (bindO (extV 0 (.tuple #[.string (sb (Lib.trimPrefix last SUM)), .bool (decide (SUM <+: last))])) _) w1 _
  rw [y0, Run_bindO_some, y1, Run_bindO_some, Run_bind]
  have htl : (Lib.trimPrefix last SUM).length ≤ 4611686018427387904 := by
    unfold Lib.trimPrefix
    split
    · rw [List.length_drop]; omega
    · omega
  refine (sumOf_run htl).mono ?_
  rintro _ w2 ⟨rfl, f2⟩
  have e : ∀ o, extV 0 (numV o) = some (.int .i64 ((o.getD 0 : Nat) : Int)) := fun _ => rfl
  have e' : ∀ o, extV 1 (numV o) = some (.bool o.isSome) := fun _ => rfl
  have hv2 := hv.1.fr0 f2
  obtain ⟨first, hfirst⟩ : ∃ x, N[0]? = some x := ⟨_, List.getElem?_eq_getElem (by omega)⟩
  have hhd : N.head? = some first := by rw [List.head?_eq_getElem?]; exact hfirst
  obtain ⟨p0, q1, q2⟩ := hv2.rd1 (i := 0) (y := .string (sb first)) (by simp [hfirst]) .i64
  have q1' : idxA 1 v (.int .i64 0) = some p0 := q1
  have hokF : okF s title = (decide (SUM <+: last) && (sumF (last.drop 4)).isSome && decide (first = title)) := by
    unfold okF
    rw [hN, hgl, hhd, Option.getD_some]
    simp
  have bad : okF s title = false → Run (condM (.bool true) (M.ret (Value.tuple #[(Value.slice none 0 0), (Value.bool false), (Value.bool false)])) (M.fail : M Value)) w2 fun r w' => OpenP w w' s title r := fun hb => by
    rw [Run_condM_true, Run_ret]
    exact ⟨⟨_, false, by rw [hb], fun h => by rw [hb] at h; cases h⟩, f1.trans f2 fun _ _ => id⟩
  have bad' : okF s title = false → ∀ K, Run (condM (.bool true) (M.ret (Value.tuple #[(Value.slice none 0 0), (Value.bool false), (Value.bool false)])) K) w2 fun r w' => OpenP w w' s title r := fun hb K => by
    have := bad hb
    rw [Run_condM_true] at this ⊢
    exact this
  rw [e, Run_bindO_some, e', Run_bindO_some, hnv, Run_bindO_some]
  by_cases c1 : SUM <+: last
  case neg =>
    rw [decide_eq_false c1]
    simp only [Bool.not_false, Run_bind, Run_guardM_tf, pickV_bool, cond_true, Run_bindO_some]
    exact bad' (by rw [hokF, decide_eq_false c1]; rfl) _
  rw [decide_eq_true c1, trim_of c1]
  have hS4 : SUM.length = 4 := rfl
  rw [hS4]
  cases hsm : sumF (last.drop 4) with
  | none =>
    simp only [Bool.not_true, Run_bind, Run_guardM_ff, Run_ret, Option.isSome_none, hnv, Bool.not_false, Run_optM_some, pickV_bool, cond_false, cond_true, Run_bindO_some, Run_guardM_tf]
    exact bad' (by rw [hokF, hsm]; simp) _
  | some n =>
    simp only [Bool.not_true, Run_bind, Run_guardM_ff, Run_ret, Option.isSome_some, hnv, Run_optM_some, pickV_bool, cond_false, Run_bindO_some, q1', Run_rdM]
    refine ⟨_, q2, ?_⟩
    rw [sbNe, Run_optM_some]
    by_cases c3 : first = title
    case neg =>
      rw [decide_eq_false c3, Bool.not_false]
      exact bad' (by rw [hokF, decide_eq_false c3]; simp) _
    have hok : okF s title = true := by rw [hokF, decide_eq_true c1, hsm, decide_eq_true c3]; rfl
    have hN2 : 2 ≤ N.length := Nat.not_lt.1 fun h => by
      have h1 : N.length - 1 = 0 := by omega
      rw [h1, hfirst] at hlast
      rw [← Option.some.inj hlast, c3] at c1
      exact hts c1
    have hs13 : 13 ≤ (s ++ [10]).length := by
      have h8 : (last.drop 4).length = 8 := by
        unfold sumF at hsm
        split at hsm
        · assumption
        · cases hsm
      rw [List.length_drop] at h8
      omega
    have w13 : IntKind.i64.wrap (((s ++ [10]).length : Int) - 13) = (((s ++ [10]).length - 13 : Nat) : Int) := sub13 hs13 (by omega)
    obtain ⟨vm, m1, m2, m3⟩ := sl_mid (hv2.fr0 (show Fr (fun _ => False) w2 w2.drew from (Fr.refl _ _).drew)) (a := 1) (b := N.length - 1) (by omega) (by rw [List.length_map]; omega) .i64
    have m1' : sliceV 1 v (some (.int .i64 1)) (some (.int .i64 ((N.length - 1 : Nat) : Int))) = some vm := m1
    have hsl2 := slTo (l := s ++ [10]) (n := (s ++ [10]).length - 13) (by omega)
    rw [decide_eq_true c3, Bool.not_true, Run_condM_false, Run_drewM, m1', Run_bindO_some, Run_bindO_some, binV_int, intBin_sub, w13, Run_bindO_some, hsl2, Run_bindO_some, Run_bind]
    refine Run_bsl (k := 1) (vs := [.string (sb ((s ++ [10]).take ((s ++ [10]).length - 13)))]) (by rfl) (by intro v hv; simp only [List.mem_singleton] at hv; subst hv; rfl) rfl (by kernel_rfl) fun r w3 hr f3 _ => ?_
    have fd3 : Fr (fun _ => False) w2 w3 := ((Fr.refl _ _).drew).trans f3 fun _ _ => id
    have f13 := (f1.trans f2 fun _ _ => id).trans fd3 fun _ _ => id
    rw [Run_bind]
    refine (crc_run (htb.fr0 f13).nib hr.1 (by rw [sb_size, List.length_take]; omega)).mono ?_
    rintro _ w4 ⟨rfl, rfl⟩
    rw [binV_int, intBin_eql, Run_bindO_some, Run_ret, Option.getD_some]
    refine ⟨⟨vm, _, by rw [hok], fun _ => ⟨?_, ?_, fun c hc => ?_⟩⟩, f13⟩
    · rw [hN, hgl, Option.getD_some, hsm]
      congr 1
      rw [eq_iff_iff]
      constructor
      · intro h; rw [Int.ofNat_inj.1 h]
      · intro h; rw [Option.some.inj h]
    · rw [hN]
      have := m2.fr0 f3
      rwa [← List.map_take, ← List.map_drop] at this
    · exact ⟨(hn1 c (m3 c hc)).1, Nat.lt_of_lt_of_le (hn1 c (m3 c hc)).2 (f2.trans fd3 fun _ _ => id).size⟩
end
end Go.Proofs.YthlpfhjcdedhgaaDoor

/-
  Layer 4 (paper): part Zf: what a pointer's text is read as, plainly.
-/
namespace Go.Proofs.YthlpfhjcdedhgaaDoor
open Go.Lift Go.Sort
set_option linter.unusedSimpArgs false
set_option linter.unusedVariables false
set_option maxHeartbeats 4000000
theorem num_all {d : List UInt8} {v : Nat} (h : numF d = some v) : d.all isD = true ∧ v = valL d ∧ d ≠ [] ∧ d.length ≤ 16 := by
  unfold numF at h
  split at h
  · cases h
  · rename_i hn
    simp only [not_or, Option.some.injEq] at hn h
    exact ⟨by simpa using hn.2.2.2, h.symm, hn.1, by omega⟩
theorem num_no10 {d : List UInt8} {v : Nat} (h : numF d = some v) : (10 : UInt8) ∉ d := fun hm => by
  have := List.all_eq_true.1 (num_all h).1 10 hm
  exact absurd this (by decide)
theorem sum_no10 {e : List UInt8} {v : Nat} (h : sumF e = some v) : (10 : UInt8) ∉ e ∧ e.length = 8 := by
  unfold sumF at h
  split at h
  · rename_i hl
    refine ⟨fun hm => ?_, hl⟩
    obtain ⟨j, hj⟩ := List.getElem?_of_mem hm
    have hj8 : j < 8 := by have := (List.getElem?_eq_some_iff.1 hj).1; omega
    have hp : pairV e (j / 2) = none := by
      unfold pairV
      rcases Nat.mod_two_eq_zero_or_one j with h0 | h1
      · rw [show 2 * (j / 2) = j by omega, hj]
        have h10 : hvN (10 : UInt8).toNat = none := by decide
        split
        · rename_i a b h1 h2
          cases h1
          rw [h10]
        · rfl
      · rw [show 2 * (j / 2) + 1 = j by omega, hj]
        have h10 : hvN (10 : UInt8).toNat = none := by decide
        split
        · rename_i a b h1 h2
          cases h2
          rw [h10]
          split <;> simp_all
        · rfl
    rw [pairsF_bad hp (n := 4) (by omega)] at h
    cases h
  · cases h
/-- A text of the form of a pointer's paper. -/
def pform (t : List UInt8) (n : Nt) (sm : Nat) : Prop := ∃ d1 d2 d3 d4 e a b c d, t = T1 ++ d1 ++ T2 ++ d2 ++ T3 ++ d3 ++ T4 ++ d4 ++ [10] ++ SUM ++ e ++ [10] ∧ numF d1 = some a ∧ numF d2 = some b ∧ numF d3 = some c ∧ numF d4 = some d ∧ sumF e = some sm ∧ n = ⟨(a : Int), (b : Int), (c : Int), (d : Int)⟩
def zNt : Nt := ⟨0, 0, 0, 0⟩
def ansV (t : List UInt8) (n : Nt) (sm : Nat) : Value := if sm = crcF (sb (t.take (t.length - 13))) then (if n.pok = true then .tuple #[n.v, .int .i64 0] else .tuple #[zNt.v, .int .i64 42]) else .tuple #[zNt.v, .int .i64 41]
/-- What is answered for a text. -/
structure PAns (t : List UInt8) (r : Value) : Prop where
  yes : ∀ n sm, pform t n sm → r = ansV t n sm
  no : (∀ n sm, ¬ pform t n sm) → r = .tuple #[zNt.v, .int .i64 40]
theorem PAns.same {t : List UInt8} {r r' : Value} (h : PAns t r) (h' : PAns t r') : r = r' := by
  by_cases hx : ∃ n sm, pform t n sm
  · obtain ⟨n, sm, hp⟩ := hx
    rw [h.yes n sm hp, h'.yes n sm hp]
  · have : ∀ n sm, ¬ pform t n sm := fun n sm hp => hx ⟨n, sm, hp⟩
    rw [h.no this, h'.no this]
def midL (s : List UInt8) : List (List UInt8) := ((spl 10 s).take ((spl 10 s).length - 1)).drop 1
def lastL (s : List UInt8) : List UInt8 := ((spl 10 s).getLast?).getD []
def condF (s : List UInt8) : Bool := okF s LATEST && (decide ((midL s).length = ptrF.length) && (ptrF.zip (midL s)).all fun z => (fldO z.1 z.2).isSome)
theorem form_lines {s d1 d2 d3 d4 e : List UInt8} {a b c d sm : Nat} (h : s ++ [10] = T1 ++ d1 ++ T2 ++ d2 ++ T3 ++ d3 ++ T4 ++ d4 ++ [10] ++ SUM ++ e ++ [10]) (h1 : numF d1 = some a) (h2 : numF d2 = some b) (h3 : numF d3 = some c) (h4 : numF d4 = some d) (h5 : sumF e = some sm) :
    spl 10 s = [LATEST, CUR ++ [32] ++ d1, PREV ++ [32] ++ d2, EPOCH ++ [32] ++ d3, SEQ ++ [32] ++ d4, SUM ++ e] := by
  have hs : s = jn 10 [LATEST, CUR ++ [32] ++ d1, PREV ++ [32] ++ d2, EPOCH ++ [32] ++ d3, SEQ ++ [32] ++ d4, SUM ++ e] := by
    have := List.append_cancel_right h
    rw [this]
    simp [jn, T1, T2, T3, T4]
  rw [hs]
  refine spl_of 10 (by simp) fun x hx => ?_
  simp only [List.mem_cons, List.not_mem_nil, or_false] at hx
  have k1 := num_no10 h1
  have k2 := num_no10 h2
  have k3 := num_no10 h3
  have k4 := num_no10 h4
  have k5 := (sum_no10 h5).1
  rcases hx with rfl | rfl | rfl | rfl | rfl | rfl
  · decide
  · simp only [List.mem_append, not_or]; exact ⟨⟨by decide, by decide⟩, k1⟩
  · simp only [List.mem_append, not_or]; exact ⟨⟨by decide, by decide⟩, k2⟩
  · simp only [List.mem_append, not_or]; exact ⟨⟨by decide, by decide⟩, k3⟩
  · simp only [List.mem_append, not_or]; exact ⟨⟨by decide, by decide⟩, k4⟩
  · simp only [List.mem_append, not_or]; exact ⟨by decide, k5⟩
theorem fldO_of {f : Fd} {d : List UInt8} : fldO f (f.word ++ [32] ++ d) = numF d := by
  unfold fldO
  rw [if_pos (List.prefix_append _ _), List.drop_left]
theorem form_yes {s : List UInt8} {n : Nt} {sm : Nat} (h : pform (s ++ [10]) n sm) : condF s = true ∧ putF (ptrF.zip (midL s)) [.int .i64 0, .int .i64 0, .int .i64 0, .int .i64 0] = n.row ∧ sumF ((lastL s).drop 4) = some sm := by
  obtain ⟨d1, d2, d3, d4, e, a, b, c, d, ht, h1, h2, h3, h4, h5, rfl⟩ := h
  have hN := form_lines ht h1 h2 h3 h4 h5
  have hm : midL s = [CUR ++ [32] ++ d1, PREV ++ [32] ++ d2, EPOCH ++ [32] ++ d3, SEQ ++ [32] ++ d4] := by unfold midL; rw [hN]; rfl
  have hl : lastL s = SUM ++ e := by unfold lastL; rw [hN]; rfl
  have hd4 : (SUM ++ e).drop 4 = e := List.drop_left (l₁ := SUM)
  have hok : okF s LATEST = true := by
    unfold okF
    have e1 : ((spl 10 s).getLast?).getD [] = SUM ++ e := hl
    rw [e1, hd4, h5, hN, decide_eq_true (List.prefix_append SUM e)]
    simp
  have f1 := fldO_of (f := ⟨CUR, 0, 999999, 0, .func (.func 48) #[] #[]⟩) (d := d1)
  have f2 := fldO_of (f := ⟨PREV, 0, 999999, 1, .func (.func 49) #[] #[]⟩) (d := d2)
  have f3 := fldO_of (f := ⟨EPOCH, 0, 9007199254740992, 2, .func (.func 50) #[] #[]⟩) (d := d3)
  have f4 := fldO_of (f := ⟨SEQ, 0, 9007199254740992, 3, .func (.func 51) #[] #[]⟩) (d := d4)
  rw [h1] at f1
  rw [h2] at f2
  rw [h3] at f3
  rw [h4] at f4
  refine ⟨?_, ?_, by rw [hl, hd4, h5]⟩
  · unfold condF
    rw [hok, hm]
    simp only [ptrF, List.zip_cons_cons, List.zip_nil_right, List.all_cons, List.all_nil, f1, f2, f3, f4]
    rfl
  · rw [hm]
    simp only [ptrF, List.zip_cons_cons, List.zip_nil_right, putF, f1, f2, f3, f4]
    rfl
theorem fldO_some {f : Fd} {l : List UInt8} (h : (fldO f l).isSome = true) : ∃ d v, l = f.word ++ [32] ++ d ∧ numF d = some v := by
  unfold fldO at h
  split at h
  · rename_i hp
    obtain ⟨d, rfl⟩ := hp
    rw [List.drop_left] at h
    obtain ⟨v, hv⟩ := Option.isSome_iff_exists.1 h
    exact ⟨d, v, rfl, hv⟩
  · cases h
theorem form_no {s : List UInt8} (h : condF s = true) : ∃ n sm, pform (s ++ [10]) n sm := by
  unfold condF at h
  simp only [Bool.and_eq_true, decide_eq_true_eq] at h
  obtain ⟨hok, hlen, hall⟩ := h
  obtain ⟨hjn, hno⟩ := spl_jn 10 s
  unfold okF at hok
  unfold midL at hlen hall
  generalize spl 10 s = N at *
  have h4 : ptrF.length = 4 := rfl
  rw [h4, List.length_drop, List.length_take] at hlen
  have hl6 : N.length = 6 := by omega
  obtain ⟨x0, x1, x2, x3, x4, x5, rfl⟩ : ∃ x0 x1 x2 x3 x4 x5, N = [x0, x1, x2, x3, x4, x5] := by
    match N, hl6 with
    | [x0, x1, x2, x3, x4, x5], _ => exact ⟨_, _, _, _, _, _, rfl⟩
  simp only [Bool.and_eq_true, decide_eq_true_eq, List.getLast?_cons_cons, List.getLast?_singleton, Option.getD_some, List.head?_cons, Option.some.injEq] at hok
  obtain ⟨⟨hp, hsm⟩, rfl⟩ := hok
  obtain ⟨e, rfl⟩ := hp
  have hd4 : (SUM ++ e).drop 4 = e := List.drop_left (l₁ := SUM)
  rw [hd4] at hsm
  obtain ⟨sm, hsm⟩ := Option.isSome_iff_exists.1 hsm
  have hall' : (ptrF.zip [x1, x2, x3, x4]).all (fun z => (fldO z.1 z.2).isSome) = true := hall
  simp only [ptrF, List.zip_cons_cons, List.zip_nil_right, List.all_cons, List.all_nil, Bool.and_eq_true, Bool.and_true] at hall'
  obtain ⟨g1, g2, g3, g4⟩ := hall'
  obtain ⟨d1, a, rfl, v1⟩ := fldO_some g1
  obtain ⟨d2, b, rfl, v2⟩ := fldO_some g2
  obtain ⟨d3, c, rfl, v3⟩ := fldO_some g3
  obtain ⟨d4, d, rfl, v4⟩ := fldO_some g4
  refine ⟨_, sm, d1, d2, d3, d4, e, a, b, c, d, ?_, v1, v2, v3, v4, hsm, rfl⟩
  rw [← hjn]
  simp [jn, T1, T2, T3, T4]
end Go.Proofs.YthlpfhjcdedhgaaDoor

/-
  Layer 4 (paper): part Zg: ParsePointer.
-/
namespace Go.Proofs.YthlpfhjcdedhgaaDoor
open Go.Lift Go.Sort
set_option linter.unusedSimpArgs false
set_option linter.unusedVariables false
set_option maxHeartbeats 4000000
section
variable {w w1 w2 : World}
/-- The end of a reading: the result's cells are stored and read. -/
theorem fin_run {x1 : Nat} (h1 : bk w x1 = some zNt.row) (hw1 : wr w x1 = true) (m : Nt) {K : Value → World → Prop} (q : ∀ w', Fr (fun c => c = x1) w w' → K m.v w') :
    Run (stM 4 (.pointer (some ⟨x1, 0, none⟩)) m.v) w fun _ w' => Run (rdM (ldA 4 (.pointer (some ⟨x1, 0, none⟩)))) w' K := by
  rw [Run_stM (by rfl) (by rfl) ⟨⟨_, h1, by simp [Nt.v, Value.cells, Nt.row]⟩, hw1⟩, Run_rdM]
  have hb := bk_sto_same (o := 0) h1 m.v.cells.toList
  exact ⟨_, ldA_bk hb (by first | exact Nat.le_refl _ | simp), q _ ((show Fr (fun c => c = x1) w w from Fr.refl _ _).sto (.inl rfl) _ _)⟩
theorem ptrOff : ∀ f ∈ ptrF, f.off < zNt.row.length := by
  intro f hf
  simp only [ptrF, List.mem_cons, List.not_mem_nil, or_false] at hf
  rcases hf with rfl | rfl | rfl | rfl <;> decide
theorem pparse_run (ht : Tb w) {t : List UInt8} (hl : t.length ≤ 4294960000) : Run (F.paper_ParsePointer (.string (sb t))) w fun r w' => PAns t r ∧ Fr (fun _ => False) w w' := by
  unfold F.paper_ParsePointer
  have eL : ByteArray.mk #[103, 114, 97, 110, 97, 114, 121, 32, 108, 97, 116, 101, 115, 116, 32, 49] = sb LATEST := rfl
  have z0 : buildV #[(Value.int IntKind.i64 0), (Value.int IntKind.i64 0), (Value.int IntKind.i64 0), (Value.int IntKind.i64 0)] [] = some zNt.v := rfl
  have hnv : ∀ b, notV (.bool b) = some (.bool !b) := fun _ => rfl
  have y0 : ∀ v x z, extV 0 (.tuple #[v, x, z]) = some v := fun _ _ _ => rfl
  have y1 : ∀ v x z, extV 1 (.tuple #[v, x, z]) = some x := fun _ _ _ => rfl
  have y2 : ∀ v x z, extV 2 (.tuple #[v, x, z]) = some z := fun _ _ _ => rfl
  rw [Run_bind]
  refine Run_new fun x1 wa hx1 hw1 fa hx1le => ?_
  replace hx1 : bk wa x1 = some zNt.row := hx1
  have ta := ht.fr0 fa
  rw [eL, Run_bind]
  by_cases hsuf : [10] <:+ t
  case neg =>
    refine (open_no hsuf hl).mono ?_
    rintro _ wb ⟨rfl, hwb⟩
    rw [hwb, y0, Run_bindO_some, y1, Run_bindO_some, y2, Run_bindO_some, Run_bind]
    refine Run_new fun x6 wc hx6 hw6 fc hx6le => ?_
    rw [hnv, Run_bindO_some]
    simp only [Bool.not_false, Run_bind, Run_guardM_tf, pickV_bool, cond_true, Run_bindO_some, Run_condM_true, z0, Run_ret]
    refine fin_run (fc.bk_some hx1 id) (by rw [fc.wr (bk_lt hx1) id]; exact hw1) zNt fun wd fd => ?_
    refine ⟨⟨fun n sm hp => ?_, fun _ => rfl⟩, (fa.trans fc fun _ _ => id).new fd fun c hc => hc ▸ hx1le⟩
    obtain ⟨d1, d2, d3, d4, e, a, b, c, d, he, _⟩ := hp
    exact absurd ⟨_, he.symm⟩ hsuf
  obtain ⟨s, rfl⟩ := hsuf
  have hsl : s.length ≤ 4294960000 := by rw [List.length_append] at hl; omega
  refine (open_yes ta (s := s) (title := LATEST) (by decide) hsl).mono ?_
  rintro _ wb ⟨⟨v, right, rfl, hv⟩, fb⟩
  rw [y0, Run_bindO_some, y1, Run_bindO_some, y2, Run_bindO_some, Run_bind]
  refine Run_new fun x6 wc hx6 hw6 fc hx6le => ?_
  replace hx6 : bk wc x6 = some zNt.row := hx6
  have fac := (fa.trans fb fun _ _ => id).trans fc fun _ _ => id
  have hx1c := fc.bk_some (fb.bk_some hx1 id) id
  have hw1c : wr wc x1 = true := by rw [fc.wr (bk_lt (fb.bk_some hx1 id)) id, fb.wr (bk_lt hx1) id]; exact hw1
  have l1 := bk_lt hx1
  have sb1 := fb.size
  have hno : condF s = false → PAns (s ++ [10]) (.tuple #[zNt.v, .int .i64 40]) := fun hc => ⟨fun n sm hp => by
    rw [(form_yes hp).1] at hc
    exact Bool.noConfusion hc, fun _ => rfl⟩
  rw [hnv, Run_bindO_some]
  cases hok : okF s LATEST with
  | false =>
    simp only [Bool.not_false, Run_bind, Run_guardM_tf, pickV_bool, cond_true, Run_bindO_some, Run_condM_true, z0, Run_ret]
    refine fin_run hx1c hw1c zNt fun wd fd => ⟨hno (by unfold condF; rw [hok]; rfl), fac.new fd fun c hc => hc ▸ hx1le⟩
  | true =>
    obtain ⟨hright, hvs, hvn⟩ := hv hok
    simp only [Bool.not_true, Run_bind, Run_guardM_ff, Run_ret]
    refine pfields_run.mono ?_
    rintro tb wd ⟨htd, fd, hnd⟩
    have sz := fc.size
    have szd := fd.size
    have l6 := bk_lt hx6
    have hx6d := fd.bk_some hx6 id
    have hw6d : wr wd x6 = true := by rw [fd.wr l6 id]; exact hw6
    have hvs' : Sl 1 wb v ((midL s).map fun x => [.string (sb x)]) := hvs
    have hml : ∀ x ∈ midL s, x.length ≤ 4611686018427387904 := fun x hx => by
      have hm := List.mem_of_mem_take (List.mem_of_mem_drop hx)
      have : ∀ (N : List (List UInt8)), x ∈ N → x.length ≤ (jn 10 N).length := fun N => by
        induction N with
        | nil => intro h; cases h
        | cons y r ih =>
          intro h
          by_cases hr : r = []
          · subst hr; simp at h; subst h; simp [jn]
          · rw [jn_cons 10 hr, List.length_append, List.length_append]
            rcases List.mem_cons.1 h with rfl | h
            · omega
            · have := ih h; omega
      have := this _ hm
      rw [(spl_jn 10 s).1] at this
      omega
    have hmN : (midL s).length ≤ 4611686018427387904 := by
      have h1 := jn_count 10 _ (spl_ne 10 s) (spl_jn 10 s).2
      have h2 : (jn 10 (spl 10 s)).count 10 ≤ (jn 10 (spl 10 s)).length := List.count_le_length
      rw [(spl_jn 10 s).1] at h1 h2
      unfold midL
      rw [List.length_drop, List.length_take]
      omega
    have hvx6 : ¬ inB v x6 := fun h => by have := (hvn _ h).2; omega
    refine (parseF_run htd.1 ((hvs'.fr0 fc).fr0 fd) ptrF_ok hx6d hw6d ptrOff (by decide) hmN hml (fun h => by have := (hnd _ h).1; omega) hvx6).mono ?_
    rintro _ we ⟨rfl, ⟨l', hb', hwb', hl', hput⟩, fe⟩
    have fde : Fr (fun c => c = x6) wc we := (fd.mono fun _ h => h.elim).trans fe fun _ _ h => h
    have hx1e := fde.bk_some hx1c fun e => by omega
    have hw1e : wr we x1 = true := by rw [fde.wr (bk_lt hx1c) fun e => by omega]; exact hw1c
    have fwe : Fr (fun _ => False) w we := fac.new fde fun c hc => by omega
    have hcd : condF s = (decide ((midL s).length = ptrF.length) && (ptrF.zip (midL s)).all fun z => (fldO z.1 z.2).isSome) := by unfold condF; rw [hok, Bool.true_and]
    rw [← hcd] at hput ⊢
    rw [hnv, Run_optM_some]
    simp only [pickV_bool, cond_false, Run_bindO_some]
    cases hc : condF s with
    | false =>
      simp only [Bool.not_false, Run_condM_true, z0, Run_bindO_some, Run_bind, Run_ret]
      exact fin_run hx1e hw1e zNt fun wf ff => ⟨hno hc, fwe.new ff fun c hc => hc ▸ hx1le⟩
    | true =>
      obtain ⟨n, sm, hpf⟩ := form_no hc
      obtain ⟨_, hput2, hsm⟩ := form_yes hpf
      have hl2 := hput hc
      have hz : zNt.row = [.int .i64 0, .int .i64 0, .int .i64 0, .int .i64 0] := rfl
      rw [hz, hput2] at hl2
      subst hl2
      have hans : ∀ r, r = ansV (s ++ [10]) n sm → PAns (s ++ [10]) r := fun r hr => by
        refine ⟨fun n' sm' hp' => ?_, fun hno => absurd hpf (hno n sm)⟩
        obtain ⟨_, e1, e2⟩ := form_yes hp'
        rw [hput2] at e1
        rw [hsm] at e2
        have en : n = n' := by
          obtain ⟨a, b, c, d⟩ := n
          obtain ⟨a', b', c', d'⟩ := n'
          simp only [Nt.row, List.cons.injEq, Value.int.injEq, true_and, and_true] at e1
          obtain ⟨rfl, rfl, rfl, rfl⟩ := e1
          rfl
        rw [hr, en, Option.some.inj e2]
      have hr2 : right = decide (sm = crcF (sb ((s ++ [10]).take ((s ++ [10]).length - 13)))) := by
        have hsm' : sumF ((((spl 10 s).getLast?).getD []).drop 4) = some sm := hsm
        rw [hright]
        refine decide_eq_decide.2 ?_
        rw [hsm']
        simp
      simp only [Bool.not_true, Run_condM_false, Run_bindO_some, hnv]
      by_cases hcrc : sm = crcF (sb ((s ++ [10]).take ((s ++ [10]).length - 13)))
      case neg =>
        rw [hr2, decide_eq_false hcrc]
        simp only [Bool.not_false, Run_condM_true, z0, Run_bindO_some, Run_bind, Run_ret]
        exact fin_run hx1e hw1e zNt fun wf ff => ⟨hans _ (by rw [ansV, if_neg hcrc]), fwe.new ff fun c hc => hc ▸ hx1le⟩
      rw [hr2, decide_eq_true hcrc, Bool.not_true, Run_condM_false, Run_bind]
      refine pfields_run.mono ?_
      rintro tb2 wf ⟨htf, ff, hnf⟩
      have hx6f := ff.bk_some hb' id
      rw [Run_bind]
      refine (ranges_run htf.1 ptrF_ok hx6f (ptrF_at n) (by decide)).mono ?_
      rintro _ wg ⟨rfl, fg⟩
      have fwg := (fwe.trans ff fun _ _ => id).trans fg fun _ _ => id
      have hx1g := fg.bk_some (ff.bk_some hx1e id) id
      have hw1g : wr wg x1 = true := by rw [fg.wr (bk_lt (ff.bk_some hx1e id)) id, ff.wr (bk_lt hx1e) id]; exact hw1e
      have hx6g := fg.bk_some hx6f id
      rw [hnv, Run_bindO_some]
      cases hpk : n.pok with
      | false =>
        have hpk' : (ptrF.all fun f => f.inR n.at) = false := hpk
        rw [hpk', Bool.not_false, Run_condM_true, z0, Run_bindO_some]
        simp only [Run_bind, Run_ret]
        exact fin_run hx1g hw1g zNt fun wh fh => ⟨hans _ (by rw [ansV, if_pos hcrc, hpk]; rfl), fwg.new fh fun c hc => hc ▸ hx1le⟩
      | true =>
        have hpk' : (ptrF.all fun f => f.inR n.at) = true := hpk
        have l6g : ldA 4 (.pointer (some ⟨x6, 0, none⟩)) wg = some n.v := ldA_bk hx6g (Nat.le_refl _)
        rw [hpk', Bool.not_true, Run_condM_false, Run_bind, Run_rdM]
        refine ⟨_, l6g, ?_⟩
        simp only [Run_bind, Run_ret]
        exact fin_run hx1g hw1g n fun wh fh => ⟨hans _ (by rw [ansV, if_pos hcrc, hpk]; rfl), fwg.new fh fun c hc => hc ▸ hx1le⟩
end
end Go.Proofs.YthlpfhjcdedhgaaDoor

/-
  Layer 4 (paper): part Zh: the document's last line.
-/
namespace Go.Proofs.YthlpfhjcdedhgaaDoor
open Go.Lift Go.Sort
set_option linter.unusedSimpArgs false
set_option linter.unusedVariables false
set_option maxHeartbeats 4000000
theorem pairs_app {e r : List UInt8} (he : e.length = 8) : pairsF (e ++ r) 4 = pairsF e 4 := by
  have hp : ∀ i, i < 4 → pairV (e ++ r) i = pairV e i := fun i hi => by
    unfold pairV
    rw [List.getElem?_append_left (by omega), List.getElem?_append_left (by omega)]
  simp only [pairsF, hp 0 (by decide), hp 1 (by decide), hp 2 (by decide), hp 3 (by decide)]
theorem pairs_long {l bs : List UInt8} (h : pairsF l 4 = some bs) : 8 ≤ l.length := Nat.not_lt.1 fun hl => by
  have : pairV l 3 = none := by
    unfold pairV
    rw [show l[2 * 3 + 1]? = none from List.getElem?_eq_none (by omega)]
    split <;> simp_all
  rw [pairsF_bad this (n := 4) (by decide)] at h
  cases h
section
variable {w w1 w2 : World}
/-- What the last line is read as. -/
structure LastP (w w' : World) (b : Nat) (l : List UInt8) (p : Nat) (bad : Bool) (r : Value) : Prop where
  yes : ∀ e sm, bad = false → l.drop p = SUM ++ e ++ [10] → sumF e = some sm → r = .int .i64 (if sm = crcF (sb (l.take p)) then 0 else 41)
  no : (bad = true ∨ ∀ e sm, l.drop p = SUM ++ e ++ [10] → sumF e ≠ some sm) → r = .int .i64 40
  fr : Fr (fun c => c = b) w w'
theorem last_run {b p : Nat} {l : List UInt8} {bad : Bool} (h : RS w b l p bad) (hp : p ≤ l.length) (hl : l.length ≤ 4611686018427387000) :
    Run (F.granaryref4_Reader_last (.pointer (some ⟨b, 0, none⟩))) w fun r w' => LastP w w' b l p bad r := by
  unfold F.granaryref4_Reader_last
  have nck : nilChk (.pointer (some ⟨b, 0, none⟩)) = some (.pointer (some ⟨b, 0, none⟩)) := rfl
  have la : ld1 (.pointer (some ⟨b, 0 + 1, none⟩)) w = some (.int .i64 (p : Int)) := by rw [ld1_ptr, h.1]; rfl
  have eS : ByteArray.mk #[115, 117, 109, 32] = sb SUM := rfl
  have e10 : ByteArray.mk #[10] = sb [10] := rfl
  rw [nck, Run_bindO_some, fieldA_ptr, Run_bindO_some, Run_bind, Run_rdM]
  refine ⟨_, la, ?_⟩
  rw [eS, Run_bind]
  refine (rlit_run h hp (by omega) (by decide)).mono ?_
  rintro _ w1 ⟨⟨p1, rs1, hp1, hq1⟩, f1⟩
  rw [Run_bind]
  refine (rsum_run rs1 hp1 (by omega)).mono ?_
  rintro _ w2 ⟨rfl, ⟨p2, rs2, hp2, hq2⟩, f2⟩
  rw [e10, Run_bind]
  refine (rlit_run rs2 hp2 (by omega) (by decide)).mono ?_
  rintro _ w3 ⟨⟨p3, rs3, hp3, hq3⟩, f3⟩
  have f13 : Fr (fun c => c = b) w w3 := (f1.trans f2 fun _ _ h => h).trans f3 fun _ _ h => h
  have fd : Fr (fun c => c = b) w w3.drew := f13.drew
  -- what it comes to
  have key : ((((if (bad || !decide (SUM <+: l.drop p)) = true then none else (pairsF (l.drop p1) 4).map valB).isNone || !decide ([10] <+: l.drop p2)) = false ∧ p3 = l.length) → ∃ e sm, bad = false ∧ l.drop p = SUM ++ e ++ [10] ∧ sumF e = some sm ∧ (if (bad || !decide (SUM <+: l.drop p)) = true then none else (pairsF (l.drop p1) 4).map valB) = some sm) := by
    rintro ⟨hb, hp3l⟩
    simp only [Bool.or_eq_false_iff, Bool.not_eq_false', decide_eq_true_eq] at hb
    obtain ⟨hb1, hb2⟩ := hb
    cases hbb : (bad || !decide (SUM <+: l.drop p)) with
    | true => rw [hbb] at hb1; simp at hb1
    | false =>
      rw [hbb] at hb1 hq2 rs2 hq3
      simp only [Bool.or_eq_false_iff, Bool.not_eq_false', decide_eq_true_eq] at hbb
      obtain ⟨hbad, hS⟩ := hbb
      have e1 := hq1 hbad hS
      cases hpp : pairsF (l.drop p1) 4 with
      | none => rw [hpp] at hb1; simp at hb1
      | some bs =>
        have e2 := hq2 (by rw [hpp]; rfl)
        rw [hpp] at hq3
        have e3 := hq3 rfl hb2
        obtain ⟨t1, ht1⟩ := hS
        have d1 : l.drop p1 = t1 := by rw [e1]; exact drop_more ht1.symm
        rw [d1] at hpp
        have hl8 := pairs_long hpp
        have d2 : l.drop p2 = t1.drop 8 := by rw [e2, ← d1, List.drop_drop]
        obtain ⟨t2, ht2⟩ := hb2
        have ht2' : t2 = [] := by
          have h1 := congrArg List.length ht2
          have h2 : (l.drop p2).length = l.length - p2 := List.length_drop
          rw [List.length_append] at h1
          apply List.eq_nil_of_length_eq_zero
          have h3 : ([10] : List UInt8).length = 1 := rfl
          omega
        rw [ht2', List.append_nil, d2] at ht2
        have ht8 : (t1.take 8).length = 8 := by rw [List.length_take]; omega
        have hpe : pairsF (t1.take 8) 4 = some bs := by
          rw [← pairs_app (r := t1.drop 8) ht8, List.take_append_drop]; exact hpp
        refine ⟨t1.take 8, valB bs, hbad, ?_, ?_, ?_⟩
        · rw [← ht1, List.append_assoc, ht2, List.take_append_drop]
        · unfold sumF; rw [if_pos ht8, hpe]; rfl
        · simp [d1, hpp]
  have comp : ∀ e sm, bad = false → l.drop p = SUM ++ e ++ [10] → sumF e = some sm → (((if (bad || !decide (SUM <+: l.drop p)) = true then none else (pairsF (l.drop p1) 4).map valB).isNone || !decide ([10] <+: l.drop p2)) = false ∧ p3 = l.length) ∧ (if (bad || !decide (SUM <+: l.drop p)) = true then none else (pairsF (l.drop p1) 4).map valB) = some sm := by
    intro e sm hbad hd hsm
    rw [List.append_assoc] at hd
    have he8 := (sum_no10 hsm).2
    have hS : SUM <+: l.drop p := ⟨_, hd.symm⟩
    have e1 := hq1 hbad hS
    have d1 : l.drop p1 = e ++ [10] := by rw [e1]; exact drop_more hd
    have hbb : (bad || !decide (SUM <+: l.drop p)) = false := by rw [hbad, decide_eq_true hS]; rfl
    have hps : (pairsF (l.drop p1) 4).map valB = some sm := by
      rw [d1, pairs_app he8]
      unfold sumF at hsm
      rw [if_pos he8] at hsm
      exact hsm
    rw [hbb] at hq2 hq3 ⊢
    simp only [Bool.false_eq_true, if_false, hps] at hq2 hq3 ⊢
    have e2 := hq2 rfl
    have d2 : l.drop p2 = [10] := by
      have := drop_more (a := e) d1
      rw [e2, ← he8]
      exact this
    have hT : [10] <+: l.drop p2 := by rw [d2]; exact List.prefix_refl _
    have e3 := hq3 rfl hT
    refine ⟨⟨by rw [decide_eq_true hT]; rfl, ?_⟩, trivial⟩
    have h2 := congrArg List.length d2
    rw [List.length_drop] at h2
    have h3 : ([10] : List UInt8).length = 1 := rfl
    omega
  generalize ho : (if (bad || !decide (SUM <+: l.drop p)) = true then none else (pairsF (l.drop p1) 4).map valB) = o at *
  generalize hB : (o.isNone || !decide ([10] <+: l.drop p2)) = B at *
  have hb3 := rs3.1
  have fail : ¬ (B = false ∧ p3 = l.length) → LastP w w3.drew b l p bad (.int .i64 40) := fun hn => ⟨fun e sm h1 h2 h3 => absurd (comp e sm h1 h2 h3).1 hn, fun _ => rfl, fd⟩
  have hlen : (sb l).size = l.length := sb_size l
  by_cases c1 : B = true
  · subst c1
    simp [-ldA_ptr, hb3]
    exact fail fun h => Bool.noConfusion h.1
  have c1' : B = false := by simpa using c1
  by_cases c2 : p3 = l.length
  case neg =>
    have c2' : ¬ (p3 : Int) = l.length := by omega
    rw [c1'] at hb3
    simp [-ldA_ptr, hb3, hlen, c2', c2]
    exact fail fun h => c2 h.2
  obtain ⟨e, sm, h1, h2, h3, h4⟩ := key ⟨c1', c2⟩
  have ok : LastP w w3.drew b l p bad (.int .i64 (if sm = crcF (sb (l.take p)) then 0 else 41)) := by
    refine ⟨fun e' sm' g1 g2 g3 => ?_, fun hn => ?_, fd⟩
    · have := (comp e' sm' g1 g2 g3).2
      rw [h4] at this
      rw [Option.some.inj this]
    · rcases hn with hn | hn
      · rw [h1] at hn; cases hn
      · exact absurd h3 (hn e sm h2)
  have hsl := slTo (l := l) (n := p) hp
  rw [c1'] at hb3
  rw [c2] at hb3
  simp [-ldA_ptr, hb3, hlen, hsl]
  refine (rcrc_run (sb (l.take p)) (by rw [sb_size, List.length_take]; omega)).mono ?_
  rintro _ w4 ⟨rfl, hw4⟩
  rw [hw4, h4]
  by_cases c3 : sm = crcF (sb (l.take p))
  · rw [if_pos c3] at ok
    simp [c3]
    exact ok
  · rw [if_neg c3] at ok
    have c3' : ¬ (sm : Int) = (crcF (sb (l.take p)) : Int) := by omega
    simp [c3', c3]
    exact ok
end
end Go.Proofs.YthlpfhjcdedhgaaDoor

/-
  Layer 4 (paper): part Zi: the document's pointer that is read.
-/
namespace Go.Proofs.YthlpfhjcdedhgaaDoor
open Go.Lift Go.Sort
set_option linter.unusedSimpArgs false
set_option linter.unusedVariables false
set_option maxHeartbeats 4000000
section
variable {w w1 w2 : World}
structure RP (w0 w : World) (b : Nat) (l : List UInt8) (p : Nat) (bad : Bool) (x6 : Nat) (l6 : List Value) : Prop where
  rs : RS w b l p bad
  hp : p ≤ l.length
  b6 : bk w x6 = some l6
  w6 : wr w x6 = true
  e6 : l6.length = 4
  ne : x6 ≠ b
  fr : Fr (fun c => c = b ∨ c = x6) w0 w
theorem RP.call {w0 : World} {b p : Nat} {l : List UInt8} {bad : Bool} {x6 : Nat} {l6 : List Value} (h : RP w0 w b l p bad x6 l6) (f : Fr (fun c => c = b) w w2) {p' : Nat} {bad' : Bool} (rs : RS w2 b l p' bad') (hp : p' ≤ l.length) : RP w0 w2 b l p' bad' x6 l6 :=
  ⟨rs, hp, f.bk_some h.b6 h.ne, by rw [f.wr (bk_lt h.b6) h.ne]; exact h.w6, h.e6, h.ne, h.fr.trans f fun _ _ he => .inl he⟩
theorem RP.put6 {w0 : World} {b p : Nat} {l : List UInt8} {bad : Bool} {x6 : Nat} {l6 : List Value} (h : RP w0 w b l p bad x6 l6) (i : Nat) (y : Value) : RP w0 (sto w x6 i [y]) b l p bad x6 (l6.set i y) := by
  have f : Fr (fun c => c = x6) w (sto w x6 i [y]) := (show Fr (fun c => c = x6) w w from Fr.refl _ _).sto (.inl rfl) _ _
  exact ⟨⟨f.bk_some h.rs.1 fun e => h.ne e.symm, by rw [wr_sto]; exact h.rs.2⟩, h.hp, by rw [bk_sto_same h.b6]; simp only [setL_cons, setL_nil], by rw [wr_sto]; exact h.w6, by rw [List.length_set]; exact h.e6, h.ne, h.fr.trans f fun _ _ he => .inr he⟩
theorem RP.num {β : Type} {w0 : World} {b p : Nat} {l : List UInt8} {bad : Bool} {x6 : Nat} {l6 : List Value} (h : RP w0 w b l p bad x6 l6) (hl : l.length ≤ 4611686018427387904) {i : Nat} (hi : i < 4) {K : M β} {Q : β → World → Prop}
    (q : ∀ w', RP w0 w' b l (p + (rdD l p).length) (bad || (numF (rdD l p)).isNone) x6 (l6.set i (.int .i64 (((numF (rdD l p)).getD 0 : Nat) : Int))) → Run K w' Q) :
    Run (M.bind (F.granaryref4_Reader_number (.pointer (some ⟨b, 0, none⟩))) fun x8 => bindO (fieldA i (.pointer (some ⟨x6, 0, none⟩))) fun x9 => M.bind (stM 1 x9 x8) fun _ => K) w Q := by
  rw [Run_bind]
  refine (rnum_run h.rs h.hp hl).mono ?_
  rintro _ w2 ⟨rfl, rs, f⟩
  have hd := rdD_len l p
  have hple := h.hp
  have h2 := h.call f rs (by omega)
  rw [fieldA_ptr, Run_bindO_some, Run_bind, Run_stM (by rfl) (by rfl) ⟨⟨l6, h2.b6, by rw [h2.e6]; show 0 + i + 1 ≤ 4; omega⟩, h2.w6⟩]
  have h3 := h2.put6 (0 + i) (.int .i64 (((numF (rdD l p)).getD 0 : Nat) : Int))
  have q2 := q (sto w2 x6 (0 + i) [.int .i64 (((numF (rdD l p)).getD 0 : Nat) : Int)])
  rw [Nat.zero_add] at h3 q2
  rw [Nat.zero_add]
  exact q2 h3
theorem RP.lit {β : Type} {w0 : World} {b p : Nat} {l : List UInt8} {bad : Bool} {x6 : Nat} {l6 : List Value} (h : RP w0 w b l p bad x6 l6) (hl : l.length ≤ 4611686018427387904) {y : List UInt8} (hy : y.length ≤ 4611686018427387904) {K : M β} {Q : β → World → Prop}
    (q : ∀ w' p', RP w0 w' b l p' (bad || !decide (y <+: l.drop p)) x6 l6 → (bad = false → y <+: l.drop p → p' = p + y.length) → Run K w' Q) :
    Run (M.bind (F.granaryref4_Reader_lit (.pointer (some ⟨b, 0, none⟩)) (.string (sb y))) fun _ => K) w Q := by
  rw [Run_bind]
  refine (rlit_run h.rs h.hp hl hy).mono ?_
  rintro _ w2 ⟨⟨p', rs, hp', hh⟩, f⟩
  exact q w2 p' (h.call f rs hp') hh
/-- A step forth that was good: a piece that must stand. -/
theorem lit_good {bad : Bool} {l y : List UInt8} {p p' : Nat} (h : (bad || !decide (y <+: l.drop p)) = false) (hq : bad = false → y <+: l.drop p → p' = p + y.length) : bad = false ∧ l.drop p = y ++ l.drop p' := by
  simp only [Bool.or_eq_false_iff, Bool.not_eq_false', decide_eq_true_eq] at h
  obtain ⟨t, ht⟩ := h.2
  have e := hq h.1 h.2
  have d := drop_more (p := p) ht.symm
  rw [← e] at d
  exact ⟨h.1, by rw [d]; exact ht.symm⟩
theorem num_good {bad : Bool} {l : List UInt8} {p : Nat} (h : (bad || (numF (rdD l p)).isNone) = false) : bad = false ∧ (∃ v, numF (rdD l p) = some v) ∧ l.drop p = rdD l p ++ l.drop (p + (rdD l p).length) := by
  simp only [Bool.or_eq_false_iff] at h
  refine ⟨h.1, ?_, ?_⟩
  · cases hn : numF (rdD l p) with
    | none => rw [hn] at h; simp at h
    | some v => exact ⟨v, rfl⟩
  · have h1 := runD_take ((l.drop p).take 17)
    have h2 : rdD l p = runD ((l.drop p).take 17) := rfl
    rw [← h2, List.take_take, Nat.min_eq_left (rdD_len l p).1] at h1
    rw [← List.drop_drop]
    conv => lhs; rw [← List.take_append_drop (rdD l p).length (l.drop p)]
    rw [h1]
/-- A number at a place where one stands. -/
theorem num_at {l d r : List UInt8} {p v : Nat} (hd : numF d = some v) (h : l.drop p = d ++ r) (hr : ∀ c, r.head? = some c → isD c = false) : rdD l p = d ∧ l.drop (p + (rdD l p).length) = r := by
  obtain ⟨h1, _, _, h16⟩ := num_all hd
  have e : rdD l p = d := by
    unfold rdD
    rw [h, List.take_append, List.take_of_length_le (by omega)]
    refine runD_app h1 fun c hc => hr c ?_
    cases r with
    | nil => simp at hc
    | cons x r =>
      cases hk : 17 - d.length with
      | zero => omega
      | succ k => rw [hk, List.take_succ_cons] at hc; exact hc
  rw [e]
  exact ⟨rfl, drop_more h⟩
end
end Go.Proofs.YthlpfhjcdedhgaaDoor

/-
  Layer 4 (paper): part Zj: the document's ParsePointer.
-/
namespace Go.Proofs.YthlpfhjcdedhgaaDoor
open Go.Lift Go.Sort
set_option linter.unusedSimpArgs false
set_option linter.unusedVariables false
set_option maxHeartbeats 4000000
section
variable {w w1 w2 : World}
theorem rpparse_run (ht : Tb w) {l : List UInt8} (hl : l.length ≤ 4294960000) : Run (F.granaryref4_ParsePointer (.string (sb l))) w fun r w' => PAns l r ∧ Fr (fun _ => False) w w' := by
  unfold F.granaryref4_ParsePointer
  have z0 : buildV #[(Value.int IntKind.i64 0), (Value.int IntKind.i64 0), (Value.int IntKind.i64 0), (Value.int IntKind.i64 0)] [] = some zNt.v := rfl
  have bld : buildV #[(Value.string ByteArray.empty), (Value.int IntKind.i64 0), (Value.bool false)] [(0, 1, .string (sb l))] = some (.agg #[.string (sb l), .int .i64 0, .bool false]) := rfl
  have eT1 : ByteArray.mk #[103, 114, 97, 110, 97, 114, 121, 32, 108, 97, 116, 101, 115, 116, 32, 49, 10, 99, 117, 114, 32] = sb T1 := rfl
  have eT2 : ByteArray.mk #[10, 112, 114, 101, 118, 32] = sb T2 := rfl
  have eT3 : ByteArray.mk #[10, 101, 112, 111, 99, 104, 32] = sb T3 := rfl
  have eT4 : ByteArray.mk #[10, 115, 101, 113, 32] = sb T4 := rfl
  have e10 : ByteArray.mk #[10] = sb [10] := rfl
  rw [Run_bind]
  refine Run_new fun x1 wa hx1 hw1 fa hx1le => ?_
  replace hx1 : bk wa x1 = some zNt.row := hx1
  rw [bld, Run_bindO_some, Run_bind]
  refine Run_new fun b wb hb hwb fb hble => ?_
  rw [z0, Run_bindO_some, Run_bind]
  refine Run_new fun x6 wc hx6 hw6 fc hx6le => ?_
  rw [Run_bind, Run_stM (by rfl) (by rfl) ⟨⟨_, hx6, by simp [zNt, Nt.v, Value.cells]⟩, hw6⟩]
  have l1 := bk_lt hx1
  have lb := bk_lt hb
  have s1 := fb.size
  have n0 : RP wc (sto wc x6 0 zNt.v.cells.toList) b l 0 false x6 zNt.row := by
    have f : Fr (fun c => c = x6) wc (sto wc x6 0 zNt.v.cells.toList) := (show Fr (fun c => c = x6) wc wc from Fr.refl _ _).sto (.inl rfl) _ _
    exact ⟨⟨f.bk_some (fc.bk_some hb id) fun e => by omega, by rw [wr_sto, fc.wr lb id]; exact hwb⟩, by omega, by rw [bk_sto_same hx6]; rfl, by rw [wr_sto]; exact hw6, rfl, by omega, f.mono fun _ h => .inr h⟩
  rw [eT1, eT2, eT3, eT4, e10]
  refine n0.lit (by omega) (by decide) fun we p1 n1 q1 => ?_
  refine n1.num (by omega) (i := 0) (by decide) fun we n2 => ?_
  refine n2.lit (by omega) (by decide) fun we p2 n3 q2 => ?_
  refine n3.num (by omega) (i := 1) (by decide) fun we n4 => ?_
  refine n4.lit (by omega) (by decide) fun we p3 n5 q3 => ?_
  refine n5.num (by omega) (i := 2) (by decide) fun we n6 => ?_
  refine n6.lit (by omega) (by decide) fun we p4 n7 q4 => ?_
  refine n7.num (by omega) (i := 3) (by decide) fun we n8 => ?_
  refine n8.lit (by omega) (by decide) fun we p5 n9 q5 => ?_
  have good : (((((((((false || !decide (T1 <+: l.drop 0)) || (numF (rdD l p1)).isNone) || !decide (T2 <+: l.drop (p1 + (rdD l p1).length))) || (numF (rdD l p2)).isNone) || !decide (T3 <+: l.drop (p2 + (rdD l p2).length))) || (numF (rdD l p3)).isNone) || !decide (T4 <+: l.drop (p3 + (rdD l p3).length))) || (numF (rdD l p4)).isNone) || !decide ([10] <+: l.drop (p4 + (rdD l p4).length))) = false →
      ∃ a c d e, numF (rdD l p1) = some a ∧ numF (rdD l p2) = some c ∧ numF (rdD l p3) = some d ∧ numF (rdD l p4) = some e ∧ l = T1 ++ rdD l p1 ++ T2 ++ rdD l p2 ++ T3 ++ rdD l p3 ++ T4 ++ rdD l p4 ++ [10] ++ l.drop p5 := by
    intro h9
    obtain ⟨h8, e9⟩ := lit_good h9 q5
    obtain ⟨h7, ⟨v4, hv4⟩, e8⟩ := num_good h8
    obtain ⟨h6, e7⟩ := lit_good h7 q4
    obtain ⟨h5, ⟨v3, hv3⟩, e6⟩ := num_good h6
    obtain ⟨h4, e5⟩ := lit_good h5 q3
    obtain ⟨h3, ⟨v2, hv2⟩, e4⟩ := num_good h4
    obtain ⟨h2, e3⟩ := lit_good h3 q2
    obtain ⟨h1, ⟨v1, hv1⟩, e2⟩ := num_good h2
    obtain ⟨_, e1⟩ := lit_good h1 q1
    refine ⟨v1, v2, v3, v4, hv1, hv2, hv3, hv4, ?_⟩
    have : l.drop 0 = T1 ++ (rdD l p1 ++ (T2 ++ (rdD l p2 ++ (T3 ++ (rdD l p3 ++ (T4 ++ (rdD l p4 ++ ([10] ++ l.drop p5)))))))) := by
      rw [e1]; congr 1; rw [e2]; congr 1; rw [e3]; congr 1; rw [e4]; congr 1; rw [e5]; congr 1; rw [e6]; congr 1; rw [e7]; congr 1; rw [e8]; congr 1
    rw [List.drop_zero] at this
    conv => lhs; rw [this]
    simp only [List.append_assoc]
  have comp : ∀ n sm, pform l n sm → (((((((((false || !decide (T1 <+: l.drop 0)) || (numF (rdD l p1)).isNone) || !decide (T2 <+: l.drop (p1 + (rdD l p1).length))) || (numF (rdD l p2)).isNone) || !decide (T3 <+: l.drop (p2 + (rdD l p2).length))) || (numF (rdD l p3)).isNone) || !decide (T4 <+: l.drop (p3 + (rdD l p3).length))) || (numF (rdD l p4)).isNone) || !decide ([10] <+: l.drop (p4 + (rdD l p4).length))) = false ∧
      n = ⟨(((numF (rdD l p1)).getD 0 : Nat) : Int), (((numF (rdD l p2)).getD 0 : Nat) : Int), (((numF (rdD l p3)).getD 0 : Nat) : Int), (((numF (rdD l p4)).getD 0 : Nat) : Int)⟩ ∧ ∃ e, l.drop p5 = SUM ++ e ++ [10] ∧ sumF e = some sm := by
    rintro n sm ⟨d1, d2, d3, d4, e, a, c, d, v, hd, g1, g2, g3, g4, g5, rfl⟩
    have h0 : l.drop 0 = T1 ++ (d1 ++ (T2 ++ (d2 ++ (T3 ++ (d3 ++ (T4 ++ (d4 ++ ([10] ++ (SUM ++ e ++ [10]))))))))) := by rw [List.drop_zero, hd]; simp only [List.append_assoc]
    have hdig : ∀ (y r : List UInt8), y.head? = some 10 → ∀ c, (y ++ r).head? = some c → isD c = false := by
      intro y r hy c hc
      cases y with
      | nil => cases hy
      | cons z y =>
        simp only [List.head?_cons, Option.some.injEq, List.cons_append] at hy hc
        rw [← hc, hy]; rfl
    obtain ⟨b1, b2⟩ := lit_step h0
    have r1 := q1 rfl b1
    rw [← r1] at b2
    obtain ⟨c1, c2⟩ := num_at g1 b2 (hdig T2 _ rfl)
    obtain ⟨b3, b4⟩ := lit_step c2
    have k1 : ((false || !decide (T1 <+: l.drop 0)) || (numF (rdD l p1)).isNone) = false := by rw [decide_eq_true b1, c1, g1]; rfl
    have r2 := q2 k1 b3
    rw [← r2] at b4
    obtain ⟨c3, c4⟩ := num_at g2 b4 (hdig T3 _ rfl)
    obtain ⟨b5, b6⟩ := lit_step c4
    have k2 : ((((false || !decide (T1 <+: l.drop 0)) || (numF (rdD l p1)).isNone) || !decide (T2 <+: l.drop (p1 + (rdD l p1).length))) || (numF (rdD l p2)).isNone) = false := by rw [k1, decide_eq_true b3, c3, g2]; rfl
    have r3 := q3 k2 b5
    rw [← r3] at b6
    obtain ⟨c5, c6⟩ := num_at g3 b6 (hdig T4 _ rfl)
    obtain ⟨b7, b8⟩ := lit_step c6
    have k3 : ((((((false || !decide (T1 <+: l.drop 0)) || (numF (rdD l p1)).isNone) || !decide (T2 <+: l.drop (p1 + (rdD l p1).length))) || (numF (rdD l p2)).isNone) || !decide (T3 <+: l.drop (p2 + (rdD l p2).length))) || (numF (rdD l p3)).isNone) = false := by rw [k2, decide_eq_true b5, c5, g3]; rfl
    have r4 := q4 k3 b7
    rw [← r4] at b8
    obtain ⟨c7, c8⟩ := num_at g4 b8 (hdig [10] _ rfl)
    obtain ⟨b9, b10⟩ := lit_step c8
    have k4 : ((((((((false || !decide (T1 <+: l.drop 0)) || (numF (rdD l p1)).isNone) || !decide (T2 <+: l.drop (p1 + (rdD l p1).length))) || (numF (rdD l p2)).isNone) || !decide (T3 <+: l.drop (p2 + (rdD l p2).length))) || (numF (rdD l p3)).isNone) || !decide (T4 <+: l.drop (p3 + (rdD l p3).length))) || (numF (rdD l p4)).isNone) = false := by rw [k3, decide_eq_true b7, c7, g4]; rfl
    have r5 := q5 k4 b9
    rw [← r5] at b10
    refine ⟨by rw [k4, decide_eq_true b9]; rfl, ?_, e, b10, g5⟩
    rw [c1, c3, c5, c7, g1, g2, g3, g4]
    rfl
  generalize hbad : (((((((((false || !decide (T1 <+: l.drop 0)) || (numF (rdD l p1)).isNone) || !decide (T2 <+: l.drop (p1 + (rdD l p1).length))) || (numF (rdD l p2)).isNone) || !decide (T3 <+: l.drop (p2 + (rdD l p2).length))) || (numF (rdD l p3)).isNone) || !decide (T4 <+: l.drop (p3 + (rdD l p3).length))) || (numF (rdD l p4)).isNone) || !decide ([10] <+: l.drop (p4 + (rdD l p4).length))) = bad at *
  have form : bad = false → ∀ e sm, l.drop p5 = SUM ++ e ++ [10] → sumF e = some sm → ∃ n, pform l n sm := fun hb e sm he hs => by
    obtain ⟨a, c, d, v, h1, h2, h3, h4, h5⟩ := good hb
    rw [he] at h5
    exact ⟨_, _, _, _, _, e, a, c, d, v, h5.trans (by simp only [List.append_assoc]), h1, h2, h3, h4, hs, rfl⟩
  clear good q1 q2 q3 q4 q5 n0 n1 n2 n3 n4 n5 n6 n7 n8
  generalize hnt : (⟨(((numF (rdD l p1)).getD 0 : Nat) : Int), (((numF (rdD l p2)).getD 0 : Nat) : Int), (((numF (rdD l p3)).getD 0 : Nat) : Int), (((numF (rdD l p4)).getD 0 : Nat) : Int)⟩ : Nt) = m at comp
  rw [Run_bind]
  refine (last_run n9.rs n9.hp (by omega)).mono ?_
  rintro r wf ⟨hyes, hno, ff⟩
  have f0 : Fr (fun c => c = b ∨ c = x6) wc wf := n9.fr.trans ff fun _ _ h => .inl h
  have hx1c : bk wc x1 = some zNt.row := fc.bk_some (fb.bk_some hx1 id) id
  have hw1c : wr wc x1 = true := by rw [fc.wr (bk_lt (fb.bk_some hx1 id)) id, fb.wr l1 id]; exact hw1
  have hne : ¬ (x1 = b ∨ x1 = x6) := by omega
  have hx1f := f0.bk_some hx1c hne
  have hw1f : wr wf x1 = true := by rw [f0.wr (bk_lt hx1c) hne]; exact hw1c
  have hx6f : bk wf x6 = some m.row := by
    have := ff.bk_some n9.b6 n9.ne
    rw [this, ← hnt]; rfl
  have fac : Fr (fun _ => False) w wc := (fa.trans fb fun _ _ => id).trans fc fun _ _ => id
  have sa := fa.size
  have fwf : Fr (fun _ => False) w wf := fac.new f0 fun c hc => by omega
  have h40 : ∀ c : Int, ¬ c = 0 → (!decide (c = 0)) = true := fun c hc => by simp [hc]
  by_cases hf : ∃ n sm, pform l n sm
  case neg =>
    have hr : r = .int .i64 40 := by
      refine hno ?_
      cases hb : bad with
      | true => exact .inl rfl
      | false => exact .inr fun e sm he hs => hf (by obtain ⟨n, hn⟩ := form hb e sm he hs; exact ⟨n, sm, hn⟩)
    subst hr
    have e40 : ¬ (40 : Int) = 0 := by decide
    rw [Run_bind]
    simp only [binV_int, intBin_eql, e40, decide_false, Run_bindO_some, Run_condM_false, Run_ret, outK_norm, getL_zero, intBin_neq, Bool.not_false, Run_condM_true, Run_bind]
    exact fin_run hx1f hw1f zNt fun wg fg => ⟨⟨fun n sm hp => absurd ⟨n, sm, hp⟩ hf, fun _ => rfl⟩, fwf.new fg fun c hc => hc ▸ hx1le⟩
  obtain ⟨n, sm, hpf⟩ := hf
  obtain ⟨hb, rfl, e, he, hs⟩ := comp n sm hpf
  have hr := hyes e sm hb he hs
  have hp5 : p5 = l.length - 13 := by
    have h1 := congrArg List.length he
    have h2 := (sum_no10 hs).2
    have h3 : SUM.length = 4 := rfl
    have h4 := n9.hp
    rw [List.length_drop, List.length_append, List.length_append, List.length_singleton] at h1
    omega
  have hans : ∀ r, r = ansV l n sm → PAns l r := fun r hr => by
    refine ⟨fun n' sm' hp' => ?_, fun hno => absurd hpf (hno n sm)⟩
    obtain ⟨_, e1, e', he', hs'⟩ := comp n' sm' hp'
    rw [he] at he'
    have : SUM ++ e = SUM ++ e' := List.append_cancel_right he'
    have : e = e' := List.append_cancel_left this
    rw [← this, hs] at hs'
    rw [hr, e1, Option.some.inj hs']
  rw [hp5] at hr
  rw [Run_bind]
  by_cases hcrc : sm = crcF (sb (l.take (l.length - 13)))
  case neg =>
    rw [if_neg hcrc] at hr
    subst hr
    have e41 : ¬ (41 : Int) = 0 := by decide
    simp only [binV_int, intBin_eql, e41, decide_false, Run_bindO_some, Run_condM_false, Run_ret, outK_norm, getL_zero, intBin_neq, Bool.not_false, Run_condM_true, Run_bind]
    exact fin_run hx1f hw1f zNt fun wg fg => ⟨hans _ (by rw [ansV, if_neg hcrc]), fwf.new fg fun c hc => hc ▸ hx1le⟩
  rw [if_pos hcrc] at hr
  subst hr
  have l6 : ldA 4 (.pointer (some ⟨x6, 0, none⟩)) wf = some n.v := ldA_bk hx6f (Nat.le_refl _)
  simp only [binV_int, intBin_eql, decide_true, Run_bindO_some, Run_condM_true, Run_bind, Run_rdM]
  refine ⟨_, l6, ?_⟩
  refine (rpf_run n).mono ?_
  rintro _ wg ⟨rfl, fg⟩
  have hx1g := fg.bk_some hx1f id
  have hw1g : wr wg x1 = true := by rw [fg.wr (bk_lt hx1f) id]; exact hw1f
  have fwg := fwf.trans fg fun _ _ => id
  by_cases hpk : n.pok = true
  · rw [if_pos hpk]
    have l6g : ldA 4 (.pointer (some ⟨x6, 0, none⟩)) wg = some n.v := ldA_bk (fg.bk_some hx6f id) (Nat.le_refl _)
    simp only [Run_ret, outK_norm, getL_zero, binV_int, intBin_neq, decide_true, Bool.not_true, Run_bindO_some, Run_condM_false, Run_bind, Run_rdM]
    refine ⟨_, l6g, ?_⟩
    have := fin_run hx1g hw1g n (K := fun a w' => PAns l (.tuple #[a, .int .i64 0]) ∧ Fr (fun _ => False) w w') fun wh fh => ⟨hans _ (by rw [ansV, if_pos hcrc, if_pos hpk]), fwg.new fh fun c hc => hc ▸ hx1le⟩
    simp only [Run_rdM] at this
    exact this
  · rw [if_neg hpk]
    have e42 : ¬ (42 : Int) = 0 := by decide
    simp only [Run_ret, outK_norm, getL_zero, binV_int, intBin_neq, e42, decide_false, Bool.not_false, Run_bindO_some, Run_condM_true, Run_bind]
    exact fin_run hx1g hw1g zNt fun wh fh => ⟨hans _ (by rw [ansV, if_pos hcrc, if_neg hpk]), fwg.new fh fun c hc => hc ▸ hx1le⟩
end
end Go.Proofs.YthlpfhjcdedhgaaDoor

/-
  Layer 4 (paper): part Zk: the law of pointers.
-/
namespace Go.Proofs.YthlpfhjcdedhgaaDoor
open Go.Lift Go.Sort
set_option linter.unusedSimpArgs false
set_option linter.unusedVariables false
set_option maxHeartbeats 4000000
section
variable {w w1 w2 : World}
theorem PAns.shape {t : List UInt8} {r : Value} (h : PAns t r) : ∃ (m : Nt) (c : Int), r = .tuple #[m.v, .int .i64 c] := by
  by_cases hx : ∃ n sm, pform t n sm
  · obtain ⟨n, sm, hp⟩ := hx
    rw [h.yes n sm hp, ansV]
    split
    · split
      · exact ⟨_, _, rfl⟩
      · exact ⟨_, _, rfl⟩
    · exact ⟨_, _, rfl⟩
  · exact ⟨_, _, h.no fun n sm hp => hx ⟨n, sm, hp⟩⟩
theorem eqRow (n : Nt) : eqV (EqSh.offs [(EqK.int, 0), (EqK.int, 1), (EqK.int, 2), (EqK.int, 3)]) n.v n.v = some (.bool true) := by
  simp [Nt.v, eqOffs, eqPrim]
theorem panswer_run (ht : Tb w) {l : List UInt8} (hl : l.length ≤ 4294960000) : Run (F.granarylaw4_pointerAnswers (.string (sb l))) w fun r w' => r = .bool true ∧ Fr (fun _ => False) w w' := by
  unfold F.granarylaw4_pointerAnswers
  have y0 : ∀ v x, extV 0 (.tuple #[v, x]) = some v := fun _ _ => rfl
  have y1 : ∀ v x, extV 1 (.tuple #[v, x]) = some x := fun _ _ => rfl
  rw [Run_bind]
  refine (pparse_run ht hl).mono ?_
  rintro r1 w1 ⟨h1, f1⟩
  obtain ⟨m, c, rfl⟩ := h1.shape
  rw [y0, Run_bindO_some, y1, Run_bindO_some, Run_bind]
  refine Run_new fun x4 w2 hx4 hw4 f2 hle4 => ?_
  rw [Run_bind, Run_stM (by rfl) (by rfl) ⟨⟨_, hx4, by simp [Nt.v, Value.cells]⟩, hw4⟩]
  have b4 := bk_sto_same (o := 0) hx4 m.v.cells.toList
  have f13 : Fr (fun _ => False) w (sto w2 x4 0 m.v.cells.toList) := f1.trans (f2.sto (.inr hle4) _ _) fun _ _ => id
  generalize sto w2 x4 0 m.v.cells.toList = w3 at *
  rw [Run_bind]
  refine (rpparse_run (ht.fr0 f13) hl).mono ?_
  rintro r2 w4 ⟨h2, f4⟩
  obtain rfl := h1.same h2
  have b4' := f4.bk_some b4 id
  rw [y0, Run_bindO_some, y1, Run_bindO_some, Run_bind]
  refine Run_new fun x9 w5 hx9 hw9 f5 hle9 => ?_
  rw [Run_bind, Run_stM (by rfl) (by rfl) ⟨⟨_, hx9, by simp [Nt.v, Value.cells]⟩, hw9⟩]
  have b9 := bk_sto_same (o := 0) hx9 m.v.cells.toList
  have f56 : Fr (fun _ => False) w4 (sto w5 x9 0 m.v.cells.toList) := f5.sto (.inr hle9) _ _
  have b46 := f56.bk_some b4' id
  generalize sto w5 x9 0 m.v.cells.toList = w6 at *
  have l4 : ldA 4 (.pointer (some ⟨x4, 0, none⟩)) w6 = some m.v := ldA_bk b46 (by first | exact Nat.le_refl _ | simp)
  have l9 : ldA 4 (.pointer (some ⟨x9, 0, none⟩)) w6 = some m.v := ldA_bk b9 (by first | exact Nat.le_refl _ | simp)
  rw [Run_bind, Run_rdM]
  refine ⟨_, l4, ?_⟩
  rw [Run_bind, Run_rdM]
  refine ⟨_, l9, ?_⟩
  rw [eqRow, Run_bindO_some]
  simp only [Run_bind, Run_guardM_tt, Run_ret, F.granarylaw4_num, binV_int, intBin_eql, decide_true, Run_optM_some, pickV_bool, cond_true, Run_bindO_some]
  exact ⟨trivial, (f13.trans f4 fun _ _ => id).trans f56 fun _ _ => id⟩
theorem pointers_walk (ht : Tb w) (n : Nt) {l : List UInt8} (hl : l.length ≤ 4294950000) : Run (F.granarylaw4_PaperPointers n.v (.string (sb l))) w fun r w' => r = .bool true ∧ Fr (fun _ => False) w w' := by
  unfold F.granarylaw4_PaperPointers
  rw [Run_bind]
  refine Run_new fun x w1 hx hxw f1 hxle => ?_
  have hx1 : ldA 4 (.pointer (some ⟨x, 0, none⟩)) w1 = some n.v := ldA_bk hx (Nat.le_refl _)
  have t1 := ht.fr0 f1
  rw [Run_bind, Run_rdM]
  refine ⟨_, hx1, ?_⟩
  rw [Run_bind]
  refine (pprint_run t1 n).mono ?_
  rintro _ w2 ⟨rfl, f2⟩
  have t2 := t1.fr0 f2
  have hx2 : ldA 4 (.pointer (some ⟨x, 0, none⟩)) w2 = some n.v := ldA_bk (f2.bk_some hx id) (Nat.le_refl _)
  obtain ⟨tx, e, hno, htx⟩ : ∃ (t : List UInt8) (e : Int), ptrO n = .tuple #[.string (sb t), .int .i64 e] ∧ t.length ≤ 2000 := by
    unfold ptrO
    by_cases hn : n.pok = true
    · rw [if_pos hn]
      refine ⟨_, _, rfl, ?_⟩
      have h1 := ptr_len hn
      have h2 : (eightL (crcF (sb (ptrL n)))).length = 8 := lowD_len _ _
      have h3 : SUM.length = 4 := rfl
      simp only [closeL, List.length_append, h2, h3, List.length_singleton]
      omega
    · rw [if_neg hn]
      exact ⟨[], _, rfl, by simp⟩
  have y0 : ∀ v x, extV 0 (.tuple #[v, x]) = some v := fun _ _ => rfl
  have y1 : ∀ v x, extV 1 (.tuple #[v, x]) = some x := fun _ _ => rfl
  rw [hno, y0, Run_bindO_some, y1, Run_bindO_some, Run_bind, Run_rdM]
  refine ⟨_, hx2, ?_⟩
  rw [Run_bind]
  refine (rpprint_run t2 n).mono ?_
  rintro _ w3 ⟨rfl, f3⟩
  have t3 := t2.fr0 f3
  rw [hno, y0, Run_bindO_some, y1, Run_bindO_some, sbEq]
  simp only [decide_true, Run_bindO_some, Run_bind, Run_guardM_tt, Run_ret, F.granarylaw4_num, binV_int, intBin_eql, Run_optM_some, pickV_bool, cond_true]
  refine (panswer_run t3 (show l.length ≤ 4294960000 by omega)).mono ?_
  rintro _ w4 ⟨rfl, f4⟩
  have t4 := t3.fr0 f4
  simp only [pickV_bool, cond_true, Run_bindO_some, Run_bind, Run_guardM_tt, Run_ret]
  refine (panswer_run t4 (show tx.length ≤ 4294960000 by omega)).mono ?_
  rintro _ w5 ⟨rfl, f5⟩
  simp only [pickV_bool, cond_true, Run_bindO_some, Run_ret]
  exact ⟨trivial, (((f1.trans f2 fun _ _ => id).trans f3 fun _ _ => id).trans f4 fun _ _ => id).trans f5 fun _ _ => id⟩
end
theorem ptb_of {W : World} (h : laidMetH Tryd.prog Rows.paperPointersUptoRow.laid W) (hsh : W.ShapedOpen Tryd.prog) : Tb W := tb_of h hsh
theorem paperPointers_top {W : World} {cs : Array Value} {n : Nat} (hv : (Shs.int .i64 (.int .i64 (.int .i64 (.int .i64 .nil)))).Rd W cs.toList n) {n0 : Nat} (s : ByteArray) (hs : s.size + 1 ≤ n0) (hk : n + n0 ≤ 1048576) (hL : laidMetH Tryd.prog Rows.paperPointersUptoRow.laid W) (hsh : W.ShapedOpen Tryd.prog) :
    Run (F.granarylaw4_PaperPointers (.agg cs) (.string s)) W fun r w' => r = .bool true ∧ Fr (fun _ => False) W w' := by
  obtain ⟨m, hm⟩ := rd4 hv
  rw [hm, sb_self s]
  have hl : s.data.toList.length = s.size := Array.length_toList
  exact pointers_walk (ptb_of hL hsh) m (by omega)
end Go.Proofs.YthlpfhjcdedhgaaDoor
