/-
  strings.Builder and strings.Join, as the lift reads them.
-/
import Derived.Test.YthlpfhjcdedhgaaDoorGZ
import Derived.Test.YthlpfhjcdedhgaaDoorLiftU
import Derived.Lib.MakeNoZero
import Derived.Lib.UnsafeStr
namespace Go.Proofs.YthlpfhjcdedhgaaDoor
open Go.Lift
set_option linter.unusedSimpArgs false
set_option linter.unusedVariables false
set_option maxHeartbeats 4000000

abbrev PtrB (b : Nat) : Value := .pointer (some ⟨b, 0, none⟩)
theorem ba_ext0 {a b : ByteArray} (h : a.data.toList = b.data.toList) : a = b := by
  rcases a with ⟨⟨a⟩⟩
  rcases b with ⟨⟨b⟩⟩
  simp at h
  subst h
  rfl
/-- A builder at block x: its bytes are at block g, with room for cap. -/
structure Bld (w : World) (x g cap : Nat) (l : List UInt8) : Prop where
  hb : bk w x = some [PtrB x, .slice (some ⟨g, 0, none⟩) l.length cap]
  hw : wr w x = true
  ne : x ≠ g
  le : l.length ≤ cap
  buf : ∃ cs : Array Value, w.heap[g]? = some (.cells cs 5 (0, 0)) ∧ cs.size = cap ∧ cs.toList.take l.length = l.map fun b => Value.int .u8 b.toNat
section
variable {w w' : World} {x g cap : Nat} {l : List UInt8}
theorem bldSliceT : Tryd.prog.underlying 58 = some (.slice 5) := by kernel_rfl
theorem bldPtrT : Tryd.prog.underlying 104 = some (.pointer 5) := by kernel_rfl
theorem u8C : Tryd.prog.cellsOf 5 = 1 := by kernel_rfl
theorem cell0 {v : Value} {r : List Value} (h : bk w x = some (v :: r)) : w.cell? ⟨x, 0, none⟩ = some v := by
  unfold bk at h
  unfold World.cell?
  split at h
  · rename_i c t fz hh
    simp only [Option.some.injEq] at h
    rw [hh]
    simp
    rw [← Array.getElem?_toList, h]
    rfl
  · cases h
theorem bldUsed_run {v : Value} (h : bk w x = some [PtrB x, v]) {Q : Value → World → Prop} (q : Q (.tuple #[]) w) : Run (F.strings_Builder_copyCheck (PtrB x)) w Q := by
  refine ⟨_, _, ?_, q⟩
  unfold F.strings_Builder_copyCheck
  simp only [cell0 h, if_true]
theorem bldFirst_run {Q : Value → World → Prop} (q : ∀ w', bk w' w.heap.size = some [PtrB w.heap.size, .slice none 0 0] → wr w' w.heap.size = true → w'.heap.size = w.heap.size + 1 → Fr (fun _ => False) w w' → Q (.tuple #[]) w') :
    Run (F.strings_Builder_copyCheck (PtrB w.heap.size)) (w.alloc (.cells #[.pointer none, .slice none 0 0] 60)) Q := by
  have hh : (w.alloc (.cells #[.pointer none, .slice none 0 0] 60)).heap[w.heap.size]? = some (.cells #[.pointer none, .slice none 0 0] 60 (0, 0)) := by
    show (w.heap.push _)[w.heap.size]? = _
    simp
  have h0 := cell0 (bk_alloc_at (w := w) rfl #[.pointer none, .slice none 0 0] 60)
  have h1 : (w.alloc (.cells #[.pointer none, .slice none 0 0] 60)).shape? w.heap.size = some (60, 2) := by
    unfold World.shape?
    rw [hh]
    rfl
  have h2 : (w.alloc (.cells #[.pointer none, .slice none 0 0] 60)).frozen? ⟨w.heap.size, 0, none⟩ = false := by
    unfold World.frozen?
    rw [hh]
    rfl
  refine ⟨_, _, ?_, q ((w.alloc (.cells #[.pointer none, .slice none 0 0] 60)).setCell ⟨w.heap.size, 0, none⟩ (PtrB w.heap.size)) ?_ ?_ ?_ ?_⟩
  · unfold F.strings_Builder_copyCheck
    simp only [h0, h1, h2, and_self, if_true]
  · unfold bk World.setCell
    simp only [Array.getElem?_modify, hh, if_true]
    rfl
  · unfold wr World.setCell
    simp only [Array.getElem?_modify, hh, if_true]
    rfl
  · unfold World.setCell
    simp only [Array.size_modify]
    show (w.heap.push _).size = _
    simp
  · refine ⟨rfl, rfl, rfl, ?_, fun b hb _ => ?_⟩
    · unfold World.setCell
      simp only [Array.size_modify]
      show _ ≤ (w.heap.push _).size
      simp
    · unfold World.setCell
      simp only [Array.getElem?_modify]
      rw [if_neg (by omega)]
      show (w.heap.push _)[b]? = _
      rw [Array.getElem?_push]
      rw [if_neg (by omega)]
theorem Bld.fr {F : Nat → Prop} (h : Bld w x g cap l) (f : Fr F w w') (hx : ¬ F x) (hg : ¬ F g) : Bld w' x g cap l := by
  obtain ⟨cs, h1, h2, h3⟩ := h.buf
  exact ⟨f.bk_some h.hb hx, by rw [f.wr (bk_lt h.hb) hx]; exact h.hw, h.ne, h.le, cs, by rw [f.block g (Array.getElem?_eq_some_iff.1 h1).1 hg]; exact h1, h2, h3⟩
theorem bldGrow_run {n : Nat} (h1 : 1 ≤ n) (hn : n ≤ 281474976710656) {β : Type} {K : Value → M β} {Q : β → World → Prop} (q : ∀ x g cap w', Bld w' x g cap [] → n ≤ cap → w.heap.size ≤ x → w.heap.size ≤ g → Fr (fun _ => False) w w' → Run (K (PtrB x)) w' Q) :
    Run (M.bind (newM 60 #[.pointer none, .slice none 0 0]) fun x49 => M.bind (F.strings_Builder_Grow x49 (.int .i64 n)) fun _ => K x49) w Q := by
  simp only [Run_bind, Run_newM]
  unfold F.strings_Builder_Grow
  simp only [Run_bind]
  refine bldFirst_run fun w2 hb hw hs f => ?_
  generalize hx : w.heap.size = x at *
  have hneg : ¬ ((n : Nat) : Int) < 0 := by omega
  have hlt : 0 < n := by omega
  have wz : IntKind.i64.wrap 0 = 0 := by decide
  have wn' : IntKind.i64.wrap ((n : Int)) = n := by simp [IntKind.wrap, IntKind.bits, IntKind.signed]; omega
  simp [hneg, hb, capV, hlt, wz]
  unfold F.strings_Builder_grow
  simp [hb, capV, wz, wn']
  obtain ⟨cs, hr, hle, _⟩ := Lib.run_makeNoZero (P := Tryd.prog) (w := w2.drew.drew) #[3] 58 5 bldSliceT n hn
  have hg : (w2.drew.drew).heap.size = x + 1 := hs
  rw [hg] at hr
  have hrun : Run (F.bytealg_MakeNoZero (.int .i64 n)) w2.drew.drew fun r w3 => r = .slice (some ⟨x + 1, 0, none⟩) n cs.size ∧ w3 = (w2.drew.drew).drew.drew.alloc (.cells cs 5) := by
    have e : F.bytealg_MakeNoZero (.int .i64 n) w2.drew.drew = some (.slice (some ⟨x + 1, 0, none⟩) n cs.size, (w2.drew.drew).drew.drew.alloc (.cells cs 5)) := by
      unfold F.bytealg_MakeNoZero
      simp only [hr]
    exact ⟨_, _, e, rfl, rfl⟩
  refine hrun.mono ?_
  rintro _ w3 ⟨rfl, rfl⟩
  have hh : ((w2.drew.drew).drew.drew.alloc (.cells cs 5)).heap[x + 1]? = some (.cells cs 5 (0, 0)) := by
    show (w2.heap.push _)[x + 1]? = _
    rw [← hs]
    simp
  have f3 : Fr (fun _ => False) w2 ((w2.drew.drew).drew.drew.alloc (.cells cs 5)) := (Fr.refl (fun _ => False) w2).drew.drew.drew.drew.alloc _
  generalize (w2.drew.drew).drew.drew.alloc (.cells cs 5) = w3 at *
  have hb3 := f3.bk_some hb id
  have hw3 : wr w3 x = true := by rw [f3.wr (bk_lt hb) id]; exact hw
  have hsl : sliceV 1 (.slice (some ⟨x + 1, 0, none⟩) n cs.size) none (some (.int .i64 0)) = some (.slice (some ⟨x + 1, 0, none⟩) 0 cs.size) := by
    have hc : cs.size ≠ 0 := by omega
    simp [sliceV, highV, lowV, boundV, hc]
    rfl
  simp [hb3, hsl, hb]
  have hc : Run (cpyM 1 (.slice (some ⟨x + 1, 0, none⟩) 0 cs.size) (.slice none 0 0)) w3 fun r w4 => w4 = w3 := by
    refine ⟨.int .i64 0, w3, ?_, rfl⟩
    unfold cpyM
    simp [lenN, firstN, stN]
    try rfl
  refine hc.mono ?_
  rintro r w4 rfl
  simp [hb3, hw3]
  have fs : Fr (fun c => c = x) w4 (sto w4 x 1 [.slice (some ⟨x + 1, 0, none⟩) 0 cs.size]) := (Fr.refl (fun c => c = x) w4).sto (.inl rfl) _ _
  refine q x (x + 1) cs.size _ ⟨?_, by simpa using hw3, by omega, by simp, cs, ?_, rfl, by simp⟩ hle (by omega) (by omega) ?_
  · rw [bk_sto_eq, hb3]; rfl
  · rw [fs.block (x + 1) (Array.getElem?_eq_some_iff.1 hh).1 (by omega)]; exact hh
  · exact (f.trans f3 fun _ _ => id).new fs fun c hc => by omega
theorem byteV_all (l : List UInt8) : (l.map fun b => Value.int .u8 (b.toNat : Int)).all isCell = true := by simp [List.all_eq_true]
theorem bldWrite_run (h : Bld w x g cap l) (s : ByteArray) (hroom : l.length + s.size ≤ cap) : Run (F.strings_Builder_WriteString (PtrB x) (.string s)) w fun _ w' => Bld w' x g cap (l ++ s.data.toList) ∧ Fr (fun c => c = x ∨ c = g) w w' := by
  unfold F.strings_Builder_WriteString
  simp only [Run_bind]
  have hb := h.hb
  refine bldUsed_run hb ?_
  obtain ⟨cs, c1, c2, c3⟩ := h.buf
  have hne := h.ne
  simp [hb]
  have happ : Run (appM 5 1 1 #[.int .u8 0] (.slice (some ⟨g, 0, none⟩) l.length cap) (.string s)) w fun r w1 => r = .slice (some ⟨g, 0, none⟩) (l ++ s.data.toList).length cap ∧ bk w1 x = bk w x ∧ wr w1 x = wr w x ∧ Fr (fun c => c = g) w w1 ∧
      ∃ cs' : Array Value, w1.heap[g]? = some (.cells cs' 5 (0, 0)) ∧ cs'.size = cap ∧ cs'.toList.take (l ++ s.data.toList).length = (l ++ s.data.toList).map fun b => Value.int .u8 b.toNat := by
    have hlen : (l ++ s.data.toList).length = l.length + s.size := by rw [List.length_append]; rfl
    have hext : s.extract 0 s.size = s := by apply ba_ext0; simp
    have hnew : firstN w 1 s.size (.string s) = some (s.data.toList.map fun b => Value.int .u8 b.toNat) := by
      simp only [firstN, hext]
      simp
    have hcl : cs.toList.length = cap := (Array.length_toList (xs := cs)).trans c2
    have hsl : s.data.toList.length = s.size := rfl
    by_cases he : s.data.toList = []
    · refine ⟨_, w, ?_, rfl, rfl, rfl, Fr.refl _ _, cs, c1, c2, by rw [he, List.append_nil]; exact c3⟩
      unfold appM
      simp only [lenN]
      rw [if_pos hroom, hnew]
      have h0 : s.size = 0 := by
        have : s.data.toList.length = s.size := rfl
        rw [he] at this
        exact this.symm
      simp [he, stN, h0]
    · have hbg : bk w g = some cs.toList := by unfold bk; rw [c1]
      have hwg : wr w g = true := by unfold wr; rw [c1]; simp
      have hst : stN (Addr.add ⟨g, 0, none⟩ (l.length * 1)) (s.data.toList.map fun b => Value.int .u8 b.toNat) w = some (sto w g l.length (s.data.toList.map fun b => Value.int .u8 b.toNat)) := by
        simp only [Addr.add_lit, stN, Nat.zero_add, Nat.mul_one]
        rw [if_neg (by simpa using he)]
        simp only [hbg]
        have hc : l.length + (s.data.toList.map fun b => Value.int .u8 (b.toNat : Int)).length ≤ cs.toList.length := by rw [List.length_map]; omega
        rw [if_pos ⟨⟨hc, byteV_all _⟩, hwg⟩]
      refine ⟨_, sto w g l.length (s.data.toList.map fun b => Value.int .u8 b.toNat), ?_, rfl, bk_sto_ne hne _ _, wr_sto _ _ _ _ _, (Fr.refl (fun c => c = g) w).sto (.inl rfl) _ _, (setL cs.toList l.length (s.data.toList.map fun b => Value.int .u8 b.toNat)).toArray, ?_, ?_, ?_⟩
      · unfold appM
        simp only [lenN]
        rw [if_pos hroom, hnew]
        simp only [hst, hlen]
      · simp only [sto, Array.getElem?_modify, c1, if_true]
        rfl
      · rw [List.size_toArray, length_setL, Array.length_toList, c2]
      · have := drop_take_setL (l := cs.toList) (o := 0) (p := l.length) (n := l.length) (vs := s.data.toList.map fun b => Value.int .u8 b.toNat) (by rw [List.length_map]; omega) (by omega)
        simp only [List.drop_zero, List.length_map] at this
        rw [List.toList_toArray, List.length_append, this, c3, List.map_append]
  refine happ.mono ?_
  rintro _ w1 ⟨rfl, e1, e2, f1, hbuf⟩
  rw [hb] at e1
  have hw1 : wr w1 x = true := by rw [e2]; exact h.hw
  simp [e1, hw1]
  have fs : Fr (fun c => c = x) w1 (sto w1 x 1 [.slice (some ⟨g, 0, none⟩) (l.length + s.size) cap]) := (Fr.refl (fun c => c = x) w1).sto (.inl rfl) _ _
  obtain ⟨cs', d1, d2, d3⟩ := hbuf
  have hlen : (l ++ s.data.toList).length = l.length + s.size := by rw [List.length_append]; rfl
  refine ⟨⟨?_, by simpa using hw1, hne, by rw [hlen]; exact hroom, cs', by rw [fs.block g (Array.getElem?_eq_some_iff.1 d1).1 (Ne.symm hne)]; exact d1, d2, d3⟩, (f1.mono fun c hc => Or.inr hc).trans fs fun c _ hc => .inl hc⟩
  rw [bk_sto_eq, e1, hlen]
  rfl
theorem bldString_run (h : Bld w x g cap l) (h0 : l ≠ []) (h63 : l.length ≤ 281474976710656) : Run (F.strings_Builder_String (PtrB x)) w fun r w' => r = .string ⟨l.toArray⟩ ∧ Fr (fun c => c = x ∨ c = g) w w' := by
  unfold F.strings_Builder_String
  have hb := h.hb
  obtain ⟨cs, c1, c2, c3⟩ := h.buf
  have hne := h.ne
  have hle := h.le
  have hl0 : l.length ≠ 0 := by simpa using h0
  have hcap : cap ≠ 0 := by omega
  simp [hb, sdV, hcap]
  have hsh : w.drew.shape? g = some (5, cap) := by
    unfold World.shape?
    have : w.drew.heap[g]? = some (.cells cs 5 (0, 0)) := c1
    rw [this]
    simp [c2]
  have hcell : ∀ j y, l[j]? = some y → w.drew.cell? ((⟨g, 0, none⟩ : Addr).add j) = some (.int .u8 y.toNat) := by
    intro j y hy
    have hj := (List.getElem?_eq_some_iff.1 hy).1
    have h1 : (cs.toList.take l.length)[j]? = some (.int .u8 y.toNat) := by rw [c3, List.getElem?_map, hy]; rfl
    rw [List.getElem?_take_of_lt hj] at h1
    have h2 : cs[j]? = some (.int .u8 y.toNat) := by rw [← Array.getElem?_toList]; exact h1
    have h3 : w.drew.heap[g]? = some (.cells cs 5 (0, 0)) := c1
    unfold World.cell?
    simp only [Addr.add_lit, h3, Nat.zero_add]
    exact h2
  have hr := Lib.run_unsafeString_row (P := Tryd.prog) (w := w.drew) 104 3 0 5 bldPtrT u8C g cap hsh l h0 hle (by omega) hcell
  have hrun : Run (usM Tryd.prog [104, 3] (.pointer (some ⟨g, 0, none⟩)) (.int .i64 l.length)) w.drew fun r w1 => r = .string ⟨l.toArray⟩ ∧ w1 = w.drew.freeze ⟨g, 0, none⟩ l.length := by
    have e : usM Tryd.prog [104, 3] (.pointer (some ⟨g, 0, none⟩)) (.int .i64 l.length) w.drew = some (.string ⟨l.toArray⟩, w.drew.freeze ⟨g, 0, none⟩ l.length) := by
      unfold usM
      simp only [hr]
    exact ⟨_, _, e, rfl, rfl⟩
  refine hrun.mono ?_
  rintro _ w1 ⟨rfl, rfl⟩
  simp [hb]
  unfold World.freeze
  rw [if_neg hl0]
  refine ⟨rfl, rfl, rfl, by simp, fun b hb hf => ?_⟩
  simp only [Array.getElem?_modify]
  rw [if_neg (by omega)]
  rfl
end
/-- strings.Join, plainly. -/
def joinL (xs : List ByteArray) (sep : ByteArray) : List UInt8 := match xs with
  | [] => []
  | x :: r => x.data.toList ++ (r.map fun y => sep.data.toList ++ y.data.toList).flatten
theorem wrap_succ' {n : Nat} (h : n + 1 < 9223372036854775808) : IntKind.i64.wrap ((n : Int) + 1) = ((n + 1 : Nat) : Int) := by simp [IntKind.wrap, IntKind.bits, IntKind.signed]; omega
theorem quo_big {k : Nat} (h1 : 1 ≤ k) (h2 : k ≤ 16777216) : ∃ q, intBin .quo .i64 9223372036854775807 (k : Int) = some (.int .i64 q) ∧ 1048576 ≤ q := by
  have hk : ¬ (k : Int) = 0 := by omega
  have hd : (9223372036854775807 : Int).tdiv k = ((9223372036854775807 / k : Nat) : Int) := by
    rw [show (9223372036854775807 : Int) = ((9223372036854775807 : Nat) : Int) from rfl, Int.ofNat_tdiv]
  have hb : 9223372036854775807 / 16777216 ≤ 9223372036854775807 / k := Nat.div_le_div_left h2 h1
  have hb2 : 9223372036854775807 / k ≤ 9223372036854775807 := Nat.div_le_self _ _
  refine ⟨((9223372036854775807 / k : Nat) : Int), ?_, by omega⟩
  simp only [intBin]
  rw [if_neg hk, hd]
  congr 2
  generalize 9223372036854775807 / k = z at *
  simp [IntKind.wrap, IntKind.bits, IntKind.signed]; omega
theorem bldSum_all : ∀ {l : List ByteArray}, (∀ x ∈ l, x.size ≤ 4294967296) → (l.map (·.size)).sum ≤ l.length * 4294967296
  | [], _ => by simp
  | y :: l, h => by
    have := bldSum_all (l := l) fun x hx => h x (by simp [hx])
    have := h y (by simp)
    simp only [List.map_cons, List.sum_cons, List.length_cons]; omega
theorem bldSum_take {xs : List ByteArray} (hx : ∀ x ∈ xs, x.size ≤ 4294967296) (i : Nat) : ((xs.take i).map (·.size)).sum ≤ i * 4294967296 :=
  Nat.le_trans (bldSum_all (l := xs.take i) fun x hxi => hx x (List.mem_of_mem_take hxi)) (Nat.mul_le_mul_right _ (List.length_take_le i xs))
def accL (x0 sep : ByteArray) (l : List ByteArray) : List UInt8 := x0.data.toList ++ (l.map fun y => sep.data.toList ++ y.data.toList).flatten
theorem acc_snoc (x0 sep : ByteArray) (l : List ByteArray) (y : ByteArray) : accL x0 sep (l ++ [y]) = accL x0 sep l ++ (sep.data.toList ++ y.data.toList) := by simp [accL]
theorem acc_full (x0 sep : ByteArray) : ∀ l : List ByteArray, (accL x0 sep l).length = x0.size + l.length * sep.size + (l.map (·.size)).sum
  | [] => by simp [accL]
  | y :: l => by
    have ih := acc_full x0 sep l
    have hss : sep.data.toList.length = sep.size := rfl
    have hys : y.data.toList.length = y.size := rfl
    simp only [accL, List.length_append, List.map_cons, List.flatten_cons, List.sum_cons, List.length_cons, hss, hys, Nat.add_mul] at ih ⊢
    omega
theorem sum_take_le : ∀ (l : List ByteArray) (i : Nat), ((l.take i).map (·.size)).sum ≤ (l.map (·.size)).sum
  | [], _ => by simp
  | y :: l, 0 => by simp
  | y :: l, i + 1 => by have := sum_take_le l i; simp only [List.take_succ_cons, List.map_cons, List.sum_cons]; omega
theorem acc_len (x0 sep : ByteArray) {l : List ByteArray} {i : Nat} : (accL x0 sep (l.take i)).length ≤ x0.size + l.length * sep.size + (l.map (·.size)).sum := by
  rw [acc_full]
  have h1 := sum_take_le l i
  have h2 : (l.take i).length * sep.size ≤ l.length * sep.size := Nat.mul_le_mul_right _ (List.length_take_le' i l)
  omega
theorem join2_run {w : World} {v : Value} {xs : List ByteArray} {sep : ByteArray} (hv : Sl 1 w v (xs.map fun x => [.string x])) (h1 : 1 ≤ sep.size) (h2 : sep.size ≤ 1024) (hx : (xs.map (·.size)).sum ≤ 140737488355328) (hl : xs.length ≤ 16777216) :
    Run (F.strings_Join v (.string sep)) w fun r w' => r = .string ⟨(joinL xs sep).toArray⟩ ∧ Fr (fun _ => False) w w' := by
  unfold F.strings_Join
  have hlen := hv.lenL
  rw [List.length_map] at hlen
  match xs, hv, hx, hl, hlen with
  | [], hv, hx, hl, hlen =>
    simp at hlen
    simp [hlen, joinL]
    exact Fr.refl _ _
  | [x], hv, hx, hl, hlen =>
    simp at hlen
    obtain ⟨q, q1, q2⟩ := hv.rd1 (i := 0) (y := .string x) rfl .i64
    have q1' : idxA 1 v (.int .i64 0) = some q := q1
    simp [hlen, q1', q2, joinL]
    exact Fr.refl _ _
  | x0 :: x1 :: r, hv, hx, hl, hlen =>
    obtain ⟨m, hm⟩ : ∃ m : Nat, (x0 :: x1 :: r).length = m + 2 := ⟨r.length, rfl⟩
    generalize hxs : x0 :: x1 :: r = xs at *
    rw [hm] at hlen
    have e0 : ¬ ((m + 2 : Nat) : Int) = 0 := by omega
    have e1 : ¬ ((m + 2 : Nat) : Int) = 1 := by omega
    have e2 : IntKind.i64.wrap (((m + 2 : Nat) : Int) - 1) = ((m + 1 : Nat) : Int) := by simp [IntKind.wrap, IntKind.bits, IntKind.signed]; omega
    have hpos : (0 : Int) < sep.size := by omega
    obtain ⟨qq, hq, hqg⟩ := quo_big (k := m + 1) (by omega) (by omega)
    have hge : ¬ (sep.size : Int) ≥ qq := by omega
    have hmul : sep.size * (m + 1) ≤ 1024 * 16777216 := Nat.mul_le_mul h2 (by omega)
    have e3 : IntKind.i64.wrap ((sep.size : Int) * ((m + 1 : Nat) : Int)) = ((sep.size * (m + 1) : Nat) : Int) := by
      rw [← Int.natCast_mul]
      generalize sep.size * (m + 1) = z at *
      simp [IntKind.wrap, IntKind.bits, IntKind.signed]; omega
    have e4 : IntKind.i64.wrap (0 + ((sep.size * (m + 1) : Nat) : Int)) = ((sep.size * (m + 1) : Nat) : Int) := by
      generalize sep.size * (m + 1) = z at *
      simp [IntKind.wrap, IntKind.bits, IntKind.signed]; omega
    simp only [hlen, Run_bindO_some, binV_int, intBin_eql, e0, e1, decide_false, Run_condM_false, Run_bind, lenS, intBin_gtr, hpos, decide_true, Run_condM_true, intBin_sub, e2, hq, intBin_geq, hge, Run_ret, outK_norm, intBin_mul, e3, intBin_add, e4, getL_zero]
    obtain ⟨base, hbase⟩ : ∃ base, base = sep.size * (m + 1) := ⟨_, rfl⟩
    rw [← hbase] at hmul ⊢
    have hsum : ∀ i, ((xs.take i).map (·.size)).sum ≤ 140737488355328 := fun i => Nat.le_trans (sum_take_le xs i) hx
    refine Run_for xs.length (fun i l w' => l = [.int .i64 ((base + ((xs.take i).map (·.size)).sum : Nat) : Int), .int .i64 i] ∧ w' = w) ⟨by simp, rfl⟩ ?_ ?_
    · intro i l w' hi hI
      obtain ⟨hl1, hl2⟩ := hI
      subst hl1
      subst hl2
      have ei : xs[i]? = some xs[i] := List.getElem?_eq_getElem hi
      have et : xs.take (i + 1) = xs.take i ++ [xs[i]] := by rw [List.take_add_one, ei]; rfl
      have hxi : xs[i].size ≤ 140737488355328 := by have := hsum (i + 1); rw [et, List.map_append, List.sum_append, List.map_singleton, List.sum_singleton] at this; omega
      rw [et]
      generalize xs[i] = y at ei hxi
      have hs := hsum i
      obtain ⟨p, p1, p2⟩ := hv.rd1 (i := i) (y := .string y) (by simp [ei]) .i64
      have hi' : (i : Int) < ((m + 2 : Nat) : Int) := by omega
      have wi := wrap_succ' (n := i) (by omega)
      rw [List.map_append, List.sum_append, List.map_singleton, List.sum_singleton]
      generalize ((xs.take i).map (·.size)).sum = S at *
      have w1 : IntKind.i64.wrap (9223372036854775807 - ((base + S : Nat) : Int)) = 9223372036854775807 - ((base + S : Nat) : Int) := by simp [IntKind.wrap, IntKind.bits, IntKind.signed]; omega
      have w2 : IntKind.i64.wrap (((base + S : Nat) : Int) + (y.size : Int)) = ((base + (S + y.size) : Nat) : Int) := by simp [IntKind.wrap, IntKind.bits, IntKind.signed]; omega
      have hng : ¬ (y.size : Int) > 9223372036854775807 - ((base + S : Nat) : Int) := by omega
      simp only [getL_zero, getL_succ, binV_int, intBin_lss, hi', decide_true, Run_bindO_some, Run_condM_true, Run_bind, p1, Run_rdM, p2, Option.some.injEq, exists_eq_left', intBin_sub, w1, intBin_gtr, hng, decide_false, Run_condM_false, Run_ret, outK_norm, intBin_add, w2, wi]
      exact ⟨trivial, trivial⟩
    · rintro l w' ⟨rfl, rfl⟩
      rw [List.take_length]
      have hs := hsum xs.length
      rw [List.take_length] at hs
      have hni : ¬ (xs.length : Int) < ((m + 2 : Nat) : Int) := by omega
      simp only [getL_zero, getL_succ, binV_int, intBin_lss, hni, decide_false, Run_bindO_some, Run_condM_false, Run_ret, outK_exit]
      obtain ⟨N, hN⟩ : ∃ N, N = base + (xs.map (·.size)).sum := ⟨_, rfl⟩
      rw [← hN]
      have hb1 : 1 ≤ base := by
        rw [hbase]
        exact Nat.mul_le_mul h1 (show 1 ≤ m + 1 by omega)
      simp only [show Nat.beq 1 1 = true from rfl, cond_true]
      have hm1 : xs.length - 1 = m + 1 := by omega
      have hx0 : xs[0]? = some x0 := by rw [← hxs]; rfl
      have hN1 : 1 ≤ N := by omega
      have hN2 : N ≤ 281474976710656 := by omega
      refine bldGrow_run hN1 hN2 fun x g cap w1 hB hle hxw hgw f1 => ?_
      obtain ⟨p, p1, p2⟩ := (hv.fr0 f1).rd1 (i := 0) (y := .string x0) (by simp [hx0]) .i64
      have p1' : idxA 1 v (.int .i64 0) = some p := p1
      simp only [p1', Run_bindO_some, Run_bind, Run_rdM, p2, Option.some.injEq, exists_eq_left']
      have hS : (xs.map (·.size)).sum = x0.size + ((x1 :: r).map (·.size)).sum := by rw [← hxs]; simp
      have hrl : (x1 :: r).length = m + 1 := by rw [← hxs] at hm; simpa using hm
      have hb0 : base = (m + 1) * sep.size := by rw [hbase]; exact Nat.mul_comm _ _
      have hacc := fun i => acc_len x0 sep (l := x1 :: r) (i := i)
      rw [hrl] at hacc
      have hd : xs.drop 1 = x1 :: r := by rw [← hxs]; rfl
      refine (bldWrite_run hB x0 (by simp only [List.length_nil]; omega)).mono ?_
      rintro _ w2 ⟨hB2, f2⟩
      have f2' : Fr (fun _ => False) w' w2 := f1.new f2 fun c hc => by omega
      obtain ⟨u, u1, u2, _⟩ := (hv.fr0 f2').drop (n := 1) (by rw [List.length_map]; omega) .i64
      have u1' : sliceV 1 v (some (.int .i64 1)) none = some u := u1
      have u2' : Sl 1 w2 u ((x1 :: r).map fun x => [.string x]) := by
        rw [← List.map_drop, hd] at u2
        exact u2
      have ul := u2'.lenL
      rw [List.length_map, hrl] at ul
      simp only [u1', ul, Run_bindO_some, Run_bind]
      have z1 := f1.size
      have z2 := f2.size
      refine Run_for (m + 1) (fun i l w3 => l = [.int .i64 i] ∧ Bld w3 x g cap (accL x0 sep ((x1 :: r).take i)) ∧ Fr (fun c => c = x ∨ c = g) w2 w3) ⟨rfl, by simpa [accL] using hB2, Fr.refl _ _⟩ ?_ ?_
      · rintro i l w3 hi ⟨rfl, hB3, f3⟩
        have hil : i < (x1 :: r).length := by omega
        have ei : (x1 :: r)[i]? = some (x1 :: r)[i] := List.getElem?_eq_getElem hil
        have et : (x1 :: r).take (i + 1) = (x1 :: r).take i ++ [(x1 :: r)[i]] := by rw [List.take_add_one, ei]; rfl
        have hai := hacc (i + 1)
        rw [et] at hai ⊢
        generalize (x1 :: r)[i] = y at *
        have f23 : Fr (fun _ => False) w' w3 := f2'.new f3 fun c hc => by omega
        obtain ⟨u', e1, e2, _⟩ := (hv.fr0 f23).drop (n := 1) (by rw [List.length_map]; omega) .i64
        have huu : u' = u := Option.some.inj (e1.symm.trans u1)
        subst huu
        rw [← List.map_drop, hd] at e2
        obtain ⟨p, p1, p2⟩ := e2.rd1 (i := i) (y := .string y) (by rw [List.getElem?_map, ei]; rfl) .i64
        have hi' : (i : Int) < ((m + 1 : Nat) : Int) := by omega
        have wi := wrap_succ' (n := i) (by omega)
        rw [acc_snoc] at hai ⊢
        rw [List.length_append, List.length_append] at hai
        have hss : sep.data.toList.length = sep.size := rfl
        have hys : y.data.toList.length = y.size := rfl
        simp only [getL_zero, getL_succ, binV_int, intBin_lss, hi', decide_true, Run_bindO_some, Run_condM_true, Run_bind, p1, Run_rdM, p2, Option.some.injEq, exists_eq_left']
        refine (bldWrite_run hB3 sep (by omega)).mono ?_
        rintro _ w4 ⟨hB4, f4⟩
        refine (bldWrite_run hB4 y (by rw [List.length_append]; omega)).mono ?_
        rintro _ w5 ⟨hB5, f5⟩
        simp only [intBin_add, wi, Run_bindO_some, Run_ret]
        refine ⟨trivial, ?_, (f3.trans f4 fun _ _ h => h).trans f5 fun _ _ h => h⟩
        rw [← List.append_assoc]
        exact hB5
      · rintro l w3 ⟨rfl, hB3, f3⟩
        have hni : ¬ ((m + 1 : Nat) : Int) < ((m + 1 : Nat) : Int) := by omega
        rw [List.take_of_length_le (by omega)] at hB3
        have f23 : Fr (fun _ => False) w' w3 := f2'.new f3 fun c hc => by omega
        simp only [getL_zero, getL_succ, binV_int, intBin_lss, hni, decide_false, Run_bindO_some, Run_condM_false, Run_ret, outK_exit, show Nat.beq 3 3 = true from rfl, cond_true, Run_bind]
        have hfull := acc_full x0 sep (x1 :: r)
        rw [hrl] at hfull
        have hne : accL x0 sep (x1 :: r) ≠ [] := fun he => by
          rw [he, List.length_nil] at hfull
          omega
        refine (bldString_run hB3 hne (by omega)).mono ?_
        rintro _ w4 ⟨rfl, f4⟩
        refine ⟨?_, f23.new f4 fun c hc => by omega⟩
        rw [← hxs]
        rfl
theorem join_run {w : World} {v : Value} {xs : List ByteArray} {sep : ByteArray} (hv : Sl 1 w v (xs.map fun x => [.string x])) (h1 : 1 ≤ sep.size) (h2 : sep.size ≤ 1024) (hx : ∀ x ∈ xs, x.size ≤ 4294967296) (hl : xs.length ≤ 4096) :
    Run (F.strings_Join v (.string sep)) w fun r w' => r = .string ⟨(joinL xs sep).toArray⟩ ∧ Fr (fun _ => False) w w' :=
  join2_run hv h1 h2 (by have := bldSum_all hx; omega) (by omega)
end Go.Proofs.YthlpfhjcdedhgaaDoor
