/-
  Layer 1 (disk), part A: names and paths; the keys of the entries.
-/
import Derived.Test.YtojnickeblbgoaaGreatDoorGZ
import Derived.Test.YtojnickeblbgoaaGreatDoorLiftN
import Derived.Test.YtojnickeblbgoaaGreatDoorLiftU
import Derived.Test.YtojnickeblbgoaaGreatDoorBld
namespace Go.Proofs.YtojnickeblbgoaaGreatDoor
open Go.Lift
set_option linter.unusedSimpArgs false
set_option maxHeartbeats 2000000

def New (w w' : World) (v : Value) : Prop := ∀ b, inB v b → w.heap.size ≤ b ∧ b < w'.heap.size
theorem wrap_succ {n : Nat} (h : n + 1 < 9223372036854775808) : IntKind.i64.wrap ((n : Int) + 1) = ((n + 1 : Nat) : Int) := by simp [IntKind.wrap, IntKind.bits, IntKind.signed]; omega
theorem wrap_int {n : Int} (h1 : -9223372036854775808 ≤ n) (h2 : n ≤ 9223372036854775807) : IntKind.i64.wrap n = n := by simp [IntKind.wrap, IntKind.bits, IntKind.signed]; omega
theorem ba_list (a : ByteArray) : a.toList = a.data.toList := ByteArray.toList_eq a
theorem ba_ext {a b : ByteArray} (h : a.data.toList = b.data.toList) : a = b := by
  rcases a with ⟨⟨a⟩⟩
  rcases b with ⟨⟨b⟩⟩
  simp at h
  subst h
  rfl
theorem ba_eq (a b : ByteArray) : (a.toList == b.toList) = decide (a = b) := by
  rw [ba_list, ba_list]
  by_cases h : a = b
  · subst h; simp
  · rw [decide_eq_false h]
    rw [beq_eq_false_iff_ne]
    exact fun h' => h (ba_ext h')

/- Names. -/
def okB (c : Nat) : Bool := (decide (97 ≤ c) && decide (c ≤ 122)) || (decide (48 ≤ c) && decide (c ≤ 57)) || c == 45 || c == 95 || c == 46
def E0 : ByteArray := ByteArray.mk #[]
def dotS : ByteArray := ByteArray.mk #[46]
def dotsS : ByteArray := ByteArray.mk #[46, 46]
def nameF (s : ByteArray) : Bool := !(decide (s = E0)) && decide (s.size ≤ 40) && !(decide (s = dotS)) && !(decide (s = dotsS)) && s.data.toList.all fun c => okB c.toNat
theorem nameOK_run (w : World) (s : ByteArray) : Run (F.disk_nameOK (.string s)) w fun r w' => r = .bool (nameF s) ∧ Fr (fun _ => False) w w' := by
  unfold F.disk_nameOK
  have e1 : ByteArray.mk #[] = E0 := rfl
  have e2 : ByteArray.mk #[46] = dotS := rfl
  have e3 : ByteArray.mk #[46, 46] = dotsS := rfl
  rw [e1, e2, e3]
  by_cases h1 : s = E0
  · have : nameF s = false := by simp [nameF, h1]
    simp [h1, ba_eq]
    rw [h1] at this
    exact ⟨this.symm, Fr.refl _ _⟩
  by_cases h2 : (40 : Int) < s.size
  · have : nameF s = false := by
      have : ¬ s.size ≤ 40 := by omega
      simp [nameF, this]
    simp [h1, h2, ba_eq, this, Fr.refl]
  by_cases h3 : s = dotS
  · have : nameF s = false := by simp [nameF, h3]
    have h4 : ¬ dotS = E0 := fun h => h1 (h3.trans h)
    subst h3
    simp [h4, h2, ba_eq, this, Fr.refl]
  by_cases h4 : s = dotsS
  · have : nameF s = false := by simp [nameF, h4]
    have h5 : ¬ dotsS = E0 := fun h => h1 (h4.trans h)
    have h6 : ¬ dotsS = dotS := fun h => h3 (h4.trans h)
    subst h4
    simp [h5, h6, h2, ba_eq, this, Fr.refl]
  simp [h1, h2, h3, h4, ba_eq]
  have h40 : s.size ≤ 40 := by omega
  refine Run_sbM fun r w' hr fr _ => ?_
  have hlen := hr.1.lenL
  have hsz : s.data.toList.length = s.size := rfl
  simp [hlen]
  refine Run_for s.size (fun i l w'' => l = [.int .i64 i] ∧ w'' = w' ∧ ∀ j (c : UInt8), j < i → s.data[j]? = some c → okB c.toNat = true) ⟨rfl, rfl, fun j c hj => absurd hj (Nat.not_lt_zero _)⟩ ?_ ?_
  · rintro i l w'' hi ⟨rfl, rfl, ih⟩
    have hc : s.data[i]? = some (s.data[i]'hi) := Array.getElem?_eq_getElem hi
    generalize s.data[i]'hi = c at hc
    obtain ⟨p, e1, e2⟩ := hr.1.rd1 (i := i) (y := .int .u8 c.toNat) (by simp [hc]) .i64
    have hw := wrap_succ (n := i) (by omega)
    have hi' : (i : Int) < s.size := by omega
    simp [hi, hi', e1, e2, hw]
    have step : okB c.toNat = true → ∀ (j : Nat) (c : UInt8), j < i + 1 → s.data[j]? = some c → okB c.toNat = true := by
      intro h j c' hj hc'
      by_cases hji : j < i
      · exact ih j c' hji hc'
      · obtain rfl : j = i := by omega
        rw [hc] at hc'; cases hc'
        exact h
    have bad : okB c.toNat = false → nameF s = false := fun h => by
      have : s.data.toList.all (fun c => okB c.toNat) = false := by
        rw [List.all_eq_false]
        exact ⟨c, by simpa using Array.mem_of_getElem? hc, by simp [h]⟩
      simp only [nameF, this, Bool.and_false]
    repeat' ((first | refine Run_guard (fun h => ?_) (fun h => ?_) | refine Run_cond (fun h => ?_) (fun h => ?_)) <;> have h' := h <;> simp only [decide_eq_true_eq, decide_eq_false_iff_not, beq_iff_eq, beq_eq_false_iff_ne, ne_eq, Bool.not_eq_true', Bool.not_eq_false'] at h' <;> simp [*])
    all_goals try first
      | exact bad (by simp [okB]; omega)
      | exact step (by simp [okB]; omega)
      | (exfalso; omega)
  · rintro l w'' ⟨rfl, rfl, ih⟩
    have hall : s.data.toList.all (fun c => okB c.toNat) = true := by
      rw [List.all_eq_true]
      intro c hc
      obtain ⟨j, hj⟩ := Array.getElem?_of_mem (show c ∈ s.data by simpa using hc)
      exact ih j c (Array.getElem?_eq_some_iff.1 hj).1 hj
    have : nameF s = true := by simp only [nameF, hall]; simp [h1, h3, h4, h40]
    simp [this]
    exact fr

/- Paths. -/
def slash : ByteArray := ByteArray.mk #[47]
def partsF (s : ByteArray) : List ByteArray := Lib.splitB slash 0 (Lib.countB s slash) s
def parseF (s : ByteArray) : Option (List ByteArray) := if s = E0 then some [] else if 8 ≤ Lib.countByte s.data.toList 47 then none else if (partsF s).all nameF then some (partsF s) else none
theorem parse_run {w : World} {m : Int} (s : ByteArray) (hs : s.size < 4294967281) (hm : bk w 0 = some [.int .i64 m]) :
    Run (F.disk_parse (.string s)) w fun r w' => ∃ v, r = .tuple #[v, .bool (parseF s).isSome] ∧ Fr (fun _ => False) w w' ∧ ∀ names, parseF s = some names → Sl 1 w' v (names.map fun x => [.string x]) ∧ New w w' v := by
  unfold F.disk_parse
  have e1 : ByteArray.mk #[] = E0 := rfl
  rw [e1]
  by_cases h1 : s = E0
  · subst h1
    have : parseF E0 = some [] := by simp [parseF]
    simp [ba_eq, this]
    exact ⟨Fr.refl _ _, Sl.nil _ _, fun c hc => hc.elim⟩
  simp only [binV_str, strBin_eql, ba_eq, h1, decide_false, Run_bindO_some, Run_condM_false, Run_bind]
  have hcount : Run (F.strings_Count (.string s) (.string (ByteArray.mk #[47]))) w fun r w' => r = .int .i64 (Lib.countByte s.data.toList 47 : Nat) ∧ w' = w := ⟨_, _, rfl, rfl, rfl⟩
  refine hcount.mono ?_
  rintro _ w0 ⟨rfl, hw0⟩
  rw [hw0]
  clear hw0 w0
  by_cases h2 : 8 ≤ Lib.countByte s.data.toList 47
  · have : parseF s = none := by simp [parseF, h1, h2]
    have h2' : (8 : Int) ≤ (Lib.countByte s.data.toList 47 : Nat) := by omega
    simp [h2', this, Fr.refl]
  have h2' : ¬ ((Lib.countByte s.data.toList 47 : Nat) : Int) ≥ 8 := by omega
  simp only [binV_int, intBin_geq, h2', decide_false, Run_bindO_some, Run_condM_false, Run_bind]
  have hsl : ByteArray.mk #[47] = slash := rfl
  rw [hsl]
  have hcell : w.cell? ⟨0, 0, none⟩ = some (.int .i64 m) := by
    obtain ⟨c, e, k, hb, hl⟩ := bk_cells hm
    unfold World.cell?
    rw [hb]
    have : c.toList = [.int .i64 m] := hl.symm ▸ rfl
    simp
    rw [← Array.getElem?_toList, this]
    rfl
  have h47 : (1 : Nat) ≤ slash.size := by decide
  have hlen : (partsF s).length = Lib.countB s slash + 1 := Lib.splitB_all slash h47 0 _ s rfl
  have hle := Lib.countB_le slash h47 s.size s (Nat.le_refl _)
  have hsplit : Run (F.strings_Split (.string s) (.string slash)) w fun r w' => r = .slice (some ⟨w.heap.size, 0, none⟩) (Lib.countB s slash + 1) (Lib.countB s slash + 1) ∧ w' = w.alloc (.cells ((partsF s).map Value.string).toArray 9) := by
    refine ⟨_, _, ?_, rfl, rfl⟩
    unfold F.strings_Split
    simp only
    rw [if_pos ⟨hs, h47, m, hcell⟩]
    rfl
  refine hsplit.mono ?_
  rintro _ w1 ⟨rfl, hw1⟩
  have f1 : Fr (fun _ => False) w w1 := by rw [hw1]; exact (Fr.refl _ _).alloc _
  have hv : Sl 1 w1 (.slice (some ⟨w.heap.size, 0, none⟩) (Lib.countB s slash + 1) (Lib.countB s slash + 1)) ((partsF s).map fun x => [.string x]) := by
    refine ⟨by simp, some ⟨w.heap.size, 0, none⟩, Lib.countB s slash + 1, by rw [List.length_map, hlen], by rw [List.length_map, hlen]; exact Nat.le_refl _, .inr ⟨w.heap.size, 0, (partsF s).map Value.string, rfl, ?_, by simp [hlen], ?_⟩⟩
    · rw [hw1]
      have := bk_alloc_at (w := w) rfl ((partsF s).map Value.string).toArray 9
      simpa using this
    · have : ∀ l : List ByteArray, (l.map fun x => [Value.string x]).flatten = l.map Value.string := by
        intro l
        induction l with
        | nil => rfl
        | cons x l ih => simp [ih]
      rw [this, List.drop_zero, List.length_map, Nat.mul_one, List.take_of_length_le (by simp)]
  have hnew : New w w1 (.slice (some ⟨w.heap.size, 0, none⟩) (Lib.countB s slash + 1) (Lib.countB s slash + 1)) := by
    intro b hb
    simp only [inB_slice] at hb
    subst hb
    rw [hw1]
    simp
  clear hw1 hsplit
  generalize Value.slice (some ⟨w.heap.size, 0, none⟩) (Lib.countB s slash + 1) (Lib.countB s slash + 1) = v at hv hnew
  have hvl := hv.lenL
  rw [List.length_map] at hvl
  simp only [hvl, Run_bindO_some, Run_bind]
  refine Run_for (partsF s).length (fun i l w' => l = [.int .i64 i] ∧ Fr (fun _ => False) w1 w' ∧ ∀ j x, j < i → (partsF s)[j]? = some x → nameF x = true) ⟨rfl, Fr.refl _ _, fun j x hj => absurd hj (Nat.not_lt_zero _)⟩ ?_ ?_
  · rintro i l w2 hi ⟨rfl, f2, ih⟩
    have ei : (partsF s)[i]? = some (partsF s)[i] := List.getElem?_eq_getElem hi
    generalize (partsF s)[i] = x at ei
    obtain ⟨p, p1, p2⟩ := (hv.fr0 f2).rd1 (i := i) (y := .string x) (by simp [ei]) .i64
    have wi := wrap_succ (n := i) (by omega)
    have hi' : (i : Int) < (partsF s).length := by omega
    simp [hi, hi', p1, p2]
    refine (nameOK_run w2 x).mono ?_
    rintro _ w3 ⟨rfl, f3⟩
    have f13 : Fr (fun _ => False) w1 w3 := f2.trans f3 fun _ _ => id
    cases hx : nameF x with
    | false =>
      have : parseF s = none := by
        have : (partsF s).all nameF = false := by
          rw [List.all_eq_false]
          exact ⟨x, List.mem_of_getElem? ei, by simp [hx]⟩
        simp [parseF, h1, h2, this]
      simp [this]
      exact f1.trans f13 fun _ _ => id
    | true =>
      simp [wi]
      refine ⟨f13, fun j y hj hy => ?_⟩
      by_cases hji : j < i
      · exact ih j y hji hy
      · obtain rfl : j = i := by omega
        rw [ei] at hy; cases hy
        exact hx
  · rintro l w2 ⟨rfl, f2, ih⟩
    have hall : (partsF s).all nameF = true := by
      rw [List.all_eq_true]
      intro x hx
      obtain ⟨j, hj⟩ := List.getElem?_of_mem hx
      exact ih j x (List.getElem?_eq_some_iff.1 hj).1 hj
    have : parseF s = some (partsF s) := by simp only [parseF, h1, if_false, h2, hall, if_true]
    simp [this]
    exact ⟨f1.trans f2 fun _ _ => id, hv.fr0 f2, fun b hb => ⟨(hnew b hb).1, Nat.lt_of_lt_of_le (hnew b hb).2 f2.size⟩⟩

/- The keys. -/
abbrev Slt := Int × ByteArray
def slv (s : Slt) : Value := .agg #[.int .i64 s.1, .string s.2]
def idv (n : Int) : Value := .int .i64 n
abbrev shS : EqSh := EqSh.offs [(EqK.int, 0), (EqK.str, 1)]
theorem slv_ok (a : Int) (s : ByteArray) : keyOK Tryz.prog 83 (.agg #[.int .i64 a, .string s]) = true := by kernel_rfl
theorem keyS : KeyOk Tryz.prog 83 shS slv where
  eq := fun a b => by
    obtain ⟨a1, a2⟩ := a
    obtain ⟨b1, b2⟩ := b
    simp [slv, ba_eq]
  ok := fun a => slv_ok a.1 a.2
  bits := fun a => by simp [slv, Instr.sameBits, ba_beq]
end Go.Proofs.YtojnickeblbgoaaGreatDoor

/-
  Layer 1 (disk), part B: a disk as plain data, and in memory; an act; a change applied.
-/
namespace Go.Proofs.YtojnickeblbgoaaGreatDoor
open Go.Lift
set_option linter.unusedSimpArgs false
set_option maxHeartbeats 2000000

abbrev Ptr (b : Nat) : Value := .pointer (some ⟨b, 0, none⟩)
structure Nd where
  kind : Int
  seen : ByteArray
  kept : ByteArray
structure Chg where
  what : Int
  node : Int
  data : ByteArray
  size : Int
  src : ByteArray
  dst : ByteArray
  target : Int
structure Dk where
  cap : Int
  acts : Int
  reads : Int
  armed : Bool
  left : Int
  down : Bool
  nodes : List Nd
  seen : Slt → Option Int
  kept : Slt → Option Int
  pending : List Chg
def Nd.cells (n : Nd) : List Value := [.int .i64 n.kind, .string n.seen, .string n.kept]
def Chg.cells (c : Chg) : List Value := [.int .i64 c.what, .int .i64 c.node, .string c.data, .int .i64 c.size, .string c.src, .string c.dst, .int .i64 c.target]
def Chg.val (c : Chg) : Value := .agg c.cells.toArray
structure DV where
  nv : Value
  pv : Value
  bs : Nat
  bk : Nat
  ls : List (Slt × Int)
  lk : List (Slt × Int)
def Dk.cells (d : Dk) (v : DV) : List Value := [.int .i64 d.cap, .int .i64 d.acts, .int .i64 d.reads, .bool d.armed, .int .i64 d.left, .bool d.down, v.nv, .map (some v.bs), .map (some v.bk), v.pv]
/-- A list of entries as a function. -/
def Eqm (l : List (Slt × Int)) (m : Slt → Option Int) : Prop := ∀ k, getK k l = m k
/-- A disk in memory: block b; what else is its own is numbered. -/
structure DA (w : World) (b : Nat) (d : Dk) (v : DV) (tag : Nat → Nat) : Prop where
  blk : Go.Lift.bk w b = some (d.cells v)
  wr : Go.Lift.wr w b = true
  nodes : SlW 3 w v.nv (d.nodes.map Nd.cells)
  seen : MapAt slv idv w v.bs v.ls
  seenE : Eqm v.ls d.seen
  kept : MapAt slv idv w v.bk v.lk
  keptE : Eqm v.lk d.kept
  pend : SlW 7 w v.pv (d.pending.map Chg.cells)
  tb : tag b = 1
  ts : tag v.bs = 2
  tk : tag v.bk = 3
  tn : ∀ c, inB v.nv c → tag c = 4
  tp : ∀ c, inB v.pv c → tag c = 5
  t0 : tag 0 = 0
  ml : ∃ m : Int, Go.Lift.bk w 0 = some [.int .i64 m]
  bound : ∀ c, tag c ≠ 0 → c < w.heap.size

section
variable {w w' : World} {b : Nat} {d : Dk} {v : DV} {tag : Nat → Nat}
theorem DA.fr {F : Nat → Prop} (h : DA w b d v tag) (f : Fr F w w') (hF : ∀ c, F c → tag c = 0 ∧ c ≠ 0) : DA w' b d v tag := by
  have s := f.size
  obtain ⟨m, hm⟩ := h.ml
  have nb : ∀ c, tag c ≠ 0 → ¬ F c := fun c hc hf => hc (hF c hf).1
  have b1 : ¬ F b := nb b (by rw [h.tb]; decide)
  exact ⟨f.bk_some h.blk b1, by rw [f.wr (bk_lt h.blk) b1]; exact h.wr, h.nodes.fr f fun c hc => nb c (by rw [h.tn c hc]; decide), h.seen.fr f (nb _ (by rw [h.ts]; decide)), h.seenE, h.kept.fr f (nb _ (by rw [h.tk]; decide)), h.keptE,
    h.pend.fr f fun c hc => nb c (by rw [h.tp c hc]; decide), h.tb, h.ts, h.tk, h.tn, h.tp, h.t0, ⟨m, f.bk_some hm fun hf => (hF 0 hf).2 rfl⟩, fun c hc => Nat.lt_of_lt_of_le (h.bound c hc) s⟩
theorem DA.fr0 (h : DA w b d v tag) (f : Fr (fun _ => False) w w') : DA w' b d v tag := h.fr f fun _ h => h.elim
/-- A field of its own block is written. -/
theorem DA.put (h : DA w b d v tag) {i : Nat} {x : Value} {d' : Dk} (hc : (d.cells v).set i x = d'.cells v) (h1 : d'.nodes = d.nodes) (h2 : d'.seen = d.seen) (h3 : d'.kept = d.kept) (h4 : d'.pending = d.pending) : DA (sto w b i [x]) b d' v tag := by
  have f : Fr (fun c => c = b) w (sto w b i [x]) := (Fr.refl (fun c => c = b) w).sto (.inl rfl) _ _
  have nb : ∀ c, tag c ≠ 1 → ¬ c = b := fun c hc he => hc (by rw [he]; exact h.tb)
  obtain ⟨m, hm⟩ := h.ml
  refine ⟨?_, by rw [wr_sto]; exact h.wr, ?_, h.seen.fr f (nb _ (by rw [h.ts]; decide)), by rw [h2]; exact h.seenE, h.kept.fr f (nb _ (by rw [h.tk]; decide)), by rw [h3]; exact h.keptE, ?_, h.tb, h.ts, h.tk, h.tn, h.tp, h.t0, ⟨m, f.bk_some hm (nb 0 (by rw [h.t0]; decide))⟩, fun c hc => by rw [size_sto]; exact h.bound c hc⟩
  · rw [bk_sto_eq, h.blk]
    simp [hc]
  · rw [h1]; exact h.nodes.fr f fun c hc => nb c (by rw [h.tn c hc]; decide)
  · rw [h4]; exact h.pend.fr f fun c hc => nb c (by rw [h.tp c hc]; decide)

def Dk.actF (d : Dk) : Int × Dk := if d.armed then if d.left = 0 then (10, { d with down := true }) else (0, { d with left := IntKind.i64.wrap (d.left - 1), acts := IntKind.i64.wrap (d.acts + 1) }) else (0, { d with acts := IntKind.i64.wrap (d.acts + 1) })
theorem actF_same (d : Dk) : d.actF.2.nodes = d.nodes ∧ d.actF.2.seen = d.seen ∧ d.actF.2.kept = d.kept ∧ d.actF.2.pending = d.pending := by
  unfold Dk.actF
  split
  · split <;> exact ⟨rfl, rfl, rfl, rfl⟩
  · exact ⟨rfl, rfl, rfl, rfl⟩
theorem ready_run (h : DA w b d v tag) {Q : Value → World → Prop} (q : Q (.int .i64 (if d.down then 10 else 0)) w) : Run (F.disk_Disk_ready (Ptr b)) w Q := by
  unfold F.disk_Disk_ready
  have hb := h.blk
  cases hd : d.down
  · rw [hd] at q
    simpa [hb, Dk.cells, hd] using q
  · rw [hd] at q
    simpa [hb, Dk.cells, hd] using q
theorem act_run (h : DA w b d v tag) : Run (F.disk_Disk_act (Ptr b)) w fun r w' => r = .int .i64 d.actF.1 ∧ DA w' b d.actF.2 v tag ∧ Fr (fun c => c = b) w w' := by
  unfold F.disk_Disk_act
  have hb := h.blk
  have hw := h.wr
  cases ha : d.armed
  · have e : d.actF = (0, { d with acts := IntKind.i64.wrap (d.acts + 1) }) := by simp [Dk.actF, ha]
    simp [hb, hw, Dk.cells, ha, e]
    exact ⟨h.put (by simp [Dk.cells, ha]) rfl rfl rfl rfl, (Fr.refl (fun c => c = b) w).sto (.inl rfl) _ _⟩
  · by_cases hl : d.left = 0
    · have e : d.actF = (10, { d with down := true }) := by simp [Dk.actF, ha, hl]
      simp [hb, hw, Dk.cells, ha, hl, e]
      exact ⟨h.put (by simp [Dk.cells, ha]; exact hl) rfl rfl rfl rfl, (Fr.refl (fun c => c = b) w).sto (.inl rfl) _ _⟩
    · have e : d.actF = (0, { d with left := IntKind.i64.wrap (d.left - 1), acts := IntKind.i64.wrap (d.acts + 1) }) := by simp [Dk.actF, ha, hl]
      have h1 : DA (sto w b 4 [.int .i64 (IntKind.i64.wrap (d.left - 1))]) b { d with left := IntKind.i64.wrap (d.left - 1) } v tag := h.put rfl rfl rfl rfl rfl
      simp [hb, hw, Dk.cells, ha, hl, e]
      exact ⟨h1.put (by simp [Dk.cells, ha]) rfl rfl rfl rfl, ((Fr.refl (fun c => c = b) w).sto (.inl rfl) _ _).sto (.inl rfl) _ _⟩

def fput (m : Slt → Option Int) (k : Slt) (v : Int) : Slt → Option Int := fun x => if x = k then some v else m x
def fdel (m : Slt → Option Int) (k : Slt) : Slt → Option Int := fun x => if x = k then none else m x
def applyF (c : Chg) (data : ByteArray) (m : Slt → Option Int) : ByteArray × (Slt → Option Int) :=
  if c.what = 0 then (data ++ c.data, m)
  else if c.what = 1 then (data.extract 0 c.size.toNat, m)
  else if c.what = 2 then (data, fput m (c.node, c.src) c.target)
  else if c.what = 3 then (data, fdel m (c.node, c.src))
  else if c.what = 4 then (data, fput (fdel m (c.node, c.src)) (c.node, c.dst) ((m (c.node, c.src)).getD 0))
  else (data, m)
def Chg.fits (c : Chg) (data : ByteArray) : Prop := (c.what = 0 → data.size + c.data.size ≤ 4611686018427387904) ∧ (c.what = 1 → 0 ≤ c.size ∧ c.size ≤ data.size)
theorem apply_run {bm : Nat} {l : List (Slt × Int)} {m : Slt → Option Int} {data : ByteArray} {c : Chg} (hm : MapAt slv idv w bm l) (hl : Eqm l m) (hf : c.fits data) :
    Run (F.disk_apply c.val (.string data) (.map (some bm))) w fun r w' => r = .string (applyF c data m).1 ∧ (∃ l', MapAt slv idv w' bm l' ∧ Eqm l' (applyF c data m).2) ∧ Fr (fun c => c = bm) w w' := by
  unfold F.disk_apply
  simp only [Run_bind]
  refine Run_new fun e w1 he _ f1 hele => ?_
  have he1 : bk w1 e = some c.cells := he
  have hm1 := hm.fr f1 id
  have g1 : Fr (fun c => c = bm) w w1 := f1.mono fun _ h => h.elim
  have hlt := hm.lt
  have heb : e ≠ bm := by omega
  by_cases k0 : c.what = 0
  · have hs := hf.1 k0
    have hmax : IntKind.i64.max = 9223372036854775807 := by decide
    have hadd : strBin .add data c.data = some (.string (data ++ c.data)) := by
      simp only [strBin]
      rw [if_neg (by rw [hmax]; omega)]
    simp [he1, Chg.cells, k0, hadd, applyF]
    exact ⟨⟨l, hm1, hl⟩, g1⟩
  by_cases k1 : c.what = 1
  · obtain ⟨h1, h2⟩ := hf.2 k1
    obtain ⟨n, hn⟩ : ∃ n : Nat, c.size = n := ⟨c.size.toNat, by omega⟩
    have hsl : sliceS (.string data) none (some (.int .i64 c.size)) = some (.string (data.extract 0 c.size.toNat)) := by
      rw [hn]
      have : n ≤ data.size := by omega
      simp [sliceS, highV, lowV, boundV, this]
    simp [he1, Chg.cells, k0, k1, hsl, applyF]
    exact ⟨⟨l, hm1, hl⟩, g1⟩
  by_cases k2 : c.what = 2
  · simp [he1, Chg.cells, k0, k1, k2, buildV, fillV]
    refine Run_updM (kv := slv) (vv := idv) keyS hm1 (c.node, c.src) c.target fun w2 hm2 f2 _ => ?_
    simp [applyF, k0, k1, k2]
    exact ⟨⟨_, hm2, fun k => by rw [getK_putK]; simp only [fput, hl k]⟩, g1.trans f2 fun _ _ h => h⟩
  by_cases k3 : c.what = 3
  · simp [he1, Chg.cells, k0, k1, k2, k3, buildV, fillV]
    refine Run_delM (kv := slv) (vv := idv) keyS hm1 (c.node, c.src) fun w2 hm2 f2 _ => ?_
    simp [applyF, k0, k1, k2, k3]
    exact ⟨⟨_, hm2, fun k => by rw [getK_delK hm.nodup]; simp only [fdel, hl k]⟩, g1.trans f2 fun _ _ h => h⟩
  by_cases k4 : c.what = 4
  · have hlook := hm1.look keyS (c.node, c.src) (.int .i64 0) false
    simp [he1, Chg.cells, k0, k1, k2, k3, k4, buildV, fillV]
    refine ⟨_, hlook, ?_⟩
    refine Run_delM (kv := slv) (vv := idv) keyS hm1 (c.node, c.src) fun w2 hm2 f2 _ => ?_
    have he2 : bk w2 e = some c.cells := f2.bk_some he1 heb
    simp [he2, Chg.cells]
    have hv : ((getK (c.node, c.src) l).map idv).getD (.int .i64 0) = idv ((m (c.node, c.src)).getD 0) := by
      rw [hl (c.node, c.src)]
      cases m (c.node, c.src) <;> rfl
    simp [hv]
    refine Run_updM (kv := slv) (vv := idv) keyS hm2 (c.node, c.dst) ((m (c.node, c.src)).getD 0) fun w3 hm3 f3 _ => ?_
    simp [applyF, k0, k1, k2, k3, k4]
    exact ⟨⟨_, hm3, fun k => by rw [getK_putK, getK_delK hm.nodup]; simp only [fput, fdel, hl k]⟩, (g1.trans f2 fun _ _ h => h).trans f3 fun _ _ h => h⟩
  · simp [he1, Chg.cells, k0, k1, k2, k3, k4, applyF]
    exact ⟨⟨l, hm1, hl⟩, g1⟩
end
end Go.Proofs.YtojnickeblbgoaaGreatDoor

/-
  Layer 1 (disk), part C: a change done; a path walked.
-/
namespace Go.Proofs.YtojnickeblbgoaaGreatDoor
set_option linter.unusedVariables false
open Go.Lift
set_option linter.unusedSimpArgs false
set_option maxHeartbeats 2000000

/-- What a call on a disk did. -/
def DDid (w w' : World) (b : Nat) (tag : Nat → Nat) (d' : Dk) : Prop := Fr (fun c => tag c ≠ 0) w w' ∧ ∃ v' tag', DA w' b d' v' tag' ∧ ∀ c, tag' c ≠ 0 → tag c ≠ 0 ∨ w.heap.size ≤ c
section
variable {w w' w'' : World} {b : Nat} {d d' : Dk} {v : DV} {tag : Nat → Nat}
theorem DA.did (h : DA w' b d' v tag) (f : Fr (fun c => tag c ≠ 0) w w') : DDid w w' b tag d' := ⟨f, v, tag, h, fun _ h => .inl h⟩
theorem DDid.pre (f : Fr (fun _ => False) w w') (h : DDid w' w'' b tag d') : DDid w w'' b tag d' := by
  obtain ⟨f', v', tag', h1, h2⟩ := h
  have s := f.size
  exact ⟨(f.mono fun _ h => h.elim).trans f' fun _ _ h => h, v', tag', h1, fun c hc => (h2 c hc).imp id fun h => by omega⟩
theorem DDid.post (h : DDid w w' b tag d') (f : Fr (fun _ => False) w' w'') : DDid w w'' b tag d' := by
  obtain ⟨f', v', tag', h1, h2⟩ := h
  exact ⟨f'.trans f fun _ _ h => h.elim, v', tag', h1.fr0 f, h2⟩
theorem DDid.trans {tag' : Nat → Nat} {d'' : Dk} (hb : ∀ c, tag c ≠ 0 → c < w.heap.size) (f : Fr (fun c => tag c ≠ 0) w w') (ht : ∀ c, tag' c ≠ 0 → tag c ≠ 0 ∨ w.heap.size ≤ c) (h : DDid w' w'' b tag' d'') : DDid w w'' b tag d'' := by
  obtain ⟨f', v'', tag'', h1, h2⟩ := h
  have s := f.size
  exact ⟨f.trans f' fun c hc h => (ht c h).elim id fun h' => by omega, v'', tag'', h1, fun c hc => (h2 c hc).elim (ht c) fun h => .inr (by omega)⟩

/-- Another list of pending changes. -/
theorem DA.newPend (h : DA w b d v tag) (f0 : Fr (inB v.pv) w w') {r : Value} {l : List Chg} (hr : SlW 7 w' r (l.map Chg.cells)) (hin : ∀ c, inB r c → inB v.pv c ∨ (w.heap.size ≤ c ∧ c < w'.heap.size)) :
    Go.Lift.bk w' b = some (d.cells v) ∧ Go.Lift.wr w' b = true ∧ ∃ tag', DA (sto w' b 9 [r]) b { d with pending := l } { v with pv := r } tag' ∧ Fr (fun c => tag c ≠ 0) w (sto w' b 9 [r]) ∧ ∀ c, tag' c ≠ 0 → tag c ≠ 0 ∨ w.heap.size ≤ c := by
  classical
  have s := f0.size
  have told : ∀ c, inB v.pv c → tag c = 5 := h.tp
  have nv : ∀ c, tag c ≠ 5 → ¬ inB v.pv c := fun c hc hi => hc (told c hi)
  have hb := h.blk
  have hb' : Go.Lift.bk w' b = some (d.cells v) := f0.bk_some hb (nv b (by rw [h.tb]; decide))
  have hw' : Go.Lift.wr w' b = true := by rw [f0.wr (bk_lt hb) (nv b (by rw [h.tb]; decide))]; exact h.wr
  have f : Fr (fun c => inB v.pv c ∨ c = b) w (sto w' b 9 [r]) := by
    refine Fr.sto (b := b) (f0.mono fun c hc => ?_) (.inl ?_) _ _
    · exact Or.inl hc
    · exact Or.inr rfl
  have nb : ∀ c, tag c ≠ 1 → tag c ≠ 5 → ¬ (inB v.pv c ∨ c = b) := fun c h1 h4 hc => hc.elim (nv c h4) fun he => h1 (by rw [he]; exact h.tb)
  obtain ⟨m, hm⟩ := h.ml
  have hpos := bk_lt hm
  have nr : ∀ c, tag c ≠ 0 → tag c ≠ 5 → ¬ inB r c := fun c h0 h5 hi => by
    rcases hin c hi with h' | h'
    · exact nv c h5 h'
    · have := h.bound c h0; omega
  have hrb : ∀ c, inB r c → ¬ c = b := fun c hc he => nr b (by rw [h.tb]; decide) (by rw [h.tb]; decide) (he ▸ hc)
  have hr' := hr.fr ((Fr.refl (fun c => c = b) w').sto (.inl rfl) 9 [r]) hrb
  obtain ⟨tag', tpos, tneg, tboth⟩ : ∃ tag' : Nat → Nat, (∀ c, inB r c → tag' c = 5) ∧ (∀ c, tag c ≠ 0 → tag c ≠ 5 → tag' c = tag c) ∧ (∀ c, ¬ inB r c → tag' c = tag c) :=
    ⟨fun c => if inB r c then 5 else tag c, fun c hc => if_pos hc, fun c h0 h5 => if_neg (nr c h0 h5), fun c hc => if_neg hc⟩
  refine ⟨hb', hw', tag', ⟨?_, by rw [wr_sto]; exact hw', h.nodes.fr f fun c hc => nb c (by rw [h.tn c hc]; decide) (by rw [h.tn c hc]; decide), h.seen.fr f (nb _ (by rw [h.ts]; decide) (by rw [h.ts]; decide)), h.seenE, h.kept.fr f (nb _ (by rw [h.tk]; decide) (by rw [h.tk]; decide)), h.keptE, hr', ?_, ?_, ?_, fun c hc => by rw [tneg c (by rw [h.tn c hc]; decide) (by rw [h.tn c hc]; decide)]; exact h.tn c hc, fun c hc => tpos c hc, ?_, ⟨m, f.bk_some hm (nb 0 (by rw [h.t0]; decide) (by rw [h.t0]; decide))⟩, ?_⟩, f.mono ?_, ?_⟩
  · rw [bk_sto_eq, hb']
    simp [Dk.cells]
  · rw [tneg b (by rw [h.tb]; decide) (by rw [h.tb]; decide)]; exact h.tb
  · rw [tneg _ (by rw [h.ts]; decide) (by rw [h.ts]; decide)]; exact h.ts
  · rw [tneg _ (by rw [h.tk]; decide) (by rw [h.tk]; decide)]; exact h.tk
  · rw [tboth 0 fun hi => ?_]
    · exact h.t0
    · rcases hin 0 hi with h' | h'
      · have := told 0 h'; rw [h.t0] at this; cases this
      · omega
  · intro c hc
    rw [size_sto]
    by_cases hi : inB r c
    · rcases hin c hi with h' | h'
      · have := h.bound c (by rw [told c h']; decide); omega
      · exact h'.2
    · rw [tboth c hi] at hc
      have := h.bound c hc; omega
  · rintro c (hc | hc)
    · rw [told c hc]; decide
    · rw [hc, h.tb]; decide
  · intro c hc
    by_cases hi : inB r c
    · rcases hin c hi with h' | h'
      · exact .inl (by rw [told c h']; decide)
      · exact .inr h'.1
    · rw [tboth c hi] at hc; exact .inl hc
/-- Another list of pending changes (its memory may be older). -/
theorem DA.newPendG (h : DA w b d v tag) (f0 : Fr (inB v.pv) w w') {r : Value} {l : List Chg} (hr : SlW 7 w' r (l.map Chg.cells)) (hin : ∀ c, inB r c → inB v.pv c ∨ (tag c = 0 ∧ c < w'.heap.size ∧ c ≠ 0)) :
    Go.Lift.bk w' b = some (d.cells v) ∧ Go.Lift.wr w' b = true ∧ ∃ tag', DA (sto w' b 9 [r]) b { d with pending := l } { v with pv := r } tag' ∧ Fr (fun c => tag c ≠ 0) w (sto w' b 9 [r]) ∧ ∀ c, tag' c ≠ 0 → tag c ≠ 0 ∨ inB r c := by
  classical
  have s := f0.size
  have told : ∀ c, inB v.pv c → tag c = 5 := h.tp
  have nv : ∀ c, tag c ≠ 5 → ¬ inB v.pv c := fun c hc hi => hc (told c hi)
  have hb := h.blk
  have hb' : Go.Lift.bk w' b = some (d.cells v) := f0.bk_some hb (nv b (by rw [h.tb]; decide))
  have hw' : Go.Lift.wr w' b = true := by rw [f0.wr (bk_lt hb) (nv b (by rw [h.tb]; decide))]; exact h.wr
  have f : Fr (fun c => inB v.pv c ∨ c = b) w (sto w' b 9 [r]) := by
    refine Fr.sto (b := b) (f0.mono fun c hc => ?_) (.inl ?_) _ _
    · exact Or.inl hc
    · exact Or.inr rfl
  have nb : ∀ c, tag c ≠ 1 → tag c ≠ 5 → ¬ (inB v.pv c ∨ c = b) := fun c h1 h4 hc => hc.elim (nv c h4) fun he => h1 (by rw [he]; exact h.tb)
  obtain ⟨m, hm⟩ := h.ml
  have hpos := bk_lt hm
  have nr : ∀ c, tag c ≠ 0 → tag c ≠ 5 → ¬ inB r c := fun c h0 h5 hi => by
    rcases hin c hi with h' | h'
    · exact nv c h5 h'
    · exact h0 h'.1
  have hrb : ∀ c, inB r c → ¬ c = b := fun c hc he => nr b (by rw [h.tb]; decide) (by rw [h.tb]; decide) (he ▸ hc)
  have hr' := hr.fr ((Fr.refl (fun c => c = b) w').sto (.inl rfl) 9 [r]) hrb
  obtain ⟨tag', tpos, tneg, tboth⟩ : ∃ tag' : Nat → Nat, (∀ c, inB r c → tag' c = 5) ∧ (∀ c, tag c ≠ 0 → tag c ≠ 5 → tag' c = tag c) ∧ (∀ c, ¬ inB r c → tag' c = tag c) :=
    ⟨fun c => if inB r c then 5 else tag c, fun c hc => if_pos hc, fun c h0 h5 => if_neg (nr c h0 h5), fun c hc => if_neg hc⟩
  refine ⟨hb', hw', tag', ⟨?_, by rw [wr_sto]; exact hw', h.nodes.fr f fun c hc => nb c (by rw [h.tn c hc]; decide) (by rw [h.tn c hc]; decide), h.seen.fr f (nb _ (by rw [h.ts]; decide) (by rw [h.ts]; decide)), h.seenE, h.kept.fr f (nb _ (by rw [h.tk]; decide) (by rw [h.tk]; decide)), h.keptE, hr', ?_, ?_, ?_, fun c hc => by rw [tneg c (by rw [h.tn c hc]; decide) (by rw [h.tn c hc]; decide)]; exact h.tn c hc, fun c hc => tpos c hc, ?_, ⟨m, f.bk_some hm (nb 0 (by rw [h.t0]; decide) (by rw [h.t0]; decide))⟩, ?_⟩, f.mono ?_, ?_⟩
  · rw [bk_sto_eq, hb']
    simp [Dk.cells]
  · rw [tneg b (by rw [h.tb]; decide) (by rw [h.tb]; decide)]; exact h.tb
  · rw [tneg _ (by rw [h.ts]; decide) (by rw [h.ts]; decide)]; exact h.ts
  · rw [tneg _ (by rw [h.tk]; decide) (by rw [h.tk]; decide)]; exact h.tk
  · rw [tboth 0 fun hi => ?_]
    · exact h.t0
    · rcases hin 0 hi with h' | h'
      · have := told 0 h'; rw [h.t0] at this; cases this
      · exact h'.2.2 rfl
  · intro c hc
    rw [size_sto]
    by_cases hi : inB r c
    · rcases hin c hi with h' | h'
      · have := h.bound c (by rw [told c h']; decide); omega
      · exact h'.2.1
    · rw [tboth c hi] at hc
      have := h.bound c hc; omega
  · rintro c (hc | hc)
    · rw [told c hc]; decide
    · rw [hc, h.tb]; decide
  · intro c hc
    by_cases hi : inB r c
    · exact .inr hi
    · rw [tboth c hi] at hc; exact .inl hc
/-- Another list of nodes. -/
theorem DA.newNodes (h : DA w b d v tag) (f0 : Fr (inB v.nv) w w') {r : Value} {l : List Nd} (hr : SlW 3 w' r (l.map Nd.cells)) (hin : ∀ c, inB r c → inB v.nv c ∨ (w.heap.size ≤ c ∧ c < w'.heap.size)) :
    Go.Lift.bk w' b = some (d.cells v) ∧ Go.Lift.wr w' b = true ∧ ∃ tag', DA (sto w' b 6 [r]) b { d with nodes := l } { v with nv := r } tag' ∧ Fr (fun c => tag c ≠ 0) w (sto w' b 6 [r]) ∧ ∀ c, tag' c ≠ 0 → tag c ≠ 0 ∨ w.heap.size ≤ c := by
  classical
  have s := f0.size
  have told : ∀ c, inB v.nv c → tag c = 4 := h.tn
  have nv : ∀ c, tag c ≠ 4 → ¬ inB v.nv c := fun c hc hi => hc (told c hi)
  have hb := h.blk
  have hb' : Go.Lift.bk w' b = some (d.cells v) := f0.bk_some hb (nv b (by rw [h.tb]; decide))
  have hw' : Go.Lift.wr w' b = true := by rw [f0.wr (bk_lt hb) (nv b (by rw [h.tb]; decide))]; exact h.wr
  have f : Fr (fun c => inB v.nv c ∨ c = b) w (sto w' b 6 [r]) := by
    refine Fr.sto (b := b) (f0.mono fun c hc => ?_) (.inl ?_) _ _
    · exact Or.inl hc
    · exact Or.inr rfl
  have nb : ∀ c, tag c ≠ 1 → tag c ≠ 4 → ¬ (inB v.nv c ∨ c = b) := fun c h1 h4 hc => hc.elim (nv c h4) fun he => h1 (by rw [he]; exact h.tb)
  obtain ⟨m, hm⟩ := h.ml
  have hpos := bk_lt hm
  have nr : ∀ c, tag c ≠ 0 → tag c ≠ 4 → ¬ inB r c := fun c h0 h5 hi => by
    rcases hin c hi with h' | h'
    · exact nv c h5 h'
    · have := h.bound c h0; omega
  have hrb : ∀ c, inB r c → ¬ c = b := fun c hc he => nr b (by rw [h.tb]; decide) (by rw [h.tb]; decide) (he ▸ hc)
  have hr' := hr.fr ((Fr.refl (fun c => c = b) w').sto (.inl rfl) 6 [r]) hrb
  obtain ⟨tag', tpos, tneg, tboth⟩ : ∃ tag' : Nat → Nat, (∀ c, inB r c → tag' c = 4) ∧ (∀ c, tag c ≠ 0 → tag c ≠ 4 → tag' c = tag c) ∧ (∀ c, ¬ inB r c → tag' c = tag c) :=
    ⟨fun c => if inB r c then 4 else tag c, fun c hc => if_pos hc, fun c h0 h5 => if_neg (nr c h0 h5), fun c hc => if_neg hc⟩
  refine ⟨hb', hw', tag', ⟨?_, by rw [wr_sto]; exact hw', hr', h.seen.fr f (nb _ (by rw [h.ts]; decide) (by rw [h.ts]; decide)), h.seenE, h.kept.fr f (nb _ (by rw [h.tk]; decide) (by rw [h.tk]; decide)), h.keptE, h.pend.fr f fun c hc => nb c (by rw [h.tp c hc]; decide) (by rw [h.tp c hc]; decide), ?_, ?_, ?_, fun c hc => tpos c hc, fun c hc => by rw [tneg c (by rw [h.tp c hc]; decide) (by rw [h.tp c hc]; decide)]; exact h.tp c hc, ?_, ⟨m, f.bk_some hm (nb 0 (by rw [h.t0]; decide) (by rw [h.t0]; decide))⟩, ?_⟩, f.mono ?_, ?_⟩
  · rw [bk_sto_eq, hb']
    simp [Dk.cells]
  · rw [tneg b (by rw [h.tb]; decide) (by rw [h.tb]; decide)]; exact h.tb
  · rw [tneg _ (by rw [h.ts]; decide) (by rw [h.ts]; decide)]; exact h.ts
  · rw [tneg _ (by rw [h.tk]; decide) (by rw [h.tk]; decide)]; exact h.tk
  · rw [tboth 0 fun hi => ?_]
    · exact h.t0
    · rcases hin 0 hi with h' | h'
      · have := told 0 h'; rw [h.t0] at this; cases this
      · omega
  · intro c hc
    rw [size_sto]
    by_cases hi : inB r c
    · rcases hin c hi with h' | h'
      · have := h.bound c (by rw [told c h']; decide); omega
      · exact h'.2
    · rw [tboth c hi] at hc
      have := h.bound c hc; omega
  · rintro c (hc | hc)
    · rw [told c hc]; decide
    · rw [hc, h.tb]; decide
  · intro c hc
    by_cases hi : inB r c
    · rcases hin c hi with h' | h'
      · exact .inl (by rw [told c h']; decide)
      · exact .inr h'.1
    · rw [tboth c hi] at hc; exact .inl hc
/-- A cell of a node is written. -/
theorem DA.setNode (h : DA w b d v tag) {i : Nat} {nd : Nd} (hi : d.nodes[i]? = some nd) :
    ∃ b0 o l, idxA 3 v.nv (.int .i64 i) = some (.pointer (some ⟨b0, o, none⟩)) ∧ tag b0 = 4 ∧ bk w b0 = some l ∧ l[o]? = some (.int .i64 nd.kind) ∧ l[o + 1]? = some (.string nd.seen) ∧ l[o + 2]? = some (.string nd.kept) ∧
      ∀ w1 d1 v1, DA w1 b d1 v1 tag → v1.nv = v.nv → d1.nodes = d.nodes →
        (∀ s, okAt w1 b0 (o + 1) 1 ∧ DA (sto w1 b0 (o + 1) [.string s]) b { d1 with nodes := d.nodes.set i { nd with seen := s } } v1 tag) ∧ (∀ s, okAt w1 b0 (o + 2) 1 ∧ DA (sto w1 b0 (o + 2) [.string s]) b { d1 with nodes := d.nodes.set i { nd with kept := s } } v1 tag) := by
  have he : (d.nodes.map Nd.cells)[i]? = some nd.cells := by simp [hi]
  obtain ⟨b0, o, l, i1, i2, i3, i4, i5⟩ := h.nodes.1.rd (by decide) he .i64
  have t4 := h.tn b0 i5
  refine ⟨b0, o, l, i1, t4, i2, take_get0 i4 (by decide), take_get (j := 1) i4 (by decide), take_get (j := 2) i4 (by decide), ?_⟩
  intro w1 d1 v1 h1 hv hd
  have he1 : (d1.nodes.map Nd.cells)[i]? = some nd.cells := by rw [hd]; exact he
  obtain ⟨b1, o1, j1, j2, j3, j4, j5⟩ := h1.nodes.put he1 .i64
  rw [hv, i1] at j1
  cases j1
  have key : ∀ (j : Nat) (s : ByteArray) (nd' : Nd), j < 3 → setL nd.cells j [.string s] = nd'.cells → okAt w1 b0 (o + j) 1 ∧ DA (sto w1 b0 (o + j) [.string s]) b { d1 with nodes := d.nodes.set i nd' } v1 tag := by
    intro j s nd' hj hset
    obtain ⟨q1, q2⟩ := j5 j [.string s] (by simp; omega)
    have f : Fr (fun c => c = b0) w1 (sto w1 b0 (o + j) [.string s]) := (Fr.refl (fun c => c = b0) w1).sto (.inl rfl) _ _
    have nb : ∀ c, tag c ≠ 4 → ¬ c = b0 := fun c hc he => hc (by rw [he]; exact t4)
    obtain ⟨m, hm⟩ := h1.ml
    refine ⟨q1, f.bk_some h1.blk (nb b (by rw [h1.tb]; decide)), by rw [wr_sto]; exact h1.wr, ?_, h1.seen.fr f (nb _ (by rw [h1.ts]; decide)), h1.seenE, h1.kept.fr f (nb _ (by rw [h1.tk]; decide)), h1.keptE, h1.pend.fr f fun c hc => nb c (by rw [h1.tp c hc]; decide), h1.tb, h1.ts, h1.tk, h1.tn, h1.tp, h1.t0, ⟨m, f.bk_some hm (nb 0 (by rw [h1.t0]; decide))⟩, fun c hc => by rw [size_sto]; exact h1.bound c hc⟩
    rw [hset, hd] at q2
    try simp only
    rw [List.map_set]
    exact q2
  exact ⟨fun s => key 1 s { nd with seen := s } (by decide) rfl, fun s => key 2 s { nd with kept := s } (by decide) rfl⟩

theorem DA.seenSet (h : DA w b d v tag) (f : Fr (fun c => c = v.bs) w w') {ls : List (Slt × Int)} {m : Slt → Option Int} (hm : MapAt slv idv w' v.bs ls) (he : Eqm ls m) : DA w' b { d with seen := m } { v with ls := ls } tag := by
  have nb : ∀ c, tag c ≠ 2 → ¬ c = v.bs := fun c hc he => hc (by rw [he]; exact h.ts)
  obtain ⟨n, hn⟩ := h.ml
  have s := f.size
  have hb := nb b (by rw [h.tb]; decide)
  exact ⟨f.bk_some h.blk hb, by rw [f.wr (bk_lt h.blk) hb]; exact h.wr, h.nodes.fr f fun c hc => nb c (by rw [h.tn c hc]; decide), hm, he, h.kept.fr f (nb _ (by rw [h.tk]; decide)), h.keptE, h.pend.fr f fun c hc => nb c (by rw [h.tp c hc]; decide), h.tb, h.ts, h.tk, h.tn, h.tp, h.t0, ⟨n, f.bk_some hn (nb 0 (by rw [h.t0]; decide))⟩, fun c hc => Nat.lt_of_lt_of_le (h.bound c hc) s⟩
theorem DA.keptSet (h : DA w b d v tag) (f : Fr (fun c => c = v.bk) w w') {ls : List (Slt × Int)} {m : Slt → Option Int} (hm : MapAt slv idv w' v.bk ls) (he : Eqm ls m) : DA w' b { d with kept := m } { v with lk := ls } tag := by
  have nb : ∀ c, tag c ≠ 3 → ¬ c = v.bk := fun c hc he => hc (by rw [he]; exact h.tk)
  obtain ⟨n, hn⟩ := h.ml
  have s := f.size
  have hb := nb b (by rw [h.tb]; decide)
  exact ⟨f.bk_some h.blk hb, by rw [f.wr (bk_lt h.blk) hb]; exact h.wr, h.nodes.fr f fun c hc => nb c (by rw [h.tn c hc]; decide), h.seen.fr f (nb _ (by rw [h.ts]; decide)), h.seenE, hm, he, h.pend.fr f fun c hc => nb c (by rw [h.tp c hc]; decide), h.tb, h.ts, h.tk, h.tn, h.tp, h.t0, ⟨n, f.bk_some hn (nb 0 (by rw [h.t0]; decide))⟩, fun c hc => Nat.lt_of_lt_of_le (h.bound c hc) s⟩
def doF (d : Dk) (c : Chg) (i : Nat) (nd : Nd) : Int × Dk := if d.actF.1 ≠ 0 then d.actF else (0, { d.actF.2 with nodes := d.nodes.set i { nd with seen := (applyF c nd.seen d.seen).1 }, seen := (applyF c nd.seen d.seen).2, pending := d.pending ++ [c] })
theorem Chg.all (c : Chg) : c.cells.all isCell = true := by simp [Chg.cells]
theorem do_run (h : DA w b d v tag) (c : Chg) {i : Nat} {nd : Nd} (hi : d.nodes[i]? = some nd) (hn : c.node = i) (hf : c.fits nd.seen) (hp : d.pending.length ≤ 16777216) :
    Run (F.disk_Disk_do (Ptr b) c.val) w fun r w' => r = .int .i64 (doF d c i nd).1 ∧ DDid w w' b tag (doF d c i nd).2 := by
  unfold F.disk_Disk_do
  simp only [Run_bind]
  refine Run_new fun x w1 hx _ f1 hxle => ?_
  have hx1 : bk w1 x = some c.cells := hx
  have h1 := h.fr0 f1
  refine (act_run h1).mono ?_
  rintro _ w2 ⟨rfl, h2, f2⟩
  obtain ⟨an, asn, ak, ap⟩ := actF_same d
  have tb := h.tb
  have hxb : x ≠ b := fun he => by
    have := h.bound b (by rw [tb]; decide)
    omega
  have f12 : Fr (fun c => tag c ≠ 0) w w2 := (f1.mono fun _ h => h.elim).trans f2 fun c _ hc => by rw [hc, tb]; decide
  have hx2 : bk w2 x = some c.cells := f2.bk_some hx1 hxb
  by_cases ha : d.actF.1 = 0
  · have hi2 : d.actF.2.nodes[i]? = some nd := by rw [an]; exact hi
    obtain ⟨b0, o, l, i1, t4, i2, l0, l1, l2, hset⟩ := h2.setNode hi2
    have hb2 := h2.blk
    have e7 : ∀ w3, bk w3 x = some c.cells → ldA 7 (Ptr x) w3 = some c.val := fun w3 h => by rw [ldA_bk h (by simp [Chg.cells])]; rfl
    have hx2d : bk w2.drew x = some c.cells := hx2
    have e7d := e7 w2.drew hx2d
    have hi2d : bk w2 b0 = some l := i2
    simp [-ldA_ptr, ha, hb2, Dk.cells, hx2, Chg.cells, hn, i1, e7 w2 hx2, hi2d, l1]
    have fd : Fr (fun _ => False) w2 w2.drew.drew := ((Fr.refl (fun _ => False) w2).drew).drew
    have h2d := h2.fr0 fd
    refine (apply_run (w := w2.drew.drew) (data := nd.seen) h2d.seen h2d.seenE hf).mono ?_
    rintro _ w3 ⟨rfl, ⟨ls', hm3, he3⟩, f3⟩
    rw [asn] at he3 ⊢
    obtain ⟨A, hA⟩ : ∃ A, A = applyF c nd.seen d.seen := ⟨_, rfl⟩
    rw [← hA] at he3 ⊢
    have h3 := h2d.seenSet f3 hm3 he3
    obtain ⟨k1, h4⟩ := (hset w3 _ _ h3 rfl rfl).1 A.1
    rw [show (Value.string A.1).cells = #[Value.string A.1] from rfl]
    refine ⟨rfl, by simp, k1.1, k1.2, ?_⟩
    rw [show (#[Value.string A.1] : Array Value).toList = [Value.string A.1] from rfl]
    have s1 := f1.size
    have s2 := f2.size
    have s3 := f3.size
    have hb0 : b0 < w.heap.size := h.bound b0 (by rw [t4]; decide)
    have hxs : x ≠ v.bs := fun he => by
      have := h.bound v.bs (by rw [h.ts]; decide)
      omega
    have hx3 : bk w3 x = some c.cells := f3.bk_some (w := w2.drew.drew) hx2 hxs
    have hx4 : bk (sto w3 b0 (o + 1) [.string A.1]) x = some c.cells := by rw [bk_sto_ne (by omega)]; exact hx3
    have f34 : Fr (fun c => c = b0) w3 (sto w3 b0 (o + 1) [.string A.1]) := (Fr.refl (fun c => c = b0) w3).sto (.inl rfl) _ _
    have z4 : (sto w3 b0 (o + 1) [.string A.1]).heap.size = w3.heap.size := size_sto _ _ _ _
    generalize sto w3 b0 (o + 1) [.string A.1] = w4 at *
    have hb4 := h4.blk
    have f04 : Fr (fun c => tag c ≠ 0) w w4 := ((f12.trans fd fun _ _ h => h.elim).trans f3 fun c _ hc => by rw [hc, h.ts]; decide).trans f34 fun c _ hc => by rw [hc, t4]; decide
    have fd4 : Fr (fun _ => False) w4 w4.drew := (Fr.refl (fun _ => False) w4).drew
    simp [-ldA_ptr, hb4, Dk.cells, e7 w4 hx4]
    refine Run_app1 (k := 7) (w := w4.drew) (by simp [Chg.val, Chg.cells]) (h4.fr0 fd4).pend (by decide) rfl (by decide) (by simpa [Chg.val] using c.all) (by simp only [List.length_map, ap]; omega) fun r w5 hr f5 hin w6 f6 => ?_
    have z5 : w4.drew.heap.size = w4.heap.size := rfl
    have s5 := f5.size
    have npv : ∀ c, inB v.pv c → tag c = 5 := h.tp
    have h5 : bk w5 b = some _ := f5.bk_some (w := w4.drew) hb4 fun hi => by have := npv b hi; rw [tb] at this; cases this
    have hw5 : wr w5 b = true := by
      rw [f5.wr (w := w4.drew) (bk_lt (w := w4.drew) hb4) fun hi => by have := npv b hi; rw [tb] at this; cases this]
      exact h4.wr
    have h6 : bk w6 b = some _ := f6.bk_some (w := w4.drew) hb4 id
    have hrc := hr.1.isCell
    have hr' : SlW 7 w5 r ((d.pending ++ [c]).map Chg.cells) := by
      rw [ap] at hr
      simpa [Chg.val] using hr
    obtain ⟨g1, g2, tag', g3, g4, g5⟩ := (h4.fr0 fd4).newPend f5 hr' hin
    rw [cells_isCell hrc]
    refine ⟨rfl, by simp [hrc], ⟨_, h5, by simp [Dk.cells]⟩, hw5, by rw [h6]; rfl, ?_⟩
    have e : doF d c i nd = (0, { d.actF.2 with nodes := d.nodes.set i { nd with seen := A.1 }, seen := A.2, pending := d.pending ++ [c] }) := by simp [doF, ha, hA]
    rw [e]
    exact ⟨rfl, (f04.trans fd4 fun _ _ h => h.elim).trans g4 fun _ _ h => h, _, tag', by rw [an] at g3; exact g3, fun x hx => (g5 x hx).imp id fun h => by have := f04.size; omega⟩
  · have hne : ¬ d.actF.1 = 0 := ha
    simp [hne]
    have e : doF d c i nd = d.actF := by simp [doF, hne]
    rw [e]
    exact ⟨rfl, h2.did f12⟩
end
end Go.Proofs.YtojnickeblbgoaaGreatDoor

/-
  Layer 1 (disk), part D: a path walked and found; the calls that look.
-/
namespace Go.Proofs.YtojnickeblbgoaaGreatDoor
open Go.Lift
set_option linter.unusedSimpArgs false
set_option maxHeartbeats 2000000

abbrev e0 : ByteArray := ByteArray.empty
def Dk.nd (d : Dk) (i : Int) : Nd := (d.nodes[i.toNat]?).getD ⟨0, e0, e0⟩
/-- Where a path leads: what is wrong, the place, the node. -/
abbrev Spot := Int × Slt × Int
def zspot (e : Int) : Spot := (e, (0, e0), 0)
def spotV (s : Spot) : Value := .agg #[.int .i64 s.2.1.1, .string s.2.1.2, .int .i64 s.2.2]
def Dk.walkGo (d : Dk) (a : Slt) (node : Int) : List ByteArray → Spot
  | [] => (0, a, node)
  | n :: rest => if node < 0 then zspot 12 else if (d.nd node).kind ≠ 1 then zspot 14 else
    if (d.seen (node, n)).getD (-1) < 0 ∧ rest ≠ [] then zspot 12 else d.walkGo (node, n) ((d.seen (node, n)).getD (-1)) rest
def Dk.walkF (d : Dk) (names : List ByteArray) : Spot := d.walkGo (-1, e0) 0 names
/-- Entries lead to nodes. -/
structure Good (d : Dk) : Prop where
  seen : ∀ s k, d.seen s = some k → k < d.nodes.length
  pos : 0 < d.nodes.length

section
variable {w w' w'' : World} {b : Nat} {d d' : Dk} {v : DV} {tag : Nat → Nat}
theorem build_slot (a : Int) (s : ByteArray) : buildV #[.int .i64 0, .string ByteArray.empty] [(0, 1, .int .i64 a), (1, 1, .string s)] = some (.agg #[.int .i64 a, .string s]) := by simp [buildV, fillV]
theorem build_m1 : buildV #[.int .i64 0, .string ByteArray.empty] [(0, 1, .int .i64 (-1))] = some (.agg #[.int .i64 (-1), .string ByteArray.empty]) := by simp [buildV, fillV]
theorem build_root : buildV #[.int .i64 0, .string ByteArray.empty, .int .i64 0] [(0, 2, .agg #[.int .i64 (-1), .string ByteArray.empty]), (2, 1, .int .i64 0)] = some (.agg #[.int .i64 (-1), .string ByteArray.empty, .int .i64 0]) := by simp [buildV, fillV]
theorem build_z : buildV #[.int .i64 0, .string ByteArray.empty, .int .i64 0] [] = some (.agg #[.int .i64 0, .string ByteArray.empty, .int .i64 0]) := by simp [buildV]
theorem walk_run (h : DA w b d v tag) (g : Good d) {nv : Value} {names : List ByteArray} (hn : Sl 1 w nv (names.map fun x => [.string x])) (hl : names.length ≤ 4294967296) :
    Run (F.disk_Disk_walk (Ptr b) nv) w fun r w' => r = .tuple #[spotV (d.walkF names), .int .i64 (d.walkF names).1] ∧ Fr (fun _ => False) w w' := by
  unfold F.disk_Disk_walk
  simp only [Run_bind]
  refine Run_new fun x1 w1 hx1 hw1 f1 hx1le => ?_
  simp [build_m1, build_root]
  refine Run_newSt (cs := #[.int .i64 (-1), .string e0, .int .i64 0]) rfl rfl (by simp) fun x4 w2 hx4 hw4 f2 hx4le => ?_
  have hnl := hn.lenL
  rw [List.length_map] at hnl
  simp [hnl]
  have s1 := f1.size
  have hx1lt := bk_lt hx1
  have hx1' : bk w1 x1 = some [.int .i64 0, .string e0, .int .i64 0] := hx1
  have hx12 : bk w2 x1 = some [.int .i64 0, .string e0, .int .i64 0] := f2.bk_some hx1' id
  have hw12 : wr w2 x1 = true := by rw [f2.wr hx1lt id]; exact hw1
  have f02 : Fr (fun _ => False) w w2 := f1.trans f2 fun _ _ => id
  have hne : x1 ≠ x4 := by omega
  have s2 := f2.size
  refine Run_for names.length (fun i l w' => l = [.int .i64 i] ∧ Fr (fun c => c = x4) w2 w' ∧ ∃ (a : Slt) (node : Int), bk w' x4 = some [.int .i64 a.1, .string a.2, .int .i64 node] ∧ wr w' x4 = true ∧ node < d.nodes.length ∧ d.walkF names = d.walkGo a node (names.drop i)) ⟨rfl, Fr.refl _ _, (-1, e0), 0, hx4, hw4, by have := g.pos; omega, rfl⟩ ?_ ?_
  · rintro i l w3 hi ⟨rfl, f3, a, node, hx, hwx, hlt, hwk⟩
    have ei : names[i]? = some names[i] := List.getElem?_eq_getElem hi
    have hdrop : names.drop i = names[i] :: names.drop (i + 1) := List.drop_eq_getElem_cons hi
    rw [hdrop] at hwk
    generalize names[i] = n at ei hwk
    have f03 : Fr (fun _ => False) w w3 := f02.new f3 fun c hc => by omega
    have h3 := h.fr0 f03
    have hb3 := h3.blk
    obtain ⟨p, p1, p2⟩ := (hn.fr0 f03).rd1 (i := i) (y := .string n) (by simp [ei]) .i64
    have hi' : (i : Int) < names.length := by omega
    have wi := wrap_succ (n := i) (by omega)
    have hx13 : bk w3 x1 = some [.int .i64 0, .string e0, .int .i64 0] := f3.bk_some hx12 hne
    have hw13 : wr w3 x1 = true := by rw [f3.wr (bk_lt hx12) hne]; exact hw12
    have back : ∀ (w4 : World) (p q r : Value), bk w4 x1 = some [.int .i64 0, .string e0, .int .i64 0] → ldA 3 (Ptr x1) (sto w4 x1 0 [p, q, r]) = some (.agg #[p, q, r]) := fun w4 p q r hh => by
      rw [ldA_bk (l := [p, q, r]) (by rw [bk_sto_eq, hh]; rfl) (by simp)]; rfl
    simp only [Dk.walkGo] at hwk
    simp [-ldA_ptr, hi, hi', p1, p2, hx]
    by_cases k1 : node < 0
    · rw [if_pos k1] at hwk
      simp [-ldA_ptr, k1, build_z, hx13, hw13]
      exact ⟨_, back w3 _ _ _ hx13, ⟨by rw [hwk]; rfl, by rw [hwk]; rfl⟩, f03.sto (.inr (by omega)) _ _⟩
    rw [if_neg k1] at hwk
    obtain ⟨j, hj⟩ : ∃ j : Nat, node = j := ⟨node.toNat, by omega⟩
    have hjl : j < d.nodes.length := by omega
    have hjn : d.nodes[j]? = some d.nodes[j] := List.getElem?_eq_getElem hjl
    generalize d.nodes[j] = nd at hjn
    have hnd : d.nd node = nd := by simp [Dk.nd, hj, hjn]
    rw [hnd] at hwk
    obtain ⟨b0, o, l0, i1, t4, i2, q0, _, _, _⟩ := h3.setNode hjn
    have i1' : idxA 3 v.nv (.int .i64 node) = some (.pointer (some ⟨b0, o, none⟩)) := by rw [hj]; exact i1
    simp [-ldA_ptr, k1, hb3, hx, Dk.cells, i1', i2, q0]
    by_cases k2 : nd.kind = 1
    · rw [if_neg (by simp [k2])] at hwk
      have hxb : x4 ≠ b := fun he => by have := h.bound b (by rw [h.tb]; decide); omega
      have hxs : x4 ≠ v.bs := fun he => by have := h.bound v.bs (by rw [h.ts]; decide); omega
      simp [-ldA_ptr, k2, hx, build_slot, hwx]
      have f34 : Fr (fun c => c = x4) w3 (sto w3.drew x4 0 [.int .i64 node, .string n]) := (Fr.refl (fun c => c = x4) w3).drew.sto (.inl rfl) _ _
      have hx5 : bk (sto w3.drew x4 0 [.int .i64 node, .string n]) x4 = some [.int .i64 node, .string n, .int .i64 node] := by rw [bk_sto_eq, bk_drew, hx]; rfl
      have hw5 : wr (sto w3.drew x4 0 [.int .i64 node, .string n]) x4 = true := by rw [wr_sto]; exact hwx
      have hb5 : bk (sto w3.drew x4 0 [.int .i64 node, .string n]) b = some (d.cells v) := by rw [bk_sto_ne (Ne.symm hxb)]; exact hb3
      have hm5 : MapAt slv idv (sto w3.drew x4 0 [.int .i64 node, .string n]) v.bs v.ls := h3.seen.fr f34 fun he => hxs he.symm
      have hx15 : bk (sto w3.drew x4 0 [.int .i64 node, .string n]) x1 = some [.int .i64 0, .string e0, .int .i64 0] := by rw [bk_sto_ne hne]; exact hx13
      have hw15 : wr (sto w3.drew x4 0 [.int .i64 node, .string n]) x1 = true := by rw [wr_sto]; exact hw13
      have z5 : (sto w3.drew x4 0 [.int .i64 node, .string n]).heap.size = w3.heap.size := size_sto _ _ _ _
      generalize sto w3.drew x4 0 [.int .i64 node, .string n] = w5 at *
      have fd : Fr (fun _ => False) w5 w5.drew := (Fr.refl (fun _ => False) w5).drew
      have hlook := (hm5.fr fd id).look keyS (node, n) (.int .i64 0) true
      have hl2 : ldA 2 (Ptr x4) w5 = some (slv (node, n)) := by rw [ldA_bk hx5 (by simp)]; rfl
      have hl2' : ldA 2 (Ptr x4) w5.drew = some (slv (node, n)) := hl2
      simp [-ldA_ptr, hb5, Dk.cells, hl2]
      rw [hlook]
      have hg : getK (node, n) v.ls = d.seen (node, n) := h.seenE (node, n)
      rw [hg]
      have f05 : Fr (fun _ => False) w w5.drew := (f03.new f34 fun c hc => by omega).trans fd fun _ _ => id
      have hr2 : ∀ K : Int, Fr (fun c => c = x4) w2 (sto w5.drew x4 2 [.int .i64 K]) := fun K => ((f3.trans f34 fun _ _ h => h).trans fd fun _ _ h => h.elim).sto (.inl rfl) _ _
      have hx6 : ∀ K : Int, bk (sto w5.drew x4 2 [.int .i64 K]) x4 = some [.int .i64 node, .string n, .int .i64 K] := fun K => by rw [bk_sto_eq, bk_drew, hx5]; rfl
      have hw6 : ∀ K : Int, wr (sto w5.drew x4 2 [.int .i64 K]) x4 = true := fun K => by rw [wr_sto]; exact hw5
      have hx16 : ∀ K : Int, bk (sto w5.drew x4 2 [.int .i64 K]) x1 = some [.int .i64 0, .string e0, .int .i64 0] := fun K => by rw [bk_sto_ne hne]; exact hx15
      have hw16 : ∀ K : Int, wr (sto w5.drew x4 2 [.int .i64 K]) x1 = true := fun K => by rw [wr_sto]; exact hw15
      have hlenr : (names.drop (i + 1)).length = names.length - (i + 1) := List.length_drop
      have fin : ∀ K : Int, (d.seen (node, n)).getD (-1) = K → (K < 0 → i + 1 < names.length → d.walkF names = zspot 12) ∧ (¬ (K < 0 ∧ i + 1 < names.length) → d.walkF names = d.walkGo (node, n) K (names.drop (i + 1))) := by
        intro K hK
        rw [hK] at hwk
        refine ⟨fun h1 h2 => ?_, fun h1 => ?_⟩
        · rw [hwk, if_pos ⟨h1, fun he => by rw [he] at hlenr; simp at hlenr; omega⟩]
        · rw [hwk, if_neg fun hh => h1 ⟨hh.1, by
            have := List.length_pos_iff.2 hh.2
            omega⟩]
      have hKlt : ∀ K : Int, (d.seen (node, n)).getD (-1) = K → K < d.nodes.length := by
        intro K hK
        cases hsn : d.seen (node, n) with
        | none => rw [hsn] at hK; simp at hK; omega
        | some k => rw [hsn] at hK; simp at hK; have := g.seen _ _ hsn; omega
      cases hsn : d.seen (node, n) with
      | none =>
        obtain ⟨q1, q2⟩ := fin (-1) (by rw [hsn]; rfl)
        have q3 := hKlt (-1) (by rw [hsn]; rfl)
        simp [-ldA_ptr, hx5, hw5, hnl, wi]
        by_cases kr : i + 1 < names.length
        · have hc : (i : Int) + 1 < names.length := by omega
          simp [-ldA_ptr, hc, build_z, hx16 (-1), hw16 (-1)]
          exact ⟨_, back _ _ _ _ (hx16 (-1)), ⟨by rw [q1 (by decide) kr]; rfl, by rw [q1 (by decide) kr]; rfl⟩, (f05.sto (.inr (by omega)) _ _).sto (.inr (by omega)) _ _⟩
        · have hc : ¬ (i : Int) + 1 < names.length := by omega
          simp [hc]
          exact ⟨hr2 (-1), node, n, -1, ⟨_, hx5, rfl⟩, hw5, q3, q2 fun hh => kr hh.2⟩
      | some k =>
        obtain ⟨q1, q2⟩ := fin k (by rw [hsn]; rfl)
        have q3 := hKlt k (by rw [hsn]; rfl)
        simp [-ldA_ptr, idv, hx5, hw5, hnl, wi]
        by_cases kn : k < 0
        · simp [-ldA_ptr, kn, hnl, wi]
          by_cases kr : i + 1 < names.length
          · have hc : (i : Int) + 1 < names.length := by omega
            simp [-ldA_ptr, hc, build_z, hx16 k, hw16 k]
            exact ⟨_, back _ _ _ _ (hx16 k), ⟨by rw [q1 kn kr]; rfl, by rw [q1 kn kr]; rfl⟩, (f05.sto (.inr (by omega)) _ _).sto (.inr (by omega)) _ _⟩
          · have hc : ¬ (i : Int) + 1 < names.length := by omega
            simp [hc]
            exact ⟨hr2 k, node, n, k, ⟨_, hx5, rfl⟩, hw5, q3, q2 fun hh => kr hh.2⟩
        · simp [kn]
          exact ⟨hr2 k, node, n, k, ⟨_, hx5, rfl⟩, hw5, q3, q2 fun hh => kn hh.1⟩
    · rw [if_pos k2] at hwk
      simp [-ldA_ptr, k2, build_z, hx13, hw13]
      exact ⟨_, back _ _ _ _ hx13, ⟨by rw [hwk]; rfl, by rw [hwk]; rfl⟩, (f03.drew).sto (.inr (by omega)) _ _⟩
  · rintro l w3 ⟨rfl, f3, a, node, hx, hwx, hlt, hwk⟩
    have f03 : Fr (fun _ => False) w w3 := f02.new f3 fun c hc => by omega
    have hx13 : bk w3 x1 = some [.int .i64 0, .string e0, .int .i64 0] := f3.bk_some hx12 hne
    have hw13 : wr w3 x1 = true := by rw [f3.wr (bk_lt hx12) hne]; exact hw12
    have hld : ldA 3 (Ptr x4) w3 = some (spotV (0, a, node)) := by rw [ldA_bk hx (by simp)]; rfl
    have hback : ldA 3 (Ptr x1) (sto w3 x1 0 [.int .i64 a.1, .string a.2, .int .i64 node]) = some (spotV (0, a, node)) := by
      rw [ldA_bk (l := [.int .i64 a.1, .string a.2, .int .i64 node]) (by rw [bk_sto_eq, hx13]; rfl) (by simp)]; rfl
    rw [List.drop_length] at hwk
    simp [-ldA_ptr, hld, spotV, hx13, hw13]
    exact ⟨by intro i hi; rcases i with _ | _ | _ | i <;> simp at hi ⊢ <;> omega, _, hback, ⟨by rw [hwk]; rfl, by rw [hwk]; rfl⟩, f03.sto (.inr (by omega)) _ _⟩
end
end Go.Proofs.YtojnickeblbgoaaGreatDoor

/-
  Layer 1 (disk), part E: a path found; the calls over it.
-/
namespace Go.Proofs.YtojnickeblbgoaaGreatDoor
open Go.Lift
set_option linter.unusedSimpArgs false
set_option maxHeartbeats 2000000

def Dk.findF (d : Dk) (path : ByteArray) (kind : Int) : Spot := if d.down then zspot 10 else match parseF path with
  | none => zspot 11
  | some names => if (d.walkF names).1 ≠ 0 then zspot (d.walkF names).1 else if (d.walkF names).2.2 < 0 then zspot 12 else
    if kind ≠ 0 ∧ (d.nd (d.walkF names).2.2).kind ≠ kind then zspot 14 else d.walkF names
theorem parse_len {s : ByteArray} {names : List ByteArray} (h : parseF s = some names) : names.length ≤ s.size + 1 := by
  unfold parseF at h
  split at h
  · cases h; simp
  · split at h
    · cases h
    · split at h
      · cases h
        have h47 : (1 : Nat) ≤ slash.size := by decide
        have hlen : (partsF s).length = Lib.countB s slash + 1 := Lib.splitB_all slash h47 0 _ s rfl
        have hle := Lib.countB_le slash h47 s.size s (Nat.le_refl _)
        omega
      · cases h
theorem walkGo_lt {d : Dk} (g : Good d) : ∀ (names : List ByteArray) (a : Slt) (node : Int), node < d.nodes.length → (d.walkGo a node names).2.2 < d.nodes.length
  | [], a, node, h => h
  | n :: rest, a, node, h => by
    have hp := g.pos
    unfold Dk.walkGo
    split
    · show (0 : Int) < _; omega
    · split
      · show (0 : Int) < _; omega
      · split
        · show (0 : Int) < _; omega
        · refine walkGo_lt g rest _ _ ?_
          cases hs : d.seen (node, n) with
          | none => simp; omega
          | some k => simpa using g.seen _ _ hs
theorem walk_lt {d : Dk} (g : Good d) (names : List ByteArray) : (d.walkF names).2.2 < d.nodes.length := walkGo_lt g names _ _ (by have := g.pos; omega)
theorem find_lt {d : Dk} (g : Good d) (path : ByteArray) (kind : Int) : (d.findF path kind).2.2 < d.nodes.length := by
  have hp := g.pos
  unfold Dk.findF
  split
  · show (0 : Int) < _; omega
  · split
    · show (0 : Int) < _; omega
    · rename_i names _
      split
      · show (0 : Int) < _; omega
      · split
        · show (0 : Int) < _; omega
        · split
          · show (0 : Int) < _; omega
          · exact walk_lt g names
theorem find_pos {d : Dk} {path : ByteArray} {kind : Int} (h : (d.findF path kind).1 = 0) : 0 ≤ (d.findF path kind).2.2 ∧ d.down = false := by
  unfold Dk.findF at h ⊢
  split at h
  · cases h
  · rename_i hd
    split at h
    · cases h
    · split at h
      · rename_i h1
        exact absurd h h1
      · split at h
        · cases h
        · split at h
          · cases h
          · rename_i h1 h2 h3
            simp only [if_neg h1, if_neg h2, if_neg h3, if_neg hd]
            exact ⟨by omega, by simpa using hd⟩

section
variable {w w' w'' : World} {b : Nat} {d d' : Dk} {v : DV} {tag : Nat → Nat}
/-- A place is put where it is read again. -/
theorem back3 {x : Nat} {l : List Value} (hx : bk w x = some l) (hl : l.length = 3) (p q r : Value) : ldA 3 (Ptr x) (sto w x 0 [p, q, r]) = some (.agg #[p, q, r]) := by
  obtain ⟨a, b, c, rfl⟩ : ∃ a b c, l = [a, b, c] := by
    match l, hl with
    | [a, b, c], _ => exact ⟨a, b, c, rfl⟩
  rw [ldA_bk (l := [p, q, r]) (by rw [bk_sto_eq, hx]; rfl) (by simp)]; rfl
theorem find_run (h : DA w b d v tag) (g : Good d) {path : ByteArray} (hs : path.size < 4294967281) (kind : Int) :
    Run (F.disk_Disk_find (Ptr b) (.string path) (.int .i64 kind)) w fun r w' => r = .tuple #[spotV (d.findF path kind), .int .i64 (d.findF path kind).1] ∧ Fr (fun _ => False) w w' := by
  unfold F.disk_Disk_find
  simp only [Run_bind]
  refine Run_new fun x1 w1 hx1 hw1 f1 hx1le => ?_
  have h1 := h.fr0 f1
  have hx1' : bk w1 x1 = some [.int .i64 0, .string e0, .int .i64 0] := hx1
  have back : ∀ (w4 : World) (e : Int), Fr (fun _ => False) w1 w4 → ldA 3 (Ptr x1) (sto w4 x1 0 [.int .i64 0, .string ByteArray.empty, .int .i64 0]) = some (spotV (zspot e)) := fun w4 e f => back3 (f.bk_some hx1' id) rfl _ _ _
  have wx : ∀ w4, Fr (fun _ => False) w1 w4 → bk w4 x1 = some [.int .i64 0, .string e0, .int .i64 0] ∧ wr w4 x1 = true := fun w4 f => ⟨f.bk_some hx1' id, by rw [f.wr (bk_lt hx1') id]; exact hw1⟩
  refine ready_run h1 ?_
  obtain ⟨bx, wx0⟩ := wx w1 (Fr.refl _ _)
  cases hd : d.down with
  | true =>
    have e : d.findF path kind = zspot 10 := by simp [Dk.findF, hd]
    simp [-ldA_ptr, build_z, bx, wx0]
    rw [e]
    exact ⟨_, back w1 10 (Fr.refl _ _), ⟨rfl, rfl⟩, f1.sto (.inr hx1le) _ _⟩
  | false =>
    simp [-ldA_ptr]
    obtain ⟨m, hm⟩ := h1.ml
    refine (parse_run path hs hm).mono ?_
    rintro _ w2 ⟨nv, rfl, f2, hnames⟩
    have h2 := h1.fr0 f2
    obtain ⟨bx2, wx2⟩ := wx w2 f2
    cases hp : parseF path with
    | none =>
      have e : d.findF path kind = zspot 11 := by simp [Dk.findF, hd, hp]
      simp [-ldA_ptr, build_z, bx2, wx2]
      rw [e]
      exact ⟨_, back w2 11 f2, ⟨rfl, rfl⟩, (f1.trans f2 fun _ _ => id).sto (.inr hx1le) _ _⟩
    | some names =>
      obtain ⟨hsl, hnew⟩ := hnames names hp
      have hnl := parse_len hp
      simp [-ldA_ptr]
      refine (walk_run h2 g hsl (by omega)).mono ?_
      rintro _ w3 ⟨rfl, f3⟩
      have h3 := h2.fr0 f3
      have hlt := walk_lt g names
      have e : d.findF path kind = if (d.walkF names).1 ≠ 0 then zspot (d.walkF names).1 else if (d.walkF names).2.2 < 0 then zspot 12 else if kind ≠ 0 ∧ (d.nd (d.walkF names).2.2).kind ≠ kind then zspot 14 else d.walkF names := by
        simp [Dk.findF, hd, hp]
      rw [e]
      clear e
      generalize d.walkF names = s at *
      obtain ⟨e, ⟨a1, a2⟩, node⟩ := s
      simp only at hlt
      simp [-ldA_ptr, spotV]
      refine Run_newSt (cs := #[.int .i64 a1, .string a2, .int .i64 node]) rfl rfl (by simp) fun x2 w4 hx2 hw2 f4 hx2le => ?_
      have f14 : Fr (fun _ => False) w1 w4 := (f2.trans f3 fun _ _ => id).trans f4 fun _ _ => id
      have f04 : Fr (fun _ => False) w w4 := f1.trans f14 fun _ _ => id
      obtain ⟨bx4, wx4⟩ := wx w4 f14
      have hx2' : bk w4 x2 = some [.int .i64 a1, .string a2, .int .i64 node] := hx2
      have hl2 : ldA 3 (Ptr x2) w4 = some (.agg #[.int .i64 a1, .string a2, .int .i64 node]) := by rw [ldA_bk hx2' (by simp)]; rfl
      by_cases k1 : e = 0
      · by_cases k2 : node < 0
        · simp [-ldA_ptr, k1, hx2', k2, build_z, bx4, wx4]
          exact ⟨_, back w4 12 f14, ⟨rfl, rfl⟩, f04.sto (.inr hx1le) _ _⟩
        · have h4 := h3.fr0 f4
          obtain ⟨j, hj⟩ : ∃ j : Nat, node = j := ⟨node.toNat, by omega⟩
          have hjl : j < d.nodes.length := by omega
          have hjn : d.nodes[j]? = some d.nodes[j] := List.getElem?_eq_getElem hjl
          generalize d.nodes[j] = nd at hjn
          have hnd : d.nd node = nd := by simp [Dk.nd, hj, hjn]
          obtain ⟨b0, o, l0, i1, t4, i2, q0, _, _, _⟩ := h4.setNode hjn
          have i1' : idxA 3 v.nv (.int .i64 node) = some (.pointer (some ⟨b0, o, none⟩)) := by rw [hj]; exact i1
          have hb4 := h4.blk
          have hback : ∀ w5, Fr (fun _ => False) w1 w5 → ldA 3 (Ptr x1) (sto w5 x1 0 [.int .i64 a1, .string a2, .int .i64 node]) = some (.agg #[.int .i64 a1, .string a2, .int .i64 node]) := fun w5 f => back3 (f.bk_some hx1' id) rfl _ _ _
          have hl2d : ldA 3 (Ptr x2) w4.drew = some (.agg #[.int .i64 a1, .string a2, .int .i64 node]) := hl2
          by_cases k3 : kind = 0
          · simp [-ldA_ptr, k1, hx2', k2, k3, hl2, bx4, wx4]
            exact ⟨by intro i hi; rcases i with _ | _ | _ | i <;> simp at hi ⊢ <;> omega, _, hback _ (f14.drew), rfl, f04.drew.sto (.inr hx1le) _ _⟩
          · by_cases k4 : nd.kind = kind
            · simp [-ldA_ptr, k1, hx2', k2, k3, hl2, bx4, wx4, hb4, Dk.cells, i1', i2, q0, k4, hnd]
              exact ⟨by intro i hi; rcases i with _ | _ | _ | i <;> simp at hi ⊢ <;> omega, _, hback _ (f14.drew), rfl, f04.drew.sto (.inr hx1le) _ _⟩
            · simp [-ldA_ptr, k1, hx2', k2, k3, hl2, bx4, wx4, hb4, Dk.cells, i1', i2, q0, k4, hnd, build_z]
              exact ⟨_, back _ 14 (f14.drew), ⟨rfl, rfl⟩, f04.drew.sto (.inr hx1le) _ _⟩
      · simp [-ldA_ptr, k1, build_z, bx4, wx4]
        exact ⟨_, back w4 e f14, ⟨rfl, rfl⟩, f04.sto (.inr hx1le) _ _⟩
end
end Go.Proofs.YtojnickeblbgoaaGreatDoor

/-
  Layer 1 (disk), part F: the calls that look; Used; Arm.
-/
namespace Go.Proofs.YtojnickeblbgoaaGreatDoor
open Go.Lift
set_option linter.unusedSimpArgs false
set_option maxHeartbeats 2000000

def Dk.kindF (d : Dk) (path : ByteArray) : Int × Int := if (d.findF path 0).1 ≠ 0 then (0, (d.findF path 0).1) else ((d.nd (d.findF path 0).2.2).kind, 0)
def Dk.sizeF (d : Dk) (path : ByteArray) : Int × Int := if (d.findF path 2).1 ≠ 0 then (0, (d.findF path 2).1) else ((d.nd (d.findF path 2).2.2).seen.size, 0)
def sumF (d : Dk) (l : List (Slt × Int)) : Nat := (l.map fun p => (d.nd p.2).seen.size).sum
theorem wrap_wrap (a b : Int) : IntKind.i64.wrap (IntKind.i64.wrap a + b) = IntKind.i64.wrap (a + b) := by simp [IntKind.wrap, IntKind.bits, IntKind.signed]; omega
theorem sum_perm {l l' : List Nat} (h : l.Perm l') : l.sum = l'.sum := by
  induction h with
  | nil => rfl
  | cons x _ ih => simp [ih]
  | swap x y l => simp; omega
  | trans _ _ ih1 ih2 => exact ih1.trans ih2

section
variable {w w' w'' : World} {b : Nat} {d d' : Dk} {v : DV} {tag : Nat → Nat}
theorem spot_mem {a1 : Int} {a2 : ByteArray} {node : Int} {Q : Value → Value → World → Prop} (q : ∀ x w', bk w' x = some [.int .i64 a1, .string a2, .int .i64 node] → wr w' x = true → Fr (fun _ => False) w w' → w.heap.size ≤ x → Q (Ptr x) undef w') :
    Run (newM 85 #[.int .i64 0, .string ByteArray.empty, .int .i64 0]) w fun a w1 => Run (stM 3 a (.agg #[.int .i64 a1, .string a2, .int .i64 node])) w1 fun u w2 => Q a u w2 :=
  Run_newSt (cs := #[.int .i64 a1, .string a2, .int .i64 node]) rfl rfl (by simp) fun x w' h1 h2 h3 h4 => q x w' h1 h2 h3 h4
theorem kind_run (h : DA w b d v tag) (g : Good d) {path : ByteArray} (hs : path.size < 4294967281) :
    Run (F.disk_Disk_Kind (Ptr b) (.string path)) w fun r w' => r = .tuple #[.int .i64 (d.kindF path).1, .int .i64 (d.kindF path).2] ∧ Fr (fun _ => False) w w' := by
  unfold F.disk_Disk_Kind
  simp only [Run_bind]
  refine (find_run h g hs 0).mono ?_
  rintro _ w1 ⟨rfl, f1⟩
  have hlt := find_lt g path 0
  have hpos := find_pos (d := d) (path := path) (kind := 0)
  unfold Dk.kindF
  generalize d.findF path 0 = s at *
  obtain ⟨e, ⟨a1, a2⟩, node⟩ := s
  simp only at hlt hpos
  simp [-ldA_ptr, spotV]
  refine spot_mem fun x w2 hx _ f2 _ => ?_
  have f02 : Fr (fun _ => False) w w2 := f1.trans f2 fun _ _ => id
  by_cases k1 : e = 0
  · have h2 := h.fr0 f02
    have hnn := (hpos k1).1
    obtain ⟨j, hj⟩ : ∃ j : Nat, node = j := ⟨node.toNat, by omega⟩
    have hjl : j < d.nodes.length := by omega
    have hjn : d.nodes[j]? = some d.nodes[j] := List.getElem?_eq_getElem hjl
    generalize d.nodes[j] = nd at hjn
    have hnd : d.nd node = nd := by simp [Dk.nd, hj, hjn]
    obtain ⟨b0, o, l0, i1, t4, i2, q0, _, _, _⟩ := h2.setNode hjn
    have i1' : idxA 3 v.nv (.int .i64 node) = some (.pointer (some ⟨b0, o, none⟩)) := by rw [hj]; exact i1
    have hb2 := h2.blk
    simp [-ldA_ptr, k1, hx, hb2, Dk.cells, i1', i2, q0, hnd]
    exact f02.drew
  · simp [-ldA_ptr, k1]
    exact f02
theorem size_run (h : DA w b d v tag) (g : Good d) {path : ByteArray} (hs : path.size < 4294967281) :
    Run (F.disk_Disk_Size (Ptr b) (.string path)) w fun r w' => r = .tuple #[.int .i64 (d.sizeF path).1, .int .i64 (d.sizeF path).2] ∧ Fr (fun _ => False) w w' := by
  unfold F.disk_Disk_Size
  simp only [Run_bind]
  refine (find_run h g hs 2).mono ?_
  rintro _ w1 ⟨rfl, f1⟩
  have hlt := find_lt g path 2
  have hpos := find_pos (d := d) (path := path) (kind := 2)
  unfold Dk.sizeF
  generalize d.findF path 2 = s at *
  obtain ⟨e, ⟨a1, a2⟩, node⟩ := s
  simp only at hlt hpos
  simp [-ldA_ptr, spotV]
  refine spot_mem fun x w2 hx _ f2 _ => ?_
  have f02 : Fr (fun _ => False) w w2 := f1.trans f2 fun _ _ => id
  by_cases k1 : e = 0
  · have h2 := h.fr0 f02
    have hnn := (hpos k1).1
    obtain ⟨j, hj⟩ : ∃ j : Nat, node = j := ⟨node.toNat, by omega⟩
    have hjl : j < d.nodes.length := by omega
    have hjn : d.nodes[j]? = some d.nodes[j] := List.getElem?_eq_getElem hjl
    generalize d.nodes[j] = nd at hjn
    have hnd : d.nd node = nd := by simp [Dk.nd, hj, hjn]
    obtain ⟨b0, o, l0, i1, t4, i2, _, q1, _, _⟩ := h2.setNode hjn
    have i1' : idxA 3 v.nv (.int .i64 node) = some (.pointer (some ⟨b0, o, none⟩)) := by rw [hj]; exact i1
    have hb2 := h2.blk
    simp [-ldA_ptr, k1, hx, hb2, Dk.cells, i1', i2, q1, hnd]
    exact f02.drew
  · simp [-ldA_ptr, k1]
    exact f02
theorem used_run (h : DA w b d v tag) (g : Good d) (hpos : ∀ s k, d.seen s = some k → 0 ≤ k) :
    Run (F.disk_Disk_Used (Ptr b)) w fun r w' => r = .int .i64 (IntKind.i64.wrap (sumF d v.ls)) ∧ Fr (fun _ => False) w w' := by
  unfold F.disk_Disk_Used
  have hb := h.blk
  simp [-ldA_ptr, hb, Dk.cells]
  refine Run_rngM h.seen fun w1 r hit f1 hr => ?_
  have hin : ∀ p ∈ v.ls, ∃ j : Nat, p.2 = j ∧ j < d.nodes.length := fun p hp => by
    have h1 := getK_of_mem h.seen.nodup (show (p.1, p.2) ∈ v.ls from hp)
    rw [h.seenE p.1] at h1
    have h2 := g.seen _ _ h1
    have h3 := hpos _ _ h1
    exact ⟨p.2.toNat, by omega, by omega⟩
  refine Run_range (k := fun _ _ => _) (fun x => rfl) (fun js x w' => x = [.int .i64 (IntKind.i64.wrap (sumF d (js.filterMap fun j => v.ls[j]?)))] ∧ Fr (fun c => c = r) w1 w') ⟨by simp [sumF]; rfl, Fr.refl _ _⟩ hit ?_ ?_
  · rintro js j p x w2 w3 hp hj ⟨rfl, f2⟩ hit3 f3 _
    have f13 : Fr (fun c => c = r) w1 w3 := f2.trans f3 fun _ _ h => h
    have f03 : Fr (fun _ => False) w w3 := f1.new f13 fun c hc => by omega
    have h3 := h.fr0 f03
    have he := hit3.entry hp
    obtain ⟨i, hi, hil⟩ := hin p (List.mem_of_getElem? hp)
    have hjn : d.nodes[i]? = some d.nodes[i] := List.getElem?_eq_getElem hil
    generalize d.nodes[i] = nd at hjn
    have hnd : d.nd p.2 = nd := by simp [Dk.nd, hi, hjn]
    obtain ⟨b0, o, l0, i1, t4, i2, _, q1, _, _⟩ := h3.setNode hjn
    have i1' : idxA 3 v.nv (idv p.2) = some (.pointer (some ⟨b0, o, none⟩)) := by rw [hi]; exact i1
    have hb3 := h3.blk
    simp [-ldA_ptr, he, hb3, Dk.cells, i1', i2, q1]
    refine ⟨⟨?_, f13⟩, hit3⟩
    rw [wrap_wrap]
    congr 1
    simp [sumF, List.filterMap_append, hp, hnd]
  · rintro js x w2 w3 hperm ⟨rfl, f2⟩ hit3 f3 _
    have f03 : Fr (fun _ => False) w w3 := (f1.new f2 fun c hc => by omega).trans f3 fun _ _ => id
    simp
    refine ⟨?_, f03⟩
    congr 2
    exact sum_perm ((perm_all hperm).map _)
theorem arm_run (h : DA w b d v tag) (k : Int) :
    Run (F.disk_Disk_Arm (Ptr b) (.int .i64 k)) w fun r w' => (d.down = true ∧ r = .int .i64 10 ∧ w' = w) ∨ (d.down = false ∧ r = .int .i64 0 ∧ DDid w w' b tag { d with armed := decide (0 ≤ k), left := k }) := by
  unfold F.disk_Disk_Arm
  simp only [Run_bind]
  refine ready_run h ?_
  have hb := h.blk
  have hw := h.wr
  cases hd : d.down with
  | true => simp
  | false =>
    have h1 : DA (sto w b 3 [.bool (decide (0 ≤ k))]) b { d with armed := decide (0 ≤ k) } v tag := h.put (by simp [Dk.cells]) rfl rfl rfl rfl
    simp [hb, hw, Dk.cells]
    have t := (h1.put (i := 4) (x := .int .i64 k) (d' := { d with armed := decide (0 ≤ k), left := k }) (by simp [Dk.cells]) rfl rfl rfl rfl).did (((Fr.refl (fun c => tag c ≠ 0) w).sto (b := b) (.inl (by rw [h.tb]; decide)) _ _).sto (b := b) (.inl (by rw [h.tb]; decide)) _ _)
    rw [hd] at t
    exact t
end
end Go.Proofs.YtojnickeblbgoaaGreatDoor

/-
  Layer 1 (disk), part G: Append, Create.
-/
namespace Go.Proofs.YtojnickeblbgoaaGreatDoor
set_option linter.unusedVariables false
open Go.Lift
set_option linter.unusedSimpArgs false
set_option maxHeartbeats 2000000

def appendF (d : Dk) (path data : ByteArray) (U : Nat) : Int × Dk := if (d.findF path 2).1 ≠ 0 then ((d.findF path 2).1, d) else if d.cap < (U : Int) + data.size then (15, d) else
  doF d ⟨0, (d.findF path 2).2.2, data, 0, e0, e0, 0⟩ (d.findF path 2).2.2.toNat (d.nd (d.findF path 2).2.2)
def Dk.addNode (d : Dk) (kind : Int) : Dk := { d with nodes := d.nodes ++ [⟨kind, e0, e0⟩] }
def createF (d : Dk) (path : ByteArray) (kind : Int) : Int × Dk := if d.down then (10, d) else match parseF path with
  | none => (11, d)
  | some names => if (d.walkF names).1 ≠ 0 then ((d.walkF names).1, d) else if 0 ≤ (d.walkF names).2.2 then (13, d) else
    doF (d.addNode kind) ⟨2, (d.walkF names).2.1.1, e0, 0, (d.walkF names).2.1.2, e0, d.nodes.length⟩ (d.walkF names).2.1.1.toNat (d.nd (d.walkF names).2.1.1)
theorem walkGo_dir {d : Dk} (g : Good d) : ∀ (names : List ByteArray) (a : Slt) (node : Int), node < d.nodes.length → (names ≠ [] ∨ (0 ≤ a.1 ∧ a.1 < d.nodes.length)) → (d.walkGo a node names).1 = 0 → 0 ≤ (d.walkGo a node names).2.1.1 ∧ (d.walkGo a node names).2.1.1 < d.nodes.length
  | [], a, node, _, h, _ => h.elim (fun h => absurd rfl h) id
  | n :: rest, a, node, hl, _, h => by
    unfold Dk.walkGo at h ⊢
    by_cases h1 : node < 0
    · rw [if_pos h1] at h; cases h
    rw [if_neg h1] at h ⊢
    by_cases h2 : (d.nd node).kind ≠ 1
    · rw [if_pos h2] at h; cases h
    rw [if_neg h2] at h ⊢
    by_cases h3 : (d.seen (node, n)).getD (-1) < 0 ∧ rest ≠ []
    · rw [if_pos h3] at h; cases h
    rw [if_neg h3] at h ⊢
    refine walkGo_dir g rest _ _ ?_ (.inr ⟨by simp only; omega, hl⟩) h
    cases hs : d.seen (node, n) with
    | none => simp; omega
    | some k => simpa using g.seen _ _ hs
theorem walk_dir {d : Dk} (g : Good d) {names : List ByteArray} (hn : names ≠ []) (h : (d.walkF names).1 = 0) : 0 ≤ (d.walkF names).2.1.1 ∧ (d.walkF names).2.1.1 < d.nodes.length := walkGo_dir g names _ _ (by have := g.pos; omega) (.inl hn) h

section
variable {w w' w'' : World} {b : Nat} {d d' : Dk} {v : DV} {tag : Nat → Nat}
theorem build_chg (a n : Int) (x : ByteArray) (s : ByteArray) (t : Int) : buildV #[.int .i64 0, .int .i64 0, .string ByteArray.empty, .int .i64 0, .string ByteArray.empty, .string ByteArray.empty, .int .i64 0] [(0, 1, .int .i64 a), (1, 1, .int .i64 n), (2, 1, .string x)] = some (Chg.val ⟨a, n, x, 0, e0, e0, 0⟩) := by simp [buildV, fillV, Chg.val, Chg.cells]
theorem build_link (a n : Int) (s : ByteArray) (t : Int) : buildV #[.int .i64 0, .int .i64 0, .string ByteArray.empty, .int .i64 0, .string ByteArray.empty, .string ByteArray.empty, .int .i64 0] [(0, 1, .int .i64 a), (1, 1, .int .i64 n), (4, 1, .string s), (6, 1, .int .i64 t)] = some (Chg.val ⟨a, n, e0, 0, s, e0, t⟩) := by simp [buildV, fillV, Chg.val, Chg.cells]
theorem build_node (k : Int) : buildV #[.int .i64 0, .string ByteArray.empty, .string ByteArray.empty] [(0, 1, .int .i64 k)] = some (.agg #[.int .i64 k, .string ByteArray.empty, .string ByteArray.empty]) := by simp [buildV, fillV]
theorem append_run (h : DA w b d v tag) (g : Good d) (hp : ∀ s k, d.seen s = some k → 0 ≤ k) {path data : ByteArray} (hs : path.size < 4294967281) (hd : data.size ≤ 2305843009213693952) (hU : ∀ ls, (ls.map (·.1)).Nodup → Eqm ls d.seen → sumF d ls ≤ 2305843009213693952) (hn : ∀ nd ∈ d.nodes, nd.seen.size ≤ 2305843009213693952) (hpl : d.pending.length ≤ 16777216) :
    Run (F.disk_Disk_Append (Ptr b) (.string path) (.string data)) w fun r w' => ∃ ls, (ls.map (·.1)).Nodup ∧ Eqm ls d.seen ∧ r = .int .i64 (appendF d path data (sumF d ls)).1 ∧ DDid w w' b tag (appendF d path data (sumF d ls)).2 := by
  unfold F.disk_Disk_Append
  simp only [Run_bind]
  refine (find_run h g hs 2).mono ?_
  rintro _ w1 ⟨rfl, f1⟩
  have hlt := find_lt g path 2
  have hpos := find_pos (d := d) (path := path) (kind := 2)
  unfold appendF
  generalize d.findF path 2 = s at *
  obtain ⟨e, ⟨a1, a2⟩, node⟩ := s
  simp only at hlt hpos
  simp [-ldA_ptr, spotV]
  refine spot_mem fun x w2 hx _ f2 hxle => ?_
  have f02 : Fr (fun _ => False) w w2 := f1.trans f2 fun _ _ => id
  have hUv := hU v.ls h.seen.nodup h.seenE
  by_cases k1 : e = 0
  · have h2 := h.fr0 f02
    have hnn := (hpos k1).1
    obtain ⟨j, hj⟩ : ∃ j : Nat, node = j := ⟨node.toNat, by omega⟩
    have hjl : j < d.nodes.length := by omega
    have hjn : d.nodes[j]? = some d.nodes[j] := List.getElem?_eq_getElem hjl
    generalize d.nodes[j] = nd at hjn
    have hnd : d.nd node = nd := by simp [Dk.nd, hj, hjn]
    have hnds := hn nd (List.mem_of_getElem? hjn)
    simp [-ldA_ptr, k1]
    have fd : Fr (fun _ => False) w2 w2.drew := (Fr.refl (fun _ => False) w2).drew
    refine (used_run (h2.fr0 fd) g hp).mono ?_
    rintro _ w3 ⟨rfl, f3⟩
    have h3 := (h2.fr0 fd).fr0 f3
    have hb3 := h3.blk
    have hb2 := h2.blk
    have f03 : Fr (fun _ => False) w w3 := (f02.trans fd fun _ _ => id).trans f3 fun _ _ => id
    have hx3 : bk w3 x = some [.int .i64 a1, .string a2, .int .i64 node] := f3.bk_some (w := w2.drew) hx id
    have e1 : IntKind.i64.wrap (sumF d v.ls : Nat) = (sumF d v.ls : Nat) := wrap_int (by omega) (by omega)
    have e2 : IntKind.i64.wrap (((sumF d v.ls : Nat) : Int) + data.size) = ((sumF d v.ls : Nat) : Int) + data.size := wrap_int (by omega) (by omega)
    by_cases k2 : d.cap < ((sumF d v.ls : Nat) : Int) + data.size
    · simp [-ldA_ptr, hb3, hb2, Dk.cells, e1, e2, k2]
      exact ⟨v.ls, h.seen.nodup, h.seenE, by simp [k2], by simp only [k2, if_true]; exact (h3.did (f03.mono fun _ h => h.elim))⟩
    · simp [-ldA_ptr, hb3, hb2, Dk.cells, e1, e2, k2, hx3]
      rw [build_chg 0 node data e0 0]
      simp only [Run_bindO_some, Run_bind, Run_ret]
      refine (do_run h3 ⟨0, node, data, 0, e0, e0, 0⟩ hjn hj ⟨fun _ => by simp only; omega, fun h => by simp at h⟩ hpl).mono ?_
      rintro _ w4 ⟨rfl, h4⟩
      refine ⟨v.ls, h.seen.nodup, h.seenE, ?_, ?_⟩
      · rw [if_neg k2, hnd, show node.toNat = j by omega]
      · rw [if_neg k2, hnd, show node.toNat = j by omega]; exact h4.pre f03
  · simp [-ldA_ptr, k1]
    exact ⟨v.ls, h.seen.nodup, h.seenE, (h.fr0 f02).did (f02.mono fun _ h => h.elim)⟩
theorem create_run (h : DA w b d v tag) (g : Good d) {path : ByteArray} (hs : path.size < 4294967281) (kind : Int) (hpl : d.pending.length ≤ 16777216) (hnl : d.nodes.length ≤ 16777216) :
    Run (F.disk_Disk_add (Ptr b) (.string path) (.int .i64 kind)) w fun r w' => r = .int .i64 (createF d path kind).1 ∧ DDid w w' b tag (createF d path kind).2 := by
  unfold F.disk_Disk_add
  simp only [Run_bind]
  refine ready_run h ?_
  unfold createF
  by_cases hd : d.down = true
  · simp [hd]
    exact h.did (Fr.refl _ _)
  · simp [-ldA_ptr, hd]
    obtain ⟨m, hm⟩ := h.ml
    refine (parse_run path hs hm).mono ?_
    rintro _ w2 ⟨nv, rfl, f2, hnames⟩
    have h2 := h.fr0 f2
    cases hp : parseF path with
    | none =>
      simp
      exact h2.did (f2.mono fun _ h => h.elim)
    | some names =>
      obtain ⟨hsl, hnew⟩ := hnames names hp
      have hnl' := parse_len hp
      simp [-ldA_ptr]
      refine (walk_run h2 g hsl (by omega)).mono ?_
      rintro _ w3 ⟨rfl, f3⟩
      have h3 := h2.fr0 f3
      have f03 : Fr (fun _ => False) w w3 := f2.trans f3 fun _ _ => id
      have hne : (d.walkF names).1 = 0 → ¬ 0 ≤ (d.walkF names).2.2 → 0 ≤ (d.walkF names).2.1.1 ∧ (d.walkF names).2.1.1 < d.nodes.length := fun h1 h2 => by
        refine walk_dir g (fun he => ?_) h1
        rw [he] at h2
        exact h2 (show (0 : Int) ≤ 0 by omega)
      generalize d.walkF names = s at *
      obtain ⟨e, ⟨a1, a2⟩, node⟩ := s
      simp only at hne
      simp [-ldA_ptr, spotV]
      refine spot_mem fun x w4 hx _ f4 hxle => ?_
      have h4 := h3.fr0 f4
      have f04 : Fr (fun _ => False) w w4 := f03.trans f4 fun _ _ => id
      by_cases k1 : e = 0
      · by_cases k2 : 0 ≤ node
        · simp [-ldA_ptr, k1, k2, hx]
          exact h4.did (f04.mono fun _ h => h.elim)
        · obtain ⟨n1, n2⟩ := hne k1 k2
          obtain ⟨j, hj⟩ : ∃ j : Nat, a1 = j := ⟨a1.toNat, by omega⟩
          have hjl : j < d.nodes.length := by omega
          have hjn : d.nodes[j]? = some d.nodes[j] := List.getElem?_eq_getElem hjl
          generalize d.nodes[j] = nd at hjn
          have hnd : d.nd a1 = nd := by simp [Dk.nd, hj, hjn]
          have hb4 := h4.blk
          simp [-ldA_ptr, k1, k2, hx, hb4, Dk.cells, build_node]
          refine Run_app1 (k := 3) (by simp) h4.nodes (by decide) rfl (by decide) (by simp) (by simp only [List.length_map]; omega) fun r w5 hr f5 hin w6 f6 => ?_
          have hr' : SlW 3 w5 r ((d.nodes ++ [(⟨kind, e0, e0⟩ : Nd)]).map Nd.cells) := by simpa [Nd.cells] using hr
          obtain ⟨g1, g2, tag', g3, g4, g5⟩ := h4.newNodes f5 hr' hin
          have hrc := hr.1.isCell
          have s03 := f03.size
          have hx5 : x ≠ b := fun he => by have := h.bound b (by rw [h.tb]; decide); omega
          have hxn : ¬ inB v.nv x := fun hi => by have := h.bound x (by rw [h.tn x hi]; decide); omega
          have hx7 : bk (sto w5 b 6 [r]) x = some [.int .i64 a1, .string a2, .int .i64 node] := by rw [bk_sto_ne hx5]; exact f5.bk_some hx hxn
          have hlr := hr'.1.lenL
          rw [List.length_map, List.length_append] at hlr
          have e3 : IntKind.i64.wrap (((d.nodes.length + 1 : Nat) : Int) - 1) = d.nodes.length := by
            rw [show ((d.nodes.length + 1 : Nat) : Int) - 1 = d.nodes.length by omega]
            exact wrap_int (by omega) (by omega)
          rw [cells_isCell hrc, show (#[r] : Array Value).toList = [r] from rfl]
          refine ⟨rfl, by simp [hrc], ⟨_, g1, by simp [Dk.cells]⟩, g2, ?_⟩
          have hb7 := g3.blk
          refine ⟨_, by rw [hx7]; rfl, _, by rw [hx7]; rfl, _, by rw [g1]; rfl, ?_⟩
          simp only [hlr, Run_bindO_some, binV_int, intBin_sub, List.length_cons, List.length_nil, Nat.zero_add, e3, build_link, Run_bind, Run_ret]
          have fd : Fr (fun _ => False) (sto w5 b 6 [r]) (sto w5 b 6 [r]).drew := (Fr.refl (fun _ => False) _).drew
          have hjn' : (d.nodes ++ [(⟨kind, e0, e0⟩ : Nd)])[j]? = some nd := by rw [List.getElem?_append_left hjl]; exact hjn
          refine (do_run (g3.fr0 fd) ⟨2, a1, e0, 0, a2, e0, d.nodes.length⟩ (i := j) (nd := nd) hjn' hj ⟨fun h => by simp at h, fun h => by simp at h⟩ hpl).mono ?_
          rintro _ w8 ⟨rfl, h8⟩
          have f07 : Fr (fun c => tag c ≠ 0) w (sto w5 b 6 [r]).drew := ((f04.mono fun _ h => h.elim).trans g4 fun _ _ h => h).drew
          rw [hnd, show a1.toNat = j by omega]
          exact ⟨rfl, DDid.trans h.bound f07 (fun c hc => (g5 c hc).imp id fun h => by have := f04.size; omega) h8⟩
      · simp [-ldA_ptr, k1]
        exact h4.did (f04.mono fun _ h => h.elim)
end
end Go.Proofs.YtojnickeblbgoaaGreatDoor

/-
  Layer 1 (disk), part H: pending changes made safe; Sync, SyncDir; Remove.
-/
namespace Go.Proofs.YtojnickeblbgoaaGreatDoor
open Go.Lift
set_option linter.unusedSimpArgs false
set_option maxHeartbeats 2000000

abbrev Acc := ByteArray × (Slt → Option Int)
def settleStep (i : Int) (acc : Acc) (c : Chg) : Acc := if c.node = i then applyF c acc.1 acc.2 else acc
def foldOk (i : Int) : Acc → List Chg → Prop
  | _, [] => True
  | acc, c :: r => (c.node = i → c.fits acc.1) ∧ foldOk i (settleStep i acc c) r
theorem foldOk_at {i : Int} : ∀ {l : List Chg} {acc : Acc} {k : Nat} {c : Chg}, foldOk i acc l → l[k]? = some c → c.node = i → c.fits ((l.take k).foldl (settleStep i) acc).1
  | [], acc, k, c, _, h, _ => by simp at h
  | x :: l, acc, 0, c, h, hk, hc => by
    simp only [List.getElem?_cons_zero, Option.some.injEq] at hk
    subst hk
    exact h.1 hc
  | x :: l, acc, k + 1, c, h, hk, hc => by
    simp only [List.getElem?_cons_succ] at hk
    exact foldOk_at (l := l) h.2 hk hc
def restOf (i : Int) (l : List Chg) : List Chg := l.filter fun c => decide (c.node ≠ i)
def settleF (d : Dk) (i : Nat) (nd : Nd) : Int × Dk := if d.actF.1 ≠ 0 then d.actF else (0, { d.actF.2 with
  nodes := d.nodes.set i { nd with kept := (d.pending.foldl (settleStep i) (nd.kept, d.kept)).1 }, kept := (d.pending.foldl (settleStep i) (nd.kept, d.kept)).2, pending := restOf i d.pending })
theorem ld7 {w : World} {x : Nat} {c : Chg} (h : bk w x = some c.cells) : ldA 7 (Ptr x) w = some c.val := by rw [ldA_bk h (by simp [Chg.cells])]; rfl
section
variable {w w' w'' : World} {b : Nat} {d d' : Dk} {v : DV} {tag : Nat → Nat}
theorem settle_run (h : DA w b d v tag) {i : Nat} {nd : Nd} (hi : d.nodes[i]? = some nd) (hok : foldOk i (nd.kept, d.kept) d.pending) (hpl : d.pending.length ≤ 16777216) :
    Run (F.disk_Disk_settle (Ptr b) (.int .i64 i)) w fun r w' => r = .int .i64 (settleF d i nd).1 ∧ DDid w w' b tag (settleF d i nd).2 := by
  unfold F.disk_Disk_settle
  simp only [Run_bind]
  refine (act_run h).mono ?_
  rintro _ w2 ⟨rfl, h2, f2⟩
  obtain ⟨an, asn, ak, ap⟩ := actF_same d
  have f2' : Fr (fun c => tag c ≠ 0) w w2 := f2.mono fun c hc => by rw [hc, h.tb]; decide
  by_cases ha : d.actF.1 = 0
  · have hi2 : d.actF.2.nodes[i]? = some nd := by rw [an]; exact hi
    obtain ⟨b0, o, l0, i1, t4, _⟩ := h2.setNode hi2
    have hb2 := h2.blk
    have hpv := h2.pend.1.lenL
    rw [List.length_map, ap] at hpv
    simp [-ldA_ptr, ha, hb2, Dk.cells, i1, hpv]
    have hacc : DA w2 b { d.actF.2 with nodes := d.nodes.set i { nd with kept := nd.kept }, kept := d.kept } { v with lk := v.lk } tag := by
      have e : d.nodes.set i { nd with kept := nd.kept } = d.actF.2.nodes := by
        rw [an]
        apply List.ext_getElem?
        intro j
        by_cases hj : i = j
        · subst hj
          rw [List.getElem?_set_self (List.getElem?_eq_some_iff.1 hi).1, hi]
        · rw [List.getElem?_set_ne hj]
      rw [e, ← ak]
      exact h2
    refine Run_for d.pending.length (fun k s w' => ∃ rest lk, s = [rest, .int .i64 k] ∧ DA w' b { d.actF.2 with nodes := d.nodes.set i { nd with kept := ((d.pending.take k).foldl (settleStep i) (nd.kept, d.kept)).1 }, kept := ((d.pending.take k).foldl (settleStep i) (nd.kept, d.kept)).2 } { v with lk := lk } tag ∧
      SlW 7 w' rest ((restOf i (d.pending.take k)).map Chg.cells) ∧ (∀ c, inB rest c → w.heap.size ≤ c ∧ c < w'.heap.size) ∧ Fr (fun c => tag c ≠ 0) w w') ⟨_, v.lk, rfl, hacc, SlW.nil _ _, fun c hc => hc.elim, f2'⟩ ?_ ?_
    · rintro k s w3 hk ⟨rest, lk, rfl, h3, hrest, hnew, f3⟩
      have ek : d.pending[k]? = some d.pending[k] := List.getElem?_eq_getElem hk
      have etake : d.pending.take (k + 1) = d.pending.take k ++ [d.pending[k]] := by rw [List.take_add_one, ek]; rfl
      rw [etake]
      generalize d.pending[k] = c at ek
      have hk' : (k : Int) < d.pending.length := by omega
      have wk := wrap_succ (n := k) (by omega)
      obtain ⟨q, q1, q2⟩ := h3.pend.1.rdA (i := k) (e := c.cells) (by decide) (by simp [ap, ek]) .i64
      have q1' : idxA 7 v.pv (.int .i64 k) = some q := q1
      have q2' : ldA 7 q w3 = some c.val := q2
      simp only [getL_zero, getL_succ, binV_int, intBin_lss, hk', decide_true, Run_bindO_some, Run_condM_true, Run_bind, q1', Run_rdM, q2', Option.some.injEq, exists_eq_left']
      refine Run_newSt (cs := c.cells.toArray) rfl rfl (by simpa using c.all) fun x w4 hx hxw f4 hxle => ?_
      have hx4 : bk w4 x = some c.cells := by simpa using hx
      have h4 := h3.fr0 f4
      have hrest4 := hrest.fr f4 fun _ _ => id
      have s3 := f3.size
      have s4 := f4.size
      have f04 : Fr (fun c => tag c ≠ 0) w w4 := f3.trans f4 fun _ _ h => h.elim
      have hfold : (d.pending.take k ++ [c]).foldl (settleStep i) (nd.kept, d.kept) = settleStep i ((d.pending.take k).foldl (settleStep i) (nd.kept, d.kept)) c := by rw [List.foldl_append]; rfl
      have hrestF : restOf i (d.pending.take k ++ [c]) = restOf i (d.pending.take k) ++ restOf i [c] := by simp [restOf]
      rw [hfold, hrestF]
      have hfit := foldOk_at hok ek
      generalize (d.pending.take k).foldl (settleStep i) (nd.kept, d.kept) = acc at *
      have e7 := ld7 hx4
      by_cases kc : c.node = i
      · have e1 : settleStep i acc c = applyF c acc.1 acc.2 := by simp [settleStep, kc]
        have e2 : restOf i [c] = [] := by simp [restOf, kc]
        rw [e1, e2, List.append_nil]
        have hi4 : (d.nodes.set i { nd with kept := acc.1 })[i]? = some { nd with kept := acc.1 } := List.getElem?_set_self (List.getElem?_eq_some_iff.1 hi).1
        obtain ⟨b1, o1, l1, j1, t41, j2, _, _, j5, hset⟩ := h4.setNode hi4
        have j1' : idxA 3 v.nv (.int .i64 i) = some (.pointer (some ⟨b1, o1, none⟩)) := j1
        rw [i1] at j1'
        cases j1'
        have hb4 := h4.blk
        have fd : Fr (fun _ => False) w4 w4.drew := (Fr.refl (fun _ => False) w4).drew
        have h4d := h4.fr0 fd
        simp [-ldA_ptr, hx4, Chg.cells, kc, e7, j2, j5, hb4, Dk.cells]
        refine (apply_run (w := w4.drew) (data := acc.1) h4d.kept h4d.keptE (hfit kc)).mono ?_
        rintro _ w5 ⟨rfl, ⟨lk', hm5, he5⟩, f5⟩
        have h5 := h4d.keptSet f5 hm5 he5
        obtain ⟨A, hA⟩ : ∃ A, A = applyF c acc.1 acc.2 := ⟨_, rfl⟩
        simp only at h5
        rw [← hA] at h5 ⊢
        obtain ⟨k1, h6⟩ := (hset w5 _ _ h5 rfl rfl).2 A.1
        rw [List.set_set] at h6
        rw [show (Value.string A.1).cells = #[Value.string A.1] from rfl]
        refine ⟨rfl, by simp, k1.1, k1.2, ?_⟩
        rw [show (#[Value.string A.1] : Array Value).toList = [Value.string A.1] from rfl]
        have f45 : Fr (fun c => tag c ≠ 0) w4 (sto w5 b0 (o + 2) [.string A.1]) := ((fd.mono fun _ h => h.elim).trans f5 fun c _ hc => by rw [hc, h.tk]; decide).sto (b := b0) (.inl (by rw [t4]; decide)) _ _
        have s45 := f45.size
        have s45' := s45
        rw [size_sto] at s45'
        have nb : ∀ c, inB rest c → ¬ tag c ≠ 0 := fun c hc h0 => by have := hnew c hc; have := h.bound c h0; omega
        exact ⟨rest, ⟨rfl, by rw [wk]; omega⟩, ⟨lk', h6⟩, hrest4.fr f45 nb, fun c hc => ⟨(hnew c hc).1, by have := (hnew c hc).2; omega⟩, f04.trans f45 fun _ _ h => h⟩
      · have e1 : settleStep i acc c = acc := by simp [settleStep, kc]
        have e2 : restOf i [c] = [c] := by simp [restOf, kc]
        rw [e1, e2]
        simp [-ldA_ptr, hx4, Chg.cells, kc, e7]
        refine Run_app1 (k := 7) (by simp [Chg.val, Chg.cells]) hrest4 (by decide) rfl (by decide) (by simpa [Chg.val] using c.all) (by
          have : (restOf i (d.pending.take k)).length ≤ d.pending.length := by
            have h1 := List.length_filter_le (fun c => decide (c.node ≠ (i : Int))) (d.pending.take k)
            have h2 := List.length_take_le k d.pending
            simp only [restOf]
            omega
          simp only [List.length_map]
          omega) fun r w5 hr f5 hin w6 f6 => ?_
        have s5 := f5.size
        have f5' : Fr (fun _ => False) w w5 ∨ True := .inr trivial
        have h5 := h4.fr f5 fun c hc => by
          have h1 := hnew c hc
          refine ⟨?_, ?_⟩
          · by_cases h0 : tag c = 0
            · exact h0
            · have := h.bound c h0; omega
          · obtain ⟨m, hm⟩ := h.ml
            have := bk_lt hm
            omega
        refine ⟨r, ⟨rfl, by rw [wk]; omega⟩, ⟨lk, h5⟩, by simpa [Chg.val, Chg.cells] using hr, fun c hc => ?_, f04.trans f5 fun c hc h1 => ?_⟩
        · rcases hin c hc with h' | h'
          · have := hnew c h'; omega
          · omega
        · have := hnew c h1; omega
    · rintro s w3 ⟨rest, lk, rfl, h3, hrest, hnew, f3⟩
      rw [List.take_length] at h3 hrest
      simp
      have hpos : 0 < w.heap.size := by obtain ⟨m, hm⟩ := h.ml; exact bk_lt hm
      obtain ⟨g1, g2, tag', g3, g4, g5⟩ := h3.newPendG (Fr.refl _ w3) hrest fun c hc => .inr ⟨by
        have h1 := hnew c hc
        by_cases h0 : tag c = 0
        · exact h0
        · have := h.bound c h0; omega, (hnew c hc).2, by have := hnew c hc; omega⟩
      have hrc := hrest.1.isCell
      rw [cells_isCell hrc, show (#[rest] : Array Value).toList = [rest] from rfl]
      refine ⟨rfl, by simp [hrc], ⟨_, g1, by simp [Dk.cells]⟩, g2, ?_⟩
      have e : settleF d i nd = (0, { d.actF.2 with nodes := d.nodes.set i { nd with kept := (d.pending.foldl (settleStep i) (nd.kept, d.kept)).1 }, kept := (d.pending.foldl (settleStep i) (nd.kept, d.kept)).2, pending := restOf i d.pending }) := by simp [settleF, ha]
      rw [e]
      exact ⟨rfl, f3.trans g4 fun _ _ h => h, _, tag', g3, fun c hc => (g5 c hc).imp id fun h => (hnew c h).1⟩
  · simp [ha]
    have e : settleF d i nd = d.actF := by simp [settleF, ha]
    rw [e]
    exact ⟨rfl, h2.did f2'⟩
end
end Go.Proofs.YtojnickeblbgoaaGreatDoor

/-
  Layer 1 (disk), part I: a disk begins anew (of files in the root alone).
-/
namespace Go.Proofs.YtojnickeblbgoaaGreatDoor
open Go.Lift
set_option linter.unusedSimpArgs false
set_option maxHeartbeats 4000000

@[simp] theorem cells_map (a : Option Nat) : (Value.map a).cells = #[.map a] := rfl
structure Restarted (d d' : Dk) : Prop where
  same : d'.cap = d.cap ∧ d'.acts = d.acts ∧ d'.reads = d.reads
  off : d'.armed = false ∧ d'.down = false ∧ d'.pending = []
  seen : ∀ k, d'.seen k = d.kept k
  kept : ∀ k, d'.kept k = d.kept k
  len : d'.nodes.length = d.nodes.length
  each : ∀ (i : Nat) nd, d.nodes[i]? = some nd → d'.nodes[i]? = some nd ∨ d'.nodes[i]? = some { nd with seen := nd.kept }
  got : ∀ s k, d.kept s = some k → ∀ nd, d.nodes[k.toNat]? = some nd → d'.nodes[k.toNat]? = some { nd with seen := nd.kept }
def Flat (d : Dk) : Prop := ∀ s k, d.kept s = some k → s.1 = 0 ∧ 0 ≤ k ∧ ∃ nd, d.nodes[k.toNat]? = some nd ∧ nd.kind ≠ 1
/-- Some nodes' bytes are those kept. -/
def Renewed (d : Dk) (N : List Nd) (L : List (Slt × Int)) : Prop := N.length = d.nodes.length ∧ (∀ (i : Nat) nd, d.nodes[i]? = some nd → N[i]? = some nd ∨ N[i]? = some { nd with seen := nd.kept }) ∧ ∀ p ∈ L, ∀ nd, d.nodes[p.2.toNat]? = some nd → N[p.2.toNat]? = some { nd with seen := nd.kept }
section
variable {w w' w'' : World} {b : Nat} {d d' : Dk} {v : DV} {tag : Nat → Nat}
theorem Renewed.step {N : List Nd} {L : List (Slt × Int)} (h : Renewed d N L) {p : Slt × Int} {i : Nat} (hi : p.2 = i) {nd nd0 : Nd} (hd : d.nodes[i]? = some nd0) (hn : N[i]? = some nd) : Renewed d (N.set i { nd with seen := nd.kept }) (L ++ [p]) := by
  obtain ⟨h1, h2, h3⟩ := h
  have hil := (List.getElem?_eq_some_iff.1 hn).1
  have e : { nd with seen := nd.kept } = ({ nd0 with seen := nd0.kept } : Nd) := by
    rcases h2 i nd0 hd with h | h
    · rw [hn] at h; cases h; rfl
    · rw [hn] at h; cases h; rfl
  refine ⟨by simp [h1], fun j x hx => ?_, fun q hq x hx => ?_⟩
  · by_cases hj : i = j
    · subst hj
      rw [hd] at hx; cases hx
      rw [List.getElem?_set_self hil, e]
      exact .inr rfl
    · rw [List.getElem?_set_ne hj]; exact h2 j x hx
  · by_cases hj : i = q.2.toNat
    · rw [← hj] at hx ⊢
      rw [hd] at hx; cases hx
      rw [List.getElem?_set_self hil, e]
    · rw [List.getElem?_set_ne hj]
      rcases List.mem_append.1 hq with hq | hq
      · exact h3 q hq x hx
      · simp at hq
        subst hq
        exact absurd (by omega) hj
theorem getK_seen {l : List (Slt × Int)} (hn : (l.map (·.1)).Nodup) {js : List Nat} {j : Nat} {p : Slt × Int} (hp : l[j]? = some p) (hj : j ∉ js) : getK p.1 (js.filterMap fun j => l[j]?) = none := by
  rw [getK_none]
  intro q hq he
  obtain ⟨i, hi, hq'⟩ := List.mem_filterMap.1 hq
  have a1 : (l.map (·.1))[i]? = some p.1 := by rw [List.getElem?_map, hq']; simp [he]
  have a2 : (l.map (·.1))[j]? = some p.1 := by rw [List.getElem?_map, hp]; rfl
  obtain ⟨b1, c1⟩ := List.getElem?_eq_some_iff.1 a1
  obtain ⟨b2, c2⟩ := List.getElem?_eq_some_iff.1 a2
  have : i = j := by
    have h := List.pairwise_iff_getElem.1 hn
    rcases Nat.lt_trichotomy i j with h1 | h1 | h1
    · exact absurd (c1.trans c2.symm) (h i j b1 b2 h1)
    · exact h1
    · exact absurd (c2.trans c1.symm) (h j i b2 b1 h1)
  exact hj (this ▸ hi)
theorem restart_run (h : DA w b d v tag) (hflat : Flat d) : Run (F.disk_Disk_restart (Ptr b)) w fun _ w' => ∃ d', Restarted d d' ∧ DDid w w' b tag d' := by
  unfold F.disk_Disk_restart
  have hb := h.blk
  have hw := h.wr
  have hbl := bk_lt hb
  simp [-ldA_ptr, hb, hw, Dk.cells]
  obtain ⟨w1, hw1⟩ : ∃ w1, w1 = sto (sto (sto w b 9 [.slice none 0 0]) b 3 [.bool false]) b 5 [.bool false] := ⟨_, rfl⟩
  rw [← hw1]
  have hb1 : bk w1 b = some [.int .i64 d.cap, .int .i64 d.acts, .int .i64 d.reads, .bool false, .int .i64 d.left, .bool false, v.nv, .map (some v.bs), .map (some v.bk), .slice none 0 0] := by
    rw [hw1]; simp [hb, Dk.cells]
  have hwr1 : wr w1 b = true := by rw [hw1]; simpa using hw
  have f1 : Fr (fun c => c = b) w w1 := by
    rw [hw1]
    exact (((Fr.refl (fun c => c = b) w).sto (.inl rfl) _ _).sto (.inl rfl) _ _).sto (.inl rfl) _ _
  clear hw1
  refine Run_mkmM (kv := slv) (vv := idv) fun w2 m1 hm1 f2 hm1le => ?_
  refine Run_mkmM (kv := slv) (vv := idv) fun w3 m2 hm2 f3 hm2le => ?_
  have hb3 := f3.bk_some (f2.bk_some hb1 id) id
  have hwr3 : wr w3 b = true := by rw [f3.wr (bk_lt (f2.bk_some hb1 id)) id, f2.wr (bk_lt hb1) id]; exact hwr1
  simp [-ldA_ptr, hb3, hwr3]
  have z1 := f1.size
  have z2 := f2.size
  have z3 := f3.size
  have hmm : m1 ≠ m2 := by have := hm1.lt; omega
  have hm1l := hm1.lt
  have hm2l := hm2.lt
  obtain ⟨w4, hw4⟩ : ∃ w4, w4 = sto (sto w3 b 7 [.map (some m1)]) b 8 [.map (some m2)] := ⟨_, rfl⟩
  rw [← hw4]
  have hb4 : bk w4 b = some [.int .i64 d.cap, .int .i64 d.acts, .int .i64 d.reads, .bool false, .int .i64 d.left, .bool false, v.nv, .map (some m1), .map (some m2), .slice none 0 0] := by
    rw [hw4]; simp [hb3]
  have hwr4 : wr w4 b = true := by rw [hw4]; simpa using hwr3
  have f34 : Fr (fun c => c = b) w3 w4 := by
    rw [hw4]
    exact ((Fr.refl (fun c => c = b) w3).sto (.inl rfl) _ _).sto (.inl rfl) _ _
  have z4 := f34.size
  clear hw4
  refine Run_bsl (k := 1) (n := 1) (vs := [.int .i64 0]) rfl (by simp) rfl (by simp [size_zeroCells]) fun rv w5 hrv f5 hrvn => ?_
  have z5 := f5.size
  have f05 : Fr (fun c => c = b) w w5 := ((((f1.trans f2 fun _ _ h => h.elim).trans f3 fun _ _ h => h.elim).trans f34 fun _ _ h => h).trans f5 fun _ _ h => h.elim)
  have hb5 := f5.bk_some hb4 id
  have hwr5 : wr w5 b = true := by rw [f5.wr (bk_lt hb4) id]; exact hwr4
  have nb1 : ∀ c, tag c ≠ 1 → ¬ c = b := fun c hc he => hc (by rw [he]; exact h.tb)
  have hm15 : MapAt slv idv w5 m1 ([] : List (Slt × Int)) := ((hm1.fr f3 id).fr f34 (by omega)).fr f5 id
  have hm25 : MapAt slv idv w5 m2 ([] : List (Slt × Int)) := (hm2.fr f34 (by omega)).fr f5 id
  have hold5 : MapAt slv idv w5 v.bk v.lk := h.kept.fr f05 (nb1 _ (by rw [h.tk]; decide))
  have hbk := h.bound v.bk (by rw [h.tk]; decide)
  obtain ⟨ml, hml⟩ := h.ml
  obtain ⟨tag0, t1, t2, t3, t4⟩ : ∃ tag0 : Nat → Nat, tag0 m1 = 2 ∧ tag0 m2 = 3 ∧ (∀ c, c < w.heap.size → tag0 c = tag c) ∧ ∀ c, tag0 c ≠ 0 → tag c ≠ 0 ∨ c = m1 ∨ c = m2 := by
    refine ⟨fun c => if c = m1 then 2 else if c = m2 then 3 else tag c, by simp, by simp [Ne.symm hmm], fun c hc => ?_, fun c hc => ?_⟩
    · have h1 : c ≠ m1 := by omega
      have h2 : c ≠ m2 := by omega
      simp [h1, h2]
    · by_cases h1 : c = m1
      · exact .inr (.inl h1)
      · by_cases h2 : c = m2
        · exact .inr (.inr h2)
        · simp [h1, h2] at hc; exact .inl hc
  have told : ∀ c, tag c ≠ 0 → tag0 c = tag c := fun c hc => t3 c (h.bound c hc)
  have hDA : ∀ w' N L, Fr (fun c => c = b ∨ tag c = 4 ∨ w.heap.size ≤ c) w w' → bk w' b = some [.int .i64 d.cap, .int .i64 d.acts, .int .i64 d.reads, .bool false, .int .i64 d.left, .bool false, v.nv, .map (some m1), .map (some m2), .slice none 0 0] → wr w' b = true → SlW 3 w' v.nv (N.map Nd.cells) → MapAt slv idv w' m1 L → MapAt slv idv w' m2 L →
      DA w' b { d with armed := false, down := false, pending := [], nodes := N, seen := fun k => getK k L, kept := fun k => getK k L } ⟨v.nv, .slice none 0 0, m1, m2, L, L⟩ tag0 := by
    intro w' N L f hb' hw' hN h1 h2
    have s := f.size
    refine ⟨hb', hw', hN, h1, fun _ => rfl, h2, fun _ => rfl, SlW.nil 7 w', by rw [told b (by rw [h.tb]; decide)]; exact h.tb, t1, t2, fun c hc => by rw [told c (by rw [h.tn c hc]; decide)]; exact h.tn c hc, fun c hc => hc.elim, by rw [t3 0 (bk_lt hml)]; exact h.t0, ⟨ml, f.bk_some hml ?_⟩, fun c hc => ?_⟩
    · have := bk_lt hml
      rintro (h' | h' | h')
      · exact nb1 0 (by rw [h.t0]; decide) h'
      · rw [h.t0] at h'; cases h'
      · omega
    · rcases t4 c hc with h' | h' | h'
      · have := h.bound c h'; omega
      · rw [h']; exact h1.lt
      · rw [h']; exact h2.lt
  obtain ⟨Fin, hFin⟩ : ∃ Fin : World → Prop, ∀ w', Fin w' ↔ ∃ N L, (∀ k, getK k L = d.kept k) ∧ Renewed d N L ∧ DA w' b { d with armed := false, down := false, pending := [], nodes := N, seen := fun k => getK k L, kept := fun k => getK k L } ⟨v.nv, .slice none 0 0, m1, m2, L, L⟩ tag0 ∧ Fr (fun c => tag c ≠ 0) w w' := ⟨_, fun _ => Iff.rfl⟩
  refine Run_for 1 (fun i l w' => ∃ rv', l = [rv'] ∧ (i = 0 → w' = w5 ∧ rv' = rv) ∧ (i = 1 → lenL rv' = some (.int .i64 0) ∧ Fin w')) ⟨rv, rfl, fun _ => ⟨rfl, rfl⟩, fun h => by cases h⟩ ?_ ?_
  · rintro i l w6 hi ⟨rv', rfl, hi0, _⟩
    obtain rfl : i = 0 := by omega
    obtain ⟨rfl, rfl⟩ := hi0 rfl
    have hrl := hrv.1.lenL
    obtain ⟨q, q1, q2⟩ := hrv.1.rd1 (i := 0) (y := .int .i64 0) rfl .i64
    obtain ⟨rv2, k1, k2, _⟩ := hrv.1.drop (n := 1) (by simp) .i64
    have k2l := k2.lenL
    have q1' : idxA 1 rv' (.int .i64 0) = some q := q1
    have k1' : sliceV 1 rv' (some (.int .i64 1)) none = some rv2 := k1
    simp [-ldA_ptr, hrl, q1', q2, k1']
    refine Run_rngM hold5 fun w7 r hit f7 hr => ?_
    refine Run_range (k := fun _ _ => _) (fun x => rfl) (fun js x w' => x = [rv2] ∧ ∃ N, Renewed d N (js.filterMap fun j => v.lk[j]?) ∧ DA w' b { d with armed := false, down := false, pending := [], nodes := N, seen := fun k => getK k (js.filterMap fun j => v.lk[j]?), kept := fun k => getK k (js.filterMap fun j => v.lk[j]?) } ⟨v.nv, .slice none 0 0, m1, m2, js.filterMap fun j => v.lk[j]?, js.filterMap fun j => v.lk[j]?⟩ tag0 ∧ Fr (fun c => tag c ≠ 0) w w') ⟨rfl, d.nodes, ⟨rfl, fun i nd h => .inl h, fun p hp => by simp at hp⟩, ?_, ?_⟩ hit ?_ ?_
    · have f07 : Fr (fun c => c = b ∨ tag c = 4 ∨ w.heap.size ≤ c) w w7 := (f05.mono fun c hc => Or.inl hc).trans f7 fun _ _ h => h.elim
      exact hDA w7 d.nodes [] f07 (f7.bk_some hb5 id) (by rw [f7.wr (bk_lt hb5) id]; exact hwr5) ((h.nodes.fr f05 fun c hc => nb1 c (by rw [h.tn c hc]; decide)).fr f7 fun _ _ => id) (hm15.fr f7 id) (hm25.fr f7 id)
    · exact (f05.mono fun c hc => by rw [hc, h.tb]; decide).trans f7 fun _ _ h => h.elim
    · rintro js j p x wa wb hp hj ⟨rfl, N, hN, hda, fa⟩ hitb fb sb
      have za := fa.size
      have zr : w6.heap.size ≤ r := hr
      have rtag : tag0 r = 0 := by
        by_cases h0 : tag0 r = 0
        · exact h0
        · rcases t4 r h0 with h' | h' | h'
          · have := h.bound r h'; omega
          · omega
          · omega
      have hdb := hda.fr fb fun c hc => ⟨by rw [hc]; exact rtag, by omega⟩
      have he := hitb.entry hp
      have hgp := getK_of_mem h.kept.nodup (show (p.1, p.2) ∈ v.lk from List.mem_of_getElem? hp)
      rw [h.keptE p.1] at hgp
      obtain ⟨p0, ppos, nd0, hnd0, hkind⟩ := hflat _ _ hgp
      have hno := getK_seen h.kept.nodup hp hj
      have hLp : (js ++ [j]).filterMap (fun j => v.lk[j]?) = (js.filterMap fun j => v.lk[j]?) ++ [p] := by simp [List.filterMap_append, hp]
      rw [hLp]
      generalize (js.filterMap fun j => v.lk[j]?) = L at *
      obtain ⟨⟨pd, pn⟩, pk⟩ := p
      simp only at p0 ppos hnd0 hno hgp
      subst p0
      simp [-ldA_ptr, he, slv]
      refine Run_newSt (cs := #[.int .i64 0, .string pn]) rfl rfl (by simp) fun x wc hx hxw fc hxle => ?_
      have hdc := hdb.fr0 fc
      have hx' : bk wc x = some [.int .i64 0, .string pn] := hx
      have hbc := hdc.blk
      have hl2 : ∀ w', bk w' x = some [.int .i64 0, .string pn] → ldA 2 (Ptr x) w' = some (slv (0, pn)) := fun w' hh => by rw [ldA_bk hh (by simp)]; rfl
      simp [-ldA_ptr, hx', hbc, Dk.cells, hl2 wc hx']
      have fdr : Fr (fun _ => False) wc wc.drew := (Fr.refl (fun _ => False) wc).drew
      have hdd := hdc.fr0 fdr
      have m1b := hdb.bound m1 (by rw [t1]; decide)
      have m2b := hdb.bound m2 (by rw [t2]; decide)
      have hxm1 : x ≠ m1 := by omega
      have hxm2 : x ≠ m2 := by omega
      refine Run_mentM (kv := slv) (vv := idv) keyS hdd.seen hno fun wd cd hh1 fd1 sd1 => ?_
      have hxd : bk wd x = some [.int .i64 0, .string pn] := fd1.bk_some (w := wc.drew) hx' hxm1
      simp only [extV_tuple, List.getElem?_toArray, List.getElem?_cons_succ, List.getElem?_cons_zero, Run_bindO_some, Run_bind]
      refine Run_estM hh1 pk fun we hme fe1 se1 => ?_
      have hxe : bk we x = some [.int .i64 0, .string pn] := fe1.bk_some hxd hxm1
      simp only [Run_getM, Run_bind]
      have fm1 : Fr (fun c => c = m1) wc.drew we := fd1.trans fe1 fun _ _ h => h
      have hde := hdd.seenSet (m := fun k => getK k (L ++ [((0, pn), pk)])) fm1 hme fun _ => rfl
      refine Run_mentM (kv := slv) (vv := idv) keyS hde.kept hno fun wf cf hh2 ff1 sf1 => ?_
      simp only [extV_tuple, List.getElem?_toArray, List.getElem?_cons_succ, List.getElem?_cons_zero, Run_getM, Run_bindO_some, Run_bind]
      refine Run_estM hh2 pk fun wg hmg fg1 sg1 => ?_
      have fm2 : Fr (fun c => c = m2) we wg := ff1.trans fg1 fun _ _ h => h
      have hdg := hde.keptSet (m := fun k => getK k (L ++ [((0, pn), pk)])) fm2 hmg fun _ => rfl
      obtain ⟨nd, hnd, hke⟩ : ∃ nd, N[pk.toNat]? = some nd ∧ nd.kind = nd0.kind := by
        rcases hN.2.1 _ nd0 hnd0 with h' | h'
        · exact ⟨_, h', rfl⟩
        · exact ⟨_, h', rfl⟩
      obtain ⟨i, hi⟩ : ∃ i : Nat, pk = i := ⟨pk.toNat, by omega⟩
      have hin : pk.toNat = i := by omega
      rw [hin] at hnd hnd0
      obtain ⟨b0, o, l0, i1, t40, i2, q0, qq1, qq2, hset⟩ := hdg.setNode hnd
      have i1' : idxA 3 v.nv (idv pk) = some (.pointer (some ⟨b0, o, none⟩)) := by rw [hi]; exact i1
      have hbg := hdg.blk
      simp [-ldA_ptr, hl2 wd hxd, hl2 we hxe, hbg, Dk.cells, i1', i2, qq2]
      obtain ⟨y1, y2⟩ := (hset wg.drew _ _ (hdg.fr0 (Fr.refl (fun _ => False) wg).drew) rfl rfl).1 nd.kept
      have hb0w : b0 < w.heap.size := by
        rcases t4 b0 (by rw [t40]; decide) with h' | h' | h'
        · exact h.bound b0 h'
        · rw [h', t1] at t40; cases t40
        · rw [h', t2] at t40; cases t40
      have hb0b : b0 ≠ b := fun he => by
        rw [he, told b (by rw [h.tb]; decide), h.tb] at t40; cases t40
      have hb0bk : v.bk ≠ b0 := fun he => by
        rw [← he, told v.bk (by rw [h.tk]; decide), h.tk] at t40; cases t40
      have zz := fb.size
      have zc := fc.size
      have zm1 := fm1.size
      have zm2 := fm2.size
      have zd : wc.drew.heap.size = wc.heap.size := rfl
      obtain ⟨⟨l', hl', hle⟩, hwrb⟩ := y1
      have hll : l' = l0 := by
        have h2 : bk wg b0 = some l' := hl'
        rw [i2] at h2
        cases h2; rfl
      rw [hll] at hle
      refine ⟨hle, hwrb, v.nv, by rw [y2.blk]; rfl, ?_⟩
      have hkne : ¬ nd.kind = 1 := by rw [hke]; exact hkind
      have hk0 : bk (sto wg.drew b0 (o + 1) [.string nd.kept]) b0 = some (l0.set (o + 1) (.string nd.kept)) := by rw [bk_sto_eq, bk_drew, i2]; rfl
      have hk1 : (l0.set (o + 1) (.string nd.kept))[o]? = some (.int .i64 nd.kind) := by rw [List.getElem?_set_ne (by omega)]; exact q0
      have t4b : tag b0 ≠ 0 := by rw [← t3 b0 hb0w, t40]; decide
      have fbz : Fr (fun c => c = m1 ∨ c = m2 ∨ c = b0) wb (sto wg.drew b0 (o + 1) [.string nd.kept]) := by
        refine Fr.sto (b := b0) (Fr.drew ?_) (.inl (.inr (.inr rfl))) _ _
        refine ((((fc.trans fdr fun _ _ h => h).mono fun _ h => h.elim).trans fm1 fun c _ hc => ?_).trans fm2 fun c _ hc => ?_)
        · exact .inl hc
        · exact .inr (.inl hc)
      simp [i1', hk0, hk1, hkne]
      have hst := hN.step (p := ((0, pn), pk)) (i := i) hi hnd0 hnd
      refine ⟨⟨_, hst, y2, ?_⟩, hitb.fr fbz (fun hc => ?_) (fun hc => ?_)⟩
      · refine (fa.trans fb fun c hc he => by omega).trans fbz fun c hc h' => ?_
        rcases h' with h' | h' | h'
        · omega
        · omega
        · rw [h']; exact t4b
      · rcases hc with h' | h' | h'
        · omega
        · omega
        · exact hb0bk h'
      · rcases hc with h' | h' | h'
        · omega
        · omega
        · omega
    · rintro js x wa wb hperm ⟨rfl, N, hN, hda, fa⟩ hitb fb sb
      have hLperm := perm_all hperm
      have hdb := hda.fr0 fb
      generalize (js.filterMap fun j => v.lk[j]?) = L at *
      simp [k2l]
      refine (hFin wb).2 ⟨N, L, fun k => ?_, hN, hdb, fa.trans fb fun _ _ h => h.elim⟩
      rw [← h.keptE k]
      have hnd : (L.map (·.1)).Nodup := (hLperm.map _).nodup_iff.2 h.kept.nodup
      cases hg : getK k v.lk with
      | none =>
        rw [getK_none] at hg ⊢
        exact fun q hq => hg q (hLperm.mem_iff.1 hq)
      | some y => exact getK_of_mem hnd (hLperm.mem_iff.2 (getK_mem hg))
  · rintro l w6 ⟨rv', rfl, _, hi1⟩
    obtain ⟨hl0, hf⟩ := hi1 rfl
    obtain ⟨N, L, e1, e2, e3, e4⟩ := (hFin w6).1 hf
    simp [hl0]
    refine ⟨{ d with armed := false, down := false, pending := [], nodes := N, seen := fun k => getK k L, kept := fun k => getK k L }, ⟨⟨rfl, rfl, rfl⟩, ⟨rfl, rfl, rfl⟩, e1, e1, e2.1, e2.2.1, fun s k hk nd hnd => e2.2.2 (s, k) (getK_mem (by rw [e1]; exact hk)) nd hnd⟩, e4, _, tag0, e3, fun c hc => ?_⟩
    rcases t4 c hc with h' | h' | h'
    · exact .inl h'
    · exact .inr (by omega)
    · exact .inr (by omega)
end
end Go.Proofs.YtojnickeblbgoaaGreatDoor

/-
  Layer 1 (disk), part J: a loss of power (of files in the root alone).
-/
namespace Go.Proofs.YtojnickeblbgoaaGreatDoor
open Go.Lift
set_option linter.unusedSimpArgs false
set_option maxHeartbeats 4000000

def clampN (k : Int) (n : Nat) : Nat := if (n : Int) < k then n else k.toNat
theorem clamp_le (k : Int) (n : Nat) : clampN k n ≤ n := by unfold clampN; split <;> omega
theorem clamp_run (k : Int) (n : Nat) {Q : Value → World → Prop} {w : World} (q : Q (.int .i64 (clampN k n)) w) : Run (optM (minV (.int .i64 k) (.int .i64 n))) w fun x w1 => Run (optM (maxV (.int .i64 0) x)) w1 Q := by
  have e : ∀ z : Int, z = (if (n : Int) < k then (n : Int) else k) → (if z > 0 then z else 0) = (clampN k n : Nat) := by
    intro z hz
    subst hz
    unfold clampN
    split <;> split <;> omega
  simp only [minV, maxV, Run_optM_some]
  rw [e _ rfl]
  exact q
def crashL (P : List Chg) (keep torn : Int) : List Chg := P.take (clampN keep P.length) ++ (match P[clampN keep P.length]? with
  | some c => if c.what = 0 then [{ c with data := c.data.extract 0 (clampN torn c.data.size) }] else []
  | none => [])
abbrev CSt := List Nd × (Slt → Option Int)
def ndAt (l : List Nd) (i : Int) : Nd := (l[i.toNat]?).getD ⟨0, e0, e0⟩
def cStep (st : CSt) (c : Chg) : CSt := (st.1.set c.node.toNat { ndAt st.1 c.node with kept := (applyF c (ndAt st.1 c.node).kept st.2).1 }, (applyF c (ndAt st.1 c.node).kept st.2).2)
def crashOk : CSt → List Chg → Prop
  | _, [] => True
  | st, c :: r => (0 ≤ c.node ∧ c.node < st.1.length ∧ c.fits (ndAt st.1 c.node).kept) ∧ crashOk (cStep st c) r
theorem crashOk_at : ∀ {l : List Chg} {st : CSt} {k : Nat} {c : Chg}, crashOk st l → l[k]? = some c → 0 ≤ c.node ∧ c.node < ((l.take k).foldl cStep st).1.length ∧ c.fits (ndAt ((l.take k).foldl cStep st).1 c.node).kept
  | [], st, k, c, _, h => by simp at h
  | x :: l, st, 0, c, h, hk => by
    simp only [List.getElem?_cons_zero, Option.some.injEq] at hk
    subst hk
    exact h.1
  | x :: l, st, k + 1, c, h, hk => by
    simp only [List.getElem?_cons_succ] at hk
    exact crashOk_at (l := l) h.2 hk

section
variable {w w' w'' : World} {b : Nat} {d d' : Dk} {v : DV} {tag : Nat → Nat}
theorem clone_run {x : Value} {l : List Chg} (hx : Sl 7 w x (l.map Chg.cells)) (hl : l.length ≤ 16777216) : Run (F.disk_change x) w fun r w' => SlW 7 w' r (l.map Chg.cells) ∧ New w w' r ∧ Fr (fun _ => False) w w' := by
  unfold F.disk_change
  have hx' := hx
  obtain ⟨h1, a, c, rfl, h2, h3⟩ := hx'
  simp only [List.length_map] at hx
  cases a with
  | none =>
    have hl0 : l = [] := by
      rcases h3 with h3 | ⟨b, o, y, h4, _⟩
      · apply List.eq_nil_of_length_eq_zero
        simp at h2
        omega
      · cases h4
    subst hl0
    simp
    exact ⟨SlW.nil _ _, fun c hc => hc.elim, Fr.refl _ _⟩
  | some a =>
    simp
    refine Run_bsl (k := 7) (n := 0) (vs := []) rfl (by simp) rfl (by simp [size_zeroCells]) fun r w1 hr f1 hrn => ?_
    have hr0 : SlW 7 w1 r [] := hr
    refine Run_appM (fls := l.map Chg.cells) hr0 (hx.fr0 f1) (by decide) rfl (by decide) (fun e he => by
      obtain ⟨y, _, rfl⟩ := List.mem_map.1 he
      exact y.all) (by simp; omega) fun r2 w2 hr2 f2 hin => ?_
    have s1 := f1.size
    have s2 := f2.size
    refine ⟨by simpa using hr2, fun c hc => ?_, f1.new f2 fun c hc => by have := hrn c hc; omega⟩
    rcases hin c hc with h' | h'
    · have := hrn c h'; omega
    · omega
theorem crash_loop (h : DA w b d v tag) {x : Value} {L : List Chg} (hx : Sl 7 w x (L.map Chg.cells)) (hxt : ∀ c, inB x c → tag c ≠ 3 ∧ tag c ≠ 4) (hLl : L.length ≤ 16777216) (hok : crashOk (d.nodes, d.kept) L) {Q : Out → World → Prop} {step : List Value → M Out}
    (hstep : ∀ l, step l = (
        bindO (binV BinOp.lss (getL l 0) (Value.int IntKind.i64 (L.length : Nat))) fun x64 =>
        condM x64 (
          bindO (idxA 7 x (getL l 0)) fun x65 =>
          M.bind (rdM (ldA 7 x65)) fun x66 =>
          M.bind (newM 141 #[(Value.int IntKind.i64 0), (Value.int IntKind.i64 0), (Value.string ByteArray.empty), (Value.int IntKind.i64 0), (Value.string ByteArray.empty), (Value.string ByteArray.empty), (Value.int IntKind.i64 0)]) fun x67 =>
          M.bind (stM 7 x67 x66) fun _ =>
          drewM <|
          bindO (nilChk (Ptr b)) fun x69 =>
          bindO (fieldA 6 x69) fun x70 =>
          M.bind (rdM (ld1 x70)) fun x71 =>
          bindO (fieldA 1 x67) fun x72 =>
          M.bind (rdM (ld1 x72)) fun x73 =>
          bindO (idxA 3 x71 x73) fun x74 =>
          drewM <|
          M.bind (rdM (ldA 7 x67)) fun x75 =>
          bindO (nilChk x74) fun x76 =>
          bindO (fieldA 2 x76) fun x77 =>
          M.bind (rdM (ld1 x77)) fun x78 =>
          bindO (nilChk (Ptr b)) fun x79 =>
          bindO (fieldA 8 x79) fun x80 =>
          M.bind (rdM (ld1 x80)) fun x81 =>
          M.bind (F.disk_apply x75 x78 x81) fun x82 =>
          bindO (nilChk x74) fun x83 =>
          bindO (fieldA 2 x83) fun x84 =>
          M.bind (stM 1 x84 x82) fun _ =>
          bindO (binV BinOp.add (getL l 0) (Value.int IntKind.i64 1)) fun x86 =>
          M.ret (Out.norm [x86])) (
          M.ret (Out.exit 0 [(getL l 0)]))))
    (q : ∀ w' v', DA w' b { d with nodes := (L.foldl cStep (d.nodes, d.kept)).1, kept := (L.foldl cStep (d.nodes, d.kept)).2 } v' tag → Fr (fun c => tag c ≠ 0) w w' → Q (.exit 0 [.int .i64 (L.length : Nat)]) w') : Run (loopM step [.int .i64 0]) w Q := by
  refine Run_for L.length (fun k s w' => s = [.int .i64 k] ∧ ∃ lk, DA w' b { d with nodes := ((L.take k).foldl cStep (d.nodes, d.kept)).1, kept := ((L.take k).foldl cStep (d.nodes, d.kept)).2 } { v with lk := lk } tag ∧ Fr (fun c => tag c = 3 ∨ tag c = 4) w w') ⟨rfl, v.lk, h, Fr.refl _ _⟩ ?_ ?_
  · rintro k s w3 hk ⟨rfl, lk, h3, f3⟩
    rw [hstep]
    have ek : L[k]? = some L[k] := List.getElem?_eq_getElem hk
    have etake : L.take (k + 1) = L.take k ++ [L[k]] := by rw [List.take_add_one, ek]; rfl
    rw [etake]
    generalize L[k] = c at ek
    have hk' : (k : Int) < L.length := by omega
    have wk := wrap_succ (n := k) (by omega)
    have hx3 := hx.fr f3 fun c hc => by have := hxt c hc; omega
    obtain ⟨q, q1, q2⟩ := hx3.rdA (i := k) (e := c.cells) (by decide) (by simp [ek]) .i64
    have q2' : ldA 7 q w3 = some c.val := q2
    simp only [getL_zero, getL_succ, binV_int, intBin_lss, hk', decide_true, Run_bindO_some, Run_condM_true, Run_bind, q1, Run_rdM, q2', Option.some.injEq, exists_eq_left']
    refine Run_newSt (cs := c.cells.toArray) rfl rfl (by simpa using c.all) fun y w4 hy hyw f4 hyle => ?_
    have hy4 : bk w4 y = some c.cells := by simpa using hy
    have h4 := h3.fr0 f4
    have s3 := f3.size
    have s4 := f4.size
    have hfold : (L.take k ++ [c]).foldl cStep (d.nodes, d.kept) = cStep ((L.take k).foldl cStep (d.nodes, d.kept)) c := by rw [List.foldl_append]; rfl
    rw [hfold]
    obtain ⟨hn0, hn1, hfit⟩ := crashOk_at hok ek
    generalize (L.take k).foldl cStep (d.nodes, d.kept) = st at *
    obtain ⟨i, hi⟩ : ∃ i : Nat, c.node = i := ⟨c.node.toNat, by omega⟩
    have hin : c.node.toNat = i := by omega
    have hil : i < st.1.length := by omega
    have hnd : st.1[i]? = some (ndAt st.1 c.node) := by simp [ndAt, hin, hil]
    have hcs : cStep st c = (st.1.set i { ndAt st.1 c.node with kept := (applyF c (ndAt st.1 c.node).kept st.2).1 }, (applyF c (ndAt st.1 c.node).kept st.2).2) := by simp [cStep, hin]
    rw [hcs]
    generalize ndAt st.1 c.node = nd at *
    obtain ⟨b0, o, l0, i1, t4, i2, _, _, i5, hset⟩ := h4.setNode hnd
    have hb4 := h4.blk
    have e7 := ld7 hy4
    have fd : Fr (fun _ => False) w4 w4.drew.drew := (Fr.refl (fun _ => False) w4).drew.drew
    have h4d := h4.fr0 fd
    simp [-ldA_ptr, hy4, Chg.cells, hi, i1, e7, i2, i5, hb4, Dk.cells]
    refine (apply_run (w := w4.drew.drew) (data := nd.kept) h4d.kept h4d.keptE hfit).mono ?_
    rintro _ w5 ⟨rfl, ⟨lk', hm5, he5⟩, f5⟩
    have h5 := h4d.keptSet f5 hm5 he5
    obtain ⟨A, hA⟩ : ∃ A, A = applyF c nd.kept st.2 := ⟨_, rfl⟩
    simp only at h5
    rw [← hA] at h5 ⊢
    obtain ⟨y1, h6⟩ := (hset w5 _ _ h5 rfl rfl).2 A.1
    rw [show (Value.string A.1).cells = #[Value.string A.1] from rfl]
    refine ⟨rfl, by simp, y1.1, y1.2, ?_⟩
    rw [show (#[Value.string A.1] : Array Value).toList = [Value.string A.1] from rfl]
    have f46 : Fr (fun c => tag c = 3 ∨ tag c = 4) w4 (sto w5 b0 (o + 2) [.string A.1]) := ((fd.mono fun _ h => h.elim).trans f5 fun c _ hc => by rw [hc]; exact .inl h.tk).sto (b := b0) (.inl (.inr t4)) _ _
    exact ⟨by rw [wk]; omega, ⟨lk', h6⟩, (f3.trans f4 fun _ _ h => h.elim).trans f46 fun _ _ h => h⟩
  · rintro s w3 ⟨rfl, lk, h3, f3⟩
    rw [hstep]
    rw [List.take_length] at h3
    simp
    exact q w3 _ h3 (f3.mono fun c hc => by omega)
theorem crash_run (h : DA w b d v tag) {keep torn : Int} (hpl : d.pending.length ≤ 1048576) (hok : crashOk (d.nodes, d.kept) (crashL d.pending keep torn)) (hflat : Flat { d with nodes := ((crashL d.pending keep torn).foldl cStep (d.nodes, d.kept)).1, kept := ((crashL d.pending keep torn).foldl cStep (d.nodes, d.kept)).2 }) :
    Run (F.disk_Disk_Crash (Ptr b) (.int .i64 keep) (.int .i64 torn)) w fun _ w' => ∃ d', Restarted { d with nodes := ((crashL d.pending keep torn).foldl cStep (d.nodes, d.kept)).1, kept := ((crashL d.pending keep torn).foldl cStep (d.nodes, d.kept)).2 } d' ∧ DDid w w' b tag d' := by
  unfold F.disk_Disk_Crash
  have hb := h.blk
  have hpv := h.pend.1.lenL
  rw [List.length_map] at hpv
  simp [-ldA_ptr, hb, Dk.cells, hpv]
  refine clamp_run keep d.pending.length ?_
  have hkle := clamp_le keep d.pending.length
  obtain ⟨k, hk⟩ : ∃ k, k = clampN keep d.pending.length := ⟨_, rfl⟩
  have hL : crashL d.pending keep torn = d.pending.take k ++ (match d.pending[k]? with
    | some c => if c.what = 0 then [{ c with data := c.data.extract 0 (clampN torn c.data.size) }] else []
    | none => []) := by rw [hk]; rfl
  rw [← hk] at hkle ⊢
  have fd : Fr (fun _ => False) w w.drew := (Fr.refl (fun _ => False) w).drew
  have hd := h.fr0 fd
  obtain ⟨sv, k1, k2, k3⟩ := hd.pend.1.take (n := k) (by simpa using hkle) .i64
  have ws : IntKind.i64.wrap ((d.pending.length : Int) - k) = (d.pending.length : Int) - k := wrap_int (by omega) (by omega)
  simp [-ldA_ptr, hb, Dk.cells, hpv, k1, ws]
  have hLlen : (crashL d.pending keep torn).length ≤ 16777216 := by
    rw [hL, List.length_append, List.length_take]
    have : (match d.pending[k]? with
      | some c => if c.what = 0 then [{ c with data := c.data.extract 0 (clampN torn c.data.size) }] else []
      | none => []).length ≤ 1 := by
      split
      · split <;> simp
      · simp
    omega
  have k2' : Sl 7 w.drew sv ((d.pending.take k).map Chg.cells) := by rw [List.map_take]; exact k2
  have ksv : ∀ c, inB sv c → tag c ≠ 3 ∧ tag c ≠ 4 := fun c hc => by
    have := h.tp c (k3 c hc)
    omega
  have tnew : ∀ (w1 : World) (x : Value), New w w1 x → ∀ c, inB x c → tag c ≠ 3 ∧ tag c ≠ 4 := fun w1 x hx c hc => by
    have h1 := hx c hc
    by_cases h0 : tag c = 0
    · omega
    · have := h.bound c h0; omega
  by_cases hlt : k < d.pending.length
  · have ek : d.pending[k]? = some d.pending[k] := List.getElem?_eq_getElem hlt
    generalize d.pending[k] = c at ek
    rw [ek] at hL
    simp only at hL
    obtain ⟨qb, qo, ql, q1, q2, q3, q4, _⟩ := hd.pend.1.rd (i := k) (e := c.cells) (by decide) (by simp [ek]) .i64
    have qk : ql[qo]? = some (.int .i64 c.what) := take_get0 q4 (by decide)
    have q2' : bk w qb = some ql := q2
    have qA : ldA 7 (.pointer (some ⟨qb, qo, none⟩)) w.drew = some c.val := by rw [ldA_bk q2 q3, q4]; rfl
    by_cases hw : c.what = 0
    · rw [if_pos hw] at hL
      simp [-ldA_ptr, hlt, hb, Dk.cells, q1, q2', qk, hw, qA]
      refine Run_newSt (cs := c.cells.toArray) rfl rfl (by simpa using c.all) fun y w2 hy hyw f2 hyle => ?_
      have hy2 : bk w2 y = some c.cells := by simpa using hy
      simp [-ldA_ptr, hy2, Chg.cells]
      refine clamp_run torn c.data.size ?_
      have htle := clamp_le torn c.data.size
      obtain ⟨t, ht⟩ : ∃ t, t = clampN torn c.data.size := ⟨_, rfl⟩
      rw [← ht] at htle hL ⊢
      have hsl : sliceS (.string c.data) none (some (.int .i64 t)) = some (.string (c.data.extract 0 t)) := by
        simp [sliceS, highV, lowV, boundV, htle]
      simp [-ldA_ptr, hsl, hy2, hyw, Chg.cells]
      obtain ⟨c', hc'⟩ : ∃ c' : Chg, c' = { c with data := c.data.extract 0 t } := ⟨_, rfl⟩
      rw [← hc'] at hL
      have hy3 : bk (sto w2 y 2 [.string (c.data.extract 0 t)]) y = some c'.cells := by rw [bk_sto_eq, hy2, hc']; rfl
      have f3 : Fr (fun _ => False) w (sto w2 y 2 [.string (c.data.extract 0 t)]) := (fd.trans f2 fun _ _ => id).sto (.inr hyle) _ _
      have f3d : Fr (fun _ => False) w.drew (sto w2 y 2 [.string (c.data.extract 0 t)]) := f2.sto (.inr hyle) _ _
      generalize sto w2 y 2 [.string (c.data.extract 0 t)] = w3 at *
      obtain ⟨Q4, q4'⟩ : ∃ Q4 : List Value → World → Prop, ∀ a w', Q4 a w' ↔ ∃ x, a = [x] ∧ SlW 7 w' x ((crashL d.pending keep torn).map Chg.cells) ∧ New w w' x ∧ Fr (fun _ => False) w w' := ⟨_, fun _ _ => Iff.rfl⟩
      have hval : c'.val.cells.toList = c'.cells := by simp [Chg.val]
      refine Run.mono (Q := Q4) (Run_altM (by simp) fun z hz => ?_) ?_
      · have hs3 : Sl 7 w3.drew sv ((d.pending.take k).map Chg.cells) := (k2'.fr0 f3d).fr0 (Fr.refl (fun _ => False) w3).drew
        have hy3d : bk w3.drew y = some c'.cells := hy3
        have zk : (d.pending.take k).length ≤ 1048576 := by rw [List.length_take]; omega
        have z3 := f3.size
        have zd : w3.drew.heap.size = w3.heap.size := rfl
        simp only [List.mem_cons, List.not_mem_nil, or_false] at hz
        rcases hz with rfl | rfl
        · simp [-ldA_ptr]
          refine (clone_run hs3 (by omega)).mono ?_
          rintro r w5 ⟨hr, hrn, f5⟩
          have e7 := ld7 (f5.bk_some (w := w3.drew) hy3d id)
          have z5 := f5.size
          simp [-ldA_ptr, e7]
          refine Run_app1 (k := 7) (by simp [Chg.val, Chg.cells]) hr (by decide) rfl (by decide) (by simpa [Chg.val] using c'.all) (by simp only [List.length_map]; omega) fun r2 w6 hr2 f6 hin w7 f7 => ?_
          have z6 := f6.size
          simp [-ldA_ptr, ld7 hy3]
          refine (q4' _ _).2 ⟨r2, rfl, by rw [hL]; simpa [Chg.val] using hr2, fun x hx => ?_, ((f3.drew).trans f5 fun _ _ => id).new f6 fun x hx => by have := hrn x hx; omega⟩
          rcases hin x hx with h' | h'
          · have := hrn x h'; omega
          · omega
        · simp [-ldA_ptr, ld7 hy3d]
          refine Run_bsl (k := 7) (n := 1) (vs := [c'.val]) rfl (by simp [Chg.val, Chg.cells]) rfl (by simp [size_zeroCells]) fun a w5 hra f5 hran => ?_
          have z5 := f5.size
          have hra' : SlW 7 w5 a [c'.cells] := by simpa [Chg.val] using hra
          refine (clone_run (hs3.fr0 f5) (by omega)).mono ?_
          rintro r w6 ⟨hr, hrn, f6⟩
          have z6 := f6.size
          refine Run_appM (fls := [c'.cells]) hr (hra'.1.fr0 f6) (by decide) rfl (by decide) (fun e he => by obtain rfl := List.mem_singleton.1 he; exact c'.all) (by simp only [List.length_map, List.length_cons, List.length_nil]; omega) fun r2 w7 hr2 f7 hin => ?_
          have z7 := f7.size
          refine (q4' _ _).2 ⟨r2, rfl, by rw [hL]; simpa using hr2, fun x hx => ?_, (((f3.drew).trans f5 fun _ _ => id).trans f6 fun _ _ => id).new f7 fun x hx => by have := hrn x hx; omega⟩
          rcases hin x hx with h' | h'
          · have := hrn x h'; omega
          · omega
      rintro a w6 ha
      obtain ⟨x6, rfl, hx6, hn6, f6⟩ := (q4' _ _).1 ha
      have hsl6 := hx6.1.lenL
      rw [List.length_map] at hsl6
      simp only [Run_ret, outK_norm, getL_zero, hsl6, Run_bindO_some, Run_bind]
      refine crash_loop (L := crashL d.pending keep torn) (h.fr0 f6) hx6.1 (tnew _ _ hn6) hLlen hok (fun l => rfl) fun w3 v3 h3 f3 => ?_
      simp
      refine (restart_run h3 hflat).mono ?_
      rintro r w4 ⟨d', e1, e2⟩
      exact ⟨d', e1, DDid.trans h.bound ((f6.mono fun _ h => h.elim).trans f3 fun _ _ h => h) (fun _ h => .inl h) e2⟩
    · rw [if_neg hw, List.append_nil] at hL
      simp [-ldA_ptr, hlt, hb, Dk.cells, q1, q2', qk, hw]
      have hsl := k2'.lenL
      rw [List.length_map, ← hL] at hsl
      simp only [hsl, Run_bindO_some, Run_bind]
      refine crash_loop (L := crashL d.pending keep torn) hd (by rw [hL]; exact k2') ksv hLlen hok (fun l => rfl) fun w3 v3 h3 f3 => ?_
      simp
      refine (restart_run h3 hflat).mono ?_
      rintro r w4 ⟨d', e1, e2⟩
      exact ⟨d', e1, DDid.trans h.bound ((fd.mono fun _ h => h.elim).trans f3 fun _ _ h => h) (fun _ h => .inl h) e2⟩
  · have ekn : d.pending[k]? = none := List.getElem?_eq_none (by omega)
    rw [ekn] at hL
    simp only [List.append_nil] at hL
    simp [-ldA_ptr, hlt]
    have hsl := k2'.lenL
    rw [List.length_map, ← hL] at hsl
    simp only [hsl, Run_bindO_some, Run_bind]
    refine crash_loop (L := crashL d.pending keep torn) hd (by rw [hL]; exact k2') ksv hLlen hok (fun l => rfl) fun w3 v3 h3 f3 => ?_
    simp
    refine (restart_run h3 hflat).mono ?_
    rintro r w4 ⟨d', e1, e2⟩
    exact ⟨d', e1, DDid.trans h.bound ((fd.mono fun _ h => h.elim).trans f3 fun _ _ h => h) (fun _ h => .inl h) e2⟩
end
end Go.Proofs.YtojnickeblbgoaaGreatDoor

/-
  Layer 1 (disk), part K: Sync, SyncDir, Remove, Rename, a file read whole, a new disk.
-/
namespace Go.Proofs.YtojnickeblbgoaaGreatDoor
open Go.Lift
set_option linter.unusedSimpArgs false
set_option maxHeartbeats 4000000

def syncF (d : Dk) (path : ByteArray) (kind : Int) : Int × Dk := if (d.findF path kind).1 ≠ 0 then ((d.findF path kind).1, d) else settleF d (d.findF path kind).2.2.toNat (d.nd (d.findF path kind).2.2)
def removeF (d : Dk) (path : ByteArray) : Int × Dk := if (d.findF path 0).1 ≠ 0 then ((d.findF path 0).1, d) else
  doF d ⟨3, (d.findF path 0).2.1.1, e0, 0, (d.findF path 0).2.1.2, e0, 0⟩ (d.findF path 0).2.1.1.toNat (d.nd (d.findF path 0).2.1.1)
theorem find_dir {d : Dk} (g : Good d) {path : ByteArray} {kind : Int} (hp : path ≠ E0) (h : (d.findF path kind).1 = 0) : 0 ≤ (d.findF path kind).2.1.1 ∧ (d.findF path kind).2.1.1 < d.nodes.length := by
  unfold Dk.findF at h ⊢
  split at h
  · cases h
  · rename_i hd
    split at h
    · cases h
    · rename_i names hn
      split at h
      · rename_i h1; exact absurd h h1
      · split at h
        · cases h
        · split at h
          · cases h
          · rename_i h1 h2 h3
            simp only [hn, if_neg h1, if_neg h2, if_neg h3, if_neg hd]
            refine walk_dir g (fun he => ?_) (by simpa using h1)
            subst he
            unfold parseF at hn
            rw [if_neg hp] at hn
            split at hn
            · cases hn
            · split at hn
              · simp only [Option.some.injEq] at hn
                have h47 : (1 : Nat) ≤ slash.size := by decide
                have hlen : (partsF path).length = Lib.countB path slash + 1 := Lib.splitB_all slash h47 0 _ path rfl
                rw [hn] at hlen
                simp at hlen
              · cases hn
section
variable {w w' w'' : World} {b : Nat} {d d' : Dk} {v : DV} {tag : Nat → Nat}
theorem sync_run (h : DA w b d v tag) (g : Good d) {path : ByteArray} (hs : path.size < 4294967281) (hok : ∀ (i : Nat) nd, d.nodes[i]? = some nd → foldOk i (nd.kept, d.kept) d.pending) (hpl : d.pending.length ≤ 16777216) :
    Run (F.disk_Disk_Sync (Ptr b) (.string path)) w fun r w' => r = .int .i64 (syncF d path 2).1 ∧ DDid w w' b tag (syncF d path 2).2 := by
  unfold F.disk_Disk_Sync
  simp only [Run_bind]
  refine (find_run h g hs 2).mono ?_
  rintro _ w1 ⟨rfl, f1⟩
  have hlt := find_lt g path 2
  have hpos := find_pos (d := d) (path := path) (kind := 2)
  unfold syncF
  generalize d.findF path 2 = s at *
  obtain ⟨e, ⟨a1, a2⟩, node⟩ := s
  simp only at hlt hpos
  simp [-ldA_ptr, spotV]
  refine spot_mem fun x w2 hx _ f2 _ => ?_
  have f02 : Fr (fun _ => False) w w2 := f1.trans f2 fun _ _ => id
  have h2 := h.fr0 f02
  by_cases k1 : e = 0
  · have hnn := (hpos k1).1
    obtain ⟨j, hj⟩ : ∃ j : Nat, node = j := ⟨node.toNat, by omega⟩
    have hjl : j < d.nodes.length := by omega
    have hjn : d.nodes[j]? = some d.nodes[j] := List.getElem?_eq_getElem hjl
    generalize d.nodes[j] = nd at hjn
    have hnd : d.nd node = nd := by simp [Dk.nd, hj, hjn]
    simp [-ldA_ptr, k1, hx]
    rw [hnd, show node.toNat = j by omega, hj]
    refine (settle_run h2 hjn (hok j nd hjn) hpl).mono ?_
    rintro r w3 ⟨rfl, h3⟩
    exact ⟨rfl, h3.pre f02⟩
  · simp [-ldA_ptr, k1]
    exact h2.did (f02.mono fun _ h => h.elim)
theorem syncdir_run (h : DA w b d v tag) (g : Good d) {path : ByteArray} (hs : path.size < 4294967281) (hok : ∀ (i : Nat) nd, d.nodes[i]? = some nd → foldOk i (nd.kept, d.kept) d.pending) (hpl : d.pending.length ≤ 16777216) :
    Run (F.disk_Disk_SyncDir (Ptr b) (.string path)) w fun r w' => r = .int .i64 (syncF d path 1).1 ∧ DDid w w' b tag (syncF d path 1).2 := by
  unfold F.disk_Disk_SyncDir
  simp only [Run_bind]
  refine (find_run h g hs 1).mono ?_
  rintro _ w1 ⟨rfl, f1⟩
  have hlt := find_lt g path 1
  have hpos := find_pos (d := d) (path := path) (kind := 1)
  unfold syncF
  generalize d.findF path 1 = s at *
  obtain ⟨e, ⟨a1, a2⟩, node⟩ := s
  simp only at hlt hpos
  simp [-ldA_ptr, spotV]
  refine spot_mem fun x w2 hx _ f2 _ => ?_
  have f02 : Fr (fun _ => False) w w2 := f1.trans f2 fun _ _ => id
  have h2 := h.fr0 f02
  by_cases k1 : e = 0
  · have hnn := (hpos k1).1
    obtain ⟨j, hj⟩ : ∃ j : Nat, node = j := ⟨node.toNat, by omega⟩
    have hjl : j < d.nodes.length := by omega
    have hjn : d.nodes[j]? = some d.nodes[j] := List.getElem?_eq_getElem hjl
    generalize d.nodes[j] = nd at hjn
    have hnd : d.nd node = nd := by simp [Dk.nd, hj, hjn]
    simp [-ldA_ptr, k1, hx]
    rw [hnd, show node.toNat = j by omega, hj]
    refine (settle_run h2 hjn (hok j nd hjn) hpl).mono ?_
    rintro r w3 ⟨rfl, h3⟩
    exact ⟨rfl, h3.pre f02⟩
  · simp [-ldA_ptr, k1]
    exact h2.did (f02.mono fun _ h => h.elim)
theorem build_gone (a n : Int) (s : ByteArray) : buildV #[.int .i64 0, .int .i64 0, .string ByteArray.empty, .int .i64 0, .string ByteArray.empty, .string ByteArray.empty, .int .i64 0] [(0, 1, .int .i64 a), (1, 1, .int .i64 n), (4, 1, .string s)] = some (Chg.val ⟨a, n, e0, 0, s, e0, 0⟩) := by simp [buildV, fillV, Chg.val, Chg.cells]
theorem build_move (a n : Int) (s t : ByteArray) : buildV #[.int .i64 0, .int .i64 0, .string ByteArray.empty, .int .i64 0, .string ByteArray.empty, .string ByteArray.empty, .int .i64 0] [(0, 1, .int .i64 a), (1, 1, .int .i64 n), (4, 1, .string s), (5, 1, .string t)] = some (Chg.val ⟨a, n, e0, 0, s, t, 0⟩) := by simp [buildV, fillV, Chg.val, Chg.cells]
theorem remove_run (h : DA w b d v tag) (g : Good d) {path : ByteArray} (hs : path.size < 4294967281) (hp : path ≠ E0) (hk : ∀ s k, d.seen s = some k → s.1 ≠ (d.findF path 0).2.2) (hpl : d.pending.length ≤ 16777216) :
    Run (F.disk_Disk_Remove (Ptr b) (.string path)) w fun r w' => r = .int .i64 (removeF d path).1 ∧ DDid w w' b tag (removeF d path).2 := by
  unfold F.disk_Disk_Remove
  have eE : ByteArray.mk #[] = E0 := rfl
  rw [eE]
  simp only [Run_bind]
  refine (find_run h g hs 0).mono ?_
  rintro _ w1 ⟨rfl, f1⟩
  have hdir := find_dir (kind := 0) g hp
  unfold removeF
  generalize d.findF path 0 = s at *
  obtain ⟨e, ⟨a1, a2⟩, node⟩ := s
  simp only at hdir hk
  simp [-ldA_ptr, spotV]
  refine spot_mem fun x w2 hx _ f2 _ => ?_
  have f02 : Fr (fun _ => False) w w2 := f1.trans f2 fun _ _ => id
  have h2 := h.fr0 f02
  have hb2 := h2.blk
  by_cases k1 : e = 0
  · obtain ⟨n1, n2⟩ := hdir k1
    obtain ⟨j, hj⟩ : ∃ j : Nat, a1 = j := ⟨a1.toNat, by omega⟩
    have hjl : j < d.nodes.length := by omega
    have hjn : d.nodes[j]? = some d.nodes[j] := List.getElem?_eq_getElem hjl
    generalize d.nodes[j] = nd at hjn
    have hnd : d.nd a1 = nd := by simp [Dk.nd, hj, hjn]
    simp [-ldA_ptr, k1, hx, ba_eq, hp, hb2, Dk.cells]
    refine Run_rngM h2.seen fun w3 r hit f3 hr => ?_
    refine Run_range (k := fun _ _ => _) (fun x => rfl) (fun js x w' => x = [] ∧ Fr (fun c => c = r) w3 w') ⟨rfl, Fr.refl _ _⟩ hit ?_ ?_
    · rintro js i p y wa wb hpi hj' ⟨rfl, fa⟩ hitb fb sb
      have he := hitb.entry hpi
      have hgp := getK_of_mem h.seen.nodup (show (p.1, p.2) ∈ v.ls from List.mem_of_getElem? hpi)
      rw [h.seenE p.1] at hgp
      have hne := hk _ _ hgp
      obtain ⟨⟨pd, pn⟩, pk⟩ := p
      simp only at hne
      simp [-ldA_ptr, he, slv]
      refine Run_newSt (cs := #[.int .i64 pd, .string pn]) rfl rfl (by simp) fun z wc hz hzw fc hzle => ?_
      have hz' : bk wc z = some [.int .i64 pd, .string pn] := hz
      have hxr : x ≠ r := by
        have := bk_lt hx
        omega
      have hxc : bk wc x = some [.int .i64 a1, .string a2, .int .i64 node] := fc.bk_some (fb.bk_some (fa.bk_some (f3.bk_some hx id) hxr) hxr) id
      simp [hz', hxc, hne]
      exact ⟨(fa.trans fb fun _ _ h => h).trans fc fun _ _ h => h.elim, hitb.fr fc id id⟩
    · rintro js y wa wb hperm ⟨rfl, fa⟩ hitb fb sb
      have hxr : x ≠ r := by
        have := bk_lt hx
        omega
      have hxb : bk wb x = some [.int .i64 a1, .string a2, .int .i64 node] := fb.bk_some (fa.bk_some (f3.bk_some hx id) hxr) id
      have f0b : Fr (fun _ => False) w wb := (f02.trans (f3.new fa fun c hc => by omega) fun _ _ => id).trans fb fun _ _ => id
      simp [hxb, build_gone]
      refine (do_run (h.fr0 f0b) ⟨3, a1, e0, 0, a2, e0, 0⟩ hjn hj ⟨fun h => by simp at h, fun h => by simp at h⟩ hpl).mono ?_
      rintro r w4 ⟨rfl, h4⟩
      rw [hnd, show a1.toNat = j by omega]
      exact ⟨rfl, h4.pre f0b⟩
  · simp [-ldA_ptr, k1, ba_eq, hp]
    exact h2.did (f02.mono fun _ h => h.elim)
end
end Go.Proofs.YtojnickeblbgoaaGreatDoor

/-
  Layer 1 (disk), part L: Rename (in the root), Read, a file read whole, a new disk.
-/
namespace Go.Proofs.YtojnickeblbgoaaGreatDoor
set_option linter.unusedVariables false
open Go.Lift
set_option linter.unusedSimpArgs false
set_option maxHeartbeats 4000000

theorem walk_one {d : Dk} (hk : (d.nd 0).kind = 1) (x : ByteArray) : d.walkF [x] = (0, (0, x), (d.seen (0, x)).getD (-1)) := by
  unfold Dk.walkF Dk.walkGo
  rw [if_neg (by decide), if_neg (by simp [hk]), if_neg (by simp)]
  rfl
theorem find_one {d : Dk} (hk : (d.nd 0).kind = 1) (hd : d.down = false) {p x : ByteArray} (hp : parseF p = some [x]) {i kind : Int} (hs : d.seen (0, x) = some i) (hi : 0 ≤ i) (hkind : kind = 0 ∨ (d.nd i).kind = kind) : d.findF p kind = (0, (0, x), i) := by
  unfold Dk.findF
  simp only [hd, hp, walk_one hk, hs, Option.getD_some]
  rw [if_neg (by decide), if_neg (by simp), if_neg (by omega), if_neg (by
    rintro ⟨h1, h2⟩
    exact hkind.elim h1 h2)]
theorem find_no {d : Dk} (hk : (d.nd 0).kind = 1) (hd : d.down = false) {p x : ByteArray} (hp : parseF p = some [x]) {kind : Int} (hs : d.seen (0, x) = none) : d.findF p kind = zspot 12 := by
  unfold Dk.findF
  simp only [hd, hp, walk_one hk, hs]
  rw [if_neg (by decide), if_neg (by simp), if_pos (by simp)]
theorem find_root {d : Dk} (hk : (d.nd 0).kind = 1) (hd : d.down = false) {p : ByteArray} (hp : parseF p = some []) : d.findF p 1 = (0, (-1, e0), 0) := by
  unfold Dk.findF
  have e : d.walkF [] = (0, (-1, e0), 0) := rfl
  simp only [hd, hp, e]
  rw [if_neg (by decide), if_neg (by simp), if_neg (by simp), if_neg (by simp [hk])]
theorem find_down {d : Dk} (hd : d.down = true) (p : ByteArray) (kind : Int) : d.findF p kind = zspot 10 := by simp [Dk.findF, hd]

section
variable {w w' w'' : World} {b : Nat} {d d' : Dk} {v : DV} {tag : Nat → Nat}
theorem path_run {w : World} {v : Value} {l : List ByteArray} {x : ByteArray} (hl : l = [x]) (hv : Sl 1 w v (l.map fun x => [.string x])) {β : Type} {K : Value → M β} {Q : β → World → Prop} (q : Run (K (.string (ByteArray.mk #[]))) w Q) :
    Run (bindO (sliceV 1 v none (some (.int .i64 0))) fun u => M.bind (F.disk_Path u) K) w Q := by
  obtain ⟨u, h1, h2, _⟩ := hv.take (n := 0) (by simp) .i64
  have h1' : sliceV 1 v none (some (.int .i64 0)) = some u := h1
  rw [h1']
  obtain ⟨_, a, c, rfl, _⟩ := h2
  unfold F.disk_Path
  have hj : Run (F.strings_Join (.slice a 0 c) (.string (ByteArray.mk #[47]))) w fun r w' => r = .string (ByteArray.mk #[]) ∧ w' = w := by
    unfold F.strings_Join
    simp [lenL]
  simp only [Run_bindO_some, Run_bind]
  refine hj.mono ?_
  rintro _ _ ⟨rfl, rfl⟩
  exact Run_ret.2 q
theorem rename_run (h : DA w b d v tag) (g : Good d) {p q x y : ByteArray} (hps : p.size < 4294967281) (hqs : q.size < 4294967281) (hp0 : p ≠ E0) (hq0 : q ≠ E0) (hp : parseF p = some [x]) (hq : parseF q = some [y]) (hxy : x ≠ y) (hd : d.down = false)
    (hk : (d.nd 0).kind = 1) {i j : Nat} {ni nj : Nd} (hx : d.seen (0, x) = some (i : Int)) (hy : d.seen (0, y) = some (j : Int)) (hi : d.nodes[i]? = some ni) (hj : d.nodes[j]? = some nj) (hik : ni.kind = 2) (hjk : nj.kind = 2) (hpl : d.pending.length ≤ 16777216) :
    Run (F.disk_Disk_Rename (Ptr b) (.string p) (.string q)) w fun r w' => r = .int .i64 (doF d ⟨4, 0, e0, 0, x, y, 0⟩ 0 (d.nd 0)).1 ∧ DDid w w' b tag (doF d ⟨4, 0, e0, 0, x, y, 0⟩ 0 (d.nd 0)).2 := by
  unfold F.disk_Disk_Rename
  have eE : ByteArray.mk #[] = E0 := rfl
  simp only [Run_bind]
  refine ready_run h ?_
  obtain ⟨m, hm⟩ := h.ml
  simp [-ldA_ptr, hd]
  refine (parse_run p hps hm).mono ?_
  rintro _ w2 ⟨nv, rfl, f2, hn⟩
  obtain ⟨hn1, _⟩ := hn _ hp
  obtain ⟨m2, hm2⟩ := (h.fr0 f2).ml
  simp [-ldA_ptr, hp]
  refine (parse_run q hqs hm2).mono ?_
  rintro _ w3 ⟨nw, rfl, f3, hn'⟩
  obtain ⟨hn2, _⟩ := hn' _ hq
  have hn1' := hn1.fr0 f3
  have l1 := hn1'.lenL
  have l2 := hn2.lenL
  simp only [List.length_map, List.length_cons, List.length_nil, Nat.zero_add] at l1 l2
  have fd : Fr (fun _ => False) w3 w3.drew := (Fr.refl (fun _ => False) w3).drew
  have n1d := hn1'.fr0 fd
  have n2d := hn2.fr0 fd
  have ew : IntKind.i64.wrap 0 = 0 := by decide
  simp [-ldA_ptr, hq, eE, ba_eq, hp0, hq0, l1, l2, ew]
  refine path_run rfl n1d ?_
  simp [-ldA_ptr, l1, l2, ew]
  refine path_run rfl n2d ?_
  simp [-ldA_ptr, l1, l2, ew, ba_eq]
  have f03 : Fr (fun _ => False) w w3.drew := (f2.trans f3 fun _ _ => id).trans fd fun _ _ => id
  have h3 := h.fr0 f03
  refine (walk_run h3 g n1d (by simp)).mono ?_
  rintro _ w4 ⟨rfl, f4⟩
  have h4 := h3.fr0 f4
  rw [walk_one hk x, hx]
  simp [-ldA_ptr, spotV]
  refine spot_mem fun z5 w5 hz5 _ f5 _ => ?_
  have h5 := h4.fr0 f5
  have hi0 : ¬ (i : Int) < 0 := by omega
  simp [-ldA_ptr, hz5, hi0]
  refine (walk_run h5 g ((n2d.fr0 f4).fr0 f5) (by simp)).mono ?_
  rintro _ w6 ⟨rfl, f6⟩
  have h6 := h5.fr0 f6
  rw [walk_one hk y, hy]
  simp [-ldA_ptr, spotV]
  refine spot_mem fun z7 w7 hz7 _ f7 _ => ?_
  have h7 := h6.fr0 f7
  have hz57 : bk w7 z5 = some [.int .i64 0, .string x, .int .i64 i] := f7.bk_some (f6.bk_some hz5 id) id
  have hl5 : ldA 2 (Ptr z5) w7 = some (.agg #[.int .i64 0, .string x]) := by rw [ldA_bk hz57 (by simp)]; rfl
  have hl7 : ldA 2 (Ptr z7) w7 = some (.agg #[.int .i64 0, .string y]) := by rw [ldA_bk hz7 (by simp)]; rfl
  have hl5d : ldA 2 (Ptr z5) w7.drew = some (.agg #[.int .i64 0, .string x]) := hl5
  have hl7d : ldA 2 (Ptr z7) w7.drew = some (.agg #[.int .i64 0, .string y]) := hl7
  have hb7 := h7.blk
  have f07 : Fr (fun _ => False) w w7.drew := ((((f03.trans f4 fun _ _ => id).trans f5 fun _ _ => id).trans f6 fun _ _ => id).trans f7 fun _ _ => id).drew
  obtain ⟨b0, o, ll, i1, t4, i2, q0, _, _, _⟩ := h7.setNode hi
  obtain ⟨b1, o1, ll1, j1, t41, j2, q1, _, _, _⟩ := h7.setNode hj
  have hyx : y ≠ x := Ne.symm hxy
  simp [-ldA_ptr, hz57, hz7, hl5d, hl7d, ba_eq, hxy, hyx, hb7, Dk.cells, i1, i2, q0, j1, j2, q1, hik, hjk]
  rw [build_move]
  simp only [Run_bindO_some, Run_bind, Run_ret]
  have h0 : d.nodes[0]? = some (d.nd 0) := by
    have := g.pos
    have e : d.nodes[0]? = some d.nodes[0] := List.getElem?_eq_getElem this
    simp [Dk.nd, e]
  refine (do_run (h.fr0 f07) ⟨4, 0, e0, 0, x, y, 0⟩ h0 rfl ⟨fun h => by simp at h, fun h => by simp at h⟩ hpl).mono ?_
  rintro r w8 ⟨rfl, h8⟩
  exact ⟨rfl, h8.pre f07⟩
theorem rename_down (h : DA w b d v tag) (p q : ByteArray) (hd : d.down = true) {Q : Value → World → Prop} (hq : Q (.int .i64 10) w) : Run (F.disk_Disk_Rename (Ptr b) (.string p) (.string q)) w Q := by
  unfold F.disk_Disk_Rename
  simp only [Run_bind]
  refine ready_run h ?_
  simpa [-ldA_ptr, hd] using hq
end
end Go.Proofs.YtojnickeblbgoaaGreatDoor

/-
  Layer 1 (disk), part M: Read, a file read whole, a new disk.
-/
namespace Go.Proofs.YtojnickeblbgoaaGreatDoor
open Go.Lift
set_option linter.unusedSimpArgs false
set_option maxHeartbeats 4000000

section
variable {w w' w'' : World} {b : Nat} {d d' : Dk} {v : DV} {tag : Nat → Nat}
theorem ext_all (s : ByteArray) : s.extract 0 s.size = s := by
  apply ba_ext
  simp
theorem slice_all (s : ByteArray) : sliceS (.string s) (some (.int .i64 0)) (some (.int .i64 s.size)) = some (.string s) := by
  simp [sliceS, highV, lowV, boundV, ext_all]
theorem read_run (h : DA w b d v tag) (g : Good d) {path : ByteArray} (hs : path.size < 4294967281) (hd : d.down = false) (hp : (parseF path).isSome = true) (hf : (d.findF path 2).1 = 0) {nd : Nd} (hnd : d.nd (d.findF path 2).2.2 = nd) (hns : nd.seen.size ≤ 4611686018427387904) :
    Run (F.disk_Disk_Read (Ptr b) (.string path) (.int .i64 0) (.int .i64 nd.seen.size)) w fun r w' => r = .tuple #[.string nd.seen, .int .i64 0] ∧ DDid w w' b tag { d with reads := IntKind.i64.wrap (d.reads + 1) } := by
  unfold F.disk_Disk_Read
  simp only [Run_bind]
  refine ready_run h ?_
  obtain ⟨m, hm⟩ := h.ml
  simp [-ldA_ptr, hd]
  refine (parse_run path hs hm).mono ?_
  rintro _ w2 ⟨nv, rfl, f2, hn⟩
  have h2 := h.fr0 f2
  have hge : ¬ ((nd.seen.size : Nat) : Int) < 0 := by omega
  simp [-ldA_ptr, hp, hge]
  refine (find_run h2 g hs 2).mono ?_
  rintro _ w3 ⟨rfl, f3⟩
  have hlt := find_lt g path 2
  have hpos := find_pos (d := d) (path := path) (kind := 2)
  generalize d.findF path 2 = s at *
  obtain ⟨e, ⟨a1, a2⟩, node⟩ := s
  simp only at hlt hpos hf hnd
  subst hf
  simp [-ldA_ptr, spotV]
  refine spot_mem fun x w4 hx _ f4 _ => ?_
  have f04 : Fr (fun _ => False) w w4 := (f2.trans f3 fun _ _ => id).trans f4 fun _ _ => id
  have h4 := h.fr0 f04
  have hnn := (hpos rfl).1
  obtain ⟨j, hj⟩ : ∃ j : Nat, node = j := ⟨node.toNat, by omega⟩
  have hjl : j < d.nodes.length := by omega
  have hjn : d.nodes[j]? = some nd := by
    have e : d.nodes[j]? = some d.nodes[j] := List.getElem?_eq_getElem hjl
    rw [← hnd]
    simp [Dk.nd, hj, e]
  obtain ⟨b0, o, l0, i1, t4, i2, _, q1, _, _⟩ := h4.setNode hjn
  have i1' : idxA 3 v.nv (.int .i64 node) = some (.pointer (some ⟨b0, o, none⟩)) := by rw [hj]; exact i1
  have hb4 := h4.blk
  have hw4 := h4.wr
  have ws : IntKind.i64.wrap (nd.seen.size : Int) = nd.seen.size := wrap_int (by omega) (by omega)
  have t := ((h4.fr0 (Fr.refl (fun _ => False) w4).drew).put (i := 2) (x := .int .i64 (IntKind.i64.wrap (d.reads + 1))) (d' := { d with reads := IntKind.i64.wrap (d.reads + 1) }) (by simp [Dk.cells]) rfl rfl rfl rfl)
  simp [-ldA_ptr, hx, hb4, hw4, Dk.cells, i1', i2, q1, hge, ws, minV, slice_all]
  rw [hd] at t
  exact t.did (((f04.mono fun _ h => h.elim).drew).sto (b := b) (.inl (by rw [h.tb]; decide)) _ _)

def newD (cap : Int) : Dk := ⟨cap, 0, 0, false, 0, false, [⟨1, e0, e0⟩], fun _ => none, fun _ => none, []⟩
theorem new_run {w : World} (hm : ∃ m : Int, bk w 0 = some [.int .i64 m]) :
    Run (F.disk_New (.int .i64 1073741824)) w fun r w' => ∃ b, r = .tuple #[Ptr b, .int .i64 0] ∧ ∃ v tag, DA w' b (newD 1073741824) v tag ∧ (∀ c, tag c ≠ 0 → w.heap.size ≤ c) ∧ Fr (fun _ => False) w w' := by
  unfold F.disk_New
  simp [-ldA_ptr, build_node]
  refine Run_bsl (k := 3) (n := 1) (vs := [.agg #[.int .i64 1, .string ByteArray.empty, .string ByteArray.empty]]) rfl (by simp) rfl (by simp [size_zeroCells]) fun r w1 hr f1 hrn => ?_
  have s1 := f1.size
  refine Run_mkmM (kv := slv) (vv := idv) fun w2 b2 hm2 f2 hb2 => ?_
  refine Run_mkmM (kv := slv) (vv := idv) fun w3 b3 hm3 f3 hb3 => ?_
  have l2 := hm2.lt
  have l3 := hm3.lt
  have s2 := f2.size
  have s3 := f3.size
  have hr2 : SlW 3 w3 r ((newD 1073741824).nodes.map Nd.cells) := (hr.fr f2 fun _ _ h => h).fr f3 fun _ _ h => h
  have e : buildV #[.int .i64 0, .int .i64 0, .int .i64 0, .bool false, .int .i64 0, .bool false, .slice none 0 0, .map none, .map none, .slice none 0 0]
      [(0, 1, .int .i64 1073741824), (6, 1, r), (7, 1, .map (some b2)), (8, 1, .map (some b3))] = some (.agg ((newD 1073741824).cells ⟨r, .slice none 0 0, b2, b3, [], []⟩).toArray) := by
    obtain ⟨_, a, c, rfl, _⟩ := hr2.1
    simp [buildV, fillV, Dk.cells, newD]
  rw [e]
  simp only [Run_bindO_some, Run_bind]
  refine Run_new fun b w4 hb hw f4 hble => ?_
  have f04 : Fr (fun _ => False) w w4 := ((f1.trans f2 fun _ _ => id).trans f3 fun _ _ => id).trans f4 fun _ _ => id
  have s4 := f4.size
  have hbl := bk_lt hb
  obtain ⟨m, hm0⟩ := hm
  have hz := bk_lt hm0
  have hr4 := hr2.fr f4 fun _ _ h => h
  simp only [Run_ret]
  obtain ⟨tag, htag⟩ : ∃ tag : Nat → Nat, tag = fun c => if c = b then 1 else if c = b2 then 2 else if c = b3 then 3 else if c = w.heap.size ∧ c < w1.heap.size then 4 else 0 := ⟨_, rfl⟩
  have t1 : tag b = 1 := by rw [htag]; simp
  have t2 : tag b2 = 2 := by rw [htag]; simp only; rw [if_neg (by omega), if_pos trivial]
  have t3 : tag b3 = 3 := by rw [htag]; simp only; rw [if_neg (by omega), if_neg (by omega), if_pos trivial]
  have t4 : ∀ c, inB r c → tag c = 4 := fun c hc => by
    have := hrn c hc
    rw [htag]; simp only; rw [if_neg (by omega), if_neg (by omega), if_neg (by omega), if_pos this]
  have tle : ∀ c, tag c ≠ 0 → w.heap.size ≤ c ∧ c < w4.heap.size := fun c hc => by
    rw [htag] at hc
    simp only at hc
    split at hc
    · omega
    · split at hc
      · omega
      · split at hc
        · omega
        · split at hc
          · omega
          · exact absurd rfl hc
  have t0 : tag 0 = 0 := Classical.byContradiction fun h => by have := tle 0 h; omega
  exact ⟨b, rfl, ⟨r, .slice none 0 0, b2, b3, [], []⟩, tag, ⟨hb, hw, hr4, (hm2.fr f3 id).fr f4 id, fun _ => rfl, hm3.fr f4 id, fun _ => rfl, SlW.nil _ _, t1, t2, t3, t4, fun c hc => hc.elim, t0, ⟨m, f04.bk_some hm0 id⟩, fun c hc => (tle c hc).2⟩, fun c hc => (tle c hc).1, f04⟩
end
end Go.Proofs.YtojnickeblbgoaaGreatDoor

/-
  Layer 1 (disk), part V: a disk begins anew (of any tree).
-/
namespace Go.Proofs.YtojnickeblbgoaaGreatDoor
open Go.Lift
set_option linter.unusedSimpArgs false
set_option linter.unusedVariables false
set_option maxHeartbeats 8000000

/-- What is left when what is kept and can be reached begins anew. -/
structure Reached (d d' : Dk) : Prop where
  same : d'.cap = d.cap ∧ d'.acts = d.acts ∧ d'.reads = d.reads
  off : d'.armed = false ∧ d'.down = false ∧ d'.pending = []
  eq : ∀ k, d'.kept k = d'.seen k
  sub : ∀ s k, d'.seen s = some k → d.kept s = some k
  root : ∀ n k, d.kept (0, n) = some k → d'.seen (0, n) = some k
  closed : ∀ s x, d'.seen s = some x → (d.nd x).kind = 1 → ∀ n k, d.kept (x, n) = some k → d'.seen (x, n) = some k
  len : d'.nodes.length = d.nodes.length
  each : ∀ (i : Nat) nd, d.nodes[i]? = some nd → d'.nodes[i]? = some nd ∨ d'.nodes[i]? = some { nd with seen := nd.kept }
  got : ∀ s k, d'.seen s = some k → ∀ nd, d.nodes[k.toNat]? = some nd → d'.nodes[k.toNat]? = some { nd with seen := nd.kept }
  up : ∀ s k, d'.seen s = some k → s.1 = 0 ∨ ∃ t, d'.seen t = some s.1
/-- What is kept is a tree, or such and loops that nothing leads to. -/
structure Tree (d : Dk) : Prop where
  rng : ∀ s k, d.kept s = some k → 1 ≤ k ∧ k < d.nodes.length
  inj : ∀ s t k, d.kept s = some k → d.kept t = some k → s = t

/-- The books of the walk: visited, waiting, entries put. -/
structure Book (d : Dk) (lk : List (Slt × Int)) (V R : List Int) (L : List (Slt × Int)) : Prop where
  mem : ∀ p, p ∈ L ↔ p ∈ lk ∧ p.1.1 ∈ V
  nod : (V ++ R).Nodup
  org : ∀ x ∈ V ++ R, x = 0 ∨ ∃ s, (s, x) ∈ L
  all : ∀ p ∈ L, (d.nd p.2).kind = 1 → p.2 ∈ V ++ R
  zero : (0 : Int) ∈ V ++ R
structure Book2 (d : Dk) (lk : List (Slt × Int)) (V : List Int) (cur : Int) (R : List Int) (js : List Nat) (L : List (Slt × Int)) : Prop where
  mem : ∀ p, p ∈ L ↔ (p ∈ lk ∧ p.1.1 ∈ V) ∨ (p.1.1 = cur ∧ ∃ j ∈ js, lk[j]? = some p)
  nod : (V ++ cur :: R).Nodup
  org : ∀ x ∈ V ++ cur :: R, x = 0 ∨ ∃ s, (s, x) ∈ L
  all : ∀ p ∈ L, (d.nd p.2).kind = 1 → p.2 ∈ V ++ cur :: R
  zero : (0 : Int) ∈ V ++ cur :: R
theorem key_one {l : List (Slt × Int)} (hn : (l.map (·.1)).Nodup) {p q : Slt × Int} (hp : p ∈ l) (hq : q ∈ l) (h : p.1 = q.1) : p = q := by
  have h1 := getK_of_mem hn (show (p.1, p.2) ∈ l from hp)
  have h2 := getK_of_mem hn (show (q.1, q.2) ∈ l from hq)
  rw [h, h2] at h1
  injection h1 with h1
  exact Prod.ext h h1.symm
theorem at_one {l : List (Slt × Int)} (hn : (l.map (·.1)).Nodup) {i j : Nat} {p : Slt × Int} (hi : l[i]? = some p) (hj : l[j]? = some p) : i = j := by
  obtain ⟨b1, c1⟩ := List.getElem?_eq_some_iff.1 (show (l.map (·.1))[i]? = some p.1 by rw [List.getElem?_map, hi]; rfl)
  obtain ⟨b2, c2⟩ := List.getElem?_eq_some_iff.1 (show (l.map (·.1))[j]? = some p.1 by rw [List.getElem?_map, hj]; rfl)
  have h := List.pairwise_iff_getElem.1 hn
  rcases Nat.lt_trichotomy i j with h1 | h1 | h1
  · exact absurd (c1.trans c2.symm) (h i j b1 b2 h1)
  · exact h1
  · exact absurd (c2.trans c1.symm) (h j i b2 b1 h1)
section
variable {d : Dk} {lk L : List (Slt × Int)} {V R : List Int} {cur : Int} {js : List Nat}
theorem Book.start (h : Book d lk V (cur :: R) L) : Book2 d lk V cur R [] L := ⟨fun p => by rw [h.mem]; simp, h.nod, h.org, h.all, h.zero⟩
theorem Book2.over (h : Book2 d lk V cur R js L) (hj : js.Perm (List.range lk.length)) : Book d lk (V ++ [cur]) R L := by
  have e : V ++ [cur] ++ R = V ++ cur :: R := by simp
  refine ⟨fun p => ?_, by rw [e]; exact h.nod, by rw [e]; exact h.org, by rw [e]; exact h.all, by rw [e]; exact h.zero⟩
  rw [h.mem]
  constructor
  · rintro (⟨h1, h2⟩ | ⟨h1, j, hj', h2⟩)
    · exact ⟨h1, List.mem_append_left _ h2⟩
    · exact ⟨List.mem_of_getElem? h2, by simp [h1]⟩
  · rintro ⟨h1, h2⟩
    rcases List.mem_append.1 h2 with h2 | h2
    · exact .inl ⟨h1, h2⟩
    · obtain ⟨j, hj'⟩ := List.getElem?_of_mem h1
      exact .inr ⟨by simpa using h2, j, hj.mem_iff.2 (List.mem_range.2 (List.getElem?_eq_some_iff.1 hj').1), hj'⟩
theorem Book2.skip (h : Book2 d lk V cur R js L) {j : Nat} {p : Slt × Int} (hp : lk[j]? = some p) (hne : p.1.1 ≠ cur) : Book2 d lk V cur R (js ++ [j]) L := by
  refine ⟨fun q => ?_, h.nod, h.org, h.all, h.zero⟩
  rw [h.mem]
  constructor
  · rintro (h1 | ⟨h1, i, hi, h2⟩)
    · exact .inl h1
    · exact .inr ⟨h1, i, by simp [hi], h2⟩
  · rintro (h1 | ⟨h1, i, hi, h2⟩)
    · exact .inl h1
    · rcases List.mem_append.1 hi with hi | hi
      · exact .inr ⟨h1, i, hi, h2⟩
      · obtain rfl := List.mem_singleton.1 hi
        rw [hp] at h2; cases h2
        exact absurd h1 hne
theorem Book2.fresh (h : Book2 d lk V cur R js L) (hn : (lk.map (·.1)).Nodup) {j : Nat} {p : Slt × Int} (hp : lk[j]? = some p) (hj : j ∉ js) (he : p.1.1 = cur) : getK p.1 L = none := by
  rw [getK_none]
  intro q hq heq
  have hpl := List.mem_of_getElem? hp
  have hcV : cur ∉ V := fun hc => by
    have := List.nodup_append.1 h.nod
    exact this.2.2 cur hc cur (by simp) rfl
  rcases (h.mem q).1 hq with ⟨h1, h2⟩ | ⟨h1, i, hi, h2⟩
  · rw [← heq, he] at h2
    exact hcV h2
  · have := key_one hn hpl (List.mem_of_getElem? h2) heq
    rw [← this] at h2
    exact hj (at_one hn hp h2 ▸ hi)
theorem Book2.take (h : Book2 d lk V cur R js L) (hn : (lk.map (·.1)).Nodup) (ht : Tree d) (hE : Eqm lk d.kept) {j : Nat} {p : Slt × Int} (hp : lk[j]? = some p) (hj : j ∉ js) (he : p.1.1 = cur) :
    ((d.nd p.2).kind = 1 → Book2 d lk V cur (R ++ [p.2]) (js ++ [j]) (L ++ [p])) ∧ (¬ (d.nd p.2).kind = 1 → Book2 d lk V cur R (js ++ [j]) (L ++ [p])) := by
  have hmem : ∀ q, q ∈ L ++ [p] ↔ (q ∈ lk ∧ q.1.1 ∈ V) ∨ (q.1.1 = cur ∧ ∃ i ∈ js ++ [j], lk[i]? = some q) := by
    intro q
    rw [List.mem_append, h.mem]
    constructor
    · rintro ((h1 | ⟨h1, i, hi, h2⟩) | h1)
      · exact .inl h1
      · exact .inr ⟨h1, i, by simp [hi], h2⟩
      · obtain rfl := List.mem_singleton.1 h1
        exact .inr ⟨he, j, by simp, hp⟩
    · rintro (h1 | ⟨h1, i, hi, h2⟩)
      · exact .inl (.inl h1)
      · rcases List.mem_append.1 hi with hi | hi
        · exact .inl (.inr ⟨h1, i, hi, h2⟩)
        · obtain rfl := List.mem_singleton.1 hi
          rw [hp] at h2; cases h2
          exact .inr (by simp)
  have hpl := List.mem_of_getElem? hp
  have hkp : d.kept p.1 = some p.2 := by rw [← hE p.1]; exact getK_of_mem hn hpl
  have hfr := h.fresh hn hp hj he
  rw [getK_none] at hfr
  have hnew : p.2 ∉ V ++ cur :: R := fun hx => by
    rcases h.org p.2 hx with h0 | ⟨s, hs⟩
    · have := (ht.rng _ _ hkp).1; omega
    · have hsl : (s, p.2) ∈ lk := by
        rcases (h.mem _).1 hs with h1 | ⟨_, i, _, h2⟩
        · exact h1.1
        · exact List.mem_of_getElem? h2
      have hks : d.kept s = some p.2 := by rw [← hE s]; exact getK_of_mem hn hsl
      exact hfr _ hs (ht.inj _ _ _ hkp hks)
  refine ⟨fun hk => ⟨hmem, ?_, fun x hx => ?_, fun q hq hqk => ?_, ?_⟩, fun hk => ⟨hmem, h.nod, fun x hx => ?_, fun q hq hqk => ?_, h.zero⟩⟩
  · have e : V ++ cur :: (R ++ [p.2]) = (V ++ cur :: R) ++ [p.2] := by simp
    rw [e]
    exact List.nodup_append.2 ⟨h.nod, by simp, fun a ha b hb hab => by
      obtain rfl := List.mem_singleton.1 hb
      exact hnew (hab ▸ ha)⟩
  · have e : V ++ cur :: (R ++ [p.2]) = (V ++ cur :: R) ++ [p.2] := by simp
    rw [e] at hx
    rcases List.mem_append.1 hx with hx | hx
    · exact (h.org x hx).imp id fun ⟨s, hs⟩ => ⟨s, List.mem_append_left _ hs⟩
    · obtain rfl := List.mem_singleton.1 hx
      exact .inr ⟨p.1, by simp⟩
  · have e : V ++ cur :: (R ++ [p.2]) = (V ++ cur :: R) ++ [p.2] := by simp
    rw [e]
    rcases List.mem_append.1 hq with hq | hq
    · exact List.mem_append_left _ (h.all q hq hqk)
    · obtain rfl := List.mem_singleton.1 hq
      simp
  · have e : V ++ cur :: (R ++ [p.2]) = (V ++ cur :: R) ++ [p.2] := by simp
    rw [e]
    exact List.mem_append_left _ h.zero
  · exact (h.org x hx).imp id fun ⟨s, hs⟩ => ⟨s, List.mem_append_left _ hs⟩
  · rcases List.mem_append.1 hq with hq | hq
    · exact h.all q hq hqk
    · obtain rfl := List.mem_singleton.1 hq
      exact absurd hqk hk
theorem len_bound {xs : List Int} (hx : xs.Nodup) (ho : ∀ x ∈ xs, x = 0 ∨ ∃ s, (s, x) ∈ L) (hL : ∀ p ∈ L, p ∈ lk) : xs.length ≤ lk.length + 1 := by
  have key : ∀ (xs ys : List Int), xs.Nodup → (∀ x ∈ xs, x ∈ ys) → xs.length ≤ ys.length := by
    intro xs
    induction xs with
    | nil => intro ys _ _; simp
    | cons x xs ih =>
      intro ys hx hs
      simp only [List.nodup_cons] at hx
      have hxy := hs x (by simp)
      have := ih (ys.erase x) hx.2 fun y hy => by
        have hne : y ≠ x := fun he => hx.1 (by rw [← he]; exact hy)
        exact (List.mem_erase_of_ne hne).2 (hs y (by simp [hy]))
      rw [List.length_erase_of_mem hxy] at this
      have := List.length_pos_of_mem hxy
      simp only [List.length_cons]; omega
  have := key xs (0 :: lk.map (·.2)) hx fun x hx => by
    rcases ho x hx with h0 | ⟨s, hs⟩
    · simp [h0]
    · exact List.mem_cons_of_mem _ (List.mem_map.2 ⟨_, hL _ hs, rfl⟩)
  simpa using this
theorem Book.bound (h : Book d lk V R L) : (V ++ R).length ≤ lk.length + 1 := len_bound h.nod h.org fun p hp => ((h.mem p).1 hp).1
theorem Book2.bound (h : Book2 d lk V cur R js L) : (V ++ cur :: R).length ≤ lk.length + 1 := len_bound h.nod h.org fun p hp => by
  rcases (h.mem p).1 hp with h1 | ⟨_, i, _, h2⟩
  · exact h1.1
  · exact List.mem_of_getElem? h2
theorem Book.first : Book d lk [] [0] [] := ⟨fun p => by simp, by simp, fun x hx => .inl (by simpa using hx), fun p hp => by simp at hp, by simp⟩
end
section
variable {w w' w'' : World} {b : Nat} {d d' : Dk} {v : DV} {tag : Nat → Nat}
def dkR (d : Dk) (N : List Nd) (L : List (Slt × Int)) : Dk := { d with armed := false, down := false, pending := [], nodes := N, seen := fun k => getK k L, kept := fun k => getK k L }
def dvR (v : DV) (m1 m2 : Nat) (L : List (Slt × Int)) : DV := ⟨v.nv, .slice none 0 0, m1, m2, L, L⟩
theorem dkR_cells (d : Dk) (N : List Nd) (L : List (Slt × Int)) (v : DV) (m1 m2 : Nat) : (dkR d N L).cells (dvR v m1 m2 L) = [.int .i64 d.cap, .int .i64 d.acts, .int .i64 d.reads, .bool false, .int .i64 d.left, .bool false, v.nv, .map (some m1), .map (some m2), .slice none 0 0] := rfl
theorem it_lt {r b : Nat} {l : List (Slt × Int)} {js : List Nat} {w : World} (h : ItAt slv idv w r b l js) : r < w.heap.size := by
  obtain ⟨_, _, _, es, c, _, h2, _⟩ := h
  exact (Array.getElem?_eq_some_iff.1 h2).1
/-- What the walk of restart has in memory. -/
structure RSt (w : World) (b : Nat) (d : Dk) (v : DV) (tag tag0 : Nat → Nat) (m1 m2 : Nat) (w' : World) (rv : Value) (R : List Int) (N : List Nd) (L : List (Slt × Int)) : Prop where
  q : SlW 1 w' rv (R.map fun x => [.int .i64 x])
  qn : ∀ c, inB rv c → w.heap.size ≤ c ∧ c < w'.heap.size ∧ tag0 c = 0
  ren : Renewed d N L
  da : DA w' b (dkR d N L) (dvR v m1 m2 L) tag0
  fr : Fr (fun c => c = b ∨ tag c = 4 ∨ w.heap.size ≤ c) w w'
theorem RSt.fr' {tag0 : Nat → Nat} {m1 m2 : Nat} {rv : Value} {R : List Int} {N : List Nd} {L : List (Slt × Int)} {w1 w2 : World} {F : Nat → Prop} (h : RSt w b d v tag tag0 m1 m2 w1 rv R N L) (f : Fr F w1 w2) (h0 : 0 < w.heap.size) (hF : ∀ c, F c → tag0 c = 0 ∧ w.heap.size ≤ c ∧ ¬ inB rv c) : RSt w b d v tag tag0 m1 m2 w2 rv R N L := by
  have s := f.size
  refine ⟨h.q.fr f fun c hc hf => (hF c hf).2.2 hc, fun c hc => ?_, h.ren, h.da.fr f fun c hc => ⟨(hF c hc).1, by have := (hF c hc).2.1; omega⟩, h.fr.trans f fun c _ hf => .inr (.inr (hF c hf).2.1)⟩
  have := h.qn c hc
  exact ⟨this.1, by omega, this.2.2⟩
theorem restart2_run (h : DA w b d v tag) (ht : Tree d) (hlk : v.lk.length ≤ 16777216) : Run (F.disk_Disk_restart (Ptr b)) w fun _ w' => ∃ d', Reached d d' ∧ DDid w w' b tag d' := by
  unfold F.disk_Disk_restart
  have hb := h.blk
  have hw := h.wr
  have hbl := bk_lt hb
  simp [-ldA_ptr, hb, hw, Dk.cells]
  obtain ⟨w1, hw1⟩ : ∃ w1, w1 = sto (sto (sto w b 9 [.slice none 0 0]) b 3 [.bool false]) b 5 [.bool false] := ⟨_, rfl⟩
  rw [← hw1]
  have hb1 : bk w1 b = some [.int .i64 d.cap, .int .i64 d.acts, .int .i64 d.reads, .bool false, .int .i64 d.left, .bool false, v.nv, .map (some v.bs), .map (some v.bk), .slice none 0 0] := by
    rw [hw1]; simp [hb, Dk.cells]
  have hwr1 : wr w1 b = true := by rw [hw1]; simpa using hw
  have f1 : Fr (fun c => c = b) w w1 := by
    rw [hw1]
    exact (((Fr.refl (fun c => c = b) w).sto (.inl rfl) _ _).sto (.inl rfl) _ _).sto (.inl rfl) _ _
  clear hw1
  refine Run_mkmM (kv := slv) (vv := idv) fun w2 m1 hm1 f2 hm1le => ?_
  refine Run_mkmM (kv := slv) (vv := idv) fun w3 m2 hm2 f3 hm2le => ?_
  have hb3 := f3.bk_some (f2.bk_some hb1 id) id
  have hwr3 : wr w3 b = true := by rw [f3.wr (bk_lt (f2.bk_some hb1 id)) id, f2.wr (bk_lt hb1) id]; exact hwr1
  simp [-ldA_ptr, hb3, hwr3]
  have z1 := f1.size
  have z2 := f2.size
  have z3 := f3.size
  have hmm : m1 ≠ m2 := by have := hm1.lt; omega
  have hm1l := hm1.lt
  have hm2l := hm2.lt
  obtain ⟨w4, hw4⟩ : ∃ w4, w4 = sto (sto w3 b 7 [.map (some m1)]) b 8 [.map (some m2)] := ⟨_, rfl⟩
  rw [← hw4]
  have hb4 : bk w4 b = some [.int .i64 d.cap, .int .i64 d.acts, .int .i64 d.reads, .bool false, .int .i64 d.left, .bool false, v.nv, .map (some m1), .map (some m2), .slice none 0 0] := by
    rw [hw4]; simp [hb3]
  have hwr4 : wr w4 b = true := by rw [hw4]; simpa using hwr3
  have f34 : Fr (fun c => c = b) w3 w4 := by
    rw [hw4]
    exact ((Fr.refl (fun c => c = b) w3).sto (.inl rfl) _ _).sto (.inl rfl) _ _
  have z4 := f34.size
  clear hw4
  refine Run_bsl (k := 1) (n := 1) (vs := [.int .i64 0]) rfl (by simp) rfl (by simp [size_zeroCells]) fun rv w5 hrv f5 hrvn => ?_
  have z5 := f5.size
  have f05 : Fr (fun c => c = b) w w5 := ((((f1.trans f2 fun _ _ h => h.elim).trans f3 fun _ _ h => h.elim).trans f34 fun _ _ h => h).trans f5 fun _ _ h => h.elim)
  have hb5 := f5.bk_some hb4 id
  have hwr5 : wr w5 b = true := by rw [f5.wr (bk_lt hb4) id]; exact hwr4
  have nb1 : ∀ c, tag c ≠ 1 → ¬ c = b := fun c hc he => hc (by rw [he]; exact h.tb)
  have hm15 : MapAt slv idv w5 m1 ([] : List (Slt × Int)) := ((hm1.fr f3 id).fr f34 (by omega)).fr f5 id
  have hm25 : MapAt slv idv w5 m2 ([] : List (Slt × Int)) := (hm2.fr f34 (by omega)).fr f5 id
  have hbk := h.bound v.bk (by rw [h.tk]; decide)
  obtain ⟨ml, hml⟩ := h.ml
  obtain ⟨tag0, t1, t2, t3, t4⟩ : ∃ tag0 : Nat → Nat, tag0 m1 = 2 ∧ tag0 m2 = 3 ∧ (∀ c, c < w.heap.size → tag0 c = tag c) ∧ ∀ c, tag0 c ≠ 0 → tag c ≠ 0 ∨ c = m1 ∨ c = m2 := by
    refine ⟨fun c => if c = m1 then 2 else if c = m2 then 3 else tag c, by simp, by simp [Ne.symm hmm], fun c hc => ?_, fun c hc => ?_⟩
    · have h1 : c ≠ m1 := by omega
      have h2 : c ≠ m2 := by omega
      simp [h1, h2]
    · by_cases h1 : c = m1
      · exact .inr (.inl h1)
      · by_cases h2 : c = m2
        · exact .inr (.inr h2)
        · simp [h1, h2] at hc; exact .inl hc
  have told : ∀ c, tag c ≠ 0 → tag0 c = tag c := fun c hc => t3 c (h.bound c hc)
  have tz : ∀ c, w.heap.size ≤ c → c ≠ m1 → c ≠ m2 → tag0 c = 0 := fun c hc n1 n2 => Classical.byContradiction fun h0 => by
    rcases t4 c h0 with h' | h' | h'
    · have := h.bound c h'; omega
    · exact n1 h'
    · exact n2 h'
  have f05' : Fr (fun c => c = b ∨ tag c = 4 ∨ w.heap.size ≤ c) w w5 := f05.mono fun c hc => Or.inl hc
  have start : RSt w b d v tag tag0 m1 m2 w5 rv [0] d.nodes [] := by
    have s := f05.size
    refine ⟨hrv, fun c hc => ?_, ⟨rfl, fun i nd h => .inl h, fun p hp => by simp at hp⟩, ⟨hb5, hwr5, h.nodes.fr f05 fun c hc => nb1 c (by rw [h.tn c hc]; decide), hm15, fun _ => rfl, hm25, fun _ => rfl, SlW.nil 7 w5, by rw [told b (by rw [h.tb]; decide)]; exact h.tb, t1, t2, fun c hc => by rw [told c (by rw [h.tn c hc]; decide)]; exact h.tn c hc, fun c hc => hc.elim, by rw [t3 0 (bk_lt hml)]; exact h.t0, ⟨ml, f05.bk_some hml (nb1 0 (by rw [h.t0]; decide))⟩, fun c hc => ?_⟩, f05'⟩
    · have := hrvn c hc
      exact ⟨by omega, by omega, tz c (by omega) (by omega) (by omega)⟩
    · rcases t4 c hc with h' | h' | h'
      · have := h.bound c h'; omega
      · omega
      · omega
  have hkmap : ∀ w', Fr (fun c => c = b ∨ tag c = 4 ∨ w.heap.size ≤ c) w w' → MapAt slv idv w' v.bk v.lk := fun w' f => h.kept.fr f fun hc => by
    rcases hc with h' | h' | h'
    · exact nb1 _ (by rw [h.tk]; decide) h'
    · rw [h.tk] at h'; cases h'
    · omega
  have hnk := h.kept.nodup
  refine Run_for (v.lk.length + 2) (fun i l w' => ∃ rv V R N L, l = [rv] ∧ V.length = i ∧ RSt w b d v tag tag0 m1 m2 w' rv R N L ∧ Book d v.lk V R L) ⟨rv, [], [0], d.nodes, [], rfl, rfl, start, Book.first⟩ ?_ ?_
  · rintro i l w6 hi ⟨rv6, V, R, N, L, rfl, hV, hS, hB⟩
    have hrl := hS.q.1.lenL
    rw [List.length_map] at hrl
    cases R with
    | nil =>
      simp at hrl
      simp [-ldA_ptr, hrl]
      have hn := hS.da.seen.nodup
      have hLk : ∀ s k, getK s L = some k → (s, k) ∈ L := fun s k hs => getK_mem hs
      have hin : ∀ s k, d.kept s = some k → s.1 ∈ V → getK s L = some k := fun s k hs hv => by
        refine getK_of_mem hn ((hB.mem (s, k)).2 ⟨?_, hv⟩)
        rw [← h.keptE s] at hs
        exact getK_mem hs
      have hV0 := hB.zero
      rw [List.append_nil] at hV0
      refine ⟨dkR d N L, ⟨⟨rfl, rfl, rfl⟩, ⟨rfl, rfl, rfl⟩, fun _ => rfl, fun s k hs => ?_, fun n k hs => hin _ _ hs hV0, fun s x hs hx n k hk => hin _ _ hk ?_, hS.ren.1, hS.ren.2.1, fun s k hs nd hnd => hS.ren.2.2 (s, k) (hLk s k hs) nd hnd, fun s k hs => ((hB.org s.1 (List.mem_append_left _ ((hB.mem (s, k)).1 (hLk s k hs)).2)).imp id fun ⟨t, ht⟩ => ⟨t, getK_of_mem hn ht⟩)⟩, (Fr.refl (fun c => tag c ≠ 0) w).trans hS.fr fun c hc hf => ?_, _, tag0, hS.da, fun c hc => ?_⟩
      · rw [← h.keptE s]
        exact getK_of_mem hnk ((hB.mem (s, k)).1 (hLk s k hs)).1
      · have := hB.all (s, x) (hLk s x hs) hx
        rwa [List.append_nil] at this
      · rcases hf with h' | h' | h'
        · rw [h', h.tb]; decide
        · rw [h']; decide
        · omega
      · rcases t4 c hc with h' | h' | h'
        · exact .inl h'
        · exact .inr (by omega)
        · exact .inr (by omega)
    | cons cur R =>
      obtain ⟨q, q1, q2⟩ := hS.q.1.rd1 (i := 0) (y := .int .i64 cur) rfl .i64
      obtain ⟨rv2, k1, k2, k3⟩ := hS.q.drop (n := 1) (by simp) .i64
      have k2l := k2.1.lenL
      have q1' : idxA 1 rv6 (.int .i64 0) = some q := q1
      have k1' : sliceV 1 rv6 (some (.int .i64 1)) none = some rv2 := k1
      have hpos : (0 : Int) < ((cur :: R).length : Nat) := by simp only [List.length_cons]; omega
      simp [-ldA_ptr, hrl, q1', q2, k1']
      have hw0 : 0 < w.heap.size := by have := bk_lt hml; omega
      refine Run_rngM (hkmap w6 hS.fr) fun w7 r hit f7 hr => ?_
      have z67 := f7.size
      have z06 := hS.fr.size
      have hSi : RSt w b d v tag tag0 m1 m2 w6 rv2 R N L := ⟨k2, fun c hc => hS.qn c (k3 c hc), hS.ren, hS.da, hS.fr⟩
      have hS7 := hSi.fr' f7 hw0 fun c hc => hc.elim
      have hrz : tag0 r = 0 ∧ w.heap.size ≤ r := by
        have b1 := hS.da.bound m1 (by rw [t1]; decide)
        have b2 := hS.da.bound m2 (by rw [t2]; decide)
        exact ⟨tz r (by omega) (by omega) (by omega), by omega⟩
      refine Run_range (k := fun _ _ => _) (fun x => rfl) (fun js x w' => ∃ rv' R' N' L', x = [rv'] ∧ RSt w b d v tag tag0 m1 m2 w' rv' R' N' L' ∧ Book2 d v.lk V cur R' js L' ∧ (∀ c, inB rv' c → c ≠ r) ∧ r < w'.heap.size) ⟨rv2, R, N, L, rfl, hS7, hB.start, fun c hc he => ?_, it_lt hit⟩ hit ?_ ?_
      · have := (hSi.qn c hc).2.1
        omega
      · rintro js j p x wa wb hp hj ⟨rv', R', N', L', rfl, hSa, hBa, hra, hrl'⟩ hitb fb sb
        have hSb := hSa.fr' fb hw0 fun c hc => by rw [hc]; exact ⟨hrz.1, hrz.2, fun hi => hra r hi rfl⟩
        have he := hitb.entry hp
        have hpm := List.mem_of_getElem? hp
        have hgp := getK_of_mem hnk (show (p.1, p.2) ∈ v.lk from hpm)
        rw [h.keptE p.1] at hgp
        obtain ⟨ppos, plt⟩ := ht.rng _ _ hgp
        have zb : w.heap.size ≤ wb.heap.size := hSb.fr.size
        have m1b := hSb.da.bound m1 (by rw [t1]; decide)
        have m2b := hSb.da.bound m2 (by rw [t2]; decide)
        have hskip := fun hne => hBa.skip hp (j := j) (p := p) hne
        have hfresh := fun he => hBa.fresh hnk hp hj (p := p) he
        have htake := fun he => hBa.take hnk ht h.keptE hp hj (p := p) he
        have hbound := hBa.bound
        rw [List.length_append, List.length_cons] at hbound
        obtain ⟨⟨pd, pn⟩, pk⟩ := p
        simp only at ppos plt hgp hskip hfresh htake
        simp [-ldA_ptr, he, slv]
        refine Run_newSt (cs := #[.int .i64 pd, .string pn]) rfl rfl (by simp) fun x wc hx hxw fc hxle => ?_
        have zbc := fc.size
        have hSc := hSb.fr' fc hw0 fun c hc => hc.elim
        have hx' : bk wc x = some [.int .i64 pd, .string pn] := hx
        by_cases hpd : pd = cur
        · subst hpd
          have hno := hfresh rfl
          have hdc := hSc.da
          have hbc := hdc.blk
          rw [dkR_cells] at hbc
          have hl2 : ∀ w', bk w' x = some [.int .i64 pd, .string pn] → ldA 2 (Ptr x) w' = some (slv (pd, pn)) := fun w' hh => by rw [ldA_bk hh (by simp)]; rfl
          simp [-ldA_ptr, hx', hbc, hl2 wc hx']
          have fdr : Fr (fun _ => False) wc wc.drew := (Fr.refl (fun _ => False) wc).drew
          have hdd := hdc.fr0 fdr
          have hxm1 : x ≠ m1 := by omega
          have hxm2 : x ≠ m2 := by omega
          refine Run_mentM (kv := slv) (vv := idv) keyS hdd.seen hno fun wd cd hh1 fd1 sd1 => ?_
          have hxd : bk wd x = some [.int .i64 pd, .string pn] := fd1.bk_some (w := wc.drew) hx' hxm1
          simp only [extV_tuple, List.getElem?_toArray, List.getElem?_cons_succ, List.getElem?_cons_zero, Run_bindO_some, Run_bind]
          refine Run_estM hh1 pk fun we hme fe1 se1 => ?_
          have hxe : bk we x = some [.int .i64 pd, .string pn] := fe1.bk_some hxd hxm1
          simp only [Run_getM, Run_bind]
          have fm1 : Fr (fun c => c = m1) wc.drew we := fd1.trans fe1 fun _ _ h => h
          have hde := hdd.seenSet (m := fun k => getK k (L' ++ [((pd, pn), pk)])) fm1 hme fun _ => rfl
          refine Run_mentM (kv := slv) (vv := idv) keyS hde.kept hno fun wf cf hh2 ff1 sf1 => ?_
          simp only [extV_tuple, List.getElem?_toArray, List.getElem?_cons_succ, List.getElem?_cons_zero, Run_getM, Run_bindO_some, Run_bind]
          refine Run_estM hh2 pk fun wg hmg fg1 sg1 => ?_
          have fm2 : Fr (fun c => c = m2) we wg := ff1.trans fg1 fun _ _ h => h
          have hdg := hde.keptSet (m := fun k => getK k (L' ++ [((pd, pn), pk)])) fm2 hmg fun _ => rfl
          obtain ⟨i0, hi0⟩ : ∃ i : Nat, pk = i := ⟨pk.toNat, by omega⟩
          have hi0l : i0 < d.nodes.length := by omega
          have hnd0 : d.nodes[i0]? = some d.nodes[i0] := List.getElem?_eq_getElem hi0l
          generalize d.nodes[i0] = nd0 at hnd0
          have hndd : d.nd pk = nd0 := by simp [Dk.nd, hi0, hnd0]
          obtain ⟨nd, hnd, hke⟩ : ∃ nd, N'[i0]? = some nd ∧ nd.kind = nd0.kind := by
            rcases hSc.ren.2.1 _ nd0 hnd0 with h' | h'
            · exact ⟨_, h', rfl⟩
            · exact ⟨_, h', rfl⟩
          obtain ⟨b0, o, l0, i1, t40, i2, q0, qq1, qq2, hset⟩ := hdg.setNode hnd
          have i1' : idxA 3 v.nv (idv pk) = some (.pointer (some ⟨b0, o, none⟩)) := by rw [hi0]; exact i1
          have hbg := hdg.blk
          have hbg' : bk wg b = some [.int .i64 d.cap, .int .i64 d.acts, .int .i64 d.reads, .bool false, .int .i64 d.left, .bool false, v.nv, .map (some m1), .map (some m2), .slice none 0 0] := hbg
          simp [-ldA_ptr, hl2 wd hxd, hl2 we hxe, hbg', i1', i2, qq2]
          obtain ⟨y1, y2⟩ := (hset wg.drew _ _ (hdg.fr0 (Fr.refl (fun _ => False) wg).drew) rfl rfl).1 nd.kept
          have hb0w : b0 < w.heap.size := by
            rcases t4 b0 (by rw [t40]; decide) with h' | h' | h'
            · exact h.bound b0 h'
            · rw [h', t1] at t40; cases t40
            · rw [h', t2] at t40; cases t40
          have hb0b : b0 ≠ b := fun he => by
            rw [he, told b (by rw [h.tb]; decide), h.tb] at t40; cases t40
          have hb0bk : v.bk ≠ b0 := fun he => by
            rw [← he, told v.bk (by rw [h.tk]; decide), h.tk] at t40; cases t40
          have zm1 := fm1.size
          have zm2 := fm2.size
          have zd : wc.drew.heap.size = wc.heap.size := rfl
          obtain ⟨⟨l', hl', hle⟩, hwrb⟩ := y1
          have hll : l' = l0 := by
            have h2 : bk wg b0 = some l' := hl'
            rw [i2] at h2
            cases h2; rfl
          rw [hll] at hle
          have hblk2 : bk (sto wg.drew b0 (o + 1) [.string nd.kept]) b = some [.int .i64 d.cap, .int .i64 d.acts, .int .i64 d.reads, .bool false, .int .i64 d.left, .bool false, v.nv, .map (some m1), .map (some m2), .slice none 0 0] := y2.blk
          refine ⟨hle, hwrb, v.nv, by rw [hblk2]; rfl, ?_⟩
          have hk0 : bk (sto wg.drew b0 (o + 1) [.string nd.kept]) b0 = some (l0.set (o + 1) (.string nd.kept)) := by rw [bk_sto_eq, bk_drew, i2]; rfl
          have hk1 : (l0.set (o + 1) (.string nd.kept))[o]? = some (.int .i64 nd.kind) := by rw [List.getElem?_set_ne (by omega)]; exact q0
          have t4b : tag b0 = 4 := by rw [← t3 b0 hb0w]; exact t40
          have fbz : Fr (fun c => c = m1 ∨ c = m2 ∨ c = b0) wc (sto wg.drew b0 (o + 1) [.string nd.kept]) := by
            refine Fr.sto (b := b0) (Fr.drew ?_) (.inl (.inr (.inr rfl))) _ _
            refine (((fdr.mono fun _ h => h.elim).trans fm1 fun c _ hc => ?_).trans fm2 fun c _ hc => ?_)
            · exact .inl hc
            · exact .inr (.inl hc)
          obtain ⟨wz, hwz⟩ : ∃ wz, wz = sto wg.drew b0 (o + 1) [.string nd.kept] := ⟨_, rfl⟩
          rw [← hwz] at y2 hk0 fbz hblk2 ⊢
          clear hwz
          have hst := hSc.ren.step (p := ((pd, pn), pk)) (i := i0) hi0 hnd0 hnd
          have hqz : SlW 1 wz rv' (R'.map fun x => [.int .i64 x]) := hSc.q.fr fbz fun c hc hf => by
            have := (hSc.qn c hc).2.2
            rcases hf with h' | h' | h'
            · rw [h', t1] at this; cases this
            · rw [h', t2] at this; cases this
            · rw [h', t40] at this; cases this
          have zcz := fbz.size
          have fz : Fr (fun c => c = b ∨ tag c = 4 ∨ w.heap.size ≤ c) w wz := hSc.fr.trans fbz fun c _ hf => by
            rcases hf with h' | h' | h'
            · exact .inr (.inr (by omega))
            · exact .inr (.inr (by omega))
            · rw [h']; exact .inr (.inl t4b)
          have hSz : RSt w b d v tag tag0 m1 m2 wz rv' R' (N'.set i0 { nd with seen := nd.kept }) (L' ++ [((pd, pn), pk)]) := ⟨hqz, fun c hc => by
            have := hSc.qn c hc
            exact ⟨this.1, by omega, this.2.2⟩, hst, y2, fz⟩
          have hitz : ItAt slv idv wz r v.bk v.lk (js ++ [j]) := (hitb.fr fc id id).fr fbz (fun hc => by
            rcases hc with h' | h' | h'
            · omega
            · omega
            · exact hb0bk h') (fun hc => by
            have := hrz
            rcases hc with h' | h' | h'
            · rw [h', t1] at this; cases this.1
            · rw [h', t2] at this; cases this.1
            · rw [h', t40] at this; cases this.1)
          by_cases hk1k : nd.kind = 1
          · simp [i1', hk0, hk1, hk1k, hblk2]
            refine Run_app1 (k := 1) (y := .int .i64 pk) (by simp) hqz (by decide) rfl (by decide) (by simp) (by simp only [List.length_map]; omega) fun r2 wy hr2 fy hin wx fx => ?_
            have hyz := fy.size
            have hB2 := (htake rfl).1 (by rw [hndd, ← hke]; exact hk1k)
            have hr2' : SlW 1 wy r2 ((R' ++ [pk]).map fun x => [.int .i64 x]) := by simpa using hr2
            have hSy : RSt w b d v tag tag0 m1 m2 wy r2 (R' ++ [pk]) (N'.set i0 { nd with seen := nd.kept }) (L' ++ [((pd, pn), pk)]) := by
              refine ⟨hr2', fun c hc => ?_, hst, y2.fr fy fun c hc => ?_, fz.trans fy fun c _ hc => .inr (.inr (hSz.qn c hc).1)⟩
              · rcases hin c hc with h' | h'
                · have := hSz.qn c h'
                  exact ⟨this.1, by omega, this.2.2⟩
                · exact ⟨by omega, h'.2, tz c (by omega) (by omega) (by omega)⟩
              · have := hSz.qn c hc
                exact ⟨this.2.2, by omega⟩
            refine ⟨⟨R' ++ [pk], _, _, hSy, hB2, fun c hc => ?_, by have := it_lt hitb; omega⟩, hitz.fr fy (fun hc => ?_) (fun hc => hra r hc rfl)⟩
            · rcases hin c hc with h' | h'
              · exact hra c h'
              · have := it_lt hitb; omega
            · have := (hSz.qn _ hc).1
              omega
          · simp [i1', hk0, hk1, hk1k, hblk2]
            have hB2 := (htake rfl).2 (by rw [hndd, ← hke]; exact hk1k)
            exact ⟨⟨R', _, _, hSz, hB2, hra, by have := it_lt hitb; omega⟩, hitz⟩
        · simp [-ldA_ptr, hx', hpd]
          exact ⟨⟨R', N', L', hSc, hskip hpd, hra, by omega⟩, hitb.fr fc id id⟩
      · rintro js x wa wb hperm ⟨rv', R', N', L', rfl, hSa, hBa, hra, hrl'⟩ hitb fb sb
        have hSb := hSa.fr' fb hw0 fun c hc => hc.elim
        simp
        exact ⟨V ++ [cur], by simp [hV], R', N', L', hSb, hBa.over hperm⟩
  · rintro l w6 ⟨rv6, V, R, N, L, rfl, hV, hS, hB⟩
    have := hB.bound
    rw [List.length_append] at this
    omega
end
end Go.Proofs.YtojnickeblbgoaaGreatDoor

/-
  Layer 1 (disk), part W: a loss of power (of any tree).
-/
namespace Go.Proofs.YtojnickeblbgoaaGreatDoor
open Go.Lift
set_option linter.unusedSimpArgs false
set_option linter.unusedVariables false
set_option maxHeartbeats 8000000

theorem pigeon {α : Type} [DecidableEq α] : ∀ (xs ys : List α), xs.Nodup → (∀ x ∈ xs, x ∈ ys) → xs.length ≤ ys.length := by
  intro xs
  induction xs with
  | nil => intro ys _ _; simp
  | cons x xs ih =>
    intro ys hx hs
    simp only [List.nodup_cons] at hx
    have hxy := hs x (by simp)
    have := ih (ys.erase x) hx.2 fun y hy => by
      have hne : y ≠ x := fun he => hx.1 (by rw [← he]; exact hy)
      exact (List.mem_erase_of_ne hne).2 (hs y (by simp [hy]))
    rw [List.length_erase_of_mem hxy] at this
    have := List.length_pos_of_mem hxy
    simp only [List.length_cons]; omega
/-- A map of entries that are one to one has no more entries than there are nodes. -/
theorem map_len {n : Nat} {m : Slt → Option Int} {l : List (Slt × Int)} (rng : ∀ s k, m s = some k → 1 ≤ k ∧ k < n) (inj : ∀ s t k, m s = some k → m t = some k → s = t) (hn : (l.map (·.1)).Nodup) (hE : Eqm l m) : l.length ≤ n := by
  have hm : ∀ p ∈ l, m p.1 = some p.2 := fun p hp => by rw [← hE p.1]; exact getK_of_mem hn (show (p.1, p.2) ∈ l from hp)
  have hv : (l.map (·.2)).Nodup := by
    have : ∀ l : List (Slt × Int), (l.map (·.1)).Nodup → (∀ p ∈ l, m p.1 = some p.2) → (l.map (·.2)).Nodup := by
      intro l
      induction l with
      | nil => intro _ _; simp
      | cons p l ih =>
        intro hn hm
        simp only [List.map_cons, List.nodup_cons] at hn ⊢
        refine ⟨fun hx => ?_, ih hn.2 fun q hq => hm q (by simp [hq])⟩
        obtain ⟨q, hq, he⟩ := List.mem_map.1 hx
        have h1 := hm p (by simp)
        have h2 := hm q (by simp [hq])
        rw [he] at h2
        exact hn.1 (List.mem_map.2 ⟨q, hq, (inj _ _ _ h1 h2).symm⟩)
    exact this l hn hm
  have := pigeon (l.map (·.2)) ((List.range n).map Int.ofNat) hv fun x hx => by
    obtain ⟨p, hp, rfl⟩ := List.mem_map.1 hx
    have := rng _ _ (hm p hp)
    exact List.mem_map.2 ⟨p.2.toNat, List.mem_range.2 (by omega), show ((p.2.toNat : Nat) : Int) = p.2 by omega⟩
  simpa using this
theorem lk_len {d : Dk} {lk : List (Slt × Int)} (ht : Tree d) (hn : (lk.map (·.1)).Nodup) (hE : Eqm lk d.kept) : lk.length ≤ d.nodes.length := map_len ht.rng ht.inj hn hE
theorem cFold_len' : ∀ (L : List Chg) (st : CSt), (L.foldl cStep st).1.length = st.1.length
  | [], st => rfl
  | c :: L, st => by
    rw [List.foldl_cons, cFold_len' L]
    simp [cStep]
section
variable {w w' w'' : World} {b : Nat} {d d' : Dk} {v : DV} {tag : Nat → Nat}
theorem crash2_run (h : DA w b d v tag) {keep torn : Int} (hpl : d.pending.length ≤ 1048576) (hok : crashOk (d.nodes, d.kept) (crashL d.pending keep torn)) (hnl : d.nodes.length ≤ 16777216) (hTr : Tree { d with nodes := ((crashL d.pending keep torn).foldl cStep (d.nodes, d.kept)).1, kept := ((crashL d.pending keep torn).foldl cStep (d.nodes, d.kept)).2 }) :
    Run (F.disk_Disk_Crash (Ptr b) (.int .i64 keep) (.int .i64 torn)) w fun r w' => r = .int .i64 ((d.pending.length : Int) - (clampN keep d.pending.length : Nat)) ∧ ∃ d', Reached { d with nodes := ((crashL d.pending keep torn).foldl cStep (d.nodes, d.kept)).1, kept := ((crashL d.pending keep torn).foldl cStep (d.nodes, d.kept)).2 } d' ∧ DDid w w' b tag d' := by
  have hlk : ∀ {w3 : World} {v3 : DV}, DA w3 b { d with nodes := ((crashL d.pending keep torn).foldl cStep (d.nodes, d.kept)).1, kept := ((crashL d.pending keep torn).foldl cStep (d.nodes, d.kept)).2 } v3 tag → v3.lk.length ≤ 16777216 := fun h3 => by
    have h1 := lk_len hTr h3.kept.nodup h3.keptE
    have h2 : ((crashL d.pending keep torn).foldl cStep (d.nodes, d.kept)).1.length = d.nodes.length := cFold_len' _ _
    simp only at h1
    omega
  unfold F.disk_Disk_Crash
  have hb := h.blk
  have hpv := h.pend.1.lenL
  rw [List.length_map] at hpv
  simp [-ldA_ptr, hb, Dk.cells, hpv]
  refine clamp_run keep d.pending.length ?_
  have hkle := clamp_le keep d.pending.length
  obtain ⟨k, hk⟩ : ∃ k, k = clampN keep d.pending.length := ⟨_, rfl⟩
  have hL : crashL d.pending keep torn = d.pending.take k ++ (match d.pending[k]? with
    | some c => if c.what = 0 then [{ c with data := c.data.extract 0 (clampN torn c.data.size) }] else []
    | none => []) := by rw [hk]; rfl
  rw [← hk] at hkle ⊢
  have fd : Fr (fun _ => False) w w.drew := (Fr.refl (fun _ => False) w).drew
  have hd := h.fr0 fd
  obtain ⟨sv, k1, k2, k3⟩ := hd.pend.1.take (n := k) (by simpa using hkle) .i64
  have ws : IntKind.i64.wrap ((d.pending.length : Int) - k) = (d.pending.length : Int) - k := wrap_int (by omega) (by omega)
  simp [-ldA_ptr, hb, Dk.cells, hpv, k1, ws]
  have hLlen : (crashL d.pending keep torn).length ≤ 16777216 := by
    rw [hL, List.length_append, List.length_take]
    have : (match d.pending[k]? with
      | some c => if c.what = 0 then [{ c with data := c.data.extract 0 (clampN torn c.data.size) }] else []
      | none => []).length ≤ 1 := by
      split
      · split <;> simp
      · simp
    omega
  have k2' : Sl 7 w.drew sv ((d.pending.take k).map Chg.cells) := by rw [List.map_take]; exact k2
  have ksv : ∀ c, inB sv c → tag c ≠ 3 ∧ tag c ≠ 4 := fun c hc => by
    have := h.tp c (k3 c hc)
    omega
  have tnew : ∀ (w1 : World) (x : Value), New w w1 x → ∀ c, inB x c → tag c ≠ 3 ∧ tag c ≠ 4 := fun w1 x hx c hc => by
    have h1 := hx c hc
    by_cases h0 : tag c = 0
    · omega
    · have := h.bound c h0; omega
  by_cases hlt : k < d.pending.length
  · have ek : d.pending[k]? = some d.pending[k] := List.getElem?_eq_getElem hlt
    generalize d.pending[k] = c at ek
    rw [ek] at hL
    simp only at hL
    obtain ⟨qb, qo, ql, q1, q2, q3, q4, _⟩ := hd.pend.1.rd (i := k) (e := c.cells) (by decide) (by simp [ek]) .i64
    have qk : ql[qo]? = some (.int .i64 c.what) := take_get0 q4 (by decide)
    have q2' : bk w qb = some ql := q2
    have qA : ldA 7 (.pointer (some ⟨qb, qo, none⟩)) w.drew = some c.val := by rw [ldA_bk q2 q3, q4]; rfl
    by_cases hw : c.what = 0
    · rw [if_pos hw] at hL
      simp [-ldA_ptr, hlt, hb, Dk.cells, q1, q2', qk, hw, qA]
      refine Run_newSt (cs := c.cells.toArray) rfl rfl (by simpa using c.all) fun y w2 hy hyw f2 hyle => ?_
      have hy2 : bk w2 y = some c.cells := by simpa using hy
      simp [-ldA_ptr, hy2, Chg.cells]
      refine clamp_run torn c.data.size ?_
      have htle := clamp_le torn c.data.size
      obtain ⟨t, ht⟩ : ∃ t, t = clampN torn c.data.size := ⟨_, rfl⟩
      rw [← ht] at htle hL ⊢
      have hsl : sliceS (.string c.data) none (some (.int .i64 t)) = some (.string (c.data.extract 0 t)) := by
        simp [sliceS, highV, lowV, boundV, htle]
      simp [-ldA_ptr, hsl, hy2, hyw, Chg.cells]
      obtain ⟨c', hc'⟩ : ∃ c' : Chg, c' = { c with data := c.data.extract 0 t } := ⟨_, rfl⟩
      rw [← hc'] at hL
      have hy3 : bk (sto w2 y 2 [.string (c.data.extract 0 t)]) y = some c'.cells := by rw [bk_sto_eq, hy2, hc']; rfl
      have f3 : Fr (fun _ => False) w (sto w2 y 2 [.string (c.data.extract 0 t)]) := (fd.trans f2 fun _ _ => id).sto (.inr hyle) _ _
      have f3d : Fr (fun _ => False) w.drew (sto w2 y 2 [.string (c.data.extract 0 t)]) := f2.sto (.inr hyle) _ _
      generalize sto w2 y 2 [.string (c.data.extract 0 t)] = w3 at *
      obtain ⟨Q4, q4'⟩ : ∃ Q4 : List Value → World → Prop, ∀ a w', Q4 a w' ↔ ∃ x, a = [x] ∧ SlW 7 w' x ((crashL d.pending keep torn).map Chg.cells) ∧ New w w' x ∧ Fr (fun _ => False) w w' := ⟨_, fun _ _ => Iff.rfl⟩
      have hval : c'.val.cells.toList = c'.cells := by simp [Chg.val]
      refine Run.mono (Q := Q4) (Run_altM (by simp) fun z hz => ?_) ?_
      · have hs3 : Sl 7 w3.drew sv ((d.pending.take k).map Chg.cells) := (k2'.fr0 f3d).fr0 (Fr.refl (fun _ => False) w3).drew
        have hy3d : bk w3.drew y = some c'.cells := hy3
        have zk : (d.pending.take k).length ≤ 1048576 := by rw [List.length_take]; omega
        have z3 := f3.size
        have zd : w3.drew.heap.size = w3.heap.size := rfl
        simp only [List.mem_cons, List.not_mem_nil, or_false] at hz
        rcases hz with rfl | rfl
        · simp [-ldA_ptr]
          refine (clone_run hs3 (by omega)).mono ?_
          rintro r w5 ⟨hr, hrn, f5⟩
          have e7 := ld7 (f5.bk_some (w := w3.drew) hy3d id)
          have z5 := f5.size
          simp [-ldA_ptr, e7]
          refine Run_app1 (k := 7) (by simp [Chg.val, Chg.cells]) hr (by decide) rfl (by decide) (by simpa [Chg.val] using c'.all) (by simp only [List.length_map]; omega) fun r2 w6 hr2 f6 hin w7 f7 => ?_
          have z6 := f6.size
          simp [-ldA_ptr, ld7 hy3]
          refine (q4' _ _).2 ⟨r2, rfl, by rw [hL]; simpa [Chg.val] using hr2, fun x hx => ?_, ((f3.drew).trans f5 fun _ _ => id).new f6 fun x hx => by have := hrn x hx; omega⟩
          rcases hin x hx with h' | h'
          · have := hrn x h'; omega
          · omega
        · simp [-ldA_ptr, ld7 hy3d]
          refine Run_bsl (k := 7) (n := 1) (vs := [c'.val]) rfl (by simp [Chg.val, Chg.cells]) rfl (by simp [size_zeroCells]) fun a w5 hra f5 hran => ?_
          have z5 := f5.size
          have hra' : SlW 7 w5 a [c'.cells] := by simpa [Chg.val] using hra
          refine (clone_run (hs3.fr0 f5) (by omega)).mono ?_
          rintro r w6 ⟨hr, hrn, f6⟩
          have z6 := f6.size
          refine Run_appM (fls := [c'.cells]) hr (hra'.1.fr0 f6) (by decide) rfl (by decide) (fun e he => by obtain rfl := List.mem_singleton.1 he; exact c'.all) (by simp only [List.length_map, List.length_cons, List.length_nil]; omega) fun r2 w7 hr2 f7 hin => ?_
          have z7 := f7.size
          refine (q4' _ _).2 ⟨r2, rfl, by rw [hL]; simpa using hr2, fun x hx => ?_, (((f3.drew).trans f5 fun _ _ => id).trans f6 fun _ _ => id).new f7 fun x hx => by have := hrn x hx; omega⟩
          rcases hin x hx with h' | h'
          · have := hrn x h'; omega
          · omega
      rintro a w6 ha
      obtain ⟨x6, rfl, hx6, hn6, f6⟩ := (q4' _ _).1 ha
      have hsl6 := hx6.1.lenL
      rw [List.length_map] at hsl6
      simp only [Run_ret, outK_norm, getL_zero, hsl6, Run_bindO_some, Run_bind]
      refine crash_loop (L := crashL d.pending keep torn) (h.fr0 f6) hx6.1 (tnew _ _ hn6) hLlen hok (fun l => rfl) fun w3 v3 h3 f3 => ?_
      simp
      refine (restart2_run h3 hTr (hlk h3)).mono ?_
      rintro r w4 ⟨d', e1, e2⟩
      exact ⟨d', e1, DDid.trans h.bound ((f6.mono fun _ h => h.elim).trans f3 fun _ _ h => h) (fun _ h => .inl h) e2⟩
    · rw [if_neg hw, List.append_nil] at hL
      simp [-ldA_ptr, hlt, hb, Dk.cells, q1, q2', qk, hw]
      have hsl := k2'.lenL
      rw [List.length_map, ← hL] at hsl
      simp only [hsl, Run_bindO_some, Run_bind]
      refine crash_loop (L := crashL d.pending keep torn) hd (by rw [hL]; exact k2') ksv hLlen hok (fun l => rfl) fun w3 v3 h3 f3 => ?_
      simp
      refine (restart2_run h3 hTr (hlk h3)).mono ?_
      rintro r w4 ⟨d', e1, e2⟩
      exact ⟨d', e1, DDid.trans h.bound ((fd.mono fun _ h => h.elim).trans f3 fun _ _ h => h) (fun _ h => .inl h) e2⟩
  · have ekn : d.pending[k]? = none := List.getElem?_eq_none (by omega)
    rw [ekn] at hL
    simp only [List.append_nil] at hL
    simp [-ldA_ptr, hlt]
    have hsl := k2'.lenL
    rw [List.length_map, ← hL] at hsl
    simp only [hsl, Run_bindO_some, Run_bind]
    refine crash_loop (L := crashL d.pending keep torn) hd (by rw [hL]; exact k2') ksv hLlen hok (fun l => rfl) fun w3 v3 h3 f3 => ?_
    simp
    refine (restart2_run h3 hTr (hlk h3)).mono ?_
    rintro r w4 ⟨d', e1, e2⟩
    exact ⟨d', e1, DDid.trans h.bound ((fd.mono fun _ h => h.elim).trans f3 fun _ _ h => h) (fun _ h => .inl h) e2⟩
end
end Go.Proofs.YtojnickeblbgoaaGreatDoor
