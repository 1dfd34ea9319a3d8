/-
  Layer 1 (disk), part M: Read, a file read whole, a new disk.
-/
import Derived.Test.YtojnickeblbgoaaDoorDiskL
namespace Go.Proofs.YtojnickeblbgoaaDoor
open Go.Lift
set_option linter.unusedSimpArgs false
set_option maxHeartbeats 4000000

section
variable {w w' w'' : World} {b : Nat} {d d' : Dk} {v : DV} {tag : Nat → Nat}
theorem ext_all (s : ByteArray) : s.extract 0 s.size = s := by
  apply ba_ext
  simp
theorem slice_all (s : ByteArray) : sliceS (.string s) (some (.int .i64 0)) (some (.int .i64 s.size)) = some (.string s) := by
  simp [sliceS, highV, lowV, boundV, ext_all]
theorem read_run (h : DA w b d v tag) (g : Good d) {path : ByteArray} (hs : path.size < 4294967281) (hd : d.down = false) (hp : (parseF path).isSome = true) (hf : (d.findF path 2).1 = 0) {nd : Nd} (hnd : d.nd (d.findF path 2).2.2 = nd) (hns : nd.seen.size ≤ 4611686018427387904) :
    Run (F.disk_Disk_Read (Ptr b) (.string path) (.int .i64 0) (.int .i64 nd.seen.size)) w fun r w' => r = .tuple #[.string nd.seen, .int .i64 0] ∧ DDid w w' b tag { d with reads := IntKind.i64.wrap (d.reads + 1) } := by
  unfold F.disk_Disk_Read
  simp only [Run_bind]
  refine ready_run h ?_
  obtain ⟨m, hm⟩ := h.ml
  simp [-ldA_ptr, hd]
  refine (parse_run path hs hm).mono ?_
  rintro _ w2 ⟨nv, rfl, f2, hn⟩
  have h2 := h.fr0 f2
  have hge : ¬ ((nd.seen.size : Nat) : Int) < 0 := by omega
  simp [-ldA_ptr, hp, hge]
  refine (find_run h2 g hs 2).mono ?_
  rintro _ w3 ⟨rfl, f3⟩
  have hlt := find_lt g path 2
  have hpos := find_pos (d := d) (path := path) (kind := 2)
  generalize d.findF path 2 = s at *
  obtain ⟨e, ⟨a1, a2⟩, node⟩ := s
  simp only at hlt hpos hf hnd
  subst hf
  simp [-ldA_ptr, spotV]
  refine spot_mem fun x w4 hx _ f4 _ => ?_
  have f04 : Fr (fun _ => False) w w4 := (f2.trans f3 fun _ _ => id).trans f4 fun _ _ => id
  have h4 := h.fr0 f04
  have hnn := (hpos rfl).1
  obtain ⟨j, hj⟩ : ∃ j : Nat, node = j := ⟨node.toNat, by omega⟩
  have hjl : j < d.nodes.length := by omega
  have hjn : d.nodes[j]? = some nd := by
    have e : d.nodes[j]? = some d.nodes[j] := List.getElem?_eq_getElem hjl
    rw [← hnd]
    simp [Dk.nd, hj, e]
  obtain ⟨b0, o, l0, i1, t4, i2, _, q1, _, _⟩ := h4.setNode hjn
  have i1' : idxA 3 v.nv (.int .i64 node) = some (.pointer (some ⟨b0, o, none⟩)) := by rw [hj]; exact i1
  have hb4 := h4.blk
  have hw4 := h4.wr
  have ws : IntKind.i64.wrap (nd.seen.size : Int) = nd.seen.size := wrap_int (by omega) (by omega)
  have t := ((h4.fr0 (Fr.refl (fun _ => False) w4).drew).put (i := 2) (x := .int .i64 (IntKind.i64.wrap (d.reads + 1))) (d' := { d with reads := IntKind.i64.wrap (d.reads + 1) }) (by simp [Dk.cells]) rfl rfl rfl rfl)
  simp [-ldA_ptr, hx, hb4, hw4, Dk.cells, i1', i2, q1, hge, ws, minV, slice_all]
  rw [hd] at t
  exact t.did (((f04.mono fun _ h => h.elim).drew).sto (b := b) (.inl (by rw [h.tb]; decide)) _ _)
theorem whole_run (h : DA w b d v tag) (g : Good d) {path : ByteArray} (hs : path.size < 4294967281) (hd : d.down = false) (hp : (parseF path).isSome = true) (hf : (d.findF path 2).1 = 0) {nd : Nd} (hnd : d.nd (d.findF path 2).2.2 = nd) (hns : nd.seen.size ≤ 4611686018427387904) :
    Run (F.granarylaw1_whole (Ptr b) (.string path)) w fun r w' => r = .tuple #[.string nd.seen, .bool true] ∧ DDid w w' b tag { d with reads := IntKind.i64.wrap (d.reads + 1) } := by
  unfold F.granarylaw1_whole F.granarylaw1_num
  simp only [Run_bind]
  refine (size_run h g hs).mono ?_
  rintro _ w1 ⟨rfl, f1⟩
  have e : d.sizeF path = ((nd.seen.size : Int), 0) := by simp [Dk.sizeF, hf, hnd]
  rw [e]
  simp [-ldA_ptr]
  refine (read_run (h.fr0 f1) g hs hd hp hf hnd hns).mono ?_
  rintro _ w2 ⟨rfl, h2⟩
  simp
  exact h2.pre f1

def newD (cap : Int) : Dk := ⟨cap, 0, 0, false, 0, false, [⟨1, e0, e0⟩], fun _ => none, fun _ => none, []⟩
theorem new_run {w : World} (hm : ∃ m : Int, bk w 0 = some [.int .i64 m]) :
    Run (F.disk_New (.int .i64 1073741824)) w fun r w' => ∃ b, r = .tuple #[Ptr b, .int .i64 0] ∧ ∃ v tag, DA w' b (newD 1073741824) v tag ∧ (∀ c, tag c ≠ 0 → w.heap.size ≤ c) ∧ Fr (fun _ => False) w w' := by
  unfold F.disk_New
  simp [-ldA_ptr, build_node]
  refine Run_bsl (k := 3) (n := 1) (vs := [.agg #[.int .i64 1, .string ByteArray.empty, .string ByteArray.empty]]) rfl (by simp) rfl (by simp [size_zeroCells]) fun r w1 hr f1 hrn => ?_
  have s1 := f1.size
  refine Run_mkmM (kv := slv) (vv := idv) fun w2 b2 hm2 f2 hb2 => ?_
  refine Run_mkmM (kv := slv) (vv := idv) fun w3 b3 hm3 f3 hb3 => ?_
  have l2 := hm2.lt
  have l3 := hm3.lt
  have s2 := f2.size
  have s3 := f3.size
  have hr2 : SlW 3 w3 r ((newD 1073741824).nodes.map Nd.cells) := (hr.fr f2 fun _ _ h => h).fr f3 fun _ _ h => h
  have e : buildV #[.int .i64 0, .int .i64 0, .int .i64 0, .bool false, .int .i64 0, .bool false, .slice none 0 0, .map none, .map none, .slice none 0 0]
      [(0, 1, .int .i64 1073741824), (6, 1, r), (7, 1, .map (some b2)), (8, 1, .map (some b3))] = some (.agg ((newD 1073741824).cells ⟨r, .slice none 0 0, b2, b3, [], []⟩).toArray) := by
    obtain ⟨_, a, c, rfl, _⟩ := hr2.1
    simp [buildV, fillV, Dk.cells, newD]
  rw [e]
  simp only [Run_bindO_some, Run_bind]
  refine Run_new fun b w4 hb hw f4 hble => ?_
  have f04 : Fr (fun _ => False) w w4 := ((f1.trans f2 fun _ _ => id).trans f3 fun _ _ => id).trans f4 fun _ _ => id
  have s4 := f4.size
  have hbl := bk_lt hb
  obtain ⟨m, hm0⟩ := hm
  have hz := bk_lt hm0
  have hr4 := hr2.fr f4 fun _ _ h => h
  simp only [Run_ret]
  obtain ⟨tag, htag⟩ : ∃ tag : Nat → Nat, tag = fun c => if c = b then 1 else if c = b2 then 2 else if c = b3 then 3 else if c = w.heap.size ∧ c < w1.heap.size then 4 else 0 := ⟨_, rfl⟩
  have t1 : tag b = 1 := by rw [htag]; simp
  have t2 : tag b2 = 2 := by rw [htag]; simp only; rw [if_neg (by omega), if_pos trivial]
  have t3 : tag b3 = 3 := by rw [htag]; simp only; rw [if_neg (by omega), if_neg (by omega), if_pos trivial]
  have t4 : ∀ c, inB r c → tag c = 4 := fun c hc => by
    have := hrn c hc
    rw [htag]; simp only; rw [if_neg (by omega), if_neg (by omega), if_neg (by omega), if_pos this]
  have tle : ∀ c, tag c ≠ 0 → w.heap.size ≤ c ∧ c < w4.heap.size := fun c hc => by
    rw [htag] at hc
    simp only at hc
    split at hc
    · omega
    · split at hc
      · omega
      · split at hc
        · omega
        · split at hc
          · omega
          · exact absurd rfl hc
  have t0 : tag 0 = 0 := Classical.byContradiction fun h => by have := tle 0 h; omega
  exact ⟨b, rfl, ⟨r, .slice none 0 0, b2, b3, [], []⟩, tag, ⟨hb, hw, hr4, (hm2.fr f3 id).fr f4 id, fun _ => rfl, hm3.fr f4 id, fun _ => rfl, SlW.nil _ _, t1, t2, t3, t4, fun c hc => hc.elim, t0, ⟨m, f04.bk_some hm0 id⟩, fun c hc => (tle c hc).2⟩, fun c hc => (tle c hc).1, f04⟩
end
end Go.Proofs.YtojnickeblbgoaaDoor
