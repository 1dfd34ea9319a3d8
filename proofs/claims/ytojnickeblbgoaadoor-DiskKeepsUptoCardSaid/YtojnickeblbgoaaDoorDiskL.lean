/-
  Layer 1 (disk), part L: Rename (in the root), Read, a file read whole, a new disk.
-/
import Derived.Test.YtojnickeblbgoaaDoorDiskK
import Derived.Test.YtojnickeblbgoaaDoorBld
namespace Go.Proofs.YtojnickeblbgoaaDoor
set_option linter.unusedVariables false
open Go.Lift
set_option linter.unusedSimpArgs false
set_option maxHeartbeats 4000000

theorem walk_one {d : Dk} (hk : (d.nd 0).kind = 1) (x : ByteArray) : d.walkF [x] = (0, (0, x), (d.seen (0, x)).getD (-1)) := by
  unfold Dk.walkF Dk.walkGo
  rw [if_neg (by decide), if_neg (by simp [hk]), if_neg (by simp)]
  rfl
theorem find_one {d : Dk} (hk : (d.nd 0).kind = 1) (hd : d.down = false) {p x : ByteArray} (hp : parseF p = some [x]) {i kind : Int} (hs : d.seen (0, x) = some i) (hi : 0 ≤ i) (hkind : kind = 0 ∨ (d.nd i).kind = kind) : d.findF p kind = (0, (0, x), i) := by
  unfold Dk.findF
  simp only [hd, hp, walk_one hk, hs, Option.getD_some]
  rw [if_neg (by decide), if_neg (by simp), if_neg (by omega), if_neg (by
    rintro ⟨h1, h2⟩
    exact hkind.elim h1 h2)]
theorem find_no {d : Dk} (hk : (d.nd 0).kind = 1) (hd : d.down = false) {p x : ByteArray} (hp : parseF p = some [x]) {kind : Int} (hs : d.seen (0, x) = none) : d.findF p kind = zspot 12 := by
  unfold Dk.findF
  simp only [hd, hp, walk_one hk, hs]
  rw [if_neg (by decide), if_neg (by simp), if_pos (by simp)]
theorem find_root {d : Dk} (hk : (d.nd 0).kind = 1) (hd : d.down = false) {p : ByteArray} (hp : parseF p = some []) : d.findF p 1 = (0, (-1, e0), 0) := by
  unfold Dk.findF
  have e : d.walkF [] = (0, (-1, e0), 0) := rfl
  simp only [hd, hp, e]
  rw [if_neg (by decide), if_neg (by simp), if_neg (by simp), if_neg (by simp [hk])]
theorem find_down {d : Dk} (hd : d.down = true) (p : ByteArray) (kind : Int) : d.findF p kind = zspot 10 := by simp [Dk.findF, hd]

section
variable {w w' w'' : World} {b : Nat} {d d' : Dk} {v : DV} {tag : Nat → Nat}
theorem path_run {w : World} {v : Value} {l : List ByteArray} {x : ByteArray} (hl : l = [x]) (hv : Sl 1 w v (l.map fun x => [.string x])) {β : Type} {K : Value → M β} {Q : β → World → Prop} (q : Run (K (.string (ByteArray.mk #[]))) w Q) :
    Run (bindO (sliceV 1 v none (some (.int .i64 0))) fun u => M.bind (F.disk_Path u) K) w Q := by
  obtain ⟨u, h1, h2, _⟩ := hv.take (n := 0) (by simp) .i64
  have h1' : sliceV 1 v none (some (.int .i64 0)) = some u := h1
  rw [h1']
  obtain ⟨_, a, c, rfl, _⟩ := h2
  unfold F.disk_Path
  have hj : Run (F.strings_Join (.slice a 0 c) (.string (ByteArray.mk #[47]))) w fun r w' => r = .string (ByteArray.mk #[]) ∧ w' = w := by
    unfold F.strings_Join
    simp [lenL]
  simp only [Run_bindO_some, Run_bind]
  refine hj.mono ?_
  rintro _ _ ⟨rfl, rfl⟩
  exact Run_ret.2 q
theorem rename_run (h : DA w b d v tag) (g : Good d) {p q x y : ByteArray} (hps : p.size < 4294967281) (hqs : q.size < 4294967281) (hp0 : p ≠ E0) (hq0 : q ≠ E0) (hp : parseF p = some [x]) (hq : parseF q = some [y]) (hxy : x ≠ y) (hd : d.down = false)
    (hk : (d.nd 0).kind = 1) {i j : Nat} {ni nj : Nd} (hx : d.seen (0, x) = some (i : Int)) (hy : d.seen (0, y) = some (j : Int)) (hi : d.nodes[i]? = some ni) (hj : d.nodes[j]? = some nj) (hik : ni.kind = 2) (hjk : nj.kind = 2) (hpl : d.pending.length ≤ 16777216) :
    Run (F.disk_Disk_Rename (Ptr b) (.string p) (.string q)) w fun r w' => r = .int .i64 (doF d ⟨4, 0, e0, 0, x, y, 0⟩ 0 (d.nd 0)).1 ∧ DDid w w' b tag (doF d ⟨4, 0, e0, 0, x, y, 0⟩ 0 (d.nd 0)).2 := by
  unfold F.disk_Disk_Rename
  have eE : ByteArray.mk #[] = E0 := rfl
  simp only [Run_bind]
  refine ready_run h ?_
  obtain ⟨m, hm⟩ := h.ml
  simp [-ldA_ptr, hd]
  refine (parse_run p hps hm).mono ?_
  rintro _ w2 ⟨nv, rfl, f2, hn⟩
  obtain ⟨hn1, _⟩ := hn _ hp
  obtain ⟨m2, hm2⟩ := (h.fr0 f2).ml
  simp [-ldA_ptr, hp]
  refine (parse_run q hqs hm2).mono ?_
  rintro _ w3 ⟨nw, rfl, f3, hn'⟩
  obtain ⟨hn2, _⟩ := hn' _ hq
  have hn1' := hn1.fr0 f3
  have l1 := hn1'.lenL
  have l2 := hn2.lenL
  simp only [List.length_map, List.length_cons, List.length_nil, Nat.zero_add] at l1 l2
  have fd : Fr (fun _ => False) w3 w3.drew := (Fr.refl (fun _ => False) w3).drew
  have n1d := hn1'.fr0 fd
  have n2d := hn2.fr0 fd
  have ew : IntKind.i64.wrap 0 = 0 := by decide
  simp [-ldA_ptr, hq, eE, ba_eq, hp0, hq0, l1, l2, ew]
  refine path_run rfl n1d ?_
  simp [-ldA_ptr, l1, l2, ew]
  refine path_run rfl n2d ?_
  simp [-ldA_ptr, l1, l2, ew, ba_eq]
  have f03 : Fr (fun _ => False) w w3.drew := (f2.trans f3 fun _ _ => id).trans fd fun _ _ => id
  have h3 := h.fr0 f03
  refine (walk_run h3 g n1d (by simp)).mono ?_
  rintro _ w4 ⟨rfl, f4⟩
  have h4 := h3.fr0 f4
  rw [walk_one hk x, hx]
  simp [-ldA_ptr, spotV]
  refine spot_mem fun z5 w5 hz5 _ f5 _ => ?_
  have h5 := h4.fr0 f5
  have hi0 : ¬ (i : Int) < 0 := by omega
  simp [-ldA_ptr, hz5, hi0]
  refine (walk_run h5 g ((n2d.fr0 f4).fr0 f5) (by simp)).mono ?_
  rintro _ w6 ⟨rfl, f6⟩
  have h6 := h5.fr0 f6
  rw [walk_one hk y, hy]
  simp [-ldA_ptr, spotV]
  refine spot_mem fun z7 w7 hz7 _ f7 _ => ?_
  have h7 := h6.fr0 f7
  have hz57 : bk w7 z5 = some [.int .i64 0, .string x, .int .i64 i] := f7.bk_some (f6.bk_some hz5 id) id
  have hl5 : ldA 2 (Ptr z5) w7 = some (.agg #[.int .i64 0, .string x]) := by rw [ldA_bk hz57 (by simp)]; rfl
  have hl7 : ldA 2 (Ptr z7) w7 = some (.agg #[.int .i64 0, .string y]) := by rw [ldA_bk hz7 (by simp)]; rfl
  have hl5d : ldA 2 (Ptr z5) w7.drew = some (.agg #[.int .i64 0, .string x]) := hl5
  have hl7d : ldA 2 (Ptr z7) w7.drew = some (.agg #[.int .i64 0, .string y]) := hl7
  have hb7 := h7.blk
  have f07 : Fr (fun _ => False) w w7.drew := ((((f03.trans f4 fun _ _ => id).trans f5 fun _ _ => id).trans f6 fun _ _ => id).trans f7 fun _ _ => id).drew
  obtain ⟨b0, o, ll, i1, t4, i2, q0, _, _, _⟩ := h7.setNode hi
  obtain ⟨b1, o1, ll1, j1, t41, j2, q1, _, _, _⟩ := h7.setNode hj
  have hyx : y ≠ x := Ne.symm hxy
  simp [-ldA_ptr, hz57, hz7, hl5d, hl7d, ba_eq, hxy, hyx, hb7, Dk.cells, i1, i2, q0, j1, j2, q1, hik, hjk]
  rw [build_move]
  simp only [Run_bindO_some, Run_bind, Run_ret]
  have h0 : d.nodes[0]? = some (d.nd 0) := by
    have := g.pos
    have e : d.nodes[0]? = some d.nodes[0] := List.getElem?_eq_getElem this
    simp [Dk.nd, e]
  refine (do_run (h.fr0 f07) ⟨4, 0, e0, 0, x, y, 0⟩ h0 rfl ⟨fun h => by simp at h, fun h => by simp at h⟩ hpl).mono ?_
  rintro r w8 ⟨rfl, h8⟩
  exact ⟨rfl, h8.pre f07⟩
theorem rename_down (h : DA w b d v tag) (p q : ByteArray) (hd : d.down = true) {Q : Value → World → Prop} (hq : Q (.int .i64 10) w) : Run (F.disk_Disk_Rename (Ptr b) (.string p) (.string q)) w Q := by
  unfold F.disk_Disk_Rename
  simp only [Run_bind]
  refine ready_run h ?_
  simpa [-ldA_ptr, hd] using hq
end
end Go.Proofs.YtojnickeblbgoaaDoor
