/-
  Layer 1 (disk), part F: the calls that look; Used; Arm.
-/
import Derived.Test.YtojnickeblbgoaaDoorDiskE
namespace Go.Proofs.YtojnickeblbgoaaDoor
open Go.Lift
set_option linter.unusedSimpArgs false
set_option maxHeartbeats 2000000

def Dk.kindF (d : Dk) (path : ByteArray) : Int × Int := if (d.findF path 0).1 ≠ 0 then (0, (d.findF path 0).1) else ((d.nd (d.findF path 0).2.2).kind, 0)
def Dk.sizeF (d : Dk) (path : ByteArray) : Int × Int := if (d.findF path 2).1 ≠ 0 then (0, (d.findF path 2).1) else ((d.nd (d.findF path 2).2.2).seen.size, 0)
def sumF (d : Dk) (l : List (Slt × Int)) : Nat := (l.map fun p => (d.nd p.2).seen.size).sum
theorem wrap_wrap (a b : Int) : IntKind.i64.wrap (IntKind.i64.wrap a + b) = IntKind.i64.wrap (a + b) := by simp [IntKind.wrap, IntKind.bits, IntKind.signed]; omega
theorem sum_perm {l l' : List Nat} (h : l.Perm l') : l.sum = l'.sum := by
  induction h with
  | nil => rfl
  | cons x _ ih => simp [ih]
  | swap x y l => simp; omega
  | trans _ _ ih1 ih2 => exact ih1.trans ih2

section
variable {w w' w'' : World} {b : Nat} {d d' : Dk} {v : DV} {tag : Nat → Nat}
theorem spot_mem {a1 : Int} {a2 : ByteArray} {node : Int} {Q : Value → Value → World → Prop} (q : ∀ x w', bk w' x = some [.int .i64 a1, .string a2, .int .i64 node] → wr w' x = true → Fr (fun _ => False) w w' → w.heap.size ≤ x → Q (Ptr x) undef w') :
    Run (newM 70 #[.int .i64 0, .string ByteArray.empty, .int .i64 0]) w fun a w1 => Run (stM 3 a (.agg #[.int .i64 a1, .string a2, .int .i64 node])) w1 fun u w2 => Q a u w2 :=
  Run_newSt (cs := #[.int .i64 a1, .string a2, .int .i64 node]) rfl rfl (by simp) fun x w' h1 h2 h3 h4 => q x w' h1 h2 h3 h4
theorem kind_run (h : DA w b d v tag) (g : Good d) {path : ByteArray} (hs : path.size < 4294967281) :
    Run (F.disk_Disk_Kind (Ptr b) (.string path)) w fun r w' => r = .tuple #[.int .i64 (d.kindF path).1, .int .i64 (d.kindF path).2] ∧ Fr (fun _ => False) w w' := by
  unfold F.disk_Disk_Kind
  simp only [Run_bind]
  refine (find_run h g hs 0).mono ?_
  rintro _ w1 ⟨rfl, f1⟩
  have hlt := find_lt g path 0
  have hpos := find_pos (d := d) (path := path) (kind := 0)
  unfold Dk.kindF
  generalize d.findF path 0 = s at *
  obtain ⟨e, ⟨a1, a2⟩, node⟩ := s
  simp only at hlt hpos
  simp [-ldA_ptr, spotV]
  refine spot_mem fun x w2 hx _ f2 _ => ?_
  have f02 : Fr (fun _ => False) w w2 := f1.trans f2 fun _ _ => id
  by_cases k1 : e = 0
  · have h2 := h.fr0 f02
    have hnn := (hpos k1).1
    obtain ⟨j, hj⟩ : ∃ j : Nat, node = j := ⟨node.toNat, by omega⟩
    have hjl : j < d.nodes.length := by omega
    have hjn : d.nodes[j]? = some d.nodes[j] := List.getElem?_eq_getElem hjl
    generalize d.nodes[j] = nd at hjn
    have hnd : d.nd node = nd := by simp [Dk.nd, hj, hjn]
    obtain ⟨b0, o, l0, i1, t4, i2, q0, _, _, _⟩ := h2.setNode hjn
    have i1' : idxA 3 v.nv (.int .i64 node) = some (.pointer (some ⟨b0, o, none⟩)) := by rw [hj]; exact i1
    have hb2 := h2.blk
    simp [-ldA_ptr, k1, hx, hb2, Dk.cells, i1', i2, q0, hnd]
    exact f02.drew
  · simp [-ldA_ptr, k1]
    exact f02
theorem size_run (h : DA w b d v tag) (g : Good d) {path : ByteArray} (hs : path.size < 4294967281) :
    Run (F.disk_Disk_Size (Ptr b) (.string path)) w fun r w' => r = .tuple #[.int .i64 (d.sizeF path).1, .int .i64 (d.sizeF path).2] ∧ Fr (fun _ => False) w w' := by
  unfold F.disk_Disk_Size
  simp only [Run_bind]
  refine (find_run h g hs 2).mono ?_
  rintro _ w1 ⟨rfl, f1⟩
  have hlt := find_lt g path 2
  have hpos := find_pos (d := d) (path := path) (kind := 2)
  unfold Dk.sizeF
  generalize d.findF path 2 = s at *
  obtain ⟨e, ⟨a1, a2⟩, node⟩ := s
  simp only at hlt hpos
  simp [-ldA_ptr, spotV]
  refine spot_mem fun x w2 hx _ f2 _ => ?_
  have f02 : Fr (fun _ => False) w w2 := f1.trans f2 fun _ _ => id
  by_cases k1 : e = 0
  · have h2 := h.fr0 f02
    have hnn := (hpos k1).1
    obtain ⟨j, hj⟩ : ∃ j : Nat, node = j := ⟨node.toNat, by omega⟩
    have hjl : j < d.nodes.length := by omega
    have hjn : d.nodes[j]? = some d.nodes[j] := List.getElem?_eq_getElem hjl
    generalize d.nodes[j] = nd at hjn
    have hnd : d.nd node = nd := by simp [Dk.nd, hj, hjn]
    obtain ⟨b0, o, l0, i1, t4, i2, _, q1, _, _⟩ := h2.setNode hjn
    have i1' : idxA 3 v.nv (.int .i64 node) = some (.pointer (some ⟨b0, o, none⟩)) := by rw [hj]; exact i1
    have hb2 := h2.blk
    simp [-ldA_ptr, k1, hx, hb2, Dk.cells, i1', i2, q1, hnd]
    exact f02.drew
  · simp [-ldA_ptr, k1]
    exact f02
theorem used_run (h : DA w b d v tag) (g : Good d) (hpos : ∀ s k, d.seen s = some k → 0 ≤ k) :
    Run (F.disk_Disk_Used (Ptr b)) w fun r w' => r = .int .i64 (IntKind.i64.wrap (sumF d v.ls)) ∧ Fr (fun _ => False) w w' := by
  unfold F.disk_Disk_Used
  have hb := h.blk
  simp [-ldA_ptr, hb, Dk.cells]
  refine Run_rngM h.seen fun w1 r hit f1 hr => ?_
  have hin : ∀ p ∈ v.ls, ∃ j : Nat, p.2 = j ∧ j < d.nodes.length := fun p hp => by
    have h1 := getK_of_mem h.seen.nodup (show (p.1, p.2) ∈ v.ls from hp)
    rw [h.seenE p.1] at h1
    have h2 := g.seen _ _ h1
    have h3 := hpos _ _ h1
    exact ⟨p.2.toNat, by omega, by omega⟩
  refine Run_range (k := fun _ _ => _) (fun x => rfl) (fun js x w' => x = [.int .i64 (IntKind.i64.wrap (sumF d (js.filterMap fun j => v.ls[j]?)))] ∧ Fr (fun c => c = r) w1 w') ⟨by simp [sumF]; rfl, Fr.refl _ _⟩ hit ?_ ?_
  · rintro js j p x w2 w3 hp hj ⟨rfl, f2⟩ hit3 f3 _
    have f13 : Fr (fun c => c = r) w1 w3 := f2.trans f3 fun _ _ h => h
    have f03 : Fr (fun _ => False) w w3 := f1.new f13 fun c hc => by omega
    have h3 := h.fr0 f03
    have he := hit3.entry hp
    obtain ⟨i, hi, hil⟩ := hin p (List.mem_of_getElem? hp)
    have hjn : d.nodes[i]? = some d.nodes[i] := List.getElem?_eq_getElem hil
    generalize d.nodes[i] = nd at hjn
    have hnd : d.nd p.2 = nd := by simp [Dk.nd, hi, hjn]
    obtain ⟨b0, o, l0, i1, t4, i2, _, q1, _, _⟩ := h3.setNode hjn
    have i1' : idxA 3 v.nv (idv p.2) = some (.pointer (some ⟨b0, o, none⟩)) := by rw [hi]; exact i1
    have hb3 := h3.blk
    simp [-ldA_ptr, he, hb3, Dk.cells, i1', i2, q1]
    refine ⟨⟨?_, f13⟩, hit3⟩
    rw [wrap_wrap]
    congr 1
    simp [sumF, List.filterMap_append, hp, hnd]
  · rintro js x w2 w3 hperm ⟨rfl, f2⟩ hit3 f3 _
    have f03 : Fr (fun _ => False) w w3 := (f1.new f2 fun c hc => by omega).trans f3 fun _ _ => id
    simp
    refine ⟨?_, f03⟩
    congr 2
    exact sum_perm ((perm_all hperm).map _)
theorem arm_run (h : DA w b d v tag) (k : Int) :
    Run (F.disk_Disk_Arm (Ptr b) (.int .i64 k)) w fun r w' => (d.down = true ∧ r = .int .i64 10 ∧ w' = w) ∨ (d.down = false ∧ r = .int .i64 0 ∧ DDid w w' b tag { d with armed := decide (0 ≤ k), left := k }) := by
  unfold F.disk_Disk_Arm
  simp only [Run_bind]
  refine ready_run h ?_
  have hb := h.blk
  have hw := h.wr
  cases hd : d.down with
  | true => simp
  | false =>
    have h1 : DA (sto w b 3 [.bool (decide (0 ≤ k))]) b { d with armed := decide (0 ≤ k) } v tag := h.put (by simp [Dk.cells]) rfl rfl rfl rfl
    simp [hb, hw, Dk.cells]
    have t := (h1.put (i := 4) (x := .int .i64 k) (d' := { d with armed := decide (0 ≤ k), left := k }) (by simp [Dk.cells]) rfl rfl rfl rfl).did (((Fr.refl (fun c => tag c ≠ 0) w).sto (b := b) (.inl (by rw [h.tb]; decide)) _ _).sto (b := b) (.inl (by rw [h.tb]; decide)) _ _)
    rw [hd] at t
    exact t
end
end Go.Proofs.YtojnickeblbgoaaDoor
