/-
  Layer 1 (disk), DiskKeeps, part A: paths and names; Truncate, Remove, Rename of any paths.
-/
import Derived.Test.YtojnickeblbgoaaDoorDiskM
import Derived.Test.YtojnickeblbgoaaDoorDiskW
import Derived.Lib.IndexLaws
import Derived.Lib.IndexBytes
namespace Go.Proofs.YtojnickeblbgoaaDoor
open Go.Lift
set_option linter.unusedSimpArgs false
set_option linter.unusedVariables false
set_option maxHeartbeats 4000000

/- A path is what its names are joined to. -/
def jl : List (List UInt8) → List UInt8
  | [] => []
  | x :: r => x ++ (r.map fun y => [47] ++ y).flatten
theorem jl_cons {x : List UInt8} {l : List (List UInt8)} (h : l ≠ []) : jl (x :: l) = x ++ [47] ++ jl l := by
  cases l with
  | nil => exact absurd rfl h
  | cons y r => simp [jl]
theorem splitK_ne (sep : List UInt8) (save k : Nat) (s : List UInt8) : Lib.splitK sep save k s ≠ [] := by
  cases k with
  | zero => simp [Lib.splitK]
  | succ k => unfold Lib.splitK; split <;> simp
theorem jl_split : ∀ (k : Nat) (s : List UInt8), jl (Lib.splitK [47] 0 k s) = s
  | 0, s => by simp [Lib.splitK, jl]
  | k + 1, s => by
    unfold Lib.splitK
    by_cases h : Lib.index s [47] == -1
    · rw [if_pos h]; simp [jl]
    · rw [if_neg h]
      have hge := Lib.index_ge s [47]
      obtain ⟨i, hi⟩ : ∃ i : Nat, Lib.index s [47] = i := ⟨(Lib.index s [47]).toNat, by
        have : Lib.index s [47] ≠ -1 := by simpa using h
        omega⟩
      rw [hi, jl_cons (splitK_ne _ _ _ _), jl_split k]
      rw [Lib.index_one] at hi
      have h1 := (Lib.indexByte_some hi).1
      have h2 := (List.getElem?_eq_some_iff.1 h1).1
      have e1 : (i : Int).toNat + 0 = i := by omega
      have e2 : (i : Int).toNat + [47].length = i + 1 := by simp
      rw [e1]
      have e3 : s.drop i = 47 :: s.drop (i + 1) := by
        rw [List.drop_eq_getElem_cons h2]
        congr 1
        have := (List.getElem?_eq_some_iff.1 h1).2
        exact this
      conv => rhs; rw [← List.take_append_drop i s, e3]
      simp
theorem parts_jl (s : ByteArray) : jl ((partsF s).map (·.data.toList)) = s.data.toList := by
  unfold partsF
  rw [Lib.splitB_data]
  exact jl_split _ _
theorem parse_jl {s : ByteArray} {names : List ByteArray} (h : parseF s = some names) : jl (names.map (·.data.toList)) = s.data.toList := by
  unfold parseF at h
  split at h
  · cases h
    rename_i he
    rw [he]; rfl
  · split at h
    · cases h
    · split at h
      · cases h; exact parts_jl s
      · cases h
theorem parse_inj {s t : ByteArray} {names : List ByteArray} (h : parseF s = some names) (h' : parseF t = some names) : s = t := ba_ext ((parse_jl h).symm.trans (parse_jl h'))
theorem parse_small {s : ByteArray} {names : List ByteArray} (h : parseF s = some names) : (∀ x ∈ names, x.size ≤ 40) ∧ names.length ≤ 8 := by
  unfold parseF at h
  split at h
  · cases h; simp
  · split at h
    · cases h
    · rename_i hcnt
      split at h
      · rename_i hall
        cases h
        refine ⟨fun x hx => ?_, ?_⟩
        · have := List.all_eq_true.1 hall x hx
          simp only [nameF, Bool.and_eq_true, decide_eq_true_eq] at this
          exact this.1.1.1.2
        · have h47 : (1 : Nat) ≤ slash.size := by decide
          have hlen : (partsF s).length = Lib.countB s slash + 1 := Lib.splitB_all slash h47 0 _ s rfl
          have hc : Lib.countB s slash = Lib.countByte s.data.toList 47 := Lib.count_one 47 s.data.toList
          omega
      · cases h
theorem parse_nil {s : ByteArray} (h : parseF s = some []) : s = E0 := by
  have := parse_jl h
  exact ba_ext (this.symm.trans rfl)
/-- The joined names. -/
def pathF (l : List ByteArray) : ByteArray := ⟨(joinL l slash).toArray⟩
section
variable {w w' w'' : World} {b : Nat} {d d' : Dk} {v : DV} {tag : Nat → Nat}
theorem path2_run {u : Value} {l : List ByteArray} (hu : Sl 1 w u (l.map fun x => [.string x])) (hs : ∀ x ∈ l, x.size ≤ 40) (hl : l.length ≤ 8) : Run (F.disk_Path u) w fun r w' => r = .string (pathF l) ∧ Fr (fun _ => False) w w' := by
  unfold F.disk_Path
  simp only [Run_bind]
  refine (join_run hu (sep := slash) (by decide) (by decide) (fun x hx => by have := hs x hx; omega) (by omega)).mono ?_
  rintro _ w1 ⟨rfl, f1⟩
  exact Run_ret.2 ⟨rfl, f1⟩
def truncF (d : Dk) (path : ByteArray) (size : Int) : Int × Dk := if d.down then (10, d) else if (parseF path).isSome = false then (11, d) else if size < 0 then (1, d) else
  if (d.findF path 2).1 ≠ 0 then ((d.findF path 2).1, d) else if ((d.nd (d.findF path 2).2.2).seen.size : Int) < size then (16, d) else
  doF d ⟨1, (d.findF path 2).2.2, e0, size, e0, e0, 0⟩ (d.findF path 2).2.2.toNat (d.nd (d.findF path 2).2.2)
theorem build_cut (a n z : Int) : buildV #[.int .i64 0, .int .i64 0, .string ByteArray.empty, .int .i64 0, .string ByteArray.empty, .string ByteArray.empty, .int .i64 0] [(0, 1, .int .i64 a), (1, 1, .int .i64 n), (3, 1, .int .i64 z)] = some (Chg.val ⟨a, n, e0, z, e0, e0, 0⟩) := by simp [buildV, fillV, Chg.val, Chg.cells]
theorem trunc_run (h : DA w b d v tag) (g : Good d) {path : ByteArray} (hs : path.size < 4294967281) (size : Int) (hn : ∀ nd ∈ d.nodes, nd.seen.size ≤ 2305843009213693952) (hpl : d.pending.length ≤ 16777216) :
    Run (F.disk_Disk_Truncate (Ptr b) (.string path) (.int .i64 size)) w fun r w' => r = .int .i64 (truncF d path size).1 ∧ DDid w w' b tag (truncF d path size).2 := by
  unfold F.disk_Disk_Truncate
  simp only [Run_bind]
  refine ready_run h ?_
  unfold truncF
  by_cases hd : d.down = true
  · simp [hd]
    exact h.did (Fr.refl _ _)
  · simp [-ldA_ptr, hd]
    obtain ⟨m, hm⟩ := h.ml
    refine (parse_run path hs hm).mono ?_
    rintro _ w2 ⟨nv, rfl, f2, hnames⟩
    have h2 := h.fr0 f2
    cases hp : (parseF path).isSome with
    | false =>
      have hpn : parseF path = none := by simpa using hp
      simp [hp, hpn]
      exact h2.did (f2.mono fun _ h => h.elim)
    | true =>
      have hpn : ¬ parseF path = none := fun he => by rw [he] at hp; cases hp
      by_cases hz : size < 0
      · simp [hp, hpn, hz]
        exact h2.did (f2.mono fun _ h => h.elim)
      simp [-ldA_ptr, hp, hpn, hz]
      refine (find_run h2 g hs 2).mono ?_
      rintro _ w1 ⟨rfl, f1⟩
      have hlt := find_lt g path 2
      have hpos := find_pos (d := d) (path := path) (kind := 2)
      generalize d.findF path 2 = s at *
      obtain ⟨e, ⟨a1, a2⟩, node⟩ := s
      simp only at hlt hpos
      simp [-ldA_ptr, spotV]
      refine spot_mem fun x w3 hx _ f3 hxle => ?_
      have f03 : Fr (fun _ => False) w w3 := (f2.trans f1 fun _ _ => id).trans f3 fun _ _ => id
      have h3 := h.fr0 f03
      by_cases k1 : e = 0
      · have hnn := (hpos k1).1
        obtain ⟨j, hj⟩ : ∃ j : Nat, node = j := ⟨node.toNat, by omega⟩
        have hjl : j < d.nodes.length := by omega
        have hjn : d.nodes[j]? = some d.nodes[j] := List.getElem?_eq_getElem hjl
        generalize d.nodes[j] = nd at hjn
        have hnd : d.nd node = nd := by simp [Dk.nd, hj, hjn]
        have hnds := hn nd (List.mem_of_getElem? hjn)
        obtain ⟨b0, o, l0, i1, t4, i2, _, q1, _, _⟩ := h3.setNode hjn
        have i1' : idxA 3 v.nv (.int .i64 node) = some (.pointer (some ⟨b0, o, none⟩)) := by rw [hj]; exact i1
        have hb3 := h3.blk
        by_cases k2 : (nd.seen.size : Int) < size
        · simp [-ldA_ptr, k1, hx, hb3, Dk.cells, i1', i2, q1, k2, hnd]
          exact h3.did (f03.mono fun _ h => h.elim) |>.post (Fr.refl (fun _ => False) w3).drew
        · simp [-ldA_ptr, k1, hx, hb3, Dk.cells, i1', i2, q1, k2, hnd, build_cut]
          have fd : Fr (fun _ => False) w3 w3.drew := (Fr.refl (fun _ => False) w3).drew
          refine (do_run (h3.fr0 fd) ⟨1, node, e0, size, e0, e0, 0⟩ hjn hj ⟨fun h => by simp at h, fun _ => by simp only; omega⟩ hpl).mono ?_
          rintro _ w4 ⟨rfl, h4⟩
          rw [show node.toNat = j by omega]
          exact ⟨rfl, h4.pre (f03.trans fd fun _ _ => id)⟩
      · simp [-ldA_ptr, k1]
        exact h3.did (f03.mono fun _ h => h.elim)
end
end Go.Proofs.YtojnickeblbgoaaDoor
