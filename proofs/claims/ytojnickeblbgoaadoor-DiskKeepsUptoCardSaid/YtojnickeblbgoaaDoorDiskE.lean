/-
  Layer 1 (disk), part E: a path found; the calls over it.
-/
import Derived.Test.YtojnickeblbgoaaDoorDiskD
namespace Go.Proofs.YtojnickeblbgoaaDoor
open Go.Lift
set_option linter.unusedSimpArgs false
set_option maxHeartbeats 2000000

def Dk.findF (d : Dk) (path : ByteArray) (kind : Int) : Spot := if d.down then zspot 10 else match parseF path with
  | none => zspot 11
  | some names => if (d.walkF names).1 ≠ 0 then zspot (d.walkF names).1 else if (d.walkF names).2.2 < 0 then zspot 12 else
    if kind ≠ 0 ∧ (d.nd (d.walkF names).2.2).kind ≠ kind then zspot 14 else d.walkF names
theorem parse_len {s : ByteArray} {names : List ByteArray} (h : parseF s = some names) : names.length ≤ s.size + 1 := by
  unfold parseF at h
  split at h
  · cases h; simp
  · split at h
    · cases h
    · split at h
      · cases h
        have h47 : (1 : Nat) ≤ slash.size := by decide
        have hlen : (partsF s).length = Lib.countB s slash + 1 := Lib.splitB_all slash h47 0 _ s rfl
        have hle := Lib.countB_le slash h47 s.size s (Nat.le_refl _)
        omega
      · cases h
theorem walkGo_lt {d : Dk} (g : Good d) : ∀ (names : List ByteArray) (a : Slt) (node : Int), node < d.nodes.length → (d.walkGo a node names).2.2 < d.nodes.length
  | [], a, node, h => h
  | n :: rest, a, node, h => by
    have hp := g.pos
    unfold Dk.walkGo
    split
    · show (0 : Int) < _; omega
    · split
      · show (0 : Int) < _; omega
      · split
        · show (0 : Int) < _; omega
        · refine walkGo_lt g rest _ _ ?_
          cases hs : d.seen (node, n) with
          | none => simp; omega
          | some k => simpa using g.seen _ _ hs
theorem walk_lt {d : Dk} (g : Good d) (names : List ByteArray) : (d.walkF names).2.2 < d.nodes.length := walkGo_lt g names _ _ (by have := g.pos; omega)
theorem find_lt {d : Dk} (g : Good d) (path : ByteArray) (kind : Int) : (d.findF path kind).2.2 < d.nodes.length := by
  have hp := g.pos
  unfold Dk.findF
  split
  · show (0 : Int) < _; omega
  · split
    · show (0 : Int) < _; omega
    · rename_i names _
      split
      · show (0 : Int) < _; omega
      · split
        · show (0 : Int) < _; omega
        · split
          · show (0 : Int) < _; omega
          · exact walk_lt g names
theorem find_pos {d : Dk} {path : ByteArray} {kind : Int} (h : (d.findF path kind).1 = 0) : 0 ≤ (d.findF path kind).2.2 ∧ d.down = false := by
  unfold Dk.findF at h ⊢
  split at h
  · cases h
  · rename_i hd
    split at h
    · cases h
    · split at h
      · rename_i h1
        exact absurd h h1
      · split at h
        · cases h
        · split at h
          · cases h
          · rename_i h1 h2 h3
            simp only [if_neg h1, if_neg h2, if_neg h3, if_neg hd]
            exact ⟨by omega, by simpa using hd⟩

section
variable {w w' w'' : World} {b : Nat} {d d' : Dk} {v : DV} {tag : Nat → Nat}
/-- A place is put where it is read again. -/
theorem back3 {x : Nat} {l : List Value} (hx : bk w x = some l) (hl : l.length = 3) (p q r : Value) : ldA 3 (Ptr x) (sto w x 0 [p, q, r]) = some (.agg #[p, q, r]) := by
  obtain ⟨a, b, c, rfl⟩ : ∃ a b c, l = [a, b, c] := by
    match l, hl with
    | [a, b, c], _ => exact ⟨a, b, c, rfl⟩
  rw [ldA_bk (l := [p, q, r]) (by rw [bk_sto_eq, hx]; rfl) (by simp)]; rfl
theorem find_run (h : DA w b d v tag) (g : Good d) {path : ByteArray} (hs : path.size < 4294967281) (kind : Int) :
    Run (F.disk_Disk_find (Ptr b) (.string path) (.int .i64 kind)) w fun r w' => r = .tuple #[spotV (d.findF path kind), .int .i64 (d.findF path kind).1] ∧ Fr (fun _ => False) w w' := by
  unfold F.disk_Disk_find
  simp only [Run_bind]
  refine Run_new fun x1 w1 hx1 hw1 f1 hx1le => ?_
  have h1 := h.fr0 f1
  have hx1' : bk w1 x1 = some [.int .i64 0, .string e0, .int .i64 0] := hx1
  have back : ∀ (w4 : World) (e : Int), Fr (fun _ => False) w1 w4 → ldA 3 (Ptr x1) (sto w4 x1 0 [.int .i64 0, .string ByteArray.empty, .int .i64 0]) = some (spotV (zspot e)) := fun w4 e f => back3 (f.bk_some hx1' id) rfl _ _ _
  have wx : ∀ w4, Fr (fun _ => False) w1 w4 → bk w4 x1 = some [.int .i64 0, .string e0, .int .i64 0] ∧ wr w4 x1 = true := fun w4 f => ⟨f.bk_some hx1' id, by rw [f.wr (bk_lt hx1') id]; exact hw1⟩
  refine ready_run h1 ?_
  obtain ⟨bx, wx0⟩ := wx w1 (Fr.refl _ _)
  cases hd : d.down with
  | true =>
    have e : d.findF path kind = zspot 10 := by simp [Dk.findF, hd]
    simp [-ldA_ptr, build_z, bx, wx0]
    rw [e]
    exact ⟨_, back w1 10 (Fr.refl _ _), ⟨rfl, rfl⟩, f1.sto (.inr hx1le) _ _⟩
  | false =>
    simp [-ldA_ptr]
    obtain ⟨m, hm⟩ := h1.ml
    refine (parse_run path hs hm).mono ?_
    rintro _ w2 ⟨nv, rfl, f2, hnames⟩
    have h2 := h1.fr0 f2
    obtain ⟨bx2, wx2⟩ := wx w2 f2
    cases hp : parseF path with
    | none =>
      have e : d.findF path kind = zspot 11 := by simp [Dk.findF, hd, hp]
      simp [-ldA_ptr, build_z, bx2, wx2]
      rw [e]
      exact ⟨_, back w2 11 f2, ⟨rfl, rfl⟩, (f1.trans f2 fun _ _ => id).sto (.inr hx1le) _ _⟩
    | some names =>
      obtain ⟨hsl, hnew⟩ := hnames names hp
      have hnl := parse_len hp
      simp [-ldA_ptr]
      refine (walk_run h2 g hsl (by omega)).mono ?_
      rintro _ w3 ⟨rfl, f3⟩
      have h3 := h2.fr0 f3
      have hlt := walk_lt g names
      have e : d.findF path kind = if (d.walkF names).1 ≠ 0 then zspot (d.walkF names).1 else if (d.walkF names).2.2 < 0 then zspot 12 else if kind ≠ 0 ∧ (d.nd (d.walkF names).2.2).kind ≠ kind then zspot 14 else d.walkF names := by
        simp [Dk.findF, hd, hp]
      rw [e]
      clear e
      generalize d.walkF names = s at *
      obtain ⟨e, ⟨a1, a2⟩, node⟩ := s
      simp only at hlt
      simp [-ldA_ptr, spotV]
      refine Run_newSt (cs := #[.int .i64 a1, .string a2, .int .i64 node]) rfl rfl (by simp) fun x2 w4 hx2 hw2 f4 hx2le => ?_
      have f14 : Fr (fun _ => False) w1 w4 := (f2.trans f3 fun _ _ => id).trans f4 fun _ _ => id
      have f04 : Fr (fun _ => False) w w4 := f1.trans f14 fun _ _ => id
      obtain ⟨bx4, wx4⟩ := wx w4 f14
      have hx2' : bk w4 x2 = some [.int .i64 a1, .string a2, .int .i64 node] := hx2
      have hl2 : ldA 3 (Ptr x2) w4 = some (.agg #[.int .i64 a1, .string a2, .int .i64 node]) := by rw [ldA_bk hx2' (by simp)]; rfl
      by_cases k1 : e = 0
      · by_cases k2 : node < 0
        · simp [-ldA_ptr, k1, hx2', k2, build_z, bx4, wx4]
          exact ⟨_, back w4 12 f14, ⟨rfl, rfl⟩, f04.sto (.inr hx1le) _ _⟩
        · have h4 := h3.fr0 f4
          obtain ⟨j, hj⟩ : ∃ j : Nat, node = j := ⟨node.toNat, by omega⟩
          have hjl : j < d.nodes.length := by omega
          have hjn : d.nodes[j]? = some d.nodes[j] := List.getElem?_eq_getElem hjl
          generalize d.nodes[j] = nd at hjn
          have hnd : d.nd node = nd := by simp [Dk.nd, hj, hjn]
          obtain ⟨b0, o, l0, i1, t4, i2, q0, _, _, _⟩ := h4.setNode hjn
          have i1' : idxA 3 v.nv (.int .i64 node) = some (.pointer (some ⟨b0, o, none⟩)) := by rw [hj]; exact i1
          have hb4 := h4.blk
          have hback : ∀ w5, Fr (fun _ => False) w1 w5 → ldA 3 (Ptr x1) (sto w5 x1 0 [.int .i64 a1, .string a2, .int .i64 node]) = some (.agg #[.int .i64 a1, .string a2, .int .i64 node]) := fun w5 f => back3 (f.bk_some hx1' id) rfl _ _ _
          have hl2d : ldA 3 (Ptr x2) w4.drew = some (.agg #[.int .i64 a1, .string a2, .int .i64 node]) := hl2
          by_cases k3 : kind = 0
          · simp [-ldA_ptr, k1, hx2', k2, k3, hl2, bx4, wx4]
            exact ⟨by intro i hi; rcases i with _ | _ | _ | i <;> simp at hi ⊢ <;> omega, _, hback _ (f14.drew), rfl, f04.drew.sto (.inr hx1le) _ _⟩
          · by_cases k4 : nd.kind = kind
            · simp [-ldA_ptr, k1, hx2', k2, k3, hl2, bx4, wx4, hb4, Dk.cells, i1', i2, q0, k4, hnd]
              exact ⟨by intro i hi; rcases i with _ | _ | _ | i <;> simp at hi ⊢ <;> omega, _, hback _ (f14.drew), rfl, f04.drew.sto (.inr hx1le) _ _⟩
            · simp [-ldA_ptr, k1, hx2', k2, k3, hl2, bx4, wx4, hb4, Dk.cells, i1', i2, q0, k4, hnd, build_z]
              exact ⟨_, back _ 14 (f14.drew), ⟨rfl, rfl⟩, f04.drew.sto (.inr hx1le) _ _⟩
      · simp [-ldA_ptr, k1, build_z, bx4, wx4]
        exact ⟨_, back w4 e f14, ⟨rfl, rfl⟩, f04.sto (.inr hx1le) _ _⟩
end
end Go.Proofs.YtojnickeblbgoaaDoor
