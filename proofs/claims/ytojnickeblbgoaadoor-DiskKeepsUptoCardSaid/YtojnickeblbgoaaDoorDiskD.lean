/-
  Layer 1 (disk), part D: a path walked and found; the calls that look.
-/
import Derived.Test.YtojnickeblbgoaaDoorDiskC
namespace Go.Proofs.YtojnickeblbgoaaDoor
open Go.Lift
set_option linter.unusedSimpArgs false
set_option maxHeartbeats 2000000

abbrev e0 : ByteArray := ByteArray.empty
def Dk.nd (d : Dk) (i : Int) : Nd := (d.nodes[i.toNat]?).getD ⟨0, e0, e0⟩
/-- Where a path leads: what is wrong, the place, the node. -/
abbrev Spot := Int × Slt × Int
def zspot (e : Int) : Spot := (e, (0, e0), 0)
def spotV (s : Spot) : Value := .agg #[.int .i64 s.2.1.1, .string s.2.1.2, .int .i64 s.2.2]
def Dk.walkGo (d : Dk) (a : Slt) (node : Int) : List ByteArray → Spot
  | [] => (0, a, node)
  | n :: rest => if node < 0 then zspot 12 else if (d.nd node).kind ≠ 1 then zspot 14 else
    if (d.seen (node, n)).getD (-1) < 0 ∧ rest ≠ [] then zspot 12 else d.walkGo (node, n) ((d.seen (node, n)).getD (-1)) rest
def Dk.walkF (d : Dk) (names : List ByteArray) : Spot := d.walkGo (-1, e0) 0 names
/-- Entries lead to nodes. -/
structure Good (d : Dk) : Prop where
  seen : ∀ s k, d.seen s = some k → k < d.nodes.length
  pos : 0 < d.nodes.length

section
variable {w w' w'' : World} {b : Nat} {d d' : Dk} {v : DV} {tag : Nat → Nat}
theorem build_slot (a : Int) (s : ByteArray) : buildV #[.int .i64 0, .string ByteArray.empty] [(0, 1, .int .i64 a), (1, 1, .string s)] = some (.agg #[.int .i64 a, .string s]) := by simp [buildV, fillV]
theorem build_m1 : buildV #[.int .i64 0, .string ByteArray.empty] [(0, 1, .int .i64 (-1))] = some (.agg #[.int .i64 (-1), .string ByteArray.empty]) := by simp [buildV, fillV]
theorem build_root : buildV #[.int .i64 0, .string ByteArray.empty, .int .i64 0] [(0, 2, .agg #[.int .i64 (-1), .string ByteArray.empty]), (2, 1, .int .i64 0)] = some (.agg #[.int .i64 (-1), .string ByteArray.empty, .int .i64 0]) := by simp [buildV, fillV]
theorem build_z : buildV #[.int .i64 0, .string ByteArray.empty, .int .i64 0] [] = some (.agg #[.int .i64 0, .string ByteArray.empty, .int .i64 0]) := by simp [buildV]
theorem walk_run (h : DA w b d v tag) (g : Good d) {nv : Value} {names : List ByteArray} (hn : Sl 1 w nv (names.map fun x => [.string x])) (hl : names.length ≤ 4294967296) :
    Run (F.disk_Disk_walk (Ptr b) nv) w fun r w' => r = .tuple #[spotV (d.walkF names), .int .i64 (d.walkF names).1] ∧ Fr (fun _ => False) w w' := by
  unfold F.disk_Disk_walk
  simp only [Run_bind]
  refine Run_new fun x1 w1 hx1 hw1 f1 hx1le => ?_
  simp [build_m1, build_root]
  refine Run_newSt (cs := #[.int .i64 (-1), .string e0, .int .i64 0]) rfl rfl (by simp) fun x4 w2 hx4 hw4 f2 hx4le => ?_
  have hnl := hn.lenL
  rw [List.length_map] at hnl
  simp [hnl]
  have s1 := f1.size
  have hx1lt := bk_lt hx1
  have hx1' : bk w1 x1 = some [.int .i64 0, .string e0, .int .i64 0] := hx1
  have hx12 : bk w2 x1 = some [.int .i64 0, .string e0, .int .i64 0] := f2.bk_some hx1' id
  have hw12 : wr w2 x1 = true := by rw [f2.wr hx1lt id]; exact hw1
  have f02 : Fr (fun _ => False) w w2 := f1.trans f2 fun _ _ => id
  have hne : x1 ≠ x4 := by omega
  have s2 := f2.size
  refine Run_for names.length (fun i l w' => l = [.int .i64 i] ∧ Fr (fun c => c = x4) w2 w' ∧ ∃ (a : Slt) (node : Int), bk w' x4 = some [.int .i64 a.1, .string a.2, .int .i64 node] ∧ wr w' x4 = true ∧ node < d.nodes.length ∧ d.walkF names = d.walkGo a node (names.drop i)) ⟨rfl, Fr.refl _ _, (-1, e0), 0, hx4, hw4, by have := g.pos; omega, rfl⟩ ?_ ?_
  · rintro i l w3 hi ⟨rfl, f3, a, node, hx, hwx, hlt, hwk⟩
    have ei : names[i]? = some names[i] := List.getElem?_eq_getElem hi
    have hdrop : names.drop i = names[i] :: names.drop (i + 1) := List.drop_eq_getElem_cons hi
    rw [hdrop] at hwk
    generalize names[i] = n at ei hwk
    have f03 : Fr (fun _ => False) w w3 := f02.new f3 fun c hc => by omega
    have h3 := h.fr0 f03
    have hb3 := h3.blk
    obtain ⟨p, p1, p2⟩ := (hn.fr0 f03).rd1 (i := i) (y := .string n) (by simp [ei]) .i64
    have hi' : (i : Int) < names.length := by omega
    have wi := wrap_succ (n := i) (by omega)
    have hx13 : bk w3 x1 = some [.int .i64 0, .string e0, .int .i64 0] := f3.bk_some hx12 hne
    have hw13 : wr w3 x1 = true := by rw [f3.wr (bk_lt hx12) hne]; exact hw12
    have back : ∀ (w4 : World) (p q r : Value), bk w4 x1 = some [.int .i64 0, .string e0, .int .i64 0] → ldA 3 (Ptr x1) (sto w4 x1 0 [p, q, r]) = some (.agg #[p, q, r]) := fun w4 p q r hh => by
      rw [ldA_bk (l := [p, q, r]) (by rw [bk_sto_eq, hh]; rfl) (by simp)]; rfl
    simp only [Dk.walkGo] at hwk
    simp [-ldA_ptr, hi, hi', p1, p2, hx]
    by_cases k1 : node < 0
    · rw [if_pos k1] at hwk
      simp [-ldA_ptr, k1, build_z, hx13, hw13]
      exact ⟨_, back w3 _ _ _ hx13, ⟨by rw [hwk]; rfl, by rw [hwk]; rfl⟩, f03.sto (.inr (by omega)) _ _⟩
    rw [if_neg k1] at hwk
    obtain ⟨j, hj⟩ : ∃ j : Nat, node = j := ⟨node.toNat, by omega⟩
    have hjl : j < d.nodes.length := by omega
    have hjn : d.nodes[j]? = some d.nodes[j] := List.getElem?_eq_getElem hjl
    generalize d.nodes[j] = nd at hjn
    have hnd : d.nd node = nd := by simp [Dk.nd, hj, hjn]
    rw [hnd] at hwk
    obtain ⟨b0, o, l0, i1, t4, i2, q0, _, _, _⟩ := h3.setNode hjn
    have i1' : idxA 3 v.nv (.int .i64 node) = some (.pointer (some ⟨b0, o, none⟩)) := by rw [hj]; exact i1
    simp [-ldA_ptr, k1, hb3, hx, Dk.cells, i1', i2, q0]
    by_cases k2 : nd.kind = 1
    · rw [if_neg (by simp [k2])] at hwk
      have hxb : x4 ≠ b := fun he => by have := h.bound b (by rw [h.tb]; decide); omega
      have hxs : x4 ≠ v.bs := fun he => by have := h.bound v.bs (by rw [h.ts]; decide); omega
      simp [-ldA_ptr, k2, hx, build_slot, hwx]
      have f34 : Fr (fun c => c = x4) w3 (sto w3.drew x4 0 [.int .i64 node, .string n]) := (Fr.refl (fun c => c = x4) w3).drew.sto (.inl rfl) _ _
      have hx5 : bk (sto w3.drew x4 0 [.int .i64 node, .string n]) x4 = some [.int .i64 node, .string n, .int .i64 node] := by rw [bk_sto_eq, bk_drew, hx]; rfl
      have hw5 : wr (sto w3.drew x4 0 [.int .i64 node, .string n]) x4 = true := by rw [wr_sto]; exact hwx
      have hb5 : bk (sto w3.drew x4 0 [.int .i64 node, .string n]) b = some (d.cells v) := by rw [bk_sto_ne (Ne.symm hxb)]; exact hb3
      have hm5 : MapAt slv idv (sto w3.drew x4 0 [.int .i64 node, .string n]) v.bs v.ls := h3.seen.fr f34 fun he => hxs he.symm
      have hx15 : bk (sto w3.drew x4 0 [.int .i64 node, .string n]) x1 = some [.int .i64 0, .string e0, .int .i64 0] := by rw [bk_sto_ne hne]; exact hx13
      have hw15 : wr (sto w3.drew x4 0 [.int .i64 node, .string n]) x1 = true := by rw [wr_sto]; exact hw13
      have z5 : (sto w3.drew x4 0 [.int .i64 node, .string n]).heap.size = w3.heap.size := size_sto _ _ _ _
      generalize sto w3.drew x4 0 [.int .i64 node, .string n] = w5 at *
      have fd : Fr (fun _ => False) w5 w5.drew := (Fr.refl (fun _ => False) w5).drew
      have hlook := (hm5.fr fd id).look keyS (node, n) (.int .i64 0) true
      have hl2 : ldA 2 (Ptr x4) w5 = some (slv (node, n)) := by rw [ldA_bk hx5 (by simp)]; rfl
      have hl2' : ldA 2 (Ptr x4) w5.drew = some (slv (node, n)) := hl2
      simp [-ldA_ptr, hb5, Dk.cells, hl2]
      rw [hlook]
      have hg : getK (node, n) v.ls = d.seen (node, n) := h.seenE (node, n)
      rw [hg]
      have f05 : Fr (fun _ => False) w w5.drew := (f03.new f34 fun c hc => by omega).trans fd fun _ _ => id
      have hr2 : ∀ K : Int, Fr (fun c => c = x4) w2 (sto w5.drew x4 2 [.int .i64 K]) := fun K => ((f3.trans f34 fun _ _ h => h).trans fd fun _ _ h => h.elim).sto (.inl rfl) _ _
      have hx6 : ∀ K : Int, bk (sto w5.drew x4 2 [.int .i64 K]) x4 = some [.int .i64 node, .string n, .int .i64 K] := fun K => by rw [bk_sto_eq, bk_drew, hx5]; rfl
      have hw6 : ∀ K : Int, wr (sto w5.drew x4 2 [.int .i64 K]) x4 = true := fun K => by rw [wr_sto]; exact hw5
      have hx16 : ∀ K : Int, bk (sto w5.drew x4 2 [.int .i64 K]) x1 = some [.int .i64 0, .string e0, .int .i64 0] := fun K => by rw [bk_sto_ne hne]; exact hx15
      have hw16 : ∀ K : Int, wr (sto w5.drew x4 2 [.int .i64 K]) x1 = true := fun K => by rw [wr_sto]; exact hw15
      have hlenr : (names.drop (i + 1)).length = names.length - (i + 1) := List.length_drop
      have fin : ∀ K : Int, (d.seen (node, n)).getD (-1) = K → (K < 0 → i + 1 < names.length → d.walkF names = zspot 12) ∧ (¬ (K < 0 ∧ i + 1 < names.length) → d.walkF names = d.walkGo (node, n) K (names.drop (i + 1))) := by
        intro K hK
        rw [hK] at hwk
        refine ⟨fun h1 h2 => ?_, fun h1 => ?_⟩
        · rw [hwk, if_pos ⟨h1, fun he => by rw [he] at hlenr; simp at hlenr; omega⟩]
        · rw [hwk, if_neg fun hh => h1 ⟨hh.1, by
            have := List.length_pos_iff.2 hh.2
            omega⟩]
      have hKlt : ∀ K : Int, (d.seen (node, n)).getD (-1) = K → K < d.nodes.length := by
        intro K hK
        cases hsn : d.seen (node, n) with
        | none => rw [hsn] at hK; simp at hK; omega
        | some k => rw [hsn] at hK; simp at hK; have := g.seen _ _ hsn; omega
      cases hsn : d.seen (node, n) with
      | none =>
        obtain ⟨q1, q2⟩ := fin (-1) (by rw [hsn]; rfl)
        have q3 := hKlt (-1) (by rw [hsn]; rfl)
        simp [-ldA_ptr, hx5, hw5, hnl, wi]
        by_cases kr : i + 1 < names.length
        · have hc : (i : Int) + 1 < names.length := by omega
          simp [-ldA_ptr, hc, build_z, hx16 (-1), hw16 (-1)]
          exact ⟨_, back _ _ _ _ (hx16 (-1)), ⟨by rw [q1 (by decide) kr]; rfl, by rw [q1 (by decide) kr]; rfl⟩, (f05.sto (.inr (by omega)) _ _).sto (.inr (by omega)) _ _⟩
        · have hc : ¬ (i : Int) + 1 < names.length := by omega
          simp [hc]
          exact ⟨hr2 (-1), node, n, -1, ⟨_, hx5, rfl⟩, hw5, q3, q2 fun hh => kr hh.2⟩
      | some k =>
        obtain ⟨q1, q2⟩ := fin k (by rw [hsn]; rfl)
        have q3 := hKlt k (by rw [hsn]; rfl)
        simp [-ldA_ptr, idv, hx5, hw5, hnl, wi]
        by_cases kn : k < 0
        · simp [-ldA_ptr, kn, hnl, wi]
          by_cases kr : i + 1 < names.length
          · have hc : (i : Int) + 1 < names.length := by omega
            simp [-ldA_ptr, hc, build_z, hx16 k, hw16 k]
            exact ⟨_, back _ _ _ _ (hx16 k), ⟨by rw [q1 kn kr]; rfl, by rw [q1 kn kr]; rfl⟩, (f05.sto (.inr (by omega)) _ _).sto (.inr (by omega)) _ _⟩
          · have hc : ¬ (i : Int) + 1 < names.length := by omega
            simp [hc]
            exact ⟨hr2 k, node, n, k, ⟨_, hx5, rfl⟩, hw5, q3, q2 fun hh => kr hh.2⟩
        · simp [kn]
          exact ⟨hr2 k, node, n, k, ⟨_, hx5, rfl⟩, hw5, q3, q2 fun hh => kn hh.1⟩
    · rw [if_pos k2] at hwk
      simp [-ldA_ptr, k2, build_z, hx13, hw13]
      exact ⟨_, back _ _ _ _ hx13, ⟨by rw [hwk]; rfl, by rw [hwk]; rfl⟩, (f03.drew).sto (.inr (by omega)) _ _⟩
  · rintro l w3 ⟨rfl, f3, a, node, hx, hwx, hlt, hwk⟩
    have f03 : Fr (fun _ => False) w w3 := f02.new f3 fun c hc => by omega
    have hx13 : bk w3 x1 = some [.int .i64 0, .string e0, .int .i64 0] := f3.bk_some hx12 hne
    have hw13 : wr w3 x1 = true := by rw [f3.wr (bk_lt hx12) hne]; exact hw12
    have hld : ldA 3 (Ptr x4) w3 = some (spotV (0, a, node)) := by rw [ldA_bk hx (by simp)]; rfl
    have hback : ldA 3 (Ptr x1) (sto w3 x1 0 [.int .i64 a.1, .string a.2, .int .i64 node]) = some (spotV (0, a, node)) := by
      rw [ldA_bk (l := [.int .i64 a.1, .string a.2, .int .i64 node]) (by rw [bk_sto_eq, hx13]; rfl) (by simp)]; rfl
    rw [List.drop_length] at hwk
    simp [-ldA_ptr, hld, spotV, hx13, hw13]
    exact ⟨by intro i hi; rcases i with _ | _ | _ | i <;> simp at hi ⊢ <;> omega, _, hback, ⟨by rw [hwk]; rfl, by rw [hwk]; rfl⟩, f03.sto (.inr (by omega)) _ _⟩
end
end Go.Proofs.YtojnickeblbgoaaDoor
