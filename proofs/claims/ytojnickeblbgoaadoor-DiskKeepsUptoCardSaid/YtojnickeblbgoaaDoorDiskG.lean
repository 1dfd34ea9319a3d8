/-
  Layer 1 (disk), part G: Append, Create.
-/
import Derived.Test.YtojnickeblbgoaaDoorDiskF
namespace Go.Proofs.YtojnickeblbgoaaDoor
set_option linter.unusedVariables false
open Go.Lift
set_option linter.unusedSimpArgs false
set_option maxHeartbeats 2000000

def appendF (d : Dk) (path data : ByteArray) (U : Nat) : Int × Dk := if (d.findF path 2).1 ≠ 0 then ((d.findF path 2).1, d) else if d.cap < (U : Int) + data.size then (15, d) else
  doF d ⟨0, (d.findF path 2).2.2, data, 0, e0, e0, 0⟩ (d.findF path 2).2.2.toNat (d.nd (d.findF path 2).2.2)
def Dk.addNode (d : Dk) (kind : Int) : Dk := { d with nodes := d.nodes ++ [⟨kind, e0, e0⟩] }
def createF (d : Dk) (path : ByteArray) (kind : Int) : Int × Dk := if d.down then (10, d) else match parseF path with
  | none => (11, d)
  | some names => if (d.walkF names).1 ≠ 0 then ((d.walkF names).1, d) else if 0 ≤ (d.walkF names).2.2 then (13, d) else
    doF (d.addNode kind) ⟨2, (d.walkF names).2.1.1, e0, 0, (d.walkF names).2.1.2, e0, d.nodes.length⟩ (d.walkF names).2.1.1.toNat (d.nd (d.walkF names).2.1.1)
theorem walkGo_dir {d : Dk} (g : Good d) : ∀ (names : List ByteArray) (a : Slt) (node : Int), node < d.nodes.length → (names ≠ [] ∨ (0 ≤ a.1 ∧ a.1 < d.nodes.length)) → (d.walkGo a node names).1 = 0 → 0 ≤ (d.walkGo a node names).2.1.1 ∧ (d.walkGo a node names).2.1.1 < d.nodes.length
  | [], a, node, _, h, _ => h.elim (fun h => absurd rfl h) id
  | n :: rest, a, node, hl, _, h => by
    unfold Dk.walkGo at h ⊢
    by_cases h1 : node < 0
    · rw [if_pos h1] at h; cases h
    rw [if_neg h1] at h ⊢
    by_cases h2 : (d.nd node).kind ≠ 1
    · rw [if_pos h2] at h; cases h
    rw [if_neg h2] at h ⊢
    by_cases h3 : (d.seen (node, n)).getD (-1) < 0 ∧ rest ≠ []
    · rw [if_pos h3] at h; cases h
    rw [if_neg h3] at h ⊢
    refine walkGo_dir g rest _ _ ?_ (.inr ⟨by simp only; omega, hl⟩) h
    cases hs : d.seen (node, n) with
    | none => simp; omega
    | some k => simpa using g.seen _ _ hs
theorem walk_dir {d : Dk} (g : Good d) {names : List ByteArray} (hn : names ≠ []) (h : (d.walkF names).1 = 0) : 0 ≤ (d.walkF names).2.1.1 ∧ (d.walkF names).2.1.1 < d.nodes.length := walkGo_dir g names _ _ (by have := g.pos; omega) (.inl hn) h

section
variable {w w' w'' : World} {b : Nat} {d d' : Dk} {v : DV} {tag : Nat → Nat}
theorem build_chg (a n : Int) (x : ByteArray) (s : ByteArray) (t : Int) : buildV #[.int .i64 0, .int .i64 0, .string ByteArray.empty, .int .i64 0, .string ByteArray.empty, .string ByteArray.empty, .int .i64 0] [(0, 1, .int .i64 a), (1, 1, .int .i64 n), (2, 1, .string x)] = some (Chg.val ⟨a, n, x, 0, e0, e0, 0⟩) := by simp [buildV, fillV, Chg.val, Chg.cells]
theorem build_link (a n : Int) (s : ByteArray) (t : Int) : buildV #[.int .i64 0, .int .i64 0, .string ByteArray.empty, .int .i64 0, .string ByteArray.empty, .string ByteArray.empty, .int .i64 0] [(0, 1, .int .i64 a), (1, 1, .int .i64 n), (4, 1, .string s), (6, 1, .int .i64 t)] = some (Chg.val ⟨a, n, e0, 0, s, e0, t⟩) := by simp [buildV, fillV, Chg.val, Chg.cells]
theorem build_node (k : Int) : buildV #[.int .i64 0, .string ByteArray.empty, .string ByteArray.empty] [(0, 1, .int .i64 k)] = some (.agg #[.int .i64 k, .string ByteArray.empty, .string ByteArray.empty]) := by simp [buildV, fillV]
theorem append_run (h : DA w b d v tag) (g : Good d) (hp : ∀ s k, d.seen s = some k → 0 ≤ k) {path data : ByteArray} (hs : path.size < 4294967281) (hd : data.size ≤ 2305843009213693952) (hU : ∀ ls, (ls.map (·.1)).Nodup → Eqm ls d.seen → sumF d ls ≤ 2305843009213693952) (hn : ∀ nd ∈ d.nodes, nd.seen.size ≤ 2305843009213693952) (hpl : d.pending.length ≤ 16777216) :
    Run (F.disk_Disk_Append (Ptr b) (.string path) (.string data)) w fun r w' => ∃ ls, (ls.map (·.1)).Nodup ∧ Eqm ls d.seen ∧ r = .int .i64 (appendF d path data (sumF d ls)).1 ∧ DDid w w' b tag (appendF d path data (sumF d ls)).2 := by
  unfold F.disk_Disk_Append
  simp only [Run_bind]
  refine (find_run h g hs 2).mono ?_
  rintro _ w1 ⟨rfl, f1⟩
  have hlt := find_lt g path 2
  have hpos := find_pos (d := d) (path := path) (kind := 2)
  unfold appendF
  generalize d.findF path 2 = s at *
  obtain ⟨e, ⟨a1, a2⟩, node⟩ := s
  simp only at hlt hpos
  simp [-ldA_ptr, spotV]
  refine spot_mem fun x w2 hx _ f2 hxle => ?_
  have f02 : Fr (fun _ => False) w w2 := f1.trans f2 fun _ _ => id
  have hUv := hU v.ls h.seen.nodup h.seenE
  by_cases k1 : e = 0
  · have h2 := h.fr0 f02
    have hnn := (hpos k1).1
    obtain ⟨j, hj⟩ : ∃ j : Nat, node = j := ⟨node.toNat, by omega⟩
    have hjl : j < d.nodes.length := by omega
    have hjn : d.nodes[j]? = some d.nodes[j] := List.getElem?_eq_getElem hjl
    generalize d.nodes[j] = nd at hjn
    have hnd : d.nd node = nd := by simp [Dk.nd, hj, hjn]
    have hnds := hn nd (List.mem_of_getElem? hjn)
    simp [-ldA_ptr, k1]
    have fd : Fr (fun _ => False) w2 w2.drew := (Fr.refl (fun _ => False) w2).drew
    refine (used_run (h2.fr0 fd) g hp).mono ?_
    rintro _ w3 ⟨rfl, f3⟩
    have h3 := (h2.fr0 fd).fr0 f3
    have hb3 := h3.blk
    have hb2 := h2.blk
    have f03 : Fr (fun _ => False) w w3 := (f02.trans fd fun _ _ => id).trans f3 fun _ _ => id
    have hx3 : bk w3 x = some [.int .i64 a1, .string a2, .int .i64 node] := f3.bk_some (w := w2.drew) hx id
    have e1 : IntKind.i64.wrap (sumF d v.ls : Nat) = (sumF d v.ls : Nat) := wrap_int (by omega) (by omega)
    have e2 : IntKind.i64.wrap (((sumF d v.ls : Nat) : Int) + data.size) = ((sumF d v.ls : Nat) : Int) + data.size := wrap_int (by omega) (by omega)
    by_cases k2 : d.cap < ((sumF d v.ls : Nat) : Int) + data.size
    · simp [-ldA_ptr, hb3, hb2, Dk.cells, e1, e2, k2]
      exact ⟨v.ls, h.seen.nodup, h.seenE, by simp [k2], by simp only [k2, if_true]; exact (h3.did (f03.mono fun _ h => h.elim))⟩
    · simp [-ldA_ptr, hb3, hb2, Dk.cells, e1, e2, k2, hx3]
      rw [build_chg 0 node data e0 0]
      simp only [Run_bindO_some, Run_bind, Run_ret]
      refine (do_run h3 ⟨0, node, data, 0, e0, e0, 0⟩ hjn hj ⟨fun _ => by simp only; omega, fun h => by simp at h⟩ hpl).mono ?_
      rintro _ w4 ⟨rfl, h4⟩
      refine ⟨v.ls, h.seen.nodup, h.seenE, ?_, ?_⟩
      · rw [if_neg k2, hnd, show node.toNat = j by omega]
      · rw [if_neg k2, hnd, show node.toNat = j by omega]; exact h4.pre f03
  · simp [-ldA_ptr, k1]
    exact ⟨v.ls, h.seen.nodup, h.seenE, (h.fr0 f02).did (f02.mono fun _ h => h.elim)⟩
theorem create_run (h : DA w b d v tag) (g : Good d) {path : ByteArray} (hs : path.size < 4294967281) (kind : Int) (hpl : d.pending.length ≤ 16777216) (hnl : d.nodes.length ≤ 16777216) :
    Run (F.disk_Disk_add (Ptr b) (.string path) (.int .i64 kind)) w fun r w' => r = .int .i64 (createF d path kind).1 ∧ DDid w w' b tag (createF d path kind).2 := by
  unfold F.disk_Disk_add
  simp only [Run_bind]
  refine ready_run h ?_
  unfold createF
  by_cases hd : d.down = true
  · simp [hd]
    exact h.did (Fr.refl _ _)
  · simp [-ldA_ptr, hd]
    obtain ⟨m, hm⟩ := h.ml
    refine (parse_run path hs hm).mono ?_
    rintro _ w2 ⟨nv, rfl, f2, hnames⟩
    have h2 := h.fr0 f2
    cases hp : parseF path with
    | none =>
      simp
      exact h2.did (f2.mono fun _ h => h.elim)
    | some names =>
      obtain ⟨hsl, hnew⟩ := hnames names hp
      have hnl' := parse_len hp
      simp [-ldA_ptr]
      refine (walk_run h2 g hsl (by omega)).mono ?_
      rintro _ w3 ⟨rfl, f3⟩
      have h3 := h2.fr0 f3
      have f03 : Fr (fun _ => False) w w3 := f2.trans f3 fun _ _ => id
      have hne : (d.walkF names).1 = 0 → ¬ 0 ≤ (d.walkF names).2.2 → 0 ≤ (d.walkF names).2.1.1 ∧ (d.walkF names).2.1.1 < d.nodes.length := fun h1 h2 => by
        refine walk_dir g (fun he => ?_) h1
        rw [he] at h2
        exact h2 (show (0 : Int) ≤ 0 by omega)
      generalize d.walkF names = s at *
      obtain ⟨e, ⟨a1, a2⟩, node⟩ := s
      simp only at hne
      simp [-ldA_ptr, spotV]
      refine spot_mem fun x w4 hx _ f4 hxle => ?_
      have h4 := h3.fr0 f4
      have f04 : Fr (fun _ => False) w w4 := f03.trans f4 fun _ _ => id
      by_cases k1 : e = 0
      · by_cases k2 : 0 ≤ node
        · simp [-ldA_ptr, k1, k2, hx]
          exact h4.did (f04.mono fun _ h => h.elim)
        · obtain ⟨n1, n2⟩ := hne k1 k2
          obtain ⟨j, hj⟩ : ∃ j : Nat, a1 = j := ⟨a1.toNat, by omega⟩
          have hjl : j < d.nodes.length := by omega
          have hjn : d.nodes[j]? = some d.nodes[j] := List.getElem?_eq_getElem hjl
          generalize d.nodes[j] = nd at hjn
          have hnd : d.nd a1 = nd := by simp [Dk.nd, hj, hjn]
          have hb4 := h4.blk
          simp [-ldA_ptr, k1, k2, hx, hb4, Dk.cells, build_node]
          refine Run_app1 (k := 3) (by simp) h4.nodes (by decide) rfl (by decide) (by simp) (by simp only [List.length_map]; omega) fun r w5 hr f5 hin w6 f6 => ?_
          have hr' : SlW 3 w5 r ((d.nodes ++ [(⟨kind, e0, e0⟩ : Nd)]).map Nd.cells) := by simpa [Nd.cells] using hr
          obtain ⟨g1, g2, tag', g3, g4, g5⟩ := h4.newNodes f5 hr' hin
          have hrc := hr.1.isCell
          have s03 := f03.size
          have hx5 : x ≠ b := fun he => by have := h.bound b (by rw [h.tb]; decide); omega
          have hxn : ¬ inB v.nv x := fun hi => by have := h.bound x (by rw [h.tn x hi]; decide); omega
          have hx7 : bk (sto w5 b 6 [r]) x = some [.int .i64 a1, .string a2, .int .i64 node] := by rw [bk_sto_ne hx5]; exact f5.bk_some hx hxn
          have hlr := hr'.1.lenL
          rw [List.length_map, List.length_append] at hlr
          have e3 : IntKind.i64.wrap (((d.nodes.length + 1 : Nat) : Int) - 1) = d.nodes.length := by
            rw [show ((d.nodes.length + 1 : Nat) : Int) - 1 = d.nodes.length by omega]
            exact wrap_int (by omega) (by omega)
          rw [cells_isCell hrc, show (#[r] : Array Value).toList = [r] from rfl]
          refine ⟨rfl, by simp [hrc], ⟨_, g1, by simp [Dk.cells]⟩, g2, ?_⟩
          have hb7 := g3.blk
          refine ⟨_, by rw [hx7]; rfl, _, by rw [hx7]; rfl, _, by rw [g1]; rfl, ?_⟩
          simp only [hlr, Run_bindO_some, binV_int, intBin_sub, List.length_cons, List.length_nil, Nat.zero_add, e3, build_link, Run_bind, Run_ret]
          have fd : Fr (fun _ => False) (sto w5 b 6 [r]) (sto w5 b 6 [r]).drew := (Fr.refl (fun _ => False) _).drew
          have hjn' : (d.nodes ++ [(⟨kind, e0, e0⟩ : Nd)])[j]? = some nd := by rw [List.getElem?_append_left hjl]; exact hjn
          refine (do_run (g3.fr0 fd) ⟨2, a1, e0, 0, a2, e0, d.nodes.length⟩ (i := j) (nd := nd) hjn' hj ⟨fun h => by simp at h, fun h => by simp at h⟩ hpl).mono ?_
          rintro _ w8 ⟨rfl, h8⟩
          have f07 : Fr (fun c => tag c ≠ 0) w (sto w5 b 6 [r]).drew := ((f04.mono fun _ h => h.elim).trans g4 fun _ _ h => h).drew
          rw [hnd, show a1.toNat = j by omega]
          exact ⟨rfl, DDid.trans h.bound f07 (fun c hc => (g5 c hc).imp id fun h => by have := f04.size; omega) h8⟩
      · simp [-ldA_ptr, k1]
        exact h4.did (f04.mono fun _ h => h.elim)
end
end Go.Proofs.YtojnickeblbgoaaDoor
