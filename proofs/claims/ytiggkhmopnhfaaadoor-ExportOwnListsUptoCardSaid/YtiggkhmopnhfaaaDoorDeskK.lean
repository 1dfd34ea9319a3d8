/-
  The exact laws of layer 21, part K: what is read of a definition and of a script; the table of limits.
-/
import Derived.Test.YtiggkhmopnhfaaaDoorDeskF
import Derived.Test.YtiggkhmopnhfaaaDoorLiftO
import Derived.Test.YtiggkhmopnhfaaaDoorRows
import Derived.WalkKit
import Derived.ProofKit
import Derived.OpenShut
import Derived.JoinedCond
import Derived.Carry
import Derived.Deep.DeepHandedRow
import Derived.Lib.LaidTab
namespace Go.Proofs.YtiggkhmopnhfaaaDoor
open Go.Lift
set_option linter.unusedSimpArgs false

noncomputable def fsOf (t : TypeId) : Array Field := match Tryd.prog.underlying t with
  | some (.struct fs) => fs
  | _ => #[]
theorem und24 : Tryd.prog.underlying 24 = some (.struct (fsOf 24)) := by kernel_rfl
theorem und64 : Tryd.prog.underlying 64 = some (.struct (fsOf 64)) := by kernel_rfl
theorem und3 : Tryd.prog.underlying 3 = some (.int .i64) := by kernel_rfl
theorem und9 : Tryd.prog.underlying 9 = some .string := by kernel_rfl
theorem und22 : Tryd.prog.underlying 22 = some (.slice 64) := by kernel_rfl
theorem und44 : Tryd.prog.underlying 44 = some (.slice 3) := by kernel_rfl
theorem cells24 : Tryd.prog.cellsOf 24 = 23 := by kernel_rfl
theorem cells64 : Tryd.prog.cellsOf 64 = 2 := by kernel_rfl
theorem cells3 : Tryd.prog.cellsOf 3 = 1 := by kernel_rfl
theorem cells9 : Tryd.prog.cellsOf 9 = 1 := by kernel_rfl
theorem cells22 : Tryd.prog.cellsOf 22 = 1 := by kernel_rfl
theorem cells44 : Tryd.prog.cellsOf 44 = 1 := by kernel_rfl
theorem fs24 : ((fsOf 24).toList.map fun f => (f.type, f.offset)) = [(9, 0), (3, 1), (3, 2), (3, 3), (3, 4), (3, 5), (3, 6), (3, 7), (3, 8), (3, 9), (3, 10), (3, 11), (3, 12), (3, 13), (3, 14), (3, 15), (3, 16), (3, 17), (3, 18), (3, 19), (3, 20), (3, 21), (22, 22)] := by kernel_rfl
theorem fs64 : ((fsOf 64).toList.map fun f => (f.type, f.offset)) = [(3, 0), (44, 1)] := by kernel_rfl

theorem len2 {α : Type} : ∀ {l : List α}, l.length = 2 → ∃ a b, l = [a, b]
  | [a, b], _ => ⟨a, b, rfl⟩
section
variable {H : Type} {enc : TypeId × Value → H} {w : World}
/-- The fields of a struct that is read. -/
theorem read_fields {t : TypeId} {fs : Array Field} {l : List (TypeId × Nat)} {fuel : Nat} {cs : List Value} {x : DataW H × List MemPlace} (ht : Tryd.prog.underlying t = some (.struct fs)) (hl : (fs.toList.map fun f => (f.type, f.offset)) = l)
    (h : DataW.trod enc Tryd.prog w 0 (fun _ => true) true fuel t cs = some x) :
    cs.length = Tryd.prog.cellsOf t ∧ ∃ (xs : List (DataW H × List MemPlace)) (n : Nat), x.1 = .agg (xs.map (·.1)) ∧ xs.length = l.length ∧
      ∀ (i : Nat) (p : TypeId × Nat), l[i]? = some p → ∃ y, xs[i]? = some y ∧ DataW.trod enc Tryd.prog w 0 (fun _ => true) true n p.1 ((cs.drop p.2).take (Tryd.prog.cellsOf p.1)) = some y := by
  obtain ⟨xs, n, _, rfl, hc, hxl, hf⟩ := DataW.trod_struct ht h
  have hll : xs.length = l.length := by rw [← hl, hxl]; simp
  refine ⟨hc, xs, n, rfl, hll, fun i p hp => ?_⟩
  rw [← hl, List.getElem?_map] at hp
  cases hfi : fs.toList[i]? with
  | none => rw [hfi] at hp; cases hp
  | some f =>
    rw [hfi] at hp
    cases hp
    have hi : i < xs.length := by
      have := (List.getElem?_eq_some_iff.1 hfi).1
      simp at this
      omega
    have := hf i f (by simpa using hfi)
    exact ⟨xs[i], List.getElem?_eq_getElem hi, by rw [this]; exact List.getElem?_eq_getElem hi⟩

/-- A node. -/
theorem read_node {fuel : Nat} {cs : List Value} {x : DataW H × List MemPlace} (h : DataW.trod enc Tryd.prog w 0 (fun _ => true) true fuel 64 cs = some x) :
    ∃ (z : Int) (p : Value) (l : List Int), cs = [.int .i64 z, p] ∧ Ints w p l ∧ (x.1 = .agg [.lit (.int .i64 z), .nil] ∧ l = [] ∨ ∃ ds sp, x.1 = .agg [.lit (.int .i64 z), .slice ds sp] ∧ ds.length = l.length) := by
  obtain ⟨hl, xs, n, hx, hxl, hf⟩ := read_fields und64 fs64 h
  rw [cells64] at hl
  obtain ⟨c0, c1, rfl⟩ := len2 hl
  obtain ⟨y0, h0, e0⟩ := hf 0 _ rfl
  obtain ⟨y1, h1, e1⟩ := hf 1 _ rfl
  obtain ⟨z, hz, hy0, _⟩ := DataW.trod_int und3 e0
  obtain ⟨v, els, hv, hs, hcase⟩ := open_sl und44 cells3 (by decide) e1
  obtain ⟨a, b, rfl⟩ := len2 hxl
  cases h0; cases h1
  simp only [cells3, cells44, List.drop_zero, List.drop_succ_cons, List.take_succ_cons, List.take_zero] at hz hv
  cases hz
  obtain rfl : c1 = v := by simpa using hv
  have hels : ∃ l : List Int, els = elI l := by
    rcases hcase with ⟨_, rfl⟩ | ⟨Ds, sp, _, hDl, hD⟩
    · exact ⟨[], rfl⟩
    · have : ∀ c ∈ els, ∃ n : Int, c = [.int .i64 n] := by
        intro c hc
        obtain ⟨i, hi⟩ := List.getElem?_of_mem hc
        have hil := (List.getElem?_eq_some_iff.1 hi).1
        obtain ⟨m, ps, hm⟩ := hD i c _ hi (List.getElem?_eq_getElem (by omega))
        obtain ⟨k, hk, _⟩ := DataW.trod_int und3 hm
        exact ⟨k, hk⟩
      clear hDl hD hs
      induction els with
      | nil => exact ⟨[], rfl⟩
      | cons c els ih =>
        obtain ⟨l, hl⟩ := ih fun c hc => this c (by simp [hc])
        obtain ⟨n, hn⟩ := this c (by simp)
        exact ⟨n :: l, by simp [elI, hn, hl]⟩
  obtain ⟨l, rfl⟩ := hels
  refine ⟨z, c1, l, rfl, hs, ?_⟩
  rw [hx, List.map_cons, List.map_cons, List.map_nil, hy0]
  rcases hcase with ⟨hc, hl⟩ | ⟨Ds, sp, hc, hDl, hD⟩
  · left
    exact ⟨by rw [hc], by cases l with
      | nil => rfl
      | cons a l => simp [elI] at hl⟩
  · right
    exact ⟨Ds, sp, by rw [hc], by simpa using hDl⟩

theorem bulk_one (d : DataW H) : 1 ≤ Rows.uptoBulk d := by
  cases d with
  | lit l => cases l <;> simp [Rows.uptoBulk]
  | nil => simp [Rows.uptoBulk]
  | ptr d => simp [Rows.uptoBulk]
  | slice elems spare => simp [Rows.uptoBulk]
  | agg parts => simp [Rows.uptoBulk]
  | iface t d => simp [Rows.uptoBulk]
  | map entries => simp [Rows.uptoBulk]
  | held h => simp [Rows.uptoBulk]
theorem bulk_length (l : List (DataW H)) : l.length ≤ Rows.uptoBulkAll l := by
  induction l with
  | nil => simp [Rows.uptoBulkAll]
  | cons x r ih => have := bulk_one x; simp only [Rows.uptoBulkAll, List.length_cons]; omega
theorem bulk_mem {d : DataW H} {l : List (DataW H)} (h : d ∈ l) : Rows.uptoBulk d ≤ Rows.uptoBulkAll l := by
  induction l with
  | nil => cases h
  | cons x r ih =>
    simp only [Rows.uptoBulkAll]
    rcases List.mem_cons.1 h with rfl | h
    · omega
    · have := ih h; omega

/-- A list of nodes. -/
theorem read_nodes {fuel : Nat} {cs : List Value} {x : DataW H × List MemPlace} (h : DataW.trod enc Tryd.prog w 0 (fun _ => true) true fuel 22 cs = some x) :
    ∃ (nv : Value) (ns : List (Int × List Int)) (pvs : List Value), cs = [nv] ∧ Nodes w nv ns pvs ∧ ns.length ≤ Rows.uptoBulk x.1 ∧ (ns.map (·.2.length)).sum ≤ Rows.uptoBulk x.1 := by
  obtain ⟨nv, els, rfl, hs, hcase⟩ := open_sl und22 cells64 (by decide) h
  have key : ∀ (els : List (List Value)) (Ds : List (DataW H)), Ds.length = els.length → (∀ (i : Nat) (c : List Value) (d : DataW H), els[i]? = some c → Ds[i]? = some d → ∃ n ps, DataW.trod enc Tryd.prog w 0 (fun _ => true) true n 64 c = some (d, ps)) →
      ∃ (ns : List (Int × List Int)) (pvs : List Value), els = elN ns pvs ∧ pvs.length = ns.length ∧ (∀ (i : Nat) (n : Int × List Int) (p : Value), ns[i]? = some n → pvs[i]? = some p → Ints w p n.2) ∧ ns.length + (ns.map (·.2.length)).sum ≤ Rows.uptoBulkAll Ds := by
    intro els
    induction els with
    | nil => intro Ds _ _; exact ⟨[], [], rfl, rfl, fun i n p hn => by simp at hn, by simp⟩
    | cons c els ih =>
      intro Ds hl hD
      cases Ds with
      | nil => simp at hl
      | cons d Ds =>
        obtain ⟨ns, pvs, h1, h2, h3, h4⟩ := ih Ds (by simpa using hl) fun i c d hc hd => hD (i + 1) c d (by simpa using hc) (by simpa using hd)
        obtain ⟨n, ps, hn⟩ := hD 0 c d rfl rfl
        obtain ⟨z, p, l, hc, hI, hb⟩ := read_node hn
        refine ⟨(z, l) :: ns, p :: pvs, by rw [hc, h1]; rfl, by simp [h2], ?_, ?_⟩
        · intro i n q hn hq
          cases i with
          | zero => simp at hn hq; rw [← hn, ← hq]; exact hI
          | succ i => exact h3 i n q (by simpa using hn) (by simpa using hq)
        · simp only [List.length_cons, List.map_cons, List.sum_cons, Rows.uptoBulkAll]
          have : l.length + 1 ≤ Rows.uptoBulk d := by
            rcases hb with ⟨hb, rfl⟩ | ⟨ds, sp, hb, hdl⟩
            · exact bulk_one d
            · simp only at hb
              rw [hb]
              have := bulk_length ds
              simp only [Rows.uptoBulk, Rows.uptoBulkAll]
              omega
          omega
  rcases hcase with ⟨hx, rfl⟩ | ⟨Ds, sp, hx, hDl, hD⟩
  · exact ⟨nv, [], [], rfl, ⟨rfl, hs, fun i n p hn => by simp at hn⟩, by simp, by simp⟩
  · obtain ⟨ns, pvs, rfl, h2, h3, h4⟩ := key els Ds hDl hD
    have hb : Rows.uptoBulkAll Ds ≤ Rows.uptoBulk x.1 := by rw [hx]; simp only [Rows.uptoBulk]; omega
    exact ⟨nv, ns, pvs, rfl, ⟨h2, hs, h3⟩, by omega, by omega⟩

theorem len23 {α : Type} : ∀ {l : List α}, l.length = 23 → ∃ a0 a1 a2 a3 a4 a5 a6 a7 a8 a9 a10 a11 a12 a13 a14 a15 a16 a17 a18 a19 a20 a21 a22, l = [a0, a1, a2, a3, a4, a5, a6, a7, a8, a9, a10, a11, a12, a13, a14, a15, a16, a17, a18, a19, a20, a21, a22]
  | [a0, a1, a2, a3, a4, a5, a6, a7, a8, a9, a10, a11, a12, a13, a14, a15, a16, a17, a18, a19, a20, a21, a22], _ => ⟨a0, a1, a2, a3, a4, a5, a6, a7, a8, a9, a10, a11, a12, a13, a14, a15, a16, a17, a18, a19, a20, a21, a22, rfl⟩

/-- A definition. -/
theorem read_cluster {fuel : Nat} {cs : List Value} {x : DataW H × List MemPlace} (h : DataW.trod enc Tryd.prog w 0 (fun _ => true) true fuel 24 cs = some x) :
    ∃ (C : Clu) (nv : Value) (pvs : List Value), cs = C.cells nv ∧ Nodes w nv C.nodes pvs ∧ C.nodes.length ≤ Rows.uptoBulk x.1 ∧ (C.nodes.map (·.2.length)).sum ≤ Rows.uptoBulk x.1 := by
  obtain ⟨hl, xs, n, hx, hxl, hf⟩ := read_fields und24 fs24 h
  rw [cells24] at hl
  obtain ⟨c0, c1, c2, c3, c4, c5, c6, c7, c8, c9, c10, c11, c12, c13, c14, c15, c16, c17, c18, c19, c20, c21, c22, rfl⟩ := len23 hl
  have hint : ∀ (i : Nat) (c : Value), [(9, 0), (3, 1), (3, 2), (3, 3), (3, 4), (3, 5), (3, 6), (3, 7), (3, 8), (3, 9), (3, 10), (3, 11), (3, 12), (3, 13), (3, 14), (3, 15), (3, 16), (3, 17), (3, 18), (3, 19), (3, 20), (3, 21), (22, 22)][i]? = some (3, i) →
      [c0, c1, c2, c3, c4, c5, c6, c7, c8, c9, c10, c11, c12, c13, c14, c15, c16, c17, c18, c19, c20, c21, c22][i]? = some c → ∃ z : Int, c = .int .i64 z := by
    intro i c hi hc
    obtain ⟨y, _, e⟩ := hf i _ hi
    obtain ⟨z, hz, _⟩ := DataW.trod_int und3 e
    refine ⟨z, ?_⟩
    have : ([c0, c1, c2, c3, c4, c5, c6, c7, c8, c9, c10, c11, c12, c13, c14, c15, c16, c17, c18, c19, c20, c21, c22].drop i).take 1 = [c] := by
      obtain ⟨hlt, rfl⟩ := List.getElem?_eq_some_iff.1 hc
      rw [List.drop_eq_getElem_cons hlt]
      rfl
    rw [cells3] at hz
    simp only at hz
    rw [this] at hz
    cases hz; rfl
  obtain ⟨y0, _, e0⟩ := hf 0 _ rfl
  obtain ⟨st, hst, _⟩ := DataW.trod_string und9 e0
  obtain ⟨y22, h22, e22⟩ := hf 22 _ rfl
  obtain ⟨nv, ns, pvs, hnv, hN, hb1, hb2⟩ := read_nodes e22
  rw [cells9] at hst
  rw [cells22] at hnv
  obtain rfl : c0 = .string st := by simpa using hst
  obtain rfl : c22 = nv := by simpa using hnv
  obtain ⟨z1, rfl⟩ := hint 1 _ rfl rfl
  obtain ⟨z2, rfl⟩ := hint 2 _ rfl rfl
  obtain ⟨z3, rfl⟩ := hint 3 _ rfl rfl
  obtain ⟨z4, rfl⟩ := hint 4 _ rfl rfl
  obtain ⟨z5, rfl⟩ := hint 5 _ rfl rfl
  obtain ⟨z6, rfl⟩ := hint 6 _ rfl rfl
  obtain ⟨z7, rfl⟩ := hint 7 _ rfl rfl
  obtain ⟨z8, rfl⟩ := hint 8 _ rfl rfl
  obtain ⟨z9, rfl⟩ := hint 9 _ rfl rfl
  obtain ⟨z10, rfl⟩ := hint 10 _ rfl rfl
  obtain ⟨z11, rfl⟩ := hint 11 _ rfl rfl
  obtain ⟨z12, rfl⟩ := hint 12 _ rfl rfl
  obtain ⟨z13, rfl⟩ := hint 13 _ rfl rfl
  obtain ⟨z14, rfl⟩ := hint 14 _ rfl rfl
  obtain ⟨z15, rfl⟩ := hint 15 _ rfl rfl
  obtain ⟨z16, rfl⟩ := hint 16 _ rfl rfl
  obtain ⟨z17, rfl⟩ := hint 17 _ rfl rfl
  obtain ⟨z18, rfl⟩ := hint 18 _ rfl rfl
  obtain ⟨z19, rfl⟩ := hint 19 _ rfl rfl
  obtain ⟨z20, rfl⟩ := hint 20 _ rfl rfl
  obtain ⟨z21, rfl⟩ := hint 21 _ rfl rfl
  have hb : Rows.uptoBulk y22.1 ≤ Rows.uptoBulk x.1 := by
    rw [hx]
    simp only [Rows.uptoBulk]
    have := bulk_mem (d := y22.1) (l := xs.map (·.1)) (List.mem_map.2 ⟨y22, List.mem_of_getElem? h22, rfl⟩)
    omega
  exact ⟨⟨st, z1, z2, z3, z4, z5, z6, z7, z8, z9, z10, z11, z12, z13, z14, z15, z16, z17, z18, z19, z20, z21, ns⟩, c22, pvs, rfl, hN, by show ns.length ≤ _; omega, by show (ns.map (·.2.length)).sum ≤ _; omega⟩
end

theorem und36 : Tryd.prog.underlying 36 = some (.struct (fsOf 36)) := by kernel_rfl
theorem und38 : Tryd.prog.underlying 38 = some (.struct (fsOf 38)) := by kernel_rfl
theorem und25 : Tryd.prog.underlying 25 = some (.slice 38) := by kernel_rfl
theorem undE : Tryd.prog.underlying 34 = some (.int .i64) := by kernel_rfl
theorem cellsE : Tryd.prog.cellsOf 34 = 1 := by kernel_rfl
theorem cells36 : Tryd.prog.cellsOf 36 = 11 := by kernel_rfl
theorem cells38 : Tryd.prog.cellsOf 38 = 14 := by kernel_rfl
theorem fs36 : ((fsOf 36).toList.map fun f => (f.type, f.offset)) = [(3, 0), (3, 1), (3, 2), (3, 3), (3, 4), (3, 5), (3, 6), (3, 7), (34, 8), (9, 9), (9, 10)] := by kernel_rfl
theorem fs38 : ((fsOf 38).toList.map fun f => (f.type, f.offset)) = [(3, 0), (3, 1), (3, 2), (36, 3)] := by kernel_rfl

section
variable {H : Type} {enc : TypeId × Value → H} {w : World}
theorem len11 {α : Type} : ∀ {l : List α}, l.length = 11 → ∃ a0 a1 a2 a3 a4 a5 a6 a7 a8 a9 a10, l = [a0, a1, a2, a3, a4, a5, a6, a7, a8, a9, a10]
  | [a0, a1, a2, a3, a4, a5, a6, a7, a8, a9, a10], _ => ⟨a0, a1, a2, a3, a4, a5, a6, a7, a8, a9, a10, rfl⟩
theorem len14 {α : Type} : ∀ {l : List α}, l.length = 14 → ∃ a0 a1 a2 a3 a4 a5 a6 a7 a8 a9 a10 a11 a12 a13, l = [a0, a1, a2, a3, a4, a5, a6, a7, a8, a9, a10, a11, a12, a13]
  | [a0, a1, a2, a3, a4, a5, a6, a7, a8, a9, a10, a11, a12, a13], _ => ⟨a0, a1, a2, a3, a4, a5, a6, a7, a8, a9, a10, a11, a12, a13, rfl⟩
theorem take_one {l : List Value} {i : Nat} {c : Value} (h : l[i]? = some c) : (l.drop i).take 1 = [c] := by
  obtain ⟨hlt, rfl⟩ := List.getElem?_eq_some_iff.1 h
  rw [List.drop_eq_getElem_cons hlt]
  rfl
theorem read_msg {fuel : Nat} {cs : List Value} {x : DataW H × List MemPlace} (h : DataW.trod enc Tryd.prog w 0 (fun _ => true) true fuel 36 cs = some x) : ∃ m : Ms, cs = m.cells ∧ MStr m := by
  obtain ⟨hl, xs, n, hx, hxl, hf⟩ := read_fields und36 fs36 h
  rw [cells36] at hl
  obtain ⟨c0, c1, c2, c3, c4, c5, c6, c7, c8, c9, c10, rfl⟩ := len11 hl
  have hint : ∀ (i : Nat) (c : Value), [(3, 0), (3, 1), (3, 2), (3, 3), (3, 4), (3, 5), (3, 6), (3, 7), (34, 8), (9, 9), (9, 10)][i]? = some (3, i) → [c0, c1, c2, c3, c4, c5, c6, c7, c8, c9, c10][i]? = some c → ∃ z : Int, c = .int .i64 z := by
    intro i c hi hc
    obtain ⟨y, _, e⟩ := hf i _ hi
    obtain ⟨z, hz, _⟩ := DataW.trod_int und3 e
    rw [cells3] at hz
    simp only at hz
    rw [take_one hc] at hz
    cases hz; exact ⟨z, rfl⟩
  obtain ⟨z0, rfl⟩ := hint 0 _ rfl rfl
  obtain ⟨z1, rfl⟩ := hint 1 _ rfl rfl
  obtain ⟨z2, rfl⟩ := hint 2 _ rfl rfl
  obtain ⟨z3, rfl⟩ := hint 3 _ rfl rfl
  obtain ⟨z4, rfl⟩ := hint 4 _ rfl rfl
  obtain ⟨z5, rfl⟩ := hint 5 _ rfl rfl
  obtain ⟨z6, rfl⟩ := hint 6 _ rfl rfl
  obtain ⟨z7, rfl⟩ := hint 7 _ rfl rfl
  obtain ⟨y8, _, e8⟩ := hf 8 _ rfl
  obtain ⟨z8, hz8, _⟩ := DataW.trod_int undE e8
  obtain ⟨y9, _, e9⟩ := hf 9 _ rfl
  obtain ⟨s9, hs9, _⟩ := DataW.trod_string und9 e9
  obtain ⟨y10, _, e10⟩ := hf 10 _ rfl
  obtain ⟨s10, hs10, _⟩ := DataW.trod_string und9 e10
  rw [cellsE] at hz8
  rw [cells9] at hs9 hs10
  obtain rfl : c8 = .int .i64 z8 := by simpa using hz8
  obtain rfl : c9 = .string s9 := by simpa using hs9
  obtain rfl : c10 = .string s10 := by simpa using hs10
  exact ⟨⟨z0, z1, z2, z3, z4, z5, z6, z7, z8, .string s9, .string s10⟩, rfl, s9, s10, rfl⟩
theorem read_op {fuel : Nat} {cs : List Value} {x : DataW H × List MemPlace} (h : DataW.trod enc Tryd.prog w 0 (fun _ => true) true fuel 38 cs = some x) : ∃ o : Op, cs = o.cells ∧ MStr o.m := by
  obtain ⟨hl, xs, n, hx, hxl, hf⟩ := read_fields und38 fs38 h
  rw [cells38] at hl
  obtain ⟨c0, c1, c2, c3, c4, c5, c6, c7, c8, c9, c10, c11, c12, c13, rfl⟩ := len14 hl
  obtain ⟨y0, _, e0⟩ := hf 0 _ rfl
  obtain ⟨z0, hz0, _⟩ := DataW.trod_int und3 e0
  obtain ⟨y1, _, e1⟩ := hf 1 _ rfl
  obtain ⟨z1, hz1, _⟩ := DataW.trod_int und3 e1
  obtain ⟨y2, _, e2⟩ := hf 2 _ rfl
  obtain ⟨z2, hz2, _⟩ := DataW.trod_int und3 e2
  obtain ⟨y3, _, e3⟩ := hf 3 _ rfl
  obtain ⟨m, hm, hfine⟩ := read_msg e3
  rw [cells3] at hz0 hz1 hz2
  rw [cells36] at hm
  obtain rfl : c0 = .int .i64 z0 := by simpa using hz0
  obtain rfl : c1 = .int .i64 z1 := by simpa using hz1
  obtain rfl : c2 = .int .i64 z2 := by simpa using hz2
  refine ⟨⟨z0, z1, z2, m⟩, ?_, hfine⟩
  have hm' : [c3, c4, c5, c6, c7, c8, c9, c10, c11, c12, c13] = m.cells := hm
  show _ = .int .i64 z0 :: .int .i64 z1 :: .int .i64 z2 :: m.cells
  rw [← hm']
theorem read_ops {fuel : Nat} {cs : List Value} {x : DataW H × List MemPlace} (h : DataW.trod enc Tryd.prog w 0 (fun _ => true) true fuel 25 cs = some x) :
    ∃ (sv : Value) (ops : List Op), cs = [sv] ∧ Sl 14 w sv (elO ops) ∧ (∀ o ∈ ops, MStr o.m) ∧ ops.length ≤ Rows.uptoBulk x.1 := by
  obtain ⟨sv, els, rfl, hs, hcase⟩ := open_sl und25 cells38 (by decide) h
  rcases hcase with ⟨hx, rfl⟩ | ⟨Ds, sp, hx, hDl, hD⟩
  · exact ⟨sv, [], rfl, hs, by simp, by simp⟩
  · have : ∀ c ∈ els, ∃ o : Op, c = o.cells ∧ MStr o.m := by
      intro c hc
      obtain ⟨i, hi⟩ := List.getElem?_of_mem hc
      have hil := (List.getElem?_eq_some_iff.1 hi).1
      obtain ⟨m, ps, hm⟩ := hD i c _ hi (List.getElem?_eq_getElem (by omega))
      exact read_op hm
    have hops : ∃ ops : List Op, els = elO ops ∧ ∀ o ∈ ops, MStr o.m := by
      clear hD hDl hs
      induction els with
      | nil => exact ⟨[], rfl, by simp⟩
      | cons c els ih =>
        obtain ⟨l, hl, hlf⟩ := ih fun c hc => this c (by simp [hc])
        obtain ⟨o, ho, hof⟩ := this c (by simp)
        refine ⟨o :: l, by simp [elO, ho, hl], fun p hp => ?_⟩
        rcases List.mem_cons.1 hp with rfl | hp
        · exact hof
        · exact hlf p hp
    obtain ⟨ops, rfl, hfine⟩ := hops
    refine ⟨sv, ops, rfl, hs, hfine, ?_⟩
    rw [hx]
    have := bulk_length Ds
    simp only [elO_len] at hDl
    simp only [Rows.uptoBulk]
    omega
end


theorem gTab : Tryd.prog.globalNamed "granary/granaryref6.greatest" = some 0 := by kernel_rfl
noncomputable def gType : TypeId := ((Tryd.prog.globals[0]?).map (·.type)).getD 0
theorem gTabType : (Tryd.prog.globals[0]?).map (·.type) = some gType := by kernel_rfl
theorem gUnd : Tryd.prog.underlying gType = some (.array 21 3) := by kernel_rfl
theorem gCells : Tryd.prog.cellsOf gType = 21 := by kernel_rfl
/-- What the row's list gives: the table of limits lies in block 0. -/
theorem table {W : World} (h : laidMetH Tryd.prog Rows.exportMovesUptoRow.laid W) : bk W 0 = some greatV := by
  have ht : Lib.TabIs Tryd.prog W "granary/granaryref6.greatest" .i64 [16, 16, 16, 8, 4096, 65536, 1024, 65536, 64, 1024, 1024, 1073741824, 1073741824, 1073741824, 1024, 64, 65536, 1024, 64, 1024, 7] :=
    Lib.tabIs_of_head (rest := []) gTab gTabType gUnd und3 cells3 gCells h
  unfold Lib.TabIs World.var? at ht
  rw [gTab] at ht
  simp only [Option.bind_some] at ht
  unfold bk
  cases hh : W.heap[0]? with
  | none => rw [hh] at ht; cases ht
  | some x =>
    rw [hh] at ht
    cases x with
    | cells c t m =>
      simp only [Option.some.injEq] at ht
      subst ht
      rfl
    | _ => cases ht

end Go.Proofs.YtiggkhmopnhfaaaDoor
