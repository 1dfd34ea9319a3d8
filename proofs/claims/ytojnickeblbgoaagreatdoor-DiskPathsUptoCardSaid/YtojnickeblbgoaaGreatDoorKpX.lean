/-
  Layer 1 (disk), DiskKeeps, part A: paths and names; Truncate, Remove, Rename of any paths.
-/
import Derived.Test.YtojnickeblbgoaaGreatDoorDkX
import Derived.Lib.IndexLaws
import Derived.Lib.IndexBytes
namespace Go.Proofs.YtojnickeblbgoaaGreatDoor
open Go.Lift
set_option linter.unusedSimpArgs false
set_option linter.unusedVariables false
set_option maxHeartbeats 4000000

/- A path is what its names are joined to. -/
def jl : List (List UInt8) → List UInt8
  | [] => []
  | x :: r => x ++ (r.map fun y => [47] ++ y).flatten
theorem jl_cons {x : List UInt8} {l : List (List UInt8)} (h : l ≠ []) : jl (x :: l) = x ++ [47] ++ jl l := by
  cases l with
  | nil => exact absurd rfl h
  | cons y r => simp [jl]
theorem splitK_ne (sep : List UInt8) (save k : Nat) (s : List UInt8) : Lib.splitK sep save k s ≠ [] := by
  cases k with
  | zero => simp [Lib.splitK]
  | succ k => unfold Lib.splitK; split <;> simp
theorem jl_split : ∀ (k : Nat) (s : List UInt8), jl (Lib.splitK [47] 0 k s) = s
  | 0, s => by simp [Lib.splitK, jl]
  | k + 1, s => by
    unfold Lib.splitK
    by_cases h : Lib.index s [47] == -1
    · rw [if_pos h]; simp [jl]
    · rw [if_neg h]
      have hge := Lib.index_ge s [47]
      obtain ⟨i, hi⟩ : ∃ i : Nat, Lib.index s [47] = i := ⟨(Lib.index s [47]).toNat, by
        have : Lib.index s [47] ≠ -1 := by simpa using h
        omega⟩
      rw [hi, jl_cons (splitK_ne _ _ _ _), jl_split k]
      rw [Lib.index_one] at hi
      have h1 := (Lib.indexByte_some hi).1
      have h2 := (List.getElem?_eq_some_iff.1 h1).1
      have e1 : (i : Int).toNat + 0 = i := by omega
      have e2 : (i : Int).toNat + [47].length = i + 1 := by simp
      rw [e1]
      have e3 : s.drop i = 47 :: s.drop (i + 1) := by
        rw [List.drop_eq_getElem_cons h2]
        congr 1
        have := (List.getElem?_eq_some_iff.1 h1).2
        exact this
      conv => rhs; rw [← List.take_append_drop i s, e3]
      simp
theorem parts_jl (s : ByteArray) : jl ((partsF s).map (·.data.toList)) = s.data.toList := by
  unfold partsF
  rw [Lib.splitB_data]
  exact jl_split _ _
theorem parse_jl {s : ByteArray} {names : List ByteArray} (h : parseF s = some names) : jl (names.map (·.data.toList)) = s.data.toList := by
  unfold parseF at h
  split at h
  · cases h
    rename_i he
    rw [he]; rfl
  · split at h
    · cases h
    · split at h
      · cases h; exact parts_jl s
      · cases h
theorem parse_inj {s t : ByteArray} {names : List ByteArray} (h : parseF s = some names) (h' : parseF t = some names) : s = t := ba_ext ((parse_jl h).symm.trans (parse_jl h'))
theorem parse_small {s : ByteArray} {names : List ByteArray} (h : parseF s = some names) : (∀ x ∈ names, x.size ≤ 40) ∧ names.length ≤ 8 := by
  unfold parseF at h
  split at h
  · cases h; simp
  · split at h
    · cases h
    · rename_i hcnt
      split at h
      · rename_i hall
        cases h
        refine ⟨fun x hx => ?_, ?_⟩
        · have := List.all_eq_true.1 hall x hx
          simp only [nameF, Bool.and_eq_true, decide_eq_true_eq] at this
          exact this.1.1.1.2
        · have h47 : (1 : Nat) ≤ slash.size := by decide
          have hlen : (partsF s).length = Lib.countB s slash + 1 := Lib.splitB_all slash h47 0 _ s rfl
          have hc : Lib.countB s slash = Lib.countByte s.data.toList 47 := Lib.count_one 47 s.data.toList
          omega
      · cases h
theorem parse_nil {s : ByteArray} (h : parseF s = some []) : s = E0 := by
  have := parse_jl h
  exact ba_ext (this.symm.trans rfl)
/-- The joined names. -/
def pathF (l : List ByteArray) : ByteArray := ⟨(joinL l slash).toArray⟩
section
variable {w w' w'' : World} {b : Nat} {d d' : Dk} {v : DV} {tag : Nat → Nat}
theorem path2_run {u : Value} {l : List ByteArray} (hu : Sl 1 w u (l.map fun x => [.string x])) (hs : ∀ x ∈ l, x.size ≤ 40) (hl : l.length ≤ 8) : Run (F.disk_Path u) w fun r w' => r = .string (pathF l) ∧ Fr (fun _ => False) w w' := by
  unfold F.disk_Path
  simp only [Run_bind]
  refine (join_run hu (sep := slash) (by decide) (by decide) (fun x hx => by have := hs x hx; omega) (by omega)).mono ?_
  rintro _ w1 ⟨rfl, f1⟩
  exact Run_ret.2 ⟨rfl, f1⟩
def truncF (d : Dk) (path : ByteArray) (size : Int) : Int × Dk := if d.down then (10, d) else if (parseF path).isSome = false then (11, d) else if size < 0 then (1, d) else
  if (d.findF path 2).1 ≠ 0 then ((d.findF path 2).1, d) else if ((d.nd (d.findF path 2).2.2).seen.size : Int) < size then (16, d) else
  doF d ⟨1, (d.findF path 2).2.2, e0, size, e0, e0, 0⟩ (d.findF path 2).2.2.toNat (d.nd (d.findF path 2).2.2)
theorem build_cut (a n z : Int) : buildV #[.int .i64 0, .int .i64 0, .string ByteArray.empty, .int .i64 0, .string ByteArray.empty, .string ByteArray.empty, .int .i64 0] [(0, 1, .int .i64 a), (1, 1, .int .i64 n), (3, 1, .int .i64 z)] = some (Chg.val ⟨a, n, e0, z, e0, e0, 0⟩) := by simp [buildV, fillV, Chg.val, Chg.cells]
theorem trunc_run (h : DA w b d v tag) (g : Good d) {path : ByteArray} (hs : path.size < 4294967281) (size : Int) (hn : ∀ nd ∈ d.nodes, nd.seen.size ≤ 2305843009213693952) (hpl : d.pending.length ≤ 16777216) :
    Run (F.disk_Disk_Truncate (Ptr b) (.string path) (.int .i64 size)) w fun r w' => r = .int .i64 (truncF d path size).1 ∧ DDid w w' b tag (truncF d path size).2 := by
  unfold F.disk_Disk_Truncate
  simp only [Run_bind]
  refine ready_run h ?_
  unfold truncF
  by_cases hd : d.down = true
  · simp [hd]
    exact h.did (Fr.refl _ _)
  · simp [-ldA_ptr, hd]
    obtain ⟨m, hm⟩ := h.ml
    refine (parse_run path hs hm).mono ?_
    rintro _ w2 ⟨nv, rfl, f2, hnames⟩
    have h2 := h.fr0 f2
    cases hp : (parseF path).isSome with
    | false =>
      have hpn : parseF path = none := by simpa using hp
      simp [hp, hpn]
      exact h2.did (f2.mono fun _ h => h.elim)
    | true =>
      have hpn : ¬ parseF path = none := fun he => by rw [he] at hp; cases hp
      by_cases hz : size < 0
      · simp [hp, hpn, hz]
        exact h2.did (f2.mono fun _ h => h.elim)
      simp [-ldA_ptr, hp, hpn, hz]
      refine (find_run h2 g hs 2).mono ?_
      rintro _ w1 ⟨rfl, f1⟩
      have hlt := find_lt g path 2
      have hpos := find_pos (d := d) (path := path) (kind := 2)
      generalize d.findF path 2 = s at *
      obtain ⟨e, ⟨a1, a2⟩, node⟩ := s
      simp only at hlt hpos
      simp [-ldA_ptr, spotV]
      refine spot_mem fun x w3 hx _ f3 hxle => ?_
      have f03 : Fr (fun _ => False) w w3 := (f2.trans f1 fun _ _ => id).trans f3 fun _ _ => id
      have h3 := h.fr0 f03
      by_cases k1 : e = 0
      · have hnn := (hpos k1).1
        obtain ⟨j, hj⟩ : ∃ j : Nat, node = j := ⟨node.toNat, by omega⟩
        have hjl : j < d.nodes.length := by omega
        have hjn : d.nodes[j]? = some d.nodes[j] := List.getElem?_eq_getElem hjl
        generalize d.nodes[j] = nd at hjn
        have hnd : d.nd node = nd := by simp [Dk.nd, hj, hjn]
        have hnds := hn nd (List.mem_of_getElem? hjn)
        obtain ⟨b0, o, l0, i1, t4, i2, _, q1, _, _⟩ := h3.setNode hjn
        have i1' : idxA 3 v.nv (.int .i64 node) = some (.pointer (some ⟨b0, o, none⟩)) := by rw [hj]; exact i1
        have hb3 := h3.blk
        by_cases k2 : (nd.seen.size : Int) < size
        · simp [-ldA_ptr, k1, hx, hb3, Dk.cells, i1', i2, q1, k2, hnd]
          exact h3.did (f03.mono fun _ h => h.elim) |>.post (Fr.refl (fun _ => False) w3).drew
        · simp [-ldA_ptr, k1, hx, hb3, Dk.cells, i1', i2, q1, k2, hnd, build_cut]
          have fd : Fr (fun _ => False) w3 w3.drew := (Fr.refl (fun _ => False) w3).drew
          refine (do_run (h3.fr0 fd) ⟨1, node, e0, size, e0, e0, 0⟩ hjn hj ⟨fun h => by simp at h, fun _ => by simp only; omega⟩ hpl).mono ?_
          rintro _ w4 ⟨rfl, h4⟩
          rw [show node.toNat = j by omega]
          exact ⟨rfl, h4.pre (f03.trans fd fun _ _ => id)⟩
      · simp [-ldA_ptr, k1]
        exact h3.did (f03.mono fun _ h => h.elim)
end
end Go.Proofs.YtojnickeblbgoaaGreatDoor

/-
  Layer 1 (disk), DiskKeeps, part B: Remove and Rename of any paths.
-/
namespace Go.Proofs.YtojnickeblbgoaaGreatDoor
open Go.Lift
set_option linter.unusedSimpArgs false
set_option linter.unusedVariables false
set_option maxHeartbeats 4000000

theorem walkGo_err {d : Dk} : ∀ (names : List ByteArray) (a : Slt) (node : Int), (d.walkGo a node names).1 ≠ 0 → (d.walkGo a node names).2 = ((0, e0), 0)
  | [], a, node, h => absurd rfl h
  | n :: rest, a, node, h => by
    unfold Dk.walkGo at h ⊢
    split
    · rfl
    · rename_i h1
      rw [if_neg h1] at h
      split
      · rfl
      · rename_i h2
        rw [if_neg h2] at h
        split
        · rfl
        · rename_i h3
          rw [if_neg h3] at h
          exact walkGo_err rest _ _ h
theorem walk_err {d : Dk} (names : List ByteArray) (h : (d.walkF names).1 ≠ 0) : (d.walkF names).2 = ((0, e0), 0) := walkGo_err names _ _ h
section
variable {w w' w'' : World} {b : Nat} {d d' : Dk} {v : DV} {tag : Nat → Nat}
theorem remove2_run (h : DA w b d v tag) (g : Good d) {path : ByteArray} (hs : path.size < 4294967281) (hpl : d.pending.length ≤ 16777216) {Q : Value → World → Prop} (qs : ∀ e w', DDid w w' b tag d → Q (.int .i64 e) w') (qd : ∀ e w', path ≠ E0 → (d.findF path 0).1 = 0 → DDid w w' b tag (removeF d path).2 → Q (.int .i64 e) w') :
    Run (F.disk_Disk_Remove (Ptr b) (.string path)) w Q := by
  unfold F.disk_Disk_Remove
  have eE : ByteArray.mk #[] = E0 := rfl
  rw [eE]
  simp only [Run_bind]
  refine (find_run h g hs 0).mono ?_
  rintro _ w1 ⟨rfl, f1⟩
  have hdir := fun hp => find_dir (path := path) (kind := 0) g hp
  unfold removeF at qd
  generalize d.findF path 0 = s at *
  obtain ⟨e, ⟨a1, a2⟩, node⟩ := s
  simp only at hdir qd
  simp [-ldA_ptr, spotV]
  refine spot_mem fun x w2 hx _ f2 _ => ?_
  have f02 : Fr (fun _ => False) w w2 := f1.trans f2 fun _ _ => id
  have h2 := h.fr0 f02
  have hb2 := h2.blk
  have same : ∀ w', Fr (fun _ => False) w w' → DDid w w' b tag d := fun w' f => (h.fr0 f).did (f.mono fun _ h => h.elim)
  by_cases hp : path = E0
  · by_cases k1 : e = 0
    · simp [-ldA_ptr, k1, ba_eq, hp]
      exact qs _ _ (same _ f02)
    · by_cases k2 : e = 12
      · simp [-ldA_ptr, k2, ba_eq, hp]
        exact qs _ _ (same _ f02)
      · simp [-ldA_ptr, k1, k2, ba_eq, hp]
        exact qs _ _ (same _ f02)
  by_cases k1 : e = 0
  · obtain ⟨n1, n2⟩ := hdir hp k1
    obtain ⟨j, hj⟩ : ∃ j : Nat, a1 = j := ⟨a1.toNat, by omega⟩
    have hjl : j < d.nodes.length := by omega
    have hjn : d.nodes[j]? = some d.nodes[j] := List.getElem?_eq_getElem hjl
    generalize d.nodes[j] = nd at hjn
    have hnd : d.nd a1 = nd := by simp [Dk.nd, hj, hjn]
    simp [-ldA_ptr, k1, hx, ba_eq, hp, hb2, Dk.cells]
    refine Run_rngM h2.seen fun w3 r hit f3 hr => ?_
    refine Run_range (k := fun _ _ => _) (fun x => rfl) (fun js x w' => x = [] ∧ Fr (fun c => c = r) w3 w') ⟨rfl, Fr.refl _ _⟩ hit ?_ ?_
    · rintro js i p y wa wb hpi hj' ⟨rfl, fa⟩ hitb fb sb
      have he := hitb.entry hpi
      obtain ⟨⟨pd, pn⟩, pk⟩ := p
      simp [-ldA_ptr, he, slv]
      refine Run_newSt (cs := #[.int .i64 pd, .string pn]) rfl rfl (by simp) fun z wc hz hzw fc hzle => ?_
      have hz' : bk wc z = some [.int .i64 pd, .string pn] := hz
      have hxr : x ≠ r := by
        have := bk_lt hx
        omega
      have hxc : bk wc x = some [.int .i64 a1, .string a2, .int .i64 node] := fc.bk_some (fb.bk_some (fa.bk_some (f3.bk_some hx id) hxr) hxr) id
      by_cases hne : pd = node
      · simp [hz', hxc, hne]
        exact qs _ _ (same _ ((f02.trans (f3.new ((fa.trans fb fun _ _ h => h).trans fc fun _ _ h => h.elim) fun c hc => by omega) fun _ _ => id)))
      · simp [hz', hxc, hne]
        exact ⟨(fa.trans fb fun _ _ h => h).trans fc fun _ _ h => h.elim, hitb.fr fc id id⟩
    · rintro js y wa wb hperm ⟨rfl, fa⟩ hitb fb sb
      have hxr : x ≠ r := by
        have := bk_lt hx
        omega
      have hxb : bk wb x = some [.int .i64 a1, .string a2, .int .i64 node] := fb.bk_some (fa.bk_some (f3.bk_some hx id) hxr) id
      have f0b : Fr (fun _ => False) w wb := (f02.trans (f3.new fa fun c hc => by omega) fun _ _ => id).trans fb fun _ _ => id
      simp [hxb, build_gone]
      refine (do_run (h.fr0 f0b) ⟨3, a1, e0, 0, a2, e0, 0⟩ hjn hj ⟨fun h => by simp at h, fun h => by simp at h⟩ hpl).mono ?_
      rintro r w4 ⟨rfl, h4⟩
      refine qd _ _ hp k1 ?_
      rw [if_neg (by simp [k1]), hnd, show a1.toNat = j by omega]
      exact h4.pre f0b
  · simp [-ldA_ptr, k1, ba_eq, hp]
    exact qs _ _ (same _ f02)
/-- What a Rename that is done did. -/
structure Moved (d : Dk) (p q : ByteArray) (d' : Dk) : Prop where
  ex : ∃ a c, parseF p = some a ∧ parseF q = some c ∧ p ≠ E0 ∧ q ≠ E0 ∧ a.length = c.length ∧ pathF (a.take (a.length - 1)) = pathF (c.take (c.length - 1)) ∧ (d.walkF a).1 = 0 ∧ 0 ≤ (d.walkF a).2.2 ∧ (d.walkF c).1 = 0 ∧
    d' = (doF d ⟨4, (d.walkF a).2.1.1, e0, 0, (d.walkF a).2.1.2, (d.walkF c).2.1.2, 0⟩ (d.walkF a).2.1.1.toNat (d.nd (d.walkF a).2.1.1)).2
theorem rename2_run (h : DA w b d v tag) (g : Good d) (hk0 : (d.nd 0).kind = 1) {p q : ByteArray} (hps : p.size < 4294967281) (hqs : q.size < 4294967281) (hpl : d.pending.length ≤ 16777216) {Q : Value → World → Prop} (qs : ∀ e w', DDid w w' b tag d → Q (.int .i64 e) w') (qd : ∀ e w' d', Moved d p q d' → DDid w w' b tag d' → Q (.int .i64 e) w') :
    Run (F.disk_Disk_Rename (Ptr b) (.string p) (.string q)) w Q := by
  unfold F.disk_Disk_Rename
  have eE : ByteArray.mk #[] = E0 := rfl
  have same : ∀ w', Fr (fun _ => False) w w' → DDid w w' b tag d := fun w' f => (h.fr0 f).did (f.mono fun _ h => h.elim)
  simp only [Run_bind]
  refine ready_run h ?_
  by_cases hd : d.down = true
  · simp [hd]
    exact qs _ _ (same _ (Fr.refl _ _))
  obtain ⟨m, hm⟩ := h.ml
  simp [-ldA_ptr, hd]
  refine (parse_run p hps hm).mono ?_
  rintro _ w2 ⟨nv, rfl, f2, hn⟩
  obtain ⟨m2, hm2⟩ := (h.fr0 f2).ml
  simp [-ldA_ptr]
  refine (parse_run q hqs hm2).mono ?_
  rintro _ w3 ⟨nw, rfl, f3, hn'⟩
  have f03 : Fr (fun _ => False) w w3 := f2.trans f3 fun _ _ => id
  cases hp : parseF p with
  | none =>
    simp [-ldA_ptr, eE]
    exact qs _ _ (same _ f03)
  | some a =>
    cases hq : parseF q with
    | none =>
      simp [-ldA_ptr, eE]
      exact qs _ _ (same _ f03)
    | some c =>
      by_cases hp0 : p = E0
      · simp [-ldA_ptr, eE, ba_eq, hp0]
        exact qs _ _ (same _ f03)
      by_cases hq0 : q = E0
      · simp [-ldA_ptr, eE, ba_eq, hp0, hq0]
        exact qs _ _ (same _ f03)
      obtain ⟨hn1, _⟩ := hn _ hp
      obtain ⟨hn2, _⟩ := hn' _ hq
      obtain ⟨pa1, pa2⟩ := parse_small hp
      obtain ⟨pc1, pc2⟩ := parse_small hq
      have ha0 : a ≠ [] := fun he => hp0 (parse_nil (he ▸ hp))
      have hc0 : c ≠ [] := fun he => hq0 (parse_nil (he ▸ hq))
      have la := List.length_pos_iff.2 ha0
      have lc := List.length_pos_iff.2 hc0
      have hn1' := hn1.fr0 f3
      have fd : Fr (fun _ => False) w3 w3.drew := (Fr.refl (fun _ => False) w3).drew
      have n1d := hn1'.fr0 fd
      have n2d := hn2.fr0 fd
      have l1 := n1d.lenL
      have l2 := n2d.lenL
      rw [List.length_map] at l1 l2
      have wa : IntKind.i64.wrap ((a.length : Int) - 1) = ((a.length - 1 : Nat) : Int) := by rw [wrap_int (by omega) (by omega)]; omega
      have wc : IntKind.i64.wrap ((c.length : Int) - 1) = ((c.length - 1 : Nat) : Int) := by rw [wrap_int (by omega) (by omega)]; omega
      obtain ⟨u1, s1, s2, _⟩ := n1d.take (n := a.length - 1) (by rw [List.length_map]; omega) .i64
      rw [← List.map_take] at s2
      simp [-ldA_ptr, eE, ba_eq, hp0, hq0, l1, l2, wa, s1]
      refine (path2_run s2 (fun x hx => pa1 x (List.mem_of_mem_take hx)) (by rw [List.length_take]; omega)).mono ?_
      rintro _ w4 ⟨rfl, f4⟩
      obtain ⟨u2, t1, t2, _⟩ := (n2d.fr0 f4).take (n := c.length - 1) (by rw [List.length_map]; omega) .i64
      rw [← List.map_take] at t2
      simp [-ldA_ptr, l2, wc, t1]
      refine (path2_run t2 (fun x hx => pc1 x (List.mem_of_mem_take hx)) (by rw [List.length_take]; omega)).mono ?_
      rintro _ w5 ⟨rfl, f5⟩
      have f35 : Fr (fun _ => False) w3 w5 := (fd.trans f4 fun _ _ => id).trans f5 fun _ _ => id
      have f05 : Fr (fun _ => False) w w5 := f03.trans f35 fun _ _ => id
      by_cases hpe : pathF (a.take (a.length - 1)) = pathF (c.take (c.length - 1))
      · by_cases hle : a.length = c.length
        · have l2' : lenL nw = some (.int .i64 c.length) := l2
          have hle' : ((a.length : Nat) : Int) = c.length := by omega
          have hpe' : pathF (List.take (c.length - 1) a) = pathF (List.take (c.length - 1) c) := by rw [← hle]; rw [hle]; rw [hle] at hpe; exact hpe
          simp [-ldA_ptr, ba_eq, hpe, hpe', l1, l2, hle]
          have h5 := h.fr0 f05
          refine (walk_run h5 g (hn1'.fr0 f35) (by omega)).mono ?_
          rintro _ w6 ⟨rfl, f6⟩
          have h6 := h5.fr0 f6
          have f06 : Fr (fun _ => False) w w6 := f05.trans f6 fun _ _ => id
          have hmv : (d.walkF a).1 = 0 → 0 ≤ (d.walkF a).2.2 → (d.walkF c).1 = 0 → Moved d p q (doF d ⟨4, (d.walkF a).2.1.1, e0, 0, (d.walkF a).2.1.2, (d.walkF c).2.1.2, 0⟩ (d.walkF a).2.1.1.toNat (d.nd (d.walkF a).2.1.1)).2 := fun m1 m2 m3 => ⟨a, c, hp, hq, hp0, hq0, hle, hpe, m1, m2, m3, rfl⟩
          have hda := walk_dir g ha0
          have hlta := walk_lt g a
          generalize d.walkF a = s at *
          obtain ⟨e, ⟨a1, a2⟩, node⟩ := s
          simp only at hmv hda hlta
          simp [-ldA_ptr, spotV]
          refine spot_mem fun z6 w7 hz7 _ f7 _ => ?_
          have h7 := h6.fr0 f7
          have f07 : Fr (fun _ => False) w w7 := f06.trans f7 fun _ _ => id
          by_cases k1 : e = 0
          · by_cases k2 : node < 0
            · simp [-ldA_ptr, k1, hz7, k2]
              exact qs _ _ (same _ f07)
            simp [-ldA_ptr, k1, hz7, k2]
            refine (walk_run h7 g (((hn2.fr0 f35).fr0 f6).fr0 f7) (by omega)).mono ?_
            rintro _ w8 ⟨rfl, f8⟩
            have h8 := h7.fr0 f8
            have herr : (d.walkF c).1 ≠ 0 → (d.walkF c).2 = ((0, e0), 0) := walk_err c
            have hltc := walk_lt g c
            generalize d.walkF c = t at *
            obtain ⟨et, ⟨t1', t2'⟩, tnode⟩ := t
            simp only at hmv herr hltc
            simp [-ldA_ptr, spotV]
            refine spot_mem fun z9 w9 hz9 _ f9 _ => ?_
            have h9 := h8.fr0 f9
            have hz79 : bk w9 z6 = some [.int .i64 a1, .string a2, .int .i64 node] := f9.bk_some (f8.bk_some hz7 id) id
            have hl7 : ldA 2 (Ptr z6) w9.drew = some (.agg #[.int .i64 a1, .string a2]) := by rw [ldA_bk (w := w9.drew) (l := [.int .i64 a1, .string a2, .int .i64 node]) hz79 (by simp)]; rfl
            have hl9 : ldA 2 (Ptr z9) w9.drew = some (.agg #[.int .i64 t1', .string t2']) := by rw [ldA_bk (w := w9.drew) (l := [.int .i64 t1', .string t2', .int .i64 tnode]) hz9 (by simp)]; rfl
            have f09 : Fr (fun _ => False) w w9.drew := ((f07.trans f8 fun _ _ => id).trans f9 fun _ _ => id).drew
            have hb9 := h9.blk
            obtain ⟨n1, n2⟩ := hda k1
            have fin : et = 0 → Run (F.disk_Disk_do (Ptr b) (Chg.val ⟨4, a1, e0, 0, a2, t2', 0⟩)) w9.drew Q := by
              intro het
              obtain ⟨j, hj⟩ : ∃ j : Nat, a1 = j := ⟨a1.toNat, by omega⟩
              have hjl : j < d.nodes.length := by omega
              have hjn : d.nodes[j]? = some d.nodes[j] := List.getElem?_eq_getElem hjl
              generalize d.nodes[j] = nd at hjn
              have hnd : d.nd a1 = nd := by simp [Dk.nd, hj, hjn]
              refine (do_run (h.fr0 f09) ⟨4, a1, e0, 0, a2, t2', 0⟩ hjn hj ⟨fun h => by simp at h, fun h => by simp at h⟩ hpl).mono ?_
              rintro _ wz ⟨rfl, hz⟩
              have := hmv k1 (by omega) het
              rw [hnd, show a1.toNat = j by omega] at this
              exact qd _ _ _ this (hz.pre f09)
            obtain ⟨i0, hi0⟩ : ∃ i : Nat, node = i := ⟨node.toNat, by omega⟩
            have hi0l : i0 < d.nodes.length := by omega
            have hin : d.nodes[i0]? = some d.nodes[i0] := List.getElem?_eq_getElem hi0l
            generalize d.nodes[i0] = ni at hin
            obtain ⟨b0, o, ll, i1, t4, i2, q0, _, _, _⟩ := h9.setNode hin
            have i1' : idxA 3 v.nv (.int .i64 node) = some (.pointer (some ⟨b0, o, none⟩)) := by rw [hi0]; exact i1
            by_cases k3 : tnode < 0
            · have het : et = 0 := Classical.byContradiction fun hn => by
                have := herr hn
                simp only [Prod.mk.injEq] at this
                omega
              have k3' : ¬ 0 ≤ tnode := by omega
              simp [-ldA_ptr, hz79, hz9, k3']
              rw [build_move]
              simp only [Run_bindO_some, Run_bind, Run_ret]
              exact fin het
            have k3' : 0 ≤ tnode := by omega
            obtain ⟨j0, hj0⟩ : ∃ i : Nat, tnode = i := ⟨tnode.toNat, by omega⟩
            have hj0l : j0 < d.nodes.length := by omega
            have hjn0 : d.nodes[j0]? = some d.nodes[j0] := List.getElem?_eq_getElem hj0l
            generalize hnj : d.nodes[j0] = nj at hjn0
            obtain ⟨b1, o1, ll1, j1, t41, j2, q1, _, _, _⟩ := h9.setNode hjn0
            have j1' : idxA 3 v.nv (.int .i64 tnode) = some (.pointer (some ⟨b1, o1, none⟩)) := by rw [hj0]; exact j1
            by_cases ks : t1' = a1 ∧ t2' = a2
            · simp [-ldA_ptr, hz79, hz9, k3', hl7, hl9, ba_eq, ks.1, ks.2]
              exact qs _ _ (same _ f09)
            have ks' : (decide (t1' = a1) && decide (t2' = a2)) = false := by simpa using ks
            by_cases k4 : ni.kind = 2
            · by_cases k5 : nj.kind = 2
              · have het : et = 0 := Classical.byContradiction fun hn => by
                  have := herr hn
                  simp only [Prod.mk.injEq] at this
                  have h0 : tnode = 0 := this.2
                  have : j0 = 0 := by omega
                  subst this
                  have : d.nd 0 = nj := by simp [Dk.nd, hjn0]
                  rw [this, k5] at hk0
                  exact absurd hk0 (by decide)
                simp [-ldA_ptr, hz79, hz9, k3', hl7, hl9, ba_eq, ks', hb9, Dk.cells, i1', i2, q0, j1', j2, q1, k4, k5]
                rw [build_move]
                simp only [Run_bindO_some, Run_bind, Run_ret]
                exact fin het
              · simp [-ldA_ptr, hz79, hz9, k3', hl7, hl9, ba_eq, ks', hb9, Dk.cells, i1', i2, q0, j1', j2, q1, k4, k5]
                exact qs _ _ (same _ f09)
            · simp [-ldA_ptr, hz79, hz9, k3', hl7, hl9, ba_eq, ks', hb9, Dk.cells, i1', i2, q0, j1', j2, q1, k4]
              exact qs _ _ (same _ f09)
          · simp [-ldA_ptr, k1]
            exact qs _ _ (same _ f07)
        · have hle' : ¬ ((a.length : Nat) : Int) = c.length := by omega
          simp [-ldA_ptr, ba_eq, hpe, l1, l2, hle, hle']
          exact qs _ _ (same _ f05)
      · simp [-ldA_ptr, ba_eq, hpe]
        exact qs _ _ (same _ f05)
end
end Go.Proofs.YtojnickeblbgoaaGreatDoor

/-
  Layer 1 (disk), DiskKeeps, part C: the replay of pending changes, plainly.
-/
namespace Go.Proofs.YtojnickeblbgoaaGreatDoor
open Go.Lift
set_option linter.unusedSimpArgs false
set_option linter.unusedVariables false
set_option maxHeartbeats 4000000

def FA : ByteArray := ByteArray.mk #[97]
def FF : ByteArray := ByteArray.mk #[97, 47, 102]
def nF : ByteArray := ByteArray.mk #[102]
abbrev sA : Slt := (0, FA)
abbrev sF : Slt := (1, nF)
theorem sAF : sA ≠ sF := by decide
/-- A change's effect on entries. -/
def entG (m : Slt → Option Int) (c : Chg) : Slt → Option Int := (applyF c e0 m).2
theorem app_map (c : Chg) (x : ByteArray) (m : Slt → Option Int) : (applyF c x m).2 = entG m c := by
  unfold entG applyF
  repeat' split
  all_goals rfl
theorem app_byte (c : Chg) (x : ByteArray) (m m' : Slt → Option Int) : (applyF c x m).1 = (applyF c x m').1 := by
  unfold applyF
  repeat' split
  all_goals rfl
theorem entG_cases (m : Slt → Option Int) (c : Chg) : entG m c = if c.what = 2 then fput m (c.node, c.src) c.target else if c.what = 3 then fdel m (c.node, c.src) else if c.what = 4 then fput (fdel m (c.node, c.src)) (c.node, c.dst) ((m (c.node, c.src)).getD 0) else m := by
  unfold entG applyF
  by_cases h0 : c.what = 0
  · simp [h0]
  by_cases h1 : c.what = 1
  · simp [h1]
  by_cases h2 : c.what = 2
  · simp [h2]
  by_cases h3 : c.what = 3
  · simp [h3]
  by_cases h4 : c.what = 4
  · simp [h4]
  simp [h0, h1, h2, h3, h4]
structure Prot (n : Nat) (m : Slt → Option Int) : Prop where
  top : m sA = some 1
  fil : m sF = some 2
  rng : ∀ s k, m s = some k → 1 ≤ k ∧ k < n
  inj : ∀ s t k, m s = some k → m t = some k → s = t
/-- A change that leaves the two entries and the file alone. -/
structure Sc (n : Nat) (c : Chg) : Prop where
  node : 0 ≤ c.node ∧ c.node < n
  byte : c.what = 0 ∨ c.what = 1 → c.node ≠ 2
  ent : c.what = 2 ∨ c.what = 3 ∨ c.what = 4 → (c.node, c.src) ≠ sA ∧ (c.node, c.src) ≠ sF
  mov : c.what = 4 → (c.node, c.dst) ≠ sA ∧ (c.node, c.dst) ≠ sF
  tgt : c.what = 2 → 1 ≤ c.target ∧ c.target < n
theorem Sc.mono {n n' : Nat} {c : Chg} (h : Sc n c) (hn : n ≤ n') : Sc n' c := ⟨by have := h.node; omega, h.byte, h.ent, h.mov, fun h' => by have := h.tgt h'; omega⟩
theorem Prot.mono {n n' : Nat} {m : Slt → Option Int} (h : Prot n m) (hn : n ≤ n') : Prot n' m := ⟨h.top, h.fil, fun s k hs => by have := h.rng s k hs; omega, h.inj⟩
def Src (m : Slt → Option Int) (L : List Chg) : Prop := ∀ L1 c L2, L = L1 ++ c :: L2 → c.what = 4 → L1.foldl entG m (c.node, c.src) ≠ none
def Apart (L : List Chg) : Prop := L.Pairwise fun c c' => c.what = 2 → c'.what = 2 → c.target ≠ c'.target
structure Fresh (m : Slt → Option Int) (L : List Chg) : Prop where
  out : ∀ c ∈ L, c.what = 2 → ∀ s, m s ≠ some c.target
  apart : Apart L
section
variable {n : Nat} {m m' : Slt → Option Int} {c : Chg} {L : List Chg}
theorem ent_val {s : Slt} {k : Int} (h : entG m c s = some k) : (∃ t, m t = some k) ∨ (c.what = 2 ∧ k = c.target) ∨ k = 0 := by
  rw [entG_cases] at h
  split at h
  · rename_i h2
    simp only [fput] at h
    split at h
    · cases h; exact .inr (.inl ⟨h2, rfl⟩)
    · exact .inl ⟨_, h⟩
  · split at h
    · simp only [fdel] at h
      split at h
      · cases h
      · exact .inl ⟨_, h⟩
    · split at h
      · simp only [fput] at h
        split at h
        · cases hm : m (c.node, c.src) with
          | none => rw [hm] at h; cases h; exact .inr (.inr rfl)
          | some y => rw [hm] at h; cases h; exact .inl ⟨_, hm⟩
        · simp only [fdel] at h
          split at h
          · cases h
          · exact .inl ⟨_, h⟩
      · exact .inl ⟨_, h⟩
theorem Prot.step (h : Prot n m) (hc : Sc n c) (h4 : c.what = 4 → m (c.node, c.src) ≠ none) (h2 : c.what = 2 → ∀ s, m s ≠ some c.target) : Prot n (entG m c) := by
  rw [entG_cases]
  split
  · rename_i hw
    have hs := hc.ent (.inl hw)
    have ht := hc.tgt hw
    have hf := h2 hw
    refine ⟨?_, ?_, fun s k hk => ?_, fun s t k hk hk' => ?_⟩
    · simp only [fput, if_neg (Ne.symm hs.1)]; exact h.top
    · simp only [fput, if_neg (Ne.symm hs.2)]; exact h.fil
    · simp only [fput] at hk
      split at hk
      · cases hk; exact ht
      · exact h.rng s k hk
    · simp only [fput] at hk hk'
      split at hk
      · rename_i e1
        cases hk
        split at hk'
        · rename_i e2; rw [e1, e2]
        · exact absurd hk' (hf t)
      · split at hk'
        · cases hk'
          exact absurd hk (hf s)
        · exact h.inj s t k hk hk'
  · split
    · rename_i hw
      have hs := hc.ent (.inr (.inl hw))
      refine ⟨?_, ?_, fun s k hk => ?_, fun s t k hk hk' => ?_⟩
      · simp only [fdel, if_neg (Ne.symm hs.1)]; exact h.top
      · simp only [fdel, if_neg (Ne.symm hs.2)]; exact h.fil
      · simp only [fdel] at hk
        split at hk
        · cases hk
        · exact h.rng s k hk
      · simp only [fdel] at hk hk'
        split at hk
        · cases hk
        · split at hk'
          · cases hk'
          · exact h.inj s t k hk hk'
    · split
      · rename_i hw
        have hs := hc.ent (.inr (.inr hw))
        have hd := hc.mov hw
        obtain ⟨k0, hk0⟩ := Option.ne_none_iff_exists'.1 (h4 hw)
        rw [hk0]
        simp only [Option.getD_some]
        refine ⟨?_, ?_, fun s k hk => ?_, fun s t k hk hk' => ?_⟩
        · simp only [fput, if_neg (Ne.symm hd.1), fdel, if_neg (Ne.symm hs.1)]; exact h.top
        · simp only [fput, if_neg (Ne.symm hd.2), fdel, if_neg (Ne.symm hs.2)]; exact h.fil
        · simp only [fput] at hk
          split at hk
          · cases hk; exact h.rng _ _ hk0
          · simp only [fdel] at hk
            split at hk
            · cases hk
            · exact h.rng s k hk
        · simp only [fput, fdel] at hk hk'
          split at hk
          · rename_i e1
            cases hk
            split at hk'
            · rename_i e2; rw [e1, e2]
            · split at hk'
              · cases hk'
              · rename_i e3
                exact absurd (h.inj _ _ _ hk' hk0) e3
          · split at hk
            · cases hk
            · rename_i e3
              split at hk'
              · cases hk'
                exact absurd (h.inj _ _ _ hk hk0) e3
              · split at hk'
                · cases hk'
                · exact h.inj s t k hk hk'
      · exact h
theorem Src.cons (h : Src m (c :: L)) : Src (entG m c) L := fun L1 x L2 e hx => h (c :: L1) x L2 (by rw [e]; rfl) hx
theorem Src.pre {L' : List Chg} (h : Src m (L ++ L')) : Src m L := fun L1 x L2 e hx => h L1 x (L2 ++ L') (by rw [e]; simp) hx
theorem Src.snoc (h : Src m L) (hc : c.what = 4 → L.foldl entG m (c.node, c.src) ≠ none) : Src m (L ++ [c]) := by
  intro L1 x L2 e hx
  rcases List.eq_nil_or_concat L2 with rfl | ⟨L2', y, rfl⟩
  · have := List.append_inj' e rfl
    have h2 : c = x := by simpa using this.2
    rw [← this.1, ← h2]
    exact hc (h2 ▸ hx)
  · have e' : L ++ [c] = (L1 ++ x :: L2') ++ [y] := by rw [e]; simp
    have := List.append_inj' e' rfl
    exact h L1 x L2' this.1 hx
theorem Fresh.cons (h : Fresh m (c :: L)) (hs : ∀ x ∈ L, Sc n x) : Fresh (entG m c) L := by
  have hp := List.pairwise_cons.1 h.apart
  refine ⟨fun x hx hw s he => ?_, hp.2⟩
  rcases ent_val he with ⟨t, ht⟩ | ⟨h2, hk⟩ | h0
  · exact h.out x (by simp [hx]) hw t ht
  · exact hp.1 x hx h2 hw hk.symm
  · have := (hs x hx).tgt hw
    omega
theorem Fresh.pre {L' : List Chg} (h : Fresh m (L ++ L')) : Fresh m L := ⟨fun x hx => h.out x (by simp [hx]), (List.pairwise_append.1 h.apart).1⟩
theorem Prot.fold : ∀ {L : List Chg} {m : Slt → Option Int}, Prot n m → (∀ x ∈ L, Sc n x) → Src m L → Fresh m L → Prot n (L.foldl entG m)
  | [], m, h, _, _, _ => h
  | c :: L, m, h, hs, hr, hf => by
    rw [List.foldl_cons]
    exact Prot.fold (h.step (hs c (by simp)) (fun h4 => hr [] c L rfl h4) (fun h2 => hf.out c (by simp) h2)) (fun x hx => hs x (by simp [hx])) hr.cons (hf.cons fun x hx => hs x (by simp [hx]))

/- Directories by themselves. -/
def Ag (j : Int) (m m' : Slt → Option Int) : Prop := ∀ x, m (j, x) = m' (j, x)
theorem Ag.refl (j : Int) (m : Slt → Option Int) : Ag j m m := fun _ => rfl
theorem ag_same {j : Int} (h : Ag j m m') (hc : c.node = j) : Ag j (entG m c) (entG m' c) := by
  intro x
  subst hc
  rw [entG_cases, entG_cases]
  split
  · simp only [fput, h x]
  · split
    · simp only [fdel, h x]
    · split
      · simp only [fput, fdel, h x, h c.src]
      · exact h x
theorem ag_other {j : Int} (hc : c.node ≠ j) : Ag j (entG m c) m := by
  intro x
  have hne : ∀ y : ByteArray, (j, x) ≠ (c.node, y) := fun y he => hc (by injection he with h1 _; exact h1.symm)
  rw [entG_cases]
  split
  · simp only [fput, if_neg (hne _)]
  · split
    · simp only [fdel, if_neg (hne _)]
    · split
      · simp only [fput, fdel, if_neg (hne _)]
      · rfl
def onD (j : Int) (L : List Chg) : List Chg := L.filter fun c => decide (c.node = j)
theorem fold_ag {j : Int} : ∀ (L : List Chg) {m m' : Slt → Option Int}, Ag j m m' → Ag j (L.foldl entG m) ((onD j L).foldl entG m')
  | [], m, m', h => h
  | c :: L, m, m', h => by
    by_cases hc : c.node = j
    · have e : onD j (c :: L) = c :: onD j L := by simp [onD, hc]
      rw [e, List.foldl_cons, List.foldl_cons]
      exact fold_ag L (ag_same h hc)
    · have e : onD j (c :: L) = onD j L := by simp [onD, hc]
      rw [e, List.foldl_cons]
      exact fold_ag L fun x => (ag_other hc x).trans (h x)
theorem fold_off {j : Int} : ∀ {L : List Chg} {m : Slt → Option Int}, (∀ c ∈ L, c.node ≠ j) → Ag j (L.foldl entG m) m
  | [], m, _ => Ag.refl j m
  | c :: L, m, h => by
    rw [List.foldl_cons]
    exact fun x => (fold_off (fun c hc => h c (by simp [hc])) x).trans (ag_other (h c (by simp)) x)
theorem on_rest {i j : Int} (h : j ≠ i) (L : List Chg) : onD j (restOf i L) = onD j L := by
  unfold onD restOf
  rw [List.filter_filter]
  apply List.filter_congr
  intro c _
  by_cases hc : c.node = j
  · have : c.node ≠ i := by rw [hc]; exact h
    simp [hc, h]
  · simp [hc]
theorem on_on {i : Int} (L : List Chg) : onD i (onD i L) = onD i L := by
  unfold onD
  rw [List.filter_filter]
  simp
/-- What a directory's changes, made safe, leave. -/
theorem settle_eq (i : Int) (L : List Chg) (m : Slt → Option Int) : (restOf i L).foldl entG ((onD i L).foldl entG m) = L.foldl entG m := by
  funext ⟨j, x⟩
  by_cases hj : j = i
  · subst hj
    rw [fold_off (L := restOf j L) (fun c hc => by simpa [restOf] using (List.mem_filter.1 hc).2) x]
    exact (fold_ag L (Ag.refl j m) x).symm
  · have h1 : Ag j ((onD i L).foldl entG m) m := fold_off fun c hc => by
      have : c.node = i := by simpa [onD] using (List.mem_filter.1 hc).2
      rw [this]; exact Ne.symm hj
    rw [fold_ag (restOf i L) h1 x, on_rest hj, fold_ag L (Ag.refl j m) x]
theorem filter_split {p : Chg → Bool} {c : Chg} : ∀ {L A1 A2 : List Chg}, L.filter p = A1 ++ c :: A2 → ∃ L1 L2, L = L1 ++ c :: L2 ∧ L1.filter p = A1
  | [], A1, A2, h => by simp at h
  | x :: L, A1, A2, h => by
    by_cases hp : p x = true
    · rw [List.filter_cons_of_pos hp] at h
      cases A1 with
      | nil =>
        simp only [List.nil_append, List.cons.injEq] at h
        exact ⟨[], L, by rw [h.1]; rfl, rfl⟩
      | cons y A1 =>
        simp only [List.cons_append, List.cons.injEq] at h
        obtain ⟨L1, L2, e1, e2⟩ := filter_split h.2
        exact ⟨x :: L1, L2, by rw [e1]; rfl, by rw [List.filter_cons_of_pos hp, e2, h.1]⟩
    · rw [List.filter_cons_of_neg hp] at h
      obtain ⟨L1, L2, e1, e2⟩ := filter_split h
      exact ⟨x :: L1, L2, by rw [e1]; rfl, by rw [List.filter_cons_of_neg hp, e2]⟩
theorem Src.on (h : Src m L) (i : Int) : Src m (onD i L) := by
  intro A1 c A2 e hc
  have hci : c.node = i := by
    have : c ∈ onD i L := by rw [e]; simp
    simpa [onD] using (List.mem_filter.1 this).2
  obtain ⟨L1, L2, e1, e2⟩ := filter_split e
  have := h L1 c L2 e1 hc
  rw [hci] at this ⊢
  have h3 := fold_ag (j := i) L1 (Ag.refl i m) c.src
  rw [h3] at this
  have e3 : onD i L1 = A1 := e2
  rw [e3] at this
  exact this
theorem Src.rest (h : Src m L) (i : Int) : Src ((onD i L).foldl entG m) (restOf i L) := by
  intro A1 c A2 e hc
  have hci : c.node ≠ i := by
    have : c ∈ restOf i L := by rw [e]; simp
    simpa [restOf] using (List.mem_filter.1 this).2
  obtain ⟨L1, L2, e1, e2⟩ := filter_split e
  have := h L1 c L2 e1 hc
  have h1 : Ag c.node ((onD i L).foldl entG m) m := fold_off fun x hx => by
    have : x.node = i := by simpa [onD] using (List.mem_filter.1 hx).2
    rw [this]; exact Ne.symm hci
  have e3 : restOf i L1 = A1 := e2
  rw [fold_ag A1 h1 c.src, ← e3, on_rest hci]
  rw [fold_ag L1 (Ag.refl c.node m) c.src] at this
  exact this
theorem fold_val : ∀ {L : List Chg} {m : Slt → Option Int} {s : Slt} {k : Int}, L.foldl entG m s = some k → (∃ t, m t = some k) ∨ (∃ c ∈ L, c.what = 2 ∧ k = c.target) ∨ k = 0
  | [], m, s, k, h => .inl ⟨s, h⟩
  | c :: L, m, s, k, h => by
    rw [List.foldl_cons] at h
    rcases fold_val h with ⟨t, ht⟩ | ⟨x, hx, h2⟩ | h0
    · rcases ent_val ht with h1 | h2 | h0
      · exact .inl h1
      · exact .inr (.inl ⟨c, by simp, h2⟩)
      · exact .inr (.inr h0)
    · exact .inr (.inl ⟨x, by simp [hx], h2⟩)
    · exact .inr (.inr h0)
theorem Fresh.on (h : Fresh m L) (i : Int) : Fresh m (onD i L) := ⟨fun c hc => h.out c (List.mem_filter.1 hc).1, h.apart.filter _⟩
theorem apart_ne (h : Apart L) {x y : Chg} (hx : x ∈ L) (hy : y ∈ L) (hne : x.node ≠ y.node) (h2 : x.what = 2) (h2' : y.what = 2) : x.target ≠ y.target := by
  obtain ⟨i, hi, e1⟩ := List.getElem_of_mem hx
  obtain ⟨j, hj, e2⟩ := List.getElem_of_mem hy
  have hp := List.pairwise_iff_getElem.1 h
  rcases Nat.lt_trichotomy i j with h' | h' | h'
  · have := hp i j hi hj h'
    rw [e1, e2] at this
    exact this h2 h2'
  · subst h'
    rw [e1] at e2
    exact absurd (by rw [e2]) hne
  · have := hp j i hj hi h'
    rw [e1, e2] at this
    exact Ne.symm (this h2' h2)
theorem Fresh.rest (h : Fresh m L) (hs : ∀ x ∈ L, Sc n x) (i : Int) : Fresh ((onD i L).foldl entG m) (restOf i L) := by
  refine ⟨fun c hc h2 s he => ?_, h.apart.filter _⟩
  have hcL := (List.mem_filter.1 hc).1
  have hci : c.node ≠ i := by simpa [restOf] using (List.mem_filter.1 hc).2
  rcases fold_val he with ⟨t, ht⟩ | ⟨x, hx, h2', hk⟩ | h0
  · exact h.out c hcL h2 t ht
  · have hxi : x.node = i := by simpa [onD] using (List.mem_filter.1 hx).2
    exact apart_ne h.apart hcL (List.mem_filter.1 hx).1 (by rw [hxi]; exact hci) h2 h2' hk
  · have := (hs c hcL).tgt h2
    omega
end
end Go.Proofs.YtojnickeblbgoaaGreatDoor

/-
  Layer 1 (disk), DiskKeeps, part D: what stays so behind each call.
-/
namespace Go.Proofs.YtojnickeblbgoaaGreatDoor
open Go.Lift
set_option linter.unusedSimpArgs false
set_option linter.unusedVariables false
set_option maxHeartbeats 4000000

/- The bytes of a node. -/
def bstep (i : Int) (x : ByteArray) (c : Chg) : ByteArray := if c.node = i then (applyF c x fun _ => none).1 else x
def bfold (i : Int) (x : ByteArray) (L : List Chg) : ByteArray := L.foldl (bstep i) x
def bOk (i : Int) : ByteArray → List Chg → Prop
  | _, [] => True
  | x, c :: r => (c.node = i → c.fits x) ∧ bOk i (bstep i x c) r
def gsize (i : Int) (c : Chg) : Nat := if c.node = i ∧ c.what = 0 then c.data.size else 0
def grows (i : Int) (L : List Chg) : Nat := (L.map (gsize i)).sum
section
variable {i j : Int} {x : ByteArray} {m : Slt → Option Int} {L : List Chg} {c : Chg}
theorem byte_other (h0 : c.what ≠ 0) (h1 : c.what ≠ 1) (x : ByteArray) (m : Slt → Option Int) : (applyF c x m).1 = x := by
  unfold applyF
  rw [if_neg h0, if_neg h1]
  repeat' split
  all_goals rfl
theorem fits_other (h0 : c.what ≠ 0) (h1 : c.what ≠ 1) (x : ByteArray) : c.fits x := ⟨fun h => absurd h h0, fun h => absurd h h1⟩
theorem app_size (c : Chg) (x : ByteArray) (m : Slt → Option Int) : (applyF c x m).1.size ≤ x.size + (if c.what = 0 then c.data.size else 0) := by
  by_cases h0 : c.what = 0
  · simp [applyF, h0]
  by_cases h1 : c.what = 1
  · simp [applyF, h1]
    omega
  rw [byte_other h0 h1]
  omega
theorem settle_fold : ∀ (L : List Chg) (x : ByteArray) (m : Slt → Option Int), L.foldl (settleStep i) (x, m) = (bfold i x L, (onD i L).foldl entG m)
  | [], x, m => rfl
  | c :: L, x, m => by
    rw [List.foldl_cons]
    by_cases hc : c.node = i
    · have e1 : settleStep i (x, m) c = (bstep i x c, entG m c) := by
        simp only [settleStep, bstep, if_pos hc]
        exact Prod.ext (app_byte c x m _) (app_map c x m)
      have e2 : onD i (c :: L) = c :: onD i L := by simp [onD, hc]
      rw [e1, settle_fold L, e2]
      rfl
    · have e1 : settleStep i (x, m) c = (bstep i x c, m) := by simp only [settleStep, bstep, if_neg hc]
      have e2 : onD i (c :: L) = onD i L := by simp [onD, hc]
      rw [e1, settle_fold L, e2]
      rfl
theorem foldOk_bOk : ∀ {L : List Chg} {x : ByteArray} {m : Slt → Option Int}, bOk i x L → foldOk i (x, m) L
  | [], x, m, _ => trivial
  | c :: L, x, m, h => by
    refine ⟨h.1, ?_⟩
    by_cases hc : c.node = i
    · have e1 : settleStep i (x, m) c = (bstep i x c, entG m c) := by
        simp only [settleStep, bstep, if_pos hc]
        exact Prod.ext (app_byte c x m _) (app_map c x m)
      rw [e1]; exact foldOk_bOk h.2
    · have e1 : settleStep i (x, m) c = (bstep i x c, m) := by simp only [settleStep, bstep, if_neg hc]
      rw [e1]; exact foldOk_bOk h.2
theorem bstep_size (i : Int) (x : ByteArray) (c : Chg) : (bstep i x c).size ≤ x.size + gsize i c := by
  unfold bstep gsize
  by_cases hc : c.node = i
  · have := app_size c x (fun _ => none)
    simp only [hc, if_true, true_and]
    exact this
  · simp [hc]
theorem bfold_size : ∀ (L : List Chg) (x : ByteArray), (bfold i x L).size ≤ x.size + grows i L
  | [], x => by simp [bfold, grows]
  | c :: L, x => by
    have h1 := bfold_size L (bstep i x c)
    have h2 := bstep_size i x c
    simp only [bfold, grows, List.foldl_cons, List.map_cons, List.sum_cons] at h1 ⊢
    omega
theorem grows_app (L L' : List Chg) : grows i (L ++ L') = grows i L + grows i L' := by simp [grows]
theorem bfold_snoc : bfold i x (L ++ [c]) = bstep i (bfold i x L) c := by simp [bfold]
theorem bOk_snoc : ∀ {L : List Chg} {x : ByteArray}, bOk i x L → (c.node = i → c.fits (bfold i x L)) → bOk i x (L ++ [c])
  | [], x, _, h => ⟨h, trivial⟩
  | y :: L, x, h, h' => ⟨h.1, bOk_snoc h.2 h'⟩
theorem bOk_pre : ∀ {L L' : List Chg} {x : ByteArray}, bOk i x (L ++ L') → bOk i x L
  | [], L', x, _ => trivial
  | y :: L, L', x, h => ⟨h.1, bOk_pre h.2⟩
theorem bOk_at : ∀ {L L' : List Chg} {x : ByteArray}, bOk i x (L ++ c :: L') → c.node = i → c.fits (bfold i x L)
  | [], L', x, h, hc => h.1 hc
  | y :: L, L', x, h, hc => bOk_at (L := L) h.2 hc
theorem bfold_rest (hj : j ≠ i) : ∀ (L : List Chg) (x : ByteArray), bfold j x (restOf i L) = bfold j x L ∧ (bOk j x L → bOk j x (restOf i L)) ∧ grows j (restOf i L) = grows j L
  | [], x => ⟨rfl, fun h => h, rfl⟩
  | c :: L, x => by
    by_cases hc : c.node = i
    · have e : restOf i (c :: L) = restOf i L := by simp [restOf, hc]
      have hcj : c.node ≠ j := by rw [hc]; exact Ne.symm hj
      have e2 : bstep j x c = x := by simp [bstep, hcj]
      have e3 : gsize j c = 0 := by simp [gsize, hcj]
      obtain ⟨i1, i2, i3⟩ := bfold_rest hj L x
      rw [e]
      refine ⟨?_, fun h => ?_, ?_⟩
      · rw [i1]; simp only [bfold, List.foldl_cons, e2]
      · exact i2 (by have := h.2; rw [e2] at this; exact this)
      · rw [i3]; simp only [grows, List.map_cons, List.sum_cons, e3, Nat.zero_add]
    · have e : restOf i (c :: L) = c :: restOf i L := by simp [restOf, hc]
      obtain ⟨i1, i2, i3⟩ := bfold_rest hj L (bstep j x c)
      rw [e]
      refine ⟨?_, fun h => ⟨h.1, i2 h.2⟩, ?_⟩
      · simp only [bfold, List.foldl_cons] at i1 ⊢; exact i1
      · simp only [grows, List.map_cons, List.sum_cons] at i3 ⊢; rw [i3]
theorem bfold_none : ∀ {L : List Chg} (h : ∀ c ∈ L, c.node = j → c.what ≠ 0 ∧ c.what ≠ 1) (x : ByteArray), bfold j x L = x ∧ bOk j x L ∧ grows j L = 0
  | [], _, x => ⟨rfl, trivial, rfl⟩
  | c :: L, h, x => by
    have e2 : bstep j x c = x := by
      unfold bstep
      split
      · rename_i hc
        have := h c (by simp) hc
        exact byte_other this.1 this.2 _ _
      · rfl
    have e3 : gsize j c = 0 := by
      unfold gsize
      split
      · rename_i hc
        exact absurd hc.2 (h c (by simp) hc.1).1
      · rfl
    obtain ⟨i1, i2, i3⟩ := bfold_none (L := L) (fun c hc => h c (by simp [hc])) x
    refine ⟨?_, ⟨fun hc => ?_, ?_⟩, ?_⟩
    · simp only [bfold, List.foldl_cons, e2] at i1 ⊢; exact i1
    · have := h c (by simp) hc
      exact fits_other this.1 this.2 _
    · rw [e2]; exact i2
    · simp only [grows, List.map_cons, List.sum_cons, e3, Nat.zero_add] at i3 ⊢; exact i3
theorem rest_off (i : Int) (L : List Chg) : ∀ c ∈ restOf i L, c.node = i → c.what ≠ 0 ∧ c.what ≠ 1 := fun c hc h => by
  have : c.node ≠ i := by simpa [restOf] using (List.mem_filter.1 hc).2
  exact absurd h this
/- A crash, node by node. -/
theorem cStep_at {N : List Nd} {K : Slt → Option Int} {i : Nat} {ni : Nd} (hi : c.node = i) (hin : N[i]? = some ni) : cStep (N, K) c = (N.set i { ni with kept := bstep i ni.kept c }, entG K c) := by
  have hnd : ndAt N c.node = ni := by simp [ndAt, hi, hin]
  unfold cStep
  rw [hnd]
  refine Prod.ext ?_ (app_map c _ _)
  have e : bstep i ni.kept c = (applyF c ni.kept K).1 := by
    unfold bstep
    rw [if_pos hi]
    exact app_byte c _ _ _
  rw [e, hi, Int.toNat_natCast]
theorem cFold_at : ∀ (L : List Chg) (N : List Nd) (K : Slt → Option Int), (∀ c ∈ L, 0 ≤ c.node ∧ c.node < N.length) →
    (L.foldl cStep (N, K)).2 = L.foldl entG K ∧ ∀ (j : Nat) nd, N[j]? = some nd → (L.foldl cStep (N, K)).1[j]? = some { nd with kept := bfold j nd.kept L }
  | [], N, K, _ => ⟨rfl, fun j nd h => h⟩
  | c :: L, N, K, h => by
    obtain ⟨h0, h1⟩ := h c (by simp)
    obtain ⟨i, hi⟩ : ∃ i : Nat, c.node = i := ⟨c.node.toNat, by omega⟩
    have hil : i < N.length := by omega
    have hin : N[i]? = some N[i] := List.getElem?_eq_getElem hil
    generalize N[i] = ni at hin
    have hnd : ndAt N c.node = ni := by simp [ndAt, hi, hin]
    have e := cStep_at (K := K) hi hin
    have ih := cFold_at L (N.set i { ni with kept := bstep i ni.kept c }) (entG K c) fun x hx => by
      rw [List.length_set]; exact h x (by simp [hx])
    rw [List.foldl_cons, e]
    refine ⟨ih.1, fun j nd hj => ?_⟩
    by_cases hji : i = j
    · subst hji
      rw [hin] at hj
      cases hj
      have := ih.2 i _ (List.getElem?_set_self hil)
      rw [this]
      rfl
    · have := ih.2 j nd (by rw [List.getElem?_set_ne hji]; exact hj)
      rw [this]
      have hcj : c.node ≠ (j : Int) := by rw [hi]; omega
      simp only [bfold, List.foldl_cons]
      rw [show bstep j nd.kept c = nd.kept by simp [bstep, hcj]]
theorem cOk_of : ∀ (L : List Chg) (N : List Nd) (K : Slt → Option Int), (∀ c ∈ L, 0 ≤ c.node ∧ c.node < N.length) → (∀ (j : Nat) nd, N[j]? = some nd → bOk j nd.kept L) → crashOk (N, K) L
  | [], N, K, _, _ => trivial
  | c :: L, N, K, h, hb => by
    obtain ⟨h0, h1⟩ := h c (by simp)
    obtain ⟨i, hi⟩ : ∃ i : Nat, c.node = i := ⟨c.node.toNat, by omega⟩
    have hil : i < N.length := by omega
    have hin : N[i]? = some N[i] := List.getElem?_eq_getElem hil
    generalize N[i] = ni at hin
    have hnd : ndAt N c.node = ni := by simp [ndAt, hi, hin]
    have e := cStep_at (K := K) hi hin
    refine ⟨⟨h0, h1, by rw [hnd]; exact (hb i ni hin).1 hi⟩, ?_⟩
    rw [e]
    refine cOk_of L _ _ (fun x hx => by rw [List.length_set]; exact h x (by simp [hx])) fun j nd hj => ?_
    by_cases hji : i = j
    · subst hji
      rw [List.getElem?_set_self hil] at hj
      cases hj
      exact (hb i ni hin).2
    · rw [List.getElem?_set_ne hji] at hj
      have := (hb j nd hj).2
      have hcj : c.node ≠ (j : Int) := by rw [hi]; omega
      rw [show bstep j nd.kept c = nd.kept by simp [bstep, hcj]] at this
      exact this
end
theorem crash_any (P : List Chg) (keep torn : Int) : ∃ k, crashL P keep torn = P.take k ∨ ∃ c x, P[k]? = some c ∧ c.what = 0 ∧ x.size ≤ c.data.size ∧ crashL P keep torn = P.take k ++ [{ c with data := x }] := by
  refine ⟨clampN keep P.length, ?_⟩
  unfold crashL
  cases hk : P[clampN keep P.length]? with
  | none => left; simp
  | some c =>
    by_cases h0 : c.what = 0
    · right
      refine ⟨c, c.data.extract 0 (clampN torn c.data.size), rfl, h0, ?_, by simp [h0]⟩
      have := clamp_le torn c.data.size
      rw [ByteArray.size_extract]; omega
    · left; simp [h0]
end Go.Proofs.YtojnickeblbgoaaGreatDoor

/-
  Layer 1 (disk), DiskKeeps, part E: what stays so behind each call.
-/
namespace Go.Proofs.YtojnickeblbgoaaGreatDoor
open Go.Lift
set_option linter.unusedSimpArgs false
set_option linter.unusedVariables false
set_option maxHeartbeats 4000000

structure NodeOk (A : Nat) (S : Slt → Option Int) (P : List Chg) (j : Nat) (nd : Nd) : Prop where
  ok : bOk j nd.kept P
  eq : (∃ s, S s = some (j : Int)) → bfold j nd.kept P = nd.seen
  seen : nd.seen.size ≤ A
  kept : nd.kept.size + grows j P ≤ A
structure Inv1 (A M : Nat) (data : ByteArray) (d : Dk) : Prop where
  n0 : ∃ nd, d.nodes[0]? = some nd ∧ nd.kind = 1
  n1 : ∃ nd, d.nodes[1]? = some nd ∧ nd.kind = 1
  n2 : d.nodes[2]? = some ⟨2, data, data⟩
  prot : Prot d.nodes.length d.kept
  sc : ∀ c ∈ d.pending, Sc d.nodes.length c
  src : Src d.kept d.pending
  fr : Fresh d.kept d.pending
  eq : d.pending.foldl entG d.kept = d.seen
  node : ∀ (j : Nat) nd, d.nodes[j]? = some nd → NodeOk A d.seen d.pending j nd
  len : d.nodes.length ≤ M
  plen : d.pending.length ≤ M
section
variable {A M : Nat} {data : ByteArray} {d d' : Dk}
theorem Inv1.pseen (h : Inv1 A M data d) : Prot d.nodes.length d.seen := by
  rw [← h.eq]; exact h.prot.fold h.sc h.src h.fr
theorem Inv1.congr (h : Inv1 A M data d) {A' M' : Nat} (h1 : d'.nodes = d.nodes) (h2 : d'.seen = d.seen) (h3 : d'.kept = d.kept) (h4 : d'.pending = d.pending) (hA : A ≤ A') (hM : M ≤ M') : Inv1 A' M' data d' := by
  refine ⟨by rw [h1]; exact h.n0, by rw [h1]; exact h.n1, by rw [h1]; exact h.n2, by rw [h1, h3]; exact h.prot, by rw [h1, h4]; exact h.sc, by rw [h3, h4]; exact h.src, by rw [h3, h4]; exact h.fr, by rw [h2, h3, h4]; exact h.eq, fun j nd hj => ?_, by rw [h1]; have := h.len; omega, by rw [h4]; have := h.plen; omega⟩
  rw [h1] at hj
  rw [h2, h4]
  have t := h.node j nd hj
  exact ⟨t.ok, t.eq, by have := t.seen; omega, by have := t.kept; omega⟩
theorem Inv1.good (h : Inv1 A M data d) : Good d := ⟨fun s k hs => (h.pseen.rng s k hs).2, by
  obtain ⟨nd, h1, _⟩ := h.n0
  exact (List.getElem?_eq_some_iff.1 h1).1⟩
theorem Inv1.addNode (h : Inv1 A M data d) (kind : Int) : Inv1 A (M + 1) data (d.addNode kind) := by
  have hl : ∀ (i : Nat) a, d.nodes[i]? = some a → (d.nodes ++ [(⟨kind, e0, e0⟩ : Nd)])[i]? = some a := fun i a ha => by rw [List.getElem?_append_left (List.getElem?_eq_some_iff.1 ha).1]; exact ha
  have hle : d.nodes.length ≤ (d.nodes ++ [(⟨kind, e0, e0⟩ : Nd)]).length := by simp
  obtain ⟨a0, b0, c0⟩ := h.n0
  obtain ⟨a1, b1, c1⟩ := h.n1
  refine ⟨⟨a0, hl _ _ b0, c0⟩, ⟨a1, hl _ _ b1, c1⟩, hl _ _ h.n2, h.prot.mono hle, fun c hc => (h.sc c hc).mono hle, h.src, h.fr, h.eq, fun j nd hj => ?_, by
    have := h.len
    show (d.nodes ++ [(⟨kind, e0, e0⟩ : Nd)]).length ≤ M + 1
    simp; omega, by have := h.plen; show d.pending.length ≤ M + 1; omega⟩
  have hj' : (d.nodes ++ [(⟨kind, e0, e0⟩ : Nd)])[j]? = some nd := hj
  by_cases hjl : j < d.nodes.length
  · rw [List.getElem?_append_left hjl] at hj'
    exact h.node j nd hj'
  · rw [List.getElem?_append_right (by omega)] at hj'
    have hjn : j - d.nodes.length = 0 := by
      have := (List.getElem?_eq_some_iff.1 hj').1
      simp at this; omega
    rw [hjn] at hj'
    have : nd = ⟨kind, e0, e0⟩ := by simpa using hj'.symm
    subst this
    obtain ⟨i1, i2, i3⟩ := bfold_none (j := (j : Int)) (L := d.pending) (fun c hc hcj => by
      have := (h.sc c hc).node
      omega) e0
    exact ⟨i2, fun _ => i1, Nat.zero_le _, by show e0.size + grows j d.pending ≤ A; rw [i3]; exact Nat.zero_le _⟩
theorem Inv1.act (h : Inv1 A M data d) : Inv1 A M data d.actF.2 := by
  obtain ⟨e1, e2, e3, e4⟩ := actF_same d
  exact h.congr e1 e2 e3 e4 (Nat.le_refl _) (Nat.le_refl _)
theorem Inv1.do' (h : Inv1 A M data d) {c : Chg} {i : Nat} {nd : Nd} (hi : d.nodes[i]? = some nd) (hn : c.node = i) (hsc : Sc d.nodes.length c) (h4 : c.what = 4 → d.seen (c.node, c.src) ≠ none)
    (h2 : c.what = 2 → (∀ s, d.kept s ≠ some c.target) ∧ (∀ x ∈ d.pending, x.what = 2 → x.target ≠ c.target) ∧ ∀ (t : Nat) nd', c.target = t → d.nodes[t]? = some nd' → bfold t nd'.kept d.pending = nd'.seen)
    (hb : c.what = 0 ∨ c.what = 1 → ∃ s, d.seen s = some (i : Int)) (hf : c.fits nd.seen) : Inv1 (A + c.data.size) (M + 1) data (doF d c i nd).2 := by
  unfold doF
  obtain ⟨e1, e2, e3, e4⟩ := actF_same d
  split
  · exact (h.act).congr rfl rfl rfl rfl (by omega) (by omega)
  have hil := (List.getElem?_eq_some_iff.1 hi).1
  have hprot' : Prot d.nodes.length (entG d.seen c) := h.pseen.step hsc h4 (fun hw s hs => by
    obtain ⟨q1, q2, _⟩ := h2 hw
    rw [← h.eq] at hs
    rcases fold_val hs with ⟨t, ht⟩ | ⟨x, hx, hx2, hk⟩ | h0
    · exact q1 t ht
    · exact q2 x hx hx2 hk.symm
    · have := hsc.tgt hw; omega)
  have hlen : (d.nodes.set i { nd with seen := (applyF c nd.seen d.seen).1 }).length = d.nodes.length := List.length_set
  have hset : ∀ (j : Nat) a, d.nodes[j]? = some a → ∃ b, (d.nodes.set i { nd with seen := (applyF c nd.seen d.seen).1 })[j]? = some b ∧ b.kind = a.kind ∧ b.kept = a.kept := fun j a ha => by
    by_cases hji : i = j
    · subst hji
      rw [hi] at ha; cases ha
      exact ⟨_, List.getElem?_set_self hil, rfl, rfl⟩
    · exact ⟨a, by rw [List.getElem?_set_ne hji]; exact ha, rfl, rfl⟩
  have hfold : (d.pending ++ [c]).foldl entG d.kept = entG d.seen c := by rw [List.foldl_append, h.eq]; rfl
  have halive : ∀ (j : Nat) x, d.nodes[j]? = some x → (∃ s, entG d.seen c s = some (j : Int)) → bfold j x.kept d.pending = x.seen := by
    rintro j x hx ⟨s, hs⟩
    have hr := hprot'.rng s _ hs
    rcases ent_val hs with ht | ⟨hw, hk⟩ | h0
    · exact (h.node j x hx).eq ht
    · exact (h2 hw).2.2 j x hk.symm hx
    · omega
  refine ⟨?_, ?_, ?_, ?_, ?_, ?_, ?_, ?_, ?_, ?_, ?_⟩
  · obtain ⟨a0, b0, c0⟩ := h.n0
    obtain ⟨x, x1, x2, _⟩ := hset 0 a0 b0
    exact ⟨x, x1, by rw [x2]; exact c0⟩
  · obtain ⟨a0, b0, c0⟩ := h.n1
    obtain ⟨x, x1, x2, _⟩ := hset 1 a0 b0
    exact ⟨x, x1, by rw [x2]; exact c0⟩
  · show (d.nodes.set i _)[2]? = _
    by_cases hi2 : i = 2
    · subst hi2
      have hw := hsc.byte
      rw [hn] at hw
      have h0 : c.what ≠ 0 := fun he => hw (.inl he) rfl
      have h1 : c.what ≠ 1 := fun he => hw (.inr he) rfl
      rw [byte_other h0 h1, List.getElem?_set_self hil]
      have := h.n2
      rw [hi] at this
      cases this
      rfl
    · rw [List.getElem?_set_ne hi2]; exact h.n2
  · show Prot (d.nodes.set i _).length d.actF.2.kept
    rw [hlen, e3]; exact h.prot
  · show ∀ x ∈ d.pending ++ [c], Sc (d.nodes.set i _).length x
    rw [hlen]
    intro x hx
    rcases List.mem_append.1 hx with hx | hx
    · exact h.sc x hx
    · obtain rfl := List.mem_singleton.1 hx; exact hsc
  · show Src d.actF.2.kept (d.pending ++ [c])
    rw [e3]
    exact h.src.snoc fun hw => by rw [h.eq]; exact h4 hw
  · show Fresh d.actF.2.kept (d.pending ++ [c])
    rw [e3]
    refine ⟨fun x hx hw => ?_, List.pairwise_append.2 ⟨h.fr.apart, by simp, fun x hx y hy hx2 hy2 => ?_⟩⟩
    · rcases List.mem_append.1 hx with hx | hx
      · exact h.fr.out x hx hw
      · obtain rfl := List.mem_singleton.1 hx; exact (h2 hw).1
    · obtain rfl := List.mem_singleton.1 hy
      exact (h2 hy2).2.1 x hx hx2
  · show (d.pending ++ [c]).foldl entG d.actF.2.kept = (applyF c nd.seen d.seen).2
    rw [e3, hfold, app_map]
  · intro j x hj
    have hj' : (d.nodes.set i { nd with seen := (applyF c nd.seen d.seen).1 })[j]? = some x := hj
    show NodeOk _ (applyF c nd.seen d.seen).2 (d.pending ++ [c]) j x
    rw [app_map]
    have hgs : gsize j c ≤ c.data.size := by unfold gsize; split <;> omega
    have hg1 : grows j (d.pending ++ [c]) = grows j d.pending + gsize j c := by rw [grows_app]; simp [grows]
    by_cases hji : i = j
    · subst hji
      rw [List.getElem?_set_self hil] at hj'
      cases hj'
      have t := h.node i nd hi
      have hal := halive i nd hi
      refine ⟨bOk_snoc t.ok fun _ => ?_, fun ha => ?_, ?_, ?_⟩
      · by_cases hw : c.what = 0 ∨ c.what = 1
        · rw [t.eq (hb hw)]; exact hf
        · rw [not_or] at hw; exact fits_other hw.1 hw.2 _
      · rw [bfold_snoc]
        have e : bfold i nd.kept d.pending = nd.seen := by
          by_cases hw : c.what = 0 ∨ c.what = 1
          · exact t.eq (hb hw)
          · exact hal ha
        show bstep i (bfold i nd.kept d.pending) c = _
        rw [e]
        unfold bstep
        rw [if_pos hn]
        exact app_byte c _ _ _
      · have h1 := app_size c nd.seen d.seen
        have h2 := t.seen
        show (applyF c nd.seen d.seen).1.size ≤ _
        split at h1 <;> omega
      · have h2 := t.kept
        show nd.kept.size + _ ≤ _
        omega
    · rw [List.getElem?_set_ne hji] at hj'
      have t := h.node j x hj'
      have hcj : c.node ≠ (j : Int) := by rw [hn]; omega
      refine ⟨bOk_snoc t.ok fun he => absurd he hcj, fun ha => ?_, by have := t.seen; omega, by have := t.kept; omega⟩
      rw [bfold_snoc, show bstep j (bfold j x.kept d.pending) c = bfold j x.kept d.pending by simp [bstep, hcj]]
      exact halive j x hj' ha
  · show (d.nodes.set i _).length ≤ M + 1
    rw [hlen]; have := h.len; omega
  · show (d.pending ++ [c]).length ≤ M + 1
    have := h.plen
    simp; omega
theorem Inv1.settle (h : Inv1 A M data d) {i : Nat} {nd : Nd} (hi : d.nodes[i]? = some nd) : Inv1 A M data (settleF d i nd).2 := by
  unfold settleF
  obtain ⟨e1, e2, e3, e4⟩ := actF_same d
  split
  · exact h.act
  rw [settle_fold]
  have hil := (List.getElem?_eq_some_iff.1 hi).1
  have hscr : ∀ x ∈ restOf i d.pending, Sc d.nodes.length x := fun x hx => h.sc x (List.mem_filter.1 hx).1
  have hsco : ∀ x ∈ onD i d.pending, Sc d.nodes.length x := fun x hx => h.sc x (List.mem_filter.1 hx).1
  have hlen : (d.nodes.set i { nd with kept := bfold i nd.kept d.pending }).length = d.nodes.length := List.length_set
  have hset : ∀ (j : Nat) a, d.nodes[j]? = some a → ∃ b, (d.nodes.set i { nd with kept := bfold i nd.kept d.pending })[j]? = some b ∧ b.kind = a.kind ∧ b.seen = a.seen := fun j a ha => by
    by_cases hji : i = j
    · subst hji
      rw [hi] at ha; cases ha
      exact ⟨_, List.getElem?_set_self hil, rfl, rfl⟩
    · exact ⟨a, by rw [List.getElem?_set_ne hji]; exact ha, rfl, rfl⟩
  have hplr : (restOf i d.pending).length ≤ d.pending.length := List.length_filter_le _ _
  refine ⟨?_, ?_, ?_, ?_, ?_, ?_, ?_, ?_, ?_, ?_, ?_⟩
  · obtain ⟨a0, b0, c0⟩ := h.n0
    obtain ⟨x, x1, x2, _⟩ := hset 0 a0 b0
    exact ⟨x, x1, by rw [x2]; exact c0⟩
  · obtain ⟨a0, b0, c0⟩ := h.n1
    obtain ⟨x, x1, x2, _⟩ := hset 1 a0 b0
    exact ⟨x, x1, by rw [x2]; exact c0⟩
  · show (d.nodes.set i _)[2]? = _
    by_cases hi2 : i = 2
    · subst hi2
      have hb := (bfold_none (j := ((2 : Nat) : Int)) (L := d.pending) (fun c hc hcj => by
        have := (h.sc c hc).byte
        rw [hcj] at this
        exact ⟨fun he => this (.inl he) rfl, fun he => this (.inr he) rfl⟩) nd.kept).1
      rw [hb, List.getElem?_set_self hil]
      have := h.n2
      rw [hi] at this
      cases this
      rfl
    · rw [List.getElem?_set_ne hi2]; exact h.n2
  · show Prot (d.nodes.set i _).length ((onD i d.pending).foldl entG d.kept)
    rw [hlen]
    exact h.prot.fold hsco (h.src.on i) (h.fr.on i)
  · show ∀ x ∈ restOf i d.pending, Sc (d.nodes.set i _).length x
    rw [hlen]; exact hscr
  · exact h.src.rest i
  · exact h.fr.rest h.sc i
  · show (restOf i d.pending).foldl entG ((onD i d.pending).foldl entG d.kept) = d.actF.2.seen
    rw [settle_eq, e2]; exact h.eq
  · intro j x hj
    have hj' : (d.nodes.set i { nd with kept := bfold i nd.kept d.pending })[j]? = some x := hj
    show NodeOk A d.actF.2.seen (restOf i d.pending) j x
    rw [e2]
    by_cases hji : i = j
    · subst hji
      rw [List.getElem?_set_self hil] at hj'
      cases hj'
      have t := h.node i nd hi
      obtain ⟨q1, q2, q3⟩ := bfold_none (j := (i : Int)) (L := restOf i d.pending) (rest_off i d.pending) (bfold i nd.kept d.pending)
      refine ⟨q2, fun ha => ?_, t.seen, ?_⟩
      · show bfold i (bfold i nd.kept d.pending) (restOf i d.pending) = nd.seen
        rw [q1]; exact t.eq ha
      · show (bfold i nd.kept d.pending).size + grows i (restOf i d.pending) ≤ A
        rw [q3]
        have := bfold_size (i := (i : Int)) d.pending nd.kept
        have := t.kept
        omega
    · rw [List.getElem?_set_ne hji] at hj'
      have t := h.node j x hj'
      obtain ⟨q1, q2, q3⟩ := bfold_rest (j := (j : Int)) (i := (i : Int)) (by omega) d.pending x.kept
      exact ⟨q2 t.ok, fun ha => by rw [q1]; exact t.eq ha, t.seen, by rw [q3]; exact t.kept⟩
  · show (d.nodes.set i _).length ≤ M
    rw [hlen]; exact h.len
  · show (restOf i d.pending).length ≤ M
    have := h.plen; omega
/-- What a crash applies is in order. -/
theorem crash_list (h : Inv1 A M data d) (keep torn : Int) (hA : A ≤ 2305843009213693952) : (∀ c ∈ crashL d.pending keep torn, Sc d.nodes.length c) ∧ Src d.kept (crashL d.pending keep torn) ∧ Fresh d.kept (crashL d.pending keep torn) ∧
    ∀ (j : Nat) nd, d.nodes[j]? = some nd → bOk j nd.kept (crashL d.pending keep torn) ∧ (bfold j nd.kept (crashL d.pending keep torn)).size ≤ A := by
  obtain ⟨k, hk⟩ := crash_any d.pending keep torn
  have hsplit : d.pending = d.pending.take k ++ d.pending.drop k := (List.take_append_drop k _).symm
  have hs := h.src
  have hf := h.fr
  have pre : ∀ (j : Nat) nd, d.nodes[j]? = some nd → bOk j nd.kept (d.pending.take k) ∧ nd.kept.size + grows j (d.pending.take k) ≤ A := fun j nd hj => by
    have t := h.node j nd hj
    have t1 := t.ok
    have t2 := t.kept
    rw [hsplit] at t1 t2
    rw [grows_app] at t2
    exact ⟨bOk_pre t1, by omega⟩
  rw [hsplit] at hs hf
  rcases hk with e | ⟨c, x, hc, hw, hx, e⟩
  · rw [e]
    refine ⟨fun c hc => h.sc c (List.mem_of_mem_take hc), hs.pre, hf.pre, fun j nd hj => ?_⟩
    obtain ⟨p1, p2⟩ := pre j nd hj
    have := bfold_size (i := (j : Int)) (d.pending.take k) nd.kept
    exact ⟨p1, by omega⟩
  · rw [e]
    have hcs := h.sc c (List.mem_of_getElem? hc)
    have hkl := (List.getElem?_eq_some_iff.1 hc).1
    have hdrop : d.pending.drop k = c :: d.pending.drop (k + 1) := by
      rw [List.drop_eq_getElem_cons hkl]
      congr 1
      exact (List.getElem?_eq_some_iff.1 hc).2
    refine ⟨fun y hy => ?_, hs.pre.snoc fun h4 => ?_, ⟨fun y hy h2 => ?_, List.pairwise_append.2 ⟨hf.pre.apart, by simp, fun y hy z hz h2 h2' => ?_⟩⟩, fun j nd hj => ?_⟩
    · rcases List.mem_append.1 hy with hy | hy
      · exact h.sc y (List.mem_of_mem_take hy)
      · obtain rfl := List.mem_singleton.1 hy
        exact ⟨hcs.node, hcs.byte, hcs.ent, hcs.mov, hcs.tgt⟩
    · simp only [hw] at h4; exact absurd h4 (by decide)
    · rcases List.mem_append.1 hy with hy | hy
      · exact hf.pre.out y hy h2
      · obtain rfl := List.mem_singleton.1 hy
        simp only [hw] at h2; exact absurd h2 (by decide)
    · obtain rfl := List.mem_singleton.1 hz
      simp only [hw] at h2'; exact absurd h2' (by decide)
    · obtain ⟨p1, p2⟩ := pre j nd hj
      have hb := bfold_size (i := (j : Int)) (d.pending.take k) nd.kept
      have t := h.node j nd hj
      have t1 := t.ok
      have t2 := t.kept
      rw [hsplit, hdrop] at t1 t2
      rw [grows_app] at t2
      have hg : gsize j c ≤ grows j (c :: d.pending.drop (k + 1)) := by simp [grows]
      refine ⟨bOk_snoc p1 fun hcj => ⟨fun _ => ?_, fun h1 => by simp only [hw] at h1; exact absurd h1 (by decide)⟩, ?_⟩
      · have := (bOk_at t1 hcj).1 hw
        show (bfold j nd.kept (d.pending.take k)).size + x.size ≤ _
        omega
      · rw [bfold_snoc]
        have h1 := bstep_size j (bfold j nd.kept (d.pending.take k)) { c with data := x }
        have h2 : gsize j { c with data := x } ≤ gsize j c := by
          unfold gsize
          simp only
          split
          · exact hx
          · exact Nat.le_refl _
        omega
theorem Inv1.crash (h : Inv1 A M data d) (keep torn : Int) (hA : A ≤ 2305843009213693952) :
    crashOk (d.nodes, d.kept) (crashL d.pending keep torn) ∧ Tree { d with nodes := ((crashL d.pending keep torn).foldl cStep (d.nodes, d.kept)).1, kept := ((crashL d.pending keep torn).foldl cStep (d.nodes, d.kept)).2 } ∧
    ∀ d', Reached { d with nodes := ((crashL d.pending keep torn).foldl cStep (d.nodes, d.kept)).1, kept := ((crashL d.pending keep torn).foldl cStep (d.nodes, d.kept)).2 } d' → Inv1 A M data d' ∧ d'.down = false := by
  obtain ⟨l1, l2, l3, l4⟩ := crash_list h keep torn hA
  generalize crashL d.pending keep torn = L at *
  obtain ⟨f1, f2⟩ := cFold_at L d.nodes d.kept fun c hc => (l1 c hc).node
  have hlen := cFold_len' L (d.nodes, d.kept)
  have hp : Prot d.nodes.length (L.foldl entG d.kept) := h.prot.fold l1 l2 l3
  generalize hst : L.foldl cStep (d.nodes, d.kept) = st at *
  simp only at hlen
  refine ⟨cOk_of L d.nodes d.kept (fun c hc => (l1 c hc).node) fun j nd hj => (l4 j nd hj).1, ⟨fun s k hs => ?_, fun s t k hs ht => ?_⟩, fun d' hr => ⟨?_, hr.off.2.1⟩⟩
  · simp only at hs ⊢
    rw [f1] at hs
    rw [hlen]
    exact hp.rng s k hs
  · simp only at hs ht
    rw [f1] at hs ht
    exact hp.inj s t k hs ht
  · have hsub : ∀ s k, d'.seen s = some k → L.foldl entG d.kept s = some k := fun s k hs => by
      have := hr.sub s k hs
      simp only at this
      rw [f1] at this
      exact this
    have hkept : d'.kept = d'.seen := funext hr.eq
    have hpend : d'.pending = [] := hr.off.2.2
    have hdl : d'.nodes.length = d.nodes.length := by rw [hr.len]; exact hlen
    have hat : ∀ (j : Nat) nd, d.nodes[j]? = some nd → ∃ x, d'.nodes[j]? = some x ∧ x.kind = nd.kind ∧ x.kept = bfold j nd.kept L ∧ (x.seen = nd.seen ∨ x.seen = bfold j nd.kept L) ∧ ((∃ s, d'.seen s = some (j : Int)) → x.seen = x.kept) := fun j nd hj => by
      have e := f2 j nd hj
      have hgot : (∃ s, d'.seen s = some (j : Int)) → d'.nodes[j]? = some ⟨nd.kind, bfold j nd.kept L, bfold j nd.kept L⟩ := fun ⟨s, hs⟩ => by
        have := hr.got s j hs _ (by simpa using e)
        simpa using this
      rcases hr.each j _ e with h' | h'
      · refine ⟨_, h', rfl, rfl, .inl rfl, fun ha => ?_⟩
        have := hgot ha
        rw [h'] at this
        injection this with this
        rw [this]
      · exact ⟨_, h', rfl, rfl, .inr rfl, fun _ => rfl⟩
    have htop : d'.seen sA = some 1 := hr.root FA 1 (by simp only; rw [f1]; exact hp.top)
    have hfil : d'.seen sF = some 2 := by
      refine hr.closed sA 1 htop ?_ nF 2 (by simp only; rw [f1]; exact hp.fil)
      obtain ⟨a1, b1, c1⟩ := h.n1
      have e := f2 1 a1 b1
      simp only [Dk.nd]
      rw [show (1 : Int).toNat = 1 from rfl, e]
      exact c1
    have hprot : Prot d.nodes.length d'.seen := ⟨htop, hfil, fun s k hs => hp.rng s k (hsub s k hs), fun s t k hs ht => hp.inj s t k (hsub s k hs) (hsub t k ht)⟩
    have h2b : bfold ((2 : Nat) : Int) data L = data := (bfold_none (j := ((2 : Nat) : Int)) (L := L) (fun c hc hcj => by
        have := (l1 c hc).byte
        rw [hcj] at this
        exact ⟨fun he => this (.inl he) rfl, fun he => this (.inr he) rfl⟩) data).1
    refine ⟨?_, ?_, ?_, ?_, ?_, ?_, ?_, ?_, ?_, ?_, ?_⟩
    · obtain ⟨a0, b0, c0⟩ := h.n0
      obtain ⟨x, x1, x2, _⟩ := hat 0 a0 b0
      exact ⟨x, x1, by rw [x2]; exact c0⟩
    · obtain ⟨a0, b0, c0⟩ := h.n1
      obtain ⟨x, x1, x2, _⟩ := hat 1 a0 b0
      exact ⟨x, x1, by rw [x2]; exact c0⟩
    · obtain ⟨x, x1, x2, x3, x4, _⟩ := hat 2 _ h.n2
      rw [x1]
      simp only at x2 x3 x4
      rw [h2b] at x3 x4
      obtain ⟨xk, xs, xe⟩ := x
      simp only at x2 x3 x4
      subst x2
      subst x3
      rcases x4 with x4 | x4 <;> rw [x4]
    · rw [hdl, hkept]; exact hprot
    · rw [hpend]; intro c hc; cases hc
    · rw [hpend]; intro L1 c L2 e _; exact absurd e (by simp)
    · rw [hpend]; exact ⟨fun c hc => (by cases hc), List.Pairwise.nil⟩
    · rw [hpend, hkept]; rfl
    · intro j x hj
      rw [hpend]
      have hjl : j < d.nodes.length := by rw [← hdl]; exact (List.getElem?_eq_some_iff.1 hj).1
      obtain ⟨y, y1, y2, y3, y4, y5⟩ := hat j _ (List.getElem?_eq_getElem hjl)
      rw [hj] at y1
      cases y1
      have t := h.node j _ (List.getElem?_eq_getElem hjl)
      have t2 := (l4 j _ (List.getElem?_eq_getElem hjl)).2
      refine ⟨trivial, fun ha => (y5 ha).symm, ?_, ?_⟩
      · rcases y4 with y4 | y4
        · rw [y4]; exact t.seen
        · rw [y4]; exact t2
      · rw [y3]
        have : grows (j : Int) [] = 0 := rfl
        rw [this]; exact t2
    · rw [hdl]; exact h.len
    · rw [hpend]; exact Nat.zero_le _
end
end Go.Proofs.YtojnickeblbgoaaGreatDoor

/-
  Layer 1 (disk), DiskKeeps, part F: the calls of a script.
-/
namespace Go.Proofs.YtojnickeblbgoaaGreatDoor
open Go.Lift
set_option linter.unusedSimpArgs false
set_option linter.unusedVariables false
set_option maxHeartbeats 4000000

theorem parse_FA : parseF FA = some [FA] := by decide +kernel
theorem parse_FF : parseF FF = some [FA, nF] := by decide +kernel
/-- A directory's names from the root on. -/
inductive Rt (m : Slt → Option Int) : Int → List ByteArray → Prop
  | root : Rt m 0 []
  | step {D k : Int} {n : ByteArray} {pre : List ByteArray} (h : Rt m D pre) (hk : m (D, n) = some k) : Rt m k (pre ++ [n])
section
variable {A M n : Nat} {data : ByteArray} {d d' : Dk} {m : Slt → Option Int}
theorem rt_zero (hp : Prot n m) {D : Int} {pre : List ByteArray} (h : Rt m D pre) (hD : D = 0) : pre = [] := by
  cases h with
  | root => rfl
  | step h' hk => have := (hp.rng _ _ hk).1; omega
theorem rt_one (hp : Prot n m) {D : Int} {pre : List ByteArray} (h : Rt m D pre) (hD : D = 1) : pre = [FA] := by
  cases h with
  | root => cases hD
  | step h' hk =>
    rw [hD] at hk
    have := hp.inj _ _ _ hk hp.top
    injection this with h1 h2
    rw [rt_zero hp h' h1, h2]; rfl
theorem rt_two (hp : Prot n m) {D : Int} {pre : List ByteArray} (h : Rt m D pre) (hD : D = 2) : pre = [FA, nF] := by
  cases h with
  | root => cases hD
  | step h' hk =>
    rw [hD] at hk
    have := hp.inj _ _ _ hk hp.fil
    injection this with h1 h2
    rw [rt_one hp h' h1, h2]; rfl
theorem walkGo_res : ∀ (rest : List ByteArray) (a : Slt) (node : Int) (done : List ByteArray), Rt d.seen node done → (d.walkGo a node rest).1 = 0 → rest ≠ [] →
    ∃ D pre last, done ++ rest = pre ++ [last] ∧ Rt d.seen D pre ∧ (d.walkGo a node rest).2.1 = (D, last) ∧ (d.walkGo a node rest).2.2 = (d.seen (D, last)).getD (-1)
  | [], a, node, done, _, _, h => absurd rfl h
  | x :: rest, a, node, done, hr, h, _ => by
    unfold Dk.walkGo at h ⊢
    by_cases h1 : node < 0
    · rw [if_pos h1] at h; cases h
    rw [if_neg h1] at h ⊢
    by_cases h2 : (d.nd node).kind ≠ 1
    · rw [if_pos h2] at h; cases h
    rw [if_neg h2] at h ⊢
    by_cases h3 : (d.seen (node, x)).getD (-1) < 0 ∧ rest ≠ []
    · rw [if_pos h3] at h; cases h
    rw [if_neg h3] at h ⊢
    by_cases hre : rest = []
    · subst hre
      exact ⟨node, done, x, rfl, hr, rfl, rfl⟩
    · cases hs : d.seen (node, x) with
      | none => exact absurd ⟨by rw [hs]; decide, hre⟩ h3
      | some k =>
        rw [hs] at h
        obtain ⟨D, pre, last, e1, e2⟩ := walkGo_res rest _ _ (done ++ [x]) (Rt.step hr hs) h hre
        exact ⟨D, pre, last, by rw [← e1]; simp, e2⟩
theorem walk_res {names : List ByteArray} (h : (d.walkF names).1 = 0) (hn : names ≠ []) : ∃ D pre last, names = pre ++ [last] ∧ Rt d.seen D pre ∧ (d.walkF names).2.1 = (D, last) ∧ (d.walkF names).2.2 = (d.seen (D, last)).getD (-1) := by
  obtain ⟨D, pre, last, e1, e2⟩ := walkGo_res names _ _ [] Rt.root h hn
  exact ⟨D, pre, last, by simpa using e1, e2⟩
/-- A path that is not one of the two leads elsewhere. -/
theorem at_safe (hp : Prot n d.seen) {p : ByteArray} {names : List ByteArray} (hpn : parseF p = some names) (h : (d.walkF names).1 = 0) (hn : names ≠ []) (h1 : p ≠ FA) (h2 : p ≠ FF) : (d.walkF names).2.1 ≠ sA ∧ (d.walkF names).2.1 ≠ sF := by
  obtain ⟨D, pre, last, e1, e2, e3, _⟩ := walk_res h hn
  rw [e3]
  refine ⟨fun he => h1 ?_, fun he => h2 ?_⟩
  · injection he with q1 q2
    rw [rt_zero hp e2 q1, q2] at e1
    exact parse_inj hpn (e1 ▸ parse_FA)
  · injection he with q1 q2
    rw [rt_one hp e2 q1, q2] at e1
    exact parse_inj hpn (e1 ▸ parse_FF)
theorem node_safe (hp : Prot n d.seen) {p : ByteArray} {names : List ByteArray} (hpn : parseF p = some names) (h : (d.walkF names).1 = 0) (hn : names ≠ []) (h1 : p ≠ FA) (h2 : p ≠ FF) (h0 : 0 ≤ (d.walkF names).2.2) : (d.walkF names).2.2 ≠ 2 ∧ d.seen (d.walkF names).2.1 = some (d.walkF names).2.2 := by
  obtain ⟨D, pre, last, e1, e2, e3, e4⟩ := walk_res h hn
  have hs : d.seen (D, last) = some (d.walkF names).2.2 := by
    cases hs : d.seen (D, last) with
    | none => rw [e4, hs] at h0; exact absurd h0 (by decide)
    | some k => rw [e4, hs]; rfl
  refine ⟨fun he => ?_, by rw [e3]; exact hs⟩
  rw [he] at hs
  have := hp.inj _ _ _ hs hp.fil
  exact (at_safe hp hpn h hn h1 h2).2 (e3.trans this)
theorem find_res {p : ByteArray} {kind : Int} (h : (d.findF p kind).1 = 0) : ∃ names, parseF p = some names ∧ (d.walkF names).1 = 0 ∧ d.findF p kind = d.walkF names ∧ 0 ≤ (d.walkF names).2.2 ∧ (kind ≠ 0 → (d.nd (d.walkF names).2.2).kind = kind) := by
  unfold Dk.findF at h ⊢
  split at h
  · cases h
  rename_i hd
  split at h
  · cases h
  rename_i names hn
  split at h
  · rename_i h1; exact absurd h h1
  rename_i h1
  split at h
  · cases h
  rename_i h2
  split at h
  · cases h
  rename_i h3
  refine ⟨names, hn, by simpa using h1, ?_, by omega, fun hk => Classical.byContradiction fun hne => h3 ⟨hk, hne⟩⟩
  simp only [hn, if_neg hd, if_neg h1, if_neg h2, if_neg h3]
theorem nd_at (d : Dk) {k : Int} (h0 : 0 ≤ k) (h1 : k < d.nodes.length) : d.nodes[k.toNat]? = some (d.nd k) := by
  have hl : k.toNat < d.nodes.length := by omega
  simp [Dk.nd, List.getElem?_eq_getElem hl]
theorem nd_of' {d : Dk} {i : Nat} {nd : Nd} (h : d.nodes[i]? = some nd) {k : Int} (hk : k = i) : d.nd k = nd := by simp [Dk.nd, hk, h]
theorem Inv1.more (h : Inv1 A M data d) {A' M' : Nat} (hA : A ≤ A') (hM : M ≤ M') : Inv1 A' M' data d := h.congr rfl rfl rfl rfl hA hM
theorem Inv1.k0 (h : Inv1 A M data d) : (d.nd 0).kind = 1 := by
  obtain ⟨a0, b0, c0⟩ := h.n0
  have : d.nd 0 = a0 := nd_of' (i := 0) b0 rfl
  rw [this]; exact c0

theorem keep_create (h : Inv1 A M data d) {p : ByteArray} (h1 : p ≠ FA) (h2 : p ≠ FF) (kind : Int) : Inv1 A (M + 2) data (createF d p kind).2 := by
  unfold createF
  split
  · exact h.more (Nat.le_refl _) (by omega)
  split
  · exact h.more (Nat.le_refl _) (by omega)
  rename_i names hpn
  split
  · exact h.more (Nat.le_refl _) (by omega)
  rename_i hw
  have hw0 : (d.walkF names).1 = 0 := by simpa using hw
  split
  · exact h.more (Nat.le_refl _) (by omega)
  rename_i hneg
  have hn : names ≠ [] := fun he => by rw [he] at hneg; exact hneg (show (0 : Int) ≤ 0 by omega)
  obtain ⟨q1, q2⟩ := walk_dir h.good hn hw0
  have hs := at_safe h.pseen hpn hw0 hn h1 h2
  obtain ⟨⟨D, last⟩, hat⟩ : ∃ a : Slt, a = (d.walkF names).2.1 := ⟨_, rfl⟩
  rw [← hat] at q1 q2 hs ⊢
  simp only at q1 q2 ⊢
  have hN := h.addNode kind
  have hnl : (d.addNode kind).nodes.length = d.nodes.length + 1 := by show (d.nodes ++ [_]).length = _; simp
  have hi : (d.addNode kind).nodes[D.toNat]? = some (d.nd D) := by
    show (d.nodes ++ [_])[D.toNat]? = _
    rw [List.getElem?_append_left (by omega)]
    exact nd_at d q1 q2
  have hpos : 0 < d.nodes.length := h.good.pos
  have t := hN.do' (c := ⟨2, D, e0, 0, last, e0, d.nodes.length⟩) (i := D.toNat) hi (show D = _ by omega) ⟨by rw [hnl]; simp only; omega, fun hc => by rcases hc with hc | hc <;> simp at hc, fun _ => hs, fun hc => by simp at hc, fun _ => by rw [hnl]; simp only; omega⟩
    (fun hc => by simp at hc) (fun _ => ⟨fun s hks => ?_, fun x hx hx2 => ?_, fun t nd' ht hnd' => ?_⟩) (fun hc => by rcases hc with hc | hc <;> simp at hc) ⟨fun hc => by simp at hc, fun hc => by simp at hc⟩
  · have e : A + (Chg.mk 2 D e0 0 last e0 d.nodes.length).data.size = A := rfl
    rw [e] at t
    exact t
  · have := (h.prot.rng s _ hks).2
    simp only at this; omega
  · have := (h.sc x hx).tgt hx2
    simp only; omega
  · have ht' : t = d.nodes.length := by simp only at ht; omega
    subst ht'
    have hnd : nd' = ⟨kind, e0, e0⟩ := by
      have : (d.nodes ++ [(⟨kind, e0, e0⟩ : Nd)])[d.nodes.length]? = some nd' := hnd'
      simpa using this.symm
    subst hnd
    exact (bfold_none (j := ((d.nodes.length : Nat) : Int)) (L := d.pending) (fun c hc hcj => by
      have := (h.sc c hc).node
      omega) e0).1
theorem keep_byte (h : Inv1 A M data d) {p : ByteArray} (h1 : p ≠ FA) (h2 : p ≠ FF) (hf : (d.findF p 2).1 = 0) {c : Chg} (hn : c.node = (d.findF p 2).2.2) (hw : c.what = 0 ∨ c.what = 1) (hfit : c.fits (d.nd (d.findF p 2).2.2).seen) :
    Inv1 (A + c.data.size) (M + 1) data (doF d c (d.findF p 2).2.2.toNat (d.nd (d.findF p 2).2.2)).2 := by
  have hlt := find_lt h.good p 2
  obtain ⟨names, hpn, hw0, he, hge, hkind⟩ := find_res hf
  rw [he] at hn hfit hlt ⊢
  have hne : names ≠ [] := fun hnil => by
    have hk := hkind (by decide)
    rw [hnil] at hk
    have e : (d.walkF []).2.2 = 0 := rfl
    rw [e, h.k0] at hk
    exact absurd hk (by decide)
  obtain ⟨s1, s2⟩ := node_safe h.pseen hpn hw0 hne h1 h2 hge
  have hi := nd_at d hge hlt
  have nw : c.what ≠ 2 ∧ c.what ≠ 3 ∧ c.what ≠ 4 := by rcases hw with hw | hw <;> rw [hw] <;> decide
  refine h.do' (c := c) (i := (d.walkF names).2.2.toNat) hi (by rw [hn]; omega) ⟨by rw [hn]; omega, fun _ => by rw [hn]; exact s1, fun hc => ?_, fun hc => absurd hc nw.2.2, fun hc => absurd hc nw.1⟩ (fun hc => absurd hc nw.2.2) (fun hc => absurd hc nw.1) (fun _ => ⟨_, by rw [s2]; congr 1; omega⟩) hfit
  rcases hc with hc | hc | hc
  · exact absurd hc nw.1
  · exact absurd hc nw.2.1
  · exact absurd hc nw.2.2
theorem keep_remove (h : Inv1 A M data d) {p : ByteArray} (h0 : p ≠ E0) (h1 : p ≠ FA) (h2 : p ≠ FF) (hf : (d.findF p 0).1 = 0) : Inv1 A (M + 1) data (removeF d p).2 := by
  unfold removeF
  rw [if_neg (by simp [hf])]
  obtain ⟨names, hpn, hw0, he, hge, _⟩ := find_res hf
  rw [he]
  have hne : names ≠ [] := fun hnil => h0 (parse_nil (hnil ▸ hpn))
  obtain ⟨q1, q2⟩ := walk_dir h.good hne hw0
  have hs := at_safe h.pseen hpn hw0 hne h1 h2
  obtain ⟨⟨D, last⟩, hat⟩ : ∃ a : Slt, a = (d.walkF names).2.1 := ⟨_, rfl⟩
  rw [← hat] at q1 q2 hs ⊢
  simp only at q1 q2 ⊢
  have t := h.do' (c := ⟨3, D, e0, 0, last, e0, 0⟩) (i := D.toNat) (nd_at d q1 q2) (show D = _ by omega) ⟨⟨q1, q2⟩, fun hc => by rcases hc with hc | hc <;> simp at hc, fun _ => hs, fun hc => by simp at hc, fun hc => by simp at hc⟩
    (fun hc => by simp at hc) (fun hc => by simp at hc) (fun hc => by rcases hc with hc | hc <;> simp at hc) ⟨fun hc => by simp at hc, fun hc => by simp at hc⟩
  have e : A + (Chg.mk 3 D e0 0 last e0 0).data.size = A := rfl
  rw [e] at t
  exact t
theorem path_one (x : ByteArray) : pathF [x] = x := by
  apply ba_ext
  simp [pathF, joinL]
theorem keep_rename (h : Inv1 A M data d) {p q : ByteArray} (h1 : p ≠ FA) (h2 : p ≠ FF) (h3 : q ≠ FA) (h4 : q ≠ FF) (hm : Moved d p q d') : Inv1 A (M + 1) data d' := by
  obtain ⟨a, c, hpa, hqc, hp0, hq0, hlen, hpath, hw, hge, hwc, rfl⟩ := hm.ex
  have hna : a ≠ [] := fun hnil => hp0 (parse_nil (hnil ▸ hpa))
  have hnc : c ≠ [] := fun hnil => hq0 (parse_nil (hnil ▸ hqc))
  have hs := at_safe h.pseen hpa hw hna h1 h2
  obtain ⟨q1, q2⟩ := walk_dir h.good hna hw
  obtain ⟨s1, s2⟩ := node_safe h.pseen hpa hw hna h1 h2 hge
  obtain ⟨D, pre, last, e1, e2, e3, e4⟩ := walk_res hw hna
  obtain ⟨D', pre', last', f1, f2, f3, f4⟩ := walk_res hwc hnc
  rw [e3] at hs q1 q2 s2 ⊢
  rw [f3]
  simp only at q1 q2 ⊢
  have hlp : pre.length = pre'.length := by
    rw [e1, f1] at hlen
    simpa using hlen
  have hdst : (D, last') ≠ sA ∧ (D, last') ≠ sF := by
    refine ⟨fun he => ?_, fun he => ?_⟩
    · injection he with r1 r2
      have := rt_zero h.pseen e2 r1
      rw [this] at hlp
      have hp' : pre' = [] := List.eq_nil_of_length_eq_zero hlp.symm
      rw [hp', r2] at f1
      exact h3 (parse_inj hqc (f1 ▸ parse_FA))
    · injection he with r1 r2
      have hpre := rt_one h.pseen e2 r1
      rw [hpre] at hlp
      obtain ⟨y, hy⟩ : ∃ y, pre' = [y] := by
        match pre', hlp with
        | [y], _ => exact ⟨y, rfl⟩
      rw [hpre] at e1
      rw [hy, r2] at f1
      rw [e1, f1] at hpath
      have t1 : ([FA] ++ [last]).take (([FA] ++ [last]).length - 1) = [FA] := rfl
      have t2 : ([y] ++ [nF]).take (([y] ++ [nF]).length - 1) = [y] := rfl
      rw [t1, t2, path_one, path_one] at hpath
      rw [← hpath] at f1
      exact h4 (parse_inj hqc (f1 ▸ parse_FF))
  have t := h.do' (c := ⟨4, D, e0, 0, last, last', 0⟩) (i := D.toNat) (nd_at d q1 q2) (show D = _ by omega) ⟨⟨q1, q2⟩, fun hc => by rcases hc with hc | hc <;> simp at hc, fun _ => hs, fun _ => hdst, fun hc => by simp at hc⟩
    (fun _ => by show d.seen (D, last) ≠ none; rw [s2]; simp) (fun hc => by simp at hc) (fun hc => by rcases hc with hc | hc <;> simp at hc) ⟨fun hc => by simp at hc, fun hc => by simp at hc⟩
  have e : A + (Chg.mk 4 D e0 0 last last' 0).data.size = A := rfl
  rw [e] at t
  exact t
theorem keep_sync (h : Inv1 A M data d) (p : ByteArray) (kind : Int) : Inv1 A M data (syncF d p kind).2 := by
  unfold syncF
  split
  · exact h
  rename_i hf
  have hf0 : (d.findF p kind).1 = 0 := by simpa using hf
  have hlt := find_lt h.good p kind
  obtain ⟨names, hpn, hw0, he, hge, _⟩ := find_res hf0
  rw [he] at hlt ⊢
  exact h.settle (nd_at d hge hlt)
end
end Go.Proofs.YtojnickeblbgoaaGreatDoor
