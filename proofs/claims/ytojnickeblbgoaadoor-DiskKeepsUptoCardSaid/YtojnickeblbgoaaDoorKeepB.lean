/-
  Layer 1 (disk), DiskKeeps, part B: Remove and Rename of any paths.
-/
import Derived.Test.YtojnickeblbgoaaDoorKeepA
namespace Go.Proofs.YtojnickeblbgoaaDoor
open Go.Lift
set_option linter.unusedSimpArgs false
set_option linter.unusedVariables false
set_option maxHeartbeats 4000000

theorem walkGo_err {d : Dk} : ∀ (names : List ByteArray) (a : Slt) (node : Int), (d.walkGo a node names).1 ≠ 0 → (d.walkGo a node names).2 = ((0, e0), 0)
  | [], a, node, h => absurd rfl h
  | n :: rest, a, node, h => by
    unfold Dk.walkGo at h ⊢
    split
    · rfl
    · rename_i h1
      rw [if_neg h1] at h
      split
      · rfl
      · rename_i h2
        rw [if_neg h2] at h
        split
        · rfl
        · rename_i h3
          rw [if_neg h3] at h
          exact walkGo_err rest _ _ h
theorem walk_err {d : Dk} (names : List ByteArray) (h : (d.walkF names).1 ≠ 0) : (d.walkF names).2 = ((0, e0), 0) := walkGo_err names _ _ h
section
variable {w w' w'' : World} {b : Nat} {d d' : Dk} {v : DV} {tag : Nat → Nat}
theorem remove2_run (h : DA w b d v tag) (g : Good d) {path : ByteArray} (hs : path.size < 4294967281) (hpl : d.pending.length ≤ 16777216) {Q : Value → World → Prop} (qs : ∀ e w', DDid w w' b tag d → Q (.int .i64 e) w') (qd : ∀ e w', path ≠ E0 → (d.findF path 0).1 = 0 → DDid w w' b tag (removeF d path).2 → Q (.int .i64 e) w') :
    Run (F.disk_Disk_Remove (Ptr b) (.string path)) w Q := by
  unfold F.disk_Disk_Remove
  have eE : ByteArray.mk #[] = E0 := rfl
  rw [eE]
  simp only [Run_bind]
  refine (find_run h g hs 0).mono ?_
  rintro _ w1 ⟨rfl, f1⟩
  have hdir := fun hp => find_dir (path := path) (kind := 0) g hp
  unfold removeF at qd
  generalize d.findF path 0 = s at *
  obtain ⟨e, ⟨a1, a2⟩, node⟩ := s
  simp only at hdir qd
  simp [-ldA_ptr, spotV]
  refine spot_mem fun x w2 hx _ f2 _ => ?_
  have f02 : Fr (fun _ => False) w w2 := f1.trans f2 fun _ _ => id
  have h2 := h.fr0 f02
  have hb2 := h2.blk
  have same : ∀ w', Fr (fun _ => False) w w' → DDid w w' b tag d := fun w' f => (h.fr0 f).did (f.mono fun _ h => h.elim)
  by_cases hp : path = E0
  · by_cases k1 : e = 0
    · simp [-ldA_ptr, k1, ba_eq, hp]
      exact qs _ _ (same _ f02)
    · by_cases k2 : e = 12
      · simp [-ldA_ptr, k2, ba_eq, hp]
        exact qs _ _ (same _ f02)
      · simp [-ldA_ptr, k1, k2, ba_eq, hp]
        exact qs _ _ (same _ f02)
  by_cases k1 : e = 0
  · obtain ⟨n1, n2⟩ := hdir hp k1
    obtain ⟨j, hj⟩ : ∃ j : Nat, a1 = j := ⟨a1.toNat, by omega⟩
    have hjl : j < d.nodes.length := by omega
    have hjn : d.nodes[j]? = some d.nodes[j] := List.getElem?_eq_getElem hjl
    generalize d.nodes[j] = nd at hjn
    have hnd : d.nd a1 = nd := by simp [Dk.nd, hj, hjn]
    simp [-ldA_ptr, k1, hx, ba_eq, hp, hb2, Dk.cells]
    refine Run_rngM h2.seen fun w3 r hit f3 hr => ?_
    refine Run_range (k := fun _ _ => _) (fun x => rfl) (fun js x w' => x = [] ∧ Fr (fun c => c = r) w3 w') ⟨rfl, Fr.refl _ _⟩ hit ?_ ?_
    · rintro js i p y wa wb hpi hj' ⟨rfl, fa⟩ hitb fb sb
      have he := hitb.entry hpi
      obtain ⟨⟨pd, pn⟩, pk⟩ := p
      simp [-ldA_ptr, he, slv]
      refine Run_newSt (cs := #[.int .i64 pd, .string pn]) rfl rfl (by simp) fun z wc hz hzw fc hzle => ?_
      have hz' : bk wc z = some [.int .i64 pd, .string pn] := hz
      have hxr : x ≠ r := by
        have := bk_lt hx
        omega
      have hxc : bk wc x = some [.int .i64 a1, .string a2, .int .i64 node] := fc.bk_some (fb.bk_some (fa.bk_some (f3.bk_some hx id) hxr) hxr) id
      by_cases hne : pd = node
      · simp [hz', hxc, hne]
        exact qs _ _ (same _ ((f02.trans (f3.new ((fa.trans fb fun _ _ h => h).trans fc fun _ _ h => h.elim) fun c hc => by omega) fun _ _ => id)))
      · simp [hz', hxc, hne]
        exact ⟨(fa.trans fb fun _ _ h => h).trans fc fun _ _ h => h.elim, hitb.fr fc id id⟩
    · rintro js y wa wb hperm ⟨rfl, fa⟩ hitb fb sb
      have hxr : x ≠ r := by
        have := bk_lt hx
        omega
      have hxb : bk wb x = some [.int .i64 a1, .string a2, .int .i64 node] := fb.bk_some (fa.bk_some (f3.bk_some hx id) hxr) id
      have f0b : Fr (fun _ => False) w wb := (f02.trans (f3.new fa fun c hc => by omega) fun _ _ => id).trans fb fun _ _ => id
      simp [hxb, build_gone]
      refine (do_run (h.fr0 f0b) ⟨3, a1, e0, 0, a2, e0, 0⟩ hjn hj ⟨fun h => by simp at h, fun h => by simp at h⟩ hpl).mono ?_
      rintro r w4 ⟨rfl, h4⟩
      refine qd _ _ hp k1 ?_
      rw [if_neg (by simp [k1]), hnd, show a1.toNat = j by omega]
      exact h4.pre f0b
  · simp [-ldA_ptr, k1, ba_eq, hp]
    exact qs _ _ (same _ f02)
/-- What a Rename that is done did. -/
structure Moved (d : Dk) (p q : ByteArray) (d' : Dk) : Prop where
  ex : ∃ a c, parseF p = some a ∧ parseF q = some c ∧ p ≠ E0 ∧ q ≠ E0 ∧ a.length = c.length ∧ pathF (a.take (a.length - 1)) = pathF (c.take (c.length - 1)) ∧ (d.walkF a).1 = 0 ∧ 0 ≤ (d.walkF a).2.2 ∧ (d.walkF c).1 = 0 ∧
    d' = (doF d ⟨4, (d.walkF a).2.1.1, e0, 0, (d.walkF a).2.1.2, (d.walkF c).2.1.2, 0⟩ (d.walkF a).2.1.1.toNat (d.nd (d.walkF a).2.1.1)).2
theorem rename2_run (h : DA w b d v tag) (g : Good d) (hk0 : (d.nd 0).kind = 1) {p q : ByteArray} (hps : p.size < 4294967281) (hqs : q.size < 4294967281) (hpl : d.pending.length ≤ 16777216) {Q : Value → World → Prop} (qs : ∀ e w', DDid w w' b tag d → Q (.int .i64 e) w') (qd : ∀ e w' d', Moved d p q d' → DDid w w' b tag d' → Q (.int .i64 e) w') :
    Run (F.disk_Disk_Rename (Ptr b) (.string p) (.string q)) w Q := by
  unfold F.disk_Disk_Rename
  have eE : ByteArray.mk #[] = E0 := rfl
  have same : ∀ w', Fr (fun _ => False) w w' → DDid w w' b tag d := fun w' f => (h.fr0 f).did (f.mono fun _ h => h.elim)
  simp only [Run_bind]
  refine ready_run h ?_
  by_cases hd : d.down = true
  · simp [hd]
    exact qs _ _ (same _ (Fr.refl _ _))
  obtain ⟨m, hm⟩ := h.ml
  simp [-ldA_ptr, hd]
  refine (parse_run p hps hm).mono ?_
  rintro _ w2 ⟨nv, rfl, f2, hn⟩
  obtain ⟨m2, hm2⟩ := (h.fr0 f2).ml
  simp [-ldA_ptr]
  refine (parse_run q hqs hm2).mono ?_
  rintro _ w3 ⟨nw, rfl, f3, hn'⟩
  have f03 : Fr (fun _ => False) w w3 := f2.trans f3 fun _ _ => id
  cases hp : parseF p with
  | none =>
    simp [-ldA_ptr, eE]
    exact qs _ _ (same _ f03)
  | some a =>
    cases hq : parseF q with
    | none =>
      simp [-ldA_ptr, eE]
      exact qs _ _ (same _ f03)
    | some c =>
      by_cases hp0 : p = E0
      · simp [-ldA_ptr, eE, ba_eq, hp0]
        exact qs _ _ (same _ f03)
      by_cases hq0 : q = E0
      · simp [-ldA_ptr, eE, ba_eq, hp0, hq0]
        exact qs _ _ (same _ f03)
      obtain ⟨hn1, _⟩ := hn _ hp
      obtain ⟨hn2, _⟩ := hn' _ hq
      obtain ⟨pa1, pa2⟩ := parse_small hp
      obtain ⟨pc1, pc2⟩ := parse_small hq
      have ha0 : a ≠ [] := fun he => hp0 (parse_nil (he ▸ hp))
      have hc0 : c ≠ [] := fun he => hq0 (parse_nil (he ▸ hq))
      have la := List.length_pos_iff.2 ha0
      have lc := List.length_pos_iff.2 hc0
      have hn1' := hn1.fr0 f3
      have fd : Fr (fun _ => False) w3 w3.drew := (Fr.refl (fun _ => False) w3).drew
      have n1d := hn1'.fr0 fd
      have n2d := hn2.fr0 fd
      have l1 := n1d.lenL
      have l2 := n2d.lenL
      rw [List.length_map] at l1 l2
      have wa : IntKind.i64.wrap ((a.length : Int) - 1) = ((a.length - 1 : Nat) : Int) := by rw [wrap_int (by omega) (by omega)]; omega
      have wc : IntKind.i64.wrap ((c.length : Int) - 1) = ((c.length - 1 : Nat) : Int) := by rw [wrap_int (by omega) (by omega)]; omega
      obtain ⟨u1, s1, s2, _⟩ := n1d.take (n := a.length - 1) (by rw [List.length_map]; omega) .i64
      rw [← List.map_take] at s2
      simp [-ldA_ptr, eE, ba_eq, hp0, hq0, l1, l2, wa, s1]
      refine (path2_run s2 (fun x hx => pa1 x (List.mem_of_mem_take hx)) (by rw [List.length_take]; omega)).mono ?_
      rintro _ w4 ⟨rfl, f4⟩
      obtain ⟨u2, t1, t2, _⟩ := (n2d.fr0 f4).take (n := c.length - 1) (by rw [List.length_map]; omega) .i64
      rw [← List.map_take] at t2
      simp [-ldA_ptr, l2, wc, t1]
      refine (path2_run t2 (fun x hx => pc1 x (List.mem_of_mem_take hx)) (by rw [List.length_take]; omega)).mono ?_
      rintro _ w5 ⟨rfl, f5⟩
      have f35 : Fr (fun _ => False) w3 w5 := (fd.trans f4 fun _ _ => id).trans f5 fun _ _ => id
      have f05 : Fr (fun _ => False) w w5 := f03.trans f35 fun _ _ => id
      by_cases hpe : pathF (a.take (a.length - 1)) = pathF (c.take (c.length - 1))
      · by_cases hle : a.length = c.length
        · have l2' : lenL nw = some (.int .i64 c.length) := l2
          have hle' : ((a.length : Nat) : Int) = c.length := by omega
          have hpe' : pathF (List.take (c.length - 1) a) = pathF (List.take (c.length - 1) c) := by rw [← hle]; rw [hle]; rw [hle] at hpe; exact hpe
          simp [-ldA_ptr, ba_eq, hpe, hpe', l1, l2, hle]
          have h5 := h.fr0 f05
          refine (walk_run h5 g (hn1'.fr0 f35) (by omega)).mono ?_
          rintro _ w6 ⟨rfl, f6⟩
          have h6 := h5.fr0 f6
          have f06 : Fr (fun _ => False) w w6 := f05.trans f6 fun _ _ => id
          have hmv : (d.walkF a).1 = 0 → 0 ≤ (d.walkF a).2.2 → (d.walkF c).1 = 0 → Moved d p q (doF d ⟨4, (d.walkF a).2.1.1, e0, 0, (d.walkF a).2.1.2, (d.walkF c).2.1.2, 0⟩ (d.walkF a).2.1.1.toNat (d.nd (d.walkF a).2.1.1)).2 := fun m1 m2 m3 => ⟨a, c, hp, hq, hp0, hq0, hle, hpe, m1, m2, m3, rfl⟩
          have hda := walk_dir g ha0
          have hlta := walk_lt g a
          generalize d.walkF a = s at *
          obtain ⟨e, ⟨a1, a2⟩, node⟩ := s
          simp only at hmv hda hlta
          simp [-ldA_ptr, spotV]
          refine spot_mem fun z6 w7 hz7 _ f7 _ => ?_
          have h7 := h6.fr0 f7
          have f07 : Fr (fun _ => False) w w7 := f06.trans f7 fun _ _ => id
          by_cases k1 : e = 0
          · by_cases k2 : node < 0
            · simp [-ldA_ptr, k1, hz7, k2]
              exact qs _ _ (same _ f07)
            simp [-ldA_ptr, k1, hz7, k2]
            refine (walk_run h7 g (((hn2.fr0 f35).fr0 f6).fr0 f7) (by omega)).mono ?_
            rintro _ w8 ⟨rfl, f8⟩
            have h8 := h7.fr0 f8
            have herr : (d.walkF c).1 ≠ 0 → (d.walkF c).2 = ((0, e0), 0) := walk_err c
            have hltc := walk_lt g c
            generalize d.walkF c = t at *
            obtain ⟨et, ⟨t1', t2'⟩, tnode⟩ := t
            simp only at hmv herr hltc
            simp [-ldA_ptr, spotV]
            refine spot_mem fun z9 w9 hz9 _ f9 _ => ?_
            have h9 := h8.fr0 f9
            have hz79 : bk w9 z6 = some [.int .i64 a1, .string a2, .int .i64 node] := f9.bk_some (f8.bk_some hz7 id) id
            have hl7 : ldA 2 (Ptr z6) w9.drew = some (.agg #[.int .i64 a1, .string a2]) := by rw [ldA_bk (w := w9.drew) (l := [.int .i64 a1, .string a2, .int .i64 node]) hz79 (by simp)]; rfl
            have hl9 : ldA 2 (Ptr z9) w9.drew = some (.agg #[.int .i64 t1', .string t2']) := by rw [ldA_bk (w := w9.drew) (l := [.int .i64 t1', .string t2', .int .i64 tnode]) hz9 (by simp)]; rfl
            have f09 : Fr (fun _ => False) w w9.drew := ((f07.trans f8 fun _ _ => id).trans f9 fun _ _ => id).drew
            have hb9 := h9.blk
            obtain ⟨n1, n2⟩ := hda k1
            have fin : et = 0 → Run (F.disk_Disk_do (Ptr b) (Chg.val ⟨4, a1, e0, 0, a2, t2', 0⟩)) w9.drew Q := by
              intro het
              obtain ⟨j, hj⟩ : ∃ j : Nat, a1 = j := ⟨a1.toNat, by omega⟩
              have hjl : j < d.nodes.length := by omega
              have hjn : d.nodes[j]? = some d.nodes[j] := List.getElem?_eq_getElem hjl
              generalize d.nodes[j] = nd at hjn
              have hnd : d.nd a1 = nd := by simp [Dk.nd, hj, hjn]
              refine (do_run (h.fr0 f09) ⟨4, a1, e0, 0, a2, t2', 0⟩ hjn hj ⟨fun h => by simp at h, fun h => by simp at h⟩ hpl).mono ?_
              rintro _ wz ⟨rfl, hz⟩
              have := hmv k1 (by omega) het
              rw [hnd, show a1.toNat = j by omega] at this
              exact qd _ _ _ this (hz.pre f09)
            obtain ⟨i0, hi0⟩ : ∃ i : Nat, node = i := ⟨node.toNat, by omega⟩
            have hi0l : i0 < d.nodes.length := by omega
            have hin : d.nodes[i0]? = some d.nodes[i0] := List.getElem?_eq_getElem hi0l
            generalize d.nodes[i0] = ni at hin
            obtain ⟨b0, o, ll, i1, t4, i2, q0, _, _, _⟩ := h9.setNode hin
            have i1' : idxA 3 v.nv (.int .i64 node) = some (.pointer (some ⟨b0, o, none⟩)) := by rw [hi0]; exact i1
            by_cases k3 : tnode < 0
            · have het : et = 0 := Classical.byContradiction fun hn => by
                have := herr hn
                simp only [Prod.mk.injEq] at this
                omega
              have k3' : ¬ 0 ≤ tnode := by omega
              simp [-ldA_ptr, hz79, hz9, k3']
              rw [build_move]
              simp only [Run_bindO_some, Run_bind, Run_ret]
              exact fin het
            have k3' : 0 ≤ tnode := by omega
            obtain ⟨j0, hj0⟩ : ∃ i : Nat, tnode = i := ⟨tnode.toNat, by omega⟩
            have hj0l : j0 < d.nodes.length := by omega
            have hjn0 : d.nodes[j0]? = some d.nodes[j0] := List.getElem?_eq_getElem hj0l
            generalize hnj : d.nodes[j0] = nj at hjn0
            obtain ⟨b1, o1, ll1, j1, t41, j2, q1, _, _, _⟩ := h9.setNode hjn0
            have j1' : idxA 3 v.nv (.int .i64 tnode) = some (.pointer (some ⟨b1, o1, none⟩)) := by rw [hj0]; exact j1
            by_cases ks : t1' = a1 ∧ t2' = a2
            · simp [-ldA_ptr, hz79, hz9, k3', hl7, hl9, ba_eq, ks.1, ks.2]
              exact qs _ _ (same _ f09)
            have ks' : (decide (t1' = a1) && decide (t2' = a2)) = false := by simpa using ks
            by_cases k4 : ni.kind = 2
            · by_cases k5 : nj.kind = 2
              · have het : et = 0 := Classical.byContradiction fun hn => by
                  have := herr hn
                  simp only [Prod.mk.injEq] at this
                  have h0 : tnode = 0 := this.2
                  have : j0 = 0 := by omega
                  subst this
                  have : d.nd 0 = nj := by simp [Dk.nd, hjn0]
                  rw [this, k5] at hk0
                  exact absurd hk0 (by decide)
                simp [-ldA_ptr, hz79, hz9, k3', hl7, hl9, ba_eq, ks', hb9, Dk.cells, i1', i2, q0, j1', j2, q1, k4, k5]
                rw [build_move]
                simp only [Run_bindO_some, Run_bind, Run_ret]
                exact fin het
              · simp [-ldA_ptr, hz79, hz9, k3', hl7, hl9, ba_eq, ks', hb9, Dk.cells, i1', i2, q0, j1', j2, q1, k4, k5]
                exact qs _ _ (same _ f09)
            · simp [-ldA_ptr, hz79, hz9, k3', hl7, hl9, ba_eq, ks', hb9, Dk.cells, i1', i2, q0, j1', j2, q1, k4]
              exact qs _ _ (same _ f09)
          · simp [-ldA_ptr, k1]
            exact qs _ _ (same _ f07)
        · have hle' : ¬ ((a.length : Nat) : Int) = c.length := by omega
          simp [-ldA_ptr, ba_eq, hpe, l1, l2, hle, hle']
          exact qs _ _ (same _ f05)
      · simp [-ldA_ptr, ba_eq, hpe]
        exact qs _ _ (same _ f05)
end
end Go.Proofs.YtojnickeblbgoaaDoor
