/-
  The exact laws of layer 21, part E: a desk begins.
-/
import Derived.Test.YtiggkhmopnhfaaaDoorDeskD
namespace Go.Proofs.YtiggkhmopnhfaaaDoor
open Go.Lift
set_option linter.unusedSimpArgs false
set_option maxHeartbeats 2000000

/-- A list of n numbers that may be written. -/
def Shp (w : World) (p : Value) (n : Nat) : Prop := ∃ els, els.length = n ∧ SlW 1 w p els
theorem Shp.sto {w : World} {p : Value} {n : Nat} (h : Shp w p n) (b o : Nat) (v : Value) : Shp (sto w b o [v]) p n := by
  obtain ⟨els, hl, ⟨h1, a, c, rfl, h2, h3⟩, hw⟩ := h
  rcases h3 with h3 | ⟨b', o', l, rfl, h4, h5, h6⟩
  · refine ⟨els, hl, ⟨h1, a, c, rfl, h2, .inl h3⟩, fun b' hb hc => ?_⟩
    rw [wr_sto]; exact hw b' hb hc
  · have hb' : ∃ l', bk (Go.Lift.sto w b o [v]) b' = some l' ∧ l'.length = l.length := by
      rw [bk_sto]
      split
      · rename_i he
        subst he
        rw [h4]
        exact ⟨_, rfl, length_setL _ _ _⟩
      · exact ⟨l, h4, rfl⟩
    obtain ⟨l', e1, e2⟩ := hb'
    refine ⟨((l'.drop o').take els.length).map fun x => [x], ?_, ⟨?_, some ⟨b', o', none⟩, c, ?_, ?_, .inr ⟨b', o', l', rfl, e1, by omega, ?_⟩⟩, fun d hd hc => ?_⟩
    · simp; omega
    · intro e he
      obtain ⟨x, _, rfl⟩ := List.mem_map.1 he
      rfl
    · congr 1
      simp; omega
    · simp; omega
    · have : ((l'.drop o').take els.length).length = els.length := by simp; omega
      rw [List.length_map, this, Nat.mul_one]
      generalize (l'.drop o').take els.length = z
      clear this
      induction z with
      | nil => rfl
      | cons x z ih => simp only [List.map_cons, List.flatten_cons, List.singleton_append, ← ih]
    · rw [wr_sto]; exact hw d hd hc
theorem Shp.fr {w w' : World} {p : Value} {n : Nat} {G : Nat → Prop} (h : Shp w p n) (f : Fr G w w') (hd : ∀ c, inB p c → ¬ G c) : Shp w' p n := by
  obtain ⟨els, hl, hs⟩ := h
  exact ⟨els, hl, hs.fr f hd⟩
theorem Shp.lenL {w : World} {p : Value} {n : Nat} (h : Shp w p n) : lenL p = some (.int .i64 n) := by
  obtain ⟨els, hl, hs⟩ := h
  rw [hs.1.lenL, hl]

/-- A definition whose nodes are empty. -/
def Clu.bare (C : Clu) : Clu := { C with nodes := List.replicate C.nodes.length (0, []) }
theorem bare_fits {C : Clu} (hF : Fits C) : Fits C.bare := by
  refine ⟨?_, ?_⟩
  · simp [Clu.bare]; exact hF.count
  · have : (C.bare.nodes.map (·.2.length)).sum = 0 := by
      simp only [Clu.bare]
      generalize C.nodes.length = n
      induction n with
      | zero => rfl
      | succ n _ => simp [List.replicate_succ]
    omega
theorem bare_elN (n : Nat) : elN (List.replicate n ((0 : Int), ([] : List Int))) (List.replicate n (Value.slice none 0 0)) = List.replicate n [.int .i64 0, .slice none 0 0] := by
  induction n with
  | zero => rfl
  | succ n ih =>
    simp only [List.replicate_succ]
    show [Value.int .i64 0, Value.slice none 0 0] :: elN _ _ = _
    rw [ih]

section
variable {w0 w w' : World} {D o : Nat} {l : List Value}
theorem begins_run {C : Clu} {nv : Value} {pvs : List Value} (hN : Nodes w nv C.nodes pvs) (hF : Fits C) (hG : bk w 0 = some greatV) (hw0 : Fr (fun _ => False) w0 w) (hb : bk w D = some l) (hw : wr w D = true) (hD : w0.heap.size ≤ D) (h00 : 0 < w0.heap.size) (hlx : o + 3 < l.length) (hls : l[o + 2]? = some (.slice none 0 0)) :
    Run (F.granarylaw21_desk_begins (.pointer (some ⟨D, o, none⟩)) (C.val nv)) w fun r w' => r = .bool true ∧ Fr (fun c => c = D) w w' ∧ ∃ st ov rv F', (∀ c, F' c → w.heap.size ≤ c) ∧ (isCell ov = true ∧ isCell rv = true) ∧ ∀ rows wt, (checkF C = 0 → rows = rowsF C ∧ wt = C.getwait) → DK rows wt 0 w0 w' D o ((l.set o ov).set (o + 1) rv) st [] ov rv (.slice none 0 0) F' := by
  unfold F.granarylaw21_desk_begins
  have hnv := hN.sl.isCell
  have hDl := bk_lt hb
  simp [-ldA_ptr, Clu.val]
  refine Run_new fun b1 w1 hb1 _ f1 hb1le => ?_
  have hb1' : bk w1 b1 = some (C.cells nv) := by simpa using hb1
  simp [-ldA_ptr, Clu.ldA6 hb1']
  refine (cluster_run (hN.fr0 f1) hF).mono ?_
  rintro _ w2 ⟨f2, nv', pvs', rfl, hN2, hs2, hnew2, hp2⟩
  have f02 : Fr (fun _ => False) w w2 := f1.trans f2 fun _ _ => id
  have hnv' := hs2.1.isCell
  have hval : C.val nv' = .agg (C.cells nv').toArray := rfl
  simp [-ldA_ptr, hval]
  refine Run_newSt (cs := (C.cells nv').toArray) rfl rfl (by simp [Clu.cells, hnv']) fun e w3 he hew f3 hele => ?_
  have he3 : bk w3 e = some (C.cells nv') := by simpa using he
  have s1 := f1.size
  have s2 := f2.size
  have s3 := f3.size
  have he3l := bk_lt he3
  simp [-ldA_ptr, Clu.ldA6 he3]
  refine (new_run (hN2.fr0 f3) hF).mono ?_
  rintro a4 w4 ⟨f4, hx1, hx2⟩
  have hb14 : bk w4 b1 = some (C.cells nv) := f4.bk_some (f3.bk_some (f2.bk_some hb1' id) id) id
  have f04 : Fr (fun _ => False) w w4 := (f02.trans f3 fun _ _ => id).trans f4 fun _ _ => id
  have s4 := f4.size
  obtain ⟨ov, rfl, hoc, hown⟩ : ∃ ov, a4 = .tuple #[ov, .int .i64 (checkF C)] ∧ isCell ov = true ∧ ((checkF C ≠ 0 ∧ ov = .pointer none) ∨ (checkF C = 0 ∧ ∃ b v tag, ov = Ptr b ∧ Exp w4 b (XS.new C) v tag ∧ ∀ c, tag c ≠ 0 → w3.heap.size ≤ c)) := by
    by_cases hc : checkF C = 0
    · obtain ⟨b, v, tag, rfl, he, ht⟩ := hx2 hc
      exact ⟨Ptr b, by rw [hc], isCell_pointer _, .inr ⟨hc, b, v, tag, rfl, he, ht⟩⟩
    · exact ⟨.pointer none, hx1 hc, isCell_pointer _, .inl ⟨hc, rfl⟩⟩
  simp [-ldA_ptr, Clu.ldA6 hb14]
  refine (new21_run (hN.fr0 f04) hF (f04.bk_some hG id)).mono ?_
  rintro a5 w5 ⟨f5, hy1, hy2⟩
  obtain ⟨rv, rfl, hrc, href⟩ : ∃ rv, a5 = .tuple #[rv, .int .i64 (checkF C)] ∧ isCell rv = true ∧ ((checkF C ≠ 0 ∧ rv = .pointer none) ∨ (checkF C = 0 ∧ ∃ b v ro foot, rv = Ptr b ∧ RM w5 b (RS.new C) v ro foot ∧ ∀ c, foot c → w4.heap.size ≤ c ∧ c < w5.heap.size)) := by
    by_cases hc : checkF C = 0
    · obtain ⟨b, v, ro, foot, rfl, he, ht⟩ := hy2 hc
      exact ⟨Ptr b, by rw [hc], isCell_pointer _, .inr ⟨hc, b, v, ro, foot, rfl, he, ht⟩⟩
    · exact ⟨.pointer none, hy1 hc, isCell_pointer _, .inl ⟨hc, rfl⟩⟩
  have s5 := f5.size
  have f35 : Fr (fun _ => False) w3 w5 := f4.trans f5 fun _ _ => id
  have f05 : Fr (fun _ => False) w w5 := f04.trans f5 fun _ _ => id
  have he5 : bk w5 e = some (C.cells nv') := f35.bk_some he3 id
  have hdx5 : ∃ st, ∀ rows wt, (checkF C = 0 → rows = rowsF C ∧ wt = C.getwait) → DX rows wt 0 w5 (fun c => w3.heap.size ≤ c ∧ c < w5.heap.size) st ov rv := by
    rcases hown with ⟨hc, rfl⟩ | ⟨hc, b, v, tag, rfl, hE, ht⟩
    · rcases href with ⟨_, rfl⟩ | ⟨hc', _⟩
      · exact ⟨none, fun rows wt _ => ⟨rfl, rfl⟩⟩
      · exact absurd hc' hc
    · rcases href with ⟨hc', _⟩ | ⟨_, b', v', ro, foot, rfl, hR, hf⟩
      · exact absurd hc hc'
      · refine ⟨some (XS.new C, RS.new C), fun rows wt hrw => ?_⟩
        obtain ⟨rfl, rfl⟩ := hrw hc
        have hbd := hE.x0.bound
        refine ⟨b, v, tag, b', v', ro, foot, rfl, rfl, hE.fr f5 fun _ h => h.elim, XOk.new hc, Bis.new C, hR, fun c hc => ⟨⟨ht c hc, by have := hbd c hc; omega⟩, fun hfc => by have := hf c hfc; have := hbd c hc; omega⟩, fun c hc => by have := hf c hc; omega⟩
  have sv5 : SlW 2 w5 nv' (elN C.nodes pvs') := (hs2.fr f3 fun _ _ => id).fr f35 fun _ _ => id
  have hlen2 : pvs'.length = C.nodes.length := hN2.len
  have hsh5 : ∀ (j : Nat) (p : Value), pvs'[j]? = some p → ∃ m, Shp w5 p m ∧ (m ≤ 1048576) ∧ ∀ c, inB p c → (w1.heap.size ≤ c ∧ c < w2.heap.size) ∧ ¬ inB nv' c := by
    intro j p hp
    have hj := (List.getElem?_eq_some_iff.1 hp).1
    have hl : (C.nodes.map (·.2))[j]? = some (C.nodes[j]'(by omega)).2 := by
      rw [List.getElem?_map, List.getElem?_eq_getElem (by omega)]; rfl
    obtain ⟨h1, h2, h3⟩ := hp2 j p _ hp hl
    have hle : (C.nodes[j]'(by omega)).2.length ≤ (C.nodes.map (·.2.length)).sum := mem_le_sum (List.mem_map.2 ⟨_, List.getElem_mem _, rfl⟩)
    have := hF.parts
    exact ⟨_, ⟨_, elI_len _, (h1.fr f3 fun _ _ => id).fr f35 fun _ _ => id⟩, by omega, fun c hc => ⟨h2 c hc, h3 c hc⟩⟩
  have helN : (elN C.nodes pvs').length = C.nodes.length := by simp [elN, hlen2]
  have hcount := hF.count
  obtain ⟨Q1, q1⟩ : ∃ Q1 : Out → World → Prop, ∀ a w', Q1 a w' ↔ ∃ i, a = .exit 0 [i] ∧ Fr (fun c => w1.heap.size ≤ c ∧ c < w2.heap.size) w5 w' ∧ SlW 2 w' nv' (List.replicate C.nodes.length [.int .i64 0, .slice none 0 0]) := ⟨_, fun _ _ => Iff.rfl⟩
  simp
  refine Run.mono (Q := Q1) (Run_for C.nodes.length (fun i s w' => s = [.int .i64 i] ∧ Fr (fun c => w1.heap.size ≤ c ∧ c < w2.heap.size) w5 w' ∧ SlW 2 w' nv' (List.replicate i [.int .i64 0, .slice none 0 0] ++ (elN C.nodes pvs').drop i) ∧
      ∀ (j : Nat) (p : Value), pvs'[j]? = some p → ∃ m, Shp w' p m ∧ (m ≤ 1048576) ∧ ∀ c, inB p c → (w1.heap.size ≤ c ∧ c < w2.heap.size) ∧ ¬ inB nv' c)
    ⟨rfl, Fr.refl _ _, by simpa using sv5, hsh5⟩ ?_ ?_) ?_
  · rintro i s w6 hi ⟨rfl, f6, hs6, hsh6⟩
    have he6 : bk w6 e = some (C.cells nv') := f6.bk_some he5 fun h => by omega
    have ws := wrap_succ (n := i) (by omega)
    have hl6 := hs6.1.lenL
    have hll : (List.replicate i [Value.int .i64 0, Value.slice none 0 0] ++ (elN C.nodes pvs').drop i).length = C.nodes.length := by simp [helN]; omega
    rw [hll] at hl6
    have hi' : (i : Int) < C.nodes.length := by omega
    have ep : pvs'[i]? = some (pvs'[i]'(by omega)) := List.getElem?_eq_getElem _
    generalize pvs'[i]'(by omega) = p at ep
    have en : C.nodes[i]? = some (C.nodes[i]'(by omega)) := List.getElem?_eq_getElem _
    generalize C.nodes[i]'(by omega) = nd at en
    have eel : (List.replicate i [Value.int .i64 0, Value.slice none 0 0] ++ (elN C.nodes pvs').drop i)[i]? = some [.int .i64 nd.1, p] := by
      rw [List.getElem?_append_right (by simp)]
      simp only [List.length_replicate, Nat.sub_self, List.getElem?_drop, Nat.add_zero]
      simp only [elN, List.getElem?_zipWith, en, ep]
    obtain ⟨m, hm, hm2, hpb⟩ := hsh6 i p ep
    have hcel : (C.cells nv')[22]? = some nv' := rfl
    simp [-ldA_ptr, he6, hcel, hl6, hi, hi']
    obtain ⟨Q2, q2⟩ : ∃ Q2 : Out → World → Prop, ∀ a w', Q2 a w' ↔ ∃ k, a = .exit 2 [k] ∧ Fr (fun c => w1.heap.size ≤ c ∧ c < w2.heap.size) w5 w' ∧ SlW 2 w' nv' (List.replicate i [.int .i64 0, .slice none 0 0] ++ (elN C.nodes pvs').drop i) ∧
      ∀ (j : Nat) (p : Value), pvs'[j]? = some p → ∃ m, Shp w' p m ∧ (m ≤ 1048576) ∧ ∀ c, inB p c → (w1.heap.size ≤ c ∧ c < w2.heap.size) ∧ ¬ inB nv' c := ⟨_, fun _ _ => Iff.rfl⟩
    refine Run.mono (Q := Q2) (Run_for m (fun k s w' => s = [.int .i64 k] ∧ Fr (fun c => w1.heap.size ≤ c ∧ c < w2.heap.size) w5 w' ∧ SlW 2 w' nv' (List.replicate i [.int .i64 0, .slice none 0 0] ++ (elN C.nodes pvs').drop i) ∧ Shp w' p m ∧
      ∀ (j : Nat) (p : Value), pvs'[j]? = some p → ∃ m, Shp w' p m ∧ (m ≤ 1048576) ∧ ∀ c, inB p c → (w1.heap.size ≤ c ∧ c < w2.heap.size) ∧ ¬ inB nv' c) ⟨rfl, f6, hs6, hm, hsh6⟩ ?_ ?_) ?_
    · rintro k s w7 hk ⟨rfl, f7, hs7, hm7, hsh7⟩
      have he7 : bk w7 e = some (C.cells nv') := f7.bk_some he5 fun h => by omega
      obtain ⟨u, u1, u2⟩ := hs7.1.rdF eel .i64
      obtain ⟨z, z1, z2⟩ := u2 1 (by decide)
      have z2' : ld1 z w7 = some p := z2
      have hpl := hm7.lenL
      obtain ⟨els, hel, hes⟩ := hm7
      have ek : els[k]? = some (els[k]'(by omega)) := List.getElem?_eq_getElem _
      obtain ⟨c, q, c1, c2, c3, c4, c5⟩ := hes.put ek .i64
      have wk := wrap_succ (n := k) (by omega)
      have hk' : (k : Int) < m := by omega
      have hok : okAt w7 c q 1 := c4
      have hcp := hpb c c2
      simp [-ldA_ptr, he7, hcel, u1, z1, z2', hpl, hk, hk', c1, hok, wk]
      refine ⟨f7.sto (.inl hcp.1) _ _, hs7.fr ((Fr.refl (fun d => d = c) w7).sto (.inl rfl) _ _) fun d hd he => hcp.2 (he ▸ hd), Shp.sto ⟨els, hel, hes⟩ _ _ _, fun j p' hp' => ?_⟩
      obtain ⟨m', g1, g2, g3⟩ := hsh7 j p' hp'
      exact ⟨m', g1.sto _ _ _, g2, g3⟩
    · rintro s w7 ⟨rfl, f7, hs7, hm7, hsh7⟩
      have he7 : bk w7 e = some (C.cells nv') := f7.bk_some he5 fun h => by omega
      obtain ⟨u, u1, u2⟩ := hs7.1.rdF eel .i64
      obtain ⟨z, z1, z2⟩ := u2 1 (by decide)
      have z2' : ld1 z w7 = some p := z2
      have hpl := hm7.lenL
      simp [-ldA_ptr, he7, hcel, u1, z1, z2', hpl]
      exact (q2 _ _).2 ⟨_, rfl, f7, hs7, hsh7⟩
    · rintro a w7 ha
      obtain ⟨k, rfl, f7, hs7, hsh7⟩ := (q2 _ _).1 ha
      have he7 : bk w7 e = some (C.cells nv') := f7.bk_some he5 fun h => by omega
      obtain ⟨c, q, c1, c2, c3, c4, c5⟩ := hs7.put eel .i64
      obtain ⟨c6, c7⟩ := c5 0 [.int .i64 0, .slice none 0 0] (by simp)
      have hcn := hnew2 c c2
      have hok : okAt w7 c q 2 := c4
      simp [-ldA_ptr, he7, hcel, buildV, c1, hok, ws]
      have eset : (List.replicate i [Value.int .i64 0, Value.slice none 0 0] ++ (elN C.nodes pvs').drop i).set i (setL [Value.int .i64 nd.1, p] 0 [.int .i64 0, .slice none 0 0]) = List.replicate (i + 1) [Value.int .i64 0, Value.slice none 0 0] ++ (elN C.nodes pvs').drop (i + 1) := by
        rw [List.set_append_right _ _ (by simp)]
        simp only [List.length_replicate, Nat.sub_self]
        rw [List.drop_eq_getElem_cons (by rw [helN]; omega), List.set_cons_zero, List.replicate_succ', List.append_assoc]
        rfl
      rw [eset] at c7
      refine ⟨f7.sto (.inl hcn) _ _, c7, fun j p' hp' => ?_⟩
      obtain ⟨m', ⟨els', ge, gs⟩, g2, g3⟩ := hsh7 j p' hp'
      exact ⟨m', ⟨els', ge, gs.fr ((Fr.refl (fun d => d = c) w7).sto (.inl rfl) _ _) fun d hd he => (g3 d hd).2 (he ▸ c2)⟩, g2, g3⟩
  · rintro s w6 ⟨rfl, f6, hs6, hsh6⟩
    have he6 : bk w6 e = some (C.cells nv') := f6.bk_some he5 fun h => by omega
    have hcel : (C.cells nv')[22]? = some nv' := rfl
    rw [List.drop_eq_nil_of_le (by omega), List.append_nil] at hs6
    have hl6 := hs6.1.lenL
    simp only [List.length_replicate] at hl6
    simp [-ldA_ptr, he6, hcel, hl6]
    exact (q1 _ _).2 ⟨_, rfl, f6, hs6⟩
  rintro a w6 ha
  obtain ⟨i, rfl, f6, hs6⟩ := (q1 _ _).1 ha
  have s6 := f6.size
  have he6 : bk w6 e = some (C.cells nv') := f6.bk_some he5 fun h => by omega
  have hD6 : bk w6 D = some l := f6.bk_some (f05.bk_some hb id) fun h => by omega
  have hDw6 : wr w6 D = true := by rw [f6.wr (bk_lt (f05.bk_some hb id)) (fun h => by omega), f05.wr hDl id]; exact hw
  have heD : e ≠ D := by omega
  have hok0 : o + 1 ≤ l.length := by omega
  have hok1 : o + 1 + 1 ≤ l.length := by omega
  simp [-ldA_ptr, hD6, hDw6, cells_isCell hoc, cells_isCell hrc, hoc, hrc, hok0, hok1]
  have hb7 : bk (sto (sto w6 D o [ov]) D (o + 1) [rv]) D = some ((l.set o ov).set (o + 1) rv) := by simp [hD6]
  have hw7 : wr (sto (sto w6 D o [ov]) D (o + 1) [rv]) D = true := by simp [hDw6]
  have g7 : Fr (fun c => c = D) w6 (sto (sto w6 D o [ov]) D (o + 1) [rv]) := ((Fr.refl (fun c => c = D) w6).sto (.inl rfl) _ _).sto (.inl rfl) _ _
  generalize sto (sto w6 D o [ov]) D (o + 1) [rv] = w7 at *
  have he7 : bk w7 e = some (C.cells nv') := g7.bk_some he6 heD
  have hs7 : SlW 2 w7 nv' (List.replicate C.nodes.length [.int .i64 0, .slice none 0 0]) := hs6.fr g7 fun c hc hd => by have := hnew2 c hc; omega
  have hN7 : Nodes w7 nv' C.bare.nodes (List.replicate C.nodes.length (.slice none 0 0)) := by
    refine ⟨by simp [Clu.bare], ?_, fun j nd p hnd hp => ?_⟩
    · show Sl 2 w7 nv' (elN (List.replicate C.nodes.length (0, [])) _)
      rw [bare_elN]; exact hs7.1
    · have e1 : nd = (0, []) := by
        have := List.mem_of_getElem? hnd
        exact List.eq_of_mem_replicate this
      have e2 : p = .slice none 0 0 := List.eq_of_mem_replicate (List.mem_of_getElem? hp)
      subst e1; subst e2
      exact Sl.nil 1 w7
  have hbv : C.val nv' = C.bare.val nv' := rfl
  have f07 : Fr (fun c => c = D) w w7 := by
    refine Fr.trans (F := fun c => c = D) (G := fun c => c = D) (w1 := w6) ?_ g7 fun _ _ h => h
    refine (f05.mono fun _ h => h.elim).trans f6 ?_
    rintro c hc ⟨h1, _⟩
    omega
  have hG7 : bk w7 0 = some greatV := by
    exact f07.bk_some hG (by omega)
  simp [-ldA_ptr, Clu.ldA6 he7, hbv]
  refine (new_run hN7 (bare_fits hF)).mono ?_
  rintro a8 w8 ⟨f8, hz1, hz2⟩
  have he8 : bk w8 e = some (C.cells nv') := f8.bk_some he7 id
  obtain ⟨zv, rfl, hzn⟩ : ∃ zv, a8 = .tuple #[zv, .int .i64 (checkF C.bare)] ∧ ((checkF C.bare ≠ 0 ∧ zv = .pointer none) ∨ (checkF C.bare = 0 ∧ ∃ b, zv = Ptr b)) := by
    by_cases hc : checkF C.bare = 0
    · obtain ⟨b, v, tag, rfl, he, ht⟩ := hz2 hc
      exact ⟨Ptr b, by rw [hc], .inr ⟨hc, b, rfl⟩⟩
    · exact ⟨.pointer none, hz1 hc, .inl ⟨hc, rfl⟩⟩
  simp [-ldA_ptr, Clu.ldA6 he8, hbv]
  refine (new21_run (hN7.fr0 f8) (bare_fits hF) (f8.bk_some hG7 id)).mono ?_
  rintro a9 w9 ⟨f9, hu1, hu2⟩
  obtain ⟨uv, rfl, hun⟩ : ∃ uv, a9 = .tuple #[uv, .int .i64 (checkF C.bare)] ∧ ((checkF C.bare ≠ 0 ∧ uv = .pointer none) ∨ (checkF C.bare = 0 ∧ ∃ b, uv = Ptr b)) := by
    by_cases hc : checkF C.bare = 0
    · obtain ⟨b, v, ro, foot, rfl, he, ht⟩ := hu2 hc
      exact ⟨Ptr b, by rw [hc], .inr ⟨hc, b, rfl⟩⟩
    · exact ⟨.pointer none, hu1 hc, .inl ⟨hc, rfl⟩⟩
  have f79 : Fr (fun _ => False) w7 w9 := f8.trans f9 fun _ _ => id
  have s7 := g7.size
  have s9 := f79.size
  obtain ⟨st, hst⟩ := hdx5
  have fin : Fr (fun c => c = D) w w9 ∧ ∃ st ov' rv' F', (∀ c, F' c → w.heap.size ≤ c) ∧ (isCell ov' = true ∧ isCell rv' = true) ∧ ∀ rows wt, (checkF C = 0 → rows = rowsF C ∧ wt = C.getwait) → DK rows wt 0 w0 w9 D o ((l.set o ov').set (o + 1) rv') st [] ov' rv' (.slice none 0 0) F' := by
    refine ⟨f07.trans f79 fun _ _ h => h.elim, st, ov, rv, fun c => w3.heap.size ≤ c ∧ c < w5.heap.size, fun c hc => by have := hc.1; omega, ⟨hoc, hrc⟩, fun rows wt hrw => ?_⟩
    have sw0 := hw0.size
    refine ⟨f79.bk_some hb7 id, by rw [f79.wr (bk_lt hb7) id]; exact hw7, ?_, ?_, ?_, by simp; omega, (((hst rows wt hrw).fr f6 fun c hc hf => by have := hf.1; omega).fr g7 fun c hc hf => by have := hf.1; omega).fr f79 fun _ h => h.elim, fun c hc => ⟨by have := hc.1; omega, by have := hc.2; omega, by have := hc.1; omega⟩, SlW.nil _ _, fun c hc => hc.elim, (by intro m hm; cases hm), by simp, hD⟩
    · rw [List.getElem?_set_ne (by omega), List.getElem?_set_self (by omega)]
    · rw [List.getElem?_set_self (by simp; omega)]
    · rw [List.getElem?_set_ne (by omega), List.getElem?_set_ne (by omega)]; exact hls
  have hp : ∀ b : Nat, eqV (EqSh.one EqK.ptr) (Ptr b) (Value.pointer none) = some (.bool false) := fun b => by simp
  have hpn : eqV (EqSh.one EqK.ptr) (Value.pointer none) (Value.pointer none) = some (.bool true) := by simp
  rcases hown with ⟨hc, rfl⟩ | ⟨hc, b, v, tag, rfl, _⟩
  · rcases href with ⟨_, rfl⟩ | ⟨hc', _⟩
    · rcases hzn with ⟨hd, rfl⟩ | ⟨hd, b2, rfl⟩
      · rcases hun with ⟨_, rfl⟩ | ⟨hd', _⟩
        · simp [num_run]
          simpa using fin
        · exact absurd hd' hd
      · rcases hun with ⟨hd', _⟩ | ⟨_, b3, rfl⟩
        · exact absurd hd hd'
        · simp [num_run]
          simpa using fin
    · exact absurd hc' hc
  · rcases href with ⟨hc', _⟩ | ⟨_, b', v', ro, foot, rfl, _⟩
    · exact absurd hc hc'
    · rcases hzn with ⟨hd, rfl⟩ | ⟨hd, b2, rfl⟩
      · rcases hun with ⟨_, rfl⟩ | ⟨hd', _⟩
        · simp [num_run]
          simpa using fin
        · exact absurd hd' hd
      · rcases hun with ⟨hd', _⟩ | ⟨_, b3, rfl⟩
        · exact absurd hd hd'
        · simp [num_run]
          simpa using fin
end

end Go.Proofs.YtiggkhmopnhfaaaDoor
