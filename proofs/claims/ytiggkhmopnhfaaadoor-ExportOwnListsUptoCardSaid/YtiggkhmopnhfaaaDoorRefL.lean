/-
  The document's exporter (granaryref21), part L: New.
-/
import Derived.Test.YtiggkhmopnhfaaaDoorRefK
import Derived.Test.YtiggkhmopnhfaaaDoorExportH
namespace Go.Proofs.YtiggkhmopnhfaaaDoor
open Go.Lift
set_option linter.unusedSimpArgs false
set_option maxHeartbeats 1000000

theorem zone6_at {w : World} {C : Clu} {nv : Value} {pvs : List Value} (hN : Nodes w nv C.nodes pvs) {m : Nat} (hm : m < C.nodes.length) :
    ∃ p z, idxA 2 nv (.int .i64 (m : Nat)) = some p ∧ fieldA 0 p = some z ∧ ∃ k : Int, ld1 z w = some (.int .i64 k) ∧ atHome C m = decide (k = C.home) := by
  have hg : C.nodes[m]? = some C.nodes[m] := List.getElem?_eq_getElem hm
  generalize C.nodes[m] = n at hg
  obtain ⟨p, _, he, _⟩ := hN.get hg
  obtain ⟨u, u1, u2⟩ := hN.sl.rdF he .i64
  obtain ⟨z, z1, z2⟩ := u2 0 (by decide)
  refine ⟨u, z, u1, z1, n.1, z2, ?_⟩
  unfold atHome
  simp [hg]

theorem row21_run {w : World} {C : Clu} {nv : Value} {pvs : List Value} (hN : Nodes w nv C.nodes pvs) (hF : Fits C) (hG : bk w 0 = some greatV) (hc : checkF C = 0) {p : Nat} (hp : p < C.count) :
    Run (F.granaryref21_Row (C.val nv) (.int .i64 p)) w fun x w' => Fr (fun _ => False) w w' ∧ SlW 1 w' x (elI (rowF C p)) ∧ New w w' x := by
  unfold F.granaryref21_Row
  simp [-ldA_ptr, Clu.val]
  refine Run_new fun b w1 hb _ f1 hble => ?_
  have hb1 : bk w1 b = some (C.cells nv) := by simpa using hb
  simp [-ldA_ptr, Clu.ldA6 hb1]
  refine (owners6_run (hN.fr0 f1) hF (f1.bk_some hG id)).mono ?_
  rintro _ w2 ⟨f2, ov, rfl, hov, _⟩
  obtain ⟨o1, o2, o3⟩ := ownersF_ok hc hp
  have f02 : Fr (fun _ => False) w w2 := f1.trans f2 fun _ _ => id
  have hb2 : bk w2 b = some (C.cells nv) := f2.bk_some hb1 id
  have hrow : rowF C p = (ownersF C p).1.filter (atHome C) ++ (ownersF C p).1.filter (fun n => !atHome C n) := rfl
  rw [hrow]
  generalize (ownersF C p).1 = l at *
  have hol := hov.1.lenL
  simp only [elI_len] at hol
  have lenle : ∀ (f : Int → Bool) (i : Nat), ((l.take i).filter f).length ≤ 64 := fun f i => by
    have := List.length_filter_le f (l.take i)
    have : (l.take i).length ≤ l.length := List.length_take_le' i l
    omega
  simp
  -- one loop over the owners: those that f says are appended
  have round : ∀ (f : Int → Bool) (pre : List Int) (i : Nat) (w3 : World) (rv : Value), pre.length ≤ 64 → i < l.length → Fr (fun _ => False) w2 w3 → SlW 1 w3 rv (elI (pre ++ (l.take i).filter f)) → (∀ c, inB rv c → w2.heap.size ≤ c ∧ c < w3.heap.size) →
      ∀ (m : Nat), l[i]? = some (m : Int) → ∀ w4 r, (f m = true → SlW 1 w4 r (elI (pre ++ (l.take i).filter f) ++ [[.int .i64 m]]) ∧ Fr (inB rv) w3 w4 ∧ ∀ c, inB r c → inB rv c ∨ (w3.heap.size ≤ c ∧ c < w4.heap.size)) → (f m = false → w4 = w3.drew ∧ r = rv) →
        Fr (fun _ => False) w2 w4 ∧ SlW 1 w4 r (elI (pre ++ (l.take (i + 1)).filter f)) ∧ ∀ c, inB r c → w2.heap.size ≤ c ∧ c < w4.heap.size := by
    intro f pre i w3 rv hpre hi f3 hs hb m em w4 r h1 h2
    have et : l.take (i + 1) = l.take i ++ [(m : Int)] := by rw [List.take_add_one, em]; rfl
    cases hf : f m with
    | true =>
      obtain ⟨g1, g2, g3⟩ := h1 hf
      have s3 := f3.size
      have s4 := g2.size
      refine ⟨f3.new g2 fun c hc => (hb c hc).1, ?_, fun c hc => ?_⟩
      · rw [et, List.filter_append]
        simp only [List.filter_cons, hf, List.filter_nil, if_true]
        rw [← List.append_assoc, ← elI_app]
        exact g1
      · rcases g3 c hc with h | h
        · have := hb c h; omega
        · omega
    | false =>
      obtain ⟨rfl, rfl⟩ := h2 hf
      refine ⟨f3.drew, ?_, hb⟩
      rw [et, List.filter_append]
      simp only [List.filter_cons, hf, List.filter_nil, if_false, Bool.false_eq_true, List.append_nil]
      exact hs.fr (Fr.refl (fun _ => False) w3).drew fun _ _ => id
  refine Run_for l.length (fun i s w' => ∃ rv, s = [rv, .int .i64 i] ∧ Fr (fun _ => False) w2 w' ∧ SlW 1 w' rv (elI ([] ++ (l.take i).filter (atHome C))) ∧ ∀ c, inB rv c → w2.heap.size ≤ c ∧ c < w'.heap.size) ⟨_, rfl, Fr.refl _ _, SlW.nil _ _, fun c hc => hc.elim⟩ ?_ ?_
  · rintro i s w3 hi ⟨rv, rfl, f3, hs, hbb⟩
    have ei : l[i]? = some l[i] := List.getElem?_eq_getElem hi
    generalize l[i] = n at ei
    obtain ⟨m, rfl, hm⟩ := o3 n (List.mem_of_getElem? ei)
    obtain ⟨a, a1, a2⟩ := (hov.1.fr0 f3).rd1 (elI_some ei) .i64
    have hb3 := f3.bk_some hb2 id
    obtain ⟨u, z, u1, z1, k, z2, hk⟩ := zone6_at ((hN.fr0 f02).fr0 f3) hm
    have wi := wrap_succ (n := i) (by omega)
    have hle := lenle (atHome C) i
    have rd := round (atHome C) [] i w3 rv (by simp) hi f3 hs hbb m ei
    simp [hol, hi, hb3, Clu.cells, a1, a2, u1, z1, z2]
    refine Run_cond (fun hz => ?_) (fun hz => ?_)
    · have hh : atHome C m = true := by rw [hk]; exact hz
      simp [a1, a2]
      refine Run_app1 (k := 1) rfl (hs.fr (Fr.refl (fun _ => False) w3).drew fun _ _ => id) (by decide) rfl (by decide) rfl (by simp; omega) fun r w4 hs4 f4 hin w14 f14 => ?_
      simp [wi]
      have := rd w4 r (fun _ => ⟨hs4, (Fr.refl (fun _ => False) w3).drew.mono (fun _ h => h.elim) |>.trans f4 fun _ _ h => h, hin⟩) (fun h => by rw [hh] at h; cases h)
      simpa using this
    · have hh : atHome C m = false := by rw [hk]; exact hz
      simp [wi]
      have := rd w3.drew rv (fun h => by rw [hh] at h; cases h) (fun _ => ⟨rfl, rfl⟩)
      simpa using this
  · rintro s w3 ⟨rv, rfl, f3, hs, hbb⟩
    rw [List.take_length, List.nil_append] at hs
    simp [hol]
    have hpre := lenle (atHome C) l.length
    rw [List.take_length] at hpre
    refine Run_for l.length (fun i s w' => ∃ rv, s = [rv, .int .i64 i] ∧ Fr (fun _ => False) w2 w' ∧ SlW 1 w' rv (elI (l.filter (atHome C) ++ (l.take i).filter (fun n => !atHome C n))) ∧ ∀ c, inB rv c → w2.heap.size ≤ c ∧ c < w'.heap.size) ⟨_, rfl, f3, by simpa using hs, hbb⟩ ?_ ?_
    · rintro i s w4 hi ⟨rv, rfl, f4, hs4, hbb4⟩
      have ei : l[i]? = some l[i] := List.getElem?_eq_getElem hi
      generalize l[i] = n at ei
      obtain ⟨m, rfl, hm⟩ := o3 n (List.mem_of_getElem? ei)
      obtain ⟨a, a1, a2⟩ := (hov.1.fr0 f4).rd1 (elI_some ei) .i64
      have hb4 := f4.bk_some hb2 id
      obtain ⟨u, z, u1, z1, k, z2, hk⟩ := zone6_at ((hN.fr0 f02).fr0 f4) hm
      have wi := wrap_succ (n := i) (by omega)
      have hle := lenle (fun n => !atHome C n) i
      have rd := round (fun n => !atHome C n) (l.filter (atHome C)) i w4 rv hpre hi f4 hs4 hbb4 m ei
      simp [hol, hi, hb4, Clu.cells, a1, a2, u1, z1, z2]
      refine Run_cond (fun hz => ?_) (fun hz => ?_)
      · have hh : atHome C m = true := by rw [hk]; exact hz
        simp [wi]
        have := rd w4.drew rv (fun h => by simp [hh] at h) (fun _ => ⟨rfl, rfl⟩)
        simpa using this
      · have hh : atHome C m = false := by rw [hk]; exact hz
        simp [a1, a2]
        refine Run_app1 (k := 1) rfl (hs4.fr (Fr.refl (fun _ => False) w4).drew fun _ _ => id) (by decide) rfl (by decide) rfl (by simp; omega) fun r w5 hs5 f5 hin w15 f15 => ?_
        simp [wi]
        have := rd w5 r (fun _ => ⟨hs5, (Fr.refl (fun _ => False) w4).drew.mono (fun _ h => h.elim) |>.trans f5 fun _ _ h => h, hin⟩) (fun h => by simp [hh] at h)
        simpa using this
    · rintro s w4 ⟨rv, rfl, f4, hs4, hbb4⟩
      rw [List.take_length] at hs4
      have s02 := f02.size
      simp [hol]
      exact ⟨f02.trans f4 fun _ _ => id, hs4, fun c hc => by have := hbb4 c hc; omega⟩

noncomputable def RS.new (C : Clu) : RS :=
  { rows := rowsF C, wait := C.getwait, now := 0, job := 0, version := 0, on := false, ended := false, part := 0, left := 0, sent := 0, read := [], of := [], lost := [], lj := 0, lv := 0, lp := [], lm := [] }
theorem new21_run {w : World} {C : Clu} {nv : Value} {pvs : List Value} (hN : Nodes w nv C.nodes pvs) (hF : Fits C) (hG : bk w 0 = some greatV) :
    Run (F.granaryref21_New (C.val nv)) w fun x w' => Fr (fun _ => False) w w' ∧ (checkF C ≠ 0 → x = .tuple #[.pointer none, .int .i64 (checkF C)]) ∧
      (checkF C = 0 → ∃ b v ro foot, x = .tuple #[.pointer (some ⟨b, 0, none⟩), .int .i64 0] ∧ RM w' b (RS.new C) v ro foot ∧ ∀ c, foot c → w.heap.size ≤ c ∧ c < w'.heap.size) := by
  unfold F.granaryref21_New
  simp [-ldA_ptr, Clu.val]
  refine Run_new fun b w1 hb _ f1 hble => ?_
  have hb1 : bk w1 b = some (C.cells nv) := by simpa using hb
  simp [-ldA_ptr, Clu.ldA6 hb1]
  refine (check6_run (hN.fr0 f1) hF (f1.bk_some hG id)).mono ?_
  rintro _ w2 ⟨rfl, f2⟩
  have f02 : Fr (fun _ => False) w w2 := f1.trans f2 fun _ _ => id
  have hb2 : bk w2 b = some (C.cells nv) := f2.bk_some hb1 id
  by_cases hc : checkF C = 0
  case neg =>
    simp [hc]
    exact f02
  simp [-ldA_ptr, hc, hb2, Clu.cells, buildV, fillV_cell]
  refine Run_new fun x w3 hx hxw f3 hxle => ?_
  have f03 : Fr (fun _ => False) w w3 := f02.trans f3 fun _ _ => id
  have hb3 : bk w3 b = some (C.cells nv) := f3.bk_some hb2 id
  have hx3 : bk w3 x = some ((RS.new C).cells ⟨.slice none 0 0, .slice none 0 0, .slice none 0 0, .slice none 0 0, .slice none 0 0, .slice none 0 0⟩) := by simpa [RS.cells, RS.new] using hx
  have hbx : b ≠ x := by have := bk_lt hb2; omega
  have hxl := bk_lt hx3
  obtain ⟨_, hc1, hc2⟩ := checkF_ok hc
  refine Run_for C.count (fun p l w' => l = [.int .i64 p] ∧ Fr (fun _ => False) w w' ∧ w3.heap.size ≤ w'.heap.size ∧ bk w' b = some (C.cells nv) ∧ wr w' x = true ∧
      ∃ rowsV rvs, bk w' x = some ((RS.new C).cells ⟨rowsV, .slice none 0 0, .slice none 0 0, .slice none 0 0, .slice none 0 0, .slice none 0 0⟩) ∧
        rvs.length = p ∧ SlW 1 w' rowsV (rvs.map fun r => [r]) ∧ (∀ c, inB rowsV c → w3.heap.size ≤ c ∧ c < w'.heap.size) ∧
        ∀ (i : Nat) r, rvs[i]? = some r → Ints w' r (rowF C i) ∧ ∀ c, inB r c → w3.heap.size ≤ c ∧ c < w'.heap.size ∧ ¬ inB rowsV c)
    ⟨rfl, f03, Nat.le_refl _, hb3, hxw, .slice none 0 0, [], hx3, rfl, SlW.nil _ _, fun c hc => hc.elim, fun i r hr => by simp at hr⟩ ?_ ?_
  · rintro p l w4 hp ⟨rfl, f4, hsz4, hb4, hxw4, rowsV, rvs, hx4, hrl, hrs, hrb, hrr⟩
    have wsp := wrap_succ (n := p) (by omega)
    have hp' : (p : Int) < C.count := by omega
    simp [-ldA_ptr, Clu.ldA6 hb4]
    refine (parts6_run (hN.fr0 f4) hF).mono ?_
    rintro _ w5 ⟨rfl, f5⟩
    have hb5 : bk w5 b = some (C.cells nv) := f5.bk_some hb4 id
    have hx5 : bk w5 x = _ := f5.bk_some (l := _) hx4 id
    have hxw5 : wr w5 x = true := by rw [f5.wr (bk_lt hx4) id]; exact hxw4
    have f05 : Fr (fun _ => False) w w5 := f4.trans f5 fun _ _ => id
    have dr5 : Fr (fun _ => False) w5 w5.drew := (Fr.refl (fun _ => False) w5).drew
    simp [-ldA_ptr, hp, hp', hx5, RS.cells, Clu.ldA6 hb5]
    refine (row21_run ((hN.fr0 f05).fr0 dr5) hF ((f05.bk_some hG id : bk w5 0 = some greatV)) hc hp).mono ?_
    rintro rv w6 ⟨f6, hrv, hnew⟩
    have f56 : Fr (fun _ => False) w5 w6 := dr5.trans f6 fun _ _ => id
    have f46 : Fr (fun _ => False) w4 w6 := f5.trans f56 fun _ _ => id
    have hx6 : bk w6 x = _ := f56.bk_some (l := _) hx5 id
    have hxw6 : wr w6 x = true := by rw [f56.wr (bk_lt hx5) id]; exact hxw5
    have hb6 : bk w6 b = some (C.cells nv) := f56.bk_some hb5 id
    have hrc := hrv.1.isCell
    have s5 := f5.size
    have s6 := f6.size
    have d5 : w5.drew.heap.size = w5.heap.size := rfl
    refine Run_app1 (k := 1) (cells_isCell hrc ▸ rfl) (hrs.fr f46 fun _ _ => id) (by decide) rfl (by decide) (by rw [cells_isCell hrc]; simp [hrc]) (by simp; omega) fun rv' w7 hs7 f7 hin w17 f17 => ?_
    have e1 : rvs.map (fun r => [r]) ++ [rv.cells.toList] = (rvs ++ [rv]).map fun r => [r] := by rw [cells_isCell hrc]; simp
    rw [e1] at hs7
    have hnx : ¬ inB rowsV x := fun he => by have := hrb x he; omega
    have hnb : ¬ inB rowsV b := fun he => by have := hrb b he; have := bk_lt hb3; omega
    have hx7 : bk w7 x = _ := f7.bk_some (l := _) hx6 hnx
    have hxw7 : wr w7 x = true := by rw [f7.wr (bk_lt hx6) hnx]; exact hxw6
    have hx17 : bk w17 x = _ := f17.bk_some (l := _) hx6 id
    have hb7 : bk w7 b = some (C.cells nv) := f7.bk_some hb6 hnb
    have hrc7 := hs7.1.isCell
    have s7 := f7.size
    simp [hx6, hx7, hxw7, hx17, RS.cells, cells_isCell hrc7, hrc7, wsp]
    have s03 := f03.size
    have hsz8 : (sto w7 x 0 [rv']).heap.size = w7.heap.size := size_sto _ _ _ _
    have g8 : Fr (fun c => c = x) w7 (sto w7 x 0 [rv']) := (Fr.refl (fun c => c = x) w7).sto (.inl rfl) _ _
    have hrv' : ∀ c, inB rv' c → w3.heap.size ≤ c ∧ c < w7.heap.size := fun c hc => by
      rcases hin c hc with h' | h'
      · have := hrb c h'; omega
      · omega
    have f07 : Fr (fun _ => False) w w7 := (f4.trans f46 fun _ _ => id).new f7 fun c hc => by have := hrb c hc; omega
    have hxw0 : w.heap.size ≤ x := by have := f02.size; omega
    refine ⟨f07.sto (.inr hxw0) _ _, by omega, by rw [bk_sto_ne hbx]; exact hb7, rvs ++ [rv], by simp [hrl], hs7.fr g8 fun c hc he => by have := hrv' c hc; omega, hrv', ?_⟩
    · intro i r hr
      by_cases hip : i < p
      · rw [List.getElem?_append_left (by omega)] at hr
        obtain ⟨g1, g2⟩ := hrr i r hr
        refine ⟨((g1.fr0 f46).fr f7 fun c hc => (g2 c hc).2.2).fr g8 fun c hc he => by have := g2 c hc; omega, fun c hc => ?_⟩
        have := g2 c hc
        refine ⟨this.1, by omega, fun hi => ?_⟩
        rcases hin c hi with h' | h'
        · exact this.2.2 h'
        · omega
      · have hip' : i = p := by
          have := (List.getElem?_eq_some_iff.1 hr).1
          simp [hrl] at this
          omega
        subst hip'
        rw [List.getElem?_append_right (by omega), hrl, Nat.sub_self] at hr
        simp at hr
        subst hr
        have hro : ∀ c, inB rv c → ¬ inB rowsV c := fun c hc hi => by have := hnew c hc; have := hrb c hi; omega
        refine ⟨(hrv.1.fr f7 hro).fr g8 fun c hc he => by have := hnew c hc; omega, fun c hc => ?_⟩
        have := hnew c hc
        refine ⟨by omega, by omega, fun hi => ?_⟩
        rcases hin c hi with h' | h'
        · exact hro c hc h'
        · omega
  · rintro l w4 ⟨rfl, f4, hsz4, hb4, hxw4, rowsV, rvs, hx4, hrl, hrs, hrb, hrr⟩
    simp [-ldA_ptr, Clu.ldA6 hb4]
    refine (parts6_run (hN.fr0 f4) hF).mono ?_
    rintro _ w5 ⟨rfl, f5⟩
    have f05 : Fr (fun _ => False) w w5 := f4.trans f5 fun _ _ => id
    have s5 := f5.size
    have s03 := f03.size
    have s02 := f02.size
    simp [hc]
    refine ⟨f05, ⟨rowsV, .slice none 0 0, .slice none 0 0, .slice none 0 0, .slice none 0 0, .slice none 0 0⟩, fun c => inB rowsV c ∨ ∃ (i : Nat) (r : Value), rvs[i]? = some r ∧ inB r c, fun c => w.heap.size ≤ c ∧ c < w5.heap.size,
      ⟨f5.bk_some hx4 id, by rw [f5.wr (bk_lt hx4) id]; exact hxw4, ⟨by omega, by omega⟩, ?_, ⟨rvs, ?_, hrs.1.fr0 f5, ?_⟩, fun c hc => .inl hc, ⟨Sl.nil _ _, fun c hc => hc.elim⟩, ⟨Sl.nil _ _, fun c hc => hc.elim⟩, fun h => by cases h⟩, fun c hc => hc⟩
    · rintro c (hc' | ⟨i, r, hr, hc'⟩)
      · have := hrb c hc'
        exact ⟨⟨by omega, by omega⟩, by omega, by omega⟩
      · have := (hrr i r hr).2 c hc'
        exact ⟨⟨by omega, by omega⟩, by omega, by omega⟩
    · show rvs.length = (rowsF C).length
      rw [hrl, rowsF_len]
    · intro i r row hr hrow
      have e : row = rowF C i := by
        have hlt := (List.getElem?_eq_some_iff.1 hrow).1
        have hlt' : i < C.count := by
          have : i < (rowsF C).length := hlt
          rw [rowsF_len] at this
          exact this
        have : (rowsF C)[i]? = some (rowF C i) := by
          unfold rowsF
          rw [List.getElem?_map, List.getElem?_range hlt']
          rfl
        have h2 : (rowsF C)[i]? = some row := hrow
        rw [this] at h2
        exact (Option.some.inj h2).symm
      rw [e]
      exact ⟨(hrr i r hr).1.fr0 f5, fun c hc => .inr ⟨i, r, hr, hc⟩⟩

end Go.Proofs.YtiggkhmopnhfaaaDoor
