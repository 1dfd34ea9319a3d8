/-
  Layer 21 (export), part Q: ExportWhole: a question goes to an owner of its partition, in the order.
-/
import Derived.Test.YtiggkhmopnhfaaaExportP
namespace Go.Proofs.Ytiggkhmopnhfaaa
open Go.Lift
set_option linter.unusedSimpArgs false

theorem zone_at {w : World} {C : Clu} {nv : Value} {pvs : List Value} (hN : Nodes w nv C.nodes pvs) {m : Nat} (hm : m < C.nodes.length) :
    ∃ p z, idxA 2 nv (.int .i64 (m : Nat)) = some p ∧ fieldA 0 p = some z ∧ ∃ k : Int, ld1 z w = some (.int .i64 k) ∧ atHome C m = decide (k = C.home) := by
  have hg : C.nodes[m]? = some C.nodes[m] := List.getElem?_eq_getElem hm
  generalize C.nodes[m] = n at hg
  obtain ⟨p, _, he, _⟩ := hN.get hg
  obtain ⟨u, u1, u2⟩ := hN.sl.rdF he .i64
  obtain ⟨z, z1, z2⟩ := u2 0 (by decide)
  refine ⟨u, z, u1, z1, n.1, z2, ?_⟩
  unfold atHome
  simp [hg]

theorem asksOwner_run {w : World} {C : Clu} {nv : Value} {pvs : List Value} (hN : Nodes w nv C.nodes pvs) (hF : Fits C) (hc : checkF C = 0) {p : Nat} (hp : p < C.count) {left : Nat} {to : Int} (hl : (rowF C p)[left]? = some to) (id' version prev : Int) :
    Run (F.granarylaw21_asksOwner (C.val nv) (Ms.val ⟨15, 67, to, id', 0, p, version, prev, 0, .string ByteArray.empty, .string ByteArray.empty⟩) (.int .i64 version) (.int .i64 left)) w fun r w' => r = .bool true ∧ Fr (fun _ => False) w w' := by
  unfold F.granarylaw21_asksOwner
  simp [-ldA_ptr, Clu.val]
  refine Run_new fun c w1 hcb _ f1 hcle => ?_
  have hc1 : bk w1 c = some (C.cells nv) := by simpa using hcb
  refine Run_new fun d w2 hd _ f2 hdle => ?_
  have hc2 : bk w2 c = some (C.cells nv) := f2.bk_some hc1 id
  have f02 : Fr (fun _ => False) w w2 := f1.trans f2 fun _ _ => id
  generalize hq : (⟨15, 67, to, id', 0, p, version, prev, 0, .string ByteArray.empty, .string ByteArray.empty⟩ : Ms) = q at *
  have hd2 : bk w2 d = some q.cells := by simpa using hd
  have qs : q.seq = p := by rw [← hq]
  simp [-ldA_ptr, Clu.ldA hc2, hd2, Ms.cells, qs]
  refine (owners_run (hN.fr0 f02) hF (part := (p : Int))).mono ?_
  rintro _ w3 ⟨f3, ov, rfl, hov, _⟩
  obtain ⟨o1, o2, o3⟩ := ownersF_ok hc hp
  have ol := owners_len hc hp
  have f03 : Fr (fun _ => False) w w3 := f02.trans f3 fun _ _ => id
  have hc3 : bk w3 c = some (C.cells nv) := f3.bk_some hc2 id
  have hd3 : bk w3 d = some q.cells := f3.bk_some hd2 id
  have hovl := hov.1.lenL
  simp only [elI_len] at hovl
  have hrow : (rowF C p) = (ownersF C p).1.filter (atHome C) ++ (ownersF C p).1.filter (fun n => !atHome C n) := rfl
  rw [hrow] at hl
  generalize (ownersF C p).1 = l at *
  have ol' : C.replicas = l.length := ol.symm
  simp [-ldA_ptr, num_run, o1, hovl, hc3, Clu.cells, ol']
  have lp : ∀ i : Nat, (l.take i).filter (atHome C) = [] ∨ True := fun _ => .inr trivial
  have lenle : ∀ (f : Int → Bool) (i : Nat), ((l.take i).filter f).length ≤ 64 := fun f i => by
    have := List.length_filter_le f (l.take i)
    have := List.length_take_le i l
    have : (l.take i).length ≤ l.length := List.length_take_le' i l
    omega
  refine Run_for l.length (fun i s w' => s = [.int .i64 ((l.take i).filter (atHome C)).length, .int .i64 i] ∧ Fr (fun _ => False) w3 w') ⟨by simp, Fr.refl _ _⟩ ?_ ?_
  · rintro i s w4 hi ⟨rfl, f4⟩
    have ei : l[i]? = some l[i] := List.getElem?_eq_getElem hi
    generalize l[i] = n at ei
    obtain ⟨m, rfl, hm⟩ := o3 n (List.mem_of_getElem? ei)
    obtain ⟨a, a1, a2⟩ := (hov.1.fr0 f4).rd1 (elI_some ei) .i64
    have hc4 : bk w4 c = some (C.cells nv) := f4.bk_some hc3 id
    obtain ⟨u, z, u1, z1, k, z2, hk⟩ := zone_at ((hN.fr0 f03).fr0 f4) hm
    have wi := wrap_succ (n := i) (by omega)
    have hle := lenle (atHome C) i
    have wl := wrap_succ (n := ((l.take i).filter (atHome C)).length) (by omega)
    have hi' : (i : Int) < l.length := by omega
    have et : l.take (i + 1) = l.take i ++ [(m : Int)] := by rw [List.take_add_one, ei]; rfl
    simp [hovl, hi, hi', hc4, Clu.cells, a1, a2, u1, z1, z2]
    refine Run_cond (fun hz => ?_) (fun hz => ?_)
    · have hh : atHome C m = true := by rw [hk]; exact hz
      simp [wl, wi, et, List.filter_append, hh]
      exact f4.drew
    · have hh : atHome C m = false := by rw [hk]; exact hz
      simp [wl, wi, et, List.filter_append, hh]
      exact f4.drew
  · rintro s w4 ⟨rfl, f4⟩
    rw [List.take_length]
    simp [hovl]
    have hhome := lenle (atHome C) l.length
    rw [List.take_length] at hhome
    generalize hH : (l.filter (atHome C)).length = H at *
    let toF : Nat → Int := fun i => if left < H then (((l.take i).filter (atHome C))[left]?).getD (-1) else (((l.take i).filter fun n => !atHome C n)[left - H]?).getD (-1)
    have toF_eq : ∀ i, toF i = if left < H then (((l.take i).filter (atHome C))[left]?).getD (-1) else (((l.take i).filter fun n => !atHome C n)[left - H]?).getD (-1) := fun _ => rfl
    have hsub : ∀ i, ((l.take i).filter (atHome C)).length ≤ H := fun i => by
      rw [← hH]
      exact ((List.take_sublist i l).filter _).length_le
    refine Run_for l.length (fun i s w' => s = [.int .i64 ((l.take i).filter (atHome C)).length, .int .i64 ((l.take i).filter fun n => !atHome C n).length, .int .i64 (toF i), .int .i64 i] ∧ Fr (fun _ => False) w3 w') ⟨by simp [toF_eq], f4⟩ ?_ ?_
    · rintro i s w5 hi ⟨rfl, f5⟩
      have ei : l[i]? = some l[i] := List.getElem?_eq_getElem hi
      generalize l[i] = n at ei
      obtain ⟨m, rfl, hm⟩ := o3 n (List.mem_of_getElem? ei)
      obtain ⟨a, a1, a2⟩ := (hov.1.fr0 f5).rd1 (elI_some ei) .i64
      have hc5 : bk w5 c = some (C.cells nv) := f5.bk_some hc3 id
      obtain ⟨u, z, u1, z1, k, z2, hk⟩ := zone_at ((hN.fr0 f03).fr0 f5) hm
      have wi := wrap_succ (n := i) (by omega)
      have hle := lenle (atHome C) i
      have hle' := lenle (fun n => !atHome C n) i
      have hi' : (i : Int) < l.length := by omega
      have et : l.take (i + 1) = l.take i ++ [(m : Int)] := by rw [List.take_add_one, ei]; rfl
      have hsub1 := hsub (i + 1)
      have hsubi := hsub i
      simp [hovl, hi, hi', hc5, Clu.cells, a1, a2, u1, z1, z2]
      refine Run_cond (fun hz => ?_) (fun hz => ?_)
      · have hh : atHome C m = true := by rw [hk]; exact hz
        have e1 : (l.take (i + 1)).filter (atHome C) = (l.take i).filter (atHome C) ++ [(m : Int)] := by rw [et]; simp [List.filter_append, hh]
        have e2 : (l.take (i + 1)).filter (fun n => !atHome C n) = (l.take i).filter (fun n => !atHome C n) := by rw [et]; simp [List.filter_append, hh]
        have e3 := toF_eq (i + 1)
        have e4 := toF_eq i
        rw [e1] at hsub1
        rw [e1, e2] at e3
        rw [e1, e2]
        generalize (l.take i).filter (atHome C) = A at *
        generalize (l.take i).filter (fun n => !atHome C n) = B at *
        simp only [List.length_append, List.length_singleton] at hsub1
        have wl := wrap_succ (n := A.length) (by omega)
        simp
        refine Run_cond (fun hx => ?_) (fun hx => ?_)
        · have hx' : A.length = left := by
            have : (A.length : Int) = left := by simpa using hx
            omega
          have e5 : toF (i + 1) = m := by
            rw [e3, if_pos (by omega), ← hx']
            simp
          simp [wl, wi, a1, a2, e5]
          exact f5.drew
        · have hx' : ¬ A.length = left := by
            have : ¬ (A.length : Int) = left := by simpa using hx
            omega
          have e5 : toF (i + 1) = toF i := by
            rw [e3, e4]
            by_cases hlH : left < H
            · rw [if_pos hlH, if_pos hlH]
              by_cases hlt : left < A.length
              · rw [List.getElem?_append_left hlt]
              · rw [List.getElem?_eq_none (by simp; omega), List.getElem?_eq_none (by omega)]
            · rw [if_neg hlH, if_neg hlH]
          simp [wl, wi, e5]
          exact f5.drew
      · have hh : atHome C m = false := by rw [hk]; exact hz
        have e1 : (l.take (i + 1)).filter (atHome C) = (l.take i).filter (atHome C) := by rw [et]; simp [List.filter_append, hh]
        have e2 : (l.take (i + 1)).filter (fun n => !atHome C n) = (l.take i).filter (fun n => !atHome C n) ++ [(m : Int)] := by rw [et]; simp [List.filter_append, hh]
        have e3 := toF_eq (i + 1)
        have e4 := toF_eq i
        rw [e1, e2] at e3
        rw [e1, e2]
        generalize (l.take i).filter (atHome C) = A at *
        generalize (l.take i).filter (fun n => !atHome C n) = B at *
        have wl := wrap_succ (n := B.length) (by omega)
        have wh := wrap_add (n := H) (m := B.length) (by omega)
        simp [wh]
        refine Run_cond (fun hx => ?_) (fun hx => ?_)
        · have hx' : H + B.length = left := by
            have : (H : Int) + (B.length : Int) = left := by simpa using hx
            omega
          have e5 : toF (i + 1) = m := by
            rw [e3, if_neg (by omega), show left - H = B.length by omega]
            simp
          simp [wl, wi, a1, a2, e5]
          exact f5.drew
        · have hx' : ¬ H + B.length = left := by
            have : ¬ (H : Int) + (B.length : Int) = left := by simpa using hx
            omega
          have e5 : toF (i + 1) = toF i := by
            rw [e3, e4]
            by_cases hlH : left < H
            · rw [if_pos hlH, if_pos hlH]
            · rw [if_neg hlH, if_neg hlH]
              by_cases hlt : left - H < B.length
              · rw [List.getElem?_append_left hlt]
              · rw [List.getElem?_eq_none (by simp; omega), List.getElem?_eq_none (by omega)]
          simp [wl, wi, e5]
          exact f5.drew
    · rintro s w5 ⟨rfl, f5⟩
      have e3 := toF_eq l.length
      rw [List.take_length] at e3
      have e5 : toF l.length = to := by
        rw [e3]
        by_cases hlH : left < H
        · rw [if_pos hlH]
          rw [List.getElem?_append_left (by omega)] at hl
          rw [hl]; rfl
        · rw [if_neg hlH]
          rw [List.getElem?_append_right (by omega), hH] at hl
          rw [hl]; rfl
      have hd5 : bk w5 d = some q.cells := f5.bk_some hd3 id
      simp [-ldA_ptr, hovl]
      subst hq
      simp [-ldA_ptr, hd5, Ms.ldA hd5, Ms.cells, buildV, fillV_cell, e5, Ms.val]
      exact f03.trans f5 fun _ _ => id

end Go.Proofs.Ytiggkhmopnhfaaa
