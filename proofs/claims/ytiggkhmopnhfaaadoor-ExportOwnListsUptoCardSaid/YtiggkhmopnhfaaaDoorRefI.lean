/-
  The document's exporter (granaryref21), part I: the owner that is asked is left.
-/
import Derived.Test.YtiggkhmopnhfaaaDoorRefH
namespace Go.Proofs.YtiggkhmopnhfaaaDoor
open Go.Lift
set_option linter.unusedSimpArgs false
set_option maxHeartbeats 1000000

def RS.keep (r : RS) : List (Pr × Int) := (r.read.zip r.of).filter fun x => decide (x.2 ≠ (r.part : Int))
def RS.leaveR (r : RS) : RS × List Ms :=
  if r.left + 1 < (r.rows.getD r.part []).length then (({ r with left := r.left + 1 } : RS).askR, [({ r with left := r.left + 1 } : RS).qm])
  else ({ r with left := r.left + 1, read := r.keep.map (·.1), of := r.keep.map (·.2), lost := r.lost ++ [(r.part : Int)] } : RS).goOnR
section
variable {w w' : World} {b : Nat} {r r' : RS} {v v' : RV} {ro ro' foot foot' : Nat → Prop}
theorem leave21_run (h : RM w b r v ro foot) (hon : r.on = true) (hok : ROk r) (hfs : ∀ c, foot c → c < w.heap.size) :
    Run (F.granaryref21_Export_leave (.pointer (some ⟨b, 0, none⟩))) w fun x w' => (∃ v' ro', RM w' b r.leaveR.1 v' ro' (ext foot w w')) ∧ Fr foot w w' ∧ SlW 11 w' x (elMR r.leaveR.2) ∧ New w w' x := by
  obtain ⟨o1, o2, o3, o4, o5⟩ := hok.on hon
  have er : r.rows[r.part]? = some r.rows[r.part] := List.getElem?_eq_getElem o1
  have hrow := hok.ne _ (List.getElem_mem o1)
  generalize r.rows[r.part] = row at er hrow
  have o2' := o2 row er
  have hgd : r.rows.getD r.part [] = row := by simp [List.getD, er]
  have hL := h.on hon
  have hb := h.blk
  have hw := h.wr
  have wl := wrap_succ (n := r.left) (by omega)
  obtain ⟨p, x, p1, p2, p3, p4, p5⟩ := h.row er
  unfold F.granaryref21_Export_leave
  simp [hb, hw, RS.cells, wl, p1]
  have hb1 : bk (sto w b 8 [.int .i64 ((r.left : Int) + 1)]) b = some (({ r with left := r.left + 1 } : RS).cells v) := by simp [hb, RS.cells]
  have hw1 : wr (sto w b 8 [.int .i64 ((r.left : Int) + 1)]) b = true := by simp [hw]
  have f1 : Fr (fun c => c = b) w (sto w b 8 [.int .i64 ((r.left : Int) + 1)]) := (Fr.refl (fun c => c = b) w).sto (.inl rfl) _ _
  generalize sto w b 8 [.int .i64 ((r.left : Int) + 1)] = w1 at *
  have hL1 : RL w1.drew b ({ r with left := r.left + 1 } : RS) v ro foot := by
    have hL' := hL.fr f1.drew fun c hc => ⟨fun hi => (hL.readf c hi).2.2 hc, fun hi => (hL.off c hi).2.2.1 hc, fun hi => (hL.lostf c hi).2.2.1 hc⟩
    exact ⟨hL'.read, hL'.readf, hL'.of, hL'.off, hL'.lost, hL'.lostf⟩
  have h1 : RM w1.drew b ({ r with left := r.left + 1 } : RS) v ro foot := h.set f1.drew (fun c hc hr => (h.fro c hr).2.1 hc) hb1 hw1 rfl rfl rfl rfl rfl rfl (fun _ h => h) fun _ => hL1
  obtain ⟨p', x', p1', p2', p3', p4', p5'⟩ := h1.row (i := r.part) (row := row) er
  have ep : p' = p := by rw [p1] at p1'; exact (Option.some.inj p1').symm
  subst ep
  have p2'' : ld1 p' w1 = some x' := p2'
  have d1 : w1.drew.heap.size = w1.heap.size := rfl
  have s1 := f1.size
  have hbf : ∀ c, c = b → foot c := fun c hc => hc ▸ h.fb
  have ext1 : ∀ w2, ∀ c, foot c → ext foot w w2 c := fun _ c hc => .inl hc
  simp [p2'', p5']
  refine Run_cond (fun hx => ?_) (fun hx => ?_)
  · have hx' : r.left + 1 < row.length := by
      have : (r.left : Int) + 1 < row.length := by simpa using hx
      omega
    have e : r.leaveR = (({ r with left := r.left + 1 } : RS).askR, [({ r with left := r.left + 1 } : RS).qm]) := by unfold RS.leaveR; rw [hgd, if_pos hx']
    rw [e]
    obtain ⟨to, hto⟩ : ∃ to, row[r.left + 1]? = some to := ⟨_, List.getElem?_eq_getElem hx'⟩
    simp
    refine (question_run (r := { r with left := r.left + 1 }) h1 hon er hto (by show r.of.length ≤ _; omega)).mono ?_
    rintro y w2 ⟨h2, f2, hs2, hn2⟩
    exact ⟨⟨v, ro, h2.wider (ext1 w2)⟩, (f1.drew.trans f2 fun _ _ h => h).mono hbf, hs2, fun c hc => by have := hn2 c hc; omega⟩
  have hx' : ¬ r.left + 1 < row.length := by
    have : ¬ (r.left : Int) + 1 < row.length := by simpa using hx
    omega
  have e : r.leaveR = ({ r with left := r.left + 1, read := r.keep.map (·.1), of := r.keep.map (·.2), lost := r.lost ++ [(r.part : Int)] } : RS).goOnR := by unfold RS.leaveR; rw [hgd, if_neg hx']
  rw [e]
  simp
  have hol := hL1.of.1.lenL
  have hrl := hL1.read.1.lenL
  simp only [elI_len, elP_len] at hol hrl
  let kp : Nat → List (Pr × Int) := fun i => ((r.read.zip r.of).take i).filter fun x => decide (x.2 ≠ (r.part : Int))
  have kp_eq : ∀ i, kp i = ((r.read.zip r.of).take i).filter fun x => decide (x.2 ≠ (r.part : Int)) := fun _ => rfl
  have kpl : ∀ i, (kp i).length ≤ 65536 := by
    intro i
    rw [kp_eq]
    refine Nat.le_trans (List.length_filter_le _ _) (Nat.le_trans (List.length_take_le' _ _) ?_)
    rw [List.length_zip]
    omega
  obtain ⟨Q1, q1⟩ : ∃ Q1 : Out → World → Prop, ∀ o w', Q1 o w' ↔ ∃ rv fv i, o = .exit 0 [rv, fv, i] ∧ Fr (fun _ => False) w1.drew w' ∧ SlW 2 w' rv (elP (r.keep.map (·.1))) ∧ SlW 1 w' fv (elI (r.keep.map (·.2))) ∧ (∀ c, inB rv c → w1.heap.size ≤ c ∧ c < w'.heap.size) ∧ (∀ c, inB fv c → w1.heap.size ≤ c ∧ c < w'.heap.size ∧ ¬ inB rv c) := ⟨_, fun _ _ => Iff.rfl⟩
  refine Run.mono (Q := Q1) (Run_for r.of.length (fun i l w' => ∃ rv fv, l = [rv, fv, .int .i64 i] ∧ Fr (fun _ => False) w1.drew w' ∧ SlW 2 w' rv (elP ((kp i).map (·.1))) ∧ SlW 1 w' fv (elI ((kp i).map (·.2))) ∧ (∀ c, inB rv c → w1.heap.size ≤ c ∧ c < w'.heap.size) ∧ (∀ c, inB fv c → w1.heap.size ≤ c ∧ c < w'.heap.size ∧ ¬ inB rv c)) ⟨_, _, rfl, Fr.refl _ _, SlW.nil _ _, SlW.nil _ _, fun c hc => hc.elim, fun c hc => hc.elim⟩ ?_ ?_) ?_
  · rintro i l w2 hi ⟨rv, fv, rfl, f2, hrs, hfs2, hrb, hfb⟩
    have hb2 : bk w2 b = some (({ r with left := r.left + 1 } : RS).cells v) := f2.bk_some (w := w1.drew) hb1 id
    have ei : r.of[i]? = some r.of[i] := List.getElem?_eq_getElem hi
    generalize r.of[i] = a at ei
    have ej : r.read[i]? = some (r.read[i]'(by omega)) := List.getElem?_eq_getElem _
    generalize r.read[i]'(by omega) = y at ej
    have hcell := hok.rc hon y (List.mem_of_getElem? ej)
    have hof2 := hL1.of.1.fr0 f2
    have hre2 := hL1.read.1.fr0 f2
    obtain ⟨q, q1', q2'⟩ := hof2.rd1 (elI_some ei) .i64
    have hee : (elP r.read)[i]? = some [y.1, y.2] := by simp [elP, ej]
    obtain ⟨z, z1, z2⟩ := hre2.rdA (by decide) hee .i64
    have ws := wrap_succ (n := i) (by omega)
    have hz : (r.read.zip r.of)[i]? = some (y, a) := by simp [List.getElem?_zip_eq_some, ej, ei]
    have et : kp (i + 1) = kp i ++ if a ≠ (r.part : Int) then [(y, a)] else [] := by
      rw [kp_eq, kp_eq, List.take_add_one, hz, List.filter_append]
      congr 1
      by_cases ha : a = (r.part : Int) <;> simp [ha]
    have kli := kpl i
    simp [-ldA_ptr, hb2, RS.cells, hol, hi, q1', q2']
    refine Run_cond (fun hy => ?_) (fun hy => ?_)
    · have hy' : a = (r.part : Int) := by simpa using hy
      rw [if_neg (not_not_intro hy'), List.append_nil] at et
      rw [et]
      simp [ws]
      exact ⟨rv, fv, ⟨rfl, rfl⟩, f2.drew, hrs.fr (Fr.refl (fun _ => False) w2).drew fun _ _ => id, hfs2.fr (Fr.refl (fun _ => False) w2).drew fun _ _ => id, hrb, hfb⟩
    · have hy' : a ≠ (r.part : Int) := by simpa using hy
      rw [if_pos hy'] at et
      rw [et]
      simp [-ldA_ptr, hb2, RS.cells, z1, z2]
      have hrs' := hrs.fr (Fr.refl (fun _ => False) w2).drew fun _ _ => id
      refine Run_app1 (k := 2) rfl hrs' (by decide) rfl (by decide) (by simp [hcell]) (by simp; omega) fun rv' w3 hs3 f3 hin w13 f13 => ?_
      have d2 : w2.drew.heap.size = w2.heap.size := rfl
      have s2 := f2.size
      have f23 : Fr (fun _ => False) w1.drew w3 := f2.drew.new f3 fun c hc => by have := hrb c hc; omega
      have hb3 : bk w3 b = some (({ r with left := r.left + 1 } : RS).cells v) := f23.bk_some (w := w1.drew) hb1 id
      obtain ⟨q', q3, q4⟩ := (hL1.of.1.fr0 f23).rd1 (elI_some ei) .i64
      have s3 := f3.size
      have hfv3 := (hfs2.fr (Fr.refl (fun _ => False) w2).drew fun _ _ => id).fr f3 fun c hc => (hfb c hc).2.2
      simp [-ldA_ptr, hb3, RS.cells, q3, q4]
      refine Run_app1 (k := 1) rfl hfv3 (by decide) rfl (by decide) rfl (by simp; omega) fun fv' w4 hs4 f4 hin4 w14 f14 => ?_
      have s4 := f4.size
      have hrb' : ∀ c, inB rv' c → w1.heap.size ≤ c ∧ c < w3.heap.size := fun c hc => by
        rcases hin c hc with h' | h'
        · have := hrb c h'; omega
        · omega
      have hdis : ∀ c, inB rv' c → ¬ inB fv c := fun c hc hf => by
        rcases hin c hc with h' | h'
        · exact (hfb c hf).2.2 h'
        · have := hfb c hf; omega
      simp [ws]
      refine ⟨rv', fv', ⟨rfl, rfl⟩, f23.new f4 fun c hc => (hfb c hc).1, ?_, ?_, fun c hc => ?_, fun c hc => ?_⟩
      · have e2 : List.map (fun x => x.1) (kp i) ++ [y] = List.map (fun x => x.1) (kp i) ++ [(y.1, y.2)] := rfl
        have := hs3.fr f4 hdis
        rw [show elP (List.map (fun x => x.1) (kp i) ++ [y]) = elP (List.map (fun x => x.1) (kp i)) ++ [[y.1, y.2]] by simp [elP]]
        exact this
      · rw [← elI_app]; exact hs4
      · have := hrb' c hc; omega
      · rcases hin4 c hc with h' | h'
        · have := hfb c h'
          exact ⟨by omega, by omega, fun hr => hdis c hr h'⟩
        · exact ⟨by omega, by omega, fun hr => by have := hrb' c hr; omega⟩
  · rintro l w2 ⟨rv, fv, rfl, f2, hrs, hfs2, hrb, hfb⟩
    have hb2 : bk w2 b = some (({ r with left := r.left + 1 } : RS).cells v) := f2.bk_some (w := w1.drew) hb1 id
    have ek : kp r.of.length = r.keep := by
      rw [kp_eq]
      unfold RS.keep
      rw [List.take_of_length_le (by rw [List.length_zip]; omega)]
    rw [ek] at hrs hfs2
    simp [hb2, RS.cells, hol]
    exact (q1 _ _).2 ⟨rv, fv, _, rfl, f2, hrs, hfs2, hrb, hfb⟩
  rintro o w2 ho
  obtain ⟨rv, fv, i, rfl, f2, hrs, hfs2, hrb, hfb⟩ := (q1 _ _).1 ho
  have hb2 : bk w2 b = some (({ r with left := r.left + 1 } : RS).cells v) := f2.bk_some (w := w1.drew) hb1 id
  have hw2 : wr w2 b = true := by rw [f2.wr (w := w1.drew) (bk_lt (w := w1.drew) hb1) id]; exact hw1
  have hrc := hrs.1.isCell
  have hfc := hfs2.1.isCell
  simp [hb2, hw2, RS.cells, cells_isCell hrc, cells_isCell hfc, hrc, hfc]
  have hb3 : bk (sto (sto w2 b 10 [rv]) b 11 [fv]) b = some (({ r with left := r.left + 1, read := r.keep.map (·.1), of := r.keep.map (·.2) } : RS).cells { v with read := rv, of := fv }) := by simp [hb2, RS.cells]
  have hw3 : wr (sto (sto w2 b 10 [rv]) b 11 [fv]) b = true := by simp [hw2]
  have g3 : Fr (fun c => c = b) w2 (sto (sto w2 b 10 [rv]) b 11 [fv]) := ((Fr.refl (fun c => c = b) w2).sto (.inl rfl) _ _).sto (.inl rfl) _ _
  generalize sto (sto w2 b 10 [rv]) b 11 [fv] = w3 at *
  have f13 : Fr (fun c => c = b) w w3 := (f1.drew.trans f2 fun _ _ h => h.elim).trans g3 fun _ _ h => h
  have s3 := g3.size
  have s2 := f2.size
  have bsz := bk_lt hb
  have hrb3 : SlW 2 w3 rv (elP (r.keep.map (·.1))) := hrs.fr g3 fun c hc he => by have := hrb c hc; omega
  have hfb3 : SlW 1 w3 fv (elI (r.keep.map (·.2))) := hfs2.fr g3 fun c hc he => by have := hfb c hc; omega
  have hlost3 : SlW 1 w3 v.lost (elI r.lost) := hL.lost.fr f13 fun c hc => (hL.lostf c hc).2.2.1
  refine Run_app1 (k := 1) rfl (hlost3.fr (Fr.refl (fun _ => False) w3).drew fun _ _ => id) (by decide) rfl (by decide) rfl (by simp; omega) fun lv w4 hs4 f4 hin w14 f14 => ?_
  have d3 : w3.drew.heap.size = w3.heap.size := rfl
  have hbl : ¬ inB v.lost b := fun hc => (hL.lostf b hc).2.2.1 rfl
  have hb4 : bk w4 b = _ := f4.bk_some (w := w3.drew) (l := _) hb3 hbl
  have hb14 : bk w14 b = _ := f14.bk_some (w := w3.drew) (l := _) hb3 id
  have hw4 : wr w4 b = true := by rw [f4.wr (w := w3.drew) (bk_lt (w := w3.drew) hb3) hbl]; exact hw3
  have hlc := hs4.1.isCell
  simp [hb4, hw4, hb14, RS.cells, cells_isCell hlc, hlc]
  have hb5 : bk (sto w4 b 12 [lv]) b = some (({ r with left := r.left + 1, read := r.keep.map (·.1), of := r.keep.map (·.2), lost := r.lost ++ [(r.part : Int)] } : RS).cells { v with read := rv, of := fv, lost := lv }) := by simp [hb4, RS.cells]
  have hw5 : wr (sto w4 b 12 [lv]) b = true := by simp [hw4]
  have g5 : Fr (fun c => c = b) w4 (sto w4 b 12 [lv]) := (Fr.refl (fun c => c = b) w4).sto (.inl rfl) _ _
  have hsz : (sto w4 b 12 [lv]).heap.size = w4.heap.size := size_sto _ _ _ _
  generalize sto w4 b 12 [lv] = w5 at *
  have s4 := f4.size
  have s5 := g5.size
  have f35 : Fr (fun c => c = b ∨ inB v.lost c) w3 w5 := (((Fr.refl (fun _ => False) w3).drew.mono fun _ h => h.elim).trans (f4.mono fun c hc => (Or.inr hc : c = b ∨ inB v.lost c)) fun _ _ h => h).trans g5 fun _ _ h => .inl h
  have f15 : Fr (fun c => c = b ∨ inB v.lost c) w w5 := (f13.mono fun c hc => .inl hc).trans f35 fun _ _ h => h
  have hlb : ∀ c, inB lv c → ext foot w w5 c ∧ ¬ ro c ∧ c ≠ b ∧ ¬ inB rv c ∧ ¬ inB fv c := by
    intro c hc
    rcases hin c hc with h' | h'
    · obtain ⟨a1, a2, a3, _⟩ := hL.lostf c h'
      have := hfs c a1
      exact ⟨.inl a1, a2, a3, fun hr => by have := hrb c hr; omega, fun hr => by have := hfb c hr; omega⟩
    · refine ⟨.inr ⟨by omega, by omega⟩, fun hr => by have := (h.fro c hr).2.2; omega, by omega, fun hr => by have := hrb c hr; omega, fun hr => by have := hfb c hr; omega⟩
  have hnl : ∀ c, w.heap.size ≤ c → ¬ (c = b ∨ inB v.lost c) := by
    rintro c hc (he | hi)
    · omega
    · have := hfs c (hL.lostf c hi).1; omega
  have hL5 : RL w5 b ({ r with left := r.left + 1, read := r.keep.map (·.1), of := r.keep.map (·.2), lost := r.lost ++ [(r.part : Int)] } : RS) { v with read := rv, of := fv, lost := lv } ro (ext foot w w5) := by
    refine ⟨hrb3.fr f35 fun c hc => hnl c (by have := hrb c hc; omega), fun c hc => ?_, hfb3.fr f35 fun c hc => hnl c (by have := hfb c hc; omega), fun c hc => ?_, ?_, hlb⟩
    · have := hrb c hc
      exact ⟨.inr ⟨by omega, by omega⟩, fun hr => by have := (h.fro c hr).2.2; omega, by omega⟩
    · have := hfb c hc
      exact ⟨.inr ⟨by omega, by omega⟩, fun hr => by have := (h.fro c hr).2.2; omega, by omega, this.2.2⟩
    · have := hs4.fr g5 fun c hc => (hlb c hc).2.2.1
      show SlW 1 w5 lv (elI (r.lost ++ [(r.part : Int)]))
      rw [← elI_app]
      exact this
  have h5 : RM w5 b ({ r with left := r.left + 1, read := r.keep.map (·.1), of := r.keep.map (·.2), lost := r.lost ++ [(r.part : Int)] } : RS) { v with read := rv, of := fv, lost := lv } ro (ext foot w w5) := h.set f15 (fun c hc hr => by
    rcases hc with hc | hc
    · exact (h.fro c hr).2.1 hc
    · exact (hL.lostf c hc).2.1 hr) hb5 hw5 rfl rfl rfl rfl rfl rfl (ext1 w5) fun _ => hL5
  refine (goOn_run h5 hL5 hon o1 hok.rl (fun x hx => (hok.ne x hx).1) ?_ ?_).mono ?_
  · show (r.keep.map (·.2)).length ≤ _
    rw [List.length_map]
    refine Nat.le_trans (List.length_filter_le _ _) ?_
    rw [List.length_zip]; omega
  · rintro c (hc | hc)
    · have := hfs c hc; omega
    · exact hc.2
  · rintro y w6 ⟨⟨v6, ro6, h6⟩, f6, hs6, hn6⟩
    have s6 := f6.size
    refine ⟨⟨v6, ro6, h6.wider ?_⟩, ?_, hs6, fun c hc => by have := hn6 c hc; omega⟩
    · rintro c (hc | hc)
      · exact .inl hc
      · exact .inr ⟨hc.1, by omega⟩
    · refine (f15.mono ?_).trans (f6.mono hbf) fun _ _ h => h
      rintro c (hc | hc)
      · exact hbf c hc
      · exact (hL.lostf c hc).1
end

end Go.Proofs.YtiggkhmopnhfaaaDoor
