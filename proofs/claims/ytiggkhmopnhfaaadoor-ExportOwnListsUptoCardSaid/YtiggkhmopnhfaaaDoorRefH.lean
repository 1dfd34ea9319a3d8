/-
  The document's exporter (granaryref21), part H: the next partition; an owner that is left.
-/
import Derived.Test.YtiggkhmopnhfaaaDoorRefG
namespace Go.Proofs.YtiggkhmopnhfaaaDoor
open Go.Lift
set_option linter.unusedSimpArgs false
set_option maxHeartbeats 1000000

/-- What holds of it. -/
structure ROk (r : RS) : Prop where
  rl : r.rows.length ≤ 64
  ne : ∀ x ∈ r.rows, x ≠ [] ∧ x.length ≤ 64
  on : r.on = true → r.part < r.rows.length ∧ (∀ row, r.rows[r.part]? = some row → r.left < row.length) ∧ r.of.length = r.read.length ∧ r.read.length ≤ 65536 ∧ r.lost.length ≤ 64
  rc : r.on = true → ∀ p ∈ r.read, isCell p.1 = true ∧ isCell p.2 = true
  lc : ∀ p ∈ r.lp, isCell p.1 = true ∧ isCell p.2 = true
  lpl : r.lp.length ≤ 65536
  lml : r.lm.length ≤ 64
/-- The next partition, or the end. -/
def RS.goOnR (r : RS) : RS × List Ms :=
  if r.part + 1 < r.rows.length then (({ r with part := r.part + 1, left := 0 } : RS).askR, [({ r with part := r.part + 1, left := 0 } : RS).qm])
  else ({ r with part := r.part + 1, left := 0, on := false, ended := true, lj := r.job, lv := r.version, lp := r.read, lm := r.lost }, [])
section
variable {w w' : World} {b : Nat} {r r' : RS} {v v' : RV} {ro ro' foot foot' : Nat → Prop}
theorem goOn_run (h : RM w b r v ro foot) (hL : RL w b r v ro foot) (hon : r.on = true) (hp : r.part < r.rows.length) (hrl : r.rows.length ≤ 64) (hne : ∀ x ∈ r.rows, x ≠ []) (hol : r.of.length ≤ 1048576) (hfs : ∀ c, foot c → c < w.heap.size) :
    Run (F.granaryref21_Export_goOn (.pointer (some ⟨b, 0, none⟩))) w fun x w' => (∃ v' ro', RM w' b r.goOnR.1 v' ro' foot) ∧ Fr (fun c => c = b) w w' ∧ SlW 11 w' x (elMR r.goOnR.2) ∧ New w w' x := by
  unfold F.granaryref21_Export_goOn
  have hb := h.blk
  have hw := h.wr
  have wp := wrap_succ (n := r.part) (by omega)
  have hrows := h.rowsLen
  simp [hb, hw, RS.cells, wp, hrows]
  have hb1 : bk (sto (sto w b 7 [.int .i64 (r.part + 1 : Nat)]) b 8 [.int .i64 0]) b = some (({ r with part := r.part + 1, left := 0 } : RS).cells v) := by simp [hb, RS.cells]
  have hw1 : wr (sto (sto w b 7 [.int .i64 (r.part + 1 : Nat)]) b 8 [.int .i64 0]) b = true := by simp [hw]
  have f1 : Fr (fun c => c = b) w (sto (sto w b 7 [.int .i64 (r.part + 1 : Nat)]) b 8 [.int .i64 0]) := ((Fr.refl (fun c => c = b) w).sto (.inl rfl) _ _).sto (.inl rfl) _ _
  simp only [Int.natCast_add, Int.cast_ofNat_Int] at hb1 hw1 f1
  generalize sto (sto w b 7 [.int .i64 ((r.part : Int) + 1)]) b 8 [.int .i64 0] = w1 at *
  have hL1 : RL w1.drew b ({ r with part := r.part + 1, left := 0 } : RS) v ro foot := by
    have hL' := hL.fr f1.drew fun c hc => ⟨fun hi => (hL.readf c hi).2.2 hc, fun hi => (hL.off c hi).2.2.1 hc, fun hi => (hL.lostf c hi).2.2.1 hc⟩
    exact ⟨hL'.read, hL'.readf, hL'.of, hL'.off, hL'.lost, hL'.lostf⟩
  have h1 : RM w1.drew b ({ r with part := r.part + 1, left := 0 } : RS) v ro foot := h.set f1.drew (fun c hc hr => (h.fro c hr).2.1 hc) hb1 hw1 rfl rfl rfl rfl rfl rfl (fun _ h => h) fun _ => hL1
  refine Run_cond (fun hx => ?_) (fun hx => ?_)
  · have hx' : r.part + 1 < r.rows.length := by
      have : (r.part : Int) + 1 < r.rows.length := by simpa using hx
      omega
    have e : r.goOnR = (({ r with part := r.part + 1, left := 0 } : RS).askR, [({ r with part := r.part + 1, left := 0 } : RS).qm]) := by unfold RS.goOnR; rw [if_pos hx']
    rw [e]
    have er : r.rows[r.part + 1]? = some r.rows[r.part + 1] := List.getElem?_eq_getElem hx'
    have hrne := hne _ (List.getElem_mem hx')
    generalize r.rows[r.part + 1] = row at er hrne
    obtain ⟨to, hto⟩ : ∃ to, row[0]? = some to := ⟨_, List.getElem?_eq_getElem (List.length_pos_iff.2 hrne)⟩
    simp
    refine (question_run (r := { r with part := r.part + 1, left := 0 }) h1 hon er hto hol).mono ?_
    rintro x w2 ⟨h2, f2, hs2, hn2⟩
    have s1 := f1.size
    have hd : w1.drew.heap.size = w1.heap.size := rfl
    exact ⟨⟨v, ro, h2⟩, f1.drew.trans f2 fun _ _ h => h, hs2, fun c hc => by have := hn2 c hc; omega⟩
  · have hx' : ¬ r.part + 1 < r.rows.length := by
      have : ¬ (r.part : Int) + 1 < r.rows.length := by simpa using hx
      omega
    have e : r.goOnR = ({ r with part := r.part + 1, left := 0, on := false, ended := true, lj := r.job, lv := r.version, lp := r.read, lm := r.lost }, []) := by unfold RS.goOnR; rw [if_neg hx']
    rw [e]
    have hrc := hL.read.1.isCell
    have hlc := hL.lost.1.isCell
    simp [hb1, hw1, RS.cells, buildV, fillV_cell, cells_isCell hrc, cells_isCell hlc, hrc, hlc]
    have hb2' : bk (sto (sto (sto w1.drew b 5 [.bool false]) b 6 [.bool true]).drew b 13 [.int .i64 r.job, .int .i64 r.version, v.read, v.lost]) b = some (({ r with part := r.part + 1, left := 0, on := false, ended := true, lj := r.job, lv := r.version, lp := r.read, lm := r.lost } : RS).cells { v with lp := v.read, lm := v.lost }) := by simp [hb1, RS.cells]
    have f2 : Fr (fun c => c = b) w1.drew (sto (sto (sto w1.drew b 5 [.bool false]) b 6 [.bool true]).drew b 13 [.int .i64 r.job, .int .i64 r.version, v.read, v.lost]) := (((Fr.refl (fun c => c = b) w1.drew).sto (.inl rfl) _ _).sto (.inl rfl) _ _).drew.sto (.inl rfl) _ _
    have f12 := f1.drew.trans f2 fun _ _ h => h
    have s12 := f12.size
    have hw2 : wr (sto (sto (sto w1.drew b 5 [.bool false]) b 6 [.bool true]).drew b 13 [.int .i64 r.job, .int .i64 r.version, v.read, v.lost]) b = true := by simp [hw1]
    refine ⟨⟨{ v with lp := v.read, lm := v.lost }, fun c => ro c ∨ inB v.read c ∨ inB v.lost c, ⟨hb2', hw2, h.fb, ?_, ?_, fun c hc => .inl (h.frows c hc), ⟨?_, fun c hc => .inr (.inl hc)⟩, ⟨?_, fun c hc => .inr (.inr hc)⟩, fun h => by cases h⟩⟩, f12, SlW.nil _ _, fun c hc => hc.elim⟩
    · rintro c (hc | hc | hc)
      · obtain ⟨h1, h2, h3⟩ := h.fro c hc
        exact ⟨h1, h2, by omega⟩
      · obtain ⟨h1, h2, h3⟩ := hL.readf c hc
        have := hfs c h1
        exact ⟨h1, h3, by omega⟩
      · obtain ⟨h1, h2, h3, _⟩ := hL.lostf c hc
        have := hfs c h1
        exact ⟨h1, h3, by omega⟩
    · obtain ⟨rvs, g1, g2, g3⟩ := h.rows
      exact ⟨rvs, g1, g2.fr f12 fun c hc hf => (h.fro c (h.frows c hc)).2.1 hf, fun i x row hx hrow => ⟨(g3 i x row hx hrow).1.fr f12 fun c hc hf => (h.fro c ((g3 i x row hx hrow).2 c hc)).2.1 hf, fun c hc => .inl ((g3 i x row hx hrow).2 c hc)⟩⟩
    · exact hL.read.1.fr f12 fun c hc hf => (hL.readf c hc).2.2 hf
    · exact hL.lost.1.fr f12 fun c hc hf => (hL.lostf c hc).2.2.1 hf
end

end Go.Proofs.YtiggkhmopnhfaaaDoor
