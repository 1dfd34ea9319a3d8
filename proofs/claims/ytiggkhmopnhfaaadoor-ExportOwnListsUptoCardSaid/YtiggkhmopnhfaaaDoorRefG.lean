/-
  The document's exporter (granaryref21), part G: what it holds, how it lies in memory.
-/
import Derived.Test.YtiggkhmopnhfaaaDoorRefE
import Derived.Test.YtiggkhmopnhfaaaDoorExportI
namespace Go.Proofs.YtiggkhmopnhfaaaDoor
open Go.Lift
set_option linter.unusedSimpArgs false
set_option maxHeartbeats 1000000

structure RS where
  rows : List (List Int)
  wait : Int
  now : Int
  job : Int
  version : Int
  on : Bool
  ended : Bool
  part : Nat
  left : Nat
  sent : Int
  read : List Pr
  of : List Int
  lost : List Int
  lj : Int
  lv : Int
  lp : List Pr
  lm : List Int
structure RV where
  rows : Value
  read : Value
  of : Value
  lost : Value
  lp : Value
  lm : Value
def RS.cells (r : RS) (v : RV) : List Value :=
  [v.rows, .int .i64 r.wait, .int .i64 r.now, .int .i64 r.job, .int .i64 r.version, .bool r.on, .bool r.ended, .int .i64 r.part, .int .i64 r.left, .int .i64 r.sent, v.read, v.of, v.lost, .int .i64 r.lj, .int .i64 r.lv, v.lp, v.lm]
/-- What grows while an export is going on. -/
structure RL (w : World) (b : Nat) (r : RS) (v : RV) (ro foot : Nat → Prop) : Prop where
  read : SlW 2 w v.read (elP r.read)
  readf : ∀ c, inB v.read c → foot c ∧ ¬ ro c ∧ c ≠ b
  of : SlW 1 w v.of (elI r.of)
  off : ∀ c, inB v.of c → foot c ∧ ¬ ro c ∧ c ≠ b ∧ ¬ inB v.read c
  lost : SlW 1 w v.lost (elI r.lost)
  lostf : ∀ c, inB v.lost c → foot c ∧ ¬ ro c ∧ c ≠ b ∧ ¬ inB v.read c ∧ ¬ inB v.of c
/-- In w it lies at b; what is only read lies in ro, all of it in foot. -/
structure RM (w : World) (b : Nat) (r : RS) (v : RV) (ro foot : Nat → Prop) : Prop where
  blk : bk w b = some (r.cells v)
  wr : wr w b = true
  fb : foot b
  fro : ∀ c, ro c → foot c ∧ c ≠ b ∧ c < w.heap.size
  rows : ∃ rvs : List Value, rvs.length = r.rows.length ∧ Sl 1 w v.rows (rvs.map fun x => [x]) ∧ ∀ (i : Nat) (x : Value) (row : List Int), rvs[i]? = some x → r.rows[i]? = some row → Ints w x row ∧ ∀ c, inB x c → ro c
  frows : ∀ c, inB v.rows c → ro c
  lp : Sl 2 w v.lp (elP r.lp) ∧ ∀ c, inB v.lp c → ro c
  lm : Ints w v.lm r.lm ∧ ∀ c, inB v.lm c → ro c
  on : r.on = true → RL w b r v ro foot
/-- foot, and all that is new. -/
def ext (foot : Nat → Prop) (w w' : World) (c : Nat) : Prop := foot c ∨ (w.heap.size ≤ c ∧ c < w'.heap.size)

section
variable {w w' : World} {b : Nat} {r r' : RS} {v v' : RV} {ro ro' foot foot' F : Nat → Prop}
theorem RL.fr (h : RL w b r v ro foot) (f : Fr F w w') (hF : ∀ c, F c → ¬ inB v.read c ∧ ¬ inB v.of c ∧ ¬ inB v.lost c) : RL w' b r v ro foot where
  read := h.read.fr f fun c hc hf => (hF c hf).1 hc
  readf := h.readf
  of := h.of.fr f fun c hc hf => (hF c hf).2.1 hc
  off := h.off
  lost := h.lost.fr f fun c hc hf => (hF c hf).2.2 hc
  lostf := h.lostf
theorem RL.wider (h : RL w b r v ro foot) (hf : ∀ c, foot c → foot' c) : RL w b r v ro foot' where
  read := h.read
  readf := fun c hc => by obtain ⟨h1, h2⟩ := h.readf c hc; exact ⟨hf c h1, h2⟩
  of := h.of
  off := fun c hc => by obtain ⟨h1, h2⟩ := h.off c hc; exact ⟨hf c h1, h2⟩
  lost := h.lost
  lostf := fun c hc => by obtain ⟨h1, h2⟩ := h.lostf c hc; exact ⟨hf c h1, h2⟩
/-- Another state in the same block: what is only read is as it was. -/
theorem RM.set (h : RM w b r v ro foot) (f : Fr F w w') (hF : ∀ c, F c → ¬ ro c) (hb : bk w' b = some (r'.cells v')) (hw : Go.Lift.wr w' b = true) (hr : r'.rows = r.rows) (hvr : v'.rows = v.rows) (hlp : r'.lp = r.lp) (hlm : r'.lm = r.lm) (hvp : v'.lp = v.lp) (hvm : v'.lm = v.lm)
    (hft : ∀ c, foot c → foot' c) (hon : r'.on = true → RL w' b r' v' ro foot') : RM w' b r' v' ro foot' where
  blk := hb
  wr := hw
  fb := hft b h.fb
  fro := fun c hc => by obtain ⟨h1, h2, h3⟩ := h.fro c hc; have := f.size; exact ⟨hft c h1, h2, by omega⟩
  rows := by
    obtain ⟨rvs, h1, h2, h3⟩ := h.rows
    rw [hr, hvr]
    exact ⟨rvs, h1, h2.fr f fun c hc hf => hF c hf (h.frows c hc), fun i x row hx hrow => ⟨(h3 i x row hx hrow).1.fr f fun c hc hf => hF c hf ((h3 i x row hx hrow).2 c hc), (h3 i x row hx hrow).2⟩⟩
  frows := by rw [hvr]; exact h.frows
  lp := by rw [hlp, hvp]; exact ⟨h.lp.1.fr f fun c hc hf => hF c hf (h.lp.2 c hc), h.lp.2⟩
  lm := by rw [hlm, hvm]; exact ⟨h.lm.1.fr f fun c hc hf => hF c hf (h.lm.2 c hc), h.lm.2⟩
  on := hon
theorem RM.fr (h : RM w b r v ro foot) (f : Fr F w w') (hF : ∀ c, F c → ¬ foot c) : RM w' b r v ro foot :=
  h.set f (fun c hc hr => hF c hc (h.fro c hr).1) (f.bk_some h.blk fun hb => hF b hb h.fb) (by rw [f.wr (bk_lt h.blk) fun hb => hF b hb h.fb]; exact h.wr) rfl rfl rfl rfl rfl rfl (fun _ h => h) fun hon =>
    (h.on hon).fr f fun c hc => ⟨fun hi => hF c hc ((h.on hon).readf c hi).1, fun hi => hF c hc ((h.on hon).off c hi).1, fun hi => hF c hc ((h.on hon).lostf c hi).1⟩
theorem RM.fr0 (h : RM w b r v ro foot) (f : Fr (fun _ => False) w w') : RM w' b r v ro foot := h.fr f fun _ h => h.elim
theorem RM.wider (h : RM w b r v ro foot) (hf : ∀ c, foot c → foot' c) : RM w b r v ro foot' where
  blk := h.blk
  wr := h.wr
  fb := hf b h.fb
  fro := fun c hc => by obtain ⟨h1, h2⟩ := h.fro c hc; exact ⟨hf c h1, h2⟩
  rows := h.rows
  frows := h.frows
  lp := h.lp
  lm := h.lm
  on := fun hon => (h.on hon).wider hf
/-- Its rows, read. -/
theorem RM.row (h : RM w b r v ro foot) {i : Nat} {row : List Int} (hi : r.rows[i]? = some row) : ∃ p x, idxA 1 v.rows (.int .i64 i) = some p ∧ ld1 p w = some x ∧ Ints w x row ∧ (∀ c, inB x c → ro c) ∧ lenL x = some (.int .i64 row.length) := by
  obtain ⟨rvs, h1, h2, h3⟩ := h.rows
  have hlt := (List.getElem?_eq_some_iff.1 hi).1
  have ex : rvs[i]? = some (rvs[i]'(by omega)) := List.getElem?_eq_getElem _
  generalize rvs[i]'(by omega) = x at ex
  obtain ⟨h4, h5⟩ := h3 i x row ex hi
  obtain ⟨p, p1, p2⟩ := h2.rd1 (i := i) (y := x) (by simp [ex]) .i64
  have hl := h4.lenL
  simp only [elI_len] at hl
  exact ⟨p, x, p1, p2, h4, h5, hl⟩
theorem RM.rowsLen (h : RM w b r v ro foot) : lenL v.rows = some (.int .i64 r.rows.length) := by
  obtain ⟨rvs, h1, h2, _⟩ := h.rows
  have := h2.lenL
  simp [h1] at this
  exact this
end

/-- What a call comes to. -/
structure RDid (w w' : World) (b : Nat) (foot : Nat → Prop) (r' : RS) : Prop where
  fr : Fr foot w w'
  mem : ∃ v' ro', RM w' b r' v' ro' (ext foot w w')

/-- How many pairs were read of the partition that is taken up. -/
def RS.cnt (r : RS) : Nat := r.of.count (r.part : Int)
theorem count_run {w : World} {b : Nat} {r : RS} {v : RV} (hb : bk w b = some (r.cells v)) (ho : Sl 1 w v.of (elI r.of)) (hl : r.of.length ≤ 1048576) :
    Run (F.granaryref21_Export_count (.pointer (some ⟨b, 0, none⟩))) w fun x w' => x = .int .i64 r.cnt ∧ Fr (fun _ => False) w w' := by
  unfold F.granaryref21_Export_count
  have hol := ho.lenL
  simp only [elI_len] at hol
  simp only [Run_bind]
  refine Run_for r.of.length (fun i l w' => l = [.int .i64 ((r.of.take i).count (r.part : Int) : Nat), .int .i64 i] ∧ Fr (fun _ => False) w w') ⟨by simp, Fr.refl _ _⟩ ?_ ?_
  · rintro i l w' hi ⟨rfl, f⟩
    have hb' := f.bk_some hb id
    have ei : r.of[i]? = some r.of[i] := List.getElem?_eq_getElem hi
    generalize r.of[i] = a at ei
    obtain ⟨p, p1, p2⟩ := (ho.fr0 f).rd1 (elI_some ei) .i64
    have ws := wrap_succ (n := i) (by omega)
    have et : r.of.take (i + 1) = r.of.take i ++ [a] := by rw [List.take_add_one, ei]; rfl
    have hc := List.count_le_length (a := (r.part : Int)) (l := r.of.take i)
    have ht := List.length_take_le i r.of
    have wc := wrap_succ (n := (r.of.take i).count (r.part : Int)) (by omega)
    rw [et, List.count_append]
    simp [hb', RS.cells, hol, hi, p1, p2]
    refine Run_cond (fun hx => ?_) (fun hx => ?_)
    · have hx' : a = r.part := by simpa using hx
      subst hx'
      simp [wc, ws]
      exact f.drew
    · have hx' : ¬ a = r.part := by simpa using hx
      simp [ws, List.count_singleton, hx']
      exact f.drew
  · rintro l w' ⟨rfl, f⟩
    have hb' := f.bk_some hb id
    simp [hb', RS.cells, hol]
    exact ⟨rfl, f⟩

/-- The question of now. -/
def RS.qm (r : RS) : Ms := ⟨15, 67, (r.rows.getD r.part []).getD r.left 0, r.job, 0, r.part, r.version, r.cnt, 0, .string ByteArray.empty, .string ByteArray.empty⟩
def RS.askR (r : RS) : RS := { r with sent := r.now }
def elMR (l : List Ms) : List (List Value) := l.map Ms.cells
@[simp] theorem elMR_len (l : List Ms) : (elMR l).length = l.length := by simp [elMR]
theorem question_run {w : World} {b : Nat} {r : RS} {v : RV} {ro foot : Nat → Prop} (h : RM w b r v ro foot) (hon : r.on = true) {row : List Int} {to : Int} (hrow : r.rows[r.part]? = some row) (hto : row[r.left]? = some to) (hl : r.of.length ≤ 1048576) :
    Run (F.granaryref21_Export_question (.pointer (some ⟨b, 0, none⟩))) w fun x w' => RM w' b r.askR v ro foot ∧ Fr (fun c => c = b) w w' ∧ SlW 11 w' x [r.qm.cells] ∧ New w w' x := by
  unfold F.granaryref21_Export_question
  have hb := h.blk
  have hw := h.wr
  simp [hb, hw, RS.cells]
  have hb1 : bk (sto w b 9 [.int .i64 r.now]) b = some (r.askR.cells v) := by simp [hb, RS.cells, RS.askR]
  have hw1 : wr (sto w b 9 [.int .i64 r.now]) b = true := by simp [hw]
  have f1 : Fr (fun c => c = b) w (sto w b 9 [.int .i64 r.now]) := (Fr.refl (fun c => c = b) w).sto (.inl rfl) _ _
  generalize sto w b 9 [.int .i64 r.now] = w1 at *
  have h1 : RM w1.drew b r.askR v ro foot := h.set f1.drew (fun c hc hr => (h.fro c hr).2.1 hc) hb1 hw1 rfl rfl rfl rfl rfl rfl (fun _ h => h) fun _ => (by
    have hL := (h.on hon).fr f1.drew fun c hc => ⟨fun hi => ((h.on hon).readf c hi).2.2 hc, fun hi => ((h.on hon).off c hi).2.2.1 hc, fun hi => ((h.on hon).lostf c hi).2.2.1 hc⟩
    exact ⟨hL.read, hL.readf, hL.of, hL.off, hL.lost, hL.lostf⟩)
  obtain ⟨p, x, p1, p2, p3, p4, p5⟩ := h1.row (i := r.part) (row := row) hrow
  obtain ⟨q, q1, q2⟩ := p3.rd1 (elI_some hto) .i64
  have p2' : ld1 p w1 = some x := p2
  have q2' : ld1 q w1 = some (.int .i64 to) := q2
  simp [hb1, RS.cells, RS.askR, p1, p2', q1, q2']
  refine (count_run (w := w1.drew) (r := r.askR) hb1 ((h1.on hon).of.1) hl).mono ?_
  rintro _ w2 ⟨rfl, f2⟩
  have h2 := h1.fr0 f2
  have hb2 : bk w2 b = some (r.askR.cells v) := h2.blk
  obtain ⟨p', x', p1', p2'', p3', _⟩ := h2.row (i := r.part) (row := row) hrow
  have ep : p' = p := by rw [p1] at p1'; exact (Option.some.inj p1').symm
  subst ep
  have hx : x' = x := by
    obtain ⟨rvs, g1, g2, g3⟩ := h1.rows
    have hlt := (List.getElem?_eq_some_iff.1 hrow).1
    have ex : rvs[r.part]? = some (rvs[r.part]'(by rw [g1]; exact hlt)) := List.getElem?_eq_getElem _
    obtain ⟨a, a1, a2⟩ := g2.rd1 (i := r.part) (y := rvs[r.part]'(by rw [g1]; exact hlt)) (by simp [ex]) .i64
    obtain ⟨a', a1', a2'⟩ := (g2.fr0 f2).rd1 (i := r.part) (y := rvs[r.part]'(by rw [g1]; exact hlt)) (by simp [ex]) .i64
    have e1 : a = p' := by rw [p1] at a1; exact (Option.some.inj a1).symm
    have e2 : a' = p' := by rw [p1] at a1'; exact (Option.some.inj a1').symm
    subst e1
    rw [e2] at a2'
    rw [p2] at a2
    rw [p2''] at a2'
    exact (Option.some.inj a2').trans (Option.some.inj a2).symm
  subst hx
  obtain ⟨q', q1', q2''⟩ := p3'.rd1 (elI_some hto) .i64
  have eq' : q' = q := by rw [q1] at q1'; exact (Option.some.inj q1').symm
  subst eq'
  simp [buildV, fillV_cell]
  refine Run_app1 (k := 11) (els := []) rfl (SlW.nil 11 w2) (by decide) rfl (by decide) (by simp) (by simp) fun ov w3 hs3 f3 hin w13 f13 => ?_
  simp [hb2, RS.cells, RS.askR, p2'', q2']
  have hqm : r.qm = ⟨15, 67, to, r.job, 0, r.part, r.version, r.cnt, 0, .string ByteArray.empty, .string ByteArray.empty⟩ := by
    unfold RS.qm
    simp [List.getD, hrow, hto]
  have f3' : Fr (fun _ => False) w2 w3 := f3.mono fun c hc => by simp at hc
  refine ⟨q2'', h2.fr0 f3', ((f1.drew.trans f2 fun _ _ h => h.elim).trans f3' fun _ _ h => h.elim), ?_, fun c hc => ?_⟩
  · rw [hqm]; exact hs3
  · rcases hin c hc with h' | h'
    · simp at h'
    · have := f1.size; have := f2.size
      have hd : w1.drew.heap.size = w1.heap.size := rfl
      omega

end Go.Proofs.YtiggkhmopnhfaaaDoor
