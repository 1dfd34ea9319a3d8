/-
  The document's exporter (granaryref21), part M, the plain law: it and the program's exporter go side by side.
-/
import Derived.Test.YtiggkhmopnhfaaaDoorRefL
import Derived.Test.YtiggkhmopnhfaaaDoorExportI
namespace Go.Proofs.YtiggkhmopnhfaaaDoor
open Go.Lift

def StrP (p : Pr) : Prop := ∃ s s' : ByteArray, p = (.string s, .string s')
theorem StrP.cell {p : Pr} (h : StrP p) : isCell p.1 = true ∧ isCell p.2 = true := by
  obtain ⟨s, s', rfl⟩ := h
  exact ⟨isCell_string _, isCell_string _⟩
/-- What both hold alike, whatever is asked. -/
structure BB (rows : List (List Int)) (wt n : Int) (x : XS) (r : RS) : Prop where
  xr : x.rows = rows
  rr : r.rows = rows
  xw : x.wait = wt
  rw_ : r.wait = wt
  now : r.now = x.now
  nowb : 0 ≤ x.now ∧ x.now ≤ n
  job : r.job = x.job
  ver : r.version = x.version
  on : r.on = x.busy
  ended : r.ended = x.ended
  lj : r.lj = x.lj
  lv : r.lv = x.lv
  lp : r.lp = x.lp
  lm : r.lm = x.lm
  str : ∀ p ∈ x.lp, StrP p
/-- What both hold of the question of now. -/
structure BQ (rows : List (List Int)) (wt : Int) (x : XS) (r : RS) : Prop where
  part : x.part = r.part
  plt : r.part < rows.length
  row : ∃ row, rows[r.part]? = some row ∧ x.left = row.drop r.left ∧ r.left < row.length
  due : x.due = r.sent + wt
  read : r.read = x.all ++ x.pairs
  of : ∃ l, r.of = l ++ List.replicate x.pairs.length (r.part : Int) ∧ l.length = x.all.length ∧ ∀ i ∈ l, i < (r.part : Int)
  lost : r.lost = x.missing
  strA : ∀ p ∈ x.all, StrP p
  strP : ∀ p ∈ x.pairs, StrP p
structure Bis (rows : List (List Int)) (wt n : Int) (x : XS) (r : RS) : Prop where
  base : BB rows wt n x r
  busy : x.busy = true → BQ rows wt x r

section
variable {rows : List (List Int)} {R : Nat} {wt n : Int} {x : XS} {r : RS}
theorem BQ.cnt (h : BQ rows wt x r) : r.cnt = x.pairs.length := by
  obtain ⟨l, h1, _, h3⟩ := h.of
  unfold RS.cnt
  rw [h1, List.count_append, List.count_replicate_self]
  rw [List.count_eq_zero_of_not_mem fun hm => by have := h3 _ hm; omega]
  omega
theorem BQ.to (h : BQ rows wt x r) (hb : r.rows = rows) : ∃ to rest, x.left = to :: rest ∧ (r.rows.getD r.part []).getD r.left 0 = to := by
  obtain ⟨row, h1, h2, h3⟩ := h.row
  refine ⟨row[r.left], row.drop (r.left + 1), by rw [h2]; exact List.drop_eq_getElem_cons h3, ?_⟩
  rw [hb]
  simp [List.getD, h1, h3]
theorem BQ.qm (h : BQ rows wt x r) (hb : BB rows wt n x r) {to : Int} {rest : List Int} (ht : x.left = to :: rest) : r.qm.cells = qMsg to x := by
  obtain ⟨to', rest', h1, h2⟩ := h.to hb.rr
  rw [ht] at h1
  cases h1
  unfold RS.qm qMsg Ms.cells
  rw [h2, h.cnt, hb.job, hb.ver, h.part]
theorem rok (hR : ∀ z ∈ rows, z.length = R) (hR1 : 1 ≤ R) (hR16 : R ≤ 16) (hok : XOk x) (h : Bis rows wt n x r) : ROk r where
  rl := by rw [h.base.rr, ← h.base.xr]; exact hok.rl
  ne := fun z hz => by
    have := hR z (by rw [← h.base.rr]; exact hz)
    exact ⟨fun he => by rw [he] at this; simp at this; omega, by omega⟩
  on := fun hon => by
    have hb : x.busy = true := by rw [← h.base.on]; exact hon
    have hq := h.busy hb
    obtain ⟨o1, o2, o3, o4, o5, o6⟩ := hok.busy hb
    obtain ⟨row, g1, g2, g3⟩ := hq.row
    obtain ⟨l, k1, k2, k3⟩ := hq.of
    have hp := hq.part
    have hpl := hq.plt
    have hrl := hok.rl
    rw [h.base.xr] at hrl
    refine ⟨by rw [h.base.rr]; exact hq.plt, fun row' hr => ?_, ?_, ?_, ?_⟩
    · rw [h.base.rr, g1] at hr
      cases hr
      exact g3
    · rw [k1, hq.read]; simp [k2]
    · rw [hq.read, List.length_append]; omega
    · rw [hq.lost]; omega
  rc := fun hon p hp => by
    have hb : x.busy = true := by rw [← h.base.on]; exact hon
    have hq := h.busy hb
    rw [hq.read] at hp
    rcases List.mem_append.1 hp with hp | hp
    · exact (hq.strA p hp).cell
    · exact (hq.strP p hp).cell
  lc := fun p hp => by rw [h.base.lp] at hp; exact (h.base.str p hp).cell
  lpl := by rw [h.base.lp]; have := hok.lp; omega
  lml := by rw [h.base.lm]; exact hok.lm

/-- The next partition. -/
theorem bis_go (hR : ∀ z ∈ rows, z.length = R) (hR1 : 1 ≤ R) (hwt : 1 ≤ wt ∧ wt ≤ 1024) (hn : n ≤ 1073741824) (hb : BB rows wt n x r) (hbusy : x.busy = true) {p : Nat} (hrp : r.part = p) (hp : p < rows.length)
    (hread : r.read = x.all) (hof : r.of.length = x.all.length ∧ ∀ i ∈ r.of, i < ((p + 1 : Nat) : Int)) (hlost : r.lost = x.missing) (hstr : ∀ y ∈ x.all, StrP y) :
    Bis rows wt n (x.takeS ((p + 1 : Nat) : Int)).1 r.goOnR.1 ∧ (x.takeS ((p + 1 : Nat) : Int)).2 = elMR r.goOnR.2 := by
  have hxr := hb.xr
  have hrr := hb.rr
  have hnb := hb.nowb
  by_cases hlt : p + 1 < rows.length
  · have er : rows[p + 1]? = some rows[p + 1] := List.getElem?_eq_getElem hlt
    have hl := hR _ (List.getElem_mem hlt)
    generalize rows[p + 1] = row at er hl
    obtain ⟨to, rest, rfl⟩ : ∃ to rest, row = to :: rest := by
      cases row with
      | nil => simp at hl; omega
      | cons to rest => exact ⟨to, rest, rfl⟩
    have et : x.takeS ((p + 1 : Nat) : Int) = (({ x with part := ((p + 1 : Nat) : Int), pairs := [], left := to :: rest } : XS).askS, [qMsg to { x with part := ((p + 1 : Nat) : Int), pairs := [], left := to :: rest }]) := by
      unfold XS.takeS
      rw [if_neg (by rw [hxr]; omega)]
      simp only [Int.toNat_natCast, hxr, er]
    have eg : r.goOnR = (({ r with part := p + 1, left := 0 } : RS).askR, [({ r with part := p + 1, left := 0 } : RS).qm]) := by
      unfold RS.goOnR
      rw [hrp, if_pos (by rw [hrr]; exact hlt)]
    have hd : ({ x with part := ((p + 1 : Nat) : Int), pairs := [], left := to :: rest } : XS).askS.due = x.now + wt := by
      show IntKind.i64.wrap (x.now + x.wait) = _
      rw [hb.xw, wrap_small (by omega) (by omega)]
    have hbb : BB rows wt n ({ x with part := ((p + 1 : Nat) : Int), pairs := [], left := to :: rest } : XS) ({ r with part := p + 1, left := 0 } : RS) := ⟨hb.xr, hb.rr, hb.xw, hb.rw_, hb.now, hb.nowb, hb.job, hb.ver, hb.on, hb.ended, hb.lj, hb.lv, hb.lp, hb.lm, hb.str⟩
    rw [et, eg]
    have hq : BQ rows wt ({ x with part := ((p + 1 : Nat) : Int), pairs := [], left := to :: rest } : XS).askS ({ r with part := p + 1, left := 0 } : RS).askR :=
      ⟨rfl, hlt, ⟨to :: rest, er, rfl, by show 0 < (to :: rest).length; simp⟩, by rw [hd]; show _ = r.now + wt; rw [hb.now], by show r.read = x.all ++ []; rw [hread, List.append_nil], ⟨r.of, by show r.of = r.of ++ List.replicate ([] : List Pr).length _; simp, hof.1, hof.2⟩, hlost, hstr, fun p hp => by cases hp⟩
    refine ⟨⟨⟨hb.xr, hb.rr, hb.xw, hb.rw_, hb.now, hb.nowb, hb.job, hb.ver, hb.on, hb.ended, hb.lj, hb.lv, hb.lp, hb.lm, hb.str⟩, fun _ => hq⟩, ?_⟩
    have hq' : BQ rows wt ({ x with part := ((p + 1 : Nat) : Int), pairs := [], left := to :: rest, due := r.sent + wt } : XS) ({ r with part := p + 1, left := 0 } : RS) :=
      ⟨rfl, hlt, ⟨to :: rest, er, rfl, by simp⟩, rfl, by show r.read = x.all ++ []; rw [hread, List.append_nil], ⟨r.of, by show r.of = r.of ++ List.replicate ([] : List Pr).length _; simp, hof.1, hof.2⟩, hlost, hstr, fun p hp => by cases hp⟩
    have hbb' : BB rows wt n ({ x with part := ((p + 1 : Nat) : Int), pairs := [], left := to :: rest, due := r.sent + wt } : XS) ({ r with part := p + 1, left := 0 } : RS) := ⟨hb.xr, hb.rr, hb.xw, hb.rw_, hb.now, hb.nowb, hb.job, hb.ver, hb.on, hb.ended, hb.lj, hb.lv, hb.lp, hb.lm, hb.str⟩
    have := hq'.qm hbb' (to := to) (rest := rest) rfl
    show [_] = [_]
    rw [this]
    rfl
  · have et : x.takeS ((p + 1 : Nat) : Int) = ({ x with part := ((p + 1 : Nat) : Int), pairs := [], busy := false, ended := true, lj := x.job, lv := x.version, lp := x.all, lm := x.missing }, []) := by
      unfold XS.takeS
      rw [if_pos (by rw [hxr]; omega)]
    have eg : r.goOnR = ({ r with part := p + 1, left := 0, on := false, ended := true, lj := r.job, lv := r.version, lp := r.read, lm := r.lost }, []) := by
      unfold RS.goOnR
      rw [hrp, if_neg (by rw [hrr]; exact hlt)]
    rw [et, eg]
    exact ⟨⟨⟨hb.xr, hb.rr, hb.xw, hb.rw_, hb.now, hb.nowb, hb.job, hb.ver, rfl, rfl, hb.job, hb.ver, hread, hlost, hstr⟩, fun h => by cases h⟩, rfl⟩

theorem zip_filter {l : List Pr} {o : List Int} {p : Int} : ∀ {a b : List Pr} {u : List Int} {k : Nat}, l = a ++ b → o = u ++ List.replicate k p → u.length = a.length → b.length = k → (∀ i ∈ u, i < p) →
    ((l.zip o).filter fun x => decide (x.2 ≠ p)).map (·.1) = a ∧ ((l.zip o).filter fun x => decide (x.2 ≠ p)).map (·.2) = u := by
  intro a b u k h1 h2 h3 h4 h5
  subst h1; subst h2
  rw [List.zip_append h3.symm, List.filter_append]
  have e1 : (a.zip u).filter (fun x => decide (x.2 ≠ p)) = a.zip u := by
    rw [List.filter_eq_self]
    intro x hx
    have := h5 x.2 (List.of_mem_zip hx).2
    simp
    omega
  have e2 : (b.zip (List.replicate k p)).filter (fun x => decide (x.2 ≠ p)) = [] := by
    rw [List.filter_eq_nil_iff]
    intro x hx
    have := List.eq_of_mem_replicate (List.of_mem_zip hx).2
    simp [this]
  rw [e1, e2, List.append_nil]
  exact ⟨List.map_fst_zip (by omega), List.map_snd_zip (by omega)⟩

/-- The owner that is asked is left. -/
theorem bis_leave (hR : ∀ z ∈ rows, z.length = R) (hR1 : 1 ≤ R) (hwt : 1 ≤ wt ∧ wt ≤ 1024) (hn : n ≤ 1073741824) (hb : BB rows wt n x r) (hq : BQ rows wt x r) (hbusy : x.busy = true) :
    Bis rows wt n x.leaveS.1 r.leaveR.1 ∧ x.leaveS.2 = elMR r.leaveR.2 := by
  obtain ⟨row, g1, g2, g3⟩ := hq.row
  have hnb := hb.nowb
  have hgd : r.rows.getD r.part [] = row := by rw [hb.rr]; simp [List.getD, g1]
  have ht : x.left.tail = row.drop (r.left + 1) := by rw [g2, List.tail_drop]
  by_cases hlt : r.left + 1 < row.length
  · obtain ⟨to, rest, htr⟩ : ∃ to rest, row.drop (r.left + 1) = to :: rest := ⟨_, _, List.drop_eq_getElem_cons hlt⟩
    have el : x.leaveS = (({ x with left := to :: rest } : XS).askS, [qMsg to { x with left := to :: rest }]) := by unfold XS.leaveS; rw [ht, htr]
    have er : r.leaveR = (({ r with left := r.left + 1 } : RS).askR, [({ r with left := r.left + 1 } : RS).qm]) := by unfold RS.leaveR; rw [hgd, if_pos hlt]
    have hd : ({ x with left := to :: rest } : XS).askS.due = x.now + wt := by
      show IntKind.i64.wrap (x.now + x.wait) = _
      rw [hb.xw, wrap_small (by omega) (by omega)]
    rw [el, er]
    have hq1 : BQ rows wt ({ x with left := to :: rest } : XS).askS ({ r with left := r.left + 1 } : RS).askR := ⟨hq.part, hq.plt, ⟨row, g1, htr.symm, hlt⟩, by rw [hd]; show _ = r.now + wt; rw [hb.now], hq.read, hq.of, hq.lost, hq.strA, hq.strP⟩
    refine ⟨⟨⟨hb.xr, hb.rr, hb.xw, hb.rw_, hb.now, hb.nowb, hb.job, hb.ver, hb.on, hb.ended, hb.lj, hb.lv, hb.lp, hb.lm, hb.str⟩, fun _ => hq1⟩, ?_⟩
    have hq' : BQ rows wt ({ x with left := to :: rest, due := r.sent + wt } : XS) ({ r with left := r.left + 1 } : RS) := ⟨hq.part, hq.plt, ⟨row, g1, htr.symm, hlt⟩, rfl, hq.read, hq.of, hq.lost, hq.strA, hq.strP⟩
    have hbb' : BB rows wt n ({ x with left := to :: rest, due := r.sent + wt } : XS) ({ r with left := r.left + 1 } : RS) := ⟨hb.xr, hb.rr, hb.xw, hb.rw_, hb.now, hb.nowb, hb.job, hb.ver, hb.on, hb.ended, hb.lj, hb.lv, hb.lp, hb.lm, hb.str⟩
    have := hq'.qm hbb' (to := to) (rest := rest) rfl
    show [_] = [_]
    rw [this]
    rfl
  · have hnil : row.drop (r.left + 1) = [] := List.drop_eq_nil_of_le (by omega)
    obtain ⟨l, k1, k2, k3⟩ := hq.of
    obtain ⟨z1, z2⟩ := zip_filter hq.read k1 k2 rfl k3
    have el : x.leaveS = ({ x with missing := x.missing ++ [x.part], left := [] } : XS).takeS ((r.part + 1 : Nat) : Int) := by
      unfold XS.leaveS
      rw [ht, hnil]
      simp only [hq.part]
      push_cast
      rfl
    have er : r.leaveR = ({ r with left := r.left + 1, read := r.keep.map (·.1), of := r.keep.map (·.2), lost := r.lost ++ [(r.part : Int)] } : RS).goOnR := by unfold RS.leaveR; rw [hgd, if_neg hlt]
    rw [el, er]
    refine bis_go (p := r.part) (x := { x with missing := x.missing ++ [x.part], left := [] }) (r := { r with left := r.left + 1, read := r.keep.map (·.1), of := r.keep.map (·.2), lost := r.lost ++ [(r.part : Int)] }) hR hR1 hwt hn ⟨hb.xr, hb.rr, hb.xw, hb.rw_, hb.now, hb.nowb, hb.job, hb.ver, hb.on, hb.ended, hb.lj, hb.lv, hb.lp, hb.lm, hb.str⟩ hbusy rfl hq.plt z1 ⟨?_, ?_⟩ ?_ hq.strA
    · show (r.keep.map (·.2)).length = _
      unfold RS.keep
      rw [z2]; exact k2
    · intro i hi
      have hi' : i ∈ r.keep.map (·.2) := hi
      unfold RS.keep at hi'
      rw [z2] at hi'
      have := k3 i hi'
      push_cast; omega
    · show r.lost ++ [(r.part : Int)] = x.missing ++ [x.part]
      rw [hq.lost, hq.part]
/-- Begin. -/
theorem bis_begin (hR : ∀ z ∈ rows, z.length = R) (hR1 : 1 ≤ R) (hP : 1 ≤ rows.length) (hwt : 1 ≤ wt ∧ wt ≤ 1024) (hn : n ≤ 1073741824) (h : Bis rows wt n x r) (v : Int) :
    Bis rows wt n (x.beginS v).x (r.beginR v).1 ∧ (x.beginS v).out = elMR (r.beginR v).2.1 ∧ (x.beginS v).err = (r.beginR v).2.2 := by
  have hb := h.base
  have hnb := hb.nowb
  unfold XS.beginS RS.beginR
  rw [hb.on]
  split
  · exact ⟨h, rfl, rfl⟩
  · split
    · exact ⟨h, rfl, rfl⟩
    · have er : rows[0]? = some rows[0] := List.getElem?_eq_getElem (by omega)
      have hl := hR _ (List.getElem_mem (l := rows) (n := 0) (by omega))
      generalize rows[0] = row at er hl
      obtain ⟨to, rest, rfl⟩ : ∃ to rest, row = to :: rest := by
        cases row with
        | nil => simp at hl; omega
        | cons to rest => exact ⟨to, rest, rfl⟩
      have et : ({ x with busy := true, job := IntKind.i64.wrap (x.job + 1), version := v, all := [], missing := [] } : XS).takeS 0 = (({ x with busy := true, job := IntKind.i64.wrap (x.job + 1), version := v, all := [], missing := [], part := 0, pairs := [], left := to :: rest } : XS).askS, [qMsg to { x with busy := true, job := IntKind.i64.wrap (x.job + 1), version := v, all := [], missing := [], part := 0, pairs := [], left := to :: rest }]) := by
        unfold XS.takeS
        have h0 : ¬ (0 : Int) = x.rows.length := by rw [hb.xr]; omega
        simp only [h0, if_false]
        simp only [show (0 : Int).toNat = 0 from rfl, hb.xr, er]
      rw [et]
      have hd : ({ x with busy := true, job := IntKind.i64.wrap (x.job + 1), version := v, all := [], missing := [], part := 0, pairs := [], left := to :: rest } : XS).askS.due = x.now + wt := by
        show IntKind.i64.wrap (x.now + x.wait) = _
        rw [hb.xw, wrap_small (by omega) (by omega)]
      have hq1 : BQ rows wt ({ x with busy := true, job := IntKind.i64.wrap (x.job + 1), version := v, all := [], missing := [], part := 0, pairs := [], left := to :: rest } : XS).askS (r.begun v).askR :=
        ⟨rfl, hP, ⟨to :: rest, er, rfl, by show 0 < (to :: rest).length; simp⟩, by rw [hd]; show _ = r.now + wt; rw [hb.now], rfl, ⟨[], rfl, rfl, by simp⟩, rfl, (fun p hp => by cases hp), (fun p hp => by cases hp)⟩
      refine ⟨⟨⟨hb.xr, hb.rr, hb.xw, hb.rw_, hb.now, hb.nowb, by show IntKind.i64.wrap (r.job + 1) = IntKind.i64.wrap (x.job + 1); rw [hb.job], rfl, rfl, hb.ended, hb.lj, hb.lv, hb.lp, hb.lm, hb.str⟩, fun _ => hq1⟩, ?_, rfl⟩
      have hq' : BQ rows wt ({ x with busy := true, job := IntKind.i64.wrap (x.job + 1), version := v, all := [], missing := [], part := 0, pairs := [], left := to :: rest, due := r.sent + wt } : XS) (r.begun v) :=
        ⟨rfl, hP, ⟨to :: rest, er, rfl, by show 0 < (to :: rest).length; simp⟩, rfl, rfl, ⟨[], rfl, rfl, by simp⟩, rfl, (fun p hp => by cases hp), (fun p hp => by cases hp)⟩
      have hbb' : BB rows wt n ({ x with busy := true, job := IntKind.i64.wrap (x.job + 1), version := v, all := [], missing := [], part := 0, pairs := [], left := to :: rest, due := r.sent + wt } : XS) (r.begun v) := ⟨hb.xr, hb.rr, hb.xw, hb.rw_, hb.now, hb.nowb, by show IntKind.i64.wrap (r.job + 1) = IntKind.i64.wrap (x.job + 1); rw [hb.job], rfl, rfl, hb.ended, hb.lj, hb.lv, hb.lp, hb.lm, hb.str⟩
      have := hq'.qm hbb' (to := to) (rest := rest) rfl
      show [_] = [_]
      rw [this]
      rfl
/-- Tick. -/
theorem bis_tick (hR : ∀ z ∈ rows, z.length = R) (hR1 : 1 ≤ R) (hwt : 1 ≤ wt ∧ wt ≤ 1024) (hn : n + 1 ≤ 1073741824) (h : Bis rows wt n x r) :
    Bis rows wt (n + 1) x.tickS.1 r.tickR.1 ∧ x.tickS.2 = elMR r.tickR.2 := by
  have hb := h.base
  have hnb := hb.nowb
  have hw1 : IntKind.i64.wrap (x.now + 1) = x.now + 1 := wrap_small (by omega) (by omega)
  have hb1 : BB rows wt (n + 1) ({ x with now := x.now + 1 } : XS) ({ r with now := x.now + 1 } : RS) := ⟨hb.xr, hb.rr, hb.xw, hb.rw_, rfl, ⟨by show 0 ≤ x.now + 1; omega, by show x.now + 1 ≤ n + 1; omega⟩, hb.job, hb.ver, hb.on, hb.ended, hb.lj, hb.lv, hb.lp, hb.lm, hb.str⟩
  have hnow : IntKind.i64.wrap (r.now + 1) = x.now + 1 := by rw [hb.now]; exact hw1
  have hcond : IntKind.i64.wrap (IntKind.i64.wrap (r.now + 1) - r.wait) = x.now + 1 - wt := by rw [hnow, hb.rw_]; exact wrap_small (by omega) (by omega)
  have ex : x.tickS = if x.busy = true ∧ x.now + 1 = x.due then ({ x with now := x.now + 1 } : XS).leaveS else ({ x with now := x.now + 1 }, []) := by unfold XS.tickS; rw [hw1]
  have er : r.tickR = if r.on = true ∧ r.sent = x.now + 1 - wt then ({ r with now := x.now + 1 } : RS).leaveR else ({ r with now := x.now + 1 }, []) := by unfold RS.tickR; rw [hcond, hnow]
  rw [ex, er]
  by_cases hbusy : x.busy = true
  · have hq := h.busy hbusy
    have hon : r.on = true := by rw [hb.on]; exact hbusy
    have hq1 : BQ rows wt ({ x with now := x.now + 1 } : XS) ({ r with now := x.now + 1 } : RS) := ⟨hq.part, hq.plt, hq.row, hq.due, hq.read, hq.of, hq.lost, hq.strA, hq.strP⟩
    have hdue := hq.due
    by_cases hd : x.now + 1 = x.due
    · rw [if_pos ⟨hbusy, hd⟩, if_pos ⟨hon, by omega⟩]
      exact bis_leave hR hR1 hwt (by omega) hb1 hq1 hbusy
    · rw [if_neg (fun hh => hd hh.2), if_neg (fun hh => hd (by have := hh.2; omega))]
      exact ⟨⟨hb1, fun _ => hq1⟩, rfl⟩
  · rw [if_neg (fun hh => hbusy hh.1), if_neg (fun hh => hbusy (by rw [← hb.on]; exact hh.1))]
    exact ⟨⟨hb1, fun hh => absurd hh hbusy⟩, rfl⟩
/-- Take. -/
theorem bis_tell (hR : ∀ z ∈ rows, z.length = R) (hR1 : 1 ≤ R) (hwt : 1 ≤ wt ∧ wt ≤ 1024) (hn : n ≤ 1073741824) (hok : XOk x) (h : Bis rows wt n x r) {m : Ms} (hm : StrP (m.key, m.value)) :
    Bis rows wt n (x.tellS m).1 (r.tellR m).1 ∧ (x.tellS m).2 = elMR (r.tellR m).2 := by
  have hb := h.base
  have hnb := hb.nowb
  by_cases hbusy : x.busy = true
  case neg =>
    have e1 : x.tellS m = (x, []) := by unfold XS.tellS; rw [if_pos (fun hh => hbusy hh.1)]
    have e2 : r.tellR m = (r, []) := by unfold RS.tellR; rw [if_pos (fun hh => hbusy (by rw [← hb.on]; exact hh.1))]
    rw [e1, e2]
    exact ⟨h, rfl⟩
  have hq := h.busy hbusy
  obtain ⟨to, rest, hl, hgd⟩ := hq.to hb.rr
  obtain ⟨o1, o2, o3, o4, o5, o6⟩ := hok.busy hbusy
  have hfit : x.fits m ↔ r.fitsR m := by
    unfold XS.fits RS.fitsR
    rw [hl, hgd, hb.job, hb.ver, hq.part, hq.cnt]
    simp only [List.head?_cons, Option.some.injEq]
    constructor
    · rintro ⟨h1, h2, h3⟩; exact ⟨h1, h2.symm, h3⟩
    · rintro ⟨h1, h2, h3⟩; exact ⟨h1, h2.symm, h3⟩
  by_cases hf : x.fits m
  case neg =>
    have e1 : x.tellS m = (x, []) := by unfold XS.tellS; rw [if_pos (fun hh => hf hh.2)]
    have e2 : r.tellR m = (r, []) := by unfold RS.tellR; rw [if_pos (fun hh => hf (hfit.2 hh.2))]
    rw [e1, e2]
    exact ⟨h, rfl⟩
  have hfr := hfit.1 hf
  have hon : r.on = true := by rw [hb.on]; exact hbusy
  obtain ⟨l, k1, k2, k3⟩ := hq.of
  by_cases hc : m.code = 16
  · have e1 : x.tellS m = ({ x with all := x.all ++ x.pairs } : XS).takeS ((r.part + 1 : Nat) : Int) := by
      unfold XS.tellS
      rw [if_neg (not_not_intro ⟨hbusy, hf⟩), if_pos hc, hq.part]
      push_cast
      rfl
    have e2 : r.tellR m = r.goOnR := by unfold RS.tellR; rw [if_neg (not_not_intro ⟨hon, hfr⟩), if_pos hc]
    rw [e1, e2]
    refine bis_go (p := r.part) (x := { x with all := x.all ++ x.pairs }) hR hR1 hwt hn ⟨hb.xr, hb.rr, hb.xw, hb.rw_, hb.now, hb.nowb, hb.job, hb.ver, hb.on, hb.ended, hb.lj, hb.lv, hb.lp, hb.lm, hb.str⟩ hbusy rfl hq.plt hq.read ⟨by rw [k1]; simp [k2], fun i hi => ?_⟩ hq.lost fun y hy => ?_
    · rw [k1] at hi
      rcases List.mem_append.1 hi with hi | hi
      · have := k3 i hi; push_cast; omega
      · have := List.eq_of_mem_replicate hi; push_cast; omega
    · rcases List.mem_append.1 hy with hy | hy
      · exact hq.strA y hy
      · exact hq.strP y hy
  by_cases hlv : m.code ≠ 0 ∨ x.pairs.length = 512
  · have e1 : x.tellS m = x.leaveS := by unfold XS.tellS; rw [if_neg (not_not_intro ⟨hbusy, hf⟩), if_neg hc, if_pos hlv]
    have e2 : r.tellR m = r.leaveR := by
      unfold RS.tellR
      rw [if_neg (not_not_intro ⟨hon, hfr⟩), if_neg hc, if_neg]
      rw [hq.cnt]
      rintro ⟨h1, h2⟩
      rcases hlv with h' | h'
      · exact h' h1
      · omega
    rw [e1, e2]
    exact bis_leave hR hR1 hwt hn hb hq hbusy
  have hlv' : m.code = 0 ∧ x.pairs.length < 512 := by
    constructor
    · by_cases h0 : m.code = 0
      · exact h0
      · exact absurd (.inl h0) hlv
    · have : x.pairs.length ≠ 512 := fun h' => hlv (.inr h')
      omega
  have e1 : x.tellS m = (({ x with pairs := x.pairs ++ [(m.key, m.value)] } : XS).askS, [qMsg m.sender { x with pairs := x.pairs ++ [(m.key, m.value)] }]) := by unfold XS.tellS; rw [if_neg (not_not_intro ⟨hbusy, hf⟩), if_neg hc, if_neg hlv]
  have e2 : r.tellR m = (({ r with read := r.read ++ [(m.key, m.value)], of := r.of ++ [(r.part : Int)] } : RS).askR, [({ r with read := r.read ++ [(m.key, m.value)], of := r.of ++ [(r.part : Int)] } : RS).qm]) := by
    unfold RS.tellR
    rw [if_neg (not_not_intro ⟨hon, hfr⟩), if_neg hc, if_pos ⟨hlv'.1, by rw [hq.cnt]; exact hlv'.2⟩]
  rw [e1, e2]
  have hd : ({ x with pairs := x.pairs ++ [(m.key, m.value)] } : XS).askS.due = x.now + wt := by
    show IntKind.i64.wrap (x.now + x.wait) = _
    rw [hb.xw, wrap_small (by omega) (by omega)]
  have hof : ∃ l, r.of ++ [(r.part : Int)] = l ++ List.replicate (x.pairs ++ [(m.key, m.value)]).length (r.part : Int) ∧ l.length = x.all.length ∧ ∀ i ∈ l, i < (r.part : Int) := by
    refine ⟨l, ?_, k2, k3⟩
    rw [k1, List.length_append, List.length_singleton, List.replicate_succ', List.append_assoc]
  have hst : ∀ p ∈ x.pairs ++ [(m.key, m.value)], StrP p := by
    intro p hp
    rcases List.mem_append.1 hp with hp | hp
    · exact hq.strP p hp
    · simp at hp; subst hp; exact hm
  have hrd : r.read ++ [(m.key, m.value)] = x.all ++ (x.pairs ++ [(m.key, m.value)]) := by rw [hq.read, List.append_assoc]
  have hq1 : BQ rows wt ({ x with pairs := x.pairs ++ [(m.key, m.value)] } : XS).askS ({ r with read := r.read ++ [(m.key, m.value)], of := r.of ++ [(r.part : Int)] } : RS).askR :=
    ⟨hq.part, hq.plt, hq.row, by rw [hd]; show _ = r.now + wt; rw [hb.now], hrd, hof, hq.lost, hq.strA, hst⟩
  refine ⟨⟨⟨hb.xr, hb.rr, hb.xw, hb.rw_, hb.now, hb.nowb, hb.job, hb.ver, hb.on, hb.ended, hb.lj, hb.lv, hb.lp, hb.lm, hb.str⟩, fun _ => hq1⟩, ?_⟩
  have hq' : BQ rows wt ({ x with pairs := x.pairs ++ [(m.key, m.value)], due := r.sent + wt } : XS) ({ r with read := r.read ++ [(m.key, m.value)], of := r.of ++ [(r.part : Int)] } : RS) :=
    ⟨hq.part, hq.plt, hq.row, rfl, hrd, hof, hq.lost, hq.strA, hst⟩
  have hbb' : BB rows wt n ({ x with pairs := x.pairs ++ [(m.key, m.value)], due := r.sent + wt } : XS) ({ r with read := r.read ++ [(m.key, m.value)], of := r.of ++ [(r.part : Int)] } : RS) := ⟨hb.xr, hb.rr, hb.xw, hb.rw_, hb.now, hb.nowb, hb.job, hb.ver, hb.on, hb.ended, hb.lj, hb.lv, hb.lp, hb.lm, hb.str⟩
  have := hq'.qm hbb' (to := to) (rest := rest) hl
  have hs : m.sender = to := by
    have := hf.2.1
    rw [hl] at this
    simp at this
    exact this.symm
  show [_] = [_]
  rw [this, hs]
  rfl
theorem Bis.mono {m : Int} (h : Bis rows wt n x r) (hm : n ≤ m) : Bis rows wt m x r :=
  ⟨⟨h.base.xr, h.base.rr, h.base.xw, h.base.rw_, h.base.now, ⟨h.base.nowb.1, by have := h.base.nowb.2; omega⟩, h.base.job, h.base.ver, h.base.on, h.base.ended, h.base.lj, h.base.lv, h.base.lp, h.base.lm, h.base.str⟩, h.busy⟩
theorem Bis.new (C : Clu) : Bis (rowsF C) C.getwait 0 (XS.new C) (RS.new C) :=
  ⟨⟨rfl, rfl, rfl, rfl, rfl, ⟨Int.le_refl 0, Int.le_refl 0⟩, rfl, rfl, rfl, rfl, rfl, rfl, rfl, rfl, fun p hp => by cases hp⟩, fun h => by cases h⟩
end

end Go.Proofs.YtiggkhmopnhfaaaDoor
