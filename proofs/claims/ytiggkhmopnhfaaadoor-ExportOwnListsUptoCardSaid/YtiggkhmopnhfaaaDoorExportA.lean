/-
  Layer 21 (export), part A: the exporter in memory, and what its calls come to.
-/
import Derived.Test.YtiggkhmopnhfaaaDoorRingG
import Derived.Test.YtiggkhmopnhfaaaDoorGZ
namespace Go.Proofs.YtiggkhmopnhfaaaDoor
open Go.Lift
set_option linter.unusedSimpArgs false

/-- A pair: its two cells. -/
abbrev Pr := Value × Value
def elP (l : List Pr) : List (List Value) := l.map fun p => [p.1, p.2]
@[simp] theorem elP_len (l : List Pr) : (elP l).length = l.length := by simp [elP]
/-- What an exporter holds. -/
structure XS where
  rows : List (List Int)
  wait : Int
  now : Int
  job : Int
  version : Int
  busy : Bool
  part : Int
  left : List Int
  pairs : List Pr
  due : Int
  all : List Pr
  missing : List Int
  ended : Bool
  lj : Int
  lv : Int
  lp : List Pr
  lm : List Int
/-- The values of its lists. -/
structure XV where
  rows : Value
  left : Value
  pairs : Value
  all : Value
  missing : Value
  lp : Value
  lm : Value
def XS.cells (x : XS) (v : XV) : List Value :=
  [v.rows, .int .i64 x.wait, .int .i64 x.now, .int .i64 x.job, .int .i64 x.version, .bool x.busy, .int .i64 x.part, v.left, v.pairs, .int .i64 x.due, v.all, v.missing, .bool x.ended, .int .i64 x.lj, .int .i64 x.lv, v.lp, v.lm]
/-- All blocks of v are marked k. -/
def Tg (tag : Nat → Nat) (k : Nat) (v : Value) : Prop := ∀ c, inB v c → tag c = k
/-- The exporter's block, its rows, its last report. -/
structure X0 (w : World) (b : Nat) (x : XS) (v : XV) (tag : Nat → Nat) : Prop where
  blk : bk w b = some (x.cells v)
  wr : wr w b = true
  tb : tag b = 1
  bound : ∀ c, tag c ≠ 0 → c < w.heap.size
  rows : ∃ rvs : List Value, rvs.length = x.rows.length ∧ Sl 1 w v.rows (rvs.map fun r => [r]) ∧ ∀ (i : Nat) (r : Value) (row : List Int), rvs[i]? = some r → x.rows[i]? = some row → Ints w r row ∧ Tg tag 5 r
  trows : Tg tag 5 v.rows
  lp : Sl 2 w v.lp (elP x.lp) ∧ Tg tag 5 v.lp
  lm : Ints w v.lm x.lm ∧ Tg tag 5 v.lm
/-- What was read, and the partitions that are missing. -/
structure XA (w : World) (x : XS) (v : XV) (tag : Nat → Nat) : Prop where
  all : SlW 2 w v.all (elP x.all)
  tall : Tg tag 3 v.all
  missing : SlW 1 w v.missing (elI x.missing)
  tmissing : Tg tag 4 v.missing
/-- The partition that is taken up. -/
structure XP (w : World) (x : XS) (v : XV) (tag : Nat → Nat) : Prop where
  left : Ints w v.left x.left
  tleft : Tg tag 5 v.left
  pairs : SlW 2 w v.pairs (elP x.pairs)
  tpairs : Tg tag 2 v.pairs

section
variable {w w' : World} {b : Nat} {x x' : XS} {v v' : XV} {tag : Nat → Nat} {F : Nat → Prop}
theorem X0.fr (h : X0 w b x v tag) (f : Fr F w w') (hF : ∀ c, F c → tag c ≠ 5 ∧ c ≠ b) : X0 w' b x v tag where
  blk := f.bk_some h.blk fun hb => (hF _ hb).2 rfl
  wr := by rw [f.wr (bk_lt h.blk) fun hb => (hF _ hb).2 rfl]; exact h.wr
  tb := h.tb
  bound := fun c hc => Nat.lt_of_lt_of_le (h.bound c hc) f.size
  rows := by
    obtain ⟨rvs, h1, h2, h3⟩ := h.rows
    exact ⟨rvs, h1, h2.fr f fun c hc hf => (hF c hf).1 (h.trows c hc), fun i r row hr hrow => ⟨(h3 i r row hr hrow).1.fr f fun c hc hf => (hF c hf).1 ((h3 i r row hr hrow).2 c hc), (h3 i r row hr hrow).2⟩⟩
  trows := h.trows
  lp := ⟨h.lp.1.fr f fun c hc hf => (hF c hf).1 (h.lp.2 c hc), h.lp.2⟩
  lm := ⟨h.lm.1.fr f fun c hc hf => (hF c hf).1 (h.lm.2 c hc), h.lm.2⟩
/-- Another state in the same block: the rows and the last report are as they were. -/
theorem X0.set (h : X0 w b x v tag) (f : Fr F w w') (hF : ∀ c, F c → tag c ≠ 5) (hb : bk w' b = some (x'.cells v')) (hw : Go.Lift.wr w' b = true) (hr : x'.rows = x.rows) (hvr : v'.rows = v.rows) (hlp : x'.lp = x.lp) (hlm : x'.lm = x.lm) (hvp : v'.lp = v.lp) (hvm : v'.lm = v.lm) :
    X0 w' b x' v' tag where
  blk := hb
  wr := hw
  tb := h.tb
  bound := fun c hc => Nat.lt_of_lt_of_le (h.bound c hc) f.size
  rows := by
    obtain ⟨rvs, h1, h2, h3⟩ := h.rows
    rw [hr, hvr]
    exact ⟨rvs, h1, h2.fr f fun c hc hf => hF c hf (h.trows c hc), fun i r row hr hrow => ⟨(h3 i r row hr hrow).1.fr f fun c hc hf => hF c hf ((h3 i r row hr hrow).2 c hc), (h3 i r row hr hrow).2⟩⟩
  trows := by rw [hvr]; exact h.trows
  lp := by rw [hlp, hvp]; exact ⟨h.lp.1.fr f fun c hc hf => hF c hf (h.lp.2 c hc), h.lp.2⟩
  lm := by rw [hlm, hvm]; exact ⟨h.lm.1.fr f fun c hc hf => hF c hf (h.lm.2 c hc), h.lm.2⟩
theorem XA.fr (h : XA w x v tag) (f : Fr F w w') (hF : ∀ c, F c → tag c ≠ 3 ∧ tag c ≠ 4) : XA w' x v tag where
  all := h.all.fr f fun c hc hf => (hF c hf).1 (h.tall c hc)
  tall := h.tall
  missing := h.missing.fr f fun c hc hf => (hF c hf).2 (h.tmissing c hc)
  tmissing := h.tmissing
theorem XP.fr (h : XP w x v tag) (f : Fr F w w') (hF : ∀ c, F c → tag c ≠ 2 ∧ tag c ≠ 5) : XP w' x v tag where
  left := h.left.fr f fun c hc hf => (hF c hf).2 (h.tleft c hc)
  tleft := h.tleft
  pairs := h.pairs.fr f fun c hc hf => (hF c hf).1 (h.tpairs c hc)
  tpairs := h.tpairs
end

/-- The question of now. -/
def qMsg (to : Int) (x : XS) : List Value :=
  [.int .i64 15, .int .i64 67, .int .i64 to, .int .i64 x.job, .int .i64 0, .int .i64 x.part, .int .i64 x.version, .int .i64 x.pairs.length, .int .i64 0, .string ByteArray.empty, .string ByteArray.empty]
def XS.askS (x : XS) : XS := { x with due := IntKind.i64.wrap (x.now + x.wait) }

theorem want_run {w : World} {b : Nat} {x : XS} {v : XV} {to : Int} {rest : List Int} (hb : bk w b = some (x.cells v)) (hl : Ints w v.left (to :: rest)) {n : Nat} (hp : lenL v.pairs = some (.int .i64 n)) :
    Run (F.export_Export_want (.pointer (some ⟨b, 0, none⟩))) w fun r w' =>
      r = .agg #[.int .i64 to, .int .i64 x.job, .int .i64 x.part, .int .i64 x.version, .int .i64 n] ∧ Fr (fun _ => False) w w' := by
  unfold F.export_Export_want
  simp
  refine Run_new fun c w1 hc hcw fr1 hcle => ?_
  have hb1 : bk w1 b = some (x.cells v) := fr1.bk_some hb id
  obtain ⟨p, p1, p2⟩ := (hl.fr0 fr1).rd1 (i := 0) (y := .int .i64 to) rfl .i64
  simp at p1
  simp [hb1, XS.cells, p1, p2, hp, buildV, fillV_cell]
  simp [hc, hcw]
  exact fr1.drew.sto (.inr hcle) _ _

theorem ask_run {w : World} {b : Nat} {x : XS} {v : XV} {to : Int} {rest : List Int} (hb : bk w b = some (x.cells v)) (hw : wr w b = true) (hl : Ints w v.left (to :: rest)) (hlb : ∀ c, inB v.left c → c ≠ b) (hp : lenL v.pairs = some (.int .i64 x.pairs.length)) :
    Run (F.export_Export_ask (.pointer (some ⟨b, 0, none⟩))) w fun r w' =>
      Fr (fun c => c = b) w w' ∧ bk w' b = some (x.askS.cells v) ∧ wr w' b = true ∧ SlW 11 w' r [qMsg to x] ∧ New w w' r := by
  unfold F.export_Export_ask
  simp [hb, hw, XS.cells, okAt]
  have hb1 : bk (sto w.drew b 9 [Value.int .i64 (IntKind.i64.wrap (x.now + x.wait))]) b = some (x.askS.cells v) := by simp [hb]; rfl
  have hw1 : wr (sto w.drew b 9 [Value.int .i64 (IntKind.i64.wrap (x.now + x.wait))]) b = true := by simp [hw]
  have fr1 : Fr (fun c => c = b) w (sto w.drew b 9 [Value.int .i64 (IntKind.i64.wrap (x.now + x.wait))]) := (Fr.refl (fun c => c = b) w).drew.sto (.inl rfl) _ _
  generalize sto w.drew b 9 [Value.int .i64 (IntKind.i64.wrap (x.now + x.wait))] = w1 at *
  have hl1 : Ints w1 v.left (to :: rest) := hl.fr fr1 hlb
  refine (want_run hb1 hl1 hp).mono ?_
  rintro r w2 ⟨rfl, fr2⟩
  refine Run_newSt rfl rfl rfl fun c w3 hc _ fr3 _ => ?_
  simp [hc, buildV, fillV_cell]
  refine Run_bsl (k := 11) (vs := [_]) rfl (by simp) rfl (by simp [Builtin.zeroCells]) fun r w4 hr fr4 hnew => ?_
  have fr5 : Fr (fun c => c = b) w w4 := ((fr1.trans fr2 fun _ _ h => h.elim).trans fr3 fun _ _ h => h.elim).trans fr4 fun _ _ h => h.elim
  have hb4 : bk w4 b = some (x.askS.cells v) := fr4.bk_some (fr3.bk_some (fr2.bk_some hb1 id) id) id
  have hlt := bk_lt hb1
  have hw4 : wr w4 b = true := by
    rw [fr4.wr (by have := fr2.size; have := fr3.size; omega) id, fr3.wr (by have := fr2.size; omega) id, fr2.wr hlt id]; exact hw1
  refine ⟨fr5, hb4, hw4, hr, fun d hd => ?_⟩
  have := hnew d hd
  have := fr1.size; have := fr2.size; have := fr3.size
  omega

/-- A partition is taken up, or the export ends: the new state, the question if there is one. -/
def XS.takeS (x : XS) (part : Int) : XS × List (List Value) :=
  if part = x.rows.length then ({ x with part := part, pairs := [], busy := false, ended := true, lj := x.job, lv := x.version, lp := x.all, lm := x.missing }, [])
  else match x.rows[part.toNat]? with
    | some (to :: rest) => ({ x with part := part, pairs := [], left := to :: rest }.askS, [qMsg to { x with part := part, pairs := [], left := to :: rest }])
    | _ => (x, [])

/-- The exporter as it may be met. -/
structure Exp (w : World) (b : Nat) (x : XS) (v : XV) (tag : Nat → Nat) : Prop where
  x0 : X0 w b x v tag
  busy : x.busy = true → XA w x v tag ∧ XP w x v tag
/-- The marks of w', where those of w were tag. -/
structure Tags (tag tag' : Nat → Nat) (w w' : World) : Prop where
  old : ∀ c, c < w.heap.size → tag' c = tag c

theorem Tg.old {tag tag' : Nat → Nat} {w : World} {k : Nat} {u : Value} (h : Tg tag k u) (hk : k ≠ 0) (hb : ∀ c, tag c ≠ 0 → c < w.heap.size) (ht : ∀ c, c < w.heap.size → tag' c = tag c) : Tg tag' k u := by
  intro c hc
  have h1 := h c hc
  rw [ht c (hb c (by omega))]
  exact h1
theorem X0.tags {w : World} {b : Nat} {x : XS} {v : XV} {tag tag' : Nat → Nat} {w0 : World} (h : X0 w b x v tag) (hb0 : ∀ c, tag c ≠ 0 → c < w0.heap.size) (ht : ∀ c, c < w0.heap.size → tag' c = tag c) (hb : ∀ c, tag' c ≠ 0 → c < w.heap.size) : X0 w b x v tag' where
  blk := h.blk
  wr := h.wr
  tb := by rw [ht b (hb0 b (by rw [h.tb]; decide))]; exact h.tb
  bound := hb
  rows := by
    obtain ⟨rvs, h1, h2, h3⟩ := h.rows
    exact ⟨rvs, h1, h2, fun i r row hr hrow => ⟨(h3 i r row hr hrow).1, (h3 i r row hr hrow).2.old (by decide) hb0 ht⟩⟩
  trows := h.trows.old (by decide) hb0 ht
  lp := ⟨h.lp.1, h.lp.2.old (by decide) hb0 ht⟩
  lm := ⟨h.lm.1, h.lm.2.old (by decide) hb0 ht⟩
theorem XA.tags {w : World} {x : XS} {v : XV} {tag tag' : Nat → Nat} {w0 : World} (h : XA w x v tag) (hb0 : ∀ c, tag c ≠ 0 → c < w0.heap.size) (ht : ∀ c, c < w0.heap.size → tag' c = tag c) : XA w x v tag' where
  all := h.all
  tall := h.tall.old (by decide) hb0 ht
  missing := h.missing
  tmissing := h.tmissing.old (by decide) hb0 ht
theorem XP.tags {w : World} {x : XS} {v : XV} {tag tag' : Nat → Nat} {w0 : World} (h : XP w x v tag) (hb0 : ∀ c, tag c ≠ 0 → c < w0.heap.size) (ht : ∀ c, c < w0.heap.size → tag' c = tag c) : XP w x v tag' where
  left := h.left
  tleft := h.tleft.old (by decide) hb0 ht
  pairs := h.pairs
  tpairs := h.tpairs.old (by decide) hb0 ht

theorem take_run {w : World} {b : Nat} {x : XS} {v : XV} {tag : Nat → Nat} {part : Int} (h0 : X0 w b x v tag) (ha : XA w x v tag) (hbusy : x.busy = true) (hp : 0 ≤ part) (hp' : part ≤ x.rows.length) (hne : ∀ r ∈ x.rows, r ≠ []) :
    Run (F.export_Export_take (.pointer (some ⟨b, 0, none⟩)) (.int .i64 part)) w fun r w' =>
      ∃ v' tag', Fr (fun c => c = b) w w' ∧ Exp w' b (x.takeS part).1 v' tag' ∧ (∀ c, tag' c ≠ 0 → tag c ≠ 0) ∧ SlW 11 w' r (x.takeS part).2 ∧ New w w' r := by
  unfold F.export_Export_take
  obtain ⟨rvs, hrl, hrs, hrr⟩ := h0.rows
  have hlr := hrs.lenL
  simp [hrl] at hlr
  have ht5 : ∀ c, tag c = 5 → c ≠ b := fun c hc he => by rw [he, h0.tb] at hc; cases hc
  simp [h0.blk, h0.wr, XS.cells, hlr]
  have hb1 : bk (sto (sto w b 6 [Value.int .i64 part]) b 8 [Value.slice none 0 0]) b = some (({ x with part := part, pairs := [] } : XS).cells { v with pairs := .slice none 0 0 }) := by simp [h0.blk]; rfl
  have hw1 : wr (sto (sto w b 6 [Value.int .i64 part]) b 8 [Value.slice none 0 0]) b = true := by simp [h0.wr]
  have fr1 : Fr (fun c => c = b) w (sto (sto w b 6 [Value.int .i64 part]) b 8 [Value.slice none 0 0]) := ((Fr.refl (fun c => c = b) w).sto (.inl rfl) _ _).sto (.inl rfl) _ _
  generalize sto (sto w b 6 [Value.int .i64 part]) b 8 [Value.slice none 0 0] = w1 at *
  refine Run_cond (fun h => ?_) (fun h => ?_)
  · have h' : part = x.rows.length := by simpa using h
    simp [hb1, hw1, XS.cells, buildV, fillV_cell, cells_isCell ha.all.1.isCell, cells_isCell ha.missing.1.isCell, ha.all.1.isCell, ha.missing.1.isCell]
    have hts : x.takeS part = ({ x with part := part, pairs := [], busy := false, ended := true, lj := x.job, lv := x.version, lp := x.all, lm := x.missing }, []) := by unfold XS.takeS; rw [if_pos h']
    rw [hts]
    have f2 : Fr (fun c => c = b) w (sto (sto (sto w1 b 5 [Value.bool false]) b 12 [Value.bool true]).drew b 13 [Value.int .i64 x.job, Value.int .i64 x.version, v.all, v.missing]) :=
      ((fr1.sto (.inl rfl) _ _).sto (.inl rfl) _ _).drew.sto (.inl rfl) _ _
    have hb2 : bk (sto (sto (sto w1 b 5 [Value.bool false]) b 12 [Value.bool true]).drew b 13 [Value.int .i64 x.job, Value.int .i64 x.version, v.all, v.missing]) b =
        some (({ x with part := part, pairs := [], busy := false, ended := true, lj := x.job, lv := x.version, lp := x.all, lm := x.missing } : XS).cells { v with pairs := .slice none 0 0, lp := v.all, lm := v.missing }) := by simp [hb1]; rfl
    have hw2 : wr (sto (sto (sto w1 b 5 [Value.bool false]) b 12 [Value.bool true]).drew b 13 [Value.int .i64 x.job, Value.int .i64 x.version, v.all, v.missing]) b = true := by simp [hw1]
    generalize sto (sto (sto w1 b 5 [Value.bool false]) b 12 [Value.bool true]).drew b 13 [Value.int .i64 x.job, Value.int .i64 x.version, v.all, v.missing] = w2 at *
    have hF : ∀ c, c = b → tag c = 1 := fun c hc => by rw [hc]; exact h0.tb
    have ht3 : ∀ u k, Tg tag k u → k = 3 ∨ k = 4 ∨ k = 5 → Tg (fun c => if tag c = 3 ∨ tag c = 4 then 5 else tag c) 5 u := by
      intro u k hu hk c hc
      have := hu c hc
      simp only [this]
      rcases hk with rfl | rfl | rfl <;> simp
    refine ⟨f2, { v with pairs := .slice none 0 0, lp := v.all, lm := v.missing }, fun c => if tag c = 3 ∨ tag c = 4 then 5 else tag c, ⟨⟨hb2, hw2, ?_, ?_, ⟨rvs, hrl, ?_, ?_⟩, ?_, ⟨?_, ?_⟩, ⟨?_, ?_⟩⟩, fun h => by cases h⟩, ?_, SlW.nil _ _, fun c hc => hc.elim⟩
    · simp [h0.tb]
    · intro c hc
      refine Nat.lt_of_lt_of_le (h0.bound c fun h => hc ?_) f2.size
      simp [h]
    · exact hrs.fr f2 fun c hc he => by have := h0.trows c hc; rw [hF c he] at this; cases this
    · intro i r row hr hrow
      obtain ⟨h1, h2⟩ := hrr i r row hr hrow
      exact ⟨h1.fr f2 fun c hc he => (by have := h2 c hc; rw [hF c he] at this; cases this), ht3 r 5 h2 (by simp)⟩
    · exact ht3 _ 5 h0.trows (by simp)
    · exact ha.all.1.fr f2 fun c hc he => by have := ha.tall c hc; rw [hF c he] at this; cases this
    · exact ht3 _ 3 ha.tall (by simp)
    · exact ha.missing.1.fr f2 fun c hc he => by have := ha.tmissing c hc; rw [hF c he] at this; cases this
    · exact ht3 _ 4 ha.tmissing (by simp)
    · intro c hc h
      exact hc (by simp [h])
  · have h' : ¬ part = x.rows.length := by simpa using h
    obtain ⟨m, rfl⟩ : ∃ m : Nat, part = m := ⟨part.toNat, by omega⟩
    have hm : m < x.rows.length := by omega
    have er : x.rows[m]? = some x.rows[m] := List.getElem?_eq_getElem hm
    obtain ⟨to, rest, hrow⟩ : ∃ to rest, x.rows[m] = to :: rest := by
      have := hne _ (List.getElem_mem hm)
      cases h : x.rows[m] with
      | nil => exact absurd h this
      | cons to rest => exact ⟨to, rest, rfl⟩
    rw [hrow] at er
    have erv : rvs[m]? = some (rvs[m]'(by omega)) := List.getElem?_eq_getElem _
    generalize rvs[m]'(by omega) = rv at erv
    obtain ⟨hI, hT⟩ := hrr m rv _ erv er
    have hF : ∀ c, c = b → tag c = 1 := fun c hc => by rw [hc]; exact h0.tb
    have hrs1 := hrs.fr fr1 fun c hc he => by have := h0.trows c hc; rw [hF c he] at this; cases this
    obtain ⟨p, p1, p2⟩ := hrs1.rd1 (i := m) (y := rv) (by simp [erv]) .i64
    simp [hb1, hw1, XS.cells, p1, p2, cells_isCell hI.isCell, hI.isCell]
    have hb2 : bk (sto w1 b 7 [rv]) b = some (({ x with part := m, pairs := [], left := to :: rest } : XS).cells { v with pairs := .slice none 0 0, left := rv }) := by simp [hb1]; rfl
    have hw2 : wr (sto w1 b 7 [rv]) b = true := by simp [hw1]
    have f2 : Fr (fun c => c = b) w (sto w1 b 7 [rv]) := fr1.sto (.inl rfl) _ _
    generalize sto w1 b 7 [rv] = w2 at *
    have hI2 : Ints w2 rv (to :: rest) := hI.fr f2 fun c hc he => by have := hT c hc; rw [hF c he] at this; cases this
    refine (ask_run hb2 hw2 hI2 (fun c hc he => by have := hT c hc; rw [hF c he] at this; cases this) rfl).mono ?_
    rintro r w3 ⟨f3, hb3, hw3, hs3, hn3⟩
    have hts : x.takeS m = (({ x with part := m, pairs := [], left := to :: rest } : XS).askS, [qMsg to { x with part := m, pairs := [], left := to :: rest }]) := by
      unfold XS.takeS; rw [if_neg h']; simp only [Int.toNat_natCast, er]
    rw [hts]
    have f4 : Fr (fun c => c = b) w w3 := f2.trans f3 fun _ _ h => h
    have hF5 : ∀ c, c = b → tag c ≠ 5 := fun c he h => by rw [hF c he] at h; cases h
    refine ⟨f4, { v with pairs := .slice none 0 0, left := rv }, tag, ⟨h0.set f4 hF5 hb3 hw3 rfl rfl rfl rfl rfl rfl, fun _ => ⟨⟨?_, ha.tall, ?_, ha.tmissing⟩, ⟨?_, hT, SlW.nil _ _, fun c hc => hc.elim⟩⟩⟩, fun c h => h, hs3, fun c hc => ⟨Nat.le_trans f2.size (hn3 c hc).1, (hn3 c hc).2⟩⟩
    · exact ha.all.fr f4 fun c hc he => by have := ha.tall c hc; rw [hF c he] at this; cases this
    · exact ha.missing.fr f4 fun c hc he => by have := ha.tmissing c hc; rw [hF c he] at this; cases this
    · exact hI.fr f4 fun c hc he => by have := hT c hc; rw [hF c he] at this; cases this

end Go.Proofs.YtiggkhmopnhfaaaDoor
