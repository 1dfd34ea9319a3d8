/-
  Layer 15 (control), part H: Begin, Take, Report, New, Resume.
-/
import Derived.Test.YtpiceodfdjihhaaGreatDoorCtlG
import Derived.Test.YtpiceodfdjihhaaGreatDoorRingF
namespace Go.Proofs.YtpiceodfdjihhaaGreatDoor
open Go.Lift
set_option linter.unusedSimpArgs false

section
variable {w : World} {b : Nat} {x : CS} {v : CV} {tag : Nat → Nat}

theorem begin_run (h : Ctl w b x v tag) (hok : COk x) (kind version : Int) :
    Run (F.control_Control_Begin (.pointer (some ⟨b, 0, none⟩)) (.int .i64 kind) (.int .i64 version)) w fun r w' => Got_ w w' b tag (x.beginS kind version) r := by
  unfold F.control_Control_Begin
  have hb := h.c0.blk
  cases hx : x.now with
  | some p =>
    simp [hb, face_some hx]
    rw [show x.beginS kind version = ⟨x, [], 150⟩ from by unfold CS.beginS; rw [hx]; simp]
    exact ⟨_, rfl, Did.none h (Fr.refl _ _)⟩
  | none =>
    have hjob := hok.job
    have hn := hok.n.2
    simp [hb, face_none hx, c0_]
    refine (newLedger_run (n := x.n) (by omega)).mono ?_
    rintro _ w1 ⟨sv, hv, rfl, hf⟩
    refine Run_newSt rfl rfl (by simp [hf.said.1.isCell, hf.holds.1.isCell]) fun c w2 hc hcw f2 hle => ?_
    have hc' : bk w2 c = some [sv, hv, .int .i64 0, .int .i64 1] := hc
    have f02 : Fr (fun _ => False) w w2 := hf.fr.trans f2 fun _ _ => id
    refine Run.mono (Q := fun o w3 => (¬ (1 ≤ kind ∧ kind ≤ 3) ∧ o = .ret (.tuple #[.slice none 0 0, .int .i64 152]) ∧ Fr (fun _ => False) w2 w3) ∨
      (1 ≤ kind ∧ kind ≤ 3 ∧ ∃ p2, o = .norm [.iface (tyOf (if kind = 3 then 4 else kind.toNat)) (.pointer (some ⟨p2, 0, none⟩))] ∧ Fr (fun _ => False) w2 w3 ∧ bk w3 p2 = some [sv, hv, .int .i64 0, .int .i64 1] ∧ wr w3 p2 = true ∧ w2.heap.size ≤ p2)) ?_ ?_
    · simp
      refine Run_cond (fun h1 => ?_) (fun h1 => ?_)
      · obtain rfl : kind = 1 := by simpa using h1
        simp [hc', box4]
        exact Run_new fun p2 w3 hp hw f3 hl => ⟨p2, ⟨rfl, rfl⟩, f3, hp, hw, hl⟩
      refine Run_cond (fun h2 => ?_) (fun h2 => ?_)
      · obtain rfl : kind = 2 := by simpa using h2
        simp [hc', box4]
        exact Run_new fun p2 w3 hp hw f3 hl => ⟨p2, ⟨rfl, rfl⟩, f3, hp, hw, hl⟩
      simp
      refine Run_cond (fun h3 => ?_) (fun h3 => ?_)
      · obtain rfl : kind = 3 := by simpa using h3
        simp [hc', box4]
        exact Run_new fun p2 w3 hp hw f3 hl => ⟨p2, ⟨rfl, rfl⟩, f3, hp, hw, hl⟩
      · simp at h1 h2 h3 ⊢
        exact ⟨by omega, Fr.refl _ _⟩
    · rintro o w3 (⟨hk, rfl, f3⟩ | ⟨k1, k3, p2, rfl, f3, hp, hw, hl⟩)
      · simp
        rw [show x.beginS kind version = ⟨x, [], 152⟩ from by unfold CS.beginS; rw [hx]; simp [hk]]
        exact ⟨_, rfl, Did.none h (f02.trans f3 fun _ _ => id)⟩
      · have f03 : Fr (fun _ => False) w w3 := f02.trans f3 fun _ _ => id
        have hb3 : bk w3 b = some (x.cells v) := f03.bk_some hb id
        have hw3 : wr w3 b = true := by rw [f03.wr (bk_lt hb) id]; exact h.c0.wr
        have hk : ¬ ¬ (1 ≤ kind ∧ kind ≤ 3) := fun hh => hh ⟨k1, k3⟩
        simp
        refine Run.mono (Q := fun o w4 => w4 = w3 ∧ ∃ lo hi, o = .norm [.int .i64 lo, .int .i64 hi] ∧ ((version < lo ∨ hi < version) ↔ ((kind = 3 ∧ version ≠ 0) ∨ (kind ≠ 3 ∧ ¬ (1 ≤ version ∧ version ≤ 999999))))) ?_ ?_
        · refine Run_cond (fun h3 => ?_) (fun h3 => ?_)
          · have h3' : kind = 3 := by simpa using h3
            simp
            exact ⟨0, 0, ⟨rfl, rfl⟩, by omega⟩
          · have h3' : ¬ kind = 3 := by simpa using h3
            simp
            exact ⟨1, 999999, ⟨rfl, rfl⟩, by omega⟩
        · rintro o w4 ⟨rfl, lo, hi, rfl, hbad⟩
          have fin : (version < lo ∨ hi < version) → x.beginS kind version = ⟨x, [], 80⟩ := fun hh => by
            unfold CS.beginS; rw [hx, if_neg (by simp), if_neg hk, if_pos (hbad.1 hh)]
          by_cases hlo : version < lo
          · rw [fin (.inl hlo)]
            simp [hlo]
            exact ⟨_, rfl, Did.none h f03⟩
          by_cases hhi : hi < version
          · rw [fin (.inr hhi)]
            simp [hlo, hhi]
            exact ⟨_, rfl, Did.none h f03⟩
          have hgood : ¬ ((kind = 3 ∧ version ≠ 0) ∨ (kind ≠ 3 ∧ ¬ (1 ≤ version ∧ version ≤ 999999))) := fun hh => (hbad.2 hh).elim hlo hhi
          simp [hlo, hhi, hb3, c4_]
          refine Run_cond (fun hj => ?_) (fun hj => ?_)
          · have hj' : 9007199254740992 ≤ x.job := by simpa using hj
            simp
            rw [show x.beginS kind version = ⟨x, [], 3⟩ from by unfold CS.beginS; rw [hx, if_neg (by simp), if_neg hk, if_neg hgood, if_pos hj']]
            exact ⟨_, rfl, Did.none h f03⟩
          · have hj' : ¬ 9007199254740992 ≤ x.job := by simpa using hj
            have wj : IntKind.i64.wrap (x.job + 1) = x.job + 1 := wrap_small (by omega) (by omega)
            simp [hb3, hw3, c4_, wj, buildV, fillV_cell, cells_len]
            rw [show x.beginS kind version = ⟨(({ x with job := x.job + 1, kind := kind, ver := version } : CS).enterS (if kind = 3 then 4 else kind.toNat)).1, (({ x with job := x.job + 1, kind := kind, ver := version } : CS).enterS (if kind = 3 then 4 else kind.toNat)).2, 0⟩ from by
              unfold CS.beginS; rw [hx, if_neg (by simp), if_neg hk, if_neg hgood, if_neg hj']]
            have f4 : Fr (fun c => c = b) w4 (sto w4 b 4 [Value.int .i64 (x.job + 1), Value.int .i64 kind, Value.int .i64 version]) := (Fr.refl (fun c => c = b) w4).sto (.inl rfl) _ _
            have hb4 : bk (sto w4 b 4 [Value.int .i64 (x.job + 1), Value.int .i64 kind, Value.int .i64 version]) b = some (({ x with job := x.job + 1, kind := kind, ver := version } : CS).cells v) := by
              simp [hb3]; simp [CS.cells, CS.face, hx]
            have hw4 : wr (sto w4 b 4 [Value.int .i64 (x.job + 1), Value.int .i64 kind, Value.int .i64 version]) b = true := by simp [hw3]
            generalize sto w4 b 4 [Value.int .i64 (x.job + 1), Value.int .i64 kind, Value.int .i64 version] = w5 at *
            have hF : ∀ c, c = b → tag c = 1 := fun c he => by rw [he]; exact h.c0.tb
            have g4 : Fr (fun c => c = b) w w5 := (f03.mono fun _ h => h.elim).trans f4 fun _ _ h => h
            have hpb : p2 ≠ b := by have := bk_lt hb; have := f02.size; omega
            have h0 : Ctl0 w5 b ({ x with job := x.job + 1, kind := kind, ver := version } : CS) v tag :=
              ⟨hb4, hw4, h.c0.tb, fun c hc => Nat.lt_of_lt_of_le (h.c0.bound c hc) g4.size,
                ⟨h.c0.lh.1.fr g4 (fun c hc he => by have := h.c0.lh.2 c hc; rw [hF c he] at this; cases this), h.c0.lh.2⟩,
                ⟨h.c0.lm.1.fr g4 (fun c hc he => by have := h.c0.lm.2 c hc; rw [hF c he] at this; cases this), h.c0.lm.2⟩⟩
            refine (phase_run (x := ({ x with job := x.job + 1, kind := kind, ver := version } : CS)) h.c0.bound (by split <;> omega) hn hf (((f2.trans f3 fun _ _ => id).mono fun _ h => h.elim).trans f4 fun _ _ h => h) h0 (f4.bk_some hp hpb) ?_ ?_).mono ?_
            · rw [f4.wr (bk_lt hp) hpb]; exact hw
            · have := f2.size; omega
            · intro r w' hd
              exact ⟨r, rfl, hd⟩

/-- Is one of them false? -/
theorem contains_run {sv : Value} {said : List Bool} (hs : Sl 1 w sv (elB said)) (hn : said.length ≤ 1048576) :
    Run (F.slices_Contains_inst sv (.bool false)) w fun r w' => r = .bool (said.contains false) ∧ w' = w := by
  unfold F.slices_Contains_inst F.slices_Index_inst
  have hsl := hs.lenL
  simp at hsl
  simp [hsl]
  refine Run_for said.length (fun i l w2 => l = [.int .i64 i] ∧ w2 = w ∧ ∀ j, j < i → said[j]? ≠ some false) ⟨rfl, rfl, fun j hj => absurd hj (Nat.not_lt_zero _)⟩ ?_ ?_
  · rintro i l w2 hi ⟨rfl, rfl, hno⟩
    have es : said[i]? = some said[i] := List.getElem?_eq_getElem hi
    obtain ⟨q, q1, q2⟩ := hs.rd1 (i := i) (y := .bool said[i]) (by rw [elB_get, es]; rfl) .i64
    have wk := wrap_succ (n := i) (by omega)
    simp [hi, q1, q2]
    refine Run_cond (fun h => ?_) (fun h => ?_)
    · have h' : said[i] = true := by simpa using h
      simp [wk]
      intro j hj
      rcases Nat.lt_or_eq_of_le (Nat.lt_succ_iff.1 hj) with h1 | rfl
      · exact hno j h1
      · rw [es, h']; simp
    · have h' : said[i] = false := by simpa using h
      have hm : false ∈ said := h' ▸ List.getElem_mem hi
      simp [hm]
  · rintro l w2 ⟨rfl, rfl, hno⟩
    have hm : ¬ false ∈ said := fun hm => by
      obtain ⟨j, hj⟩ := List.mem_iff_getElem?.1 hm
      exact hno j (List.getElem?_eq_some_iff.1 hj).1 hj
    simp [hm]

theorem elB_set (l : List Bool) (i : Nat) (c : Bool) (e : List Value) (he : e.length = 1) : (elB l).set i (setL e 0 [.bool c]) = elB (l.set i c) := by
  obtain ⟨y, rfl⟩ := List.length_eq_one_iff.1 he
  rw [show setL [y] 0 [.bool c] = (fun b : Bool => [Value.bool b]) c from rfl]
  simp only [elB, List.map_set]
theorem elI_setL (l : List Int) (i : Nat) (c : Int) (e : List Value) (he : e.length = 1) : (elI l).set i (setL e 0 [.int .i64 c]) = elI (l.set i c) := by
  obtain ⟨y, rfl⟩ := List.length_eq_one_iff.1 he
  rw [show setL [y] 0 [.int .i64 c] = (fun b : Int => [Value.int .i64 b]) c from rfl]
  simp only [elI, List.map_set]
/-- A node has answered. -/
theorem Ctl.setSaid (h : Ctl w b x v tag) {p : Ph} (hx : x.now = some p) {i : Nat} (hi : i < p.said.length) :
    ∃ q o, idxA 1 v.sv (.int .i64 i) = some (.pointer (some ⟨q, o, none⟩)) ∧ okAt w q o 1 ∧ Fr (fun c => tag c ≠ 0) w (sto w q o [.bool true]) ∧ Ctl (sto w q o [.bool true]) b { x with now := some { p with said := p.said.set i true } } v tag := by
  have hp := h.now p hx
  have es : (elB p.said)[i]? = some [.bool p.said[i]] := by rw [elB_get, List.getElem?_eq_getElem hi]; rfl
  obtain ⟨q, o, c1, c2, c3, c4, c5⟩ := hp.said.put es .i64
  obtain ⟨c6, c7⟩ := c5 0 [.bool true] (by simp)
  have hq : tag q = 3 := hp.ts q c2
  have f : Fr (fun c => c = q) w (sto w q o [.bool true]) := (Fr.refl (fun c => c = q) w).sto (.inl rfl) _ _
  have hF : ∀ c, c = q → tag c = 3 := fun c he => by rw [he]; exact hq
  refine ⟨q, o, c1, c4, (Fr.refl (fun c => tag c ≠ 0) w).sto (.inl (by rw [hq]; decide)) _ _, ⟨?_, fun r hr => ?_⟩⟩
  · have h1 := h.c0.fr f fun c he => by rw [hF c he]; decide
    refine ⟨?_, h1.wr, h1.tb, h1.bound, h1.lh, h1.lm⟩
    have := h1.blk
    rw [show (({ x with now := some { p with said := p.said.set i true } } : CS).cells v) = x.cells v from by simp [CS.cells, CS.face, hx]]
    exact this
  · cases hr
    have hb : v.p ≠ q := fun he => by have := hp.tp; rw [he, hq] at this; cases this
    refine ⟨f.bk_some hp.blk hb, by rw [f.wr (bk_lt hp.blk) hb]; exact hp.wr, hp.tp, ?_, hp.ts, hp.holds.fr f fun c hc he => (by have := hp.th c hc; rw [hF c he] at this; cases this), hp.th⟩
    rw [elB_set _ _ _ _ rfl] at c7
    exact c7
/-- What it holds. -/
theorem Ctl.setHeld (h : Ctl w b x v tag) {p : Ph} (hx : x.now = some p) {i : Nat} (hi : i < p.holds.length) (n : Int) :
    ∃ q o, idxA 1 v.hv (.int .i64 i) = some (.pointer (some ⟨q, o, none⟩)) ∧ okAt w q o 1 ∧ Fr (fun c => tag c ≠ 0) w (sto w q o [.int .i64 n]) ∧ Ctl (sto w q o [.int .i64 n]) b { x with now := some { p with holds := p.holds.set i n } } v tag := by
  have hp := h.now p hx
  have es : (elI p.holds)[i]? = some [.int .i64 p.holds[i]] := by rw [elI_get, List.getElem?_eq_getElem hi]; rfl
  obtain ⟨q, o, c1, c2, c3, c4, c5⟩ := hp.holds.put es .i64
  obtain ⟨c6, c7⟩ := c5 0 [.int .i64 n] (by simp)
  have hq : tag q = 4 := hp.th q c2
  have f : Fr (fun c => c = q) w (sto w q o [.int .i64 n]) := (Fr.refl (fun c => c = q) w).sto (.inl rfl) _ _
  have hF : ∀ c, c = q → tag c = 4 := fun c he => by rw [he]; exact hq
  refine ⟨q, o, c1, c4, (Fr.refl (fun c => tag c ≠ 0) w).sto (.inl (by rw [hq]; decide)) _ _, ⟨?_, fun r hr => ?_⟩⟩
  · have h1 := h.c0.fr f fun c he => by rw [hF c he]; decide
    refine ⟨?_, h1.wr, h1.tb, h1.bound, h1.lh, h1.lm⟩
    have := h1.blk
    rw [show (({ x with now := some { p with holds := p.holds.set i n } } : CS).cells v) = x.cells v from by simp [CS.cells, CS.face, hx]]
    exact this
  · cases hr
    have hb : v.p ≠ q := fun he => by have := hp.tp; rw [he, hq] at this; cases this
    refine ⟨f.bk_some hp.blk hb, by rw [f.wr (bk_lt hp.blk) hb]; exact hp.wr, hp.tp, hp.said.fr f fun c hc he => (by have := hp.ts c hc; rw [hF c he] at this; cases this), hp.ts, ?_, hp.th⟩
    rw [elI_setL _ _ _ _ rfl] at c7
    exact c7
theorem take_run (h : Ctl w b x v tag) (hok : COk x) (m : Ms) (hm : m.fine) :
    Run (F.control_Control_Take (.pointer (some ⟨b, 0, none⟩)) m.val) w fun r w' => Got_ w w' b tag ⟨(x.takeS m).1, (x.takeS m).2, 0⟩ r := by
  unfold F.control_Control_Take
  have hb := h.c0.blk
  simp [Ms.val]
  refine Run_new fun c w1 hc hcw f1 hle => ?_
  have hc' : bk w1 c = some m.cells := hc
  have hb1 : bk w1 b = some (x.cells v) := f1.bk_some hb id
  cases hx : x.now with
  | none =>
    simp [hb1, face_none hx]
    rw [show x.takeS m = (x, []) from by unfold CS.takeS; rw [hx]]
    exact ⟨_, rfl, Did.none h f1.drew⟩
  | some p =>
    have hp := hok.now p hx
    have hcp := h.now p hx
    have hn := hok.n.2
    have m0 : m.cells[0]? = some (.int .i64 m.kind) := rfl
    have m1 : m.cells[1]? = some (.int .i64 m.sender) := rfl
    have m3 : m.cells[3]? = some (.int .i64 m.id) := rfl
    have m6 : m.cells[6]? = some (.int .i64 m.version) := rfl
    have m8 : m.cells[8]? = some (.int .i64 m.code) := rfl
    have mlen : m.cells.length = 11 := rfl
    have no : ¬ (0 ≤ m.sender ∧ m.sender < x.n ∧ m.id = x.job) → x.takeS m = (x, []) := fun hh => by
      unfold CS.takeS; rw [hx]; simp only; rw [if_pos (fun hh' => hh ⟨hh'.1, hh'.2.1, hh'.2.2.1⟩)]
    simp [hb1, face_some hx, hc', m1]
    by_cases a1 : m.sender < 0
    · simp [a1]
      rw [no (by omega)]
      exact ⟨_, rfl, Did.none h f1.drew⟩
    simp [a1, hc', m1, hb1, c0_]
    by_cases a2 : (x.n : Int) ≤ m.sender
    · simp [a2]
      rw [no (by omega)]
      exact ⟨_, rfl, Did.none h f1.drew⟩
    simp [a2, hc', m3, hb1, c4_]
    by_cases a3 : m.id = x.job
    case neg =>
      simp [a3]
      rw [no (fun hh => a3 hh.2.2)]
      exact ⟨_, rfl, Did.none h f1.drew⟩
    simp [a3, hb1, face_some hx, cells_len, hc', mlen]
    obtain ⟨i, hi⟩ : ∃ i : Nat, m.sender = i := ⟨m.sender.toNat, by omega⟩
    have hin : i < x.n := by omega
    have ht : m.sender.toNat = i := by omega
    refine (take_fits x hp.kind m _).mono ?_
    rintro _ w2 ⟨rfl, f2⟩
    have f02 : Fr (fun _ => False) w w2 := f1.drew.trans f2 fun _ _ => id
    have hC := h.fr0 f02
    have hc2 : bk w2 c = some m.cells := f2.bk_some hc' id
    have hb2 := hC.c0.blk
    have hpb2 : bk w2 v.p = some [v.sv, v.hv, .int .i64 p.ticks, .int .i64 p.sends] := (hC.now p hx).blk
    simp
    by_cases hfit : x.fits p m = true
    case neg =>
      simp [hfit]
      rw [show x.takeS m = (x, []) from by unfold CS.takeS; rw [hx]; simp only; rw [if_pos (fun hh => hfit hh.2.2.2)]]
      exact ⟨_, rfl, Did.none h f02⟩
    have hcond : ¬ ¬ (0 ≤ m.sender ∧ m.sender < x.n ∧ m.id = x.job ∧ x.fits p m = true) := fun hh => hh ⟨by omega, by omega, a3, hfit⟩
    have esaid : p.said[i]? = some (p.said[i]'(by rw [hp.said]; exact hin)) := List.getElem?_eq_getElem _
    obtain ⟨q, q1, q2⟩ := (hC.now p hx).said.1.rd1 (i := i) (y := .bool (p.said[i]'(by rw [hp.said]; exact hin))) (by rw [elB_get, esaid]; rfl) .i64
    simp [hfit, hb2, face_some hx, take_book hp.kind, hpb2, hc2, m1, hi, q1, q2]
    refine Run_cond (fun hs => ?_) (fun hs => ?_)
    · rw [show x.takeS m = (x, []) from by unfold CS.takeS; rw [hx]; simp only; rw [if_neg hcond, ht, esaid, if_pos (by rw [hs])]]
      simp
      exact ⟨_, rfl, Did.none h f02.drew⟩
    have hsaid : ¬ p.said[m.sender.toNat]? = some true := by rw [ht, esaid, hs]; simp
    have hsn : p.said.length ≤ 64 := by rw [hp.said]; exact hn
    have hhn : p.holds.length ≤ 64 := by rw [hp.holds]; exact hn
    simp [hc2, m8]
    by_cases hcode : m.code = 0
    case neg =>
      simp [hcode, hb2, face_some hx]
      rw [show x.takeS m = x.refusedS p from by unfold CS.takeS; rw [hx]; simp only; rw [if_neg hcond, if_neg hsaid, if_pos hcode]]
      refine (take_refused (hC.fr0 (Fr.refl _ _).drew) hx hp.kind hn ⟨hsn, hhn⟩ _).mono ?_
      intro r w' hd
      exact ⟨r, rfl, hd.sub (f02.drew.mono fun _ h => h.elim)⟩
    have hkind : m.kind = 2 * p.kind + 2 := by
      unfold CS.fits at hfit
      simp only [Bool.and_eq_true, decide_eq_true_eq] at hfit
      exact hfit.1.1
    have hC' : Ctl w2.drew.drew b x v tag := (hC.fr0 (Fr.refl _ _).drew).fr0 (Fr.refl _ _).drew
    obtain ⟨q3, o3, i3, ok3, f3, hC3⟩ := hC'.setSaid hx (i := i) (by rw [hp.said]; exact hin)
    simp [hcode, hpb2, hc2, m1, hi, i3, ok3]
    have fw3 : Fr (fun c => tag c ≠ 0) w (sto w2.drew.drew q3 o3 [Value.bool true]) := (f02.drew.drew.mono fun _ h => h.elim).trans f3 fun _ _ h => h
    have hc3 : bk (sto w2.drew.drew q3 o3 [Value.bool true]) c = some m.cells := f3.bk_some hc2 fun h' => by have := h.c0.bound c h'; omega
    have hok3 : (∃ l, bk w2 q3 = some l ∧ o3 + 1 ≤ l.length) ∧ wr w2 q3 = true := ok3
    have htk : p.take m = { p with said := p.said.set i true, holds := if p.kind = 1 then p.holds else p.holds.set i m.version } := by unfold Ph.take; rw [ht]
    generalize sto w2.drew.drew q3 o3 [Value.bool true] = w3 at *
    refine ⟨hok3.1, ?_⟩
    have hpb3 : bk w3 v.p = some [v.sv, v.hv, .int .i64 p.ticks, .int .i64 p.sends] := (hC3.now _ rfl).blk
    simp [hc3, m0]
    refine Run.mono (Q := fun o w4 => o = Out.norm [] ∧ Fr (fun c => tag c ≠ 0) w w4 ∧ Ctl w4 b { x with now := some (p.take m) } v tag) ?_ ?_
    · by_cases hk4 : m.kind = 4
      · have hp1 : p.kind = 1 := by omega
        simp [hk4]
        refine ⟨fw3, ?_⟩
        rw [htk, if_pos hp1]
        exact hC3
      · have hp1 : ¬ p.kind = 1 := by omega
        obtain ⟨q5, o5, i5, ok5, f5, hC5⟩ := (hC3.fr0 (Fr.refl _ _).drew).setHeld rfl (i := i) (by rw [hp.holds]; exact hin) m.version
        have hok5 : (∃ l, bk w3 q5 = some l ∧ o5 + 1 ≤ l.length) ∧ wr w3 q5 = true := ok5
        simp [hk4, hpb3, hc3, m1, m6, hi, i5]
        refine ⟨hok5.1, hok5.2, fw3.drew.trans f5 fun _ _ h => h, ?_⟩
        rw [htk, if_neg hp1]
        exact hC5
    · rintro o w4 ⟨rfl, fw4, hC4⟩
      have hpt := hp.take m
      have hpb4 : bk w4 v.p = some [v.sv, v.hv, .int .i64 p.ticks, .int .i64 p.sends] := (hC4.now _ rfl).blk
      simp [hpb4]
      refine (contains_run (hC4.now _ rfl).said.1 (by rw [hpt.said]; omega)).mono ?_
      rintro _ w5 ⟨rfl, rfl⟩
      refine Run_cond (fun hall => ?_) (fun hall => ?_)
      · simp
        rw [show x.takeS m = ({ x with now := some (p.take m) }, []) from by unfold CS.takeS; rw [hx]; simp only; rw [if_neg hcond, if_neg hsaid, if_neg (by rw [hcode]; simp), if_pos hall]]
        exact ⟨_, rfl, (Did.none hC4 (Fr.refl _ _)).sub fw4⟩
      · have hb4 := hC4.c0.blk
        simp [hb4, face_some (x := { x with now := some (p.take m) }) rfl]
        rw [show x.takeS m = ({ x with now := some (p.take m) } : CS).doneS (p.take m) from by unfold CS.takeS; rw [hx]; simp only; rw [if_neg hcond, if_neg hsaid, if_neg (by rw [hcode]; simp), if_neg (by rw [hall]; simp)]]
        refine (take_done hC4 rfl hpt.kind hn ⟨by rw [hpt.said]; exact hn, by rw [hpt.holds]; exact hn⟩ _).mono ?_
        intro r w' hd
        exact ⟨r, rfl, hd.sub fw4⟩
end

end Go.Proofs.YtpiceodfdjihhaaGreatDoor
