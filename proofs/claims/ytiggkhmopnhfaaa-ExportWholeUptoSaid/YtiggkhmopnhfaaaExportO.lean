/-
  Layer 21 (export), part O: ExportWhole: what goes out, an owner that is left, ticks.
-/
import Derived.Test.YtiggkhmopnhfaaaExportN
namespace Go.Proofs.Ytiggkhmopnhfaaa
open Go.Lift
set_option linter.unusedSimpArgs false

/-- The question of now, if there is one. -/
def XS.outq (x : XS) : List Ms := if x.busy = true then [x.q] else []
theorem XS.outq_fine (x : XS) : ∀ m ∈ x.outq, m.fine := by
  unfold XS.outq
  split
  · intro m hm; simp at hm; subst hm; exact x.q_fine
  · simp
theorem XS.outq_len (x : XS) : x.outq.length ≤ 1 := by unfold XS.outq; split <;> simp

theorem takeS_out {x : XS} {part : Int} (hb : x.busy = true) (hp : 0 ≤ part) (hp' : part ≤ x.rows.length) (hne : ∀ r ∈ x.rows, r ≠ []) : (x.takeS part).2 = elM (x.takeS part).1.outq := by
  unfold XS.takeS
  split
  · rfl
  · rename_i h
    obtain ⟨m, rfl⟩ : ∃ m : Nat, part = m := ⟨part.toNat, by omega⟩
    have hm : m < x.rows.length := by omega
    have er : x.rows[m]? = some x.rows[m] := List.getElem?_eq_getElem hm
    have hn := hne _ (List.getElem_mem hm)
    simp only [Int.toNat_natCast, er]
    cases hx : x.rows[m] with
    | nil => exact absurd hx hn
    | cons to rest =>
      unfold XS.outq
      rw [if_pos (by exact hb)]
      rfl
theorem leaveS_out {x : XS} (hb : x.busy = true) (hok : XOk x) : x.leaveS.2 = elM x.leaveS.1.outq := by
  obtain ⟨h1, h2, h3, h4, h5, h6⟩ := hok.busy hb
  unfold XS.leaveS
  cases hx : x.left.tail with
  | cons to rest =>
    unfold XS.outq
    rw [if_pos (by exact hb)]
    rfl
  | nil => exact takeS_out (x := { x with missing := x.missing ++ [x.part], left := [] }) hb (by omega) (by show x.part + 1 ≤ x.rows.length; omega) hok.ne

/-- An owner failed: what is counted. -/
def TS.leaves (T : TS) (R part : Int) : TS := if T.left + 1 = R then { T with missing := T.missing ++ [part], left := 0 } else { T with left := T.left + 1 }

section
variable {w0 w w' : World} {b t : Nat} {x x' : XS} {T T' : TS} {S S' : List (Nat × List Value)} {v : XV} {tag : Nat → Nat} {ov mv ov' mv' : Value}
theorem leaves_run (h : Tk w0 w b t x T S) {C : Clu} {nv : Value} (hnv : isCell nv = true) (part : Int) (hl : 0 ≤ T.left ∧ T.left ≤ 64) (hm : T.missing.length ≤ 64) :
    Run (F.granarylaw21_talk_leaves (.pointer (some ⟨t, 0, none⟩)) (C.val nv) (.int .i64 part)) w fun _ w' => Tk w0 w' b t x (T.leaves C.replicas part) S := by
  unfold F.granarylaw21_talk_leaves
  simp [Clu.val]
  refine Run_new fun c w1 hc hcw fr1 hcle => ?_
  have hc1 : bk w1 c = some (C.cells nv) := by simpa using hc
  replace h := h.fr0 fr1
  obtain ⟨v, tag, ov, mv, h⟩ := h
  have hb := h.blk
  have hw := h.wr
  have htl := bk_lt hb
  have hct : c ≠ t := by
    rintro rfl
    rw [hc1] at hb
    cases hb
  have wl : IntKind.i64.wrap (T.left + 1) = T.left + 1 := wrap_small (by omega) (by omega)
  simp [hb, hw, TS.cells, hc1, bk_sto_ne hct, Clu.cells, wl]
  have hb1 : bk (sto w1 t 15 [Value.int .i64 (T.left + 1)]).drew t = some (({ T with left := T.left + 1 } : TS).cells b ov mv) := by simp [hb, TS.cells]
  have hw1 : wr (sto w1 t 15 [Value.int .i64 (T.left + 1)]).drew t = true := by simp [hw]
  have f1 : Fr (fun d => d = t) w1 (sto w1 t 15 [Value.int .i64 (T.left + 1)]).drew := ((Fr.refl (fun d => d = t) w1).sto (.inl rfl) _ _).drew
  generalize (sto w1 t 15 [Value.int .i64 (T.left + 1)]).drew = w2 at *
  have h2 := h.num (T' := { T with left := T.left + 1 }) f1 hb1 hw1 h.fine rfl rfl
  refine Run_cond (fun hd => ?_) (fun hd => ?_)
  · have hd' : T.left + 1 = C.replicas := by simpa using hd
    have e : T.leaves C.replicas part = { T with missing := T.missing ++ [part], left := 0 } := by unfold TS.leaves; rw [if_pos hd']
    rw [e]
    simp [hb1, TS.cells]
    refine Run_app1 (k := 1) rfl h2.mis (by decide) rfl (by decide) rfl (by simp; omega) fun mv' w3 hs3 f3 hin w13 f13 => ?_
    have hbm : ¬ inB mv t := fun hc => (h2.misb t hc).2.2.2.1 rfl
    have hb3 : bk w3 t = _ := f3.bk_some (l := _) hb1 hbm
    have hw3 : wr w3 t = true := by rw [f3.wr (bk_lt hb1) hbm]; exact hw1
    have hmc := hs3.1.isCell
    simp [hb3, hw3, TS.cells, cells_isCell hmc, hmc]
    have hb4 : bk (sto (sto w3 t 16 [mv']) t 15 [Value.int .i64 0]) t = some (({ T with missing := T.missing ++ [part], left := 0 } : TS).cells b ov mv') := by simp [hb3, TS.cells]
    have hw4 : wr (sto (sto w3 t 16 [mv']) t 15 [Value.int .i64 0]) t = true := by simp [hw3]
    have g : Fr (fun d => d = t) w3 (sto (sto w3 t 16 [mv']) t 15 [Value.int .i64 0]) := ((Fr.refl (fun d => d = t) w3).sto (.inl rfl) _ _).sto (.inl rfl) _ _
    have htl2 := bk_lt hb1
    have hmt : ∀ d, inB mv' d → d ≠ t := by
      intro d hd he
      rcases hin d hd with h' | h'
      · exact hbm (he ▸ h')
      · omega
    have f4 : Fr (fun d => d = t ∨ inB ov d ∨ inB mv d) w2 (sto (sto w3 t 16 [mv']) t 15 [Value.int .i64 0]) := (f3.mono fun d hd => Or.inr (Or.inr hd)).trans g fun d _ hd => .inl hd
    have hovm : ∀ d, inB ov d → ¬ inB mv d := fun d h1 h' => (h2.misb d h').2.2.2.2 h1
    exact ⟨v, tag, ov, mv', h2.set (T' := { T with missing := T.missing ++ [part], left := 0 }) f4 hb4 hw4 h.fine ((h2.old.fr f3 hovm).fr g fun d hd => (h2.oldb d hd).2.2.2) (fun d hd => .inl hd) (by have := hs3.fr g hmt; rw [← elI_app]; exact this)
      (fun d hd => by rcases hin d hd with h' | h'; exact .inl h'; exact .inr ⟨h'.1, by simpa using h'.2⟩)
      fun d hd ho => by
        rcases hin d hd with h' | h'
        · exact (h2.misb d h').2.2.2.2 ho
        · have := (h2.oldb d ho).2.1; omega⟩
  · have hd' : ¬ T.left + 1 = C.replicas := by simpa using hd
    have e : T.leaves C.replicas part = { T with left := T.left + 1 } := by unfold TS.leaves; rw [if_neg hd']
    rw [e]
    simp
    exact ⟨v, tag, ov, mv, h2⟩

/-- k ticks of wt. -/
def XS.ticksS (x : XS) (wt : Int) (k : Nat) : XS := if (k : Int) = wt then ({ x with now := x.now + wt } : XS).leaveS.1 else { x with now := x.now + k }
theorem ticks_run (h : Tk w0 w b t x T S) {wt : Int} {k : Nat} (hbusy : x.busy = true) (hdue : x.due = x.now + wt) (hk : (k : Int) ≤ wt) (hwt : 1 ≤ wt ∧ wt ≤ 1024) (hn : 0 ≤ x.now ∧ x.now ≤ 1073741824) :
    Run (F.granarylaw21_talk_ticks (.pointer (some ⟨t, 0, none⟩)) (.int .i64 k)) w fun r w' => r = .bool true ∧ Tk w0 w' b t (x.ticksS wt k) (if (k : Int) = wt then T.hear (x.ticksS wt k).outq else T) S := by
  unfold F.granarylaw21_talk_ticks
  simp only [Run_bind]
  refine Run_for k (fun i l w' => l = [.int .i64 i] ∧ Tk w0 w' b t (x.ticksS wt i) (if (i : Int) = wt then T.hear (x.ticksS wt i).outq else T) S) ⟨rfl, ?_⟩ ?_ ?_
  · have e : x.ticksS wt (0 : Nat) = x := by
      unfold XS.ticksS
      rw [if_neg (by omega)]
      simp
    rw [e, if_neg (by omega)]
    exact h
  · rintro i l w1 hi ⟨rfl, h1⟩
    have hiw : ¬ (i : Int) = wt := by omega
    have e1 : x.ticksS wt i = { x with now := x.now + i } := by unfold XS.ticksS; rw [if_neg hiw]
    rw [e1, if_neg hiw] at h1
    have h1' := h1
    obtain ⟨v, tag, ov, mv, h1m⟩ := h1'
    have hb := h1m.blk
    have hi' : (i : Int) < k := by omega
    have ws := wrap_succ (n := i) (by omega)
    have wn : IntKind.i64.wrap (x.now + i + 1) = x.now + i + 1 := wrap_small (by omega) (by omega)
    simp [hi, hb, TS.cells]
    refine h1.tick.mono ?_
    rintro _ w2 ⟨h2, rv, rfl, hs⟩
    have hok1 : XOk { x with now := x.now + (i : Int) } := h1m.ok
    by_cases hd : (i : Int) + 1 = wt
    · have et : ({ x with now := x.now + (i : Int) } : XS).tickS = ({ x with now := x.now + wt } : XS).leaveS := by
        unfold XS.tickS
        simp only [wn]
        have hh : x.busy = true ∧ x.now + (i : Int) + 1 = x.due := ⟨hbusy, by omega⟩
        rw [if_pos hh, Int.add_assoc, hd]
      have hokt : XOk ({ x with now := x.now + wt } : XS) := ⟨hok1.rl, hok1.ne, hok1.busy, hok1.lp, hok1.lm, hok1.pc, hok1.ac, hok1.lc⟩
      rw [et] at h2 hs
      rw [leaveS_out (by exact hbusy) hokt] at hs
      have hlen := hs.1.lenL
      simp only [elM_len] at hlen
      have hkw : (k : Int) = wt := by omega
      have e2 : x.ticksS wt (i + 1) = ({ x with now := x.now + wt } : XS).leaveS.1 := by unfold XS.ticksS; rw [if_pos (by push_cast; exact hd)]
      have wk : IntKind.i64.wrap ((k : Int) - 1) = i := by rw [show (k : Int) - 1 = i by omega]; exact wrap_nat (by omega)
      simp
      refine (hear_run h2 hs.1 (XS.outq_len _) (XS.outq_fine _)).mono ?_
      rintro _ w3 ⟨rfl, h3⟩
      rw [e2, if_pos (by push_cast; exact hd)]
      have hol := XS.outq_len ({ x with now := x.now + wt } : XS).leaveS.1
      obtain h0 | h0 : ({ x with now := x.now + wt } : XS).leaveS.1.outq.length = 0 ∨ ({ x with now := x.now + wt } : XS).leaveS.1.outq.length = 1 := by omega
      · rw [h0] at hlen
        simp [hlen, wk, ws]
        exact h3
      · rw [h0] at hlen
        simp [hlen, wk, ws]
        exact h3
    · have et : ({ x with now := x.now + (i : Int) } : XS).tickS = ({ x with now := x.now + ((i + 1 : Nat) : Int) }, []) := by
        unfold XS.tickS
        simp only [wn]
        rw [if_neg (by rintro ⟨_, h⟩; omega)]
        push_cast
        rw [Int.add_assoc]
      rw [et] at h2 hs
      have e2 : x.ticksS wt (i + 1) = { x with now := x.now + ((i + 1 : Nat) : Int) } := by unfold XS.ticksS; rw [if_neg (by push_cast; exact hd)]
      have hlen := hs.1.lenL
      simp at hlen
      simp
      refine (hear_run (out := []) h2 hs.1 (by simp) (by simp)).mono ?_
      rintro _ w3 ⟨rfl, h3⟩
      simp [hlen, ws]
      rw [e2, if_neg (by push_cast; exact hd)]; exact h3
  · rintro l w1 ⟨rfl, h1⟩
    simp
    exact h1
end

end Go.Proofs.Ytiggkhmopnhfaaa
