/-
  Layer 21 (export), part B: the exporter's calls.
-/
import Derived.Test.YtiggkhmopnhfaaaDoorExportA
namespace Go.Proofs.YtiggkhmopnhfaaaDoor
open Go.Lift
set_option linter.unusedSimpArgs false

/-- What holds of an exporter's state. -/
structure XOk (x : XS) : Prop where
  rl : x.rows.length ≤ 64
  ne : ∀ r ∈ x.rows, r ≠ []
  busy : x.busy = true → 0 ≤ x.part ∧ x.part < x.rows.length ∧ x.left ≠ [] ∧ x.pairs.length ≤ 512 ∧ (x.all.length : Int) ≤ 512 * x.part ∧ (x.missing.length : Int) ≤ x.part
  lp : x.lp.length ≤ 32768
  lm : x.lm.length ≤ 64
  pc : ∀ p ∈ x.pairs, isCell p.1 = true ∧ isCell p.2 = true
  ac : ∀ p ∈ x.all, isCell p.1 = true ∧ isCell p.2 = true
  lc : ∀ p ∈ x.lp, isCell p.1 = true ∧ isCell p.2 = true

/-- The owner that is asked is left. -/
def XS.leaveS (x : XS) : XS × List (List Value) :=
  match x.left.tail with
  | to :: rest => ({ x with left := to :: rest }.askS, [qMsg to { x with left := to :: rest }])
  | [] => ({ x with missing := x.missing ++ [x.part], left := [] } : XS).takeS (x.part + 1)

theorem XOk.takeS {x : XS} (hr : x.rows.length ≤ 64) (hne : ∀ r ∈ x.rows, r ≠ []) (hlp : x.lp.length ≤ 32768) (hlm : x.lm.length ≤ 64) {part : Int} (h1 : 0 ≤ part) (h2 : part ≤ x.rows.length)
    (ha : (x.all.length : Int) ≤ 512 * part) (hm : (x.missing.length : Int) ≤ part) (hac : ∀ p ∈ x.all, isCell p.1 = true ∧ isCell p.2 = true) (hlc : ∀ p ∈ x.lp, isCell p.1 = true ∧ isCell p.2 = true) : XOk (x.takeS part).1 := by
  unfold XS.takeS
  split
  · rename_i h
    exact ⟨hr, hne, (fun h => by cases h), (by show x.all.length ≤ 32768; omega), (by show x.missing.length ≤ 64; omega), (by simp), hac, hac⟩
  · rename_i h
    obtain ⟨m, rfl⟩ : ∃ m : Nat, part = m := ⟨part.toNat, by omega⟩
    have hm' : m < x.rows.length := by omega
    have er : x.rows[m]? = some x.rows[m] := List.getElem?_eq_getElem hm'
    have hn := hne _ (List.getElem_mem hm')
    simp only [Int.toNat_natCast, er]
    cases hx : x.rows[m] with
    | nil => exact absurd hx hn
    | cons to rest => exact ⟨hr, hne, fun _ => ⟨h1, (by show (m : Int) < x.rows.length; omega), (by simp [XS.askS]), (by simp [XS.askS]), ha, hm⟩, hlp, hlm, (by simp [XS.askS]), hac, hlc⟩
theorem XOk.leaveS {x : XS} (h : XOk x) (hb : x.busy = true) : XOk x.leaveS.1 := by
  obtain ⟨h1, h2, h3, h4, h5, h6⟩ := h.busy hb
  unfold XS.leaveS
  cases hx : x.left.tail with
  | cons to rest => exact ⟨h.rl, h.ne, fun _ => ⟨h1, h2, (by simp [XS.askS]), h4, h5, h6⟩, h.lp, h.lm, h.pc, h.ac, h.lc⟩
  | nil => exact XOk.takeS (x := { x with missing := x.missing ++ [x.part], left := [] }) h.rl h.ne h.lp h.lm (by omega) (by show x.part + 1 ≤ x.rows.length; omega) (by show (x.all.length : Int) ≤ _; omega) (by simp; omega) h.ac h.lc

/-- The marks, where the blocks from lo on to hi are new and marked k. -/
def nTag (tag : Nat → Nat) (lo hi k : Nat) (c : Nat) : Nat := if lo ≤ c then (if c < hi then k else 0) else tag c
theorem nTag_old {tag : Nat → Nat} {lo hi k c : Nat} (h : c < lo) : nTag tag lo hi k c = tag c := by unfold nTag; rw [if_neg (by omega)]
theorem nTag_new {tag : Nat → Nat} {lo hi k c : Nat} (h : lo ≤ c) (h' : c < hi) : nTag tag lo hi k c = k := by unfold nTag; rw [if_pos h, if_pos h']
theorem nTag_ne {tag : Nat → Nat} {lo hi k c : Nat} (h : nTag tag lo hi k c ≠ 0) : (c < lo ∧ tag c ≠ 0) ∨ (lo ≤ c ∧ c < hi) := by
  unfold nTag at h
  split at h
  · split at h
    · right; omega
    · exact absurd rfl h
  · left; exact ⟨by omega, h⟩
/-- What a call of an exporter comes to. -/
structure Did (w w' : World) (b : Nat) (tag : Nat → Nat) (x' : XS) (r : Value) : Prop where
  fr : Fr (fun c => tag c ≠ 0) w w'
  exp : ∃ v' tag', Exp w' b x' v' tag' ∧ ∀ c, tag' c ≠ 0 → (tag c ≠ 0 ∨ w.heap.size ≤ c) ∧ ¬ inB r c
theorem leave_run {w : World} {b : Nat} {x : XS} {v : XV} {tag : Nat → Nat} (h0 : X0 w b x v tag) (ha : XA w x v tag) (hp : XP w x v tag) (hbusy : x.busy = true) (hok : XOk x) :
    Run (F.export_Export_leave (.pointer (some ⟨b, 0, none⟩))) w fun r w' => Did w w' b tag x.leaveS.1 r ∧ SlW 11 w' r x.leaveS.2 ∧ New w w' r := by
  obtain ⟨o1, o2, o3, o4, o5, o6⟩ := hok.busy hbusy
  unfold F.export_Export_leave
  obtain ⟨lv, e1, hls, hlb⟩ := hp.left.drop (n := 1) (by simp; exact List.length_pos_iff.2 o3) .i64
  have hlt : Ints w lv x.left.tail := by
    rw [← List.drop_one]
    unfold Ints elI at *
    rw [List.map_drop]; exact hls
  have htl : Tg tag 5 lv := fun c hc => hp.tleft c (hlb c hc)
  have hll := hlt.lenL
  simp at e1
  simp at hll
  have hb0 := h0.blk
  have hw0 := h0.wr
  simp [hb0, hw0, XS.cells, e1, cells_isCell hlt.isCell, hlt.isCell, hll]
  have hb1 : bk (sto w b 7 [lv]) b = some (({ x with left := x.left.tail } : XS).cells { v with left := lv }) := by simp [hb0]; rfl
  have hw1 : wr (sto w b 7 [lv]) b = true := by simp [hw0]
  have f1 : Fr (fun c => c = b) w (sto w b 7 [lv]) := (Fr.refl (fun c => c = b) w).sto (.inl rfl) _ _
  generalize sto w b 7 [lv] = w1 at *
  have hF : ∀ c, c = b → tag c = 1 := fun c hc => by rw [hc]; exact h0.tb
  have hF5 : ∀ c, c = b → tag c ≠ 5 := fun c he h => by rw [hF c he] at h; cases h
  have hF0 : ∀ c, c = b → tag c ≠ 0 := fun c he h => by rw [hF c he] at h; cases h
  have hl1 : Ints w1 lv x.left.tail := hlt.fr f1 fun c hc he => hF5 c he (htl c hc)
  have hpl := hp.pairs.1.lenL
  simp at hpl
  refine Run_cond (fun h => ?_) (fun h => ?_)
  · have hpos : 1 < x.left.length := by simp at h; omega
    obtain ⟨to, rest, ht⟩ : ∃ to rest, x.left.tail = to :: rest := by
      cases hx : x.left.tail with
      | nil => have : x.left.tail.length = 0 := by rw [hx]; rfl
               simp at this; omega
      | cons to rest => exact ⟨to, rest, rfl⟩
    have hls : x.leaveS = (({ x with left := to :: rest } : XS).askS, [qMsg to { x with left := to :: rest }]) := by unfold XS.leaveS; rw [ht]
    rw [ht] at hl1 hb1
    simp
    refine (ask_run hb1 hw1 hl1 (fun c hc he => hF5 c he (htl c hc)) hpl).mono ?_
    rintro r w2 ⟨f2, hb2, hw2, hs2, hn2⟩
    have f3 : Fr (fun c => c = b) w w2 := f1.trans f2 fun _ _ h => h
    rw [hls]
    refine ⟨⟨f3.mono hF0, { v with left := lv }, tag, ⟨h0.set f3 hF5 hb2 hw2 rfl rfl rfl rfl rfl rfl, fun _ => ⟨⟨?_, ha.tall, ?_, ha.tmissing⟩, ⟨?_, htl, ?_, hp.tpairs⟩⟩⟩, fun c h => ⟨.inl h, fun hc => by have := h0.bound c h; have := (hn2 c hc).1; have := f1.size; omega⟩⟩, hs2, fun c hc => ⟨Nat.le_trans f1.size (hn2 c hc).1, (hn2 c hc).2⟩⟩
    · exact ha.all.fr f3 fun c hc he => by have := ha.tall c hc; rw [hF c he] at this; cases this
    · exact ha.missing.fr f3 fun c hc he => by have := ha.tmissing c hc; rw [hF c he] at this; cases this
    · show Ints w2 lv (to :: rest)
      rw [← ht]
      exact hlt.fr f3 fun c hc he => hF5 c he (htl c hc)
    · exact hp.pairs.fr f3 fun c hc he => by have := hp.tpairs c hc; rw [hF c he] at this; cases this
  · have hpos : ¬ 1 < x.left.length := by simp at h; omega
    have ht : x.left.tail = [] := by
      apply List.eq_nil_of_length_eq_zero
      simp; omega
    have hls : x.leaveS = ({ x with missing := x.missing ++ [x.part], left := [] } : XS).takeS (x.part + 1) := by unfold XS.leaveS; rw [ht]
    rw [ht] at hb1
    have hm1 := ha.missing.fr f1 fun c hc he => by have := ha.tmissing c hc; rw [hF c he] at this; cases this
    simp [hb1, XS.cells]
    have hrl := hok.rl
    refine Run_app1 (k := 1) rfl (hm1.fr (Fr.refl (fun _ => False) w1).drew fun _ _ => id) (by decide) rfl (by decide) rfl (by simp; omega) fun mv w2 hs2 f2 hin w12 f12 => ?_
    have hbm : ¬ inB v.missing b := fun hc => by have := ha.tmissing b hc; rw [h0.tb] at this; cases this
    have hb2 : bk w2 b = _ := f2.bk_some (l := _) hb1 hbm
    have hw2 : wr w2 b = true := by rw [f2.wr (bk_lt hb1) hbm]; exact hw1
    have hb12 : bk w12 b = _ := f12.bk_some (l := _) hb1 id
    have hmc := hs2.1.isCell
    have wp : IntKind.i64.wrap (x.part + 1) = x.part + 1 := wrap_small (by omega) (by omega)
    have hblt : b < w1.heap.size := bk_lt hb1
    simp [hb2, hw2, hb12, XS.cells, cells_isCell hmc, hmc, wp]
    have hb3 : bk (sto w2 b 11 [mv]) b = some (({ x with missing := x.missing ++ [x.part], left := [] } : XS).cells { v with left := lv, missing := mv }) := by simp [hb2]; rfl
    have hw3 : wr (sto w2 b 11 [mv]) b = true := by simp [hw2]
    have hF1 : ∀ c, inB v.missing c → tag c ≠ 0 := fun c hc h => by have := ha.tmissing c hc; omega
    have f2' : Fr (fun c => tag c = 1 ∨ tag c = 4) w w2 := (f1.mono (fun c hc => (.inl (hF c hc) : tag c = 1 ∨ tag c = 4))).drew.trans (f2.mono fun c hc => (Or.inr (ha.tmissing c hc) : tag c = 1 ∨ tag c = 4)) fun _ _ h => h
    have f3 : Fr (fun c => tag c = 1 ∨ tag c = 4) w (sto w2 b 11 [mv]) := f2'.sto (.inl (.inl h0.tb)) _ _
    have hmne : ∀ c, inB mv c → c ≠ b := by
      intro c hc he
      subst he
      rcases hin c hc with h | h
      · exact hbm h
      · have : w1.drew.heap.size = w1.heap.size := rfl
        omega
    have hs3 : SlW 1 (sto w2 b 11 [mv]) mv (elI (x.missing ++ [x.part])) := by
      rw [← elI_app]
      exact SlW.fr hs2 ((Fr.refl (fun c => c = b) w2).sto (.inl rfl) 11 [mv]) fun c hc he => hmne c hc he
    have hsz : w2.heap.size = (sto w2 b 11 [mv]).heap.size := by simp
    have f2s := f2.size
    generalize sto w2 b 11 [mv] = w3 at *
    have h03 : X0 w3 b ({ x with missing := x.missing ++ [x.part], left := [] } : XS) { v with left := lv, missing := mv } tag :=
      h0.set f3 (fun c hc h => by rw [h] at hc; rcases hc with hc | hc <;> cases hc) hb3 hw3 rfl rfl rfl rfl rfl rfl
    have hw1s := f1.size
    have hdr : w1.drew.heap.size = w1.heap.size := rfl
    have ht : ∀ c, c < w.heap.size → nTag tag w1.heap.size w3.heap.size 4 c = tag c := fun c hc => nTag_old (by omega)
    have hbd : ∀ c, nTag tag w1.heap.size w3.heap.size 4 c ≠ 0 → c < w3.heap.size := by
      intro c hc
      rcases nTag_ne hc with h | h
      · omega
      · exact h.2
    have h04 := h03.tags h0.bound ht hbd
    have ha4 : XA w3 ({ x with missing := x.missing ++ [x.part], left := [] } : XS) { v with left := lv, missing := mv } (nTag tag w1.heap.size w3.heap.size 4) := by
      refine ⟨ha.all.fr f3 ?_, ha.tall.old (by decide) h0.bound ht, hs3, ?_⟩
      · intro c hc h
        rw [ha.tall c hc] at h
        rcases h with h | h <;> cases h
      · intro c hc
        rcases hin c hc with h | h
        · have h1 := ha.tmissing c h
          rw [ht c (h0.bound c (by omega))]; exact h1
        · exact nTag_new (by omega) (by omega)
    rw [hls]
    refine (take_run h04 ha4 hbusy (by omega) (by show x.part + 1 ≤ x.rows.length; omega) hok.ne).mono ?_
    rintro r w5 ⟨v5, tag5, f5, he5, ht5, hs5, hn5⟩
    have h0w : ∀ c, tag c = 1 ∨ tag c = 4 → tag c ≠ 0 := fun c h => by omega
    refine ⟨⟨(f3.mono h0w).trans f5 fun c _ hc => ?_, v5, tag5, he5, fun c hc => ?_⟩, hs5, fun c hc => ⟨Nat.le_trans f3.size (hn5 c hc).1, (hn5 c hc).2⟩⟩
    · rw [hc, h0.tb]; decide
    · refine ⟨?_, fun hi => by have := hbd c (ht5 c hc); have := (hn5 c hi).1; omega⟩
      rcases nTag_ne (ht5 c hc) with h | h
      · exact .inl h.2
      · exact .inr (by omega)

end Go.Proofs.YtiggkhmopnhfaaaDoor
