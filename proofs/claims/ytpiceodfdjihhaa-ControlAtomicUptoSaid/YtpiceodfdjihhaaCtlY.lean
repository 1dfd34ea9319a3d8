/-
  Layer 15 (control), part Y: ControlAtomic: what a call of the controller leaves.
-/
import Derived.Test.YtpiceodfdjihhaaCtlX
namespace Go.Proofs.Ytpiceodfdjihhaa
open Go.Lift
set_option linter.unusedSimpArgs false

section
variable {w0 w : World} {pb b : Nat} {J : Int} {p : PS} {v : PV} {tg : Nat → Nat} {x : CS}
theorem Right.at {p q : PS} {m : Ms} (h : Right p m) (h1 : q.nodes = p.nodes) (h2 : q.x = p.x) (h3 : q.kind = p.kind) (h4 : q.ver = p.ver) (h5 : q.fetched = p.fetched) (h6 : m.kind = 7 ∨ q.back = p.back) : Right q m := by
  obtain ⟨a1, a2, a3, a4, a5, a6, a7, a8, a9⟩ := h
  refine ⟨a1, by rw [h1]; exact a2, by rw [h2]; exact a3, by rw [h2]; exact a4, a5, a6, a7, a8, ?_⟩
  rw [h3, h4, h5]
  rcases h6 with h6 | h6
  · rcases a9 with a9 | a9 | a9
    · omega
    · omega
    · exact .inr (.inr a9)
  · rw [h6]; exact a9
/-- A letter is put behind the others. -/
theorem letter_run (hm : PlM w0 w pb b J p v tg) (ho : OwnC w0 w b x (KT w0 tg)) {y : Value} {m : Ms} {e' : TypeId} (hy : y.cells = m.cells.toArray) (hf : m.fine) (hl : p.letters.length ≤ 1099511627776) {Q : World → Value → World → Prop}
    (q : ∀ r w' w1, (∃ v' tg', PlM w0 (sto w' pb 2 [r]) pb b J { p with letters := p.letters ++ [m] } v' tg' ∧ OwnC w0 (sto w' pb 2 [r]) b x (KT w0 tg') ∧ (∀ c, c < w.heap.size → tg' c ≠ 0 → tg c ≠ 0)) → Fr (fun c => tg c ≠ 0) w (sto w' pb 2 [r]) → bk w' pb = some (p.cells b J v) → Go.Lift.wr w' pb = true → isCell r = true → Fr (fun _ => False) w w1 → Q w1 r w') :
    Run (bslM e' 1 (Builtin.zeroCells #[(Value.int IntKind.i64 0), (Value.int IntKind.i64 0), (Value.int IntKind.i64 0), (Value.int IntKind.i64 0), (Value.int IntKind.i64 0), (Value.int IntKind.i64 0), (Value.int IntKind.i64 0), (Value.int IntKind.i64 0), (Value.int IntKind.i64 0), (Value.string ByteArray.empty), (Value.string ByteArray.empty)] 1) [(0, 11, y)]) w fun a w1 =>
      Run (appM e' 11 104 #[(Value.int IntKind.i64 0), (Value.int IntKind.i64 0), (Value.int IntKind.i64 0), (Value.int IntKind.i64 0), (Value.int IntKind.i64 0), (Value.int IntKind.i64 0), (Value.int IntKind.i64 0), (Value.int IntKind.i64 0), (Value.int IntKind.i64 0), (Value.string ByteArray.empty), (Value.string ByteArray.empty)] v.lv a) w1 fun r w' => Q w1 r w' := by
  refine Run_app1 (k := 11) (els := elM p.letters) (by rw [hy]; rfl) hm.letters (by decide) rfl (by decide) ?_ (by simp; omega) fun r w' s6 f6 hin w1 f1 => ?_
  · rw [hy]; simp [Ms.cells, hf.1, hf.2]
  have hF : ∀ c, inB v.lv c → tg c = 3 ∨ tg c = 0 := fun c hc => .inl (hm.tl c hc)
  have s6' : SlW 11 w' r (elM (p.letters ++ [m])) := by
    rw [hy] at s6
    have : elM (p.letters ++ [m]) = elM p.letters ++ [m.cells] := by simp [elM]
    rw [this]; simpa using s6
  have hd : ∀ c, inB r c → (tg c = 3 ∨ tg c = 0) ∧ w0.heap.size ≤ c ∧ c < w'.heap.size := fun c hc => by
    have e6 := f6.size
    rcases hin c hc with h | h
    · have h3 := hm.tl c h
      have := hm.bound c (by omega)
      exact ⟨.inl h3, this.1, by omega⟩
    · have hp := hm.bound pb (by rw [hm.tp]; decide)
      exact ⟨.inr (hm.tag0 h.1), by omega, h.2⟩
  have hnp : ¬ inB v.lv pb := fun hc => by have := hm.tl pb hc; rw [hm.tp] at this; cases this
  have f2 : Fr (fun c => c = pb) w' (sto w' pb 2 [r]) := (Fr.refl (fun c => c = pb) w').sto (.inl rfl) _ _
  have ho6 : OwnC w0 w' b x (fun c => KT w0 tg c ∨ (w.heap.size ≤ c ∧ c < w'.heap.size)) := ho.frK f6 fun c hc => by
    have h3 := hm.tl c hc
    exact ⟨(hm.bound c (by omega)).1, .inl (by omega)⟩
  have hpt : tg pb ≠ 0 := by rw [hm.tp]; decide
  have ho7 := ho6.frK f2 fun c hc => by subst hc; exact ⟨(hm.bound _ hpt).1, .inl (.inl hpt)⟩
  refine q r w' w1 ⟨_, _, hm.setLetters f6 hF s6' hd, ho7.mono fun c hc => ?_, fun c hc hr => ?_⟩ ?_ (f6.bk_some hm.blk hnp) (by rw [f6.wr (bk_lt hm.blk) hnp]; exact hm.wr) s6.1.isCell f1
  · rcases hc with hc | hc
    · rcases reTag_ne hc with h | h
      · exact .inl (.inl (.inl h))
      · rcases hin c h with h' | h'
        · exact .inl (.inl (.inl (by rw [hm.tl c h']; decide)))
        · exact .inl (.inr h')
    · exact .inl (.inl (.inr hc))
  · rcases reTag_ne hr with h | h
    · exact h
    · rcases hin c h with h' | h'
      · rw [hm.tl c h']; decide
      · omega
  · exact (f6.mono fun c hc => by rw [hm.tl c hc]; decide).trans f2 fun c _ hc => by subst hc; exact hpt

set_option maxHeartbeats 2000000 in
theorem went_run (hm : PlM w0 w pb b J p v tg) (ho : OwnC w0 w b x (KT w0 tg)) (hJ : p.x.job = J) (hJ' : x.job = J) {lv : Value} {out : List Ms} (hs : Sl 11 w lv (elM out)) (ht : ∀ c, inB lv c → tg c = 0) (hfine : ∀ m ∈ out, m.fine) (hw : WentOk p x out)
    (hal : p.at_.length = p.nodes.length) (hn : p.nodes.length ≤ 64) (hfl : p.fetched.length ≤ 64) (hl : p.letters.length + out.length ≤ 1099511627776) (hol : out.length ≤ 64) {was : Bool} (hwas : was = p.x.now.isSome) :
    Run (F.granarylaw15_Play_went (.pointer (some ⟨pb, 0, none⟩)) lv (.int .i64 0) (.bool was)) w fun r w' => r = .bool true ∧ Up w0 w w' pb b x tg (wentS p x out) := by
  unfold F.granarylaw15_Play_went
  have hll := hs.lenL
  simp at hll
  simp [F.granarylaw15_num]
  obtain ⟨B, hB⟩ : ∃ B : Nat → Bool, ∀ i, B i = (p.back || (out.take i).any (fun m => decide (m.kind = 7))) := ⟨_, fun _ => rfl⟩
  have hB0 : B 0 = p.back := by rw [hB]; simp
  refine Run_for out.length (fun i l w2 => l = [.int .i64 i] ∧ ∃ v' tg', PlM w0 w2 pb b J { p with letters := p.letters ++ out.take i, back := B i } v' tg' ∧ OwnC w0 w2 b x (KT w0 tg') ∧ Fr (fun c => tg c ≠ 0) w w2 ∧ ∀ c, c < w.heap.size → tg' c ≠ 0 → tg c ≠ 0)
    ⟨rfl, v, tg, by rw [hB0]; simpa using hm, ho, Fr.refl _ _, fun _ _ h => h⟩ ?_ ?_
  · rintro i l w2 hi ⟨rfl, v', tg', m2, o2, f2, t2⟩
    have em : out[i]? = some out[i] := List.getElem?_eq_getElem hi
    have hmem := List.getElem_mem hi
    have hmf := hfine _ hmem
    have hr := hw.right _ hmem
    have hhom : out[i].kind = 7 ∨ B i = p.back := by
      rcases hw.homog with h | h
      · exact .inl (h _ hmem)
      · refine .inr ?_
        have : (out.take i).any (fun m => decide (m.kind = 7)) = false := by
          rw [List.any_eq_false]
          intro z hz
          simpa using h z (List.mem_of_mem_take hz)
        rw [hB, this, Bool.or_false]
    have etake : out.take (i + 1) = out.take i ++ [out[i]] := by rw [List.take_add_one, em]; rfl
    generalize out[i] = m at em hmem hmf hr hhom etake
    have hs2 : Sl 11 w2 lv (elM out) := hs.fr f2 fun c hc hq => hq (ht c hc)
    obtain ⟨q, z1, z2⟩ := hs2.rdA (by decide) (e := m.cells) (by rw [elM_get, em]; rfl) .i64
    have wi := wrap_succ (n := i) (by omega)
    simp [-ldA_ptr, hll, hi, z1, z2]
    refine (right_run m2 (hr.at rfl rfl rfl rfl rfl hhom) hJ hfl).mono ?_
    rintro _ w3 ⟨rfl, f3⟩
    have m3 := m2.fr0 f3
    have o3 := o2.KTfr f3
    have f03 : Fr (fun c => tg c ≠ 0) w w3 := f2.trans (f3.mono fun _ h => h.elim) fun _ _ h => h
    have hs3 : Sl 11 w3 lv (elM out) := hs2.fr0 f3
    obtain ⟨q', y1, y2⟩ := hs3.rdF (i := i) (e := m.cells) (by rw [elM_get, em]; rfl) .i64
    rw [z1] at y1; cases y1
    obtain ⟨u, u1, u2⟩ := y2 0 (by decide)
    have u2' : ld1 u w3 = some (.int .i64 m.kind) := u2
    simp [-ldA_ptr, z1, u1, u2']
    -- the mark of a Back
    refine Run.mono (Q := fun o w4 => o = Out.norm [] ∧ PlM w0 w4 pb b J { p with letters := p.letters ++ out.take i, back := B (i + 1) } v' tg' ∧ OwnC w0 w4 b x (KT w0 tg') ∧ Fr (fun c => tg c ≠ 0) w w4) ?_ ?_
    · refine Run_cond (fun hh => ?_) (fun hh => ?_)
      · have h7 : m.kind = 7 := by simpa using hh
        have hb3 := m3.blk
        simp [hb3, PS.cells, m3.wr]
        have hcell : B (i + 1) = true := by rw [hB, etake, List.any_append]; simp [h7]
        have m4 := m3.scalar (o := 8) (vs := [.bool true]) (J' := J) (p' := { p with letters := p.letters ++ out.take i, back := true }) ⟨rfl, rfl, rfl, rfl, rfl⟩ rfl
        have hf4 : Fr (fun c => c = pb) w3 (sto w3 pb 8 [.bool true]) := (Fr.refl (fun c => c = pb) w3).sto (.inl rfl) _ _
        have hp' : tg' pb ≠ 0 := by rw [m3.tp]; decide
        refine ⟨?_, o3.KTput m3 hf4 fun c hc => by subst hc; exact hp', f03.trans hf4 fun c hc hq => by subst hq; exact t2 _ hc hp'⟩
        rw [hcell]; exact m4
      · have h7 : ¬ m.kind = 7 := by simpa using hh
        simp
        refine ⟨?_, o3, f03⟩
        have : B (i + 1) = B i := by rw [hB, hB, etake, List.any_append]; simp [h7]
        rw [this]; exact m3
    rintro o w4 ⟨rfl, m4, o4, f4⟩
    have hs4 : Sl 11 w4 lv (elM out) := hs.fr f4 fun c hc hq => hq (ht c hc)
    obtain ⟨q4, y4, y5⟩ := hs4.rdA (by decide) (e := m.cells) (by rw [elM_get, em]; rfl) .i64
    rw [z1] at y4; cases y4
    have m4' := m4.fr0 (Fr.refl (fun _ => False) w4).drew
    have o4' := o4.KTfr (Fr.refl (fun _ => False) w4).drew
    have hb4 := m4.blk
    simp [-ldA_ptr, -Run_stM_iff, -ld1_ptr, z1, y5]
    refine ⟨v'.lv, by simp [hb4, PS.cells], ?_⟩
    refine letter_run m4' o4' rfl hmf (by simp; omega) fun r w6 w5 hup f6 hb6 hw6 hc6 f5 => ?_
    rw [Run_st1 ⟨(okAt_some hb6).2 ⟨by simp [PS.cells], hw6⟩, hc6⟩]
    obtain ⟨v6, tg6, m6, o6, t6⟩ := hup
    have hb5 := f5.bk_some m4'.blk id
    have e42 : w.heap.size ≤ w4.drew.heap.size := f4.size
    refine ⟨by simp [hb5, PS.cells], by rw [wi]; simp, v6, tg6, ?_, o6, f4.drew.trans f6 fun c hc hq => t2 c hc hq, fun c hc hq => t2 c hc (t6 c (by omega) hq)⟩
    rw [etake, ← List.append_assoc]
    exact m6
  · rintro l w2 ⟨rfl, v', tg', m2, o2, f2, t2⟩
    rw [List.take_of_length_le (Nat.le_refl _)] at m2
    have hb2 := m2.blk
    have hBn : B out.length = (p.back || out.any (fun m => decide (m.kind = 7))) := by rw [hB, List.take_of_length_le (Nat.le_refl _)]
    have up : ∀ (w3 : World) (p' : PS) (v3 : PV), p' = wentS p x out → PlM w0 w3 pb b J p' v3 tg' → OwnC w0 w3 b x (KT w0 tg') → Fr (fun c => tg' c ≠ 0) w2 w3 → Up w0 w w3 pb b x tg (wentS p x out) := by
      rintro w3 p' v3 rfl h1 h2 h3
      refine ⟨v3, tg', ?_, h2, f2.trans h3 fun c hc hq => t2 c hc hq, t2⟩
      have : (wentS p x out).x.job = J := hJ'
      rw [this]; exact h1
    have shape : ∀ a : List Int, a = (wentS p x out).at_ → ∀ (w3 : World) (v3 : PV), PlM w0 w3 pb b J { p with letters := p.letters ++ out, back := B out.length, at_ := a } v3 tg' → PlM w0 w3 pb b J (wentS p x out) v3 tg' := by
      intro a ha w3 v3 h
      have e : (wentS p x out) = { p with x := x, letters := p.letters ++ out, back := B out.length, at_ := a } := by rw [hBn, ha]; rfl
      rw [e]
      exact ⟨h.blk, h.wr, h.tp, h.nodes, h.tn, h.letters, h.tl, h.fetched, h.tf, h.backed, h.tb, h.at_, h.ta, h.bound⟩
    cases hp : p.x.now with
    | none =>
      have ho' := hw.idle hp
      rw [hp] at hwas
      subst hwas
      have hat : p.at_ = (wentS p x out).at_ := by unfold wentS; rw [hp]; rfl
      simp [hll, ho']
      have := up _ _ _ rfl (shape _ hat _ _ m2) o2 (Fr.refl _ _)
      rw [ho'] at this
      exact this
    | some q0 =>
      rw [hp] at hwas
      subst hwas
      simp [hll, hb2, PS.cells, o2.busy]
      cases hx : x.now with
      | some q1 =>
        have hat : p.at_ = (wentS p x out).at_ := by unfold wentS; rw [hx]; simp
        simp
        exact up _ _ _ rfl (shape _ hat _ _ m2) o2 (Fr.refl _ _)
      | none =>
        obtain ⟨e1, e2, e3⟩ := hw.ended (by rw [hp]; simp) hx
        have hat : atS p x.last = (wentS p x out).at_ := by unfold wentS; rw [hp, hx]; rfl
        have hBp : B out.length = p.back := by rw [e1]; exact hB0
        simp [e1]
        have m2' : PlM w0 w2 pb b J p v' tg' := by
          have := m2
          rw [hBp, e1, List.append_nil] at this
          exact this
        refine (ended_run m2' o2 e2 e3 hJ hal hn).mono ?_
        rintro _ w3 ⟨rfl, m3, o3, f3⟩
        refine ⟨rfl, ?_⟩
        have := up _ _ v' rfl (shape _ hat _ _ (by rw [hBp, e1, List.append_nil]; exact m3)) o3 f3
        rw [e1] at this
        exact this
end
end Go.Proofs.Ytpiceodfdjihhaa
