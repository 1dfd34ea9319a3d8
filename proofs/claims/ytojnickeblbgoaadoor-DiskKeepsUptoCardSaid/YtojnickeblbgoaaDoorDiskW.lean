/-
  Layer 1 (disk), part W: a loss of power (of any tree).
-/
import Derived.Test.YtojnickeblbgoaaDoorDiskV
namespace Go.Proofs.YtojnickeblbgoaaDoor
open Go.Lift
set_option linter.unusedSimpArgs false
set_option linter.unusedVariables false
set_option maxHeartbeats 8000000

theorem pigeon {α : Type} [DecidableEq α] : ∀ (xs ys : List α), xs.Nodup → (∀ x ∈ xs, x ∈ ys) → xs.length ≤ ys.length := by
  intro xs
  induction xs with
  | nil => intro ys _ _; simp
  | cons x xs ih =>
    intro ys hx hs
    simp only [List.nodup_cons] at hx
    have hxy := hs x (by simp)
    have := ih (ys.erase x) hx.2 fun y hy => by
      have hne : y ≠ x := fun he => hx.1 (by rw [← he]; exact hy)
      exact (List.mem_erase_of_ne hne).2 (hs y (by simp [hy]))
    rw [List.length_erase_of_mem hxy] at this
    have := List.length_pos_of_mem hxy
    simp only [List.length_cons]; omega
/-- A map of entries that are one to one has no more entries than there are nodes. -/
theorem map_len {n : Nat} {m : Slt → Option Int} {l : List (Slt × Int)} (rng : ∀ s k, m s = some k → 1 ≤ k ∧ k < n) (inj : ∀ s t k, m s = some k → m t = some k → s = t) (hn : (l.map (·.1)).Nodup) (hE : Eqm l m) : l.length ≤ n := by
  have hm : ∀ p ∈ l, m p.1 = some p.2 := fun p hp => by rw [← hE p.1]; exact getK_of_mem hn (show (p.1, p.2) ∈ l from hp)
  have hv : (l.map (·.2)).Nodup := by
    have : ∀ l : List (Slt × Int), (l.map (·.1)).Nodup → (∀ p ∈ l, m p.1 = some p.2) → (l.map (·.2)).Nodup := by
      intro l
      induction l with
      | nil => intro _ _; simp
      | cons p l ih =>
        intro hn hm
        simp only [List.map_cons, List.nodup_cons] at hn ⊢
        refine ⟨fun hx => ?_, ih hn.2 fun q hq => hm q (by simp [hq])⟩
        obtain ⟨q, hq, he⟩ := List.mem_map.1 hx
        have h1 := hm p (by simp)
        have h2 := hm q (by simp [hq])
        rw [he] at h2
        exact hn.1 (List.mem_map.2 ⟨q, hq, (inj _ _ _ h1 h2).symm⟩)
    exact this l hn hm
  have := pigeon (l.map (·.2)) ((List.range n).map Int.ofNat) hv fun x hx => by
    obtain ⟨p, hp, rfl⟩ := List.mem_map.1 hx
    have := rng _ _ (hm p hp)
    exact List.mem_map.2 ⟨p.2.toNat, List.mem_range.2 (by omega), show ((p.2.toNat : Nat) : Int) = p.2 by omega⟩
  simpa using this
theorem lk_len {d : Dk} {lk : List (Slt × Int)} (ht : Tree d) (hn : (lk.map (·.1)).Nodup) (hE : Eqm lk d.kept) : lk.length ≤ d.nodes.length := map_len ht.rng ht.inj hn hE
theorem cFold_len' : ∀ (L : List Chg) (st : CSt), (L.foldl cStep st).1.length = st.1.length
  | [], st => rfl
  | c :: L, st => by
    rw [List.foldl_cons, cFold_len' L]
    simp [cStep]
section
variable {w w' w'' : World} {b : Nat} {d d' : Dk} {v : DV} {tag : Nat → Nat}
theorem crash2_run (h : DA w b d v tag) {keep torn : Int} (hpl : d.pending.length ≤ 1048576) (hok : crashOk (d.nodes, d.kept) (crashL d.pending keep torn)) (hnl : d.nodes.length ≤ 16777216) (hTr : Tree { d with nodes := ((crashL d.pending keep torn).foldl cStep (d.nodes, d.kept)).1, kept := ((crashL d.pending keep torn).foldl cStep (d.nodes, d.kept)).2 }) :
    Run (F.disk_Disk_Crash (Ptr b) (.int .i64 keep) (.int .i64 torn)) w fun _ w' => ∃ d', Reached { d with nodes := ((crashL d.pending keep torn).foldl cStep (d.nodes, d.kept)).1, kept := ((crashL d.pending keep torn).foldl cStep (d.nodes, d.kept)).2 } d' ∧ DDid w w' b tag d' := by
  have hlk : ∀ {w3 : World} {v3 : DV}, DA w3 b { d with nodes := ((crashL d.pending keep torn).foldl cStep (d.nodes, d.kept)).1, kept := ((crashL d.pending keep torn).foldl cStep (d.nodes, d.kept)).2 } v3 tag → v3.lk.length ≤ 16777216 := fun h3 => by
    have h1 := lk_len hTr h3.kept.nodup h3.keptE
    have h2 : ((crashL d.pending keep torn).foldl cStep (d.nodes, d.kept)).1.length = d.nodes.length := cFold_len' _ _
    simp only at h1
    omega
  unfold F.disk_Disk_Crash
  have hb := h.blk
  have hpv := h.pend.1.lenL
  rw [List.length_map] at hpv
  simp [-ldA_ptr, hb, Dk.cells, hpv]
  refine clamp_run keep d.pending.length ?_
  have hkle := clamp_le keep d.pending.length
  obtain ⟨k, hk⟩ : ∃ k, k = clampN keep d.pending.length := ⟨_, rfl⟩
  have hL : crashL d.pending keep torn = d.pending.take k ++ (match d.pending[k]? with
    | some c => if c.what = 0 then [{ c with data := c.data.extract 0 (clampN torn c.data.size) }] else []
    | none => []) := by rw [hk]; rfl
  rw [← hk] at hkle ⊢
  have fd : Fr (fun _ => False) w w.drew := (Fr.refl (fun _ => False) w).drew
  have hd := h.fr0 fd
  obtain ⟨sv, k1, k2, k3⟩ := hd.pend.1.take (n := k) (by simpa using hkle) .i64
  have ws : IntKind.i64.wrap ((d.pending.length : Int) - k) = (d.pending.length : Int) - k := wrap_int (by omega) (by omega)
  simp [-ldA_ptr, hb, Dk.cells, hpv, k1, ws]
  have hLlen : (crashL d.pending keep torn).length ≤ 16777216 := by
    rw [hL, List.length_append, List.length_take]
    have : (match d.pending[k]? with
      | some c => if c.what = 0 then [{ c with data := c.data.extract 0 (clampN torn c.data.size) }] else []
      | none => []).length ≤ 1 := by
      split
      · split <;> simp
      · simp
    omega
  have k2' : Sl 7 w.drew sv ((d.pending.take k).map Chg.cells) := by rw [List.map_take]; exact k2
  have ksv : ∀ c, inB sv c → tag c ≠ 3 ∧ tag c ≠ 4 := fun c hc => by
    have := h.tp c (k3 c hc)
    omega
  have tnew : ∀ (w1 : World) (x : Value), New w w1 x → ∀ c, inB x c → tag c ≠ 3 ∧ tag c ≠ 4 := fun w1 x hx c hc => by
    have h1 := hx c hc
    by_cases h0 : tag c = 0
    · omega
    · have := h.bound c h0; omega
  by_cases hlt : k < d.pending.length
  · have ek : d.pending[k]? = some d.pending[k] := List.getElem?_eq_getElem hlt
    generalize d.pending[k] = c at ek
    rw [ek] at hL
    simp only at hL
    obtain ⟨qb, qo, ql, q1, q2, q3, q4, _⟩ := hd.pend.1.rd (i := k) (e := c.cells) (by decide) (by simp [ek]) .i64
    have qk : ql[qo]? = some (.int .i64 c.what) := take_get0 q4 (by decide)
    have q2' : bk w qb = some ql := q2
    have qA : ldA 7 (.pointer (some ⟨qb, qo, none⟩)) w.drew = some c.val := by rw [ldA_bk q2 q3, q4]; rfl
    by_cases hw : c.what = 0
    · rw [if_pos hw] at hL
      simp [-ldA_ptr, hlt, hb, Dk.cells, q1, q2', qk, hw, qA]
      refine Run_newSt (cs := c.cells.toArray) rfl rfl (by simpa using c.all) fun y w2 hy hyw f2 hyle => ?_
      have hy2 : bk w2 y = some c.cells := by simpa using hy
      simp [-ldA_ptr, hy2, Chg.cells]
      refine clamp_run torn c.data.size ?_
      have htle := clamp_le torn c.data.size
      obtain ⟨t, ht⟩ : ∃ t, t = clampN torn c.data.size := ⟨_, rfl⟩
      rw [← ht] at htle hL ⊢
      have hsl : sliceS (.string c.data) none (some (.int .i64 t)) = some (.string (c.data.extract 0 t)) := by
        simp [sliceS, highV, lowV, boundV, htle]
      simp [-ldA_ptr, hsl, hy2, hyw, Chg.cells]
      obtain ⟨c', hc'⟩ : ∃ c' : Chg, c' = { c with data := c.data.extract 0 t } := ⟨_, rfl⟩
      rw [← hc'] at hL
      have hy3 : bk (sto w2 y 2 [.string (c.data.extract 0 t)]) y = some c'.cells := by rw [bk_sto_eq, hy2, hc']; rfl
      have f3 : Fr (fun _ => False) w (sto w2 y 2 [.string (c.data.extract 0 t)]) := (fd.trans f2 fun _ _ => id).sto (.inr hyle) _ _
      have f3d : Fr (fun _ => False) w.drew (sto w2 y 2 [.string (c.data.extract 0 t)]) := f2.sto (.inr hyle) _ _
      generalize sto w2 y 2 [.string (c.data.extract 0 t)] = w3 at *
      obtain ⟨Q4, q4'⟩ : ∃ Q4 : List Value → World → Prop, ∀ a w', Q4 a w' ↔ ∃ x, a = [x] ∧ SlW 7 w' x ((crashL d.pending keep torn).map Chg.cells) ∧ New w w' x ∧ Fr (fun _ => False) w w' := ⟨_, fun _ _ => Iff.rfl⟩
      have hval : c'.val.cells.toList = c'.cells := by simp [Chg.val]
      refine Run.mono (Q := Q4) (Run_altM (by simp) fun z hz => ?_) ?_
      · have hs3 : Sl 7 w3.drew sv ((d.pending.take k).map Chg.cells) := (k2'.fr0 f3d).fr0 (Fr.refl (fun _ => False) w3).drew
        have hy3d : bk w3.drew y = some c'.cells := hy3
        have zk : (d.pending.take k).length ≤ 1048576 := by rw [List.length_take]; omega
        have z3 := f3.size
        have zd : w3.drew.heap.size = w3.heap.size := rfl
        simp only [List.mem_cons, List.not_mem_nil, or_false] at hz
        rcases hz with rfl | rfl
        · simp [-ldA_ptr]
          refine (clone_run hs3 (by omega)).mono ?_
          rintro r w5 ⟨hr, hrn, f5⟩
          have e7 := ld7 (f5.bk_some (w := w3.drew) hy3d id)
          have z5 := f5.size
          simp [-ldA_ptr, e7]
          refine Run_app1 (k := 7) (by simp [Chg.val, Chg.cells]) hr (by decide) rfl (by decide) (by simpa [Chg.val] using c'.all) (by simp only [List.length_map]; omega) fun r2 w6 hr2 f6 hin w7 f7 => ?_
          have z6 := f6.size
          simp [-ldA_ptr, ld7 hy3]
          refine (q4' _ _).2 ⟨r2, rfl, by rw [hL]; simpa [Chg.val] using hr2, fun x hx => ?_, ((f3.drew).trans f5 fun _ _ => id).new f6 fun x hx => by have := hrn x hx; omega⟩
          rcases hin x hx with h' | h'
          · have := hrn x h'; omega
          · omega
        · simp [-ldA_ptr, ld7 hy3d]
          refine Run_bsl (k := 7) (n := 1) (vs := [c'.val]) rfl (by simp [Chg.val, Chg.cells]) rfl (by simp [size_zeroCells]) fun a w5 hra f5 hran => ?_
          have z5 := f5.size
          have hra' : SlW 7 w5 a [c'.cells] := by simpa [Chg.val] using hra
          refine (clone_run (hs3.fr0 f5) (by omega)).mono ?_
          rintro r w6 ⟨hr, hrn, f6⟩
          have z6 := f6.size
          refine Run_appM (fls := [c'.cells]) hr (hra'.1.fr0 f6) (by decide) rfl (by decide) (fun e he => by obtain rfl := List.mem_singleton.1 he; exact c'.all) (by simp only [List.length_map, List.length_cons, List.length_nil]; omega) fun r2 w7 hr2 f7 hin => ?_
          have z7 := f7.size
          refine (q4' _ _).2 ⟨r2, rfl, by rw [hL]; simpa using hr2, fun x hx => ?_, (((f3.drew).trans f5 fun _ _ => id).trans f6 fun _ _ => id).new f7 fun x hx => by have := hrn x hx; omega⟩
          rcases hin x hx with h' | h'
          · have := hrn x h'; omega
          · omega
      rintro a w6 ha
      obtain ⟨x6, rfl, hx6, hn6, f6⟩ := (q4' _ _).1 ha
      have hsl6 := hx6.1.lenL
      rw [List.length_map] at hsl6
      simp only [Run_ret, outK_norm, getL_zero, hsl6, Run_bindO_some, Run_bind]
      refine crash_loop (L := crashL d.pending keep torn) (h.fr0 f6) hx6.1 (tnew _ _ hn6) hLlen hok (fun l => rfl) fun w3 v3 h3 f3 => ?_
      simp
      refine (restart2_run h3 hTr (hlk h3)).mono ?_
      rintro r w4 ⟨d', e1, e2⟩
      exact ⟨d', e1, DDid.trans h.bound ((f6.mono fun _ h => h.elim).trans f3 fun _ _ h => h) (fun _ h => .inl h) e2⟩
    · rw [if_neg hw, List.append_nil] at hL
      simp [-ldA_ptr, hlt, hb, Dk.cells, q1, q2', qk, hw]
      have hsl := k2'.lenL
      rw [List.length_map, ← hL] at hsl
      simp only [hsl, Run_bindO_some, Run_bind]
      refine crash_loop (L := crashL d.pending keep torn) hd (by rw [hL]; exact k2') ksv hLlen hok (fun l => rfl) fun w3 v3 h3 f3 => ?_
      simp
      refine (restart2_run h3 hTr (hlk h3)).mono ?_
      rintro r w4 ⟨d', e1, e2⟩
      exact ⟨d', e1, DDid.trans h.bound ((fd.mono fun _ h => h.elim).trans f3 fun _ _ h => h) (fun _ h => .inl h) e2⟩
  · have ekn : d.pending[k]? = none := List.getElem?_eq_none (by omega)
    rw [ekn] at hL
    simp only [List.append_nil] at hL
    simp [-ldA_ptr, hlt]
    have hsl := k2'.lenL
    rw [List.length_map, ← hL] at hsl
    simp only [hsl, Run_bindO_some, Run_bind]
    refine crash_loop (L := crashL d.pending keep torn) hd (by rw [hL]; exact k2') ksv hLlen hok (fun l => rfl) fun w3 v3 h3 f3 => ?_
    simp
    refine (restart2_run h3 hTr (hlk h3)).mono ?_
    rintro r w4 ⟨d', e1, e2⟩
    exact ⟨d', e1, DDid.trans h.bound ((fd.mono fun _ h => h.elim).trans f3 fun _ _ h => h) (fun _ h => .inl h) e2⟩
end
end Go.Proofs.YtojnickeblbgoaaDoor
