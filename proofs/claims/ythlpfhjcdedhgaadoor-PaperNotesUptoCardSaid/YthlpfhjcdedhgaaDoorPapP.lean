/-
  Layer 4 (paper): part P: the document's reader: bytes, sums.
-/
import Derived.Test.YthlpfhjcdedhgaaDoorPapO
namespace Go.Proofs.YthlpfhjcdedhgaaDoor
open Go.Lift Go.Sort
set_option linter.unusedSimpArgs false
set_option linter.unusedVariables false
set_option maxHeartbeats 4000000
section
variable {w w1 w2 : World}
/-- A row of bytes of one's own, beside blocks that change. -/
structure OwnF (F : Nat → Prop) (w w1 : World) (v : Value) (l : List UInt8) : Prop where
  sl : SlW 1 w1 v (l.map fun b => [by8 b])
  fresh : ∀ c, inB v c → w.heap.size ≤ c ∧ c < w1.heap.size
  fr : Fr F w w1
theorem ownF_app {F : Nat → Prop} {v : Value} {l : List UInt8} (h : OwnF F w w1 v l) (b : UInt8) {a1 a2 : Nat} (hl : l.length ≤ 33554432) {K : Value → World → Prop} (q : ∀ r w2, OwnF F w w2 r (l ++ [b]) → Fr (inB v) w1 w2 → K r w2) :
    Run (bslM a1 1 (Builtin.zeroCells #[(Value.int IntKind.u8 0)] 1) [(0, 1, by8 b)]) w1 fun a w2 => Run (appM a2 1 1 #[(Value.int IntKind.u8 0)] v a) w2 fun r w' => K r w' := by
  refine Run_app1 (K := fun _ r w' => K r w') (k := 1) (y := by8 b) rfl h.sl (by decide) rfl (by decide) rfl (by simp only [List.length_map]; omega) fun r w2 hr f2 hin w3 f3 => q r w2 ?_ f2
  have s := f2.size
  refine ⟨by simpa [by8] using hr, fun c hc => ?_, h.fr.trans f2 fun c hc hv => ?_⟩
  · have s0 := h.fr.size
    rcases hin c hc with hc | hc
    · have := h.fresh c hc; omega
    · omega
  · have := (h.fresh c hv).1; omega
theorem drop_at {l : List UInt8} {p k : Nat} : (l.drop p)[k]? = l[p + k]? := List.getElem?_drop
theorem RS.blk {b p : Nat} {l : List UInt8} {bad : Bool} (h : RS w b l p bad) : bk w b = some [.string (sb l), .int .i64 (p : Int), .bool bad] := h.1
/-- What n pairs of digits are read as. -/
structure ByP (w w' : World) (b : Nat) (l : List UInt8) (p n : Nat) (bad : Bool) (r : Value) : Prop where
  val : r = .string (sb ((if bad then none else pairsF (l.drop p) n).getD []))
  rs : ∃ p', RS w' b l p' (if bad then none else pairsF (l.drop p) n).isNone ∧ p' ≤ l.length ∧ ((if bad then none else pairsF (l.drop p) n).isSome = true → p' = p + 2 * n)
  fr : Fr (fun c => c = b) w w'
theorem rbytes_run {b p n : Nat} {l : List UInt8} {bad : Bool} (h : RS w b l p bad) (hp : p ≤ l.length) (hl : l.length ≤ 4611686018427387904) (h0 : 0 < n) (hn : n ≤ 1048576) :
    Run (F.granaryref4_Reader_bytes (.pointer (some ⟨b, 0, none⟩)) (.int .i64 (n : Int))) w fun r w' => ByP w w' b l p n bad r := by
  unfold F.granaryref4_Reader_bytes
  have e0 : ByteArray.mk #[] = sb [] := rfl
  have hlen : (sb l).size = l.length := sb_size l
  rw [e0, Run_bind]
  cases bad with
  | true =>
    refine Run_for 0 (fun i L w' => L = [.slice none 0 0, .int .i64 (i : Int)] ∧ w' = w) ⟨rfl, rfl⟩ (fun i l w hi => absurd hi (by omega)) ?_
    rintro L w1 ⟨rfl, hw1⟩
    rw [hw1]
    obtain ⟨hb, hw⟩ := h
    have hR : RS w.drew b l p true := ⟨hb, hw⟩
    have h0' : (0 : Int) < n := by omega
    simp [-ldA_ptr, hb, hw, h0', h0]
    exact ⟨rfl, ⟨p, hR.bad, hp, fun h => by cases h⟩, (show Fr (fun c => c = b) w w.drew from (Fr.refl _ _).drew).sto (.inl rfl) _ _⟩
  | false =>
    obtain ⟨J, hJn, hgood, hbad⟩ := pairs_far (l.drop p) n
    refine Run_for J (fun i L w' => ∃ v r, L = [v, .int .i64 (i : Int)] ∧ pairsF (l.drop p) i = some r ∧ OwnF (fun c => c = b) w w' v r ∧ RS w' b l (p + 2 * i) false ∧ p + 2 * i ≤ l.length) ⟨_, [], rfl, rfl, ⟨SlW.nil _ _, fun _ h => h.elim, Fr.refl _ _⟩, h, hp⟩ ?_ ?_
    · rintro i L w1 hi ⟨v, r, rfl, hr, hO, ⟨hb1, hw1⟩, hle⟩
      obtain ⟨r', hr'⟩ := hgood (i + 1) (by omega)
      have hr2 := hr'
      unfold pairsF at hr'
      rw [hr] at hr'
      cases hpv : pairV (l.drop p) i with
      | none => rw [hpv] at hr'; simp at hr'
      | some c =>
        rw [hpv] at hr'
        simp only [Option.some.injEq] at hr'
        subst hr'
        have hlr := pairsF_len hr
        unfold pairV at hpv
        rw [drop_at, drop_at] at hpv
        cases ha : l[p + 2 * i]? with
        | none => rw [ha] at hpv; simp at hpv
        | some a =>
          cases hb' : l[p + (2 * i + 1)]? with
          | none => rw [ha, hb'] at hpv; simp at hpv
          | some b' =>
            rw [ha, hb'] at hpv
            simp only at hpv
            cases hx : hvN a.toNat with
            | none => rw [hx] at hpv; simp at hpv
            | some x =>
              cases hy : hvN b'.toNat with
              | none => rw [hx, hy] at hpv; simp at hpv
              | some y =>
                rw [hx, hy] at hpv
                simp only [Option.some.injEq] at hpv
                have hlt2 : p + (2 * i + 1) < l.length := (List.getElem?_eq_some_iff.1 hb').1
                have hx16 := hvN_lt hx
                have hy16 := hvN_lt hy
                have i1 := idxSb (kd := .i64) ha
                have i2 := idxSb (kd := .i64) hb'
                rw [show p + (2 * i + 1) = p + 2 * i + 1 by omega] at i2 hlt2
                have e2 : p + 2 * (i + 1) = p + 2 * i + 2 := by omega
                rw [e2]
                have hin : (i : Int) < n := by omega
                have hin' : i < n := by omega
                have wi := wrap_succ' (n := i) (by omega)
                generalize p + 2 * i = Q at *
                have hR1 : RS w1 b l Q false := ⟨hb1, hw1⟩
                have wl : IntKind.i64.wrap ((l.length : Int) - Q) = ((l.length - Q : Nat) : Int) := by rw [show (l.length : Int) - Q = ((l.length - Q : Nat) : Int) by omega]; exact i64W (by omega)
                have hl2 : ¬ ((l.length - Q : Nat) : Int) < 2 := by omega
                have wq := wrap_succ' (n := Q) (by omega)
                have wq2 : IntKind.i64.wrap ((Q : Int) + 2) = ((Q + 2 : Nat) : Int) := by rw [show (Q : Int) + 2 = ((Q + 2 : Nat) : Int) by omega]; exact i64W (by omega)
                simp [-ldA_ptr, hb1, hin, hin', hlen, wl, hl2, i1, -Int.natCast_add]
                refine (half_run a).mono ?_
                rintro _ w2 ⟨rfl, hw2⟩
                rw [hw2, hvV_some hx]
                have nx : ¬ (x : Int) < 0 := by omega
                have ny : ¬ (y : Int) < 0 := by omega
                have m16 : IntKind.i64.wrap (16 * (x : Int)) = ((16 * x : Nat) : Int) := by rw [show 16 * (x : Int) = ((16 * x : Nat) : Int) by omega]; exact i64W (by omega)
                have a16 : IntKind.i64.wrap (((16 * x : Nat) : Int) + y) = ((16 * x + y : Nat) : Int) := by rw [show ((16 * x : Nat) : Int) + y = ((16 * x + y : Nat) : Int) by omega]; exact i64W (by omega)
                have c16 : IntKind.u8.wrap ((16 * x + y : Nat) : Int) = ((16 * x + y : Nat) : Int) := u8W (by omega)
                have hby := by8_of (m := 16 * x + y) (by omega)
                rw [hpv] at hby
                simp [-ldA_ptr, hb1, wq, i2, -Int.natCast_add]
                refine (half_run b').mono ?_
                rintro _ w3 ⟨rfl, hw3⟩
                rw [hw3, hvV_some hy]
                simp [-ldA_ptr, nx, ny, m16, a16, c16, -Int.natCast_add, -Int.natCast_mul]
                rw [← hby]
                have hO2 : OwnF (fun c => c = b) w w1.drew.drew.drew v r := ⟨hO.sl, hO.fresh, hO.fr.drew.drew.drew⟩
                refine ownF_app hO2 c (by omega) fun r2 w4 h4 f4 => ?_
                have hbf : ¬ inB v b := fun hv => by
                  have h1 := (hO.fresh b hv).1
                  have h2 := bk_lt (RS.blk h)
                  omega
                have hb4 : bk w4 b = some [.string (sb l), .int .i64 (Q : Int), .bool false] := f4.bk_some (w := w1.drew.drew.drew) hb1 hbf
                have hw4 : wr w4 b = true := by
                  rw [f4.wr (w := w1.drew.drew.drew) (bk_lt hb1) hbf]; exact hw1
                have hR4 : RS w4 b l Q false := ⟨hb4, hw4⟩
                simp [-ldA_ptr, hb4, hw4, wq2, wi, -Int.natCast_add]
                have f5 : Fr (fun c => c = b) w4 (sto w4 b 1 [.int .i64 ((Q + 2 : Nat) : Int)]) := (show Fr (fun c => c = b) w4 w4 from Fr.refl _ _).sto (.inl rfl) _ _
                refine ⟨r ++ [c], hr2, ⟨h4.sl.fr f5 fun c hc he => ?_, fun c hc => ⟨(h4.fresh c hc).1, Nat.lt_of_lt_of_le (h4.fresh c hc).2 f5.size⟩, h4.fr.trans f5 fun _ _ h => h⟩, hR4.at _, by omega⟩
                subst he
                have h1 := (h4.fresh _ hc).1
                have h2 := bk_lt (RS.blk h)
                omega
    · rintro L w1 ⟨v, r, rfl, hr, hO, ⟨hb1, hw1⟩, hle⟩
      by_cases hJ : J = n
      · subst hJ
        have hin : ¬ (J : Int) < (J : Int) := by omega
        have hR1 : RS w1 b l (p + 2 * J) false := ⟨hb1, hw1⟩
        have ht := ownB_text hO.sl.1
        rw [getL_succ, getL_zero, lssF hin, Run_bindO_some, Run_condM_false, Run_ret]
        simp only [outK_exit, getL_zero]
        rw [show Nat.beq 0 0 = true from rfl, cond_true, Run_bind, Run_rdM]
        refine ⟨_, ht, ?_⟩
        rw [Run_ret]
        refine ⟨by simp only [Bool.false_eq_true, if_false, hr, Option.getD_some]; rfl, ⟨p + 2 * J, ?_, hle, fun _ => rfl⟩, hO.fr⟩
        simp only [Bool.false_eq_true, if_false, hr, Option.isNone_some]
        exact hR1
      · have hpv : pairV (l.drop p) J = none := hbad.resolve_left hJ
        have hlt : J < n := by omega
        have hnone := pairsF_bad hpv hlt
        have hin : (J : Int) < n := by omega
        have byp : ∀ w2, RS w2 b l (p + 2 * J) false → Fr (fun c => c = b) w w2 → ByP w (sto w2 b 2 [.bool true]) b l p n false (.string (sb [])) := fun w2 hR2 f2 => by
          refine ⟨?_, ⟨p + 2 * J, ?_, hle, fun h => ?_⟩, f2.sto (.inl rfl) _ _⟩
          · simp only [Bool.false_eq_true, if_false, hnone, Option.getD_none]
          · simp only [Bool.false_eq_true, if_false, hnone, Option.isNone_none]
            exact hR2.bad
          · simp only [Bool.false_eq_true, if_false, hnone] at h
            cases h
        have fd := hO.fr.drew
        have wl : IntKind.i64.wrap ((l.length : Int) - ((p + 2 * J : Nat) : Int)) = ((l.length - (p + 2 * J) : Nat) : Int) := by rw [show (l.length : Int) - ((p + 2 * J : Nat) : Int) = ((l.length - (p + 2 * J) : Nat) : Int) by omega]; exact i64W (by omega)
        by_cases h2 : l.length - (p + 2 * J) < 2
        · have h2' : ((l.length - (p + 2 * J) : Nat) : Int) < 2 := by omega
          generalize p + 2 * J = Q at *
          have hR1 : RS w1.drew b l Q false := ⟨hb1, hw1⟩
          simp [-ldA_ptr, hb1, hin, hlt, hlen, wl, h2', hw1]
          exact byp _ hR1 fd
        · have h2' : ¬ ((l.length - (p + 2 * J) : Nat) : Int) < 2 := by omega
          unfold pairV at hpv
          rw [drop_at, drop_at] at hpv
          obtain ⟨a, ha⟩ : ∃ a, l[p + 2 * J]? = some a := ⟨_, List.getElem?_eq_getElem (by omega)⟩
          obtain ⟨b', hb'⟩ : ∃ a, l[p + (2 * J + 1)]? = some a := ⟨_, List.getElem?_eq_getElem (by omega)⟩
          rw [ha, hb'] at hpv
          simp only at hpv
          have i1 := idxSb (kd := .i64) ha
          have i2 := idxSb (kd := .i64) hb'
          rw [show p + (2 * J + 1) = p + 2 * J + 1 by omega] at i2
          have wq := wrap_succ' (n := p + 2 * J) (by omega)
          generalize p + 2 * J = Q at *
          simp [-ldA_ptr, hb1, hin, hlt, hlen, wl, h2', i1, -Int.natCast_add]
          refine (half_run a).mono ?_
          rintro _ w2 ⟨rfl, hw2⟩
          rw [hw2]
          simp [-ldA_ptr, hb1, wq, i2, -Int.natCast_add]
          refine (half_run b').mono ?_
          rintro _ w3 ⟨rfl, hw3⟩
          rw [hw3]
          have hR3 : RS w1.drew.drew.drew b l Q false := ⟨hb1, hw1⟩
          have fd3 := fd.drew.drew
          cases hx : hvN a.toNat with
          | none =>
            rw [hvV_none hx]
            simp [-ldA_ptr, hb1, hw1]
            exact byp _ hR3 fd3
          | some x =>
            cases hy : hvN b'.toNat with
            | none =>
              have nx : ¬ (x : Int) < 0 := by omega
              rw [hvV_some hx, hvV_none hy]
              simp [-ldA_ptr, nx, hb1, hw1]
              exact byp _ hR3 fd3
            | some y => rw [hx, hy] at hpv; simp at hpv
end
end Go.Proofs.YthlpfhjcdedhgaaDoor
