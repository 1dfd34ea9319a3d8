/-
  Layer 4 (paper): part O: the document's reader: what must stand, sums.
-/
import Derived.Test.YthlpfhjcdedhgaaDoorPapN
namespace Go.Proofs.YthlpfhjcdedhgaaDoor
open Go.Lift Go.Sort
set_option linter.unusedSimpArgs false
set_option linter.unusedVariables false
set_option maxHeartbeats 4000000
section
variable {w w1 w2 : World}
theorem prefix_take {p l : List UInt8} (h : p.length ≤ l.length) : p <+: l ↔ l.take p.length = p := by
  rw [List.prefix_iff_eq_take]
  exact eq_comm
/-- What stood: the place is behind it; or the reader is bad. -/
structure LitP (w w' : World) (b : Nat) (l : List UInt8) (p : Nat) (q : List UInt8) (bad : Bool) : Prop where
  rs : ∃ p', RS w' b l p' (bad || !decide (q <+: l.drop p)) ∧ p' ≤ l.length ∧ (bad = false → q <+: l.drop p → p' = p + q.length)
  fr : Fr (fun c => c = b) w w'
theorem rlit_run {b p : Nat} {l q : List UInt8} {bad : Bool} (h : RS w b l p bad) (hp : p ≤ l.length) (hl : l.length ≤ 4611686018427387904) (hq : q.length ≤ 4611686018427387904) :
    Run (F.granaryref4_Reader_lit (.pointer (some ⟨b, 0, none⟩)) (.string (sb q))) w fun _ w' => LitP w w' b l p q bad := by
  unfold F.granaryref4_Reader_lit
  obtain ⟨hb, hw⟩ := h
  have hR : RS w.drew b l p bad := ⟨hb, hw⟩
  have f0 : Fr (fun c => c = b) w w.drew := (Fr.refl _ _).drew
  have hlen : (sb l).size = l.length := sb_size l
  have hlq : (sb q).size = q.length := sb_size q
  have hbadR := hR.bad
  have hbadF : Fr (fun c => c = b) w (sto w.drew b 2 [.bool true]) := f0.sto (.inl rfl) _ _
  have bdone : ¬ (bad = false ∧ q <+: l.drop p) → LitP w (sto w.drew b 2 [.bool true]) b l p q bad := fun hn => by
    refine ⟨⟨p, ?_, hp, fun h1 h2 => absurd ⟨h1, h2⟩ hn⟩, hbadF⟩
    have e : (bad || !decide (q <+: l.drop p)) = true := by
      cases bad with
      | true => rfl
      | false => simp; exact fun h => hn ⟨rfl, h⟩
    rw [e]; exact hbadR
  by_cases c1 : bad = true
  · subst c1
    simp [-ldA_ptr, hb, hw]
    exact bdone fun h => Bool.noConfusion h.1
  have c1' : bad = false := by simpa using c1
  have ws : IntKind.i64.wrap ((l.length : Int) - p) = ((l.length - p : Nat) : Int) := by rw [show (l.length : Int) - p = ((l.length - p : Nat) : Int) by omega]; exact i64W (by omega)
  by_cases c2 : l.length - p < q.length
  · have h2 : ((l.length - p : Nat) : Int) < q.length := by omega
    rw [c1'] at hb
    simp [-ldA_ptr, hb, hw, hlen, hlq, ws, h2]
    refine bdone fun h => ?_
    have := h.2.length_le
    rw [List.length_drop] at this
    omega
  have h2 : ¬ ((l.length - p : Nat) : Int) < q.length := by omega
  have wa : IntKind.i64.wrap ((p : Int) + q.length) = ((p + q.length : Nat) : Int) := by rw [show (p : Int) + q.length = ((p + q.length : Nat) : Int) by omega]; exact i64W (by omega)
  have hsl := slBoth (l := l) (n := p) (m := p + q.length) (by omega) (by omega)
  have htk : (l.take (p + q.length)).drop p = (l.drop p).take q.length := by
    rw [List.drop_take, Nat.add_sub_cancel_left]
  rw [htk] at hsl
  have hpre := prefix_take (p := q) (l := l.drop p) (by rw [List.length_drop]; omega)
  have hb0 := hb
  rw [c1'] at hb
  have he : p + q.length ≤ l.length := by omega
  generalize he0 : p + q.length = e at *
  by_cases c3 : (l.drop p).take q.length = q
  · simp [-ldA_ptr, -binV_str, sbNe, hb, hw, hlen, hlq, ws, h2, wa, hsl, c3]
    have e2 : (bad || !decide (q <+: l.drop p)) = bad := by simp [hpre.2 c3]
    exact ⟨⟨e, by rw [e2]; exact hR.at _, he, fun _ _ => he0.symm⟩, f0.sto (.inl rfl) _ _⟩
  · simp [-ldA_ptr, -binV_str, sbNe, hb, hw, hlen, hlq, ws, h2, wa, hsl, c3]
    exact bdone fun h => c3 (hpre.1 h.2)
theorem hexd_hv : ∀ m : Fin 256, ∀ i : Fin 16, ((hexd i.val).toNat = m.val ↔ hvN m.val = some i.val) := by decide +kernel
theorem half_run (c : UInt8) : Run (F.granaryref4_half (by8 c)) w fun r w' => r = .int .i64 (hvV c.toNat) ∧ w' = w := by
  unfold F.granaryref4_half
  have eD : ByteArray.mk #[48, 49, 50, 51, 52, 53, 54, 55, 56, 57, 97, 98, 99, 100, 101, 102] = DIG := rfl
  rw [eD, Run_bind]
  have key : ∀ i, i < 16 → ((hexd i).toNat = c.toNat ↔ hvN c.toNat = some i) := fun i hi => hexd_hv ⟨c.toNat, c.toNat_lt⟩ ⟨i, hi⟩
  have eq8 : ∀ i, i < 16 → binV .eql (by8 (hexd i)) (by8 c) = some (.bool (decide (hvN c.toNat = some i))) := fun i hi => by
    unfold by8
    rw [binV_int, intBin_eql]
    have : ((hexd i).toNat : Int) = c.toNat ↔ hvN c.toNat = some i := by rw [← key i hi]; omega
    simp only [this]
  obtain ⟨J, hJ, hlt, hend⟩ : ∃ J, J ≤ 16 ∧ (∀ i, i < J → hvN c.toNat ≠ some i) ∧ (J < 16 ∧ hvN c.toNat = some J ∨ J = 16 ∧ hvN c.toNat = none) := by
    cases h : hvN c.toNat with
    | none => exact ⟨16, Nat.le_refl _, fun i _ => by simp, .inr ⟨rfl, rfl⟩⟩
    | some k => exact ⟨k, Nat.le_of_lt (hvN_lt h), fun i hi he => by cases he; omega, .inl ⟨hvN_lt h, rfl⟩⟩
  refine Run_for J (fun i L w' => L = [.int .i64 (i : Int)] ∧ w' = w) ⟨rfl, rfl⟩ ?_ ?_
  · rintro i L w1 hi ⟨rfl, hw⟩
    rw [hw]
    have h1 : (i : Int) < 16 := by omega
    have wi := wrap_succ' (n := i) (by omega)
    rw [getL_zero, lssT h1, Run_bindO_some, Run_condM_true, idx_DIG (show i < 16 by omega), Run_bindO_some, eq8 i (by omega), Run_bindO_some, decide_eq_false (hlt i hi), Run_condM_false, binV_int, intBin_add, wi, Run_bindO_some, Run_ret]
    exact ⟨rfl, rfl⟩
  · rintro L w1 ⟨rfl, hw⟩
    rw [hw]
    rcases hend with ⟨h16, he⟩ | ⟨h16, he⟩
    · have h1 : (J : Int) < 16 := by omega
      rw [getL_zero, lssT h1, Run_bindO_some, Run_condM_true, idx_DIG h16, Run_bindO_some, eq8 J h16, Run_bindO_some, decide_eq_true he, Run_condM_true, Run_ret]
      simp only [outK_ret, Run_ret, hvV_some he]
      exact ⟨trivial, trivial⟩
    · have h1 : ¬ (J : Int) < 16 := by omega
      rw [getL_zero, lssF h1, Run_bindO_some, Run_condM_false, Run_ret]
      simp only [outK_exit]
      rw [show Nat.beq 0 0 = true from rfl, cond_true, Run_ret, hvV_none he]
      exact ⟨rfl, rfl⟩
end
end Go.Proofs.YthlpfhjcdedhgaaDoor
