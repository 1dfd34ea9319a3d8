/-
  Layer 15 (control), part J: the definition that the laws play with.
-/
import Derived.Test.YtpiceodfdjihhaaGreatDoorCtlI
namespace Go.Proofs.YtpiceodfdjihhaaGreatDoor
open Go.Lift
set_option linter.unusedSimpArgs false

theorem modE {a m : Int} (hm : 1 ≤ m) (hm2 : m ≤ 1099511627776) : (IntKind.i64.wrap (a.tmod m + m)).tmod m = a % m := by
  have h1 := Int.tmod_lt_of_pos a (b := m) (by omega)
  have h2 := Int.lt_tmod_of_pos a (b := m) (by omega)
  have h3 := Int.emod_lt_of_pos a (b := m) (by omega)
  have h4 := Int.emod_nonneg a (b := m) (by omega)
  rw [wrap_small (by omega) (by omega), Int.tmod_eq_emod_of_nonneg (by omega), Int.add_emod_right, Int.tmod_eq_emod]
  split
  · simp
  · have e : ((m.natAbs : Nat) : Int) = m := by omega
    rw [e, Int.sub_emod_right, Int.emod_emod]
section
variable {w : World}
theorem mod6_run {a m : Int} (hm : 1 ≤ m) (hm2 : m ≤ 1099511627776) {Q : Value → World → Prop} : Run (F.granarylaw6_mod (.int .i64 a) (.int .i64 m)) w Q ↔ Q (.int .i64 (a % m)) w := by
  unfold F.granarylaw6_mod
  have h0 : ¬ m = 0 := by omega
  simp [h0, modE hm hm2]
theorem mod15_run {a m : Int} (hm : 1 ≤ m) (hm2 : m ≤ 1099511627776) {Q : Value → World → Prop} : Run (F.granarylaw15_mod (.int .i64 a) (.int .i64 m)) w Q ↔ Q (.int .i64 (a % m)) w := by
  unfold F.granarylaw15_mod
  have h0 : ¬ m = 0 := by omega
  simp [h0, modE hm hm2]
theorem at6_run (i : Value) {Q : Value → World → Prop} : Run (F.granarylaw6_at (.slice none 0 0) i) w Q ↔ Q (.int .i64 0) w := by
  unfold F.granarylaw6_at
  simp

/-- The nodes of the definition that is made. -/
def madeN (n : Nat) : List (Int × List Int) := match n with
  | 0 => []
  | m + 1 => (0, [0]) :: List.replicate m (0, [])
theorem madeN_len (n : Nat) : (madeN n).length = n := by cases n <;> simp [madeN]
def storeB : ByteArray := ByteArray.mk #[97, 45, 115, 116, 111, 114, 101]
def madeC (n : Nat) (resend limit patience : Int) : Clu := ⟨storeB, 1, 1, 1, 1, 1, 1, 1, 1, 1, 1, 1, 1, 1, 1, resend, limit, patience, 1, 1, 1, 0, madeN n⟩

theorem with_run (sv : Value) (ns : List Int) (hl : ns.length = 21) (nv : Value) (hs : isCell sv = true) (hn : isCell nv = true) :
    Run (F.granaryref6_With sv (.agg (ns.map fun n => Value.int .i64 n).toArray) nv) w fun r w' => Fr (fun _ => False) w w' ∧ r = .agg ((sv :: (ns.map fun n => Value.int .i64 n)) ++ [nv]).toArray := by
  unfold F.granaryref6_With
  obtain ⟨n0, n1, n2, n3, n4, n5, n6, n7, n8, n9, n10, n11, n12, n13, n14, n15, n16, n17, n18, n19, n20, rfl⟩ : ∃ n0 n1 n2 n3 n4 n5 n6 n7 n8 n9 n10 n11 n12 n13 n14 n15 n16 n17 n18 n19 n20, ns = [n0, n1, n2, n3, n4, n5, n6, n7, n8, n9, n10, n11, n12, n13, n14, n15, n16, n17, n18, n19, n20] := by
    match ns, hl with
    | [n0, n1, n2, n3, n4, n5, n6, n7, n8, n9, n10, n11, n12, n13, n14, n15, n16, n17, n18, n19, n20], _ => exact ⟨_, _, _, _, _, _, _, _, _, _, _, _, _, _, _, _, _, _, _, _, _, rfl⟩
  simp
  refine Run_new fun b w1 hb hbw f1 hle => ?_
  refine Run_new fun d w2 hd hdw f2 hle2 => ?_
  have hb2 := f2.bk_some hb id
  simp at hb2
  simp at hd
  simp [hb2, buildV, fillV_cell, hs, hn, hd, hdw]
  exact (f1.trans f2 fun _ _ => id).sto (.inr (Nat.le_trans f1.size hle2)) _ _

/-- Seven settings, and room for the rest. -/
def vals0 : List Value := [.int .i64 1, .int .i64 1, .int .i64 1, .int .i64 1, .int .i64 1, .int .i64 1, .int .i64 1, .int .i64 0, .int .i64 1, .int .i64 1, .int .i64 0, .int .i64 0, .int .i64 0, .int .i64 0, .int .i64 0, .int .i64 0, .int .i64 0, .int .i64 0, .int .i64 0, .int .i64 0, .int .i64 0]
theorem wrap1 : IntKind.i64.wrap 1 = 1 := by decide
set_option maxHeartbeats 4000000 in
set_option maxRecDepth 100000 in
theorem reg28_run {b : Nat} {a : Int} (hb : bk w b = some [.int .i64 a, .int .i64 0, .int .i64 0, .int .i64 0, .slice none 0 0, .slice none 0 0, .slice none 0 0]) :
    Run (F.granarylaw6_Made.reg28 (.pointer (some ⟨b, 0, none⟩)) (.int .i64 1) [.int .i64 1]) w fun l w' => ∃ c, l = [.pointer (some ⟨c, 0, none⟩)] ∧ bk w' c = some vals0 ∧ wr w' c = true ∧ Fr (fun _ => False) w w' ∧ w.heap.size ≤ c := by
  unfold F.granarylaw6_Made.reg28
  have dr : Fr (fun _ => False) w w.drew := (Fr.refl _ _).drew
  refine Run_altM (List.cons_ne_nil _ _) ?_
  intro x hx
  simp only [List.mem_cons, List.not_mem_nil, or_false] at hx
  rcases hx with rfl | rfl | rfl | rfl | rfl | rfl | rfl | rfl | rfl | rfl | rfl | rfl | rfl | rfl | rfl | rfl
  all_goals
    try simp (maxSteps := 10000000) [hb, mod6_run, at6_run, wrap1, buildV, fillV_cell]
    refine Run_new fun c w1 hc hcw f1 hle => ?_
    have hb1 := f1.bk_some hb id
    simp at hc
    simp (maxSteps := 10000000) [hb, hb1, hc, hcw, vals0, mod6_run, at6_run, wrap1, buildV, fillV_cell]
    exact ⟨(dr.trans f1 fun _ _ => id).sto (.inr hle) _ _, hle⟩
end
end Go.Proofs.YtpiceodfdjihhaaGreatDoor
