/-
  Layer 6 (ring), part F: Check.
-/
import Derived.Test.YtiggkhmopnhfaaaDoorRingE
namespace Go.Proofs.YtiggkhmopnhfaaaDoor
open Go.Lift
set_option linter.unusedSimpArgs false

def zoneP (C : Clu) : Prop := ∀ n ∈ C.nodes, 0 ≤ n.1 ∧ n.1 ≤ 7
def fullOf (l : List (Int × List Int)) : Nat := (l.filter fun n => decide (0 < n.2.length)).length
open Classical in
/-- The number of the error that Check answers. -/
noncomputable def checkF (C : Clu) : Int :=
  if ¬ nameP C.store then 63 else if ¬ settingP C then 64 else if C.burst < C.block ∨ C.most < C.base then 64
  else if ¬ (1 ≤ C.nodes.length ∧ C.nodes.length ≤ 16) then 65 else if ¬ zoneP C then 65
  else match homesF C with
    | none => 66
    | some home => if C.replicas > fullOf C.nodes then 67 else if home.length * C.replicas * C.chunks > 512 then 3 else 0

theorem wrap_small {n : Int} (h : -9223372036854775808 ≤ n) (h' : n < 9223372036854775808) : IntKind.i64.wrap n = n := by simp [IntKind.wrap, IntKind.bits, IntKind.signed]; omega
theorem homesF_len {C : Clu} {home : List Int} (h : homesF C = some home) : home.length = C.count ∧ 1 ≤ C.count ∧ C.count ≤ 64 := by
  unfold homesF at h
  split at h
  · rename_i hc
    refine ⟨?_, hc⟩
    have key : ∀ (l : List ((Int × List Int) × Nat)) (a b : List Int), l.foldlM (nodeH C.count) a = some b → b.length = a.length := by
      intro l
      induction l with
      | nil => intro a b h; cases h; rfl
      | cons x l ih =>
        intro a b h
        simp only [List.foldlM_cons] at h
        cases h1 : nodeH C.count a x with
        | none => simp [h1] at h
        | some c =>
          simp [h1] at h
          rw [ih _ _ h]
          unfold nodeH at h1
          split at h1
          · exact foldH_len h1
          · cases h1
    rw [key _ _ _ h]; simp
  · cases h

set_option maxHeartbeats 1000000 in
theorem checked_run {w : World} {C : Clu} {nv : Value} {pvs : List Value} (hN : Nodes w nv C.nodes pvs) (hF : Fits C) :
    Run (F.ring_checked (C.val nv)) w fun r w' => Fr (fun _ => False) w w' ∧ ∃ hv, r = .tuple #[hv, .int .i64 (checkF C)] ∧ (checkF C ≠ 0 → hv = .slice none 0 0) ∧
      (checkF C = 0 → ∃ home, homesF C = some home ∧ SlW 1 w' hv (elI home) ∧ New w w' hv) := by
  unfold F.ring_checked
  simp [Clu.val]
  refine Run_new fun b w0 hb hwr fr0 _ => ?_
  have hb0 : bk w0 b = some (C.cells nv) := by simpa using hb
  have hl := hF.count
  simp [hb0]
  have hst : (C.cells nv)[0]? = some (.string C.store) := rfl
  simp [hst]
  refine (nameOK_run w0 C.store).mono ?_
  rintro _ w1 ⟨⟨bo, rfl, hbo⟩, fr1⟩
  have fr01 : Fr (fun _ => False) w w1 := fr0.trans fr1 fun _ _ => id
  have hb1 : bk w1 b = some (C.cells nv) := fr1.bk_some hb0 id
  simp
  refine Run_cond (fun h => ?_) (fun h => ?_)
  case refine_2 =>
    have hn : ¬ nameP C.store := fun hn => by rw [hbo.2 hn] at h; cases h
    have : checkF C = 63 := by unfold checkF; rw [if_pos hn]
    simp [this, fr01]
  have hname := hbo.1 h
  simp
  refine (settings_run w1).mono ?_
  rintro r w2 ⟨fr2, els, hel, hsl, hset⟩
  have hlr := hsl.lenL
  rw [hel] at hlr
  have fr02 : Fr (fun _ => False) w w2 := fr01.trans fr2 fun _ _ => id
  simp [hlr]
  have hcf1 : settingP C ∨ ¬ settingP C := Classical.em _
  refine Run_for 21 (fun i l w'' => l = [.int .i64 i] ∧ Fr (fun _ => False) w2 w'' ∧ ∀ (j : Nat) (l : Int × Int) (n : Int), j < i → lims[j]? = some l → C.nums[j]? = some n → l.1 ≤ n ∧ n ≤ l.2) ⟨rfl, Fr.refl _ _, fun j _ _ hj => absurd hj (Nat.not_lt_zero _)⟩ ?_ ?_
  · rintro i l w3 hi ⟨rfl, fr3, ih⟩
    obtain ⟨lim, hlim⟩ : ∃ l, lims[i]? = some l := ⟨_, List.getElem?_eq_getElem (by exact hi)⟩
    obtain ⟨n, hn⟩ : ∃ n, C.nums[i]? = some n := ⟨_, List.getElem?_eq_getElem (by exact hi)⟩
    obtain ⟨e, he, word, f, rfl, hfc, hcall⟩ := hset i lim hlim
    obtain ⟨q, q1, q2⟩ := (hsl.fr0 fr3).rdA (by decide) he .i64
    have hb3 : bk w3 b = some (C.cells nv) := fr3.bk_some (fr2.bk_some hb1 id) id
    have ws := wrap_succ (n := i) (by omega)
    have hi' : (i : Int) < 21 := by omega
    simp [hi', q1, q2, ws]
    refine Run_newSt rfl rfl (by simp [hfc]) fun b4 w4 hb4 _ fr4 _ => ?_
    have hb4' : bk w4 b = some (C.cells nv) := fr4.bk_some hb3 id
    have hnum := Clu.cells_num (nv := nv) hn
    have fr24 : Fr (fun _ => False) w2 w4 := fr3.trans fr4 fun _ _ => id
    simp [hb4, hb4', hcall, hnum, within_run]
    by_cases h1 : lim.1 ≤ n
    · by_cases h2 : n ≤ lim.2
      · simp [h1, h2]
        refine ⟨fr24.drew, ?_⟩
        intro j a b' n' hj hl' hn'
        by_cases hji : j < i
        · exact ih j (a, b') n' hji hl' hn'
        · obtain rfl : j = i := by omega
          rw [hlim] at hl'; rw [hn] at hn'
          cases hl'; cases hn'
          exact ⟨h1, h2⟩
      · have : ¬ settingP C := fun hs => h2 (hs i lim n hlim hn).2
        have : checkF C = 64 := by unfold checkF; rw [if_neg (not_not_intro hname), if_pos this]
        simp [h1, h2, this]
        exact (fr02.trans fr24 fun _ _ => id).drew
    · have : ¬ settingP C := fun hs => h1 (hs i lim n hlim hn).1
      have : checkF C = 64 := by unfold checkF; rw [if_neg (not_not_intro hname), if_pos this]
      simp [h1, this]
      exact (fr02.trans fr24 fun _ _ => id).drew
  · rintro l w3 ⟨rfl, fr3, ih⟩
    have hset' : settingP C := fun j l n hl' hn' => ih j l n (List.getElem?_eq_some_iff.1 hl').1 hl' hn'
    have hb3 : bk w3 b = some (C.cells nv) := fr3.bk_some (fr2.bk_some hb1 id) id
    have fr03 : Fr (fun _ => False) w w3 := fr02.trans fr3 fun _ _ => id
    clear ih
    have hk : checkF C = checkF C := rfl
    conv at hk => rhs; unfold checkF; rw [if_neg (not_not_intro hname), if_neg (not_not_intro hset')]
    simp [hb3, Clu.cells]
    refine Run_guard (fun h1 => ?_) (fun h1 => ?_)
    · have h1' : C.burst < C.block := by simpa using h1
      rw [if_pos (.inl h1')] at hk
      simp [h1', hk, fr03]
    have h1' : ¬ C.burst < C.block := by simpa using h1
    simp [h1', hb3, Clu.cells]
    refine Run_cond (fun h2 => ?_) (fun h2 => ?_)
    · have h2' : C.most < C.base := by simpa using h2
      rw [if_pos (.inr h2')] at hk
      simp [h2', hk, fr03]
    have h2' : ¬ C.most < C.base := by simpa using h2
    rw [if_neg (not_or.2 ⟨h1', h2'⟩)] at hk
    simp [hb3, Clu.cells, hN.lenL, within_run]
    by_cases h3 : (1 : Int) ≤ C.nodes.length
    case neg =>
      rw [if_pos (by omega)] at hk
      simp [h3, hk, fr03]
    by_cases h4 : (C.nodes.length : Int) ≤ 16
    case neg =>
      rw [if_pos (by omega)] at hk
      simp [h3, h4, hk, fr03]
    rw [if_neg (by omega)] at hk
    simp [h3, h4, hb3, Clu.cells, hN.lenL]
    refine Run_for C.nodes.length (fun i l w'' => l = [.int .i64 (fullOf (C.nodes.take i)), .int .i64 i] ∧ Fr (fun _ => False) w3 w'' ∧ ∀ n ∈ C.nodes.take i, 0 ≤ n.1 ∧ n.1 ≤ 7) ?_ ?_ ?_
    · exact ⟨by simp [fullOf], Fr.refl _ _, by simp⟩
    · rintro i l w4 hi ⟨rfl, fr4, ih⟩
      have fr04 : Fr (fun _ => False) w w4 := fr03.trans fr4 fun _ _ => id
      have hN' := hN.fr0 fr04
      have hg : C.nodes[i]? = some C.nodes[i] := List.getElem?_eq_getElem hi
      generalize C.nodes[i] = n at hg
      obtain ⟨p, _, he, hpv⟩ := hN'.get hg
      obtain ⟨q, q1, q2⟩ := hN'.sl.rdA (by decide) he .i64
      have ws := wrap_succ (n := i) (by omega)
      have hft : fullOf (C.nodes.take (i + 1)) = fullOf (C.nodes.take i) + if 0 < n.2.length then 1 else 0 := by
        unfold fullOf
        rw [List.take_add_one, hg, List.filter_append, List.length_append]
        congr 1
        by_cases h : 0 < n.2.length <;> simp [List.filter_cons, h]
      have hfl : fullOf (C.nodes.take i) ≤ i := by
        unfold fullOf
        refine Nat.le_trans (List.length_filter_le _ _) ?_
        rw [List.length_take]; omega
      have wf := wrap_succ (n := fullOf (C.nodes.take i)) (by omega)
      have hmem : ∀ m ∈ C.nodes.take (i + 1), m ∈ C.nodes.take i ∨ m = n := by
        intro m hm
        rw [List.take_add_one, hg] at hm
        simpa using hm
      have hpl := hpv.lenL
      simp at hpl
      simp [hi, q1, q2, ws]
      refine Run_newSt rfl rfl (by simp [hpv.isCell]) fun b5 w5 hb5 _ fr5 _ => ?_
      have fr35 : Fr (fun _ => False) w3 w5 := fr4.trans fr5 fun _ _ => id
      have fr05 : Fr (fun _ => False) w w5 := fr03.trans fr35 fun _ _ => id
      simp [hb5, within_run]
      by_cases h5 : 0 ≤ n.1
      case neg =>
        have hz : ¬ zoneP C := fun hz => h5 (hz n (List.mem_of_getElem? hg)).1
        rw [if_pos hz] at hk
        simp [h5, hk, fr05]
      by_cases h6 : n.1 ≤ 7
      case neg =>
        have hz : ¬ zoneP C := fun hz => h6 (hz n (List.mem_of_getElem? hg)).2
        rw [if_pos hz] at hk
        simp [h5, h6, hk, fr05]
      simp [h5, h6, hb5, hpl]
      have hall : ∀ (a : Int) (b : List Int), (a, b) ∈ C.nodes.take (i + 1) → 0 ≤ a ∧ a ≤ 7 := by
        intro a b hm
        rcases hmem _ hm with hm | rfl
        · exact ih _ hm
        · exact ⟨h5, h6⟩
      rw [hft]
      refine Run_cond (fun h7 => ?_) (fun h7 => ?_)
      · have h7' : 0 < n.2.length := by simpa using h7
        simp [h7', wf, fr35]
        exact hall
      · have h7' : ¬ 0 < n.2.length := by simpa using h7
        simp [h7', fr35]
        exact hall
    · rintro l w4 ⟨rfl, fr4, ih⟩
      have fr04 : Fr (fun _ => False) w w4 := fr03.trans fr4 fun _ _ => id
      have hz : zoneP C := fun n hn => ih n (by simpa using hn)
      rw [if_neg (not_not_intro hz)] at hk
      clear ih
      have hb4 : bk w4 b = some (C.cells nv) := fr4.bk_some hb3 id
      have hld : ldA 23 (.pointer (some ⟨b, 0, none⟩)) w4 = some (C.val nv) := by
        rw [ldA_bk hb4 (by simp [Clu.cells])]; rfl
      simp only [List.take_length]
      simp [hld]
      refine (homes_run (hN.fr0 fr04) hF).mono ?_
      rintro r w5 ⟨fr5, hr⟩
      have fr05 : Fr (fun _ => False) w w5 := fr04.trans fr5 fun _ _ => id
      cases hh : homesF C with
      | none =>
        rw [hh] at hr hk
        simp only [] at hr hk
        subst hr
        simp [hk, fr05]
      | some home =>
        rw [hh] at hr hk
        simp only [] at hr hk
        obtain ⟨hv, rfl, hs, hnew⟩ := hr
        have hb5 : bk w5 b = some (C.cells nv) := fr5.bk_some hb4 id
        obtain ⟨hhl, hc1, hc2⟩ := homesF_len hh
        have hlv := hs.1.lenL
        simp at hlv
        simp [hb5, Clu.cells]
        have hrep := hset' 0 _ _ rfl rfl
        have hchk := hset' 2 _ _ rfl rfl
        refine Run_cond (fun h7 => ?_) (fun h7 => ?_)
        · have h7' : C.replicas > fullOf C.nodes := by simpa using h7
          rw [if_pos h7'] at hk
          simp [hk, fr05]
        have h7' : ¬ C.replicas > fullOf C.nodes := by simpa using h7
        rw [if_neg h7'] at hk
        have m1 : (home.length : Int) * C.replicas ≤ 64 * 16 := Int.mul_le_mul (by omega) hrep.2 (by have := hrep.1; omega) (by omega)
        have m2 : 0 ≤ (home.length : Int) * C.replicas := Int.mul_nonneg (by omega) (by have := hrep.1; omega)
        have m3 : (home.length : Int) * C.replicas * C.chunks ≤ 64 * 16 * 16 := Int.mul_le_mul m1 hchk.2 (by have := hchk.1; omega) (by omega)
        have m4 : 0 ≤ (home.length : Int) * C.replicas * C.chunks := Int.mul_nonneg m2 (by have := hchk.1; omega)
        simp [hlv, hb5, Clu.cells, wrap_small (n := (home.length : Int) * C.replicas) (by omega) (by omega), wrap_small (n := (home.length : Int) * C.replicas * C.chunks) (by omega) (by omega)]
        refine Run_cond (fun h8 => ?_) (fun h8 => ?_)
        · have h8' : (home.length : Int) * C.replicas * C.chunks > 512 := by simpa using h8
          rw [if_pos h8'] at hk
          simp [hk, fr05]
        · have h8' : ¬ (home.length : Int) * C.replicas * C.chunks > 512 := by simpa using h8
          rw [if_neg h8'] at hk
          simp [hk, fr05]
          exact ⟨hs, fun c hc => ⟨Nat.le_trans fr04.size (hnew c hc).1, (hnew c hc).2⟩⟩

theorem check_run {w : World} {C : Clu} {nv : Value} {pvs : List Value} (hN : Nodes w nv C.nodes pvs) (hF : Fits C) :
    Run (F.ring_Check (C.val nv)) w fun r w' => Fr (fun _ => False) w w' ∧ r = .int .i64 (checkF C) := by
  unfold F.ring_Check
  simp [Clu.val]
  refine Run_new fun b w0 hb hwr fr0 _ => ?_
  have hb0 : bk w0 b = some (C.cells nv) := by simpa using hb
  have hld : ldA 23 (.pointer (some ⟨b, 0, none⟩)) w0 = some (C.val nv) := by
    rw [ldA_bk hb0 (by simp [Clu.cells])]; rfl
  simp [hld]
  refine (checked_run (hN.fr0 fr0) hF).mono ?_
  rintro r w5 ⟨fr5, hv, rfl, _⟩
  simp
  exact fr0.trans fr5 fun _ _ => id

end Go.Proofs.YtiggkhmopnhfaaaDoor
