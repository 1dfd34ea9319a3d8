/-
  The document's ring (granaryref6), part D: Check.
-/
import Derived.Test.YtiggkhmopnhfaaaDoorRefC
namespace Go.Proofs.YtiggkhmopnhfaaaDoor
open Go.Lift
set_option linter.unusedSimpArgs false
set_option maxHeartbeats 1000000

theorem check6_run {w : World} {C : Clu} {nv : Value} {pvs : List Value} (hN : Nodes w nv C.nodes pvs) (hF : Fits C) (hG : bk w 0 = some greatV) :
    Run (F.granaryref6_Check (C.val nv)) w fun r w' => r = .int .i64 (checkF C) ∧ Fr (fun _ => False) w w' := by
  unfold F.granaryref6_Check
  have hnv := hN.sl.isCell
  simp [-ldA_ptr, Clu.val]
  refine Run_new fun b w0 hb _ fr0 _ => ?_
  have hb0 : bk w0 b = some (C.cells nv) := by simpa using hb
  have hst : (C.cells nv)[0]? = some (.string C.store) := rfl
  simp [-ldA_ptr, hb0, hst]
  refine (named_run w0 C.store).mono ?_
  rintro _ w1 ⟨⟨bo, rfl, hbo⟩, fr1⟩
  have fr01 : Fr (fun _ => False) w w1 := fr0.trans fr1 fun _ _ => id
  have hb1 : bk w1 b = some (C.cells nv) := fr1.bk_some hb0 id
  cases bo with
  | false =>
    have hn : ¬ nameP C.store := fun hn => by have := hbo.2 hn; cases this
    have : checkF C = 63 := by unfold checkF; rw [if_pos hn]
    simp [this, fr01]
  | true =>
  have hname := hbo.1 rfl
  simp [-ldA_ptr, Clu.ldA6 hb1]
  refine (set_run hnv (fr01.bk_some hG id)).mono ?_
  rintro _ w2 ⟨⟨bo2, rfl, hbo2⟩, fr2⟩
  have fr02 : Fr (fun _ => False) w w2 := fr01.trans fr2 fun _ _ => id
  have hb2 : bk w2 b = some (C.cells nv) := fr2.bk_some hb1 id
  have hk : checkF C = checkF C := rfl
  conv at hk => rhs; unfold checkF; rw [if_neg (not_not_intro hname)]
  cases bo2 with
  | false =>
    have hns : ¬ setP C := fun hn => by have := hbo2.2 hn; cases this
    have : checkF C = 64 := by
      by_cases h1 : settingP C
      · rw [if_neg (not_not_intro h1), if_pos] at hk
        · exact hk
        · by_cases h2 : C.burst < C.block
          · exact .inl h2
          · by_cases h3 : C.most < C.base
            · exact .inr h3
            · exact absurd ⟨h1, by omega, by omega⟩ hns
      · rw [if_pos h1] at hk; exact hk
    simp [this, fr02]
  | true =>
  have hset := hbo2.1 rfl
  rw [if_neg (not_not_intro hset.1), if_neg (by have := hset.2.1; have := hset.2.2; omega)] at hk
  simp [hb2, Clu.cells, hN.lenL]
  by_cases h3 : (C.nodes.length : Int) < 1
  · rw [if_pos (by omega)] at hk
    simp [h3, hk, fr02]
  by_cases h4 : (16 : Int) < C.nodes.length
  · rw [if_pos (by omega)] at hk
    have h4' : 16 < C.nodes.length := by omega
    simp [h3, h4, h4', hb2, Clu.cells, hN.lenL, hk, fr02]
  rw [if_neg (by omega)] at hk
  have h3' : ¬ C.nodes.length < 1 := by omega
  have h4' : ¬ 16 < C.nodes.length := by omega
  simp [h3, h3', h4, h4', hb2, Clu.cells, hN.lenL]
  refine Run_for C.nodes.length (fun i l w'' => l = [.int .i64 (fullOf (C.nodes.take i)), .int .i64 i] ∧ w'' = w2 ∧ ∀ n ∈ C.nodes.take i, 0 ≤ n.1 ∧ n.1 ≤ 7) ?_ ?_ ?_
  · exact ⟨by simp [fullOf], rfl, by simp⟩
  · rintro i l w4 hi ⟨rfl, rfl, ih⟩
    have hN' := hN.fr0 fr02
    have hg : C.nodes[i]? = some C.nodes[i] := List.getElem?_eq_getElem hi
    generalize C.nodes[i] = n at hg
    obtain ⟨p, _, he, hpv⟩ := hN'.get hg
    obtain ⟨u, u1, u2⟩ := hN'.sl.rdF he .i64
    obtain ⟨z, z1, z2⟩ := u2 1 (by decide)
    have z2' : ld1 z w4 = some p := z2
    obtain ⟨y, y1, y2⟩ := u2 0 (by decide)
    have y2' : ld1 y w4 = some (.int .i64 n.1) := y2
    have ws := wrap_succ (n := i) (by omega)
    have hft : fullOf (C.nodes.take (i + 1)) = fullOf (C.nodes.take i) + if 0 < n.2.length then 1 else 0 := by
      unfold fullOf
      rw [List.take_add_one, hg, List.filter_append, List.length_append]
      congr 1
      by_cases h : 0 < n.2.length <;> simp [List.filter_cons, h]
    have hfl : fullOf (C.nodes.take i) ≤ i := by
      unfold fullOf
      refine Nat.le_trans (List.length_filter_le _ _) ?_
      rw [List.length_take]; omega
    have wf := wrap_succ (n := fullOf (C.nodes.take i)) (by omega)
    have hmem : ∀ m ∈ C.nodes.take (i + 1), m ∈ C.nodes.take i ∨ m = n := by
      intro m hm
      rw [List.take_add_one, hg] at hm
      simpa using hm
    have hpl := hpv.lenL
    simp at hpl
    have hlen := hN.lenL
    by_cases h5 : n.1 < 0
    · have hz : ¬ zoneP C := fun hz => by have := (hz n (List.mem_of_getElem? hg)).1; omega
      rw [if_pos hz] at hk
      simp [hb2, Clu.cells, hlen, hi, u1, y1, y2', h5, hk, fr02]
    by_cases h6 : 8 ≤ n.1
    · have hz : ¬ zoneP C := fun hz => by have := (hz n (List.mem_of_getElem? hg)).2; omega
      rw [if_pos hz] at hk
      simp [hb2, Clu.cells, hlen, hi, u1, y1, y2', h5, h6, hk, fr02]
    have hall : ∀ (a : Int) (b : List Int), (a, b) ∈ C.nodes.take (i + 1) → 0 ≤ a ∧ a ≤ 7 := by
      intro a b hm
      rcases hmem _ hm with hm | rfl
      · exact ih _ hm
      · exact ⟨by omega, by omega⟩
    rw [hft]
    simp [hb2, Clu.cells, hlen, hi, u1, y1, y2', h5, h6, z1, z2', hpl]
    refine Run_cond (fun h7 => ?_) (fun h7 => ?_)
    · have h7' : 0 < n.2.length := by simpa using h7
      simp [h7', wf, ws]
      exact hall
    · have h7' : ¬ 0 < n.2.length := by simpa using h7
      simp [h7', ws]
      exact hall
  · rintro l w4 ⟨rfl, rfl, ih⟩
    have hz : zoneP C := fun n hn => ih n (by simpa using hn)
    rw [if_neg (not_not_intro hz)] at hk
    clear ih
    rw [List.take_length]
    simp [-ldA_ptr, hb2, Clu.cells, hN.lenL]
    simp [-ldA_ptr, Clu.ldA6 hb2]
    refine (dealt_run (hN.fr0 fr02) hF).mono ?_
    rintro _ w5 ⟨⟨bo3, rfl, hbo3⟩, fr5⟩
    have fr05 : Fr (fun _ => False) w w5 := fr02.trans fr5 fun _ _ => id
    have hb5 : bk w5 b = some (C.cells nv) := fr5.bk_some hb2 id
    cases bo3 with
    | false =>
      have hnd : ¬ dealtP C := fun hn => by have := hbo3.2 hn; cases this
      cases hh : homesF C with
      | some home => exact absurd ((dealt_iff C).2 (by rw [hh]; simp)) hnd
      | none =>
        rw [hh] at hk
        simp only at hk
        simp [hk, fr05]
    | true =>
      have hd := (dealt_iff C).1 (hbo3.1 rfl)
      obtain ⟨home, hh⟩ := Option.ne_none_iff_exists'.1 hd
      obtain ⟨hhl, hc1, hc2⟩ := homesF_len hh
      rw [hh] at hk
      simp only at hk
      simp [-ldA_ptr, hb5, Clu.cells]
      refine Run_cond (fun h7 => ?_) (fun h7 => ?_)
      · have h7' : (fullOf C.nodes : Int) < C.replicas := by simpa using h7
        rw [if_pos (by omega)] at hk
        simp [hk, fr05]
      have h7' : ¬ (fullOf C.nodes : Int) < C.replicas := by simpa using h7
      rw [if_neg (by omega)] at hk
      simp [-ldA_ptr, Clu.ldA6 hb5]
      have hN5 : Nodes w5.drew nv C.nodes pvs := (hN.fr0 fr05).fr0 (Fr.refl _ _).drew
      refine (parts6_run hN5 hF).mono ?_
      rintro _ w6 ⟨rfl, fr6⟩
      have hb6 : bk w6 b = some (C.cells nv) := fr6.bk_some (w := w5.drew) hb5 id
      have fr06 : Fr (fun _ => False) w w6 := fr05.drew.trans fr6 fun _ _ => id
      have hr := hset.1 0 _ _ rfl rfl
      have hch := hset.1 2 _ _ rfl rfl
      simp only [Clu.nums] at hr hch
      obtain ⟨R, hR⟩ : ∃ R : Nat, C.replicas = R := ⟨C.replicas.toNat, by have := hr.1; omega⟩
      obtain ⟨K, hK⟩ : ∃ K : Nat, C.chunks = K := ⟨C.chunks.toNat, by have := hch.1; omega⟩
      have hR16 : R ≤ 16 := by have := hr.2; omega
      have hK16 : K ≤ 16 := by have := hch.2; omega
      have hb1' : C.count * R ≤ 64 * 16 := Nat.mul_le_mul hc2 hR16
      have hb2' : C.count * R * K ≤ 64 * 16 * 16 := Nat.mul_le_mul hb1' hK16
      have w1' : IntKind.i64.wrap ((C.count : Int) * C.replicas) = ((C.count * R : Nat) : Int) := by
        rw [hR, ← Int.natCast_mul]; exact wrap_nat (by omega)
      have w2' : IntKind.i64.wrap (((C.count * R : Nat) : Int) * C.chunks) = ((C.count * R * K : Nat) : Int) := by
        rw [hK, ← Int.natCast_mul]; exact wrap_nat (by omega)
      have hprod : (home.length : Int) * C.replicas * C.chunks = ((C.count * R * K : Nat) : Int) := by
        rw [hhl, hR, hK, ← Int.natCast_mul, ← Int.natCast_mul]
      rw [hprod] at hk
      simp only [Int.natCast_mul] at w1' w2' hk
      simp [hb6, hb5, Clu.cells, w1', w2']
      refine Run_cond (fun h8 => ?_) (fun h8 => ?_)
      · have h8' : (512 : Int) < (C.count : Int) * R * K := by simpa using h8
        rw [if_pos h8'] at hk
        simp [hk, fr06]
      · have h8' : ¬ (512 : Int) < (C.count : Int) * R * K := by simpa using h8
        rw [if_neg h8'] at hk
        simp [hk, fr06]

end Go.Proofs.YtiggkhmopnhfaaaDoor
