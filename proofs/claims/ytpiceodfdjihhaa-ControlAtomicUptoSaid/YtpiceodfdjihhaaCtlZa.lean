/-
  Layer 15 (control), part Za: ControlAtomic: letters taken, books laid anew, a job begun.
-/
import Derived.Test.YtpiceodfdjihhaaCtlZ
namespace Go.Proofs.Ytpiceodfdjihhaa
open Go.Lift
set_option linter.unusedSimpArgs false

section
variable {w0 w w1 : World} {pb b : Nat} {J : Int} {p : PS} {v : PV} {tg : Nat → Nat} {x : CS}
theorem OwnC.retag (ho : OwnC w0 w b x (KT w0 tg)) (hpb : tg pb ≠ 0) (hb0 : w0.heap.size ≤ pb) (f : Fr (fun _ => False) w w1) {y : Value} {o k : Nat} {vs : List Value} (hy : ∀ c, inB y c → w.heap.size ≤ c ∧ c < w1.heap.size) : OwnC w0 (sto w1 pb o vs) b x (KT w0 (reTag tg k y)) := by
  have f2 : Fr (fun c => c = pb) w1 (sto w1 pb o vs) := (Fr.refl (fun c => c = pb) w1).sto (.inl rfl) _ _
  refine ((ho.fr0 f).frK f2 fun c hc => by subst hc; exact ⟨hb0, .inl (.inl hpb)⟩).mono fun c hc => ?_
  rcases hc with hc | hc
  · rcases reTag_ne hc with h | h
    · exact .inl (.inl (.inl h))
    · exact .inl (.inr (hy c h))
  · exact .inl (.inl (.inr hc))
theorem retag_old {k : Nat} {y : Value} (hy : ∀ c, inB y c → w.heap.size ≤ c) : ∀ c, c < w.heap.size → reTag tg k y c ≠ 0 → tg c ≠ 0 := fun c hc hr => (reTag_ne hr).elim id fun h => absurd (hy c h) (by omega)

theorem cell11' {m : Ms} (h : m.fine) : ∀ (i : Nat) (hi : i < 11), isCell ((m.cells)[i]'hi) = true := by
  intro i hi
  have : ∀ y ∈ m.cells, isCell y = true := by simp [Ms.cells, h.1, h.2]
  exact this _ (List.getElem_mem hi)
theorem erase_take {l : List Ms} {k i : Nat} {m : Ms} (hm : l[i]? = some m) : (l.take (i + 1)).eraseIdx k = if i = k then (l.take i).eraseIdx k else (l.take i).eraseIdx k ++ [m] := by
  have hi : i < l.length := (List.getElem?_eq_some_iff.1 hm).1
  have hl : (l.take i).length = i := by rw [List.length_take]; omega
  rw [List.take_add_one, hm]
  simp only [Option.toList_some]
  by_cases h : i = k
  · subst h
    rw [if_pos rfl, List.eraseIdx_append_of_length_le (by omega), hl, Nat.sub_self, List.eraseIdx_of_length_le (l := l.take i) (by omega)]
    simp
  · rw [if_neg h]
    by_cases h2 : k < i
    · rw [List.eraseIdx_append_of_lt_length (by omega)]
    · rw [List.eraseIdx_append_of_length_le (by omega), hl, List.eraseIdx_of_length_le (l := l.take i) (by omega), List.eraseIdx_of_length_le (by simp; omega)]
set_option maxHeartbeats 2000000 in
theorem taken_run (hm : PlM w0 w pb b J p v tg) (ho : OwnC w0 w b x (KT w0 tg)) {k : Nat} {m : Ms} (hk : p.letters[k]? = some m) (hf : ∀ m ∈ p.letters, m.fine) (hl : p.letters.length ≤ 1099511627776) :
    Run (F.granarylaw15_Play_taken (.pointer (some ⟨pb, 0, none⟩)) (.int .i64 k)) w fun r w' => r = m.val ∧ ∃ v' tg', PlM w0 w' pb b J { p with letters := p.letters.eraseIdx k } v' tg' ∧ OwnC w0 w' b x (KT w0 tg') ∧ Fr (fun c => tg c ≠ 0) w w' ∧ ∀ c, c < w.heap.size → tg' c ≠ 0 → tg c ≠ 0 := by
  unfold F.granarylaw15_Play_taken
  simp
  refine Run_new fun a w1 ha haw f1 hle1 => ?_
  have m1 := hm.fr0 f1
  have hb1 := m1.blk
  obtain ⟨q, z1, z2⟩ := m1.letters.1.rdA (by decide) (e := m.cells) (by rw [elM_get, hk]; rfl) .i64
  have hmf := hf m (List.mem_of_getElem? hk)
  simp [-ldA_ptr, hb1, PS.cells, z1, z2]
  refine Run_newSt rfl rfl (by simp [Ms.cells, hmf.1, hmf.2]) fun e w2 he hew f2 hle2 => ?_
  have he' : bk w2 e = some m.cells := he
  have f02 : Fr (fun _ => False) w w2 := f1.trans f2 fun _ _ => id
  have m2 := hm.fr0 f02
  have hll := m2.letters.1.lenL
  simp at hll
  refine Run_for p.letters.length (fun i lv w3 => ∃ acc, lv = [acc, .int .i64 i] ∧ Fr (fun _ => False) w2 w3 ∧ SlW 11 w3 acc (elM ((p.letters.take i).eraseIdx k)) ∧ New w2 w3 acc) ⟨_, rfl, Fr.refl _ _, by simpa [elM] using SlW.nil 11 w2, fun _ h => h.elim⟩ ?_ ?_
  · rintro i lv w3 hi ⟨acc, rfl, f3, s3, n3⟩
    have m3 := m2.fr0 f3
    have hb3 := m3.blk
    have hll3 := m3.letters.1.lenL
    simp at hll3
    have em : p.letters[i]? = some p.letters[i] := List.getElem?_eq_getElem hi
    have hif := hf _ (List.getElem_mem hi)
    generalize p.letters[i] = z at em hif
    obtain ⟨q', y1, y2⟩ := m3.letters.1.rdA (by decide) (e := z.cells) (by rw [elM_get, em]; rfl) .i64
    have wi := wrap_succ (n := i) (by omega)
    have het := erase_take (k := k) em
    simp [-ldA_ptr, hb3, PS.cells, hll3, hi]
    refine Run_cond (fun hh => ?_) (fun hh => ?_)
    · have hik : i = k := by have := of_decide_eq_true hh; omega
      rw [if_pos hik] at het
      simp [wi]
      rw [het]
      exact ⟨f3, s3, n3⟩
    · have hik : ¬ i = k := by have := of_decide_eq_false hh; omega
      rw [if_neg hik] at het
      simp [-ldA_ptr, hb3, PS.cells, y1, y2]
      have hlen : ((p.letters.take i).eraseIdx k).length ≤ i := Nat.le_trans (List.length_eraseIdx_le _ _) (by rw [List.length_take]; omega)
      refine Run_app1 (k := 11) rfl s3 (by decide) rfl (by decide) (by simp [Ms.cells, hif.1, hif.2]) (by simp; omega) fun r w4 s4 f4 hin4 w5 f5 => ?_
      simp [wi]
      have e3 := f3.size
      have e4 := f4.size
      refine ⟨f3.new f4 fun c hc => (n3 c hc).1, ?_, fun c hc => ?_⟩
      · rw [het]
        simpa [elM] using s4
      · rcases hin4 c hc with h | h
        · have := n3 c h; omega
        · omega
  · rintro lv w3 ⟨acc, rfl, f3, s3, n3⟩
    rw [List.take_of_length_le (Nat.le_refl _)] at s3
    have m3 := m2.fr0 f3
    have hb3 := m3.blk
    have hll3 := m3.letters.1.lenL
    simp at hll3
    have f03 : Fr (fun _ => False) w w3 := f02.trans f3 fun _ _ => id
    have hp0 := hm.bound pb (by rw [hm.tp]; decide)
    have lp := bk_lt hm.blk
    have sz1 := f1.size
    have sz2 := f2.size
    have he3 := f3.bk_some he' id
    have ha3 : bk w3 a = some _ := (f2.trans f3 fun _ _ => id).bk_some ha id
    have haw3 : wr w3 a = true := by rw [(f2.trans f3 fun _ _ => id).wr (bk_lt ha) id]; exact haw
    have ne1 : e ≠ pb := by omega
    have ne2 : a ≠ pb := by omega
    have la := bk_lt ha
    have ne3 : a ≠ e := by omega
    have hy : ∀ c, inB acc c → w.heap.size ≤ c ∧ c < w3.heap.size := fun c hc => by have := n3 c hc; have := f02.size; omega
    have m4 := hm.setLetters f03 (fun _ h => h.elim) s3 fun c hc => ⟨.inr (hm.tag0 (hy c hc).1), by have := (hy c hc).1; omega, (hy c hc).2⟩
    have hpt : tg pb ≠ 0 := by rw [hm.tp]; decide
    have fa : Fr (fun c => c = a) (sto w3 pb 2 [acc]) (sto (sto w3 pb 2 [acc]) a 0 m.cells) := (Fr.refl (fun c => c = a) _).sto (.inl rfl) _ _
    have fp : Fr (fun c => c = pb) w3 (sto w3 pb 2 [acc]) := (Fr.refl (fun c => c = pb) w3).sto (.inl rfl) _ _
    have hat : reTag tg 3 acc a = 0 := Classical.byContradiction fun h => (reTag_ne h).elim (fun h => h (hm.tag0 hle1)) fun h => by have := (n3 a h).1; omega
    have o4 : OwnC w0 (sto (sto w3 pb 2 [acc]) a 0 m.cells) b x (KT w0 (reTag tg 3 acc)) := by
      have o1 := ((ho.fr0 f03).frK fp fun c hc => by subst hc; exact ⟨hp0.1, .inl (.inl hpt)⟩).frK fa fun c hc => by subst hc; exact ⟨by omega, .inl (.inr ⟨hle1, by have := f3.size; omega⟩)⟩
      refine o1.mono fun c hc => ?_
      rcases hc with hc | hc
      · rcases reTag_ne hc with h | h
        · exact .inl (.inl (.inl (.inl h)))
        · exact .inl (.inl (.inr (hy c h)))
      · exact .inl (.inl (.inl (.inr hc)))
    have hcell := cell11' hmf
    simp [hb3, PS.cells, hll3, m3.wr, s3.1.isCell, cells_isCell s3.1.isCell, he3, ha3, haw3, bk_sto, ne1, ne2, ne3, Ne.symm ne3, hcell]
    have eset : setL [Value.int IntKind.i64 0, .int .i64 0, .int .i64 0, .int .i64 0, .int .i64 0, .int .i64 0, .int .i64 0, .int .i64 0, .int .i64 0, .string ByteArray.empty, .string ByteArray.empty] 0 m.cells = m.cells := setL_all _ _ rfl
    refine ⟨m.val, ⟨Nat.le_refl 11, rfl⟩, rfl, hcell, m.val, ⟨by show 11 ≤ (setL _ 0 m.cells).length; rw [eset]; exact Nat.le_refl 11, by show Value.agg (List.take 11 (setL _ 0 m.cells)).toArray = _; rw [eset]; rfl⟩, rfl, _, _, m4.fr fa fun c hc => by subst hc; exact hat, o4, ?_, retag_old fun c hc => (hy c hc).1⟩
    exact ((f03.mono fun _ h => h.elim).trans fp fun c _ hc => by subst hc; exact hpt).trans fa fun c hc h => by subst h; omega
/-- None yet. -/
theorem none_run {w : World} {n : Nat} (hn : n ≤ 1048576) : Run (F.granarylaw15_none (.int .i64 n)) w fun r w' => SlW 1 w' r (elB (List.replicate n false)) ∧ Fr (fun _ => False) w w' ∧ New w w' r := by
  unfold F.granarylaw15_none
  simp
  refine Run_for n (fun i lv w3 => ∃ acc, lv = [acc, .int .i64 i] ∧ Fr (fun _ => False) w w3 ∧ SlW 1 w3 acc (elB (List.replicate i false)) ∧ New w w3 acc) ⟨_, rfl, Fr.refl _ _, SlW.nil 1 w, fun _ h => h.elim⟩ ?_ ?_
  · rintro i lv w3 hi ⟨acc, rfl, f3, s3, n3⟩
    have hin : (i : Int) < n := by omega
    have wi := wrap_succ (n := i) (by omega)
    simp [hin]
    refine Run_app1 (k := 1) rfl s3 (by decide) rfl (by decide) (by simp) (by simp; omega) fun r w4 s4 f4 hin4 w5 f5 => ?_
    simp [wi]
    have e3 := f3.size
    have e4 := f4.size
    refine ⟨f3.new f4 fun c hc => (n3 c hc).1, ?_, fun c hc => ?_⟩
    · rw [List.replicate_succ']
      simpa [elB] using s4
    · rcases hin4 c hc with h | h
      · have := n3 c h; omega
      · omega
  · rintro lv w3 ⟨acc, rfl, f3, s3, n3⟩
    simp
    exact ⟨s3, f3, n3⟩
end
end Go.Proofs.Ytpiceodfdjihhaa
