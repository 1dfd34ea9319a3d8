/-
  Layer 1 (disk), part H: pending changes made safe; Sync, SyncDir; Remove.
-/
import Derived.Test.YtojnickeblbgoaaDoorDiskG
namespace Go.Proofs.YtojnickeblbgoaaDoor
open Go.Lift
set_option linter.unusedSimpArgs false
set_option maxHeartbeats 2000000

abbrev Acc := ByteArray × (Slt → Option Int)
def settleStep (i : Int) (acc : Acc) (c : Chg) : Acc := if c.node = i then applyF c acc.1 acc.2 else acc
def foldOk (i : Int) : Acc → List Chg → Prop
  | _, [] => True
  | acc, c :: r => (c.node = i → c.fits acc.1) ∧ foldOk i (settleStep i acc c) r
theorem foldOk_at {i : Int} : ∀ {l : List Chg} {acc : Acc} {k : Nat} {c : Chg}, foldOk i acc l → l[k]? = some c → c.node = i → c.fits ((l.take k).foldl (settleStep i) acc).1
  | [], acc, k, c, _, h, _ => by simp at h
  | x :: l, acc, 0, c, h, hk, hc => by
    simp only [List.getElem?_cons_zero, Option.some.injEq] at hk
    subst hk
    exact h.1 hc
  | x :: l, acc, k + 1, c, h, hk, hc => by
    simp only [List.getElem?_cons_succ] at hk
    exact foldOk_at (l := l) h.2 hk hc
def restOf (i : Int) (l : List Chg) : List Chg := l.filter fun c => decide (c.node ≠ i)
def settleF (d : Dk) (i : Nat) (nd : Nd) : Int × Dk := if d.actF.1 ≠ 0 then d.actF else (0, { d.actF.2 with
  nodes := d.nodes.set i { nd with kept := (d.pending.foldl (settleStep i) (nd.kept, d.kept)).1 }, kept := (d.pending.foldl (settleStep i) (nd.kept, d.kept)).2, pending := restOf i d.pending })
theorem ld7 {w : World} {x : Nat} {c : Chg} (h : bk w x = some c.cells) : ldA 7 (Ptr x) w = some c.val := by rw [ldA_bk h (by simp [Chg.cells])]; rfl
section
variable {w w' w'' : World} {b : Nat} {d d' : Dk} {v : DV} {tag : Nat → Nat}
theorem settle_run (h : DA w b d v tag) {i : Nat} {nd : Nd} (hi : d.nodes[i]? = some nd) (hok : foldOk i (nd.kept, d.kept) d.pending) (hpl : d.pending.length ≤ 16777216) :
    Run (F.disk_Disk_settle (Ptr b) (.int .i64 i)) w fun r w' => r = .int .i64 (settleF d i nd).1 ∧ DDid w w' b tag (settleF d i nd).2 := by
  unfold F.disk_Disk_settle
  simp only [Run_bind]
  refine (act_run h).mono ?_
  rintro _ w2 ⟨rfl, h2, f2⟩
  obtain ⟨an, asn, ak, ap⟩ := actF_same d
  have f2' : Fr (fun c => tag c ≠ 0) w w2 := f2.mono fun c hc => by rw [hc, h.tb]; decide
  by_cases ha : d.actF.1 = 0
  · have hi2 : d.actF.2.nodes[i]? = some nd := by rw [an]; exact hi
    obtain ⟨b0, o, l0, i1, t4, _⟩ := h2.setNode hi2
    have hb2 := h2.blk
    have hpv := h2.pend.1.lenL
    rw [List.length_map, ap] at hpv
    simp [-ldA_ptr, ha, hb2, Dk.cells, i1, hpv]
    have hacc : DA w2 b { d.actF.2 with nodes := d.nodes.set i { nd with kept := nd.kept }, kept := d.kept } { v with lk := v.lk } tag := by
      have e : d.nodes.set i { nd with kept := nd.kept } = d.actF.2.nodes := by
        rw [an]
        apply List.ext_getElem?
        intro j
        by_cases hj : i = j
        · subst hj
          rw [List.getElem?_set_self (List.getElem?_eq_some_iff.1 hi).1, hi]
        · rw [List.getElem?_set_ne hj]
      rw [e, ← ak]
      exact h2
    refine Run_for d.pending.length (fun k s w' => ∃ rest lk, s = [rest, .int .i64 k] ∧ DA w' b { d.actF.2 with nodes := d.nodes.set i { nd with kept := ((d.pending.take k).foldl (settleStep i) (nd.kept, d.kept)).1 }, kept := ((d.pending.take k).foldl (settleStep i) (nd.kept, d.kept)).2 } { v with lk := lk } tag ∧
      SlW 7 w' rest ((restOf i (d.pending.take k)).map Chg.cells) ∧ (∀ c, inB rest c → w.heap.size ≤ c ∧ c < w'.heap.size) ∧ Fr (fun c => tag c ≠ 0) w w') ⟨_, v.lk, rfl, hacc, SlW.nil _ _, fun c hc => hc.elim, f2'⟩ ?_ ?_
    · rintro k s w3 hk ⟨rest, lk, rfl, h3, hrest, hnew, f3⟩
      have ek : d.pending[k]? = some d.pending[k] := List.getElem?_eq_getElem hk
      have etake : d.pending.take (k + 1) = d.pending.take k ++ [d.pending[k]] := by rw [List.take_add_one, ek]; rfl
      rw [etake]
      generalize d.pending[k] = c at ek
      have hk' : (k : Int) < d.pending.length := by omega
      have wk := wrap_succ (n := k) (by omega)
      obtain ⟨q, q1, q2⟩ := h3.pend.1.rdA (i := k) (e := c.cells) (by decide) (by simp [ap, ek]) .i64
      have q1' : idxA 7 v.pv (.int .i64 k) = some q := q1
      have q2' : ldA 7 q w3 = some c.val := q2
      simp only [getL_zero, getL_succ, binV_int, intBin_lss, hk', decide_true, Run_bindO_some, Run_condM_true, Run_bind, q1', Run_rdM, q2', Option.some.injEq, exists_eq_left']
      refine Run_newSt (cs := c.cells.toArray) rfl rfl (by simpa using c.all) fun x w4 hx hxw f4 hxle => ?_
      have hx4 : bk w4 x = some c.cells := by simpa using hx
      have h4 := h3.fr0 f4
      have hrest4 := hrest.fr f4 fun _ _ => id
      have s3 := f3.size
      have s4 := f4.size
      have f04 : Fr (fun c => tag c ≠ 0) w w4 := f3.trans f4 fun _ _ h => h.elim
      have hfold : (d.pending.take k ++ [c]).foldl (settleStep i) (nd.kept, d.kept) = settleStep i ((d.pending.take k).foldl (settleStep i) (nd.kept, d.kept)) c := by rw [List.foldl_append]; rfl
      have hrestF : restOf i (d.pending.take k ++ [c]) = restOf i (d.pending.take k) ++ restOf i [c] := by simp [restOf]
      rw [hfold, hrestF]
      have hfit := foldOk_at hok ek
      generalize (d.pending.take k).foldl (settleStep i) (nd.kept, d.kept) = acc at *
      have e7 := ld7 hx4
      by_cases kc : c.node = i
      · have e1 : settleStep i acc c = applyF c acc.1 acc.2 := by simp [settleStep, kc]
        have e2 : restOf i [c] = [] := by simp [restOf, kc]
        rw [e1, e2, List.append_nil]
        have hi4 : (d.nodes.set i { nd with kept := acc.1 })[i]? = some { nd with kept := acc.1 } := List.getElem?_set_self (List.getElem?_eq_some_iff.1 hi).1
        obtain ⟨b1, o1, l1, j1, t41, j2, _, _, j5, hset⟩ := h4.setNode hi4
        have j1' : idxA 3 v.nv (.int .i64 i) = some (.pointer (some ⟨b1, o1, none⟩)) := j1
        rw [i1] at j1'
        cases j1'
        have hb4 := h4.blk
        have fd : Fr (fun _ => False) w4 w4.drew := (Fr.refl (fun _ => False) w4).drew
        have h4d := h4.fr0 fd
        simp [-ldA_ptr, hx4, Chg.cells, kc, e7, j2, j5, hb4, Dk.cells]
        refine (apply_run (w := w4.drew) (data := acc.1) h4d.kept h4d.keptE (hfit kc)).mono ?_
        rintro _ w5 ⟨rfl, ⟨lk', hm5, he5⟩, f5⟩
        have h5 := h4d.keptSet f5 hm5 he5
        obtain ⟨A, hA⟩ : ∃ A, A = applyF c acc.1 acc.2 := ⟨_, rfl⟩
        simp only at h5
        rw [← hA] at h5 ⊢
        obtain ⟨k1, h6⟩ := (hset w5 _ _ h5 rfl rfl).2 A.1
        rw [List.set_set] at h6
        rw [show (Value.string A.1).cells = #[Value.string A.1] from rfl]
        refine ⟨rfl, by simp, k1.1, k1.2, ?_⟩
        rw [show (#[Value.string A.1] : Array Value).toList = [Value.string A.1] from rfl]
        have f45 : Fr (fun c => tag c ≠ 0) w4 (sto w5 b0 (o + 2) [.string A.1]) := ((fd.mono fun _ h => h.elim).trans f5 fun c _ hc => by rw [hc, h.tk]; decide).sto (b := b0) (.inl (by rw [t4]; decide)) _ _
        have s45 := f45.size
        have s45' := s45
        rw [size_sto] at s45'
        have nb : ∀ c, inB rest c → ¬ tag c ≠ 0 := fun c hc h0 => by have := hnew c hc; have := h.bound c h0; omega
        exact ⟨rest, ⟨rfl, by rw [wk]; omega⟩, ⟨lk', h6⟩, hrest4.fr f45 nb, fun c hc => ⟨(hnew c hc).1, by have := (hnew c hc).2; omega⟩, f04.trans f45 fun _ _ h => h⟩
      · have e1 : settleStep i acc c = acc := by simp [settleStep, kc]
        have e2 : restOf i [c] = [c] := by simp [restOf, kc]
        rw [e1, e2]
        simp [-ldA_ptr, hx4, Chg.cells, kc, e7]
        refine Run_app1 (k := 7) (by simp [Chg.val, Chg.cells]) hrest4 (by decide) rfl (by decide) (by simpa [Chg.val] using c.all) (by
          have : (restOf i (d.pending.take k)).length ≤ d.pending.length := by
            have h1 := List.length_filter_le (fun c => decide (c.node ≠ (i : Int))) (d.pending.take k)
            have h2 := List.length_take_le k d.pending
            simp only [restOf]
            omega
          simp only [List.length_map]
          omega) fun r w5 hr f5 hin w6 f6 => ?_
        have s5 := f5.size
        have f5' : Fr (fun _ => False) w w5 ∨ True := .inr trivial
        have h5 := h4.fr f5 fun c hc => by
          have h1 := hnew c hc
          refine ⟨?_, ?_⟩
          · by_cases h0 : tag c = 0
            · exact h0
            · have := h.bound c h0; omega
          · obtain ⟨m, hm⟩ := h.ml
            have := bk_lt hm
            omega
        refine ⟨r, ⟨rfl, by rw [wk]; omega⟩, ⟨lk, h5⟩, by simpa [Chg.val, Chg.cells] using hr, fun c hc => ?_, f04.trans f5 fun c hc h1 => ?_⟩
        · rcases hin c hc with h' | h'
          · have := hnew c h'; omega
          · omega
        · have := hnew c h1; omega
    · rintro s w3 ⟨rest, lk, rfl, h3, hrest, hnew, f3⟩
      rw [List.take_length] at h3 hrest
      simp
      have hpos : 0 < w.heap.size := by obtain ⟨m, hm⟩ := h.ml; exact bk_lt hm
      obtain ⟨g1, g2, tag', g3, g4, g5⟩ := h3.newPendG (Fr.refl _ w3) hrest fun c hc => .inr ⟨by
        have h1 := hnew c hc
        by_cases h0 : tag c = 0
        · exact h0
        · have := h.bound c h0; omega, (hnew c hc).2, by have := hnew c hc; omega⟩
      have hrc := hrest.1.isCell
      rw [cells_isCell hrc, show (#[rest] : Array Value).toList = [rest] from rfl]
      refine ⟨rfl, by simp [hrc], ⟨_, g1, by simp [Dk.cells]⟩, g2, ?_⟩
      have e : settleF d i nd = (0, { d.actF.2 with nodes := d.nodes.set i { nd with kept := (d.pending.foldl (settleStep i) (nd.kept, d.kept)).1 }, kept := (d.pending.foldl (settleStep i) (nd.kept, d.kept)).2, pending := restOf i d.pending }) := by simp [settleF, ha]
      rw [e]
      exact ⟨rfl, f3.trans g4 fun _ _ h => h, _, tag', g3, fun c hc => (g5 c hc).imp id fun h => (hnew c h).1⟩
  · simp [ha]
    have e : settleF d i nd = d.actF := by simp [settleF, ha]
    rw [e]
    exact ⟨rfl, h2.did f2'⟩
end
end Go.Proofs.YtojnickeblbgoaaDoor
