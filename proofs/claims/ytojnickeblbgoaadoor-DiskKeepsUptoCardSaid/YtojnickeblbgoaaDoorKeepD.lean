/-
  Layer 1 (disk), DiskKeeps, part D: what stays so behind each call.
-/
import Derived.Test.YtojnickeblbgoaaDoorKeepC
namespace Go.Proofs.YtojnickeblbgoaaDoor
open Go.Lift
set_option linter.unusedSimpArgs false
set_option linter.unusedVariables false
set_option maxHeartbeats 4000000

/- The bytes of a node. -/
def bstep (i : Int) (x : ByteArray) (c : Chg) : ByteArray := if c.node = i then (applyF c x fun _ => none).1 else x
def bfold (i : Int) (x : ByteArray) (L : List Chg) : ByteArray := L.foldl (bstep i) x
def bOk (i : Int) : ByteArray → List Chg → Prop
  | _, [] => True
  | x, c :: r => (c.node = i → c.fits x) ∧ bOk i (bstep i x c) r
def gsize (i : Int) (c : Chg) : Nat := if c.node = i ∧ c.what = 0 then c.data.size else 0
def grows (i : Int) (L : List Chg) : Nat := (L.map (gsize i)).sum
section
variable {i j : Int} {x : ByteArray} {m : Slt → Option Int} {L : List Chg} {c : Chg}
theorem byte_other (h0 : c.what ≠ 0) (h1 : c.what ≠ 1) (x : ByteArray) (m : Slt → Option Int) : (applyF c x m).1 = x := by
  unfold applyF
  rw [if_neg h0, if_neg h1]
  repeat' split
  all_goals rfl
theorem fits_other (h0 : c.what ≠ 0) (h1 : c.what ≠ 1) (x : ByteArray) : c.fits x := ⟨fun h => absurd h h0, fun h => absurd h h1⟩
theorem app_size (c : Chg) (x : ByteArray) (m : Slt → Option Int) : (applyF c x m).1.size ≤ x.size + (if c.what = 0 then c.data.size else 0) := by
  by_cases h0 : c.what = 0
  · simp [applyF, h0]
  by_cases h1 : c.what = 1
  · simp [applyF, h1]
    omega
  rw [byte_other h0 h1]
  omega
theorem settle_fold : ∀ (L : List Chg) (x : ByteArray) (m : Slt → Option Int), L.foldl (settleStep i) (x, m) = (bfold i x L, (onD i L).foldl entG m)
  | [], x, m => rfl
  | c :: L, x, m => by
    rw [List.foldl_cons]
    by_cases hc : c.node = i
    · have e1 : settleStep i (x, m) c = (bstep i x c, entG m c) := by
        simp only [settleStep, bstep, if_pos hc]
        exact Prod.ext (app_byte c x m _) (app_map c x m)
      have e2 : onD i (c :: L) = c :: onD i L := by simp [onD, hc]
      rw [e1, settle_fold L, e2]
      rfl
    · have e1 : settleStep i (x, m) c = (bstep i x c, m) := by simp only [settleStep, bstep, if_neg hc]
      have e2 : onD i (c :: L) = onD i L := by simp [onD, hc]
      rw [e1, settle_fold L, e2]
      rfl
theorem foldOk_bOk : ∀ {L : List Chg} {x : ByteArray} {m : Slt → Option Int}, bOk i x L → foldOk i (x, m) L
  | [], x, m, _ => trivial
  | c :: L, x, m, h => by
    refine ⟨h.1, ?_⟩
    by_cases hc : c.node = i
    · have e1 : settleStep i (x, m) c = (bstep i x c, entG m c) := by
        simp only [settleStep, bstep, if_pos hc]
        exact Prod.ext (app_byte c x m _) (app_map c x m)
      rw [e1]; exact foldOk_bOk h.2
    · have e1 : settleStep i (x, m) c = (bstep i x c, m) := by simp only [settleStep, bstep, if_neg hc]
      rw [e1]; exact foldOk_bOk h.2
theorem bstep_size (i : Int) (x : ByteArray) (c : Chg) : (bstep i x c).size ≤ x.size + gsize i c := by
  unfold bstep gsize
  by_cases hc : c.node = i
  · have := app_size c x (fun _ => none)
    simp only [hc, if_true, true_and]
    exact this
  · simp [hc]
theorem bfold_size : ∀ (L : List Chg) (x : ByteArray), (bfold i x L).size ≤ x.size + grows i L
  | [], x => by simp [bfold, grows]
  | c :: L, x => by
    have h1 := bfold_size L (bstep i x c)
    have h2 := bstep_size i x c
    simp only [bfold, grows, List.foldl_cons, List.map_cons, List.sum_cons] at h1 ⊢
    omega
theorem grows_app (L L' : List Chg) : grows i (L ++ L') = grows i L + grows i L' := by simp [grows]
theorem bfold_snoc : bfold i x (L ++ [c]) = bstep i (bfold i x L) c := by simp [bfold]
theorem bOk_snoc : ∀ {L : List Chg} {x : ByteArray}, bOk i x L → (c.node = i → c.fits (bfold i x L)) → bOk i x (L ++ [c])
  | [], x, _, h => ⟨h, trivial⟩
  | y :: L, x, h, h' => ⟨h.1, bOk_snoc h.2 h'⟩
theorem bOk_pre : ∀ {L L' : List Chg} {x : ByteArray}, bOk i x (L ++ L') → bOk i x L
  | [], L', x, _ => trivial
  | y :: L, L', x, h => ⟨h.1, bOk_pre h.2⟩
theorem bOk_at : ∀ {L L' : List Chg} {x : ByteArray}, bOk i x (L ++ c :: L') → c.node = i → c.fits (bfold i x L)
  | [], L', x, h, hc => h.1 hc
  | y :: L, L', x, h, hc => bOk_at (L := L) h.2 hc
theorem bfold_rest (hj : j ≠ i) : ∀ (L : List Chg) (x : ByteArray), bfold j x (restOf i L) = bfold j x L ∧ (bOk j x L → bOk j x (restOf i L)) ∧ grows j (restOf i L) = grows j L
  | [], x => ⟨rfl, fun h => h, rfl⟩
  | c :: L, x => by
    by_cases hc : c.node = i
    · have e : restOf i (c :: L) = restOf i L := by simp [restOf, hc]
      have hcj : c.node ≠ j := by rw [hc]; exact Ne.symm hj
      have e2 : bstep j x c = x := by simp [bstep, hcj]
      have e3 : gsize j c = 0 := by simp [gsize, hcj]
      obtain ⟨i1, i2, i3⟩ := bfold_rest hj L x
      rw [e]
      refine ⟨?_, fun h => ?_, ?_⟩
      · rw [i1]; simp only [bfold, List.foldl_cons, e2]
      · exact i2 (by have := h.2; rw [e2] at this; exact this)
      · rw [i3]; simp only [grows, List.map_cons, List.sum_cons, e3, Nat.zero_add]
    · have e : restOf i (c :: L) = c :: restOf i L := by simp [restOf, hc]
      obtain ⟨i1, i2, i3⟩ := bfold_rest hj L (bstep j x c)
      rw [e]
      refine ⟨?_, fun h => ⟨h.1, i2 h.2⟩, ?_⟩
      · simp only [bfold, List.foldl_cons] at i1 ⊢; exact i1
      · simp only [grows, List.map_cons, List.sum_cons] at i3 ⊢; rw [i3]
theorem bfold_none : ∀ {L : List Chg} (h : ∀ c ∈ L, c.node = j → c.what ≠ 0 ∧ c.what ≠ 1) (x : ByteArray), bfold j x L = x ∧ bOk j x L ∧ grows j L = 0
  | [], _, x => ⟨rfl, trivial, rfl⟩
  | c :: L, h, x => by
    have e2 : bstep j x c = x := by
      unfold bstep
      split
      · rename_i hc
        have := h c (by simp) hc
        exact byte_other this.1 this.2 _ _
      · rfl
    have e3 : gsize j c = 0 := by
      unfold gsize
      split
      · rename_i hc
        exact absurd hc.2 (h c (by simp) hc.1).1
      · rfl
    obtain ⟨i1, i2, i3⟩ := bfold_none (L := L) (fun c hc => h c (by simp [hc])) x
    refine ⟨?_, ⟨fun hc => ?_, ?_⟩, ?_⟩
    · simp only [bfold, List.foldl_cons, e2] at i1 ⊢; exact i1
    · have := h c (by simp) hc
      exact fits_other this.1 this.2 _
    · rw [e2]; exact i2
    · simp only [grows, List.map_cons, List.sum_cons, e3, Nat.zero_add] at i3 ⊢; exact i3
theorem rest_off (i : Int) (L : List Chg) : ∀ c ∈ restOf i L, c.node = i → c.what ≠ 0 ∧ c.what ≠ 1 := fun c hc h => by
  have : c.node ≠ i := by simpa [restOf] using (List.mem_filter.1 hc).2
  exact absurd h this
/- A crash, node by node. -/
theorem cStep_at {N : List Nd} {K : Slt → Option Int} {i : Nat} {ni : Nd} (hi : c.node = i) (hin : N[i]? = some ni) : cStep (N, K) c = (N.set i { ni with kept := bstep i ni.kept c }, entG K c) := by
  have hnd : ndAt N c.node = ni := by simp [ndAt, hi, hin]
  unfold cStep
  rw [hnd]
  refine Prod.ext ?_ (app_map c _ _)
  have e : bstep i ni.kept c = (applyF c ni.kept K).1 := by
    unfold bstep
    rw [if_pos hi]
    exact app_byte c _ _ _
  rw [e, hi, Int.toNat_natCast]
theorem cFold_at : ∀ (L : List Chg) (N : List Nd) (K : Slt → Option Int), (∀ c ∈ L, 0 ≤ c.node ∧ c.node < N.length) →
    (L.foldl cStep (N, K)).2 = L.foldl entG K ∧ ∀ (j : Nat) nd, N[j]? = some nd → (L.foldl cStep (N, K)).1[j]? = some { nd with kept := bfold j nd.kept L }
  | [], N, K, _ => ⟨rfl, fun j nd h => h⟩
  | c :: L, N, K, h => by
    obtain ⟨h0, h1⟩ := h c (by simp)
    obtain ⟨i, hi⟩ : ∃ i : Nat, c.node = i := ⟨c.node.toNat, by omega⟩
    have hil : i < N.length := by omega
    have hin : N[i]? = some N[i] := List.getElem?_eq_getElem hil
    generalize N[i] = ni at hin
    have hnd : ndAt N c.node = ni := by simp [ndAt, hi, hin]
    have e := cStep_at (K := K) hi hin
    have ih := cFold_at L (N.set i { ni with kept := bstep i ni.kept c }) (entG K c) fun x hx => by
      rw [List.length_set]; exact h x (by simp [hx])
    rw [List.foldl_cons, e]
    refine ⟨ih.1, fun j nd hj => ?_⟩
    by_cases hji : i = j
    · subst hji
      rw [hin] at hj
      cases hj
      have := ih.2 i _ (List.getElem?_set_self hil)
      rw [this]
      rfl
    · have := ih.2 j nd (by rw [List.getElem?_set_ne hji]; exact hj)
      rw [this]
      have hcj : c.node ≠ (j : Int) := by rw [hi]; omega
      simp only [bfold, List.foldl_cons]
      rw [show bstep j nd.kept c = nd.kept by simp [bstep, hcj]]
theorem cOk_of : ∀ (L : List Chg) (N : List Nd) (K : Slt → Option Int), (∀ c ∈ L, 0 ≤ c.node ∧ c.node < N.length) → (∀ (j : Nat) nd, N[j]? = some nd → bOk j nd.kept L) → crashOk (N, K) L
  | [], N, K, _, _ => trivial
  | c :: L, N, K, h, hb => by
    obtain ⟨h0, h1⟩ := h c (by simp)
    obtain ⟨i, hi⟩ : ∃ i : Nat, c.node = i := ⟨c.node.toNat, by omega⟩
    have hil : i < N.length := by omega
    have hin : N[i]? = some N[i] := List.getElem?_eq_getElem hil
    generalize N[i] = ni at hin
    have hnd : ndAt N c.node = ni := by simp [ndAt, hi, hin]
    have e := cStep_at (K := K) hi hin
    refine ⟨⟨h0, h1, by rw [hnd]; exact (hb i ni hin).1 hi⟩, ?_⟩
    rw [e]
    refine cOk_of L _ _ (fun x hx => by rw [List.length_set]; exact h x (by simp [hx])) fun j nd hj => ?_
    by_cases hji : i = j
    · subst hji
      rw [List.getElem?_set_self hil] at hj
      cases hj
      exact (hb i ni hin).2
    · rw [List.getElem?_set_ne hji] at hj
      have := (hb j nd hj).2
      have hcj : c.node ≠ (j : Int) := by rw [hi]; omega
      rw [show bstep j nd.kept c = nd.kept by simp [bstep, hcj]] at this
      exact this
end
theorem crash_any (P : List Chg) (keep torn : Int) : ∃ k, crashL P keep torn = P.take k ∨ ∃ c x, P[k]? = some c ∧ c.what = 0 ∧ x.size ≤ c.data.size ∧ crashL P keep torn = P.take k ++ [{ c with data := x }] := by
  refine ⟨clampN keep P.length, ?_⟩
  unfold crashL
  cases hk : P[clampN keep P.length]? with
  | none => left; simp
  | some c =>
    by_cases h0 : c.what = 0
    · right
      refine ⟨c, c.data.extract 0 (clampN torn c.data.size), rfl, h0, ?_, by simp [h0]⟩
      have := clamp_le torn c.data.size
      rw [ByteArray.size_extract]; omega
    · left; simp [h0]
end Go.Proofs.YtojnickeblbgoaaDoor
