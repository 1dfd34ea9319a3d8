/-
  Layer 1 (disk), DiskKeeps, part F: the calls of a script.
-/
import Derived.Test.YtojnickeblbgoaaDoorKeepE
namespace Go.Proofs.YtojnickeblbgoaaDoor
open Go.Lift
set_option linter.unusedSimpArgs false
set_option linter.unusedVariables false
set_option maxHeartbeats 4000000

theorem parse_FA : parseF FA = some [FA] := by decide +kernel
theorem parse_FF : parseF FF = some [FA, nF] := by decide +kernel
/-- A directory's names from the root on. -/
inductive Rt (m : Slt → Option Int) : Int → List ByteArray → Prop
  | root : Rt m 0 []
  | step {D k : Int} {n : ByteArray} {pre : List ByteArray} (h : Rt m D pre) (hk : m (D, n) = some k) : Rt m k (pre ++ [n])
section
variable {A M n : Nat} {data : ByteArray} {d d' : Dk} {m : Slt → Option Int}
theorem rt_zero (hp : Prot n m) {D : Int} {pre : List ByteArray} (h : Rt m D pre) (hD : D = 0) : pre = [] := by
  cases h with
  | root => rfl
  | step h' hk => have := (hp.rng _ _ hk).1; omega
theorem rt_one (hp : Prot n m) {D : Int} {pre : List ByteArray} (h : Rt m D pre) (hD : D = 1) : pre = [FA] := by
  cases h with
  | root => cases hD
  | step h' hk =>
    rw [hD] at hk
    have := hp.inj _ _ _ hk hp.top
    injection this with h1 h2
    rw [rt_zero hp h' h1, h2]; rfl
theorem rt_two (hp : Prot n m) {D : Int} {pre : List ByteArray} (h : Rt m D pre) (hD : D = 2) : pre = [FA, nF] := by
  cases h with
  | root => cases hD
  | step h' hk =>
    rw [hD] at hk
    have := hp.inj _ _ _ hk hp.fil
    injection this with h1 h2
    rw [rt_one hp h' h1, h2]; rfl
theorem walkGo_res : ∀ (rest : List ByteArray) (a : Slt) (node : Int) (done : List ByteArray), Rt d.seen node done → (d.walkGo a node rest).1 = 0 → rest ≠ [] →
    ∃ D pre last, done ++ rest = pre ++ [last] ∧ Rt d.seen D pre ∧ (d.walkGo a node rest).2.1 = (D, last) ∧ (d.walkGo a node rest).2.2 = (d.seen (D, last)).getD (-1)
  | [], a, node, done, _, _, h => absurd rfl h
  | x :: rest, a, node, done, hr, h, _ => by
    unfold Dk.walkGo at h ⊢
    by_cases h1 : node < 0
    · rw [if_pos h1] at h; cases h
    rw [if_neg h1] at h ⊢
    by_cases h2 : (d.nd node).kind ≠ 1
    · rw [if_pos h2] at h; cases h
    rw [if_neg h2] at h ⊢
    by_cases h3 : (d.seen (node, x)).getD (-1) < 0 ∧ rest ≠ []
    · rw [if_pos h3] at h; cases h
    rw [if_neg h3] at h ⊢
    by_cases hre : rest = []
    · subst hre
      exact ⟨node, done, x, rfl, hr, rfl, rfl⟩
    · cases hs : d.seen (node, x) with
      | none => exact absurd ⟨by rw [hs]; decide, hre⟩ h3
      | some k =>
        rw [hs] at h
        obtain ⟨D, pre, last, e1, e2⟩ := walkGo_res rest _ _ (done ++ [x]) (Rt.step hr hs) h hre
        exact ⟨D, pre, last, by rw [← e1]; simp, e2⟩
theorem walk_res {names : List ByteArray} (h : (d.walkF names).1 = 0) (hn : names ≠ []) : ∃ D pre last, names = pre ++ [last] ∧ Rt d.seen D pre ∧ (d.walkF names).2.1 = (D, last) ∧ (d.walkF names).2.2 = (d.seen (D, last)).getD (-1) := by
  obtain ⟨D, pre, last, e1, e2⟩ := walkGo_res names _ _ [] Rt.root h hn
  exact ⟨D, pre, last, by simpa using e1, e2⟩
/-- A path that is not one of the two leads elsewhere. -/
theorem at_safe (hp : Prot n d.seen) {p : ByteArray} {names : List ByteArray} (hpn : parseF p = some names) (h : (d.walkF names).1 = 0) (hn : names ≠ []) (h1 : p ≠ FA) (h2 : p ≠ FF) : (d.walkF names).2.1 ≠ sA ∧ (d.walkF names).2.1 ≠ sF := by
  obtain ⟨D, pre, last, e1, e2, e3, _⟩ := walk_res h hn
  rw [e3]
  refine ⟨fun he => h1 ?_, fun he => h2 ?_⟩
  · injection he with q1 q2
    rw [rt_zero hp e2 q1, q2] at e1
    exact parse_inj hpn (e1 ▸ parse_FA)
  · injection he with q1 q2
    rw [rt_one hp e2 q1, q2] at e1
    exact parse_inj hpn (e1 ▸ parse_FF)
theorem node_safe (hp : Prot n d.seen) {p : ByteArray} {names : List ByteArray} (hpn : parseF p = some names) (h : (d.walkF names).1 = 0) (hn : names ≠ []) (h1 : p ≠ FA) (h2 : p ≠ FF) (h0 : 0 ≤ (d.walkF names).2.2) : (d.walkF names).2.2 ≠ 2 ∧ d.seen (d.walkF names).2.1 = some (d.walkF names).2.2 := by
  obtain ⟨D, pre, last, e1, e2, e3, e4⟩ := walk_res h hn
  have hs : d.seen (D, last) = some (d.walkF names).2.2 := by
    cases hs : d.seen (D, last) with
    | none => rw [e4, hs] at h0; exact absurd h0 (by decide)
    | some k => rw [e4, hs]; rfl
  refine ⟨fun he => ?_, by rw [e3]; exact hs⟩
  rw [he] at hs
  have := hp.inj _ _ _ hs hp.fil
  exact (at_safe hp hpn h hn h1 h2).2 (e3.trans this)
theorem find_res {p : ByteArray} {kind : Int} (h : (d.findF p kind).1 = 0) : ∃ names, parseF p = some names ∧ (d.walkF names).1 = 0 ∧ d.findF p kind = d.walkF names ∧ 0 ≤ (d.walkF names).2.2 ∧ (kind ≠ 0 → (d.nd (d.walkF names).2.2).kind = kind) := by
  unfold Dk.findF at h ⊢
  split at h
  · cases h
  rename_i hd
  split at h
  · cases h
  rename_i names hn
  split at h
  · rename_i h1; exact absurd h h1
  rename_i h1
  split at h
  · cases h
  rename_i h2
  split at h
  · cases h
  rename_i h3
  refine ⟨names, hn, by simpa using h1, ?_, by omega, fun hk => Classical.byContradiction fun hne => h3 ⟨hk, hne⟩⟩
  simp only [hn, if_neg hd, if_neg h1, if_neg h2, if_neg h3]
theorem nd_at (d : Dk) {k : Int} (h0 : 0 ≤ k) (h1 : k < d.nodes.length) : d.nodes[k.toNat]? = some (d.nd k) := by
  have hl : k.toNat < d.nodes.length := by omega
  simp [Dk.nd, List.getElem?_eq_getElem hl]
theorem nd_of' {d : Dk} {i : Nat} {nd : Nd} (h : d.nodes[i]? = some nd) {k : Int} (hk : k = i) : d.nd k = nd := by simp [Dk.nd, hk, h]
theorem Inv1.more (h : Inv1 A M data d) {A' M' : Nat} (hA : A ≤ A') (hM : M ≤ M') : Inv1 A' M' data d := h.congr rfl rfl rfl rfl hA hM
theorem Inv1.k0 (h : Inv1 A M data d) : (d.nd 0).kind = 1 := by
  obtain ⟨a0, b0, c0⟩ := h.n0
  have : d.nd 0 = a0 := nd_of' (i := 0) b0 rfl
  rw [this]; exact c0

theorem keep_create (h : Inv1 A M data d) {p : ByteArray} (h1 : p ≠ FA) (h2 : p ≠ FF) (kind : Int) : Inv1 A (M + 2) data (createF d p kind).2 := by
  unfold createF
  split
  · exact h.more (Nat.le_refl _) (by omega)
  split
  · exact h.more (Nat.le_refl _) (by omega)
  rename_i names hpn
  split
  · exact h.more (Nat.le_refl _) (by omega)
  rename_i hw
  have hw0 : (d.walkF names).1 = 0 := by simpa using hw
  split
  · exact h.more (Nat.le_refl _) (by omega)
  rename_i hneg
  have hn : names ≠ [] := fun he => by rw [he] at hneg; exact hneg (show (0 : Int) ≤ 0 by omega)
  obtain ⟨q1, q2⟩ := walk_dir h.good hn hw0
  have hs := at_safe h.pseen hpn hw0 hn h1 h2
  obtain ⟨⟨D, last⟩, hat⟩ : ∃ a : Slt, a = (d.walkF names).2.1 := ⟨_, rfl⟩
  rw [← hat] at q1 q2 hs ⊢
  simp only at q1 q2 ⊢
  have hN := h.addNode kind
  have hnl : (d.addNode kind).nodes.length = d.nodes.length + 1 := by show (d.nodes ++ [_]).length = _; simp
  have hi : (d.addNode kind).nodes[D.toNat]? = some (d.nd D) := by
    show (d.nodes ++ [_])[D.toNat]? = _
    rw [List.getElem?_append_left (by omega)]
    exact nd_at d q1 q2
  have hpos : 0 < d.nodes.length := h.good.pos
  have t := hN.do' (c := ⟨2, D, e0, 0, last, e0, d.nodes.length⟩) (i := D.toNat) hi (show D = _ by omega) ⟨by rw [hnl]; simp only; omega, fun hc => by rcases hc with hc | hc <;> simp at hc, fun _ => hs, fun hc => by simp at hc, fun _ => by rw [hnl]; simp only; omega⟩
    (fun hc => by simp at hc) (fun _ => ⟨fun s hks => ?_, fun x hx hx2 => ?_, fun t nd' ht hnd' => ?_⟩) (fun hc => by rcases hc with hc | hc <;> simp at hc) ⟨fun hc => by simp at hc, fun hc => by simp at hc⟩
  · have e : A + (Chg.mk 2 D e0 0 last e0 d.nodes.length).data.size = A := rfl
    rw [e] at t
    exact t
  · have := (h.prot.rng s _ hks).2
    simp only at this; omega
  · have := (h.sc x hx).tgt hx2
    simp only; omega
  · have ht' : t = d.nodes.length := by simp only at ht; omega
    subst ht'
    have hnd : nd' = ⟨kind, e0, e0⟩ := by
      have : (d.nodes ++ [(⟨kind, e0, e0⟩ : Nd)])[d.nodes.length]? = some nd' := hnd'
      simpa using this.symm
    subst hnd
    exact (bfold_none (j := ((d.nodes.length : Nat) : Int)) (L := d.pending) (fun c hc hcj => by
      have := (h.sc c hc).node
      omega) e0).1
theorem keep_byte (h : Inv1 A M data d) {p : ByteArray} (h1 : p ≠ FA) (h2 : p ≠ FF) (hf : (d.findF p 2).1 = 0) {c : Chg} (hn : c.node = (d.findF p 2).2.2) (hw : c.what = 0 ∨ c.what = 1) (hfit : c.fits (d.nd (d.findF p 2).2.2).seen) :
    Inv1 (A + c.data.size) (M + 1) data (doF d c (d.findF p 2).2.2.toNat (d.nd (d.findF p 2).2.2)).2 := by
  have hlt := find_lt h.good p 2
  obtain ⟨names, hpn, hw0, he, hge, hkind⟩ := find_res hf
  rw [he] at hn hfit hlt ⊢
  have hne : names ≠ [] := fun hnil => by
    have hk := hkind (by decide)
    rw [hnil] at hk
    have e : (d.walkF []).2.2 = 0 := rfl
    rw [e, h.k0] at hk
    exact absurd hk (by decide)
  obtain ⟨s1, s2⟩ := node_safe h.pseen hpn hw0 hne h1 h2 hge
  have hi := nd_at d hge hlt
  have nw : c.what ≠ 2 ∧ c.what ≠ 3 ∧ c.what ≠ 4 := by rcases hw with hw | hw <;> rw [hw] <;> decide
  refine h.do' (c := c) (i := (d.walkF names).2.2.toNat) hi (by rw [hn]; omega) ⟨by rw [hn]; omega, fun _ => by rw [hn]; exact s1, fun hc => ?_, fun hc => absurd hc nw.2.2, fun hc => absurd hc nw.1⟩ (fun hc => absurd hc nw.2.2) (fun hc => absurd hc nw.1) (fun _ => ⟨_, by rw [s2]; congr 1; omega⟩) hfit
  rcases hc with hc | hc | hc
  · exact absurd hc nw.1
  · exact absurd hc nw.2.1
  · exact absurd hc nw.2.2
theorem keep_remove (h : Inv1 A M data d) {p : ByteArray} (h0 : p ≠ E0) (h1 : p ≠ FA) (h2 : p ≠ FF) (hf : (d.findF p 0).1 = 0) : Inv1 A (M + 1) data (removeF d p).2 := by
  unfold removeF
  rw [if_neg (by simp [hf])]
  obtain ⟨names, hpn, hw0, he, hge, _⟩ := find_res hf
  rw [he]
  have hne : names ≠ [] := fun hnil => h0 (parse_nil (hnil ▸ hpn))
  obtain ⟨q1, q2⟩ := walk_dir h.good hne hw0
  have hs := at_safe h.pseen hpn hw0 hne h1 h2
  obtain ⟨⟨D, last⟩, hat⟩ : ∃ a : Slt, a = (d.walkF names).2.1 := ⟨_, rfl⟩
  rw [← hat] at q1 q2 hs ⊢
  simp only at q1 q2 ⊢
  have t := h.do' (c := ⟨3, D, e0, 0, last, e0, 0⟩) (i := D.toNat) (nd_at d q1 q2) (show D = _ by omega) ⟨⟨q1, q2⟩, fun hc => by rcases hc with hc | hc <;> simp at hc, fun _ => hs, fun hc => by simp at hc, fun hc => by simp at hc⟩
    (fun hc => by simp at hc) (fun hc => by simp at hc) (fun hc => by rcases hc with hc | hc <;> simp at hc) ⟨fun hc => by simp at hc, fun hc => by simp at hc⟩
  have e : A + (Chg.mk 3 D e0 0 last e0 0).data.size = A := rfl
  rw [e] at t
  exact t
theorem path_one (x : ByteArray) : pathF [x] = x := by
  apply ba_ext
  simp [pathF, joinL]
theorem keep_rename (h : Inv1 A M data d) {p q : ByteArray} (h1 : p ≠ FA) (h2 : p ≠ FF) (h3 : q ≠ FA) (h4 : q ≠ FF) (hm : Moved d p q d') : Inv1 A (M + 1) data d' := by
  obtain ⟨a, c, hpa, hqc, hp0, hq0, hlen, hpath, hw, hge, hwc, rfl⟩ := hm.ex
  have hna : a ≠ [] := fun hnil => hp0 (parse_nil (hnil ▸ hpa))
  have hnc : c ≠ [] := fun hnil => hq0 (parse_nil (hnil ▸ hqc))
  have hs := at_safe h.pseen hpa hw hna h1 h2
  obtain ⟨q1, q2⟩ := walk_dir h.good hna hw
  obtain ⟨s1, s2⟩ := node_safe h.pseen hpa hw hna h1 h2 hge
  obtain ⟨D, pre, last, e1, e2, e3, e4⟩ := walk_res hw hna
  obtain ⟨D', pre', last', f1, f2, f3, f4⟩ := walk_res hwc hnc
  rw [e3] at hs q1 q2 s2 ⊢
  rw [f3]
  simp only at q1 q2 ⊢
  have hlp : pre.length = pre'.length := by
    rw [e1, f1] at hlen
    simpa using hlen
  have hdst : (D, last') ≠ sA ∧ (D, last') ≠ sF := by
    refine ⟨fun he => ?_, fun he => ?_⟩
    · injection he with r1 r2
      have := rt_zero h.pseen e2 r1
      rw [this] at hlp
      have hp' : pre' = [] := List.eq_nil_of_length_eq_zero hlp.symm
      rw [hp', r2] at f1
      exact h3 (parse_inj hqc (f1 ▸ parse_FA))
    · injection he with r1 r2
      have hpre := rt_one h.pseen e2 r1
      rw [hpre] at hlp
      obtain ⟨y, hy⟩ : ∃ y, pre' = [y] := by
        match pre', hlp with
        | [y], _ => exact ⟨y, rfl⟩
      rw [hpre] at e1
      rw [hy, r2] at f1
      rw [e1, f1] at hpath
      have t1 : ([FA] ++ [last]).take (([FA] ++ [last]).length - 1) = [FA] := rfl
      have t2 : ([y] ++ [nF]).take (([y] ++ [nF]).length - 1) = [y] := rfl
      rw [t1, t2, path_one, path_one] at hpath
      rw [← hpath] at f1
      exact h4 (parse_inj hqc (f1 ▸ parse_FF))
  have t := h.do' (c := ⟨4, D, e0, 0, last, last', 0⟩) (i := D.toNat) (nd_at d q1 q2) (show D = _ by omega) ⟨⟨q1, q2⟩, fun hc => by rcases hc with hc | hc <;> simp at hc, fun _ => hs, fun _ => hdst, fun hc => by simp at hc⟩
    (fun _ => by show d.seen (D, last) ≠ none; rw [s2]; simp) (fun hc => by simp at hc) (fun hc => by rcases hc with hc | hc <;> simp at hc) ⟨fun hc => by simp at hc, fun hc => by simp at hc⟩
  have e : A + (Chg.mk 4 D e0 0 last last' 0).data.size = A := rfl
  rw [e] at t
  exact t
theorem keep_sync (h : Inv1 A M data d) (p : ByteArray) (kind : Int) : Inv1 A M data (syncF d p kind).2 := by
  unfold syncF
  split
  · exact h
  rename_i hf
  have hf0 : (d.findF p kind).1 = 0 := by simpa using hf
  have hlt := find_lt h.good p kind
  obtain ⟨names, hpn, hw0, he, hge, _⟩ := find_res hf0
  rw [he] at hlt ⊢
  exact h.settle (nd_at d hge hlt)
end
end Go.Proofs.YtojnickeblbgoaaDoor
