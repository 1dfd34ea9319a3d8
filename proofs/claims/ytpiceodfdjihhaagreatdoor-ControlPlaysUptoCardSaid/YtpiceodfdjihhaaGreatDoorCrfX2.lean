import Derived.Test.YtpiceodfdjihhaaGreatDoorLiftS
import Derived.Test.YtpiceodfdjihhaaGreatDoorCrfX1
import Derived.Test.YtpiceodfdjihhaaGreatDoorCtlL
/-
  THE LIFT, part U: parts of slices.
-/
namespace Go.Lift

section
variable {k : Nat} {w w' : World} {v x : Value} {els fls : List (List Value)}
theorem flat_take : ∀ {els : List (List Value)} (n : Nat), (∀ e ∈ els, e.length = k) → els.flatten.take (n * k) = (els.take n).flatten
  | [], n, _ => by simp
  | e :: els, 0, _ => by simp
  | e :: els, n + 1, h => by
    have he : e.length = k := h e (by simp)
    have ih := flat_take n fun x hx => h x (List.mem_cons_of_mem _ hx)
    simp only [List.flatten_cons, List.take_succ_cons, List.flatten_cons]
    rw [List.take_append, he, List.take_of_length_le (by rw [he, Nat.add_mul]; omega), show (n + 1) * k - k = n * k by rw [Nat.add_mul]; omega, ih]
/-- The first n elements of a slice. -/
theorem Sl.take (h : Sl k w v els) {n : Nat} (hn : n ≤ els.length) (kd : IntKind) : ∃ v', sliceV k v none (some (.int kd n)) = some v' ∧ Sl k w v' (els.take n) ∧ ∀ b, inB v' b → inB v b := by
  obtain ⟨h1, a, c, rfl, h2, h3⟩ := h
  have hnc : n ≤ c := by omega
  have e : sliceV k (.slice a els.length c) none (some (.int kd n)) = some (.slice (if c = 0 then a else a.map (·.add (0 * k))) n c) := by
    simp [sliceV, highV, lowV, boundV, hnc]
  have hlt : (els.take n).length = n := by rw [List.length_take]; omega
  refine ⟨_, e, ⟨fun x hx => h1 x (List.mem_of_mem_take hx), (if c = 0 then a else a.map (·.add (0 * k))), c, by rw [hlt], by rw [hlt]; omega, ?_⟩, ?_⟩
  · by_cases hc : c = 0
    · exact .inl hc
    · rcases h3 with h3 | ⟨b, o, l, rfl, h4, h5, h6⟩
      · exact .inl h3
      · refine .inr ⟨b, o, l, by rw [if_neg hc]; simp [Addr.add_lit], h4, h5, ?_⟩
        rw [hlt]
        have hfl := flat_take n h1
        rw [← hfl, ← h6, List.take_take]
        congr 1
        have : n * k ≤ els.length * k := Nat.mul_le_mul_right _ hn
        omega
  · intro b hb
    cases a with
    | none => simp at hb
    | some a =>
      by_cases hc : c = 0
      · simpa [hc] using hb
      · simp only [hc, if_false, Option.map_some] at hb
        simp only [inB_slice] at hb ⊢
        rw [← hb]
        unfold Addr.add
        split <;> rfl
/-- A part of a slice that may be written, from element n on. -/
theorem SlW.drop (h : SlW k w v els) {n : Nat} (hn : n ≤ els.length) (kd : IntKind) : ∃ v', sliceV k v (some (.int kd n)) none = some v' ∧ SlW k w v' (els.drop n) ∧ ∀ b, inB v' b → inB v b := by
  obtain ⟨v', e1, e2, e3⟩ := h.1.drop hn kd
  refine ⟨v', e1, ⟨e2, fun b hb hc => h.2 b (e3 b hb) fun hz => hc ?_⟩, e3⟩
  obtain ⟨⟨h1, a, c, rfl, h2, h3⟩, _⟩ := h
  simp [capV] at hz
  subst hz
  obtain ⟨_, a', c', rfl, _, _⟩ := e2
  simp [sliceV, highV, lowV, boundV, hn] at e1
  simp [capV]
  omega
/-- The beginning of a slice, with the same address. -/
theorem Sl.pre {a : Option Addr} {n m c : Nat} (h : Sl k w (.slice a m c) els) (hn : n ≤ m) : Sl k w (.slice a n c) (els.take n) := by
  obtain ⟨h1, a', c', he, h2, h3⟩ := h
  cases he
  have hlt : (els.take n).length = n := by rw [List.length_take]; omega
  refine ⟨fun x hx => h1 x (List.mem_of_mem_take hx), a, c, by rw [hlt], by rw [hlt]; omega, ?_⟩
  rcases h3 with h3 | ⟨b, o, l, rfl, h4, h5, h6⟩
  · exact .inl h3
  · refine .inr ⟨b, o, l, rfl, h4, h5, ?_⟩
    rw [hlt]
    have hfl := flat_take n h1
    rw [← hfl, ← h6, List.take_take]
    congr 1
    have : n * k ≤ els.length * k := Nat.mul_le_mul_right _ hn
    omega
/-- append, in place or not. -/
theorem Run_appG {bytes e : Nat} {zero : Array Value} {s : Value} {Q : Value → World → Prop} (hs : SlW k w s els) (hx : Sl k w x fls) (hk : k ≠ 0) (hz : zero.size = k) (hb : bytes ≠ 0)
    (hc : ∀ e ∈ fls, e.all isCell = true) (small : (els.length + fls.length + (els.length + fls.length) / 4 + 192) * bytes ≤ 281474976710656)
    (q : ∀ r w', SlW k w' r (els ++ fls) → Fr (inB s) w w' → (∀ b, inB r b → inB s b ∨ (w.heap.size ≤ b ∧ b < w'.heap.size)) → ((∃ a c, s = .slice a els.length c ∧ r = .slice a (els.length + fls.length) c) ∨ (Fr (fun _ => False) w w' ∧ ∀ b, inB r b → w.heap.size ≤ b)) → Q r w') : Run (appM e k bytes zero s x) w Q := by
  have hs' := hs.1
  obtain ⟨⟨h1, a, c, rfl, h2, h3⟩, hw⟩ := hs
  have hxl := hx.lenN
  have hx1 := hx.1
  have hfl := flat_len h1
  have hfx := flat_len hx1
  have hall : ∀ e ∈ els ++ fls, e.length = k := fun e he => (List.mem_append.1 he).elim (h1 e) (hx1 e)
  have hcf : fls.flatten.all isCell = true := by
    rw [List.all_eq_true]
    intro y hy
    obtain ⟨e, he, hye⟩ := List.mem_flatten.1 hy
    exact List.all_eq_true.1 (hc e he) y hye
  have hnew : firstN w k fls.length x = some fls.flatten := by
    have hx' := hx
    obtain ⟨_, a', c', rfl, _⟩ := hx'
    exact ldN_sl hx
  unfold Run appM
  simp only [hxl]
  by_cases hroom : els.length + fls.length ≤ c
  · rw [if_pos hroom]
    simp only [hnew]
    cases a with
    | none =>
      rcases h3 with h3 | ⟨b, o, l, h4, _⟩
      · have he : els = [] := List.eq_nil_of_length_eq_zero (by omega)
        have hf : fls = [] := List.eq_nil_of_length_eq_zero (by omega)
        subst he; subst hf; subst h3
        exact ⟨_, _, rfl, q _ _ (SlW.nil k w) (Fr.refl _ _) (by simp) (.inl ⟨_, _, rfl, rfl⟩)⟩
      · cases h4
    | some a =>
      simp only []
      by_cases hf : fls.flatten = []
      · have hf0 : fls = [] := by
          apply List.eq_nil_of_length_eq_zero
          rw [hf] at hfx
          simp only [List.length_nil] at hfx
          rcases Nat.mul_eq_zero.1 hfx.symm with h | h
          · exact h
          · exact absurd h hk
        subst hf0
        simp only [List.flatten_nil, stN, if_true]
        refine ⟨_, _, rfl, q _ _ ?_ (Fr.refl _ _) (fun b hb => .inl hb) (.inl ⟨_, _, rfl, by simp⟩)⟩
        simp only [List.append_nil, List.length_nil, Nat.add_zero]
        exact ⟨hs', hw⟩
      · rcases h3 with h3 | ⟨b, o, l, h4, h5, h6, h7⟩
        · have hf : fls = [] := List.eq_nil_of_length_eq_zero (by omega)
          subst hf; simp at hf
        · cases h4
          have hf1 : fls.length ≠ 0 := fun h0 => hf (by rw [List.eq_nil_of_length_eq_zero h0]; rfl)
          have hwb := hw b rfl (by simp; omega)
          have hcc : (els.length + fls.length) * k ≤ c * k := Nat.mul_le_mul_right _ hroom
          rw [Nat.add_mul] at hcc
          simp only [Addr.add_lit, stN]
          rw [if_neg hf]
          simp only [h5]
          rw [if_pos ⟨⟨by omega, hcf⟩, hwb⟩]
          refine ⟨_, _, rfl, q _ _ ⟨⟨hall, _, c, by rw [List.length_append], by rw [List.length_append]; omega, .inr ⟨b, o, setL l (o + els.length * k) fls.flatten, rfl, by rw [bk_sto_eq, h5]; rfl, by rw [length_setL]; omega, ?_⟩⟩, ?_⟩ ?_ (fun b hb => .inl hb) (.inl ⟨_, _, rfl, rfl⟩)⟩
          · rw [List.length_append, Nat.add_mul, ← hfx, drop_take_setL (by omega) rfl, h7, List.flatten_append]
          · intro b' hb' _
            simp only [inB_slice] at hb'
            subst hb'
            simpa using hwb
          · exact (Fr.refl _ _).sto (.inl rfl) _ _
  · rw [if_neg hroom]
    have hg : Builtin.nextslicecap (els.length + fls.length) c * bytes ≤ 2 ^ 48 := growslice_fits_wide (by omega) small
    rw [if_neg (not_or.2 ⟨hb, Nat.not_lt.2 hg⟩)]
    simp only [ldN_sl hs', hnew]
    refine ⟨_, _, rfl, q _ _ ⟨⟨hall, some ⟨w.heap.size, 0, none⟩, _, by rw [List.length_append], ?_, .inr ⟨w.heap.size, 0, _, rfl, bk_alloc_at rfl _ _, ?_, ?_⟩⟩, ?_⟩ ((Fr.refl _ _).drew.alloc _) (fun b hb => .inr ?_) (.inr ⟨(Fr.refl _ _).drew.alloc _, fun b hb => by simp only [inB_slice] at hb; subst hb; simp⟩)⟩
    · rw [List.length_append]; simp only [Question.cut]; omega
    · have hge : els.length + fls.length ≤ (Question.appendCap (els.length + fls.length) c e).cut (w.tape w.drawn (.appendCap (els.length + fls.length) c e)) := by simp only [Question.cut]; omega
      generalize (Question.appendCap (els.length + fls.length) c e).cut (w.tape w.drawn (.appendCap (els.length + fls.length) c e)) = C at hge
      simp only [Array.toList_append, List.length_append, Array.length_toList, size_zeroCells, hz, hfl, hfx]
      rw [← Nat.add_mul, ← Nat.add_mul]
      rw [show els.length + fls.length + (C - (els.length + fls.length)) = C by omega]
      omega
    · simp only [Array.toList_append, List.drop_zero]
      rw [List.length_append, Nat.add_mul, ← hfl, ← hfx, List.flatten_append, ← List.length_append, List.take_left]
    · intro b' hb' _
      simp only [inB_slice] at hb'
      subst hb'
      exact wr_alloc_at (by simp) _ _
    · simp only [inB_slice] at hb
      subst hb
      simp
/-- append of one element, in place or not. -/
theorem Run_app1G {e e' bytes : Nat} {zero : Array Value} {s y : Value} {K : World → Value → World → Prop} (hes : y.cells.size = k) (hs : SlW k w s els) (hk : k ≠ 0) (hz : zero.size = k) (hb : bytes ≠ 0)
    (hc : y.cells.toList.all isCell = true) (small : (els.length + 1 + (els.length + 1) / 4 + 192) * bytes ≤ 281474976710656)
    (q : ∀ r w', SlW k w' r (els ++ [y.cells.toList]) → Fr (inB s) w w' → (∀ b, inB r b → inB s b ∨ (w.heap.size ≤ b ∧ b < w'.heap.size)) → ((∃ a c, s = .slice a els.length c ∧ r = .slice a (els.length + 1) c) ∨ (Fr (fun _ => False) w w' ∧ ∀ b, inB r b → w.heap.size ≤ b)) → ∀ w1, Fr (fun _ => False) w w1 → K w1 r w') :
    Run (bslM e' 1 (Builtin.zeroCells zero 1) [(0, k, y)]) w fun a w1 => Run (appM e k bytes zero s a) w1 fun r w' => K w1 r w' := by
  have hf : fillV (Builtin.zeroCells zero 1) [(0, k, y)] = some y.cells := by
    have := fillV_parts (k := k) [y] 0 (Builtin.zeroCells zero 1) (by simpa using hes) (by simp [size_zeroCells, hz])
    rw [show [(0, k, y)] = partsL k 0 [y] from rfl, this, setL_eq _ _ _ (by simp [size_zeroCells, hz, hes])]
    simp [hes]
    rw [List.drop_of_length_le (by simp [size_zeroCells, hz])]
    simp
  generalize y.cells = es at *
  have fr : Fr (fun _ => False) w (w.alloc (.cells es e')) := (Fr.refl _ _).alloc _
  refine ⟨_, _, by unfold bslM; rw [hf], ?_⟩
  have hx : Sl k (w.alloc (.cells es e')) (.slice (some ⟨w.heap.size, 0, none⟩) 1 1) [es.toList] :=
    ⟨by simp [hes], _, 1, rfl, Nat.le_refl _, .inr ⟨_, _, _, rfl, bk_alloc_at rfl _ _, by simp [hes], by simp [← hes, List.take_of_length_le]⟩⟩
  refine Run_appG (hs.fr fr fun _ _ => id) hx hk hz hb (fun e he => by obtain rfl := List.mem_singleton.1 he; exact hc) (by simpa using small) fun r w' h1 h2 h3 h4 => q r w' h1 (fr.mono (fun _ h => h.elim) |>.trans h2 fun _ _ h => h) (fun b hb => ?_) (h4.imp (fun ⟨a, c, e1, e2⟩ => ⟨a, c, e1, e2⟩) fun ⟨g1, g2⟩ => ⟨fr.trans g1 fun _ _ => id, fun b hb => Nat.le_trans fr.size (g2 b hb)⟩) _ fr
  rcases h3 b hb with h | h
  · exact .inl h
  · have := fr.size; exact .inr ⟨by simp at h; omega, h.2⟩

end
end Go.Lift

/-
  The law's hand (granarylaw6), part I: a definition made ready.
-/
namespace Go.Proofs.YtpiceodfdjihhaaGreatDoor
open Go.Lift
set_option linter.unusedSimpArgs false
def elP1 (l : List Value) : List (List Value) := l.map fun p => [p]
@[simp] theorem elP1_len (l : List Value) : (elP1 l).length = l.length := by simp [elP1]
theorem elP1_get {l : List Value} {i : Nat} {p : Value} (h : l[i]? = some p) : (elP1 l)[i]? = some [p] := by simp [elP1, h]
def endN : List (List Value) := [[.int .i64 801, .slice none 0 0], [.int .i64 802, .slice none 0 0]]
def endP : List Int := [701, 702, 703]
def hcells (C : Clu) (nv1 nv2 hv pv : Value) : List Value := C.cells nv1 ++ (C.cells nv2 ++ [hv, pv])
/-- What was made ready (w0: the world ahead of it). -/
structure Handed (w0 w : World) (H : Nat) (C : Clu) (nv1 nv2 hv pv : Value) (ps pvs1 pvs2 : List Value) : Prop where
  blk : bk w H = some (hcells C nv1 nv2 hv pv)
  wr : wr w H = true
  H0 : w0.heap.size ≤ H
  n1 : Nodes w nv1 C.nodes pvs1
  n2 : Nodes w nv2 C.nodes pvs2
  nodes : SlW 2 w hv (elN C.nodes pvs1 ++ endN)
  parts : Sl 1 w pv (elP1 ps)
  len : ps.length = C.nodes.length
  each : ∀ (i : Nat) (p : Value) (n : Int × List Int), ps[i]? = some p → C.nodes[i]? = some n → SlW 1 w p (elI (n.2 ++ endP)) ∧ (∀ c, inB p c → w0.heap.size ≤ c ∧ c ≠ H ∧ ¬ inB hv c ∧ ¬ inB pv c)
  bh : ∀ c, inB hv c → w0.heap.size ≤ c ∧ c ≠ H ∧ ¬ inB pv c
  bp : ∀ c, inB pv c → w0.heap.size ≤ c ∧ c ≠ H
theorem boxH (C : Clu) (nv nv2 : Value) : buildV #[(Value.string ByteArray.empty), (Value.int IntKind.i64 0), (Value.int IntKind.i64 0), (Value.int IntKind.i64 0), (Value.int IntKind.i64 0), (Value.int IntKind.i64 0), (Value.int IntKind.i64 0), (Value.int IntKind.i64 0), (Value.int IntKind.i64 0), (Value.int IntKind.i64 0), (Value.int IntKind.i64 0), (Value.int IntKind.i64 0), (Value.int IntKind.i64 0), (Value.int IntKind.i64 0), (Value.int IntKind.i64 0), (Value.int IntKind.i64 0), (Value.int IntKind.i64 0), (Value.int IntKind.i64 0), (Value.int IntKind.i64 0), (Value.int IntKind.i64 0), (Value.int IntKind.i64 0), (Value.int IntKind.i64 0), (Value.slice none 0 0), (Value.string ByteArray.empty), (Value.int IntKind.i64 0), (Value.int IntKind.i64 0), (Value.int IntKind.i64 0), (Value.int IntKind.i64 0), (Value.int IntKind.i64 0), (Value.int IntKind.i64 0), (Value.int IntKind.i64 0), (Value.int IntKind.i64 0), (Value.int IntKind.i64 0), (Value.int IntKind.i64 0), (Value.int IntKind.i64 0), (Value.int IntKind.i64 0), (Value.int IntKind.i64 0), (Value.int IntKind.i64 0), (Value.int IntKind.i64 0), (Value.int IntKind.i64 0), (Value.int IntKind.i64 0), (Value.int IntKind.i64 0), (Value.int IntKind.i64 0), (Value.int IntKind.i64 0), (Value.int IntKind.i64 0), (Value.slice none 0 0), (Value.slice none 0 0), (Value.slice none 0 0)] [(0, 23, C.val nv), (23, 23, C.val nv2)] = some (.agg (hcells C nv nv2 (.slice none 0 0) (.slice none 0 0)).toArray) := by
  unfold buildV
  rw [fillV_head (by simp [Clu.val, Clu.cells]) (by simp), setL_eq _ _ _ (by simp [Clu.val, Clu.cells]), fillV_head (by simp [Clu.val, Clu.cells]) (by simp [Clu.val, Clu.cells]), setL_eq _ _ _ (by simp [Clu.val, Clu.cells])]
  simp [Clu.val, Clu.cells, hcells]
theorem hc_gets (C : Clu) (nv1 nv2 hv pv : Value) : (hcells C nv1 nv2 hv pv).length = 48 ∧ (hcells C nv1 nv2 hv pv)[22]? = some nv1 ∧ (hcells C nv1 nv2 hv pv)[45]? = some nv2 ∧ (hcells C nv1 nv2 hv pv)[46]? = some hv ∧ (hcells C nv1 nv2 hv pv)[47]? = some pv ∧
    (∀ x, (hcells C nv1 nv2 hv pv).set 46 x = hcells C nv1 nv2 x pv) ∧ (∀ x, (hcells C nv1 nv2 hv pv).set 47 x = hcells C nv1 nv2 hv x) ∧ (∀ x, (hcells C nv1 nv2 hv pv).set 22 x = hcells C x nv2 hv pv) := ⟨rfl, rfl, rfl, rfl, rfl, fun _ => rfl, fun _ => rfl, fun _ => rfl⟩
theorem hand_run {w : World} {C : Clu} {nv : Value} {pvs : List Value} (hN : Nodes w nv C.nodes pvs) (hF : Fits C) :
    Run (F.granarylaw6_Hand (C.val nv)) w fun r w' => Fr (fun _ => False) w w' ∧ ∃ H nv1 nv2 hv pv ps pvs1 pvs2, r = .pointer (some ⟨H, 0, none⟩) ∧ Handed w w' H C nv1 nv2 hv pv ps pvs1 pvs2 := by
  unfold F.granarylaw6_Hand
  have hnv := hN.sl.isCell
  simp [-ldA_ptr, Clu.val]
  refine Run_new fun b w1 hb _ f1 hble => ?_
  have hb1 : bk w1 b = some (C.cells nv) := by simpa using hb
  have d1 : Fr (fun _ => False) w1 w1.drew := (Fr.refl _ _).drew
  have f1d : Fr (fun _ => False) w w1.drew := f1.trans d1 fun _ _ => id
  have hb1' : bk w1.drew b = some (C.cells nv) := d1.bk_some hb1 id
  simp [-ldA_ptr, Clu.ldA hb1, Clu.ldA hb1']
  refine (twin_run (hN.fr0 f1d) hF).mono ?_
  rintro _ w2 ⟨f2, nv2, pvs2, rfl, hN2, hnw, hpw⟩
  have f02 : Fr (fun _ => False) w w2 := f1d.trans f2 fun _ _ => id
  have hb2 : bk w2 b = some (C.cells nv) := f2.bk_some hb1' id
  simp [-ldA_ptr, Clu.ldA hb2, boxH]
  refine Run_new fun H w3 hH hHw f3 hHle => ?_
  have hH : bk w3 H = some (hcells C nv nv2 (.slice none 0 0) (.slice none 0 0)) := hH
  have f03 : Fr (fun _ => False) w w3 := f02.trans f3 fun _ _ => id
  have hb3 : bk w3 b = some (C.cells nv) := f3.bk_some hb2 id
  have lH := bk_lt hH
  have s02 := f02.size
  have s1 := f1.size
  have s3 := f3.size
  have lb := bk_lt hb2
  have hbH : b ≠ H := by omega
  have hcn := hF.count
  have hpp := hF.parts
  have hNl := hN.lenL
  have k22 : (C.cells nv)[22]? = some nv := rfl
  refine Run_for C.nodes.length (fun i l w4 => l = [.int .i64 i] ∧ ∃ hv pv ps pvs1, bk w4 H = some (hcells C nv nv2 hv pv) ∧ wr w4 H = true ∧ Fr (fun c => c = H) w3 w4 ∧ ps.length = i ∧ pvs1.length = i ∧
      SlW 2 w4 hv (elN (C.nodes.take i) pvs1) ∧ SlW 1 w4 pv (elP1 ps) ∧ (∀ c, inB hv c → w3.heap.size ≤ c ∧ c < w4.heap.size ∧ ¬ inB pv c) ∧ (∀ c, inB pv c → w3.heap.size ≤ c ∧ c < w4.heap.size) ∧
      ∀ (j : Nat) (p q : Value) (n : Int × List Int), ps[j]? = some p → pvs1[j]? = some q → C.nodes[j]? = some n → SlW 1 w4 p (elI (n.2 ++ endP)) ∧ Sl 1 w4 q (elI n.2) ∧ (∀ c, inB q c → inB p c) ∧ ∀ c, inB p c → w3.heap.size ≤ c ∧ c < w4.heap.size ∧ ¬ inB hv c ∧ ¬ inB pv c)
    ⟨rfl, _, _, [], [], hH, hHw, Fr.refl _ _, rfl, rfl, SlW.nil _ _, SlW.nil _ _, fun _ h => h.elim, fun _ h => h.elim, fun j p q n hj => by simp at hj⟩ ?_ ?_
  · rintro i _ w4 hi ⟨rfl, hv, pv, ps, pvs1, hH4, hHw4, f4, hpl, hql, hs4, ps4, bh4, bp4, each⟩
    have f04 : Fr (fun _ => False) w w4 := f03.trans f4 fun c hc he => by omega
    have hb4 : bk w4 b = some (C.cells nv) := f4.bk_some hb3 hbH
    have hN4 := hN.fr0 f04
    have hg : C.nodes[i]? = some C.nodes[i] := List.getElem?_eq_getElem hi
    generalize C.nodes[i] = n at hg
    obtain ⟨p, hpi, he, hpv⟩ := hN4.get hg
    obtain ⟨u, u1, u2⟩ := hN4.sl.rdF he .i64
    obtain ⟨z, z1, z2⟩ := u2 1 (by decide)
    have z2' : ld1 z w4 = some p := z2
    obtain ⟨z', z1', z3⟩ := u2 0 (by decide)
    have ws := wrap_succ (n := i) (by omega)
    have hnl : n.2.length ≤ 1048576 := by
      have : n.2.length ≤ (C.nodes.map (·.2.length)).sum := mem_le_sum (List.mem_map.2 ⟨n, List.mem_of_getElem? hg, rfl⟩)
      omega
    simp [hb4, k22, hNl, hi, u1, z1, z2']
    refine Run_appM (k := 1) (SlW.nil 1 _) hpv (by decide) rfl (by decide) (by simp [elI]) (by simp; omega) fun qv w5 s5 f5 n5 => ?_
    simp only [List.nil_append] at s5
    have f5 : Fr (fun _ => False) w4 w5 := f5.mono fun _ h => h
    have n5 : ∀ c, inB qv c → w4.heap.size ≤ c ∧ c < w5.heap.size := fun c hc => (n5 c hc).resolve_left id
    have hql5 := s5.1.lenL
    simp at hql5
    simp [hql5]
    refine Run_bsl (k := 1) (vs := [.int .i64 701, .int .i64 702, .int .i64 703]) rfl (by simp) rfl (by simp [Builtin.zeroCells]) fun r6 w6 s6 f6 n6 => ?_
    have s56 := s5.fr f6 fun _ _ => id
    refine Run_appM (k := 1) s56 s6.1 (by decide) rfl (by decide) (by simp) (by simp; omega) fun q3 w7 s7 f7 hin7 => ?_
    have s7 : SlW 1 w7 q3 (elI (n.2 ++ endP)) := by simpa [elI, endP] using s7
    have e5 := f5.size
    have e6 := f6.size
    have e7 := f7.size
    have e4 := f4.size
    have f47 : Fr (fun _ => False) w4 w7 := ((f5.trans f6 fun _ _ => id)).new f7 fun c hc => (n5 c hc).1
    have n7 : ∀ c, inB q3 c → w4.heap.size ≤ c ∧ c < w7.heap.size := fun c hc => by
      rcases hin7 c hc with h | h
      · have := n5 c h; omega
      · omega
    have hH7 := f47.bk_some hH4 id
    have hHw7 : wr w7 H = true := by rw [f47.wr (bk_lt hH4) id]; exact hHw4
    have hc := hc_gets C nv nv2 hv pv
    have q3c := s7.1.isCell
    simp [hH7, hc.2.2.2.2.1]
    refine Run_app1 (k := 1) (by rw [cells_isCell q3c]; rfl) (ps4.fr f47 fun _ _ => id) (by decide) rfl (by decide) (by rw [cells_isCell q3c]; simp [q3c]) (by simp; omega) fun pv' w8 s8 f8 hin8 _ _ => ?_
    have s8 : SlW 1 w8 pv' (elP1 (ps ++ [q3])) := by rw [cells_isCell q3c] at s8; simpa [elP1] using s8
    have e8 := f8.size
    have pvc := s8.1.isCell
    have hneH : ¬ inB pv H := fun h => by have := bp4 _ h; omega
    have hH8 := f8.bk_some hH7 hneH
    have hHw8 : wr w8 H = true := by rw [f8.wr (bk_lt hH7) hneH]; exact hHw7
    have n8 : ∀ c, inB pv' c → w3.heap.size ≤ c ∧ c < w8.heap.size := fun c hc => by
      rcases hin8 c hc with h | h
      · have := bp4 c h; omega
      · omega
    have hb7 := f47.bk_some hb4 id
    have hneb : ¬ inB pv b := fun h => by have := bp4 _ h; omega
    have hb8 := f8.bk_some hb7 hneb
    have g8 : Fr (fun c => c = H) w8 (sto w8 H 47 [pv']) := (Fr.refl (fun c => c = H) w8).sto (.inl rfl) _ _
    have hH9 : bk (sto w8 H 47 [pv']) H = some (hcells C nv nv2 hv pv') := by simp [hH8, hc.2.2.2.2.2.2.1]
    have hHw9 : wr (sto w8 H 47 [pv']) H = true := by simp [hHw8]
    have hb9 : bk (sto w8 H 47 [pv']) b = some (C.cells nv) := g8.bk_some hb8 hbH
    have f49 : Fr (fun c => c = H ∨ inB pv c) w4 (sto w8 H 47 [pv']) := ((f47.mono fun _ h => h.elim).trans (f8.mono fun c h => .inr h) fun _ _ h => h).trans (g8.mono fun c h => .inl h) fun _ _ h => h
    have e9 := g8.size
    have l48 : 48 ≤ (hcells C nv nv2 hv pv).length := by rw [hc.1]; omega
    have f09 : Fr (fun _ => False) w (sto w8 H 47 [pv']) := f04.trans f49 fun c hc h => by
      rcases h with h | h
      · omega
      · have := bp4 c h; omega
    have hH8' : (Option.map (fun l => setL l 47 [pv']) (bk w8 H)).bind (fun x => x[46]?) = some hv := by simp [hH8, hc.2.2.2.2.2.2.1]; exact (hc_gets C nv nv2 hv pv').2.2.2.1
    simp [cells_isCell pvc, pvc, hHw8]
    refine ⟨⟨_, hH8, l48⟩, _, hH8', ?_⟩
    have hN9 := hN.fr0 f09
    have s9 : SlW 2 (sto w8 H 47 [pv']) hv (elN (C.nodes.take i) pvs1) := hs4.fr f49 fun c hc h => by
      have := bh4 c hc
      rcases h with h | h
      · omega
      · exact this.2.2 h
    have q9 : SlW 1 (sto w8 H 47 [pv']) q3 (elI (n.2 ++ endP)) := (s7.fr f8 fun c hc h => by have := n7 c hc; have := bp4 c h; omega).fr g8 fun c hc h => by have := n7 c hc; omega
    have p9 : SlW 1 (sto w8 H 47 [pv']) pv' (elP1 (ps ++ [q3])) := s8.fr g8 fun c hc h => by have := n8 c hc; omega
    have dis8 : ∀ c, inB q3 c → ¬ inB pv' c := fun c h1 h2 => by
      rcases hin8 c h2 with h | h
      · have := n7 c h1; have := bp4 c h; omega
      · have := n7 c h1; omega
    have dish : ∀ c, inB hv c → ¬ inB pv' c := fun c h1 h2 => by
      rcases hin8 c h2 with h | h
      · exact (bh4 c h1).2.2 h
      · have := bh4 c h1; omega
    generalize sto w8 H 47 [pv'] = w9 at *
    obtain ⟨u9, v1, v2⟩ := hN9.sl.rdF he .i64
    obtain ⟨y', y1', y3⟩ := v2 0 (by decide)
    have y3' : ld1 y' w9 = some (.int .i64 n.1) := y3
    obtain ⟨q1, t1, t2, t3⟩ := q9.1.take (n := n.2.length) (by simp) .i64
    have t2' : Sl 1 w9 q1 (elI n.2) := by simpa [elI] using t2
    have q1c := t2'.isCell
    have d9 : Fr (fun _ => False) w9 w9.drew := (Fr.refl _ _).drew
    simp [hb9, k22, v1, y1', y3', t1, buildV, fillV_cell, q1c]
    refine Run_app1 (k := 2) rfl (s9.fr d9 fun _ _ => id) (by decide) rfl (by decide) (by simp [q1c]) (by simp [elN]; omega) fun hv' w10 s10 f10 hin10 w91 f91 => ?_
    have f10 : Fr (inB hv) w9 w10 := (d9.mono fun _ h => h.elim).trans f10 fun _ _ h => h
    have e10 := f10.size
    have hin10 : ∀ c, inB hv' c → inB hv c ∨ (w9.heap.size ≤ c ∧ c < w10.heap.size) := hin10
    have n10 : ∀ c, inB hv' c → w3.heap.size ≤ c ∧ c < w10.heap.size := fun c hc => by
      rcases hin10 c hc with h | h
      · have := bh4 c h; omega
      · omega
    have hneH10 : ¬ inB hv H := fun h => by have := bh4 _ h; omega
    have hH10 := f10.bk_some hH9 hneH10
    have hHw10 : wr w10 H = true := by rw [f10.wr (bk_lt hH9) hneH10]; exact hHw9
    have hH91 := f91.bk_some (d9.bk_some hH9 id) id
    have hvc := s10.1.isCell
    have g10 : Fr (fun c => c = H) w10 (sto w10 H 46 [hv']) := (Fr.refl (fun c => c = H) w10).sto (.inl rfl) _ _
    have hc' := hc_gets C nv nv2 hv pv'
    have l47 : 47 ≤ (hcells C nv nv2 hv pv').length := by rw [hc'.1]; omega
    simp [cells_isCell hvc, hvc, hHw10, hH10, l47, hH91, hc'.2.2.2.1, ws]
    have dq3 : ∀ c, inB q3 c → ¬ inB hv' c := fun c h1 h2 => by
      rcases hin10 c h2 with h | h
      · have := n7 c h1; have := bh4 c h; omega
      · have := n7 c h1; omega
    refine ⟨hv', pv', hc'.2.2.2.2.2.1 hv', ((f4.trans f49 fun c hc h => ?_).trans f10 fun c hc h => ?_).trans g10 fun _ _ h => h, ps ++ [q3], by simp [hpl], pvs1 ++ [q1], by simp [hql], ?_, ?_, fun c hc => ⟨(n10 c hc).1, (n10 c hc).2, ?_⟩, fun c hc => ?_, fun j p q a d h1 h2 h3 => ?_⟩
    · rcases h with h | h
      · exact h
      · have := bp4 c h; omega
    · have := bh4 c h; omega
    · have e : elN (C.nodes.take (i + 1)) (pvs1 ++ [q1]) = elN (C.nodes.take i) pvs1 ++ [[.int .i64 n.1, q1]] := by
        unfold elN
        rw [List.take_add_one, hg]
        rw [List.zipWith_append (by rw [List.length_take, hql]; omega)]
        rfl
      rw [e]
      exact s10.fr g10 fun c hc h => by have := n10 c hc; omega
    · exact (p9.fr f10 fun c h1 h2 => dish c h2 h1).fr g10 fun c hc h => by have := n8 c hc; omega
    · intro h
      rcases hin10 c hc with h' | h'
      · exact dish c h' h
      · have := n8 c h; omega
    · have := n8 c hc; omega
    · by_cases hji : j < i
      · rw [List.getElem?_append_left (by omega)] at h1 h2
        obtain ⟨k1, k2, k3, k4⟩ := each j p q (a, d) h1 h2 h3
        have x1 : ∀ c, inB p c → ¬ (c = H ∨ inB pv c) := fun c hc h => by
          have := k4 c hc
          rcases h with h | h
          · omega
          · exact this.2.2.2 h
        have x2 : ∀ c, inB p c → ¬ inB hv c := fun c hc => (k4 c hc).2.2.1
        have x3 : ∀ c, inB p c → ¬ c = H := fun c hc h => by have := k4 c hc; omega
        refine ⟨((k1.fr f49 x1).fr f10 x2).fr g10 x3, ((k2.fr f49 fun c hc => x1 c (k3 c hc)).fr f10 fun c hc => x2 c (k3 c hc)).fr g10 fun c hc => x3 c (k3 c hc), k3, fun c hc => ?_⟩
        have := k4 c hc
        refine ⟨this.1, by omega, fun h => ?_, fun h => ?_⟩
        · rcases hin10 c h with h' | h'
          · exact this.2.2.1 h'
          · omega
        · rcases hin8 c h with h' | h'
          · exact this.2.2.2 h'
          · omega
      · have hjl := (List.getElem?_eq_some_iff.1 h1).1
        simp at hjl
        obtain rfl : j = i := by omega
        rw [List.getElem?_append_right (by omega), hpl] at h1
        rw [List.getElem?_append_right (by omega), hql] at h2
        simp at h1 h2
        subst h1 h2
        rw [hg] at h3
        cases h3
        have x2 : ∀ c, inB q3 c → ¬ inB hv c := fun c hc h => by have := n7 c hc; have := bh4 c h; omega
        have x3 : ∀ c, inB q3 c → ¬ c = H := fun c hc h => by have := n7 c hc; omega
        refine ⟨(q9.fr f10 x2).fr g10 x3, (t2'.fr f10 fun c hc => x2 c (t3 c hc)).fr g10 fun c hc => x3 c (t3 c hc), t3, fun c hc => ?_⟩
        have := n7 c hc
        exact ⟨by omega, by omega, dq3 c hc, dis8 c hc⟩
  · rintro _ w4 ⟨rfl, hv, pv, ps, pvs1, hH4, hHw4, f4, hpl, hql, hs4, ps4, bh4, bp4, each⟩
    simp only [List.take_length] at hs4
    have f04 : Fr (fun _ => False) w w4 := f03.trans f4 fun c hc he => by omega
    have hb4 : bk w4 b = some (C.cells nv) := f4.bk_some hb3 hbH
    have hc := hc_gets C nv nv2 hv pv
    have hhl := hs4.1.lenL
    have e4 := f4.size
    have hel : (elN C.nodes pvs1).length = C.nodes.length := by simp [elN, hql]
    rw [hel] at hhl
    simp [hb4, k22, hNl, hH4, hc.2.2.2.1, hhl, buildV, fillV_cell]
    refine Run_bsl (k := 2) (vs := [.agg #[.int .i64 801, .slice none 0 0], .agg #[.int .i64 802, .slice none 0 0]]) rfl (by simp) rfl (by simp [Builtin.zeroCells]) fun r6 w6 s6 f6 n6 => ?_
    refine Run_appM (k := 2) (hs4.fr f6 fun _ _ => id) s6.1 (by decide) rfl (by decide) (by simp) (by simp [elN]; omega) fun hv' w7 s7 f7 hin7 => ?_
    have s7 : SlW 2 w7 hv' (elN C.nodes pvs1 ++ endN) := by simpa [endN] using s7
    have e6 := f6.size
    have e7 := f7.size
    have hneH : ¬ inB hv H := fun h => by have := bh4 _ h; omega
    have hH7 := f7.bk_some (f6.bk_some hH4 id) hneH
    have hHw7 : wr w7 H = true := by rw [f7.wr (bk_lt (f6.bk_some hH4 id)) hneH, f6.wr (bk_lt hH4) id]; exact hHw4
    have hvc := s7.1.isCell
    have n7 : ∀ c, inB hv' c → w3.heap.size ≤ c ∧ c < w7.heap.size := fun c hc => by
      rcases hin7 c hc with h | h
      · have := bh4 c h; omega
      · omega
    have l47 : 47 ≤ (hcells C nv nv2 hv pv).length := by rw [hc.1]; omega
    have hc' := hc_gets C nv nv2 hv' pv
    have l23 : 23 ≤ (hcells C nv nv2 hv' pv).length := by rw [hc'.1]; omega
    have g7 : Fr (fun c => c = H) w7 (sto w7 H 46 [hv']) := (Fr.refl (fun c => c = H) w7).sto (.inl rfl) _ _
    obtain ⟨nv1, t1, t2, t3⟩ := s7.1.take (n := C.nodes.length) (by simp [hel]) .i64
    have t2' : Sl 2 w7 nv1 (elN C.nodes pvs1) := by simpa [hel] using t2
    have nvc := t2'.isCell
    simp [cells_isCell hvc, hvc, hHw7, hH7, l47, hc.2.2.2.2.2.1, hc'.2.2.2.1, t1, cells_isCell nvc, nvc, l23]
    have g8 : Fr (fun c => c = H) w7 (sto (sto w7 H 46 [hv']) H 22 [nv1]) := ((Fr.refl (fun c => c = H) w7).sto (.inl rfl) _ _).sto (.inl rfl) _ _
    have e8 := g8.size
    have hH8 : bk (sto (sto w7 H 46 [hv']) H 22 [nv1]) H = some (hcells C nv1 nv2 hv' pv) := by simp [hH7, hc.2.2.2.2.2.1, hc'.2.2.2.2.2.2.2]
    have hHw8 : wr (sto (sto w7 H 46 [hv']) H 22 [nv1]) H = true := by simp [hHw7]
    generalize sto (sto w7 H 46 [hv']) H 22 [nv1] = w8 at *
    have f48 : Fr (fun c => c = H ∨ inB hv c) w4 w8 := ((f6.mono fun _ h => h.elim).trans (f7.mono fun _ h => .inr h) fun _ _ h => h).trans (g8.mono fun _ h => .inl h) fun _ _ h => h
    have f08 : Fr (fun _ => False) w w8 := f04.trans f48 fun c hc h => by
      rcases h with h | h
      · omega
      · have := bh4 c h; omega
    have hev : ∀ c, inB hv' c → inB hv c ∨ w4.heap.size ≤ c := fun c hc => by
      rcases hin7 c hc with h | h
      · exact .inl h
      · exact .inr (by omega)
    have x0 : ∀ (j : Nat) (p q : Value) (n : Int × List Int), ps[j]? = some p → pvs1[j]? = some q → C.nodes[j]? = some n → SlW 1 w8 p (elI (n.2 ++ endP)) ∧ Sl 1 w8 q (elI n.2) ∧ ∀ c, inB p c → w3.heap.size ≤ c ∧ c ≠ H ∧ ¬ inB hv' c ∧ ¬ inB pv c := fun j p q n h1 h2 h3 => by
      obtain ⟨k1, k2, k3, k4⟩ := each j p q n h1 h2 h3
      have x1 : ∀ c, inB p c → ¬ (c = H ∨ inB hv c) := fun c hc h => by
        have := k4 c hc
        rcases h with h | h
        · omega
        · exact this.2.2.1 h
      refine ⟨k1.fr f48 x1, k2.fr f48 fun c hc => x1 c (k3 c hc), fun c hc => ?_⟩
      have := k4 c hc
      refine ⟨this.1, by omega, fun h => ?_, this.2.2.2⟩
      rcases hev c h with h' | h'
      · exact this.2.2.1 h'
      · omega
    have k1 : Nodes w8 nv1 C.nodes pvs1 := ⟨hql, t2'.fr g8 fun c hc h => by have := n7 c (t3 c hc); omega, fun j n q h1 h2 => by
      have hj := (List.getElem?_eq_some_iff.1 h2).1
      have hpj : ps[j]? = some (ps[j]'(by omega)) := List.getElem?_eq_getElem _
      exact (x0 j _ q n hpj h2 h1).2.1⟩
    have k2 : Nodes w8 nv2 C.nodes pvs2 := by
      refine ((hN2.fr0 f3).fr f4 (fun c hc h => ?_) fun q hq c hc h => ?_).fr f48 (fun c hc h => ?_) fun q hq c hc h => ?_
      · have := hnw c hc; omega
      · have := hpw q hq c hc; omega
      · have := hnw c hc
        rcases h with h | h
        · omega
        · have := bh4 c h; omega
      · have := hpw q hq c hc
        rcases h with h | h
        · omega
        · have := bh4 c h; omega
    refine ⟨f08, nv1, nv2, hv', pv, ps, pvs1, pvs2, ⟨hH8, hHw8, by omega, k1, k2, s7.fr g8 fun c hc h => by have := n7 c hc; omega, ?_, hpl, fun j p n h1 h2 => ?_, fun c hc => ?_, fun c hc => ?_⟩⟩
    · exact ps4.1.fr f48 fun c hc h => by
        rcases h with h | h
        · have := bp4 c hc; omega
        · exact (bh4 c h).2.2 hc
    · have hj := (List.getElem?_eq_some_iff.1 h1).1
      have hpj : pvs1[j]? = some (pvs1[j]'(by omega)) := List.getElem?_eq_getElem _
      obtain ⟨y1, y2, y3⟩ := x0 j p _ n h1 hpj h2
      exact ⟨y1, fun c hc => by have := y3 c hc; exact ⟨by omega, this.2.1, this.2.2⟩⟩
    · have := n7 c hc
      refine ⟨by omega, by omega, fun h => ?_⟩
      have := bp4 c h
      rcases hev c hc with h' | h'
      · exact (bh4 c h').2.2 h
      · omega
    · have := bp4 c hc; omega
end Go.Proofs.YtpiceodfdjihhaaGreatDoor

/-
  The law's hand (granarylaw6), part J: one and the same definition.
-/
namespace Go.Proofs.YtpiceodfdjihhaaGreatDoor
open Go.Lift
set_option linter.unusedSimpArgs false
theorem sameInts6_run {w : World} {av bv : Value} {l : List Int} (ha : Sl 1 w av (elI l)) (hb : Sl 1 w bv (elI l)) (hl : l.length ≤ 1099511627776) :
    Run (F.granarylaw6_sameInts av bv) w fun r w' => r = .bool true ∧ Fr (fun _ => False) w w' := by
  unfold F.granarylaw6_sameInts
  have hal := ha.lenL
  have hbl := hb.lenL
  simp only [elI_len] at hal hbl
  simp [hal, hbl]
  refine Run_for l.length (fun i s w' => s = [.int .i64 i] ∧ Fr (fun _ => False) w w') ⟨rfl, Fr.refl _ _⟩ ?_ ?_
  · rintro i s w1 hi ⟨rfl, f1⟩
    have ei : (elI l)[i]? = some [.int .i64 l[i]] := by rw [elI_get, List.getElem?_eq_getElem hi]; rfl
    obtain ⟨p, p1, p2⟩ := (ha.fr0 f1).rd1 ei .i64
    obtain ⟨q, q1, q2⟩ := (hb.fr0 f1).rd1 ei .i64
    have wi := wrap_succ (n := i) (by omega)
    have hi' : (i : Int) < l.length := by omega
    simp [hal, hi, hi', p1, p2, q1, q2, wi]
    exact f1.drew
  · rintro s w1 ⟨rfl, f1⟩
    simp [hal]
    exact f1
set_option maxHeartbeats 1000000 in
theorem sameCluster_run {w : World} {C : Clu} {nv nv' : Value} {pvs pvs' : List Value} (hN : Nodes w nv C.nodes pvs) (hN' : Nodes w nv' C.nodes pvs') (hF : Fits C) :
    Run (F.granarylaw6_sameCluster (C.val nv) (C.val nv')) w fun r w' => r = .bool true ∧ Fr (fun _ => False) w w' := by
  unfold F.granarylaw6_sameCluster
  have hnv := hN.sl.isCell
  have hnv' := hN'.sl.isCell
  simp [-ldA_ptr, Clu.val]
  refine Run_new fun a w1 ha _ f1 hle1 => ?_
  have ha : bk w1 a = some (C.cells nv) := by simpa using ha
  refine Run_new fun b w2 hb _ f2 hle2 => ?_
  have hb : bk w2 b = some (C.cells nv') := by simpa using hb
  have ha2 := f2.bk_some ha id
  have f02 : Fr (fun _ => False) w w2 := f1.trans f2 fun _ _ => id
  have hst : (C.cells nv)[0]? = some (.string C.store) := rfl
  have hst' : (C.cells nv')[0]? = some (.string C.store) := rfl
  have d2 : Fr (fun _ => False) w2 w2.drew := (Fr.refl _ _).drew
  have ha2' : bk w2.drew a = some (C.cells nv) := d2.bk_some ha2 id
  simp [-ldA_ptr, ha2, hb, hst, hst', Clu.ldA ha2, Clu.ldA ha2']
  have f0d : Fr (fun _ => False) w w2.drew := f02.trans d2 fun _ _ => id
  refine (values_run hnv).mono ?_
  rintro _ w3 ⟨rfl, f3⟩
  have ha3 := f3.bk_some ha2' id
  have hb2' : bk w2.drew b = some (C.cells nv') := d2.bk_some hb id
  have hb3 := f3.bk_some hb2' id
  simp [-ldA_ptr, Clu.ldA hb3]
  refine (values_run hnv').mono ?_
  rintro _ w4 ⟨rfl, f4⟩
  have ha4 := f4.bk_some ha3 id
  have hb4 := f4.bk_some hb3 id
  have f04 : Fr (fun _ => False) w w4 := (f0d.trans f3 fun _ _ => id).trans f4 fun _ _ => id
  have k22 : (C.cells nv)[22]? = some nv := rfl
  have k22' : (C.cells nv')[22]? = some nv' := rfl
  have hl := hN.lenL
  have hl' := hN'.lenL
  have hcn := hF.count
  have hpp := hF.parts
  simp [-ldA_ptr, numsV, Clu.nums, ha4, hb4, k22, k22', hl, hl', Clu.ldA hb]
  refine Run_for C.nodes.length (fun i s w5 => s = [.int .i64 i] ∧ Fr (fun _ => False) w4 w5) ⟨rfl, Fr.refl _ _⟩ ?_ ?_
  · rintro i _ w5 hi ⟨rfl, f5⟩
    have ha5 := f5.bk_some ha4 id
    have hb5 := f5.bk_some hb4 id
    have f05 : Fr (fun _ => False) w w5 := f04.trans f5 fun _ _ => id
    have hg : C.nodes[i]? = some C.nodes[i] := List.getElem?_eq_getElem hi
    generalize C.nodes[i] = n at hg
    obtain ⟨p, hpi, he, hpv⟩ := (hN.fr0 f05).get hg
    obtain ⟨p', hpi', he', hpv'⟩ := (hN'.fr0 f05).get hg
    obtain ⟨u, u1, u2⟩ := (hN.fr0 f05).sl.rdF he .i64
    obtain ⟨z, z1, z2⟩ := u2 1 (by decide)
    have z2' : ld1 z w5 = some p := z2
    obtain ⟨y, y1, y3⟩ := u2 0 (by decide)
    have y3' : ld1 y w5 = some (.int .i64 n.1) := y3
    obtain ⟨u', v1, v2⟩ := (hN'.fr0 f05).sl.rdF he' .i64
    obtain ⟨t, t1, t2⟩ := v2 1 (by decide)
    have t2' : ld1 t w5 = some p' := t2
    obtain ⟨r, r1, r3⟩ := v2 0 (by decide)
    have r3' : ld1 r w5 = some (.int .i64 n.1) := r3
    have ws := wrap_succ (n := i) (by omega)
    have d5 : Fr (fun _ => False) w5 w5.drew := (Fr.refl _ _).drew
    have hnl : n.2.length ≤ 1048576 := by
      have : n.2.length ≤ (C.nodes.map (·.2.length)).sum := mem_le_sum (List.mem_map.2 ⟨n, List.mem_of_getElem? hg, rfl⟩)
      omega
    simp [-ldA_ptr, ha5, hb5, k22, k22', hl, hl', hi, u1, z1, z2', y1, y3', v1, t1, t2', r1, r3']
    refine (sameInts6_run (Sl.fr0 hpv d5) (Sl.fr0 hpv' d5) (by omega)).mono ?_
    rintro _ w6 ⟨rfl, f6⟩
    simp [ws]
    exact f5.trans (d5.trans f6 fun _ _ => id) fun _ _ => id
  · rintro _ w5 ⟨rfl, f5⟩
    have ha5 := f5.bk_some ha4 id
    simp [-ldA_ptr, ha5, k22, hl]
    exact f04.trans f5 fun _ _ => id
set_option maxRecDepth 10000 in
set_option maxHeartbeats 4000000 in
theorem left_run {w0 w : World} {H : Nat} {C : Clu} {nv1 nv2 hv pv : Value} {ps pvs1 pvs2 : List Value} (h : Handed w0 w H C nv1 nv2 hv pv ps pvs1 pvs2) (hF : Fits C) :
    Run (F.granarylaw6_Handed_Left (.pointer (some ⟨H, 0, none⟩))) w fun r w' => r = .bool true ∧ Fr (fun _ => False) w w' := by
  unfold F.granarylaw6_Handed_Left
  have hc := hc_gets C nv1 nv2 hv pv
  have hb := h.blk
  have l1 := h.n1.lenL
  have l2 := h.n2.lenL
  have hcn := hF.count
  have hpp := hF.parts
  have a1 : Go.Lift.ldA 23 (.pointer (some ⟨H, 0, none⟩)) w = some (C.val nv1) := by
    rw [ldA_bk hb (by rw [hc.1]; omega)]; rfl
  have a2 : Go.Lift.ldA 23 (.pointer (some ⟨H, 23, none⟩)) w = some (C.val nv2) := by
    rw [ldA_bk hb (by rw [hc.1]; omega)]; rfl
  have d1 : Fr (fun _ => False) w w.drew := (Fr.refl _ _).drew
  simp [-ldA_ptr, hb, hc.2.2.1, l2, a1, a2]
  refine (sameCluster_run (h.n1.fr0 d1) (h.n2.fr0 d1) hF).mono ?_
  rintro _ w1 ⟨rfl, f1⟩
  have f01 : Fr (fun _ => False) w w1 := d1.trans f1 fun _ _ => id
  have hb1 := f01.bk_some hb id
  have s1 := h.nodes.1.fr0 f01
  have hel : (elN C.nodes pvs1).length = C.nodes.length := by simp [elN, h.n1.len]
  have sl := s1.lenL
  simp only [List.length_append, hel] at sl
  have sl' : lenL hv = some (.int .i64 (C.nodes.length + 2)) := by simpa [endN] using sl
  have e801 : (elN C.nodes pvs1 ++ endN)[C.nodes.length]? = some [.int .i64 801, .slice none 0 0] := by
    rw [List.getElem?_append_right (by omega), hel]; simp [endN]
  have e802 : (elN C.nodes pvs1 ++ endN)[C.nodes.length + 1]? = some [.int .i64 802, .slice none 0 0] := by
    rw [List.getElem?_append_right (by omega), hel]; simp [endN]
  obtain ⟨p, p1, p2⟩ := s1.rdF e801 .i64
  obtain ⟨p0, p3, p4⟩ := p2 0 (by decide)
  have p4 : ld1 p0 w1 = some (.int .i64 801) := p4
  obtain ⟨p5, p6, p7⟩ := p2 1 (by decide)
  have p7 : ld1 p5 w1 = some (.slice none 0 0) := p7
  obtain ⟨q, q1, q2⟩ := s1.rdF e802 .i64
  have q1 : idxA 2 hv (.int .i64 (C.nodes.length + 1)) = some q := by simpa using q1
  obtain ⟨q0, q3, q4⟩ := q2 0 (by decide)
  have q4 : ld1 q0 w1 = some (.int .i64 802) := q4
  obtain ⟨q5, q6, q7⟩ := q2 1 (by decide)
  have q7 : ld1 q5 w1 = some (.slice none 0 0) := q7
  have w1' : IntKind.i64.wrap ((C.nodes.length : Int) + 1) = (C.nodes.length : Int) + 1 := wrap_small (by omega) (by omega)
  have w2' : IntKind.i64.wrap ((C.nodes.length : Int) + 2) = (C.nodes.length : Int) + 2 := wrap_small (by omega) (by omega)
  simp [-ldA_ptr, hb1, hc.2.2.2.1, sl', w1', w2', p1, p3, p4, p6, p7, q1, q3, q4, q6, q7]
  refine Run_for C.nodes.length (fun i s w2 => s = [.int .i64 i] ∧ Fr (fun _ => False) w w2) ⟨rfl, f01⟩ ?_ ?_
  · rintro i _ w2 hi ⟨rfl, f2⟩
    have hb2 := f2.bk_some hb id
    have hg : C.nodes[i]? = some C.nodes[i] := List.getElem?_eq_getElem hi
    generalize C.nodes[i] = n at hg
    have hpi : ps[i]? = some (ps[i]'(by rw [h.len]; exact hi)) := List.getElem?_eq_getElem _
    generalize ps[i]'(by rw [h.len]; exact hi) = pp at hpi
    obtain ⟨k1, k2⟩ := h.each i pp n hpi hg
    have k1 := k1.1.fr0 f2
    obtain ⟨m, m1, m2⟩ := (h.parts.fr0 f2).rd1 (elP1_get hpi) .i64
    obtain ⟨p', hpi', he', hpv'⟩ := (h.n2.fr0 f2).get hg
    obtain ⟨u', v1, v2⟩ := (h.n2.fr0 f2).sl.rdF he' .i64
    obtain ⟨t, t1, t2⟩ := v2 1 (by decide)
    have t2' : ld1 t w2 = some p' := t2
    obtain ⟨p'', hpi'', he'', hpv''⟩ := (h.n1.fr0 f2).get hg
    have hnl : n.2.length ≤ 1048576 := by
      have : n.2.length ≤ (C.nodes.map (·.2.length)).sum := mem_le_sum (List.mem_map.2 ⟨n, List.mem_of_getElem? hg, rfl⟩)
      omega
    have eh : (elN C.nodes pvs1 ++ endN)[i]? = some [.int .i64 n.1, p''] := by rw [List.getElem?_append_left (by omega)]; exact he''
    obtain ⟨b, b1, b2⟩ := (h.nodes.1.fr0 f2).rdF eh .i64
    obtain ⟨c, c1, c2⟩ := b2 1 (by decide)
    have c2 : ld1 c w2 = some p'' := c2
    have hll := hpv'.lenL
    simp at hll
    have hkl := k1.lenL
    have hkl : lenL pp = some (.int .i64 (n.2.length + 3)) := by rw [hkl]; simp [endP]
    have ws := wrap_succ (n := i) (by omega)
    have x1 : IntKind.i64.wrap ((n.2.length : Int) + 1) = (n.2.length : Int) + 1 := wrap_small (by omega) (by omega)
    have x2 : IntKind.i64.wrap ((n.2.length : Int) + 2) = (n.2.length : Int) + 2 := wrap_small (by omega) (by omega)
    have x3 : IntKind.i64.wrap ((n.2.length : Int) + 3) = (n.2.length : Int) + 3 := wrap_small (by omega) (by omega)
    obtain ⟨z0, z1, z2⟩ := k1.rd1 (i := n.2.length) (y := .int .i64 701) (by simp [elI, endP]) .i64
    obtain ⟨y0, y1, y2⟩ := k1.rd1 (i := n.2.length + 1) (y := .int .i64 702) (by simp [elI, endP]) .i64
    obtain ⟨r0, r1, r2⟩ := k1.rd1 (i := n.2.length + 2) (y := .int .i64 703) (by simp [elI, endP]) .i64
    have y1 : idxA 1 pp (.int .i64 (n.2.length + 1)) = some y0 := by simpa using y1
    have r1 : idxA 1 pp (.int .i64 (n.2.length + 2)) = some r0 := by simpa using r1
    obtain ⟨s0, s1, s2, s3⟩ := k1.take (n := n.2.length) (by simp) .i64
    have s2 : Sl 1 w2 s0 (elI n.2) := by simpa [elI] using s2
    have d2 : Fr (fun _ => False) w2 w2.drew := (Fr.refl _ _).drew
    simp [-ldA_ptr, hb2, hc.2.2.1, hc.2.2.2.1, hc.2.2.2.2.1, hi, m1, m2, v1, t1, t2', hll, hkl, x1, x2, x3, z1, z2, y1, y2, r1, r2, s1]
    refine (sameInts6_run (Sl.fr0 s2 d2) (Sl.fr0 hpv' d2) (by omega)).mono ?_
    rintro _ w3 ⟨rfl, f3⟩
    have f03 : Fr (fun _ => False) w w3 := f2.trans (d2.trans f3 fun _ _ => id) fun _ _ => id
    have hb3 := f03.bk_some hb id
    obtain ⟨b', b1', b2'⟩ := (h.nodes.1.fr0 f03).rdF eh .i64
    obtain ⟨c', c1', c2'⟩ := b2' 1 (by decide)
    have c2' : ld1 c' w3 = some p'' := c2'
    obtain ⟨u'', v1', v2'⟩ := (h.n2.fr0 f03).sl.rdF he' .i64
    obtain ⟨t', t1', t2''⟩ := v2' 1 (by decide)
    have t2'' : ld1 t' w3 = some p' := t2''
    simp [-ldA_ptr, hb3, hc.2.2.1, hc.2.2.2.1, b1', c1', c2', v1', t1', t2'']
    have g3 : Fr (fun _ => False) w2 w3 := d2.trans f3 fun _ _ => id
    refine (sameInts6_run (Sl.fr0 hpv'' g3) (Sl.fr0 hpv' g3) (by omega)).mono ?_
    rintro _ w4 ⟨rfl, f4⟩
    simp [ws]
    exact f03.trans f4 fun _ _ => id
  · rintro _ w2 ⟨rfl, f2⟩
    simp
    exact f2
end Go.Proofs.YtpiceodfdjihhaaGreatDoor

/-
  The law's hand (granarylaw6), part K: what was handed in is written full.
-/
namespace Go.Proofs.YtpiceodfdjihhaaGreatDoor
open Go.Lift
set_option linter.unusedSimpArgs false
/-- A list of n numbers that may be written. -/
def Shp (w : World) (p : Value) (n : Nat) : Prop := ∃ els, els.length = n ∧ SlW 1 w p els
theorem Shp.sto {w : World} {p : Value} {n : Nat} (h : Shp w p n) (b o : Nat) (v : Value) : Shp (sto w b o [v]) p n := by
  obtain ⟨els, hl, ⟨h1, a, c, rfl, h2, h3⟩, hw⟩ := h
  rcases h3 with h3 | ⟨b', o', l, rfl, h4, h5, h6⟩
  · refine ⟨els, hl, ⟨h1, a, c, rfl, h2, .inl h3⟩, fun b' hb hc => ?_⟩
    rw [wr_sto]; exact hw b' hb hc
  · have hb' : ∃ l', bk (Go.Lift.sto w b o [v]) b' = some l' ∧ l'.length = l.length := by
      rw [bk_sto]
      split
      · rename_i he
        subst he
        rw [h4]
        exact ⟨_, rfl, length_setL _ _ _⟩
      · exact ⟨l, h4, rfl⟩
    obtain ⟨l', e1, e2⟩ := hb'
    refine ⟨((l'.drop o').take els.length).map fun x => [x], ?_, ⟨?_, some ⟨b', o', none⟩, c, ?_, ?_, .inr ⟨b', o', l', rfl, e1, by omega, ?_⟩⟩, fun d hd hc => ?_⟩
    · simp; omega
    · intro e he
      obtain ⟨x, _, rfl⟩ := List.mem_map.1 he
      rfl
    · congr 1
      simp; omega
    · simp; omega
    · have : ((l'.drop o').take els.length).length = els.length := by simp; omega
      rw [List.length_map, this, Nat.mul_one]
      generalize (l'.drop o').take els.length = z
      clear this
      induction z with
      | nil => rfl
      | cons x z ih => simp only [List.map_cons, List.flatten_cons, List.singleton_append, ← ih]
    · rw [wr_sto]; exact hw d hd hc
theorem Shp.fr {w w' : World} {p : Value} {n : Nat} {G : Nat → Prop} (h : Shp w p n) (f : Fr G w w') (hd : ∀ c, inB p c → ¬ G c) : Shp w' p n := by
  obtain ⟨els, hl, hs⟩ := h
  exact ⟨els, hl, hs.fr f hd⟩
theorem Shp.lenL {w : World} {p : Value} {n : Nat} (h : Shp w p n) : lenL p = some (.int .i64 n) := by
  obtain ⟨els, hl, hs⟩ := h
  rw [hs.1.lenL, hl]


theorem spoil_run {w0 w : World} {H : Nat} {C : Clu} {nv1 nv2 hv pv : Value} {ps pvs1 pvs2 : List Value} (h : Handed w0 w H C nv1 nv2 hv pv ps pvs1 pvs2) (hF : Fits C) :
    Run (F.granarylaw6_Handed_Spoil (.pointer (some ⟨H, 0, none⟩))) w fun _ w' => Fr (fun c => w0.heap.size ≤ c ∧ c < w.heap.size ∧ (inB hv c ∨ ∃ p ∈ ps, inB p c)) w w' := by
  unfold F.granarylaw6_Handed_Spoil
  have hc := hc_gets C nv1 nv2 hv pv
  have hcn := hF.count
  have hpp := hF.parts
  have hel : (elN C.nodes pvs1).length = C.nodes.length := by simp [elN, h.n1.len]
  have hb := h.blk
  have hlen := h.len
  have hlt : ∀ c, inB hv c → c < w.heap.size := fun c hc => h.nodes.1.lt (by simp [endN]) hc
  have plt : ∀ p ∈ ps, ∀ c, inB p c → c < w.heap.size := fun p hp c hc => by
    obtain ⟨i, hi, rfl⟩ := List.getElem_of_mem hp
    obtain ⟨k1, _⟩ := h.each i ps[i] (C.nodes[i]'(by omega)) (List.getElem?_eq_getElem hi) (List.getElem?_eq_getElem _)
    exact k1.1.lt (by simp [elI, endP]) hc
  have pH : ∀ p ∈ ps, ∀ c, inB p c → w0.heap.size ≤ c ∧ c ≠ H ∧ ¬ inB hv c ∧ ¬ inB pv c := fun p hp c hc => by
    obtain ⟨i, hi, rfl⟩ := List.getElem_of_mem hp
    obtain ⟨_, k2⟩ := h.each i ps[i] (C.nodes[i]'(by omega)) (List.getElem?_eq_getElem hi) (List.getElem?_eq_getElem _)
    exact k2 c hc
  let G : Nat → Prop := fun c => w0.heap.size ≤ c ∧ c < w.heap.size ∧ (inB hv c ∨ ∃ p ∈ ps, inB p c)
  have GH : ∀ c, G c → c ≠ H ∧ ¬ inB pv c := fun c hc => by
    rcases hc.2.2 with h' | ⟨p, hp, h'⟩
    · exact (h.bh c h').2
    · exact ⟨(pH p hp c h').2.1, (pH p hp c h').2.2.2⟩
  have I0 : ∀ (j : Nat) (p : Value), ps[j]? = some p → ∃ m, m ≤ 2097152 ∧ Shp w p m := fun j p hj => by
    have hjl := (List.getElem?_eq_some_iff.1 hj).1
    have hn : C.nodes[j]? = some (C.nodes[j]'(by omega)) := List.getElem?_eq_getElem _
    obtain ⟨k1, _⟩ := h.each j p _ hj hn
    have hnl : (C.nodes[j]'(by omega)).2.length ≤ (C.nodes.map (·.2.length)).sum := mem_le_sum (List.mem_map.2 ⟨_, List.getElem_mem _, rfl⟩)
    exact ⟨(C.nodes[j]'(by omega)).2.length + 3, by omega, ⟨_, by simp [endP], k1⟩⟩
  simp
  refine Run_for ps.length (fun i s w1 => s = [.int .i64 i] ∧ Fr G w w1 ∧ (∃ els : List (List Value), els.length = ps.length + 2 ∧ SlW 2 w1 hv els) ∧ ∀ (j : Nat) (p : Value), ps[j]? = some p → ∃ m, m ≤ 2097152 ∧ Shp w1 p m)
    ⟨rfl, Fr.refl _ _, ⟨_, by simp [hel, endN, hlen], h.nodes⟩, I0⟩ ?_ ?_
  · rintro i _ w1 hi ⟨rfl, f1, ⟨els, el, s1⟩, sh⟩
    have hb1 : bk w1 H = some _ := f1.bk_some hb fun hg => (GH _ hg).1 rfl
    have hpi : ps[i]? = some ps[i] := List.getElem?_eq_getElem hi
    have hmem : ps[i] ∈ ps := List.getElem_mem hi
    generalize ps[i] = p at hpi hmem
    have hpv1 := h.parts.fr f1 fun c hc hg => (GH c hg).2 hc
    obtain ⟨m0, m1, m2⟩ := hpv1.rd1 (elP1_get hpi) .i64
    have hpvl := hpv1.lenL
    simp at hpvl
    have ws := wrap_succ (n := i) (by omega)
    simp [hb1, hc.2.2.2.2.1, hpvl, hi]
    obtain ⟨m, hm, hsh⟩ := sh i p hpi
    refine Run_for m (fun k s w2 => s = [.int .i64 k] ∧ Fr G w w2 ∧ SlW 2 w2 hv els ∧ ∀ (j : Nat) (p : Value), ps[j]? = some p → ∃ m', m' ≤ 2097152 ∧ Shp w2 p m' ∧ (j = i → m' = m))
      ⟨rfl, f1, s1, fun j q hj => ?_⟩ ?_ ?_
    · by_cases hji : j = i
      · subst hji
        rw [hpi] at hj
        cases hj
        exact ⟨m, hm, hsh, fun _ => rfl⟩
      · obtain ⟨m', a1, a2⟩ := sh j q hj
        exact ⟨m', a1, a2, fun h => absurd h hji⟩
    · rintro k _ w2 hk ⟨rfl, f2, s2, sh2⟩
      have hb2 : bk w2 H = some _ := f2.bk_some hb fun hg => (GH _ hg).1 rfl
      have hpv2 := h.parts.fr f2 fun c hc hg => (GH c hg).2 hc
      obtain ⟨m0', m1', m2'⟩ := hpv2.rd1 (elP1_get hpi) .i64
      obtain ⟨m', a1, ⟨es, e1, e2⟩, a3⟩ := sh2 i p hpi
      obtain rfl := a3 rfl
      have wk := wrap_succ (n := k) (by omega)
      have ek : es[k]? = some (es[k]'(by omega)) := List.getElem?_eq_getElem _
      obtain ⟨q, o, c1, c2, c3, c4, c5⟩ := e2.put ek .i64
      have hl := e2.1.lenL
      rw [e1] at hl
      have hGq : G q := ⟨(pH p hmem q c2).1, plt p hmem q c2, .inr ⟨p, hmem, c2⟩⟩
      have c4' : okAt w2 q o 1 := c4
      simp [hb2, hc.2.2.2.2.1, m1', m2', hl, hk, c1, wk]
      refine ⟨c4'.1, c4'.2, f2.sto (.inl hGq) _ _, s2.fr ((Fr.refl (fun c => c = q) w2).sto (.inl rfl) _ _) fun c hc he => (pH p hmem q c2).2.2.1 (by rw [← he]; exact hc), fun j p' hj => ?_⟩
      obtain ⟨m', b1, b2, b3⟩ := sh2 j p' hj
      exact ⟨m', b1, b2.sto _ _ _, b3⟩
    · rintro _ w2 ⟨rfl, f2, s2, sh2⟩
      have hb2 : bk w2 H = some _ := f2.bk_some hb fun hg => (GH _ hg).1 rfl
      have hpv2 := h.parts.fr f2 fun c hc hg => (GH c hg).2 hc
      obtain ⟨m0', m1', m2'⟩ := hpv2.rd1 (elP1_get hpi) .i64
      obtain ⟨m', a1, ⟨es, e1, e2⟩, a3⟩ := sh2 i p hpi
      obtain rfl := a3 rfl
      have hl := e2.1.lenL
      rw [e1] at hl
      have ek : els[i]? = some (els[i]'(by omega)) := List.getElem?_eq_getElem _
      obtain ⟨q, o, c1, c2, c3, c4, c5⟩ := s2.put ek .i64
      obtain ⟨c6, c7⟩ := c5 0 [.int .i64 5] (by simp)
      have ek2 : (els.set i (setL (els[i]'(by omega)) 0 [.int .i64 5]))[i]? = some (setL (els[i]'(by omega)) 0 [.int .i64 5]) := by
        rw [List.getElem?_set_self (by omega)]
      obtain ⟨q', o', d1, d2, d3, d4, d5⟩ := c7.put ek2 .i64
      rw [c1] at d1
      cases d1
      obtain ⟨d6, d7⟩ := d5 1 [.slice none 0 0] (by simp)
      have hGq : G q := ⟨(h.bh q c2).1, hlt q c2, .inl c2⟩
      have c6' : okAt w2 q o 1 := c6
      have d6' : okAt (sto w2 q o [Value.int .i64 5]) q (o + 1) 1 := d6
      have hqH : q ≠ H := (h.bh q c2).2.1
      have hb3 : bk (sto w2 q o [Value.int .i64 5]) H = some (hcells C nv1 nv2 hv pv) := by rw [bk_sto_ne (Ne.symm hqH)]; exact hb2
      simp [hb2, hc.2.2.2.2.1, hc.2.2.2.1, m1', m2', hl, c1, ws]
      refine ⟨c6'.1, c6'.2, hv, by rw [hb3]; exact hc.2.2.2.1, ?_⟩
      simp [c1]
      refine ⟨by simpa using d6'.1, by simpa using d6'.2, (f2.sto (.inl hGq) _ _).sto (.inl hGq) _ _, ⟨_, ?_, d7⟩, fun j p' hj => ?_⟩
      · simp [el]
      · obtain ⟨m', b1, b2, _⟩ := sh2 j p' hj
        exact ⟨m', b1, (b2.sto _ _ _).sto _ _ _⟩
  · rintro _ w1 ⟨rfl, f1, ⟨els, el, s1⟩, sh⟩
    have hb1 : bk w1 H = some _ := f1.bk_some hb fun hg => (GH _ hg).1 rfl
    have hpv1 := h.parts.fr f1 fun c hc hg => (GH c hg).2 hc
    have hpvl := hpv1.lenL
    simp at hpvl
    simp [hb1, hc.2.2.2.2.1, hpvl]
    exact f1
end Go.Proofs.YtpiceodfdjihhaaGreatDoor

/-
  The law's book (granarylaw15), part L: lists that were handed out, in memory.
-/
namespace Go.Proofs.YtpiceodfdjihhaaGreatDoor
open Go.Lift
set_option linter.unusedSimpArgs false

structure BV where
  lv : Value
  gv : Value
  mv : Value
  ov : Value
  wv : Value
def BV.cells (b : BV) : List Value := [b.lv, b.gv, b.mv, b.ov, b.wv]
/-- The book's five cells, put into a block. -/
def putB (L : List Value) (o : Nat) (b : BV) : List Value := L.take o ++ (b.cells ++ L.drop (o + 5))
theorem putB_len {L : List Value} {o : Nat} {b : BV} (h : o + 5 ≤ L.length) : (putB L o b).length = L.length := by
  simp [putB, BV.cells]; omega
theorem putB_get {L : List Value} {o : Nat} {b : BV} (h : o + 5 ≤ L.length) {j : Nat} (hj : j < 5) : (putB L o b)[o + j]? = b.cells[j]? := by
  have : (L.take o).length = o := by rw [List.length_take]; omega
  rw [putB, List.getElem?_append_right (by omega), this, List.getElem?_append_left (by simp [BV.cells]; omega)]
  congr 1; omega
theorem putB_set {L : List Value} {o : Nat} {b b' : BV} (h : o + 5 ≤ L.length) {j : Nat} (hj : j < 5) {x : Value} (hb : b.cells.set j x = b'.cells) : (putB L o b).set (o + j) x = putB L o b' := by
  have : (L.take o).length = o := by rw [List.length_take]; omega
  rw [putB, List.set_append_right _ _ (by omega), this, List.set_append_left _ _ (by simp [BV.cells]; omega), show o + j - o = j by omega, hb]
  rfl
theorem putB_gets {L : List Value} {o : Nat} (h : o + 5 ≤ L.length) (b : BV) : (putB L o b)[o]? = some b.lv ∧ (putB L o b)[o + 1]? = some b.gv ∧ (putB L o b)[o + 2]? = some b.mv ∧ (putB L o b)[o + 3]? = some b.ov ∧ (putB L o b)[o + 4]? = some b.wv :=
  ⟨putB_get (j := 0) h (by omega), putB_get (j := 1) h (by omega), putB_get (j := 2) h (by omega), putB_get (j := 3) h (by omega), putB_get (j := 4) h (by omega)⟩
theorem putB_out {L : List Value} {o i : Nat} {b : BV} (h : o + 5 ≤ L.length) (hi : i < o ∨ o + 5 ≤ i) : (putB L o b)[i]? = L[i]? := by
  have ht : (L.take o).length = o := by rw [List.length_take]; omega
  rcases hi with hi | hi
  · rw [putB, List.getElem?_append_left (by omega), List.getElem?_take, if_pos hi]
  · rw [putB, List.getElem?_append_right (by omega), List.getElem?_append_right (by simp [BV.cells]; omega), List.getElem?_drop, ht]
    congr 1; simp [BV.cells]; omega

structure BS where
  Ls : List Value
  Gs : List Value
  Os : List Value
  Ws : List Value
def marksN (n : Nat) : List Int := (List.range n).map fun (i : Nat) => 5000000 + (i : Int)
@[simp] theorem marksN_len (n : Nat) : (marksN n).length = n := by simp [marksN]
theorem marksN_succ (n : Nat) : marksN (n + 1) = marksN n ++ [5000000 + (n : Int)] := by simp [marksN, List.range_succ]
theorem marksN_get {n i : Nat} (h : i < n) : (marksN n)[i]? = some (5000000 + (i : Int)) := by simp [marksN, h]
/-- A book in memory: lists of k cells an element; mk i: the i-th mark; tags: 1 to 5 its own lists, 6 what is never written again, from 10 on the lists that rest. -/
structure BookM (k : Nat) (mk : Nat → List Value) (good : List (List Value) → Prop) (w : World) (b : BV) (s : BS) (bt : Nat → Nat) : Prop where
  lists : SlW 1 w b.lv (elP1 s.Ls) ∧ Tg bt 1 b.lv
  grown : SlW 1 w b.gv (elP1 s.Gs) ∧ Tg bt 2 b.gv
  marks : SlW 1 w b.mv (elI (marksN s.Ls.length)) ∧ Tg bt 3 b.mv
  opn : SlW 1 w b.ov (elP1 s.Os) ∧ Tg bt 4 b.ov
  was : SlW 1 w b.wv (elP1 s.Ws) ∧ Tg bt 5 b.wv
  lg : s.Gs.length = s.Ls.length
  lw : s.Ws.length = s.Os.length
  opens : ∀ (j : Nat) (v u : Value), s.Os[j]? = some v → s.Ws[j]? = some u → ∃ els, good els ∧ SlW k w v els ∧ Sl k w u els ∧ Tg bt (10 + s.Ls.length + j) v ∧ Tg bt 6 u
  written : ∀ (i : Nat) (v u : Value), s.Ls[i]? = some v → s.Gs[i]? = some u → ∃ n n', n ≤ 1000 ∧ n' ≤ 2000 ∧ Sl k w v (List.replicate n (mk i)) ∧ Sl k w u (List.replicate n' (mk i)) ∧ Tg bt 6 v ∧ Tg bt 6 u
  bound : ∀ c, bt c ≠ 0 → c < w.heap.size
theorem BookM.fr {k : Nat} {mk : Nat → List Value} {good : List (List Value) → Prop} {w w' : World} {b : BV} {s : BS} {bt : Nat → Nat} {F : Nat → Prop} (h : BookM k mk good w b s bt) (f : Fr F w w') (hF : ∀ c, F c → bt c = 0) : BookM k mk good w' b s bt := by
  have hz : ∀ {n : Nat} {v : Value}, Tg bt n v → n ≠ 0 → ∀ c, inB v c → ¬ F c := fun ht hn c hc hf => hn ((ht c hc).symm.trans (hF c hf))
  refine ⟨⟨h.lists.1.fr f (hz h.lists.2 (by decide)), h.lists.2⟩, ⟨h.grown.1.fr f (hz h.grown.2 (by decide)), h.grown.2⟩, ⟨h.marks.1.fr f (hz h.marks.2 (by decide)), h.marks.2⟩, ⟨h.opn.1.fr f (hz h.opn.2 (by decide)), h.opn.2⟩, ⟨h.was.1.fr f (hz h.was.2 (by decide)), h.was.2⟩, h.lg, h.lw, fun j v u h1 h2 => ?_, fun i v u h1 h2 => ?_, fun c hc => Nat.lt_of_lt_of_le (h.bound c hc) f.size⟩
  · obtain ⟨els, g, a1, a2, a3, a4⟩ := h.opens j v u h1 h2
    exact ⟨els, g, a1.fr f (hz a3 (by omega)), a2.fr f (hz a4 (by decide)), a3, a4⟩
  · obtain ⟨n, n', a0, a0', a1, a2, a3, a4⟩ := h.written i v u h1 h2
    exact ⟨n, n', a0, a0', a1.fr f (hz a3 (by decide)), a2.fr f (hz a4 (by decide)), a3, a4⟩
theorem BookM.new (k : Nat) (mk : Nat → List Value) (good : List (List Value) → Prop) (w : World) : BookM k mk good w ⟨.slice none 0 0, .slice none 0 0, .slice none 0 0, .slice none 0 0, .slice none 0 0⟩ ⟨[], [], [], []⟩ fun _ => 0 :=
  ⟨⟨SlW.nil _ _, fun _ h => h.elim⟩, ⟨SlW.nil _ _, fun _ h => h.elim⟩, ⟨SlW.nil _ _, fun _ h => h.elim⟩, ⟨SlW.nil _ _, fun _ h => h.elim⟩, ⟨SlW.nil _ _, fun _ h => h.elim⟩, rfl, rfl, fun j v u h => by simp at h, fun j v u h => by simp at h, fun c h => absurd rfl h⟩

/-- The marks of blocks, where the oldest list was written: v, grown to g. -/
noncomputable def wrTag (bt : Nat → Nat) (v g lv gv mv : Value) (c : Nat) : Nat := by
  classical
  exact if inB v c ∨ inB g c then 6 else if inB lv c then 1 else if inB gv c then 2 else if inB mv c then 3 else bt c
/-- The step, without the program. -/
theorem BookM.wrote {k : Nat} {mk : Nat → List Value} {good : List (List Value) → Prop} {w w' : World} {b : BV} {Ls Gs Os Ws : List Value} {v u g : Value} {bt : Nat → Nat} (h : BookM k mk good w b ⟨Ls, Gs, v :: Os, u :: Ws⟩ bt)
    {lv gv mv ov wv : Value} {F : Nat → Prop} (f : Fr F w w') (hF : ∀ c, F c → bt c = 0 ∨ bt c = 10 + Ls.length ∨ bt c = 1 ∨ bt c = 2 ∨ bt c = 3)
    (sl : SlW 1 w' lv (elP1 (Ls ++ [v]))) (sg : SlW 1 w' gv (elP1 (Gs ++ [g]))) (sm : SlW 1 w' mv (elI (marksN (Ls.length + 1)))) (so : SlW 1 w ov (elP1 Os)) (io : ∀ c, inB ov c → inB b.ov c) (sw : SlW 1 w wv (elP1 Ws)) (iw : ∀ c, inB wv c → inB b.wv c)
    {n n' : Nat} (hn : n ≤ 1000) (hn' : n' ≤ 2000) (xv : Sl k w' v (List.replicate n (mk Ls.length))) (xg : Sl k w' g (List.replicate n' (mk Ls.length)))
    (ig : ∀ c, inB g c → inB v c ∨ (w.heap.size ≤ c ∧ c < w'.heap.size)) (il : ∀ c, inB lv c → (inB b.lv c ∨ (w.heap.size ≤ c ∧ c < w'.heap.size)) ∧ ¬ inB g c)
    (im : ∀ c, inB gv c → (inB b.gv c ∨ (w.heap.size ≤ c ∧ c < w'.heap.size)) ∧ ¬ inB g c ∧ ¬ inB lv c) (ik : ∀ c, inB mv c → (inB b.mv c ∨ (w.heap.size ≤ c ∧ c < w'.heap.size)) ∧ ¬ inB g c ∧ ¬ inB lv c ∧ ¬ inB gv c) :
    BookM k mk good w' ⟨lv, gv, mv, ov, wv⟩ ⟨Ls ++ [v], Gs ++ [g], Os, Ws⟩ (wrTag bt v g lv gv mv) ∧ (∀ c, wrTag bt v g lv gv mv c ≠ 0 → bt c ≠ 0 ∨ (w.heap.size ≤ c ∧ c < w'.heap.size)) := by
  have z : ∀ c, w.heap.size ≤ c → bt c = 0 := fun c hc => Classical.byContradiction fun h' => by have := h.bound c h'; omega
  obtain ⟨els, gd, v1, u1, tv, tu⟩ := h.opens 0 v u rfl rfl
  have tv : Tg bt (10 + Ls.length) v := tv
  have hz : ∀ {n : Nat} {v : Value}, Tg bt n v → n ≠ 0 ∧ n ≠ 10 + Ls.length ∧ n ≠ 1 ∧ n ≠ 2 ∧ n ≠ 3 → ∀ c, inB v c → ¬ F c := fun ht hn c hc hf => by
    have := ht c hc
    have := hF c hf
    omega
  -- a block with an old mark that is none of the new ones keeps it
  have keep : ∀ c t, bt c = t → t ≠ 0 → t ≠ 10 + Ls.length → t ≠ 1 → t ≠ 2 → t ≠ 3 → wrTag bt v g lv gv mv c = t := by
    intro c t ht h0 h1 h2 h3 h4
    have hlt : c < w.heap.size := h.bound c (by omega)
    have a1 : ¬ inB v c := fun hc => by have := tv c hc; omega
    have a2 : ¬ inB g c := fun hc => by rcases ig c hc with h' | h'; exact a1 h'; omega
    have a3 : ¬ inB lv c := fun hc => by
      rcases (il c hc).1 with h' | h'
      · have := h.lists.2 c h'; omega
      · omega
    have a4 : ¬ inB gv c := fun hc => by
      rcases (im c hc).1 with h' | h'
      · have := h.grown.2 c h'; omega
      · omega
    have a5 : ¬ inB mv c := fun hc => by
      rcases (ik c hc).1 with h' | h'
      · have := h.marks.2 c h'; omega
      · omega
    simp [wrTag, a1, a2, a3, a4, a5, ht]
  have notv : ∀ c, (inB b.lv c ∨ inB b.gv c ∨ inB b.mv c) → inB v c → False := fun c hc hv => by
    have := tv c hv
    rcases hc with h' | h' | h'
    · have := h.lists.2 c h'; omega
    · have := h.grown.2 c h'; omega
    · have := h.marks.2 c h'; omega
  have vlt : ∀ c, inB v c → c < w.heap.size := fun c hc => h.bound c (by have := tv c hc; omega)
  refine ⟨⟨⟨sl, fun c hc => ?_⟩, ⟨sg, fun c hc => ?_⟩, ⟨by simpa using sm, fun c hc => ?_⟩, ⟨so.fr f fun c hc => hz h.opn.2 (by omega) c (io c hc), fun c hc => ?_⟩, ⟨sw.fr f fun c hc => hz h.was.2 (by omega) c (iw c hc), fun c hc => ?_⟩, by simpa using h.lg, by simpa using h.lw, fun j a e h1 h2 => ?_, fun i a e h1 h2 => ?_, fun c hc => ?_⟩, fun c hc => ?_⟩
  · have a1 : ¬ inB v c := fun hv => by
      rcases (il c hc).1 with h' | h'
      · exact notv c (.inl h') hv
      · have := vlt c hv; omega
    simp [wrTag, a1, (il c hc).2, hc]
  · have a1 : ¬ inB v c := fun hv => by
      rcases (im c hc).1 with h' | h'
      · exact notv c (.inr (.inl h')) hv
      · have := vlt c hv; omega
    simp [wrTag, a1, (im c hc).2.1, (im c hc).2.2, hc]
  · have a1 : ¬ inB v c := fun hv => by
      rcases (ik c hc).1 with h' | h'
      · exact notv c (.inr (.inr h')) hv
      · have := vlt c hv; omega
    simp [wrTag, a1, (ik c hc).2.1, (ik c hc).2.2.1, (ik c hc).2.2.2, hc]
  · exact keep c 4 (h.opn.2 c (io c hc)) (by decide) (by omega) (by decide) (by decide) (by decide)
  · exact keep c 5 (h.was.2 c (iw c hc)) (by decide) (by omega) (by decide) (by decide) (by decide)
  · obtain ⟨els, gd, a1, a2, a3, a4⟩ := h.opens (j + 1) a e (by simpa using h1) (by simpa using h2)
    have a3 : Tg bt (10 + Ls.length + (j + 1)) a := a3
    refine ⟨els, gd, a1.fr f (hz a3 (by omega)), a2.fr f (hz a4 (by omega)), fun c hc => ?_, fun c hc => keep c 6 (a4 c hc) (by decide) (by omega) (by decide) (by decide) (by decide)⟩
    have := keep c _ (a3 c hc) (by omega) (by omega) (by omega) (by omega) (by omega)
    rw [this]
    simp only [List.length_append, List.length_singleton]
    omega
  · by_cases hi : i < Ls.length
    · rw [List.getElem?_append_left hi] at h1
      rw [List.getElem?_append_left (by have := h.lg; simp only at this; omega)] at h2
      obtain ⟨m, m', a0, a0', a1, a2, a3, a4⟩ := h.written i a e h1 h2
      exact ⟨m, m', a0, a0', a1.fr f (hz a3 (by omega)), a2.fr f (hz a4 (by omega)), fun c hc => keep c 6 (a3 c hc) (by decide) (by omega) (by decide) (by decide) (by decide), fun c hc => keep c 6 (a4 c hc) (by decide) (by omega) (by decide) (by decide) (by decide)⟩
    · have hl := (List.getElem?_eq_some_iff.1 h1).1
      simp at hl
      obtain rfl : i = Ls.length := by omega
      have hg := h.lg
      simp only at hg
      rw [List.getElem?_append_right (by omega)] at h1 h2
      rw [hg] at h2
      simp at h1 h2
      subst h1 h2
      exact ⟨n, n', hn, hn', xv, xg, fun c hc => by simp [wrTag, hc], fun c hc => by simp [wrTag, hc]⟩
  · unfold wrTag at hc
    have hs := f.size
    split at hc
    · rename_i h'
      rcases h' with h' | h'
      · have := vlt c h'; omega
      · rcases ig c h' with h' | h'
        · have := vlt c h'; omega
        · omega
    · split at hc
      · rename_i h'
        rcases (il c h').1 with h' | h'
        · have := h.bound c (by rw [h.lists.2 c h']; decide); omega
        · omega
      · split at hc
        · rename_i h'
          rcases (im c h').1 with h' | h'
          · have := h.bound c (by rw [h.grown.2 c h']; decide); omega
          · omega
        · split at hc
          · rename_i h'
            rcases (ik c h').1 with h' | h'
            · have := h.bound c (by rw [h.marks.2 c h']; decide); omega
            · omega
          · have := h.bound c hc; omega
  · unfold wrTag at hc
    split at hc
    · rename_i h'
      rcases h' with h' | h'
      · left; rw [tv c h']; omega
      · rcases ig c h' with h' | h'
        · left; rw [tv c h']; omega
        · right; exact h'
    · split at hc
      · rename_i h'
        rcases (il c h').1 with h' | h'
        · left; rw [h.lists.2 c h']; decide
        · right; exact h'
      · split at hc
        · rename_i h'
          rcases (im c h').1 with h' | h'
          · left; rw [h.grown.2 c h']; decide
          · right; exact h'
        · split at hc
          · rename_i h'
            rcases (ik c h').1 with h' | h'
            · left; rw [h.marks.2 c h']; decide
            · right; exact h'
          · left; exact hc
/-- The marks of blocks, where a list l was kept, with the copy t. -/
noncomputable def keTag (bt : Nat → Nat) (n : Nat) (l t ov wv : Value) (c : Nat) : Nat := by
  classical
  exact if inB l c then n else if inB t c then 6 else if inB ov c then 4 else if inB wv c then 5 else bt c
theorem BookM.kept {k : Nat} {mk : Nat → List Value} {good : List (List Value) → Prop} {w w' : World} {b : BV} {Ls Gs Os Ws : List Value} {l t : Value} {bt : Nat → Nat} (h : BookM k mk good w b ⟨Ls, Gs, Os, Ws⟩ bt)
    {ov wv : Value} {els : List (List Value)} {F : Nat → Prop} (f : Fr F w w') (hF : ∀ c, F c → bt c = 0 ∨ bt c = 4 ∨ bt c = 5) (gd : good els)
    (xl : SlW k w' l els) (xt : Sl k w' t els) (so : SlW 1 w' ov (elP1 (Os ++ [l]))) (sw : SlW 1 w' wv (elP1 (Ws ++ [t])))
    (il : ∀ c, inB l c → bt c = 0 ∧ c < w'.heap.size) (it : ∀ c, inB t c → (w.heap.size ≤ c ∧ c < w'.heap.size) ∧ ¬ inB l c)
    (io : ∀ c, inB ov c → (inB b.ov c ∨ (w.heap.size ≤ c ∧ c < w'.heap.size)) ∧ ¬ inB l c ∧ ¬ inB t c) (iw : ∀ c, inB wv c → (inB b.wv c ∨ (w.heap.size ≤ c ∧ c < w'.heap.size)) ∧ ¬ inB l c ∧ ¬ inB t c ∧ ¬ inB ov c) :
    BookM k mk good w' ⟨b.lv, b.gv, b.mv, ov, wv⟩ ⟨Ls, Gs, Os ++ [l], Ws ++ [t]⟩ (keTag bt (10 + Ls.length + Os.length) l t ov wv) ∧ (∀ c, keTag bt (10 + Ls.length + Os.length) l t ov wv c ≠ 0 → bt c ≠ 0 ∨ inB l c ∨ (w.heap.size ≤ c ∧ c < w'.heap.size)) := by
  have hz : ∀ {n : Nat} {v : Value}, Tg bt n v → n ≠ 0 ∧ n ≠ 4 ∧ n ≠ 5 → ∀ c, inB v c → ¬ F c := fun ht hn c hc hf => by
    have := ht c hc
    have := hF c hf
    omega
  have keep : ∀ c t', bt c = t' → t' ≠ 0 → t' ≠ 4 → t' ≠ 5 → keTag bt (10 + Ls.length + Os.length) l t ov wv c = t' := by
    intro c t' ht h0 h1 h2
    have hlt : c < w.heap.size := h.bound c (by omega)
    have a1 : ¬ inB l c := fun hc => by have := il c hc; omega
    have a2 : ¬ inB t c := fun hc => by have := it c hc; omega
    have a3 : ¬ inB ov c := fun hc => by
      rcases (io c hc).1 with h' | h'
      · have := h.opn.2 c h'; omega
      · omega
    have a4 : ¬ inB wv c := fun hc => by
      rcases (iw c hc).1 with h' | h'
      · have := h.was.2 c h'; omega
      · omega
    simp [keTag, a1, a2, a3, a4, ht]
  have hlw := h.lw
  simp only at hlw
  refine ⟨⟨⟨h.lists.1.fr f (hz h.lists.2 (by omega)), fun c hc => keep c 1 (h.lists.2 c hc) (by decide) (by decide) (by decide)⟩, ⟨h.grown.1.fr f (hz h.grown.2 (by omega)), fun c hc => keep c 2 (h.grown.2 c hc) (by decide) (by decide) (by decide)⟩,
    ⟨h.marks.1.fr f (hz h.marks.2 (by omega)), fun c hc => keep c 3 (h.marks.2 c hc) (by decide) (by decide) (by decide)⟩, ⟨so, fun c hc => ?_⟩, ⟨sw, fun c hc => ?_⟩, h.lg, by simp [hlw], fun j a e h1 h2 => ?_, fun i a e h1 h2 => ?_, fun c hc => ?_⟩, fun c hc => ?_⟩
  · simp [keTag, (io c hc).2.1, (io c hc).2.2, hc]
  · simp [keTag, (iw c hc).2.1, (iw c hc).2.2.1, (iw c hc).2.2.2, hc]
  · by_cases hj : j < Os.length
    · rw [List.getElem?_append_left hj] at h1
      rw [List.getElem?_append_left (by omega)] at h2
      obtain ⟨els, gd, a1, a2, a3, a4⟩ := h.opens j a e h1 h2
      exact ⟨els, gd, a1.fr f (hz a3 (by simp only; omega)), a2.fr f (hz a4 (by omega)), fun c hc => keep c _ (a3 c hc) (by simp only; omega) (by simp only; omega) (by simp only; omega), fun c hc => keep c 6 (a4 c hc) (by decide) (by decide) (by decide)⟩
    · have hl := (List.getElem?_eq_some_iff.1 h1).1
      simp at hl
      obtain rfl : j = Os.length := by omega
      rw [List.getElem?_append_right (by omega)] at h1 h2
      rw [hlw] at h2
      simp at h1 h2
      subst h1 h2
      refine ⟨els, gd, xl, xt, fun c hc => by simp [keTag, hc], fun c hc => ?_⟩
      simp [keTag, hc, (it c hc).2]
  · obtain ⟨n, n', a0, a0', a1, a2, a3, a4⟩ := h.written i a e h1 h2
    exact ⟨n, n', a0, a0', a1.fr f (hz a3 (by omega)), a2.fr f (hz a4 (by omega)), fun c hc => keep c 6 (a3 c hc) (by decide) (by decide) (by decide), fun c hc => keep c 6 (a4 c hc) (by decide) (by decide) (by decide)⟩
  · have hs := f.size
    unfold keTag at hc
    split at hc
    · rename_i h'; exact (il c h').2
    · split at hc
      · rename_i h'; exact (it c h').1.2
      · split at hc
        · rename_i h'
          rcases (io c h').1 with h' | h'
          · have := h.bound c (by rw [h.opn.2 c h']; decide); omega
          · omega
        · split at hc
          · rename_i h'
            rcases (iw c h').1 with h' | h'
            · have := h.bound c (by rw [h.was.2 c h']; decide); omega
            · omega
          · have := h.bound c hc; omega
  · unfold keTag at hc
    split at hc
    · rename_i h'; right; left; exact h'
    · split at hc
      · rename_i h'; right; right; exact (it c h').1
      · split at hc
        · rename_i h'
          rcases (io c h').1 with h' | h'
          · left; rw [h.opn.2 c h']; decide
          · right; right; exact h'
        · split at hc
          · rename_i h'
            rcases (iw c h').1 with h' | h'
            · left; rw [h.was.2 c h']; decide
            · right; right; exact h'
          · left; exact hc
/-- g has grown out of v: n elements, then m. -/
structure Grew (k : Nat) (mk : List Value) (wb w' : World) (v g : Value) (n m : Nat) : Prop where
  sg : SlW k w' g (List.replicate m mk)
  sv : Sl k w' v (List.replicate n mk)
  ig : ∀ c, inB g c → inB v c ∨ (wb.heap.size ≤ c ∧ c < w'.heap.size)
  fr : Fr (inB v) wb w'
  how : (∃ a c, v = .slice a n c ∧ g = .slice a m c) ∨ (∀ c, inB g c → wb.heap.size ≤ c)
theorem Grew.start {k : Nat} {mk : List Value} {wb : World} {v : Value} {n : Nat} (h : SlW k wb v (List.replicate n mk)) : Grew k mk wb wb v v n n := by
  refine ⟨h, h.1, fun _ h => .inl h, Fr.refl _ _, .inl ?_⟩
  obtain ⟨_, a, c, hv, _⟩ := h.1
  exact ⟨a, c, by rw [hv, List.length_replicate], by rw [hv, List.length_replicate]⟩
theorem Grew.step {k : Nat} {mk : List Value} {wb w' : World} {v g : Value} {n m e e' bytes : Nat} {zero : Array Value} {y : Value} {K : World → Value → World → Prop} (h : Grew k mk wb w' v g n m) (hv : ∀ c, inB v c → c < wb.heap.size) (hn : n ≤ m)
    (hy : y.cells = mk.toArray) (hl : mk.length = k) (ha : mk.all isCell = true) (hk : k ≠ 0) (hz : zero.size = k) (hb : bytes ≠ 0) (small : (m + 1 + (m + 1) / 4 + 192) * bytes ≤ 281474976710656)
    (q : ∀ r w'', Grew k mk wb w'' v r n (m + 1) → ∀ w1, Fr (fun _ => False) w' w1 → K w1 r w'') :
    Run (bslM e' 1 (Builtin.zeroCells zero 1) [(0, k, y)]) w' fun a w1 => Run (appM e k bytes zero g a) w1 fun r w'' => K w1 r w'' := by
  refine Run_app1G (k := k) (by rw [hy]; simpa using hl) h.sg hk hz hb (by rw [hy]; exact ha) (by simpa using small) fun r w'' s f hin hpl w1 f1 => q r w'' ?_ w1 f1
  have s : SlW k w'' r (List.replicate (m + 1) mk) := by rw [hy] at s; rw [List.replicate_succ']; exact s
  have e1 := h.fr.size
  have e2 := f.size
  have ig' : ∀ c, inB r c → inB v c ∨ (wb.heap.size ≤ c ∧ c < w''.heap.size) := fun c hc => by
    rcases hin c hc with h' | h'
    · rcases h.ig c h' with h'' | h''
      · exact .inl h''
      · exact .inr ⟨h''.1, by omega⟩
    · exact .inr (by omega)
  have fr' : Fr (inB v) wb w'' := h.fr.trans f fun c hc hg => by
    rcases h.ig c hg with h' | h'
    · exact h'
    · omega
  rcases hpl with ⟨a, c, hg, hr⟩ | ⟨f', hnew⟩
  · rw [List.length_replicate] at hg hr
    rcases h.how with ⟨a', c', hv', hg'⟩ | hw
    · rw [hg'] at hg
      cases hg
      refine ⟨s, ?_, ig', fr', .inl ⟨a, c, hv', hr⟩⟩
      have := s.1
      rw [hr] at this
      have := this.pre (n := n) (by omega)
      rw [hv']
      rw [List.take_replicate, Nat.min_eq_left (by omega)] at this
      exact this
    · refine ⟨s, h.sv.fr f fun c hc hg => by have := hw c hg; have := hv c hc; omega, ig', fr', .inr fun c hc => ?_⟩
      rcases hin c hc with h' | h'
      · exact hw c h'
      · omega
  · refine ⟨s, h.sv.fr f' fun _ _ => id, ig', fr', .inr fun c hc => ?_⟩
    have := hnew c hc
    omega
end Go.Proofs.YtpiceodfdjihhaaGreatDoor

/-
  The law's book (granarylaw15), letters: what is compared.
-/
namespace Go.Proofs.YtpiceodfdjihhaaGreatDoor
open Go.Lift
set_option linter.unusedSimpArgs false

def mkM (i : Nat) : List Value := [.int .i64 (5000000 + (i : Int)), .int .i64 0, .int .i64 0, .int .i64 0, .int .i64 0, .int .i64 0, .int .i64 0, .int .i64 0, .int .i64 0, .string ByteArray.empty, .string ByteArray.empty]
def mkMv (i : Nat) : Value := .agg (mkM i).toArray
/-- Its texts are texts. -/
def Ms.str (m : Ms) : Prop := ∃ s t, m.key = .string s ∧ m.value = .string t
def goodM (els : List (List Value)) : Prop := ∃ l : List Ms, l.length ≤ 64 ∧ (∀ m ∈ l, m.str) ∧ els = elM l
theorem letters_good {els : List (List Value)} (h : goodM els) : els.length ≤ 64 ∧ ∀ e ∈ els, e.length = 11 := by
  obtain ⟨l, h1, _, rfl⟩ := h
  refine ⟨by simpa using h1, fun e he => ?_⟩
  obtain ⟨m, _, rfl⟩ := List.mem_map.1 he
  rfl
theorem letters_cells {els : List (List Value)} (h : goodM els) : ∀ e ∈ els, e.all isCell = true := by
  obtain ⟨l, _, h2, rfl⟩ := h
  intro e he
  obtain ⟨m, hm, rfl⟩ := List.mem_map.1 he
  obtain ⟨s, t, h3, h4⟩ := h2 m hm
  simp [Ms.cells, h3, h4]
theorem mkM_len (i : Nat) : (mkM i).length = 11 := rfl
theorem mkM_cells (i : Nat) : (mkMv i).cells = (mkM i).toArray := rfl
theorem mkM_all (i : Nat) : (mkM i).all isCell = true := rfl

section
variable {w : World}
theorem Ms.ldA' {m : Ms} {w : World} {b : Nat} (h : bk w b = some m.cells) : Go.Lift.ldA 11 (.pointer (some ⟨b, 0, none⟩)) w = some m.val := by
  rw [ldA_bk h (by simp [Ms.cells])]; rfl
theorem sameMsg15_run {m : Ms} (hm : m.str) : Run (F.granarylaw15_sameMsg m.val m.val) w fun r w' => r = .bool true ∧ Fr (fun _ => False) w w' := by
  unfold F.granarylaw15_sameMsg
  obtain ⟨s, t, hk, hv⟩ := hm
  simp [Ms.val]
  refine Run_new fun a w1 ha _ f1 _ => ?_
  have ha : bk w1 a = some m.cells := ha
  refine Run_new fun b w2 hb _ f2 _ => ?_
  have hb : bk w2 b = some m.cells := hb
  have ha2 := f2.bk_some ha id
  simp [ha2, hb, Ms.cells, hk, hv, F.granarylaw15_num]
  exact (f1.trans f2 fun _ _ => id).drew
theorem letters_same {av bv : Value} {els : List (List Value)} (ha : Sl 11 w av els) (hb : Sl 11 w bv els) (gd : goodM els) :
    Run (F.granarylaw15_SameMsgs av bv) w fun r w' => r = .bool true ∧ Fr (fun _ => False) w w' := by
  unfold F.granarylaw15_SameMsgs
  obtain ⟨l, hl, hs, rfl⟩ := gd
  have hal := ha.lenL
  have hbl := hb.lenL
  simp only [elM_len] at hal hbl
  simp [hal, hbl]
  refine Run_for l.length (fun i s w' => s = [.int .i64 i] ∧ Fr (fun _ => False) w w') ⟨rfl, Fr.refl _ _⟩ ?_ ?_
  · rintro i s w1 hi ⟨rfl, f1⟩
    have ei : (elM l)[i]? = some l[i].cells := by simp [elM, List.getElem?_eq_getElem hi]
    have hm := hs l[i] (List.getElem_mem hi)
    generalize l[i] = m at ei hm
    obtain ⟨p, p1, p2⟩ := (ha.fr0 f1).rdA (by decide) ei .i64
    obtain ⟨q, q1, q2⟩ := (hb.fr0 f1).rdA (by decide) ei .i64
    have wi := wrap_succ (n := i) (by omega)
    have hi' : (i : Int) < l.length := by omega
    have d1 : Fr (fun _ => False) w1 w1.drew := (Fr.refl _ _).drew
    simp [-ldA_ptr, hal, hi, hi', p1, p2, q1, q2]
    refine (sameMsg15_run hm).mono ?_
    rintro _ w2 ⟨rfl, f2⟩
    simp [wi]
    exact f1.trans (d1.trans f2 fun _ _ => id) fun _ _ => id
  · rintro s w1 ⟨rfl, f1⟩
    simp [hal]
    exact f1
theorem letters_marked {v : Value} {n i : Nat} (h : Sl 11 w v (List.replicate n (mkM i))) (hn : n ≤ 1048576) :
    Run (F.granarylaw15_stamped v (.int .i64 (5000000 + (i : Int)))) w fun r w' => r = .bool true ∧ Fr (fun _ => False) w w' := by
  unfold F.granarylaw15_stamped
  have hl := h.lenL
  simp only [List.length_replicate] at hl
  simp [hl]
  let m : Ms := ⟨5000000 + (i : Int), 0, 0, 0, 0, 0, 0, 0, 0, .string ByteArray.empty, .string ByteArray.empty⟩
  have hmv : m.val = .agg (mkM i).toArray := rfl
  have hbv : buildV #[Value.int IntKind.i64 0, Value.int IntKind.i64 0, Value.int IntKind.i64 0, Value.int IntKind.i64 0, Value.int IntKind.i64 0, Value.int IntKind.i64 0, Value.int IntKind.i64 0, Value.int IntKind.i64 0, Value.int IntKind.i64 0, Value.string ByteArray.empty, Value.string ByteArray.empty] [(0, 1, Value.int IntKind.i64 (5000000 + (i : Int)))] = some m.val := by simp [buildV, fillV_cell, m, Ms.val, Ms.cells]
  refine Run_for n (fun j s w' => s = [.int .i64 j] ∧ Fr (fun _ => False) w w') ⟨rfl, Fr.refl _ _⟩ ?_ ?_
  · rintro j s w1 hj ⟨rfl, f1⟩
    have ei : (List.replicate n (mkM i))[j]? = some (mkM i) := by simp [List.getElem?_replicate, hj]
    obtain ⟨p, p1, p2⟩ := (h.fr0 f1).rdA (by decide) ei .i64
    have wj := wrap_succ (n := j) (by omega)
    rw [← hmv] at p2
    simp [-ldA_ptr, hl, hj, p1, p2, hbv]
    refine (sameMsg15_run (m := m) ⟨_, _, rfl, rfl⟩).mono ?_
    rintro _ w2 ⟨rfl, f2⟩
    simp [wj]
    exact f1.trans f2 fun _ _ => id
  · rintro s w1 ⟨rfl, f1⟩
    simp [hl]
    exact f1
end
end Go.Proofs.YtpiceodfdjihhaaGreatDoor

/-
  The law's book (granarylaw15), Letters: the walk.
-/
namespace Go.Proofs.YtpiceodfdjihhaaGreatDoor
open Go.Lift
set_option linter.unusedSimpArgs false

section
variable {w : World} {D o : Nat} {L : List Value} {b : BV} {Ls Gs Os Ws : List Value} {v u : Value} {bt : Nat → Nat}
set_option maxHeartbeats 1000000 in
theorem letters_write_run (hD : bk w D = some (putB L o b)) (hw : wr w D = true) (ho : o + 5 ≤ L.length) (h : BookM 11 mkM goodM w b ⟨Ls, Gs, v :: Os, u :: Ws⟩ bt) (hb0 : bt D = 0) (hn : Ls.length ≤ 1099511627776) :
    Run (F.granarylaw15_Letters_write (.pointer (some ⟨D, o, none⟩))) w fun _ w' => ∃ b' g bt', bk w' D = some (putB L o b') ∧ wr w' D = true ∧ BookM 11 mkM goodM w' b' ⟨Ls ++ [v], Gs ++ [g], Os, Ws⟩ bt' ∧ bt' D = 0 ∧ Fr (fun c => c = D ∨ bt c ≠ 0) w w' ∧ ∀ c, bt' c ≠ 0 → bt c ≠ 0 ∨ w.heap.size ≤ c := by
  unfold F.granarylaw15_Letters_write
  obtain ⟨g0, g1, g2, g3, g4⟩ := putB_gets ho b
  have hDl := bk_lt hD
  have hlen : (putB L o b).length = L.length := putB_len ho
  obtain ⟨q, q1, q2⟩ := h.opn.1.1.rd1 (i := 0) (y := v) rfl .i64
  have q1 : idxA 1 b.ov (.int .i64 0) = some q := by simpa using q1
  obtain ⟨ov, o1, o2, o3⟩ := h.opn.1.drop (n := 1) (by simp) .i64
  have o1 : sliceV 1 b.ov (some (.int .i64 1)) none = some ov := by simpa using o1
  have o2 : SlW 1 w ov (elP1 Os) := o2
  obtain ⟨wv, p1, p2, p3⟩ := h.was.1.drop (n := 1) (by simp) .i64
  have p1 : sliceV 1 b.wv (some (.int .i64 1)) none = some wv := by simpa using p1
  have p2 : SlW 1 w wv (elP1 Ws) := p2
  have hml := h.marks.1.1.lenL
  simp only [elI_len, marksN_len] at hml
  have wm : IntKind.i64.wrap (5000000 + (Ls.length : Int)) = 5000000 + (Ls.length : Int) := wrap_small (by omega) (by omega)
  have ovc := o2.1.isCell
  have wvc := p2.1.isCell
  have l4 : o + 3 + 1 ≤ (putB L o b).length := by omega
  have l5 : o + 4 + 1 ≤ (putB L o b).length := by omega
  obtain ⟨els, gd, sv, su, tv, tu⟩ := h.opens 0 v u rfl rfl
  have tv : Tg bt (10 + Ls.length) v := tv
  obtain ⟨hels, hec⟩ := letters_good gd
  have hvl := sv.1.lenL
  have s1 : (putB L o b).set (o + 3) ov = putB L o { b with ov := ov } := putB_set ho (j := 3) (by omega) rfl
  have s2 : (putB L o { b with ov := ov }).set (o + 4) wv = putB L o { b with ov := ov, wv := wv } := putB_set ho (j := 4) (by omega) rfl
  have hDa : bk (sto (sto w D (o + 3) [ov]) D (o + 4) [wv]) D = some (putB L o { b with ov := ov, wv := wv }) := by simp [hD, s1, s2]
  have hwa : wr (sto (sto w D (o + 3) [ov]) D (o + 4) [wv]) D = true := by simp [hw]
  have fa : Fr (fun c => c = D) w (sto (sto w D (o + 3) [ov]) D (o + 4) [wv]) := ((Fr.refl (fun c => c = D) w).sto (.inl rfl) _ _).sto (.inl rfl) _ _
  obtain ⟨g0', g1', g2', g3', g4'⟩ := putB_gets ho { b with ov := ov }
  obtain ⟨k0, k1, k2, k3, k4⟩ := putB_gets ho { b with ov := ov, wv := wv }
  have l5' : o + 4 + 1 ≤ (putB L o { b with ov := ov }).length := by rw [putB_len ho]; omega
  simp [hD, g3, q1, q2, o1, hw, cells_isCell ovc, ovc, l4, s1, g4', p1, cells_isCell wvc, wvc, l5', s2, k2, hml, wm]
  generalize sto (sto w D (o + 3) [ov]) D (o + 4) [wv] = wa at *
  have hbv : buildV #[Value.int IntKind.i64 0, Value.int IntKind.i64 0, Value.int IntKind.i64 0, Value.int IntKind.i64 0, Value.int IntKind.i64 0, Value.int IntKind.i64 0, Value.int IntKind.i64 0, Value.int IntKind.i64 0, Value.int IntKind.i64 0, Value.string ByteArray.empty, Value.string ByteArray.empty] [(0, 1, Value.int IntKind.i64 (5000000 + ↑Ls.length))] = some (mkMv Ls.length) := by simp [buildV, fillV_cell, mkMv, mkM]
  generalize hN : Ls.length = N at *
  have vnD : ∀ c, inB v c → c ≠ D := fun c hc he => by have := tv c hc; rw [he, hb0] at this; omega
  have vlt : ∀ c, inB v c → c < w.heap.size := fun c hc => h.bound c (by have := tv c hc; omega)
  have sva := sv.fr fa vnD
  have la := fa.size
  have mlen := mkM_len N
  refine Run_for els.length (fun i l w1 => l = [.int .i64 i] ∧ Fr (inB v) wa w1 ∧ SlW 11 w1 v (List.replicate i (mkM N) ++ els.drop i)) ⟨rfl, Fr.refl _ _, by simpa using sva⟩ ?_ ?_
  · rintro i _ w1 hi ⟨rfl, f1, s1⟩
    have wi := wrap_succ (n := i) (by omega)
    have ei : (List.replicate i (mkM N) ++ els.drop i)[i]? = some els[i] := by
      rw [List.getElem?_append_right (by simp)]; simp [List.getElem?_eq_getElem hi]
    obtain ⟨q, o1, c1, c2, c3, c4, c5⟩ := s1.put ei .i64
    obtain ⟨c6, c7⟩ := c5 0 (mkM N) (by rw [mlen]; omega)
    have eset : (List.replicate i (mkM N) ++ els.drop i).set i (setL els[i] 0 (mkM N)) = List.replicate (i + 1) (mkM N) ++ els.drop (i + 1) := by
      rw [setL_all _ _ (by rw [mlen]; exact hec _ (List.getElem_mem hi)), List.set_append_right _ _ (by simp), List.length_replicate, Nat.sub_self, List.drop_eq_getElem_cons hi, List.set_cons_zero, List.replicate_succ', List.append_assoc]
      rfl
    rw [eset] at c7
    have c4' : okAt w1 q o1 11 := c4
    simp [hvl, hi, c1, wi, hbv, mkM_cells, mkM_len, mkM_all]
    exact ⟨c4'.1, c4'.2, f1.sto (.inl c2) _ _, c7⟩
  rintro _ wb ⟨rfl, fb, sb⟩
  rw [List.drop_of_length_le (Nat.le_refl _), List.append_nil] at sb
  simp [hvl, hbv, mkM_cells, mkM_len, mkM_all]
  have lb := fb.size
  have vltb : ∀ c, inB v c → c < wb.heap.size := fun c hc => by have := vlt c hc; omega
  refine (Grew.start sb).step vltb (Nat.le_refl _) (mkM_cells N) (mkM_len N) (mkM_all N) (by decide) rfl (by decide) (by omega) fun g w1 hg1 _ _ => ?_
  refine Run_for 64 (fun i l w2 => ∃ g, l = [g, .int .i64 i] ∧ Grew 11 (mkM N) wb w2 v g els.length (els.length + 1 + i)) ⟨g, rfl, hg1⟩ ?_ ?_
  · rintro i _ w2 hi ⟨g, rfl, hg2⟩
    have wi := wrap_succ (n := i) (by omega)
    have hi' : (i : Int) < 64 := by omega
    simp [hi', hbv, mkM_cells, mkM_len, mkM_all]
    refine hg2.step vltb (by omega) (mkM_cells N) (mkM_len N) (mkM_all N) (by decide) rfl (by decide) (by omega) fun g' w3 hg3 _ _ => ?_
    simp [wi]
    exact hg3
  rintro _ wc ⟨g, rfl, hg⟩
  have fwc : Fr (fun c => c = D ∨ inB v c) w wc := ((fa.mono fun _ h => .inl h).trans (fb.mono fun _ h => .inr h) fun _ _ h => h).trans (hg.fr.mono fun _ h => .inr h) fun _ _ h => h
  have hDv : ¬ inB v D := fun hc => vnD D hc rfl
  have fac : Fr (inB v) wa wc := fb.trans hg.fr fun _ _ h => h
  have hDc := fac.bk_some hDa hDv
  have hwc : wr wc D = true := by rw [fac.wr (bk_lt hDa) hDv]; exact hwa
  have lc := fac.size
  have notv : ∀ {t : Nat} {a : Value}, Tg bt t a → 0 < t → t < 10 → ∀ c, inB a c → ¬ (c = D ∨ inB v c) := fun ht h0 hlt c hc h' => by
    have := ht c hc
    rcases h' with h' | h'
    · rw [h', hb0] at this
      omega
    · have := tv c h'; omega
  have nz : ∀ {t : Nat} {a : Value}, Tg bt t a → 0 < t → ∀ c, inB a c → c < w.heap.size := fun ht hlt c hc => h.bound c (by have := ht c hc; omega)
  have nD : ∀ {t : Nat} {a : Value}, Tg bt t a → 0 < t → ∀ c, inB a c → c ≠ D := fun ht hlt c hc he => by have := ht c hc; rw [he, hb0] at this; omega
  have vc := sv.1.isCell
  have gc := hg.sg.1.isCell
  -- the lists
  simp [hDc, k0]
  have sl := h.lists.1.fr fwc (notv h.lists.2 (by omega) (by omega))
  refine Run_app1 (k := 1) (y := v) (by rw [cells_isCell vc]; rfl) sl (by decide) rfl (by decide) (by rw [cells_isCell vc]; simp [vc]) (by simp; omega) fun lv w1 s1l f1 hin1 _ _ => ?_
  have s1l : SlW 1 w1 lv (elP1 (Ls ++ [v])) := by rw [cells_isCell vc] at s1l; simpa [elP1] using s1l
  have lvc := s1l.1.isCell
  have e1 := f1.size
  have hD1n : ¬ inB b.lv D := fun hc => nD h.lists.2 (by omega) D hc rfl
  have hD1 := f1.bk_some hDc hD1n
  have hw1 : wr w1 D = true := by rw [f1.wr (bk_lt hDc) hD1n]; exact hwc
  have u1 : (putB L o { b with ov := ov, wv := wv }).set o lv = putB L o { b with ov := ov, wv := wv, lv := lv } := putB_set ho (j := 0) (by omega) rfl
  obtain ⟨_, m1, _, _, _⟩ := putB_gets ho { b with ov := ov, wv := wv, lv := lv }
  have l1 : o + 1 ≤ (putB L o { b with ov := ov, wv := wv }).length := by rw [putB_len ho]; omega
  have hD1' : bk (sto w1 D o [lv]) D = some (putB L o { b with ov := ov, wv := wv, lv := lv }) := by simp [hD1, u1]
  have hw1' : wr (sto w1 D o [lv]) D = true := by simp [hw1]
  have g1' : Fr (fun c => c = D) w1 (sto w1 D o [lv]) := (Fr.refl (fun c => c = D) w1).sto (.inl rfl) _ _
  have i1 : ∀ c, inB lv c → (inB b.lv c ∨ (wc.heap.size ≤ c ∧ c < w1.heap.size)) := hin1
  have n1D : ∀ c, inB lv c → c ≠ D := fun c hc he => by
    rcases i1 c hc with h' | h'
    · exact nD h.lists.2 (by omega) c h' he
    · omega
  simp [hD1, hw1, cells_isCell lvc, lvc, u1, m1, l1]
  have f1' : Fr (fun c => c = D ∨ inB b.lv c) wc (sto w1 D o [lv]) := (f1.mono fun _ h => .inr h).trans (g1'.mono fun _ h => .inl h) fun _ _ h => h
  have s1l' := s1l.fr g1' n1D
  have e1' := g1'.size
  generalize sto w1 D o [lv] = w1' at *
  -- what they grew to
  have gdis : ∀ {t : Nat} {a : Value}, Tg bt t a → 0 < t → t < 10 → ∀ c, inB a c → ¬ inB g c := fun ht h0 hlt c hc hg' => by
    rcases hg.ig c hg' with h' | h'
    · exact notv ht h0 hlt c hc (.inr h')
    · have := nz ht h0 c hc; have := h'.1; omega
  have sgr := (h.grown.1.fr fwc (notv h.grown.2 (by omega) (by omega))).fr f1' fun c hc h' => by
    rcases h' with h' | h'
    · exact nD h.grown.2 (by omega) c hc h'
    · have := h.grown.2 c hc; have := h.lists.2 c h'; omega
  refine Run_app1 (k := 1) (y := g) (by rw [cells_isCell gc]; rfl) sgr (by decide) rfl (by decide) (by rw [cells_isCell gc]; simp [gc]) (by have := h.lg; simp at this; simp; omega) fun gv w2 s2g f2 hin2 _ _ => ?_
  have s2g : SlW 1 w2 gv (elP1 (Gs ++ [g])) := by rw [cells_isCell gc] at s2g; simpa [elP1] using s2g
  have gvc := s2g.1.isCell
  have e2 := f2.size
  have hD2n : ¬ inB b.gv D := fun hc => nD h.grown.2 (by omega) D hc rfl
  have hD2 := f2.bk_some hD1' hD2n
  have hw2 : wr w2 D = true := by rw [f2.wr (bk_lt hD1') hD2n]; exact hw1'
  have u2 : (putB L o { b with ov := ov, wv := wv, lv := lv }).set (o + 1) gv = putB L o { b with ov := ov, wv := wv, lv := lv, gv := gv } := putB_set ho (j := 1) (by omega) rfl
  obtain ⟨_, _, m2, _, _⟩ := putB_gets ho { b with ov := ov, wv := wv, lv := lv, gv := gv }
  have l2 : o + 1 + 1 ≤ (putB L o { b with ov := ov, wv := wv, lv := lv }).length := by rw [putB_len ho]; omega
  have hD2' : bk (sto w2 D (o + 1) [gv]) D = some (putB L o { b with ov := ov, wv := wv, lv := lv, gv := gv }) := by simp [hD2, u2]
  have hw2' : wr (sto w2 D (o + 1) [gv]) D = true := by simp [hw2]
  have g2' : Fr (fun c => c = D) w2 (sto w2 D (o + 1) [gv]) := (Fr.refl (fun c => c = D) w2).sto (.inl rfl) _ _
  have i2 : ∀ c, inB gv c → (inB b.gv c ∨ (w1'.heap.size ≤ c ∧ c < w2.heap.size)) := hin2
  have n2D : ∀ c, inB gv c → c ≠ D := fun c hc he => by
    rcases i2 c hc with h' | h'
    · exact nD h.grown.2 (by omega) c h' he
    · omega
  simp [hD2, hw2, cells_isCell gvc, gvc, u2, m2, l2]
  have f2' : Fr (fun c => c = D ∨ inB b.gv c) w1' (sto w2 D (o + 1) [gv]) := (f2.mono fun _ h => .inr h).trans (g2'.mono fun _ h => .inl h) fun _ _ h => h
  have s2g' := s2g.fr g2' n2D
  have lg1 : ∀ c, inB lv c → ¬ inB b.gv c := fun c hc h' => by
    rcases i1 c hc with h'' | h''
    · have := h.lists.2 c h''; have := h.grown.2 c h'; omega
    · have := nz h.grown.2 (by omega) c h'; omega
  have s1l'' := s1l'.fr f2' fun c hc h' => by
    rcases h' with h' | h'
    · exact n1D c hc h'
    · exact lg1 c hc h'
  have e2' := g2'.size
  generalize sto w2 D (o + 1) [gv] = w2' at *
  -- the marks
  have smk := ((h.marks.1.fr fwc (notv h.marks.2 (by omega) (by omega))).fr f1' fun c hc h' => by
    rcases h' with h' | h'
    · exact nD h.marks.2 (by omega) c hc h'
    · have := h.marks.2 c hc; have := h.lists.2 c h'; omega).fr f2' fun c hc h' => by
    rcases h' with h' | h'
    · exact nD h.marks.2 (by omega) c hc h'
    · have := h.marks.2 c hc; have := h.grown.2 c h'; omega
  refine Run_app1 (k := 1) (y := .int .i64 (5000000 + (N : Int))) rfl smk (by decide) rfl (by decide) rfl (by simp [hN]; omega) fun mv w3 s3m f3 hin3 _ _ => ?_
  have s3m : SlW 1 w3 mv (elI (marksN (N + 1))) := by
    rw [marksN_succ, elI_app, ← hN]; simpa [elI, hN] using s3m
  have mvc := s3m.1.isCell
  have e3 := f3.size
  have hD3n : ¬ inB b.mv D := fun hc => nD h.marks.2 (by omega) D hc rfl
  have hD3 := f3.bk_some hD2' hD3n
  have hw3 : wr w3 D = true := by rw [f3.wr (bk_lt hD2') hD3n]; exact hw2'
  have u3 : (putB L o { b with ov := ov, wv := wv, lv := lv, gv := gv }).set (o + 2) mv = putB L o ⟨lv, gv, mv, ov, wv⟩ := putB_set ho (j := 2) (by omega) rfl
  have l3 : o + 2 + 1 ≤ (putB L o { b with ov := ov, wv := wv, lv := lv, gv := gv }).length := by rw [putB_len ho]; omega
  simp [hD3, hw3, cells_isCell mvc, mvc, u3, l3]
  have f3' : Fr (fun c => c = D ∨ inB b.mv c) w2' (sto w3 D (o + 2) [mv]) := (f3.mono fun _ h => .inr h).trans (((Fr.refl (fun c => c = D) w3).sto (.inl rfl) _ _).mono fun _ h => .inl h) fun _ _ h => h
  have g3' : Fr (fun c => c = D) w3 (sto w3 D (o + 2) [mv]) := (Fr.refl (fun c => c = D) w3).sto (.inl rfl) _ _
  have e3' := g3'.size
  have i3 : ∀ c, inB mv c → (inB b.mv c ∨ (w2'.heap.size ≤ c ∧ c < w3.heap.size)) := hin3
  have n3D : ∀ c, inB mv c → c ≠ D := fun c hc he => by
    rcases i3 c hc with h' | h'
    · exact nD h.marks.2 (by omega) c h' he
    · omega
  have s3m' := s3m.fr g3' n3D
  have old3 : ∀ {t : Nat} {a : Value}, Tg bt t a → 0 < t → t < 10 → ∀ c, inB a c → t ≠ 3 → ¬ (c = D ∨ inB b.mv c) := fun ht h0 hlt c hc hne h' => by
    rcases h' with h' | h'
    · exact nD ht h0 c hc h'
    · have := ht c hc; have := h.marks.2 c h'; omega
  have l3m : ∀ c, inB lv c → ¬ (c = D ∨ inB b.mv c) := fun c hc h' => by
    rcases i1 c hc with h'' | h''
    · exact old3 h.lists.2 (by omega) (by omega) c h'' (by decide) h'
    · rcases h' with h' | h'
      · exact n1D c hc h'
      · have := nz h.marks.2 (by omega) c h'; omega
  have g3m : ∀ c, inB gv c → ¬ (c = D ∨ inB b.mv c) := fun c hc h' => by
    rcases i2 c hc with h'' | h''
    · exact old3 h.grown.2 (by omega) (by omega) c h'' (by decide) h'
    · rcases h' with h' | h'
      · exact n2D c hc h'
      · have := nz h.marks.2 (by omega) c h'; omega
  have S1 := s1l''.fr f3' l3m
  have S2 := s2g'.fr f3' g3m
  -- v and g lie untouched
  have hvv : ∀ c, inB g c ∨ inB v c → ¬ (c = D ∨ inB b.lv c) ∧ ¬ (c = D ∨ inB b.gv c) ∧ ¬ (c = D ∨ inB b.mv c) := fun c hc => by
    have hnc : c ≠ D ∧ ∀ {t : Nat} {a : Value}, Tg bt t a → 0 < t → t < 10 → ¬ inB a c := by
      rcases hc with hc | hc
      · refine ⟨fun he => ?_, fun ht h0 hlt h' => gdis ht h0 hlt c h' hc⟩
        rcases hg.ig c hc with h' | h'
        · exact vnD c h' he
        · omega
      · exact ⟨vnD c hc, fun ht h0 hlt h' => notv ht h0 hlt c h' (.inr hc)⟩
    refine ⟨fun h' => ?_, fun h' => ?_, fun h' => ?_⟩
    · exact h'.elim hnc.1 (hnc.2 h.lists.2 (by omega) (by omega))
    · exact h'.elim hnc.1 (hnc.2 h.grown.2 (by omega) (by omega))
    · exact h'.elim hnc.1 (hnc.2 h.marks.2 (by omega) (by omega))
  have V1 := ((hg.sv.fr f1' fun c hc => (hvv c (.inr hc)).1).fr f2' fun c hc => (hvv c (.inr hc)).2.1).fr f3' fun c hc => (hvv c (.inr hc)).2.2
  have V2 := ((hg.sg.1.fr f1' fun c hc => (hvv c (.inl hc)).1).fr f2' fun c hc => (hvv c (.inl hc)).2.1).fr f3' fun c hc => (hvv c (.inl hc)).2.2
  have fall : Fr (fun c => c = D ∨ inB v c ∨ inB b.lv c ∨ inB b.gv c ∨ inB b.mv c) w (sto w3 D (o + 2) [mv]) :=
    (((fwc.mono fun c h' => h'.imp id fun h' => .inl h').trans (f1'.mono fun c h' => h'.imp id fun h' => .inr (.inl h')) fun _ _ h => h).trans (f2'.mono fun c h' => h'.imp id fun h' => .inr (.inr (.inl h'))) fun _ _ h => h).trans (f3'.mono fun c h' => h'.imp id fun h' => .inr (.inr (.inr h'))) fun _ _ h => h
  generalize sto w3 D (o + 2) [mv] = w4 at *
  have gl : ∀ c, inB lv c → ¬ inB g c := fun c hc hg' => by
    rcases i1 c hc with h' | h'
    · exact gdis h.lists.2 (by omega) (by omega) c h' hg'
    · rcases hg.ig c hg' with h'' | h''
      · have := vlt c h''; omega
      · omega
  have gg : ∀ c, inB gv c → ¬ inB g c ∧ ¬ inB lv c := fun c hc => by
    rcases i2 c hc with h' | h'
    · exact ⟨gdis h.grown.2 (by omega) (by omega) c h', fun hl => lg1 c hl h'⟩
    · refine ⟨fun hg' => ?_, fun hl => ?_⟩
      · rcases hg.ig c hg' with h'' | h''
        · have := vlt c h''; omega
        · omega
      · rcases i1 c hl with h'' | h''
        · have := nz h.lists.2 (by omega) c h''; omega
        · omega
  have gm : ∀ c, inB mv c → ¬ inB g c ∧ ¬ inB lv c ∧ ¬ inB gv c := fun c hc => by
    rcases i3 c hc with h' | h'
    · exact ⟨gdis h.marks.2 (by omega) (by omega) c h', fun hl => l3m c hl (.inr h'), fun hl => g3m c hl (.inr h')⟩
    · refine ⟨fun hg' => ?_, fun hl => ?_, fun hl => ?_⟩
      · rcases hg.ig c hg' with h'' | h''
        · have := vlt c h''; omega
        · omega
      · rcases i1 c hl with h'' | h''
        · have := nz h.lists.2 (by omega) c h''; omega
        · omega
      · rcases i2 c hl with h'' | h''
        · have := nz h.grown.2 (by omega) c h''; omega
        · omega
  have hdone := h.wrote (g := g) (lv := lv) (gv := gv) (mv := mv) (ov := ov) (wv := wv) fall (fun c h' => by
      rcases h' with h' | h' | h' | h' | h'
      · left; rw [h']; exact hb0
      · right; left; rw [hN]; exact tv c h'
      · right; right; left; exact h.lists.2 c h'
      · right; right; right; left; exact h.grown.2 c h'
      · right; right; right; right; exact h.marks.2 c h') S1 S2 (by rw [hN]; exact s3m') o2 o3 p2 p3 (n := els.length) (n' := els.length + 1 + 64) (by omega) (by omega) (by rw [hN]; exact V1) (by rw [hN]; exact V2)
      (fun c hc => (hg.ig c hc).imp id fun h' => ⟨by omega, by omega⟩) (fun c hc => ⟨(i1 c hc).imp id fun h' => ⟨by omega, by omega⟩, gl c hc⟩)
      (fun c hc => ⟨(i2 c hc).imp id fun h' => ⟨by omega, by omega⟩, gg c hc⟩) (fun c hc => ⟨(i3 c hc).imp id fun h' => ⟨by omega, by omega⟩, gm c hc⟩)
  refine ⟨_, rfl, g, _, hdone.1, ?_, fall.mono fun c h' => ?_, fun c hc => (hdone.2 c hc).imp id fun h' => h'.1⟩
  · have a1 : ¬ inB g D := fun h' => by
      rcases hg.ig D h' with h'' | h''
      · exact hDv h''
      · omega
    have a2 : ¬ inB lv D := fun h' => n1D D h' rfl
    have a3 : ¬ inB gv D := fun h' => n2D D h' rfl
    have a4 : ¬ inB mv D := fun h' => n3D D h' rfl
    simp [wrTag, hDv, a1, a2, a3, a4, hb0]
  · rcases h' with h' | h' | h' | h' | h'
    · exact .inl h'
    · right; have := tv c h'; omega
    · right; rw [h.lists.2 c h']; decide
    · right; rw [h.grown.2 c h']; decide
    · right; rw [h.marks.2 c h']; decide
set_option maxHeartbeats 1000000 in
theorem letters_keep_run (hD : bk w D = some (putB L o b)) (hw : wr w D = true) (ho : o + 5 ≤ L.length) (h : BookM 11 mkM goodM w b ⟨Ls, Gs, Os, Ws⟩ bt) (hb0 : bt D = 0) (hn : Ls.length + Os.length ≤ 1099511627776) (hm : Os.length ≤ 4)
    {l : Value} {els : List (List Value)} (gd : goodM els) (sl : SlW 11 w l els) (tl : ∀ c, inB l c → bt c = 0 ∧ c ≠ D ∧ c < w.heap.size) :
    Run (F.granarylaw15_Letters_Keep (.pointer (some ⟨D, o, none⟩)) l) w fun _ w' => ∃ b' s' bt', bk w' D = some (putB L o b') ∧ wr w' D = true ∧ BookM 11 mkM goodM w' b' s' bt' ∧ s'.Ls.length + s'.Os.length = Ls.length + Os.length + 1 ∧ s'.Os.length ≤ 4 ∧ bt' D = 0 ∧
      Fr (fun c => c = D ∨ bt c ≠ 0 ∨ inB l c) w w' ∧ ∀ c, bt' c ≠ 0 → bt c ≠ 0 ∨ inB l c ∨ w.heap.size ≤ c := by
  unfold F.granarylaw15_Letters_Keep
  obtain ⟨g0, g1, g2, g3, g4⟩ := putB_gets ho b
  have hDl := bk_lt hD
  obtain ⟨hels, hec⟩ := letters_good gd
  have lc := sl.1.isCell
  have nz : ∀ {t : Nat} {a : Value}, Tg bt t a → 0 < t → ∀ c, inB a c → c < w.heap.size := fun ht hlt c hc => h.bound c (by have := ht c hc; omega)
  have nD : ∀ {t : Nat} {a : Value}, Tg bt t a → 0 < t → ∀ c, inB a c → c ≠ D := fun ht hlt c hc he => by have := ht c hc; rw [he, hb0] at this; omega
  simp [hD, g3]
  refine Run_app1 (k := 1) (y := l) (by rw [cells_isCell lc]; rfl) h.opn.1 (by decide) rfl (by decide) (by rw [cells_isCell lc]; simp [lc]) (by simp; omega) fun ov w1 s1 f1 hin1 _ _ => ?_
  have s1 : SlW 1 w1 ov (elP1 (Os ++ [l])) := by rw [cells_isCell lc] at s1; simpa [elP1] using s1
  have ovc := s1.1.isCell
  have e1 := f1.size
  have hD1n : ¬ inB b.ov D := fun hc => nD h.opn.2 (by omega) D hc rfl
  have hD1 := f1.bk_some hD hD1n
  have hw1 : wr w1 D = true := by rw [f1.wr hDl hD1n]; exact hw
  have u1 : (putB L o b).set (o + 3) ov = putB L o { b with ov := ov } := putB_set ho (j := 3) (by omega) rfl
  obtain ⟨_, _, _, m3, m4⟩ := putB_gets ho { b with ov := ov }
  have l1 : o + 3 + 1 ≤ (putB L o b).length := by rw [putB_len ho]; omega
  have hD1' : bk (sto w1 D (o + 3) [ov]) D = some (putB L o { b with ov := ov }) := by simp [hD1, u1]
  have hw1' : wr (sto w1 D (o + 3) [ov]) D = true := by simp [hw1]
  have g1' : Fr (fun c => c = D) w1 (sto w1 D (o + 3) [ov]) := (Fr.refl (fun c => c = D) w1).sto (.inl rfl) _ _
  have i1 : ∀ c, inB ov c → (inB b.ov c ∨ (w.heap.size ≤ c ∧ c < w1.heap.size)) := hin1
  have n1D : ∀ c, inB ov c → c ≠ D := fun c hc he => by
    rcases i1 c hc with h' | h'
    · exact nD h.opn.2 (by omega) c h' he
    · omega
  simp [hD1, hw1, cells_isCell ovc, ovc, u1, m4, l1]
  have f1' : Fr (fun c => c = D ∨ inB b.ov c) w (sto w1 D (o + 3) [ov]) := (f1.mono fun _ h => .inr h).trans (g1'.mono fun _ h => .inl h) fun _ _ h => h
  have s1' := s1.fr g1' n1D
  have e1' := g1'.size
  generalize sto w1 D (o + 3) [ov] = w1' at *
  have dr : Fr (fun _ => False) w1' w1'.drew := (Fr.refl _ _).drew
  have lk : ∀ c, inB l c → ¬ (c = D ∨ inB b.ov c) := fun c hc h' => by
    rcases h' with h' | h'
    · exact (tl c hc).2.1 h'
    · have := h.opn.2 c h'; have := (tl c hc).1; omega
  have sl1 := sl.fr f1' lk
  refine Run_appM (k := 11) (SlW.nil 11 _) (sl1.1.fr dr fun _ _ => id) (by decide) rfl (by decide) (letters_cells gd) (by simp; omega) fun t w2 s2 f2 hin2 => ?_
  simp only [List.nil_append] at s2
  have tc := s2.1.isCell
  have f2 : Fr (fun _ => False) w1' w2 := dr.trans (f2.mono fun _ h => h) fun _ _ => id
  have i2 : ∀ c, inB t c → w1'.heap.size ≤ c ∧ c < w2.heap.size := fun c hc => (hin2 c hc).resolve_left id
  have e2 := f2.size
  have hD2 := f2.bk_some hD1' id
  have hw2 : wr w2 D = true := by rw [f2.wr (bk_lt hD1') id]; exact hw1'
  have swv := (h.was.1.fr f1' fun c hc h' => by
    rcases h' with h' | h'
    · exact nD h.was.2 (by omega) c hc h'
    · have := h.was.2 c hc; have := h.opn.2 c h'; omega).fr f2 fun _ _ => id
  refine Run_app1 (k := 1) (y := t) (by rw [cells_isCell tc]; rfl) swv (by decide) rfl (by decide) (by rw [cells_isCell tc]; simp [tc]) (by have := h.lw; simp at this; simp; omega) fun wv w3 s3 f3 hin3 w31 f31 => ?_
  have s3 : SlW 1 w3 wv (elP1 (Ws ++ [t])) := by rw [cells_isCell tc] at s3; simpa [elP1] using s3
  have wvc := s3.1.isCell
  have e3 := f3.size
  have hD3n : ¬ inB b.wv D := fun hc => nD h.was.2 (by omega) D hc rfl
  have hD3 := f3.bk_some hD2 hD3n
  have hw3 : wr w3 D = true := by rw [f3.wr (bk_lt hD2) hD3n]; exact hw2
  have hD31 := f31.bk_some hD2 id
  have u3 : (putB L o { b with ov := ov }).set (o + 4) wv = putB L o { b with ov := ov, wv := wv } := putB_set ho (j := 4) (by omega) rfl
  obtain ⟨_, _, _, k3, _⟩ := putB_gets ho { b with ov := ov, wv := wv }
  have l3 : o + 4 + 1 ≤ (putB L o { b with ov := ov }).length := by rw [putB_len ho]; omega
  have hovl := s1.1.lenL
  simp only [elP1_len, List.length_append, List.length_singleton] at hovl
  simp [hD3, hw3, cells_isCell wvc, wvc, u3, hD2, hD31, m4, l3, k3, hovl]
  have g3' : Fr (fun c => c = D) w3 (sto w3 D (o + 4) [wv]) := (Fr.refl (fun c => c = D) w3).sto (.inl rfl) _ _
  have hD4 : bk (sto w3 D (o + 4) [wv]) D = some (putB L o { b with ov := ov, wv := wv }) := by simp [hD3, u3]
  have hw4 : wr (sto w3 D (o + 4) [wv]) D = true := by simp [hw3]
  have e4 := g3'.size
  have i3 : ∀ c, inB wv c → (inB b.wv c ∨ (w2.heap.size ≤ c ∧ c < w3.heap.size)) := hin3
  have n3D : ∀ c, inB wv c → c ≠ D := fun c hc he => by
    rcases i3 c hc with h' | h'
    · exact nD h.was.2 (by omega) c h' he
    · omega
  have f3' : Fr (fun c => c = D ∨ inB b.wv c) w2 (sto w3 D (o + 4) [wv]) := (f3.mono fun _ h => .inr h).trans (g3'.mono fun _ h => .inl h) fun _ _ h => h
  have s3' := s3.fr g3' n3D
  generalize sto w3 D (o + 4) [wv] = w4 at *
  have fall : Fr (fun c => c = D ∨ inB b.ov c ∨ inB b.wv c) w w4 := (((f1'.mono fun c h' => h'.imp id fun h' => .inl h').trans f2 fun _ _ h => h.elim).trans (f3'.mono fun c h' => h'.imp id fun h' => .inr h') fun _ _ h => h)
  have lk3 : ∀ c, inB l c → ¬ (c = D ∨ inB b.wv c) := fun c hc h' => by
    rcases h' with h' | h'
    · exact (tl c hc).2.1 h'
    · have := h.was.2 c h'; have := (tl c hc).1; omega
  have X1 := (sl1.fr f2 fun _ _ => id).fr f3' lk3
  have tk3 : ∀ c, inB t c → ¬ (c = D ∨ inB b.wv c) := fun c hc h' => by
    have := i2 c hc
    rcases h' with h' | h'
    · omega
    · have := nz h.was.2 (by omega) c h'; omega
  have X2 := s2.1.fr f3' tk3
  have ok3 : ∀ c, inB ov c → ¬ (c = D ∨ inB b.wv c) := fun c hc h' => by
    rcases h' with h' | h'
    · exact n1D c hc h'
    · rcases i1 c hc with h'' | h''
      · have := h.opn.2 c h''; have := h.was.2 c h'; omega
      · have := nz h.was.2 (by omega) c h'; omega
  have S1 := (s1'.fr f2 fun _ _ => id).fr f3' ok3
  have hkept := h.kept (l := l) (t := t) (ov := ov) (wv := wv) fall (fun c h' => by
      rcases h' with h' | h' | h'
      · left; rw [h']; exact hb0
      · right; left; exact h.opn.2 c h'
      · right; right; exact h.was.2 c h') gd X1 X2 S1 s3' (fun c hc => ⟨(tl c hc).1, by have := (tl c hc).2.2; omega⟩)
      (fun c hc => ⟨⟨by have := i2 c hc; omega, by have := i2 c hc; omega⟩, fun hl => by have := i2 c hc; have := (tl c hl).2.2; omega⟩)
      (fun c hc => ⟨(i1 c hc).imp id fun h' => ⟨by omega, by omega⟩, fun hl => by
          rcases i1 c hc with h' | h'
          · have := h.opn.2 c h'; have := (tl c hl).1; omega
          · have := (tl c hl).2.2; omega, fun ht => by
          have := i2 c ht
          rcases i1 c hc with h' | h'
          · have := nz h.opn.2 (by omega) c h'; omega
          · omega⟩)
      (fun c hc => ⟨(i3 c hc).imp id fun h' => ⟨by omega, by omega⟩, fun hl => by
          rcases i3 c hc with h' | h'
          · have := h.was.2 c h'; have := (tl c hl).1; omega
          · have := (tl c hl).2.2; omega, fun ht => by
          have := i2 c ht
          rcases i3 c hc with h' | h'
          · have := nz h.was.2 (by omega) c h'; omega
          · omega, fun ho' => by
          rcases i3 c hc with h' | h'
          · rcases i1 c ho' with h'' | h''
            · have := h.opn.2 c h''; have := h.was.2 c h'; omega
            · have := nz h.was.2 (by omega) c h'; omega
          · rcases i1 c ho' with h'' | h''
            · have := nz h.opn.2 (by omega) c h''; omega
            · omega⟩)
  have kD : keTag bt (10 + Ls.length + Os.length) l t ov wv D = 0 := by
    have a1 : ¬ inB l D := fun h' => (tl D h').2.1 rfl
    have a2 : ¬ inB t D := fun h' => by have := i2 D h'; omega
    have a3 : ¬ inB ov D := fun h' => n1D D h' rfl
    have a4 : ¬ inB wv D := fun h' => n3D D h' rfl
    simp [keTag, a1, a2, a3, a4, hb0]
  have fout : Fr (fun c => c = D ∨ ¬ bt c = 0 ∨ inB l c) w w4 := fall.mono fun c h' => by
    rcases h' with h' | h' | h'
    · exact .inl h'
    · right; left; rw [h.opn.2 c h']; decide
    · right; left; rw [h.was.2 c h']; decide
  obtain ⟨hk1, hk2⟩ := hkept
  have hk2 : ∀ c, keTag bt (10 + Ls.length + Os.length) l t ov wv c ≠ 0 → bt c ≠ 0 ∨ inB l c ∨ w.heap.size ≤ c := fun c hc => (hk2 c hc).imp id fun h' => h'.imp id fun h' => h'.1
  have hlw := h.lw
  simp only at hlw
  by_cases h4 : Os.length + 1 ≤ 4
  · have h4' : ¬ (4 < (Os.length : Int) + 1) := by omega
    simp [h4']
    exact ⟨_, hD4, hw4, _, _, hk1, by simp; omega, by simpa using h4, kD, fout, fun c hc => by simpa using hk2 c hc⟩
  · have h4' : 4 < (Os.length : Int) + 1 := by omega
    simp [h4']
    generalize keTag bt (10 + Ls.length + Os.length) l t ov wv = kt at *
    obtain ⟨v, Os', ho1⟩ : ∃ v Os', Os ++ [l] = v :: Os' := by cases Os with
      | nil => exact ⟨_, _, rfl⟩
      | cons a r => exact ⟨_, _, rfl⟩
    obtain ⟨u, Ws', ho2⟩ : ∃ v Os', Ws ++ [t] = v :: Os' := by cases Ws with
      | nil => exact ⟨_, _, rfl⟩
      | cons a r => exact ⟨_, _, rfl⟩
    rw [ho1, ho2] at hk1
    have hol : Os'.length = Os.length := by have := congrArg List.length ho1; simpa using this.symm
    refine (letters_write_run hD4 hw4 ho hk1 kD (by omega)).mono ?_
    rintro _ w5 ⟨b5, g5, bt5, y1, y2, y3, y4, y5, y6⟩
    refine ⟨b5, y1, y2, _, bt5, y3, by simp; omega, by simp only; omega, y4, fout.trans y5 fun c hc h' => ?_, fun c hc => ?_⟩
    · rcases h' with h' | h'
      · exact .inl h'
      · rcases hk2 c h' with h'' | h'' | h''
        · exact .inr (.inl h'')
        · exact .inr (.inr h'')
        · omega
    · rcases y6 c hc with h' | h'
      · simpa using hk2 c h'
      · right; right; have := fall.size; omega
theorem letters_right_run (hD : bk w D = some (putB L o b)) (ho : o + 5 ≤ L.length) (h : BookM 11 mkM goodM w b ⟨Ls, Gs, Os, Ws⟩ bt) (hn : Ls.length + Os.length ≤ 1099511627776) :
    Run (F.granarylaw15_Letters_Right (.pointer (some ⟨D, o, none⟩))) w fun r w' => r = .bool true ∧ Fr (fun _ => False) w w' := by
  unfold F.granarylaw15_Letters_Right
  obtain ⟨g0, g1, g2, g3, g4⟩ := putB_gets ho b
  have hol := h.opn.1.1.lenL
  have hml := h.marks.1.1.lenL
  simp only [elP1_len, elI_len, marksN_len] at hol hml
  simp
  refine Run_for Os.length (fun i s w1 => s = [.int .i64 i] ∧ Fr (fun _ => False) w w1) ⟨rfl, Fr.refl _ _⟩ ?_ ?_
  · rintro i _ w1 hi ⟨rfl, f1⟩
    have hD1 := f1.bk_some hD id
    have h1 := h.fr f1 fun _ h => h.elim
    have hlw : Ws.length = Os.length := h.lw
    have e1 : Os[i]? = some Os[i] := List.getElem?_eq_getElem hi
    have e2 : Ws[i]? = some (Ws[i]'(by omega)) := List.getElem?_eq_getElem _
    generalize Os[i] = v at e1
    generalize Ws[i]'(by omega) = u at e2
    obtain ⟨els, gd, sv, su, _, _⟩ := h1.opens i v u e1 e2
    obtain ⟨q, q1, q2⟩ := h1.opn.1.1.rd1 (elP1_get e1) .i64
    obtain ⟨r, r1, r2⟩ := h1.was.1.1.rd1 (elP1_get e2) .i64
    have wi := wrap_succ (n := i) (by omega)
    have d1 : Fr (fun _ => False) w1 w1.drew := (Fr.refl _ _).drew
    simp [hD1, g3, g4, hol, hi, q1, q2, r1, r2]
    refine (letters_same (sv.1.fr0 d1) (su.fr0 d1) gd).mono ?_
    rintro _ w2 ⟨rfl, f2⟩
    simp [wi]
    exact f1.trans (d1.trans f2 fun _ _ => id) fun _ _ => id
  rintro _ w0 ⟨rfl, f0⟩
  have hD0 := f0.bk_some hD id
  simp [hD0, g3, hol]
  refine Run_for Ls.length (fun i s w1 => s = [.int .i64 i] ∧ Fr (fun _ => False) w w1) ⟨rfl, f0⟩ ?_ ?_
  · rintro i _ w1 hi ⟨rfl, f1⟩
    have hD1 := f1.bk_some hD id
    have h1 := h.fr f1 fun _ h => h.elim
    have hlg : Gs.length = Ls.length := h.lg
    have e1 : Ls[i]? = some Ls[i] := List.getElem?_eq_getElem hi
    have e2 : Gs[i]? = some (Gs[i]'(by omega)) := List.getElem?_eq_getElem _
    generalize Ls[i] = v at e1
    generalize Gs[i]'(by omega) = u at e2
    obtain ⟨n, n', hn1, hn2, sv, su, _, _⟩ := h1.written i v u e1 e2
    obtain ⟨q, q1, q2⟩ := h1.lists.1.1.rd1 (elP1_get e1) .i64
    have em : (elI (marksN Ls.length))[i]? = some [.int .i64 (5000000 + (i : Int))] := by rw [elI_get, marksN_get hi]; rfl
    obtain ⟨m, m1, m2⟩ := h1.marks.1.1.rd1 em .i64
    have wi := wrap_succ (n := i) (by omega)
    have d1 : Fr (fun _ => False) w1 w1.drew := (Fr.refl _ _).drew
    simp [hD1, g0, g2, hml, hi, q1, q2, m1, m2]
    refine (letters_marked (sv.fr0 d1) (by omega)).mono ?_
    rintro _ w2 ⟨rfl, f2⟩
    have f12 : Fr (fun _ => False) w1 w2 := d1.trans f2 fun _ _ => id
    have hD2 := f12.bk_some hD1 id
    have h2 := h1.fr f12 fun _ h => h.elim
    obtain ⟨q', q1', q2'⟩ := h2.grown.1.1.rd1 (elP1_get e2) .i64
    obtain ⟨m', m1', m2'⟩ := h2.marks.1.1.rd1 em .i64
    simp [hD2, g1, g2, q1', q2', m1', m2']
    refine (letters_marked (su.fr0 f12) (by omega)).mono ?_
    rintro _ w3 ⟨rfl, f3⟩
    simp [wi]
    exact (f1.trans f12 fun _ _ => id).trans f3 fun _ _ => id
  rintro _ w1 ⟨rfl, f1⟩
  have hD1 := f1.bk_some hD id
  simp [hD1, g2, hml]
  exact f1
theorem letters_last_run (hD : bk w D = some (putB L o b)) (hw : wr w D = true) (ho : o + 5 ≤ L.length) (h : BookM 11 mkM goodM w b ⟨Ls, Gs, Os, Ws⟩ bt) (hb0 : bt D = 0) (hn : Ls.length + Os.length ≤ 1099511627776) :
    Run (F.granarylaw15_Letters_Last (.pointer (some ⟨D, o, none⟩))) w fun r w' => r = .bool true ∧ (∃ b', bk w' D = some (putB L o b')) ∧ wr w' D = true ∧ Fr (fun c => c = D ∨ bt c ≠ 0) w w' := by
  unfold F.granarylaw15_Letters_Last
  refine Run_bind.2 ?_
  refine (letters_right_run hD ho h hn).mono ?_
  rintro _ w1 ⟨rfl, f1⟩
  have hD1 := f1.bk_some hD id
  have hw1 : wr w1 D = true := by rw [f1.wr (bk_lt hD) id]; exact hw
  have h1 := h.fr f1 fun _ h => h.elim
  have f1' : Fr (fun c => c = D ∨ bt c ≠ 0) w w1 := f1.mono fun _ h => h.elim
  simp
  refine Run_for Os.length (fun i s w2 => s = [] ∧ ∃ b2 s2 bt2, bk w2 D = some (putB L o b2) ∧ wr w2 D = true ∧ BookM 11 mkM goodM w2 b2 s2 bt2 ∧ bt2 D = 0 ∧ s2.Os.length = Os.length - i ∧ s2.Ls.length + s2.Os.length = Ls.length + Os.length ∧ Fr (fun c => c = D ∨ bt c ≠ 0) w w2 ∧ ∀ c, bt2 c ≠ 0 → bt c ≠ 0 ∨ w.heap.size ≤ c)
    ⟨rfl, b, ⟨Ls, Gs, Os, Ws⟩, bt, hD1, hw1, h1, hb0, rfl, rfl, f1', fun c hc => .inl hc⟩ ?_ ?_
  · rintro i _ w2 hi ⟨rfl, b2, ⟨Ls2, Gs2, Os2, Ws2⟩, bt2, a1, a2, a3, a4, a5, a6, a7, a8⟩
    simp only at a5 a6
    obtain ⟨g0, g1, g2, g3, g4⟩ := putB_gets ho b2
    have hol := a3.opn.1.1.lenL
    simp only [elP1_len] at hol
    have hlw : Ws2.length = Os2.length := a3.lw
    cases Os2 with
    | nil => simp at a5; omega
    | cons v Os2 =>
    cases Ws2 with
    | nil => simp at hlw
    | cons u Ws2 =>
    simp only [List.length_cons] at a5 a6 hol
    simp [a1, g3, hol]
    have hp : (0 : Int) < (Os2.length : Int) + 1 := by omega
    refine (letters_write_run a1 a2 ho a3 a4 (by omega)).mono ?_
    rintro _ w3 ⟨b3, g, bt3, c1, c2, c3, c4, c5, c6⟩
    refine ⟨b3, c1, c2, _, bt3, c3, c4, by simp only; omega, by simp; omega, a7.trans c5 fun c hc h' => ?_, fun c hc => ?_⟩
    · rcases h' with h' | h'
      · exact .inl h'
      · rcases a8 c h' with h'' | h''
        · exact .inr h''
        · omega
    · have hs := a7.size
      rcases c6 c hc with h' | h'
      · simpa using a8 c h'
      · right; omega
  rintro _ w2 ⟨rfl, b2, ⟨Ls2, Gs2, Os2, Ws2⟩, bt2, a1, a2, a3, a4, a5, a6, a7, a8⟩
  simp only at a5 a6
  obtain ⟨g0, g1, g2, g3, g4⟩ := putB_gets ho b2
  have hol := a3.opn.1.1.lenL
  simp only [elP1_len] at hol
  have h0 : Os2.length = 0 := by omega
  rw [h0] at hol
  simp [a1, g3, hol]
  refine (letters_right_run a1 ho a3 (by omega)).mono ?_
  rintro _ w3 ⟨rfl, f3⟩
  simp
  exact ⟨⟨b2, f3.bk_some a1 id⟩, by rw [f3.wr (bk_lt a1) id]; exact a2, a7.trans f3 fun _ _ h => h.elim⟩
end
end Go.Proofs.YtpiceodfdjihhaaGreatDoor

/-
  The law's book (granarylaw15), numbers: what is compared.
-/
namespace Go.Proofs.YtpiceodfdjihhaaGreatDoor
open Go.Lift
set_option linter.unusedSimpArgs false

def mkI (i : Nat) : List Value := [.int .i64 (5000000 + (i : Int))]
def mkIv (i : Nat) : Value := .int .i64 (5000000 + (i : Int))
def goodI (els : List (List Value)) : Prop := ∃ l : List Int, l.length ≤ 64 ∧ els = elI l
theorem book_good {els : List (List Value)} (h : goodI els) : els.length ≤ 64 ∧ ∀ e ∈ els, e.length = 1 := by
  obtain ⟨l, h1, rfl⟩ := h
  refine ⟨by simpa using h1, fun e he => ?_⟩
  obtain ⟨m, _, rfl⟩ := List.mem_map.1 he
  rfl
theorem book_cells {els : List (List Value)} (h : goodI els) : ∀ e ∈ els, e.all isCell = true := by
  obtain ⟨l, _, rfl⟩ := h
  intro e he
  obtain ⟨m, hm, rfl⟩ := List.mem_map.1 he
  rfl
theorem mkI_len (i : Nat) : (mkI i).length = 1 := rfl
theorem mkI_cells (i : Nat) : (mkIv i).cells = (mkI i).toArray := rfl
theorem mkI_all (i : Nat) : (mkI i).all isCell = true := rfl

section
variable {w : World}
theorem book_same {av bv : Value} {els : List (List Value)} (ha : Sl 1 w av els) (hb : Sl 1 w bv els) (gd : goodI els) :
    Run (F.granarylaw15_sameInts av bv) w fun r w' => r = .bool true ∧ Fr (fun _ => False) w w' := by
  unfold F.granarylaw15_sameInts
  obtain ⟨l, hl, rfl⟩ := gd
  have hal := ha.lenL
  have hbl := hb.lenL
  simp only [elI_len] at hal hbl
  simp [hal, hbl]
  refine Run_for l.length (fun i s w' => s = [.int .i64 i] ∧ Fr (fun _ => False) w w') ⟨rfl, Fr.refl _ _⟩ ?_ ?_
  · rintro i s w1 hi ⟨rfl, f1⟩
    have ei : (elI l)[i]? = some [.int .i64 l[i]] := by rw [elI_get, List.getElem?_eq_getElem hi]; rfl
    obtain ⟨p, p1, p2⟩ := (ha.fr0 f1).rd1 ei .i64
    obtain ⟨q, q1, q2⟩ := (hb.fr0 f1).rd1 ei .i64
    have wi := wrap_succ (n := i) (by omega)
    have hi' : (i : Int) < l.length := by omega
    simp [hal, hi, hi', p1, p2, q1, q2, wi]
    exact f1.drew
  · rintro s w1 ⟨rfl, f1⟩
    simp [hal]
    exact f1
theorem book_marked {v : Value} {n i : Nat} (h : Sl 1 w v (List.replicate n (mkI i))) (hn : n ≤ 1048576) :
    Run (F.granarylaw15_marked v (.int .i64 (5000000 + (i : Int)))) w fun r w' => r = .bool true ∧ Fr (fun _ => False) w w' := by
  unfold F.granarylaw15_marked
  have hl := h.lenL
  simp only [List.length_replicate] at hl
  simp [hl]
  refine Run_for n (fun j s w' => s = [.int .i64 j] ∧ Fr (fun _ => False) w w') ⟨rfl, Fr.refl _ _⟩ ?_ ?_
  · rintro j s w1 hj ⟨rfl, f1⟩
    have ei : (List.replicate n (mkI i))[j]? = some (mkI i) := by simp [List.getElem?_replicate, hj]
    obtain ⟨p, p1, p2⟩ := (h.fr0 f1).rd1 ei .i64
    have wj := wrap_succ (n := j) (by omega)
    simp [hl, hj, p1, p2, wj]
    exact f1
  · rintro s w1 ⟨rfl, f1⟩
    simp [hl]
    exact f1
end
end Go.Proofs.YtpiceodfdjihhaaGreatDoor

/-
  The law's book (granarylaw15), Book: the walk.
-/
namespace Go.Proofs.YtpiceodfdjihhaaGreatDoor
open Go.Lift
set_option linter.unusedSimpArgs false

section
variable {w : World} {D o : Nat} {L : List Value} {b : BV} {Ls Gs Os Ws : List Value} {v u : Value} {bt : Nat → Nat}
set_option maxHeartbeats 1000000 in
theorem book_write_run (hD : bk w D = some (putB L o b)) (hw : wr w D = true) (ho : o + 5 ≤ L.length) (h : BookM 1 mkI goodI w b ⟨Ls, Gs, v :: Os, u :: Ws⟩ bt) (hb0 : bt D = 0) (hn : Ls.length ≤ 1099511627776) :
    Run (F.granarylaw15_Book_write (.pointer (some ⟨D, o, none⟩))) w fun _ w' => ∃ b' g bt', bk w' D = some (putB L o b') ∧ wr w' D = true ∧ BookM 1 mkI goodI w' b' ⟨Ls ++ [v], Gs ++ [g], Os, Ws⟩ bt' ∧ bt' D = 0 ∧ Fr (fun c => c = D ∨ bt c ≠ 0) w w' ∧ ∀ c, bt' c ≠ 0 → bt c ≠ 0 ∨ w.heap.size ≤ c := by
  unfold F.granarylaw15_Book_write
  obtain ⟨g0, g1, g2, g3, g4⟩ := putB_gets ho b
  have hDl := bk_lt hD
  have hlen : (putB L o b).length = L.length := putB_len ho
  obtain ⟨q, q1, q2⟩ := h.opn.1.1.rd1 (i := 0) (y := v) rfl .i64
  have q1 : idxA 1 b.ov (.int .i64 0) = some q := by simpa using q1
  obtain ⟨ov, o1, o2, o3⟩ := h.opn.1.drop (n := 1) (by simp) .i64
  have o1 : sliceV 1 b.ov (some (.int .i64 1)) none = some ov := by simpa using o1
  have o2 : SlW 1 w ov (elP1 Os) := o2
  obtain ⟨wv, p1, p2, p3⟩ := h.was.1.drop (n := 1) (by simp) .i64
  have p1 : sliceV 1 b.wv (some (.int .i64 1)) none = some wv := by simpa using p1
  have p2 : SlW 1 w wv (elP1 Ws) := p2
  have hml := h.marks.1.1.lenL
  simp only [elI_len, marksN_len] at hml
  have wm : IntKind.i64.wrap (5000000 + (Ls.length : Int)) = 5000000 + (Ls.length : Int) := wrap_small (by omega) (by omega)
  have ovc := o2.1.isCell
  have wvc := p2.1.isCell
  have l4 : o + 3 + 1 ≤ (putB L o b).length := by omega
  have l5 : o + 4 + 1 ≤ (putB L o b).length := by omega
  obtain ⟨els, gd, sv, su, tv, tu⟩ := h.opens 0 v u rfl rfl
  have tv : Tg bt (10 + Ls.length) v := tv
  obtain ⟨hels, hec⟩ := book_good gd
  have hvl := sv.1.lenL
  have s1 : (putB L o b).set (o + 3) ov = putB L o { b with ov := ov } := putB_set ho (j := 3) (by omega) rfl
  have s2 : (putB L o { b with ov := ov }).set (o + 4) wv = putB L o { b with ov := ov, wv := wv } := putB_set ho (j := 4) (by omega) rfl
  have hDa : bk (sto (sto w D (o + 3) [ov]) D (o + 4) [wv]) D = some (putB L o { b with ov := ov, wv := wv }) := by simp [hD, s1, s2]
  have hwa : wr (sto (sto w D (o + 3) [ov]) D (o + 4) [wv]) D = true := by simp [hw]
  have fa : Fr (fun c => c = D) w (sto (sto w D (o + 3) [ov]) D (o + 4) [wv]) := ((Fr.refl (fun c => c = D) w).sto (.inl rfl) _ _).sto (.inl rfl) _ _
  obtain ⟨g0', g1', g2', g3', g4'⟩ := putB_gets ho { b with ov := ov }
  obtain ⟨k0, k1, k2, k3, k4⟩ := putB_gets ho { b with ov := ov, wv := wv }
  have l5' : o + 4 + 1 ≤ (putB L o { b with ov := ov }).length := by rw [putB_len ho]; omega
  simp [hD, g3, q1, q2, o1, hw, cells_isCell ovc, ovc, l4, s1, g4', p1, cells_isCell wvc, wvc, l5', s2, k2, hml, wm]
  generalize sto (sto w D (o + 3) [ov]) D (o + 4) [wv] = wa at *
  have hbv : True := trivial
  generalize hN : Ls.length = N at *
  have vnD : ∀ c, inB v c → c ≠ D := fun c hc he => by have := tv c hc; rw [he, hb0] at this; omega
  have vlt : ∀ c, inB v c → c < w.heap.size := fun c hc => h.bound c (by have := tv c hc; omega)
  have sva := sv.fr fa vnD
  have la := fa.size
  have mlen := mkI_len N
  refine Run_for els.length (fun i l w1 => l = [.int .i64 i] ∧ Fr (inB v) wa w1 ∧ SlW 1 w1 v (List.replicate i (mkI N) ++ els.drop i)) ⟨rfl, Fr.refl _ _, by simpa using sva⟩ ?_ ?_
  · rintro i _ w1 hi ⟨rfl, f1, s1⟩
    have wi := wrap_succ (n := i) (by omega)
    have ei : (List.replicate i (mkI N) ++ els.drop i)[i]? = some els[i] := by
      rw [List.getElem?_append_right (by simp)]; simp [List.getElem?_eq_getElem hi]
    obtain ⟨q, o1, c1, c2, c3, c4, c5⟩ := s1.put ei .i64
    obtain ⟨c6, c7⟩ := c5 0 (mkI N) (by rw [mlen]; omega)
    have eset : (List.replicate i (mkI N) ++ els.drop i).set i (setL els[i] 0 (mkI N)) = List.replicate (i + 1) (mkI N) ++ els.drop (i + 1) := by
      rw [setL_all _ _ (by rw [mlen]; exact hec _ (List.getElem_mem hi)), List.set_append_right _ _ (by simp), List.length_replicate, Nat.sub_self, List.drop_eq_getElem_cons hi, List.set_cons_zero, List.replicate_succ', List.append_assoc]
      rfl
    rw [eset] at c7
    have c4' : okAt w1 q o1 1 := c4
    simp [hvl, hi, c1, wi]
    exact ⟨c4'.1, c4'.2, f1.sto (.inl c2) _ _, c7⟩
  rintro _ wb ⟨rfl, fb, sb⟩
  rw [List.drop_of_length_le (Nat.le_refl _), List.append_nil] at sb
  simp [hvl]
  have lb := fb.size
  have vltb : ∀ c, inB v c → c < wb.heap.size := fun c hc => by have := vlt c hc; omega
  refine (Grew.start sb).step vltb (Nat.le_refl _) (mkI_cells N) (mkI_len N) (mkI_all N) (by decide) rfl (by decide) (by omega) fun g w1 hg1 _ _ => ?_
  refine Run_for 64 (fun i l w2 => ∃ g, l = [g, .int .i64 i] ∧ Grew 1 (mkI N) wb w2 v g els.length (els.length + 1 + i)) ⟨g, rfl, hg1⟩ ?_ ?_
  · rintro i _ w2 hi ⟨g, rfl, hg2⟩
    have wi := wrap_succ (n := i) (by omega)
    have hi' : (i : Int) < 64 := by omega
    simp [hi']
    refine hg2.step vltb (by omega) (mkI_cells N) (mkI_len N) (mkI_all N) (by decide) rfl (by decide) (by omega) fun g' w3 hg3 _ _ => ?_
    simp [wi]
    exact hg3
  rintro _ wc ⟨g, rfl, hg⟩
  have fwc : Fr (fun c => c = D ∨ inB v c) w wc := ((fa.mono fun _ h => .inl h).trans (fb.mono fun _ h => .inr h) fun _ _ h => h).trans (hg.fr.mono fun _ h => .inr h) fun _ _ h => h
  have hDv : ¬ inB v D := fun hc => vnD D hc rfl
  have fac : Fr (inB v) wa wc := fb.trans hg.fr fun _ _ h => h
  have hDc := fac.bk_some hDa hDv
  have hwc : wr wc D = true := by rw [fac.wr (bk_lt hDa) hDv]; exact hwa
  have lc := fac.size
  have notv : ∀ {t : Nat} {a : Value}, Tg bt t a → 0 < t → t < 10 → ∀ c, inB a c → ¬ (c = D ∨ inB v c) := fun ht h0 hlt c hc h' => by
    have := ht c hc
    rcases h' with h' | h'
    · rw [h', hb0] at this
      omega
    · have := tv c h'; omega
  have nz : ∀ {t : Nat} {a : Value}, Tg bt t a → 0 < t → ∀ c, inB a c → c < w.heap.size := fun ht hlt c hc => h.bound c (by have := ht c hc; omega)
  have nD : ∀ {t : Nat} {a : Value}, Tg bt t a → 0 < t → ∀ c, inB a c → c ≠ D := fun ht hlt c hc he => by have := ht c hc; rw [he, hb0] at this; omega
  have vc := sv.1.isCell
  have gc := hg.sg.1.isCell
  -- the lists
  simp [hDc, k0]
  have sl := h.lists.1.fr fwc (notv h.lists.2 (by omega) (by omega))
  refine Run_app1 (k := 1) (y := v) (by rw [cells_isCell vc]; rfl) sl (by decide) rfl (by decide) (by rw [cells_isCell vc]; simp [vc]) (by simp; omega) fun lv w1 s1l f1 hin1 _ _ => ?_
  have s1l : SlW 1 w1 lv (elP1 (Ls ++ [v])) := by rw [cells_isCell vc] at s1l; simpa [elP1] using s1l
  have lvc := s1l.1.isCell
  have e1 := f1.size
  have hD1n : ¬ inB b.lv D := fun hc => nD h.lists.2 (by omega) D hc rfl
  have hD1 := f1.bk_some hDc hD1n
  have hw1 : wr w1 D = true := by rw [f1.wr (bk_lt hDc) hD1n]; exact hwc
  have u1 : (putB L o { b with ov := ov, wv := wv }).set o lv = putB L o { b with ov := ov, wv := wv, lv := lv } := putB_set ho (j := 0) (by omega) rfl
  obtain ⟨_, m1, _, _, _⟩ := putB_gets ho { b with ov := ov, wv := wv, lv := lv }
  have l1 : o + 1 ≤ (putB L o { b with ov := ov, wv := wv }).length := by rw [putB_len ho]; omega
  have hD1' : bk (sto w1 D o [lv]) D = some (putB L o { b with ov := ov, wv := wv, lv := lv }) := by simp [hD1, u1]
  have hw1' : wr (sto w1 D o [lv]) D = true := by simp [hw1]
  have g1' : Fr (fun c => c = D) w1 (sto w1 D o [lv]) := (Fr.refl (fun c => c = D) w1).sto (.inl rfl) _ _
  have i1 : ∀ c, inB lv c → (inB b.lv c ∨ (wc.heap.size ≤ c ∧ c < w1.heap.size)) := hin1
  have n1D : ∀ c, inB lv c → c ≠ D := fun c hc he => by
    rcases i1 c hc with h' | h'
    · exact nD h.lists.2 (by omega) c h' he
    · omega
  simp [hD1, hw1, cells_isCell lvc, lvc, u1, m1, l1]
  have f1' : Fr (fun c => c = D ∨ inB b.lv c) wc (sto w1 D o [lv]) := (f1.mono fun _ h => .inr h).trans (g1'.mono fun _ h => .inl h) fun _ _ h => h
  have s1l' := s1l.fr g1' n1D
  have e1' := g1'.size
  generalize sto w1 D o [lv] = w1' at *
  -- what they grew to
  have gdis : ∀ {t : Nat} {a : Value}, Tg bt t a → 0 < t → t < 10 → ∀ c, inB a c → ¬ inB g c := fun ht h0 hlt c hc hg' => by
    rcases hg.ig c hg' with h' | h'
    · exact notv ht h0 hlt c hc (.inr h')
    · have := nz ht h0 c hc; have := h'.1; omega
  have sgr := (h.grown.1.fr fwc (notv h.grown.2 (by omega) (by omega))).fr f1' fun c hc h' => by
    rcases h' with h' | h'
    · exact nD h.grown.2 (by omega) c hc h'
    · have := h.grown.2 c hc; have := h.lists.2 c h'; omega
  refine Run_app1 (k := 1) (y := g) (by rw [cells_isCell gc]; rfl) sgr (by decide) rfl (by decide) (by rw [cells_isCell gc]; simp [gc]) (by have := h.lg; simp at this; simp; omega) fun gv w2 s2g f2 hin2 _ _ => ?_
  have s2g : SlW 1 w2 gv (elP1 (Gs ++ [g])) := by rw [cells_isCell gc] at s2g; simpa [elP1] using s2g
  have gvc := s2g.1.isCell
  have e2 := f2.size
  have hD2n : ¬ inB b.gv D := fun hc => nD h.grown.2 (by omega) D hc rfl
  have hD2 := f2.bk_some hD1' hD2n
  have hw2 : wr w2 D = true := by rw [f2.wr (bk_lt hD1') hD2n]; exact hw1'
  have u2 : (putB L o { b with ov := ov, wv := wv, lv := lv }).set (o + 1) gv = putB L o { b with ov := ov, wv := wv, lv := lv, gv := gv } := putB_set ho (j := 1) (by omega) rfl
  obtain ⟨_, _, m2, _, _⟩ := putB_gets ho { b with ov := ov, wv := wv, lv := lv, gv := gv }
  have l2 : o + 1 + 1 ≤ (putB L o { b with ov := ov, wv := wv, lv := lv }).length := by rw [putB_len ho]; omega
  have hD2' : bk (sto w2 D (o + 1) [gv]) D = some (putB L o { b with ov := ov, wv := wv, lv := lv, gv := gv }) := by simp [hD2, u2]
  have hw2' : wr (sto w2 D (o + 1) [gv]) D = true := by simp [hw2]
  have g2' : Fr (fun c => c = D) w2 (sto w2 D (o + 1) [gv]) := (Fr.refl (fun c => c = D) w2).sto (.inl rfl) _ _
  have i2 : ∀ c, inB gv c → (inB b.gv c ∨ (w1'.heap.size ≤ c ∧ c < w2.heap.size)) := hin2
  have n2D : ∀ c, inB gv c → c ≠ D := fun c hc he => by
    rcases i2 c hc with h' | h'
    · exact nD h.grown.2 (by omega) c h' he
    · omega
  simp [hD2, hw2, cells_isCell gvc, gvc, u2, m2, l2]
  have f2' : Fr (fun c => c = D ∨ inB b.gv c) w1' (sto w2 D (o + 1) [gv]) := (f2.mono fun _ h => .inr h).trans (g2'.mono fun _ h => .inl h) fun _ _ h => h
  have s2g' := s2g.fr g2' n2D
  have lg1 : ∀ c, inB lv c → ¬ inB b.gv c := fun c hc h' => by
    rcases i1 c hc with h'' | h''
    · have := h.lists.2 c h''; have := h.grown.2 c h'; omega
    · have := nz h.grown.2 (by omega) c h'; omega
  have s1l'' := s1l'.fr f2' fun c hc h' => by
    rcases h' with h' | h'
    · exact n1D c hc h'
    · exact lg1 c hc h'
  have e2' := g2'.size
  generalize sto w2 D (o + 1) [gv] = w2' at *
  -- the marks
  have smk := ((h.marks.1.fr fwc (notv h.marks.2 (by omega) (by omega))).fr f1' fun c hc h' => by
    rcases h' with h' | h'
    · exact nD h.marks.2 (by omega) c hc h'
    · have := h.marks.2 c hc; have := h.lists.2 c h'; omega).fr f2' fun c hc h' => by
    rcases h' with h' | h'
    · exact nD h.marks.2 (by omega) c hc h'
    · have := h.marks.2 c hc; have := h.grown.2 c h'; omega
  refine Run_app1 (k := 1) (y := .int .i64 (5000000 + (N : Int))) rfl smk (by decide) rfl (by decide) rfl (by simp [hN]; omega) fun mv w3 s3m f3 hin3 _ _ => ?_
  have s3m : SlW 1 w3 mv (elI (marksN (N + 1))) := by
    rw [marksN_succ, elI_app, ← hN]; simpa [elI, hN] using s3m
  have mvc := s3m.1.isCell
  have e3 := f3.size
  have hD3n : ¬ inB b.mv D := fun hc => nD h.marks.2 (by omega) D hc rfl
  have hD3 := f3.bk_some hD2' hD3n
  have hw3 : wr w3 D = true := by rw [f3.wr (bk_lt hD2') hD3n]; exact hw2'
  have u3 : (putB L o { b with ov := ov, wv := wv, lv := lv, gv := gv }).set (o + 2) mv = putB L o ⟨lv, gv, mv, ov, wv⟩ := putB_set ho (j := 2) (by omega) rfl
  have l3 : o + 2 + 1 ≤ (putB L o { b with ov := ov, wv := wv, lv := lv, gv := gv }).length := by rw [putB_len ho]; omega
  simp [hD3, hw3, cells_isCell mvc, mvc, u3, l3]
  have f3' : Fr (fun c => c = D ∨ inB b.mv c) w2' (sto w3 D (o + 2) [mv]) := (f3.mono fun _ h => .inr h).trans (((Fr.refl (fun c => c = D) w3).sto (.inl rfl) _ _).mono fun _ h => .inl h) fun _ _ h => h
  have g3' : Fr (fun c => c = D) w3 (sto w3 D (o + 2) [mv]) := (Fr.refl (fun c => c = D) w3).sto (.inl rfl) _ _
  have e3' := g3'.size
  have i3 : ∀ c, inB mv c → (inB b.mv c ∨ (w2'.heap.size ≤ c ∧ c < w3.heap.size)) := hin3
  have n3D : ∀ c, inB mv c → c ≠ D := fun c hc he => by
    rcases i3 c hc with h' | h'
    · exact nD h.marks.2 (by omega) c h' he
    · omega
  have s3m' := s3m.fr g3' n3D
  have old3 : ∀ {t : Nat} {a : Value}, Tg bt t a → 0 < t → t < 10 → ∀ c, inB a c → t ≠ 3 → ¬ (c = D ∨ inB b.mv c) := fun ht h0 hlt c hc hne h' => by
    rcases h' with h' | h'
    · exact nD ht h0 c hc h'
    · have := ht c hc; have := h.marks.2 c h'; omega
  have l3m : ∀ c, inB lv c → ¬ (c = D ∨ inB b.mv c) := fun c hc h' => by
    rcases i1 c hc with h'' | h''
    · exact old3 h.lists.2 (by omega) (by omega) c h'' (by decide) h'
    · rcases h' with h' | h'
      · exact n1D c hc h'
      · have := nz h.marks.2 (by omega) c h'; omega
  have g3m : ∀ c, inB gv c → ¬ (c = D ∨ inB b.mv c) := fun c hc h' => by
    rcases i2 c hc with h'' | h''
    · exact old3 h.grown.2 (by omega) (by omega) c h'' (by decide) h'
    · rcases h' with h' | h'
      · exact n2D c hc h'
      · have := nz h.marks.2 (by omega) c h'; omega
  have S1 := s1l''.fr f3' l3m
  have S2 := s2g'.fr f3' g3m
  -- v and g lie untouched
  have hvv : ∀ c, inB g c ∨ inB v c → ¬ (c = D ∨ inB b.lv c) ∧ ¬ (c = D ∨ inB b.gv c) ∧ ¬ (c = D ∨ inB b.mv c) := fun c hc => by
    have hnc : c ≠ D ∧ ∀ {t : Nat} {a : Value}, Tg bt t a → 0 < t → t < 10 → ¬ inB a c := by
      rcases hc with hc | hc
      · refine ⟨fun he => ?_, fun ht h0 hlt h' => gdis ht h0 hlt c h' hc⟩
        rcases hg.ig c hc with h' | h'
        · exact vnD c h' he
        · omega
      · exact ⟨vnD c hc, fun ht h0 hlt h' => notv ht h0 hlt c h' (.inr hc)⟩
    refine ⟨fun h' => ?_, fun h' => ?_, fun h' => ?_⟩
    · exact h'.elim hnc.1 (hnc.2 h.lists.2 (by omega) (by omega))
    · exact h'.elim hnc.1 (hnc.2 h.grown.2 (by omega) (by omega))
    · exact h'.elim hnc.1 (hnc.2 h.marks.2 (by omega) (by omega))
  have V1 := ((hg.sv.fr f1' fun c hc => (hvv c (.inr hc)).1).fr f2' fun c hc => (hvv c (.inr hc)).2.1).fr f3' fun c hc => (hvv c (.inr hc)).2.2
  have V2 := ((hg.sg.1.fr f1' fun c hc => (hvv c (.inl hc)).1).fr f2' fun c hc => (hvv c (.inl hc)).2.1).fr f3' fun c hc => (hvv c (.inl hc)).2.2
  have fall : Fr (fun c => c = D ∨ inB v c ∨ inB b.lv c ∨ inB b.gv c ∨ inB b.mv c) w (sto w3 D (o + 2) [mv]) :=
    (((fwc.mono fun c h' => h'.imp id fun h' => .inl h').trans (f1'.mono fun c h' => h'.imp id fun h' => .inr (.inl h')) fun _ _ h => h).trans (f2'.mono fun c h' => h'.imp id fun h' => .inr (.inr (.inl h'))) fun _ _ h => h).trans (f3'.mono fun c h' => h'.imp id fun h' => .inr (.inr (.inr h'))) fun _ _ h => h
  generalize sto w3 D (o + 2) [mv] = w4 at *
  have gl : ∀ c, inB lv c → ¬ inB g c := fun c hc hg' => by
    rcases i1 c hc with h' | h'
    · exact gdis h.lists.2 (by omega) (by omega) c h' hg'
    · rcases hg.ig c hg' with h'' | h''
      · have := vlt c h''; omega
      · omega
  have gg : ∀ c, inB gv c → ¬ inB g c ∧ ¬ inB lv c := fun c hc => by
    rcases i2 c hc with h' | h'
    · exact ⟨gdis h.grown.2 (by omega) (by omega) c h', fun hl => lg1 c hl h'⟩
    · refine ⟨fun hg' => ?_, fun hl => ?_⟩
      · rcases hg.ig c hg' with h'' | h''
        · have := vlt c h''; omega
        · omega
      · rcases i1 c hl with h'' | h''
        · have := nz h.lists.2 (by omega) c h''; omega
        · omega
  have gm : ∀ c, inB mv c → ¬ inB g c ∧ ¬ inB lv c ∧ ¬ inB gv c := fun c hc => by
    rcases i3 c hc with h' | h'
    · exact ⟨gdis h.marks.2 (by omega) (by omega) c h', fun hl => l3m c hl (.inr h'), fun hl => g3m c hl (.inr h')⟩
    · refine ⟨fun hg' => ?_, fun hl => ?_, fun hl => ?_⟩
      · rcases hg.ig c hg' with h'' | h''
        · have := vlt c h''; omega
        · omega
      · rcases i1 c hl with h'' | h''
        · have := nz h.lists.2 (by omega) c h''; omega
        · omega
      · rcases i2 c hl with h'' | h''
        · have := nz h.grown.2 (by omega) c h''; omega
        · omega
  have hdone := h.wrote (g := g) (lv := lv) (gv := gv) (mv := mv) (ov := ov) (wv := wv) fall (fun c h' => by
      rcases h' with h' | h' | h' | h' | h'
      · left; rw [h']; exact hb0
      · right; left; rw [hN]; exact tv c h'
      · right; right; left; exact h.lists.2 c h'
      · right; right; right; left; exact h.grown.2 c h'
      · right; right; right; right; exact h.marks.2 c h') S1 S2 (by rw [hN]; exact s3m') o2 o3 p2 p3 (n := els.length) (n' := els.length + 1 + 64) (by omega) (by omega) (by rw [hN]; exact V1) (by rw [hN]; exact V2)
      (fun c hc => (hg.ig c hc).imp id fun h' => ⟨by omega, by omega⟩) (fun c hc => ⟨(i1 c hc).imp id fun h' => ⟨by omega, by omega⟩, gl c hc⟩)
      (fun c hc => ⟨(i2 c hc).imp id fun h' => ⟨by omega, by omega⟩, gg c hc⟩) (fun c hc => ⟨(i3 c hc).imp id fun h' => ⟨by omega, by omega⟩, gm c hc⟩)
  refine ⟨_, rfl, g, _, hdone.1, ?_, fall.mono fun c h' => ?_, fun c hc => (hdone.2 c hc).imp id fun h' => h'.1⟩
  · have a1 : ¬ inB g D := fun h' => by
      rcases hg.ig D h' with h'' | h''
      · exact hDv h''
      · omega
    have a2 : ¬ inB lv D := fun h' => n1D D h' rfl
    have a3 : ¬ inB gv D := fun h' => n2D D h' rfl
    have a4 : ¬ inB mv D := fun h' => n3D D h' rfl
    simp [wrTag, hDv, a1, a2, a3, a4, hb0]
  · rcases h' with h' | h' | h' | h' | h'
    · exact .inl h'
    · right; have := tv c h'; omega
    · right; rw [h.lists.2 c h']; decide
    · right; rw [h.grown.2 c h']; decide
    · right; rw [h.marks.2 c h']; decide
set_option maxHeartbeats 1000000 in
theorem book_keep_run (hD : bk w D = some (putB L o b)) (hw : wr w D = true) (ho : o + 5 ≤ L.length) (h : BookM 1 mkI goodI w b ⟨Ls, Gs, Os, Ws⟩ bt) (hb0 : bt D = 0) (hn : Ls.length + Os.length ≤ 1099511627776) (hm : Os.length ≤ 4)
    {l : Value} {els : List (List Value)} (gd : goodI els) (sl : SlW 1 w l els) (tl : ∀ c, inB l c → bt c = 0 ∧ c ≠ D ∧ c < w.heap.size) :
    Run (F.granarylaw15_Book_Keep (.pointer (some ⟨D, o, none⟩)) l) w fun _ w' => ∃ b' s' bt', bk w' D = some (putB L o b') ∧ wr w' D = true ∧ BookM 1 mkI goodI w' b' s' bt' ∧ s'.Ls.length + s'.Os.length = Ls.length + Os.length + 1 ∧ s'.Os.length ≤ 4 ∧ bt' D = 0 ∧
      Fr (fun c => c = D ∨ bt c ≠ 0 ∨ inB l c) w w' ∧ ∀ c, bt' c ≠ 0 → bt c ≠ 0 ∨ inB l c ∨ w.heap.size ≤ c := by
  unfold F.granarylaw15_Book_Keep
  obtain ⟨g0, g1, g2, g3, g4⟩ := putB_gets ho b
  have hDl := bk_lt hD
  obtain ⟨hels, hec⟩ := book_good gd
  have lc := sl.1.isCell
  have nz : ∀ {t : Nat} {a : Value}, Tg bt t a → 0 < t → ∀ c, inB a c → c < w.heap.size := fun ht hlt c hc => h.bound c (by have := ht c hc; omega)
  have nD : ∀ {t : Nat} {a : Value}, Tg bt t a → 0 < t → ∀ c, inB a c → c ≠ D := fun ht hlt c hc he => by have := ht c hc; rw [he, hb0] at this; omega
  simp [hD, g3]
  refine Run_app1 (k := 1) (y := l) (by rw [cells_isCell lc]; rfl) h.opn.1 (by decide) rfl (by decide) (by rw [cells_isCell lc]; simp [lc]) (by simp; omega) fun ov w1 s1 f1 hin1 _ _ => ?_
  have s1 : SlW 1 w1 ov (elP1 (Os ++ [l])) := by rw [cells_isCell lc] at s1; simpa [elP1] using s1
  have ovc := s1.1.isCell
  have e1 := f1.size
  have hD1n : ¬ inB b.ov D := fun hc => nD h.opn.2 (by omega) D hc rfl
  have hD1 := f1.bk_some hD hD1n
  have hw1 : wr w1 D = true := by rw [f1.wr hDl hD1n]; exact hw
  have u1 : (putB L o b).set (o + 3) ov = putB L o { b with ov := ov } := putB_set ho (j := 3) (by omega) rfl
  obtain ⟨_, _, _, m3, m4⟩ := putB_gets ho { b with ov := ov }
  have l1 : o + 3 + 1 ≤ (putB L o b).length := by rw [putB_len ho]; omega
  have hD1' : bk (sto w1 D (o + 3) [ov]) D = some (putB L o { b with ov := ov }) := by simp [hD1, u1]
  have hw1' : wr (sto w1 D (o + 3) [ov]) D = true := by simp [hw1]
  have g1' : Fr (fun c => c = D) w1 (sto w1 D (o + 3) [ov]) := (Fr.refl (fun c => c = D) w1).sto (.inl rfl) _ _
  have i1 : ∀ c, inB ov c → (inB b.ov c ∨ (w.heap.size ≤ c ∧ c < w1.heap.size)) := hin1
  have n1D : ∀ c, inB ov c → c ≠ D := fun c hc he => by
    rcases i1 c hc with h' | h'
    · exact nD h.opn.2 (by omega) c h' he
    · omega
  simp [hD1, hw1, cells_isCell ovc, ovc, u1, m4, l1]
  have f1' : Fr (fun c => c = D ∨ inB b.ov c) w (sto w1 D (o + 3) [ov]) := (f1.mono fun _ h => .inr h).trans (g1'.mono fun _ h => .inl h) fun _ _ h => h
  have s1' := s1.fr g1' n1D
  have e1' := g1'.size
  generalize sto w1 D (o + 3) [ov] = w1' at *
  have dr : Fr (fun _ => False) w1' w1'.drew := (Fr.refl _ _).drew
  have lk : ∀ c, inB l c → ¬ (c = D ∨ inB b.ov c) := fun c hc h' => by
    rcases h' with h' | h'
    · exact (tl c hc).2.1 h'
    · have := h.opn.2 c h'; have := (tl c hc).1; omega
  have sl1 := sl.fr f1' lk
  refine Run_appM (k := 1) (SlW.nil 1 _) (sl1.1.fr dr fun _ _ => id) (by decide) rfl (by decide) (book_cells gd) (by simp; omega) fun t w2 s2 f2 hin2 => ?_
  simp only [List.nil_append] at s2
  have tc := s2.1.isCell
  have f2 : Fr (fun _ => False) w1' w2 := dr.trans (f2.mono fun _ h => h) fun _ _ => id
  have i2 : ∀ c, inB t c → w1'.heap.size ≤ c ∧ c < w2.heap.size := fun c hc => (hin2 c hc).resolve_left id
  have e2 := f2.size
  have hD2 := f2.bk_some hD1' id
  have hw2 : wr w2 D = true := by rw [f2.wr (bk_lt hD1') id]; exact hw1'
  have swv := (h.was.1.fr f1' fun c hc h' => by
    rcases h' with h' | h'
    · exact nD h.was.2 (by omega) c hc h'
    · have := h.was.2 c hc; have := h.opn.2 c h'; omega).fr f2 fun _ _ => id
  refine Run_app1 (k := 1) (y := t) (by rw [cells_isCell tc]; rfl) swv (by decide) rfl (by decide) (by rw [cells_isCell tc]; simp [tc]) (by have := h.lw; simp at this; simp; omega) fun wv w3 s3 f3 hin3 w31 f31 => ?_
  have s3 : SlW 1 w3 wv (elP1 (Ws ++ [t])) := by rw [cells_isCell tc] at s3; simpa [elP1] using s3
  have wvc := s3.1.isCell
  have e3 := f3.size
  have hD3n : ¬ inB b.wv D := fun hc => nD h.was.2 (by omega) D hc rfl
  have hD3 := f3.bk_some hD2 hD3n
  have hw3 : wr w3 D = true := by rw [f3.wr (bk_lt hD2) hD3n]; exact hw2
  have hD31 := f31.bk_some hD2 id
  have u3 : (putB L o { b with ov := ov }).set (o + 4) wv = putB L o { b with ov := ov, wv := wv } := putB_set ho (j := 4) (by omega) rfl
  obtain ⟨_, _, _, k3, _⟩ := putB_gets ho { b with ov := ov, wv := wv }
  have l3 : o + 4 + 1 ≤ (putB L o { b with ov := ov }).length := by rw [putB_len ho]; omega
  have hovl := s1.1.lenL
  simp only [elP1_len, List.length_append, List.length_singleton] at hovl
  simp [hD3, hw3, cells_isCell wvc, wvc, u3, hD2, hD31, m4, l3, k3, hovl]
  have g3' : Fr (fun c => c = D) w3 (sto w3 D (o + 4) [wv]) := (Fr.refl (fun c => c = D) w3).sto (.inl rfl) _ _
  have hD4 : bk (sto w3 D (o + 4) [wv]) D = some (putB L o { b with ov := ov, wv := wv }) := by simp [hD3, u3]
  have hw4 : wr (sto w3 D (o + 4) [wv]) D = true := by simp [hw3]
  have e4 := g3'.size
  have i3 : ∀ c, inB wv c → (inB b.wv c ∨ (w2.heap.size ≤ c ∧ c < w3.heap.size)) := hin3
  have n3D : ∀ c, inB wv c → c ≠ D := fun c hc he => by
    rcases i3 c hc with h' | h'
    · exact nD h.was.2 (by omega) c h' he
    · omega
  have f3' : Fr (fun c => c = D ∨ inB b.wv c) w2 (sto w3 D (o + 4) [wv]) := (f3.mono fun _ h => .inr h).trans (g3'.mono fun _ h => .inl h) fun _ _ h => h
  have s3' := s3.fr g3' n3D
  generalize sto w3 D (o + 4) [wv] = w4 at *
  have fall : Fr (fun c => c = D ∨ inB b.ov c ∨ inB b.wv c) w w4 := (((f1'.mono fun c h' => h'.imp id fun h' => .inl h').trans f2 fun _ _ h => h.elim).trans (f3'.mono fun c h' => h'.imp id fun h' => .inr h') fun _ _ h => h)
  have lk3 : ∀ c, inB l c → ¬ (c = D ∨ inB b.wv c) := fun c hc h' => by
    rcases h' with h' | h'
    · exact (tl c hc).2.1 h'
    · have := h.was.2 c h'; have := (tl c hc).1; omega
  have X1 := (sl1.fr f2 fun _ _ => id).fr f3' lk3
  have tk3 : ∀ c, inB t c → ¬ (c = D ∨ inB b.wv c) := fun c hc h' => by
    have := i2 c hc
    rcases h' with h' | h'
    · omega
    · have := nz h.was.2 (by omega) c h'; omega
  have X2 := s2.1.fr f3' tk3
  have ok3 : ∀ c, inB ov c → ¬ (c = D ∨ inB b.wv c) := fun c hc h' => by
    rcases h' with h' | h'
    · exact n1D c hc h'
    · rcases i1 c hc with h'' | h''
      · have := h.opn.2 c h''; have := h.was.2 c h'; omega
      · have := nz h.was.2 (by omega) c h'; omega
  have S1 := (s1'.fr f2 fun _ _ => id).fr f3' ok3
  have hkept := h.kept (l := l) (t := t) (ov := ov) (wv := wv) fall (fun c h' => by
      rcases h' with h' | h' | h'
      · left; rw [h']; exact hb0
      · right; left; exact h.opn.2 c h'
      · right; right; exact h.was.2 c h') gd X1 X2 S1 s3' (fun c hc => ⟨(tl c hc).1, by have := (tl c hc).2.2; omega⟩)
      (fun c hc => ⟨⟨by have := i2 c hc; omega, by have := i2 c hc; omega⟩, fun hl => by have := i2 c hc; have := (tl c hl).2.2; omega⟩)
      (fun c hc => ⟨(i1 c hc).imp id fun h' => ⟨by omega, by omega⟩, fun hl => by
          rcases i1 c hc with h' | h'
          · have := h.opn.2 c h'; have := (tl c hl).1; omega
          · have := (tl c hl).2.2; omega, fun ht => by
          have := i2 c ht
          rcases i1 c hc with h' | h'
          · have := nz h.opn.2 (by omega) c h'; omega
          · omega⟩)
      (fun c hc => ⟨(i3 c hc).imp id fun h' => ⟨by omega, by omega⟩, fun hl => by
          rcases i3 c hc with h' | h'
          · have := h.was.2 c h'; have := (tl c hl).1; omega
          · have := (tl c hl).2.2; omega, fun ht => by
          have := i2 c ht
          rcases i3 c hc with h' | h'
          · have := nz h.was.2 (by omega) c h'; omega
          · omega, fun ho' => by
          rcases i3 c hc with h' | h'
          · rcases i1 c ho' with h'' | h''
            · have := h.opn.2 c h''; have := h.was.2 c h'; omega
            · have := nz h.was.2 (by omega) c h'; omega
          · rcases i1 c ho' with h'' | h''
            · have := nz h.opn.2 (by omega) c h''; omega
            · omega⟩)
  have kD : keTag bt (10 + Ls.length + Os.length) l t ov wv D = 0 := by
    have a1 : ¬ inB l D := fun h' => (tl D h').2.1 rfl
    have a2 : ¬ inB t D := fun h' => by have := i2 D h'; omega
    have a3 : ¬ inB ov D := fun h' => n1D D h' rfl
    have a4 : ¬ inB wv D := fun h' => n3D D h' rfl
    simp [keTag, a1, a2, a3, a4, hb0]
  have fout : Fr (fun c => c = D ∨ ¬ bt c = 0 ∨ inB l c) w w4 := fall.mono fun c h' => by
    rcases h' with h' | h' | h'
    · exact .inl h'
    · right; left; rw [h.opn.2 c h']; decide
    · right; left; rw [h.was.2 c h']; decide
  obtain ⟨hk1, hk2⟩ := hkept
  have hk2 : ∀ c, keTag bt (10 + Ls.length + Os.length) l t ov wv c ≠ 0 → bt c ≠ 0 ∨ inB l c ∨ w.heap.size ≤ c := fun c hc => (hk2 c hc).imp id fun h' => h'.imp id fun h' => h'.1
  have hlw := h.lw
  simp only at hlw
  by_cases h4 : Os.length + 1 ≤ 4
  · have h4' : ¬ (4 < (Os.length : Int) + 1) := by omega
    simp [h4']
    exact ⟨_, hD4, hw4, _, _, hk1, by simp; omega, by simpa using h4, kD, fout, fun c hc => by simpa using hk2 c hc⟩
  · have h4' : 4 < (Os.length : Int) + 1 := by omega
    simp [h4']
    generalize keTag bt (10 + Ls.length + Os.length) l t ov wv = kt at *
    obtain ⟨v, Os', ho1⟩ : ∃ v Os', Os ++ [l] = v :: Os' := by cases Os with
      | nil => exact ⟨_, _, rfl⟩
      | cons a r => exact ⟨_, _, rfl⟩
    obtain ⟨u, Ws', ho2⟩ : ∃ v Os', Ws ++ [t] = v :: Os' := by cases Ws with
      | nil => exact ⟨_, _, rfl⟩
      | cons a r => exact ⟨_, _, rfl⟩
    rw [ho1, ho2] at hk1
    have hol : Os'.length = Os.length := by have := congrArg List.length ho1; simpa using this.symm
    refine (book_write_run hD4 hw4 ho hk1 kD (by omega)).mono ?_
    rintro _ w5 ⟨b5, g5, bt5, y1, y2, y3, y4, y5, y6⟩
    refine ⟨b5, y1, y2, _, bt5, y3, by simp; omega, by simp only; omega, y4, fout.trans y5 fun c hc h' => ?_, fun c hc => ?_⟩
    · rcases h' with h' | h'
      · exact .inl h'
      · rcases hk2 c h' with h'' | h'' | h''
        · exact .inr (.inl h'')
        · exact .inr (.inr h'')
        · omega
    · rcases y6 c hc with h' | h'
      · simpa using hk2 c h'
      · right; right; have := fall.size; omega
theorem book_right_run (hD : bk w D = some (putB L o b)) (ho : o + 5 ≤ L.length) (h : BookM 1 mkI goodI w b ⟨Ls, Gs, Os, Ws⟩ bt) (hn : Ls.length + Os.length ≤ 1099511627776) :
    Run (F.granarylaw15_Book_Right (.pointer (some ⟨D, o, none⟩))) w fun r w' => r = .bool true ∧ Fr (fun _ => False) w w' := by
  unfold F.granarylaw15_Book_Right
  obtain ⟨g0, g1, g2, g3, g4⟩ := putB_gets ho b
  have hol := h.opn.1.1.lenL
  have hml := h.marks.1.1.lenL
  simp only [elP1_len, elI_len, marksN_len] at hol hml
  simp
  refine Run_for Os.length (fun i s w1 => s = [.int .i64 i] ∧ Fr (fun _ => False) w w1) ⟨rfl, Fr.refl _ _⟩ ?_ ?_
  · rintro i _ w1 hi ⟨rfl, f1⟩
    have hD1 := f1.bk_some hD id
    have h1 := h.fr f1 fun _ h => h.elim
    have hlw : Ws.length = Os.length := h.lw
    have e1 : Os[i]? = some Os[i] := List.getElem?_eq_getElem hi
    have e2 : Ws[i]? = some (Ws[i]'(by omega)) := List.getElem?_eq_getElem _
    generalize Os[i] = v at e1
    generalize Ws[i]'(by omega) = u at e2
    obtain ⟨els, gd, sv, su, _, _⟩ := h1.opens i v u e1 e2
    obtain ⟨q, q1, q2⟩ := h1.opn.1.1.rd1 (elP1_get e1) .i64
    obtain ⟨r, r1, r2⟩ := h1.was.1.1.rd1 (elP1_get e2) .i64
    have wi := wrap_succ (n := i) (by omega)
    have d1 : Fr (fun _ => False) w1 w1.drew := (Fr.refl _ _).drew
    simp [hD1, g3, g4, hol, hi, q1, q2, r1, r2]
    refine (book_same (sv.1.fr0 d1) (su.fr0 d1) gd).mono ?_
    rintro _ w2 ⟨rfl, f2⟩
    simp [wi]
    exact f1.trans (d1.trans f2 fun _ _ => id) fun _ _ => id
  rintro _ w0 ⟨rfl, f0⟩
  have hD0 := f0.bk_some hD id
  simp [hD0, g3, hol]
  refine Run_for Ls.length (fun i s w1 => s = [.int .i64 i] ∧ Fr (fun _ => False) w w1) ⟨rfl, f0⟩ ?_ ?_
  · rintro i _ w1 hi ⟨rfl, f1⟩
    have hD1 := f1.bk_some hD id
    have h1 := h.fr f1 fun _ h => h.elim
    have hlg : Gs.length = Ls.length := h.lg
    have e1 : Ls[i]? = some Ls[i] := List.getElem?_eq_getElem hi
    have e2 : Gs[i]? = some (Gs[i]'(by omega)) := List.getElem?_eq_getElem _
    generalize Ls[i] = v at e1
    generalize Gs[i]'(by omega) = u at e2
    obtain ⟨n, n', hn1, hn2, sv, su, _, _⟩ := h1.written i v u e1 e2
    obtain ⟨q, q1, q2⟩ := h1.lists.1.1.rd1 (elP1_get e1) .i64
    have em : (elI (marksN Ls.length))[i]? = some [.int .i64 (5000000 + (i : Int))] := by rw [elI_get, marksN_get hi]; rfl
    obtain ⟨m, m1, m2⟩ := h1.marks.1.1.rd1 em .i64
    have wi := wrap_succ (n := i) (by omega)
    have d1 : Fr (fun _ => False) w1 w1.drew := (Fr.refl _ _).drew
    simp [hD1, g0, g2, hml, hi, q1, q2, m1, m2]
    refine (book_marked (sv.fr0 d1) (by omega)).mono ?_
    rintro _ w2 ⟨rfl, f2⟩
    have f12 : Fr (fun _ => False) w1 w2 := d1.trans f2 fun _ _ => id
    have hD2 := f12.bk_some hD1 id
    have h2 := h1.fr f12 fun _ h => h.elim
    obtain ⟨q', q1', q2'⟩ := h2.grown.1.1.rd1 (elP1_get e2) .i64
    obtain ⟨m', m1', m2'⟩ := h2.marks.1.1.rd1 em .i64
    simp [hD2, g1, g2, q1', q2', m1', m2']
    refine (book_marked (su.fr0 f12) (by omega)).mono ?_
    rintro _ w3 ⟨rfl, f3⟩
    simp [wi]
    exact (f1.trans f12 fun _ _ => id).trans f3 fun _ _ => id
  rintro _ w1 ⟨rfl, f1⟩
  have hD1 := f1.bk_some hD id
  simp [hD1, g2, hml]
  exact f1
theorem book_last_run (hD : bk w D = some (putB L o b)) (hw : wr w D = true) (ho : o + 5 ≤ L.length) (h : BookM 1 mkI goodI w b ⟨Ls, Gs, Os, Ws⟩ bt) (hb0 : bt D = 0) (hn : Ls.length + Os.length ≤ 1099511627776) :
    Run (F.granarylaw15_Book_Last (.pointer (some ⟨D, o, none⟩))) w fun r w' => r = .bool true ∧ (∃ b', bk w' D = some (putB L o b')) ∧ wr w' D = true ∧ Fr (fun c => c = D ∨ bt c ≠ 0) w w' := by
  unfold F.granarylaw15_Book_Last
  refine Run_bind.2 ?_
  refine (book_right_run hD ho h hn).mono ?_
  rintro _ w1 ⟨rfl, f1⟩
  have hD1 := f1.bk_some hD id
  have hw1 : wr w1 D = true := by rw [f1.wr (bk_lt hD) id]; exact hw
  have h1 := h.fr f1 fun _ h => h.elim
  have f1' : Fr (fun c => c = D ∨ bt c ≠ 0) w w1 := f1.mono fun _ h => h.elim
  simp
  refine Run_for Os.length (fun i s w2 => s = [] ∧ ∃ b2 s2 bt2, bk w2 D = some (putB L o b2) ∧ wr w2 D = true ∧ BookM 1 mkI goodI w2 b2 s2 bt2 ∧ bt2 D = 0 ∧ s2.Os.length = Os.length - i ∧ s2.Ls.length + s2.Os.length = Ls.length + Os.length ∧ Fr (fun c => c = D ∨ bt c ≠ 0) w w2 ∧ ∀ c, bt2 c ≠ 0 → bt c ≠ 0 ∨ w.heap.size ≤ c)
    ⟨rfl, b, ⟨Ls, Gs, Os, Ws⟩, bt, hD1, hw1, h1, hb0, rfl, rfl, f1', fun c hc => .inl hc⟩ ?_ ?_
  · rintro i _ w2 hi ⟨rfl, b2, ⟨Ls2, Gs2, Os2, Ws2⟩, bt2, a1, a2, a3, a4, a5, a6, a7, a8⟩
    simp only at a5 a6
    obtain ⟨g0, g1, g2, g3, g4⟩ := putB_gets ho b2
    have hol := a3.opn.1.1.lenL
    simp only [elP1_len] at hol
    have hlw : Ws2.length = Os2.length := a3.lw
    cases Os2 with
    | nil => simp at a5; omega
    | cons v Os2 =>
    cases Ws2 with
    | nil => simp at hlw
    | cons u Ws2 =>
    simp only [List.length_cons] at a5 a6 hol
    simp [a1, g3, hol]
    have hp : (0 : Int) < (Os2.length : Int) + 1 := by omega
    refine (book_write_run a1 a2 ho a3 a4 (by omega)).mono ?_
    rintro _ w3 ⟨b3, g, bt3, c1, c2, c3, c4, c5, c6⟩
    refine ⟨b3, c1, c2, _, bt3, c3, c4, by simp only; omega, by simp; omega, a7.trans c5 fun c hc h' => ?_, fun c hc => ?_⟩
    · rcases h' with h' | h'
      · exact .inl h'
      · rcases a8 c h' with h'' | h''
        · exact .inr h''
        · omega
    · have hs := a7.size
      rcases c6 c hc with h' | h'
      · simpa using a8 c h'
      · right; omega
  rintro _ w2 ⟨rfl, b2, ⟨Ls2, Gs2, Os2, Ws2⟩, bt2, a1, a2, a3, a4, a5, a6, a7, a8⟩
  simp only at a5 a6
  obtain ⟨g0, g1, g2, g3, g4⟩ := putB_gets ho b2
  have hol := a3.opn.1.1.lenL
  simp only [elP1_len] at hol
  have h0 : Os2.length = 0 := by omega
  rw [h0] at hol
  simp [a1, g3, hol]
  refine (book_right_run a1 ho a3 (by omega)).mono ?_
  rintro _ w3 ⟨rfl, f3⟩
  simp
  exact ⟨⟨b2, f3.bk_some a1 id⟩, by rw [f3.wr (bk_lt a1) id]; exact a2, a7.trans f3 fun _ _ h => h.elim⟩
end
end Go.Proofs.YtpiceodfdjihhaaGreatDoor
