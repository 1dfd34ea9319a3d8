/-
  Layer 21 (export), part P: ExportWhole: the table, the right answer, the whole.
-/
import Derived.Test.YtiggkhmopnhfaaaExportO
import Derived.Test.YtiggkhmopnhfaaaG1
namespace Go.Proofs.Ytiggkhmopnhfaaa
open Go.Lift
set_option linter.unusedSimpArgs false

/-- The table of rows, as it lies in memory. -/
structure Tab (w : World) (tv : Value) (tb : List (List Pr)) : Prop where
  ex : ∃ pvs : List Value, pvs.length = tb.length ∧ Sl 1 w tv (pvs.map fun p => [p]) ∧ ∀ (i : Nat) (p : Value) (l : List Pr), pvs[i]? = some p → tb[i]? = some l → Sl 2 w p (elP l)
  str : ∀ l ∈ tb, ∀ p ∈ l, ∃ s s' : ByteArray, p = (.string s, .string s')
  len : tb.length ≤ 1048576
theorem Tab.fr0 {w w' : World} {tv : Value} {tb : List (List Pr)} (h : Tab w tv tb) (f : Fr (fun _ => False) w w') : Tab w' tv tb := by
  obtain ⟨⟨pvs, h1, h2, h3⟩, h4, h5⟩ := h
  exact ⟨⟨pvs, h1, h2.fr0 f, fun i p l hi hl => (h3 i p l hi hl).fr0 f⟩, h4, h5⟩
/-- A partition's row. -/
def ofF (tb : List (List Pr)) (p : Int) : List Pr := if p < 0 then [] else match tb[p.toNat]? with
  | some l => if l.length > 512 then [] else l
  | none => []
theorem ofF_len (tb : List (List Pr)) (p : Int) : (ofF tb p).length ≤ 512 := by
  unfold ofF
  split
  · simp
  · split
    · split
      · simp
      · omega
    · simp
theorem ofF_str {w : World} {tv : Value} {tb : List (List Pr)} (h : Tab w tv tb) {p : Int} {x : Pr} (hx : x ∈ ofF tb p) : ∃ s s' : ByteArray, x = (.string s, .string s') := by
  unfold ofF at hx
  split at hx
  · cases hx
  · split at hx
    · rename_i l hl
      split at hx
      · cases hx
      · exact h.str l (List.mem_of_getElem? hl) x hx
    · cases hx

theorem of_run {w0 w : World} {tv : Value} {tb : List (List Pr)} (h0 : Tab w0 tv tb) (f0 : Fr (fun _ => False) w0 w) (p : Int) {Q : Value → World → Prop} (q : ∀ v, Sl 2 w0 v (elP (ofF tb p)) → Q v w) : Run (F.granarylaw21_of tv (.int .i64 p)) w Q := by
  unfold F.granarylaw21_of
  have h := h0.fr0 f0
  obtain ⟨pvs0, k1, k2, k3⟩ := h0.ex
  obtain ⟨pvs, h1, h2, h3⟩ : ∃ pvs : List Value, pvs.length = tb.length ∧ Sl 1 w tv (pvs.map fun p => [p]) ∧ ∀ (i : Nat) (p : Value) (l : List Pr), pvs[i]? = some p → tb[i]? = some l → Sl 2 w p (elP l) ∧ Sl 2 w0 p (elP l) :=
    ⟨pvs0, k1, k2.fr0 f0, fun i p l hi hl => ⟨(k3 i p l hi hl).fr0 f0, k3 i p l hi hl⟩⟩
  have hl := h2.lenL
  simp [h1] at hl
  by_cases hp : p < 0
  · have e : ofF tb p = [] := by unfold ofF; rw [if_pos hp]
    simp [hp]
    refine q _ ?_
    rw [e]; exact Sl.nil 2 w0
  obtain ⟨n, rfl⟩ : ∃ n : Nat, p = n := ⟨p.toNat, by omega⟩
  by_cases hn : tb.length ≤ n
  · have e : ofF tb n = [] := by unfold ofF; rw [if_neg hp, Int.toNat_natCast, List.getElem?_eq_none hn]
    have hn' : (tb.length : Int) ≤ n := by omega
    simp [hp, hl, hn, hn']
    refine q _ ?_
    rw [e]; exact Sl.nil 2 w0
  have hn' : ¬ (tb.length : Int) ≤ n := by omega
  have e1 : tb[n]? = some tb[n] := List.getElem?_eq_getElem (by omega)
  have e2 : pvs[n]? = some (pvs[n]'(by omega)) := List.getElem?_eq_getElem (by omega)
  generalize tb[n] = l at e1
  generalize pvs[n]'(by omega) = pv at e2
  obtain ⟨hs, hs0⟩ := h3 n pv l e2 e1
  obtain ⟨a, a1, a2⟩ := h2.rdF (i := n) (e := [pv]) (by simp [e2]) .i64
  obtain ⟨z, z1, z2⟩ := a2 0 (by decide)
  have z2' : ld1 z w = some pv := z2
  have hsl := hs.lenL
  simp at hsl
  by_cases hb : l.length > 512
  · have e : ofF tb n = [] := by unfold ofF; rw [if_neg hp, Int.toNat_natCast, e1]; simp only [hb, if_true]
    have hb' : (512 : Int) < l.length := by omega
    simp [hp, hl, hn, hn', a1, z1, z2', hsl, hb, hb']
    refine q _ ?_
    rw [e]; exact Sl.nil 2 w0
  · have e : ofF tb n = l := by unfold ofF; rw [if_neg hp, Int.toNat_natCast, e1]; simp only [hb, if_false]
    have hb' : ¬ (512 : Int) < l.length := by omega
    simp [hp, hl, hn, hn', a1, z1, z2', hsl, hb, hb']
    refine q _ ?_
    rw [e]; exact hs0

/-- The right answer. -/
def rightF (tb : List (List Pr)) (q : Ms) : Ms :=
  if q.prev < 0 then ⟨16, q.to, q.sender, q.id, 0, q.seq, q.version, q.prev, 16, .string ByteArray.empty, .string ByteArray.empty⟩
  else match (ofF tb q.seq)[q.prev.toNat]? with
    | some p => ⟨16, q.to, q.sender, q.id, 0, q.seq, q.version, q.prev, 0, p.1, p.2⟩
    | none => ⟨16, q.to, q.sender, q.id, 0, q.seq, q.version, q.prev, 16, .string ByteArray.empty, .string ByteArray.empty⟩
theorem rightF_fine {w : World} {tv : Value} {tb : List (List Pr)} (h : Tab w tv tb) (q : Ms) : (rightF tb q).fine := by
  unfold rightF
  split
  · exact ⟨isCell_string _, isCell_string _⟩
  · split
    · rename_i p hp
      obtain ⟨s, s', rfl⟩ := ofF_str h (List.mem_of_getElem? hp)
      exact ⟨isCell_string _, isCell_string _⟩
    · exact ⟨isCell_string _, isCell_string _⟩

theorem Ms.ldA {m : Ms} {w : World} {b : Nat} (h : bk w b = some m.cells) : Go.Lift.ldA 11 (.pointer (some ⟨b, 0, none⟩)) w = some m.val := by
  rw [ldA_bk h (by simp)]; rfl
theorem right_run {w : World} {tv : Value} {tb : List (List Pr)} (h : Tab w tv tb) (q : Ms) : Run (F.granarylaw21_right tv q.val) w fun r w' => r = (rightF tb q).val ∧ Fr (fun _ => False) w w' := by
  unfold F.granarylaw21_right
  simp [-ldA_ptr]
  refine Run_new fun c w1 hc _ f1 hcle => ?_
  have hc1 : bk w1 c = some q.cells := by simpa using hc
  refine Run_new fun r w2 hr hrw f2 hrle => ?_
  have hc2 := f2.bk_some hc1 id
  simp [-ldA_ptr, hc2, Ms.cells, buildV, fillV_cell]
  refine Run_newSt (cs := #[.int .i64 16, .int .i64 q.to, .int .i64 q.sender, .int .i64 q.id, .int .i64 0, .int .i64 q.seq, .int .i64 q.version, .int .i64 q.prev, .int .i64 0, .string ByteArray.empty, .string ByteArray.empty]) rfl rfl (by simp) fun m w3 hm hmw f3 hmle => ?_
  have hc3 := f3.bk_some hc2 id
  have hr3 := f3.bk_some hr id
  have hrw3 : wr w3 r = true := by rw [f3.wr (bk_lt hr) id]; exact hrw
  have f13 : Fr (fun _ => False) w w3 := (f1.trans f2 fun _ _ => id).trans f3 fun _ _ => id
  have hrm : r ≠ m := by have := bk_lt hr; omega
  have hcm : c ≠ m := by have := bk_lt hc2; omega
  have hml : w.heap.size ≤ m := by have := f1.size; have := f2.size; omega
  have hrl : w.heap.size ≤ r := by have := f1.size; omega
  simp [-ldA_ptr, hc3, Ms.cells]
  refine of_run h f13 q.seq fun v hv0 => ?_
  have hv := hv0.fr0 f13
  have hvl := hv.lenL
  simp at hvl
  have tail : ∀ (a : Ms) (w4 : World), bk w4 m = some a.cells → a.fine → bk w4 r = bk w3 r → wr w4 r = true → Fr (fun _ => False) w w4 →
      Run (M.bind (rdM (ldA 11 (.pointer (some ⟨m, 0, none⟩)))) fun x49 => M.bind (stM 11 (.pointer (some ⟨r, 0, none⟩)) x49) fun _ => M.bind (rdM (ldA 11 (.pointer (some ⟨r, 0, none⟩)))) fun x51 => M.ret x51) w4 fun o w' => o = a.val ∧ Fr (fun _ => False) w w' := by
    intro a w4 h1 h2 h3 h4 h5
    have hall := Ms.cells_all h2
    rw [hr3] at h3
    simp [-ldA_ptr, Ms.ldA h1, h3, h4]
    refine ⟨fun i hi => List.all_eq_true.1 hall _ (List.getElem_mem _), _, ?_, rfl, h5.sto (.inr hrl) _ _⟩
    rw [ldA_bk (l := a.cells) (by rw [bk_sto_eq, h3]; simp [Ms.cells]) (by simp)]; rfl
  by_cases hp : q.prev < 0
  · have e : rightF tb q = ⟨16, q.to, q.sender, q.id, 0, q.seq, q.version, q.prev, 16, .string ByteArray.empty, .string ByteArray.empty⟩ := by unfold rightF; rw [if_pos hp]
    rw [e]
    simp [-ldA_ptr, hc3, Ms.cells, hp, hm, hmw]
    have := tail ⟨16, q.to, q.sender, q.id, 0, q.seq, q.version, q.prev, 16, .string ByteArray.empty, .string ByteArray.empty⟩ (sto w3 m 8 [.int .i64 16]) (by simp [hm, Ms.cells]) ⟨isCell_string _, isCell_string _⟩ (bk_sto_ne hrm _ _) (by simp [hrw3]) (f13.sto (.inr hml) _ _)
    simpa [-ldA_ptr] using this
  obtain ⟨n, hn⟩ : ∃ n : Nat, q.prev = n := ⟨q.prev.toNat, by omega⟩
  by_cases hle : (ofF tb q.seq).length ≤ n
  · have e : rightF tb q = ⟨16, q.to, q.sender, q.id, 0, q.seq, q.version, q.prev, 16, .string ByteArray.empty, .string ByteArray.empty⟩ := by unfold rightF; rw [if_neg hp, hn, Int.toNat_natCast, List.getElem?_eq_none hle]
    rw [e]
    have hle' : ((ofF tb q.seq).length : Int) ≤ q.prev := by omega
    simp [-ldA_ptr, hc3, Ms.cells, hp, hm, hmw, hvl, hle']
    have := tail ⟨16, q.to, q.sender, q.id, 0, q.seq, q.version, q.prev, 16, .string ByteArray.empty, .string ByteArray.empty⟩ (sto w3 m 8 [.int .i64 16]) (by simp [hm, Ms.cells]) ⟨isCell_string _, isCell_string _⟩ (bk_sto_ne hrm _ _) (by simp [hrw3]) (f13.sto (.inr hml) _ _)
    simpa [-ldA_ptr] using this
  have ep : (ofF tb q.seq)[n]? = some ((ofF tb q.seq)[n]'(by omega)) := List.getElem?_eq_getElem (by omega)
  generalize (ofF tb q.seq)[n]'(by omega) = p at ep
  obtain ⟨s, s', rfl⟩ := ofF_str h (List.mem_of_getElem? ep)
  have e : rightF tb q = ⟨16, q.to, q.sender, q.id, 0, q.seq, q.version, q.prev, 0, .string s, .string s'⟩ := by unfold rightF; rw [if_neg hp, hn, Int.toNat_natCast, ep]
  rw [e]
  have hle' : ¬ ((ofF tb q.seq).length : Int) ≤ q.prev := by omega
  have hee : (elP (ofF tb q.seq))[n]? = some [.string s, .string s'] := by simp [elP, ep]
  obtain ⟨u, o, l, i1, i2, i3, i4, _⟩ := hv.rd (by decide) hee .i64
  rw [← hn] at i1
  have g0 : l[o]? = some (.string s) := take_get (j := 0) i4 (by decide)
  have g1 : l[o + 1]? = some (.string s') := take_get (j := 1) i4 (by decide)
  have hum : u ≠ m := by
    obtain ⟨u', o', l', j1, j2, _⟩ := hv0.rd (by decide) hee .i64
    rw [← hn, i1] at j1
    have := bk_lt j2
    simp only [Option.some.injEq, Value.pointer.injEq, Addr.mk.injEq] at j1
    omega
  simp [-ldA_ptr, hc3, Ms.cells, hp, hm, hmw, hvl, hle', i1, i2, g0, g1, bk_sto_ne hcm, bk_sto_ne hum]
  have := tail ⟨16, q.to, q.sender, q.id, 0, q.seq, q.version, q.prev, 0, .string s, .string s'⟩ (sto (sto w3 m 9 [.string s]) m 10 [.string s']) (by simp [hm, Ms.cells]) ⟨isCell_string _, isCell_string _⟩ (by rw [bk_sto_ne hrm, bk_sto_ne hrm]) (by simp [hrw3]) ((f13.sto (.inr hml) _ _).sto (.inr hml) _ _)
  simpa [-ldA_ptr] using this

/-- The pairs of the first n partitions that are not missing. -/
def wholeF (tb : List (List Pr)) (miss : List Int) : Nat → List Pr
  | 0 => []
  | n + 1 => wholeF tb miss n ++ if (n : Int) ∈ miss then [] else ofF tb n
theorem wholeF_len (tb : List (List Pr)) (miss : List Int) : ∀ n, (wholeF tb miss n).length ≤ 512 * n
  | 0 => by simp [wholeF]
  | n + 1 => by
    have := wholeF_len tb miss n
    have := ofF_len tb n
    unfold wholeF
    rw [List.length_append]
    split
    · simp; omega
    · omega
theorem wholeF_str {w : World} {tv : Value} {tb : List (List Pr)} (h : Tab w tv tb) {miss : List Int} {x : Pr} : ∀ {n}, x ∈ wholeF tb miss n → ∃ s s' : ByteArray, x = (.string s, .string s')
  | 0, hx => by cases hx
  | n + 1, hx => by
    unfold wholeF at hx
    rcases List.mem_append.1 hx with hx | hx
    · exact wholeF_str h hx
    · split at hx
      · cases hx
      · exact ofF_str h hx
/-- What is missing behind them turns nothing. -/
theorem wholeF_congr {tb : List (List Pr)} {miss miss' : List Int} : ∀ {n : Nat}, (∀ i : Nat, i < n → ((i : Int) ∈ miss ↔ (i : Int) ∈ miss')) → wholeF tb miss n = wholeF tb miss' n
  | 0, _ => rfl
  | n + 1, h => by
    have e := h n (by omega)
    unfold wholeF
    rw [wholeF_congr fun i hi => h i (by omega)]
    by_cases hn : (n : Int) ∈ miss
    · rw [if_pos hn, if_pos (e.1 hn)]
    · rw [if_neg hn, if_neg fun h' => hn (e.2 h')]

theorem elP_app (l : List Pr) (x : Pr) : elP l ++ [[x.1, x.2]] = elP (l ++ [x]) := by simp [elP]
theorem elP_some {l : List Pr} {i : Nat} {x : Pr} (h : l[i]? = some x) : (elP l)[i]? = some [x.1, x.2] := by simp [elP, h]

theorem missing_chain {w : World} {mv : Value} {miss : List Int} {j p : Nat} {A B : M Out} {Q : Out → World → Prop} (hm : Sl 1 w mv (elI miss)) (hs : miss.Pairwise (· < ·)) (ht : ∀ m ∈ miss.take j, m < (p : Int)) (hd : ∀ m ∈ miss.drop j, (p : Int) ≤ m)
    (h1 : (p : Int) ∈ miss → j < miss.length → miss[j]? = some (p : Int) → Run A w Q) (h2 : (p : Int) ∉ miss → Run B w Q) :
    Run (bindO (lenL mv) fun x3 =>
        bindO (binV BinOp.lss (.int .i64 j) x3) fun x4 =>
        M.bind (guardM x4 true (M.ret mv)) fun x5 =>
        M.bind (guardM x4 true (M.ret (.int .i64 j))) fun x6 =>
        M.bind (guardM x4 true (optM (idxA 1 x5 x6))) fun x7 =>
        M.bind (guardM x4 true (rdM (ld1 x7))) fun x8 =>
        M.bind (guardM x4 true (M.ret (.int .i64 p))) fun x9 =>
        M.bind (guardM x4 true (optM (binV BinOp.eql x8 x9))) fun x10 =>
        bindO (pickV x4 x10 (Value.bool false)) fun x11 =>
        condM x11 A B) w Q := by
  have hml' := hm.lenL
  simp only [elI_len] at hml'
  by_cases hjl : j < miss.length
  · have hjl' : (j : Int) < miss.length := by omega
    have ej : miss[j]? = some miss[j] := List.getElem?_eq_getElem hjl
    have hdj : miss.drop j = miss[j] :: miss.drop (j + 1) := List.drop_eq_getElem_cons hjl
    generalize miss[j] = m at ej hdj
    obtain ⟨a, a1, a2⟩ := hm.rd1 (i := j) (y := .int .i64 m) (by simp [ej]) .i64
    have hpd := hs.sublist (List.drop_sublist j miss)
    rw [hdj] at hpd hd
    rw [List.pairwise_cons] at hpd
    by_cases hmpe : m = p
    · have hmem : (p : Int) ∈ miss := by rw [← hmpe]; exact List.mem_of_getElem? ej
      simp [hml', hjl, hjl', a1, a2, hmpe]
      exact h1 hmem hjl (by rw [← hmpe]; exact ej)
    · have hno : (p : Int) ∉ miss := by
        intro hh
        rw [← List.take_append_drop j miss, List.mem_append, hdj, List.mem_cons] at hh
        rcases hh with hh | hh | hh
        · have := ht _ hh; omega
        · exact hmpe hh.symm
        · have := hpd.1 _ hh
          have := hd m (by simp)
          omega
      simp [hml', hjl, hjl', a1, a2, hmpe]
      exact h2 hno
  · have hjl' : ¬ (j : Int) < miss.length := by omega
    have hno : (p : Int) ∉ miss := by
      intro hh
      rw [← List.take_append_drop j miss, List.mem_append, List.drop_eq_nil_of_le (by omega)] at hh
      rcases hh with hh | hh
      · have := ht _ hh; omega
      · cases hh
    simp [hml', hjl, hjl']
    exact h2 hno

theorem whole_run {w : World} {tv mv : Value} {tb : List (List Pr)} {miss : List Int} {n : Nat} (h : Tab w tv tb) (hm : Sl 1 w mv (elI miss)) (hn : n ≤ 64) (hs : miss.Pairwise (· < ·)) (hpos : ∀ m ∈ miss, 0 ≤ m) (hml : miss.length ≤ 64) :
    Run (F.granarylaw21_whole tv (.int .i64 n) mv) w fun r w' => Sl 2 w' r (elP (wholeF tb miss n)) ∧ Fr (fun _ => False) w w' ∧ New w w' r := by
  unfold F.granarylaw21_whole
  simp only [Run_bind]
  refine Run_for n (fun p l w' => ∃ lv j, l = [lv, .int .i64 (j : Nat), .int .i64 p] ∧ Fr (fun _ => False) w w' ∧ SlW 2 w' lv (elP (wholeF tb miss p)) ∧ (∀ c, inB lv c → w.heap.size ≤ c ∧ c < w'.heap.size) ∧ j ≤ miss.length ∧ (∀ m ∈ miss.take j, m < p) ∧ ∀ m ∈ miss.drop j, (p : Int) ≤ m)
    ⟨_, 0, rfl, Fr.refl _ _, SlW.nil _ _, fun c hc => hc.elim, Nat.zero_le _, by simp, by simpa using hpos⟩ ?_ ?_
  · rintro p l w1 hp ⟨lv, j, rfl, f1, hsl, hlb, hj, ht, hd⟩
    have hp' : (p : Int) < n := by omega
    have wp := wrap_succ (n := p) (by omega)
    have wj := wrap_succ (n := j) (by omega)
    have hm1 := hm.fr0 f1
    simp only [getL_zero, getL_succ, binV_int, intBin_lss, hp', decide_true, Run_bindO_some, Run_condM_true, Run_bind]
    refine missing_chain hm1 hs ht hd (fun hmem hjl ej => ?_) (fun hno => ?_)
    · have e : wholeF tb miss (p + 1) = wholeF tb miss p := by
        conv => lhs; unfold wholeF
        rw [if_pos hmem, List.append_nil]
      have hdj : miss.drop j = (p : Int) :: miss.drop (j + 1) := by
        rw [List.drop_eq_getElem_cons hjl]
        rw [List.getElem?_eq_getElem hjl] at ej
        rw [Option.some.inj ej]
      have hpd := hs.sublist (List.drop_sublist j miss)
      rw [hdj, List.pairwise_cons] at hpd
      simp only [Run_bindO_some, intBin_add, wj, wp, Run_ret, outK_norm, getL_zero, getL_succ]
      refine ⟨lv, j + 1, rfl, f1, by rw [e]; exact hsl, hlb, hjl, fun m' hm' => ?_, fun m' hm' => ?_⟩
      · rw [List.take_add_one, ej] at hm'
        rcases List.mem_append.1 hm' with h' | h'
        · have := ht m' h'; push_cast; omega
        · simp at h'; push_cast; omega
      · have := hpd.1 m' hm'; push_cast; omega
    · have hskip : (∀ m ∈ miss.take j, m < ((p + 1 : Nat) : Int)) ∧ ∀ m ∈ miss.drop j, ((p + 1 : Nat) : Int) ≤ m := by
        refine ⟨fun m hm => by have := ht m hm; push_cast; omega, fun m hm => ?_⟩
        have h1 := hd m hm
        have h2 : m ≠ p := fun he => hno (he ▸ List.mem_of_mem_drop hm)
        push_cast; omega
      have ew : wholeF tb miss (p + 1) = wholeF tb miss p ++ ofF tb p := by
        conv => lhs; unfold wholeF
        rw [if_neg hno]
      simp only [Run_bind]
      refine of_run h f1 p fun v hv => ?_
      have hvl := hv.lenL
      simp only [elP_len] at hvl
      have hol := ofF_len tb p
      have hwl := wholeF_len tb miss p
      refine Run_for (ofF tb p).length (fun i l w' => ∃ r, l = [r, .int .i64 i] ∧ Fr (fun _ => False) w w' ∧ SlW 2 w' r (elP (wholeF tb miss p ++ (ofF tb p).take i)) ∧ ∀ c, inB r c → w.heap.size ≤ c ∧ c < w'.heap.size) ⟨lv, rfl, f1, by simpa using hsl, hlb⟩ ?_ ?_
      · rintro i l w3 hi ⟨r, rfl, f3, hr, hrb⟩
        have ei : (ofF tb p)[i]? = some (ofF tb p)[i] := List.getElem?_eq_getElem hi
        generalize (ofF tb p)[i] = x at ei
        obtain ⟨s, s', rfl⟩ := ofF_str h (List.mem_of_getElem? ei)
        obtain ⟨a, a1, a2⟩ := (hv.fr0 f3).rdA (by decide) (elP_some ei) .i64
        have hi' : (i : Int) < (ofF tb p).length := by omega
        have wi := wrap_succ (n := i) (by omega)
        simp [-ldA_ptr, hvl, hi, hi', a1, a2]
        refine Run_app1 (k := 2) rfl hr (by decide) rfl (by decide) (by simp) (by simp; omega) fun r' w4 hs4 f4 hin w14 f14 => ?_
        simp [wi]
        have f3s := f3.size
        have f4s := f4.size
        refine ⟨f3.new f4 fun c hc => (hrb c hc).1, ?_, fun c hc => ?_⟩
        · have e : wholeF tb miss p ++ (ofF tb p).take (i + 1) = (wholeF tb miss p ++ (ofF tb p).take i) ++ [(.string s, .string s')] := by rw [List.take_add_one, ei]; simp
          rw [e, ← elP_app]
          exact hs4
        · rcases hin c hc with h' | h'
          · have := hrb c h'; omega
          · omega
      · rintro l w3 ⟨r, rfl, f3, hr, hrb⟩
        rw [List.take_length] at hr
        simp [hvl, wp]
        exact ⟨r, j, ⟨rfl, rfl⟩, f3, by rw [ew]; exact hr, hrb, hj, hskip.1, hskip.2⟩
  · rintro l w1 ⟨lv, j, rfl, f1, hsl, hlb, _⟩
    simp
    exact ⟨hsl.1, f1, hlb⟩

theorem sameInts_run {w : World} {av bv : Value} {l : List Int} (ha : Sl 1 w av (elI l)) (hb : Sl 1 w bv (elI l)) (hl : l.length ≤ 1048576) :
    Run (F.granarylaw21_sameInts av bv) w fun r w' => r = .bool true ∧ Fr (fun _ => False) w w' := by
  unfold F.granarylaw21_sameInts
  have hal := ha.lenL
  have hbl := hb.lenL
  simp only [elI_len] at hal hbl
  simp [hal, hbl]
  refine Run_for l.length (fun i s w' => s = [.int .i64 i] ∧ Fr (fun _ => False) w w') ⟨rfl, Fr.refl _ _⟩ ?_ ?_
  · rintro i s w1 hi ⟨rfl, f1⟩
    have ei : l[i]? = some l[i] := List.getElem?_eq_getElem hi
    generalize l[i] = n at ei
    obtain ⟨p, p1, p2⟩ := (ha.fr0 f1).rd1 (elI_some ei) .i64
    obtain ⟨q, q1, q2⟩ := (hb.fr0 f1).rd1 (elI_some ei) .i64
    have wi := wrap_succ (n := i) (by omega)
    have hi' : (i : Int) < l.length := by omega
    simp [hal, hi, hi', p1, p2, q1, q2, wi]
    exact f1.drew
  · rintro s w1 ⟨rfl, f1⟩
    simp [hal]
    exact f1
theorem samePairs_run {w : World} {av bv : Value} {l : List Pr} (ha : Sl 2 w av (elP l)) (hb : Sl 2 w bv (elP l)) (hl : l.length ≤ 1048576) (hs : ∀ p ∈ l, ∃ s s' : ByteArray, p = (.string s, .string s')) :
    Run (F.granarylaw21_samePairs av bv) w fun r w' => r = .bool true ∧ Fr (fun _ => False) w w' := by
  unfold F.granarylaw21_samePairs
  have hal := ha.lenL
  have hbl := hb.lenL
  simp only [elP_len] at hal hbl
  simp [hal, hbl]
  refine Run_for l.length (fun i s w' => s = [.int .i64 i] ∧ Fr (fun _ => False) w w') ⟨rfl, Fr.refl _ _⟩ ?_ ?_
  · rintro i s w1 hi ⟨rfl, f1⟩
    have ei : l[i]? = some l[i] := List.getElem?_eq_getElem hi
    generalize l[i] = n at ei
    obtain ⟨s, s', rfl⟩ := hs n (List.mem_of_getElem? ei)
    obtain ⟨p, p1, p2⟩ := (ha.fr0 f1).rdA (by decide) (elP_some ei) .i64
    obtain ⟨q, q1, q2⟩ := (hb.fr0 f1).rdA (by decide) (elP_some ei) .i64
    have wi := wrap_succ (n := i) (by omega)
    have hi' : (i : Int) < l.length := by omega
    simp [-ldA_ptr, hal, hi, hi', p1, p2, q1, q2, wi]
    exact f1.drew
  · rintro s w1 ⟨rfl, f1⟩
    simp [hal]
    exact f1

end Go.Proofs.Ytiggkhmopnhfaaa
