/-
  Layer 4 (paper): part V: all notes that a text begins with, on both sides.
-/
import Derived.Test.YthlpfhjcdedhgaaDoorPapU
namespace Go.Proofs.YthlpfhjcdedhgaaDoor
open Go.Lift Go.Sort
set_option linter.unusedSimpArgs false
set_option linter.unusedVariables false
set_option maxHeartbeats 4000000
def allL (ns : List Nt) : List UInt8 := (ns.map noteL).flatten
/-- The notes that a text begins with. -/
structure Chn (l : List UInt8) (ns : List Nt) : Prop where
  ok : ∀ n ∈ ns, n.ok
  pre : allL ns <+: l
  far : ∀ n : Nt, n.ok → ¬ noteL n <+: l.drop (allL ns).length
theorem note_len (n : Nt) : 1 ≤ (noteL n).length := by simp [noteL]; omega
theorem chain_ex : ∀ (k : Nat) (l : List UInt8), l.length ≤ k → ∃ ns, Chn l ns
  | 0, l, h => ⟨[], ⟨fun _ h => (nomatch h), List.nil_prefix, fun n _ hp => by
      have h1 := hp.length_le
      have h2 := note_len n
      rw [List.length_drop] at h1; omega⟩⟩
  | k + 1, l, h => by
    by_cases hg : ∃ n : Nt, n.ok ∧ noteL n <+: l
    · obtain ⟨n, hn, t, ht⟩ := hg
      have h1 := note_len n
      obtain ⟨ns, c1, c2, c3⟩ := chain_ex k t (by rw [← ht, List.length_append] at h; omega)
      refine ⟨n :: ns, fun m hm => ?_, ?_, fun m hm => ?_⟩
      · rcases List.mem_cons.1 hm with rfl | hm
        · exact hn
        · exact c1 m hm
      · obtain ⟨r, hr⟩ := c2
        exact ⟨r, by rw [← ht, ← hr]; simp [allL]⟩
      · have := c3 m hm
        rw [← ht]
        have e : (noteL n ++ t).drop (allL (n :: ns)).length = t.drop (allL ns).length := by
          simp only [allL, List.map_cons, List.flatten_cons, List.length_append, List.drop_append]
          rw [List.drop_of_length_le (by omega)]
          simp
        rw [e]; exact this
    · refine ⟨[], ⟨fun _ h => (nomatch h), List.nil_prefix, fun n hn hp => hg ⟨n, hn, by simpa [allL] using hp⟩⟩⟩
theorem Chn.at {l : List UInt8} {ns : List Nt} (h : Chn l ns) {i : Nat} {n : Nt} (hi : ns[i]? = some n) : n.ok ∧ noteL n <+: l.drop (allL (ns.take i)).length ∧ allL (ns.take (i + 1)) = allL (ns.take i) ++ noteL n ∧ (allL (ns.take i)).length + (noteL n).length ≤ l.length := by
  have e : allL (ns.take (i + 1)) = allL (ns.take i) ++ noteL n := by
    rw [take_snocP hi]; simp [allL]
  have hsplit : allL ns = allL (ns.take (i + 1)) ++ allL (ns.drop (i + 1)) := by
    unfold allL
    rw [← List.flatten_append, ← List.map_append, List.take_append_drop]
  obtain ⟨r, hr⟩ := h.pre
  rw [hsplit, e] at hr
  refine ⟨h.ok n (List.mem_of_getElem? hi), ⟨allL (ns.drop (i + 1)) ++ r, ?_⟩, e, ?_⟩
  · rw [← hr]; simp
  · rw [← hr, List.length_append, List.length_append, List.length_append]; omega
theorem Chn.count {l : List UInt8} {ns : List Nt} (h : Chn l ns) : ns.length ≤ l.length := by
  have h1 := h.pre.length_le
  have h2 : ∀ ns : List Nt, ns.length ≤ (allL ns).length := fun ns => by
    induction ns with
    | nil => simp
    | cons n ns ih =>
      have := note_len n
      simp only [allL, List.map_cons, List.flatten_cons, List.length_append, List.length_cons] at ih ⊢
      omega
  have := h2 ns
  omega
theorem nt_line (n : Nt) : noteL n = jn 32 (wordsL n) ++ 10 :: [] := note_words n
section
variable {w w1 w2 : World}
def Nt.row (n : Nt) : List Value := [.int .i64 n.k, .int .i64 n.f, .int .i64 n.u, .int .i64 n.c]
/-- A list of notes of one's own. -/
structure OwnN (w w1 : World) (v : Value) (ns : List Nt) : Prop where
  sl : SlW 4 w1 v (ns.map Nt.row)
  fresh : ∀ c, inB v c → w.heap.size ≤ c ∧ c < w1.heap.size
  fr : Fr (fun _ => False) w w1
theorem OwnN.frm {v : Value} {ns : List Nt} (h : OwnN w w1 v ns) (f : Fr (fun _ => False) w1 w2) : OwnN w w2 v ns := ⟨h.sl.fr f fun _ _ => id, fun c hc => ⟨(h.fresh c hc).1, Nat.lt_of_lt_of_le (h.fresh c hc).2 f.size⟩, h.fr.trans f fun _ _ => id⟩
theorem ownN_app {v : Value} {ns : List Nt} (h : OwnN w w1 v ns) (n : Nt) {a1 a2 : Nat} (hl : ns.length ≤ 4294967296) {K : Value → World → Prop} (q : ∀ r w2, OwnN w w2 r (ns ++ [n]) → Fr (inB v) w1 w2 → K r w2) :
    Run (bslM a1 1 (Builtin.zeroCells #[(Value.int IntKind.i64 0), (Value.int IntKind.i64 0), (Value.int IntKind.i64 0), (Value.int IntKind.i64 0)] 1) [(0, 4, n.v)]) w1 fun a w2 => Run (appM a2 4 32 #[(Value.int IntKind.i64 0), (Value.int IntKind.i64 0), (Value.int IntKind.i64 0), (Value.int IntKind.i64 0)] v a) w2 fun r w' => K r w' := by
  refine Run_app1 (K := fun _ r w' => K r w') (k := 4) (y := n.v) rfl h.sl (by decide) rfl (by decide) rfl (by simp only [List.length_map]; omega) fun r w2 hr f2 hin w3 f3 => q r w2 ?_ f2
  have s := f2.size
  refine ⟨by rw [List.map_append]; exact hr, fun c hc => ?_, h.fr.new f2 fun c hc => (h.fresh c hc).1⟩
  have s0 := h.fr.size
  rcases hin c hc with hc | hc
  · have := h.fresh c hc; omega
  · omega
/-- What is answered for a text. -/
structure ParP (w w' : World) (l : List UInt8) (r : Value) : Prop where
  val : ∃ v ns, r = .tuple #[v, .int .i64 (((allL ns).length : Nat) : Int)] ∧ Chn l ns ∧ SlW 4 w' v (ns.map Nt.row) ∧ ∀ c, inB v c → w.heap.size ≤ c ∧ c < w'.heap.size
  fr : Fr (fun _ => False) w w'
theorem parse_run (ht : Tb w) {l : List UInt8} (hl : l.length ≤ 4294966000) {ns : List Nt} (hc : Chn l ns) : Run (F.paper_ParseNotes (.string (sb l))) w fun r w' => ∃ v, r = .tuple #[v, .int .i64 (((allL ns).length : Nat) : Int)] ∧ OwnN w w' v ns := by
  unfold F.paper_ParseNotes
  rw [Run_bind]
  have hcn := hc.count
  have e10 : ByteArray.mk #[10] = sb [10] := rfl
  rw [e10]
  refine Run_for ns.length (fun i L w' => ∃ v, L = [v, .int .i64 (((allL (ns.take i)).length : Nat) : Int)] ∧ OwnN w w' v (ns.take i)) ⟨_, rfl, SlW.nil _ _, fun _ h => h.elim, Fr.refl _ _⟩ ?_ ?_
  · rintro i L w1 hi ⟨v, rfl, hO⟩
    obtain ⟨n, hn⟩ : ∃ n, ns[i]? = some n := ⟨_, List.getElem?_eq_getElem hi⟩
    obtain ⟨hok, ⟨t, ht2⟩, hnext, hle⟩ := hc.at hn
    rw [hnext, List.length_append, take_snocP hn]
    have hcut : cutL 10 (l.drop (allL (ns.take i)).length) = some (jn 32 (wordsL n), t) := by
      rw [← ht2, nt_line]
      simp only [List.append_assoc, List.cons_append, List.nil_append]
      exact cut_at (no10w n)
    have hnl := nt_line n
    have hlen : (noteL n).length = (jn 32 (wordsL n)).length + 1 := by rw [hnl]; simp
    generalize (allL (ns.take i)).length = p at *
    have hsl := slFrom (l := l) (n := p) (by omega)
    have hdl : (l.drop p).length ≤ l.length := by rw [List.length_drop]; omega
    rw [getL_succ, getL_zero, hsl, Run_bindO_some, Run_bind]
    refine (cut_run (l.drop p) 10 (by omega)).mono ?_
    rintro _ w2 ⟨rfl, f2⟩
    rw [hcut]
    have t2 := (ht.fr0 hO.fr).fr0 f2
    have x0 : extV 0 (.tuple #[.string (sb (jn 32 (wordsL n))), .string (sb t), .bool true]) = some (.string (sb (jn 32 (wordsL n)))) := rfl
    have x1 : extV 1 (.tuple #[.string (sb (jn 32 (wordsL n))), .string (sb t), .bool true]) = some (.string (sb t)) := rfl
    have x2 : extV 2 (.tuple #[.string (sb (jn 32 (wordsL n))), .string (sb t), .bool true]) = some (.bool true) := rfl
    have ec : cutV (l.drop p) (some (jn 32 (wordsL n), t)) = .tuple #[.string (sb (jn 32 (wordsL n))), .string (sb t), .bool true] := rfl
    rw [ec]
    rw [x0, Run_bindO_some, x1, Run_bindO_some, x2, Run_bindO_some, Run_bind]
    refine (note_run t2 (jn 32 (wordsL n)) (by omega)).mono ?_
    rintro _ w3 ⟨⟨m, b, rfl, hb1, hb2⟩, f3⟩
    obtain ⟨rfl, rfl⟩ := hb2 n hok hnl
    have y0 : extV 0 (.tuple #[m.v, .bool true]) = some m.v := rfl
    have y1 : extV 1 (.tuple #[m.v, .bool true]) = some (.bool true) := rfl
    rw [y0, Run_bindO_some, y1, Run_bindO_some, Run_bind]
    refine Run_new fun x10 w4 hx10 hw10 f4 hxle => ?_
    rw [Run_bind, Run_stM (by rfl) (by rfl) ⟨⟨_, hx10, by simp [Nt.v, Value.cells]⟩, hw10⟩]
    have hb := bk_sto_same (o := 0) hx10 m.v.cells.toList
    have f5 : Fr (fun _ => False) w3 (sto w4 x10 0 m.v.cells.toList) := f4.sto (.inr hxle) _ _
    have hO5 := ((hO.frm f2).frm f3).frm f5
    have l10 : ldA 4 (.pointer (some ⟨x10, 0, none⟩)) (sto w4 x10 0 m.v.cells.toList) = some m.v := ldA_bk hb (by first | exact Nat.le_refl _ | simp)
    generalize sto w4 x10 0 m.v.cells.toList = w5 at *
    have nv : notV (.bool true) = some (.bool false) := rfl
    simp only [nv, Run_bindO_some, Run_bind, Run_guardM_ff, Run_ret, Run_optM_some, pickV_bool, cond_false, Run_condM_false, Run_rdM]
    refine ⟨_, l10, ?_⟩
    rw [getL_zero]
    refine ownN_app hO5 m (by rw [List.length_take]; omega) fun r w6 h6 _ => ?_
    have hw1 : IntKind.i64.wrap (((jn 32 (wordsL m)).length : Int) + 1) = (((jn 32 (wordsL m)).length + 1 : Nat) : Int) := wrap_succ' (by omega)
    have hw2 : IntKind.i64.wrap ((p : Int) + (((jn 32 (wordsL m)).length + 1 : Nat) : Int)) = ((p + ((jn 32 (wordsL m)).length + 1) : Nat) : Int) := by rw [show (p : Int) + (((jn 32 (wordsL m)).length + 1 : Nat) : Int) = ((p + ((jn 32 (wordsL m)).length + 1) : Nat) : Int) by omega]; exact i64W (by omega)
    rw [lenS_string, sb_size, Run_bindO_some, binV_int, intBin_add, hw1, Run_bindO_some, binV_int, intBin_add, hw2, Run_bindO_some, Run_ret, hlen]
    exact ⟨r, rfl, h6⟩
  · rintro L w1 ⟨v, rfl, hO⟩
    rw [List.take_length] at hO ⊢
    have hpl := hc.pre.length_le
    have hfar := hc.far
    generalize (allL ns).length = p at *
    have hsl := slFrom (l := l) (n := p) hpl
    have hdl : (l.drop p).length ≤ l.length := by rw [List.length_drop]; omega
    rw [getL_succ, getL_zero, hsl, Run_bindO_some, Run_bind]
    refine (cut_run (l.drop p) 10 (by omega)).mono ?_
    rintro _ w2 ⟨rfl, f2⟩
    have t2 := (ht.fr0 hO.fr).fr0 f2
    obtain ⟨s, t, e, hcv, hlen, hgood⟩ : ∃ (s t : List UInt8) (e : Bool), cutV (l.drop p) (cutL 10 (l.drop p)) = .tuple #[.string (sb s), .string (sb t), .bool e] ∧ s.length ≤ l.length ∧ (e = true → l.drop p = s ++ 10 :: t) := by
      cases hcu : cutL 10 (l.drop p) with
      | some q =>
        have := (cut_some (x := q.1) (y := q.2) hcu).1
        refine ⟨q.1, q.2, true, rfl, ?_, fun _ => this⟩
        have h2 := congrArg List.length this
        rw [List.length_append] at h2
        omega
      | none => exact ⟨_, [], false, rfl, hdl, fun h => Bool.noConfusion h⟩
    rw [hcv]
    have x0 : extV 0 (.tuple #[.string (sb s), .string (sb t), .bool e]) = some (.string (sb s)) := rfl
    have x1 : extV 1 (.tuple #[.string (sb s), .string (sb t), .bool e]) = some (.string (sb t)) := rfl
    have x2 : extV 2 (.tuple #[.string (sb s), .string (sb t), .bool e]) = some (.bool e) := rfl
    rw [x0, Run_bindO_some, x1, Run_bindO_some, x2, Run_bindO_some, Run_bind]
    refine (note_run t2 s (by omega)).mono ?_
    rintro _ w3 ⟨⟨m, b, rfl, hb1, hb2⟩, f3⟩
    have heb : (!e || !b) = true := by
      cases e with
      | false => rfl
      | true =>
        cases b with
        | false => rfl
        | true =>
          obtain ⟨hok, hnl⟩ := hb1 rfl
          exact absurd ⟨t, by rw [hgood rfl, hnl]; simp⟩ (hfar m hok)
    have y0 : extV 0 (.tuple #[m.v, .bool b]) = some m.v := rfl
    have y1 : extV 1 (.tuple #[m.v, .bool b]) = some (.bool b) := rfl
    rw [y0, Run_bindO_some, y1, Run_bindO_some, Run_bind]
    refine Run_new fun x10 w4 hx10 hw10 f4 hxle => ?_
    rw [Run_bind, Run_stM (by rfl) (by rfl) ⟨⟨_, hx10, by simp [Nt.v, Value.cells]⟩, hw10⟩]
    have f5 : Fr (fun _ => False) w3 (sto w4 x10 0 m.v.cells.toList) := f4.sto (.inr hxle) _ _
    have hO5 := ((hO.frm f2).frm f3).frm f5
    generalize sto w4 x10 0 m.v.cells.toList = w5 at *
    have nv : ∀ b, notV (.bool b) = some (.bool !b) := fun _ => rfl
    have hret : ∀ K, Run (condM (.bool true) (M.ret (Out.ret (Value.tuple #[getL [v, .int .i64 (p : Int)] 0, getL [v, .int .i64 (p : Int)] 1]))) K) w5 fun o w' => match o with
        | .norm _ => False
        | o => Run (outK o (fun _ => M.fail) (fun _ _ => M.fail) fun r25 => M.ret r25) w' fun r w' => ∃ v, r = .tuple #[v, .int .i64 (p : Int)] ∧ OwnN w w' v ns := fun K => by
      rw [Run_condM_true, Run_ret]
      simp only [outK_ret, Run_ret, getL_zero, getL_succ]
      exact ⟨v, rfl, hO5⟩
    cases e with
    | false =>
      simp only [nv, Bool.not_false, Run_bindO_some, Run_bind, Run_guardM_tf, pickV_bool, cond_true]
      exact hret _
    | true =>
      cases b with
      | true => simp at heb
      | false =>
        simp only [nv, Bool.not_true, Bool.not_false, Run_bindO_some, Run_bind, Run_guardM_ff, Run_ret, Run_optM_some, pickV_bool, cond_false]
        exact hret _
end
end Go.Proofs.YthlpfhjcdedhgaaDoor
