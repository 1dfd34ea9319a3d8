/-
  Layer 4 (paper): part R: a note's line that is read.
-/
import Derived.Test.YthlpfhjcdedhgaaDoorPapQ
namespace Go.Proofs.YthlpfhjcdedhgaaDoor
open Go.Lift Go.Sort
set_option linter.unusedSimpArgs false
set_option linter.unusedVariables false
set_option maxHeartbeats 4000000
/-- Its five words. -/
def wordsL (n : Nt) : List (List UInt8) := [Lib.decDigits n.k.toNat, Lib.decDigits n.f.toNat, Lib.decDigits n.u.toNat, eightL n.c.toNat, eightL (crcF (sb (preL n)))]
theorem no32 {n : Nat} : (32 : UInt8) ∉ Lib.decDigits n := dec_no rfl
theorem no32e {n : Nat} : (32 : UInt8) ∉ eightL n := eight_no (by decide +kernel)
theorem no10 {n : Nat} : (10 : UInt8) ∉ Lib.decDigits n := dec_no rfl
theorem no10e {n : Nat} : (10 : UInt8) ∉ eightL n := eight_no (by decide +kernel)
theorem note_words (n : Nt) : noteL n = jn 32 (wordsL n) ++ [10] := by
  simp [noteL, preL, wordsL, jn, sb]
theorem words_spl (n : Nt) : spl 32 (jn 32 (wordsL n)) = wordsL n := by
  refine spl_of 32 (by simp [wordsL]) fun x hx => ?_
  simp only [wordsL, List.mem_cons, List.not_mem_nil, or_false] at hx
  rcases hx with rfl | rfl | rfl | rfl | rfl
  · exact no32
  · exact no32
  · exact no32
  · exact no32e
  · exact no32e
theorem line_words {n : Nt} {s : List UInt8} (h : noteL n = s ++ [10]) : spl 32 s = wordsL n := by
  rw [note_words] at h
  have : jn 32 (wordsL n) = s := List.append_cancel_right h
  rw [← this, words_spl]
theorem no10w (n : Nt) : (10 : UInt8) ∉ jn 32 (wordsL n) := by
  simp only [jn, wordsL, List.map_cons, List.map_nil, List.flatten_cons, List.flatten_nil, List.mem_append, List.mem_cons, List.not_mem_nil, or_false, not_or]
  exact ⟨no10, ⟨by decide, no10⟩, ⟨by decide, no10⟩, ⟨by decide, no10e⟩, ⟨by decide, no10e⟩⟩
theorem ok_read {n : Nt} (h : n.ok) : numF (Lib.decDigits n.k.toNat) = some n.k.toNat ∧ numF (Lib.decDigits n.f.toNat) = some n.f.toNat ∧ numF (Lib.decDigits n.u.toNat) = some n.u.toNat ∧ sumF (eightL n.c.toNat) = some n.c.toNat :=
  ⟨dec_num (by have := h.1; omega), dec_num (by have := h.2.1; omega), dec_num (by have := h.2.2.1; omega), eight_sum (by have := h.2.2.2; omega)⟩
theorem Nt.cast {n : Nt} (h : n.ok) : (⟨((n.k.toNat : Nat) : Int), ((n.f.toNat : Nat) : Int), ((n.u.toNat : Nat) : Int), ((n.c.toNat : Nat) : Int)⟩ : Nt) = n := by
  obtain ⟨k, f, u, c⟩ := n
  obtain ⟨h1, h2, h3, h4⟩ := h
  simp only at h1 h2 h3 h4
  simp only [Nt.mk.injEq]
  omega
section
variable {w w1 w2 : World}
/-- While a line is read. -/
structure NS (w0 w : World) (v : Value) (N : List (List UInt8)) (x1 x8 x9 : Nat) (l8 l9 : List Value) : Prop where
  tb : Tb w
  ws : Sl 1 w v (N.map fun x => [.string (sb x)])
  b1 : bk w x1 = some [.int .i64 0, .int .i64 0, .int .i64 0, .int .i64 0]
  w1 : wr w x1 = true
  b8 : bk w x8 = some l8
  w8 : wr w x8 = true
  b9 : bk w x9 = some l9
  w9 : wr w x9 = true
  e8 : l8.length = 4
  e9 : l9.length = 5
  n1 : w0.heap.size ≤ x1
  n8 : w0.heap.size ≤ x8
  n9 : w0.heap.size ≤ x9
  d8 : x1 ≠ x8 ∧ x1 ≠ x9 ∧ x8 ≠ x9 ∧ ¬ inB v x8 ∧ ¬ inB v x9
  low : 5 ≤ w0.heap.size
  fr : Fr (fun _ => False) w0 w
theorem NS.frm {w0 : World} {v : Value} {N : List (List UInt8)} {x1 x8 x9 : Nat} {l8 l9 : List Value} (h : NS w0 w v N x1 x8 x9 l8 l9) (f : Fr (fun _ => False) w w2) : NS w0 w2 v N x1 x8 x9 l8 l9 where
  tb := h.tb.fr0 f
  ws := h.ws.fr0 f
  b1 := f.bk_some h.b1 id
  w1 := by rw [f.wr (bk_lt h.b1) id]; exact h.w1
  b8 := f.bk_some h.b8 id
  w8 := by rw [f.wr (bk_lt h.b8) id]; exact h.w8
  b9 := f.bk_some h.b9 id
  w9 := by rw [f.wr (bk_lt h.b9) id]; exact h.w9
  e8 := h.e8
  e9 := h.e9
  n1 := h.n1
  n8 := h.n8
  n9 := h.n9
  d8 := h.d8
  low := h.low
  fr := h.fr.trans f fun _ _ => id
theorem NS.put8 {w0 : World} {v : Value} {N : List (List UInt8)} {x1 x8 x9 : Nat} {l8 l9 : List Value} (h : NS w0 w v N x1 x8 x9 l8 l9) (i : Nat) (y : Value) : NS w0 (sto w x8 i [y]) v N x1 x8 x9 (l8.set i y) l9 := by
  have f : Fr (fun c => c = x8) w (sto w x8 i [y]) := (show Fr (fun c => c = x8) w w from Fr.refl _ _).sto (.inl rfl) _ _
  have hl := h.low
  have h8 := h.n8
  exact { tb := h.tb.fr f fun b hb he => by omega
          ws := h.ws.fr f fun b hb he => h.d8.2.2.2.1 (he ▸ hb)
          b1 := f.bk_some h.b1 h.d8.1
          w1 := by rw [wr_sto]; exact h.w1
          b8 := by rw [bk_sto_same h.b8]; simp only [setL_cons, setL_nil]
          w8 := by rw [wr_sto]; exact h.w8
          b9 := f.bk_some h.b9 fun e => h.d8.2.2.1 e.symm
          w9 := by rw [wr_sto]; exact h.w9
          e8 := by rw [List.length_set]; exact h.e8
          e9 := h.e9, n1 := h.n1, n8 := h.n8, n9 := h.n9, d8 := h.d8, low := h.low
          fr := h.fr.sto (.inr h.n8) _ _ }
theorem NS.put9 {w0 : World} {v : Value} {N : List (List UInt8)} {x1 x8 x9 : Nat} {l8 l9 : List Value} (h : NS w0 w v N x1 x8 x9 l8 l9) (i : Nat) (y : Value) : NS w0 (sto w x9 i [y]) v N x1 x8 x9 l8 (l9.set i y) := by
  have f : Fr (fun c => c = x9) w (sto w x9 i [y]) := (show Fr (fun c => c = x9) w w from Fr.refl _ _).sto (.inl rfl) _ _
  have hl := h.low
  have h8 := h.n9
  exact { tb := h.tb.fr f fun b hb he => by omega
          ws := h.ws.fr f fun b hb he => h.d8.2.2.2.2 (he ▸ hb)
          b1 := f.bk_some h.b1 h.d8.2.1
          w1 := by rw [wr_sto]; exact h.w1
          b8 := f.bk_some h.b8 h.d8.2.2.1
          w8 := by rw [wr_sto]; exact h.w8
          b9 := by rw [bk_sto_same h.b9]; simp only [setL_cons, setL_nil]
          w9 := by rw [wr_sto]; exact h.w9
          e8 := h.e8
          e9 := by rw [List.length_set]; exact h.e9
          n1 := h.n1, n8 := h.n8, n9 := h.n9, d8 := h.d8, low := h.low
          fr := h.fr.sto (.inr h.n9) _ _ }
theorem idxR5 {x k : Nat} (h : k < 5) : idxR 5 1 (.pointer (some ⟨x, 0, none⟩)) (.int .i64 (k : Int)) = some (.pointer (some ⟨x, k, none⟩)) := by
  rw [idxR_ptr, if_pos (by omega)]; simp
theorem NS.word {β : Type} {w0 : World} {v : Value} {N : List (List UInt8)} {x1 x8 x9 : Nat} {l8 l9 : List Value} (h : NS w0 w v N x1 x8 x9 l8 l9) {i : Nat} {s : List UInt8} (hs : N[i]? = some s) {Fn : Value → M Value} {g : List UInt8 → Option Nat}
    (hF : ∀ w, Run (Fn (.string (sb s))) w fun r w' => r = numV (g s) ∧ Fr (fun _ => False) w w') {K : Value → M β} {Q : β → World → Prop} (q : ∀ w', NS w0 w' v N x1 x8 x9 l8 l9 → Run (K (numV (g s))) w' Q) :
    Run (bindO (idxA 1 v (.int .i64 (i : Int))) fun x10 => M.bind (rdM (ld1 x10)) fun x11 => M.bind (Fn x11) K) w Q := by
  obtain ⟨p, p1, p2⟩ := h.ws.rd1 (i := i) (y := .string (sb s)) (by simp [hs]) .i64
  have p1' : idxA 1 v (.int .i64 (i : Int)) = some p := p1
  rw [p1', Run_bindO_some, Run_bind, Run_rdM]
  refine ⟨_, p2, ?_⟩
  rw [Run_bind]
  refine (hF w).mono ?_
  rintro _ w' ⟨rfl, f⟩
  exact q w' (h.frm f)
theorem NS.both {β : Type} {w0 : World} {v : Value} {N : List (List UInt8)} {x1 x8 x9 : Nat} {l8 l9 : List Value} (h : NS w0 w v N x1 x8 x9 l8 l9) {i : Nat} (hi : i < 4) {o : Option Nat} {K : M β} {Q : β → World → Prop}
    (q : ∀ w', NS w0 w' v N x1 x8 x9 (l8.set i (.int .i64 ((o.getD 0 : Nat) : Int))) (l9.set i (.bool o.isSome)) → Run K w' Q) :
    Run (bindO (extV 0 (numV o)) fun x13 => bindO (extV 1 (numV o)) fun x14 => bindO (fieldA i (.pointer (some ⟨x8, 0, none⟩))) fun x15 => M.bind (stM 1 x15 x13) fun _ =>
      bindO (idxR 5 1 (.pointer (some ⟨x9, 0, none⟩)) (.int .i64 (i : Int))) fun x17 => M.bind (stM 1 x17 x14) fun _ => K) w Q := by
  have e0 : extV 0 (numV o) = some (.int .i64 ((o.getD 0 : Nat) : Int)) := rfl
  have e1 : extV 1 (numV o) = some (.bool o.isSome) := rfl
  rw [e0, Run_bindO_some, e1, Run_bindO_some, fieldA_ptr, Run_bindO_some, Run_bind, Run_stM (by rfl) (by rfl) ⟨⟨l8, h.b8, by rw [h.e8]; omega⟩, h.w8⟩, idxR5 (by omega), Run_bindO_some, Run_bind]
  have h2 := h.put8 (0 + i) (.int .i64 ((o.getD 0 : Nat) : Int))
  refine (Run_stM (w := sto w x8 (0 + i) [.int .i64 ((o.getD 0 : Nat) : Int)]) (by rfl) (by rfl) ⟨⟨l9, h2.b9, by rw [h2.e9]; omega⟩, h2.w9⟩).2 ?_
  have h3 := h2.put9 i (.bool o.isSome)
  rw [Nat.zero_add] at h3 ⊢
  exact q _ h3
end
end Go.Proofs.YthlpfhjcdedhgaaDoor
