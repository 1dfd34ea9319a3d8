/-
  Layer 4 (paper): part T: the document's note that is read.
-/
import Derived.Test.YthlpfhjcdedhgaaDoorPapS
namespace Go.Proofs.YthlpfhjcdedhgaaDoor
open Go.Lift Go.Sort
set_option linter.unusedSimpArgs false
set_option linter.unusedVariables false
set_option maxHeartbeats 4000000
section
variable {w w1 w2 : World}
/-- What is read at a place. -/
structure NoteR (w w' : World) (b : Nat) (l : List UInt8) (p : Nat) (r : Value) : Prop where
  val : ∃ m : Nt, ∃ k : Nat, r = .tuple #[m.v, .int .i64 (k : Int)] ∧ (k ≠ 0 → m.ok ∧ noteL m <+: l.drop p ∧ k = (noteL m).length) ∧ ∀ n : Nt, n.ok → noteL n <+: l.drop p → m = n ∧ k = (noteL n).length
  fr : Fr (fun c => c = b) w w'
structure RN (w0 w : World) (b : Nat) (l : List UInt8) (p : Nat) (bad : Bool) (x1 x6 : Nat) (l6 : List Value) : Prop where
  tb : Tb w
  rs : RS w b l p bad
  hp : p ≤ l.length
  b1 : bk w x1 = some [.int .i64 0, .int .i64 0, .int .i64 0, .int .i64 0]
  w1 : wr w x1 = true
  b6 : bk w x6 = some l6
  w6 : wr w x6 = true
  e6 : l6.length = 4
  n1 : w0.heap.size ≤ x1
  n6 : w0.heap.size ≤ x6
  ne : x1 ≠ x6
  nb : b < w0.heap.size
  b5 : 5 ≤ b
  fr : Fr (fun c => c = b) w0 w
theorem RN.call {w0 : World} {b p : Nat} {l : List UInt8} {bad : Bool} {x1 x6 : Nat} {l6 : List Value} (h : RN w0 w b l p bad x1 x6 l6) (f : Fr (fun c => c = b) w w2) {p' : Nat} {bad' : Bool} (rs : RS w2 b l p' bad') (hp : p' ≤ l.length) : RN w0 w2 b l p' bad' x1 x6 l6 where
  tb := h.tb.fr f fun c hc he => by have := h.b5; omega
  rs := rs
  hp := hp
  b1 := f.bk_some h.b1 fun e => by have := h.n1; have := h.nb; omega
  w1 := by rw [f.wr (bk_lt h.b1) fun e => by have := h.n1; have := h.nb; omega]; exact h.w1
  b6 := f.bk_some h.b6 fun e => by have := h.n6; have := h.nb; omega
  w6 := by rw [f.wr (bk_lt h.b6) fun e => by have := h.n6; have := h.nb; omega]; exact h.w6
  e6 := h.e6
  n1 := h.n1
  n6 := h.n6
  ne := h.ne
  nb := h.nb
  b5 := h.b5
  fr := h.fr.trans f fun _ _ he => he
theorem RN.put6 {w0 : World} {b p : Nat} {l : List UInt8} {bad : Bool} {x1 x6 : Nat} {l6 : List Value} (h : RN w0 w b l p bad x1 x6 l6) (i : Nat) (y : Value) : RN w0 (sto w x6 i [y]) b l p bad x1 x6 (l6.set i y) := by
  have f : Fr (fun c => c = x6) w (sto w x6 i [y]) := (show Fr (fun c => c = x6) w w from Fr.refl _ _).sto (.inl rfl) _ _
  have h6 := h.n6
  have hb := h.nb
  have h5 := h.b5
  exact { tb := h.tb.fr f fun c hc he => by omega
          rs := ⟨f.bk_some h.rs.1 fun e => by omega, by rw [wr_sto]; exact h.rs.2⟩
          hp := h.hp
          b1 := f.bk_some h.b1 h.ne
          w1 := by rw [wr_sto]; exact h.w1
          b6 := by rw [bk_sto_same h.b6]; simp only [setL_cons, setL_nil]
          w6 := by rw [wr_sto]; exact h.w6
          e6 := by rw [List.length_set]; exact h.e6
          n1 := h.n1, n6 := h.n6, ne := h.ne, nb := h.nb, b5 := h.b5
          fr := h.fr.sto (.inr h.n6) _ _ }
theorem RN.num {β : Type} {w0 : World} {b p : Nat} {l : List UInt8} {bad : Bool} {x1 x6 : Nat} {l6 : List Value} (h : RN w0 w b l p bad x1 x6 l6) (hl : l.length ≤ 4611686018427387904) {i : Nat} (hi : i < 4) {K : M β} {Q : β → World → Prop}
    (q : ∀ w', RN w0 w' b l (p + (rdD l p).length) (bad || (numF (rdD l p)).isNone) x1 x6 (l6.set i (.int .i64 (((numF (rdD l p)).getD 0 : Nat) : Int))) → Run K w' Q) :
    Run (M.bind (F.granaryref4_Reader_number (.pointer (some ⟨b, 0, none⟩))) fun x8 => bindO (fieldA i (.pointer (some ⟨x6, 0, none⟩))) fun x9 => M.bind (stM 1 x9 x8) fun _ => K) w Q := by
  rw [Run_bind]
  refine (rnum_run h.rs h.hp hl).mono ?_
  rintro _ w2 ⟨rfl, rs, f⟩
  have hd := rdD_len l p
  have hple := h.hp
  have h2 := h.call f rs (by omega)
  rw [fieldA_ptr, Run_bindO_some, Run_bind, Run_stM (by rfl) (by rfl) ⟨⟨l6, h2.b6, by rw [h2.e6]; show 0 + i + 1 ≤ 4; omega⟩, h2.w6⟩]
  have h3 := h2.put6 (0 + i) (.int .i64 (((numF (rdD l p)).getD 0 : Nat) : Int))
  have q2 := q (sto w2 x6 (0 + i) [.int .i64 (((numF (rdD l p)).getD 0 : Nat) : Int)])
  rw [Nat.zero_add] at h3 q2
  rw [Nat.zero_add]
  exact q2 h3
theorem RN.lit {β : Type} {w0 : World} {b p : Nat} {l : List UInt8} {bad : Bool} {x1 x6 : Nat} {l6 : List Value} (h : RN w0 w b l p bad x1 x6 l6) (hl : l.length ≤ 4611686018427387904) {y : List UInt8} (hy : y.length ≤ 4611686018427387904) {K : M β} {Q : β → World → Prop}
    (q : ∀ w' p', RN w0 w' b l p' (bad || !decide (y <+: l.drop p)) x1 x6 l6 → (bad = false → y <+: l.drop p → p' = p + y.length) → Run K w' Q) :
    Run (M.bind (F.granaryref4_Reader_lit (.pointer (some ⟨b, 0, none⟩)) (.string (sb y))) fun _ => K) w Q := by
  rw [Run_bind]
  refine (rlit_run h.rs h.hp hl hy).mono ?_
  rintro _ w2 ⟨⟨p', rs, hp', hh⟩, f⟩
  exact q w2 p' (h.call f rs hp') hh
theorem RN.sum {β : Type} {w0 : World} {b p : Nat} {l : List UInt8} {bad : Bool} {x1 x6 : Nat} {l6 : List Value} (h : RN w0 w b l p bad x1 x6 l6) (hl : l.length ≤ 4611686018427387904) {i : Nat} (hi : i < 4) {K : M β} {Q : β → World → Prop}
    (q : ∀ w' p', RN w0 w' b l p' (if bad then none else (pairsF (l.drop p) 4).map valB).isNone x1 x6 (l6.set i (.int .i64 ((((if bad then none else (pairsF (l.drop p) 4).map valB).getD 0 : Nat)) : Int))) → Run K w' Q) :
    Run (M.bind (F.granaryref4_Reader_sum (.pointer (some ⟨b, 0, none⟩))) fun x8 => bindO (fieldA i (.pointer (some ⟨x6, 0, none⟩))) fun x9 => M.bind (stM 1 x9 x8) fun _ => K) w Q := by
  rw [Run_bind]
  refine (rsum_run h.rs h.hp hl).mono ?_
  rintro _ w2 ⟨rfl, ⟨p', rs, hp', _⟩, f⟩
  have h2 := h.call f rs hp'
  generalize (if bad = true then none else (pairsF (l.drop p) 4).map valB) = o at *
  rw [fieldA_ptr, Run_bindO_some, Run_bind, Run_stM (by rfl) (by rfl) ⟨⟨l6, h2.b6, by rw [h2.e6]; show 0 + i + 1 ≤ 4; omega⟩, h2.w6⟩]
  have h3 := h2.put6 (0 + i) (.int .i64 ((o.getD 0 : Nat) : Int))
  have q2 := q (sto w2 x6 (0 + i) [.int .i64 ((o.getD 0 : Nat) : Int)]) p'
  rw [Nat.zero_add] at h3 q2
  rw [Nat.zero_add]
  exact q2 h3
end
end Go.Proofs.YthlpfhjcdedhgaaDoor
