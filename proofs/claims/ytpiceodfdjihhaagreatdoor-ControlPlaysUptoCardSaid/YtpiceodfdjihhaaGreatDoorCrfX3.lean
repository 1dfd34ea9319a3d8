import Derived.Test.YtpiceodfdjihhaaGreatDoorCrfX2
import Derived.Test.YtpiceodfdjihhaaGreatDoorLiftO
import Derived.Test.YtpiceodfdjihhaaGreatDoorLiftT
import Derived.Test.YtpiceodfdjihhaaGreatDoorRows
import Derived.WalkKit
import Derived.ProofKit
import Derived.LaidLaws
import Derived.Lib.LaidTab
/-
  The exact laws of layer 15, part O: the play's world.
-/
namespace Go.Proofs.YtpiceodfdjihhaaGreatDoor
open Go.Lift
set_option linter.unusedSimpArgs false

def wcells (C : Clu) (nv cv fv lv : Value) (b1 b2 : BV) : List Value := C.cells nv ++ (cv :: fv :: lv :: (b1.cells ++ b2.cells))
theorem wcells_gets (C : Clu) (nv cv fv lv : Value) (b1 b2 : BV) : (wcells C nv cv fv lv b1 b2).length = 36 ∧ (wcells C nv cv fv lv b1 b2)[23]? = some cv ∧ (wcells C nv cv fv lv b1 b2)[24]? = some fv ∧ (wcells C nv cv fv lv b1 b2)[25]? = some lv ∧
    (∀ x, (wcells C nv cv fv lv b1 b2).set 23 x = wcells C nv x fv lv b1 b2) ∧ (∀ x, (wcells C nv cv fv lv b1 b2).set 24 x = wcells C nv cv x lv b1 b2) ∧ (∀ x, (wcells C nv cv fv lv b1 b2).set 25 x = wcells C nv cv fv x b1 b2) ∧
    (∀ b, putB (wcells C nv cv fv lv b1 b2) 26 b = wcells C nv cv fv lv b b2) ∧ (∀ b, putB (wcells C nv cv fv lv b1 b2) 31 b = wcells C nv cv fv lv b1 b) :=
  ⟨rfl, rfl, rfl, rfl, fun _ => rfl, fun _ => rfl, fun _ => rfl, fun _ => rfl, fun _ => rfl⟩

structure PWd where
  cv : Value
  fv : Value
  lv : Value
  ms : List Ms
  b1 : BV
  b2 : BV
  s1 : BS
  s2 : BS
  bt1 : Nat → Nat
  bt2 : Nat → Nat
  own : Nat → Nat
/-- The two controllers. -/
def Pair (w : World) (C : Clu) (own : Nat → Nat) (cv fv : Value) : Option CS → Prop
  | none => cv = .pointer none ∧ fv = .pointer none
  | some x => ∃ b v tag rb v' tagR, cv = .pointer (some ⟨b, 0, none⟩) ∧ fv = .pointer (some ⟨rb, 0, none⟩) ∧ Ctl w b x v tag ∧ RefC w rb C x v' tagR ∧ COk x ∧ (∀ c, tag c ≠ 0 → own c = 1) ∧ ∀ c, tagR c ≠ 0 → own c = 2
/-- The play's world. own: whose a block is: 1 the program's, 2 the document's, 3 the last messages', 4 the book's, 5 the letters', 6 the world's own. -/
structure PW (w0 w : World) (D : Nat) (C : Clu) (nv : Value) (x : Option CS) (n1 n2 : Nat) (d : PWd) : Prop where
  f0 : Fr (fun _ => False) w0 w
  blk : bk w D = some (wcells C nv d.cv d.fv d.lv d.b1 d.b2)
  wr : wr w D = true
  oD : d.own D = 6
  pair : Pair w C d.own d.cv d.fv x
  last : SlW 11 w d.lv (elM d.ms) ∧ d.ms.length = C.nodes.length ∧ (∀ m ∈ d.ms, m.str) ∧ ∀ c, inB d.lv c → d.own c = 3
  book : BookM 1 mkI goodI w d.b1 d.s1 d.bt1 ∧ (∀ c, d.bt1 c ≠ 0 → d.own c = 4) ∧ d.s1.Ls.length + d.s1.Os.length = n1 ∧ d.s1.Os.length ≤ 4
  letters : BookM 11 mkM goodM w d.b2 d.s2 d.bt2 ∧ (∀ c, d.bt2 c ≠ 0 → d.own c = 5) ∧ d.s2.Ls.length + d.s2.Os.length = n2 ∧ d.s2.Os.length ≤ 4
  bound : ∀ c, d.own c ≠ 0 → w0.heap.size ≤ c ∧ c < w.heap.size
section
variable {w0 w w' : World} {D : Nat} {C : Clu} {nv : Value} {x : Option CS} {n1 n2 : Nat} {d : PWd}
theorem Ctl.fr_ {b : Nat} {x : CS} {v : CV} {tag : Nat → Nat} {G : Nat → Prop} (h : Ctl w b x v tag) (f : Fr G w w') (hG : ∀ c, G c → tag c = 0) : Ctl w' b x v tag := h.fr f hG
theorem Pair.fr {own own' : Nat → Nat} {cv fv : Value} {G : Nat → Prop} (h : Pair w C own cv fv x) (f : Fr G w w') (hG : ∀ c, G c → own c ≠ 1 ∧ own c ≠ 2) (ho : ∀ c, (own c = 1 ∨ own c = 2) → own' c = own c) : Pair w' C own' cv fv x := by
  cases x with
  | none => exact h
  | some x =>
    obtain ⟨b, v, tag, rb, v', tagR, h1, h2, h3, h4, h5, h6, h7⟩ := h
    refine ⟨b, v, tag, rb, v', tagR, h1, h2, h3.fr f fun c hc => ?_, h4.fr f fun c hc => ?_, h5, fun c hc => ?_, fun c hc => ?_⟩
    · exact Classical.byContradiction fun hn => (hG c hc).1 (h6 c hn)
    · exact Classical.byContradiction fun hn => (hG c hc).2 (h7 c hn)
    · rw [ho c (.inl (h6 c hc)), h6 c hc]
    · rw [ho c (.inr (h7 c hc)), h7 c hc]
/-- What nobody owns has changed. -/
theorem PW.fr {G : Nat → Prop} (h : PW w0 w D C nv x n1 n2 d) (f : Fr G w w') (hG : ∀ c, G c → d.own c = 0) (h0 : ∀ c, G c → w0.heap.size ≤ c) : PW w0 w' D C nv x n1 n2 d where
  f0 := h.f0.trans f fun c hc hg => by have := h0 c hg; omega
  blk := f.bk_some h.blk fun hg => by have := hG _ hg; rw [h.oD] at this; cases this
  wr := by rw [f.wr (bk_lt h.blk) fun hg => by have := hG _ hg; rw [h.oD] at this; cases this]; exact h.wr
  oD := h.oD
  pair := h.pair.fr f (fun c hc => by rw [hG c hc]; decide) fun _ _ => rfl
  last := ⟨h.last.1.fr f fun c hc hg => (by have := hG c hg; rw [h.last.2.2.2 c hc] at this; cases this), h.last.2⟩
  book := ⟨h.book.1.fr f fun c hg => Classical.byContradiction fun hn => (by have := hG c hg; rw [h.book.2.1 c hn] at this; cases this), h.book.2⟩
  letters := ⟨h.letters.1.fr f fun c hg => Classical.byContradiction fun hn => (by have := hG c hg; rw [h.letters.2.1 c hn] at this; cases this), h.letters.2⟩
  bound := fun c hc => ⟨(h.bound c hc).1, Nat.lt_of_lt_of_le (h.bound c hc).2 f.size⟩
theorem PW.fr0 (h : PW w0 w D C nv x n1 n2 d) (f : Fr (fun _ => False) w w') : PW w0 w' D C nv x n1 n2 d := h.fr f (fun _ h => h.elim) fun _ h => h.elim
theorem PW.own0 (h : PW w0 w D C nv x n1 n2 d) {c : Nat} (hc : w.heap.size ≤ c) : d.own c = 0 := Classical.byContradiction fun hn => by have := (h.bound c hn).2; omega
/-- A list that was handed out and lies in no hand. -/
structure Free (w0 w : World) (d : PWd) (r : Value) (out : List Ms) : Prop where
  sl : SlW 11 w r (elM out)
  own : ∀ c, inB r c → d.own c = 0 ∧ w0.heap.size ≤ c ∧ c < w.heap.size
theorem Free.nil : Free w0 w d (.slice none 0 0) [] := ⟨SlW.nil _ _, fun _ h => h.elim⟩
/-- Both controllers have made the same step. -/
theorem PW.pairs {y x' : CS} (h : PW w0 w D C nv (some y) n1 n2 d) {b : Nat} {v : CV} {tag : Nat → Nat} {rb : Nat} {v' : RV} {tagR : Nat → Nat} (hcv : d.cv = .pointer (some ⟨b, 0, none⟩)) (hfv : d.fv = .pointer (some ⟨rb, 0, none⟩))
    (hR : RefC w rb C y v' tagR) (t1 : ∀ c, tag c ≠ 0 → d.own c = 1) (t2 : ∀ c, tagR c ≠ 0 → d.own c = 2) {w1 w1' w2 : World} {r r' : Value} {out : List Ms}
    (hd : Did w w1 b tag x' r out) (f1 : Fr (fun _ => False) w1 w1') (hr : RDid w1' w2 rb C tagR x' r' out) (hok : COk x') :
    ∃ own', PW w0 w2 D C nv (some x') n1 n2 { d with own := own' } ∧ Free w0 w2 { d with own := own' } r out ∧ Free w0 w2 { d with own := own' } r' out := by
  classical
  obtain ⟨va, taga, c1, c2, c3⟩ := hd.ctl
  obtain ⟨vr, tagr, r1, r2, r3⟩ := hr.ref
  have e0 := h.f0.size
  have e1 := hd.fr.size
  have e2 := f1.size
  have e3 := hr.fr.size
  have f12 : Fr (fun c => d.own c = 1 ∨ d.own c = 2) w w2 := ((hd.fr.mono fun c hc => .inl (t1 c hc)).trans f1 fun _ _ h => h.elim).trans (hr.fr.mono fun c hc => .inr (t2 c hc)) fun _ _ h => h
  have k1 : ∀ c, taga c ≠ 0 → d.own c = 1 ∨ (w.heap.size ≤ c ∧ c < w1.heap.size) := fun c hc => (c2 c hc).imp (t1 c) fun h' => ⟨h', c1.c0.bound c hc⟩
  have k2 : ∀ c, tagr c ≠ 0 → d.own c = 2 ∨ (w1'.heap.size ≤ c ∧ c < w2.heap.size) := fun c hc => (r2 c hc).imp (t2 c) fun h' => ⟨h', (r1.bound c hc).2⟩
  have z : ∀ c, w.heap.size ≤ c → d.own c = 0 := fun c hc => h.own0 hc
  let own' : Nat → Nat := fun c => if taga c ≠ 0 then 1 else if tagr c ≠ 0 then 2 else d.own c
  have o1 : ∀ c, taga c ≠ 0 → own' c = 1 := fun c hc => by simp only [own']; rw [if_pos hc]
  have o2 : ∀ c, tagr c ≠ 0 → own' c = 2 := fun c hc => by
    have hn : ¬ taga c ≠ 0 := fun h' => by
      rcases k1 c h' with a1 | a1 <;> rcases k2 c hc with a2 | a2
      · omega
      · have := z c (by omega); omega
      · have := z c (by omega); omega
      · omega
    simp only [own']; rw [if_neg hn, if_pos hc]
  have keep : ∀ c t, d.own c = t → t ≠ 0 → t ≠ 1 → t ≠ 2 → own' c = t := fun c t ht h0 h1 h2 => by
    have hlt := (h.bound c (by omega)).2
    have a1 : ¬ taga c ≠ 0 := fun h' => by rcases k1 c h' with a | a <;> omega
    have a2 : ¬ tagr c ≠ 0 := fun h' => by rcases k2 c h' with a | a <;> omega
    simp only [own']; rw [if_neg a1, if_neg a2, ht]
  have oz : ∀ c, taga c = 0 → tagr c = 0 → own' c = d.own c := fun c h1 h2 => by simp only [own']; rw [if_neg (by simp [h1]), if_neg (by simp [h2])]
  have n1r : ∀ c, inB r c → w.heap.size ≤ c ∧ c < w1.heap.size := hd.new
  have n2r : ∀ c, inB r' c → w1'.heap.size ≤ c ∧ c < w2.heap.size := hr.new
  have G3 : ∀ c t, d.own c = t → t ≠ 1 → t ≠ 2 → ¬ (d.own c = 1 ∨ d.own c = 2) := fun c t ht h1 h2 h' => by omega
  have ctl2 : Ctl w2 b x' va taga := (c1.fr0 f1).fr hr.fr fun c hc => Classical.byContradiction fun hn => by
    have := t2 c hc
    rcases k1 c hn with a | a
    · omega
    · have := z c a.1; omega
  have PWn : PW w0 w2 D C nv (some x') n1 n2 { d with own := own' } := by
    refine ⟨h.f0.trans f12 fun c hc h' => ?_, f12.bk_some h.blk (G3 D 6 h.oD (by decide) (by decide)), ?_, keep D 6 h.oD (by decide) (by decide) (by decide), ⟨b, va, taga, rb, vr, tagr, hcv, hfv, ctl2, r1, hok, o1, o2⟩, ⟨?_, h.last.2.1, h.last.2.2.1, fun c hc => keep c 3 (h.last.2.2.2 c hc) (by decide) (by decide) (by decide)⟩, ⟨?_, fun c hc => keep c 4 (h.book.2.1 c hc) (by decide) (by decide) (by decide), h.book.2.2⟩, ⟨?_, fun c hc => keep c 5 (h.letters.2.1 c hc) (by decide) (by decide) (by decide), h.letters.2.2⟩, fun c hc => ?_⟩
    · have := (h.bound c (by omega)).1; omega
    · rw [f12.wr (bk_lt h.blk) (G3 D 6 h.oD (by decide) (by decide))]; exact h.wr
    · exact h.last.1.fr f12 fun c hc => G3 c 3 (h.last.2.2.2 c hc) (by decide) (by decide)
    · exact h.book.1.fr f12 fun c hc => Classical.byContradiction fun hn => by have := h.book.2.1 c hn; omega
    · exact h.letters.1.fr f12 fun c hc => Classical.byContradiction fun hn => by have := h.letters.2.1 c hn; omega
    · by_cases a1 : taga c ≠ 0
      · rcases k1 c a1 with a | a
        · have := h.bound c (by omega); omega
        · omega
      · by_cases a2 : tagr c ≠ 0
        · rcases k2 c a2 with a | a
          · have := h.bound c (by omega); omega
          · omega
        · have : own' c ≠ 0 := hc
          rw [oz c (Classical.not_not.1 a1) (Classical.not_not.1 a2)] at this
          have := h.bound c this; omega
  refine ⟨own', PWn, ⟨(hd.out.fr f1 fun _ _ => id).fr hr.fr fun c hc ht => ?_, fun c hc => ?_⟩, ⟨hr.out, fun c hc => ?_⟩⟩
  · have := t2 c ht; have := n1r c hc; have := z c (by omega); omega
  · have := n1r c hc
    have hz := z c (by omega)
    have hr0 : tagr c = 0 := Classical.byContradiction fun hn => by rcases k2 c hn with a | a <;> omega
    exact ⟨by show own' c = 0; rw [oz c (c3 c hc) hr0]; exact hz, by omega, by omega⟩
  · have := n2r c hc
    have hz := z c (by omega)
    have ha0 : taga c = 0 := Classical.byContradiction fun hn => by rcases k1 c hn with a | a <;> omega
    exact ⟨by show own' c = 0; rw [oz c ha0 (r3 c hc)]; exact hz, by omega, by omega⟩
end
end Go.Proofs.YtpiceodfdjihhaaGreatDoor

/-
  The exact laws of layer 15, part P: what went out.
-/
namespace Go.Proofs.YtpiceodfdjihhaaGreatDoor
open Go.Lift
set_option linter.unusedSimpArgs false
section
variable {w0 w w' : World} {D : Nat} {C : Clu} {nv : Value} {x : Option CS} {n1 n2 : Nat} {d : PWd}
theorem goodM_out {out : List Ms} (hl : out.length ≤ 64) (hs : ∀ m ∈ out, m.str) : goodM (elM out) := ⟨out, hl, hs, rfl⟩
/-- The list goes into the letters. -/
theorem PW.keepL (h : PW w0 w D C nv x n1 n2 d) {r : Value} {out : List Ms} (hr : Free w0 w d r out) (hl : out.length ≤ 64) (hs : ∀ m ∈ out, m.str) (hn : n2 ≤ 1099511627776) :
    Run (F.granarylaw15_Letters_Keep (.pointer (some ⟨D, 31, none⟩)) r) w fun _ w' => ∃ d', PW w0 w' D C nv x n1 (n2 + 1) d' ∧ d'.cv = d.cv ∧ d'.fv = d.fv ∧ d'.lv = d.lv ∧ Fr (fun c => w0.heap.size ≤ c) w w' := by
  have hc := wcells_gets C nv d.cv d.fv d.lv d.b1 d.b2
  have hp : putB (wcells C nv d.cv d.fv d.lv d.b1 d.b2) 31 d.b2 = wcells C nv d.cv d.fv d.lv d.b1 d.b2 := hc.2.2.2.2.2.2.2.2 d.b2
  have hD : bk w D = some (putB (wcells C nv d.cv d.fv d.lv d.b1 d.b2) 31 d.b2) := by rw [hp]; exact h.blk
  obtain ⟨a1, a2, a3, a4⟩ := h.letters
  have hDw := (h.bound D (by rw [h.oD]; decide))
  have hb0 : d.bt2 D = 0 := Classical.byContradiction fun hn => by have := a2 D hn; rw [h.oD] at this; cases this
  refine (letters_keep_run (Ls := d.s2.Ls) (Gs := d.s2.Gs) (Os := d.s2.Os) (Ws := d.s2.Ws) hD h.wr (by rw [hc.1]; omega) a1 hb0 (by omega) a4 (goodM_out hl hs) hr.sl fun c hc => ?_).mono ?_
  · have := hr.own c hc
    refine ⟨Classical.byContradiction fun hn => ?_, fun he => ?_, this.2.2⟩
    · have := a2 c hn; omega
    · rw [he, h.oD] at this; cases this.1
  rintro _ w2 ⟨b', s', bt', k1, k2, k3, k4, k5, k6, k7, k8⟩
  classical
  have e1 := k7.size
  let own' : Nat → Nat := fun c => if bt' c ≠ 0 then 5 else d.own c
  have keep : ∀ c t, d.own c = t → t ≠ 0 → t ≠ 5 → own' c = t := fun c t ht h0 h1 => by
    have hlt := (h.bound c (by omega)).2
    have : ¬ bt' c ≠ 0 := fun h' => by
      rcases k8 c h' with a | a | a
      · have := a2 c a; omega
      · have := hr.own c a; omega
      · omega
    simp only [own']; rw [if_neg this, ht]
  have hF : ∀ c, (c = D ∨ d.bt2 c ≠ 0 ∨ inB r c) → d.own c = 6 ∧ c = D ∨ d.own c = 5 ∨ d.own c = 0 := fun c hc => by
    rcases hc with hc | hc | hc
    · left; rw [hc]; exact ⟨h.oD, rfl⟩
    · right; left; exact a2 c hc
    · right; right; exact (hr.own c hc).1
  have h0 : ∀ c, (c = D ∨ d.bt2 c ≠ 0 ∨ inB r c) → w0.heap.size ≤ c := fun c hc => by
    rcases hc with hc | hc | hc
    · rw [hc]; exact hDw.1
    · exact (h.bound c (by rw [a2 c hc]; decide)).1
    · exact (hr.own c hc).2.1
  rw [hc.2.2.2.2.2.2.2.2] at k1
  refine ⟨{ d with b2 := b', s2 := s', bt2 := bt', own := own' }, ⟨h.f0.trans k7 fun c hc h' => by have := h0 c h'; omega, k1, k2, keep D 6 h.oD (by decide) (by decide), h.pair.fr k7 (fun c hc => by have := hF c hc; omega) (fun c hc => by rcases hc with hc | hc <;> exact (keep c _ hc (by decide) (by decide)).trans hc.symm),
    ⟨h.last.1.fr k7 fun c hc h' => by have := hF c h'; have := h.last.2.2.2 c hc; omega, h.last.2.1, h.last.2.2.1, fun c hc => keep c 3 (h.last.2.2.2 c hc) (by decide) (by decide)⟩,
    ⟨?_, fun c hc => keep c 4 (h.book.2.1 c hc) (by decide) (by decide), h.book.2.2⟩, ⟨k3, fun c hc => by simp only [own']; rw [if_pos hc], by simp only; omega, k5⟩, fun c hc => ?_⟩, rfl, rfl, rfl, k7.mono h0⟩
  · exact h.book.1.fr k7 fun c h' => Classical.byContradiction fun hn => by have := hF c h'; have := h.book.2.1 c hn; omega
  · have hc : own' c ≠ 0 := hc
    by_cases a : bt' c ≠ 0
    · refine ⟨?_, k3.bound c a⟩
      rcases k8 c a with a' | a' | a'
      · exact (h.bound c (by rw [a2 c a']; decide)).1
      · exact (hr.own c a').2.1
      · have := h.f0.size; omega
    · simp only [own'] at hc
      rw [if_neg a] at hc
      have := h.bound c hc
      omega
theorem PW.lastput (h : PW w0 w D C nv x n1 n2 d) {ms' : List Ms} (f : Fr (inB d.lv) w w') (hs : SlW 11 w' d.lv (elM ms')) (hl : ms'.length = C.nodes.length) (hm : ∀ m ∈ ms', m.str) : PW w0 w' D C nv x n1 n2 { d with ms := ms' } where
  f0 := h.f0.trans f fun c hc hg => by have := (h.bound c (by rw [h.last.2.2.2 c hg]; decide)).1; omega
  blk := f.bk_some h.blk fun hg => by have := h.last.2.2.2 _ hg; rw [h.oD] at this; cases this
  wr := by rw [f.wr (bk_lt h.blk) fun hg => by have := h.last.2.2.2 _ hg; rw [h.oD] at this; cases this]; exact h.wr
  oD := h.oD
  pair := h.pair.fr f (fun c hc => by rw [h.last.2.2.2 c hc]; decide) fun _ _ => rfl
  last := ⟨hs, hl, hm, h.last.2.2.2⟩
  book := ⟨h.book.1.fr f fun c hg => Classical.byContradiction fun hn => (by have := h.last.2.2.2 c hg; rw [h.book.2.1 c hn] at this; cases this), h.book.2⟩
  letters := ⟨h.letters.1.fr f fun c hg => Classical.byContradiction fun hn => (by have := h.last.2.2.2 c hg; rw [h.letters.2.1 c hn] at this; cases this), h.letters.2⟩
  bound := fun c hc => ⟨(h.bound c hc).1, Nat.lt_of_lt_of_le (h.bound c hc).2 f.size⟩
/-- out: the same messages, the same error. -/
theorem out_run (h : PW w0 w D C nv x n1 n2 d) {a b : Value} {out : List Ms} (ha : Free w0 w d a out) (hb : Free w0 w d b out) (hl : out.length ≤ 64) (hs : ∀ m ∈ out, m.str) (hn : n2 ≤ 1099511627776) (hcn : C.nodes.length ≤ 1048576) (e : Int) (held : Bool) :
    Run (F.granarylaw15_World_out (.pointer (some ⟨D, 0, none⟩)) a (.int .i64 e) b (.int .i64 e) (.bool held)) w fun res w' => res = .bool true ∧ ∃ d', PW w0 w' D C nv x n1 (n2 + 1) d' ∧ d'.cv = d.cv ∧ d'.fv = d.fv := by
  unfold F.granarylaw15_World_out
  rw [Run_bind]
  refine (letters_same ha.sl.1 hb.sl.1 (goodM_out hl hs)).mono ?_
  rintro _ w1 ⟨rfl, f1⟩
  have h1 := h.fr0 f1
  have e1 := f1.size
  have hbl := hb.sl.1.lenL
  simp only [elM_len] at hbl
  simp [F.granarylaw15_num]
  refine Run_for out.length (fun i s w2 => s = [.int .i64 i] ∧ Fr (inB d.lv) w1 w2 ∧ ∃ ms, PW w0 w2 D C nv x n1 n2 { d with ms := ms }) ⟨rfl, Fr.refl _ _, d.ms, h1⟩ ?_ ?_
  · rintro i _ w2 hi ⟨rfl, f2, ms, h2⟩
    have wi := wrap_succ (n := i) (by omega)
    have hc := wcells_gets C nv d.cv d.fv d.lv d.b1 d.b2
    have hb2 := h2.blk
    simp only at hb2
    have bnl : ∀ c, inB b c → ¬ inB d.lv c := fun c hc h' => by have := hb.own c hc; have := h.last.2.2.2 c h'; omega
    have sb2 := (hb.sl.1.fr f1 fun _ _ => id).fr f2 bnl
    have em : (elM out)[i]? = some out[i].cells := by simp [elM, List.getElem?_eq_getElem hi]
    have hstr := hs out[i] (List.getElem_mem hi)
    generalize out[i] = m at em hstr
    obtain ⟨p, p1, p2⟩ := sb2.rdA (by decide) em .i64
    obtain ⟨p', p1', p3⟩ := sb2.rdF em .i64
    rw [p1] at p1'
    cases p1'
    obtain ⟨t, t1, t2⟩ := p3 2 (by decide)
    have t2 : ld1 t w2 = some (.int .i64 m.to) := t2
    obtain ⟨l1, l2, l3, l4⟩ := h2.last
    simp only at l1 l2 l3 l4
    have hll := l1.1.lenL
    simp only [elM_len] at hll
    by_cases q1 : 0 ≤ m.to
    · by_cases q2 : m.to < ms.length
      · obtain ⟨k, hk⟩ : ∃ k : Nat, m.to = k := ⟨m.to.toNat, by omega⟩
        have hkl : k < ms.length := by omega
        have ek : (elM ms)[k]? = some ms[k].cells := by simp [elM, List.getElem?_eq_getElem hkl]
        have dd : Fr (fun _ => False) w2 w2.drew.drew := (Fr.refl _ _).drew.drew
        obtain ⟨q, o, c1, c2, c3, c4, c5⟩ := (l1.fr dd fun _ _ => id).put ek .i64
        obtain ⟨c6, c7⟩ := c5 0 m.cells (by simp [Ms.cells])
        have c4' : okAt w2 q o 11 := c4
        have q2' : (k : Int) < (ms.length : Int) := by omega
        have hall : ∀ i (h : i < 11), isCell (m.cells[i]'h) = true := by
          intro i h
          obtain ⟨s, t, h3, h4⟩ := hstr
          have := List.all_eq_true.1 (show m.cells.all isCell = true from by simp [Ms.cells, h3, h4])
          exact this _ (List.getElem_mem _)
        simp [-ldA_ptr, hbl, hi, p1, t1, t2, hk, hb2, hc.2.2.2.1, hll, hkl, p2, c1, wi]
        have eset : (elM ms).set k (setL ms[k].cells 0 m.cells) = elM (ms.set k m) := by
          rw [setL_all ms[k].cells m.cells (by simp [Ms.cells])]; simp [elM, List.map_set]
        rw [eset] at c7
        have g7 : Fr (inB d.lv) w2 (sto w2.drew.drew q o m.cells) := (dd.mono fun _ h => h.elim).trans ((Fr.refl (inB d.lv) _).sto (.inl c2) _ _) fun _ _ h => h
        refine ⟨rfl, fun y hy => ?_, c4'.1, c4'.2, f2.trans g7 fun _ _ h => h, ms.set k m, ?_⟩
        · obtain ⟨j, hj, rfl⟩ := List.getElem_of_mem hy
          exact hall j hj
        · have h3 := h2.lastput (ms' := ms.set k m) g7 c7 (by simp [l2]) fun y hy => ?_
          · exact h3
          · rcases List.mem_or_eq_of_mem_set hy with hy | rfl
            · exact l3 y hy
            · exact hstr
      · have q2' : ¬ m.to < (ms.length : Int) := by omega
        simp [-ldA_ptr, hbl, hi, p1, t1, t2, q1, hb2, hc.2.2.2.1, hll, q2', wi]
        exact ⟨f2.drew, ms, h2.fr0 (Fr.refl _ _).drew⟩
    · simp [-ldA_ptr, hbl, hi, p1, t1, t2, q1, wi]
      exact ⟨f2.drew, ms, h2.fr0 (Fr.refl _ _).drew⟩
  · rintro _ w2 ⟨rfl, f2, ms, h2⟩
    have anl : ∀ c, inB a c → ¬ inB d.lv c := fun c hc h' => by have := ha.own c hc; have := h.last.2.2.2 c h'; omega
    have ha2 : Free w0 w2 { d with ms := ms } a out := ⟨(ha.sl.fr f1 fun _ _ => id).fr f2 anl, fun c hc => by have hh := ha.own c hc; have := f2.size; exact ⟨hh.1, hh.2.1, by omega⟩⟩
    simp [hbl]
    refine (h2.keepL ha2 hl hs hn).mono ?_
    rintro _ w3 ⟨d', h3, g1, g2, _, _⟩
    exact ⟨d', h3, g1, g2⟩
end
end Go.Proofs.YtpiceodfdjihhaaGreatDoor

/-
  The exact laws of layer 15, part Q: no controller; an answer; what goes out is small.
-/
namespace Go.Proofs.YtpiceodfdjihhaaGreatDoor
open Go.Lift
set_option linter.unusedSimpArgs false
def GoodOut (l : List Ms) : Prop := l.length ≤ 64 ∧ ∀ m ∈ l, m.str
theorem GoodOut.nil : GoodOut [] := ⟨by simp, fun _ h => by cases h⟩
theorem good_send (x : CS) (h : ∀ p, x.now = some p → p.said.length ≤ 64) : GoodOut x.sendS := by
  unfold CS.sendS
  cases hx : x.now with
  | none => exact GoodOut.nil
  | some p =>
    have := missK_len p.said p.said.length
    have := h p hx
    refine ⟨by simp; omega, fun m hm => ?_⟩
    obtain ⟨i, _, rfl⟩ := List.mem_map.1 hm
    exact ⟨_, _, rfl, rfl⟩
theorem good_enter (x : CS) (k : Nat) (h : x.n ≤ 64) : GoodOut (x.enterS k).2 := good_send ({ x with now := some (Ph.new k x.n) } : CS) fun p hp => by cases hp; simpa [Ph.new] using h
theorem good_refused (x : CS) (p : Ph) (h : x.n ≤ 64) : GoodOut (x.refusedS p).2 := by unfold CS.refusedS; split; exact good_enter _ _ h; exact GoodOut.nil
theorem good_done (x : CS) (p : Ph) (h : x.n ≤ 64) : GoodOut (x.doneS p).2 := by unfold CS.doneS; split; exact good_enter _ _ h; exact GoodOut.nil
theorem good_late (x : CS) (p : Ph) (h : x.n ≤ 64) : GoodOut (x.lateS p).2 := by unfold CS.lateS; split; exact good_enter _ _ h; exact GoodOut.nil
theorem good_stopped (x : CS) (p : Ph) (h : x.n ≤ 64) : GoodOut (x.stoppedS p).2 := by
  unfold CS.stoppedS; split
  · exact good_enter _ _ h
  · split <;> exact GoodOut.nil
theorem good_begin (x : CS) (h : x.n ≤ 64) (k v : Int) : GoodOut (x.beginS k v).out := by
  unfold CS.beginS
  split
  · exact GoodOut.nil
  split
  · exact GoodOut.nil
  split
  · exact GoodOut.nil
  split
  · exact GoodOut.nil
  · exact good_enter _ _ h
theorem good_take (x : CS) (h : x.n ≤ 64) (m : Ms) : GoodOut (x.takeS m).2 := by
  unfold CS.takeS
  split
  · exact GoodOut.nil
  split
  · exact GoodOut.nil
  split
  · exact GoodOut.nil
  split
  · exact good_refused _ _ h
  split
  · exact GoodOut.nil
  · exact good_done _ _ h
theorem good_tick {x : CS} (h : COk x) : GoodOut x.tickS.2 := by
  have hn := h.n.2
  unfold CS.tickS
  split
  · exact GoodOut.nil
  rename_i p hp
  have hs := (h.now p hp).said
  simp only
  split
  · split
    · exact good_late _ _ hn
    · split
      · refine good_send ({ x with now := some _ } : CS) fun q hq => ?_
        simp only [Option.some.injEq] at hq
        subst hq
        simp only; omega
      · exact GoodOut.nil
  · split
    · exact GoodOut.nil
    · split
      · exact good_late _ _ hn
      · refine good_send ({ x with now := some _ } : CS) fun q hq => ?_
        simp only [Option.some.injEq] at hq
        subst hq
        simp only; omega
theorem good_stop (x : CS) (h : x.n ≤ 64) : GoodOut x.stopS.out := by
  unfold CS.stopS; split
  · exact GoodOut.nil
  · exact good_stopped _ _ h
theorem good_revive (x : CS) (h : x.n ≤ 64) : GoodOut x.reviveS.out := by
  unfold CS.reviveS; split
  · exact GoodOut.nil
  · split
    · exact GoodOut.nil
    · exact good_enter _ _ h
theorem ok_stop {x : CS} (h : COk x) : COk x.stopS.x := by
  unfold CS.stopS
  cases hx : x.now with
  | none => exact h
  | some p => exact h.stoppedS (h.now p hx).in
theorem ok_revive {x : CS} (h : COk x) : COk x.reviveS.x := by
  unfold CS.reviveS
  cases hx : x.now with
  | none => exact h
  | some p =>
    simp only
    split
    · exact h.endS (by simp [Ph.new]) _
    · rename_i h3
      exact h.enterS (by omega) (by omega)
section
variable {w : World}
/-- What no controller answers. -/
def Nil2 (w w' : World) (r : Value) : Prop := r = .tuple #[.slice none 0 0, .int .i64 2] ∧ Fr (fun _ => False) w w'
theorem nil_begin (a b : Value) : Run (F.control_Control_Begin (.pointer none) a b) w fun r w' => Nil2 w w' r := by
  unfold F.control_Control_Begin; simp; exact ⟨rfl, Fr.refl _ _⟩
theorem rnil_begin (a b : Value) : Run (F.granaryref15_Control_Begin (.pointer none) a b) w fun r w' => Nil2 w w' r := by
  unfold F.granaryref15_Control_Begin; simp; exact ⟨rfl, Fr.refl _ _⟩
theorem nil_take (m : Ms) : Run (F.control_Control_Take (.pointer none) m.val) w fun r w' => Nil2 w w' r := by
  unfold F.control_Control_Take; simp [Ms.val]
  refine Run_new fun c w1 _ _ f1 _ => ?_
  exact ⟨rfl, f1⟩
theorem rnil_take (m : Ms) : Run (F.granaryref15_Control_Take (.pointer none) m.val) w fun r w' => Nil2 w w' r := by
  unfold F.granaryref15_Control_Take; simp [Ms.val]
  refine Run_new fun c w1 _ _ f1 _ => ?_
  exact ⟨rfl, f1⟩
theorem nil_tick : Run (F.control_Control_Tick (.pointer none)) w fun r w' => Nil2 w w' r := by
  unfold F.control_Control_Tick; simp; exact ⟨rfl, Fr.refl _ _⟩
theorem rnil_tick : Run (F.granaryref15_Control_Tick (.pointer none)) w fun r w' => Nil2 w w' r := by
  unfold F.granaryref15_Control_Tick; simp; exact ⟨rfl, Fr.refl _ _⟩
theorem nil_stop : Run (F.control_Control_Stop (.pointer none)) w fun r w' => Nil2 w w' r := by
  unfold F.control_Control_Stop; simp; exact ⟨rfl, Fr.refl _ _⟩
theorem rnil_stop : Run (F.granaryref15_Control_Stop (.pointer none)) w fun r w' => Nil2 w w' r := by
  unfold F.granaryref15_Control_Stop; simp; exact ⟨rfl, Fr.refl _ _⟩
theorem nil_revive : Run (F.control_Control_Revive (.pointer none)) w fun r w' => Nil2 w w' r := by
  unfold F.control_Control_Revive; simp; exact ⟨rfl, Fr.refl _ _⟩
theorem rnil_revive : Run (F.granaryref15_Control_Revive (.pointer none)) w fun r w' => Nil2 w w' r := by
  unfold F.granaryref15_Control_Revive; simp; exact ⟨rfl, Fr.refl _ _⟩
theorem nil_busy {Q : Value → World → Prop} : Run (F.control_Control_Busy (.pointer none)) w Q ↔ Q (.bool false) w := by
  unfold F.control_Control_Busy; simp
theorem rnil_busy {Q : Value → World → Prop} : Run (F.granaryref15_Control_Busy (.pointer none)) w Q ↔ Q (.bool false) w := by
  unfold F.granaryref15_Control_Busy; simp
theorem nil_report : Run (F.control_Control_Report (.pointer none)) w fun r w' => r = .tuple #[Rep.none.val (.slice none 0 0) (.slice none 0 0), .int .i64 2] ∧ Fr (fun _ => False) w w' := by
  unfold F.control_Control_Report; simp
  refine Run_new fun c w1 hc hcw f1 hle => ?_
  have hc' : bk w1 c = some [.int .i64 0, .int .i64 0, .int .i64 0, .int .i64 0, .slice none 0 0, .slice none 0 0] := hc
  simp [hc', hcw, buildV]
  exact ⟨rfl, f1.sto (.inr hle) _ _⟩
theorem rnil_report : Run (F.granaryref15_Control_Report (.pointer none)) w fun r w' => r = .tuple #[Rep.none.val (.slice none 0 0) (.slice none 0 0), .int .i64 2] ∧ Fr (fun _ => False) w w' := by
  unfold F.granaryref15_Control_Report; simp
  refine Run_new fun c w1 hc hcw f1 hle => ?_
  have hc' : bk w1 c = some [.int .i64 0, .int .i64 0, .int .i64 0, .int .i64 0, .slice none 0 0, .slice none 0 0] := hc
  simp [hc', hcw, buildV]
  exact ⟨rfl, f1.sto (.inr hle) _ _⟩
theorem answer15_run (m : Ms) (v : Int) : Run (F.granarylaw15_Answer m.val (.int .i64 v)) w fun r w' => ∃ a : Ms, a.str ∧ r = a.val ∧ Fr (fun _ => False) w w' := by
  unfold F.granarylaw15_Answer
  simp [Ms.val]
  refine Run_new fun c w1 hc hcw f1 hle => ?_
  have hc : bk w1 c = some m.cells := hc
  refine Run_new fun e w2 he hew f2 hle2 => ?_
  have hc2 := f2.bk_some hc id
  have m0 : m.cells[0]? = some (.int .i64 m.kind) := rfl
  have m1 : m.cells[1]? = some (.int .i64 m.sender) := rfl
  have m2 : m.cells[2]? = some (.int .i64 m.to) := rfl
  have m3 : m.cells[3]? = some (.int .i64 m.id) := rfl
  have m4 : m.cells[4]? = some (.int .i64 m.epoch) := rfl
  have m5 : m.cells[5]? = some (.int .i64 m.seq) := rfl
  have m6 : m.cells[6]? = some (.int .i64 m.version) := rfl
  simp [hc2, m0, m1, m2, m3, m4, m5, buildV, fillV_cell]
  refine Run_newSt (by simp) (by simp) (by simp) fun a w3 ha haw f3 hle3 => ?_
  have hc3 := f3.bk_some hc2 id
  have f03 : Fr (fun _ => False) w w3 := (f1.trans f2 fun _ _ => id).trans f3 fun _ _ => id
  have hne : c ≠ a := by have := bk_lt hc2; omega
  have hea : e ≠ a := by have := bk_lt he; omega
  have he3 := f3.bk_some he id
  have hew3 : wr w3 e = true := by rw [f3.wr (bk_lt he) id]; exact hew
  have le3 := bk_lt he3
  have la3 := bk_lt ha
  have e1 := f1.size
  have e2 := f2.size
  have e3 := f3.size
  have lc := bk_lt hc
  let a0 : Ms := ⟨IntKind.i64.wrap (m.kind + 1), m.to, m.sender, m.id, m.epoch, m.seq, v, 0, 0, .string ByteArray.empty, .string ByteArray.empty⟩
  have ha0 : bk w3 a = some a0.cells := ha
  refine Run.mono (Q := fun o w4 => o = Out.norm [] ∧ ∃ am : Ms, am.str ∧ bk w4 a = some am.cells ∧ wr w4 a = true ∧ Fr (fun z => z = a) w3 w4) ?_ ?_
  · refine Run_cond (fun hv => ?_) (fun hv => ?_)
    · simp [ha0, haw, Ms.cells, negV, mod15_run, bk_sto]
      refine ⟨{ a0 with version := 0, code := _ }, ⟨_, _, rfl, rfl⟩, ⟨rfl, rfl, rfl, rfl, rfl, rfl, rfl, rfl, rfl, rfl, rfl⟩, ((Fr.refl (fun z => z = a) w3).sto (.inl rfl) _ _).sto (.inl rfl) _ _⟩
    · simp
      exact ⟨a0, ⟨_, _, rfl, rfl⟩, ha0, haw, Fr.refl _ _⟩
  rintro _ w4 ⟨rfl, am, hs, hb4, hw4, f4⟩
  have hc4 := f4.bk_some hc3 hne
  have am_all : am.cells.all isCell = true := by obtain ⟨s, t, h3, h4⟩ := hs; simp [Ms.cells, h3, h4]
  rw [outK_norm, Run_bind]
  refine Run.mono (Q := fun o w5 => o = Out.norm [] ∧ ∃ am : Ms, am.str ∧ bk w5 a = some am.cells ∧ wr w5 a = true ∧ Fr (fun z => z = a) w4 w5) ?_ ?_
  · have yes : ∀ Q : Prop, Q → Q := fun _ h => h
    by_cases k3 : m.kind = 3
    · simp [hc4, m0, k3, m6, hb4, hw4, Ms.cells]
      exact ⟨{ am with version := m.version }, hs, ⟨rfl, rfl, rfl, rfl, rfl, rfl, rfl, rfl, rfl, rfl, rfl⟩, (Fr.refl (fun z => z = a) w4).sto (.inl rfl) _ _⟩
    · by_cases k5 : m.kind = 5
      · by_cases v0 : v = 0
        · simp [hc4, m0, k3, k5, v0, m6, hb4, hw4, Ms.cells]
          exact ⟨{ am with version := m.version }, hs, ⟨rfl, rfl, rfl, rfl, rfl, rfl, rfl, rfl, rfl, rfl, rfl⟩, (Fr.refl (fun z => z = a) w4).sto (.inl rfl) _ _⟩
        · simp [hc4, m0, k3, k5, v0]
          exact ⟨am, hs, hb4, hw4, Fr.refl _ _⟩
      · simp [hc4, m0, k3, k5]
        exact ⟨am, hs, hb4, hw4, Fr.refl _ _⟩
  rintro _ w5 ⟨rfl, am, hs, hb5, hw5, f5⟩
  have f35 : Fr (fun z => z = a) w3 w5 := f4.trans f5 fun _ _ h => h
  have he5 := f35.bk_some he3 hea
  have hew5 : wr w5 e = true := by rw [f35.wr le3 hea]; exact hew3
  have am_all : am.cells.all isCell = true := by obtain ⟨s, t, h3, h4⟩ := hs; simp [Ms.cells, h3, h4]
  have alen : am.cells.length = 11 := rfl
  have ld5 := Ms.ldA' hb5
  simp [-ldA_ptr, ld5, Ms.val, he5, hew5]
  have hbe : bk (sto w5 e 0 am.cells) e = some am.cells := by
    rw [bk_sto_eq, he5, Option.map_some, setL_all _ _ (by simp [Ms.cells])]
  refine ⟨rfl, fun i hi => List.all_eq_true.1 am_all _ (List.getElem_mem _), am.val, Ms.ldA' hbe, am, hs, rfl, ?_⟩
  exact (f03.trans f35 fun z hz he => by omega).sto (.inr (by omega)) _ _
end
end Go.Proofs.YtpiceodfdjihhaaGreatDoor

/-
  The exact laws of layer 15, part Qa: other controllers take their place.
-/
namespace Go.Proofs.YtpiceodfdjihhaaGreatDoor
open Go.Lift
set_option linter.unusedSimpArgs false
theorem Handed.lt {w0 w : World} {H : Nat} {C : Clu} {nv1 nv2 hv pv : Value} {ps pvs1 pvs2 : List Value} (h : Handed w0 w H C nv1 nv2 hv pv ps pvs1 pvs2) : ∀ c, (inB hv c ∨ ∃ p ∈ ps, inB p c) → c < w.heap.size := by
  have hlen := h.len
  rintro c (hc | ⟨p, hp, hc⟩)
  · exact h.nodes.1.lt (by simp [endN]) hc
  · obtain ⟨i, hi, rfl⟩ := List.getElem_of_mem hp
    obtain ⟨k1, _⟩ := h.each i ps[i] (C.nodes[i]'(by omega)) (List.getElem?_eq_getElem hi) (List.getElem?_eq_getElem _)
    exact k1.1.lt (by simp [elI, endP]) hc
theorem Handed.fr0 {w0 w w' : World} {H : Nat} {C : Clu} {nv1 nv2 hv pv : Value} {ps pvs1 pvs2 : List Value} (h : Handed w0 w H C nv1 nv2 hv pv ps pvs1 pvs2) (f : Fr (fun _ => False) w w') : Handed w0 w' H C nv1 nv2 hv pv ps pvs1 pvs2 :=
  ⟨f.bk_some h.blk id, by rw [f.wr (bk_lt h.blk) id]; exact h.wr, h.H0, h.n1.fr0 f, h.n2.fr0 f, h.nodes.fr f fun _ _ => id, h.parts.fr f fun _ _ => id, h.len, fun i p n h1 h2 => ⟨(h.each i p n h1 h2).1.fr f fun _ _ => id, (h.each i p n h1 h2).2⟩, h.bh, h.bp⟩
section
variable {w0 w w' : World} {D : Nat} {C : Clu} {nv : Value} {x : Option CS} {n1 n2 : Nat} {d : PWd}
/-- No controller, from here on. -/
theorem PW.renewN (h : PW w0 w D C nv x n1 n2 d) : PW w0 (sto (sto w D 23 [.pointer none]) D 24 [.pointer none]) D C nv none n1 n2 { d with cv := .pointer none, fv := .pointer none } := by
  have hc := wcells_gets C nv d.cv d.fv d.lv d.b1 d.b2
  have hc' := wcells_gets C nv (.pointer none) d.fv d.lv d.b1 d.b2
  have f : Fr (fun c => c = D) w (sto (sto w D 23 [.pointer none]) D 24 [.pointer none]) := ((Fr.refl (fun c => c = D) w).sto (.inl rfl) _ _).sto (.inl rfl) _ _
  have hD := h.bound D (by rw [h.oD]; decide)
  refine ⟨h.f0.trans f fun c hc' he => by omega, by simp [h.blk, hc.2.2.2.2.1, hc'.2.2.2.2.2.1], by simp [h.wr], h.oD, ⟨rfl, rfl⟩, ⟨h.last.1.fr f fun c hc he => ?_, h.last.2⟩, ⟨h.book.1.fr f fun c he => ?_, h.book.2⟩, ⟨h.letters.1.fr f fun c he => ?_, h.letters.2⟩, fun c hc => by have := h.bound c hc; have := f.size; omega⟩
  · have := h.last.2.2.2 c hc; rw [he, h.oD] at this; cases this
  · exact Classical.byContradiction fun hn => by have := h.book.2.1 c hn; rw [he, h.oD] at this; cases this
  · exact Classical.byContradiction fun hn => by have := h.letters.2.1 c hn; rw [he, h.oD] at this; cases this
/-- New ones, made since w1. -/
theorem PW.renewS (h : PW w0 w D C nv x n1 n2 d) {s1 : Nat} (hs1 : ∀ c, d.own c ≠ 0 → c < s1) (h01 : w0.heap.size ≤ s1) {y : CS} {b rb : Nat} {v : CV} {tag : Nat → Nat} {v' : RV} {tagR : Nat → Nat} (hC : Ctl w b y v tag) (hR : RefC w rb C y v' tagR) (hok : COk y)
    (t1 : ∀ c, tag c ≠ 0 → s1 ≤ c) (t2 : ∀ c, tagR c ≠ 0 → s1 ≤ c ∧ tag c = 0) {r r' : Value} {out : List Ms} (hr : SlW 11 w r (elM out)) (hr' : SlW 11 w r' (elM out)) (i1 : ∀ c, inB r c → s1 ≤ c ∧ c < w.heap.size ∧ tag c = 0 ∧ tagR c = 0) (i2 : ∀ c, inB r' c → s1 ≤ c ∧ c < w.heap.size ∧ tag c = 0 ∧ tagR c = 0) :
    ∃ d', PW w0 (sto (sto w D 23 [.pointer (some ⟨b, 0, none⟩)]) D 24 [.pointer (some ⟨rb, 0, none⟩)]) D C nv (some y) n1 n2 d' ∧ d'.cv = .pointer (some ⟨b, 0, none⟩) ∧ Free w0 (sto (sto w D 23 [.pointer (some ⟨b, 0, none⟩)]) D 24 [.pointer (some ⟨rb, 0, none⟩)]) d' r out ∧ Free w0 (sto (sto w D 23 [.pointer (some ⟨b, 0, none⟩)]) D 24 [.pointer (some ⟨rb, 0, none⟩)]) d' r' out := by
  classical
  have hc := wcells_gets C nv d.cv d.fv d.lv d.b1 d.b2
  have hc' := wcells_gets C nv (.pointer (some ⟨b, 0, none⟩)) d.fv d.lv d.b1 d.b2
  have f : Fr (fun c => c = D) w (sto (sto w D 23 [.pointer (some ⟨b, 0, none⟩)]) D 24 [.pointer (some ⟨rb, 0, none⟩)]) := ((Fr.refl (fun c => c = D) w).sto (.inl rfl) _ _).sto (.inl rfl) _ _
  have hD := h.bound D (by rw [h.oD]; decide)
  have hD1 := hs1 D (by rw [h.oD]; decide)
  have hsz := f.size
  let own' : Nat → Nat := fun c => if tag c ≠ 0 then 1 else if tagR c ≠ 0 then 2 else d.own c
  have keep : ∀ c t, d.own c = t → t ≠ 0 → own' c = t := fun c t ht h0 => by
    have hlt := hs1 c (by omega)
    have a1 : ¬ tag c ≠ 0 := fun h' => by have := t1 c h'; omega
    have a2 : ¬ tagR c ≠ 0 := fun h' => by have := (t2 c h').1; omega
    simp only [own']; rw [if_neg a1, if_neg a2, ht]
  have o1 : ∀ c, tag c ≠ 0 → own' c = 1 := fun c hc => by simp only [own']; rw [if_pos hc]
  have o2 : ∀ c, tagR c ≠ 0 → own' c = 2 := fun c hc => by simp only [own']; rw [if_neg (by simp [(t2 c hc).2]), if_pos hc]
  have oz : ∀ c, tag c = 0 → tagR c = 0 → own' c = d.own c := fun c h1 h2 => by simp only [own']; rw [if_neg (by simp [h1]), if_neg (by simp [h2])]
  have zz : ∀ c, s1 ≤ c → d.own c = 0 := fun c hc => Classical.byContradiction fun hn => by have := hs1 c hn; omega
  have tD : ∀ c, c = D → tag c = 0 := fun c he => Classical.byContradiction fun hn => by have := t1 c hn; omega
  have rD : ∀ c, c = D → tagR c = 0 := fun c he => Classical.byContradiction fun hn => by have := (t2 c hn).1; omega
  refine ⟨{ d with cv := .pointer (some ⟨b, 0, none⟩), fv := .pointer (some ⟨rb, 0, none⟩), own := own' }, ⟨h.f0.trans f fun c hc' he => by omega, by simp [h.blk, hc.2.2.2.2.1, hc'.2.2.2.2.2.1], by simp [h.wr], keep D 6 h.oD (by decide),
    ⟨b, v, tag, rb, v', tagR, rfl, rfl, hC.fr f tD, hR.fr f rD, hok, o1, o2⟩, ⟨h.last.1.fr f fun c hc he => ?_, h.last.2.1, h.last.2.2.1, fun c hc => keep c 3 (h.last.2.2.2 c hc) (by decide)⟩, ⟨h.book.1.fr f fun c he => ?_, fun c hc => keep c 4 (h.book.2.1 c hc) (by decide), h.book.2.2⟩, ⟨h.letters.1.fr f fun c he => ?_, fun c hc => keep c 5 (h.letters.2.1 c hc) (by decide), h.letters.2.2⟩, fun c hc => ?_⟩, rfl, ⟨hr.fr f fun c hc he => ?_, fun c hc => ?_⟩, ⟨hr'.fr f fun c hc he => ?_, fun c hc => ?_⟩⟩
  · have := h.last.2.2.2 c hc; rw [he, h.oD] at this; cases this
  · exact Classical.byContradiction fun hn => by have := h.book.2.1 c hn; rw [he, h.oD] at this; cases this
  · exact Classical.byContradiction fun hn => by have := h.letters.2.1 c hn; rw [he, h.oD] at this; cases this
  · by_cases a1 : tag c ≠ 0
    · have := t1 c a1; have := hC.c0.bound c a1; omega
    · by_cases a2 : tagR c ≠ 0
      · have := (t2 c a2).1; have := (hR.bound c a2).2; omega
      · have h' : own' c ≠ 0 := hc
        rw [oz c (Classical.not_not.1 a1) (Classical.not_not.1 a2)] at h'
        have := h.bound c h'; omega
  · have := i1 c hc; omega
  · have := i1 c hc
    exact ⟨by show own' c = 0; rw [oz c this.2.2.1 this.2.2.2]; exact zz c this.1, by omega, by omega⟩
  · have := i2 c hc; omega
  · have := i2 c hc
    exact ⟨by show own' c = 0; rw [oz c this.2.2.1 this.2.2.2]; exact zz c this.1, by omega, by omega⟩
theorem resumeS_err (C : Clu) (hc : checkF C = 0) (job kind version : Int) (isOpen : Bool) : match CS.resumeS C job kind version isOpen with
    | (none, _, e) => e ≠ 0
    | (some _, out, e) => e = 0 ∧ GoodOut out := by
  unfold CS.resumeS
  by_cases a1 : job < 0 ∨ 9007199254740992 < job ∨ (isOpen = true ∧ job = 0)
  · rw [if_pos a1]; show (1 : Int) ≠ 0; decide
  rw [if_neg a1]
  by_cases a2 : isOpen = false
  · rw [if_pos a2]; exact ⟨rfl, GoodOut.nil⟩
  rw [if_neg a2]
  by_cases a3 : kind ≠ 1 ∧ kind ≠ 2
  · rw [if_pos a3]; show (152 : Int) ≠ 0; decide
  rw [if_neg a3]
  by_cases a4 : version < 1 ∨ 999999 < version
  · rw [if_pos a4]; show (80 : Int) ≠ 0; decide
  rw [if_neg a4]
  refine ⟨rfl, good_enter _ _ ?_⟩
  exact (checkF_ok hc).2.2
theorem resume_two (C : Clu) (job kind version : Int) (isOpen : Bool) : ∃ (R : Option (CS × List Ms)) (e : Int), (R = none ↔ e ≠ 0) ∧ (∀ y out, R = some (y, out) → GoodOut out) ∧
    (∀ (w : World) (nv : Value) (pvs : List Value), Nodes w nv C.nodes pvs → Fits C → Run (F.control_Resume (C.val nv) (.int .i64 job) (.int .i64 kind) (.int .i64 version) (.bool isOpen)) w fun r w' => Fr (fun _ => False) w w' ∧ ∃ cv l, r = .tuple #[cv, l, .int .i64 e] ∧
      match R with | none => cv = .pointer none ∧ l = .slice none 0 0 | some (y, out) => ∃ b, cv = .pointer (some ⟨b, 0, none⟩) ∧ Made_ w w' b y l out) ∧
    (∀ (w : World) (nv : Value) (pvs : List Value), Glob w → Nodes w nv C.nodes pvs → Fits C → Run (F.granaryref15_Resume (C.val nv) (.int .i64 job) (.int .i64 kind) (.int .i64 version) (.bool isOpen)) w fun r w' => Fr (fun _ => False) w w' ∧ ∃ cv l, r = .tuple #[cv, l, .int .i64 e] ∧
      match R with | none => cv = .pointer none ∧ l = .slice none 0 0 | some (y, out) => ∃ b, cv = .pointer (some ⟨b, 0, none⟩) ∧ RMade w w' b C y l out) := by
  by_cases hc : checkF C = 0
  · have he := resumeS_err C hc job kind version isOpen
    cases hR : CS.resumeS C job kind version isOpen with
    | mk o q =>
      obtain ⟨out, e⟩ := q
      rw [hR] at he
      cases o with
      | none =>
        refine ⟨none, e, by simpa using he, (fun y out h => by cases h), fun w nv pvs hN hF => (resume_run hN hF job kind version isOpen).mono ?_, fun w nv pvs hG hN hF => (rresume_run hG hN hF job kind version isOpen).mono ?_⟩
        · rintro r w' ⟨f, _, h2⟩
          have h2 := h2 hc
          rw [hR] at h2
          exact ⟨f, _, _, h2, rfl, rfl⟩
        · rintro r w' ⟨f, _, h2⟩
          have h2 := h2 hc
          rw [hR] at h2
          exact ⟨f, _, _, h2, rfl, rfl⟩
      | some y =>
        refine ⟨some (y, out), e, by simpa using he.1, (fun y' out' h => by cases h; exact he.2), fun w nv pvs hN hF => (resume_run hN hF job kind version isOpen).mono ?_, fun w nv pvs hG hN hF => (rresume_run hG hN hF job kind version isOpen).mono ?_⟩
        · rintro r w' ⟨f, _, h2⟩
          have h2 := h2 hc
          rw [hR] at h2
          obtain ⟨b, l, rfl, hm⟩ := h2
          exact ⟨f, _, _, rfl, b, rfl, hm⟩
        · rintro r w' ⟨f, _, h2⟩
          have h2 := h2 hc
          rw [hR] at h2
          obtain ⟨b, l, rfl, hm⟩ := h2
          exact ⟨f, _, _, rfl, b, rfl, hm⟩
  · refine ⟨none, checkF C, by simpa using hc, (fun y out h => by cases h), fun w nv pvs hN hF => (resume_run hN hF job kind version isOpen).mono ?_, fun w nv pvs hG hN hF => (rresume_run hG hN hF job kind version isOpen).mono ?_⟩
    · rintro r w' ⟨f, h1, _⟩
      exact ⟨f, _, _, h1 hc, rfl, rfl⟩
    · rintro r w' ⟨f, h1, _⟩
      exact ⟨f, _, _, h1 hc, rfl, rfl⟩
end
end Go.Proofs.YtpiceodfdjihhaaGreatDoor

/-
  The exact laws of layer 15, part R: a call of both.
-/
namespace Go.Proofs.YtpiceodfdjihhaaGreatDoor
open Go.Lift
set_option linter.unusedSimpArgs false
structure St where
  kind : Int
  n : Int
  v : Int
  m : Ms
def St.cells (o : St) : List Value := .int .i64 o.kind :: .int .i64 o.n :: .int .i64 o.v :: o.m.cells
def St.val (o : St) : Value := .agg o.cells.toArray
section
variable {w0 w w' : World} {D : Nat} {C : Clu} {nv : Value} {x : Option CS} {n1 n2 : Nat} {d : PWd}
/-- What is at hand behind both calls. -/
def Both (w0 w2 : World) (D : Nat) (C : Clu) (nv : Value) (n1 n2 : Nat) (d : PWd) (r : Value) (e : Int) (res' : Value) : Prop :=
  ∃ r' out x' d', res' = .tuple #[r', .int .i64 e] ∧ PW w0 w2 D C nv x' n1 n2 d' ∧ d'.cv = d.cv ∧ d'.fv = d.fv ∧ Free w0 w2 d' r out ∧ Free w0 w2 d' r' out ∧ GoodOut out
theorem PW.two (hg : Glob w0) (h : PW w0 w D C nv x n1 n2 d) {A B : Value → M Value} {a : CS → Ans}
    (hAs : ∀ (b : Nat) (wa : World) (y : CS) (v : CV) (tag : Nat → Nat), Ctl wa b y v tag → COk y → Run (A (.pointer (some ⟨b, 0, none⟩))) wa fun r w' => Got_ wa w' b tag (a y) r)
    (hAn : ∀ wa : World, Run (A (.pointer none)) wa fun r w' => Nil2 wa w' r)
    (hBs : ∀ (rb : Nat) (wa : World) (y : CS) (v : RV) (tag : Nat → Nat), Glob wa → RefC wa rb C y v tag → COk y → Run (B (.pointer (some ⟨rb, 0, none⟩))) wa fun r w' => RGot wa w' rb C tag (a y) r)
    (hBn : ∀ wa : World, Run (B (.pointer none)) wa fun r w' => Nil2 wa w' r)
    (hgood : ∀ y : CS, COk y → GoodOut (a y).out ∧ COk (a y).x) :
    Run (A d.cv) w fun res w1 => ∃ r e, res = .tuple #[r, .int .i64 e] ∧ Fr (fun c => d.own c ≠ 0 ∧ c ≠ D) w w1 ∧ ∀ w1', Fr (fun _ => False) w1 w1' → Run (B d.fv) w1' fun res' w2 => Both w0 w2 D C nv n1 n2 d r e res' := by
  have hpair := h.pair
  cases x with
  | none =>
    obtain ⟨p1, p2⟩ := hpair
    rw [p1]
    refine (hAn w).mono ?_
    rintro _ w1 ⟨rfl, f1⟩
    refine ⟨_, _, rfl, f1.mono fun _ h => h.elim, fun w1' f1' => ?_⟩
    rw [p2]
    refine (hBn w1').mono ?_
    rintro _ w2 ⟨rfl, f2⟩
    have hpw : PW w0 w2 D C nv none n1 n2 d := ((h.fr0 f1).fr0 f1').fr0 f2
    exact ⟨_, [], none, d, rfl, hpw, rfl, rfl, Free.nil, Free.nil, GoodOut.nil⟩
  | some y =>
    obtain ⟨b, v, tag, rb, v', tagR, p1, p2, hC, hR, hok, t1, t2⟩ := hpair
    rw [p1]
    refine (hAs b w y v tag hC hok).mono ?_
    rintro _ w1 ⟨r, rfl, hd⟩
    refine ⟨r, _, rfl, hd.fr.mono fun c hc => ⟨by rw [t1 c hc]; decide, fun he => by have := t1 c hc; rw [he, h.oD] at this; cases this⟩, fun w1' f1' => ?_⟩
    rw [p2]
    have f11 : Fr (fun c => d.own c = 1) w w1' := (hd.fr.mono fun c hc => t1 c hc).trans f1' fun _ _ h => h.elim
    have hR1 : RefC w1' rb C y v' tagR := hR.fr f11 fun c hc => Classical.byContradiction fun hn => by have := t2 c hn; omega
    have g0 : Fr (fun _ => False) w0 w1' := h.f0.trans f11 fun c hc h' => by have := (h.bound c (by omega)).1; omega
    refine (hBs rb w1' y v' tagR (hg.fr0 g0) hR1 hok).mono ?_
    rintro _ w2 ⟨r', rfl, hr⟩
    obtain ⟨hgo, hok'⟩ := hgood y hok
    obtain ⟨own', k1, k2, k3⟩ := h.pairs (v := v) p1 p2 hR t1 t2 hd f1' hr hok'
    exact ⟨r', _, _, _, rfl, k1, rfl, rfl, k2, k3, hgo⟩
/-- Then out. -/
theorem Both.out {w2 : World} {r res' : Value} {e : Int} {K : Value → World → Prop} (hb : Both w0 w2 D C nv n1 n2 d r e res') (hn : n2 ≤ 1099511627776) (hcn : C.nodes.length ≤ 1048576) (held : Bool) :
    ∃ r', res' = .tuple #[r', .int .i64 e] ∧ Run (F.granarylaw15_World_out (.pointer (some ⟨D, 0, none⟩)) r (.int .i64 e) r' (.int .i64 e) (.bool held)) w2 fun res w' => res = .bool true ∧ ∃ x' d', PW w0 w' D C nv x' n1 (n2 + 1) d' := by
  obtain ⟨r', out, x', d', rfl, h1, _, _, h4, h5, h6⟩ := hb
  refine ⟨r', rfl, (out_run h1 h4 h5 h6.1 h6.2 hn hcn e held).mono ?_⟩
  rintro _ w3 ⟨rfl, d3, h7, _, _⟩
  exact ⟨rfl, x', d3, h7⟩
def Stepped (w0 w' : World) (D : Nat) (C : Clu) (nv : Value) (n1 n2 : Nat) (r : Value) : Prop := r = .bool true ∧ ∃ x' m d', PW w0 w' D C nv x' n1 m d' ∧ m ≤ n2 + 1
theorem stepped {w2 : World} {r res' : Value} {e : Int} (hb : Both w0 w2 D C nv n1 n2 d r e res') (hn : n2 ≤ 1099511627776) (hcn : C.nodes.length ≤ 1048576) (held : Bool) :
    ∃ r', res' = .tuple #[r', .int .i64 e] ∧ Run (F.granarylaw15_World_out (.pointer (some ⟨D, 0, none⟩)) r (.int .i64 e) r' (.int .i64 e) (.bool held)) w2 fun res w' => Stepped w0 w' D C nv n1 n2 res := by
  obtain ⟨r', h1, h2⟩ := Both.out (K := fun _ _ => True) hb hn hcn held
  refine ⟨r', h1, h2.mono ?_⟩
  rintro _ w3 ⟨rfl, x', d', h3⟩
  exact ⟨rfl, x', n2 + 1, d', h3, Nat.le_refl _⟩
theorem ms_all {m : Ms} (h : m.str) : m.cells.all isCell = true := by obtain ⟨s, t, h3, h4⟩ := h; simp [Ms.cells, h3, h4]
set_option maxHeartbeats 1000000 in
theorem calls_run (hg : Glob w0) {pvs : List Value} (hN : Nodes w0 nv C.nodes pvs) (hF : Fits C) (h : PW w0 w D C nv x n1 n2 d) (o : St) (hm : o.m.str) (held : Bool) (hn : n2 ≤ 1099511627776) :
    Run (F.granarylaw15_World_calls (.pointer (some ⟨D, 0, none⟩)) o.val (.bool held)) w fun r w' => Stepped w0 w' D C nv n1 n2 r := by
  unfold F.granarylaw15_World_calls
  have hcn := hF.count
  simp [-ldA_ptr, St.val]
  refine Run_new fun c w1 hc hcw f1 hle => ?_
  have hc : bk w1 c = some o.cells := hc
  have h1 := h.fr0 f1
  have oc : d.own c = 0 := h.own0 hle
  have o0 : o.cells[0]? = some (.int .i64 o.kind) := rfl
  have o1 : o.cells[1]? = some (.int .i64 o.n) := rfl
  have o2 : o.cells[2]? = some (.int .i64 o.v) := rfl
  have o3 : o.cells[3]? = some (.int .i64 o.m.kind) := rfl
  have o8 : o.cells[8]? = some (.int .i64 o.m.seq) := rfl
  have hD1 := h1.blk
  have hwc := wcells_gets C nv d.cv d.fv d.lv d.b1 d.b2
  have ldm : ∀ {wa : World}, bk wa c = some o.cells → Go.Lift.ldA 11 (.pointer (some ⟨c, 3, none⟩)) wa = some o.m.val := fun hb => by
    rw [ldA_bk hb (by simp [St.cells, Ms.cells])]; rfl
  have hfine : o.m.fine := by obtain ⟨s, t, h3, h4⟩ := hm; exact ⟨by rw [h3]; rfl, by rw [h4]; rfl⟩
  have keepD : ∀ {wa : World}, Fr (fun c => d.own c ≠ 0 ∧ c ≠ D) w1.drew wa → bk wa D = some (wcells C nv d.cv d.fv d.lv d.b1 d.b2) ∧ bk wa c = some o.cells := fun f => ⟨f.bk_some hD1 fun h' => h'.2 rfl, f.bk_some hc fun h' => h'.1 oc⟩
  have keepD' : ∀ {wa : World}, Fr (fun c => d.own c ≠ 0 ∧ c ≠ D) w1 wa → bk wa D = some (wcells C nv d.cv d.fv d.lv d.b1 d.b2) ∧ bk wa c = some o.cells := fun f => ⟨f.bk_some hD1 fun h' => h'.2 rfl, f.bk_some hc fun h' => h'.1 oc⟩
  have d1 : Fr (fun _ => False) w1 w1.drew := (Fr.refl _ _).drew
  have h1d := h1.fr0 d1
  by_cases k1 : o.kind = 1
  · simp [-ldA_ptr, hc, o0, o1, o2, k1, hD1, hwc.2.1]
    refine (h1d.two hg (A := fun p => F.control_Control_Begin p (.int .i64 o.n) (.int .i64 o.v)) (B := fun p => F.granaryref15_Control_Begin p (.int .i64 o.n) (.int .i64 o.v)) (a := fun y => y.beginS o.n o.v)
      (fun b wa y v tag hC hok => begin_run hC hok _ _) (fun wa => nil_begin _ _) (fun rb wa y v tag hG hR hok => rBegin_run hG hR hok _ _) (fun wa => rnil_begin _ _) (fun y hok => ⟨good_begin y hok.n.2 _ _, hok.beginS _ _⟩)).mono ?_
    rintro _ w2 ⟨r, e, rfl, f2, hB⟩
    obtain ⟨hD2, hc2⟩ := keepD f2
    simp [-ldA_ptr, extV, hD2, hc2, hwc.2.2.1, o1, o2]
    refine (hB _ (Fr.refl _ _).drew).mono ?_
    rintro _ w3 hb
    obtain ⟨r', rfl, hr⟩ := stepped hb hn hcn held
    simp [-ldA_ptr, extV]
    exact hr
  by_cases k2 : o.kind = 2
  · simp [-ldA_ptr, hc, o0, k2, hD1, hwc.2.1, ldm hc]
    refine (h1d.two hg (A := fun p => F.control_Control_Take p o.m.val) (B := fun p => F.granaryref15_Control_Take p o.m.val) (a := fun y => ⟨(y.takeS o.m).1, (y.takeS o.m).2, 0⟩)
      (fun b wa y v tag hC hok => take_run hC hok _ hfine) (fun wa => nil_take _) (fun rb wa y v tag hG hR hok => rtake_run hG hR hok _ hfine) (fun wa => rnil_take _) (fun y hok => ⟨good_take y hok.n.2 _, hok.takeS _⟩)).mono ?_
    rintro _ w2 ⟨r, e, rfl, f2, hB⟩
    obtain ⟨hD2, hc2⟩ := keepD f2
    simp [-ldA_ptr, extV, hD2, hc2, hwc.2.2.1, ldm hc2]
    refine (hB _ (Fr.refl _ _).drew).mono ?_
    rintro _ w3 hb
    obtain ⟨r', rfl, hr⟩ := stepped hb hn hcn held
    simp [-ldA_ptr, extV]
    exact hr
  by_cases k8 : o.kind = 8
  · obtain ⟨l1, l2, l3, l4⟩ := h1.last
    have hll := l1.1.lenL
    simp only [elM_len] at hll
    by_cases hz : d.ms.length = 0
    · simp [-ldA_ptr, hc, o0, k8, hD1, hwc.2.2.2.1, hll, hz]
      exact ⟨rfl, _, n2, _, h1, by omega⟩
    have hz' : ¬ (d.ms.length : Int) = 0 := by omega
    have hms : d.ms.length ≤ 1048576 := by rw [l2]; exact hcn
    obtain ⟨k, hk, hkl⟩ : ∃ k : Nat, o.n % (d.ms.length : Int) = k ∧ k < d.ms.length :=
      ⟨(o.n % (d.ms.length : Int)).toNat, by have := Int.emod_nonneg o.n hz'; omega, by have := Int.emod_lt_of_pos o.n (show (0 : Int) < d.ms.length by omega); have := Int.emod_nonneg o.n hz'; omega⟩
    have ek : (elM d.ms)[k]? = some d.ms[k].cells := by simp [elM, List.getElem?_eq_getElem hkl]
    have hmk := l3 d.ms[k] (List.getElem_mem hkl)
    generalize d.ms[k] = mk at ek hmk
    obtain ⟨p, p1, p2⟩ := l1.1.rdA (by decide) ek .i64
    have p2 : Go.Lift.ldA 11 p w1 = some mk.val := p2
    have pf : ∀ {wa : World}, Fr (fun _ => False) w1 wa → Go.Lift.ldA 11 p wa = some mk.val := fun f => by
      obtain ⟨p', q1, q2⟩ := (l1.1.fr f fun _ _ => id).rdA (by decide) ek .i64
      rw [p1] at q1
      cases q1
      exact q2
    simp [-ldA_ptr, hc, o0, k8, hD1, hwc.2.2.2.1, hll, hz]
    refine Run.mono (Q := fun l w2 => ∃ e am, l = [.pointer (some ⟨e, 0, none⟩)] ∧ Ms.str am ∧ bk w2 e = some am.cells ∧ w1.heap.size ≤ e ∧ Fr (fun _ => False) w1 w2) (Run_altM (by simp) ?_) ?_
    · intro y hy
      simp at hy
      have m1 : (1 : Int) ≤ (d.ms.length : Int) := by omega
      have m2 : (d.ms.length : Int) ≤ 1099511627776 := by omega
      rcases hy with rfl | rfl | rfl
      · simp [-ldA_ptr, hc, o1, o2, hD1, hwc.2.2.2.1, hll, mod15_run m1 m2, hk, p1, p2]
        refine (answer15_run mk o.v).mono ?_
        rintro _ w2 ⟨am, hs, rfl, f2⟩
        refine Run_newSt (cs := am.cells.toArray) (by simp) (by simp [Ms.cells]) (ms_all hs) fun e w3 he hew f3 hle3 => ?_
        exact ⟨e, rfl, am, hs, he, Nat.le_trans (Nat.le_trans d1.size f2.size) hle3, (d1.trans f2 fun _ _ => id).trans f3 fun _ _ => id⟩
      · simp [-ldA_ptr, hc, o1, o2, hD1, hwc.2.2.2.1, hll, mod15_run m1 m2, hk, p1, p2]
        refine Run_new fun e w2 he hew f2 hle2 => ?_
        have f12 : Fr (fun _ => False) w1 w2 := d1.trans f2 fun _ _ => id
        refine (answer15_run mk o.v).mono ?_
        rintro _ w3 ⟨am, hs, rfl, f3⟩
        have he3 := f3.bk_some he id
        have hew3 : wr w3 e = true := by rw [f3.wr (bk_lt he) id]; exact hew
        have hb2 := f12.bk_some hD1 id
        have hc2 := f12.bk_some hc id
        simp [-ldA_ptr, Ms.val, he3, hew3, hb2, hc2, hwc.2.2.2.1, o2, pf f12]
        refine ⟨rfl, fun y hy => List.all_eq_true.1 (ms_all hs) _ hy, am, hs, setL_all _ _ (by simp [Ms.cells]), hle2, (f12.trans f3 fun _ _ => id).sto (.inr hle2) _ _⟩
      · simp [-ldA_ptr, hc, o1, o2, hD1, hwc.2.2.2.1, hll]
        refine Run_new fun e w2 he hew f2 hle2 => ?_
        have f12 : Fr (fun _ => False) w1 w2 := d1.trans f2 fun _ _ => id
        have hb2 := f12.bk_some hD1 id
        have hc2 := f12.bk_some hc id
        simp [-ldA_ptr, mod15_run m1 m2, hk, p1, pf f12]
        refine (answer15_run mk o.v).mono ?_
        rintro _ w3 ⟨am, hs, rfl, f3⟩
        have he3 := f3.bk_some he id
        have hew3 : wr w3 e = true := by rw [f3.wr (bk_lt he) id]; exact hew
        simp [-ldA_ptr, Ms.val, he3, hew3, hb2, hc2, hwc.2.2.2.1, o1, o2, hll]
        refine ⟨rfl, fun i hi => List.all_eq_true.1 (ms_all hs) _ (List.getElem_mem _), am, hs, setL_all _ _ (by simp [Ms.cells]), hle2, (f12.trans f3 fun _ _ => id).sto (.inr hle2) _ _⟩
    · rintro _ w2 ⟨e, am, rfl, hs, he, hle2, f2⟩
      have h2 := h1.fr0 f2
      have hD2 := h2.blk
      have hfa : am.fine := by obtain ⟨s, t, h3, h4⟩ := hs; exact ⟨by rw [h3]; rfl, by rw [h4]; rfl⟩
      have oe : d.own e = 0 := h1.own0 hle2
      have d2 : Fr (fun _ => False) w2 w2.drew := (Fr.refl _ _).drew
      simp [-ldA_ptr, hD2, hwc.2.1, Ms.ldA' he]
      refine ((h2.fr0 d2).two hg (A := fun p => F.control_Control_Take p am.val) (B := fun p => F.granaryref15_Control_Take p am.val) (a := fun y => ⟨(y.takeS am).1, (y.takeS am).2, 0⟩)
        (fun b wa y v tag hC hok => take_run hC hok _ hfa) (fun wa => nil_take _) (fun rb wa y v tag hG hR hok => rtake_run hG hR hok _ hfa) (fun wa => rnil_take _) (fun y hok => ⟨good_take y hok.n.2 _, hok.takeS _⟩)).mono ?_
      rintro _ w3 ⟨r, e', rfl, f3, hB⟩
      have hD3 := f3.bk_some hD2 fun h' => h'.2 rfl
      have he3 := f3.bk_some he fun h' => h'.1 oe
      simp [-ldA_ptr, extV, hD3, hwc.2.2.1, Ms.ldA' he3]
      refine (hB _ (Fr.refl _ _).drew).mono ?_
      rintro _ w4 hb
      obtain ⟨r', rfl, hr⟩ := stepped hb hn hcn held
      simp [-ldA_ptr, extV]
      exact hr
  by_cases k3 : o.kind = 3
  · simp [-ldA_ptr, hc, o0, o1, o2, k3, hD1, hwc.2.1]
    refine (h1.two hg (A := fun p => F.control_Control_Tick p) (B := fun p => F.granaryref15_Control_Tick p) (a := fun y => ⟨y.tickS.1, y.tickS.2, 0⟩)
      (fun b wa y v tag hC hok => tick_run hC hok) (fun wa => nil_tick) (fun rb wa y v tag hG hR hok => rtick_run hG hR hok) (fun wa => rnil_tick) (fun y hok => ⟨good_tick hok, hok.tickS⟩)).mono ?_
    rintro _ w2 ⟨r, e, rfl, f2, hB⟩
    obtain ⟨hD2, hc2⟩ := keepD' f2
    simp [-ldA_ptr, extV, hD2, hc2, hwc.2.2.1]
    refine (hB _ (Fr.refl _ _)).mono ?_
    rintro _ w3 hb
    obtain ⟨r', rfl, hr⟩ := stepped hb hn hcn held
    simp [-ldA_ptr, extV]
    exact hr
  by_cases k9 : o.kind = 9
  · have hld : ∀ {wa : World}, bk wa D = some (wcells C nv d.cv d.fv d.lv d.b1 d.b2) → Go.Lift.ldA 23 (.pointer (some ⟨D, 0, none⟩)) wa = some (C.val nv) := fun hb => by
      rw [ldA_bk hb (by rw [hwc.1]; omega)]; rfl
    simp [-ldA_ptr, hc, o0, o8, k9, mod15_run (show (1 : Int) ≤ 2 by decide) (show (2 : Int) ≤ 1099511627776 by decide), hld hD1]
    have hN1 := hN.fr0 h1.f0
    refine (hand_run hN1 hF).mono ?_
    rintro _ w2 ⟨f2, H, nv1, nv2, hv, pv, ps, pvs1, pvs2, rfl, hH⟩
    have hHc := hc_gets C nv1 nv2 hv pv
    have hldH : ∀ {wa : World}, bk wa H = some (hcells C nv1 nv2 hv pv) → Go.Lift.ldA 23 (.pointer (some ⟨H, 0, none⟩)) wa = some (C.val nv1) := fun hb => by
      rw [ldA_bk hb (by rw [hHc.1]; omega)]; rfl
    have hc2 := f2.bk_some hc id
    simp [-ldA_ptr, hldH hH.blk, hc2, o1, o2, o3]
    obtain ⟨R, e, hRe, hgood, hP, hQ⟩ := resume_two C o.n o.m.kind o.v (decide (o.m.seq % 2 = 1))
    have d2 : Fr (fun _ => False) w2 w2.drew := (Fr.refl _ _).drew
    refine (hP w2.drew nv1 pvs1 (hH.n1.fr0 d2) hF).mono ?_
    rintro _ w3 ⟨f3, cv', l, rfl, hm3⟩
    have f23 : Fr (fun _ => False) w2 w3 := d2.trans f3 fun _ _ => id
    have hH3 := hH.fr0 f23
    simp [-ldA_ptr, extV]
    refine (left_run hH3 hF).mono ?_
    rintro _ w4 ⟨rfl, f4⟩
    have hH4 := hH3.fr0 f4
    simp [-ldA_ptr]
    refine (spoil_run hH4 hF).mono ?_
    rintro _ w5 f5
    have s2 := f2.size
    have s23 := f23.size
    have s4 := f4.size
    have s5 := f5.size
    have s1 := f1.size
    have s01 := h1.f0.size
    have f5' : Fr (fun z => w1.heap.size ≤ z ∧ z < w2.heap.size) w4 w5 := f5.mono fun z hz => ⟨hz.1, hH.lt z hz.2.2⟩
    have h4 : PW w0 w4 D C nv x n1 n2 d := ((h1.fr0 f2).fr0 f23).fr0 f4
    have h5 : PW w0 w5 D C nv x n1 n2 d := h4.fr f5' (fun z hz => h1.own0 hz.1) fun z hz => by omega
    have hc5 : bk w5 c = some o.cells := f5'.bk_some (f4.bk_some (f23.bk_some hc2 id) id) fun hz => by have := bk_lt hc; omega
    have hD5 := h5.blk
    simp [-ldA_ptr, hld hD5, hc5, o1, o2, o3]
    have d5 : Fr (fun _ => False) w5 w5.drew := (Fr.refl _ _).drew
    have f05 : Fr (fun _ => False) w0 w5.drew := h5.f0.trans d5 fun _ _ => id
    refine (hQ w5.drew nv pvs (hg.fr0 f05) (hN.fr0 f05) hF).mono ?_
    rintro _ w6 ⟨f6, fv', l', rfl, hm6⟩
    have f56 : Fr (fun _ => False) w5 w6 := d5.trans f6 fun _ _ => id
    have h6 := h5.fr0 f56
    have hD6 := h6.blk
    have hw6 := h6.wr
    have s56 := f56.size
    have lw24 : 24 ≤ (wcells C nv d.cv d.fv d.lv d.b1 d.b2).length := by rw [hwc.1]; omega
    cases R with
    | none =>
      obtain ⟨rfl, rfl⟩ := hm3
      obtain ⟨rfl, rfl⟩ := hm6
      have he : e ≠ 0 := hRe.1 rfl
      have hwc2 := wcells_gets C nv (.pointer none) d.fv d.lv d.b1 d.b2
      have lw25 : 25 ≤ (wcells C nv (.pointer none) d.fv d.lv d.b1 d.b2).length := by rw [hwc2.1]; omega
      simp [-ldA_ptr, extV, hD6, hw6, hwc.2.2.2.2.1, lw24, lw25]
      refine (out_run h6.renewN Free.nil Free.nil (by simp) (fun _ h => by cases h) hn hcn e held).mono ?_
      rintro _ w7 ⟨rfl, d7, h7, _, _⟩
      simp [he]
      exact ⟨rfl, _, _, d7, h7, Nat.le_refl _⟩
    | some q =>
      obtain ⟨y, out⟩ := q
      obtain ⟨b, rfl, hM⟩ := hm3
      obtain ⟨rb, rfl, hM'⟩ := hm6
      have he : e = 0 := Classical.byContradiction fun hn => by have := hRe.2 hn; cases this
      obtain ⟨v, tag, hC3, t1, t2⟩ := hM.ctl
      obtain ⟨v', tagR, hR6, t1', t2'⟩ := hM'.ref
      have zb : ∀ z, tag z ≠ 0 → z < w3.heap.size := fun z hz => hC3.c0.bound z hz
      have t1 : ∀ z, tag z ≠ 0 → w2.heap.size ≤ z := t1
      have t1' : ∀ z, tagR z ≠ 0 → w5.heap.size ≤ z := t1'
      have n3 : ∀ z, inB l z → w2.heap.size ≤ z ∧ z < w3.heap.size := hM.new
      have n6 : ∀ z, inB l' z → w5.heap.size ≤ z ∧ z < w6.heap.size := hM'.new
      have hC6 : Ctl w6 b y v tag := ((hC3.fr0 f4).fr f5' fun z hz => Classical.byContradiction fun hn => by have := t1 z hn; omega).fr0 f56
      have hl6 : SlW 11 w6 l (elM out) := ((hM.out.fr f4 fun _ _ => id).fr f5' fun z hz h' => by have := n3 z hz; omega).fr f56 fun _ _ => id
      have hbo := h1.bound
      obtain ⟨d7, h7, _, k2, k3⟩ := h6.renewS (s1 := w2.heap.size) (fun z hz => by have := hbo z hz; omega) (by omega) hC6 hR6 hM.ok t1 (fun z hz => ⟨by have := t1' z hz; omega, Classical.byContradiction fun hn => by have := t1' z hz; have := zb z hn; omega⟩) hl6 hM'.out
        (fun z hz => ⟨(n3 z hz).1, by have := n3 z hz; omega, t2 z hz, Classical.byContradiction fun hn => by have := n3 z hz; have := t1' z hn; omega⟩)
        (fun z hz => ⟨by have := n6 z hz; omega, (n6 z hz).2, Classical.byContradiction fun hn => by have := n6 z hz; have := zb z hn; omega, t2' z hz⟩)
      have hgo := hgood y out rfl
      have hwc2 := wcells_gets C nv (.pointer (some ⟨b, 0, none⟩)) d.fv d.lv d.b1 d.b2
      have lw25 : 25 ≤ (wcells C nv (.pointer (some ⟨b, 0, none⟩)) d.fv d.lv d.b1 d.b2).length := by rw [hwc2.1]; omega
      simp [-ldA_ptr, extV, hD6, hw6, hwc.2.2.2.2.1, lw24, lw25]
      refine (out_run h7 k2 k3 hgo.1 hgo.2 hn hcn e held).mono ?_
      rintro _ w7 ⟨rfl, d8, h8, _, _⟩
      simp [he]
      exact ⟨rfl, _, _, d8, h8, Nat.le_refl _⟩
  by_cases k4 : o.kind = 4
  · simp [-ldA_ptr, hc, o0, o1, o2, k4, hD1, hwc.2.1]
    refine (h1.two hg (A := fun p => F.control_Control_Stop p) (B := fun p => F.granaryref15_Control_Stop p) (a := fun y => y.stopS)
      (fun b wa y v tag hC hok => stop_run hC hok) (fun wa => nil_stop) (fun rb wa y v tag hG hR hok => rstop_run hG hR hok) (fun wa => rnil_stop) (fun y hok => ⟨good_stop y hok.n.2, hok.stopS⟩)).mono ?_
    rintro _ w2 ⟨r, e, rfl, f2, hB⟩
    obtain ⟨hD2, hc2⟩ := keepD' f2
    simp [-ldA_ptr, extV, hD2, hc2, hwc.2.2.1]
    refine (hB _ (Fr.refl _ _)).mono ?_
    rintro _ w3 hb
    obtain ⟨r', rfl, hr⟩ := stepped hb hn hcn held
    simp [-ldA_ptr, extV]
    exact hr
  by_cases k5 : o.kind = 5
  · simp [-ldA_ptr, hc, o0, o1, o2, k5, hD1, hwc.2.1]
    refine (h1.two hg (A := fun p => F.control_Control_Revive p) (B := fun p => F.granaryref15_Control_Revive p) (a := fun y => y.reviveS)
      (fun b wa y v tag hC hok => revive_run hC hok) (fun wa => nil_revive) (fun rb wa y v tag hG hR hok => rrevive_run hG hR hok) (fun wa => rnil_revive) (fun y hok => ⟨good_revive y hok.n.2, hok.reviveS⟩)).mono ?_
    rintro _ w2 ⟨r, e, rfl, f2, hB⟩
    obtain ⟨hD2, hc2⟩ := keepD' f2
    simp [-ldA_ptr, extV, hD2, hc2, hwc.2.2.1]
    refine (hB _ (Fr.refl _ _)).mono ?_
    rintro _ w3 hb
    obtain ⟨r', rfl, hr⟩ := stepped hb hn hcn held
    simp [-ldA_ptr, extV]
    exact hr
  · simp [-ldA_ptr, hc, o0, k1, k2, k8, k3, k9, k4, k5]
    exact ⟨rfl, _, n2, _, h1, by omega⟩
end
end Go.Proofs.YtpiceodfdjihhaaGreatDoor

/-
  The exact laws of layer 15, part S: what is asked.
-/
namespace Go.Proofs.YtpiceodfdjihhaaGreatDoor
open Go.Lift
set_option linter.unusedSimpArgs false
theorem sameReport_run {w : World} {rep : Rep} {hv mv hv' mv' : Value} (h1 : Ints w hv rep.holds) (h2 : Ints w mv rep.missing) (h3 : Ints w hv' rep.holds) (h4 : Ints w mv' rep.missing) (l1 : rep.holds.length ≤ 64) (l2 : rep.missing.length ≤ 64) :
    Run (F.granarylaw15_SameReport (rep.val hv mv) (rep.val hv' mv')) w fun r w' => r = .bool true ∧ Fr (fun _ => False) w w' := by
  unfold F.granarylaw15_SameReport
  simp [Rep.val]
  refine Run_new fun a w1 ha _ f1 _ => ?_
  refine Run_new fun b w2 hb _ f2 _ => ?_
  have ha : bk w1 a = some [.int .i64 rep.job, .int .i64 rep.kind, .int .i64 rep.version, .int .i64 rep.outcome, hv, mv] := ha
  have hb : bk w2 b = some [.int .i64 rep.job, .int .i64 rep.kind, .int .i64 rep.version, .int .i64 rep.outcome, hv', mv'] := hb
  have ha2 := f2.bk_some ha id
  have f02 : Fr (fun _ => False) w w2 := f1.trans f2 fun _ _ => id
  simp [ha2, hb]
  refine (book_same (Sl.fr h1 f02 fun _ _ => id) (Sl.fr h3 f02 fun _ _ => id) ⟨_, l1, rfl⟩).mono ?_
  rintro _ w3 ⟨rfl, f3⟩
  have f03 : Fr (fun _ => False) w w3 := f02.trans f3 fun _ _ => id
  simp [f3.bk_some ha2 id, f3.bk_some hb id]
  refine (book_same (Sl.fr h2 f03 fun _ _ => id) (Sl.fr h4 f03 fun _ _ => id) ⟨_, l2, rfl⟩).mono ?_
  rintro _ w4 ⟨rfl, f4⟩
  simp
  exact f03.trans f4 fun _ _ => id
section
variable {w0 w w' : World} {D : Nat} {C : Clu} {nv : Value} {x : Option CS} {n1 n2 : Nat} {d : PWd}
structure FreeI (w0 w : World) (d : PWd) (l : Value) (ns : List Int) : Prop where
  sl : SlW 1 w l (elI ns)
  own : ∀ c, inB l c → d.own c = 0 ∧ w0.heap.size ≤ c ∧ c < w.heap.size
theorem FreeI.fr0 {l : Value} {ns : List Int} (h : FreeI w0 w d l ns) (f : Fr (fun _ => False) w w') : FreeI w0 w' d l ns := ⟨h.sl.fr f fun _ _ => id, fun c hc => ⟨(h.own c hc).1, (h.own c hc).2.1, Nat.lt_of_lt_of_le (h.own c hc).2.2 f.size⟩⟩
theorem FreeI.after {d' : PWd} {l r : Value} {ns : List Int} (h : FreeI w0 w d l ns) (f : Fr (fun c => d.own c ≠ 0 ∨ inB r c) w w') (k : ∀ c, d.own c = 0 → ¬ inB r c → c < w.heap.size → d'.own c = 0) (dis : ∀ c, inB l c → ¬ inB r c) : FreeI w0 w' d' l ns :=
  ⟨h.sl.fr f fun c hc h' => h'.elim (fun h' => h' (h.own c hc).1) (dis c hc), fun c hc => ⟨k c (h.own c hc).1 (dis c hc) (h.own c hc).2.2, (h.own c hc).2.1, Nat.lt_of_lt_of_le (h.own c hc).2.2 f.size⟩⟩
theorem PW.keepB (h : PW w0 w D C nv x n1 n2 d) {r : Value} {ns : List Int} (hr : FreeI w0 w d r ns) (hl : ns.length ≤ 64) (hn : n1 ≤ 1099511627776) :
    Run (F.granarylaw15_Book_Keep (.pointer (some ⟨D, 26, none⟩)) r) w fun _ w' => ∃ d', PW w0 w' D C nv x (n1 + 1) n2 d' ∧ Fr (fun c => d.own c ≠ 0 ∨ inB r c) w w' ∧ ∀ c, d.own c = 0 → ¬ inB r c → c < w.heap.size → d'.own c = 0 := by
  have hc := wcells_gets C nv d.cv d.fv d.lv d.b1 d.b2
  have hp : putB (wcells C nv d.cv d.fv d.lv d.b1 d.b2) 26 d.b1 = wcells C nv d.cv d.fv d.lv d.b1 d.b2 := hc.2.2.2.2.2.2.2.1 d.b1
  have hD : bk w D = some (putB (wcells C nv d.cv d.fv d.lv d.b1 d.b2) 26 d.b1) := by rw [hp]; exact h.blk
  obtain ⟨a1, a2, a3, a4⟩ := h.book
  have hDw := (h.bound D (by rw [h.oD]; decide))
  have hb0 : d.bt1 D = 0 := Classical.byContradiction fun hn => by have := a2 D hn; rw [h.oD] at this; cases this
  refine (book_keep_run (Ls := d.s1.Ls) (Gs := d.s1.Gs) (Os := d.s1.Os) (Ws := d.s1.Ws) hD h.wr (by rw [hc.1]; omega) a1 hb0 (by omega) a4 ⟨_, hl, rfl⟩ hr.sl fun c hc => ?_).mono ?_
  · have := hr.own c hc
    refine ⟨Classical.byContradiction fun hn => ?_, fun he => ?_, this.2.2⟩
    · have := a2 c hn; omega
    · rw [he, h.oD] at this; cases this.1
  rintro _ w2 ⟨b', s', bt', k1, k2, k3, k4, k5, k6, k7, k8⟩
  classical
  have e1 := k7.size
  let own' : Nat → Nat := fun c => if bt' c ≠ 0 then 4 else d.own c
  have keep : ∀ c t, d.own c = t → t ≠ 0 → t ≠ 4 → own' c = t := fun c t ht h0 h1 => by
    have hlt := (h.bound c (by omega)).2
    have : ¬ bt' c ≠ 0 := fun h' => by
      rcases k8 c h' with a | a | a
      · have := a2 c a; omega
      · have := hr.own c a; omega
      · omega
    simp only [own']; rw [if_neg this, ht]
  have hF : ∀ c, (c = D ∨ d.bt1 c ≠ 0 ∨ inB r c) → d.own c = 6 ∧ c = D ∨ d.own c = 4 ∨ d.own c = 0 := fun c hc => by
    rcases hc with hc | hc | hc
    · left; rw [hc]; exact ⟨h.oD, rfl⟩
    · right; left; exact a2 c hc
    · right; right; exact (hr.own c hc).1
  have h0 : ∀ c, (c = D ∨ d.bt1 c ≠ 0 ∨ inB r c) → w0.heap.size ≤ c := fun c hc => by
    rcases hc with hc | hc | hc
    · rw [hc]; exact hDw.1
    · exact (h.bound c (by rw [a2 c hc]; decide)).1
    · exact (hr.own c hc).2.1
  rw [hc.2.2.2.2.2.2.2.1] at k1
  refine ⟨{ d with b1 := b', s1 := s', bt1 := bt', own := own' }, ⟨h.f0.trans k7 fun c hc h' => by have := h0 c h'; omega, k1, k2, keep D 6 h.oD (by decide) (by decide), h.pair.fr k7 (fun c hc => by have := hF c hc; omega) (fun c hc => by rcases hc with hc | hc <;> exact (keep c _ hc (by decide) (by decide)).trans hc.symm),
    ⟨h.last.1.fr k7 fun c hc h' => by have := hF c h'; have := h.last.2.2.2 c hc; omega, h.last.2.1, h.last.2.2.1, fun c hc => keep c 3 (h.last.2.2.2 c hc) (by decide) (by decide)⟩,
    ⟨k3, fun c hc => by simp only [own']; rw [if_pos hc], by simp only; omega, k5⟩, ⟨?_, fun c hc => keep c 5 (h.letters.2.1 c hc) (by decide) (by decide), h.letters.2.2⟩, fun c hc => ?_⟩, k7.mono fun c h' => ?_, fun c h1 h2 h3 => ?_⟩
  · exact h.letters.1.fr k7 fun c h' => Classical.byContradiction fun hn => by have := hF c h'; have := h.letters.2.1 c hn; omega
  · have hc : own' c ≠ 0 := hc
    by_cases a : bt' c ≠ 0
    · refine ⟨?_, k3.bound c a⟩
      rcases k8 c a with a' | a' | a'
      · exact (h.bound c (by rw [a2 c a']; decide)).1
      · exact (hr.own c a').2.1
      · have := h.f0.size; omega
    · simp only [own'] at hc
      rw [if_neg a] at hc
      have := h.bound c hc
      omega
  · rcases h' with h' | h' | h'
    · left; rw [h', h.oD]; decide
    · left; rw [a2 c h']; decide
    · right; exact h'
  · have : ¬ bt' c ≠ 0 := fun h' => by
      rcases k8 c h' with a | a | a
      · have := a2 c a; omega
      · exact h2 a
      · omega
    show own' c = 0
    simp only [own']; rw [if_neg this, h1]
/-- Both reports. -/
theorem PW.rep (h : PW w0 w D C nv x n1 n2 d) : ∃ (rep : Rep) (e : Int), rep.holds.length ≤ 64 ∧ rep.missing.length ≤ 64 ∧
    (∀ wa : World, Fr (fun _ => False) w wa → Run (F.control_Control_Report d.cv) wa fun res w' => ∃ hv mv, res = .tuple #[rep.val hv mv, .int .i64 e] ∧ Fr (fun _ => False) wa w' ∧ SlW 1 w' hv (elI rep.holds) ∧ SlW 1 w' mv (elI rep.missing) ∧ New wa w' hv ∧ New wa w' mv ∧ ∀ c, inB hv c → ¬ inB mv c) ∧
    (∀ wa : World, Fr (fun _ => False) w wa → Run (F.granaryref15_Control_Report d.fv) wa fun res w' => ∃ hv mv, res = .tuple #[rep.val hv mv, .int .i64 e] ∧ Fr (fun _ => False) wa w' ∧ Ints w' hv rep.holds ∧ Ints w' mv rep.missing) := by
  have hp := h.pair
  cases x with
  | none =>
    obtain ⟨p1, p2⟩ := hp
    refine ⟨Rep.none, 2, by simp [Rep.none], by simp [Rep.none], fun wa f => ?_, fun wa f => ?_⟩
    · rw [p1]
      refine nil_report.mono ?_
      rintro _ w' ⟨rfl, f'⟩
      exact ⟨_, _, rfl, f', SlW.nil _ _, SlW.nil _ _, fun _ h => h.elim, fun _ h => h.elim, fun _ h => h.elim⟩
    · rw [p2]
      refine rnil_report.mono ?_
      rintro _ w' ⟨rfl, f'⟩
      exact ⟨_, _, rfl, f', Sl.nil 1 _, Sl.nil 1 _⟩
  | some y =>
    obtain ⟨b, v, tag, rb, v', tagR, p1, p2, hC, hR, hok, t1, t2⟩ := hp
    by_cases he : y.ended = true
    · refine ⟨y.last, 0, hok.last.1, hok.last.2, fun wa f => ?_, fun wa f => ?_⟩
      · rw [p1]
        refine (report_run (hC.fr0 f) hok).mono ?_
        rintro _ w' ⟨f', h'⟩
        rw [if_pos he] at h'
        obtain ⟨hv, mv, rfl, k1, k2, k3, k4, k5⟩ := h'
        exact ⟨hv, mv, rfl, f', k1, k2, k3, k4, k5⟩
      · rw [p2]
        refine (rreport_run (hR.fr0 f) hok).mono ?_
        rintro _ w' ⟨f', h'⟩
        rw [if_pos he] at h'
        obtain ⟨hv, mv, rfl, k1, k2⟩ := h'
        exact ⟨hv, mv, rfl, f', k1, k2⟩
    · refine ⟨Rep.none, 151, by simp [Rep.none], by simp [Rep.none], fun wa f => ?_, fun wa f => ?_⟩
      · rw [p1]
        refine (report_run (hC.fr0 f) hok).mono ?_
        rintro _ w' ⟨f', h'⟩
        rw [if_neg he] at h'
        exact ⟨_, _, h', f', SlW.nil _ _, SlW.nil _ _, fun _ h => h.elim, fun _ h => h.elim, fun _ h => h.elim⟩
      · rw [p2]
        refine (rreport_run (hR.fr0 f) hok).mono ?_
        rintro _ w' ⟨f', h'⟩
        rw [if_neg he] at h'
        exact ⟨_, _, h', f', Sl.nil 1 _, Sl.nil 1 _⟩
def repC (rep : Rep) (hv mv : Value) : List Value := [.int .i64 rep.job, .int .i64 rep.kind, .int .i64 rep.version, .int .i64 rep.outcome, hv, mv]
theorem rep_ldA {rep : Rep} {hv mv : Value} {w : World} {b : Nat} (h : bk w b = some (repC rep hv mv)) : Go.Lift.ldA 6 (.pointer (some ⟨b, 0, none⟩)) w = some (rep.val hv mv) := by
  rw [ldA_bk h (by simp [repC])]; rfl
def Asked (w0 w' : World) (D : Nat) (C : Clu) (nv : Value) (x : Option CS) (n1 n2 : Nat) (r : Value) : Prop := r = .bool true ∧ ∃ m d', PW w0 w' D C nv x m n2 d' ∧ m ≤ n1 + 4
set_option maxHeartbeats 1000000 in
theorem asks_run (h : PW w0 w D C nv x n1 n2 d) (o : St) (hn : n1 + 4 ≤ 1099511627776) :
    Run (F.granarylaw15_World_asks (.pointer (some ⟨D, 0, none⟩)) o.val) w fun r w' => Asked w0 w' D C nv x n1 n2 r := by
  unfold F.granarylaw15_World_asks
  simp [-ldA_ptr, St.val]
  refine Run_new fun c w1 hc hcw f1 hle => ?_
  have hc : bk w1 c = some o.cells := hc
  have h1 := h.fr0 f1
  have o0 : o.cells[0]? = some (.int .i64 o.kind) := rfl
  have hD1 := h1.blk
  have hwc := wcells_gets C nv d.cv d.fv d.lv d.b1 d.b2
  by_cases k6 : o.kind = 6
  · have hbz : ∃ k : Bool, (∀ (wa : World) (Q : Value → World → Prop), Fr (fun _ => False) w1 wa → (Run (F.control_Control_Busy d.cv) wa Q ↔ Q (.bool k) wa)) ∧ (∀ (wa : World) (Q : Value → World → Prop), Fr (fun _ => False) w1 wa → (Run (F.granaryref15_Control_Busy d.fv) wa Q ↔ Q (.bool k) wa)) := by
      have hp := h1.pair
      cases x with
      | none => exact ⟨false, fun wa Q f => by rw [hp.1]; exact nil_busy, fun wa Q f => by rw [hp.2]; exact rnil_busy⟩
      | some y =>
        obtain ⟨b, v, tag, rb, v', tagR, p1, p2, hC, hR, hok, t1, t2⟩ := hp
        exact ⟨y.now.isSome, fun wa Q f => by rw [p1]; exact busy_run (hC.fr0 f), fun wa Q f => by rw [p2]; exact rbusy_run (hR.fr0 f) hok⟩
    obtain ⟨k, b1, b2⟩ := hbz
    have d1 : Fr (fun _ => False) w1 w1.drew := (Fr.refl _ _).drew
    simp [-ldA_ptr, hc, o0, k6, hD1, hwc.2.1, hwc.2.2.1, b1 _ _ d1, b2 _ _ d1]
    exact ⟨rfl, n1, d, h1.fr0 d1, by omega⟩
  by_cases k7 : o.kind = 7
  · obtain ⟨rep, e, l1, l2, hA, hB⟩ := h1.rep
    simp [-ldA_ptr, hc, o0, k6, k7, hD1, hwc.2.1]
    refine (hA w1 (Fr.refl _ _)).mono ?_
    rintro _ w2 ⟨hv, mv, rfl, f2, s1, s2, n1', n2', ap⟩
    simp [-ldA_ptr, extV]
    have rall : ∀ {hv mv : Value}, isCell hv = true → isCell mv = true → (repC rep hv mv).all isCell = true := fun h1 h2 => by simp [repC, h1, h2]
    refine Run_newSt (cs := (repC rep hv mv).toArray) (by simp) (by simp [repC]) (rall s1.1.isCell s2.1.isCell) fun a w3 ha haw f3 hle3 => ?_
    have ha : bk w3 a = some (repC rep hv mv) := ha
    have f13 : Fr (fun _ => False) w1 w3 := f2.trans f3 fun _ _ => id
    have hD3 := f13.bk_some hD1 id
    simp [-ldA_ptr, hD3, hwc.2.1]
    refine (hA w3 f13).mono ?_
    rintro _ w4 ⟨hv2, mv2, rfl, f4, s3, s4, n3', n4', ap2⟩
    simp [-ldA_ptr, extV]
    refine Run_newSt (cs := (repC rep hv2 mv2).toArray) (by simp) (by simp [repC]) (rall s3.1.isCell s4.1.isCell) fun b w5 hb hbw f5 hle5 => ?_
    have hb : bk w5 b = some (repC rep hv2 mv2) := hb
    have f15 : Fr (fun _ => False) w1 w5 := (f13.trans f4 fun _ _ => id).trans f5 fun _ _ => id
    have hD5 := f15.bk_some hD1 id
    simp [-ldA_ptr, hD5, hwc.2.2.1]
    refine (hB w5 f15).mono ?_
    rintro _ w6 ⟨hv3, mv3, rfl, f6, s5, s6⟩
    simp [-ldA_ptr, extV]
    refine Run_newSt (cs := (repC rep hv3 mv3).toArray) (by simp) (by simp [repC]) (rall s5.isCell s6.isCell) fun q w7 hq hqw f7 hle7 => ?_
    have hq : bk w7 q = some (repC rep hv3 mv3) := hq
    have f17 : Fr (fun _ => False) w1 w7 := (f15.trans f6 fun _ _ => id).trans f7 fun _ _ => id
    have f37 : Fr (fun _ => False) w3 w7 := ((f4.trans f5 fun _ _ => id).trans f6 fun _ _ => id).trans f7 fun _ _ => id
    have f57 : Fr (fun _ => False) w5 w7 := f6.trans f7 fun _ _ => id
    have ha7 := f37.bk_some ha id
    have hb7 := f57.bk_some hb id
    simp [-ldA_ptr, rep_ldA ha7, rep_ldA hq]
    have f27 : Fr (fun _ => False) w2 w7 := f3.trans f37 fun _ _ => id
    have f47 : Fr (fun _ => False) w4 w7 := f5.trans f57 fun _ _ => id
    have s1' := s1.fr f27 fun _ _ => id
    have s2' := s2.fr f27 fun _ _ => id
    have s3' := s3.fr f47 fun _ _ => id
    have s4' := s4.fr f47 fun _ _ => id
    have s5' := s5.fr f7 fun _ _ => id
    have s6' := s6.fr f7 fun _ _ => id
    refine (sameReport_run s1'.1 s2'.1 s5' s6' l1 l2).mono ?_
    rintro _ w8 ⟨rfl, f8⟩
    have hb8 := f8.bk_some hb7 id
    have hq8 := f8.bk_some hq id
    have ha8 := f8.bk_some ha7 id
    simp [-ldA_ptr, F.granarylaw15_num, rep_ldA hb8, rep_ldA hq8]
    refine (sameReport_run (s3'.1.fr f8 fun _ _ => id) (s4'.1.fr f8 fun _ _ => id) (s5'.fr f8 fun _ _ => id) (s6'.fr f8 fun _ _ => id) l1 l2).mono ?_
    rintro _ w9 ⟨rfl, f9⟩
    have f79 : Fr (fun _ => False) w7 w9.drew := (f8.trans f9 fun _ _ => id).drew
    have ha9 := f79.bk_some ha7 id
    have hb9 := f79.bk_some hb7 id
    have h9 : PW w0 w9.drew D C nv x n1 n2 d := (h1.fr0 f17).fr0 f79
    have e2 := f2.size
    have e3 := f3.size
    have e4 := f4.size
    have e57 := f57.size
    have e5 := f5.size
    have e79 := f79.size
    have e01 := h1.f0.size
    have z : ∀ c, w1.heap.size ≤ c → d.own c = 0 := fun c hc => h1.own0 hc
    have n1' : ∀ c, inB hv c → w1.heap.size ≤ c ∧ c < w2.heap.size := n1'
    have n2' : ∀ c, inB mv c → w1.heap.size ≤ c ∧ c < w2.heap.size := n2'
    have n3' : ∀ c, inB hv2 c → w3.heap.size ≤ c ∧ c < w4.heap.size := n3'
    have n4' : ∀ c, inB mv2 c → w3.heap.size ≤ c ∧ c < w4.heap.size := n4'
    have la := bk_lt ha
    have lb := bk_lt hb
    have F1 : FreeI w0 w9.drew d hv rep.holds := ⟨s1'.fr f79 fun _ _ => id, fun c hc => by have := n1' c hc; exact ⟨z c this.1, by omega, by omega⟩⟩
    have F2 : FreeI w0 w9.drew d mv rep.missing := ⟨s2'.fr f79 fun _ _ => id, fun c hc => by have := n2' c hc; exact ⟨z c this.1, by omega, by omega⟩⟩
    have F3 : FreeI w0 w9.drew d hv2 rep.holds := ⟨s3'.fr f79 fun _ _ => id, fun c hc => by have := n3' c hc; exact ⟨z c (by omega), by omega, by omega⟩⟩
    have F4 : FreeI w0 w9.drew d mv2 rep.missing := ⟨s4'.fr f79 fun _ _ => id, fun c hc => by have := n4' c hc; exact ⟨z c (by omega), by omega, by omega⟩⟩
    have A1 : ∀ c, inB mv c → ¬ inB hv c := fun c h1 h2 => ap c h2 h1
    have A2 : ∀ c, inB hv2 c → ¬ inB hv c ∧ ¬ inB mv c := fun c h1 => ⟨fun h2 => by have := n3' c h1; have := n1' c h2; omega, fun h2 => by have := n3' c h1; have := n2' c h2; omega⟩
    have A3 : ∀ c, inB mv2 c → ¬ inB hv c ∧ ¬ inB mv c ∧ ¬ inB hv2 c := fun c h1 => ⟨fun h2 => by have := n4' c h1; have := n1' c h2; omega, fun h2 => by have := n4' c h1; have := n2' c h2; omega, fun h2 => ap2 c h2 h1⟩
    have B1 : ∀ c, c = a → ¬ inB hv c ∧ ¬ inB mv c ∧ ¬ inB hv2 c := fun c he => ⟨fun h2 => by have := n1' c h2; omega, fun h2 => by have := n2' c h2; omega, fun h2 => by have := n3' c h2; omega⟩
    have B2 : ∀ c, c = b → ¬ inB hv c ∧ ¬ inB mv c ∧ ¬ inB hv2 c := fun c he => ⟨fun h2 => by have := n1' c h2; omega, fun h2 => by have := n2' c h2; omega, fun h2 => by have := n3' c h2; omega⟩
    have r4 : (repC rep hv mv)[4]? = some hv := rfl
    have r5 : (repC rep hv mv)[5]? = some mv := rfl
    have r4' : (repC rep hv2 mv2)[4]? = some hv2 := rfl
    have r5' : (repC rep hv2 mv2)[5]? = some mv2 := rfl
    have hD9 := h9.blk
    simp [-ldA_ptr]
    have ha9' : bk w9 a = some (repC rep hv mv) := ha9
    refine ⟨hv, by simp [ha9', r4], ?_⟩
    have oa : d.own a = 0 := z a (by omega)
    have ob : d.own b = 0 := z b (by omega)
    refine (h9.keepB F1 l1 (by omega)).mono ?_
    rintro _ wA ⟨dA, hA', fA, kA⟩
    have eA := fA.size
    have aA := fA.bk_some ha9 fun h' => h'.elim (fun h => h oa) (B1 a rfl).1
    have bA := fA.bk_some hb9 fun h' => h'.elim (fun h => h ob) (B2 b rfl).1
    have oaA := kA a oa (B1 a rfl).1 (bk_lt ha9)
    have obA := kA b ob (B2 b rfl).1 (bk_lt hb9)
    have F2A := F2.after fA kA A1
    have F3A := F3.after fA kA fun c hc => (A2 c hc).1
    have F4A := F4.after fA kA fun c hc => (A3 c hc).1
    refine ⟨mv, by simp [aA, r5], ?_⟩
    have dA' : Fr (fun _ => False) wA wA.drew := (Fr.refl _ _).drew
    refine ((hA'.fr0 dA').keepB (F2A.fr0 dA') l2 (by omega)).mono ?_
    rintro _ wB ⟨dB, hB', fB, kB⟩
    have fB : Fr (fun c => dA.own c ≠ 0 ∨ inB mv c) wA wB := (dA'.mono fun _ h => h.elim).trans fB fun _ _ h => h
    have bB := fB.bk_some bA fun h' => h'.elim (fun h => h obA) (B2 b rfl).2.1
    have obB := kB b obA (B2 b rfl).2.1 (bk_lt bA)
    have F3B := F3A.after fB kB fun c hc => (A2 c hc).2
    have F4B := F4A.after fB kB fun c hc => (A3 c hc).2.1
    refine ⟨hv2, by simp [bB, r4'], ?_⟩
    have dB' : Fr (fun _ => False) wB wB.drew := (Fr.refl _ _).drew
    refine ((hB'.fr0 dB').keepB (F3B.fr0 dB') l1 (by omega)).mono ?_
    rintro _ wC ⟨dC, hC', fC, kC⟩
    have fC : Fr (fun c => dB.own c ≠ 0 ∨ inB hv2 c) wB wC := (dB'.mono fun _ h => h.elim).trans fC fun _ _ h => h
    have bC := fC.bk_some bB fun h' => h'.elim (fun h => h obB) (B2 b rfl).2.2
    have F4C := F4B.after fC kC fun c hc => (A3 c hc).2.2
    refine ⟨mv2, by simp [bC, r5'], ?_⟩
    have dC' : Fr (fun _ => False) wC wC.drew := (Fr.refl _ _).drew
    refine ((hC'.fr0 dC').keepB (F4C.fr0 dC') l2 (by omega)).mono ?_
    rintro _ wE ⟨dE, hE', _, _⟩
    exact ⟨rfl, _, dE, hE', by omega⟩
  · simp [-ldA_ptr, hc, o0, k6, k7]
    exact ⟨rfl, n1, d, h1, by omega⟩
end
end Go.Proofs.YtpiceodfdjihhaaGreatDoor

/-
  The exact laws of layer 15, part T: the play begins.
-/
namespace Go.Proofs.YtpiceodfdjihhaaGreatDoor
open Go.Lift
set_option linter.unusedSimpArgs false
def BV.none : BV := ⟨.slice .none 0 0, .slice .none 0 0, .slice .none 0 0, .slice .none 0 0, .slice .none 0 0⟩
def Zmsg : Ms := ⟨0, 0, 0, 0, 0, 0, 0, 0, 0, .string ByteArray.empty, .string ByteArray.empty⟩
theorem Zmsg_str : Zmsg.str := ⟨_, _, rfl, rfl⟩
theorem box36 (C : Clu) (nv cv fv : Value) (h1 : isCell cv = true) (h2 : isCell fv = true) : buildV #[(Value.string ByteArray.empty), (Value.int IntKind.i64 0), (Value.int IntKind.i64 0), (Value.int IntKind.i64 0), (Value.int IntKind.i64 0), (Value.int IntKind.i64 0), (Value.int IntKind.i64 0), (Value.int IntKind.i64 0), (Value.int IntKind.i64 0), (Value.int IntKind.i64 0), (Value.int IntKind.i64 0), (Value.int IntKind.i64 0), (Value.int IntKind.i64 0), (Value.int IntKind.i64 0), (Value.int IntKind.i64 0), (Value.int IntKind.i64 0), (Value.int IntKind.i64 0), (Value.int IntKind.i64 0), (Value.int IntKind.i64 0), (Value.int IntKind.i64 0), (Value.int IntKind.i64 0), (Value.int IntKind.i64 0), (Value.slice none 0 0), (Value.pointer none), (Value.pointer none), (Value.slice none 0 0), (Value.slice none 0 0), (Value.slice none 0 0), (Value.slice none 0 0), (Value.slice none 0 0), (Value.slice none 0 0), (Value.slice none 0 0), (Value.slice none 0 0), (Value.slice none 0 0), (Value.slice none 0 0), (Value.slice none 0 0)] [(23, 1, cv), (24, 1, fv), (0, 23, C.val nv)] =
    some (.agg (wcells C nv cv fv (.slice none 0 0) BV.none BV.none).toArray) := by
  unfold buildV
  rw [fillV_cell h1, if_pos (by simp), fillV_cell h2, if_pos (by simp), fillV_head (by simp [Clu.val, Clu.cells]) (by simp), setL_eq _ _ _ (by simp [Clu.val, Clu.cells])]
  simp [Clu.val, Clu.cells, wcells, BV.cells, BV.none]
/-- New, of both. -/
theorem new_two {C : Clu} (hF : Fits C) : ∃ (x : Option CS) (e : Int), (x = none ↔ e ≠ 0) ∧ (∀ y, x = some y → COk y) ∧
    (∀ (w : World) (nv : Value) (pvs : List Value), Nodes w nv C.nodes pvs → Run (F.control_New (C.val nv)) w fun r w' => Fr (fun _ => False) w w' ∧ ∃ cv, r = .tuple #[cv, .int .i64 e] ∧
      match x with | none => cv = .pointer none | some y => ∃ b v tag, cv = .pointer (some ⟨b, 0, none⟩) ∧ Ctl w' b y v tag ∧ ∀ c, tag c ≠ 0 → w.heap.size ≤ c) ∧
    (∀ (w : World) (nv : Value) (pvs : List Value), Glob w → Nodes w nv C.nodes pvs → Run (F.granaryref15_New (C.val nv)) w fun r w' => Fr (fun _ => False) w w' ∧ ∃ cv, r = .tuple #[cv, .int .i64 e] ∧
      match x with | none => cv = .pointer none | some y => ∃ b v tag, cv = .pointer (some ⟨b, 0, none⟩) ∧ RefC w' b C y v tag ∧ ∀ c, tag c ≠ 0 → w.heap.size ≤ c) := by
  by_cases hc : checkF C = 0
  · refine ⟨some (CS.new C), 0, by simp, (fun y h => by cases h; exact COk.new hc), fun w nv pvs hN => (new_run hN hF).mono ?_, fun w nv pvs hG hN => (rnew_run hG hN hF).mono ?_⟩
    · rintro r w' ⟨f, _, h2⟩
      obtain ⟨b, v, tag, rfl, k1, k2⟩ := h2 hc
      exact ⟨f, _, rfl, b, v, tag, rfl, k1, k2⟩
    · rintro r w' ⟨f, _, h2⟩
      obtain ⟨b, v, tag, rfl, k1, k2⟩ := h2 hc
      exact ⟨f, _, rfl, b, v, tag, rfl, k1, k2⟩
  · refine ⟨none, checkF C, by simpa using hc, (fun y h => by cases h), fun w nv pvs hN => (new_run hN hF).mono ?_, fun w nv pvs hG hN => (rnew_run hG hN hF).mono ?_⟩
    · rintro r w' ⟨f, h1, _⟩
      exact ⟨f, _, h1 hc, rfl⟩
    · rintro r w' ⟨f, h1, _⟩
      exact ⟨f, _, h1 hc, rfl⟩
def Begun (w w' : World) (C : Clu) (nv : Value) (r : Value) : Prop := ∃ D x d, r = .tuple #[.pointer (some ⟨D, 0, none⟩), .bool true] ∧ PW w w' D C nv x 0 0 d
set_option maxHeartbeats 1000000 in
theorem begun_run {w : World} {C : Clu} {nv : Value} {pvs : List Value} (hg : Glob w) (hN : Nodes w nv C.nodes pvs) (hF : Fits C) :
    Run (F.granarylaw15_begun (C.val nv)) w fun r w' => Begun w w' C nv r := by
  unfold F.granarylaw15_begun
  have hnv := hN.sl.isCell
  have hcn := hF.count
  simp [-ldA_ptr, Clu.val]
  refine Run_new fun b w1 hb _ f1 hble => ?_
  have hb1 : bk w1 b = some (C.cells nv) := by simpa using hb
  simp [-ldA_ptr, Clu.ldA hb1]
  refine (hand_run (hN.fr0 f1) hF).mono ?_
  rintro _ w2 ⟨f2, H, nv1, nv2, hv, pv, ps, pvs1, pvs2, rfl, hH⟩
  have hHc := hc_gets C nv1 nv2 hv pv
  have hldH : Go.Lift.ldA 23 (.pointer (some ⟨H, 0, none⟩)) w2 = some (C.val nv1) := by
    rw [ldA_bk hH.blk (by rw [hHc.1]; omega)]; rfl
  obtain ⟨x, e, hx, hok, hP, hQ⟩ := new_two hF
  simp [-ldA_ptr, hldH]
  refine (hP w2 nv1 pvs1 hH.n1).mono ?_
  rintro _ w3 ⟨f3, cv, rfl, hm3⟩
  simp [-ldA_ptr, extV]
  have hH3 := hH.fr0 f3
  refine (left_run hH3 hF).mono ?_
  rintro _ w4 ⟨rfl, f4⟩
  have hH4 := hH3.fr0 f4
  simp [-ldA_ptr]
  refine (spoil_run hH4 hF).mono ?_
  rintro _ w5 f5
  have s1 := f1.size
  have s2 := f2.size
  have s3 := f3.size
  have s4 := f4.size
  have s5 := f5.size
  have f5' : Fr (fun z => w1.heap.size ≤ z ∧ z < w2.heap.size) w4 w5 := f5.mono fun z hz => ⟨hz.1, hH.lt z hz.2.2⟩
  have f04 : Fr (fun _ => False) w w4 := ((f1.trans f2 fun _ _ => id).trans f3 fun _ _ => id).trans f4 fun _ _ => id
  have f05 : Fr (fun _ => False) w w5 := f04.trans f5' fun z hz h' => by omega
  have lb := bk_lt hb1
  have hb5 : bk w5 b = some (C.cells nv) := f5'.bk_some (f4.bk_some (f3.bk_some (f2.bk_some hb1 id) id) id) fun hz => by omega
  simp [-ldA_ptr, Clu.ldA hb5]
  refine (hQ w5 nv pvs (hg.fr0 f05) (hN.fr0 f05)).mono ?_
  rintro _ w6 ⟨f6, fv, rfl, hm6⟩
  have hb6 := f6.bk_some hb5 id
  have s6 := f6.size
  have f06 : Fr (fun _ => False) w w6 := f05.trans f6 fun _ _ => id
  have hcc : isCell cv = true ∧ isCell fv = true ∧ eqPrim EqK.ptr cv (.pointer none) = some (decide (e ≠ 0)) := by
    cases x with
    | none => exact ⟨by rw [hm3]; rfl, by rw [hm6]; rfl, by rw [hm3]; simp [hx.1 rfl]⟩
    | some y =>
      obtain ⟨b1, v, tag, rfl, _⟩ := hm3
      obtain ⟨b2, v', tag', rfl, _⟩ := hm6
      refine ⟨rfl, rfl, ?_⟩
      have : ¬ e ≠ 0 := fun h => by have := hx.2 h; cases this
      simp at this
      simp [this]
  simp [-ldA_ptr, F.granarylaw15_num, hcc.2.2, Clu.ldA hb6]
  simp [-ldA_ptr, box36 C nv cv fv hcc.1 hcc.2.1]
  refine Run_new fun D w7 hD hDw f7 hle7 => ?_
  have hD : bk w7 D = some (wcells C nv cv fv (.slice none 0 0) BV.none BV.none) := hD
  have hb7 := f7.bk_some hb6 id
  have lD := bk_lt hD
  have s7 := f7.size
  have hbD : b ≠ D := by omega
  have hbv : buildV #[Value.int IntKind.i64 0, Value.int IntKind.i64 0, Value.int IntKind.i64 0, Value.int IntKind.i64 0, Value.int IntKind.i64 0, Value.int IntKind.i64 0, Value.int IntKind.i64 0, Value.int IntKind.i64 0, Value.int IntKind.i64 0, Value.string ByteArray.empty, Value.string ByteArray.empty] [] = some Zmsg.val := rfl
  have k22 : (C.cells nv)[22]? = some nv := rfl
  have hNl := hN.lenL
  refine Run_for C.nodes.length (fun i l w8 => l = [.int .i64 i] ∧ ∃ lv, bk w8 D = some (wcells C nv cv fv lv BV.none BV.none) ∧ wr w8 D = true ∧ Fr (fun c => c = D) w7 w8 ∧ SlW 11 w8 lv (elM (List.replicate i Zmsg)) ∧ New w7 w8 lv)
    ⟨rfl, _, hD, hDw, Fr.refl _ _, SlW.nil _ _, fun _ h => h.elim⟩ ?_ ?_
  · rintro i _ w8 hi ⟨rfl, lv, hD8, hw8, f8, sl8, nl8⟩
    have hb8 := f8.bk_some hb7 hbD
    have hwc := wcells_gets C nv cv fv lv BV.none BV.none
    have wi := wrap_succ (n := i) (by omega)
    simp [-ldA_ptr, hb8, k22, hNl, hi, hD8, hwc.2.2.2.1, hbv]
    refine Run_app1 (k := 11) (y := Zmsg.val) rfl sl8 (by decide) rfl (by decide) rfl (by simp; omega) fun r w9 s9 f9 hin9 _ _ => ?_
    have e9 := f9.size
    have e8 := f8.size
    have nD : ¬ inB lv D := fun hc => by have := (nl8 _ hc).1; omega
    have hD9 := f9.bk_some hD8 nD
    have hw9 : wr w9 D = true := by rw [f9.wr (bk_lt hD8) nD]; exact hw8
    have rc := s9.1.isCell
    have n9 : ∀ c, inB r c → w7.heap.size ≤ c ∧ c < w9.heap.size := fun c hc => by
      rcases hin9 c hc with h | h
      · have := nl8 c h; omega
      · omega
    have l26 : 26 ≤ (wcells C nv cv fv lv BV.none BV.none).length := by rw [hwc.1]; omega
    have g9 : Fr (fun c => c = D) w9 (sto w9 D 25 [r]) := (Fr.refl (fun c => c = D) w9).sto (.inl rfl) _ _
    have eg := g9.size
    simp [-ldA_ptr, cells_isCell rc, rc, hD9, hw9, l26, hwc.2.2.2.2.2.2.1, wi]
    refine ⟨r, rfl, (f8.trans f9 fun c hc h => by have := (nl8 c h).1; omega).trans g9 fun _ _ h => h, ?_, fun c hc => ⟨(n9 c hc).1, by have := n9 c hc; omega⟩⟩
    have := s9.fr g9 fun c hc h => by have := n9 c hc; omega
    rw [List.replicate_succ', show Zmsg.val.cells.toList = Zmsg.cells from rfl] at *
    simpa [elM] using this
  · rintro _ w8 ⟨rfl, lv, hD8, hw8, f8, sl8, nl8⟩
    have hb8 := f8.bk_some hb7 hbD
    simp [-ldA_ptr, hb8, k22, hNl]
    have e8 := f8.size
    have f07 : Fr (fun _ => False) w w7 := f06.trans f7 fun _ _ => id
    have f08 : Fr (fun _ => False) w w8 := f07.trans f8 fun c hc he => by omega
    classical
    cases x with
    | none =>
      refine ⟨D, none, ⟨cv, fv, lv, List.replicate C.nodes.length Zmsg, BV.none, BV.none, ⟨[], [], [], []⟩, ⟨[], [], [], []⟩, fun _ => 0, fun _ => 0, fun c => if c = D then 6 else if inB lv c then 3 else 0⟩, rfl,
        ⟨f08, hD8, hw8, by simp, ⟨hm3, hm6⟩, ⟨sl8, by simp, fun m hm => by rw [List.eq_of_mem_replicate hm]; exact Zmsg_str, fun c hc => ?_⟩, ⟨BookM.new _ _ _ _, fun c h => absurd rfl h, rfl, by simp⟩, ⟨BookM.new _ _ _ _, fun c h => absurd rfl h, rfl, by simp⟩, fun c hc => ?_⟩⟩
      · have : c ≠ D := by have := nl8 c hc; omega
        simp [this, hc]
      · simp only at hc
        split at hc
        · omega
        · split at hc
          · rename_i h; have := nl8 c h; omega
          · exact absurd rfl hc
    | some y =>
      obtain ⟨b1, v, tag, rfl, hC, t1⟩ := hm3
      obtain ⟨b2, v', tagR, rfl, hR, t2⟩ := hm6
      have q1 : ∀ c, tag c ≠ 0 → w2.heap.size ≤ c ∧ c < w3.heap.size := fun c hc => ⟨t1 c hc, hC.c0.bound c hc⟩
      have q2 : ∀ c, tagR c ≠ 0 → w5.heap.size ≤ c ∧ c < w6.heap.size := fun c hc => ⟨t2 c hc, (hR.bound c hc).2⟩
      have hC8 : Ctl w8 b1 y v tag := ((((hC.fr0 f4).fr f5' fun z hz => Classical.byContradiction fun hn => by have := q1 z hn; omega).fr0 f6).fr0 f7).fr f8 fun z hz => Classical.byContradiction fun hn => by have := q1 z hn; omega
      have hR8 : RefC w8 b2 C y v' tagR := (hR.fr0 f7).fr f8 fun z hz => Classical.byContradiction fun hn => by have := q2 z hn; omega
      refine ⟨D, some y, ⟨_, _, lv, List.replicate C.nodes.length Zmsg, BV.none, BV.none, ⟨[], [], [], []⟩, ⟨[], [], [], []⟩, fun _ => 0, fun _ => 0, fun c => if c = D then 6 else if inB lv c then 3 else if tag c ≠ 0 then 1 else if tagR c ≠ 0 then 2 else 0⟩, rfl,
        ⟨f08, hD8, hw8, by simp, ⟨b1, v, tag, b2, v', tagR, rfl, rfl, hC8, hR8, hok y rfl, fun c hc => ?_, fun c hc => ?_⟩, ⟨sl8, by simp, fun m hm => by rw [List.eq_of_mem_replicate hm]; exact Zmsg_str, fun c hc => ?_⟩, ⟨BookM.new _ _ _ _, fun c h => absurd rfl h, rfl, by simp⟩, ⟨BookM.new _ _ _ _, fun c h => absurd rfl h, rfl, by simp⟩, fun c hc => ?_⟩⟩
      · have h1 : c ≠ D := by have := q1 c hc; omega
        have h2 : ¬ inB lv c := fun h => by have := nl8 c h; have := q1 c hc; omega
        simp [h1, h2, hc]
      · have h1 : c ≠ D := by have := q2 c hc; omega
        have h2 : ¬ inB lv c := fun h => by have := nl8 c h; have := q2 c hc; omega
        have h3 : tag c = 0 := Classical.byContradiction fun hn => by have := q1 c hn; have := q2 c hc; omega
        simp [h1, h2, h3, hc]
      · have : c ≠ D := by have := nl8 c hc; omega
        simp [this, hc]
      · simp only at hc
        split at hc
        · omega
        · split at hc
          · rename_i h; have := nl8 c h; omega
          · split at hc
            · rename_i h; have := q1 c h; omega
            · split at hc
              · rename_i h; have := q2 c h; omega
              · exact absurd rfl hc
end Go.Proofs.YtpiceodfdjihhaaGreatDoor

/-
  The exact laws of layer 15, part U: the whole play.
-/
namespace Go.Proofs.YtpiceodfdjihhaaGreatDoor
open Go.Lift
set_option linter.unusedSimpArgs false
def elSt (l : List St) : List (List Value) := l.map St.cells
section
variable {w0 w w' : World} {D : Nat} {C : Clu} {nv : Value} {x : Option CS} {n1 n2 : Nat} {d : PWd}
theorem PW.ptrs (_ : PW w0 w D C nv x n1 n2 d) : 26 + 5 ≤ (wcells C nv d.cv d.fv d.lv d.b1 d.b2).length ∧ 31 + 5 ≤ (wcells C nv d.cv d.fv d.lv d.b1 d.b2).length := by
  rw [(wcells_gets C nv d.cv d.fv d.lv d.b1 d.b2).1]; omega
theorem PW.bookR (h : PW w0 w D C nv x n1 n2 d) (hn : n1 ≤ 1099511627776) : Run (F.granarylaw15_Book_Right (.pointer (some ⟨D, 26, none⟩))) w fun r w' => r = .bool true ∧ Fr (fun _ => False) w w' := by
  have hc := wcells_gets C nv d.cv d.fv d.lv d.b1 d.b2
  have hp : putB (wcells C nv d.cv d.fv d.lv d.b1 d.b2) 26 d.b1 = wcells C nv d.cv d.fv d.lv d.b1 d.b2 := hc.2.2.2.2.2.2.2.1 d.b1
  have hb := h.book
  exact book_right_run (Ls := d.s1.Ls) (Gs := d.s1.Gs) (Os := d.s1.Os) (Ws := d.s1.Ws) (by rw [hp]; exact h.blk) h.ptrs.1 hb.1 (by omega)
theorem PW.lettersR (h : PW w0 w D C nv x n1 n2 d) (hn : n2 ≤ 1099511627776) : Run (F.granarylaw15_Letters_Right (.pointer (some ⟨D, 31, none⟩))) w fun r w' => r = .bool true ∧ Fr (fun _ => False) w w' := by
  have hc := wcells_gets C nv d.cv d.fv d.lv d.b1 d.b2
  have hp : putB (wcells C nv d.cv d.fv d.lv d.b1 d.b2) 31 d.b2 = wcells C nv d.cv d.fv d.lv d.b1 d.b2 := hc.2.2.2.2.2.2.2.2 d.b2
  have hb := h.letters
  exact letters_right_run (Ls := d.s2.Ls) (Gs := d.s2.Gs) (Os := d.s2.Os) (Ws := d.s2.Ws) (by rw [hp]; exact h.blk) h.ptrs.2 hb.1 (by omega)
theorem PW.bookL (h : PW w0 w D C nv x n1 n2 d) (hn : n1 ≤ 1099511627776) : Run (F.granarylaw15_Book_Last (.pointer (some ⟨D, 26, none⟩))) w fun r w' => r = .bool true ∧ (∃ b, bk w' D = some (wcells C nv d.cv d.fv d.lv b d.b2)) ∧ Go.Lift.wr w' D = true ∧ Fr (fun c => c = D ∨ d.bt1 c ≠ 0) w w' := by
  have hc := wcells_gets C nv d.cv d.fv d.lv d.b1 d.b2
  have hp : putB (wcells C nv d.cv d.fv d.lv d.b1 d.b2) 26 d.b1 = wcells C nv d.cv d.fv d.lv d.b1 d.b2 := hc.2.2.2.2.2.2.2.1 d.b1
  have hb := h.book
  have hb0 : d.bt1 D = 0 := Classical.byContradiction fun hn => by have := hb.2.1 D hn; rw [h.oD] at this; cases this
  refine (book_last_run (Ls := d.s1.Ls) (Gs := d.s1.Gs) (Os := d.s1.Os) (Ws := d.s1.Ws) (by rw [hp]; exact h.blk) h.wr h.ptrs.1 hb.1 hb0 (by omega)).mono ?_
  rintro r w' ⟨rfl, ⟨b', h1⟩, h2, h3⟩
  rw [hc.2.2.2.2.2.2.2.1] at h1
  exact ⟨rfl, ⟨b', h1⟩, h2, h3⟩
def Ply (w1 w : World) (D : Nat) (C : Clu) (nv : Value) (i : Nat) : Prop := ∃ x n1 n2 d, PW w1 w D C nv x n1 n2 d ∧ n1 ≤ 4 * i ∧ n2 ≤ i
theorem play_run {w : World} {C : Clu} {nv sv : Value} {pvs : List Value} {ops : List St} (hg : Glob w) (hN : Nodes w nv C.nodes pvs) (hF : Fits C) (hs : Sl 14 w sv (elSt ops)) (hm : ∀ o ∈ ops, o.m.str) (hl : ops.length ≤ 1048576) (sends tells : Bool) :
    Run (F.granarylaw15_play (C.val nv) sv (.bool sends) (.bool tells)) w fun r w' => r = .bool true ∧ Fr (fun _ => False) w w' := by
  unfold F.granarylaw15_play
  have hnv := hN.sl.isCell
  simp [-ldA_ptr, Clu.val]
  refine Run_new fun b w1 hb _ f1 hble => ?_
  have hb1 : bk w1 b = some (C.cells nv) := by simpa using hb
  simp [-ldA_ptr, Clu.ldA hb1]
  refine (begun_run (hg.fr0 f1) (hN.fr0 f1) hF).mono ?_
  rintro _ w2 ⟨D, x, d, rfl, h2⟩
  have hsl := hs.lenL
  simp only [elSt, List.length_map] at hsl
  have hN1 := hN.fr0 f1
  have hg1 := hg.fr0 f1
  have hs1 := hs.fr0 f1
  simp [-ldA_ptr, extV]
  refine Run_for ops.length (fun i l w3 => l = [.int .i64 i] ∧ Ply w1 w3 D C nv i) ⟨rfl, x, 0, 0, d, h2, by omega, by omega⟩ ?_ ?_
  · rintro i _ w3 hi ⟨rfl, x, n1, n2, d, h3, hn1, hn2⟩
    have wi := wrap_succ (n := i) (by omega)
    have ei : (elSt ops)[i]? = some ops[i].cells := by simp [elSt, List.getElem?_eq_getElem hi]
    have hstr := hm ops[i] (List.getElem_mem hi)
    generalize ops[i] = o at ei hstr
    obtain ⟨p, p1, p2⟩ := (hs1.fr0 h3.f0).rdA (by decide) ei .i64
    have p2 : Go.Lift.ldA 14 p w3 = some o.val := p2
    simp [-ldA_ptr, hsl, hi, p1, p2]
    refine (calls_run hg1 hN1 hF h3 o hstr sends (by omega)).mono ?_
    rintro _ w4 ⟨rfl, x', m, d', h4, hm4⟩
    have fin : ∀ (w5 : World) (x5 : Option CS) (a c : Nat) (d5 : PWd), PW w1 w5 D C nv x5 a c d5 → a ≤ 4 * i + 4 → c ≤ i + 1 →
        Run (F.granarylaw15_Book_Right (.pointer (some ⟨D, 26, none⟩))) w5 fun r5 w6 => r5 = .bool true ∧ Run (F.granarylaw15_Letters_Right (.pointer (some ⟨D, 31, none⟩))) w6 fun r6 w7 => r6 = .bool true ∧ Ply w1 w7 D C nv (i + 1) := by
      intro w5 x5 a c d5 h5 ha hc
      refine (h5.bookR (by omega)).mono ?_
      rintro _ w6 ⟨rfl, f6⟩
      refine ⟨rfl, ((h5.fr0 f6).lettersR (by omega)).mono ?_⟩
      rintro _ w7 ⟨rfl, f7⟩
      exact ⟨rfl, x5, a, c, d5, (h5.fr0 f6).fr0 f7, by omega, by omega⟩
    cases tells with
    | false =>
      simp [-ldA_ptr]
      refine (fin w4 x' n1 m d' h4 (by omega) (by omega)).mono ?_
      rintro _ w6 ⟨rfl, hr⟩
      simp [-ldA_ptr]
      refine hr.mono ?_
      rintro _ w7 ⟨rfl, h7⟩
      simp [wi]
      exact h7
    | true =>
      obtain ⟨p', p1', p2'⟩ := (hs1.fr0 h4.f0).rdA (by decide) ei .i64
      rw [p1] at p1'
      cases p1'
      have p2' : Go.Lift.ldA 14 p w4 = some o.val := p2'
      simp [-ldA_ptr, p2']
      refine (asks_run h4 o (by omega)).mono ?_
      rintro _ w5 ⟨rfl, m5, d5, h5, hm5⟩
      simp [-ldA_ptr]
      refine (fin w5 x' m5 m d5 h5 (by omega) (by omega)).mono ?_
      rintro _ w6 ⟨rfl, hr⟩
      simp [-ldA_ptr]
      refine hr.mono ?_
      rintro _ w7 ⟨rfl, h7⟩
      simp [wi]
      exact h7
  · rintro _ w3 ⟨rfl, x, n1, n2, d, h3, hn1, hn2⟩
    simp [-ldA_ptr, hsl]
    refine (h3.bookL (by omega)).mono ?_
    rintro _ w4 ⟨rfl, ⟨b4, h4⟩, hw4, f4⟩
    simp [-ldA_ptr]
    have hc := wcells_gets C nv d.cv d.fv d.lv b4 d.b2
    have hp : putB (wcells C nv d.cv d.fv d.lv b4 d.b2) 31 d.b2 = wcells C nv d.cv d.fv d.lv b4 d.b2 := hc.2.2.2.2.2.2.2.2 d.b2
    have hlt := h3.letters
    have hb0 : d.bt2 D = 0 := Classical.byContradiction fun hn => by have := hlt.2.1 D hn; rw [h3.oD] at this; cases this
    have hF4 : ∀ c, (c = D ∨ d.bt1 c ≠ 0) → d.own c = 6 ∨ d.own c = 4 := fun c hc => hc.imp (fun h => by rw [h]; exact h3.oD) (h3.book.2.1 c)
    refine (letters_last_run (Ls := d.s2.Ls) (Gs := d.s2.Gs) (Os := d.s2.Os) (Ws := d.s2.Ws) (by rw [hp]; exact h4) hw4 (by rw [hc.1]; omega) (hlt.1.fr f4 fun c hc => Classical.byContradiction fun hn => by have := hF4 c hc; have := hlt.2.1 c hn; omega) hb0 (by omega)).mono ?_
    rintro _ w5 ⟨rfl, _, _, f5⟩
    have f14 : Fr (fun _ => False) w1 w4 := h3.f0.trans f4 fun c hc h' => by have := h3.bound c (by have := hF4 c h'; omega); omega
    have f15 : Fr (fun _ => False) w1 w5 := f14.trans f5 fun c hc h' => by
      have : d.own c ≠ 0 := by
        rcases h' with h' | h'
        · rw [h', h3.oD]; decide
        · rw [hlt.2.1 c h']; decide
      have := h3.bound c this; omega
    simp
    exact f1.trans f15 fun _ _ => id
end
end Go.Proofs.YtpiceodfdjihhaaGreatDoor

/-
  The exact laws of layer 15, part V: the laid tables; the laws.
-/
namespace Go.Proofs.YtpiceodfdjihhaaGreatDoor
open Go.Lift
set_option linter.unusedSimpArgs false
theorem gInt : Tryz.prog.underlying 3 = some (.int .i64) := by kernel_rfl
theorem gIntC : Tryz.prog.cellsOf 3 = 1 := by kernel_rfl
noncomputable def gTy (g : Nat) : TypeId := ((Tryz.prog.globals[g]?).map (·.type)).getD 0
theorem bk_of_var {W : World} {name : String} {k : IntKind} {zs : List Int} {g : Nat} (hg : Tryz.prog.globalNamed name = some g) (h : Lib.TabIs Tryz.prog W name k zs) : bk W g = some (zs.map fun z => Value.int k z) := by
  unfold Lib.TabIs World.var? at h
  rw [hg] at h
  simp only [Option.bind_some] at h
  unfold bk
  cases hh : W.heap[g]? with
  | none => rw [hh] at h; cases h
  | some x =>
    rw [hh] at h
    cases x with
    | cells c t m =>
      simp only [Option.some.injEq] at h
      subst h
      simp
    | _ => cases h
/-- One variable of the list, and the rest. -/
theorem tab_step {W : World} {name : String} {zs : List Int} {rest : List (String × DataW Unit)} {g : Nat} {t e : TypeId} {n : Nat} {ps : List MemPlace}
    (hg : Tryz.prog.globalNamed name = some g) (hty : (Tryz.prog.globals[g]?).map (·.type) = some t) (ht : Tryz.prog.underlying t = some (.array n e)) (he : Tryz.prog.underlying e = some (.int .i64)) (hce : Tryz.prog.cellsOf e = 1) (hct : Tryz.prog.cellsOf t = n)
    (h : DataW.LaidVars Tryz.prog W ((name, Lib.tabData .i64 zs) :: rest) ps) : bk W g = some (zs.map fun z => Value.int .i64 z) ∧ ∃ q, DataW.LaidVars Tryz.prog W rest q := by
  obtain ⟨g', t', cs, fuel, p, q, hg', ht', hvar, hd, hr, _⟩ := h
  obtain rfl := Option.some.inj (hg.symm.trans hg')
  obtain rfl := Option.some.inj (hty.symm.trans ht')
  refine ⟨bk_of_var hg ?_, q, hr⟩
  unfold Lib.TabIs
  rw [hvar, ← Lib.cells_of_tab ht he hce hct hd]
theorem g0n : Tryz.prog.globalNamed "granary/granaryref15.answered" = some 0 := by kernel_rfl
theorem g1n : Tryz.prog.globalNamed "granary/granaryref6.greatest" = some 1 := by kernel_rfl
theorem g2n : Tryz.prog.globalNamed "granary/granaryref15.sent" = some 2 := by kernel_rfl
theorem g3n : Tryz.prog.globalNamed "granary/granaryref15.seqs" = some 3 := by kernel_rfl
theorem g0t : (Tryz.prog.globals[0]?).map (·.type) = some (gTy 0) := by kernel_rfl
theorem g1t : (Tryz.prog.globals[1]?).map (·.type) = some (gTy 1) := by kernel_rfl
theorem g2t : (Tryz.prog.globals[2]?).map (·.type) = some (gTy 2) := by kernel_rfl
theorem g3t : (Tryz.prog.globals[3]?).map (·.type) = some (gTy 3) := by kernel_rfl
theorem g0u : Tryz.prog.underlying (gTy 0) = some (.array 5 3) := by kernel_rfl
theorem g1u : Tryz.prog.underlying (gTy 1) = some (.array 21 3) := by kernel_rfl
theorem g2u : Tryz.prog.underlying (gTy 2) = some (.array 5 3) := by kernel_rfl
theorem g3u : Tryz.prog.underlying (gTy 3) = some (.array 5 3) := by kernel_rfl
theorem g0c : Tryz.prog.cellsOf (gTy 0) = 5 := by kernel_rfl
theorem g1c : Tryz.prog.cellsOf (gTy 1) = 21 := by kernel_rfl
theorem g2c : Tryz.prog.cellsOf (gTy 2) = 5 := by kernel_rfl
theorem g3c : Tryz.prog.cellsOf (gTy 3) = 5 := by kernel_rfl
theorem glob_of {W : World} (h : laidMetH Tryz.prog Rows.controlSendsUptoRow.laid W) : Glob W := by
  have h' : laidMet Tryz.prog Rows.controlSendsUptoRow.laid W := h
  obtain ⟨ps, hv, _⟩ := h'
  obtain ⟨b1, q1, v1⟩ := tab_step (zs := [16, 16, 16, 8, 4096, 65536, 1024, 65536, 64, 1024, 1024, 1073741824, 1073741824, 1073741824, 1024, 64, 65536, 1024, 64, 1024, 7]) g1n g1t g1u gInt gIntC g1c hv
  obtain ⟨b2, q2, v2⟩ := tab_step (zs := [0, 3, 5, 7, 9]) g2n g2t g2u gInt gIntC g2c v1
  obtain ⟨b0, q0, v0⟩ := tab_step (zs := [0, 4, 6, 8, 10]) g0n g0t g0u gInt gIntC g0c v2
  obtain ⟨b3, q3, v3⟩ := tab_step (zs := [0, 0, 1, 2, 0]) g3n g3t g3u gInt gIntC g3c v0
  exact ⟨b0, b1, b2, b3⟩
/-- Elements with their weights. -/
theorem els_mapn {T : Type} {f : T → List Value} {g : T → Nat} : ∀ {els : List (List Value)} {ns : List Nat}, ns.length = els.length → (∀ (i : Nat) (c : List Value) (k : Nat), els[i]? = some c → ns[i]? = some k → ∃ a : T, c = f a ∧ g a ≤ k) → ∃ l : List T, els = l.map f ∧ (l.map g).sum ≤ ns.sum
  | [], _, _, _ => ⟨[], rfl, by simp⟩
  | c :: els, [], h, _ => by simp at h
  | c :: els, k :: ns, h, hf => by
    obtain ⟨a, ha, hk⟩ := hf 0 c k rfl rfl
    obtain ⟨l, hl, hs⟩ := els_mapn (els := els) (ns := ns) (f := f) (g := g) (by simpa using h) fun i c k h1 h2 => hf (i + 1) c k (by simpa using h1) (by simpa using h2)
    exact ⟨a :: l, by rw [ha, hl]; rfl, by simp; omega⟩
theorem rd3' {w : World} {cs : Array Value} {n : Nat} (h : (Shs.int .i64 (.int .i64 (.int .i64 .nil))).Rd w cs.toList n) : ∃ a b c : Int, cs = #[.int .i64 a, .int .i64 b, .int .i64 c] := by
  obtain ⟨a, _, _, h1, _, b, _, _, h2, _, c, _, _, h3, _, h4⟩ := h
  subst h4; subst h3; subst h2
  exact ⟨a, b, c, by cases cs; simp at h1; rw [h1]⟩
/-- A script read. -/
theorem rd_steps {w : World} {v : Value} {n : Nat} (h : (Shs.slice (.int .i64 (.int .i64 (.int .i64 (.int .i64 (.int .i64 (.int .i64 (.int .i64 (.int .i64 (.int .i64 (.int .i64 (.int .i64 (.int .i64 (.str (.str .nil)))))))))))))) .nil).Rd w [v] n) :
    ∃ ops : List St, Sl 14 w v (elSt ops) ∧ (∀ o ∈ ops, o.m.str) ∧ ops.length ≤ n := by
  obtain ⟨l, hs, hl⟩ := h.slice1 (f := fun o : { o : St // o.m.str } => o.1.cells) fun c k hc => by
    obtain ⟨b0, _, _, rfl, _, b1, _, _, rfl, _, b2, _, _, rfl, _, a0, _, _, rfl, _, a1, _, _, rfl, _, a2, _, _, rfl, _, a3, _, _, rfl, _, a4, _, _, rfl, _, a5, _, _, rfl, _, a6, _, _, rfl, _, a7, _, _, rfl, _, a8, _, _, rfl, _, s, _, _, rfl, _, s', _, _, rfl, _, rfl⟩ := hc
    exact ⟨⟨⟨b0, b1, b2, ⟨a0, a1, a2, a3, a4, a5, a6, a7, a8, .string s, .string s'⟩⟩, s, s', rfl, rfl⟩, rfl⟩
  refine ⟨l.map (·.1), ?_, fun o ho => ?_, by simpa using hl⟩
  · have e : elSt (l.map (·.1)) = l.map fun o => o.1.cells := by simp [elSt, Function.comp_def]
    rw [e]; exact hs
  · obtain ⟨⟨x, hx⟩, _, rfl⟩ := List.mem_map.1 ho
    exact hx
/-- A definition read. -/
theorem rd_cluster {w : World} {cs : Array Value} {n : Nat} (h : (Shs.str (.int .i64 (.int .i64 (.int .i64 (.int .i64 (.int .i64 (.int .i64 (.int .i64 (.int .i64 (.int .i64 (.int .i64 (.int .i64 (.int .i64 (.int .i64 (.int .i64 (.int .i64 (.int .i64 (.int .i64 (.int .i64 (.int .i64 (.int .i64 (.int .i64 (.slice (.int .i64 (.slice (.int .i64 .nil) .nil)) .nil))))))))))))))))))))))).Rd w cs.toList n) :
    ∃ (C : Clu) (nv : Value) (pvs : List Value), cs = (C.cells nv).toArray ∧ Nodes w nv C.nodes pvs ∧ C.nodes.length ≤ n ∧ (C.nodes.map (·.2.length)).sum ≤ n := by
  obtain ⟨s, _, _, h0, _, h⟩ := h
  obtain ⟨a1, _, _, rfl, _, h⟩ := h
  obtain ⟨a2, _, _, rfl, _, h⟩ := h
  obtain ⟨a3, _, _, rfl, _, h⟩ := h
  obtain ⟨a4, _, _, rfl, _, h⟩ := h
  obtain ⟨a5, _, _, rfl, _, h⟩ := h
  obtain ⟨a6, _, _, rfl, _, h⟩ := h
  obtain ⟨a7, _, _, rfl, _, h⟩ := h
  obtain ⟨a8, _, _, rfl, _, h⟩ := h
  obtain ⟨a9, _, _, rfl, _, h⟩ := h
  obtain ⟨a10, _, _, rfl, _, h⟩ := h
  obtain ⟨a11, _, _, rfl, _, h⟩ := h
  obtain ⟨a12, _, _, rfl, _, h⟩ := h
  obtain ⟨a13, _, _, rfl, _, h⟩ := h
  obtain ⟨a14, _, _, rfl, _, h⟩ := h
  obtain ⟨a15, _, _, rfl, _, h⟩ := h
  obtain ⟨a16, _, _, rfl, _, h⟩ := h
  obtain ⟨a17, _, _, rfl, _, h⟩ := h
  obtain ⟨a18, _, _, rfl, _, h⟩ := h
  obtain ⟨a19, _, _, rfl, _, h⟩ := h
  obtain ⟨a20, _, _, rfl, _, h⟩ := h
  obtain ⟨a21, _, _, rfl, _, h⟩ := h
  obtain ⟨nv, els, _, ns, m, rfl, hs, hl, he, hb, rfl⟩ := h
  obtain ⟨l, rfl, hsum⟩ := els_mapn (T := { t : Int × List Int × Value // Sl 1 w t.2.2 (elI t.2.1) }) (f := fun t => [.int .i64 t.1.1, t.1.2.2]) (g := fun t => t.1.2.1.length + 1) hl fun i c k h1 h2 => by
    obtain ⟨_, hr⟩ := he i c k h1 h2
    obtain ⟨z, _, _, rfl, hz, pv, els', _, ns', m', rfl, hs', hl', he', hb', rfl⟩ := hr
    obtain ⟨l', rfl, hsum'⟩ := els_mapn (T := Int) (f := fun n => [.int .i64 n]) (g := fun _ => 1) hl' fun i c k h1 h2 => by
      obtain ⟨hk, a, _, _, rfl, _, rfl⟩ := he' i c k h1 h2
      exact ⟨a, rfl, hk⟩
    refine ⟨⟨(z, l', pv), hs'⟩, rfl, ?_⟩
    have h1' : ∀ l : List Int, (l.map fun _ => (1 : Nat)).sum = l.length := fun l => by
      induction l with
      | nil => rfl
      | cons a l ih => rw [List.map_cons, List.sum_cons, ih, List.length_cons]; omega
    have h2' := h1' l'
    show l'.length + 1 ≤ k
    omega
  have e1 : (l.map fun t => t.1.2.1.length + 1).sum = (l.map fun t => t.1.2.1.length).sum + l.length := by
    clear hs hl he hb hsum
    induction l with
    | nil => rfl
    | cons a l ih => simp only [List.map_cons, List.sum_cons, List.length_cons, ih]; omega
  refine ⟨⟨s, a1, a2, a3, a4, a5, a6, a7, a8, a9, a10, a11, a12, a13, a14, a15, a16, a17, a18, a19, a20, a21, l.map fun t => (t.1.1, t.1.2.1)⟩, nv, l.map fun t => t.1.2.2, ?_, ⟨by simp, ?_, fun i q p h1 h2 => ?_⟩, ?_, ?_⟩
  · cases cs
    simp at h0
    rw [h0]
    rfl
  · have e2 : elN (l.map fun t => (t.1.1, t.1.2.1)) (l.map fun t => t.1.2.2) = l.map fun t => [Value.int .i64 t.1.1, t.1.2.2] := by
      unfold elN
      clear hs hl he hb hsum e1
      induction l with
      | nil => rfl
      | cons a l ih => simp only [List.map_cons, List.zipWith_cons_cons, ih]
    rw [e2]; exact hs
  · simp only [List.getElem?_map, Option.map_eq_some_iff] at h1 h2
    obtain ⟨t, ht, rfl⟩ := h1
    obtain ⟨t', ht', rfl⟩ := h2
    rw [ht] at ht'
    cases ht'
    exact t.2
  · simp only [List.length_map]
    omega
  · have e3 : ((l.map fun t => (t.1.1, t.1.2.1)).map (·.2.length)).sum = (l.map fun t => t.1.2.1.length).sum := by simp [Function.comp_def]
    rw [e3]
    omega

section
variable {w : World}
theorem sends_run (hg : Glob w) (nodes r l p : Int) {sv : Value} {ops : List St} (hs : Sl 14 w sv (elSt ops)) (hm : ∀ o ∈ ops, o.m.str) (hl : ops.length ≤ 1048576) (a b : Bool) :
    Run (M.bind (newM 23 (Value.cells (.agg #[.int .i64 r, .int .i64 l, .int .i64 p]))) fun x1 => M.bind (rdM (ldA 3 x1)) fun x2 => M.bind (F.granarylaw15_made (.int .i64 nodes) x2) fun x3 => M.bind (F.granarylaw15_play x3 sv (.bool a) (.bool b)) fun x4 => M.ret x4) w
      fun v w' => v = .bool true ∧ Fr (fun _ => False) w w' := by
  simp
  refine Run_new fun b0 w1 hb0 _ f1 hle1 => ?_
  have hb0' : bk w1 b0 = some [.int .i64 r, .int .i64 l, .int .i64 p] := by simpa using hb0
  simp [hb0']
  refine (made_run nodes r l p).mono ?_
  rintro _ w2 ⟨f2, nv, pvs, rfl, hN, _, _⟩
  have hn1 : 0 ≤ nodes % 16 := Int.emod_nonneg nodes (by decide)
  have hn2 : nodes % 16 < 16 := Int.emod_lt_of_pos nodes (by decide)
  have hF := made_fits (1 + nodes % 16).toNat (by omega) (1 + r % 1024) (1 + l % 64) (1 + p % 65536)
  have hNn : (madeC (1 + nodes % 16).toNat (1 + r % 1024) (1 + l % 64) (1 + p % 65536)).nodes = madeN (1 + nodes % 16).toNat := rfl
  rw [← hNn] at hN
  generalize madeC (1 + nodes % 16).toNat (1 + r % 1024) (1 + l % 64) (1 + p % 65536) = C at *
  have f02 : Fr (fun _ => False) w w2 := f1.trans f2 fun _ _ => id
  refine (play_run (hg.fr0 f02) hN hF (hs.fr0 f02) hm hl a b).mono ?_
  rintro _ w3 ⟨rfl, f3⟩
  exact ⟨rfl, f02.trans f3 fun _ _ => id⟩
end
theorem controlSends_top {W : World} (nodes : Int) {cs : Array Value} {n : Nat} (h : (Shs.int .i64 (.int .i64 (.int .i64 .nil))).Rd W cs.toList n) {v : Value} {n' n0 : Nat} (hv : (Shs.slice (.int .i64 (.int .i64 (.int .i64 (.int .i64 (.int .i64 (.int .i64 (.int .i64 (.int .i64 (.int .i64 (.int .i64 (.int .i64 (.int .i64 (.str (.str .nil)))))))))))))) .nil).Rd W [v] n') (hk : n0 + n + n' ≤ 1048576)
    (hL : laidMetH Tryz.prog Rows.controlSendsUptoRow.laid W) :
    Run (F.granarylaw15_ControlSends (.int .i64 nodes) (.agg cs) v) W fun v w' => v = .bool true ∧ Fr (fun _ => False) W w' := by
  obtain ⟨a, b, c, rfl⟩ := rd3' h
  obtain ⟨ops, hs, hm, hl⟩ := rd_steps hv
  exact sends_run (glob_of hL) nodes a b c hs hm (by omega) true false
theorem controlTells_top {W : World} (nodes : Int) {cs : Array Value} {n : Nat} (h : (Shs.int .i64 (.int .i64 (.int .i64 .nil))).Rd W cs.toList n) {v : Value} {n' n0 : Nat} (hv : (Shs.slice (.int .i64 (.int .i64 (.int .i64 (.int .i64 (.int .i64 (.int .i64 (.int .i64 (.int .i64 (.int .i64 (.int .i64 (.int .i64 (.int .i64 (.str (.str .nil)))))))))))))) .nil).Rd W [v] n') (hk : n0 + n + n' ≤ 1048576)
    (hL : laidMetH Tryz.prog Rows.controlTellsUptoRow.laid W) :
    Run (F.granarylaw15_ControlTells (.int .i64 nodes) (.agg cs) v) W fun v w' => v = .bool true ∧ Fr (fun _ => False) W w' := by
  obtain ⟨a, b, c, rfl⟩ := rd3' h
  obtain ⟨ops, hs, hm, hl⟩ := rd_steps hv
  exact sends_run (glob_of hL) nodes a b c hs hm (by omega) false true
theorem controlPlays_top {W : World} {cs : Array Value} {n : Nat} (h : (Shs.str (.int .i64 (.int .i64 (.int .i64 (.int .i64 (.int .i64 (.int .i64 (.int .i64 (.int .i64 (.int .i64 (.int .i64 (.int .i64 (.int .i64 (.int .i64 (.int .i64 (.int .i64 (.int .i64 (.int .i64 (.int .i64 (.int .i64 (.int .i64 (.int .i64 (.slice (.int .i64 (.slice (.int .i64 .nil) .nil)) .nil))))))))))))))))))))))).Rd W cs.toList n)
    {v : Value} {n' : Nat} (hv : (Shs.slice (.int .i64 (.int .i64 (.int .i64 (.int .i64 (.int .i64 (.int .i64 (.int .i64 (.int .i64 (.int .i64 (.int .i64 (.int .i64 (.int .i64 (.str (.str .nil)))))))))))))) .nil).Rd W [v] n') (hk : n + n' ≤ 1048576)
    (hL : laidMetH Tryz.prog Rows.controlPlaysUptoRow.laid W) :
    Run (F.granarylaw15_ControlPlays (.agg cs) v) W fun v w' => v = .bool true ∧ Fr (fun _ => False) W w' := by
  obtain ⟨C, nv, pvs, rfl, hN, h1, h2⟩ := rd_cluster h
  obtain ⟨ops, hs, hm, hl⟩ := rd_steps hv
  have hF : Fits C := ⟨by omega, by omega⟩
  have hg := glob_of hL
  have hnv := hN.sl.isCell
  unfold F.granarylaw15_ControlPlays
  simp [-ldA_ptr]
  refine Run_new fun b w1 hb _ f1 hble => ?_
  have hb1 : bk w1 b = some (C.cells nv) := by simpa using hb
  simp [-ldA_ptr, Clu.ldA hb1]
  refine (play_run (hg.fr0 f1) (hN.fr0 f1) hF (hs.fr0 f1) hm (by omega) true true).mono ?_
  rintro _ w3 ⟨rfl, f3⟩
  exact ⟨rfl, f1.trans f3 fun _ _ => id⟩
end Go.Proofs.YtpiceodfdjihhaaGreatDoor
