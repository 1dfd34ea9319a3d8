/-
  Layer 15 (control), part W: a play in memory; what its smaller calls come to.
-/
import Derived.Test.YtpiceodfdjihhaaCtlU
import Derived.Test.YtpiceodfdjihhaaCtlS
namespace Go.Proofs.Ytpiceodfdjihhaa
open Go.Lift
set_option linter.unusedSimpArgs false

/-- The values of a play's lists. -/
structure PV where
  nv : Value
  lv : Value
  fv : Value
  bv : Value
  av : Value
def PS.cells (b : Nat) (J : Int) (v : PV) (p : PS) : List Value := [.pointer (some ⟨b, 0, none⟩), v.nv, v.lv, .int .i64 J, .int .i64 p.kind, .int .i64 p.ver, v.fv, v.bv, .bool p.back, v.av]
def elNd (l : List Nd) : List (List Value) := l.map Nd.cells
@[simp] theorem elNd_len (l : List Nd) : (elNd l).length = l.length := by simp [elNd]
theorem elNd_get (l : List Nd) (i : Nat) : (elNd l)[i]? = (l[i]?).map Nd.cells := by simp [elNd]
theorem elNd_set (l : List Nd) (i : Nat) (n : Nd) : (elNd l).set i n.cells = elNd (l.set i n) := by simp [elNd]

structure PlM (w0 w : World) (pb b : Nat) (J : Int) (p : PS) (v : PV) (tg : Nat → Nat) : Prop where
  blk : bk w pb = some (p.cells b J v)
  wr : wr w pb = true
  tp : tg pb = 1
  nodes : SlW 8 w v.nv (elNd p.nodes)
  tn : Tg tg 2 v.nv
  letters : SlW 11 w v.lv (elM p.letters)
  tl : Tg tg 3 v.lv
  fetched : SlW 1 w v.fv (elB p.fetched)
  tf : Tg tg 4 v.fv
  backed : SlW 1 w v.bv (elB p.backed)
  tb : Tg tg 5 v.bv
  at_ : SlW 1 w v.av (elI p.at_)
  ta : Tg tg 6 v.av
  bound : ∀ c, tg c ≠ 0 → w0.heap.size ≤ c ∧ c < w.heap.size
/-- What is none of the controller's. -/
def KT (w0 : World) (tg : Nat → Nat) : Nat → Prop := fun c => tg c ≠ 0 ∨ c < w0.heap.size
/-- The blocks of x are marked k; what was so no more. -/
noncomputable def reTag (tg : Nat → Nat) (k : Nat) (x : Value) : Nat → Nat := fun c => @ite _ (inB x c) (Classical.propDecidable _) k (if tg c = k then 0 else tg c)
theorem reTag_in {tg : Nat → Nat} {k : Nat} {x : Value} {c : Nat} (h : inB x c) : reTag tg k x c = k := by unfold reTag; rw [if_pos h]
theorem reTag_out {tg : Nat → Nat} {k : Nat} {x : Value} {c : Nat} (h : ¬ inB x c) (h' : tg c ≠ k) : reTag tg k x c = tg c := by unfold reTag; rw [if_neg h, if_neg h']
theorem reTag_ne {tg : Nat → Nat} {k : Nat} {x : Value} {c : Nat} (h : reTag tg k x c ≠ 0) : tg c ≠ 0 ∨ inB x c := by
  unfold reTag at h
  by_cases hc : inB x c
  · exact .inr hc
  · rw [if_neg hc] at h
    split at h
    · exact absurd rfl h
    · exact .inl h

section
variable {w0 w w' w1 : World} {pb b : Nat} {J : Int} {p : PS} {v : PV} {tg : Nat → Nat} {F : Nat → Prop} {x : CS}
theorem PlM.fr (h : PlM w0 w pb b J p v tg) (f : Fr F w w') (hF : ∀ c, F c → tg c = 0) : PlM w0 w' pb b J p v tg where
  blk := f.bk_some h.blk fun hq => by have := hF _ hq; rw [h.tp] at this; cases this
  wr := by rw [f.wr (bk_lt h.blk) fun hq => by have := hF _ hq; rw [h.tp] at this; cases this]; exact h.wr
  tp := h.tp
  nodes := h.nodes.fr f fun c hc hq => by have := hF _ hq; rw [h.tn c hc] at this; cases this
  tn := h.tn
  letters := h.letters.fr f fun c hc hq => by have := hF _ hq; rw [h.tl c hc] at this; cases this
  tl := h.tl
  fetched := h.fetched.fr f fun c hc hq => by have := hF _ hq; rw [h.tf c hc] at this; cases this
  tf := h.tf
  backed := h.backed.fr f fun c hc hq => by have := hF _ hq; rw [h.tb c hc] at this; cases this
  tb := h.tb
  at_ := h.at_.fr f fun c hc hq => by have := hF _ hq; rw [h.ta c hc] at this; cases this
  ta := h.ta
  bound := fun c hc => ⟨(h.bound c hc).1, Nat.lt_of_lt_of_le (h.bound c hc).2 f.size⟩
theorem PlM.fr0 (h : PlM w0 w pb b J p v tg) (f : Fr (fun _ => False) w w') : PlM w0 w' pb b J p v tg := h.fr f fun _ hc => hc.elim
theorem PlM.tag0 (h : PlM w0 w pb b J p v tg) {c : Nat} (hc : w.heap.size ≤ c) : tg c = 0 := Classical.byContradiction fun ht => by have := (h.bound c ht).2; omega
theorem OwnC.KTfr (h : OwnC w0 w b x (KT w0 tg)) (f : Fr (fun _ => False) w w') : OwnC w0 w' b x (KT w0 tg) := (h.fr0 f).mono fun _ hc => .inl hc
theorem OwnC.KTput (h : OwnC w0 w b x (KT w0 tg)) (hm : PlM w0 w pb b J p v tg) (f : Fr F w w') (hF : ∀ c, F c → tg c ≠ 0) : OwnC w0 w' b x (KT w0 tg) :=
  (h.frK f fun c hc => ⟨(hm.bound c (hF c hc)).1, .inl (hF c hc)⟩).mono fun _ hc => .inl hc

/-- Cells that are no lists are stored. -/
theorem PlM.scalar (h : PlM w0 w pb b J p v tg) {o : Nat} {vs : List Value} {J' : Int} {p' : PS} (hs : p'.nodes = p.nodes ∧ p'.letters = p.letters ∧ p'.fetched = p.fetched ∧ p'.backed = p.backed ∧ p'.at_ = p.at_)
    (hc : setL (p.cells b J v) o vs = p'.cells b J' v) : PlM w0 (sto w pb o vs) pb b J' p' v tg := by
  obtain ⟨s1, s2, s3, s4, s5⟩ := hs
  have f : Fr (fun c => c = pb) w (sto w pb o vs) := (Fr.refl (fun c => c = pb) w).sto (.inl rfl) _ _
  have ne : ∀ {k : Nat} {y : Value}, k ≠ 1 → Tg tg k y → ∀ c, inB y c → ¬ c = pb := fun hk ht c hc hq => by subst hq; have := ht c hc; rw [h.tp] at this; exact hk this.symm
  exact { blk := by rw [bk_sto_eq, h.blk]; simp [hc], wr := by simpa using h.wr, tp := h.tp, nodes := by rw [s1]; exact h.nodes.fr f (ne (by decide) h.tn), tn := h.tn, letters := by rw [s2]; exact h.letters.fr f (ne (by decide) h.tl), tl := h.tl,
          fetched := by rw [s3]; exact h.fetched.fr f (ne (by decide) h.tf), tf := h.tf, backed := by rw [s4]; exact h.backed.fr f (ne (by decide) h.tb), tb := h.tb, at_ := by rw [s5]; exact h.at_.fr f (ne (by decide) h.ta), ta := h.ta, bound := fun c hc => by have := h.bound c hc; simpa using this }
/-- The letters are laid anew, or lengthened. -/
theorem PlM.setLetters (h : PlM w0 w pb b J p v tg) (f : Fr F w w1) (hF : ∀ c, F c → tg c = 3 ∨ tg c = 0) {y : Value} {l : List Ms} (hy : SlW 11 w1 y (elM l)) (hd : ∀ c, inB y c → (tg c = 3 ∨ tg c = 0) ∧ w0.heap.size ≤ c ∧ c < w1.heap.size) :
    PlM w0 (sto w1 pb 2 [y]) pb b J { p with letters := l } { v with lv := y } (reTag tg 3 y) := by
  have f2 : Fr (fun c => c = pb) w1 (sto w1 pb 2 [y]) := (Fr.refl (fun c => c = pb) w1).sto (.inl rfl) _ _
  have hpF : ¬ F pb := fun hq => by rcases hF _ hq with h1 | h1 <;> rw [h.tp] at h1 <;> cases h1
  have hp1 := f.bk_some h.blk hpF
  have nin : ∀ {k c : Nat}, k ≠ 3 → k ≠ 0 → tg c = k → ¬ inB y c := fun h3 h0 hk hc => by rcases (hd _ hc).1 with h1 | h1 <;> omega
  have out : ∀ {k c : Nat}, k ≠ 3 → k ≠ 0 → tg c = k → reTag tg 3 y c = k := fun h3 h0 hk => by rw [reTag_out (nin h3 h0 hk) (by omega)]; exact hk
  have keep : ∀ {k : Nat} {z : Value}, k ≠ 3 → k ≠ 0 → k ≠ 1 → Tg tg k z → ∀ c, inB z c → ¬ F c ∧ ¬ c = pb := fun h3 h0 h1 ht c hc => ⟨fun hq => by have := ht c hc; rcases hF _ hq with h' | h' <;> omega, fun hq => by subst hq; have := ht _ hc; rw [h.tp] at this; omega⟩
  exact { blk := by rw [bk_sto_eq, hp1]; rfl, wr := by rw [wr_sto, f.wr (bk_lt h.blk) hpF]; exact h.wr, tp := out (by decide) (by decide) h.tp,
          nodes := (h.nodes.fr f fun c hc => (keep (by decide) (by decide) (by decide) h.tn c hc).1).fr f2 fun c hc => (keep (by decide) (by decide) (by decide) h.tn c hc).2, tn := fun c hc => out (by decide) (by decide) (h.tn c hc),
          letters := hy.fr f2 fun c hc hq => (by subst hq; rcases (hd _ hc).1 with h1 | h1 <;> rw [h.tp] at h1 <;> cases h1), tl := fun c hc => reTag_in hc,
          fetched := (h.fetched.fr f fun c hc => (keep (by decide) (by decide) (by decide) h.tf c hc).1).fr f2 fun c hc => (keep (by decide) (by decide) (by decide) h.tf c hc).2, tf := fun c hc => out (by decide) (by decide) (h.tf c hc),
          backed := (h.backed.fr f fun c hc => (keep (by decide) (by decide) (by decide) h.tb c hc).1).fr f2 fun c hc => (keep (by decide) (by decide) (by decide) h.tb c hc).2, tb := fun c hc => out (by decide) (by decide) (h.tb c hc),
          at_ := (h.at_.fr f fun c hc => (keep (by decide) (by decide) (by decide) h.ta c hc).1).fr f2 fun c hc => (keep (by decide) (by decide) (by decide) h.ta c hc).2, ta := fun c hc => out (by decide) (by decide) (h.ta c hc),
          bound := fun c hc => by
            have hs := f.size
            have hs2 : (sto w1 pb 2 [y]).heap.size = w1.heap.size := by simp
            rcases reTag_ne hc with h1 | h1
            · have := h.bound c h1; omega
            · have := (hd c h1).2; omega }
/-- The fetched are laid anew. -/
theorem PlM.setFetched (h : PlM w0 w pb b J p v tg) (f : Fr (fun _ => False) w w1) {y : Value} {l : List Bool} (hy : SlW 1 w1 y (elB l)) (hd : ∀ c, inB y c → w.heap.size ≤ c ∧ c < w1.heap.size) :
    PlM w0 (sto w1 pb 6 [y]) pb b J { p with fetched := l } { v with fv := y } (reTag tg 4 y) := by
  have f2 : Fr (fun c => c = pb) w1 (sto w1 pb 6 [y]) := (Fr.refl (fun c => c = pb) w1).sto (.inl rfl) _ _
  have hp1 := f.bk_some h.blk id
  have t0 : ∀ {c : Nat}, inB y c → tg c = 0 := fun hc => h.tag0 (hd _ hc).1
  have out : ∀ {k c : Nat}, k ≠ 4 → k ≠ 0 → tg c = k → reTag tg 4 y c = k := fun h3 h0 hk => by rw [reTag_out (fun hc => by have := t0 hc; omega) (by omega)]; exact hk
  have keep : ∀ {k : Nat} {z : Value}, k ≠ 1 → Tg tg k z → ∀ c, inB z c → ¬ c = pb := fun h1 ht c hc hq => by subst hq; have := ht _ hc; rw [h.tp] at this; omega
  exact { blk := by rw [bk_sto_eq, hp1]; rfl, wr := by rw [wr_sto, f.wr (bk_lt h.blk) id]; exact h.wr, tp := out (by decide) (by decide) h.tp,
          nodes := (h.nodes.fr f fun _ _ => id).fr f2 (keep (by decide) h.tn), tn := fun c hc => out (by decide) (by decide) (h.tn c hc),
          letters := (h.letters.fr f fun _ _ => id).fr f2 (keep (by decide) h.tl), tl := fun c hc => out (by decide) (by decide) (h.tl c hc),
          fetched := hy.fr f2 fun c hc hq => (by subst hq; have := t0 hc; rw [h.tp] at this; cases this), tf := fun c hc => reTag_in hc,
          backed := (h.backed.fr f fun _ _ => id).fr f2 (keep (by decide) h.tb), tb := fun c hc => out (by decide) (by decide) (h.tb c hc),
          at_ := (h.at_.fr f fun _ _ => id).fr f2 (keep (by decide) h.ta), ta := fun c hc => out (by decide) (by decide) (h.ta c hc),
          bound := fun c hc => by
            have hs := f.size
            have hs2 : (sto w1 pb 6 [y]).heap.size = w1.heap.size := by simp
            rcases reTag_ne hc with h1 | h1
            · have := h.bound c h1; omega
            · have := hd c h1; have := (h.bound pb (by rw [h.tp]; decide)); omega }
/-- The backed are laid anew. -/
theorem PlM.setBacked (h : PlM w0 w pb b J p v tg) (f : Fr (fun _ => False) w w1) {y : Value} {l : List Bool} (hy : SlW 1 w1 y (elB l)) (hd : ∀ c, inB y c → w.heap.size ≤ c ∧ c < w1.heap.size) :
    PlM w0 (sto w1 pb 7 [y]) pb b J { p with backed := l } { v with bv := y } (reTag tg 5 y) := by
  have f2 : Fr (fun c => c = pb) w1 (sto w1 pb 7 [y]) := (Fr.refl (fun c => c = pb) w1).sto (.inl rfl) _ _
  have hp1 := f.bk_some h.blk id
  have t0 : ∀ {c : Nat}, inB y c → tg c = 0 := fun hc => h.tag0 (hd _ hc).1
  have out : ∀ {k c : Nat}, k ≠ 5 → k ≠ 0 → tg c = k → reTag tg 5 y c = k := fun h3 h0 hk => by rw [reTag_out (fun hc => by have := t0 hc; omega) (by omega)]; exact hk
  have keep : ∀ {k : Nat} {z : Value}, k ≠ 1 → Tg tg k z → ∀ c, inB z c → ¬ c = pb := fun h1 ht c hc hq => by subst hq; have := ht _ hc; rw [h.tp] at this; omega
  exact { blk := by rw [bk_sto_eq, hp1]; rfl, wr := by rw [wr_sto, f.wr (bk_lt h.blk) id]; exact h.wr, tp := out (by decide) (by decide) h.tp,
          nodes := (h.nodes.fr f fun _ _ => id).fr f2 (keep (by decide) h.tn), tn := fun c hc => out (by decide) (by decide) (h.tn c hc),
          letters := (h.letters.fr f fun _ _ => id).fr f2 (keep (by decide) h.tl), tl := fun c hc => out (by decide) (by decide) (h.tl c hc),
          backed := hy.fr f2 fun c hc hq => (by subst hq; have := t0 hc; rw [h.tp] at this; cases this), tb := fun c hc => reTag_in hc,
          fetched := (h.fetched.fr f fun _ _ => id).fr f2 (keep (by decide) h.tf), tf := fun c hc => out (by decide) (by decide) (h.tf c hc),
          at_ := (h.at_.fr f fun _ _ => id).fr f2 (keep (by decide) h.ta), ta := fun c hc => out (by decide) (by decide) (h.ta c hc),
          bound := fun c hc => by
            have hs := f.size
            have hs2 : (sto w1 pb 7 [y]).heap.size = w1.heap.size := by simp
            rcases reTag_ne hc with h1 | h1
            · have := h.bound c h1; omega
            · have := hd c h1; have := (h.bound pb (by rw [h.tp]; decide)); omega }
/-- An element of a list is stored: the lists marked otherwise stay. -/
theorem PlM.putNodes (h : PlM w0 w pb b J p v tg) {q : Nat} (hq : tg q = 2) (f : Fr (fun c => c = q) w w') {l : List Nd} (hs : SlW 8 w' v.nv (elNd l)) : PlM w0 w' pb b J { p with nodes := l } v tg := by
  have ne : ∀ {k : Nat} {y : Value}, k ≠ 2 → Tg tg k y → ∀ c, inB y c → ¬ c = q := fun hk ht c hc he => by subst he; have := ht c hc; omega
  have np : ¬ pb = q := fun he => by subst he; rw [h.tp] at hq; cases hq
  exact { blk := f.bk_some h.blk np, wr := by rw [f.wr (bk_lt h.blk) np]; exact h.wr, tp := h.tp, nodes := hs, tn := h.tn, letters := h.letters.fr f (ne (by decide) h.tl), tl := h.tl, fetched := h.fetched.fr f (ne (by decide) h.tf), tf := h.tf,
          backed := h.backed.fr f (ne (by decide) h.tb), tb := h.tb, at_ := h.at_.fr f (ne (by decide) h.ta), ta := h.ta, bound := fun c hc => ⟨(h.bound c hc).1, Nat.lt_of_lt_of_le (h.bound c hc).2 f.size⟩ }
theorem PlM.putAt (h : PlM w0 w pb b J p v tg) {q : Nat} (hq : tg q = 6) (f : Fr (fun c => c = q) w w') {l : List Int} (hs : SlW 1 w' v.av (elI l)) : PlM w0 w' pb b J { p with at_ := l } v tg := by
  have ne : ∀ {k : Nat} {y : Value}, k ≠ 6 → Tg tg k y → ∀ c, inB y c → ¬ c = q := fun hk ht c hc he => by subst he; have := ht c hc; omega
  have np : ¬ pb = q := fun he => by subst he; rw [h.tp] at hq; cases hq
  exact { blk := f.bk_some h.blk np, wr := by rw [f.wr (bk_lt h.blk) np]; exact h.wr, tp := h.tp, at_ := hs, ta := h.ta, letters := h.letters.fr f (ne (by decide) h.tl), tl := h.tl, fetched := h.fetched.fr f (ne (by decide) h.tf), tf := h.tf,
          backed := h.backed.fr f (ne (by decide) h.tb), tb := h.tb, nodes := h.nodes.fr f (ne (by decide) h.tn), tn := h.tn, bound := fun c hc => ⟨(h.bound c hc).1, Nat.lt_of_lt_of_le (h.bound c hc).2 f.size⟩ }
theorem PlM.putFetched (h : PlM w0 w pb b J p v tg) {q : Nat} (hq : tg q = 4) (f : Fr (fun c => c = q) w w') {l : List Bool} (hs : SlW 1 w' v.fv (elB l)) : PlM w0 w' pb b J { p with fetched := l } v tg := by
  have ne : ∀ {k : Nat} {y : Value}, k ≠ 4 → Tg tg k y → ∀ c, inB y c → ¬ c = q := fun hk ht c hc he => by subst he; have := ht c hc; omega
  have np : ¬ pb = q := fun he => by subst he; rw [h.tp] at hq; cases hq
  exact { blk := f.bk_some h.blk np, wr := by rw [f.wr (bk_lt h.blk) np]; exact h.wr, tp := h.tp, fetched := hs, tf := h.tf, letters := h.letters.fr f (ne (by decide) h.tl), tl := h.tl, at_ := h.at_.fr f (ne (by decide) h.ta), ta := h.ta,
          backed := h.backed.fr f (ne (by decide) h.tb), tb := h.tb, nodes := h.nodes.fr f (ne (by decide) h.tn), tn := h.tn, bound := fun c hc => ⟨(h.bound c hc).1, Nat.lt_of_lt_of_le (h.bound c hc).2 f.size⟩ }
theorem PlM.putBacked (h : PlM w0 w pb b J p v tg) {q : Nat} (hq : tg q = 5) (f : Fr (fun c => c = q) w w') {l : List Bool} (hs : SlW 1 w' v.bv (elB l)) : PlM w0 w' pb b J { p with backed := l } v tg := by
  have ne : ∀ {k : Nat} {y : Value}, k ≠ 5 → Tg tg k y → ∀ c, inB y c → ¬ c = q := fun hk ht c hc he => by subst he; have := ht c hc; omega
  have np : ¬ pb = q := fun he => by subst he; rw [h.tp] at hq; cases hq
  exact { blk := f.bk_some h.blk np, wr := by rw [f.wr (bk_lt h.blk) np]; exact h.wr, tp := h.tp, backed := hs, tb := h.tb, letters := h.letters.fr f (ne (by decide) h.tl), tl := h.tl, at_ := h.at_.fr f (ne (by decide) h.ta), ta := h.ta,
          fetched := h.fetched.fr f (ne (by decide) h.tf), tf := h.tf, nodes := h.nodes.fr f (ne (by decide) h.tn), tn := h.tn, bound := fun c hc => ⟨(h.bound c hc).1, Nat.lt_of_lt_of_le (h.bound c hc).2 f.size⟩ }

/-- What a step of the play leaves. -/
def Up (w0 w w' : World) (pb b : Nat) (x : CS) (tg : Nat → Nat) (p' : PS) : Prop :=
  ∃ v' tg', PlM w0 w' pb b p'.x.job p' v' tg' ∧ OwnC w0 w' b x (KT w0 tg') ∧ Fr (fun c => tg c ≠ 0) w w' ∧ ∀ c, c < w.heap.size → tg' c ≠ 0 → tg c ≠ 0

end
section
variable {w : World}
theorem every_run {fv : Value} {l : List Bool} (hs : Sl 1 w fv (elB l)) (hn : l.length ≤ 1048576) {Q : Value → World → Prop} (q : Q (.bool (l.all id)) w) : Run (F.granarylaw15_every fv) w Q := by
  unfold F.granarylaw15_every
  have hl := hs.lenL
  simp at hl
  simp
  refine Run.mono (Q := fun o w2 => w2 = w ∧ ((l.all id = true ∧ o = Out.exit 0 [.int .i64 l.length]) ∨ (l.all id = false ∧ o = Out.ret (.bool false)))) ?_ ?_
  · refine Run_for l.length (fun i lv w2 => lv = [.int .i64 i] ∧ w2 = w ∧ (l.take i).all id = true) ⟨rfl, rfl, rfl⟩ ?_ ?_
    · rintro i lv w2 hi ⟨rfl, rfl, ha⟩
      have em : l[i]? = some l[i] := List.getElem?_eq_getElem hi
      generalize l[i] = c at em
      obtain ⟨q1, e1, e2⟩ := hs.rd1 (i := i) (y := .bool c) (by rw [elB_get, em]; rfl) .i64
      have wi := wrap_succ (n := i) (by omega)
      simp [hl, hi, e1, e2]
      cases c with
      | true =>
        simp [wi]
        rw [List.take_add_one, em]
        simpa using ha
      | false =>
        simp
        exact List.mem_of_getElem? em
    · rintro lv w2 ⟨rfl, rfl, ha⟩
      rw [List.take_of_length_le (Nat.le_refl _)] at ha
      simp [hl]
      simpa using ha
  · rintro o w2 ⟨rfl, ⟨ha, rfl⟩ | ⟨ha, rfl⟩⟩
    · rw [ha] at q; simpa using q
    · rw [ha] at q; simpa using q
end
end Go.Proofs.Ytpiceodfdjihhaa
