import Derived.Test.YtpiceodfdjihhaaGreatDoorCtlI
import Derived.Test.YtpiceodfdjihhaaGreatDoorRefD
/-
  The document's controller, part A: how it lies in memory; its messages, its sendings.
-/
namespace Go.Proofs.YtpiceodfdjihhaaGreatDoor
open Go.Lift
set_option linter.unusedSimpArgs false

def sentV : List Value := [.int .i64 0, .int .i64 3, .int .i64 5, .int .i64 7, .int .i64 9]
def answeredV : List Value := [.int .i64 0, .int .i64 4, .int .i64 6, .int .i64 8, .int .i64 10]
def seqsV : List Value := [.int .i64 0, .int .i64 0, .int .i64 1, .int .i64 2, .int .i64 0]
/-- The package's tables. -/
structure Glob (w : World) : Prop where
  answered : bk w 0 = some answeredV
  great : bk w 1 = some greatV
  sent : bk w 2 = some sentV
  seqs : bk w 3 = some seqsV
theorem Glob.fr {w w' : World} {F : Nat → Prop} (h : Glob w) (f : Fr F w w') (hF : ∀ c, F c → 4 ≤ c) : Glob w' :=
  ⟨f.bk_some h.answered fun hc => by have := hF _ hc; omega, f.bk_some h.great fun hc => by have := hF _ hc; omega, f.bk_some h.sent fun hc => by have := hF _ hc; omega, f.bk_some h.seqs fun hc => by have := hF _ hc; omega⟩
theorem Glob.fr0 {w w' : World} (h : Glob w) (f : Fr (fun _ => False) w w') : Glob w' := h.fr f fun _ hc => hc.elim
theorem Glob.size {w : World} (h : Glob w) : 4 ≤ w.heap.size := bk_lt h.seqs

structure RV where
  nv : Value
  said : Value
  held : Value
  lh : Value
  lm : Value
  tk : Int
  sd : Int
def CS.phase (x : CS) : Nat := match x.now with
  | none => 0
  | some p => p.kind
def CS.rcells (x : CS) (v : RV) : List Value :=
  [.int .i64 x.job, .int .i64 x.kind, .int .i64 x.ver, .int .i64 x.phase, .int .i64 v.tk, .int .i64 v.sd, v.said, v.held, .bool x.ended,
    .int .i64 x.last.job, .int .i64 x.last.kind, .int .i64 x.last.version, .int .i64 x.last.outcome, v.lh, v.lm]
structure RPh (w : World) (p : Ph) (v : RV) (tag : Nat → Nat) : Prop where
  tk : v.tk = p.ticks
  sd : p.kind ≠ 1 → v.sd = p.sends
  sd1 : 1 ≤ v.sd ∧ v.sd ≤ 1 + p.ticks
  said : SlW 1 w v.said (elB p.said)
  ts : Tg tag 12 v.said
  held : SlW 1 w v.held (elI p.holds)
  th : Tg tag 13 v.held
structure RefC (w : World) (rb : Nat) (C : Clu) (x : CS) (v : RV) (tag : Nat → Nat) : Prop where
  blk : bk w rb = some (C.cells v.nv ++ x.rcells v)
  wr : wr w rb = true
  tb : tag rb = 11
  bound : ∀ c, tag c ≠ 0 → 4 ≤ c ∧ c < w.heap.size
  n : C.nodes.length = x.n
  r : C.resend = x.resend
  l : C.limit = x.limit
  pt : C.patience = x.patience
  nl : lenL v.nv = some (.int .i64 x.n)
  nvc : isCell v.nv = true
  lh : Ints w v.lh x.last.holds ∧ Tg tag 15 v.lh
  lm : Ints w v.lm x.last.missing ∧ Tg tag 15 v.lm
  now : ∀ p, x.now = some p → RPh w p v tag

section
variable {w w' : World} {rb : Nat} {C : Clu} {x : CS} {v : RV} {tag : Nat → Nat} {F : Nat → Prop} {p : Ph}
theorem RefC.fr (h : RefC w rb C x v tag) (f : Fr F w w') (hF : ∀ c, F c → tag c = 0) : RefC w' rb C x v tag where
  blk := f.bk_some h.blk fun hq => by have := hF _ hq; rw [h.tb] at this; cases this
  wr := by rw [f.wr (bk_lt h.blk) fun hq => by have := hF _ hq; rw [h.tb] at this; cases this]; exact h.wr
  tb := h.tb
  bound := fun c hc => ⟨(h.bound c hc).1, Nat.lt_of_lt_of_le (h.bound c hc).2 f.size⟩
  n := h.n
  r := h.r
  l := h.l
  pt := h.pt
  nl := h.nl
  nvc := h.nvc
  lh := ⟨h.lh.1.fr f fun c hc hq => (by have := hF _ hq; rw [h.lh.2 c hc] at this; cases this), h.lh.2⟩
  lm := ⟨h.lm.1.fr f fun c hc hq => (by have := hF _ hq; rw [h.lm.2 c hc] at this; cases this), h.lm.2⟩
  now := fun p hp => let q := h.now p hp
    ⟨q.tk, q.sd, q.sd1, q.said.fr f fun c hc hq => (by have := hF _ hq; rw [q.ts c hc] at this; cases this), q.ts, q.held.fr f fun c hc hq => (by have := hF _ hq; rw [q.th c hc] at this; cases this), q.th⟩
theorem RefC.fr0 (h : RefC w rb C x v tag) (f : Fr (fun _ => False) w w') : RefC w' rb C x v tag := h.fr f fun _ hc => hc.elim
theorem RefC.tag0 (h : RefC w rb C x v tag) {c : Nat} (hc : w.heap.size ≤ c) : tag c = 0 := Classical.byContradiction fun ht => by have := (h.bound c ht).2; omega

end
section
variable {w w' : World} {rb : Nat} {C : Clu} {x : CS} {v : RV} {tag : Nat → Nat} {p : Ph}
theorem cl_len (C : Clu) (nv : Value) : (C.cells nv).length = 23 := rfl
theorem rc_get (C : Clu) (nv : Value) (l : List Value) (i : Nat) : (C.cells nv ++ l)[23 + i]? = l[i]? := by
  rw [List.getElem?_append_right (by rw [cl_len]; omega), cl_len]; congr 1; omega
theorem rc_set (C : Clu) (nv : Value) (l : List Value) (i : Nat) (y : Value) : (C.cells nv ++ l).set (23 + i) y = C.cells nv ++ l.set i y := by
  rw [List.set_append_right _ _ (by rw [cl_len]; omega), cl_len]; congr 2; omega
theorem rc_low (C : Clu) (nv : Value) (l : List Value) {i : Nat} (hi : i < 23) : (C.cells nv ++ l)[i]? = (C.cells nv)[i]? := List.getElem?_append_left (by rw [cl_len]; exact hi)

/-- What the phase k sends to a node. -/
theorem message15_run (hg : Glob w) {l : List Value} (hb : bk w rb = some l) (c23 : l[23]? = some (.int .i64 x.job)) (c25 : l[25]? = some (.int .i64 x.ver)) {k : Nat} (hk : 1 ≤ k ∧ k ≤ 4) (c26 : l[26]? = some (.int .i64 k)) (i : Int) :
    Run (F.granaryref15_Control_message (.pointer (some ⟨rb, 0, none⟩)) (.int .i64 i)) w fun r w' => r = .agg (x.msg k i).cells.toArray ∧ Fr (fun _ => False) w w' := by
  unfold F.granaryref15_Control_message
  simp
  refine Run_new fun a w1 ha haw f1 hle1 => ?_
  have hb1 := f1.bk_some hb id
  have g1 := hg.fr0 f1
  have hk5 : (k : Int) < 5 := by omega
  obtain ⟨s, hs, hsv⟩ : ∃ s, sentV[k]? = some (.int .i64 s) ∧ s = 2 * k + 1 := by
    rcases (by omega : k = 1 ∨ k = 2 ∨ k = 3 ∨ k = 4) with rfl | rfl | rfl | rfl <;> exact ⟨_, rfl, rfl⟩
  obtain ⟨q, hq, hqv⟩ : ∃ q, seqsV[k]? = some (.int .i64 q) ∧ q = if k = 2 then 1 else if k = 3 then 2 else 0 := by
    rcases (by omega : k = 1 ∨ k = 2 ∨ k = 3 ∨ k = 4) with rfl | rfl | rfl | rfl <;> exact ⟨_, rfl, rfl⟩
  have dr : Fr (fun _ => False) w1 w1.drew := (Fr.refl _ _).drew
  simp [hb1, c23, c26, hk5, hk.1, g1.sent, g1.seqs, hs, hq, buildV, fillV_cell]
  refine Run_new fun e w2 he hew f2 hle2 => ?_
  have f12 : Fr (fun _ => False) w1 w2 := dr.trans f2 fun _ _ => id
  have hb2 := f12.bk_some hb1 id
  have g2 := g1.fr0 f12
  have la := bk_lt ha
  have lr := bk_lt hb1
  have hle2' : w1.heap.size ≤ e := hle2
  have ne1 : a ≠ e := by omega
  have ne2 : rb ≠ e := by omega
  have s2 : 4 ≤ w1.heap.size := g1.size
  have n0 : ¬ 2 = e := by omega
  have n3 : ¬ 3 = e := by omega
  have ha2 : bk w2 a = some _ := f12.bk_some ha id
  have haw2 : wr w2 a = true := by rw [f12.wr la id]; exact haw
  simp at he
  have gs : bk w2 2 = some sentV := g2.sent
  have gq : bk w2 3 = some seqsV := g2.seqs
  simp [he, hew, hb2, c23, c25, c26, bk_sto, ne1, ne2, Ne.symm ne1, n0, n3, gs, gq, hs, hq, ha2, haw2]
  have dr2 : Fr (fun _ => False) w w2 := f1.trans f12 fun _ _ => id
  have hle1' : w.heap.size ≤ a := hle1
  have hle3 : w.heap.size ≤ e := Nat.le_trans f1.size (by simpa using hle2)
  rcases (by omega : k = 1 ∨ k = 2 ∨ k = 3 ∨ k = 4) with rfl | rfl | rfl | rfl
  all_goals
    simp [he, hew, hb2, c23, c25, c26, bk_sto, ne1, ne2, Ne.symm ne1, Ne.symm ne2, ha2, haw2]
    refine ⟨fun j hj => ?_, ?_, ?_⟩
    · rcases (by omega : j = 0 ∨ j = 1 ∨ j = 2 ∨ j = 3 ∨ j = 4 ∨ j = 5 ∨ j = 6 ∨ j = 7 ∨ j = 8 ∨ j = 9 ∨ j = 10) with rfl | rfl | rfl | rfl | rfl | rfl | rfl | rfl | rfl | rfl | rfl <;> rfl
    · rw [hsv, hqv]; rfl
    · refine Fr.sto ?_ (.inr hle1') _ _
      repeat refine Fr.sto ?_ (.inr hle3) _ _
      exact dr2
/-- The sendings: to all that have not answered. -/
theorem again15_run (hg : Glob w) (h : RefC w rb C x v tag) (hx : x.now = some p) (hk : 1 ≤ p.kind ∧ p.kind ≤ 4) (hn : p.said.length ≤ 64) :
    Run (F.granaryref15_Control_again (.pointer (some ⟨rb, 0, none⟩))) w fun r w' => Fr (fun _ => False) w w' ∧ SlW 11 w' r (elM x.sendS) ∧ New w w' r := by
  unfold F.granaryref15_Control_again
  have hsend : x.sendS = (missK p.said p.said.length).map (x.msg p.kind) := by unfold CS.sendS; rw [hx]
  rw [hsend]
  have hp := h.now p hx
  have cc : ∀ i, (C.cells v.nv ++ x.rcells v)[23 + i]? = (x.rcells v)[i]? := rc_get _ _ _
  have c23 : (C.cells v.nv ++ x.rcells v)[23]? = some (.int .i64 x.job) := cc 0
  have c25 : (C.cells v.nv ++ x.rcells v)[25]? = some (.int .i64 x.ver) := cc 2
  have c26 : (C.cells v.nv ++ x.rcells v)[26]? = some (.int .i64 p.kind) := by rw [cc 3]; simp [CS.rcells, CS.phase, hx]
  have c29 : (C.cells v.nv ++ x.rcells v)[29]? = some v.said := cc 6
  generalize hl : C.cells v.nv ++ x.rcells v = l at *
  have hbk : bk w rb = some l := by rw [h.blk, hl]
  simp
  refine Run_for p.said.length (fun i l w2 => ∃ acc, l = [acc, .int .i64 i] ∧ Fr (fun _ => False) w w2 ∧ SlW 11 w2 acc (elM ((missK p.said i).map (x.msg p.kind))) ∧ New w w2 acc) ⟨_, rfl, Fr.refl _ _, SlW.nil _ _, (fun _ h => h.elim)⟩ ?_ ?_
  · rintro i _ w2 hi ⟨acc, rfl, f2, s2, n2⟩
    have hb2 := f2.bk_some hbk id
    have g2 := hg.fr0 f2
    have hs2 := (hp.said.fr f2 fun _ _ => id).1
    have es : (elB p.said)[i]? = some [.bool p.said[i]] := by rw [elB_get, List.getElem?_eq_getElem hi]; rfl
    obtain ⟨q, q1, q2⟩ := hs2.rd1 (i := i) (y := .bool p.said[i]) es .i64
    have hsl := hs2.lenL
    simp at hsl
    have wk := wrap_succ (n := i) (by omega)
    have eg : p.said[i]?.getD true = p.said[i] := by rw [List.getElem?_eq_getElem hi]; rfl
    have hm := missK_succ p.said i
    rw [eg] at hm
    simp [hb2, c29, hsl, hi, q1, q2]
    cases hsi : p.said[i] with
    | true =>
      rw [hsi] at hm
      simp at hm
      simp [wk, hm]
      exact ⟨f2, s2, n2⟩
    | false =>
      rw [hsi] at hm
      simp at hm
      simp
      refine (message15_run (x := x) g2 hb2 c23 c25 hk c26 i).mono ?_
      rintro _ w3 ⟨rfl, f3⟩
      have hml := missK_len p.said i
      refine Run_app1 (k := 11) (y := .agg (x.msg p.kind i).cells.toArray) rfl (s2.fr f3 fun _ _ => id) (by decide) rfl (by decide) (by simp [Ms.cells, CS.msg]) (by simp; omega) fun r w5 s5 f5 hin w6 f6 => ?_
      simp [wk]
      refine ⟨(f2.trans f3 fun _ _ => id).new f5 fun d hd => (n2 d hd).1, ?_, fun d hd => ?_⟩
      · rw [hm, List.map_append, elM_app]
        exact s5
      · rcases hin d hd with h | h
        · exact ⟨(n2 d h).1, Nat.lt_of_lt_of_le (Nat.lt_of_lt_of_le (n2 d h).2 f3.size) f5.size⟩
        · exact ⟨Nat.le_trans f2.size (Nat.le_trans f3.size h.1), h.2⟩
  · rintro _ w2 ⟨acc, rfl, f2, s2, n2⟩
    have hb2 := f2.bk_some hbk id
    have hsl := (hp.said.fr f2 fun _ _ => id).1.lenL
    simp at hsl
    simp [hb2, c29, hsl]
    exact ⟨f2, s2, n2⟩
end
end Go.Proofs.YtpiceodfdjihhaaGreatDoor

/-
  The document's controller, part B: a phase begins; a job ends.
-/
namespace Go.Proofs.YtpiceodfdjihhaaGreatDoor
open Go.Lift
set_option linter.unusedSimpArgs false

theorem rc_gets (C : Clu) (nv : Value) (l : List Value) : (C.cells nv ++ l)[22]? = some nv ∧ (C.cells nv ++ l)[23]? = l[0]? ∧ (C.cells nv ++ l)[24]? = l[1]? ∧ (C.cells nv ++ l)[25]? = l[2]? ∧ (C.cells nv ++ l)[26]? = l[3]? ∧
    (C.cells nv ++ l)[27]? = l[4]? ∧ (C.cells nv ++ l)[28]? = l[5]? ∧ (C.cells nv ++ l)[29]? = l[6]? ∧ (C.cells nv ++ l)[30]? = l[7]? ∧ (C.cells nv ++ l)[31]? = l[8]? :=
  ⟨rc_low _ _ _ (by omega), rc_get _ _ _ 0, rc_get _ _ _ 1, rc_get _ _ _ 2, rc_get _ _ _ 3, rc_get _ _ _ 4, rc_get _ _ _ 5, rc_get _ _ _ 6, rc_get _ _ _ 7, rc_get _ _ _ 8⟩
def CS.rc0 (x : CS) (v : RV) (ph : Int) : List Value :=
  [.int .i64 x.job, .int .i64 x.kind, .int .i64 x.ver, .int .i64 ph, .int .i64 v.tk, .int .i64 v.sd, v.said, v.held, .bool x.ended,
    .int .i64 x.last.job, .int .i64 x.last.kind, .int .i64 x.last.version, .int .i64 x.last.outcome, v.lh, v.lm]
/-- The document's controller, but for its phase. -/
structure RefC0 (w : World) (rb : Nat) (C : Clu) (x : CS) (v : RV) (ph : Int) (tag : Nat → Nat) : Prop where
  blk : bk w rb = some (C.cells v.nv ++ x.rc0 v ph)
  wr : wr w rb = true
  tb : tag rb = 11
  bound : ∀ c, tag c ≠ 0 → 4 ≤ c ∧ c < w.heap.size
  n : C.nodes.length = x.n
  r : C.resend = x.resend
  l : C.limit = x.limit
  pt : C.patience = x.patience
  nl : lenL v.nv = some (.int .i64 x.n)
  nvc : isCell v.nv = true
  lh : Ints w v.lh x.last.holds ∧ Tg tag 15 v.lh
  lm : Ints w v.lm x.last.missing ∧ Tg tag 15 v.lm
/-- What a call of the document's controller comes to. -/
structure RDid (w w' : World) (rb : Nat) (C : Clu) (tag : Nat → Nat) (x' : CS) (r : Value) (out : List Ms) : Prop where
  fr : Fr (fun c => tag c ≠ 0) w w'
  ref : ∃ v' tag', RefC w' rb C x' v' tag' ∧ (∀ c, tag' c ≠ 0 → tag c ≠ 0 ∨ w.heap.size ≤ c) ∧ (∀ c, inB r c → tag' c = 0)
  out : SlW 11 w' r (elM out)
  new : New w w' r

section
variable {w w' : World} {rb : Nat} {C : Clu} {x : CS} {v : RV} {tag : Nat → Nat} {p : Ph} {ph : Int}
theorem RefC.c0 (h : RefC w rb C x v tag) : RefC0 w rb C x v x.phase tag := ⟨h.blk, h.wr, h.tb, h.bound, h.n, h.r, h.l, h.pt, h.nl, h.nvc, h.lh, h.lm⟩
theorem RefC0.fr {F : Nat → Prop} (h : RefC0 w rb C x v ph tag) (f : Fr F w w') (hF : ∀ c, F c → tag c = 0) : RefC0 w' rb C x v ph tag where
  blk := f.bk_some h.blk fun hq => by have := hF _ hq; rw [h.tb] at this; cases this
  wr := by rw [f.wr (bk_lt h.blk) fun hq => by have := hF _ hq; rw [h.tb] at this; cases this]; exact h.wr
  tb := h.tb
  bound := fun c hc => ⟨(h.bound c hc).1, Nat.lt_of_lt_of_le (h.bound c hc).2 f.size⟩
  n := h.n
  r := h.r
  l := h.l
  pt := h.pt
  nl := h.nl
  nvc := h.nvc
  lh := ⟨h.lh.1.fr f fun c hc hq => (by have := hF _ hq; rw [h.lh.2 c hc] at this; cases this), h.lh.2⟩
  lm := ⟨h.lm.1.fr f fun c hc hq => (by have := hF _ hq; rw [h.lm.2 c hc] at this; cases this), h.lm.2⟩
theorem RDid.none (h : RefC w rb C x v tag) (f : Fr (fun _ => False) w w') : RDid w w' rb C tag x (.slice none 0 0) [] :=
  ⟨f.mono fun _ h => h.elim, ⟨v, tag, h.fr0 f, fun _ h => .inl h, fun _ h => h.elim⟩, SlW.nil _ _, fun _ h => h.elim⟩
theorem RDid.sub {w1 : World} {x' : CS} {r : Value} {out : List Ms} (h : RDid w1 w' rb C tag x' r out) (f : Fr (fun c => tag c ≠ 0) w w1) : RDid w w' rb C tag x' r out where
  fr := f.trans h.fr fun _ _ h => h
  ref := by
    obtain ⟨v', tag', h1, h2, h3⟩ := h.ref
    exact ⟨v', tag', h1, fun c hc => (h2 c hc).imp id fun h => Nat.le_trans f.size h, h3⟩
  out := h.out
  new := h.new.sub f
/-- A store into the controller's own block. -/
theorem RefC0.put (h : RefC0 w rb C x v ph tag) {x' : CS} {v' : RV} {ph' : Int} {o : Nat} {vs : List Value} (hc : setL (C.cells v.nv ++ x.rc0 v ph) o vs = C.cells v'.nv ++ x'.rc0 v' ph') (e1 : x'.n = x.n ∧ x'.resend = x.resend ∧ x'.limit = x.limit ∧ x'.patience = x.patience)
    (e2 : x'.last = x.last ∧ v'.lh = v.lh ∧ v'.lm = v.lm ∧ v'.nv = v.nv) : RefC0 (sto w rb o vs) rb C x' v' ph' tag := by
  have f : Fr (fun c => c = rb) w (sto w rb o vs) := (Fr.refl (fun c => c = rb) w).sto (.inl rfl) _ _
  have hF : ∀ c, c = rb → tag c = 11 := fun c he => by rw [he]; exact h.tb
  obtain ⟨q1, q2, q3, q4⟩ := e1
  obtain ⟨r1, r2, r3, r4⟩ := e2
  refine ⟨by rw [bk_sto_eq, h.blk, Option.map_some, hc], by simpa using h.wr, h.tb, fun c hc => ⟨(h.bound c hc).1, Nat.lt_of_lt_of_le (h.bound c hc).2 f.size⟩, by rw [q1]; exact h.n, by rw [q2]; exact h.r, by rw [q3]; exact h.l, by rw [q4]; exact h.pt, by rw [r4, q1]; exact h.nl, by rw [r4]; exact h.nvc, ?_, ?_⟩
  · rw [r1, r2]; exact ⟨h.lh.1.fr f fun c hc he => (by have := h.lh.2 c hc; rw [hF c he] at this; cases this), h.lh.2⟩
  · rw [r1, r3]; exact ⟨h.lm.1.fr f fun c hc he => (by have := h.lm.2 c hc; rw [hF c he] at this; cases this), h.lm.2⟩
theorem RefC0.full (h : RefC0 w rb C x v ph tag) (hp : ph = x.phase) (hn : ∀ p, x.now = some p → RPh w p v tag) : RefC w rb C x v tag :=
  ⟨by rw [h.blk, hp]; rfl, h.wr, h.tb, h.bound, h.n, h.r, h.l, h.pt, h.nl, h.nvc, h.lh, h.lm, hn⟩
open Classical in
/-- The marks, where a phase has begun. -/
noncomputable def rmkTag (tag : Nat → Nat) (sv hv : Value) (c : Nat) : Nat := if inB sv c then 12 else if inB hv c then 13 else if tag c = 11 ∨ tag c = 15 then tag c else 0
theorem rbegin_run (hg : Glob w) (h : RefC0 w rb C x v ph tag) {k : Nat} (hk : 1 ≤ k ∧ k ≤ 4) (hn : 1 ≤ x.n ∧ x.n ≤ 64) :
    Run (F.granaryref15_Control_begin (.pointer (some ⟨rb, 0, none⟩)) (.int .i64 k)) w fun r w' => RDid w w' rb C tag (x.enterS k).1 r (x.enterS k).2 := by
  unfold F.granaryref15_Control_begin
  obtain ⟨c22, c23, c24, c25, c26, c27, c28, c29, c30, c31⟩ := rc_gets C v.nv (x.rc0 v ph)
  have hlen : (C.cells v.nv ++ x.rc0 v ph).length = 38 := rfl
  simp [h.blk, h.wr, hlen]
  have hb5 : bk (sto (sto (sto (sto (sto w rb 26 [Value.int .i64 k]) rb 27 [Value.int .i64 0]) rb 28 [Value.int .i64 1]) rb 29 [Value.slice none 0 0]) rb 30 [Value.slice none 0 0]) rb =
      some (C.cells v.nv ++ x.rc0 { v with tk := 0, sd := 1, said := .slice none 0 0, held := .slice none 0 0 } k) := by
    simp [h.blk]; rfl
  have f5 : Fr (fun c => c = rb) w (sto (sto (sto (sto (sto w rb 26 [Value.int .i64 k]) rb 27 [Value.int .i64 0]) rb 28 [Value.int .i64 1]) rb 29 [Value.slice none 0 0]) rb 30 [Value.slice none 0 0]) := by
    exact (((((Fr.refl (fun c => c = rb) w).sto (.inl rfl) _ _).sto (.inl rfl) _ _).sto (.inl rfl) _ _).sto (.inl rfl) _ _).sto (.inl rfl) _ _
  have hw5 : wr (sto (sto (sto (sto (sto w rb 26 [Value.int .i64 k]) rb 27 [Value.int .i64 0]) rb 28 [Value.int .i64 1]) rb 29 [Value.slice none 0 0]) rb 30 [Value.slice none 0 0]) rb = true := by simp [h.wr]
  generalize sto (sto (sto (sto (sto w rb 26 [Value.int .i64 k]) rb 27 [Value.int .i64 0]) rb 28 [Value.int .i64 1]) rb 29 [Value.slice none 0 0]) rb 30 [Value.slice none 0 0] = w5 at *
  have lr : rb < w5.heap.size := bk_lt hb5
  have z : ∀ c, w.heap.size ≤ c → tag c = 0 := fun c hc => Classical.byContradiction fun ht => by have := (h.bound c ht).2; omega
  refine Run_for x.n (fun i l w2 => l = [.int .i64 i] ∧ ∃ sv hv, bk w2 rb = some (C.cells v.nv ++ x.rc0 { v with tk := 0, sd := 1, said := sv, held := hv } k) ∧ wr w2 rb = true ∧ Fr (fun c => c = rb) w5 w2 ∧
      SlW 1 w2 sv (elB (List.replicate i false)) ∧ SlW 1 w2 hv (elI (List.replicate i (-1))) ∧ New w5 w2 sv ∧ New w5 w2 hv ∧ (∀ c, inB sv c → ¬ inB hv c)) ⟨rfl, _, _, hb5, hw5, Fr.refl _ _, SlW.nil _ _, SlW.nil _ _, (fun _ h => h.elim), (fun _ h => h.elim), fun _ h => h.elim⟩ ?_ ?_
  · rintro i _ w2 hi ⟨rfl, sv, hv, hb2, hw2, f2, s2, h2, ns, nh, ap⟩
    obtain ⟨d22, d23, d24, d25, d26, d27, d28, d29, d30, d31⟩ := rc_gets C v.nv (x.rc0 { v with tk := 0, sd := 1, said := sv, held := hv } k)
    have hnl : lenL v.nv = some (.int .i64 x.n) := h.nl
    have wk := wrap_succ (n := i) (by omega)
    simp [hb2, d22, hnl, hi, d29]
    simp [CS.rc0]
    refine Run_app1 (k := 1) (y := .bool false) rfl s2 (by decide) rfl (by decide) rfl (by simp; omega) fun r w3 s3 f3 hin _ _ => ?_
    have nr : ∀ c, inB r c → w5.heap.size ≤ c ∧ c < w3.heap.size := fun c hc => by
      rcases hin c hc with h | h
      · exact ⟨(ns c h).1, Nat.lt_of_lt_of_le (ns c h).2 f3.size⟩
      · exact ⟨Nat.le_trans f2.size h.1, h.2⟩
    have hb3 := f3.bk_some hb2 (fun hc => by have := (ns _ hc).1; omega)
    have hw3 : wr w3 rb = true := by rw [f3.wr (bk_lt hb2) fun hc => by have := (ns _ hc).1; omega]; exact hw2
    have hrc := cells_of_isCell s3.1.isCell
    have hL3 : (C.cells v.nv ++ x.rc0 { v with tk := 0, sd := 1, said := sv, held := hv } k).length = 38 := rfl
    have hb3' : bk (sto w3 rb 29 [r]) rb = some (C.cells v.nv ++ x.rc0 { v with tk := 0, sd := 1, said := r, held := hv } k) := by simp [hb3]; rfl
    have hw3' : wr (sto w3 rb 29 [r]) rb = true := by simp [hw3]
    have g3 : Fr (fun c => c = rb) w3 (sto w3 rb 29 [r]) := (Fr.refl (fun c => c = rb) w3).sto (.inl rfl) _ _
    have hh3 := (h2.fr f3 fun c hc hs => ap c hs hc).fr g3 fun c hc he => by have := (nh c hc).1; omega
    have ss3 := s3.fr g3 fun c hc he => by have := (nr c hc).1; omega
    simp only [hrc, Array.toList]
    have g30 : (Option.map (fun l => setL l 29 [r]) (bk w3 rb)).bind (fun x => x[30]?) = some hv := by simp [hb3]; rfl
    refine ⟨rfl, (fun i hi => ?_), ⟨_, hb3, by rw [hL3]; omega⟩, hw3, _, g30, ?_⟩
    · have e0 : i = 0 := by simpa using hi
      subst e0; exact s3.1.isCell
    generalize sto w3 rb 29 [r] = w4 at *
    refine Run_app1 (k := 1) (y := .int .i64 (-1)) rfl hh3 (by decide) rfl (by decide) rfl (by simp; omega) fun r5 w6 s6 f6 hin6 _ _ => ?_
    have nr5 : ∀ c, inB r5 c → w5.heap.size ≤ c ∧ c < w6.heap.size := fun c hc => by
      rcases hin6 c hc with h | h
      · have := (nh c h); exact ⟨this.1, by have := f3.size; have := g3.size; have := f6.size; omega⟩
      · exact ⟨by have := f2.size; have := f3.size; have := g3.size; omega, h.2⟩
    have hb6 := f6.bk_some hb3' (fun hc => by have := (nh _ hc).1; omega)
    have hw6 : wr w6 rb = true := by rw [f6.wr (bk_lt hb3') fun hc => by have := (nh _ hc).1; omega]; exact hw3'
    have hrc5 := cells_of_isCell s6.1.isCell
    simp only [hrc5, Array.toList]
    have g6 : Fr (fun c => c = rb) w6 (sto w6 rb 30 [r5]) := (Fr.refl (fun c => c = rb) w6).sto (.inl rfl) _ _
    have aprr : ∀ c, inB r c → ¬ inB r5 c := fun c h1 h2 => by
      have l1 := g3.size
      rcases hin c h1 with h | h <;> rcases hin6 c h2 with h' | h'
      · exact ap c h h'
      · have := (ns c h).2; have := f3.size; omega
      · have := (nh c h').2; omega
      · have := h.2; omega
    refine ⟨rfl, (fun i hi => ?_), ⟨_, hb6, by show 31 ≤ 38; omega⟩, hw6, wk, r, r5, ⟨_, hb6, rfl⟩, hw6, ?_, ?_, ?_, ?_, ?_, aprr⟩
    · have e0 : i = 0 := by simpa using hi
      subst e0; exact s6.1.isCell
    · exact (((f2.trans f3 fun c hc h => by have := (ns c h).1; omega).trans g3 fun _ _ h => h).trans f6 fun c hc h => by have := (nh c h).1; omega).trans g6 fun _ _ h => h
    · have := (ss3.fr f6 fun c h1 h2 => ?_).fr g6 fun c hc he => by have := (nr c hc).1; omega
      · rw [show elB (List.replicate (i + 1) false) = elB (List.replicate i false) ++ [[.bool false]] from by rw [List.replicate_succ']; simp [elB]]; exact this
      · rcases hin c h1 with h | h
        · exact ap c h h2
        · have := (nh c h2).2; omega
    · have := s6.fr g6 fun c hc he => by have := (nr5 c hc).1; omega
      rw [show elI (List.replicate (i + 1) (-1)) = elI (List.replicate i (-1)) ++ [[.int .i64 (-1)]] from by rw [List.replicate_succ']; simp [elI]]; exact this
    · intro c hc
      exact ⟨(nr c hc).1, by have := (nr c hc).2; have := g3.size; have := f6.size; have := g6.size; omega⟩
    · intro c hc
      exact ⟨(nr5 c hc).1, Nat.lt_of_lt_of_le (nr5 c hc).2 g6.size⟩
  · rintro _ w2 ⟨rfl, sv, hv, hb2, hw2, f2, s2, h2, ns, nh, ap⟩
    obtain ⟨d22, d23, d24, d25, d26, d27, d28, d29, d30, d31⟩ := rc_gets C v.nv (x.rc0 { v with tk := 0, sd := 1, said := sv, held := hv } k)
    have hnl : lenL v.nv = some (.int .i64 x.n) := h.nl
    simp [hb2, d22, hnl]
    have fw : Fr (fun c => c = rb) w w2 := f5.trans f2 fun _ _ h => h
    have h1 : RefC w2 rb C (x.enterS k).1 { v with tk := 0, sd := 1, said := sv, held := hv } (rmkTag tag sv hv) := by
      have nrb : ¬ inB sv rb ∧ ¬ inB hv rb := ⟨fun hc => by have := (ns _ hc).1; omega, fun hc => by have := (nh _ hc).1; omega⟩
      have zs : ∀ c, inB sv c → tag c = 0 := fun c hc => z c (by have := (ns c hc).1; have := f5.size; omega)
      have zh : ∀ c, inB hv c → tag c = 0 := fun c hc => z c (by have := (nh c hc).1; have := f5.size; omega)
      refine ⟨hb2, hw2, by simp [rmkTag, nrb.1, nrb.2, h.tb], fun c hc => ?_, h.n, h.r, h.l, h.pt, h.nl, h.nvc, ⟨?_, fun c hc => ?_⟩, ⟨?_, fun c hc => ?_⟩, fun q hq => ?_⟩
      · unfold rmkTag at hc
        have g4 := hg.size
        have := f5.size
        split at hc
        · rename_i h; have := ns c h; omega
        · split at hc
          · rename_i h; have := nh c h; omega
          · split at hc
            · rename_i h'; have := h.bound c (by omega); have := fw.size; omega
            · exact absurd rfl hc
      · exact h.lh.1.fr fw fun c hc he => by have := h.lh.2 c hc; rw [he, h.tb] at this; cases this
      · have h15 := h.lh.2 c hc
        have e1 : ¬ inB sv c := fun h => by have := zs c h; omega
        have e2 : ¬ inB hv c := fun h => by have := zh c h; omega
        simp [rmkTag, e1, e2, h15]
      · exact h.lm.1.fr fw fun c hc he => by have := h.lm.2 c hc; rw [he, h.tb] at this; cases this
      · have h15 := h.lm.2 c hc
        have e1 : ¬ inB sv c := fun h => by have := zs c h; omega
        have e2 : ¬ inB hv c := fun h => by have := zh c h; omega
        simp [rmkTag, e1, e2, h15]
      · cases hq
        refine ⟨rfl, fun _ => rfl, ⟨by simp, by simp [Ph.new]⟩, s2, fun c hc => by simp [rmkTag, hc], h2, fun c hc => ?_⟩
        have : ¬ inB sv c := fun h => ap c h hc
        simp [rmkTag, this, hc]
    have g2 : Glob w2 := hg.fr fw fun c he => by have := h.bound rb (by rw [h.tb]; decide); omega
    refine (again15_run g2 h1 rfl hk (by simpa [Ph.new] using hn.2)).mono ?_
    rintro r w3 ⟨f3, s3, n3⟩
    refine ⟨(fw.mono fun c he => ?_).trans f3 fun _ _ h => h.elim, ⟨_, _, h1.fr0 f3, fun c hc => ?_, fun c hc => ?_⟩, s3, n3.sub fw⟩
    · rw [he, h.tb]; decide
    · unfold rmkTag at hc
      have := f5.size
      split at hc
      · rename_i h; have := ns c h; right; omega
      · split at hc
        · rename_i h; have := nh c h; right; omega
        · split at hc
          · rename_i h'; left; omega
          · exact absurd rfl hc
    · exact Classical.byContradiction fun ht => by have := (h1.bound c ht).2; have := (n3 c hc).1; omega
end
end Go.Proofs.YtpiceodfdjihhaaGreatDoor

/-
  The document's controller, part C: a job ends.
-/
namespace Go.Proofs.YtpiceodfdjihhaaGreatDoor
open Go.Lift
set_option linter.unusedSimpArgs false
section
variable {w w' : World} {rb : Nat} {C : Clu} {x : CS} {v : RV} {tag : Nat → Nat} {p : Ph} {ph : Int}
open Classical in
/-- The marks, where a job has ended. -/
noncomputable def rendTag (tag : Nat → Nat) (r1 r2 : Value) (c : Nat) : Nat := if tag c = 11 then 11 else if inB r1 c ∨ inB r2 c then 15 else 0
theorem rend_run (h : RefC w rb C x v tag) (hx : x.now = some p) (hn : p.said.length ≤ 64 ∧ p.holds.length = p.said.length) (o : Int) :
    Run (F.granaryref15_Control_end (.pointer (some ⟨rb, 0, none⟩)) (.int .i64 o)) w fun r w' => r = .slice none 0 0 ∧ RDid w w' rb C tag (x.endS p o).1 r [] := by
  unfold F.granaryref15_Control_end
  obtain ⟨c22, c23, c24, c25, c26, c27, c28, c29, c30, c31⟩ := rc_gets C v.nv (x.rcells v)
  have hlen : (C.cells v.nv ++ x.rcells v).length = 38 := rfl
  have hp := h.now p hx
  have c23 : (C.cells v.nv ++ x.rcells v)[23]? = some (.int .i64 x.job) := c23
  have c24 : (C.cells v.nv ++ x.rcells v)[24]? = some (.int .i64 x.kind) := c24
  have c25 : (C.cells v.nv ++ x.rcells v)[25]? = some (.int .i64 x.ver) := c25
  have c29 : (C.cells v.nv ++ x.rcells v)[29]? = some v.said := c29
  have c30 : (C.cells v.nv ++ x.rcells v)[30]? = some v.held := c30
  have hblk := h.blk
  have hend : ∀ lh lm : Value, setL (setL (setL (C.cells v.nv ++ x.rcells v) 32 [.int .i64 x.job, .int .i64 x.kind, .int .i64 x.ver, .int .i64 o, lh, lm]) 31 [.bool true]) 26 [.int .i64 0] = C.cells v.nv ++ (x.endS p o).1.rcells { v with lh := lh, lm := lm } := fun _ _ => rfl
  generalize C.cells v.nv ++ x.rcells v = L at c22 c23 c24 c25 c26 c27 c28 c29 c30 c31 hlen hblk hend
  simp [hblk, h.wr, c23, c24, c25, buildV, fillV_cell]
  refine Run_new fun e w1 he hew f1 hle => ?_
  have dr : Fr (fun _ => False) w w1 := ((Fr.refl _ _).drew).trans f1 fun _ _ => id
  have hle : w.heap.size ≤ e := hle
  have hb1 : bk w1 rb = some L := dr.bk_some hblk id
  have lr := bk_lt h.blk
  simp at he
  simp [he, hew, hb1, c23, c24, c25, bk_sto]
  have hs1 : bk (sto w1 e 0 [Value.int .i64 x.job, Value.int .i64 x.kind, Value.int .i64 x.ver, Value.int .i64 o, Value.slice none 0 0, Value.slice none 0 0]) e = some [Value.int .i64 x.job, Value.int .i64 x.kind, Value.int .i64 x.ver, Value.int .i64 o, Value.slice none 0 0, Value.slice none 0 0] := by simp [he]
  have hsw : wr (sto w1 e 0 [Value.int .i64 x.job, Value.int .i64 x.kind, Value.int .i64 x.ver, Value.int .i64 o, Value.slice none 0 0, Value.slice none 0 0]) e = true := by simp [hew]
  have f2 : Fr (fun _ => False) w (sto w1 e 0 [Value.int .i64 x.job, Value.int .i64 x.kind, Value.int .i64 x.ver, Value.int .i64 o, Value.slice none 0 0, Value.slice none 0 0]) := dr.sto (.inr hle) _ _
  generalize sto w1 e 0 [Value.int .i64 x.job, Value.int .i64 x.kind, Value.int .i64 x.ver, Value.int .i64 o, Value.slice none 0 0, Value.slice none 0 0] = w2 at *
  have le2 := bk_lt hs1
  have z : ∀ c, w.heap.size ≤ c → tag c = 0 := fun c hc => h.tag0 hc
  refine Run_for p.said.length (fun i l w3 => l = [.int .i64 i] ∧ ∃ hs ms, bk w3 e = some [Value.int .i64 x.job, Value.int .i64 x.kind, Value.int .i64 x.ver, Value.int .i64 o, hs, ms] ∧ wr w3 e = true ∧ Fr (fun c => c = e) w2 w3 ∧
      SlW 1 w3 hs (elI (p.holds.take i)) ∧ SlW 1 w3 ms (elI (missK p.said i)) ∧ New w2 w3 hs ∧ New w2 w3 ms ∧ (∀ c, inB hs c → ¬ inB ms c)) ⟨rfl, _, _, hs1, hsw, Fr.refl _ _, SlW.nil _ _, SlW.nil _ _, (fun _ h => h.elim), (fun _ h => h.elim), fun _ h => h.elim⟩ ?_ ?_
  · rintro i _ w3 hi ⟨rfl, hs, ms, hb3, hw3, f3, s3, m3, ns, nm, ap⟩
    have fw : Fr (fun _ => False) w w3 := f2.trans f3 fun c hc he => by omega
    have hr3 := fw.bk_some hblk id
    have hs3 := (hp.said.fr fw fun _ _ => id).1
    have hh3 := (hp.held.fr fw fun _ _ => id).1
    have hih : i < p.holds.length := by omega
    have es : (elB p.said)[i]? = some [.bool p.said[i]] := by rw [elB_get, List.getElem?_eq_getElem hi]; rfl
    have eh : (elI p.holds)[i]? = some [.int .i64 p.holds[i]] := by rw [elI_get, List.getElem?_eq_getElem hih]; rfl
    obtain ⟨qh, qh1, qh2⟩ := hh3.rd1 (i := i) (y := .int .i64 p.holds[i]) eh .i64
    have hsl := hs3.lenL
    simp at hsl
    have wk := wrap_succ (n := i) (by omega)
    have d3 : Fr (fun _ => False) w3 w3.drew := (Fr.refl _ _).drew
    simp [hr3, c29, c30, hsl, hi, hb3, qh1, qh2]
    refine Run_app1 (k := 1) (y := .int .i64 p.holds[i]) rfl (s3.fr d3 fun _ _ => id) (by decide) rfl (by decide) rfl (by simp; omega) fun r w4 s4 f4 hin w31 f31 => ?_
    have f4' : Fr (inB hs) w3 w4 := (d3.mono fun _ h => h.elim).trans f4 fun _ _ h => h
    have nr : ∀ c, inB r c → w2.heap.size ≤ c ∧ c < w4.heap.size := fun c hc => by
      rcases hin c hc with h | h
      · exact ⟨(ns c h).1, Nat.lt_of_lt_of_le (ns c h).2 f4'.size⟩
      · exact ⟨Nat.le_trans (Nat.le_trans f3.size d3.size) h.1, h.2⟩
    have hne : ¬ inB hs e := fun hc => by have := (ns _ hc).1; omega
    have hb4 := f4'.bk_some hb3 hne
    have hw4 : wr w4 e = true := by rw [f4'.wr (bk_lt hb3) hne]; exact hw3
    have hb31 := f31.bk_some (d3.bk_some hb3 id) id
    have hrc := cells_of_isCell s4.1.isCell
    have f4e : Fr (fun c => c = e) w2 w4 := f3.trans f4' fun c hc h => by have := (ns c h).1; omega
    have fw4 : Fr (fun _ => False) w w4 := f2.trans f4e fun c hc he => by omega
    have hb4' : bk (sto w4 e 4 [r]) e = some [Value.int .i64 x.job, Value.int .i64 x.kind, Value.int .i64 x.ver, Value.int .i64 o, r, ms] := by simp [hb4]
    have hw4' : wr (sto w4 e 4 [r]) e = true := by simp [hw4]
    have g4 : Fr (fun c => c = e) w4 (sto w4 e 4 [r]) := (Fr.refl (fun c => c = e) w4).sto (.inl rfl) _ _
    simp [hrc, hb4, hw4, hb31]
    refine ⟨s4.1.isCell, ?_⟩
    have s5 := s4.fr g4 fun c hc he => by have := (nr c hc).1; omega
    have m5 := (m3.fr f4' fun c hc hs => ap c hs hc).fr g4 fun c hc he => by have := (nm c hc).1; omega
    have fw5 : Fr (fun _ => False) w (sto w4 e 4 [r]) := fw4.trans g4 fun c hc he => by have := fw.size; omega
    have f5e : Fr (fun c => c = e) w2 (sto w4 e 4 [r]) := f4e.trans g4 fun _ _ h => h
    have l45 := g4.size
    have ap5 : ∀ c, inB r c → ¬ inB ms c := fun c h1 h2 => by
      rcases hin c h1 with h | h
      · exact ap c h h2
      · have := (nm c h2).2; have := d3.size; omega
    have l34 := f4'.size
    generalize sto w4 e 4 [r] = w5 at *
    have hr5 := fw5.bk_some hblk id
    have hs5 := (hp.said.fr fw5 fun _ _ => id).1
    obtain ⟨qs, qs1, qs2⟩ := hs5.rd1 (i := i) (y := .bool p.said[i]) es .i64
    have eg : p.said[i]?.getD true = p.said[i] := by rw [List.getElem?_eq_getElem hi]; rfl
    have hm := missK_succ p.said i
    rw [eg] at hm
    have et : elI (p.holds.take (i + 1)) = elI (p.holds.take i) ++ [[.int .i64 p.holds[i]]] := by
      rw [List.take_add_one, List.getElem?_eq_getElem hih, elI_app]; rfl
    simp [hr5, c29, qs1, qs2]
    cases hsi : p.said[i] with
    | true =>
      rw [hsi] at hm
      simp at hm
      simp [wk]
      refine ⟨r, ms, hb4', hw4', f5e, by rw [et]; exact s5, by rw [hm]; exact m5, fun c hc => ⟨(nr c hc).1, Nat.lt_of_lt_of_le (nr c hc).2 l45⟩, fun c hc => ⟨(nm c hc).1, by have := (nm c hc).2; omega⟩, ap5⟩
    | false =>
      rw [hsi] at hm
      simp at hm
      simp [hb4']
      have hml := missK_len p.said i
      refine Run_app1 (k := 1) (y := .int .i64 i) rfl m5 (by decide) rfl (by decide) rfl (by simp; omega) fun r6 w6 s6 f6 hin6 _ _ => ?_
      have nr6 : ∀ c, inB r6 c → w2.heap.size ≤ c ∧ c < w6.heap.size := fun c hc => by
        rcases hin6 c hc with h | h
        · exact ⟨(nm c h).1, by have := (nm c h).2; have := f6.size; omega⟩
        · exact ⟨by have := f5e.size; omega, h.2⟩
      have hne6 : ¬ inB ms e := fun hc => by have := (nm _ hc).1; omega
      have hb6 := f6.bk_some hb4' hne6
      have hw6 : wr w6 e = true := by rw [f6.wr (bk_lt hb4') hne6]; exact hw4'
      have hrc6 := cells_of_isCell s6.1.isCell
      have g6 : Fr (fun c => c = e) w6 (sto w6 e 5 [r6]) := (Fr.refl (fun c => c = e) w6).sto (.inl rfl) _ _
      simp [hrc6, hb6, hw6, wk]
      refine ⟨s6.1.isCell, r, r6, ⟨rfl, rfl⟩, (f5e.trans f6 fun c hc h => by have := (nm c h).1; omega).trans g6 fun _ _ h => h, ?_, ?_, ?_, ?_, ?_⟩
      · rw [et]
        refine (s5.fr f6 fun c h1 h2 => ap5 c h1 h2).fr g6 fun c hc he => by have := (nr c hc).1; omega
      · rw [hm, elI_app]
        exact s6.fr g6 fun c hc he => by have := (nr6 c hc).1; omega
      · exact fun c hc => ⟨(nr c hc).1, by have := (nr c hc).2; have := f6.size; have := g6.size; omega⟩
      · exact fun c hc => ⟨(nr6 c hc).1, Nat.lt_of_lt_of_le (nr6 c hc).2 g6.size⟩
      · intro c h1 h2
        rcases hin6 c h2 with h | h
        · exact ap5 c h1 h
        · have := (nr c h1).2; have := h.1; omega
  · rintro _ w3 ⟨rfl, hs, ms, hb3, hw3, f3, s3, m3, ns, nm, ap⟩
    have fw : Fr (fun _ => False) w w3 := f2.trans f3 fun c hc he => by omega
    have hr3 := fw.bk_some hblk id
    have hs3 := (hp.said.fr fw fun _ _ => id).1
    have hsl := hs3.lenL
    simp at hsl
    have hwr3 : wr w3 rb = true := by rw [fw.wr lr id]; exact h.wr
    have ner : rb ≠ e := by omega
    simp [hr3, c29, hsl, hb3, hwr3, s3.1.isCell, m3.1.isCell]
    refine ⟨fun j hj => ?_, by omega, by omega, by omega, ?_⟩
    · rcases (by omega : j = 0 ∨ j = 1 ∨ j = 2 ∨ j = 3 ∨ j = 4 ∨ j = 5) with rfl | rfl | rfl | rfl | rfl | rfl
      · rfl
      · rfl
      · rfl
      · rfl
      · exact s3.1.isCell
      · exact m3.1.isCell
    have hb4 : bk (sto (sto (sto w3 rb 32 [Value.int .i64 x.job, Value.int .i64 x.kind, Value.int .i64 x.ver, Value.int .i64 o, hs, ms]) rb 31 [Value.bool true]) rb 26 [Value.int .i64 0]) rb = some (C.cells v.nv ++ (x.endS p o).1.rcells { v with lh := hs, lm := ms }) := by
      rw [bk_sto_eq, bk_sto_eq, bk_sto_eq, hr3]
      simp only [Option.map_some, hend]
    have hw4 : wr (sto (sto (sto w3 rb 32 [Value.int .i64 x.job, Value.int .i64 x.kind, Value.int .i64 x.ver, Value.int .i64 o, hs, ms]) rb 31 [Value.bool true]) rb 26 [Value.int .i64 0]) rb = true := by simp [hwr3]
    have f4 : Fr (fun c => c = rb) w3 (sto (sto (sto w3 rb 32 [Value.int .i64 x.job, Value.int .i64 x.kind, Value.int .i64 x.ver, Value.int .i64 o, hs, ms]) rb 31 [Value.bool true]) rb 26 [Value.int .i64 0]) :=
      (((Fr.refl (fun c => c = rb) w3).sto (.inl rfl) _ _).sto (.inl rfl) _ _).sto (.inl rfl) _ _
    generalize sto (sto (sto w3 rb 32 [Value.int .i64 x.job, Value.int .i64 x.kind, Value.int .i64 x.ver, Value.int .i64 o, hs, ms]) rb 31 [Value.bool true]) rb 26 [Value.int .i64 0] = w4 at *
    have l2 := f2.size
    have l3 := f3.size
    have l4 := f4.size
    refine ⟨(fw.mono fun _ h => h.elim).trans (f4.mono fun c he => ?_) fun _ _ h => h, ⟨{ v with lh := hs, lm := ms }, rendTag tag hs ms, ⟨hb4, hw4, ?_, fun c hc => ?_, h.n, h.r, h.l, h.pt, h.nl, h.nvc, ⟨?_, fun c hc => ?_⟩, ⟨?_, fun c hc => ?_⟩, fun q hq => by cases hq⟩, fun c hc => ?_, fun _ h => h.elim⟩, SlW.nil _ _, fun _ h => h.elim⟩
    · rw [he, h.tb]; decide
    · simp [rendTag, h.tb]
    · unfold rendTag at hc
      have := (h.bound rb (by rw [h.tb]; decide)).1
      split at hc
      · rename_i h1; have := h.bound c (by omega); omega
      · split at hc
        · rename_i h1
          rcases h1 with h1 | h1
          · have := ns c h1; omega
          · have := nm c h1; omega
        · exact absurd rfl hc
    · have s3' := s3.1
      rw [← hn.2, List.take_length] at s3'
      exact s3'.fr f4 fun c hc he => by have := (ns c hc).1; omega
    · have := z c (by have := (ns c hc).1; omega)
      simp [rendTag, this, hc]
    · exact m3.1.fr f4 fun c hc he => by have := (nm c hc).1; omega
    · have := z c (by have := (nm c hc).1; omega)
      simp [rendTag, this, hc]
    · unfold rendTag at hc
      split at hc
      · rename_i h1; left; rw [h1]; decide
      · split at hc
        · rename_i h1
          right
          rcases h1 with h1 | h1
          · have := ns c h1; omega
          · have := nm c h1; omega
        · exact absurd rfl hc
end
end Go.Proofs.YtpiceodfdjihhaaGreatDoor

/-
  The document's controller, part D: answers are taken.
-/
namespace Go.Proofs.YtpiceodfdjihhaaGreatDoor
open Go.Lift
set_option linter.unusedSimpArgs false
/-- Does the message count? -/
def CS.countsS (x : CS) (m : Ms) : Bool := match x.now with
  | none => false
  | some p => decide (0 ≤ m.sender) && (decide (m.sender < x.n) && (decide (m.id = x.job) && x.fits p m))
section
variable {w w' : World} {rb : Nat} {C : Clu} {x : CS} {v : RV} {tag : Nat → Nat} {p : Ph} {ph : Int}
theorem rcounts_run (hg : Glob w) (h : RefC w rb C x v tag) (hn : x.n ≤ 64) (hk : ∀ p, x.now = some p → 1 ≤ p.kind ∧ p.kind ≤ 4) (m : Ms) :
    Run (F.granaryref15_Control_counts (.pointer (some ⟨rb, 0, none⟩)) m.val) w fun r w' => r = .bool (x.countsS m) ∧ Fr (fun _ => False) w w' := by
  unfold F.granaryref15_Control_counts
  obtain ⟨c22, c23, c24, c25, c26, c27, c28, c29, c30, c31⟩ := rc_gets C v.nv (x.rcells v)
  have c23 : (C.cells v.nv ++ x.rcells v)[23]? = some (.int .i64 x.job) := c23
  have c25 : (C.cells v.nv ++ x.rcells v)[25]? = some (.int .i64 x.ver) := c25
  have c26 : (C.cells v.nv ++ x.rcells v)[26]? = some (.int .i64 x.phase) := c26
  have hblk := h.blk
  have hnl := h.nl
  generalize C.cells v.nv ++ x.rcells v = L at c22 c23 c25 c26 hblk
  simp [Ms.val]
  refine Run_new fun c w1 hc hcw f1 hle => ?_
  have hc1 : bk w1 c = some m.cells := hc
  have d1 : Fr (fun _ => False) w1 w1.drew := (Fr.refl _ _).drew
  have hle : w.heap.size ≤ c := hle
  have hb1 := f1.bk_some hblk id
  have g1 := hg.fr0 f1
  have fd : Fr (fun _ => False) w w1.drew := f1.trans d1 fun _ _ => id
  have fdd : Fr (fun _ => False) w w1.drew.drew := fd.drew
  have m0 : m.cells[0]? = some (.int .i64 m.kind) := rfl
  have m1 : m.cells[1]? = some (.int .i64 m.sender) := rfl
  have m3 : m.cells[3]? = some (.int .i64 m.id) := rfl
  have m4 : m.cells[4]? = some (.int .i64 m.epoch) := rfl
  have m5 : m.cells[5]? = some (.int .i64 m.seq) := rfl
  have m6 : m.cells[6]? = some (.int .i64 m.version) := rfl
  have m8 : m.cells[8]? = some (.int .i64 m.code) := rfl
  unfold CS.countsS
  cases hx : x.now with
  | none =>
    have hp0 : x.phase = 0 := by unfold CS.phase; rw [hx]
    rw [hp0] at c26
    simp [hb1, hc1, c26]
    exact fd
  | some p =>
    have hpk : x.phase = p.kind := by unfold CS.phase; rw [hx]
    rw [hpk] at c26
    have hk := hk p hx
    have hk0 : ¬ (p.kind = 0) := by omega
    have hk5 : (p.kind : Int) < 5 := by omega
    have ga : bk w1 0 = some answeredV := g1.answered
    obtain ⟨s, hs, hsv⟩ : ∃ s, answeredV[p.kind]? = some (.int .i64 s) ∧ s = 2 * p.kind + 2 := by
      rcases (by omega : p.kind = 1 ∨ p.kind = 2 ∨ p.kind = 3 ∨ p.kind = 4) with e | e | e | e <;> rw [e] <;> exact ⟨_, rfl, rfl⟩
    simp only []
    by_cases h1 : 0 ≤ m.sender
    · by_cases h2 : m.sender < x.n
      · by_cases h3 : m.kind = 2 * p.kind + 2
        · by_cases h4 : m.id = x.job
          · have h1' : ¬ m.sender < 0 := by omega
            have h2' : ¬ (x.n : Int) ≤ m.sender := by omega
            rw [← hsv] at h3
            rcases (by omega : p.kind = 1 ∨ p.kind = 2 ∨ p.kind = 3 ∨ p.kind = 4) with e | e | e | e
            · rw [e] at c26 hs hsv
              by_cases h5 : m.epoch = x.job <;> by_cases h6 : m.version = x.ver <;> simp [hb1, hc1, c26, c22, c23, c25, hnl, m0, m1, m3, m4, m5, m6, m8, hk5, hk0, ga, hs, CS.fits, e, h1, h2, fd, fdd, h1', h2', h3, h4, h5, h6, ← hsv] <;> (rw [hsv]; rfl)
            · rw [e] at c26 hs hsv
              by_cases h5 : m.epoch = x.job <;> by_cases h7 : m.seq = 1 <;> by_cases h8 : m.code = 0 <;> by_cases h6 : m.version = x.ver <;> simp [hb1, hc1, c26, c22, c23, c25, hnl, m0, m1, m3, m4, m5, m6, m8, hk5, hk0, ga, hs, CS.fits, e, h1, h2, fd, fdd, h1', h2', h3, h4, h5, h6, h7, h8, ← hsv] <;> (rw [hsv]; rfl)
            · rw [e] at c26 hs hsv
              by_cases h5 : m.epoch = x.job <;> by_cases h7 : m.seq = 2 <;> simp [hb1, hc1, c26, c22, c23, c25, hnl, m0, m1, m3, m4, m5, m6, m8, hk5, hk0, ga, hs, CS.fits, e, h1, h2, fd, fdd, h1', h2', h3, h4, h5, h7, ← hsv] <;> (rw [hsv]; rfl)
            · rw [e] at c26 hs hsv
              simp [hb1, hc1, c26, c22, c23, c25, hnl, m0, m1, m3, m4, m5, m6, m8, hk5, hk0, ga, hs, CS.fits, e, h1, h2, fd, fdd, h1', h2', h3, h4, ← hsv] <;> (rw [hsv]; rfl)
          · have h1' : ¬ m.sender < 0 := by omega
            have h2' : ¬ (x.n : Int) ≤ m.sender := by omega
            rw [← hsv] at h3
            simp [hb1, hc1, c26, c22, c23, c25, hnl, m0, m1, m3, m4, m5, m6, m8, hk5, hk0, ga, hs, CS.fits, h1, h2, fd, fdd, h1', h2', h3, h4]
        · have h1' : ¬ m.sender < 0 := by omega
          have h2' : ¬ (x.n : Int) ≤ m.sender := by omega
          have h3' : ¬ m.kind = s := by rw [hsv]; exact h3
          simp [hb1, hc1, c26, c22, c23, c25, hnl, m0, m1, m3, m4, m5, m6, m8, hk5, hk0, ga, hs, CS.fits, h1, h2, fd, fdd, h1', h2', h3', h3]
      · have h1' : ¬ m.sender < 0 := by omega
        have h2' : (x.n : Int) ≤ m.sender := by omega
        simp [hb1, hc1, c26, c22, c23, c25, hnl, m0, m1, m3, m4, m5, m6, m8, hk5, hk0, ga, hs, CS.fits, h1, h2, fd, fdd, h1', h2']
    · have h1' : m.sender < 0 := by omega
      simp [hb1, hc1, c26, c22, c23, c25, hnl, m0, m1, m3, m4, m5, m6, m8, hk5, hk0, ga, hs, CS.fits, h1, fd, fdd, h1']
end
end Go.Proofs.YtpiceodfdjihhaaGreatDoor

/-
  The document's controller, part E: Take.
-/
namespace Go.Proofs.YtpiceodfdjihhaaGreatDoor
open Go.Lift
set_option linter.unusedSimpArgs false
/-- What a call answers. -/
def RGot (w w' : World) (rb : Nat) (C : Clu) (tag : Nat → Nat) (a : Ans) (res : Value) : Prop := ∃ r, res = .tuple #[r, .int .i64 a.err] ∧ RDid w w' rb C tag a.x r a.out
section
variable {w w' : World} {rb : Nat} {C : Clu} {x : CS} {v : RV} {tag : Nat → Nat} {p : Ph} {ph : Int}
theorem RefC.setSaid (h : RefC w rb C x v tag) (hx : x.now = some p) {i : Nat} (hi : i < p.said.length) :
    ∃ q o, idxA 1 v.said (.int .i64 i) = some (.pointer (some ⟨q, o, none⟩)) ∧ okAt w q o 1 ∧ Fr (fun c => tag c ≠ 0) w (sto w q o [.bool true]) ∧ RefC (sto w q o [.bool true]) rb C { x with now := some { p with said := p.said.set i true } } v tag := by
  have hp := h.now p hx
  have es : (elB p.said)[i]? = some [.bool p.said[i]] := by rw [elB_get, List.getElem?_eq_getElem hi]; rfl
  obtain ⟨q, o, c1, c2, c3, c4, c5⟩ := hp.said.put es .i64
  obtain ⟨c6, c7⟩ := c5 0 [.bool true] (by simp)
  have hq : tag q = 12 := hp.ts q c2
  have f : Fr (fun c => c = q) w (sto w q o [.bool true]) := (Fr.refl (fun c => c = q) w).sto (.inl rfl) _ _
  have hF : ∀ c, c = q → tag c = 12 := fun c he => by rw [he]; exact hq
  have hb : rb ≠ q := fun he => by have := h.tb; rw [he, hq] at this; cases this
  refine ⟨q, o, c1, c4, (Fr.refl (fun c => tag c ≠ 0) w).sto (.inl (by rw [hq]; decide)) _ _, ⟨?_, ?_, h.tb, fun c hc => ⟨(h.bound c hc).1, Nat.lt_of_lt_of_le (h.bound c hc).2 f.size⟩, h.n, h.r, h.l, h.pt, h.nl, h.nvc, ?_, ?_, fun r hr => ?_⟩⟩
  · rw [show (({ x with now := some { p with said := p.said.set i true } } : CS).rcells v) = x.rcells v from by simp [CS.rcells, CS.phase, hx]]
    exact f.bk_some h.blk hb
  · rw [f.wr (bk_lt h.blk) hb]; exact h.wr
  · exact ⟨h.lh.1.fr f fun c hc he => (by have := h.lh.2 c hc; rw [hF c he] at this; cases this), h.lh.2⟩
  · exact ⟨h.lm.1.fr f fun c hc he => (by have := h.lm.2 c hc; rw [hF c he] at this; cases this), h.lm.2⟩
  · cases hr
    refine ⟨hp.tk, hp.sd, hp.sd1, ?_, hp.ts, hp.held.fr f fun c hc he => (by have := hp.th c hc; rw [hF c he] at this; cases this), hp.th⟩
    rw [elB_set _ _ _ _ rfl] at c7
    exact c7
theorem RefC.setHeld (h : RefC w rb C x v tag) (hx : x.now = some p) {i : Nat} (hi : i < p.holds.length) (n : Int) :
    ∃ q o, idxA 1 v.held (.int .i64 i) = some (.pointer (some ⟨q, o, none⟩)) ∧ okAt w q o 1 ∧ Fr (fun c => tag c ≠ 0) w (sto w q o [.int .i64 n]) ∧ RefC (sto w q o [.int .i64 n]) rb C { x with now := some { p with holds := p.holds.set i n } } v tag := by
  have hp := h.now p hx
  have es : (elI p.holds)[i]? = some [.int .i64 p.holds[i]] := by rw [elI_get, List.getElem?_eq_getElem hi]; rfl
  obtain ⟨q, o, c1, c2, c3, c4, c5⟩ := hp.held.put es .i64
  obtain ⟨c6, c7⟩ := c5 0 [.int .i64 n] (by simp)
  have hq : tag q = 13 := hp.th q c2
  have f : Fr (fun c => c = q) w (sto w q o [.int .i64 n]) := (Fr.refl (fun c => c = q) w).sto (.inl rfl) _ _
  have hF : ∀ c, c = q → tag c = 13 := fun c he => by rw [he]; exact hq
  have hb : rb ≠ q := fun he => by have := h.tb; rw [he, hq] at this; cases this
  refine ⟨q, o, c1, c4, (Fr.refl (fun c => tag c ≠ 0) w).sto (.inl (by rw [hq]; decide)) _ _, ⟨?_, ?_, h.tb, fun c hc => ⟨(h.bound c hc).1, Nat.lt_of_lt_of_le (h.bound c hc).2 f.size⟩, h.n, h.r, h.l, h.pt, h.nl, h.nvc, ?_, ?_, fun r hr => ?_⟩⟩
  · rw [show (({ x with now := some { p with holds := p.holds.set i n } } : CS).rcells v) = x.rcells v from by simp [CS.rcells, CS.phase, hx]]
    exact f.bk_some h.blk hb
  · rw [f.wr (bk_lt h.blk) hb]; exact h.wr
  · exact ⟨h.lh.1.fr f fun c hc he => (by have := h.lh.2 c hc; rw [hF c he] at this; cases this), h.lh.2⟩
  · exact ⟨h.lm.1.fr f fun c hc he => (by have := h.lm.2 c hc; rw [hF c he] at this; cases this), h.lm.2⟩
  · cases hr
    refine ⟨hp.tk, hp.sd, hp.sd1, hp.said.fr f fun c hc he => (by have := hp.ts c hc; rw [hF c he] at this; cases this), hp.ts, ?_, hp.th⟩
    rw [elI_setL _ _ _ _ rfl] at c7
    exact c7
theorem RefC.gets (h : RefC w rb C x v tag) : ∃ L, bk w rb = some L ∧ L.length = 38 ∧ L[22]? = some v.nv ∧ L[23]? = some (.int .i64 x.job) ∧ L[24]? = some (.int .i64 x.kind) ∧ L[25]? = some (.int .i64 x.ver) ∧ L[26]? = some (.int .i64 x.phase) ∧ L[27]? = some (.int .i64 v.tk) ∧ L[28]? = some (.int .i64 v.sd) ∧ L[29]? = some v.said ∧ L[30]? = some v.held ∧ L[31]? = some (.bool x.ended) := by
  obtain ⟨c22, c23, c24, c25, c26, c27, c28, c29, c30, c31⟩ := rc_gets C v.nv (x.rcells v)
  exact ⟨_, h.blk, rfl, c22, c23, c24, c25, c26, c27, c28, c29, c30, c31⟩
theorem CS.phase_some (hx : x.now = some p) : x.phase = p.kind := by unfold CS.phase; rw [hx]
theorem CS.phase_none (hx : x.now = none) : x.phase = 0 := by unfold CS.phase; rw [hx]
theorem rtake_run (hg : Glob w) (h : RefC w rb C x v tag) (hok : COk x) (m : Ms) (hm : m.fine) :
    Run (F.granaryref15_Control_Take (.pointer (some ⟨rb, 0, none⟩)) m.val) w fun r w' => RGot w w' rb C tag ⟨(x.takeS m).1, (x.takeS m).2, 0⟩ r := by
  unfold F.granaryref15_Control_Take
  simp [Ms.val]
  refine Run_new fun c w1 hc hcw f1 hle => ?_
  have hc' : bk w1 c = some m.cells := hc
  have mlen : m.cells.length = 11 := rfl
  have fd : Fr (fun _ => False) w w1.drew := f1.drew
  simp [hc', mlen]
  refine (rcounts_run (hg.fr0 fd) (h.fr0 fd) hok.n.2 (fun p hp => (hok.now p hp).kind) m).mono ?_
  rintro _ w2 ⟨rfl, f2⟩
  have f02 : Fr (fun _ => False) w w2 := fd.trans f2 fun _ _ => id
  have hC := h.fr0 f02
  cases hcs : x.countsS m with
  | false =>
    have : x.takeS m = (x, []) := by
      unfold CS.takeS; unfold CS.countsS at hcs
      cases hx : x.now with
      | none => rfl
      | some p =>
        rw [hx] at hcs
        simp only [Bool.and_eq_false_iff, decide_eq_false_iff_not] at hcs
        simp only
        rw [if_pos]
        rintro ⟨q1, q2, q3, q4⟩
        rcases hcs with h | h | h | h
        · exact h q1
        · exact h q2
        · exact h q3
        · rw [q4] at h; cases h
    rw [this]
    simp
    exact ⟨_, rfl, RDid.none h f02⟩
  | true =>
    cases hx : x.now with
    | none => unfold CS.countsS at hcs; rw [hx] at hcs; cases hcs
    | some p =>
    unfold CS.countsS at hcs
    rw [hx] at hcs
    simp only [Bool.and_eq_true, decide_eq_true_eq] at hcs
    obtain ⟨a1, a2, a3, hfit⟩ := hcs
    have hp := hok.now p hx
    have hn := hok.n.2
    have m0 : m.cells[0]? = some (.int .i64 m.kind) := rfl
    have m1 : m.cells[1]? = some (.int .i64 m.sender) := rfl
    have m6 : m.cells[6]? = some (.int .i64 m.version) := rfl
    have m8 : m.cells[8]? = some (.int .i64 m.code) := rfl
    obtain ⟨i, hi⟩ : ∃ i : Nat, m.sender = i := ⟨m.sender.toNat, by omega⟩
    have hin : i < x.n := by omega
    have ht : m.sender.toNat = i := by omega
    have hc2 : bk w2 c = some m.cells := f2.bk_some hc' id
    have hcond : ¬ ¬ (0 ≤ m.sender ∧ m.sender < x.n ∧ m.id = x.job ∧ x.fits p m = true) := fun hh => hh ⟨by omega, by omega, a3, hfit⟩
    have esaid : p.said[i]? = some (p.said[i]'(by rw [hp.said]; exact hin)) := List.getElem?_eq_getElem _
    obtain ⟨q, q1, q2⟩ := (hC.now p hx).said.1.rd1 (i := i) (y := .bool (p.said[i]'(by rw [hp.said]; exact hin))) (by rw [elB_get, esaid]; rfl) .i64
    obtain ⟨L, hb2, hL, c22, c23, c24, c25, c26, c27, c28, c29, c30, c31⟩ := hC.gets
    rw [CS.phase_some hx] at c26
    simp [hb2, c29, hc2, m1, hi, q1, q2]
    refine Run_cond (fun hs => ?_) (fun hs => ?_)
    · rw [show x.takeS m = (x, []) from by unfold CS.takeS; rw [hx]; simp only; rw [if_neg hcond, ht, esaid, if_pos (by rw [hs])]]
      simp
      exact ⟨_, rfl, RDid.none h f02⟩
    have hsaid : ¬ p.said[m.sender.toNat]? = some true := by rw [ht, esaid, hs]; simp
    have hsn : p.said.length ≤ 64 := by rw [hp.said]; exact hn
    have g2 : Glob w2 := hg.fr0 f02
    simp [hc2, m8]
    by_cases hcode : m.code = 0
    case neg =>
      rw [show x.takeS m = x.refusedS p from by unfold CS.takeS; rw [hx]; simp only; rw [if_neg hcond, if_neg hsaid, if_pos hcode]]
      unfold CS.refusedS
      have hback : Run (F.granaryref15_Control_begin (.pointer (some ⟨rb, 0, none⟩)) (.int .i64 3)) w2 fun r w' => RDid w2 w' rb C tag (x.enterS 3).1 r (x.enterS 3).2 := rbegin_run g2 hC.c0 (k := 3) (by omega) hok.n
      rcases (by have := hp.kind; omega : p.kind = 1 ∨ p.kind = 2 ∨ p.kind = 3 ∨ p.kind = 4) with e | e | e | e
      · simp [hcode, hb2, c26, e]
        exact hback.mono fun r w' hd => ⟨r, rfl, hd.sub (f02.mono fun _ h => h.elim)⟩
      · simp [hcode, hb2, c26, e]
        exact hback.mono fun r w' hd => ⟨r, rfl, hd.sub (f02.mono fun _ h => h.elim)⟩
      · simp [hcode, hb2, c26, e]
        exact ⟨_, rfl, RDid.none h f02⟩
      · simp [hcode, hb2, c26, e]
        exact ⟨_, rfl, RDid.none h f02⟩
    have hC2 : RefC w2.drew rb C x v tag := hC.fr0 (Fr.refl _ _).drew
    obtain ⟨q3, o3, i3, ok3, f3, hC3⟩ := hC2.setSaid hx (i := i) (by rw [hp.said]; exact hin)
    simp [hcode, hb2, hc2, c29, m1, hi, i3]
    have hok3 : (∃ l, bk w2 q3 = some l ∧ o3 + 1 ≤ l.length) ∧ wr w2 q3 = true := ok3
    have fw3 : Fr (fun c => tag c ≠ 0) w (sto w2.drew q3 o3 [Value.bool true]) := (f02.drew.mono fun _ h => h.elim).trans f3 fun _ _ h => h
    have hc3 : bk (sto w2.drew q3 o3 [Value.bool true]) c = some m.cells := f3.bk_some hc2 fun h' => by have := h.bound c h'; have : w.heap.size ≤ c := hle; omega
    have htk : p.take m = { p with said := p.said.set i true, holds := if p.kind = 1 then p.holds else p.holds.set i m.version } := by unfold Ph.take; rw [ht]
    generalize sto w2.drew q3 o3 [Value.bool true] = w3 at *
    refine ⟨hok3.1, hok3.2, ?_⟩
    obtain ⟨L3, hb3, hL3, d22, d23, d24, d25, d26, d27, d28, d29, d30, d31⟩ := hC3.gets
    have d26 : L3[26]? = some (.int .i64 p.kind) := d26
    simp [hb3, d26]
    refine Run.mono (Q := fun o w4 => o = Out.norm [] ∧ Fr (fun c => tag c ≠ 0) w w4 ∧ RefC w4 rb C { x with now := some (p.take m) } v tag) ?_ ?_
    · by_cases hp1 : p.kind = 1
      · simp [hp1]
        refine ⟨fw3, ?_⟩
        rw [htk, if_pos hp1]
        exact hC3
      · have hp1' : ¬ (p.kind : Int) = 1 := by omega
        obtain ⟨q5, o5, i5, ok5, f5, hC5⟩ := (hC3.fr0 (Fr.refl _ _).drew).setHeld rfl (i := i) (by rw [hp.holds]; exact hin) m.version
        have hok5 : (∃ l, bk w3 q5 = some l ∧ o5 + 1 ≤ l.length) ∧ wr w3 q5 = true := ok5
        simp [hp1', hb3, d30, hc3, m1, m6, hi, i5]
        refine ⟨hok5.1, hok5.2, fw3.drew.trans f5 fun _ _ h => h, ?_⟩
        rw [htk, if_neg hp1]
        exact hC5
    · rintro o w4 ⟨rfl, fw4, hC4⟩
      have hpt := hp.take m
      simp
      have hps : (p.take m).said.length = x.n := hpt.said
      have hxn := hok.n
      obtain ⟨L4, hb4, hL4, e22, e23, e24, e25, e26, e27, e28, e29, e30, e31⟩ := hC4.gets
      have e26 : L4[26]? = some (.int .i64 p.kind) := e26
      have hs4 := (hC4.now _ rfl).said.1
      have hsl := hs4.lenL
      simp at hsl
      have hkk : (p.take m).kind = p.kind := rfl
      have g4 : Glob w4 := hg.fr fw4 fun c hc => (h.bound c hc).1
      have hd1 := rend_run hC4 rfl ⟨by omega, by rw [hpt.holds, hpt.said]⟩ (o := 1)
      have hd2 := rend_run hC4 rfl ⟨by omega, by rw [hpt.holds, hpt.said]⟩ (o := 2)
      have hbeg : Run (F.granaryref15_Control_begin (.pointer (some ⟨rb, 0, none⟩)) (.int .i64 2)) w4 fun r w' => RDid w4 w' rb C tag (({ x with now := some (p.take m) } : CS).enterS 2).1 r (({ x with now := some (p.take m) } : CS).enterS 2).2 := rbegin_run g4 hC4.c0 (k := 2) (by omega) hok.n
      refine Run_for (p.take m).said.length (fun i l w5 => l = [.int .i64 i] ∧ w5 = w4 ∧ ∀ j, j < i → (p.take m).said[j]? ≠ some false) ⟨rfl, rfl, fun j hj => absurd hj (Nat.not_lt_zero _)⟩ ?_ ?_
      · rintro j _ _ hj ⟨rfl, rfl, hall⟩
        have es : (elB (p.take m).said)[j]? = some [.bool (p.take m).said[j]] := by rw [elB_get, List.getElem?_eq_getElem hj]; rfl
        obtain ⟨qs, qs1, qs2⟩ := hs4.rd1 (i := j) (y := .bool (p.take m).said[j]) es .i64
        have wk := wrap_succ (n := j) (by omega)
        simp [hb4, e29, hsl, hj, qs1, qs2]
        cases hsj : (p.take m).said[j] with
        | false =>
          simp
          have hcf : (p.take m).said.contains false = true := by
            rw [List.contains_iff_mem, ← hsj]; exact List.getElem_mem hj
          rw [show x.takeS m = ({ x with now := some (p.take m) }, []) from by unfold CS.takeS; rw [hx]; simp only; rw [if_neg hcond, if_neg hsaid, if_neg (by rw [hcode]; simp), if_pos hcf]]
          exact ⟨_, rfl, (RDid.none hC4 (Fr.refl _ _)).sub fw4⟩
        | true =>
          simp [wk]
          intro j' hj'
          rcases Nat.lt_or_eq_of_le (Nat.le_of_lt_succ hj') with h | rfl
          · exact hall j' h
          · rw [List.getElem?_eq_getElem hj, hsj]; simp
      · rintro _ _ ⟨rfl, rfl, hall⟩
        have hcf : (p.take m).said.contains false = false := by
          cases hc : (p.take m).said.contains false with
          | false => rfl
          | true =>
            rw [List.contains_iff_mem] at hc
            obtain ⟨j, hj, he⟩ := List.getElem_of_mem hc
            exact absurd (by rw [List.getElem?_eq_getElem hj, he]) (hall j hj)
        rw [show x.takeS m = ({ x with now := some (p.take m) } : CS).doneS (p.take m) from by unfold CS.takeS; rw [hx]; simp only; rw [if_neg hcond, if_neg hsaid, if_neg (by rw [hcode]; simp), if_neg (by rw [hcf]; simp)]]
        unfold CS.doneS
        rw [hkk]
        rcases (by have := hp.kind; omega : p.kind = 1 ∨ p.kind = 2 ∨ p.kind = 3 ∨ p.kind = 4) with e | e | e | e
        · simp [hb4, e29, hsl, e26, e]
          exact hbeg.mono fun r w' hd => ⟨r, rfl, hd.sub fw4⟩
        · simp [hb4, e29, hsl, e26, e]
          refine hd1.mono ?_
          rintro _ w' ⟨rfl, hd⟩
          exact ⟨_, rfl, hd.sub fw4⟩
        · simp [hb4, e29, hsl, e26, e]
          refine hd2.mono ?_
          rintro _ w' ⟨rfl, hd⟩
          exact ⟨_, rfl, hd.sub fw4⟩
        · simp [hb4, e29, hsl, e26, e]
          refine hd1.mono ?_
          rintro _ w' ⟨rfl, hd⟩
          exact ⟨_, rfl, hd.sub fw4⟩
end
end Go.Proofs.YtpiceodfdjihhaaGreatDoor

/-
  The document's controller, part F: Stop, Revive, Begin, Busy.
-/
namespace Go.Proofs.YtpiceodfdjihhaaGreatDoor
open Go.Lift
set_option linter.unusedSimpArgs false
section
variable {w w' : World} {rb : Nat} {C : Clu} {x : CS} {v : RV} {tag : Nat → Nat} {p : Ph} {ph : Int}
theorem RDid.sub2 {w1 : World} {tag1 : Nat → Nat} {x' : CS} {r : Value} {out : List Ms} (h : RDid w1 w' rb C tag1 x' r out) (f : Fr (fun c => tag c ≠ 0) w w1) (ht : ∀ c, tag1 c ≠ 0 → tag c ≠ 0 ∨ w.heap.size ≤ c) : RDid w w' rb C tag x' r out where
  fr := f.trans h.fr fun c hc h => (ht c h).resolve_right (by omega)
  ref := by
    obtain ⟨v', tag', h1, h2, h3⟩ := h.ref
    exact ⟨v', tag', h1, fun c hc => (h2 c hc).elim (ht c) fun h => .inr (Nat.le_trans f.size h), h3⟩
  out := h.out
  new := h.new.sub f
theorem rback_run (hg : Glob w) (h : RefC w rb C x v tag) (hok : COk x) : Run (F.granaryref15_Control_begin (.pointer (some ⟨rb, 0, none⟩)) (.int .i64 3)) w fun r w' => RDid w w' rb C tag (x.enterS 3).1 r (x.enterS 3).2 :=
  rbegin_run hg h.c0 (k := 3) (by omega) hok.n
theorem rstop_run (hg : Glob w) (h : RefC w rb C x v tag) (hok : COk x) : Run (F.granaryref15_Control_Stop (.pointer (some ⟨rb, 0, none⟩))) w fun r w' => RGot w w' rb C tag x.stopS r := by
  unfold F.granaryref15_Control_Stop
  obtain ⟨L, hb, hL, c22, c23, c24, c25, c26, c27, c28, c29, c30, c31⟩ := h.gets
  cases hx : x.now with
  | none =>
    rw [CS.phase_none hx] at c26
    simp [hb, c26]
    rw [show x.stopS = ⟨x, [], 151⟩ from by unfold CS.stopS; rw [hx]]
    exact ⟨_, rfl, RDid.none h (Fr.refl _ _)⟩
  | some p =>
    have hp := hok.now p hx
    have hn := hok.n
    rw [CS.phase_some hx] at c26
    rw [show x.stopS = ⟨(x.stoppedS p).1, (x.stoppedS p).2, 0⟩ from by unfold CS.stopS; rw [hx]]
    unfold CS.stoppedS
    rcases (by have := hp.kind; omega : p.kind = 1 ∨ p.kind = 2 ∨ p.kind = 3 ∨ p.kind = 4) with e | e | e | e
    · simp [hb, c26, e]
      exact (rback_run hg h hok).mono fun r w' hd => ⟨r, rfl, hd⟩
    · simp [hb, c26, e]
      exact (rback_run hg h hok).mono fun r w' hd => ⟨r, rfl, hd⟩
    · simp [hb, c26, e]
      exact ⟨_, rfl, RDid.none h (Fr.refl _ _)⟩
    · simp [hb, c26, e]
      refine (rend_run h hx ⟨by rw [hp.said]; omega, by rw [hp.said, hp.holds]⟩ 3).mono ?_
      rintro _ w' ⟨rfl, hd⟩
      exact ⟨_, rfl, hd⟩
theorem rrevive_run (hg : Glob w) (h : RefC w rb C x v tag) (hok : COk x) : Run (F.granaryref15_Control_Revive (.pointer (some ⟨rb, 0, none⟩))) w fun r w' => RGot w w' rb C tag x.reviveS r := by
  unfold F.granaryref15_Control_Revive
  obtain ⟨L, hb, hL, c22, c23, c24, c25, c26, c27, c28, c29, c30, c31⟩ := h.gets
  cases hx : x.now with
  | none =>
    rw [CS.phase_none hx] at c26
    simp [hb, c26]
    rw [show x.reviveS = ⟨x, [], 151⟩ from by unfold CS.reviveS; rw [hx]]
    exact ⟨_, rfl, RDid.none h (Fr.refl _ _)⟩
  | some p =>
    have hp := hok.now p hx
    have hn := hok.n
    rw [CS.phase_some hx] at c26
    have hl := hp.look
    by_cases e : p.kind = 4
    · have e3 : x.kind = 3 := hl.2 e
      rw [show x.reviveS = ⟨(x.endS (Ph.new 4 x.n) 3).1, [], 0⟩ from by unfold CS.reviveS; rw [hx]; simp [e3]]
      simp [hb, c26, e]
      have hbeg : Run (F.granaryref15_Control_begin (.pointer (some ⟨rb, 0, none⟩)) (.int .i64 4)) w fun r w' => RDid w w' rb C tag (x.enterS 4).1 r (x.enterS 4).2 := rbegin_run hg h.c0 (k := 4) (by omega) hn
      refine hbeg.mono ?_
      rintro r1 w1 hd1
      obtain ⟨v1, tag1, h1, t1, _⟩ := hd1.ref
      refine (rend_run h1 rfl ⟨by simpa [Ph.new] using hn.2, by simp [Ph.new]⟩ 3).mono ?_
      rintro _ w' ⟨rfl, hd⟩
      exact ⟨_, rfl, hd.sub2 hd1.fr t1⟩
    · have e3 : ¬ x.kind = 3 := fun h => e (hl.1 h)
      rw [show x.reviveS = ⟨(x.enterS 3).1, (x.enterS 3).2, 0⟩ from by unfold CS.reviveS; rw [hx]; simp [e3]]
      have hk0 : ¬ p.kind = 0 := by have := hp.kind; omega
      have e' : ¬ (p.kind : Int) = 4 := by omega
      simp [hb, c26, e', hk0]
      exact (rback_run hg h hok).mono fun r w' hd => ⟨r, rfl, hd⟩
theorem rbusy_run (h : RefC w rb C x v tag) (hok : COk x) {Q : Value → World → Prop} : Run (F.granaryref15_Control_Busy (.pointer (some ⟨rb, 0, none⟩))) w Q ↔ Q (.bool x.now.isSome) w := by
  unfold F.granaryref15_Control_Busy
  obtain ⟨L, hb, hL, c22, c23, c24, c25, c26, c27, c28, c29, c30, c31⟩ := h.gets
  cases hx : x.now with
  | none =>
    rw [CS.phase_none hx] at c26
    simp [hb, c26]
  | some p =>
    have hp := hok.now p hx
    have hk0 : ¬ p.kind = 0 := by have := hp.kind; omega
    rw [CS.phase_some hx] at c26
    simp [hb, c26, hk0]
theorem rBegin_run (hg : Glob w) (h : RefC w rb C x v tag) (hok : COk x) (kind version : Int) :
    Run (F.granaryref15_Control_Begin (.pointer (some ⟨rb, 0, none⟩)) (.int .i64 kind) (.int .i64 version)) w fun r w' => RGot w w' rb C tag (x.beginS kind version) r := by
  unfold F.granaryref15_Control_Begin
  obtain ⟨L, hb, hL, c22, c23, c24, c25, c26, c27, c28, c29, c30, c31⟩ := h.gets
  cases hx : x.now with
  | some p =>
    have hp := hok.now p hx
    have hk0 : ¬ p.kind = 0 := by have := hp.kind; omega
    rw [CS.phase_some hx] at c26
    simp [hb, c26, hk0]
    rw [show x.beginS kind version = ⟨x, [], 150⟩ from by unfold CS.beginS; rw [hx]; rfl]
    exact ⟨_, rfl, RDid.none h (Fr.refl _ _)⟩
  | none =>
    rw [CS.phase_none hx] at c26
    have hs0 : ¬ (x.now.isSome = true) := by rw [hx]; simp
    simp [hb, c26]
    by_cases k1 : kind < 1
    · simp [k1]
      rw [show x.beginS kind version = ⟨x, [], 152⟩ from by unfold CS.beginS; rw [if_neg hs0, if_pos (by omega)]]
      exact ⟨_, rfl, RDid.none h (Fr.refl _ _)⟩
    by_cases k2 : 3 < kind
    · simp [k1, k2]
      rw [show x.beginS kind version = ⟨x, [], 152⟩ from by unfold CS.beginS; rw [if_neg hs0, if_pos (by omega)]]
      exact ⟨_, rfl, RDid.none h (Fr.refl _ _)⟩
    have k3 : ¬ ¬ (1 ≤ kind ∧ kind ≤ 3) := by omega
    by_cases b1 : (kind = 3 ∧ version ≠ 0) ∨ (kind ≠ 3 ∧ ¬ (1 ≤ version ∧ version ≤ 999999))
    · rw [show x.beginS kind version = ⟨x, [], 80⟩ from by unfold CS.beginS; rw [if_neg hs0, if_neg k3, if_pos b1]]
      rcases b1 with ⟨b1, b2⟩ | ⟨b1, b2⟩
      · subst b1
        simp [b2]
        exact ⟨_, rfl, RDid.none h (Fr.refl _ _)⟩
      · by_cases b3 : version < 1
        · simp [k1, k2, b1, b3]
          exact ⟨_, rfl, RDid.none h (Fr.refl _ _)⟩
        · have b4 : 999999 < version := by omega
          simp [k1, k2, b1, b3, b4]
          exact ⟨_, rfl, RDid.none h (Fr.refl _ _)⟩
    by_cases bj : 9007199254740992 ≤ x.job
    · rw [show x.beginS kind version = ⟨x, [], 3⟩ from by unfold CS.beginS; rw [if_neg hs0, if_neg k3, if_neg b1, if_pos bj]]
      by_cases e3 : kind = 3
      · have : version = 0 := by omega
        subst e3
        simp [this, hb, c23, bj]
        exact ⟨_, rfl, RDid.none h (Fr.refl _ _)⟩
      · have v1 : ¬ version < 1 := by omega
        have v2 : ¬ 999999 < version := by omega
        simp [k1, k2, e3, v1, v2, hb, c23, bj]
        exact ⟨_, rfl, RDid.none h (Fr.refl _ _)⟩
    rw [show x.beginS kind version = ⟨(({ x with job := x.job + 1, kind := kind, ver := version } : CS).enterS (if kind = 3 then 4 else kind.toNat)).1, (({ x with job := x.job + 1, kind := kind, ver := version } : CS).enterS (if kind = 3 then 4 else kind.toNat)).2, 0⟩ from by
      unfold CS.beginS; rw [if_neg hs0, if_neg k3, if_neg b1, if_neg bj]]
    have hjb := hok.job
    have wj : IntKind.wrap .i64 (x.job + 1) = x.job + 1 := wrap_small (by omega) (by omega)
    have h0 := h.c0
    rw [CS.phase_none hx] at h0
    have h1 : RefC0 (sto (sto (sto w rb 23 [.int .i64 (x.job + 1)]) rb 24 [.int .i64 kind]) rb 25 [.int .i64 version]) rb C { x with job := x.job + 1, kind := kind, ver := version } v 0 tag :=
      (((h0.put (x' := { x with job := x.job + 1 }) (v' := v) (ph' := 0) (o := 23) (vs := [.int .i64 (x.job + 1)]) rfl ⟨rfl, rfl, rfl, rfl⟩ ⟨rfl, rfl, rfl, rfl⟩).put (x' := { x with job := x.job + 1, kind := kind }) (v' := v) (ph' := 0) (o := 24) (vs := [.int .i64 kind]) rfl ⟨rfl, rfl, rfl, rfl⟩ ⟨rfl, rfl, rfl, rfl⟩).put
        (x' := { x with job := x.job + 1, kind := kind, ver := version }) (v' := v) (ph' := 0) (o := 25) (vs := [.int .i64 version]) rfl ⟨rfl, rfl, rfl, rfl⟩ ⟨rfl, rfl, rfl, rfl⟩)
    have f1 : Fr (fun c => c = rb) w (sto (sto (sto w rb 23 [.int .i64 (x.job + 1)]) rb 24 [.int .i64 kind]) rb 25 [.int .i64 version]) :=
      (((Fr.refl (fun c => c = rb) w).sto (.inl rfl) _ _).sto (.inl rfl) _ _).sto (.inl rfl) _ _
    have ft : Fr (fun c => tag c ≠ 0) w (sto (sto (sto w rb 23 [.int .i64 (x.job + 1)]) rb 24 [.int .i64 kind]) rb 25 [.int .i64 version]) := f1.mono fun c he => by rw [he, h.tb]; decide
    have g1 := hg.fr f1 fun c he => by have := (h.bound rb (by rw [h.tb]; decide)).1; omega
    have hwr := h.wr
    by_cases e3 : kind = 3
    · have hv : version = 0 := by omega
      subst e3
      simp [hv, hb, c23, bj, hwr, wj]
      rw [hv] at h1 ft g1
      have hbeg : Run (F.granaryref15_Control_begin (.pointer (some ⟨rb, 0, none⟩)) (.int .i64 4)) _ _ := rbegin_run g1 h1 (k := 4) (by omega) hok.n
      exact ⟨by omega, by omega, by omega, hbeg.mono fun r w' hd => ⟨r, rfl, hd.sub ft⟩⟩
    · have v1 : ¬ version < 1 := by omega
      have v2 : ¬ 999999 < version := by omega
      rcases (by omega : kind = 1 ∨ kind = 2) with rfl | rfl
      · simp [v1, v2, hb, c23, bj, hwr, wj]
        have hbeg : Run (F.granaryref15_Control_begin (.pointer (some ⟨rb, 0, none⟩)) (.int .i64 1)) _ _ := rbegin_run g1 h1 (k := 1) (by omega) hok.n
        exact ⟨by omega, by omega, by omega, hbeg.mono fun r w' hd => ⟨r, rfl, hd.sub ft⟩⟩
      · simp [v1, v2, hb, c23, bj, hwr, wj]
        have hbeg : Run (F.granaryref15_Control_begin (.pointer (some ⟨rb, 0, none⟩)) (.int .i64 2)) _ _ := rbegin_run g1 h1 (k := 2) (by omega) hok.n
        exact ⟨by omega, by omega, by omega, hbeg.mono fun r w' hd => ⟨r, rfl, hd.sub ft⟩⟩
end
end Go.Proofs.YtpiceodfdjihhaaGreatDoor

/-
  The document's controller, part G: Tick.
-/
namespace Go.Proofs.YtpiceodfdjihhaaGreatDoor
open Go.Lift
set_option linter.unusedSimpArgs false
section
variable {w w' : World} {rb : Nat} {C : Clu} {x : CS} {v : RV} {tag : Nat → Nat} {p : Ph} {ph : Int}
/-- A store of a number of the phase. -/
theorem RefC.num (h : RefC w rb C x v tag) (hx : x.now = some p) {p' : Ph} {tk sd : Int} {o : Nat} {vs : List Value} (hc : setL (C.cells v.nv ++ x.rcells v) o vs = C.cells v.nv ++ ({ x with now := some p' } : CS).rcells { v with tk := tk, sd := sd })
    (hk : p'.kind = p.kind) (hs : p'.said = p.said) (hh : p'.holds = p.holds) (e1 : tk = p'.ticks) (e2 : p'.kind ≠ 1 → sd = p'.sends) (e3 : 1 ≤ sd ∧ sd ≤ 1 + p'.ticks) :
    RefC (sto w rb o vs) rb C { x with now := some p' } { v with tk := tk, sd := sd } tag := by
  have hp := h.now p hx
  have f : Fr (fun c => c = rb) w (sto w rb o vs) := (Fr.refl (fun c => c = rb) w).sto (.inl rfl) _ _
  have hF : ∀ c, c = rb → tag c = 11 := fun c he => by rw [he]; exact h.tb
  refine ⟨by rw [bk_sto_eq, h.blk, Option.map_some, hc], by simpa using h.wr, h.tb, fun c hc => ⟨(h.bound c hc).1, Nat.lt_of_lt_of_le (h.bound c hc).2 f.size⟩, h.n, h.r, h.l, h.pt, h.nl, h.nvc, ?_, ?_, fun r hr => ?_⟩
  · exact ⟨h.lh.1.fr f fun c hc he => (by have := h.lh.2 c hc; rw [hF c he] at this; cases this), h.lh.2⟩
  · exact ⟨h.lm.1.fr f fun c hc he => (by have := h.lm.2 c hc; rw [hF c he] at this; cases this), h.lm.2⟩
  · cases hr
    exact ⟨e1, e2, e3, by rw [hs]; exact hp.said.fr f fun c hc he => (by have := hp.ts c hc; rw [hF c he] at this; cases this), hp.ts, by rw [hh]; exact hp.held.fr f fun c hc he => (by have := hp.th c hc; rw [hF c he] at this; cases this), hp.th⟩
theorem rsent_run (hg : Glob w) (h : RefC w rb C x v tag) (hx : x.now = some p) (hk : 1 ≤ p.kind ∧ p.kind ≤ 4) (hn : p.said.length ≤ 64) : Run (F.granaryref15_Control_again (.pointer (some ⟨rb, 0, none⟩))) w fun r w' => RDid w w' rb C tag x r x.sendS := by
  refine (again15_run hg h hx hk hn).mono ?_
  rintro r w' ⟨f, s, n⟩
  exact ⟨f.mono fun _ h => h.elim, ⟨v, tag, h.fr0 f, fun _ h => .inl h, fun c hc => Classical.byContradiction fun h' => by have := h.bound c h'; have := (n c hc).1; omega⟩, s, n⟩
theorem rtick_run (hg : Glob w) (h : RefC w rb C x v tag) (hok : COk x) : Run (F.granaryref15_Control_Tick (.pointer (some ⟨rb, 0, none⟩))) w fun r w' => RGot w w' rb C tag ⟨x.tickS.1, x.tickS.2, 0⟩ r := by
  unfold F.granaryref15_Control_Tick
  obtain ⟨L, hb, hL, c22, c23, c24, c25, c26, c27, c28, c29, c30, c31⟩ := h.gets
  cases hx : x.now with
  | none =>
    rw [CS.phase_none hx] at c26
    simp [hb, c26]
    rw [show x.tickS = (x, []) from by unfold CS.tickS; rw [hx]]
    exact ⟨_, rfl, RDid.none h (Fr.refl _ _)⟩
  | some p =>
    have hp := hok.now p hx
    have hr := h.now p hx
    have hn := hok.n
    have hk0 : ¬ p.kind = 0 := by have := hp.kind; omega
    rw [CS.phase_some hx] at c26
    have hwr := h.wr
    have htk : v.tk = p.ticks := hr.tk
    have hbd : p.ticks < 65536 := by
      by_cases e : p.kind = 1
      · have := hp.fetch e; have := hok.patience; omega
      · have := (hp.rest e).1; have := hok.rl; omega
    have wk := wrap_succ (n := p.ticks) (by omega)
    rw [htk] at c27
    simp [hb, c26, hk0, c27, hwr, wk]
    refine ⟨by omega, ?_⟩
    have h1 : RefC (sto w rb 27 [Value.int .i64 (p.ticks + 1)]) rb C { x with now := some { p with ticks := p.ticks + 1 } } { v with tk := (p.ticks + 1 : Nat), sd := v.sd } tag :=
      h.num hx (p' := { p with ticks := p.ticks + 1 }) (by unfold CS.rcells CS.phase; rw [hx]; rfl) rfl rfl rfl rfl hr.sd (by have := hr.sd1; simp only; omega)
    have f1 : Fr (fun c => c = rb) w (sto w rb 27 [Value.int .i64 (p.ticks + 1)]) := (Fr.refl (fun c => c = rb) w).sto (.inl rfl) _ _
    have g1 := hg.fr f1 fun c he => by have := (h.bound rb (by rw [h.tb]; decide)).1; omega
    have ft : Fr (fun c => tag c ≠ 0) w (sto w rb 27 [Value.int .i64 (p.ticks + 1)]) := f1.mono fun c he => by rw [he, h.tb]; decide
    generalize sto w rb 27 [Value.int .i64 (p.ticks + 1)] = w1 at *
    have hts : x.tickS = if p.kind = 1 then
        if x.patience ≤ p.ticks + 1 then ({ x with now := some { p with ticks := p.ticks + 1 } } : CS).lateS { p with ticks := p.ticks + 1 }
        else if (p.ticks + 1) % x.resend = 0 then ({ x with now := some { p with ticks := p.ticks + 1 } }, ({ x with now := some { p with ticks := p.ticks + 1 } } : CS).sendS) else ({ x with now := some { p with ticks := p.ticks + 1 } }, [])
      else if (p.ticks + 1) % x.resend ≠ 0 then ({ x with now := some { p with ticks := p.ticks + 1 } }, [])
      else if x.limit ≤ p.sends then ({ x with now := some { p with ticks := p.ticks + 1 } } : CS).lateS { p with ticks := p.ticks + 1 }
      else ({ x with now := some { p with ticks := p.ticks + 1, sends := p.sends + 1 } }, ({ x with now := some { p with ticks := p.ticks + 1, sends := p.sends + 1 } } : CS).sendS) := by
      unfold CS.tickS; rw [hx]
    rw [hts]
    clear hts
    have hL1 : ∃ L1, bk w1 rb = some L1 ∧ L1.length = 38 ∧ L1[15]? = some (.int .i64 x.resend) ∧ L1[16]? = some (.int .i64 x.limit) ∧ L1[17]? = some (.int .i64 x.patience) ∧ L1[26]? = some (.int .i64 p.kind) ∧ L1[27]? = some (.int .i64 (p.ticks + 1 : Nat)) ∧ L1[28]? = some (.int .i64 v.sd) := by
      refine ⟨_, h1.blk, rfl, ?_, ?_, ?_, rfl, rfl, rfl⟩
      · rw [rc_low _ _ _ (by omega)]; exact congrArg (fun n => some (Value.int .i64 n)) h.r
      · rw [rc_low _ _ _ (by omega)]; exact congrArg (fun n => some (Value.int .i64 n)) h.l
      · rw [rc_low _ _ _ (by omega)]; exact congrArg (fun n => some (Value.int .i64 n)) h.pt
    obtain ⟨L1, hb1, hl1, d15, d16, d17, d26, d27, d28⟩ := hL1
    have hwr1 : wr w1 rb = true := h1.wr
    have hrs := hok.resend
    have hr0 : ¬ x.resend = 0 := by omega
    have etm : ((p.ticks : Int) + 1).tmod (x.resend : Int) = (((p.ticks + 1) % x.resend : Nat) : Int) := (Int.ofNat_tmod (p.ticks + 1) x.resend).symm
    have hback : ∀ w2, Fr (fun _ => False) w1 w2 → Run (F.granaryref15_Control_begin (.pointer (some ⟨rb, 0, none⟩)) (.int .i64 3)) w2 fun r w' => RDid w2 w' rb C tag (x.enterS 3).1 r (x.enterS 3).2 := fun w2 f2 => rbegin_run (x := { x with now := some { p with ticks := p.ticks + 1 } }) (g1.fr0 f2) (h1.fr0 f2).c0 (k := 3) (by omega) hn
    have d1 : Fr (fun _ => False) w1 w1.drew := (Fr.refl _ _).drew
    have d2 : Fr (fun _ => False) w1 w1.drew.drew := d1.drew
    have d3 : Fr (fun _ => False) w1 w1.drew.drew.drew := d2.drew
    have hsn : p.said.length = x.n := hp.said
    have hin := hp.in
    by_cases e : p.kind = 1
    · rw [if_pos e]
      have hpt := hp.fetch e
      have ei : (p.kind : Int) = 1 := by omega
      by_cases q : x.patience ≤ p.ticks + 1
      · rw [if_pos q]
        have q' : p.ticks + 1 = x.patience := by omega
        unfold CS.lateS
        rw [if_pos (.inl e)]
        simp [hb1, d26, d27, d17, q', ei]
        exact (hback _ d1).mono fun r w' hd => ⟨r, rfl, hd.sub (ft.trans d1 fun _ _ h => h.elim)⟩
      · rw [if_neg q]
        have q' : ¬ (p.ticks : Int) + 1 = x.patience := by omega
        have q'' : ¬ p.ticks + 1 = x.patience := by omega
        by_cases q2 : (p.ticks + 1) % x.resend = 0
        · rw [if_pos q2]
          have q2' : ((p.ticks : Int) + 1).tmod x.resend = 0 := by rw [etm, q2]; rfl
          have hs1 := hr.sd1
          have ws : IntKind.wrap .i64 (v.sd + 1) = v.sd + 1 := wrap_small (by omega) (by omega)
          simp [hb1, d26, d27, d17, d15, d28, q', q'', ei, hr0, q2', hwr1, ws]
          have h2 := h1.fr0 d3
          have h3 := h2.num (p' := { p with ticks := p.ticks + 1 }) rfl (tk := (p.ticks + 1 : Nat)) (sd := v.sd + 1) (o := 28) (vs := [.int .i64 (v.sd + 1)]) rfl rfl rfl rfl rfl (fun hn => absurd e hn) (by have := hr.sd1; simp only; omega)
          refine ⟨by omega, ?_⟩
          have f3 : Fr (fun c => c = rb) w1 (sto w1.drew.drew.drew rb 28 [Value.int .i64 (v.sd + 1)]) := (Fr.sto (F := fun c => c = rb) (d3.mono fun _ h => h.elim) (.inl rfl) _ _)
          have g3 := g1.fr f3 fun c he => by have := (h.bound rb (by rw [h.tb]; decide)).1; omega
          refine (rsent_run g3 h3 rfl hp.kind (by show p.said.length ≤ 64; omega)).mono ?_
          intro r w' hd
          exact ⟨r, rfl, hd.sub (ft.trans (f3.mono fun c he => by rw [he, h.tb]; decide) fun _ _ h => h)⟩
        · rw [if_neg q2]
          have q2' : ¬ ((p.ticks : Int) + 1).tmod x.resend = 0 := by rw [etm]; omega
          simp [hb1, d26, d27, d17, d15, q', q'', ei, hr0, q2']
          exact ⟨_, rfl, (RDid.none h1 d2).sub ft⟩
    · rw [if_neg e]
      have ei : ¬ (p.kind : Int) = 1 := by omega
      have hsd := hr.sd e
      rw [hsd] at d28
      by_cases q2 : (p.ticks + 1) % x.resend = 0
      case neg =>
        rw [if_pos q2]
        have q2' : ¬ ((p.ticks : Int) + 1).tmod x.resend = 0 := by rw [etm]; omega
        simp [hb1, d26, d27, d17, d15, ei, hr0, q2']
        exact ⟨_, rfl, (RDid.none h1 d2).sub ft⟩
      rw [if_neg (fun h => h q2)]
      have q2' : ((p.ticks : Int) + 1).tmod x.resend = 0 := by rw [etm, q2]; rfl
      by_cases q3 : x.limit ≤ p.sends
      · rw [if_pos q3]
        have q3' : ¬ (p.sends : Int) < x.limit := by omega
        have q3'' : ¬ p.sends < x.limit := by omega
        unfold CS.lateS
        by_cases e2 : p.kind = 2
        · rw [if_pos (.inr e2)]
          have ei2 : (p.kind : Int) = 2 := by omega
          simp [hb1, d26, d27, d17, d15, d16, d28, ei, e, hr0, q2', q3', q3'', ei2, e2]
          exact (hback _ d3).mono fun r w' hd => ⟨r, rfl, hd.sub (ft.trans d3 fun _ _ h => h.elim)⟩
        · rw [if_neg (fun hh => hh.elim e e2)]
          have ei2 : ¬ (p.kind : Int) = 2 := by omega
          simp [hb1, d26, d27, d17, d15, d16, d28, ei, e, hr0, q2', q3', q3'', ei2, e2]
          refine (rend_run (h1.fr0 d3) rfl ⟨by rw [hsn]; omega, by rw [hp.holds, hsn]⟩ 3).mono ?_
          rintro _ w' ⟨rfl, hd⟩
          exact ⟨_, rfl, hd.sub (ft.trans d3 fun _ _ h => h.elim)⟩
      · rw [if_neg q3]
        have q3' : (p.sends : Int) < x.limit := by omega
        have q3'' : p.sends < x.limit := by omega
        have hlm := hok.limit
        have ws := wrap_succ (n := p.sends) (by omega)
        simp [hb1, d26, d27, d17, d15, d16, d28, ei, e, hr0, q2', q3', q3'', hwr1, ws]
        have h2 := h1.fr0 d3
        refine ⟨by omega, ?_⟩
        have h3 := h2.num (p' := { p with ticks := p.ticks + 1, sends := p.sends + 1 }) rfl (tk := (p.ticks + 1 : Nat)) (sd := (p.sends + 1 : Nat)) (o := 28) (vs := [.int .i64 (p.sends + 1 : Nat)]) rfl rfl rfl rfl rfl (fun hn => rfl) (by have := hr.sd1; simp only; omega)
        have f3 : Fr (fun c => c = rb) w1 (sto w1.drew.drew.drew rb 28 [Value.int .i64 (p.sends + 1 : Nat)]) := (Fr.sto (F := fun c => c = rb) (d3.mono fun _ h => h.elim) (.inl rfl) _ _)
        have g3 := g1.fr f3 fun c he => by have := (h.bound rb (by rw [h.tb]; decide)).1; omega
        refine (rsent_run g3 h3 rfl hp.kind (by show p.said.length ≤ 64; omega)).mono ?_
        intro r w' hd
        exact ⟨r, rfl, hd.sub (ft.trans (f3.mono fun c he => by rw [he, h.tb]; decide) fun _ _ h => h)⟩
end
end Go.Proofs.YtpiceodfdjihhaaGreatDoor

/-
  The document's controller, part H: Report, New, Resume.
-/
namespace Go.Proofs.YtpiceodfdjihhaaGreatDoor
open Go.Lift
set_option linter.unusedSimpArgs false
/-- What Report answers. -/
def RTold (w w' : World) (x : CS) (res : Value) : Prop :=
  Fr (fun _ => False) w w' ∧ if x.ended = true then ∃ hv mv, res = .tuple #[x.last.val hv mv, .int .i64 0] ∧ Ints w' hv x.last.holds ∧ Ints w' mv x.last.missing
  else res = .tuple #[Rep.none.val (.slice none 0 0) (.slice none 0 0), .int .i64 151]
section
variable {w w' : World} {rb : Nat} {C : Clu} {x : CS} {v : RV} {tag : Nat → Nat} {p : Ph} {ph : Int}
theorem rreport_run (h : RefC w rb C x v tag) (hok : COk x) : Run (F.granaryref15_Control_Report (.pointer (some ⟨rb, 0, none⟩))) w fun r w' => RTold w w' x r := by
  unfold F.granaryref15_Control_Report
  obtain ⟨L, hb, hL, c31, c36, c37, ecs⟩ : ∃ L, bk w rb = some L ∧ L.length = 38 ∧ L[31]? = some (.bool x.ended) ∧ L[36]? = some v.lh ∧ L[37]? = some v.lm ∧ List.take 6 (List.drop 32 L) = [.int .i64 x.last.job, .int .i64 x.last.kind, .int .i64 x.last.version, .int .i64 x.last.outcome, v.lh, v.lm] :=
    ⟨_, h.blk, rfl, rfl, rfl, rfl, rfl⟩
  simp
  refine Run_new fun c w1 hc hcw f1 hle => ?_
  have hb1 : bk w1 rb = some L := f1.bk_some hb id
  have hc' : bk w1 c = some [.int .i64 0, .int .i64 0, .int .i64 0, .int .i64 0, .slice none 0 0, .slice none 0 0] := hc
  simp [hb1, c31]
  refine Run_cond (fun he => ?_) (fun he => ?_)
  · have hh := (h.lh.1.fr f1 fun _ _ => id)
    have hm := (h.lm.1.fr f1 fun _ _ => id)
    have h38 : 38 ≤ L.length := by omega
    simp [hb1, ecs, h38]
    refine Run_newSt rfl rfl (by simp [hh.isCell, hm.isCell]) fun d w2 hd hdw f2 hle2 => ?_
    have hd' : bk w2 d = some [.int .i64 x.last.job, .int .i64 x.last.kind, .int .i64 x.last.version, .int .i64 x.last.outcome, v.lh, v.lm] := hd
    have hb2 := f2.bk_some hb1 id
    have hh2 : Sl 1 w2 v.lh (elI x.last.holds) := hh.fr f2 fun _ _ => id
    have hlh := hok.last.1
    have hlm := hok.last.2
    simp [hb2, c36]
    refine Run_appM (k := 1) (SlW.nil 1 w2) hh2 (by decide) rfl (by decide) (by simp [elI]) (by simp; omega) fun hv w3 s3 f3 n3 => ?_
    simp only [List.nil_append] at s3
    have f3 : Fr (fun _ => False) w2 w3 := f3.mono fun _ h => h
    have n3' : ∀ z, inB hv z → w2.heap.size ≤ z ∧ z < w3.heap.size := fun z hz => (n3 z hz).resolve_left id
    have hd3 := f3.bk_some hd' id
    have hb3 := f3.bk_some hb2 id
    have hdw3 : wr w3 d = true := by rw [f3.wr (bk_lt hd') id]; exact hdw
    have hrd : rb ≠ d := by have := bk_lt hb1; have : w1.heap.size ≤ d := hle2; omega
    simp [hd3, hdw3, cells_isCell s3.1.isCell, s3.1.isCell, bk_sto, hb3, c37, hrd, Ne.symm hrd]
    have g3 : Fr (fun z => z = d) w3 (sto w3 d 4 [hv]) := (Fr.refl (fun z => z = d) w3).sto (.inl rfl) _ _
    have hle3 : w1.heap.size ≤ d := hle2
    have ld := bk_lt hd'
    have e1 := f1.size
    have e2 := f2.size
    have e3 := f3.size
    have e4 := g3.size
    have fa : Fr (fun _ => False) w1 (sto w3 d 4 [hv]) := (f2.trans f3 fun _ _ => id).trans g3 fun z hz he => by omega
    have hm3 : Sl 1 (sto w3 d 4 [hv]) v.lm (elI x.last.missing) := hm.fr fa fun _ _ => id
    refine Run_appM (k := 1) (SlW.nil 1 _) hm3 (by decide) rfl (by decide) (by simp [elI]) (by simp; omega) fun mv w4 s4 f4 n4 => ?_
    simp only [List.nil_append] at s4
    have f4 : Fr (fun _ => False) (sto w3 d 4 [hv]) w4 := f4.mono fun _ h => h
    have hd3' : bk (sto w3 d 4 [hv]) d = some [.int .i64 x.last.job, .int .i64 x.last.kind, .int .i64 x.last.version, .int .i64 x.last.outcome, hv, v.lm] := by simp [hd3]
    have hd4 := f4.bk_some hd3' id
    have hdw4 : wr w4 d = true := by rw [f4.wr (bk_lt hd3') id]; simpa using hdw3
    have hdc : d ≠ c := by have := bk_lt hc'; omega
    have fb : Fr (fun _ => False) w1 w4 := fa.trans f4 fun _ _ => id
    have hc4 := fb.bk_some hc' id
    have hcw4 : wr w4 c = true := by rw [fb.wr (bk_lt hc') id]; exact hcw
    simp [hd4, hdw4, s3.1.isCell, s4.1.isCell, cells_isCell s3.1.isCell, cells_isCell s4.1.isCell, bk_sto, hdc, Ne.symm hdc, hc4, hcw4]
    have gs : Fr (fun z => z = d ∨ z = c) w4 (sto (sto w4 d 5 [mv]) c 0 [Value.int .i64 x.last.job, Value.int .i64 x.last.kind, Value.int .i64 x.last.version, Value.int .i64 x.last.outcome, hv, mv]) :=
      ((Fr.refl (fun z => z = d ∨ z = c) w4).sto (.inl (.inl rfl)) _ _).sto (.inl (.inr rfl)) _ _
    have fw : Fr (fun _ => False) w w4 := f1.trans fb fun _ _ => id
    refine ⟨fun i hi => ?_, ?_, ?_⟩
    · rcases (by omega : i = 0 ∨ i = 1 ∨ i = 2 ∨ i = 3 ∨ i = 4 ∨ i = 5) with rfl | rfl | rfl | rfl | rfl | rfl <;> simp [s3.1.isCell, s4.1.isCell]
    · exact (fw.sto (.inr (Nat.le_trans e1 hle3)) _ _).sto (.inr hle) _ _
    · rw [if_pos (by simpa using he)]
      refine ⟨hv, mv, rfl, ((s3.1.fr g3 fun z hz he => ?_).fr f4 fun _ _ => id).fr gs fun z hz he => ?_, s4.1.fr gs fun z hz he => ?_⟩
      · have := n3' z hz; omega
      · have := n3' z hz; have := bk_lt hc'; omega
      · have := (n4 z hz).resolve_left id; have := bk_lt hc'; omega
  · have he' : ¬ x.ended = true := by simpa using he
    simp [hc', hcw, buildV]
    exact ⟨f1.sto (.inr hle) _ _, by rw [if_neg he']; rfl⟩
def RV.new (nv : Value) : RV := ⟨nv, .slice none 0 0, .slice none 0 0, .slice none 0 0, .slice none 0 0, 0, 0⟩
theorem fillV_head {n off : Nat} {cs : Array Value} {u : Value} {rest : List (Nat × Nat × Value)} (hn : u.cells.size = n) (h : off + n ≤ cs.size) : fillV cs ((off, n, u) :: rest) = fillV (setL cs.toList off u.cells.toList).toArray rest := by
  have h1 := fillV_parts (k := n) [u] off cs (by simpa using hn) (by simpa using h)
  have hc : (u.cells.size ≠ n || off + u.cells.size > cs.size) = false := by simp [hn]; omega
  simp only [partsL, fillV, hc] at h1 ⊢
  simp at h1 ⊢
  rw [h1]
theorem box15 (C : Clu) (nv : Value) (job : Int) : buildV #[(Value.string ByteArray.empty), (Value.int IntKind.i64 0), (Value.int IntKind.i64 0), (Value.int IntKind.i64 0), (Value.int IntKind.i64 0), (Value.int IntKind.i64 0), (Value.int IntKind.i64 0), (Value.int IntKind.i64 0), (Value.int IntKind.i64 0), (Value.int IntKind.i64 0), (Value.int IntKind.i64 0), (Value.int IntKind.i64 0), (Value.int IntKind.i64 0), (Value.int IntKind.i64 0), (Value.int IntKind.i64 0), (Value.int IntKind.i64 0), (Value.int IntKind.i64 0), (Value.int IntKind.i64 0), (Value.int IntKind.i64 0), (Value.int IntKind.i64 0), (Value.int IntKind.i64 0), (Value.int IntKind.i64 0), (Value.slice none 0 0), (Value.int IntKind.i64 0), (Value.int IntKind.i64 0), (Value.int IntKind.i64 0), (Value.int IntKind.i64 0), (Value.int IntKind.i64 0), (Value.int IntKind.i64 0), (Value.slice none 0 0), (Value.slice none 0 0), (Value.bool false), (Value.int IntKind.i64 0), (Value.int IntKind.i64 0), (Value.int IntKind.i64 0), (Value.int IntKind.i64 0), (Value.slice none 0 0), (Value.slice none 0 0)]
    [(0, 23, C.val nv), (23, 1, .int .i64 job)] = some (.agg (C.cells nv ++ ({ CS.new C with job := job } : CS).rc0 (RV.new nv) 0).toArray) := by
  unfold buildV
  rw [fillV_head (by simp [Clu.val, Clu.cells]) (by simp), setL_eq _ _ _ (by simp [Clu.val, Clu.cells])]
  simp [fillV_cell, Clu.val, Clu.cells, CS.rc0, CS.new, RV.new, Rep.none]
theorem box15' (C : Clu) (nv : Value) : buildV #[(Value.string ByteArray.empty), (Value.int IntKind.i64 0), (Value.int IntKind.i64 0), (Value.int IntKind.i64 0), (Value.int IntKind.i64 0), (Value.int IntKind.i64 0), (Value.int IntKind.i64 0), (Value.int IntKind.i64 0), (Value.int IntKind.i64 0), (Value.int IntKind.i64 0), (Value.int IntKind.i64 0), (Value.int IntKind.i64 0), (Value.int IntKind.i64 0), (Value.int IntKind.i64 0), (Value.int IntKind.i64 0), (Value.int IntKind.i64 0), (Value.int IntKind.i64 0), (Value.int IntKind.i64 0), (Value.int IntKind.i64 0), (Value.int IntKind.i64 0), (Value.int IntKind.i64 0), (Value.int IntKind.i64 0), (Value.slice none 0 0), (Value.int IntKind.i64 0), (Value.int IntKind.i64 0), (Value.int IntKind.i64 0), (Value.int IntKind.i64 0), (Value.int IntKind.i64 0), (Value.int IntKind.i64 0), (Value.slice none 0 0), (Value.slice none 0 0), (Value.bool false), (Value.int IntKind.i64 0), (Value.int IntKind.i64 0), (Value.int IntKind.i64 0), (Value.int IntKind.i64 0), (Value.slice none 0 0), (Value.slice none 0 0)]
    [(0, 23, C.val nv)] = some (.agg (C.cells nv ++ (CS.new C).rc0 (RV.new nv) 0).toArray) := by
  unfold buildV
  rw [fillV_head (by simp [Clu.val, Clu.cells]) (by simp), setL_eq _ _ _ (by simp [Clu.val, Clu.cells])]
  simp [fillV_cell, Clu.val, Clu.cells, CS.rc0, CS.new, RV.new, Rep.none]
/-- The marks of a new controller: its block. -/
def rnewTag (b c : Nat) : Nat := if c = b then 11 else 0
theorem ref_new {C : Clu} {nv : Value} {pvs : List Value} {job : Int} (hc : checkF C = 0) (hN : Nodes w nv C.nodes pvs) (hb : bk w rb = some (C.cells nv ++ ({ CS.new C with job := job } : CS).rc0 (RV.new nv) 0)) (hw : wr w rb = true) (h4 : 4 ≤ rb) :
    RefC w rb C { CS.new C with job := job } (RV.new nv) (rnewTag rb) := by
  obtain ⟨hset, _, _⟩ := checkF_ok hc
  have e1 := hset 14 _ _ rfl rfl
  have e2 := hset 15 _ _ rfl rfl
  have e3 := hset 16 _ _ rfl rfl
  simp only [Clu.nums] at e1 e2 e3
  refine ⟨hb, hw, by simp [rnewTag], fun c hc => ?_, rfl, ?_, ?_, ?_, hN.lenL, hN.sl.isCell, ⟨Sl.nil 1 _, fun _ h => h.elim⟩, ⟨Sl.nil 1 _, fun _ h => h.elim⟩, fun p hp => by cases hp⟩
  · unfold rnewTag at hc
    split at hc
    · rename_i h; rw [h]; exact ⟨h4, bk_lt hb⟩
    · exact absurd rfl hc
  · simp only [CS.new]; omega
  · simp only [CS.new]; omega
  · simp only [CS.new]; omega
theorem rnew_run {C : Clu} {nv : Value} {pvs : List Value} (hg : Glob w) (hN : Nodes w nv C.nodes pvs) (hF : Fits C) :
    Run (F.granaryref15_New (C.val nv)) w fun r w' => Fr (fun _ => False) w w' ∧ (checkF C ≠ 0 → r = .tuple #[.pointer none, .int .i64 (checkF C)]) ∧
      (checkF C = 0 → ∃ b v tag, r = .tuple #[.pointer (some ⟨b, 0, none⟩), .int .i64 0] ∧ RefC w' b C (CS.new C) v tag ∧ ∀ c, tag c ≠ 0 → w.heap.size ≤ c) := by
  unfold F.granaryref15_New
  simp [-ldA_ptr, Clu.val]
  refine Run_new fun b w1 hb _ f1 hble => ?_
  have hb1 : bk w1 b = some (C.cells nv) := by simpa using hb
  simp [-ldA_ptr, Clu.ldA6 hb1]
  refine (check6_run (hN.fr0 f1) hF (f1.bk_some hg.great id)).mono ?_
  rintro _ w2 ⟨rfl, f2⟩
  have f02 : Fr (fun _ => False) w w2 := f1.trans f2 fun _ _ => id
  have hb2 : bk w2 b = some (C.cells nv) := f2.bk_some hb1 id
  by_cases hc : checkF C = 0
  case neg =>
    simp [hc]
    exact f02
  simp [-ldA_ptr, hc, Clu.ldA6 hb2, box15']
  refine Run_new fun x w3 hx hxw f3 hxle => ?_
  have f03 : Fr (fun _ => False) w w3 := f02.trans f3 fun _ _ => id
  have hx3 : bk w3 x = some (C.cells nv ++ (CS.new C).rc0 (RV.new nv) 0) := by simpa using hx
  have hw0 := f02.size
  have h4 := hg.size
  refine ⟨f03, x, rfl, RV.new nv, rnewTag x, ref_new (job := 0) hc (hN.fr0 f03) hx3 hxw (by omega), fun c hc => ?_⟩
  unfold rnewTag at hc
  split at hc
  · omega
  · exact absurd rfl hc
/-- A controller that was made since w. -/
structure RMade (w w' : World) (b : Nat) (C : Clu) (x : CS) (l : Value) (out : List Ms) : Prop where
  ref : ∃ v tag, RefC w' b C x v tag ∧ (∀ c, tag c ≠ 0 → w.heap.size ≤ c) ∧ (∀ c, inB l c → tag c = 0)
  out : SlW 11 w' l (elM out)
  new : New w w' l
theorem rresume_run {C : Clu} {nv : Value} {pvs : List Value} (hg : Glob w) (hN : Nodes w nv C.nodes pvs) (hF : Fits C) (job kind version : Int) (isOpen : Bool) :
    Run (F.granaryref15_Resume (C.val nv) (.int .i64 job) (.int .i64 kind) (.int .i64 version) (.bool isOpen)) w fun r w' => Fr (fun _ => False) w w' ∧
      (checkF C ≠ 0 → r = .tuple #[.pointer none, .slice none 0 0, .int .i64 (checkF C)]) ∧
      (checkF C = 0 → match CS.resumeS C job kind version isOpen with
        | (none, _, e) => r = .tuple #[.pointer none, .slice none 0 0, .int .i64 e]
        | (some x, out, e) => ∃ b l, r = .tuple #[.pointer (some ⟨b, 0, none⟩), l, .int .i64 e] ∧ RMade w w' b C x l out) := by
  unfold F.granaryref15_Resume
  simp [-ldA_ptr, Clu.val]
  refine Run_new fun b0 w0 hb _ fr0 _ => ?_
  have hb0 : bk w0 b0 = some (C.cells nv) := by simpa using hb
  simp [-ldA_ptr, Clu.ldA6 hb0]
  refine (check6_run (hN.fr0 fr0) hF (fr0.bk_some hg.great id)).mono ?_
  rintro _ w1 ⟨rfl, fr1⟩
  have fr01 : Fr (fun _ => False) w w1 := fr0.trans fr1 fun _ _ => id
  have hb1 : bk w1 b0 = some (C.cells nv) := fr1.bk_some hb0 id
  by_cases hc : checkF C = 0
  case neg =>
    simp [hc]
    exact fr01
  have hnew := COk.new hc
  unfold CS.resumeS
  simp only [hc]
  simp [-ldA_ptr]
  by_cases a1 : job < 0
  · simp [-ldA_ptr, a1]; exact fr01
  by_cases a2 : 9007199254740992 < job
  · simp [-ldA_ptr, a1, a2]; exact fr01
  simp [-ldA_ptr, a1, a2]
  by_cases a3 : isOpen = true ∧ job = 0
  · obtain ⟨rfl, rfl⟩ := a3
    simp [-ldA_ptr]; exact fr01
  have ok2 : COk { CS.new C with job := job } := ⟨hnew.n, hnew.resend, hnew.limit, hnew.patience, by show 0 ≤ job ∧ job ≤ 9007199254740992; omega, (fun p hp => by cases hp), hnew.last⟩
  have h4 := hg.size
  have hw01 := fr01.size
  have htagR : ∀ (b : Nat), w1.heap.size ≤ b → ∀ c, rnewTag b c ≠ 0 → w.heap.size ≤ c := fun b hb c hc => by
    unfold rnewTag at hc
    split at hc
    · omega
    · exact absurd rfl hc
  cases isOpen with
  | false =>
    simp [-ldA_ptr, Clu.ldA6 hb1, box15]
    refine Run_new fun b w2 hb2 hbw f2 hle => ?_
    have hb2 : bk w2 b = some (C.cells nv ++ ({ CS.new C with job := job } : CS).rc0 (RV.new nv) 0) := by simpa using hb2
    have f02 : Fr (fun _ => False) w w2 := fr01.trans f2 fun _ _ => id
    exact ⟨f02, b, _, ⟨rfl, rfl⟩, ⟨_, _, ref_new hc (hN.fr0 f02) hb2 hbw (by omega), htagR b hle, fun _ h => h.elim⟩, SlW.nil _ _, fun _ h => h.elim⟩
  | true =>
    have a3' : ¬ job = 0 := fun h => a3 ⟨rfl, h⟩
    simp [-ldA_ptr, a3', Clu.ldA6 hb1, box15]
    refine Run_new fun b w2 hb2 hbw f2 hle => ?_
    have hb2 : bk w2 b = some (C.cells nv ++ ({ CS.new C with job := job } : CS).rc0 (RV.new nv) 0) := by simpa using hb2
    have f02 : Fr (fun _ => False) w w2 := fr01.trans f2 fun _ _ => id
    have hR := ref_new hc (hN.fr0 f02) hb2 hbw (by omega)
    have hle0 : w.heap.size ≤ b := by omega
    have key : ∀ k : Int, k = 1 ∨ k = 2 → 1 ≤ version → version ≤ 999999 →
        Run (F.granaryref15_Control_begin (.pointer (some ⟨b, 0, none⟩)) (.int .i64 3)) (sto (sto w2 b 24 [Value.int .i64 k]) b 25 [Value.int .i64 version]) fun r w' =>
          Fr (fun _ => False) w w' ∧ RMade w w' b C (({ CS.new C with job := job, kind := k, ver := version } : CS).enterS 3).1 r (({ CS.new C with job := job, kind := k, ver := version } : CS).enterS 3).2 := by
      intro k hk hv1 hv2
      have h0 : RefC0 w2 b C { CS.new C with job := job } (RV.new nv) 0 (rnewTag b) := hR.c0
      have h1 := (h0.put (x' := { CS.new C with job := job, kind := k }) (v' := RV.new nv) (ph' := 0) (o := 24) (vs := [.int .i64 k]) rfl ⟨rfl, rfl, rfl, rfl⟩ ⟨rfl, rfl, rfl, rfl⟩).put
        (x' := { CS.new C with job := job, kind := k, ver := version }) (v' := RV.new nv) (ph' := 0) (o := 25) (vs := [.int .i64 version]) rfl ⟨rfl, rfl, rfl, rfl⟩ ⟨rfl, rfl, rfl, rfl⟩
      have f4 : Fr (fun _ => False) w (sto (sto w2 b 24 [Value.int .i64 k]) b 25 [Value.int .i64 version]) := (f02.sto (.inr hle0) _ _).sto (.inr hle0) _ _
      have hbeg : Run (F.granaryref15_Control_begin (.pointer (some ⟨b, 0, none⟩)) (.int .i64 3)) _ _ := rbegin_run (hg.fr0 f4) h1 (k := 3) (by omega) hnew.n
      refine hbeg.mono ?_
      intro r w' hd
      refine ⟨f4.trans hd.fr fun c hc ht => absurd (htagR b hle c ht) (by omega), ?_, hd.out, hd.new.sub f4⟩
      obtain ⟨v', tag', g1, g2, g3⟩ := hd.ref
      exact ⟨v', tag', g1, fun c hc => (g2 c hc).elim (htagR b hle c) fun h => Nat.le_trans f4.size h, g3⟩
    have l38 : (C.cells nv ++ ({ CS.new C with job := job } : CS).rc0 (RV.new nv) 0).length = 38 := rfl
    generalize C.cells nv ++ ({ CS.new C with job := job } : CS).rc0 (RV.new nv) 0 = L at hb2 l38
    have l1 : 25 ≤ L.length := by omega
    have l2 : 26 ≤ L.length := by omega
    by_cases hv1 : version < 1
    · by_cases h1 : kind = 1
      · simp [h1, hv1]; exact f02
      · by_cases h2 : kind = 2
        · simp [h2, hv1]; exact f02
        · simp [h1, h2]; exact f02
    by_cases hv2 : 999999 < version
    · by_cases h1 : kind = 1
      · simp [h1, hv1, hv2]; exact f02
      · by_cases h2 : kind = 2
        · simp [h2, hv1, hv2]; exact f02
        · simp [h1, h2]; exact f02
    by_cases h1 : kind = 1
    · subst h1
      simp [hv1, hv2, hb2, hbw, l1, l2]
      refine (key 1 (.inl rfl) (by omega) (by omega)).mono ?_
      intro r w' hr
      exact ⟨hr.1, b, _, ⟨rfl, rfl⟩, hr.2⟩
    · by_cases h2 : kind = 2
      · subst h2
        simp [hv1, hv2, hb2, hbw, l1, l2]
        refine (key 2 (.inr rfl) (by omega) (by omega)).mono ?_
        intro r w' hr
        exact ⟨hr.1, b, _, ⟨rfl, rfl⟩, hr.2⟩
      · simp [h1, h2]; exact f02
end
end Go.Proofs.YtpiceodfdjihhaaGreatDoor
