/-
  The exact laws of layer 21, part C: a desk in memory; Begin, Take, Tick on it.
-/
import Derived.Test.YtiggkhmopnhfaaaDoorDeskA
namespace Go.Proofs.YtiggkhmopnhfaaaDoor
open Go.Lift
set_option linter.unusedSimpArgs false
set_option maxHeartbeats 2000000

/-- A desk, at place o of block D; its exporters lie in F', all of it newer than w0. -/
structure DK (rows : List (List Int)) (wt n : Int) (w0 w : World) (D o : Nat) (l : List Value) (st : Option (XS × RS)) (sent : List Ms) (ov rv sv : Value) (F' : Nat → Prop) : Prop where
  blk : bk w D = some l
  wr : wr w D = true
  lo : l[o]? = some ov
  lr : l[o + 1]? = some rv
  ls : l[o + 2]? = some sv
  lx : o + 3 < l.length
  dx : DX rows wt n w F' st ov rv
  fb : ∀ c, F' c → w0.heap.size ≤ c ∧ c < w.heap.size ∧ c ≠ D
  hsent : SlW 11 w sv (elMR sent)
  sb : ∀ c, inB sv c → w0.heap.size ≤ c ∧ c < w.heap.size ∧ c ≠ D ∧ ¬ F' c
  str : ∀ m ∈ sent, MStr m
  slen : (sent.length : Int) ≤ n
  dlo : w0.heap.size ≤ D
theorem set_same {l : List Value} {i : Nat} {v : Value} (h : l[i]? = some v) : l.set i v = l := by
  apply List.ext_getElem?
  intro j
  by_cases hj : i = j
  · subst hj
    rw [List.getElem?_set_self (List.getElem?_eq_some_iff.1 h).1, h]
  · rw [List.getElem?_set_ne hj]

section
variable {rows : List (List Int)} {R : Nat} {wt n : Int} {w0 w w' : World} {D o : Nat} {l : List Value} {st : Option (XS × RS)} {sent : List Ms} {ov rv sv : Value} {F' : Nat → Prop}
/-- The list that a step answered: the caller's own. -/
structure OutL (w w' : World) (xv : Value) (F'' : Nat → Prop) (sv' : Value) : Prop where
  val : ∃ lst : List Ms, SlW 11 w' xv (elMR lst) ∧ lst.length ≤ 1 ∧ ∀ m ∈ lst, MStr m
  new : New w w' xv
  off : ∀ c, inB xv c → ¬ F'' c ∧ ¬ inB sv' c
theorem OutL.nil (w w' : World) (F'' : Nat → Prop) (sv' : Value) : OutL w w' (.slice none 0 0) F'' sv' := ⟨⟨[], SlW.nil _ _, by simp, by simp⟩, fun c hc => hc.elim, fun c hc => hc.elim⟩
/-- What a call on a desk comes to. -/
def Turned (rows : List (List Int)) (wt n : Int) (w0 w w' : World) (D o : Nat) (l : List Value) (ov rv sv : Value) (F' : Nat → Prop) : Prop :=
  ∃ st' sent' sv' xv F'', DK rows wt n w0 w' D o ((l.set (o + 3) xv).set (o + 2) sv') st' sent' ov rv sv' F'' ∧ Fr (fun c => c = D ∨ F' c ∨ inB sv c) w w' ∧ (∀ c, F'' c → F' c ∨ w.heap.size ≤ c) ∧ (∀ c, inB sv' c → inB sv c ∨ w.heap.size ≤ c) ∧ OutL w w' xv F'' sv'

theorem moves_run (cfg : Cfg rows R wt) (hn : n + 1 ≤ 4194304) (h : DK rows wt n w0 w D o l st sent ov rv sv F') (op : Op) (hop : MStr op.m) :
    Run (F.granarylaw21_desk_moves (.pointer (some ⟨D, o, none⟩)) op.val) w fun r w' => r = .bool true ∧ Turned rows wt (n + 1) w0 w w' D o l ov rv sv F' := by
  unfold F.granarylaw21_desk_moves
  have hof := hop.fine
  simp [-ldA_ptr, Op.val, Op.cells, hof.1, hof.2]
  refine Run_new fun c w1 hc _ f1 hcle => ?_
  have hc1 : bk w1 c = some op.cells := by simpa [Op.cells] using hc
  have hb1 : bk w1 D = some l := f1.bk_some h.blk id
  have hw1 : wr w1 D = true := by rw [f1.wr (bk_lt h.blk) id]; exact h.wr
  have s1 := f1.size
  have hDl := bk_lt h.blk
  have dx1 : DX rows wt n w1 F' st ov rv := h.dx.fr f1 fun _ h => h.elim
  have fb1 : ∀ c, F' c → c < w1.heap.size := fun c hc => by have := (h.fb c hc).2.1; omega
  have lo := h.lo
  have lr := h.lr
  have hldm : ldA 11 (.pointer (some ⟨c, 3, none⟩)) w1 = some op.m.val := by rw [ldA_bk hc1 (by simp [Op.cells])]; rfl
  have fd1 : Fr (fun _ => False) w1 w1.drew := (Fr.refl (fun _ => False) w1).drew
  obtain ⟨Q1, q1⟩ : ∃ Q1 : Out → World → Prop, ∀ a w', Q1 a w' ↔ ∃ out want e lst, a = .norm [out, want, .int .i64 e, .int .i64 e] ∧ SlW 11 w' out (elMR lst) ∧ Sl 11 w' want (elMR lst) ∧ lst.length ≤ 1 ∧ (∀ m ∈ lst, MStr m) ∧
      (∀ c, inB out c → w.heap.size ≤ c ∧ c < w'.heap.size) ∧ (∀ c, inB want c → w.heap.size ≤ c ∧ c < w'.heap.size) ∧ Fr F' w w' ∧ ∃ st' F'', DX rows wt (n + 1) w' F'' st' ov rv ∧ ∀ c, F'' c → ext F' w w' c ∧ ¬ inB out c := ⟨_, fun _ _ => Iff.rfl⟩
  have wide : ∀ (wa w3 : World), w.heap.size ≤ wa.heap.size → ∀ c, ext F' wa w3 c → ext F' w w3 c := by
    rintro wa w3 hh c (hc | hc)
    · exact .inl hc
    · exact .inr ⟨by omega, hc.2⟩
  refine Run.mono (Q := Q1) ?_ ?_
  · by_cases k1 : op.kind = 1
    · simp [-ldA_ptr, hc1, Op.cells, k1, hb1, lo]
      have t := two_begin (w := w1.drew) cfg (by omega) (dx1.fr fd1 fun _ h => h.elim) fb1 op.n
      refine Run.mono t ?_
      rintro _ w2 ⟨out, e, rfl, f2, cont⟩
      have hb2 : bk w2 D = some l := f2.bk_some (w := w1.drew) hb1 fun hf => (h.fb D hf).2.2 rfl
      have hc2 : bk w2 c = some op.cells := f2.bk_some (w := w1.drew) hc1 fun hf => by have := (h.fb c hf).2.1; omega
      simp [-ldA_ptr, hc2, Op.cells, hb2, lr]
      refine (cont w2.drew (Fr.refl (fun _ => False) w2).drew).mono ?_
      rintro _ w3 ⟨want, lst, rfl, a1, a2, a3, a4, a5, a6, a7, a8, st', F'', a9, a10⟩
      simp
      have d1 : w1.drew.heap.size = w1.heap.size := rfl
      exact (q1 _ _).2 ⟨out, want, e, lst, rfl, a1, a2, a3, a4, fun c hc => by have := a5 c hc; omega, fun c hc => by have := a6 c hc; omega, (f1.drew.mono fun _ h => h.elim).trans a7 fun _ _ h => h, st', F'', a9.mono (by omega), fun c hc => ⟨wide w1.drew w3 (by omega) c (a10 c hc).1, (a10 c hc).2⟩⟩
    by_cases k2 : op.kind = 2
    · simp [-ldA_ptr, hc1, Op.cells, k1, k2, hb1, lo, hldm]
      have t := two_tell (w := w1.drew) cfg (by omega) (dx1.fr fd1 fun _ h => h.elim) fb1 hop
      refine Run.mono t ?_
      rintro _ w2 ⟨out, e, rfl, f2, cont⟩
      have hb2 : bk w2 D = some l := f2.bk_some (w := w1.drew) hb1 fun hf => (h.fb D hf).2.2 rfl
      have hc2 : bk w2 c = some op.cells := f2.bk_some (w := w1.drew) hc1 fun hf => by have := (h.fb c hf).2.1; omega
      have hldm2 : ldA 11 (.pointer (some ⟨c, 3, none⟩)) w2 = some op.m.val := by rw [ldA_bk hc2 (by simp [Op.cells])]; rfl
      simp [-ldA_ptr, hc2, Op.cells, hb2, lr, hldm2]
      refine (cont w2.drew (Fr.refl (fun _ => False) w2).drew).mono ?_
      rintro _ w3 ⟨want, lst, rfl, a1, a2, a3, a4, a5, a6, a7, a8, st', F'', a9, a10⟩
      simp
      have d1 : w1.drew.heap.size = w1.heap.size := rfl
      exact (q1 _ _).2 ⟨out, want, e, lst, rfl, a1, a2, a3, a4, fun c hc => by have := a5 c hc; omega, fun c hc => by have := a6 c hc; omega, (f1.drew.mono fun _ h => h.elim).trans a7 fun _ _ h => h, st', F'', a9.mono (by omega), fun c hc => ⟨wide w1.drew w3 (by omega) c (a10 c hc).1, (a10 c hc).2⟩⟩
    by_cases k3 : op.kind = 3
    · simp [-ldA_ptr, hc1, Op.cells, k1, k2, k3, hb1, lo]
      have t := two_tick cfg (by omega) dx1 fb1
      refine Run.mono t ?_
      rintro _ w2 ⟨out, e, rfl, f2, cont⟩
      have hb2 : bk w2 D = some l := f2.bk_some hb1 fun hf => (h.fb D hf).2.2 rfl
      simp [-ldA_ptr, hb2, lr]
      refine (cont w2 (Fr.refl (fun _ => False) w2)).mono ?_
      rintro _ w3 ⟨want, lst, rfl, a1, a2, a3, a4, a5, a6, a7, a8, st', F'', a9, a10⟩
      simp
      exact (q1 _ _).2 ⟨out, want, e, lst, rfl, a1, a2, a3, a4, fun c hc => by have := a5 c hc; omega, fun c hc => by have := a6 c hc; omega, (f1.mono fun _ h => h.elim).trans a7 fun _ _ h => h, st', F'', a9, fun c hc => ⟨wide w1 w3 (by omega) c (a10 c hc).1, (a10 c hc).2⟩⟩
    · simp [-ldA_ptr, hc1, Op.cells, k1, k2, k3]
      exact (q1 _ _).2 ⟨_, _, 0, [], rfl, SlW.nil _ _, Sl.nil _ _, by simp, by simp, fun c hc => hc.elim, fun c hc => hc.elim, f1.mono fun _ h => h.elim, st, F', dx1.mono (by omega), fun c hc => ⟨.inl hc, fun h => h.elim⟩⟩
  rintro a w3 ha
  obtain ⟨out, want, e, lst, rfl, a1, a2, a3, a4, a5, a6, a7, st', F'', a9, a10⟩ := (q1 _ _).1 ha
  have hb3 : bk w3 D = some l := a7.bk_some h.blk fun hf => (h.fb D hf).2.2 rfl
  have hw3 : wr w3 D = true := by rw [a7.wr hDl fun hf => (h.fb D hf).2.2 rfl]; exact h.wr
  have hoc := a1.1.isCell
  have lx := h.lx
  have s3 := a7.size
  have hok : o + 3 + 1 ≤ l.length := by omega
  simp [hb3, hw3, cells_isCell hoc, hoc, hok]
  have hb4 : bk (sto w3 D (o + 3) [out]) D = some ((l.set (o + 3) out).set (o + 2) sv) := by
    rw [bk_sto_eq, hb3]
    simp only [Option.map_some, setL_cons, setL_nil]
    rw [set_same (l := l.set (o + 3) out) (i := o + 2) (v := sv) (by rw [List.getElem?_set_ne (by omega)]; exact h.ls)]
  have hw4 : wr (sto w3 D (o + 3) [out]) D = true := by simp [hw3]
  have g4 : Fr (fun c => c = D) w3 (sto w3 D (o + 3) [out]) := (Fr.refl (fun c => c = D) w3).sto (.inl rfl) _ _
  have hsz4 : (sto w3 D (o + 3) [out]).heap.size = w3.heap.size := size_sto _ _ _ _
  generalize sto w3 D (o + 3) [out] = w4 at *
  have hsv3 : SlW 11 w3 sv (elMR sent) := h.hsent.fr a7 fun c hc => (h.sb c hc).2.2.2
  have hsv4 : SlW 11 w4 sv (elMR sent) := hsv3.fr g4 fun c hc => (h.sb c hc).2.2.1
  have out4 : SlW 11 w4 out (elMR lst) := a1.fr g4 fun c hc he => by have := a5 c hc; omega
  have want4 : Sl 11 w4 want (elMR lst) := a2.fr g4 fun c hc he => by have := a6 c hc; omega
  have hnF : ∀ c, (c = D ∨ inB sv c) → ¬ ext F' w w3 c := by
    rintro c (hc | hc) (hf | hf)
    · exact (h.fb c hf).2.2 hc
    · omega
    · exact (h.sb c hc).2.2.2 hf
    · have := (h.sb c hc).2.1; omega
  have dx4 : DX rows wt (n + 1) w4 F'' st' ov rv := a9.fr g4 fun c hc hf => hnF c (.inl hc) (a10 c hf).1
  have hwl := want4.lenL
  simp only [elMR_len] at hwl
  have hsl := h.slen
  obtain ⟨Q2, q2⟩ : ∃ Q2 : Out → World → Prop, ∀ a w', Q2 a w' ↔ ∃ i svi, a = .exit 1 [i] ∧ bk w' D = some ((l.set (o + 3) out).set (o + 2) svi) ∧ wr w' D = true ∧ SlW 11 w' svi (elMR (sent ++ lst)) ∧ (∀ c, inB svi c → inB sv c ∨ (w4.heap.size ≤ c ∧ c < w'.heap.size)) ∧ Fr (fun c => c = D ∨ inB sv c) w4 w' := ⟨_, fun _ _ => Iff.rfl⟩
  refine Run.mono (Q := Q2) (Run_for lst.length (fun i s w' => s = [.int .i64 i] ∧ ∃ svi, bk w' D = some ((l.set (o + 3) out).set (o + 2) svi) ∧ wr w' D = true ∧ SlW 11 w' svi (elMR (sent ++ lst.take i)) ∧ (∀ c, inB svi c → inB sv c ∨ (w4.heap.size ≤ c ∧ c < w'.heap.size)) ∧ Fr (fun c => c = D ∨ inB sv c) w4 w')
    ⟨rfl, sv, hb4, hw4, by simpa using hsv4, fun c hc => .inl hc, Fr.refl _ _⟩ ?_ ?_) ?_
  · rintro i s w5 hi ⟨rfl, svi, hb5, hw5, hs5, hsb5, f5⟩
    have ei : lst[i]? = some lst[i] := List.getElem?_eq_getElem hi
    generalize lst[i] = m at ei
    have hm := (a4 m (List.mem_of_getElem? ei)).fine
    have want5 : Sl 11 w5 want (elMR lst) := want4.fr f5 fun c hc => by
      rintro (he | he)
      · have := a6 c hc; omega
      · have := a6 c hc; have := (h.sb c he).2.1; omega
    obtain ⟨p, p1, p2⟩ := want5.rdA (by decide) (elMR_some ei) .i64
    have p2' : ldA 11 p w5 = some m.val := p2
    have ws := wrap_succ (n := i) (by omega)
    have hi' : (i : Int) < lst.length := by omega
    have lsi : ((l.set (o + 3) out).set (o + 2) svi)[o + 2]? = some svi := by rw [List.getElem?_set_self (by simp; omega)]
    have hll : ((l.set (o + 3) out).set (o + 2) svi).length = l.length := by simp
    simp only [getL_zero, hwl, binV_int, intBin_lss, hi', decide_true, Run_bindO_some, Run_condM_true, Run_drewM, Run_getM, Run_bind, nilChk_ptr, fieldA_ptr, Run_rdM, ld1_ptr, bk_drew, hb5, Option.bind_some, lsi, Option.some.injEq, exists_eq_left', p1, ldA_drew, p2']
    refine Run_app1 (k := 11) (by simp [Ms.val, Ms.cells]) (hs5.fr (Fr.refl (fun _ => False) w5).drew fun _ _ => id) (by decide) rfl (by decide) (by simpa [Ms.val] using Ms.cells_all6 hm) (by simp; omega) fun svj w6 hs6 f6 hin w16 f16 => ?_
    have d5 : w5.drew.heap.size = w5.heap.size := rfl
    have s5 := f5.size
    have hDs : ¬ inB svi D := fun he => by
      rcases hsb5 D he with h' | h'
      · exact (h.sb D h').2.2.1 rfl
      · omega
    have hb6 : bk w6 D = some ((l.set (o + 3) out).set (o + 2) svi) := f6.bk_some (w := w5.drew) hb5 hDs
    have hw6 : wr w6 D = true := by rw [f6.wr (w := w5.drew) (bk_lt (w := w5.drew) hb5) hDs]; exact hw5
    have hb16 : bk w16 D = some ((l.set (o + 3) out).set (o + 2) svi) := f16.bk_some (w := w5.drew) hb5 id
    have hjc := hs6.1.isCell
    have hok2 : o + 2 + 1 ≤ l.length := by omega
    simp [hb6, hw6, cells_isCell hjc, hjc, hok2, ws, hb16]
    have g7 : Fr (fun c => c = D) w6 (sto w6 D (o + 2) [svj]) := (Fr.refl (fun c => c = D) w6).sto (.inl rfl) _ _
    have hsz7 : (sto w6 D (o + 2) [svj]).heap.size = w6.heap.size := size_sto _ _ _ _
    have s6 := f6.size
    have hjb : ∀ c, inB svj c → inB sv c ∨ (w4.heap.size ≤ c ∧ c < w6.heap.size) := fun c hc => by
      rcases hin c hc with h' | h'
      · rcases hsb5 c h' with h'' | h''
        · exact .inl h''
        · exact .inr (by omega)
      · exact .inr (by omega)
    have hjD : ∀ c, inB svj c → c ≠ D := fun c hc he => by
      rcases hjb c hc with h' | h'
      · exact (h.sb c h').2.2.1 he
      · omega
    have hlt2 : o + 2 < l.length := by omega
    simp only [List.getElem?_set_self, List.length_set, hlt2, Option.some.injEq]
    refine ⟨trivial, svj, rfl, ?_, hjb, ?_⟩
    · have h7 := hs6.fr g7 hjD
      rw [List.take_add_one, ei]
      rw [show sent ++ (List.take i lst ++ (some m).toList) = (sent ++ List.take i lst) ++ [m] by simp, ← elMR_app]
      exact h7
    · exact ((f5.drew.trans f6 fun c hc hi => by
        rcases hsb5 c hi with h' | h'
        · exact .inr h'
        · omega).trans (g7.mono fun c hc => (Or.inl hc : c = D ∨ inB sv c)) fun _ _ h => h)
  · rintro s w5 ⟨rfl, svi, hb5, hw5, hs5, hsb5, f5⟩
    rw [List.take_length] at hs5
    have hi' : ¬ (lst.length : Int) < lst.length := by omega
    simp [hwl]
    exact (q2 _ _).2 ⟨_, svi, rfl, hb5, hw5, hs5, hsb5, f5⟩
  rintro a w5 ha
  obtain ⟨i, svi, rfl, hb5, hw5, hs5, hsb5, f5⟩ := (q2 _ _).1 ha
  have s5 := f5.size
  have hfar : ∀ c, w.heap.size ≤ c → ¬ (c = D ∨ inB sv c) := by
    rintro c hc (he | he)
    · omega
    · have := (h.sb c he).2.1; omega
  have out5 : SlW 11 w5 out (elMR lst) := out4.fr f5 fun c hc => hfar c (a5 c hc).1
  have want5 : Sl 11 w5 want (elMR lst) := want4.fr f5 fun c hc => hfar c (a6 c hc).1
  simp
  refine (sameMsgs_run out5.1 want5 (by omega) a4).mono ?_
  rintro _ w6 ⟨rfl, f6⟩
  have f46 : Fr (fun c => c = D ∨ inB sv c) w4 w6 := f5.trans f6 fun _ _ h => h.elim
  have f6' := f6.size
  have dx6 : DX rows wt (n + 1) w6 F'' st' ov rv := dx4.fr f46 fun c hc hf => hnF c hc (a10 c hf).1
  have hb6 : bk w6 D = some ((l.set (o + 3) out).set (o + 2) svi) := f6.bk_some hb5 id
  have hw6 : wr w6 D = true := by rw [f6.wr (bk_lt hb5) id]; exact hw5
  have hlen : ((l.set (o + 3) out).set (o + 2) svi).length = l.length := by simp
  have hdlo := h.dlo
  simp [num_run]
  refine ⟨st', sent ++ lst, svi, out, F'', ⟨hb6, hw6, ?_, ?_, ?_, by rw [hlen]; exact lx, dx6, ?_, hs5.fr f6 fun _ _ => id, ?_, ?_, by simp; omega, hdlo⟩, ?_, ?_, ?_, ⟨lst, out5.fr f6 fun _ _ => id, a3, a4⟩, fun c hc => ⟨(a5 c hc).1, by have := (a5 c hc).2; omega⟩, fun c hc => ⟨fun hf => (a10 c hf).2 hc, fun hi => ?_⟩⟩
  · rw [List.getElem?_set_ne (by omega), List.getElem?_set_ne (by omega)]; exact lo
  · rw [List.getElem?_set_ne (by omega), List.getElem?_set_ne (by omega)]; exact lr
  · rw [List.getElem?_set_self (by simp; omega)]
  · intro c hf
    rcases (a10 c hf).1 with hc | hc
    · obtain ⟨h1, h2, h3⟩ := h.fb c hc
      exact ⟨h1, by omega, h3⟩
    · exact ⟨by omega, by omega, by omega⟩
  · intro c hc
    rcases hsb5 c hc with h' | h'
    · obtain ⟨h1, h2, h3, h4⟩ := h.sb c h'
      refine ⟨h1, by omega, h3, fun hf => ?_⟩
      rcases (a10 c hf).1 with hf | hf
      · exact h4 hf
      · omega
    · refine ⟨by omega, by omega, by omega, fun hf => ?_⟩
      rcases (a10 c hf).1 with hf | hf
      · have := (h.fb c hf).2.1; omega
      · omega
  · intro m hm
    rcases List.mem_append.1 hm with hm | hm
    · exact h.str m hm
    · exact a4 m hm
  · refine ((a7.mono fun c hc => (Or.inr (Or.inl hc) : c = D ∨ F' c ∨ inB sv c)).trans (g4.mono fun c hc => (Or.inl hc : c = D ∨ F' c ∨ inB sv c)) fun _ _ h => h).trans f46 ?_
    rintro c _ (hc | hc)
    · exact .inl hc
    · exact .inr (.inr hc)
  · intro c hf
    rcases (a10 c hf).1 with hc | hc
    · exact .inl hc
    · exact .inr hc.1
  · intro c hc
    rcases hsb5 c hc with h' | h'
    · exact .inl h'
    · exact .inr (by omega)
  · have h5 := a5 c hc
    rcases hsb5 c hi with h' | h'
    · have := (h.sb c h').2.1; omega
    · omega
end

end Go.Proofs.YtiggkhmopnhfaaaDoor
