/-
  The exact laws of layer 21, part A: comparing, answering.
-/
import Derived.Test.YtiggkhmopnhfaaaDoorRefM
namespace Go.Proofs.YtiggkhmopnhfaaaDoor
open Go.Lift
set_option linter.unusedSimpArgs false
set_option maxHeartbeats 1000000

def MStr (m : Ms) : Prop := StrP (m.key, m.value)
theorem MStr.fine {m : Ms} (h : MStr m) : m.fine := h.cell
theorem elMR_some {l : List Ms} {i : Nat} {m : Ms} (h : l[i]? = some m) : (elMR l)[i]? = some m.cells := by simp [elMR, h]
theorem elMR_app (l : List Ms) (m : Ms) : elMR l ++ [m.cells] = elMR (l ++ [m]) := by simp [elMR]
theorem qm_str (r : RS) : MStr r.qm := ⟨_, _, rfl⟩
theorem goOnR_str (r : RS) : ∀ m ∈ r.goOnR.2, MStr m := by
  unfold RS.goOnR
  split
  · intro m hm; simp at hm; subst hm; exact qm_str _
  · intro m hm; cases hm
theorem leaveR_str (r : RS) : ∀ m ∈ r.leaveR.2, MStr m := by
  unfold RS.leaveR
  split
  · intro m hm; simp at hm; subst hm; exact qm_str _
  · exact goOnR_str _
theorem beginR_str (r : RS) (n : Int) : ∀ m ∈ (r.beginR n).2.1, MStr m := by
  unfold RS.beginR
  split
  · intro m hm; cases hm
  · split
    · intro m hm; cases hm
    · intro m hm; simp at hm; subst hm; exact qm_str _
theorem tickR_str (r : RS) : ∀ m ∈ r.tickR.2, MStr m := by
  unfold RS.tickR
  split
  · exact leaveR_str _
  · intro m hm; cases hm
theorem tellR_str (r : RS) (a : Ms) : ∀ m ∈ (r.tellR a).2, MStr m := by
  unfold RS.tellR
  split
  · intro m hm; cases hm
  · split
    · exact goOnR_str _
    · split
      · intro m hm; simp at hm; subst hm; exact qm_str _
      · exact leaveR_str _
theorem len_le (r : RS) : r.goOnR.2.length ≤ 1 := by unfold RS.goOnR; split <;> simp
theorem leaveR_len (r : RS) : r.leaveR.2.length ≤ 1 := by
  unfold RS.leaveR
  split
  · simp
  · exact len_le _

theorem sameMsgs_run {w : World} {av bv : Value} {l : List Ms} (ha : Sl 11 w av (elMR l)) (hb : Sl 11 w bv (elMR l)) (hl : l.length ≤ 1048576) (hs : ∀ m ∈ l, MStr m) :
    Run (F.granarylaw21_sameMsgs av bv) w fun r w' => r = .bool true ∧ Fr (fun _ => False) w w' := by
  unfold F.granarylaw21_sameMsgs
  have hal := ha.lenL
  have hbl := hb.lenL
  simp only [elMR_len] at hal hbl
  simp [hal, hbl]
  refine Run_for l.length (fun i s w' => s = [.int .i64 i] ∧ Fr (fun _ => False) w w') ⟨rfl, Fr.refl _ _⟩ ?_ ?_
  · rintro i s w1 hi ⟨rfl, f1⟩
    have ei : l[i]? = some l[i] := List.getElem?_eq_getElem hi
    generalize l[i] = m at ei
    obtain ⟨s, s', he⟩ := hs m (List.mem_of_getElem? ei)
    obtain ⟨p, p1, p2⟩ := (ha.fr0 f1).rdA (by decide) (elMR_some ei) .i64
    obtain ⟨q, q1, q2⟩ := (hb.fr0 f1).rdA (by decide) (elMR_some ei) .i64
    have wi := wrap_succ (n := i) (by omega)
    have hi' : (i : Int) < l.length := by omega
    have hk : m.key = .string s := congrArg Prod.fst he
    have hv : m.value = .string s' := congrArg Prod.snd he
    simp [-ldA_ptr, hal, hi, hi', p1, p2, q1, q2, wi, Ms.cells, hk, hv]
    exact f1.drew
  · rintro s w1 ⟨rfl, f1⟩
    simp [hal]
    exact f1
theorem sameInts_run {w : World} {av bv : Value} {l : List Int} (ha : Sl 1 w av (elI l)) (hb : Sl 1 w bv (elI l)) (hl : l.length ≤ 1048576) :
    Run (F.granarylaw21_sameInts av bv) w fun r w' => r = .bool true ∧ Fr (fun _ => False) w w' := by
  unfold F.granarylaw21_sameInts
  have hal := ha.lenL
  have hbl := hb.lenL
  simp only [elI_len] at hal hbl
  simp [hal, hbl]
  refine Run_for l.length (fun i s w' => s = [.int .i64 i] ∧ Fr (fun _ => False) w w') ⟨rfl, Fr.refl _ _⟩ ?_ ?_
  · rintro i s w1 hi ⟨rfl, f1⟩
    have ei : l[i]? = some l[i] := List.getElem?_eq_getElem hi
    generalize l[i] = n at ei
    obtain ⟨p, p1, p2⟩ := (ha.fr0 f1).rd1 (elI_some ei) .i64
    obtain ⟨q, q1, q2⟩ := (hb.fr0 f1).rd1 (elI_some ei) .i64
    have wi := wrap_succ (n := i) (by omega)
    have hi' : (i : Int) < l.length := by omega
    simp [hal, hi, hi', p1, p2, q1, q2, wi]
    exact f1.drew
  · rintro s w1 ⟨rfl, f1⟩
    simp [hal]
    exact f1
theorem samePairs_run {w : World} {av bv : Value} {l : List Pr} (ha : Sl 2 w av (elP l)) (hb : Sl 2 w bv (elP l)) (hl : l.length ≤ 1048576) (hs : ∀ p ∈ l, StrP p) :
    Run (F.granarylaw21_samePairs av bv) w fun r w' => r = .bool true ∧ Fr (fun _ => False) w w' := by
  unfold F.granarylaw21_samePairs
  have hal := ha.lenL
  have hbl := hb.lenL
  simp only [elP_len] at hal hbl
  simp [hal, hbl]
  refine Run_for l.length (fun i s w' => s = [.int .i64 i] ∧ Fr (fun _ => False) w w') ⟨rfl, Fr.refl _ _⟩ ?_ ?_
  · rintro i s w1 hi ⟨rfl, f1⟩
    have ei : l[i]? = some l[i] := List.getElem?_eq_getElem hi
    generalize l[i] = n at ei
    obtain ⟨s, s', rfl⟩ := hs n (List.mem_of_getElem? ei)
    have hee : (elP l)[i]? = some [.string s, .string s'] := by simp [elP, ei]
    obtain ⟨p, p1, p2⟩ := (ha.fr0 f1).rdA (by decide) hee .i64
    obtain ⟨q, q1, q2⟩ := (hb.fr0 f1).rdA (by decide) hee .i64
    have wi := wrap_succ (n := i) (by omega)
    have hi' : (i : Int) < l.length := by omega
    simp [-ldA_ptr, hal, hi, hi', p1, p2, q1, q2, wi]
    exact f1.drew
  · rintro s w1 ⟨rfl, f1⟩
    simp [hal]
    exact f1
theorem sameReport_run {w : World} {j v : Int} {pv mv pv' mv' : Value} {ps : List Pr} {ms : List Int} (h1 : Sl 2 w pv (elP ps)) (h2 : Sl 1 w mv (elI ms)) (h3 : Sl 2 w pv' (elP ps)) (h4 : Sl 1 w mv' (elI ms)) (hp : ps.length ≤ 1048576) (hm : ms.length ≤ 1048576) (hs : ∀ p ∈ ps, StrP p) :
    Run (F.granarylaw21_sameReport (.agg #[.int .i64 j, .int .i64 v, pv, mv]) (.agg #[.int .i64 j, .int .i64 v, pv', mv'])) w fun r w' => r = .bool true ∧ Fr (fun _ => False) w w' := by
  unfold F.granarylaw21_sameReport
  simp
  refine Run_new fun c w1 hc _ f1 _ => ?_
  refine Run_new fun d w2 hd _ f2 _ => ?_
  have hc2 := f2.bk_some hc id
  have f02 : Fr (fun _ => False) w w2 := f1.trans f2 fun _ _ => id
  simp [hc2, hd]
  refine (samePairs_run (h1.fr0 f02) (h3.fr0 f02) hp hs).mono ?_
  rintro _ w3 ⟨rfl, f3⟩
  have hc3 := f3.bk_some hc2 id
  have hd3 := f3.bk_some hd id
  have f03 : Fr (fun _ => False) w w3 := f02.trans f3 fun _ _ => id
  simp [hc3, hd3]
  refine (sameInts_run (h2.fr0 f03) (h4.fr0 f03) hm).mono ?_
  rintro _ w4 ⟨rfl, f4⟩
  simp
  exact f03.trans f4 fun _ _ => id

theorem Ms.ldA6 {m : Ms} {w : World} {b : Nat} (h : bk w b = some m.cells) : Go.Lift.ldA 11 (.pointer (some ⟨b, 0, none⟩)) w = some m.val := by
  rw [ldA_bk h (by simp [Ms.cells])]; rfl
theorem Ms.cells_all6 {m : Ms} (h : m.fine) : m.cells.all isCell = true := by simp [Ms.cells, h.1, h.2]
def Op.val (o : Op) : Value := .agg o.cells.toArray
theorem answer_run {w : World} {sv : Value} {sent : List Ms} (hs : Sl 11 w sv (elMR sent)) (hl : sent.length ≤ 4194304) (hss : ∀ m ∈ sent, MStr m) (o : Op) (ho : MStr o.m) :
    Run (F.granarylaw21_answer sv o.val) w fun r w' => ∃ m ok, r = .tuple #[m.val, .bool ok] ∧ MStr m ∧ Fr (fun _ => False) w w' := by
  unfold F.granarylaw21_answer
  have hsl := hs.lenL
  simp only [elMR_len] at hsl
  have hof := ho.fine
  simp [-ldA_ptr, Op.val, Op.cells, hof.1, hof.2]
  refine Run_new fun c w1 hc _ f1 _ => ?_
  refine Run_new fun d w2 hd hdw f2 hdle => ?_
  have hc2 := f2.bk_some hc id
  have f02 : Fr (fun _ => False) w w2 := f1.trans f2 fun _ _ => id
  have hdl : w.heap.size ≤ d := by have := f1.size; omega
  have tail : ∀ (a : Ms) (w3 : World), a.fine → Fr (fun _ => False) w2 w3 → ∃ l, bk w3 d = some l ∧ l.length = 11 ∧ wr w3 d = true := by
    intro a w3 _ f
    exact ⟨_, f.bk_some hd id, rfl, by rw [f.wr (bk_lt hd) id]; exact hdw⟩
  have res : ∀ (a : Ms) (w3 : World), bk w3 d = some [.int .i64 0, .int .i64 0, .int .i64 0, .int .i64 0, .int .i64 0, .int .i64 0, .int .i64 0, .int .i64 0, .int .i64 0, .string ByteArray.empty, .string ByteArray.empty] → ldA 11 (.pointer (some ⟨d, 0, none⟩)) (sto w3 d 0 a.cells) = some a.val := by
    intro a w3 h
    exact Ms.ldA6 (by rw [bk_sto_eq, h]; simp [Ms.cells])
  simp [-ldA_ptr, hsl, hc2]
  generalize IntKind.i64.wrap (IntKind.i64.wrap ((sent.length : Int) - 1) - o.n) = x7
  by_cases h1 : x7 < 0
  · have := res ⟨0, 0, 0, 0, 0, 0, 0, 0, 0, .string ByteArray.empty, .string ByteArray.empty⟩ w2 (by simpa using hd)
    simp [-ldA_ptr, h1, buildV, hd, hdw]
    refine ⟨_, this, ⟨0, 0, 0, 0, 0, 0, 0, 0, 0, .string ByteArray.empty, .string ByteArray.empty⟩, rfl, ⟨_, _, rfl⟩, f02.sto (.inr hdl) _ _⟩
  by_cases h2 : (sent.length : Int) ≤ x7
  · have := res ⟨0, 0, 0, 0, 0, 0, 0, 0, 0, .string ByteArray.empty, .string ByteArray.empty⟩ w2 (by simpa using hd)
    simp [-ldA_ptr, h1, h2, hsl, buildV, hd, hdw]
    refine ⟨_, this, ⟨0, 0, 0, 0, 0, 0, 0, 0, 0, .string ByteArray.empty, .string ByteArray.empty⟩, rfl, ⟨_, _, rfl⟩, f02.sto (.inr hdl) _ _⟩
  obtain ⟨i, rfl⟩ : ∃ i : Nat, x7 = i := ⟨x7.toNat, by omega⟩
  have ei : sent[i]? = some (sent[i]'(by omega)) := List.getElem?_eq_getElem _
  generalize sent[i]'(by omega) = q at ei
  obtain ⟨p, p1, p2⟩ := (hs.fr0 f02).rdA (by decide) (elMR_some ei) .i64
  have p2' : ldA 11 p w2 = some q.val := p2
  have hq := (hss q (List.mem_of_getElem? ei)).fine
  have hqv : q.val = .agg q.cells.toArray := rfl
  have h1' : ¬ (i : Int) < 0 := by omega
  simp [-ldA_ptr, h1', h2, hsl, p1, p2', hqv]
  refine Run_newSt (cs := q.cells.toArray) rfl rfl (by simpa using Ms.cells_all6 hq) fun e w3 he _ f3 _ => ?_
  have he3 : bk w3 e = some q.cells := by simpa using he
  have hc3 := f3.bk_some hc2 id
  have hd3 := f3.bk_some hd id
  have hdw3 : wr w3 d = true := by rw [f3.wr (bk_lt hd) id]; exact hdw
  have f03 : Fr (fun _ => False) w w3 := f02.trans f3 fun _ _ => id
  have := res ⟨16, q.to, q.sender, IntKind.i64.wrap (q.id + o.m.id), 0, IntKind.i64.wrap (q.seq + o.m.seq), IntKind.i64.wrap (q.version + o.m.version), IntKind.i64.wrap (q.prev + o.m.prev), o.m.code, o.m.key, o.m.value⟩ w3 (by simpa using hd3)
  simp [-ldA_ptr, he3, hc3, Ms.cells, buildV, fillV_cell, hof.1, hof.2, hd3, hdw3]
  exact ⟨_, this, ⟨16, q.to, q.sender, IntKind.i64.wrap (q.id + o.m.id), 0, IntKind.i64.wrap (q.seq + o.m.seq), IntKind.i64.wrap (q.version + o.m.version), IntKind.i64.wrap (q.prev + o.m.prev), o.m.code, o.m.key, o.m.value⟩, rfl, ho, f03.sto (.inr hdl) _ _⟩

end Go.Proofs.YtiggkhmopnhfaaaDoor
namespace Go.Proofs.YtiggkhmopnhfaaaDoor
open Go.Lift
set_option linter.unusedSimpArgs false
set_option maxHeartbeats 1000000

abbrev Ptr (b : Nat) : Value := .pointer (some ⟨b, 0, none⟩)
structure Cfg (rows : List (List Int)) (R : Nat) (wt : Int) : Prop where
  hR : ∀ z ∈ rows, z.length = R
  hR1 : 1 ≤ R
  hR16 : R ≤ 16
  hP : 1 ≤ rows.length
  hwt : 1 ≤ wt ∧ wt ≤ 1024
/-- Two exporters in w, or none; all of it in F. -/
def DX (rows : List (List Int)) (wt n : Int) (w : World) (F : Nat → Prop) : Option (XS × RS) → Value → Value → Prop
  | none, ov, rv => ov = .pointer none ∧ rv = .pointer none
  | some (x, r), ov, rv => ∃ b v tag b' v' ro foot, ov = Ptr b ∧ rv = Ptr b' ∧ Exp w b x v tag ∧ XOk x ∧ Bis rows wt n x r ∧ RM w b' r v' ro foot ∧ (∀ c, tag c ≠ 0 → F c ∧ ¬ foot c) ∧ (∀ c, foot c → F c)

section
variable {rows : List (List Int)} {R : Nat} {wt n : Int} {w w' w1 w1' w2 : World} {F' : Nat → Prop} {st : Option (XS × RS)} {ov rv : Value}
theorem Exp.fr {b : Nat} {x : XS} {v : XV} {tag : Nat → Nat} {G : Nat → Prop} (h : Exp w b x v tag) (f : Fr G w w') (hG : ∀ c, G c → tag c = 0) : Exp w' b x v tag :=
  ⟨h.x0.fr f fun c hc => ⟨by rw [hG c hc]; decide, fun he => by have := h.x0.tb; rw [← he, hG c hc] at this; cases this⟩,
    fun hb => ⟨(h.busy hb).1.fr f fun c hc => by rw [hG c hc]; exact ⟨by decide, by decide⟩, (h.busy hb).2.fr f fun c hc => by rw [hG c hc]; exact ⟨by decide, by decide⟩⟩⟩
theorem DX.fr {G : Nat → Prop} (h : DX rows wt n w F' st ov rv) (f : Fr G w w') (hG : ∀ c, G c → ¬ F' c) : DX rows wt n w' F' st ov rv := by
  cases st with
  | none => exact h
  | some p =>
    obtain ⟨x, r⟩ := p
    obtain ⟨b, v, tag, b', v', ro, foot, h1, h2, h3, h4, h5, h6, h7, h8⟩ := h
    refine ⟨b, v, tag, b', v', ro, foot, h1, h2, h3.fr f fun c hc => ?_, h4, h5, h6.fr f fun c hc hf => hG c hc (h8 c hf), h7, h8⟩
    by_cases h0 : tag c = 0
    · exact h0
    · exact absurd (h7 c h0).1 (hG c hc)
theorem DX.wider {F'' : Nat → Prop} (h : DX rows wt n w F' st ov rv) (hF : ∀ c, F' c → F'' c) : DX rows wt n w F'' st ov rv := by
  cases st with
  | none => exact h
  | some p =>
    obtain ⟨x, r⟩ := p
    obtain ⟨b, v, tag, b', v', ro, foot, h1, h2, h3, h4, h5, h6, h7, h8⟩ := h
    exact ⟨b, v, tag, b', v', ro, foot, h1, h2, h3, h4, h5, h6, fun c hc => ⟨hF c (h7 c hc).1, (h7 c hc).2⟩, fun c hc => hF c (h8 c hc)⟩
theorem DX.mono {m : Int} (h : DX rows wt n w F' st ov rv) (hm : n ≤ m) : DX rows wt m w F' st ov rv := by
  cases st with
  | none => exact h
  | some p =>
    obtain ⟨x, r⟩ := p
    obtain ⟨b, v, tag, b', v', ro, foot, h1, h2, h3, h4, h5, h6⟩ := h
    exact ⟨b, v, tag, b', v', ro, foot, h1, h2, h3, h4, h5.mono hm, h6⟩

/-- A call on both: the answers are alike. -/
def Two (rows : List (List Int)) (wt n : Int) (w : World) (F' : Nat → Prop) (own ref : M Value) (ov rv : Value) : Prop :=
  Run own w fun a w1 => ∃ out e, a = .tuple #[out, .int .i64 e] ∧ Fr F' w w1 ∧ ∀ w1', Fr (fun _ => False) w1 w1' → Run ref w1' fun a' w2 => ∃ want l, a' = .tuple #[want, .int .i64 e] ∧ SlW 11 w2 out (elMR l) ∧ Sl 11 w2 want (elMR l) ∧ l.length ≤ 1 ∧ (∀ m ∈ l, MStr m) ∧
    (∀ c, inB out c → w.heap.size ≤ c ∧ c < w2.heap.size) ∧ (∀ c, inB want c → w.heap.size ≤ c ∧ c < w2.heap.size) ∧ Fr F' w w2 ∧ w1'.heap.size ≤ w2.heap.size ∧ ∃ st' F'', DX rows wt n w2 F'' st' ov rv ∧ ∀ c, F'' c → ext F' w w2 c ∧ ¬ inB out c

theorem dx_mid {b b' : Nat} {x' : XS} {r : RS} {tag : Nat → Nat} {v' : RV} {ro foot : Nat → Prop} (hb : ∀ c, F' c → c < w.heap.size) (h6 : RM w b' r v' ro foot) (h7 : ∀ c, tag c ≠ 0 → F' c ∧ ¬ foot c) (h8 : ∀ c, foot c → F' c) {out : Value} (hd : Did w w1 b tag x' out) (f1 : Fr (fun _ => False) w1 w1') :
    RM w1' b' r v' ro foot ∧ ∀ c, foot c → c < w1'.heap.size := by
  have s1 := hd.fr.size
  have s2 := f1.size
  exact ⟨(h6.fr hd.fr fun c hc => (h7 c hc).2).fr0 f1, fun c hc => by have := hb c (h8 c hc); omega⟩
theorem dx_join {b b' : Nat} {x' : XS} {r' : RS} {tag : Nat → Nat} {foot : Nat → Prop} (hb : ∀ c, F' c → c < w.heap.size) (h7 : ∀ c, tag c ≠ 0 → F' c ∧ ¬ foot c) (h8 : ∀ c, foot c → F' c) {out : Value} (hd : Did w w1 b tag x' out) (hnew : New w w1 out) (hok : XOk x') (f1 : Fr (fun _ => False) w1 w1') (hr : RDid w1' w2 b' foot r') (hbis : Bis rows wt n x' r') :
    Fr F' w w1 ∧ Fr F' w w2 ∧ ∃ F'' : Nat → Prop, DX rows wt n w2 F'' (some (x', r')) (Ptr b) (Ptr b') ∧ ∀ c, F'' c → ext F' w w2 c ∧ ¬ inB out c := by
  obtain ⟨v1, tag1, he, ht⟩ := hd.exp
  obtain ⟨v2, ro2, hm⟩ := hr.mem
  have s1 := hd.fr.size
  have s2 := f1.size
  have s3 := hr.fr.size
  have g1 : Fr F' w w1 := hd.fr.mono fun c hc => (h7 c hc).1
  have g2 : Fr F' w w2 := (g1.trans f1 fun _ _ h => h.elim).trans hr.fr fun c _ hc => h8 c hc
  have hfoot : ∀ c, foot c → tag1 c = 0 := by
    intro c hc
    by_cases h0 : tag1 c = 0
    · exact h0
    · rcases (ht c h0).1 with h | h
      · exact absurd hc (h7 c h).2
      · have := hb c (h8 c hc); omega
  have htb : ∀ c, tag1 c ≠ 0 → c < w1.heap.size := he.x0.bound
  refine ⟨g1, g2, fun c => tag1 c ≠ 0 ∨ ext foot w1' w2 c, ⟨b, v1, tag1, b', v2, ro2, ext foot w1' w2, rfl, rfl, ((he.fr f1 fun _ h => h.elim).fr hr.fr hfoot), hok, hbis, hm, fun c hc => ⟨.inl hc, ?_⟩, fun c hc => .inr hc⟩, ?_⟩
  · rintro (h | h)
    · exact hc (hfoot c h)
    · have := htb c hc; omega
  · rintro c (hc | h | h)
    · refine ⟨?_, (ht c hc).2⟩
      rcases (ht c hc).1 with h | h
      · exact .inl (h7 c h).1
      · have := htb c hc; exact .inr ⟨h, by omega⟩
    · exact ⟨.inl (h8 c h), fun hi => by have := (hnew c hi).1; have := hb c (h8 c h); omega⟩
    · exact ⟨.inr ⟨by omega, h.2⟩, fun hi => by have := (hnew c hi).2; omega⟩

theorem two_begin (cfg : Cfg rows R wt) (hn : n ≤ 1073741824) (h : DX rows wt n w F' st ov rv) (hb : ∀ c, F' c → c < w.heap.size) (k : Int) : Two rows wt n w F' (F.export_Export_Begin ov (.int .i64 k)) (F.granaryref21_Export_Begin rv (.int .i64 k)) ov rv := by
  unfold Two
  cases st with
  | none =>
    obtain ⟨rfl, rfl⟩ := h
    have e1 : Run (F.export_Export_Begin (.pointer none) (.int .i64 k)) w fun a w1 => a = .tuple #[.slice none 0 0, .int .i64 2] ∧ w1 = w := by unfold F.export_Export_Begin; simp
    refine e1.mono ?_
    rintro _ _ ⟨rfl, rfl⟩
    refine ⟨_, _, rfl, Fr.refl _ _, fun w1' f => ?_⟩
    have e2 : Run (F.granaryref21_Export_Begin (.pointer none) (.int .i64 k)) w1' fun a w2 => a = .tuple #[.slice none 0 0, .int .i64 2] ∧ w2 = w1' := by unfold F.granaryref21_Export_Begin; simp
    refine e2.mono ?_
    rintro _ _ ⟨rfl, rfl⟩
    exact ⟨_, [], rfl, SlW.nil _ _, Sl.nil _ _, by simp, by simp, fun c hc => hc.elim, fun c hc => hc.elim, f.mono fun _ h => h.elim, Nat.le_refl _, none, fun _ => False, ⟨rfl, rfl⟩, fun c hc => hc.elim⟩
  | some p =>
    obtain ⟨x, r⟩ := p
    obtain ⟨b, v, tag, b', v', ro, foot, rfl, rfl, h3, h4, h5, h6, h7, h8⟩ := h
    obtain ⟨hb1, hb2, hb3⟩ := bis_begin cfg.hR cfg.hR1 cfg.hP cfg.hwt hn h5 k
    refine (begin_run h3 h4 k).mono ?_
    rintro _ w1 ⟨out, rfl, hd, hs, hnew⟩
    refine ⟨out, _, rfl, hd.fr.mono fun c hc => (h7 c hc).1, fun w1' f => ?_⟩
    obtain ⟨m1, m2⟩ := dx_mid hb h6 h7 h8 hd f
    have hrows : r.rows ≠ [] := by intro he; have := cfg.hP; rw [← h5.base.rr, he] at this; simp at this
    refine (begin21_run m1 (rok cfg.hR cfg.hR1 cfg.hR16 h4 h5) hrows m2 k).mono ?_
    rintro _ w2 ⟨hr, want, rfl, hs', hnew'⟩
    obtain ⟨g1, g2, g3⟩ := dx_join hb h7 h8 hd hnew (h4.beginS k) f hr hb1
    have s1 := hd.fr.size
    have s2 := f.size
    have s3 := hr.fr.size
    refine ⟨want, (r.beginR k).2.1, by rw [hb3], ?_, hs'.1, ?_, beginR_str r k, fun c hc => by have := hnew c hc; omega, fun c hc => by have := hnew' c hc; omega, g2, s3, _, g3⟩
    · rw [← hb2]
      exact (hs.fr f fun _ _ => id).fr hr.fr fun c hc hf => by have := hnew c hc; have := hb c (h8 c hf); omega
    · unfold RS.beginR
      split
      · simp
      · split <;> simp
theorem two_tick (cfg : Cfg rows R wt) (hn : n + 1 ≤ 1073741824) (h : DX rows wt n w F' st ov rv) (hb : ∀ c, F' c → c < w.heap.size) : Two rows wt (n + 1) w F' (F.export_Export_Tick ov) (F.granaryref21_Export_Tick rv) ov rv := by
  unfold Two
  cases st with
  | none =>
    obtain ⟨rfl, rfl⟩ := h
    have e1 : Run (F.export_Export_Tick (.pointer none)) w fun a w1 => a = .tuple #[.slice none 0 0, .int .i64 2] ∧ w1 = w := by unfold F.export_Export_Tick; simp
    refine e1.mono ?_
    rintro _ _ ⟨rfl, rfl⟩
    refine ⟨_, _, rfl, Fr.refl _ _, fun w1' f => ?_⟩
    have e2 : Run (F.granaryref21_Export_Tick (.pointer none)) w1' fun a w2 => a = .tuple #[.slice none 0 0, .int .i64 2] ∧ w2 = w1' := by unfold F.granaryref21_Export_Tick; simp
    refine e2.mono ?_
    rintro _ _ ⟨rfl, rfl⟩
    exact ⟨_, [], rfl, SlW.nil _ _, Sl.nil _ _, by simp, by simp, fun c hc => hc.elim, fun c hc => hc.elim, f.mono fun _ h => h.elim, Nat.le_refl _, none, fun _ => False, ⟨rfl, rfl⟩, fun c hc => hc.elim⟩
  | some p =>
    obtain ⟨x, r⟩ := p
    obtain ⟨b, v, tag, b', v', ro, foot, rfl, rfl, h3, h4, h5, h6, h7, h8⟩ := h
    obtain ⟨hb1, hb2⟩ := bis_tick cfg.hR cfg.hR1 cfg.hwt hn h5
    refine (tick_run h3 h4).mono ?_
    rintro _ w1 ⟨out, rfl, hd, hs, hnew⟩
    refine ⟨out, _, rfl, hd.fr.mono fun c hc => (h7 c hc).1, fun w1' f => ?_⟩
    obtain ⟨m1, m2⟩ := dx_mid hb h6 h7 h8 hd f
    refine (tick21_run m1 (rok cfg.hR cfg.hR1 cfg.hR16 h4 h5) m2).mono ?_
    rintro _ w2 ⟨hr, want, rfl, hs', hnew'⟩
    obtain ⟨g1, g2, g3⟩ := dx_join hb h7 h8 hd hnew h4.tickS f hr hb1
    have s1 := hd.fr.size
    have s2 := f.size
    have s3 := hr.fr.size
    refine ⟨want, r.tickR.2, rfl, ?_, hs'.1, ?_, tickR_str r, fun c hc => by have := hnew c hc; omega, fun c hc => by have := hnew' c hc; omega, g2, s3, _, g3⟩
    · rw [← hb2]
      exact (hs.fr f fun _ _ => id).fr hr.fr fun c hc hf => by have := hnew c hc; have := hb c (h8 c hf); omega
    · unfold RS.tickR
      split
      · exact leaveR_len _
      · simp
theorem two_tell (cfg : Cfg rows R wt) (hn : n ≤ 1073741824) (h : DX rows wt n w F' st ov rv) (hb : ∀ c, F' c → c < w.heap.size) {m : Ms} (hm : MStr m) : Two rows wt n w F' (F.export_Export_Take ov m.val) (F.granaryref21_Export_Take rv m.val) ov rv := by
  unfold Two
  cases st with
  | none =>
    obtain ⟨rfl, rfl⟩ := h
    have e1 : Run (F.export_Export_Take (.pointer none) m.val) w fun a w1 => a = .tuple #[.slice none 0 0, .int .i64 2] ∧ Fr (fun _ => False) w w1 := by
      unfold F.export_Export_Take
      simp [Ms.val]
      refine Run_new fun c w1 hc hcw f1 hcle => ?_
      first
        | exact f1
        | exact ⟨rfl, f1⟩
        | exact f1.drew
        | exact ⟨rfl, f1.drew⟩
    refine e1.mono ?_
    rintro _ w1 ⟨rfl, f1⟩
    refine ⟨_, _, rfl, f1.mono fun _ h => h.elim, fun w1' f => ?_⟩
    have e2 : Run (F.granaryref21_Export_Take (.pointer none) m.val) w1' fun a w2 => a = .tuple #[.slice none 0 0, .int .i64 2] ∧ Fr (fun _ => False) w1' w2 := by
      unfold F.granaryref21_Export_Take
      simp [Ms.val]
      refine Run_new fun c w1 hc hcw f1 hcle => ?_
      first
        | exact f1
        | exact ⟨rfl, f1⟩
        | exact f1.drew
        | exact ⟨rfl, f1.drew⟩
    refine e2.mono ?_
    rintro _ w2 ⟨rfl, f2⟩
    exact ⟨_, [], rfl, SlW.nil _ _, Sl.nil _ _, by simp, by simp, fun c hc => hc.elim, fun c hc => hc.elim, ((f1.trans f fun _ _ => id).trans f2 fun _ _ => id).mono fun _ h => h.elim, f2.size, none, fun _ => False, ⟨rfl, rfl⟩, fun c hc => hc.elim⟩
  | some p =>
    obtain ⟨x, r⟩ := p
    obtain ⟨b, v, tag, b', v', ro, foot, rfl, rfl, h3, h4, h5, h6, h7, h8⟩ := h
    obtain ⟨hb1, hb2⟩ := bis_tell cfg.hR cfg.hR1 cfg.hwt hn h4 h5 hm
    refine (tell_run h3 h4 hm.fine).mono ?_
    rintro _ w1 ⟨out, rfl, hd, hs, hnew⟩
    refine ⟨out, _, rfl, hd.fr.mono fun c hc => (h7 c hc).1, fun w1' f => ?_⟩
    obtain ⟨m1, m2⟩ := dx_mid hb h6 h7 h8 hd f
    refine (tell21_run m1 (rok cfg.hR cfg.hR1 cfg.hR16 h4 h5) m2 hm.fine).mono ?_
    rintro _ w2 ⟨hr, want, rfl, hs', hnew'⟩
    obtain ⟨g1, g2, g3⟩ := dx_join hb h7 h8 hd hnew (h4.tellS hm.fine) f hr hb1
    have s1 := hd.fr.size
    have s2 := f.size
    have s3 := hr.fr.size
    refine ⟨want, (r.tellR m).2, rfl, ?_, hs'.1, ?_, tellR_str r m, fun c hc => by have := hnew c hc; omega, fun c hc => by have := hnew' c hc; omega, g2, s3, _, g3⟩
    · rw [← hb2]
      exact (hs.fr f fun _ _ => id).fr hr.fr fun c hc hf => by have := hnew c hc; have := hb c (h8 c hf); omega
    · unfold RS.tellR
      split
      · simp
      · split
        · exact len_le _
        · split
          · simp
          · exact leaveR_len _
/-- Busy: alike. -/
theorem two_busy (h : DX rows wt n w F' st ov rv) : ∃ k : Bool, (∀ Q : Value → World → Prop, Q (.bool k) w → Run (F.export_Export_Busy ov) w Q) ∧ (∀ w', Fr (fun _ => False) w w' → ∀ Q : Value → World → Prop, Q (.bool k) w' → Run (F.granaryref21_Export_Busy rv) w' Q) := by
  cases st with
  | none =>
    obtain ⟨rfl, rfl⟩ := h
    exact ⟨false, fun Q q => by unfold F.export_Export_Busy; simp; exact q, fun w' _ Q q => by unfold F.granaryref21_Export_Busy; simp; exact q⟩
  | some p =>
    obtain ⟨x, r⟩ := p
    obtain ⟨b, v, tag, b', v', ro, foot, rfl, rfl, h3, h4, h5, h6, h7, h8⟩ := h
    exact ⟨x.busy, fun Q q => busy_run h3 q, fun w' f Q q => busy21_run (h6.fr0 f) (by rw [h5.base.on]; exact q)⟩
/-- Report: alike. -/
theorem two_report (cfg : Cfg rows R wt) (h : DX rows wt n w F' st ov rv) : ∃ (j vn e : Int) (ps : List Pr) (ms : List Int), ps.length ≤ 1048576 ∧ ms.length ≤ 1048576 ∧ (∀ p ∈ ps, StrP p) ∧
    Run (F.export_Export_Report ov) w fun a w1 => Fr (fun _ => False) w w1 ∧ ∃ pv mv, a = .tuple #[.agg #[.int .i64 j, .int .i64 vn, pv, mv], .int .i64 e] ∧ SlW 2 w1 pv (elP ps) ∧ SlW 1 w1 mv (elI ms) ∧ New w w1 pv ∧ New w w1 mv ∧ (∀ c, inB pv c → ¬ inB mv c) ∧
      ∀ w1', Fr (fun _ => False) w1 w1' → Run (F.granaryref21_Export_Report rv) w1' fun a' w2 => Fr (fun _ => False) w1' w2 ∧ ∃ pv' mv', a' = .tuple #[.agg #[.int .i64 j, .int .i64 vn, pv', mv'], .int .i64 e] ∧ Sl 2 w2 pv' (elP ps) ∧ Sl 1 w2 mv' (elI ms) := by
  cases st with
  | none =>
    obtain ⟨rfl, rfl⟩ := h
    refine ⟨0, 0, 2, [], [], by simp, by simp, by simp, ?_⟩
    have e1 : Run (F.export_Export_Report (.pointer none)) w fun a w1 => a = .tuple #[.agg #[.int .i64 0, .int .i64 0, .slice none 0 0, .slice none 0 0], .int .i64 2] ∧ Fr (fun _ => False) w w1 := by
      unfold F.export_Export_Report
      simp
      refine Run_new fun c w1 hc hcw f1 hcle => ?_
      simp [hc, hcw, buildV]
      exact f1.sto (.inr hcle) _ _
    refine e1.mono ?_
    rintro _ w1 ⟨rfl, f1⟩
    refine ⟨f1, _, _, rfl, SlW.nil _ _, SlW.nil _ _, fun c hc => hc.elim, fun c hc => hc.elim, fun c hc => hc.elim, fun w1' f => ?_⟩
    have e2 : Run (F.granaryref21_Export_Report (.pointer none)) w1' fun a w2 => a = .tuple #[.agg #[.int .i64 0, .int .i64 0, .slice none 0 0, .slice none 0 0], .int .i64 2] ∧ Fr (fun _ => False) w1' w2 := by
      unfold F.granaryref21_Export_Report
      simp
      refine Run_new fun c w1 hc hcw f1 hcle => ?_
      simp [hc, hcw, buildV]
      exact f1.sto (.inr hcle) _ _
    refine e2.mono ?_
    rintro _ w2 ⟨rfl, f2⟩
    exact ⟨f2, _, _, rfl, Sl.nil _ _, Sl.nil _ _⟩
  | some p =>
    obtain ⟨x, r⟩ := p
    obtain ⟨b, v, tag, b', v', ro, foot, rfl, rfl, h3, h4, h5, h6, h7, h8⟩ := h
    have hok := rok cfg.hR cfg.hR1 cfg.hR16 h4 h5
    cases hen : x.ended with
    | true =>
      refine ⟨x.lj, x.lv, 0, x.lp, x.lm, by have := h4.lp; omega, by have := h4.lm; omega, h5.base.str, ?_⟩
      refine (report_run h3 h4).mono ?_
      rintro a w1 ⟨f1, hr⟩
      rw [if_pos hen] at hr
      obtain ⟨pv, mv, rfl, hp, hm, n1, n2, n3⟩ := hr.val
      refine ⟨f1, pv, mv, rfl, hp, hm, n1, n2, n3, fun w1' f => ?_⟩
      refine (report21_run ((h6.fr0 f1).fr0 f) hok).mono ?_
      rintro a' w2 ⟨f2, hr'⟩
      rw [if_pos (by rw [h5.base.ended]; exact hen), h5.base.lj, h5.base.lv, h5.base.lp, h5.base.lm] at hr'
      obtain ⟨pv', mv', rfl, hp', hm'⟩ := hr'.val
      exact ⟨f2, pv', mv', rfl, hp', hm'⟩
    | false =>
      refine ⟨0, 0, 151, [], [], by simp, by simp, by simp, ?_⟩
      refine (report_run h3 h4).mono ?_
      rintro a w1 ⟨f1, hr⟩
      rw [if_neg (by rw [hen]; decide)] at hr
      obtain ⟨pv, mv, rfl, hp, hm, n1, n2, n3⟩ := hr.val
      refine ⟨f1, pv, mv, rfl, hp, hm, n1, n2, n3, fun w1' f => ?_⟩
      refine (report21_run ((h6.fr0 f1).fr0 f) hok).mono ?_
      rintro a' w2 ⟨f2, hr'⟩
      rw [if_neg (by rw [h5.base.ended, hen]; decide)] at hr'
      obtain ⟨pv', mv', rfl, hp', hm'⟩ := hr'.val
      exact ⟨f2, pv', mv', rfl, hp', hm'⟩
end

end Go.Proofs.YtiggkhmopnhfaaaDoor
