/-
  Layer 15 (control), part Zb: ControlAtomic: a job begun.
-/
import Derived.Test.YtpiceodfdjihhaaCtlZa
namespace Go.Proofs.Ytpiceodfdjihhaa
open Go.Lift
set_option linter.unusedSimpArgs false

/-- A play between two steps. -/
structure Pl (w0 w : World) (pb b : Nat) (p : PS) (v : PV) (tg : Nat → Nat) : Prop where
  m : PlM w0 w pb b p.x.job p v tg
  o : OwnC w0 w b p.x (KT w0 tg)
  i : Inv p
  f : p.fetched.length ≤ 64
/-- What a step leaves. -/
def Stepped (w0 w' : World) (pb b : Nat) (p : PS) : Prop := ∃ p' v' tg', Pl w0 w' pb b p' v' tg' ∧ p'.letters.length ≤ p.letters.length + 64 ∧ p'.x.job ≤ p.x.job + 1

section
variable {w0 w w' w1 : World} {pb b : Nat} {J : Int} {p : PS} {v : PV} {tg : Nat → Nat} {x : CS}
theorem Pl.fr0 (h : Pl w0 w pb b p v tg) (f : Fr (fun _ => False) w w') : Pl w0 w' pb b p v tg := ⟨h.m.fr0 f, h.o.KTfr f, h.i, h.f⟩
theorem Pl.stay (h : Pl w0 w pb b p v tg) : Stepped w0 w pb b p := ⟨p, v, tg, h, by omega, by omega⟩
theorem Pl.fine (h : Pl w0 w pb b p v tg) : ∀ m ∈ p.letters, m.fine := fun m hm => by
  have := h.i.letters m hm
  exact ⟨by rw [this.key]; rfl, by rw [this.value]; rfl⟩
theorem PlM.call (h : PlM w0 w pb b J p v tg) (f : Fr (fun c => w0.heap.size ≤ c ∧ ¬ KT w0 tg c) w w') : PlM w0 w' pb b J p v tg := h.fr f fun c hc => Classical.byContradiction fun ht => hc.2 (.inl ht)
theorem PlM.shape (h : PlM w0 w pb b J p v tg) {q : PS} (h1 : q.nodes = p.nodes) (h2 : q.letters = p.letters) (h3 : q.kind = p.kind) (h4 : q.ver = p.ver) (h5 : q.fetched = p.fetched) (h6 : q.backed = p.backed) (h7 : q.back = p.back) (h8 : q.at_ = p.at_) : PlM w0 w pb b J q v tg := by
  obtain ⟨a1, a2, a3, a4, a5, a6, a7, a8, a9, a10, a11, a12, a13, a14⟩ := h
  exact ⟨by unfold PS.cells; rw [h3, h4, h7]; exact a1, a2, a3, by rw [h1]; exact a4, a5, by rw [h2]; exact a6, a7, by rw [h5]; exact a8, a9, by rw [h6]; exact a10, a11, by rw [h8]; exact a12, a13, a14⟩
theorem sendFine {out : List Ms} (h : ∀ m ∈ out, Sent m) : ∀ m ∈ out, m.fine := fun m hm => (h m hm).fine

set_option maxHeartbeats 4000000 in
theorem begin_run_ (h : Pl w0 w pb b p v tg) (k n ve : Int) (hj : p.x.job < 4503599627370496) (hl : p.letters.length ≤ 549755813888) :
    Run (F.granarylaw15_Play_begin (.pointer (some ⟨pb, 0, none⟩)) (.agg #[.int .i64 k, .int .i64 n, .int .i64 ve])) w fun r w' => r = .bool true ∧ Stepped w0 w' pb b p := by
  unfold F.granarylaw15_Play_begin
  simp
  refine Run_new fun e w1 he hew f1 hle1 => ?_
  have he' : bk w1 e = some [.int .i64 k, .int .i64 n, .int .i64 ve] := by simpa using he
  have h1 := h.fr0 f1
  have hb1 := h1.m.blk
  have n1 := Int.emod_nonneg n (b := 2) (by decide)
  have n2 := Int.emod_lt_of_pos n (b := 2) (by decide)
  have v1 := Int.emod_nonneg ve (b := 9) (by decide)
  have v2 := Int.emod_lt_of_pos ve (b := 9) (by decide)
  have wn : IntKind.i64.wrap (1 + n % 2) = 1 + n % 2 := wrap_small (by omega) (by omega)
  have wv : IntKind.i64.wrap (1 + ve % 9) = 1 + ve % 9 := wrap_small (by omega) (by omega)
  simp [he', mod15_run, wn, wv, hb1, PS.cells, h1.o.busy]
  have hkd : 1 + n % 2 = 1 ∨ 1 + n % 2 = 2 := by omega
  have hvr : 1 ≤ 1 + ve % 9 ∧ 1 + ve % 9 ≤ 999999 := by omega
  generalize 1 + n % 2 = kd at *
  generalize 1 + ve % 9 = vr at *
  cases hx : p.x.now with
  | some q0 =>
    simp [hb1, PS.cells]
    refine (h1.o.begin_ kd vr).mono ?_
    have hbz : p.x.beginS kd vr = ⟨p.x, [], 150⟩ := by unfold CS.beginS; rw [hx]; exact if_pos rfl
    rw [hbz]
    rintro _ w2 ⟨l, rfl, o2, s2, n2, f2⟩
    have hll := s2.1.lenL
    simp [elM] at hll
    simp [F.granarylaw15_num, hll]
    exact Pl.stay ⟨h1.m.call f2, o2.mono fun c hc => .inl hc, h1.i, h1.f⟩
  | none =>
    simp [hb1, PS.cells]
    have hjb := h.i.ok.job
    have hbeg := beginS_ok hx (kind := kd) (v := vr) (by omega) ⟨fun hh => by omega, fun _ => hvr⟩ (by omega)
    have hk3 : (if kd = 3 then 4 else kd.toNat) = kd.toNat := if_neg (by omega)
    rw [hk3] at hbeg
    have hinv := inv_begin h.i hx hkd hvr (by omega)
    refine (h1.o.begin_ kd vr).mono ?_
    rw [hbeg]
    rintro _ w2 ⟨l, rfl, o2', s2, n2, f2⟩
    simp only at o2' s2
    obtain ⟨y, hy⟩ : ∃ y : CS, y = { p.x with job := p.x.job + 1, kind := kd, ver := vr } := ⟨_, rfl⟩
    rw [← hy] at o2' s2 hinv
    have yn : y.n = p.x.n := by rw [hy]
    have yj : y.job = p.x.job + 1 := by rw [hy]
    have hn16 := h.i.n16
    have hnl := h.i.n
    have m2 := h1.m.call f2
    have o2 : OwnC w0 w2 b (y.enterS kd.toNat).1 (KT w0 tg) := o2'.mono fun c hc => .inl hc
    have hbB : (p.begun kd vr) = { p with x := (y.enterS kd.toNat).1, kind := kd, ver := vr, fetched := List.replicate p.nodes.length false, backed := List.replicate p.nodes.length false, back := false, at_ := List.replicate p.nodes.length (-1) } := by rw [hy]; rfl
    have hout : (y.enterS kd.toNat).2 = y.allS kd.toNat := enterS_out y _
    have hll := s2.1.lenL
    rw [elM_len, hout] at hll
    simp only [CS.allS, List.length_map, List.length_range, yn] at hll
    have hb2 := m2.blk
    have hpt : tg pb ≠ 0 := by rw [m2.tp]; decide
    have hp0 := (m2.bound pb hpt).1
    have wj : IntKind.i64.wrap (p.x.job + 1) = p.x.job + 1 := wrap_small (by omega) (by omega)
    have hnl2 := m2.nodes.1.lenL
    simp at hnl2
    have m3 := ((m2.scalar (o := 3) (vs := [.int .i64 (p.x.job + 1)]) (J' := p.x.job + 1) (p' := p) ⟨rfl, rfl, rfl, rfl, rfl⟩ rfl).scalar (o := 4) (vs := [.int .i64 kd]) (J' := p.x.job + 1) (p' := { p with kind := kd }) ⟨rfl, rfl, rfl, rfl, rfl⟩ rfl).scalar (o := 5) (vs := [.int .i64 vr]) (J' := p.x.job + 1) (p' := { p with kind := kd, ver := vr }) ⟨rfl, rfl, rfl, rfl, rfl⟩ rfl
    have f3 : Fr (fun c => c = pb) w2 (sto (sto (sto w2 pb 3 [.int .i64 (p.x.job + 1)]) pb 4 [.int .i64 kd]) pb 5 [.int .i64 vr]) := (((Fr.refl (fun c => c = pb) w2).sto (.inl rfl) _ _).sto (.inl rfl) _ _).sto (.inl rfl) _ _
    have o3 := o2.KTput m2 f3 fun c hc => by subst hc; exact hpt
    have hl2 : ∀ c, inB l c → tg c = 0 ∧ c < w2.heap.size := fun c hc => ⟨h1.m.tag0 (n2 c hc).1, (n2 c hc).2⟩
    have s3 : SlW 11 (sto (sto (sto w2 pb 3 [.int .i64 (p.x.job + 1)]) pb 4 [.int .i64 kd]) pb 5 [.int .i64 vr]) l (elM (y.enterS kd.toNat).2) := s2.fr f3 fun c hc hq => by subst hq; exact hpt (hl2 _ hc).1
    have z3 : (sto (sto (sto w2 pb 3 [.int .i64 (p.x.job + 1)]) pb 4 [.int .i64 kd]) pb 5 [.int .i64 vr]).heap.size = w2.heap.size := by simp
    simp [hb2, PS.cells, m2.wr, bk_sto, wj, hnl2]
    revert m3 f3 o3 s3 z3
    generalize sto (sto (sto w2 pb 3 [Value.int .i64 (p.x.job + 1)]) pb 4 [Value.int .i64 kd]) pb 5 [Value.int .i64 vr] = w3
    intro m3 f3 o3 s3 z3
    refine (none_run (w := w3) (n := p.nodes.length) (by omega)).mono ?_
    rintro fv w4 ⟨sf, f4, nf⟩
    have hy4 : ∀ c, inB fv c → w3.heap.size ≤ c ∧ c < w4.heap.size := nf
    have m5 := m3.setFetched f4 sf hy4
    have o5 := o3.retag (pb := pb) hpt hp0 f4 (o := 6) (k := 4) (vs := [fv]) hy4
    have m4 := m3.fr0 f4
    have hb4 := m4.blk
    have hnl4 := m4.nodes.1.lenL
    simp at hnl4
    have fp5 : Fr (fun c => c = pb) w4 (sto w4 pb 6 [fv]) := (Fr.refl (fun c => c = pb) w4).sto (.inl rfl) _ _
    have s5 : SlW 11 (sto w4 pb 6 [fv]) l (elM (y.enterS kd.toNat).2) := (s3.fr f4 fun _ _ => id).fr fp5 fun c hc hq => by subst hq; exact hpt (hl2 _ hc).1
    have z5 : w3.heap.size ≤ (sto w4 pb 6 [fv]).heap.size := by have := f4.size; simpa using this
    have t5 : ∀ c, c < w3.heap.size → reTag tg 4 fv c ≠ 0 → tg c ≠ 0 := retag_old fun c hc => (hy4 c hc).1
    simp [hb4, PS.cells, m4.wr, sf.1.isCell, cells_isCell sf.1.isCell, hnl4]
    revert m5 o5 s5 z5
    generalize sto w4 pb 6 [fv] = w5
    intro m5 o5 s5 z5
    generalize reTag tg 4 fv = tg5 at *
    have hpt5 : tg5 pb ≠ 0 := by rw [m5.tp]; decide
    refine (none_run (w := w5) (n := p.nodes.length) (by omega)).mono ?_
    rintro bv w6 ⟨sb, f6, nb⟩
    have hy6 : ∀ c, inB bv c → w5.heap.size ≤ c ∧ c < w6.heap.size := nb
    have m7 := m5.setBacked f6 sb hy6
    have o7 := o5.retag (pb := pb) hpt5 hp0 f6 (o := 7) (k := 5) (vs := [bv]) hy6
    have m6 := m5.fr0 f6
    have hb6 := m6.blk
    have hnl6 := m6.at_.1.lenL
    simp at hnl6
    have fp7 : Fr (fun c => c = pb) w6 (sto w6 pb 7 [bv]) := (Fr.refl (fun c => c = pb) w6).sto (.inl rfl) _ _
    have s7 : SlW 11 (sto w6 pb 7 [bv]) l (elM (y.enterS kd.toNat).2) := (s5.fr f6 fun _ _ => id).fr fp7 fun c hc hq => by subst hq; exact hpt (hl2 _ hc).1
    have z7 : w5.heap.size ≤ (sto w6 pb 7 [bv]).heap.size := by have := f6.size; simpa using this
    have t7 : ∀ c, c < w5.heap.size → reTag tg5 5 bv c ≠ 0 → tg5 c ≠ 0 := retag_old fun c hc => (hy6 c hc).1
    have m8 := m7.scalar (o := 8) (vs := [.bool false]) (J' := p.x.job + 1) (p' := { p with kind := kd, ver := vr, fetched := List.replicate p.nodes.length false, backed := List.replicate p.nodes.length false, back := false }) ⟨rfl, rfl, rfl, rfl, rfl⟩ rfl
    have hpt7 : reTag tg5 5 bv pb ≠ 0 := by rw [m7.tp]; decide
    have fp8 : Fr (fun c => c = pb) (sto w6 pb 7 [bv]) (sto (sto w6 pb 7 [bv]) pb 8 [.bool false]) := (Fr.refl (fun c => c = pb) _).sto (.inl rfl) _ _
    have o8 := o7.KTput m7 fp8 fun c hc => by subst hc; exact hpt7
    have s8 : SlW 11 (sto (sto w6 pb 7 [bv]) pb 8 [.bool false]) l (elM (y.enterS kd.toNat).2) := s7.fr fp8 fun c hc hq => by subst hq; exact hpt (hl2 _ hc).1
    have z8 : w5.heap.size ≤ (sto (sto w6 pb 7 [bv]) pb 8 [.bool false]).heap.size := by simpa using z7
    simp [hb6, PS.cells, m6.wr, sb.1.isCell, cells_isCell sb.1.isCell]
    revert m8 o8 s8 z8
    generalize sto (sto w6 pb 7 [bv]) pb 8 [Value.bool false] = w8
    intro m8 o8 s8 z8
    generalize reTag tg5 5 bv = tg8 at *
    have t8 : ∀ c, inB l c → tg8 c = 0 := fun c hc => Classical.byContradiction fun hh => by
      have hlt := (hl2 c hc).2
      exact t5 c (by omega) (t7 c (by omega) hh) (hl2 c hc).1
    clear m7 o7 s7 fp7 fp8 m6 hb6 f6 sb nb hy6 m5 o5 s5 fp5 m4 hb4 f4 sf nf hy4
    have hatl := h.i.atl
    have hrep : ∀ i, i ≤ p.nodes.length → (List.replicate i (-1 : Int) ++ p.at_.drop i).length = p.nodes.length := fun i hi => by rw [List.length_append, List.length_replicate, List.length_drop]; omega
    have o9' := m8
    refine Run_for p.nodes.length (fun i lv w9 => lv = [.int .i64 i] ∧ ∃ v9, PlM w0 w9 pb b (p.x.job + 1) { p with kind := kd, ver := vr, fetched := List.replicate p.nodes.length false, backed := List.replicate p.nodes.length false, back := false, at_ := List.replicate i (-1) ++ p.at_.drop i } v9 tg8 ∧ OwnC w0 w9 b (y.enterS kd.toNat).1 (KT w0 tg8) ∧ Fr (fun c => tg8 c ≠ 0) w8 w9)
      ⟨rfl, _, by simpa using m8, o8, Fr.refl _ _⟩ ?_ ?_
    · rintro i lv w9 hi ⟨rfl, v9, m9, o9, f9⟩
      have hb9 := m9.blk
      have hal9 := m9.at_.1.lenL
      simp only [elI_len, hrep i (by omega)] at hal9
      have hlt : i < (List.replicate i (-1 : Int) ++ p.at_.drop i).length := by rw [hrep i (by omega)]; exact hi
      obtain ⟨q, o, q1, ⟨ql, q2a, q2b⟩, q3, q4, q5⟩ := m9.stAt (i := i) hlt (-1)
      have wi := wrap_succ (n := i) (by omega)
      simp [hb9, PS.cells, hal9, hi, q1, q2a, q2b, q3, wi]
      refine ⟨⟨v9, ?_⟩, o9.KTput m9 q5 fun _ h => h, f9.trans q5 fun _ _ h => h⟩
      have e : (List.replicate i (-1 : Int) ++ p.at_.drop i).set i (-1) = List.replicate (i + 1) (-1) ++ p.at_.drop (i + 1) := by
        rw [List.set_append_right _ _ (by simp), List.length_replicate, Nat.sub_self, List.drop_eq_getElem_cons (show i < p.at_.length by omega), List.set_cons_zero, List.replicate_succ', List.append_assoc]
        rfl
      rw [← e]
      exact q4
    · rintro lv w9 ⟨rfl, v9, m9, o9, f9⟩
      have hb9 := m9.blk
      have hal9 := m9.at_.1.lenL
      simp only [elI_len, hrep _ (Nat.le_refl _)] at hal9
      have hnl9 := m9.nodes.1.lenL
      simp at hnl9
      have hbusy : (y.enterS kd.toNat).1.now.isSome = true := rfl
      simp [hb9, PS.cells, hal9, o9.busy, hbusy, hll, hnl9, hnl]
      have edrop : p.at_.drop p.nodes.length = [] := List.drop_of_length_le (by omega)
      have m9' : PlM w0 w9 pb b (p.x.job + 1) (p.begun kd vr) v9 tg8 := by
        rw [hbB]
        exact m9.shape rfl rfl rfl rfl rfl rfl rfl (by simp [edrop])
      have hs9 : Sl 11 w9 l (elM (y.enterS kd.toNat).2) := s8.1.fr f9 fun c hc hq => hq (t8 c hc)
      have hsent : ∀ m ∈ (y.enterS kd.toNat).2, Sent m := fun m hm => enterS_sent y (by omega) hm
      have hxj : (p.begun kd vr).x.job = p.x.job + 1 := by rw [hbB]; exact yj
      have hol : (y.enterS kd.toNat).2.length = p.x.n := by rw [hout]; simp [CS.allS, yn]
      have hwasb : true = (p.begun kd vr).x.now.isSome := by rw [hbB]; rfl
      refine (went_run m9' o9 hxj yj hs9 t8 (sendFine hsent) hinv.1 (by rw [hbB]; simp) (by rw [hbB]; show p.nodes.length ≤ 64; omega) (by rw [hbB]; simp; omega) (by rw [hbB, hol]; show p.letters.length + _ ≤ _; omega) (by rw [hol]; omega) hwasb).mono ?_
      rintro _ w10 ⟨rfl, v10, tg10, m10, o10, f10, t10⟩
      simp
      have hs10 : Sl 11 w10 l (elM (y.enterS kd.toNat).2) := hs9.fr f10 fun c hc hq => hq (t8 c hc)
      have fin : Stepped w0 w10 pb b p := by
        refine ⟨_, v10, tg10, ⟨m10, o10, hinv.2, ?_⟩, ?_, ?_⟩
        · show (p.begun kd vr).fetched.length ≤ 64
          rw [hbB]; simp; omega
        · show (p.letters ++ (y.enterS kd.toNat).2).length ≤ _
          rw [List.length_append, hol]; omega
        · show y.job ≤ _
          omega
      refine Run_for p.x.n (fun i lv w11 => lv = [.int .i64 i] ∧ w11 = w10) ⟨rfl, rfl⟩ ?_ ?_
      · rintro i lv w11 hi ⟨rfl, rfl⟩
        have em : (y.enterS kd.toNat).2[i]? = some (y.msg kd.toNat i) := by rw [hout]; simp [CS.allS, hi, yn]
        obtain ⟨q, o, cc, i1, i2, i3, i4, _⟩ := hs10.rd (by decide) (e := (y.msg kd.toNat i).cells) (by rw [elM_get, em]; rfl) .i64
        have g0 : cc[o]? = some (.int .i64 (2 * (kd.toNat : Int) + 1)) := take_get (j := 0) i4 (by decide)
        have g2 : cc[o + 2]? = some (.int .i64 i) := take_get (j := 2) i4 (by decide)
        have wi := wrap_succ (n := i) (by omega)
        rcases hkd with rfl | rfl
        · have g0' : cc[o]? = some (.int .i64 3) := g0
          simp [hll, hi, i1, i2, g0', g2, wi]
        · have g0' : cc[o]? = some (.int .i64 5) := g0
          simp [hll, hi, i1, i2, g0', g2, wi]
      · rintro lv w11 ⟨rfl, rfl⟩
        simp [hll]
        exact fin
end
end Go.Proofs.Ytpiceodfdjihhaa
