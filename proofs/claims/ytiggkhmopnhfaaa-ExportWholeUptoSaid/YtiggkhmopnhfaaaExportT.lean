/-
  Layer 21 (export), part T: ExportWhole, the walk.
-/
import Derived.Test.YtiggkhmopnhfaaaExportS
namespace Go.Proofs.Ytiggkhmopnhfaaa
open Go.Lift
set_option linter.unusedSimpArgs false
set_option maxHeartbeats 1000000

def elA (l : List Act) : List (List Value) := l.map Act.cells
@[simp] theorem elA_len (l : List Act) : (elA l).length = l.length := by simp [elA]
theorem elA_some {l : List Act} {i : Nat} {a : Act} (h : l[i]? = some a) : (elA l)[i]? = some a.cells := by simp [elA, h]
theorem Act.ldA {a : Act} {w : World} {b : Nat} (h : bk w b = some a.cells) : Go.Lift.ldA 4 (.pointer (some ⟨b, 0, none⟩)) w = some a.val := by
  rw [ldA_bk h (by simp [Act.cells])]; rfl
def Ms.none : Ms := ⟨0, 0, 0, 0, 0, 0, 0, 0, 0, .string ByteArray.empty, .string ByteArray.empty⟩
def TS.new : TS := ⟨Ms.none, false, [], 0, 0, [], 0⟩

theorem Tk.new {w0 w w' : World} {b t : Nat} {x : XS} {v : XV} {tag : Nat → Nat} (f : Fr (fun _ => False) w0 w) (hok : XOk x) (he : Exp w b x v tag) (hlow : ∀ c, tag c ≠ 0 → w0.heap.size ≤ c) (f' : Fr (fun _ => False) w w') (hb : bk w' t = some (TS.new.cells b (.slice none 0 0) (.slice none 0 0))) (hw : Go.Lift.wr w' t = true) (ht : w.heap.size ≤ t) : Tk w0 w' b t x TS.new [] := by
  have hsz := f.size
  refine ⟨v, tag, .slice none 0 0, .slice none 0 0, ⟨f.trans f' fun _ _ => id, hok, ⟨isCell_string _, isCell_string _⟩, ⟨he.x0.fr f' fun _ h => h.elim, fun hb => ⟨(he.busy hb).1.fr f' fun _ h => h.elim, (he.busy hb).2.fr f' fun _ h => h.elim⟩⟩, hlow, hb, hw, by omega, ?_, SlW.nil _ _, fun c hc => hc.elim, SlW.nil _ _, fun c hc => hc.elim, fun s hs => by cases hs⟩⟩
  by_cases hn : tag t = 0
  · exact hn
  · have := he.x0.bound t hn; omega

theorem whole_top {w : World} {C : Clu} {nv tv sv : Value} {pvs : List Value} {tb : List (List Pr)} {acts : List Act} (hN : Nodes w nv C.nodes pvs) (hF : Fits C) (hT : Tab w tv tb) (hs : Sl 4 w sv (elA acts)) (version : Int) :
    Run (F.granarylaw21_ExportWhole (C.val nv) tv (.int .i64 version) sv) w fun r w' => r = .bool true ∧ Fr (fun _ => False) w w' := by
  unfold F.granarylaw21_ExportWhole
  have hsl := hs.lenL
  simp at hsl
  have hnvc := hN.sl.isCell
  simp [Clu.val]
  refine Run_new fun bC w0 hb _ fr0 _ => ?_
  have hb0 : bk w0 bC = some (C.cells nv) := by simpa using hb
  simp [-ldA_ptr, Clu.ldA hb0]
  have hN0 := hN.fr0 fr0
  refine (check_run hN0 hF).mono ?_
  rintro _ w1 ⟨fr1, rfl⟩
  have fr01 : Fr (fun _ => False) w w1 := fr0.trans fr1 fun _ _ => id
  have hb1 : bk w1 bC = some (C.cells nv) := fr1.bk_some hb0 id
  simp [num_run]
  by_cases hc : checkF C = 0
  case neg =>
    simp [-ldA_ptr, hc, Clu.ldA hb1]
    refine (refused_run (hN.fr0 fr01) hF hc).mono ?_
    rintro _ w2 ⟨rfl, fr2⟩
    simp
    exact fr01.trans fr2 fun _ _ => id
  simp [-ldA_ptr, hc, Clu.ldA hb1]
  refine (cluster_run (hN.fr0 fr01) hF).mono ?_
  rintro _ w2 ⟨fr2, nv', pvs', rfl, hN2, _⟩
  refine (new_run hN2 hF).mono ?_
  rintro _ w3 ⟨fr3, _, h3⟩
  obtain ⟨b, v, tag, rfl, hexp, htag⟩ := h3 hc
  obtain ⟨hset, hc1, hc2⟩ := checkF_ok hc
  obtain ⟨R, hRr⟩ : ∃ R : Nat, C.replicas = R := ⟨C.replicas.toNat, by have := (hset 0 _ _ rfl rfl).1; simp at this; omega⟩
  have hRb := hset 0 _ _ rfl rfl
  have hwb := hset 17 _ _ rfl rfl
  simp only [Clu.nums] at hRb hwb
  have hR1 : 1 ≤ R := by have := hRb.1; omega
  have hR16 : R ≤ 16 := by have := hRb.2; omega
  have hwt : 1 ≤ C.getwait ∧ C.getwait ≤ 1024 := hwb
  have hRr' : ∀ r ∈ rowsF C, r.length = R := fun r hr => by have := rowsF_row hc hr; omega
  have hPc : (rowsF C).length = C.count := rowsF_len C
  have fr02 : Fr (fun _ => False) w w2 := fr01.trans fr2 fun _ _ => id
  have hb2 : bk w2 bC = some (C.cells nv) := fr2.bk_some hb1 id
  have hT2 := hT.fr0 fr02
  have hNw : ∀ {w'}, Fr (fun _ => False) w2 w' → Nodes w' nv C.nodes pvs := fun f => (hN.fr0 fr02).fr0 f
  simp [num_run, buildV, fillV_cell]
  refine Run_new fun t w4 ht htw fr4 htle => ?_
  have ht4 : bk w4 t = some (TS.new.cells b (.slice none 0 0) (.slice none 0 0)) := by simpa [TS.cells, TS.new, Ms.none] using ht
  have tk4 : Tk w2 w4 b t (XS.new C) TS.new [] := Tk.new fr3 (XOk.new hc) hexp htag fr4 ht4 htw htle
  refine (tk4.begin_ version).mono ?_
  rintro _ w5 ⟨tk5, ov, rfl, hov⟩
  have hnb : (XS.new C).busy = false := rfl
  by_cases hv : version < 1 ∨ version > 999999
  · have eb : (XS.new C).beginS version = ⟨XS.new C, [], 80⟩ := by unfold XS.beginS; rw [if_neg (by rw [hnb]; decide), if_pos hv]
    rw [eb] at tk5 hov
    have hol := hov.1.lenL
    simp at hol
    have f5 : Fr (fun _ => False) w2 w5 := by obtain ⟨_, _, _, _, h⟩ := tk5; exact h.fr
    have hfin : Fr (fun _ => False) w w5 := fr02.trans f5 fun _ _ => id
    rcases hv with hv | hv
    · simp [hv, num_run, eb, hol]
      refine tk5.isBusy ?_
      simp [hnb]
      exact hfin
    · have hv' : ¬ version < 1 := by omega
      have hv'' : 999999 < version := hv
      simp [hv', hv'', num_run, eb, hol]
      refine tk5.isBusy ?_
      simp [hnb]
      exact hfin
  have hv1 : ¬ version < 1 := by omega
  have hv2 : ¬ 999999 < version := by omega
  have hb0' : Base (rowsF C) C.getwait ({ XS.new C with busy := true, job := IntKind.i64.wrap ((XS.new C).job + 1), version := version, all := [], missing := [] } : XS) := ⟨rfl, rfl, ⟨Int.le_refl 0, by show (0 : Int) ≤ 1073741824; decide⟩⟩
  obtain ⟨hlt0, row0, hrow0, etk⟩ : 0 < (rowsF C).length ∧ ∃ row, (rowsF C)[0]? = some row ∧ (({ XS.new C with busy := true, job := IntKind.i64.wrap ((XS.new C).job + 1), version := version, all := [], missing := [] } : XS).takeS ((0 : Nat) : Int)).1 = { ({ XS.new C with busy := true, job := IntKind.i64.wrap ((XS.new C).job + 1), version := version, all := [], missing := [] } : XS) with part := ((0 : Nat) : Int), pairs := [], left := row, due := (0 : Int) + C.getwait } := by
    rcases take_next (p := 0) hRr' hR1 hb0' hwt (Nat.zero_le _) with h | ⟨h, _⟩
    · exact h
    · omega
  have eb : (XS.new C).beginS version = ⟨(({ XS.new C with busy := true, job := IntKind.i64.wrap ((XS.new C).job + 1), version := version, all := [], missing := [] } : XS).takeS ((0 : Nat) : Int)).1, (({ XS.new C with busy := true, job := IntKind.i64.wrap ((XS.new C).job + 1), version := version, all := [], missing := [] } : XS).takeS ((0 : Nat) : Int)).2, 0⟩ := by
    unfold XS.beginS; rw [if_neg (by rw [hnb]; decide), if_neg hv]; rfl
  have eout := takeS_out (x := { XS.new C with busy := true, job := IntKind.i64.wrap ((XS.new C).job + 1), version := version, all := [], missing := [] }) (part := ((0 : Nat) : Int)) rfl (Int.le_refl 0) (by show (0 : Int) ≤ ((rowsF C).length : Int); omega) (XOk.new hc).ne
  have hwj : IntKind.i64.wrap ((XS.new C).job + 1) = 1 := by show IntKind.i64.wrap (0 + 1) = 1; decide
  have hx1b : Base (rowsF C) C.getwait ((XS.new C).beginS version).x ∧ ((XS.new C).beginS version).x.now = 0 ∧ ((XS.new C).beginS version).x.due = 0 + C.getwait ∧ Going (rowsF C) R tb version ((XS.new C).beginS version).x [] [] 0 0 0 := by
    rw [eb]
    simp only
    rw [etk]
    exact ⟨⟨rfl, rfl, ⟨Int.le_refl 0, by show (0 : Int) ≤ 1073741824; decide⟩⟩, rfl, rfl, ⟨rfl, rfl, hlt0, hR1, ⟨row0, hrow0, by simp⟩, Nat.zero_le _, by simp, rfl, rfl, hwj, rfl, by simp, by simp, by simp⟩⟩
  have eout' : ((XS.new C).beginS version).out = elM ((XS.new C).beginS version).x.outq := by rw [eb]; exact eout
  have eerr : ((XS.new C).beginS version).err = 0 := by rw [eb]
  rw [eout'] at hov
  clear eb eout etk
  generalize ((XS.new C).beginS version).x = x1 at *
  obtain ⟨hx1, hx1n, hx1d, hg1⟩ := hx1b
  simp [hv1, hv2, eerr]
  refine (hear_run tk5 hov.1 (XS.outq_len _) (XS.outq_fine _)).mono ?_
  rintro _ w6 ⟨rfl, tk6⟩
  rw [hear_outq, if_pos hg1.busy] at tk6
  obtain ⟨ov6, mv6, hb6, _⟩ := tk6.tb
  have f6 : Fr (fun _ => False) w2 w6 := by obtain ⟨_, _, _, _, h⟩ := tk6; exact h.fr
  have hbC6 : bk w6 bC = some (C.cells nv) := f6.bk_some hb2 id
  simp [-ldA_ptr, hb6, TS.cells, Clu.ldA hbC6]
  refine (parts_run (hNw f6) hF).mono ?_
  rintro _ w7 ⟨rfl, f7⟩
  have tk7 := tk6.fr0 f7
  have hbC7 : bk w7 bC = some (C.cells nv) := f7.bk_some hbC6 id
  have hcR : C.count * (512 + R) ≤ 64 * 528 := Nat.mul_le_mul hc2 (by omega)
  have e512 : 512 + (R : Int) = ((512 + R : Nat) : Int) := by omega
  have m1 : IntKind.i64.wrap (512 + C.replicas) = ((512 + R : Nat) : Int) := by
    rw [hRr, e512]; exact wrap_nat (by omega)
  have m2 : IntKind.i64.wrap ((C.count : Int) * (512 + (R : Int))) = ((C.count * (512 + R) : Nat) : Int) := by
    have e : (C.count : Int) * (512 + (R : Int)) = ((C.count * (512 + R) : Nat) : Int) := by rw [e512, ← Int.natCast_mul]
    rw [e]; exact wrap_nat (by omega)
  generalize hNN : C.count * (512 + R) = N at *
  simp [hbC7, Clu.cells, m1, m2]
  have hN1 : ∀ p : Nat, p < (rowsF C).length → p * (512 + R) + (512 + R) ≤ N := by
    intro p hp
    rw [← hNN, ← hPc]
    have := Nat.mul_le_mul_right (512 + R) (show p + 1 ≤ (rowsF C).length from hp)
    rw [Nat.add_mul] at this
    omega
  obtain ⟨Q1, q1⟩ : ∃ Q1 : Out → World → Prop, ∀ o w', Q1 o w' ↔ o = .exit 0 [] ∧ ∃ x T, Tk w2 w' b t x T [] ∧ Ended (rowsF C) tb version x T.missing := ⟨_, fun _ _ => Iff.rfl⟩
  refine Run.mono (Q := Q1) (Run_for N (fun i l w' => l = [] ∧ ∃ x T, Tk w2 w' b t x T [] ∧ LInv (rowsF C) R C.getwait tb version i x T) ⟨rfl, x1, _, tk7, ⟨hx1, by rw [hx1n]; exact Int.le_refl 0, hg1.busy.symm, rfl, Nat.le_refl _, .inl ⟨0, 0, 0, hg1, by rw [hx1d, hx1n], rfl, fun _ => rfl, fun _ => rfl, Nat.zero_le _⟩⟩⟩ ?_ ?_) ?_
  · rintro i l w8 hi ⟨rfl, x, T, tk8, hli⟩
    obtain ⟨ov8, mv8, hb8, hw8, _⟩ := tk8.tb
    rcases hli.st with ⟨p, L, k, hg, hdue, hq, hpl, hpn, hm⟩ | hend
    case inr =>
      have hopn : T.opn = false := by rw [hli.opn, hend.busy]
      simp [hb8, TS.cells, hopn]
      exact (q1 _ _).2 ⟨rfl, x, T, tk8, hend⟩
    have hopn : T.opn = true := by rw [hli.opn, hg.busy]
    have hpx := hg.part
    have hqs : T.q.seq = p := by rw [hq]; exact hpx
    simp [hb8, TS.cells, hopn, hqs]
    obtain ⟨Q2, q2⟩ : ∃ Q2 : Out → World → Prop, ∀ o w', Q2 o w' ↔ o = .norm [] ∧ Tk w2 w' b t x { T with left := L, part := p } [] := ⟨_, fun _ _ => Iff.rfl⟩
    refine Run.mono (Q := Q2) ?_ ?_
    · have tk9 := tk8.fr0 (Fr.refl (fun _ => False) w8).drew
      by_cases hpp : (p : Int) = T.part
      · simp [hpp]
        refine (q2 _ _).2 ⟨rfl, ?_⟩
        have e : ({ T with left := (L : Int), part := (p : Int) } : TS) = T := by rw [hpp, ← hpl hpp.symm]
        rw [e]; exact tk9
      · have hL := hpn fun h => hpp h.symm
        simp [hpp, hb8, hw8, TS.cells, hqs]
        refine (q2 _ _).2 ⟨rfl, ?_⟩
        refine tk9.num (((Fr.refl (fun d => d = t) w8.drew).sto (.inl rfl) _ _).sto (.inl rfl) _ _) (fun ov mv h => by simp [show bk w8 t = _ from h, TS.cells, hL]) (by simp) (by obtain ⟨_, _, _, _, h⟩ := tk8; exact h.fine) rfl rfl
    rintro o w9 ho
    obtain ⟨rfl, tk9⟩ := (q2 _ _).1 ho
    have tk10 := tk9.fr0 (Fr.refl (fun _ => False) w9).drew
    obtain ⟨ov9, mv9, hb9, hw9, _⟩ := tk9.tb
    have hbi : ¬ ((N : Int) < (i : Int)) := by omega
    have hfine9 : T.q.fine := by obtain ⟨_, _, _, _, h⟩ := tk8; exact h.fine
    have f9 : Fr (fun _ => False) w2 w9 := by obtain ⟨_, _, _, _, h⟩ := tk9; exact h.fr
    have f9d := f9.drew
    have hbC9 : bk w9 bC = some (C.cells nv) := f9.bk_some hb2 id
    have hst := hli.steps
    have hldq : ldA 11 (.pointer (some ⟨t, 1, none⟩)) w9 = some x.q.val := by
      rw [ldA_bk hb9 (by simp [TS.cells]), ← hq]; rfl
    simp [-ldA_ptr, hb9, TS.cells, hst, hbi]
    refine tk10.isBusy ?_
    rw [hg.busy]
    simp [-ldA_ptr, Clu.ldA hbC9, hldq, hb9, TS.cells]
    obtain ⟨row, hrow, hleft⟩ := hg.left
    have hrl := hRr' row (List.mem_of_getElem? hrow)
    have hLR := hg.lt
    have hpl' := hg.plt
    have hpc : p < C.count := by rw [← hPc]; exact hpl'
    have hrowp : row = rowF C p := by
      have : (rowsF C)[p]? = some (rowF C p) := by
        unfold rowsF
        rw [List.getElem?_map, List.getElem?_range hpc]
        rfl
      rw [hrow] at this
      exact Option.some.inj this
    obtain ⟨to, hto⟩ : ∃ to, row[L]? = some to := ⟨_, List.getElem?_eq_getElem (by omega)⟩
    have hxl : x.pairs.length = k := by rw [hg.pairs, List.length_take]; have := hg.kle; omega
    have hhd : (row.drop L).headD 0 = to := by
      rw [List.drop_eq_getElem_cons (by omega)]
      rw [List.getElem?_eq_getElem (by omega)] at hto
      exact Option.some.inj hto
    have hqq : x.q = ⟨15, 67, to, 1, 0, p, version, k, 0, .string ByteArray.empty, .string ByteArray.empty⟩ := by
      unfold XS.q
      rw [hleft, hg.job, hpx, hg.version, hxl, hhd]
    have hqid : T.q.id = 1 := by rw [hq, hqq]
    rw [hqq]
    rw [hrowp] at hto
    refine (asksOwner_run (hNw f9d) hF hc hpc hto 1 version k).mono ?_
    rintro _ w10 ⟨rfl, f10⟩
    have hb10 : bk w10 t = _ := f10.bk_some (w := w9.drew) (l := _) hb9 id
    have tk10' := tk10.fr0 f10
    simp [-ldA_ptr, hb10, hqid, TS.cells]
    refine Run_newSt (cs := #[.int .i64 0, .int .i64 0, .int .i64 0, .int .i64 0]) rfl rfl (by simp) fun u w11 hu huw f11 hule => ?_
    have hu' : bk w11 u = some (Act.cells ⟨0, 0, 0, 0⟩) := by simpa [Act.cells] using hu
    have tk11 := tk10'.add f11 hu' huw hule
    have hb11 : bk w11 t = _ := f11.bk_some (l := _) hb10 id
    have f11' : Fr (fun _ => False) w2 w11 := by obtain ⟨_, _, _, _, h⟩ := tk11; exact h.fr
    simp [-ldA_ptr, hb11, hst, hsl, TS.cells]
    obtain ⟨Q3, q3⟩ : ∃ Q3 : Out → World → Prop, ∀ o w', Q3 o w' ↔ o = .norm [] ∧ ∃ a : Act, Tk w2 w' b t x { T with left := L, part := p } [(u, a.cells)] := ⟨_, fun _ _ => Iff.rfl⟩
    refine Run.mono (Q := Q3) ?_ ?_
    · by_cases hia : i < acts.length
      · have ei : acts[i]? = some acts[i] := List.getElem?_eq_getElem hia
        generalize acts[i] = a at ei
        obtain ⟨z, z1, z2⟩ := ((hs.fr0 fr02).fr0 f11').rdA (by decide) (elA_some ei) .i64
        have z2' : ldA 4 z w11 = some a.val := z2
        have tk12 := tk11.put (by simp) 0 a.cells
        have es : setL (Act.cells ⟨0, 0, 0, 0⟩) 0 a.cells = a.cells := rfl
        rw [es] at tk12
        have hac : a.val.cells = a.cells.toArray := rfl
        simp [-ldA_ptr, hia, hb11, hst, z1, z2', hu', huw, hac, TS.cells]
        have hall : ∀ e ∈ a.cells, isCell e = true := by simp [Act.cells]
        refine ⟨by simp [Act.cells], fun i hi => hall _ (List.getElem_mem _), by simp [Act.cells], (q3 _ _).2 ⟨rfl, a, tk12⟩⟩
      · simp [-ldA_ptr, hia]
        exact (q3 _ _).2 ⟨rfl, _, tk11⟩
    rintro o w12 ho
    obtain ⟨rfl, a, tk12⟩ := (q3 _ _).1 ho
    obtain ⟨ov12, mv12, hb12, hw12, _⟩ := tk12.tb
    have ws := wrap_succ (n := i) (by omega)
    have hu12 := (tk12.get (c := u) (l := a.cells) (by simp)).1
    have f12 : Fr (fun _ => False) w2 w12 := by obtain ⟨_, _, _, _, h⟩ := tk12; exact h.fr
    have g12 : Fr (fun d => d = t) w12 (sto w12 t 17 [.int .i64 ((i + 1 : Nat) : Int)]) := (Fr.refl (fun d => d = t) w12).sto (.inl rfl) _ _
    have tk13 : Tk w2 (sto w12 t 17 [.int .i64 ((i + 1 : Nat) : Int)]) b t x { T with left := L, part := p, steps := ((i + 1 : Nat) : Int) } [(u, a.cells)] :=
      tk12.num g12 (fun ov mv h => by simp [h, TS.cells]) (by simp) hfine9 rfl rfl
    simp only [Run_bindO_some, outK_norm, Run_bind, nilChk_ptr, fieldA_ptr, Run_rdM, ld1_ptr]
    simp [-ldA_ptr, hb12, hw12, TS.cells, hst]
    rw [ws]
    generalize sto w12 t 17 [.int .i64 ((i + 1 : Nat) : Int)] = w13 at *
    have f13 : Fr (fun _ => False) w2 w13 := by obtain ⟨_, _, _, _, h⟩ := tk13; exact h.fr
    have hbC13 : bk w13 bC = some (C.cells nv) := f13.bk_some hb2 id
    have hu13 := (tk13.get (c := u) (l := a.cells) (by simp)).1
    simp [-ldA_ptr, Clu.ldA hbC13, Act.ldA hu13]
    have hknow := hli.now
    refine (act_run tk13.nil hT2 hnvc hRr hwt hR1 hR16 hRr' (p := p) (L := L) (k := k) (n := i + 1) (version := version) hg hli.base hdue hq rfl rfl rfl (Nat.succ_le_succ hli.olen) (by omega) (by push_cast; omega) (by omega) a).mono ?_
    rintro _ w14 ⟨rfl, x', T', tk14, hli'⟩
    simp
    exact ⟨x', T', tk14, hli'⟩
  · rintro l w8 ⟨rfl, x, T, tk8, hli⟩
    obtain ⟨ov8, mv8, hb8, hw8, _⟩ := tk8.tb
    rcases hli.st with ⟨p, L, k, hg, hdue, hq, hpl, hpn, hm⟩ | hend
    · exfalso
      have h1 := hN1 p hg.plt
      have h2 := hg.kle
      have h3 := ofF_len tb p
      have h4 := hg.lt
      omega
    · have hopn : T.opn = false := by rw [hli.opn, hend.busy]
      simp [hb8, TS.cells, hopn]
      exact (q1 _ _).2 ⟨rfl, x, T, tk8, hend⟩
  rintro o w8 ho
  obtain ⟨rfl, x, T, tk8, hend⟩ := (q1 _ _).1 ho
  simp
  refine tk8.report.mono ?_
  rintro r w9 ⟨⟨tk9, f9⟩, hr⟩
  rw [if_pos hend.ended, hend.lj, hend.lv, hend.lp, hend.lm] at hr
  obtain ⟨pv, mv, rfl, hpv, hmv, _⟩ := hr.val
  have hpc := hpv.1.isCell
  have hmc := hmv.1.isCell
  simp
  refine Run_newSt (cs := #[.int .i64 1, .int .i64 version, pv, mv]) rfl rfl (by simp [hpc, hmc]) fun c w10 hc10 hcw10 f10 _ => ?_
  have dr10 : Fr (fun _ => False) w10 w10.drew := (Fr.refl _ _).drew
  have f10d := f10.trans dr10 fun _ _ => id
  have tk10 := tk9.fr0 f10d
  have hc10' : bk w10 c = some [.int .i64 1, .int .i64 version, pv, mv] := by simpa using hc10
  obtain ⟨ov, tmv, hbt, _, _, htm⟩ := tk10.tb
  have hbt' : bk w10 t = _ := hbt
  have hmv10 := hmv.fr f10d fun _ _ => id
  have hpv10 := hpv.fr f10d fun _ _ => id
  have f10w : Fr (fun _ => False) w2 w10.drew := by obtain ⟨_, _, _, _, h⟩ := tk10; exact h.fr
  have hxok : XOk x := by obtain ⟨_, _, _, _, h⟩ := tk10; exact h.ok
  have hml : T.missing.length ≤ 64 := by rw [← hend.lm]; exact hxok.lm
  simp
  refine tk10.isBusy ?_
  rw [hend.busy]
  simp [-ldA_ptr, num_run, hc10', hbt', TS.cells]
  refine (sameInts_run hmv10.1 htm.1 (by omega)).mono ?_
  rintro _ w11 ⟨rfl, f11⟩
  have hc11 : bk w11 c = _ := f11.bk_some (w := w10.drew) (l := _) hc10' id
  have hbt11 : bk w11 t = _ := f11.bk_some (w := w10.drew) (l := _) hbt' id
  have f11w := f10w.trans f11 fun _ _ => id
  simp [-ldA_ptr, hc11, hbt11, TS.cells]
  refine (whole_run (hT2.fr0 f11w) (htm.fr f11 fun _ _ => id).1 hc2 hend.msort hend.mpos hml).mono ?_
  rintro wv w12 ⟨hwv, f12, _⟩
  have hc12 : bk w12 c = _ := f12.bk_some (l := _) hc11 id
  have hpv12 := ((hpv10.fr f11 fun _ _ => id).fr f12 fun _ _ => id).1
  rw [hPc] at hpv12
  have hwlen := wholeF_len tb T.missing C.count
  refine (samePairs_run hpv12 hwv (by omega) fun p hp => wholeF_str hT hp).mono ?_
  rintro _ w13 ⟨rfl, f13⟩
  simp [-ldA_ptr, hc12]
  exact ((fr02.trans f11w fun _ _ => id).trans f12 fun _ _ => id).trans f13 fun _ _ => id

end Go.Proofs.Ytiggkhmopnhfaaa
