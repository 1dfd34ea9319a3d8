/-
  Layer 1 (disk), part J: a loss of power (of files in the root alone).
-/
import Derived.Test.YtojnickeblbgoaaDoorDiskI
namespace Go.Proofs.YtojnickeblbgoaaDoor
open Go.Lift
set_option linter.unusedSimpArgs false
set_option maxHeartbeats 4000000

def clampN (k : Int) (n : Nat) : Nat := if (n : Int) < k then n else k.toNat
theorem clamp_le (k : Int) (n : Nat) : clampN k n ≤ n := by unfold clampN; split <;> omega
theorem clamp_run (k : Int) (n : Nat) {Q : Value → World → Prop} {w : World} (q : Q (.int .i64 (clampN k n)) w) : Run (optM (minV (.int .i64 k) (.int .i64 n))) w fun x w1 => Run (optM (maxV (.int .i64 0) x)) w1 Q := by
  have e : ∀ z : Int, z = (if (n : Int) < k then (n : Int) else k) → (if z > 0 then z else 0) = (clampN k n : Nat) := by
    intro z hz
    subst hz
    unfold clampN
    split <;> split <;> omega
  simp only [minV, maxV, Run_optM_some]
  rw [e _ rfl]
  exact q
def crashL (P : List Chg) (keep torn : Int) : List Chg := P.take (clampN keep P.length) ++ (match P[clampN keep P.length]? with
  | some c => if c.what = 0 then [{ c with data := c.data.extract 0 (clampN torn c.data.size) }] else []
  | none => [])
abbrev CSt := List Nd × (Slt → Option Int)
def ndAt (l : List Nd) (i : Int) : Nd := (l[i.toNat]?).getD ⟨0, e0, e0⟩
def cStep (st : CSt) (c : Chg) : CSt := (st.1.set c.node.toNat { ndAt st.1 c.node with kept := (applyF c (ndAt st.1 c.node).kept st.2).1 }, (applyF c (ndAt st.1 c.node).kept st.2).2)
def crashOk : CSt → List Chg → Prop
  | _, [] => True
  | st, c :: r => (0 ≤ c.node ∧ c.node < st.1.length ∧ c.fits (ndAt st.1 c.node).kept) ∧ crashOk (cStep st c) r
theorem crashOk_at : ∀ {l : List Chg} {st : CSt} {k : Nat} {c : Chg}, crashOk st l → l[k]? = some c → 0 ≤ c.node ∧ c.node < ((l.take k).foldl cStep st).1.length ∧ c.fits (ndAt ((l.take k).foldl cStep st).1 c.node).kept
  | [], st, k, c, _, h => by simp at h
  | x :: l, st, 0, c, h, hk => by
    simp only [List.getElem?_cons_zero, Option.some.injEq] at hk
    subst hk
    exact h.1
  | x :: l, st, k + 1, c, h, hk => by
    simp only [List.getElem?_cons_succ] at hk
    exact crashOk_at (l := l) h.2 hk

section
variable {w w' w'' : World} {b : Nat} {d d' : Dk} {v : DV} {tag : Nat → Nat}
theorem clone_run {x : Value} {l : List Chg} (hx : Sl 7 w x (l.map Chg.cells)) (hl : l.length ≤ 16777216) : Run (F.disk_change x) w fun r w' => SlW 7 w' r (l.map Chg.cells) ∧ New w w' r ∧ Fr (fun _ => False) w w' := by
  unfold F.disk_change
  have hx' := hx
  obtain ⟨h1, a, c, rfl, h2, h3⟩ := hx'
  simp only [List.length_map] at hx
  cases a with
  | none =>
    have hl0 : l = [] := by
      rcases h3 with h3 | ⟨b, o, y, h4, _⟩
      · apply List.eq_nil_of_length_eq_zero
        simp at h2
        omega
      · cases h4
    subst hl0
    simp
    exact ⟨SlW.nil _ _, fun c hc => hc.elim, Fr.refl _ _⟩
  | some a =>
    simp
    refine Run_bsl (k := 7) (n := 0) (vs := []) rfl (by simp) rfl (by simp [size_zeroCells]) fun r w1 hr f1 hrn => ?_
    have hr0 : SlW 7 w1 r [] := hr
    refine Run_appM (fls := l.map Chg.cells) hr0 (hx.fr0 f1) (by decide) rfl (by decide) (fun e he => by
      obtain ⟨y, _, rfl⟩ := List.mem_map.1 he
      exact y.all) (by simp; omega) fun r2 w2 hr2 f2 hin => ?_
    have s1 := f1.size
    have s2 := f2.size
    refine ⟨by simpa using hr2, fun c hc => ?_, f1.new f2 fun c hc => by have := hrn c hc; omega⟩
    rcases hin c hc with h' | h'
    · have := hrn c h'; omega
    · omega
theorem crash_loop (h : DA w b d v tag) {x : Value} {L : List Chg} (hx : Sl 7 w x (L.map Chg.cells)) (hxt : ∀ c, inB x c → tag c ≠ 3 ∧ tag c ≠ 4) (hLl : L.length ≤ 16777216) (hok : crashOk (d.nodes, d.kept) L) {Q : Out → World → Prop} {step : List Value → M Out}
    (hstep : ∀ l, step l = (
        bindO (binV BinOp.lss (getL l 0) (Value.int IntKind.i64 (L.length : Nat))) fun x64 =>
        condM x64 (
          bindO (idxA 7 x (getL l 0)) fun x65 =>
          M.bind (rdM (ldA 7 x65)) fun x66 =>
          M.bind (newM 75 #[(Value.int IntKind.i64 0), (Value.int IntKind.i64 0), (Value.string ByteArray.empty), (Value.int IntKind.i64 0), (Value.string ByteArray.empty), (Value.string ByteArray.empty), (Value.int IntKind.i64 0)]) fun x67 =>
          M.bind (stM 7 x67 x66) fun _ =>
          drewM <|
          bindO (nilChk (Ptr b)) fun x69 =>
          bindO (fieldA 6 x69) fun x70 =>
          M.bind (rdM (ld1 x70)) fun x71 =>
          bindO (fieldA 1 x67) fun x72 =>
          M.bind (rdM (ld1 x72)) fun x73 =>
          bindO (idxA 3 x71 x73) fun x74 =>
          drewM <|
          M.bind (rdM (ldA 7 x67)) fun x75 =>
          bindO (nilChk x74) fun x76 =>
          bindO (fieldA 2 x76) fun x77 =>
          M.bind (rdM (ld1 x77)) fun x78 =>
          bindO (nilChk (Ptr b)) fun x79 =>
          bindO (fieldA 8 x79) fun x80 =>
          M.bind (rdM (ld1 x80)) fun x81 =>
          M.bind (F.disk_apply x75 x78 x81) fun x82 =>
          bindO (nilChk x74) fun x83 =>
          bindO (fieldA 2 x83) fun x84 =>
          M.bind (stM 1 x84 x82) fun _ =>
          bindO (binV BinOp.add (getL l 0) (Value.int IntKind.i64 1)) fun x86 =>
          M.ret (Out.norm [x86])) (
          M.ret (Out.exit 0 [(getL l 0)]))))
    (q : ∀ w' v', DA w' b { d with nodes := (L.foldl cStep (d.nodes, d.kept)).1, kept := (L.foldl cStep (d.nodes, d.kept)).2 } v' tag → Fr (fun c => tag c ≠ 0) w w' → Q (.exit 0 [.int .i64 (L.length : Nat)]) w') : Run (loopM step [.int .i64 0]) w Q := by
  refine Run_for L.length (fun k s w' => s = [.int .i64 k] ∧ ∃ lk, DA w' b { d with nodes := ((L.take k).foldl cStep (d.nodes, d.kept)).1, kept := ((L.take k).foldl cStep (d.nodes, d.kept)).2 } { v with lk := lk } tag ∧ Fr (fun c => tag c = 3 ∨ tag c = 4) w w') ⟨rfl, v.lk, h, Fr.refl _ _⟩ ?_ ?_
  · rintro k s w3 hk ⟨rfl, lk, h3, f3⟩
    rw [hstep]
    have ek : L[k]? = some L[k] := List.getElem?_eq_getElem hk
    have etake : L.take (k + 1) = L.take k ++ [L[k]] := by rw [List.take_add_one, ek]; rfl
    rw [etake]
    generalize L[k] = c at ek
    have hk' : (k : Int) < L.length := by omega
    have wk := wrap_succ (n := k) (by omega)
    have hx3 := hx.fr f3 fun c hc => by have := hxt c hc; omega
    obtain ⟨q, q1, q2⟩ := hx3.rdA (i := k) (e := c.cells) (by decide) (by simp [ek]) .i64
    have q2' : ldA 7 q w3 = some c.val := q2
    simp only [getL_zero, getL_succ, binV_int, intBin_lss, hk', decide_true, Run_bindO_some, Run_condM_true, Run_bind, q1, Run_rdM, q2', Option.some.injEq, exists_eq_left']
    refine Run_newSt (cs := c.cells.toArray) rfl rfl (by simpa using c.all) fun y w4 hy hyw f4 hyle => ?_
    have hy4 : bk w4 y = some c.cells := by simpa using hy
    have h4 := h3.fr0 f4
    have s3 := f3.size
    have s4 := f4.size
    have hfold : (L.take k ++ [c]).foldl cStep (d.nodes, d.kept) = cStep ((L.take k).foldl cStep (d.nodes, d.kept)) c := by rw [List.foldl_append]; rfl
    rw [hfold]
    obtain ⟨hn0, hn1, hfit⟩ := crashOk_at hok ek
    generalize (L.take k).foldl cStep (d.nodes, d.kept) = st at *
    obtain ⟨i, hi⟩ : ∃ i : Nat, c.node = i := ⟨c.node.toNat, by omega⟩
    have hin : c.node.toNat = i := by omega
    have hil : i < st.1.length := by omega
    have hnd : st.1[i]? = some (ndAt st.1 c.node) := by simp [ndAt, hin, hil]
    have hcs : cStep st c = (st.1.set i { ndAt st.1 c.node with kept := (applyF c (ndAt st.1 c.node).kept st.2).1 }, (applyF c (ndAt st.1 c.node).kept st.2).2) := by simp [cStep, hin]
    rw [hcs]
    generalize ndAt st.1 c.node = nd at *
    obtain ⟨b0, o, l0, i1, t4, i2, _, _, i5, hset⟩ := h4.setNode hnd
    have hb4 := h4.blk
    have e7 := ld7 hy4
    have fd : Fr (fun _ => False) w4 w4.drew.drew := (Fr.refl (fun _ => False) w4).drew.drew
    have h4d := h4.fr0 fd
    simp [-ldA_ptr, hy4, Chg.cells, hi, i1, e7, i2, i5, hb4, Dk.cells]
    refine (apply_run (w := w4.drew.drew) (data := nd.kept) h4d.kept h4d.keptE hfit).mono ?_
    rintro _ w5 ⟨rfl, ⟨lk', hm5, he5⟩, f5⟩
    have h5 := h4d.keptSet f5 hm5 he5
    obtain ⟨A, hA⟩ : ∃ A, A = applyF c nd.kept st.2 := ⟨_, rfl⟩
    simp only at h5
    rw [← hA] at h5 ⊢
    obtain ⟨y1, h6⟩ := (hset w5 _ _ h5 rfl rfl).2 A.1
    rw [show (Value.string A.1).cells = #[Value.string A.1] from rfl]
    refine ⟨rfl, by simp, y1.1, y1.2, ?_⟩
    rw [show (#[Value.string A.1] : Array Value).toList = [Value.string A.1] from rfl]
    have f46 : Fr (fun c => tag c = 3 ∨ tag c = 4) w4 (sto w5 b0 (o + 2) [.string A.1]) := ((fd.mono fun _ h => h.elim).trans f5 fun c _ hc => by rw [hc]; exact .inl h.tk).sto (b := b0) (.inl (.inr t4)) _ _
    exact ⟨by rw [wk]; omega, ⟨lk', h6⟩, (f3.trans f4 fun _ _ h => h.elim).trans f46 fun _ _ h => h⟩
  · rintro s w3 ⟨rfl, lk, h3, f3⟩
    rw [hstep]
    rw [List.take_length] at h3
    simp
    exact q w3 _ h3 (f3.mono fun c hc => by omega)
theorem crash_run (h : DA w b d v tag) {keep torn : Int} (hpl : d.pending.length ≤ 1048576) (hok : crashOk (d.nodes, d.kept) (crashL d.pending keep torn)) (hflat : Flat { d with nodes := ((crashL d.pending keep torn).foldl cStep (d.nodes, d.kept)).1, kept := ((crashL d.pending keep torn).foldl cStep (d.nodes, d.kept)).2 }) :
    Run (F.disk_Disk_Crash (Ptr b) (.int .i64 keep) (.int .i64 torn)) w fun _ w' => ∃ d', Restarted { d with nodes := ((crashL d.pending keep torn).foldl cStep (d.nodes, d.kept)).1, kept := ((crashL d.pending keep torn).foldl cStep (d.nodes, d.kept)).2 } d' ∧ DDid w w' b tag d' := by
  unfold F.disk_Disk_Crash
  have hb := h.blk
  have hpv := h.pend.1.lenL
  rw [List.length_map] at hpv
  simp [-ldA_ptr, hb, Dk.cells, hpv]
  refine clamp_run keep d.pending.length ?_
  have hkle := clamp_le keep d.pending.length
  obtain ⟨k, hk⟩ : ∃ k, k = clampN keep d.pending.length := ⟨_, rfl⟩
  have hL : crashL d.pending keep torn = d.pending.take k ++ (match d.pending[k]? with
    | some c => if c.what = 0 then [{ c with data := c.data.extract 0 (clampN torn c.data.size) }] else []
    | none => []) := by rw [hk]; rfl
  rw [← hk] at hkle ⊢
  have fd : Fr (fun _ => False) w w.drew := (Fr.refl (fun _ => False) w).drew
  have hd := h.fr0 fd
  obtain ⟨sv, k1, k2, k3⟩ := hd.pend.1.take (n := k) (by simpa using hkle) .i64
  have ws : IntKind.i64.wrap ((d.pending.length : Int) - k) = (d.pending.length : Int) - k := wrap_int (by omega) (by omega)
  simp [-ldA_ptr, hb, Dk.cells, hpv, k1, ws]
  have hLlen : (crashL d.pending keep torn).length ≤ 16777216 := by
    rw [hL, List.length_append, List.length_take]
    have : (match d.pending[k]? with
      | some c => if c.what = 0 then [{ c with data := c.data.extract 0 (clampN torn c.data.size) }] else []
      | none => []).length ≤ 1 := by
      split
      · split <;> simp
      · simp
    omega
  have k2' : Sl 7 w.drew sv ((d.pending.take k).map Chg.cells) := by rw [List.map_take]; exact k2
  have ksv : ∀ c, inB sv c → tag c ≠ 3 ∧ tag c ≠ 4 := fun c hc => by
    have := h.tp c (k3 c hc)
    omega
  have tnew : ∀ (w1 : World) (x : Value), New w w1 x → ∀ c, inB x c → tag c ≠ 3 ∧ tag c ≠ 4 := fun w1 x hx c hc => by
    have h1 := hx c hc
    by_cases h0 : tag c = 0
    · omega
    · have := h.bound c h0; omega
  by_cases hlt : k < d.pending.length
  · have ek : d.pending[k]? = some d.pending[k] := List.getElem?_eq_getElem hlt
    generalize d.pending[k] = c at ek
    rw [ek] at hL
    simp only at hL
    obtain ⟨qb, qo, ql, q1, q2, q3, q4, _⟩ := hd.pend.1.rd (i := k) (e := c.cells) (by decide) (by simp [ek]) .i64
    have qk : ql[qo]? = some (.int .i64 c.what) := take_get0 q4 (by decide)
    have q2' : bk w qb = some ql := q2
    have qA : ldA 7 (.pointer (some ⟨qb, qo, none⟩)) w.drew = some c.val := by rw [ldA_bk q2 q3, q4]; rfl
    by_cases hw : c.what = 0
    · rw [if_pos hw] at hL
      simp [-ldA_ptr, hlt, hb, Dk.cells, q1, q2', qk, hw, qA]
      refine Run_newSt (cs := c.cells.toArray) rfl rfl (by simpa using c.all) fun y w2 hy hyw f2 hyle => ?_
      have hy2 : bk w2 y = some c.cells := by simpa using hy
      simp [-ldA_ptr, hy2, Chg.cells]
      refine clamp_run torn c.data.size ?_
      have htle := clamp_le torn c.data.size
      obtain ⟨t, ht⟩ : ∃ t, t = clampN torn c.data.size := ⟨_, rfl⟩
      rw [← ht] at htle hL ⊢
      have hsl : sliceS (.string c.data) none (some (.int .i64 t)) = some (.string (c.data.extract 0 t)) := by
        simp [sliceS, highV, lowV, boundV, htle]
      simp [-ldA_ptr, hsl, hy2, hyw, Chg.cells]
      obtain ⟨c', hc'⟩ : ∃ c' : Chg, c' = { c with data := c.data.extract 0 t } := ⟨_, rfl⟩
      rw [← hc'] at hL
      have hy3 : bk (sto w2 y 2 [.string (c.data.extract 0 t)]) y = some c'.cells := by rw [bk_sto_eq, hy2, hc']; rfl
      have f3 : Fr (fun _ => False) w (sto w2 y 2 [.string (c.data.extract 0 t)]) := (fd.trans f2 fun _ _ => id).sto (.inr hyle) _ _
      have f3d : Fr (fun _ => False) w.drew (sto w2 y 2 [.string (c.data.extract 0 t)]) := f2.sto (.inr hyle) _ _
      generalize sto w2 y 2 [.string (c.data.extract 0 t)] = w3 at *
      obtain ⟨Q4, q4'⟩ : ∃ Q4 : List Value → World → Prop, ∀ a w', Q4 a w' ↔ ∃ x, a = [x] ∧ SlW 7 w' x ((crashL d.pending keep torn).map Chg.cells) ∧ New w w' x ∧ Fr (fun _ => False) w w' := ⟨_, fun _ _ => Iff.rfl⟩
      have hval : c'.val.cells.toList = c'.cells := by simp [Chg.val]
      refine Run.mono (Q := Q4) (Run_altM (by simp) fun z hz => ?_) ?_
      · have hs3 : Sl 7 w3.drew sv ((d.pending.take k).map Chg.cells) := (k2'.fr0 f3d).fr0 (Fr.refl (fun _ => False) w3).drew
        have hy3d : bk w3.drew y = some c'.cells := hy3
        have zk : (d.pending.take k).length ≤ 1048576 := by rw [List.length_take]; omega
        have z3 := f3.size
        have zd : w3.drew.heap.size = w3.heap.size := rfl
        simp only [List.mem_cons, List.not_mem_nil, or_false] at hz
        rcases hz with rfl | rfl
        · simp [-ldA_ptr]
          refine (clone_run hs3 (by omega)).mono ?_
          rintro r w5 ⟨hr, hrn, f5⟩
          have e7 := ld7 (f5.bk_some (w := w3.drew) hy3d id)
          have z5 := f5.size
          simp [-ldA_ptr, e7]
          refine Run_app1 (k := 7) (by simp [Chg.val, Chg.cells]) hr (by decide) rfl (by decide) (by simpa [Chg.val] using c'.all) (by simp only [List.length_map]; omega) fun r2 w6 hr2 f6 hin w7 f7 => ?_
          have z6 := f6.size
          simp [-ldA_ptr, ld7 hy3]
          refine (q4' _ _).2 ⟨r2, rfl, by rw [hL]; simpa [Chg.val] using hr2, fun x hx => ?_, ((f3.drew).trans f5 fun _ _ => id).new f6 fun x hx => by have := hrn x hx; omega⟩
          rcases hin x hx with h' | h'
          · have := hrn x h'; omega
          · omega
        · simp [-ldA_ptr, ld7 hy3d]
          refine Run_bsl (k := 7) (n := 1) (vs := [c'.val]) rfl (by simp [Chg.val, Chg.cells]) rfl (by simp [size_zeroCells]) fun a w5 hra f5 hran => ?_
          have z5 := f5.size
          have hra' : SlW 7 w5 a [c'.cells] := by simpa [Chg.val] using hra
          refine (clone_run (hs3.fr0 f5) (by omega)).mono ?_
          rintro r w6 ⟨hr, hrn, f6⟩
          have z6 := f6.size
          refine Run_appM (fls := [c'.cells]) hr (hra'.1.fr0 f6) (by decide) rfl (by decide) (fun e he => by obtain rfl := List.mem_singleton.1 he; exact c'.all) (by simp only [List.length_map, List.length_cons, List.length_nil]; omega) fun r2 w7 hr2 f7 hin => ?_
          have z7 := f7.size
          refine (q4' _ _).2 ⟨r2, rfl, by rw [hL]; simpa using hr2, fun x hx => ?_, (((f3.drew).trans f5 fun _ _ => id).trans f6 fun _ _ => id).new f7 fun x hx => by have := hrn x hx; omega⟩
          rcases hin x hx with h' | h'
          · have := hrn x h'; omega
          · omega
      rintro a w6 ha
      obtain ⟨x6, rfl, hx6, hn6, f6⟩ := (q4' _ _).1 ha
      have hsl6 := hx6.1.lenL
      rw [List.length_map] at hsl6
      simp only [Run_ret, outK_norm, getL_zero, hsl6, Run_bindO_some, Run_bind]
      refine crash_loop (L := crashL d.pending keep torn) (h.fr0 f6) hx6.1 (tnew _ _ hn6) hLlen hok (fun l => rfl) fun w3 v3 h3 f3 => ?_
      simp
      refine (restart_run h3 hflat).mono ?_
      rintro r w4 ⟨d', e1, e2⟩
      exact ⟨d', e1, DDid.trans h.bound ((f6.mono fun _ h => h.elim).trans f3 fun _ _ h => h) (fun _ h => .inl h) e2⟩
    · rw [if_neg hw, List.append_nil] at hL
      simp [-ldA_ptr, hlt, hb, Dk.cells, q1, q2', qk, hw]
      have hsl := k2'.lenL
      rw [List.length_map, ← hL] at hsl
      simp only [hsl, Run_bindO_some, Run_bind]
      refine crash_loop (L := crashL d.pending keep torn) hd (by rw [hL]; exact k2') ksv hLlen hok (fun l => rfl) fun w3 v3 h3 f3 => ?_
      simp
      refine (restart_run h3 hflat).mono ?_
      rintro r w4 ⟨d', e1, e2⟩
      exact ⟨d', e1, DDid.trans h.bound ((fd.mono fun _ h => h.elim).trans f3 fun _ _ h => h) (fun _ h => .inl h) e2⟩
  · have ekn : d.pending[k]? = none := List.getElem?_eq_none (by omega)
    rw [ekn] at hL
    simp only [List.append_nil] at hL
    simp [-ldA_ptr, hlt]
    have hsl := k2'.lenL
    rw [List.length_map, ← hL] at hsl
    simp only [hsl, Run_bindO_some, Run_bind]
    refine crash_loop (L := crashL d.pending keep torn) hd (by rw [hL]; exact k2') ksv hLlen hok (fun l => rfl) fun w3 v3 h3 f3 => ?_
    simp
    refine (restart_run h3 hflat).mono ?_
    rintro r w4 ⟨d', e1, e2⟩
    exact ⟨d', e1, DDid.trans h.bound ((fd.mono fun _ h => h.elim).trans f3 fun _ _ h => h) (fun _ h => .inl h) e2⟩
end
end Go.Proofs.YtojnickeblbgoaaDoor
