/-
  Layer 21 (export), part I: an exporter of one's own, in memory that is newer than a world.
-/
import Derived.Test.YtiggkhmopnhfaaaDoorExportH
namespace Go.Proofs.YtiggkhmopnhfaaaDoor
open Go.Lift

/-- In w an exporter x lies at b, all of it newer than w0; of w0 nothing has turned. -/
structure Own (w0 w : World) (b : Nat) (x : XS) : Prop where
  fr : Fr (fun _ => False) w0 w
  exp : ∃ v tag, Exp w b x v tag ∧ ∀ c, tag c ≠ 0 → w0.heap.size ≤ c
  ok : XOk x
section
variable {w0 w w' : World} {b : Nat} {x x' : XS}
theorem Own.did (h : Own w0 w b x) {v : XV} {tag : Nat → Nat} (ht : ∀ c, tag c ≠ 0 → w0.heap.size ≤ c) {ov : Value} (hd : Did w w' b tag x' ov) (hok : XOk x') : Own w0 w' b x' where
  fr := h.fr.new hd.fr ht
  exp := by
    obtain ⟨v', tag', he, h'⟩ := hd.exp
    replace h' := fun c hc => (h' c hc).1
    refine ⟨v', tag', he, fun c hc => ?_⟩
    rcases h' c hc with h1 | h1
    · exact ht c h1
    · exact Nat.le_trans h.fr.size h1
  ok := hok
theorem Own.fr0 (h : Own w0 w b x) (f : Fr (fun _ => False) w w') : Own w0 w' b x where
  fr := h.fr.trans f fun _ _ => id
  exp := by
    obtain ⟨v, tag, he, ht⟩ := h.exp
    exact ⟨v, tag, ⟨he.x0.fr f fun _ h => h.elim, fun hb => ⟨(he.busy hb).1.fr f fun _ h => h.elim, (he.busy hb).2.fr f fun _ h => h.elim⟩⟩, ht⟩
  ok := h.ok
theorem Own.begin_ (h : Own w0 w b x) (n : Int) :
    Run (F.export_Export_Begin (.pointer (some ⟨b, 0, none⟩)) (.int .i64 n)) w fun r w' => Own w0 w' b (x.beginS n).x ∧ ∃ ov, r = .tuple #[ov, .int .i64 (x.beginS n).err] ∧ SlW 11 w' ov (x.beginS n).out ∧ New w w' ov := by
  obtain ⟨v, tag, he, ht⟩ := h.exp
  exact (begin_run he h.ok n).mono fun r w' ⟨ov, hov, hd, hr⟩ => ⟨h.did (v := v) ht hd (h.ok.beginS n), ov, hov, hr⟩
theorem Own.tell (h : Own w0 w b x) {m : Ms} (hm : m.fine) :
    Run (F.export_Export_Take (.pointer (some ⟨b, 0, none⟩)) m.val) w fun r w' => Own w0 w' b (x.tellS m).1 ∧ ∃ ov, r = .tuple #[ov, .int .i64 0] ∧ SlW 11 w' ov (x.tellS m).2 ∧ New w w' ov := by
  obtain ⟨v, tag, he, ht⟩ := h.exp
  exact (tell_run he h.ok hm).mono fun r w' ⟨ov, hov, hd, hr⟩ => ⟨h.did (v := v) ht hd (h.ok.tellS hm), ov, hov, hr⟩
theorem Own.tick (h : Own w0 w b x) :
    Run (F.export_Export_Tick (.pointer (some ⟨b, 0, none⟩))) w fun r w' => Own w0 w' b x.tickS.1 ∧ ∃ ov, r = .tuple #[ov, .int .i64 0] ∧ SlW 11 w' ov x.tickS.2 ∧ New w w' ov := by
  obtain ⟨v, tag, he, ht⟩ := h.exp
  exact (tick_run he h.ok).mono fun r w' ⟨ov, hov, hd, hr⟩ => ⟨h.did (v := v) ht hd h.ok.tickS, ov, hov, hr⟩
theorem Own.isBusy (h : Own w0 w b x) {Q : Value → World → Prop} (q : Q (.bool x.busy) w) : Run (F.export_Export_Busy (.pointer (some ⟨b, 0, none⟩))) w Q := by
  obtain ⟨v, tag, he, ht⟩ := h.exp
  exact busy_run he q
theorem Own.report (h : Own w0 w b x) :
    Run (F.export_Export_Report (.pointer (some ⟨b, 0, none⟩))) w fun r w' => (Own w0 w' b x ∧ Fr (fun _ => False) w w') ∧
      if x.ended = true then Rep w w' r x.lj x.lv x.lp x.lm 0 else Rep w w' r 0 0 [] [] 151 := by
  obtain ⟨v, tag, he, ht⟩ := h.exp
  exact (report_run he h.ok).mono fun r w' ⟨hd, hr⟩ => ⟨⟨h.fr0 hd, hd⟩, hr⟩
end

/-- One call of the script. -/
structure Op where
  kind : Int
  at_ : Int
  n : Int
  m : Ms
def Op.cells (o : Op) : List Value := [.int .i64 o.kind, .int .i64 o.at_, .int .i64 o.n, .int .i64 o.m.kind, .int .i64 o.m.sender, .int .i64 o.m.to, .int .i64 o.m.id, .int .i64 o.m.epoch, .int .i64 o.m.seq, .int .i64 o.m.version, .int .i64 o.m.prev, .int .i64 o.m.code, o.m.key, o.m.value]
def elO (l : List Op) : List (List Value) := l.map Op.cells
@[simp] theorem elO_len (l : List Op) : (elO l).length = l.length := by simp [elO]
theorem elO_some {l : List Op} {i : Nat} {o : Op} (h : l[i]? = some o) : (elO l)[i]? = some o.cells := by simp [elO, h]

/-- A step of the script of ExportEnds. -/
noncomputable def XS.stepS (x : XS) (o : Op) : XS :=
  if o.kind = 1 then (x.beginS o.n).x else if o.kind = 2 then (x.tellS o.m).1 else if o.kind = 3 then x.tickS.1 else x
theorem XT.stepS {rows : List (List Int)} {R : Nat} {wt n : Int} {x : XS} (hR : ∀ r ∈ rows, r.length = R) (hR1 : 1 ≤ R) (hwt : 1 ≤ wt ∧ wt ≤ 1024) (hn' : n + 1 ≤ 1073741824) (h : XT rows R wt n x) (o : Op) : XT rows R wt (n + 1) (x.stepS o) := by
  unfold XS.stepS
  split
  · exact (h.beginS hR hR1 hwt (by omega) o.n).mono (by omega)
  · split
    · exact (h.tellS hR hR1 hwt (by omega) o.m).mono (by omega)
    · split
      · exact h.tickS hR hR1 hwt hn'
      · exact h.mono (by omega)

/-- Behind a Begin nobody answers: what holds after i ticks. -/
structure Sil (x : XS) (R P : Nat) (wt : Int) (i : Nat) (asked : Nat) : Prop where
  at_ : ∃ d k, XAt x R d k ∧ 1 ≤ d ∧ d ≤ wt ∧ d + wt * k + i = wt * (R * P : Nat) ∧ asked + k = R * P
  all : x.all = []
  missing : ∃ m : Nat, x.part = m ∧ x.missing = (List.range m).map fun (n : Nat) => (n : Int)


section
variable {rows : List (List Int)} {R : Nat} {wt n : Int} {x : XS}
theorem Sil.begin_ (hR : ∀ r ∈ rows, r.length = R) (hR1 : 1 ≤ R) (hP : 1 ≤ rows.length) (hwt : 1 ≤ wt ∧ wt ≤ 1024) (hn' : n ≤ 1073741824) (h : XT rows R wt n x) (hb : x.busy = false) :
    (x.beginS 1).err = 0 ∧ (x.beginS 1).out.length = 1 ∧ Sil (x.beginS 1).x R rows.length wt 0 1 := by
  obtain ⟨to, rest, hx⟩ : ∃ to rest, rows[0]'(by omega) = to :: rest := by
    have hl := hR _ (List.getElem_mem (l := rows) (n := 0) (by omega))
    cases hx : rows[0]'(by omega) with
    | nil => rw [hx] at hl; simp at hl; omega
    | cons to rest => exact ⟨to, rest, rfl⟩
  have hl := hR _ (List.getElem_mem (l := rows) (n := 0) (by omega))
  rw [hx] at hl
  have e : x.rows[0]? = some (to :: rest) := by rw [h.rows, List.getElem?_eq_getElem (by omega), hx]
  have hbs : x.beginS 1 = ⟨({ x with busy := true, job := IntKind.i64.wrap (x.job + 1), version := 1, all := [], missing := [], part := 0, pairs := [], left := to :: rest } : XS).askS, [qMsg to { x with busy := true, job := IntKind.i64.wrap (x.job + 1), version := 1, all := [], missing := [], part := 0, pairs := [], left := to :: rest }], 0⟩ := by
    unfold XS.beginS
    rw [if_neg (by simp [hb]), if_neg (by omega)]
    unfold XS.takeS
    have h0 : ¬ (0 : Int) = x.rows.length := by rw [h.rows]; omega
    simp only [h0, if_false]
    simp only [show (0 : Int).toNat = 0 from rfl, e]
  rw [hbs]
  refine ⟨rfl, rfl, ⟨⟨wt, R * rows.length - 1, ⟨rfl, ?_, ?_⟩, hwt.1, Int.le_refl _, ?_, ?_⟩, rfl, 0, rfl, rfl⟩⟩
  · exact (XT.ask (x := { x with busy := true, job := IntKind.i64.wrap (x.job + 1), version := 1, all := [], missing := [], part := 0, pairs := [], left := to :: rest }) (rows := rows) (R := R) (n := n) h.rows h.wait h.now hwt hn' ⟨by simp, by show (to :: rest).length ≤ R; omega⟩ ⟨Int.le_refl 0, by show (0 : Int) < rows.length; omega⟩).2
  · show (to :: rest).length - 1 + R * (x.rows.length - (0 : Int).toNat - 1) = _
    rw [h.rows, hl]
    obtain ⟨j, hj⟩ : ∃ j, rows.length = j + 1 := ⟨rows.length - 1, by omega⟩
    rw [hj, show j + 1 - (0 : Int).toNat - 1 = j by simp, Nat.mul_add]
    omega
  · have hpos : 1 ≤ R * rows.length := Nat.mul_pos hR1 hP
    obtain ⟨q, hq⟩ : ∃ q, R * rows.length = q + 1 := ⟨R * rows.length - 1, by omega⟩
    rw [hq, show q + 1 - 1 = q by omega]
    push_cast
    rw [Int.mul_add]
    omega
  · have hpos : 1 ≤ R * rows.length := Nat.mul_pos hR1 hP
    omega

theorem Sil.tick (hR : ∀ r ∈ rows, r.length = R) (hR1 : 1 ≤ R) (hwt : 1 ≤ wt ∧ wt ≤ 1024) (hn' : n + 1 ≤ 1073741824) (h : XT rows R wt n x) {i asked : Nat} (hs : Sil x R rows.length wt i asked) :
    (x.tickS.2 = [] ∧ Sil x.tickS.1 R rows.length wt (i + 1) asked) ∨
    (x.tickS.2.length = 1 ∧ ((i : Int) + 1) % wt = 0 ∧ Sil x.tickS.1 R rows.length wt (i + 1) (asked + 1)) ∨
    (x.tickS.2 = [] ∧ x.tickS.1.busy = false ∧ x.tickS.1.ended = true ∧ x.tickS.1.lp = [] ∧ x.tickS.1.lm = (List.range rows.length).map (fun (n : Nat) => (n : Int)) ∧ (i : Int) + 1 = wt * (R * rows.length : Nat) ∧ asked = R * rows.length) := by
  obtain ⟨⟨d, k, ha, hd1, hd2, hsum, hask⟩, hall, m, hm, hmiss⟩ := hs
  have htick := ha.tick hR hR1 hwt hn' h hd1
  have mk : ∀ (x' : XS) (i' a' : Nat), (∃ d k, XAt x' R d k ∧ 1 ≤ d ∧ d ≤ wt ∧ d + wt * k + i' = wt * (R * rows.length : Nat) ∧ a' + k = R * rows.length) → x'.all = [] → (∃ m : Nat, x'.part = m ∧ x'.missing = (List.range m).map fun (n : Nat) => (n : Int)) → Sil x' R rows.length wt i' a' := fun x' i' a' h1 h2 h3 => ⟨h1, h2, h3⟩
  generalize hN : R * rows.length = N at hsum hask mk ⊢
  rcases htick with ⟨h1, h2, h3⟩ | ⟨h1, h2, h3, h4, h5, h6, h7⟩ | ⟨h1, h2, h3, h4, h5, h6, h7, h8, h9⟩
  · left
    refine ⟨by rw [h3], mk _ _ _ ⟨d - 1, k, h2, by omega, by omega, by push_cast; omega, hask⟩ ?_ ?_⟩
    · rw [h3]; exact hall
    · rw [h3]; exact ⟨m, hm, hmiss⟩
  · right; left
    obtain ⟨k', rfl⟩ : ∃ k', k = k' + 1 := ⟨k - 1, by omega⟩
    subst h1
    push_cast at hsum
    rw [Int.mul_add] at hsum
    refine ⟨h5, ?_, mk _ _ _ ⟨wt, k', by simpa using h3, hwt.1, Int.le_refl _, by push_cast; omega, by omega⟩ (by rw [h6]; exact hall) ?_⟩
    · have e : (i : Int) + 1 = wt * ((N : Int) - k' - 1) := by
        rw [Int.mul_sub, Int.mul_sub]
        omega
      rw [e]
      exact Int.mul_emod_right _ _
    · rcases h7 with ⟨h7, h8⟩ | ⟨h7, h8⟩
      · exact ⟨m, by rw [h7]; exact hm, by rw [h8]; exact hmiss⟩
      · exact ⟨m + 1, by rw [h7, hm]; rfl, by rw [h8, hmiss, hm, List.range_succ, List.map_append]; rfl⟩
  · right; right
    subst h1; subst h2
    refine ⟨h4, h3, h7, by rw [h8]; exact hall, ?_, by simp at hsum; omega, by omega⟩
    have : rows.length = m + 1 := by omega
    rw [h9, hmiss, hm, this, List.range_succ, List.map_append]
    rfl
end

end Go.Proofs.YtiggkhmopnhfaaaDoor
