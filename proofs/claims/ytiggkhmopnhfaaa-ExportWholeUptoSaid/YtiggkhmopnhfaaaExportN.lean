/-
  Layer 21 (export), part N: ExportWhole: the talk in memory, beside an exporter of one's own.
-/
import Derived.Test.YtiggkhmopnhfaaaExportJ
namespace Go.Proofs.Ytiggkhmopnhfaaa
open Go.Lift
set_option linter.unusedSimpArgs false

/-- The question of now, as a message. -/
def XS.q (x : XS) : Ms := ⟨15, 67, x.left.headD 0, x.job, 0, x.part, x.version, x.pairs.length, 0, .string ByteArray.empty, .string ByteArray.empty⟩
theorem XS.q_fine (x : XS) : x.q.fine := ⟨isCell_string _, isCell_string _⟩
theorem qMsg_q {x : XS} {to : Int} {rest : List Int} (h : x.left = to :: rest) : qMsg to x = x.q.cells := by
  unfold qMsg XS.q Ms.cells
  rw [h]; rfl
def elM (l : List Ms) : List (List Value) := l.map Ms.cells
@[simp] theorem elM_len (l : List Ms) : (elM l).length = l.length := by simp [elM]
theorem elM_some {l : List Ms} {i : Nat} {m : Ms} (h : l[i]? = some m) : (elM l)[i]? = some m.cells := by simp [elM, h]
theorem elM_app (l : List Ms) (m : Ms) : elM l ++ [m.cells] = elM (l ++ [m]) := by simp [elM]
theorem Ms.cells_all {m : Ms} (h : m.fine) : m.cells.all isCell = true := by simp [Ms.cells, h.1, h.2]
@[simp] theorem Ms.cells_len (m : Ms) : m.cells.length = 11 := rfl
@[simp] theorem Ms.val_cells (m : Ms) : m.val.cells = m.cells.toArray := rfl

/-- The talk. -/
structure TS where
  q : Ms
  opn : Bool
  old : List Ms
  part : Int
  left : Int
  missing : List Int
  steps : Int
def TS.cells (T : TS) (b : Nat) (ov mv : Value) : List Value :=
  [.pointer (some ⟨b, 0, none⟩), .int .i64 T.q.kind, .int .i64 T.q.sender, .int .i64 T.q.to, .int .i64 T.q.id, .int .i64 T.q.epoch, .int .i64 T.q.seq, .int .i64 T.q.version, .int .i64 T.q.prev, .int .i64 T.q.code, T.q.key, T.q.value,
    .bool T.opn, ov, .int .i64 T.part, .int .i64 T.left, mv, .int .i64 T.steps]
/-- What was heard. -/
def TS.hear (T : TS) : List Ms → TS
  | [q] => { T with q := q, opn := true }
  | _ => T

/-- In w, an exporter x at b, a talk T at t, and blocks S beside them, all newer than w0, of which nothing has turned. -/
structure TkM (w0 w : World) (b t : Nat) (x : XS) (T : TS) (S : List (Nat × List Value)) (v : XV) (tag : Nat → Nat) (ov mv : Value) : Prop where
  fr : Fr (fun _ => False) w0 w
  ok : XOk x
  fine : T.q.fine
  exp : Exp w b x v tag
  low : ∀ c, tag c ≠ 0 → w0.heap.size ≤ c
  blk : bk w t = some (T.cells b ov mv)
  wr : wr w t = true
  tlo : w0.heap.size ≤ t
  ttag : tag t = 0
  old : SlW 11 w ov (elM T.old)
  oldb : ∀ c, inB ov c → w0.heap.size ≤ c ∧ c < w.heap.size ∧ tag c = 0 ∧ c ≠ t
  mis : SlW 1 w mv (elI T.missing)
  misb : ∀ c, inB mv c → w0.heap.size ≤ c ∧ c < w.heap.size ∧ tag c = 0 ∧ c ≠ t ∧ ¬ inB ov c
  side : ∀ s ∈ S, bk w s.1 = some s.2 ∧ Go.Lift.wr w s.1 = true ∧ w0.heap.size ≤ s.1 ∧ tag s.1 = 0 ∧ s.1 ≠ t ∧ ¬ inB ov s.1 ∧ ¬ inB mv s.1
def Tk (w0 w : World) (b t : Nat) (x : XS) (T : TS) (S : List (Nat × List Value)) : Prop := ∃ v tag ov mv, TkM w0 w b t x T S v tag ov mv

section
variable {w0 w w' : World} {b t : Nat} {x x' : XS} {T T' : TS} {S S' : List (Nat × List Value)} {v : XV} {tag : Nat → Nat} {ov mv ov' mv' : Value}
theorem TkM.did (h : TkM w0 w b t x T S v tag ov mv) (hd : Did w w' b tag x') (hok : XOk x') : Tk w0 w' b t x' T S := by
  obtain ⟨v', tag', he, h'⟩ := hd.exp
  have hz : ∀ c, c < w.heap.size → tag c = 0 → tag' c = 0 := by
    intro c hc h0
    by_cases hn : tag' c = 0
    · exact hn
    · rcases h' c hn with h1 | h1
      · exact absurd h0 h1
      · omega
  have htl := bk_lt h.blk
  have hsz := hd.fr.size
  have hF : ∀ c, tag c = 0 → ¬ tag c ≠ 0 := fun c h1 h2 => h2 h1
  refine ⟨v', tag', ov, mv, ⟨h.fr.new hd.fr h.low, hok, h.fine, he, fun c hc => ?_, hd.fr.bk_some h.blk (hF t h.ttag), by rw [hd.fr.wr htl (hF t h.ttag)]; exact h.wr, h.tlo, hz t htl h.ttag, h.old.fr hd.fr fun c hc => hF c (h.oldb c hc).2.2.1, fun c hc => ?_, h.mis.fr hd.fr fun c hc => hF c (h.misb c hc).2.2.1, fun c hc => ?_, fun s hs => ?_⟩⟩
  · rcases h' c hc with h1 | h1
    · exact h.low c h1
    · exact Nat.le_trans h.fr.size h1
  · obtain ⟨h1, h2, h3, h4⟩ := h.oldb c hc
    exact ⟨h1, by omega, hz c h2 h3, h4⟩
  · obtain ⟨h1, h2, h3, h4⟩ := h.misb c hc
    exact ⟨h1, by omega, hz c h2 h3, h4⟩
  · obtain ⟨h1, h2, h3, h4, h5⟩ := h.side s hs
    have hl := bk_lt h1
    exact ⟨hd.fr.bk_some h1 (hF _ h4), by rw [hd.fr.wr hl (hF _ h4)]; exact h2, h3, hz _ hl h4, h5⟩
theorem Tk.fr0 (h : Tk w0 w b t x T S) (f : Fr (fun _ => False) w w') : Tk w0 w' b t x T S := by
  obtain ⟨v, tag, ov, mv, h⟩ := h
  have hsz := f.size
  exact ⟨v, tag, ov, mv, ⟨h.fr.trans f fun _ _ => id, h.ok, h.fine, ⟨h.exp.x0.fr f fun _ h => h.elim, fun hb => ⟨(h.exp.busy hb).1.fr f fun _ h => h.elim, (h.exp.busy hb).2.fr f fun _ h => h.elim⟩⟩, h.low, f.bk_some h.blk id,
    by rw [f.wr (bk_lt h.blk) id]; exact h.wr, h.tlo, h.ttag, h.old.fr f fun _ _ => id, fun c hc => by obtain ⟨h1, h2, h3, h4⟩ := h.oldb c hc; exact ⟨h1, by omega, h3, h4⟩, h.mis.fr f fun _ _ => id,
    fun c hc => by obtain ⟨h1, h2, h3, h4⟩ := h.misb c hc; exact ⟨h1, by omega, h3, h4⟩, fun s hs => by obtain ⟨h1, h2, h3⟩ := h.side s hs; exact ⟨f.bk_some h1 id, by rw [f.wr (bk_lt h1) id]; exact h2, h3⟩⟩⟩
theorem Tk.sub (h : Tk w0 w b t x T S) (hs : ∀ s ∈ S', s ∈ S) : Tk w0 w b t x T S' := by
  obtain ⟨v, tag, ov, mv, h⟩ := h
  exact ⟨v, tag, ov, mv, ⟨h.fr, h.ok, h.fine, h.exp, h.low, h.blk, h.wr, h.tlo, h.ttag, h.old, h.oldb, h.mis, h.misb, fun s hs' => h.side s (hs s hs')⟩⟩
theorem Tk.nil (h : Tk w0 w b t x T S) : Tk w0 w b t x T [] := h.sub fun s hs => by cases hs
theorem Tk.add (h : Tk w0 w b t x T S) (f : Fr (fun _ => False) w w') {c : Nat} {l : List Value} (hb : bk w' c = some l) (hw : Go.Lift.wr w' c = true) (hc : w.heap.size ≤ c) : Tk w0 w' b t x T ((c, l) :: S) := by
  have h0 := h
  obtain ⟨v, tag, ov, mv, h⟩ := h
  have h1 : Tk w0 w' b t x T S := h0.fr0 f
  have hsz := h.fr.size
  have htl := bk_lt h.blk
  have hfr := f.size
  refine ⟨v, tag, ov, mv, ⟨h.fr.trans f fun _ _ => id, h.ok, h.fine, ⟨h.exp.x0.fr f fun _ h => h.elim, fun hb => ⟨(h.exp.busy hb).1.fr f fun _ h => h.elim, (h.exp.busy hb).2.fr f fun _ h => h.elim⟩⟩, h.low, f.bk_some h.blk id,
    by rw [f.wr (bk_lt h.blk) id]; exact h.wr, h.tlo, h.ttag, h.old.fr f fun _ _ => id, fun c hc => by obtain ⟨h1, h2, h3, h4⟩ := h.oldb c hc; exact ⟨h1, by omega, h3, h4⟩, h.mis.fr f fun _ _ => id,
    fun c hc => by obtain ⟨h1, h2, h3, h4⟩ := h.misb c hc; exact ⟨h1, by omega, h3, h4⟩, fun s hs => ?_⟩⟩
  rcases List.mem_cons.1 hs with rfl | hs
  · refine ⟨hb, hw, by omega, ?_, by simp only; omega, fun hi => ?_, fun hi => ?_⟩
    · by_cases hn : tag c = 0
      · exact hn
      · have := h.exp.x0.bound c hn; omega
    · have := (h.oldb c hi).2.1; omega
    · have := (h.misb c hi).2.1; omega
  · obtain ⟨h1, h2, h3⟩ := h.side s hs; exact ⟨f.bk_some h1 id, by rw [f.wr (bk_lt h1) id]; exact h2, h3⟩
theorem Tk.get (h : Tk w0 w b t x T S) {c : Nat} {l : List Value} (hs : (c, l) ∈ S) : bk w c = some l ∧ Go.Lift.wr w c = true := by
  obtain ⟨v, tag, ov, mv, h⟩ := h
  exact ⟨(h.side _ hs).1, (h.side _ hs).2.1⟩
theorem Tk.put {c : Nat} {l : List Value} (h : Tk w0 w b t x T ((c, l) :: S)) (hS : ∀ s ∈ S, s.1 ≠ c) (o : Nat) (vs : List Value) : Tk w0 (sto w c o vs) b t x T ((c, setL l o vs) :: S) := by
  obtain ⟨v, tag, ov, mv, h⟩ := h
  obtain ⟨c1, c2, c3, c4, c5, c6, c7⟩ := h.side (c, l) (by simp)
  simp only at c1 c2 c3 c4 c5 c6 c7
  have f : Fr (fun d => d = c) w (sto w c o vs) := (Fr.refl (fun d => d = c) w).sto (.inl rfl) _ _
  have hsz : (sto w c o vs).heap.size = w.heap.size := size_sto _ _ _ _
  have hne : ∀ d, tag d ≠ 0 → d ≠ c := fun d hd he => hd (he ▸ c4)
  have htl := bk_lt h.blk
  refine ⟨v, tag, ov, mv, ⟨h.fr.new f (fun d hd => by rw [hd]; exact c3), h.ok, h.fine, ⟨h.exp.x0.fr f ?_, fun hb => ⟨(h.exp.busy hb).1.fr f ?_, (h.exp.busy hb).2.fr f ?_⟩⟩, h.low, f.bk_some h.blk (fun he => c5 he.symm),
    by rw [f.wr htl (fun he => c5 he.symm)]; exact h.wr, h.tlo, h.ttag, h.old.fr f (fun d hd he => c6 (he ▸ hd)), fun d hd => by rw [hsz]; exact h.oldb d hd, h.mis.fr f (fun d hd he => c7 (he ▸ hd)), fun d hd => by rw [hsz]; exact h.misb d hd, fun s hs => ?_⟩⟩
  · intro d hd
    subst hd
    refine ⟨by rw [c4]; decide, fun he => ?_⟩
    have := h.exp.x0.tb
    rw [← he, c4] at this
    cases this
  · intro d hd
    subst hd
    rw [c4]; exact ⟨by decide, by decide⟩
  · intro d hd
    subst hd
    rw [c4]; exact ⟨by decide, by decide⟩
  · rcases List.mem_cons.1 hs with rfl | hs
    · exact ⟨by simp [c1], by rw [wr_sto]; exact c2, c3, c4, c5, c6, c7⟩
    · obtain ⟨h1, h2, h3⟩ := h.side s (List.mem_cons_of_mem _ hs)
      exact ⟨f.bk_some h1 (hS s hs), by rw [f.wr (bk_lt h1) (hS s hs)]; exact h2, h3⟩
/-- The talk's own block is written, its lists may grow. -/
theorem TkM.set (h : TkM w0 w b t x T S v tag ov mv) (f : Fr (fun c => c = t ∨ inB ov c ∨ inB mv c) w w') (hb : bk w' t = some (T'.cells b ov' mv')) (hw : Go.Lift.wr w' t = true) (hfine : T'.q.fine)
    (ho : SlW 11 w' ov' (elM T'.old)) (hob : ∀ c, inB ov' c → inB ov c ∨ (w.heap.size ≤ c ∧ c < w'.heap.size)) (hm : SlW 1 w' mv' (elI T'.missing)) (hmb : ∀ c, inB mv' c → inB mv c ∨ (w.heap.size ≤ c ∧ c < w'.heap.size))
    (hd : ∀ c, inB mv' c → ¬ inB ov' c) : TkM w0 w' b t x T' S v tag ov' mv' := by
  have hsz := f.size
  have hw0 := h.fr.size
  have htl := bk_lt h.blk
  have ht0 : ∀ c, (c = t ∨ inB ov c ∨ inB mv c) → tag c = 0 ∧ w0.heap.size ≤ c := by
    rintro c (rfl | hc | hc)
    · exact ⟨h.ttag, h.tlo⟩
    · exact ⟨(h.oldb c hc).2.2.1, (h.oldb c hc).1⟩
    · exact ⟨(h.misb c hc).2.2.1, (h.misb c hc).1⟩
  have hnew : ∀ c, w.heap.size ≤ c → tag c = 0 := by
    intro c hc
    by_cases hn : tag c = 0
    · exact hn
    · have := h.exp.x0.bound c hn; omega
  refine ⟨h.fr.new f (fun c hc => (ht0 c hc).2), h.ok, hfine, ⟨h.exp.x0.fr f ?_, fun hb => ⟨(h.exp.busy hb).1.fr f ?_, (h.exp.busy hb).2.fr f ?_⟩⟩, h.low, hb, hw, h.tlo, h.ttag, ho, fun c hc => ?_, hm, fun c hc => ?_, fun s hs => ?_⟩
  · intro c hc
    refine ⟨by rw [(ht0 c hc).1]; decide, fun he => ?_⟩
    have := h.exp.x0.tb
    rw [← he, (ht0 c hc).1] at this
    cases this
  · intro c hc
    rw [(ht0 c hc).1]; exact ⟨by decide, by decide⟩
  · intro c hc
    rw [(ht0 c hc).1]; exact ⟨by decide, by decide⟩
  · rcases hob c hc with h1 | ⟨h1, h2⟩
    · obtain ⟨h1, h2, h3, h4⟩ := h.oldb c h1
      exact ⟨h1, by omega, h3, h4⟩
    · exact ⟨by omega, h2, hnew c h1, by omega⟩
  · rcases hmb c hc with h1 | ⟨h1, h2⟩
    · obtain ⟨h1, h2, h3, h4, h5⟩ := h.misb c h1
      exact ⟨h1, by omega, h3, h4, hd c hc⟩
    · exact ⟨by omega, h2, hnew c h1, by omega, hd c hc⟩
  · obtain ⟨h1, h2, h3, h4, h5, h6, h7⟩ := h.side s hs
    have hl := bk_lt h1
    have hn : ¬ (s.1 = t ∨ inB ov s.1 ∨ inB mv s.1) := by rintro (h | h | h); exact h5 h; exact h6 h; exact h7 h
    refine ⟨f.bk_some h1 hn, by rw [f.wr hl hn]; exact h2, h3, h4, h5, fun hc => ?_, fun hc => ?_⟩
    · rcases hob _ hc with h | h
      · exact h6 h
      · omega
    · rcases hmb _ hc with h | h
      · exact h7 h
      · omega
/-- Only numbers of it are written. -/
theorem TkM.num (h : TkM w0 w b t x T S v tag ov mv) (f : Fr (fun c => c = t) w w') (hb : bk w' t = some (T'.cells b ov mv)) (hw : Go.Lift.wr w' t = true) (hfine : T'.q.fine) (ho : T'.old = T.old) (hm : T'.missing = T.missing) : TkM w0 w' b t x T' S v tag ov mv :=
  h.set (f.mono fun _ h => .inl h) hb hw hfine (by rw [ho]; exact h.old.fr f fun c hc => (h.oldb c hc).2.2.2) (fun c hc => .inl hc) (by rw [hm]; exact h.mis.fr f fun c hc => (h.misb c hc).2.2.2.1) (fun c hc => .inl hc) fun c hc => (h.misb c hc).2.2.2.2

theorem Tk.begin_ (h : Tk w0 w b t x T S) (n : Int) :
    Run (F.export_Export_Begin (.pointer (some ⟨b, 0, none⟩)) (.int .i64 n)) w fun r w' => Tk w0 w' b t (x.beginS n).x T S ∧ ∃ ov, r = .tuple #[ov, .int .i64 (x.beginS n).err] ∧ SlW 11 w' ov (x.beginS n).out := by
  obtain ⟨v, tag, ov, mv, h⟩ := h
  exact (begin_run h.exp h.ok n).mono fun r w' ⟨hd, ov, h1, h2, _⟩ => ⟨h.did hd (h.ok.beginS n), ov, h1, h2⟩
theorem Tk.tell (h : Tk w0 w b t x T S) {m : Ms} (hm : m.fine) :
    Run (F.export_Export_Take (.pointer (some ⟨b, 0, none⟩)) m.val) w fun r w' => Tk w0 w' b t (x.tellS m).1 T S ∧ ∃ ov, r = .tuple #[ov, .int .i64 0] ∧ SlW 11 w' ov (x.tellS m).2 := by
  obtain ⟨v, tag, ov, mv, h⟩ := h
  exact (tell_run h.exp h.ok hm).mono fun r w' ⟨hd, ov, h1, h2, _⟩ => ⟨h.did hd (h.ok.tellS hm), ov, h1, h2⟩
theorem Tk.tick (h : Tk w0 w b t x T S) :
    Run (F.export_Export_Tick (.pointer (some ⟨b, 0, none⟩))) w fun r w' => Tk w0 w' b t x.tickS.1 T S ∧ ∃ ov, r = .tuple #[ov, .int .i64 0] ∧ SlW 11 w' ov x.tickS.2 := by
  obtain ⟨v, tag, ov, mv, h⟩ := h
  exact (tick_run h.exp h.ok).mono fun r w' ⟨hd, ov, h1, h2, _⟩ => ⟨h.did hd h.ok.tickS, ov, h1, h2⟩
theorem Tk.isBusy (h : Tk w0 w b t x T S) {Q : Value → World → Prop} (q : Q (.bool x.busy) w) : Run (F.export_Export_Busy (.pointer (some ⟨b, 0, none⟩))) w Q := by
  obtain ⟨v, tag, ov, mv, h⟩ := h
  exact busy_run h.exp q
theorem Tk.report (h : Tk w0 w b t x T S) :
    Run (F.export_Export_Report (.pointer (some ⟨b, 0, none⟩))) w fun r w' => (Tk w0 w' b t x T S ∧ Fr (fun _ => False) w w') ∧
      if x.ended = true then Rep w w' r x.lj x.lv x.lp x.lm 0 else Rep w w' r 0 0 [] [] 151 := by
  have h0 := h
  obtain ⟨v, tag, ov, mv, h⟩ := h
  exact (report_run h.exp h.ok).mono fun r w' ⟨hd, hr⟩ => ⟨⟨h0.fr0 hd, hd⟩, hr⟩

theorem Tk.tb (h : Tk w0 w b t x T S) : ∃ ov mv, bk w t = some (T.cells b ov mv) ∧ Go.Lift.wr w t = true ∧ SlW 11 w ov (elM T.old) ∧ SlW 1 w mv (elI T.missing) := by
  obtain ⟨v, tag, ov, mv, h⟩ := h
  exact ⟨ov, mv, h.blk, h.wr, h.old, h.mis⟩
/-- Only numbers of the talk are written. -/
theorem Tk.num (h : Tk w0 w b t x T S) (f : Fr (fun c => c = t) w w') (hb : ∀ ov mv, bk w t = some (T.cells b ov mv) → bk w' t = some (T'.cells b ov mv)) (hw : Go.Lift.wr w' t = Go.Lift.wr w t) (hfine : T'.q.fine) (ho : T'.old = T.old) (hm : T'.missing = T.missing) : Tk w0 w' b t x T' S := by
  obtain ⟨v, tag, ov, mv, h⟩ := h
  exact ⟨v, tag, ov, mv, h.num f (hb ov mv h.blk) (by rw [hw]; exact h.wr) hfine ho hm⟩
theorem hear_run (h : Tk w0 w b t x T S) {rv : Value} {out : List Ms} (hs : Sl 11 w rv (elM out)) (hl : out.length ≤ 1) (hf : ∀ m ∈ out, m.fine) :
    Run (F.granarylaw21_talk_hear (.pointer (some ⟨t, 0, none⟩)) rv (.int .i64 0)) w fun r w' => r = .bool true ∧ Tk w0 w' b t x (T.hear out) S := by
  have h0 := h
  obtain ⟨v, tag, ov, mv, h⟩ := h
  unfold F.granarylaw21_talk_hear
  have hlen := hs.lenL
  simp only [elM_len] at hlen
  obtain rfl | ⟨q, rfl⟩ : out = [] ∨ ∃ q, out = [q] := by
    cases out with
    | nil => exact .inl rfl
    | cons q l => exact .inr ⟨q, by simp at hl; rw [hl]⟩
  · simp at hlen
    simp [num_run, hlen]
    exact h0
  · simp at hlen
    obtain ⟨c, o, l, i1, i2, i3, i4, _⟩ := hs.rd (by decide) (elM_some (l := [q]) (i := 0) rfl) .i64
    have hq := hf q (by simp)
    have hld : ldA 11 (.pointer (some ⟨c, o, none⟩)) w = some q.val := by rw [ldA_bk i2 i3, i4]; rfl
    have hb := h.blk
    have hw := h.wr
    have hall := Ms.cells_all hq
    have i1' : idxA 11 rv (.int .i64 0) = some (.pointer (some ⟨c, o, none⟩)) := i1
    simp [-ldA_ptr, num_run, hlen, i1', hld, hb, hw, TS.cells]
    have hbb : bk (sto (sto w t 1 q.cells) t 12 [Value.bool true]) t = some (({ T with q := q, opn := true } : TS).cells b ov mv) := by simp [hb, TS.cells, Ms.cells]
    have f : Fr (fun c => c = t) w (sto (sto w t 1 q.cells) t 12 [Value.bool true]) := ((Fr.refl (fun c => c = t) w).sto (.inl rfl) _ _).sto (.inl rfl) _ _
    refine ⟨fun i hi => List.all_eq_true.1 hall _ (List.getElem_mem _), by simp [length_setL], v, tag, ov, mv, h.num f hbb (by simp [hw]) hq rfl rfl⟩
end

end Go.Proofs.Ytiggkhmopnhfaaa
