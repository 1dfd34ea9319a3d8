/-
  The document's exporter (granaryref21), part J: Begin, Take, Tick, Busy.
-/
import Derived.Test.YtiggkhmopnhfaaaDoorRefI
namespace Go.Proofs.YtiggkhmopnhfaaaDoor
open Go.Lift
set_option linter.unusedSimpArgs false
set_option maxHeartbeats 1000000

def RS.begun (r : RS) (version : Int) : RS := { r with on := true, job := IntKind.i64.wrap (r.job + 1), version := version, part := 0, left := 0, read := [], of := [], lost := [] }
def RS.beginR (r : RS) (version : Int) : RS × List Ms × Int :=
  if r.on = true then (r, [], 150) else if version < 1 ∨ version > 999999 then (r, [], 80) else ((r.begun version).askR, [(r.begun version).qm], 0)
def RS.fitsR (r : RS) (m : Ms) : Prop := m.kind = 16 ∧ m.sender = (r.rows.getD r.part []).getD r.left 0 ∧ m.id = r.job ∧ m.seq = r.part ∧ m.version = r.version ∧ m.prev = r.cnt
open Classical in
noncomputable def RS.tellR (r : RS) (m : Ms) : RS × List Ms :=
  if ¬ (r.on = true ∧ r.fitsR m) then (r, [])
  else if m.code = 16 then r.goOnR
  else if m.code = 0 ∧ r.cnt < 512 then (({ r with read := r.read ++ [(m.key, m.value)], of := r.of ++ [(r.part : Int)] } : RS).askR, [({ r with read := r.read ++ [(m.key, m.value)], of := r.of ++ [(r.part : Int)] } : RS).qm])
  else r.leaveR
def RS.tickR (r : RS) : RS × List Ms :=
  if r.on = true ∧ r.sent = IntKind.i64.wrap (IntKind.i64.wrap (r.now + 1) - r.wait) then ({ r with now := IntKind.i64.wrap (r.now + 1) } : RS).leaveR else ({ r with now := IntKind.i64.wrap (r.now + 1) }, [])

section
variable {w w' : World} {b : Nat} {r r' : RS} {v v' : RV} {ro ro' foot foot' : Nat → Prop}
theorem RDid.same (h : RM w b r v ro foot) (f : Fr (fun _ => False) w w') : RDid w w' b foot r := ⟨f.mono fun _ h => h.elim, v, ro, (h.fr0 f).wider fun c hc => .inl hc⟩

theorem begin21_run (h : RM w b r v ro foot) (hok : ROk r) (hrows : r.rows ≠ []) (hfs : ∀ c, foot c → c < w.heap.size) (n : Int) :
    Run (F.granaryref21_Export_Begin (.pointer (some ⟨b, 0, none⟩)) (.int .i64 n)) w fun x w' => RDid w w' b foot (r.beginR n).1 ∧ ∃ ov, x = .tuple #[ov, .int .i64 (r.beginR n).2.2] ∧ SlW 11 w' ov (elMR (r.beginR n).2.1) ∧ New w w' ov := by
  unfold F.granaryref21_Export_Begin
  have hb := h.blk
  have hw := h.wr
  simp [hb, RS.cells]
  cases hon : r.on with
  | true =>
    have e : r.beginR n = (r, [], 150) := by unfold RS.beginR; rw [if_pos hon]
    rw [e]
    simp
    exact ⟨RDid.same h (Fr.refl _ _), SlW.nil _ _, fun c hc => hc.elim⟩
  | false =>
    by_cases hn : n < 1 ∨ n > 999999
    · have e : r.beginR n = (r, [], 80) := by unfold RS.beginR; rw [if_neg (by rw [hon]; decide), if_pos hn]
      rw [e]
      rcases hn with hn | hn
      · simp [hn]
        exact ⟨RDid.same h (Fr.refl _ _), SlW.nil _ _, fun c hc => hc.elim⟩
      · have h1 : ¬ n < 1 := by omega
        have h2 : 999999 < n := hn
        simp [h1, h2]
        exact ⟨RDid.same h (Fr.refl _ _), SlW.nil _ _, fun c hc => hc.elim⟩
    have h1 : ¬ n < 1 := by omega
    have h2 : ¬ 999999 < n := by omega
    have e : r.beginR n = ((r.begun n).askR, [(r.begun n).qm], 0) := by unfold RS.beginR; rw [if_neg (by rw [hon]; decide), if_neg hn]
    rw [e]
    simp [h1, h2, hb, hw, RS.cells]
    obtain ⟨row, er⟩ : ∃ row, r.rows[0]? = some row := ⟨_, List.getElem?_eq_getElem (List.length_pos_iff.2 hrows)⟩
    have hne := (hok.ne row (List.mem_of_getElem? er)).1
    obtain ⟨to, hto⟩ : ∃ to, row[0]? = some to := ⟨_, List.getElem?_eq_getElem (List.length_pos_iff.2 hne)⟩
    generalize hW : sto (sto (sto (sto (sto (sto (sto (sto w b 5 [Value.bool true]) b 3 [Value.int IntKind.i64 (IntKind.i64.wrap (r.job + 1))]) b 4 [Value.int IntKind.i64 n]) b 7 [Value.int IntKind.i64 0]) b 8 [Value.int IntKind.i64 0]) b 10 [Value.slice none 0 0]) b 11 [Value.slice none 0 0]) b 12 [Value.slice none 0 0] = w1
    have hb1 : bk w1 b = some ((r.begun n).cells { v with read := .slice none 0 0, of := .slice none 0 0, lost := .slice none 0 0 }) := by rw [← hW]; simp [hb, RS.cells, RS.begun]
    have hw1 : wr w1 b = true := by rw [← hW]; simp [hw]
    have f1 : Fr (fun c => c = b) w w1 := by
      rw [← hW]
      exact (((((((((Fr.refl (fun c => c = b) w).sto (.inl rfl) _ _).sto (.inl rfl) _ _).sto (.inl rfl) _ _).sto (.inl rfl) _ _).sto (.inl rfl) _ _).sto (.inl rfl) _ _).sto (.inl rfl) _ _).sto (.inl rfl) _ _)
    have h1' : RM w1 b (r.begun n) { v with read := .slice none 0 0, of := .slice none 0 0, lost := .slice none 0 0 } ro foot := h.set f1 (fun c hc hr => (h.fro c hr).2.1 hc) hb1 hw1 rfl rfl rfl rfl rfl rfl (fun _ h => h) fun _ =>
      ⟨SlW.nil _ _, fun c hc => hc.elim, SlW.nil _ _, fun c hc => hc.elim, SlW.nil _ _, fun c hc => hc.elim⟩
    refine (question_run (r := r.begun n) h1' rfl er hto (by show ([] : List Int).length ≤ _; simp)).mono ?_
    rintro x w2 ⟨h2, f2, hs2, hn2⟩
    have s1 := f1.size
    exact ⟨⟨((f1.trans f2 fun _ _ h => h).mono fun c hc => hc ▸ h.fb), _, ro, h2.wider fun c hc => .inl hc⟩, hs2, fun c hc => by have := hn2 c hc; omega⟩

theorem tick21_run (h : RM w b r v ro foot) (hok : ROk r) (hfs : ∀ c, foot c → c < w.heap.size) :
    Run (F.granaryref21_Export_Tick (.pointer (some ⟨b, 0, none⟩))) w fun x w' => RDid w w' b foot r.tickR.1 ∧ ∃ ov, x = .tuple #[ov, .int .i64 0] ∧ SlW 11 w' ov (elMR r.tickR.2) ∧ New w w' ov := by
  unfold F.granaryref21_Export_Tick
  have hb := h.blk
  have hw := h.wr
  simp [hb, hw, RS.cells]
  have hb1 : bk (sto w b 2 [.int .i64 (IntKind.i64.wrap (r.now + 1))]) b = some (({ r with now := IntKind.i64.wrap (r.now + 1) } : RS).cells v) := by simp [hb, RS.cells]
  have hw1 : wr (sto w b 2 [.int .i64 (IntKind.i64.wrap (r.now + 1))]) b = true := by simp [hw]
  have f1 : Fr (fun c => c = b) w (sto w b 2 [.int .i64 (IntKind.i64.wrap (r.now + 1))]) := (Fr.refl (fun c => c = b) w).sto (.inl rfl) _ _
  generalize sto w b 2 [.int .i64 (IntKind.i64.wrap (r.now + 1))] = w1 at *
  have h1 : RM w1.drew b ({ r with now := IntKind.i64.wrap (r.now + 1) } : RS) v ro foot := h.set f1.drew (fun c hc hr => (h.fro c hr).2.1 hc) hb1 hw1 rfl rfl rfl rfl rfl rfl (fun _ h => h) fun hon => (by
    have hL := h.on hon
    have hL' := hL.fr f1.drew fun c hc => ⟨fun hi => (hL.readf c hi).2.2 hc, fun hi => (hL.off c hi).2.2.1 hc, fun hi => (hL.lostf c hi).2.2.1 hc⟩
    exact ⟨hL'.read, hL'.readf, hL'.of, hL'.off, hL'.lost, hL'.lostf⟩)
  have d1 : w1.drew.heap.size = w1.heap.size := rfl
  have s1 := f1.size
  have hbf : ∀ c, c = b → foot c := fun c hc => hc ▸ h.fb
  have same : ¬ (r.on = true ∧ r.sent = IntKind.i64.wrap (IntKind.i64.wrap (r.now + 1) - r.wait)) → RDid w w1.drew b foot r.tickR.1 ∧ r.tickR.2 = [] := by
    intro hn
    have e : r.tickR = ({ r with now := IntKind.i64.wrap (r.now + 1) }, []) := by unfold RS.tickR; rw [if_neg hn]
    rw [e]
    exact ⟨⟨f1.drew.mono hbf, v, ro, h1.wider fun c hc => .inl hc⟩, rfl⟩
  cases hon : r.on with
  | false =>
    obtain ⟨g1, g2⟩ := same (by simp [hon])
    simp [hb1, RS.cells, hon, g2]
    exact ⟨g1, SlW.nil _ _, fun c hc => hc.elim⟩
  | true =>
    simp [hb1, RS.cells, hon]
    refine Run_cond (fun hx => ?_) (fun hx => ?_)
    · have hx' : r.sent = IntKind.i64.wrap (IntKind.i64.wrap (r.now + 1) - r.wait) := by simpa using hx
      have e : r.tickR = ({ r with now := IntKind.i64.wrap (r.now + 1) } : RS).leaveR := by unfold RS.tickR; rw [if_pos ⟨hon, hx'⟩]
      rw [e]
      have hok1 : ROk ({ r with now := IntKind.i64.wrap (r.now + 1) } : RS) := ⟨hok.rl, hok.ne, hok.on, hok.rc, hok.lc, hok.lpl, hok.lml⟩
      simp
      refine (leave21_run h1 hon hok1 (fun c hc => by have := hfs c hc; omega)).mono ?_
      rintro x w2 ⟨⟨v2, ro2, h2⟩, f2, hs2, hn2⟩
      have s2 := f2.size
      refine ⟨⟨(f1.drew.mono hbf).trans f2 fun _ _ h => h, v2, ro2, h2.wider ?_⟩, hs2, fun c hc => by have := hn2 c hc; omega⟩
      rintro c (hc | hc)
      · exact .inl hc
      · exact .inr ⟨by omega, hc.2⟩
    · have hx' : ¬ r.sent = IntKind.i64.wrap (IntKind.i64.wrap (r.now + 1) - r.wait) := by simpa using hx
      obtain ⟨g1, g2⟩ := same (fun h => hx' h.2)
      simp [g2]
      exact ⟨g1, SlW.nil _ _, fun c hc => hc.elim⟩

theorem busy21_run (h : RM w b r v ro foot) {Q : Value → World → Prop} (q : Q (.bool r.on) w) : Run (F.granaryref21_Export_Busy (.pointer (some ⟨b, 0, none⟩))) w Q := by
  unfold F.granaryref21_Export_Busy
  simp [h.blk, RS.cells]
  exact q

theorem tell21_run (h : RM w b r v ro foot) (hok : ROk r) (hfs : ∀ c, foot c → c < w.heap.size) {m : Ms} (hm : isCell m.key = true ∧ isCell m.value = true) :
    Run (F.granaryref21_Export_Take (.pointer (some ⟨b, 0, none⟩)) m.val) w fun x w' => RDid w w' b foot (r.tellR m).1 ∧ ∃ ov, x = .tuple #[ov, .int .i64 0] ∧ SlW 11 w' ov (elMR (r.tellR m).2) ∧ New w w' ov := by
  unfold F.granaryref21_Export_Take
  simp [Ms.val]
  refine Run_new fun c w1 hc hcw f1 hcle => ?_
  have hc1 : bk w1 c = some m.cells := by simpa using hc
  have f1d : Fr (fun _ => False) w w1.drew := f1.drew
  have h1 : RM w1.drew b r v ro foot := h.fr0 f1d
  have hb1 : bk w1 b = some (r.cells v) := h1.blk
  have d1 : w1.drew.heap.size = w1.heap.size := rfl
  have s1 := f1.size
  have noneC : ∀ w', Fr (fun _ => False) w w' → r.tellR m = (r, []) → RDid w w' b foot (r.tellR m).1 ∧ SlW 11 w' (.slice none 0 0) (elMR (r.tellR m).2) ∧ New w w' (.slice none 0 0) := by
    intro w' f e
    rw [e]
    exact ⟨RDid.same h f, SlW.nil _ _, fun c hc => hc.elim⟩
  simp [hb1, RS.cells]
  cases hon : r.on with
  | false =>
    have : r.tellR m = (r, []) := by unfold RS.tellR; rw [if_pos (by simp [hon])]
    simp
    exact noneC _ f1d this
  | true =>
    simp [hc1, Ms.cells]
    by_cases hk : m.kind = 16
    case neg =>
      have : r.tellR m = (r, []) := by unfold RS.tellR; rw [if_pos (fun hh => hk hh.2.1)]
      simp [hk]
      exact noneC _ f1d this
    obtain ⟨o1, o2, o3, o4, o5⟩ := hok.on hon
    have er : r.rows[r.part]? = some r.rows[r.part] := List.getElem?_eq_getElem o1
    have hrow := hok.ne _ (List.getElem_mem o1)
    generalize r.rows[r.part] = row at er hrow
    have o2' := o2 row er
    have eto : row[r.left]? = some row[r.left] := List.getElem?_eq_getElem o2'
    generalize row[r.left] = to at eto
    have hgd : (r.rows.getD r.part []).getD r.left 0 = to := by simp [List.getD, er, eto]
    have hL := h1.on hon
    obtain ⟨p, x, p1, p2, p3, p4, p5⟩ := h1.row er
    obtain ⟨q, q1, q2⟩ := p3.rd1 (elI_some eto) .i64
    have p2' : ld1 p w1 = some x := p2
    have q2' : ld1 q w1 = some (.int .i64 to) := q2
    have hcl : r.cnt ≤ 65536 := by
      have := List.count_le_length (a := (r.part : Int)) (l := r.of)
      unfold RS.cnt
      omega
    by_cases g1 : m.sender = to
    case neg =>
      have : r.tellR m = (r, []) := by unfold RS.tellR; rw [if_pos (fun hh => g1 (by rw [hh.2.2.1, hgd]))]
      simp [hk, hc1, hb1, Ms.cells, RS.cells, p1, p2', q1, q2', g1]
      exact noneC _ f1d this
    by_cases g2 : m.id = r.job
    case neg =>
      have : r.tellR m = (r, []) := by unfold RS.tellR; rw [if_pos (fun hh => g2 hh.2.2.2.1)]
      simp [hk, hc1, hb1, Ms.cells, RS.cells, p1, p2', q1, q2', g1, g2]
      exact noneC _ f1d this
    by_cases g3 : m.seq = r.part
    case neg =>
      have : r.tellR m = (r, []) := by unfold RS.tellR; rw [if_pos (fun hh => g3 hh.2.2.2.2.1)]
      simp [hk, hc1, hb1, Ms.cells, RS.cells, p1, p2', q1, q2', g1, g2, g3]
      exact noneC _ f1d this
    by_cases g4 : m.version = r.version
    case neg =>
      have : r.tellR m = (r, []) := by unfold RS.tellR; rw [if_pos (fun hh => g4 hh.2.2.2.2.2.1)]
      simp [hk, hc1, hb1, Ms.cells, RS.cells, p1, p2', q1, q2', g1, g2, g3, g4]
      exact noneC _ f1d this
    simp [hk, hc1, hb1, Ms.cells, RS.cells, p1, p2', q1, q2', g1, g2, g3, g4]
    refine (count_run (w := w1.drew) (r := r) hb1 hL.of.1 (by omega)).mono ?_
    rintro _ w2 ⟨rfl, f2⟩
    have f02 : Fr (fun _ => False) w w2 := f1d.trans f2 fun _ _ => id
    have hc2 : bk w2 c = some m.cells := f2.bk_some (w := w1.drew) hc1 id
    have h2 : RM w2 b r v ro foot := h.fr0 f02
    have hb2 := h2.blk
    have hw2 := h2.wr
    have s2 := f02.size
    by_cases g5 : m.prev = r.cnt
    case neg =>
      have : r.tellR m = (r, []) := by unfold RS.tellR; rw [if_pos (fun hh => g5 hh.2.2.2.2.2.2)]
      simp [hc1, hc2, Ms.cells, g5]
      exact noneC _ f02 this
    have hfits : r.on = true ∧ r.fitsR m := ⟨hon, hk, by rw [hgd]; exact g1, g2, g3, g4, g5⟩
    have htell : r.tellR m = r.tellR m := rfl
    conv at htell => rhs; unfold RS.tellR; rw [if_neg (not_not_intro hfits)]
    have hfs2 : ∀ c, foot c → c < w2.heap.size := fun c hc => by have := hfs c hc; omega
    have widen : ∀ w3, w2.heap.size ≤ w3.heap.size → ∀ c, ext foot w2 w3 c → ext foot w w3 c := by
      rintro w3 _ c (hc | hc)
      · exact .inl hc
      · exact .inr ⟨by omega, hc.2⟩
    simp [hc1, hc2, Ms.cells, g5]
    refine Run_cond (fun hcode => ?_) (fun hcode => ?_)
    · have hcode' : m.code = 16 := by simpa using hcode
      rw [if_pos hcode'] at htell
      rw [htell]
      simp
      refine (goOn_run h2 (h2.on hon) hon o1 hok.rl (fun x hx => (hok.ne x hx).1) (by omega) hfs2).mono ?_
      rintro y w3 ⟨⟨v3, ro3, h3⟩, f3, hs3, hn3⟩
      exact ⟨⟨(f02.mono fun _ h => h.elim).trans (f3.mono fun c hc => (hc ▸ h.fb : foot c)) fun _ _ h => h, v3, ro3, h3.wider fun c hc => .inl hc⟩, hs3, fun c hc => by have := hn3 c hc; omega⟩
    have hcode' : ¬ m.code = 16 := by simpa using hcode
    rw [if_neg hcode'] at htell
    have leaves : ∀ w2', Fr (fun _ => False) w2 w2' → ¬ (m.code = 0 ∧ r.cnt < 512) → Run (F.granaryref21_Export_leave (.pointer (some ⟨b, 0, none⟩))) w2' fun a w' => RDid w w' b foot (r.tellR m).1 ∧ SlW 11 w' a (elMR (r.tellR m).2) ∧ New w w' a := by
      intro w2' f2' hh
      rw [if_neg hh] at htell
      rw [htell]
      have s2' := f2'.size
      refine (leave21_run (h2.fr0 f2') hon hok (fun c hc => by have := hfs c hc; omega)).mono ?_
      rintro y w3 ⟨⟨v3, ro3, h3⟩, f3, hs3, hn3⟩
      refine ⟨⟨((f02.trans f2' fun _ _ => id).mono fun _ h => h.elim).trans f3 fun _ _ h => h, v3, ro3, h3.wider ?_⟩, hs3, fun c hc => by have := hn3 c hc; omega⟩
      rintro c (hc | hc)
      · exact .inl hc
      · exact .inr ⟨by omega, hc.2⟩
    simp [hc2, Ms.cells]
    by_cases hcz : m.code = 0
    case neg =>
      simp [hcz]
      exact leaves w2 (Fr.refl _ _) (fun h => hcz h.1)
    simp [hcz]
    refine (count_run (w := w2) (r := r) hb2 (h2.on hon).of.1 (by omega)).mono ?_
    rintro _ w3 ⟨rfl, f3⟩
    have f03 : Fr (fun _ => False) w w3 := f02.trans f3 fun _ _ => id
    have h3 : RM w3 b r v ro foot := h.fr0 f03
    have hb3 := h3.blk
    have hw3 := h3.wr
    have hc3 : bk w3 c = some m.cells := f3.bk_some hc2 id
    have s3 := f03.size
    by_cases hlen : r.cnt < 512
    case neg =>
      have hlen' : ¬ (r.cnt : Int) < 512 := by omega
      simp [hlen']
      exact leaves w3 f3 (fun h => hlen h.2)
    have hlen' : (r.cnt : Int) < 512 := by omega
    rw [if_pos ⟨hcz, hlen⟩] at htell
    rw [htell]
    have hL3 := h3.on hon
    simp [hlen', hb3, hc3, Ms.cells, RS.cells, buildV, fillV_cell, hm.1, hm.2]
    refine Run_app1 (k := 2) rfl (hL3.read.fr (Fr.refl (fun _ => False) w3).drew fun _ _ => id) (by decide) rfl (by decide) (by simp [hm.1, hm.2]) (by simp; omega) fun rv w4 hs4 f4 hin4 w14 f14 => ?_
    have d3 : w3.drew.heap.size = w3.heap.size := rfl
    have hrb : ¬ inB v.read b := fun hc => (hL3.readf b hc).2.2 rfl
    have hb4 : bk w4 b = _ := f4.bk_some (w := w3.drew) (l := _) hb3 hrb
    have hb14 : bk w14 b = _ := f14.bk_some (w := w3.drew) (l := _) hb3 id
    have hw4 : wr w4 b = true := by rw [f4.wr (w := w3.drew) (bk_lt (w := w3.drew) hb3) hrb]; exact hw3
    have hrc := hs4.1.isCell
    simp [hb4, hw4, hb14, RS.cells, cells_isCell hrc, hrc]
    have hb5 : bk (sto w4 b 10 [rv]) b = some (({ r with read := r.read ++ [(m.key, m.value)] } : RS).cells { v with read := rv }) := by simp [hb4, RS.cells]
    have hw5 : wr (sto w4 b 10 [rv]) b = true := by simp [hw4]
    have g5' : Fr (fun c => c = b) w4 (sto w4 b 10 [rv]) := (Fr.refl (fun c => c = b) w4).sto (.inl rfl) _ _
    have hsz5 : (sto w4 b 10 [rv]).heap.size = w4.heap.size := size_sto _ _ _ _
    generalize sto w4 b 10 [rv] = w5 at *
    have bsz := bk_lt h.blk
    have s4 := f4.size
    have hrv : ∀ c, inB rv c → inB v.read c ∨ (w.heap.size ≤ c ∧ c < w4.heap.size) := fun c hc => by
      rcases hin4 c hc with h' | h'
      · exact .inl h'
      · exact .inr (by omega)
    have hro : ∀ c, inB v.read c → ¬ inB v.of c := fun c hc ho => (hL3.off c ho).2.2.2 hc
    have hof5 : SlW 1 w5 v.of (elI r.of) := (((hL3.of.fr (Fr.refl (fun _ => False) w3).drew fun _ _ => id).fr f4 fun c hc hr => hro c hr hc)).fr g5' fun c hc => (hL3.off c hc).2.2.1
    refine Run_app1 (k := 1) rfl (hof5.fr (Fr.refl (fun _ => False) w5).drew fun _ _ => id) (by decide) rfl (by decide) rfl (by simp; omega) fun fv w6 hs6 f6 hin6 w16 f16 => ?_
    have d5 : w5.drew.heap.size = w5.heap.size := rfl
    have hob : ¬ inB v.of b := fun hc => (hL3.off b hc).2.2.1 rfl
    have hb6 : bk w6 b = _ := f6.bk_some (w := w5.drew) (l := _) hb5 hob
    have hb16 : bk w16 b = _ := f16.bk_some (w := w5.drew) (l := _) hb5 id
    have hw6 : wr w6 b = true := by rw [f6.wr (w := w5.drew) (bk_lt (w := w5.drew) hb5) hob]; exact hw5
    have hfc := hs6.1.isCell
    simp [hb5, hb6, hw6, hb16, RS.cells, cells_isCell hfc, hfc]
    have hb7 : bk (sto w6 b 11 [fv]) b = some (({ r with read := r.read ++ [(m.key, m.value)], of := r.of ++ [(r.part : Int)] } : RS).cells { v with read := rv, of := fv }) := by simp [hb6, RS.cells]
    have hw7 : wr (sto w6 b 11 [fv]) b = true := by simp [hw6]
    have g7 : Fr (fun c => c = b) w6 (sto w6 b 11 [fv]) := (Fr.refl (fun c => c = b) w6).sto (.inl rfl) _ _
    have hsz7 : (sto w6 b 11 [fv]).heap.size = w6.heap.size := size_sto _ _ _ _
    generalize sto w6 b 11 [fv] = w7 at *
    have s6 := f6.size
    have hff : ∀ c, foot c → c < w.heap.size := hfs
    have hrv2 : ∀ c, inB rv c → ¬ inB v.of c := fun c hc ho => by
      rcases hrv c hc with h' | h'
      · exact hro c h' ho
      · have := hff c (hL3.off c ho).1; omega
    have hrvb : ∀ c, inB rv c → c ≠ b := fun c hc he => by
      rcases hrv c hc with h' | h'
      · exact (hL3.readf c h').2.2 he
      · omega
    have hfv : ∀ c, inB fv c → inB v.of c ∨ (w5.heap.size ≤ c ∧ c < w6.heap.size) := fun c hc => by
      rcases hin6 c hc with h' | h'
      · exact .inl h'
      · exact .inr (by omega)
    have hfvb : ∀ c, inB fv c → c ≠ b := fun c hc he => by
      rcases hfv c hc with h' | h'
      · exact (hL3.off c h').2.2.1 he
      · omega
    have fF : Fr (fun c => c = b ∨ inB v.read c ∨ inB v.of c) w w7 := by
      refine (((((f03.drew.mono fun _ h => h.elim).trans (f4.mono fun c hc => (Or.inr (Or.inl hc) : c = b ∨ inB v.read c ∨ inB v.of c)) fun _ _ h => h).trans (g5'.mono fun c hc => (Or.inl hc : c = b ∨ inB v.read c ∨ inB v.of c)) fun _ _ h => h).drew).trans (f6.mono fun c hc => (Or.inr (Or.inr hc) : c = b ∨ inB v.read c ∨ inB v.of c)) fun _ _ h => h).trans (g7.mono fun c hc => (Or.inl hc : c = b ∨ inB v.read c ∨ inB v.of c)) fun _ _ h => h
    have hFfoot : ∀ c, (c = b ∨ inB v.read c ∨ inB v.of c) → foot c := by
      rintro c (hc | hc | hc)
      · exact hc ▸ h.fb
      · exact (hL3.readf c hc).1
      · exact (hL3.off c hc).1
    have hL0 := h.on hon
    have hL7 : RL w7 b ({ r with read := r.read ++ [(m.key, m.value)], of := r.of ++ [(r.part : Int)] } : RS) { v with read := rv, of := fv } ro (ext foot w w7) := by
      refine ⟨?_, fun c hc => ?_, ?_, fun c hc => ?_, hL0.lost.fr fF ?_, fun c hc => ?_⟩
      · have h7 := ((((hs4.fr g5' hrvb).fr (Fr.refl (fun _ => False) w5).drew fun _ _ => id).fr f6 hrv2).fr g7 hrvb)
        show SlW 2 w7 rv (elP (r.read ++ [(m.key, m.value)]))
        rw [show elP (r.read ++ [(m.key, m.value)]) = elP r.read ++ [[m.key, m.value]] by simp [elP]]
        exact h7
      · refine ⟨?_, fun hr => ?_, hrvb c hc⟩
        · rcases hrv c hc with h' | h'
          · exact .inl (hL0.readf c h').1
          · exact .inr (by omega)
        · rcases hrv c hc with h' | h'
          · exact (hL0.readf c h').2.1 hr
          · have := (h.fro c hr).2.2; omega
      · have h7 := hs6.fr g7 hfvb
        show SlW 1 w7 fv (elI (r.of ++ [(r.part : Int)]))
        rw [← elI_app]
        exact h7
      · refine ⟨?_, fun hr => ?_, hfvb c hc, fun hr => ?_⟩
        · rcases hfv c hc with h' | h'
          · exact .inl (hL0.off c h').1
          · exact .inr (by omega)
        · rcases hfv c hc with h' | h'
          · exact (hL0.off c h').2.1 hr
          · have := (h.fro c hr).2.2; omega
        · rcases hfv c hc with h' | h'
          · exact hrv2 c hr h'
          · rcases hrv c hr with h'' | h''
            · have := hff c (hL0.readf c h'').1; omega
            · omega
      · rintro c hc (hf | hf | hf)
        · exact (hL0.lostf c hc).2.2.1 hf
        · exact (hL0.lostf c hc).2.2.2.1 hf
        · exact (hL0.lostf c hc).2.2.2.2 hf
      · obtain ⟨a1, a2, a3, a4, a5⟩ := hL0.lostf c hc
        refine ⟨.inl a1, a2, a3, fun hr => ?_, fun hr => ?_⟩
        · rcases hrv c hr with h' | h'
          · exact a4 h'
          · have := hff c a1; omega
        · rcases hfv c hr with h' | h'
          · exact a5 h'
          · have := hff c a1; omega
    have h7 : RM w7 b ({ r with read := r.read ++ [(m.key, m.value)], of := r.of ++ [(r.part : Int)] } : RS) { v with read := rv, of := fv } ro (ext foot w w7) := h.set fF (by
      rintro c (hc | hc | hc) hr
      · exact (h.fro c hr).2.1 hc
      · exact (hL0.readf c hc).2.1 hr
      · exact (hL0.off c hc).2.1 hr) hb7 hw7 rfl rfl rfl rfl rfl rfl (fun c hc => .inl hc) fun _ => hL7
    refine (question_run h7 hon er eto (by simp; omega)).mono ?_
    rintro y w8 ⟨h8, f8, hs8, hn8⟩
    have s8 := f8.size
    have s7 := fF.size
    refine ⟨⟨(fF.mono hFfoot).trans (f8.mono fun c hc => (hc ▸ h.fb : foot c)) fun _ _ h => h, _, ro, h8.wider ?_⟩, hs8, fun c hc => by have := hn8 c hc; omega⟩
    rintro c (hc | hc)
    · exact .inl hc
    · exact .inr ⟨hc.1, by omega⟩
end

end Go.Proofs.YtiggkhmopnhfaaaDoor
