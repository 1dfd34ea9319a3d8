/-
  THE LIFT, part B: each word of part A is what the model's own operation comes to.
-/
import Derived.Test.YthlpfhjcdedhgaaDoorLiftA
import Derived.Laws.Tables
import Derived.Laws.MakeOwn
import Derived.Laws.Append
import Derived.Laws.Slices
namespace Go.Lift
set_option linter.unusedSimpArgs false

section
variable {P : Program}

theorem bk_cells {w : World} {b : Nat} {l : List Value} (h : bk w b = some l) : ∃ c e m, w.heap[b]? = some (.cells c e m) ∧ c.toList = l := by
  unfold bk at h
  split at h
  · rename_i c e m hb
    exact ⟨c, e, m, hb, by simpa using h⟩
  · cases h
theorem cell_bk {w : World} {b o : Nat} {l : List Value} (h : bk w b = some l) : w.cell? ⟨b, o, none⟩ = l[o]? := by
  obtain ⟨c, e, m, hb, rfl⟩ := bk_cells h
  simp [World.cell?, hb]
theorem frozen_bk {w : World} {b o : Nat} {l : List Value} (h : bk w b = some l) (hw : wr w b = true) (ho : o < l.length) : w.frozen? ⟨b, o, none⟩ = false := by
  obtain ⟨c, e, m, hb, rfl⟩ := bk_cells h
  obtain ⟨lo, hi⟩ := m
  have hm : hi ≤ lo ∨ c.size ≤ lo := by simpa [wr, hb] using hw
  have ho' : o < c.size := by simpa using ho
  simp only [World.frozen?, hb]
  cases h1 : decide (lo ≤ o) with
  | false => rfl
  | true =>
    have := of_decide_eq_true h1
    simp only [Bool.true_and, decide_eq_false_iff_not]
    omega
theorem cell_ldC {w : World} {a : Addr} {v : Value} (h : ldC w a = some v) : w.cell? a = some v := by
  obtain ⟨b, o, s⟩ := a
  unfold ldC at h
  cases s with
  | some s => simp at h
  | none =>
    simp only [] at h
    cases hb : bk w b with
    | none => simp [hb] at h
    | some l => simp only [hb] at h; rw [cell_bk hb]; exact h

theorem run_loadFrom {w : World} {b o : Nat} {l : List Value} (hb : bk w b = some l) : ∀ (n i : Nat) (acc : Array Value), o + i + n ≤ l.length →
    (loadCellsFrom ⟨b, o, none⟩ i n acc).run P w = .ok (acc ++ ((l.drop (o + i)).take n).toArray) w
  | 0, i, acc, _ => by simp [loadCellsFrom]
  | n + 1, i, acc, h => by
    have hadd : (⟨b, o, none⟩ : Addr).add i = ⟨b, o + i, none⟩ := by unfold Addr.add; split <;> simp_all
    have hlt : o + i < l.length := by omega
    have hc : w.cell? ((⟨b, o, none⟩ : Addr).add i) = some l[o + i] := by rw [hadd, cell_bk hb]; simp [hlt]
    simp only [loadCellsFrom, Sem.run_bind, run_load, hc, Result.andThen_ok]
    rw [run_loadFrom hb n (i + 1) _ (by omega)]
    congr 1
    rw [List.drop_eq_getElem_cons hlt, List.take_succ_cons]
    simp [Nat.add_assoc]

theorem run_loadCells_ldN {a : Addr} {n : Nat} {w : World} {l : List Value} (h : ldN w a n = some l) : (loadCells a n).run P w = .ok l.toArray w := by
  unfold ldN at h
  by_cases hn : n = 0
  · subst hn; simp at h; subst h; simp [loadCells, loadCellsFrom]
  · rw [if_neg hn] at h
    obtain ⟨b, o, s⟩ := a
    cases s with
    | some s => simp at h
    | none =>
      simp only [] at h
      cases hb : bk w b with
      | none => simp [hb] at h
      | some m =>
        simp only [hb] at h
        split at h
        · rename_i hle
          cases h
          have := run_loadFrom (P := P) hb n 0 #[] (by omega)
          simpa [loadCells] using this
        · cases h

theorem isCell_eq (v : Value) : isCell v = v.oneCell' := by cases v <;> rfl

theorem setCell_sto {w : World} {b o : Nat} {l : List Value} (h : bk w b = some l) (v : Value) : w.setCell ⟨b, o, none⟩ v = sto w b o [v] := by
  obtain ⟨c, e, m, hb, rfl⟩ := bk_cells h
  unfold World.setCell sto
  congr 1
  apply Array.ext_getElem?
  intro i
  simp only [Array.getElem?_modify]
  by_cases hbi : b = i
  · subst hbi
    simp only [if_true, hb, Option.map_some, setL]
    simp only [Option.isSome_none, Bool.false_eq_true, if_false]
    congr 2
    apply Array.ext'
    simp
  · simp [hbi]
theorem length_setL : ∀ (vs : List Value) (l : List Value) (o : Nat), (setL l o vs).length = l.length
  | [], _, _ => rfl
  | v :: r, l, o => by simp [setL, length_setL r]
theorem bk_sto_same {w : World} {b o : Nat} {l : List Value} (h : bk w b = some l) (vs : List Value) : bk (sto w b o vs) b = some (setL l o vs) := by
  obtain ⟨c, e, m, hb, rfl⟩ := bk_cells h
  have hb' : (sto w b o vs).heap[b]? = some (.cells (setL c.toList o vs).toArray e m) := by
    simp [sto, Array.getElem?_modify, hb]
  unfold bk
  rw [hb']
@[simp] theorem wr_sto (w : World) (b o : Nat) (vs : List Value) (b' : Nat) : wr (sto w b o vs) b' = wr w b' := by
  unfold wr sto
  simp only [Array.getElem?_modify]
  by_cases h : b = b'
  · subst h
    rw [if_pos rfl]
    cases hh : w.heap[b]? with
    | none => rfl
    | some x =>
      cases x <;> simp [length_setL]
  · rw [if_neg h]
theorem sto_sto (w : World) (b o : Nat) (v : Value) (vs : List Value) : sto (sto w b o [v]) b (o + 1) vs = sto w b o (v :: vs) := by
  unfold sto
  congr 1
  apply Array.ext_getElem?
  intro i
  simp only [Array.getElem?_modify]
  by_cases hbi : b = i
  · subst hbi
    cases hh : w.heap[b]? with
    | none => simp
    | some x => cases x <;> simp [setL]
  · simp [hbi]
theorem sto_nil (w : World) (b o : Nat) : sto w b o [] = w := by
  have h : (sto w b o []).heap = w.heap := by
    unfold sto
    apply Array.ext_getElem?
    intro i
    simp only [Array.getElem?_modify]
    by_cases hbi : b = i
    · subst hbi
      cases hh : w.heap[b]? with
      | none => simp
      | some x => cases x <;> simp [setL]
    · simp [hbi]
  show ({ w with heap := (sto w b o []).heap } : World) = w
  rw [h]

theorem run_storeFrom {b o : Nat} : ∀ (vs : List Value) (i : Nat) (w : World) (l : List Value), bk w b = some l → wr w b = true → o + i + vs.length ≤ l.length → vs.all isCell = true →
    (storeCells ⟨b, o, none⟩ vs i).run P w = .ok () (sto w b (o + i) vs)
  | [], i, w, l, _, _, _, _ => by simp [storeCells, sto_nil]
  | v :: vs, i, w, l, hb, hw, hl, hc => by
    simp only [List.length_cons] at hl
    simp only [List.all_cons, Bool.and_eq_true] at hc
    have hadd : (⟨b, o, none⟩ : Addr).add i = ⟨b, o + i, none⟩ := by unfold Addr.add; split <;> simp_all
    have hlt : o + i < l.length := by omega
    have hs := run_store P w ⟨b, o + i, none⟩ v .plain (by rw [← isCell_eq]; exact hc.1)
    have hcell : w.cell? ⟨b, o + i, none⟩ = some l[o + i] := by rw [cell_bk hb]; simp [hlt]
    simp only [hcell, frozen_bk hb hw hlt, Bool.false_eq_true, if_false] at hs
    simp only [storeCells, Sem.run_bind, hadd, hs, Result.andThen_ok]
    rw [setCell_sto hb]
    rw [run_storeFrom vs (i + 1) _ (setL l (o + i) [v]) (bk_sto_same hb _) (by simpa using hw) (by rw [length_setL]; omega) hc.2]
    rw [show o + (i + 1) = o + i + 1 by omega, sto_sto]

theorem run_stN {a : Addr} {vs : List Value} {w w' : World} (h : stN a vs w = some w') : (storeCells a vs).run P w = .ok () w' := by
  unfold stN at h
  by_cases hv : vs = []
  · subst hv; simp at h; subst h; simp [storeCells]
  · rw [if_neg hv] at h
    obtain ⟨b, o, s⟩ := a
    cases s with
    | some s => simp at h
    | none =>
      simp only [] at h
      cases hb : bk w b with
      | none => simp [hb] at h
      | some l =>
        simp only [hb] at h
        split at h
        · rename_i hle
          cases h
          have := run_storeFrom (P := P) (o := o) vs 0 w l hb hle.2 (by omega) hle.1.2
          simpa using this
        · cases h

def aggOf (P : Program) (t : TypeId) : Option (Option Nat) := match P.underlying t with
  | some (.struct _) | some (.array _ _) => match P.info? t with
    | some i => some (some i.size)
    | none => none
  | some _ => some none
  | none => none

theorem run_isAgg_some {t : TypeId} {n : Nat} (h : aggOf P t = some (some n)) (w : World) :
    (isAgg t).run P w = .ok true w ∧ (sizeOf t).run P w = .ok n w := by
  unfold aggOf at h
  cases hu : P.underlying t with
  | none => simp [hu] at h
  | some d =>
    cases hi : P.info? t with
    | none => cases d <;> simp [hu, hi] at h
    | some i => cases d <;> simp [hu, hi] at h <;> simp [isAgg, run_underlying hu, sizeOf, typeInfo, hi, h]

theorem run_isAgg_none {t : TypeId} (h : aggOf P t = some none) (w : World) : (isAgg t).run P w = .ok false w := by
  unfold aggOf at h
  cases hu : P.underlying t with
  | none => simp [hu] at h
  | some d => cases d <;> simp [hu] at h <;> (try (cases hi : P.info? t <;> simp [hi] at h; done)) <;> simp [isAgg, run_underlying hu]

def ldT (agg : Option Nat) (p : Value) : World → Option Value := match agg with
  | none => ld1 p
  | some n => ldA n p

theorem run_loadAt {t : TypeId} {g : Option Nat} (h : aggOf P t = some g) {p v : Value} {w : World} (hl : ldT g p w = some v) :
    (Instr.loadAt t p).run P w = .ok v w := by
  cases g with
  | none =>
    simp only [ldT, ld1] at hl
    split at hl
    · simp [Instr.loadAt, Instr.sureAddr, loadVar, run_isAgg_none h, cell_ldC hl]
    · cases hl
  | some n =>
    simp only [ldT, ldA] at hl
    split at hl
    · rename_i a
      cases hn : ldN w a n with
      | none => simp [hn] at hl
      | some l =>
        simp [hn] at hl
        subst hl
        have := run_isAgg_some h
        simp [Instr.loadAt, Instr.sureAddr, loadVar, (this w).1, (this w).2, run_loadCells_ldN hn]
    · cases hl

theorem run_storeAt {t : TypeId} {i : TypeInfo} (h : P.info? t = some i) {p v u : Value} {w w' : World} (hl : stM i.size p v w = some (u, w')) :
    u = undef ∧ (Instr.storeAt t p v).run P w = .ok () w' := by
  simp only [stM] at hl
  split at hl
  · rename_i a
    split at hl
    · rename_i hs
      cases hn : stN a v.cells.toList w with
      | none => simp [hn] at hl
      | some w1 =>
        simp [hn] at hl
        obtain ⟨rfl, rfl⟩ := hl
        refine ⟨rfl, ?_⟩
        simp [Instr.storeAt, Instr.sureAddr, storeVar, sizeOf, typeInfo, h, hs, run_stN hn]
    · cases hl
  · cases hl

theorem run_fieldAt {t : TypeId} {fs : Array Field} {f : Field} {k : Nat} {i : TypeInfo} (hu : P.underlying t = some (.struct fs)) (hf : fs[k]? = some f)
    (hi : P.info? f.type = some i) (hs : i.size ≠ 0) {p v : Value} (hl : fieldA f.offset p = some v) (w : World) : (Instr.fieldAt t p k).run P w = .ok v w := by
  simp only [fieldA] at hl
  split at hl
  · cases hl
    simp [Instr.fieldAt, run_underlying hu, hf, Instr.sureAddr, fieldPlace, sizeOf, typeInfo, hi, hs]
  · cases hl

theorem run_part {t : TypeId} {g : Option Nat} (h : aggOf P t = some g) {cs : Array Value} {off : Nat} {v : Value} (hl : partV g cs off = some v) (w : World) :
    (part t cs off).run P w = .ok v w := by
  cases g with
  | none =>
    simp only [partV] at hl
    simp [part, run_isAgg_none h, hl]
  | some n =>
    simp only [partV, Option.some.injEq] at hl
    subst hl
    have := run_isAgg_some h
    simp [part, (this w).1, (this w).2]

theorem run_fieldV {t : TypeId} {fs : Array Field} {f : Field} {k : Nat} {g : Option Nat} (hu : P.underlying t = some (.struct fs)) (hf : fs[k]? = some f)
    (hg : aggOf P f.type = some g) {x v : Value} (hl : fieldV g f.offset x = some v) (w : World) : (Instr.field t x k).run P w = .ok v w := by
  simp only [fieldV] at hl
  split at hl
  · simp [Instr.field, run_underlying hu, hf, asAgg, run_part hg hl]
  · cases hl

theorem run_idxA {t e : TypeId} {i : TypeInfo} (hu : P.underlying t = some (.slice e)) (hi : P.info? e = some i) {x ix v : Value} (hl : idxA i.size x ix = some v) (w : World) :
    (Instr.indexAt t x ix).run P w = .ok v w := by
  simp only [idxA] at hl
  split at hl
  · split at hl
    · cases hl
      rename_i h
      simp [Instr.indexAt, asIntOf, run_underlying hu, h, sizeOf, typeInfo, hi]
    · cases hl
  · cases hl

theorem run_idxR {t e : TypeId} {n : Nat} {i : TypeInfo} (hu : P.underlying t = some (.array n e)) (hi : P.info? e = some i) {x ix v : Value} (hl : idxR n i.size x ix = some v) (w : World) :
    (Instr.indexAt t x ix).run P w = .ok v w := by
  simp only [idxR] at hl
  split at hl
  · split at hl
    · cases hl
      rename_i h
      simp [Instr.indexAt, asIntOf, run_underlying hu, Instr.sureAddr, h, sizeOf, typeInfo, hi]
    · cases hl
  · cases hl

theorem run_idxS {t : TypeId} (hu : P.underlying t = some .string) {x ix v : Value} (hl : idxS x ix = some v) (w : World) :
    (Instr.index t x ix).run P w = .ok v w := by
  simp only [idxS] at hl
  split at hl
  · split at hl
    · split at hl
      · cases hl
        rename_i h _ _ hb
        simp [Instr.index, asIntOf, run_underlying hu, h, hb]
      · cases hl
    · cases hl
  · cases hl

theorem run_idxG {t e : TypeId} {n : Nat} {i : TypeInfo} {g : Option Nat} (hu : P.underlying t = some (.array n e)) (hi : P.info? e = some i) (hg : aggOf P e = some g) {x ix v : Value} (hl : idxG g n i.size x ix = some v) (w : World) :
    (Instr.index t x ix).run P w = .ok v w := by
  simp only [idxG] at hl
  split at hl
  · split at hl
    · rename_i h
      simp [Instr.index, asIntOf, run_underlying hu, h, sizeOf, typeInfo, hi, run_part hg hl]
    · cases hl
  · cases hl

theorem run_nilChk {ρ : Operand → Value} {o : Oper} {x : Operand} (ho : o.op = .nilCheck x) {v : Value} (hl : nilChk (ρ x) = some v) (w : World) :
    (execOp ρ o).run P w = .ok (.value v) w := by
  simp only [nilChk] at hl
  split at hl <;> first
    | (cases hl; rename_i h; simp [execOp, ho, h])
    | cases hl

theorem run_unary_not {x v : Value} (hl : notV x = some v) (w : World) : (Op.unary .not x).run P w = .ok v w := by
  simp only [notV] at hl
  split at hl <;> cases hl <;> simp [Op.unary]
theorem run_unary_cpl {x v : Value} (hl : cplV x = some v) (w : World) : (Op.unary .xor x).run P w = .ok v w := by
  unfold cplV at hl
  split at hl
  · cases hl; simp [Op.unary, Op.intBits]
  · cases hl
theorem run_unary_neg {x v : Value} (hl : negV x = some v) (w : World) : (Op.unary .neg x).run P w = .ok v w := by
  simp only [negV] at hl
  split at hl <;> cases hl <;> simp [Op.unary, Op.intArith]

theorem run_extV {i : Nat} {x v : Value} (hl : extV i x = some v) (w : World) : (Instr.extract x i).run P w = .ok v w := by
  simp only [extV] at hl
  split at hl
  · simp [Instr.extract, hl]
  · cases hl

theorem run_lenSl {t e ty : TypeId} (hu : P.underlying t = some (.slice e)) {a : Option Addr} {n c : Nat} (w : World) : (Builtin.len_ #[t] ty #[.slice a n c]).run P w = .ok (.int .i64 n) w := by
  simp [Builtin.len_, run_underlying hu, goInt]

theorem run_boundV {x : Value} {y n : Nat} (h : boundV x y = some n) (code : BoundsCode) (w : World) : (Instr.sliceBound x y code).run P w = .ok n w := by
  simp only [boundV] at h
  split at h
  · split at h
    · cases h
      rename_i hi
      simp [Instr.sliceBound, asIntOf, hi]
    · cases h
  · cases h

theorem run_sliceBounds {b : Bool} {len cap h l : Nat} {low high : Option Value} (hh : highV high len cap = some h) (hl : lowV low h = some l) (w : World) :
    (Instr.sliceBounds b len cap low high none).run P w = .ok (l, h, cap) w := by
  cases high with
  | none =>
    simp only [highV, Option.some.injEq] at hh
    subst hh
    cases low with
    | none => simp only [lowV, Option.some.injEq] at hl; subst hl; simp [Instr.sliceBounds]
    | some x => simp only [lowV] at hl; simp [Instr.sliceBounds, run_boundV hl]
  | some y =>
    simp only [highV] at hh
    cases low with
    | none => simp only [lowV, Option.some.injEq] at hl; subst hl; simp [Instr.sliceBounds, run_boundV hh]
    | some x => simp only [lowV] at hl; simp [Instr.sliceBounds, run_boundV hl, run_boundV hh]

theorem run_sliceV {t e : TypeId} {i : TypeInfo} (hu : P.underlying t = some (.slice e)) (hi : P.info? e = some i) {x v : Value} {low high : Option Value} (hl : sliceV i.size x low high = some v) (w : World) :
    (Instr.sliceAt t x low high none).run P w = .ok v w := by
  simp only [sliceV] at hl
  split at hl
  · split at hl
    · split at hl
      · cases hl
        rename_i h1 _ _ h2
        simp [Instr.sliceAt, Instr.slice, run_underlying hu, run_sliceBounds h1 h2, sizeOf, typeInfo, hi]
      · cases hl
    · cases hl
  · cases hl

theorem run_sliceBounds3 {b : Bool} {len cap h l m : Nat} {low : Option Value} {high max : Value} (hm : boundV max cap = some m) (hh : boundV high m = some h) (hl : lowV low h = some l) (w : World) :
    (Instr.sliceBounds b len cap low (some high) (some max)).run P w = .ok (l, h, m) w := by
  cases low with
  | none => simp only [lowV, Option.some.injEq] at hl; subst hl; simp [Instr.sliceBounds, run_boundV hm, run_boundV hh]
  | some y => simp only [lowV] at hl; simp [Instr.sliceBounds, run_boundV hm, run_boundV hh, run_boundV hl]
theorem run_sliceV3 {t e : TypeId} {i : TypeInfo} (hu : P.underlying t = some (.slice e)) (hi : P.info? e = some i) {x v high max : Value} {low : Option Value} (hl : sliceV3 i.size x low high max = some v) (w : World) :
    (Instr.sliceAt t x low (some high) (some max)).run P w = .ok v w := by
  simp only [sliceV3] at hl
  split at hl
  · split at hl
    · split at hl
      · split at hl
        · cases hl
          rename_i h1 _ _ h2 _ _ h3
          simp [Instr.sliceAt, Instr.slice, run_underlying hu, run_sliceBounds3 h1 h2 h3, sizeOf, typeInfo, hi]
        · cases hl
      · cases hl
    · cases hl
  · cases hl

theorem run_sliceS {t : TypeId} (hu : P.underlying t = some .string) {x v : Value} {low high : Option Value} (hl : sliceS x low high = some v) (w : World) :
    (Instr.sliceAt t x low high none).run P w = .ok v w := by
  simp only [sliceS] at hl
  split at hl
  · split at hl
    · split at hl
      · cases hl
        rename_i h1 _ _ h2
        simp [Instr.sliceAt, Instr.slice, run_underlying hu, run_sliceBounds h1 h2]
      · cases hl
    · cases hl
  · cases hl

theorem run_sliceR {t e : TypeId} {n : Nat} {i : TypeInfo} (hu : P.underlying t = some (.array n e)) (hi : P.info? e = some i) {x v : Value} {low high : Option Value} (hl : sliceR n i.size x low high = some v) (w : World) :
    (Instr.sliceAt t x low high none).run P w = .ok v w := by
  simp only [sliceR] at hl
  split at hl
  · split at hl
    · split at hl
      · cases hl
        rename_i h1 _ _ h2
        simp [Instr.sliceAt, Instr.sureAddr, run_underlying hu, run_sliceBounds h1 h2, sizeOf, typeInfo, hi]
      · cases hl
    · cases hl
  · cases hl

theorem run_intBin {op : BinOp} {t : TypeId} {k : IntKind} {a b : Int} {v : Value} (hl : intBin op k a b = some v) (w : World) :
    (binOp op t (.int k a) (.int k b)).run P w = .ok v w := by
  cases op <;> simp only [intBin] at hl <;> first
    | (cases hl; simp [binOp, Op.intArith, Op.intBits, Op.intCmp]; done)
    | (split at hl
       · cases hl
       · cases hl; rename_i h; simp [binOp, Op.intDiv, h])
    | cases hl

theorem run_shV {op : BinOp} (hop : op = .shl ∨ op = .shr) {t : TypeId} {x y v : Value} (hl : shV op x y = some v) (w : World) :
    (binOp op t x y).run P w = .ok v w := by
  simp only [shV] at hl
  split at hl
  · split at hl
    · cases hl
    · rename_i h
      rcases hop with rfl | rfl <;> simp only [Option.some.injEq] at hl <;> subst hl <;> simp [binOp, Op.shift, h]
  · cases hl

theorem run_strBin {op : BinOp} {t : TypeId} {a b : ByteArray} {v : Value} (hl : strBin op a b = some v) (w : World) :
    (binOp op t (.string a) (.string b)).run P w = .ok v w := by
  by_cases hadd : op = .add
  · subst hadd
    simp only [strBin] at hl
    split at hl
    · cases hl
    · rename_i h
      simp only [Option.some.injEq] at hl
      subst hl
      simp only [binOp, Op.stringOp, if_neg h, Sem.run_pure]
  · cases op <;> simp only [strBin, Option.some.injEq] at hl <;> first
      | exact absurd rfl hadd
      | (subst hl; simp [binOp, Op.stringOp]; done)
      | cases hl

end
end Go.Lift
