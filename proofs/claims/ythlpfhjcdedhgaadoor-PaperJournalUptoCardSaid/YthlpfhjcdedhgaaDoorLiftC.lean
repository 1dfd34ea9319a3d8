/-
  THE LIFT, part C: what makes or writes memory, and comparisons.
-/
import Derived.Test.YthlpfhjcdedhgaaDoorLiftB
import Derived.Laws.BytesArg
namespace Go.Lift
set_option linter.unusedSimpArgs false

section
variable {P : Program}

theorem run_allocM {t : TypeId} {i : TypeInfo} {z : Value} (hi : P.info? t = some i) (hz : i.zero = some z) {u : Value} (w : World) :
    (Instr.alloc t true u).run P w = .ok (.pointer (some ⟨w.heap.size, 0, none⟩)) (w.alloc (.cells z.cells t)) := by
  simp [Instr.alloc, zeroValue, typeInfo, hi, hz, newVar, newRow]

theorem run_boxM {t : TypeId} {v : Value} (w : World) :
    (Instr.box t v).run P w = .ok (.pointer (some ⟨w.heap.size, 0, none⟩)) (w.alloc (.cells v.cells t)) := by
  simp [Instr.box, newVar, newRow]

theorem fill_eq {place : Nat → Option (Nat × Nat)} : ∀ (l : List (Nat × Value)) (l' : List (Nat × Nat × Value)) (cells : Array Value),
    l.mapM (fun p => (place p.1).map fun q => (q.1, q.2, p.2)) = some l' → Instr.fill place cells l = fillV cells l'
  | [], l', cells, h => by simp at h; subst h; rfl
  | (i, v) :: rest, l', cells, h => by
    simp only [List.mapM_cons, Option.bind_eq_bind, Option.pure_def] at h
    cases hp : place i with
    | none => simp [hp] at h
    | some q =>
      cases hr : rest.mapM (fun p => (place p.1).map fun q => (q.1, q.2, p.2)) with
      | none => simp [hp, hr] at h
      | some r =>
        simp [hp, hr] at h
        subst h
        obtain ⟨off, size⟩ := q
        simp only [Instr.fill, fillV, hp]
        split
        · rfl
        · exact fill_eq rest r _ hr

/-- The places of a struct's or an array's parts. -/
def placeOf (P : Program) (t : TypeId) : Option (Array Value × (Nat → Option (Nat × Nat))) := match P.info? t, P.underlying t with
  | some it, some (.array _ e) => match it.zero, P.info? e with
    | some z, some ie => some (z.cells, fun i => some (i * ie.size, ie.size))
    | _, _ => none
  | some it, some (.struct fields) => match it.zero, fields.toList.mapM (fun f => (P.info? f.type).map fun i => (f.offset, i.size)) with
    | some z, some places => some (z.cells, fun i => places.toArray[i]?)
    | _, _ => none
  | _, _ => none

theorem run_buildV {t : TypeId} {z : Array Value} {place : Nat → Option (Nat × Nat)} (h : placeOf P t = some (z, place)) {parts : Array (Nat × Value)} {l : List (Nat × Nat × Value)}
    (hl : parts.toList.mapM (fun p => (place p.1).map fun q => (q.1, q.2, p.2)) = some l) {v : Value} (hv : buildV z l = some v) (w : World) : (Instr.build t parts).run P w = .ok v w := by
  simp only [buildV] at hv
  split at hv
  · cases hv
    rename_i cs hc
    refine run_build w t parts cs ?_
    rw [← fill_eq _ _ _ hl] at hc
    unfold placeOf at h
    unfold Program.built
    split at h
    · rename_i it n e h1 h2
      rw [h1, h2]
      dsimp only
      split at h
      · rename_i h3 h4
        rw [h3, h4]
        cases h
        exact hc
      · cases h
    · rename_i it fs h1 h2
      rw [h1, h2]
      dsimp only
      split at h
      · rename_i h3 h4
        rw [h3, h4]
        cases h
        exact hc
      · cases h
    · cases h
  · cases hv

theorem run_bslM {t e : TypeId} {i : TypeInfo} {z : Value} {len : Nat} (hu : P.underlying t = some (.slice e)) (hi : P.info? e = some i) (hz : i.zero = some z) (hs : z.cells.size = i.size) (hlen : len * i.size ≤ 2 ^ 24)
    {parts : Array (Nat × Value)} {l : List (Nat × Nat × Value)} (hl : parts.toList.mapM (fun p => (some (p.1 * i.size, i.size) : Option (Nat × Nat)).map fun q => (q.1, q.2, p.2)) = some l)
    {v : Value} {w w' : World} (hv : bslM e len (Builtin.zeroCells z.cells len) l w = some (v, w')) : (Instr.buildSlice t len parts).run P w = .ok v w' := by
  simp only [bslM] at hv
  split at hv
  · simp only [Option.some.injEq, Prod.mk.injEq] at hv
    obtain ⟨rfl, rfl⟩ := hv
    rename_i cs hc
    rw [← fill_eq (place := fun j => some (j * i.size, i.size)) _ _ _ hl] at hc
    have hz0 : (Builtin.zeroCells z.cells len) = (Array.range (len * i.size)).map ((if len * i.size = 0 then (#[] : Array Value) else z.cells)[· % (if len * i.size = 0 then (#[] : Array Value) else z.cells).size]!) := by
      unfold Builtin.zeroCells
      rw [hs]
      by_cases h0 : len * i.size = 0
      · simp [h0]
      · simp only [h0, if_false, hs]
    rw [hz0] at hc
    have hlen' : ¬ (len * i.size > 2 ^ 24) := by omega
    by_cases h0 : len * i.size = 0
    · simp only [h0, if_true, show Array.range 0 = #[] from rfl, Array.map_empty] at hc
      simp [Instr.buildSlice, run_underlying hu, sizeOf, typeInfo, hi, h0, show Array.range 0 = #[] from rfl, hc, newRow]
    · simp only [h0, if_false] at hc
      simp [Instr.buildSlice, run_underlying hu, sizeOf, typeInfo, zeroValue, hi, hz, h0, hc, newRow, hlen']
  · cases hv

theorem run_lenN {x : Value} {n : Nat} (h : lenN x = some n) (w : World) : (Builtin.lenOf x).run P w = .ok n w := by
  cases x <;> simp [lenN] at h <;> simp [Builtin.lenOf, h]

theorem run_firstN {size n : Nat} {x : Value} {w : World} {l : List Value} (h : firstN w size n x = some l) : (Builtin.firstCells size n x).run P w = .ok l.toArray w := by
  unfold firstN at h
  split at h
  · simp [Builtin.firstCells, run_loadCells_ldN h]
  · cases h; simp [Builtin.firstCells]
  · cases h; simp only [Builtin.firstCells, Sem.run_pure, Array.toArray_toList]
  · cases h

theorem ldN_drew (a : Addr) (w : World) (n : Nat) : ldN w.drew a n = ldN w a n := rfl
theorem firstN_drew (w : World) (size n : Nat) (x : Value) : firstN w.drew size n x = firstN w size n x := by
  unfold firstN
  split <;> first | rfl | simp only [ldN_drew]

theorem run_appM {t u ty e : TypeId} {i : TypeInfo} {z : Value} {du : TypeDesc} (hu : P.underlying t = some (.slice e)) (hx : P.underlying u = some du) (hnot : ∀ k, du ≠ .int k)
    (hi : P.info? e = some i) (hz : i.zero = some z) {s x v : Value} {w w' : World} (h : appM e i.size i.bytes z.cells s x w = some (v, w')) :
    (Builtin.append_ #[t, u] ty #[s, x]).run P w = .ok v w' := by
  simp only [appM] at h
  split at h
  case h_2 => cases h
  rename_i base sLen sCap n hn
  have hzeros : (du matches .int _) = false := by
    cases du <;> first | rfl | exact absurd rfl (hnot _)
  have hN := run_lenN (P := P) hn w
  split at h
  · rename_i hle
    split at h
    case h_2 => cases h
    rename_i new hnew
    have hF := run_firstN (P := P) hnew
    cases base with
    | none =>
      simp only [Option.some.injEq, Prod.mk.injEq] at h
      obtain ⟨rfl, rfl⟩ := h
      simp [Builtin.append_, run_underlying hu, run_underlying hx, hzeros, sizeOf, typeInfo, hi, hN, hle, hF]
    | some a =>
      simp only [] at h
      split at h
      case h_2 => cases h
      rename_i w1 hst
      simp only [Option.some.injEq, Prod.mk.injEq] at h
      obtain ⟨rfl, rfl⟩ := h
      simp [Builtin.append_, run_underlying hu, run_underlying hx, hzeros, sizeOf, typeInfo, hi, hN, hle, hF, run_stN hst]
  · rename_i hle
    split at h
    · cases h
    rename_i hb
    split at h
    case h_2 => cases h
    rename_i old new hold hnew
    have hF := run_firstN (P := P) hnew
    have hF' := run_firstN (P := P) hold
    simp only [Option.some.injEq, Prod.mk.injEq] at h
    obtain ⟨rfl, rfl⟩ := h
    simp only [not_or] at hb
    obtain ⟨hb0, hb1⟩ := hb
    have hF2 := run_firstN (P := P) (w := w.drew) (size := i.size) (n := n) (x := x) (l := new) (by rw [firstN_drew]; exact hnew)
    have hF3 := run_firstN (P := P) (w := w.drew) (size := i.size) (n := sLen) (x := .slice base sLen sCap) (l := old) (by rw [firstN_drew]; exact hold)
    have hb1' : ¬ (Builtin.nextslicecap (sLen + n) sCap * i.bytes > 281474976710656) := hb1
    simp [Builtin.append_, run_underlying hu, run_underlying hx, hzeros, sizeOf, typeInfo, hi, hN, hle, hb0, Question.forced, zeroValue, hz, newRow, hb1', hF2, hF3]
    simp only [← Array.append_assoc, List.append_toArray]

theorem run_cpyM {t u ty e : TypeId} {i : TypeInfo} (hu : P.underlying t = some (.slice e)) (hi : P.info? e = some i) {d s v : Value} {w w' : World} (h : cpyM i.size d s w = some (v, w')) :
    (Builtin.copy_ #[t, u] ty #[d, s]).run P w = .ok v w' := by
  simp only [cpyM] at h
  split at h
  case h_2 => cases h
  rename_i base dLen c sLen hn
  have hN := run_lenN (P := P) hn w
  split at h
  case h_2 => cases h
  rename_i cs hcs
  have hF := run_firstN (P := P) hcs
  cases base with
  | none =>
    simp only [Option.some.injEq, Prod.mk.injEq] at h
    obtain ⟨rfl, rfl⟩ := h
    simp [Builtin.copy_, run_underlying hu, sizeOf, typeInfo, hi, hN, hF, goInt]
  | some a =>
    simp only [] at h
    split at h
    case h_2 => cases h
    rename_i w1 hst
    simp only [Option.some.injEq, Prod.mk.injEq] at h
    obtain ⟨rfl, rfl⟩ := h
    simp [Builtin.copy_, run_underlying hu, sizeOf, typeInfo, hi, hN, hF, run_stN hst, goInt]

theorem run_mksM {t e : TypeId} {i : TypeInfo} {z : Value} (hu : P.underlying t = some (.slice e)) (hi : P.info? e = some i) (hz : i.zero = some z) {l c v : Value} {w w' : World}
    (h : mksM e i.size i.bytes z.cells l c w = some (v, w')) : (Instr.makeSlice t l c).run P w = .ok v w' := by
  simp only [mksM] at h
  split at h
  case h_2 => cases h
  rename_i ki l kj c
  split at h
  · cases h
  rename_i hb
  simp only [not_or, gt_iff_lt, Int.not_lt] at hb
  obtain ⟨hl, hlc, hbc, hs⟩ := hb
  simp only [Option.some.injEq, Prod.mk.injEq] at h
  obtain ⟨rfl, rfl⟩ := h
  have hs' : z.cells.size = i.size := by
    by_cases hh : z.cells.size = i.size
    · exact hh
    · exact absurd hh hs
  have h1 : ¬ (IntKind.i64.wrap c < 0) := by omega
  have hbc' : ¬ ((2 : Int) ^ 48 < i.bytes * IntKind.i64.wrap c) := by omega
  have hbc2 : ¬ ((281474976710656 : Int) < i.bytes * IntKind.i64.wrap c) := by omega
  have hl2 : ¬ (IntKind.i64.wrap l < 0) := by omega
  have hlc2 : ¬ (IntKind.i64.wrap c < IntKind.i64.wrap l) := by omega
  have hz0 : (Builtin.zeroCells z.cells (IntKind.i64.wrap c).toNat) = (Array.range ((IntKind.i64.wrap c).toNat * i.size)).map ((if (IntKind.i64.wrap c).toNat * i.size = 0 then (#[] : Array Value) else z.cells)[· % (if (IntKind.i64.wrap c).toNat * i.size = 0 then (#[] : Array Value) else z.cells).size]!) := by
    unfold Builtin.zeroCells
    rw [hs']
    by_cases h0 : (IntKind.i64.wrap c).toNat * i.size = 0
    · simp [h0]
    · simp only [h0, if_false, hs']
  rw [hz0]
  by_cases h0 : (IntKind.i64.wrap c).toNat * i.size = 0
  · simp only [Instr.makeSlice, Sem.run_bind, run_underlying hu, Result.andThen_ok, asInt, asIntOf, Sem.run_pure, typeInfo, run_program, hi, h1, hbc', hl2, hlc2, gt_iff_lt, decide_false, Bool.or_self, Bool.false_eq_true, if_false, run_askRoom, sizeOf, h0, if_true, newRow, run_newObj]
    rfl
  · simp only [Instr.makeSlice, Sem.run_bind, run_underlying hu, Result.andThen_ok, asInt, asIntOf, Sem.run_pure, typeInfo, run_program, hi, h1, hbc', hl2, hlc2, gt_iff_lt, decide_false, Bool.or_self, Bool.false_eq_true, if_false, run_askRoom, sizeOf, h0, newRow, run_newObj, zeroValue, hz]
    rfl

theorem push_modify {α : Type} (xs : Array α) (a : α) (f : α → α) : (xs.push a).modify xs.size f = xs.push (f a) := by
  apply Array.ext
  · simp
  · intro i h1 h2
    simp only [Array.getElem_modify, Array.getElem_push]
    by_cases hi : xs.size = i
    · subst hi; simp
    · have : i < xs.size := by simp at h1; omega
      simp [hi, this]
theorem bytesV_ints : ∀ {l : List Value} {b : List UInt8}, bytesV l = some b → ∃ ns : List Int, l = ns.map (Value.int .u8) ∧ b = ns.map fun n => UInt8.ofNat n.toNat
  | [], b, h => by simp [bytesV] at h; subst h; exact ⟨[], rfl, rfl⟩
  | v :: l, b, h => by
    unfold bytesV at h
    split at h
    · contradiction
    · rename_i n r heq
      cases heq
      split at h
      · rename_i b' hb'
        cases h
        obtain ⟨ns, rfl, rfl⟩ := bytesV_ints hb'
        exact ⟨n :: ns, rfl, rfl⟩
      · cases h
    · cases h
theorem run_bsR {src dst e : TypeId} (hs : P.underlying src = some (.slice e)) (he : P.underlying e = some (.int .u8)) (hd : P.underlying dst = some .string) {x v : Value} {w : World} (h : bsR x w = some v) :
    (convert src dst x).run P w = .ok v w := by
  unfold bsR at h
  split at h
  · cases h
    rw [run_convert_bytes_string w src dst e _ _ _ hs he hd]
    simp [Conv.bytesToString]
  · rename_i a len c
    split at h
    case h_2 => cases h
    rename_i l hl
    split at h
    case h_2 => cases h
    rename_i b hb
    cases h
    obtain ⟨ns, rfl, rfl⟩ := bytesV_ints hb
    rw [run_convert_bytes_string w src dst e _ _ _ hs he hd, run_bytesToString w _ _ _ ns (run_loadCells_ldN hl), foldl_push_bytes]
    simp [ByteArray.empty, ByteArray.emptyWithCapacity]
    rfl
  · cases h
theorem run_sbM {src dst e : TypeId} (hs : P.underlying src = some .string) (hd : P.underlying dst = some (.slice e)) (he : P.underlying e = some (.int .u8)) {x v : Value} {w w' : World} (h : sbM e x w = some (v, w')) :
    (convert src dst x).run P w = .ok v w' := by
  unfold sbM at h
  split at h
  · rename_i s
    cases h
    have hcap : s.size ≤ (Question.appendCap s.size 0 e).cut (w.tape w.drawn (.appendCap s.size 0 e)) := by simp only [Question.cut]; omega
    generalize hc : (Question.appendCap s.size 0 e).cut (w.tape w.drawn (.appendCap s.size 0 e)) = c at *
    have hsz : (((s.data.map fun b : UInt8 => Value.int .u8 b.toNat) ++ Array.replicate (c - s.size) (Value.int .u8 0)) : Array Value).size = c := by
      have : s.data.size = s.size := rfl
      simp only [Array.size_append, Array.size_map, Array.size_replicate]; omega
    have e1 : (convert src dst (.string s)).run P w = (Conv.stringToBytes e s).run P w := by
      simp [convert, run_underlying hs, run_underlying hd, run_underlying he]
    rw [e1]
    simp only [Conv.stringToBytes, Sem.run_bind, run_choose, Question.forced, Bool.false_eq_true, if_false, hc, Result.andThen_ok, newRow, run_newObj, Sem.run_pure, markStringish, run_shape, run_freeze]
    generalize hcs : ((s.data.map fun b : UInt8 => Value.int .u8 b.toNat) ++ Array.replicate (c - s.size) (Value.int .u8 0)) = cs at *
    simp only [World.shape?, Array.getElem?_push_size, hsz, Result.andThen_ok, run_freeze]
    simp only [World.freeze, Nat.one_ne_zero, if_false, push_modify, beq_self_eq_true, if_true]
    rfl
  · cases h

/-- The kind at which values of a type of one cell are compared. -/
def eqKind (P : Program) (t : TypeId) : Option EqK := match P.underlying t with
  | some .bool => some .bool
  | some (.int _) => some .int
  | some .string => some .str
  | some (.slice _) => some .sl
  | some (.map _ _) => some .mp
  | some (.func _ _ _) => some .fn
  | some (.interface _) => some .ifc
  | some (.pointer e) => match P.info? e with
    | some i => if i.size = 0 then none else some .ptr
    | none => none
  | _ => none

section
variable {t : TypeId} (n : Nat) (w : World)
theorem eqIn_bool (hu : P.underlying t = some .bool) (a b : Bool) : (Op.equalIn (n + 1) t (.bool a) (.bool b)).run P w = .ok (a == b) w := by
  simp only [Op.equalIn, Sem.run_bind, run_underlying hu, Result.andThen_ok, Sem.run_pure]
theorem eqIn_int {k : IntKind} (hu : P.underlying t = some (.int k)) (j : IntKind) (a b : Int) : (Op.equalIn (n + 1) t (.int j a) (.int j b)).run P w = .ok (a == b) w := by
  simp only [Op.equalIn, Sem.run_bind, run_underlying hu, Result.andThen_ok, if_true, Sem.run_pure]
theorem eqIn_str (hu : P.underlying t = some .string) (a b : ByteArray) : (Op.equalIn (n + 1) t (.string a) (.string b)).run P w = .ok (a.toList == b.toList) w := by
  simp only [Op.equalIn, Sem.run_bind, run_underlying hu, Result.andThen_ok, Sem.run_pure, beq_toListBytes]
theorem eqIn_ptr0 {e : TypeId} (hu : P.underlying t = some (.pointer e)) (b : Option Addr) : (Op.equalIn (n + 1) t (.pointer none) (.pointer b)).run P w = .ok b.isNone w := by
  simp only [Op.equalIn, Sem.run_bind, run_underlying hu, Result.andThen_ok, Sem.run_pure]
theorem eqIn_ptr1 {e : TypeId} (hu : P.underlying t = some (.pointer e)) (a : Addr) : (Op.equalIn (n + 1) t (.pointer (some a)) (.pointer none)).run P w = .ok false w := by
  simp only [Op.equalIn, Sem.run_bind, run_underlying hu, Result.andThen_ok, Sem.run_pure]
theorem eqIn_ptr2 {e : TypeId} {i : TypeInfo} (hu : P.underlying t = some (.pointer e)) (hi : P.info? e = some i) (hs : i.size ≠ 0) (a b : Addr) (hb : a.block = b.block) :
    (Op.equalIn (n + 1) t (.pointer (some a)) (.pointer (some b))).run P w = .ok (a == b) w := by
  simp only [Op.equalIn, Sem.run_bind, run_underlying hu, Result.andThen_ok, sizeOf, typeInfo, run_program, hi, Sem.run_pure, hs, ne_eq, not_false_eq_true, if_true, sameAddr, hb, beq_self_eq_true]
theorem eqIn_sl0 {e : TypeId} (hu : P.underlying t = some (.slice e)) (b : Option Addr) (l c l' c' : Nat) : (Op.equalIn (n + 1) t (.slice none l c) (.slice b l' c')).run P w = .ok b.isNone w := by
  simp only [Op.equalIn, Sem.run_bind, run_underlying hu, Result.andThen_ok, Sem.run_pure]
theorem eqIn_sl1 {e : TypeId} (hu : P.underlying t = some (.slice e)) (a : Addr) (l c l' c' : Nat) : (Op.equalIn (n + 1) t (.slice (some a) l c) (.slice none l' c')).run P w = .ok false w := by
  simp only [Op.equalIn, Sem.run_bind, run_underlying hu, Result.andThen_ok, Sem.run_pure]
theorem eqIn_mp0 {k e : TypeId} (hu : P.underlying t = some (.map k e)) (b : Option Nat) : (Op.equalIn (n + 1) t (.map none) (.map b)).run P w = .ok b.isNone w := by
  simp only [Op.equalIn, Sem.run_bind, run_underlying hu, Result.andThen_ok, Sem.run_pure]
theorem eqIn_mp1 {k e : TypeId} (hu : P.underlying t = some (.map k e)) (a : Nat) : (Op.equalIn (n + 1) t (.map (some a)) (.map none)).run P w = .ok false w := by
  simp only [Op.equalIn, Sem.run_bind, run_underlying hu, Result.andThen_ok, Sem.run_pure]
theorem eqIn_fn0 {x y : Array TypeId} {v : Bool} (hu : P.underlying t = some (.func x y v)) : (Op.equalIn (n + 1) t .nilFunc .nilFunc).run P w = .ok true w := by
  simp only [Op.equalIn, Sem.run_bind, run_underlying hu, Result.andThen_ok, Sem.run_pure]
theorem eqIn_fn1 {x y : Array TypeId} {v : Bool} (hu : P.underlying t = some (.func x y v)) (f : Fn) (a c : Array Value) : (Op.equalIn (n + 1) t .nilFunc (.func f a c)).run P w = .ok false w := by
  simp only [Op.equalIn, Sem.run_bind, run_underlying hu, Result.andThen_ok, Sem.run_pure]
theorem eqIn_fn2 {x y : Array TypeId} {v : Bool} (hu : P.underlying t = some (.func x y v)) (f : Fn) (a c : Array Value) : (Op.equalIn (n + 1) t (.func f a c) .nilFunc).run P w = .ok false w := by
  simp only [Op.equalIn, Sem.run_bind, run_underlying hu, Result.andThen_ok, Sem.run_pure]
theorem eqIn_ifn {m : Array (String × TypeId)} (hu : P.underlying t = some (.interface m)) : (Op.equalIn (n + 1) t .nilIface .nilIface).run P w = .ok true w := by
  simp only [Op.equalIn, Sem.run_bind, run_underlying hu, Result.andThen_ok, Sem.run_pure]
theorem eqIn_if0 {m : Array (String × TypeId)} (hu : P.underlying t = some (.interface m)) (d : TypeId) (x : Value) : (Op.equalIn (n + 1) t .nilIface (.iface d x)).run P w = .ok false w := by
  simp only [Op.equalIn, Sem.run_bind, run_underlying hu, Result.andThen_ok, Sem.run_pure]
theorem eqIn_if1 {m : Array (String × TypeId)} (hu : P.underlying t = some (.interface m)) (d : TypeId) (x : Value) : (Op.equalIn (n + 1) t (.iface d x) .nilIface).run P w = .ok false w := by
  simp only [Op.equalIn, Sem.run_bind, run_underlying hu, Result.andThen_ok, Sem.run_pure]
end

end
end Go.Lift
