/-
  THE LIFT, part M: maps: the words, and that each is what the model's own operation comes to.
-/
import Derived.Test.YthlpfhjcdedhgaaDoorLiftD
import Derived.Laws.Entries
import Derived.MapKept
import Derived.Laws.NewFold
import GoSem.Builtin.Delete
import GoSem.Instr.MapUpdate
import GoSem.Instr.MakeMap
import GoSem.Instr.Range
import GoSem.Instr.Next
import GoSem.Instr.Entry
import GoSem.Instr.MapEntry
namespace Go.Lift
set_option linter.unusedVariables false
set_option linter.unusedSimpArgs false

/-- The entries of a map's block, and its clock. -/
def mp (w : World) (b : Nat) : Option (List MapEntry × Nat) := match w.heap[b]? with
  | some (.map es c) => some (es.toList, c)
  | _ => none
/-- A map's block holds these entries. -/
def stMp (w : World) (b : Nat) (es : List MapEntry) (c : Nat) : World := { w with heap := w.heap.setIfInBounds b (.map es.toArray c) }
theorem ba_beq (a b : ByteArray) : (a == b) = (a.toList == b.toList) := by
  rw [ByteArray.toList_eq, ByteArray.toList_eq]
  have h1 : (a == b) = (a.data == b.data) := by
    cases a; cases b; rfl
  rw [h1]
  rcases a with ⟨⟨a⟩⟩
  rcases b with ⟨⟨b⟩⟩
  simp
/-- The first entry under a key. -/
def findE (sh : EqSh) (k : Value) : List MapEntry → Nat → Option (Option (Nat × Value))
  | [], _ => some none
  | e :: es, i => match eqlV sh k e.key with
    | some true => some (some (i, e.val))
    | some false => findE sh k es (i + 1)
    | none => none
section
variable {P : Program}
theorem run_eqT {t : TypeId} {sh : EqSh} (hs : eqShape P t = some sh) {x y : Value} {b : Bool} (h : eqlV sh x y = some b) (w : World) : (Op.equal t x y).run P w = .ok b w := by
  unfold eqShape at hs
  cases hu : P.underlying t with
  | none => simp [hu, eqKind] at hs
  | some u =>
    have hi : ∃ it, P.info? t = some it := by
      cases hi : P.info? t with
      | none => unfold Program.underlying at hu; simp [hi] at hu
      | some it => exact ⟨it, rfl⟩
    obtain ⟨it, hi⟩ := hi
    by_cases hstr : ∃ fs, u = .struct fs
    · obtain ⟨fs, rfl⟩ := hstr
      simp only [hu] at hs
      cases hg : P.eqGuardType P.depth t with
      | true => simp [hg] at hs
      | false =>
        cases hc : eqCells P 8 t with
        | none => simp [hg, hc] at hs
        | some l =>
          simp [hg, hc] at hs
          subst hs
          simp only [eqlV] at h
          split at h
          case h_2 => cases h
          rename_i xs ys
          exact run_eqCells 8 t l hc 10000 (by omega) (.agg xs) (.agg ys) b w (by simp only [aggOf, hu, hi]; exact ⟨xs, ys, rfl, rfl, h⟩)
    · by_cases harr : ∃ n e, u = .array n e
      · obtain ⟨n0, e0, rfl⟩ := harr
        simp only [hu] at hs
        cases hg : P.eqGuardType P.depth t with
        | true => simp [hg] at hs
        | false =>
          cases hc : eqCells P 8 t with
          | none => simp [hg, hc] at hs
          | some l =>
            simp [hg, hc] at hs
            subst hs
            simp only [eqlV] at h
            split at h
            case h_2 => cases h
            rename_i xs ys
            exact run_eqCells 8 t l hc 10000 (by omega) (.agg xs) (.agg ys) b w (by simp only [aggOf, hu, hi]; exact ⟨xs, ys, rfl, rfl, h⟩)
      · have hk : ∃ k, eqKind P t = some k ∧ sh = .one k := by
          cases hk : eqKind P t with
          | none => cases u <;> simp [hu, hk] at hs <;> first | exact absurd ⟨_, rfl⟩ hstr | exact absurd ⟨_, _, rfl⟩ harr
          | some k => cases u <;> simp [hu, hk] at hs <;> first | exact ⟨k, rfl, hs.symm⟩ | exact absurd ⟨_, rfl⟩ hstr | exact absurd ⟨_, _, rfl⟩ harr
        obtain ⟨k, hk, rfl⟩ := hk
        simp only [eqlV] at h
        exact run_eqPrim hk h 9999 w
theorem run_findAsking {t : TypeId} {sh : EqSh} (hs : eqShape P t = some sh) {k : Value} (w : World) : ∀ {es : List MapEntry} {i : Nat} {r : Option (Nat × Value)}, findE sh k es i = some r → (Instr.findAsking t k es i).run P w = .ok r w
  | [], i, r, h => by cases h; rfl
  | e :: es, i, r, h => by
    unfold findE at h
    unfold Instr.findAsking
    cases he : eqlV sh k e.key with
    | none => rw [he] at h; cases h
    | some b =>
      rw [he] at h
      rw [Sem.run_bind, run_eqT hs he]
      cases b with
      | true => simp only at h; cases h; rfl
      | false => simp only at h; simpa using run_findAsking hs w h
theorem sameNow_eq {d : TypeDesc} {t : TypeId} {sh : EqSh} (hs : eqShape P t = some sh) (hd : P.underlying t = some d) {x y : Value} {b c : Bool} (h : eqlV sh x y = some b) (h' : Instr.sameNow d x y = some c) : c = b := by
  unfold Instr.sameNow at h'
  split at h'
  · rename_i kk k a k' a'
    split at h'
    · rename_i hk
      subst hk
      have : sh = .one .int := by simpa [eqShape, eqKind, hd] using hs.symm
      subst this
      cases h'
      simp [eqlV, eqPrim] at h
      rw [← h]
    · cases h'
  · rename_i a a'
    have : sh = .one .str := by simpa [eqShape, eqKind, hd] using hs.symm
    subst this
    cases h'
    simp [eqlV, eqPrim] at h
    subst h
    exact ba_beq a a'
  · have : sh = .one .bool := by simpa [eqShape, eqKind, hd] using hs.symm
    subst this
    cases h'
    simp [eqlV, eqPrim] at h
    rw [← h]
  · cases h'
theorem run_findKey {t : TypeId} {sh : EqSh} (hs : eqShape P t = some sh) {k : Value} {es : List MapEntry} {r : Option (Nat × Value)} (h : findE sh k es 0 = some r) (w : World) : (Instr.findKey t k es).run P w = .ok r w := by
  unfold Instr.findKey
  cases hd : P.underlying t with
  | none => unfold eqShape at hs; simp [hd, eqKind] at hs
  | some d =>
    have hu : (underlying t).run P w = .ok d w := run_underlying hd w
    rw [Sem.run_bind, hu]
    simp only [Result.andThen_ok]
    have key : ∀ (es : List MapEntry) (i : Nat) (r : Option (Nat × Value)), findE sh k es i = some r → ∀ q, Instr.findNow d k es i = some q → q = r := by
      intro es
      induction es with
      | nil => intro i r h q hq; cases h; cases hq; rfl
      | cons e es ih =>
        intro i r h q hq
        unfold findE at h
        unfold Instr.findNow at hq
        cases he : eqlV sh k e.key with
        | none => rw [he] at h; cases h
        | some b =>
          rw [he] at h
          cases hn : Instr.sameNow d k e.key with
          | none => rw [hn] at hq; cases hq
          | some c =>
            rw [hn] at hq
            obtain rfl := sameNow_eq hs hd he hn
            cases c with
            | true => simp only at h hq; cases h; cases hq; rfl
            | false => simp only at h hq; exact ih (i + 1) r h q hq
    cases hf : Instr.findNow d k es 0 with
    | some q =>
      simp only
      rw [key es 0 r h q hf]
      rfl
    | none => exact run_findAsking hs w h
/-- May a value of this type stand as a key, and is it one? -/
def plainT (P : Program) (t : TypeId) : Bool := match P.underlying t with
  | some (.int _) | some .string | some .bool => true
  | _ => false
def keyOK (P : Program) (t : TypeId) (v : Value) : Bool := match P.underlying t with
  | some (.int _) | some .string | some .bool => true
  | some (.struct fs) => match v with
    | .agg cs => fs.toList.all fun f => plainT P f.type && Nat.blt f.offset cs.size
    | _ => false
  | _ => false
theorem run_checkPlain {t : TypeId} (h : plainT P t = true) (e : Bool) (n : Nat) (v : Value) (w : World) : (Instr.checkKey e (n + 1) t v).run P w = .ok () w := by
  unfold plainT at h
  rw [Instr.checkKey]
  split at h
  · rename_i hu; simp only [Sem.run_bind, run_underlying hu, Result.andThen_ok]; cases v <;> rfl
  · rename_i hu; simp only [Sem.run_bind, run_underlying hu, Result.andThen_ok]; cases v <;> rfl
  · rename_i hu; simp only [Sem.run_bind, run_underlying hu, Result.andThen_ok]; cases v <;> rfl
  · cases h
theorem aggOf_plain {t : TypeId} (h : plainT P t = true) (hi : (P.info? t).isSome = true) : aggOf P t = some none := by
  unfold plainT at h
  unfold aggOf
  split at h
  · rename_i hu; simp [hu]
  · rename_i hu; simp [hu]
  · rename_i hu; simp [hu]
  · cases h
theorem run_checkKey {t : TypeId} {v : Value} (h : keyOK P t v = true) (e : Bool) (w : World) : (Instr.checkKey e 10000 t v).run P w = .ok () w := by
  unfold keyOK at h
  split at h
  · rename_i k hu; exact run_checkPlain (by simp [plainT, hu]) e 9999 v w
  · rename_i hu; exact run_checkPlain (by simp [plainT, hu]) e 9999 v w
  · rename_i hu; exact run_checkPlain (by simp [plainT, hu]) e 9999 v w
  · rename_i fs hu
    split at h
    · rename_i cs
      rw [show (10000 : Nat) = 9998 + 1 + 1 from rfl, Instr.checkKey]
      simp only [Sem.run_bind, run_underlying hu, Result.andThen_ok]
      rw [← Array.forIn_toList]
      generalize fs.toList = L at h
      induction L with
      | nil => simp
      | cons f L ih =>
        simp only [List.all_cons, Bool.and_eq_true] at h
        obtain ⟨⟨h1, h2⟩, h3⟩ := h
        have hlt : f.offset < cs.size := by simpa using h2
        have hi : (P.info? f.type).isSome = true := by
          cases hi : P.info? f.type with
          | none => unfold plainT at h1; unfold Program.underlying at h1; simp [hi] at h1
          | some _ => rfl
        have hp : (part f.type cs f.offset).run P w = .ok cs[f.offset] w := run_part (g := none) (aggOf_plain h1 hi) (by simp [partV, hlt]) w
        by_cases hn : f.name = "_"
        · simp only [List.forIn_cons, hn, ne_eq, not_true_eq_false, if_false, Sem.run_bind, Sem.run_pure, Result.andThen_ok]
          exact ih h3
        · simp only [List.forIn_cons, Sem.run_bind, hn, ne_eq, not_false_eq_true, if_true, Result.andThen_ok, hp, run_checkPlain h1 e 9998 _ w, Sem.run_pure]
          exact ih h3
    · cases h
  · cases h
/-- The word for looking up. -/
def lookV (P : Program) (kt : TypeId) (sh : EqSh) (zero : Value) (ok : Bool) (m k : Value) (w : World) : Option Value := match m with
  | .map none => bif keyOK P kt k then some (if ok then .tuple #[zero, .bool false] else zero) else none
  | .map (some b) => match mp w b with
    | some (es, _) => bif keyOK P kt k then (match findE sh k es 0 with
      | some (some (_, v)) => some (if ok then .tuple #[v, .bool true] else v)
      | some none => some (if ok then .tuple #[zero, .bool false] else zero)
      | none => none) else none
    | none => none
  | _ => none
theorem mp_get {w : World} {b : Nat} {es : List MapEntry} {c : Nat} (h : mp w b = some (es, c)) : w.heap[b]? = some (.map es.toArray c) := by
  unfold mp at h
  split at h
  · rename_i xs c' hh; cases h; simpa using hh
  · cases h
theorem run_getMap {r : Nat} {es : Array MapEntry} {c : Nat} {w : World} (h : w.heap[r]? = some (.map es c)) : (getObj r).run P w = .ok (.map es c) w := by simp [getObj, Sem.run, h]
theorem run_zeroOf {e : TypeId} {i : TypeInfo} {z : Value} (hi : P.info? e = some i) (hz : i.zero = some z) (w : World) : (zeroValue e).run P w = .ok z w := by
  simp [zeroValue, typeInfo, hi, hz]
theorem run_lookV {t kt e : TypeId} {sh : EqSh} {z : Value} {i : TypeInfo} (hu : P.underlying t = some (.map kt e)) (hs : eqShape P kt = some sh) (hi : P.info? e = some i) (hz : i.zero = some z) {ok : Bool} {m k v : Value} {w : World} (h : lookV P kt sh z ok m k w = some v) :
    (Instr.lookup t m k ok).run P w = .ok v w := by
  unfold Instr.lookup
  simp only [Sem.run_bind, run_underlying hu, Result.andThen_ok]
  unfold lookV at h
  split at h
  · cases hk : keyOK P kt k with
    | false => rw [hk] at h; cases h
    | true =>
      rw [hk] at h
      simp only [cond_true, Option.some.injEq] at h
      simp only [Sem.run_bind, Sem.run_pure, Result.andThen_ok, run_checkKey hk]
      rw [run_findKey hs (es := []) (r := none) rfl]
      simp only [Result.andThen_ok, Sem.run_bind, run_zeroOf hi hz, Sem.run_pure]
      rw [h]
  · rename_i b
    cases hm : mp w b with
    | none => rw [hm] at h; cases h
    | some q =>
      obtain ⟨es, c⟩ := q
      rw [hm] at h
      cases hk : keyOK P kt k with
      | false => rw [hk] at h; cases h
      | true =>
        rw [hk] at h
        simp only [cond_true] at h
        simp only [Sem.run_bind, run_getMap (mp_get hm), Sem.run_pure, Result.andThen_ok, run_checkKey hk]
        cases hf : findE sh k es 0 with
        | none => rw [hf] at h; cases h
        | some r =>
          rw [hf] at h
          rw [run_findKey (es := es.toArray.toList) hs hf]
          cases r with
          | none =>
            simp only [Option.some.injEq] at h
            simp only [Result.andThen_ok, Sem.run_bind, run_zeroOf hi hz, Sem.run_pure]
            rw [h]
          | some p =>
            obtain ⟨j, x⟩ := p
            simp only [Option.some.injEq] at h
            simp only [Result.andThen_ok, Sem.run_bind, Sem.run_pure]
            rw [h]
  · cases h
/-- The word for an entry. -/
def updM (P : Program) (kt : TypeId) (sh : EqSh) (m k v : Value) (w : World) : Option (Value × World) := match m with
  | .map (some b) => match mp w b with
    | some (es, c) => bif keyOK P kt k then (match findE sh k es 0 with
      | some (some (i, _)) => match es[i]? with
        | some e => bif Instr.sameBits 10000 e.key k then some (undef, stMp w b (es.set i { e with key := k, val := v }) c) else none
        | none => none
      | some none => some (undef, stMp w b (es ++ [{ key := k, val := v, born := c }]) (c + 1))
      | none => none) else none
    | none => none
  | _ => none
theorem run_setMap {r : Nat} {o : Obj} {es : Array MapEntry} {c : Nat} {w : World} (h : w.heap[r]? = some (.map es c)) : (setObj r o).run P w = .ok () { w with heap := w.heap.setIfInBounds r o } := by
  simp [setObj, Sem.run, h]
theorem updM_undef {kt : TypeId} {sh : EqSh} {m k v u : Value} {w w' : World} (h : updM P kt sh m k v w = some (u, w')) : u = undef := by
  unfold updM at h
  split at h
  · rename_i b
    cases hm : mp w b with
    | none => rw [hm] at h; cases h
    | some q =>
      obtain ⟨es, c⟩ := q
      rw [hm] at h
      cases hk : keyOK P kt k with
      | false => rw [hk] at h; cases h
      | true =>
        rw [hk] at h
        simp only [cond_true] at h
        cases hf : findE sh k es 0 with
        | none => rw [hf] at h; cases h
        | some r =>
          rw [hf] at h
          cases r with
          | none => simp only [Option.some.injEq, Prod.mk.injEq] at h; exact h.1.symm
          | some p =>
            obtain ⟨j, x⟩ := p
            simp only at h
            cases he : es[j]? with
            | none => rw [he] at h; cases h
            | some e0 =>
              rw [he] at h
              simp only at h
              cases hb : Instr.sameBits 10000 e0.key k with
              | false => rw [hb] at h; cases h
              | true =>
                rw [hb] at h
                simp only [cond_true, Option.some.injEq, Prod.mk.injEq] at h
                exact h.1.symm
  · cases h
theorem run_updM {t kt e : TypeId} {sh : EqSh} (hu : P.underlying t = some (.map kt e)) (hs : eqShape P kt = some sh) {m k v u : Value} {w w' : World} (h : updM P kt sh m k v w = some (u, w')) :
    (Instr.mapUpdate t m k v).run P w = .ok () w' := by
  unfold Instr.mapUpdate
  simp only [Sem.run_bind, run_underlying hu, Result.andThen_ok]
  unfold updM at h
  split at h
  · rename_i b
    cases hm : mp w b with
    | none => rw [hm] at h; cases h
    | some q =>
      obtain ⟨es, c⟩ := q
      rw [hm] at h
      cases hk : keyOK P kt k with
      | false => rw [hk] at h; cases h
      | true =>
        rw [hk] at h
        simp only [cond_true] at h
        simp only [Sem.run_bind, run_getMap (mp_get hm), Sem.run_pure, Result.andThen_ok, run_checkKey hk]
        cases hf : findE sh k es 0 with
        | none => rw [hf] at h; cases h
        | some r =>
          rw [hf] at h
          rw [run_findKey (es := es.toArray.toList) hs hf]
          cases r with
          | none =>
            simp only [Option.some.injEq, Prod.mk.injEq] at h
            simp only [Result.andThen_ok, run_setMap (mp_get hm)]
            rw [← h.2]
            simp [stMp]
          | some p =>
            obtain ⟨j, x⟩ := p
            simp only at h
            cases he : es[j]? with
            | none => rw [he] at h; cases h
            | some e0 =>
              rw [he] at h
              simp only at h
              cases hb : Instr.sameBits 10000 e0.key k with
              | false => rw [hb] at h; cases h
              | true =>
                rw [hb] at h
                simp only [cond_true, Option.some.injEq, Prod.mk.injEq] at h
                have hj : (Option.map (fun x : MapEntry => x.key) es.toArray[j]?).getD k = e0.key := by simp [he]
                simp only [Result.andThen_ok, Sem.run_bind, hj, Instr.keyThatStays, hb, if_true, Sem.run_pure, run_setMap (mp_get hm)]
                rw [← h.2]
                have hlt := (List.getElem?_eq_some_iff.1 he).1
                have he' := (List.getElem?_eq_some_iff.1 he).2
                have hmod : es.toArray.modify j (fun e => { e with key := k, val := v }) = (es.set j { e0 with key := k, val := v }).toArray := by
                  apply Array.ext'
                  apply List.ext_getElem?
                  intro n
                  by_cases hn : j = n
                  · subst hn
                    simp [hlt, he']
                  · simp [List.getElem?_modify, List.getElem?_set, hn]
                rw [hmod]
                rfl
  · cases h
/-- The word for taking away. -/
def delM (P : Program) (kt : TypeId) (sh : EqSh) (m k : Value) (w : World) : Option (Value × World) := match m with
  | .map none => bif keyOK P kt k then some (.tuple #[], w) else none
  | .map (some b) => match mp w b with
    | some (es, c) => bif keyOK P kt k then (match findE sh k es 0 with
      | some (some (i, _)) => some (.tuple #[], stMp w b (es.eraseIdx i) c)
      | some none => some (.tuple #[], stMp w b es c)
      | none => none) else none
    | none => none
  | _ => none
theorem run_delM {t kt e ty : TypeId} {sh : EqSh} (hu : P.underlying t = some (.map kt e)) (hs : eqShape P kt = some sh) {ts : Array TypeId} (ht : ts[0]? = some t) {m k u : Value} {w w' : World} (h : delM P kt sh m k w = some (u, w')) :
    (Builtin.delete_ ts ty #[m, k]).run P w = .ok u w' := by
  unfold Builtin.delete_
  simp only [ht, show (#[m, k] : Array Value)[0]? = some m from rfl, show (#[m, k] : Array Value)[1]? = some k from rfl, Sem.run_bind, run_underlying hu, Result.andThen_ok]
  unfold delM at h
  split at h
  · cases hk : keyOK P kt k with
    | false => rw [hk] at h; cases h
    | true =>
      rw [hk] at h
      simp only [cond_true, Option.some.injEq, Prod.mk.injEq] at h
      simp only [Sem.run_bind, run_checkKey hk, Result.andThen_ok, Sem.run_pure]
      rw [← h.1, ← h.2]
  · rename_i b
    cases hm : mp w b with
    | none => rw [hm] at h; cases h
    | some q =>
      obtain ⟨es, c⟩ := q
      rw [hm] at h
      cases hk : keyOK P kt k with
      | false => rw [hk] at h; cases h
      | true =>
        rw [hk] at h
        simp only [cond_true] at h
        simp only [Sem.run_bind, run_getMap (mp_get hm), Sem.run_pure, Result.andThen_ok, run_checkKey hk]
        cases hf : findE sh k es 0 with
        | none => rw [hf] at h; cases h
        | some r =>
          rw [hf] at h
          rw [run_findKey (es := es.toArray.toList) hs hf]
          cases r with
          | none =>
            simp only [Option.some.injEq, Prod.mk.injEq] at h
            simp only [Result.andThen_ok, run_setMap (mp_get hm), Sem.run_pure, Sem.run_bind]
            rw [← h.1, ← h.2]
            rfl
          | some p =>
            obtain ⟨j, x⟩ := p
            simp only [Option.some.injEq, Prod.mk.injEq] at h
            simp only [Result.andThen_ok, run_setMap (mp_get hm), Sem.run_pure, Sem.run_bind]
            rw [← h.1, ← h.2]
            have : es.toArray.eraseIdxIfInBounds j = (es.eraseIdx j).toArray := by
              apply Array.ext'
              simp
            rw [this]
            rfl
  · cases h
/-- A new map. -/
def mkmM (w : World) : Option (Value × World) := some (.map (some w.heap.size), w.alloc (.map #[] 0))
theorem run_mkmM {t : TypeId} (w : World) : (Instr.makeMap t none).run P w = .ok (.map (some w.heap.size)) (w.alloc (.map #[] 0)) := by
  simp [Instr.makeMap, newObj, Sem.run]
/-- A walk over a map begins. -/
def rngM (m : Value) (w : World) : Option (Value × World) := match m with
  | .map none => some (.pointer (some ⟨w.heap.size, 0, none⟩), w.alloc (.mapIter none 0 #[] 0))
  | .map (some b) => match w.heap[b]? with
    | some (.map _ c) => some (.pointer (some ⟨w.heap.size, 0, none⟩), w.alloc (.mapIter (some b) c #[] c))
    | _ => none
  | _ => none
theorem run_rngM {t kt e : TypeId} (hu : P.underlying t = some (.map kt e)) {m u : Value} {w w' : World} (h : rngM m w = some (u, w')) : (Instr.range t m).run P w = .ok u w' := by
  unfold Instr.range
  simp only [Sem.run_bind, run_underlying hu, Result.andThen_ok]
  unfold rngM at h
  split at h
  · simp only [Option.some.injEq, Prod.mk.injEq] at h
    rw [← h.1, ← h.2]
    simp [newObj, Sem.run]
  · rename_i b
    split at h
    · rename_i es c hb
      simp only [Option.some.injEq, Prod.mk.injEq] at h
      rw [← h.1, ← h.2]
      simp only [Sem.run_bind, run_getMap hb, Result.andThen_ok, Sem.run_pure]
      simp [newObj, Sem.run]
    · cases h
  · cases h
/-- What may come next of a map's entries. -/
def nextC (es : Array MapEntry) (since : Nat) (seen : Array Nat) : Array (Option MapEntry) :=
  let left := es.filter fun e => !seen.contains e.born
  let old := left.filter (·.born < since)
  let new := left.filter (·.born ≥ since)
  (if old.isEmpty then #[none] else #[]) ++ (old ++ new).map some
def nextQ (n : Nat) (w : World) : Nat × World := if n ≤ 1 then (0, w) else ((Question.mapNext n).cut (w.tape w.drawn (.mapNext n)), w.drew)
/-- The next of a walk over a map. -/
def nxtM (it : Value) (w : World) : Option (Value × World) := match it with
  | .pointer (some ⟨r, 0, _⟩) => match w.heap[r]? with
    | some (.mapIter none _ _ _) => some (.tuple #[.bool false], w)
    | some (.mapIter (some m) since seen last) => match w.heap[m]? with
      | some (.map es c) => if !seen.isEmpty && !es.isEmpty && es.all (·.born ≥ last) then none else
        match (nextC es since seen)[(nextQ (nextC es since seen).size w).1]? with
        | some (some e) => some (.tuple #[.bool true, e.key, e.val], { (nextQ (nextC es since seen).size w).2 with heap := (nextQ (nextC es since seen).size w).2.heap.setIfInBounds r (.mapIter (some m) since (seen.push e.born) c) })
        | some none => some (.tuple #[.bool false], (nextQ (nextC es since seen).size w).2)
        | none => none
      | _ => none
    | _ => none
  | _ => none
theorem nextQ_run (n : Nat) (w : World) : (choose (.mapNext n)).run P w = .ok (nextQ n w).1 (nextQ n w).2 := by
  rw [run_choose_drew]
  unfold nextQ Question.forced
  by_cases h : n ≤ 1
  · simp [h]
  · simp [h]
theorem nextQ_heap (n : Nat) (w : World) : (nextQ n w).2.heap = w.heap := by unfold nextQ; split <;> rfl
theorem run_nxtM {ty : TypeId} {it u : Value} {w w' : World} (h : nxtM it w = some (u, w')) : (Instr.next it false ty).run P w = .ok u w' := by
  unfold Instr.next
  unfold nxtM at h
  split at h
  case h_2 => cases h
  rename_i r sp
  split at h
  · rename_i x1 x2 x3 hr
    have hget : (getObj r).run P w = .ok (.mapIter none x1 x2 x3) w := by simp [getObj, Sem.run, hr]
    simp only [Sem.run_bind, hget, Result.andThen_ok]
    simp only [Option.some.injEq, Prod.mk.injEq] at h
    rw [← h.1, ← h.2]
    rfl
  · rename_i m since seen last hr
    have hget : (getObj r).run P w = .ok (.mapIter (some m) since seen last) w := by simp [getObj, Sem.run, hr]
    simp only [Sem.run_bind, hget, Result.andThen_ok]
    split at h
    · rename_i es c hm
      split at h
      · cases h
      rename_i hc
      simp only [Sem.run_bind, run_getMap hm, Result.andThen_ok]
      rw [if_neg hc]
      have hq := nextQ_run (P := P) (nextC es since seen).size w
      change Sem.run P (choose (.mapNext (nextC es since seen).size) >>= fun n => match (nextC es since seen)[n]? with
        | some (some e) => (do
          setObj r (Obj.mapIter (some m) since (seen.push e.born) c)
          pure (Value.tuple #[Value.bool true, e.key, e.val]))
        | some none => pure (Value.tuple #[Value.bool false])
        | none => stuck "Next: no such candidate") w = _
      rw [Sem.run_bind, hq]
      simp only [Result.andThen_ok]
      have hh := nextQ_heap (nextC es since seen).size w
      generalize nextQ (nextC es since seen).size w = q at h hh
      split at h
      · rename_i e he
        have hr' : q.2.heap[r]? = some (.mapIter (some m) since seen last) := by rw [hh]; exact hr
        simp only [he, Sem.run_bind]
        simp only [Option.some.injEq, Prod.mk.injEq] at h
        rw [← h.1, ← h.2]
        simp [setObj, Sem.run, hr']
      · rename_i he
        simp only [Option.some.injEq, Prod.mk.injEq] at h
        rw [← h.1, ← h.2]
        simp only [he, Sem.run_pure]
      · cases h
    · cases h
  · cases h
/-- The entry at which a walk over a map stands. -/
def entV (it : Value) (w : World) : Option Value := match it with
  | .pointer (some ⟨r, 0, _⟩) => match w.heap[r]? with
    | some (.mapIter (some m) _ seen stepped) => match seen.back? with
      | some stamp => match w.heap[m]? with
        | some (.map es clock) => if clock != stepped then none else match es.find? (·.born == stamp) with
          | some e => some (.tuple #[e.key, e.val])
          | none => none
        | _ => none
      | none => none
    | _ => none
  | _ => none
theorem run_entV {it u : Value} {w : World} (h : entV it w = some u) : (Instr.entry it).run P w = .ok u w := by
  unfold Instr.entry
  unfold entV at h
  split at h
  case h_2 => cases h
  rename_i r sp
  split at h
  case h_2 => cases h
  rename_i m x seen stepped hr
  have hget : (getObj r).run P w = .ok (.mapIter (some m) x seen stepped) w := by simp [getObj, Sem.run, hr]
  simp only [Sem.run_bind, hget, Result.andThen_ok]
  cases hb : seen.back? with
  | none => rw [hb] at h; cases h
  | some stamp =>
    rw [hb] at h
    simp only at h
    split at h
    case h_2 => cases h
    rename_i es clock hm
    simp only [Sem.run_bind, run_getMap hm, Result.andThen_ok]
    split at h
    · cases h
    · rename_i hc
      rw [if_neg hc]
      cases hf : es.find? (fun e => e.born == stamp) with
      | none => rw [hf] at h; cases h
      | some e => rw [hf] at h; cases h; rfl
/-- A new entry that is written in two steps: its place (the key is not there yet). -/
def mentM (P : Program) (kt : TypeId) (sh : EqSh) (z m k : Value) (w : World) : Option (Value × World) := match m with
  | .map (some b) => match mp w b with
    | some (es, c) => bif keyOK P kt k then (match findE sh k es 0 with
      | some none => some (.tuple #[z, .int .i64 (c : Nat)], stMp w b (es ++ [{ key := k, val := z, born := c }]) (c + 1))
      | _ => none) else none
    | none => none
  | _ => none
theorem run_mentM {t kt e : TypeId} {sh : EqSh} {z : Value} {i : TypeInfo} (hu : P.underlying t = some (.map kt e)) (hs : eqShape P kt = some sh) (hi : P.info? e = some i) (hz : i.zero = some z) {m k u : Value} {w w' : World} (h : mentM P kt sh z m k w = some (u, w')) :
    (Instr.mapEntry t m k).run P w = .ok u w' := by
  unfold Instr.mapEntry
  simp only [Sem.run_bind, run_underlying hu, Result.andThen_ok]
  unfold mentM at h
  split at h
  · rename_i b
    cases hm : mp w b with
    | none => rw [hm] at h; cases h
    | some q =>
      obtain ⟨es, c⟩ := q
      rw [hm] at h
      cases hk : keyOK P kt k with
      | false => rw [hk] at h; cases h
      | true =>
        rw [hk] at h
        simp only [cond_true] at h
        simp only [Sem.run_bind, run_getMap (mp_get hm), Sem.run_pure, Result.andThen_ok, run_checkKey hk]
        cases hf : findE sh k es 0 with
        | none => rw [hf] at h; cases h
        | some r =>
          rw [hf] at h
          rw [run_findKey (es := es.toArray.toList) hs hf]
          cases r with
          | none =>
            simp only [Option.some.injEq, Prod.mk.injEq] at h
            simp only [Result.andThen_ok, Sem.run_bind, run_zeroOf hi hz, run_setMap (mp_get hm), Sem.run_pure]
            rw [← h.1, ← h.2]
            simp [stMp, goInt]
          | some p => cases h
  · cases h
/-- Its value. -/
def estM (m stamp v : Value) (w : World) : Option (Value × World) := match m, stamp with
  | .map (some b), .int _ n => match mp w b with
    | some (es, c) => match es.findIdx? (fun e => (e.born : Int) == n) with
      | some i => some (undef, stMp w b (es.modify i fun e => { e with val := v }) c)
      | none => none
    | none => none
  | _, _ => none
theorem run_estM {t : TypeId} {m stamp v u : Value} {w w' : World} (h : estM m stamp v w = some (u, w')) :
    u = undef ∧ (Instr.entryStore t m stamp v).run P w = .ok () w' := by
  unfold Instr.entryStore
  unfold estM at h
  split at h
  case h_2 => cases h
  rename_i b k n
  cases hm : mp w b with
  | none => rw [hm] at h; cases h
  | some q =>
    obtain ⟨es, c⟩ := q
    rw [hm] at h
    simp only at h
    cases hf : es.findIdx? (fun e => (e.born : Int) == n) with
    | none => rw [hf] at h; cases h
    | some i =>
      rw [hf] at h
      simp only [Option.some.injEq, Prod.mk.injEq] at h
      refine ⟨h.1.symm, ?_⟩
      simp only [Sem.run_bind, run_getMap (mp_get hm), Sem.run_pure, Result.andThen_ok, asInt, asIntOf]
      have : es.toArray.findIdx? (fun e => (e.born : Int) == n) = some i := by simpa using hf
      simp only [this, run_setMap (mp_get hm)]
      rw [← h.2]
      simp [stMp]
end
end Go.Lift
