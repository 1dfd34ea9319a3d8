/-
  THE LIFT, part D: comparisons, whole.
-/
import Derived.Test.YthlpfhjcdedhgaaDoorLiftC
import Derived.ChangeKeysEq
namespace Go.Lift
set_option linter.unusedSimpArgs false

section
variable {P : Program}

theorem run_eqPrim {t : TypeId} {k : EqK} (hk : eqKind P t = some k) {x y : Value} {b : Bool} (h : eqPrim k x y = some b) (n : Nat) (w : World) :
    (Op.equalIn (n + 1) t x y).run P w = .ok b w := by
  unfold eqKind at hk
  split at hk
  case h_1 hu => cases hk; unfold eqPrim at h; split at h <;> first | contradiction | (cases h; exact eqIn_bool n w hu _ _)
  case h_2 hu => cases hk; unfold eqPrim at h; split at h <;> first | contradiction | (split at h <;> cases h; rename_i e; subst e; exact eqIn_int n w hu _ _ _)
  case h_3 hu => cases hk; unfold eqPrim at h; split at h <;> first | contradiction | (cases h; exact eqIn_str n w hu _ _)
  case h_4 hu => cases hk; unfold eqPrim at h; split at h <;> first | contradiction | (cases h; exact eqIn_sl0 n w hu _ _ _ _ _) | (cases h; exact eqIn_sl1 n w hu _ _ _ _ _)
  case h_5 hu => cases hk; unfold eqPrim at h; split at h <;> first | contradiction | (cases h; exact eqIn_mp0 n w hu _) | (cases h; exact eqIn_mp1 n w hu _)
  case h_6 hu => cases hk; unfold eqPrim at h; split at h <;> first | contradiction | (cases h; exact eqIn_fn0 n w hu) | (cases h; exact eqIn_fn1 n w hu _ _ _) | (cases h; exact eqIn_fn2 n w hu _ _ _)
  case h_7 hu => cases hk; unfold eqPrim at h; split at h <;> first | contradiction | (cases h; exact eqIn_if0 n w hu _ _) | (cases h; exact eqIn_if1 n w hu _ _)
  case h_8 e hu =>
    split at hk
    case h_2 => cases hk
    rename_i i hi
    split at hk
    · cases hk
    rename_i hs
    cases hk; unfold eqPrim at h; split at h <;> first
      | contradiction
      | (cases h; exact eqIn_ptr0 n w hu _) | (cases h; exact eqIn_ptr1 n w hu _)
      | (split at h <;> cases h; rename_i hb; exact eqIn_ptr2 n w hu hi hs _ _ hb)
  case h_9 => cases hk

def eqCells (P : Program) : Nat → TypeId → Option (List (EqK × Nat))
  | 0, _ => none
  | d + 1, t => match P.underlying t with
    | some (.struct fs) => if P.stoodInHeld t then none else
      fs.toList.foldr (fun f acc => match acc with
        | none => none
        | some r => if f.name = "_" then some r else match eqCells P d f.type, P.info? f.type with
          | some l, some i => if l.all (fun q => Nat.blt q.2 i.size) then some (l.map (fun q => (q.1, q.2 + f.offset)) ++ r) else none
          | _, _ => none) (some [])
    | some (.array n e) => match eqCells P d e, P.info? e with
      | some l, some i => if l.all (fun q => Nat.blt q.2 i.size) then some ((List.range n).flatMap fun j => l.map fun q => (q.1, q.2 + j * i.size)) else none
      | _, _ => none
    | _ => match eqKind P t with
      | some k => some [(k, 0)]
      | none => none

theorem eqOffs_append (xs ys : Array Value) : ∀ (l1 l2 : List (EqK × Nat)), eqOffs xs ys (l1 ++ l2) = match eqOffs xs ys l1 with
    | some true => eqOffs xs ys l2
    | some false => some false
    | none => none
  | [], l2 => rfl
  | (k, o) :: r, l2 => by
    simp only [List.cons_append, eqOffs]
    split
    · split <;> simp [eqOffs_append xs ys r l2]
    · rfl

theorem eqOffs_extract {xs ys : Array Value} {off n : Nat} : ∀ (l : List (EqK × Nat)), (l.all (fun q => Nat.blt q.2 n)) = true →
    eqOffs (xs.extract off (off + n)) (ys.extract off (off + n)) l = eqOffs xs ys (l.map (fun q => (q.1, q.2 + off)))
  | [], _ => rfl
  | (k, o) :: r, h => by
    simp only [List.all_cons, Bool.and_eq_true] at h
    have ho : o < n := Nat.le_of_ble_eq_true h.1
    have e : ∀ zs : Array Value, (zs.extract off (off + n))[o]? = zs[o + off]? := fun zs => by
      rw [Array.getElem?_extract]
      by_cases hz : o + off < zs.size
      · rw [if_pos (by omega), Nat.add_comm]
      · rw [if_neg (by omega), Array.getElem?_eq_none (by omega)]
    simp only [eqOffs, List.map_cons, e, eqOffs_extract r h.2]

/-- One part of a struct or an array. -/
theorem eqPart {d D : Nat} {e : TypeId} {lf : List (EqK × Nat)} {i : TypeInfo} {xs ys : Array Value} {off : Nat} {w : World} (hlf : eqCells P d e = some lf) (hif : P.info? e = some i) (hall : (lf.all fun q => Nat.blt q.2 i.size) = true)
    (hrec : ∀ (x y : Value) (b : Bool) (w : World), (match aggOf P e with
      | some none => eqOffs #[x] #[y] lf = some b
      | some (some _) => ∃ xs ys, x = .agg xs ∧ y = .agg ys ∧ eqOffs xs ys lf = some b
      | none => False) → (Op.equalIn D e x y).run P w = .ok b w) : ∀ b1, eqOffs xs ys (lf.map (fun q => (q.1, q.2 + off))) = some b1 →
      ∃ a a', (part e xs off).run P w = .ok a w ∧ (part e ys off).run P w = .ok a' w ∧ (Op.equalIn D e a a').run P w = .ok b1 w := by
  intro b1 hb1
  cases hg : aggOf P e with
  | none =>
    exfalso
    cases d with
    | zero => simp [eqCells] at hlf
    | succ d =>
      unfold aggOf at hg
      simp only [eqCells] at hlf
      cases hu' : P.underlying e with
      | none => simp [hu', eqKind] at hlf
      | some u => cases u <;> simp [hu', hif] at hg
  | some g =>
    cases g with
    | some n =>
      have hn' : n = i.size := by
        unfold aggOf at hg
        cases hu' : P.underlying e with
        | none => simp [hu'] at hg
        | some u => cases u <;> simp [hu', hif] at hg <;> exact hg.symm
      subst hn'
      refine ⟨_, _, run_part hg (show partV (some i.size) xs off = some _ from rfl) w, run_part hg (show partV (some i.size) ys off = some _ from rfl) w, ?_⟩
      refine hrec _ _ b1 w ?_
      rw [hg]
      exact ⟨_, _, rfl, rfl, by rw [eqOffs_extract _ hall]; exact hb1⟩
    | none =>
      obtain ⟨k, rfl⟩ : ∃ k, lf = [(k, 0)] := by
        cases d with
        | zero => simp [eqCells] at hlf
        | succ d =>
          simp only [eqCells] at hlf
          unfold aggOf at hg
          cases hu' : P.underlying e with
          | none => simp [hu'] at hg
          | some u =>
            cases hk : eqKind P e with
            | none => cases u <;> simp [hu', hk, hif] at hlf hg
            | some k => cases u <;> simp [hu', hk, hif] at hlf hg <;> exact ⟨k, hlf.symm⟩
      simp only [List.map_cons, List.map_nil, Nat.zero_add, eqOffs] at hb1
      split at hb1
      case h_2 => cases hb1
      rename_i a a' ha ha'
      refine ⟨a, a', run_part hg (show partV none xs off = some a from ha) w, run_part hg (show partV none ys off = some a' from ha') w, ?_⟩
      refine hrec a a' b1 w ?_
      rw [hg]
      simp only [eqOffs]
      exact hb1
theorem run_eqCells : ∀ (d : Nat) (t : TypeId) (l : List (EqK × Nat)), eqCells P d t = some l → ∀ (D : Nat), d ≤ D → ∀ (x y : Value) (b : Bool) (w : World),
    (match aggOf P t with
      | some none => eqOffs #[x] #[y] l = some b
      | some (some _) => ∃ xs ys, x = .agg xs ∧ y = .agg ys ∧ eqOffs xs ys l = some b
      | none => False) → (Op.equalIn D t x y).run P w = .ok b w
  | 0, t, l, h => by simp [eqCells] at h
  | d + 1, t, l, h => fun D hD x y b w hx => by
    obtain ⟨D, rfl⟩ : ∃ D', D = D' + 1 := ⟨D - 1, by omega⟩
    cases hu : P.underlying t with
    | none => simp [aggOf, hu] at hx
    | some u =>
      by_cases hstr : ∃ fs, u = .struct fs
      · obtain ⟨fs, rfl⟩ := hstr
        simp only [eqCells, hu] at h
        split at h
        · cases h
        rename_i hst
        simp only [aggOf, hu] at hx
        cases hi : P.info? t with
        | none =>
          unfold Program.underlying at hu
          simp [hi] at hu
        | some it =>
          simp only [hi] at hx
          obtain ⟨xs, ys, rfl, rfl, hx⟩ := hx
          have hfo : P.fieldsOf t = fs := by simp [Program.fieldsOf, hu]
          rw [run_equalIn_struct w D t xs ys (by rw [hfo]; exact hu) (by simpa using hst), hfo]
          clear hfo hu hi hst
          generalize fs.toList = fl at *
          clear fs
          induction fl generalizing l b w with
          | nil => simp at h; subst h; simp [eqOffs] at hx; subst hx; simp [Op.eqFields]
          | cons f fl ih =>
            simp only [List.foldr_cons] at h
            split at h
            · cases h
            rename_i r hr
            by_cases hn : f.name = "_"
            · simp only [hn, if_true, Option.some.injEq] at h
              subst h
              simp only [Op.eqFields, hn, ne_eq, not_true_eq_false, if_false]
              exact ih _ _ _ hx hr
            · simp only [hn, if_false] at h
              split at h
              case h_2 => cases h
              rename_i lf i hlf hif
              split at h
              case isFalse => cases h
              rename_i hall
              cases h
              rw [eqOffs_append] at hx
              have main := fun (w : World) => eqPart (xs := xs) (ys := ys) (off := f.offset) (w := w) hlf hif hall (run_eqCells d f.type lf hlf D (by omega))
              cases hb1 : eqOffs xs ys (lf.map (fun q => (q.1, q.2 + f.offset))) with
              | none => simp [hb1] at hx
              | some b1 =>
                obtain ⟨a, a', h1, h2, h3⟩ := main w b1 hb1
                simp only [Op.eqFields, ne_eq, hn, not_false_eq_true, if_true, Sem.run_bind, h1, h2, h3, Result.andThen_ok]
                cases b1 with
                | true =>
                  simp only [hb1] at hx
                  simp only [Bool.not_true, Bool.false_eq_true, if_false]
                  exact ih _ _ _ hx hr
                | false =>
                  simp only [hb1, Option.some.injEq] at hx
                  subst hx
                  simp
      · by_cases harr : ∃ n e, u = .array n e
        · obtain ⟨n, e, rfl⟩ := harr
          simp only [eqCells, hu] at h
          cases he : eqCells P d e with
          | none => simp [he] at h
          | some lf =>
            cases hi : P.info? e with
            | none => simp [he, hi] at h
            | some i =>
              simp only [he, hi] at h
              split at h
              case isFalse => cases h
              rename_i hall
              cases h
              simp only [aggOf, hu] at hx
              cases hti : P.info? t with
              | none => unfold Program.underlying at hu; simp [hti] at hu
              | some it =>
                simp only [hti] at hx
                obtain ⟨xs, ys, rfl, rfl, hx⟩ := hx
                have hc : P.cellsOf e = i.size := by simp [Program.cellsOf, hi]
                rw [run_equalIn_array w D xs ys hu hi, hc]
                generalize List.range n = is at hx
                have main := fun (off : Nat) (w : World) => eqPart (xs := xs) (ys := ys) (off := off) (w := w) he hi hall (run_eqCells d e lf he D (by omega))
                induction is generalizing b w with
                | nil => simp [eqOffs] at hx; subst hx; simp [Op.eqItems]
                | cons j is ih =>
                  rw [List.flatMap_cons, eqOffs_append] at hx
                  cases hb1 : eqOffs xs ys (lf.map (fun q => (q.1, q.2 + j * i.size))) with
                  | none => simp [hb1] at hx
                  | some b1 =>
                    obtain ⟨a, a', h1, h2, h3⟩ := main (j * i.size) w b1 hb1
                    simp only [Op.eqItems, Sem.run_bind, h1, h2, h3, Result.andThen_ok]
                    cases b1 with
                    | true =>
                      simp only [hb1] at hx
                      simp only [Bool.not_true, Bool.false_eq_true, if_false]
                      exact ih _ _ hx
                    | false =>
                      simp only [hb1, Option.some.injEq] at hx
                      subst hx
                      simp
        have hag : aggOf P t = some none := by
          unfold aggOf
          cases u <;> simp [hu] <;> first
            | (exact absurd ⟨_, rfl⟩ hstr)
            | (exact absurd ⟨_, _, rfl⟩ harr)
        rw [hag] at hx
        simp only [eqCells, hu] at h
        obtain ⟨k, hk, rfl⟩ : ∃ k, eqKind P t = some k ∧ l = [(k, 0)] := by
          cases hk : eqKind P t with
          | none => cases u <;> simp [hk] at h <;> first | exact absurd ⟨_, rfl⟩ hstr | exact absurd ⟨_, _, rfl⟩ harr
          | some k => cases u <;> simp [hk] at h <;> first | exact ⟨k, rfl, h.symm⟩ | exact absurd ⟨_, rfl⟩ hstr | exact absurd ⟨_, _, rfl⟩ harr
        simp only [eqOffs, List.getElem?_toArray, List.getElem?_cons_zero] at hx
        cases hp : eqPrim k x y with
        | none => simp [hp] at hx
        | some b' =>
          have : b' = b := by cases b' <;> simp [hp] at hx <;> exact hx.symm
          subst this
          exact run_eqPrim hk hp D w

def eqShape (P : Program) (t : TypeId) : Option EqSh := match P.underlying t with
  | some (.struct _) => bif P.eqGuardType P.depth t then none else match eqCells P 8 t with
    | some l => some (.offs l)
    | none => none
  | some (.array _ _) => bif P.eqGuardType P.depth t then none else match eqCells P 8 t with
    | some l => some (.offs l)
    | none => none
  | _ => match eqKind P t with
    | some k => some (.one k)
    | none => none

theorem eqKind_ifn {t : TypeId} : eqKind P t ≠ some .ifn := by
  intro h
  unfold eqKind at h
  repeat' split at h
  all_goals cases h
theorem run_eqlV {t : TypeId} {sh : EqSh} (hs : eqShape P t = some sh) {x y : Value} {b : Bool} (h : eqlV sh x y = some b) (ox oy : Operand) (op : BinOp) (w : World) :
    (eqGuard op t ox oy x y).run P w = .ok () w ∧ (binOp .eql t x y).run P w = .ok (.bool b) w ∧ (binOp .neq t x y).run P w = .ok (.bool !b) w := by
  unfold eqShape at hs
  cases hu : P.underlying t with
  | none => simp [hu, eqKind] at hs
  | some u =>
    by_cases hstr : ∃ fs, u = .struct fs
    · obtain ⟨fs, rfl⟩ := hstr
      simp only [hu] at hs
      cases hg : P.eqGuardType P.depth t with
      | true => simp [hg] at hs
      | false =>
        cases hc : eqCells P 8 t with
        | none => simp [hg, hc] at hs
        | some l =>
          simp [hg, hc] at hs
          subst hs
          simp only [eqlV] at h
          split at h
          case h_2 => cases h
          rename_i xs ys
          have hi : ∃ it, P.info? t = some it := by
            cases hi : P.info? t with
            | none => unfold Program.underlying at hu; simp [hi] at hu
            | some it => exact ⟨it, rfl⟩
          obtain ⟨it, hi⟩ := hi
          have he := run_eqCells 8 t l hc 10000 (by omega) (.agg xs) (.agg ys) b w (by simp only [aggOf, hu, hi]; exact ⟨xs, ys, rfl, rfl, h⟩)
          refine ⟨run_eqGuard_agg w op t ox oy xs ys hg, ?_, ?_⟩
          · rw [run_eql_struct, he]; rfl
          · rw [run_neq_struct, he]; rfl
    · by_cases harr : ∃ n e, u = .array n e
      · obtain ⟨n0, e0, rfl⟩ := harr
        simp only [hu] at hs
        cases hg : P.eqGuardType P.depth t with
        | true => simp [hg] at hs
        | false =>
          cases hc : eqCells P 8 t with
          | none => simp [hg, hc] at hs
          | some l =>
            simp [hg, hc] at hs
            subst hs
            simp only [eqlV] at h
            split at h
            case h_2 => cases h
            rename_i xs ys
            have hi : ∃ it, P.info? t = some it := by
              cases hi : P.info? t with
              | none => unfold Program.underlying at hu; simp [hi] at hu
              | some it => exact ⟨it, rfl⟩
            obtain ⟨it, hi⟩ := hi
            have he := run_eqCells 8 t l hc 10000 (by omega) (.agg xs) (.agg ys) b w (by simp only [aggOf, hu, hi]; exact ⟨xs, ys, rfl, rfl, h⟩)
            refine ⟨run_eqGuard_agg w op t ox oy xs ys hg, ?_, ?_⟩
            · rw [run_eql_struct, he]; rfl
            · rw [run_neq_struct, he]; rfl
      have hk : ∃ k, eqKind P t = some k ∧ sh = .one k := by
        cases hk : eqKind P t with
        | none => cases u <;> simp [hu, hk] at hs <;> first | exact absurd ⟨_, rfl⟩ hstr | exact absurd ⟨_, _, rfl⟩ harr
        | some k => cases u <;> simp [hu, hk] at hs <;> first | exact ⟨k, rfl, hs.symm⟩ | exact absurd ⟨_, rfl⟩ hstr | exact absurd ⟨_, _, rfl⟩ harr
      obtain ⟨k, hk, rfl⟩ := hk
      simp only [eqlV] at h
      have he := run_eqPrim hk h 9999 w
      have he' : (Op.equal t x y).run P w = .ok b w := he
      unfold eqPrim at h
      split at h <;> first
        | contradiction
        | exact absurd hk eqKind_ifn
        | (refine ⟨by cases op <;> rfl, ?_, ?_⟩ <;> simp [binOp, he'] <;> done)
        | (refine ⟨by cases op <;> rfl, ?_, ?_⟩ <;> (split at h <;> simp at h <;> subst h <;> simp_all [binOp, Op.intCmp, bne]) <;> done)
        | (refine ⟨by cases op <;> rfl, ?_, ?_⟩ <;> (simp at h; subst h; simp [binOp, Op.stringOp]) <;> done)
end
end Go.Lift
