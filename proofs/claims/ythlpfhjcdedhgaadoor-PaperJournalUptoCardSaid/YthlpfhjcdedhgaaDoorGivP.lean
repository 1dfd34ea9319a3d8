/-
  What the library's functions that the lift does not read come to: off the shelf's contracts.
-/
import Derived.Test.YthlpfhjcdedhgaaDoorLiftH
import Derived.Test.YthlpfhjcdedhgaaDoorShelf
namespace Go.Proofs.YthlpfhjcdedhgaaDoor
open Go.Lift
set_option linter.unusedVariables false

theorem got_calls {P : Program} {f : FuncId} {fn : Func} (hf : P.funcs[f]? = some fn) (hb : fn.body.isSome = true) (hname : (fn.name == "runtime.NumGoroutine") = false) {args : Array Value} {w w' : World} {v : Value}
    (h : Calls P f args w fun e w'' => e = .returned v ∧ w'' = w') : Got P (callFunc f args) w v w' := by
  refine .inr (.inr ⟨f, args, w, ?_, h⟩)
  obtain ⟨c, hc⟩ := Option.isSome_iff_exists.1 hb
  simp [callFunc, hf, show fn.name ≠ "runtime.NumGoroutine" by simpa using hname, hc]

open Classical in
/-- strings.Split. -/
noncomputable def F.strings_Split (a0 a1 : Value) : M Value := fun w => match a0, a1 with
  | .string s, .string sep => if s.size < 4294967281 ∧ 1 ≤ sep.size ∧ ∃ m : Int, w.cell? ⟨1, 0, none⟩ = some (.int .i64 m) then some (.slice (some ⟨w.heap.size, 0, none⟩) (Lib.countB s sep + 1) (Lib.countB s sep + 1), w.alloc (.cells ((Lib.splitB sep 0 (Lib.countB s sep) s).map Value.string).toArray 9)) else none
  | _, _ => none
theorem F.strings_Split.lift : LiftOk Tryd.prog 59 (ap2 F.strings_Split) := by
  intro args w v w' h
  unfold ap2 at h
  split at h
  · unfold F.strings_Split at h
    split at h
    · rename_i s sep
      split at h
      · rename_i hc
        obtain ⟨h1, h2, m, h3⟩ := hc
        cases h
        exact got_calls Tryd.func59 (by kernel_rfl) (by kernel_rfl) (Tryd.strings_Split _ _ m w h1 h3 h2)
      · cases h
    · cases h
  · cases h
/-- (*strings.Builder).copyCheck. -/
noncomputable def F.strings_Builder_copyCheck (a0 : Value) : M Value := fun w => match a0 with
  | .pointer (some ⟨b, 0, none⟩) => match w.cell? ⟨b, 0, none⟩ with
    | some (.pointer (some ⟨b', 0, none⟩)) => if b' = b then some (.tuple #[], w) else none
    | some (.pointer none) => if w.shape? b = some (60, 2) ∧ w.frozen? ⟨b, 0, none⟩ = false then some (.tuple #[], w.setCell ⟨b, 0, none⟩ (.pointer (some ⟨b, 0, none⟩))) else none
    | _ => none
  | _ => none
theorem F.strings_Builder_copyCheck.lift : LiftOk Tryd.prog 62 (ap1 F.strings_Builder_copyCheck) := by
  intro args w v w' h
  unfold ap1 at h
  split at h
  · unfold F.strings_Builder_copyCheck at h
    split at h
    · rename_i b
      split at h
      · rename_i b' hc
        split at h
        · rename_i he
          subst he
          cases h
          exact got_calls Tryd.func62 (by kernel_rfl) (by kernel_rfl) (Any.Builder_copyCheck_used { Tryd.lays156 with } Tryd.Builder_Extra_156.toX72 _ w hc)
        · cases h
      · rename_i hc
        split at h
        · rename_i he
          cases h
          exact got_calls Tryd.func62 (by kernel_rfl) (by kernel_rfl) (Any.Builder_copyCheck_fresh { Tryd.lays156 with } Tryd.Builder_Extra_156.toX72 _ w hc he.1 he.2)
        · cases h
      · cases h
    · cases h
  · cases h
/-- internal/bytealg.MakeNoZero. -/
noncomputable def F.bytealg_MakeNoZero (a0 : Value) : M Value := fun w => match (Extern.BytealgMakeNoZero.makeNoZero #[3] #[58] #[a0]).run Tryd.prog w with
  | .ok v w' => some (v, w')
  | _ => none
theorem F.bytealg_MakeNoZero.lift : LiftOk Tryd.prog 76 (ap1 F.bytealg_MakeNoZero) := by
  intro args w v w' h
  unfold ap1 at h
  split at h
  · unfold F.bytealg_MakeNoZero at h
    split at h
    · rename_i v0 w1 hr
      cases h
      refine .inl ?_
      rw [run_callFunc_extern Tryd.func76 (by kernel_rfl) (by kernel_rfl) (by kernel_rfl) (e := Extern.BytealgMakeNoZero.makeNoZero #[3] #[58]) (by kernel_rfl), hr]
      rfl
    · cases h
  · cases h
/-- internal/stringslite.IndexByte. -/
noncomputable def F.stringslite_IndexByte (a0 a1 : Value) : M Value := fun w => match a0, a1 with
  | .string s, .int .u8 c => some (.int .i64 (Lib.indexByte s.data.toList c.toNat.toUInt8), w)
  | _, _ => none
theorem F.stringslite_IndexByte.lift : LiftOk Tryd.prog 87 (ap2 F.stringslite_IndexByte) := by
  intro args w v w' h
  unfold ap2 at h
  split at h
  · unfold F.stringslite_IndexByte at h
    split at h
    · cases h
      exact got_calls Tryd.func87 (by kernel_rfl) (by kernel_rfl) (Tryd.stringslite_IndexByte _ _ w)
    · cases h
  · cases h
open Classical in
/-- internal/strconv.numDigits. -/
noncomputable def F.strconv_numDigits (a0 : Value) : M Value := fun w => match a0 with
  | .int .u64 u => if (1 ≤ u ∧ u < 18446744073709551616) ∧ Lib.TabIs Tryd.prog w "internal/strconv.uint64pow10" .u64 Lib.pow10Tab then some (.int .i64 (Lib.nDigits u.toNat), w) else none
  | _ => none
theorem F.strconv_numDigits.lift : LiftOk Tryd.prog 78 (ap1 F.strconv_numDigits) := by
  intro args w v w' h
  unfold ap1 at h
  split at h
  · unfold F.strconv_numDigits at h
    split at h
    · split at h
      · rename_i hc
        cases h
        rename_i u
        obtain ⟨⟨h1, h2⟩, ht⟩ := hc
        obtain ⟨n, rfl⟩ : ∃ n : Nat, u = n := ⟨u.toNat, by omega⟩
        exact got_calls Tryd.func78 (by kernel_rfl) (by kernel_rfl) (Tryd.internal_strconv_numDigits n (by omega) (by omega) w ht)
      · cases h
    · cases h
  · cases h
open Classical in
/-- internal/strconv.small. -/
noncomputable def F.strconv_small (a0 : Value) : M Value := fun w => match a0 with
  | .int .i64 i => if 0 ≤ i ∧ i < 100 then some (.string ⟨(Lib.decDigits i.toNat).toArray⟩, w) else none
  | _ => none
theorem F.strconv_small.lift : LiftOk Tryd.prog 77 (ap1 F.strconv_small) := by
  intro args w v w' h
  unfold ap1 at h
  split at h
  · unfold F.strconv_small at h
    split at h
    · split at h
      · rename_i hc
        cases h
        rename_i i
        obtain ⟨n, rfl⟩ : ∃ n : Nat, i = n := ⟨i.toNat, by omega⟩
        exact got_calls Tryd.func77 (by kernel_rfl) (by kernel_rfl) (Tryd.internal_strconv_small n (by omega) w)
      · cases h
    · cases h
  · cases h
/-- strings.HasPrefix. -/
noncomputable def F.strings_HasPrefix (a0 a1 : Value) : M Value := fun w => match a0, a1 with
  | .string s, .string p => some (.bool (Lib.hasPrefix s.data.toList p.data.toList), w)
  | _, _ => none
theorem F.strings_HasPrefix.lift : LiftOk Tryd.prog 66 (ap2 F.strings_HasPrefix) := by
  intro args w v w' h
  unfold ap2 at h
  split at h
  · unfold F.strings_HasPrefix at h
    split at h
    · cases h
      exact got_calls Tryd.func66 (by kernel_rfl) (by kernel_rfl) (Tryd.strings_HasPrefix _ _ w)
    · cases h
  · cases h
/-- strings.HasSuffix. -/
noncomputable def F.strings_HasSuffix (a0 a1 : Value) : M Value := fun w => match a0, a1 with
  | .string s, .string p => if s.size ≤ 9223372036854775807 then some (.bool (Lib.hasSuffix s.data.toList p.data.toList), w) else none
  | _, _ => none
theorem F.strings_HasSuffix.lift : LiftOk Tryd.prog 69 (ap2 F.strings_HasSuffix) := by
  intro args w v w' h
  unfold ap2 at h
  split at h
  · unfold F.strings_HasSuffix at h
    split at h
    · split at h
      · rename_i hc
        cases h
        exact got_calls Tryd.func69 (by kernel_rfl) (by kernel_rfl) (Tryd.strings_HasSuffix _ _ w hc)
      · cases h
    · cases h
  · cases h
/-- strings.CutPrefix. -/
noncomputable def F.strings_CutPrefix (a0 a1 : Value) : M Value := fun w => match a0, a1 with
  | .string s, .string p => some (.tuple #[.string ⟨(Lib.trimPrefix s.data.toList p.data.toList).toArray⟩, .bool (Lib.hasPrefix s.data.toList p.data.toList)], w)
  | _, _ => none
theorem F.strings_CutPrefix.lift : LiftOk Tryd.prog 70 (ap2 F.strings_CutPrefix) := by
  intro args w v w' h
  unfold ap2 at h
  split at h
  · unfold F.strings_CutPrefix at h
    split at h
    · cases h
      exact got_calls Tryd.func70 (by kernel_rfl) (by kernel_rfl) (Tryd.strings_CutPrefix _ _ w)
    · cases h
  · cases h
/-- math/bits.Mul. -/
noncomputable def F.bits_Mul (a0 a1 : Value) : M Value := fun w => match a0, a1 with
  | .int .u64 x, .int .u64 y => if 0 ≤ x ∧ x < 18446744073709551616 ∧ 0 ≤ y ∧ y < 18446744073709551616 then some (.tuple #[.int .u64 ((x.toNat * y.toNat / 18446744073709551616 : Nat) : Int), .int .u64 ((x.toNat * y.toNat % 18446744073709551616 : Nat) : Int)], w) else none
  | _, _ => none
theorem F.bits_Mul.lift : LiftOk Tryd.prog 65 (ap2 F.bits_Mul) := by
  intro args w v w' h
  unfold ap2 at h
  split at h
  · unfold F.bits_Mul at h
    split at h
    · split at h
      · rename_i x y hc
        obtain ⟨n, rfl⟩ : ∃ n : Nat, x = n := ⟨x.toNat, by omega⟩
        obtain ⟨m, rfl⟩ : ∃ m : Nat, y = m := ⟨y.toNat, by omega⟩
        cases h
        exact got_calls Tryd.func65 (by kernel_rfl) (by kernel_rfl) (Tryd.bits_Mul n m (by omega) (by omega) w)
      · cases h
    · cases h
  · cases h
/-- internal/bytealg.IndexString: not come to. -/
noncomputable def F.bytealg_IndexString (a0 a1 : Value) : M Value := M.fail
theorem F.bytealg_IndexString.lift : LiftOk Tryd.prog 88 (ap2 F.bytealg_IndexString) := by
  intro args w v w' h
  unfold ap2 at h
  split at h
  · cases h
  · cases h

end Go.Proofs.YthlpfhjcdedhgaaDoor
