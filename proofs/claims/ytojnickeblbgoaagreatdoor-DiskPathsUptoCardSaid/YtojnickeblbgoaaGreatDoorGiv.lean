/-
  What the library's functions that the lift does not read come to: off the shelf's contracts.
-/
import Derived.Test.YtojnickeblbgoaaGreatDoorLiftH
import Derived.Test.YtojnickeblbgoaaGreatDoorShelf
namespace Go.Proofs.YtojnickeblbgoaaGreatDoor
open Go.Lift

theorem got_calls {P : Program} {f : FuncId} {fn : Func} (hf : P.funcs[f]? = some fn) (hb : fn.body.isSome = true) (hname : (fn.name == "runtime.NumGoroutine") = false) {args : Array Value} {w w' : World} {v : Value}
    (h : Calls P f args w fun e w'' => e = .returned v ∧ w'' = w') : Got P (callFunc f args) w v w' := by
  refine .inr (.inr ⟨f, args, w, ?_, h⟩)
  obtain ⟨c, hc⟩ := Option.isSome_iff_exists.1 hb
  simp [callFunc, hf, show fn.name ≠ "runtime.NumGoroutine" by simpa using hname, hc]

/-- strings.Count, of one byte. -/
noncomputable def F.strings_Count (a0 a1 : Value) : M Value := fun w => match a0, a1 with
  | .string s, .string ⟨⟨[c]⟩⟩ => some (.int .i64 (Lib.countByte s.data.toList c), w)
  | _, _ => none
theorem F.strings_Count.lift : LiftOk Tryz.prog 110 (ap2 F.strings_Count) := by
  intro args w v w' h
  unfold ap2 at h
  split at h
  · unfold F.strings_Count at h
    split at h
    · cases h
      exact got_calls Tryz.func110 (by kernel_rfl) (by kernel_rfl) (Tryz.strings_Count_one _ _ w)
    · cases h
  · cases h
open Classical in
/-- strings.Split. -/
noncomputable def F.strings_Split (a0 a1 : Value) : M Value := fun w => match a0, a1 with
  | .string s, .string sep => if s.size < 4294967281 ∧ 1 ≤ sep.size ∧ ∃ m : Int, w.cell? ⟨0, 0, none⟩ = some (.int .i64 m) then some (.slice (some ⟨w.heap.size, 0, none⟩) (Lib.countB s sep + 1) (Lib.countB s sep + 1), w.alloc (.cells ((Lib.splitB sep 0 (Lib.countB s sep) s).map Value.string).toArray 9)) else none
  | _, _ => none
theorem F.strings_Split.lift : LiftOk Tryz.prog 111 (ap2 F.strings_Split) := by
  intro args w v w' h
  unfold ap2 at h
  split at h
  · unfold F.strings_Split at h
    split at h
    · rename_i s sep
      split at h
      · rename_i hc
        obtain ⟨h1, h2, m, h3⟩ := hc
        cases h
        exact got_calls Tryz.func111 (by kernel_rfl) (by kernel_rfl) (Tryz.strings_Split _ _ m w h1 h3 h2)
      · cases h
    · cases h
  · cases h
/-- (*strings.Builder).copyCheck. -/
noncomputable def F.strings_Builder_copyCheck (a0 : Value) : M Value := fun w => match a0 with
  | .pointer (some ⟨b, 0, none⟩) => match w.cell? ⟨b, 0, none⟩ with
    | some (.pointer (some ⟨b', 0, none⟩)) => if b' = b then some (.tuple #[], w) else none
    | some (.pointer none) => if w.shape? b = some (127, 2) ∧ w.frozen? ⟨b, 0, none⟩ = false then some (.tuple #[], w.setCell ⟨b, 0, none⟩ (.pointer (some ⟨b, 0, none⟩))) else none
    | _ => none
  | _ => none
theorem F.strings_Builder_copyCheck.lift : LiftOk Tryz.prog 108 (ap1 F.strings_Builder_copyCheck) := by
  intro args w v w' h
  unfold ap1 at h
  split at h
  · unfold F.strings_Builder_copyCheck at h
    split at h
    · rename_i b
      split at h
      · rename_i b' hc
        split at h
        · rename_i he
          subst he
          cases h
          exact got_calls Tryz.func108 (by kernel_rfl) (by kernel_rfl) (Any.Builder_copyCheck_used { Tryz.lays156 with } Tryz.Builder_Extra_156.toX72 _ w hc)
        · cases h
      · rename_i hc
        split at h
        · rename_i he
          cases h
          exact got_calls Tryz.func108 (by kernel_rfl) (by kernel_rfl) (Any.Builder_copyCheck_fresh { Tryz.lays156 with } Tryz.Builder_Extra_156.toX72 _ w hc he.1 he.2)
        · cases h
      · cases h
    · cases h
  · cases h
/-- internal/bytealg.MakeNoZero. -/
noncomputable def F.bytealg_MakeNoZero (a0 : Value) : M Value := fun w => match (Extern.BytealgMakeNoZero.makeNoZero #[3] #[125] #[a0]).run Tryz.prog w with
  | .ok v w' => some (v, w')
  | _ => none
theorem F.bytealg_MakeNoZero.lift : LiftOk Tryz.prog 139 (ap1 F.bytealg_MakeNoZero) := by
  intro args w v w' h
  unfold ap1 at h
  split at h
  · unfold F.bytealg_MakeNoZero at h
    split at h
    · rename_i v0 w1 hr
      cases h
      refine .inl ?_
      rw [run_callFunc_extern Tryz.func139 (by kernel_rfl) (by kernel_rfl) (by kernel_rfl) (e := Extern.BytealgMakeNoZero.makeNoZero #[3] #[125]) (by kernel_rfl), hr]
      rfl
    · cases h
  · cases h
/-- strings.Compare. -/
noncomputable def F.strings_Compare (a0 a1 : Value) : M Value := fun w => match a0, a1 with
  | .string a, .string b => some (.int .i64 (Lib.compareBytes a.data.toList b.data.toList), w)
  | _, _ => none
theorem F.strings_Compare.lift : LiftOk Tryz.prog 75 (ap2 F.strings_Compare) := by
  intro args w v w' h
  unfold ap2 at h
  split at h
  · unfold F.strings_Compare at h
    split at h
    · cases h
      exact got_calls Tryz.func75 (by kernel_rfl) (by kernel_rfl) (Tryz.strings_Compare _ _ w)
    · cases h
  · cases h
/-- math/bits.Len. -/
noncomputable def F.bits_Len (a0 : Value) : M Value := fun w => match a0 with
  | .int .u64 x => if 0 ≤ x ∧ x ≤ 18446744073709551615 then some (.int .i64 (Lib.bitLen x.toNat), w) else none
  | _ => none
theorem F.bits_Len.lift : LiftOk Tryz.prog 105 (ap1 F.bits_Len) := by
  intro args w v w' h
  unfold ap1 at h
  split at h
  · unfold F.bits_Len at h
    split at h
    · split at h
      · rename_i hx
        cases h
        exact got_calls Tryz.func105 (by kernel_rfl) (by kernel_rfl) (Tryz.bits_Len _ w hx.1 hx.2)
      · cases h
    · cases h
  · cases h

end Go.Proofs.YtojnickeblbgoaaGreatDoor
