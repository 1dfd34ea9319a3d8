/-
  What the library's functions that the lift does not read come to: off the shelf's contracts.
-/
import Derived.Test.YtojnickeblbgoaaDoorLiftH
import Derived.Test.YtojnickeblbgoaaDoorShelf
namespace Go.Proofs.YtojnickeblbgoaaDoor
open Go.Lift

theorem got_calls {P : Program} {f : FuncId} {fn : Func} (hf : P.funcs[f]? = some fn) (hb : fn.body.isSome = true) (hname : (fn.name == "runtime.NumGoroutine") = false) {args : Array Value} {w w' : World} {v : Value}
    (h : Calls P f args w fun e w'' => e = .returned v ∧ w'' = w') : Got P (callFunc f args) w v w' := by
  refine .inr (.inr ⟨f, args, w, ?_, h⟩)
  obtain ⟨c, hc⟩ := Option.isSome_iff_exists.1 hb
  simp [callFunc, hf, show fn.name ≠ "runtime.NumGoroutine" by simpa using hname, hc]

/-- strings.Count, of one byte. -/
noncomputable def F.strings_Count (a0 a1 : Value) : M Value := fun w => match a0, a1 with
  | .string s, .string ⟨⟨[c]⟩⟩ => some (.int .i64 (Lib.countByte s.data.toList c), w)
  | _, _ => none
theorem F.strings_Count.lift : LiftOk Tryd.prog 53 (ap2 F.strings_Count) := by
  intro args w v w' h
  unfold ap2 at h
  split at h
  · unfold F.strings_Count at h
    split at h
    · cases h
      exact got_calls Tryd.func53 (by kernel_rfl) (by kernel_rfl) (Tryd.strings_Count_one _ _ w)
    · cases h
  · cases h
open Classical in
/-- strings.Split. -/
noncomputable def F.strings_Split (a0 a1 : Value) : M Value := fun w => match a0, a1 with
  | .string s, .string sep => if s.size < 4294967281 ∧ 1 ≤ sep.size ∧ ∃ m : Int, w.cell? ⟨0, 0, none⟩ = some (.int .i64 m) then some (.slice (some ⟨w.heap.size, 0, none⟩) (Lib.countB s sep + 1) (Lib.countB s sep + 1), w.alloc (.cells ((Lib.splitB sep 0 (Lib.countB s sep) s).map Value.string).toArray 9)) else none
  | _, _ => none
theorem F.strings_Split.lift : LiftOk Tryd.prog 54 (ap2 F.strings_Split) := by
  intro args w v w' h
  unfold ap2 at h
  split at h
  · unfold F.strings_Split at h
    split at h
    · rename_i s sep
      split at h
      · rename_i hc
        obtain ⟨h1, h2, m, h3⟩ := hc
        cases h
        exact got_calls Tryd.func54 (by kernel_rfl) (by kernel_rfl) (Tryd.strings_Split _ _ m w h1 h3 h2)
      · cases h
    · cases h
  · cases h
/-- strings.Join, of one text or none. -/
noncomputable def F.strings_Join (a0 a1 : Value) : M Value := fun w => match a0, a1 with
  | .slice _ 0 _, .string _ => some (.string ⟨#[]⟩, w)
  | .slice (some ⟨b, o, none⟩) 1 _, .string _ => match w.cell? ⟨b, o, none⟩ with
    | some (.string x) => some (.string x, w)
    | _ => none
  | _, _ => none
theorem F.strings_Join.lift : LiftOk Tryd.prog 56 (ap2 F.strings_Join) := by
  intro args w v w' h
  unfold ap2 at h
  split at h
  · unfold F.strings_Join at h
    split at h
    · cases h
      exact got_calls Tryd.func56 (by kernel_rfl) (by kernel_rfl) (Tryd.strings_Join_none _ _ _ w)
    · split at h
      · rename_i hx
        cases h
        exact got_calls Tryd.func56 (by kernel_rfl) (by kernel_rfl) (Any.strings_Join_one Tryd.lays156 Tryd.Builder_Extra_156 _ _ _ _ _ w hx)
      · cases h
    · cases h
  · cases h
/-- strings.Compare. -/
noncomputable def F.strings_Compare (a0 a1 : Value) : M Value := fun w => match a0, a1 with
  | .string a, .string b => some (.int .i64 (Lib.compareBytes a.data.toList b.data.toList), w)
  | _, _ => none
theorem F.strings_Compare.lift : LiftOk Tryd.prog 45 (ap2 F.strings_Compare) := by
  intro args w v w' h
  unfold ap2 at h
  split at h
  · unfold F.strings_Compare at h
    split at h
    · cases h
      exact got_calls Tryd.func45 (by kernel_rfl) (by kernel_rfl) (Tryd.strings_Compare _ _ w)
    · cases h
  · cases h

end Go.Proofs.YtojnickeblbgoaaDoor
