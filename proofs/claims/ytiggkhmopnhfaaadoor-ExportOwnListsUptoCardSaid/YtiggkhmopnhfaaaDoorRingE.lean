/-
  Layer 6 (ring), part E: Check.
-/
import Derived.Test.YtiggkhmopnhfaaaDoorRingD
namespace Go.Proofs.YtiggkhmopnhfaaaDoor
open Go.Lift
set_option linter.unusedSimpArgs false

def Clu.nums (C : Clu) : List Int := [C.replicas, C.width, C.chunks, C.retain, C.block, C.rate, C.per, C.burst, C.tries, C.base, C.most, C.quota, C.room, C.depot, C.resend, C.limit, C.patience, C.getwait, C.strikes, C.ban, C.home]
def lims : List (Int × Int) := [(1, 16), (1, 16), (1, 16), (1, 8), (1, 4096), (1, 65536), (1, 1024), (1, 65536), (1, 64), (1, 1024), (1, 1024), (1, 1073741824), (1, 1073741824), (1, 1073741824), (1, 1024), (1, 64), (1, 65536), (1, 1024), (1, 64), (1, 1024), (0, 7)]
def settingP (C : Clu) : Prop := ∀ (i : Nat) (l : Int × Int) (n : Int), lims[i]? = some l → C.nums[i]? = some n → l.1 ≤ n ∧ n ≤ l.2

theorem Clu.cells_num {C : Clu} {nv : Value} {i : Nat} {n : Int} (h : C.nums[i]? = some n) : (C.cells nv)[i + 1]? = some (.int .i64 n) := by
  have : C.cells nv = .string C.store :: (C.nums.map fun n => .int .i64 n) ++ [nv] := rfl
  rw [this]
  obtain ⟨hi, rfl⟩ := List.getElem?_eq_some_iff.1 h
  rw [List.cons_append, List.getElem?_cons_succ, List.getElem?_append_left (by simpa using hi)]
  simp [hi]

/-- One setting. -/
def IsSetting (i : Nat) (l : Int × Int) (e : List Value) : Prop :=
  ∃ word f, e = [.string word, .int .i64 l.1, .int .i64 l.2, f] ∧ isCell f = true ∧ ∀ b, callV F.clos f [.pointer (some ⟨b, 0, none⟩)] = M.ret (.pointer (some ⟨b, i + 1, none⟩))
set_option maxHeartbeats 2000000 in
theorem settings_run (w : World) : Run F.ring_settings w fun r w' => Fr (fun _ => False) w w' ∧ ∃ els, els.length = 21 ∧ Sl 4 w' r els ∧ ∀ i l, lims[i]? = some l → ∃ e, els[i]? = some e ∧ IsSetting i l e := by
  unfold F.ring_settings
  simp [buildV, fillV, Value.cells]
  refine Run_bsl (k := 4) (vs := [_, _, _, _, _, _, _, _, _, _, _, _, _, _, _, _, _, _, _, _, _]) rfl ?_ rfl (by simp [Builtin.zeroCells]) fun r w' hr fr _ => ⟨fr, _, rfl, hr.1, ?_⟩
  · simp [Value.cells]
  · intro i l1 l2 hi
    have hlt := (List.getElem?_eq_some_iff.1 hi).1
    simp only [lims, List.length_cons, List.length_nil] at hlt
    match i, hlt with
    | 0, _ | 1, _ | 2, _ | 3, _ | 4, _ | 5, _ | 6, _ | 7, _ | 8, _ | 9, _ | 10, _ | 11, _ | 12, _ | 13, _ | 14, _ | 15, _ | 16, _ | 17, _ | 18, _ | 19, _ | 20, _ => cases hi; exact ⟨_, rfl, _, _, rfl, rfl, fun b => rfl⟩
end Go.Proofs.YtiggkhmopnhfaaaDoor
