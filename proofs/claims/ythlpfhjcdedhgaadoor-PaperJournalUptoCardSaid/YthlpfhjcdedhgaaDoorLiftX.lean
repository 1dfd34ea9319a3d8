/-
  THE LIFT, part X: functions that call themselves: a form a depth, and the one that some depth comes to; what a call comes to is one thing alone.
-/
import Derived.Test.YthlpfhjcdedhgaaDoorLiftR
namespace Go.Lift

theorem runN_ended {P : Program} {m m1 : Machine} {n : Nat} {o : Outcome} {w : World} (h : runN P n m = .next m1) (he : step P m1 = .ended o w) : runN P (n + 1) m = .ended o w := by
  rw [runN_add, h]
  simp [runN, he]
theorem ended_lt {P : Program} {m m1 m2 : Machine} {a b : Nat} {o : Outcome} {w : World} (h : runN P a m = .next m1) (he : step P m1 = .ended o w) (h' : runN P b m = .next m2) : b ≤ a := by
  refine Nat.not_lt.1 fun hlt => ?_
  obtain ⟨c, rfl⟩ : ∃ c, b = (a + 1) + c := ⟨b - (a + 1), by omega⟩
  rw [runN_add, runN_ended h he] at h'
  cases h'
theorem calls_unique {P : Program} {f : FuncId} {args : Array Value} {w w1 w2 : World} {v1 v2 : Value} (h1 : Calls P f args w fun e w'' => e = .returned v1 ∧ w'' = w1)
    (h2 : Calls P f args w fun e w'' => e = .returned v2 ∧ w'' = w2) (hi : P.inits.idxOf? f = none) : v1 = v2 ∧ w1 = w2 := by
  obtain ⟨e, w', fr, ⟨rfl, rfl⟩, ⟨a, ha⟩, hf, hl⟩ := h1 []
  obtain ⟨e', w'', fr', ⟨rfl, rfl⟩, ⟨b, hb⟩, hf', hl'⟩ := h2 []
  have d := step_leave_done hl (by rw [hf]; exact hi)
  have d' := step_leave_done hl' (by rw [hf']; exact hi)
  have hab : a = b := Nat.le_antisymm (ended_lt hb d' ha) (ended_lt ha d hb)
  subst hab
  rw [ha] at hb
  have hm := Stepped.next.inj hb
  rw [hm] at d
  rw [d] at d'
  simp only [Stepped.ended.injEq, Outcome.done.injEq] at d'
  exact ⟨d'.1, d'.2⟩
/-- A function of the program's own, that is none of the initialisers. -/
structure Own (P : Program) (f : FuncId) : Prop where
  fn : ∃ fn, P.funcs[f]? = some fn ∧ fn.body.isSome = true ∧ (fn.name == "runtime.NumGoroutine") = false
  init : P.inits.idxOf? f = none
theorem got_own {P : Program} {f : FuncId} (h : Own P f) {args : Array Value} {w w' : World} {v : Value} (g : Got P (callFunc f args) w v w') : Calls P f args w fun e w'' => e = .returned v ∧ w'' = w' := by
  obtain ⟨⟨fn, hf, hb, hname⟩, _⟩ := h
  obtain ⟨c, hc⟩ := Option.isSome_iff_exists.1 hb
  have hr : (callFunc f args).run P w = .ok (.enter f args) w := by
    simp [callFunc, hf, show fn.name ≠ "runtime.NumGoroutine" by simpa using hname, hc]
  rcases g with g | ⟨_, g⟩ | ⟨f', args', w1, g, hcalls⟩
  · rw [hr] at g; cases g
  · rw [hr] at g; cases g
  · rw [hr] at g; cases g; exact hcalls
theorem own_unique {P : Program} {f : FuncId} (h : Own P f) {args : Array Value} {w w1 w2 : World} {v1 v2 : Value} (g1 : Got P (callFunc f args) w v1 w1) (g2 : Got P (callFunc f args) w v2 w2) : v1 = v2 ∧ w1 = w2 :=
  calls_unique (got_own h g1) (got_own h g2) h.init
open Classical in
/-- What some depth comes to. -/
noncomputable def recL (it : Nat → List Value → M Value) : List Value → M Value := fun args w =>
  if h : ∃ r, ∃ n, it n args w = some r then some (Classical.choose h) else none
theorem recL_some {it : Nat → List Value → M Value} {args : List Value} {w : World} {r : Value × World} (h : recL it args w = some r) : ∃ n, it n args w = some r := by
  unfold recL at h
  split at h
  · rename_i hh
    obtain ⟨n, hn⟩ := Classical.choose_spec hh
    cases h
    exact ⟨n, hn⟩
  · cases h
theorem recL_lift {P : Program} {f : FuncId} {it : Nat → List Value → M Value} (h : ∀ n, LiftOk P f (it n)) : LiftOk P f (recL it) := by
  intro args w v w' e
  obtain ⟨n, hn⟩ := recL_some e
  exact h n args w v w' hn
theorem recL_run {P : Program} {f : FuncId} {it : Nat → List Value → M Value} (h : ∀ n, LiftOk P f (it n)) (ho : Own P f) {args : List Value} {w : World} {Q : Value → World → Prop} {n : Nat} (hr : Run (it n args) w Q) : Run (recL it args) w Q := by
  obtain ⟨v, w', e, q⟩ := hr
  have hh : ∃ r, ∃ n, it n args w = some r := ⟨(v, w'), n, e⟩
  have e2 : recL it args w = some (Classical.choose hh) := by unfold recL; rw [dif_pos hh]
  obtain ⟨k, hk⟩ := recL_some e2
  obtain ⟨h1, h2⟩ := own_unique ho (h n args w v w' e) (h k args w _ _ hk)
  refine ⟨v, w', ?_, q⟩
  rw [e2]
  have : Classical.choose hh = (v, w') := Prod.ext h1.symm h2.symm
  rw [this]
theorem lift_fail {P : Program} {f : FuncId} {g : List Value → M Value} (h : ∀ args, g args = M.fail) : LiftOk P f g := by
  intro args w v w' e
  rw [h] at e
  cases e
end Go.Lift
