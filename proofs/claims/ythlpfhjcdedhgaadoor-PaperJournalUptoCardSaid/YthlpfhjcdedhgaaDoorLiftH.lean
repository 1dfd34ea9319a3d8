/-
  THE LIFT, part H: the code of a function over an environment; a function of the model comes to what its functional form comes to.
-/
import Derived.Test.YthlpfhjcdedhgaaDoorLiftI
namespace Go.Lift
set_option linter.unusedSimpArgs false

/-- How a function's code is read: which slots stand behind a loop, or behind a branch that goes on. -/
inductive Plan where
  | leaf
  | alts (ws asg : List Nat) (orders : List (List Nat))
  | seq (a b : Plan)
  | fork (ws asg ids : List Nat) (a b : Plan)
  | cond (a b : Plan)
  | body (b : Plan)
  | loop (ws asg ids : List Nat) (b : Plan)

def slots (ρ : Env) : List Nat → Option (List Value)
  | [] => some []
  | t :: r => match ρ t with
    | some v => match slots ρ r with
      | some l => some (v :: l)
      | none => none
    | none => none
def enter (ρ : Env) (l : List Value) : List Nat → Nat → Env
  | [], _ => ρ
  | w :: ws, i => enter (upd ρ w (getL l i)) l ws (i + 1)
def forget (asg : List Nat) (ρ : Env) : Env := fun t => bif asg.any (Nat.beq t) then none else ρ t
def asgIn (asg : List Nat) : Code → Bool
  | .region _ ops _ => ops.toList.all fun o => match o.dst with
    | some d => asg.any (Nat.beq d)
    | none => true
  | .seq a b => asgIn asg a && asgIn asg b
  | .cond _ a b => asgIn asg a && asgIn asg b
  | .block _ b => asgIn asg b
  | .loop b => asgIn asg b
  | .scope b => asgIn asg b
  | .rangeFunc .. => false
  | _ => true
def outN (ws : List Nat) (ρ : Env) : M Out := match slots ρ ws with
  | some l => M.ret (.norm l)
  | none => M.fail
def outX (ws : List Nat) (id : Nat) (ρ : Env) : M Out := match slots ρ ws with
  | some l => M.ret (.exit id l)
  | none => M.fail
def outK {β : Type} (o : Out) (kn : List Value → M β) (kx : Nat → List Value → M β) (kv : Value → M β) : M β := match o with
  | .norm l => kn l
  | .exit id l => kx id l
  | .ret v => kv v
def selX {β : Type} (id : Nat) (k : Nat → M β) : List Nat → M β
  | [] => M.fail
  | i :: r => bif Nat.beq id i then k i else selX id k r
def packV : List Value → Value
  | [v] => v
  | l => .tuple l.toArray
def resK {β : Type} (P : Program) (ρ : Env) : List ResultVar → (List Value → M β) → M β
  | [], k => k []
  | .tmp t :: r, k => match ρ t with
    | some v => resK P ρ r fun l => k (v :: l)
    | none => M.fail
  | .cell a t :: r, k => match ρ a, aggOf P t with
    | some p, some g => M.bind (rdM (ldT g p)) fun v => resK P ρ r fun l => k (v :: l)
    | _, _ => M.fail

/-- The order of a region's steps that is drawn. -/
def ordO (P : Program) (ops : Array Oper) (f id : Nat) : World → List Nat := fun w => (Region.schedule true ops (w.tape w.drawn (.order f id))).filter (actAt ops (isActO P))
def altM {β : Type} (σ : World → List Nat) : List (List Nat × M β) → M β
  | [] => M.fail
  | [x] => drewM x.2
  | x :: y :: r => fun w => if σ w = x.1 then drewM x.2 w else altM σ (y :: r) w
def actsOf (P : Program) (ops : Array Oper) : List Nat := (List.range ops.size).filter (actAt ops (isActO P))
def eqL : List Nat → List Nat → Bool
  | [], [] => true
  | a :: r, b :: s => Nat.beq a b && eqL r s
  | _, _ => false
def altsOK (P : Program) (ops : Array Oper) (orders : List (List Nat)) : Bool :=
  edgesOK ops && guardsOK ops && P.follows .mixedOrders && (orders.all fun π => permOK ops.size π) &&
  ((exts (masks ops) (actsOf P ops).length (actsOf P ops)).all fun s => orders.any fun π => eqL (π.filter (actAt ops (isActO P))) s)
def slotsM (ws : List Nat) (ρ : Env) : M (List Value) := match slots ρ ws with
  | some l => M.ret l
  | none => M.fail
noncomputable def altList (P : Program) (T Tc : Tab) (n : Nat) (ops : Array Oper) (ρ : Env) (ws : List Nat) : List (List Nat) → List (List Nat × M (List Value))
  | [] => []
  | π :: r => (π.filter (actAt ops (isActO P)), evCore P T Tc n (permOps ops (isActO P) π) ρ (slotsM ws)) :: altList P T Tc n ops ρ ws r
def regIn (id : Nat) : Code → Option (Array Oper)
  | .region i ops _ => bif Nat.beq i id then some ops else none
  | .seq a b => match regIn id a with
    | some x => some x
    | none => regIn id b
  | .cond _ a b => match regIn id a with
    | some x => some x
    | none => regIn id b
  | .block _ b => regIn id b
  | .loop b => regIn id b
  | .scope b => regIn id b
  | _ => none
def regOps (fn : Func) (id : Nat) : Array Oper := match fn.body with
  | some c => match regIn id c with
    | some x => x
    | none => #[]
  | none => #[]

noncomputable def evK (P : Program) (T Tc : Tab) (f : FuncId) (fn : Func) : Code → Plan → (β : Type) → Env → (Env → M β) → (Nat → Env → M β) → (Value → M β) → M β
  | .skip, _, _, ρ, kn, _, _ => kn ρ
  | .label _, _, _, ρ, kn, _, _ => kn ρ
  | .region id ops draw, .alts ws asg orders, _, ρ, kn, _, _ => bif draw && altsOK P ops orders && asgIn asg (.region id ops draw) then
      M.bind (altM (ordO P ops f id) (altList P T Tc fn.ntmps ops ρ ws orders)) fun l => kn (enter (forget asg ρ) l ws 0) else M.fail
  | .region _ ops draw, _, _, ρ, kn, _, _ => bif draw then evDraw P T Tc fn.ntmps ops ρ kn else evOps P T Tc fn.ntmps ops false ops.toList ρ kn
  | .seq a b, .seq pa pb, β, ρ, kn, kx, kv => evK P T Tc f fn a pa β ρ (fun ρ' => evK P T Tc f fn b pb β ρ' kn kx kv) kx kv
  | .seq a b, .fork ws asg ids pa pb, β, ρ, kn, kx, kv => bif asgIn asg a then
      M.bind (evK P T Tc f fn a pa Out ρ (outN ws) (outX ws) (fun v => M.ret (.ret v))) fun o =>
        outK o (fun l => evK P T Tc f fn b pb β (enter (forget asg ρ) l ws 0) kn kx kv) (fun id l => selX id (fun i => kx i (enter (forget asg ρ) l ws 0)) ids) kv else M.fail
  | .cond c a b, .cond pa pb, β, ρ, kn, kx, kv => match ev ρ c with
    | some v => condM v (evK P T Tc f fn a pa β ρ kn kx kv) (evK P T Tc f fn b pb β ρ kn kx kv)
    | none => M.fail
  | .block id b, .body pb, β, ρ, kn, kx, kv => evK P T Tc f fn b pb β ρ kn (fun id' ρ' => bif Nat.beq id' id then kn ρ' else kx id' ρ') kv
  | .scope b, .body pb, β, ρ, kn, kx, kv => evK P T Tc f fn b pb β ρ kn kx kv
  | .exit id, _, _, ρ, _, kx, _ => kx id ρ
  | .ret, _, _, ρ, _, _, kv => resK P ρ fn.results.toList fun l => kv (packV l)
  | .loop b, .loop ws asg ids pb, _, ρ, _, kx, kv => bif asgIn asg b then (match slots ρ ws with
    | some l0 => M.bind (loopM (fun l => evK P T Tc f fn b pb Out (enter (forget asg ρ) l ws 0) (outN ws) (outX ws) (fun v => M.ret (.ret v))) l0) fun o =>
        outK o (fun _ => M.fail) (fun id l => selX id (fun i => kx i (enter (forget asg ρ) l ws 0)) ids) kv
    | none => M.fail) else M.fail
  | _, _, _, _, _, _, _ => M.fail

def nthV : List Value → Nat → Option Value
  | [], _ => none
  | v :: _, 0 => some v
  | _ :: r, i + 1 => nthV r i
noncomputable def evFn (P : Program) (T Tc : Tab) (f : FuncId) (fn : Func) (plan : Plan) (args : List Value) : M Value := match fn.body with
  | some c => bif Nat.ble args.length fn.ntmps then evK P T Tc f fn c plan Value (nthV args) (fun ρ => resK P ρ fn.results.toList fun l => M.ret (packV l)) (fun _ _ => M.fail) M.ret else M.fail
  | none => M.fail

section
variable {P : Program} {T Tc : Tab} {fn : Func}

def Keeps (c : Code) (a a' : Act) : Prop := ∀ asg, asgIn asg c = true → ∀ t, asg.any (Nat.beq t) = false → a'.tmps[t]? = a.tmps[t]?
theorem Keeps.refl (c : Code) (a : Act) : Keeps c a a := fun _ _ _ _ => rfl
theorem Keeps.region {id : Nat} {ops : Array Oper} {d : Bool} {a a' : Act} (h : KeepsR ops.toList a a') : Keeps (.region id ops d) a a' := by
  intro asg ha t ht
  refine h t fun o ho hd => ?_
  simp only [asgIn, List.all_eq_true] at ha
  have := ha o ho
  simp only [hd] at this
  rw [this] at ht; cases ht

theorem slots_at {ρ : Env} : ∀ {ws : List Nat} {l : List Value}, slots ρ ws = some l → ∀ j t, ws[j]? = some t → ρ t = some (getL l j)
  | [], l, h, j, t, ht => by simp at ht
  | w :: ws, l, h, j, t, ht => by
    simp only [slots] at h
    split at h
    · rename_i v hv
      split at h
      · rename_i l' hl'
        cases h
        cases j with
        | zero => simp at ht; subst ht; simpa [getL] using hv
        | succ j => simp at ht; simpa [getL] using slots_at hl' j t ht
      · cases h
    · cases h
theorem enter_or {ρ' : Env} {l : List Value} : ∀ (ws : List Nat) (ρ : Env) (i : Nat), (∀ j t, ws[j]? = some t → ρ' t = some (getL l (i + j))) → ∀ t v, enter ρ l ws i t = some v → ρ' t = some v ∨ ρ t = some v
  | [], ρ, i, _, t, v, h => .inr h
  | w :: ws, ρ, i, hw, t, v, h => by
    have := enter_or ws (upd ρ w (getL l i)) (i + 1) (fun j t' ht' => by have := hw (j + 1) t' (by simpa using ht'); rwa [show i + (j + 1) = i + 1 + j by omega] at this) t v h
    rcases this with h | h
    · exact .inl h
    · simp only [upd] at h
      cases hb : Nat.beq t w with
      | true =>
        simp only [hb, cond_true, Option.some.injEq] at h
        have e := Nat.eq_of_beq_eq_true hb
        rw [e, ← h]
        exact .inl (hw 0 w (by simp))
      | false =>
        simp only [hb, cond_false] at h
        exact .inr h
theorem enter_slots {ρ' ρ : Env} {l : List Value} {ws : List Nat} (h : slots ρ' ws = some l) {t : Nat} {v : Value} (hv : enter ρ l ws 0 t = some v) : ρ' t = some v ∨ ρ t = some v :=
  enter_or ws ρ 0 (fun j t ht => by rw [Nat.zero_add]; exact slots_at h j t ht) t v hv

/-- Behind a piece of code: the slots that stand, and those that it does not write. -/
theorem Agree.enter {n : Nat} {a a' : Act} {ρ ρ' : Env} {c : Code} {asg ws : List Nat} {l : List Value} (h0 : ∀ t v, forget asg ρ t = some v → a.tmps[t]? = some v) (h : Agree n a' ρ') (hk : Keeps c a a') (ha : asgIn asg c = true) (hs : slots ρ' ws = some l) :
    Agree n a' (enter (forget asg ρ) l ws 0) := by
  refine ⟨h.defers, h.size, fun t v ht => ?_⟩
  rcases enter_slots hs ht with h1 | h1
  · exact h.at_ t v h1
  · have h2 := h0 t v h1
    unfold forget at h1
    cases hb : asg.any (Nat.beq t) with
    | true => simp [hb] at h1
    | false => rw [hk asg ha t hb]; exact h2

theorem outN_some {ws : List Nat} {ρ : Env} {w w' : World} {o : Out} (h : outN ws ρ w = some (o, w')) : ∃ l, slots ρ ws = some l ∧ o = .norm l ∧ w' = w := by
  unfold outN at h
  cases hl : slots ρ ws with
  | none => simp [hl, M.fail] at h
  | some l => simp only [hl, M.ret, Option.some.injEq, Prod.mk.injEq] at h; exact ⟨l, rfl, h.1.symm, h.2.symm⟩
theorem outX_some {ws : List Nat} {id : Nat} {ρ : Env} {w w' : World} {o : Out} (h : outX ws id ρ w = some (o, w')) : ∃ l, slots ρ ws = some l ∧ o = .exit id l ∧ w' = w := by
  unfold outX at h
  cases hl : slots ρ ws with
  | none => simp [hl, M.fail] at h
  | some l => simp only [hl, M.ret, Option.some.injEq, Prod.mk.injEq] at h; exact ⟨l, rfl, h.1.symm, h.2.symm⟩

def readR (tmps : Array Value) : ResultVar → Sem Value
  | .tmp t => pure (tmps.getD t undef)
  | .cell x t => do loadVar t (← asAddr (tmps.getD x undef))

theorem resK_some {n : Nat} {β : Type} {a : Act} {ρ : Env} (hA : Agree n a ρ) : ∀ {rs : List ResultVar} {k : List Value → M β} {w : World} {r : β × World}, resK P ρ rs k w = some r →
    ∃ l, (rs.mapM (readR a.tmps)).run P w = .ok l w ∧ k l w = some r
  | [], k, w, r, h => ⟨[], by simp, h⟩
  | .tmp t :: rs, k, w, r, h => by
    simp only [resK] at h
    cases hv : ρ t with
    | none => simp [hv, M.fail] at h
    | some v =>
      simp only [hv] at h
      obtain ⟨l, h1, h2⟩ := resK_some hA h
      refine ⟨v :: l, ?_, h2⟩
      have : a.tmps.getD t undef = v := by simp [hA.at_ t v hv]
      simp only [List.mapM_cons, Sem.run_bind, readR, this, Sem.run_pure, Result.andThen_ok, h1]
  | .cell x t :: rs, k, w, r, h => by
    simp only [resK] at h
    cases hv : ρ x with
    | none => simp [hv, M.fail] at h
    | some p =>
      cases hg : aggOf P t with
      | none => simp [hv, hg, M.fail] at h
      | some g =>
        simp only [hv, hg] at h
        obtain ⟨v, w', hm, hk⟩ := bind_some h
        unfold rdM at hm
        split at hm
        case h_2 => cases hm
        rename_i u hu
        cases hm
        obtain ⟨l, h1, h2⟩ := resK_some hA hk
        refine ⟨v :: l, ?_, h2⟩
        have e : a.tmps.getD x undef = p := by simp [hA.at_ x p hv]
        have hl := run_loadAt (P := P) hg hu
        have hp : ∃ ad, p = .pointer (some ad) := by
          cases g <;> simp only [ldT, ld1, ldA] at hu <;> split at hu <;> first | exact ⟨_, rfl⟩ | cases hu
        obtain ⟨ad, rfl⟩ := hp
        have hl' : (loadVar t ad).run P w = .ok v w := by simpa [Instr.loadAt, Instr.sureAddr] using hl
        simp only [List.mapM_cons, Sem.run_bind, readR, e, asAddr, Sem.run_pure, Result.andThen_ok, hl', h1]

theorem results_resK {n : Nat} {β : Type} {a : Act} {ρ : Env} (hA : Agree n a ρ) {k : Value → M β} {w : World} {r : β × World} (h : resK P ρ fn.results.toList (fun l => k (packV l)) w = some r) :
    ∃ v, (results fn a.tmps).run P w = .ok v w ∧ k v w = some r := by
  obtain ⟨l, h1, h2⟩ := resK_some hA h
  refine ⟨packV l, ?_, h2⟩
  have e : results fn a.tmps = (do let vs ← fn.results.mapM (readR a.tmps); pure (if h : vs.size = 1 then vs[0] else .tuple vs)) := by
    unfold results
    congr 1
  rw [e, Sem.run_bind, Array.mapM_eq_mapM_toList, Sem.run_map, h1]
  simp only [Result.andThen_ok, Sem.run_pure]
  congr 1
  match l with
  | [] => rfl
  | [v] => rfl
  | a :: b :: r => simp [packV]

theorem iterM_mono {step : List Value → M Out} : ∀ {n m : Nat} {l : List Value} {w : World} {r : Out × World}, iterM step n l w = some r → n ≤ m → iterM step m l w = some r
  | 0, m, l, w, r, h, _ => by cases h
  | n + 1, m, l, w, r, h, hm => by
    obtain ⟨m, rfl⟩ : ∃ k, m = k + 1 := ⟨m - 1, by omega⟩
    simp only [iterM] at h ⊢
    obtain ⟨o, w', h1, h2⟩ := bind_some h
    unfold M.bind
    rw [h1]
    cases o with
    | norm l' => exact iterM_mono h2 (by omega)
    | exit id l' => exact h2
    | ret v => exact h2
theorem loopM_some {step : List Value → M Out} {l : List Value} {w : World} {r : Out × World} : loopM step l w = some r ↔ ∃ n, iterM step n l w = some r := by
  unfold loopM
  constructor
  · intro h
    split at h
    · rename_i hh
      obtain ⟨n, hn⟩ := Classical.choose_spec hh
      cases h
      exact ⟨n, hn⟩
    · cases h
  · rintro ⟨n, hn⟩
    have hh : ∃ r n, iterM step n l w = some r := ⟨r, n, hn⟩
    rw [dif_pos hh]
    obtain ⟨m, hm⟩ := Classical.choose_spec hh
    have h1 := iterM_mono hn (Nat.le_max_left n m)
    have h2 := iterM_mono hm (Nat.le_max_right n m)
    rw [h1] at h2
    exact h2.symm

theorem selX_some {β : Type} {id : Nat} {k : Nat → M β} {w : World} {r : β × World} : ∀ {ids : List Nat}, selX id k ids w = some r → k id w = some r
  | [], h => by cases h
  | i :: ids, h => by
    simp only [selX] at h
    cases hb : Nat.beq id i with
    | true => simp only [hb, cond_true] at h; rw [Nat.eq_of_beq_eq_true hb]; exact h
    | false => simp only [hb, cond_false] at h; exact selX_some h

/-- As 'Code.wp', in a frame of function f. -/
def wpF (P : Program) (f : FuncId) (c : Code) (Q : Exit → Act → World → Prop) (a : Act) (w : World) : Prop :=
  ∀ (b : Frame) (k : List Item) (cs : List Frame), b.fn = f → ∃ e a' w', Q e a' w' ∧ Arrives P (lone (b.at a (.code c :: k)) cs w) b k cs e a' w'
section
variable {f : FuncId} {Q : Exit → Act → World → Prop} {a : Act} {w : World}
theorem wpF_of {c : Code} (h : c.wp P Q a w) : wpF P f c Q a w := fun b k cs _ => h b k cs
theorem wpF_mono {c : Code} {Q' : Exit → Act → World → Prop} (h : wpF P f c Q a w) (hq : ∀ e a w, Q e a w → Q' e a w) : wpF P f c Q' a w :=
  fun b k cs hb => let ⟨e, a', w', q, r⟩ := h b k cs hb; ⟨e, a', w', hq _ _ _ q, r⟩
theorem wpF_seq {x y : Code} (h : wpF P f x (Exit.then (wpF P f y Q) Q) a w) : wpF P f (.seq x y) Q a w := by
  intro b k cs hb
  obtain ⟨e, a₁, w₁, hq, harr⟩ := h b (.code y :: k) cs hb
  cases e with
  | normal =>
    obtain ⟨e₂, a₂, w₂, hq₂, harr₂⟩ := hq b k cs hb
    exact ⟨e₂, a₂, w₂, hq₂, .of_steps (.head step_seq harr) harr₂⟩
  | exit id => exact ⟨_, a₁, w₁, hq, .of_steps (.one step_seq) (.pass (x := .code y) rfl (fun _ _ => .inl (by simp)) harr)⟩
  | goto l => exact ⟨_, a₁, w₁, hq, .of_steps (.one step_seq) (.pass (x := .code y) rfl (fun _ _ => .inl (by simp)) harr)⟩
  | ret => exact ⟨_, a₁, w₁, hq, .of_steps (.one step_seq) (.pass (x := .code y) rfl (fun _ _ => .inl (by simp)) harr)⟩
  | panic ch => exact ⟨_, a₁, w₁, hq, .of_steps (.one step_seq) (.pass (x := .code y) rfl (fun _ _ => .inl (by simp)) harr)⟩
  | outgrown => exact ⟨_, a₁, w₁, hq, .of_steps (.one step_seq) (.pass (x := .code y) rfl (fun _ _ => .inl (by simp)) harr)⟩
theorem wpF_cond {c : Operand} {x y : Code} {t : Bool} (hc : a.eval c = .bool t) (h : wpF P f (if t then x else y) Q a w) : wpF P f (.cond c x y) Q a w :=
  fun b k cs hb => let ⟨e, a', w', q, r⟩ := h b k cs hb; ⟨e, a', w', q, .of_steps (.one (step_cond hc)) r⟩
theorem wpF_block {id : Nat} {c : Code} (h : wpF P f c (Exit.inBlock id Q) a w) : wpF P f (.block id c) Q a w := by
  intro b k cs hb
  obtain ⟨e, a₁, w₁, hq, harr⟩ := h b (.inBlock id :: k) cs hb
  cases e with
  | normal => exact ⟨.normal, a₁, w₁, hq, .head step_block (Steps.trans harr (.one step_inBlock))⟩
  | exit id' =>
    by_cases hid : id' = id
    · simp only [Exit.inBlock, hid, if_true] at hq
      exact ⟨.normal, a₁, w₁, hq, .head step_block (harr k (by simp [exitTo, hid]))⟩
    · simp only [Exit.inBlock, hid, if_false] at hq
      refine ⟨.exit id', a₁, w₁, hq, fun k' hk => .head step_block (harr k' ?_)⟩
      have : (id == id') = false := by simp; exact fun h => hid h.symm
      simp [exitTo, this, hk]
  | goto l => exact ⟨_, a₁, w₁, hq, fun k' hk => .head step_block (harr k' (by simp [gotoIn, hk]))⟩
  | ret => exact ⟨_, a₁, w₁, hq, .of_steps (.one step_block) harr⟩
  | panic ch => exact ⟨_, a₁, w₁, hq, .of_steps (.one step_block) harr⟩
  | outgrown => exact ⟨_, a₁, w₁, hq, .of_steps (b := b) (k := k) (cs := cs) (e := .outgrown) (.one step_block) harr⟩
def roundsF (P : Program) (f : FuncId) (c : Code) (Q : Exit → Act → World → Prop) : Nat → Act → World → Prop
  | 0, _, _ => False
  | n + 1, a, w => wpF P f c (Exit.then (roundsF P f c Q n) Q) a w
theorem wpF_loop {c : Code} (n : Nat) (h : roundsF P f c Q n a w) : wpF P f (.loop c) Q a w := by
  intro b k cs hb
  have key : ∀ n a w, roundsF P f c Q n a w →
      ∃ e a' w', Q e a' w' ∧ Arrives P (lone (b.at a (.code c :: .inLoop c :: k)) cs w) b k cs e a' w' := by
    intro n
    induction n with
    | zero => intro a w h; exact h.elim
    | succ n ih =>
      intro a w h
      obtain ⟨e, a₁, w₁, hq, harr⟩ := h b (.inLoop c :: k) cs hb
      cases e with
      | normal =>
        obtain ⟨e₂, a₂, w₂, hq₂, harr₂⟩ := ih a₁ w₁ hq
        exact ⟨e₂, a₂, w₂, hq₂, .of_steps (Steps.trans harr (.one step_inLoop)) harr₂⟩
      | exit id => exact ⟨_, a₁, w₁, hq, .pass (x := .inLoop c) rfl (fun _ _ => .inl (by simp)) harr⟩
      | goto l => exact ⟨_, a₁, w₁, hq, .pass (x := .inLoop c) rfl (fun _ _ => .inl (by simp)) harr⟩
      | ret => exact ⟨_, a₁, w₁, hq, .pass (x := .inLoop c) rfl (fun _ _ => .inl (by simp)) harr⟩
      | panic ch => exact ⟨_, a₁, w₁, hq, .pass (x := .inLoop c) rfl (fun _ _ => .inl (by simp)) harr⟩
      | outgrown => exact ⟨_, a₁, w₁, hq, .pass (x := .inLoop c) rfl (fun _ _ => .inl (by simp)) harr⟩
  obtain ⟨e, a', w', hq, harr⟩ := key n a w h
  exact ⟨e, a', w', hq, .of_steps (.one step_loop) harr⟩
theorem wpF_scope {c : Code} (h : wpF P f c (Exit.noGoto Q) a w) : wpF P f (.scope c) Q a w := by
  intro b k cs hb
  obtain ⟨e, a₁, w₁, hq, harr⟩ := h b (.inScope c :: k) cs hb
  cases e with
  | normal => exact ⟨.normal, a₁, w₁, hq, .head step_scope (Steps.trans harr (.one step_inScope))⟩
  | exit id => exact ⟨.exit id, a₁, w₁, hq, fun k' hk => .head step_scope (harr k' (by simp [exitTo, hk]))⟩
  | goto l => exact hq.elim
  | ret => exact ⟨_, a₁, w₁, hq, .of_steps (.one step_scope) harr⟩
  | panic ch => exact ⟨_, a₁, w₁, hq, .of_steps (.one step_scope) harr⟩
  | outgrown => exact ⟨_, a₁, w₁, hq, .of_steps (.one step_scope) harr⟩
theorem calls_of_wpF {c : Code} {args : Array Value} {R : Ending → World → Prop} (hf : P.funcs[f]? = some fn) (hb : fn.body = some c)
    (h : wpF P f c (bodyPost P fn R) { tmps := args ++ Array.replicate (fn.ntmps - args.size) undef, defers := [] } w) : Calls P f args w R := by
  intro cs
  let b : Frame := { (default : Frame) with fn := f, kind := .normal }
  have henter : Frame.enter P f args .normal = b.at { tmps := args ++ Array.replicate (fn.ntmps - args.size) undef, defers := [] } [.code c] := by
    simp [Frame.enter, Frame.at, hf, hb, b]
  obtain ⟨e, a', w', hq, harr⟩ := h b [] cs rfl
  rw [← henter] at harr
  cases e with
  | normal =>
    obtain ⟨hd, v, hr, hR⟩ := hq
    exact ⟨.returned v, w', _, hR, Steps.trans harr (.one step_end), rfl, rfl, hd, rfl, fn, hf, hr⟩
  | ret =>
    obtain ⟨hd, v, hr, hR⟩ := hq
    obtain ⟨todo, hs⟩ := harr
    exact ⟨.returned v, w', _, hR, hs, rfl, rfl, hd, rfl, fn, hf, hr⟩
  | panic chain =>
    obtain ⟨hd, hR⟩ := hq
    obtain ⟨todo, hs⟩ := harr
    exact ⟨.panicked chain, w', _, hR, hs, rfl, rfl, hd, fn, hf⟩
  | exit id => exact hq.elim
  | goto l => exact hq.elim
  | outgrown => exact ⟨.outgrown, w', b, hq, harr.resolve_left (by simp [b]), rfl, trivial⟩

/-- A region of which each order of its steps has an alternative. -/
theorem wpF_alts {id : Nat} {ops : Array Oper} (hm : P.follows .mixedOrders = true) (h : wpOps P ops Q (Region.schedule true ops (w.tape w.drawn (.order f id))) a w.drew) : wpF P f (.region id ops true) Q a w := by
  intro b k cs hb
  subst hb
  obtain ⟨e, a', w', q, r⟩ := wp_ops _ a w.drew h b k cs
  refine ⟨e, a', w', q, .of_steps (.one ?_) r⟩
  have := step_region_draw (P := P) (b := b) (a := a) (k := k) (cs := cs) (w := w) (ops := ops) (id := id)
  rw [hm] at this
  exact this
end

theorem eqL_eq : ∀ {a b : List Nat}, eqL a b = true → a = b
  | [], [], _ => rfl
  | [], _ :: _, h => by simp [eqL] at h
  | _ :: _, [], h => by simp [eqL] at h
  | a :: r, b :: s, h => by
    simp only [eqL, Bool.and_eq_true] at h
    rw [Nat.eq_of_beq_eq_true h.1, eqL_eq h.2]

theorem altM_some {β : Type} {σ : World → List Nat} {w : World} {r : β × World} : ∀ {l : List (List Nat × M β)}, altM σ l w = some r → σ w ∈ l.map (·.1) → ∃ m, (σ w, m) ∈ l ∧ m w.drew = some r
  | [], h, _ => by cases h
  | [x], h, hm => by
    simp only [List.map_cons, List.map_nil, List.mem_singleton] at hm
    refine ⟨x.2, ?_, h⟩
    rw [hm]; simp
  | x :: y :: l, h, hm => by
    simp only [altM] at h
    by_cases hx : σ w = x.1
    · rw [if_pos hx] at h
      refine ⟨x.2, ?_, h⟩
      rw [hx]; simp
    · rw [if_neg hx] at h
      have hm' : σ w ∈ (y :: l).map (·.1) := by
        rw [List.map_cons, List.mem_cons] at hm
        exact hm.resolve_left hx
      obtain ⟨m, h1, h2⟩ := altM_some h hm'
      exact ⟨m, List.mem_cons_of_mem _ h1, h2⟩
theorem altList_mem {n : Nat} {ops : Array Oper} {ρ : Env} {ws : List Nat} {s : List Nat} {m : M (List Value)} : ∀ {orders : List (List Nat)}, (s, m) ∈ altList P T Tc n ops ρ ws orders →
    ∃ π ∈ orders, s = π.filter (actAt ops (isActO P)) ∧ m = evCore P T Tc n (permOps ops (isActO P) π) ρ (slotsM ws)
  | [], h => by cases h
  | π :: r, h => by
    simp only [altList, List.mem_cons, Prod.mk.injEq] at h
    rcases h with ⟨h1, h2⟩ | h
    · exact ⟨π, by simp, h1, h2⟩
    · obtain ⟨π', h1, h2⟩ := altList_mem h
      exact ⟨π', by simp [h1], h2⟩
theorem altList_fst {n : Nat} {ops : Array Oper} {ρ : Env} {ws : List Nat} : ∀ {orders : List (List Nat)} {π : List Nat}, π ∈ orders → π.filter (actAt ops (isActO P)) ∈ (altList P T Tc n ops ρ ws orders).map (·.1)
  | [], π, h => by cases h
  | π' :: r, π, h => by
    simp only [altList, List.map_cons, List.mem_cons]
    rcases List.mem_cons.1 h with rfl | h
    · exact .inl rfl
    · exact .inr (altList_fst h)

theorem alts_sound (hT : TabOk P T) (hTc : TabOk P Tc) {n : Nat} {id : Nat} {f : FuncId} {ops : Array Oper} {orders : List (List Nat)} {ws : List Nat} {ρ : Env} {w w' : World} {l : List Value} {a : Act} {Q : Exit → Act → World → Prop}
    (hok : altsOK P ops orders = true) (h : altM (ordO P ops f id) (altList P T Tc n ops ρ ws orders) w = some (l, w')) (hA : Agree n a ρ)
    (hQ : ∀ a' ρ', Agree n a' ρ' → KeepsR ops.toList a a' → slots ρ' ws = some l → Q .normal a' w') : wpF P f (.region id ops true) Q a w := by
  simp only [altsOK, Bool.and_eq_true] at hok
  obtain ⟨⟨⟨⟨hedge, hg⟩, hm⟩, hperm⟩, hcov⟩ := hok
  have hL := linExt_schedule (ops := ops) (w.tape w.drawn (.order f id))
  have hin := exts_mem (isA := isActO P) hedge _ _ (actsOf P ops) (actsOf P ops).length hL (by simp) (Nat.le_refl _) (fun i o ho hl => by simp [Array.getD] at hl) (fun i => by
    simp only [actsOf, List.mem_filter, List.mem_range]
    constructor
    · rintro ⟨h1, h2⟩; exact ⟨h1, h2, by simp [Array.getD]⟩
    · rintro ⟨h1, h2, _⟩; exact ⟨h1, h2⟩)
  rw [List.all_eq_true] at hcov
  have := hcov _ hin
  rw [List.any_eq_true] at this
  obtain ⟨π0, hπ0, he0⟩ := this
  have he0 := eqL_eq he0
  obtain ⟨m, hmem, hrun⟩ := altM_some h (by
    have := altList_fst (P := P) (T := T) (Tc := Tc) (n := n) (ops := ops) (ρ := ρ) (ws := ws) hπ0
    rw [he0] at this
    exact this)
  obtain ⟨π, hπ, hs, rfl⟩ := altList_mem hmem
  rw [List.all_eq_true] at hperm
  have hp := hperm π hπ
  refine wpF_alts hm ?_
  refine wpOps_perm (isA := isActO P) hp hg _ a w.drew (fun i hi => hL.lt i hi) ?_
  have hL' := linExt_perm (isA := isActO P) hp hedge _ [] _ (Array.replicate ops.size false) hL (by simp) (by simp) (fun k hk => by
    simp [Array.getD]) (fun i hi => by simp [Array.getD]) (by rw [List.nil_append]; exact hs)
  have hsz : (permOps ops (isActO P) π).size = ops.size := by
    have : π.length = ops.size := by
      simp only [permOK, Bool.and_eq_true] at hp
      exact Nat.eq_of_beq_eq_true hp.1.1
    simp [permOps, this]
  have hany := evCore_any hT hTc hrun hA (Q := Q) (fun a' ρ' w1 h1 h2 h3 => by
    unfold slotsM at h3
    cases hsl : slots ρ' ws with
    | none => simp [hsl, M.fail] at h3
    | some l' =>
      simp only [hsl, M.ret, Option.some.injEq, Prod.mk.injEq] at h3
      obtain ⟨rfl, rfl⟩ := h3
      refine hQ a' ρ' h1 (fun t hno => h2 t fun o ho hd => ?_) hsl
      -- the operations write the same slots
      simp only [permOps, List.mem_map] at ho
      obtain ⟨x, hx, rfl⟩ := ho
      unfold renum at hd
      cases hq : ops[x.1]? with
      | none => simp [hq] at hd; cases hd
      | some oo =>
        simp only [hq] at hd
        exact hno oo (by simpa using Array.mem_of_getElem? hq) hd)
  rw [hsz] at hany
  refine wpOps_of_any _ ops.size _ a w.drew hL' ?_ hany
  rw [List.length_map]
  have := hL.length (by simp)
  have h2 := cn_le (f := fun j => !(Array.replicate ops.size false).getD j false) (k := ops.size)
  omega

theorem evK_sound (hT : TabOk P T) (hTc : TabOk P Tc) {f : FuncId} : ∀ (c : Code) (plan : Plan) (β : Type) (ρ : Env) (kn : Env → M β) (kx : Nat → Env → M β) (kv : Value → M β) (w : World) (r : β × World) (a : Act) (Q : Exit → Act → World → Prop),
    evK P T Tc f fn c plan β ρ kn kx kv w = some r → Agree fn.ntmps a ρ →
    (∀ a' ρ' w', Agree fn.ntmps a' ρ' → Keeps c a a' → kn ρ' w' = some r → Q .normal a' w') →
    (∀ id a' ρ' w', Agree fn.ntmps a' ρ' → Keeps c a a' → kx id ρ' w' = some r → Q (.exit id) a' w') →
    (∀ a' v w', a'.defers = [] → (results fn a'.tmps).run P w' = .ok v w' → kv v w' = some r → Q .ret a' w') → wpF P f c Q a w := by
  intro c
  induction c with
  | skip => intro plan β ρ kn kx kv w r a Q h hA hn hx hv; exact wpF_of (wp_skip (hn a ρ w hA (Keeps.refl _ _) (by simpa [evK] using h)))
  | label l => intro plan β ρ kn kx kv w r a Q h hA hn hx hv; exact wpF_of (wp_label (hn a ρ w hA (Keeps.refl _ _) (by simpa [evK] using h)))
  | region id ops draw =>
    intro plan β ρ kn kx kv w r a Q h hA hn hx hv
    have plain : (bif draw then evDraw P T Tc fn.ntmps ops ρ kn else evOps P T Tc fn.ntmps ops false ops.toList ρ kn) w = some r → wpF P f (.region id ops draw) Q a w := by
      intro h
      cases draw with
      | true => simp only [cond_true] at h; exact wpF_of (evDraw_sound hT hTc h hA fun a' ρ' w' h1 h2 h3 => hn a' ρ' w' h1 (Keeps.region h2) h3)
      | false => simp only [cond_false] at h; exact wpF_of (evReg_sound hT hTc h hA fun a' ρ' w' h1 h2 h3 => hn a' ρ' w' h1 (Keeps.region h2) h3)
    cases plan <;> first
      | (simp only [evK] at h; exact plain h)
      | skip
    case alts ws asg orders =>
      simp only [evK] at h
      cases hb : (draw && altsOK P ops orders && asgIn asg (.region id ops draw)) with
      | false => simp [hb, M.fail] at h
      | true =>
        simp only [hb, cond_true] at h
        simp only [Bool.and_eq_true] at hb
        obtain ⟨⟨rfl, hok⟩, hasg⟩ := hb
        obtain ⟨l, w1, h1, h2⟩ := bind_some h
        refine alts_sound hT hTc hok h1 hA fun a' ρ' hA' hk hs => ?_
        have hf : ∀ t v, forget asg ρ t = some v → a.tmps[t]? = some v := fun t v ht => by
          unfold forget at ht
          cases hb : asg.any (Nat.beq t) with
          | true => simp [hb] at ht
          | false => simp only [hb, cond_false] at ht; exact hA.at_ t v ht
        exact hn a' _ w1 (Agree.enter hf hA' (Keeps.region hk) hasg hs) (Keeps.region hk) h2
  | seq x y ihx ihy =>
    intro plan β ρ kn kx kv w r a Q h hA hn hx hv
    have left : ∀ a', Keeps x a a' → Keeps (.seq x y) a a' := fun a' hk asg ha t ht => hk asg (by simp only [asgIn, Bool.and_eq_true] at ha; exact ha.1) t ht
    have both : ∀ a' a'', Keeps x a a' → Keeps y a' a'' → Keeps (.seq x y) a a'' := fun a' a'' h1 h2 asg ha t ht => by
      simp only [asgIn, Bool.and_eq_true] at ha
      rw [h2 asg ha.2 t ht, h1 asg ha.1 t ht]
    cases plan <;> simp only [evK] at h <;> try (cases h; done)
    case seq pa pb =>
      refine wpF_seq (ihx pa β ρ _ kx kv w r a _ h hA ?_ ?_ ?_)
      · intro a' ρ' w' h1 h2 h3
        exact ihy pb β ρ' kn kx kv w' r a' Q h3 h1 (fun a'' ρ'' w'' g1 g2 g3 => hn a'' ρ'' w'' g1 (both a' a'' h2 g2) g3) (fun id a'' ρ'' w'' g1 g2 g3 => hx id a'' ρ'' w'' g1 (both a' a'' h2 g2) g3) hv
      · intro id a' ρ' w' h1 h2 h3; exact hx id a' ρ' w' h1 (left a' h2) h3
      · intro a' v w' h1 h2 h3; exact hv a' v w' h1 h2 h3
    case fork ws asg ids pa pb =>
      cases hi : asgIn asg x with
      | false => simp [hi, M.fail] at h
      | true =>
        simp only [hi, cond_true] at h
        obtain ⟨o, w1, ho, hk⟩ := bind_some h
        have hf : ∀ t v, forget asg ρ t = some v → a.tmps[t]? = some v := fun t v ht => by
          unfold forget at ht
          cases hb : asg.any (Nat.beq t) with
          | true => simp [hb] at ht
          | false => simp only [hb, cond_false] at ht; exact hA.at_ t v ht
        refine wpF_seq (ihx pa Out ρ _ _ _ w (o, w1) a _ ho hA ?_ ?_ ?_)
        · intro a' ρ' w' h1 h2 h3
          obtain ⟨l, hl, rfl, rfl⟩ := outN_some h3
          exact ihy pb β _ kn kx kv _ r a' Q hk (Agree.enter hf h1 h2 hi hl) (fun a'' ρ'' w'' g1 g2 g3 => hn a'' ρ'' w'' g1 (both a' a'' h2 g2) g3) (fun id a'' ρ'' w'' g1 g2 g3 => hx id a'' ρ'' w'' g1 (both a' a'' h2 g2) g3) hv
        · intro id a' ρ' w' h1 h2 h3
          obtain ⟨l, hl, rfl, rfl⟩ := outX_some h3
          exact hx id a' _ _ (Agree.enter hf h1 h2 hi hl) (left a' h2) (selX_some hk)
        · intro a' v w' h1 h2 h3
          cases h3
          exact hv a' v _ h1 h2 hk
  | cond c x y ihx ihy =>
    intro plan β ρ kn kx kv w r a Q h hA hn hx hv
    have left : ∀ a', Keeps x a a' → Keeps (.cond c x y) a a' := fun a' hk asg ha t ht => hk asg (by simp only [asgIn, Bool.and_eq_true] at ha; exact ha.1) t ht
    have right : ∀ a', Keeps y a a' → Keeps (.cond c x y) a a' := fun a' hk asg ha t ht => hk asg (by simp only [asgIn, Bool.and_eq_true] at ha; exact ha.2) t ht
    cases plan <;> simp only [evK] at h <;> try (cases h; done)
    case cond pa pb =>
      cases hc : ev ρ c with
      | none => simp [hc, M.fail] at h
      | some v =>
        simp only [hc] at h
        unfold condM at h
        split at h
        · exact wpF_cond (t := true) (hA.eval hc) (ihx pa β ρ kn kx kv w r a Q h hA (fun a' ρ' w' h1 h2 h3 => hn a' ρ' w' h1 (left a' h2) h3) (fun id a' ρ' w' h1 h2 h3 => hx id a' ρ' w' h1 (left a' h2) h3) hv)
        · exact wpF_cond (t := false) (hA.eval hc) (ihy pb β ρ kn kx kv w r a Q h hA (fun a' ρ' w' h1 h2 h3 => hn a' ρ' w' h1 (right a' h2) h3) (fun id a' ρ' w' h1 h2 h3 => hx id a' ρ' w' h1 (right a' h2) h3) hv)
        · cases h
  | block id b ih =>
    intro plan β ρ kn kx kv w r a Q h hA hn hx hv
    cases plan <;> simp only [evK] at h <;> try (cases h; done)
    case body pb =>
      refine wpF_block (ih pb β ρ _ _ kv w r a _ h hA hn ?_ hv)
      intro id' a' ρ' w' h1 h2 h3
      cases hb : Nat.beq id' id with
      | true =>
        simp only [hb, cond_true] at h3
        obtain rfl := Nat.eq_of_beq_eq_true hb
        simp only [Exit.inBlock, if_true]
        exact hn a' ρ' w' h1 h2 h3
      | false =>
        simp only [hb, cond_false] at h3
        have : id' ≠ id := fun e => by subst e; rw [Nat.beq_refl] at hb; cases hb
        simp only [Exit.inBlock, this, if_false]
        exact hx id' a' ρ' w' h1 h2 h3
  | loop b ih =>
    intro plan β ρ kn kx kv w r a Q h hA hn hx hv
    cases plan <;> simp only [evK] at h <;> try (cases h; done)
    case loop ws asg ids pb =>
      cases hi : asgIn asg b with
      | false => simp [hi, M.fail] at h
      | true =>
        simp only [hi, cond_true] at h
        cases hs : slots ρ ws with
        | none => simp [hs, M.fail] at h
        | some l0 =>
          simp only [hs] at h
          obtain ⟨o, w1, ho, hk⟩ := bind_some h
          obtain ⟨m, hm⟩ := loopM_some.1 ho
          have hf : ∀ t v, forget asg ρ t = some v → a.tmps[t]? = some v := fun t v ht => by
            unfold forget at ht
            cases hb : asg.any (Nat.beq t) with
            | true => simp [hb] at ht
            | false => simp only [hb, cond_false] at ht; exact hA.at_ t v ht
          refine wpF_loop m ?_
          have hA0 : Agree fn.ntmps a (enter (forget asg ρ) l0 ws 0) := Agree.enter hf hA (Keeps.refl b a) hi hs
          have key : ∀ (m : Nat) (l : List Value) (w : World) (a' : Act), iterM (fun l => evK P T Tc f fn b pb Out (enter (forget asg ρ) l ws 0) (outN ws) (outX ws) (fun v => M.ret (.ret v))) m l w = some (o, w1) →
              Agree fn.ntmps a' (enter (forget asg ρ) l ws 0) → Keeps b a a' → roundsF P f b Q m a' w := by
            intro m
            induction m with
            | zero => intro l w a' h; cases h
            | succ m ihm =>
              intro l w a' h hA' hKa
              have trans : ∀ a'', Keeps b a' a'' → Keeps b a a'' := fun a'' h2 asg ha t ht => by rw [h2 asg ha t ht, hKa asg ha t ht]
              simp only [iterM] at h
              obtain ⟨o1, w2, ho1, hk1⟩ := bind_some h
              show wpF P f b (Exit.then (roundsF P f b Q m) Q) a' w
              refine ih pb Out _ _ _ _ w (o1, w2) a' _ ho1 hA' ?_ ?_ ?_
              · intro a'' ρ'' w'' g1 g2 g3
                obtain ⟨l', hl', rfl, rfl⟩ := outN_some g3
                refine ihm l' _ a'' hk1 ?_ (trans a'' g2)
                exact Agree.enter hf g1 (trans a'' g2) hi hl'
              · intro id a'' ρ'' w'' g1 g2 g3
                obtain ⟨l', hl', rfl, rfl⟩ := outX_some g3
                cases hk1
                exact hx id a'' _ _ (Agree.enter hf g1 (trans a'' g2) hi hl') (trans a'' g2) (selX_some hk)
              · intro a'' v w'' g1 g2 g3
                cases g3
                cases hk1
                exact hv a'' v _ g1 g2 hk
          exact key m l0 w a hm hA0 (Keeps.refl b a)
  | scope b ih =>
    intro plan β ρ kn kx kv w r a Q h hA hn hx hv
    cases plan <;> simp only [evK] at h <;> try (cases h; done)
    case body pb => exact wpF_scope (ih pb β ρ kn kx kv w r a _ h hA hn hx hv)
  | exit id => intro plan β ρ kn kx kv w r a Q h hA hn hx hv; exact wpF_of (wp_exit (hx id a ρ w hA (Keeps.refl _ _) (by simpa [evK] using h)))
  | ret =>
    intro plan β ρ kn kx kv w r a Q h hA hn hx hv
    simp only [evK] at h
    obtain ⟨v, h1, h2⟩ := results_resK hA h
    exact wpF_of (wp_ret (hv a v w hA.defers h1 h2))
  | rangeFunc f p x y _ _ => intro plan β ρ kn kx kv w r a Q h; simp [evK, M.fail] at h
  | goto l => intro plan β ρ kn kx kv w r a Q h; simp [evK, M.fail] at h
  | refuse s => intro plan β ρ kn kx kv w r a Q h; simp [evK, M.fail] at h

/-- A function comes to what its functional form comes to. -/
def LiftOk (P : Program) (f : FuncId) (g : List Value → M Value) : Prop := ∀ args w v w', g args w = some (v, w') → Got P (callFunc f args.toArray) w v w'

theorem nthV_some : ∀ {l : List Value} {t : Nat} {v : Value}, nthV l t = some v → l[t]? = some v
  | [], t, v, h => by simp [nthV] at h
  | x :: l, 0, v, h => by simpa [nthV] using h
  | x :: l, t + 1, v, h => by simp only [nthV] at h; simpa using nthV_some h

theorem evFn_sound (hT : TabOk P T) (hTc : TabOk P Tc) {f : FuncId} {plan : Plan} (hf : P.funcs[f]? = some fn) (hname : (fn.name == "runtime.NumGoroutine") = false) : LiftOk P f (evFn P T Tc f fn plan) := by
  intro args w v w' h
  unfold evFn at h
  cases hb : fn.body with
  | none => simp [hb, M.fail] at h
  | some c =>
    simp only [hb] at h
    cases hl : Nat.ble args.length fn.ntmps with
    | false => simp [hl, M.fail] at h
    | true =>
      simp only [hl, cond_true] at h
      have hle : args.length ≤ fn.ntmps := Nat.le_of_ble_eq_true hl
      refine .inr (.inr ⟨f, args.toArray, w, ?_, ?_⟩)
      · simp [callFunc, hf, show fn.name ≠ "runtime.NumGoroutine" by simpa using hname, hb]
      · refine calls_of_wpF hf hb ?_
        have hA : Agree fn.ntmps { tmps := args.toArray ++ Array.replicate (fn.ntmps - args.toArray.size) undef, defers := [] } (nthV args) := by
          refine ⟨rfl, by simp; omega, fun t u ht => ?_⟩
          have := nthV_some ht
          have hlt : t < args.length := (List.getElem?_eq_some_iff.1 this).1
          rw [Array.getElem?_append_left (by simpa using hlt)]
          simpa using this
        refine evK_sound hT hTc c plan Value _ _ _ _ w (v, w') _ _ h hA ?_ ?_ ?_
        · intro a' ρ' w1 h1 _ h3
          obtain ⟨u, h4, h5⟩ := results_resK (k := M.ret) h1 h3
          cases h5
          exact ⟨h1.defers, _, h4, rfl, rfl⟩
        · intro id a' ρ' w1 _ _ h3; cases h3
        · intro a' u w1 h1 h2 h3
          cases h3
          exact ⟨h1, _, h2, rfl, rfl⟩

/- Tables. -/
def tnil : Tab := fun _ _ => M.fail
def tcons (f : FuncId) (g : List Value → M Value) (T : Tab) : Tab := fun f' args => bif Nat.beq f' f then g args else T f' args
theorem tnil_ok : TabOk P tnil := fun _ _ _ _ _ h => by cases h
theorem tcons_ok {f : FuncId} {g : List Value → M Value} {T : Tab} (hg : LiftOk P f g) (hT : TabOk P T) : TabOk P (tcons f g T) := by
  intro f' args w v w' h
  unfold tcons at h
  cases hb : Nat.beq f' f with
  | true =>
    simp only [hb, cond_true] at h
    obtain rfl := Nat.eq_of_beq_eq_true hb
    exact hg args w v w' h
  | false => simp only [hb, cond_false] at h; exact hT f' args w v w' h

theorem lift0 {f : FuncId} {g : List Value → M Value} (h : LiftOk P f g) {g' : M Value} (e : g [] = g') : LiftOk P f (ap0 g') := by
  intro args w v w' hh
  match args, hh with
  | [], hh => simp only [ap0] at hh; rw [← e] at hh; exact h _ w v w' hh
  | _ :: _, hh => simp [ap0, M.fail] at hh
theorem lift1 {f : FuncId} {g : List Value → M Value} (h : LiftOk P f g) {g' : Value → M Value} (e : ∀ a, g [a] = g' a) : LiftOk P f (ap1 g') := by
  intro args w v w' hh
  match args, hh with
  | [a], hh => simp only [ap1] at hh; rw [← e] at hh; exact h _ w v w' hh
  | [], hh => simp [ap1, M.fail] at hh
  | _ :: _ :: _, hh => simp [ap1, M.fail] at hh
theorem lift2 {f : FuncId} {g : List Value → M Value} (h : LiftOk P f g) {g' : Value → Value → M Value} (e : ∀ a b, g [a, b] = g' a b) : LiftOk P f (ap2 g') := by
  intro args w v w' hh
  unfold ap2 at hh
  split at hh
  · rw [← e] at hh; exact h _ w v w' hh
  · cases hh
theorem lift3 {f : FuncId} {g : List Value → M Value} (h : LiftOk P f g) {g' : Value → Value → Value → M Value} (e : ∀ a b c, g [a, b, c] = g' a b c) : LiftOk P f (ap3 g') := by
  intro args w v w' hh
  unfold ap3 at hh
  split at hh
  · rw [← e] at hh; exact h _ w v w' hh
  · cases hh
theorem lift4 {f : FuncId} {g : List Value → M Value} (h : LiftOk P f g) {g' : Value → Value → Value → Value → M Value} (e : ∀ a b c d, g [a, b, c, d] = g' a b c d) : LiftOk P f (ap4 g') := by
  intro args w v w' hh
  unfold ap4 at hh
  split at hh
  · rw [← e] at hh; exact h _ w v w' hh
  · cases hh
theorem lift5 {f : FuncId} {g : List Value → M Value} (h : LiftOk P f g) {g' : Value → Value → Value → Value → Value → M Value} (e : ∀ a b c d x, g [a, b, c, d, x] = g' a b c d x) : LiftOk P f (ap5 g') := by
  intro args w v w' hh
  unfold ap5 at hh
  split at hh
  · rw [← e] at hh; exact h _ w v w' hh
  · cases hh
theorem lift6 {f : FuncId} {g : List Value → M Value} (h : LiftOk P f g) {g' : Value → Value → Value → Value → Value → Value → M Value} (e : ∀ a b c d x y, g [a, b, c, d, x, y] = g' a b c d x y) : LiftOk P f (ap6 g') := by
  intro args w v w' hh
  unfold ap6 at hh
  split at hh
  · rw [← e] at hh; exact h _ w v w' hh
  · cases hh
theorem lift7 {f : FuncId} {g : List Value → M Value} (h : LiftOk P f g) {g' : Value → Value → Value → Value → Value → Value → Value → M Value} (e : ∀ a b c d x y z, g [a, b, c, d, x, y, z] = g' a b c d x y z) : LiftOk P f (ap7 g') := by
  intro args w v w' hh
  unfold ap7 at hh
  split at hh
  · rw [← e] at hh; exact h _ w v w' hh
  · cases hh
theorem lift8 {f : FuncId} {g : List Value → M Value} (h : LiftOk P f g) {g' : Value → Value → Value → Value → Value → Value → Value → Value → M Value} (e : ∀ a b c d x y z u, g [a, b, c, d, x, y, z, u] = g' a b c d x y z u) : LiftOk P f (ap8 g') := by
  intro args w v w' hh
  unfold ap8 at hh
  split at hh
  · rw [← e] at hh; exact h _ w v w' hh
  · cases hh

/-- The end of the lift: a call. -/
theorem LiftOk.calls {f : FuncId} {g : List Value → M Value} (h : LiftOk P f g) {args : List Value} {w w' : World} {v : Value} (hf : P.funcs[f]? = some fn) (hb : fn.body.isSome = true) (hname : (fn.name == "runtime.NumGoroutine") = false)
    (hg : g args w = some (v, w')) : Calls P f args.toArray w fun e w'' => e = .returned v ∧ w'' = w' := by
  have hc : (callFunc f args.toArray).run P w = .ok (.enter f args.toArray) w := by
    obtain ⟨c, hc⟩ := Option.isSome_iff_exists.1 hb
    simp [callFunc, hf, show fn.name ≠ "runtime.NumGoroutine" by simpa using hname, hc]
  rcases h args w v w' hg with h1 | ⟨_, h1⟩ | ⟨f', args', w1, h1, h2⟩
  · rw [hc] at h1; cases h1
  · rw [hc] at h1; cases h1
  · rw [hc] at h1; cases h1; exact h2
end
end Go.Lift
