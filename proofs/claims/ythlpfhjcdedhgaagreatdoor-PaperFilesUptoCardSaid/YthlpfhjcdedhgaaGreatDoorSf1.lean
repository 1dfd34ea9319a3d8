/- What the statement rests on: part 2. -/
import Derived.Test.YthlpfhjcdedhgaaGreatDoorSf0
import Derived.Shelf.Strings.Builder1
import Derived.Shelf.Strings.Builder2
import Derived.Shelf.Strings.OnBuilder
import Derived.Shelf.Strings.Trim
import Derived.Shelf.Small.Utf8
import Derived.Shelf.Small.Strs
import Derived.Shelf.Small.Wraps
import Derived.Shelf.Strings.BuilderF
import Derived.Shelf.Strings.BuilderK
import Derived.Shelf.Utf8.RuneCount
import Derived.Shelf.Strings.Builder2Cap
import Derived.Shelf.Strconv.Itoa0
import Derived.Shelf.Strconv.Itoa1
import Derived.Shelf.LaysM
import Derived.Shelf.Strconv.Itoa2
import Derived.Shelf.Strconv.Itoa3
import Derived.Shelf.Strconv.Itoa4
import Derived.Shelf.Strings.Search1
import Derived.Shelf.Strings.Search2
import Derived.Shelf.Strings.Search3
import Derived.Shelf.Strings.Cut
import Derived.Shelf.Strings.Count
import Derived.Shelf.Strings.Shaped
import Derived.Shelf.Strings.Prefix
import Derived.Shelf.Strings.Split
import Derived.Shelf.Strings.SplitShaped
import Derived.Shelf.Unicode.Decode
import Derived.Shelf.Strings.Runes
import Derived.Shelf.Strings.RuneCount
import Derived.Shelf.Strings.AsciiSet
import Derived.Shelf.Strings.Explode
import Derived.Shelf.Bits.Mul64
import Derived.Shelf.Strings.Repeat
import Derived.Shelf.Unicode.DecodeSlow
import Derived.Shelf.Unicode.DecodeAny
import Derived.Shelf.Unicode.DecodeLast
import Derived.Shelf.Strings.BuilderCap
import Derived.Test.YthlpfhjcdedhgaaGreatDoorProg
import Derived.KernelRfl
namespace Go.Lift
set_option linter.unusedSimpArgs false
inductive Plan where
 | leaf
 | alts (ws asg : List Nat) (orders : List (List Nat))
 | seq (a b : Plan)
 | fork (ws asg ids : List Nat) (a b : Plan)
 | cond (a b : Plan)
 | body (b : Plan)
 | loop (ws asg ids : List Nat) (b : Plan)
def slots (ρ : Env) : List Nat -> Option (List Value)
 | [] => some []
 | t :: r => match ρ t with
  | some v => match slots ρ r with
   | some l => some (v :: l)
   | none => none
  | none => none
def enter (ρ : Env) (l : List Value) : List Nat -> Nat -> Env
 | [], _ => ρ
 | w :: ws, i => enter (upd ρ w (getL l i)) l ws (i + 1)
def forget (asg : List Nat) (ρ : Env) : Env:=λ t => bif asg.any (Nat.beq t) then none else ρ t
def asgIn (asg : List Nat) : Code -> Bool
 | .region _ ops _ => ops.toList.all λ o => match o.dst with
  | some d => asg.any (Nat.beq d)
  | none => true
 | .seq a b => asgIn asg a && asgIn asg b
 | .cond _ a b => asgIn asg a && asgIn asg b
 | .block _ b => asgIn asg b
 | .loop b => asgIn asg b
 | .scope b => asgIn asg b
 | .rangeFunc .. => false
 | _ => true
def outN (ws : List Nat) (ρ : Env) : M Out:=match slots ρ ws with
 | some l => M.ret (.norm l)
 | none => M.fail
def outX (ws : List Nat) (id : Nat) (ρ : Env) : M Out:=match slots ρ ws with
 | some l => M.ret (.exit id l)
 | none => M.fail
def outK {β : Type} (o : Out) (kn : List Value -> M β) (kx : Nat -> List Value -> M β) (kv : Value -> M β) : M β:=match o with
 | .norm l => kn l
 | .exit id l => kx id l
 | .ret v => kv v
def selX {β : Type} (id : Nat) (k : Nat -> M β) : List Nat -> M β
 | [] => M.fail
 | i :: r => bif Nat.beq id i then k i else selX id k r
def packV : List Value -> Value
 | [v] => v
 | l => .tuple l.toArray
def resK {β : Type} (P : Program) (ρ : Env) : List ResultVar -> (List Value -> M β) -> M β
 | [], k => k []
 | .tmp t :: r, k => match ρ t with
  | some v => resK P ρ r λ l => k (v :: l)
  | none => M.fail
 | .cell a t :: r, k => match ρ a, aggOf P t with
  | some p, some g => M.bind (rdM (ldT g p)) λ v => resK P ρ r λ l => k (v :: l)
  | _, _ => M.fail
def ordO (P : Program) (ops : Array Oper) (f id : Nat) : World -> List Nat:=λ w => (Region.schedule true ops (w.tape w.drawn (.order f id))).filter (actAt ops (isActO P))
def altM {β : Type} (σ : World -> List Nat) : List (List Nat × M β) -> M β
 | [] => M.fail
 | [x] => drewM x.2
 | x :: y :: r => λ w => if σ w = x.1 then drewM x.2 w else altM σ (y :: r) w
def actsOf (P : Program) (ops : Array Oper) : List Nat:=(List.range ops.size).filter (actAt ops (isActO P))
def eqL : List Nat -> List Nat -> Bool
 | [], [] => true
 | a :: r, b :: s => Nat.beq a b && eqL r s
 | _, _ => false
def altsOK (P : Program) (ops : Array Oper) (orders : List (List Nat)) : Bool :=
 edgesOK ops && guardsOK ops && P.follows .mixedOrders && (orders.all λ π => permOK ops.size π) &&
 ((exts (masks ops) (actsOf P ops).length (actsOf P ops)).all λ s => orders.any λ π => eqL (π.filter (actAt ops (isActO P))) s)
def slotsM (ws : List Nat) (ρ : Env) : M (List Value):=match slots ρ ws with
 | some l => M.ret l
 | none => M.fail
noncomputable def altList (P : Program) (T Tc : Tab) (n : Nat) (ops : Array Oper) (ρ : Env) (ws : List Nat) : List (List Nat) -> List (List Nat × M (List Value))
 | [] => []
 | π :: r => (π.filter (actAt ops (isActO P)), evCore P T Tc n (permOps ops (isActO P) π) ρ (slotsM ws)) :: altList P T Tc n ops ρ ws r
def regIn (id : Nat) : Code -> Option (Array Oper)
 | .region i ops _ => bif Nat.beq i id then some ops else none
 | .seq a b => match regIn id a with
  | some x => some x
  | none => regIn id b
 | .cond _ a b => match regIn id a with
  | some x => some x
  | none => regIn id b
 | .block _ b => regIn id b
 | .loop b => regIn id b
 | .scope b => regIn id b
 | _ => none
def regOps (fn : Func) (id : Nat) : Array Oper:=match fn.body with
 | some c => match regIn id c with
  | some x => x
  | none => #[]
 | none => #[]
noncomputable def evK (P : Program) (T Tc : Tab) (f : FuncId) (fn : Func) : Code -> Plan -> (β : Type) -> Env -> (Env -> M β) -> (Nat -> Env -> M β) -> (Value -> M β) -> M β
 | .skip, _, _, ρ, kn, _, _ => kn ρ
 | .label _, _, _, ρ, kn, _, _ => kn ρ
 | .region id ops draw, .alts ws asg orders, _, ρ, kn, _, _ => bif draw && altsOK P ops orders && asgIn asg (.region id ops draw) then
   M.bind (altM (ordO P ops f id) (altList P T Tc fn.ntmps ops ρ ws orders)) λ l => kn (enter (forget asg ρ) l ws 0) else M.fail
 | .region _ ops draw, _, _, ρ, kn, _, _ => bif draw then evDraw P T Tc fn.ntmps ops ρ kn else evOps P T Tc fn.ntmps ops false ops.toList ρ kn
 | .seq a b, .seq pa pb, β, ρ, kn, kx, kv => evK P T Tc f fn a pa β ρ (λ ρ' => evK P T Tc f fn b pb β ρ' kn kx kv) kx kv
 | .seq a b, .fork ws asg ids pa pb, β, ρ, kn, kx, kv => bif asgIn asg a then
   M.bind (evK P T Tc f fn a pa Out ρ (outN ws) (outX ws) (λ v => M.ret (.ret v))) λ o =>
    outK o (λ l => evK P T Tc f fn b pb β (enter (forget asg ρ) l ws 0) kn kx kv) (λ id l => selX id (λ i => kx i (enter (forget asg ρ) l ws 0)) ids) kv else M.fail
 | .cond c a b, .cond pa pb, β, ρ, kn, kx, kv => match ev ρ c with
  | some v => condM v (evK P T Tc f fn a pa β ρ kn kx kv) (evK P T Tc f fn b pb β ρ kn kx kv)
  | none => M.fail
 | .block id b, .body pb, β, ρ, kn, kx, kv => evK P T Tc f fn b pb β ρ kn (λ id' ρ' => bif Nat.beq id' id then kn ρ' else kx id' ρ') kv
 | .scope b, .body pb, β, ρ, kn, kx, kv => evK P T Tc f fn b pb β ρ kn kx kv
 | .exit id, _, _, ρ, _, kx, _ => kx id ρ
 | .ret, _, _, ρ, _, _, kv => resK P ρ fn.results.toList λ l => kv (packV l)
 | .loop b, .loop ws asg ids pb, _, ρ, _, kx, kv => bif asgIn asg b then (match slots ρ ws with
  | some l0 => M.bind (loopM (λ l => evK P T Tc f fn b pb Out (enter (forget asg ρ) l ws 0) (outN ws) (outX ws) (λ v => M.ret (.ret v))) l0) λ o =>
    outK o (λ _ => M.fail) (λ id l => selX id (λ i => kx i (enter (forget asg ρ) l ws 0)) ids) kv
  | none => M.fail) else M.fail
 | _, _, _, _, _, _, _ => M.fail
def nthV : List Value -> Nat -> Option Value
 | [], _ => none
 | v :: _, 0 => some v
 | _ :: r, i + 1 => nthV r i
noncomputable def evFn (P : Program) (T Tc : Tab) (f : FuncId) (fn : Func) (plan : Plan) (args : List Value) : M Value:=match fn.body with
 | some c => bif Nat.ble args.length fn.ntmps then evK P T Tc f fn c plan Value (nthV args) (λ ρ => resK P ρ fn.results.toList λ l => M.ret (packV l)) (λ _ _ => M.fail) M.ret else M.fail
 | none => M.fail
section
variable {P : Program} {T Tc : Tab} {fn : Func}
def Keeps (c : Code) (a a' : Act) : Prop:=∀ asg, asgIn asg c = true -> ∀ t, asg.any (Nat.beq t) = false -> a'.tmps[t]? = a.tmps[t]?
theorem Keeps.refl (c : Code) (a : Act) : Keeps c a a:=λ _ _ _ _ => rfl
theorem Keeps.region {id : Nat} {ops : Array Oper} {d : Bool} {a a' : Act} (h : KeepsR ops.toList a a') : Keeps (.region id ops d) a a':=by
 intro asg ha t ht
 refine h t λ o ho hd => ?_
 simp only [asgIn, List.all_eq_true] at ha
 have:=ha o ho
 simp only [hd] at this
 rw [this] at ht; cases ht
theorem slots_at {ρ : Env} : ∀ {ws : List Nat} {l : List Value}, slots ρ ws = some l -> ∀ j t, ws[j]? = some t -> ρ t = some (getL l j)
 | [], l, h, j, t, ht => by simp at ht
 | w :: ws, l, h, j, t, ht => by
  simp only [slots] at h
  split at h
  ·rename_i v hv
   split at h
   ·rename_i l' hl'
    cases h
    cases j with
    | zero => simp at ht; subst ht; simpa [getL] using hv
    | succ j => simp at ht; simpa [getL] using slots_at hl' j t ht
   ·cases h
  ·cases h
theorem enter_or {ρ' : Env} {l : List Value} : ∀ (ws : List Nat) (ρ : Env) (i : Nat), (∀ j t, ws[j]? = some t -> ρ' t = some (getL l (i + j))) -> ∀ t v, enter ρ l ws i t = some v -> ρ' t = some v ∨ ρ t = some v
 | [], ρ, i, _, t, v, h => .inr h
 | w :: ws, ρ, i, hw, t, v, h => by
  have:=enter_or ws (upd ρ w (getL l i)) (i + 1) (λ j t' ht' => by have:=hw (j + 1) t' (by simpa using ht'); rwa [show i + (j + 1) = i + 1 + j by omega] at this) t v h
  rcases this with h | h
  ·exact .inl h
  ·simp only [upd] at h
   cases hb : Nat.beq t w with
   | true =>
    simp only [hb, cond_true, Option.some.injEq] at h
    have e:=Nat.eq_of_beq_eq_true hb
    rw [e, <- h]
    exact .inl (hw 0 w (by simp))
   | false =>
    simp only [hb, cond_false] at h
    exact .inr h
theorem enter_slots {ρ' ρ : Env} {l : List Value} {ws : List Nat} (h : slots ρ' ws = some l) {t : Nat} {v : Value} (hv : enter ρ l ws 0 t = some v) : ρ' t = some v ∨ ρ t = some v :=
 enter_or ws ρ 0 (λ j t ht => by rw [Nat.zero_add]; exact slots_at h j t ht) t v hv
theorem Agree.enter {n : Nat} {a a' : Act} {ρ ρ' : Env} {c : Code} {asg ws : List Nat} {l : List Value} (h0 : ∀ t v, forget asg ρ t = some v -> a.tmps[t]? = some v) (h : Agree n a' ρ') (hk : Keeps c a a') (ha : asgIn asg c = true) (hs : slots ρ' ws = some l) :
  Agree n a' (enter (forget asg ρ) l ws 0):=by
 refine ⟨h.defers, h.size, λ t v ht => ?_⟩
 rcases enter_slots hs ht with h1 | h1
 ·exact h.at_ t v h1
 ·have h2:=h0 t v h1
  unfold forget at h1
  cases hb : asg.any (Nat.beq t) with
  | true => simp [hb] at h1
  | false => rw [hk asg ha t hb]; exact h2
theorem outN_some {ws : List Nat} {ρ : Env} {w w' : World} {o : Out} (h : outN ws ρ w = some (o, w')) : ∃ l, slots ρ ws = some l /\ o = .norm l /\ w' = w:=by
 unfold outN at h
 cases hl : slots ρ ws with
 | none => simp [hl, M.fail] at h
 | some l => simp only [hl, M.ret, Option.some.injEq, Prod.mk.injEq] at h; exact ⟨l, rfl, h.1.symm, h.2.symm⟩
theorem outX_some {ws : List Nat} {id : Nat} {ρ : Env} {w w' : World} {o : Out} (h : outX ws id ρ w = some (o, w')) : ∃ l, slots ρ ws = some l /\ o = .exit id l /\ w' = w:=by
 unfold outX at h
 cases hl : slots ρ ws with
 | none => simp [hl, M.fail] at h
 | some l => simp only [hl, M.ret, Option.some.injEq, Prod.mk.injEq] at h; exact ⟨l, rfl, h.1.symm, h.2.symm⟩
def readR (tmps : Array Value) : ResultVar -> Sem Value
 | .tmp t => pure (tmps.getD t undef)
 | .cell x t => do loadVar t (<- asAddr (tmps.getD x undef))
theorem resK_some {n : Nat} {β : Type} {a : Act} {ρ : Env} (hA : Agree n a ρ) : ∀ {rs : List ResultVar} {k : List Value -> M β} {w : World} {r : β × World}, resK P ρ rs k w = some r ->
  ∃ l, (rs.mapM (readR a.tmps)).run P w = .ok l w /\ k l w = some r
 | [], k, w, r, h => ⟨[], by simp, h⟩
 | .tmp t :: rs, k, w, r, h => by
  simp only [resK] at h
  cases hv : ρ t with
  | none => simp [hv, M.fail] at h
  | some v =>
   simp only [hv] at h
   obtain ⟨l, h1, h2⟩:=resK_some hA h
   refine ⟨v :: l, ?_, h2⟩
   have : a.tmps.getD t undef = v:=by simp [hA.at_ t v hv]
   simp only [List.mapM_cons, Sem.run_bind, readR, this, Sem.run_pure, Result.andThen_ok, h1]
 | .cell x t :: rs, k, w, r, h => by
  simp only [resK] at h
  cases hv : ρ x with
  | none => simp [hv, M.fail] at h
  | some p =>
   cases hg : aggOf P t with
   | none => simp [hv, hg, M.fail] at h
   | some g =>
    simp only [hv, hg] at h
    obtain ⟨v, w', hm, hk⟩:=bind_some h
    unfold rdM at hm
    split at hm
    case h_2 => cases hm
    rename_i u hu
    cases hm
    obtain ⟨l, h1, h2⟩:=resK_some hA hk
    refine ⟨v :: l, ?_, h2⟩
    have e : a.tmps.getD x undef = p:=by simp [hA.at_ x p hv]
    have hl:=run_loadAt (P:=P) hg hu
    have hp : ∃ ad, p = .pointer (some ad):=by
     cases g <;> simp only [ldT, ld1, ldA] at hu <;> split at hu <;> first | exact ⟨_, rfl⟩ | cases hu
    obtain ⟨ad, rfl⟩:=hp
    have hl' : (loadVar t ad).run P w = .ok v w:=by simpa [Instr.loadAt, Instr.sureAddr] using hl
    simp only [List.mapM_cons, Sem.run_bind, readR, e, asAddr, Sem.run_pure, Result.andThen_ok, hl', h1]
theorem results_resK {n : Nat} {β : Type} {a : Act} {ρ : Env} (hA : Agree n a ρ) {k : Value -> M β} {w : World} {r : β × World} (h : resK P ρ fn.results.toList (λ l => k (packV l)) w = some r) :
  ∃ v, (results fn a.tmps).run P w = .ok v w /\ k v w = some r:=by
 obtain ⟨l, h1, h2⟩:=resK_some hA h
 refine ⟨packV l, ?_, h2⟩
 have e : results fn a.tmps = (do let vs <- fn.results.mapM (readR a.tmps); pure (if h : vs.size = 1 then vs[0] else .tuple vs)):=by
  unfold results
  congr 1
 rw [e, Sem.run_bind, Array.mapM_eq_mapM_toList, Sem.run_map, h1]
 simp only [Result.andThen_ok, Sem.run_pure]
 congr 1
 match l with
 | [] => rfl
 | [v] => rfl
 | a :: b :: r => simp [packV]
theorem iterM_mono {step : List Value -> M Out} : ∀ {n m : Nat} {l : List Value} {w : World} {r : Out × World}, iterM step n l w = some r -> n <= m -> iterM step m l w = some r
 | 0, m, l, w, r, h, _ => by cases h
 | n + 1, m, l, w, r, h, hm => by
  obtain ⟨m, rfl⟩ : ∃ k, m = k + 1:=⟨m - 1, by omega⟩
  simp only [iterM] at h ⊢
  obtain ⟨o, w', h1, h2⟩:=bind_some h
  unfold M.bind
  rw [h1]
  cases o with
  | norm l' => exact iterM_mono h2 (by omega)
  | exit id l' => exact h2
  | ret v => exact h2
theorem loopM_some {step : List Value -> M Out} {l : List Value} {w : World} {r : Out × World} : loopM step l w = some r ↔ ∃ n, iterM step n l w = some r:=by
 unfold loopM
 constructor
 ·intro h
  split at h
  ·rename_i hh
   obtain ⟨n, hn⟩:=Classical.choose_spec hh
   cases h
   exact ⟨n, hn⟩
  ·cases h
 ·rintro ⟨n, hn⟩
  have hh : ∃ r n, iterM step n l w = some r:=⟨r, n, hn⟩
  rw [dif_pos hh]
  obtain ⟨m, hm⟩:=Classical.choose_spec hh
  have h1:=iterM_mono hn (Nat.le_max_left n m)
  have h2:=iterM_mono hm (Nat.le_max_right n m)
  rw [h1] at h2
  exact h2.symm
theorem selX_some {β : Type} {id : Nat} {k : Nat -> M β} {w : World} {r : β × World} : ∀ {ids : List Nat}, selX id k ids w = some r -> k id w = some r
 | [], h => by cases h
 | i :: ids, h => by
  simp only [selX] at h
  cases hb : Nat.beq id i with
  | true => simp only [hb, cond_true] at h; rw [Nat.eq_of_beq_eq_true hb]; exact h
  | false => simp only [hb, cond_false] at h; exact selX_some h
def wpF (P : Program) (f : FuncId) (c : Code) (Q : Exit -> Act -> World -> Prop) (a : Act) (w : World) : Prop :=
 ∀ (b : Frame) (k : List Item) (cs : List Frame), b.fn = f -> ∃ e a' w', Q e a' w' /\ Arrives P (lone (b.at a (.code c :: k)) cs w) b k cs e a' w'
section
variable {f : FuncId} {Q : Exit -> Act -> World -> Prop} {a : Act} {w : World}
theorem wpF_of {c : Code} (h : c.wp P Q a w) : wpF P f c Q a w:=λ b k cs _ => h b k cs
theorem wpF_seq {x y : Code} (h : wpF P f x (Exit.then (wpF P f y Q) Q) a w) : wpF P f (.seq x y) Q a w:=by
 intro b k cs hb
 obtain ⟨e, a₁, w₁, hq, harr⟩:=h b (.code y :: k) cs hb
 cases e with
 | normal =>
  obtain ⟨e₂, a₂, w₂, hq₂, harr₂⟩:=hq b k cs hb
  exact ⟨e₂, a₂, w₂, hq₂, .of_steps (.head step_seq harr) harr₂⟩
 | exit id => exact ⟨_, a₁, w₁, hq, .of_steps (.one step_seq) (.pass (x:=.code y) rfl (λ _ _ => .inl (by simp)) harr)⟩
 | goto l => exact ⟨_, a₁, w₁, hq, .of_steps (.one step_seq) (.pass (x:=.code y) rfl (λ _ _ => .inl (by simp)) harr)⟩
 | ret => exact ⟨_, a₁, w₁, hq, .of_steps (.one step_seq) (.pass (x:=.code y) rfl (λ _ _ => .inl (by simp)) harr)⟩
 | panic ch => exact ⟨_, a₁, w₁, hq, .of_steps (.one step_seq) (.pass (x:=.code y) rfl (λ _ _ => .inl (by simp)) harr)⟩
 | outgrown => exact ⟨_, a₁, w₁, hq, .of_steps (.one step_seq) (.pass (x:=.code y) rfl (λ _ _ => .inl (by simp)) harr)⟩
theorem wpF_cond {c : Operand} {x y : Code} {t : Bool} (hc : a.eval c = .bool t) (h : wpF P f (if t then x else y) Q a w) : wpF P f (.cond c x y) Q a w :=
 λ b k cs hb => let ⟨e, a', w', q, r⟩:=h b k cs hb; ⟨e, a', w', q, .of_steps (.one (step_cond hc)) r⟩
theorem wpF_block {id : Nat} {c : Code} (h : wpF P f c (Exit.inBlock id Q) a w) : wpF P f (.block id c) Q a w:=by
 intro b k cs hb
 obtain ⟨e, a₁, w₁, hq, harr⟩:=h b (.inBlock id :: k) cs hb
 cases e with
 | normal => exact ⟨.normal, a₁, w₁, hq, .head step_block (Steps.trans harr (.one step_inBlock))⟩
 | exit id' =>
  by_cases hid : id' = id
  ·simp only [Exit.inBlock, hid, if_true] at hq
   exact ⟨.normal, a₁, w₁, hq, .head step_block (harr k (by simp [exitTo, hid]))⟩
  ·simp only [Exit.inBlock, hid, if_false] at hq
   refine ⟨.exit id', a₁, w₁, hq, λ k' hk => .head step_block (harr k' ?_)⟩
   have : (id == id') = false:=by simp; exact λ h => hid h.symm
   simp [exitTo, this, hk]
 | goto l => exact ⟨_, a₁, w₁, hq, λ k' hk => .head step_block (harr k' (by simp [gotoIn, hk]))⟩
 | ret => exact ⟨_, a₁, w₁, hq, .of_steps (.one step_block) harr⟩
 | panic ch => exact ⟨_, a₁, w₁, hq, .of_steps (.one step_block) harr⟩
 | outgrown => exact ⟨_, a₁, w₁, hq, .of_steps (b:=b) (k:=k) (cs:=cs) (e:=.outgrown) (.one step_block) harr⟩
def roundsF (P : Program) (f : FuncId) (c : Code) (Q : Exit -> Act -> World -> Prop) : Nat -> Act -> World -> Prop
 | 0, _, _ => False
 | n + 1, a, w => wpF P f c (Exit.then (roundsF P f c Q n) Q) a w
theorem wpF_loop {c : Code} (n : Nat) (h : roundsF P f c Q n a w) : wpF P f (.loop c) Q a w:=by
 intro b k cs hb
 have key : ∀ n a w, roundsF P f c Q n a w ->
   ∃ e a' w', Q e a' w' /\ Arrives P (lone (b.at a (.code c :: .inLoop c :: k)) cs w) b k cs e a' w':=by
  intro n
  induction n with
  | zero => intro a w h; exact h.elim
  | succ n ih =>
   intro a w h
   obtain ⟨e, a₁, w₁, hq, harr⟩:=h b (.inLoop c :: k) cs hb
   cases e with
   | normal =>
    obtain ⟨e₂, a₂, w₂, hq₂, harr₂⟩:=ih a₁ w₁ hq
    exact ⟨e₂, a₂, w₂, hq₂, .of_steps (Steps.trans harr (.one step_inLoop)) harr₂⟩
   | exit id => exact ⟨_, a₁, w₁, hq, .pass (x:=.inLoop c) rfl (λ _ _ => .inl (by simp)) harr⟩
   | goto l => exact ⟨_, a₁, w₁, hq, .pass (x:=.inLoop c) rfl (λ _ _ => .inl (by simp)) harr⟩
   | ret => exact ⟨_, a₁, w₁, hq, .pass (x:=.inLoop c) rfl (λ _ _ => .inl (by simp)) harr⟩
   | panic ch => exact ⟨_, a₁, w₁, hq, .pass (x:=.inLoop c) rfl (λ _ _ => .inl (by simp)) harr⟩
   | outgrown => exact ⟨_, a₁, w₁, hq, .pass (x:=.inLoop c) rfl (λ _ _ => .inl (by simp)) harr⟩
 obtain ⟨e, a', w', hq, harr⟩:=key n a w h
 exact ⟨e, a', w', hq, .of_steps (.one step_loop) harr⟩
theorem wpF_scope {c : Code} (h : wpF P f c (Exit.noGoto Q) a w) : wpF P f (.scope c) Q a w:=by
 intro b k cs hb
 obtain ⟨e, a₁, w₁, hq, harr⟩:=h b (.inScope c :: k) cs hb
 cases e with
 | normal => exact ⟨.normal, a₁, w₁, hq, .head step_scope (Steps.trans harr (.one step_inScope))⟩
 | exit id => exact ⟨.exit id, a₁, w₁, hq, λ k' hk => .head step_scope (harr k' (by simp [exitTo, hk]))⟩
 | goto l => exact hq.elim
 | ret => exact ⟨_, a₁, w₁, hq, .of_steps (.one step_scope) harr⟩
 | panic ch => exact ⟨_, a₁, w₁, hq, .of_steps (.one step_scope) harr⟩
 | outgrown => exact ⟨_, a₁, w₁, hq, .of_steps (.one step_scope) harr⟩
theorem calls_of_wpF {c : Code} {args : Array Value} {R : Ending -> World -> Prop} (hf : P.funcs[f]? = some fn) (hb : fn.body = some c)
  (h : wpF P f c (bodyPost P fn R) { tmps:=args ++ Array.replicate (fn.ntmps - args.size) undef, defers:=[] } w) : Calls P f args w R:=by
 intro cs
 let b : Frame:={ (default : Frame) with fn:=f, kind:=.normal }
 have henter : Frame.enter P f args .normal = b.at { tmps:=args ++ Array.replicate (fn.ntmps - args.size) undef, defers:=[] } [.code c]:=by
  simp [Frame.enter, Frame.at, hf, hb, b]
 obtain ⟨e, a', w', hq, harr⟩:=h b [] cs rfl
 rw [<- henter] at harr
 cases e with
 | normal =>
  obtain ⟨hd, v, hr, hR⟩:=hq
  exact ⟨.returned v, w', _, hR, Steps.trans harr (.one step_end), rfl, rfl, hd, rfl, fn, hf, hr⟩
 | ret =>
  obtain ⟨hd, v, hr, hR⟩:=hq
  obtain ⟨todo, hs⟩:=harr
  exact ⟨.returned v, w', _, hR, hs, rfl, rfl, hd, rfl, fn, hf, hr⟩
 | panic chain =>
  obtain ⟨hd, hR⟩:=hq
  obtain ⟨todo, hs⟩:=harr
  exact ⟨.panicked chain, w', _, hR, hs, rfl, rfl, hd, fn, hf⟩
 | exit id => exact hq.elim
 | goto l => exact hq.elim
 | outgrown => exact ⟨.outgrown, w', b, hq, harr.resolve_left (by simp [b]), rfl, trivial⟩
theorem wpF_alts {id : Nat} {ops : Array Oper} (hm : P.follows .mixedOrders = true) (h : wpOps P ops Q (Region.schedule true ops (w.tape w.drawn (.order f id))) a w.drew) : wpF P f (.region id ops true) Q a w:=by
 intro b k cs hb
 subst hb
 obtain ⟨e, a', w', q, r⟩:=wp_ops _ a w.drew h b k cs
 refine ⟨e, a', w', q, .of_steps (.one ?_) r⟩
 have:=step_region_draw (P:=P) (b:=b) (a:=a) (k:=k) (cs:=cs) (w:=w) (ops:=ops) (id:=id)
 rw [hm] at this
 exact this
end
theorem eqL_eq : ∀ {a b : List Nat}, eqL a b = true -> a = b
 | [], [], _ => rfl
 | [], _ :: _, h => by simp [eqL] at h
 | _ :: _, [], h => by simp [eqL] at h
 | a :: r, b :: s, h => by
  simp only [eqL, Bool.and_eq_true] at h
  rw [Nat.eq_of_beq_eq_true h.1, eqL_eq h.2]
theorem altM_some {β : Type} {σ : World -> List Nat} {w : World} {r : β × World} : ∀ {l : List (List Nat × M β)}, altM σ l w = some r -> σ w ∈ l.map (·.1) -> ∃ m, (σ w, m) ∈ l /\ m w.drew = some r
 | [], h, _ => by cases h
 | [x], h, hm => by
  simp only [List.map_cons, List.map_nil, List.mem_singleton] at hm
  refine ⟨x.2, ?_, h⟩
  rw [hm]; simp
 | x :: y :: l, h, hm => by
  simp only [altM] at h
  by_cases hx : σ w = x.1
  ·rw [if_pos hx] at h
   refine ⟨x.2, ?_, h⟩
   rw [hx]; simp
  ·rw [if_neg hx] at h
   have hm' : σ w ∈ (y :: l).map (·.1):=by
    rw [List.map_cons, List.mem_cons] at hm
    exact hm.resolve_left hx
   obtain ⟨m, h1, h2⟩:=altM_some h hm'
   exact ⟨m, List.mem_cons_of_mem _ h1, h2⟩
theorem altList_mem {n : Nat} {ops : Array Oper} {ρ : Env} {ws : List Nat} {s : List Nat} {m : M (List Value)} : ∀ {orders : List (List Nat)}, (s, m) ∈ altList P T Tc n ops ρ ws orders ->
  ∃ π ∈ orders, s = π.filter (actAt ops (isActO P)) /\ m = evCore P T Tc n (permOps ops (isActO P) π) ρ (slotsM ws)
 | [], h => by cases h
 | π :: r, h => by
  simp only [altList, List.mem_cons, Prod.mk.injEq] at h
  rcases h with ⟨h1, h2⟩ | h
  ·exact ⟨π, by simp, h1, h2⟩
  ·obtain ⟨π', h1, h2⟩:=altList_mem h
   exact ⟨π', by simp [h1], h2⟩
theorem altList_fst {n : Nat} {ops : Array Oper} {ρ : Env} {ws : List Nat} : ∀ {orders : List (List Nat)} {π : List Nat}, π ∈ orders -> π.filter (actAt ops (isActO P)) ∈ (altList P T Tc n ops ρ ws orders).map (·.1)
 | [], π, h => by cases h
 | π' :: r, π, h => by
  simp only [altList, List.map_cons, List.mem_cons]
  rcases List.mem_cons.1 h with rfl | h
  ·exact .inl rfl
  ·exact .inr (altList_fst h)
theorem alts_sound (hT : TabOk P T) (hTc : TabOk P Tc) {n : Nat} {id : Nat} {f : FuncId} {ops : Array Oper} {orders : List (List Nat)} {ws : List Nat} {ρ : Env} {w w' : World} {l : List Value} {a : Act} {Q : Exit -> Act -> World -> Prop}
  (hok : altsOK P ops orders = true) (h : altM (ordO P ops f id) (altList P T Tc n ops ρ ws orders) w = some (l, w')) (hA : Agree n a ρ)
  (hQ : ∀ a' ρ', Agree n a' ρ' -> KeepsR ops.toList a a' -> slots ρ' ws = some l -> Q .normal a' w') : wpF P f (.region id ops true) Q a w:=by
 simp only [altsOK, Bool.and_eq_true] at hok
 obtain ⟨⟨⟨⟨hedge, hg⟩, hm⟩, hperm⟩, hcov⟩:=hok
 have hL:=linExt_schedule (ops:=ops) (w.tape w.drawn (.order f id))
 have hin:=exts_mem (isA:=isActO P) hedge _ _ (actsOf P ops) (actsOf P ops).length hL (by simp) (Nat.le_refl _) (λ i o ho hl => by simp [Array.getD] at hl) (λ i => by
  simp only [actsOf, List.mem_filter, List.mem_range]
  constructor
  ·rintro ⟨h1, h2⟩; exact ⟨h1, h2, by simp [Array.getD]⟩
  ·rintro ⟨h1, h2, _⟩; exact ⟨h1, h2⟩)
 rw [List.all_eq_true] at hcov
 have:=hcov _ hin
 rw [List.any_eq_true] at this
 obtain ⟨π0, hπ0, he0⟩:=this
 have he0:=eqL_eq he0
 obtain ⟨m, hmem, hrun⟩:=altM_some h (by
  have:=altList_fst (P:=P) (T:=T) (Tc:=Tc) (n:=n) (ops:=ops) (ρ:=ρ) (ws:=ws) hπ0
  rw [he0] at this
  exact this)
 obtain ⟨π, hπ, hs, rfl⟩:=altList_mem hmem
 rw [List.all_eq_true] at hperm
 have hp:=hperm π hπ
 refine wpF_alts hm ?_
 refine wpOps_perm (isA:=isActO P) hp hg _ a w.drew (λ i hi => hL.lt i hi) ?_
 have hL':=linExt_perm (isA:=isActO P) hp hedge _ [] _ (Array.replicate ops.size false) hL (by simp) (by simp) (λ k hk => by
  simp [Array.getD]) (λ i hi => by simp [Array.getD]) (by rw [List.nil_append]; exact hs)
 have hsz : (permOps ops (isActO P) π).size = ops.size:=by
  have : π.length = ops.size:=by
   simp only [permOK, Bool.and_eq_true] at hp
   exact Nat.eq_of_beq_eq_true hp.1.1
  simp [permOps, this]
 have hany:=evCore_any hT hTc hrun hA (Q:=Q) (λ a' ρ' w1 h1 h2 h3 => by
  unfold slotsM at h3
  cases hsl : slots ρ' ws with
  | none => simp [hsl, M.fail] at h3
  | some l' =>
   simp only [hsl, M.ret, Option.some.injEq, Prod.mk.injEq] at h3
   obtain ⟨rfl, rfl⟩:=h3
   refine hQ a' ρ' h1 (λ t hno => h2 t λ o ho hd => ?_) hsl
   simp only [permOps, List.mem_map] at ho
   obtain ⟨x, hx, rfl⟩:=ho
   unfold renum at hd
   cases hq : ops[x.1]? with
   | none => simp [hq] at hd; cases hd
   | some oo =>
    simp only [hq] at hd
    exact hno oo (by simpa using Array.mem_of_getElem? hq) hd)
 rw [hsz] at hany
 refine wpOps_of_any _ ops.size _ a w.drew hL' ?_ hany
 rw [List.length_map]
 have:=hL.length (by simp)
 have h2:=cn_le (f:=λ j => !(Array.replicate ops.size false).getD j false) (k:=ops.size)
 omega
theorem evK_sound (hT : TabOk P T) (hTc : TabOk P Tc) {f : FuncId} : ∀ (c : Code) (plan : Plan) (β : Type) (ρ : Env) (kn : Env -> M β) (kx : Nat -> Env -> M β) (kv : Value -> M β) (w : World) (r : β × World) (a : Act) (Q : Exit -> Act -> World -> Prop),
  evK P T Tc f fn c plan β ρ kn kx kv w = some r -> Agree fn.ntmps a ρ ->
  (∀ a' ρ' w', Agree fn.ntmps a' ρ' -> Keeps c a a' -> kn ρ' w' = some r -> Q .normal a' w') ->
  (∀ id a' ρ' w', Agree fn.ntmps a' ρ' -> Keeps c a a' -> kx id ρ' w' = some r -> Q (.exit id) a' w') ->
  (∀ a' v w', a'.defers = [] -> (results fn a'.tmps).run P w' = .ok v w' -> kv v w' = some r -> Q .ret a' w') -> wpF P f c Q a w:=by
 intro c
 induction c with
 | skip => intro plan β ρ kn kx kv w r a Q h hA hn hx hv; exact wpF_of (wp_skip (hn a ρ w hA (Keeps.refl _ _) (by simpa [evK] using h)))
 | label l => intro plan β ρ kn kx kv w r a Q h hA hn hx hv; exact wpF_of (wp_label (hn a ρ w hA (Keeps.refl _ _) (by simpa [evK] using h)))
 | region id ops draw =>
  intro plan β ρ kn kx kv w r a Q h hA hn hx hv
  have plain : (bif draw then evDraw P T Tc fn.ntmps ops ρ kn else evOps P T Tc fn.ntmps ops false ops.toList ρ kn) w = some r -> wpF P f (.region id ops draw) Q a w:=by
   intro h
   cases draw with
   | true => simp only [cond_true] at h; exact wpF_of (evDraw_sound hT hTc h hA λ a' ρ' w' h1 h2 h3 => hn a' ρ' w' h1 (Keeps.region h2) h3)
   | false => simp only [cond_false] at h; exact wpF_of (evReg_sound hT hTc h hA λ a' ρ' w' h1 h2 h3 => hn a' ρ' w' h1 (Keeps.region h2) h3)
  cases plan <;> first
   | (simp only [evK] at h; exact plain h)
   | skip
  case alts ws asg orders =>
   simp only [evK] at h
   cases hb : (draw && altsOK P ops orders && asgIn asg (.region id ops draw)) with
   | false => simp [hb, M.fail] at h
   | true =>
    simp only [hb, cond_true] at h
    simp only [Bool.and_eq_true] at hb
    obtain ⟨⟨rfl, hok⟩, hasg⟩:=hb
    obtain ⟨l, w1, h1, h2⟩:=bind_some h
    refine alts_sound hT hTc hok h1 hA λ a' ρ' hA' hk hs => ?_
    have hf : ∀ t v, forget asg ρ t = some v -> a.tmps[t]? = some v:=λ t v ht => by
     unfold forget at ht
     cases hb : asg.any (Nat.beq t) with
     | true => simp [hb] at ht
     | false => simp only [hb, cond_false] at ht; exact hA.at_ t v ht
    exact hn a' _ w1 (Agree.enter hf hA' (Keeps.region hk) hasg hs) (Keeps.region hk) h2
 | seq x y ihx ihy =>
  intro plan β ρ kn kx kv w r a Q h hA hn hx hv
  have left : ∀ a', Keeps x a a' -> Keeps (.seq x y) a a':=λ a' hk asg ha t ht => hk asg (by simp only [asgIn, Bool.and_eq_true] at ha; exact ha.1) t ht
  have both : ∀ a' a'', Keeps x a a' -> Keeps y a' a'' -> Keeps (.seq x y) a a'':=λ a' a'' h1 h2 asg ha t ht => by
   simp only [asgIn, Bool.and_eq_true] at ha
   rw [h2 asg ha.2 t ht, h1 asg ha.1 t ht]
  cases plan <;> simp only [evK] at h <;> try (cases h; done)
  case seq pa pb =>
   refine wpF_seq (ihx pa β ρ _ kx kv w r a _ h hA ?_ ?_ ?_)
   ·intro a' ρ' w' h1 h2 h3
    exact ihy pb β ρ' kn kx kv w' r a' Q h3 h1 (λ a'' ρ'' w'' g1 g2 g3 => hn a'' ρ'' w'' g1 (both a' a'' h2 g2) g3) (λ id a'' ρ'' w'' g1 g2 g3 => hx id a'' ρ'' w'' g1 (both a' a'' h2 g2) g3) hv
   ·intro id a' ρ' w' h1 h2 h3; exact hx id a' ρ' w' h1 (left a' h2) h3
   ·intro a' v w' h1 h2 h3; exact hv a' v w' h1 h2 h3
  case fork ws asg ids pa pb =>
   cases hi : asgIn asg x with
   | false => simp [hi, M.fail] at h
   | true =>
    simp only [hi, cond_true] at h
    obtain ⟨o, w1, ho, hk⟩:=bind_some h
    have hf : ∀ t v, forget asg ρ t = some v -> a.tmps[t]? = some v:=λ t v ht => by
     unfold forget at ht
     cases hb : asg.any (Nat.beq t) with
     | true => simp [hb] at ht
     | false => simp only [hb, cond_false] at ht; exact hA.at_ t v ht
    refine wpF_seq (ihx pa Out ρ _ _ _ w (o, w1) a _ ho hA ?_ ?_ ?_)
    ·intro a' ρ' w' h1 h2 h3
     obtain ⟨l, hl, rfl, rfl⟩:=outN_some h3
     exact ihy pb β _ kn kx kv _ r a' Q hk (Agree.enter hf h1 h2 hi hl) (λ a'' ρ'' w'' g1 g2 g3 => hn a'' ρ'' w'' g1 (both a' a'' h2 g2) g3) (λ id a'' ρ'' w'' g1 g2 g3 => hx id a'' ρ'' w'' g1 (both a' a'' h2 g2) g3) hv
    ·intro id a' ρ' w' h1 h2 h3
     obtain ⟨l, hl, rfl, rfl⟩:=outX_some h3
     exact hx id a' _ _ (Agree.enter hf h1 h2 hi hl) (left a' h2) (selX_some hk)
    ·intro a' v w' h1 h2 h3
     cases h3
     exact hv a' v _ h1 h2 hk
 | cond c x y ihx ihy =>
  intro plan β ρ kn kx kv w r a Q h hA hn hx hv
  have left : ∀ a', Keeps x a a' -> Keeps (.cond c x y) a a':=λ a' hk asg ha t ht => hk asg (by simp only [asgIn, Bool.and_eq_true] at ha; exact ha.1) t ht
  have right : ∀ a', Keeps y a a' -> Keeps (.cond c x y) a a':=λ a' hk asg ha t ht => hk asg (by simp only [asgIn, Bool.and_eq_true] at ha; exact ha.2) t ht
  cases plan <;> simp only [evK] at h <;> try (cases h; done)
  case cond pa pb =>
   cases hc : ev ρ c with
   | none => simp [hc, M.fail] at h
   | some v =>
    simp only [hc] at h
    unfold condM at h
    split at h
    ·exact wpF_cond (t:=true) (hA.eval hc) (ihx pa β ρ kn kx kv w r a Q h hA (λ a' ρ' w' h1 h2 h3 => hn a' ρ' w' h1 (left a' h2) h3) (λ id a' ρ' w' h1 h2 h3 => hx id a' ρ' w' h1 (left a' h2) h3) hv)
    ·exact wpF_cond (t:=false) (hA.eval hc) (ihy pb β ρ kn kx kv w r a Q h hA (λ a' ρ' w' h1 h2 h3 => hn a' ρ' w' h1 (right a' h2) h3) (λ id a' ρ' w' h1 h2 h3 => hx id a' ρ' w' h1 (right a' h2) h3) hv)
    ·cases h
 | block id b ih =>
  intro plan β ρ kn kx kv w r a Q h hA hn hx hv
  cases plan <;> simp only [evK] at h <;> try (cases h; done)
  case body pb =>
   refine wpF_block (ih pb β ρ _ _ kv w r a _ h hA hn ?_ hv)
   intro id' a' ρ' w' h1 h2 h3
   cases hb : Nat.beq id' id with
   | true =>
    simp only [hb, cond_true] at h3
    obtain rfl:=Nat.eq_of_beq_eq_true hb
    simp only [Exit.inBlock, if_true]
    exact hn a' ρ' w' h1 h2 h3
   | false =>
    simp only [hb, cond_false] at h3
    have : id' ≠ id:=λ e => by subst e; rw [Nat.beq_refl] at hb; cases hb
    simp only [Exit.inBlock, this, if_false]
    exact hx id' a' ρ' w' h1 h2 h3
 | loop b ih =>
  intro plan β ρ kn kx kv w r a Q h hA hn hx hv
  cases plan <;> simp only [evK] at h <;> try (cases h; done)
  case loop ws asg ids pb =>
   cases hi : asgIn asg b with
   | false => simp [hi, M.fail] at h
   | true =>
    simp only [hi, cond_true] at h
    cases hs : slots ρ ws with
    | none => simp [hs, M.fail] at h
    | some l0 =>
     simp only [hs] at h
     obtain ⟨o, w1, ho, hk⟩:=bind_some h
     obtain ⟨m, hm⟩:=loopM_some.1 ho
     have hf : ∀ t v, forget asg ρ t = some v -> a.tmps[t]? = some v:=λ t v ht => by
      unfold forget at ht
      cases hb : asg.any (Nat.beq t) with
      | true => simp [hb] at ht
      | false => simp only [hb, cond_false] at ht; exact hA.at_ t v ht
     refine wpF_loop m ?_
     have hA0 : Agree fn.ntmps a (enter (forget asg ρ) l0 ws 0):=Agree.enter hf hA (Keeps.refl b a) hi hs
     have key : ∀ (m : Nat) (l : List Value) (w : World) (a' : Act), iterM (λ l => evK P T Tc f fn b pb Out (enter (forget asg ρ) l ws 0) (outN ws) (outX ws) (λ v => M.ret (.ret v))) m l w = some (o, w1) ->
       Agree fn.ntmps a' (enter (forget asg ρ) l ws 0) -> Keeps b a a' -> roundsF P f b Q m a' w:=by
      intro m
      induction m with
      | zero => intro l w a' h; cases h
      | succ m ihm =>
       intro l w a' h hA' hKa
       have trans : ∀ a'', Keeps b a' a'' -> Keeps b a a'':=λ a'' h2 asg ha t ht => by rw [h2 asg ha t ht, hKa asg ha t ht]
       simp only [iterM] at h
       obtain ⟨o1, w2, ho1, hk1⟩:=bind_some h
       show wpF P f b (Exit.then (roundsF P f b Q m) Q) a' w
       refine ih pb Out _ _ _ _ w (o1, w2) a' _ ho1 hA' ?_ ?_ ?_
       ·intro a'' ρ'' w'' g1 g2 g3
        obtain ⟨l', hl', rfl, rfl⟩:=outN_some g3
        refine ihm l' _ a'' hk1 ?_ (trans a'' g2)
        exact Agree.enter hf g1 (trans a'' g2) hi hl'
       ·intro id a'' ρ'' w'' g1 g2 g3
        obtain ⟨l', hl', rfl, rfl⟩:=outX_some g3
        cases hk1
        exact hx id a'' _ _ (Agree.enter hf g1 (trans a'' g2) hi hl') (trans a'' g2) (selX_some hk)
       ·intro a'' v w'' g1 g2 g3
        cases g3
        cases hk1
        exact hv a'' v _ g1 g2 hk
     exact key m l0 w a hm hA0 (Keeps.refl b a)
 | scope b ih =>
  intro plan β ρ kn kx kv w r a Q h hA hn hx hv
  cases plan <;> simp only [evK] at h <;> try (cases h; done)
  case body pb => exact wpF_scope (ih pb β ρ kn kx kv w r a _ h hA hn hx hv)
 | exit id => intro plan β ρ kn kx kv w r a Q h hA hn hx hv; exact wpF_of (wp_exit (hx id a ρ w hA (Keeps.refl _ _) (by simpa [evK] using h)))
 | ret =>
  intro plan β ρ kn kx kv w r a Q h hA hn hx hv
  simp only [evK] at h
  obtain ⟨v, h1, h2⟩:=results_resK hA h
  exact wpF_of (wp_ret (hv a v w hA.defers h1 h2))
 | rangeFunc f p x y _ _ => intro plan β ρ kn kx kv w r a Q h; simp [evK, M.fail] at h
 | goto l => intro plan β ρ kn kx kv w r a Q h; simp [evK, M.fail] at h
 | refuse s => intro plan β ρ kn kx kv w r a Q h; simp [evK, M.fail] at h
def LiftOk (P : Program) (f : FuncId) (g : List Value -> M Value) : Prop:=∀ args w v w', g args w = some (v, w') -> Got P (callFunc f args.toArray) w v w'
theorem nthV_some : ∀ {l : List Value} {t : Nat} {v : Value}, nthV l t = some v -> l[t]? = some v
 | [], t, v, h => by simp [nthV] at h
 | x :: l, 0, v, h => by simpa [nthV] using h
 | x :: l, t + 1, v, h => by simp only [nthV] at h; simpa using nthV_some h
theorem evFn_sound (hT : TabOk P T) (hTc : TabOk P Tc) {f : FuncId} {plan : Plan} (hf : P.funcs[f]? = some fn) (hname : (fn.name == "runtime.NumGoroutine") = false) : LiftOk P f (evFn P T Tc f fn plan):=by
 intro args w v w' h
 unfold evFn at h
 cases hb : fn.body with
 | none => simp [hb, M.fail] at h
 | some c =>
  simp only [hb] at h
  cases hl : Nat.ble args.length fn.ntmps with
  | false => simp [hl, M.fail] at h
  | true =>
   simp only [hl, cond_true] at h
   have hle : args.length <= fn.ntmps:=Nat.le_of_ble_eq_true hl
   refine .inr (.inr ⟨f, args.toArray, w, ?_, ?_⟩)
   ·simp [callFunc, hf, show fn.name ≠ "runtime.NumGoroutine" by simpa using hname, hb]
   ·refine calls_of_wpF hf hb ?_
    have hA : Agree fn.ntmps { tmps:=args.toArray ++ Array.replicate (fn.ntmps - args.toArray.size) undef, defers:=[] } (nthV args):=by
     refine ⟨rfl, by simp; omega, λ t u ht => ?_⟩
     have:=nthV_some ht
     have hlt : t < args.length:=(List.getElem?_eq_some_iff.1 this).1
     rw [Array.getElem?_append_left (by simpa using hlt)]
     simpa using this
    refine evK_sound hT hTc c plan Value _ _ _ _ w (v, w') _ _ h hA ?_ ?_ ?_
    ·intro a' ρ' w1 h1 _ h3
     obtain ⟨u, h4, h5⟩:=results_resK (k:=M.ret) h1 h3
     cases h5
     exact ⟨h1.defers, _, h4, rfl, rfl⟩
    ·intro id a' ρ' w1 _ _ h3; cases h3
    ·intro a' u w1 h1 h2 h3
     cases h3
     exact ⟨h1, _, h2, rfl, rfl⟩
def tnil : Tab:=λ _ _ => M.fail
def tcons (f : FuncId) (g : List Value -> M Value) (T : Tab) : Tab:=λ f' args => bif Nat.beq f' f then g args else T f' args
theorem tnil_ok : TabOk P tnil:=λ _ _ _ _ _ h => by cases h
theorem tcons_ok {f : FuncId} {g : List Value -> M Value} {T : Tab} (hg : LiftOk P f g) (hT : TabOk P T) : TabOk P (tcons f g T):=by
 intro f' args w v w' h
 unfold tcons at h
 cases hb : Nat.beq f' f with
 | true =>
  simp only [hb, cond_true] at h
  obtain rfl:=Nat.eq_of_beq_eq_true hb
  exact hg args w v w' h
 | false => simp only [hb, cond_false] at h; exact hT f' args w v w' h
theorem lift0 {f : FuncId} {g : List Value -> M Value} (h : LiftOk P f g) {g' : M Value} (e : g [] = g') : LiftOk P f (ap0 g'):=by
 intro args w v w' hh
 match args, hh with
 | [], hh => simp only [ap0] at hh; rw [<- e] at hh; exact h _ w v w' hh
 | _ :: _, hh => simp [ap0, M.fail] at hh
theorem lift1 {f : FuncId} {g : List Value -> M Value} (h : LiftOk P f g) {g' : Value -> M Value} (e : ∀ a, g [a] = g' a) : LiftOk P f (ap1 g'):=by
 intro args w v w' hh
 match args, hh with
 | [a], hh => simp only [ap1] at hh; rw [<- e] at hh; exact h _ w v w' hh
 | [], hh => simp [ap1, M.fail] at hh
 | _ :: _ :: _, hh => simp [ap1, M.fail] at hh
theorem lift2 {f : FuncId} {g : List Value -> M Value} (h : LiftOk P f g) {g' : Value -> Value -> M Value} (e : ∀ a b, g [a, b] = g' a b) : LiftOk P f (ap2 g'):=by
 intro args w v w' hh
 unfold ap2 at hh
 split at hh
 ·rw [<- e] at hh; exact h _ w v w' hh
 ·cases hh
theorem lift3 {f : FuncId} {g : List Value -> M Value} (h : LiftOk P f g) {g' : Value -> Value -> Value -> M Value} (e : ∀ a b c, g [a, b, c] = g' a b c) : LiftOk P f (ap3 g'):=by
 intro args w v w' hh
 unfold ap3 at hh
 split at hh
 ·rw [<- e] at hh; exact h _ w v w' hh
 ·cases hh
theorem lift5 {f : FuncId} {g : List Value -> M Value} (h : LiftOk P f g) {g' : Value -> Value -> Value -> Value -> Value -> M Value} (e : ∀ a b c d x, g [a, b, c, d, x] = g' a b c d x) : LiftOk P f (ap5 g'):=by
 intro args w v w' hh
 unfold ap5 at hh
 split at hh
 ·rw [<- e] at hh; exact h _ w v w' hh
 ·cases hh
theorem LiftOk.calls {f : FuncId} {g : List Value -> M Value} (h : LiftOk P f g) {args : List Value} {w w' : World} {v : Value} (hf : P.funcs[f]? = some fn) (hb : fn.body.isSome = true) (hname : (fn.name == "runtime.NumGoroutine") = false)
  (hg : g args w = some (v, w')) : Calls P f args.toArray w λ e w'' => e = .returned v /\ w'' = w':=by
 have hc : (callFunc f args.toArray).run P w = .ok (.enter f args.toArray) w:=by
  obtain ⟨c, hc⟩:=Option.isSome_iff_exists.1 hb
  simp [callFunc, hf, show fn.name ≠ "runtime.NumGoroutine" by simpa using hname, hc]
 rcases h args w v w' hg with h1 | ⟨_, h1⟩ | ⟨f', args', w1, h1, h2⟩
 ·rw [hc] at h1; cases h1
 ·rw [hc] at h1; cases h1
 ·rw [hc] at h1; cases h1; exact h2
end
end Go.Lift
namespace Go.Proofs
open Go.Shelf
def Tryz.lays156_ren : Go.Shelf.Ren:=⟨λ | 156 => 67 | 165 => 113 | 166 => 90 | 169 => 92 | 240 => 130 | 241 => 145 | 276 => 155 | 277 => 165 | n => n, λ | 31 => 82 | 9 => 9 | 3 => 3 | 4 => 4 | 0 => 0 | 20 => 20 | 72 => 93 | 76 => 148 | 70 => 90 | 37 => 91 | 75 => 147 | 127 => 182 | 164 => 208 | 5 => 5 | 80 => 132 | n => n, λ | n => n⟩
theorem Tryz.lays156 : Go.Proofs.Lays.n156 Tryz.prog Tryz.lays156_ren:={
 mixed:=by kernel_rfl
 f156:=Tryz.func67.trans (congrArg some (by kernel_rfl))
 f165:=Tryz.func113.trans (congrArg some (by kernel_rfl))
 f166:=Tryz.func90.trans (congrArg some (by kernel_rfl))
 f169:=Tryz.func92.trans (congrArg some (by kernel_rfl))
 f240:=Tryz.func130.trans (congrArg some (by kernel_rfl))
 f241:=Tryz.func145.trans (congrArg some (by kernel_rfl))
 f276:=Tryz.func155.trans (congrArg some (by kernel_rfl))
 f277:=Tryz.func165.trans (congrArg some (by kernel_rfl))
 t0:=Tryz.underlying0
 a0:=Tryz.isAgg0
 z0:=Tryz.sizeOf0
 v0:=Tryz.zeroValue0
 t3:=Tryz.underlying3
 a3:=Tryz.isAgg3
 z3:=Tryz.sizeOf3
 v3:=Tryz.zeroValue3
 t4:=Tryz.underlying4
 a4:=Tryz.isAgg4
 z4:=Tryz.sizeOf4
 v4:=Tryz.zeroValue4
 t9:=Tryz.underlying9
 a9:=Tryz.isAgg9
 z9:=Tryz.sizeOf9
 v9:=Tryz.zeroValue9
 t20:=Tryz.underlying20
 a20:=Tryz.isAgg20
 z20:=Tryz.sizeOf20
 v20:=Tryz.zeroValue20
 t31:=Tryz.underlying82
 a31:=Tryz.isAgg82
 z31:=Tryz.sizeOf82
 v31:=Tryz.zeroValue82
 t37:=Tryz.underlying91
 a37:=Tryz.isAgg91
 z37:=Tryz.sizeOf91
 v37:=Tryz.zeroValue91
 t70:=Tryz.underlying90
 a70:=Tryz.isAgg90
 z70:=Tryz.sizeOf90
 v70:=Tryz.zeroValue90
 t72:=Tryz.underlying93
 a72:=Tryz.isAgg93
 z72:=Tryz.sizeOf93
 v72:=Tryz.zeroValue93
 t75:=Tryz.underlying147
 a75:=Tryz.isAgg147
 z75:=Tryz.sizeOf147
 v75:=Tryz.zeroValue147
 t76:=Tryz.underlying148
 a76:=Tryz.isAgg148
 z76:=Tryz.sizeOf148
 v76:=Tryz.zeroValue148
 t127:=Tryz.underlying182
 a127:=Tryz.isAgg182
 z127:=Tryz.sizeOf182
 v127:=Tryz.zeroValue182
 t164:=Tryz.underlying208
 a164:=Tryz.isAgg208
 z164:=Tryz.sizeOf208
 v164:=Tryz.zeroValue208 }
theorem Tryz.Builder_Extra_156 : Builder.Extra Tryz.prog Tryz.lays156_ren:={
 sizeBuilder:=by kernel_rfl
 liesBuilder:=by kernel_rfl
 t5:=Tryz.underlying5
 a5:=Tryz.isAgg5
 z5:=Tryz.sizeOf5
 v5:=Tryz.zeroValue5
 infoByte:=by kernel_rfl
 cellsByte:=by kernel_rfl
 sizeByte:=by kernel_rfl
 neB5:=by decide }
open Go.RowKit in
theorem Tryz.strings_Join (bk o c : Nat) (xs : List ByteArray) (sep : ByteArray) (w : World) (hcells : ∀ (j : Nat) x, xs[j]? = some x -> w.cell? ⟨bk, o + j, none⟩ = some (.string x)) (hbk : bk < w.heap.size) (hN : xs.length <= 140737488355328) (hcap : xs.length <= c) (hlen : (Lib.join (xs.map (·.data.toList)) sep.data.toList).length <= 140737488355328) :
  Calls Tryz.prog 67 #[.slice (some ⟨bk, o, none⟩) xs.length c, .string sep] w λ e w' => e = .returned (.string ⟨(Lib.join (xs.map (·.data.toList)) sep.data.toList).toArray⟩) /\ Below w.heap.size w w':=Any.strings_Join Tryz.lays156 Tryz.Builder_Extra_156 bk o c xs sep w hcells hbk hN hcap hlen
def Tryz.lays231_ren : Go.Shelf.Ren:=⟨λ | 231 => 123 | n => n, λ | 9 => 9 | 5 => 5 | 3 => 3 | 4 => 4 | n => n, λ | n => n⟩
theorem Tryz.lays231 : Go.Proofs.Lays.n231 Tryz.prog Tryz.lays231_ren:={
 mixed:=by kernel_rfl
 f231:=Tryz.func123.trans (congrArg some (by kernel_rfl))
 t3:=Tryz.underlying3
 a3:=Tryz.isAgg3
 z3:=Tryz.sizeOf3
 v3:=Tryz.zeroValue3
 t4:=Tryz.underlying4
 a4:=Tryz.isAgg4
 z4:=Tryz.sizeOf4
 v4:=Tryz.zeroValue4
 t5:=Tryz.underlying5
 a5:=Tryz.isAgg5
 z5:=Tryz.sizeOf5
 v5:=Tryz.zeroValue5
 t9:=Tryz.underlying9
 a9:=Tryz.isAgg9
 z9:=Tryz.sizeOf9
 v9:=Tryz.zeroValue9 }
open Go.RowKit in
theorem Tryz.strings_trimLeftByte (s : ByteArray) (c : UInt8) (w : World) :
  Calls Tryz.prog 123 #[.string s, .int .u8 c.toNat] w λ e w' => e = .returned (.string ⟨(Lib.trimLeftB s.data.toList c).toArray⟩) /\ w' = w:=Any.strings_trimLeftByte Tryz.lays231 s c w
def Tryz.lays232_ren : Go.Shelf.Ren:=⟨λ | 232 => 124 | n => n, λ | 9 => 9 | 5 => 5 | 3 => 3 | 4 => 4 | n => n, λ | n => n⟩
theorem Tryz.lays232 : Go.Proofs.Lays.n232 Tryz.prog Tryz.lays232_ren:={
 mixed:=by kernel_rfl
 f232:=Tryz.func124.trans (congrArg some (by kernel_rfl))
 t3:=Tryz.underlying3
 a3:=Tryz.isAgg3
 z3:=Tryz.sizeOf3
 v3:=Tryz.zeroValue3
 t4:=Tryz.underlying4
 a4:=Tryz.isAgg4
 z4:=Tryz.sizeOf4
 v4:=Tryz.zeroValue4
 t5:=Tryz.underlying5
 a5:=Tryz.isAgg5
 z5:=Tryz.sizeOf5
 v5:=Tryz.zeroValue5
 t9:=Tryz.underlying9
 a9:=Tryz.isAgg9
 z9:=Tryz.sizeOf9
 v9:=Tryz.zeroValue9 }
open Go.RowKit in
theorem Tryz.strings_trimRightByte (s : ByteArray) (c : UInt8) (w : World) (hs : s.size <= 9223372036854775807) :
  Calls Tryz.prog 124 #[.string s, .int .u8 c.toNat] w λ e w' => e = .returned (.string ⟨(Lib.trimRightB s.data.toList c).toArray⟩) /\ w' = w:=Any.strings_trimRightByte Tryz.lays232 s c w hs
def Tryz.lays103_ren : Go.Shelf.Ren:=⟨λ | 103 => 105 | 210 => 143 | 206 => 162 | n => n, λ | 9 => 9 | 4 => 4 | 24 => 107 | 3 => 3 | n => n, λ | n => n⟩
theorem Tryz.lays103 : Go.Proofs.Lays.n103 Tryz.prog Tryz.lays103_ren:={
 mixed:=by kernel_rfl
 f103:=Tryz.func105.trans (congrArg some (by kernel_rfl))
 f206:=Tryz.func162.trans (congrArg some (by kernel_rfl))
 f210:=Tryz.func143.trans (congrArg some (by kernel_rfl))
 t3:=Tryz.underlying3
 a3:=Tryz.isAgg3
 z3:=Tryz.sizeOf3
 v3:=Tryz.zeroValue3
 t4:=Tryz.underlying4
 a4:=Tryz.isAgg4
 z4:=Tryz.sizeOf4
 v4:=Tryz.zeroValue4
 t9:=Tryz.underlying9
 a9:=Tryz.isAgg9
 z9:=Tryz.sizeOf9
 v9:=Tryz.zeroValue9
 t24:=Tryz.underlying107
 a24:=Tryz.isAgg107
 z24:=Tryz.sizeOf107
 v24:=Tryz.zeroValue107 }
open Go.RowKit in
theorem Tryz.strings_CutPrefix (s p : ByteArray) (w : World) :
  Calls Tryz.prog 105 #[.string s, .string p] w λ e w' => e = .returned (.tuple #[.string ⟨(Lib.trimPrefix s.data.toList p.data.toList).toArray⟩, .bool (Lib.hasPrefix s.data.toList p.data.toList)]) /\ w' = w:=Any.strings_CutPrefix Tryz.lays103 s p w
def Tryz.lays283_ren : Go.Shelf.Ren:=⟨λ | 283 => 156 | n => n, λ | 3 => 3 | 9 => 9 | 4 => 4 | n => n, λ | n => n⟩
theorem Tryz.lays283 : Go.Proofs.Lays.n283 Tryz.prog Tryz.lays283_ren:={
 mixed:=by kernel_rfl
 f283:=Tryz.func156.trans (congrArg some (by kernel_rfl))
 t3:=Tryz.underlying3
 a3:=Tryz.isAgg3
 z3:=Tryz.sizeOf3
 v3:=Tryz.zeroValue3
 t4:=Tryz.underlying4
 a4:=Tryz.isAgg4
 z4:=Tryz.sizeOf4
 v4:=Tryz.zeroValue4
 t9:=Tryz.underlying9
 a9:=Tryz.isAgg9
 z9:=Tryz.sizeOf9
 v9:=Tryz.zeroValue9 }
open Go.Lib in
theorem Tryz.internal_strconv_small (i : Nat) (h : i < 100) (w : World) :
  Calls Tryz.prog 156 #[.int .i64 i] w λ e w' => e = .returned (.string ⟨(Lib.decDigits i).toArray⟩) /\ w' = w:=Any.internal_strconv_small Tryz.lays283 i h w
def Tryz.laysM284_ren : Go.Shelf.Ren:=⟨λ | 284 => 157 | 129 => 177 | 317 => 176 | 318 => 178 | n => n, λ | 53 => 202 | 3 => 3 | 212 => 229 | 0 => 0 | 4 => 4 | 46 => 155 | 5 => 5 | 9 => 9 | n => n, λ | 17 => 6 | n => n⟩
theorem Tryz.laysM284 : Go.Proofs.LaysM.n284 Tryz.prog Tryz.laysM284_ren:={
 mixed:=by kernel_rfl
 f129:=Tryz.func177.trans (congrArg some (by kernel_rfl))
 f284:=Tryz.func157.trans (congrArg some (by kernel_rfl))
 f317:=Tryz.func176.trans (congrArg some (by kernel_rfl))
 f318:=Tryz.func178.trans (congrArg some (by kernel_rfl))
 t0:=Tryz.underlying0
 a0:=Tryz.isAgg0
 z0:=Tryz.sizeOf0
 v0:=Tryz.zeroValue0
 t3:=Tryz.underlying3
 a3:=Tryz.isAgg3
 z3:=Tryz.sizeOf3
 v3:=Tryz.zeroValue3
 t4:=Tryz.underlying4
 a4:=Tryz.isAgg4
 z4:=Tryz.sizeOf4
 v4:=Tryz.zeroValue4
 t5:=Tryz.underlying5
 a5:=Tryz.isAgg5
 z5:=Tryz.sizeOf5
 v5:=Tryz.zeroValue5
 t9:=Tryz.underlying9
 a9:=Tryz.isAgg9
 z9:=Tryz.sizeOf9
 v9:=Tryz.zeroValue9
 t46:=Tryz.underlying155
 a46:=Tryz.isAgg155
 z46:=Tryz.sizeOf155
 v46:=Tryz.zeroValue155
 t53:=Tryz.underlying202
 a53:=Tryz.isAgg202
 z53:=Tryz.sizeOf202
 v53:=Tryz.zeroValue202
 t212:=Tryz.underlying229
 a212:=Tryz.isAgg229
 z212:=Tryz.sizeOf229
 v212:=Tryz.zeroValue229
 g17:=by kernel_rfl
 i0:=by kernel_rfl
 i3:=by kernel_rfl
 i4:=by kernel_rfl
 i5:=by kernel_rfl
 i9:=by kernel_rfl
 i46:=by kernel_rfl
 i53:=by kernel_rfl
 i212:=by kernel_rfl
 m17:=by kernel_rfl }
open Go.Lib in
theorem Tryz.internal_strconv_numDigits (u : Nat) (h1 : 1 <= u) (h2 : u < 18446744073709551616) (w : World) (htab : Lib.TabIs Tryz.prog w "internal/strconv.uint64pow10" .u64 Lib.pow10Tab) :
  Calls Tryz.prog 157 #[.int .u64 u] w λ e w' => e = .returned (.int .i64 (Lib.nDigits u)) /\ w' = w:=Any.internal_strconv_numDigits Tryz.laysM284 u h1 h2 w htab
def Tryz.laysM171_ren : Go.Shelf.Ren:=⟨λ | 171 => 48 | 243 => 95 | 246 => 131 | 283 => 156 | 284 => 157 | 285 => 158 | 286 => 159 | 129 => 177 | 317 => 176 | 318 => 178 | 319 => 179 | 320 => 180 | 337 => 187 | 338 => 188 | n => n, λ | 3 => 3 | 9 => 9 | 2 => 2 | 4 => 4 | 171 => 210 | 0 => 0 | 53 => 202 | 37 => 91 | 5 => 5 | 173 => 213 | 212 => 229 | 51 => 167 | 20 => 20 | 213 => 230 | 46 => 155 | 232 => 239 | 233 => 198 | n => n, λ | 17 => 6 | 18 => 9 | 19 => 10 | n => n⟩
theorem Tryz.laysM171 : Go.Proofs.LaysM.n171 Tryz.prog Tryz.laysM171_ren:={
 mixed:=by kernel_rfl
 f129:=Tryz.func177.trans (congrArg some (by kernel_rfl))
 f171:=Tryz.func48.trans (congrArg some (by kernel_rfl))
 f243:=Tryz.func95.trans (congrArg some (by kernel_rfl))
 f246:=Tryz.func131.trans (congrArg some (by kernel_rfl))
 f283:=Tryz.func156.trans (congrArg some (by kernel_rfl))
 f284:=Tryz.func157.trans (congrArg some (by kernel_rfl))
 f285:=Tryz.func158.trans (congrArg some (by kernel_rfl))
 f286:=Tryz.func159.trans (congrArg some (by kernel_rfl))
 f317:=Tryz.func176.trans (congrArg some (by kernel_rfl))
 f318:=Tryz.func178.trans (congrArg some (by kernel_rfl))
 f319:=Tryz.func179.trans (congrArg some (by kernel_rfl))
 f320:=Tryz.func180.trans (congrArg some (by kernel_rfl))
 f337:=Tryz.func187.trans (congrArg some (by kernel_rfl))
 f338:=Tryz.func188.trans (congrArg some (by kernel_rfl))
 t0:=Tryz.underlying0
 a0:=Tryz.isAgg0
 z0:=Tryz.sizeOf0
 v0:=Tryz.zeroValue0
 t2:=Tryz.underlying2
 a2:=Tryz.isAgg2
 z2:=Tryz.sizeOf2
 v2:=Tryz.zeroValue2
 t3:=Tryz.underlying3
 a3:=Tryz.isAgg3
 z3:=Tryz.sizeOf3
 v3:=Tryz.zeroValue3
 t4:=Tryz.underlying4
 a4:=Tryz.isAgg4
 z4:=Tryz.sizeOf4
 v4:=Tryz.zeroValue4
 t5:=Tryz.underlying5
 a5:=Tryz.isAgg5
 z5:=Tryz.sizeOf5
 v5:=Tryz.zeroValue5
 t9:=Tryz.underlying9
 a9:=Tryz.isAgg9
 z9:=Tryz.sizeOf9
 v9:=Tryz.zeroValue9
 t20:=Tryz.underlying20
 a20:=Tryz.isAgg20
 z20:=Tryz.sizeOf20
 v20:=Tryz.zeroValue20
 t37:=Tryz.underlying91
 a37:=Tryz.isAgg91
 z37:=Tryz.sizeOf91
 v37:=Tryz.zeroValue91
 t46:=Tryz.underlying155
 a46:=Tryz.isAgg155
 z46:=Tryz.sizeOf155
 v46:=Tryz.zeroValue155
 t51:=Tryz.underlying167
 a51:=Tryz.isAgg167
 z51:=Tryz.sizeOf167
 v51:=Tryz.zeroValue167
 t53:=Tryz.underlying202
 a53:=Tryz.isAgg202
 z53:=Tryz.sizeOf202
 v53:=Tryz.zeroValue202
 t171:=Tryz.underlying210
 a171:=Tryz.isAgg210
 z171:=Tryz.sizeOf210
 v171:=Tryz.zeroValue210
 t173:=Tryz.underlying213
 a173:=Tryz.isAgg213
 z173:=Tryz.sizeOf213
 v173:=Tryz.zeroValue213
 t212:=Tryz.underlying229
 a212:=Tryz.isAgg229
 z212:=Tryz.sizeOf229
 v212:=Tryz.zeroValue229
 t213:=Tryz.underlying230
 a213:=Tryz.isAgg230
 z213:=Tryz.sizeOf230
 t232:=Tryz.underlying239
 a232:=Tryz.isAgg239
 z232:=Tryz.sizeOf239
 v232:=Tryz.zeroValue239
 t233:=Tryz.underlying198
 a233:=Tryz.isAgg198
 z233:=Tryz.sizeOf198
 v233:=Tryz.zeroValue198
 g17:=by kernel_rfl
 g18:=by kernel_rfl
 g19:=by kernel_rfl
 i0:=by kernel_rfl
 i2:=by kernel_rfl
 i3:=by kernel_rfl
 i4:=by kernel_rfl
 i5:=by kernel_rfl
 i9:=by kernel_rfl
 i20:=by kernel_rfl
 i37:=by kernel_rfl
 i46:=by kernel_rfl
 i51:=by kernel_rfl
 i53:=by kernel_rfl
 i171:=by kernel_rfl
 i173:=by kernel_rfl
 i212:=by kernel_rfl
 i232:=by kernel_rfl
 i233:=by kernel_rfl
 m17:=by kernel_rfl
 m18:=by kernel_rfl
 m19:=by kernel_rfl }
open Go.RowKit Go.Sort Go.Lib in
theorem Tryz.strconv_Itoa (n : Int) (h0 : -9223372036854775808 <= n) (h1 : n <= 9223372036854775807) (w : World) (htab : Lib.TabIs Tryz.prog w "internal/strconv.uint64pow10" .u64 Lib.pow10Tab) :
  Calls Tryz.prog 48 #[.int .i64 n] w λ e w' => e = .returned (.string ⟨(Lib.itoa n).toArray⟩) /\ ∃ k os, w' = grow (w.drewN k) os:=Any.strconv_Itoa Tryz.laysM171 n h0 h1 w htab
def Tryz.lays144_ren : Go.Shelf.Ren:=⟨λ | 144 => 107 | 143 => 144 | 219 => 146 | 217 => 166 | 225 => 167 | 224 => 168 | 267 => 169 | 266 => 183 | 314 => 184 | n => n, λ | 9 => 9 | 4 => 4 | 3 => 3 | 5 => 5 | 46 => 155 | 146 => 215 | 51 => 167 | n => n, λ | 1 => 3 | n => n⟩
theorem Tryz.lays144 : Go.Proofs.Lays.n144 Tryz.prog Tryz.lays144_ren:={
 mixed:=by kernel_rfl
 f143:=Tryz.func144.trans (congrArg some (by kernel_rfl))
 f144:=Tryz.func107.trans (congrArg some (by kernel_rfl))
 f217:=Tryz.func166.trans (congrArg some (by kernel_rfl))
 f219:=Tryz.func146.trans (congrArg some (by kernel_rfl))
 f224:=Tryz.func168.trans (congrArg some (by kernel_rfl))
 f225:=Tryz.func167.trans (congrArg some (by kernel_rfl))
 f266:=Tryz.func183.trans (congrArg some (by kernel_rfl))
 f267:=Tryz.func169.trans (congrArg some (by kernel_rfl))
 f314:=Tryz.func184.trans (congrArg some (by kernel_rfl))
 t3:=Tryz.underlying3
 a3:=Tryz.isAgg3
 z3:=Tryz.sizeOf3
 v3:=Tryz.zeroValue3
 t4:=Tryz.underlying4
 a4:=Tryz.isAgg4
 z4:=Tryz.sizeOf4
 v4:=Tryz.zeroValue4
 t5:=Tryz.underlying5
 a5:=Tryz.isAgg5
 z5:=Tryz.sizeOf5
 v5:=Tryz.zeroValue5
 t9:=Tryz.underlying9
 a9:=Tryz.isAgg9
 z9:=Tryz.sizeOf9
 v9:=Tryz.zeroValue9
 t46:=Tryz.underlying155
 a46:=Tryz.isAgg155
 z46:=Tryz.sizeOf155
 v46:=Tryz.zeroValue155
 t51:=Tryz.underlying167
 a51:=Tryz.isAgg167
 z51:=Tryz.sizeOf167
 v51:=Tryz.zeroValue167
 t146:=Tryz.underlying215
 a146:=Tryz.isAgg215
 z146:=Tryz.sizeOf215
 v146:=Tryz.zeroValue215
 g1:=by kernel_rfl }
open Go.RowKit Go.Lib in
theorem Tryz.strings_Contains_one (s : ByteArray) (c : UInt8) (w : World) :
  Calls Tryz.prog 107 #[.string s, .string ⟨#[c]⟩] w λ e w' => e = .returned (.bool (decide (0 <= Lib.indexByte s.data.toList c))) /\ w' = w:=Any.strings_Contains_one Tryz.lays144 s c w
open Go.RowKit Go.Lib in
theorem Tryz.strings_Contains (s sub : ByteArray) (m : Int) (w : World) (hs : s.size < 4294967281) (hm : w.cell? ⟨3, 0, none⟩ = some (.int .i64 m)) :
  Calls Tryz.prog 107 #[.string s, .string sub] w λ e w' => e = .returned (.bool (Lib.contains s.data.toList sub.data.toList)) /\ w' = w:=Any.strings_Contains Tryz.lays144 s sub m w hs hm
def Tryz.lays99_ren : Go.Shelf.Ren:=⟨λ | 99 => 137 | 206 => 162 | n => n, λ | 9 => 9 | 4 => 4 | 3 => 3 | n => n, λ | n => n⟩
theorem Tryz.lays99 : Go.Proofs.Lays.n99 Tryz.prog Tryz.lays99_ren:={
 mixed:=by kernel_rfl
 f99:=Tryz.func137.trans (congrArg some (by kernel_rfl))
 f206:=Tryz.func162.trans (congrArg some (by kernel_rfl))
 t3:=Tryz.underlying3
 a3:=Tryz.isAgg3
 z3:=Tryz.sizeOf3
 v3:=Tryz.zeroValue3
 t4:=Tryz.underlying4
 a4:=Tryz.isAgg4
 z4:=Tryz.sizeOf4
 v4:=Tryz.zeroValue4
 t9:=Tryz.underlying9
 a9:=Tryz.isAgg9
 z9:=Tryz.sizeOf9
 v9:=Tryz.zeroValue9 }
open Go.RowKit Go.Lib in
theorem Tryz.strings_HasPrefix (s p : ByteArray) (w : World) :
  Calls Tryz.prog 137 #[.string s, .string p] w λ e w' => e = .returned (.bool (Lib.hasPrefix s.data.toList p.data.toList)) /\ w' = w:=Any.strings_HasPrefix Tryz.lays99 s p w
def Tryz.lays100_ren : Go.Shelf.Ren:=⟨λ | 100 => 103 | 207 => 141 | n => n, λ | 9 => 9 | 4 => 4 | 3 => 3 | n => n, λ | n => n⟩
theorem Tryz.lays100 : Go.Proofs.Lays.n100 Tryz.prog Tryz.lays100_ren:={
 mixed:=by kernel_rfl
 f100:=Tryz.func103.trans (congrArg some (by kernel_rfl))
 f207:=Tryz.func141.trans (congrArg some (by kernel_rfl))
 t3:=Tryz.underlying3
 a3:=Tryz.isAgg3
 z3:=Tryz.sizeOf3
 v3:=Tryz.zeroValue3
 t4:=Tryz.underlying4
 a4:=Tryz.isAgg4
 z4:=Tryz.sizeOf4
 v4:=Tryz.zeroValue4
 t9:=Tryz.underlying9
 a9:=Tryz.isAgg9
 z9:=Tryz.sizeOf9
 v9:=Tryz.zeroValue9 }
open Go.RowKit Go.Lib in
theorem Tryz.strings_HasSuffix (s p : ByteArray) (w : World) (hs : s.size <= 9223372036854775807) :
  Calls Tryz.prog 103 #[.string s, .string p] w λ e w' => e = .returned (.bool (Lib.hasSuffix s.data.toList p.data.toList)) /\ w' = w:=Any.strings_HasSuffix Tryz.lays100 s p w hs
def Tryz.lays146_ren : Go.Shelf.Ren:=⟨λ | 146 => 104 | 221 => 142 | 268 => 163 | 138 => 164 | 143 => 144 | 195 => 181 | 197 => 152 | 218 => 182 | 219 => 146 | 260 => 173 | 217 => 166 | 225 => 167 | 224 => 168 | 267 => 169 | 266 => 183 | 314 => 184 | n => n, λ | 9 => 9 | 31 => 82 | 3 => 3 | 4 => 4 | 0 => 0 | 105 => 205 | 21 => 21 | 5 => 5 | 46 => 155 | 119 => 233 | 139 => 236 | 138 => 235 | 146 => 215 | 51 => 167 | n => n, λ | 1 => 3 | 3 => 7 | 4 => 8 | n => n⟩
theorem Tryz.lays146 : Go.Proofs.Lays.n146 Tryz.prog Tryz.lays146_ren:={
 mixed:=by kernel_rfl
 f138:=Tryz.func164.trans (congrArg some (by kernel_rfl))
 f143:=Tryz.func144.trans (congrArg some (by kernel_rfl))
 f146:=Tryz.func104.trans (congrArg some (by kernel_rfl))
 f195:=Tryz.func181.trans (congrArg some (by kernel_rfl))
 f197:=Tryz.func152.trans (congrArg some (by kernel_rfl))
 f217:=Tryz.func166.trans (congrArg some (by kernel_rfl))
 f218:=Tryz.func182.trans (congrArg some (by kernel_rfl))
 f219:=Tryz.func146.trans (congrArg some (by kernel_rfl))
 f221:=Tryz.func142.trans (congrArg some (by kernel_rfl))
 f224:=Tryz.func168.trans (congrArg some (by kernel_rfl))
 f225:=Tryz.func167.trans (congrArg some (by kernel_rfl))
 f260:=Tryz.func173.trans (congrArg some (by kernel_rfl))
 f266:=Tryz.func183.trans (congrArg some (by kernel_rfl))
 f267:=Tryz.func169.trans (congrArg some (by kernel_rfl))
 f268:=Tryz.func163.trans (congrArg some (by kernel_rfl))
 f314:=Tryz.func184.trans (congrArg some (by kernel_rfl))
 t0:=Tryz.underlying0
 a0:=Tryz.isAgg0
 z0:=Tryz.sizeOf0
 v0:=Tryz.zeroValue0
 t3:=Tryz.underlying3
 a3:=Tryz.isAgg3
 z3:=Tryz.sizeOf3
 v3:=Tryz.zeroValue3
 t4:=Tryz.underlying4
 a4:=Tryz.isAgg4
 z4:=Tryz.sizeOf4
 v4:=Tryz.zeroValue4
 t5:=Tryz.underlying5
 a5:=Tryz.isAgg5
 z5:=Tryz.sizeOf5
 v5:=Tryz.zeroValue5
 t9:=Tryz.underlying9
 a9:=Tryz.isAgg9
 z9:=Tryz.sizeOf9
 v9:=Tryz.zeroValue9
 t21:=Tryz.underlying21
 a21:=Tryz.isAgg21
 z21:=Tryz.sizeOf21
 v21:=Tryz.zeroValue21
 t31:=Tryz.underlying82
 a31:=Tryz.isAgg82
 z31:=Tryz.sizeOf82
 v31:=Tryz.zeroValue82
 t46:=Tryz.underlying155
 a46:=Tryz.isAgg155
 z46:=Tryz.sizeOf155
 v46:=Tryz.zeroValue155
 t51:=Tryz.underlying167
 a51:=Tryz.isAgg167
 z51:=Tryz.sizeOf167
 v51:=Tryz.zeroValue167
 t105:=Tryz.underlying205
 a105:=Tryz.isAgg205
 z105:=Tryz.sizeOf205
 v105:=Tryz.zeroValue205
 t119:=Tryz.underlying233
 a119:=Tryz.isAgg233
 z119:=Tryz.sizeOf233
 t138:=Tryz.underlying235
 a138:=Tryz.isAgg235
 z138:=Tryz.sizeOf235
 v138:=Tryz.zeroValue235
 t139:=Tryz.underlying236
 a139:=Tryz.isAgg236
 z139:=Tryz.sizeOf236
 v139:=Tryz.zeroValue236
 t146:=Tryz.underlying215
 a146:=Tryz.isAgg215
 z146:=Tryz.sizeOf215
 v146:=Tryz.zeroValue215
 g1:=by kernel_rfl
 g3:=by kernel_rfl
 g4:=by kernel_rfl }
open Go.RowKit Go.Lib in
theorem Tryz.strings_Split (s sep : ByteArray) (m : Int) (w : World) (hs : s.size < 4294967281) (hm : w.cell? ⟨3, 0, none⟩ = some (.int .i64 m)) (h1 : 1 <= sep.size) :
  Calls Tryz.prog 104 #[.string s, .string sep] w λ e w' =>
   e = .returned (.slice (some ⟨w.heap.size, 0, none⟩) (Lib.countB s sep + 1) (Lib.countB s sep + 1)) /\ w' = w.alloc (.cells ((Lib.splitB sep 0 (Lib.countB s sep) s).map Value.string).toArray 9):=Any.strings_Split Tryz.lays146 (by kernel_rfl) s sep m w hs hm h1
def Tryz.lays227_ren : Go.Shelf.Ren:=⟨λ | 227 => 125 | n => n, λ | 9 => 9 | 116 => 177 | 4 => 4 | 0 => 0 | 3 => 3 | 5 => 5 | n => n, λ | n => n⟩
theorem Tryz.lays227 : Go.Proofs.Lays.n227 Tryz.prog Tryz.lays227_ren:={
 mixed:=by kernel_rfl
 f227:=Tryz.func125.trans (congrArg some (by kernel_rfl))
 t0:=Tryz.underlying0
 a0:=Tryz.isAgg0
 z0:=Tryz.sizeOf0
 v0:=Tryz.zeroValue0
 t3:=Tryz.underlying3
 a3:=Tryz.isAgg3
 z3:=Tryz.sizeOf3
 v3:=Tryz.zeroValue3
 t4:=Tryz.underlying4
 a4:=Tryz.isAgg4
 z4:=Tryz.sizeOf4
 v4:=Tryz.zeroValue4
 t5:=Tryz.underlying5
 a5:=Tryz.isAgg5
 z5:=Tryz.sizeOf5
 v5:=Tryz.zeroValue5
 t9:=Tryz.underlying9
 a9:=Tryz.isAgg9
 z9:=Tryz.sizeOf9
 v9:=Tryz.zeroValue9
 t116:=Tryz.underlying177
 a116:=Tryz.isAgg177
 z116:=Tryz.sizeOf177 }
open Go.RowKit Go.Lib in
theorem Tryz.strings_makeASCIISet (hv116 : ∀ w, (zeroValue 177).run Tryz.prog w = .ok (.agg (Array.replicate 256 (.bool false))) w) (chars : ByteArray) (w : World) (hs : chars.size < 4294967281) (hascii : ∀ (j : Nat) b, chars.data.toList[j]? = some b -> b.toNat < 128) :
  Calls Tryz.prog 125 #[.string chars] w λ e w' => e = .returned (.tuple #[.agg (Lib.setCells chars.data.toList), .bool true]) /\ w' = w.alloc (.cells (Lib.setCells chars.data.toList) 177):=Any.strings_makeASCIISet Tryz.lays227 hv116 (by kernel_rfl) chars w hs hascii
def Tryz.lays212_ren : Go.Shelf.Ren:=⟨λ | 212 => 136 | 263 => 160 | 264 => 161 | n => n, λ | 46 => 155 | 51 => 167 | 146 => 215 | 53 => 202 | 148 => 217 | n => n, λ | n => n⟩
theorem Tryz.lays212 : Go.Proofs.Lays.n212 Tryz.prog Tryz.lays212_ren:={
 mixed:=by kernel_rfl
 f212:=Tryz.func136.trans (congrArg some (by kernel_rfl))
 f263:=Tryz.func160.trans (congrArg some (by kernel_rfl))
 f264:=Tryz.func161.trans (congrArg some (by kernel_rfl))
 t46:=Tryz.underlying155
 a46:=Tryz.isAgg155
 z46:=Tryz.sizeOf155
 v46:=Tryz.zeroValue155
 t51:=Tryz.underlying167
 a51:=Tryz.isAgg167
 z51:=Tryz.sizeOf167
 v51:=Tryz.zeroValue167
 t53:=Tryz.underlying202
 a53:=Tryz.isAgg202
 z53:=Tryz.sizeOf202
 v53:=Tryz.zeroValue202
 t146:=Tryz.underlying215
 a146:=Tryz.isAgg215
 z146:=Tryz.sizeOf215
 v146:=Tryz.zeroValue215
 t148:=Tryz.underlying217
 a148:=Tryz.isAgg217
 z148:=Tryz.sizeOf217
 v148:=Tryz.zeroValue217 }
open Go.RowKit Go.Lib in
theorem Tryz.bits_Mul (x y : Nat) (hx : x < 18446744073709551616) (hy : y < 18446744073709551616) (w : World) :
  Calls Tryz.prog 136 #[.int .u64 x, .int .u64 y] w λ e w' => e = .returned (.tuple #[.int .u64 ((x * y / 18446744073709551616 : Nat) : Int), .int .u64 ((x * y % 18446744073709551616 : Nat) : Int)]) /\ w' = w:=Any.bits_Mul Tryz.lays212 x y hx hy w
def Tryz.lays105_ren : Go.Shelf.Ren:=⟨λ | 105 => 100 | 212 => 136 | 99 => 137 | 165 => 113 | 166 => 90 | 170 => 138 | 169 => 92 | 263 => 160 | 264 => 161 | 206 => 162 | 240 => 130 | 241 => 145 | 276 => 155 | 277 => 165 | n => n, λ | 9 => 9 | 3 => 3 | 4 => 4 | 20 => 20 | 0 => 0 | 46 => 155 | 109 => 186 | 5 => 5 | 72 => 93 | 76 => 148 | 51 => 167 | 146 => 215 | 53 => 202 | 148 => 217 | 70 => 90 | 37 => 91 | 75 => 147 | 127 => 182 | 164 => 208 | 80 => 132 | n => n, λ | n => n⟩
theorem Tryz.lays105 : Go.Proofs.Lays.n105 Tryz.prog Tryz.lays105_ren:={
 mixed:=by kernel_rfl
 f99:=Tryz.func137.trans (congrArg some (by kernel_rfl))
 f105:=Tryz.func100.trans (congrArg some (by kernel_rfl))
 f165:=Tryz.func113.trans (congrArg some (by kernel_rfl))
 f166:=Tryz.func90.trans (congrArg some (by kernel_rfl))
 f169:=Tryz.func92.trans (congrArg some (by kernel_rfl))
 f170:=Tryz.func138.trans (congrArg some (by kernel_rfl))
 f206:=Tryz.func162.trans (congrArg some (by kernel_rfl))
 f212:=Tryz.func136.trans (congrArg some (by kernel_rfl))
 f240:=Tryz.func130.trans (congrArg some (by kernel_rfl))
 f241:=Tryz.func145.trans (congrArg some (by kernel_rfl))
 f263:=Tryz.func160.trans (congrArg some (by kernel_rfl))
 f264:=Tryz.func161.trans (congrArg some (by kernel_rfl))
 f276:=Tryz.func155.trans (congrArg some (by kernel_rfl))
 f277:=Tryz.func165.trans (congrArg some (by kernel_rfl))
 t0:=Tryz.underlying0
 a0:=Tryz.isAgg0
 z0:=Tryz.sizeOf0
 v0:=Tryz.zeroValue0
 t3:=Tryz.underlying3
 a3:=Tryz.isAgg3
 z3:=Tryz.sizeOf3
 v3:=Tryz.zeroValue3
 t4:=Tryz.underlying4
 a4:=Tryz.isAgg4
 z4:=Tryz.sizeOf4
 v4:=Tryz.zeroValue4
 t5:=Tryz.underlying5
 a5:=Tryz.isAgg5
 z5:=Tryz.sizeOf5
 v5:=Tryz.zeroValue5
 t9:=Tryz.underlying9
 a9:=Tryz.isAgg9
 z9:=Tryz.sizeOf9
 v9:=Tryz.zeroValue9
 t20:=Tryz.underlying20
 a20:=Tryz.isAgg20
 z20:=Tryz.sizeOf20
 v20:=Tryz.zeroValue20
 t37:=Tryz.underlying91
 a37:=Tryz.isAgg91
 z37:=Tryz.sizeOf91
 v37:=Tryz.zeroValue91
 t46:=Tryz.underlying155
 a46:=Tryz.isAgg155
 z46:=Tryz.sizeOf155
 v46:=Tryz.zeroValue155
 t51:=Tryz.underlying167
 a51:=Tryz.isAgg167
 z51:=Tryz.sizeOf167
 v51:=Tryz.zeroValue167
 t53:=Tryz.underlying202
 a53:=Tryz.isAgg202
 z53:=Tryz.sizeOf202
 v53:=Tryz.zeroValue202
 t70:=Tryz.underlying90
 a70:=Tryz.isAgg90
 z70:=Tryz.sizeOf90
 v70:=Tryz.zeroValue90
 t72:=Tryz.underlying93
 a72:=Tryz.isAgg93
 z72:=Tryz.sizeOf93
 v72:=Tryz.zeroValue93
 t75:=Tryz.underlying147
 a75:=Tryz.isAgg147
 z75:=Tryz.sizeOf147
 v75:=Tryz.zeroValue147
 t76:=Tryz.underlying148
 a76:=Tryz.isAgg148
 z76:=Tryz.sizeOf148
 v76:=Tryz.zeroValue148
 t109:=Tryz.underlying186
 a109:=Tryz.isAgg186
 z109:=Tryz.sizeOf186
 v109:=Tryz.zeroValue186
 t127:=Tryz.underlying182
 a127:=Tryz.isAgg182
 z127:=Tryz.sizeOf182
 v127:=Tryz.zeroValue182
 t146:=Tryz.underlying215
 a146:=Tryz.isAgg215
 z146:=Tryz.sizeOf215
 v146:=Tryz.zeroValue215
 t148:=Tryz.underlying217
 a148:=Tryz.isAgg217
 z148:=Tryz.sizeOf217
 v148:=Tryz.zeroValue217
 t164:=Tryz.underlying208
 a164:=Tryz.isAgg208
 z164:=Tryz.sizeOf208
 v164:=Tryz.zeroValue208 }
theorem Tryz.Builder_Extra_105 : Builder.Extra Tryz.prog Tryz.lays105_ren:={
 sizeBuilder:=by kernel_rfl
 liesBuilder:=by kernel_rfl
 t5:=Tryz.underlying5
 a5:=Tryz.isAgg5
 z5:=Tryz.sizeOf5
 v5:=Tryz.zeroValue5
 infoByte:=by kernel_rfl
 cellsByte:=by kernel_rfl
 sizeByte:=by kernel_rfl
 neB5:=by decide }
open Go.RowKit Go.Lib in
theorem Tryz.strings_Repeat (s : ByteArray) (c : Nat) (w : World) (hc : c <= 9223372036854775807) (hlen : s.size * c <= 140737488355328) :
  Calls Tryz.prog 100 #[.string s, .int .i64 c] w λ e w' => e = .returned (.string ⟨(Lib.repeatL s.data.toList c).toArray⟩) /\ Below w.heap.size w w':=Any.strings_Repeat Tryz.lays105 Tryz.Builder_Extra_105 s c w hc hlen
end Go.Proofs
namespace Go.Proofs.YthlpfhjcdedhgaaGreatDoor
open Go.Lift
set_option linter.unusedVariables false
theorem got_calls {P : Program} {f : FuncId} {fn : Func} (hf : P.funcs[f]? = some fn) (hb : fn.body.isSome = true) (hname : (fn.name == "runtime.NumGoroutine") = false) {args : Array Value} {w w' : World} {v : Value}
  (h : Calls P f args w λ e w'' => e = .returned v /\ w'' = w') : Got P (callFunc f args) w v w':=by
 refine .inr (.inr ⟨f, args, w, ?_, h⟩)
 obtain ⟨c, hc⟩:=Option.isSome_iff_exists.1 hb
 simp [callFunc, hf, show fn.name ≠ "runtime.NumGoroutine" by simpa using hname, hc]
open Classical in
noncomputable def F.strings_Split (a0 a1 : Value) : M Value:=λ w => match a0, a1 with
 | .string s, .string sep => if s.size < 4294967281 /\ 1 <= sep.size /\ ∃ m : Int, w.cell? ⟨3, 0, none⟩ = some (.int .i64 m) then some (.slice (some ⟨w.heap.size, 0, none⟩) (Lib.countB s sep + 1) (Lib.countB s sep + 1), w.alloc (.cells ((Lib.splitB sep 0 (Lib.countB s sep) s).map Value.string).toArray 9)) else none
 | _, _ => none
theorem F.strings_Split.lift : LiftOk Tryz.prog 104 (ap2 F.strings_Split):=by
 intro args w v w' h
 unfold ap2 at h
 split at h
 ·unfold F.strings_Split at h
  split at h
  ·rename_i s sep
   split at h
   ·rename_i hc
    obtain ⟨h1, h2, m, h3⟩:=hc
    cases h
    exact got_calls Tryz.func104 (by kernel_rfl) (by kernel_rfl) (Tryz.strings_Split _ _ m w h1 h3 h2)
   ·cases h
  ·cases h
 ·cases h
noncomputable def F.strings_Builder_copyCheck (a0 : Value) : M Value:=λ w => match a0 with
 | .pointer (some ⟨b, 0, none⟩) => match w.cell? ⟨b, 0, none⟩ with
  | some (.pointer (some ⟨b', 0, none⟩)) => if b' = b then some (.tuple #[], w) else none
  | some (.pointer none) => if w.shape? b = some (93, 2) /\ w.frozen? ⟨b, 0, none⟩ = false then some (.tuple #[], w.setCell ⟨b, 0, none⟩ (.pointer (some ⟨b, 0, none⟩))) else none
  | _ => none
 | _ => none
theorem F.strings_Builder_copyCheck.lift : LiftOk Tryz.prog 130 (ap1 F.strings_Builder_copyCheck):=by
 intro args w v w' h
 unfold ap1 at h
 split at h
 ·unfold F.strings_Builder_copyCheck at h
  split at h
  ·rename_i b
   split at h
   ·rename_i b' hc
    split at h
    ·rename_i he
     subst he
     cases h
     exact got_calls Tryz.func130 (by kernel_rfl) (by kernel_rfl) (Any.Builder_copyCheck_used { Tryz.lays156 with } Tryz.Builder_Extra_156.toX72 _ w hc)
    ·cases h
   ·rename_i hc
    split at h
    ·rename_i he
     cases h
     exact got_calls Tryz.func130 (by kernel_rfl) (by kernel_rfl) (Any.Builder_copyCheck_fresh { Tryz.lays156 with } Tryz.Builder_Extra_156.toX72 _ w hc he.1 he.2)
    ·cases h
   ·cases h
  ·cases h
 ·cases h
noncomputable def F.bytealg_MakeNoZero (a0 : Value) : M Value:=λ w => match (Extern.BytealgMakeNoZero.makeNoZero #[3] #[91] #[a0]).run Tryz.prog w with
 | .ok v w' => some (v, w')
 | _ => none
theorem F.bytealg_MakeNoZero.lift : LiftOk Tryz.prog 165 (ap1 F.bytealg_MakeNoZero):=by
 intro args w v w' h
 unfold ap1 at h
 split at h
 ·unfold F.bytealg_MakeNoZero at h
  split at h
  ·rename_i v0 w1 hr
   cases h
   refine .inl ?_
   rw [run_callFunc_extern Tryz.func165 (by kernel_rfl) (by kernel_rfl) (by kernel_rfl) (e:=Extern.BytealgMakeNoZero.makeNoZero #[3] #[91]) (by kernel_rfl), hr]
   rfl
  ·cases h
 ·cases h
open Classical in
noncomputable def F.strconv_numDigits (a0 : Value) : M Value:=λ w => match a0 with
 | .int .u64 u => if (1 <= u /\ u < 18446744073709551616) /\ Lib.TabIs Tryz.prog w "internal/strconv.uint64pow10" .u64 Lib.pow10Tab then some (.int .i64 (Lib.nDigits u.toNat), w) else none
 | _ => none
theorem F.strconv_numDigits.lift : LiftOk Tryz.prog 157 (ap1 F.strconv_numDigits):=by
 intro args w v w' h
 unfold ap1 at h
 split at h
 ·unfold F.strconv_numDigits at h
  split at h
  ·split at h
   ·rename_i hc
    cases h
    rename_i u
    obtain ⟨⟨h1, h2⟩, ht⟩:=hc
    obtain ⟨n, rfl⟩ : ∃ n : Nat, u = n:=⟨u.toNat, by omega⟩
    exact got_calls Tryz.func157 (by kernel_rfl) (by kernel_rfl) (Tryz.internal_strconv_numDigits n (by omega) (by omega) w ht)
   ·cases h
  ·cases h
 ·cases h
open Classical in
noncomputable def F.strconv_small (a0 : Value) : M Value:=λ w => match a0 with
 | .int .i64 i => if 0 <= i /\ i < 100 then some (.string ⟨(Lib.decDigits i.toNat).toArray⟩, w) else none
 | _ => none
theorem F.strconv_small.lift : LiftOk Tryz.prog 156 (ap1 F.strconv_small):=by
 intro args w v w' h
 unfold ap1 at h
 split at h
 ·unfold F.strconv_small at h
  split at h
  ·split at h
   ·rename_i hc
    cases h
    rename_i i
    obtain ⟨n, rfl⟩ : ∃ n : Nat, i = n:=⟨i.toNat, by omega⟩
    exact got_calls Tryz.func156 (by kernel_rfl) (by kernel_rfl) (Tryz.internal_strconv_small n (by omega) w)
   ·cases h
  ·cases h
 ·cases h
noncomputable def F.strings_HasPrefix (a0 a1 : Value) : M Value:=λ w => match a0, a1 with
 | .string s, .string p => some (.bool (Lib.hasPrefix s.data.toList p.data.toList), w)
 | _, _ => none
theorem F.strings_HasPrefix.lift : LiftOk Tryz.prog 137 (ap2 F.strings_HasPrefix):=by
 intro args w v w' h
 unfold ap2 at h
 split at h
 ·unfold F.strings_HasPrefix at h
  split at h
  ·cases h
   exact got_calls Tryz.func137 (by kernel_rfl) (by kernel_rfl) (Tryz.strings_HasPrefix _ _ w)
  ·cases h
 ·cases h
noncomputable def F.strings_HasSuffix (a0 a1 : Value) : M Value:=λ w => match a0, a1 with
 | .string s, .string p => if s.size <= 9223372036854775807 then some (.bool (Lib.hasSuffix s.data.toList p.data.toList), w) else none
 | _, _ => none
theorem F.strings_HasSuffix.lift : LiftOk Tryz.prog 103 (ap2 F.strings_HasSuffix):=by
 intro args w v w' h
 unfold ap2 at h
 split at h
 ·unfold F.strings_HasSuffix at h
  split at h
  ·split at h
   ·rename_i hc
    cases h
    exact got_calls Tryz.func103 (by kernel_rfl) (by kernel_rfl) (Tryz.strings_HasSuffix _ _ w hc)
   ·cases h
  ·cases h
 ·cases h
noncomputable def F.strings_CutPrefix (a0 a1 : Value) : M Value:=λ w => match a0, a1 with
 | .string s, .string p => some (.tuple #[.string ⟨(Lib.trimPrefix s.data.toList p.data.toList).toArray⟩, .bool (Lib.hasPrefix s.data.toList p.data.toList)], w)
 | _, _ => none
theorem F.strings_CutPrefix.lift : LiftOk Tryz.prog 105 (ap2 F.strings_CutPrefix):=by
 intro args w v w' h
 unfold ap2 at h
 split at h
 ·unfold F.strings_CutPrefix at h
  split at h
  ·cases h
   exact got_calls Tryz.func105 (by kernel_rfl) (by kernel_rfl) (Tryz.strings_CutPrefix _ _ w)
  ·cases h
 ·cases h
noncomputable def F.bits_Mul (a0 a1 : Value) : M Value:=λ w => match a0, a1 with
 | .int .u64 x, .int .u64 y => if 0 <= x /\ x < 18446744073709551616 /\ 0 <= y /\ y < 18446744073709551616 then some (.tuple #[.int .u64 ((x.toNat * y.toNat / 18446744073709551616 : Nat) : Int), .int .u64 ((x.toNat * y.toNat % 18446744073709551616 : Nat) : Int)], w) else none
 | _, _ => none
theorem F.bits_Mul.lift : LiftOk Tryz.prog 136 (ap2 F.bits_Mul):=by
 intro args w v w' h
 unfold ap2 at h
 split at h
 ·unfold F.bits_Mul at h
  split at h
  ·split at h
   ·rename_i x y hc
    obtain ⟨n, rfl⟩ : ∃ n : Nat, x = n:=⟨x.toNat, by omega⟩
    obtain ⟨m, rfl⟩ : ∃ m : Nat, y = m:=⟨y.toNat, by omega⟩
    cases h
    exact got_calls Tryz.func136 (by kernel_rfl) (by kernel_rfl) (Tryz.bits_Mul n m (by omega) (by omega) w)
   ·cases h
  ·cases h
 ·cases h
noncomputable def F.strings_Contains (a0 a1 : Value) : M Value:=λ w => match a0, a1 with
 | .string s, .string sub => match sub.data.toList with
  | [c] => some (.bool (decide (0 <= Lib.indexByte s.data.toList c)), w)
  | _ => none
 | _, _ => none
theorem F.strings_Contains.lift : LiftOk Tryz.prog 107 (ap2 F.strings_Contains):=by
 intro args w v w' h
 unfold ap2 at h
 split at h
 ·unfold F.strings_Contains at h
  split at h
  ·rename_i s sub
   split at h
   ·rename_i c hc
    obtain ⟨⟨l⟩⟩:=sub
    simp at hc
    subst hc
    cases h
    exact got_calls Tryz.func107 (by kernel_rfl) (by kernel_rfl) (Tryz.strings_Contains_one _ _ w)
   ·cases h
  ·cases h
 ·cases h
def F.strings_trimLeftUnicode (a0 a1 : Value) : M Value:=λ _ => none
theorem F.strings_trimLeftUnicode.lift : LiftOk Tryz.prog 128 (ap2 F.strings_trimLeftUnicode):=by
 intro args w v w' h
 unfold ap2 at h
 split at h <;> cases h
def F.strings_trimRightUnicode (a0 a1 : Value) : M Value:=λ _ => none
theorem F.strings_trimRightUnicode.lift : LiftOk Tryz.prog 129 (ap2 F.strings_trimRightUnicode):=by
 intro args w v w' h
 unfold ap2 at h
 split at h <;> cases h
end Go.Proofs.YthlpfhjcdedhgaaGreatDoor
namespace Go.Proofs.YthlpfhjcdedhgaaGreatDoor
open Go.Lift Go.Lift.Plan
def ls : Nat -> Plan -> Plan
 | 0, p => p
 | n + 1, p => seq leaf (ls n p)
noncomputable def F.strings_trimRightByte (a0 a1 : Value) : M Value:=M.bind (loopM (λ l1 => bindO (lenS (getL l1 0)) λ x2 => bindO (binV .gtr x2 (.int .i64 0)) λ x3 => M.bind (guardM x3 true (M.ret (getL l1 0))) λ x4 => M.bind (guardM x3 true (M.ret (getL l1 0))) λ x5 => M.bind (guardM x3 true (optM (lenS x5))) λ x6 => M.bind (guardM x3 true (optM (binV .sub x6 (.int .i64 1)))) λ x7 => M.bind (guardM x3 true (optM (idxS x4 x7))) λ x8 => M.bind (guardM x3 true (M.ret a1)) λ x9 => M.bind (guardM x3 true (optM (binV .eql x8 x9))) λ x10 => bindO (pickV x3 x10 (.bool false)) λ x11 => condM x11 ( bindO (lenS (getL l1 0)) λ x12 => bindO (binV .sub x12 (.int .i64 1)) λ x13 => bindO (sliceS (getL l1 0) none (some x13)) λ x14 => M.ret (Out.norm [x14])) ( M.ret (Out.exit 0 [(getL l1 0)]))) [a0]) λ o16 => outK o16 (λ _ => M.fail) (λ k17 l15 => bif Nat.beq k17 0 then ( M.ret (getL l15 0)) else M.fail) (λ r18 => M.ret r18)
def F.strings_trimRightByte.plan : Plan:=(ls 1 (seq (body (loop [0] [0, 5, 6, 7, 8, 9, 10, 11, 12, 13, 14, 15, 16, 17, 18, 19, 20, 21] [0] (seq (ls 1 (cond leaf leaf)) (body leaf)))) (ls 1 leaf)))
theorem F.strings_trimRightByte.lift : LiftOk Tryz.prog 124 (ap2 F.strings_trimRightByte):=lift2 (g:=evFn Tryz.prog tnil tnil 124 Tryz.f124 F.strings_trimRightByte.plan) (evFn_sound tnil_ok tnil_ok Tryz.func124 (by kernel_rfl)) (λ x0 x1 => by kernel_rfl)
noncomputable def F.strings_trimLeftByte (a0 a1 : Value) : M Value:=M.bind (loopM (λ l1 => bindO (lenS (getL l1 0)) λ x2 => bindO (binV .gtr x2 (.int .i64 0)) λ x3 => M.bind (guardM x3 true (M.ret (getL l1 0))) λ x4 => M.bind (guardM x3 true (optM (idxS x4 (.int .i64 0)))) λ x5 => M.bind (guardM x3 true (M.ret a1)) λ x6 => M.bind (guardM x3 true (optM (binV .eql x5 x6))) λ x7 => bindO (pickV x3 x7 (.bool false)) λ x8 => condM x8 ( bindO (sliceS (getL l1 0) (some (.int .i64 1)) none) λ x9 => M.ret (Out.norm [x9])) ( M.ret (Out.exit 0 [(getL l1 0)]))) [a0]) λ o11 => outK o11 (λ _ => M.fail) (λ k12 l10 => bif Nat.beq k12 0 then ( M.ret (getL l10 0)) else M.fail) (λ r13 => M.ret r13)
def F.strings_trimLeftByte.plan : Plan:=(ls 1 (seq (body (loop [0] [0, 5, 6, 7, 8, 9, 10, 11, 12, 13, 14, 15] [0] (seq (ls 1 (cond leaf leaf)) (body leaf)))) (ls 1 leaf)))
theorem F.strings_trimLeftByte.lift : LiftOk Tryz.prog 123 (ap2 F.strings_trimLeftByte):=lift2 (g:=evFn Tryz.prog tnil tnil 123 Tryz.f123 F.strings_trimLeftByte.plan) (evFn_sound tnil_ok tnil_ok Tryz.func123 (by kernel_rfl)) (λ x0 x1 => by kernel_rfl)
noncomputable def F.strings_makeASCIISet (a0 : Value) : M Value:=M.bind (newM 177 #[(.bool false), (.bool false), (.bool false), (.bool false), (.bool false), (.bool false), (.bool false), (.bool false), (.bool false), (.bool false), (.bool false), (.bool false), (.bool false), (.bool false), (.bool false), (.bool false), (.bool false), (.bool false), (.bool false), (.bool false), (.bool false), (.bool false), (.bool false), (.bool false), (.bool false), (.bool false), (.bool false), (.bool false), (.bool false), (.bool false), (.bool false), (.bool false), (.bool false), (.bool false), (.bool false), (.bool false), (.bool false), (.bool false), (.bool false), (.bool false), (.bool false), (.bool false), (.bool false), (.bool false), (.bool false), (.bool false), (.bool false), (.bool false), (.bool false), (.bool false), (.bool false), (.bool false), (.bool false), (.bool false), (.bool false), (.bool false), (.bool false), (.bool false), (.bool false), (.bool false), (.bool false), (.bool false), (.bool false), (.bool false), (.bool false), (.bool false), (.bool false), (.bool false), (.bool false), (.bool false), (.bool false), (.bool false), (.bool false), (.bool false), (.bool false), (.bool false), (.bool false), (.bool false), (.bool false), (.bool false), (.bool false), (.bool false), (.bool false), (.bool false), (.bool false), (.bool false), (.bool false), (.bool false), (.bool false), (.bool false), (.bool false), (.bool false), (.bool false), (.bool false), (.bool false), (.bool false), (.bool false), (.bool false), (.bool false), (.bool false), (.bool false), (.bool false), (.bool false), (.bool false), (.bool false), (.bool false), (.bool false), (.bool false), (.bool false), (.bool false), (.bool false), (.bool false), (.bool false), (.bool false), (.bool false), (.bool false), (.bool false), (.bool false), (.bool false), (.bool false), (.bool false), (.bool false), (.bool false), (.bool false), (.bool false), (.bool false), (.bool false), (.bool false), (.bool false), (.bool false), (.bool false), (.bool false), (.bool false), (.bool false), (.bool false), (.bool false), (.bool false), (.bool false), (.bool false), (.bool false), (.bool false), (.bool false), (.bool false), (.bool false), (.bool false), (.bool false), (.bool false), (.bool false), (.bool false), (.bool false), (.bool false), (.bool false), (.bool false), (.bool false), (.bool false), (.bool false), (.bool false), (.bool false), (.bool false), (.bool false), (.bool false), (.bool false), (.bool false), (.bool false), (.bool false), (.bool false), (.bool false), (.bool false), (.bool false), (.bool false), (.bool false), (.bool false), (.bool false), (.bool false), (.bool false), (.bool false), (.bool false), (.bool false), (.bool false), (.bool false), (.bool false), (.bool false), (.bool false), (.bool false), (.bool false), (.bool false), (.bool false), (.bool false), (.bool false), (.bool false), (.bool false), (.bool false), (.bool false), (.bool false), (.bool false), (.bool false), (.bool false), (.bool false), (.bool false), (.bool false), (.bool false), (.bool false), (.bool false), (.bool false), (.bool false), (.bool false), (.bool false), (.bool false), (.bool false), (.bool false), (.bool false), (.bool false), (.bool false), (.bool false), (.bool false), (.bool false), (.bool false), (.bool false), (.bool false), (.bool false), (.bool false), (.bool false), (.bool false), (.bool false), (.bool false), (.bool false), (.bool false), (.bool false), (.bool false), (.bool false), (.bool false), (.bool false), (.bool false), (.bool false), (.bool false), (.bool false), (.bool false), (.bool false), (.bool false), (.bool false), (.bool false), (.bool false), (.bool false), (.bool false), (.bool false), (.bool false), (.bool false), (.bool false), (.bool false), (.bool false), (.bool false), (.bool false), (.bool false), (.bool false), (.bool false), (.bool false)]) λ x1 => M.bind (loopM (λ l2 => bindO (lenS a0) λ x3 => bindO (binV .lss (getL l2 0) x3) λ x4 => condM x4 ( bindO (idxS a0 (getL l2 0)) λ x5 => bindO (binV .geq x5 (.int .u8 128)) λ x6 => condM x6 ( M.bind (rdM (ldA 256 x1)) λ x7 => M.bind (stM 256 x1 x7) λ _ => M.bind (rdM (ldA 256 x1)) λ x9 => M.ret (Out.ret (Value.tuple #[x9, (.bool false)]))) ( bindO (idxR 256 1 x1 x5) λ x10 => M.bind (stM 1 x10 (.bool true)) λ _ => bindO (binV .add (getL l2 0) (.int .i64 1)) λ x12 => M.ret (Out.norm [x12]))) ( M.ret (Out.exit 0 [(getL l2 0)]))) [(.int .i64 0)]) λ o14 => outK o14 (λ _ => M.fail) (λ k15 _ => bif Nat.beq k15 0 then ( M.bind (rdM (ldA 256 x1)) λ x17 => M.bind (stM 256 x1 x17) λ _ => M.bind (rdM (ldA 256 x1)) λ x19 => M.ret (Value.tuple #[x19, (.bool true)])) else M.fail) (λ r16 => M.ret r16)
def F.strings_makeASCIISet.plan : Plan:=(ls 1 (seq (ls 1 (body (loop [4] [3, 4, 5, 6, 7, 8, 9, 10, 11, 12, 13, 14, 15, 16, 17, 18, 19] [0] (seq (ls 1 (cond leaf leaf)) (seq (body (ls 1 (seq (ls 1 (cond (ls 1 leaf) leaf)) leaf))) leaf))))) (ls 1 leaf)))
theorem F.strings_makeASCIISet.lift : LiftOk Tryz.prog 125 (ap1 F.strings_makeASCIISet):=lift1 (g:=evFn Tryz.prog tnil tnil 125 Tryz.f125 F.strings_makeASCIISet.plan) (evFn_sound tnil_ok tnil_ok Tryz.func125 (by kernel_rfl)) (λ x0 => by kernel_rfl)
noncomputable def F.strings_asciiSet_contains (a0 a1 : Value) : M Value:=bindO (nilChk a0) λ x1 => bindO (idxR 256 1 x1 a1) λ x2 => M.bind (rdM (ld1 x2)) λ x3 => M.ret x3
def F.strings_asciiSet_contains.plan : Plan:=(ls 2 leaf)
theorem F.strings_asciiSet_contains.lift : LiftOk Tryz.prog 151 (ap2 F.strings_asciiSet_contains):=lift2 (g:=evFn Tryz.prog tnil tnil 151 Tryz.f151 F.strings_asciiSet_contains.plan) (evFn_sound tnil_ok tnil_ok Tryz.func151 (by kernel_rfl)) (λ x0 x1 => by kernel_rfl)
noncomputable def F.strings_trimRightASCII (a0 a1 : Value) : M Value:=M.bind (loopM (λ l1 => bindO (lenS (getL l1 0)) λ x2 => bindO (binV .gtr x2 (.int .i64 0)) λ x3 => condM x3 ( bindO (lenS (getL l1 0)) λ x4 => bindO (binV .sub x4 (.int .i64 1)) λ x5 => bindO (idxS (getL l1 0) x5) λ x6 => M.bind (F.strings_asciiSet_contains a1 x6) λ x7 => bindO (notV x7) λ x8 => condM x8 ( M.ret (Out.exit 0 [(getL l1 0)])) ( bindO (lenS (getL l1 0)) λ x9 => bindO (binV .sub x9 (.int .i64 1)) λ x10 => bindO (sliceS (getL l1 0) none (some x10)) λ x11 => M.ret (Out.norm [x11]))) ( M.ret (Out.exit 0 [(getL l1 0)]))) [a0]) λ o13 => outK o13 (λ _ => M.fail) (λ k14 l12 => bif Nat.beq k14 0 then ( M.ret (getL l12 0)) else M.fail) (λ r15 => M.ret r15)
def F.strings_trimRightASCII.plan : Plan:=(ls 1 (seq (body (loop [0] [0, 5, 6, 7, 8, 9, 10, 11, 12, 13, 14, 15, 16, 17, 18, 19, 20] [0] (seq (ls 1 (cond leaf leaf)) (body (seq (ls 1 (cond leaf leaf)) leaf))))) (ls 1 leaf)))
theorem F.strings_trimRightASCII.lift : LiftOk Tryz.prog 127 (ap2 F.strings_trimRightASCII):=lift2 (g:=evFn Tryz.prog (tcons 151 (ap2 F.strings_asciiSet_contains) tnil) tnil 127 Tryz.f127 F.strings_trimRightASCII.plan) (evFn_sound (tcons_ok F.strings_asciiSet_contains.lift tnil_ok) tnil_ok Tryz.func127 (by kernel_rfl)) (λ x0 x1 => by kernel_rfl)
noncomputable def F.strings_trimLeftASCII (a0 a1 : Value) : M Value:=M.bind (loopM (λ l1 => bindO (lenS (getL l1 0)) λ x2 => bindO (binV .gtr x2 (.int .i64 0)) λ x3 => condM x3 ( bindO (idxS (getL l1 0) (.int .i64 0)) λ x4 => M.bind (F.strings_asciiSet_contains a1 x4) λ x5 => bindO (notV x5) λ x6 => condM x6 ( M.ret (Out.exit 0 [(getL l1 0)])) ( bindO (sliceS (getL l1 0) (some (.int .i64 1)) none) λ x7 => M.ret (Out.norm [x7]))) ( M.ret (Out.exit 0 [(getL l1 0)]))) [a0]) λ o9 => outK o9 (λ _ => M.fail) (λ k10 l8 => bif Nat.beq k10 0 then ( M.ret (getL l8 0)) else M.fail) (λ r11 => M.ret r11)
def F.strings_trimLeftASCII.plan : Plan:=(ls 1 (seq (body (loop [0] [0, 5, 6, 7, 8, 9, 10, 11, 12, 13, 14] [0] (seq (ls 1 (cond leaf leaf)) (body (seq (ls 1 (cond leaf leaf)) leaf))))) (ls 1 leaf)))
theorem F.strings_trimLeftASCII.lift : LiftOk Tryz.prog 126 (ap2 F.strings_trimLeftASCII):=lift2 (g:=evFn Tryz.prog (tcons 151 (ap2 F.strings_asciiSet_contains) tnil) tnil 126 Tryz.f126 F.strings_trimLeftASCII.plan) (evFn_sound (tcons_ok F.strings_asciiSet_contains.lift tnil_ok) tnil_ok Tryz.func126 (by kernel_rfl)) (λ x0 x1 => by kernel_rfl)
noncomputable def F.strings_Trim (a0 a1 : Value) : M Value:=bindO (binV .eql a0 (.string (ByteArray.mk #[]))) λ x1 => M.bind (guardM x1 false (M.ret a1)) λ x2 => M.bind (guardM x1 false (optM (binV .eql x2 (.string (ByteArray.mk #[]))))) λ x3 => bindO (pickV x1 (.bool true) x3) λ x4 => condM x4 ( M.ret a0) ( bindO (lenS a1) λ x5 => bindO (binV .eql x5 (.int .i64 1)) λ x6 => M.bind (guardM x6 true (M.ret a1)) λ x7 => M.bind (guardM x6 true (optM (idxS x7 (.int .i64 0)))) λ x8 => M.bind (guardM x6 true (optM (binV .lss x8 (.int .u8 128)))) λ x9 => bindO (pickV x6 x9 (.bool false)) λ x10 => condM x10 ( drewM <| bindO (idxS a1 (.int .i64 0)) λ x11 => M.bind (F.strings_trimRightByte a0 x11) λ x12 => bindO (idxS a1 (.int .i64 0)) λ x13 => M.bind (F.strings_trimLeftByte x12 x13) λ x14 => M.ret x14) ( M.bind (F.strings_makeASCIISet a1) λ x15 => bindO (extV 0 x15) λ x16 => bindO (extV 1 x15) λ x17 => M.bind (newM 177 #[(.bool false), (.bool false), (.bool false), (.bool false), (.bool false), (.bool false), (.bool false), (.bool false), (.bool false), (.bool false), (.bool false), (.bool false), (.bool false), (.bool false), (.bool false), (.bool false), (.bool false), (.bool false), (.bool false), (.bool false), (.bool false), (.bool false), (.bool false), (.bool false), (.bool false), (.bool false), (.bool false), (.bool false), (.bool false), (.bool false), (.bool false), (.bool false), (.bool false), (.bool false), (.bool false), (.bool false), (.bool false), (.bool false), (.bool false), (.bool false), (.bool false), (.bool false), (.bool false), (.bool false), (.bool false), (.bool false), (.bool false), (.bool false), (.bool false), (.bool false), (.bool false), (.bool false), (.bool false), (.bool false), (.bool false), (.bool false), (.bool false), (.bool false), (.bool false), (.bool false), (.bool false), (.bool false), (.bool false), (.bool false), (.bool false), (.bool false), (.bool false), (.bool false), (.bool false), (.bool false), (.bool false), (.bool false), (.bool false), (.bool false), (.bool false), (.bool false), (.bool false), (.bool false), (.bool false), (.bool false), (.bool false), (.bool false), (.bool false), (.bool false), (.bool false), (.bool false), (.bool false), (.bool false), (.bool false), (.bool false), (.bool false), (.bool false), (.bool false), (.bool false), (.bool false), (.bool false), (.bool false), (.bool false), (.bool false), (.bool false), (.bool false), (.bool false), (.bool false), (.bool false), (.bool false), (.bool false), (.bool false), (.bool false), (.bool false), (.bool false), (.bool false), (.bool false), (.bool false), (.bool false), (.bool false), (.bool false), (.bool false), (.bool false), (.bool false), (.bool false), (.bool false), (.bool false), (.bool false), (.bool false), (.bool false), (.bool false), (.bool false), (.bool false), (.bool false), (.bool false), (.bool false), (.bool false), (.bool false), (.bool false), (.bool false), (.bool false), (.bool false), (.bool false), (.bool false), (.bool false), (.bool false), (.bool false), (.bool false), (.bool false), (.bool false), (.bool false), (.bool false), (.bool false), (.bool false), (.bool false), (.bool false), (.bool false), (.bool false), (.bool false), (.bool false), (.bool false), (.bool false), (.bool false), (.bool false), (.bool false), (.bool false), (.bool false), (.bool false), (.bool false), (.bool false), (.bool false), (.bool false), (.bool false), (.bool false), (.bool false), (.bool false), (.bool false), (.bool false), (.bool false), (.bool false), (.bool false), (.bool false), (.bool false), (.bool false), (.bool false), (.bool false), (.bool false), (.bool false), (.bool false), (.bool false), (.bool false), (.bool false), (.bool false), (.bool false), (.bool false), (.bool false), (.bool false), (.bool false), (.bool false), (.bool false), (.bool false), (.bool false), (.bool false), (.bool false), (.bool false), (.bool false), (.bool false), (.bool false), (.bool false), (.bool false), (.bool false), (.bool false), (.bool false), (.bool false), (.bool false), (.bool false), (.bool false), (.bool false), (.bool false), (.bool false), (.bool false), (.bool false), (.bool false), (.bool false), (.bool false), (.bool false), (.bool false), (.bool false), (.bool false), (.bool false), (.bool false), (.bool false), (.bool false), (.bool false), (.bool false), (.bool false), (.bool false), (.bool false), (.bool false), (.bool false), (.bool false), (.bool false), (.bool false), (.bool false), (.bool false), (.bool false), (.bool false), (.bool false), (.bool false), (.bool false), (.bool false), (.bool false), (.bool false), (.bool false), (.bool false), (.bool false), (.bool false), (.bool false), (.bool false), (.bool false), (.bool false)]) λ x18 => M.bind (stM 256 x18 x16) λ _ => condM x17 ( M.bind (F.strings_trimRightASCII a0 x18) λ x20 => M.bind (F.strings_trimLeftASCII x20 x18) λ x21 => M.ret x21) ( M.bind (F.strings_trimRightUnicode a0 a1) λ x22 => M.bind (F.strings_trimLeftUnicode x22 a1) λ x23 => M.ret x23)))
def F.strings_Trim.plan : Plan:=(ls 1 (seq (ls 1 (cond (ls 1 leaf) leaf)) (seq (ls 1 (cond (ls 1 leaf) leaf)) (seq (ls 2 (cond (ls 1 leaf) leaf)) (ls 1 leaf)))))
theorem F.strings_Trim.lift : LiftOk Tryz.prog 82 (ap2 F.strings_Trim):=lift2 (g:=evFn Tryz.prog (tcons 123 (ap2 F.strings_trimLeftByte) (tcons 124 (ap2 F.strings_trimRightByte) (tcons 125 (ap1 F.strings_makeASCIISet) (tcons 126 (ap2 F.strings_trimLeftASCII) (tcons 127 (ap2 F.strings_trimRightASCII) (tcons 128 (ap2 F.strings_trimLeftUnicode) (tcons 129 (ap2 F.strings_trimRightUnicode) tnil))))))) tnil 82 Tryz.f82 F.strings_Trim.plan) (evFn_sound (tcons_ok F.strings_trimLeftByte.lift (tcons_ok F.strings_trimRightByte.lift (tcons_ok F.strings_makeASCIISet.lift (tcons_ok F.strings_trimLeftASCII.lift (tcons_ok F.strings_trimRightASCII.lift (tcons_ok F.strings_trimLeftUnicode.lift (tcons_ok F.strings_trimRightUnicode.lift tnil_ok))))))) tnil_ok Tryz.func82 (by kernel_rfl)) (λ x0 x1 => by kernel_rfl)
noncomputable def F.paper_storeOK (a0 : Value) : M Value:=bindO (binV .eql a0 (.string (ByteArray.mk #[]))) λ x1 => M.bind (guardM x1 false (M.ret a0)) λ x2 => M.bind (guardM x1 false (optM (lenS x2))) λ x3 => M.bind (guardM x1 false (optM (binV .gtr x3 (.int .i64 40)))) λ x4 => bindO (pickV x1 (.bool true) x4) λ x5 => M.bind (guardM x5 false (M.ret a0)) λ x6 => M.bind (guardM x5 false (optM (idxS x6 (.int .i64 0)))) λ x7 => M.bind (guardM x5 false (optM (binV .lss x7 (.int .u8 97)))) λ x8 => bindO (pickV x5 (.bool true) x8) λ x9 => M.bind (guardM x9 false (M.ret a0)) λ x10 => M.bind (guardM x9 false (optM (idxS x10 (.int .i64 0)))) λ x11 => M.bind (guardM x9 false (optM (binV .gtr x11 (.int .u8 122)))) λ x12 => bindO (pickV x9 (.bool true) x12) λ x13 => condM x13 ( M.ret (.bool false)) ( M.bind (F.strings_Trim a0 (.string (ByteArray.mk #[97, 98, 99, 100, 101, 102, 103, 104, 105, 106, 107, 108, 109, 110, 111, 112, 113, 114, 115, 116, 117, 118, 119, 120, 121, 122, 48, 49, 50, 51, 52, 53, 54, 55, 56, 57, 45]))) λ x14 => bindO (binV .eql x14 (.string (ByteArray.mk #[]))) λ x15 => M.ret x15)
def F.paper_storeOK.plan : Plan:=(ls 1 (seq (ls 1 (cond (ls 1 leaf) leaf)) (ls 1 leaf)))
theorem F.paper_storeOK.lift : LiftOk Tryz.prog 41 (ap1 F.paper_storeOK):=lift1 (g:=evFn Tryz.prog (tcons 82 (ap2 F.strings_Trim) tnil) tnil 41 Tryz.f41 F.paper_storeOK.plan) (evFn_sound (tcons_ok F.strings_Trim.lift tnil_ok) tnil_ok Tryz.func41 (by kernel_rfl)) (λ x0 => by kernel_rfl)
noncomputable def F.paper_metaFields_1 (a0 : Value) : M Value:=bindO (nilChk a0) λ x1 => bindO (fieldA 1 x1) λ x2 => M.ret x2
def F.paper_metaFields_1.plan : Plan:=(ls 2 leaf)
theorem F.paper_metaFields_1.lift : LiftOk Tryz.prog 83 (ap1 F.paper_metaFields_1):=lift1 (g:=evFn Tryz.prog tnil tnil 83 Tryz.f83 F.paper_metaFields_1.plan) (evFn_sound tnil_ok tnil_ok Tryz.func83 (by kernel_rfl)) (λ x0 => by kernel_rfl)
noncomputable def F.paper_metaFields_2 (a0 : Value) : M Value:=bindO (nilChk a0) λ x1 => bindO (fieldA 2 x1) λ x2 => M.ret x2
def F.paper_metaFields_2.plan : Plan:=(ls 2 leaf)
theorem F.paper_metaFields_2.lift : LiftOk Tryz.prog 84 (ap1 F.paper_metaFields_2):=lift1 (g:=evFn Tryz.prog tnil tnil 84 Tryz.f84 F.paper_metaFields_2.plan) (evFn_sound tnil_ok tnil_ok Tryz.func84 (by kernel_rfl)) (λ x0 => by kernel_rfl)
noncomputable def F.paper_metaFields_3 (a0 : Value) : M Value:=bindO (nilChk a0) λ x1 => bindO (fieldA 3 x1) λ x2 => M.ret x2
def F.paper_metaFields_3.plan : Plan:=(ls 2 leaf)
theorem F.paper_metaFields_3.lift : LiftOk Tryz.prog 85 (ap1 F.paper_metaFields_3):=lift1 (g:=evFn Tryz.prog tnil tnil 85 Tryz.f85 F.paper_metaFields_3.plan) (evFn_sound tnil_ok tnil_ok Tryz.func85 (by kernel_rfl)) (λ x0 => by kernel_rfl)
noncomputable def F.paper_metaFields_4 (a0 : Value) : M Value:=bindO (nilChk a0) λ x1 => bindO (fieldA 4 x1) λ x2 => M.ret x2
def F.paper_metaFields_4.plan : Plan:=(ls 2 leaf)
theorem F.paper_metaFields_4.lift : LiftOk Tryz.prog 86 (ap1 F.paper_metaFields_4):=lift1 (g:=evFn Tryz.prog tnil tnil 86 Tryz.f86 F.paper_metaFields_4.plan) (evFn_sound tnil_ok tnil_ok Tryz.func86 (by kernel_rfl)) (λ x0 => by kernel_rfl)
noncomputable def F.paper_metaFields_5 (a0 : Value) : M Value:=bindO (nilChk a0) λ x1 => bindO (fieldA 5 x1) λ x2 => M.ret x2
def F.paper_metaFields_5.plan : Plan:=(ls 2 leaf)
theorem F.paper_metaFields_5.lift : LiftOk Tryz.prog 87 (ap1 F.paper_metaFields_5):=lift1 (g:=evFn Tryz.prog tnil tnil 87 Tryz.f87 F.paper_metaFields_5.plan) (evFn_sound tnil_ok tnil_ok Tryz.func87 (by kernel_rfl)) (λ x0 => by kernel_rfl)
noncomputable def F.paper_metaFields_6 (a0 : Value) : M Value:=bindO (nilChk a0) λ x1 => bindO (fieldA 6 x1) λ x2 => M.ret x2
def F.paper_metaFields_6.plan : Plan:=(ls 2 leaf)
theorem F.paper_metaFields_6.lift : LiftOk Tryz.prog 88 (ap1 F.paper_metaFields_6):=lift1 (g:=evFn Tryz.prog tnil tnil 88 Tryz.f88 F.paper_metaFields_6.plan) (evFn_sound tnil_ok tnil_ok Tryz.func88 (by kernel_rfl)) (λ x0 => by kernel_rfl)
noncomputable def F.paper_metaFields_7 (a0 : Value) : M Value:=bindO (nilChk a0) λ x1 => bindO (fieldA 7 x1) λ x2 => M.ret x2
def F.paper_metaFields_7.plan : Plan:=(ls 2 leaf)
theorem F.paper_metaFields_7.lift : LiftOk Tryz.prog 89 (ap1 F.paper_metaFields_7):=lift1 (g:=evFn Tryz.prog tnil tnil 89 Tryz.f89 F.paper_metaFields_7.plan) (evFn_sound tnil_ok tnil_ok Tryz.func89 (by kernel_rfl)) (λ x0 => by kernel_rfl)
noncomputable def F.paper_pointerFields_1 (a0 : Value) : M Value:=bindO (nilChk a0) λ x1 => bindO (fieldA 0 x1) λ x2 => M.ret x2
def F.paper_pointerFields_1.plan : Plan:=(ls 2 leaf)
theorem F.paper_pointerFields_1.lift : LiftOk Tryz.prog 109 (ap1 F.paper_pointerFields_1):=lift1 (g:=evFn Tryz.prog tnil tnil 109 Tryz.f109 F.paper_pointerFields_1.plan) (evFn_sound tnil_ok tnil_ok Tryz.func109 (by kernel_rfl)) (λ x0 => by kernel_rfl)
noncomputable def F.paper_pointerFields_2 (a0 : Value) : M Value:=bindO (nilChk a0) λ x1 => bindO (fieldA 1 x1) λ x2 => M.ret x2
def F.paper_pointerFields_2.plan : Plan:=(ls 2 leaf)
theorem F.paper_pointerFields_2.lift : LiftOk Tryz.prog 110 (ap1 F.paper_pointerFields_2):=lift1 (g:=evFn Tryz.prog tnil tnil 110 Tryz.f110 F.paper_pointerFields_2.plan) (evFn_sound tnil_ok tnil_ok Tryz.func110 (by kernel_rfl)) (λ x0 => by kernel_rfl)
noncomputable def F.paper_pointerFields_3 (a0 : Value) : M Value:=bindO (nilChk a0) λ x1 => bindO (fieldA 2 x1) λ x2 => M.ret x2
def F.paper_pointerFields_3.plan : Plan:=(ls 2 leaf)
theorem F.paper_pointerFields_3.lift : LiftOk Tryz.prog 111 (ap1 F.paper_pointerFields_3):=lift1 (g:=evFn Tryz.prog tnil tnil 111 Tryz.f111 F.paper_pointerFields_3.plan) (evFn_sound tnil_ok tnil_ok Tryz.func111 (by kernel_rfl)) (λ x0 => by kernel_rfl)
noncomputable def F.paper_pointerFields_4 (a0 : Value) : M Value:=bindO (nilChk a0) λ x1 => bindO (fieldA 3 x1) λ x2 => M.ret x2
def F.paper_pointerFields_4.plan : Plan:=(ls 2 leaf)
theorem F.paper_pointerFields_4.lift : LiftOk Tryz.prog 112 (ap1 F.paper_pointerFields_4):=lift1 (g:=evFn Tryz.prog tnil tnil 112 Tryz.f112 F.paper_pointerFields_4.plan) (evFn_sound tnil_ok tnil_ok Tryz.func112 (by kernel_rfl)) (λ x0 => by kernel_rfl)
noncomputable def F.clos : Tab:=(tcons 83 (ap1 F.paper_metaFields_1) (tcons 84 (ap1 F.paper_metaFields_2) (tcons 85 (ap1 F.paper_metaFields_3) (tcons 86 (ap1 F.paper_metaFields_4) (tcons 87 (ap1 F.paper_metaFields_5) (tcons 88 (ap1 F.paper_metaFields_6) (tcons 89 (ap1 F.paper_metaFields_7) (tcons 109 (ap1 F.paper_pointerFields_1) (tcons 110 (ap1 F.paper_pointerFields_2) (tcons 111 (ap1 F.paper_pointerFields_3) (tcons 112 (ap1 F.paper_pointerFields_4) tnil)))))))))))
theorem F.clos_ok : TabOk Tryz.prog F.clos:=(tcons_ok F.paper_metaFields_1.lift (tcons_ok F.paper_metaFields_2.lift (tcons_ok F.paper_metaFields_3.lift (tcons_ok F.paper_metaFields_4.lift (tcons_ok F.paper_metaFields_5.lift (tcons_ok F.paper_metaFields_6.lift (tcons_ok F.paper_metaFields_7.lift (tcons_ok F.paper_pointerFields_1.lift (tcons_ok F.paper_pointerFields_2.lift (tcons_ok F.paper_pointerFields_3.lift (tcons_ok F.paper_pointerFields_4.lift tnil_ok)))))))))))
noncomputable def F.api_Meta (a0 a1 : Value) : M Value:=bindO (lenL a0) λ x1 => M.bind (loopM (λ l2 => bindO (binV .lss (getL l2 0) x1) λ x3 => condM x3 ( bindO (idxA 4 a0 (getL l2 0)) λ x4 => M.bind (rdM (ldA 4 x4)) λ x5 => M.bind (newM 144 #[(.string .empty), (.int .i64 0), (.int .i64 0), Value.nilFunc]) λ x6 => M.bind (stM 4 x6 x5) λ _ => bindO (fieldA 3 x6) λ x8 => M.bind (rdM (ld1 x8)) λ x9 => M.bind (callV F.clos x9 [a1]) λ x10 => bindO (nilChk x10) λ x11 => M.bind (rdM (ld1 x11)) λ x12 => bindO (fieldA 1 x6) λ x13 => M.bind (rdM (ld1 x13)) λ x14 => bindO (binV .lss x12 x14) λ x15 => M.bind (guardM x15 false (M.ret x12)) λ x16 => M.bind (guardM x15 false (optM (fieldA 2 x6))) λ x17 => M.bind (guardM x15 false (rdM (ld1 x17))) λ x18 => M.bind (guardM x15 false (optM (binV .gtr x16 x18))) λ x19 => bindO (pickV x15 (.bool true) x19) λ x20 => condM x20 ( M.ret (Out.ret (.bool false))) ( bindO (binV .add (getL l2 0) (.int .i64 1)) λ x21 => M.ret (Out.norm [x21]))) ( M.ret (Out.exit 0 [(getL l2 0)]))) [(.int .i64 0)]) λ o23 => outK o23 (λ _ => M.fail) (λ k24 _ => bif Nat.beq k24 0 then ( M.ret (.bool true)) else M.fail) (λ r25 => M.ret r25)
noncomputable def F.strings_Builder_grow (a0 a1 : Value) : M Value:=drewM <| getM λ W1 => bindO (nilChk a0) λ x2 => bindO (fieldA 1 x2) λ x3 => M.bind (rdM (ld1 x3)) λ x4 => bindO (capV x4) λ x5 => bindO (binV .mul (.int .i64 2) x5) λ x6 => bindO (binV .add x6 a1) λ x7 => M.bind (F.bytealg_MakeNoZero x7) λ x8 => getM λ _ => bindO (nilChk a0) λ x10 => bindO (fieldA 1 x10) λ x11 => M.bind (rdM (ld1 x11)) λ x12 => bindO (lenL x12) λ x13 => bindO (sliceV 1 x8 none (some x13)) λ x14 => reqM (ld1 x11 W1 = some x12) <| bindO (nilChk a0) λ x15 => bindO (fieldA 1 x15) λ x16 => M.bind (rdM (ld1 x16)) λ x17 => M.bind (cpyM 1 x14 x17) λ _ => bindO (nilChk a0) λ x19 => bindO (fieldA 1 x19) λ x20 => M.bind (stM 1 x20 x14) λ _ => M.ret (Value.tuple #[])
def F.strings_Builder_grow.plan : Plan:=(ls 2 leaf)
theorem F.strings_Builder_grow.lift : LiftOk Tryz.prog 145 (ap2 F.strings_Builder_grow):=lift2 (g:=evFn Tryz.prog (tcons 165 (ap1 F.bytealg_MakeNoZero) tnil) tnil 145 Tryz.f145 F.strings_Builder_grow.plan) (evFn_sound (tcons_ok F.bytealg_MakeNoZero.lift tnil_ok) tnil_ok Tryz.func145 (by kernel_rfl)) (λ x0 x1 => by kernel_rfl)
noncomputable def F.strings_Builder_Grow (a0 a1 : Value) : M Value:=M.bind (F.strings_Builder_copyCheck a0) λ _ => M.bind ( bindO (binV .lss a1 (.int .i64 0)) λ x2 => condM x2 ( M.bind ((M.fail : M Value)) λ _ => M.ret (Out.norm [])) ( M.ret (Out.norm []))) λ o5 => outK o5 (λ _ => drewM <| bindO (nilChk a0) λ x8 => bindO (fieldA 1 x8) λ x9 => M.bind (rdM (ld1 x9)) λ x10 => bindO (capV x10) λ x11 => bindO (nilChk a0) λ x12 => bindO (fieldA 1 x12) λ x13 => M.bind (rdM (ld1 x13)) λ x14 => bindO (lenL x14) λ x15 => bindO (binV .sub x11 x15) λ x16 => bindO (binV .lss x16 a1) λ x17 => condM x17 ( M.bind (F.strings_Builder_grow a0 a1) λ _ => M.ret (Value.tuple #[])) ( M.ret (Value.tuple #[]))) (λ _ _ => M.fail) (λ r7 => M.ret r7)
def F.strings_Builder_Grow.plan : Plan:=(ls 1 (fork [] [6, 7, 8] [] (ls 1 (cond leaf leaf)) (ls 1 (cond leaf leaf))))
theorem F.strings_Builder_Grow.lift : LiftOk Tryz.prog 113 (ap2 F.strings_Builder_Grow):=lift2 (g:=evFn Tryz.prog (tcons 130 (ap1 F.strings_Builder_copyCheck) (tcons 145 (ap2 F.strings_Builder_grow) tnil)) tnil 113 Tryz.f113 F.strings_Builder_Grow.plan) (evFn_sound (tcons_ok F.strings_Builder_copyCheck.lift (tcons_ok F.strings_Builder_grow.lift tnil_ok)) tnil_ok Tryz.func113 (by kernel_rfl)) (λ x0 x1 => by kernel_rfl)
noncomputable def F.strings_Builder_WriteString (a0 a1 : Value) : M Value:=M.bind (F.strings_Builder_copyCheck a0) λ _ => bindO (nilChk a0) λ x2 => bindO (fieldA 1 x2) λ x3 => M.bind (rdM (ld1 x3)) λ x4 => M.bind (appM 5 1 1 #[(.int .u8 0)] x4 a1) λ x5 => bindO (nilChk a0) λ x6 => bindO (fieldA 1 x6) λ x7 => M.bind (stM 1 x7 x5) λ _ => bindO (lenS a1) λ x9 => M.ret (Value.tuple #[x9, Value.nilIface])
def F.strings_Builder_WriteString.plan : Plan:=(ls 4 leaf)
theorem F.strings_Builder_WriteString.lift : LiftOk Tryz.prog 90 (ap2 F.strings_Builder_WriteString):=lift2 (g:=evFn Tryz.prog (tcons 130 (ap1 F.strings_Builder_copyCheck) tnil) tnil 90 Tryz.f90 F.strings_Builder_WriteString.plan) (evFn_sound (tcons_ok F.strings_Builder_copyCheck.lift tnil_ok) tnil_ok Tryz.func90 (by kernel_rfl)) (λ x0 x1 => by kernel_rfl)
noncomputable def F.strings_Builder_String (a0 : Value) : M Value:=drewM <| getM λ W1 => bindO (nilChk a0) λ x2 => bindO (fieldA 1 x2) λ x3 => M.bind (rdM (ld1 x3)) λ x4 => M.bind (optM (sdV x4)) λ x5 => getM λ _ => bindO (nilChk a0) λ x7 => bindO (fieldA 1 x7) λ x8 => M.bind (rdM (ld1 x8)) λ x9 => bindO (lenL x9) λ x10 => M.bind (usM Tryz.prog [182, 3] x5 x10) λ x11 => getM λ _ => reqM (ld1 x8 W1 = some x9) <| M.ret x11
def F.strings_Builder_String.plan : Plan:=(ls 2 leaf)
theorem F.strings_Builder_String.lift : LiftOk Tryz.prog 92 (ap1 F.strings_Builder_String):=lift1 (g:=evFn Tryz.prog tnil tnil 92 Tryz.f92 F.strings_Builder_String.plan) (evFn_sound tnil_ok tnil_ok Tryz.func92 (by kernel_rfl)) (λ x0 => by kernel_rfl)
noncomputable def F.strings_Join (a0 a1 : Value) : M Value:=bindO (lenL a0) λ x1 => bindO (binV .eql x1 (.int .i64 0)) λ x2 => condM x2 ( M.ret (.string (ByteArray.mk #[]))) ( bindO (binV .eql x1 (.int .i64 1)) λ x3 => condM x3 ( bindO (idxA 1 a0 (.int .i64 0)) λ x4 => M.bind (rdM (ld1 x4)) λ x5 => M.ret x5) ( M.bind ( bindO (lenS a1) λ x6 => bindO (binV .gtr x6 (.int .i64 0)) λ x7 => condM x7 ( M.bind ( bindO (lenS a1) λ x8 => bindO (lenL a0) λ x9 => bindO (binV .sub x9 (.int .i64 1)) λ x10 => bindO (binV .quo (.int .i64 9223372036854775807) x10) λ x11 => bindO (binV .geq x8 x11) λ x12 => condM x12 ( M.bind ((M.fail : M Value)) λ _ => M.ret (Out.norm [])) ( M.ret (Out.norm []))) λ o15 => outK o15 (λ _ => bindO (lenS a1) λ x18 => bindO (lenL a0) λ x19 => bindO (binV .sub x19 (.int .i64 1)) λ x20 => bindO (binV .mul x18 x20) λ x21 => bindO (binV .add (.int .i64 0) x21) λ x22 => M.ret (Out.norm [x22])) (λ _ _ => M.fail) (λ r17 => M.ret (Out.ret r17))) ( M.ret (Out.norm [(.int .i64 0)]))) λ o25 => outK o25 (λ l24 => bindO (lenL a0) λ x28 => M.bind (loopM (λ l29 => bindO (binV .lss (getL l29 1) x28) λ x30 => condM x30 ( bindO (idxA 1 a0 (getL l29 1)) λ x31 => M.bind (rdM (ld1 x31)) λ x32 => M.bind ( bindO (lenS x32) λ x33 => bindO (binV .sub (.int .i64 9223372036854775807) (getL l29 0)) λ x34 => bindO (binV .gtr x33 x34) λ x35 => condM x35 ( M.bind ((M.fail : M Value)) λ _ => M.ret (Out.norm [])) ( M.ret (Out.norm []))) λ o38 => outK o38 (λ _ => bindO (lenS x32) λ x41 => bindO (binV .add (getL l29 0) x41) λ x42 => bindO (binV .add (getL l29 1) (.int .i64 1)) λ x43 => M.ret (Out.norm [x42, x43])) (λ _ _ => M.fail) (λ r40 => M.ret (Out.ret r40))) ( M.ret (Out.exit 1 [(getL l29 0), (getL l29 1)]))) [(getL l24 0), (.int .i64 0)]) λ o46 => outK o46 (λ _ => M.fail) (λ k47 l45 => bif Nat.beq k47 1 then ( M.bind (newM 93 #[(.pointer none), (.slice none 0 0)]) λ x49 => M.bind (F.strings_Builder_Grow x49 (getL l45 0)) λ _ => bindO (idxA 1 a0 (.int .i64 0)) λ x51 => M.bind (rdM (ld1 x51)) λ x52 => M.bind (F.strings_Builder_WriteString x49 x52) λ _ => bindO (sliceV 1 a0 (some (.int .i64 1)) none) λ x54 => bindO (lenL x54) λ x55 => M.bind (loopM (λ l56 => bindO (binV .lss (getL l56 0) x55) λ x57 => condM x57 ( bindO (idxA 1 x54 (getL l56 0)) λ x58 => M.bind (rdM (ld1 x58)) λ x59 => M.bind (F.strings_Builder_WriteString x49 a1) λ _ => M.bind (F.strings_Builder_WriteString x49 x59) λ _ => bindO (binV .add (getL l56 0) (.int .i64 1)) λ x62 => M.ret (Out.norm [x62])) ( M.ret (Out.exit 3 [(getL l56 0)]))) [(.int .i64 0)]) λ o64 => outK o64 (λ _ => M.fail) (λ k65 _ => bif Nat.beq k65 3 then ( M.bind (F.strings_Builder_String x49) λ x67 => M.ret x67) else M.fail) (λ r66 => M.ret r66)) else M.fail) (λ r48 => M.ret r48)) (λ _ _ => M.fail) (λ r27 => M.ret r27)))
def F.strings_Join.plan : Plan:=(ls 1 (seq (ls 1 (body (ls 1 (cond (ls 1 leaf) (ls 1 (cond (ls 1 leaf) leaf)))))) (ls 1 (fork [5] [5, 20, 21, 22, 23, 24, 25, 26, 27, 28, 29, 30, 31, 32, 33, 34, 35, 36, 37, 38] [] (ls 1 (cond (fork [] [23, 24, 25, 26, 27, 28, 29, 30] [] (ls 1 (cond leaf leaf)) leaf) leaf)) (seq (ls 1 (body (loop [5, 41] [5, 7, 41, 42, 43, 44, 45, 46, 47, 48, 49, 50, 51, 52, 53, 54, 55] [1] (ls 1 (seq (cond leaf leaf) (seq (body (ls 1 (fork [] [45, 46, 47, 48, 49, 50] [] (ls 1 (cond leaf leaf)) leaf))) leaf)))))) (ls 3 (seq (ls 1 (body (loop [65] [10, 65, 66, 67, 68, 69, 70, 71, 72, 73] [3] (ls 1 (seq (cond leaf leaf) (seq (body (ls 2 leaf)) leaf)))))) (ls 1 leaf))))))))
theorem F.strings_Join.lift : LiftOk Tryz.prog 67 (ap2 F.strings_Join):=lift2 (g:=evFn Tryz.prog (tcons 90 (ap2 F.strings_Builder_WriteString) (tcons 92 (ap1 F.strings_Builder_String) (tcons 113 (ap2 F.strings_Builder_Grow) tnil))) tnil 67 Tryz.f67 F.strings_Join.plan) (evFn_sound (tcons_ok F.strings_Builder_WriteString.lift (tcons_ok F.strings_Builder_String.lift (tcons_ok F.strings_Builder_Grow.lift tnil_ok))) tnil_ok Tryz.func67 (by kernel_rfl)) (λ x0 x1 => by kernel_rfl)
noncomputable def F.strings_Builder_WriteByte (a0 a1 : Value) : M Value:=M.bind (F.strings_Builder_copyCheck a0) λ _ => bindO (nilChk a0) λ x2 => bindO (fieldA 1 x2) λ x3 => M.bind (rdM (ld1 x3)) λ x4 => M.bind (bslM 5 1 (Builtin.zeroCells #[(.int .u8 0)] 1) [(0, 1, a1)]) λ x5 => M.bind (appM 5 1 1 #[(.int .u8 0)] x4 x5) λ x6 => bindO (nilChk a0) λ x7 => bindO (fieldA 1 x7) λ x8 => M.bind (stM 1 x8 x6) λ _ => M.ret Value.nilIface
def F.strings_Builder_WriteByte.plan : Plan:=(ls 4 leaf)
theorem F.strings_Builder_WriteByte.lift : LiftOk Tryz.prog 91 (ap2 F.strings_Builder_WriteByte):=lift2 (g:=evFn Tryz.prog (tcons 130 (ap1 F.strings_Builder_copyCheck) tnil) tnil 91 Tryz.f91 F.strings_Builder_WriteByte.plan) (evFn_sound (tcons_ok F.strings_Builder_copyCheck.lift tnil_ok) tnil_ok Tryz.func91 (by kernel_rfl)) (λ x0 x1 => by kernel_rfl)
noncomputable def F.paper_line (a0 a1 : Value) : M Value:=M.bind (F.strings_Join a1 (.string (ByteArray.mk #[32]))) λ x1 => M.bind (F.strings_Builder_WriteString a0 x1) λ _ => M.bind (F.strings_Builder_WriteByte a0 (.int .u8 10)) λ _ => M.ret (Value.tuple #[])
def F.paper_line.plan : Plan:=(ls 1 leaf)
theorem F.paper_line.lift : LiftOk Tryz.prog 44 (ap2 F.paper_line):=lift2 (g:=evFn Tryz.prog (tcons 67 (ap2 F.strings_Join) (tcons 90 (ap2 F.strings_Builder_WriteString) (tcons 91 (ap2 F.strings_Builder_WriteByte) tnil))) tnil 44 Tryz.f44 F.paper_line.plan) (evFn_sound (tcons_ok F.strings_Join.lift (tcons_ok F.strings_Builder_WriteString.lift (tcons_ok F.strings_Builder_WriteByte.lift tnil_ok))) tnil_ok Tryz.func44 (by kernel_rfl)) (λ x0 x1 => by kernel_rfl)
noncomputable def F.strconv_formatBase10 (a0 a1 : Value) : M Value:=bindO (lenL a0) λ x1 => M.bind (loopM (λ l2 => bindO (binV .geq (getL l2 1) (.int .i64 8)) λ x3 => condM x3 ( bindO (binV .rem (getL l2 0) (.int .u64 100000000)) λ x4 => bindO (cvtI IntKind.u32 x4) λ x5 => bindO (binV .quo (getL l2 0) (.int .u64 100000000)) λ x6 => bindO (binV .quo x5 (.int .u32 10000)) λ x7 => bindO (binV .rem x5 (.int .u32 10000)) λ x8 => bindO (binV .quo x8 (.int .u32 100)) λ x9 => bindO (binV .mul x9 (.int .u32 2)) λ x10 => bindO (binV .rem x8 (.int .u32 100)) λ x11 => bindO (binV .mul x11 (.int .u32 2)) λ x12 => bindO (binV .quo x7 (.int .u32 100)) λ x13 => bindO (binV .mul x13 (.int .u32 2)) λ x14 => bindO (binV .rem x7 (.int .u32 100)) λ x15 => bindO (binV .mul x15 (.int .u32 2)) λ x16 => drewM <| bindO (binV .sub (getL l2 1) (.int .i64 1)) λ x17 => bindO (binV .sub (getL l2 1) (.int .i64 2)) λ x18 => bindO (binV .add x12 (.int .u32 1)) λ x19 => bindO (idxS (.string (ByteArray.mk #[48, 48, 48, 49, 48, 50, 48, 51, 48, 52, 48, 53, 48, 54, 48, 55, 48, 56, 48, 57, 49, 48, 49, 49, 49, 50, 49, 51, 49, 52, 49, 53, 49, 54, 49, 55, 49, 56, 49, 57, 50, 48, 50, 49, 50, 50, 50, 51, 50, 52, 50, 53, 50, 54, 50, 55, 50, 56, 50, 57, 51, 48, 51, 49, 51, 50, 51, 51, 51, 52, 51, 53, 51, 54, 51, 55, 51, 56, 51, 57, 52, 48, 52, 49, 52, 50, 52, 51, 52, 52, 52, 53, 52, 54, 52, 55, 52, 56, 52, 57, 53, 48, 53, 49, 53, 50, 53, 51, 53, 52, 53, 53, 53, 54, 53, 55, 53, 56, 53, 57, 54, 48, 54, 49, 54, 50, 54, 51, 54, 52, 54, 53, 54, 54, 54, 55, 54, 56, 54, 57, 55, 48, 55, 49, 55, 50, 55, 51, 55, 52, 55, 53, 55, 54, 55, 55, 55, 56, 55, 57, 56, 48, 56, 49, 56, 50, 56, 51, 56, 52, 56, 53, 56, 54, 56, 55, 56, 56, 56, 57, 57, 48, 57, 49, 57, 50, 57, 51, 57, 52, 57, 53, 57, 54, 57, 55, 57, 56, 57, 57])) x19) λ x20 => bindO (idxS (.string (ByteArray.mk #[48, 48, 48, 49, 48, 50, 48, 51, 48, 52, 48, 53, 48, 54, 48, 55, 48, 56, 48, 57, 49, 48, 49, 49, 49, 50, 49, 51, 49, 52, 49, 53, 49, 54, 49, 55, 49, 56, 49, 57, 50, 48, 50, 49, 50, 50, 50, 51, 50, 52, 50, 53, 50, 54, 50, 55, 50, 56, 50, 57, 51, 48, 51, 49, 51, 50, 51, 51, 51, 52, 51, 53, 51, 54, 51, 55, 51, 56, 51, 57, 52, 48, 52, 49, 52, 50, 52, 51, 52, 52, 52, 53, 52, 54, 52, 55, 52, 56, 52, 57, 53, 48, 53, 49, 53, 50, 53, 51, 53, 52, 53, 53, 53, 54, 53, 55, 53, 56, 53, 57, 54, 48, 54, 49, 54, 50, 54, 51, 54, 52, 54, 53, 54, 54, 54, 55, 54, 56, 54, 57, 55, 48, 55, 49, 55, 50, 55, 51, 55, 52, 55, 53, 55, 54, 55, 55, 55, 56, 55, 57, 56, 48, 56, 49, 56, 50, 56, 51, 56, 52, 56, 53, 56, 54, 56, 55, 56, 56, 56, 57, 57, 48, 57, 49, 57, 50, 57, 51, 57, 52, 57, 53, 57, 54, 57, 55, 57, 56, 57, 57])) x12) λ x21 => bindO (idxA 1 a0 x17) λ x22 => M.bind (stM 1 x22 x20) λ _ => bindO (idxA 1 a0 x18) λ x24 => M.bind (stM 1 x24 x21) λ _ => drewM <| bindO (binV .sub (getL l2 1) (.int .i64 3)) λ x26 => bindO (binV .sub (getL l2 1) (.int .i64 4)) λ x27 => bindO (binV .add x10 (.int .u32 1)) λ x28 => bindO (idxS (.string (ByteArray.mk #[48, 48, 48, 49, 48, 50, 48, 51, 48, 52, 48, 53, 48, 54, 48, 55, 48, 56, 48, 57, 49, 48, 49, 49, 49, 50, 49, 51, 49, 52, 49, 53, 49, 54, 49, 55, 49, 56, 49, 57, 50, 48, 50, 49, 50, 50, 50, 51, 50, 52, 50, 53, 50, 54, 50, 55, 50, 56, 50, 57, 51, 48, 51, 49, 51, 50, 51, 51, 51, 52, 51, 53, 51, 54, 51, 55, 51, 56, 51, 57, 52, 48, 52, 49, 52, 50, 52, 51, 52, 52, 52, 53, 52, 54, 52, 55, 52, 56, 52, 57, 53, 48, 53, 49, 53, 50, 53, 51, 53, 52, 53, 53, 53, 54, 53, 55, 53, 56, 53, 57, 54, 48, 54, 49, 54, 50, 54, 51, 54, 52, 54, 53, 54, 54, 54, 55, 54, 56, 54, 57, 55, 48, 55, 49, 55, 50, 55, 51, 55, 52, 55, 53, 55, 54, 55, 55, 55, 56, 55, 57, 56, 48, 56, 49, 56, 50, 56, 51, 56, 52, 56, 53, 56, 54, 56, 55, 56, 56, 56, 57, 57, 48, 57, 49, 57, 50, 57, 51, 57, 52, 57, 53, 57, 54, 57, 55, 57, 56, 57, 57])) x28) λ x29 => bindO (idxS (.string (ByteArray.mk #[48, 48, 48, 49, 48, 50, 48, 51, 48, 52, 48, 53, 48, 54, 48, 55, 48, 56, 48, 57, 49, 48, 49, 49, 49, 50, 49, 51, 49, 52, 49, 53, 49, 54, 49, 55, 49, 56, 49, 57, 50, 48, 50, 49, 50, 50, 50, 51, 50, 52, 50, 53, 50, 54, 50, 55, 50, 56, 50, 57, 51, 48, 51, 49, 51, 50, 51, 51, 51, 52, 51, 53, 51, 54, 51, 55, 51, 56, 51, 57, 52, 48, 52, 49, 52, 50, 52, 51, 52, 52, 52, 53, 52, 54, 52, 55, 52, 56, 52, 57, 53, 48, 53, 49, 53, 50, 53, 51, 53, 52, 53, 53, 53, 54, 53, 55, 53, 56, 53, 57, 54, 48, 54, 49, 54, 50, 54, 51, 54, 52, 54, 53, 54, 54, 54, 55, 54, 56, 54, 57, 55, 48, 55, 49, 55, 50, 55, 51, 55, 52, 55, 53, 55, 54, 55, 55, 55, 56, 55, 57, 56, 48, 56, 49, 56, 50, 56, 51, 56, 52, 56, 53, 56, 54, 56, 55, 56, 56, 56, 57, 57, 48, 57, 49, 57, 50, 57, 51, 57, 52, 57, 53, 57, 54, 57, 55, 57, 56, 57, 57])) x10) λ x30 => bindO (idxA 1 a0 x26) λ x31 => M.bind (stM 1 x31 x29) λ _ => bindO (idxA 1 a0 x27) λ x33 => M.bind (stM 1 x33 x30) λ _ => drewM <| bindO (binV .sub (getL l2 1) (.int .i64 5)) λ x35 => bindO (binV .sub (getL l2 1) (.int .i64 6)) λ x36 => bindO (binV .add x16 (.int .u32 1)) λ x37 => bindO (idxS (.string (ByteArray.mk #[48, 48, 48, 49, 48, 50, 48, 51, 48, 52, 48, 53, 48, 54, 48, 55, 48, 56, 48, 57, 49, 48, 49, 49, 49, 50, 49, 51, 49, 52, 49, 53, 49, 54, 49, 55, 49, 56, 49, 57, 50, 48, 50, 49, 50, 50, 50, 51, 50, 52, 50, 53, 50, 54, 50, 55, 50, 56, 50, 57, 51, 48, 51, 49, 51, 50, 51, 51, 51, 52, 51, 53, 51, 54, 51, 55, 51, 56, 51, 57, 52, 48, 52, 49, 52, 50, 52, 51, 52, 52, 52, 53, 52, 54, 52, 55, 52, 56, 52, 57, 53, 48, 53, 49, 53, 50, 53, 51, 53, 52, 53, 53, 53, 54, 53, 55, 53, 56, 53, 57, 54, 48, 54, 49, 54, 50, 54, 51, 54, 52, 54, 53, 54, 54, 54, 55, 54, 56, 54, 57, 55, 48, 55, 49, 55, 50, 55, 51, 55, 52, 55, 53, 55, 54, 55, 55, 55, 56, 55, 57, 56, 48, 56, 49, 56, 50, 56, 51, 56, 52, 56, 53, 56, 54, 56, 55, 56, 56, 56, 57, 57, 48, 57, 49, 57, 50, 57, 51, 57, 52, 57, 53, 57, 54, 57, 55, 57, 56, 57, 57])) x37) λ x38 => bindO (idxS (.string (ByteArray.mk #[48, 48, 48, 49, 48, 50, 48, 51, 48, 52, 48, 53, 48, 54, 48, 55, 48, 56, 48, 57, 49, 48, 49, 49, 49, 50, 49, 51, 49, 52, 49, 53, 49, 54, 49, 55, 49, 56, 49, 57, 50, 48, 50, 49, 50, 50, 50, 51, 50, 52, 50, 53, 50, 54, 50, 55, 50, 56, 50, 57, 51, 48, 51, 49, 51, 50, 51, 51, 51, 52, 51, 53, 51, 54, 51, 55, 51, 56, 51, 57, 52, 48, 52, 49, 52, 50, 52, 51, 52, 52, 52, 53, 52, 54, 52, 55, 52, 56, 52, 57, 53, 48, 53, 49, 53, 50, 53, 51, 53, 52, 53, 53, 53, 54, 53, 55, 53, 56, 53, 57, 54, 48, 54, 49, 54, 50, 54, 51, 54, 52, 54, 53, 54, 54, 54, 55, 54, 56, 54, 57, 55, 48, 55, 49, 55, 50, 55, 51, 55, 52, 55, 53, 55, 54, 55, 55, 55, 56, 55, 57, 56, 48, 56, 49, 56, 50, 56, 51, 56, 52, 56, 53, 56, 54, 56, 55, 56, 56, 56, 57, 57, 48, 57, 49, 57, 50, 57, 51, 57, 52, 57, 53, 57, 54, 57, 55, 57, 56, 57, 57])) x16) λ x39 => bindO (idxA 1 a0 x35) λ x40 => M.bind (stM 1 x40 x38) λ _ => bindO (idxA 1 a0 x36) λ x42 => M.bind (stM 1 x42 x39) λ _ => drewM <| bindO (binV .sub (getL l2 1) (.int .i64 7)) λ x44 => bindO (binV .sub (getL l2 1) (.int .i64 8)) λ x45 => bindO (binV .add x14 (.int .u32 1)) λ x46 => bindO (idxS (.string (ByteArray.mk #[48, 48, 48, 49, 48, 50, 48, 51, 48, 52, 48, 53, 48, 54, 48, 55, 48, 56, 48, 57, 49, 48, 49, 49, 49, 50, 49, 51, 49, 52, 49, 53, 49, 54, 49, 55, 49, 56, 49, 57, 50, 48, 50, 49, 50, 50, 50, 51, 50, 52, 50, 53, 50, 54, 50, 55, 50, 56, 50, 57, 51, 48, 51, 49, 51, 50, 51, 51, 51, 52, 51, 53, 51, 54, 51, 55, 51, 56, 51, 57, 52, 48, 52, 49, 52, 50, 52, 51, 52, 52, 52, 53, 52, 54, 52, 55, 52, 56, 52, 57, 53, 48, 53, 49, 53, 50, 53, 51, 53, 52, 53, 53, 53, 54, 53, 55, 53, 56, 53, 57, 54, 48, 54, 49, 54, 50, 54, 51, 54, 52, 54, 53, 54, 54, 54, 55, 54, 56, 54, 57, 55, 48, 55, 49, 55, 50, 55, 51, 55, 52, 55, 53, 55, 54, 55, 55, 55, 56, 55, 57, 56, 48, 56, 49, 56, 50, 56, 51, 56, 52, 56, 53, 56, 54, 56, 55, 56, 56, 56, 57, 57, 48, 57, 49, 57, 50, 57, 51, 57, 52, 57, 53, 57, 54, 57, 55, 57, 56, 57, 57])) x46) λ x47 => bindO (idxS (.string (ByteArray.mk #[48, 48, 48, 49, 48, 50, 48, 51, 48, 52, 48, 53, 48, 54, 48, 55, 48, 56, 48, 57, 49, 48, 49, 49, 49, 50, 49, 51, 49, 52, 49, 53, 49, 54, 49, 55, 49, 56, 49, 57, 50, 48, 50, 49, 50, 50, 50, 51, 50, 52, 50, 53, 50, 54, 50, 55, 50, 56, 50, 57, 51, 48, 51, 49, 51, 50, 51, 51, 51, 52, 51, 53, 51, 54, 51, 55, 51, 56, 51, 57, 52, 48, 52, 49, 52, 50, 52, 51, 52, 52, 52, 53, 52, 54, 52, 55, 52, 56, 52, 57, 53, 48, 53, 49, 53, 50, 53, 51, 53, 52, 53, 53, 53, 54, 53, 55, 53, 56, 53, 57, 54, 48, 54, 49, 54, 50, 54, 51, 54, 52, 54, 53, 54, 54, 54, 55, 54, 56, 54, 57, 55, 48, 55, 49, 55, 50, 55, 51, 55, 52, 55, 53, 55, 54, 55, 55, 55, 56, 55, 57, 56, 48, 56, 49, 56, 50, 56, 51, 56, 52, 56, 53, 56, 54, 56, 55, 56, 56, 56, 57, 57, 48, 57, 49, 57, 50, 57, 51, 57, 52, 57, 53, 57, 54, 57, 55, 57, 56, 57, 57])) x14) λ x48 => bindO (idxA 1 a0 x44) λ x49 => M.bind (stM 1 x49 x47) λ _ => bindO (idxA 1 a0 x45) λ x51 => M.bind (stM 1 x51 x48) λ _ => bindO (binV .sub (getL l2 1) (.int .i64 8)) λ x53 => M.ret (Out.norm [x6, x53])) ( M.ret (Out.exit 0 [(getL l2 0), (getL l2 1)]))) [a1, x1]) λ o55 => outK o55 (λ _ => M.fail) (λ k56 l54 => bif Nat.beq k56 0 then ( bindO (cvtI IntKind.u32 (getL l54 0)) λ x58 => M.bind ( bindO (binV .geq (getL l54 1) (.int .i64 4)) λ x59 => condM x59 ( bindO (binV .rem x58 (.int .u32 10000)) λ x60 => bindO (binV .quo x58 (.int .u32 10000)) λ x61 => bindO (binV .quo x60 (.int .u32 100)) λ x62 => bindO (binV .mul x62 (.int .u32 2)) λ x63 => bindO (binV .rem x60 (.int .u32 100)) λ x64 => bindO (binV .mul x64 (.int .u32 2)) λ x65 => drewM <| bindO (binV .sub (getL l54 1) (.int .i64 1)) λ x66 => bindO (binV .sub (getL l54 1) (.int .i64 2)) λ x67 => bindO (binV .add x65 (.int .u32 1)) λ x68 => bindO (idxS (.string (ByteArray.mk #[48, 48, 48, 49, 48, 50, 48, 51, 48, 52, 48, 53, 48, 54, 48, 55, 48, 56, 48, 57, 49, 48, 49, 49, 49, 50, 49, 51, 49, 52, 49, 53, 49, 54, 49, 55, 49, 56, 49, 57, 50, 48, 50, 49, 50, 50, 50, 51, 50, 52, 50, 53, 50, 54, 50, 55, 50, 56, 50, 57, 51, 48, 51, 49, 51, 50, 51, 51, 51, 52, 51, 53, 51, 54, 51, 55, 51, 56, 51, 57, 52, 48, 52, 49, 52, 50, 52, 51, 52, 52, 52, 53, 52, 54, 52, 55, 52, 56, 52, 57, 53, 48, 53, 49, 53, 50, 53, 51, 53, 52, 53, 53, 53, 54, 53, 55, 53, 56, 53, 57, 54, 48, 54, 49, 54, 50, 54, 51, 54, 52, 54, 53, 54, 54, 54, 55, 54, 56, 54, 57, 55, 48, 55, 49, 55, 50, 55, 51, 55, 52, 55, 53, 55, 54, 55, 55, 55, 56, 55, 57, 56, 48, 56, 49, 56, 50, 56, 51, 56, 52, 56, 53, 56, 54, 56, 55, 56, 56, 56, 57, 57, 48, 57, 49, 57, 50, 57, 51, 57, 52, 57, 53, 57, 54, 57, 55, 57, 56, 57, 57])) x68) λ x69 => bindO (idxS (.string (ByteArray.mk #[48, 48, 48, 49, 48, 50, 48, 51, 48, 52, 48, 53, 48, 54, 48, 55, 48, 56, 48, 57, 49, 48, 49, 49, 49, 50, 49, 51, 49, 52, 49, 53, 49, 54, 49, 55, 49, 56, 49, 57, 50, 48, 50, 49, 50, 50, 50, 51, 50, 52, 50, 53, 50, 54, 50, 55, 50, 56, 50, 57, 51, 48, 51, 49, 51, 50, 51, 51, 51, 52, 51, 53, 51, 54, 51, 55, 51, 56, 51, 57, 52, 48, 52, 49, 52, 50, 52, 51, 52, 52, 52, 53, 52, 54, 52, 55, 52, 56, 52, 57, 53, 48, 53, 49, 53, 50, 53, 51, 53, 52, 53, 53, 53, 54, 53, 55, 53, 56, 53, 57, 54, 48, 54, 49, 54, 50, 54, 51, 54, 52, 54, 53, 54, 54, 54, 55, 54, 56, 54, 57, 55, 48, 55, 49, 55, 50, 55, 51, 55, 52, 55, 53, 55, 54, 55, 55, 55, 56, 55, 57, 56, 48, 56, 49, 56, 50, 56, 51, 56, 52, 56, 53, 56, 54, 56, 55, 56, 56, 56, 57, 57, 48, 57, 49, 57, 50, 57, 51, 57, 52, 57, 53, 57, 54, 57, 55, 57, 56, 57, 57])) x65) λ x70 => bindO (idxA 1 a0 x66) λ x71 => M.bind (stM 1 x71 x69) λ _ => bindO (idxA 1 a0 x67) λ x73 => M.bind (stM 1 x73 x70) λ _ => drewM <| bindO (binV .sub (getL l54 1) (.int .i64 3)) λ x75 => bindO (binV .sub (getL l54 1) (.int .i64 4)) λ x76 => bindO (binV .add x63 (.int .u32 1)) λ x77 => bindO (idxS (.string (ByteArray.mk #[48, 48, 48, 49, 48, 50, 48, 51, 48, 52, 48, 53, 48, 54, 48, 55, 48, 56, 48, 57, 49, 48, 49, 49, 49, 50, 49, 51, 49, 52, 49, 53, 49, 54, 49, 55, 49, 56, 49, 57, 50, 48, 50, 49, 50, 50, 50, 51, 50, 52, 50, 53, 50, 54, 50, 55, 50, 56, 50, 57, 51, 48, 51, 49, 51, 50, 51, 51, 51, 52, 51, 53, 51, 54, 51, 55, 51, 56, 51, 57, 52, 48, 52, 49, 52, 50, 52, 51, 52, 52, 52, 53, 52, 54, 52, 55, 52, 56, 52, 57, 53, 48, 53, 49, 53, 50, 53, 51, 53, 52, 53, 53, 53, 54, 53, 55, 53, 56, 53, 57, 54, 48, 54, 49, 54, 50, 54, 51, 54, 52, 54, 53, 54, 54, 54, 55, 54, 56, 54, 57, 55, 48, 55, 49, 55, 50, 55, 51, 55, 52, 55, 53, 55, 54, 55, 55, 55, 56, 55, 57, 56, 48, 56, 49, 56, 50, 56, 51, 56, 52, 56, 53, 56, 54, 56, 55, 56, 56, 56, 57, 57, 48, 57, 49, 57, 50, 57, 51, 57, 52, 57, 53, 57, 54, 57, 55, 57, 56, 57, 57])) x77) λ x78 => bindO (idxS (.string (ByteArray.mk #[48, 48, 48, 49, 48, 50, 48, 51, 48, 52, 48, 53, 48, 54, 48, 55, 48, 56, 48, 57, 49, 48, 49, 49, 49, 50, 49, 51, 49, 52, 49, 53, 49, 54, 49, 55, 49, 56, 49, 57, 50, 48, 50, 49, 50, 50, 50, 51, 50, 52, 50, 53, 50, 54, 50, 55, 50, 56, 50, 57, 51, 48, 51, 49, 51, 50, 51, 51, 51, 52, 51, 53, 51, 54, 51, 55, 51, 56, 51, 57, 52, 48, 52, 49, 52, 50, 52, 51, 52, 52, 52, 53, 52, 54, 52, 55, 52, 56, 52, 57, 53, 48, 53, 49, 53, 50, 53, 51, 53, 52, 53, 53, 53, 54, 53, 55, 53, 56, 53, 57, 54, 48, 54, 49, 54, 50, 54, 51, 54, 52, 54, 53, 54, 54, 54, 55, 54, 56, 54, 57, 55, 48, 55, 49, 55, 50, 55, 51, 55, 52, 55, 53, 55, 54, 55, 55, 55, 56, 55, 57, 56, 48, 56, 49, 56, 50, 56, 51, 56, 52, 56, 53, 56, 54, 56, 55, 56, 56, 56, 57, 57, 48, 57, 49, 57, 50, 57, 51, 57, 52, 57, 53, 57, 54, 57, 55, 57, 56, 57, 57])) x63) λ x79 => bindO (idxA 1 a0 x75) λ x80 => M.bind (stM 1 x80 x78) λ _ => bindO (idxA 1 a0 x76) λ x82 => M.bind (stM 1 x82 x79) λ _ => bindO (binV .sub (getL l54 1) (.int .i64 4)) λ x84 => M.ret (Out.norm [x84, x61])) ( M.ret (Out.norm [(getL l54 1), x58]))) λ o86 => outK o86 (λ l85 => M.bind ( bindO (binV .geq (getL l85 0) (.int .i64 2)) λ x89 => condM x89 ( bindO (binV .rem (getL l85 1) (.int .u32 100)) λ x90 => bindO (binV .mul x90 (.int .u32 2)) λ x91 => bindO (binV .quo (getL l85 1) (.int .u32 100)) λ x92 => drewM <| bindO (binV .sub (getL l85 0) (.int .i64 1)) λ x93 => bindO (binV .sub (getL l85 0) (.int .i64 2)) λ x94 => bindO (binV .add x91 (.int .u32 1)) λ x95 => bindO (idxS (.string (ByteArray.mk #[48, 48, 48, 49, 48, 50, 48, 51, 48, 52, 48, 53, 48, 54, 48, 55, 48, 56, 48, 57, 49, 48, 49, 49, 49, 50, 49, 51, 49, 52, 49, 53, 49, 54, 49, 55, 49, 56, 49, 57, 50, 48, 50, 49, 50, 50, 50, 51, 50, 52, 50, 53, 50, 54, 50, 55, 50, 56, 50, 57, 51, 48, 51, 49, 51, 50, 51, 51, 51, 52, 51, 53, 51, 54, 51, 55, 51, 56, 51, 57, 52, 48, 52, 49, 52, 50, 52, 51, 52, 52, 52, 53, 52, 54, 52, 55, 52, 56, 52, 57, 53, 48, 53, 49, 53, 50, 53, 51, 53, 52, 53, 53, 53, 54, 53, 55, 53, 56, 53, 57, 54, 48, 54, 49, 54, 50, 54, 51, 54, 52, 54, 53, 54, 54, 54, 55, 54, 56, 54, 57, 55, 48, 55, 49, 55, 50, 55, 51, 55, 52, 55, 53, 55, 54, 55, 55, 55, 56, 55, 57, 56, 48, 56, 49, 56, 50, 56, 51, 56, 52, 56, 53, 56, 54, 56, 55, 56, 56, 56, 57, 57, 48, 57, 49, 57, 50, 57, 51, 57, 52, 57, 53, 57, 54, 57, 55, 57, 56, 57, 57])) x95) λ x96 => bindO (idxS (.string (ByteArray.mk #[48, 48, 48, 49, 48, 50, 48, 51, 48, 52, 48, 53, 48, 54, 48, 55, 48, 56, 48, 57, 49, 48, 49, 49, 49, 50, 49, 51, 49, 52, 49, 53, 49, 54, 49, 55, 49, 56, 49, 57, 50, 48, 50, 49, 50, 50, 50, 51, 50, 52, 50, 53, 50, 54, 50, 55, 50, 56, 50, 57, 51, 48, 51, 49, 51, 50, 51, 51, 51, 52, 51, 53, 51, 54, 51, 55, 51, 56, 51, 57, 52, 48, 52, 49, 52, 50, 52, 51, 52, 52, 52, 53, 52, 54, 52, 55, 52, 56, 52, 57, 53, 48, 53, 49, 53, 50, 53, 51, 53, 52, 53, 53, 53, 54, 53, 55, 53, 56, 53, 57, 54, 48, 54, 49, 54, 50, 54, 51, 54, 52, 54, 53, 54, 54, 54, 55, 54, 56, 54, 57, 55, 48, 55, 49, 55, 50, 55, 51, 55, 52, 55, 53, 55, 54, 55, 55, 55, 56, 55, 57, 56, 48, 56, 49, 56, 50, 56, 51, 56, 52, 56, 53, 56, 54, 56, 55, 56, 56, 56, 57, 57, 48, 57, 49, 57, 50, 57, 51, 57, 52, 57, 53, 57, 54, 57, 55, 57, 56, 57, 57])) x91) λ x97 => bindO (idxA 1 a0 x93) λ x98 => M.bind (stM 1 x98 x96) λ _ => bindO (idxA 1 a0 x94) λ x100 => M.bind (stM 1 x100 x97) λ _ => bindO (binV .sub (getL l85 0) (.int .i64 2)) λ x102 => M.ret (Out.norm [x102, x92])) ( M.ret (Out.norm [(getL l85 0), (getL l85 1)]))) λ o104 => outK o104 (λ l103 => bindO (binV .gtr (getL l103 0) (.int .i64 0)) λ x107 => condM x107 ( bindO (binV .add (.int .u32 48) (getL l103 1)) λ x108 => bindO (cvtI IntKind.u8 x108) λ x109 => bindO (idxA 1 a0 (.int .i64 0)) λ x110 => M.bind (stM 1 x110 x109) λ _ => M.ret (Value.tuple #[])) ( M.ret (Value.tuple #[]))) (λ _ _ => M.fail) (λ r106 => M.ret r106)) (λ _ _ => M.fail) (λ r88 => M.ret r88)) else M.fail) (λ r57 => M.ret r57)
def F.strconv_formatBase10.plan : Plan:=(ls 1 (seq (body (loop [1, 4] [1, 4, 5, 6, 7, 8, 9, 10, 11, 19, 20, 21, 22, 23, 24, 25, 26, 27, 28, 29, 30, 31, 32, 33, 34, 35, 36, 37, 38, 39, 40, 41, 42, 43, 44, 45, 46, 47, 48, 49, 50, 51, 52, 53, 54, 55, 56, 57, 58, 59, 60, 61, 62, 63, 64, 65, 66, 67, 68, 69, 70, 71, 72, 73, 74, 75, 76, 77, 78, 79, 80, 81, 82, 83, 84, 85, 86, 87, 88, 89, 90, 91, 92, 93, 94, 95] [0] (seq (ls 1 (cond leaf leaf)) (body (ls 9 leaf))))) (ls 1 (fork [4, 12] [4, 12, 13, 14, 15, 98, 99, 100, 101, 102, 103, 104, 105, 106, 107, 108, 109, 110, 111, 112, 113, 114, 115, 116, 117, 118, 119, 120, 121, 122, 123, 124, 125, 126, 127, 128, 129, 130, 131, 132, 133, 134, 135, 136, 137] [] (ls 1 (cond (ls 5 leaf) leaf)) (fork [4, 12] [4, 12, 16, 138, 139, 140, 141, 142, 143, 144, 145, 146, 147, 148, 149, 150, 151, 152, 153, 154, 155, 156, 157, 158, 159] [] (ls 1 (cond (ls 3 leaf) leaf)) (ls 1 (cond leaf leaf)))))))
theorem F.strconv_formatBase10.lift : LiftOk Tryz.prog 158 (ap2 F.strconv_formatBase10):=lift2 (g:=evFn Tryz.prog tnil tnil 158 Tryz.f158 F.strconv_formatBase10.plan) (evFn_sound tnil_ok tnil_ok Tryz.func158 (by kernel_rfl)) (λ x0 x1 => by kernel_rfl)
noncomputable def F.strconv_isPowerOfTwo (a0 : Value) : M Value:=bindO (binV .sub a0 (.int .i64 1)) λ x1 => bindO (binV .and a0 x1) λ x2 => bindO (binV .eql x2 (.int .i64 0)) λ x3 => M.ret x3
def F.strconv_isPowerOfTwo.plan : Plan:=(ls 2 leaf)
theorem F.strconv_isPowerOfTwo.lift : LiftOk Tryz.prog 179 (ap1 F.strconv_isPowerOfTwo):=lift1 (g:=evFn Tryz.prog tnil tnil 179 Tryz.f179 F.strconv_isPowerOfTwo.plan) (evFn_sound tnil_ok tnil_ok Tryz.func179 (by kernel_rfl)) (λ x0 => by kernel_rfl)
noncomputable def F.bits_TrailingZeros32 (a0 : Value) : M Value:=bindO (binV .eql a0 (.int .u32 0)) λ x1 => condM x1 ( M.ret (.int .i64 32)) ( bindO (negV a0) λ x2 => bindO (binV .and a0 x2) λ x3 => bindO (binV .mul x3 (.int .u32 125613361)) λ x4 => bindO (shV BinOp.shr x4 (.int .u64 27)) λ x5 => bindO (idxR 32 1 (Value.pointer (some { block:=9, off:=0, spot:=none })) x5) λ x6 => M.bind (rdM (ld1 x6)) λ x7 => bindO (cvtI IntKind.i64 x7) λ x8 => M.ret x8)
def F.bits_TrailingZeros32.plan : Plan:=(ls 1 (seq (ls 1 (cond (ls 1 leaf) leaf)) (ls 1 leaf)))
theorem F.bits_TrailingZeros32.lift : LiftOk Tryz.prog 187 (ap1 F.bits_TrailingZeros32):=lift1 (g:=evFn Tryz.prog tnil tnil 187 Tryz.f187 F.bits_TrailingZeros32.plan) (evFn_sound tnil_ok tnil_ok Tryz.func187 (by kernel_rfl)) (λ x0 => by kernel_rfl)
noncomputable def F.bits_TrailingZeros64 (a0 : Value) : M Value:=bindO (binV .eql a0 (.int .u64 0)) λ x1 => condM x1 ( M.ret (.int .i64 64)) ( bindO (negV a0) λ x2 => bindO (binV .and a0 x2) λ x3 => bindO (binV .mul x3 (.int .u64 285870213051353865)) λ x4 => bindO (shV BinOp.shr x4 (.int .u64 58)) λ x5 => bindO (idxR 64 1 (Value.pointer (some { block:=10, off:=0, spot:=none })) x5) λ x6 => M.bind (rdM (ld1 x6)) λ x7 => bindO (cvtI IntKind.i64 x7) λ x8 => M.ret x8)
def F.bits_TrailingZeros64.plan : Plan:=(ls 1 (seq (ls 1 (cond (ls 1 leaf) leaf)) (ls 1 leaf)))
theorem F.bits_TrailingZeros64.lift : LiftOk Tryz.prog 188 (ap1 F.bits_TrailingZeros64):=lift1 (g:=evFn Tryz.prog tnil tnil 188 Tryz.f188 F.bits_TrailingZeros64.plan) (evFn_sound tnil_ok tnil_ok Tryz.func188 (by kernel_rfl)) (λ x0 => by kernel_rfl)
noncomputable def F.bits_TrailingZeros (a0 : Value) : M Value:=condM (.bool false) ( bindO (cvtI IntKind.u32 a0) λ x1 => M.bind (F.bits_TrailingZeros32 x1) λ x2 => M.ret x2) ( M.bind (F.bits_TrailingZeros64 a0) λ x3 => M.ret x3)
def F.bits_TrailingZeros.plan : Plan:=(ls 1 (seq (cond (ls 1 leaf) leaf) (ls 1 leaf)))
theorem F.bits_TrailingZeros.lift : LiftOk Tryz.prog 180 (ap1 F.bits_TrailingZeros):=lift1 (g:=evFn Tryz.prog (tcons 187 (ap1 F.bits_TrailingZeros32) (tcons 188 (ap1 F.bits_TrailingZeros64) tnil)) tnil 180 Tryz.f180 F.bits_TrailingZeros.plan) (evFn_sound (tcons_ok F.bits_TrailingZeros32.lift (tcons_ok F.bits_TrailingZeros64.lift tnil_ok)) tnil_ok Tryz.func180 (by kernel_rfl)) (λ x0 => by kernel_rfl)
noncomputable def F.strconv_formatBits (a0 a1 a2 a3 a4 : Value) : M Value:=M.bind ( bindO (binV .lss a2 (.int .i64 2)) λ x1 => M.bind (guardM x1 false (M.ret a2)) λ x2 => M.bind (guardM x1 false (optM (binV .eql x2 (.int .i64 10)))) λ x3 => bindO (pickV x1 (.bool true) x3) λ x4 => M.bind (guardM x4 false (M.ret a2)) λ x5 => M.bind (guardM x4 false (optM (binV .gtr x5 (.int .i64 36)))) λ x6 => bindO (pickV x4 (.bool true) x6) λ x7 => condM x7 ( M.bind ((M.fail : M Value)) λ _ => M.ret (Out.norm [])) ( M.ret (Out.norm []))) λ o10 => outK o10 (λ _ => M.bind (newM 230 #[(.int .u8 0), (.int .u8 0), (.int .u8 0), (.int .u8 0), (.int .u8 0), (.int .u8 0), (.int .u8 0), (.int .u8 0), (.int .u8 0), (.int .u8 0), (.int .u8 0), (.int .u8 0), (.int .u8 0), (.int .u8 0), (.int .u8 0), (.int .u8 0), (.int .u8 0), (.int .u8 0), (.int .u8 0), (.int .u8 0), (.int .u8 0), (.int .u8 0), (.int .u8 0), (.int .u8 0), (.int .u8 0), (.int .u8 0), (.int .u8 0), (.int .u8 0), (.int .u8 0), (.int .u8 0), (.int .u8 0), (.int .u8 0), (.int .u8 0), (.int .u8 0), (.int .u8 0), (.int .u8 0), (.int .u8 0), (.int .u8 0), (.int .u8 0), (.int .u8 0), (.int .u8 0), (.int .u8 0), (.int .u8 0), (.int .u8 0), (.int .u8 0), (.int .u8 0), (.int .u8 0), (.int .u8 0), (.int .u8 0), (.int .u8 0), (.int .u8 0), (.int .u8 0), (.int .u8 0), (.int .u8 0), (.int .u8 0), (.int .u8 0), (.int .u8 0), (.int .u8 0), (.int .u8 0), (.int .u8 0), (.int .u8 0), (.int .u8 0), (.int .u8 0), (.int .u8 0), (.int .u8 0)]) λ x13 => M.bind ( condM a3 ( bindO (negV a1) λ x14 => M.ret (Out.norm [x14])) ( M.ret (Out.norm [a1]))) λ o16 => outK o16 (λ l15 => M.bind ( M.bind (F.strconv_isPowerOfTwo a2) λ x19 => condM x19 ( bindO (cvtI IntKind.u64 a2) λ x20 => M.bind (F.bits_TrailingZeros x20) λ x21 => bindO (cvtI IntKind.u64 x21) λ x22 => bindO (cvtI IntKind.u64 a2) λ x23 => bindO (cvtI IntKind.u64 a2) λ x24 => bindO (binV .sub x24 (.int .u64 1)) λ x25 => M.bind (loopM (λ l26 => bindO (binV .geq (getL l26 0) x23) λ x27 => condM x27 ( bindO (binV .sub (getL l26 1) (.int .i64 1)) λ x28 => bindO (binV .and (getL l26 0) x25) λ x29 => bindO (idxS (.string (ByteArray.mk #[48, 49, 50, 51, 52, 53, 54, 55, 56, 57, 97, 98, 99, 100, 101, 102, 103, 104, 105, 106, 107, 108, 109, 110, 111, 112, 113, 114, 115, 116, 117, 118, 119, 120, 121, 122])) x29) λ x30 => bindO (idxR 65 1 x13 x28) λ x31 => M.bind (stM 1 x31 x30) λ _ => bindO (shV BinOp.shr (getL l26 0) x22) λ x33 => M.ret (Out.norm [x33, x28])) ( M.ret (Out.exit 0 [(getL l26 0), (getL l26 1)]))) [(getL l15 0), (.int .i64 65)]) λ o35 => outK o35 (λ _ => M.fail) (λ k36 l34 => bif Nat.beq k36 0 then ( bindO (binV .sub (getL l34 1) (.int .i64 1)) λ x38 => bindO (idxS (.string (ByteArray.mk #[48, 49, 50, 51, 52, 53, 54, 55, 56, 57, 97, 98, 99, 100, 101, 102, 103, 104, 105, 106, 107, 108, 109, 110, 111, 112, 113, 114, 115, 116, 117, 118, 119, 120, 121, 122])) (getL l34 0)) λ x39 => bindO (idxR 65 1 x13 x38) λ x40 => M.bind (stM 1 x40 x39) λ _ => M.ret (Out.norm [x38])) else M.fail) (λ r37 => M.ret (Out.ret r37))) ( bindO (cvtI IntKind.u64 a2) λ x42 => M.bind (loopM (λ l43 => bindO (binV .geq (getL l43 0) x42) λ x44 => condM x44 ( bindO (binV .sub (getL l43 1) (.int .i64 1)) λ x45 => bindO (binV .quo (getL l43 0) x42) λ x46 => bindO (binV .mul x46 x42) λ x47 => bindO (binV .sub (getL l43 0) x47) λ x48 => bindO (idxS (.string (ByteArray.mk #[48, 49, 50, 51, 52, 53, 54, 55, 56, 57, 97, 98, 99, 100, 101, 102, 103, 104, 105, 106, 107, 108, 109, 110, 111, 112, 113, 114, 115, 116, 117, 118, 119, 120, 121, 122])) x48) λ x49 => bindO (idxR 65 1 x13 x45) λ x50 => M.bind (stM 1 x50 x49) λ _ => M.ret (Out.norm [x46, x45])) ( M.ret (Out.exit 2 [(getL l43 0), (getL l43 1)]))) [(getL l15 0), (.int .i64 65)]) λ o53 => outK o53 (λ _ => M.fail) (λ k54 l52 => bif Nat.beq k54 2 then ( bindO (binV .sub (getL l52 1) (.int .i64 1)) λ x56 => bindO (idxS (.string (ByteArray.mk #[48, 49, 50, 51, 52, 53, 54, 55, 56, 57, 97, 98, 99, 100, 101, 102, 103, 104, 105, 106, 107, 108, 109, 110, 111, 112, 113, 114, 115, 116, 117, 118, 119, 120, 121, 122])) (getL l52 0)) λ x57 => bindO (idxR 65 1 x13 x56) λ x58 => M.bind (stM 1 x58 x57) λ _ => M.ret (Out.norm [x56])) else M.fail) (λ r55 => M.ret (Out.ret r55)))) λ o61 => outK o61 (λ l60 => M.bind ( condM a3 ( bindO (binV .sub (getL l60 0) (.int .i64 1)) λ x64 => bindO (idxR 65 1 x13 x64) λ x65 => M.bind (stM 1 x65 (.int .u8 45)) λ _ => M.ret (Out.norm [x64])) ( M.ret (Out.norm [(getL l60 0)]))) λ o68 => outK o68 (λ l67 => condM a4 ( bindO (sliceR 65 1 x13 (some (getL l67 0)) none) λ x71 => M.bind (appM 5 1 1 #[(.int .u8 0)] a0 x71) λ x72 => M.ret (Value.tuple #[x72, (.string (ByteArray.mk #[]))])) ( bindO (sliceR 65 1 x13 (some (getL l67 0)) none) λ x73 => M.bind (rdM (bsR x73)) λ x74 => M.ret (Value.tuple #[(.slice none 0 0), x74]))) (λ _ _ => M.fail) (λ r70 => M.ret r70)) (λ _ _ => M.fail) (λ r63 => M.ret r63)) (λ _ _ => M.fail) (λ r18 => M.ret r18)) (λ _ _ => M.fail) (λ r12 => M.ret r12)
def F.strconv_formatBits.plan : Plan:=(ls 1 (fork [] [19, 20, 21, 22, 23, 24, 25, 26, 27, 28, 29] [] (ls 1 (cond leaf leaf)) (ls 2 (fork [1] [1, 30, 31, 32] [] (ls 1 (cond leaf leaf)) (fork [13] [1, 13, 14, 15, 16, 17, 18, 33, 34, 35, 36, 37, 38, 39, 40, 41, 42, 43, 44, 45, 46, 47, 48, 49, 50, 51, 52, 53, 54, 55, 56, 57, 58, 59, 60, 61, 62, 63, 64, 65, 66, 67, 68, 69, 70, 71, 72, 73, 74, 75, 76, 77, 78, 79, 80, 81, 82, 83, 84, 85, 86, 87, 88] [] (ls 1 (cond (ls 3 (seq (body (loop [1, 13] [1, 13, 44, 45, 46, 47, 48, 49, 50, 51, 52, 53, 54, 55, 56, 57] [0] (seq (ls 1 (cond leaf leaf)) (body (ls 2 leaf))))) (ls 1 leaf))) (ls 1 (seq (body (loop [1, 13] [1, 13, 18, 66, 67, 68, 69, 70, 71, 72, 73, 74, 75, 76, 77, 78, 79, 80, 81, 82] [2] (seq (ls 1 (cond leaf leaf)) (body (ls 3 leaf))))) (ls 1 leaf))))) (fork [13] [13, 89, 90, 91, 92, 93] [] (ls 1 (cond (ls 1 leaf) leaf)) (seq (ls 1 (cond (ls 1 leaf) leaf)) (ls 1 leaf))))))))
theorem F.strconv_formatBits.lift : LiftOk Tryz.prog 159 (ap5 F.strconv_formatBits):=lift5 (g:=evFn Tryz.prog (tcons 179 (ap1 F.strconv_isPowerOfTwo) (tcons 180 (ap1 F.bits_TrailingZeros) tnil)) tnil 159 Tryz.f159 F.strconv_formatBits.plan) (evFn_sound (tcons_ok F.strconv_isPowerOfTwo.lift (tcons_ok F.bits_TrailingZeros.lift tnil_ok)) tnil_ok Tryz.func159 (by kernel_rfl)) (λ x0 x1 x2 x3 x4 => by kernel_rfl)
noncomputable def F.strconv_FormatInt_131 (a0 a1 : Value) : M Value:=bindO (binV .eql a1 (.int .i64 10)) λ x1 => condM x1 ( bindO (binV .leq (.int .i64 0) a0) λ x2 => M.bind (guardM x2 true (M.ret a0)) λ x3 => M.bind (guardM x2 true (optM (binV .lss x3 (.int .i64 100)))) λ x4 => bindO (pickV x2 x4 (.bool false)) λ x5 => condM x5 ( M.bind (F.strconv_small a0) λ x6 => M.ret x6) ( M.bind (newM 210 #[(.int .u8 0), (.int .u8 0), (.int .u8 0), (.int .u8 0), (.int .u8 0), (.int .u8 0), (.int .u8 0), (.int .u8 0), (.int .u8 0), (.int .u8 0), (.int .u8 0), (.int .u8 0), (.int .u8 0), (.int .u8 0), (.int .u8 0), (.int .u8 0), (.int .u8 0), (.int .u8 0), (.int .u8 0), (.int .u8 0), (.int .u8 0), (.int .u8 0), (.int .u8 0), (.int .u8 0)]) λ x7 => bindO (cvtI IntKind.u64 a0) λ x8 => M.bind ( bindO (binV .lss a0 (.int .i64 0)) λ x9 => condM x9 ( bindO (negV x8) λ x10 => M.ret (Out.norm [x10])) ( M.ret (Out.norm [x8]))) λ o12 => outK o12 (λ l11 => M.bind (F.strconv_numDigits (getL l11 0)) λ x15 => bindO (binV .add (.int .i64 1) x15) λ x16 => bindO (sliceR 24 1 x7 (some (.int .i64 1)) (some x16)) λ x17 => M.bind (F.strconv_formatBase10 x17 (getL l11 0)) λ _ => bindO (binV .lss a0 (.int .i64 0)) λ x19 => condM x19 ( bindO (idxR 24 1 x7 (.int .i64 0)) λ x20 => M.bind (stM 1 x20 (.int .u8 45)) λ _ => bindO (binV .add (.int .i64 1) x15) λ x22 => bindO (sliceR 24 1 x7 none (some x22)) λ x23 => M.bind (rdM (bsR x23)) λ x24 => M.ret x24) ( bindO (binV .add (.int .i64 1) x15) λ x25 => bindO (sliceR 24 1 x7 (some (.int .i64 1)) (some x25)) λ x26 => M.bind (rdM (bsR x26)) λ x27 => M.ret x27)) (λ _ _ => M.fail) (λ r14 => M.ret r14))) ( bindO (cvtI IntKind.u64 a0) λ x29 => bindO (binV .lss a0 (.int .i64 0)) λ x30 => M.bind (F.strconv_formatBits (.slice none 0 0) x29 a1 x30 (.bool false)) λ x31 => bindO (extV 0 x31) λ _ => bindO (extV 1 x31) λ x33 => M.ret x33)
def F.strconv_FormatInt_131.plan : Plan:=(ls 1 (seq (ls 1 (cond (seq (ls 1 (cond (ls 1 leaf) leaf)) (ls 2 (fork [6] [6, 22, 23, 24, 25] [] (ls 1 (cond leaf leaf)) (ls 2 (seq (ls 1 (cond (ls 2 leaf) leaf)) (ls 1 leaf)))))) leaf)) (ls 2 leaf)))
theorem F.strconv_FormatInt_131.lift : LiftOk Tryz.prog 131 (ap2 F.strconv_FormatInt_131):=lift2 (g:=evFn Tryz.prog (tcons 156 (ap1 F.strconv_small) (tcons 157 (ap1 F.strconv_numDigits) (tcons 158 (ap2 F.strconv_formatBase10) (tcons 159 (ap5 F.strconv_formatBits) tnil)))) tnil 131 Tryz.f131 F.strconv_FormatInt_131.plan) (evFn_sound (tcons_ok F.strconv_small.lift (tcons_ok F.strconv_numDigits.lift (tcons_ok F.strconv_formatBase10.lift (tcons_ok F.strconv_formatBits.lift tnil_ok)))) tnil_ok Tryz.func131 (by kernel_rfl)) (λ x0 x1 => by kernel_rfl)
noncomputable def F.strconv_Itoa_95 (a0 : Value) : M Value:=M.bind (F.strconv_FormatInt_131 a0 (.int .i64 10)) λ x1 => M.ret x1
def F.strconv_Itoa_95.plan : Plan:=(ls 2 leaf)
theorem F.strconv_Itoa_95.lift : LiftOk Tryz.prog 95 (ap1 F.strconv_Itoa_95):=lift1 (g:=evFn Tryz.prog (tcons 131 (ap2 F.strconv_FormatInt_131) tnil) tnil 95 Tryz.f95 F.strconv_Itoa_95.plan) (evFn_sound (tcons_ok F.strconv_FormatInt_131.lift tnil_ok) tnil_ok Tryz.func95 (by kernel_rfl)) (λ x0 => by kernel_rfl)
noncomputable def F.strconv_Itoa (a0 : Value) : M Value:=M.bind (F.strconv_Itoa_95 a0) λ x1 => M.ret x1
def F.strconv_Itoa.plan : Plan:=(ls 2 leaf)
theorem F.strconv_Itoa.lift : LiftOk Tryz.prog 48 (ap1 F.strconv_Itoa):=lift1 (g:=evFn Tryz.prog (tcons 95 (ap1 F.strconv_Itoa_95) tnil) tnil 48 Tryz.f48 F.strconv_Itoa.plan) (evFn_sound (tcons_ok F.strconv_Itoa_95.lift tnil_ok) tnil_ok Tryz.func48 (by kernel_rfl)) (λ x0 => by kernel_rfl)
noncomputable def F.api_Meta_45 (a0 a1 a2 : Value) : M Value:=bindO (lenL a1) λ x1 => M.bind (loopM (λ l2 => bindO (binV .lss (getL l2 0) x1) λ x3 => condM x3 ( bindO (idxA 4 a1 (getL l2 0)) λ x4 => M.bind (rdM (ldA 4 x4)) λ x5 => M.bind (newM 144 #[(.string .empty), (.int .i64 0), (.int .i64 0), Value.nilFunc]) λ x6 => M.bind (stM 4 x6 x5) λ _ => drewM <| getM λ _ => bindO (fieldA 0 x6) λ x9 => M.bind (rdM (ld1 x9)) λ x10 => bindO (fieldA 3 x6) λ x11 => M.bind (rdM (ld1 x11)) λ x12 => M.bind (callV F.clos x12 [a2]) λ x13 => getM λ W14 => bindO (nilChk x13) λ x15 => M.bind (rdM (ld1 x15)) λ x16 => M.bind (F.strconv_Itoa x16) λ x17 => getM λ W18 => M.bind (bslM 9 2 (Builtin.zeroCells #[(.string .empty)] 2) [(0, 1, x10), (1, 1, x17)]) λ x19 => getM λ _ => M.bind (F.paper_line a0 x19) λ _ => getM λ _ => reqM (ld1 x9 W14 = some x10) <| reqM (ld1 x9 W18 = some x10) <| bindO (binV .add (getL l2 0) (.int .i64 1)) λ x23 => M.ret (Out.norm [x23])) ( M.ret (Out.exit 0 [(getL l2 0)]))) [(.int .i64 0)]) λ o25 => outK o25 (λ _ => M.fail) (λ k26 _ => bif Nat.beq k26 0 then ( M.ret (Value.tuple #[])) else M.fail) (λ r27 => M.ret r27)
noncomputable def F.digest_through (a0 a1 : Value) : M Value:=M.bind (loopM (λ l1 => bindO (lenS a1) λ x2 => bindO (binV .lss (getL l1 1) x2) λ x3 => condM x3 ( bindO (idxS a1 (getL l1 1)) λ x4 => bindO (cvtI IntKind.u32 x4) λ x5 => bindO (binV .xor (getL l1 0) x5) λ x6 => bindO (binV .and x6 (.int .u32 15)) λ x7 => bindO (idxR 16 1 (Value.pointer (some { block:=1, off:=0, spot:=none })) x7) λ x8 => M.bind (rdM (ld1 x8)) λ x9 => bindO (shV BinOp.shr x6 (.int .u64 4)) λ x10 => bindO (binV .xor x9 x10) λ x11 => bindO (binV .and x11 (.int .u32 15)) λ x12 => bindO (idxR 16 1 (Value.pointer (some { block:=1, off:=0, spot:=none })) x12) λ x13 => M.bind (rdM (ld1 x13)) λ x14 => bindO (shV BinOp.shr x11 (.int .u64 4)) λ x15 => bindO (binV .xor x14 x15) λ x16 => bindO (binV .add (getL l1 1) (.int .i64 1)) λ x17 => M.ret (Out.norm [x16, x17])) ( M.ret (Out.exit 0 [(getL l1 0), (getL l1 1)]))) [a0, (.int .i64 0)]) λ o19 => outK o19 (λ _ => M.fail) (λ k20 l18 => bif Nat.beq k20 0 then ( M.ret (getL l18 0)) else M.fail) (λ r21 => M.ret r21)
def F.digest_through.plan : Plan:=(ls 1 (seq (ls 1 (body (loop [0, 5] [0, 5, 6, 7, 8, 9, 10, 11, 12, 13, 14, 15, 16, 17, 18, 19, 20, 21, 22, 23, 24, 25, 26, 27, 28, 29, 30, 31] [0] (seq (ls 1 (cond leaf leaf)) (seq (body (ls 2 leaf)) leaf))))) (ls 1 leaf)))
theorem F.digest_through.lift : LiftOk Tryz.prog 114 (ap2 F.digest_through):=lift2 (g:=evFn Tryz.prog tnil tnil 114 Tryz.f114 F.digest_through.plan) (evFn_sound tnil_ok tnil_ok Tryz.func114 (by kernel_rfl)) (λ x0 x1 => by kernel_rfl)
noncomputable def F.digest_CRC (a0 : Value) : M Value:=bindO (lenL a0) λ x1 => M.bind (loopM (λ l2 => bindO (binV .lss (getL l2 1) x1) λ x3 => condM x3 ( bindO (idxA 1 a0 (getL l2 1)) λ x4 => M.bind (rdM (ld1 x4)) λ x5 => M.bind (F.digest_through (getL l2 0) x5) λ x6 => bindO (binV .add (getL l2 1) (.int .i64 1)) λ x7 => M.ret (Out.norm [x6, x7])) ( M.ret (Out.exit 0 [(getL l2 0), (getL l2 1)]))) [(.int .u32 4294967295), (.int .i64 0)]) λ o9 => outK o9 (λ _ => M.fail) (λ k10 l8 => bif Nat.beq k10 0 then ( bindO (cplV (getL l8 0)) λ x12 => bindO (cvtI IntKind.i64 x12) λ x13 => M.ret x13) else M.fail) (λ r11 => M.ret r11)
def F.digest_CRC.plan : Plan:=(ls 2 (seq (ls 1 (body (loop [3, 8] [3, 5, 8, 9, 10, 11, 12, 13, 14, 15] [0] (ls 1 (seq (cond leaf leaf) (seq (body (ls 1 leaf)) leaf)))))) (ls 1 leaf)))
theorem F.digest_CRC.lift : LiftOk Tryz.prog 68 (ap1 F.digest_CRC):=lift1 (g:=evFn Tryz.prog (tcons 114 (ap2 F.digest_through) tnil) tnil 68 Tryz.f68 F.digest_CRC.plan) (evFn_sound (tcons_ok F.digest_through.lift tnil_ok) tnil_ok Tryz.func68 (by kernel_rfl)) (λ x0 => by kernel_rfl)
noncomputable def F.strconv_FormatInt (a0 a1 : Value) : M Value:=M.bind (F.strconv_FormatInt_131 a0 a1) λ x1 => M.ret x1
def F.strconv_FormatInt.plan : Plan:=(ls 2 leaf)
theorem F.strconv_FormatInt.lift : LiftOk Tryz.prog 99 (ap2 F.strconv_FormatInt):=lift2 (g:=evFn Tryz.prog (tcons 131 (ap2 F.strconv_FormatInt_131) tnil) tnil 99 Tryz.f99 F.strconv_FormatInt.plan) (evFn_sound (tcons_ok F.strconv_FormatInt_131.lift tnil_ok) tnil_ok Tryz.func99 (by kernel_rfl)) (λ x0 x1 => by kernel_rfl)
noncomputable def F.strings_Builder_Len (a0 : Value) : M Value:=bindO (nilChk a0) λ x1 => bindO (fieldA 1 x1) λ x2 => M.bind (rdM (ld1 x2)) λ x3 => bindO (lenL x3) λ x4 => M.ret x4
def F.strings_Builder_Len.plan : Plan:=(ls 2 leaf)
theorem F.strings_Builder_Len.lift : LiftOk Tryz.prog 138 (ap1 F.strings_Builder_Len):=lift1 (g:=evFn Tryz.prog tnil tnil 138 Tryz.f138 F.strings_Builder_Len.plan) (evFn_sound tnil_ok tnil_ok Tryz.func138 (by kernel_rfl)) (λ x0 => by kernel_rfl)
noncomputable def F.strings_Repeat (a0 a1 : Value) : M Value:=bindO (binV .eql a1 (.int .i64 0)) λ x1 => condM x1 ( M.ret (.string (ByteArray.mk #[]))) ( bindO (binV .eql a1 (.int .i64 1)) λ x2 => condM x2 ( M.ret a0) ( M.bind ( bindO (binV .lss a1 (.int .i64 0)) λ x3 => condM x3 ( M.bind ((M.fail : M Value)) λ _ => M.ret (Out.norm [])) ( M.ret (Out.norm []))) λ o6 => outK o6 (λ _ => bindO (lenS a0) λ x9 => bindO (cvtI IntKind.u64 x9) λ x10 => bindO (cvtI IntKind.u64 a1) λ x11 => M.bind (F.bits_Mul x10 x11) λ x12 => bindO (extV 0 x12) λ x13 => bindO (extV 1 x12) λ x14 => M.bind ( bindO (binV .gtr x13 (.int .u64 0)) λ x15 => M.bind (guardM x15 false (M.ret x14)) λ x16 => M.bind (guardM x15 false (optM (binV .gtr x16 (.int .u64 9223372036854775807)))) λ x17 => bindO (pickV x15 (.bool true) x17) λ x18 => condM x18 ( M.bind ((M.fail : M Value)) λ _ => M.ret (Out.norm [])) ( M.ret (Out.norm []))) λ o21 => outK o21 (λ _ => bindO (cvtI IntKind.i64 x14) λ x24 => bindO (lenS a0) λ x25 => bindO (binV .eql x25 (.int .i64 0)) λ x26 => condM x26 ( M.ret (.string (ByteArray.mk #[]))) ( M.bind ( bindO (idxS a0 (.int .i64 0)) λ x27 => M.bind ( bindO (binV .eql x27 (.int .u8 32)) λ x28 => condM x28 ( M.ret (Out.norm [x28])) ( bindO (binV .eql x27 (.int .u8 45)) λ x29 => condM x29 ( M.ret (Out.norm [x29])) ( bindO (binV .eql x27 (.int .u8 48)) λ x30 => condM x30 ( M.ret (Out.norm [x30])) ( bindO (binV .eql x27 (.int .u8 61)) λ x31 => condM x31 ( M.ret (Out.norm [x31])) ( bindO (binV .eql x27 (.int .u8 9)) λ x32 => M.ret (Out.norm [x32])))))) λ o34 => outK o34 (λ l33 => condM (getL l33 0) ( bindO (binV .leq x24 (.int .i64 128)) λ x37 => M.bind (guardM x37 true (M.ret a0)) λ x38 => M.bind (guardM x37 true (F.strings_HasPrefix (.string (ByteArray.mk #[32, 32, 32, 32, 32, 32, 32, 32, 32, 32, 32, 32, 32, 32, 32, 32, 32, 32, 32, 32, 32, 32, 32, 32, 32, 32, 32, 32, 32, 32, 32, 32, 32, 32, 32, 32, 32, 32, 32, 32, 32, 32, 32, 32, 32, 32, 32, 32, 32, 32, 32, 32, 32, 32, 32, 32, 32, 32, 32, 32, 32, 32, 32, 32, 32, 32, 32, 32, 32, 32, 32, 32, 32, 32, 32, 32, 32, 32, 32, 32, 32, 32, 32, 32, 32, 32, 32, 32, 32, 32, 32, 32, 32, 32, 32, 32, 32, 32, 32, 32, 32, 32, 32, 32, 32, 32, 32, 32, 32, 32, 32, 32, 32, 32, 32, 32, 32, 32, 32, 32, 32, 32, 32, 32, 32, 32, 32, 32])) x38)) λ x39 => bindO (pickV x37 x39 (.bool false)) λ x40 => condM x40 ( bindO (sliceS (.string (ByteArray.mk #[32, 32, 32, 32, 32, 32, 32, 32, 32, 32, 32, 32, 32, 32, 32, 32, 32, 32, 32, 32, 32, 32, 32, 32, 32, 32, 32, 32, 32, 32, 32, 32, 32, 32, 32, 32, 32, 32, 32, 32, 32, 32, 32, 32, 32, 32, 32, 32, 32, 32, 32, 32, 32, 32, 32, 32, 32, 32, 32, 32, 32, 32, 32, 32, 32, 32, 32, 32, 32, 32, 32, 32, 32, 32, 32, 32, 32, 32, 32, 32, 32, 32, 32, 32, 32, 32, 32, 32, 32, 32, 32, 32, 32, 32, 32, 32, 32, 32, 32, 32, 32, 32, 32, 32, 32, 32, 32, 32, 32, 32, 32, 32, 32, 32, 32, 32, 32, 32, 32, 32, 32, 32, 32, 32, 32, 32, 32, 32])) none (some x24)) λ x41 => M.ret (Out.ret x41)) ( bindO (binV .leq x24 (.int .i64 128)) λ x42 => M.bind (guardM x42 true (M.ret a0)) λ x43 => M.bind (guardM x42 true (F.strings_HasPrefix (.string (ByteArray.mk #[45, 45, 45, 45, 45, 45, 45, 45, 45, 45, 45, 45, 45, 45, 45, 45, 45, 45, 45, 45, 45, 45, 45, 45, 45, 45, 45, 45, 45, 45, 45, 45, 45, 45, 45, 45, 45, 45, 45, 45, 45, 45, 45, 45, 45, 45, 45, 45, 45, 45, 45, 45, 45, 45, 45, 45, 45, 45, 45, 45, 45, 45, 45, 45, 45, 45, 45, 45, 45, 45, 45, 45, 45, 45, 45, 45, 45, 45, 45, 45, 45, 45, 45, 45, 45, 45, 45, 45, 45, 45, 45, 45, 45, 45, 45, 45, 45, 45, 45, 45, 45, 45, 45, 45, 45, 45, 45, 45, 45, 45, 45, 45, 45, 45, 45, 45, 45, 45, 45, 45, 45, 45, 45, 45, 45, 45, 45, 45])) x43)) λ x44 => bindO (pickV x42 x44 (.bool false)) λ x45 => condM x45 ( bindO (sliceS (.string (ByteArray.mk #[45, 45, 45, 45, 45, 45, 45, 45, 45, 45, 45, 45, 45, 45, 45, 45, 45, 45, 45, 45, 45, 45, 45, 45, 45, 45, 45, 45, 45, 45, 45, 45, 45, 45, 45, 45, 45, 45, 45, 45, 45, 45, 45, 45, 45, 45, 45, 45, 45, 45, 45, 45, 45, 45, 45, 45, 45, 45, 45, 45, 45, 45, 45, 45, 45, 45, 45, 45, 45, 45, 45, 45, 45, 45, 45, 45, 45, 45, 45, 45, 45, 45, 45, 45, 45, 45, 45, 45, 45, 45, 45, 45, 45, 45, 45, 45, 45, 45, 45, 45, 45, 45, 45, 45, 45, 45, 45, 45, 45, 45, 45, 45, 45, 45, 45, 45, 45, 45, 45, 45, 45, 45, 45, 45, 45, 45, 45, 45])) none (some x24)) λ x46 => M.ret (Out.ret x46)) ( bindO (binV .leq x24 (.int .i64 64)) λ x47 => M.bind (guardM x47 true (M.ret a0)) λ x48 => M.bind (guardM x47 true (F.strings_HasPrefix (.string (ByteArray.mk #[48, 48, 48, 48, 48, 48, 48, 48, 48, 48, 48, 48, 48, 48, 48, 48, 48, 48, 48, 48, 48, 48, 48, 48, 48, 48, 48, 48, 48, 48, 48, 48, 48, 48, 48, 48, 48, 48, 48, 48, 48, 48, 48, 48, 48, 48, 48, 48, 48, 48, 48, 48, 48, 48, 48, 48, 48, 48, 48, 48, 48, 48, 48, 48])) x48)) λ x49 => bindO (pickV x47 x49 (.bool false)) λ x50 => condM x50 ( bindO (sliceS (.string (ByteArray.mk #[48, 48, 48, 48, 48, 48, 48, 48, 48, 48, 48, 48, 48, 48, 48, 48, 48, 48, 48, 48, 48, 48, 48, 48, 48, 48, 48, 48, 48, 48, 48, 48, 48, 48, 48, 48, 48, 48, 48, 48, 48, 48, 48, 48, 48, 48, 48, 48, 48, 48, 48, 48, 48, 48, 48, 48, 48, 48, 48, 48, 48, 48, 48, 48])) none (some x24)) λ x51 => M.ret (Out.ret x51)) ( bindO (binV .leq x24 (.int .i64 128)) λ x52 => M.bind (guardM x52 true (M.ret a0)) λ x53 => M.bind (guardM x52 true (F.strings_HasPrefix (.string (ByteArray.mk #[61, 61, 61, 61, 61, 61, 61, 61, 61, 61, 61, 61, 61, 61, 61, 61, 61, 61, 61, 61, 61, 61, 61, 61, 61, 61, 61, 61, 61, 61, 61, 61, 61, 61, 61, 61, 61, 61, 61, 61, 61, 61, 61, 61, 61, 61, 61, 61, 61, 61, 61, 61, 61, 61, 61, 61, 61, 61, 61, 61, 61, 61, 61, 61, 61, 61, 61, 61, 61, 61, 61, 61, 61, 61, 61, 61, 61, 61, 61, 61, 61, 61, 61, 61, 61, 61, 61, 61, 61, 61, 61, 61, 61, 61, 61, 61, 61, 61, 61, 61, 61, 61, 61, 61, 61, 61, 61, 61, 61, 61, 61, 61, 61, 61, 61, 61, 61, 61, 61, 61, 61, 61, 61, 61, 61, 61, 61, 61])) x53)) λ x54 => bindO (pickV x52 x54 (.bool false)) λ x55 => condM x55 ( bindO (sliceS (.string (ByteArray.mk #[61, 61, 61, 61, 61, 61, 61, 61, 61, 61, 61, 61, 61, 61, 61, 61, 61, 61, 61, 61, 61, 61, 61, 61, 61, 61, 61, 61, 61, 61, 61, 61, 61, 61, 61, 61, 61, 61, 61, 61, 61, 61, 61, 61, 61, 61, 61, 61, 61, 61, 61, 61, 61, 61, 61, 61, 61, 61, 61, 61, 61, 61, 61, 61, 61, 61, 61, 61, 61, 61, 61, 61, 61, 61, 61, 61, 61, 61, 61, 61, 61, 61, 61, 61, 61, 61, 61, 61, 61, 61, 61, 61, 61, 61, 61, 61, 61, 61, 61, 61, 61, 61, 61, 61, 61, 61, 61, 61, 61, 61, 61, 61, 61, 61, 61, 61, 61, 61, 61, 61, 61, 61, 61, 61, 61, 61, 61, 61])) none (some x24)) λ x56 => M.ret (Out.ret x56)) ( bindO (binV .leq x24 (.int .i64 64)) λ x57 => M.bind (guardM x57 true (M.ret a0)) λ x58 => M.bind (guardM x57 true (F.strings_HasPrefix (.string (ByteArray.mk #[9, 9, 9, 9, 9, 9, 9, 9, 9, 9, 9, 9, 9, 9, 9, 9, 9, 9, 9, 9, 9, 9, 9, 9, 9, 9, 9, 9, 9, 9, 9, 9, 9, 9, 9, 9, 9, 9, 9, 9, 9, 9, 9, 9, 9, 9, 9, 9, 9, 9, 9, 9, 9, 9, 9, 9, 9, 9, 9, 9, 9, 9, 9, 9])) x58)) λ x59 => bindO (pickV x57 x59 (.bool false)) λ x60 => condM x60 ( bindO (sliceS (.string (ByteArray.mk #[9, 9, 9, 9, 9, 9, 9, 9, 9, 9, 9, 9, 9, 9, 9, 9, 9, 9, 9, 9, 9, 9, 9, 9, 9, 9, 9, 9, 9, 9, 9, 9, 9, 9, 9, 9, 9, 9, 9, 9, 9, 9, 9, 9, 9, 9, 9, 9, 9, 9, 9, 9, 9, 9, 9, 9, 9, 9, 9, 9, 9, 9, 9, 9])) none (some x24)) λ x61 => M.ret (Out.ret x61)) ( M.ret (Out.norm []))))))) ( M.ret (Out.norm []))) (λ _ _ => M.fail) (λ r36 => M.ret (Out.ret r36))) λ o64 => outK o64 (λ _ => M.bind ( bindO (binV .gtr x24 (.int .i64 8192)) λ x67 => condM x67 ( bindO (lenS a0) λ x68 => bindO (binV .quo (.int .i64 8192) x68) λ x69 => bindO (lenS a0) λ x70 => bindO (binV .mul x69 x70) λ x71 => bindO (binV .eql x71 (.int .i64 0)) λ x72 => condM x72 ( bindO (lenS a0) λ x73 => M.ret (Out.norm [x73])) ( M.ret (Out.norm [x71]))) ( M.ret (Out.norm [x24]))) λ o75 => outK o75 (λ l74 => M.bind (newM 93 #[(.pointer none), (.slice none 0 0)]) λ x78 => M.bind (F.strings_Builder_Grow x78 x24) λ _ => M.bind (F.strings_Builder_WriteString x78 a0) λ _ => M.bind (loopM (λ _ => M.bind (F.strings_Builder_Len x78) λ x82 => bindO (binV .lss x82 x24) λ x83 => condM x83 ( M.bind (F.strings_Builder_Len x78) λ x84 => bindO (binV .sub x24 x84) λ x85 => M.bind (F.strings_Builder_Len x78) λ x86 => M.bind (optM (min3V x85 x86 (getL l74 0))) λ x87 => M.bind (F.strings_Builder_String x78) λ x88 => bindO (sliceS x88 none (some x87)) λ x89 => M.bind (F.strings_Builder_WriteString x78 x89) λ _ => M.ret (Out.norm [])) ( M.ret (Out.exit 3 []))) []) λ o92 => outK o92 (λ _ => M.fail) (λ k93 _ => bif Nat.beq k93 3 then ( M.bind (F.strings_Builder_String x78) λ x95 => M.ret x95) else M.fail) (λ r94 => M.ret r94)) (λ _ _ => M.fail) (λ r77 => M.ret r77)) (λ _ _ => M.fail) (λ r66 => M.ret r66))) (λ _ _ => M.fail) (λ r23 => M.ret r23)) (λ _ _ => M.fail) (λ r8 => M.ret r8)))
def F.strings_Repeat.plan : Plan:=(ls 1 (seq (ls 1 (body (ls 1 (cond (ls 1 leaf) (ls 1 (cond (ls 1 leaf) leaf)))))) (fork [] [17, 18, 19] [] (ls 1 (cond leaf leaf)) (ls 1 (fork [] [29, 30, 31, 32, 33, 34, 35] [] (ls 1 (cond leaf leaf)) (ls 1 (seq (ls 1 (cond (ls 1 leaf) leaf)) (fork [] [4, 41, 42, 43, 44, 45, 46, 47, 48, 49, 50, 51, 52, 53, 54, 55, 56, 57, 58, 59, 60, 61, 62, 63, 64, 65, 66, 67, 68, 69, 70, 71, 72, 73, 74, 75, 76, 77, 78, 79, 80, 81, 82, 83, 84, 85, 86, 87, 88, 89, 90, 91, 92, 93] [] (ls 1 (body (fork [43] [43, 44, 45, 46, 47, 48] [] (ls 1 (cond leaf (ls 1 (cond leaf (ls 1 (cond leaf (ls 1 (cond leaf leaf)))))))) (cond (body (ls 1 (cond (ls 1 leaf) (ls 1 (cond (ls 1 leaf) (ls 1 (cond (ls 1 leaf) (ls 1 (cond (ls 1 leaf) (ls 1 (cond (ls 1 leaf) leaf))))))))))) leaf)))) (ls 1 (fork [8] [8, 95, 96, 97, 98, 99, 100, 101, 102, 103, 104, 105, 106] [] (ls 1 (cond (ls 2 (cond leaf leaf)) leaf)) (ls 3 (seq (body (loop [] [10, 111, 112, 113, 114, 115, 116, 117, 118, 119, 120, 121, 122, 123] [3] (seq (ls 1 (cond leaf leaf)) (body (ls 1 leaf))))) (ls 1 leaf)))))))))))))
theorem F.strings_Repeat.lift : LiftOk Tryz.prog 100 (ap2 F.strings_Repeat):=lift2 (g:=evFn Tryz.prog (tcons 90 (ap2 F.strings_Builder_WriteString) (tcons 92 (ap1 F.strings_Builder_String) (tcons 113 (ap2 F.strings_Builder_Grow) (tcons 136 (ap2 F.bits_Mul) (tcons 137 (ap2 F.strings_HasPrefix) (tcons 138 (ap1 F.strings_Builder_Len) tnil)))))) tnil 100 Tryz.f100 F.strings_Repeat.plan) (evFn_sound (tcons_ok F.strings_Builder_WriteString.lift (tcons_ok F.strings_Builder_String.lift (tcons_ok F.strings_Builder_Grow.lift (tcons_ok F.bits_Mul.lift (tcons_ok F.strings_HasPrefix.lift (tcons_ok F.strings_Builder_Len.lift tnil_ok)))))) tnil_ok Tryz.func100 (by kernel_rfl)) (λ x0 x1 => by kernel_rfl)
noncomputable def F.paper_hex8 (a0 : Value) : M Value:=M.bind (F.strconv_FormatInt a0 (.int .i64 16)) λ x1 => bindO (lenS x1) λ x2 => bindO (binV .sub (.int .i64 8) x2) λ x3 => M.bind (F.strings_Repeat (.string (ByteArray.mk #[48])) x3) λ x4 => bindO (binV .add x4 x1) λ x5 => M.ret x5
def F.paper_hex8.plan : Plan:=(ls 3 leaf)
theorem F.paper_hex8.lift : LiftOk Tryz.prog 52 (ap1 F.paper_hex8):=lift1 (g:=evFn Tryz.prog (tcons 99 (ap2 F.strconv_FormatInt) (tcons 100 (ap2 F.strings_Repeat) tnil)) tnil 52 Tryz.f52 F.paper_hex8.plan) (evFn_sound (tcons_ok F.strconv_FormatInt.lift (tcons_ok F.strings_Repeat.lift tnil_ok)) tnil_ok Tryz.func52 (by kernel_rfl)) (λ x0 => by kernel_rfl)
noncomputable def F.paper_closed (a0 : Value) : M Value:=M.bind (F.strings_Builder_String a0) λ x1 => bindO (binV .add x1 (.string (ByteArray.mk #[115, 117, 109, 32]))) λ x2 => M.bind (bslM 9 1 (Builtin.zeroCells #[(.string .empty)] 1) [(0, 1, x1)]) λ x3 => M.bind (F.digest_CRC x3) λ x4 => M.bind (F.paper_hex8 x4) λ x5 => bindO (binV .add x2 x5) λ x6 => bindO (binV .add x6 (.string (ByteArray.mk #[10]))) λ x7 => M.ret x7
def F.paper_closed.plan : Plan:=(ls 3 leaf)
theorem F.paper_closed.lift : LiftOk Tryz.prog 46 (ap1 F.paper_closed):=lift1 (g:=evFn Tryz.prog (tcons 52 (ap1 F.paper_hex8) (tcons 68 (ap1 F.digest_CRC) (tcons 92 (ap1 F.strings_Builder_String) tnil))) tnil 46 Tryz.f46 F.paper_closed.plan) (evFn_sound (tcons_ok F.paper_hex8.lift (tcons_ok F.digest_CRC.lift (tcons_ok F.strings_Builder_String.lift tnil_ok))) tnil_ok Tryz.func46 (by kernel_rfl)) (λ x0 => by kernel_rfl)
noncomputable def F.granarylaw4_num (a0 : Value) : M Value:=M.ret a0
def F.granarylaw4_num.plan : Plan:=(ls 2 leaf)
theorem F.granarylaw4_num.lift : LiftOk Tryz.prog 12 (ap1 F.granarylaw4_num):=lift1 (g:=evFn Tryz.prog tnil tnil 12 Tryz.f12 F.granarylaw4_num.plan) (evFn_sound tnil_ok tnil_ok Tryz.func12 (by kernel_rfl)) (λ x0 => by kernel_rfl)
noncomputable def F.digest_digit (a0 : Value) : M Value:=bindO (binV .leq (.int .u8 48) a0) λ x1 => M.bind (guardM x1 true (M.ret a0)) λ x2 => M.bind (guardM x1 true (optM (binV .leq x2 (.int .u8 57)))) λ x3 => bindO (pickV x1 x3 (.bool false)) λ x4 => condM x4 ( bindO (binV .sub a0 (.int .u8 48)) λ x5 => bindO (cvtI IntKind.i64 x5) λ x6 => M.ret x6) ( bindO (binV .leq (.int .u8 97) a0) λ x7 => M.bind (guardM x7 true (M.ret a0)) λ x8 => M.bind (guardM x7 true (optM (binV .leq x8 (.int .u8 102)))) λ x9 => bindO (pickV x7 x9 (.bool false)) λ x10 => condM x10 ( bindO (binV .sub a0 (.int .u8 97)) λ x11 => bindO (cvtI IntKind.i64 x11) λ x12 => bindO (binV .add x12 (.int .i64 10)) λ x13 => M.ret x13) ( M.ret (.int .i64 (-1))))
def F.digest_digit.plan : Plan:=(ls 1 (seq (body (ls 1 (cond (ls 1 leaf) (ls 1 (cond (ls 1 leaf) leaf))))) (ls 1 leaf)))
theorem F.digest_digit.lift : LiftOk Tryz.prog 170 (ap1 F.digest_digit):=lift1 (g:=evFn Tryz.prog tnil tnil 170 Tryz.f170 F.digest_digit.plan) (evFn_sound tnil_ok tnil_ok Tryz.func170 (by kernel_rfl)) (λ x0 => by kernel_rfl)
noncomputable def F.digest_Unhex (a0 : Value) : M Value:=bindO (lenS a0) λ x1 => bindO (binV .rem x1 (.int .i64 2)) λ x2 => bindO (binV .eql x2 (.int .i64 1)) λ x3 => condM x3 ( M.ret (Value.tuple #[(.string (ByteArray.mk #[])), (.int .i64 20)])) ( bindO (lenS a0) λ x4 => bindO (binV .quo x4 (.int .i64 2)) λ x5 => M.bind (mksM 5 1 1 #[(.int .u8 0)] x5 x5) λ x6 => bindO (lenL x6) λ x7 => M.bind (loopM (λ l8 => bindO (binV .lss (getL l8 0) x7) λ x9 => condM x9 ( bindO (binV .mul (.int .i64 2) (getL l8 0)) λ x10 => bindO (binV .mul (.int .i64 2) (getL l8 0)) λ x11 => bindO (binV .add x11 (.int .i64 2)) λ x12 => bindO (sliceS a0 (some x10) (some x12)) λ x13 => M.bind (sbM 5 x13) λ x14 => bindO (lenL x14) λ x15 => M.bind (loopM (λ l16 => bindO (binV .lss (getL l16 0) x15) λ x17 => condM x17 ( bindO (idxA 1 x14 (getL l16 0)) λ x18 => M.bind (rdM (ld1 x18)) λ x19 => M.bind (F.digest_digit x19) λ x20 => bindO (binV .lss x20 (.int .i64 0)) λ x21 => condM x21 ( M.ret (Out.ret (Value.tuple #[(.string (ByteArray.mk #[])), (.int .i64 20)]))) ( bindO (idxA 1 x6 (getL l8 0)) λ x22 => M.bind (rdM (ld1 x22)) λ x23 => bindO (shV BinOp.shl x23 (.int .u64 4)) λ x24 => bindO (cvtI IntKind.u8 x20) λ x25 => bindO (binV .or x24 x25) λ x26 => bindO (idxA 1 x6 (getL l8 0)) λ x27 => M.bind (stM 1 x27 x26) λ _ => bindO (binV .add (getL l16 0) (.int .i64 1)) λ x29 => M.ret (Out.norm [x29]))) ( M.ret (Out.exit 2 [(getL l16 0)]))) [(.int .i64 0)]) λ o31 => outK o31 (λ _ => M.fail) (λ k32 _ => bif Nat.beq k32 2 then ( bindO (binV .add (getL l8 0) (.int .i64 1)) λ x34 => M.ret (Out.norm [x34])) else M.fail) (λ r33 => M.ret (Out.ret r33))) ( M.ret (Out.exit 0 [(getL l8 0)]))) [(.int .i64 0)]) λ o36 => outK o36 (λ _ => M.fail) (λ k37 _ => bif Nat.beq k37 0 then ( M.bind (rdM (bsR x6)) λ x39 => M.ret (Value.tuple #[x39, (.int .i64 0)])) else M.fail) (λ r38 => M.ret r38))
def F.digest_Unhex.plan : Plan:=(ls 1 (seq (ls 1 (cond (ls 1 leaf) leaf)) (ls 1 (seq (ls 1 (body (loop [19] [2, 3, 5, 7, 8, 19, 20, 21, 22, 23, 24, 25, 26, 27, 28, 29, 30, 31, 32, 33, 34, 35, 36, 37, 38, 39, 40, 41, 42, 43, 44, 45, 46, 47, 48, 49, 50, 51] [0] (ls 1 (seq (cond leaf leaf) (seq (body (ls 2 (body (loop [31] [2, 3, 7, 8, 31, 32, 33, 34, 35, 36, 37, 38, 39, 40, 41, 42, 43, 44, 45, 46, 47, 48, 49, 50] [2] (ls 1 (seq (cond leaf leaf) (seq (body (ls 2 (seq (ls 1 (cond (ls 1 leaf) leaf)) leaf))) leaf))))))) leaf)))))) (ls 1 leaf)))))
theorem F.digest_Unhex.lift : LiftOk Tryz.prog 147 (ap1 F.digest_Unhex):=lift1 (g:=evFn Tryz.prog (tcons 170 (ap1 F.digest_digit) tnil) tnil 147 Tryz.f147 F.digest_Unhex.plan) (evFn_sound (tcons_ok F.digest_digit.lift tnil_ok) tnil_ok Tryz.func147 (by kernel_rfl)) (λ x0 => by kernel_rfl)
noncomputable def F.paper_unhex (a0 a1 : Value) : M Value:=bindO (lenS a0) λ x1 => bindO (binV .mul (.int .i64 2) a1) λ x2 => bindO (binV .neq x1 x2) λ x3 => condM x3 ( M.ret (Value.tuple #[(.string (ByteArray.mk #[])), (.bool false)])) ( M.bind (F.digest_Unhex a0) λ x4 => bindO (extV 0 x4) λ x5 => bindO (extV 1 x4) λ x6 => bindO (binV .eql x6 (.int .i64 0)) λ x7 => M.ret (Value.tuple #[x5, x7]))
def F.paper_unhex.plan : Plan:=(ls 1 (seq (ls 1 (cond (ls 1 leaf) leaf)) (ls 2 leaf)))
theorem F.paper_unhex.lift : LiftOk Tryz.prog 117 (ap2 F.paper_unhex):=lift2 (g:=evFn Tryz.prog (tcons 147 (ap1 F.digest_Unhex) tnil) tnil 117 Tryz.f117 F.paper_unhex.plan) (evFn_sound (tcons_ok F.digest_Unhex.lift tnil_ok) tnil_ok Tryz.func117 (by kernel_rfl)) (λ x0 x1 => by kernel_rfl)
noncomputable def F.paper_sumOf (a0 : Value) : M Value:=M.bind (F.paper_unhex a0 (.int .i64 4)) λ x1 => bindO (extV 0 x1) λ x2 => bindO (extV 1 x1) λ x3 => M.bind (sbM 5 x2) λ x4 => bindO (lenL x4) λ x5 => M.bind (loopM (λ l6 => bindO (binV .lss (getL l6 1) x5) λ x7 => condM x7 ( bindO (idxA 1 x4 (getL l6 1)) λ x8 => M.bind (rdM (ld1 x8)) λ x9 => bindO (shV BinOp.shl (getL l6 0) (.int .u64 8)) λ x10 => bindO (cvtI IntKind.i64 x9) λ x11 => bindO (binV .or x10 x11) λ x12 => bindO (binV .add (getL l6 1) (.int .i64 1)) λ x13 => M.ret (Out.norm [x12, x13])) ( M.ret (Out.exit 0 [(getL l6 0), (getL l6 1)]))) [(.int .i64 0), (.int .i64 0)]) λ o15 => outK o15 (λ _ => M.fail) (λ k16 l14 => bif Nat.beq k16 0 then ( M.ret (Value.tuple #[(getL l14 0), x3])) else M.fail) (λ r17 => M.ret r17)
def F.paper_sumOf.plan : Plan:=(ls 3 (seq (ls 1 (body (loop [6, 17] [6, 8, 17, 18, 19, 20, 21, 22, 23, 24, 25, 26] [0] (ls 1 (seq (cond leaf leaf) (seq (body (ls 1 leaf)) leaf)))))) (ls 1 leaf)))
theorem F.paper_sumOf.lift : LiftOk Tryz.prog 106 (ap1 F.paper_sumOf):=lift1 (g:=evFn Tryz.prog (tcons 117 (ap2 F.paper_unhex) tnil) tnil 106 Tryz.f106 F.paper_sumOf.plan) (evFn_sound (tcons_ok F.paper_unhex.lift tnil_ok) tnil_ok Tryz.func106 (by kernel_rfl)) (λ x0 => by kernel_rfl)
noncomputable def F.paper_open (a0 a1 : Value) : M Value:=M.bind (F.strings_HasSuffix a0 (.string (ByteArray.mk #[10]))) λ x1 => bindO (notV x1) λ x2 => condM x2 ( M.ret (Value.tuple #[(.slice none 0 0), (.bool false), (.bool false)])) ( bindO (lenS a0) λ x3 => bindO (binV .sub x3 (.int .i64 1)) λ x4 => bindO (sliceS a0 none (some x4)) λ x5 => M.bind (F.strings_Split x5 (.string (ByteArray.mk #[10]))) λ x6 => bindO (lenL x6) λ x7 => bindO (binV .sub x7 (.int .i64 1)) λ x8 => bindO (idxA 1 x6 x8) λ x9 => M.bind (rdM (ld1 x9)) λ x10 => M.bind (F.strings_CutPrefix x10 (.string (ByteArray.mk #[115, 117, 109, 32]))) λ x11 => bindO (extV 0 x11) λ x12 => bindO (extV 1 x11) λ x13 => M.bind (F.paper_sumOf x12) λ x14 => bindO (extV 0 x14) λ x15 => bindO (extV 1 x14) λ x16 => bindO (notV x13) λ x17 => M.bind (guardM x17 false (M.ret x16)) λ x18 => M.bind (guardM x17 false (optM (notV x18))) λ x19 => bindO (pickV x17 (.bool true) x19) λ x20 => M.bind (guardM x20 false (M.ret x6)) λ x21 => M.bind (guardM x20 false (optM (idxA 1 x21 (.int .i64 0)))) λ x22 => M.bind (guardM x20 false (rdM (ld1 x22))) λ x23 => M.bind (guardM x20 false (M.ret a1)) λ x24 => M.bind (guardM x20 false (optM (binV .neq x23 x24))) λ x25 => bindO (pickV x20 (.bool true) x25) λ x26 => condM x26 ( M.ret (Value.tuple #[(.slice none 0 0), (.bool false), (.bool false)])) ( drewM <| bindO (sliceV 1 x6 (some (.int .i64 1)) (some x8)) λ x27 => bindO (lenS a0) λ x28 => bindO (binV .sub x28 (.int .i64 13)) λ x29 => bindO (sliceS a0 none (some x29)) λ x30 => M.bind (bslM 9 1 (Builtin.zeroCells #[(.string .empty)] 1) [(0, 1, x30)]) λ x31 => M.bind (F.digest_CRC x31) λ x32 => bindO (binV .eql x15 x32) λ x33 => M.ret (Value.tuple #[x27, x33, (.bool true)])))
def F.paper_open.plan : Plan:=(ls 1 (seq (ls 1 (cond (ls 1 leaf) leaf)) (ls 4 (seq (ls 1 (cond (ls 1 leaf) leaf)) (ls 1 leaf)))))
theorem F.paper_open.lift : LiftOk Tryz.prog 59 (ap2 F.paper_open):=lift2 (g:=evFn Tryz.prog (tcons 68 (ap1 F.digest_CRC) (tcons 103 (ap2 F.strings_HasSuffix) (tcons 104 (ap2 F.strings_Split) (tcons 105 (ap2 F.strings_CutPrefix) (tcons 106 (ap1 F.paper_sumOf) tnil))))) tnil 59 Tryz.f59 F.paper_open.plan) (evFn_sound (tcons_ok F.digest_CRC.lift (tcons_ok F.strings_HasSuffix.lift (tcons_ok F.strings_Split.lift (tcons_ok F.strings_CutPrefix.lift (tcons_ok F.paper_sumOf.lift tnil_ok))))) tnil_ok Tryz.func59 (by kernel_rfl)) (λ x0 x1 => by kernel_rfl)
noncomputable def F.paper_nameOf (a0 a1 : Value) : M Value:=bindO (binV .add a1 (.string (ByteArray.mk #[32]))) λ x1 => M.bind (F.strings_CutPrefix a0 x1) λ x2 => bindO (extV 0 x2) λ x3 => bindO (extV 1 x2) λ x4 => M.bind (guardM x4 true (M.ret x3)) λ x5 => M.bind (guardM x4 true (optM (binV .neq x5 (.string (ByteArray.mk #[]))))) λ x6 => bindO (pickV x4 x6 (.bool false)) λ x7 => M.bind (guardM x7 true (M.ret x3)) λ x8 => M.bind (guardM x7 true (F.strings_Contains x8 (.string (ByteArray.mk #[32])))) λ x9 => M.bind (guardM x7 true (optM (notV x9))) λ x10 => bindO (pickV x7 x10 (.bool false)) λ x11 => M.ret (Value.tuple #[x3, x11])
def F.paper_nameOf.plan : Plan:=(ls 3 leaf)
theorem F.paper_nameOf.lift : LiftOk Tryz.prog 60 (ap2 F.paper_nameOf):=lift2 (g:=evFn Tryz.prog (tcons 105 (ap2 F.strings_CutPrefix) (tcons 107 (ap2 F.strings_Contains) tnil)) tnil 60 Tryz.f60 F.paper_nameOf.plan) (evFn_sound (tcons_ok F.strings_CutPrefix.lift (tcons_ok F.strings_Contains.lift tnil_ok)) tnil_ok Tryz.func60 (by kernel_rfl)) (λ x0 x1 => by kernel_rfl)
noncomputable def F.paper_number (a0 : Value) : M Value:=bindO (binV .eql a0 (.string (ByteArray.mk #[]))) λ x1 => M.bind (guardM x1 false (M.ret a0)) λ x2 => M.bind (guardM x1 false (optM (lenS x2))) λ x3 => M.bind (guardM x1 false (optM (binV .gtr x3 (.int .i64 16)))) λ x4 => bindO (pickV x1 (.bool true) x4) λ x5 => M.bind (guardM x5 false (M.ret a0)) λ x6 => M.bind (guardM x5 false (optM (lenS x6))) λ x7 => M.bind (guardM x5 false (optM (binV .gtr x7 (.int .i64 1)))) λ x8 => M.bind (guardM x5 false (M.ret x8)) λ x9 => M.bind (guardM x9 true (M.ret a0)) λ x10 => M.bind (guardM x9 true (optM (idxS x10 (.int .i64 0)))) λ x11 => M.bind (guardM x9 true (optM (binV .eql x11 (.int .u8 48)))) λ x12 => M.bind (guardM x5 false (optM (pickV x9 x12 (.bool false)))) λ x13 => bindO (pickV x5 (.bool true) x13) λ x14 => condM x14 ( M.ret (Value.tuple #[(.int .i64 0), (.bool false)])) ( M.bind (sbM 5 a0) λ x15 => bindO (lenL x15) λ x16 => M.bind (loopM (λ l17 => bindO (binV .lss (getL l17 1) x16) λ x18 => condM x18 ( bindO (idxA 1 x15 (getL l17 1)) λ x19 => M.bind (rdM (ld1 x19)) λ x20 => bindO (binV .lss x20 (.int .u8 48)) λ x21 => M.bind (guardM x21 false (M.ret x20)) λ x22 => M.bind (guardM x21 false (optM (binV .gtr x22 (.int .u8 57)))) λ x23 => bindO (pickV x21 (.bool true) x23) λ x24 => condM x24 ( M.ret (Out.ret (Value.tuple #[(.int .i64 0), (.bool false)]))) ( bindO (binV .mul (.int .i64 10) (getL l17 0)) λ x25 => bindO (binV .sub x20 (.int .u8 48)) λ x26 => bindO (cvtI IntKind.i64 x26) λ x27 => bindO (binV .add x25 x27) λ x28 => bindO (binV .add (getL l17 1) (.int .i64 1)) λ x29 => M.ret (Out.norm [x28, x29]))) ( M.ret (Out.exit 0 [(getL l17 0), (getL l17 1)]))) [(.int .i64 0), (.int .i64 0)]) λ o31 => outK o31 (λ _ => M.fail) (λ k32 l30 => bif Nat.beq k32 0 then ( M.ret (Value.tuple #[(getL l30 0), (.bool true)])) else M.fail) (λ r33 => M.ret r33))
def F.paper_number.plan : Plan:=(ls 1 (seq (ls 1 (cond (ls 1 leaf) leaf)) (ls 1 (seq (ls 1 (body (loop [4, 27] [2, 3, 4, 6, 27, 28, 29, 30, 31, 32, 33, 34, 35, 36, 37, 38, 39, 40, 41, 42, 43] [0] (ls 1 (seq (cond leaf leaf) (seq (body (ls 1 (seq (ls 1 (cond (ls 1 leaf) leaf)) leaf))) leaf)))))) (ls 1 leaf)))))
theorem F.paper_number.lift : LiftOk Tryz.prog 116 (ap1 F.paper_number):=lift1 (g:=evFn Tryz.prog tnil tnil 116 Tryz.f116 F.paper_number.plan) (evFn_sound tnil_ok tnil_ok Tryz.func116 (by kernel_rfl)) (λ x0 => by kernel_rfl)
noncomputable def F.paper_numberOf (a0 a1 : Value) : M Value:=bindO (binV .add a1 (.string (ByteArray.mk #[32]))) λ x1 => M.bind (F.strings_CutPrefix a0 x1) λ x2 => bindO (extV 0 x2) λ x3 => bindO (extV 1 x2) λ x4 => bindO (notV x4) λ x5 => condM x5 ( M.ret (Value.tuple #[(.int .i64 0), (.bool false)])) ( M.bind (F.paper_number x3) λ x6 => bindO (extV 0 x6) λ x7 => bindO (extV 1 x6) λ x8 => M.ret (Value.tuple #[x7, x8]))
def F.paper_numberOf.plan : Plan:=(ls 2 (seq (ls 1 (cond (ls 1 leaf) leaf)) (ls 1 leaf)))
theorem F.paper_numberOf.lift : LiftOk Tryz.prog 108 (ap2 F.paper_numberOf):=lift2 (g:=evFn Tryz.prog (tcons 105 (ap2 F.strings_CutPrefix) (tcons 116 (ap1 F.paper_number) tnil)) tnil 108 Tryz.f108 F.paper_numberOf.plan) (evFn_sound (tcons_ok F.strings_CutPrefix.lift (tcons_ok F.paper_number.lift tnil_ok)) tnil_ok Tryz.func108 (by kernel_rfl)) (λ x0 x1 => by kernel_rfl)
noncomputable def F.api_Meta_61 (a0 a1 a2 : Value) : M Value:=bindO (lenL a0) λ x1 => bindO (lenL a1) λ x2 => bindO (binV .neq x1 x2) λ x3 => condM x3 ( M.ret (.bool false)) ( bindO (lenL a1) λ x4 => M.bind (loopM (λ l5 => bindO (binV .lss (getL l5 0) x4) λ x6 => condM x6 ( bindO (idxA 4 a1 (getL l5 0)) λ x7 => M.bind (rdM (ldA 4 x7)) λ x8 => M.bind (newM 144 #[(.string .empty), (.int .i64 0), (.int .i64 0), Value.nilFunc]) λ x9 => M.bind (stM 4 x9 x8) λ _ => drewM <| bindO (idxA 1 a0 (getL l5 0)) λ x11 => M.bind (rdM (ld1 x11)) λ x12 => bindO (fieldA 0 x9) λ x13 => M.bind (rdM (ld1 x13)) λ x14 => M.bind (F.paper_numberOf x12 x14) λ x15 => bindO (extV 0 x15) λ x16 => bindO (extV 1 x15) λ x17 => bindO (notV x17) λ x18 => condM x18 ( M.ret (Out.ret (.bool false))) ( bindO (fieldA 3 x9) λ x19 => M.bind (rdM (ld1 x19)) λ x20 => M.bind (callV F.clos x20 [a2]) λ x21 => bindO (nilChk x21) λ x22 => M.bind (stM 1 x22 x16) λ _ => bindO (binV .add (getL l5 0) (.int .i64 1)) λ x24 => M.ret (Out.norm [x24]))) ( M.ret (Out.exit 0 [(getL l5 0)]))) [(.int .i64 0)]) λ o26 => outK o26 (λ _ => M.fail) (λ k27 _ => bif Nat.beq k27 0 then ( M.ret (.bool true)) else M.fail) (λ r28 => M.ret r28))
noncomputable def F.granaryref4_Reader_lit (a0 a1 : Value) : M Value:=drewM <| bindO (nilChk a0) λ x1 => bindO (fieldA 2 x1) λ x2 => M.bind (rdM (ld1 x2)) λ x3 => M.bind (guardM x3 false (M.ret a0)) λ x4 => M.bind (guardM x3 false (optM (nilChk x4))) λ x5 => M.bind (guardM x3 false (optM (fieldA 0 x5))) λ x6 => M.bind (guardM x3 false (rdM (ld1 x6))) λ x7 => M.bind (guardM x3 false (optM (lenS x7))) λ x8 => M.bind (guardM x3 false (M.ret a0)) λ x9 => M.bind (guardM x3 false (optM (nilChk x9))) λ x10 => M.bind (guardM x3 false (optM (fieldA 1 x10))) λ x11 => M.bind (guardM x3 false (rdM (ld1 x11))) λ x12 => M.bind (guardM x3 false (optM (binV .sub x8 x12))) λ x13 => M.bind (guardM x3 false (M.ret a1)) λ x14 => M.bind (guardM x3 false (optM (lenS x14))) λ x15 => M.bind (guardM x3 false (optM (binV .lss x13 x15))) λ x16 => bindO (pickV x3 (.bool true) x16) λ x17 => M.bind (guardM x17 false (M.ret a0)) λ x18 => M.bind (guardM x17 false (optM (nilChk x18))) λ x19 => M.bind (guardM x17 false (optM (fieldA 0 x19))) λ x20 => M.bind (guardM x17 false (rdM (ld1 x20))) λ x21 => M.bind (guardM x17 false (M.ret a0)) λ x22 => M.bind (guardM x17 false (optM (nilChk x22))) λ x23 => M.bind (guardM x17 false (optM (fieldA 1 x23))) λ x24 => M.bind (guardM x17 false (rdM (ld1 x24))) λ x25 => M.bind (guardM x17 false (M.ret a0)) λ x26 => M.bind (guardM x17 false (optM (nilChk x26))) λ x27 => M.bind (guardM x17 false (optM (fieldA 1 x27))) λ x28 => M.bind (guardM x17 false (rdM (ld1 x28))) λ x29 => M.bind (guardM x17 false (M.ret a1)) λ x30 => M.bind (guardM x17 false (optM (lenS x30))) λ x31 => M.bind (guardM x17 false (optM (binV .add x29 x31))) λ x32 => M.bind (guardM x17 false (optM (sliceS x21 (some x25) (some x32)))) λ x33 => M.bind (guardM x17 false (M.ret a1)) λ x34 => M.bind (guardM x17 false (optM (binV .neq x33 x34))) λ x35 => bindO (pickV x17 (.bool true) x35) λ x36 => condM x36 ( bindO (nilChk a0) λ x37 => bindO (fieldA 2 x37) λ x38 => M.bind (stM 1 x38 (.bool true)) λ _ => M.ret (Value.tuple #[])) ( bindO (nilChk a0) λ x40 => bindO (fieldA 1 x40) λ x41 => M.bind (rdM (ld1 x41)) λ x42 => bindO (lenS a1) λ x43 => bindO (binV .add x42 x43) λ x44 => bindO (nilChk a0) λ x45 => bindO (fieldA 1 x45) λ x46 => M.bind (stM 1 x46 x44) λ _ => M.ret (Value.tuple #[]))
noncomputable def F.granaryref4_Reader_number (a0 : Value) : M Value:=bindO (nilChk a0) λ x1 => bindO (fieldA 1 x1) λ x2 => M.bind (rdM (ld1 x2)) λ x3 => M.bind (loopM (λ l4 => drewM <| bindO (nilChk a0) λ x5 => bindO (fieldA 1 x5) λ x6 => M.bind (rdM (ld1 x6)) λ x7 => bindO (nilChk a0) λ x8 => bindO (fieldA 0 x8) λ x9 => M.bind (rdM (ld1 x9)) λ x10 => bindO (lenS x10) λ x11 => bindO (binV .lss x7 x11) λ x12 => M.bind (guardM x12 true (M.ret a0)) λ x13 => M.bind (guardM x12 true (optM (nilChk x13))) λ x14 => M.bind (guardM x12 true (optM (fieldA 1 x14))) λ x15 => M.bind (guardM x12 true (rdM (ld1 x15))) λ x16 => M.bind (guardM x12 true (M.ret x3)) λ x17 => M.bind (guardM x12 true (optM (binV .sub x16 x17))) λ x18 => M.bind (guardM x12 true (optM (binV .lss x18 (.int .i64 17)))) λ x19 => bindO (pickV x12 x19 (.bool false)) λ x20 => M.bind (guardM x20 true (M.ret a0)) λ x21 => M.bind (guardM x20 true (optM (nilChk x21))) λ x22 => M.bind (guardM x20 true (optM (fieldA 0 x22))) λ x23 => M.bind (guardM x20 true (rdM (ld1 x23))) λ x24 => M.bind (guardM x20 true (M.ret a0)) λ x25 => M.bind (guardM x20 true (optM (nilChk x25))) λ x26 => M.bind (guardM x20 true (optM (fieldA 1 x26))) λ x27 => M.bind (guardM x20 true (rdM (ld1 x27))) λ x28 => M.bind (guardM x20 true (optM (idxS x24 x28))) λ x29 => M.bind (guardM x20 true (optM (binV .geq x29 (.int .u8 48)))) λ x30 => bindO (pickV x20 x30 (.bool false)) λ x31 => M.bind (guardM x31 true (M.ret a0)) λ x32 => M.bind (guardM x31 true (optM (nilChk x32))) λ x33 => M.bind (guardM x31 true (optM (fieldA 0 x33))) λ x34 => M.bind (guardM x31 true (rdM (ld1 x34))) λ x35 => M.bind (guardM x31 true (M.ret a0)) λ x36 => M.bind (guardM x31 true (optM (nilChk x36))) λ x37 => M.bind (guardM x31 true (optM (fieldA 1 x37))) λ x38 => M.bind (guardM x31 true (rdM (ld1 x38))) λ x39 => M.bind (guardM x31 true (optM (idxS x35 x39))) λ x40 => M.bind (guardM x31 true (optM (binV .leq x40 (.int .u8 57)))) λ x41 => bindO (pickV x31 x41 (.bool false)) λ x42 => condM x42 ( drewM <| bindO (binV .mul (.int .i64 10) (getL l4 0)) λ x43 => bindO (nilChk a0) λ x44 => bindO (fieldA 0 x44) λ x45 => M.bind (rdM (ld1 x45)) λ x46 => bindO (nilChk a0) λ x47 => bindO (fieldA 1 x47) λ x48 => M.bind (rdM (ld1 x48)) λ x49 => bindO (idxS x46 x49) λ x50 => bindO (binV .sub x50 (.int .u8 48)) λ x51 => bindO (cvtI IntKind.i64 x51) λ x52 => bindO (binV .add x43 x52) λ x53 => bindO (nilChk a0) λ x54 => bindO (fieldA 1 x54) λ x55 => M.bind (rdM (ld1 x55)) λ x56 => bindO (binV .add x56 (.int .i64 1)) λ x57 => bindO (nilChk a0) λ x58 => bindO (fieldA 1 x58) λ x59 => M.bind (stM 1 x59 x57) λ _ => M.ret (Out.norm [x53])) ( M.ret (Out.exit 0 [(getL l4 0)]))) [(.int .i64 0)]) λ o62 => outK o62 (λ _ => M.fail) (λ k63 l61 => bif Nat.beq k63 0 then ( bindO (nilChk a0) λ x65 => bindO (fieldA 1 x65) λ x66 => M.bind (rdM (ld1 x66)) λ x67 => bindO (binV .sub x67 x3) λ x68 => bindO (binV .lss x68 (.int .i64 1)) λ x69 => M.bind (guardM x69 false (M.ret x68)) λ x70 => M.bind (guardM x69 false (optM (binV .gtr x70 (.int .i64 16)))) λ x71 => bindO (pickV x69 (.bool true) x71) λ x72 => M.bind (guardM x72 false (M.ret x68)) λ x73 => M.bind (guardM x72 false (optM (binV .gtr x73 (.int .i64 1)))) λ x74 => M.bind (guardM x72 false (M.ret x74)) λ x75 => M.bind (guardM x75 true (M.ret a0)) λ x76 => M.bind (guardM x75 true (optM (nilChk x76))) λ x77 => M.bind (guardM x75 true (optM (fieldA 0 x77))) λ x78 => M.bind (guardM x75 true (rdM (ld1 x78))) λ x79 => M.bind (guardM x75 true (M.ret x3)) λ x80 => M.bind (guardM x75 true (optM (idxS x79 x80))) λ x81 => M.bind (guardM x75 true (optM (binV .eql x81 (.int .u8 48)))) λ x82 => M.bind (guardM x72 false (optM (pickV x75 x82 (.bool false)))) λ x83 => bindO (pickV x72 (.bool true) x83) λ x84 => condM x84 ( bindO (nilChk a0) λ x85 => bindO (fieldA 2 x85) λ x86 => M.bind (stM 1 x86 (.bool true)) λ _ => M.ret (.int .i64 0)) ( M.ret (getL l61 0))) else M.fail) (λ r64 => M.ret r64)
noncomputable def F.granaryref4_half (a0 : Value) : M Value:=M.bind (loopM (λ l1 => bindO (binV .lss (getL l1 0) (.int .i64 16)) λ x2 => condM x2 ( bindO (idxS (.string (ByteArray.mk #[48, 49, 50, 51, 52, 53, 54, 55, 56, 57, 97, 98, 99, 100, 101, 102])) (getL l1 0)) λ x3 => bindO (binV .eql x3 a0) λ x4 => condM x4 ( M.ret (Out.ret (getL l1 0))) ( bindO (binV .add (getL l1 0) (.int .i64 1)) λ x5 => M.ret (Out.norm [x5]))) ( M.ret (Out.exit 0 [(getL l1 0)]))) [(.int .i64 0)]) λ o7 => outK o7 (λ _ => M.fail) (λ k8 _ => bif Nat.beq k8 0 then ( M.ret (.int .i64 (-1))) else M.fail) (λ r9 => M.ret r9)
noncomputable def F.granaryref4_Reader_bytes (a0 a1 : Value) : M Value:=M.bind (loopM (λ l1 => bindO (binV .lss (getL l1 1) a1) λ x2 => condM x2 ( drewM <| bindO (nilChk a0) λ x3 => bindO (fieldA 2 x3) λ x4 => M.bind (rdM (ld1 x4)) λ x5 => M.bind (guardM x5 false (M.ret a0)) λ x6 => M.bind (guardM x5 false (optM (nilChk x6))) λ x7 => M.bind (guardM x5 false (optM (fieldA 0 x7))) λ x8 => M.bind (guardM x5 false (rdM (ld1 x8))) λ x9 => M.bind (guardM x5 false (optM (lenS x9))) λ x10 => M.bind (guardM x5 false (M.ret a0)) λ x11 => M.bind (guardM x5 false (optM (nilChk x11))) λ x12 => M.bind (guardM x5 false (optM (fieldA 1 x12))) λ x13 => M.bind (guardM x5 false (rdM (ld1 x13))) λ x14 => M.bind (guardM x5 false (optM (binV .sub x10 x14))) λ x15 => M.bind (guardM x5 false (optM (binV .lss x15 (.int .i64 2)))) λ x16 => bindO (pickV x5 (.bool true) x16) λ x17 => condM x17 ( bindO (nilChk a0) λ x18 => bindO (fieldA 2 x18) λ x19 => M.bind (stM 1 x19 (.bool true)) λ _ => M.ret (Out.ret (.string (ByteArray.mk #[])))) ( drewM <| bindO (nilChk a0) λ x21 => bindO (fieldA 0 x21) λ x22 => M.bind (rdM (ld1 x22)) λ x23 => bindO (nilChk a0) λ x24 => bindO (fieldA 1 x24) λ x25 => M.bind (rdM (ld1 x25)) λ x26 => bindO (idxS x23 x26) λ x27 => M.bind (F.granaryref4_half x27) λ x28 => drewM <| bindO (nilChk a0) λ x29 => bindO (fieldA 0 x29) λ x30 => M.bind (rdM (ld1 x30)) λ x31 => bindO (nilChk a0) λ x32 => bindO (fieldA 1 x32) λ x33 => M.bind (rdM (ld1 x33)) λ x34 => bindO (binV .add x34 (.int .i64 1)) λ x35 => bindO (idxS x31 x35) λ x36 => M.bind (F.granaryref4_half x36) λ x37 => bindO (binV .lss x28 (.int .i64 0)) λ x38 => M.bind (guardM x38 false (M.ret x37)) λ x39 => M.bind (guardM x38 false (optM (binV .lss x39 (.int .i64 0)))) λ x40 => bindO (pickV x38 (.bool true) x40) λ x41 => condM x41 ( bindO (nilChk a0) λ x42 => bindO (fieldA 2 x42) λ x43 => M.bind (stM 1 x43 (.bool true)) λ _ => M.ret (Out.ret (.string (ByteArray.mk #[])))) ( bindO (binV .mul (.int .i64 16) x28) λ x45 => bindO (binV .add x45 x37) λ x46 => bindO (cvtI IntKind.u8 x46) λ x47 => M.bind (bslM 5 1 (Builtin.zeroCells #[(.int .u8 0)] 1) [(0, 1, x47)]) λ x48 => M.bind (appM 5 1 1 #[(.int .u8 0)] (getL l1 0) x48) λ x49 => bindO (nilChk a0) λ x50 => bindO (fieldA 1 x50) λ x51 => M.bind (rdM (ld1 x51)) λ x52 => bindO (binV .add x52 (.int .i64 2)) λ x53 => bindO (nilChk a0) λ x54 => bindO (fieldA 1 x54) λ x55 => M.bind (stM 1 x55 x53) λ _ => bindO (binV .add (getL l1 1) (.int .i64 1)) λ x57 => M.ret (Out.norm [x49, x57])))) ( M.ret (Out.exit 0 [(getL l1 0), (getL l1 1)]))) [(.slice none 0 0), (.int .i64 0)]) λ o59 => outK o59 (λ _ => M.fail) (λ k60 l58 => bif Nat.beq k60 0 then ( M.bind (rdM (bsR (getL l58 0))) λ x62 => M.ret x62) else M.fail) (λ r61 => M.ret r61)
noncomputable def F.granaryref4_Reader_sum (a0 : Value) : M Value:=M.bind (F.granaryref4_Reader_bytes a0 (.int .i64 4)) λ x1 => M.bind (loopM (λ l2 => bindO (lenS x1) λ x3 => bindO (binV .lss (getL l2 1) x3) λ x4 => condM x4 ( bindO (binV .mul (.int .i64 256) (getL l2 0)) λ x5 => bindO (idxS x1 (getL l2 1)) λ x6 => bindO (cvtI IntKind.i64 x6) λ x7 => bindO (binV .add x5 x7) λ x8 => bindO (binV .add (getL l2 1) (.int .i64 1)) λ x9 => M.ret (Out.norm [x8, x9])) ( M.ret (Out.exit 0 [(getL l2 0), (getL l2 1)]))) [(.int .i64 0), (.int .i64 0)]) λ o11 => outK o11 (λ _ => M.fail) (λ k12 l10 => bif Nat.beq k12 0 then ( M.ret (getL l10 0)) else M.fail) (λ r13 => M.ret r13)
noncomputable def F.paper_isSum (a0 : Value) : M Value:=bindO (binV .geq a0 (.int .i64 0)) λ x1 => M.bind (guardM x1 true (M.ret a0)) λ x2 => M.bind (guardM x1 true (optM (binV .lss x2 (.int .i64 4294967296)))) λ x3 => bindO (pickV x1 x3 (.bool false)) λ x4 => M.ret x4
def F.paper_isSum.plan : Plan:=(ls 2 leaf)
theorem F.paper_isSum.lift : LiftOk Tryz.prog 66 (ap1 F.paper_isSum):=lift1 (g:=evFn Tryz.prog tnil tnil 66 Tryz.f66 F.paper_isSum.plan) (evFn_sound tnil_ok tnil_ok Tryz.func66 (by kernel_rfl)) (λ x0 => by kernel_rfl)
noncomputable def F.paper_fileOK (a0 : Value) : M Value:=bindO (binV .eql a0 (.string (ByteArray.mk #[]))) λ x1 => M.bind (guardM x1 false (M.ret a0)) λ x2 => M.bind (guardM x1 false (optM (lenS x2))) λ x3 => M.bind (guardM x1 false (optM (binV .gtr x3 (.int .i64 40)))) λ x4 => bindO (pickV x1 (.bool true) x4) λ x5 => M.bind (guardM x5 false (M.ret a0)) λ x6 => M.bind (guardM x5 false (optM (binV .eql x6 (.string (ByteArray.mk #[46]))))) λ x7 => bindO (pickV x5 (.bool true) x7) λ x8 => M.bind (guardM x8 false (M.ret a0)) λ x9 => M.bind (guardM x8 false (optM (binV .eql x9 (.string (ByteArray.mk #[46, 46]))))) λ x10 => bindO (pickV x8 (.bool true) x10) λ x11 => condM x11 ( M.ret (.bool false)) ( M.bind (F.strings_Trim a0 (.string (ByteArray.mk #[97, 98, 99, 100, 101, 102, 103, 104, 105, 106, 107, 108, 109, 110, 111, 112, 113, 114, 115, 116, 117, 118, 119, 120, 121, 122, 48, 49, 50, 51, 52, 53, 54, 55, 56, 57, 45, 95, 46]))) λ x12 => bindO (binV .eql x12 (.string (ByteArray.mk #[]))) λ x13 => M.ret x13)
def F.paper_fileOK.plan : Plan:=(ls 1 (seq (ls 1 (cond (ls 1 leaf) leaf)) (ls 1 leaf)))
theorem F.paper_fileOK.lift : LiftOk Tryz.prog 97 (ap1 F.paper_fileOK):=lift1 (g:=evFn Tryz.prog (tcons 82 (ap2 F.strings_Trim) tnil) tnil 97 Tryz.f97 F.paper_fileOK.plan) (evFn_sound (tcons_ok F.strings_Trim.lift tnil_ok) tnil_ok Tryz.func97 (by kernel_rfl)) (λ x0 => by kernel_rfl)
noncomputable def F.digest_sumOK (a0 : Value) : M Value:=bindO (binV .leq (.int .i64 0) a0) λ x1 => M.bind (guardM x1 true (M.ret a0)) λ x2 => M.bind (guardM x1 true (optM (binV .leq x2 (.int .i64 4294967295)))) λ x3 => bindO (pickV x1 x3 (.bool false)) λ x4 => M.ret x4
def F.digest_sumOK.plan : Plan:=(ls 2 leaf)
theorem F.digest_sumOK.lift : LiftOk Tryz.prog 133 (ap1 F.digest_sumOK):=lift1 (g:=evFn Tryz.prog tnil tnil 133 Tryz.f133 F.digest_sumOK.plan) (evFn_sound tnil_ok tnil_ok Tryz.func133 (by kernel_rfl)) (λ x0 => by kernel_rfl)
noncomputable def F.digest_times (a0 a1 : Value) : M Value:=M.bind (loopM (λ l1 => bindO (binV .neq (getL l1 2) (.int .u32 0)) λ x2 => condM x2 ( M.bind ( M.bind ( bindO (binV .and a0 (getL l1 2)) λ x3 => bindO (binV .neq x3 (.int .u32 0)) λ x4 => condM x4 ( bindO (binV .xor (getL l1 1) (getL l1 0)) λ x5 => M.ret (Out.norm [x5])) ( M.ret (Out.norm [(getL l1 1)]))) λ o7 => outK o7 (λ l6 => bindO (binV .and (getL l1 0) (.int .u32 1)) λ x10 => bindO (binV .neq x10 (.int .u32 0)) λ x11 => bindO (shV BinOp.shr (getL l1 0) (.int .u64 1)) λ x12 => condM x11 ( bindO (binV .xor x12 (.int .u32 3988292384)) λ x13 => M.ret (Out.norm [x13, (getL l6 0)])) ( M.ret (Out.norm [x12, (getL l6 0)]))) (λ _ _ => M.fail) (λ r9 => M.ret (Out.ret r9))) λ o16 => outK o16 (λ l15 => bindO (shV BinOp.shr (getL l1 2) (.int .u64 1)) λ x19 => M.ret (Out.norm [(getL l15 0), (getL l15 1), x19])) (λ _ _ => M.fail) (λ r18 => M.ret (Out.ret r18))) ( M.ret (Out.exit 0 [(getL l1 0), (getL l1 1), (getL l1 2)]))) [a1, (.int .u32 0), (.int .u32 2147483648)]) λ o22 => outK o22 (λ _ => M.fail) (λ k23 l21 => bif Nat.beq k23 0 then ( M.ret (getL l21 1)) else M.fail) (λ r24 => M.ret r24)
def F.digest_times.plan : Plan:=(ls 2 (seq (ls 1 (body (loop [1, 5, 6] [1, 5, 6, 7, 8, 9, 10, 11, 12, 13, 14, 15, 16, 17, 18, 19, 20, 21, 22, 23, 24, 25, 26] [0] (seq (ls 1 (cond leaf leaf)) (fork [1, 5] [1, 5, 7, 12, 13, 14, 15, 16, 17, 18, 19, 20, 21, 22, 23, 24, 25, 26] [] (body (fork [5] [5, 12, 13, 14, 15, 16, 17, 18] [] (ls 1 (cond leaf leaf)) (ls 3 (cond leaf leaf)))) leaf))))) (ls 1 leaf)))
theorem F.digest_times.lift : LiftOk Tryz.prog 134 (ap2 F.digest_times):=lift2 (g:=evFn Tryz.prog tnil tnil 134 Tryz.f134 F.digest_times.plan) (evFn_sound tnil_ok tnil_ok Tryz.func134 (by kernel_rfl)) (λ x0 x1 => by kernel_rfl)
noncomputable def F.digest_shifted (a0 : Value) : M Value:=M.bind (loopM (λ l1 => bindO (binV .gtr (getL l1 0) (.int .i64 0)) λ x2 => condM x2 ( M.bind ( bindO (binV .and (getL l1 0) (.int .i64 1)) λ x3 => bindO (binV .eql x3 (.int .i64 1)) λ x4 => condM x4 ( M.bind (F.digest_times (getL l1 1) (getL l1 2)) λ x5 => M.ret (Out.norm [x5])) ( M.ret (Out.norm [(getL l1 1)]))) λ o7 => outK o7 (λ l6 => M.bind (F.digest_times (getL l1 2) (getL l1 2)) λ x10 => bindO (shV BinOp.shr (getL l1 0) (.int .u64 1)) λ x11 => M.ret (Out.norm [x11, (getL l6 0), x10])) (λ _ _ => M.fail) (λ r9 => M.ret (Out.ret r9))) ( M.ret (Out.exit 0 [(getL l1 0), (getL l1 1), (getL l1 2)]))) [a0, (.int .u32 2147483648), (.int .u32 8388608)]) λ o14 => outK o14 (λ _ => M.fail) (λ k15 l13 => bif Nat.beq k15 0 then ( M.ret (getL l13 1)) else M.fail) (λ r16 => M.ret r16)
def F.digest_shifted.plan : Plan:=(ls 3 (seq (body (loop [0, 3, 4] [0, 3, 4, 5, 6, 7, 8, 9, 10, 11, 12, 13, 14, 15, 16, 17] [0] (seq (ls 1 (cond leaf leaf)) (seq (body (fork [3] [3, 9, 10, 11, 12, 13, 14] [] (ls 1 (cond leaf leaf)) leaf)) leaf)))) (ls 1 leaf)))
theorem F.digest_shifted.lift : LiftOk Tryz.prog 135 (ap1 F.digest_shifted):=lift1 (g:=evFn Tryz.prog (tcons 134 (ap2 F.digest_times) tnil) tnil 135 Tryz.f135 F.digest_shifted.plan) (evFn_sound (tcons_ok F.digest_times.lift tnil_ok) tnil_ok Tryz.func135 (by kernel_rfl)) (λ x0 => by kernel_rfl)
noncomputable def F.digest_CRCJoin (a0 a1 a2 : Value) : M Value:=M.bind (F.digest_sumOK a0) λ x1 => bindO (notV x1) λ x2 => M.bind (guardM x2 false (M.ret a1)) λ x3 => M.bind (guardM x2 false (F.digest_sumOK x3)) λ x4 => M.bind (guardM x2 false (optM (notV x4))) λ x5 => bindO (pickV x2 (.bool true) x5) λ x6 => M.bind (guardM x6 false (M.ret a2)) λ x7 => M.bind (guardM x6 false (optM (binV .lss x7 (.int .i64 0)))) λ x8 => bindO (pickV x6 (.bool true) x8) λ x9 => M.bind (guardM x9 false (M.ret a2)) λ x10 => M.bind (guardM x9 false (optM (binV .gtr x10 (.int .i64 9007199254740992)))) λ x11 => bindO (pickV x9 (.bool true) x11) λ x12 => condM x12 ( M.ret (Value.tuple #[(.int .i64 0), (.int .i64 21)])) ( bindO (cvtI IntKind.u32 a0) λ x13 => M.bind (F.digest_shifted a2) λ x14 => M.bind (F.digest_times x13 x14) λ x15 => bindO (cvtI IntKind.u32 a1) λ x16 => bindO (binV .xor x15 x16) λ x17 => bindO (cvtI IntKind.i64 x17) λ x18 => M.ret (Value.tuple #[x18, (.int .i64 0)]))
def F.digest_CRCJoin.plan : Plan:=(ls 1 (seq (ls 1 (cond (ls 1 leaf) leaf)) (ls 1 leaf)))
theorem F.digest_CRCJoin.lift : LiftOk Tryz.prog 98 (ap3 F.digest_CRCJoin):=lift3 (g:=evFn Tryz.prog (tcons 133 (ap1 F.digest_sumOK) (tcons 134 (ap2 F.digest_times) (tcons 135 (ap1 F.digest_shifted) tnil))) tnil 98 Tryz.f98 F.digest_CRCJoin.plan) (evFn_sound (tcons_ok F.digest_sumOK.lift (tcons_ok F.digest_times.lift (tcons_ok F.digest_shifted.lift tnil_ok))) tnil_ok Tryz.func98 (by kernel_rfl)) (λ x0 x1 x2 => by kernel_rfl)
noncomputable def F.paper_holds (a0 : Value) : M Value:=M.bind (newM 34 (Value.cells a0)) λ x1 => bindO (fieldA 0 x1) λ x2 => M.bind (rdM (ld1 x2)) λ x3 => M.bind (F.paper_storeOK x3) λ x4 => bindO (notV x4) λ x5 => M.bind (guardM x5 false (optM (fieldA 1 x1))) λ x6 => M.bind (guardM x5 false (rdM (ld1 x6))) λ x7 => M.bind (guardM x5 false (optM (binV .lss x7 (.int .i64 1)))) λ x8 => bindO (pickV x5 (.bool true) x8) λ x9 => M.bind (guardM x9 false (optM (fieldA 1 x1))) λ x10 => M.bind (guardM x9 false (rdM (ld1 x10))) λ x11 => M.bind (guardM x9 false (optM (binV .gtr x11 (.int .i64 999999)))) λ x12 => bindO (pickV x9 (.bool true) x12) λ x13 => M.bind (guardM x13 false (optM (fieldA 2 x1))) λ x14 => M.bind (guardM x13 false (rdM (ld1 x14))) λ x15 => M.bind (guardM x13 false (optM (binV .lss x15 (.int .i64 0)))) λ x16 => bindO (pickV x13 (.bool true) x16) λ x17 => M.bind (guardM x17 false (optM (fieldA 2 x1))) λ x18 => M.bind (guardM x17 false (rdM (ld1 x18))) λ x19 => M.bind (guardM x17 false (optM (binV .geq x19 (.int .i64 16)))) λ x20 => bindO (pickV x17 (.bool true) x20) λ x21 => M.bind (guardM x21 false (optM (fieldA 3 x1))) λ x22 => M.bind (guardM x21 false (rdM (ld1 x22))) λ x23 => M.bind (guardM x21 false (optM (lenL x23))) λ x24 => M.bind (guardM x21 false (optM (binV .gtr x24 (.int .i64 1025)))) λ x25 => bindO (pickV x21 (.bool true) x25) λ x26 => condM x26 ( M.ret (.int .i64 42)) ( bindO (fieldA 4 x1) λ x27 => M.bind (rdM (ld1 x27)) λ x28 => bindO (binV .lss x28 (.int .i64 0)) λ x29 => M.bind (guardM x29 false (optM (fieldA 4 x1))) λ x30 => M.bind (guardM x29 false (rdM (ld1 x30))) λ x31 => M.bind (guardM x29 false (optM (binV .gtr x31 (.int .i64 9007199254740992)))) λ x32 => bindO (pickV x29 (.bool true) x32) λ x33 => M.bind (guardM x33 false (optM (fieldA 5 x1))) λ x34 => M.bind (guardM x33 false (rdM (ld1 x34))) λ x35 => M.bind (guardM x33 false (F.paper_isSum x35)) λ x36 => M.bind (guardM x33 false (optM (notV x36))) λ x37 => bindO (pickV x33 (.bool true) x37) λ x38 => condM x38 ( M.ret (.int .i64 42)) ( bindO (fieldA 3 x1) λ x39 => M.bind (rdM (ld1 x39)) λ x40 => bindO (lenL x40) λ x41 => M.bind (loopM (λ l42 => bindO (binV .lss (getL l42 2) x41) λ x43 => condM x43 ( bindO (idxA 4 x40 (getL l42 2)) λ x44 => M.bind (rdM (ldA 4 x44)) λ x45 => M.bind (newM 75 #[(.string .empty), (.int .i64 0), (.int .i64 0), (.string .empty)]) λ x46 => M.bind (stM 4 x46 x45) λ _ => bindO (fieldA 0 x46) λ x48 => M.bind (rdM (ld1 x48)) λ x49 => M.bind (F.paper_fileOK x49) λ x50 => bindO (notV x50) λ x51 => M.bind (guardM x51 false (optM (fieldA 1 x46))) λ x52 => M.bind (guardM x51 false (rdM (ld1 x52))) λ x53 => M.bind (guardM x51 false (optM (binV .lss x53 (.int .i64 0)))) λ x54 => bindO (pickV x51 (.bool true) x54) λ x55 => M.bind (guardM x55 false (optM (fieldA 1 x46))) λ x56 => M.bind (guardM x55 false (rdM (ld1 x56))) λ x57 => M.bind (guardM x55 false (optM (binV .gtr x57 (.int .i64 1073741824)))) λ x58 => bindO (pickV x55 (.bool true) x58) λ x59 => M.bind (guardM x59 false (optM (fieldA 2 x46))) λ x60 => M.bind (guardM x59 false (rdM (ld1 x60))) λ x61 => M.bind (guardM x59 false (F.paper_isSum x61)) λ x62 => M.bind (guardM x59 false (optM (notV x62))) λ x63 => bindO (pickV x59 (.bool true) x63) λ x64 => M.bind (guardM x64 false (optM (fieldA 3 x46))) λ x65 => M.bind (guardM x64 false (rdM (ld1 x65))) λ x66 => M.bind (guardM x64 false (optM (lenS x66))) λ x67 => M.bind (guardM x64 false (optM (binV .neq x67 (.int .i64 16)))) λ x68 => bindO (pickV x64 (.bool true) x68) λ x69 => condM x69 ( M.ret (Out.ret (.int .i64 42))) ( drewM <| bindO (binV .gtr (getL l42 2) (.int .i64 0)) λ x70 => M.bind (guardM x70 true (optM (fieldA 3 x1))) λ x71 => M.bind (guardM x70 true (rdM (ld1 x71))) λ x72 => M.bind (guardM x70 true (M.ret (getL l42 2))) λ x73 => M.bind (guardM x70 true (optM (binV .sub x73 (.int .i64 1)))) λ x74 => M.bind (guardM x70 true (optM (idxA 4 x72 x74))) λ x75 => M.bind (guardM x70 true (optM (fieldA 0 x75))) λ x76 => M.bind (guardM x70 true (rdM (ld1 x76))) λ x77 => M.bind (guardM x70 true (optM (fieldA 0 x46))) λ x78 => M.bind (guardM x70 true (rdM (ld1 x78))) λ x79 => M.bind (guardM x70 true (optM (binV .geq x77 x79))) λ x80 => bindO (pickV x70 x80 (.bool false)) λ x81 => condM x81 ( M.ret (Out.ret (.int .i64 42))) ( bindO (fieldA 1 x46) λ x82 => M.bind (rdM (ld1 x82)) λ x83 => bindO (binV .add (getL l42 0) x83) λ x84 => bindO (fieldA 2 x46) λ x85 => M.bind (rdM (ld1 x85)) λ x86 => bindO (fieldA 1 x46) λ x87 => M.bind (rdM (ld1 x87)) λ x88 => M.bind (F.digest_CRCJoin (getL l42 1) x86 x88) λ x89 => bindO (extV 0 x89) λ x90 => bindO (extV 1 x89) λ _ => bindO (binV .add (getL l42 2) (.int .i64 1)) λ x92 => M.ret (Out.norm [x84, x90, x92])))) ( M.ret (Out.exit 0 [(getL l42 0), (getL l42 1), (getL l42 2)]))) [(.int .i64 0), (.int .i64 0), (.int .i64 0)]) λ o94 => outK o94 (λ _ => M.fail) (λ k95 l93 => bif Nat.beq k95 0 then ( bindO (fieldA 4 x1) λ x97 => M.bind (rdM (ld1 x97)) λ x98 => bindO (binV .neq (getL l93 0) x98) λ x99 => M.bind (guardM x99 false (M.ret (getL l93 1))) λ x100 => M.bind (guardM x99 false (optM (fieldA 5 x1))) λ x101 => M.bind (guardM x99 false (rdM (ld1 x101))) λ x102 => M.bind (guardM x99 false (optM (binV .neq x100 x102))) λ x103 => bindO (pickV x99 (.bool true) x103) λ x104 => condM x104 ( M.ret (.int .i64 43)) ( M.ret (.int .i64 0))) else M.fail) (λ r96 => M.ret r96)))
def F.paper_holds.plan : Plan:=(ls 1 (seq (ls 1 (cond (ls 1 leaf) leaf)) (seq (ls 1 (cond (ls 1 leaf) leaf)) (ls 1 (seq (ls 1 (body (loop [3, 4, 54] [2, 3, 4, 5, 6, 54, 55, 56, 57, 58, 59, 60, 61, 62, 63, 64, 65, 66, 67, 68, 69, 70, 71, 72, 73, 74, 75, 76, 77, 78, 79, 80, 81, 82, 83, 84, 85, 86, 87, 88, 89, 90, 91, 92, 93, 94, 95, 96, 97, 98, 99, 100, 101, 102, 103, 104, 105, 106, 107, 108, 109, 110, 111, 112] [0] (ls 1 (seq (cond leaf leaf) (seq (body (ls 1 (seq (ls 1 (cond (ls 1 leaf) leaf)) (seq (ls 1 (cond (ls 1 leaf) leaf)) (ls 1 leaf))))) leaf)))))) (seq (ls 1 (cond (ls 1 leaf) leaf)) (ls 1 leaf)))))))
theorem F.paper_holds.lift : LiftOk Tryz.prog 51 (ap1 F.paper_holds):=lift1 (g:=evFn Tryz.prog (tcons 41 (ap1 F.paper_storeOK) (tcons 66 (ap1 F.paper_isSum) (tcons 97 (ap1 F.paper_fileOK) (tcons 98 (ap3 F.digest_CRCJoin) tnil)))) tnil 51 Tryz.f51 F.paper_holds.plan) (evFn_sound (tcons_ok F.paper_storeOK.lift (tcons_ok F.paper_isSum.lift (tcons_ok F.paper_fileOK.lift (tcons_ok F.digest_CRCJoin.lift tnil_ok)))) tnil_ok Tryz.func51 (by kernel_rfl)) (λ x0 => by kernel_rfl)
noncomputable def F.digest_Hex (a0 : Value) : M Value:=bindO (lenS a0) λ x1 => bindO (binV .mul (.int .i64 2) x1) λ x2 => M.bind (mksM 5 1 1 #[(.int .u8 0)] (.int .i64 0) x2) λ x3 => M.bind (loopM (λ l4 => bindO (lenS a0) λ x5 => bindO (binV .lss (getL l4 1) x5) λ x6 => condM x6 ( drewM <| bindO (idxS a0 (getL l4 1)) λ x7 => bindO (shV BinOp.shr x7 (.int .u64 4)) λ x8 => bindO (idxS (.string (ByteArray.mk #[48, 49, 50, 51, 52, 53, 54, 55, 56, 57, 97, 98, 99, 100, 101, 102])) x8) λ x9 => bindO (idxS a0 (getL l4 1)) λ x10 => bindO (binV .and x10 (.int .u8 15)) λ x11 => bindO (idxS (.string (ByteArray.mk #[48, 49, 50, 51, 52, 53, 54, 55, 56, 57, 97, 98, 99, 100, 101, 102])) x11) λ x12 => M.bind (bslM 5 2 (Builtin.zeroCells #[(.int .u8 0)] 2) [(0, 1, x9), (1, 1, x12)]) λ x13 => M.bind (appM 5 1 1 #[(.int .u8 0)] (getL l4 0) x13) λ x14 => bindO (binV .add (getL l4 1) (.int .i64 1)) λ x15 => M.ret (Out.norm [x14, x15])) ( M.ret (Out.exit 0 [(getL l4 0), (getL l4 1)]))) [x3, (.int .i64 0)]) λ o17 => outK o17 (λ _ => M.fail) (λ k18 l16 => bif Nat.beq k18 0 then ( M.bind (rdM (bsR (getL l16 0))) λ x20 => M.ret x20) else M.fail) (λ r19 => M.ret r19)
def F.digest_Hex.plan : Plan:=(ls 2 (seq (ls 1 (body (loop [3, 4] [3, 4, 9, 10, 11, 12, 13, 14, 15, 16, 17, 18, 19, 20, 21, 22, 23, 24, 25, 26, 27] [0] (seq (ls 1 (cond leaf leaf)) (seq (body leaf) leaf))))) (ls 1 leaf)))
theorem F.digest_Hex.lift : LiftOk Tryz.prog 53 (ap1 F.digest_Hex):=lift1 (g:=evFn Tryz.prog tnil tnil 53 Tryz.f53 F.digest_Hex.plan) (evFn_sound tnil_ok tnil_ok Tryz.func53 (by kernel_rfl)) (λ x0 => by kernel_rfl)
noncomputable def F.paper_PrintManifest (a0 : Value) : M Value:=M.bind (newM 34 (Value.cells a0)) λ x1 => M.bind (rdM (ldA 6 x1)) λ x2 => M.bind (F.paper_holds x2) λ x3 => bindO (binV .neq x3 (.int .i64 0)) λ x4 => condM x4 ( M.ret (Value.tuple #[(.string (ByteArray.mk #[])), x3])) ( bindO (buildV #[(.pointer none), (.slice none 0 0)] []) λ x5 => M.bind (newM 93 (Value.cells x5)) λ x6 => M.bind (bslM 9 1 (Builtin.zeroCells #[(.string .empty)] 1) [(0, 1, (.string (ByteArray.mk #[103, 114, 97, 110, 97, 114, 121, 32, 109, 97, 110, 105, 102, 101, 115, 116, 32, 49])))]) λ x7 => M.bind (F.paper_line x6 x7) λ _ => bindO (fieldA 0 x1) λ x9 => M.bind (rdM (ld1 x9)) λ x10 => M.bind (bslM 9 2 (Builtin.zeroCells #[(.string .empty)] 2) [(0, 1, (.string (ByteArray.mk #[115, 116, 111, 114, 101]))), (1, 1, x10)]) λ x11 => M.bind (F.paper_line x6 x11) λ _ => bindO (fieldA 1 x1) λ x13 => M.bind (rdM (ld1 x13)) λ x14 => M.bind (F.strconv_Itoa x14) λ x15 => M.bind (bslM 9 2 (Builtin.zeroCells #[(.string .empty)] 2) [(0, 1, (.string (ByteArray.mk #[118, 101, 114, 115, 105, 111, 110]))), (1, 1, x15)]) λ x16 => M.bind (F.paper_line x6 x16) λ _ => bindO (fieldA 2 x1) λ x18 => M.bind (rdM (ld1 x18)) λ x19 => M.bind (F.strconv_Itoa x19) λ x20 => M.bind (bslM 9 2 (Builtin.zeroCells #[(.string .empty)] 2) [(0, 1, (.string (ByteArray.mk #[110, 111, 100, 101]))), (1, 1, x20)]) λ x21 => M.bind (F.paper_line x6 x21) λ _ => bindO (fieldA 3 x1) λ x23 => M.bind (rdM (ld1 x23)) λ x24 => bindO (lenL x24) λ x25 => M.bind (F.strconv_Itoa x25) λ x26 => M.bind (bslM 9 2 (Builtin.zeroCells #[(.string .empty)] 2) [(0, 1, (.string (ByteArray.mk #[102, 105, 108, 101, 115]))), (1, 1, x26)]) λ x27 => M.bind (F.paper_line x6 x27) λ _ => bindO (fieldA 3 x1) λ x29 => M.bind (rdM (ld1 x29)) λ x30 => bindO (lenL x30) λ x31 => M.bind (loopM (λ l32 => bindO (binV .lss (getL l32 0) x31) λ x33 => condM x33 ( bindO (idxA 4 x30 (getL l32 0)) λ x34 => M.bind (rdM (ldA 4 x34)) λ x35 => M.bind (newM 75 #[(.string .empty), (.int .i64 0), (.int .i64 0), (.string .empty)]) λ x36 => M.bind (stM 4 x36 x35) λ _ => drewM <| getM λ W38 => bindO (fieldA 0 x36) λ x39 => M.bind (rdM (ld1 x39)) λ x40 => bindO (fieldA 1 x36) λ x41 => M.bind (rdM (ld1 x41)) λ x42 => M.bind (F.strconv_Itoa x42) λ x43 => getM λ W44 => bindO (fieldA 2 x36) λ x45 => M.bind (rdM (ld1 x45)) λ x46 => M.bind (F.paper_hex8 x46) λ x47 => getM λ W48 => bindO (fieldA 3 x36) λ x49 => M.bind (rdM (ld1 x49)) λ x50 => M.bind (F.digest_Hex x50) λ x51 => getM λ W52 => M.bind (bslM 9 5 (Builtin.zeroCells #[(.string .empty)] 5) [(0, 1, (.string (ByteArray.mk #[102, 105, 108, 101]))), (1, 1, x40), (2, 1, x43), (3, 1, x47), (4, 1, x51)]) λ x53 => getM λ _ => M.bind (F.paper_line x6 x53) λ _ => getM λ _ => reqM (ld1 x39 W44 = some x40) <| reqM (ld1 x39 W48 = some x40) <| reqM (ld1 x39 W52 = some x40) <| reqM (ld1 x45 W38 = some x46) <| reqM (ld1 x49 W38 = some x50) <| reqM (ld1 x49 W44 = some x50) <| bindO (binV .add (getL l32 0) (.int .i64 1)) λ x57 => M.ret (Out.norm [x57])) ( M.ret (Out.exit 0 [(getL l32 0)]))) [(.int .i64 0)]) λ o59 => outK o59 (λ _ => M.fail) (λ k60 _ => bif Nat.beq k60 0 then ( bindO (fieldA 4 x1) λ x62 => M.bind (rdM (ld1 x62)) λ x63 => M.bind (F.strconv_Itoa x63) λ x64 => M.bind (bslM 9 2 (Builtin.zeroCells #[(.string .empty)] 2) [(0, 1, (.string (ByteArray.mk #[116, 111, 116, 97, 108]))), (1, 1, x64)]) λ x65 => M.bind (F.paper_line x6 x65) λ _ => bindO (fieldA 5 x1) λ x67 => M.bind (rdM (ld1 x67)) λ x68 => M.bind (F.paper_hex8 x68) λ x69 => M.bind (bslM 9 2 (Builtin.zeroCells #[(.string .empty)] 2) [(0, 1, (.string (ByteArray.mk #[119, 104, 111, 108, 101]))), (1, 1, x69)]) λ x70 => M.bind (F.paper_line x6 x70) λ _ => M.bind (F.paper_closed x6) λ x72 => M.ret (Value.tuple #[x72, (.int .i64 0)])) else M.fail) (λ r61 => M.ret r61))
def F.paper_PrintManifest.plan : Plan:=(ls 1 (seq (ls 2 (cond (ls 1 leaf) leaf)) (ls 6 (seq (ls 1 (body (loop [45] [7, 45, 46, 47, 48, 49, 50, 51, 52, 53, 54, 55, 56, 57, 58, 59, 60, 61, 62, 63] [0] (ls 1 (seq (cond leaf leaf) (seq (body (ls 1 leaf)) leaf)))))) (ls 3 leaf)))))
theorem F.paper_PrintManifest.lift : LiftOk Tryz.prog 15 (ap1 F.paper_PrintManifest):=lift1 (g:=evFn Tryz.prog (tcons 44 (ap2 F.paper_line) (tcons 46 (ap1 F.paper_closed) (tcons 48 (ap1 F.strconv_Itoa) (tcons 51 (ap1 F.paper_holds) (tcons 52 (ap1 F.paper_hex8) (tcons 53 (ap1 F.digest_Hex) tnil)))))) tnil 15 Tryz.f15 F.paper_PrintManifest.plan) (evFn_sound (tcons_ok F.paper_line.lift (tcons_ok F.paper_closed.lift (tcons_ok F.strconv_Itoa.lift (tcons_ok F.paper_holds.lift (tcons_ok F.paper_hex8.lift (tcons_ok F.digest_Hex.lift tnil_ok)))))) tnil_ok Tryz.func15 (by kernel_rfl)) (λ x0 => by kernel_rfl)
noncomputable def F.granarylaw4_sameFiles (a0 a1 : Value) : M Value:=bindO (lenL a0) λ x1 => bindO (lenL a1) λ x2 => bindO (binV .neq x1 x2) λ x3 => condM x3 ( M.ret (.bool false)) ( M.bind (loopM (λ l4 => bindO (lenL a0) λ x5 => bindO (binV .lss (getL l4 0) x5) λ x6 => condM x6 ( drewM <| bindO (idxA 4 a0 (getL l4 0)) λ x7 => M.bind (rdM (ldA 4 x7)) λ x8 => bindO (idxA 4 a1 (getL l4 0)) λ x9 => M.bind (rdM (ldA 4 x9)) λ x10 => bindO (neV (.offs [(.str, 0), (.int, 1), (.int, 2), (.str, 3)]) x8 x10) λ x11 => condM x11 ( M.ret (Out.ret (.bool false))) ( bindO (binV .add (getL l4 0) (.int .i64 1)) λ x12 => M.ret (Out.norm [x12]))) ( M.ret (Out.exit 0 [(getL l4 0)]))) [(.int .i64 0)]) λ o14 => outK o14 (λ _ => M.fail) (λ k15 _ => bif Nat.beq k15 0 then ( M.ret (.bool true)) else M.fail) (λ r16 => M.ret r16))
def F.granarylaw4_sameFiles.plan : Plan:=(ls 1 (seq (ls 1 (cond (ls 1 leaf) leaf)) (seq (ls 1 (body (loop [5] [4, 5, 11, 12, 13, 14, 15, 16, 17, 18, 19, 20, 21, 22, 23, 24, 25] [0] (seq (ls 1 (cond leaf leaf)) (seq (body (ls 1 (cond (ls 1 leaf) leaf))) leaf))))) (ls 1 leaf))))
theorem F.granarylaw4_sameFiles.lift : LiftOk Tryz.prog 16 (ap2 F.granarylaw4_sameFiles):=lift2 (g:=evFn Tryz.prog tnil tnil 16 Tryz.f16 F.granarylaw4_sameFiles.plan) (evFn_sound tnil_ok tnil_ok Tryz.func16 (by kernel_rfl)) (λ x0 x1 => by kernel_rfl)
noncomputable def F.paper_head (a0 a1 : Value) : M Value:=bindO (lenL a0) λ x1 => bindO (binV .lss x1 (.int .i64 6)) λ x2 => condM x2 ( M.ret (Value.tuple #[(.slice none 0 0), (.bool false)])) ( bindO (lenL a0) λ x3 => M.bind (newM 170 #[(.bool false), (.bool false), (.bool false), (.bool false), (.bool false), (.bool false)]) λ x4 => bindO (idxA 1 a0 (.int .i64 0)) λ x5 => M.bind (rdM (ld1 x5)) λ x6 => M.bind (F.paper_nameOf x6 (.string (ByteArray.mk #[115, 116, 111, 114, 101]))) λ x7 => bindO (extV 0 x7) λ x8 => bindO (extV 1 x7) λ x9 => bindO (nilChk a1) λ x10 => bindO (fieldA 0 x10) λ x11 => M.bind (stM 1 x11 x8) λ _ => bindO (idxR 6 1 x4 (.int .i64 0)) λ x13 => M.bind (stM 1 x13 x9) λ _ => bindO (idxA 1 a0 (.int .i64 1)) λ x15 => M.bind (rdM (ld1 x15)) λ x16 => M.bind (F.paper_numberOf x16 (.string (ByteArray.mk #[118, 101, 114, 115, 105, 111, 110]))) λ x17 => bindO (extV 0 x17) λ x18 => bindO (extV 1 x17) λ x19 => bindO (nilChk a1) λ x20 => bindO (fieldA 1 x20) λ x21 => M.bind (stM 1 x21 x18) λ _ => bindO (idxR 6 1 x4 (.int .i64 1)) λ x23 => M.bind (stM 1 x23 x19) λ _ => bindO (idxA 1 a0 (.int .i64 2)) λ x25 => M.bind (rdM (ld1 x25)) λ x26 => M.bind (F.paper_numberOf x26 (.string (ByteArray.mk #[110, 111, 100, 101]))) λ x27 => bindO (extV 0 x27) λ x28 => bindO (extV 1 x27) λ x29 => bindO (nilChk a1) λ x30 => bindO (fieldA 2 x30) λ x31 => M.bind (stM 1 x31 x28) λ _ => bindO (idxR 6 1 x4 (.int .i64 2)) λ x33 => M.bind (stM 1 x33 x29) λ _ => bindO (idxA 1 a0 (.int .i64 3)) λ x35 => M.bind (rdM (ld1 x35)) λ x36 => M.bind (F.paper_numberOf x36 (.string (ByteArray.mk #[102, 105, 108, 101, 115]))) λ x37 => bindO (extV 0 x37) λ x38 => bindO (extV 1 x37) λ x39 => bindO (idxR 6 1 x4 (.int .i64 3)) λ x40 => M.bind (stM 1 x40 x39) λ _ => bindO (binV .sub x3 (.int .i64 2)) λ x42 => bindO (idxA 1 a0 x42) λ x43 => M.bind (rdM (ld1 x43)) λ x44 => M.bind (F.paper_numberOf x44 (.string (ByteArray.mk #[116, 111, 116, 97, 108]))) λ x45 => bindO (extV 0 x45) λ x46 => bindO (extV 1 x45) λ x47 => bindO (nilChk a1) λ x48 => bindO (fieldA 4 x48) λ x49 => M.bind (stM 1 x49 x46) λ _ => bindO (idxR 6 1 x4 (.int .i64 4)) λ x51 => M.bind (stM 1 x51 x47) λ _ => bindO (binV .sub x3 (.int .i64 1)) λ x53 => bindO (idxA 1 a0 x53) λ x54 => M.bind (rdM (ld1 x54)) λ x55 => M.bind (F.strings_CutPrefix x55 (.string (ByteArray.mk #[119, 104, 111, 108, 101, 32]))) λ x56 => bindO (extV 0 x56) λ x57 => bindO (extV 1 x56) λ x58 => M.bind (F.paper_sumOf x57) λ x59 => bindO (extV 0 x59) λ x60 => bindO (extV 1 x59) λ x61 => bindO (nilChk a1) λ x62 => bindO (fieldA 5 x62) λ x63 => M.bind (stM 1 x63 x60) λ _ => bindO (idxR 6 1 x4 (.int .i64 5)) λ x65 => M.bind (stM 1 x65 x61) λ _ => drewM <| bindO (binV .sub x3 (.int .i64 2)) λ x67 => bindO (sliceV 1 a0 (some (.int .i64 4)) (some x67)) λ x68 => M.bind (guardM x58 true (M.ret x38)) λ x69 => M.bind (guardM x58 true (M.ret x3)) λ x70 => M.bind (guardM x58 true (optM (binV .sub x70 (.int .i64 6)))) λ x71 => M.bind (guardM x58 true (optM (binV .eql x69 x71))) λ x72 => bindO (pickV x58 x72 (.bool false)) λ x73 => M.bind (guardM x73 true (rdM (ldA 6 x4))) λ x74 => M.bind (guardM x73 true (optM (buildV #[(.bool false), (.bool false), (.bool false), (.bool false), (.bool false), (.bool false)] [(0, 1, (.bool true)), (1, 1, (.bool true)), (2, 1, (.bool true)), (3, 1, (.bool true)), (4, 1, (.bool true)), (5, 1, (.bool true))]))) λ x75 => M.bind (guardM x73 true (optM (eqV (.offs [(.bool, 0), (.bool, 1), (.bool, 2), (.bool, 3), (.bool, 4), (.bool, 5)]) x74 x75))) λ x76 => bindO (pickV x73 x76 (.bool false)) λ x77 => M.ret (Value.tuple #[x68, x77]))
def F.paper_head.plan : Plan:=(ls 1 (seq (ls 1 (cond (ls 1 leaf) leaf)) (ls 11 leaf)))
theorem F.paper_head.lift : LiftOk Tryz.prog 71 (ap2 F.paper_head):=lift2 (g:=evFn Tryz.prog (tcons 60 (ap2 F.paper_nameOf) (tcons 105 (ap2 F.strings_CutPrefix) (tcons 106 (ap1 F.paper_sumOf) (tcons 108 (ap2 F.paper_numberOf) tnil)))) tnil 71 Tryz.f71 F.paper_head.plan) (evFn_sound (tcons_ok F.paper_nameOf.lift (tcons_ok F.strings_CutPrefix.lift (tcons_ok F.paper_sumOf.lift (tcons_ok F.paper_numberOf.lift tnil_ok)))) tnil_ok Tryz.func71 (by kernel_rfl)) (λ x0 x1 => by kernel_rfl)
noncomputable def F.paper_row (a0 : Value) : M Value:=M.bind (newM 75 #[(.string .empty), (.int .i64 0), (.int .i64 0), (.string .empty)]) λ x1 => M.bind (F.strings_Split a0 (.string (ByteArray.mk #[32]))) λ x2 => bindO (lenL x2) λ x3 => bindO (binV .neq x3 (.int .i64 5)) λ x4 => M.bind (guardM x4 false (M.ret x2)) λ x5 => M.bind (guardM x4 false (optM (idxA 1 x5 (.int .i64 0)))) λ x6 => M.bind (guardM x4 false (rdM (ld1 x6))) λ x7 => M.bind (guardM x4 false (optM (binV .neq x7 (.string (ByteArray.mk #[102, 105, 108, 101]))))) λ x8 => bindO (pickV x4 (.bool true) x8) λ x9 => M.bind (guardM x9 false (M.ret x2)) λ x10 => M.bind (guardM x9 false (optM (idxA 1 x10 (.int .i64 1)))) λ x11 => M.bind (guardM x9 false (rdM (ld1 x11))) λ x12 => M.bind (guardM x9 false (optM (binV .eql x12 (.string (ByteArray.mk #[]))))) λ x13 => bindO (pickV x9 (.bool true) x13) λ x14 => condM x14 ( bindO (buildV #[(.string .empty), (.int .i64 0), (.int .i64 0), (.string .empty)] []) λ x15 => M.bind (stM 4 x1 x15) λ _ => M.bind (rdM (ldA 4 x1)) λ x17 => M.ret (Value.tuple #[x17, (.bool false)])) ( bindO (idxA 1 x2 (.int .i64 2)) λ x18 => M.bind (rdM (ld1 x18)) λ x19 => M.bind (F.paper_number x19) λ x20 => bindO (extV 0 x20) λ x21 => bindO (extV 1 x20) λ x22 => bindO (idxA 1 x2 (.int .i64 3)) λ x23 => M.bind (rdM (ld1 x23)) λ x24 => M.bind (F.paper_sumOf x24) λ x25 => bindO (extV 0 x25) λ x26 => bindO (extV 1 x25) λ x27 => bindO (idxA 1 x2 (.int .i64 4)) λ x28 => M.bind (rdM (ld1 x28)) λ x29 => M.bind (F.paper_unhex x29 (.int .i64 16)) λ x30 => bindO (extV 0 x30) λ x31 => bindO (extV 1 x30) λ x32 => bindO (idxA 1 x2 (.int .i64 1)) λ x33 => M.bind (rdM (ld1 x33)) λ x34 => bindO (buildV #[(.string .empty), (.int .i64 0), (.int .i64 0), (.string .empty)] [(0, 1, x34), (1, 1, x21), (2, 1, x26), (3, 1, x31)]) λ x35 => M.bind (guardM x22 true (M.ret x27)) λ x36 => bindO (pickV x22 x36 (.bool false)) λ x37 => M.bind (guardM x37 true (M.ret x32)) λ x38 => bindO (pickV x37 x38 (.bool false)) λ x39 => M.bind (stM 4 x1 x35) λ _ => M.bind (rdM (ldA 4 x1)) λ x41 => M.ret (Value.tuple #[x41, x39]))
def F.paper_row.plan : Plan:=(ls 2 (seq (ls 1 (cond (ls 1 leaf) leaf)) (ls 4 leaf)))
theorem F.paper_row.lift : LiftOk Tryz.prog 72 (ap1 F.paper_row):=lift1 (g:=evFn Tryz.prog (tcons 104 (ap2 F.strings_Split) (tcons 106 (ap1 F.paper_sumOf) (tcons 116 (ap1 F.paper_number) (tcons 117 (ap2 F.paper_unhex) tnil)))) tnil 72 Tryz.f72 F.paper_row.plan) (evFn_sound (tcons_ok F.strings_Split.lift (tcons_ok F.paper_sumOf.lift (tcons_ok F.paper_number.lift (tcons_ok F.paper_unhex.lift tnil_ok)))) tnil_ok Tryz.func72 (by kernel_rfl)) (λ x0 => by kernel_rfl)
noncomputable def F.paper_ParseManifest (a0 : Value) : M Value:=M.bind (newM 34 #[(.string .empty), (.int .i64 0), (.int .i64 0), (.slice none 0 0), (.int .i64 0), (.int .i64 0)]) λ x1 => M.bind (newM 34 #[(.string .empty), (.int .i64 0), (.int .i64 0), (.slice none 0 0), (.int .i64 0), (.int .i64 0)]) λ x2 => M.bind (F.paper_open a0 (.string (ByteArray.mk #[103, 114, 97, 110, 97, 114, 121, 32, 109, 97, 110, 105, 102, 101, 115, 116, 32, 49]))) λ x3 => bindO (extV 0 x3) λ x4 => bindO (extV 1 x3) λ x5 => bindO (extV 2 x3) λ x6 => bindO (notV x6) λ x7 => condM x7 ( bindO (buildV #[(.string .empty), (.int .i64 0), (.int .i64 0), (.slice none 0 0), (.int .i64 0), (.int .i64 0)] []) λ x8 => M.bind (stM 6 x1 x8) λ _ => M.bind (rdM (ldA 6 x1)) λ x10 => M.ret (Value.tuple #[x10, (.int .i64 40)])) ( M.bind (F.paper_head x4 x2) λ x11 => bindO (extV 0 x11) λ x12 => bindO (extV 1 x11) λ x13 => M.bind (loopM (λ l14 => M.bind (guardM (getL l14 0) true (M.ret (getL l14 1))) λ x15 => M.bind (guardM (getL l14 0) true (M.ret x12)) λ x16 => M.bind (guardM (getL l14 0) true (optM (lenL x16))) λ x17 => M.bind (guardM (getL l14 0) true (optM (binV .lss x15 x17))) λ x18 => bindO (pickV (getL l14 0) x18 (.bool false)) λ x19 => condM x19 ( M.bind (newM 75 #[(.string .empty), (.int .i64 0), (.int .i64 0), (.string .empty)]) λ x20 => bindO (idxA 1 x12 (getL l14 1)) λ x21 => M.bind (rdM (ld1 x21)) λ x22 => M.bind (F.paper_row x22) λ x23 => bindO (extV 0 x23) λ x24 => bindO (extV 1 x23) λ x25 => M.bind (stM 4 x20 x24) λ _ => bindO (fieldA 3 x2) λ x27 => M.bind (rdM (ld1 x27)) λ x28 => M.bind (rdM (ldA 4 x20)) λ x29 => M.bind (bslM 75 1 (Builtin.zeroCells #[(.string .empty), (.int .i64 0), (.int .i64 0), (.string .empty)] 1) [(0, 4, x29)]) λ x30 => M.bind (appM 75 4 48 #[(.string .empty), (.int .i64 0), (.int .i64 0), (.string .empty)] x28 x30) λ x31 => bindO (fieldA 3 x2) λ x32 => M.bind (stM 1 x32 x31) λ _ => bindO (binV .add (getL l14 1) (.int .i64 1)) λ x34 => M.ret (Out.norm [x25, x34])) ( M.ret (Out.exit 0 [(getL l14 0), (getL l14 1)]))) [x13, (.int .i64 0)]) λ o36 => outK o36 (λ _ => M.fail) (λ k37 l35 => bif Nat.beq k37 0 then ( bindO (notV (getL l35 0)) λ x39 => condM x39 ( bindO (buildV #[(.string .empty), (.int .i64 0), (.int .i64 0), (.slice none 0 0), (.int .i64 0), (.int .i64 0)] []) λ x40 => M.bind (stM 6 x1 x40) λ _ => M.bind (rdM (ldA 6 x1)) λ x42 => M.ret (Value.tuple #[x42, (.int .i64 40)])) ( bindO (notV x5) λ x43 => condM x43 ( bindO (buildV #[(.string .empty), (.int .i64 0), (.int .i64 0), (.slice none 0 0), (.int .i64 0), (.int .i64 0)] []) λ x44 => M.bind (stM 6 x1 x44) λ _ => M.bind (rdM (ldA 6 x1)) λ x46 => M.ret (Value.tuple #[x46, (.int .i64 41)])) ( M.bind (rdM (ldA 6 x2)) λ x47 => M.bind (F.paper_holds x47) λ x48 => bindO (binV .neq x48 (.int .i64 0)) λ x49 => condM x49 ( bindO (buildV #[(.string .empty), (.int .i64 0), (.int .i64 0), (.slice none 0 0), (.int .i64 0), (.int .i64 0)] []) λ x50 => M.bind (stM 6 x1 x50) λ _ => M.bind (rdM (ldA 6 x1)) λ x52 => M.ret (Value.tuple #[x52, x48])) ( M.bind (rdM (ldA 6 x2)) λ x53 => M.bind (stM 6 x1 x53) λ _ => M.bind (rdM (ldA 6 x1)) λ x55 => M.ret (Value.tuple #[x55, (.int .i64 0)]))))) else M.fail) (λ r38 => M.ret r38))
def F.paper_ParseManifest.plan : Plan:=(ls 3 (seq (ls 1 (cond (ls 1 leaf) leaf)) (ls 1 (seq (ls 1 (body (loop [7, 8] [7, 8, 9, 25, 26, 27, 28, 29, 30, 31, 32, 33, 34, 35, 36, 37, 38, 39, 40, 41, 42, 43, 44, 45, 46, 47] [0] (seq (ls 1 (cond leaf leaf)) (seq (body (ls 2 leaf)) leaf))))) (seq (ls 1 (cond (ls 1 leaf) leaf)) (seq (ls 1 (cond (ls 1 leaf) leaf)) (seq (ls 2 (cond (ls 1 leaf) leaf)) (ls 1 leaf))))))))
theorem F.paper_ParseManifest.lift : LiftOk Tryz.prog 29 (ap1 F.paper_ParseManifest):=lift1 (g:=evFn Tryz.prog (tcons 51 (ap1 F.paper_holds) (tcons 59 (ap2 F.paper_open) (tcons 71 (ap2 F.paper_head) (tcons 72 (ap1 F.paper_row) tnil)))) tnil 29 Tryz.f29 F.paper_ParseManifest.plan) (evFn_sound (tcons_ok F.paper_holds.lift (tcons_ok F.paper_open.lift (tcons_ok F.paper_head.lift (tcons_ok F.paper_row.lift tnil_ok)))) tnil_ok Tryz.func29 (by kernel_rfl)) (λ x0 => by kernel_rfl)
noncomputable def F.granarylaw4_sameManifest (a0 a1 : Value) : M Value:=M.bind (newM 34 (Value.cells a0)) λ x1 => M.bind (newM 34 (Value.cells a1)) λ x2 => bindO (fieldA 0 x1) λ x3 => M.bind (rdM (ld1 x3)) λ x4 => bindO (fieldA 0 x2) λ x5 => M.bind (rdM (ld1 x5)) λ x6 => bindO (binV .eql x4 x6) λ x7 => M.bind (guardM x7 true (optM (fieldA 1 x1))) λ x8 => M.bind (guardM x7 true (rdM (ld1 x8))) λ x9 => M.bind (guardM x7 true (optM (fieldA 1 x2))) λ x10 => M.bind (guardM x7 true (rdM (ld1 x10))) λ x11 => M.bind (guardM x7 true (optM (binV .eql x9 x11))) λ x12 => bindO (pickV x7 x12 (.bool false)) λ x13 => M.bind (guardM x13 true (optM (fieldA 2 x1))) λ x14 => M.bind (guardM x13 true (rdM (ld1 x14))) λ x15 => M.bind (guardM x13 true (optM (fieldA 2 x2))) λ x16 => M.bind (guardM x13 true (rdM (ld1 x16))) λ x17 => M.bind (guardM x13 true (optM (binV .eql x15 x17))) λ x18 => bindO (pickV x13 x18 (.bool false)) λ x19 => M.bind (guardM x19 true (optM (fieldA 4 x1))) λ x20 => M.bind (guardM x19 true (rdM (ld1 x20))) λ x21 => M.bind (guardM x19 true (optM (fieldA 4 x2))) λ x22 => M.bind (guardM x19 true (rdM (ld1 x22))) λ x23 => M.bind (guardM x19 true (optM (binV .eql x21 x23))) λ x24 => bindO (pickV x19 x24 (.bool false)) λ x25 => M.bind (guardM x25 true (optM (fieldA 5 x1))) λ x26 => M.bind (guardM x25 true (rdM (ld1 x26))) λ x27 => M.bind (guardM x25 true (optM (fieldA 5 x2))) λ x28 => M.bind (guardM x25 true (rdM (ld1 x28))) λ x29 => M.bind (guardM x25 true (optM (binV .eql x27 x29))) λ x30 => bindO (pickV x25 x30 (.bool false)) λ x31 => M.bind (guardM x31 true (optM (fieldA 3 x1))) λ x32 => M.bind (guardM x31 true (rdM (ld1 x32))) λ x33 => M.bind (guardM x31 true (optM (fieldA 3 x2))) λ x34 => M.bind (guardM x31 true (rdM (ld1 x34))) λ x35 => M.bind (guardM x31 true (F.granarylaw4_sameFiles x33 x35)) λ x36 => bindO (pickV x31 x36 (.bool false)) λ x37 => M.ret x37
def F.granarylaw4_sameManifest.plan : Plan:=(ls 2 leaf)
theorem F.granarylaw4_sameManifest.lift : LiftOk Tryz.prog 31 (ap2 F.granarylaw4_sameManifest):=lift2 (g:=evFn Tryz.prog (tcons 16 (ap2 F.granarylaw4_sameFiles) tnil) tnil 31 Tryz.f31 F.granarylaw4_sameManifest.plan) (evFn_sound (tcons_ok F.granarylaw4_sameFiles.lift tnil_ok) tnil_ok Tryz.func31 (by kernel_rfl)) (λ x0 x1 => by kernel_rfl)
noncomputable def F.granarylaw4_letters (a0 : Value) : M Value:=bindO (lenS a0) λ x1 => bindO (binV .lss x1 (.int .i64 1)) λ x2 => M.bind (guardM x2 false (M.ret a0)) λ x3 => M.bind (guardM x2 false (optM (lenS x3))) λ x4 => M.bind (guardM x2 false (optM (binV .gtr x4 (.int .i64 40)))) λ x5 => bindO (pickV x2 (.bool true) x5) λ x6 => condM x6 ( M.ret (.bool false)) ( M.bind (loopM (λ l7 => bindO (lenS a0) λ x8 => bindO (binV .lss (getL l7 0) x8) λ x9 => condM x9 ( bindO (idxS a0 (getL l7 0)) λ x10 => bindO (binV .lss x10 (.int .u8 97)) λ x11 => M.bind (guardM x11 false (M.ret a0)) λ x12 => M.bind (guardM x11 false (M.ret (getL l7 0))) λ x13 => M.bind (guardM x11 false (optM (idxS x12 x13))) λ x14 => M.bind (guardM x11 false (optM (binV .gtr x14 (.int .u8 122)))) λ x15 => bindO (pickV x11 (.bool true) x15) λ x16 => condM x16 ( M.ret (Out.ret (.bool false))) ( bindO (binV .add (getL l7 0) (.int .i64 1)) λ x17 => M.ret (Out.norm [x17]))) ( M.ret (Out.exit 0 [(getL l7 0)]))) [(.int .i64 0)]) λ o19 => outK o19 (λ _ => M.fail) (λ k20 _ => bif Nat.beq k20 0 then ( M.ret (.bool true)) else M.fail) (λ r21 => M.ret r21))
def F.granarylaw4_letters.plan : Plan:=(ls 1 (seq (ls 1 (cond (ls 1 leaf) leaf)) (seq (ls 1 (body (loop [3] [2, 3, 12, 13, 14, 15, 16, 17, 18, 19, 20, 21, 22, 23, 24, 25, 26, 27] [0] (seq (ls 1 (cond leaf leaf)) (seq (body (ls 1 (cond (ls 1 leaf) leaf))) leaf))))) (ls 1 leaf))))
theorem F.granarylaw4_letters.lift : LiftOk Tryz.prog 57 (ap1 F.granarylaw4_letters):=lift1 (g:=evFn Tryz.prog tnil tnil 57 Tryz.f57 F.granarylaw4_letters.plan) (evFn_sound tnil_ok tnil_ok Tryz.func57 (by kernel_rfl)) (λ x0 => by kernel_rfl)
noncomputable def F.paper_pointerFields : M Value:=bindO (buildV #[(.string .empty), (.int .i64 0), (.int .i64 0), Value.nilFunc] [(0, 1, (.string (ByteArray.mk #[99, 117, 114]))), (1, 1, (.int .i64 0)), (2, 1, (.int .i64 999999)), (3, 1, (Value.func (Fn.func 109) #[] #[]))]) λ x1 => bindO (buildV #[(.string .empty), (.int .i64 0), (.int .i64 0), Value.nilFunc] [(0, 1, (.string (ByteArray.mk #[112, 114, 101, 118]))), (1, 1, (.int .i64 0)), (2, 1, (.int .i64 999999)), (3, 1, (Value.func (Fn.func 110) #[] #[]))]) λ x2 => bindO (buildV #[(.string .empty), (.int .i64 0), (.int .i64 0), Value.nilFunc] [(0, 1, (.string (ByteArray.mk #[101, 112, 111, 99, 104]))), (1, 1, (.int .i64 0)), (2, 1, (.int .i64 9007199254740992)), (3, 1, (Value.func (Fn.func 111) #[] #[]))]) λ x3 => bindO (buildV #[(.string .empty), (.int .i64 0), (.int .i64 0), Value.nilFunc] [(0, 1, (.string (ByteArray.mk #[115, 101, 113]))), (1, 1, (.int .i64 0)), (2, 1, (.int .i64 9007199254740992)), (3, 1, (Value.func (Fn.func 112) #[] #[]))]) λ x4 => M.bind (bslM 165 4 (Builtin.zeroCells #[(.string .empty), (.int .i64 0), (.int .i64 0), Value.nilFunc] 4) [(0, 4, x1), (4, 4, x2), (8, 4, x3), (12, 4, x4)]) λ x5 => M.ret x5
def F.paper_pointerFields.plan : Plan:=(ls 2 leaf)
theorem F.paper_pointerFields.lift : LiftOk Tryz.prog 63 (ap0 F.paper_pointerFields):=lift0 (g:=evFn Tryz.prog tnil tnil 63 Tryz.f63 F.paper_pointerFields.plan) (evFn_sound tnil_ok tnil_ok Tryz.func63 (by kernel_rfl)) (by kernel_rfl)
noncomputable def F.api_Pointer (a0 a1 : Value) : M Value:=bindO (lenL a0) λ x1 => M.bind (loopM (λ l2 => bindO (binV .lss (getL l2 0) x1) λ x3 => condM x3 ( bindO (idxA 4 a0 (getL l2 0)) λ x4 => M.bind (rdM (ldA 4 x4)) λ x5 => M.bind (newM 165 #[(.string .empty), (.int .i64 0), (.int .i64 0), Value.nilFunc]) λ x6 => M.bind (stM 4 x6 x5) λ _ => bindO (fieldA 3 x6) λ x8 => M.bind (rdM (ld1 x8)) λ x9 => M.bind (callV F.clos x9 [a1]) λ x10 => bindO (nilChk x10) λ x11 => M.bind (rdM (ld1 x11)) λ x12 => bindO (fieldA 1 x6) λ x13 => M.bind (rdM (ld1 x13)) λ x14 => bindO (binV .lss x12 x14) λ x15 => M.bind (guardM x15 false (M.ret x12)) λ x16 => M.bind (guardM x15 false (optM (fieldA 2 x6))) λ x17 => M.bind (guardM x15 false (rdM (ld1 x17))) λ x18 => M.bind (guardM x15 false (optM (binV .gtr x16 x18))) λ x19 => bindO (pickV x15 (.bool true) x19) λ x20 => condM x20 ( M.ret (Out.ret (.bool false))) ( bindO (binV .add (getL l2 0) (.int .i64 1)) λ x21 => M.ret (Out.norm [x21]))) ( M.ret (Out.exit 0 [(getL l2 0)]))) [(.int .i64 0)]) λ o23 => outK o23 (λ _ => M.fail) (λ k24 _ => bif Nat.beq k24 0 then ( M.ret (.bool true)) else M.fail) (λ r25 => M.ret r25)
def F.api_Pointer.plan : Plan:=(ls 1 (seq (ls 1 (body (loop [10] [4, 6, 7, 10, 11, 12, 13, 14, 15, 16, 17, 18, 19, 20, 21, 22, 23, 24, 25, 26, 27, 28, 29, 30] [0] (ls 1 (seq (cond leaf leaf) (seq (body (ls 3 (cond (ls 1 leaf) leaf))) leaf)))))) (ls 1 leaf)))
theorem F.api_Pointer.lift : LiftOk Tryz.prog 62 (ap2 F.api_Pointer):=lift2 (g:=evFn Tryz.prog tnil F.clos 62 Tryz.f62 F.api_Pointer.plan) (evFn_sound tnil_ok F.clos_ok Tryz.func62 (by kernel_rfl)) (λ x0 x1 => by kernel_rfl)
noncomputable def F.api_Pointer_64 (a0 a1 a2 : Value) : M Value:=bindO (lenL a1) λ x1 => M.bind (loopM (λ l2 => bindO (binV .lss (getL l2 0) x1) λ x3 => condM x3 ( bindO (idxA 4 a1 (getL l2 0)) λ x4 => M.bind (rdM (ldA 4 x4)) λ x5 => M.bind (newM 165 #[(.string .empty), (.int .i64 0), (.int .i64 0), Value.nilFunc]) λ x6 => M.bind (stM 4 x6 x5) λ _ => drewM <| getM λ _ => bindO (fieldA 0 x6) λ x9 => M.bind (rdM (ld1 x9)) λ x10 => bindO (fieldA 3 x6) λ x11 => M.bind (rdM (ld1 x11)) λ x12 => M.bind (callV F.clos x12 [a2]) λ x13 => getM λ W14 => bindO (nilChk x13) λ x15 => M.bind (rdM (ld1 x15)) λ x16 => M.bind (F.strconv_Itoa x16) λ x17 => getM λ W18 => M.bind (bslM 9 2 (Builtin.zeroCells #[(.string .empty)] 2) [(0, 1, x10), (1, 1, x17)]) λ x19 => getM λ _ => M.bind (F.paper_line a0 x19) λ _ => getM λ _ => reqM (ld1 x9 W14 = some x10) <| reqM (ld1 x9 W18 = some x10) <| bindO (binV .add (getL l2 0) (.int .i64 1)) λ x23 => M.ret (Out.norm [x23])) ( M.ret (Out.exit 0 [(getL l2 0)]))) [(.int .i64 0)]) λ o25 => outK o25 (λ _ => M.fail) (λ k26 _ => bif Nat.beq k26 0 then ( M.ret (Value.tuple #[])) else M.fail) (λ r27 => M.ret r27)
def F.api_Pointer_64.plan : Plan:=(ls 1 (body (loop [10] [7, 10, 11, 12, 13, 14, 15, 16, 17, 18, 19, 20, 21, 22, 23, 24, 25, 26] [0] (ls 1 (seq (cond leaf leaf) (seq (body (ls 1 leaf)) leaf))))))
theorem F.api_Pointer_64.lift : LiftOk Tryz.prog 64 (ap3 F.api_Pointer_64):=lift3 (g:=evFn Tryz.prog (tcons 44 (ap2 F.paper_line) (tcons 48 (ap1 F.strconv_Itoa) tnil)) F.clos 64 Tryz.f64 F.api_Pointer_64.plan) (evFn_sound (tcons_ok F.paper_line.lift (tcons_ok F.strconv_Itoa.lift tnil_ok)) F.clos_ok Tryz.func64 (by kernel_rfl)) (λ x0 x1 x2 => by kernel_rfl)
noncomputable def F.paper_PrintPointer (a0 : Value) : M Value:=M.bind (newM 41 (Value.cells a0)) λ x1 => M.bind (F.paper_pointerFields) λ x2 => M.bind (F.api_Pointer x2 x1) λ x3 => bindO (notV x3) λ x4 => condM x4 ( M.ret (Value.tuple #[(.string (ByteArray.mk #[])), (.int .i64 42)])) ( bindO (buildV #[(.pointer none), (.slice none 0 0)] []) λ x5 => M.bind (newM 93 (Value.cells x5)) λ x6 => M.bind (bslM 9 1 (Builtin.zeroCells #[(.string .empty)] 1) [(0, 1, (.string (ByteArray.mk #[103, 114, 97, 110, 97, 114, 121, 32, 108, 97, 116, 101, 115, 116, 32, 49])))]) λ x7 => M.bind (F.paper_line x6 x7) λ _ => M.bind (F.paper_pointerFields) λ x9 => M.bind (F.api_Pointer_64 x6 x9 x1) λ _ => M.bind (F.paper_closed x6) λ x11 => M.ret (Value.tuple #[x11, (.int .i64 0)]))
def F.paper_PrintPointer.plan : Plan:=(ls 1 (seq (ls 1 (cond (ls 1 leaf) leaf)) (ls 4 leaf)))
theorem F.paper_PrintPointer.lift : LiftOk Tryz.prog 22 (ap1 F.paper_PrintPointer):=lift1 (g:=evFn Tryz.prog (tcons 44 (ap2 F.paper_line) (tcons 46 (ap1 F.paper_closed) (tcons 62 (ap2 F.api_Pointer) (tcons 63 (ap0 F.paper_pointerFields) (tcons 64 (ap3 F.api_Pointer_64) tnil))))) tnil 22 Tryz.f22 F.paper_PrintPointer.plan) (evFn_sound (tcons_ok F.paper_line.lift (tcons_ok F.paper_closed.lift (tcons_ok F.api_Pointer.lift (tcons_ok F.paper_pointerFields.lift (tcons_ok F.api_Pointer_64.lift tnil_ok))))) tnil_ok Tryz.func22 (by kernel_rfl)) (λ x0 => by kernel_rfl)
noncomputable def F.api_Pointer_65 (a0 a1 a2 : Value) : M Value:=bindO (lenL a0) λ x1 => bindO (lenL a1) λ x2 => bindO (binV .neq x1 x2) λ x3 => condM x3 ( M.ret (.bool false)) ( bindO (lenL a1) λ x4 => M.bind (loopM (λ l5 => bindO (binV .lss (getL l5 0) x4) λ x6 => condM x6 ( bindO (idxA 4 a1 (getL l5 0)) λ x7 => M.bind (rdM (ldA 4 x7)) λ x8 => M.bind (newM 165 #[(.string .empty), (.int .i64 0), (.int .i64 0), Value.nilFunc]) λ x9 => M.bind (stM 4 x9 x8) λ _ => drewM <| bindO (idxA 1 a0 (getL l5 0)) λ x11 => M.bind (rdM (ld1 x11)) λ x12 => bindO (fieldA 0 x9) λ x13 => M.bind (rdM (ld1 x13)) λ x14 => M.bind (F.paper_numberOf x12 x14) λ x15 => bindO (extV 0 x15) λ x16 => bindO (extV 1 x15) λ x17 => bindO (notV x17) λ x18 => condM x18 ( M.ret (Out.ret (.bool false))) ( bindO (fieldA 3 x9) λ x19 => M.bind (rdM (ld1 x19)) λ x20 => M.bind (callV F.clos x20 [a2]) λ x21 => bindO (nilChk x21) λ x22 => M.bind (stM 1 x22 x16) λ _ => bindO (binV .add (getL l5 0) (.int .i64 1)) λ x24 => M.ret (Out.norm [x24]))) ( M.ret (Out.exit 0 [(getL l5 0)]))) [(.int .i64 0)]) λ o26 => outK o26 (λ _ => M.fail) (λ k27 _ => bif Nat.beq k27 0 then ( M.ret (.bool true)) else M.fail) (λ r28 => M.ret r28))
def F.api_Pointer_65.plan : Plan:=(ls 1 (seq (ls 1 (cond (ls 1 leaf) leaf)) (seq (ls 1 (body (loop [18] [6, 7, 8, 9, 10, 18, 19, 20, 21, 22, 23, 24, 25, 26, 27, 28, 29, 30, 31, 32, 33, 34, 35, 36, 37, 38, 39, 40, 41] [0] (ls 1 (seq (cond leaf leaf) (seq (body (ls 2 (seq (ls 1 (cond (ls 1 leaf) leaf)) leaf))) leaf)))))) (ls 1 leaf))))
theorem F.api_Pointer_65.lift : LiftOk Tryz.prog 65 (ap3 F.api_Pointer_65):=lift3 (g:=evFn Tryz.prog (tcons 108 (ap2 F.paper_numberOf) tnil) F.clos 65 Tryz.f65 F.api_Pointer_65.plan) (evFn_sound (tcons_ok F.paper_numberOf.lift tnil_ok) F.clos_ok Tryz.func65 (by kernel_rfl)) (λ x0 x1 x2 => by kernel_rfl)
noncomputable def F.paper_ParsePointer (a0 : Value) : M Value:=M.bind (newM 41 #[(.int .i64 0), (.int .i64 0), (.int .i64 0), (.int .i64 0)]) λ x1 => M.bind (F.paper_open a0 (.string (ByteArray.mk #[103, 114, 97, 110, 97, 114, 121, 32, 108, 97, 116, 101, 115, 116, 32, 49]))) λ x2 => bindO (extV 0 x2) λ x3 => bindO (extV 1 x2) λ x4 => bindO (extV 2 x2) λ x5 => M.bind (newM 41 #[(.int .i64 0), (.int .i64 0), (.int .i64 0), (.int .i64 0)]) λ x6 => bindO (notV x5) λ x7 => M.bind (guardM x7 false (M.ret x3)) λ x8 => M.bind (guardM x7 false (F.paper_pointerFields)) λ x9 => M.bind (guardM x7 false (F.api_Pointer_65 x8 x9 x6)) λ x10 => M.bind (guardM x7 false (optM (notV x10))) λ x11 => bindO (pickV x7 (.bool true) x11) λ x12 => condM x12 ( bindO (buildV #[(.int .i64 0), (.int .i64 0), (.int .i64 0), (.int .i64 0)] []) λ x13 => M.bind (stM 4 x1 x13) λ _ => M.bind (rdM (ldA 4 x1)) λ x15 => M.ret (Value.tuple #[x15, (.int .i64 40)])) ( bindO (notV x4) λ x16 => condM x16 ( bindO (buildV #[(.int .i64 0), (.int .i64 0), (.int .i64 0), (.int .i64 0)] []) λ x17 => M.bind (stM 4 x1 x17) λ _ => M.bind (rdM (ldA 4 x1)) λ x19 => M.ret (Value.tuple #[x19, (.int .i64 41)])) ( M.bind (F.paper_pointerFields) λ x20 => M.bind (F.api_Pointer x20 x6) λ x21 => bindO (notV x21) λ x22 => condM x22 ( bindO (buildV #[(.int .i64 0), (.int .i64 0), (.int .i64 0), (.int .i64 0)] []) λ x23 => M.bind (stM 4 x1 x23) λ _ => M.bind (rdM (ldA 4 x1)) λ x25 => M.ret (Value.tuple #[x25, (.int .i64 42)])) ( M.bind (rdM (ldA 4 x6)) λ x26 => M.bind (stM 4 x1 x26) λ _ => M.bind (rdM (ldA 4 x1)) λ x28 => M.ret (Value.tuple #[x28, (.int .i64 0)]))))
def F.paper_ParsePointer.plan : Plan:=(ls 3 (seq (body (ls 1 (cond (ls 1 leaf) (ls 1 (cond (ls 1 leaf) (ls 1 (cond (ls 1 leaf) leaf))))))) (ls 1 leaf)))
theorem F.paper_ParsePointer.lift : LiftOk Tryz.prog 23 (ap1 F.paper_ParsePointer):=lift1 (g:=evFn Tryz.prog (tcons 59 (ap2 F.paper_open) (tcons 62 (ap2 F.api_Pointer) (tcons 63 (ap0 F.paper_pointerFields) (tcons 65 (ap3 F.api_Pointer_65) tnil)))) tnil 23 Tryz.f23 F.paper_ParsePointer.plan) (evFn_sound (tcons_ok F.paper_open.lift (tcons_ok F.api_Pointer.lift (tcons_ok F.paper_pointerFields.lift (tcons_ok F.api_Pointer_65.lift tnil_ok)))) tnil_ok Tryz.func23 (by kernel_rfl)) (λ x0 => by kernel_rfl)
noncomputable def F.granarylaw4_first : M Value:=bindO (buildV #[(.int .i64 0), (.int .i64 0), (.int .i64 0), (.int .i64 0)] [(0, 1, (.int .i64 1)), (2, 1, (.int .i64 1)), (3, 1, (.int .i64 1))]) λ x1 => M.bind (F.paper_PrintPointer x1) λ x2 => bindO (extV 0 x2) λ x3 => bindO (extV 1 x2) λ x4 => M.bind (F.paper_ParsePointer x3) λ x5 => bindO (extV 0 x5) λ x6 => bindO (extV 1 x5) λ x7 => M.bind (newM 41 #[(.int .i64 0), (.int .i64 0), (.int .i64 0), (.int .i64 0)]) λ x8 => M.bind (stM 4 x8 x6) λ _ => M.bind (F.granarylaw4_num x4) λ x10 => bindO (binV .eql x10 (.int .i64 0)) λ x11 => M.bind (guardM x11 true (M.ret x7)) λ x12 => M.bind (guardM x11 true (F.granarylaw4_num x12)) λ x13 => M.bind (guardM x11 true (optM (binV .eql x13 (.int .i64 0)))) λ x14 => bindO (pickV x11 x14 (.bool false)) λ x15 => M.bind (guardM x15 true (rdM (ldA 4 x8))) λ x16 => M.bind (guardM x15 true (optM (buildV #[(.int .i64 0), (.int .i64 0), (.int .i64 0), (.int .i64 0)] [(0, 1, (.int .i64 1)), (2, 1, (.int .i64 1)), (3, 1, (.int .i64 1))]))) λ x17 => M.bind (guardM x15 true (optM (eqV (.offs [(.int, 0), (.int, 1), (.int, 2), (.int, 3)]) x16 x17))) λ x18 => bindO (pickV x15 x18 (.bool false)) λ x19 => M.ret x19
def F.granarylaw4_first.plan : Plan:=(ls 4 leaf)
theorem F.granarylaw4_first.lift : LiftOk Tryz.prog 27 (ap0 F.granarylaw4_first):=lift0 (g:=evFn Tryz.prog (tcons 12 (ap1 F.granarylaw4_num) (tcons 22 (ap1 F.paper_PrintPointer) (tcons 23 (ap1 F.paper_ParsePointer) tnil))) tnil 27 Tryz.f27 F.granarylaw4_first.plan) (evFn_sound (tcons_ok F.granarylaw4_num.lift (tcons_ok F.paper_PrintPointer.lift (tcons_ok F.paper_ParsePointer.lift tnil_ok))) tnil_ok Tryz.func27 (by kernel_rfl)) (by kernel_rfl)
end Go.Proofs.YthlpfhjcdedhgaaGreatDoor
