/-
  THE LIFT, part G: a region over an environment; what it comes to is what the model comes to.
-/
import Derived.Test.YthlpfhjcdedhgaaDoorLiftF
namespace Go.Lift
set_option linter.unusedSimpArgs false

def opM : OpR → M Value
  | .val v => M.ret v
  | .opt x => optM x
  | .rd r => rdM r
  | .act m => m
def bindR {β : Type} (r : OpR) (k : Value → M β) : M β := match r with
  | .val v => k v
  | .opt x => bindO x k
  | .rd r => M.bind (rdM r) k
  | .act m => M.bind m k
def prP (r : OpR) (v : Value) : World → Prop := match r with
  | .rd r => fun W => r W = some v
  | _ => fun _ => True
def guardTmp (ops : Array Oper) (j : Nat) : Option Tmp := (ops[j]?).bind (·.dst)
def dstOK (n : Nat) (d : Option Tmp) : Bool := match d with
  | some d => Nat.blt d n
  | none => true
def isActOp (P : Program) : Op → Bool
  | .move _ | .assign _ | .pick .. | .build .. | .load .. | .nilCheck _ | .binOp .. | .unOp .. | .makeInterface .. | .makeFunc .. | .slice .. | .fieldAddr .. | .field .. | .indexAddr .. | .index .. | .extract .. | .typeAssert .. | .lookup .. => false
  | .convert s d _ => match P.underlying s, P.underlying d with
    | some .string, some (.slice _) => true
    | _, _ => false
  | .call { callee := .builtin .len, .. } | .call { callee := .builtin .cap, .. } => false
  | _ => true
def isRdOp : Op → Bool
  | .load .. | .convert .. | .lookup .. => true
  | _ => false
def isActO (P : Program) (o : Oper) : Bool := isActOp P o.op
def clsOK (P : Program) (o : Oper) : OpR → Bool
  | .rd _ => !isActO P o && isRdOp o.op
  | .act _ => isActO P o
  | _ => !isActO P o

/-- A region's operations, one behind the other ('chk': each is of the sort that its form tells). -/
def evOps {β : Type} (P : Program) (T Tc : Tab) (n : Nat) (ops : Array Oper) (chk : Bool) : List Oper → Env → (Env → M β) → M β
  | [], ρ, k => k ρ
  | o :: rest, ρ, k => bif dstOK n o.dst && (!chk || clsOK P o (opR P T Tc ρ o.op)) then (match o.guard with
    | none => bindR (opR P T Tc ρ o.op) fun v => evOps P T Tc n ops chk rest (updD ρ o.dst v) k
    | some (j, want) => match guardTmp ops j with
      | some t => match ρ t with
        | some g => M.bind (guardM g want (opM (opR P T Tc ρ o.op))) fun v => evOps P T Tc n ops chk rest (updD ρ o.dst v) k
        | none => M.fail
      | none => M.fail) else M.fail

abbrev Log := List (Nat × (World → Prop))
def lookL : Log → Nat → Option (World → Prop)
  | [], _ => none
  | (j, p) :: r, i => bif Nat.beq i j then some p else lookL r i
def addL (o : Oper) (i : Nat) (p : World → Prop) (log : Log) : Log := bif isRdOp o.op then (i, p) :: log else log
/-- Likewise; the looks into memory and the worlds behind the steps are kept. -/
def evOpsL {β : Type} (P : Program) (T Tc : Tab) (n : Nat) (ops : Array Oper) : List Oper → Nat → Env → Log → List World → (Env → Log → List World → M β) → M β
  | [], _, ρ, log, ws, k => k ρ log ws
  | o :: rest, i, ρ, log, ws, k => bif dstOK n o.dst && clsOK P o (opR P T Tc ρ o.op) then (match o.guard with
    | none => bindR (opR P T Tc ρ o.op) fun v => bif isActO P o
      then getM fun W => evOpsL P T Tc n ops rest (i + 1) (updD ρ o.dst v) (addL o i (prP (opR P T Tc ρ o.op) v) log) (ws ++ [W]) k
      else evOpsL P T Tc n ops rest (i + 1) (updD ρ o.dst v) (addL o i (prP (opR P T Tc ρ o.op) v) log) ws k
    | some (j, want) => match guardTmp ops j with
      | some t => match ρ t with
        | some g => M.bind (guardM g want (opM (opR P T Tc ρ o.op))) fun v => bif isActO P o
          then getM fun W => evOpsL P T Tc n ops rest (i + 1) (updD ρ o.dst v) (addL o i (fun W => g = .bool want → prP (opR P T Tc ρ o.op) v W) log) (ws ++ [W]) k
          else evOpsL P T Tc n ops rest (i + 1) (updD ρ o.dst v) (addL o i (fun W => g = .bool want → prP (opR P T Tc ρ o.op) v W) log) ws k
        | none => M.fail
      | none => M.fail) else M.fail

/-- The looks that may be taken elsewhere among the steps: (operation, how many steps are behind). -/
def floats (P : Program) (ops : Array Oper) : List (Nat × Nat) :=
  (List.range ops.size).flatMap fun i => match ops[i]? with
    | some o => bif isRdOp o.op && !isActO P o then ((List.range (hi ops (isActO P) i + 1)).filter fun c => Nat.ble (lo ops (isActO P) i) c && !(Nat.beq c (cn (actAt ops (isActO P)) i))).map fun c => (i, c) else []
    | none => []
noncomputable def checksM {β : Type} (log : Log) (ws : List World) : List (Nat × Nat) → M β → M β
  | [], k => k
  | (i, c) :: r, k => match lookL log i, ws[c]? with
    | some p, some W => reqM (p W) (checksM log ws r k)
    | _, _ => M.fail
noncomputable def evCoreL {β : Type} (P : Program) (T Tc : Tab) (n : Nat) (ops : Array Oper) (ρ : Env) (k : Env → M β) : M β :=
  getM fun W => evOpsL P T Tc n ops ops.toList 0 ρ [] [W] fun ρ' log ws => checksM log ws (floats P ops) (k ρ')
/-- A region in whatever order, behind the draw. -/
noncomputable def evCore {β : Type} (P : Program) (T Tc : Tab) (n : Nat) (ops : Array Oper) (ρ : Env) (k : Env → M β) : M β :=
  bif drawOK ops (isActO P) then (bif (floats P ops).isEmpty then evOps P T Tc n ops true ops.toList ρ k else evCoreL P T Tc n ops ρ k) else M.fail
noncomputable def evDraw {β : Type} (P : Program) (T Tc : Tab) (n : Nat) (ops : Array Oper) (ρ : Env) (k : Env → M β) : M β :=
  bif P.follows .mixedOrders then drewM (evCore P T Tc n ops ρ k) else M.fail
def gYes (g : Value) (want : Bool) : Bool := match g with
  | .bool b => b == want
  | _ => false

section
variable {P : Program} {T Tc : Tab} {n : Nat} {ops : Array Oper} {β : Type}

/-- What an operation came to: its value, the world behind it, and in which worlds it would have come to that value. -/
structure Ev where
  v : Value
  w : World
  p : World → Prop

def StepOK (P : Program) (ops : Array Oper) (o : Oper) (a : Act) (w : World) (e : Ev) : Prop :=
  (Region.wanted o (yielded ops a.tmps) = true → Got P (execOp a.eval o) w e.v e.w ∧
    (isActO P o = false → e.w = w ∧ ∀ W, e.p W → (execOp a.eval o).run P W = .ok (.value e.v) W)) ∧
  (Region.wanted o (yielded ops a.tmps) = false → e.v = undef ∧ e.w = w) ∧
  (isActO P o = false → isRdOp o.op = false → ∀ W, e.p W) ∧ (isActO P o = false → e.p w)

def TrOK (P : Program) (ops : Array Oper) : List Oper → Act → World → List Ev → Prop
  | [], _, _, tr => tr = []
  | o :: rest, a, w, tr => ∃ e tr', tr = e :: tr' ∧ StepOK P ops o a w e ∧ TrOK P ops rest (a.put o.dst e.v) e.w tr'
def endA : List Oper → Act → List Ev → Act
  | o :: rest, a, e :: tr => endA rest (a.put o.dst e.v) tr
  | _, a, _ => a
def endW : World → List Ev → World
  | w, [] => w
  | _, e :: tr => endW e.w tr
def logOf : List Oper → Nat → List Ev → Log
  | o :: rest, i, e :: tr => logOf rest (i + 1) tr ++ (if isRdOp o.op then [(i, e.p)] else [])
  | _, _, _ => []
def worldsOf (P : Program) : List Oper → List Ev → List World
  | o :: rest, e :: tr => (if isActO P o then [e.w] else []) ++ worldsOf P rest tr
  | _, _ => []

theorem Agree.put {a : Act} {ρ : Env} (h : Agree n a ρ) {d : Option Tmp} (hd : dstOK n d = true) (v : Value) : Agree n (a.put d v) (updD ρ d v) := by
  cases d with
  | none => exact h
  | some d =>
    have hlt : d < a.tmps.size := by rw [h.size]; exact Nat.le_of_ble_eq_true hd
    refine ⟨h.defers, by simp [Act.put, h.size], fun t u ht => ?_⟩
    simp only [updD, upd] at ht
    cases hb : Nat.beq t d with
    | true =>
      simp only [hb, cond_true, Option.some.injEq] at ht
      obtain rfl := Nat.eq_of_beq_eq_true hb
      subst ht
      simp [Act.put, hlt]
    | false =>
      simp only [hb, cond_false] at ht
      have hne : d ≠ t := fun e => by subst e; rw [Nat.beq_refl] at hb; cases hb
      simp [Act.put, Array.getElem?_setIfInBounds_ne hne, h.at_ t u ht]

theorem bind_some {α γ : Type} {m : M α} {k : α → M γ} {w : World} {r : γ × World} (h : M.bind m k w = some r) : ∃ v w', m w = some (v, w') ∧ k v w' = some r := by
  unfold M.bind at h
  split at h
  · rename_i x hx; exact ⟨x.1, x.2, hx, h⟩
  · cases h
theorem bindR_some {γ : Type} {m : OpR} {k : Value → M γ} {w : World} {r : γ × World} (h : bindR m k w = some r) : ∃ v w', opM m w = some (v, w') ∧ k v w' = some r := by
  cases m with
  | val v => exact ⟨v, w, rfl, h⟩
  | opt o =>
    cases o with
    | some v => exact ⟨v, w, rfl, h⟩
    | none => cases h
  | rd rr => exact bind_some h
  | act m => exact bind_some h
theorem opM_got {s : Sem Next} {r : OpR} (hS : r.Sound P s) {w w' : World} {v : Value} (h : opM r w = some (v, w')) : Got P s w v w' := by
  cases r with
  | val u' => cases h; exact .inl (hS w)
  | opt o =>
    cases o with
    | some u' => cases h; exact .inl (hS _ rfl w)
    | none => cases h
  | rd rr =>
    simp only [opM, rdM] at h
    split at h
    · rename_i u' hu; cases h; exact .inl (hS w _ hu)
    · cases h
  | act m => exact hS w v w' h
theorem opM_quiet {s : Sem Next} {r : OpR} (hS : r.Sound P s) {w w' : World} {v : Value} (h : opM r w = some (v, w')) (hq : ∀ m, r ≠ .act m) :
    w' = w ∧ (∀ W, prP r v W → s.run P W = .ok (.value v) W) ∧ prP r v w := by
  cases r with
  | val u => cases h; exact ⟨rfl, fun W _ => hS W, trivial⟩
  | opt o =>
    cases o with
    | some u' => cases h; exact ⟨rfl, fun W _ => hS _ rfl W, trivial⟩
    | none => cases h
  | rd rr =>
    simp only [opM, rdM] at h
    split at h
    · rename_i u' hu; cases h; exact ⟨rfl, fun W hW => hS W _ hW, hu⟩
    · cases h
  | act m => exact absurd rfl (hq m)

theorem wanted_guard {a : Act} {ρ : Env} (h : Agree n a ρ) {o : Oper} {j : Nat} {want : Bool} {t : Tmp} {g : Value} (hg : o.guard = some (j, want)) (ht : guardTmp ops j = some t) (hv : ρ t = some g) :
    Region.wanted o (yielded ops a.tmps) = gYes g want := by
  unfold guardTmp at ht
  simp only [Region.wanted, hg, yielded, ht, Option.bind_some, h.at_ t g hv, gYes]
  cases g <;> simp

theorem guardM_some {g : Value} {want : Bool} {m : M Value} {w w' : World} {v : Value} (h : guardM g want m w = some (v, w')) :
    (gYes g want = true ∧ m w = some (v, w') ∧ g = .bool want) ∨ (gYes g want = false ∧ v = undef ∧ w' = w ∧ g ≠ .bool want) := by
  unfold guardM at h
  split at h
  · cases want
    · simp only [cond_false] at h; cases h; exact .inr ⟨rfl, rfl, rfl, by simp⟩
    · simp only [cond_true] at h; exact .inl ⟨rfl, h, rfl⟩
  · cases want
    · simp only [cond_false] at h; exact .inl ⟨rfl, h, rfl⟩
    · simp only [cond_true] at h; cases h; exact .inr ⟨rfl, rfl, rfl, by simp⟩
  · rename_i h1 h2
    cases h
    refine .inr ⟨?_, rfl, rfl, ?_⟩
    · cases g <;> first | rfl | (rename_i b; cases b <;> simp at h1 h2)
    · rintro rfl; cases want <;> simp at h1 h2

theorem clsOK_quiet {o : Oper} {r : OpR} (h : clsOK P o r = true) (hq : isActO P o = false) : ∀ m, r ≠ .act m := by
  rintro m rfl
  simp [clsOK, hq] at h
theorem clsOK_rd {o : Oper} {r : OpR} (h : clsOK P o r = true) (hq : isRdOp o.op = false) (v : Value) (W : World) : prP r v W := by
  cases r <;> first | trivial | simp [clsOK, hq] at h

/-- A slot that no operation writes is as it was. -/
def KeepsR (rest : List Oper) (a a' : Act) : Prop := ∀ t, (∀ o ∈ rest, o.dst ≠ some t) → a'.tmps[t]? = a.tmps[t]?
theorem KeepsR.cons {o : Oper} {rest : List Oper} {a a' : Act} {v : Value} (h : KeepsR rest (a.put o.dst v) a') : KeepsR (o :: rest) a a' := by
  intro t hno
  rw [h t fun x hx => hno x (by simp [hx])]
  cases hd : o.dst with
  | none => rfl
  | some d =>
    have hne : d ≠ t := fun e => hno o (by simp) (by rw [hd, e])
    simp [Act.put, Array.getElem?_setIfInBounds_ne hne]

/-- What the evaluation of a region keeps is a trace of the model's. -/
theorem evOpsL_trace (hT : TabOk P T) (hTc : TabOk P Tc) : ∀ (rest : List Oper) (i : Nat) (ρ : Env) (log : Log) (ws : List World) (k : Env → Log → List World → M β) (w : World) (r : β × World) (a : Act),
    evOpsL P T Tc n ops rest i ρ log ws k w = some r → Agree n a ρ →
    ∃ tr ρ', TrOK P ops rest a w tr ∧ Agree n (endA rest a tr) ρ' ∧ k ρ' (logOf rest i tr ++ log) (ws ++ worldsOf P rest tr) (endW w tr) = some r
  | [], i, ρ, log, ws, k, w, r, a, h, hA => ⟨[], ρ, rfl, hA, by simpa [evOpsL, logOf, worldsOf, endW] using h⟩
  | o :: rest, i, ρ, log, ws, k, w, r, a, h, hA => by
    simp only [evOpsL] at h
    cases hd : (dstOK n o.dst && clsOK P o (opR P T Tc ρ o.op)) with
    | false => simp [hd, M.fail] at h
    | true =>
    simp only [hd, cond_true] at h
    rw [Bool.and_eq_true] at hd
    obtain ⟨hd, hcls⟩ := hd
    have hS := opR_sound hT hTc hA o
    -- the step, once its record is known
    have go : ∀ (e : Ev) (log1 : Log) (ws1 : List World), StepOK P ops o a w e → evOpsL P T Tc n ops rest (i + 1) (updD ρ o.dst e.v) log1 ws1 k e.w = some r →
        log1 = addL o i e.p log → ws1 = ws ++ (if isActO P o then [e.w] else []) →
        ∃ tr ρ', TrOK P ops (o :: rest) a w tr ∧ Agree n (endA (o :: rest) a tr) ρ' ∧ k ρ' (logOf (o :: rest) i tr ++ log) (ws ++ worldsOf P (o :: rest) tr) (endW w tr) = some r := by
      intro e log1 ws1 hst hrun hlog hws
      obtain ⟨tr, ρ', h1, h2, h3⟩ := evOpsL_trace hT hTc rest (i + 1) _ log1 ws1 k e.w r (a.put o.dst e.v) hrun (hA.put hd e.v)
      refine ⟨e :: tr, ρ', ⟨e, tr, rfl, hst, h1⟩, h2, ?_⟩
      subst hlog; subst hws
      cases hrd : isRdOp o.op <;> simpa [logOf, worldsOf, endW, addL, hrd, List.append_assoc] using h3
    cases hg : o.guard with
    | none =>
      have hw : Region.wanted o (yielded ops a.tmps) = true := by simp [Region.wanted, hg]
      simp only [hg] at h
      obtain ⟨v, w', hm, hk⟩ := bindR_some h
      have hst : StepOK P ops o a w ⟨v, w', prP (opR P T Tc ρ o.op) v⟩ := by
        refine ⟨fun _ => ⟨opM_got hS hm, fun hq => ?_⟩, fun hf => ?_, fun hq hr W => clsOK_rd hcls hr v W, fun hq => (opM_quiet hS hm (clsOK_quiet hcls hq)).2.2⟩
        · have := opM_quiet hS hm (clsOK_quiet hcls hq); exact ⟨this.1, this.2.1⟩
        · rw [hw] at hf; cases hf
      cases hact : isActO P o with
      | true => simp only [hact, cond_true, getM] at hk; exact go _ _ _ hst hk rfl (by simp [hact])
      | false => simp only [hact, cond_false] at hk; exact go _ _ _ hst hk rfl (by simp [hact])
    | some jw =>
      obtain ⟨j, want⟩ := jw
      simp only [hg] at h
      cases ht : guardTmp ops j with
      | none => simp [ht, M.fail] at h
      | some t =>
        simp only [ht] at h
        cases hv : ρ t with
        | none => simp [hv, M.fail] at h
        | some g =>
          simp only [hv] at h
          obtain ⟨v, w', hm, hk⟩ := bind_some h
          have hwg := wanted_guard hA hg ht hv
          have hst : StepOK P ops o a w ⟨v, w', fun W => g = .bool want → prP (opR P T Tc ρ o.op) v W⟩ := by
            rcases guardM_some hm with ⟨hb, hm, hgw⟩ | ⟨hb, rfl, rfl, hgw⟩
            · rw [hb] at hwg
              refine ⟨fun _ => ⟨opM_got hS hm, fun hq => ?_⟩, fun hf => ?_, fun hq hr W _ => clsOK_rd hcls hr v W, fun hq _ => (opM_quiet hS hm (clsOK_quiet hcls hq)).2.2⟩
              · have := opM_quiet hS hm (clsOK_quiet hcls hq); exact ⟨this.1, fun W hW => this.2.1 W (hW hgw)⟩
              · rw [hwg] at hf; cases hf
            · rw [hb] at hwg
              exact ⟨fun hf => (by rw [hwg] at hf; cases hf), fun _ => ⟨rfl, rfl⟩, fun _ _ _ hh => absurd hh hgw, fun _ hh => absurd hh hgw⟩
          cases hact : isActO P o with
          | true => simp only [hact, cond_true, getM] at hk; exact go _ _ _ hst hk rfl (by simp [hact])
          | false => simp only [hact, cond_false] at hk; exact go _ _ _ hst hk rfl (by simp [hact])

theorem evOps_trace (hT : TabOk P T) (hTc : TabOk P Tc) {chk : Bool} : ∀ (rest : List Oper) (ρ : Env) (k : Env → M β) (w : World) (r : β × World) (a : Act) {Q : Exit → Act → World → Prop},
    evOps P T Tc n ops chk rest ρ k w = some r → Agree n a ρ → (∀ a' ρ' w', Agree n a' ρ' → KeepsR rest a a' → k ρ' w' = some r → Q .normal a' w') → wpList P ops Q rest a w
  | [], ρ, k, w, r, a, Q, h, hA, hQ => hQ a ρ w hA (fun _ _ => rfl) h
  | o :: rest, ρ, k, w, r, a, Q, h, hA, hQ => by
    simp only [evOps] at h
    cases hd : (dstOK n o.dst && (!chk || clsOK P o (opR P T Tc ρ o.op))) with
    | false => simp [hd, M.fail] at h
    | true =>
    simp only [hd, cond_true] at h
    rw [Bool.and_eq_true] at hd
    replace hd := hd.1
    have hS := opR_sound hT hTc hA o
    unfold wpList
    cases hg : o.guard with
    | none =>
      have hw : Region.wanted o (yielded ops a.tmps) = true := by simp [Region.wanted, hg]
      simp only [hg] at h
      obtain ⟨v, w', hm, hk⟩ := bindR_some h
      rw [if_pos hw]
      exact .inl (upon_got (opM_got hS hm) (evOps_trace hT hTc rest _ k w' r _ hk (hA.put hd v) fun a' ρ' w' h1 h2 h3 => hQ a' ρ' w' h1 h2.cons h3))
    | some jw =>
      obtain ⟨j, want⟩ := jw
      simp only [hg] at h
      cases ht : guardTmp ops j with
      | none => simp [ht, M.fail] at h
      | some t =>
        simp only [ht] at h
        cases hv : ρ t with
        | none => simp [hv, M.fail] at h
        | some g =>
          simp only [hv] at h
          obtain ⟨v, w', hm, hk⟩ := bind_some h
          have hwg := wanted_guard hA hg ht hv
          have hrec := evOps_trace hT hTc rest _ k w' r _ hk (hA.put hd v) fun a' ρ' w' h1 h2 h3 => hQ a' ρ' w' h1 h2.cons h3
          rcases guardM_some hm with ⟨hb, hm, hgw⟩ | ⟨hb, rfl, rfl, hgw⟩
          · rw [hb] at hwg
            rw [if_pos hwg]
            exact .inl (upon_got (opM_got hS hm) hrec)
          · rw [hb] at hwg
            rw [if_neg (by rw [hwg]; simp)]
            exact hrec

/- From the trace of a region's evaluation to the law on orders. -/
def valOf (tr : List Ev) (i : Nat) : Value := match tr[i]? with
  | some e => e.v
  | none => undef

theorem TrOK.length : ∀ {rest : List Oper} {a : Act} {w : World} {tr : List Ev}, TrOK P ops rest a w tr → tr.length = rest.length
  | [], a, w, tr, h => by simp only [TrOK] at h; subst h; rfl
  | o :: rest, a, w, tr, h => by obtain ⟨e, tr', rfl, _, h⟩ := h; simp [h.length]

theorem evOps_L : ∀ (rest : List Oper) (i : Nat) (ρ : Env) (log : Log) (ws : List World) (k : Env → M β),
    evOpsL P T Tc n ops rest i ρ log ws (fun ρ' _ _ => k ρ') = evOps P T Tc n ops true rest ρ k
  | [], i, ρ, log, ws, k => rfl
  | o :: rest, i, ρ, log, ws, k => by
    have e : ∀ (v : Value) (p : World → Prop), (bif isActO P o
        then getM fun W => evOpsL P T Tc n ops rest (i + 1) (updD ρ o.dst v) (addL o i p log) (ws ++ [W]) (fun ρ' _ _ => k ρ')
        else evOpsL P T Tc n ops rest (i + 1) (updD ρ o.dst v) (addL o i p log) ws (fun ρ' _ _ => k ρ')) = evOps P T Tc n ops true rest (updD ρ o.dst v) k := by
      intro v p
      cases isActO P o with
      | true =>
        simp only [cond_true]
        funext w
        simp only [getM, evOps_L rest]
      | false => simp only [cond_false, evOps_L rest]
    simp only [evOpsL, evOps, e, Bool.not_true, Bool.false_or]

theorem checksM_some {log : Log} {ws : List World} {k : M β} {w : World} {r : β × World} : ∀ {fl : List (Nat × Nat)}, checksM log ws fl k w = some r →
    k w = some r ∧ ∀ x ∈ fl, ∃ p W, lookL log x.1 = some p ∧ ws[x.2]? = some W ∧ p W
  | [], h => ⟨h, fun x hx => by cases hx⟩
  | (i, c) :: fl, h => by
    simp only [checksM] at h
    cases hp : lookL log i with
    | none => simp [hp, M.fail] at h
    | some p =>
      cases hW : ws[c]? with
      | none => simp [hp, hW, M.fail] at h
      | some W =>
        simp only [hp, hW] at h
        unfold reqM at h
        by_cases hpW : p W
        · rw [if_pos hpW] at h
          obtain ⟨h1, h2⟩ := checksM_some h
          refine ⟨h1, fun x hx => ?_⟩
          rcases List.mem_cons.1 hx with rfl | hx
          · exact ⟨p, W, hp, hW, hpW⟩
          · exact h2 x hx
        · rw [if_neg hpW] at h; cases h

theorem lookL_append (i : Nat) : ∀ (l1 l2 : Log), lookL (l1 ++ l2) i = match lookL l1 i with
    | some p => some p
    | none => lookL l2 i
  | [], l2 => rfl
  | (j, p) :: l1, l2 => by
    simp only [List.cons_append, lookL]
    cases Nat.beq i j <;> simp [lookL_append i l1 l2]
theorem lookL_below {j : Nat} : ∀ {rest : List Oper} {i : Nat} {tr : List Ev}, j < i → lookL (logOf rest i tr) j = none
  | [], i, tr, h => by cases tr <;> rfl
  | o :: rest, i, [], h => rfl
  | o :: rest, i, e :: tr, h => by
    simp only [logOf]
    rw [lookL_append, lookL_below (by omega)]
    have : Nat.beq j i = false := by
      cases hb : Nat.beq j i with
      | false => rfl
      | true => have := Nat.eq_of_beq_eq_true hb; omega
    cases isRdOp o.op <;> simp [lookL, this]
theorem lookL_at {o : Oper} {e : Ev} : ∀ {rest : List Oper} {i j : Nat} {tr : List Ev}, rest[j]? = some o → tr[j]? = some e → isRdOp o.op = true → lookL (logOf rest i tr) (i + j) = some e.p
  | [], i, j, tr, h, _, _ => by simp at h
  | o' :: rest, i, j, [], _, h, _ => by simp at h
  | o' :: rest, i, 0, e' :: tr, h1, h2, h3 => by
    simp at h1 h2
    subst h1; subst h2
    simp only [logOf]
    rw [lookL_append, lookL_below (by omega)]
    simp [h3, lookL, Nat.beq_refl]
  | o' :: rest, i, j + 1, e' :: tr, h1, h2, h3 => by
    simp at h1 h2
    have := lookL_at (i := i + 1) h1 h2 h3
    simp only [logOf]
    rw [lookL_append, show i + (j + 1) = i + 1 + j by omega, this]

theorem canon_aux {a0 : Act} {w0 : World} {tr : List Ev} : ∀ (rest pre : List Oper) (trp trr : List Ev) (a : Act) (w : World), ops.toList = pre ++ rest → tr = trp ++ trr → trp.length = pre.length →
    TrOK P ops rest a w trr → a = AL ops (valOf tr) a0 (fun _ => true) pre.length → (w0 :: worldsOf P ops.toList tr)[cn (actAt ops (isActO P)) pre.length]? = some w →
    worldsOf P ops.toList tr = worldsOf P pre trp ++ worldsOf P rest trr → (worldsOf P pre trp).length = cn (actAt ops (isActO P)) pre.length →
    (∀ i o, pre.length ≤ i → ops[i]? = some o → ∃ e W W', tr[i]? = some e ∧ (w0 :: worldsOf P ops.toList tr)[cn (actAt ops (isActO P)) i]? = some W ∧ StepOK P ops o (AL ops (valOf tr) a0 (fun _ => true) i) W e ∧
      (isActO P o = true → (w0 :: worldsOf P ops.toList tr)[cn (actAt ops (isActO P)) i + 1]? = some W' ∧ e.w = W')) ∧
    endA rest a trr = AL ops (valOf tr) a0 (fun _ => true) ops.size ∧ (w0 :: worldsOf P ops.toList tr)[cn (actAt ops (isActO P)) ops.size]? = some (endW w trr)
  | [], pre, trp, trr, a, w, hops, htr, hlen, hT, ha, hw, hws, hwl => by
    have hsz : ops.size = pre.length := by rw [← Array.length_toList, hops]; simp
    simp only [TrOK] at hT
    subst hT
    refine ⟨fun i o hi ho => ?_, ?_, ?_⟩
    · have := (Array.getElem?_eq_some_iff.1 ho).1
      omega
    · rw [hsz]; exact ha
    · rw [hsz]; exact hw
  | o :: rest, pre, trp, trr, a, w, hops, htr, hlen, hT, ha, hw, hws, hwl => by
    obtain ⟨e, tr', rfl, hst, hT⟩ := hT
    have ho : ops[pre.length]? = some o := by
      have : ops.toList[pre.length]? = some o := by simp [hops]
      simpa using this
    have he : tr[pre.length]? = some e := by rw [htr, ← hlen]; simp
    have hact : actAt ops (isActO P) pre.length = isActO P o := by simp [actAt, ho]
    have hworlds : worldsOf P (pre ++ [o]) (trp ++ [e]) = worldsOf P pre trp ++ (if isActO P o then [e.w] else []) := by
      clear hws hwl hw ha hT hst he ho htr hact hops
      induction pre generalizing trp with
      | nil =>
        have : trp = [] := by cases trp <;> simp at hlen ⊢
        subst this; simp [worldsOf]
      | cons x pre ih =>
        cases trp with
        | nil => simp at hlen
        | cons y trp =>
          have := ih trp (by simpa using hlen)
          simp [worldsOf, this]
    have hnext : (w0 :: worldsOf P ops.toList tr)[cn (actAt ops (isActO P)) (pre.length + 1)]? = some e.w := by
      simp only [cn, hact]
      cases hq : isActO P o with
      | true =>
        simp only [if_true]
        rw [List.getElem?_cons_succ, hws, List.getElem?_append_right (by omega), hwl]
        simp [worldsOf, hq]
      | false =>
        simp only [Bool.false_eq_true, if_false, Nat.add_zero]
        rw [hw]
        congr 1
        by_cases hwant : Region.wanted o (yielded ops a.tmps) = true
        · exact ((hst.1 hwant).2 hq).1.symm
        · exact (hst.2.1 (by simpa using hwant)).2.symm
    have hA' : a.put o.dst e.v = AL ops (valOf tr) a0 (fun _ => true) (pre ++ [o]).length := by
      simp only [List.length_append, List.length_singleton, AL, if_true]
      rw [← ha]
      simp [dstAt, ho, valOf, he]
    have := canon_aux rest (pre ++ [o]) (trp ++ [e]) tr' (a.put o.dst e.v) e.w (by simp [hops]) (by simp [htr]) (by simp [hlen]) hT hA' (by simpa using hnext)
      (by rw [hworlds, hws]; simp [worldsOf, List.append_assoc]) (by
        rw [hworlds]
        simp only [List.length_append, List.length_singleton, cn, hact, hwl]
        cases isActO P o <;> simp)
    obtain ⟨h1, h2, h3⟩ := this
    refine ⟨fun i oi hi hoi => ?_, h2, h3⟩
    by_cases hip : i = pre.length
    · subst hip
      rw [ho] at hoi; cases hoi
      refine ⟨e, w, e.w, he, hw, by rw [← ha]; exact hst, fun hq => ⟨?_, rfl⟩⟩
      have := hnext
      simp only [cn, hact, hq, if_true] at this
      exact this
    · exact h1 i oi (by simp; omega) hoi

theorem evCoreL_any (hT : TabOk P T) (hTc : TabOk P Tc) {ρ : Env} {k : Env → M β} {w : World} {r : β × World} {a : Act} {Q : Exit → Act → World → Prop} (hok : drawOK ops (isActO P) = true)
    (h : evCoreL P T Tc n ops ρ k w = some r) (hA : Agree n a ρ) (hQ : ∀ a' ρ' w', Agree n a' ρ' → KeepsR ops.toList a a' → k ρ' w' = some r → Q .normal a' w') :
    wpAny P .any ops Q ops.size (Array.replicate ops.size false) a w := by
    unfold evCoreL at h
    simp only [getM] at h
    obtain ⟨tr, ρ', hTr, hA', hk⟩ := evOpsL_trace hT hTc _ _ _ _ _ _ _ _ _ h hA
    simp only [List.append_nil] at hk
    obtain ⟨hk, hfl⟩ := checksM_some hk
    obtain ⟨hstep, hend, hwend⟩ := canon_aux (P := P) (ops := ops) (a0 := a) (w0 := w) (tr := tr) ops.toList [] [] tr a w (by simp) (by simp) rfl hTr rfl rfl (by simp [worldsOf]) rfl
    have C : Canon P ops (isActO P) a (valOf tr) (fun c => ((w :: worldsOf P ops.toList tr)[c]?).getD default) := by
      refine ⟨fun i o ho hw => ?_, fun i o ho hw => ?_⟩
      · obtain ⟨e, W, W', he, hW, hst, hact⟩ := hstep i o (Nat.zero_le _) ho
        have hv : valOf tr i = e.v := by simp [valOf, he]
        have hgot := hst.1 hw
        refine ⟨fun hq => ?_, fun hq c hlo hhi => ?_⟩
        · obtain ⟨h1, h2⟩ := hact hq
          simp only [hW, h1, hv, Option.getD_some, ← h2]
          exact hgot.1
        · obtain ⟨hweq, hall⟩ := hgot.2 hq
          rw [hv]
          refine hall _ ?_
          cases hrd : isRdOp o.op with
          | false => exact hst.2.2.1 hq hrd _
          | true =>
            by_cases hc : c = cn (actAt ops (isActO P)) i
            · subst hc
              simp only [hW, Option.getD_some]
              exact hst.2.2.2 hq
            · have hmem : (i, c) ∈ floats P ops := by
                have hlt : i < ops.size := (Array.getElem?_eq_some_iff.1 ho).1
                simp only [floats, List.mem_flatMap, List.mem_range]
                refine ⟨i, hlt, ?_⟩
                simp only [ho, hrd, hq, Bool.not_false, Bool.and_self, cond_true, List.mem_map, List.mem_filter, List.mem_range, Prod.mk.injEq, true_and, exists_eq_right]
                refine ⟨by omega, ?_⟩
                rw [Bool.and_eq_true]
                refine ⟨Nat.ble_eq_true_of_le hlo, ?_⟩
                cases hb : Nat.beq c (cn (actAt ops (isActO P)) i) with
                | false => rfl
                | true => exact absurd (Nat.eq_of_beq_eq_true hb) hc
              obtain ⟨p, W2, hp, hW2, hpW⟩ := hfl _ hmem
              have hl := lookL_at (i := 0) (rest := ops.toList) (tr := tr) (j := i) (by simpa using ho) he hrd
              rw [Nat.zero_add] at hl
              rw [hl] at hp
              cases hp
              have hW3 : (w :: worldsOf P ops.toList tr)[c]? = some W2 := by simpa using hW2
              simp only [hW3, Option.getD_some]
              exact hpW
      · obtain ⟨e, W, W', he, hW, hst, hact⟩ := hstep i o (Nat.zero_le _) ho
        have hv : valOf tr i = e.v := by simp [valOf, he]
        obtain ⟨h1, h2⟩ := hst.2.1 hw
        refine ⟨by rw [hv, h1], fun hq => ?_⟩
        obtain ⟨h3, h4⟩ := hact hq
        simp only [hW, h3, Option.getD_some, ← h4, h2]
    refine draw_all hok C rfl (hQ _ ρ' _ ?_ (fun t hno => ?_) ?_)
    · rw [← hend]; exact hA'
    · have h1 := AL_at (ops := ops) (val := valOf tr) (a := a) (p := fun _ => true) (q := fun _ => false) (t := t) (k := ops.size) fun j hj hd => by
        exfalso
        have ho : ops.toList[j]? = some ops[j] := by simp [hj]
        refine hno ops[j] (List.mem_of_getElem? ho) ?_
        simpa [dstAt, hj] using hd
      rw [h1]
      have h2 : ∀ k, AL ops (valOf tr) a (fun _ => false) k = a := by
        intro k
        induction k with
        | zero => rfl
        | succ k ih => simp only [AL, Bool.false_eq_true, if_false]; exact ih
      rw [h2]
    · simp only [hwend, Option.getD_some]
      exact hk

theorem evCore_any (hT : TabOk P T) (hTc : TabOk P Tc) {ρ : Env} {k : Env → M β} {w : World} {r : β × World} {a : Act} {Q : Exit → Act → World → Prop}
    (h : evCore P T Tc n ops ρ k w = some r) (hA : Agree n a ρ) (hQ : ∀ a' ρ' w', Agree n a' ρ' → KeepsR ops.toList a a' → k ρ' w' = some r → Q .normal a' w') :
    wpAny P .any ops Q ops.size (Array.replicate ops.size false) a w := by
  unfold evCore at h
  cases hok : drawOK ops (isActO P) with
  | false => simp [hok, M.fail] at h
  | true =>
    simp only [hok, cond_true] at h
    refine evCoreL_any hT hTc (ρ := ρ) (k := k) (r := r) hok ?_ hA hQ
    cases hf : (floats P ops).isEmpty with
    | false => simp only [hf, cond_false] at h; exact h
    | true =>
      simp only [hf, cond_true] at h
      unfold evCoreL
      simp only [List.isEmpty_iff.1 hf, checksM, getM]
      rw [← h]
      rw [evOps_L]

theorem evDraw_sound (hT : TabOk P T) (hTc : TabOk P Tc) {id : Nat} {ρ : Env} {k : Env → M β} {w : World} {r : β × World} {a : Act} {Q : Exit → Act → World → Prop}
    (h : evDraw P T Tc n ops ρ k w = some r) (hA : Agree n a ρ) (hQ : ∀ a' ρ' w', Agree n a' ρ' → KeepsR ops.toList a a' → k ρ' w' = some r → Q .normal a' w') : (Code.region id ops true).wp P Q a w := by
  unfold evDraw at h
  cases hm : P.follows .mixedOrders with
  | false => simp [hm, M.fail] at h
  | true =>
    simp only [hm, cond_true, drewM] at h
    exact wp_region_any hm (evCore_any hT hTc h hA hQ)

theorem evReg_sound (hT : TabOk P T) (hTc : TabOk P Tc) {id : Nat} {ρ : Env} {k : Env → M β} {w : World} {r : β × World} {a : Act} {Q : Exit → Act → World → Prop}
    (h : evOps P T Tc n ops false ops.toList ρ k w = some r) (hA : Agree n a ρ) (hQ : ∀ a' ρ' w', Agree n a' ρ' → KeepsR ops.toList a a' → k ρ' w' = some r → Q .normal a' w') : (Code.region id ops false).wp P Q a w :=
  wp_region_list (evOps_trace hT hTc _ _ _ _ _ _ h hA hQ)

end
end Go.Lift
