/-
  THE LIFT, part E: one operation, read over an environment: what it comes to, and that this is the model's.
-/
import Derived.Test.YthlpfhjcdedhgaaDoorLiftM
namespace Go.Lift
set_option linter.unusedSimpArgs false

abbrev Env := Nat → Option Value
def upd (ρ : Env) (d : Nat) (v : Value) : Env := fun t => bif Nat.beq t d then some v else ρ t
def updD (ρ : Env) (d : Option Nat) (v : Value) : Env := match d with
  | some d => upd ρ d v
  | none => ρ
def ev (ρ : Env) : Operand → Option Value
  | .tmp t => ρ t
  | .const v => some v
  | .global g => some (.pointer (some ⟨g, 0, none⟩))
  | .func f => some (.func (.func f) #[] #[])
def evs (ρ : Env) : List Operand → Option (List Value)
  | [] => some []
  | x :: r => match ev ρ x with
    | some v => match evs ρ r with
      | some l => some (v :: l)
      | none => none
    | none => none

/-- What an operation comes to: a value; a value or no way on, whatever the world; a look into the world; a step. -/
inductive OpR where
  | val (v : Value)
  | opt (o : Option Value)
  | rd (r : World → Option Value)
  | act (m : M Value)

abbrev Tab := FuncId → List Value → M Value
def ap0 (g : M Value) : List Value → M Value
  | [] => g
  | _ => M.fail
def ap1 (g : Value → M Value) : List Value → M Value
  | [a] => g a
  | _ => M.fail
def ap2 (g : Value → Value → M Value) : List Value → M Value
  | [a, b] => g a b
  | _ => M.fail
def ap3 (g : Value → Value → Value → M Value) : List Value → M Value
  | [a, b, c] => g a b c
  | _ => M.fail
def ap4 (g : Value → Value → Value → Value → M Value) : List Value → M Value
  | [a, b, c, d] => g a b c d
  | _ => M.fail
def ap5 (g : Value → Value → Value → Value → Value → M Value) : List Value → M Value
  | [a, b, c, d, e] => g a b c d e
  | _ => M.fail
def ap6 (g : Value → Value → Value → Value → Value → Value → M Value) : List Value → M Value
  | [a, b, c, d, e, f] => g a b c d e f
  | _ => M.fail
def ap7 (g : Value → Value → Value → Value → Value → Value → Value → M Value) : List Value → M Value
  | [a, b, c, d, e, f, h] => g a b c d e f h
  | _ => M.fail
def ap8 (g : Value → Value → Value → Value → Value → Value → Value → Value → M Value) : List Value → M Value
  | [a, b, c, d, e, f, h, i] => g a b c d e f h i
  | _ => M.fail
/-- A call of a function value. -/
def callV (T : Tab) (f : Value) (args : List Value) : M Value := match f with
  | .func (.func k) first captured => T k (first.toList ++ args ++ captured.toList)
  | _ => M.fail

def o1 (ρ : Env) (x : Operand) (f : Value → OpR) : OpR := match ev ρ x with
  | some v => f v
  | none => .act M.fail
def oL (ρ : Env) (x : List Operand) (f : List Value → OpR) : OpR := match evs ρ x with
  | some v => f v
  | none => .act M.fail
def oO {α : Type} (x : Option α) (f : α → OpR) : OpR := match x with
  | some v => f v
  | none => .act M.fail
def oB (ρ : Env) (x : Option Operand) (f : Option Value → OpR) : OpR := match x with
  | some x => o1 ρ x fun v => f (some v)
  | none => f none
def partsR (ρ : Env) (place : Nat → Option (Nat × Nat)) : List (Nat × Operand) → Option (List (Nat × Nat × Value))
  | [] => some []
  | (i, x) :: r => match place i, ev ρ x with
    | some q, some v => match partsR ρ place r with
      | some l => some ((q.1, q.2, v) :: l)
      | none => none
    | _, _ => none
def zeroOf (P : Program) (t : TypeId) : Option (Array Value × Nat × Nat) := match P.info? t with
  | some i => match i.zero with
    | some z => some (z.cells, i.size, i.bytes)
    | none => none
  | none => none
def zeroW (P : Program) (t : TypeId) : Option Value := match P.info? t with
  | some i => i.zero
  | none => none
def sizeT (P : Program) (t : TypeId) : Option Nat := match P.info? t with
  | some i => some i.size
  | none => none
def fieldT (P : Program) (t : TypeId) (k : Nat) : Option Field := match P.underlying t with
  | some (.struct fs) => fs[k]?
  | _ => none
def binR (P : Program) (op : BinOp) (t : TypeId) (x y : Value) : OpR := match op with
  | .shl => .opt (shV .shl x y)
  | .shr => .opt (shV .shr x y)
  | .eql => oO (eqShape P t) fun sh => match sh with
    | .one .int => .opt (binV .eql x y)
    | .one .str => .opt (binV .eql x y)
    | sh => .opt (eqV sh x y)
  | .neq => oO (eqShape P t) fun sh => match sh with
    | .one .int => .opt (binV .neq x y)
    | .one .str => .opt (binV .neq x y)
    | sh => .opt (neV sh x y)
  | op => .opt (binV op x y)
def methR (P : Program) (t : TypeId) (name : String) : Option (FuncId × Option Nat) := match P.info? t with
  | some i => match i.methods.find? (·.name == name) with
    | some m => match m.func, m.path.toList, P.underlying t with
      | some (f, true), [], some (.pointer _) => some (f, none)
      | some (_, false), [], some (.pointer _) => none
      | some (f, false), [], some _ => some (f, none)
      | some (f, true), [s], some (.pointer _) => bif s.deref then match fieldT P s.struct s.index with
        | some fd => match P.underlying fd.type, sizeT P fd.type with
          | some (.struct _), some n => bif Nat.beq n 0 then none else some (f, some fd.offset)
          | _, _ => none
        | none => none
        else none
      | _, _, _ => none
    | none => none
  | none => none
/-- The smaller, the greater of two numbers. -/
def minV : Value → Value → Option Value
  | .int k x, .int _ y => some (.int k (if y < x then y else x))
  | _, _ => none
def min3V (x y z : Value) : Option Value := match minV x y with
  | some m => minV m z
  | none => none
def maxV : Value → Value → Option Value
  | .int k x, .int _ y => some (.int k (if y > x then y else x))
  | _, _ => none
/-- The first cell's address of a slice that has room; the text over bytes. -/
def sdV : Value → Option Value
  | .slice none _ _ => some (.pointer none)
  | .slice (some a) _ c => if c ≠ 0 then some (.pointer (some a)) else none
  | _ => none
def usM (P : Program) (ts : List TypeId) (p n : Value) : M Value := fun w => match (Builtin.unsafeString_ ts.toArray 0 #[p, n]).run P w with
  | .ok v w' => some (v, w')
  | _ => none
/-- A call through an interface value. -/
def invV (P : Program) (T : Tab) (name : String) (recv : Value) (args : List Value) : M Value := match recv with
  | .iface t v => match methR P t name with
    | some (f, none) => T f (v :: args)
    | some (f, some off) => match fieldA off v with
      | some p => T f (p :: args)
      | none => M.fail
    | none => M.fail
  | _ => M.fail
def isConst : Operand → Bool
  | .const _ => true
  | _ => false
def isIface (P : Program) (t : TypeId) : Bool := match P.underlying t with
  | some (.interface _) => true
  | _ => false
/-- An interface value held against the literal nil, and all else. -/
def binQ (P : Program) (op : BinOp) (t : TypeId) (lit : Bool) (x y : Value) : OpR := bif lit && isIface P t then (match op with
  | .eql => .opt (eqV (.one .ifn) x y)
  | .neq => .opt (neV (.one .ifn) x y)
  | _ => .act M.fail) else binR P op t x y
def callR (P : Program) (T Tc : Tab) (ρ : Env) (c : Call) : OpR := match c.callee with
  | .value (.func f) => oL ρ c.args.toList fun vs => .act (T f vs)
  | .value x => o1 ρ x fun v => oL ρ c.args.toList fun vs => .act (callV Tc v vs)
  | .invoke r m => o1 ρ r fun v => oL ρ c.args.toList fun vs => .act (invV P Tc m v vs)
  | .builtin .len => match c.args.toList, c.argTypes.toList with
    | [x], [t] => match P.underlying t with
      | some .string => o1 ρ x fun v => .opt (lenS v)
      | some (.slice _) => o1 ρ x fun v => .opt (lenL v)
      | some (.array n _) => .val (.int .i64 n)
      | _ => .act M.fail
    | _, _ => .act M.fail
  | .builtin .cap => match c.args.toList, c.argTypes.toList with
    | [x], [t] => match P.underlying t with
      | some (.slice _) => o1 ρ x fun v => .opt (capV v)
      | _ => .act M.fail
    | _, _ => .act M.fail
  | .builtin .append => match c.args.toList, c.argTypes.toList with
    | [s, x], [t, u] => match P.underlying t, P.underlying u with
      | some (.slice e), some (.slice _) | some (.slice e), some .string => o1 ρ s fun s => o1 ρ x fun x => oO (zeroOf P e) fun z => .act (appM e z.2.1 z.2.2 z.1 s x)
      | _, _ => .act M.fail
    | _, _ => .act M.fail
  | .builtin .delete => match c.args.toList, c.argTypes.toList with
    | [m, k], [t, _] => match P.underlying t with
      | some (.map kt _) => o1 ρ m fun m => o1 ρ k fun k => oO (eqShape P kt) fun sh => .act (delM P kt sh m k)
      | _ => .act M.fail
    | _, _ => .act M.fail
  | .builtin .min => match c.args.toList with
    | [x, y] => o1 ρ x fun x => o1 ρ y fun y => .act (optM (minV x y))
    | [x, y, z] => o1 ρ x fun x => o1 ρ y fun y => o1 ρ z fun z => .act (optM (min3V x y z))
    | _ => .act M.fail
  | .builtin .max => match c.args.toList with
    | [x, y] => o1 ρ x fun x => o1 ρ y fun y => .act (optM (maxV x y))
    | _ => .act M.fail
  | .builtin .unsafeSliceData => match c.args.toList with
    | [x] => o1 ρ x fun x => .act (optM (sdV x))
    | _ => .act M.fail
  | .builtin .unsafeString => match c.args.toList with
    | [x, y] => o1 ρ x fun x => o1 ρ y fun y => .act (usM P c.argTypes.toList x y)
    | _ => .act M.fail
  | .builtin .copy => match c.args.toList, c.argTypes.toList with
    | [d, s], [t, _] => match P.underlying t with
      | some (.slice e) => o1 ρ d fun d => o1 ρ s fun s => oO (sizeT P e) fun n => .act (cpyM n d s)
      | _ => .act M.fail
    | _, _ => .act M.fail
  | _ => .act M.fail
def convR (P : Program) (src dst : TypeId) (v : Value) : OpR := match P.underlying src, P.underlying dst with
  | some (.int _), some (.int k) => .opt (cvtI k v)
  | some .string, some .string => .opt (cvtS v)
  | some .string, some (.slice e) => match P.underlying e with
    | some (.int .u8) => .act (sbM e v)
    | _ => .act M.fail
  | some (.slice e), some .string => match P.underlying e with
    | some (.int .u8) => .rd (bsR v)
    | _ => .act M.fail
  | _, _ => .act M.fail
/-- x.(T), T no interface. -/
def asrV (ok : Bool) (z : Value) (t : TypeId) (x : Value) : Option Value := match x with
  | .iface t' v => bif Nat.beq t' t then some (bif ok then .tuple #[v, .bool true] else v) else (bif ok then some (.tuple #[z, .bool false]) else none)
  | .nilIface => bif ok then some (.tuple #[z, .bool false]) else none
  | _ => none
def asrR (P : Program) (ok : Bool) (t : TypeId) (x : Value) : OpR := match P.underlying t with
  | some (.interface _) => .act M.fail
  | some _ => match P.info? t with
    | some i => match i.zero with
      | some z => .opt (asrV ok z t x)
      | none => .act M.fail
    | none => .act M.fail
  | none => .act M.fail
/-- One operation over an environment. 'T': what functions come to; 'Tc': what function values come to. -/
def opR (P : Program) (T Tc : Tab) (ρ : Env) (op : Op) : OpR := match op with
  | .move x => o1 ρ x .val
  | .assign x => o1 ρ x .val
  | .pick c a b => o1 ρ c fun c => o1 ρ a fun a => o1 ρ b fun b => .opt (pickV c a b)
  | .alloc t => oO (zeroOf P t) fun z => .act (newM t z.1)
  | .box t x => o1 ρ x fun v => .act (newM t v.cells)
  | .build t parts => oO (placeOf P t) fun z => oO (partsR ρ z.2 parts.toList) fun l => .opt (buildV z.1 l)
  | .buildSlice t len parts => match P.underlying t with
    | some (.slice e) => oO (zeroOf P e) fun z => oO (partsR ρ (fun i => some (i * z.2.1, z.2.1)) parts.toList) fun l =>
      bif Nat.beq z.1.size z.2.1 && Nat.ble (len * z.2.1) 16777216 then .act (bslM e len (Builtin.zeroCells z.1 len) l) else .act M.fail
    | _ => .act M.fail
  | .load t a => oO (aggOf P t) fun g => o1 ρ a fun p => .rd (ldT g p)
  | .store t a x => oO (sizeT P t) fun n => o1 ρ a fun p => o1 ρ x fun v => .act (stM n p v)
  | .nilCheck x => o1 ρ x fun v => .opt (nilChk v)
  | .binOp op t x y _ => o1 ρ x fun vx => o1 ρ y fun vy => binQ P op t (isConst x || isConst y) vx vy
  | .unOp .not _ x => o1 ρ x fun v => .opt (notV v)
  | .unOp .neg _ x => o1 ρ x fun v => .opt (negV v)
  | .unOp .xor _ x => o1 ρ x fun v => .opt (cplV v)
  | .convert src dst x => o1 ρ x fun v => convR P src dst v
  | .makeInterface t x => match P.underlying t with
    | some (.interface _) => .act M.fail
    | some _ => o1 ρ x fun v => .val (.iface t v)
    | none => .act M.fail
  | .makeFunc fn first captured => oL ρ first.toList fun a => oL ρ captured.toList fun b => .val (.func fn a.toArray b.toArray)
  | .makeSlice t l c => match P.underlying t with
    | some (.slice e) => o1 ρ l fun l => o1 ρ c fun c => oO (zeroOf P e) fun z => .act (mksM e z.2.1 z.2.2 z.1 l c)
    | _ => .act M.fail
  | .slice t x lo hi none => o1 ρ x fun x => oB ρ lo fun lo => oB ρ hi fun hi => match P.underlying t with
    | some (.slice e) => oO (sizeT P e) fun n => .opt (sliceV n x lo hi)
    | some .string => .opt (sliceS x lo hi)
    | some (.array k e) => oO (sizeT P e) fun n => .opt (sliceR k n x lo hi)
    | _ => .act M.fail
  | .slice t x lo (some hi) (some mx) => o1 ρ x fun x => oB ρ lo fun lo => o1 ρ hi fun hi => o1 ρ mx fun mx => match P.underlying t with
    | some (.slice e) => oO (sizeT P e) fun n => .opt (sliceV3 n x lo hi mx)
    | _ => .act M.fail
  | .typeAssert x _ t ok => o1 ρ x fun v => asrR P ok t v
  | .fieldAddr s x f => oO (fieldT P s f) fun f => oO (sizeT P f.type) fun n => bif Nat.beq n 0 then .act M.fail else o1 ρ x fun p => .opt (fieldA f.offset p)
  | .field s x f => oO (fieldT P s f) fun f => oO (aggOf P f.type) fun g => o1 ρ x fun v => .opt (fieldV g f.offset v)
  | .indexAddr t x ix => o1 ρ x fun x => o1 ρ ix fun ix => match P.underlying t with
    | some (.slice e) => oO (sizeT P e) fun n => .opt (idxA n x ix)
    | some (.array k e) => oO (sizeT P e) fun n => .opt (idxR k n x ix)
    | _ => .act M.fail
  | .index t x ix => o1 ρ x fun x => o1 ρ ix fun ix => match P.underlying t with
    | some .string => .opt (idxS x ix)
    | some (.array k e) => oO (sizeT P e) fun n => oO (aggOf P e) fun g => .opt (idxG g k n x ix)
    | _ => .act M.fail
  | .extract x i => o1 ρ x fun v => .opt (extV i v)
  | .makeMap _ none => .act mkmM
  | .lookup t m k ok => match P.underlying t with
    | some (.map kt e) => oO (eqShape P kt) fun sh => oO (zeroW P e) fun z => o1 ρ m fun m => o1 ρ k fun k => .rd (lookV P kt sh z ok m k)
    | _ => .act M.fail
  | .mapUpdate t m k x => match P.underlying t with
    | some (.map kt _) => oO (eqShape P kt) fun sh => o1 ρ m fun m => o1 ρ k fun k => o1 ρ x fun v => .act (updM P kt sh m k v)
    | _ => .act M.fail
  | .range t x => match P.underlying t with
    | some (.map _ _) => o1 ρ x fun v => .act (rngM v)
    | _ => .act M.fail
  | .next it false => o1 ρ it fun v => .act (nxtM v)
  | .entry it => o1 ρ it fun v => .act (rdM (entV v))
  | .mapEntry t m k => match P.underlying t with
    | some (.map kt e) => oO (eqShape P kt) fun sh => oO (zeroW P e) fun z => o1 ρ m fun m => o1 ρ k fun k => .act (mentM P kt sh z m k)
    | _ => .act M.fail
  | .entryStore _ m s x => o1 ρ m fun m => o1 ρ s fun s => o1 ρ x fun v => .act (estM m s v)
  | .call c => callR P T Tc ρ c
  | _ => .act M.fail

/-- The step s got the value v and the world w'. -/
def Got (P : Program) (s : Sem Next) (w : World) (v : Value) (w' : World) : Prop :=
  s.run P w = .ok (.value v) w' ∨ (v = undef ∧ s.run P w = .ok .skip w') ∨
    ∃ f args w1, s.run P w = .ok (.enter f args) w1 ∧ Calls P f args w1 (fun e w'' => e = .returned v ∧ w'' = w')
def TabOk (P : Program) (T : Tab) : Prop := ∀ f args w v w', T f args w = some (v, w') → Got P (callFunc f args.toArray) w v w'
def OpR.Sound (P : Program) (s : Sem Next) : OpR → Prop
  | .val v => ∀ w, s.run P w = .ok (.value v) w
  | .opt x => ∀ v, x = some v → ∀ w, s.run P w = .ok (.value v) w
  | .rd r => ∀ w v, r w = some v → s.run P w = .ok (.value v) w
  | .act m => ∀ w v w', m w = some (v, w') → Got P s w v w'

structure Agree (n : Nat) (a : Act) (ρ : Env) : Prop where
  defers : a.defers = []
  size : a.tmps.size = n
  at_ : ∀ t v, ρ t = some v → a.tmps[t]? = some v

section
variable {P : Program} {n : Nat} {a : Act} {ρ : Env} {s : Sem Next}

theorem Agree.eval (h : Agree n a ρ) {x : Operand} {v : Value} (hx : ev ρ x = some v) : a.eval x = v := by
  cases x with
  | tmp t => simp [Act.eval, h.at_ t v hx]
  | const u => simpa [ev, Act.eval] using hx
  | «global» g => simpa [ev, Act.eval] using hx
  | func f => simpa [ev, Act.eval] using hx

theorem Agree.evals (h : Agree n a ρ) : ∀ {xs : List Operand} {vs : List Value}, evs ρ xs = some vs → xs.map a.eval = vs
  | [], vs, hx => by simp [evs] at hx; subst hx; rfl
  | x :: r, vs, hx => by
    simp only [evs] at hx
    split at hx
    · rename_i v hv
      split at hx
      · rename_i l hl
        cases hx
        simp [h.eval hv, h.evals hl]
      · cases hx
    · cases hx

theorem sound_fail : (OpR.act M.fail).Sound P s := fun _ _ _ h => by cases h
theorem o1_sound (h : Agree n a ρ) {x : Operand} {f : Value → OpR} (hf : (f (a.eval x)).Sound P s) : (o1 ρ x f).Sound P s := by
  unfold o1
  split
  · rename_i v hv; rw [h.eval hv] at hf; exact hf
  · exact sound_fail
theorem oL_sound (h : Agree n a ρ) {x : List Operand} {f : List Value → OpR} (hf : (f (x.map a.eval)).Sound P s) : (oL ρ x f).Sound P s := by
  unfold oL
  split
  · rename_i v hv; rw [h.evals hv] at hf; exact hf
  · exact sound_fail
theorem oO_sound {α : Type} {x : Option α} {f : α → OpR} (hf : ∀ v, x = some v → (f v).Sound P s) : (oO x f).Sound P s := by
  cases x with
  | some v => exact hf v rfl
  | none => exact sound_fail
theorem oB_sound (h : Agree n a ρ) {x : Option Operand} {f : Option Value → OpR} (hf : (f (x.map a.eval)).Sound P s) : (oB ρ x f).Sound P s := by
  unfold oB
  cases x with
  | none => exact hf
  | some x => exact o1_sound h hf

theorem partsR_eq (h : Agree n a ρ) {place : Nat → Option (Nat × Nat)} : ∀ {ps : List (Nat × Operand)} {l : List (Nat × Nat × Value)}, partsR ρ place ps = some l →
    (ps.map fun p => (p.1, a.eval p.2)).mapM (fun p => (place p.1).map fun q => (q.1, q.2, p.2)) = some l
  | [], l, hx => by simp [partsR] at hx; subst hx; rfl
  | (i, x) :: r, l, hx => by
    simp only [partsR] at hx
    split at hx
    · rename_i q v hq hv
      split at hx
      · rename_i l' hl
        cases hx
        simp [hq, h.eval hv, partsR_eq h hl]
      · cases hx
    · cases hx

theorem sizeT_info {t : TypeId} {k : Nat} (h : sizeT P t = some k) : ∃ i, P.info? t = some i ∧ i.size = k := by
  unfold sizeT at h
  split at h
  · rename_i i hi; cases h; exact ⟨i, hi, rfl⟩
  · cases h
theorem zeroOf_info {t : TypeId} {z : Array Value × Nat × Nat} (h : zeroOf P t = some z) : ∃ i v, P.info? t = some i ∧ i.zero = some v ∧ z = (v.cells, i.size, i.bytes) := by
  unfold zeroOf at h
  split at h
  · rename_i i hi
    split at h
    · rename_i v hv; cases h; exact ⟨i, v, hi, hv, rfl⟩
    · cases h
  · cases h
theorem fieldT_info {t : TypeId} {k : Nat} {f : Field} (h : fieldT P t k = some f) : ∃ fs, P.underlying t = some (.struct fs) ∧ fs[k]? = some f := by
  unfold fieldT at h
  split at h
  · rename_i fs hu; exact ⟨fs, hu, h⟩
  · cases h

theorem binR_sound {op : BinOp} {t yt : TypeId} {x y : Operand} {o : Oper} (ho : o.op = .binOp op t x y yt) : (binR P op t (a.eval x) (a.eval y)).Sound P (execOp a.eval o) := by
  have plain : op ≠ .eql → op ≠ .neq → ∀ v, binV op (a.eval x) (a.eval y) = some v → ∀ w, (execOp a.eval o).run P w = .ok (.value v) w := by
    intro h1 h2 v hv w
    have hg : eqGuard op t x y (a.eval x) (a.eval y) = pure () := by cases op <;> first | rfl | exact absurd rfl h1 | exact absurd rfl h2
    simp only [binV] at hv
    split at hv
    · rename_i k p k' q hx hy
      split at hv
      · rename_i hk
        subst hk
        rw [hx, hy] at hg
        simp [execOp, ho, hg, hx, hy, run_intBin hv]
      · cases hv
    · rename_i p q hx hy
      rw [hx, hy] at hg
      simp [execOp, ho, hg, hx, hy, run_strBin hv]
    · cases hv
  have cmp : op = .eql ∨ op = .neq → ∀ v, binV op (a.eval x) (a.eval y) = some v → ∀ w, (execOp a.eval o).run P w = .ok (.value v) w := by
    intro h1 v hv w
    simp only [binV] at hv
    split at hv
    · rename_i k p k' q hx hy
      split at hv
      · rename_i hk
        subst hk
        have hg : eqGuard op t x y (.int k p) (.int k q) = pure () := eqGuard_at_int _ _ _ _ _ _ _
        simp [execOp, ho, hx, hy, hg, run_intBin hv]
      · cases hv
    · rename_i p q hx hy
      have hg : eqGuard op t x y (.string p) (.string q) = pure () := eqGuard_at_string _ _ _ _ _ _
      simp [execOp, ho, hx, hy, hg, run_strBin hv]
    · cases hv
  have eqs : ∀ sh, eqShape P t = some sh → op = .eql → (OpR.opt (eqV sh (a.eval x) (a.eval y))).Sound P (execOp a.eval o) := by
    intro sh hsh hop v hv w
    subst hop
    simp only [eqV] at hv
    split at hv
    · rename_i b hb
      cases hv
      have := run_eqlV hsh hb x y .eql w
      simp [execOp, ho, this.1, this.2.1]
    · cases hv
  have nes : ∀ sh, eqShape P t = some sh → op = .neq → (OpR.opt (neV sh (a.eval x) (a.eval y))).Sound P (execOp a.eval o) := by
    intro sh hsh hop v hv w
    subst hop
    simp only [neV] at hv
    split at hv
    · rename_i b hb
      cases hv
      have := run_eqlV hsh hb x y .neq w
      simp [execOp, ho, this.1, this.2.2]
    · cases hv
  have sh : op = .shl ∨ op = .shr → ∀ v, shV op (a.eval x) (a.eval y) = some v → ∀ w, (execOp a.eval o).run P w = .ok (.value v) w := by
    intro h1 v hv w
    have hg : eqGuard op t x y (a.eval x) (a.eval y) = pure () := by rcases h1 with rfl | rfl <;> rfl
    simp [execOp, ho, hg, run_shV h1 hv]
  cases op <;> first
    | exact fun v hv w => plain (by simp) (by simp) v hv w
    | exact fun v hv w => sh (by simp) v hv w
    | skip
  case eql =>
    refine oO_sound (x := eqShape P t) fun s hs => ?_
    split
    · exact fun v hv w => cmp (.inl rfl) v hv w
    · exact fun v hv w => cmp (.inl rfl) v hv w
    · exact eqs _ hs rfl
  case neq =>
    refine oO_sound (x := eqShape P t) fun s hs => ?_
    split
    · exact fun v hv w => cmp (.inr rfl) v hv w
    · exact fun v hv w => cmp (.inr rfl) v hv w
    · exact nes _ hs rfl

theorem run_info {t : TypeId} {i : TypeInfo} (h : P.info? t = some i) (w : World) : (typeInfo t).run P w = .ok i w := by
  simp [typeInfo, h]
theorem run_method0 {t : TypeId} {name : String} {f : FuncId} (h : methR P t name = some (f, none)) (v : Value) (k : Nat) (w : World) :
    (method (k + 1) t v name).run P w = .ok (f, v) w := by
  unfold methR at h
  cases hi : P.info? t with
  | none => simp [hi] at h
  | some i =>
    simp only [hi] at h
    cases hm : i.methods.find? (·.name == name) with
    | none => simp [hm] at h
    | some m =>
      simp only [hm] at h
      split at h
      · rename_i g e h1 h2 h3
        cases h
        simp [method, run_info hi, hm, h2, follow, h1, receiverAt, run_underlying h3, Place.get]
      · cases h
      · rename_i g u h0 h1 h2 h3
        cases h
        simp only [method, Sem.run_bind, run_info hi, Result.andThen_ok, hm, h2, follow, h1, receiverAt, run_underlying h3, Place.get, Sem.run_pure]
      · rename_i g s e h1 h2 h3
        cases hd : s.deref with
        | false => simp [hd] at h
        | true =>
          simp only [hd, cond_true] at h
          split at h
          · split at h
            · rename_i n' _ _
              cases hb : Nat.beq n' 0 <;> simp [hb] at h
            · cases h
          · cases h
      · cases h
theorem run_method1 {t : TypeId} {name : String} {f : FuncId} {off : Nat} (h : methR P t name = some (f, some off)) {v p : Value} (hv : fieldA off v = some p) (k : Nat) (w : World) :
    (method (k + 1) t v name).run P w = .ok (f, p) w := by
  unfold methR at h
  cases hi : P.info? t with
  | none => simp [hi] at h
  | some i =>
    simp only [hi] at h
    cases hm : i.methods.find? (·.name == name) with
    | none => simp [hm] at h
    | some m =>
      simp only [hm] at h
      split at h <;> try (cases h; done)
      rename_i g s e h1 h2 h3
      cases hd : s.deref with
      | false => simp [hd] at h
      | true =>
        simp only [hd, cond_true] at h
        cases hf : fieldT P s.struct s.index with
        | none => simp [hf] at h
        | some fd =>
          simp only [hf] at h
          split at h
          · rename_i fs2 n' hu2 hs2
            cases hb : Nat.beq n' 0 with
            | true => simp [hb] at h
            | false =>
              simp only [hb, cond_false, Option.some.injEq, Prod.mk.injEq] at h
              obtain ⟨rfl, rfl⟩ := h
              obtain ⟨fs, hu, hf⟩ := fieldT_info hf
              obtain ⟨i2, hi2, rfl⟩ := sizeT_info hs2
              have hne := Nat.ne_of_beq_eq_false hb
              unfold fieldA at hv
              split at hv
              · cases hv
                simp [method, run_info hi, hm, h2, follow, h1, receiverAt, run_underlying h3, Place.get, run_underlying hu, hf, hd, asAddr, fieldPlace, sizeOf, run_info hi2, hne, run_underlying hu2]
              · cases hv
          · cases h
theorem inv_sound {T : Tab} (hT : TabOk P T) (h : Agree n a ρ) {c : Call} {o : Oper} (ho : o.op = .call c) {r : Operand} {name : String} (hc : c.callee = .invoke r name) :
    (o1 ρ r fun v => oL ρ c.args.toList fun vs => .act (invV P T name v vs)).Sound P (execOp a.eval o) := by
  refine o1_sound h (oL_sound h fun w v w' hm => ?_)
  have hargs : c.args.map a.eval = (c.args.toList.map a.eval).toArray := by
    rw [← Array.toList_map, Array.toArray_toList]
  have hext : ∀ (x : Value) (l : List Value), (#[x] ++ l.toArray).extract 1 (#[x] ++ l.toArray).size = l.toArray := fun x l => by
    apply Array.ext'; simp
  generalize hv : a.eval r = rv at hm
  have he : (execOp a.eval o).run P w = (callMethod rv name (c.args.toList.map a.eval).toArray).run P w := by
    simp only [execOp, ho, resolve, hc, hv, hargs, pure_bind]
    simp only [invoke]
    rw [hext]
    simp
  cases rv <;> try (cases hm; done)
  rename_i t x
  simp only [invV] at hm
  cases hm1 : methR P t name with
  | none => rw [hm1] at hm; cases hm
  | some q =>
    obtain ⟨f, off⟩ := q
    rw [hm1] at hm
    cases off with
    | none =>
      have := hT f _ w v w' hm
      have e2 : (callMethod (.iface t x) name (c.args.toList.map a.eval).toArray).run P w = (callFunc f (x :: c.args.toList.map a.eval).toArray).run P w := by
        simp [callMethod, Made.depth, run_method0 hm1]
      simp only [Got, he, e2] at this ⊢
      exact this
    | some off =>
      simp only at hm
      cases hp : fieldA off x with
      | none => rw [hp] at hm; cases hm
      | some p =>
        rw [hp] at hm
        have := hT f _ w v w' hm
        have e2 : (callMethod (.iface t x) name (c.args.toList.map a.eval).toArray).run P w = (callFunc f (p :: c.args.toList.map a.eval).toArray).run P w := by
          simp [callMethod, Made.depth, run_method1 hm1 hp]
        simp only [Got, he, e2] at this ⊢
        exact this
theorem asrR_sound {x : Operand} {xT t : TypeId} {ok : Bool} {o : Oper} (ho : o.op = .typeAssert x xT t ok) : (asrR P ok t (a.eval x)).Sound P (execOp a.eval o) := by
  unfold asrR
  split
  · exact sound_fail
  · rename_i u hni hu
    have hni' := hu
    split
    · rename_i i hi
      split
      · rename_i z hz
        intro v hv w
        have hzv : (zeroValue t).run P w = .ok z w := by simp [zeroValue, typeInfo, hi, hz]
        have : (Instr.typeAssert (a.eval x) xT t ok).run P w = .ok v w := by
          generalize a.eval x = xv at hv ⊢
          unfold asrV at hv
          unfold Instr.typeAssert
          split at hv
          · rename_i t' y
            cases hb : Nat.beq t' t with
            | true =>
              have := Nat.eq_of_beq_eq_true hb
              subst this
              simp only [hb, cond_true, Option.some.injEq] at hv
              subst hv
              simp only [Sem.run_bind, run_underlying hu, Result.andThen_ok]
              cases ok <;> cases u <;> simp_all
            | false =>
              have hne : t' ≠ t := Nat.ne_of_beq_eq_false hb
              simp only [hb, cond_false] at hv
              cases ok <;> simp at hv
              subst hv
              simp only [Sem.run_bind, run_underlying hu, Result.andThen_ok]
              cases u <;> simp_all
          · cases ok <;> simp at hv
            subst hv
            simp only [Sem.run_bind, run_underlying hu, Result.andThen_ok]
            cases u <;> simp_all
          · cases hv
        simp [execOp, ho, this]
      · exact sound_fail
    · exact sound_fail
  · exact sound_fail
theorem binQ_sound {op : BinOp} {t yt : TypeId} {x y : Operand} {o : Oper} (ho : o.op = .binOp op t x y yt) : (binQ P op t (isConst x || isConst y) (a.eval x) (a.eval y)).Sound P (execOp a.eval o) := by
  unfold binQ
  cases hb : (isConst x || isConst y) && isIface P t with
  | false => simp only [cond_false]; exact binR_sound ho
  | true =>
    simp only [cond_true]
    rw [Bool.and_eq_true] at hb
    obtain ⟨hc, hi⟩ := hb
    obtain ⟨ms, hu⟩ : ∃ ms, P.underlying t = some (.interface ms) := by
      unfold isIface at hi
      split at hi
      · exact ⟨_, by assumption⟩
      · cases hi
    have key : ∀ w b, eqPrim .ifn (a.eval x) (a.eval y) = some b → (op = .eql ∨ op = .neq) → (eqGuard op t x y (a.eval x) (a.eval y)).run P w = .ok () w ∧ (binOp .eql t (a.eval x) (a.eval y)).run P w = .ok (.bool b) w ∧ (binOp .neq t (a.eval x) (a.eval y)).run P w = .ok (.bool !b) w := by
      intro w b he hop
      generalize hx : a.eval x = vx at he
      generalize hy : a.eval y = vy at he
      unfold eqPrim at he
      split at he <;> first | contradiction | skip
      all_goals (cases he; rename_i hk; cases hk)
      all_goals skip
      · have he := eqIn_ifn (P := P) 9999 w hu
        have he' : (Op.equal t .nilIface .nilIface).run P w = .ok true w := he
        refine ⟨?_, by simp [binOp, he'], by simp [binOp, he']⟩
        rcases hop with rfl | rfl <;> (unfold eqGuard; cases x <;> cases y <;> simp_all [isConst])
      · have he := eqIn_if0 (P := P) 9999 w hu
        have he' : ∀ d z, (Op.equal t .nilIface (.iface d z)).run P w = .ok false w := he
        refine ⟨by cases op <;> rfl, by simp [binOp, he'], by simp [binOp, he']⟩
      · have he := eqIn_if1 (P := P) 9999 w hu
        have he' : ∀ d z, (Op.equal t (.iface d z) .nilIface).run P w = .ok false w := he
        refine ⟨by cases op <;> rfl, by simp [binOp, he'], by simp [binOp, he']⟩
    cases op <;> try exact sound_fail
    · intro v hv w
      simp only [eqV, eqlV] at hv
      split at hv
      · rename_i b he
        cases hv
        have := key w b he (.inl rfl)
        simp [execOp, ho, this.1, this.2.1]
      · cases hv
    · intro v hv w
      simp only [neV, eqlV] at hv
      split at hv
      · rename_i b he
        cases hv
        have := key w b he (.inr rfl)
        simp [execOp, ho, this.1, this.2.2]
      · cases hv
theorem run_sd0 (n c : Nat) (ts : Array TypeId) (t : TypeId) (w : World) : (Builtin.unsafeSliceData_ ts t #[.slice none n c]).run P w = .ok (.pointer none) w := rfl
theorem run_sd1 (a : Addr) (n c : Nat) (hc : c ≠ 0) (ts : Array TypeId) (t : TypeId) (w : World) : (Builtin.unsafeSliceData_ ts t #[.slice (some a) n c]).run P w = .ok (.pointer (some a)) w := by
  obtain ⟨m, rfl⟩ : ∃ m, c = m + 1 := ⟨c - 1, by omega⟩
  rfl
theorem callR_sound {T Tc : Tab} (hT : TabOk P T) (hTc : TabOk P Tc) (h : Agree n a ρ) {c : Call} {o : Oper} (ho : o.op = .call c) : (callR P T Tc ρ c).Sound P (execOp a.eval o) := by
  have hargs : ∀ l : List Operand, c.args.toList = l → c.args.map a.eval = (l.map a.eval).toArray := fun l hl => by
    subst hl; rw [← Array.toList_map, Array.toArray_toList]
  have hdyn : ∀ x, c.callee = .value x → (o1 ρ x fun v => oL ρ c.args.toList fun vs => .act (callV Tc v vs)).Sound P (execOp a.eval o) := by
    intro x hc
    refine o1_sound h (oL_sound h fun w v w' hm => ?_)
    generalize hv : a.eval x = fv at hm
    unfold callV at hm
    split at hm
    · rename_i k first captured
      have := hTc k _ w v w' hm
      have he : execOp a.eval o = callFunc k (first.toList ++ List.map a.eval c.args.toList ++ captured.toList).toArray := by
        have e : ∀ l : List Value, first ++ l.toArray ++ captured = (first.toList ++ l ++ captured.toList).toArray := fun l => by
          apply Array.ext'
          simp
        rw [← e]
        simp [execOp, ho, resolve, hc, hv, Deferred.ofValue, invoke, hargs _ rfl]
      rw [he]
      exact this
    · cases hm
  cases hc : c.callee with
  | value x =>
    cases x with
    | func f =>
      unfold callR
      rw [hc]
      refine oL_sound h fun w v w' hm => ?_
      have := hT f _ w v w' hm
      have he : execOp a.eval o = callFunc f (List.map a.eval c.args.toList).toArray := by
        simp [execOp, ho, resolve, hc, Act.eval, Deferred.ofValue, invoke, hargs _ rfl]
      rw [he]
      exact this
    | tmp t => unfold callR; rw [hc]; exact hdyn _ hc
    | const t => unfold callR; rw [hc]; exact hdyn _ hc
    | «global» t => unfold callR; rw [hc]; exact hdyn _ hc
  | invoke r m => unfold callR; rw [hc]; exact inv_sound hTc h ho hc
  | builtin b =>
    unfold callR
    rw [hc]
    cases b <;> try exact sound_fail
    case len =>
      dsimp only
      split
      · rename_i x t hx ht
        have ha := hargs _ hx
        have hty : c.argTypes = #[t] := by rw [← Array.toArray_toList (xs := c.argTypes), ht]
        split
        · rename_i hu
          refine o1_sound h fun v hv w => ?_
          simp only [lenS] at hv
          split at hv
          · rename_i s hs; cases hv; simp [execOp, ho, resolve, hc, invoke, builtin, ha, hty, hs, Builtin.len_, run_underlying hu, goInt]
          · cases hv
        · rename_i e hu
          refine o1_sound h fun v hv w => ?_
          simp only [lenL] at hv
          split at hv
          · rename_i s hs; cases hv; simp [execOp, ho, resolve, hc, invoke, builtin, ha, hty, hs, Builtin.len_, run_underlying hu, goInt]
          · cases hv
        · rename_i k e hu
          intro w
          simp [execOp, ho, resolve, hc, invoke, builtin, ha, hty, Builtin.len_, run_underlying hu, goInt]
        · exact sound_fail
      · exact sound_fail
    case cap =>
      dsimp only
      split
      · rename_i x t hx ht
        have ha := hargs _ hx
        have hty : c.argTypes = #[t] := by rw [← Array.toArray_toList (xs := c.argTypes), ht]
        split
        · rename_i e hu
          refine o1_sound h fun v hv w => ?_
          simp only [capV] at hv
          split at hv
          · rename_i s hs; cases hv; simp [execOp, ho, resolve, hc, invoke, builtin, ha, hty, hs, Builtin.cap_, run_underlying hu, goInt]
          · cases hv
        · exact sound_fail
      · exact sound_fail
    case append =>
      dsimp only
      split
      · rename_i s x t u hx ht
        have ha := hargs _ hx
        have hty : c.argTypes = #[t, u] := by rw [← Array.toArray_toList (xs := c.argTypes), ht]
        have app : ∀ e du, P.underlying t = some (.slice e) → P.underlying u = some du → (∀ k, du ≠ .int k) →
            (o1 ρ s fun s => o1 ρ x fun x => oO (zeroOf P e) fun z => .act (appM e z.2.1 z.2.2 z.1 s x)).Sound P (execOp a.eval o) := by
          intro e du hu hdu hnot
          refine o1_sound h (o1_sound h (oO_sound fun z hz w v w' hm => ?_))
          obtain ⟨i, zv, hi, hz0, rfl⟩ := zeroOf_info hz
          have := run_appM (ty := o.type) hu hdu hnot hi hz0 hm
          exact .inl (by simp [execOp, ho, resolve, hc, invoke, builtin, ha, hty, this])
        split
        · rename_i e _ hu hdu; exact app e _ hu hdu (by simp)
        · rename_i e hu hdu; exact app e _ hu hdu (by simp)
        · exact sound_fail
      · exact sound_fail
    case delete =>
      dsimp only
      split
      · rename_i d s t u hx ht
        have ha := hargs _ hx
        have hty : c.argTypes = #[t, u] := by rw [← Array.toArray_toList (xs := c.argTypes), ht]
        split
        · rename_i kt e hu
          refine o1_sound h (o1_sound h (oO_sound fun sh hs w v w' hm => ?_))
          have := run_delM (ty := o.type) (ts := #[t, u]) hu hs rfl hm
          exact .inl (by simp [execOp, ho, resolve, hc, invoke, builtin, ha, hty, this])
        · exact sound_fail
      · exact sound_fail
    case min =>
      dsimp only
      split
      · rename_i x y hx
        have ha := hargs _ hx
        refine o1_sound h (o1_sound h fun w v w' hm => ?_)
        cases hv : minV (a.eval x) (a.eval y) with
        | none => rw [hv] at hm; cases hm
        | some u =>
          rw [hv] at hm
          simp only [optM, M.ret, Option.some.injEq, Prod.mk.injEq] at hm
          obtain ⟨rfl, rfl⟩ := hm
          unfold minV at hv
          split at hv
          · rename_i k m j n h1 h2
            simp only [Option.some.injEq] at hv
            subst hv
            exact .inl (by simp [execOp, ho, resolve, hc, invoke, builtin, ha, Builtin.min_, Builtin.min2, h1, h2])
          · cases hv
      · rename_i x y z hx
        have ha := hargs _ hx
        refine o1_sound h (o1_sound h (o1_sound h fun w v w' hm => ?_))
        cases hv : min3V (a.eval x) (a.eval y) (a.eval z) with
        | none => rw [hv] at hm; cases hm
        | some u =>
          rw [hv] at hm
          simp only [optM, M.ret, Option.some.injEq, Prod.mk.injEq] at hm
          obtain ⟨rfl, rfl⟩ := hm
          unfold min3V at hv
          split at hv
          · rename_i m hm1
            unfold minV at hm1 hv
            split at hm1
            · rename_i k p k2 q h1 h2
              cases hm1
              split at hv
              · rename_i k3 p3 k4 q4 h3 h4
                cases h3
                cases hv
                exact .inl (by simp [execOp, ho, resolve, hc, invoke, builtin, ha, Builtin.min_, Builtin.min2, h1, h2, h4])
              · cases hv
            · cases hm1
          · cases hv
      · exact sound_fail
    case max =>
      dsimp only
      split
      · rename_i x y hx
        have ha := hargs _ hx
        refine o1_sound h (o1_sound h fun w v w' hm => ?_)
        cases hv : maxV (a.eval x) (a.eval y) with
        | none => rw [hv] at hm; cases hm
        | some u =>
          rw [hv] at hm
          simp only [optM, M.ret, Option.some.injEq, Prod.mk.injEq] at hm
          obtain ⟨rfl, rfl⟩ := hm
          unfold maxV at hv
          split at hv
          · rename_i k m j n h1 h2
            simp only [Option.some.injEq] at hv
            subst hv
            exact .inl (by simp [execOp, ho, resolve, hc, invoke, builtin, ha, Builtin.max_, Builtin.max2, h1, h2])
          · cases hv
      · exact sound_fail
    case unsafeSliceData =>
      dsimp only
      split
      · rename_i x hx
        have ha := hargs _ hx
        refine o1_sound h fun w v w' hm => ?_
        cases hv : sdV (a.eval x) with
        | none => rw [hv] at hm; cases hm
        | some u =>
          rw [hv] at hm
          simp only [optM, M.ret, Option.some.injEq, Prod.mk.injEq] at hm
          obtain ⟨rfl, rfl⟩ := hm
          unfold sdV at hv
          split at hv
          · rename_i h1
            simp only [Option.some.injEq] at hv
            subst hv
            exact .inl (by simp [execOp, ho, resolve, hc, invoke, builtin, ha, h1, run_sd0])
          · rename_i h1
            split at hv
            · rename_i h2
              simp only [Option.some.injEq] at hv
              subst hv
              exact .inl (by simp [execOp, ho, resolve, hc, invoke, builtin, ha, h1, run_sd1 _ _ _ h2])
            · cases hv
          · cases hv
      · exact sound_fail
    case unsafeString =>
      dsimp only
      split
      · rename_i x y hx
        have ha := hargs _ hx
        refine o1_sound h (o1_sound h fun w v w' hm => ?_)
        unfold usM at hm
        split at hm
        · rename_i v' w1 hr
          simp only [Option.some.injEq, Prod.mk.injEq] at hm
          obtain ⟨rfl, rfl⟩ := hm
          rw [Array.toArray_toList] at hr
          have hr' : (Builtin.unsafeString_ c.argTypes o.type #[a.eval x, a.eval y]).run P w = .ok v' w1 := hr
          exact .inl (by simp [execOp, ho, resolve, hc, invoke, builtin, ha, hr'])
        · cases hm
      · exact sound_fail
    case copy =>
      dsimp only
      split
      · rename_i d s t u hx ht
        have ha := hargs _ hx
        have hty : c.argTypes = #[t, u] := by rw [← Array.toArray_toList (xs := c.argTypes), ht]
        split
        · rename_i e hu
          refine o1_sound h (o1_sound h (oO_sound fun k hk w v w' hm => ?_))
          obtain ⟨i, hi, rfl⟩ := sizeT_info hk
          have := run_cpyM (ty := o.type) (u := u) hu hi hm
          exact .inl (by simp [execOp, ho, resolve, hc, invoke, builtin, ha, hty, this])
        · exact sound_fail
      · exact sound_fail

theorem convR_sound {src dst : TypeId} {x : Operand} {o : Oper} (ho : o.op = .convert src dst x) : (convR P src dst (a.eval x)).Sound P (execOp a.eval o) := by
  unfold convR
  split
  · rename_i k k' h1 h2
    intro v hv w
    simp only [cvtI] at hv
    split at hv
    · rename_i hx; cases hv; simp [execOp, ho, hx, convert, run_underlying h1, run_underlying h2, Conv.intToInt]
    · cases hv
  · rename_i h1 h2
    intro v hv w
    simp only [cvtS] at hv
    split at hv
    · rename_i hx; cases hv; simp [execOp, ho, hx, convert, run_underlying h1, run_underlying h2]
    · cases hv
  · rename_i e h1 h2
    split
    · rename_i h3
      intro w v w' hm
      exact .inl (by simp [execOp, ho, run_sbM h1 h2 h3 hm])
    · exact sound_fail
  · rename_i e h1 h2
    split
    · rename_i h3
      intro w v hm
      simp [execOp, ho, run_bsR h1 h3 h2 hm]
    · exact sound_fail
  · exact sound_fail

theorem opR_sound {T Tc : Tab} (hT : TabOk P T) (hTc : TabOk P Tc) (h : Agree n a ρ) (o : Oper) : (opR P T Tc ρ o.op).Sound P (execOp a.eval o) := by
  cases ho : o.op <;> dsimp only [opR] <;> try exact sound_fail
  case move x => exact o1_sound h fun w => by simp [execOp, ho]
  case assign x => exact o1_sound h fun w => by simp [execOp, ho]
  case pick c x y =>
    refine o1_sound h (o1_sound h (o1_sound h fun v hv w => ?_))
    simp only [pickV] at hv
    split at hv <;> first | contradiction | (rename_i hc; cases hv; simp [execOp, ho, asBool, hc])
  case alloc t =>
    refine oO_sound fun z hz w v w' hm => ?_
    obtain ⟨i, zv, hi, hz0, rfl⟩ := zeroOf_info hz
    cases hm
    exact .inl (by simp [execOp, ho, run_allocM hi hz0])
  case box t x =>
    refine o1_sound h fun w v w' hm => ?_
    cases hm
    exact .inl (by simp [execOp, ho, run_boxM])
  case build t parts =>
    refine oO_sound fun z hz => oO_sound fun l hl v hv w => ?_
    have := partsR_eq h hl
    have := run_buildV (P := P) (place := z.2) hz (parts := parts.map fun (i, x) => (i, a.eval x)) (l := l) (by simpa using this) hv w
    simp [execOp, ho, this]
  case buildSlice t len parts =>
    split
    · rename_i e hu
      refine oO_sound fun z hz => oO_sound fun l hl => ?_
      obtain ⟨i, zv, hi, hz0, rfl⟩ := zeroOf_info hz
      cases hb : (Nat.beq zv.cells.size i.size && Nat.ble (len * i.size) 16777216) with
      | false => simp only [hb, cond_false]; exact sound_fail
      | true =>
        simp only [hb, cond_true]
        intro w v w' hm
        rw [Bool.and_eq_true] at hb
        have := partsR_eq h hl
        have := run_bslM (P := P) hu hi hz0 (Nat.eq_of_beq_eq_true hb.1) (Nat.le_of_ble_eq_true hb.2) (parts := parts.map fun (i, x) => (i, a.eval x)) (l := l) (by simpa using this) hm
        exact .inl (by simp [execOp, ho, this])
    · exact sound_fail
  case load t x =>
    refine oO_sound fun g hg => o1_sound h fun w v hv => ?_
    simp [execOp, ho, run_loadAt hg hv]
  case store t x y =>
    refine oO_sound fun k hk => o1_sound h (o1_sound h fun w v w' hm => ?_)
    obtain ⟨i, hi, rfl⟩ := sizeT_info hk
    obtain ⟨rfl, hr⟩ := run_storeAt hi hm
    exact .inr (.inl ⟨rfl, by simp [execOp, ho, hr]⟩)
  case nilCheck x => exact o1_sound h fun v hv w => run_nilChk ho hv w
  case makeMap t r =>
    cases r with
    | some r => exact sound_fail
    | none =>
      intro w v w' hm
      cases hm
      exact .inl (by simp [execOp, ho, run_mkmM])
  case lookup t m k ok =>
    split
    · rename_i kt e hu
      refine oO_sound fun sh hs => oO_sound fun z hz => o1_sound h (o1_sound h fun w v hv => ?_)
      unfold zeroW at hz
      split at hz
      · rename_i i hi
        simp [execOp, ho, run_lookV hu hs hi hz hv]
      · cases hz
    · exact sound_fail
  case mapUpdate t m k x =>
    split
    · rename_i kt e hu
      refine oO_sound fun sh hs => o1_sound h (o1_sound h (o1_sound h fun w v w' hm => ?_))
      have hv : v = undef := updM_undef hm
      exact .inr (.inl ⟨hv, by simp [execOp, ho, run_updM hu hs hm]⟩)
    · exact sound_fail
  case mapEntry t m k =>
    split
    · rename_i kt e hu
      refine oO_sound fun sh hs => oO_sound fun z hz => o1_sound h (o1_sound h fun w v w' hm => ?_)
      unfold zeroW at hz
      split at hz
      · rename_i i hi
        exact .inl (by simp [execOp, ho, run_mentM hu hs hi hz hm])
      · cases hz
    · exact sound_fail
  case entryStore t m s x =>
    refine o1_sound h (o1_sound h (o1_sound h fun w v w' hm => ?_))
    obtain ⟨hv, hr⟩ := run_estM (P := P) (t := t) hm
    exact .inr (.inl ⟨hv, by simp [execOp, ho, hr]⟩)
  case range t x =>
    split
    · rename_i kt e hu
      exact o1_sound h fun w v w' hm => .inl (by simp [execOp, ho, run_rngM hu hm])
    · exact sound_fail
  case next it st =>
    cases st with
    | true => exact sound_fail
    | false => exact o1_sound h fun w v w' hm => .inl (by simp [execOp, ho, run_nxtM hm])
  case entry it =>
    refine o1_sound h fun w v w' hm => ?_
    unfold rdM at hm
    cases he : entV (a.eval it) w with
    | none => rw [he] at hm; cases hm
    | some u =>
      rw [he] at hm
      simp only [Option.some.injEq, Prod.mk.injEq] at hm
      obtain ⟨rfl, rfl⟩ := hm
      exact .inl (by simp [execOp, ho, run_entV he])
  case binOp op t x y yt => exact o1_sound h (o1_sound h (binQ_sound ho))
  case unOp op t x =>
    cases op <;> try exact sound_fail
    · exact o1_sound h fun v hv w => by simp [execOp, ho, run_unary_neg hv]
    · exact o1_sound h fun v hv w => by simp [execOp, ho, run_unary_cpl hv]
    · exact o1_sound h fun v hv w => by simp [execOp, ho, run_unary_not hv]
  case convert src dst x => exact o1_sound h (convR_sound ho)
  case makeInterface t x =>
    split
    · exact sound_fail
    · rename_i d hu hd
      refine o1_sound h fun w => ?_
      have : (Instr.makeInterface t (a.eval x)).run P w = .ok (.iface t (a.eval x)) w := by
        simp only [Instr.makeInterface, Sem.run_bind, run_underlying hd, Result.andThen_ok]
        rfl
      simp [execOp, ho, this]
    · exact sound_fail
  case makeFunc fn first captured =>
    refine oL_sound h (oL_sound h fun w => ?_)
    have e : ∀ l : Array Operand, l.map a.eval = (List.map a.eval l.toList).toArray := fun l => by rw [← Array.toList_map, Array.toArray_toList]
    simp [execOp, ho, Instr.makeFunc, e]
  case makeSlice t l c =>
    split
    · rename_i e hu
      refine o1_sound h (o1_sound h (oO_sound fun z hz w v w' hm => ?_))
      obtain ⟨i, zv, hi, hz0, rfl⟩ := zeroOf_info hz
      exact .inl (by simp [execOp, ho, run_mksM hu hi hz0 hm])
    · exact sound_fail
  case slice t x lo hi mx =>
    cases mx with
    | some mx =>
      cases hi with
      | none => exact sound_fail
      | some hi =>
        refine o1_sound h (oB_sound h (o1_sound h (o1_sound h ?_)))
        split
        · rename_i e hu
          refine oO_sound fun k hk v hv w => ?_
          obtain ⟨i, hi, rfl⟩ := sizeT_info hk
          simp [execOp, ho, run_sliceV3 hu hi hv]
        · exact sound_fail
    | none =>
      refine o1_sound h (oB_sound h (oB_sound h ?_))
      split
      · rename_i e hu
        refine oO_sound fun k hk v hv w => ?_
        obtain ⟨i, hi, rfl⟩ := sizeT_info hk
        simp [execOp, ho, run_sliceV hu hi hv]
      · rename_i hu
        exact fun v hv w => by simp [execOp, ho, run_sliceS hu hv]
      · rename_i k e hu
        refine oO_sound fun k hk v hv w => ?_
        obtain ⟨i, hi, rfl⟩ := sizeT_info hk
        simp [execOp, ho, run_sliceR hu hi hv]
      · exact sound_fail
  case fieldAddr t x f =>
    refine oO_sound fun f hf => oO_sound fun k hk => ?_
    obtain ⟨fs, hu, hf⟩ := fieldT_info hf
    obtain ⟨i, hi, rfl⟩ := sizeT_info hk
    cases hb : Nat.beq i.size 0 with
    | true => simp only [cond_true]; exact sound_fail
    | false =>
      simp only [cond_false]
      exact o1_sound h fun v hv w => by simp [execOp, ho, run_fieldAt hu hf hi (Nat.ne_of_beq_eq_false hb) hv]
  case field t x f =>
    refine oO_sound fun f hf => oO_sound fun g hg => ?_
    obtain ⟨fs, hu, hf⟩ := fieldT_info hf
    exact o1_sound h fun v hv w => by simp [execOp, ho, run_fieldV hu hf hg hv]
  case indexAddr t x ix =>
    refine o1_sound h (o1_sound h ?_)
    split
    · rename_i e hu
      refine oO_sound fun k hk v hv w => ?_
      obtain ⟨i, hi, rfl⟩ := sizeT_info hk
      simp [execOp, ho, run_idxA hu hi hv]
    · rename_i k e hu
      refine oO_sound fun k hk v hv w => ?_
      obtain ⟨i, hi, rfl⟩ := sizeT_info hk
      simp [execOp, ho, run_idxR hu hi hv]
    · exact sound_fail
  case index t x ix =>
    refine o1_sound h (o1_sound h ?_)
    split
    · rename_i hu
      exact fun v hv w => by simp [execOp, ho, run_idxS hu hv]
    · rename_i k e hu
      refine oO_sound fun k hk => oO_sound fun g hg v hv w => ?_
      obtain ⟨i, hi, rfl⟩ := sizeT_info hk
      simp [execOp, ho, run_idxG hu hi hg hv]
    · exact sound_fail
  case typeAssert x xT t ok => exact o1_sound h (asrR_sound ho)
  case extract x i => exact o1_sound h fun v hv w => by simp [execOp, ho, run_extV hv]
  case call c => exact callR_sound hT hTc h ho

end
end Go.Lift
