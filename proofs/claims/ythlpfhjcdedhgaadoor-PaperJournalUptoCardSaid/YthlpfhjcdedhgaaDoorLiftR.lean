/-
  THE LIFT, part R: reasoning over the functional forms: what a form comes to, block by block.
-/
import Derived.Test.YthlpfhjcdedhgaaDoorLiftH
namespace Go.Lift

/-- The form m, begun in w, comes to something of which Q holds. -/
def Run {α : Type} (m : M α) (w : World) (Q : α → World → Prop) : Prop := ∃ r w', m w = some (r, w') ∧ Q r w'

section
variable {α β : Type} {w : World}
theorem Run.mono {m : M α} {Q R : α → World → Prop} (h : Run m w Q) (hq : ∀ r w', Q r w' → R r w') : Run m w R :=
  let ⟨r, w', e, q⟩ := h; ⟨r, w', e, hq _ _ q⟩
theorem Run.of_eq {m : M α} {Q : α → World → Prop} {r : α} {w' : World} (h : m w = some (r, w')) (hq : Q r w') : Run m w Q := ⟨r, w', h, hq⟩
@[simp] theorem Run_ret {a : α} {Q : α → World → Prop} : Run (M.ret a) w Q ↔ Q a w := by
  constructor
  · rintro ⟨r, w', h, q⟩; cases h; exact q
  · intro h; exact ⟨a, w, rfl, h⟩
@[simp] theorem Run_fail {Q : α → World → Prop} : Run (M.fail : M α) w Q ↔ False := by
  constructor
  · rintro ⟨r, w', h, q⟩; cases h
  · exact False.elim
@[simp] theorem Run_bind {m : M α} {k : α → M β} {Q : β → World → Prop} : Run (M.bind m k) w Q ↔ Run m w fun a w' => Run (k a) w' Q := by
  constructor
  · rintro ⟨r, w', h, q⟩
    obtain ⟨v, w1, h1, h2⟩ := bind_some h
    exact ⟨v, w1, h1, r, w', h2, q⟩
  · rintro ⟨v, w1, h1, r, w', h2, q⟩
    exact ⟨r, w', by unfold M.bind; rw [h1]; exact h2, q⟩
@[simp] theorem Run_bindO_some {a : α} {k : α → M β} {Q : β → World → Prop} : Run (bindO (some a) k) w Q ↔ Run (k a) w Q := Iff.rfl
theorem Run_bindO {o : Option α} {a : α} {k : α → M β} {Q : β → World → Prop} (h : o = some a) : Run (bindO o k) w Q ↔ Run (k a) w Q := by subst h; rfl
theorem Run_bindO_ite {c : Prop} [Decidable c] {x y : Option α} {k : α → M β} {Q : β → World → Prop} : Run (bindO (if c then x else y) k) w Q ↔ if c then Run (bindO x k) w Q else Run (bindO y k) w Q := by split <;> rfl
@[simp] theorem Run_bindO_none {k : α → M β} {Q : β → World → Prop} : Run (bindO none k) w Q ↔ False := by
  constructor
  · rintro ⟨r, w', h, q⟩; cases h
  · exact False.elim
@[simp] theorem Run_optM_some {a : α} {Q : α → World → Prop} : Run (optM (some a)) w Q ↔ Q a w := Run_ret
theorem Run_condM {b : Bool} {x y : M β} {Q : β → World → Prop} : Run (condM (.bool b) x y) w Q ↔ if b = true then Run x w Q else Run y w Q := by cases b <;> rfl
theorem Run_guardM {b want : Bool} {m : M Value} {Q : Value → World → Prop} : Run (guardM (.bool b) want m) w Q ↔ if b = want then Run m w Q else Q undef w := by
  cases b <;> cases want <;> simp [guardM]
@[simp] theorem Run_condM_true {x y : M β} {Q : β → World → Prop} : Run (condM (.bool true) x y) w Q ↔ Run x w Q := Iff.rfl
@[simp] theorem Run_condM_false {x y : M β} {Q : β → World → Prop} : Run (condM (.bool false) x y) w Q ↔ Run y w Q := Iff.rfl
theorem Run_cond {b : Bool} {x y : M β} {Q : β → World → Prop} (h1 : b = true → Run x w Q) (h2 : b = false → Run y w Q) : Run (condM (.bool b) x y) w Q := by
  cases b
  · exact h2 rfl
  · exact h1 rfl
@[simp] theorem Run_guardM_tt {m : M Value} {Q : Value → World → Prop} : Run (guardM (.bool true) true m) w Q ↔ Run m w Q := by simp [Run_guardM]
@[simp] theorem Run_guardM_ff {m : M Value} {Q : Value → World → Prop} : Run (guardM (.bool false) false m) w Q ↔ Run m w Q := by simp [Run_guardM]
@[simp] theorem Run_guardM_tf {m : M Value} {Q : Value → World → Prop} : Run (guardM (.bool true) false m) w Q ↔ Q undef w := by simp [Run_guardM]
@[simp] theorem Run_guardM_ft {m : M Value} {Q : Value → World → Prop} : Run (guardM (.bool false) true m) w Q ↔ Q undef w := by simp [Run_guardM]
@[simp] theorem Run_guardM_undef {want : Bool} {m : M Value} {Q : Value → World → Prop} : Run (guardM undef want m) w Q ↔ Q undef w := Run_ret
@[simp] theorem Run_guardM_not {b want : Bool} {m : M Value} {Q : Value → World → Prop} : Run (guardM (.bool !b) want m) w Q ↔ Run (guardM (.bool b) (!want) m) w Q := by
  cases b <;> cases want <;> simp
@[simp] theorem Run_condM_not {b : Bool} {x y : M β} {Q : β → World → Prop} : Run (condM (.bool !b) x y) w Q ↔ Run (condM (.bool b) y x) w Q := by
  cases b <;> simp
theorem Run_guard {b want : Bool} {m : M Value} {Q : Value → World → Prop} (h1 : b = true → Run (guardM (.bool true) want m) w Q) (h2 : b = false → Run (guardM (.bool false) want m) w Q) : Run (guardM (.bool b) want m) w Q := by
  cases b
  · exact h2 rfl
  · exact h1 rfl
@[simp] theorem Run_drewM {k : M β} {Q : β → World → Prop} : Run (drewM k) w Q ↔ Run k w.drew Q := Iff.rfl
@[simp] theorem Run_getM {k : World → M β} {Q : β → World → Prop} : Run (getM k) w Q ↔ Run (k w) w Q := Iff.rfl
@[simp] theorem Run_reqM {p : Prop} {k : M β} {Q : β → World → Prop} : Run (reqM p k) w Q ↔ p ∧ Run k w Q := by
  unfold reqM
  by_cases h : p
  · simp [h]
  · simp [h]
@[simp] theorem Run_rdM {r : World → Option Value} {Q : Value → World → Prop} : Run (rdM r) w Q ↔ ∃ v, r w = some v ∧ Q v w := by
  constructor
  · rintro ⟨v, w', h, q⟩
    unfold rdM at h
    cases hr : r w with
    | none => simp [hr] at h
    | some u => simp only [hr, Option.some.injEq, Prod.mk.injEq] at h; obtain ⟨rfl, rfl⟩ := h; exact ⟨_, rfl, q⟩
  · rintro ⟨v, h, q⟩
    exact ⟨v, w, by simp [rdM, h], q⟩
theorem Run_newM {t : TypeId} {cs : Array Value} {Q : Value → World → Prop} : Run (newM t cs) w Q ↔ Q (.pointer (some ⟨w.heap.size, 0, none⟩)) (w.alloc (.cells cs t)) := by
  constructor
  · rintro ⟨r, w', h, q⟩; cases h; exact q
  · intro h; exact ⟨_, _, rfl, h⟩
theorem Run_altM {σ : World → List Nat} {Q : β → World → Prop} : ∀ {l : List (List Nat × M β)}, l ≠ [] → (∀ x ∈ l, Run x.2 w.drew Q) → Run (altM σ l) w Q
  | [], h, _ => absurd rfl h
  | [x], _, h => h x (by simp)
  | x :: y :: l, _, h => by
    have ih := Run_altM (σ := σ) (l := y :: l) (by simp) fun z hz => h z (by simp [hz])
    by_cases hx : σ w = x.1
    · obtain ⟨r, w', e, q⟩ := h x (by simp)
      exact ⟨r, w', by simp only [altM]; rw [if_pos hx]; exact e, q⟩
    · obtain ⟨r, w', e, q⟩ := ih
      exact ⟨r, w', by simp only [altM]; rw [if_neg hx]; exact e, q⟩

/-- A loop: what holds ahead of every round, and a number that falls. -/
theorem Run_loopM {step : List Value → M Out} {Q : Out → World → Prop} (I : List Value → World → Prop) (μ : List Value → World → Nat)
    (round : ∀ l w, I l w → Run (step l) w fun o w' => match o with | .norm l' => I l' w' ∧ μ l' w' < μ l w | o => Q o w') {l : List Value} (h : I l w) : Run (loopM step l) w Q := by
  have key : ∀ n l w, μ l w = n → I l w → ∃ m r w', iterM step m l w = some (r, w') ∧ Q r w' := by
    intro n
    induction n using Nat.strongRecOn with
    | _ n ih =>
      intro l w hn hI
      obtain ⟨o, w1, e, q⟩ := round l w hI
      cases o with
      | norm l' =>
        obtain ⟨m, r, w', hm, hq⟩ := ih (μ l' w1) (hn ▸ q.2) l' w1 rfl q.1
        exact ⟨m + 1, r, w', by simp only [iterM, M.bind, e]; exact hm, hq⟩
      | exit id l' => exact ⟨1, .exit id l', w1, by simp only [iterM, M.bind, e]; rfl, q⟩
      | ret v => exact ⟨1, .ret v, w1, by simp only [iterM, M.bind, e]; rfl, q⟩
  obtain ⟨m, r, w', hm, hq⟩ := key _ l w rfl h
  exact ⟨r, w', loopM_some.2 ⟨m, hm⟩, hq⟩

@[simp] theorem outK_norm {l : List Value} {f : List Value → M β} {g : Nat → List Value → M β} {h : Value → M β} : outK (.norm l) f g h = f l := rfl
@[simp] theorem outK_exit {i : Nat} {l : List Value} {f : List Value → M β} {g : Nat → List Value → M β} {h : Value → M β} : outK (.exit i l) f g h = g i l := rfl
@[simp] theorem outK_ret {v : Value} {f : List Value → M β} {g : Nat → List Value → M β} {h : Value → M β} : outK (.ret v) f g h = h v := rfl
@[simp] theorem getL_zero {v : Value} {l : List Value} : getL (v :: l) 0 = v := rfl
@[simp] theorem getL_succ {v : Value} {l : List Value} {i : Nat} : getL (v :: l) (i + 1) = getL l i := rfl
end

@[simp] theorem natBeq (a b : Nat) : Nat.beq a b = decide (a = b) := by
  by_cases h : a = b
  · subst h; simp
  · simp only [h, decide_false]; exact Bool.eq_false_iff.2 fun h' => h (Nat.eq_of_beq_eq_true h')
/- Values. -/
@[simp] theorem cells_int (k : IntKind) (n : Int) : (Value.int k n).cells = #[.int k n] := rfl
@[simp] theorem cells_bool (b : Bool) : (Value.bool b).cells = #[.bool b] := rfl
@[simp] theorem cells_string (s : ByteArray) : (Value.string s).cells = #[.string s] := rfl
@[simp] theorem cells_slice (a : Option Addr) (n c : Nat) : (Value.slice a n c).cells = #[.slice a n c] := rfl
@[simp] theorem cells_pointer (a : Option Addr) : (Value.pointer a).cells = #[.pointer a] := rfl
@[simp] theorem cells_agg (cs : Array Value) : (Value.agg cs).cells = cs := rfl
theorem cells_isCell {v : Value} (hv : isCell v = true) : v.cells = #[v] := by cases v <;> first | rfl | cases hv
@[simp] theorem fillV_nil (cs : Array Value) : fillV cs [] = some cs := rfl
theorem fillV_cell {cs : Array Value} {off : Nat} {v : Value} {rest : List (Nat × Nat × Value)} (hv : isCell v = true) : fillV cs ((off, 1, v) :: rest) = if off < cs.size then fillV (cs.setIfInBounds off v) rest else none := by
  have hc := cells_isCell hv
  simp only [fillV, hc]
  by_cases h : off < cs.size
  · rw [if_pos h, if_neg (by simp; omega)]
    simp
  · rw [if_neg h, if_pos (by simp; omega)]
@[simp] theorem isCell_int (k : IntKind) (n : Int) : isCell (.int k n) = true := by unfold isCell; rfl
@[simp] theorem isCell_bool (b : Bool) : isCell (.bool b) = true := by unfold isCell; rfl
@[simp] theorem isCell_string (s : ByteArray) : isCell (.string s) = true := by unfold isCell; rfl
@[simp] theorem isCell_slice (a : Option Addr) (n c : Nat) : isCell (.slice a n c) = true := by unfold isCell; rfl
@[simp] theorem isCell_pointer (a : Option Addr) : isCell (.pointer a) = true := by unfold isCell; rfl
@[simp] theorem isCell_map (a : Option Nat) : isCell (.map a) = true := by unfold isCell; rfl
@[simp] theorem isCell_nilFunc : isCell .nilFunc = true := by unfold isCell; rfl
@[simp] theorem isCell_func (f : Fn) (x y : Array Value) : isCell (.func f x y) = true := by unfold isCell; rfl
@[simp] theorem nilChk_ptr (a : Addr) : nilChk (.pointer (some a)) = some (.pointer (some a)) := rfl
@[simp] theorem nilChk_func (f : FuncId) (x y : Array Value) : nilChk (.func (.func f) x y) = some (.func (.func f) x y) := rfl
@[simp] theorem pickV_bool (b : Bool) (x y : Value) : pickV (.bool b) x y = some (bif b then x else y) := by cases b <;> rfl
@[simp] theorem fieldA_ptr (off : Nat) (b o : Nat) : fieldA off (.pointer (some ⟨b, o, none⟩)) = some (.pointer (some ⟨b, o + off, none⟩)) := by simp [fieldA, Addr.add_lit]
@[simp] theorem fieldV_agg (g : Option Nat) (off : Nat) (cs : Array Value) : fieldV g off (.agg cs) = partV g cs off := rfl
@[simp] theorem partV_none (cs : Array Value) (off : Nat) : partV none cs off = cs[off]? := rfl
@[simp] theorem partV_some (n : Nat) (cs : Array Value) (off : Nat) : partV (some n) cs off = some (.agg (cs.extract off (off + n))) := rfl
@[simp] theorem idxA_slice (size : Nat) (b o len cap : Nat) (k : IntKind) (n : Int) : idxA size (.slice (some ⟨b, o, none⟩) len cap) (.int k n) = if 0 ≤ n ∧ n < len then some (.pointer (some ⟨b, o + n.toNat * size, none⟩)) else none := by
  simp [idxA, Addr.add_lit]
@[simp] theorem idxR_ptr (len size : Nat) (b o : Nat) (k : IntKind) (n : Int) : idxR len size (.pointer (some ⟨b, o, none⟩)) (.int k n) = if 0 ≤ n ∧ n < len then some (.pointer (some ⟨b, o + n.toNat * size, none⟩)) else none := by
  simp [idxR, Addr.add_lit]
@[simp] theorem extV_tuple (i : Nat) (vs : Array Value) : extV i (.tuple vs) = vs[i]? := rfl
@[simp] theorem lenS_string (s : ByteArray) : lenS (.string s) = some (.int .i64 s.size) := rfl
@[simp] theorem lenL_slice (a : Option Addr) (n c : Nat) : lenL (.slice a n c) = some (.int .i64 n) := rfl
@[simp] theorem capV_slice (a : Option Addr) (n c : Nat) : capV (.slice a n c) = some (.int .i64 c) := rfl
@[simp] theorem notV_bool (b : Bool) : notV (.bool b) = some (.bool !b) := rfl
@[simp] theorem cplV_int (k : IntKind) (n : Int) : cplV (.int k n) = some (.int k (k.wrap (BitVec.ofInt k.bits (if k.signed then -1 else k.max) ^^^ BitVec.ofInt k.bits n).toNat)) := rfl
@[simp] theorem negV_int (k : IntKind) (n : Int) : negV (.int k n) = some (.int k (k.wrap (0 - n))) := rfl
@[simp] theorem cvtI_int (k j : IntKind) (n : Int) : cvtI k (.int j n) = some (.int k (k.wrap n)) := rfl
@[simp] theorem cvtS_string (s : ByteArray) : cvtS (.string s) = some (.string s) := rfl
@[simp] theorem binV_int (op : BinOp) (k : IntKind) (a b : Int) : binV op (.int k a) (.int k b) = intBin op k a b := by simp [binV]
@[simp] theorem binV_str (op : BinOp) (a b : ByteArray) : binV op (.string a) (.string b) = strBin op a b := rfl
section
variable (k : IntKind) (a b : Int)
@[simp] theorem intBin_add : intBin .add k a b = some (.int k (k.wrap (a + b))) := rfl
@[simp] theorem intBin_sub : intBin .sub k a b = some (.int k (k.wrap (a - b))) := rfl
@[simp] theorem intBin_mul : intBin .mul k a b = some (.int k (k.wrap (a * b))) := rfl
@[simp] theorem intBin_quo : intBin .quo k a b = if b = 0 then none else some (.int k (k.wrap (a.tdiv b))) := rfl
@[simp] theorem intBin_rem : intBin .rem k a b = if b = 0 then none else some (.int k (a.tmod b)) := rfl
@[simp] theorem intBin_eql : intBin .eql k a b = some (.bool (decide (a = b))) := by simp only [intBin]; rw [Bool.beq_eq_decide_eq]
@[simp] theorem intBin_neq : intBin .neq k a b = some (.bool (!decide (a = b))) := by simp only [intBin, bne]; rw [Bool.beq_eq_decide_eq]
@[simp] theorem intBin_lss : intBin .lss k a b = some (.bool (decide (a < b))) := rfl
@[simp] theorem intBin_leq : intBin .leq k a b = some (.bool (decide (a ≤ b))) := rfl
@[simp] theorem intBin_gtr : intBin .gtr k a b = some (.bool (decide (a > b))) := rfl
@[simp] theorem intBin_geq : intBin .geq k a b = some (.bool (decide (a ≥ b))) := rfl
end
section
variable (a b : ByteArray)
@[simp] theorem strBin_eql : strBin .eql a b = some (.bool (a.toList == b.toList)) := rfl
@[simp] theorem strBin_neq : strBin .neq a b = some (.bool !(a.toList == b.toList)) := rfl
@[simp] theorem strBin_lss : strBin .lss a b = some (.bool (Op.bytesLess a.toList b.toList)) := rfl
end
@[simp] theorem eqV_of {sh : EqSh} {x y : Value} : eqV sh x y = (eqlV sh x y).map Value.bool := by unfold eqV; cases eqlV sh x y <;> rfl
@[simp] theorem neV_of {sh : EqSh} {x y : Value} : neV sh x y = (eqlV sh x y).map fun b => Value.bool !b := by unfold neV; cases eqlV sh x y <;> rfl
@[simp] theorem eqlV_one (k : EqK) (x y : Value) : eqlV (.one k) x y = eqPrim k x y := rfl
@[simp] theorem eqlV_offs (l : List (EqK × Nat)) (xs ys : Array Value) : eqlV (.offs l) (.agg xs) (.agg ys) = eqOffs xs ys l := rfl
@[simp] theorem eqPrim_bool (a b : Bool) : eqPrim .bool (.bool a) (.bool b) = some (a == b) := rfl
@[simp] theorem eqPrim_int (k : IntKind) (a b : Int) : eqPrim .int (.int k a) (.int k b) = some (decide (a = b)) := by simp only [eqPrim, if_true]; rw [Bool.beq_eq_decide_eq]
@[simp] theorem eqPrim_str (a b : ByteArray) : eqPrim .str (.string a) (.string b) = some (a.toList == b.toList) := rfl
@[simp] theorem eqPrim_ptr0 (b : Option Addr) : eqPrim .ptr (.pointer none) (.pointer b) = some b.isNone := rfl
@[simp] theorem eqPrim_ptr1 (a : Addr) : eqPrim .ptr (.pointer (some a)) (.pointer none) = some false := rfl
@[simp] theorem eqPrim_sl0 (b : Option Addr) (n c m d : Nat) : eqPrim .sl (.slice none n c) (.slice b m d) = some b.isNone := rfl
@[simp] theorem eqPrim_sl1 (a : Addr) (n c m d : Nat) : eqPrim .sl (.slice (some a) n c) (.slice none m d) = some false := rfl
@[simp] theorem eqPrim_ifn0 : eqPrim .ifn .nilIface .nilIface = some true := rfl
@[simp] theorem eqPrim_ifn1 (t : TypeId) (v : Value) : eqPrim .ifn (.iface t v) .nilIface = some false := rfl
@[simp] theorem eqPrim_ifc1 (t : TypeId) (v : Value) : eqPrim .ifc (.iface t v) .nilIface = some false := rfl
@[simp] theorem isCell_iface (t : TypeId) (v : Value) : isCell (.iface t v) = true := by unfold isCell; rfl
@[simp] theorem isCell_nilIface : isCell .nilIface = true := by unfold isCell; rfl
@[simp] theorem cells_iface (t : TypeId) (v : Value) : (Value.iface t v).cells = #[.iface t v] := rfl
@[simp] theorem cells_nilIface : (Value.nilIface).cells = #[.nilIface] := rfl
@[simp] theorem nilChk_iface (t : TypeId) (v : Value) : nilChk (.iface t v) = some (.iface t v) := rfl
@[simp] theorem eqOffs_nil (xs ys : Array Value) : eqOffs xs ys [] = some true := rfl
theorem eqOffs_cons (xs ys : Array Value) (k : EqK) (o : Nat) (r : List (EqK × Nat)) (a b : Value) (c : Bool) (h1 : xs[o]? = some a) (h2 : ys[o]? = some b) (h3 : eqPrim k a b = some c) :
    eqOffs xs ys ((k, o) :: r) = if c = true then eqOffs xs ys r else some false := by
  simp only [eqOffs, h1, h2, h3]
  cases c <;> rfl

/-- Both, where the first is known. -/
def andO (c : Bool) (o : Option Bool) : Option Bool := bif c then o else some false
@[simp] theorem andO_some (c q : Bool) : andO c (some q) = some (c && q) := by cases c <;> rfl
@[simp] theorem eqOffs_cons' (xs ys : Array Value) (k : EqK) (o : Nat) (r : List (EqK × Nat)) : eqOffs xs ys ((k, o) :: r) = (xs[o]?).bind fun a => (ys[o]?).bind fun b => (eqPrim k a b).bind fun c => andO c (eqOffs xs ys r) := by
  simp only [eqOffs]
  cases xs[o]? with
  | none => rfl
  | some a =>
    cases ys[o]? with
    | none => rfl
    | some b =>
      simp only [Option.bind_some]
      cases eqPrim k a b with
      | none => rfl
      | some c => cases c <;> rfl

/- Blocks. -/
@[simp] theorem bk_drew (w : World) (b : Nat) : bk w.drew b = bk w b := rfl
theorem bk_lt {w : World} {b : Nat} {l : List Value} (h : bk w b = some l) : b < w.heap.size := by
  obtain ⟨c, e, m, hb, _⟩ := bk_cells h
  exact (Array.getElem?_eq_some_iff.1 hb).1
theorem bk_sto_ne {w : World} {b b' : Nat} (h : b' ≠ b) (o : Nat) (vs : List Value) : bk (sto w b o vs) b' = bk w b' := by
  unfold bk sto
  simp only [Array.getElem?_modify]
  rw [if_neg (Ne.symm h)]
@[simp] theorem bk_sto_eq (w : World) (b o : Nat) (vs : List Value) : bk (sto w b o vs) b = (bk w b).map fun l => setL l o vs := by
  cases h : bk w b with
  | some l => rw [bk_sto_same h]; rfl
  | none =>
    unfold bk sto at *
    simp only [Array.getElem?_modify, if_true]
    cases hh : w.heap[b]? with
    | none => simp
    | some x => cases x <;> simp_all
@[simp] theorem wr_drew (w : World) (b : Nat) : wr w.drew b = wr w b := rfl
theorem wr_alloc_at {w : World} {n : Nat} (h : n = w.heap.size) (c : Array Value) (t : TypeId) : wr (w.alloc (.cells c t)) n = true := by
  subst h
  have : (w.alloc (.cells c t)).heap[w.heap.size]? = some (.cells c t) := by
    show (w.heap.push _)[w.heap.size]? = _
    simp
  unfold wr
  rw [this]
  rfl
theorem wr_alloc_lt {w : World} {b : Nat} (h : b < w.heap.size) (o : Obj) : wr (w.alloc o) b = wr w b := by
  unfold wr
  simp only [World.alloc, Array.getElem?_push]
  rw [if_neg (by omega)]
theorem wr_of_heap {w w' : World} {b : Nat} (h : w'.heap[b]? = w.heap[b]?) : wr w' b = wr w b := by unfold wr; rw [h]
theorem bk_sto (w : World) (b o : Nat) (vs : List Value) (b' : Nat) : bk (sto w b o vs) b' = if b' = b then (bk w b).map fun l => setL l o vs else bk w b' := by
  by_cases h : b' = b
  · subst h; simp
  · rw [if_neg h, bk_sto_ne h]
theorem bk_alloc_at {w : World} {n : Nat} (h : n = w.heap.size) (c : Array Value) (t : TypeId) : bk (w.alloc (.cells c t)) n = some c.toList := by
  subst h
  have : (w.alloc (.cells c t)).heap[w.heap.size]? = some (.cells c t) := by
    show (w.heap.push _)[w.heap.size]? = _
    simp
  unfold bk
  rw [this]
theorem bk_alloc_lt {w : World} {b : Nat} (h : b < w.heap.size) (o : Obj) : bk (w.alloc o) b = bk w b := by
  unfold bk
  simp only [World.alloc, Array.getElem?_push]
  rw [if_neg (by omega)]
theorem bk_of_heap {w w' : World} {b : Nat} (h : w'.heap[b]? = w.heap[b]?) : bk w' b = bk w b := by unfold bk; rw [h]
@[simp] theorem size_sto (w : World) (b o : Nat) (vs : List Value) : (sto w b o vs).heap.size = w.heap.size := by simp [sto]
@[simp] theorem setL_nil (l : List Value) (o : Nat) : setL l o [] = l := rfl
@[simp] theorem setL_cons (l : List Value) (o : Nat) (v : Value) (r : List Value) : setL l o (v :: r) = setL (l.set o v) (o + 1) r := rfl

@[simp] theorem ld1_drew (p : Value) (w : World) : ld1 p w.drew = ld1 p w := rfl
@[simp] theorem ldA_drew (n : Nat) (p : Value) (w : World) : ldA n p w.drew = ldA n p w := rfl
theorem ldC_bk (w : World) (b o : Nat) : ldC w ⟨b, o, none⟩ = (bk w b).bind (·[o]?) := by unfold ldC; cases bk w b <;> rfl
@[simp] theorem ld1_ptr (w : World) (b o : Nat) : ld1 (.pointer (some ⟨b, o, none⟩)) w = (bk w b).bind (·[o]?) := ldC_bk w b o
theorem ldN_bk {w : World} {b o n : Nat} {l : List Value} (h : bk w b = some l) (hn : o + n ≤ l.length) : ldN w ⟨b, o, none⟩ n = some ((l.drop o).take n) := by
  unfold ldN
  split
  · rename_i h0; subst h0; simp
  · simp only [h]; rw [if_pos hn]
theorem ldA_bk {w : World} {b o n : Nat} {l : List Value} (h : bk w b = some l) (hn : o + n ≤ l.length) : ldA n (.pointer (some ⟨b, o, none⟩)) w = some (.agg ((l.drop o).take n).toArray) := by
  simp only [ldA, ldN_bk h hn]
@[simp] theorem ldA_ptr (w : World) (b o n : Nat) : ldA (n + 1) (.pointer (some ⟨b, o, none⟩)) w = (bk w b).bind fun l => if o + (n + 1) ≤ l.length then some (.agg ((l.drop o).take (n + 1)).toArray) else none := by
  simp only [ldA, ldN, Nat.add_one_ne_zero, if_false]
  cases bk w b with
  | none => rfl
  | some l =>
    simp only [Option.bind_some]
    by_cases h : o + (n + 1) ≤ l.length
    · simp only [h, if_true]
    · simp only [h, if_false]

/-- n cells from place o on, of block b of w, may be written. -/
abbrev okAt (w : World) (b o n : Nat) : Prop := (∃ l, bk w b = some l ∧ o + n ≤ l.length) ∧ wr w b = true
theorem okAt_some {w : World} {b o n : Nat} {l : List Value} (h : bk w b = some l) : okAt w b o n ↔ o + n ≤ l.length ∧ wr w b = true := by
  constructor
  · rintro ⟨⟨l', h1, h2⟩, h3⟩; rw [h] at h1; cases h1; exact ⟨h2, h3⟩
  · rintro ⟨h1, h2⟩; exact ⟨⟨l, h, h1⟩, h2⟩
theorem Run_stM {w : World} {b o n : Nat} {v : Value} {Q : Value → World → Prop} (hn : v.cells.size = n) (hc : v.cells.toList.all isCell = true) (h : okAt w b o n) :
    Run (stM n (.pointer (some ⟨b, o, none⟩)) v) w Q ↔ Q undef (sto w b o v.cells.toList) := by
  obtain ⟨⟨l, hb, hl⟩, hw⟩ := h
  have e : stM n (.pointer (some ⟨b, o, none⟩)) v w = some (undef, sto w b o v.cells.toList) := by
    by_cases hne : v.cells.toList = []
    · simp only [stM, hn, if_true, stN, hne, sto_nil]
    · simp only [stM, hn, if_true, stN, hb]
      rw [if_neg hne, if_pos ⟨⟨by simpa [hn] using hl, hc⟩, hw⟩]
  constructor
  · rintro ⟨r, w', h1, q⟩; rw [e] at h1; cases h1; exact q
  · intro q; exact ⟨_, _, e, q⟩
theorem cells_of_isCell {v : Value} (hv : isCell v = true) : v.cells = #[v] := by cases v <;> first | rfl | cases hv
theorem Run_st1 {w : World} {b o : Nat} {v : Value} {Q : Value → World → Prop} (hh : okAt w b o 1 ∧ isCell v = true) :
    Run (stM 1 (.pointer (some ⟨b, o, none⟩)) v) w Q ↔ Q undef (sto w b o [v]) := by
  obtain ⟨h, hv⟩ := hh
  have hc := cells_of_isCell hv
  have := Run_stM (Q := Q) (v := v) (n := 1) (by simp [hc]) (by simp [hc, hv]) h
  simpa [hc] using this
@[simp] theorem Run_stM_iff {w : World} {b o n : Nat} {v : Value} {Q : Value → World → Prop} :
    Run (stM (n + 1) (.pointer (some ⟨b, o, none⟩)) v) w Q ↔ v.cells.size = n + 1 ∧ v.cells.toList.all isCell = true ∧ (∃ l, bk w b = some l ∧ o + (n + 1) ≤ l.length) ∧ wr w b = true ∧ Q undef (sto w b o v.cells.toList) := by
  constructor
  · rintro ⟨r, w', h, q⟩
    simp only [stM] at h
    split at h
    · rename_i hn
      have hne : v.cells.toList ≠ [] := by
        intro he
        have : v.cells.toList.length = 0 := by rw [he]; rfl
        simp at this
        rw [this] at hn
        simp at hn
      simp only [stN, if_neg hne] at h
      cases hb : bk w b with
      | none => simp [hb] at h
      | some l =>
        simp only [hb] at h
        split at h
        · rename_i hc
          split at hc
          · rename_i hh
            cases hc; cases h
            refine ⟨hn, hh.1.2, ⟨l, rfl, ?_⟩, hh.2, q⟩
            have := hh.1.1
            simp [hn] at this
            omega
          · cases hc
        · cases h
    · cases h
  · rintro ⟨h1, h2, h3, h4, q⟩
    exact (Run_stM h1 h2 ⟨h3, h4⟩).2 q
theorem Run_stA {w : World} {b o n : Nat} {cs : Array Value} {Q : Value → World → Prop} (h : okAt w b o n ∧ cs.size = n ∧ cs.toList.all isCell = true) :
    Run (stM n (.pointer (some ⟨b, o, none⟩)) (.agg cs)) w Q ↔ Q undef (sto w b o cs.toList) := Run_stM (v := .agg cs) h.2.1 h.2.2 h.1

/-- From w to w' nothing has turned but blocks of F, and those that are new. -/
structure Fr (F : Nat → Prop) (w w' : World) : Prop where
  os : w'.os = w.os
  tape : w'.tape = w.tape
  output : w'.output = w.output
  size : w.heap.size ≤ w'.heap.size
  block : ∀ b, b < w.heap.size → ¬ F b → w'.heap[b]? = w.heap[b]?
theorem Fr.refl (F : Nat → Prop) (w : World) : Fr F w w := ⟨rfl, rfl, rfl, Nat.le_refl _, fun _ _ _ => rfl⟩
theorem Fr.trans {F G : Nat → Prop} {w w1 w2 : World} (h : Fr F w w1) (h' : Fr G w1 w2) (hg : ∀ b, b < w.heap.size → G b → F b) : Fr F w w2 :=
  ⟨h'.os.trans h.os, h'.tape.trans h.tape, h'.output.trans h.output, Nat.le_trans h.size h'.size, fun b hb hf =>
    (h'.block b (Nat.lt_of_lt_of_le hb h.size) fun hG => hf (hg b hb hG)).trans (h.block b hb hf)⟩
theorem Fr.mono {F G : Nat → Prop} {w w' : World} (h : Fr F w w') (hg : ∀ b, F b → G b) : Fr G w w' := ⟨h.os, h.tape, h.output, h.size, fun b hb hf => h.block b hb fun hF => hf (hg b hF)⟩
theorem Fr.bk {F : Nat → Prop} {w w' : World} (h : Fr F w w') {b : Nat} (hb : b < w.heap.size) (hf : ¬ F b) : bk w' b = bk w b := bk_of_heap (h.block b hb hf)
theorem Fr.bk_some {F : Nat → Prop} {w w' : World} (h : Fr F w w') {b : Nat} {l : List Value} (hb : Go.Lift.bk w b = some l) (hf : ¬ F b) : Go.Lift.bk w' b = some l := by
  rw [h.bk (bk_lt hb) hf]; exact hb
theorem Fr.wr {F : Nat → Prop} {w w' : World} (h : Fr F w w') {b : Nat} (hb : b < w.heap.size) (hf : ¬ F b) : wr w' b = wr w b := wr_of_heap (h.block b hb hf)
theorem Fr.drew {F : Nat → Prop} {w w' : World} (h : Fr F w w') : Fr F w w'.drew := ⟨h.os, h.tape, h.output, h.size, h.block⟩
theorem Fr.alloc {F : Nat → Prop} {w w' : World} (h : Fr F w w') (o : Obj) : Fr F w (w'.alloc o) := by
  refine ⟨h.os, h.tape, h.output, by have := h.size; simp; omega, fun b hb hf => ?_⟩
  simp only [World.alloc, Array.getElem?_push]
  rw [if_neg (by have := h.size; omega)]
  exact h.block b hb hf
theorem Fr.sto {F : Nat → Prop} {w w' : World} (h : Fr F w w') {b : Nat} (hb : F b ∨ w.heap.size ≤ b) (o : Nat) (vs : List Value) : Fr F w (sto w' b o vs) := by
  refine ⟨h.os, h.tape, h.output, by have := h.size; simp; omega, fun b' hb' hf => ?_⟩
  have hne : b ≠ b' := by rintro rfl; rcases hb with hb | hb; exact hf hb; omega
  simp only [Go.Lift.sto, Array.getElem?_modify]
  rw [if_neg hne]
  exact h.block b' hb' hf

end Go.Lift
