/-
  THE LIFT, part F: a region that draws its order comes, in whatever order, to what it comes to in the order of its text, where its steps are in a chain and no look into memory hangs on where among the steps it is taken.
-/
import Derived.Test.YthlpfhjcdedhgaaDoorLiftE
namespace Go.Lift
set_option linter.unusedSimpArgs false

def cn (f : Nat → Bool) : Nat → Nat
  | 0 => 0
  | k + 1 => cn f k + (if f k then 1 else 0)
theorem cn_congr {f g : Nat → Bool} : ∀ {k : Nat}, (∀ j, j < k → f j = g j) → cn f k = cn g k
  | 0, _ => rfl
  | k + 1, h => by simp only [cn, cn_congr (k := k) fun j hj => h j (by omega), h k (by omega)]
theorem cn_mono {f g : Nat → Bool} : ∀ {k : Nat}, (∀ j, j < k → f j = true → g j = true) → cn f k ≤ cn g k
  | 0, _ => Nat.le_refl _
  | k + 1, h => by
    have ih := cn_mono (k := k) (f := f) (g := g) fun j hj => h j (by omega)
    simp only [cn]
    by_cases hf : f k = true
    · rw [if_pos hf, if_pos (h k (by omega) hf)]; omega
    · rw [if_neg hf]; split <;> omega
theorem cn_add {f : Nat → Bool} {i : Nat} (hf : f i = false) : ∀ {k : Nat}, i < k → cn (fun j => f j || j == i) k = cn f k + 1
  | 0, h => absurd h (Nat.not_lt_zero _)
  | k + 1, h => by
    simp only [cn]
    by_cases hk : i = k
    · subst hk
      have : cn (fun j => f j || j == i) i = cn f i := cn_congr fun j hj => by
        have : (j == i) = false := by simp; omega
        simp [this]
      simp [this, hf]
    · have ih := cn_add hf (k := k) (by omega)
      have hne : (k == i) = false := by simp; omega
      simp only [ih, hne, Bool.or_false]
      omega
theorem cn_le {f : Nat → Bool} : ∀ {k : Nat}, cn f k ≤ k
  | 0 => Nat.le_refl _
  | k + 1 => by have := cn_le (f := f) (k := k); simp only [cn]; split <;> omega
theorem cn_split {f : Nat → Bool} {i : Nat} : ∀ {k : Nat}, i ≤ k → cn (fun j => f j && Nat.blt j i) k = cn f i
  | 0, h => by
    have : i = 0 := by omega
    subst this; rfl
  | k + 1, h => by
    by_cases hk : i = k + 1
    · subst hk
      exact cn_congr fun j hj => by
        have : Nat.blt j (k + 1) = true := Nat.ble_eq_true_of_le hj
        simp [this]
    · have ih := cn_split (f := f) (i := i) (k := k) (by omega)
      have : Nat.blt k i = false := by
        cases hb : Nat.blt k i with
        | false => rfl
        | true => have := Nat.le_of_ble_eq_true hb; omega
      simp only [cn, ih, this, Bool.and_false, Bool.false_eq_true, if_false, Nat.add_zero]

/- What is ahead of what: by the edges that always bind. -/
def maskOf (acc : List Nat) (l : List Edge) : Nat := l.foldl (fun s e => bif Region.binds .any e then s ||| (1 <<< e.on) ||| acc.getD e.on 0 else s) 0
def masksFrom : List Oper → List Nat → List Nat
  | [], acc => acc
  | o :: r, acc => masksFrom r (acc ++ [maskOf acc o.after.toList])
def masks (ops : Array Oper) : List Nat := masksFrom ops.toList []

theorem maskOf_bit (acc : List Nat) (j : Nat) : ∀ (l : List Edge) (s : Nat), (l.foldl (fun s e => bif Region.binds .any e then s ||| (1 <<< e.on) ||| acc.getD e.on 0 else s) s).testBit j = true →
    s.testBit j = true ∨ ∃ e ∈ l, Region.binds .any e = true ∧ (e.on = j ∨ (acc.getD e.on 0).testBit j = true)
  | [], s, h => .inl h
  | e :: l, s, h => by
    simp only [List.foldl_cons] at h
    rcases maskOf_bit acc j l _ h with h1 | ⟨e', he', hb⟩
    · cases hb : Region.binds .any e with
      | false => simp only [hb, cond_false] at h1; exact .inl h1
      | true =>
        simp only [hb, cond_true, Nat.testBit_or, Bool.or_eq_true] at h1
        rcases h1 with (h1 | h1) | h1
        · exact .inl h1
        · refine .inr ⟨e, by simp, hb, .inl ?_⟩
          rw [Nat.testBit_shiftLeft] at h1
          simp only [Bool.and_eq_true, decide_eq_true_eq] at h1
          have h2 : (1 : Nat).testBit (j - e.on) = true := h1.2
          have h3 : j - e.on = 0 := by
            by_cases h0 : j - e.on = 0
            · exact h0
            · exfalso
              have : (1 : Nat).testBit (j - e.on) = false := by
                rw [← Nat.pow_zero 2, Nat.testBit_two_pow]
                simp; omega
              rw [this] at h2; cases h2
          have := h1.1
          omega
        · exact .inr ⟨e, by simp, hb, .inr h1⟩
    · exact .inr ⟨e', by simp [he'], hb⟩

theorem masksFrom_prefix : ∀ (l : List Oper) (acc : List Nat) (i : Nat), i < acc.length → (masksFrom l acc).getD i 0 = acc.getD i 0
  | [], acc, i, h => rfl
  | o :: r, acc, i, h => by
    simp only [masksFrom]
    rw [masksFrom_prefix r _ i (by simp; omega)]
    simp [List.getD, List.getElem?_append_left h]
theorem masksFrom_at : ∀ (l : List Oper) (acc : List Nat) (i : Nat) (o : Oper), l[i]? = some o →
    ∃ acc', acc'.length = acc.length + i ∧ (masksFrom l acc).getD (acc.length + i) 0 = maskOf acc' o.after.toList ∧ ∀ k, k < acc.length + i → acc'.getD k 0 = (masksFrom l acc).getD k 0
  | [], acc, i, o, h => by simp at h
  | o' :: r, acc, 0, o, h => by
    simp at h; subst h
    refine ⟨acc, rfl, ?_, fun k hk => ?_⟩
    · simp only [masksFrom]
      rw [masksFrom_prefix r _ _ (by simp)]
      simp [List.getD]
    · simp only [masksFrom]
      rw [masksFrom_prefix r _ _ (by simp; omega)]
      simp [List.getD, List.getElem?_append_left (show k < acc.length by simpa using hk)]
  | o' :: r, acc, i + 1, o, h => by
    simp at h
    obtain ⟨acc', h1, h2, h3⟩ := masksFrom_at r (acc ++ [maskOf acc o'.after.toList]) i o h
    refine ⟨acc', by simp at h1; omega, ?_, fun k hk => ?_⟩
    · simp only [masksFrom]
      have : acc.length + (i + 1) = (acc ++ [maskOf acc o'.after.toList]).length + i := by simp; omega
      rw [this]; exact h2
    · simp only [masksFrom]
      exact h3 k (by simp; omega)

/-- What is closed under the edges is closed under 'ahead of'. -/
theorem masks_closed {ops : Array Oper} {L : Nat → Bool} (hc : ∀ i o, ops[i]? = some o → L i = true → ∀ e ∈ o.after, Region.binds .any e = true → L e.on = true) :
    ∀ (i j : Nat), i < ops.size → L i = true → ((masks ops).getD i 0).testBit j = true → L j = true := by
  intro i
  induction i using Nat.strongRecOn with
  | _ i ih =>
    intro j hi hl hb
    obtain ⟨o, ho⟩ : ∃ o, ops[i]? = some o := ⟨ops[i], by simp [hi]⟩
    obtain ⟨acc', h1, h2, h3⟩ := masksFrom_at ops.toList [] i o (by simpa using ho)
    simp only [List.length_nil, Nat.zero_add] at h1 h2 h3
    have hb' : (maskOf acc' o.after.toList).testBit j = true := by rw [← h2]; exact hb
    rcases maskOf_bit acc' j _ 0 hb' with h | ⟨e, he, hbind, h⟩
    · simp at h
    · have hle := hc i o ho hl e (by simpa using he) hbind
      rcases h with h | h
      · rw [← h]; exact hle
      · by_cases hlt : e.on < i
        · exact ih e.on hlt j (by omega) hle (by rw [h3 e.on hlt] at h; exact h)
        · exfalso
          have hnone : acc'[e.on]? = none := List.getElem?_eq_none (by omega)
          simp [List.getD, hnone] at h

/- The names that an operation bears. -/
def looks (ops : Array Oper) (o : Oper) : List Tmp := o.looksAt ops
def tmpMem (d : Option Tmp) (l : List Tmp) : Bool := match d with
  | some d => l.any (Nat.beq d)
  | none => false
def sameDst (d e : Option Tmp) : Bool := match d, e with
  | some d, some e => Nat.beq d e
  | _, _ => false
/-- Operation i (ahead in the text) and j may not be exchanged. -/
def clash (ops : Array Oper) (isA : Oper → Bool) (x y : Oper) : Bool :=
  (isA x && isA y) || tmpMem x.dst (looks ops y) || tmpMem y.dst (looks ops x) || sameDst x.dst y.dst
def pairsOK (ops : Array Oper) (isA : Oper → Bool) (ms : List Nat) : Bool :=
  (List.range ops.size).all fun j => (List.range j).all fun i => match ops[i]?, ops[j]? with
    | some x, some y => !clash ops isA x y || (ms.getD j 0).testBit i
    | _, _ => true
def edgesOK (ops : Array Oper) : Bool :=
  (List.range ops.size).all fun i => match ops[i]? with
    | some o => o.after.toList.all fun e => !Region.binds .any e || Nat.blt e.on i
    | none => true
def drawOK (ops : Array Oper) (isA : Oper → Bool) : Bool := edgesOK ops && Region.noSelect ops && pairsOK ops isA (masks ops)

section
variable {P : Program} {ops : Array Oper} {isA : Oper → Bool}

def actAt (ops : Array Oper) (isA : Oper → Bool) (i : Nat) : Bool := match ops[i]? with
  | some o => isA o
  | none => false
def dstAt (ops : Array Oper) (i : Nat) : Option Tmp := (ops[i]?).bind (·.dst)
def AL (ops : Array Oper) (val : Nat → Value) (a : Act) (p : Nat → Bool) : Nat → Act
  | 0 => a
  | k + 1 => if p k then (AL ops val a p k).put (dstAt ops k) (val k) else AL ops val a p k
def lo (ops : Array Oper) (isA : Oper → Bool) (i : Nat) : Nat := cn (fun j => actAt ops isA j && ((masks ops).getD i 0).testBit j) ops.size
def hi (ops : Array Oper) (isA : Oper → Bool) (i : Nat) : Nat := cn (fun j => actAt ops isA j && !(((masks ops).getD j 0).testBit i) && !(Nat.beq i j)) ops.size

theorem AL_congr {val : Nat → Value} {a : Act} {p q : Nat → Bool} : ∀ {k : Nat}, (∀ j, j < k → p j = q j) → AL ops val a p k = AL ops val a q k
  | 0, _ => rfl
  | k + 1, h => by simp only [AL, AL_congr (k := k) fun j hj => h j (by omega), h k (by omega)]

theorem AL_defers {val : Nat → Value} {a : Act} {p : Nat → Bool} : ∀ {k : Nat}, (AL ops val a p k).defers = a.defers
  | 0 => rfl
  | k + 1 => by
    simp only [AL]
    split
    · cases dstAt ops k <;> exact AL_defers (k := k)
    · exact AL_defers (k := k)

theorem AL_size {val : Nat → Value} {a : Act} {p : Nat → Bool} : ∀ {k : Nat}, (AL ops val a p k).tmps.size = a.tmps.size
  | 0 => rfl
  | k + 1 => by
    simp only [AL]
    split
    · cases dstAt ops k <;> simp [Act.put, AL_size (k := k)]
    · exact AL_size (k := k)

/-- What a slot holds hangs on those that write it alone. -/
theorem AL_at {val : Nat → Value} {a : Act} {p q : Nat → Bool} {t : Tmp} : ∀ {k : Nat}, (∀ j, j < k → dstAt ops j = some t → p j = q j) → (AL ops val a p k).tmps[t]? = (AL ops val a q k).tmps[t]?
  | 0, _ => rfl
  | k + 1, h => by
    have ih := AL_at (k := k) (val := val) (a := a) (p := p) (q := q) (t := t) fun j hj => h j (by omega)
    have side : ∀ r : Nat → Bool, dstAt ops k ≠ some t → (AL ops val a r (k + 1)).tmps[t]? = (AL ops val a r k).tmps[t]? := by
      intro r hne
      simp only [AL]
      split
      · cases hd : dstAt ops k with
        | none => rfl
        | some d =>
          have : d ≠ t := fun e => hne (by rw [hd, e])
          simp [Act.put, Array.getElem?_setIfInBounds_ne this]
      · rfl
    by_cases hd : dstAt ops k = some t
    · have := h k (by omega) hd
      simp only [AL, this, hd]
      split
      · simp only [Act.put, Array.getElem?_setIfInBounds, if_true, AL_size]
      · exact ih
    · rw [side p hd, side q hd, ih]

/-- One operation more. -/
theorem AL_add {val : Nat → Value} {a : Act} {p : Nat → Bool} {i : Nat} (hp : p i = false) : ∀ {k : Nat}, i < k → (∀ j, j < k → i < j → p j = true → ∀ d, dstAt ops i = some d → dstAt ops j ≠ some d) →
    AL ops val a (fun j => p j || j == i) k = (AL ops val a p k).put (dstAt ops i) (val i)
  | 0, h, _ => absurd h (Nat.not_lt_zero _)
  | k + 1, h, hd => by
    by_cases hk : i = k
    · subst hk
      have e : AL ops val a (fun j => p j || j == i) i = AL ops val a p i := AL_congr fun j hj => by
        have : (j == i) = false := by simp; omega
        simp [this]
      simp [AL, e, hp]
    · have ih := AL_add hp (val := val) (a := a) (k := k) (by omega) fun j hj => hd j (by omega)
      have hne : (k == i) = false := by simp; omega
      simp only [AL, hne, Bool.or_false]
      split
      · rename_i hpk
        rw [ih]
        have hdk := hd k (by omega) (by omega) hpk
        exact Act.put_comm _ _ _ hdk
      · exact ih

structure Canon (P : Program) (ops : Array Oper) (isA : Oper → Bool) (a : Act) (val : Nat → Value) (Wd : Nat → World) : Prop where
  step : ∀ i o, ops[i]? = some o → Region.wanted o (yielded ops (AL ops val a (fun _ => true) i).tmps) = true →
    (isA o = true → Got P (execOp (AL ops val a (fun _ => true) i).eval o) (Wd (cn (actAt ops isA) i)) (val i) (Wd (cn (actAt ops isA) i + 1))) ∧
    (isA o = false → ∀ c, lo ops isA i ≤ c → c ≤ hi ops isA i → (execOp (AL ops val a (fun _ => true) i).eval o).run P (Wd c) = .ok (.value (val i)) (Wd c))
  pass : ∀ i o, ops[i]? = some o → Region.wanted o (yielded ops (AL ops val a (fun _ => true) i).tmps) = false →
    val i = undef ∧ (isA o = true → Wd (cn (actAt ops isA) i + 1) = Wd (cn (actAt ops isA) i))

theorem tmpMem_of {d : Tmp} {l : List Tmp} (h : d ∈ l) : tmpMem (some d) l = true := by
  simp only [tmpMem, List.any_eq_true]
  exact ⟨d, h, Nat.beq_refl d⟩

theorem getD_lt {l : Array Bool} {j : Nat} (h : j < l.size) : l.getD j true = l.getD j false := by
  simp [Array.getD, h]

theorem upon_got {Q : Exit → Act → World → Prop} {o : Oper} {a : Act} {w w' : World} {v : Value} {K : Act → World → Prop} (h : Got P (execOp a.eval o) w v w') (hK : K (a.put o.dst v) w') : o.wp P a w K Q := by
  unfold Oper.wp
  rcases h with h | ⟨rfl, h⟩ | ⟨f, args, w1, h, hc⟩
  · rw [h]; exact hK
  · rw [h]; exact hK
  · rw [h]
    exact hc.mono fun e w'' ⟨he, hw⟩ => by subst he; subst hw; exact hK

theorem draw_any (hok : drawOK ops isA = true) {Q : Exit → Act → World → Prop} {a0 : Act} {val : Nat → Value} {Wd : Nat → World} (C : Canon P ops isA a0 val Wd)
    (hQ : Q .normal (AL ops val a0 (fun _ => true) ops.size) (Wd (cn (actAt ops isA) ops.size))) :
    ∀ (fuel : Nat) (listed : Array Bool), listed.size = ops.size → cn (fun j => !listed.getD j false) ops.size ≤ fuel →
      (∀ i o, ops[i]? = some o → listed.getD i false = true → ∀ e ∈ o.after, Region.binds .any e = true → listed.getD e.on false = true) →
      wpAny P .any ops Q fuel listed (AL ops val a0 (fun j => listed.getD j false) ops.size) (Wd (cn (fun j => actAt ops isA j && listed.getD j false) ops.size)) := by
  simp only [drawOK, Bool.and_eq_true] at hok
  obtain ⟨⟨hedge, hsel⟩, hpairs⟩ := hok
  have hE : ∀ i o, ops[i]? = some o → ∀ e ∈ o.after, Region.binds .any e = true → e.on < i := by
    intro i o ho e he hb
    simp only [edgesOK, List.all_eq_true, List.mem_range] at hedge
    have hlt : i < ops.size := (Array.getElem?_eq_some_iff.1 ho).1
    have := hedge i hlt
    simp only [ho, List.all_eq_true] at this
    have := this e (by simpa using he)
    simp only [hb, Bool.not_true, Bool.false_or] at this
    exact Nat.le_of_ble_eq_true this
  have hP : ∀ i j x y, i < j → ops[i]? = some x → ops[j]? = some y → clash ops isA x y = true → ((masks ops).getD j 0).testBit i = true := by
    intro i j x y hij hx hy hc
    simp only [pairsOK, List.all_eq_true, List.mem_range] at hpairs
    have hlt : j < ops.size := (Array.getElem?_eq_some_iff.1 hy).1
    have := hpairs j hlt i hij
    simp only [hx, hy, hc, Bool.not_true, Bool.false_or] at this
    exact this
  -- all is listed where nothing is ready
  have hdone : ∀ listed : Array Bool, listed.size = ops.size → Region.ready .any ops listed = [] → ∀ j, j < ops.size → listed.getD j false = true := by
    intro listed hs hr j
    induction j using Nat.strongRecOn with
    | _ j ih =>
      intro hj
      cases hl : listed.getD j false with
      | true => rfl
      | false =>
        exfalso
        obtain ⟨o, ho⟩ : ∃ o, ops[j]? = some o := ⟨ops[j], by simp [hj]⟩
        have : j ∈ Region.ready .any ops listed := by
          rw [mem_ready]
          refine ⟨by rw [getD_lt (by omega)]; exact hl, o, ho, fun e he hb => ?_⟩
          have hlt := hE j o ho e he hb
          exact ih e.on hlt (by omega)
        rw [hr] at this
        cases this
  have hend : ∀ listed : Array Bool, listed.size = ops.size → Region.ready .any ops listed = [] →
      Q .normal (AL ops val a0 (fun j => listed.getD j false) ops.size) (Wd (cn (fun j => actAt ops isA j && listed.getD j false) ops.size)) := by
    intro listed hs hr
    have hall := hdone listed hs hr
    rw [AL_congr (q := fun _ => true) fun j hj => hall j hj, cn_congr (g := actAt ops isA) fun j hj => by rw [hall j hj, Bool.and_true]]
    exact hQ
  intro fuel
  induction fuel with
  | zero =>
    intro listed hs hf hc
    have hr : Region.ready .any ops listed = [] := by
      cases hr : Region.ready .any ops listed with
      | nil => rfl
      | cons i r =>
        exfalso
        have hi : i ∈ Region.ready .any ops listed := by rw [hr]; simp
        obtain ⟨h0, o, ho, _⟩ := mem_ready.1 hi
        have hlt : i < ops.size := (Array.getElem?_eq_some_iff.1 ho).1
        rw [getD_lt (by omega)] at h0
        have h1 : 1 ≤ cn (fun j => !listed.getD j false) ops.size := by
          have h2 : cn (fun j => false || j == i) ops.size = cn (fun _ => false) ops.size + 1 := cn_add (f := fun _ => false) (i := i) rfl (k := ops.size) hlt
          have h3 : cn (fun j => false || j == i) ops.size ≤ cn (fun j => !listed.getD j false) ops.size := cn_mono fun j _ hj => by
            simp only [Bool.false_or, beq_iff_eq] at hj; subst hj; rw [h0]; rfl
          omega
        omega
    exact ⟨hr, hend listed hs hr⟩
  | succ fuel ih =>
    intro listed hs hf hc
    refine ⟨fun hr => hend listed hs hr, fun i hi => ?_⟩
    obtain ⟨h0, o, ho, hdeps⟩ := mem_ready.1 hi
    have hlt : i < ops.size := (Array.getElem?_eq_some_iff.1 ho).1
    rw [getD_lt (by omega)] at h0
    -- the set behind this operation
    have hset : ∀ j, (listed.setIfInBounds i true).getD j false = (listed.getD j false || j == i) := by
      intro j
      by_cases hji : j = i
      · subst hji; simp [Array.getD, hs, hlt]
      · rw [getD_set_ne false (Ne.symm hji)]
        have : (j == i) = false := by simpa using hji
        simp [this]
    have hc' : ∀ k ok, ops[k]? = some ok → (listed.setIfInBounds i true).getD k false = true → ∀ e ∈ ok.after, Region.binds .any e = true → (listed.setIfInBounds i true).getD e.on false = true := by
      intro k ok hk hl e he hb
      rw [hset] at hl ⊢
      simp only [Bool.or_eq_true, beq_iff_eq] at hl ⊢
      rcases hl with hl | hl
      · exact .inl (hc k ok hk hl e he hb)
      · subst hl
        rw [ho] at hk; cases hk
        exact .inl (hdeps e he hb)
    have hf' : cn (fun j => !(listed.setIfInBounds i true).getD j false) ops.size ≤ fuel := by
      have h1 : cn (fun j => !(listed.setIfInBounds i true).getD j false || j == i) ops.size = cn (fun j => !(listed.setIfInBounds i true).getD j false) ops.size + 1 :=
        cn_add (f := fun j => !(listed.setIfInBounds i true).getD j false) (i := i) (by rw [hset]; simp) (k := ops.size) hlt
      have h2 : cn (fun j => !(listed.setIfInBounds i true).getD j false || j == i) ops.size = cn (fun j => !listed.getD j false) ops.size := cn_congr fun j _ => by
        rw [hset]
        by_cases hji : j = i
        · subst hji; simp only [h0]; simp
        · have : (j == i) = false := by simpa using hji
          simp [this]
      omega
    have IH := ih (listed.setIfInBounds i true) (by simp [hs]) hf' hc'
    have closed := masks_closed (L := fun j => listed.getD j false) hc
    have closedi : ∀ j, ((masks ops).getD i 0).testBit j = true → listed.getD j false = true := by
      intro j hj
      have := masks_closed (L := fun j => (listed.setIfInBounds i true).getD j false) hc' i j hlt (by simp only [hset]; simp) hj
      simp only [hset, Bool.or_eq_true, beq_iff_eq] at this
      rcases this with h | h
      · exact h
      · exfalso
        subst h
        -- nothing is ahead of itself: the mask's bits lie below
        obtain ⟨acc', h1, h2, h3⟩ := masksFrom_at ops.toList [] j o (by simpa using ho)
        simp only [List.length_nil, Nat.zero_add] at h1 h2 h3
        have hb' : (maskOf acc' o.after.toList).testBit j = true := by rw [← h2]; exact hj
        have low : ∀ (k : Nat) (m : Nat), k < ops.size → ((masks ops).getD k 0).testBit m = true → m < k := by
          intro k
          induction k using Nat.strongRecOn with
          | _ k ihk =>
            intro m hk hm
            obtain ⟨ok, hok⟩ : ∃ o, ops[k]? = some o := ⟨ops[k], by simp [hk]⟩
            obtain ⟨acc2, g1, g2, g3⟩ := masksFrom_at ops.toList [] k ok (by simpa using hok)
            simp only [List.length_nil, Nat.zero_add] at g1 g2 g3
            have hm' : (maskOf acc2 ok.after.toList).testBit m = true := by rw [← g2]; exact hm
            rcases maskOf_bit acc2 m _ 0 hm' with h | ⟨e, he, hbind, h⟩
            · simp at h
            · have hlt' := hE k ok hok e (by simpa using he) hbind
              rcases h with h | h
              · omega
              · have := ihk e.on hlt' m (by omega) (by rw [g3 e.on hlt'] at h; exact h)
                omega
        have := low j j hlt hj
        omega
    -- who writes what this operation names
    have writers : ∀ t, (t ∈ looks ops o ∨ o.dst = some t) → ∀ j, j < ops.size → j ≠ i → dstAt ops j = some t → listed.getD j false = Nat.blt j i := by
      intro t ht j hj hji hd
      obtain ⟨y, hy⟩ : ∃ y, ops[j]? = some y := ⟨ops[j], by simp [hj]⟩
      have hyd : y.dst = some t := by simpa [dstAt, hy] using hd
      rcases Nat.lt_or_gt_of_ne hji with h | h
      · have hcl : clash ops isA y o = true := by
          simp only [clash, hyd, Bool.or_eq_true]
          rcases ht with ht | ht
          · exact .inl (.inl (.inr (tmpMem_of ht)))
          · exact .inr (by simp [sameDst, ht])
        have := closedi j (hP j i y o h hy ho hcl)
        rw [this]
        exact (Nat.ble_eq_true_of_le h).symm
      · have hcl : clash ops isA o y = true := by
          simp only [clash, hyd, Bool.or_eq_true]
          rcases ht with ht | ht
          · exact .inl (.inr (tmpMem_of ht))
          · exact .inr (by simp [sameDst, ht])
        have hb := hP i j o y h ho hy hcl
        have h1 : listed.getD j false = false := by
          cases hl : listed.getD j false with
          | false => rfl
          | true => have := closed j i hj hl hb; rw [h0] at this; cases this
        rw [h1]
        cases hb2 : Nat.blt j i with
        | false => rfl
        | true => have := Nat.le_of_ble_eq_true hb2; omega
    have Alt : AL ops val a0 (fun _ => true) i = AL ops val a0 (fun j => Nat.blt j i) ops.size := by
      have : ∀ k, i ≤ k → AL ops val a0 (fun j => Nat.blt j i) k = AL ops val a0 (fun _ => true) i := by
        intro k
        induction k with
        | zero =>
          intro hk
          have : i = 0 := by omega
          subst this; rfl
        | succ k ihk =>
          intro hk
          by_cases hik : i = k + 1
          · subst hik
            exact AL_congr fun j hj => Nat.ble_eq_true_of_le hj
          · have : Nat.blt k i = false := by
              cases hb2 : Nat.blt k i with
              | false => rfl
              | true => have := Nat.le_of_ble_eq_true hb2; omega
            simp only [AL, this, Bool.false_eq_true, if_false]
            exact ihk (by omega)
      exact (this ops.size (by omega)).symm
    have slot : ∀ t, t ∈ looks ops o → (AL ops val a0 (fun j => listed.getD j false) ops.size).tmps[t]? = (AL ops val a0 (fun _ => true) i).tmps[t]? := by
      intro t ht
      rw [Alt]
      refine AL_at fun j hj hd => ?_
      by_cases hji : j = i
      · subst hji
        rw [h0]
        cases hb2 : Nat.blt j j with
        | false => rfl
        | true => have := Nat.le_of_ble_eq_true hb2; omega
      · exact writers t (.inl ht) j hj hji hd
    have hwant : Region.wanted o (yielded ops (AL ops val a0 (fun j => listed.getD j false) ops.size).tmps) = Region.wanted o (yielded ops (AL ops val a0 (fun _ => true) i).tmps) := by
      unfold Region.wanted
      cases hg : o.guard with
      | none => rfl
      | some gw =>
        obtain ⟨g, want⟩ := gw
        have hy : yielded ops (AL ops val a0 (fun j => listed.getD j false) ops.size).tmps g = yielded ops (AL ops val a0 (fun _ => true) i).tmps g := by
          unfold yielded
          cases ht : (ops[g]?).bind (·.dst) with
          | none => rfl
          | some t =>
            have hm : t ∈ looks ops o := by simp [looks, Oper.looksAt, hg, ht]
            simp only [Option.bind_some, slot t hm]
        simp only [hy]
    have hexec : execOp (AL ops val a0 (fun j => listed.getD j false) ops.size).eval o = execOp (AL ops val a0 (fun _ => true) i).eval o := by
      refine execOp_congr o (Region.noSelect_spec hsel i o · · ho) fun x hx => ?_
      cases x with
      | tmp t =>
        have hm : t ∈ looks ops o := List.mem_append_left _ (List.mem_filterMap.2 ⟨.tmp t, by simpa using hx, rfl⟩)
        simp only [Act.eval]
        rw [Array.getD_eq_getD_getElem?, Array.getD_eq_getD_getElem?, slot t hm]
      | _ => rfl
    have hnext : AL ops val a0 (fun j => (listed.setIfInBounds i true).getD j false) ops.size = (AL ops val a0 (fun j => listed.getD j false) ops.size).put o.dst (val i) := by
      rw [AL_congr (q := fun j => listed.getD j false || j == i) fun j _ => hset j]
      have hdi : dstAt ops i = o.dst := by simp [dstAt, ho]
      rw [← hdi]
      refine AL_add (p := fun j => listed.getD j false) h0 hlt fun j hj hij hl d hd hdj => ?_
      rw [hdi] at hd
      have := writers d (.inr hd) j hj (by omega) hdj
      rw [this] at hl
      have := Nat.le_of_ble_eq_true hl
      omega
    rw [hnext] at IH
    unfold wpOp
    simp only [ho]
    have hwd : ∀ b, isA o = b → cn (fun j => actAt ops isA j && (listed.setIfInBounds i true).getD j false) ops.size = cn (fun j => actAt ops isA j && listed.getD j false) ops.size + (if b then 1 else 0) := by
      intro b hb
      have hai : actAt ops isA i = b := by simp [actAt, ho, hb]
      cases b with
      | true =>
        rw [if_pos rfl, ← cn_add (f := fun j => actAt ops isA j && listed.getD j false) (i := i) (by simp [h0]) (k := ops.size) hlt]
        refine cn_congr fun j _ => ?_
        rw [hset]
        by_cases hji : j = i
        · subst hji; simp [hai]
        · have : (j == i) = false := by simpa using hji
          simp [this]
      | false =>
        simp only [Bool.false_eq_true, if_false, Nat.add_zero]
        refine cn_congr fun j _ => ?_
        rw [hset]
        by_cases hji : j = i
        · subst hji; simp [hai]
        · have : (j == i) = false := by simpa using hji
          simp [this]
    have hacts : isA o = true → cn (fun j => actAt ops isA j && listed.getD j false) ops.size = cn (actAt ops isA) i := by
      intro ha
      rw [← cn_split (f := actAt ops isA) (i := i) (k := ops.size) (by omega)]
      refine cn_congr fun j hj => ?_
      cases haj : actAt ops isA j with
      | false => simp
      | true =>
        simp only [Bool.true_and]
        obtain ⟨y, hy⟩ : ∃ y, ops[j]? = some y := ⟨ops[j], by simp [hj]⟩
        have hya : isA y = true := by simpa [actAt, hy] using haj
        by_cases hji : j = i
        · subst hji
          rw [h0]
          cases hb2 : Nat.blt j j with
          | false => rfl
          | true => have := Nat.le_of_ble_eq_true hb2; omega
        · rcases Nat.lt_or_gt_of_ne hji with h | h
          · have := closedi j (hP j i y o h hy ho (by simp [clash, hya, ha]))
            rw [this]; exact (Nat.ble_eq_true_of_le h).symm
          · have hb := hP i j o y h ho hy (by simp [clash, hya, ha])
            have h1 : listed.getD j false = false := by
              cases hl : listed.getD j false with
              | false => rfl
              | true => have := closed j i hj hl hb; rw [h0] at this; cases this
            rw [h1]
            cases hb2 : Nat.blt j i with
            | false => rfl
            | true => have := Nat.le_of_ble_eq_true hb2; omega
    cases hw : Region.wanted o (yielded ops (AL ops val a0 (fun _ => true) i).tmps) with
    | true =>
      rw [hwant, hw, if_pos rfl]
      refine .inl ?_
      have st := C.step i o ho hw
      cases ha : isA o with
      | true =>
        have hg := st.1 ha
        rw [← hexec, ← hacts ha] at hg
        refine upon_got hg ?_
        rw [hwd true ha, if_pos rfl] at IH
        exact IH
      | false =>
        have hg := st.2 ha (cn (fun j => actAt ops isA j && listed.getD j false) ops.size) ?_ ?_
        · rw [← hexec] at hg
          refine upon_got (.inl hg) ?_
          rw [hwd false ha] at IH
          exact IH
        · refine cn_mono fun j hj h => ?_
          simp only [Bool.and_eq_true] at h ⊢
          exact ⟨h.1, closedi j h.2⟩
        · refine cn_mono fun j hj h => ?_
          simp only [Bool.and_eq_true, Bool.not_eq_true'] at h ⊢
          have hne : i ≠ j := fun e => by subst e; rw [h0] at h; cases h.2
          refine ⟨⟨h.1, ?_⟩, ?_⟩
          · cases hb : ((masks ops).getD j 0).testBit i with
            | false => rfl
            | true => have := closed j i hj h.2 hb; rw [h0] at this; cases this
          · cases hb : Nat.beq i j with
            | false => rfl
            | true => exact absurd (Nat.eq_of_beq_eq_true hb) hne
    | false =>
      rw [hwant, hw]
      simp only [Bool.false_eq_true, if_false]
      obtain ⟨hv, hwp⟩ := C.pass i o ho hw
      rw [hv] at IH
      cases ha : isA o with
      | true =>
        rw [hwd true ha, if_pos rfl, hacts ha, hwp ha, ← hacts ha] at IH
        exact IH
      | false =>
        rw [hwd false ha] at IH
        exact IH

theorem draw_all (hok : drawOK ops isA = true) {Q : Exit → Act → World → Prop} {a : Act} {w : World} {val : Nat → Value} {Wd : Nat → World} (C : Canon P ops isA a val Wd) (h0 : Wd 0 = w)
    (hQ : Q .normal (AL ops val a (fun _ => true) ops.size) (Wd (cn (actAt ops isA) ops.size))) : wpAny P .any ops Q ops.size (Array.replicate ops.size false) a w := by
  have h := draw_any hok C hQ ops.size (Array.replicate ops.size false) (by simp) cn_le (fun i o ho hl => by simp [Array.getD] at hl)
  have e1 : AL ops val a (fun j => (Array.replicate ops.size false).getD j false) ops.size = a := by
    have : ∀ k, AL ops val a (fun j => (Array.replicate ops.size false).getD j false) k = a := by
      intro k
      induction k with
      | zero => rfl
      | succ k ih =>
        have : (Array.replicate ops.size false).getD k false = false := by simp [Array.getD]
        simp only [AL, this, Bool.false_eq_true, if_false]; exact ih
    exact this _
  have e2 : cn (fun j => actAt ops isA j && (Array.replicate ops.size false).getD j false) ops.size = 0 := by
    have : ∀ k, cn (fun j => actAt ops isA j && (Array.replicate ops.size false).getD j false) k = 0 := by
      intro k
      induction k with
      | zero => rfl
      | succ k ih =>
        have : (Array.replicate ops.size false).getD k false = false := by simp [Array.getD]
        simp only [cn, this, Bool.and_false, Bool.false_eq_true, if_false]; exact ih
    exact this _
  rw [e1, e2, h0] at h
  exact h
end
end Go.Lift
