/-
  THE LIFT, part I: a region that draws its order and whose steps are in no chain: one alternative for each order of its steps.
-/
import Derived.Test.YthlpfhjcdedhgaaDoorLiftG
namespace Go.Lift
set_option linter.unusedSimpArgs false

section
variable {P : Program} {ops : Array Oper} {isA : Oper → Bool}

/-- An order that the edges allow, from a set of listed operations on. -/
inductive LinExt (ops : Array Oper) : Array Bool → List Nat → Prop where
  | nil {listed : Array Bool} : Region.ready .any ops listed = [] → LinExt ops listed []
  | cons {listed : Array Bool} {i : Nat} {r : List Nat} : i ∈ Region.ready .any ops listed → LinExt ops (listed.setIfInBounds i true) r → LinExt ops listed (i :: r)

theorem linExt_go : ∀ (fuel t : Nat) (listed : Array Bool), listed.size = ops.size → cn (fun j => !listed.getD j false) ops.size ≤ fuel → LinExt ops listed (Region.linearise.go .any ops fuel t listed []) := by
  intro fuel
  induction fuel with
  | zero =>
    intro t listed hs hf
    refine .nil ?_
    cases hr : Region.ready .any ops listed with
    | nil => rfl
    | cons i r =>
      exfalso
      have hi : i ∈ Region.ready .any ops listed := by rw [hr]; simp
      obtain ⟨h0, o, ho, _⟩ := mem_ready.1 hi
      have hlt : i < ops.size := (Array.getElem?_eq_some_iff.1 ho).1
      rw [getD_lt (by omega)] at h0
      have h2 : cn (fun j => false || j == i) ops.size = cn (fun _ => false) ops.size + 1 := cn_add (f := fun _ => false) (i := i) rfl (k := ops.size) hlt
      have h3 : cn (fun j => false || j == i) ops.size ≤ cn (fun j => !listed.getD j false) ops.size := cn_mono fun j _ hj => by
        simp only [Bool.false_or, beq_iff_eq] at hj; subst hj; rw [h0]; rfl
      omega
  | succ fuel ih =>
    intro t listed hs hf
    simp only [Region.linearise.go]
    change LinExt ops listed (match (Region.ready .any ops listed)[t % (Region.ready .any ops listed).length]? with
      | some i => Region.linearise.go .any ops fuel (t / (Region.ready .any ops listed).length) (listed.setIfInBounds i true) [i]
      | none => [].reverse)
    cases hi : (Region.ready .any ops listed)[t % (Region.ready .any ops listed).length]? with
    | none =>
      refine .nil ?_
      cases hr : Region.ready .any ops listed with
      | nil => rfl
      | cons x xs =>
        rw [hr] at hi
        have hlt : t % (x :: xs).length < (x :: xs).length := Nat.mod_lt _ (by simp)
        simp at hi
        simp at hlt
        omega
    | some i =>
      simp only []
      rw [linearise_go_acc, List.reverse_singleton, List.singleton_append]
      have hm := List.mem_of_getElem? hi
      refine .cons hm (ih _ _ (by simp [hs]) ?_)
      obtain ⟨h0, o, ho, _⟩ := mem_ready.1 hm
      have hlt : i < ops.size := (Array.getElem?_eq_some_iff.1 ho).1
      rw [getD_lt (by omega)] at h0
      have hset : ∀ j, (listed.setIfInBounds i true).getD j false = (listed.getD j false || j == i) := by
        intro j
        by_cases hji : j = i
        · subst hji; simp [Array.getD, hs, hlt]
        · rw [getD_set_ne false (Ne.symm hji)]
          have : (j == i) = false := by simpa using hji
          simp [this]
      have h1 : cn (fun j => !(listed.setIfInBounds i true).getD j false || j == i) ops.size = cn (fun j => !(listed.setIfInBounds i true).getD j false) ops.size + 1 :=
        cn_add (f := fun j => !(listed.setIfInBounds i true).getD j false) (i := i) (by rw [hset]; simp) (k := ops.size) hlt
      have h2 : cn (fun j => !(listed.setIfInBounds i true).getD j false || j == i) ops.size = cn (fun j => !listed.getD j false) ops.size := cn_congr fun j _ => by
        rw [hset]
        by_cases hji : j = i
        · subst hji; simp only [h0]; simp
        · have : (j == i) = false := by simpa using hji
          simp [this]
      omega

theorem linExt_schedule (t : Nat) : LinExt ops (Array.replicate ops.size false) (Region.schedule true ops t) := by
  simp only [Region.schedule, Bool.true_or, if_true]
  exact linExt_go ops.size t _ (by simp) cn_le

/-- All orders of the steps that the edges allow. -/
def exts (ms : List Nat) : Nat → List Nat → List (List Nat)
  | 0, rem => bif rem.isEmpty then [[]] else []
  | n + 1, rem => bif rem.isEmpty then [[]] else rem.flatMap fun i =>
    bif rem.all fun j => Nat.beq i j || !((ms.getD i 0).testBit j) then (exts ms n (rem.filter fun j => !(Nat.beq i j))).map (i :: ·) else []

theorem exts_mem (hedge : edgesOK ops = true) : ∀ (l : List Nat) (listed : Array Bool) (rem : List Nat) (n : Nat), LinExt ops listed l → listed.size = ops.size → rem.length ≤ n →
    (∀ i o, ops[i]? = some o → listed.getD i false = true → ∀ e ∈ o.after, Region.binds .any e = true → listed.getD e.on false = true) →
    (∀ i, i ∈ rem ↔ i < ops.size ∧ actAt ops isA i = true ∧ listed.getD i false = false) → l.filter (actAt ops isA) ∈ exts (masks ops) n rem := by
  have hE : ∀ i o, ops[i]? = some o → ∀ e ∈ o.after, Region.binds .any e = true → e.on < i := by
    intro i o ho e he hb
    simp only [edgesOK, List.all_eq_true, List.mem_range] at hedge
    have hlt : i < ops.size := (Array.getElem?_eq_some_iff.1 ho).1
    have := hedge i hlt
    simp only [ho, List.all_eq_true] at this
    have := this e (by simpa using he)
    simp only [hb, Bool.not_true, Bool.false_or] at this
    exact Nat.le_of_ble_eq_true this
  have hdone : ∀ listed : Array Bool, listed.size = ops.size → Region.ready .any ops listed = [] → ∀ j, j < ops.size → listed.getD j false = true := by
    intro listed hs hr j
    induction j using Nat.strongRecOn with
    | _ j ih =>
      intro hj
      cases hl : listed.getD j false with
      | true => rfl
      | false =>
        exfalso
        obtain ⟨o, ho⟩ : ∃ o, ops[j]? = some o := ⟨ops[j], by simp [hj]⟩
        have : j ∈ Region.ready .any ops listed := by
          rw [mem_ready]
          refine ⟨by rw [getD_lt (by omega)]; exact hl, o, ho, fun e he hb => ?_⟩
          have hlt := hE j o ho e he hb
          exact ih e.on hlt (by omega)
        rw [hr] at this
        cases this
  intro l
  induction l with
  | nil =>
    intro listed rem n hl hs hn hc hrem
    cases hl with
    | nil hr =>
      have hall := hdone listed hs hr
      have : rem = [] := by
        cases rem with
        | nil => rfl
        | cons i r =>
          obtain ⟨h1, _, h3⟩ := (hrem i).1 (by simp)
          rw [hall i h1] at h3; cases h3
      subst this
      cases n <;> simp [exts]
  | cons i l ih =>
    intro listed rem n hl hs hn hc hrem
    cases hl with
    | cons hi hl =>
      obtain ⟨h0, o, ho, hdeps⟩ := mem_ready.1 hi
      have hlt : i < ops.size := (Array.getElem?_eq_some_iff.1 ho).1
      rw [getD_lt (by omega)] at h0
      have hset : ∀ j, (listed.setIfInBounds i true).getD j false = (listed.getD j false || j == i) := by
        intro j
        by_cases hji : j = i
        · subst hji; simp [Array.getD, hs, hlt]
        · rw [getD_set_ne false (Ne.symm hji)]
          have : (j == i) = false := by simpa using hji
          simp [this]
      have hc' : ∀ k ok, ops[k]? = some ok → (listed.setIfInBounds i true).getD k false = true → ∀ e ∈ ok.after, Region.binds .any e = true → (listed.setIfInBounds i true).getD e.on false = true := by
        intro k ok hk hl e he hb
        rw [hset] at hl ⊢
        simp only [Bool.or_eq_true, beq_iff_eq] at hl ⊢
        rcases hl with hl | hl
        · exact .inl (hc k ok hk hl e he hb)
        · subst hl
          rw [ho] at hk; cases hk
          exact .inl (hdeps e he hb)
      cases ha : actAt ops isA i with
      | false =>
        rw [List.filter_cons_of_neg (by simp [ha])]
        refine ih _ rem n hl (by simp [hs]) hn hc' fun j => ?_
        rw [hrem j, hset]
        by_cases hji : j = i
        · subst hji; simp [ha]
        · have : (j == i) = false := by simpa using hji
          simp [this]
      | true =>
        rw [List.filter_cons_of_pos (by simp [ha])]
        have himem : i ∈ rem := (hrem i).2 ⟨hlt, ha, h0⟩
        obtain ⟨n, rfl⟩ : ∃ m, n = m + 1 := ⟨n - 1, by have : 0 < rem.length := List.length_pos_of_mem himem; omega⟩
        have hne : rem.isEmpty = false := by cases rem <;> simp at himem ⊢
        simp only [exts, hne, cond_false, List.mem_flatMap]
        refine ⟨i, himem, ?_⟩
        have hall : (rem.all fun j => Nat.beq i j || !(((masks ops).getD i 0).testBit j)) = true := by
          rw [List.all_eq_true]
          intro j hj
          obtain ⟨h1, h2, h3⟩ := (hrem j).1 hj
          by_cases hij : i = j
          · subst hij; simp [Nat.beq_refl]
          · cases hb : ((masks ops).getD i 0).testBit j with
            | false => simp
            | true =>
              have := masks_closed (L := fun j => (listed.setIfInBounds i true).getD j false) hc' i j hlt (by simp only [hset]; simp) hb
              simp only [hset, h3, Bool.false_or, beq_iff_eq] at this
              exact absurd this.symm hij
        simp only [hall, cond_true, List.mem_map, List.cons.injEq, true_and, exists_eq_right]
        refine ih _ _ n hl (by simp [hs]) ?_ hc' fun j => ?_
        · have : (rem.filter fun j => !(Nat.beq i j)).length < rem.length := by
            rw [List.length_filter_lt_length_iff_exists]
            exact ⟨i, himem, by simp [Nat.beq_refl]⟩
          omega
        · rw [List.mem_filter, hrem j, hset]
          by_cases hji : j = i
          · subst hji; simp [Nat.beq_refl]
          · have h1 : (j == i) = false := by simpa using hji
            have h2 : Nat.beq i j = false := by
              cases hb : Nat.beq i j with
              | false => rfl
              | true => exact absurd (Nat.eq_of_beq_eq_true hb).symm hji
            simp [h1, h2]

/- The operations in another order, their steps in a chain. -/
def idxN : List Nat → Nat → Nat
  | [], _ => 0
  | j :: r, i => bif Nat.beq i j then 0 else idxN r i + 1
def renum (ops : Array Oper) (isA : Oper → Bool) (π : List Nat) (k : Nat) (i : Nat) : Oper := match ops[i]? with
  | some o => { o with
      after := ((o.after.toList.filter (Region.binds .any)).map (fun e => ({ on := idxN π e.on, ground := .data } : Edge)) ++
        (bif isA o then ((List.range k).filter fun m => actAt ops isA (π.getD m 0)).map (fun m => ({ on := m, ground := .data } : Edge)) else [])).toArray
      guard := o.guard.map fun g => (idxN π g.1, g.2) }
  | none => default
def permOps (ops : Array Oper) (isA : Oper → Bool) (π : List Nat) : Array Oper := (π.zipIdx.map fun x => renum ops isA π x.2 x.1).toArray
def permOK (n : Nat) (π : List Nat) : Bool := Nat.beq π.length n && ((List.range n).all fun k => Nat.blt (π.getD k 0) n && Nat.beq (idxN π (π.getD k 0)) k) &&
  ((List.range n).all fun i => Nat.blt (idxN π i) n && Nat.beq (π.getD (idxN π i) 0) i)
def guardsOK (ops : Array Oper) : Bool := ops.all fun o => match o.guard with
  | some g => Nat.blt g.1 ops.size
  | none => true

theorem permOps_at {π : List Nat} {k : Nat} (hk : k < π.length) : (permOps ops isA π)[k]? = some (renum ops isA π k (π.getD k 0)) := by
  simp [permOps, hk, List.getD]

/-- The two orders' readings of one list. -/
theorem wpOps_perm {Q : Exit → Act → World → Prop} {π : List Nat} (hp : permOK ops.size π = true) (hg : guardsOK ops = true) : ∀ (l : List Nat) (a : Act) (w : World), (∀ i ∈ l, i < ops.size) →
    wpOps P (permOps ops isA π) Q (l.map (idxN π)) a w → wpOps P ops Q l a w := by
  simp only [permOK, Bool.and_eq_true] at hp
  obtain ⟨⟨hlen, hp1⟩, hp2⟩ := hp
  have hlen := Nat.eq_of_beq_eq_true hlen
  intro l
  induction l with
  | nil => intro a w _ h; exact h
  | cons i l ih =>
    intro a w hi h
    have hil := hi i (by simp)
    rw [List.all_eq_true] at hp2
    have := hp2 i (List.mem_range.2 hil)
    rw [Bool.and_eq_true] at this
    have h1 : idxN π i < π.length := by rw [hlen]; exact Nat.le_of_ble_eq_true this.1
    have h2 : π.getD (idxN π i) 0 = i := Nat.eq_of_beq_eq_true this.2
    obtain ⟨o, ho⟩ : ∃ o, ops[i]? = some o := ⟨ops[i], by simp [hil]⟩
    have ho' := permOps_at (ops := ops) (isA := isA) h1
    rw [h2] at ho'
    simp only [renum, ho] at ho'
    rw [List.map_cons, wpOps_cons] at h
    rw [wpOps_cons]
    unfold wpOp at h ⊢
    simp only [ho', ho] at h ⊢
    have hw : Region.wanted { o with
        after := ((o.after.toList.filter (Region.binds .any)).map (fun e => ({ on := idxN π e.on, ground := .data } : Edge)) ++ (bif isA o then ((List.range (idxN π i)).filter fun m => actAt ops isA (π.getD m 0)).map (fun m => ({ on := m, ground := .data } : Edge)) else [])).toArray
        guard := o.guard.map fun g => (idxN π g.1, g.2) } (yielded (permOps ops isA π) a.tmps) = Region.wanted o (yielded ops a.tmps) := by
      unfold Region.wanted
      cases hgd : o.guard with
      | none => simp
      | some g =>
        simp only [Option.map_some]
        have hgl : g.1 < ops.size := by
          unfold guardsOK at hg
          have := Array.all_eq_true_iff_forall_mem.1 hg o (Array.mem_of_getElem? ho)
          simp only [hgd] at this
          exact Nat.le_of_ble_eq_true this
        have hq := hp2 g.1 (List.mem_range.2 hgl)
        rw [Bool.and_eq_true] at hq
        have q1 : idxN π g.1 < π.length := by rw [hlen]; exact Nat.le_of_ble_eq_true hq.1
        have q2 : π.getD (idxN π g.1) 0 = g.1 := Nat.eq_of_beq_eq_true hq.2
        obtain ⟨og, hog⟩ : ∃ o, ops[g.1]? = some o := ⟨ops[g.1], by simp [hgl]⟩
        have hy : yielded (permOps ops isA π) a.tmps (idxN π g.1) = yielded ops a.tmps g.1 := by
          unfold yielded
          rw [permOps_at (ops := ops) (isA := isA) q1, q2]
          simp only [renum, hog, Option.bind_some]
        rw [hy]
    rw [hw] at h
    have hrec := fun a w => ih a w (fun j hj => hi j (by simp [hj]))
    by_cases hwant : Region.wanted o (yielded ops a.tmps) = true
    · rw [if_pos hwant] at h ⊢
      refine h.imp (fun h => ?_) (fun h => h)
      exact Oper.wp_mono hrec h
    · rw [if_neg hwant] at h ⊢
      exact hrec _ _ h

theorem wpOps_of_any {Q : Exit → Act → World → Prop} : ∀ (l : List Nat) (fuel : Nat) (listed : Array Bool) (a : Act) (w : World), LinExt ops listed l → l.length ≤ fuel → wpAny P .any ops Q fuel listed a w → wpOps P ops Q l a w
  | [], fuel, listed, a, w, h, _, hw => by
    cases h with
    | nil hr =>
      cases fuel with
      | zero => exact hw.2
      | succ n => exact hw.1 hr
  | i :: l, fuel, listed, a, w, h, hf, hw => by
    cases h with
    | cons hi hl =>
      obtain ⟨n, rfl⟩ : ∃ n, fuel = n + 1 := ⟨fuel - 1, by simp at hf; omega⟩
      rw [wpOps_cons]
      exact wpOp_mono (fun a w h => wpOps_of_any l n _ a w hl (by simpa using hf) h) (hw.2 i hi)

theorem LinExt.lt : ∀ {l : List Nat} {listed : Array Bool}, LinExt ops listed l → ∀ i ∈ l, i < ops.size
  | [], _, _, i, hi => by cases hi
  | j :: l, listed, h, i, hi => by
    cases h with
    | cons hj hl =>
      rcases List.mem_cons.1 hi with rfl | hi
      · obtain ⟨_, o, ho, _⟩ := mem_ready.1 hj
        exact (Array.getElem?_eq_some_iff.1 ho).1
      · exact hl.lt i hi
theorem LinExt.length : ∀ {l : List Nat} {listed : Array Bool}, LinExt ops listed l → listed.size = ops.size → l.length ≤ cn (fun j => !listed.getD j false) ops.size
  | [], _, _, _ => Nat.zero_le _
  | i :: l, listed, h, hs => by
    cases h with
    | cons hi hl =>
      obtain ⟨h0, o, ho, _⟩ := mem_ready.1 hi
      have hlt : i < ops.size := (Array.getElem?_eq_some_iff.1 ho).1
      rw [getD_lt (by omega)] at h0
      have hset : ∀ j, (listed.setIfInBounds i true).getD j false = (listed.getD j false || j == i) := by
        intro j
        by_cases hji : j = i
        · subst hji; simp [Array.getD, hs, hlt]
        · rw [getD_set_ne false (Ne.symm hji)]
          have : (j == i) = false := by simpa using hji
          simp [this]
      have h1 : cn (fun j => !(listed.setIfInBounds i true).getD j false || j == i) ops.size = cn (fun j => !(listed.setIfInBounds i true).getD j false) ops.size + 1 :=
        cn_add (f := fun j => !(listed.setIfInBounds i true).getD j false) (i := i) (by rw [hset]; simp) (k := ops.size) hlt
      have h2 : cn (fun j => !(listed.setIfInBounds i true).getD j false || j == i) ops.size = cn (fun j => !listed.getD j false) ops.size := cn_congr fun j _ => by
        rw [hset]
        by_cases hji : j = i
        · subst hji; simp only [h0]; simp
        · have : (j == i) = false := by simpa using hji
          simp [this]
      have := hl.length (by simp [hs])
      simp only [List.length_cons]
      omega

/-- An order of the one is an order of the other, if its steps come in the chain's order. -/
theorem linExt_perm {π : List Nat} (hp : permOK ops.size π = true) (hedge : edgesOK ops = true) : ∀ (l pre : List Nat) (listed listed' : Array Bool), LinExt ops listed l → listed.size = ops.size → listed'.size = ops.size →
    (∀ k, k < ops.size → listed'.getD k false = listed.getD (π.getD k 0) false) → (∀ i, i < ops.size → (listed.getD i false = true ↔ i ∈ pre)) →
    (pre ++ l).filter (actAt ops isA) = π.filter (actAt ops isA) → LinExt (permOps ops isA π) listed' (l.map (idxN π)) := by
  have hp0 := hp
  simp only [permOK, Bool.and_eq_true] at hp
  obtain ⟨⟨hlen, hp1⟩, hp2⟩ := hp
  have hlen := Nat.eq_of_beq_eq_true hlen
  rw [List.all_eq_true] at hp1 hp2
  have P1 : ∀ k, k < ops.size → π.getD k 0 < ops.size ∧ idxN π (π.getD k 0) = k := fun k hk => by
    have := hp1 k (List.mem_range.2 hk)
    rw [Bool.and_eq_true] at this
    exact ⟨Nat.le_of_ble_eq_true this.1, Nat.eq_of_beq_eq_true this.2⟩
  have P2 : ∀ i, i < ops.size → idxN π i < ops.size ∧ π.getD (idxN π i) 0 = i := fun i hi => by
    have := hp2 i (List.mem_range.2 hi)
    rw [Bool.and_eq_true] at this
    exact ⟨Nat.le_of_ble_eq_true this.1, Nat.eq_of_beq_eq_true this.2⟩
  have hsz : (permOps ops isA π).size = ops.size := by simp [permOps, hlen]
  have hE : ∀ i o, ops[i]? = some o → ∀ e ∈ o.after, Region.binds .any e = true → e.on < i := by
    intro i o ho e he hb
    simp only [edgesOK, List.all_eq_true, List.mem_range] at hedge
    have hlt : i < ops.size := (Array.getElem?_eq_some_iff.1 ho).1
    have := hedge i hlt
    simp only [ho, List.all_eq_true] at this
    have := this e (by simpa using he)
    simp only [hb, Bool.not_true, Bool.false_or] at this
    exact Nat.le_of_ble_eq_true this
  intro l
  induction l with
  | nil =>
    intro pre listed listed' h hs hs' hll hpre hf
    cases h with
    | nil hr =>
      refine .nil ?_
      have hall : ∀ j, j < ops.size → listed.getD j false = true := by
        intro j
        induction j using Nat.strongRecOn with
        | _ j ih =>
          intro hj
          cases hl : listed.getD j false with
          | true => rfl
          | false =>
            exfalso
            obtain ⟨o, ho⟩ : ∃ o, ops[j]? = some o := ⟨ops[j], by simp [hj]⟩
            have : j ∈ Region.ready .any ops listed := by
              rw [mem_ready]
              refine ⟨by rw [getD_lt (by omega)]; exact hl, o, ho, fun e he hb => ?_⟩
              have hlt := hE j o ho e he hb
              exact ih e.on hlt (by omega)
            rw [hr] at this
            cases this
      cases hr' : Region.ready .any (permOps ops isA π) listed' with
      | nil => rfl
      | cons k r =>
        exfalso
        have hk : k ∈ Region.ready .any (permOps ops isA π) listed' := by rw [hr']; simp
        obtain ⟨h0, o, ho, _⟩ := mem_ready.1 hk
        have hlt : k < ops.size := by rw [← hsz]; exact (Array.getElem?_eq_some_iff.1 ho).1
        rw [getD_lt (by omega), hll k hlt, hall _ (P1 k hlt).1] at h0
        cases h0
  | cons i l ih =>
    intro pre listed listed' h hs hs' hll hpre hf
    cases h with
    | cons hi hl =>
      obtain ⟨h0, o, ho, hdeps⟩ := mem_ready.1 hi
      have hlt : i < ops.size := (Array.getElem?_eq_some_iff.1 ho).1
      rw [getD_lt (by omega)] at h0
      obtain ⟨hk, hki⟩ := P2 i hlt
      have hset : ∀ j, (listed.setIfInBounds i true).getD j false = (listed.getD j false || j == i) := by
        intro j
        by_cases hji : j = i
        · subst hji; simp [Array.getD, hs, hlt]
        · rw [getD_set_ne false (Ne.symm hji)]
          have : (j == i) = false := by simpa using hji
          simp [this]
      have hset' : ∀ j, (listed'.setIfInBounds (idxN π i) true).getD j false = (listed'.getD j false || j == idxN π i) := by
        intro j
        by_cases hji : j = idxN π i
        · subst hji; simp [Array.getD, hs', hk]
        · rw [getD_set_ne false (Ne.symm hji)]
          have : (j == idxN π i) = false := by simpa using hji
          simp [this]
      rw [List.map_cons]
      refine .cons ?_ (ih (pre ++ [i]) _ _ hl (by simp [hs]) (by simp [hs']) (fun k hk' => ?_) (fun j hj => ?_) (by simpa using hf))
      · rw [mem_ready]
        have hat := permOps_at (ops := ops) (isA := isA) (π := π) (k := idxN π i) (by rw [hlen]; exact hk)
        rw [hki] at hat
        refine ⟨by rw [getD_lt (by omega), hll _ hk, hki]; exact h0, _, hat, fun e he hb => ?_⟩
        simp only [renum, ho, List.mem_toArray, List.mem_append, List.mem_map, List.mem_filter] at he
        rcases he with ⟨e', ⟨he', hb'⟩, rfl⟩ | he
        · have hlt' := hE i o ho e' (by simpa using he') hb'
          obtain ⟨q1, q2⟩ := P2 e'.on (by omega)
          rw [hll _ q1, q2]
          exact hdeps e' (by simpa using he') hb'
        · cases hA : isA o with
          | false => simp [hA] at he
          | true =>
            simp only [hA, cond_true, List.mem_map, List.mem_filter, List.mem_range] at he
            obtain ⟨m, ⟨hm, hma⟩, rfl⟩ := he
            have hm' : m < ops.size := by omega
            rw [hll m hm', hpre _ (P1 m hm').1]
            -- the step at place m of π comes ahead of i there, so here
            have hia : actAt ops isA i = true := by simp [actAt, ho, hA]
            have e1 : π.filter (actAt ops isA) = (pre.filter (actAt ops isA)) ++ i :: l.filter (actAt ops isA) := by
              rw [← hf, List.filter_append, List.filter_cons_of_pos hia]
            have hipre : i ∉ pre := fun hh => by
              have := (hpre i hlt).2 hh
              rw [h0] at this; cases this
            -- π up to i
            have hsplit : π = π.take (idxN π i) ++ i :: π.drop (idxN π i + 1) := by
              have hk2 : idxN π i < π.length := by rw [hlen]; exact hk
              have : π[idxN π i] = i := by
                have := hki
                simp [List.getD, hk2] at this
                exact this
              conv => lhs; rw [← List.take_append_drop (idxN π i) π]
              rw [List.drop_eq_getElem_cons hk2, this]
            have hnot : i ∉ π.take (idxN π i) := by
              intro hh
              obtain ⟨j, hj, he⟩ := List.getElem_of_mem hh
              simp only [List.length_take] at hj
              have hj2 : j < π.length := by omega
              have hj3 : π.getD j 0 = i := by
                simp only [List.getElem_take] at he
                simp [List.getD, hj2, he]
              have := (P1 j (by omega)).2
              rw [hj3] at this
              omega
            have e2 : π.filter (actAt ops isA) = ((π.take (idxN π i)).filter (actAt ops isA)) ++ i :: (π.drop (idxN π i + 1)).filter (actAt ops isA) := by
              conv => lhs; rw [hsplit]
              rw [List.filter_append, List.filter_cons_of_pos hia]
            rw [e1] at e2
            have hmem : π.getD m 0 ∈ (π.take (idxN π i)).filter (actAt ops isA) := by
              rw [List.mem_filter]
              refine ⟨?_, hma⟩
              have hm2 : m < π.length := by omega
              rw [show π.getD m 0 = (π.take (idxN π i))[m]'(by simp; omega) by simp [List.getD, hm2]]
              exact List.getElem_mem _
            have cut : ∀ (x y u v : List Nat), i ∉ x → i ∉ u → x ++ i :: y = u ++ i :: v → x = u := by
              intro x
              induction x with
              | nil =>
                intro y u v _ hu he
                cases u with
                | nil => rfl
                | cons z u => simp at he; exact absurd he.1 (fun h => hu (by simp [h]))
              | cons z x ihx =>
                intro y u v hx hu he
                cases u with
                | nil => simp at he; exact absurd he.1 (fun h => hx (by simp [h]))
                | cons z' u =>
                  simp at he
                  obtain ⟨rfl, he⟩ := he
                  rw [ihx y u v (fun h => hx (by simp [h])) (fun h => hu (by simp [h])) he]
            have := cut _ _ _ _ (fun h => hipre (List.mem_filter.1 h).1) (fun h => hnot (List.mem_filter.1 h).1) e2
            rw [← this] at hmem
            exact (List.mem_filter.1 hmem).1
      · rw [hset', hset, hll k hk']
        congr 1
        by_cases hki' : k = idxN π i
        · subst hki'; rw [hki]; simp
        · have h1 : (k == idxN π i) = false := by simpa using hki'
          have h2 : (π.getD k 0 == i) = false := by
            simp only [beq_eq_false_iff_ne]
            intro he
            have := (P1 k hk').2
            rw [he] at this
            exact hki' this.symm
          rw [h1, h2]
      · rw [hset, Bool.or_eq_true, hpre j hj, List.mem_append, List.mem_singleton, beq_iff_eq]

end
end Go.Lift
