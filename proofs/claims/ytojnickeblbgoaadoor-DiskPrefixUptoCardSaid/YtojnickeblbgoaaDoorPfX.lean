/-
  Layer 1 (disk), part Gen J: a path that is joined is parsed back; a crash of what is all safe.
-/
import Derived.Test.YtojnickeblbgoaaDoorGnX
import Derived.Lib.SplitLaws
namespace Go.Proofs.YtojnickeblbgoaaDoor
open Go.Lift Go.Sort
set_option linter.unusedSimpArgs false
set_option linter.unusedVariables false
set_option maxHeartbeats 4000000

theorem jl_count : ∀ (N : List (List UInt8)), N ≠ [] → (∀ x ∈ N, (47 : UInt8) ∉ x) → (jl N).count 47 + 1 = N.length
  | [], h, _ => absurd rfl h
  | [x], _, h => by simp [jl, List.count_eq_zero_of_not_mem (h x (by simp))]
  | x :: y :: r, _, h => by
    have ih := jl_count (y :: r) (by simp) fun z hz => h z (List.mem_cons_of_mem _ hz)
    rw [jl_cons (x := x) (by simp)]
    simp only [List.count_append, List.count_eq_zero_of_not_mem (h x (by simp)), List.length_cons] at ih ⊢
    simp
    omega
theorem index_at {x s : List UInt8} (h : (47 : UInt8) ∉ x) : Lib.index (x ++ 47 :: s) [47] = x.length := by
  rw [Lib.index_one]
  have hge := Lib.indexByte_ge (x ++ 47 :: s) 47
  have hat : (x ++ 47 :: s)[x.length]? = some 47 := by simp
  obtain ⟨o, ho⟩ : ∃ o : Nat, Lib.indexByte (x ++ 47 :: s) 47 = o := by
    by_cases hn : Lib.indexByte (x ++ 47 :: s) 47 = -1
    · exact absurd hat (Lib.indexByte_none hn _)
    · exact ⟨(Lib.indexByte (x ++ 47 :: s) 47).toNat, by omega⟩
  obtain ⟨h1, h2⟩ := Lib.indexByte_some ho
  have : o = x.length := by
    rcases Nat.lt_trichotomy o x.length with hlt | he | hgt
    · rw [List.getElem?_append_left hlt] at h1
      exact absurd (List.mem_of_getElem? h1) h
    · exact he
    · exact absurd hat (h2 _ hgt)
  rw [ho, this]
theorem index_no {x : List UInt8} (h : (47 : UInt8) ∉ x) : Lib.index x [47] = -1 := by
  rw [Lib.index_one]
  have hge := Lib.indexByte_ge x 47
  refine Classical.byContradiction fun hn => ?_
  obtain ⟨h1, _⟩ := Lib.indexByte_some (o := (Lib.indexByte x 47).toNat) (show Lib.indexByte x 47 = _ by omega)
  exact h (List.mem_of_getElem? h1)
theorem split_join : ∀ (k : Nat) (N : List (List UInt8)), N ≠ [] → (∀ x ∈ N, (47 : UInt8) ∉ x) → N.length ≤ k + 1 → Lib.splitK [47] 0 k (jl N) = N
  | _, [], h, _, _ => absurd rfl h
  | 0, [x], _, h, _ => by simp [Lib.splitK, jl]
  | 0, x :: y :: r, _, _, hl => by simp at hl
  | k + 1, [x], _, h, _ => by
    unfold Lib.splitK
    rw [show jl [x] = x by simp [jl], index_no (h x (by simp))]
    rfl
  | k + 1, x :: y :: r, _, h, hl => by
    have ih := split_join k (y :: r) (by simp) (fun z hz => h z (List.mem_cons_of_mem _ hz)) (by simpa using hl)
    unfold Lib.splitK
    rw [jl_cons (x := x) (by simp)]
    have e : x ++ [47] ++ jl (y :: r) = x ++ 47 :: jl (y :: r) := by simp
    rw [e, index_at (h x (by simp))]
    have hne : ((x.length : Int) == -1) = false := by simp
    rw [hne]
    have e1 : (x.length : Int).toNat + 0 = x.length := by omega
    have e2 : (x.length : Int).toNat + ([47] : List UInt8).length = x.length + 1 := by simp
    rw [e1, e2]
    simp only [Bool.false_eq_true, if_false, List.take_left]
    have e3 : (x ++ 47 :: jl (y :: r)).drop (x.length + 1) = jl (y :: r) := by simp
    rw [e3, ih]
theorem map_inj {l l' : List ByteArray} (h : l.map (·.data.toList) = l'.map (·.data.toList)) : l = l' := by
  induction l generalizing l' with
  | nil => cases l' with
    | nil => rfl
    | cons y r => simp at h
  | cons x r ih => cases l' with
    | nil => simp at h
    | cons y r' =>
      simp only [List.map_cons, List.cons.injEq] at h
      rw [ba_ext h.1, ih h.2]
/-- A path that is joined is parsed back. -/
theorem parse_join {N : List ByteArray} (hN : N ≠ []) (h : ∀ x ∈ N, nameF x = true) (hl : N.length ≤ 8) : parseF (pathF N) = some N := by
  have hd : (pathF N).data.toList = jl (N.map (·.data.toList)) := by
    rw [← join_jl]
    simp [pathF]
  have hno : ∀ x ∈ N.map (·.data.toList), (47 : UInt8) ∉ x := fun x hx => by
    obtain ⟨y, hy, rfl⟩ := List.mem_map.1 hx
    exact (name_no (h y hy)).1
  have hNm : N.map (·.data.toList) ≠ [] := by simpa using hN
  have hc := jl_count _ hNm hno
  rw [List.length_map] at hc
  have hcb : Lib.countB (pathF N) slash = (jl (N.map (·.data.toList))).count 47 := by
    show Lib.count (pathF N).data.toList [47] = _
    rw [hd, Lib.count_one]
  have hparts : partsF (pathF N) = N := by
    apply map_inj
    unfold partsF
    rw [Lib.splitB_data, hd, hcb]
    exact split_join _ _ hNm hno (by rw [List.length_map]; omega)
  have h0 : pathF N ≠ E0 := fun he => by
    have h1 : (pathF N).data.toList = [] := by rw [he]; rfl
    rw [hd] at h1
    obtain ⟨x, r, rfl⟩ := List.exists_cons_of_ne_nil hN
    have := (name_no (h x (by simp))).2
    cases r with
    | nil => simp [jl] at h1; exact this (by simpa using h1)
    | cons y r => rw [List.map_cons, jl_cons (by simp)] at h1; simp at h1
  have h8 : ¬ 8 ≤ Lib.countByte (pathF N).data.toList 47 := by
    show ¬ 8 ≤ (pathF N).data.toList.count 47
    rw [hd]; omega
  unfold parseF
  rw [if_neg h0, if_neg h8, hparts, if_pos (List.all_eq_true.2 h)]
end Go.Proofs.YtojnickeblbgoaaDoor

/-
  Layer 1 (disk), part Gen K: DiskSafe.
-/
namespace Go.Proofs.YtojnickeblbgoaaDoor
open Go.Lift Go.Sort
set_option linter.unusedSimpArgs false
set_option linter.unusedVariables false
set_option maxHeartbeats 4000000

def Live (d : Dk) : Prop := d.armed = false ∧ d.down = false
theorem live_new (cap : Int) : Live (newD cap) := ⟨rfl, rfl⟩
section
variable {w w' w'' : World} {b : Nat} {d d' : Dk} {v : DV} {tag : Nat → Nat} {A B : Nat} {dep : Int → Nat}
theorem live_act (h : Live d) : d.actF = (0, { d with acts := IntKind.i64.wrap (d.acts + 1) }) := by
  unfold Dk.actF
  rw [if_neg (by simp [h.1])]
theorem live_do (h : Live d) (c : Chg) (i : Nat) (nd : Nd) : (doF d c i nd).1 = 0 ∧ Live (doF d c i nd).2 := by
  unfold doF
  rw [live_act h, if_neg (by simp)]
  exact ⟨rfl, h⟩
theorem live_settle (h : Live d) (i : Nat) (nd : Nd) : settleF d i nd = (0, { d with acts := IntKind.i64.wrap (d.acts + 1), nodes := d.nodes.set i { nd with kept := (d.pending.foldl (settleStep i) (nd.kept, d.kept)).1 }, kept := (d.pending.foldl (settleStep i) (nd.kept, d.kept)).2, pending := restOf i d.pending }) := by
  unfold settleF
  rw [live_act h, if_neg (by simp)]
theorem live_create (h : Live d) (p : ByteArray) (k : Int) : Live (createF d p k).2 := by
  unfold createF
  rw [if_neg (by simp [h.2])]
  split
  · exact h
  · split
    · exact h
    · split
      · exact h
      · exact (live_do (d := d.addNode k) h _ _ _).2
theorem live_append (h : Live d) (p q : ByteArray) (U : Nat) : Live (appendF d p q U).2 := by
  unfold appendF
  repeat' split
  all_goals first | exact h | exact (live_do h _ _ _).2
theorem live_trunc (h : Live d) (p : ByteArray) (n : Int) : Live (truncF d p n).2 := by
  unfold truncF
  repeat' split
  all_goals first | exact h | exact (live_do h _ _ _).2
theorem live_rename (h : Live d) (p q : ByteArray) : Live (renameX d p q).2 := by
  unfold renameX
  rw [if_neg (by simp [h.2])]
  split
  · split
    · exact h
    · split
      · exact h
      · unfold renW
        repeat' split
        all_goals first | exact h | exact (live_do h _ _ _).2
  · exact h
theorem live_remove (h : Live d) (p : ByteArray) : Live (removeX d p).2 := by
  unfold removeX removeF
  repeat' split
  all_goals first | exact h | exact (live_do h _ _ _).2
theorem live_sync (h : Live d) (p : ByteArray) (k : Int) : Live (syncF d p k).2 := by
  unfold syncF
  split
  · exact h
  · rw [live_settle h]; exact h
theorem step2_run (h : DA w b d v tag) (hI : GI A B dep d) (hL : Live d) (o : Dop) (hk : o.kind ≠ 20) (hA : A ≤ 1099511627776) (hB : B ≤ 1048576) (hz : o.p.size ≤ 1048576) (hz' : o.q.size ≤ 1048576) :
    Run (F.granarylaw1_step (Ptr b) o.val) w fun _ w' => ∃ d', DDid w w' b tag d' ∧ (∃ dep', GI (A + o.q.size) (B + 2) dep' d') ∧ Live d' := by
  obtain ⟨Q, hQ⟩ : ∃ Q : Value → World → Prop, ∀ r w', Q r w' ↔ ∃ d', DDid w w' b tag d' ∧ (∃ dep', GI (A + o.q.size) (B + 2) dep' d') ∧ Live d' := ⟨_, fun _ _ => Iff.rfl⟩
  refine Run.mono (Q := Q) ?_ fun r w' h => (hQ _ _).1 h
  unfold F.granarylaw1_step
  simp only [Run_bind]
  refine Run_new fun x w1 hx _ f1 _ => ?_
  have hx' : bk w1 x = some o.cells := hx
  have hA1 := h.fr0 f1
  have hg := hI.good
  have hlen := hI.len
  have hpl := hI.plen
  have hns := hI.small hA
  have fin : ∀ {w2 : World} {r : Value} (d' : Dk), DDid w1 w2 b tag d' → (∃ dep', GI (A + o.q.size) (B + 2) dep' d') → Live d' → Q r w2 := fun d' hd hi hl => (hQ _ _).2 ⟨_, hd.pre f1, hi, hl⟩
  have act : ∀ {e : Int} {d' : Dk}, ActR d o e d' → ∃ dep', GI (A + o.q.size) (B + 2) dep' d' := fun ha => (ActR.gi hI hA hz' ha).1
  unfold ActR at act
  by_cases c1 : o.kind = 1
  · simp [hx', Dop.cells, c1]
    refine (mkdirG _ _).2 ?_
    refine (create_run hA1 hg (by omega) 1 (by omega) (by omega)).mono ?_
    rintro _ w2 ⟨rfl, h2'⟩
    exact fin _ h2' (act (e := (createF d o.p 1).1) (by rw [if_pos c1])) (live_create hL _ _)
  by_cases c2 : o.kind = 2
  · simp [hx', Dop.cells, c2]
    refine (createG _ _).2 ?_
    refine (create_run hA1 hg (by omega) 2 (by omega) (by omega)).mono ?_
    rintro _ w2 ⟨rfl, h2'⟩
    exact fin _ h2' (act (e := (createF d o.p 2).1) (by rw [if_neg c1, if_pos c2])) (live_create hL _ _)
  by_cases c3 : o.kind = 3
  · simp [hx', Dop.cells, c3]
    refine (append_run hA1 hg (fun s k hk => by have := (hI.pseen.rng s k hk).1; omega) (by omega) (by omega) (fun ls l1 l2 => ?_) hns (by omega)).mono ?_
    · have := hI.usedB l1 l2
      have h2 : B * A ≤ 1048576 * 1099511627776 := Nat.mul_le_mul hB hA
      omega
    rintro _ w2 ⟨ls, q1, q2, rfl, h2'⟩
    exact fin _ h2' (act (e := (appendF d o.p o.q (sumF d ls)).1) (by rw [if_neg c1, if_neg c2, if_pos c3]; exact ⟨_, ⟨ls, q1, q2, rfl⟩, rfl⟩)) (live_append hL _ _ _)
  by_cases c4 : o.kind = 4
  · simp [hx', Dop.cells, c4]
    refine (trunc_run hA1 hg (by omega) o.n hns (by omega)).mono ?_
    rintro _ w2 ⟨rfl, h2'⟩
    exact fin _ h2' (act (e := (truncF d o.p o.n).1) (by rw [if_neg c1, if_neg c2, if_neg c3, if_pos c4])) (live_trunc hL _ _)
  by_cases c5 : o.kind = 5
  · simp [hx', Dop.cells, c5]
    refine (rename3_run hA1 hg hI.k0 (by omega) (by omega) (by omega)).mono ?_
    rintro _ w2 ⟨rfl, h2'⟩
    exact fin _ h2' (act (e := (renameX d o.p o.q).1) (by rw [if_neg c1, if_neg c2, if_neg c3, if_neg c4, if_pos c5])) (live_rename hL _ _)
  by_cases c6 : o.kind = 6
  · simp [hx', Dop.cells, c6]
    refine (remove3_run hA1 hg (by omega) (by omega)).mono ?_
    rintro _ w2 ⟨rfl, h2'⟩
    exact fin _ h2' (act (e := (removeX d o.p).1) (by rw [if_neg c1, if_neg c2, if_neg c3, if_neg c4, if_neg c5])) (live_remove hL _)
  by_cases c7 : o.kind = 7
  · simp [hx', Dop.cells, c7]
    refine (sync_run hA1 hg (by omega) hI.fold (by omega)).mono ?_
    rintro _ w2 ⟨rfl, h2'⟩
    exact fin _ h2' ⟨dep, (gi_sync hI o.p 2).more (by omega) (by omega)⟩ (live_sync hL _ _)
  by_cases c8 : o.kind = 8
  · simp [hx', Dop.cells, c8]
    refine (syncdir_run hA1 hg (by omega) hI.fold (by omega)).mono ?_
    rintro _ w2 ⟨rfl, h2'⟩
    exact fin _ h2' ⟨dep, (gi_sync hI o.p 1).more (by omega) (by omega)⟩ (live_sync hL _ _)
  by_cases c21 : o.kind = 21
  · simp [hx', Dop.cells, c21]
    obtain ⟨k1, k2, k3⟩ := hI.crash o.n o.m (by omega)
    refine (crash2_run hA1 (keep := o.n) (torn := o.m) (by omega) k1 (by omega) k2).mono ?_
    rintro r w2 ⟨_, d', hr, h2'⟩
    exact fin _ h2' ⟨dep, (k3 d' hr).1.more (by omega) (by omega)⟩ ⟨hr.off.1, hr.off.2.1⟩
  · simp [hx', Dop.cells, c1, c2, c3, c4, c5, c6, c7, c8, hk, c21]
    exact (hQ _ _).2 ⟨d, (hA1.did (f1.mono fun _ h => h.elim)), ⟨dep, hI.more (by omega) (by omega)⟩, hL⟩
/-- A path leads where its names lead. -/
theorem walk_rt (hI : GI A B dep d) {k : Int} {N : List ByteArray} (hr : Rt d.seen k N) : ∀ rest, ∃ a, d.walkF (N ++ rest) = d.walkGo a k rest := by
  induction hr with
  | root => intro rest; exact ⟨_, rfl⟩
  | step hr hk ih =>
    rename_i D k n pre
    intro rest
    obtain ⟨a, ha⟩ := ih (n :: rest)
    refine ⟨(D, n), ?_⟩
    rw [List.append_assoc, List.singleton_append, ha]
    have hd := hI.pseen.dir _ _ hk
    have hg := hI.pseen.rng _ _ hk
    have e : d.walkGo a D (n :: rest) = d.walkGo (D, n) ((d.seen (D, n)).getD (-1)) rest := by
      conv => lhs; unfold Dk.walkGo
      have k1 : (d.nd D).kind = 1 := hd.2.2
      have d0 : 0 ≤ D := hd.1
      rw [if_neg (by omega), if_neg (by rw [k1]; decide), if_neg]
      rw [hk]
      rintro ⟨h1, _⟩
      simp only [Option.getD_some] at h1
      omega
    rw [e, hk]
    rfl
theorem find_rt (hI : GI A B dep d) (hL : Live d) {k : Int} {N : List ByteArray} (hr : Rt d.seen k N) (hN : N ≠ []) (hl : N.length ≤ 8) {kind : Int} (hk : (d.nd k).kind = kind) (h0 : 0 ≤ k) : ∃ a, d.findF (pathF N) kind = (0, a, k) := by
  obtain ⟨a, ha⟩ := walk_rt hI hr []
  rw [List.append_nil] at ha
  refine ⟨a, ?_⟩
  unfold Dk.findF
  rw [if_neg (by simp [hL.2]), parse_join hN (rt_names hI.pseen hr) hl]
  simp only [ha, Dk.walkGo]
  rw [if_neg (by simp), if_neg (by omega), if_neg (fun h => h.2 hk)]
theorem find_top (hI : GI A B dep d) (hL : Live d) : ∃ a, d.findF E0 1 = (0, a, 0) := by
  refine ⟨(-1, e0), ?_⟩
  unfold Dk.findF
  have hp : parseF E0 = some [] := by unfold parseF; rw [if_pos rfl]
  rw [if_neg (by simp [hL.2]), hp]
  have hw : d.walkF [] = (0, (-1, e0), 0) := rfl
  simp only [hw]
  rw [if_neg (by simp), if_neg (by decide), if_neg (fun h => h.2 hI.k0)]
theorem std_inj (hI : GI A B dep d) {k k' : Int} (h : ∃ s, d.seen s = some k) (h' : ∃ s, d.seen s = some k') (he : stdOf d k = stdOf d k') : k = k' := by
  obtain ⟨s, q1⟩ := h
  obtain ⟨s', q2⟩ := h'
  obtain ⟨_, _, r1⟩ := hI.rt q1
  obtain ⟨_, _, r2⟩ := hI.rt q2
  have e : pathF (nmOf d.seen k) = pathF (nmOf d.seen k') := congrArg Std.path he
  rw [nm_eq hI.pseen r1, nm_eq hI.pseen r2] at e
  have e2 := path_inj (rt_names hI.pseen r1) (rt_names hI.pseen r2) e
  rw [e2] at r1
  exact rt_fun r1 r2
/-- Some nodes are all safe. -/
structure Synced (d0 d : Dk) (S : Int → Prop) : Prop where
  seen : d.seen = d0.seen
  nd : ∀ k, (d.nd k).kind = (d0.nd k).kind ∧ (d.nd k).seen = (d0.nd k).seen
  none : ∀ c ∈ d.pending, ¬ S c.node
  len : d.nodes.length = d0.nodes.length
theorem Synced.settle {d0 : Dk} {S : Int → Prop} (h : Synced d0 d S) (hL : Live d) {i : Nat} {nd : Nd} (hi : d.nodes[i]? = some nd) : Synced d0 (settleF d i nd).2 (fun k => S k ∨ k = i) ∧ Live (settleF d i nd).2 ∧ (settleF d i nd).1 = 0 := by
  rw [live_settle hL]
  refine ⟨⟨h.seen, fun k => ?_, fun c hc => ?_, by show (d.nodes.set i _).length = _; rw [List.length_set]; exact h.len⟩, hL, rfl⟩
  · have := h.nd k
    unfold Dk.nd at this ⊢
    show ((((d.nodes.set i _)[k.toNat]?).getD _ : Nd).kind = _ ∧ (((d.nodes.set i _)[k.toNat]?).getD _ : Nd).seen = _)
    by_cases hik : i = k.toNat
    · rw [← hik] at this ⊢
      rw [hi] at this
      rw [List.getElem?_set_self (List.getElem?_eq_some_iff.1 hi).1]
      exact this
    · rw [List.getElem?_set_ne hik]
      exact this
  · have hm := List.mem_filter.1 (show c ∈ restOf i d.pending from hc)
    rintro (h1 | h1)
    · exact h.none c hm.1 h1
    · exact absurd h1 (by simpa using hm.2)
/-- A crash that keeps nothing leaves what is all safe. -/
theorem crash_safe {d0 : Dk} {S : Int → Prop} (hI : GI A B dep d) (hI0 : GI A B dep d0) (h : Synced d0 d S) (h0 : S 0) (hS : ∀ s k, d0.seen s = some k → S k) (hc : Crashed d 0 0 d') (hI' : GI A B dep d') :
    d'.seen = d0.seen ∧ ∀ s k, d0.seen s = some k → d'.nd k = ⟨(d0.nd k).kind, (d0.nd k).seen, (d0.nd k).seen⟩ := by
  have hL : ∀ c ∈ crashL d.pending 0 0, c.what = 0 ∧ ¬ S c.node := by
    intro c hm
    have e : clampN 0 d.pending.length = 0 := by unfold clampN; split <;> omega
    unfold crashL at hm
    rw [e] at hm
    simp only [List.take_zero, List.nil_append] at hm
    split at hm
    · rename_i c0 hc0
      split at hm
      · rename_i hw
        obtain rfl := List.mem_singleton.1 hm
        exact ⟨hw, h.none c0 (List.mem_of_getElem? hc0)⟩
      · cases hm
    · cases hm
  have hfold : (crashL d.pending 0 0).foldl entG d.kept = d.kept := by
    have : ∀ (L : List Chg), (∀ c ∈ L, c.what = 0) → ∀ m, L.foldl entG m = m := by
      intro L
      induction L with
      | nil => intros; rfl
      | cons c L ih =>
        intro hL m
        rw [List.foldl_cons, ih (fun x hx => hL x (by simp [hx]))]
        rw [entG_cases, hL c (by simp)]
        rfl
    exact this _ (fun c hc => (hL c hc).1) _
  -- what is kept of safe directories
  have hkept : ∀ x, S x → ∀ n, d.kept (x, n) = d0.seen (x, n) := fun x hx n => by
    rw [← h.seen, ← hI.eq]
    exact (fold_off (j := x) (fun c hc he => h.none c hc (he ▸ hx)) n).symm
  have e : ∀ n s k, dep k ≤ n → (d'.seen s = some k ↔ d0.seen s = some k) := by
    intro n
    induction n with
    | zero =>
      intro s k hn
      constructor
      · intro hs; have := (hI'.pseen.dpt s k hs).1; omega
      · intro hs; have := (hI0.pseen.dpt s k hs).1; omega
    | succ n ih =>
      rintro ⟨x, nm⟩ k hn
      constructor
      · intro hs
        have hk := hc.sub _ _ hs
        rw [hfold] at hk
        rcases hI'.up _ _ hs with hx | ⟨t, ht⟩
        · simp only at hx
          rw [hkept x (hx ▸ h0)] at hk
          exact hk
        · have hd := (hI'.pseen.dpt _ _ hs).1
          have := (ih t x (by simp only at hd; omega)).1 ht
          rw [hkept x (hS _ _ this)] at hk
          exact hk
      · intro hs
        rcases hI0.up _ _ hs with hx | ⟨t, ht⟩
        · simp only at hx
          rw [hx]
          refine hc.root nm k ?_
          rw [hfold, hkept 0 h0, ← hx]
          exact hs
        · have hd := (hI0.pseen.dpt _ _ hs).1
          have := (ih t x (by simp only at hd; omega)).2 ht
          refine hc.closed t x this ?_ nm k ?_
          · have hd2 := (hI0.pseen.dir _ _ hs).2.2
            unfold Dk.isD at hd2 ⊢
            rw [(h.nd x).1]
            exact hd2
          · rw [hfold, hkept x (hS _ _ ht)]
            exact hs
  have hseen : d'.seen = d0.seen := by
    funext s
    cases h1 : d'.seen s with
    | none =>
      cases h2 : d0.seen s with
      | none => rfl
      | some k => rw [(e (dep k) s k (Nat.le_refl _)).2 h2] at h1; cases h1
    | some k => rw [(e (dep k) s k (Nat.le_refl _)).1 h1]
  refine ⟨hseen, fun s k hs => ?_⟩
  have hr := hI0.pseen.rng s k hs
  obtain ⟨j, rfl⟩ : ∃ j : Nat, k = j := ⟨k.toNat, by omega⟩
  have hjl : j < d.nodes.length := by rw [h.len]; omega
  have hj := List.getElem?_eq_getElem hjl
  obtain ⟨x, x1, x2, x3, x4⟩ := hc.kept j _ hj
  have hx : d'.nd (j : Int) = x := by simp [Dk.nd, x1]
  have hd : d.nd (j : Int) = d.nodes[j] := by simp [Dk.nd, hj]
  have nn := h.nd (j : Int)
  rw [hd] at nn
  have hb : bfold (j : Int) d.nodes[j].kept (crashL d.pending 0 0) = d.nodes[j].kept := by
    have : ∀ (L : List Chg), (∀ c ∈ L, c.node ≠ (j : Int)) → ∀ y, bfold (j : Int) y L = y := by
      intro L
      induction L with
      | nil => intros; rfl
      | cons c L ih =>
        intro hL y
        show bfold (j : Int) (bstep j y c) L = y
        rw [ih fun z hz => hL z (by simp [hz])]
        unfold bstep
        rw [if_neg (hL c (by simp))]
    exact this _ (fun c hc he => (hL c hc).2 (he ▸ hS _ _ hs)) _
  have hk2 : d.nodes[j].kept = d.nodes[j].seen := by
    have t := (hI.node j _ hj).eq ⟨s, by rw [h.seen]; exact hs⟩
    rw [← t]
    exact ((bfold_none (j := (j : Int)) (L := d.pending) (fun c hc he => absurd (hS _ _ hs) (he ▸ h.none c hc)) _).1).symm
  have x5 := x4 ⟨s, by rw [hseen]; exact hs⟩
  rw [hx]
  obtain ⟨a1, a2, a3⟩ := x
  simp only at x2 x3 x5
  rw [x5, x3, hb, hk2, x2, nn.1, nn.2]
end
end Go.Proofs.YtojnickeblbgoaaDoor

/-
  Layer 1 (disk), part Gen M: DiskPrefix, plainly.
-/
namespace Go.Proofs.YtojnickeblbgoaaDoor
open Go.Lift Go.Sort
set_option linter.unusedSimpArgs false
set_option linter.unusedVariables false
set_option maxHeartbeats 4000000

/-- One change more, nothing made safe. -/
structure Ext1 (d d' : Dk) (c : Chg) : Prop where
  pend : d'.pending = d.pending ++ [c]
  kept : d'.kept = d.kept
  cap : d'.cap = d.cap
  old : ∀ (j : Nat) nd, d.nodes[j]? = some nd → ∃ x, d'.nodes[j]? = some x ∧ x.kind = nd.kind ∧ x.kept = nd.kept
  new : ∀ (j : Nat) x, d'.nodes[j]? = some x → (∃ nd, d.nodes[j]? = some nd ∧ x.kept = nd.kept) ∨ x.kept = e0
section
variable {A B : Nat} {dep : Int → Nat} {d d' : Dk}
theorem do_ext (h : Live d) (c : Chg) (k : Int) : (doF d c k.toNat (d.nd k)).1 = 0 ∧ Live (doF d c k.toNat (d.nd k)).2 ∧ Ext1 d (doF d c k.toNat (d.nd k)).2 c := by
  obtain ⟨h1, h2⟩ := live_do h c k.toNat (d.nd k)
  refine ⟨h1, h2, ?_⟩
  unfold doF
  rw [live_act h, if_neg (by simp)]
  have hset : ∀ (j : Nat) nd, d.nodes[j]? = some nd → ∃ x, (d.nodes.set k.toNat { d.nd k with seen := (applyF c (d.nd k).seen d.seen).1 })[j]? = some x ∧ x.kind = nd.kind ∧ x.kept = nd.kept := fun j nd hj => by
    by_cases hjk : k.toNat = j
    · subst hjk
      have hn : d.nd k = nd := by simp [Dk.nd, hj]
      rw [List.getElem?_set_self (List.getElem?_eq_some_iff.1 hj).1, hn]
      exact ⟨_, rfl, rfl, rfl⟩
    · rw [List.getElem?_set_ne hjk]
      exact ⟨nd, hj, rfl, rfl⟩
  refine ⟨rfl, rfl, rfl, hset, fun j x hx => ?_⟩
  have hl : j < d.nodes.length := by
    have := (List.getElem?_eq_some_iff.1 hx).1
    simpa using this
  obtain ⟨y, y1, _, y3⟩ := hset j _ (List.getElem?_eq_getElem hl)
  have : some x = some y := hx.symm.trans y1
  cases this
  exact .inl ⟨_, List.getElem?_eq_getElem hl, y3⟩
/-- What a call comes to, where the power is on: it is refused and all is as it was, or it adds one change. -/
theorem act_live (h : Live d) (hI : GI A B dep d) {o : Dop} {e : Int} (ha : ActR d o e d') : Live d' ∧ ((e ≠ 0 ∧ d' = d) ∨ (e = 0 ∧ ∃ c, Ext1 d d' c ∧ (c.what = 0 ↔ o.kind = 3))) := by
  unfold ActR at ha
  have stay : ∀ {e : Int}, e ≠ 0 → (e, d') = (e, d) → Live d' ∧ ((e ≠ 0 ∧ d' = d) ∨ (e = 0 ∧ ∃ c, Ext1 d d' c ∧ (c.what = 0 ↔ o.kind = 3))) := fun he hd => by
    have := congrArg Prod.snd hd
    simp only at this
    subst this
    exact ⟨h, .inl ⟨he, rfl⟩⟩
  have stay' : ∀ {e e' : Int}, e' ≠ 0 → (e, d') = (e', d) → Live d' ∧ ((e ≠ 0 ∧ d' = d) ∨ (e = 0 ∧ ∃ c, Ext1 d d' c ∧ (c.what = 0 ↔ o.kind = 3))) := fun {e e'} he hd => by
    have h1 := congrArg Prod.fst hd
    simp only at h1
    subst h1
    exact stay he hd
  have doit : ∀ {e : Int} (c : Chg) (k : Int), (e, d') = doF d c k.toNat (d.nd k) → (c.what = 0 ↔ o.kind = 3) → Live d' ∧ ((e ≠ 0 ∧ d' = d) ∨ (e = 0 ∧ ∃ c, Ext1 d d' c ∧ (c.what = 0 ↔ o.kind = 3))) := fun c k hd hw => by
    obtain ⟨h1, h2, h3⟩ := do_ext h c k
    rw [← hd] at h1 h2 h3
    exact ⟨h2, .inr ⟨h1, c, h3, hw⟩⟩
  have create : ∀ {e : Int} (k : Int), (e, d') = createF d o.p k → o.kind ≠ 3 → Live d' ∧ ((e ≠ 0 ∧ d' = d) ∨ (e = 0 ∧ ∃ c, Ext1 d d' c ∧ (c.what = 0 ↔ o.kind = 3))) := fun {e} k hc h3 => by
    unfold createF at hc
    rw [if_neg (by simp [h.2])] at hc
    split at hc
    · exact stay' (by decide) hc
    · rename_i names hpn
      split at hc
      · rename_i hw
        exact stay' hw hc
      · rename_i hw
        have hw0 : (d.walkF names).1 = 0 := by simpa using hw
        split at hc
        · exact stay' (by decide) hc
        · rename_i hneg
          have hn : names ≠ [] := fun he => by rw [he] at hneg; exact hneg (show (0 : Int) ≤ 0 by omega)
          obtain ⟨q1, q2⟩ := walk_dir hI.good hn hw0
          obtain ⟨D, hD⟩ : ∃ D : Int, D = (d.walkF names).2.1.1 := ⟨_, rfl⟩
          rw [← hD] at q1 q2 hc
          have hnd : d.nd D = (d.addNode k).nd D := (nd_add d k q1 q2).symm
          rw [hnd] at hc
          obtain ⟨h1, h2, g⟩ := do_ext (d := d.addNode k) h ⟨2, D, e0, 0, (d.walkF names).2.1.2, e0, d.nodes.length⟩ D
          rw [← hc] at h1 h2 g
          refine ⟨h2, .inr ⟨h1, _, ⟨g.pend, g.kept, g.cap, fun j nd hj => ?_, fun j x hx => ?_⟩, ⟨fun h => by simp at h, fun h => absurd h h3⟩⟩⟩
          · have hj' : (d.addNode k).nodes[j]? = some nd := by
              show (d.nodes ++ [_])[j]? = some nd
              rw [List.getElem?_append_left (List.getElem?_eq_some_iff.1 hj).1]; exact hj
            exact g.old j nd hj'
          · rcases g.new j x hx with ⟨nd, hj, hk⟩ | hk
            · have hj' : (d.nodes ++ [(⟨k, e0, e0⟩ : Nd)])[j]? = some nd := hj
              by_cases hjl : j < d.nodes.length
              · rw [List.getElem?_append_left hjl] at hj'
                exact .inl ⟨nd, hj', hk⟩
              · right
                have := List.mem_of_getElem? hj'
                rcases List.mem_append.1 this with hm | hm
                · rw [List.getElem?_append_right (by omega)] at hj'
                  have hjn : j - d.nodes.length = 0 := by
                    have := (List.getElem?_eq_some_iff.1 hj').1
                    simp at this; omega
                  rw [hjn] at hj'
                  have : nd = ⟨k, e0, e0⟩ := by simpa using hj'.symm
                  rw [hk, this]
                · rw [hk, List.mem_singleton.1 hm]
            · exact .inr hk
  split at ha
  · rename_i hk
    exact create 1 ha (by rw [hk]; decide)
  split at ha
  · rename_i hk
    exact create 2 ha (by rw [hk]; decide)
  split at ha
  · rename_i hk
    obtain ⟨U, _, ha⟩ := ha
    unfold appendF at ha
    split at ha
    · rename_i hf; exact stay' hf ha
    split at ha
    · exact stay' (by decide) ha
    exact doit _ _ ha ⟨fun _ => hk, fun _ => rfl⟩
  rename_i hk3
  split at ha
  · unfold truncF at ha
    rw [if_neg (by simp [h.2])] at ha
    split at ha
    · exact stay' (by decide) ha
    split at ha
    · exact stay' (by decide) ha
    split at ha
    · rename_i hf; exact stay' hf ha
    split at ha
    · exact stay' (by decide) ha
    exact doit _ _ ha ⟨fun h => by simp at h, fun h => absurd h hk3⟩
  split at ha
  · unfold renameX at ha
    rw [if_neg (by simp [h.2])] at ha
    split at ha
    · split at ha
      · exact stay' (by decide) ha
      split at ha
      · exact stay' (by decide) ha
      unfold renW at ha
      split at ha
      · rename_i hf; exact stay' hf ha
      split at ha
      · exact stay' (by decide) ha
      split at ha
      · exact stay' (by decide) ha
      exact doit _ _ ha ⟨fun h => by simp at h, fun h => absurd h hk3⟩
    · exact stay' (by decide) ha
  · unfold removeX removeF at ha
    split at ha
    · exact stay' (by decide) ha
    split at ha
    · rename_i hf; exact stay' hf ha
    split at ha
    · exact stay' (by decide) ha
    exact doit _ _ ha ⟨fun h => by simp at h, fun h => absurd h hk3⟩
/-- A call has one outcome. -/
theorem act_fun {o : Dop} {e e' : Int} {d1 d2 : Dk} (h : ActR d o e d1) (h' : ActR d o e' d2) : e = e' ∧ d1 = d2 := by
  unfold ActR at h h'
  have eq : ∀ {x : Int × Dk}, (e, d1) = x → (e', d2) = x → e = e' ∧ d1 = d2 := fun h1 h2 => by
    have := h1.trans h2.symm
    simpa using this
  split at h
  · rename_i hk; rw [if_pos hk] at h'; exact eq h h'
  rename_i k1
  rw [if_neg k1] at h'
  split at h
  · rename_i hk; rw [if_pos hk] at h'; exact eq h h'
  rename_i k2
  rw [if_neg k2] at h'
  split at h
  · rename_i hk
    rw [if_pos hk] at h'
    obtain ⟨U, hU, h⟩ := h
    obtain ⟨U', hU', h'⟩ := h'
    rw [usedN_eq hU hU' rfl fun _ _ _ => rfl] at h'
    exact eq h h'
  rename_i k3
  rw [if_neg k3] at h'
  split at h
  · rename_i hk; rw [if_pos hk] at h'; exact eq h h'
  rename_i k4
  rw [if_neg k4] at h'
  split at h
  · rename_i hk; rw [if_pos hk] at h'; exact eq h h'
  rename_i k5
  rw [if_neg k5] at h'
  exact eq h h'
/-- Nothing was made safe. -/
structure Raw (cap : Int) (d : Dk) : Prop where
  live : Live d
  kept : d.kept = fun _ => none
  raw : ∀ nd ∈ d.nodes, nd.kept = e0
  cap : d.cap = cap
/-- The states of a disk, and the calls that led from one to the next. -/
structure Hist (cap : Int) (sts : List Dk) (did : List Dop) : Prop where
  len : sts.length = did.length + 1
  first : sts[0]? = some (newD cap)
  step : ∀ (i : Nat) s s' o, sts[i]? = some s → sts[i + 1]? = some s' → did[i]? = some o → ActR s o 0 s'
  small : ∀ o ∈ did, o.q.size ≤ 1048576
theorem qsum_take_mono (l : List Dop) (i : Nat) : qsum (l.take i) ≤ qsum l := qsum_take_le l i
theorem Hist.all {cap : Int} {sts : List Dk} {did : List Dop} (h : Hist cap sts did) (hq : qsum did ≤ 1048576) : ∀ (i : Nat) s, sts[i]? = some s → Raw cap s ∧ (∃ dep, GI (qsum (did.take i)) (1 + 2 * i) dep s) ∧ s.pending.length = i := by
  intro i
  induction i with
  | zero =>
    intro s hs
    rw [h.first] at hs
    cases hs
    exact ⟨⟨live_new cap, rfl, fun nd hnd => by simp [newD] at hnd; rw [hnd], rfl⟩, ⟨_, (newD_gi cap).more (Nat.zero_le _) (by omega)⟩, rfl⟩
  | succ i ih =>
    intro s' hs'
    have hl := (List.getElem?_eq_some_iff.1 hs').1
    have hlen := h.len
    have hs := List.getElem?_eq_getElem (l := sts) (i := i) (by omega)
    have ho := List.getElem?_eq_getElem (l := did) (i := i) (by omega)
    generalize sts[i] = s at hs
    generalize did[i] = o at ho
    obtain ⟨r, ⟨dep, g⟩, hp⟩ := ih s hs
    have ha := h.step i s s' o hs hs' ho
    have hqt := qsum_take_mono did i
    have ho2 := h.small o (List.mem_of_getElem? ho)
    obtain ⟨⟨dep', g'⟩, _⟩ := ActR.gi g (by omega) ho2 ha
    obtain ⟨l1, l2⟩ := act_live r.live g ha
    obtain ⟨_, c, x, _⟩ := l2.resolve_left fun h => h.1 rfl
    have hqs := qsum_take did i ho
    refine ⟨⟨l1, by rw [x.kept]; exact r.kept, fun nd hnd => ?_, by rw [x.cap]; exact r.cap⟩, ⟨dep', g'.more (by omega) (by omega)⟩, by rw [x.pend]; simp [hp]⟩
    obtain ⟨j, hj⟩ := List.getElem?_of_mem hnd
    rcases x.new j nd hj with ⟨y, hy, hk⟩ | hk
    · rw [hk]; exact r.raw y (List.mem_of_getElem? hy)
    · exact hk
/-- An earlier state's changes are the first ones of a later one. -/
theorem Hist.ext {cap : Int} {sts : List Dk} {did : List Dop} (h : Hist cap sts did) (hq : qsum did ≤ 1048576) {i : Nat} {s : Dk} (hs : sts[i]? = some s) : ∀ (n : Nat) s', sts[i + n]? = some s' → s.pending = s'.pending.take i ∧ ∀ (j : Nat) nd, s.nodes[j]? = some nd → ∃ x, s'.nodes[j]? = some x ∧ x.kind = nd.kind := by
  intro n
  induction n with
  | zero =>
    intro s' hs'
    rw [Nat.add_zero, hs] at hs'
    cases hs'
    have := (h.all hq i s hs).2.2
    exact ⟨by rw [← this, List.take_length], fun j nd hj => ⟨nd, hj, rfl⟩⟩
  | succ n ih =>
    intro s' hs'
    have hl := (List.getElem?_eq_some_iff.1 hs').1
    have hlen := h.len
    have hs1 := List.getElem?_eq_getElem (l := sts) (i := i + n) (by omega)
    have ho := List.getElem?_eq_getElem (l := did) (i := i + n) (by omega)
    generalize sts[i + n] = s1 at hs1
    generalize did[i + n] = o at ho
    obtain ⟨e1, e2⟩ := ih s1 hs1
    obtain ⟨r, ⟨dep, g⟩, hp⟩ := h.all hq _ _ hs1
    have ha := h.step (i + n) s1 s' o hs1 hs' ho
    obtain ⟨_, l2⟩ := act_live r.live g ha
    obtain ⟨_, c, x, _⟩ := l2.resolve_left fun h => h.1 rfl
    refine ⟨by rw [x.pend, List.take_append_of_le_length (by omega)]; exact e1, fun j nd hj => ?_⟩
    obtain ⟨y, y1, y2⟩ := e2 j nd hj
    obtain ⟨z, z1, z2, _⟩ := x.old j y y1
    exact ⟨z, z1, z2.trans y2⟩
/-- A disk with a crash's changes alone holds what lies behind the crash. -/
theorem prefix_same {A' B' : Nat} {dep' : Int → Nat} {n s : Dk} {cap : Int} {keep torn : Int} (hn : GI A' B' dep' n) (rn : Raw cap n) (rs : Raw cap s) (hp : n.pending = crashL s.pending keep torn)
    (hk : ∀ (j : Nat) nd, n.nodes[j]? = some nd → ∃ x, s.nodes[j]? = some x ∧ x.kind = nd.kind) (hc : Crashed s keep torn d') (hd : GI A B dep d') :
    d'.seen = n.seen ∧ ∀ t k, n.seen t = some k → (d'.nd k).kind = (n.nd k).kind ∧ (d'.nd k).seen = (n.nd k).seen := by
  have hseen : n.seen = (crashL s.pending keep torn).foldl entG s.kept := by rw [← hn.eq, hp, rn.kept, rs.kept]
  have e : ∀ m t k, dep' k ≤ m → n.seen t = some k → d'.seen t = some k := by
    intro m
    induction m with
    | zero => intro t k hm ht; have := (hn.pseen.dpt t k ht).1; omega
    | succ m ih =>
      rintro ⟨x, nm⟩ k hm ht
      rcases hn.up _ _ ht with hx | ⟨u, hu⟩
      · simp only at hx
        rw [hx] at ht ⊢
        exact hc.root nm k (by rw [← hseen]; exact ht)
      · have hdp := (hn.pseen.dpt _ _ ht).1
        have h1 := ih u x (by simp only at hdp; omega) hu
        refine hc.closed u x h1 ?_ nm k (by rw [← hseen]; exact ht)
        have hd2 := hn.pseen.dir _ _ ht
        obtain ⟨j, hj⟩ : ∃ j : Nat, x = j := ⟨x.toNat, by have := hd2.1; simp only at this; omega⟩
        have hjl : j < n.nodes.length := by have := hd2.2.1; simp only at this; omega
        obtain ⟨y, y1, y2⟩ := hk j _ (List.getElem?_eq_getElem hjl)
        have hk2 := hd2.2.2
        unfold Dk.isD at hk2 ⊢
        subst hj
        simp only [Dk.nd, Int.toNat_natCast] at hk2 ⊢
        rw [y1]
        rw [List.getElem?_eq_getElem hjl] at hk2
        show y.kind = 1
        rw [y2]; exact hk2
  have hs : d'.seen = n.seen := by
    funext t
    cases h1 : d'.seen t with
    | none =>
      cases h2 : n.seen t with
      | none => rfl
      | some k => rw [e _ t k (Nat.le_refl _) h2] at h1; cases h1
    | some k => rw [hseen, hc.sub t k h1]
  refine ⟨hs, fun t k ht => ?_⟩
  have hr := hn.pseen.rng t k ht
  obtain ⟨j, rfl⟩ : ∃ j : Nat, k = j := ⟨k.toNat, by omega⟩
  have hjl : j < n.nodes.length := by omega
  have hnj := List.getElem?_eq_getElem hjl
  obtain ⟨y, y1, y2⟩ := hk j _ hnj
  obtain ⟨x, x1, x2, x3, x4⟩ := hc.kept j y y1
  have e1 : d'.nd (j : Int) = x := by simp [Dk.nd, x1]
  have e2 : n.nd (j : Int) = n.nodes[j] := by simp [Dk.nd, hnj]
  rw [e1, e2]
  refine ⟨x2.trans y2, ?_⟩
  rw [x4 ⟨t, by rw [hs]; exact ht⟩, x3, ← hp, rs.raw y (List.mem_of_getElem? y1)]
  have := (hn.node j _ hnj).eq ⟨t, ht⟩
  rw [rn.raw _ (List.getElem_mem hjl)] at this
  exact this
end
end Go.Proofs.YtojnickeblbgoaaDoor

/-
  Layer 1 (disk), part Gen N: DiskPrefix, the walk.
-/
namespace Go.Proofs.YtojnickeblbgoaaDoor
open Go.Lift Go.Sort
set_option linter.unusedSimpArgs false
set_option linter.unusedVariables false
set_option maxHeartbeats 4000000

/-- Two disks beside one another, and a list beside them. -/
structure Two (w0 w : World) (b b2 : Nat) (d n : Dk) (x : Value) (els : List (List Value)) : Prop where
  ex : ∃ v tag v2 tag2, DA w b d v tag ∧ DA w b2 n v2 tag2 ∧ (∀ c, tag c ≠ 0 → w0.heap.size ≤ c) ∧ (∀ c, tag2 c ≠ 0 → w0.heap.size ≤ c) ∧ (∀ c, tag c ≠ 0 → tag2 c = 0) ∧ (∀ c, inB x c → w0.heap.size ≤ c ∧ c < w.heap.size ∧ tag c = 0 ∧ tag2 c = 0)
  fr : Fr (fun _ => False) w0 w
  sl : SlW 6 w x els
section
variable {w0 w w' : World} {b b2 : Nat} {d d' n : Dk} {x : Value} {els : List (List Value)}
theorem Two.swap (h : Two w0 w b b2 d n x els) : Two w0 w b2 b n d x els := by
  obtain ⟨v, tag, v2, tag2, h1, h2, t1, t2, hd, hx⟩ := h.ex
  exact ⟨⟨v2, tag2, v, tag, h2, h1, t2, t1, fun c hc => Classical.byContradiction fun hn => hc (hd c hn), fun c hc => by have := hx c hc; exact ⟨this.1, this.2.1, this.2.2.2, this.2.2.1⟩⟩, h.fr, h.sl⟩
theorem Two.fr0 (h : Two w0 w b b2 d n x els) (f : Fr (fun _ => False) w w') : Two w0 w' b b2 d n x els := by
  obtain ⟨v, tag, v2, tag2, h1, h2, t1, t2, hd, hx⟩ := h.ex
  have s := f.size
  exact ⟨⟨v, tag, v2, tag2, h1.fr0 f, h2.fr0 f, t1, t2, hd, fun c hc => by have := hx c hc; exact ⟨this.1, by omega, this.2.2⟩⟩, h.fr.trans f fun _ _ => id, h.sl.fr f fun _ _ => id⟩
theorem Two.did (h : Two w0 w b b2 d n x els) (hm : ∀ v tag, DA w b d v tag → DDid w w' b tag d') : Two w0 w' b b2 d' n x els := by
  obtain ⟨v, tag, v2, tag2, h1, h2, t1, t2, hd, hx⟩ := h.ex
  obtain ⟨f, v', tag', h1', t'⟩ := hm v tag h1
  have s := f.size
  have s0 := h.fr.size
  have hb2 := h2.bound
  refine ⟨⟨v', tag', v2, tag2, h1', h2.fr f fun c hc => ⟨hd c hc, fun h0 => hc (by rw [h0]; exact h1.t0)⟩, fun c hc => (t' c hc).elim (t1 c) fun h => by omega, t2, fun c hc => Classical.byContradiction fun hn => ?_, fun c hc => ?_⟩, h.fr.new f fun c hc => t1 c hc, h.sl.fr f fun c hc hn => hn (hx c hc).2.2.1⟩
  · rcases t' c hc with h' | h'
    · exact hn (hd c h')
    · have := hb2 c hn; omega
  · have q := hx c hc
    refine ⟨q.1, by omega, Classical.byContradiction fun hn => ?_, q.2.2.2⟩
    rcases t' c hn with h' | h'
    · exact h' q.2.2.1
    · omega
/-- A call of the first disk. -/
theorem Two.left (h : Two w0 w b b2 d n x els) {m : M Value} {R : Value → Dk → Prop} (hm : ∀ v tag, DA w b d v tag → Run m w fun r w' => ∃ d', R r d' ∧ DDid w w' b tag d') :
    Run m w fun r w' => ∃ d', R r d' ∧ Two w0 w' b b2 d' n x els := by
  obtain ⟨v, tag, v2, tag2, h1, h2, t1, t2, hd, hx⟩ := h.ex
  refine (hm v tag h1).mono ?_
  rintro r w' ⟨d', hr, hdd⟩
  refine ⟨d', hr, ?_⟩
  obtain ⟨f, v', tag', h1', t'⟩ := hdd
  have s := f.size
  have s0 := h.fr.size
  have hb2 := h2.bound
  refine ⟨⟨v', tag', v2, tag2, h1', h2.fr f fun c hc => ⟨hd c hc, fun h0 => hc (by rw [h0]; exact h1.t0)⟩, fun c hc => (t' c hc).elim (t1 c) fun h => by omega, t2, fun c hc => Classical.byContradiction fun hn => ?_, fun c hc => ?_⟩, h.fr.new f fun c hc => t1 c hc, h.sl.fr f fun c hc hn => hn (hx c hc).2.2.1⟩
  · rcases t' c hc with h' | h'
    · exact hn (hd c h')
    · have := hb2 c hn; omega
  · have q := hx c hc
    refine ⟨q.1, by omega, Classical.byContradiction fun hn => ?_, q.2.2.2⟩
    rcases t' c hn with h' | h'
    · exact h' q.2.2.1
    · omega
end
theorem within_run {w : World} (k : Int) (n : Nat) {Q : Value → World → Prop} (q : Q (.int .i64 (clampN k n)) w) : Run (F.granarylaw1_within (.int .i64 k) (.int .i64 n)) w Q := by
  unfold F.granarylaw1_within
  unfold clampN at q
  by_cases h0 : k < 0
  · have h1 : ¬ (n : Int) < k := by omega
    rw [if_neg h1, show k.toNat = 0 by omega] at q
    simp [h0]
    exact q
  · by_cases h1 : (n : Int) < k
    · rw [if_pos h1] at q
      simp [h0, h1]
      exact q
    · rw [if_neg h1, show ((k.toNat : Nat) : Int) = k by omega] at q
      simp [h0, h1]
      exact q
theorem torn_ok {s s' : Dk} {o : Dop} {cap : Int} (r : Raw cap s) (ha : ActR s o 0 s') (hk : o.kind = 3) {q' : ByteArray} (hq : q'.size ≤ o.q.size) {U : Nat} (hU : UsedN s U) :
    (appendF s o.p q' U).1 = 0 ∧ Live (appendF s o.p q' U).2 ∧ Ext1 s (appendF s o.p q' U).2 ⟨0, (s.findF o.p 2).2.2, q', 0, e0, e0, 0⟩ ∧ s'.pending = s.pending ++ [⟨0, (s.findF o.p 2).2.2, o.q, 0, e0, e0, 0⟩] ∧ (appendF s o.p q' U).2.nodes.length = s.nodes.length := by
  unfold ActR at ha
  rw [if_neg (by rw [hk]; decide), if_neg (by rw [hk]; decide), if_pos hk] at ha
  obtain ⟨U', hU', ha⟩ := ha
  rw [usedN_eq hU hU' rfl fun _ _ _ => rfl] at ha
  unfold appendF at ha ⊢
  split at ha
  · rename_i hf
    have := congrArg Prod.fst ha
    exact absurd this.symm hf
  rename_i hf
  split at ha
  · have := congrArg Prod.fst ha
    simp at this
  rename_i hc
  rw [if_neg hf, if_neg (by omega)]
  obtain ⟨h1, h2, h3⟩ := do_ext r.live ⟨0, (s.findF o.p 2).2.2, q', 0, e0, e0, 0⟩ (s.findF o.p 2).2.2
  obtain ⟨_, _, h4⟩ := do_ext r.live ⟨0, (s.findF o.p 2).2.2, o.q, 0, e0, e0, 0⟩ (s.findF o.p 2).2.2
  refine ⟨h1, h2, h3, ?_, ?_⟩
  · have := congrArg Prod.snd ha
    simp only at this
    rw [this]
    exact h4.pend
  · unfold doF
    rw [live_act r.live, if_neg (by simp)]
    simp
theorem Ext1.raw {s s' : Dk} {c : Chg} {cap : Int} (x : Ext1 s s' c) (r : Raw cap s) (l : Live s') : Raw cap s' := by
  refine ⟨l, by rw [x.kept]; exact r.kept, fun nd hnd => ?_, by rw [x.cap]; exact r.cap⟩
  obtain ⟨j, hj⟩ := List.getElem?_of_mem hnd
  rcases x.new j nd hj with ⟨y, hy, hk⟩ | hk
  · rw [hk]; exact r.raw y (List.mem_of_getElem? hy)
  · exact hk
/-- What a crash keeps of a script's changes. -/
theorem hist_crash {cap keep torn : Int} {sts : List Dk} {did : List Dop} {d s : Dk} {k : Nat} (H : Hist cap sts did) (hq : qsum did ≤ 1048576) (hd : sts[did.length]? = some d) (hk : k = clampN keep did.length) (hs : sts[k]? = some s) :
    (∀ o, did[k]? = some o → o.kind = 3 → crashL d.pending keep torn = s.pending ++ [⟨0, (s.findF o.p 2).2.2, o.q.extract 0 (clampN torn o.q.size), 0, e0, e0, 0⟩]) ∧ ((∀ o, did[k]? = some o → o.kind ≠ 3) → crashL d.pending keep torn = s.pending) := by
  have hkle : k ≤ did.length := by rw [hk]; exact clamp_le _ _
  have hp := (H.all hq _ _ hd).2.2
  obtain ⟨rs, ⟨dep, gs⟩, _⟩ := H.all hq _ _ hs
  have hpk := (H.ext hq hs (did.length - k) d (by rw [show k + (did.length - k) = did.length by omega]; exact hd)).1
  have hlen := H.len
  unfold crashL
  rw [hp, ← hk, ← hpk]
  by_cases hlt : k < did.length
  · have eo := List.getElem?_eq_getElem (l := did) (i := k) hlt
    have es := List.getElem?_eq_getElem (l := sts) (i := k + 1) (by omega)
    generalize did[k] = o at eo
    generalize sts[k + 1] = s' at es
    have ha := H.step k s s' o hs es eo
    have hp2 := (H.ext hq es (did.length - (k + 1)) d (by rw [show k + 1 + (did.length - (k + 1)) = did.length by omega]; exact hd)).1
    have key : ∀ c, s'.pending = s.pending ++ [c] → d.pending[k]? = some c := fun c hc => by
      rw [hp2, hpk, List.take_add_one] at hc
      have := List.append_cancel_left hc
      cases h : d.pending[k]? with
      | none => rw [h] at this; simp at this
      | some x => rw [h] at this; simpa using this
    refine ⟨fun o' ho' hk3 => ?_, fun hn => ?_⟩
    · rw [eo] at ho'; cases ho'
      have hU : ∃ U, UsedN s U := by
        unfold ActR at ha
        rw [if_neg (by rw [hk3]; decide), if_neg (by rw [hk3]; decide), if_pos hk3] at ha
        obtain ⟨U, hU, _⟩ := ha
        exact ⟨U, hU⟩
      obtain ⟨U, hU⟩ := hU
      rw [key _ (torn_ok rs ha hk3 (Nat.le_refl _) hU).2.2.2.1]
      simp
    · obtain ⟨_, l2⟩ := act_live rs.live gs ha
      obtain ⟨_, c, x, hx⟩ := l2.resolve_left fun h => h.1 rfl
      rw [key _ x.pend]
      have : ¬ c.what = 0 := fun h => hn o eo (hx.1 h)
      simp [this]
  · have hkl : k = did.length := by omega
    refine ⟨fun o ho _ => ?_, fun _ => ?_⟩
    · have := (List.getElem?_eq_some_iff.1 ho).1; omega
    · rw [List.getElem?_eq_none (by omega)]; simp
theorem dump_len' {d : Dk} {A B : Nat} {dep : Int → Nat} (hI : GI A B dep d) {l : List Std} (hd : DumpOk d l) : l.length ≤ B := by
  obtain ⟨ks, k1, k2, k3⟩ := hd.ex
  rw [k3.length_eq, List.length_map]
  have q := pigeon ks ((List.range d.nodes.length).map fun n : Nat => (n : Int)) k1 fun x hx => by
    obtain ⟨s, hs⟩ := (k2 x).1 hx
    have := hI.pseen.rng _ _ hs
    exact List.mem_map.2 ⟨x.toNat, List.mem_range.2 (by omega), by omega⟩
  have := hI.len
  simp only [List.length_map, List.length_range] at q
  omega
/-- What two disks that hold the same show. -/
theorem tail_run {w w6 : World} {b b2 : Nat} {d n : Dk} {x : Value} {els : List (List Value)} {A A' B B' : Nat} {dep dep' : Int → Nat} (T : Two w w6 b b2 d n x els) (gd : GI A B dep d) (gn : GI A' B' dep' n) (hA : A ≤ 2305843009213693952) (hA' : A' ≤ 2305843009213693952) (hB : B ≤ 16777216) (hB' : B' ≤ 16777216)
    (hs : d.seen = n.seen) (hk : ∀ t k, n.seen t = some k → (d.nd k).kind = (n.nd k).kind ∧ (d.nd k).seen = (n.nd k).seen) (hoff : d.pending = []) :
    Run ((F.disk_Disk_Dump (Ptr b)).bind fun x121 =>
                    (F.disk_Disk_Dump (Ptr b2)).bind fun x122 =>
                      (F.granarylaw1_sameStored x121 x122).bind fun x123 =>
                        (guardM x123 true (M.ret (Ptr b))).bind fun x124 =>
                          (guardM x123 true (F.disk_Disk_Used x124)).bind fun x125 =>
                            (guardM x123 true (M.ret (Ptr b2))).bind fun x126 =>
                              (guardM x123 true (F.disk_Disk_Used x126)).bind fun x127 =>
                                (guardM x123 true (optM (binV BinOp.eql x125 x127))).bind fun x128 =>
                                  bindO (pickV x123 x128 (Value.bool false)) fun x129 =>
                                    (guardM x129 true (M.ret (Ptr b))).bind fun x130 =>
                                      (guardM x129 true (F.disk_Disk_Pending x130)).bind fun x131 =>
                                        (guardM x129 true (optM (binV BinOp.eql x131 (Value.int IntKind.i64 0)))).bind
                                          fun x132 => bindO (pickV x129 x132 (Value.bool false)) fun x22 => M.ret x22) w6 fun r w' => r = .bool true ∧ Fr (fun _ => False) w w' := by
  simp only [Run_bind]
  obtain ⟨v, tag, v2, tag2, a1, a2, _⟩ := T.ex
  refine (dump_run a1 gd hB hA).mono ?_
  rintro r1 w7 ⟨l1, h1, o1, f1, _⟩
  refine (dump_run (a2.fr0 f1) gn hB' hA').mono ?_
  rintro r2 w8 ⟨l2, h2, o2, f2, _⟩
  have e : l1 = l2 := by
    refine o1.eq o2 (fun k => by rw [hs]) fun k ⟨s, hs'⟩ => ?_
    obtain ⟨q1, q2⟩ := hk s k (by rw [← hs]; exact hs')
    unfold stdOf
    rw [hs, q1, q2]
  subst e
  have hl := dump_len' gd o1
  refine (same_run (h1.fr f2 fun _ _ h => h).1 h2.1 (by omega)).mono ?_
  rintro _ w9 ⟨rfl, f3⟩
  simp [-ldA_ptr]
  have f13 := (f1.trans f2 fun _ _ => id).trans f3 fun _ _ => id
  refine (used2_run (a1.fr0 f13) gd).mono ?_
  rintro _ w10 ⟨U, rfl, u1, f4⟩
  refine (used2_run ((a2.fr0 f13).fr0 f4) gn).mono ?_
  rintro _ w11 ⟨U', rfl, u2, f5⟩
  have hU := used_eq u2 u1 hs fun s k h => (hk s k h).2
  subst hU
  simp [-ldA_ptr]
  refine (pending_run (((a1.fr0 f13).fr0 f4).fr0 f5)).mono ?_
  rintro _ _ ⟨rfl, hw⟩
  rw [hw, hoff]
  simp
  exact ((T.fr.trans f13 fun _ _ => id).trans f4 fun _ _ => id).trans f5 fun _ _ => id
theorem prefix_walk {w : World} {cv : Value} {ops : List Dop} (cap keep torn : Int) (hm : ∃ m : Int, bk w 0 = some [.int .i64 m]) (hs : Sl 6 w cv (ops.map Dop.cells)) (hb : (ops.map Dop.bulk).sum ≤ 1048576) :
    Run (F.granarylaw1_DiskPrefix (.int .i64 cap) cv (.int .i64 keep) (.int .i64 torn)) w fun r w' => r = .bool true ∧ Fr (fun _ => False) w w' := by
  unfold F.granarylaw1_DiskPrefix F.granarylaw1_num
  have hln := hs.lenL
  rw [List.length_map] at hln
  have hq := qsum_le ops
  simp only [Run_bind]
  by_cases hcap : ¬ (0 ≤ cap ∧ cap ≤ 1073741824)
  · refine (new_bad hcap).mono ?_
    rintro _ _ ⟨rfl, hw⟩
    rw [hw]
    simp only [extV_tuple, List.getElem?_toArray, List.getElem?_cons_zero, List.getElem?_cons_succ, Run_bindO_some, Run_bind]
    refine (new_bad hcap).mono ?_
    rintro _ _ ⟨rfl, hw⟩
    rw [hw]
    by_cases h0 : cap < 0
    · simp [h0, Fr.refl]
    · have h1 : (1073741824 : Int) < cap := by omega
      simp [h0, h1, Fr.refl]
  have hc0 : 0 ≤ cap := by omega
  have hc1 : cap ≤ 1073741824 := by omega
  have n0 : ¬ cap < 0 := by omega
  have n1 : ¬ (1073741824 : Int) < cap := by omega
  refine (new2_run hc0 hc1 hm).mono ?_
  rintro _ w1 ⟨b, rfl, v0, tag0, h0, t0, f0⟩
  simp only [extV_tuple, List.getElem?_toArray, List.getElem?_cons_zero, List.getElem?_cons_succ, Run_bindO_some, Run_bind]
  refine (new2_run hc0 hc1 (hm.imp fun m hm => f0.bk_some hm id)).mono ?_
  rintro _ w2 ⟨b2, rfl, v2, tag2, h2, t2, f2⟩
  have s0 := f0.size
  have T0 : Two w w2 b b2 (newD cap) (newD cap) (.slice none 0 0) [] := ⟨⟨v0, tag0, v2, tag2, h0.fr0 f2, h2, t0, fun c hc => by have := t2 c hc; omega, fun c hc => Classical.byContradiction fun hn => by
    have := h0.bound c hc
    have := t2 c hn
    omega, fun c hc => hc.elim⟩, f0.trans f2 fun _ _ => id, SlW.nil _ _⟩
  simp [-ldA_ptr, n0, n1]
  -- the script
  obtain ⟨I1, hI1⟩ : ∃ I : Nat → Value → World → Prop, ∀ i x w', I i x w' ↔ ∃ sts did d, Hist cap sts did ∧ sts[did.length]? = some d ∧ did.length ≤ i ∧ qsum did ≤ qsum (ops.take i) ∧ (∀ o ∈ did, o ∈ ops) ∧ Two w w' b b2 d (newD cap) x (did.map Dop.cells) := ⟨fun _ _ _ => _, fun _ _ _ => Iff.rfl⟩
  refine Run_for ops.length (fun i l w' => ∃ x, l = [x, .int .i64 i] ∧ I1 i x w') ⟨_, rfl, (hI1 _ _ _).2 ⟨[newD cap], [], newD cap, ⟨rfl, rfl, fun i s s' o h1 h2 h3 => by simp at h3, fun o ho => by simp at ho⟩, rfl, Nat.le_refl _, Nat.le_refl _, fun o ho => by simp at ho, T0⟩⟩ ?_ ?_
  · rintro i l w3 hi ⟨x, rfl, hI⟩
    obtain ⟨sts, did, d, H, hd, hdi, hqd, hmem, T⟩ := (hI1 _ _ _).1 hI
    have ei : ops[i]? = some ops[i] := List.getElem?_eq_getElem hi
    generalize ops[i] = o at ei
    have ho : o.p.size + o.q.size + 6 ≤ _ := bulk_mem (List.mem_of_getElem? ei)
    have hqi := qsum_take_le ops i
    have hqs := qsum_take ops i ei
    obtain ⟨r, ⟨dep, g⟩, hp⟩ := H.all (by omega) _ _ hd
    have hqt := qsum_take_mono did did.length
    obtain ⟨qb, qo, ql, q1, q2, q3, q4, _⟩ := (hs.fr0 T.fr).rd (i := i) (e := o.cells) (by decide) (by simp [ei]) .i64
    have qk : ql[qo]? = some (.int .i64 o.kind) := take_get0 q4 (by decide)
    have qA : ldA 6 (.pointer (some ⟨qb, qo, none⟩)) w3 = some o.val := by rw [ldA_bk q2 q3, q4]; rfl
    have hi' : (i : Int) < ops.length := by omega
    have wi := wrap_succ (n := i) (by omega)
    have skip : ∀ w4, Two w w4 b b2 d (newD cap) x (did.map Dop.cells) → I1 (i + 1) x w4 := fun w4 T => (hI1 _ _ _).2 ⟨sts, did, d, H, hd, by omega, by omega, hmem, T⟩
    by_cases c0 : 1 ≤ o.kind ∧ o.kind ≤ 6
    · simp [-ldA_ptr, hln, hi', hi, q1, q2, qk, c0.1, c0.2, qA]
      refine (T.left (R := fun r d' => ∃ e, r = .int .i64 e ∧ ActR d o e d') (fun v tag hDA => (actX_run hDA g o (by omega) (by omega) (by omega) (by omega)).mono fun r w' ⟨e, d', h1, h2, h3⟩ => ⟨d', ⟨e, h1, h2⟩, h3⟩)).mono ?_
      rintro _ w4 ⟨d', ⟨e, rfl, ha⟩, T4⟩
      have hl := act_live r.live g ha
      by_cases he : e = 0
      · subst he
        obtain ⟨qb', qo', ql', q1', q2', q3', q4', _⟩ := (hs.fr0 T4.fr).rd (i := i) (e := o.cells) (by decide) (by simp [ei]) .i64
        have qA' : ldA 6 (.pointer (some ⟨qb', qo', none⟩)) w4 = some o.val := by rw [ldA_bk q2' q3', q4']; rfl
        have eqq : (.pointer (some ⟨qb, qo, none⟩) : Value) = .pointer (some ⟨qb', qo', none⟩) := Option.some.inj (q1.symm.trans q1')
        rw [← eqq] at qA'
        simp [-ldA_ptr, q1, qA']
        refine Run_app1 (k := 6) (y := o.val) (by simp [Dop.val, Dop.cells]) T4.sl (by decide) rfl (by decide) (by simpa [Dop.val] using o.all) (by simp only [List.length_map]; omega) fun r3 w5 hr3 f5 hin3 w6 f6 => ?_
        simp [wi]
        refine (hI1 _ _ _).2 ⟨sts ++ [d'], did ++ [o], d', ⟨by simp [H.len], by rw [List.getElem?_append_left (by have := H.len; omega)]; exact H.first, fun j s s' o' h1 h2 h3 => ?_, fun o' ho' => ?_⟩, ?_, by simp; omega, ?_, fun o' ho' => ?_, ?_⟩
        · have hlen := H.len
          by_cases hj : j < did.length
          · rw [List.getElem?_append_left (by omega)] at h1
            rw [List.getElem?_append_left (by omega)] at h2
            rw [List.getElem?_append_left hj] at h3
            exact H.step j s s' o' h1 h2 h3
          · have hjl : j = did.length := by
              have := (List.getElem?_eq_some_iff.1 h3).1
              simp at this; omega
            subst hjl
            rw [List.getElem?_append_left (by omega), hd] at h1
            rw [List.getElem?_append_right (by omega), show did.length + 1 - sts.length = 0 by omega] at h2
            rw [List.getElem?_append_right (Nat.le_refl _), Nat.sub_self] at h3
            cases h1
            have e2 : d' = s' := by simpa using h2
            have e3 : o = o' := by simpa using h3
            rw [← e2, ← e3]; exact ha
        · rcases List.mem_append.1 ho' with h | h
          · exact H.small o' h
          · rw [List.mem_singleton.1 h]; omega
        · have hlen := H.len
          rw [List.length_append, List.length_singleton, List.getElem?_append_right (by omega), show did.length + 1 - sts.length = 0 by omega]
          rfl
        · have : qsum (did ++ [o]) = qsum did + o.q.size := by simp [qsum]
          omega
        · rcases List.mem_append.1 ho' with h | h
          · exact hmem o' h
          · rw [List.mem_singleton.1 h]; exact List.mem_of_getElem? ei
        · obtain ⟨v, tag, v2, tag2, a1, a2, a3, a4, a5, a6⟩ := T4.ex
          have z5 := f5.size
          have z4 := T4.fr.size
          refine ⟨⟨v, tag, v2, tag2, a1.fr f5 fun c hc => ?_, a2.fr f5 fun c hc => ?_, a3, a4, a5, fun c hc => ?_⟩, T4.fr.new f5 fun c hc => (a6 c hc).1, by simpa [Dop.val] using hr3⟩
          · have := a6 c hc
            have h0 := bk_lt (hm.choose_spec)
            exact ⟨this.2.2.1, by omega⟩
          · have := a6 c hc
            have h0 := bk_lt (hm.choose_spec)
            exact ⟨this.2.2.2, by omega⟩
          · rcases hin3 c hc with h' | h'
            · have := a6 c h'
              exact ⟨this.1, by omega, this.2.2⟩
            · have b1 := a1.bound
              have b2 := a2.bound
              exact ⟨by omega, h'.2, Classical.byContradiction fun hn => by have := b1 c hn; omega, Classical.byContradiction fun hn => by have := b2 c hn; omega⟩
      · obtain ⟨_, hsame⟩ := hl.2.resolve_right fun h => he h.1
        subst hsame
        simp [he, wi]
        exact skip _ T4
    · by_cases h1 : 1 ≤ o.kind
      · have h2 : ¬ o.kind ≤ 6 := fun h2 => c0 ⟨h1, h2⟩
        simp [-ldA_ptr, hln, hi', hi, q1, q2, qk, h1, h2, wi]
        exact skip _ T
      · simp [-ldA_ptr, hln, hi', hi, q1, q2, qk, h1, wi]
        exact skip _ T
  · rintro l w3 ⟨x, rfl, hI⟩
    obtain ⟨sts, did, d, H, hd, hdi, hqd, hmem, T⟩ := (hI1 _ _ _).1 hI
    have hqi := qsum_take_le ops ops.length
    have hqd' : qsum did ≤ 1048576 := by omega
    obtain ⟨r, ⟨dep, g⟩, hp⟩ := H.all hqd' _ _ hd
    have hqt := qsum_take_mono did did.length
    have hxl := T.sl.1.lenL
    rw [List.length_map] at hxl
    simp [-ldA_ptr, hln]
    obtain ⟨v, tag, _, _, hDA, _⟩ := T.ex
    refine (pending_run hDA).mono ?_
    rintro _ _ ⟨rfl, hw⟩
    rw [hw]
    simp [hp, hxl]
    refine within_run keep did.length ?_
    obtain ⟨k, hk⟩ : ∃ k, k = clampN keep did.length := ⟨_, rfl⟩
    have hkle : k ≤ did.length := by rw [hk]; exact clamp_le _ _
    rw [← hk]
    obtain ⟨k1, k2, k3⟩ := g.crash keep torn (by omega)
    simp
    refine (T.left (R := fun r d' => r = .int .i64 ((did.length : Int) - (k : Nat)) ∧ GI _ _ dep d' ∧ Crashed d keep torn d') (fun v tag hDA => (crash2_run hDA (keep := keep) (torn := torn) (by omega) k1 (by have := g.len; omega) k2).mono fun r w' ⟨h1, d', h2, h3⟩ => ⟨d', ⟨by rw [h1, hk, hp], k3 d' h2⟩, h3⟩)).mono ?_
    rintro _ w4 ⟨dc, ⟨rfl, gc, C⟩, T4⟩
    have wk := wrap_int (n := (did.length : Int) - (k : Nat)) (by omega) (by omega)
    simp [-ldA_ptr, wk]
    obtain ⟨J, hJ⟩ : ∃ J : Nat → World → Prop, ∀ i w', J i w' ↔ ∃ s, sts[i]? = some s ∧ Two w w' b b2 dc s x (did.map Dop.cells) := ⟨fun _ _ => _, fun _ _ => Iff.rfl⟩
    have hlen := H.len
    refine Run_for k (fun i l w' => l = [.int .i64 i] ∧ J i w') ⟨rfl, (hJ _ _).2 ⟨_, H.first, T4⟩⟩ ?_ ?_
    · rintro i l w5 hi ⟨rfl, hI⟩
      obtain ⟨s, hs5, T5⟩ := (hJ _ _).1 hI
      have ei := List.getElem?_eq_getElem (l := did) (i := i) (by omega)
      have es' := List.getElem?_eq_getElem (l := sts) (i := i + 1) (by omega)
      generalize did[i] = o at ei
      generalize sts[i + 1] = s' at es'
      have ha := H.step i s s' o hs5 es' ei
      have ho : o.p.size + o.q.size + 6 ≤ _ := bulk_mem (hmem o (List.mem_of_getElem? ei))
      obtain ⟨rs, ⟨dep5, g5⟩, hp5⟩ := H.all hqd' _ _ hs5
      have hqt5 := qsum_take_mono did i
      obtain ⟨qb, qo, ql, q1, q2, q3, q4, _⟩ := T5.sl.1.rd (i := i) (e := o.cells) (by decide) (by simp [ei]) .i64
      have qA : ldA 6 (.pointer (some ⟨qb, qo, none⟩)) w5 = some o.val := by rw [ldA_bk q2 q3, q4]; rfl
      have hi' : (i : Int) < k := by omega
      have wi := wrap_succ (n := i) (by omega)
      simp [-ldA_ptr, hi', hi, q1, qA]
      refine (T5.swap.left (R := fun r d' => ∃ e, r = .int .i64 e ∧ ActR s o e d') (fun v tag hDA => (actX_run hDA g5 o (by omega) (by omega) (by omega) (by omega)).mono fun r w' ⟨e, d', h1, h2, h3⟩ => ⟨d', ⟨e, h1, h2⟩, h3⟩)).mono ?_
      rintro _ w6 ⟨d6, ⟨e, rfl, ha6⟩, T6⟩
      obtain ⟨he, hd6⟩ := act_fun ha6 ha
      subst he
      simp [wi]
      exact (hJ _ _).2 ⟨s', es', by rw [← hd6]; exact T6.swap⟩
    · rintro l w5 ⟨rfl, hI⟩
      obtain ⟨s, hs5, T5⟩ := (hJ _ _).1 hI
      obtain ⟨rs, ⟨dep5, g5⟩, hp5⟩ := H.all hqd' _ _ hs5
      obtain ⟨hc1, hc2⟩ := hist_crash (torn := torn) H hqd' hd hk hs5
      have hx5 := (H.ext hqd' hs5 (did.length - k) d (by rw [show k + (did.length - k) = did.length by omega]; exact hd)).2
      have hkn : ¬ ((k : Int) < k) := by omega
      by_cases hlt : k < did.length
      · have eo := List.getElem?_eq_getElem (l := did) (i := k) hlt
        have es := List.getElem?_eq_getElem (l := sts) (i := k + 1) (by omega)
        generalize did[k] = o at eo
        generalize sts[k + 1] = s' at es
        have ha := H.step k s s' o hs5 es eo
        have hlt' : (k : Int) < did.length := by omega
        obtain ⟨qb, qo, ql, q1, q2, q3, q4, _⟩ := T5.sl.1.rd (i := k) (e := o.cells) (by decide) (by simp [eo]) .i64
        have qk : ql[qo]? = some (.int .i64 o.kind) := take_get0 q4 (by decide)
        have q2' : bk w5 qb = some ql := q2
        by_cases h3 : o.kind = 3
        · have qp : ql[qo + 4]? = some (.string o.p) := take_get q4 (by decide)
          have qq : ql[qo + 5]? = some (.string o.q) := take_get q4 (by decide)
          have ho : o.p.size + o.q.size + 6 ≤ _ := bulk_mem (hmem o (List.mem_of_getElem? eo))
          have htk := qsum_take did k eo
          have hqt5 := qsum_take_mono did (k + 1)
          simp [-ldA_ptr, hlt', q1, q2', qk, h3, qp, qq]
          refine within_run torn o.q.size ?_
          have hcp := hc1 o eo h3
          have htle := clamp_le torn o.q.size
          generalize clampN torn o.q.size = t at htle hcp
          have hsl : sliceS (.string o.q) none (some (.int .i64 t)) = some (.string (o.q.extract 0 t)) := by
            simp [sliceS, highV, lowV, boundV, htle]
          have hqs : (o.q.extract 0 t).size ≤ o.q.size := by rw [ByteArray.size_extract]; omega
          obtain ⟨q', hq'⟩ : ∃ q', q' = o.q.extract 0 t := ⟨_, rfl⟩
          rw [← hq'] at hsl hqs hcp
          have T5d := T5.fr0 (Fr.refl (fun _ => False) w5).drew
          simp [-ldA_ptr, hsl, q2', qp, qq]
          refine (T5d.swap.left (R := fun r d' => ∃ U, UsedN s U ∧ r = .int .i64 (appendF s o.p q' U).1 ∧ d' = (appendF s o.p q' U).2) (fun v tag hDA => (append_run hDA g5.good (fun s k hk => by have := (g5.pseen.rng s k hk).1; omega) (by omega) (by omega) (fun ls l1 l2 => ?_) (g5.small (by omega)) (by have := g5.plen; omega)).mono fun r w' ⟨ls, h1, h2, h3, h4⟩ => ⟨_, ⟨_, ⟨ls, h1, h2, rfl⟩, h3, rfl⟩, h4⟩)).mono ?_
          · have := g5.usedB l1 l2
            have h2 : (1 + 2 * k) * qsum (did.take k) ≤ 1048576 * 1099511627776 := Nat.mul_le_mul (by omega) (by omega)
            omega
          rintro _ w6 ⟨n', ⟨U, hU, rfl, rfl⟩, T6⟩
          obtain ⟨e1, e2, e3, _, e5⟩ := torn_ok rs ha h3 hqs hU
          have rn := e3.raw rs e2
          obtain ⟨⟨dep6, g6⟩, _⟩ := ActR.gi (o := { o with q := q' }) (e := (appendF s o.p q' U).1) (d' := (appendF s o.p q' U).2) g5 (by omega) (by simp only; omega) (by
            unfold ActR
            rw [if_neg (by rw [h3]; decide), if_neg (by rw [h3]; decide), if_pos h3]
            exact ⟨U, hU, rfl⟩)
          simp only at g6
          have hsm := prefix_same g6 rn r (by rw [hcp]; exact e3.pend) (fun j nd hj => by
            have hjl := (List.getElem?_eq_some_iff.1 hj).1
            have hj0 := List.getElem?_eq_getElem (l := s.nodes) (i := j) (by omega)
            obtain ⟨y, y1, y2, _⟩ := e3.old j _ hj0
            rw [hj] at y1; cases y1
            obtain ⟨z, z1, z2⟩ := hx5 j _ hj0
            exact ⟨z, z1, z2.trans y2.symm⟩) C gc
          simp [e1]
          simpa [-ldA_ptr] using tail_run T6.swap gc g6 (by omega) (by have := qsum_take_mono did k; omega) (by omega) (by omega) hsm.1 hsm.2 C.off.2.2
        · simp [-ldA_ptr, hlt', q1, q2', qk, h3]
          have hsm := prefix_same g5 rs r (by rw [hc2 fun o' ho' => by rw [eo] at ho'; cases ho'; exact h3]) hx5 C gc
          simpa [-ldA_ptr] using tail_run T5 gc g5 (by omega) (by have := qsum_take_mono did k; omega) (by omega) (by omega) hsm.1 hsm.2 C.off.2.2
      · have hlt' : ¬ (k : Int) < did.length := by omega
        simp [-ldA_ptr, hlt', hkn]
        have hsm := prefix_same g5 rs r (by rw [hc2 fun o' ho' => absurd (List.getElem?_eq_some_iff.1 ho').1 hlt]) hx5 C gc
        simpa [-ldA_ptr] using tail_run T5 gc g5 (by omega) (by have := qsum_take_mono did k; omega) (by omega) (by omega) hsm.1 hsm.2 C.off.2.2
theorem diskPrefix_top {W : World} {v : Value} {n0 n n2 n3 : Nat} (cap : Int) (hv : dopSh.Rd W [v] n) (keep torn : Int) (hk : n0 + n + n2 + n3 ≤ 1048576) (_hL : laidMetH Tryd.prog Rows.diskPrefixUptoRow.laid W) (hsh : W.ShapedOpen Tryd.prog) :
    Run (F.granarylaw1_DiskPrefix (.int .i64 cap) v (.int .i64 keep) (.int .i64 torn)) W fun r w' => r = .bool true ∧ Fr (fun _ => False) W w' := by
  obtain ⟨ops, h1, h2⟩ := rd_dops hv
  exact prefix_walk cap keep torn (ml_of hsh) h1 (by omega)
end Go.Proofs.YtojnickeblbgoaaDoor
