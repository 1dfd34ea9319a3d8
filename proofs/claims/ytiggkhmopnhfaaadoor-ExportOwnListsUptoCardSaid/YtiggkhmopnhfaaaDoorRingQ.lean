/-
  Layer 6 (ring), part Q: a partition has as many owners as there are replicas.
-/
import Derived.Test.YtiggkhmopnhfaaaDoorRingP
namespace Go.Proofs.YtiggkhmopnhfaaaDoor
open Go.Lift

theorem putH_keep {c i : Nat} {h h' : List Int} {p : Int} (e : putH c i h p = some h') {q : Nat} {a : Int} (hq : h[q]? = some a) (ha : 0 ≤ a) : h'[q]? = some a := by
  unfold putH at e
  split at e
  · cases e
  · split at e
    · cases e
    · split at e
      · cases e
      · rename_i h3
        cases e
        have hne : p.toNat ≠ q := by
          intro h
          subst h
          apply h3
          simp [List.getD, hq, ha]
        rw [List.getElem?_set_ne hne]; exact hq
theorem foldH_keep {c i : Nat} : ∀ {l : List Int} {h h' : List Int}, l.foldlM (putH c i) h = some h' → ∀ {q : Nat} {a : Int}, h[q]? = some a → 0 ≤ a → h'[q]? = some a
  | [], h, h', e, q, a, hq, _ => by cases e; exact hq
  | p :: l, h, h', e, q, a, hq, ha => by
    simp only [List.foldlM_cons] at e
    cases e1 : putH c i h p with
    | none => simp [e1] at e
    | some h1 =>
      simp [e1] at e
      exact foldH_keep e (putH_keep e1 hq ha) ha
theorem foldH_put {c i : Nat} : ∀ {l : List Int} {h h' : List Int}, h.length = c → l.foldlM (putH c i) h = some h' → ∀ p ∈ l, ∃ q : Nat, p = q ∧ h'[q]? = some (i : Int)
  | [], h, h', _, e, p, hp => by cases hp
  | a :: l, h, h', hc, e, p, hp => by
    simp only [List.foldlM_cons] at e
    cases e1 : putH c i h a with
    | none => simp [e1] at e
    | some h1 =>
      simp [e1] at e
      rcases List.mem_cons.1 hp with rfl | hp
      · have hp1 : ∃ q : Nat, p = q ∧ h1[q]? = some (i : Int) := by
          unfold putH at e1
          split at e1
          · cases e1
          · split at e1
            · cases e1
            · split at e1
              · cases e1
              · cases e1
                refine ⟨p.toNat, by omega, ?_⟩
                rw [List.getElem?_set_self (by omega)]
        obtain ⟨q, h2, h3⟩ := hp1
        exact ⟨q, h2, foldH_keep e h3 (by omega)⟩
      · exact foldH_put (by rw [putH_len e1]; exact hc) e p hp
theorem foldN_keep {c : Nat} : ∀ {l : List ((Int × List Int) × Nat)} {h h' : List Int}, l.foldlM (nodeH c) h = some h' → ∀ {q : Nat} {a : Int}, h[q]? = some a → 0 ≤ a → h'[q]? = some a
  | [], h, h', e, q, a, hq, _ => by cases e; exact hq
  | x :: l, h, h', e, q, a, hq, ha => by
    simp only [List.foldlM_cons] at e
    cases e1 : nodeH c h x with
    | none => simp [e1] at e
    | some h1 =>
      simp [e1] at e
      unfold nodeH at e1
      split at e1
      · exact foldN_keep e (foldH_keep e1 hq ha) ha
      · cases e1
theorem foldN_put {c : Nat} : ∀ {l : List ((Int × List Int) × Nat)} {h h' : List Int}, h.length = c → l.foldlM (nodeH c) h = some h' → ∀ x ∈ l, ∀ p ∈ x.1.2, ∃ q : Nat, p = q ∧ h'[q]? = some (x.2 : Int)
  | [], h, h', _, e, x, hx => by cases hx
  | y :: l, h, h', hc, e, x, hx => by
    simp only [List.foldlM_cons] at e
    cases e1 : nodeH c h y with
    | none => simp [e1] at e
    | some h1 =>
      simp [e1] at e
      have e1' := e1
      unfold nodeH at e1
      split at e1
      · rcases List.mem_cons.1 hx with rfl | hx
        · intro p hp
          obtain ⟨q, h2, h3⟩ := foldH_put hc e1 p hp
          exact ⟨q, h2, foldN_keep e h3 (by omega)⟩
        · exact foldN_put (by rw [foldH_len e1]; exact hc) e x hx
      · cases e1
/-- A partition that a node has is at home there. -/
theorem homesF_put {C : Clu} {home : List Int} (h : homesF C = some home) {n : Nat} {x : Int × List Int} (hx : C.nodes[n]? = some x) {p : Int} (hp : p ∈ x.2) : ∃ q : Nat, p = q ∧ home[q]? = some (n : Int) := by
  obtain ⟨hl, hc1, hc2⟩ := homesF_len h
  unfold homesF at h
  rw [if_pos ⟨hc1, hc2⟩] at h
  refine foldN_put (by simp) h (x, n) ?_ p hp
  exact List.mem_zipIdx_iff_getElem?.2 hx

theorem roundN_le {home : List Int} {part : Nat} {reps : Int} (hr : 0 ≤ reps) : ∀ i, ((roundN home part reps i).length : Int) ≤ reps
  | 0 => by simp [roundN, hr]
  | i + 1 => by
    rw [roundN_succ]
    split
    · have := roundStep_len home (roundN home part reps i) ((part + i) % home.length); omega
    · exact roundN_le hr i
theorem roundStep_has (home : List Int) (taken : List Nat) (p : Nat) : ∃ t ∈ roundStep home taken p, home[t]? = home[p]? := by
  unfold roundStep
  split
  · rename_i h; exact h
  · exact ⟨p, by simp, rfl⟩
theorem roundStep_sub {home : List Int} {taken : List Nat} {p t : Nat} (h : t ∈ taken) : t ∈ roundStep home taken p := by
  unfold roundStep
  split
  · exact h
  · simp [h]
theorem roundN_has {home : List Int} {part : Nat} {reps : Int} : ∀ i, ((roundN home part reps i).length : Int) < reps → ∀ j, j < i → ∃ t ∈ roundN home part reps i, home[t]? = home[(part + j) % home.length]?
  | 0, _, j, hj => absurd hj (Nat.not_lt_zero _)
  | i + 1, h, j, hj => by
    rw [roundN_succ] at h ⊢
    split at h
    · rename_i hlt
      rw [if_pos hlt]
      by_cases hji : j < i
      · obtain ⟨t, ht, e⟩ := roundN_has i hlt j hji
        exact ⟨t, roundStep_sub ht, e⟩
      · obtain rfl : j = i := by omega
        exact roundStep_has home _ _
    · rename_i hlt; exact absurd h hlt

theorem fullOf_eq : ∀ (l : List (Int × List Int)) (k : Nat), ((l.zipIdx k).filter fun x => decide (0 < x.1.2.length)).length = fullOf l
  | [], k => rfl
  | n :: l, k => by
    have ih := fullOf_eq l (k + 1)
    unfold fullOf at ih ⊢
    simp only [List.zipIdx_cons, List.filter_cons]
    by_cases h : 0 < n.2.length
    · simp only [h, decide_true, if_true, List.length_cons, ih]
    · simp only [h, decide_false, Bool.false_eq_true, if_false, ih]

/-- A partition has just as many owners as there are replicas. -/
theorem owners_len {C : Clu} {p : Nat} (h : checkF C = 0) (hp : p < C.count) : ((ownersF C p).1.length : Int) = C.replicas := by
  have hk := h
  unfold checkF at hk
  split at hk
  · cases hk
  split at hk
  · cases hk
  rename_i hset
  have hset' : settingP C := Classical.not_not.1 hset
  have hrep : (1 : Int) ≤ C.replicas := (hset' 0 _ _ rfl rfl).1
  split at hk
  · cases hk
  split at hk
  · cases hk
  split at hk
  · cases hk
  unfold ownersF
  rw [if_neg (not_not_intro h), if_neg (by omega)]
  cases hh : homesF C with
  | none => rw [hh] at hk; cases hk
  | some home =>
    rw [hh] at hk
    simp only at hk
    split at hk
    · cases hk
    rename_i hfull
    simp only [Option.elim_some, ownersL, Int.toNat_natCast, List.length_map]
    obtain ⟨hl, hc1, hc2⟩ := homesF_len hh
    have hle := roundN_le (home := home) (part := p) (by omega : (0 : Int) ≤ C.replicas) home.length
    unfold roundF
    by_cases hlt : ((roundN home p C.replicas home.length).length : Int) < C.replicas
    case neg => omega
    exfalso
    have hhas := roundN_has home.length hlt
    generalize roundN home p C.replicas home.length = taken at *
    have hsub : ∀ a ∈ ((C.nodes.zipIdx).filter fun x => decide (0 < x.1.2.length)).map (fun x => some (x.2 : Int)), a ∈ taken.map fun t => home[t]? := by
      intro a ha
      obtain ⟨x, hx, rfl⟩ := List.mem_map.1 ha
      obtain ⟨hx1, hx2⟩ := List.mem_filter.1 hx
      have hxn : C.nodes[x.2]? = some x.1 := by
        obtain ⟨y, n⟩ := x
        exact List.mem_zipIdx_iff_getElem?.1 hx1
      have hpos : 0 < x.1.2.length := by simpa using hx2
      obtain ⟨q, hq1, hq2⟩ := homesF_put hh hxn (List.getElem_mem hpos)
      have hql : q < home.length := (List.getElem?_eq_some_iff.1 hq2).1
      have hpl : p < home.length := by omega
      obtain ⟨t, ht, e⟩ := hhas ((q + home.length - p) % home.length) (Nat.mod_lt _ (by omega))
      have hm : (p + (q + home.length - p) % home.length) % home.length = q := by
        rw [Nat.add_mod_mod, show p + (q + home.length - p) = q + home.length by omega, Nat.add_mod_right, Nat.mod_eq_of_lt hql]
      rw [hm, hq2] at e
      exact List.mem_map.2 ⟨t, ht, e⟩
    have hnd : (((C.nodes.zipIdx).filter fun x => decide (0 < x.1.2.length)).map (fun x => some (x.2 : Int))).Nodup := by
      have h1 : ((C.nodes.zipIdx).map Prod.snd).Nodup := by
        have : (C.nodes.zipIdx).map Prod.snd = List.range' 0 C.nodes.length := by simp [List.zipIdx_eq_zip_range', List.map_snd_zip]
        rw [this]
        exact List.nodup_range'
      have h2 : (((C.nodes.zipIdx).filter fun x => decide (0 < x.1.2.length)).map Prod.snd).Nodup := h1.sublist (List.Sublist.map _ List.filter_sublist)
      have h3 : ((C.nodes.zipIdx).filter fun x => decide (0 < x.1.2.length)).map (fun x => some (x.2 : Int)) = (((C.nodes.zipIdx).filter fun x => decide (0 < x.1.2.length)).map Prod.snd).map fun (n : Nat) => some (n : Int) := by rw [List.map_map]; rfl
      rw [h3]
      refine List.Pairwise.map _ (fun a b hab h => hab ?_) h2
      have : (a : Int) = b := by simpa using h
      omega
    have hlen := nodup_sub_len hnd hsub
    rw [List.length_map, List.length_map, fullOf_eq] at hlen
    omega

end Go.Proofs.YtiggkhmopnhfaaaDoor
