/-
  Layer 1 (disk), part Q: the five acts that replace a file.
-/
import Derived.Test.YtojnickeblbgoaaDoorDiskP
namespace Go.Proofs.YtojnickeblbgoaaDoor
open Go.Lift
set_option linter.unusedSimpArgs false
set_option maxHeartbeats 4000000

/-- What a go begins with. -/
structure Go (N : List Nd) (S K : Slt → Option Int) (P : List Chg) (data : ByteArray) : Prop where
  p0 : isP0 P
  stg : Stg ⟨N, S, K, P⟩
  room : N.length ≤ 16777214
  none : S kN = none
  top : ∃ (f : Nat) (nf : Nd), S kT = some (f : Int) ∧ N[f]? = some nf ∧ nf.kind = 2
  data : data.size ≤ 1048576
noncomputable def callD (b : Nat) (data : ByteArray) : Nat → M Value
  | 0 => F.disk_Disk_Create (Ptr b) (.string LN)
  | 1 => F.disk_Disk_Append (Ptr b) (.string LN) (.string data)
  | 2 => F.disk_Disk_Sync (Ptr b) (.string LN)
  | 3 => F.disk_Disk_Rename (Ptr b) (.string LN) (.string LT)
  | _ => F.disk_Disk_SyncDir (Ptr b) (.string E0)
def upS (N : List Nd) (S K : Slt → Option Int) (P : List Chg) (data : ByteArray) : Nat → Stage
  | 0 => ⟨N, S, K, P⟩
  | i + 1 => goS N S K P data (i + 1)
section
variable {N : List Nd} {S K : Slt → Option Int} {P : List Chg} {data : ByteArray}
theorem Go.ent1 (g : Go N S K P data) : ∀ c ∈ P ++ [cLink LN N.length], isEnt c := fun c hc => (List.mem_append.1 hc).elim (g.p0.ent c) fun hc => by obtain rfl := List.mem_singleton.1 hc; exact link_ent _ _
theorem Go.ent2 (g : Go N S K P data) : ∀ c ∈ P ++ [cLink LN N.length] ++ [cMove LN LT], isEnt c := fun c hc => (List.mem_append.1 hc).elim (g.ent1 c) fun hc => by obtain rfl := List.mem_singleton.1 hc; exact move_ent _ _
theorem Go.S1 (g : Go N S K P data) (n : Nd) : ∀ x k, fput S kN (N.length : Int) x = some k → (x = kT ∨ x = kN) ∧ 0 ≤ k ∧ k < (N ++ [n]).length := by
  intro x k h
  simp only [fput] at h
  rw [List.length_append, List.length_singleton]
  split at h
  · rename_i he
    cases h
    exact ⟨.inr he, by omega, by omega⟩
  · obtain ⟨h1, h2, h3⟩ := g.stg.only x k h
    simp only at h3
    exact ⟨h1, h2, by omega⟩
theorem Go.S4 (g : Go N S K P data) (n : Nd) : ∀ x k, entF (fput S kN (N.length : Int)) (cMove LN LT) x = some k → (x = kT ∨ x = kN) ∧ 0 ≤ k ∧ k < (N ++ [n]).length := by
  intro x k h
  rw [entF_move] at h
  have e : fput S kN (N.length : Int) kN = some (N.length : Int) := if_pos rfl
  rw [e] at h
  simp only [fput] at h
  split at h
  · rename_i he
    cases h
    exact ⟨.inl he, by simp, by simp; omega⟩
  · simp only [fdel] at h
    split at h
    · cases h
    · exact g.S1 n x k h
theorem Go.sm (g : Go N S K P data) (n : Nd) (hn : n.seen.size ≤ 1048576 ∧ n.kept.size ≤ 1048576) : ∀ nd ∈ N ++ [n], nd.seen.size ≤ 1048576 ∧ nd.kept.size ≤ 1048576 := fun a ha => (List.mem_append.1 ha).elim (g.stg.small a) fun ha => by obtain rfl := List.mem_singleton.1 ha; exact hn
theorem Go.plen (g : Go N S K P data) : P.length ≤ 1 := by rcases g.p0 with h | h <;> rw [h] <;> simp
theorem go_stg (g : Go N S K P data) {a : Nat} (ha : a ≤ 5) : Stg (goS N S K P data a) := by
  have hz : e0.size ≤ 1048576 := by decide
  have hd := g.data
  have hp := g.plen
  have hr := g.room
  have hl : ∀ n : Nd, (N ++ [n]).length ≤ 16777215 := fun n => by simp; omega
  match a, ha with
  | 0, _ => exact ⟨fun x k h => by
      obtain ⟨h1, h2, h3⟩ := g.stg.only x k h
      simp only at h3
      refine ⟨h1, h2, ?_⟩
      show k < ((N ++ [_]).length : Nat)
      rw [List.length_append, List.length_singleton]; omega, g.stg.dir.app, g.sm _ ⟨hz, hz⟩, by show P.length ≤ 16; omega, hl _⟩
  | 1, _ => exact ⟨g.S1 _, g.stg.dir.app, g.sm _ ⟨hz, hz⟩, by simp [goS]; omega, hl _⟩
  | 2, _ => exact ⟨g.S1 _, g.stg.dir.app, g.sm _ ⟨hd, hz⟩, by simp [goS]; omega, hl _⟩
  | 3, _ => exact ⟨g.S1 _, g.stg.dir.app, g.sm _ ⟨hd, hd⟩, by simp [goS]; omega, hl _⟩
  | 4, _ => exact ⟨g.S4 _, g.stg.dir.app, g.sm _ ⟨hd, hd⟩, by simp [goS]; omega, hl _⟩
  | 5, _ => exact ⟨g.S4 _, g.stg.dir.app, g.sm _ ⟨hd, hd⟩, by simp [goS], hl _⟩
theorem go_fold (g : Go N S K P data) {a : Nat} (ha : a ≤ 5) : ∀ (i : Nat) nd, (goS N S K P data a).N[i]? = some nd → foldOk i (nd.kept, (goS N S K P data a).K) (goS N S K P data a).P := by
  intro i nd hi
  match a, ha with
  | 0, _ => exact foldOk_ents g.p0.ent _ _
  | 1, _ => exact foldOk_ents g.ent1 _ _
  | 2, h => exact foldOk_grow g.ent1 g.data i nd ((go_stg g h).small nd (List.mem_of_getElem? hi)).2 _
  | 3, _ => exact foldOk_ents g.ent1 _ _
  | 4, _ => exact foldOk_ents g.ent2 _ _
  | 5, _ => exact trivial
variable {w w' w'' : World} {b : Nat} {d d' : Dk} {v : DV} {tag : Nat → Nat} {r : Option Nat}
theorem go_still (g : Go N S K P data) {i a : Nat} (ha : a ≤ 5) (h : DA w b d v tag) (hd : Dn d (goS N S K P data a)) : Still w b tag (callD b data i) d := by
  match i with
  | 0 => exact create_still h hd (go_stg g ha) sz_LN
  | 1 => exact append_still h hd (go_stg g ha) sz_LN g.data
  | 2 => exact sync_still h hd (go_stg g ha) sz_LN (go_fold g ha)
  | 3 => exact rename_still h hd
  | _ + 4 => exact syncdir_still h hd (go_stg g ha) (go_fold g ha)
theorem go_step (g : Go N S K P data) {i : Nat} (hi : i < 5) (h : DA w b d v tag) (ha : At d r (upS N S K P data i)) : Step w b tag (callD b data i) r (goS N S K P data i) (goS N S K P data (i + 1)) := by
  have e1 : fput S kN (N.length : Int) kN = some (N.length : Int) := if_pos rfl
  match i, hi with
  | 0, _ => exact create_step h ha g.stg sz_LN parse_LN g.none
  | 1, _ => exact append_step h ha (go_stg g (a := 1) (by decide)) g.stg.dir sz_LN parse_LN e1 g.data
  | 2, _ => exact sync_step h ha (go_stg g (a := 2) (by decide)) g.stg.dir sz_LN parse_LN e1 g.ent1 g.data
  | 3, _ =>
    obtain ⟨f, nf, f1, f2, f3⟩ := g.top
    have e2 : fput S kN (N.length : Int) kT = some (f : Int) := by simp only [fput, if_neg tn]; exact f1
    exact rename_step h ha (go_stg g (a := 3) (by decide)) e1 e2 (ni := ⟨2, data, data⟩) (by simp) (by rw [List.getElem?_append_left (List.getElem?_eq_some_iff.1 f2).1]; exact f2) rfl f3
  | 4, _ => exact syncdir_step h ha (go_stg g (a := 4) (by decide)) g.ent2
def Inv (N : List Nd) (S K : Slt → Option Int) (P : List Chg) (data : ByteArray) (r : Option Nat) (i a : Nat) (d : Dk) : Prop := (a = i ∧ (∀ n, r = some n → i ≤ n) ∧ At d (r.map (· - i)) (upS N S K P data i)) ∨ (a < i ∧ r = some a ∧ Dn d (goS N S K P data a))
theorem go_call (g : Go N S K P data) {i a : Nat} {k : Int} (hr : (r = none ∧ k < 0) ∨ ∃ n : Nat, r = some n ∧ k = n) (hi : i < 5) (h : DA w b d v tag) (hI : Inv N S K P data r i a d) :
    Run (callD b data i) w fun x w' => ∃ (e : Int) (d' : Dk) (a' : Nat), x = .int .i64 e ∧ DDid w w' b tag d' ∧ Inv N S K P data r (i + 1) a' d' ∧ ((e = 0 ∧ a' = a + 1 ∧ (k < 0 ∨ (i : Int) < k)) ∨ (e = 10 ∧ a' = a ∧ ¬ k < 0 ∧ ¬ (i : Int) < k)) := by
  rcases hI with ⟨rfl, hn, ha⟩ | ⟨hlt, hra, hd⟩
  · refine (go_step g hi h ha).mono ?_
    rintro _ w1 ⟨y, rfl, hy, h1⟩
    by_cases h0 : r.map (· - a) = some 0
    · obtain ⟨y1, y2⟩ := hy.1 h0
      obtain ⟨n, rfl⟩ : ∃ n, r = some n := by cases r with
        | none => cases h0
        | some n => exact ⟨n, rfl⟩
      have h0' : n - a = 0 := by simpa using h0
      have := hn n rfl
      obtain rfl : n = a := by omega
      rcases hr with ⟨hr, _⟩ | ⟨m, hm, rfl⟩
      · cases hr
      · cases hm
        exact ⟨10, _, n, by rw [y1], h1, .inr ⟨by omega, rfl, y2⟩, .inr ⟨rfl, rfl, by omega, by omega⟩⟩
    · obtain ⟨y1, y2⟩ := hy.2 h0
      refine ⟨0, _, a + 1, by rw [y1], h1, .inl ⟨rfl, fun n hn' => ?_, ?_⟩, .inl ⟨rfl, rfl, ?_⟩⟩
      · subst hn'
        have h0' : ¬ n - a = 0 := fun he => h0 (by simp [he])
        omega
      · rw [Option.map_map] at y2
        have e : ((fun x : Nat => x - 1) ∘ fun x => x - a) = fun x => x - (a + 1) := by
          funext x; simp only [Function.comp]; omega
        rw [e] at y2
        exact y2
      · rcases hr with ⟨_, h⟩ | ⟨m, hm, rfl⟩
        · exact .inl h
        · subst hm
          have h0' : ¬ m - a = 0 := fun he => h0 (by simp [he])
          exact .inr (by omega)
  · refine (go_still g (a := a) (by omega) h hd).mono ?_
    rintro _ w1 ⟨rfl, h1⟩
    rcases hr with ⟨hr, _⟩ | ⟨m, hm, rfl⟩
    · rw [hr] at hra; cases hra
    · rw [hm] at hra; cases hra
      exact ⟨10, _, a, rfl, h1, .inr ⟨by omega, hm, hd⟩, .inr ⟨rfl, rfl, by omega, by omega⟩⟩
theorem replace_run (g : Go N S K P data) {k : Int} (hr : (r = none ∧ k < 0) ∨ ∃ n : Nat, r = some n ∧ k = n) (h : DA w b d v tag) (ha : At d r ⟨N, S, K, P⟩) :
    Run (F.granarylaw1_replace (Ptr b) (.string data) (.int .i64 k)) w fun x w' => ∃ (a : Nat) (d' : Dk), x = .tuple #[.int .i64 a, .bool true] ∧ DDid w w' b tag d' ∧ Inv N S K P data r 5 a d' := by
  unfold F.granarylaw1_replace F.granarylaw1_num
  have eN : ByteArray.mk #[108, 97, 116, 101, 115, 116, 46, 110, 101, 119] = LN := rfl
  have eT : ByteArray.mk #[108, 97, 116, 101, 115, 116] = LT := rfl
  have eE : ByteArray.mk #[] = E0 := rfl
  rw [eN, eT, eE]
  have hI0 : Inv N S K P data r 0 0 d := .inl ⟨rfl, fun n _ => by omega, by
    have e : r.map (fun x => x - 0) = r := by cases r <;> rfl
    rw [e]
    exact ha⟩
  simp only [Run_bind]
  refine Run_for 5 (fun i l w' => ∃ (a : Nat) (d' : Dk), l = [.int .i64 a, .bool true, .int .i64 i] ∧ a ≤ i ∧ DDid w w' b tag d' ∧ Inv N S K P data r i a d') ⟨0, d, rfl, Nat.le_refl _, h.did (Fr.refl _ _), hI0⟩ ?_ ?_
  · rintro i l w1 hi ⟨a, d1, rfl, hai, ⟨f1, v1, tag1, h1, t1⟩, hI⟩
    have hi' : (i : Int) < 5 := by omega
    have hcall := go_call (i := i) g hr hi h1 hI
    obtain ⟨Q4, q4⟩ : ∃ Q4 : Out → World → Prop, ∀ o w2, Q4 o w2 ↔ ∃ (e : Int) (d' : Dk) (a' : Nat), o = .norm [.int .i64 e] ∧ DDid w w2 b tag d' ∧ Inv N S K P data r (i + 1) a' d' ∧ ((e = 0 ∧ a' = a + 1 ∧ (k < 0 ∨ (i : Int) < k)) ∨ (e = 10 ∧ a' = a ∧ ¬ k < 0 ∧ ¬ (i : Int) < k)) := ⟨_, fun _ _ => Iff.rfl⟩
    have hcall' : ∀ {m : M Value}, m = callD b data i → Run m w1 fun x w2 => Q4 (.norm [x]) w2 := by
      intro m hm
      rw [hm]
      refine hcall.mono ?_
      rintro _ w2 ⟨e, d', a', rfl, q1, q2, q3⟩
      exact (q4 _ _).2 ⟨e, d', a', rfl, DDid.trans h.bound f1 t1 q1, q2, q3⟩
    simp only [getL_zero, getL_succ, binV_int, intBin_lss, hi', decide_true, Run_bindO_some, Run_condM_true, Run_bind]
    refine Run.mono (Q := Q4) ?_ ?_
    · rcases i with _ | _ | _ | _ | _ | i
      · simp; exact hcall' rfl
      · simp; exact hcall' rfl
      · simp; exact hcall' rfl
      · simp; exact hcall' rfl
      · simp; exact hcall' rfl
      · omega
    · rintro o w2 ho
      obtain ⟨e, d', a', rfl, q1, q2, q3⟩ := (q4 _ _).1 ho
      have wa := wrap_succ (n := a) (by omega)
      have wi := wrap_succ (n := i) (by omega)
      rcases q3 with ⟨rfl, rfl, hk⟩ | ⟨rfl, rfl, hk1, hk2⟩
      · by_cases hk0 : k < 0
        · simp [hk0, wa, wi]
          exact ⟨a + 1, by omega, by omega, d', q1, q2⟩
        · have hk' : (i : Int) < k := hk.resolve_left hk0
          simp [hk0, hk', wa, wi]
          exact ⟨a + 1, by omega, by omega, d', q1, q2⟩
      · simp [hk1, hk2, wi]
        exact ⟨a', rfl, by omega, d', q1, q2⟩
  · rintro l w1 ⟨a, d1, rfl, hai, q1, q2⟩
    simp
    exact ⟨a, rfl, d1, q1, q2⟩
end
end Go.Proofs.YtojnickeblbgoaaDoor
