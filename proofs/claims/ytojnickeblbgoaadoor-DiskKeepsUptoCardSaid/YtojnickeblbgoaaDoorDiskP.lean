/-
  Layer 1 (disk), part P: the calls of a go, run.
-/
import Derived.Test.YtojnickeblbgoaaDoorDiskO
namespace Go.Proofs.YtojnickeblbgoaaDoor
open Go.Lift
set_option linter.unusedSimpArgs false
set_option maxHeartbeats 4000000

theorem parse_LT : parseF LT = some [LT] := by decide +kernel
theorem parse_LN : parseF LN = some [LN] := by decide +kernel
theorem parse_E0 : parseF E0 = some [] := by decide +kernel
theorem LT0 : LT ≠ E0 := by decide
theorem LN0 : LN ≠ E0 := by decide
theorem LNT : LN ≠ LT := by decide
theorem sz_LT : LT.size < 4294967281 := by decide
theorem sz_LN : LN.size < 4294967281 := by decide
theorem sz_E0 : E0.size < 4294967281 := by decide

/-- A stage's nodes and entries are in order. -/
structure Stg (s : Stage) : Prop where
  only : ∀ x k, s.S x = some k → (x = kT ∨ x = kN) ∧ 0 ≤ k ∧ k < s.N.length
  dir : isDir s.N
  small : ∀ nd ∈ s.N, nd.seen.size ≤ 1048576 ∧ nd.kept.size ≤ 1048576
  plen : s.P.length ≤ 16
  nlen : s.N.length ≤ 16777215
theorem isDir.pos {N : List Nd} (h : isDir N) : 0 < N.length := by
  obtain ⟨n0, h1, _⟩ := h
  exact (List.getElem?_eq_some_iff.1 h1).1
theorem Stg.good {d : Dk} {s : Stage} (h : Stg s) (hN : d.nodes = s.N) (hS : d.seen = s.S) : Good d := ⟨fun x k hx => by rw [hS] at hx; rw [hN]; exact (h.only x k hx).2.2, by rw [hN]; exact h.dir.pos⟩
theorem two_keys {ls : List (Slt × Int)} (hn : (ls.map (·.1)).Nodup) (h : ∀ p ∈ ls, p.1 = kT ∨ p.1 = kN) : ls.length ≤ 2 := by
  match ls, hn, h with
  | [], _, _ => simp
  | [_], _, _ => simp
  | [_, _], _, _ => simp
  | a :: b :: c :: r, hn, h =>
    exfalso
    simp only [List.map_cons, List.nodup_cons, List.mem_cons, not_or] at hn
    have ha := h a (by simp)
    have hb := h b (by simp)
    have hc := h c (by simp)
    obtain ⟨⟨n1, n2, _⟩, ⟨n3, _⟩, _⟩ := hn
    rcases ha with ha | ha <;> rcases hb with hb | hb <;> rcases hc with hc | hc <;> simp only [ha, hb, hc, not_true_eq_false] at n1 n2 n3
theorem Stg.used {d : Dk} {s : Stage} (h : Stg s) (hN : d.nodes = s.N) (hS : d.seen = s.S) {ls : List (Slt × Int)} (hn : (ls.map (·.1)).Nodup) (he : Eqm ls d.seen) : sumF d ls ≤ 2097152 := by
  have hk : ∀ p ∈ ls, p.1 = kT ∨ p.1 = kN := fun p hp => by
    have h1 := getK_of_mem hn (show (p.1, p.2) ∈ ls from hp)
    rw [he p.1, hS] at h1
    exact (h.only _ _ h1).1
  have h2 := two_keys hn hk
  have hb : ∀ k : Int, (d.nd k).seen.size ≤ 1048576 := fun k => by
    unfold Dk.nd
    cases hi : d.nodes[k.toNat]? with
    | none => exact Nat.zero_le _
    | some nd => rw [hN] at hi; exact (h.small nd (List.mem_of_getElem? hi)).1
  match ls, h2 with
  | [], _ => simp [sumF]
  | [a], _ => have := hb a.2; simp [sumF]; omega
  | [a, c], _ => have := hb a.2; have := hb c.2; simp [sumF]; omega

section
variable {w w' w'' : World} {b : Nat} {d d' : Dk} {v : DV} {tag : Nat → Nat} {r : Option Nat} {N : List Nd} {S K : Slt → Option Int} {P : List Chg} {p x : ByteArray} {s : Stage}
def Step (w : World) (b : Nat) (tag : Nat → Nat) (m : M Value) (r : Option Nat) (s s' : Stage) : Prop := Run m w fun x w' => ∃ y : Int × Dk, x = .int .i64 y.1 ∧ Act r y s s' ∧ DDid w w' b tag y.2
def Still (w : World) (b : Nat) (tag : Nat → Nat) (m : M Value) (d : Dk) : Prop := Run m w fun x w' => x = .int .i64 10 ∧ DDid w w' b tag d
theorem create_def (a p : Value) {Q : Value → World → Prop} : Run (F.disk_Disk_Create a p) w Q ↔ Run (F.disk_Disk_add a p (.int .i64 2)) w Q := by
  unfold F.disk_Disk_Create
  simp only [Run_bind, Run_ret]
theorem create_step (h : DA w b d v tag) (ha : At d r ⟨N, S, K, P⟩) (hs : Stg ⟨N, S, K, P⟩) (hz : p.size < 4294967281) (hp : parseF p = some [x]) (hx : S (0, x) = none) :
    Step w b tag (F.disk_Disk_Create (Ptr b) (.string p)) r ⟨N ++ [⟨2, e0, e0⟩], S, K, P⟩ ⟨N ++ [⟨2, e0, e0⟩], fput S (0, x) (N.length : Int), K, P ++ [cLink x N.length]⟩ := by
  unfold Step
  rw [create_def]
  have p1 := hs.plen
  have p2 := hs.nlen
  simp only at p1 p2
  refine (create_run h (hs.good ha.nodes ha.seen) hz 2 (by rw [ha.pend]; simp only; omega) (by rw [ha.nodes]; simp only; omega)).mono ?_
  rintro _ w1 ⟨rfl, h1⟩
  exact ⟨_, rfl, create_at ha hp hs.dir hx, h1⟩
theorem append_step {data kp : ByteArray} (h : DA w b d v tag) (ha : At d r ⟨N ++ [⟨2, e0, kp⟩], S, K, P⟩) (hs : Stg ⟨N ++ [⟨2, e0, kp⟩], S, K, P⟩) (hN : isDir N) (hz : p.size < 4294967281) (hp : parseF p = some [x]) (hx : S (0, x) = some (N.length : Int)) (hd : data.size ≤ 1048576) :
    Step w b tag (F.disk_Disk_Append (Ptr b) (.string p) (.string data)) r ⟨N ++ [⟨2, e0, kp⟩], S, K, P⟩ ⟨N ++ [⟨2, data, kp⟩], S, K, P ++ [cGrow N.length data]⟩ := by
  have p1 := hs.plen
  simp only at p1
  refine (append_run h (hs.good ha.nodes ha.seen) (fun x k hk => by rw [ha.seen] at hk; exact (hs.only x k hk).2.1) hz (by omega) (fun ls l1 l2 => by
    have := hs.used ha.nodes ha.seen l1 l2; omega) (fun nd hn => by rw [ha.nodes] at hn; have := (hs.small nd hn).1; omega) (by rw [ha.pend]; simp only; omega)).mono ?_
  rintro _ w1 ⟨ls, l1, l2, rfl, h1⟩
  have := hs.used ha.nodes ha.seen l1 l2
  exact ⟨_, rfl, append_at ha hp hN hx (by omega), h1⟩
theorem foldOk_grow {data : ByteArray} {g : Nat} (hP : ∀ c ∈ P, isEnt c) (hd : data.size ≤ 1048576) (i : Nat) (nd : Nd) (hn : nd.kept.size ≤ 1048576) (m : Slt → Option Int) : foldOk i (nd.kept, m) (P ++ [cGrow g data]) := by
  refine foldOk_app (foldOk_ents hP _ _) ⟨fun _ => ⟨fun _ => ?_, fun h => by simp [cGrow] at h⟩, trivial⟩
  have e : ∀ (P : List Chg), (∀ c ∈ P, isEnt c) → ∀ acc : Acc, (P.foldl (settleStep i) acc).1 = acc.1 := by
    intro P
    induction P with
    | nil => intro _ _; rfl
    | cons c P ih =>
      intro hP acc
      rw [List.foldl_cons, ih (fun c hc => hP c (by simp [hc]))]
      unfold settleStep
      split
      · exact ent_data (hP c (by simp)) _ _
      · rfl
  rw [e P hP]
  simp only [cGrow]
  omega
theorem sync_step {data : ByteArray} (h : DA w b d v tag) (ha : At d r ⟨N ++ [⟨2, data, e0⟩], S, K, P ++ [cGrow N.length data]⟩) (hs : Stg ⟨N ++ [⟨2, data, e0⟩], S, K, P ++ [cGrow N.length data]⟩) (hN : isDir N) (hz : p.size < 4294967281) (hp : parseF p = some [x]) (hx : S (0, x) = some (N.length : Int)) (hP : ∀ c ∈ P, isEnt c) (hd : data.size ≤ 1048576) :
    Step w b tag (F.disk_Disk_Sync (Ptr b) (.string p)) r ⟨N ++ [⟨2, data, e0⟩], S, K, P ++ [cGrow N.length data]⟩ ⟨N ++ [⟨2, data, data⟩], S, K, P⟩ := by
  have p1 := hs.plen
  simp only at p1
  refine (sync_run h (hs.good ha.nodes ha.seen) hz (fun i nd hi => by
    rw [ha.nodes] at hi
    rw [ha.pend]
    exact foldOk_grow hP hd i nd (hs.small nd (List.mem_of_getElem? hi)).2 _) (by rw [ha.pend]; simp only; omega)).mono ?_
  rintro _ w1 ⟨rfl, h1⟩
  exact ⟨_, rfl, sync_at ha hp hN hx hP, h1⟩
theorem syncdir_step (h : DA w b d v tag) (ha : At d r ⟨N, S, K, P⟩) (hs : Stg ⟨N, S, K, P⟩) (hP : ∀ c ∈ P, isEnt c) :
    Step w b tag (F.disk_Disk_SyncDir (Ptr b) (.string E0)) r ⟨N, S, K, P⟩ ⟨N, S, P.foldl entF K, []⟩ := by
  have p1 := hs.plen
  simp only at p1
  refine (syncdir_run h (hs.good ha.nodes ha.seen) sz_E0 (fun i nd hi => by rw [ha.pend]; exact foldOk_ents hP _ _) (by rw [ha.pend]; simp only; omega)).mono ?_
  rintro _ w1 ⟨rfl, h1⟩
  exact ⟨_, rfl, syncdir_at ha parse_E0 hs.dir hP, h1⟩
theorem rename_step (h : DA w b d v tag) (ha : At d r ⟨N, S, K, P⟩) (hs : Stg ⟨N, S, K, P⟩) {i j : Nat} {ni nj : Nd} (hx : S kN = some (i : Int)) (hy : S kT = some (j : Int)) (hi : N[i]? = some ni) (hj : N[j]? = some nj) (hik : ni.kind = 2) (hjk : nj.kind = 2) :
    Step w b tag (F.disk_Disk_Rename (Ptr b) (.string LN) (.string LT)) r ⟨N, S, K, P⟩ ⟨N, entF S (cMove LN LT), K, P ++ [cMove LN LT]⟩ := by
  have p1 := hs.plen
  simp only at p1
  refine (rename_run h (hs.good ha.nodes ha.seen) sz_LN sz_LT LN0 LT0 parse_LN parse_LT LNT ha.up (hs.dir.nd ha.nodes) (i := i) (j := j) (ni := ni) (nj := nj) (by rw [ha.seen]; exact hx) (by rw [ha.seen]; exact hy) (by rw [ha.nodes]; exact hi) (by rw [ha.nodes]; exact hj) hik hjk (by rw [ha.pend]; simp only; omega)).mono ?_
  rintro _ w1 ⟨rfl, h1⟩
  exact ⟨_, rfl, entry_at ha hs.dir (move_ent LN LT), h1⟩
/- A disk that is down. -/
theorem create_still (h : DA w b d v tag) (ha : Dn d s) (hs : Stg s) (hz : p.size < 4294967281) : Still w b tag (F.disk_Disk_Create (Ptr b) (.string p)) d := by
  unfold Still
  rw [create_def]
  have p1 := hs.plen
  have p2 := hs.nlen
  refine (create_run h (hs.good ha.nodes ha.seen) hz 2 (by rw [ha.pend]; omega) (by rw [ha.nodes]; omega)).mono ?_
  rintro _ w1 ⟨rfl, h1⟩
  have e : createF d p 2 = (10, d) := by simp [createF, ha.down]
  rw [e] at h1 ⊢
  exact ⟨rfl, h1⟩
theorem append_still {data : ByteArray} (h : DA w b d v tag) (ha : Dn d s) (hs : Stg s) (hz : p.size < 4294967281) (hd : data.size ≤ 1048576) : Still w b tag (F.disk_Disk_Append (Ptr b) (.string p) (.string data)) d := by
  have p1 := hs.plen
  refine (append_run h (hs.good ha.nodes ha.seen) (fun x k hk => by rw [ha.seen] at hk; exact (hs.only x k hk).2.1) hz (by omega) (fun ls l1 l2 => by
    have := hs.used ha.nodes ha.seen l1 l2; omega) (fun nd hn => by rw [ha.nodes] at hn; have := (hs.small nd hn).1; omega) (by rw [ha.pend]; omega)).mono ?_
  rintro _ w1 ⟨ls, l1, l2, rfl, h1⟩
  have e : appendF d p data (sumF d ls) = (10, d) := by simp [appendF, find_down ha.down, zspot]
  rw [e] at h1 ⊢
  exact ⟨rfl, h1⟩
theorem sync_still (h : DA w b d v tag) (ha : Dn d s) (hs : Stg s) (hz : p.size < 4294967281) (hok : ∀ (i : Nat) nd, s.N[i]? = some nd → foldOk i (nd.kept, s.K) s.P) : Still w b tag (F.disk_Disk_Sync (Ptr b) (.string p)) d := by
  have p1 := hs.plen
  refine (sync_run h (hs.good ha.nodes ha.seen) hz (by rw [ha.nodes, ha.kept, ha.pend]; exact hok) (by rw [ha.pend]; omega)).mono ?_
  rintro _ w1 ⟨rfl, h1⟩
  have e : syncF d p 2 = (10, d) := by simp [syncF, find_down ha.down, zspot]
  rw [e] at h1 ⊢
  exact ⟨rfl, h1⟩
theorem syncdir_still (h : DA w b d v tag) (ha : Dn d s) (hs : Stg s) (hok : ∀ (i : Nat) nd, s.N[i]? = some nd → foldOk i (nd.kept, s.K) s.P) : Still w b tag (F.disk_Disk_SyncDir (Ptr b) (.string E0)) d := by
  have p1 := hs.plen
  refine (syncdir_run h (hs.good ha.nodes ha.seen) sz_E0 (by rw [ha.nodes, ha.kept, ha.pend]; exact hok) (by rw [ha.pend]; omega)).mono ?_
  rintro _ w1 ⟨rfl, h1⟩
  have e : syncF d E0 1 = (10, d) := by simp [syncF, find_down ha.down, zspot]
  rw [e] at h1 ⊢
  exact ⟨rfl, h1⟩
theorem rename_still (h : DA w b d v tag) (ha : Dn d s) : Still w b tag (F.disk_Disk_Rename (Ptr b) (.string LN) (.string LT)) d := rename_down h LN LT ha.down ⟨rfl, h.did (Fr.refl _ _)⟩
end
end Go.Proofs.YtojnickeblbgoaaDoor
