/-
  Layer 1 (disk), DiskKeeps, part G: the calls of a script, run.
-/
import Derived.Test.YtojnickeblbgoaaDoorKeepF
import Derived.Test.YtojnickeblbgoaaDoorDiskN
namespace Go.Proofs.YtojnickeblbgoaaDoor
open Go.Lift
set_option linter.unusedSimpArgs false
set_option linter.unusedVariables false
set_option maxHeartbeats 4000000

structure Dop where
  kind : Int
  pos : Int
  n : Int
  m : Int
  p : ByteArray
  q : ByteArray
def Dop.cells (o : Dop) : List Value := [.int .i64 o.kind, .int .i64 o.pos, .int .i64 o.n, .int .i64 o.m, .string o.p, .string o.q]
def Dop.val (o : Dop) : Value := .agg o.cells.toArray
theorem Dop.all (o : Dop) : o.cells.all isCell = true := by simp [Dop.cells]
theorem sumF_le {d : Dk} {B : Nat} (h : ∀ nd ∈ d.nodes, nd.seen.size ≤ B) (ls : List (Slt × Int)) : sumF d ls ≤ ls.length * B := by
  have hb : ∀ k : Int, (d.nd k).seen.size ≤ B := fun k => by
    unfold Dk.nd
    cases hi : d.nodes[k.toNat]? with
    | none => exact Nat.zero_le _
    | some nd => exact h nd (List.mem_of_getElem? hi)
  induction ls with
  | nil => simp [sumF]
  | cons p ls ih =>
    have := hb p.2
    simp only [sumF, List.map_cons, List.sum_cons, List.length_cons] at ih ⊢
    rw [Nat.add_mul]; omega
section
variable {w w' w'' : World} {b : Nat} {d d' : Dk} {v : DV} {tag : Nat → Nat} {A M : Nat} {data : ByteArray}
theorem Inv1.used (h : Inv1 A M data d) {ls : List (Slt × Int)} (hn : (ls.map (·.1)).Nodup) (hE : Eqm ls d.seen) : sumF d ls ≤ M * A := by
  have hp := h.pseen
  have h1 := map_len hp.rng hp.inj hn hE
  have h2 := sumF_le (d := d) (B := A) (fun nd hnd => by
    obtain ⟨j, hj⟩ := List.getElem?_of_mem hnd
    exact (h.node j nd hj).seen) ls
  have h3 := h.len
  exact Nat.le_trans h2 (Nat.mul_le_mul_right _ (by omega))
theorem touches_run (o : Dop) {Q : Value → World → Prop} (q : ∀ w', Fr (fun _ => False) w w' → Q (.bool (decide (o.p = FA) || decide (o.p = FF) || decide (o.q = FA) || decide (o.q = FF))) w') : Run (F.granarylaw1_touches o.val) w Q := by
  unfold F.granarylaw1_touches
  have eA : ByteArray.mk #[97] = FA := rfl
  have eF : ByteArray.mk #[97, 47, 102] = FF := rfl
  rw [eA, eF]
  simp only [Run_bind]
  refine Run_new fun x w1 hx _ f1 _ => ?_
  have hx' : bk w1 x = some o.cells := hx
  have t := q w1 f1
  by_cases h1 : o.p = FA
  · rw [h1] at t
    simp [hx', Dop.cells, ba_eq, h1]
    simpa using t
  by_cases h2 : o.p = FF
  · have h3 : ¬ FF = FA := by decide
    rw [h2] at t
    simp [hx', Dop.cells, ba_eq, h2, h3]
    simpa using t
  by_cases h3 : o.q = FA
  · rw [h3] at t
    simp [hx', Dop.cells, ba_eq, h1, h2, h3]
    simpa using t
  by_cases h4 : o.q = FF
  · rw [h4] at t
    have h5 : ¬ FF = FA := by decide
    simp [hx', Dop.cells, ba_eq, h1, h2, h4, h5]
    simpa using t
  · simp [hx', Dop.cells, ba_eq, h1, h2, h3, h4]
    simpa [h1, h2, h3, h4] using t
theorem step_run (h : DA w b d v tag) (hI : Inv1 A M data d) (o : Dop) (h1 : o.p ≠ FA) (h2 : o.p ≠ FF) (h3 : o.q ≠ FA) (h4 : o.q ≠ FF) (hA : A ≤ 4194304) (hM : M ≤ 1048576) (hz : o.p.size ≤ 1048576) (hz' : o.q.size ≤ 1048576) :
    Run (F.granarylaw1_step (Ptr b) o.val) w fun _ w' => ∃ d', DDid w w' b tag d' ∧ Inv1 (A + o.q.size) (M + 2) data d' := by
  obtain ⟨Q4, q4⟩ : ∃ Q4 : Value → World → Prop, ∀ r w', Q4 r w' ↔ ∃ d', DDid w w' b tag d' ∧ Inv1 (A + o.q.size) (M + 2) data d' := ⟨_, fun _ _ => Iff.rfl⟩
  refine Run.mono (Q := Q4) ?_ fun r w' h => (q4 _ _).1 h
  unfold F.granarylaw1_step
  simp only [Run_bind]
  refine Run_new fun x w1 hx _ f1 _ => ?_
  have hx' : bk w1 x = some o.cells := hx
  have hA1 := h.fr0 f1
  have hg := hI.good
  have hlen := hI.len
  have hpl := hI.plen
  have same : ∀ w2, Fr (fun _ => False) w1 w2 → ∃ d', DDid w w2 b tag d' ∧ Inv1 (A + o.q.size) (M + 2) data d' := fun w2 f => ⟨d, ((hA1.fr0 f).did (f.mono fun _ h => h.elim)).pre f1, hI.more (by omega) (by omega)⟩
  have fin : ∀ {A' M' : Nat} {d' : Dk} {w2 : World}, DDid w1 w2 b tag d' → Inv1 A' M' data d' → A' ≤ A + o.q.size → M' ≤ M + 2 → ∃ d', DDid w w2 b tag d' ∧ Inv1 (A + o.q.size) (M + 2) data d' := fun hd hi ha hm => ⟨_, hd.pre f1, hi.more ha hm⟩
  have hns : ∀ nd ∈ d.nodes, nd.seen.size ≤ 2305843009213693952 := fun nd hnd => by
    obtain ⟨j, hj⟩ := List.getElem?_of_mem hnd
    have := (hI.node j nd hj).seen
    omega
  have hok : ∀ (i : Nat) nd, d.nodes[i]? = some nd → foldOk i (nd.kept, d.kept) d.pending := fun i nd hi => foldOk_bOk (hI.node i nd hi).ok
  by_cases c1 : o.kind = 1
  · simp [hx', Dop.cells, c1]
    unfold F.disk_Disk_Mkdir
    simp only [Run_bind]
    refine (create_run hA1 hg (by omega) 1 (by omega) (by omega)).mono ?_
    rintro _ w2 ⟨rfl, h2'⟩
    simp
    exact (q4 _ _).2 (fin h2' (keep_create hI h1 h2 1) (by omega) (by omega))
  by_cases c2 : o.kind = 2
  · simp [hx', Dop.cells, c2]
    unfold F.disk_Disk_Create
    simp only [Run_bind]
    refine (create_run hA1 hg (by omega) 2 (by omega) (by omega)).mono ?_
    rintro _ w2 ⟨rfl, h2'⟩
    simp
    exact (q4 _ _).2 (fin h2' (keep_create hI h1 h2 2) (by omega) (by omega))
  by_cases c3 : o.kind = 3
  · simp [hx', Dop.cells, c3]
    refine (append_run hA1 hg (fun s k hk => by have := (hI.pseen.rng s k hk).1; omega) (by omega) (by omega) (fun ls l1 l2 => ?_) hns (by omega)).mono ?_
    · have := hI.used l1 l2
      have h2 : M * A ≤ 1048576 * 4194304 := Nat.mul_le_mul hM hA
      omega
    rintro _ w2 ⟨ls, _, _, rfl, h2'⟩
    refine (q4 _ _).2 (fin (A' := A + o.q.size) (M' := M + 1) h2' ?_ (by omega) (by omega))
    unfold appendF
    split
    · exact hI.more (by omega) (by omega)
    rename_i hf
    split
    · exact hI.more (by omega) (by omega)
    have hf0 : (d.findF o.p 2).1 = 0 := by simpa using hf
    refine keep_byte (c := ⟨0, (d.findF o.p 2).2.2, o.q, 0, e0, e0, 0⟩) hI h1 h2 hf0 rfl (.inl rfl) ⟨fun _ => ?_, fun hc => by simp at hc⟩
    have hlt := find_lt hg o.p 2
    have := hns _ (List.mem_of_getElem? (nd_at d (find_pos hf0).1 hlt))
    simp only; omega
  by_cases c4 : o.kind = 4
  · simp [hx', Dop.cells, c4]
    refine (trunc_run hA1 hg (by omega) o.n hns (by omega)).mono ?_
    rintro _ w2 ⟨rfl, h2'⟩
    refine (q4 _ _).2 (fin (A' := A) (M' := M + 1) h2' ?_ (by omega) (by omega))
    unfold truncF
    split
    · exact hI.more (by omega) (by omega)
    split
    · exact hI.more (by omega) (by omega)
    split
    · exact hI.more (by omega) (by omega)
    rename_i hn0
    split
    · exact hI.more (by omega) (by omega)
    rename_i hf
    split
    · exact hI.more (by omega) (by omega)
    rename_i hsz
    have hf0 : (d.findF o.p 2).1 = 0 := by simpa using hf
    have t := keep_byte (c := ⟨1, (d.findF o.p 2).2.2, e0, o.n, e0, e0, 0⟩) hI h1 h2 hf0 rfl (.inr rfl) ⟨fun hc => by simp at hc, fun _ => by simp only; omega⟩
    have e : A + (Chg.mk 1 (d.findF o.p 2).2.2 e0 o.n e0 e0 0).data.size = A := rfl
    rw [e] at t
    exact t
  by_cases c5 : o.kind = 5
  · simp [hx', Dop.cells, c5]
    refine rename2_run hA1 hg hI.k0 (by omega) (by omega) (by omega) (fun e w2 hd => ?_) (fun e w2 d' hm hd => ?_)
    · exact (q4 _ _).2 (fin hd hI (by omega) (by omega))
    · exact (q4 _ _).2 (fin hd (keep_rename hI h1 h2 h3 h4 hm) (by omega) (by omega))
  by_cases c6 : o.kind = 6
  · simp [hx', Dop.cells, c6]
    refine remove2_run hA1 hg (by omega) (by omega) (fun e w2 hd => ?_) (fun e w2 hp hf hd => ?_)
    · exact (q4 _ _).2 (fin hd hI (by omega) (by omega))
    · exact (q4 _ _).2 (fin hd (keep_remove hI hp h1 h2 hf) (by omega) (by omega))
  by_cases c7 : o.kind = 7
  · simp [hx', Dop.cells, c7]
    refine (sync_run hA1 hg (by omega) hok (by omega)).mono ?_
    rintro _ w2 ⟨rfl, h2'⟩
    exact (q4 _ _).2 (fin h2' (keep_sync hI o.p 2) (by omega) (by omega))
  by_cases c8 : o.kind = 8
  · simp [hx', Dop.cells, c8]
    refine (syncdir_run hA1 hg (by omega) hok (by omega)).mono ?_
    rintro _ w2 ⟨rfl, h2'⟩
    exact (q4 _ _).2 (fin h2' (keep_sync hI o.p 1) (by omega) (by omega))
  by_cases c20 : o.kind = 20
  · simp [hx', Dop.cells, c20]
    refine (arm_run hA1 o.n).mono ?_
    rintro r w2 (⟨_, _, rfl⟩ | ⟨_, _, h2'⟩)
    · exact (q4 _ _).2 (same _ (Fr.refl _ _))
    · exact (q4 _ _).2 (fin h2' (hI.congr (d' := { d with armed := decide (0 ≤ o.n), left := o.n }) rfl rfl rfl rfl (Nat.le_refl _) (Nat.le_refl _)) (by omega) (by omega))
  by_cases c21 : o.kind = 21
  · simp [hx', Dop.cells, c21]
    obtain ⟨k1, k2, k3⟩ := hI.crash o.n o.m (by omega)
    refine (crash2_run hA1 (keep := o.n) (torn := o.m) (by omega) k1 (by omega) k2).mono ?_
    rintro r w2 ⟨d', hr, h2'⟩
    exact (q4 _ _).2 (fin h2' (k3 d' hr).1 (by omega) (by omega))
  · simp [hx', Dop.cells, c1, c2, c3, c4, c5, c6, c7, c8, c20, c21]
    exact (q4 _ _).2 (same _ (Fr.refl _ _))
end
end Go.Proofs.YtojnickeblbgoaaDoor
