/-
  Layer 1 (disk), part R: a disk at rest; one go.
-/
import Derived.Test.YtojnickeblbgoaaDoorDiskQ
namespace Go.Proofs.YtojnickeblbgoaaDoor
open Go.Lift
set_option linter.unusedSimpArgs false
set_option maxHeartbeats 4000000

/-- A disk at rest: 'latest' has these bytes, safely. -/
structure Calm (M : Nat) (d : Dk) (V : ByteArray) : Prop where
  cap : d.cap = 1073741824
  up : d.down = false
  off : d.armed = false
  pend : d.pending = []
  same : d.seen = d.kept
  file : ∃ (f : Nat) (nd : Nd), Sf 1048576 f V (d.nodes, d.kept) ∧ d.nodes[f]? = some nd ∧ nd.kind = 2 ∧ nd.seen = V
  len : d.nodes.length ≤ M
theorem Sf.flat {f : Nat} {V : ByteArray} {d : Dk} (h : Sf 1048576 f V (d.nodes, d.kept)) : Flat d := by
  intro s k hs
  rcases h.only s k hs with rfl | rfl
  · have ht := h.top
    simp only at ht
    rw [ht] at hs; cases hs
    obtain ⟨nd, n1, n2, _⟩ := h.file
    exact ⟨rfl, by omega, nd, by simpa using n1, by rw [n2]; decide⟩
  · obtain ⟨g, rfl, nd, n1, n2⟩ := h.other k hs
    exact ⟨rfl, by omega, nd, by simpa using n1, by rw [n2]; decide⟩
theorem cFold_len : ∀ (L : List Chg) (st : CSt), (L.foldl cStep st).1.length = st.1.length
  | [], st => rfl
  | c :: L, st => by
    rw [List.foldl_cons, cFold_len L]
    simp [cStep]
theorem restart_calm {f : Nat} {V : ByteArray} {d d' : Dk} {M : Nat} (hc : d.cap = 1073741824) (h : Sf 1048576 f V (d.nodes, d.kept)) (hr : Restarted d d') (hM : d.nodes.length ≤ M) : Calm M d' V := by
  have hkept : d'.kept = d.kept := funext hr.kept
  have hseen : d'.seen = d.kept := funext hr.seen
  have hk : ∀ (i : Nat) a, d.nodes[i]? = some a → ∃ c, d'.nodes[i]? = some c ∧ c.kind = a.kind ∧ c.kept = a.kept := fun i a ha => by
    rcases hr.each i a ha with h' | h'
    · exact ⟨_, h', rfl, rfl⟩
    · exact ⟨_, h', rfl, rfl⟩
  obtain ⟨nf, n1, n2, n3⟩ := h.file
  have hg := hr.got kT f h.top nf (by simpa using n1)
  have hg' : d'.nodes[f]? = some { nf with seen := nf.kept } := by simpa using hg
  refine ⟨hr.same.1.trans hc, hr.off.2.1, hr.off.1, hr.off.2.2, by rw [hkept, hseen], ⟨f, _, ⟨?_, ⟨_, hg', n2, n3⟩, ?_, ?_, ?_, ?_⟩, hg', n2, n3⟩, by rw [hr.len]; exact hM⟩
  · simp only; rw [hkept]; exact h.top
  · simp only; rw [hkept]; exact h.only
  · simp only; rw [hkept]
    intro k hs
    obtain ⟨g, g1, a, g2, g3⟩ := h.other k hs
    obtain ⟨c, c1, c2, _⟩ := hk g a g2
    exact ⟨g, g1, c, c1, by rw [c2]; exact g3⟩
  · obtain ⟨n0, a1, a2⟩ := h.dir
    obtain ⟨c, c1, c2, _⟩ := hk 0 n0 a1
    exact ⟨c, c1, by rw [c2]; exact a2⟩
  · intro c hc
    obtain ⟨i, hi, hic⟩ := List.getElem_of_mem hc
    have hi' : i < d.nodes.length := by rw [← hr.len]; exact hi
    have e1 : d.nodes[i]? = some d.nodes[i] := List.getElem?_eq_getElem hi'
    have e2 : d'.nodes[i]? = some c := by rw [List.getElem?_eq_getElem hi, hic]
    have hs := h.small _ (List.getElem_mem hi')
    rcases hr.each i _ e1 with h' | h'
    · rw [e2] at h'; cases h'; exact hs
    · rw [e2] at h'; cases h'; exact ⟨hs.2, hs.2⟩
theorem Calm.atd {M : Nat} {d : Dk} {V : ByteArray} (h : Calm M d V) : At d none ⟨d.nodes, d.seen, d.kept, []⟩ := ⟨h.cap, h.up, h.off, fun n hn => (by cases hn), rfl, rfl, rfl, h.pend⟩
theorem Calm.stg {M : Nat} {d : Dk} {V : ByteArray} (h : Calm M d V) (hM : M ≤ 16777215) : Stg ⟨d.nodes, d.seen, d.kept, []⟩ := by
  obtain ⟨f, nd, hf, h1, h2, h3⟩ := h.file
  have hl := h.len
  refine ⟨fun x k hx => ?_, hf.dir, hf.small, by simp, by simp only; omega⟩
  simp only at hx
  rw [h.same] at hx
  refine ⟨hf.only x k hx, ?_⟩
  rcases hf.only x k hx with rfl | rfl
  · have ht := hf.top
    simp only at ht
    rw [ht] at hx; cases hx
    have := (List.getElem?_eq_some_iff.1 h1).1
    simp only
    omega
  · obtain ⟨g, rfl, a, g2, g3⟩ := hf.other k hx
    have : g < d.nodes.length := (List.getElem?_eq_some_iff.1 g2).1
    simp only
    omega

section
variable {w w' w'' : World} {b : Nat} {d d' : Dk} {v : DV} {tag : Nat → Nat} {r : Option Nat} {N : List Nd} {S K : Slt → Option Int} {P : List Chg} {data V : ByteArray} {M : Nat} {s : Stage}
theorem kind_no (h : DA w b d v tag) (hc : Calm M d V) (hM : M ≤ 16777215) (hn : d.kept kN = none) : Run (F.disk_Disk_Kind (Ptr b) (.string LN)) w fun x w' => x = .tuple #[.int .i64 0, .int .i64 12] ∧ Fr (fun _ => False) w w' := by
  have hs := hc.stg hM
  refine (kind_run h (hs.good rfl rfl) sz_LN).mono ?_
  rintro _ w1 ⟨rfl, f1⟩
  have e := find_no (kind := 0) (hs.dir.nd rfl) hc.up parse_LN (by rw [hc.same]; exact hn)
  simp only [Dk.kindF, e]
  exact ⟨rfl, f1⟩
theorem kind_yes (h : DA w b d v tag) (hc : Calm M d V) (hM : M ≤ 16777215) {k : Int} (hn : d.kept kN = some k) : Run (F.disk_Disk_Kind (Ptr b) (.string LN)) w fun x w' => x = .tuple #[.int .i64 2, .int .i64 0] ∧ Fr (fun _ => False) w w' := by
  have hs := hc.stg hM
  obtain ⟨f, nd, hf, _⟩ := hc.file
  obtain ⟨g, rfl, a, g2, g3⟩ := hf.other k hn
  refine (kind_run h (hs.good rfl rfl) sz_LN).mono ?_
  rintro _ w1 ⟨rfl, f1⟩
  have e := find_one (kind := 0) (hs.dir.nd rfl) hc.up parse_LN (by rw [hc.same]; exact hn) (by omega) (.inl rfl)
  have hnd : d.nd (g : Int) = a := nd_of g2 rfl
  simp only [Dk.kindF, e, hnd, g3]
  exact ⟨rfl, f1⟩
theorem remove_step (h : DA w b d v tag) (hc : Calm M d V) (hM : M ≤ 16777215) {k : Int} (hn : d.kept kN = some k) : Run (F.disk_Disk_Remove (Ptr b) (.string LN)) w fun x w' => x = .int .i64 0 ∧ ∃ d', DDid w w' b tag d' ∧ At d' none ⟨d.nodes, fdel d.kept kN, d.kept, [cGone LN]⟩ := by
  have hs := hc.stg hM
  obtain ⟨f, nd, hf, _⟩ := hc.file
  obtain ⟨g, rfl, a, g2, g3⟩ := hf.other k hn
  have e := find_one (kind := 0) (hs.dir.nd rfl) hc.up parse_LN (by rw [hc.same]; exact hn) (by omega) (.inl rfl)
  have hg0 : g ≠ 0 := fun he => by
    obtain ⟨n0, a1, a2⟩ := hs.dir
    simp only at a1 g2
    rw [he, a1] at g2
    cases g2
    rw [a2] at g3; exact absurd g3 (by decide)
  refine (remove_run h (hs.good rfl rfl) sz_LN LN0 (fun s k' hsk => ?_) (by rw [hc.pend]; simp)).mono ?_
  · rw [e]
    simp only
    rcases (hs.only s k' hsk).1 with rfl | rfl
    · simp only; omega
    · simp only; omega
  · rintro _ w1 ⟨rfl, h1⟩
    have er : removeF d LN = doF d (cGone LN) 0 (d.nd 0) := by simp only [removeF, e]; rw [if_neg (by simp)]; rfl
    rw [er] at h1 ⊢
    obtain ⟨_, t⟩ := entry_at hc.atd hs.dir (gone_ent LN)
    obtain ⟨t1, t2⟩ := t (by simp)
    rw [entF_gone, hc.same] at t2
    exact ⟨by rw [t1], _, h1, t2⟩
/-- The bound on the acts. -/
def bound (k : Int) : Option Nat := if k < 0 then none else some k.toNat
theorem bound_is (k : Int) : (bound k = none ∧ k < 0) ∨ ∃ n : Nat, bound k = some n ∧ k = n := by
  unfold bound
  by_cases h : k < 0
  · exact .inl ⟨if_pos h, h⟩
  · exact .inr ⟨k.toNat, if_neg h, by omega⟩
theorem arm_step (h : DA w b d v tag) (ha : At d none s) {k : Int} (hk : k < 9223372036854775808) : Run (F.disk_Disk_Arm (Ptr b) (.int .i64 k)) w fun x w' => x = .int .i64 0 ∧ ∃ d', DDid w w' b tag d' ∧ At d' (bound k) s := by
  refine (arm_run h k).mono ?_
  rintro x w1 (⟨h1, _, _⟩ | ⟨_, rfl, h1⟩)
  · rw [ha.up] at h1; cases h1
  · refine ⟨rfl, _, h1, ha.cap, ha.up, ?_, ?_, ha.nodes, ha.seen, ha.kept, ha.pend⟩
    · unfold bound
      by_cases hk0 : k < 0
      · have : ¬ 0 ≤ k := by omega
        simp [hk0, this]
      · have : 0 ≤ k := by omega
        simp [hk0, this]
    · intro n hn
      unfold bound at hn
      split at hn
      · cases hn
      · cases hn
        simp only
        omega
theorem crash_step (g : Go N S K P data) {f : Nat} (hf : Sf 1048576 f V (N, K)) {a : Nat} (h : DA w b d v tag) (hI : Inv N S K P data r 5 a d) (keep torn : Int) :
    Run (F.disk_Disk_Crash (Ptr b) (.int .i64 keep) (.int .i64 torn)) w fun _ w' => ∃ d' V', Calm (N.length + 1) d' V' ∧ ((a < 4 → V' = V) ∧ (a = 5 → V' = data) ∧ (V' = V ∨ V' = data)) ∧ DDid w w' b tag d' := by
  have key : a ≤ 5 ∧ d.cap = 1073741824 ∧ d.nodes = (goS N S K P data a).N ∧ d.kept = (goS N S K P data a).K ∧ d.pending = (goS N S K P data a).P := by
    rcases hI with ⟨rfl, _, h1⟩ | ⟨h0, _, h1⟩
    · exact ⟨Nat.le_refl _, h1.cap, h1.nodes, h1.kept, h1.pend⟩
    · exact ⟨by omega, h1.cap, h1.nodes, h1.kept, h1.pend⟩
  obtain ⟨h5, hcap, hn, hk, hp⟩ := key
  obtain ⟨V', hV, hok, f', hsf⟩ := go_left hf g.p0 (S := S) g.data (by decide) h5 keep torn
  have hpl := (go_stg g h5).plen
  rw [← hn, ← hk, ← hp] at hok hsf
  have hnl : (goS N S K P data a).N.length ≤ N.length + 1 := by
    match a, h5 with
    | 0, _ => simp [goS]
    | 1, _ => simp [goS]
    | 2, _ => simp [goS]
    | 3, _ => simp [goS]
    | 4, _ => simp [goS]
    | 5, _ => simp [goS]
  obtain ⟨st, hst⟩ : ∃ st, st = (crashL d.pending keep torn).foldl cStep (d.nodes, d.kept) := ⟨_, rfl⟩
  have hlen := cFold_len (crashL d.pending keep torn) (d.nodes, d.kept)
  have hcr := crash_run h (keep := keep) (torn := torn) (by rw [hp]; omega) hok
  rw [← hst] at hsf hlen hcr
  refine (hcr (Sf.flat (d := { d with nodes := st.1, kept := st.2 }) hsf)).mono ?_
  rintro _ w1 ⟨d', hr, h1⟩
  exact ⟨d', V', restart_calm (d := { d with nodes := st.1, kept := st.2 }) hcap hsf hr (by simp only at hlen ⊢; rw [hlen, hn]; exact hnl), hV, h1⟩
theorem whole_step (h : DA w b d v tag) (hc : Calm M d V) (hM : M ≤ 16777215) : Run (F.granarylaw1_whole (Ptr b) (.string LT)) w fun x w' => x = .tuple #[.string V, .bool true] ∧ ∃ d', DDid w w' b tag d' ∧ Calm M d' V := by
  have hs := hc.stg hM
  obtain ⟨f, nd, hf, h1, h2, h3⟩ := hc.file
  have hnd : d.nd (f : Int) = nd := nd_of h1 rfl
  have e := find_one (kind := 2) (hs.dir.nd rfl) hc.up parse_LT (by rw [hc.same]; exact hf.top) (by omega) (.inr (by rw [hnd]; exact h2))
  have hsz := (hf.small nd (List.mem_of_getElem? h1)).1
  refine (whole_run h (hs.good rfl rfl) sz_LT hc.up (by rw [parse_LT]; rfl) (by rw [e]) (nd := nd) (by rw [e]; exact hnd) (by omega)).mono ?_
  rintro _ w1 ⟨rfl, h4⟩
  rw [h3]
  exact ⟨rfl, _, h4, hc.cap, hc.up, hc.off, hc.pend, hc.same, ⟨f, nd, hf, h1, h2, h3⟩, hc.len⟩
theorem Calm.go0 (hc : Calm M d V) (hM : M ≤ 16777214) (hn : d.kept kN = none) (hd : data.size ≤ 1048576) : Go d.nodes d.seen d.kept [] data := by
  obtain ⟨f, nd, hf, h1, h2, h3⟩ := hc.file
  have hl := hc.len
  exact ⟨.inl rfl, hc.stg (by omega), by omega, by rw [hc.same]; exact hn, ⟨f, nd, by rw [hc.same]; exact hf.top, h1, h2⟩, hd⟩
theorem Calm.go1 (hc : Calm M d V) (hM : M ≤ 16777214) (hd : data.size ≤ 1048576) : Go d.nodes (fdel d.kept kN) d.kept [cGone LN] data := by
  obtain ⟨f, nd, hf, h1, h2, h3⟩ := hc.file
  have hl := hc.len
  have hs := hc.stg (by omega)
  refine ⟨.inr rfl, ⟨fun x k hx => ?_, hs.dir, hs.small, by simp, hs.nlen⟩, by omega, by simp [fdel], ⟨f, nd, by simp only [fdel, if_neg tn]; exact hf.top, h1, h2⟩, hd⟩
  simp only [fdel] at hx
  split at hx
  · cases hx
  · exact hs.only x k (by simp only; rw [hc.same]; exact hx)
theorem start_run (hm : ∃ m : Int, bk w 0 = some [.int .i64 m]) : Run (F.disk_New (.int .i64 1073741824)) w fun x w' => ∃ b, x = .tuple #[Ptr b, .int .i64 0] ∧ ∃ d v tag, DA w' b d v tag ∧ At d none ⟨[⟨1, e0, e0⟩], fun _ => none, fun _ => none, []⟩ ∧ (∀ c, tag c ≠ 0 → w.heap.size ≤ c) ∧ Fr (fun _ => False) w w' := by
  refine (new_run hm).mono ?_
  rintro _ w1 ⟨b, rfl, v, tag, h1, h2, f1⟩
  exact ⟨b, rfl, _, v, tag, h1, ⟨rfl, rfl, rfl, fun n hn => (by cases hn), rfl, rfl, rfl, rfl⟩, h2, f1⟩
def st0 : Stage := ⟨[⟨1, e0, e0⟩], fun _ => none, fun _ => none, []⟩
def mT : Slt → Option Int := fput (fun _ => none) kT 1
def st1 : Stage := ⟨[⟨1, e0, e0⟩, ⟨2, e0, e0⟩], mT, fun _ => none, [cLink LT 1]⟩
def st2 (old : ByteArray) : Stage := ⟨[⟨1, e0, e0⟩, ⟨2, old, e0⟩], mT, fun _ => none, [cLink LT 1, cGrow 1 old]⟩
def st3 (old : ByteArray) : Stage := ⟨[⟨1, e0, e0⟩, ⟨2, old, old⟩], mT, fun _ => none, [cLink LT 1]⟩
def st4 (old : ByteArray) : Stage := ⟨[⟨1, e0, e0⟩, ⟨2, old, old⟩], mT, entF (fun _ => none) (cLink LT 1), []⟩
theorem mT_only : ∀ x k, mT x = some k → (x = kT ∨ x = kN) ∧ 0 ≤ k ∧ k < (2 : Nat) := by
  intro x k h
  simp only [mT, fput] at h
  split at h
  · rename_i he; cases h; exact ⟨.inl he, by decide, by decide⟩
  · cases h
theorem dir1 (l : List Nd) : isDir (⟨1, e0, e0⟩ :: l) := ⟨_, rfl, rfl⟩
theorem stg0 : Stg st0 := ⟨fun x k h => (by cases h), dir1 _, fun nd hn => (by obtain rfl := List.mem_singleton.1 hn; decide), by simp [st0], by simp [st0]⟩
theorem stg_two {n : Nd} (hn : n.seen.size ≤ 1048576 ∧ n.kept.size ≤ 1048576) {K : Slt → Option Int} {P : List Chg} (hP : P.length ≤ 2) : Stg ⟨[⟨1, e0, e0⟩, n], mT, K, P⟩ :=
  ⟨mT_only, dir1 _, fun nd hnd => by
    rcases List.mem_cons.1 hnd with rfl | hnd
    · decide
    · obtain rfl := List.mem_singleton.1 hnd; exact hn, by simp only; omega, by simp⟩
theorem new1 (h : DA w b d v tag) (ha : At d none st0) : Step w b tag (F.disk_Disk_Create (Ptr b) (.string LT)) none ⟨[⟨1, e0, e0⟩, ⟨2, e0, e0⟩], fun _ => none, fun _ => none, []⟩ st1 :=
  create_step (x := LT) h ha stg0 sz_LT parse_LT rfl
theorem new2 {old : ByteArray} (ho : old.size ≤ 1048576) (h : DA w b d v tag) (ha : At d none st1) : Step w b tag (F.disk_Disk_Append (Ptr b) (.string LT) (.string old)) none st1 (st2 old) :=
  append_step (N := [⟨1, e0, e0⟩]) (P := [cLink LT 1]) (x := LT) h ha (stg_two ⟨by decide, by decide⟩ (by simp)) (dir1 _) sz_LT parse_LT (by simp [mT, fput]) ho
theorem new3 {old : ByteArray} (ho : old.size ≤ 1048576) (h : DA w b d v tag) (ha : At d none (st2 old)) : Step w b tag (F.disk_Disk_Sync (Ptr b) (.string LT)) none (st2 old) (st3 old) :=
  sync_step (N := [⟨1, e0, e0⟩]) (P := [cLink LT 1]) (x := LT) h ha (stg_two ⟨ho, by show (0 : Nat) ≤ _; omega⟩ (by simp)) (dir1 _) sz_LT parse_LT (by simp [mT, fput]) (fun c hc => by obtain rfl := List.mem_singleton.1 hc; exact link_ent _ _) ho
theorem new4 {old : ByteArray} (ho : old.size ≤ 1048576) (h : DA w b d v tag) (ha : At d none (st3 old)) : Step w b tag (F.disk_Disk_SyncDir (Ptr b) (.string E0)) none (st3 old) (st4 old) :=
  syncdir_step h ha (stg_two ⟨ho, ho⟩ (by simp)) (fun c hc => by obtain rfl := List.mem_singleton.1 hc; exact link_ent _ _)
theorem new_calm {old : ByteArray} (ho : old.size ≤ 1048576) (ha : At d none (st4 old)) : Calm 2 d old := by
  have hk : d.kept = mT := by rw [ha.kept]; exact entF_link _ _ _
  refine ⟨ha.cap, ha.up, ha.arm, ha.pend, by rw [hk, ha.seen]; rfl, ⟨1, ⟨2, old, old⟩, ⟨by simp only; rw [hk]; simp [mT, fput], ⟨⟨2, old, old⟩, by simp only; rw [ha.nodes]; rfl, rfl, rfl⟩, ?_, ?_, by simp only; rw [ha.nodes]; exact dir1 _, ?_⟩, by rw [ha.nodes]; rfl, rfl, rfl⟩, by rw [ha.nodes]; simp [st4]⟩
  · simp only; rw [hk]
    exact fun s k hs => (mT_only s k hs).1
  · simp only; rw [hk]
    intro k hs
    simp only [mT, fput, if_neg nt] at hs
    cases hs
  · simp only; rw [ha.nodes]
    exact (stg_two (n := ⟨2, old, old⟩) ⟨ho, ho⟩ (K := fun _ => none) (P := []) (by simp)).small
end
end Go.Proofs.YtojnickeblbgoaaDoor
