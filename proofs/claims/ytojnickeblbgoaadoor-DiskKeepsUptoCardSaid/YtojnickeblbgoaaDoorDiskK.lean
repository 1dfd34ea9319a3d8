/-
  Layer 1 (disk), part K: Sync, SyncDir, Remove, Rename, a file read whole, a new disk.
-/
import Derived.Test.YtojnickeblbgoaaDoorDiskJ
namespace Go.Proofs.YtojnickeblbgoaaDoor
open Go.Lift
set_option linter.unusedSimpArgs false
set_option maxHeartbeats 4000000

def syncF (d : Dk) (path : ByteArray) (kind : Int) : Int × Dk := if (d.findF path kind).1 ≠ 0 then ((d.findF path kind).1, d) else settleF d (d.findF path kind).2.2.toNat (d.nd (d.findF path kind).2.2)
def removeF (d : Dk) (path : ByteArray) : Int × Dk := if (d.findF path 0).1 ≠ 0 then ((d.findF path 0).1, d) else
  doF d ⟨3, (d.findF path 0).2.1.1, e0, 0, (d.findF path 0).2.1.2, e0, 0⟩ (d.findF path 0).2.1.1.toNat (d.nd (d.findF path 0).2.1.1)
theorem find_dir {d : Dk} (g : Good d) {path : ByteArray} {kind : Int} (hp : path ≠ E0) (h : (d.findF path kind).1 = 0) : 0 ≤ (d.findF path kind).2.1.1 ∧ (d.findF path kind).2.1.1 < d.nodes.length := by
  unfold Dk.findF at h ⊢
  split at h
  · cases h
  · rename_i hd
    split at h
    · cases h
    · rename_i names hn
      split at h
      · rename_i h1; exact absurd h h1
      · split at h
        · cases h
        · split at h
          · cases h
          · rename_i h1 h2 h3
            simp only [hn, if_neg h1, if_neg h2, if_neg h3, if_neg hd]
            refine walk_dir g (fun he => ?_) (by simpa using h1)
            subst he
            unfold parseF at hn
            rw [if_neg hp] at hn
            split at hn
            · cases hn
            · split at hn
              · simp only [Option.some.injEq] at hn
                have h47 : (1 : Nat) ≤ slash.size := by decide
                have hlen : (partsF path).length = Lib.countB path slash + 1 := Lib.splitB_all slash h47 0 _ path rfl
                rw [hn] at hlen
                simp at hlen
              · cases hn
section
variable {w w' w'' : World} {b : Nat} {d d' : Dk} {v : DV} {tag : Nat → Nat}
theorem sync_run (h : DA w b d v tag) (g : Good d) {path : ByteArray} (hs : path.size < 4294967281) (hok : ∀ (i : Nat) nd, d.nodes[i]? = some nd → foldOk i (nd.kept, d.kept) d.pending) (hpl : d.pending.length ≤ 16777216) :
    Run (F.disk_Disk_Sync (Ptr b) (.string path)) w fun r w' => r = .int .i64 (syncF d path 2).1 ∧ DDid w w' b tag (syncF d path 2).2 := by
  unfold F.disk_Disk_Sync
  simp only [Run_bind]
  refine (find_run h g hs 2).mono ?_
  rintro _ w1 ⟨rfl, f1⟩
  have hlt := find_lt g path 2
  have hpos := find_pos (d := d) (path := path) (kind := 2)
  unfold syncF
  generalize d.findF path 2 = s at *
  obtain ⟨e, ⟨a1, a2⟩, node⟩ := s
  simp only at hlt hpos
  simp [-ldA_ptr, spotV]
  refine spot_mem fun x w2 hx _ f2 _ => ?_
  have f02 : Fr (fun _ => False) w w2 := f1.trans f2 fun _ _ => id
  have h2 := h.fr0 f02
  by_cases k1 : e = 0
  · have hnn := (hpos k1).1
    obtain ⟨j, hj⟩ : ∃ j : Nat, node = j := ⟨node.toNat, by omega⟩
    have hjl : j < d.nodes.length := by omega
    have hjn : d.nodes[j]? = some d.nodes[j] := List.getElem?_eq_getElem hjl
    generalize d.nodes[j] = nd at hjn
    have hnd : d.nd node = nd := by simp [Dk.nd, hj, hjn]
    simp [-ldA_ptr, k1, hx]
    rw [hnd, show node.toNat = j by omega, hj]
    refine (settle_run h2 hjn (hok j nd hjn) hpl).mono ?_
    rintro r w3 ⟨rfl, h3⟩
    exact ⟨rfl, h3.pre f02⟩
  · simp [-ldA_ptr, k1]
    exact h2.did (f02.mono fun _ h => h.elim)
theorem syncdir_run (h : DA w b d v tag) (g : Good d) {path : ByteArray} (hs : path.size < 4294967281) (hok : ∀ (i : Nat) nd, d.nodes[i]? = some nd → foldOk i (nd.kept, d.kept) d.pending) (hpl : d.pending.length ≤ 16777216) :
    Run (F.disk_Disk_SyncDir (Ptr b) (.string path)) w fun r w' => r = .int .i64 (syncF d path 1).1 ∧ DDid w w' b tag (syncF d path 1).2 := by
  unfold F.disk_Disk_SyncDir
  simp only [Run_bind]
  refine (find_run h g hs 1).mono ?_
  rintro _ w1 ⟨rfl, f1⟩
  have hlt := find_lt g path 1
  have hpos := find_pos (d := d) (path := path) (kind := 1)
  unfold syncF
  generalize d.findF path 1 = s at *
  obtain ⟨e, ⟨a1, a2⟩, node⟩ := s
  simp only at hlt hpos
  simp [-ldA_ptr, spotV]
  refine spot_mem fun x w2 hx _ f2 _ => ?_
  have f02 : Fr (fun _ => False) w w2 := f1.trans f2 fun _ _ => id
  have h2 := h.fr0 f02
  by_cases k1 : e = 0
  · have hnn := (hpos k1).1
    obtain ⟨j, hj⟩ : ∃ j : Nat, node = j := ⟨node.toNat, by omega⟩
    have hjl : j < d.nodes.length := by omega
    have hjn : d.nodes[j]? = some d.nodes[j] := List.getElem?_eq_getElem hjl
    generalize d.nodes[j] = nd at hjn
    have hnd : d.nd node = nd := by simp [Dk.nd, hj, hjn]
    simp [-ldA_ptr, k1, hx]
    rw [hnd, show node.toNat = j by omega, hj]
    refine (settle_run h2 hjn (hok j nd hjn) hpl).mono ?_
    rintro r w3 ⟨rfl, h3⟩
    exact ⟨rfl, h3.pre f02⟩
  · simp [-ldA_ptr, k1]
    exact h2.did (f02.mono fun _ h => h.elim)
theorem build_gone (a n : Int) (s : ByteArray) : buildV #[.int .i64 0, .int .i64 0, .string ByteArray.empty, .int .i64 0, .string ByteArray.empty, .string ByteArray.empty, .int .i64 0] [(0, 1, .int .i64 a), (1, 1, .int .i64 n), (4, 1, .string s)] = some (Chg.val ⟨a, n, e0, 0, s, e0, 0⟩) := by simp [buildV, fillV, Chg.val, Chg.cells]
theorem build_move (a n : Int) (s t : ByteArray) : buildV #[.int .i64 0, .int .i64 0, .string ByteArray.empty, .int .i64 0, .string ByteArray.empty, .string ByteArray.empty, .int .i64 0] [(0, 1, .int .i64 a), (1, 1, .int .i64 n), (4, 1, .string s), (5, 1, .string t)] = some (Chg.val ⟨a, n, e0, 0, s, t, 0⟩) := by simp [buildV, fillV, Chg.val, Chg.cells]
theorem remove_run (h : DA w b d v tag) (g : Good d) {path : ByteArray} (hs : path.size < 4294967281) (hp : path ≠ E0) (hk : ∀ s k, d.seen s = some k → s.1 ≠ (d.findF path 0).2.2) (hpl : d.pending.length ≤ 16777216) :
    Run (F.disk_Disk_Remove (Ptr b) (.string path)) w fun r w' => r = .int .i64 (removeF d path).1 ∧ DDid w w' b tag (removeF d path).2 := by
  unfold F.disk_Disk_Remove
  have eE : ByteArray.mk #[] = E0 := rfl
  rw [eE]
  simp only [Run_bind]
  refine (find_run h g hs 0).mono ?_
  rintro _ w1 ⟨rfl, f1⟩
  have hdir := find_dir (kind := 0) g hp
  unfold removeF
  generalize d.findF path 0 = s at *
  obtain ⟨e, ⟨a1, a2⟩, node⟩ := s
  simp only at hdir hk
  simp [-ldA_ptr, spotV]
  refine spot_mem fun x w2 hx _ f2 _ => ?_
  have f02 : Fr (fun _ => False) w w2 := f1.trans f2 fun _ _ => id
  have h2 := h.fr0 f02
  have hb2 := h2.blk
  by_cases k1 : e = 0
  · obtain ⟨n1, n2⟩ := hdir k1
    obtain ⟨j, hj⟩ : ∃ j : Nat, a1 = j := ⟨a1.toNat, by omega⟩
    have hjl : j < d.nodes.length := by omega
    have hjn : d.nodes[j]? = some d.nodes[j] := List.getElem?_eq_getElem hjl
    generalize d.nodes[j] = nd at hjn
    have hnd : d.nd a1 = nd := by simp [Dk.nd, hj, hjn]
    simp [-ldA_ptr, k1, hx, ba_eq, hp, hb2, Dk.cells]
    refine Run_rngM h2.seen fun w3 r hit f3 hr => ?_
    refine Run_range (k := fun _ _ => _) (fun x => rfl) (fun js x w' => x = [] ∧ Fr (fun c => c = r) w3 w') ⟨rfl, Fr.refl _ _⟩ hit ?_ ?_
    · rintro js i p y wa wb hpi hj' ⟨rfl, fa⟩ hitb fb sb
      have he := hitb.entry hpi
      have hgp := getK_of_mem h.seen.nodup (show (p.1, p.2) ∈ v.ls from List.mem_of_getElem? hpi)
      rw [h.seenE p.1] at hgp
      have hne := hk _ _ hgp
      obtain ⟨⟨pd, pn⟩, pk⟩ := p
      simp only at hne
      simp [-ldA_ptr, he, slv]
      refine Run_newSt (cs := #[.int .i64 pd, .string pn]) rfl rfl (by simp) fun z wc hz hzw fc hzle => ?_
      have hz' : bk wc z = some [.int .i64 pd, .string pn] := hz
      have hxr : x ≠ r := by
        have := bk_lt hx
        omega
      have hxc : bk wc x = some [.int .i64 a1, .string a2, .int .i64 node] := fc.bk_some (fb.bk_some (fa.bk_some (f3.bk_some hx id) hxr) hxr) id
      simp [hz', hxc, hne]
      exact ⟨(fa.trans fb fun _ _ h => h).trans fc fun _ _ h => h.elim, hitb.fr fc id id⟩
    · rintro js y wa wb hperm ⟨rfl, fa⟩ hitb fb sb
      have hxr : x ≠ r := by
        have := bk_lt hx
        omega
      have hxb : bk wb x = some [.int .i64 a1, .string a2, .int .i64 node] := fb.bk_some (fa.bk_some (f3.bk_some hx id) hxr) id
      have f0b : Fr (fun _ => False) w wb := (f02.trans (f3.new fa fun c hc => by omega) fun _ _ => id).trans fb fun _ _ => id
      simp [hxb, build_gone]
      refine (do_run (h.fr0 f0b) ⟨3, a1, e0, 0, a2, e0, 0⟩ hjn hj ⟨fun h => by simp at h, fun h => by simp at h⟩ hpl).mono ?_
      rintro r w4 ⟨rfl, h4⟩
      rw [hnd, show a1.toNat = j by omega]
      exact ⟨rfl, h4.pre f0b⟩
  · simp [-ldA_ptr, k1, ba_eq, hp]
    exact h2.did (f02.mono fun _ h => h.elim)
end
end Go.Proofs.YtojnickeblbgoaaDoor
