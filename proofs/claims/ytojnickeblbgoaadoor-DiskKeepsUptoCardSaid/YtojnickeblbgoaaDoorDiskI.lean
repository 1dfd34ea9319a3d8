/-
  Layer 1 (disk), part I: a disk begins anew (of files in the root alone).
-/
import Derived.Test.YtojnickeblbgoaaDoorDiskH
import Derived.Test.YtojnickeblbgoaaDoorLiftU
namespace Go.Proofs.YtojnickeblbgoaaDoor
open Go.Lift
set_option linter.unusedSimpArgs false
set_option maxHeartbeats 4000000

@[simp] theorem cells_map (a : Option Nat) : (Value.map a).cells = #[.map a] := rfl
structure Restarted (d d' : Dk) : Prop where
  same : d'.cap = d.cap ∧ d'.acts = d.acts ∧ d'.reads = d.reads
  off : d'.armed = false ∧ d'.down = false ∧ d'.pending = []
  seen : ∀ k, d'.seen k = d.kept k
  kept : ∀ k, d'.kept k = d.kept k
  len : d'.nodes.length = d.nodes.length
  each : ∀ (i : Nat) nd, d.nodes[i]? = some nd → d'.nodes[i]? = some nd ∨ d'.nodes[i]? = some { nd with seen := nd.kept }
  got : ∀ s k, d.kept s = some k → ∀ nd, d.nodes[k.toNat]? = some nd → d'.nodes[k.toNat]? = some { nd with seen := nd.kept }
def Flat (d : Dk) : Prop := ∀ s k, d.kept s = some k → s.1 = 0 ∧ 0 ≤ k ∧ ∃ nd, d.nodes[k.toNat]? = some nd ∧ nd.kind ≠ 1
/-- Some nodes' bytes are those kept. -/
def Renewed (d : Dk) (N : List Nd) (L : List (Slt × Int)) : Prop := N.length = d.nodes.length ∧ (∀ (i : Nat) nd, d.nodes[i]? = some nd → N[i]? = some nd ∨ N[i]? = some { nd with seen := nd.kept }) ∧ ∀ p ∈ L, ∀ nd, d.nodes[p.2.toNat]? = some nd → N[p.2.toNat]? = some { nd with seen := nd.kept }
section
variable {w w' w'' : World} {b : Nat} {d d' : Dk} {v : DV} {tag : Nat → Nat}
theorem Renewed.step {N : List Nd} {L : List (Slt × Int)} (h : Renewed d N L) {p : Slt × Int} {i : Nat} (hi : p.2 = i) {nd nd0 : Nd} (hd : d.nodes[i]? = some nd0) (hn : N[i]? = some nd) : Renewed d (N.set i { nd with seen := nd.kept }) (L ++ [p]) := by
  obtain ⟨h1, h2, h3⟩ := h
  have hil := (List.getElem?_eq_some_iff.1 hn).1
  have e : { nd with seen := nd.kept } = ({ nd0 with seen := nd0.kept } : Nd) := by
    rcases h2 i nd0 hd with h | h
    · rw [hn] at h; cases h; rfl
    · rw [hn] at h; cases h; rfl
  refine ⟨by simp [h1], fun j x hx => ?_, fun q hq x hx => ?_⟩
  · by_cases hj : i = j
    · subst hj
      rw [hd] at hx; cases hx
      rw [List.getElem?_set_self hil, e]
      exact .inr rfl
    · rw [List.getElem?_set_ne hj]; exact h2 j x hx
  · by_cases hj : i = q.2.toNat
    · rw [← hj] at hx ⊢
      rw [hd] at hx; cases hx
      rw [List.getElem?_set_self hil, e]
    · rw [List.getElem?_set_ne hj]
      rcases List.mem_append.1 hq with hq | hq
      · exact h3 q hq x hx
      · simp at hq
        subst hq
        exact absurd (by omega) hj
theorem getK_seen {l : List (Slt × Int)} (hn : (l.map (·.1)).Nodup) {js : List Nat} {j : Nat} {p : Slt × Int} (hp : l[j]? = some p) (hj : j ∉ js) : getK p.1 (js.filterMap fun j => l[j]?) = none := by
  rw [getK_none]
  intro q hq he
  obtain ⟨i, hi, hq'⟩ := List.mem_filterMap.1 hq
  have a1 : (l.map (·.1))[i]? = some p.1 := by rw [List.getElem?_map, hq']; simp [he]
  have a2 : (l.map (·.1))[j]? = some p.1 := by rw [List.getElem?_map, hp]; rfl
  obtain ⟨b1, c1⟩ := List.getElem?_eq_some_iff.1 a1
  obtain ⟨b2, c2⟩ := List.getElem?_eq_some_iff.1 a2
  have : i = j := by
    have h := List.pairwise_iff_getElem.1 hn
    rcases Nat.lt_trichotomy i j with h1 | h1 | h1
    · exact absurd (c1.trans c2.symm) (h i j b1 b2 h1)
    · exact h1
    · exact absurd (c2.trans c1.symm) (h j i b2 b1 h1)
  exact hj (this ▸ hi)
theorem restart_run (h : DA w b d v tag) (hflat : Flat d) : Run (F.disk_Disk_restart (Ptr b)) w fun _ w' => ∃ d', Restarted d d' ∧ DDid w w' b tag d' := by
  unfold F.disk_Disk_restart
  have hb := h.blk
  have hw := h.wr
  have hbl := bk_lt hb
  simp [-ldA_ptr, hb, hw, Dk.cells]
  obtain ⟨w1, hw1⟩ : ∃ w1, w1 = sto (sto (sto w b 9 [.slice none 0 0]) b 3 [.bool false]) b 5 [.bool false] := ⟨_, rfl⟩
  rw [← hw1]
  have hb1 : bk w1 b = some [.int .i64 d.cap, .int .i64 d.acts, .int .i64 d.reads, .bool false, .int .i64 d.left, .bool false, v.nv, .map (some v.bs), .map (some v.bk), .slice none 0 0] := by
    rw [hw1]; simp [hb, Dk.cells]
  have hwr1 : wr w1 b = true := by rw [hw1]; simpa using hw
  have f1 : Fr (fun c => c = b) w w1 := by
    rw [hw1]
    exact (((Fr.refl (fun c => c = b) w).sto (.inl rfl) _ _).sto (.inl rfl) _ _).sto (.inl rfl) _ _
  clear hw1
  refine Run_mkmM (kv := slv) (vv := idv) fun w2 m1 hm1 f2 hm1le => ?_
  refine Run_mkmM (kv := slv) (vv := idv) fun w3 m2 hm2 f3 hm2le => ?_
  have hb3 := f3.bk_some (f2.bk_some hb1 id) id
  have hwr3 : wr w3 b = true := by rw [f3.wr (bk_lt (f2.bk_some hb1 id)) id, f2.wr (bk_lt hb1) id]; exact hwr1
  simp [-ldA_ptr, hb3, hwr3]
  have z1 := f1.size
  have z2 := f2.size
  have z3 := f3.size
  have hmm : m1 ≠ m2 := by have := hm1.lt; omega
  have hm1l := hm1.lt
  have hm2l := hm2.lt
  obtain ⟨w4, hw4⟩ : ∃ w4, w4 = sto (sto w3 b 7 [.map (some m1)]) b 8 [.map (some m2)] := ⟨_, rfl⟩
  rw [← hw4]
  have hb4 : bk w4 b = some [.int .i64 d.cap, .int .i64 d.acts, .int .i64 d.reads, .bool false, .int .i64 d.left, .bool false, v.nv, .map (some m1), .map (some m2), .slice none 0 0] := by
    rw [hw4]; simp [hb3]
  have hwr4 : wr w4 b = true := by rw [hw4]; simpa using hwr3
  have f34 : Fr (fun c => c = b) w3 w4 := by
    rw [hw4]
    exact ((Fr.refl (fun c => c = b) w3).sto (.inl rfl) _ _).sto (.inl rfl) _ _
  have z4 := f34.size
  clear hw4
  refine Run_bsl (k := 1) (n := 1) (vs := [.int .i64 0]) rfl (by simp) rfl (by simp [size_zeroCells]) fun rv w5 hrv f5 hrvn => ?_
  have z5 := f5.size
  have f05 : Fr (fun c => c = b) w w5 := ((((f1.trans f2 fun _ _ h => h.elim).trans f3 fun _ _ h => h.elim).trans f34 fun _ _ h => h).trans f5 fun _ _ h => h.elim)
  have hb5 := f5.bk_some hb4 id
  have hwr5 : wr w5 b = true := by rw [f5.wr (bk_lt hb4) id]; exact hwr4
  have nb1 : ∀ c, tag c ≠ 1 → ¬ c = b := fun c hc he => hc (by rw [he]; exact h.tb)
  have hm15 : MapAt slv idv w5 m1 ([] : List (Slt × Int)) := ((hm1.fr f3 id).fr f34 (by omega)).fr f5 id
  have hm25 : MapAt slv idv w5 m2 ([] : List (Slt × Int)) := (hm2.fr f34 (by omega)).fr f5 id
  have hold5 : MapAt slv idv w5 v.bk v.lk := h.kept.fr f05 (nb1 _ (by rw [h.tk]; decide))
  have hbk := h.bound v.bk (by rw [h.tk]; decide)
  obtain ⟨ml, hml⟩ := h.ml
  obtain ⟨tag0, t1, t2, t3, t4⟩ : ∃ tag0 : Nat → Nat, tag0 m1 = 2 ∧ tag0 m2 = 3 ∧ (∀ c, c < w.heap.size → tag0 c = tag c) ∧ ∀ c, tag0 c ≠ 0 → tag c ≠ 0 ∨ c = m1 ∨ c = m2 := by
    refine ⟨fun c => if c = m1 then 2 else if c = m2 then 3 else tag c, by simp, by simp [Ne.symm hmm], fun c hc => ?_, fun c hc => ?_⟩
    · have h1 : c ≠ m1 := by omega
      have h2 : c ≠ m2 := by omega
      simp [h1, h2]
    · by_cases h1 : c = m1
      · exact .inr (.inl h1)
      · by_cases h2 : c = m2
        · exact .inr (.inr h2)
        · simp [h1, h2] at hc; exact .inl hc
  have told : ∀ c, tag c ≠ 0 → tag0 c = tag c := fun c hc => t3 c (h.bound c hc)
  have hDA : ∀ w' N L, Fr (fun c => c = b ∨ tag c = 4 ∨ w.heap.size ≤ c) w w' → bk w' b = some [.int .i64 d.cap, .int .i64 d.acts, .int .i64 d.reads, .bool false, .int .i64 d.left, .bool false, v.nv, .map (some m1), .map (some m2), .slice none 0 0] → wr w' b = true → SlW 3 w' v.nv (N.map Nd.cells) → MapAt slv idv w' m1 L → MapAt slv idv w' m2 L →
      DA w' b { d with armed := false, down := false, pending := [], nodes := N, seen := fun k => getK k L, kept := fun k => getK k L } ⟨v.nv, .slice none 0 0, m1, m2, L, L⟩ tag0 := by
    intro w' N L f hb' hw' hN h1 h2
    have s := f.size
    refine ⟨hb', hw', hN, h1, fun _ => rfl, h2, fun _ => rfl, SlW.nil 7 w', by rw [told b (by rw [h.tb]; decide)]; exact h.tb, t1, t2, fun c hc => by rw [told c (by rw [h.tn c hc]; decide)]; exact h.tn c hc, fun c hc => hc.elim, by rw [t3 0 (bk_lt hml)]; exact h.t0, ⟨ml, f.bk_some hml ?_⟩, fun c hc => ?_⟩
    · have := bk_lt hml
      rintro (h' | h' | h')
      · exact nb1 0 (by rw [h.t0]; decide) h'
      · rw [h.t0] at h'; cases h'
      · omega
    · rcases t4 c hc with h' | h' | h'
      · have := h.bound c h'; omega
      · rw [h']; exact h1.lt
      · rw [h']; exact h2.lt
  obtain ⟨Fin, hFin⟩ : ∃ Fin : World → Prop, ∀ w', Fin w' ↔ ∃ N L, (∀ k, getK k L = d.kept k) ∧ Renewed d N L ∧ DA w' b { d with armed := false, down := false, pending := [], nodes := N, seen := fun k => getK k L, kept := fun k => getK k L } ⟨v.nv, .slice none 0 0, m1, m2, L, L⟩ tag0 ∧ Fr (fun c => tag c ≠ 0) w w' := ⟨_, fun _ => Iff.rfl⟩
  refine Run_for 1 (fun i l w' => ∃ rv', l = [rv'] ∧ (i = 0 → w' = w5 ∧ rv' = rv) ∧ (i = 1 → lenL rv' = some (.int .i64 0) ∧ Fin w')) ⟨rv, rfl, fun _ => ⟨rfl, rfl⟩, fun h => by cases h⟩ ?_ ?_
  · rintro i l w6 hi ⟨rv', rfl, hi0, _⟩
    obtain rfl : i = 0 := by omega
    obtain ⟨rfl, rfl⟩ := hi0 rfl
    have hrl := hrv.1.lenL
    obtain ⟨q, q1, q2⟩ := hrv.1.rd1 (i := 0) (y := .int .i64 0) rfl .i64
    obtain ⟨rv2, k1, k2, _⟩ := hrv.1.drop (n := 1) (by simp) .i64
    have k2l := k2.lenL
    have q1' : idxA 1 rv' (.int .i64 0) = some q := q1
    have k1' : sliceV 1 rv' (some (.int .i64 1)) none = some rv2 := k1
    simp [-ldA_ptr, hrl, q1', q2, k1']
    refine Run_rngM hold5 fun w7 r hit f7 hr => ?_
    refine Run_range (k := fun _ _ => _) (fun x => rfl) (fun js x w' => x = [rv2] ∧ ∃ N, Renewed d N (js.filterMap fun j => v.lk[j]?) ∧ DA w' b { d with armed := false, down := false, pending := [], nodes := N, seen := fun k => getK k (js.filterMap fun j => v.lk[j]?), kept := fun k => getK k (js.filterMap fun j => v.lk[j]?) } ⟨v.nv, .slice none 0 0, m1, m2, js.filterMap fun j => v.lk[j]?, js.filterMap fun j => v.lk[j]?⟩ tag0 ∧ Fr (fun c => tag c ≠ 0) w w') ⟨rfl, d.nodes, ⟨rfl, fun i nd h => .inl h, fun p hp => by simp at hp⟩, ?_, ?_⟩ hit ?_ ?_
    · have f07 : Fr (fun c => c = b ∨ tag c = 4 ∨ w.heap.size ≤ c) w w7 := (f05.mono fun c hc => Or.inl hc).trans f7 fun _ _ h => h.elim
      exact hDA w7 d.nodes [] f07 (f7.bk_some hb5 id) (by rw [f7.wr (bk_lt hb5) id]; exact hwr5) ((h.nodes.fr f05 fun c hc => nb1 c (by rw [h.tn c hc]; decide)).fr f7 fun _ _ => id) (hm15.fr f7 id) (hm25.fr f7 id)
    · exact (f05.mono fun c hc => by rw [hc, h.tb]; decide).trans f7 fun _ _ h => h.elim
    · rintro js j p x wa wb hp hj ⟨rfl, N, hN, hda, fa⟩ hitb fb sb
      have za := fa.size
      have zr : w6.heap.size ≤ r := hr
      have rtag : tag0 r = 0 := by
        by_cases h0 : tag0 r = 0
        · exact h0
        · rcases t4 r h0 with h' | h' | h'
          · have := h.bound r h'; omega
          · omega
          · omega
      have hdb := hda.fr fb fun c hc => ⟨by rw [hc]; exact rtag, by omega⟩
      have he := hitb.entry hp
      have hgp := getK_of_mem h.kept.nodup (show (p.1, p.2) ∈ v.lk from List.mem_of_getElem? hp)
      rw [h.keptE p.1] at hgp
      obtain ⟨p0, ppos, nd0, hnd0, hkind⟩ := hflat _ _ hgp
      have hno := getK_seen h.kept.nodup hp hj
      have hLp : (js ++ [j]).filterMap (fun j => v.lk[j]?) = (js.filterMap fun j => v.lk[j]?) ++ [p] := by simp [List.filterMap_append, hp]
      rw [hLp]
      generalize (js.filterMap fun j => v.lk[j]?) = L at *
      obtain ⟨⟨pd, pn⟩, pk⟩ := p
      simp only at p0 ppos hnd0 hno hgp
      subst p0
      simp [-ldA_ptr, he, slv]
      refine Run_newSt (cs := #[.int .i64 0, .string pn]) rfl rfl (by simp) fun x wc hx hxw fc hxle => ?_
      have hdc := hdb.fr0 fc
      have hx' : bk wc x = some [.int .i64 0, .string pn] := hx
      have hbc := hdc.blk
      have hl2 : ∀ w', bk w' x = some [.int .i64 0, .string pn] → ldA 2 (Ptr x) w' = some (slv (0, pn)) := fun w' hh => by rw [ldA_bk hh (by simp)]; rfl
      simp [-ldA_ptr, hx', hbc, Dk.cells, hl2 wc hx']
      have fdr : Fr (fun _ => False) wc wc.drew := (Fr.refl (fun _ => False) wc).drew
      have hdd := hdc.fr0 fdr
      have m1b := hdb.bound m1 (by rw [t1]; decide)
      have m2b := hdb.bound m2 (by rw [t2]; decide)
      have hxm1 : x ≠ m1 := by omega
      have hxm2 : x ≠ m2 := by omega
      refine Run_mentM (kv := slv) (vv := idv) keyS hdd.seen hno fun wd cd hh1 fd1 sd1 => ?_
      have hxd : bk wd x = some [.int .i64 0, .string pn] := fd1.bk_some (w := wc.drew) hx' hxm1
      simp only [extV_tuple, List.getElem?_toArray, List.getElem?_cons_succ, List.getElem?_cons_zero, Run_bindO_some, Run_bind]
      refine Run_estM hh1 pk fun we hme fe1 se1 => ?_
      have hxe : bk we x = some [.int .i64 0, .string pn] := fe1.bk_some hxd hxm1
      simp only [Run_getM, Run_bind]
      have fm1 : Fr (fun c => c = m1) wc.drew we := fd1.trans fe1 fun _ _ h => h
      have hde := hdd.seenSet (m := fun k => getK k (L ++ [((0, pn), pk)])) fm1 hme fun _ => rfl
      refine Run_mentM (kv := slv) (vv := idv) keyS hde.kept hno fun wf cf hh2 ff1 sf1 => ?_
      simp only [extV_tuple, List.getElem?_toArray, List.getElem?_cons_succ, List.getElem?_cons_zero, Run_getM, Run_bindO_some, Run_bind]
      refine Run_estM hh2 pk fun wg hmg fg1 sg1 => ?_
      have fm2 : Fr (fun c => c = m2) we wg := ff1.trans fg1 fun _ _ h => h
      have hdg := hde.keptSet (m := fun k => getK k (L ++ [((0, pn), pk)])) fm2 hmg fun _ => rfl
      obtain ⟨nd, hnd, hke⟩ : ∃ nd, N[pk.toNat]? = some nd ∧ nd.kind = nd0.kind := by
        rcases hN.2.1 _ nd0 hnd0 with h' | h'
        · exact ⟨_, h', rfl⟩
        · exact ⟨_, h', rfl⟩
      obtain ⟨i, hi⟩ : ∃ i : Nat, pk = i := ⟨pk.toNat, by omega⟩
      have hin : pk.toNat = i := by omega
      rw [hin] at hnd hnd0
      obtain ⟨b0, o, l0, i1, t40, i2, q0, qq1, qq2, hset⟩ := hdg.setNode hnd
      have i1' : idxA 3 v.nv (idv pk) = some (.pointer (some ⟨b0, o, none⟩)) := by rw [hi]; exact i1
      have hbg := hdg.blk
      simp [-ldA_ptr, hl2 wd hxd, hl2 we hxe, hbg, Dk.cells, i1', i2, qq2]
      obtain ⟨y1, y2⟩ := (hset wg.drew _ _ (hdg.fr0 (Fr.refl (fun _ => False) wg).drew) rfl rfl).1 nd.kept
      have hb0w : b0 < w.heap.size := by
        rcases t4 b0 (by rw [t40]; decide) with h' | h' | h'
        · exact h.bound b0 h'
        · rw [h', t1] at t40; cases t40
        · rw [h', t2] at t40; cases t40
      have hb0b : b0 ≠ b := fun he => by
        rw [he, told b (by rw [h.tb]; decide), h.tb] at t40; cases t40
      have hb0bk : v.bk ≠ b0 := fun he => by
        rw [← he, told v.bk (by rw [h.tk]; decide), h.tk] at t40; cases t40
      have zz := fb.size
      have zc := fc.size
      have zm1 := fm1.size
      have zm2 := fm2.size
      have zd : wc.drew.heap.size = wc.heap.size := rfl
      obtain ⟨⟨l', hl', hle⟩, hwrb⟩ := y1
      have hll : l' = l0 := by
        have h2 : bk wg b0 = some l' := hl'
        rw [i2] at h2
        cases h2; rfl
      rw [hll] at hle
      refine ⟨hle, hwrb, v.nv, by rw [y2.blk]; rfl, ?_⟩
      have hkne : ¬ nd.kind = 1 := by rw [hke]; exact hkind
      have hk0 : bk (sto wg.drew b0 (o + 1) [.string nd.kept]) b0 = some (l0.set (o + 1) (.string nd.kept)) := by rw [bk_sto_eq, bk_drew, i2]; rfl
      have hk1 : (l0.set (o + 1) (.string nd.kept))[o]? = some (.int .i64 nd.kind) := by rw [List.getElem?_set_ne (by omega)]; exact q0
      have t4b : tag b0 ≠ 0 := by rw [← t3 b0 hb0w, t40]; decide
      have fbz : Fr (fun c => c = m1 ∨ c = m2 ∨ c = b0) wb (sto wg.drew b0 (o + 1) [.string nd.kept]) := by
        refine Fr.sto (b := b0) (Fr.drew ?_) (.inl (.inr (.inr rfl))) _ _
        refine ((((fc.trans fdr fun _ _ h => h).mono fun _ h => h.elim).trans fm1 fun c _ hc => ?_).trans fm2 fun c _ hc => ?_)
        · exact .inl hc
        · exact .inr (.inl hc)
      simp [i1', hk0, hk1, hkne]
      have hst := hN.step (p := ((0, pn), pk)) (i := i) hi hnd0 hnd
      refine ⟨⟨_, hst, y2, ?_⟩, hitb.fr fbz (fun hc => ?_) (fun hc => ?_)⟩
      · refine (fa.trans fb fun c hc he => by omega).trans fbz fun c hc h' => ?_
        rcases h' with h' | h' | h'
        · omega
        · omega
        · rw [h']; exact t4b
      · rcases hc with h' | h' | h'
        · omega
        · omega
        · exact hb0bk h'
      · rcases hc with h' | h' | h'
        · omega
        · omega
        · omega
    · rintro js x wa wb hperm ⟨rfl, N, hN, hda, fa⟩ hitb fb sb
      have hLperm := perm_all hperm
      have hdb := hda.fr0 fb
      generalize (js.filterMap fun j => v.lk[j]?) = L at *
      simp [k2l]
      refine (hFin wb).2 ⟨N, L, fun k => ?_, hN, hdb, fa.trans fb fun _ _ h => h.elim⟩
      rw [← h.keptE k]
      have hnd : (L.map (·.1)).Nodup := (hLperm.map _).nodup_iff.2 h.kept.nodup
      cases hg : getK k v.lk with
      | none =>
        rw [getK_none] at hg ⊢
        exact fun q hq => hg q (hLperm.mem_iff.1 hq)
      | some y => exact getK_of_mem hnd (hLperm.mem_iff.2 (getK_mem hg))
  · rintro l w6 ⟨rv', rfl, _, hi1⟩
    obtain ⟨hl0, hf⟩ := hi1 rfl
    obtain ⟨N, L, e1, e2, e3, e4⟩ := (hFin w6).1 hf
    simp [hl0]
    refine ⟨{ d with armed := false, down := false, pending := [], nodes := N, seen := fun k => getK k L, kept := fun k => getK k L }, ⟨⟨rfl, rfl, rfl⟩, ⟨rfl, rfl, rfl⟩, e1, e1, e2.1, e2.2.1, fun s k hk nd hnd => e2.2.2 (s, k) (getK_mem (by rw [e1]; exact hk)) nd hnd⟩, e4, _, tag0, e3, fun c hc => ?_⟩
    rcases t4 c hc with h' | h' | h'
    · exact .inl h'
    · exact .inr (by omega)
    · exact .inr (by omega)
end
end Go.Proofs.YtojnickeblbgoaaDoor
