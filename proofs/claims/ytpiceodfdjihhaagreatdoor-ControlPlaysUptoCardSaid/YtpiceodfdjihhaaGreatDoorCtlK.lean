/-
  Layer 15 (control), part K: the definition that the laws play with, made and copied.
-/
import Derived.Test.YtpiceodfdjihhaaGreatDoorCtlJ
namespace Go.Proofs.YtpiceodfdjihhaaGreatDoor
open Go.Lift
set_option linter.unusedSimpArgs false

section
variable {w : World}
/-- The nodes as they are made: p0, the list of the first. -/
def madeE (p0 : Value) (i : Nat) : List (List Value) := match i with
  | 0 => []
  | m + 1 => [.int .i64 0, p0] :: List.replicate m [.int .i64 0, .slice none 0 0]
theorem madeE_len (p0 : Value) (i : Nat) : (madeE p0 i).length = i := by cases i <;> simp [madeE]
theorem madeE_succ (p0 : Value) (i : Nat) : madeE p0 (i + 2) = madeE p0 (i + 1) ++ [[.int .i64 0, .slice none 0 0]] := by
  simp [madeE, List.replicate_succ']

theorem store_all {l cs : List Value} {n : Nat} (h1 : l.length = n) (h2 : cs.length = n) :
    ((Option.map (fun l => setL l 0 cs) (some l)).bind fun l => if n ≤ l.length then some (Value.agg (List.take n l).toArray) else none) = some (.agg cs.toArray) := by
  simp only [Option.map_some, Option.bind_some]
  have e : setL l 0 cs = cs := by
    rw [setL_eq _ _ _ (by omega)]
    simp [h1, h2]
  rw [e, if_pos (by omega), List.take_of_length_le (by omega)]
theorem Clu.all_cell (C : Clu) {nv : Value} (h : isCell nv = true) : (C.cells nv).toArray.toList.all isCell = true := by
  simp [Clu.cells, h]
theorem wrapA : IntKind.i64.wrap 65536 = 65536 := by decide
theorem wrapB : IntKind.i64.wrap 1024 = 1024 := by decide
theorem wrap0 : IntKind.i64.wrap 0 = 0 := by decide
set_option maxHeartbeats 4000000 in
set_option maxRecDepth 100000 in
theorem Made_run (a : Int) : Run (F.granarylaw6_Made (.agg #[.int .i64 a, .int .i64 0, .int .i64 0, .int .i64 0, .slice none 0 0, .slice none 0 0, .slice none 0 0])) w fun r w' =>
    Fr (fun _ => False) w w' ∧ ∃ nv pvs, r = (madeC (1 + a % 16).toNat 1 1 1).val nv ∧ Nodes w' nv (madeN (1 + a % 16).toNat) pvs ∧ New w w' nv ∧ ∀ p ∈ pvs, New w w' p := by
  unfold F.granarylaw6_Made
  have hn1 : 0 ≤ a % 16 := Int.emod_nonneg a (by decide)
  have hn2 : a % 16 < 16 := Int.emod_lt_of_pos a (by decide)
  obtain ⟨n, hn⟩ : ∃ n : Nat, 1 + a % 16 = n := ⟨(1 + a % 16).toNat, by omega⟩
  have hnn : 1 ≤ n ∧ n ≤ 16 := by omega
  have wn : IntKind.i64.wrap (1 + a % 16) = n := by rw [hn]; exact wrap_small (by omega) (by omega)
  rw [hn]
  simp (maxSteps := 10000000)
  refine Run_new fun b w1 hb hbw f1 hle => ?_
  refine Run_new fun d w2 hd hdw f2 hle2 => ?_
  simp at hb hd
  have hb2 := f2.bk_some hb id
  simp (maxSteps := 10000000) [hb2, mod6_run, wn]
  have f02 : Fr (fun _ => False) w w2 := f1.trans f2 fun _ _ => id
  have hbd : b ≠ d := by have := bk_lt hb; omega
  refine Run_for n (fun i l w3 => ∃ lv p0, l = [lv, .int .i64 (if i = 0 then 0 else 1), .int .i64 i] ∧ Fr (fun _ => False) w2 w3 ∧ SlW 2 w3 lv (madeE p0 i) ∧ (∀ c, inB lv c → w2.heap.size ≤ c ∧ c < w3.heap.size) ∧
    (0 < i → SlW 1 w3 p0 (elI [0]) ∧ ∀ c, inB p0 c → w2.heap.size ≤ c ∧ c < w3.heap.size ∧ ¬ inB lv c)) ⟨_, .nilIface, rfl, Fr.refl _ _, SlW.nil _ _, (fun _ h => h.elim), fun h => absurd h (by decide)⟩ ?_ ?_
  · rintro i l w3 hi ⟨lv, p0, rfl, f3, s3, n3, q3⟩
    have hb3 : bk w3 b = some _ := f3.bk_some hb2 id
    have hin : (i : Int) < n := by omega
    have wi := wrap_succ (n := i) (by omega)
    simp (maxSteps := 10000000) [hb3, hin, at6_run, mod6_run, buildV, fillV_cell]
    refine Run_newSt rfl rfl rfl fun e w4 he hew f4 hle4 => ?_
    have he' : bk w4 e = some [.int .i64 0, .slice none 0 0] := he
    have hb4 : bk w4 b = some _ := f4.bk_some hb3 id
    have hbe : b ≠ e := by have := bk_lt hb3; omega
    have hn0 : (0 : Int) % (n : Int) = 0 := by simp
    -- the node's list
    refine Run.mono (Q := fun o w5 => o = Out.exit 2 [.int .i64 1] ∧ Fr (fun _ => False) w3 w5 ∧ ∃ pv, bk w5 e = some [.int .i64 0, pv] ∧ wr w5 e = true ∧ (i ≠ 0 → pv = .slice none 0 0) ∧
      (i = 0 → SlW 1 w5 pv (elI [0]) ∧ ∀ c, inB pv c → w4.heap.size ≤ c ∧ c < w5.heap.size)) ?_ ?_
    · refine Run_for 1 (fun k l w5 => l = [.int .i64 k] ∧ Fr (fun _ => False) w3 w5 ∧ Fr (fun c => c = e) w4 w5 ∧ ∃ pv, bk w5 e = some [.int .i64 0, pv] ∧ wr w5 e = true ∧ (i ≠ 0 ∨ k = 0 → pv = .slice none 0 0) ∧
        (i = 0 ∧ k = 1 → SlW 1 w5 pv (elI [0]) ∧ ∀ c, inB pv c → w4.heap.size ≤ c ∧ c < w5.heap.size)) ⟨rfl, f4, Fr.refl _ _, _, he', hew, fun _ => rfl, fun h => absurd h.2 (by decide)⟩ ?_ ?_
      · rintro k l w5 hk ⟨rfl, f5, g5, pv, he5, hew5, h1, h2⟩
        obtain rfl : k = 0 := by omega
        obtain rfl := h1 (.inr rfl)
        have hb5 : bk w5 b = some _ := f5.bk_some hb3 id
        simp (maxSteps := 10000000) [hb5, at6_run, mod6_run (w := w5) (a := 0) (m := (n : Int)) (by omega) (by omega), he5, hn0]
        by_cases hi0 : i = 0
        · subst hi0
          simp (maxSteps := 10000000) [he5]
          refine Run_app1 (k := 1) rfl (SlW.nil 1 w5) (by decide) rfl (by decide) rfl (by simp) fun r w6 s6 f6 hin6 w7 f7 => ?_
          have f6' : Fr (fun _ => False) w5 w6 := f6.mono fun c hc => hc.elim
          have he6 := f6'.bk_some he5 id
          have hew6 : wr w6 e = true := by rw [f6'.wr (bk_lt he5) id]; exact hew5
          simp [he6, hew6, s6.1.isCell, cells_isCell s6.1.isCell, wrap1]
          have fs : Fr (fun c => c = e) w6 (sto w6 e 1 [r]) := (Fr.refl (fun c => c = e) w6).sto (.inl rfl) _ _
          have hre : ∀ c, inB r c → w5.heap.size ≤ c ∧ c < w6.heap.size := fun c hc => (hin6 c hc).resolve_left (fun h => h.elim)
          have hel : e < w5.heap.size := bk_lt he5
          refine ⟨(f5.trans f6' fun _ _ => id).sto (.inr hle4) _ _, (g5.trans (f6'.mono fun _ h => h.elim) fun _ _ h => h).sto (.inl rfl) _ _, s6.fr fs fun c hc hec => by have := (hre c hc).1; omega, fun c hc => ?_⟩
          have := hre c hc; have := g5.size; omega
        · have hi0' : ¬ (0 : Int) = i := by omega
          simp [hi0', wrap1, he5, hew5, hi0]
          exact ⟨f5, g5⟩
      · rintro l w5 ⟨rfl, f5, g5, pv, he5, hew5, h1, h2⟩
        simp
        exact ⟨f5, pv, he5, hew5, fun h => h1 (.inl h), fun h => h2 ⟨h, rfl⟩⟩
    · rintro o w5 ⟨rfl, f5, pv, he5, hew5, h1, h2⟩
      have e35 := f5.size
      have e34 := f4.size
      by_cases hi0 : i = 0
      · subst hi0
        obtain ⟨s5, n5⟩ := h2 rfl
        have hl5 := s5.1.lenL
        simp at hl5
        have s3' : SlW 2 w5 lv [] := s3.fr f5 fun _ _ => id
        simp (maxSteps := 10000000) [he5, hl5, wrap1]
        refine Run_app1 (k := 2) rfl s3' (by decide) rfl (by decide) (by simp [s5.1.isCell]) (by simp) fun r w6 s6 f6 hin6 w7 f7 => ?_
        refine ⟨f3.trans f5 (fun _ _ => id) |>.new f6 fun c hc => (n3 c hc).1, pv, s6, fun c hc => ?_, s5.fr f6 fun c h1 h2 => ?_, fun c hc => ?_⟩
        · have := f6.size
          rcases hin6 c hc with h | h
          · have := n3 c h; omega
          · have := f3.size; omega
        · have := (n5 c h1).1; have := (n3 c h2).2; omega
        · have := n5 c hc; have := f6.size; have := f3.size
          refine ⟨by omega, by omega, fun h => ?_⟩
          rcases hin6 c h with h' | h'
          · have := (n3 c h').2; omega
          · omega
      · obtain rfl := h1 hi0
        obtain ⟨j, rfl⟩ : ∃ j, i = j + 1 := ⟨i - 1, by omega⟩
        obtain ⟨sp, np⟩ := q3 (by omega)
        simp (maxSteps := 10000000) [he5]
        refine Run_app1 (k := 2) rfl (s3.fr f5 fun _ _ => id) (by decide) rfl (by decide) (by simp) (by simp [madeE]; omega) fun r w6 s6 f6 hin6 w7 f7 => ?_
        have wi' : IntKind.i64.wrap ((j : Int) + 1 + 1) = (j : Int) + 1 + 1 := by simpa using wi
        simp [wi']
        have e6 := f6.size
        have e3 := f3.size
        refine ⟨f3.trans f5 (fun _ _ => id) |>.new f6 fun c hc => (n3 c hc).1, p0, ?_, fun c hc => ?_, (sp.fr f5 fun _ _ => id).fr f6 fun c h1 h2 => (np c h1).2.2 h2, fun c hc => ?_⟩
        · rw [madeE_succ]; exact s6
        · rcases hin6 c hc with h | h
          · have := n3 c h; omega
          · omega
        · have := np c hc
          refine ⟨this.1, by omega, fun h => ?_⟩
          rcases hin6 c h with h' | h'
          · exact this.2.2 h'
          · omega
  · rintro l w3 ⟨lv, p0, rfl, f3, s3, n3, q3⟩
    have hb3 : bk w3 b = some _ := f3.bk_some hb2 id
    have hn0 : ¬ n = 0 := by omega
    simp (maxSteps := 10000000) [hb3, hn0, mod6_run, wrap1]
    refine (reg28_run hb3).mono ?_
    rintro _ w4 ⟨c, rfl, hc, hcw, f4, hlc⟩
    have hb4 : bk w4 b = some _ := f4.bk_some hb3 id
    have hbc : b ≠ c := by have := bk_lt hb3; omega
    simp (maxSteps := 10000000) [hb4, hc, hcw, bk_sto, hbc, vals0, mod6_run, at6_run, wrap1, wrapA, wrapB, wrap0]
    have g4 := ((((((((((((Fr.refl (fun z => w3.heap.size ≤ z) w4).drew.sto (.inl hlc) 7 [Value.int .i64 1]).drew.sto (.inl hlc) 10 [Value.int .i64 1]).sto (.inl hlc) 11 [Value.int .i64 1]).sto (.inl hlc) 12 [Value.int .i64 1]).sto (.inl hlc) 13 [Value.int .i64 1]).sto (.inl hlc) 14 [Value.int .i64 1]).sto (.inl hlc) 15 [Value.int .i64 1]).sto (.inl hlc) 16 [Value.int .i64 1]).sto (.inl hlc) 17 [Value.int .i64 1]).sto (.inl hlc) 18 [Value.int .i64 1]).sto (.inl hlc) 19 [Value.int .i64 1]).sto (.inl hlc) 20 [Value.int .i64 0]
    revert g4
    generalize sto _ c 20 [Value.int .i64 0] = w5
    intro g4
    have f45 : Fr (fun _ => False) w3 w5 := f4.trans g4 fun z hz h => absurd hz (by omega)
    refine (with_run (.string storeB) [1, 1, 1, 1, 1, 1, 1, 1, 1, 1, 1, 1, 1, 1, 1, 1, 1, 1, 1, 1, 0] rfl lv rfl s3.1.isCell).mono ?_
    rintro _ w6 ⟨f6, rfl⟩
    have ev : Value.agg ((Value.string storeB :: List.map (fun n => Value.int IntKind.i64 n) [1, 1, 1, 1, 1, 1, 1, 1, 1, 1, 1, 1, 1, 1, 1, 1, 1, 1, 1, 1, 0]) ++ [lv]).toArray = (madeC n 1 1 1).val lv := rfl
    rw [ev]
    have f26 : Fr (fun _ => False) w2 w6 := (f3.trans f45 fun _ _ => id).trans f6 fun _ _ => id
    have hd6 := f26.bk_some hd id
    have hdw6 : wr w6 d = true := by rw [f26.wr (bk_lt hd) id]; exact hdw
    have hle' : w.heap.size ≤ d := Nat.le_trans f1.size hle2
    have hcl : ((madeC n 1 1 1).val lv).cells.toList = (madeC n 1 1 1).cells lv := rfl
    have hcz : ((madeC n 1 1 1).val lv).cells.size = 23 := rfl
    have fs : Fr (fun z => z = d) w6 (sto w6 d 0 ((madeC n 1 1 1).cells lv)) := (Fr.refl (fun z => z = d) w6).sto (.inl rfl) _ _
    have ld := bk_lt hd
    have f36 : Fr (fun _ => False) w3 w6 := f45.trans f6 fun _ _ => id
    rw [hcl]
    refine ⟨hcz, fun i hi => ?_, ⟨_, hd6, by simp⟩, hdw6, (madeC n 1 1 1).val lv, ?_, (f02.trans f26 fun _ _ => id).sto (.inr hle') _ _, lv, rfl, p0 :: List.replicate (n - 1) (.slice none 0 0), ?_, fun z hz => ?_, fun q hq z hz => ?_⟩
    · have hm : ((madeC n 1 1 1).val lv).cells[i] ∈ ((madeC n 1 1 1).cells lv) := by
        rw [← hcl]; exact Array.mem_toList_iff.2 (Array.getElem_mem hi)
      have hall : ∀ y ∈ (madeC n 1 1 1).cells lv, isCell y = true := by
        intro y hy
        simp [Clu.cells, madeC] at hy
        rcases hy with rfl | rfl | rfl | rfl <;> first | rfl | exact s3.1.isCell
      exact hall _ hm
    · rw [hd6]; exact store_all (by simp) rfl
    · obtain ⟨m, rfl⟩ : ∃ m, n = m + 1 := ⟨n - 1, by omega⟩
      obtain ⟨sp, np⟩ := q3 (by omega)
      have hee : elN (madeN (m + 1)) (p0 :: List.replicate (m + 1 - 1) (.slice none 0 0)) = madeE p0 (m + 1) := by
        simp [elN, madeN, madeE]
      refine ⟨by simp [madeN], ?_, fun i nd p hi hp => ?_⟩
      · rw [hee]
        exact ((s3.fr f36 fun _ _ => id).fr fs fun z hz he => by have := (n3 z hz).1; omega).1
      · cases i with
        | zero =>
          simp [madeN] at hi hp
          subst hi hp
          exact ((sp.fr f36 fun _ _ => id).fr fs fun z hz he => by have := (np z hz).1; omega).1
        | succ i =>
          simp [madeN, List.getElem?_replicate] at hi hp
          obtain ⟨_, rfl⟩ := hi
          obtain ⟨_, rfl⟩ := hp
          exact Sl.nil 1 _
    · have := n3 z hz; have := f36.size; have := f02.size
      simp; omega
    · rcases List.mem_cons.1 hq with rfl | hq
      · have := (q3 (by omega)).2 z hz; have := f36.size; have := f02.size
        simp; omega
      · rw [(List.mem_replicate.1 hq).2] at hz
        exact hz.elim

/-- made. -/
theorem made_run (a r l p : Int) : Run (F.granarylaw15_made (.int .i64 a) (.agg #[.int .i64 r, .int .i64 l, .int .i64 p])) w fun v w' =>
    Fr (fun _ => False) w w' ∧ ∃ nv pvs, v = (madeC (1 + a % 16).toNat (1 + r % 1024) (1 + l % 64) (1 + p % 65536)).val nv ∧ Nodes w' nv (madeN (1 + a % 16).toNat) pvs ∧ New w w' nv ∧ ∀ p ∈ pvs, New w w' p := by
  unfold F.granarylaw15_made
  have b1 := Int.emod_nonneg r (b := 1024) (by decide)
  have b2 := Int.emod_lt_of_pos r (b := 1024) (by decide)
  have b3 := Int.emod_nonneg l (b := 64) (by decide)
  have b4 := Int.emod_lt_of_pos l (b := 64) (by decide)
  have b5 := Int.emod_nonneg p (b := 65536) (by decide)
  have b6 := Int.emod_lt_of_pos p (b := 65536) (by decide)
  have v1 : IntKind.i64.wrap (1 + r % 1024) = 1 + r % 1024 := wrap_small (by omega) (by omega)
  have v2 : IntKind.i64.wrap (1 + l % 64) = 1 + l % 64 := wrap_small (by omega) (by omega)
  have v3 : IntKind.i64.wrap (1 + p % 65536) = 1 + p % 65536 := wrap_small (by omega) (by omega)
  simp
  refine Run_new fun b w1 hb hbw f1 hle => ?_
  refine Run_new fun d w2 hd hdw f2 hle2 => ?_
  simp at hb hd
  simp [buildV, fillV_cell]
  refine (Made_run a).mono ?_
  rintro _ w5 ⟨f3, nv, pvs, rfl, hN, hn, hp⟩
  have hnv := hN.sl.isCell
  refine Run_newSt rfl rfl (Clu.all_cell _ hnv) fun e w4 he hew f4 hle4 => ?_
  have he4 : bk w4 e = some ((madeC (1 + a % 16).toNat 1 1 1).cells nv) := he
  have f24 : Fr (fun _ => False) w2 w4 := f3.trans f4 fun _ _ => id
  have hb4 : bk w4 b = some _ := f24.bk_some (f2.bk_some hb id) id
  have hd4 : bk w4 d = some _ := f24.bk_some hd id
  have hdw4 : wr w4 d = true := by rw [f24.wr (bk_lt hd) id]; exact hdw
  have lb := bk_lt hb
  have ld := bk_lt hd
  have l2 := f2.size
  have l3 := f3.size
  have hbe : b ≠ e := by omega
  have hde : d ≠ e := by omega
  have hbd : b ≠ d := by omega
  have hlen : ((madeC (1 + a % 16).toNat 1 1 1).cells nv).length = 23 := rfl
  have e0 : (((((madeC (1 + a % 16).toNat 1 1 1).cells nv).set 15 (Value.int .i64 (1 + r % 1024))).set 16 (Value.int .i64 (1 + l % 64))).set 17 (Value.int .i64 (1 + p % 65536))) = (madeC (1 + a % 16).toNat (1 + r % 1024) (1 + l % 64) (1 + p % 65536)).cells nv := rfl
  have ht : List.take 23 ((madeC (1 + a % 16).toNat (1 + r % 1024) (1 + l % 64) (1 + p % 65536)).cells nv) = (madeC (1 + a % 16).toNat (1 + r % 1024) (1 + l % 64) (1 + p % 65536)).cells nv := rfl
  have hlen' : ((madeC (1 + a % 16).toNat (1 + r % 1024) (1 + l % 64) (1 + p % 65536)).cells nv).length = 23 := rfl
  simp [hb4, he4, hew, hlen, bk_sto, hbe, Ne.symm hbe, hde, Ne.symm hde, mod15_run, v1, v2, v3, e0, ht, hd4, hdw4]
  have hc := Clu.all_cell (madeC (1 + a % 16).toNat (1 + r % 1024) (1 + l % 64) (1 + p % 65536)) hnv
  simp only [List.all_eq_true] at hc
  have hN' : (madeC (1 + a % 16).toNat (1 + r % 1024) (1 + l % 64) (1 + p % 65536)).nodes = madeN (1 + a % 16).toNat := rfl
  generalize madeC (1 + a % 16).toNat (1 + r % 1024) (1 + l % 64) (1 + p % 65536) = C' at *
  have esl : ∀ l : List Value, l.length = 23 → setL l 0 (C'.cells nv) = C'.cells nv := fun l hl => by
    rw [setL_eq _ _ _ (by omega)]
    simp
    omega
  refine ⟨_, ⟨by omega, rfl⟩, ?_⟩
  simp only [cells_agg]
  rw [esl _ rfl]
  refine ⟨by simpa using hlen', fun i hi => hc _ (by simp), _, ⟨by omega, rfl⟩, ?_, nv, by rw [ht]; rfl, pvs, ?_, fun z hz => ?_, fun q hq z hz => ?_⟩
  · exact (((((f1.trans f2 fun _ _ => id).trans f24 fun _ _ => id).sto (.inr (by have := f1.size; omega)) _ _).sto (.inr (by have := f1.size; omega)) _ _).sto (.inr (by have := f1.size; omega)) _ _).sto (.inr (by have := f1.size; omega)) _ _
  · refine (hN.fr0 f4).fr (F := fun z => z = e ∨ z = d) ((((Fr.refl (fun z => z = e ∨ z = d) w4).sto (.inl (.inl rfl)) _ _).sto (.inl (.inl rfl)) _ _).sto (.inl (.inl rfl)) _ _ |>.sto (.inl (.inr rfl)) _ _) (fun z hz he => ?_) (fun q hq z hz he => ?_)
    · have := hn z hz; omega
    · have := hp q hq z hz; omega
  · have := hn z hz; have := f4.size; have := f1.size
    simp; omega
  · have := hp q hq z hz; have := f4.size; have := f1.size
    simp; omega
end
end Go.Proofs.YtpiceodfdjihhaaGreatDoor
