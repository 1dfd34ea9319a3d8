/-
  Layer 21 (export), part F: New.
-/
import Derived.Test.YtiggkhmopnhfaaaDoorExportE
import Derived.Test.YtiggkhmopnhfaaaDoorRingP
namespace Go.Proofs.YtiggkhmopnhfaaaDoor
open Go.Lift
set_option linter.unusedSimpArgs false

/-- Is node n at home? -/
def atHome (C : Clu) (n : Int) : Bool := decide ((C.nodes[n.toNat]?.map (·.1)).getD 0 = C.home)
/-- A partition's owners, those at home first. -/
noncomputable def rowF (C : Clu) (p : Nat) : List Int := (ownersF C p).1.filter (atHome C) ++ (ownersF C p).1.filter (fun n => !atHome C n)
noncomputable def rowsF (C : Clu) : List (List Int) := (List.range C.count).map (rowF C)
noncomputable def XS.new (C : Clu) : XS :=
  { rows := rowsF C, wait := C.getwait, now := 0, job := 0, version := 0, busy := false, part := 0, left := [], pairs := [], due := 0, all := [], missing := [], ended := false, lj := 0, lv := 0, lp := [], lm := [] }

theorem ownersF_ok {C : Clu} {p : Nat} (h : checkF C = 0) (hp : p < C.count) : (ownersF C p).2 = 0 ∧ (ownersF C p).1.length ≤ 64 ∧ ∀ n ∈ (ownersF C p).1, ∃ m : Nat, n = m ∧ m < C.nodes.length := by
  unfold ownersF
  rw [if_neg (not_not_intro h), if_neg (by omega)]
  refine ⟨rfl, ?_⟩
  cases hh : homesF C with
  | none => simp
  | some home =>
    obtain ⟨hl, hc1, hc2⟩ := homesF_len hh
    simp only [Option.elim_some, ownersL, Int.toNat_natCast]
    refine ⟨?_, ?_⟩
    · rw [List.length_map]
      have := roundN_len home p C.replicas home.length
      unfold roundF
      omega
    · intro n hn
      obtain ⟨t, ht, rfl⟩ := List.mem_map.1 hn
      have htl := roundN_lt (home := home) (by omega) p C.replicas home.length t ht
      obtain ⟨m, hm, x, hx, _⟩ := homesF_home hh htl
      refine ⟨m, ?_, (List.getElem?_eq_some_iff.1 hx).1⟩
      simp [List.getD, hm]

theorem new_run {w : World} {C : Clu} {nv : Value} {pvs : List Value} (hN : Nodes w nv C.nodes pvs) (hF : Fits C) :
    Run (F.export_New (C.val nv)) w fun r w' => Fr (fun _ => False) w w' ∧
      (checkF C ≠ 0 → r = .tuple #[.pointer none, .int .i64 (checkF C)]) ∧
      (checkF C = 0 → ∃ b v tag, r = .tuple #[.pointer (some ⟨b, 0, none⟩), .int .i64 0] ∧ Exp w' b (XS.new C) v tag ∧ ∀ c, tag c ≠ 0 → w.heap.size ≤ c) := by
  unfold F.export_New
  simp [Clu.val]
  refine Run_new fun b w0 hb hwr fr0 hble => ?_
  have hb0 : bk w0 b = some (C.cells nv) := by simpa using hb
  have hld : ∀ w', bk w' b = some (C.cells nv) → ldA 23 (.pointer (some ⟨b, 0, none⟩)) w' = some (C.val nv) := by
    intro w' h
    rw [ldA_bk h (by simp [Clu.cells])]; rfl
  simp [hld w0 hb0]
  refine (check_run (hN.fr0 fr0) hF).mono ?_
  rintro _ w1 ⟨fr1, rfl⟩
  have fr01 : Fr (fun _ => False) w w1 := fr0.trans fr1 fun _ _ => id
  have hb1 : bk w1 b = some (C.cells nv) := fr1.bk_some hb0 id
  simp
  by_cases hc : checkF C = 0
  case neg =>
    simp [hc]
    exact fr01
  simp [hc, hb1, Clu.cells, buildV, fillV_cell]
  refine Run_new fun x w2 hx hxw fr2 hxle => ?_
  have hb2 : bk w2 b = some (C.cells nv) := fr2.bk_some hb1 id
  simp [hb2, Clu.cells, hN.lenL]
  have fr02 : Fr (fun _ => False) w w2 := fr01.trans fr2 fun _ _ => id
  have hl := hF.count
  have hp := hF.parts
  refine Run_for C.nodes.length (fun i l w'' => l = [.int .i64 (((C.nodes.take i).map (·.2.length)).sum : Nat), .int .i64 i] ∧ Fr (fun _ => False) w2 w'') ?_ ?_ ?_
  · exact ⟨by simp, Fr.refl _ _⟩
  · rintro i l w'' hi ⟨rfl, fr⟩
    have hN' := (hN.fr0 fr02).fr0 fr
    have hg : C.nodes[i]? = some C.nodes[i] := List.getElem?_eq_getElem hi
    generalize C.nodes[i] = n at hg
    obtain ⟨p, _, he, hpv⟩ := hN'.get hg
    obtain ⟨q, q1, q2⟩ := hN'.sl.rdA (by decide) he .i64
    have hs : ((C.nodes.take (i + 1)).map (·.2.length)).sum = ((C.nodes.take i).map (·.2.length)).sum + n.2.length := by
      rw [List.take_add_one, hg]; simp
    have hb : ((C.nodes.take (i + 1)).map (·.2.length)).sum ≤ (C.nodes.map (·.2.length)).sum := by rw [List.map_take]; exact sum_take_le _ _
    have w1 := wrap_add (n := ((C.nodes.take i).map (·.2.length)).sum) (m := n.2.length) (by omega)
    have w2 := wrap_succ (n := i) (by omega)
    have hpl := hpv.lenL
    rw [hs]
    generalize ((C.nodes.take i).map (·.2.length)).sum = m at w1 hs
    simp at hpl
    simp [hi, q1, q2, w1, w2]
    refine Run_newSt rfl rfl (by simp [hpv.isCell]) fun b w3 hb _ fr3 _ => ?_
    simp [hb, hpl, w1]
    exact fr.trans fr3 fun _ _ => id
  · rintro l w3 ⟨rfl, fr3⟩
    have fr03 : Fr (fun _ => False) w w3 := fr02.trans fr3 fun _ _ => id
    have hb3 : bk w3 b = some (C.cells nv) := fr3.bk_some hb2 id
    have hx3 : bk w3 x = _ := fr3.bk_some (l := _) hx id
    have hxw3 : wr w3 x = true := by rw [fr3.wr (bk_lt hx) id]; exact hxw
    simp
    change Run _ w3 _
    generalize hcnt : (C.nodes.map (·.2.length)).sum = count at hp
    have hcnt' : C.count = count := hcnt
    have hpc := hN.fr0 fr03
    have hbx : b < w3.heap.size := bk_lt hb3
    have hxx : x < w3.heap.size := bk_lt hx3
    have hbx' : b ≠ x := by have := bk_lt hb1; omega
    refine Run_for count (fun p l w'' => l = [.int .i64 p] ∧ Fr (fun _ => False) w w'' ∧ w3.heap.size ≤ w''.heap.size ∧ bk w'' b = some (C.cells nv) ∧ wr w'' x = true ∧
        ∃ rowsV rvs, bk w'' x = some ((XS.new C).cells ⟨rowsV, .slice none 0 0, .slice none 0 0, .slice none 0 0, .slice none 0 0, .slice none 0 0, .slice none 0 0⟩) ∧
          rvs.length = p ∧ SlW 1 w'' rowsV (rvs.map fun r => [r]) ∧ (∀ c, inB rowsV c → w3.heap.size ≤ c ∧ c < w''.heap.size) ∧
          ∀ i r, rvs[i]? = some r → Ints w'' r (rowF C i) ∧ ∀ c, inB r c → w3.heap.size ≤ c ∧ c < w''.heap.size ∧ ¬ inB rowsV c)
      ⟨rfl, fr03, Nat.le_refl _, hb3, hxw3, .slice none 0 0, [], hx3, rfl, SlW.nil _ _, fun c hc => hc.elim, fun i r hr => by simp at hr⟩ ?_ ?_
    · rintro p l w4 hi ⟨rfl, fr4, hsz4, hb4, hxw4, rowsV, rvs, hx4, hrl, hrs, hrb, hrr⟩
      obtain ⟨ho1, ho2, ho3⟩ := ownersF_ok hc (p := p) (by omega)
      have wsp := wrap_succ (n := p) (by omega)
      simp [hi, hld w4 hb4]
      refine (owners_run (hN.fr0 fr4) hF).mono ?_
      rintro _ w5 ⟨fr5, ov, rfl, hos, hon⟩
      have hol := hos.1.lenL
      simp at hol
      rw [ho1]
      simp [hol]
      have fr05 : Fr (fun _ => False) w w5 := fr4.trans fr5 fun _ _ => id
      have hb5 : bk w5 b = some (C.cells nv) := fr5.bk_some hb4 id
      have hov : rowF C p = (ownersF C p).1.filter (atHome C) ++ (ownersF C p).1.filter (fun n => !atHome C n) := rfl
      generalize (ownersF C p).1 = owners at *
      refine Run_for owners.length (fun i l w'' => ∃ near far, l = [near, far, .int .i64 i] ∧ Fr (fun _ => False) w5 w'' ∧
          SlW 1 w'' near (elI ((owners.take i).filter (atHome C))) ∧ SlW 1 w'' far (elI ((owners.take i).filter fun n => !atHome C n)) ∧
          (∀ c, inB near c → w5.heap.size ≤ c ∧ c < w''.heap.size) ∧ (∀ c, inB far c → w5.heap.size ≤ c ∧ c < w''.heap.size ∧ ¬ inB near c)) ?_ ?_ ?_
      · exact ⟨_, _, rfl, Fr.refl _ _, SlW.nil _ _, SlW.nil _ _, fun c hc => hc.elim, fun c hc => hc.elim⟩
      · rintro i l w6 hi6 ⟨near, far, rfl, fr6, hns, hfs, hnb, hfb⟩
        have eo : owners[i]? = some owners[i] := List.getElem?_eq_getElem hi6
        generalize owners[i] = n at eo
        obtain ⟨m, rfl, hm⟩ := ho3 n (List.mem_of_getElem? eo)
        obtain ⟨q, q1, q2⟩ := (hos.1.fr0 fr6).rd1 (elI_some eo) .i64
        have fr06 : Fr (fun _ => False) w w6 := fr05.trans fr6 fun _ _ => id
        have hb6 : bk w6 b = some (C.cells nv) := fr6.bk_some hb5 id
        have hN6 := hN.fr0 fr06
        have eg : C.nodes[m]? = some C.nodes[m] := List.getElem?_eq_getElem hm
        have hat : atHome C m = decide (C.nodes[m].1 = C.home) := by simp [atHome, eg]
        generalize C.nodes[m] = nd at eg hat
        obtain ⟨pv, _, he, hpv⟩ := hN6.get eg
        obtain ⟨u, u1, u2⟩ := hN6.sl.rdF he .i64
        obtain ⟨z, z1, z2⟩ := u2 0 (by decide)
        have z2' : ld1 z w6 = some (.int .i64 nd.1) := z2
        have wi := wrap_succ (n := i) (by omega)
        have hlen : (owners.take i).length ≤ 64 := by rw [List.length_take]; omega
        have hfl1 := List.length_filter_le (atHome C) (owners.take i)
        have hfl2 := List.length_filter_le (fun n => !atHome C n) (owners.take i)
        have htk : owners.take (i + 1) = owners.take i ++ [(m : Int)] := by rw [List.take_add_one, eo]; rfl
        have dr6 : Fr (fun _ => False) w6 w6.drew := (Fr.refl _ _).drew
        have hds : w6.drew.heap.size = w6.heap.size := rfl
        simp [hi6, q1, q2, hb6, Clu.cells, u1, z1, z2']
        refine Run_cond (fun hz => ?_) (fun hz => ?_)
        · have hz' : atHome C m = true := by rw [hat]; exact hz
          simp
          refine Run_app1 (k := 1) rfl (hns.fr dr6 fun _ _ => id) (by decide) rfl (by decide) rfl (by simp; omega) fun r w7 hr fr7 hin _ _ => ?_
          change SlW 1 w7 r (elI _ ++ [[Value.int .i64 m]]) at hr
          rw [elI_app] at hr
          have f7s := fr7.size
          simp [wi]
          refine ⟨r, far, ⟨rfl, rfl⟩, (fr6.drew.new fr7 fun c hc => (hnb c hc).1), ?_, ?_, ?_, ?_⟩
          · rw [htk]; simp [List.filter_append, List.filter_cons, hz']; exact hr
          · rw [htk]; simp [List.filter_append, List.filter_cons, hz']; exact (hfs.fr dr6 fun _ _ => id).fr fr7 fun c hc h => (hfb c hc).2.2 h
          · intro c hc
            have := fr6.size
            rcases hin c hc with h | h
            · have := hnb c h; omega
            · omega
          · intro c hc
            have h1 := hfb c hc
            refine ⟨h1.1, by omega, fun h => ?_⟩
            rcases hin c h with h | h
            · exact h1.2.2 h
            · omega
        · have hz' : atHome C m = false := by rw [hat]; exact hz
          simp
          refine Run_app1 (k := 1) rfl (hfs.fr dr6 fun _ _ => id) (by decide) rfl (by decide) rfl (by simp; omega) fun r w7 hr fr7 hin _ _ => ?_
          change SlW 1 w7 r (elI _ ++ [[Value.int .i64 m]]) at hr
          rw [elI_app] at hr
          have f7s := fr7.size
          simp [wi]
          refine ⟨near, r, ⟨rfl, rfl⟩, (fr6.drew.new fr7 fun c hc => (hfb c hc).1), ?_, ?_, ?_, ?_⟩
          · rw [htk]; simp [List.filter_append, List.filter_cons, hz']; exact (hns.fr dr6 fun _ _ => id).fr fr7 fun c hc h => (hfb c h).2.2 hc
          · rw [htk]; simp [List.filter_append, List.filter_cons, hz']; exact hr
          · intro c hc
            have := hnb c hc
            omega
          · intro c hc
            have := fr6.size
            rcases hin c hc with h | h
            · have := hfb c h; exact ⟨this.1, by omega, this.2.2⟩
            · refine ⟨by omega, by omega, fun h' => ?_⟩
              have := hnb c h'
              omega
      · rintro l w6 ⟨near, far, rfl, fr6, hns, hfs, hnb, hfb⟩
        simp only [List.take_length] at hns hfs
        have fr46 : Fr (fun _ => False) w4 w6 := fr5.trans fr6 fun _ _ => id
        have hx6 : bk w6 x = _ := fr46.bk_some (l := _) hx4 id
        have hxw6 : wr w6 x = true := by rw [fr46.wr (bk_lt hx4) id]; exact hxw4
        have dr6 : Fr (fun _ => False) w6 w6.drew := (Fr.refl _ _).drew
        have hds : w6.drew.heap.size = w6.heap.size := rfl
        have hfl1 := List.length_filter_le (atHome C) owners
        have hfl2 := List.length_filter_le (fun n => !atHome C n) owners
        simp [hx6, XS.cells, XS.new]
        have f4s := fr4.size
        have f5s := fr5.size
        have f6s := fr6.size
        have hxn : ¬ inB near x := fun h => by have := (hnb x h).1; omega
        refine Run_appM (hns.fr dr6 fun _ _ => id) (hfs.1.fr dr6 fun _ _ => id) (by decide) rfl (by decide) (fun e he => ?_) (by simp; omega) fun row w7 hrow fr7 hin7 => ?_
        · obtain ⟨n, _, rfl⟩ := List.mem_map.1 he
          simp
        have hrow' : Ints w7 row (rowF C p) := by
          have e : elI (rowF C p) = elI (owners.filter (atHome C)) ++ elI (owners.filter fun n => !atHome C n) := by rw [hov]; simp [elI]
          unfold Ints
          rw [e]; exact hrow.1
        have f7s := fr7.size
        have hx7 : bk w7 x = _ := fr7.bk_some (l := _) hx6 hxn
        have hxw7 : wr w7 x = true := by rw [fr7.wr (show x < w6.drew.heap.size by omega) hxn]; exact hxw6
        have hrn : ∀ c, inB rowsV c → ¬ inB near c := fun c h h' => by have := (hrb c h).2; have := (hnb c h').1; omega
        have hrs7 : SlW 1 w7 rowsV (rvs.map fun r => [r]) := ((hrs.fr fr46 fun _ _ => id).fr dr6 fun _ _ => id).fr fr7 hrn
        have hrowc := hrow'.isCell
        have hrowb : ∀ c, inB row c → w5.heap.size ≤ c ∧ c < w7.heap.size := by
          intro c hc
          rcases hin7 c hc with h | h
          · have := hnb c h; omega
          · omega
        refine Run_app1 (k := 1) (by rw [cells_isCell hrowc]; rfl) hrs7 (by decide) rfl (by decide) (by rw [cells_isCell hrowc]; simp [hrowc]) (by simp; omega) fun rowsV' w8 hrs8 fr8 hin8 w18 fr18 => ?_
        rw [cells_isCell hrowc] at hrs8
        have hxr : ¬ inB rowsV x := fun h => by have := (hrb x h).1; omega
        have hx8 : bk w8 x = _ := fr8.bk_some (l := _) hx7 hxr
        have hx18 : bk w18 x = _ := fr18.bk_some (l := _) hx7 id
        have hxw8 : wr w8 x = true := by rw [fr8.wr (bk_lt hx7) hxr]; exact hxw7
        have hrc8 := hrs8.1.isCell
        have f8s := fr8.size
        have hb8 : bk w8 b = some (C.cells nv) := by
          have h1 : bk w6 b = some (C.cells nv) := fr46.bk_some hb4 id
          have h2 : bk w7 b = some (C.cells nv) := fr7.bk_some (w := w6.drew) h1 fun h => by have := (hnb b h).1; omega
          exact fr8.bk_some h2 fun h => by have := (hrb b h).1; omega
        simp [hx7, hx8, hx18, hxw8, XS.cells, XS.new, cells_isCell hrc8, hrc8, wsp]
        have fx : Fr (fun c => c = x) w8 (sto w8 x 0 [rowsV']) := (Fr.refl (fun c => c = x) w8).sto (.inl rfl) _ _
        have hxge : w.heap.size ≤ x := Nat.le_trans fr01.size hxle
        have fr6' : Fr (fun _ => False) w w6 := fr4.trans fr46 fun _ _ => id
        have fr07 : Fr (fun _ => False) w w7 := fr6'.drew.new fr7 fun c hc => by have := (hnb c hc).1; have := fr4.size; omega
        have fr08 : Fr (fun _ => False) w w8 := fr07.new fr8 fun c hc => by have := (hrb c hc).1; have := fr03.size; omega
        have hnx : ∀ c, inB rowsV' c → c ≠ x := by
          intro c hc he
          subst he
          rcases hin8 c hc with h | h
          · exact hxr h
          · omega
        refine ⟨fr08.new fx fun c hc => by omega, by omega, ?_, rvs ++ [row], by simp [hrl], ?_, ?_, ?_⟩
        · rw [bk_sto_ne hbx']; exact hb8
        · rw [List.map_append]
          exact SlW.fr hrs8 fx fun c hc he => hnx c hc he
        · intro c hc
          rcases hin8 c hc with h | h
          · have := hrb c h; omega
          · omega
        · intro i r hir
          have hnr : ∀ c, inB r c → (w3.heap.size ≤ c ∧ c < w7.heap.size ∧ ¬ inB rowsV c) → (w3.heap.size ≤ c ∧ c < w8.heap.size ∧ ¬ inB rowsV' c) := by
            intro c _ h
            refine ⟨h.1, by omega, fun h' => ?_⟩
            rcases hin8 c h' with h' | h'
            · exact h.2.2 h'
            · omega
          by_cases hip : i < p
          · rw [List.getElem?_append_left (by omega)] at hir
            obtain ⟨h1, h2⟩ := hrr i r hir
            have h3 : Ints w7 r (rowF C i) := ((h1.fr fr46 fun _ _ => id).fr dr6 fun _ _ => id).fr fr7 fun c hc h => by have := (h2 c hc).2.1; have := (hnb c h).1; omega
            refine ⟨(h3.fr fr8 fun c hc h => (h2 c hc).2.2 h).fr fx fun c hc he => ?_, fun c hc => hnr c hc ?_⟩
            · subst he; have := (h2 c hc).1; omega
            · have := h2 c hc
              exact ⟨this.1, by omega, this.2.2⟩
          · have hil := (List.getElem?_eq_some_iff.1 hir).1
            simp at hil
            obtain rfl : i = p := by omega
            rw [List.getElem?_append_right (by omega), hrl] at hir
            simp at hir
            subst hir
            have hd : ∀ c, inB row c → w3.heap.size ≤ c ∧ c < w7.heap.size ∧ ¬ inB rowsV c := by
              intro c hc
              have := hrowb c hc
              exact ⟨by omega, this.2, fun h => by have := (hrb c h).2; omega⟩
            refine ⟨(hrow'.fr fr8 fun c hc h => (hd c hc).2.2 h).fr fx fun c hc he => ?_, fun c hc => hnr c hc (hd c hc)⟩
            subst he; have := (hd c hc).1; omega
    · rintro l w4 ⟨rfl, fr4, hsz4, hb4, hxw4, rowsV, rvs, hx4, hrl, hrs, hrb, hrr⟩
      have hxge : w.heap.size ≤ x := Nat.le_trans fr01.size hxle
      have hx4l := bk_lt hx4
      have f3s := fr03.size
      simp
      refine ⟨fr4, ⟨rowsV, .slice none 0 0, .slice none 0 0, .slice none 0 0, .slice none 0 0, .slice none 0 0, .slice none 0 0⟩,
        fun c => if c = x then 1 else if w3.heap.size ≤ c ∧ c < w4.heap.size then 5 else 0, ⟨⟨hx4, hxw4, by simp, ?_, ⟨rvs, ?_, hrs.1, ?_⟩, ?_, ⟨Sl.nil _ _, fun c hc => hc.elim⟩, ⟨Sl.nil _ _, fun c hc => hc.elim⟩⟩, fun h => by cases h⟩, ?_⟩
      · intro c hc
        by_cases h : c = x
        · omega
        · simp only [h, if_false] at hc
          split at hc
          · omega
          · exact absurd rfl hc
      · simp [XS.new, rowsF, hrl, hcnt']
      · intro i r row hr hrow
        obtain ⟨h1, h2⟩ := hrr i r hr
        have hi : i < count := by have := (List.getElem?_eq_some_iff.1 hr).1; omega
        simp [XS.new, rowsF, hcnt', hi] at hrow
        subst hrow
        refine ⟨h1, fun c hc => ?_⟩
        have := h2 c hc
        have hcx : c ≠ x := by omega
        simp [hcx, this.1, this.2.1]
      · intro c hc
        have := hrb c hc
        have hcx : c ≠ x := by omega
        simp [hcx, this.1, this.2]
      · intro c hc
        by_cases h : c = x
        · omega
        · simp only [h, if_false] at hc
          by_cases h2 : w3.heap.size ≤ c ∧ c < w4.heap.size
          · omega
          · exfalso
            apply hc
            rw [if_neg h2]

end Go.Proofs.YtiggkhmopnhfaaaDoor
