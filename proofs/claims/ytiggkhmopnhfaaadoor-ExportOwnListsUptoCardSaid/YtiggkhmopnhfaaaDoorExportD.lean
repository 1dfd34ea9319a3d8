/-
  Layer 21 (export), part D: Take.
-/
import Derived.Test.YtiggkhmopnhfaaaDoorExportC
namespace Go.Proofs.YtiggkhmopnhfaaaDoor
open Go.Lift
set_option linter.unusedSimpArgs false

theorem tell_run {w : World} {b : Nat} {x : XS} {v : XV} {tag : Nat → Nat} (h : Exp w b x v tag) (hok : XOk x) {m : Ms} (hm : m.fine) :
    Run (F.export_Export_Take (.pointer (some ⟨b, 0, none⟩)) m.val) w fun r w' => ∃ ov, r = .tuple #[ov, .int .i64 0] ∧ Did w w' b tag (x.tellS m).1 ov ∧ SlW 11 w' ov (x.tellS m).2 ∧ New w w' ov := by
  unfold F.export_Export_Take
  simp [Ms.val]
  refine Run_new fun c w1 hc hcw f1 hcle => ?_
  have hc1 : bk w1 c = some m.cells := by simpa using hc
  have f1d : Fr (fun _ => False) w w1.drew := f1.drew
  have h1 : Exp w1.drew b x v tag := ⟨h.x0.fr f1d fun _ h => h.elim, fun hb => ⟨(h.busy hb).1.fr f1d fun _ h => h.elim, (h.busy hb).2.fr f1d fun _ h => h.elim⟩⟩
  have hb1 : bk w1 b = some (x.cells v) := h1.x0.blk
  have hw1 : wr w1 b = true := h1.x0.wr
  have hsz : w1.drew.heap.size = w1.heap.size := rfl
  have noneC : ∀ w', Fr (fun _ => False) w w' → x.tellS m = (x, []) → Did w w' b tag (x.tellS m).1 (.slice none 0 0) ∧ SlW 11 w' (.slice none 0 0) (x.tellS m).2 ∧ New w w' (.slice none 0 0) := by
    intro w' f e
    rw [e]
    exact ⟨Did.same h f, SlW.nil _ _, fun c hc => hc.elim⟩
  simp [hb1, XS.cells]
  cases hbu : x.busy with
  | false =>
    have : x.tellS m = (x, []) := by unfold XS.tellS; rw [if_pos (by simp [hbu])]
    simp
    exact noneC _ f1d this
  | true =>
    simp [hc1, Ms.cells]
    by_cases hk : m.kind = 16
    case neg =>
      have : x.tellS m = (x, []) := by unfold XS.tellS; rw [if_pos (fun hh => hk hh.2.1)]
      simp [hk]
      exact noneC _ f1d this
    obtain ⟨o1, o2, o3, o4, o5, o6⟩ := hok.busy hbu
    obtain ⟨ha1, hp1⟩ := h1.busy hbu
    obtain ⟨to, rest, hl⟩ : ∃ to rest, x.left = to :: rest := by
      cases hx : x.left with
      | nil => exact absurd hx o3
      | cons to rest => exact ⟨to, rest, rfl⟩
    have hleft := hp1.left
    rw [hl] at hleft
    have hpl := hp1.pairs.1.lenL
    simp at hpl
    simp [hk]
    refine (want_run h1.x0.blk hleft hpl).mono ?_
    rintro _ w2 ⟨rfl, f2⟩
    have f02 : Fr (fun _ => False) w w2 := f1d.trans f2 fun _ _ => id
    have hc2 : bk w2 c = some m.cells := f2.bk_some hc1 id
    have h2 : Exp w2 b x v tag := ⟨h.x0.fr f02 fun _ h => h.elim, fun hb => ⟨(h.busy hb).1.fr f02 fun _ h => h.elim, (h.busy hb).2.fr f02 fun _ h => h.elim⟩⟩
    have hb2 := h2.x0.blk
    have hw2 := h2.x0.wr
    simp [hc2, Ms.cells, buildV, fillV_cell, hc1]
    refine Run_cond (fun hf => ?_) (fun hf => ?_)
    case refine_1 =>
      have : x.tellS m = (x, []) := by
        unfold XS.tellS
        rw [if_pos]
        rintro ⟨_, _, hh1, hh2, hh3, hh4, hh5⟩
        rw [hl] at hh1
        simp only [List.head?_cons, Option.some.injEq] at hh1
        simp [hh1, hh2, hh3, hh4, hh5] at hf
      simp
      exact noneC _ f02 this
    have hf' : to = m.sender ∧ x.job = m.id ∧ x.part = m.seq ∧ x.version = m.version ∧ (x.pairs.length : Int) = m.prev := by simpa using hf
    have hfits : x.busy = true ∧ x.fits m := ⟨hbu, hk, by rw [hl]; simp [hf'.1], hf'.2.1.symm, hf'.2.2.1.symm, hf'.2.2.2.1.symm, hf'.2.2.2.2.symm⟩
    have htell : x.tellS m = x.tellS m := rfl
    conv at htell => rhs; unfold XS.tellS; rw [if_neg (not_not_intro hfits)]
    simp [hc2, Ms.cells]
    obtain ⟨ha2, hp2⟩ := h2.busy hbu
    have wp : IntKind.i64.wrap (x.part + 1) = x.part + 1 := wrap_small (by have := hok.rl; omega) (by have := hok.rl; omega)
    have hrl := hok.rl
    have t1 := h.x0.tb
    have hdw : Fr (fun _ => False) w2 w2.drew := (Fr.refl _ _).drew
    have hF0 : ∀ k c, tag c = k + 1 → tag c ≠ 0 := fun k c h => by omega
    have hbl : b < w2.heap.size := bk_lt hb2
    refine Run_cond (fun hcode => ?_) (fun hcode => ?_)
    · have hcode' : m.code = 16 := by simpa using hcode
      rw [if_pos hcode'] at htell
      rw [htell]
      simp [hb2, XS.cells]
      refine Run_appM (ha2.all.fr hdw fun _ _ => id) (hp2.pairs.1.fr hdw fun _ _ => id) (by decide) rfl (by decide) (fun e he => ?_) (by simp; omega) fun av w3 hs3 f3 hin => ?_
      · obtain ⟨p, hp, rfl⟩ := List.mem_map.1 he
        simp [hok.pc p hp]
      have hba : ¬ inB v.all b := fun hc => by have := ha2.tall b hc; rw [t1] at this; cases this
      have hb3 : bk w3 b = _ := f3.bk_some (l := _) hb2 hba
      have hw3 : wr w3 b = true := by rw [f3.wr hbl hba]; exact hw2
      have hac := hs3.1.isCell
      simp [hb3, hw3, XS.cells, cells_isCell hac, hac, wp]
      have hb4 : bk (sto w3 b 10 [av]) b = some (({ x with all := x.all ++ x.pairs } : XS).cells { v with all := av }) := by simp [hb3]; rfl
      have hw4 : wr (sto w3 b 10 [av]) b = true := by simp [hw3]
      have f4 : Fr (fun c => tag c = 1 ∨ tag c = 3) w (sto w3 b 10 [av]) :=
        ((f02.drew.mono fun _ h => h.elim).trans (f3.mono fun c hc => (Or.inr (ha2.tall c hc) : tag c = 1 ∨ tag c = 3)) fun _ _ h => h).sto (.inl (.inl t1)) _ _
      have hane : ∀ c, inB av c → c ≠ b := by
        intro c hc he
        subst he
        rcases hin c hc with h | h
        · exact hba h
        · have : w2.drew.heap.size = w2.heap.size := rfl
          omega
      have hs4 : SlW 2 (sto w3 b 10 [av]) av (elP (x.all ++ x.pairs)) := by
        have e : elP (x.all ++ x.pairs) = elP x.all ++ elP x.pairs := by simp [elP]
        rw [e]
        exact SlW.fr hs3 ((Fr.refl (fun c => c = b) w3).sto (.inl rfl) 10 [av]) fun c hc he => hane c hc he
      have hsz4 : w3.heap.size = (sto w3 b 10 [av]).heap.size := by simp
      have f3s := f3.size
      generalize sto w3 b 10 [av] = w4 at *
      have h04 := h.x0.set f4 (fun c hc h => by rw [h] at hc; rcases hc with hc | hc <;> cases hc) hb4 hw4 rfl rfl rfl rfl rfl rfl
      have hdr : w2.drew.heap.size = w2.heap.size := rfl
      have f02s := f02.size
      have ht : ∀ c, c < w.heap.size → nTag tag w2.heap.size w4.heap.size 3 c = tag c := fun c hc => nTag_old (by omega)
      have hbd : ∀ c, nTag tag w2.heap.size w4.heap.size 3 c ≠ 0 → c < w4.heap.size := by
        intro c hc
        rcases nTag_ne hc with h | h
        · omega
        · exact h.2
      have h05 := h04.tags h.x0.bound ht hbd
      have ha5 : XA w4 ({ x with all := x.all ++ x.pairs } : XS) { v with all := av } (nTag tag w2.heap.size w4.heap.size 3) := by
        refine ⟨hs4, ?_, (h.busy hbu).1.missing.fr f4 ?_, (h.busy hbu).1.tmissing.old (by decide) h.x0.bound ht⟩
        · intro c hc
          rcases hin c hc with h' | h'
          · have h1 := ha2.tall c h'
            rw [ht c (h.x0.bound c (by omega))]; exact h1
          · exact nTag_new (by omega) (by omega)
        · intro c hc h'
          rw [(h.busy hbu).1.tmissing c hc] at h'
          rcases h' with h' | h' <;> cases h'
      refine (take_run h05 ha5 hbu (by omega) (by show x.part + 1 ≤ x.rows.length; omega) hok.ne).mono ?_
      rintro r w5 ⟨v5, tag5, f5, he5, ht5, hs5, hn5⟩
      have h0w : ∀ c, tag c = 1 ∨ tag c = 3 → tag c ≠ 0 := fun c h => by omega
      refine ⟨⟨(f4.mono h0w).trans f5 fun c _ hc => ?_, v5, tag5, he5, fun c hc => ?_⟩, hs5, fun c hc => ⟨Nat.le_trans f4.size (hn5 c hc).1, (hn5 c hc).2⟩⟩
      · rw [hc, t1]; decide
      · refine ⟨?_, fun hi => by have := hbd c (ht5 c hc); have := (hn5 c hi).1; omega⟩
        rcases nTag_ne (ht5 c hc) with h | h
        · exact .inl h.2
        · exact .inr (by omega)
    have hcode' : ¬ m.code = 16 := by simpa using hcode
    rw [if_neg hcode'] at htell
    have leaves : (m.code ≠ 0 ∨ x.pairs.length = 512) → Run (F.export_Export_leave (.pointer (some ⟨b, 0, none⟩))) w2 fun a w' => Did w w' b tag (x.tellS m).1 a ∧ SlW 11 w' a (x.tellS m).2 ∧ New w w' a := by
      intro hh
      rw [if_pos hh] at htell
      rw [htell]
      refine (leave_run h2.x0 ha2 hp2 hbu hok).mono ?_
      rintro r w3 ⟨⟨f3, v3, tag3, he3, ht3⟩, hs3, hn3⟩
      refine ⟨⟨(f02.mono fun _ h => h.elim).trans f3 fun _ _ h => h, v3, tag3, he3, fun c hc => ?_⟩, hs3, fun c hc => ⟨Nat.le_trans f02.size (hn3 c hc).1, (hn3 c hc).2⟩⟩
      refine ⟨?_, (ht3 c hc).2⟩
      rcases (ht3 c hc).1 with h | h
      · exact .inl h
      · exact .inr (Nat.le_trans f02.size h)
    simp [hc2, Ms.cells]
    by_cases hcz : m.code = 0
    case neg =>
      simp [hcz]
      exact leaves (.inl hcz)
    simp [hcz, hb2, XS.cells, hpl]
    refine Run_cond (fun hlen => ?_) (fun hlen => ?_)
    · have hlen' : x.pairs.length = 512 := by
        have : (x.pairs.length : Int) = 512 := by simpa using hlen
        omega
      simp
      exact leaves (.inr hlen')
    have hlen' : ¬ x.pairs.length = 512 := by
      have : ¬ (x.pairs.length : Int) = 512 := by simpa using hlen
      omega
    rw [if_neg (by simp [hcz, hlen'])] at htell
    rw [htell]
    simp [hb2, hc2, Ms.cells, XS.cells, buildV, fillV_cell, hm.1, hm.2]
    refine Run_app1 (k := 2) rfl (hp2.pairs.fr hdw fun _ _ => id) (by decide) rfl (by decide) (by simp [hm.1, hm.2]) (by simp; omega) fun pv w3 hs3 f3 hin w13 f13 => ?_
    have hbp : ¬ inB v.pairs b := fun hc => by have := hp2.tpairs b hc; rw [t1] at this; cases this
    have hb3 : bk w3 b = _ := f3.bk_some (l := _) hb2 hbp
    have hw3 : wr w3 b = true := by rw [f3.wr hbl hbp]; exact hw2
    have hb13 : bk w13 b = _ := f13.bk_some (l := _) hb2 id
    have hpc := hs3.1.isCell
    simp [hb3, hw3, hb13, XS.cells, cells_isCell hpc, hpc]
    have hb4 : bk (sto w3 b 8 [pv]) b = some (({ x with pairs := x.pairs ++ [(m.key, m.value)] } : XS).cells { v with pairs := pv }) := by simp [hb3]; rfl
    have hw4 : wr (sto w3 b 8 [pv]) b = true := by simp [hw3]
    have f4 : Fr (fun c => tag c = 1 ∨ tag c = 2) w (sto w3 b 8 [pv]) :=
      ((f02.drew.mono fun _ h => h.elim).trans (f3.mono fun c hc => (Or.inr (hp2.tpairs c hc) : tag c = 1 ∨ tag c = 2)) fun _ _ h => h).sto (.inl (.inl t1)) _ _
    have hpne : ∀ c, inB pv c → c ≠ b := by
      intro c hc he
      subst he
      rcases hin c hc with h | h
      · exact hbp h
      · have : w2.drew.heap.size = w2.heap.size := rfl
        omega
    have hs4 : SlW 2 (sto w3 b 8 [pv]) pv (elP (x.pairs ++ [(m.key, m.value)])) := by
      have e : elP (x.pairs ++ [(m.key, m.value)]) = elP x.pairs ++ [[m.key, m.value]] := by simp [elP]
      rw [e]
      exact SlW.fr hs3 ((Fr.refl (fun c => c = b) w3).sto (.inl rfl) 8 [pv]) fun c hc he => hpne c hc he
    have hsz4 : w3.heap.size = (sto w3 b 8 [pv]).heap.size := by simp
    have f3s := f3.size
    generalize sto w3 b 8 [pv] = w4 at *
    have hleft4 : Ints w4 v.left (to :: rest) := by
      have := (h.busy hbu).2.left
      rw [hl] at this
      exact this.fr f4 fun c hc h' => by rw [(h.busy hbu).2.tleft c hc] at h'; rcases h' with h' | h' <;> cases h'
    have hpl4 := hs4.1.lenL
    simp only [elP_len] at hpl4
    refine (ask_run hb4 hw4 hleft4 (fun c hc he => by subst he; have := hp2.tleft c hc; rw [t1] at this; cases this) hpl4).mono ?_
    rintro r w5 ⟨f5, hb5, hw5, hs5, hn5⟩
    have hdr : w2.drew.heap.size = w2.heap.size := rfl
    have f02s := f02.size
    have f5s := f5.size
    have f6 : Fr (fun c => tag c = 1 ∨ tag c = 2) w w5 := f4.trans f5 fun c _ hc => by subst hc; exact .inl t1
    have h06 := h.x0.set f6 (fun c hc h => by rw [h] at hc; rcases hc with hc | hc <;> cases hc) hb5 hw5 rfl rfl rfl rfl rfl rfl
    have ht : ∀ c, c < w.heap.size → nTag tag w2.heap.size w4.heap.size 2 c = tag c := fun c hc => nTag_old (by omega)
    have hbd : ∀ c, nTag tag w2.heap.size w4.heap.size 2 c ≠ 0 → c < w5.heap.size := by
      intro c hc
      rcases nTag_ne hc with h | h
      · omega
      · omega
    have h07 := h06.tags h.x0.bound ht hbd
    have h0w : ∀ c, tag c = 1 ∨ tag c = 2 → tag c ≠ 0 := fun c h => by omega
    rw [← hf'.1]
    refine ⟨⟨f6.mono h0w, { v with pairs := pv }, nTag tag w2.heap.size w4.heap.size 2, ⟨h07, fun _ => ⟨⟨?_, ?_, ?_, ?_⟩, ⟨?_, ?_, ?_, ?_⟩⟩⟩, fun c hc => ?_⟩, hs5, fun c hc => ⟨Nat.le_trans f4.size (hn5 c hc).1, (hn5 c hc).2⟩⟩
    · exact (h.busy hbu).1.all.fr f6 fun c hc h' => by rw [(h.busy hbu).1.tall c hc] at h'; rcases h' with h' | h' <;> cases h'
    · exact (h.busy hbu).1.tall.old (by decide) h.x0.bound ht
    · exact (h.busy hbu).1.missing.fr f6 fun c hc h' => by rw [(h.busy hbu).1.tmissing c hc] at h'; rcases h' with h' | h' <;> cases h'
    · exact (h.busy hbu).1.tmissing.old (by decide) h.x0.bound ht
    · exact (h.busy hbu).2.left.fr f6 fun c hc h' => by rw [(h.busy hbu).2.tleft c hc] at h'; rcases h' with h' | h' <;> cases h'
    · exact (h.busy hbu).2.tleft.old (by decide) h.x0.bound ht
    · exact hs4.fr f5 fun c hc he => hpne c hc he
    · intro c hc
      rcases hin c hc with h' | h'
      · have h1 := hp2.tpairs c h'
        rw [ht c (h.x0.bound c (by omega))]; exact h1
      · exact nTag_new (by omega) (by omega)
    · refine ⟨?_, fun hi => by have := (hn5 c hi).1; rcases nTag_ne hc with h | h <;> omega⟩
      rcases nTag_ne hc with h | h
      · exact .inl h.2
      · exact .inr (by omega)

end Go.Proofs.YtiggkhmopnhfaaaDoor
