/- What the statement rests on: part 4. -/
import Derived.Test.YthlpfhjcdedhgaaGreatDoorSn2
import Derived.ChangeArms
import Derived.Test.YthlpfhjcdedhgaaGreatDoorRows
import Derived.WalkKit
import Derived.ProofKit
import Derived.LaidLaws
import Derived.Lib.LaidTab
namespace Go.Proofs.YthlpfhjcdedhgaaGreatDoor
open Go.Lift Go.Sort
set_option linter.unusedSimpArgs false
set_option linter.unusedVariables false
set_option maxHeartbeats 4000000
def rdD (l : List UInt8) (p : Nat) : List UInt8:=runD ((l.drop p).take 17)
theorem rdD_len (l : List UInt8) (p : Nat) : (rdD l p).length <= 17 /\ (rdD l p).length <= l.length - p:=by
 have h1:=runD_le ((l.drop p).take 17)
 rw [List.length_take, List.length_drop] at h1
 unfold rdD
 omega
theorem rdD_at (l : List UInt8) (p : Nat) {i : Nat} (h : i < (rdD l p).length) : ∃ c, l[p + i]? = some c /\ isD c = true /\ (rdD l p)[i]? = some c:=by
 obtain ⟨c, h1, h2⟩:=runD_at _ h
 have h3:=(rdD_len l p).1
 have h4 : (rdD l p)[i]? = some c:=by
  unfold rdD
  rw [<- runD_take]
  unfold rdD at h h3
  rw [List.getElem?_take_of_lt h, h1]
 rw [List.getElem?_take_of_lt (by omega), List.getElem?_drop] at h1
 exact ⟨c, h1, h2, h4⟩
theorem rdD_end (l : List UInt8) (p : Nat) (h17 : (rdD l p).length < 17) {c : UInt8} (h : l[p + (rdD l p).length]? = some c) : isD c = false:=by
 refine runD_end ((l.drop p).take 17) (c:=c) ?_
 unfold rdD at h17 h
 rw [List.getElem?_take_of_lt h17, List.getElem?_drop]
 exact h
section
variable {w w1 w2 : World}
def RS (w : World) (b : Nat) (l : List UInt8) (p : Nat) (bad : Bool) : Prop:=bk w b = some [.string (sb l), .int .i64 (p : Int), .bool bad] /\ wr w b = true
theorem RS.drew {b p : Nat} {l : List UInt8} {bad : Bool} (h : RS w b l p bad) : RS w.drew b l p bad:=h
theorem RS.at {b p : Nat} {l : List UInt8} {bad : Bool} (h : RS w b l p bad) (p' : Nat) : RS (sto w b 1 [.int .i64 (p' : Int)]) b l p' bad:=by
 refine ⟨?_, by rw [wr_sto]; exact h.2⟩
 rw [bk_sto_same h.1]
 rfl
theorem RS.bad {b p : Nat} {l : List UInt8} {bad : Bool} (h : RS w b l p bad) : RS (sto w b 2 [.bool true]) b l p true:=by
 refine ⟨?_, by rw [wr_sto]; exact h.2⟩
 rw [bk_sto_same h.1]
 rfl
theorem rnum_run {b p : Nat} {l : List UInt8} {bad : Bool} (h : RS w b l p bad) (hp : p <= l.length) (hl : l.length <= 4611686018427387904) :
  Run (F.granaryref4_Reader_number (.pointer (some ⟨b, 0, none⟩))) w λ r w' => r = .int .i64 (((numF (rdD l p)).getD 0 : Nat) : Int) /\ RS w' b l (p + (rdD l p).length) (bad || (numF (rdD l p)).isNone) /\ Fr (λ c => c = b) w w':=by
 unfold F.granaryref4_Reader_number
 obtain ⟨hb, hw⟩:=h
 have hd:=rdD_len l p
 simp [-ldA_ptr, hb]
 refine Run_for (rdD l p).length (λ i L w' => L = [.int .i64 ((valL ((rdD l p).take i) : Nat) : Int)] /\ RS w' b l (p + i) bad /\ Fr (λ c => c = b) w w') ⟨rfl, ⟨hb, hw⟩, Fr.refl _ _⟩ ?_ ?_
 ·rintro i L w1 hi ⟨rfl, ⟨hb1, hw1⟩, f1⟩
  obtain ⟨c, hc, hdg, hci⟩:=rdD_at l p hi
  have hpi : p + i < l.length:=by omega
  simp only [isD, decide_eq_true_eq] at hdg
  have h1 : ((p + i : Nat) : Int) < l.length:=by omega
  have w1' : IntKind.i64.wrap (((p + i : Nat) : Int) - p) = (i : Int):=by rw [show ((p + i : Nat) : Int) - p = (i : Int) by omega]; exact i64W (by omega)
  have h2 : (i : Int) < 17:=by omega
  have ix:=idxSb (kd:=.i64) hc
  have h3 : (48 : Int) <= c.toNat:=by omega
  have h4 : (c.toNat : Int) <= 57:=by omega
  have hlen : (sb l).size = l.length:=sb_size l
  have hv:=valL_snoc ((rdD l p).take i) c
  rw [<- take_snocP hci] at hv
  have hall : ((rdD l p).take i).all isD = true:=List.all_eq_true.2 λ x hx => List.all_eq_true.1 (runD_all _) x (List.mem_of_mem_take hx)
  have hlt:=valL_lt _ hall
  have h17 : 10 ^ ((rdD l p).take i).length <= 10 ^ 17:=Nat.pow_le_pow_right (by decide) (by rw [List.length_take]; omega)
  have e17 : (10 : Nat) ^ 17 = 100000000000000000:=by decide
  rw [e17] at h17
  have hct:=c.toNat_lt
  generalize valL ((rdD l p).take i) = V at *
  generalize valL ((rdD l p).take (i + 1)) = V' at *
  have wq:=wrap_succ' (n:=p + i) (by omega)
  rw [show p + (i + 1) = p + i + 1 by omega]
  generalize p + i = q at *
  have w2' : IntKind.i64.wrap (10 * (V : Int)) = ((10 * V : Nat) : Int):=by rw [show 10 * (V : Int) = ((10 * V : Nat) : Int) by omega]; exact i64W (by omega)
  have w3' : IntKind.u8.wrap ((c.toNat : Int) - 48) = ((c.toNat - 48 : Nat) : Int):=by rw [show (c.toNat : Int) - 48 = ((c.toNat - 48 : Nat) : Int) by omega]; exact u8W (by omega)
  have w4' : IntKind.i64.wrap ((c.toNat - 48 : Nat) : Int) = ((c.toNat - 48 : Nat) : Int):=i64W (by omega)
  have w5' : IntKind.i64.wrap (((10 * V : Nat) : Int) + ((c.toNat - 48 : Nat) : Int)) = (V' : Int):=by rw [show ((10 * V : Nat) : Int) + ((c.toNat - 48 : Nat) : Int) = (V' : Int) by omega]; exact i64W (by omega)
  simp [-ldA_ptr, -Int.natCast_mul, hb1, hlen, h1, w1', h2, ix, by8, h3, h4, w2', w3', w4', w5', wq, hw1]
  have hR : RS w1.drew.drew b l q bad:=⟨hb1, hw1⟩
  exact ⟨hR.at (q + 1), (f1.drew.drew).sto (.inl rfl) _ _⟩
 ·rintro L w1 ⟨rfl, ⟨hb1, hw1⟩, f1⟩
  have hlen : (sb l).size = l.length:=sb_size l
  have hJ : (rdD l p).length <= 17:=hd.1
  have hJ2 : p + (rdD l p).length <= l.length:=by omega
  have wJ : IntKind.i64.wrap (((p + (rdD l p).length : Nat) : Int) - p) = ((rdD l p).length : Int):=by rw [show ((p + (rdD l p).length : Nat) : Int) - p = ((rdD l p).length : Int) by omega]; exact i64W (by omega)
  have hR : RS w1.drew b l (p + (rdD l p).length) bad:=⟨hb1, hw1⟩
  have htk : (rdD l p).take (rdD l p).length = rdD l p:=List.take_length
  refine Run.mono (Q:=λ o w' => o = .exit 0 [.int .i64 ((valL (rdD l p) : Nat) : Int)] /\ RS w' b l (p + (rdD l p).length) bad /\ Fr (λ c => c = b) w w') ?_ ?_
  ·rw [htk]
   by_cases e1 : p + (rdD l p).length < l.length
   ·by_cases e2 : (rdD l p).length < 17
    ·obtain ⟨c, hc⟩ : ∃ c, l[p + (rdD l p).length]? = some c:=⟨_, List.getElem?_eq_getElem e1⟩
     have hng:=rdD_end l p e2 hc
     simp only [isD, decide_eq_false_iff_not] at hng
     have ix:=idxSb (kd:=.i64) hc
     have h1 : ((p + (rdD l p).length : Nat) : Int) < l.length:=by omega
     have h2 : ((rdD l p).length : Int) < 17:=by omega
     generalize p + (rdD l p).length = q at *
     by_cases e3 : 48 <= c.toNat
     ·have h3 : (48 : Int) <= c.toNat:=by omega
      have h4 : ¬ (c.toNat : Int) <= 57:=by omega
      simp [-ldA_ptr, hb1, hlen, h1, wJ, h2, ix, by8, h3, h4, hR, f1.drew]
     ·have h3 : ¬ (48 : Int) <= c.toNat:=by omega
      simp [-ldA_ptr, hb1, hlen, h1, wJ, h2, ix, by8, h3, hR, f1.drew]
    ·have h1 : ((p + (rdD l p).length : Nat) : Int) < l.length:=by omega
     have h2 : ¬ ((rdD l p).length : Int) < 17:=by omega
     generalize p + (rdD l p).length = q at *
     simp [-ldA_ptr, hb1, hlen, h1, wJ, h2, hR, f1.drew]
   ·have h1 : ¬ ((p + (rdD l p).length : Nat) : Int) < l.length:=by omega
    generalize p + (rdD l p).length = q at *
    simp [-ldA_ptr, hb1, hlen, h1, wJ, hR, f1.drew]
  ·rintro _ w2 ⟨rfl, hR2, f2⟩
   clear hR hw1 hb1 f1
   obtain ⟨hb2, hw2⟩:=hR2
   have hR2 : RS w2 b l (p + (rdD l p).length) bad:=⟨hb2, hw2⟩
   have hdall : (rdD l p).all isD = true:=runD_all _
   have hbadR:=hR2.bad
   have hbadF : Fr (λ c => c = b) w (sto w2 b 2 [.bool true]):=f2.sto (.inl rfl) _ _
   by_cases c1 : (rdD l p).length < 1
   ·have hnum : numF (rdD l p) = none:=by
     unfold numF
     rw [if_pos (.inl (List.eq_nil_of_length_eq_zero (by omega)))]
    have h1 : ((rdD l p).length : Int) < 1:=by omega
    rw [hnum]
    generalize p + (rdD l p).length = q at *
    simp [-ldA_ptr, hb2, wJ, h1, hw2]
    exact ⟨hbadR, hbadF⟩
   by_cases c2 : 16 < (rdD l p).length
   ·have hnum : numF (rdD l p) = none:=by
     unfold numF
     rw [if_pos (.inr (.inl c2))]
    have h1 : ¬ ((rdD l p).length : Int) < 1:=by omega
    have h2 : (16 : Int) < (rdD l p).length:=by omega
    rw [hnum]
    generalize p + (rdD l p).length = q at *
    simp [-ldA_ptr, hb2, wJ, h1, h2, hw2]
    exact ⟨hbadR, hbadF⟩
   obtain ⟨c, hc, _, hc0⟩:=rdD_at l p (i:=0) (by omega)
   have ix:=idxSb (kd:=.i64) (i:=p) hc
   have hh : (rdD l p).head? = some c:=by rw [List.head?_eq_getElem?]; exact hc0
   have h1 : ¬ ((rdD l p).length : Int) < 1:=by omega
   have h2 : ¬ (16 : Int) < (rdD l p).length:=by omega
   have hz : ((c.toNat : Int) = 48) ↔ c = 48:=by
    constructor
    ·intro h
     have h48 : c.toNat = 48:=by omega
     have : c.toNat = (48 : UInt8).toNat:=by rw [h48]; rfl
     exact UInt8.toNat_inj.1 this
    ·rintro rfl; rfl
   have hgood : ¬ (1 < (rdD l p).length /\ c = 48) -> numF (rdD l p) = some (valL (rdD l p)):=by
    intro hn
    unfold numF
    rw [if_neg]
    rintro (h | h | ⟨h, h'⟩ | h)
    ·rw [h] at c1; simp at c1
    ·exact c2 h
    ·rw [hh] at h'; cases h'; exact hn ⟨h, rfl⟩
    ·rw [hdall] at h; cases h
   by_cases c3 : 1 < (rdD l p).length
   ·have h3 : (1 : Int) < (rdD l p).length:=by omega
    by_cases c4 : c = 48
    ·have hnum : numF (rdD l p) = none:=by
      unfold numF
      rw [if_pos (.inr (.inr (.inl ⟨c3, by rw [hh, c4]⟩)))]
     have h4:=hz.2 c4
     rw [hnum]
     generalize p + (rdD l p).length = q at *
     simp [-ldA_ptr, hb2, wJ, h1, h2, h3, hw2, ix, by8, h4]
     exact ⟨hbadR, hbadF⟩
    ·have h4 : ¬ (c.toNat : Int) = 48:=λ h => c4 (hz.1 h)
     rw [hgood λ h => c4 h.2]
     generalize p + (rdD l p).length = q at *
     simp [-ldA_ptr, hb2, wJ, h1, h2, h3, hw2, ix, by8, h4, hR2, f2]
   ·have h3 : ¬ (1 : Int) < (rdD l p).length:=by omega
    rw [hgood λ h => c3 h.1]
    generalize p + (rdD l p).length = q at *
    simp [-ldA_ptr, hb2, wJ, h1, h2, h3, hw2, hR2, f2]
end
section
variable {w w1 w2 : World}
theorem prefix_take {p l : List UInt8} (h : p.length <= l.length) : p <+: l ↔ l.take p.length = p:=by
 rw [List.prefix_iff_eq_take]
 exact eq_comm
structure LitP (w w' : World) (b : Nat) (l : List UInt8) (p : Nat) (q : List UInt8) (bad : Bool) : Prop where
 rs : ∃ p', RS w' b l p' (bad || !decide (q <+: l.drop p)) /\ p' <= l.length /\ (bad = false -> q <+: l.drop p -> p' = p + q.length)
 fr : Fr (λ c => c = b) w w'
theorem rlit_run {b p : Nat} {l q : List UInt8} {bad : Bool} (h : RS w b l p bad) (hp : p <= l.length) (hl : l.length <= 4611686018427387904) (hq : q.length <= 4611686018427387904) :
  Run (F.granaryref4_Reader_lit (.pointer (some ⟨b, 0, none⟩)) (.string (sb q))) w λ _ w' => LitP w w' b l p q bad:=by
 unfold F.granaryref4_Reader_lit
 obtain ⟨hb, hw⟩:=h
 have hR : RS w.drew b l p bad:=⟨hb, hw⟩
 have f0 : Fr (λ c => c = b) w w.drew:=(Fr.refl _ _).drew
 have hlen : (sb l).size = l.length:=sb_size l
 have hlq : (sb q).size = q.length:=sb_size q
 have hbadR:=hR.bad
 have hbadF : Fr (λ c => c = b) w (sto w.drew b 2 [.bool true]):=f0.sto (.inl rfl) _ _
 have bdone : ¬ (bad = false /\ q <+: l.drop p) -> LitP w (sto w.drew b 2 [.bool true]) b l p q bad:=λ hn => by
  refine ⟨⟨p, ?_, hp, λ h1 h2 => absurd ⟨h1, h2⟩ hn⟩, hbadF⟩
  have e : (bad || !decide (q <+: l.drop p)) = true:=by
   cases bad with
   | true => rfl
   | false => simp; exact λ h => hn ⟨rfl, h⟩
  rw [e]; exact hbadR
 by_cases c1 : bad = true
 ·subst c1
  simp [-ldA_ptr, hb, hw]
  exact bdone λ h => Bool.noConfusion h.1
 have c1' : bad = false:=by simpa using c1
 have ws : IntKind.i64.wrap ((l.length : Int) - p) = ((l.length - p : Nat) : Int):=by rw [show (l.length : Int) - p = ((l.length - p : Nat) : Int) by omega]; exact i64W (by omega)
 by_cases c2 : l.length - p < q.length
 ·have h2 : ((l.length - p : Nat) : Int) < q.length:=by omega
  rw [c1'] at hb
  simp [-ldA_ptr, hb, hw, hlen, hlq, ws, h2]
  refine bdone λ h => ?_
  have:=h.2.length_le
  rw [List.length_drop] at this
  omega
 have h2 : ¬ ((l.length - p : Nat) : Int) < q.length:=by omega
 have wa : IntKind.i64.wrap ((p : Int) + q.length) = ((p + q.length : Nat) : Int):=by rw [show (p : Int) + q.length = ((p + q.length : Nat) : Int) by omega]; exact i64W (by omega)
 have hsl:=slBoth (l:=l) (n:=p) (m:=p + q.length) (by omega) (by omega)
 have htk : (l.take (p + q.length)).drop p = (l.drop p).take q.length:=by
  rw [List.drop_take, Nat.add_sub_cancel_left]
 rw [htk] at hsl
 have hpre:=prefix_take (p:=q) (l:=l.drop p) (by rw [List.length_drop]; omega)
 have hb0:=hb
 rw [c1'] at hb
 have he : p + q.length <= l.length:=by omega
 generalize he0 : p + q.length = e at *
 by_cases c3 : (l.drop p).take q.length = q
 ·simp [-ldA_ptr, -binV_str, sbNe, hb, hw, hlen, hlq, ws, h2, wa, hsl, c3]
  have e2 : (bad || !decide (q <+: l.drop p)) = bad:=by simp [hpre.2 c3]
  exact ⟨⟨e, by rw [e2]; exact hR.at _, he, λ _ _ => he0.symm⟩, f0.sto (.inl rfl) _ _⟩
 ·simp [-ldA_ptr, -binV_str, sbNe, hb, hw, hlen, hlq, ws, h2, wa, hsl, c3]
  exact bdone λ h => c3 (hpre.1 h.2)
theorem hexd_hv : ∀ m : Fin 256, ∀ i : Fin 16, ((hexd i.val).toNat = m.val ↔ hvN m.val = some i.val):=by decide +kernel
theorem half_run (c : UInt8) : Run (F.granaryref4_half (by8 c)) w λ r w' => r = .int .i64 (hvV c.toNat) /\ w' = w:=by
 unfold F.granaryref4_half
 have eD : ByteArray.mk #[48, 49, 50, 51, 52, 53, 54, 55, 56, 57, 97, 98, 99, 100, 101, 102] = DIG:=rfl
 rw [eD, Run_bind]
 have key : ∀ i, i < 16 -> ((hexd i).toNat = c.toNat ↔ hvN c.toNat = some i):=λ i hi => hexd_hv ⟨c.toNat, c.toNat_lt⟩ ⟨i, hi⟩
 have eq8 : ∀ i, i < 16 -> binV .eql (by8 (hexd i)) (by8 c) = some (.bool (decide (hvN c.toNat = some i))):=λ i hi => by
  unfold by8
  rw [binV_int, intBin_eql]
  have : ((hexd i).toNat : Int) = c.toNat ↔ hvN c.toNat = some i:=by rw [<- key i hi]; omega
  simp only [this]
 obtain ⟨J, hJ, hlt, hend⟩ : ∃ J, J <= 16 /\ (∀ i, i < J -> hvN c.toNat ≠ some i) /\ (J < 16 /\ hvN c.toNat = some J ∨ J = 16 /\ hvN c.toNat = none):=by
  cases h : hvN c.toNat with
  | none => exact ⟨16, Nat.le_refl _, λ i _ => by simp, .inr ⟨rfl, rfl⟩⟩
  | some k => exact ⟨k, Nat.le_of_lt (hvN_lt h), λ i hi he => by cases he; omega, .inl ⟨hvN_lt h, rfl⟩⟩
 refine Run_for J (λ i L w' => L = [.int .i64 (i : Int)] /\ w' = w) ⟨rfl, rfl⟩ ?_ ?_
 ·rintro i L w1 hi ⟨rfl, hw⟩
  rw [hw]
  have h1 : (i : Int) < 16:=by omega
  have wi:=wrap_succ' (n:=i) (by omega)
  rw [getL_zero, lssT h1, Run_bindO_some, Run_condM_true, idx_DIG (show i < 16 by omega), Run_bindO_some, eq8 i (by omega), Run_bindO_some, decide_eq_false (hlt i hi), Run_condM_false, binV_int, intBin_add, wi, Run_bindO_some, Run_ret]
  exact ⟨rfl, rfl⟩
 ·rintro L w1 ⟨rfl, hw⟩
  rw [hw]
  rcases hend with ⟨h16, he⟩ | ⟨h16, he⟩
  ·have h1 : (J : Int) < 16:=by omega
   rw [getL_zero, lssT h1, Run_bindO_some, Run_condM_true, idx_DIG h16, Run_bindO_some, eq8 J h16, Run_bindO_some, decide_eq_true he, Run_condM_true, Run_ret]
   simp only [outK_ret, Run_ret, hvV_some he]
   exact ⟨trivial, trivial⟩
  ·have h1 : ¬ (J : Int) < 16:=by omega
   rw [getL_zero, lssF h1, Run_bindO_some, Run_condM_false, Run_ret]
   simp only [outK_exit]
   rw [show Nat.beq 0 0 = true from rfl, cond_true, Run_ret, hvV_none he]
   exact ⟨rfl, rfl⟩
end
section
variable {w w1 w2 : World}
structure OwnF (F : Nat -> Prop) (w w1 : World) (v : Value) (l : List UInt8) : Prop where
 sl : SlW 1 w1 v (l.map λ b => [by8 b])
 fresh : ∀ c, inB v c -> w.heap.size <= c /\ c < w1.heap.size
 fr : Fr F w w1
theorem ownF_app {F : Nat -> Prop} {v : Value} {l : List UInt8} (h : OwnF F w w1 v l) (b : UInt8) {a1 a2 : Nat} (hl : l.length <= 33554432) {K : Value -> World -> Prop} (q : ∀ r w2, OwnF F w w2 r (l ++ [b]) -> Fr (inB v) w1 w2 -> K r w2) :
  Run (bslM a1 1 (Builtin.zeroCells #[(Value.int IntKind.u8 0)] 1) [(0, 1, by8 b)]) w1 λ a w2 => Run (appM a2 1 1 #[(Value.int IntKind.u8 0)] v a) w2 λ r w' => K r w':=by
 refine Run_app1 (K:=λ _ r w' => K r w') (k:=1) (y:=by8 b) rfl h.sl (by decide) rfl (by decide) rfl (by simp only [List.length_map]; omega) λ r w2 hr f2 hin w3 f3 => q r w2 ?_ f2
 have s:=f2.size
 refine ⟨by simpa [by8] using hr, λ c hc => ?_, h.fr.trans f2 λ c hc hv => ?_⟩
 ·have s0:=h.fr.size
  rcases hin c hc with hc | hc
  ·have:=h.fresh c hc; omega
  ·omega
 ·have:=(h.fresh c hv).1; omega
theorem drop_at {l : List UInt8} {p k : Nat} : (l.drop p)[k]? = l[p + k]?:=List.getElem?_drop
theorem RS.blk {b p : Nat} {l : List UInt8} {bad : Bool} (h : RS w b l p bad) : bk w b = some [.string (sb l), .int .i64 (p : Int), .bool bad]:=h.1
structure ByP (w w' : World) (b : Nat) (l : List UInt8) (p n : Nat) (bad : Bool) (r : Value) : Prop where
 val : r = .string (sb ((if bad then none else pairsF (l.drop p) n).getD []))
 rs : ∃ p', RS w' b l p' (if bad then none else pairsF (l.drop p) n).isNone /\ p' <= l.length /\ ((if bad then none else pairsF (l.drop p) n).isSome = true -> p' = p + 2 * n)
 fr : Fr (λ c => c = b) w w'
theorem rbytes_run {b p n : Nat} {l : List UInt8} {bad : Bool} (h : RS w b l p bad) (hp : p <= l.length) (hl : l.length <= 4611686018427387904) (h0 : 0 < n) (hn : n <= 1048576) :
  Run (F.granaryref4_Reader_bytes (.pointer (some ⟨b, 0, none⟩)) (.int .i64 (n : Int))) w λ r w' => ByP w w' b l p n bad r:=by
 unfold F.granaryref4_Reader_bytes
 have e0 : ByteArray.mk #[] = sb []:=rfl
 have hlen : (sb l).size = l.length:=sb_size l
 rw [e0, Run_bind]
 cases bad with
 | true =>
  refine Run_for 0 (λ i L w' => L = [.slice none 0 0, .int .i64 (i : Int)] /\ w' = w) ⟨rfl, rfl⟩ (λ i l w hi => absurd hi (by omega)) ?_
  rintro L w1 ⟨rfl, hw1⟩
  rw [hw1]
  obtain ⟨hb, hw⟩:=h
  have hR : RS w.drew b l p true:=⟨hb, hw⟩
  have h0' : (0 : Int) < n:=by omega
  simp [-ldA_ptr, hb, hw, h0', h0]
  exact ⟨rfl, ⟨p, hR.bad, hp, λ h => by cases h⟩, (show Fr (λ c => c = b) w w.drew from (Fr.refl _ _).drew).sto (.inl rfl) _ _⟩
 | false =>
  obtain ⟨J, hJn, hgood, hbad⟩:=pairs_far (l.drop p) n
  refine Run_for J (λ i L w' => ∃ v r, L = [v, .int .i64 (i : Int)] /\ pairsF (l.drop p) i = some r /\ OwnF (λ c => c = b) w w' v r /\ RS w' b l (p + 2 * i) false /\ p + 2 * i <= l.length) ⟨_, [], rfl, rfl, ⟨SlW.nil _ _, λ _ h => h.elim, Fr.refl _ _⟩, h, hp⟩ ?_ ?_
  ·rintro i L w1 hi ⟨v, r, rfl, hr, hO, ⟨hb1, hw1⟩, hle⟩
   obtain ⟨r', hr'⟩:=hgood (i + 1) (by omega)
   have hr2:=hr'
   unfold pairsF at hr'
   rw [hr] at hr'
   cases hpv : pairV (l.drop p) i with
   | none => rw [hpv] at hr'; simp at hr'
   | some c =>
    rw [hpv] at hr'
    simp only [Option.some.injEq] at hr'
    subst hr'
    have hlr:=pairsF_len hr
    unfold pairV at hpv
    rw [drop_at, drop_at] at hpv
    cases ha : l[p + 2 * i]? with
    | none => rw [ha] at hpv; simp at hpv
    | some a =>
     cases hb' : l[p + (2 * i + 1)]? with
     | none => rw [ha, hb'] at hpv; simp at hpv
     | some b' =>
      rw [ha, hb'] at hpv
      simp only at hpv
      cases hx : hvN a.toNat with
      | none => rw [hx] at hpv; simp at hpv
      | some x =>
       cases hy : hvN b'.toNat with
       | none => rw [hx, hy] at hpv; simp at hpv
       | some y =>
        rw [hx, hy] at hpv
        simp only [Option.some.injEq] at hpv
        have hlt2 : p + (2 * i + 1) < l.length:=(List.getElem?_eq_some_iff.1 hb').1
        have hx16:=hvN_lt hx
        have hy16:=hvN_lt hy
        have i1:=idxSb (kd:=.i64) ha
        have i2:=idxSb (kd:=.i64) hb'
        rw [show p + (2 * i + 1) = p + 2 * i + 1 by omega] at i2 hlt2
        have e2 : p + 2 * (i + 1) = p + 2 * i + 2:=by omega
        rw [e2]
        have hin : (i : Int) < n:=by omega
        have hin' : i < n:=by omega
        have wi:=wrap_succ' (n:=i) (by omega)
        generalize p + 2 * i = Q at *
        have hR1 : RS w1 b l Q false:=⟨hb1, hw1⟩
        have wl : IntKind.i64.wrap ((l.length : Int) - Q) = ((l.length - Q : Nat) : Int):=by rw [show (l.length : Int) - Q = ((l.length - Q : Nat) : Int) by omega]; exact i64W (by omega)
        have hl2 : ¬ ((l.length - Q : Nat) : Int) < 2:=by omega
        have wq:=wrap_succ' (n:=Q) (by omega)
        have wq2 : IntKind.i64.wrap ((Q : Int) + 2) = ((Q + 2 : Nat) : Int):=by rw [show (Q : Int) + 2 = ((Q + 2 : Nat) : Int) by omega]; exact i64W (by omega)
        simp [-ldA_ptr, hb1, hin, hin', hlen, wl, hl2, i1, -Int.natCast_add]
        refine (half_run a).mono ?_
        rintro _ w2 ⟨rfl, hw2⟩
        rw [hw2, hvV_some hx]
        have nx : ¬ (x : Int) < 0:=by omega
        have ny : ¬ (y : Int) < 0:=by omega
        have m16 : IntKind.i64.wrap (16 * (x : Int)) = ((16 * x : Nat) : Int):=by rw [show 16 * (x : Int) = ((16 * x : Nat) : Int) by omega]; exact i64W (by omega)
        have a16 : IntKind.i64.wrap (((16 * x : Nat) : Int) + y) = ((16 * x + y : Nat) : Int):=by rw [show ((16 * x : Nat) : Int) + y = ((16 * x + y : Nat) : Int) by omega]; exact i64W (by omega)
        have c16 : IntKind.u8.wrap ((16 * x + y : Nat) : Int) = ((16 * x + y : Nat) : Int):=u8W (by omega)
        have hby:=by8_of (m:=16 * x + y) (by omega)
        rw [hpv] at hby
        simp [-ldA_ptr, hb1, wq, i2, -Int.natCast_add]
        refine (half_run b').mono ?_
        rintro _ w3 ⟨rfl, hw3⟩
        rw [hw3, hvV_some hy]
        simp [-ldA_ptr, nx, ny, m16, a16, c16, -Int.natCast_add, -Int.natCast_mul]
        rw [<- hby]
        have hO2 : OwnF (λ c => c = b) w w1.drew.drew.drew v r:=⟨hO.sl, hO.fresh, hO.fr.drew.drew.drew⟩
        refine ownF_app hO2 c (by omega) λ r2 w4 h4 f4 => ?_
        have hbf : ¬ inB v b:=λ hv => by
         have h1:=(hO.fresh b hv).1
         have h2:=bk_lt (RS.blk h)
         omega
        have hb4 : bk w4 b = some [.string (sb l), .int .i64 (Q : Int), .bool false]:=f4.bk_some (w:=w1.drew.drew.drew) hb1 hbf
        have hw4 : wr w4 b = true:=by
         rw [f4.wr (w:=w1.drew.drew.drew) (bk_lt hb1) hbf]; exact hw1
        have hR4 : RS w4 b l Q false:=⟨hb4, hw4⟩
        simp [-ldA_ptr, hb4, hw4, wq2, wi, -Int.natCast_add]
        have f5 : Fr (λ c => c = b) w4 (sto w4 b 1 [.int .i64 ((Q + 2 : Nat) : Int)]):=(show Fr (λ c => c = b) w4 w4 from Fr.refl _ _).sto (.inl rfl) _ _
        refine ⟨r ++ [c], hr2, ⟨h4.sl.fr f5 λ c hc he => ?_, λ c hc => ⟨(h4.fresh c hc).1, Nat.lt_of_lt_of_le (h4.fresh c hc).2 f5.size⟩, h4.fr.trans f5 λ _ _ h => h⟩, hR4.at _, by omega⟩
        subst he
        have h1:=(h4.fresh _ hc).1
        have h2:=bk_lt (RS.blk h)
        omega
  ·rintro L w1 ⟨v, r, rfl, hr, hO, ⟨hb1, hw1⟩, hle⟩
   by_cases hJ : J = n
   ·subst hJ
    have hin : ¬ (J : Int) < (J : Int):=by omega
    have hR1 : RS w1 b l (p + 2 * J) false:=⟨hb1, hw1⟩
    have ht:=ownB_text hO.sl.1
    rw [getL_succ, getL_zero, lssF hin, Run_bindO_some, Run_condM_false, Run_ret]
    simp only [outK_exit, getL_zero]
    rw [show Nat.beq 0 0 = true from rfl, cond_true, Run_bind, Run_rdM]
    refine ⟨_, ht, ?_⟩
    rw [Run_ret]
    refine ⟨by simp only [Bool.false_eq_true, if_false, hr, Option.getD_some]; rfl, ⟨p + 2 * J, ?_, hle, λ _ => rfl⟩, hO.fr⟩
    simp only [Bool.false_eq_true, if_false, hr, Option.isNone_some]
    exact hR1
   ·have hpv : pairV (l.drop p) J = none:=hbad.resolve_left hJ
    have hlt : J < n:=by omega
    have hnone:=pairsF_bad hpv hlt
    have hin : (J : Int) < n:=by omega
    have byp : ∀ w2, RS w2 b l (p + 2 * J) false -> Fr (λ c => c = b) w w2 -> ByP w (sto w2 b 2 [.bool true]) b l p n false (.string (sb [])):=λ w2 hR2 f2 => by
     refine ⟨?_, ⟨p + 2 * J, ?_, hle, λ h => ?_⟩, f2.sto (.inl rfl) _ _⟩
     ·simp only [Bool.false_eq_true, if_false, hnone, Option.getD_none]
     ·simp only [Bool.false_eq_true, if_false, hnone, Option.isNone_none]
      exact hR2.bad
     ·simp only [Bool.false_eq_true, if_false, hnone] at h
      cases h
    have fd:=hO.fr.drew
    have wl : IntKind.i64.wrap ((l.length : Int) - ((p + 2 * J : Nat) : Int)) = ((l.length - (p + 2 * J) : Nat) : Int):=by rw [show (l.length : Int) - ((p + 2 * J : Nat) : Int) = ((l.length - (p + 2 * J) : Nat) : Int) by omega]; exact i64W (by omega)
    by_cases h2 : l.length - (p + 2 * J) < 2
    ·have h2' : ((l.length - (p + 2 * J) : Nat) : Int) < 2:=by omega
     generalize p + 2 * J = Q at *
     have hR1 : RS w1.drew b l Q false:=⟨hb1, hw1⟩
     simp [-ldA_ptr, hb1, hin, hlt, hlen, wl, h2', hw1]
     exact byp _ hR1 fd
    ·have h2' : ¬ ((l.length - (p + 2 * J) : Nat) : Int) < 2:=by omega
     unfold pairV at hpv
     rw [drop_at, drop_at] at hpv
     obtain ⟨a, ha⟩ : ∃ a, l[p + 2 * J]? = some a:=⟨_, List.getElem?_eq_getElem (by omega)⟩
     obtain ⟨b', hb'⟩ : ∃ a, l[p + (2 * J + 1)]? = some a:=⟨_, List.getElem?_eq_getElem (by omega)⟩
     rw [ha, hb'] at hpv
     simp only at hpv
     have i1:=idxSb (kd:=.i64) ha
     have i2:=idxSb (kd:=.i64) hb'
     rw [show p + (2 * J + 1) = p + 2 * J + 1 by omega] at i2
     have wq:=wrap_succ' (n:=p + 2 * J) (by omega)
     generalize p + 2 * J = Q at *
     simp [-ldA_ptr, hb1, hin, hlt, hlen, wl, h2', i1, -Int.natCast_add]
     refine (half_run a).mono ?_
     rintro _ w2 ⟨rfl, hw2⟩
     rw [hw2]
     simp [-ldA_ptr, hb1, wq, i2, -Int.natCast_add]
     refine (half_run b').mono ?_
     rintro _ w3 ⟨rfl, hw3⟩
     rw [hw3]
     have hR3 : RS w1.drew.drew.drew b l Q false:=⟨hb1, hw1⟩
     have fd3:=fd.drew.drew
     cases hx : hvN a.toNat with
     | none =>
      rw [hvV_none hx]
      simp [-ldA_ptr, hb1, hw1]
      exact byp _ hR3 fd3
     | some x =>
      cases hy : hvN b'.toNat with
      | none =>
       have nx : ¬ (x : Int) < 0:=by omega
       rw [hvV_some hx, hvV_none hy]
       simp [-ldA_ptr, nx, hb1, hw1]
       exact byp _ hR3 fd3
      | some y => rw [hx, hy] at hpv; simp at hpv
end
section
variable {w w1 w2 : World}
structure SuP (w w' : World) (b : Nat) (l : List UInt8) (p : Nat) (bad : Bool) (r : Value) : Prop where
 val : r = .int .i64 ((((if bad then none else (pairsF (l.drop p) 4).map valB).getD 0 : Nat)) : Int)
 rs : ∃ p', RS w' b l p' (if bad then none else (pairsF (l.drop p) 4).map valB).isNone /\ p' <= l.length /\ ((if bad then none else (pairsF (l.drop p) 4).map valB).isSome = true -> p' = p + 8)
 fr : Fr (λ c => c = b) w w'
theorem rsum_run {b p : Nat} {l : List UInt8} {bad : Bool} (h : RS w b l p bad) (hp : p <= l.length) (hl : l.length <= 4611686018427387904) :
  Run (F.granaryref4_Reader_sum (.pointer (some ⟨b, 0, none⟩))) w λ r w' => SuP w w' b l p bad r:=by
 unfold F.granaryref4_Reader_sum
 rw [Run_bind]
 refine (rbytes_run h hp hl (n:=4) (by decide) (by decide)).mono ?_
 rintro _ w1 ⟨rfl, ⟨p', hr, hple, hpe⟩, f1⟩
 generalize hB : (if bad = true then none else pairsF (l.drop p) 4) = B at *
 have hB' : (if bad = true then none else (pairsF (l.drop p) 4).map valB) = B.map valB:=by rw [<- hB]; cases bad <;> rfl
 have hBl : ((B.getD [])).length <= 4:=by
  cases hb : B with
  | none => simp
  | some bs =>
   rw [hb] at hB
   cases bad with
   | true => simp at hB
   | false => simp only [Bool.false_eq_true, if_false] at hB; rw [Option.getD_some, pairsF_len hB]; decide
 rw [Run_bind]
 generalize hbs : B.getD [] = bs at hBl
 refine Run_for bs.length (λ i L' w' => L' = [.int .i64 ((valB (bs.take i) : Nat) : Int), .int .i64 (i : Int)] /\ w' = w1) ⟨rfl, rfl⟩ ?_ ?_
 ·rintro i L' w3 hi ⟨rfl, hw3⟩
  rw [hw3]
  obtain ⟨c, hc⟩ : ∃ c, bs[i]? = some c:=⟨_, List.getElem?_eq_getElem hi⟩
  have ix:=idxSb (kd:=.i64) hc
  have hv:=valB_snoc (bs.take i) c
  rw [<- take_snocP hc] at hv
  have hlt:=valB_lt (bs.take i)
  have hp : 256 ^ (bs.take i).length <= 256 ^ 3:=Nat.pow_le_pow_right (by decide) (by rw [List.length_take]; omega)
  have e16 : (256 : Nat) ^ 3 = 16777216:=by decide
  rw [e16] at hp
  have hil : (i : Int) < bs.length:=by omega
  have wi:=wrap_succ' (n:=i) (by omega)
  have hct:=c.toNat_lt
  have wc : IntKind.i64.wrap (c.toNat : Int) = c.toNat:=i64W (by omega)
  generalize valB (bs.take i) = V at *
  have w2' : IntKind.i64.wrap (256 * (V : Int)) = ((256 * V : Nat) : Int):=by rw [show 256 * (V : Int) = ((256 * V : Nat) : Int) by omega]; exact i64W (by omega)
  have w3' : IntKind.i64.wrap (((256 * V : Nat) : Int) + (c.toNat : Int)) = ((256 * V + c.toNat : Nat) : Int):=by rw [show ((256 * V : Nat) : Int) + (c.toNat : Int) = ((256 * V + c.toNat : Nat) : Int) by omega]; exact i64W (by omega)
  rw [lenS_string, sb_size, Run_bindO_some, getL_succ, getL_zero, lssT hil, Run_bindO_some, Run_condM_true, getL_zero, binV_int, intBin_mul, w2', Run_bindO_some, ix, Run_bindO_some]
  simp only [by8, cvtI_int, wc, Run_bindO_some, binV_int, intBin_add, w3', wi, Run_ret]
  rw [hv]
  exact ⟨rfl, trivial⟩
 ·rintro L' w3 ⟨rfl, hw3⟩
  rw [hw3]
  have hn : ¬ ((bs.length : Nat) : Int) < bs.length:=by omega
  rw [lenS_string, sb_size, Run_bindO_some, getL_succ, getL_zero, lssF hn, Run_bindO_some, Run_condM_false, Run_ret]
  simp only [outK_exit, getL_zero]
  rw [show Nat.beq 0 0 = true from rfl, cond_true, Run_ret, List.take_length]
  refine ⟨?_, ⟨p', ?_, hple, ?_⟩, f1⟩
  ·rw [hB', <- hbs]; cases B <;> rfl
  ·rw [hB']; cases B <;> exact hr
  ·rw [hB']
   intro h
   refine hpe ?_
   cases B with
   | none => cases h
   | some _ => rfl
end
theorem runD_app {d r : List UInt8} (hd : d.all isD = true) (hr : ∀ c, r.head? = some c -> isD c = false) : runD (d ++ r) = d:=by
 unfold runD
 induction d with
 | nil =>
  cases r with
  | nil => rfl
  | cons c r => simp [hr c rfl]
 | cons c d ih =>
  simp only [List.all_cons, Bool.and_eq_true] at hd
  rw [List.cons_append, List.takeWhile_cons, if_pos hd.1, ih hd.2]
section
variable {w w1 w2 : World}
structure NS (w0 w : World) (v : Value) (N : List (List UInt8)) (x1 x8 x9 : Nat) (l8 l9 : List Value) : Prop where
 tb : Tb w
 ws : Sl 1 w v (N.map λ x => [.string (sb x)])
 b1 : bk w x1 = some [.int .i64 0, .int .i64 0, .int .i64 0, .int .i64 0]
 w1 : wr w x1 = true
 b8 : bk w x8 = some l8
 w8 : wr w x8 = true
 b9 : bk w x9 = some l9
 w9 : wr w x9 = true
 e8 : l8.length = 4
 e9 : l9.length = 5
 n1 : w0.heap.size <= x1
 n8 : w0.heap.size <= x8
 n9 : w0.heap.size <= x9
 d8 : x1 ≠ x8 /\ x1 ≠ x9 /\ x8 ≠ x9 /\ ¬ inB v x8 /\ ¬ inB v x9
 low : 11 <= w0.heap.size
 fr : Fr (λ _ => False) w0 w
theorem NS.frm {w0 : World} {v : Value} {N : List (List UInt8)} {x1 x8 x9 : Nat} {l8 l9 : List Value} (h : NS w0 w v N x1 x8 x9 l8 l9) (f : Fr (λ _ => False) w w2) : NS w0 w2 v N x1 x8 x9 l8 l9 where
 tb:=h.tb.fr0 f
 ws:=h.ws.fr0 f
 b1:=f.bk_some h.b1 id
 w1:=by rw [f.wr (bk_lt h.b1) id]; exact h.w1
 b8:=f.bk_some h.b8 id
 w8:=by rw [f.wr (bk_lt h.b8) id]; exact h.w8
 b9:=f.bk_some h.b9 id
 w9:=by rw [f.wr (bk_lt h.b9) id]; exact h.w9
 e8:=h.e8
 e9:=h.e9
 n1:=h.n1
 n8:=h.n8
 n9:=h.n9
 d8:=h.d8
 low:=h.low
 fr:=h.fr.trans f λ _ _ => id
theorem NS.word {β : Type} {w0 : World} {v : Value} {N : List (List UInt8)} {x1 x8 x9 : Nat} {l8 l9 : List Value} (h : NS w0 w v N x1 x8 x9 l8 l9) {i : Nat} {s : List UInt8} (hs : N[i]? = some s) {Fn : Value -> M Value} {g : List UInt8 -> Option Nat}
  (hF : ∀ w, Run (Fn (.string (sb s))) w λ r w' => r = numV (g s) /\ Fr (λ _ => False) w w') {K : Value -> M β} {Q : β -> World -> Prop} (q : ∀ w', NS w0 w' v N x1 x8 x9 l8 l9 -> Run (K (numV (g s))) w' Q) :
  Run (bindO (idxA 1 v (.int .i64 (i : Int))) λ x10 => M.bind (rdM (ld1 x10)) λ x11 => M.bind (Fn x11) K) w Q:=by
 obtain ⟨p, p1, p2⟩:=h.ws.rd1 (i:=i) (y:=.string (sb s)) (by simp [hs]) .i64
 have p1' : idxA 1 v (.int .i64 (i : Int)) = some p:=p1
 rw [p1', Run_bindO_some, Run_bind, Run_rdM]
 refine ⟨_, p2, ?_⟩
 rw [Run_bind]
 refine (hF w).mono ?_
 rintro _ w' ⟨rfl, f⟩
 exact q w' (h.frm f)
end
section
variable {w w1 w2 : World}
theorem tb_low (ht : Tb w) : 11 <= w.heap.size:=by
 obtain ⟨l, h, _⟩:=ht.bits
 have:=bk_lt h
 omega
end
section
variable {w w1 w2 : World}
structure RN (w0 w : World) (b : Nat) (l : List UInt8) (p : Nat) (bad : Bool) (x1 x6 : Nat) (l6 : List Value) : Prop where
 tb : Tb w
 rs : RS w b l p bad
 hp : p <= l.length
 b1 : bk w x1 = some [.int .i64 0, .int .i64 0, .int .i64 0, .int .i64 0]
 w1 : wr w x1 = true
 b6 : bk w x6 = some l6
 w6 : wr w x6 = true
 e6 : l6.length = 4
 n1 : w0.heap.size <= x1
 n6 : w0.heap.size <= x6
 ne : x1 ≠ x6
 nb : b < w0.heap.size
 b5 : 11 <= b
 fr : Fr (λ c => c = b) w0 w
theorem RN.call {w0 : World} {b p : Nat} {l : List UInt8} {bad : Bool} {x1 x6 : Nat} {l6 : List Value} (h : RN w0 w b l p bad x1 x6 l6) (f : Fr (λ c => c = b) w w2) {p' : Nat} {bad' : Bool} (rs : RS w2 b l p' bad') (hp : p' <= l.length) : RN w0 w2 b l p' bad' x1 x6 l6 where
 tb:=h.tb.fr f λ c hc he => by have:=h.b5; omega
 rs:=rs
 hp:=hp
 b1:=f.bk_some h.b1 λ e => by have:=h.n1; have:=h.nb; omega
 w1:=by rw [f.wr (bk_lt h.b1) λ e => by have:=h.n1; have:=h.nb; omega]; exact h.w1
 b6:=f.bk_some h.b6 λ e => by have:=h.n6; have:=h.nb; omega
 w6:=by rw [f.wr (bk_lt h.b6) λ e => by have:=h.n6; have:=h.nb; omega]; exact h.w6
 e6:=h.e6
 n1:=h.n1
 n6:=h.n6
 ne:=h.ne
 nb:=h.nb
 b5:=h.b5
 fr:=h.fr.trans f λ _ _ he => he
theorem RN.put6 {w0 : World} {b p : Nat} {l : List UInt8} {bad : Bool} {x1 x6 : Nat} {l6 : List Value} (h : RN w0 w b l p bad x1 x6 l6) (i : Nat) (y : Value) : RN w0 (sto w x6 i [y]) b l p bad x1 x6 (l6.set i y):=by
 have f : Fr (λ c => c = x6) w (sto w x6 i [y]):=(show Fr (λ c => c = x6) w w from Fr.refl _ _).sto (.inl rfl) _ _
 have h6:=h.n6
 have hb:=h.nb
 have h5:=h.b5
 exact {
   tb:=h.tb.fr f λ c hc he => by omega
   rs:=⟨f.bk_some h.rs.1 λ e => by omega, by rw [wr_sto]; exact h.rs.2⟩
   hp:=h.hp
   b1:=f.bk_some h.b1 h.ne
   w1:=by rw [wr_sto]; exact h.w1
   b6:=by rw [bk_sto_same h.b6]; simp only [setL_cons, setL_nil]
   w6:=by rw [wr_sto]; exact h.w6
   e6:=by rw [List.length_set]; exact h.e6
   n1:=h.n1, n6:=h.n6, ne:=h.ne, nb:=h.nb, b5:=h.b5
   fr:=h.fr.sto (.inr h.n6) _ _ }
theorem RN.num {β : Type} {w0 : World} {b p : Nat} {l : List UInt8} {bad : Bool} {x1 x6 : Nat} {l6 : List Value} (h : RN w0 w b l p bad x1 x6 l6) (hl : l.length <= 4611686018427387904) {i : Nat} (hi : i < 4) {K : M β} {Q : β -> World -> Prop}
  (q : ∀ w', RN w0 w' b l (p + (rdD l p).length) (bad || (numF (rdD l p)).isNone) x1 x6 (l6.set i (.int .i64 (((numF (rdD l p)).getD 0 : Nat) : Int))) -> Run K w' Q) :
  Run (M.bind (F.granaryref4_Reader_number (.pointer (some ⟨b, 0, none⟩))) λ x8 => bindO (fieldA i (.pointer (some ⟨x6, 0, none⟩))) λ x9 => M.bind (stM 1 x9 x8) λ _ => K) w Q:=by
 rw [Run_bind]
 refine (rnum_run h.rs h.hp hl).mono ?_
 rintro _ w2 ⟨rfl, rs, f⟩
 have hd:=rdD_len l p
 have hple:=h.hp
 have h2:=h.call f rs (by omega)
 rw [fieldA_ptr, Run_bindO_some, Run_bind, Run_stM (by rfl) (by rfl) ⟨⟨l6, h2.b6, by rw [h2.e6]; show 0 + i + 1 <= 4; omega⟩, h2.w6⟩]
 have h3:=h2.put6 (0 + i) (.int .i64 (((numF (rdD l p)).getD 0 : Nat) : Int))
 have q2:=q (sto w2 x6 (0 + i) [.int .i64 (((numF (rdD l p)).getD 0 : Nat) : Int)])
 rw [Nat.zero_add] at h3 q2
 rw [Nat.zero_add]
 exact q2 h3
theorem RN.lit {β : Type} {w0 : World} {b p : Nat} {l : List UInt8} {bad : Bool} {x1 x6 : Nat} {l6 : List Value} (h : RN w0 w b l p bad x1 x6 l6) (hl : l.length <= 4611686018427387904) {y : List UInt8} (hy : y.length <= 4611686018427387904) {K : M β} {Q : β -> World -> Prop}
  (q : ∀ w' p', RN w0 w' b l p' (bad || !decide (y <+: l.drop p)) x1 x6 l6 -> (bad = false -> y <+: l.drop p -> p' = p + y.length) -> Run K w' Q) :
  Run (M.bind (F.granaryref4_Reader_lit (.pointer (some ⟨b, 0, none⟩)) (.string (sb y))) λ _ => K) w Q:=by
 rw [Run_bind]
 refine (rlit_run h.rs h.hp hl hy).mono ?_
 rintro _ w2 ⟨⟨p', rs, hp', hh⟩, f⟩
 exact q w2 p' (h.call f rs hp') hh
theorem RN.sum {β : Type} {w0 : World} {b p : Nat} {l : List UInt8} {bad : Bool} {x1 x6 : Nat} {l6 : List Value} (h : RN w0 w b l p bad x1 x6 l6) (hl : l.length <= 4611686018427387904) {i : Nat} (hi : i < 4) {K : M β} {Q : β -> World -> Prop}
  (q : ∀ w' p', RN w0 w' b l p' (if bad then none else (pairsF (l.drop p) 4).map valB).isNone x1 x6 (l6.set i (.int .i64 ((((if bad then none else (pairsF (l.drop p) 4).map valB).getD 0 : Nat)) : Int))) -> Run K w' Q) :
  Run (M.bind (F.granaryref4_Reader_sum (.pointer (some ⟨b, 0, none⟩))) λ x8 => bindO (fieldA i (.pointer (some ⟨x6, 0, none⟩))) λ x9 => M.bind (stM 1 x9 x8) λ _ => K) w Q:=by
 rw [Run_bind]
 refine (rsum_run h.rs h.hp hl).mono ?_
 rintro _ w2 ⟨rfl, ⟨p', rs, hp', _⟩, f⟩
 have h2:=h.call f rs hp'
 generalize (if bad = true then none else (pairsF (l.drop p) 4).map valB) = o at *
 rw [fieldA_ptr, Run_bindO_some, Run_bind, Run_stM (by rfl) (by rfl) ⟨⟨l6, h2.b6, by rw [h2.e6]; show 0 + i + 1 <= 4; omega⟩, h2.w6⟩]
 have h3:=h2.put6 (0 + i) (.int .i64 ((o.getD 0 : Nat) : Int))
 have q2:=q (sto w2 x6 (0 + i) [.int .i64 ((o.getD 0 : Nat) : Int)]) p'
 rw [Nat.zero_add] at h3 q2
 rw [Nat.zero_add]
 exact q2 h3
end
section
variable {w w1 w2 : World}
theorem drop_more {l a r : List UInt8} {p : Nat} (h : l.drop p = a ++ r) : l.drop (p + a.length) = r:=by
 rw [<- List.drop_drop, h, List.drop_left]
theorem lit_step {l r y : List UInt8} {p : Nat} (h : l.drop p = y ++ r) : y <+: l.drop p /\ l.drop (p + y.length) = r:=⟨⟨r, h.symm⟩, drop_more h⟩
end
def allL (ns : List Nt) : List UInt8:=(ns.map noteL).flatten
structure Chn (l : List UInt8) (ns : List Nt) : Prop where
 ok : ∀ n ∈ ns, n.ok
 pre : allL ns <+: l
 far : ∀ n : Nt, n.ok -> ¬ noteL n <+: l.drop (allL ns).length
theorem note_len (n : Nt) : 1 <= (noteL n).length:=by simp [noteL]; omega
theorem Chn.at {l : List UInt8} {ns : List Nt} (h : Chn l ns) {i : Nat} {n : Nt} (hi : ns[i]? = some n) : n.ok /\ noteL n <+: l.drop (allL (ns.take i)).length /\ allL (ns.take (i + 1)) = allL (ns.take i) ++ noteL n /\ (allL (ns.take i)).length + (noteL n).length <= l.length:=by
 have e : allL (ns.take (i + 1)) = allL (ns.take i) ++ noteL n:=by
  rw [take_snocP hi]; simp [allL]
 have hsplit : allL ns = allL (ns.take (i + 1)) ++ allL (ns.drop (i + 1)):=by
  unfold allL
  rw [<- List.flatten_append, <- List.map_append, List.take_append_drop]
 obtain ⟨r, hr⟩:=h.pre
 rw [hsplit, e] at hr
 refine ⟨h.ok n (List.mem_of_getElem? hi), ⟨allL (ns.drop (i + 1)) ++ r, ?_⟩, e, ?_⟩
 ·rw [<- hr]; simp
 ·rw [<- hr, List.length_append, List.length_append, List.length_append]; omega
theorem Chn.count {l : List UInt8} {ns : List Nt} (h : Chn l ns) : ns.length <= l.length:=by
 have h1:=h.pre.length_le
 have h2 : ∀ ns : List Nt, ns.length <= (allL ns).length:=λ ns => by
  induction ns with
  | nil => simp
  | cons n ns ih =>
   have:=note_len n
   simp only [allL, List.map_cons, List.flatten_cons, List.length_append, List.length_cons] at ih ⊢
   omega
 have:=h2 ns
 omega
section
variable {w w1 w2 : World}
def Nt.row (n : Nt) : List Value:=[.int .i64 n.k, .int .i64 n.f, .int .i64 n.u, .int .i64 n.c]
structure OwnN (w w1 : World) (v : Value) (ns : List Nt) : Prop where
 sl : SlW 4 w1 v (ns.map Nt.row)
 fresh : ∀ c, inB v c -> w.heap.size <= c /\ c < w1.heap.size
 fr : Fr (λ _ => False) w w1
theorem OwnN.frm {v : Value} {ns : List Nt} (h : OwnN w w1 v ns) (f : Fr (λ _ => False) w1 w2) : OwnN w w2 v ns:=⟨h.sl.fr f λ _ _ => id, λ c hc => ⟨(h.fresh c hc).1, Nat.lt_of_lt_of_le (h.fresh c hc).2 f.size⟩, h.fr.trans f λ _ _ => id⟩
end
end Go.Proofs.YthlpfhjcdedhgaaGreatDoor
namespace Go.Lift
section
variable {H : Type} {enc : TypeId × Value -> H} {P : Program} {w : World}
theorem cells_get {base : Nat} {a : Addr} {n : Nat} {cs : List Value} (h : w.cells? base a n = some cs) : cs.length = n /\ ∀ j, j < n -> w.cell? (a.add j) = cs[j]?:=by
 unfold World.cells? at h
 split at h
 ·have hl:=mapM_some_length h
  refine ⟨by simpa using hl, λ j hj => mapM_some_get h j j (by simp [hj])⟩
 ·cases h
theorem cell_some {a : Addr} {v : Value} (h : w.cell? a = some v) : a.spot = none /\ ∃ l, bk w a.block = some l /\ l[a.off]? = some v:=by
 unfold World.cell? at h
 unfold bk
 cases hh : w.heap[a.block]? with
 | none => simp [hh] at h
 | some x =>
  cases x with
  | cells c t m =>
   simp only [hh] at h ⊢
   split at h
   ·cases h
   ·rename_i hs
    refine ⟨?_, c.toList, rfl, by simpa using h⟩
    cases hsp : a.spot with
    | none => rfl
    | some s => rw [hsp] at hs; simp at hs
  | _ => simp [hh] at h
theorem open_sl {t e : TypeId} {fuel k : Nat} {cs : List Value} {x : DataW H × List MemPlace} (ht : P.underlying t = some (.slice e)) (hk : P.cellsOf e = k) (hk0 : 0 < k)
  (h : DataW.trod enc P w 0 (λ _ => true) true fuel t cs = some x) :
  ∃ v els, cs = [v] /\ Sl k w v els /\ ((x.1 = .nil /\ els = []) ∨ ∃ Ds spare, x.1 = .slice Ds spare /\ Ds.length = els.length /\
   ∀ (i : Nat) (c : List Value) (d : DataW H), els[i]? = some c -> Ds[i]? = some d -> ∃ n ps, DataW.trod enc P w 0 (λ _ => true) true n e c = some (d, ps)):=by
 rcases DataW.trod_slice ht h with ⟨rfl, rfl⟩ | ⟨a, len, cap, elems, rest, n, _, rfl, rfl, hb, hl, hm, hlen, hel, hsp, hns⟩
 ·exact ⟨_, [], rfl, Sl.nil k w, .inl ⟨rfl, rfl⟩⟩
 obtain ⟨hrl, hrs⟩:=hsp rfl
 rw [hk] at hel hrs
 have hall : ∀ i, i < cap -> ∃ c' y, w.cells? 0 (a.add (i * k)) k = some c' /\ DataW.trod enc P w 0 (λ _ => true) true n e c' = some y /\ (i < len -> elems[i]? = some y):=by
  intro i hi
  by_cases hil : i < len
  ·have h1:=hel i hil
   rw [List.getElem?_eq_getElem (by omega)] at h1
   obtain ⟨c', h2, h3⟩:=Option.bind_eq_some_iff.1 h1
   exact ⟨c', _, h2, h3, λ _ => List.getElem?_eq_getElem (by omega)⟩
  ·have h1:=hrs (i - len) (by omega)
   rw [show len + (i - len) = i by omega, List.getElem?_eq_getElem (by omega)] at h1
   obtain ⟨c', h2, h3⟩:=Option.bind_eq_some_iff.1 h1
   exact ⟨c', _, h2, h3, λ h => absurd h hil⟩
 by_cases hc0 : cap = 0
 ·have hl0 : len = 0:=by omega
  subst hc0; subst hl0
  refine ⟨_, [], rfl, ⟨by simp, some a, 0, rfl, Nat.le_refl _, .inl rfl⟩, .inr ⟨_, _, rfl, by simp [hlen], λ i c d hi => by simp at hi⟩⟩
 obtain ⟨b, o, sp⟩:=a
 have h00 : w.cell? ⟨b, o, sp⟩ ≠ none:=by
  obtain ⟨c', y, h1, _⟩:=hall 0 (by omega)
  have h2:=(cells_get h1).2 0 hk0
  have h3:=(cells_get h1).1
  have e : ((⟨b, o, sp⟩ : Addr).add (0 * k)).add 0 = ⟨b, o, sp⟩:=by simp [Addr.add]
  rw [e, List.getElem?_eq_getElem (by omega)] at h2
  rw [h2]; simp
 obtain ⟨v0, hv0⟩:=Option.ne_none_iff_exists'.1 h00
 obtain ⟨hsp0, l, hbk, _⟩:=cell_some hv0
 simp only at hsp0 hbk
 subst hsp0
 have hread : ∀ i j, i < cap -> j < k -> ∃ c', w.cells? 0 ((⟨b, o, none⟩ : Addr).add (i * k)) k = some c' /\ l[o + i * k + j]? = c'[j]? /\ o + i * k + j < l.length:=by
  intro i j hi hj
  obtain ⟨c', y, h1, _⟩:=hall i hi
  have h2:=(cells_get h1).2 j hj
  have h3:=(cells_get h1).1
  rw [Addr.add_lit, Addr.add_lit, List.getElem?_eq_getElem (by omega)] at h2
  obtain ⟨_, l', hbk', hg⟩:=cell_some h2
  simp only at hbk' hg
  rw [hbk] at hbk'; cases hbk'
  refine ⟨c', h1, ?_, (List.getElem?_eq_some_iff.1 hg).1⟩
  rw [hg, List.getElem?_eq_getElem (by omega)]
 have hfit : o + cap * k <= l.length:=by
  obtain ⟨_, _, _, h1⟩:=hread (cap - 1) (k - 1) (by omega) (by omega)
  obtain ⟨q, hq⟩ : ∃ q, cap = q + 1:=⟨cap - 1, by omega⟩
  rw [hq, show q + 1 - 1 = q by omega] at h1
  rw [hq, Nat.add_mul]
  omega
 have hels : ∀ m, m <= cap -> ((List.range m).map λ i => (l.drop (o + i * k)).take k).flatten = (l.drop o).take (m * k):=by
  intro m
  induction m with
  | zero => intro _; simp
  | succ m ih =>
   intro hmc
   rw [List.range_succ, List.map_append, List.flatten_append, ih (by omega)]
   simp only [List.map_cons, List.map_nil, List.flatten_cons, List.flatten_nil, List.append_nil]
   rw [Nat.add_mul, Nat.one_mul, List.take_add, List.drop_drop]
 have hlk : len * k <= cap * k:=Nat.mul_le_mul_right _ hl
 refine ⟨_, (List.range len).map λ i => (l.drop (o + i * k)).take k, rfl, ⟨?_, some ⟨b, o, none⟩, cap, by simp, by simpa using hl, .inr ⟨b, o, l, rfl, hbk, hfit, ?_⟩⟩, .inr ⟨_, _, rfl, by simp [hlen], ?_⟩⟩
 ·intro c hc
  obtain ⟨i, hi, rfl⟩:=List.mem_map.1 hc
  have hi' : i < len:=List.mem_range.1 hi
  have : (i + 1) * k <= cap * k:=Nat.mul_le_mul_right _ (by omega)
  rw [Nat.add_mul] at this
  rw [List.length_take, List.length_drop]
  omega
 ·rw [hels len hl]; simp
 ·intro i c d hc hd
  have hil : i < len:=by
   have:=(List.getElem?_eq_some_iff.1 hc).1
   simpa using this
  simp [hil] at hc
  obtain ⟨c', y, h1, h2, h3⟩:=hall i (by omega)
  have he:=h3 hil
  rw [List.getElem?_map, he] at hd
  simp at hd
  subst hd
  refine ⟨n, y.2, ?_⟩
  have hcc : c = c':=by
   have hcl:=(cells_get h1).1
   have : (i + 1) * k <= cap * k:=Nat.mul_le_mul_right _ (by omega)
   rw [Nat.add_mul] at this
   apply List.ext_getElem?
   intro j
   by_cases hj : j < k
   ·obtain ⟨c2, h4, h5, h6⟩:=hread i j (by omega) hj
    rw [h1] at h4; cases h4
    rw [<- h5, <- hc, List.getElem?_take, if_pos hj, List.getElem?_drop]
   ·rw [List.getElem?_eq_none (by rw [<- hc, List.length_take]; omega), List.getElem?_eq_none (by omega)]
  rw [hcc]; exact h2
end
end Go.Lift
namespace Go.Proofs.YthlpfhjcdedhgaaGreatDoor
open Go.Lift
inductive Shs where
 | nil
 | int (k : IntKind) (r : Shs)
 | bool (r : Shs)
 | str (r : Shs)
 | slice (e r : Shs)
def Shs.len : Shs -> Nat
 | .nil => 0
 | .int _ r => r.len + 1
 | .bool r => r.len + 1
 | .str r => r.len + 1
 | .slice _ r => r.len + 1
def Shs.app : Shs -> Shs -> Shs
 | .nil, s => s
 | .int k r, s => .int k (r.app s)
 | .bool r, s => .bool (r.app s)
 | .str r, s => .str (r.app s)
 | .slice e r, s => .slice e (r.app s)
def shFields (sh : TypeId -> Option Shs) : List Field -> Nat -> Option Shs
 | [], _ => some .nil
 | f :: fs, off => if f.offset = off then match sh f.type with
   | some s => match shFields sh fs (off + s.len) with
    | some r => some (s.app r)
    | none => none
   | none => none
  else none
def shOf (P : Program) : Nat -> TypeId -> Option Shs
 | 0, _ => none
 | n + 1, t => match P.underlying t with
  | some (.int k) => some (.int k .nil)
  | some .bool => some (.bool .nil)
  | some .string => some (.str .nil)
  | some (.slice e) => match shOf P n e with
   | some s => if 0 < s.len /\ P.cellsOf e = s.len then some (.slice s .nil) else none
   | none => none
  | some (.struct fs) => match shFields (shOf P n) fs.toList 0 with
   | some s => if P.cellsOf t = s.len then some s else none
   | none => none
  | _ => none
def Shs.Rd (w : World) : Shs -> List Value -> Nat -> Prop
 | .nil, cs, _ => cs = []
 | .int k r, cs, n => ∃ (i : Int) (cs' : List Value) (m : Nat), cs = .int k i :: cs' /\ (Lit.int k i).wf = true /\ m + 1 <= n /\ r.Rd w cs' m
 | .bool r, cs, n => ∃ (b : Bool) (cs' : List Value) (m : Nat), cs = .bool b :: cs' /\ m + 1 <= n /\ r.Rd w cs' m
 | .str r, cs, n => ∃ (s : ByteArray) (cs' : List Value) (m : Nat), cs = .string s :: cs' /\ m + (s.size + 1) <= n /\ r.Rd w cs' m
 | .slice e r, cs, n => ∃ (v : Value) (els : List (List Value)) (cs' : List Value) (ns : List Nat) (m : Nat), cs = v :: cs' /\ Sl e.len w v els /\ ns.length = els.length /\
   (∀ (i : Nat) (c : List Value) (k : Nat), els[i]? = some c -> ns[i]? = some k -> 1 <= k /\ e.Rd w c k) /\ m + (ns.sum + 1) <= n /\ r.Rd w cs' m
theorem Shs.app_len : ∀ a b : Shs, (a.app b).len = a.len + b.len
 | .nil, b => by simp [Shs.app, Shs.len]
 | .int k r, b => by simp only [Shs.app, Shs.len, Shs.app_len r b]; omega
 | .bool r, b => by simp only [Shs.app, Shs.len, Shs.app_len r b]; omega
 | .str r, b => by simp only [Shs.app, Shs.len, Shs.app_len r b]; omega
 | .slice e r, b => by simp only [Shs.app, Shs.len, Shs.app_len r b]; omega
section
variable {w : World}
theorem Shs.Rd.len : ∀ {s : Shs} {cs : List Value} {n : Nat}, s.Rd w cs n -> cs.length = s.len
 | .nil, cs, n, h => by cases h; rfl
 | .int k r, cs, n, ⟨i, cs', m, h1, _, _, h3⟩ => by subst h1; simp [Shs.len, Shs.Rd.len h3]
 | .bool r, cs, n, ⟨i, cs', m, h1, _, h3⟩ => by subst h1; simp [Shs.len, Shs.Rd.len h3]
 | .str r, cs, n, ⟨i, cs', m, h1, _, h3⟩ => by subst h1; simp [Shs.len, Shs.Rd.len h3]
 | .slice e r, cs, n, ⟨v, els, cs', ns, m, h1, _, _, _, _, h3⟩ => by subst h1; simp [Shs.len, Shs.Rd.len h3]
theorem Shs.Rd.mono : ∀ {s : Shs} {cs : List Value} {n n' : Nat}, s.Rd w cs n -> n <= n' -> s.Rd w cs n'
 | .nil, cs, n, n', h, _ => h
 | .int k r, cs, n, n', ⟨i, cs', m, h1, h0, h2, h3⟩, h => ⟨i, cs', m, h1, h0, by omega, h3⟩
 | .bool r, cs, n, n', ⟨i, cs', m, h1, h2, h3⟩, h => ⟨i, cs', m, h1, by omega, h3⟩
 | .str r, cs, n, n', ⟨i, cs', m, h1, h2, h3⟩, h => ⟨i, cs', m, h1, by omega, h3⟩
 | .slice e r, cs, n, n', ⟨v, els, cs', ns, m, h1, h2, h3, h4, h5, h6⟩, h => ⟨v, els, cs', ns, m, h1, h2, h3, h4, by omega, h6⟩
theorem Shs.Rd.app : ∀ {a b : Shs} {cs ds : List Value} {n k : Nat}, a.Rd w cs n -> b.Rd w ds k -> (a.app b).Rd w (cs ++ ds) (n + k)
 | .nil, b, cs, ds, n, k, h, h' => by cases h; exact h'.mono (by omega)
 | .int _ r, b, cs, ds, n, k, ⟨i, cs', m, h1, h0, h2, h3⟩, h' => ⟨i, cs' ++ ds, m + k, by rw [h1]; rfl, h0, by omega, h3.app h'⟩
 | .bool r, b, cs, ds, n, k, ⟨i, cs', m, h1, h2, h3⟩, h' => ⟨i, cs' ++ ds, m + k, by rw [h1]; rfl, by omega, h3.app h'⟩
 | .str r, b, cs, ds, n, k, ⟨i, cs', m, h1, h2, h3⟩, h' => ⟨i, cs' ++ ds, m + k, by rw [h1]; rfl, by omega, h3.app h'⟩
 | .slice e r, b, cs, ds, n, k, ⟨v, els, cs', ns, m, h1, h2, h3, h4, h5, h6⟩, h' => ⟨v, els, cs' ++ ds, ns, m + k, by rw [h1]; rfl, h2, h3, h4, by omega, h6.app h'⟩
end
theorem bulkT_one {H : Type} (d : DataW H) : 1 <= Rows.uptoBulk d:=by
 cases d with
 | lit l => cases l <;> simp [Rows.uptoBulk]
 | nil => simp [Rows.uptoBulk]
 | ptr d => simp [Rows.uptoBulk]
 | slice elems spare => simp [Rows.uptoBulk]
 | agg parts => simp [Rows.uptoBulk]
 | iface t d => simp [Rows.uptoBulk]
 | map entries => simp [Rows.uptoBulk]
 | held h => simp [Rows.uptoBulk]
theorem bulkT_sum {H : Type} : ∀ l : List (DataW H), (l.map Rows.uptoBulk).sum = Rows.uptoBulkAll l
 | [] => by simp [Rows.uptoBulkAll]
 | x :: r => by simp [Rows.uptoBulkAll, bulkT_sum r]
theorem take_of_len {l : List Value} {c k : Nat} (h : (l.take c).length = k) : l.take c = l.take k:=by
 rw [List.length_take] at h
 have : l.take k = (l.take c).take k:=by
  rw [List.take_take]
  by_cases hc : k <= c
  ·rw [Nat.min_eq_left hc]
  ·omega
 exact (this.trans (List.take_of_length_le (by rw [List.length_take]; omega))).symm
section
variable {H : Type} {enc : TypeId × Value -> H} {P : Program} {w : World}
theorem rd_fields {sh : TypeId -> Option Shs} {n : Nat} (ih : ∀ t s cs x, sh t = some s -> DataW.trod enc P w 0 (λ _ => true) true n t cs = some x -> s.Rd w cs (Rows.uptoBulk x.1)) (cs : List Value) :
  ∀ (fs : List Field) (off : Nat) (s : Shs) (xs : List (DataW H × List MemPlace)), shFields sh fs off = some s -> xs.length = fs.length ->
   (∀ (i : Nat) (f : Field), fs[i]? = some f -> DataW.trod enc P w 0 (λ _ => true) true n f.type ((cs.drop f.offset).take (P.cellsOf f.type)) = xs[i]?) ->
   s.Rd w ((cs.drop off).take s.len) (Rows.uptoBulkAll (xs.map (·.1)))
 | [], off, s, xs, h, _, _ => by
  cases h
  simp [Shs.len, Shs.Rd]
 | f :: fs, off, s, xs, h, hl, hf => by
  cases xs with
  | nil => simp at hl
  | cons x xs =>
   unfold shFields at h
   split at h
   ·rename_i hoff
    cases h1 : sh f.type with
    | none => simp [h1] at h
    | some a =>
     simp only [h1] at h
     cases h2 : shFields sh fs (off + a.len) with
     | none => simp [h2] at h
     | some r =>
      simp only [h2, Option.some.injEq] at h
      subst h
      have e0:=hf 0 f rfl
      rw [List.getElem?_cons_zero] at e0
      have r0:=ih _ _ _ _ h1 e0
      have hlen:=r0.len
      rw [take_of_len hlen, hoff] at r0
      have r1:=rd_fields ih cs fs (off + a.len) r xs h2 (by simpa using hl) λ i g hg => by
       have:=hf (i + 1) g (by simpa using hg)
       simpa using this
      have:=r0.app r1
      rw [Shs.app_len, List.take_add, List.drop_drop]
      simp only [List.map_cons, Rows.uptoBulkAll]
      exact this
   ·cases h
theorem rd_of_trod : ∀ (n : Nat) (t : TypeId) (s : Shs) (fuel : Nat) (cs : List Value) (x : DataW H × List MemPlace), shOf P n t = some s -> DataW.trod enc P w 0 (λ _ => true) true fuel t cs = some x -> s.Rd w cs (Rows.uptoBulk x.1)
 | 0, t, s, fuel, cs, x, h, _ => by cases h
 | n + 1, t, s, fuel, cs, x, h, hx => by
  unfold shOf at h
  split at h
  ·rename_i k hu
   cases h
   obtain ⟨i, rfl, rfl, hr⟩:=DataW.trod_int hu hx
   exact ⟨i, [], 0, rfl, hr, bulkT_one _, rfl⟩
  ·rename_i hu
   cases h
   obtain ⟨i, rfl, rfl⟩:=DataW.trod_bool hu hx
   exact ⟨i, [], 0, rfl, bulkT_one _, rfl⟩
  ·rename_i hu
   cases h
   obtain ⟨i, rfl, rfl, _⟩:=DataW.trod_string hu hx
   refine ⟨i, [], 0, rfl, ?_, rfl⟩
   simp only [Rows.uptoBulk, Array.length_toList, Nat.zero_add]
   exact Nat.le_refl _
  ·rename_i e hu
   cases h1 : shOf P n e with
   | none => simp [h1] at h
   | some a =>
    simp only [h1] at h
    split at h
    ·rename_i hc
     cases h
     obtain ⟨v, els, rfl, hs, hcase⟩:=open_sl hu hc.2 hc.1 hx
     rcases hcase with ⟨hn, rfl⟩ | ⟨Ds, spare, hd, hl, hel⟩
     ·refine ⟨v, [], [], [], 0, rfl, hs, rfl, λ i c k hi => by simp at hi, ?_, rfl⟩
      rw [hn]; simp [Rows.uptoBulk]
     ·refine ⟨v, els, [], Ds.map Rows.uptoBulk, 0, rfl, hs, by simpa using hl, λ i c k hi hk => ?_, ?_, rfl⟩
      ·rw [List.getElem?_map] at hk
       cases hd' : Ds[i]? with
       | none => simp [hd'] at hk
       | some d =>
        simp only [hd', Option.map_some, Option.some.injEq] at hk
        subst hk
        obtain ⟨m, ps, hm⟩:=hel i c d hi hd'
        exact ⟨bulkT_one d, rd_of_trod n e a m c (d, ps) h1 hm⟩
      ·rw [hd, bulkT_sum]; simp only [Rows.uptoBulk]; omega
    ·cases h
  ·rename_i fs hu
   cases h1 : shFields (shOf P n) fs.toList 0 with
   | none => simp [h1] at h
   | some a =>
    simp only [h1] at h
    split at h
    ·rename_i hc
     cases h
     obtain ⟨xs, m, _, rfl, hl, hxl, hf⟩:=DataW.trod_struct hu hx
     have:=rd_fields (sh:=shOf P n) (n:=m) (λ t s cs x h h' => rd_of_trod n t s m cs x h h') cs fs.toList 0 s xs h1 (by simpa using hxl) λ i f hi => hf i f (by simpa using hi)
     rw [List.drop_zero, List.take_of_length_le (by omega)] at this
     refine this.mono ?_
     simp only [Rows.uptoBulk]; omega
    ·cases h
  ·cases h
end
theorem els_map {T : Type} {f : T -> List Value} : ∀ {els : List (List Value)}, (∀ c ∈ els, ∃ a : T, c = f a) -> ∃ l : List T, els = l.map f
 | [], _ => ⟨[], rfl⟩
 | c :: els, h => by
  obtain ⟨a, ha⟩:=h c (by simp)
  obtain ⟨l, hl⟩:=els_map (els:=els) λ c hc => h c (by simp [hc])
  exact ⟨a :: l, by rw [ha, hl]; rfl⟩
theorem le_sum_of_mem : ∀ {l : List Nat} {k : Nat}, k ∈ l -> k <= l.sum
 | x :: l, k, h => by
  rcases List.mem_cons.1 h with rfl | h
  ·simp
  ·have:=le_sum_of_mem h; simp; omega
theorem Shs.Rd.slice1 {T : Type} {f : T -> List Value} {w : World} {e : Shs} {v : Value} {n : Nat} (h : (Shs.slice e .nil).Rd w [v] n) (hf : ∀ c k, k <= n -> e.Rd w c k -> ∃ a : T, c = f a) :
  ∃ l : List T, Sl e.len w v (l.map f) /\ l.length <= n:=by
 obtain ⟨v', els, cs', ns, m, h1, h2, h3, h4, h5, h6⟩:=h
 cases h1
 obtain ⟨l, rfl⟩:=els_map (f:=f) (els:=els) λ c hc => by
  obtain ⟨i, hi⟩:=List.getElem?_of_mem hc
  have hil : i < ns.length:=by have:=(List.getElem?_eq_some_iff.1 hi).1; omega
  have:=le_sum_of_mem (List.getElem_mem hil)
  exact hf c _ (by omega) (h4 i c _ hi (List.getElem?_eq_getElem hil)).2
 refine ⟨l, h2, ?_⟩
 have : ∀ (els : List (List Value)) (ns : List Nat), ns.length = els.length -> (∀ (i : Nat) (c : List Value) (k : Nat), els[i]? = some c -> ns[i]? = some k -> 1 <= k) -> els.length <= ns.sum:=by
  intro els
  induction els with
  | nil => intro ns _ _; simp
  | cons c els ih =>
   intro ns hl hn
   cases ns with
   | nil => simp at hl
   | cons k ns =>
    have:=ih ns (by simpa using hl) λ i c k hi hk => hn (i + 1) c k (by simpa using hi) (by simpa using hk)
    have:=hn 0 c k rfl rfl
    simp; omega
 have:=this _ ns h3 λ i c k hi hk => (h4 i c k hi hk).1
 simp at this
 omega
end Go.Proofs.YthlpfhjcdedhgaaGreatDoor
namespace Go.Proofs.YthlpfhjcdedhgaaGreatDoor
open Go.Lift
set_option linter.unusedSimpArgs false
set_option linter.unusedVariables false
noncomputable def gTy (g : Nat) : TypeId:=((Tryz.prog.globals[g]?).map (·.type)).getD 0
noncomputable def eTy (g : Nat) : TypeId:=match Tryz.prog.underlying (gTy g) with
 | some (.array _ e) => e
 | _ => 0
theorem bk_of_var {W : World} {name : String} {k : IntKind} {zs : List Int} {g : Nat} (hg : Tryz.prog.globalNamed name = some g) (h : Lib.TabIs Tryz.prog W name k zs) : bk W g = some (zs.map λ z => Value.int k z):=by
 unfold Lib.TabIs World.var? at h
 rw [hg] at h
 simp only [Option.bind_some] at h
 unfold bk
 cases hh : W.heap[g]? with
 | none => rw [hh] at h; cases h
 | some x =>
  rw [hh] at h
  cases x with
  | cells c t m =>
   simp only [Option.some.injEq] at h
   subst h
   simp
  | _ => cases h
theorem tab_step {W : World} {name : String} {k : IntKind} {zs : List Int} {rest : List (String × DataW Unit)} {g : Nat} {t e : TypeId} {n : Nat} {ps : List MemPlace}
  (hg : Tryz.prog.globalNamed name = some g) (hty : (Tryz.prog.globals[g]?).map (·.type) = some t) (ht : Tryz.prog.underlying t = some (.array n e)) (he : Tryz.prog.underlying e = some (.int k)) (hce : Tryz.prog.cellsOf e = 1) (hct : Tryz.prog.cellsOf t = n)
  (h : DataW.LaidVars Tryz.prog W ((name, Lib.tabData k zs) :: rest) ps) : bk W g = some (zs.map λ z => Value.int k z) /\ ∃ q, DataW.LaidVars Tryz.prog W rest q:=by
 obtain ⟨g', t', cs, fuel, p, q, hg', ht', hvar, hd, hr, _⟩:=h
 obtain rfl:=Option.some.inj (hg.symm.trans hg')
 obtain rfl:=Option.some.inj (hty.symm.trans ht')
 refine ⟨bk_of_var hg ?_, q, hr⟩
 unfold Lib.TabIs
 rw [hvar, <- Lib.cells_of_tab ht he hce hct hd]
def nibZ : List Int:=[0, 498536548, 997073096, 651767980, 1994146192, 1802195444, 1303535960, 1342533948, 3988292384, 4027552580, 3604390888, 3412177804, 2607071920, 2262029012, 2685067896, 3183342108]
def deb64 : List Int:=[0,1,56,2,57,49,28,3,61,58,42,50,38,29,17,4,62,47,59,36,45,43,51,22,53,39,33,30,24,18,12,5,63,55,48,27,60,41,37,16,46,35,44,21,52,32,23,11,54,26,40,15,34,20,31,10,25,14,19,9,13,8,7,6]
def deb32 : List Int:=[0,1,28,2,29,14,24,3,30,22,20,15,25,17,4,8,31,27,13,23,21,19,16,7,26,12,18,6,11,5,10,9]
theorem ml_of {W : World} (h : W.ShapedOpen Tryz.prog) : ∃ m : Int, bk W 3 = some [.int .i64 m]:=by
 obtain ⟨cs, hh, hs, _⟩:=h.1 3 #[.int .i64 0] 3 (of_decide_eq_true (by kernel_rfl)) (by kernel_rfl)
 obtain ⟨m, hm⟩:=cell_of_shapedOpen_int (P:=Tryz.prog) (g:=3) (t:=3) (zero:=#[.int .i64 0]) h (of_decide_eq_true (by kernel_rfl)) (by kernel_rfl) rfl (by kernel_rfl) (by kernel_rfl) (show Tryz.prog.underlying 3 = some (.int .i64) by kernel_rfl)
 refine ⟨m, ?_⟩
 unfold World.cell? at hm
 rw [hh] at hm
 simp at hm
 unfold bk
 rw [hh]
 have h1 : cs.size = 1:=hs
 obtain ⟨x, rfl⟩ : ∃ x, cs = #[x]:=by
  obtain ⟨l⟩:=cs
  match l, h1 with
  | [x], _ => exact ⟨x, rfl⟩
 simp at hm
 rw [hm]
theorem sb_self (s : ByteArray) : s = sb s.data.toList:=rfl
def stI : Nat -> Nat -> Nat
 | 0, x => x
 | n + 1, x => stI n (st x)
theorem stI_add : ∀ (a b x : Nat), stI (a + b) x = stI b (stI a x)
 | 0, b, x => by rw [Nat.zero_add]; rfl
 | a + 1, b, x => by rw [show a + 1 + b = (a + b) + 1 by omega]; exact stI_add a b (st x)
theorem stI_succ (n x : Nat) : stI (n + 1) x = st (stI n x):=stI_add n 1 x
theorem stI_lt : ∀ (n : Nat) {x : Nat}, x < 4294967296 -> stI n x < 4294967296
 | 0, x, h => h
 | n + 1, x, h => stI_lt n (st_lt h)
theorem st_zero : st 0 = 0:=rfl
theorem stI_zero : ∀ n, stI n 0 = 0
 | 0 => rfl
 | n + 1 => by show stI n (st 0) = 0; rw [st_zero]; exact stI_zero n
theorem stI_xor : ∀ (n x y : Nat), stI n (x ^^^ y) = stI n x ^^^ stI n y
 | 0, x, y => rfl
 | n + 1, x, y => by show stI n (st (x ^^^ y)) = _; rw [st_xor, stI_xor n]; rfl
def accF (a b : Nat) : Nat -> Nat
 | 0 => 0
 | i + 1 => accF a b i ^^^ (if a.testBit (31 - i) = true then stI i b else 0)
theorem stI_top : ∀ i, i <= 31 -> stI i 2147483648 = 2 ^ (31 - i):=by decide +kernel
theorem accF_st (a k : Nat) : ∀ i, accF a (stI k 2147483648) i = stI k (accF a 2147483648 i)
 | 0 => by unfold accF; rw [stI_zero]
 | i + 1 => by
  unfold accF
  rw [stI_xor, accF_st a k i]
  congr 1
  split
  ·rw [<- stI_add, <- stI_add, Nat.add_comm]
  ·rw [stI_zero]
theorem accF_bit (a : Nat) : ∀ i, i <= 32 -> ∀ j, (accF a 2147483648 i).testBit j = (decide (32 - i <= j /\ j < 32) && a.testBit j)
 | 0, _, j => by
  unfold accF
  rw [Nat.zero_testBit, decide_eq_false (by omega), Bool.false_and]
 | i + 1, h, j => by
  unfold accF
  rw [Nat.testBit_xor, accF_bit a i (by omega) j, stI_top i (by omega)]
  by_cases hj : j = 31 - i
  ·subst hj
   rw [decide_eq_false (by omega), decide_eq_true (by omega)]
   split
   ·rename_i hb; rw [hb, Nat.testBit_two_pow_self]; rfl
   ·rename_i hb; simp at hb; rw [hb]; simp
  ·have e : (if a.testBit (31 - i) = true then 2 ^ (31 - i) else 0).testBit j = false:=by
    split
    ·rw [Nat.testBit_two_pow]; exact decide_eq_false (by omega)
    ·exact Nat.zero_testBit j
   have e2 : decide (32 - i <= j /\ j < 32) = decide (32 - (i + 1) <= j /\ j < 32):=decide_eq_decide.2 (by omega)
   rw [e, Bool.xor_false, e2]
theorem accF_one {a : Nat} (h : a < 4294967296) : accF a 2147483648 32 = a:=by
 apply Nat.eq_of_testBit_eq
 intro j
 rw [accF_bit a 32 (Nat.le_refl _) j]
 by_cases hj : j < 32
 ·rw [decide_eq_true (by omega), Bool.true_and]
 ·rw [decide_eq_false (by omega), Bool.false_and]
  exact (Nat.testBit_lt_two_pow (Nat.lt_of_lt_of_le h (Nat.pow_le_pow_right (n:=2) (i:=32) (by decide) (by omega)))).symm
theorem times_st {a : Nat} (k : Nat) (h : a < 4294967296) : accF a (stI k 2147483648) 32 = stI k a:=by rw [accF_st, accF_one h]
def orF (v k : Nat) : Nat -> Nat
 | 0 => 0
 | i + 1 => orF v k i ^^^ (if v.testBit i = true then stI k (2 ^ i) else 0)
theorem mod_succ (v i : Nat) : v % 2 ^ (i + 1) = v % 2 ^ i ^^^ (if v.testBit i = true then 2 ^ i else 0):=by
 apply Nat.eq_of_testBit_eq
 intro j
 rw [Nat.testBit_xor, Nat.testBit_mod_two_pow, Nat.testBit_mod_two_pow]
 by_cases hj : j = i
 ·subst hj
  rw [decide_eq_true (by omega), decide_eq_false (by omega), Bool.true_and, Bool.false_and, Bool.false_xor]
  split
  ·rename_i hb; rw [hb, Nat.testBit_two_pow_self]
  ·rename_i hb; simp at hb; rw [hb, Nat.zero_testBit]
 ·have e : (if v.testBit i = true then 2 ^ i else 0).testBit j = false:=by
   split
   ·rw [Nat.testBit_two_pow]; exact decide_eq_false (by omega)
   ·exact Nat.zero_testBit j
  have e2 : decide (j < i + 1) = decide (j < i):=decide_eq_decide.2 (by omega)
  rw [e, Bool.xor_false, e2]
theorem orF_st (v k : Nat) : ∀ i, orF v k i = stI k (v % 2 ^ i)
 | 0 => by unfold orF; rw [Nat.pow_zero, Nat.mod_one, stI_zero]
 | i + 1 => by
  unfold orF
  rw [mod_succ, stI_xor, orF_st v k i]
  congr 1
  split
  ·rfl
  ·rw [stI_zero]
theorem orF_all {v : Nat} (k : Nat) (h : v < 4294967296) : orF v k 32 = stI k v:=by
 rw [orF_st, Nat.mod_eq_of_lt (by simpa using h)]
def joinF (a b n : Nat) : Nat:=stI (8 * n) a ^^^ b
theorem joinF_lt {a b : Nat} (n : Nat) (h : a < 4294967296) (h' : b < 4294967296) : joinF a b n < 4294967296:=Nat.xor_lt_two_pow (n:=32) (stI_lt _ h) h'
end Go.Proofs.YthlpfhjcdedhgaaGreatDoor
namespace Go.Proofs.YthlpfhjcdedhgaaGreatDoor
open Go.Lift
set_option linter.unusedSimpArgs false
set_option linter.unusedVariables false
set_option maxHeartbeats 4000000
theorem binV_and32 {a b : Nat} (ha : a < 4294967296) (hb : b < 4294967296) : intBin .and .u32 a b = some (.int .u32 ((a &&& b : Nat) : Int)):=by
 have h : a &&& b < 4294967296:=Nat.lt_of_le_of_lt Nat.and_le_left ha
 simp only [intBin]
 rw [bv_and (n:=IntKind.u32.bits) (show a < 2 ^ 32 from ha) (show b < 2 ^ 32 from hb), u32W h]
theorem shr_one {k : IntKind} {a : Nat} : shV .shr (.int k a) (.int .u64 1) = some (.int k ((a / 2 : Nat) : Int)):=by
 have h : ¬ ((1 : Int) < 0):=by omega
 simp only [shV, h, if_false]
 rw [show (1 : Int).toNat = 1 from rfl, Nat.min_eq_left (by cases k <;> decide), Int.fdiv_eq_ediv_of_nonneg _ (by decide)]
 norm_cast
theorem accF_lt (a : Nat) {b : Nat} (hb : b < 4294967296) : ∀ i, accF a b i < 4294967296
 | 0 => by unfold accF; decide
 | i + 1 => by
  unfold accF
  refine Nat.xor_lt_two_pow (n:=32) (accF_lt a hb i) ?_
  split
  ·exact stI_lt _ hb
  ·decide
def mskF (i : Nat) : Nat:=if i < 32 then 2 ^ (31 - i) else 0
theorem msk_half : ∀ i, i < 32 -> mskF i / 2 = mskF (i + 1):=by decide +kernel
theorem msk_lt : ∀ i, i < 32 -> mskF i < 4294967296 /\ mskF i ≠ 0:=by decide +kernel
section
variable {w w1 w2 : World}
theorem times_run {a b : Nat} (ha : a < 4294967296) (hb : b < 4294967296) : Run (F.digest_times (.int .u32 (a : Int)) (.int .u32 (b : Int))) w λ r w' => r = .int .u32 ((accF a b 32 : Nat) : Int) /\ w' = w:=by
 unfold F.digest_times
 rw [Run_bind]
 refine Run_for 32 (λ i L w' => L = [.int .u32 ((stI i b : Nat) : Int), .int .u32 ((accF a b i : Nat) : Int), .int .u32 ((mskF i : Nat) : Int)] /\ w' = w) ⟨rfl, rfl⟩ ?_ ?_
 ·rintro i L w1 hi ⟨rfl, rfl⟩
  obtain ⟨m1, m2⟩:=msk_lt i hi
  have hmh:=msk_half i hi
  have hs:=stI_lt i hb
  have hp:=accF_lt a hb i
  have hne : (!decide (((mskF i : Nat) : Int) = 0)) = true:=by
   have : ¬ ((mskF i : Nat) : Int) = 0:=by omega
   rw [decide_eq_false this]; rfl
  have hand : a &&& mskF i = if a.testBit (31 - i) = true then 2 ^ (31 - i) else 0:=by
   unfold mskF
   rw [if_pos hi]
   apply Nat.eq_of_testBit_eq
   intro j
   rw [Nat.testBit_and, Nat.testBit_two_pow]
   by_cases hj : 31 - i = j
   ·subst hj
    cases hb : a.testBit (31 - i) with
    | true => simp [Nat.testBit_two_pow_self]
    | false => simp
   ·rw [decide_eq_false hj, Bool.and_false]
    split
    ·rw [Nat.testBit_two_pow, decide_eq_false hj]
    ·rw [Nat.zero_testBit]
  have hacc : accF a b (i + 1) = accF a b i ^^^ (if a.testBit (31 - i) = true then stI i b else 0):=rfl
  have hsucc:=stI_succ i b
  have hpl:=binV_and32 ha m1
  rw [getL_succ, getL_succ, getL_zero, binV_int, intBin_neq]
  have e0 : (0 : Int) = ((0 : Nat) : Int):=rfl
  rw [hne, Run_bindO_some, Run_condM_true, getL_succ, getL_zero, getL_zero, Run_bind, Run_bind]
  have first : Run (bindO (binV BinOp.and (.int .u32 (a : Int)) (.int .u32 ((mskF i : Nat) : Int))) λ x3 =>
     bindO (binV BinOp.neq x3 (Value.int IntKind.u32 0)) λ x4 =>
     condM x4 (
      bindO (binV BinOp.xor (.int .u32 ((accF a b i : Nat) : Int)) (.int .u32 ((stI i b : Nat) : Int))) λ x5 =>
      M.ret (Out.norm [x5])) (
      M.ret (Out.norm [(.int .u32 ((accF a b i : Nat) : Int))]))) w1 λ o w' => o = .norm [.int .u32 ((accF a b (i + 1) : Nat) : Int)] /\ w' = w1:=by
   rw [binV_int, hpl, Run_bindO_some, binV_int, intBin_neq, hand]
   cases hbit : a.testBit (31 - i) with
   | true =>
    have hn : (!decide (((2 ^ (31 - i) : Nat) : Int) = 0)) = true:=by
     have h1 : (0 : Nat) < 2 ^ (31 - i):=Nat.two_pow_pos _
     generalize 2 ^ (31 - i) = z at h1
     have : ¬ ((z : Nat) : Int) = 0:=by omega
     rw [decide_eq_false this]; rfl
    rw [if_pos rfl, hn, Run_bindO_some, Run_condM_true, binV_int, binV_xor32 hp hs, Run_bindO_some, Run_ret, hacc, hbit, if_pos rfl]
    exact ⟨rfl, rfl⟩
   | false =>
    have hn : (!decide (((0 : Nat) : Int) = 0)) = false:=rfl
    rw [if_neg (by simp), hn, Run_bindO_some, Run_condM_false, Run_ret, hacc, hbit, if_neg (by simp), Nat.xor_zero]
    exact ⟨rfl, rfl⟩
  refine first.mono ?_
  rintro _ w1 ⟨rfl, rfl⟩
  rw [outK_norm, binV_int]
  have h1:=binV_and32 (a:=stI i b) (b:=1) hs (by decide)
  have e1 : ((1 : Nat) : Int) = 1:=rfl
  rw [e1, Nat.and_one_is_mod] at h1
  rw [h1, Run_bindO_some, binV_int, intBin_neq, Run_bindO_some, shr_one, Run_bindO_some, getL_zero]
  have hst : st (stI i b) = if stI i b % 2 = 0 then stI i b / 2 else (stI i b / 2) ^^^ PLY:=rfl
  have fin : ∀ {K : Out -> World -> Prop}, K (.norm [.int .u32 ((stI (i + 1) b : Nat) : Int), .int .u32 ((accF a b (i + 1) : Nat) : Int)]) w1 -> Run (condM (.bool (!decide (((stI i b % 2 : Nat) : Int) = 0))) (
      bindO (binV BinOp.xor (.int .u32 ((stI i b / 2 : Nat) : Int)) (Value.int IntKind.u32 3988292384)) λ x13 =>
      M.ret (Out.norm [x13, .int .u32 ((accF a b (i + 1) : Nat) : Int)])) (
      M.ret (Out.norm [.int .u32 ((stI i b / 2 : Nat) : Int), .int .u32 ((accF a b (i + 1) : Nat) : Int)]))) w1 K:=λ {K} hK => by
   rw [hsucc, hst] at hK
   by_cases h2 : stI i b % 2 = 0
   ·rw [if_pos h2] at hK
    rw [h2, show (!decide (((0 : Nat) : Int) = 0)) = false from rfl, Run_condM_false, Run_ret]
    exact hK
   ·rw [if_neg h2] at hK
    have hn : (!decide (((stI i b % 2 : Nat) : Int) = 0)) = true:=by
     have : ¬ ((stI i b % 2 : Nat) : Int) = 0:=by omega
     rw [decide_eq_false this]; rfl
    have hx:=binV_xor32 (a:=stI i b / 2) (b:=PLY) (by omega) (by decide)
    have ep : ((PLY : Nat) : Int) = 3988292384:=rfl
    rw [ep] at hx
    rw [hn, Run_condM_true, binV_int, hx, Run_bindO_some, Run_ret]
    exact hK
  refine fin ?_
  simp only [outK_norm]
  rw [shr_one, Run_bindO_some, Run_ret, hmh]
  exact ⟨rfl, rfl⟩
 ·rintro L w1 ⟨rfl, rfl⟩
  have hm : mskF 32 = 0:=rfl
  rw [getL_succ, getL_succ, getL_zero, hm, binV_int, intBin_neq, show (!decide (((0 : Nat) : Int) = 0)) = false from rfl, Run_bindO_some, Run_condM_false, Run_ret]
  simp only [outK_exit]
  rw [show Nat.beq 0 0 = true from rfl, cond_true, Run_ret]
  exact ⟨rfl, rfl⟩
theorem and64_one {n : Nat} (h : n < 9223372036854775808) : intBin .and .i64 (n : Int) 1 = some (.int .i64 ((n % 2 : Nat) : Int)):=by
 have e1 : (1 : Int) = ((1 : Nat) : Int):=rfl
 rw [e1]
 simp only [intBin]
 rw [bv_and (n:=IntKind.i64.bits) (show n < 2 ^ 64 by omega) (show 1 < 2 ^ 64 by decide), Nat.and_one_is_mod, i64W (by omega)]
theorem shifted_run {n : Nat} (hn : n <= 9007199254740992) : Run (F.digest_shifted (.int .i64 (n : Int))) w λ r w' => r = .int .u32 ((stI (8 * n) 2147483648 : Nat) : Int) /\ w' = w:=by
 unfold F.digest_shifted
 rw [Run_bind]
 have h31 : ∀ k, stI k 2147483648 < 4294967296:=λ k => stI_lt k (by decide)
 refine Run_loopM (λ L w' => (∃ m r q : Nat, L = [.int .i64 (m : Int), .int .u32 ((stI (8 * r) 2147483648 : Nat) : Int), .int .u32 ((stI (8 * q) 2147483648 : Nat) : Int)] /\ r + q * m = n /\ m <= n) /\ w' = w) (λ L _ => match getL L 0 with | .int _ z => z.toNat | _ => 0) ?_ ⟨⟨n, 0, 1, rfl, by omega, Nat.le_refl _⟩, rfl⟩
 rintro L w1 ⟨⟨m, r, q, rfl, hr, hmn⟩, rfl⟩
 have fin : ∀ {α : Type} {K : α -> World -> Prop} {k : α}, K k w1 -> K k w1:=λ h => h
 rw [getL_zero, binV_int, intBin_gtr]
 by_cases hm : m = 0
 ·subst hm
  rw [show decide (((0 : Nat) : Int) > 0) = false from rfl, Run_bindO_some, Run_condM_false, Run_ret]
  simp only [outK_exit, getL_succ, getL_zero]
  rw [show Nat.beq 0 0 = true from rfl, cond_true, Run_ret]
  have : r = n:=by omega
  rw [this]
  exact ⟨rfl, rfl⟩
 have hg : decide ((m : Int) > 0) = true:=decide_eq_true (by omega)
 rw [hg, Run_bindO_some, Run_condM_true]
 simp only [getL_zero, getL_succ]
 rw [Run_bind]
 have e2 : m = 2 * (m / 2) + m % 2:=(Nat.div_add_mod m 2).symm
 have first : Run (bindO (binV BinOp.and (.int .i64 (m : Int)) (Value.int IntKind.i64 1)) λ x3 =>
    bindO (binV BinOp.eql x3 (Value.int IntKind.i64 1)) λ x4 =>
    condM x4 (
     M.bind (F.digest_times (.int .u32 ((stI (8 * r) 2147483648 : Nat) : Int)) (.int .u32 ((stI (8 * q) 2147483648 : Nat) : Int))) λ x5 =>
     M.ret (Out.norm [x5])) (
     M.ret (Out.norm [.int .u32 ((stI (8 * r) 2147483648 : Nat) : Int)]))) w1 λ o w' => o = .norm [.int .u32 ((stI (8 * (r + q * (m % 2))) 2147483648 : Nat) : Int)] /\ w' = w1:=by
  rw [binV_int, and64_one (by omega), Run_bindO_some, binV_int, intBin_eql, Run_bindO_some]
  rcases Nat.mod_two_eq_zero_or_one m with h | h
  ·rw [h, show decide (((0 : Nat) : Int) = 1) = false from rfl, Run_condM_false, Run_ret, Nat.mul_zero, Nat.add_zero]
   exact ⟨rfl, rfl⟩
  ·rw [h, show decide (((1 : Nat) : Int) = 1) = true from rfl, Run_condM_true, Run_bind]
   refine (times_run (h31 _) (h31 _)).mono ?_
   rintro _ _ ⟨rfl, rfl⟩
   rw [Run_ret, times_st _ (h31 _), <- stI_add, Nat.mul_one, Nat.mul_add]
   exact ⟨rfl, rfl⟩
 refine first.mono ?_
 rintro _ w1 ⟨rfl, rfl⟩
 rw [outK_norm, Run_bind]
 refine (times_run (h31 _) (h31 _)).mono ?_
 rintro _ _ ⟨rfl, rfl⟩
 rw [times_st _ (h31 _), <- stI_add, shr_one, Run_bindO_some, Run_ret]
 try simp only [getL_zero]
 refine ⟨⟨⟨m / 2, r + q * (m % 2), 2 * q, by rw [show 8 * q + 8 * q = 8 * (2 * q) by omega], ?_, by omega⟩, trivial⟩, ?_⟩
 ·rw [<- hr, Nat.add_assoc]
  congr 1
  rw [Nat.mul_comm 2 q, Nat.mul_assoc, <- Nat.mul_add, Nat.add_comm, <- e2]
 ·show ((((m / 2 : Nat) : Int)).toNat) < (((m : Nat) : Int)).toNat
  omega
theorem sumOK_run {a : Int} : Run (F.digest_sumOK (.int .i64 a)) w λ r w' => r = .bool (decide (0 <= a /\ a <= 4294967295)) /\ w' = w:=by
 unfold F.digest_sumOK
 by_cases h1 : 0 <= a <;> by_cases h2 : a <= 4294967295 <;> simp [h1, h2]
theorem crcjoin_run {a b n : Nat} (ha : a < 4294967296) (hb : b < 4294967296) (hn : n <= 9007199254740992) : Run (F.digest_CRCJoin (.int .i64 (a : Int)) (.int .i64 (b : Int)) (.int .i64 (n : Int))) w λ r w' => r = .tuple #[.int .i64 ((joinF a b n : Nat) : Int), .int .i64 0] /\ w' = w:=by
 unfold F.digest_CRCJoin
 have nv : ∀ b, notV (.bool b) = some (.bool !b):=λ _ => rfl
 rw [Run_bind]
 refine sumOK_run.mono ?_
 rintro _ _ ⟨rfl, rfl⟩
 have h1 : decide (0 <= (a : Int) /\ (a : Int) <= 4294967295) = true:=decide_eq_true (by omega)
 have h2 : decide (0 <= (b : Int) /\ (b : Int) <= 4294967295) = true:=decide_eq_true (by omega)
 have h3 : ¬ (n : Int) < 0:=by omega
 have h4 : ¬ (n : Int) > 9007199254740992:=by omega
 rw [h1, nv, Run_bindO_some]
 simp only [Bool.not_true, Run_bind, Run_guardM_ff, Run_ret]
 refine sumOK_run.mono ?_
 rintro _ _ ⟨rfl, rfl⟩
 rw [h2, nv, Run_optM_some]
 simp only [Bool.not_true, pickV_bool, cond_false, Run_bindO_some, Run_bind, Run_guardM_ff, Run_ret, binV_int, intBin_lss, h3, decide_false, Run_optM_some, intBin_gtr, h4, Run_condM_false, cvtI_int, u32W ha, u32W hb]
 refine (shifted_run hn).mono ?_
 rintro _ _ ⟨rfl, rfl⟩
 refine (times_run ha (stI_lt _ (by decide))).mono ?_
 rintro _ _ ⟨rfl, rfl⟩
 have hj:=joinF_lt n ha hb
 rw [times_st _ ha, binV_int, binV_xor32 (stI_lt _ ha) hb, Run_bindO_some, cvtI_int, i64W (show stI (8 * n) a ^^^ b < 9223372036854775808 by unfold joinF at hj; omega), Run_bindO_some, Run_ret]
 exact ⟨rfl, rfl⟩
end
end Go.Proofs.YthlpfhjcdedhgaaGreatDoor
namespace Go.Proofs.YthlpfhjcdedhgaaGreatDoor
open Go.Lift
set_option linter.unusedSimpArgs false
set_option linter.unusedVariables false
set_option maxHeartbeats 4000000
set_option maxRecDepth 4000
def powV : List Value:=(List.range 32).map λ i => Value.int .i64 ((2 ^ i : Nat) : Int)
def rowP (k i : Nat) : List Value:=(List.range 32).map λ j => Value.int .i64 (((if j < i then stI k (2 ^ j) else 0) : Nat) : Int)
abbrev rowS (k : Nat) : List Value:=rowP k 32
theorem rowP_len (k i : Nat) : (rowP k i).length = 32:=by simp [rowP]
theorem rowP_set {k i : Nat} (hi : i < 32) : (rowP k i).set i (.int .i64 ((stI k (2 ^ i) : Nat) : Int)) = rowP k (i + 1):=by
 apply List.ext_getElem?
 intro j
 by_cases hj : j < 32
 ·have e : ∀ z, (rowP k z)[j]? = some (.int .i64 (((if j < z then stI k (2 ^ j) else 0) : Nat) : Int)):=λ z => by
   unfold rowP
   rw [List.getElem?_map, List.getElem?_range hj]
   rfl
  rw [List.getElem?_set, e, e, rowP_len]
  by_cases h : i = j
  ·subst h
   rw [if_pos rfl, if_pos hi, if_pos (Nat.lt_succ_self i)]
  ·rw [if_neg h]
   by_cases h2 : j < i
   ·rw [if_pos h2, if_pos (by omega)]
   ·rw [if_neg h2, if_neg (by omega)]
 ·rw [List.getElem?_eq_none (by rw [List.length_set, rowP_len]; omega), List.getElem?_eq_none (by rw [rowP_len]; omega)]
theorem rowS_at (k : Nat) {j : Nat} (hj : j < 32) : (rowS k)[j]? = some (.int .i64 ((stI k (2 ^ j) : Nat) : Int)):=by
 unfold rowS rowP
 rw [List.getElem?_map, List.getElem?_range hj]
 simp [hj]
theorem rowP_cell (k i : Nat) : (rowP k i).all isCell = true:=by
 rw [List.all_eq_true]
 intro v hv
 unfold rowP at hv
 obtain ⟨j, _, rfl⟩:=List.mem_map.1 hv
 rfl
theorem zeros32 (k : Nat) : #[(Value.int IntKind.i64 0), (Value.int IntKind.i64 0), (Value.int IntKind.i64 0), (Value.int IntKind.i64 0), (Value.int IntKind.i64 0), (Value.int IntKind.i64 0), (Value.int IntKind.i64 0), (Value.int IntKind.i64 0), (Value.int IntKind.i64 0), (Value.int IntKind.i64 0), (Value.int IntKind.i64 0), (Value.int IntKind.i64 0), (Value.int IntKind.i64 0), (Value.int IntKind.i64 0), (Value.int IntKind.i64 0), (Value.int IntKind.i64 0), (Value.int IntKind.i64 0), (Value.int IntKind.i64 0), (Value.int IntKind.i64 0), (Value.int IntKind.i64 0), (Value.int IntKind.i64 0), (Value.int IntKind.i64 0), (Value.int IntKind.i64 0), (Value.int IntKind.i64 0), (Value.int IntKind.i64 0), (Value.int IntKind.i64 0), (Value.int IntKind.i64 0), (Value.int IntKind.i64 0), (Value.int IntKind.i64 0), (Value.int IntKind.i64 0), (Value.int IntKind.i64 0), (Value.int IntKind.i64 0)].toList = rowP k 0:=by
 have : rowP k 0 = List.replicate 32 (.int .i64 0):=by
  unfold rowP
  simp only [Nat.not_lt_zero, if_false]
  rw [List.map_const', List.length_range]; rfl
 rw [this]
 rfl
theorem pow32 {i : Nat} (h : i < 32) : 2 ^ i < 4294967296:=Nat.lt_of_lt_of_le (Nat.pow_lt_pow_right (by decide) h) (by decide)
section
variable {w w1 w2 : World}
theorem idx32 {b o : Nat} {i : Nat} (h : i < 32) : idxR 32 1 (.pointer (some ⟨b, o, none⟩)) (.int .i64 (i : Int)) = some (.pointer (some ⟨b, o + i, none⟩)):=by
 have h2 : (i : Int) < 32:=by omega
 simp [h2]
theorem pow_ld (h : bk w 0 = some powV) {i : Nat} (hi : i < 32) : ld1 (.pointer (some ⟨0, 0 + i, none⟩)) w = some (.int .i64 ((2 ^ i : Nat) : Int)):=by
 rw [ld1_ptr, h, Nat.zero_add]
 unfold powV
 show ((List.range 32).map _)[i]? = _
 rw [List.getElem?_map, List.getElem?_range hi]
 rfl
theorem agg32 {x k : Nat} (h : bk w x = some (rowS k)) : ldA 32 (.pointer (some ⟨x, 0, none⟩)) w = some (.agg (rowS k).toArray):=by
 have:=ldA_bk (o:=0) (n:=32) h (by rw [rowP_len]; exact Nat.le_refl _)
 rw [this, List.drop_zero, List.take_of_length_le (by rw [rowP_len]; exact Nat.le_refl _)]
theorem st32 {x k z i : Nat} (h : bk w x = some (rowP z i)) (hw : wr w x = true) {Q : Value -> World -> Prop} (q : ∀ w', bk w' x = some (rowS k) -> wr w' x = true -> Fr (λ c => c = x) w w' -> Q undef w') : Run (stM 32 (.pointer (some ⟨x, 0, none⟩)) (.agg (rowS k).toArray)) w Q:=by
 have hok : okAt w x 0 32:=⟨⟨rowP z i, h, by rw [rowP_len]; exact Nat.le_refl _⟩, hw⟩
 have hsz : (rowS k).toArray.size = 32:=by rw [List.size_toArray, rowP_len]
 have hc : (rowS k).toArray.toList.all isCell = true:=rowP_cell k 32
 refine (Run_stA (w:=w) (b:=x) (o:=0) (n:=32) (cs:=(rowS k).toArray) (Q:=Q) ⟨hok, hsz, hc⟩).2 (q _ ?_ (by rw [wr_sto]; exact hw) ((show Fr (λ c => c = x) w w from Fr.refl _ _).sto (.inl rfl) _ _))
 rw [bk_sto_same h]
 show some (setL (rowP z i) 0 (rowS k)) = _
 rw [setL_eq _ _ _ (by rw [rowP_len, rowP_len]; exact Nat.le_refl _), rowP_len, Nat.zero_add, List.drop_of_length_le (by rw [rowP_len]; exact Nat.le_refl _)]
 simp
theorem of_run (hp : bk w 0 = some powV) (k : Nat) {v : Nat} (hv : v < 4294967296) : Run (F.granaryref2_Steps_of (.agg (rowS k).toArray) (.int .i64 (v : Int))) w λ r w' => r = .int .i64 ((stI k v : Nat) : Int) /\ Fr (λ _ => False) w w':=by
 unfold F.granaryref2_Steps_of
 rw [Run_bind]
 refine Run_new λ x w1 hx hxw f1 hxle => ?_
 replace hx : bk w1 x = some (rowS k):=hx
 have hp1:=f1.bk_some hp id
 have hor : ∀ i, i <= 32 -> orF v k i < 4294967296:=λ i hi => by
  rw [orF_st]
  exact stI_lt k (Nat.lt_of_le_of_lt (Nat.mod_le _ _) hv)
 rw [Run_bind]
 refine Run_for 32 (λ i L w' => L = [.int .i64 ((orF v k i : Nat) : Int), .int .i64 (i : Int)] /\ w' = w1) ⟨rfl, rfl⟩ ?_ ?_
 ·rintro i L w1 hi ⟨rfl, rfl⟩
  have hil : (i : Int) < 32:=by omega
  have hpw : 2 ^ i ≠ 0:=Nat.pos_iff_ne_zero.1 (Nat.two_pow_pos i)
  have hq:=quo_nat (a:=v) (b:=2 ^ i) (k:=.i64) hpw (i64W (Nat.lt_of_le_of_lt (Nat.div_le_self _ _) (by omega)))
  have hr:=rem_nat (a:=v / 2 ^ i) (b:=2) (k:=.i64) (by decide)
  have e2 : ((2 : Nat) : Int) = 2:=rfl
  rw [e2] at hr
  rw [getL_succ, getL_zero, lssT hil, Run_bindO_some, Run_condM_true]
  simp only [getL_succ, getL_zero]
  rw [Run_bind]
  have first : Run (bindO (idxR 32 1 (Value.pointer (some { block:=0, off:=0, spot:=none })) (.int .i64 (i : Int))) λ x4 =>
    M.bind (rdM (ld1 x4)) λ x5 =>
    bindO (binV BinOp.quo (.int .i64 (v : Int)) x5) λ x6 =>
    bindO (binV BinOp.rem x6 (Value.int IntKind.i64 2)) λ x7 =>
    bindO (binV BinOp.eql x7 (Value.int IntKind.i64 1)) λ x8 =>
    condM x8 (
     bindO (fieldA 0 (.pointer (some ⟨x, 0, none⟩))) λ x9 =>
     bindO (idxR 32 1 x9 (.int .i64 (i : Int))) λ x10 =>
     M.bind (rdM (ld1 x10)) λ x11 =>
     bindO (binV BinOp.xor (.int .i64 ((orF v k i : Nat) : Int)) x11) λ x12 =>
     M.ret (Out.norm [x12])) (
     M.ret (Out.norm [.int .i64 ((orF v k i : Nat) : Int)]))) w1 λ o w' => o = .norm [.int .i64 ((orF v k (i + 1) : Nat) : Int)] /\ w' = w1:=by
   have hos : orF v k (i + 1) = orF v k i ^^^ (if v.testBit i = true then stI k (2 ^ i) else 0):=rfl
   have htb : v.testBit i = decide (v / 2 ^ i % 2 = 1):=Nat.testBit_eq_decide_div_mod_eq
   rw [idx32 hi, Run_bindO_some, Run_bind, Run_rdM]
   refine ⟨_, pow_ld hp1 hi, ?_⟩
   rw [binV_int, hq, Run_bindO_some, binV_int, hr, Run_bindO_some, binV_int, intBin_eql, Run_bindO_some, hos, htb]
   by_cases h1 : v / 2 ^ i % 2 = 1
   ·have h1' : decide (((v / 2 ^ i % 2 : Nat) : Int) = 1) = true:=decide_eq_true (by omega)
    have ld : ld1 (.pointer (some ⟨x, 0 + 0 + i, none⟩)) w1 = some (.int .i64 ((stI k (2 ^ i) : Nat) : Int)):=by
     rw [ld1_ptr, hx, show 0 + 0 + i = i by omega]
     exact rowS_at k hi
    rw [h1', Run_condM_true, fieldA_ptr, Run_bindO_some, idx32 hi, Run_bindO_some, Run_bind, Run_rdM]
    refine ⟨_, ld, ?_⟩
    rw [binV_int, binV_xor64 (hor i (by omega)) (stI_lt k (pow32 hi)), Run_bindO_some, Run_ret, decide_eq_true h1, if_pos rfl]
    exact ⟨rfl, rfl⟩
   ·have h1' : decide (((v / 2 ^ i % 2 : Nat) : Int) = 1) = false:=decide_eq_false (by omega)
    rw [h1', Run_condM_false, Run_ret, decide_eq_false h1, if_neg (by simp), Nat.xor_zero]
    exact ⟨rfl, rfl⟩
  refine first.mono ?_
  rintro _ w1 ⟨rfl, rfl⟩
  rw [outK_norm, binV_int, intBin_add, wrap_succ' (by omega), Run_bindO_some, Run_ret]
  exact ⟨rfl, rfl⟩
 ·rintro L w1 ⟨rfl, rfl⟩
  have hil : ¬ ((32 : Nat) : Int) < 32:=by omega
  rw [getL_succ, getL_zero, lssF hil, Run_bindO_some, Run_condM_false, Run_ret]
  simp only [outK_exit, getL_zero]
  rw [show Nat.beq 0 0 = true from rfl, cond_true, Run_ret, orF_all k hv]
  exact ⟨rfl, f1⟩
theorem twice_run (hp : bk w 0 = some powV) (k : Nat) : Run (F.granaryref2_Steps_twice (.agg (rowS k).toArray)) w λ r w' => r = .agg (rowS (k + k)).toArray /\ Fr (λ _ => False) w w':=by
 unfold F.granaryref2_Steps_twice
 rw [Run_bind]
 refine Run_new λ x w1 hx hxw f1 hxle => ?_
 replace hx : bk w1 x = some (rowS k):=hx
 rw [Run_bind]
 refine Run_new λ y w2 hy hyw f2 hyle => ?_
 rw [zeros32 (k + k)] at hy
 rw [Run_bind]
 refine Run_new λ z w3 hz hzw f3 hzle => ?_
 rw [zeros32 (k + k)] at hz
 have hp3:=f3.bk_some (f2.bk_some (f1.bk_some hp id) id) id
 have hx3:=f3.bk_some (f2.bk_some hx id) id
 have hy3:=f3.bk_some hy id
 have hyw3 : wr w3 y = true:=by rw [f3.wr (bk_lt hy) id]; exact hyw
 have lx:=bk_lt hx
 have ly:=bk_lt hy
 have lz:=bk_lt hz
 have s2:=f2.size
 have s1:=f1.size
 have lp:=bk_lt hp
 rw [Run_bind]
 refine Run_for 32 (λ i L w' => L = [.int .i64 (i : Int)] /\ bk w' z = some (rowP (k + k) i) /\ wr w' z = true /\ Fr (λ c => c = z) w3 w') ⟨rfl, hz, hzw, Fr.refl _ _⟩ ?_ ?_
 ·rintro i L w4 hi ⟨rfl, hz4, hzw4, f4⟩
  have hil : (i : Int) < 32:=by omega
  rw [getL_zero, lssT hil, Run_bindO_some, Run_condM_true, Run_drewM]
  have f5 : Fr (λ c => c = z) w3 w4.drew:=f4.drew
  have hz5 : bk w4.drew z = some (rowP (k + k) i):=hz4
  have hzw5 : wr w4.drew z = true:=hzw4
  generalize w4.drew = w5 at *
  have hx5:=f5.bk_some hx3 (by omega)
  have hp5:=f5.bk_some hp3 (by omega)
  have ld : ld1 (.pointer (some ⟨x, 0 + 0 + i, none⟩)) w5 = some (.int .i64 ((stI k (2 ^ i) : Nat) : Int)):=by
   rw [ld1_ptr, hx5, show 0 + 0 + i = i by omega]
   exact rowS_at k hi
  rw [Run_bind, Run_rdM]
  refine ⟨_, agg32 hx5, ?_⟩
  rw [fieldA_ptr, Run_bindO_some, idx32 hi, Run_bindO_some, Run_bind, Run_rdM]
  refine ⟨_, ld, ?_⟩
  rw [Run_bind]
  refine (of_run hp5 k (stI_lt k (pow32 hi))).mono ?_
  rintro _ w6 ⟨rfl, f6⟩
  have hz6:=f6.bk_some hz5 id
  have hzw6 : wr w6 z = true:=by rw [f6.wr (bk_lt hz5) id]; exact hzw5
  rw [<- stI_add]
  rw [fieldA_ptr, Run_bindO_some, idx32 hi, Run_bindO_some, Run_bind, Run_st1 ⟨⟨⟨_, hz6, by rw [rowP_len]; omega⟩, hzw6⟩, rfl⟩, show 0 + 0 + i = i by omega, binV_int, intBin_add, wrap_succ' (by omega), Run_bindO_some, Run_ret]
  refine ⟨rfl, ?_, by rw [wr_sto]; exact hzw6, (f5.trans f6 λ _ _ h => h.elim).trans ((show Fr (λ c => c = z) w6 w6 from Fr.refl _ _).sto (.inl rfl) _ _) λ _ _ h => h⟩
  rw [bk_sto_same hz6, setL_cons, setL_nil, rowP_set hi]
 ·rintro L w4 ⟨rfl, hz4, hzw4, f4⟩
  have hil : ¬ ((32 : Nat) : Int) < 32:=by omega
  rw [getL_zero, lssF hil, Run_bindO_some, Run_condM_false, Run_ret]
  simp only [outK_exit]
  rw [show Nat.beq 0 0 = true from rfl, cond_true, Run_bind, Run_rdM]
  refine ⟨_, agg32 hz4, ?_⟩
  rw [Run_bind]
  refine st32 (f4.bk_some hy3 (by omega)) (by rw [f4.wr (bk_lt hy3) (by omega)]; exact hyw3) λ w5 h5 _ f5 => ?_
  rw [Run_bind, Run_rdM]
  refine ⟨_, agg32 h5, ?_⟩
  rw [Run_ret]
  exact ⟨rfl, (((f1.trans f2 λ _ _ => id).trans f3 λ _ _ => id).new f4 λ c hc => by omega).new f5 λ c hc => by omega⟩
end
def rowA (cs : List UInt8) : List Value:=(List.range 256).map λ i => Value.bool (decide (UInt8.ofNat i ∈ cs))
theorem rowA_len (cs : List UInt8) : (rowA cs).length = 256:=by simp [rowA]
theorem rowA_nil : rowA [] = List.replicate 256 (.bool false):=by
 unfold rowA
 simp only [List.not_mem_nil, decide_false]
 rw [List.map_const', List.length_range]
theorem rowA_at (cs : List UInt8) (c : UInt8) : (rowA cs)[c.toNat]? = some (.bool (decide (c ∈ cs))):=by
 have h:=c.toNat_lt
 unfold rowA
 rw [List.getElem?_map, List.getElem?_range (by omega)]
 simp
theorem rowA_set (cs : List UInt8) (c : UInt8) : (rowA cs).set c.toNat (.bool true) = rowA (cs ++ [c]):=by
 have hc:=c.toNat_lt
 apply List.ext_getElem?
 intro i
 by_cases hi : i < 256
 ·have e : ∀ l : List UInt8, (rowA l)[i]? = some (.bool (decide (UInt8.ofNat i ∈ l))):=λ l => by
   unfold rowA
   rw [List.getElem?_map, List.getElem?_range hi]
   rfl
  rw [List.getElem?_set, e, e, rowA_len]
  by_cases h : c.toNat = i
  ·subst h
   simp [hc]
  ·rw [if_neg h]
   have hne : UInt8.ofNat i ≠ c:=λ he => h (by rw [<- he, UInt8.toNat_ofNat', Nat.mod_eq_of_lt hi])
   simp [hne]
 ·rw [List.getElem?_eq_none (by rw [List.length_set, rowA_len]; omega), List.getElem?_eq_none (by rw [rowA_len]; omega)]
section
variable {w w1 w2 : World}
theorem idxU8 {b : Nat} (c : UInt8) : idxR 256 1 (.pointer (some ⟨b, 0, none⟩)) (by8 c) = some (.pointer (some ⟨b, c.toNat, none⟩)):=by
 have h:=c.toNat_lt
 have h2 : (c.toNat : Int) < 256:=by omega
 simp [by8, h2]
theorem rowA_cell (cs : List UInt8) : (rowA cs).all isCell = true:=by
 rw [List.all_eq_true]
 intro v hv
 unfold rowA at hv
 obtain ⟨i, _, rfl⟩:=List.mem_map.1 hv
 rfl
theorem stRow {b : Nat} {cs row : List UInt8} (hb : bk w b = some (rowA row)) (hw : wr w b = true) {Q : Value -> World -> Prop} (q : Q undef (sto w b 0 (rowA cs))) : Run (stM 256 (.pointer (some ⟨b, 0, none⟩)) (.agg (rowA cs).toArray)) w Q:=by
 have hok : okAt w b 0 256:=⟨⟨rowA row, hb, by rw [rowA_len]; exact Nat.le_refl _⟩, hw⟩
 have hsz : (rowA cs).toArray.size = 256:=by rw [List.size_toArray, rowA_len]
 have hc : (rowA cs).toArray.toList.all isCell = true:=rowA_cell cs
 exact (Run_stA (w:=w) (b:=b) (o:=0) (n:=256) (cs:=(rowA cs).toArray) (Q:=Q) ⟨hok, hsz, hc⟩).2 q
theorem aset_run {cs : List UInt8} (hcs : ∀ c ∈ cs, c.toNat < 128) (hl : cs.length <= 1000) : Run (F.strings_makeASCIISet (.string (sb cs))) w λ r w' => r = .tuple #[.agg (rowA cs).toArray, .bool true] /\ Fr (λ _ => False) w w':=by
 unfold F.strings_makeASCIISet
 rw [Run_bind]
 refine Run_new λ x w1 hx hxw f1 hxle => ?_
 have hx0 : bk w1 x = some (rowA []):=by
  rw [hx, rowA_nil]
  exact congrArg some (by kernel_rfl)
 rw [Run_bind]
 refine Run_for cs.length (λ i L w' => L = [.int .i64 (i : Int)] /\ bk w' x = some (rowA (cs.take i)) /\ wr w' x = true /\ Fr (λ _ => False) w w') ⟨rfl, hx0, hxw, f1⟩ ?_ ?_
 ·rintro i L w2 hi ⟨rfl, hb, hw, f2⟩
  obtain ⟨c, hc⟩ : ∃ c, cs[i]? = some c:=⟨_, List.getElem?_eq_getElem hi⟩
  have hc8:=hcs c (List.mem_of_getElem? hc)
  have hil : (i : Int) < cs.length:=by omega
  have h128 : binV .geq (by8 c) (.int .u8 128) = some (.bool false):=by
   have : ¬ (c.toNat : Int) >= 128:=by omega
   simp [by8, this]
  have hs:=bk_sto_same (o:=c.toNat) hb [.bool true]
  have hset : setL (rowA (cs.take i)) c.toNat [.bool true] = rowA (cs.take (i + 1)):=by
   rw [setL_cons, setL_nil, rowA_set, take_snocP hc]
  rw [lenS_string, sb_size, Run_bindO_some, getL_zero, lssT hil, Run_bindO_some, Run_condM_true, idxSb hc, Run_bindO_some, h128, Run_bindO_some, Run_condM_false, idxU8, Run_bindO_some, Run_bind]
  rw [Run_st1 ⟨⟨⟨_, hb, by rw [rowA_len]; have:=c.toNat_lt; omega⟩, hw⟩, rfl⟩]
  rw [binV_int, intBin_add, wrap_succ' (by omega), Run_bindO_some, Run_ret]
  exact ⟨rfl, by rw [hs, hset], by rw [wr_sto]; exact hw, f2.sto (.inr hxle) _ _⟩
 ·rintro L w2 ⟨rfl, hb, hw, f2⟩
  rw [List.take_length] at hb
  have hil : ¬ ((cs.length : Nat) : Int) < cs.length:=by omega
  have hld : ∀ {u : World}, bk u x = some (rowA cs) -> ldA 256 (.pointer (some ⟨x, 0, none⟩)) u = some (.agg (rowA cs).toArray):=λ h => by
   rw [ldA_bk h (by rw [rowA_len]; exact Nat.le_refl _), List.drop_zero, List.take_of_length_le (by rw [rowA_len]; exact Nat.le_refl _)]
  have hs:=bk_sto_same (o:=0) hb (rowA cs)
  have he : setL (rowA cs) 0 (rowA cs) = rowA cs:=by rw [setL_eq _ _ _ (by omega)]; simp
  rw [he] at hs
  rw [lenS_string, sb_size, Run_bindO_some, getL_zero, lssF hil, Run_bindO_some, Run_condM_false, Run_ret]
  simp only [outK_exit]
  rw [show Nat.beq 0 0 = true from rfl, cond_true, Run_bind, Run_rdM]
  refine ⟨_, hld hb, ?_⟩
  rw [Run_bind]
  refine stRow hb hw ?_
  rw [Run_bind, Run_rdM]
  refine ⟨_, hld hs, ?_⟩
  rw [Run_ret]
  exact ⟨rfl, f2.sto (.inr hxle) _ _⟩
theorem has_run {b : Nat} {cs : List UInt8} (h : bk w b = some (rowA cs)) (c : UInt8) {Q : Value -> World -> Prop} (q : Q (.bool (decide (c ∈ cs))) w) : Run (F.strings_asciiSet_contains (.pointer (some ⟨b, 0, none⟩)) (by8 c)) w Q:=by
 unfold F.strings_asciiSet_contains
 have ld : ld1 (.pointer (some ⟨b, c.toNat, none⟩)) w = some (.bool (decide (c ∈ cs))):=by
  rw [ld1_ptr, h]
  exact rowA_at cs c
 rw [nilChk_ptr, Run_bindO_some, idxU8, Run_bindO_some, Run_bind, Run_rdM]
 exact ⟨_, ld, by rw [Run_ret]; exact q⟩
def szL (L : List Value) : Nat:=match getL L 0 with
 | .string s => s.size
 | _ => 0
theorem trimL_run {b : Nat} {cs : List UInt8} (h : bk w b = some (rowA cs)) (l : List UInt8) (hl : l.length <= 4611686018427387904) : Run (F.strings_trimLeftASCII (.string (sb l)) (.pointer (some ⟨b, 0, none⟩))) w λ r w' =>
  (∃ t, r = .string (sb t) /\ (∀ c ∈ t, c ∈ l) /\ (∀ c ∈ l, c ∈ t ∨ c ∈ cs)) /\ w' = w:=by
 unfold F.strings_trimLeftASCII
 have n1 : ∀ b, notV (.bool b) = some (.bool !b):=λ _ => rfl
 rw [Run_bind]
 refine Run_loopM (λ L w' => (∃ t, L = [.string (sb t)] /\ t.length <= l.length /\ (∀ c ∈ t, c ∈ l) /\ (∀ c ∈ l, c ∈ t ∨ c ∈ cs)) /\ w' = w) (λ L _ => szL L) ?_ ⟨⟨l, rfl, Nat.le_refl _, λ _ h => h, λ _ h => .inl h⟩, rfl⟩
 rintro L w1 ⟨⟨t, rfl, htl, h1, h2⟩, rfl⟩
 rw [getL_zero, lenS_string, sb_size, Run_bindO_some, binV_int, intBin_gtr]
 cases t with
 | nil =>
  simp only [List.length_nil, Int.natCast_zero, gt_iff_lt, Int.lt_irrefl, decide_false, Run_bindO_some, Run_condM_false, Run_ret, outK_exit, getL_zero]
  rw [show Nat.beq 0 0 = true from rfl, cond_true, Run_ret]
  exact ⟨⟨[], rfl, h1, h2⟩, rfl⟩
 | cons c t =>
  have h0 : (((c :: t).length : Nat) : Int) > 0:=by rw [List.length_cons]; omega
  have hix : idxS (.string (sb (c :: t))) (.int .i64 0) = some (by8 c):=idxSb (i:=0) rfl
  rw [decide_eq_true h0, Run_bindO_some, Run_condM_true, hix, Run_bindO_some, Run_bind]
  refine has_run h c ?_
  rw [n1, Run_bindO_some]
  by_cases hc : c ∈ cs
  ·have hsl:=slFrom (l:=c :: t) (n:=1) (by rw [List.length_cons]; omega)
   have e1 : ((1 : Nat) : Int) = 1:=rfl
   rw [e1] at hsl
   rw [decide_eq_true hc, Bool.not_true, Run_condM_false, hsl, Run_bindO_some, Run_ret]
   rw [List.length_cons] at htl
   refine ⟨⟨⟨t, rfl, by omega, λ x hx => h1 x (by simp [hx]), λ x hx => ?_⟩, rfl⟩, ?_⟩
   ·rcases h2 x hx with h | h
    ·rcases List.mem_cons.1 h with rfl | h
     ·exact .inr hc
     ·exact .inl h
    ·exact .inr h
   ·show (sb t).size < (sb (c :: t)).size
    rw [sb_size, sb_size, List.length_cons]; omega
  ·rw [decide_eq_false hc, Bool.not_false, Run_condM_true, Run_ret]
   simp only [outK_exit, getL_zero]
   rw [show Nat.beq 0 0 = true from rfl, cond_true, Run_ret]
   exact ⟨⟨c :: t, rfl, h1, h2⟩, rfl⟩
theorem trimR_run {b : Nat} {cs : List UInt8} (h : bk w b = some (rowA cs)) (l : List UInt8) (hl : l.length <= 4611686018427387904) : Run (F.strings_trimRightASCII (.string (sb l)) (.pointer (some ⟨b, 0, none⟩))) w λ r w' =>
  (∃ t, r = .string (sb t) /\ t.length <= l.length /\ (∀ c ∈ t, c ∈ l) /\ (∀ c ∈ l, c ∈ t ∨ c ∈ cs) /\ (t ≠ [] -> ∃ c ∈ t, c ∉ cs)) /\ w' = w:=by
 unfold F.strings_trimRightASCII
 have n1 : ∀ b, notV (.bool b) = some (.bool !b):=λ _ => rfl
 rw [Run_bind]
 refine Run_loopM (λ L w' => (∃ t, L = [.string (sb t)] /\ t.length <= l.length /\ (∀ c ∈ t, c ∈ l) /\ (∀ c ∈ l, c ∈ t ∨ c ∈ cs)) /\ w' = w) (λ L _ => szL L) ?_ ⟨⟨l, rfl, Nat.le_refl _, λ _ h => h, λ _ h => .inl h⟩, rfl⟩
 rintro L w1 ⟨⟨t, rfl, htl, h1, h2⟩, rfl⟩
 rw [getL_zero, lenS_string, sb_size, Run_bindO_some, binV_int, intBin_gtr]
 rcases List.eq_nil_or_concat t with rfl | ⟨t, c, rfl⟩
 ·simp only [List.length_nil, Int.natCast_zero, gt_iff_lt, Int.lt_irrefl, decide_false, Run_bindO_some, Run_condM_false, Run_ret, outK_exit, getL_zero]
  rw [show Nat.beq 0 0 = true from rfl, cond_true, Run_ret]
  exact ⟨⟨[], rfl, htl, h1, h2, λ h => absurd rfl h⟩, rfl⟩
 ·rw [List.concat_eq_append] at htl h1 h2 ⊢
  rw [List.length_append, List.length_singleton] at htl ⊢
  have h0 : ((t.length + 1 : Nat) : Int) > 0:=by omega
  have hw : IntKind.i64.wrap (((t.length + 1 : Nat) : Int) - 1) = (t.length : Int):=by rw [show ((t.length + 1 : Nat) : Int) - 1 = (t.length : Int) by omega]; exact i64W (by omega)
  have hix : idxS (.string (sb (t ++ [c]))) (.int .i64 (t.length : Int)) = some (by8 c):=idxSb (by simp)
  rw [decide_eq_true h0, Run_bindO_some, Run_condM_true, Run_bindO_some, binV_int, intBin_sub, hw, Run_bindO_some, hix, Run_bindO_some, Run_bind]
  refine has_run h c ?_
  rw [n1, Run_bindO_some]
  by_cases hc : c ∈ cs
  ·have hsl:=slTo (l:=t ++ [c]) (n:=t.length) (by rw [List.length_append]; omega)
   rw [List.take_left] at hsl
   rw [decide_eq_true hc, Bool.not_true, Run_condM_false, Run_bindO_some, binV_int, intBin_sub, hw, Run_bindO_some, hsl, Run_bindO_some, Run_ret]
   refine ⟨⟨⟨t, rfl, by omega, λ x hx => h1 x (by simp [hx]), λ x hx => ?_⟩, rfl⟩, ?_⟩
   ·rcases h2 x hx with h | h
    ·rcases List.mem_append.1 h with h | h
     ·exact .inl h
     ·rw [List.mem_singleton] at h; subst h; exact .inr hc
    ·exact .inr h
   ·show (sb t).size < (sb (t ++ [c])).size
    rw [sb_size, sb_size, List.length_append, List.length_singleton]; omega
  ·rw [decide_eq_false hc, Bool.not_false, Run_condM_true, Run_ret]
   simp only [outK_exit, getL_zero]
   rw [show Nat.beq 0 0 = true from rfl, cond_true, Run_ret]
   exact ⟨⟨t ++ [c], rfl, by rw [List.length_append, List.length_singleton]; omega, h1, h2, λ _ => ⟨c, by simp, hc⟩⟩, rfl⟩
theorem trim_run {l cs : List UInt8} (h0 : l ≠ []) (hl : l.length <= 4611686018427387904) (hcs : ∀ c ∈ cs, c.toNat < 128) (hc2 : 2 <= cs.length) (hc3 : cs.length <= 1000) : Run (F.strings_Trim (.string (sb l)) (.string (sb cs))) w λ r w' =>
  (∃ t, r = .string (sb t) /\ (t = [] ↔ ∀ c ∈ l, c ∈ cs)) /\ Fr (λ _ => False) w w':=by
 unfold F.strings_Trim
 have e0 : ByteArray.mk #[] = sb []:=rfl
 have y0 : ∀ v x, extV 0 (.tuple #[v, x]) = some v:=λ _ _ => rfl
 have y1 : ∀ v x, extV 1 (.tuple #[v, x]) = some x:=λ _ _ => rfl
 have hcn : cs ≠ []:=λ h => by subst h; simp at hc2
 have h1 : ¬ ((cs.length : Nat) : Int) = 1:=by omega
 rw [e0, sbEq, decide_eq_false h0, Run_bindO_some]
 simp only [Run_bind, Run_guardM_ff, Run_ret, sbEq, decide_eq_false hcn, Run_optM_some, pickV_bool, cond_false, Run_bindO_some, Run_condM_false, lenS_string, sb_size, binV_int, intBin_eql, decide_eq_false h1, Run_guardM_ft]
 refine (aset_run hcs hc3).mono ?_
 rintro _ w1 ⟨rfl, f1⟩
 simp only [y0, y1, Run_bindO_some, Run_bind]
 refine Run_new λ b w2 hb hbw f2 hble => ?_
 have hb0 : bk w2 b = some (rowA []):=by
  rw [hb, rowA_nil]
  exact congrArg some (by kernel_rfl)
 refine stRow hb0 hbw ?_
 have hs:=bk_sto_same (o:=0) hb0 (rowA cs)
 have he : setL (rowA []) 0 (rowA cs) = rowA cs:=by
  rw [setL_eq _ _ _ (by rw [rowA_len, rowA_len]; omega), rowA_len, Nat.zero_add, List.drop_of_length_le (by rw [rowA_len]; exact Nat.le_refl _)]
  simp
 rw [he] at hs
 have f3 : Fr (λ _ => False) w (sto w2 b 0 (rowA cs)):=f1.trans (f2.sto (.inr hble) _ _) λ _ _ => id
 generalize sto w2 b 0 (rowA cs) = w3 at *
 rw [Run_condM_true]
 simp only [Run_bind]
 refine (trimR_run hs l hl).mono ?_
 rintro _ w4 ⟨⟨t, rfl, t0, t1, t2, t3⟩, rfl⟩
 refine (trimL_run hs t (by omega)).mono ?_
 rintro _ w5 ⟨⟨u, rfl, u1, u2⟩, rfl⟩
 rw [Run_ret]
 refine ⟨⟨u, rfl, λ hu c hc => ?_, λ ha => ?_⟩, f3⟩
 ·subst hu
  rcases t2 c hc with h | h
  ·rcases u2 c h with h | h
   ·cases h
   ·exact h
  ·exact h
 ·have ht : t = []:=by
   by_cases ht : t = []
   ·exact ht
   ·obtain ⟨c, c1, c2⟩:=t3 ht
    exact absurd (ha c (t1 c c1)) c2
  subst ht
  cases u with
  | nil => rfl
  | cons c u => exact absurd (u1 c (by simp)) (by simp)
end
end Go.Proofs.YthlpfhjcdedhgaaGreatDoor
namespace Go.Proofs.YthlpfhjcdedhgaaGreatDoor
open Go.Lift Go.Sort
set_option linter.unusedSimpArgs false
set_option linter.unusedVariables false
set_option maxHeartbeats 4000000
section
variable {w w1 w2 : World}
def RowB (A : Nat -> Prop) (w : World) (x : Nat) (v : Value) (l : List UInt8) : Prop:=(l = [] /\ v = .slice none 0 0) ∨
 ∃ (g cap : Nat) (cs : Array Value), v = .slice (some ⟨g, 0, none⟩) l.length cap /\ w.heap[g]? = some (.cells cs 5 (0, 0)) /\ cs.size = cap /\ l.length <= cap /\ (cs.toList.take l.length = l.map λ b => Value.int .u8 b.toNat) /\ ¬ A g /\ x ≠ g
theorem raw_app {A : Nat -> Prop} {x : Nat} {v y : Value} {l s : List UInt8} (h : RowB A w x v l) (hA : ∀ c, A c -> c < w.heap.size) (hx : x < w.heap.size) (hn : lenN y = some s.length) (hf : firstN w 1 s.length y = some (s.map λ b => Value.int .u8 b.toNat))
  (hs : s ≠ []) (hl : l.length + s.length <= 1073741824) : Run (appM 5 1 1 #[.int .u8 0] v y) w λ r w1 => RowB A w1 x r (l ++ s) /\ w1.heap[x]? = w.heap[x]? /\ Fr (λ c => ¬ A c /\ c ≠ x) w w1:=by
 have hs0 : s.length ≠ 0:=by simpa using hs
 have grow : ∀ (cap : Nat) (old : List Value), (∃ a, v = .slice a l.length cap) -> ¬ (l.length + s.length <= cap) -> cap <= 1073741824 -> firstN w 1 l.length v = some old -> old = l.map (λ b => Value.int .u8 b.toNat) -> Run (appM 5 1 1 #[.int .u8 0] v y) w λ r w1 => RowB A w1 x r (l ++ s) /\ w1.heap[x]? = w.heap[x]? /\ Fr (λ c => ¬ A c /\ c ≠ x) w w1:=by
  rintro cap old ⟨a, rfl⟩ hroom hcap ho rfl
  unfold Run appM
  simp only [hn]
  rw [if_neg hroom]
  have hg : Builtin.nextslicecap (l.length + s.length) cap * 1 <= 2 ^ 48:=growslice_fits_wide (by omega) (by omega)
  rw [if_neg (not_or.2 ⟨by decide, Nat.not_lt.2 hg⟩)]
  simp only [ho, hf]
  have hge : l.length + s.length <= (Question.appendCap (l.length + s.length) cap 5).cut (w.tape w.drawn (.appendCap (l.length + s.length) cap 5)):=by simp only [Question.cut]; omega
  generalize (Question.appendCap (l.length + s.length) cap 5).cut (w.tape w.drawn (.appendCap (l.length + s.length) cap 5)) = C at hge
  refine ⟨_, _, rfl, .inr ⟨w.heap.size, C, ((l.map λ b => Value.int .u8 (b.toNat : Int)) ++ s.map λ b => Value.int .u8 (b.toNat : Int)).toArray ++ Builtin.zeroCells #[.int .u8 0] (C - (l.length + s.length)), by rw [List.length_append], ?_, ?_, ?_, ?_, λ h => Nat.lt_irrefl _ (hA _ h), by omega⟩, ?_, ((Fr.refl _ w).drew).alloc _⟩
  ·show (w.heap.push _)[w.heap.size]? = _
   simp
  ·simp [size_zeroCells]
   omega
  ·rw [List.length_append]; exact hge
  ·rw [List.length_append]
   simp only [Array.toList_append]
   rw [List.take_append_of_le_length (by simp), List.take_of_length_le (by simp)]
   simp
  ·show (w.heap.push _)[x]? = _
   rw [Array.getElem?_push, if_neg (by omega)]
 rcases h with ⟨rfl, rfl⟩ | ⟨g, cap, cs, rfl, h1, h2, h3, h4, h5, h6⟩
 ·exact grow 0 [] ⟨_, rfl⟩ (by simp; omega) (by decide) rfl rfl
 ·have hbk : bk w g = some cs.toList:=by unfold bk; rw [h1]
  have hwr : wr w g = true:=by unfold wr; rw [h1]; simp
  have hcl : cs.toList.length = cap:=(Array.length_toList (xs:=cs)).trans h2
  by_cases hroom : l.length + s.length <= cap
  ·unfold Run appM
   simp only [hn]
   rw [if_pos hroom]
   simp only [hf]
   have hst : stN (Addr.add ⟨g, 0, none⟩ (l.length * 1)) (s.map λ b => Value.int .u8 b.toNat) w = some (sto w g l.length (s.map λ b => Value.int .u8 b.toNat)):=by
    simp only [Addr.add_lit, stN, Nat.zero_add, Nat.mul_one]
    rw [if_neg (by simpa using hs)]
    simp only [hbk]
    rw [if_pos ⟨⟨by rw [List.length_map]; omega, byteV_all _⟩, hwr⟩]
   simp only [hst]
   have hfr : Fr (λ c => c = g) w (sto w g l.length (s.map λ b => Value.int .u8 b.toNat)):=(show Fr (λ c => c = g) w w from Fr.refl _ _).sto (.inl rfl) _ _
   refine ⟨_, _, rfl, .inr ⟨g, cap, (setL cs.toList l.length (s.map λ b => Value.int .u8 b.toNat)).toArray, by rw [List.length_append], ?_, ?_, by rw [List.length_append]; exact hroom, ?_, h5, h6⟩, hfr.block x hx h6, hfr.mono λ c hc => hc ▸ ⟨h5, λ e => h6 e.symm⟩⟩
   ·simp only [sto, Array.getElem?_modify, h1, if_true]
    rfl
   ·rw [List.size_toArray, length_setL, hcl]
   ·have:=drop_take_setL (l:=cs.toList) (o:=0) (p:=l.length) (n:=l.length) (vs:=s.map λ b => Value.int .u8 b.toNat) (by rw [List.length_map]; omega) (by omega)
    simp only [List.drop_zero, List.length_map] at this
    rw [List.toList_toArray, List.length_append, this, h4, List.map_append]
  ·by_cases hcap : cap <= 1073741824
   ·refine grow cap _ ⟨_, rfl⟩ hroom hcap ?_ h4
    have:=ldN_bk (o:=0) (n:=l.length) hbk (by omega)
    simp only [firstN, Nat.mul_one]
    rw [this, List.drop_zero]
   ·omega
structure BG (A : Nat -> Prop) (w : World) (x : Nat) (l : List UInt8) : Prop where
 st : (l = [] /\ w.heap[x]? = some (.cells #[.pointer none, .slice none 0 0] 93 (0, 0))) ∨ ∃ v, bk w x = some [PtrB x, v] /\ wr w x = true /\ RowB A w x v l
 new : ¬ A x
 lo : ∀ c, A c -> c < w.heap.size
theorem RowB.frm {A : Nat -> Prop} {x : Nat} {v : Value} {l : List UInt8} (h : RowB A w x v l) (f : Fr (λ _ => False) w w2) : RowB A w2 x v l:=by
 rcases h with h | ⟨g, cap, cs, h1, h2, h3⟩
 ·exact .inl h
 ·exact .inr ⟨g, cap, cs, h1, by rw [f.block g (Array.getElem?_eq_some_iff.1 h2).1 id]; exact h2, h3⟩
theorem BG.frm {A : Nat -> Prop} {x : Nat} {l : List UInt8} (h : BG A w x l) (f : Fr (λ _ => False) w w2) : BG A w2 x l:=by
 refine ⟨?_, h.new, λ c hc => Nat.lt_of_lt_of_le (h.lo c hc) f.size⟩
 rcases h.st with ⟨h1, h2⟩ | ⟨v, h1, h2, h3⟩
 ·exact .inl ⟨h1, by rw [f.block x (Array.getElem?_eq_some_iff.1 h2).1 id]; exact h2⟩
 ·exact .inr ⟨v, f.bk_some h1 id, by rw [f.wr (bk_lt h1) id]; exact h2, h3.frm f⟩
theorem BG.lt {A : Nat -> Prop} {x : Nat} {l : List UInt8} (h : BG A w x l) : x < w.heap.size:=by
 rcases h.st with ⟨h1, h2⟩ | ⟨v, h1, h2, h3⟩
 ·exact (Array.getElem?_eq_some_iff.1 h2).1
 ·exact bk_lt h1
theorem bgCheck {A : Nat -> Prop} {x : Nat} {l : List UInt8} (h : BG A w x l) {Q : Value -> World -> Prop} (q : ∀ w' v, bk w' x = some [PtrB x, v] -> wr w' x = true -> RowB A w' x v l -> Fr (λ c => ¬ A c) w w' -> Q (.tuple #[]) w') :
  Run (F.strings_Builder_copyCheck (PtrB x)) w Q:=by
 rcases h.st with ⟨rfl, hh⟩ | ⟨v, h1, h2, h3⟩
 ·have h0 : w.cell? ⟨x, 0, none⟩ = some (.pointer none):=by
   unfold World.cell?
   rw [hh]; rfl
  have h1 : w.shape? x = some (93, 2):=by
   unfold World.shape?
   rw [hh]
   rfl
  have h2 : w.frozen? ⟨x, 0, none⟩ = false:=by
   unfold World.frozen?
   rw [hh]
   rfl
  have hlt:=(Array.getElem?_eq_some_iff.1 hh).1
  refine ⟨_, _, ?_, q (w.setCell ⟨x, 0, none⟩ (PtrB x)) (.slice none 0 0) ?_ ?_ (.inl ⟨rfl, rfl⟩) ?_⟩
  ·unfold F.strings_Builder_copyCheck
   simp only [h0, h1, h2, and_self, if_true]
  ·unfold bk World.setCell
   simp only [Array.getElem?_modify, hh, if_true]
   rfl
  ·unfold wr World.setCell
   simp only [Array.getElem?_modify, hh, if_true]
   rfl
  ·have f : Fr (λ c => c = x) w (w.setCell ⟨x, 0, none⟩ (PtrB x)):=by
    refine ⟨rfl, rfl, rfl, ?_, λ b hb hne => ?_⟩
    ·unfold World.setCell
     simp only [Array.size_modify]
     exact Nat.le_refl _
    ·unfold World.setCell
     simp only [Array.getElem?_modify]
     rw [if_neg (λ e => hne e.symm)]
   exact f.mono λ c hc => hc ▸ h.new
 ·exact bldUsed_run h1 (q w v h1 h2 h3 (Fr.refl _ _))
theorem bgStore {A : Nat -> Prop} {x : Nat} {v r : Value} {l : List UInt8} (h1 : bk w x = some [PtrB x, v]) (h2 : wr w x = true) (h3 : RowB A w x r l) (hn : ¬ A x) (hA : ∀ c, A c -> c < w.heap.size) : BG A (sto w x 1 [r]) x l /\ Fr (λ c => c = x) w (sto w x 1 [r]):=by
 have f : Fr (λ c => c = x) w (sto w x 1 [r]):=(show Fr (λ c => c = x) w w from Fr.refl _ _).sto (.inl rfl) _ _
 refine ⟨⟨.inr ⟨r, by rw [bk_sto_same h1]; rfl, by rw [wr_sto]; exact h2, ?_⟩, hn, λ c hc => Nat.lt_of_lt_of_le (hA c hc) f.size⟩, f⟩
 rcases h3 with h | ⟨g, cap, cs, e1, e2, e3, e4, e5, e6, e7⟩
 ·exact .inl h
 ·exact .inr ⟨g, cap, cs, e1, by rw [f.block g (Array.getElem?_eq_some_iff.1 e2).1 (λ e => e7 e.symm)]; exact e2, e3, e4, e5, e6, e7⟩
theorem bk_of_heapEq {x : Nat} (h : w1.heap[x]? = w.heap[x]?) : bk w1 x = bk w x /\ wr w1 x = wr w x:=by
 unfold bk wr
 rw [h]
 exact ⟨rfl, rfl⟩
theorem bgWrite_run {A : Nat -> Prop} {x : Nat} {l s : List UInt8} (h : BG A w x l) (hs : s ≠ []) (hl : l.length + s.length <= 1073741824) :
  Run (F.strings_Builder_WriteString (PtrB x) (.string (sb s))) w λ _ w' => BG A w' x (l ++ s) /\ Fr (λ c => ¬ A c) w w':=by
 unfold F.strings_Builder_WriteString
 rw [Run_bind]
 refine bgCheck h λ w1 v b1 b2 b3 b4 => ?_
 have nck : nilChk (PtrB x) = some (PtrB x):=rfl
 have ld : ld1 (.pointer (some ⟨x, 0 + 1, none⟩)) w1 = some v:=by rw [ld1_ptr, b1]; rfl
 rw [nck, Run_bindO_some, fieldA_ptr, Run_bindO_some, Run_bind, Run_rdM]
 refine ⟨_, ld, ?_⟩
 rw [Run_bind]
 have hf : firstN w1 1 s.length (.string (sb s)) = some (s.map λ b => Value.int .u8 b.toNat):=by
  have he : (sb s).extract 0 s.length = sb s:=by rw [sb_extract, List.take_length, List.drop_zero]
  simp only [firstN, he]
  simp [sb]
 have lo1 : ∀ c, A c -> c < w1.heap.size:=λ c hc => Nat.lt_of_lt_of_le (h.lo c hc) b4.size
 refine (raw_app b3 lo1 (bk_lt b1) (by simp only [lenN, sb_size]) hf hs hl).mono ?_
 rintro r w2 ⟨c1, c2, c3⟩
 obtain ⟨d1, d2⟩:=bk_of_heapEq c2
 rw [b1] at d1
 rw [b2] at d2
 rw [Run_bindO_some, fieldA_ptr, Run_bindO_some, Run_bind]
 have hcell : isCell r = true:=by
  rcases c1 with ⟨_, rfl⟩ | ⟨g, cap, cs, rfl, _⟩ <;> rfl
 have hsz : r.cells = #[r]:=by
  rcases c1 with ⟨_, rfl⟩ | ⟨g, cap, cs, rfl, _⟩ <;> rfl
 rw [Run_stM (by rw [hsz]; rfl) (by rw [hsz]; simp [hcell]) ⟨⟨_, d1, by simp⟩, d2⟩]
 have hst : sto w2 x (0 + 1) r.cells.toList = sto w2 x 1 [r]:=by rw [hsz]
 rw [hst, lenS_string, Run_bindO_some, Run_ret]
 obtain ⟨g1, g2⟩:=bgStore d1 d2 c1 h.new λ c hc => Nat.lt_of_lt_of_le (lo1 c hc) c3.size
 exact ⟨g1, (b4.trans c3 λ _ _ hc => hc.1).trans g2 λ _ _ hc => hc ▸ h.new⟩
theorem bgByte_run {A : Nat -> Prop} {x : Nat} {l : List UInt8} (h : BG A w x l) (c : UInt8) (hl : l.length + 1 <= 1073741824) :
  Run (F.strings_Builder_WriteByte (PtrB x) (by8 c)) w λ _ w' => BG A w' x (l ++ [c]) /\ Fr (λ c => ¬ A c) w w':=by
 unfold F.strings_Builder_WriteByte
 rw [Run_bind]
 refine bgCheck h λ w1 v b1 b2 b3 b4 => ?_
 have nck : nilChk (PtrB x) = some (PtrB x):=rfl
 have ld : ld1 (.pointer (some ⟨x, 0 + 1, none⟩)) w1 = some v:=by rw [ld1_ptr, b1]; rfl
 rw [nck, Run_bindO_some, fieldA_ptr, Run_bindO_some, Run_bind, Run_rdM]
 refine ⟨_, ld, ?_⟩
 rw [Run_bind]
 refine Run_bsl (k:=1) (vs:=[by8 c]) (by rfl) (by intro v hv; simp only [List.mem_singleton] at hv; subst hv; rfl) rfl (by kernel_rfl) λ y w2 hy f2 _ => ?_
 have b3':=b3.frm f2
 have b1':=f2.bk_some b1 id
 have b2' : wr w2 x = true:=by rw [f2.wr (bk_lt b1) id]; exact b2
 have hn : lenN y = some [c].length:=hy.1.lenN
 have hf : firstN w2 1 [c].length y = some ([c].map λ b => Value.int .u8 b.toNat):=by
  have hy1:=hy.1
  obtain ⟨_, a, cp, rfl, _⟩:=hy1
  exact ldN_sl hy.1
 rw [Run_bind]
 have b5 : Fr (λ c => ¬ A c) w w2:=b4.trans f2 λ _ _ hf => hf.elim
 have lo2 : ∀ c, A c -> c < w2.heap.size:=λ c hc => Nat.lt_of_lt_of_le (h.lo c hc) b5.size
 refine (raw_app b3' lo2 (bk_lt b1') hn hf (by simp) (by simp; omega)).mono ?_
 rintro r w3 ⟨c1, c2, c3⟩
 obtain ⟨d1, d2⟩:=bk_of_heapEq c2
 rw [b1'] at d1
 rw [b2'] at d2
 rw [Run_bindO_some, fieldA_ptr, Run_bindO_some, Run_bind]
 have hcell : isCell r = true:=by
  rcases c1 with ⟨_, rfl⟩ | ⟨g, cap, cs, rfl, _⟩ <;> rfl
 have hsz : r.cells = #[r]:=by
  rcases c1 with ⟨_, rfl⟩ | ⟨g, cap, cs, rfl, _⟩ <;> rfl
 rw [Run_stM (by rw [hsz]; rfl) (by rw [hsz]; simp [hcell]) ⟨⟨_, d1, by simp⟩, d2⟩]
 have hst : sto w3 x (0 + 1) r.cells.toList = sto w3 x 1 [r]:=by rw [hsz]
 rw [hst, Run_ret]
 obtain ⟨g1, g2⟩:=bgStore d1 d2 c1 h.new λ c hc => Nat.lt_of_lt_of_le (lo2 c hc) c3.size
 exact ⟨g1, (b5.trans c3 λ _ _ hc => hc.1).trans g2 λ _ _ hc => hc ▸ h.new⟩
theorem bgString_run {A : Nat -> Prop} {x : Nat} {l : List UInt8} (h : BG A w x l) (h0 : l ≠ []) (hl : l.length <= 1073741824) : Run (F.strings_Builder_String (PtrB x)) w λ r w' => r = .string (sb l) /\ Fr (λ c => ¬ A c) w w':=by
 rcases h.st with ⟨h1, _⟩ | ⟨v, h1, h2, h3⟩
 ·exact absurd h1 h0
 rcases h3 with ⟨h3, _⟩ | ⟨g, cap, cs, rfl, e2, e3, e4, e5, e6, e7⟩
 ·exact absurd h3 h0
 refine (bldString_run (cap:=cap) (g:=g) ⟨h1, h2, e7, e4, cs, e2, e3, e5⟩ h0 (by omega)).mono ?_
 rintro _ w' ⟨rfl, f⟩
 exact ⟨rfl, f.mono λ c hc => by rcases hc with rfl | rfl; exact h.new; exact e6⟩
theorem bgNew {Q : Value -> World -> Prop} (q : ∀ x w', BG (λ c => c < w.heap.size) w' x [] -> Fr (λ _ => False) w w' -> Q (PtrB x) w') : Run (newM 93 #[(Value.pointer none), (Value.slice none 0 0)]) w Q:=by
 refine Run_newM.2 (q _ _ ⟨.inl ⟨rfl, ?_⟩, Nat.lt_irrefl _, λ c hc => ?_⟩ ((Fr.refl _ _).alloc _))
 ·show (w.heap.push _)[w.heap.size]? = _
  simp
 ·show c < (w.heap.push _).size
  simp; omega
end
theorem far_ex {α : Type} (p : α -> Bool) : ∀ l : List α, ∃ J, J <= l.length /\ (∀ i a, i < J -> l[i]? = some a -> p a = true) /\ ((J = l.length /\ l.all p = true) ∨ ∃ a, l[J]? = some a /\ p a = false /\ l.all p = false)
 | [] => ⟨0, Nat.le_refl _, λ i a h => absurd h (by omega), .inl ⟨rfl, rfl⟩⟩
 | a :: l => by
  by_cases h : p a = true
  ·obtain ⟨J, h1, h2, h3⟩:=far_ex p l
   refine ⟨J + 1, by rw [List.length_cons]; omega, λ i b hi hb => ?_, ?_⟩
   ·cases i with
    | zero => simp at hb; subst hb; exact h
    | succ i => exact h2 i b (by omega) (by simpa using hb)
   ·rcases h3 with ⟨e, ha⟩ | ⟨b, hb, hp, ha⟩
    ·exact .inl ⟨by rw [List.length_cons, e], by rw [List.all_cons, h, ha]; rfl⟩
    ·exact .inr ⟨b, by simpa using hb, hp, by rw [List.all_cons, ha, Bool.and_false]⟩
  ·exact ⟨0, by omega, λ i b hi => absurd hi (by omega), .inr ⟨a, rfl, by simpa using h, by rw [List.all_cons]; simp [h]⟩⟩
structure Fd where
 word : List UInt8
 lo : Int
 hi : Int
 off : Nat
 fn : Value
def Fd.row (f : Fd) : List Value:=[.string (sb f.word), .int .i64 f.lo, .int .i64 f.hi, f.fn]
def Fd.v (f : Fd) : Value:=.agg #[.string (sb f.word), .int .i64 f.lo, .int .i64 f.hi, f.fn]
structure Fd.Ok (f : Fd) : Prop where
 cls : ∀ (x : Nat) (w : World) (Q : Value -> World -> Prop), Q (.pointer (some ⟨x, f.off, none⟩)) w -> Run (callV F.clos f.fn [.pointer (some ⟨x, 0, none⟩)]) w Q
 cell : f.fn.cells = #[f.fn] /\ isCell f.fn = true
 low : 0 <= f.lo /\ f.hi <= 9007199254740992
 word : f.word ≠ [] /\ f.word.length <= 100 /\ (10 : UInt8) ∉ f.word
section
variable {w w1 w2 : World}
theorem Fd.cells {f : Fd} (h : f.Ok) : f.v.cells.size = 4 /\ f.v.cells.toList.all isCell = true /\ f.v.cells.toList = f.row:=by
 have h1:=h.cell.1
 have e : f.v.cells = #[.string (sb f.word), .int .i64 f.lo, .int .i64 f.hi, f.fn]:=rfl
 rw [e]
 refine ⟨rfl, ?_, rfl⟩
 show (true && (true && (true && (isCell f.fn && true)))) = true
 rw [h.cell.2]; rfl
end
def SUM : List UInt8:=[115, 117, 109, 32]
def closeL (l : List UInt8) : List UInt8:=l ++ SUM ++ eightL (crcF (sb l)) ++ [10]
section
variable {w w1 w2 : World}
theorem line_run {A : Nat -> Prop} {x : Nat} {l : List UInt8} (h : BG A w x l) {v : Value} {xs : List (List UInt8)} (hv : Sl 1 w v (xs.map λ y => [.string (sb y)])) (hne : joinL (xs.map sb) (sb [32]) ≠ []) (hx : xs.length <= 100) (hs : (joinL (xs.map sb) (sb [32])).length <= 1048576)
  (hsum : ((xs.map sb).map (·.size)).sum <= 1048576) (hl : l.length <= 536870912) :
  Run (F.paper_line (PtrB x) v) w λ _ w' => BG A w' x (l ++ (joinL (xs.map sb) (sb [32]) ++ [10])) /\ Fr (λ c => ¬ A c) w w':=by
 unfold F.paper_line
 have e32 : ByteArray.mk #[32] = sb [32]:=rfl
 rw [e32, Run_bind]
 have hv' : Sl 1 w v ((xs.map sb).map λ y => [.string y]):=by rw [List.map_map]; exact hv
 refine (join2_run hv' (by rw [sb_size]; decide) (by rw [sb_size]; decide) (by omega) (by rw [List.length_map]; omega)).mono ?_
 rintro _ w1 ⟨rfl, f1⟩
 rw [Run_bind]
 refine (bgWrite_run (h.frm f1) hne (by omega)).mono ?_
 rintro _ w2 ⟨h2, f2⟩
 rw [Run_bind]
 have e10 : Value.int IntKind.u8 10 = by8 10:=rfl
 rw [e10]
 refine (bgByte_run h2 10 (by rw [List.length_append]; omega)).mono ?_
 rintro _ w3 ⟨h3, f3⟩
 rw [Run_ret]
 rw [List.append_assoc] at h3
 exact ⟨h3, ((f1.mono λ _ hc => hc.elim).trans f2 λ _ _ hc => hc).trans f3 λ _ _ hc => hc⟩
theorem closed_run {A : Nat -> Prop} {x : Nat} {l : List UInt8} (ht : Tb w) (h : BG A w x l) (h0 : l ≠ []) (hl : l.length <= 536870912) (hA : ∀ c, c < 11 -> A c) :
  Run (F.paper_closed (PtrB x)) w λ r w' => r = .string (sb (closeL l)) /\ Fr (λ c => ¬ A c) w w':=by
 unfold F.paper_closed
 rw [Run_bind]
 refine (bgString_run h h0 (by omega)).mono ?_
 rintro _ w1 ⟨rfl, f1⟩
 have t1:=ht.fr f1 λ c hc hn => hn (hA c hc)
 have eS : ByteArray.mk #[115, 117, 109, 32] = sb SUM:=rfl
 have e10 : ByteArray.mk #[10] = sb [10]:=rfl
 have lS : SUM.length = 4:=rfl
 have a1:=sbAdd (a:=l) (c:=SUM) (by omega)
 rw [eS, a1, Run_bindO_some, Run_bind]
 refine Run_bsl (k:=1) (vs:=[.string (sb l)]) (by rfl) (by intro v hv; simp only [List.mem_singleton] at hv; subst hv; rfl) rfl (by kernel_rfl) λ r w2 hr f2 _ => ?_
 have t2:=t1.fr0 f2
 rw [Run_bind]
 refine (crc_run t2.nib hr.1 (by rw [sb_size]; omega)).mono ?_
 rintro _ w3 ⟨rfl, rfl⟩
 rw [Run_bind]
 refine (hex8_run t2.bits (crcF_lt _)).mono ?_
 rintro _ w4 ⟨rfl, f4⟩
 have l8 : (eightL (crcF (sb l))).length = 8:=lowD_len _ _
 have eE : eightS (crcF (sb l)) = sb (eightL (crcF (sb l))):=rfl
 have a2:=sbAdd (a:=l ++ SUM) (c:=eightL (crcF (sb l))) (by rw [List.length_append]; omega)
 have a3:=sbAdd (a:=l ++ SUM ++ eightL (crcF (sb l))) (c:=[10]) (by rw [List.length_append, List.length_append, List.length_singleton]; omega)
 rw [eE, a2, Run_bindO_some, e10, a3, Run_bindO_some, Run_ret]
 exact ⟨rfl, (f1.trans f2 λ _ _ hc => hc.elim).trans f4 λ _ _ hc => hc.elim⟩
theorem join_two (a b : List UInt8) : joinL ([a, b].map sb) (sb [32]) = a ++ [32] ++ b:=by simp [joinL, sb]
theorem join_one (a : List UInt8) : joinL ([a].map sb) (sb [32]) = a:=by simp [joinL, sb]
end
def Nt.at (n : Nt) (i : Nat) : Int:=match i with
 | 0 => n.k
 | 1 => n.f
 | 2 => n.u
 | _ => n.c
section
variable {w w1 w2 : World}
theorem rclosed_run (l : List UInt8) (hl : l.length <= 1073741824) : Run (F.granaryref4_closed (.string (sb l))) w λ r w' => r = .string (sb (closeL l)) /\ Fr (λ _ => False) w w':=by
 unfold F.granaryref4_closed
 have eS : ByteArray.mk #[115, 117, 109, 32] = sb SUM:=rfl
 have e10 : ByteArray.mk #[10] = sb [10]:=rfl
 have lS : SUM.length = 4:=rfl
 have a1:=sbAdd (a:=l) (c:=SUM) (by omega)
 rw [eS, a1, Run_bindO_some, Run_bind]
 refine (rcrc_run (sb l) (by rw [sb_size]; omega)).mono ?_
 rintro _ w1 ⟨rfl, rfl⟩
 rw [Run_bind]
 refine (eight_run _ (crcF_lt _)).mono ?_
 rintro _ w2 ⟨rfl, f2⟩
 have l8 : (eightL (crcF (sb l))).length = 8:=lowD_len _ _
 have eE : eightS (crcF (sb l)) = sb (eightL (crcF (sb l))):=rfl
 have a2:=sbAdd (a:=l ++ SUM) (c:=eightL (crcF (sb l))) (by rw [List.length_append]; omega)
 have a3:=sbAdd (a:=l ++ SUM ++ eightL (crcF (sb l))) (c:=[10]) (by rw [List.length_append, List.length_append, List.length_singleton]; omega)
 rw [eE, a2, Run_bindO_some, e10, a3, Run_bindO_some, Run_ret]
 exact ⟨rfl, f2⟩
end
def fldO (f : Fd) (l : List UInt8) : Option Nat:=if (f.word ++ [32]) <+: l then numF (l.drop (f.word ++ [32]).length) else none
theorem hasPrefix_iff {s p : List UInt8} : Lib.hasPrefix s p = decide (p <+: s):=by
 unfold Lib.hasPrefix
 rw [Bool.eq_iff_iff, List.isPrefixOf_iff_prefix, decide_eq_true_iff]
theorem trim_of {s p : List UInt8} (h : p <+: s) : Lib.trimPrefix s p = s.drop p.length:=by
 unfold Lib.trimPrefix
 rw [hasPrefix_iff, decide_eq_true h, if_pos rfl]
section
variable {w w1 w2 : World}
theorem cutp_run (s p : List UInt8) : F.strings_CutPrefix (.string (sb s)) (.string (sb p)) w = some (.tuple #[.string (sb (Lib.trimPrefix s p)), .bool (decide (p <+: s))], w):=by
 unfold F.strings_CutPrefix
 show some (Value.tuple #[.string (sb (Lib.trimPrefix s p)), .bool (Lib.hasPrefix s p)], w) = _
 rw [hasPrefix_iff]
theorem numberOf_run {f : Fd} {l : List UInt8} (hl : l.length <= 4611686018427387904) (hw : f.word.length <= 100) : Run (F.paper_numberOf (.string (sb l)) (.string (sb f.word))) w λ r w' => r = numV (fldO f l) /\ Fr (λ _ => False) w w':=by
 unfold F.paper_numberOf
 have e32 : ByteArray.mk #[32] = sb [32]:=rfl
 have a1:=sbAdd (a:=f.word) (c:=[32]) (by simp; omega)
 have hnv : ∀ b, notV (.bool b) = some (.bool !b):=λ _ => rfl
 have y0 : ∀ v x, extV 0 (.tuple #[v, x]) = some v:=λ _ _ => rfl
 have y1 : ∀ v x, extV 1 (.tuple #[v, x]) = some x:=λ _ _ => rfl
 rw [e32, a1, Run_bindO_some, Run_bind]
 refine ⟨_, _, cutp_run l (f.word ++ [32]), ?_⟩
 show Run (bindO (extV 0 (.tuple #[.string (sb (Lib.trimPrefix l (f.word ++ [32]))), .bool (decide ((f.word ++ [32]) <+: l))])) _) w _
 rw [y0, Run_bindO_some, y1, Run_bindO_some, hnv, Run_bindO_some]
 unfold fldO
 by_cases h : (f.word ++ [32]) <+: l
 ·rw [decide_eq_true h, Bool.not_true, Run_condM_false, Run_bind, trim_of h, if_pos h]
  refine (number_run _ (by rw [List.length_drop]; omega)).mono ?_
  rintro _ w1 ⟨rfl, f1⟩
  have e : ∀ o, extV 0 (numV o) = some (.int .i64 ((o.getD 0 : Nat) : Int)):=λ _ => rfl
  have e' : ∀ o, extV 1 (numV o) = some (.bool o.isSome):=λ _ => rfl
  rw [e, Run_bindO_some, e', Run_bindO_some, Run_ret]
  exact ⟨rfl, f1⟩
 ·rw [decide_eq_false h, Bool.not_false, Run_condM_true, Run_ret, if_neg h]
  exact ⟨rfl, Fr.refl _ _⟩
end
def okF (s title : List UInt8) : Bool:=decide (SUM <+: ((spl 10 s).getLast?).getD []) && (sumF ((((spl 10 s).getLast?).getD []).drop 4)).isSome && decide ((spl 10 s).head? = some title)
section
variable {w w1 w2 : World}
theorem sub13 {q : Nat} (h : 13 <= q) (h2 : q < 9223372036854775808) : IntKind.i64.wrap ((q : Int) - 13) = ((q - 13 : Nat) : Int):=by
 rw [show (q : Int) - 13 = ((q - 13 : Nat) : Int) by omega]
 exact i64W (by omega)
theorem sl_mid {k : Nat} {v : Value} {els : List (List Value)} (h : Sl k w v els) {a b : Nat} (hab : a <= b) (hb : b <= els.length) (kd : IntKind) : ∃ v', sliceV k v (some (.int kd a)) (some (.int kd b)) = some v' /\ Sl k w v' ((els.take b).drop a) /\ ∀ c, inB v' c -> inB v c:=by
 obtain ⟨h1, ad, c, rfl, h2, h3⟩:=h
 have ht : Sl k w (.slice ad (els.take b).length c) (els.take b):=by
  refine ⟨λ x hx => h1 x (List.mem_of_mem_take hx), ad, c, rfl, by rw [List.length_take]; omega, ?_⟩
  rcases h3 with h3 | ⟨bl, o, l, rfl, h4, h5, h6⟩
  ·exact .inl h3
  ·refine .inr ⟨bl, o, l, rfl, h4, h5, ?_⟩
   have hfl:=flat_len h1
   have e : (els.take b).flatten = els.flatten.take (b * k):=by
    have hsp : els.flatten = (els.take b).flatten ++ (els.drop b).flatten:=by rw [<- List.flatten_append, List.take_append_drop]
    have hlt : (els.take b).flatten.length = b * k:=by
     rw [flat_len λ x hx => h1 x (List.mem_of_mem_take hx), List.length_take, Nat.min_eq_left hb]
    rw [hsp, List.take_append_of_le_length (by omega), List.take_of_length_le (Nat.le_of_eq hlt)]
   rw [e, <- h6, List.take_take, List.length_take, Nat.min_eq_left hb, Nat.min_eq_left (Nat.mul_le_mul_right _ hb)]
 obtain ⟨v', e1, e2, e3⟩:=ht.drop (n:=a) (by rw [List.length_take]; omega) kd
 refine ⟨v', ?_, e2, λ c hc => by have:=e3 c hc; cases ad <;> exact this⟩
 rw [<- e1, List.length_take, Nat.min_eq_left hb]
 have hbc : boundV (.int kd (b : Int)) c = some b:=bound_at (by omega)
 simp only [sliceV, highV, hbc]
structure OpenP (w w' : World) (s title : List UInt8) (r : Value) : Prop where
 val : ∃ v right, r = .tuple #[v, .bool right, .bool (okF s title)] /\ (okF s title = true -> right = decide (sumF ((((spl 10 s).getLast?).getD []).drop 4) = some (crcF (sb ((s ++ [10]).take ((s ++ [10]).length - 13))))) /\
  Sl 1 w' v ((((spl 10 s).take ((spl 10 s).length - 1)).drop 1).map λ x => [.string (sb x)]) /\ ∀ c, inB v c -> w.heap.size <= c /\ c < w'.heap.size)
 fr : Fr (λ _ => False) w w'
theorem open_no {t title : List UInt8} (ht : ¬ [10] <:+ t) (hl : t.length <= 4294960000) : Run (F.paper_open (.string (sb t)) (.string (sb title))) w λ r w' => r = .tuple #[.slice none 0 0, .bool false, .bool false] /\ w' = w:=by
 unfold F.paper_open
 have e10 : ByteArray.mk #[10] = sb [10]:=rfl
 have hs : F.strings_HasSuffix (.string (sb t)) (.string (sb [10])) w = some (.bool false, w):=by
  unfold F.strings_HasSuffix
  simp only
  rw [if_pos (by rw [sb_size]; omega)]
  show some (Value.bool (([10] : List UInt8).isSuffixOf t), w) = _
  have : ([10] : List UInt8).isSuffixOf t = false:=by
   rw [Bool.eq_false_iff]
   exact λ h => ht (List.isSuffixOf_iff_suffix.1 h)
  rw [this]
 have hnv : ∀ b, notV (.bool b) = some (.bool !b):=λ _ => rfl
 rw [e10, Run_bind]
 refine ⟨_, _, hs, ?_⟩
 show Run (bindO (notV (.bool false)) _) w _
 rw [hnv, Run_bindO_some, Bool.not_false, Run_condM_true, Run_ret]
 exact ⟨rfl, rfl⟩
theorem open_yes (htb : Tb w) {s title : List UInt8} (hts : ¬ SUM <+: title) (hl : s.length <= 4294960000) : Run (F.paper_open (.string (sb (s ++ [10]))) (.string (sb title))) w λ r w' => OpenP w w' s title r:=by
 unfold F.paper_open
 have e10 : ByteArray.mk #[10] = sb [10]:=rfl
 have eS : ByteArray.mk #[115, 117, 109, 32] = sb SUM:=rfl
 have hs : F.strings_HasSuffix (.string (sb (s ++ [10]))) (.string (sb [10])) w = some (.bool true, w):=by
  unfold F.strings_HasSuffix
  simp only
  rw [if_pos (by rw [sb_size, List.length_append, List.length_singleton]; omega)]
  show some (Value.bool (([10] : List UInt8).isSuffixOf (s ++ [10])), w) = _
  rw [List.isSuffixOf_iff_suffix.2 (List.suffix_append s [10])]
 have hnv : ∀ b, notV (.bool b) = some (.bool !b):=λ _ => rfl
 have y0 : ∀ v x, extV 0 (.tuple #[v, x]) = some v:=λ _ _ => rfl
 have y1 : ∀ v x, extV 1 (.tuple #[v, x]) = some x:=λ _ _ => rfl
 rw [e10, Run_bind]
 refine ⟨_, _, hs, ?_⟩
 show Run (bindO (notV (.bool true)) _) w _
 rw [hnv, Run_bindO_some, Bool.not_true, Run_condM_false]
 have hlen : (s ++ [10]).length = s.length + 1:=by simp
 have ws : IntKind.i64.wrap (((s ++ [10]).length : Int) - 1) = (s.length : Int):=by rw [hlen, show ((s.length + 1 : Nat) : Int) - 1 = (s.length : Int) by omega]; exact i64W (by omega)
 have hsl:=slTo (l:=s ++ [10]) (n:=s.length) (by omega)
 rw [List.take_left' rfl] at hsl
 rw [lenS_string, sb_size, Run_bindO_some, binV_int, intBin_sub, ws, Run_bindO_some, hsl, Run_bindO_some, Run_bind]
 refine (split_run htb s 10 (by omega)).mono ?_
 rintro v w1 ⟨hv, f1, hn1⟩
 have hne:=spl_ne 10 s
 obtain ⟨hjn, hno⟩:=spl_jn 10 s
 generalize hN : spl 10 s = N at *
 have hN0 : 0 < N.length:=List.length_pos_iff.2 hne
 have hNs : N.length <= s.length + 1:=by
  have:=jn_count 10 N hne hno
  have h2 : (jn 10 N).count 10 <= (jn 10 N).length:=List.count_le_length
  rw [hjn] at this h2
  omega
 have hlv:=hv.1.lenL
 rw [List.length_map] at hlv
 have wl : IntKind.i64.wrap ((N.length : Int) - 1) = ((N.length - 1 : Nat) : Int):=by rw [show (N.length : Int) - 1 = ((N.length - 1 : Nat) : Int) by omega]; exact i64W (by omega)
 obtain ⟨last, hlast⟩ : ∃ x, N[N.length - 1]? = some x:=⟨_, List.getElem?_eq_getElem (by omega)⟩
 have hgl : N.getLast? = some last:=by rw [List.getLast?_eq_getElem?]; exact hlast
 obtain ⟨p, p1, p2⟩:=hv.1.rd1 (i:=N.length - 1) (y:=.string (sb last)) (by simp [hlast]) .i64
 have p1' : idxA 1 v (.int .i64 ((N.length - 1 : Nat) : Int)) = some p:=p1
 have hmem : ∀ x ∈ N, x.length <= s.length:=λ x hx => by
  have : ∀ (N : List (List UInt8)), x ∈ N -> x.length <= (jn 10 N).length:=λ N => by
   induction N with
   | nil => intro h; cases h
   | cons y r ih =>
    intro h
    by_cases hr : r = []
    ·subst hr; simp at h; subst h; simp [jn]
    ·rw [jn_cons 10 hr, List.length_append, List.length_append]
     rcases List.mem_cons.1 h with rfl | h
     ·omega
     ·have:=ih h; omega
  have:=this N hx
  rwa [hjn] at this
 have hll:=hmem last (List.mem_of_getElem? hlast)
 rw [hlv, Run_bindO_some, binV_int, intBin_sub, wl, Run_bindO_some, p1', Run_bindO_some, Run_bind, Run_rdM]
 refine ⟨_, p2, ?_⟩
 rw [eS, Run_bind]
 refine ⟨_, _, cutp_run last SUM, ?_⟩
 show Run (bindO (extV 0 (.tuple #[.string (sb (Lib.trimPrefix last SUM)), .bool (decide (SUM <+: last))])) _) w1 _
 rw [y0, Run_bindO_some, y1, Run_bindO_some, Run_bind]
 have htl : (Lib.trimPrefix last SUM).length <= 4611686018427387904:=by
  unfold Lib.trimPrefix
  split
  ·rw [List.length_drop]; omega
  ·omega
 refine (sumOf_run htl).mono ?_
 rintro _ w2 ⟨rfl, f2⟩
 have e : ∀ o, extV 0 (numV o) = some (.int .i64 ((o.getD 0 : Nat) : Int)):=λ _ => rfl
 have e' : ∀ o, extV 1 (numV o) = some (.bool o.isSome):=λ _ => rfl
 have hv2:=hv.1.fr0 f2
 obtain ⟨first, hfirst⟩ : ∃ x, N[0]? = some x:=⟨_, List.getElem?_eq_getElem (by omega)⟩
 have hhd : N.head? = some first:=by rw [List.head?_eq_getElem?]; exact hfirst
 obtain ⟨p0, q1, q2⟩:=hv2.rd1 (i:=0) (y:=.string (sb first)) (by simp [hfirst]) .i64
 have q1' : idxA 1 v (.int .i64 0) = some p0:=q1
 have hokF : okF s title = (decide (SUM <+: last) && (sumF (last.drop 4)).isSome && decide (first = title)):=by
  unfold okF
  rw [hN, hgl, hhd, Option.getD_some]
  simp
 have bad : okF s title = false -> Run (condM (.bool true) (M.ret (Value.tuple #[(Value.slice none 0 0), (Value.bool false), (Value.bool false)])) (M.fail : M Value)) w2 λ r w' => OpenP w w' s title r:=λ hb => by
  rw [Run_condM_true, Run_ret]
  exact ⟨⟨_, false, by rw [hb], λ h => by rw [hb] at h; cases h⟩, f1.trans f2 λ _ _ => id⟩
 have bad' : okF s title = false -> ∀ K, Run (condM (.bool true) (M.ret (Value.tuple #[(Value.slice none 0 0), (Value.bool false), (Value.bool false)])) K) w2 λ r w' => OpenP w w' s title r:=λ hb K => by
  have:=bad hb
  rw [Run_condM_true] at this ⊢
  exact this
 rw [e, Run_bindO_some, e', Run_bindO_some, hnv, Run_bindO_some]
 by_cases c1 : SUM <+: last
 case neg =>
  rw [decide_eq_false c1]
  simp only [Bool.not_false, Run_bind, Run_guardM_tf, pickV_bool, cond_true, Run_bindO_some]
  exact bad' (by rw [hokF, decide_eq_false c1]; rfl) _
 rw [decide_eq_true c1, trim_of c1]
 have hS4 : SUM.length = 4:=rfl
 rw [hS4]
 cases hsm : sumF (last.drop 4) with
 | none =>
  simp only [Bool.not_true, Run_bind, Run_guardM_ff, Run_ret, Option.isSome_none, hnv, Bool.not_false, Run_optM_some, pickV_bool, cond_false, cond_true, Run_bindO_some, Run_guardM_tf]
  exact bad' (by rw [hokF, hsm]; simp) _
 | some n =>
  simp only [Bool.not_true, Run_bind, Run_guardM_ff, Run_ret, Option.isSome_some, hnv, Run_optM_some, pickV_bool, cond_false, Run_bindO_some, q1', Run_rdM]
  refine ⟨_, q2, ?_⟩
  rw [sbNe, Run_optM_some]
  by_cases c3 : first = title
  case neg =>
   rw [decide_eq_false c3, Bool.not_false]
   exact bad' (by rw [hokF, decide_eq_false c3]; simp) _
  have hok : okF s title = true:=by rw [hokF, decide_eq_true c1, hsm, decide_eq_true c3]; rfl
  have hN2 : 2 <= N.length:=Nat.not_lt.1 λ h => by
   have h1 : N.length - 1 = 0:=by omega
   rw [h1, hfirst] at hlast
   rw [<- Option.some.inj hlast, c3] at c1
   exact hts c1
  have hs13 : 13 <= (s ++ [10]).length:=by
   have h8 : (last.drop 4).length = 8:=by
    unfold sumF at hsm
    split at hsm
    ·assumption
    ·cases hsm
   rw [List.length_drop] at h8
   omega
  have w13 : IntKind.i64.wrap (((s ++ [10]).length : Int) - 13) = (((s ++ [10]).length - 13 : Nat) : Int):=sub13 hs13 (by omega)
  obtain ⟨vm, m1, m2, m3⟩:=sl_mid (hv2.fr0 (show Fr (λ _ => False) w2 w2.drew from (Fr.refl _ _).drew)) (a:=1) (b:=N.length - 1) (by omega) (by rw [List.length_map]; omega) .i64
  have m1' : sliceV 1 v (some (.int .i64 1)) (some (.int .i64 ((N.length - 1 : Nat) : Int))) = some vm:=m1
  have hsl2:=slTo (l:=s ++ [10]) (n:=(s ++ [10]).length - 13) (by omega)
  rw [decide_eq_true c3, Bool.not_true, Run_condM_false, Run_drewM, m1', Run_bindO_some, Run_bindO_some, binV_int, intBin_sub, w13, Run_bindO_some, hsl2, Run_bindO_some, Run_bind]
  refine Run_bsl (k:=1) (vs:=[.string (sb ((s ++ [10]).take ((s ++ [10]).length - 13)))]) (by rfl) (by intro v hv; simp only [List.mem_singleton] at hv; subst hv; rfl) rfl (by kernel_rfl) λ r w3 hr f3 _ => ?_
  have fd3 : Fr (λ _ => False) w2 w3:=((Fr.refl _ _).drew).trans f3 λ _ _ => id
  have f13:=(f1.trans f2 λ _ _ => id).trans fd3 λ _ _ => id
  rw [Run_bind]
  refine (crc_run (htb.fr0 f13).nib hr.1 (by rw [sb_size, List.length_take]; omega)).mono ?_
  rintro _ w4 ⟨rfl, rfl⟩
  rw [binV_int, intBin_eql, Run_bindO_some, Run_ret, Option.getD_some]
  refine ⟨⟨vm, _, by rw [hok], λ _ => ⟨?_, ?_, λ c hc => ?_⟩⟩, f13⟩
  ·rw [hN, hgl, Option.getD_some, hsm]
   congr 1
   rw [eq_iff_iff]
   constructor
   ·intro h; rw [Int.ofNat_inj.1 h]
   ·intro h; rw [Option.some.inj h]
  ·rw [hN]
   have:=m2.fr0 f3
   rwa [<- List.map_take, <- List.map_drop] at this
  ·exact ⟨(hn1 c (m3 c hc)).1, Nat.lt_of_lt_of_le (hn1 c (m3 c hc)).2 (f2.trans fd3 λ _ _ => id).size⟩
end
theorem num_all {d : List UInt8} {v : Nat} (h : numF d = some v) : d.all isD = true /\ v = valL d /\ d ≠ [] /\ d.length <= 16:=by
 unfold numF at h
 split at h
 ·cases h
 ·rename_i hn
  simp only [not_or, Option.some.injEq] at hn h
  exact ⟨by simpa using hn.2.2.2, h.symm, hn.1, by omega⟩
theorem num_no10 {d : List UInt8} {v : Nat} (h : numF d = some v) : (10 : UInt8) ∉ d:=λ hm => by
 have:=List.all_eq_true.1 (num_all h).1 10 hm
 exact absurd this (by decide)
theorem sum_no10 {e : List UInt8} {v : Nat} (h : sumF e = some v) : (10 : UInt8) ∉ e /\ e.length = 8:=by
 unfold sumF at h
 split at h
 ·rename_i hl
  refine ⟨λ hm => ?_, hl⟩
  obtain ⟨j, hj⟩:=List.getElem?_of_mem hm
  have hj8 : j < 8:=by have:=(List.getElem?_eq_some_iff.1 hj).1; omega
  have hp : pairV e (j / 2) = none:=by
   unfold pairV
   rcases Nat.mod_two_eq_zero_or_one j with h0 | h1
   ·rw [show 2 * (j / 2) = j by omega, hj]
    have h10 : hvN (10 : UInt8).toNat = none:=by decide
    split
    ·rename_i a b h1 h2
     cases h1
     rw [h10]
    ·rfl
   ·rw [show 2 * (j / 2) + 1 = j by omega, hj]
    have h10 : hvN (10 : UInt8).toNat = none:=by decide
    split
    ·rename_i a b h1 h2
     cases h2
     rw [h10]
     split <;> simp_all
    ·rfl
  rw [pairsF_bad hp (n:=4) (by omega)] at h
  cases h
 ·cases h
def midL (s : List UInt8) : List (List UInt8):=((spl 10 s).take ((spl 10 s).length - 1)).drop 1
def lastL (s : List UInt8) : List UInt8:=((spl 10 s).getLast?).getD []
theorem fldO_of {f : Fd} {d : List UInt8} : fldO f (f.word ++ [32] ++ d) = numF d:=by
 unfold fldO
 rw [if_pos (List.prefix_append _ _), List.drop_left]
theorem fldO_some {f : Fd} {l : List UInt8} (h : (fldO f l).isSome = true) : ∃ d v, l = f.word ++ [32] ++ d /\ numF d = some v:=by
 unfold fldO at h
 split at h
 ·rename_i hp
  obtain ⟨d, rfl⟩:=hp
  rw [List.drop_left] at h
  obtain ⟨v, hv⟩:=Option.isSome_iff_exists.1 h
  exact ⟨d, v, rfl, hv⟩
 ·cases h
theorem pairs_app {e r : List UInt8} (he : e.length = 8) : pairsF (e ++ r) 4 = pairsF e 4:=by
 have hp : ∀ i, i < 4 -> pairV (e ++ r) i = pairV e i:=λ i hi => by
  unfold pairV
  rw [List.getElem?_append_left (by omega), List.getElem?_append_left (by omega)]
 simp only [pairsF, hp 0 (by decide), hp 1 (by decide), hp 2 (by decide), hp 3 (by decide)]
theorem pairs_long {l bs : List UInt8} (h : pairsF l 4 = some bs) : 8 <= l.length:=Nat.not_lt.1 λ hl => by
 have : pairV l 3 = none:=by
  unfold pairV
  rw [show l[2 * 3 + 1]? = none from List.getElem?_eq_none (by omega)]
  split <;> simp_all
 rw [pairsF_bad this (n:=4) (by decide)] at h
 cases h
section
variable {w w1 w2 : World}
structure LastP (w w' : World) (b : Nat) (l : List UInt8) (p : Nat) (bad : Bool) (r : Value) : Prop where
 yes : ∀ e sm, bad = false -> l.drop p = SUM ++ e ++ [10] -> sumF e = some sm -> r = .int .i64 (if sm = crcF (sb (l.take p)) then 0 else 41)
 no : (bad = true ∨ ∀ e sm, l.drop p = SUM ++ e ++ [10] -> sumF e ≠ some sm) -> r = .int .i64 40
 fr : Fr (λ c => c = b) w w'
theorem last_run {b p : Nat} {l : List UInt8} {bad : Bool} (h : RS w b l p bad) (hp : p <= l.length) (hl : l.length <= 4611686018427387000) :
  Run (F.granaryref4_Reader_last (.pointer (some ⟨b, 0, none⟩))) w λ r w' => LastP w w' b l p bad r:=by
 unfold F.granaryref4_Reader_last
 have nck : nilChk (.pointer (some ⟨b, 0, none⟩)) = some (.pointer (some ⟨b, 0, none⟩)):=rfl
 have la : ld1 (.pointer (some ⟨b, 0 + 1, none⟩)) w = some (.int .i64 (p : Int)):=by rw [ld1_ptr, h.1]; rfl
 have eS : ByteArray.mk #[115, 117, 109, 32] = sb SUM:=rfl
 have e10 : ByteArray.mk #[10] = sb [10]:=rfl
 rw [nck, Run_bindO_some, fieldA_ptr, Run_bindO_some, Run_bind, Run_rdM]
 refine ⟨_, la, ?_⟩
 rw [eS, Run_bind]
 refine (rlit_run h hp (by omega) (by decide)).mono ?_
 rintro _ w1 ⟨⟨p1, rs1, hp1, hq1⟩, f1⟩
 rw [Run_bind]
 refine (rsum_run rs1 hp1 (by omega)).mono ?_
 rintro _ w2 ⟨rfl, ⟨p2, rs2, hp2, hq2⟩, f2⟩
 rw [e10, Run_bind]
 refine (rlit_run rs2 hp2 (by omega) (by decide)).mono ?_
 rintro _ w3 ⟨⟨p3, rs3, hp3, hq3⟩, f3⟩
 have f13 : Fr (λ c => c = b) w w3:=(f1.trans f2 λ _ _ h => h).trans f3 λ _ _ h => h
 have fd : Fr (λ c => c = b) w w3.drew:=f13.drew
 have key : ((((if (bad || !decide (SUM <+: l.drop p)) = true then none else (pairsF (l.drop p1) 4).map valB).isNone || !decide ([10] <+: l.drop p2)) = false /\ p3 = l.length) -> ∃ e sm, bad = false /\ l.drop p = SUM ++ e ++ [10] /\ sumF e = some sm /\ (if (bad || !decide (SUM <+: l.drop p)) = true then none else (pairsF (l.drop p1) 4).map valB) = some sm):=by
  rintro ⟨hb, hp3l⟩
  simp only [Bool.or_eq_false_iff, Bool.not_eq_false', decide_eq_true_eq] at hb
  obtain ⟨hb1, hb2⟩:=hb
  cases hbb : (bad || !decide (SUM <+: l.drop p)) with
  | true => rw [hbb] at hb1; simp at hb1
  | false =>
   rw [hbb] at hb1 hq2 rs2 hq3
   simp only [Bool.or_eq_false_iff, Bool.not_eq_false', decide_eq_true_eq] at hbb
   obtain ⟨hbad, hS⟩:=hbb
   have e1:=hq1 hbad hS
   cases hpp : pairsF (l.drop p1) 4 with
   | none => rw [hpp] at hb1; simp at hb1
   | some bs =>
    have e2:=hq2 (by rw [hpp]; rfl)
    rw [hpp] at hq3
    have e3:=hq3 rfl hb2
    obtain ⟨t1, ht1⟩:=hS
    have d1 : l.drop p1 = t1:=by rw [e1]; exact drop_more ht1.symm
    rw [d1] at hpp
    have hl8:=pairs_long hpp
    have d2 : l.drop p2 = t1.drop 8:=by rw [e2, <- d1, List.drop_drop]
    obtain ⟨t2, ht2⟩:=hb2
    have ht2' : t2 = []:=by
     have h1:=congrArg List.length ht2
     have h2 : (l.drop p2).length = l.length - p2:=List.length_drop
     rw [List.length_append] at h1
     apply List.eq_nil_of_length_eq_zero
     have h3 : ([10] : List UInt8).length = 1:=rfl
     omega
    rw [ht2', List.append_nil, d2] at ht2
    have ht8 : (t1.take 8).length = 8:=by rw [List.length_take]; omega
    have hpe : pairsF (t1.take 8) 4 = some bs:=by
     rw [<- pairs_app (r:=t1.drop 8) ht8, List.take_append_drop]; exact hpp
    refine ⟨t1.take 8, valB bs, hbad, ?_, ?_, ?_⟩
    ·rw [<- ht1, List.append_assoc, ht2, List.take_append_drop]
    ·unfold sumF; rw [if_pos ht8, hpe]; rfl
    ·simp [d1, hpp]
 have comp : ∀ e sm, bad = false -> l.drop p = SUM ++ e ++ [10] -> sumF e = some sm -> (((if (bad || !decide (SUM <+: l.drop p)) = true then none else (pairsF (l.drop p1) 4).map valB).isNone || !decide ([10] <+: l.drop p2)) = false /\ p3 = l.length) /\ (if (bad || !decide (SUM <+: l.drop p)) = true then none else (pairsF (l.drop p1) 4).map valB) = some sm:=by
  intro e sm hbad hd hsm
  rw [List.append_assoc] at hd
  have he8:=(sum_no10 hsm).2
  have hS : SUM <+: l.drop p:=⟨_, hd.symm⟩
  have e1:=hq1 hbad hS
  have d1 : l.drop p1 = e ++ [10]:=by rw [e1]; exact drop_more hd
  have hbb : (bad || !decide (SUM <+: l.drop p)) = false:=by rw [hbad, decide_eq_true hS]; rfl
  have hps : (pairsF (l.drop p1) 4).map valB = some sm:=by
   rw [d1, pairs_app he8]
   unfold sumF at hsm
   rw [if_pos he8] at hsm
   exact hsm
  rw [hbb] at hq2 hq3 ⊢
  simp only [Bool.false_eq_true, if_false, hps] at hq2 hq3 ⊢
  have e2:=hq2 rfl
  have d2 : l.drop p2 = [10]:=by
   have:=drop_more (a:=e) d1
   rw [e2, <- he8]
   exact this
  have hT : [10] <+: l.drop p2:=by rw [d2]; exact List.prefix_refl _
  have e3:=hq3 rfl hT
  refine ⟨⟨by rw [decide_eq_true hT]; rfl, ?_⟩, trivial⟩
  have h2:=congrArg List.length d2
  rw [List.length_drop] at h2
  have h3 : ([10] : List UInt8).length = 1:=rfl
  omega
 generalize ho : (if (bad || !decide (SUM <+: l.drop p)) = true then none else (pairsF (l.drop p1) 4).map valB) = o at *
 generalize hB : (o.isNone || !decide ([10] <+: l.drop p2)) = B at *
 have hb3:=rs3.1
 have fail : ¬ (B = false /\ p3 = l.length) -> LastP w w3.drew b l p bad (.int .i64 40):=λ hn => ⟨λ e sm h1 h2 h3 => absurd (comp e sm h1 h2 h3).1 hn, λ _ => rfl, fd⟩
 have hlen : (sb l).size = l.length:=sb_size l
 by_cases c1 : B = true
 ·subst c1
  simp [-ldA_ptr, hb3]
  exact fail λ h => Bool.noConfusion h.1
 have c1' : B = false:=by simpa using c1
 by_cases c2 : p3 = l.length
 case neg =>
  have c2' : ¬ (p3 : Int) = l.length:=by omega
  rw [c1'] at hb3
  simp [-ldA_ptr, hb3, hlen, c2', c2]
  exact fail λ h => c2 h.2
 obtain ⟨e, sm, h1, h2, h3, h4⟩:=key ⟨c1', c2⟩
 have ok : LastP w w3.drew b l p bad (.int .i64 (if sm = crcF (sb (l.take p)) then 0 else 41)):=by
  refine ⟨λ e' sm' g1 g2 g3 => ?_, λ hn => ?_, fd⟩
  ·have:=(comp e' sm' g1 g2 g3).2
   rw [h4] at this
   rw [Option.some.inj this]
  ·rcases hn with hn | hn
   ·rw [h1] at hn; cases hn
   ·exact absurd h3 (hn e sm h2)
 have hsl:=slTo (l:=l) (n:=p) hp
 rw [c1'] at hb3
 rw [c2] at hb3
 simp [-ldA_ptr, hb3, hlen, hsl]
 refine (rcrc_run (sb (l.take p)) (by rw [sb_size, List.length_take]; omega)).mono ?_
 rintro _ w4 ⟨rfl, hw4⟩
 rw [hw4, h4]
 by_cases c3 : sm = crcF (sb (l.take p))
 ·rw [if_pos c3] at ok
  simp [c3]
  exact ok
 ·rw [if_neg c3] at ok
  have c3' : ¬ (sm : Int) = (crcF (sb (l.take p)) : Int):=by omega
  simp [c3', c3]
  exact ok
end
section
variable {w w1 w2 : World}
structure RP (w0 w : World) (b : Nat) (l : List UInt8) (p : Nat) (bad : Bool) (x6 : Nat) (l6 : List Value) : Prop where
 rs : RS w b l p bad
 hp : p <= l.length
 b6 : bk w x6 = some l6
 w6 : wr w x6 = true
 e6 : l6.length = 4
 ne : x6 ≠ b
 fr : Fr (λ c => c = b ∨ c = x6) w0 w
theorem RP.call {w0 : World} {b p : Nat} {l : List UInt8} {bad : Bool} {x6 : Nat} {l6 : List Value} (h : RP w0 w b l p bad x6 l6) (f : Fr (λ c => c = b) w w2) {p' : Nat} {bad' : Bool} (rs : RS w2 b l p' bad') (hp : p' <= l.length) : RP w0 w2 b l p' bad' x6 l6 :=
 ⟨rs, hp, f.bk_some h.b6 h.ne, by rw [f.wr (bk_lt h.b6) h.ne]; exact h.w6, h.e6, h.ne, h.fr.trans f λ _ _ he => .inl he⟩
theorem RP.put6 {w0 : World} {b p : Nat} {l : List UInt8} {bad : Bool} {x6 : Nat} {l6 : List Value} (h : RP w0 w b l p bad x6 l6) (i : Nat) (y : Value) : RP w0 (sto w x6 i [y]) b l p bad x6 (l6.set i y):=by
 have f : Fr (λ c => c = x6) w (sto w x6 i [y]):=(show Fr (λ c => c = x6) w w from Fr.refl _ _).sto (.inl rfl) _ _
 exact ⟨⟨f.bk_some h.rs.1 λ e => h.ne e.symm, by rw [wr_sto]; exact h.rs.2⟩, h.hp, by rw [bk_sto_same h.b6]; simp only [setL_cons, setL_nil], by rw [wr_sto]; exact h.w6, by rw [List.length_set]; exact h.e6, h.ne, h.fr.trans f λ _ _ he => .inr he⟩
theorem RP.num {β : Type} {w0 : World} {b p : Nat} {l : List UInt8} {bad : Bool} {x6 : Nat} {l6 : List Value} (h : RP w0 w b l p bad x6 l6) (hl : l.length <= 4611686018427387904) {i : Nat} (hi : i < 4) {K : M β} {Q : β -> World -> Prop}
  (q : ∀ w', RP w0 w' b l (p + (rdD l p).length) (bad || (numF (rdD l p)).isNone) x6 (l6.set i (.int .i64 (((numF (rdD l p)).getD 0 : Nat) : Int))) -> Run K w' Q) :
  Run (M.bind (F.granaryref4_Reader_number (.pointer (some ⟨b, 0, none⟩))) λ x8 => bindO (fieldA i (.pointer (some ⟨x6, 0, none⟩))) λ x9 => M.bind (stM 1 x9 x8) λ _ => K) w Q:=by
 rw [Run_bind]
 refine (rnum_run h.rs h.hp hl).mono ?_
 rintro _ w2 ⟨rfl, rs, f⟩
 have hd:=rdD_len l p
 have hple:=h.hp
 have h2:=h.call f rs (by omega)
 rw [fieldA_ptr, Run_bindO_some, Run_bind, Run_stM (by rfl) (by rfl) ⟨⟨l6, h2.b6, by rw [h2.e6]; show 0 + i + 1 <= 4; omega⟩, h2.w6⟩]
 have h3:=h2.put6 (0 + i) (.int .i64 (((numF (rdD l p)).getD 0 : Nat) : Int))
 have q2:=q (sto w2 x6 (0 + i) [.int .i64 (((numF (rdD l p)).getD 0 : Nat) : Int)])
 rw [Nat.zero_add] at h3 q2
 rw [Nat.zero_add]
 exact q2 h3
theorem RP.lit {β : Type} {w0 : World} {b p : Nat} {l : List UInt8} {bad : Bool} {x6 : Nat} {l6 : List Value} (h : RP w0 w b l p bad x6 l6) (hl : l.length <= 4611686018427387904) {y : List UInt8} (hy : y.length <= 4611686018427387904) {K : M β} {Q : β -> World -> Prop}
  (q : ∀ w' p', RP w0 w' b l p' (bad || !decide (y <+: l.drop p)) x6 l6 -> (bad = false -> y <+: l.drop p -> p' = p + y.length) -> Run K w' Q) :
  Run (M.bind (F.granaryref4_Reader_lit (.pointer (some ⟨b, 0, none⟩)) (.string (sb y))) λ _ => K) w Q:=by
 rw [Run_bind]
 refine (rlit_run h.rs h.hp hl hy).mono ?_
 rintro _ w2 ⟨⟨p', rs, hp', hh⟩, f⟩
 exact q w2 p' (h.call f rs hp') hh
theorem lit_good {bad : Bool} {l y : List UInt8} {p p' : Nat} (h : (bad || !decide (y <+: l.drop p)) = false) (hq : bad = false -> y <+: l.drop p -> p' = p + y.length) : bad = false /\ l.drop p = y ++ l.drop p':=by
 simp only [Bool.or_eq_false_iff, Bool.not_eq_false', decide_eq_true_eq] at h
 obtain ⟨t, ht⟩:=h.2
 have e:=hq h.1 h.2
 have d:=drop_more (p:=p) ht.symm
 rw [<- e] at d
 exact ⟨h.1, by rw [d]; exact ht.symm⟩
theorem num_good {bad : Bool} {l : List UInt8} {p : Nat} (h : (bad || (numF (rdD l p)).isNone) = false) : bad = false /\ (∃ v, numF (rdD l p) = some v) /\ l.drop p = rdD l p ++ l.drop (p + (rdD l p).length):=by
 simp only [Bool.or_eq_false_iff] at h
 refine ⟨h.1, ?_, ?_⟩
 ·cases hn : numF (rdD l p) with
  | none => rw [hn] at h; simp at h
  | some v => exact ⟨v, rfl⟩
 ·have h1:=runD_take ((l.drop p).take 17)
  have h2 : rdD l p = runD ((l.drop p).take 17):=rfl
  rw [<- h2, List.take_take, Nat.min_eq_left (rdD_len l p).1] at h1
  rw [<- List.drop_drop]
  conv => lhs; rw [<- List.take_append_drop (rdD l p).length (l.drop p)]
  rw [h1]
theorem num_at {l d r : List UInt8} {p v : Nat} (hd : numF d = some v) (h : l.drop p = d ++ r) (hr : ∀ c, r.head? = some c -> isD c = false) : rdD l p = d /\ l.drop (p + (rdD l p).length) = r:=by
 obtain ⟨h1, _, _, h16⟩:=num_all hd
 have e : rdD l p = d:=by
  unfold rdD
  rw [h, List.take_append, List.take_of_length_le (by omega)]
  refine runD_app h1 λ c hc => hr c ?_
  cases r with
  | nil => simp at hc
  | cons x r =>
   cases hk : 17 - d.length with
   | zero => omega
   | succ k => rw [hk, List.take_succ_cons] at hc; exact hc
 rw [e]
 exact ⟨rfl, drop_more h⟩
end
end Go.Proofs.YthlpfhjcdedhgaaGreatDoor
namespace Go.Proofs.YthlpfhjcdedhgaaGreatDoor
open Go.Lift
set_option linter.unusedSimpArgs false
set_option linter.unusedVariables false
set_option maxHeartbeats 4000000
theorem u8_all {P : UInt8 -> Prop} (h : ∀ n, n < 256 -> P (UInt8.ofNat n)) (c : UInt8) : P c:=by
 have:=h c.toNat c.toNat_lt
 rwa [UInt8.ofNat_toNat] at this
def stSet : List UInt8:=[97, 98, 99, 100, 101, 102, 103, 104, 105, 106, 107, 108, 109, 110, 111, 112, 113, 114, 115, 116, 117, 118, 119, 120, 121, 122, 48, 49, 50, 51, 52, 53, 54, 55, 56, 57, 45]
theorem stSet_iff (c : UInt8) : c ∈ stSet ↔ ((97 <= c.toNat /\ c.toNat <= 122) ∨ (48 <= c.toNat /\ c.toNat <= 57)) ∨ c.toNat = 45:=u8_all (P:=λ c => c ∈ stSet ↔ ((97 <= c.toNat /\ c.toNat <= 122) ∨ (48 <= c.toNat /\ c.toNat <= 57)) ∨ c.toNat = 45) (by decide +kernel) c
theorem stSet_low : ∀ c ∈ stSet, c.toNat < 128:=by decide +kernel
def storeP (l : List UInt8) : Bool:=match l with
 | [] => false
 | c :: r => decide ((c :: r).length <= 40 /\ 97 <= c.toNat /\ c.toNat <= 122) && (c :: r).all λ c => decide (c ∈ stSet)
theorem storeP_no {c : UInt8} {r : List UInt8} (h : ¬ ((c :: r).length <= 40 /\ 97 <= c.toNat /\ c.toNat <= 122)) : storeP (c :: r) = false:=by
 show (decide ((c :: r).length <= 40 /\ 97 <= c.toNat /\ c.toNat <= 122) && (c :: r).all λ c => decide (c ∈ stSet)) = false
 rw [decide_eq_false h, Bool.false_and]
theorem storeP_yes {c : UInt8} {r : List UInt8} (h : (c :: r).length <= 40 /\ 97 <= c.toNat /\ c.toNat <= 122) : storeP (c :: r) = (c :: r).all λ c => decide (c ∈ stSet):=by
 show (decide ((c :: r).length <= 40 /\ 97 <= c.toNat /\ c.toNat <= 122) && (c :: r).all λ c => decide (c ∈ stSet)) = _
 rw [decide_eq_true h, Bool.true_and]
theorem storeP_len {l : List UInt8} (h : storeP l = true) : 1 <= l.length /\ l.length <= 40 /\ ∀ c ∈ l, c ∈ stSet:=by
 cases l with
 | nil => cases h
 | cons c r =>
  simp only [storeP, Bool.and_eq_true, decide_eq_true_eq] at h
  refine ⟨by rw [List.length_cons]; omega, h.1.1, λ x hx => ?_⟩
  have:=List.all_eq_true.1 h.2 x hx
  exact of_decide_eq_true this
section
variable {w w1 w2 : World}
theorem storeOK_run (l : List UInt8) (hl : l.length <= 4611686018427387904) : Run (F.paper_storeOK (.string (sb l))) w λ r w' => r = .bool (storeP l) /\ Fr (λ _ => False) w w':=by
 unfold F.paper_storeOK
 have e0 : ByteArray.mk #[] = sb []:=rfl
 have eS : ByteArray.mk #[97, 98, 99, 100, 101, 102, 103, 104, 105, 106, 107, 108, 109, 110, 111, 112, 113, 114, 115, 116, 117, 118, 119, 120, 121, 122, 48, 49, 50, 51, 52, 53, 54, 55, 56, 57, 45] = sb stSet:=rfl
 rw [e0, eS, sbEq]
 cases l with
 | nil =>
  simp only [decide_true, Run_bindO_some, Run_bind, Run_guardM_tf, pickV_bool, cond_true, Run_condM_true, Run_ret]
  exact ⟨rfl, Fr.refl _ _⟩
 | cons c r =>
  have hix : idxS (.string (sb (c :: r))) (.int .i64 0) = some (by8 c):=idxSb (i:=0) rfl
  have d0 : decide (c :: r = []) = false:=rfl
  simp only [d0, Run_bindO_some, Run_bind, Run_guardM_ff, Run_ret, lenS_string, sb_size, Run_optM_some, binV_int, intBin_gtr, pickV_bool, cond_false]
  by_cases h40 : (c :: r).length <= 40
  case neg =>
   have h1 : (((c :: r).length : Nat) : Int) > 40:=by omega
   have hs : storeP (c :: r) = false:=storeP_no λ h => h40 h.1
   rw [hs, decide_eq_true h1]
   simp only [Run_bindO_some, Run_bind, Run_guardM_tf, pickV_bool, cond_true, Run_condM_true, Run_ret]
   exact ⟨trivial, Fr.refl _ _⟩
  have h1 : ¬ (((c :: r).length : Nat) : Int) > 40:=by omega
  rw [decide_eq_false h1]
  simp only [Run_bindO_some, Run_bind, Run_guardM_ff, Run_ret, hix, Run_optM_some, by8, binV_int, intBin_lss, pickV_bool, cond_false]
  by_cases h97 : 97 <= c.toNat
  case neg =>
   have h2 : (c.toNat : Int) < 97:=by omega
   have hs : storeP (c :: r) = false:=storeP_no λ h => h97 h.2.1
   rw [hs, decide_eq_true h2]
   simp only [Run_bindO_some, Run_bind, Run_guardM_tf, pickV_bool, cond_true, Run_condM_true, Run_ret]
   exact ⟨trivial, Fr.refl _ _⟩
  have h2 : ¬ (c.toNat : Int) < 97:=by omega
  rw [decide_eq_false h2]
  simp only [Run_bindO_some, Run_bind, Run_guardM_ff, Run_ret, hix, Run_optM_some, by8, binV_int, intBin_gtr, pickV_bool, cond_false]
  by_cases h122 : c.toNat <= 122
  case neg =>
   have h3 : (c.toNat : Int) > 122:=by omega
   have hs : storeP (c :: r) = false:=storeP_no λ h => h122 h.2.2
   rw [hs, decide_eq_true h3]
   simp only [Run_bindO_some, Run_condM_true, Run_ret]
   exact ⟨trivial, Fr.refl _ _⟩
  have h3 : ¬ (c.toNat : Int) > 122:=by omega
  rw [decide_eq_false h3]
  simp only [Run_bindO_some, Run_condM_false, Run_bind]
  refine (trim_run (l:=c :: r) (cs:=stSet) (by simp) hl stSet_low (by decide) (by decide)).mono ?_
  rintro _ w1 ⟨⟨t, rfl, ht⟩, f1⟩
  rw [sbEq, Run_bindO_some, Run_ret]
  have : storeP (c :: r) = decide (t = []):=by
   rw [storeP_yes ⟨h40, h97, h122⟩, Bool.eq_iff_iff, decide_eq_true_iff, ht, List.all_eq_true]
   simp
  rw [this]
  exact ⟨rfl, f1⟩
theorem rstore_run (l : List UInt8) (hl : l.length <= 4611686018427387904) : Run (F.granaryref4_store (.string (sb l))) w λ r w' => r = .bool (storeP l) /\ w' = w:=by
 unfold F.granaryref4_store
 cases l with
 | nil =>
  have h1 : (((([] : List UInt8).length : Nat)) : Int) < 1:=by decide
  simp only [lenS_string, sb_size, binV_int, intBin_lss, h1, decide_true, Run_bindO_some, Run_bind, Run_guardM_tf, pickV_bool, cond_true, Run_condM_true, Run_ret]
  exact ⟨rfl, trivial⟩
 | cons c r =>
  have hix : idxS (.string (sb (c :: r))) (.int .i64 0) = some (by8 c):=idxSb (i:=0) rfl
  have h0 : ¬ (((c :: r).length : Nat) : Int) < 1:=by rw [List.length_cons]; omega
  simp only [lenS_string, sb_size, binV_int, intBin_lss, h0, decide_false, Run_bindO_some, Run_bind, Run_guardM_ff, Run_ret, Run_optM_some, intBin_gtr, pickV_bool, cond_false]
  by_cases h40 : (c :: r).length <= 40
  case neg =>
   have h1 : (((c :: r).length : Nat) : Int) > 40:=by omega
   have hs : storeP (c :: r) = false:=storeP_no λ h => h40 h.1
   rw [hs, decide_eq_true h1]
   simp only [Run_bindO_some, Run_bind, Run_guardM_tf, pickV_bool, cond_true, Run_condM_true, Run_ret]
   exact ⟨trivial, trivial⟩
  have h1 : ¬ (((c :: r).length : Nat) : Int) > 40:=by omega
  rw [decide_eq_false h1]
  simp only [Run_bindO_some, Run_bind, Run_guardM_ff, Run_ret, hix, Run_optM_some, by8, binV_int, intBin_lss, pickV_bool, cond_false]
  by_cases h97 : 97 <= c.toNat
  case neg =>
   have h2 : (c.toNat : Int) < 97:=by omega
   have hs : storeP (c :: r) = false:=storeP_no λ h => h97 h.2.1
   rw [hs, decide_eq_true h2]
   simp only [Run_bindO_some, Run_bind, Run_guardM_tf, pickV_bool, cond_true, Run_condM_true, Run_ret]
   exact ⟨trivial, trivial⟩
  have h2 : ¬ (c.toNat : Int) < 97:=by omega
  rw [decide_eq_false h2]
  simp only [Run_bindO_some, Run_bind, Run_guardM_ff, Run_ret, hix, Run_optM_some, by8, binV_int, intBin_gtr, pickV_bool, cond_false]
  by_cases h122 : c.toNat <= 122
  case neg =>
   have h3 : (c.toNat : Int) > 122:=by omega
   have hs : storeP (c :: r) = false:=storeP_no λ h => h122 h.2.2
   rw [hs, decide_eq_true h3]
   simp only [Run_bindO_some, Run_condM_true, Run_ret]
   exact ⟨trivial, trivial⟩
  have h3 : ¬ (c.toNat : Int) > 122:=by omega
  have hsp : storeP (c :: r) = (c :: r).all λ c => decide (c ∈ stSet):=storeP_yes ⟨h40, h97, h122⟩
  rw [decide_eq_false h3, hsp]
  simp only [Run_bindO_some, Run_condM_false, Run_bind]
  clear hix h0 h1 h2 h3 h97 h122 h40 hsp
  generalize c :: r = l at *
  obtain ⟨J, hJ, hgood, hend⟩:=far_ex (λ c : UInt8 => decide (c ∈ stSet)) l
  have step : ∀ (i : Nat) (x : UInt8), l[i]? = some x -> ∀ {β : Type} {K : Value -> M β} {Q : β -> World -> Prop}, Run (K (.bool (decide (x ∈ stSet)))) w Q ->
    Run (bindO (idxS (.string (sb l)) (.int .i64 (i : Int))) λ x18 =>
    bindO (binV BinOp.geq x18 (Value.int IntKind.u8 97)) λ x19 =>
    M.bind (guardM x19 true (M.ret x18)) λ x20 =>
    M.bind (guardM x19 true (optM (binV BinOp.leq x20 (Value.int IntKind.u8 122)))) λ x21 =>
    bindO (pickV x19 x21 (Value.bool false)) λ x22 =>
    M.bind (guardM x22 false (M.ret x18)) λ x23 =>
    M.bind (guardM x22 false (optM (binV BinOp.geq x23 (Value.int IntKind.u8 48)))) λ x24 =>
    M.bind (guardM x22 false (M.ret x24)) λ x25 =>
    M.bind (guardM x25 true (M.ret x18)) λ x26 =>
    M.bind (guardM x25 true (optM (binV BinOp.leq x26 (Value.int IntKind.u8 57)))) λ x27 =>
    M.bind (guardM x22 false (optM (pickV x25 x27 (Value.bool false)))) λ x28 =>
    bindO (pickV x22 (Value.bool true) x28) λ x29 =>
    M.bind (guardM x29 false (M.ret x18)) λ x30 =>
    M.bind (guardM x29 false (optM (binV BinOp.eql x30 (Value.int IntKind.u8 45)))) λ x31 =>
    bindO (pickV x29 (Value.bool true) x31) K) w Q:=λ i x hx {β K Q} q => by
   have hiff:=stSet_iff x
   rw [idxSb hx]
   by_cases a1 : 97 <= x.toNat
   ·have b1 : (x.toNat : Int) >= 97:=by omega
    by_cases a2 : x.toNat <= 122
    ·have b2 : (x.toNat : Int) <= 122:=by omega
     rw [decide_eq_true (hiff.2 (.inl (.inl ⟨a1, a2⟩)))] at q
     simp [by8, b1, b2]
     exact q
    ·have b2 : ¬ (x.toNat : Int) <= 122:=by omega
     have b3 : (x.toNat : Int) >= 48:=by omega
     have b4 : ¬ (x.toNat : Int) <= 57:=by omega
     have b5 : ¬ (x.toNat : Int) = 45:=by omega
     rw [decide_eq_false λ h => by have:=hiff.1 h; omega] at q
     simp [by8, b1, b2, b3, b4, b5]
     exact q
   ·have b1 : ¬ (x.toNat : Int) >= 97:=by omega
    by_cases a3 : 48 <= x.toNat
    ·have b3 : (x.toNat : Int) >= 48:=by omega
     by_cases a4 : x.toNat <= 57
     ·have b4 : (x.toNat : Int) <= 57:=by omega
      rw [decide_eq_true (hiff.2 (.inl (.inr ⟨a3, a4⟩)))] at q
      simp [by8, b1, b3, b4]
      exact q
     ·have b4 : ¬ (x.toNat : Int) <= 57:=by omega
      have b5 : ¬ (x.toNat : Int) = 45:=by omega
      rw [decide_eq_false λ h => by have:=hiff.1 h; omega] at q
      simp [by8, b1, b3, b4, b5]
      exact q
    ·have b3 : ¬ (x.toNat : Int) >= 48:=by omega
     by_cases a5 : x.toNat = 45
     ·have b5 : (x.toNat : Int) = 45:=by omega
      rw [decide_eq_true (hiff.2 (.inr a5))] at q
      simp [by8, b1, b3, b5]
      exact q
     ·have b5 : ¬ (x.toNat : Int) = 45:=by omega
      rw [decide_eq_false λ h => by have:=hiff.1 h; omega] at q
      simp [by8, b1, b3, b5]
      exact q
  have n1 : ∀ b, notV (.bool b) = some (.bool !b):=λ _ => rfl
  refine Run_for J (λ i L w' => L = [.int .i64 (i : Int)] /\ w' = w) ⟨rfl, rfl⟩ ?_ ?_
  ·rintro i L w1 hi ⟨rfl, rfl⟩
   obtain ⟨x, hx⟩ : ∃ x, l[i]? = some x:=⟨_, List.getElem?_eq_getElem (by omega)⟩
   have hil : (i : Int) < l.length:=by omega
   rw [getL_zero, Run_bindO_some, lssT hil, Run_bindO_some, Run_condM_true]
   refine step i x hx ?_
   rw [hgood i x hi hx, n1, Run_bindO_some, Bool.not_true, Run_condM_false, binV_int, intBin_add, wrap_succ' (by omega), Run_bindO_some, Run_ret]
   exact ⟨rfl, rfl⟩
  ·rintro L w1 ⟨rfl, rfl⟩
   rcases hend with ⟨rfl, hall⟩ | ⟨x, hx, hp, hall⟩
   ·have hil : ¬ ((l.length : Nat) : Int) < l.length:=by omega
    rw [getL_zero, Run_bindO_some, lssF hil, Run_bindO_some, Run_condM_false, Run_ret, hall]
    simp only [outK_exit]
    rw [show Nat.beq 0 0 = true from rfl, cond_true, Run_ret]
    exact ⟨rfl, rfl⟩
   ·have hil : (J : Int) < l.length:=by have:=(List.getElem?_eq_some_iff.1 hx).1; omega
    rw [getL_zero, Run_bindO_some, lssT hil, Run_bindO_some, Run_condM_true]
    refine step J x hx ?_
    rw [hp, n1, Run_bindO_some, Bool.not_false, Run_condM_true, Run_ret, hall]
    simp only [outK_ret, Run_ret]
    exact ⟨trivial, trivial⟩
end
end Go.Proofs.YthlpfhjcdedhgaaGreatDoor
namespace Go.Proofs.YthlpfhjcdedhgaaGreatDoor
open Go.Lift Go.Sort
set_option linter.unusedSimpArgs false
set_option linter.unusedVariables false
set_option maxHeartbeats 4000000
def VERSION : List UInt8:=[118, 101, 114, 115, 105, 111, 110]
def NODE : List UInt8:=[110, 111, 100, 101]
def STORE : List UInt8:=[115, 116, 111, 114, 101]
structure Mt where
 st : List UInt8
 a : Int
 b : Int
 c : Int
 d : Int
 e : Int
 f : Int
 h : Int
def Mt.at (m : Mt) (i : Nat) : Int:=match i with
 | 1 => m.a
 | 2 => m.b
 | 3 => m.c
 | 4 => m.d
 | 5 => m.e
 | 6 => m.f
 | _ => m.h
def Mt.row (m : Mt) : List Value:=[.string (sb m.st), .int .i64 m.a, .int .i64 m.b, .int .i64 m.c, .int .i64 m.d, .int .i64 m.e, .int .i64 m.f, .int .i64 m.h]
def Mt.v (m : Mt) : Value:=.agg #[.string (sb m.st), .int .i64 m.a, .int .i64 m.b, .int .i64 m.c, .int .i64 m.d, .int .i64 m.e, .int .i64 m.f, .int .i64 m.h]
section
variable {w w1 w2 : World}
theorem itoa_int (ht : Tb w) {z : Int} (h0 : 0 <= z) (h1 : z < 9223372036854775808) : Run (F.strconv_Itoa (.int .i64 z)) w λ r w' => r = .string (sb (Lib.decDigits z.toNat)) /\ Fr (λ _ => False) w w':=by
 obtain ⟨n, rfl⟩ : ∃ n : Nat, z = n:=⟨z.toNat, by omega⟩
 exact itoa_run ht (by omega)
end
theorem tw_at {P : UInt8 -> Bool} : ∀ (l : List UInt8) (i : Nat), i < (l.takeWhile P).length -> ∃ c, l[i]? = some c /\ P c = true
 | [], i, h => absurd h (by simp)
 | x :: l, i, h => by
  rw [List.takeWhile_cons] at h
  split at h
  ·rename_i hx
   cases i with
   | zero => exact ⟨x, rfl, hx⟩
   | succ i =>
    obtain ⟨c, h1, h2⟩:=tw_at l i (by simpa using h)
    exact ⟨c, by simpa using h1, h2⟩
  ·simp at h
theorem tw_end {P : UInt8 -> Bool} : ∀ (l : List UInt8) (c : UInt8), l[(l.takeWhile P).length]? = some c -> P c = false
 | [], c, h => by simp at h
 | x :: l, c, h => by
  rw [List.takeWhile_cons] at h
  split at h
  ·rename_i hx
   exact tw_end l c (by simpa using h)
  ·rename_i hx
   simp at h
   subst h
   simpa using hx
theorem tw_app {P : UInt8 -> Bool} {d r : List UInt8} (hd : ∀ c ∈ d, P c = true) (hr : ∀ c, r.head? = some c -> P c = false) : (d ++ r).takeWhile P = d:=by
 induction d with
 | nil =>
  cases r with
  | nil => rfl
  | cons x r =>
   have:=hr x rfl
   simp [List.takeWhile_cons, this]
 | cons x d ih =>
  have:=hd x (by simp)
  rw [List.cons_append, List.takeWhile_cons, this]
  simp only [if_true]
  rw [ih λ c hc => hd c (by simp [hc])]
def wdC (c : UInt8) : Bool:=decide (c ≠ 32) && decide (c ≠ 10)
def wdD (l : List UInt8) (p : Nat) : List UInt8:=(l.drop p).takeWhile wdC
theorem wdD_le (l : List UInt8) (p : Nat) : (wdD l p).length <= l.length - p:=by
 unfold wdD
 have:=(List.takeWhile_prefix (p:=wdC) (l:=l.drop p)).length_le
 rwa [List.length_drop] at this
theorem wdC_iff {c : UInt8} : wdC c = true ↔ ¬ (c.toNat : Int) = 32 /\ ¬ (c.toNat : Int) = 10:=by
 have e : ∀ k : UInt8, c = k ↔ (c.toNat : Int) = (k.toNat : Nat):=λ k => by
  rw [<- UInt8.toNat_inj]; omega
 unfold wdC
 simp only [Bool.and_eq_true, decide_eq_true_eq, ne_eq, e]
 exact Iff.rfl
theorem wd_pre (l : List UInt8) (p : Nat) : l.drop p = wdD l p ++ l.drop (p + (wdD l p).length):=by
 have h:=List.takeWhile_prefix (p:=wdC) (l:=l.drop p)
 obtain ⟨t, ht⟩:=h
 have ht' : wdD l p ++ t = l.drop p:=ht
 rw [<- List.drop_drop, <- ht', List.drop_left]
theorem wd_mem {l : List UInt8} {p : Nat} : (32 : UInt8) ∉ wdD l p /\ (10 : UInt8) ∉ wdD l p:=by
 have h : ∀ c ∈ wdD l p, wdC c = true:=λ c hc => by
  obtain ⟨i, hi⟩:=List.getElem?_of_mem hc
  have hil:=(List.getElem?_eq_some_iff.1 hi).1
  obtain ⟨c', h1, h2⟩:=tw_at (l.drop p) i hil
  have h3:=List.takeWhile_prefix (p:=wdC) (l:=l.drop p)
  obtain ⟨t, ht⟩:=h3
  have ht' : wdD l p ++ t = l.drop p:=ht
  rw [<- ht', List.getElem?_append_left hil, hi] at h1
  rw [Option.some.inj h1]; exact h2
 exact ⟨λ hc => absurd (h _ hc) (by decide), λ hc => absurd (h _ hc) (by decide)⟩
section
variable {w w1 w2 : World}
theorem rword_run {b p : Nat} {l : List UInt8} {bad : Bool} (h : RS w b l p bad) (hp : p <= l.length) (hl : l.length <= 4611686018427387904) :
  Run (F.granaryref4_Reader_word (.pointer (some ⟨b, 0, none⟩))) w λ r w' => r = .string (sb (wdD l p)) /\ RS w' b l (p + (wdD l p).length) (bad || decide (wdD l p = [])) /\ Fr (λ c => c = b) w w':=by
 unfold F.granaryref4_Reader_word
 obtain ⟨hb, hw⟩:=id h
 have la : ld1 (.pointer (some ⟨b, 0 + 1, none⟩)) w = some (.int .i64 (p : Int)):=by rw [ld1_ptr, hb]; rfl
 have hwd:=wdD_le l p
 rw [nilChk_ptr, Run_bindO_some, fieldA_ptr, Run_bindO_some, Run_bind, Run_rdM]
 refine ⟨_, la, ?_⟩
 rw [Run_bind]
 have hlen : (sb l).size = l.length:=sb_size l
 refine Run_for (wdD l p).length (λ i L w' => L = [] /\ RS w' b l (p + i) bad /\ Fr (λ c => c = b) w w') ⟨rfl, h, Fr.refl _ _⟩ ?_ ?_
 ·rintro i L w1 hi ⟨rfl, ⟨hb1, hw1⟩, f1⟩
  obtain ⟨c, hc, hP⟩:=tw_at (l.drop p) i hi
  rw [List.getElem?_drop] at hc
  obtain ⟨n32, n10⟩:=wdC_iff.1 hP
  have hlt:=(List.getElem?_eq_some_iff.1 hc).1
  have ix:=idxSb (kd:=.i64) hc
  have wq:=wrap_succ' (n:=p + i) (by omega)
  rw [show p + (i + 1) = p + i + 1 by omega]
  generalize p + i = q at *
  have h1 : (q : Int) < l.length:=by omega
  simp [-ldA_ptr, hb1, hlen, h1, ix, by8, n32, n10, wq, hw1]
  have hR : RS w1.drew b l q bad:=⟨hb1, hw1⟩
  exact ⟨hR.at (q + 1), (f1.drew).sto (.inl rfl) _ _⟩
 ·rintro L w1 ⟨rfl, ⟨hb1, hw1⟩, f1⟩
  have hend:=tw_end (P:=wdC) (l.drop p)
  have hde : wdD l p = (l.drop p).takeWhile wdC:=rfl
  rw [<- hde] at hend
  have htk : (l.drop p).take (wdD l p).length = wdD l p:=by
   obtain ⟨t, ht⟩:=List.takeWhile_prefix (p:=wdC) (l:=l.drop p)
   have ht' : wdD l p ++ t = l.drop p:=ht
   rw [<- ht', List.take_left]
  refine Run.mono (Q:=λ o w' => o = .exit 0 [] /\ RS w' b l (p + (wdD l p).length) bad /\ Fr (λ c => c = b) w w') ?_ ?_
  ·have hR : RS w1.drew b l (p + (wdD l p).length) bad:=⟨hb1, hw1⟩
   by_cases e1 : p + (wdD l p).length < l.length
   ·obtain ⟨c, hc⟩ : ∃ c, l[p + (wdD l p).length]? = some c:=⟨_, List.getElem?_eq_getElem e1⟩
    have hng:=hend c (by rw [List.getElem?_drop]; exact hc)
    have ix:=idxSb (kd:=.i64) hc
    have h1 : ((p + (wdD l p).length : Nat) : Int) < l.length:=by omega
    generalize p + (wdD l p).length = q at *
    by_cases e3 : (c.toNat : Int) = 32
    ·simp [-ldA_ptr, hb1, hlen, h1, ix, by8, e3, hR, f1.drew]
    ·have e4 : (c.toNat : Int) = 10:=by
      by_cases e4 : (c.toNat : Int) = 10
      ·exact e4
      ·rw [wdC_iff.2 ⟨e3, e4⟩] at hng; cases hng
     simp [-ldA_ptr, hb1, hlen, h1, ix, by8, e4, hR, f1.drew]
   ·have h1 : ¬ ((p + (wdD l p).length : Nat) : Int) < l.length:=by omega
    generalize p + (wdD l p).length = q at *
    simp [-ldA_ptr, hb1, hlen, h1, hR, f1.drew]
  ·rintro _ w2 ⟨rfl, hR2, f2⟩
   clear hw1 hb1 f1
   obtain ⟨hb2, hw2⟩:=hR2
   have hR2 : RS w2 b l (p + (wdD l p).length) bad:=⟨hb2, hw2⟩
   have hsl : sliceS (.string (sb l)) (some (.int .i64 (p : Int))) (some (.int .i64 ((p + (wdD l p).length : Nat) : Int))) = some (.string (sb (wdD l p))):=by
    have h3 : (l.take (p + (wdD l p).length)).drop p = wdD l p:=by rw [List.drop_take, Nat.add_sub_cancel_left, htk]
    rw [slBoth (by omega) (by omega), h3]
   by_cases hz : wdD l p = []
   ·have hz0 : (wdD l p).length = 0:=by rw [hz]; rfl
    have he : (((p + (wdD l p).length : Nat) : Int) = p):=by omega
    have hbadR:=hR2.bad
    have hbadF : Fr (λ c => c = b) w (sto w2 b 2 [.bool true]):=f2.sto (.inl rfl) _ _
    rw [decide_eq_true hz, Bool.or_true]
    generalize p + (wdD l p).length = q at *
    simp [-ldA_ptr, hb2, he, hw2, hsl]
    rw [he] at hsl
    simp [hsl]
    exact ⟨hbadR, hbadF.drew⟩
   ·have hz0 : (wdD l p).length ≠ 0:=by simpa using hz
    have he : ¬ (((p + (wdD l p).length : Nat) : Int) = p):=by omega
    rw [decide_eq_false hz, Bool.or_false]
    generalize p + (wdD l p).length = q at *
    simp [-ldA_ptr, hb2, he, hw2, hsl]
    exact ⟨hR2, f2.drew⟩
structure RQ (w0 w : World) (b : Nat) (l : List UInt8) (p : Nat) (bad : Bool) (x6 : Nat) (l6 : List Value) : Prop where
 rs : RS w b l p bad
 hp : p <= l.length
 b6 : bk w x6 = some l6
 w6 : wr w x6 = true
 ne : x6 ≠ b
 fr : Fr (λ c => c = b ∨ c = x6) w0 w
section
variable {β : Type} {w0 : World} {b p : Nat} {l : List UInt8} {bad : Bool} {x6 : Nat} {l6 : List Value}
theorem RQ.call (h : RQ w0 w b l p bad x6 l6) (f : Fr (λ c => c = b) w w2) {p' : Nat} {bad' : Bool} (rs : RS w2 b l p' bad') (hp : p' <= l.length) : RQ w0 w2 b l p' bad' x6 l6 :=
 ⟨rs, hp, f.bk_some h.b6 h.ne, by rw [f.wr (bk_lt h.b6) h.ne]; exact h.w6, h.ne, h.fr.trans f λ _ _ he => .inl he⟩
theorem RQ.put6 (h : RQ w0 w b l p bad x6 l6) (i : Nat) (y : Value) : RQ w0 (sto w x6 i [y]) b l p bad x6 (l6.set i y):=by
 have f : Fr (λ c => c = x6) w (sto w x6 i [y]):=(show Fr (λ c => c = x6) w w from Fr.refl _ _).sto (.inl rfl) _ _
 exact ⟨⟨f.bk_some h.rs.1 λ e => h.ne e.symm, by rw [wr_sto]; exact h.rs.2⟩, h.hp, by rw [bk_sto_same h.b6]; simp only [setL_cons, setL_nil], by rw [wr_sto]; exact h.w6, h.ne, h.fr.trans f λ _ _ he => .inr he⟩
theorem RQ.put {K : M β} {Q : β -> World -> Prop} (h : RQ w0 w b l p bad x6 l6) {i : Nat} (hi : i < l6.length) {y : Value} (hy : isCell y = true) (q : ∀ w', RQ w0 w' b l p bad x6 (l6.set i y) -> Run K w' Q) :
  Run (bindO (fieldA i (.pointer (some ⟨x6, 0, none⟩))) λ x9 => M.bind (stM 1 x9 y) λ _ => K) w Q:=by
 rw [fieldA_ptr, Run_bindO_some, Run_bind, Run_st1 ⟨⟨⟨l6, h.b6, by omega⟩, h.w6⟩, hy⟩, Nat.zero_add]
 exact q _ (h.put6 i y)
theorem RQ.litA (h : RQ w0 w b l p bad x6 l6) (hl : l.length <= 4611686018427387904) {y : List UInt8} (hy : y.length <= 4611686018427387904) {K : M β} {Q : β -> World -> Prop}
  (q : ∀ w' p' bad', RQ w0 w' b l p' bad' x6 l6 -> (bad' = false -> bad = false /\ l.drop p = y ++ l.drop p') -> Run K w' Q) :
  Run (M.bind (F.granaryref4_Reader_lit (.pointer (some ⟨b, 0, none⟩)) (.string (sb y))) λ _ => K) w Q:=by
 rw [Run_bind]
 refine (rlit_run h.rs h.hp hl hy).mono ?_
 rintro _ w2 ⟨⟨p', rs, hp', hh⟩, f⟩
 exact q w2 p' _ (h.call f rs hp') λ hb => lit_good hb hh
theorem RQ.litG (h : RQ w0 w b l p false x6 l6) (hl : l.length <= 4611686018427387904) {y r : List UInt8} (hy : y.length <= 4611686018427387904) (hd : l.drop p = y ++ r) {K : M β} {Q : β -> World -> Prop}
  (q : ∀ w' p', RQ w0 w' b l p' false x6 l6 -> l.drop p' = r -> Run K w' Q) :
  Run (M.bind (F.granaryref4_Reader_lit (.pointer (some ⟨b, 0, none⟩)) (.string (sb y))) λ _ => K) w Q:=by
 rw [Run_bind]
 refine (rlit_run h.rs h.hp hl hy).mono ?_
 rintro _ w2 ⟨⟨p', rs, hp', hh⟩, f⟩
 obtain ⟨h1, h2⟩:=lit_step hd
 rw [decide_eq_true h1] at rs
 have e:=hh rfl h1
 exact q w2 p' (h.call f rs hp') (by rw [e]; exact h2)
theorem RQ.numA (h : RQ w0 w b l p bad x6 l6) (hl : l.length <= 4611686018427387904) {K : Value -> M β} {Q : β -> World -> Prop}
  (q : ∀ w' p' bad' (z : Int), RQ w0 w' b l p' bad' x6 l6 -> (bad' = false -> bad = false /\ ∃ d v, numF d = some v /\ z = (v : Int) /\ l.drop p = d ++ l.drop p') -> Run (K (.int .i64 z)) w' Q) :
  Run (M.bind (F.granaryref4_Reader_number (.pointer (some ⟨b, 0, none⟩))) K) w Q:=by
 rw [Run_bind]
 refine (rnum_run h.rs h.hp hl).mono ?_
 rintro _ w2 ⟨rfl, rs, f⟩
 have hd:=rdD_len l p
 have hple:=h.hp
 refine q w2 _ _ _ (h.call f rs (by omega)) λ hb => ?_
 obtain ⟨h1, ⟨v, hv⟩, h3⟩:=num_good hb
 exact ⟨h1, rdD l p, v, hv, by rw [hv]; rfl, h3⟩
theorem RQ.numG (h : RQ w0 w b l p false x6 l6) (hl : l.length <= 4611686018427387904) {d r : List UInt8} {v : Nat} (hd : l.drop p = d ++ r) (hn : numF d = some v) (hr : ∀ c, r.head? = some c -> isD c = false) {K : Value -> M β} {Q : β -> World -> Prop}
  (q : ∀ w' p', RQ w0 w' b l p' false x6 l6 -> l.drop p' = r -> Run (K (.int .i64 (v : Int))) w' Q) :
  Run (M.bind (F.granaryref4_Reader_number (.pointer (some ⟨b, 0, none⟩))) K) w Q:=by
 rw [Run_bind]
 refine (rnum_run h.rs h.hp hl).mono ?_
 rintro _ w2 ⟨rfl, rs, f⟩
 have hle:=rdD_len l p
 have hple:=h.hp
 obtain ⟨e1, e2⟩:=num_at hn hd hr
 rw [e1] at rs e2 hle ⊢
 rw [hn] at rs ⊢
 exact q w2 _ (h.call f rs (by omega)) e2
theorem RQ.wordA (h : RQ w0 w b l p bad x6 l6) (hl : l.length <= 4611686018427387904) {K : Value -> M β} {Q : β -> World -> Prop}
  (q : ∀ w' p' bad' s, RQ w0 w' b l p' bad' x6 l6 -> (bad' = false -> bad = false /\ s ≠ [] /\ (32 : UInt8) ∉ s /\ (10 : UInt8) ∉ s /\ l.drop p = s ++ l.drop p') -> Run (K (.string (sb s))) w' Q) :
  Run (M.bind (F.granaryref4_Reader_word (.pointer (some ⟨b, 0, none⟩))) K) w Q:=by
 rw [Run_bind]
 refine (rword_run h.rs h.hp hl).mono ?_
 rintro _ w2 ⟨rfl, rs, f⟩
 have hle:=wdD_le l p
 have hple:=h.hp
 refine q w2 _ _ _ (h.call f rs (by omega)) λ hb => ?_
 simp only [Bool.or_eq_false_iff, decide_eq_false_iff_not] at hb
 exact ⟨hb.1, hb.2, wd_mem.1, wd_mem.2, wd_pre l p⟩
theorem RQ.wordG (h : RQ w0 w b l p false x6 l6) (hl : l.length <= 4611686018427387904) {d r : List UInt8} (hd : l.drop p = d ++ r) (h0 : d ≠ []) (h32 : (32 : UInt8) ∉ d) (h10 : (10 : UInt8) ∉ d) (hr : ∀ c, r.head? = some c -> wdC c = false) {K : Value -> M β} {Q : β -> World -> Prop}
  (q : ∀ w' p', RQ w0 w' b l p' false x6 l6 -> l.drop p' = r -> Run (K (.string (sb d))) w' Q) :
  Run (M.bind (F.granaryref4_Reader_word (.pointer (some ⟨b, 0, none⟩))) K) w Q:=by
 rw [Run_bind]
 refine (rword_run h.rs h.hp hl).mono ?_
 rintro _ w2 ⟨rfl, rs, f⟩
 have hle:=wdD_le l p
 have hple:=h.hp
 have e1 : wdD l p = d:=by
  unfold wdD
  rw [hd]
  refine tw_app (λ c hc => ?_) hr
  have n1 : c ≠ 32:=λ e => h32 (e ▸ hc)
  have n2 : c ≠ 10:=λ e => h10 (e ▸ hc)
  unfold wdC
  rw [decide_eq_true n1, decide_eq_true n2]; rfl
 have e2:=wd_pre l p
 rw [e1] at rs e2 hle ⊢
 rw [decide_eq_false h0] at rs
 rw [hd] at e2
 exact q w2 _ (h.call f rs (by omega)) (List.append_cancel_left e2).symm
end
end
section
variable {w w1 w2 : World}
theorem finN_run {n x1 : Nat} {l1 : List Value} (h1 : bk w x1 = some l1) (hw1 : wr w x1 = true) (cs : Array Value) (hs : cs.size = n + 1) (hl : l1.length = n + 1) (hc : cs.toList.all isCell = true) {K : Value -> World -> Prop} (q : ∀ w', Fr (λ c => c = x1) w w' -> K (.agg cs) w') :
  Run (stM (n + 1) (.pointer (some ⟨x1, 0, none⟩)) (.agg cs)) w λ _ w' => Run (rdM (ldA (n + 1) (.pointer (some ⟨x1, 0, none⟩)))) w' K:=by
 rw [Run_stA ⟨⟨⟨_, h1, by omega⟩, hw1⟩, hs, hc⟩, Run_rdM]
 have hb:=bk_sto_same (o:=0) h1 cs.toList
 have hcl : cs.toList.length = n + 1:=by rw [Array.length_toList, hs]
 have he : setL l1 0 cs.toList = cs.toList:=by
  rw [setL_eq _ _ _ (by omega), List.drop_of_length_le (by omega)]
  simp
 rw [he] at hb
 refine ⟨_, ?_, q _ ((show Fr (λ c => c = x1) w w from Fr.refl _ _).sto (.inl rfl) _ _)⟩
 rw [ldA_bk hb (by omega), List.drop_zero, <- hcl, List.take_length]
end
def nameF (word l : List UInt8) : Option (List UInt8):=if (word ++ [32]) <+: l /\ l.drop (word ++ [32]).length ≠ [] /\ (32 : UInt8) ∉ l.drop (word ++ [32]).length then some (l.drop (word ++ [32]).length) else none
theorem nameF_of {word d : List UInt8} (h0 : d ≠ []) (h32 : (32 : UInt8) ∉ d) : nameF word (word ++ [32] ++ d) = some d:=by
 unfold nameF
 rw [List.drop_left, if_pos ⟨List.prefix_append _ _, h0, h32⟩]
theorem nameF_some {word l d : List UInt8} (h : nameF word l = some d) : l = word ++ [32] ++ d /\ d ≠ [] /\ (32 : UInt8) ∉ d:=by
 unfold nameF at h
 split at h
 ·rename_i hc
  obtain ⟨⟨t, ht⟩, h2, h3⟩:=hc
  rw [<- ht, List.drop_left] at h h2 h3
  cases h
  exact ⟨ht.symm, h2, h3⟩
 ·cases h
theorem index_in {x : List UInt8} {b : UInt8} : decide (0 <= Lib.indexByte x b) = decide (b ∈ x):=by
 by_cases h : b ∈ x
 ·obtain ⟨y, s, rfl, hy⟩:=List.eq_append_cons_of_mem h
  rw [index_at b hy]
  simp
 ·rw [index_no b h, decide_eq_false h]
  rfl
section
variable {w w1 w2 : World}
theorem nameOf_run {word l : List UInt8} (hw : word.length <= 100) : Run (F.paper_nameOf (.string (sb l)) (.string (sb word))) w λ r w' => r = .tuple #[.string (sb (Lib.trimPrefix l (word ++ [32]))), .bool (nameF word l).isSome] /\ w' = w:=by
 unfold F.paper_nameOf
 have e32 : ByteArray.mk #[32] = sb [32]:=rfl
 have e0 : ByteArray.mk #[] = sb []:=rfl
 have a1:=sbAdd (a:=word) (c:=[32]) (by simp; omega)
 have hnv : ∀ b, notV (.bool b) = some (.bool !b):=λ _ => rfl
 have y0 : ∀ v x, extV 0 (.tuple #[v, x]) = some v:=λ _ _ => rfl
 have y1 : ∀ v x, extV 1 (.tuple #[v, x]) = some x:=λ _ _ => rfl
 rw [e32, a1, Run_bindO_some, Run_bind]
 refine ⟨_, _, cutp_run l (word ++ [32]), ?_⟩
 show Run (bindO (extV 0 (.tuple #[.string (sb (Lib.trimPrefix l (word ++ [32]))), .bool (decide ((word ++ [32]) <+: l))])) _) w _
 rw [y0, Run_bindO_some, y1, Run_bindO_some]
 by_cases h : (word ++ [32]) <+: l
 case neg =>
  have hn : nameF word l = none:=by unfold nameF; rw [if_neg λ hc => h hc.1]
  rw [decide_eq_false h, hn]
  simp only [Run_bind, Run_guardM_ft, pickV_bool, cond_false, Run_bindO_some, Run_ret]
  exact ⟨rfl, trivial⟩
 rw [decide_eq_true h, trim_of h, e0]
 simp only [Run_bind, Run_guardM_tt, Run_ret, sbNe, Run_optM_some, pickV_bool, cond_true, Run_bindO_some]
 by_cases h0 : l.drop (word ++ [32]).length = []
 case pos =>
  have hn : nameF word l = none:=by unfold nameF; rw [if_neg λ hc => hc.2.1 h0]
  rw [decide_eq_true h0, hn]
  simp only [Bool.not_true, Run_bind, Run_guardM_ft, pickV_bool, cond_false, Run_bindO_some, Run_ret]
  exact ⟨rfl, trivial⟩
 rw [decide_eq_false h0]
 simp only [Bool.not_false, Run_bind, Run_guardM_tt, Run_ret]
 have hc : F.strings_Contains (.string (sb (l.drop (word ++ [32]).length))) (.string (sb [32])) w = some (.bool (decide ((32 : UInt8) ∈ l.drop (word ++ [32]).length)), w):=by
  unfold F.strings_Contains
  show some (Value.bool (decide (0 <= Lib.indexByte (l.drop (word ++ [32]).length) 32)), w) = _
  rw [index_in]
 refine ⟨_, _, hc, ?_⟩
 show Run (optM (notV (.bool (decide ((32 : UInt8) ∈ l.drop (word ++ [32]).length))))) w _
 rw [hnv, Run_optM_some]
 simp only [pickV_bool, cond_true, Run_bindO_some, Run_ret]
 have hn : (nameF word l).isSome = !decide ((32 : UInt8) ∈ l.drop (word ++ [32]).length):=by
  unfold nameF
  by_cases h32 : (32 : UInt8) ∈ l.drop (word ++ [32]).length
  ·rw [if_neg λ hc => hc.2.2 h32, decide_eq_true h32]; rfl
  ·rw [if_pos ⟨h, h0, h32⟩, decide_eq_false h32]; rfl
 rw [hn]
 exact ⟨rfl, trivial⟩
end
end Go.Proofs.YthlpfhjcdedhgaaGreatDoor
namespace Go.Proofs.YthlpfhjcdedhgaaGreatDoor
open Go.Lift
set_option linter.unusedSimpArgs false
set_option linter.unusedVariables false
set_option maxHeartbeats 4000000
set_option maxRecDepth 4000
section
variable {w w1 w2 : World}
theorem rjoin_run (hp : bk w 0 = some powV) {a b n : Nat} (ha : a < 4294967296) (hb : b < 4294967296) (hn : n <= 9007199254740992) : Run (F.granaryref2_CRCJoin (.int .i64 (a : Int)) (.int .i64 (b : Int)) (.int .i64 (n : Int))) w λ r w' => r = .tuple #[.int .i64 ((joinF a b n : Nat) : Int), .int .i64 0] /\ Fr (λ _ => False) w w':=by
 unfold F.granaryref2_CRCJoin
 have a1 : ¬ (a : Int) < 0:=by omega
 have a2 : ¬ (a : Int) >= 4294967296:=by omega
 have b1 : ¬ (b : Int) < 0:=by omega
 have b2 : ¬ (b : Int) >= 4294967296:=by omega
 have n1 : ¬ (n : Int) < 0:=by omega
 have n2 : ¬ (n : Int) > 9007199254740992:=by omega
 rw [binV_int, intBin_lss, decide_eq_false a1, Run_bindO_some]
 simp only [Run_bind, Run_guardM_ff, Run_ret, binV_int, intBin_geq, a2, decide_false, Run_optM_some, pickV_bool, cond_false, Run_bindO_some, intBin_lss, b1, b2, n1, intBin_gtr, n2, Run_condM_false]
 refine Run_new λ x w1 hx hxw f1 hxle => ?_
 rw [zeros32 1] at hx
 have hp1:=f1.bk_some hp id
 have lp:=bk_lt hp
 refine Run_for 32 (λ i L w' => L = [.int .i64 (i : Int)] /\ bk w' x = some (rowP 1 i) /\ wr w' x = true /\ Fr (λ c => c = x) w1 w') ⟨rfl, hx, hxw, Fr.refl _ _⟩ ?_ ?_
 ·rintro i L w4 hi ⟨rfl, hz4, hzw4, f4⟩
  have hil : (i : Int) < 32:=by omega
  have hp4:=f4.bk_some hp1 (by omega)
  rw [getL_zero, lssT hil, Run_bindO_some, Run_condM_true, idx32 hi, Run_bindO_some, Run_bind, Run_rdM]
  refine ⟨_, pow_ld hp4 hi, ?_⟩
  rw [Run_bind]
  refine (rstep_run _ (pow32 hi)).mono ?_
  rintro _ w4 ⟨rfl, rfl⟩
  have es : st (2 ^ i) = stI 1 (2 ^ i):=rfl
  rw [es, fieldA_ptr, Run_bindO_some, idx32 hi, Run_bindO_some, Run_bind, Run_st1 ⟨⟨⟨_, hz4, by rw [rowP_len]; omega⟩, hzw4⟩, rfl⟩, show 0 + 0 + i = i by omega, binV_int, intBin_add, wrap_succ' (by omega), Run_bindO_some, Run_ret]
  refine ⟨rfl, ?_, by rw [wr_sto]; exact hzw4, f4.trans ((show Fr (λ c => c = x) w4 w4 from Fr.refl _ _).sto (.inl rfl) _ _) λ _ _ h => h⟩
  rw [bk_sto_same hz4, setL_cons, setL_nil, rowP_set hi]
 ·rintro L w4 ⟨rfl, hz4, hzw4, f4⟩
  have hil : ¬ ((32 : Nat) : Int) < 32:=by omega
  rw [getL_zero, lssF hil, Run_bindO_some, Run_condM_false, Run_ret]
  simp only [outK_exit]
  have w8 : IntKind.i64.wrap (8 * (n : Int)) = ((8 * n : Nat) : Int):=by rw [show 8 * (n : Int) = ((8 * n : Nat) : Int) by omega]; exact i64W (by omega)
  rw [show Nat.beq 0 0 = true from rfl, cond_true]
  rw [intBin_mul, w8, Run_bindO_some, Run_bind]
  have hp4:=f4.bk_some hp1 (by omega)
  refine Run_loopM (λ L w' => (∃ m r K : Nat, L = [.int .i64 ((stI r a : Nat) : Int), .int .i64 (m : Int)] /\ r + K * m = 8 * n /\ m <= 8 * n /\ bk w' x = some (rowS K)) /\ wr w' x = true /\ Fr (λ c => c = x) w1 w') (λ L _ => match getL L 1 with | .int _ z => z.toNat | _ => 0) ?_ ⟨⟨8 * n, 0, 1, rfl, by omega, Nat.le_refl _, hz4⟩, hzw4, f4⟩
  rintro L w5 ⟨⟨m, r, K, rfl, hr, hmn, hx5⟩, hw5, f5⟩
  have hp5:=f5.bk_some hp1 (by omega)
  rw [getL_succ, getL_zero, binV_int, intBin_gtr]
  by_cases hm : m = 0
  ·subst hm
   rw [show decide (((0 : Nat) : Int) > 0) = false from rfl, Run_bindO_some, Run_condM_false, Run_ret]
   simp only [outK_exit, getL_succ, getL_zero]
   have hrn : r = 8 * n:=by omega
   rw [show Nat.beq 2 2 = true from rfl, cond_true, binV_int, binV_xor64 (stI_lt _ ha) hb, Run_bindO_some, Run_ret, hrn]
   exact ⟨rfl, f1.new f5 λ c hc => by omega⟩
  have hg : decide ((m : Int) > 0) = true:=decide_eq_true (by omega)
  rw [hg, Run_bindO_some, Run_condM_true]
  simp only [getL_zero, getL_succ]
  rw [Run_bind]
  have e2 : m = 2 * (m / 2) + m % 2:=(Nat.div_add_mod m 2).symm
  have hrem:=rem_nat (a:=m) (b:=2) (k:=.i64) (by decide)
  have hquo:=quo_nat (a:=m) (b:=2) (k:=.i64) (by decide) (i64W (by omega))
  have c2 : ((2 : Nat) : Int) = 2:=rfl
  rw [c2] at hrem hquo
  have first : Run (bindO (binV BinOp.rem (.int .i64 (m : Int)) (Value.int IntKind.i64 2)) λ x34 =>
       bindO (binV BinOp.eql x34 (Value.int IntKind.i64 1)) λ x35 =>
       condM x35 (
        M.bind (rdM (ldA 32 (.pointer (some ⟨x, 0, none⟩)))) λ x36 =>
        M.bind (F.granaryref2_Steps_of x36 (.int .i64 ((stI r a : Nat) : Int))) λ x37 =>
        M.ret (Out.norm [x37])) (
        M.ret (Out.norm [.int .i64 ((stI r a : Nat) : Int)]))) w5 λ o w' => o = .norm [.int .i64 ((stI (r + K * (m % 2)) a : Nat) : Int)] /\ Fr (λ _ => False) w5 w':=by
   rw [binV_int, hrem, Run_bindO_some, binV_int, intBin_eql, Run_bindO_some]
   rcases Nat.mod_two_eq_zero_or_one m with h | h
   ·rw [h, show decide (((0 : Nat) : Int) = 1) = false from rfl, Run_condM_false, Run_ret, Nat.mul_zero, Nat.add_zero]
    exact ⟨rfl, Fr.refl _ _⟩
   ·rw [h, show decide (((1 : Nat) : Int) = 1) = true from rfl, Run_condM_true, Run_bind, Run_rdM]
    refine ⟨_, agg32 hx5, ?_⟩
    rw [Run_bind]
    refine (of_run hp5 K (stI_lt _ ha)).mono ?_
    rintro _ w6 ⟨rfl, f6⟩
    rw [Run_ret, <- stI_add, Nat.mul_one]
    exact ⟨rfl, f6⟩
  refine first.mono ?_
  rintro _ w6 ⟨rfl, f6⟩
  have hx6:=f6.bk_some hx5 id
  have hw6 : wr w6 x = true:=by rw [f6.wr (bk_lt hx5) id]; exact hw5
  rw [outK_norm, Run_bind, Run_rdM]
  refine ⟨_, agg32 hx6, ?_⟩
  rw [Run_bind]
  refine (twice_run (f6.bk_some hp5 id) K).mono ?_
  rintro _ w7 ⟨rfl, f7⟩
  rw [Run_bind]
  refine st32 (f7.bk_some hx6 id) (by rw [f7.wr (bk_lt hx6) id]; exact hw6) λ w8 h8 hw8 f8 => ?_
  rw [binV_int, hquo, Run_bindO_some, Run_ret]
  try simp only [getL_zero]
  refine ⟨⟨⟨m / 2, r + K * (m % 2), K + K, rfl, ?_, by omega, h8⟩, hw8, ((f5.trans f6 λ _ _ h => h.elim).trans f7 λ _ _ h => h.elim).trans f8 λ _ _ h => h⟩, ?_⟩
  ·rw [<- hr, Nat.add_assoc]
   congr 1
   rw [<- Nat.two_mul, Nat.mul_comm 2 K, Nat.mul_assoc, <- Nat.mul_add, Nat.add_comm, <- e2]
  ·show ((((m / 2 : Nat) : Int)).toNat) < (((m : Nat) : Int)).toNat
   omega
end
def fiSet : List UInt8:=[97, 98, 99, 100, 101, 102, 103, 104, 105, 106, 107, 108, 109, 110, 111, 112, 113, 114, 115, 116, 117, 118, 119, 120, 121, 122, 48, 49, 50, 51, 52, 53, 54, 55, 56, 57, 45, 95, 46]
theorem fiSet_iff (c : UInt8) : c ∈ fiSet ↔ ((((97 <= c.toNat /\ c.toNat <= 122) ∨ (48 <= c.toNat /\ c.toNat <= 57)) ∨ c.toNat = 45) ∨ c.toNat = 95) ∨ c.toNat = 46:=u8_all (P:=λ c => c ∈ fiSet ↔ ((((97 <= c.toNat /\ c.toNat <= 122) ∨ (48 <= c.toNat /\ c.toNat <= 57)) ∨ c.toNat = 45) ∨ c.toNat = 95) ∨ c.toNat = 46) (by decide +kernel) c
theorem fiSet_low : ∀ c ∈ fiSet, c.toNat < 128:=by decide +kernel
def fileP (l : List UInt8) : Bool:=decide (1 <= l.length /\ l.length <= 40 /\ l ≠ [46] /\ l ≠ [46, 46]) && l.all λ c => decide (c ∈ fiSet)
theorem fileP_mem {l : List UInt8} (h : fileP l = true) : 1 <= l.length /\ l.length <= 40 /\ ∀ c ∈ l, c ∈ fiSet:=by
 unfold fileP at h
 simp only [Bool.and_eq_true, decide_eq_true_eq] at h
 exact ⟨h.1.1, h.1.2.1, λ x hx => of_decide_eq_true (List.all_eq_true.1 h.2 x hx)⟩
section
variable {w w1 w2 : World}
theorem fileOK_run (l : List UInt8) (hl : l.length <= 4611686018427387904) : Run (F.paper_fileOK (.string (sb l))) w λ r w' => r = .bool (fileP l) /\ Fr (λ _ => False) w w':=by
 unfold F.paper_fileOK
 have e0 : ByteArray.mk #[] = sb []:=rfl
 have e1 : ByteArray.mk #[46] = sb [46]:=rfl
 have e2 : ByteArray.mk #[46, 46] = sb [46, 46]:=rfl
 have eS : ByteArray.mk #[97, 98, 99, 100, 101, 102, 103, 104, 105, 106, 107, 108, 109, 110, 111, 112, 113, 114, 115, 116, 117, 118, 119, 120, 121, 122, 48, 49, 50, 51, 52, 53, 54, 55, 56, 57, 45, 95, 46] = sb fiSet:=rfl
 have no : ¬ (1 <= l.length /\ l.length <= 40 /\ l ≠ [46] /\ l ≠ [46, 46]) -> fileP l = false:=λ h => by
  unfold fileP
  rw [decide_eq_false h, Bool.false_and]
 rw [e0, e1, e2, eS, sbEq]
 by_cases h0 : l = []
 ·rw [decide_eq_true h0, Run_bindO_some, no λ h => by rw [h0] at h; exact absurd h.1 (by decide)]
  simp only [Run_bind, Run_guardM_tf, pickV_bool, cond_true, Run_bindO_some, Run_condM_true, Run_ret]
  exact ⟨trivial, Fr.refl _ _⟩
 rw [decide_eq_false h0, Run_bindO_some]
 simp only [Run_bind, Run_guardM_ff, Run_ret, lenS_string, sb_size, Run_optM_some, binV_int, intBin_gtr, pickV_bool, cond_false, Run_bindO_some]
 by_cases h40 : l.length <= 40
 case neg =>
  have h1 : ((l.length : Nat) : Int) > 40:=by omega
  rw [decide_eq_true h1, no λ h => h40 h.2.1]
  simp only [Run_bind, Run_guardM_tf, pickV_bool, cond_true, Run_bindO_some, Run_condM_true, Run_ret]
  exact ⟨trivial, Fr.refl _ _⟩
 have h1 : ¬ ((l.length : Nat) : Int) > 40:=by omega
 rw [decide_eq_false h1]
 simp only [Run_bind, Run_guardM_ff, Run_ret, sbEq, Run_optM_some, pickV_bool, cond_false, Run_bindO_some]
 by_cases d1 : l = [46]
 ·rw [decide_eq_true d1, no λ h => h.2.2.1 d1]
  simp only [Run_bind, Run_guardM_tf, pickV_bool, cond_true, Run_bindO_some, Run_condM_true, Run_ret]
  exact ⟨trivial, Fr.refl _ _⟩
 rw [decide_eq_false d1]
 simp only [Run_bind, Run_guardM_ff, Run_ret, sbEq, Run_optM_some, pickV_bool, cond_false, Run_bindO_some]
 by_cases d2 : l = [46, 46]
 ·rw [decide_eq_true d2, no λ h => h.2.2.2 d2]
  simp only [Run_condM_true, Run_ret]
  exact ⟨trivial, Fr.refl _ _⟩
 rw [decide_eq_false d2, Run_condM_false, Run_bind]
 refine (trim_run (l:=l) (cs:=fiSet) h0 hl fiSet_low (by decide) (by decide)).mono ?_
 rintro _ w1 ⟨⟨t, rfl, ht⟩, f1⟩
 rw [sbEq, Run_bindO_some, Run_ret]
 have hl1 : 1 <= l.length:=List.length_pos_iff.2 h0
 have : fileP l = decide (t = []):=by
  unfold fileP
  rw [decide_eq_true ⟨hl1, h40, d1, d2⟩, Bool.true_and, Bool.eq_iff_iff, decide_eq_true_iff, ht, List.all_eq_true]
  simp
 rw [this]
 exact ⟨rfl, f1⟩
theorem rnamed_run (l : List UInt8) (hl : l.length <= 4611686018427387904) : Run (F.granaryref4_named (.string (sb l))) w λ r w' => r = .bool (fileP l) /\ w' = w:=by
 unfold F.granaryref4_named
 have e1 : ByteArray.mk #[46] = sb [46]:=rfl
 have e2 : ByteArray.mk #[46, 46] = sb [46, 46]:=rfl
 have no : ¬ (1 <= l.length /\ l.length <= 40 /\ l ≠ [46] /\ l ≠ [46, 46]) -> fileP l = false:=λ h => by
  unfold fileP
  rw [decide_eq_false h, Bool.false_and]
 rw [e1, e2]
 by_cases h0 : 1 <= l.length
 case neg =>
  have h1 : ((l.length : Nat) : Int) < 1:=by omega
  rw [no λ h => h0 h.1]
  simp only [lenS_string, sb_size, binV_int, intBin_lss, h1, decide_true, Run_bindO_some, Run_bind, Run_guardM_tf, pickV_bool, cond_true, Run_condM_true, Run_ret]
  exact ⟨trivial, trivial⟩
 have h1 : ¬ ((l.length : Nat) : Int) < 1:=by omega
 simp only [lenS_string, sb_size, binV_int, intBin_lss, h1, decide_false, Run_bindO_some, Run_bind, Run_guardM_ff, Run_ret, Run_optM_some, intBin_gtr, pickV_bool, cond_false]
 by_cases h40 : l.length <= 40
 case neg =>
  have h2 : ((l.length : Nat) : Int) > 40:=by omega
  rw [decide_eq_true h2, no λ h => h40 h.2.1]
  simp only [Run_bind, Run_guardM_tf, pickV_bool, cond_true, Run_bindO_some, Run_condM_true, Run_ret]
  exact ⟨trivial, trivial⟩
 have h2 : ¬ ((l.length : Nat) : Int) > 40:=by omega
 rw [decide_eq_false h2]
 simp only [Run_bind, Run_guardM_ff, Run_ret, sbEq, Run_optM_some, pickV_bool, cond_false, Run_bindO_some]
 by_cases d1 : l = [46]
 ·rw [decide_eq_true d1, no λ h => h.2.2.1 d1]
  simp only [Run_bind, Run_guardM_tf, pickV_bool, cond_true, Run_bindO_some, Run_condM_true, Run_ret]
  exact ⟨trivial, trivial⟩
 rw [decide_eq_false d1]
 simp only [Run_bind, Run_guardM_ff, Run_ret, sbEq, Run_optM_some, pickV_bool, cond_false, Run_bindO_some]
 by_cases d2 : l = [46, 46]
 ·rw [decide_eq_true d2, no λ h => h.2.2.2 d2]
  simp only [Run_condM_true, Run_ret]
  exact ⟨trivial, trivial⟩
 have hsp : fileP l = l.all λ c => decide (c ∈ fiSet):=by
  unfold fileP
  rw [decide_eq_true ⟨h0, h40, d1, d2⟩, Bool.true_and]
 rw [decide_eq_false d2, Run_condM_false, Run_bind, hsp]
 obtain ⟨J, hJ, hgood, hend⟩:=far_ex (λ c : UInt8 => decide (c ∈ fiSet)) l
 have step : ∀ (i : Nat) (x : UInt8), l[i]? = some x -> ∀ {β : Type} {K : Value -> M β} {Q : β -> World -> Prop}, Run (K (.bool (decide (x ∈ fiSet)))) w Q ->
   Run (bindO (idxS (.string (sb l)) (.int .i64 (i : Int))) λ x16 =>
    bindO (binV BinOp.geq x16 (Value.int IntKind.u8 97)) λ x17 =>
    M.bind (guardM x17 true (M.ret x16)) λ x18 =>
    M.bind (guardM x17 true (optM (binV BinOp.leq x18 (Value.int IntKind.u8 122)))) λ x19 =>
    bindO (pickV x17 x19 (Value.bool false)) λ x20 =>
    M.bind (guardM x20 false (M.ret x16)) λ x21 =>
    M.bind (guardM x20 false (optM (binV BinOp.geq x21 (Value.int IntKind.u8 48)))) λ x22 =>
    M.bind (guardM x20 false (M.ret x22)) λ x23 =>
    M.bind (guardM x23 true (M.ret x16)) λ x24 =>
    M.bind (guardM x23 true (optM (binV BinOp.leq x24 (Value.int IntKind.u8 57)))) λ x25 =>
    M.bind (guardM x20 false (optM (pickV x23 x25 (Value.bool false)))) λ x26 =>
    bindO (pickV x20 (Value.bool true) x26) λ x27 =>
    M.bind (guardM x27 false (M.ret x16)) λ x28 =>
    M.bind (guardM x27 false (optM (binV BinOp.eql x28 (Value.int IntKind.u8 45)))) λ x29 =>
    bindO (pickV x27 (Value.bool true) x29) λ x30 =>
    M.bind (guardM x30 false (M.ret x16)) λ x31 =>
    M.bind (guardM x30 false (optM (binV BinOp.eql x31 (Value.int IntKind.u8 95)))) λ x32 =>
    bindO (pickV x30 (Value.bool true) x32) λ x33 =>
    M.bind (guardM x33 false (M.ret x16)) λ x34 =>
    M.bind (guardM x33 false (optM (binV BinOp.eql x34 (Value.int IntKind.u8 46)))) λ x35 =>
    bindO (pickV x33 (Value.bool true) x35) K) w Q:=λ i x hx {β K Q} q => by
  have hiff:=fiSet_iff x
  rw [idxSb hx]
  by_cases a1 : 97 <= x.toNat /\ x.toNat <= 122
  ·have b1 : (x.toNat : Int) >= 97:=by omega
   have b2 : (x.toNat : Int) <= 122:=by omega
   rw [decide_eq_true (hiff.2 (.inl (.inl (.inl (.inl a1)))))] at q
   simp [by8, b1, b2]
   exact q
  by_cases a3 : 48 <= x.toNat /\ x.toNat <= 57
  ·have b1 : ¬ (x.toNat : Int) >= 97:=by omega
   have b3 : (x.toNat : Int) >= 48:=by omega
   have b4 : (x.toNat : Int) <= 57:=by omega
   rw [decide_eq_true (hiff.2 (.inl (.inl (.inl (.inr a3)))))] at q
   simp [by8, b1, b3, b4]
   exact q
  have rest : ∀ {c1 c2 c3 : Bool}, Run (bindO (some (by8 x)) λ x16 =>
    M.bind (guardM (.bool false) false (M.ret x16)) λ x28 =>
    M.bind (guardM (.bool false) false (optM (binV BinOp.eql x28 (Value.int IntKind.u8 45)))) λ x29 =>
    bindO (pickV (.bool false) (Value.bool true) x29) λ x30 =>
    M.bind (guardM x30 false (M.ret x16)) λ x31 =>
    M.bind (guardM x30 false (optM (binV BinOp.eql x31 (Value.int IntKind.u8 95)))) λ x32 =>
    bindO (pickV x30 (Value.bool true) x32) λ x33 =>
    M.bind (guardM x33 false (M.ret x16)) λ x34 =>
    M.bind (guardM x33 false (optM (binV BinOp.eql x34 (Value.int IntKind.u8 46)))) λ x35 =>
    bindO (pickV x33 (Value.bool true) x35) K) w Q:=λ {_ _ _} => by
   by_cases c1 : x.toNat = 45
   ·have b1 : (x.toNat : Int) = 45:=by omega
    rw [decide_eq_true (hiff.2 (.inl (.inl (.inr c1))))] at q
    simp [by8, b1]
    exact q
   by_cases c2 : x.toNat = 95
   ·have b1 : ¬ (x.toNat : Int) = 45:=by omega
    have b2 : (x.toNat : Int) = 95:=by omega
    rw [decide_eq_true (hiff.2 (.inl (.inr c2)))] at q
    simp [by8, b2]
    exact q
   by_cases c3 : x.toNat = 46
   ·have b1 : ¬ (x.toNat : Int) = 45:=by omega
    have b2 : ¬ (x.toNat : Int) = 95:=by omega
    have b3 : (x.toNat : Int) = 46:=by omega
    rw [decide_eq_true (hiff.2 (.inr c3))] at q
    simp [by8, b3]
    exact q
   have b1 : ¬ (x.toNat : Int) = 45:=by omega
   have b2 : ¬ (x.toNat : Int) = 95:=by omega
   have b3 : ¬ (x.toNat : Int) = 46:=by omega
   rw [decide_eq_false λ h => by have:=hiff.1 h; omega] at q
   simp [by8, b1, b2, b3]
   exact q
  by_cases a5 : 97 <= x.toNat
  ·have b1 : (x.toNat : Int) >= 97:=by omega
   have b2 : ¬ (x.toNat : Int) <= 122:=by omega
   have b3 : (x.toNat : Int) >= 48:=by omega
   have b4 : ¬ (x.toNat : Int) <= 57:=by omega
   have hh:=rest (c1:=true) (c2:=true) (c3:=true)
   simp only [Run_bindO_some, by8, binV_int, intBin_geq, b1, decide_true, Run_bind, Run_guardM_tt, Run_guardM_ff, Run_ret, intBin_leq, b2, decide_false, Run_optM_some, pickV_bool, cond_true, cond_false, b3, b4] at hh ⊢
   exact hh
  ·have b1 : ¬ (x.toNat : Int) >= 97:=by omega
   by_cases a6 : 48 <= x.toNat
   ·have b3 : (x.toNat : Int) >= 48:=by omega
    have b4 : ¬ (x.toNat : Int) <= 57:=by omega
    have hh:=rest (c1:=true) (c2:=true) (c3:=true)
    simp only [Run_bindO_some, by8, binV_int, intBin_geq, b1, decide_true, Run_bind, Run_guardM_ft, Run_guardM_tt, Run_guardM_ff, Run_ret, intBin_leq, decide_false, Run_optM_some, pickV_bool, cond_true, cond_false, b3, b4] at hh ⊢
    exact hh
   ·have b3 : ¬ (x.toNat : Int) >= 48:=by omega
    have hh:=rest (c1:=true) (c2:=true) (c3:=true)
    simp only [Run_bindO_some, by8, binV_int, intBin_geq, b1, decide_true, Run_bind, Run_guardM_ft, Run_guardM_tt, Run_guardM_ff, Run_ret, intBin_leq, decide_false, Run_optM_some, pickV_bool, cond_true, cond_false, b3] at hh ⊢
    exact hh
 have n1 : ∀ b, notV (.bool b) = some (.bool !b):=λ _ => rfl
 refine Run_for J (λ i L w' => L = [.int .i64 (i : Int)] /\ w' = w) ⟨rfl, rfl⟩ ?_ ?_
 ·rintro i L w1 hi ⟨rfl, rfl⟩
  obtain ⟨x, hx⟩ : ∃ x, l[i]? = some x:=⟨_, List.getElem?_eq_getElem (by omega)⟩
  have hil : (i : Int) < l.length:=by omega
  rw [getL_zero, Run_bindO_some, lssT hil, Run_bindO_some, Run_condM_true]
  refine step i x hx ?_
  rw [hgood i x hi hx, n1, Run_bindO_some, Bool.not_true, Run_condM_false, binV_int, intBin_add, wrap_succ' (by omega), Run_bindO_some, Run_ret]
  exact ⟨rfl, rfl⟩
 ·rintro L w1 ⟨rfl, rfl⟩
  rcases hend with ⟨rfl, hall⟩ | ⟨x, hx, hp, hall⟩
  ·have hil : ¬ ((l.length : Nat) : Int) < l.length:=by omega
   rw [getL_zero, Run_bindO_some, lssF hil, Run_bindO_some, Run_condM_false, Run_ret, hall]
   simp only [outK_exit]
   rw [show Nat.beq 0 0 = true from rfl, cond_true, Run_ret]
   exact ⟨rfl, rfl⟩
  ·have hil : (J : Int) < l.length:=by have:=(List.getElem?_eq_some_iff.1 hx).1; omega
   rw [getL_zero, Run_bindO_some, lssT hil, Run_bindO_some, Run_condM_true]
   refine step J x hx ?_
   rw [hp, n1, Run_bindO_some, Bool.not_false, Run_condM_true, Run_ret, hall]
   simp only [outK_ret, Run_ret]
   exact ⟨trivial, trivial⟩
end
end Go.Proofs.YthlpfhjcdedhgaaGreatDoor
namespace Go.Proofs.YthlpfhjcdedhgaaGreatDoor
open Go.Lift
set_option linter.unusedSimpArgs false
set_option linter.unusedVariables false
set_option maxHeartbeats 4000000
theorem bl_irrefl : ∀ x : List UInt8, Op.bytesLess x x = false
 | [] => rfl
 | a :: x => by simp [Op.bytesLess, bl_irrefl x]
theorem bl_trans : ∀ {x y z : List UInt8}, Op.bytesLess x y = true -> Op.bytesLess y z = true -> Op.bytesLess x z = true
 | _, [], _, h, _ => by simp [Op.bytesLess] at h
 | _, _ :: _, [], _, h => by simp [Op.bytesLess] at h
 | [], _ :: _, _ :: _, _, _ => rfl
 | a :: x, b :: y, c :: z, h, h' => by
  simp only [Op.bytesLess, Bool.or_eq_true, decide_eq_true_eq, Bool.and_eq_true, beq_iff_eq, UInt8.lt_iff_toNat_lt] at h h' ⊢
  rcases h with h | ⟨h, h1⟩ <;> rcases h' with h' | ⟨h', h2⟩
  ·left; omega
  ·left; rw [<- h']; exact h
  ·left; rw [h]; exact h'
  ·right; exact ⟨h.trans h', bl_trans h1 h2⟩
theorem bl_total : ∀ {x y : List UInt8}, Op.bytesLess x y = false -> Op.bytesLess y x = false -> x = y
 | [], [], _, _ => rfl
 | [], _ :: _, h, _ => by simp [Op.bytesLess] at h
 | _ :: _, [], _, h => by simp [Op.bytesLess] at h
 | a :: x, b :: y, h, h' => by
  simp only [Op.bytesLess, Bool.or_eq_false_iff, decide_eq_false_iff_not, Bool.and_eq_false_iff, beq_eq_false_iff_ne, UInt8.lt_iff_toNat_lt] at h h'
  have hab : a = b:=UInt8.toNat_inj.1 (by omega)
  subst hab
  have h1 : Op.bytesLess x y = false:=h.2.resolve_left λ h => h rfl
  have h2 : Op.bytesLess y x = false:=h'.2.resolve_left λ h => h rfl
  rw [bl_total h1 h2]
theorem bl_le (x y : List UInt8) : (Op.bytesLess x y || decide (x = y)) = !(Op.bytesLess y x):=by
 cases h1 : Op.bytesLess y x with
 | true =>
  have h2 : Op.bytesLess x y = false:=by
   cases h : Op.bytesLess x y with
   | false => rfl
   | true => rw [<- bl_irrefl x, bl_trans h h1]
  have h3 : ¬ x = y:=λ e => by subst e; rw [bl_irrefl] at h1; cases h1
  rw [h2, decide_eq_false h3]; rfl
 | false =>
  cases h2 : Op.bytesLess x y with
  | true => rfl
  | false => rw [decide_eq_true (bl_total h2 h1)]; rfl
theorem sbGeq (a c : List UInt8) : binV .geq (.string (sb a)) (.string (sb c)) = some (.bool (!(Op.bytesLess a c))):=by
 show strBin .geq (sb a) (sb c) = _
 simp only [strBin, ByteArray.toList_eq]
 rfl
theorem sbLeq (a c : List UInt8) : binV .leq (.string (sb a)) (.string (sb c)) = some (.bool (!(Op.bytesLess c a))):=by
 show strBin .leq (sb a) (sb c) = _
 simp only [strBin, ByteArray.toList_eq]
 show some (Value.bool (Op.bytesLess a c || (a == c))) = _
 rw [<- bl_le]
 by_cases h : a = c <;> simp [h]
def hexL (s : List UInt8) : List UInt8:=(s.map λ c => [hexd (c.toNat / 16), hexd (c.toNat % 16)]).flatten
theorem hexL_len : ∀ s : List UInt8, (hexL s).length = 2 * s.length
 | [] => rfl
 | c :: s => by
  have:=hexL_len s
  simp only [hexL, List.map_cons, List.flatten_cons, List.length_append, List.length_cons, List.length_nil] at this ⊢
  omega
theorem hexL_snoc (s : List UInt8) (c : UInt8) : hexL (s ++ [c]) = hexL s ++ [hexd (c.toNat / 16), hexd (c.toNat % 16)]:=by simp [hexL]
section
variable {w w1 w2 : World}
theorem ownB_more {v x : Value} {l s : List UInt8} (h : OwnB w w1 v l) (hx : Sl 1 w1 x (s.map λ b => [by8 b])) {a2 : Nat} (hl : l.length + s.length <= 33554432) {K : Value -> World -> Prop} (q : ∀ r w2, OwnB w w2 r (l ++ s) -> K r w2) :
  Run (appM a2 1 1 #[(Value.int IntKind.u8 0)] v x) w1 λ r w' => K r w':=by
 refine Run_appM (k:=1) h.sl hx (by decide) rfl (by decide) (λ e he => by obtain ⟨b, _, rfl⟩:=List.mem_map.1 he; rfl) (by simp only [List.length_map]; omega) λ r w2 hr f2 hin => q r w2 ?_
 have s2:=f2.size
 have s0:=h.fr.size
 refine ⟨by rw [List.map_append]; exact hr, λ c hc => ?_, h.fr.new f2 λ c hc => (h.fresh c hc).1⟩
 rcases hin c hc with hc | hc
 ·have:=h.fresh c hc; omega
 ·omega
theorem shr8_4 {a : Nat} : shV .shr (.int .u8 (a : Int)) (.int .u64 4) = some (.int .u8 ((a / 16 : Nat) : Int)):=by
 have h : ¬ ((4 : Int) < 0):=by omega
 simp only [shV, h, if_false]
 rw [show (4 : Int).toNat = 4 from rfl, Nat.min_eq_left (by decide), Int.fdiv_eq_ediv_of_nonneg _ (by decide)]
 norm_cast
theorem and8_15 {a : Nat} (ha : a < 256) : intBin .and .u8 (a : Int) 15 = some (.int .u8 ((a % 16 : Nat) : Int)):=by
 have h15 : ((15 : Int)) = ((15 : Nat) : Int):=rfl
 rw [h15]
 simp only [intBin]
 rw [bv_and (n:=IntKind.u8.bits) (show a < 2 ^ 8 from ha) (show 15 < 2 ^ 8 by decide), show (15 : Nat) = 2 ^ 4 - 1 from rfl, Nat.and_two_pow_sub_one_eq_mod, u8W (by omega)]
theorem hex_run {s : List UInt8} (hs : s.length <= 1048576) : Run (F.digest_Hex (.string (sb s))) w λ r w' => r = .string (sb (hexL s)) /\ Fr (λ _ => False) w w':=by
 unfold F.digest_Hex
 have eD : ByteArray.mk #[48, 49, 50, 51, 52, 53, 54, 55, 56, 57, 97, 98, 99, 100, 101, 102] = DIG:=rfl
 have w2' : IntKind.i64.wrap (2 * (s.length : Int)) = ((2 * s.length : Nat) : Int):=by rw [show 2 * (s.length : Int) = ((2 * s.length : Nat) : Int) by omega]; exact i64W (by omega)
 rw [lenS_string, sb_size, Run_bindO_some, binV_int, intBin_mul, w2', Run_bindO_some, Run_bind]
 refine Run_mksM (k:=1) (n:=0) (c:=2 * s.length) rfl (by omega) (by omega) (by omega) λ v w1 hv f1 hn => ?_
 rw [eD, Run_bind]
 refine Run_for s.length (λ i L w' => ∃ v, L = [v, .int .i64 (i : Int)] /\ OwnB w w' v (hexL (s.take i))) ⟨v, rfl, ⟨hv, hn, f1⟩⟩ ?_ ?_
 ·rintro i L w2 hi ⟨v, rfl, hO⟩
  obtain ⟨c, hc⟩ : ∃ c, s[i]? = some c:=⟨_, List.getElem?_eq_getElem hi⟩
  have hil : (i : Int) < s.length:=by omega
  have hct:=c.toNat_lt
  rw [Run_bindO_some, getL_succ, getL_zero, lssT hil, Run_bindO_some, Run_condM_true, Run_drewM]
  have hO2 : OwnB w w2.drew v (hexL (s.take i)):=⟨hO.sl.fr (show Fr (λ _ => False) w2 w2.drew from (Fr.refl _ _).drew) λ _ _ => id, hO.fresh, hO.fr.drew⟩
  generalize w2.drew = w3 at *
  have hix : idxS (.string (sb s)) (.int .i64 (i : Int)) = some (by8 c):=idxSb hc
  rw [hix, Run_bindO_some]
  have b8 : by8 c = .int .u8 ((c.toNat : Nat) : Int):=rfl
  rw [b8, shr8_4, Run_bindO_some, idx_DIG (by omega), Run_bindO_some, Run_bindO_some, binV_int, and8_15 (by omega), Run_bindO_some, idx_DIG (by omega), Run_bindO_some, Run_bind]
  refine Run_bsl (k:=1) (vs:=[by8 (hexd (c.toNat / 16)), by8 (hexd (c.toNat % 16))]) (by rfl) (by intro v hv; simp only [List.mem_cons, List.not_mem_nil, or_false] at hv; rcases hv with rfl | rfl <;> rfl) rfl (by kernel_rfl) λ x w4 hx f4 _ => ?_
  have hO4 : OwnB w w4 v (hexL (s.take i)):=⟨hO2.sl.fr f4 λ _ _ => id, λ c hc => ⟨(hO2.fresh c hc).1, Nat.lt_of_lt_of_le (hO2.fresh c hc).2 f4.size⟩, hO2.fr.trans f4 λ _ _ => id⟩
  have hl:=hexL_len (s.take i)
  have hlt : (s.take i).length <= i:=List.length_take_le i s
  rw [getL_zero, Run_bind]
  refine ownB_more (s:=[hexd (c.toNat / 16), hexd (c.toNat % 16)]) hO4 hx.1 (by simp only [List.length_cons, List.length_nil]; omega) λ r w5 h5 => ?_
  rw [binV_int, intBin_add, wrap_succ' (by omega), Run_bindO_some, Run_ret, take_snocP hc, hexL_snoc]
  exact ⟨r, rfl, h5⟩
 ·rintro L w2 ⟨v, rfl, hO⟩
  have hil : ¬ ((s.length : Nat) : Int) < s.length:=by omega
  rw [List.take_length] at hO
  rw [Run_bindO_some, getL_succ, getL_zero, lssF hil, Run_bindO_some, Run_condM_false, Run_ret]
  simp only [outK_exit, getL_zero]
  rw [show Nat.beq 0 0 = true from rfl, cond_true, Run_bind, Run_rdM]
  refine ⟨_, ownB_text hO.sl.1, ?_⟩
  rw [Run_ret]
  exact ⟨rfl, hO.fr⟩
theorem rhex_run {s : List UInt8} (hs : s.length <= 1048576) : Run (F.granaryref4_hex (.string (sb s))) w λ r w' => r = .string (sb (hexL s)) /\ Fr (λ _ => False) w w':=by
 unfold F.granaryref4_hex
 have eD : ByteArray.mk #[48, 49, 50, 51, 52, 53, 54, 55, 56, 57, 97, 98, 99, 100, 101, 102] = DIG:=rfl
 rw [eD, Run_bind]
 refine Run_for s.length (λ i L w' => ∃ v, L = [v, .int .i64 (i : Int)] /\ OwnB w w' v (hexL (s.take i))) ⟨_, rfl, OwnB.nil w⟩ ?_ ?_
 ·rintro i L w2 hi ⟨v, rfl, hO⟩
  obtain ⟨c, hc⟩ : ∃ c, s[i]? = some c:=⟨_, List.getElem?_eq_getElem hi⟩
  have hil : (i : Int) < s.length:=by omega
  have hct:=c.toNat_lt
  have hix : idxS (.string (sb s)) (.int .i64 (i : Int)) = some (by8 c):=idxSb hc
  have w1' : IntKind.i64.wrap ((c.toNat : Nat) : Int) = ((c.toNat : Nat) : Int):=i64W (by omega)
  have hcv : cvtI .i64 (by8 c) = some (.int .i64 ((c.toNat : Nat) : Int)):=by
   show some (Value.int .i64 (IntKind.i64.wrap ((c.toNat : Nat) : Int))) = _
   rw [w1']
  have hq:=quo_nat (a:=c.toNat) (b:=16) (k:=.i64) (by decide) (i64W (by omega))
  have hr:=rem_nat (a:=c.toNat) (b:=16) (k:=.i64) (by decide)
  have e16 : ((16 : Nat) : Int) = 16:=rfl
  rw [e16] at hq hr
  have hl:=hexL_len (s.take i)
  have hlt : (s.take i).length <= i:=List.length_take_le i s
  rw [lenS_string, sb_size, Run_bindO_some, getL_succ, getL_zero, lssT hil, Run_bindO_some, Run_condM_true, hix, Run_bindO_some, hcv, Run_bindO_some, binV_int, hq, Run_bindO_some, idx_DIG (by omega), Run_bindO_some, getL_zero]
  rw [Run_bind]
  simp only [Run_bind]
  refine ownB_app hO (hexd (c.toNat / 16)) (by omega) λ r w3 h3 => ?_
  rw [Run_bindO_some, hcv, Run_bindO_some, binV_int, hr, Run_bindO_some, idx_DIG (by omega), Run_bindO_some, Run_bind]
  simp only [Run_bind]
  refine ownB_app h3 (hexd (c.toNat % 16)) (by rw [List.length_append, List.length_singleton]; omega) λ r2 w4 h4 => ?_
  rw [binV_int, intBin_add, wrap_succ' (by omega), Run_bindO_some, Run_ret, take_snocP hc, hexL_snoc]
  refine ⟨r2, rfl, ?_⟩
  rw [List.append_assoc] at h4
  exact h4
 ·rintro L w2 ⟨v, rfl, hO⟩
  have hil : ¬ ((s.length : Nat) : Int) < s.length:=by omega
  rw [List.take_length] at hO
  rw [lenS_string, sb_size, Run_bindO_some, getL_succ, getL_zero, lssF hil, Run_bindO_some, Run_condM_false, Run_ret]
  simp only [outK_exit, getL_zero]
  rw [show Nat.beq 0 0 = true from rfl, cond_true, Run_bind, Run_rdM]
  refine ⟨_, ownB_text hO.sl.1, ?_⟩
  rw [Run_ret]
  exact ⟨rfl, hO.fr⟩
end
structure Fl where
 nm : List UInt8
 sz : Int
 crc : Int
 md : List UInt8
def Fl.row (f : Fl) : List Value:=[.string (sb f.nm), .int .i64 f.sz, .int .i64 f.crc, .string (sb f.md)]
def Fl.ok (f : Fl) : Bool:=fileP f.nm && decide (0 <= f.sz /\ f.sz <= 1073741824) && decide (0 <= f.crc /\ f.crc <= 4294967295) && decide (f.md.length = 16)
theorem Fl.row_cell (f : Fl) : f.row.toArray.toList.all isCell = true:=by simp [Fl.row]
structure Mf where
 st : List UInt8
 ver : Int
 node : Int
 fs : List Fl
 tot : Int
 who : Int
def mval (m : Mf) (v : Value) : List Value:=[.string (sb m.st), .int .i64 m.ver, .int .i64 m.node, v, .int .i64 m.tot, .int .i64 m.who]
def prs : Option (List UInt8) -> List Fl -> List (Option (List UInt8) × Fl)
 | _, [] => []
 | p, f :: r => (p, f) :: prs (some f.nm) r
def okP (z : Option (List UInt8) × Fl) : Bool:=z.2.ok && (match z.1 with
 | none => true
 | some a => Op.bytesLess a z.2.nm)
def filesOk (fs : List Fl) : Bool:=(prs none fs).all okP
def totF (fs : List Fl) : Nat:=(fs.map λ f => f.sz.toNat).sum
def whoF (fs : List Fl) : Nat:=fs.foldl (λ w f => joinF w f.crc.toNat f.sz.toNat) 0
def headOk (m : Mf) : Bool:=storeP m.st && decide (1 <= m.ver /\ m.ver <= 999999) && decide (0 <= m.node /\ m.node <= 15) && decide (m.fs.length <= 1025) && (decide (0 <= m.tot /\ m.tot <= 9007199254740992) && decide (0 <= m.who /\ m.who <= 4294967295))
def holdsF (m : Mf) : Int:=if (headOk m && filesOk m.fs) = true then (if (totF m.fs : Int) = m.tot /\ (whoF m.fs : Int) = m.who then 0 else 43) else 42
theorem prs_len : ∀ (fs : List Fl) (p : Option (List UInt8)), (prs p fs).length = fs.length
 | [], p => rfl
 | f :: r, p => by show (prs (some f.nm) r).length + 1 = _; rw [prs_len r]; rfl
theorem prs_zero {fs : List Fl} {f : Fl} (p : Option (List UInt8)) (h : fs[0]? = some f) : (prs p fs)[0]? = some (p, f):=by
 cases fs with
 | nil => cases h
 | cons x r => cases h; rfl
theorem prs_succ : ∀ {fs : List Fl} {i : Nat} {f g : Fl} (p : Option (List UInt8)), fs[i]? = some g -> fs[i + 1]? = some f -> (prs p fs)[i + 1]? = some (some g.nm, f)
 | [], i, f, g, p, h, _ => by simp at h
 | x :: r, 0, f, g, p, h, h' => by
  cases h
  exact prs_zero (some _) (by simpa using h')
 | x :: r, i + 1, f, g, p, h, h' => by
  have:=prs_succ (fs:=r) (i:=i) (some x.nm) (by simpa using h) (by simpa using h')
  exact this
theorem Fl.ok_iff {f : Fl} : f.ok = true ↔ fileP f.nm = true /\ (0 <= f.sz /\ f.sz <= 1073741824) /\ (0 <= f.crc /\ f.crc <= 4294967295) /\ f.md.length = 16:=by
 unfold Fl.ok
 simp only [Bool.and_eq_true, decide_eq_true_eq, and_assoc]
theorem filesOk_at {fs : List Fl} (h : filesOk fs = true) : ∀ f ∈ fs, f.ok = true:=by
 have : ∀ (fs : List Fl) (p : Option (List UInt8)), (prs p fs).all okP = true -> ∀ f ∈ fs, f.ok = true:=by
  intro fs
  induction fs with
  | nil => intro _ _ f hf; cases hf
  | cons x r ih =>
   intro p hp f hf
   have hp' : (okP (p, x) && (prs (some x.nm) r).all okP) = true:=hp
   rw [Bool.and_eq_true] at hp'
   rcases List.mem_cons.1 hf with rfl | hf
   ·unfold okP at hp'
    rw [Bool.and_eq_true] at hp'
    exact hp'.1.1
   ·exact ih _ hp'.2 f hf
 exact this fs none h
theorem totF_snoc {fs : List Fl} {i : Nat} {f : Fl} (h : fs[i]? = some f) : totF (fs.take (i + 1)) = totF (fs.take i) + f.sz.toNat:=by
 unfold totF
 rw [take_snocP h]
 simp
theorem whoF_snoc {fs : List Fl} {i : Nat} {f : Fl} (h : fs[i]? = some f) : whoF (fs.take (i + 1)) = joinF (whoF (fs.take i)) f.crc.toNat f.sz.toNat:=by
 unfold whoF
 rw [take_snocP h, List.foldl_append]
 rfl
theorem tot_le : ∀ {fs : List Fl}, (∀ f ∈ fs, f.ok = true) -> totF fs <= fs.length * 1073741824
 | [], _ => by simp [totF]
 | f :: r, h => by
  have h1:=(Fl.ok_iff.1 (h f (by simp))).2.1
  have h2:=tot_le (fs:=r) λ g hg => h g (by simp [hg])
  simp only [totF, List.map_cons, List.sum_cons, List.length_cons] at h2 ⊢
  omega
theorem who_lt {fs : List Fl} (h : ∀ f ∈ fs, f.ok = true) : whoF fs < 4294967296:=by
 have : ∀ (fs : List Fl) (a : Nat), a < 4294967296 -> (∀ f ∈ fs, f.ok = true) -> fs.foldl (λ w f => joinF w f.crc.toNat f.sz.toNat) a < 4294967296:=by
  intro fs
  induction fs with
  | nil => intro a ha _; exact ha
  | cons f r ih =>
   intro a ha hok
   have h1:=(Fl.ok_iff.1 (hok f (by simp))).2.2.1
   exact ih _ (joinF_lt _ ha (by omega)) λ g hg => hok g (by simp [hg])
 exact this fs 0 (by decide) h
structure Mf.Fit (m : Mf) : Prop where
 st : m.st.length <= 4294967296
 fs : ∀ f ∈ m.fs, f.nm.length <= 4294967296 /\ f.md.length <= 4294967296
 n : m.fs.length <= 4294967296
section
variable {w w1 w2 : World}
theorem isSumR {a : Int} : Run (F.paper_isSum (.int .i64 a)) w λ r w' => r = .bool (decide (0 <= a /\ a <= 4294967295)) /\ w' = w:=by
 refine ⟨_, _, isSum_run, ?_, rfl⟩
 congr 1
 exact decide_eq_decide.2 (by omega)
theorem filesOk_bad {fs : List Fl} {i : Nat} {z : Option (List UInt8) × Fl} (h : (prs none fs)[i]? = some z) (hz : okP z = false) : filesOk fs = false:=by
 unfold filesOk
 rw [List.all_eq_false]
 exact ⟨z, List.mem_of_getElem? h, by rw [hz]; simp⟩
theorem filesOk_good {fs : List Fl} (h : ∀ j z, j < fs.length -> (prs none fs)[j]? = some z -> okP z = true) : filesOk fs = true:=by
 unfold filesOk
 rw [List.all_eq_true]
 intro z hz
 obtain ⟨j, hj⟩:=List.getElem?_of_mem hz
 exact h j z (by have:=(List.getElem?_eq_some_iff.1 hj).1; rwa [prs_len] at this) hj
theorem holds_run {m : Mf} {v : Value} (hv : Sl 4 w v (m.fs.map Fl.row)) (hm : m.Fit) : Run (F.paper_holds (.agg (mval m v).toArray)) w λ r w' => r = .int .i64 (holdsF m) /\ Fr (λ _ => False) w w':=by
 unfold F.paper_holds
 have nv : ∀ b, notV (.bool b) = some (.bool !b):=λ _ => rfl
 have bad : headOk m = false -> holdsF m = 42:=λ h => by
  unfold holdsF
  rw [h, Bool.false_and, if_neg (by simp)]
 have hvl:=hv.lenL
 rw [List.length_map] at hvl
 rw [Run_bind]
 refine Run_new λ x w1 hx hxw f1 hxle => ?_
 replace hx : bk w1 x = some (mval m v):=hx
 have lx:=bk_lt hx
 have c0 : ∀ {u : World}, bk u x = some (mval m v) -> ld1 (.pointer (some ⟨x, 0 + 0, none⟩)) u = some (.string (sb m.st)):=λ h => by rw [ld1_ptr, h]; rfl
 have c1 : ∀ {u : World}, bk u x = some (mval m v) -> ld1 (.pointer (some ⟨x, 0 + 1, none⟩)) u = some (.int .i64 m.ver):=λ h => by rw [ld1_ptr, h]; rfl
 have c2 : ∀ {u : World}, bk u x = some (mval m v) -> ld1 (.pointer (some ⟨x, 0 + 2, none⟩)) u = some (.int .i64 m.node):=λ h => by rw [ld1_ptr, h]; rfl
 have c3 : ∀ {u : World}, bk u x = some (mval m v) -> ld1 (.pointer (some ⟨x, 0 + 3, none⟩)) u = some v:=λ h => by rw [ld1_ptr, h]; rfl
 have c4 : ∀ {u : World}, bk u x = some (mval m v) -> ld1 (.pointer (some ⟨x, 0 + 4, none⟩)) u = some (.int .i64 m.tot):=λ h => by rw [ld1_ptr, h]; rfl
 have c5 : ∀ {u : World}, bk u x = some (mval m v) -> ld1 (.pointer (some ⟨x, 0 + 5, none⟩)) u = some (.int .i64 m.who):=λ h => by rw [ld1_ptr, h]; rfl
 simp only [fieldA_ptr, Run_bindO_some]
 rw [Run_bind, Run_rdM]
 refine ⟨_, c0 hx, ?_⟩
 rw [Run_bind]
 refine (storeOK_run m.st (by have:=hm.st; omega)).mono ?_
 rintro _ w2 ⟨rfl, f2⟩
 have hx2:=f2.bk_some hx id
 have f12:=f1.trans f2 λ _ _ => id
 rw [nv, Run_bindO_some]
 cases hs : storeP m.st with
 | false =>
  simp only [Bool.not_false, Run_bind, Run_guardM_tf, pickV_bool, cond_true, Run_bindO_some, Run_condM_true, Run_ret]
  exact ⟨by rw [bad (by unfold headOk; rw [hs]; rfl)], f12⟩
 | true =>
 simp only [Bool.not_true, Run_bind, Run_guardM_ff, Run_ret, Run_optM_some, Run_rdM]
 refine ⟨_, c1 hx2, ?_⟩
 by_cases v1 : m.ver < 1
 ·have hb : headOk m = false:=by unfold headOk; rw [decide_eq_false (p:=1 <= m.ver /\ m.ver <= 999999) (by omega)]; simp
  simp only [binV_int, intBin_lss, v1, decide_true, Run_optM_some, Run_bind, Run_guardM_tf, pickV_bool, cond_false, cond_true, Run_bindO_some, Run_condM_true, Run_ret]
  exact ⟨by rw [bad hb], f12⟩
 simp only [binV_int, intBin_lss, v1, decide_false, Run_optM_some, Run_bind, Run_guardM_ff, Run_ret, pickV_bool, cond_false, Run_bindO_some, Run_rdM]
 refine ⟨_, c1 hx2, ?_⟩
 by_cases v2 : m.ver > 999999
 ·have hb : headOk m = false:=by unfold headOk; rw [decide_eq_false (p:=1 <= m.ver /\ m.ver <= 999999) (by omega)]; simp
  simp only [binV_int, intBin_gtr, v2, decide_true, Run_optM_some, Run_bind, Run_guardM_tf, pickV_bool, cond_false, cond_true, Run_bindO_some, Run_condM_true, Run_ret]
  exact ⟨by rw [bad hb], f12⟩
 simp only [binV_int, intBin_gtr, v2, decide_false, Run_optM_some, Run_bind, Run_guardM_ff, Run_ret, pickV_bool, cond_false, Run_bindO_some, Run_rdM]
 refine ⟨_, c2 hx2, ?_⟩
 by_cases n1 : m.node < 0
 ·have hb : headOk m = false:=by unfold headOk; rw [decide_eq_false (p:=0 <= m.node /\ m.node <= 15) (by omega)]; simp
  simp only [binV_int, intBin_lss, n1, decide_true, Run_optM_some, Run_bind, Run_guardM_tf, pickV_bool, cond_false, cond_true, Run_bindO_some, Run_condM_true, Run_ret]
  exact ⟨by rw [bad hb], f12⟩
 simp only [binV_int, intBin_lss, n1, decide_false, Run_optM_some, Run_bind, Run_guardM_ff, Run_ret, pickV_bool, cond_false, Run_bindO_some, Run_rdM]
 refine ⟨_, c2 hx2, ?_⟩
 by_cases n2 : m.node >= 16
 ·have hb : headOk m = false:=by unfold headOk; rw [decide_eq_false (p:=0 <= m.node /\ m.node <= 15) (by omega)]; simp
  simp only [binV_int, intBin_geq, n2, decide_true, Run_optM_some, Run_bind, Run_guardM_tf, pickV_bool, cond_false, cond_true, Run_bindO_some, Run_condM_true, Run_ret]
  exact ⟨by rw [bad hb], f12⟩
 simp only [binV_int, intBin_geq, n2, decide_false, Run_optM_some, Run_bind, Run_guardM_ff, Run_ret, pickV_bool, cond_false, Run_bindO_some, Run_rdM]
 refine ⟨_, c3 hx2, ?_⟩
 by_cases l1 : m.fs.length <= 1025
 case neg =>
  have l2 : ((m.fs.length : Nat) : Int) > 1025:=by omega
  have hb : headOk m = false:=by unfold headOk; rw [decide_eq_false l1]; simp
  simp only [hvl, Run_optM_some, binV_int, intBin_gtr, l2, decide_true, Run_bind, pickV_bool, cond_false, Run_bindO_some, Run_condM_true, Run_ret]
  exact ⟨by rw [bad hb], f12⟩
 have l2 : ¬ ((m.fs.length : Nat) : Int) > 1025:=by omega
 simp only [hvl, Run_optM_some, binV_int, intBin_gtr, l2, decide_false, Run_bind, pickV_bool, cond_false, Run_bindO_some, Run_condM_false, Run_rdM]
 refine ⟨_, c4 hx2, ?_⟩
 by_cases t1 : m.tot < 0
 ·have hb : headOk m = false:=by unfold headOk; rw [decide_eq_false (p:=0 <= m.tot /\ m.tot <= 9007199254740992) (by omega)]; simp
  simp only [binV_int, intBin_lss, t1, decide_true, Run_optM_some, Run_bind, Run_guardM_tf, pickV_bool, cond_false, cond_true, Run_bindO_some, Run_condM_true, Run_ret]
  exact ⟨by rw [bad hb], f12⟩
 simp only [binV_int, intBin_lss, t1, decide_false, Run_optM_some, Run_bind, Run_guardM_ff, Run_ret, pickV_bool, cond_false, Run_bindO_some, Run_rdM]
 refine ⟨_, c4 hx2, ?_⟩
 by_cases t2 : m.tot > 9007199254740992
 ·have hb : headOk m = false:=by unfold headOk; rw [decide_eq_false (p:=0 <= m.tot /\ m.tot <= 9007199254740992) (by omega)]; simp
  simp only [binV_int, intBin_gtr, t2, decide_true, Run_optM_some, Run_bind, Run_guardM_tf, pickV_bool, cond_false, cond_true, Run_bindO_some, Run_condM_true, Run_ret]
  exact ⟨by rw [bad hb], f12⟩
 simp only [binV_int, intBin_gtr, t2, decide_false, Run_optM_some, Run_bind, Run_guardM_ff, Run_ret, pickV_bool, cond_false, Run_bindO_some, Run_rdM]
 refine ⟨_, c5 hx2, ?_⟩
 refine isSumR.mono ?_
 rintro _ w2 ⟨rfl, rfl⟩
 rw [nv, Run_optM_some]
 by_cases o1 : 0 <= m.who /\ m.who <= 4294967295
 case neg =>
  have hb : headOk m = false:=by unfold headOk; rw [decide_eq_false o1]; simp
  rw [decide_eq_false o1]
  simp only [Bool.not_false, pickV_bool, cond_false, Run_bindO_some, Run_condM_true, Run_ret]
  exact ⟨by rw [bad hb], f12⟩
 rw [decide_eq_true o1]
 have hh : headOk m = true:=by
  unfold headOk
  rw [hs, decide_eq_true (p:=1 <= m.ver /\ m.ver <= 999999) (by omega), decide_eq_true (p:=0 <= m.node /\ m.node <= 15) (by omega), decide_eq_true l1, decide_eq_true (p:=0 <= m.tot /\ m.tot <= 9007199254740992) (by omega), decide_eq_true o1]
  rfl
 have hF : holdsF m = if filesOk m.fs = true then (if (totF m.fs : Int) = m.tot /\ (whoF m.fs : Int) = m.who then 0 else 43) else 42:=by
  unfold holdsF
  rw [hh, Bool.true_and]
 simp only [Bool.not_true, pickV_bool, cond_false, Run_bindO_some, Run_condM_false, Run_bind, Run_rdM]
 refine ⟨_, c3 hx2, ?_⟩
 simp only [hvl, Run_bindO_some, Run_bind]
 have hv2:=hv.fr0 f12
 refine Run_loopM (λ L w' => (∃ i : Nat, L = [.int .i64 ((totF (m.fs.take i) : Nat) : Int), .int .i64 ((whoF (m.fs.take i) : Nat) : Int), .int .i64 (i : Int)] /\ i <= m.fs.length /\ ∀ j z, j < i -> (prs none m.fs)[j]? = some z -> okP z = true) /\ Fr (λ _ => False) w2 w') (λ L _ => m.fs.length - (match getL L 2 with | .int _ z => z.toNat | _ => 0)) ?_ ⟨⟨0, rfl, Nat.zero_le _, λ j z h => absurd h (Nat.not_lt_zero j)⟩, Fr.refl _ _⟩
 rintro L w3 ⟨⟨i, rfl, hi, hgood⟩, f3⟩
 have hx3:=f3.bk_some hx2 id
 have hgf : ∀ f ∈ m.fs.take i, f.ok = true:=λ f hf => by
  obtain ⟨j, hj⟩:=List.getElem?_of_mem hf
  have hji : j < i:=by have:=(List.getElem?_eq_some_iff.1 hj).1; rw [List.length_take] at this; omega
  rw [List.getElem?_take_of_lt hji] at hj
  have hz : ∃ p, (prs none m.fs)[j]? = some (p, f):=by
   cases j with
   | zero => exact ⟨_, prs_zero none hj⟩
   | succ j =>
    obtain ⟨g, hg⟩ : ∃ g, m.fs[j]? = some g:=⟨_, List.getElem?_eq_getElem (by omega)⟩
    exact ⟨_, prs_succ none hg hj⟩
  obtain ⟨p, hp⟩:=hz
  have:=hgood j _ hji hp
  unfold okP at this
  rw [Bool.and_eq_true] at this
  exact this.1
 have htl:=tot_le hgf
 have hwl:=who_lt hgf
 have hlt : (m.fs.take i).length <= i:=List.length_take_le i m.fs
 simp only [getL_succ, getL_zero, binV_int, intBin_lss]
 by_cases hil : i < m.fs.length
 case neg =>
  have hil' : ¬ (i : Int) < m.fs.length:=by omega
  have hin : i = m.fs.length:=by omega
  have hok : filesOk m.fs = true:=filesOk_good λ j z hj hz => hgood j z (by omega) hz
  rw [decide_eq_false hil', Run_bindO_some, Run_condM_false, Run_ret, hin, List.take_length]
  simp only [outK_exit, getL_succ, getL_zero]
  rw [hF, if_pos hok, show Nat.beq 0 0 = true from rfl, cond_true]
  simp only [Run_bindO_some, Run_bind, Run_rdM]
  refine ⟨_, c4 hx3, ?_⟩
  by_cases e1 : (totF m.fs : Int) = m.tot
  ·simp only [binV_int, intBin_neq, e1, decide_true, Bool.not_true, Run_bindO_some, Run_bind, Run_guardM_ff, Run_ret, Run_optM_some, Run_rdM]
   refine ⟨_, c5 hx3, ?_⟩
   by_cases e2 : (whoF m.fs : Int) = m.who
   ·simp only [binV_int, intBin_neq, e2, decide_true, Bool.not_true, Run_optM_some, pickV_bool, cond_false, Run_bindO_some, Run_condM_false, Run_ret]
    exact ⟨rfl, f12.trans f3 λ _ _ => id⟩
   ·simp only [binV_int, intBin_neq, e2, decide_false, Bool.not_false, Run_optM_some, pickV_bool, cond_false, Run_bindO_some, Run_condM_true, Run_ret]
    exact ⟨rfl, f12.trans f3 λ _ _ => id⟩
  ·simp only [binV_int, intBin_neq, e1, decide_false, Bool.not_false, Run_bindO_some, Run_bind, Run_guardM_tf, pickV_bool, cond_true, Run_condM_true, Run_ret]
   exact ⟨rfl, f12.trans f3 λ _ _ => id⟩
 have hil' : (i : Int) < m.fs.length:=by omega
 obtain ⟨f, hf⟩ : ∃ f, m.fs[i]? = some f:=⟨_, List.getElem?_eq_getElem hil⟩
 have hfm:=List.mem_of_getElem? hf
 obtain ⟨q, q1, q2⟩:=(hv2.fr0 f3).rdA (by decide) (i:=i) (e:=f.row) (by simp [hf]) .i64
 have q1' : idxA 4 v (.int .i64 (i : Int)) = some q:=q1
 obtain ⟨pv, hpz, hpv⟩ : ∃ pv, (prs none m.fs)[i]? = some (pv, f) /\ ((i = 0 /\ pv = none) ∨ ∃ g, 0 < i /\ m.fs[i - 1]? = some g /\ pv = some g.nm):=by
  cases i with
  | zero => exact ⟨_, prs_zero none hf, .inl ⟨rfl, rfl⟩⟩
  | succ j =>
   obtain ⟨g, hg⟩ : ∃ g, m.fs[j]? = some g:=⟨_, List.getElem?_eq_getElem (by omega)⟩
   exact ⟨_, prs_succ none hg hf, .inr ⟨g, by omega, by simpa using hg, rfl⟩⟩
 have hbadF : okP (pv, f) = false -> holdsF m = 42:=λ h => by
  rw [hF, filesOk_bad hpz h, if_neg (by simp)]
 have hfok : f.ok = false -> okP (pv, f) = false:=λ h => by unfold okP; rw [h, Bool.false_and]
 rw [decide_eq_true hil', Run_bindO_some, Run_condM_true, q1', Run_bindO_some]
 simp only [Run_bind, Run_rdM]
 refine ⟨_, q2, ?_⟩
 refine Run_new λ y w4 hy hyw f4 hyle => ?_
 rw [Run_stA (n:=4) ⟨⟨⟨_, hy, by simp⟩, hyw⟩, rfl, f.row_cell⟩]
 have hyb:=bk_sto_same (o:=0) hy f.row
 have ey : setL #[Value.string ByteArray.empty, Value.int IntKind.i64 0, Value.int IntKind.i64 0, Value.string ByteArray.empty].toList 0 f.row = f.row:=rfl
 rw [ey] at hyb
 rw [show f.row.toArray.toList = f.row from rfl]
 have f45 : Fr (λ _ => False) w3 (sto w4 y 0 f.row):=f4.sto (.inr hyle) _ _
 generalize sto w4 y 0 f.row = w5 at *
 have f25:=f3.trans f45 λ _ _ => id
 have d0 : ∀ {u : World}, Fr (λ _ => False) w5 u -> ld1 (.pointer (some ⟨y, 0 + 0, none⟩)) u = some (.string (sb f.nm)):=λ h => by rw [ld1_ptr, h.bk_some hyb id]; rfl
 have d1 : ∀ {u : World}, Fr (λ _ => False) w5 u -> ld1 (.pointer (some ⟨y, 0 + 1, none⟩)) u = some (.int .i64 f.sz):=λ h => by rw [ld1_ptr, h.bk_some hyb id]; rfl
 have d2 : ∀ {u : World}, Fr (λ _ => False) w5 u -> ld1 (.pointer (some ⟨y, 0 + 2, none⟩)) u = some (.int .i64 f.crc):=λ h => by rw [ld1_ptr, h.bk_some hyb id]; rfl
 have d3 : ∀ {u : World}, Fr (λ _ => False) w5 u -> ld1 (.pointer (some ⟨y, 0 + 3, none⟩)) u = some (.string (sb f.md)):=λ h => by rw [ld1_ptr, h.bk_some hyb id]; rfl
 simp only [fieldA_ptr, Run_bindO_some, Run_bind, Run_rdM]
 refine ⟨_, d0 (Fr.refl _ _), ?_⟩
 refine (fileOK_run f.nm (by have:=(hm.fs f hfm).1; omega)).mono ?_
 rintro _ w6 ⟨rfl, f6⟩
 have f26:=f25.trans f6 λ _ _ => id
 have fw6:=f12.trans f26 λ _ _ => id
 rw [nv, Run_bindO_some]
 cases hfp : fileP f.nm with
 | false =>
  have hb:=hbadF (hfok (by unfold Fl.ok; rw [hfp]; rfl))
  simp only [Bool.not_false, Run_bind, Run_guardM_tf, pickV_bool, cond_true, Run_bindO_some, Run_condM_true, Run_ret, outK_ret]
  exact ⟨by rw [hb], fw6⟩
 | true =>
 simp only [Bool.not_true, Run_bind, Run_guardM_ff, Run_ret, Run_optM_some, Run_rdM]
 refine ⟨_, d1 f6, ?_⟩
 by_cases s1 : f.sz < 0
 ·have hb:=hbadF (hfok (by unfold Fl.ok; rw [decide_eq_false (p:=0 <= f.sz /\ f.sz <= 1073741824) (by omega)]; simp))
  simp only [binV_int, intBin_lss, s1, decide_true, Run_optM_some, Run_bind, Run_guardM_tf, pickV_bool, cond_false, cond_true, Run_bindO_some, Run_condM_true, Run_ret, outK_ret]
  exact ⟨by rw [hb], fw6⟩
 simp only [binV_int, intBin_lss, s1, decide_false, Run_optM_some, Run_bind, Run_guardM_ff, Run_ret, pickV_bool, cond_false, Run_bindO_some, Run_rdM]
 refine ⟨_, d1 f6, ?_⟩
 by_cases s2 : f.sz > 1073741824
 ·have hb:=hbadF (hfok (by unfold Fl.ok; rw [decide_eq_false (p:=0 <= f.sz /\ f.sz <= 1073741824) (by omega)]; simp))
  simp only [binV_int, intBin_gtr, s2, decide_true, Run_optM_some, Run_bind, Run_guardM_tf, pickV_bool, cond_false, cond_true, Run_bindO_some, Run_condM_true, Run_ret, outK_ret]
  exact ⟨by rw [hb], fw6⟩
 simp only [binV_int, intBin_gtr, s2, decide_false, Run_optM_some, Run_bind, Run_guardM_ff, Run_ret, pickV_bool, cond_false, Run_bindO_some, Run_rdM]
 refine ⟨_, d2 f6, ?_⟩
 refine isSumR.mono ?_
 rintro _ w6 ⟨rfl, rfl⟩
 rw [nv, Run_optM_some]
 by_cases k1 : 0 <= f.crc /\ f.crc <= 4294967295
 case neg =>
  have hb:=hbadF (hfok (by unfold Fl.ok; rw [decide_eq_false k1]; simp))
  rw [decide_eq_false k1]
  simp only [Bool.not_false, Run_bind, Run_guardM_tf, pickV_bool, cond_false, cond_true, Run_bindO_some, Run_condM_true, Run_ret, outK_ret]
  exact ⟨by rw [hb], fw6⟩
 rw [decide_eq_true k1]
 simp only [Bool.not_true, pickV_bool, cond_false, Run_bindO_some, Run_bind, Run_guardM_ff, Run_ret, Run_optM_some, Run_rdM]
 refine ⟨_, d3 f6, ?_⟩
 by_cases m1 : f.md.length = 16
 case neg =>
  have m1' : ¬ ((f.md.length : Nat) : Int) = 16:=by omega
  have hb:=hbadF (hfok (by unfold Fl.ok; rw [decide_eq_false m1]; simp))
  simp only [lenS_string, sb_size, Run_optM_some, binV_int, intBin_neq, m1', decide_false, Bool.not_false, pickV_bool, cond_false, Run_bindO_some, Run_condM_true, Run_ret, outK_ret]
  exact ⟨by rw [hb], fw6⟩
 have m1' : ((f.md.length : Nat) : Int) = 16:=by omega
 have hfo : f.ok = true:=Fl.ok_iff.2 ⟨hfp, by omega, k1, m1⟩
 simp only [lenS_string, sb_size, Run_optM_some, binV_int, intBin_neq, m1', decide_true, Bool.not_true, pickV_bool, cond_false, Run_bindO_some, Run_condM_false, Run_drewM]
 have f6d : Fr (λ _ => False) w5 w6.drew:=f6.drew
 have f26d : Fr (λ _ => False) w2 w6.drew:=f26.drew
 have fw6d:=f12.trans f26d λ _ _ => id
 have hx7:=f26d.bk_some hx2 id
 have hv7:=hv2.fr0 f26d
 generalize w6.drew = w7 at *
 have cont : okP (pv, f) = true -> ∀ {K : Out -> World -> Prop}, (∀ w', Fr (λ _ => False) w2 w' -> K (.norm [.int .i64 ((totF (m.fs.take (i + 1)) : Nat) : Int), .int .i64 ((whoF (m.fs.take (i + 1)) : Nat) : Int), .int .i64 ((i + 1 : Nat) : Int)]) w') -> Run (M.bind (rdM (ld1 (.pointer (some ⟨y, 0 + 1, none⟩)))) λ x83 =>
       bindO (binV BinOp.add (.int .i64 ((totF (m.fs.take i) : Nat) : Int)) x83) λ x84 =>
       M.bind (rdM (ld1 (.pointer (some ⟨y, 0 + 2, none⟩)))) λ x86 =>
       M.bind (rdM (ld1 (.pointer (some ⟨y, 0 + 1, none⟩)))) λ x88 =>
       M.bind (F.digest_CRCJoin (.int .i64 ((whoF (m.fs.take i) : Nat) : Int)) x86 x88) λ x89 =>
       bindO (extV 0 x89) λ x90 =>
       bindO (extV 1 x89) λ _ =>
       bindO (binV BinOp.add (.int .i64 (i : Int)) (Value.int IntKind.i64 1)) λ x92 =>
       M.ret (Out.norm [x84, x90, x92])) w7 K:=λ hok {K} hK => by
  obtain ⟨z, hz⟩ : ∃ z : Nat, f.sz = z:=⟨f.sz.toNat, by omega⟩
  obtain ⟨c, hc⟩ : ∃ c : Nat, f.crc = c:=⟨f.crc.toNat, by omega⟩
  have e1:=totF_snoc hf
  have e2:=whoF_snoc hf
  rw [hz, Int.toNat_natCast] at e1 e2
  rw [hc, Int.toNat_natCast] at e2
  have wa : IntKind.i64.wrap (((totF (m.fs.take i) : Nat) : Int) + (z : Int)) = ((totF (m.fs.take (i + 1)) : Nat) : Int):=by
   rw [show ((totF (m.fs.take i) : Nat) : Int) + (z : Int) = ((totF (m.fs.take i) + z : Nat) : Int) by omega, <- e1]
   exact i64W (by omega)
  rw [Run_bind, Run_rdM]
  refine ⟨_, d1 f6d, ?_⟩
  rw [hz, binV_int, intBin_add, wa, Run_bindO_some, Run_bind, Run_rdM]
  refine ⟨_, d2 f6d, ?_⟩
  rw [Run_bind, Run_rdM]
  refine ⟨_, d1 f6d, ?_⟩
  rw [hz, hc, Run_bind]
  refine (crcjoin_run hwl (by omega) (by omega)).mono ?_
  rintro _ w8 ⟨rfl, rfl⟩
  rw [<- e2]
  rw [show extV 0 (.tuple #[.int .i64 ((whoF (m.fs.take (i + 1)) : Nat) : Int), .int .i64 0]) = some (.int .i64 ((whoF (m.fs.take (i + 1)) : Nat) : Int)) from rfl, show extV 1 (.tuple #[.int .i64 ((whoF (m.fs.take (i + 1)) : Nat) : Int), .int .i64 0]) = some (.int .i64 0) from rfl, Run_bindO_some, Run_bindO_some, binV_int, intBin_add, wrap_succ' (by omega), Run_bindO_some, Run_ret]
  exact hK _ f26d
 have fin : okP (pv, f) = true -> ∀ w', Fr (λ _ => False) w2 w' -> (∃ i' : Nat, [Value.int .i64 ((totF (m.fs.take (i + 1)) : Nat) : Int), .int .i64 ((whoF (m.fs.take (i + 1)) : Nat) : Int), .int .i64 ((i + 1 : Nat) : Int)] = [.int .i64 ((totF (m.fs.take i') : Nat) : Int), .int .i64 ((whoF (m.fs.take i') : Nat) : Int), .int .i64 (i' : Int)] /\ i' <= m.fs.length /\ ∀ j z, j < i' -> (prs none m.fs)[j]? = some z -> okP z = true) /\ Fr (λ _ => False) w2 w':=λ hok w' f' => by
  refine ⟨⟨i + 1, rfl, by omega, λ j z hj hz => ?_⟩, f'⟩
  rcases Nat.lt_or_ge j i with h | h
  ·exact hgood j z h hz
  ·have : j = i:=by omega
   subst this
   rw [hpz] at hz
   cases hz
   exact hok
 have meas : m.fs.length - (((i + 1 : Nat) : Int)).toNat < m.fs.length - ((i : Nat) : Int).toNat:=by omega
 rcases hpv with ⟨i0, rfl⟩ | ⟨g, hg0, hg, rfl⟩
 ·have hg : ¬ (i : Int) > 0:=by omega
  have hok : okP (none, f) = true:=by unfold okP; rw [hfo]; rfl
  simp only [binV_int, intBin_gtr, hg, decide_false, Run_bindO_some, Run_bind, Run_guardM_ft, pickV_bool, cond_false, Run_condM_false]
  exact Run_bind.1 (cont hok λ w' f' => ⟨fin hok w' f', meas⟩)
 ·have hg' : (i : Int) > 0:=by omega
  have wi : IntKind.i64.wrap ((i : Int) - 1) = ((i - 1 : Nat) : Int):=by rw [show (i : Int) - 1 = ((i - 1 : Nat) : Int) by omega]; exact i64W (by omega)
  obtain ⟨q', q3, q4⟩:=hv7.rdF (i:=i - 1) (e:=g.row) (by rw [List.getElem?_map, hg]; rfl) .i64
  obtain ⟨q5, q6, q7⟩:=q4 0 (by decide)
  have q3' : idxA 4 v (.int .i64 ((i - 1 : Nat) : Int)) = some q':=q3
  have q7' : ld1 q5 w7 = some (.string (sb g.nm)):=q7
  simp only [binV_int, intBin_gtr, hg', decide_true, Run_bindO_some, Run_bind, Run_guardM_tt, Run_ret, Run_optM_some, fieldA_ptr, Run_rdM]
  refine ⟨_, c3 hx7, ?_⟩
  simp only [binV_int, intBin_sub, wi, Run_optM_some, q3', q6, Run_rdM]
  refine ⟨_, q7', _, d0 f6d, ?_⟩
  rw [sbGeq, Run_optM_some]
  simp only [pickV_bool, cond_true, Run_bindO_some]
  cases hless : Op.bytesLess g.nm f.nm with
  | false =>
   have hb:=hbadF (show okP (some g.nm, f) = false by unfold okP; rw [hfo]; exact hless)
   simp only [Bool.not_false, Run_condM_true, Run_ret, outK_ret]
   exact ⟨by rw [hb], fw6d⟩
  | true =>
   have hok : okP (some g.nm, f) = true:=by unfold okP; rw [hfo]; exact hless
   simp only [Bool.not_true, Run_condM_false]
   exact cont hok λ w' f' => ⟨fin hok w' f', meas⟩
end
end Go.Proofs.YthlpfhjcdedhgaaGreatDoor
