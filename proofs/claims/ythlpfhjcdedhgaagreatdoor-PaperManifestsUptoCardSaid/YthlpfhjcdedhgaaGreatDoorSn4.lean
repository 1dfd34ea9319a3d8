/- What the statement rests on: part 5. -/
import Derived.Test.YthlpfhjcdedhgaaGreatDoorSn3
namespace Go.Proofs.YthlpfhjcdedhgaaGreatDoor
open Go.Lift
set_option linter.unusedSimpArgs false
set_option linter.unusedVariables false
set_option maxHeartbeats 4000000
section
variable {w w1 w2 : World}
theorem rholds_run (hpw : bk w 0 = some powV) {m : Mf} {v : Value} (hv : Sl 4 w v (m.fs.map Fl.row)) (hm : m.Fit) : Run (F.granaryref4_manifestFields (.agg (mval m v).toArray)) w λ r w' => r = .int .i64 (holdsF m) /\ Fr (λ _ => False) w w':=by
 unfold F.granaryref4_manifestFields
 have nv : ∀ b, notV (.bool b) = some (.bool !b):=λ _ => rfl
 have bad : headOk m = false -> holdsF m = 42:=λ h => by
  unfold holdsF
  rw [h, Bool.false_and, if_neg (by simp)]
 have hvl:=hv.lenL
 rw [List.length_map] at hvl
 rw [Run_bind]
 refine Run_new λ x w1 hx hxw f1 hxle => ?_
 replace hx : bk w1 x = some (mval m v):=hx
 have lx:=bk_lt hx
 have c0 : ∀ {u : World}, bk u x = some (mval m v) -> ld1 (.pointer (some ⟨x, 0 + 0, none⟩)) u = some (.string (sb m.st)):=λ h => by rw [ld1_ptr, h]; rfl
 have c1 : ∀ {u : World}, bk u x = some (mval m v) -> ld1 (.pointer (some ⟨x, 0 + 1, none⟩)) u = some (.int .i64 m.ver):=λ h => by rw [ld1_ptr, h]; rfl
 have c2 : ∀ {u : World}, bk u x = some (mval m v) -> ld1 (.pointer (some ⟨x, 0 + 2, none⟩)) u = some (.int .i64 m.node):=λ h => by rw [ld1_ptr, h]; rfl
 have c3 : ∀ {u : World}, bk u x = some (mval m v) -> ld1 (.pointer (some ⟨x, 0 + 3, none⟩)) u = some v:=λ h => by rw [ld1_ptr, h]; rfl
 have c4 : ∀ {u : World}, bk u x = some (mval m v) -> ld1 (.pointer (some ⟨x, 0 + 4, none⟩)) u = some (.int .i64 m.tot):=λ h => by rw [ld1_ptr, h]; rfl
 have c5 : ∀ {u : World}, bk u x = some (mval m v) -> ld1 (.pointer (some ⟨x, 0 + 5, none⟩)) u = some (.int .i64 m.who):=λ h => by rw [ld1_ptr, h]; rfl
 simp only [fieldA_ptr, Run_bindO_some]
 rw [Run_bind, Run_rdM]
 refine ⟨_, c0 hx, ?_⟩
 rw [Run_bind]
 refine (rstore_run m.st (by have:=hm.st; omega)).mono ?_
 rintro _ w2 ⟨rfl, hw2⟩
 have f2 : Fr (λ _ => False) w1 w2:=by rw [hw2]; exact Fr.refl _ _
 have hx2:=f2.bk_some hx id
 have f12:=f1.trans f2 λ _ _ => id
 rw [nv, Run_bindO_some]
 cases hs : storeP m.st with
 | false =>
  simp only [Bool.not_false, Run_bind, Run_guardM_tf, pickV_bool, cond_true, Run_bindO_some, Run_condM_true, Run_ret]
  exact ⟨by rw [bad (by unfold headOk; rw [hs]; rfl)], f12⟩
 | true =>
 simp only [Bool.not_true, Run_bind, Run_guardM_ff, Run_ret, Run_optM_some, Run_rdM]
 refine ⟨_, c1 hx2, ?_⟩
 rw [Run_in]
 by_cases v1 : 1 <= m.ver /\ m.ver <= 999999
 case neg =>
  have hb : headOk m = false:=by unfold headOk; rw [decide_eq_false v1]; simp
  rw [decide_eq_false v1]
  simp only [nv, Bool.not_false, Run_optM_some, Run_bind, Run_guardM_tf, pickV_bool, cond_false, cond_true, Run_bindO_some, Run_condM_true, Run_ret]
  exact ⟨by rw [bad hb], f12⟩
 rw [decide_eq_true v1]
 simp only [nv, Bool.not_true, Run_optM_some, Run_bind, Run_guardM_ff, Run_ret, pickV_bool, cond_false, Run_bindO_some, Run_rdM]
 refine ⟨_, c2 hx2, ?_⟩
 rw [Run_in]
 by_cases n1 : 0 <= m.node /\ m.node <= 15
 case neg =>
  have hb : headOk m = false:=by unfold headOk; rw [decide_eq_false n1]; simp
  rw [decide_eq_false n1]
  simp only [nv, Bool.not_false, Run_optM_some, Run_bind, Run_guardM_tf, pickV_bool, cond_false, cond_true, Run_bindO_some, Run_condM_true, Run_ret]
  exact ⟨by rw [bad hb], f12⟩
 rw [decide_eq_true n1]
 simp only [nv, Bool.not_true, Run_optM_some, Run_bind, Run_guardM_ff, Run_ret, pickV_bool, cond_false, Run_bindO_some, Run_rdM]
 refine ⟨_, c3 hx2, ?_⟩
 by_cases l1 : m.fs.length <= 1025
 case neg =>
  have l2 : ((m.fs.length : Nat) : Int) > 1025:=by omega
  have hb : headOk m = false:=by unfold headOk; rw [decide_eq_false l1]; simp
  simp only [hvl, Run_optM_some, binV_int, intBin_gtr, l2, decide_true, Run_bind, pickV_bool, cond_false, Run_bindO_some, Run_condM_true, Run_ret]
  exact ⟨by rw [bad hb], f12⟩
 have l2 : ¬ ((m.fs.length : Nat) : Int) > 1025:=by omega
 simp only [hvl, Run_optM_some, binV_int, intBin_gtr, l2, decide_false, Run_bind, pickV_bool, cond_false, Run_bindO_some, Run_condM_false, Run_rdM]
 refine ⟨_, c4 hx2, ?_⟩
 rw [Run_in]
 by_cases t1 : 0 <= m.tot /\ m.tot <= 9007199254740992
 case neg =>
  have hb : headOk m = false:=by unfold headOk; rw [decide_eq_false t1]; simp
  rw [decide_eq_false t1, nv]
  simp only [Bool.not_false, Run_optM_some, Run_bind, Run_guardM_tf, pickV_bool, cond_false, cond_true, Run_bindO_some, Run_condM_true, Run_ret]
  exact ⟨by rw [bad hb], f12⟩
 rw [decide_eq_true t1, nv]
 simp only [Bool.not_true, Run_optM_some, Run_bind, Run_guardM_ff, Run_ret, pickV_bool, cond_false, Run_bindO_some, Run_rdM]
 refine ⟨_, c5 hx2, ?_⟩
 rw [Run_in]
 by_cases o1 : 0 <= m.who /\ m.who <= 4294967295
 case neg =>
  have hb : headOk m = false:=by unfold headOk; rw [decide_eq_false o1]; simp
  rw [decide_eq_false o1, nv]
  simp only [Bool.not_false, Run_optM_some, pickV_bool, cond_false, Run_bindO_some, Run_condM_true, Run_ret]
  exact ⟨by rw [bad hb], f12⟩
 rw [decide_eq_true o1, nv, Run_optM_some]
 have hh : headOk m = true:=by
  unfold headOk
  rw [hs, decide_eq_true v1, decide_eq_true n1, decide_eq_true l1, decide_eq_true t1, decide_eq_true o1]
  rfl
 have hF : holdsF m = if filesOk m.fs = true then (if (totF m.fs : Int) = m.tot /\ (whoF m.fs : Int) = m.who then 0 else 43) else 42:=by
  unfold holdsF
  rw [hh, Bool.true_and]
 simp only [Bool.not_true, pickV_bool, cond_false, Run_bindO_some, Run_condM_false, Run_bind]
 have hpw2:=f12.bk_some hpw id
 have hv2:=hv.fr0 f12
 refine Run_loopM (λ L w' => (∃ i : Nat, L = [.int .i64 ((totF (m.fs.take i) : Nat) : Int), .int .i64 ((whoF (m.fs.take i) : Nat) : Int), .int .i64 (i : Int)] /\ i <= m.fs.length /\ ∀ j z, j < i -> (prs none m.fs)[j]? = some z -> okP z = true) /\ Fr (λ _ => False) w2 w') (λ L _ => m.fs.length - (match getL L 2 with | .int _ z => z.toNat | _ => 0)) ?_ ⟨⟨0, rfl, Nat.zero_le _, λ j z h => absurd h (Nat.not_lt_zero j)⟩, Fr.refl _ _⟩
 rintro L w3 ⟨⟨i, rfl, hi, hgood⟩, f3⟩
 have hx3:=f3.bk_some hx2 id
 have hgf : ∀ f ∈ m.fs.take i, f.ok = true:=λ f hf => by
  obtain ⟨j, hj⟩:=List.getElem?_of_mem hf
  have hji : j < i:=by have:=(List.getElem?_eq_some_iff.1 hj).1; rw [List.length_take] at this; omega
  rw [List.getElem?_take_of_lt hji] at hj
  have hz : ∃ p, (prs none m.fs)[j]? = some (p, f):=by
   cases j with
   | zero => exact ⟨_, prs_zero none hj⟩
   | succ j =>
    obtain ⟨g, hg⟩ : ∃ g, m.fs[j]? = some g:=⟨_, List.getElem?_eq_getElem (by omega)⟩
    exact ⟨_, prs_succ none hg hj⟩
  obtain ⟨p, hp⟩:=hz
  have:=hgood j _ hji hp
  unfold okP at this
  rw [Bool.and_eq_true] at this
  exact this.1
 have htl:=tot_le hgf
 have hwl:=who_lt hgf
 have hlt : (m.fs.take i).length <= i:=List.length_take_le i m.fs
 simp only [Run_bindO_some, Run_bind, Run_rdM]
 refine ⟨_, c3 hx3, ?_⟩
 simp only [hvl, Run_bindO_some, getL_succ, getL_zero, binV_int, intBin_lss]
 by_cases hil : i < m.fs.length
 case neg =>
  have hil' : ¬ (i : Int) < m.fs.length:=by omega
  have hin : i = m.fs.length:=by omega
  have hok : filesOk m.fs = true:=filesOk_good λ j z hj hz => hgood j z (by omega) hz
  rw [decide_eq_false hil', Run_condM_false, Run_ret, hin, List.take_length]
  simp only [outK_exit, getL_succ, getL_zero]
  rw [hF, if_pos hok, show Nat.beq 0 0 = true from rfl, cond_true]
  simp only [Run_bindO_some, Run_bind, Run_rdM]
  refine ⟨_, c4 hx3, ?_⟩
  by_cases e1 : (totF m.fs : Int) = m.tot
  ·simp only [binV_int, intBin_neq, e1, decide_true, Bool.not_true, Run_bindO_some, Run_bind, Run_guardM_ff, Run_ret, Run_optM_some, Run_rdM]
   refine ⟨_, c5 hx3, ?_⟩
   by_cases e2 : (whoF m.fs : Int) = m.who
   ·simp only [binV_int, intBin_neq, e2, decide_true, Bool.not_true, Run_optM_some, pickV_bool, cond_false, Run_bindO_some, Run_condM_false, Run_ret]
    exact ⟨rfl, f12.trans f3 λ _ _ => id⟩
   ·simp only [binV_int, intBin_neq, e2, decide_false, Bool.not_false, Run_optM_some, pickV_bool, cond_false, Run_bindO_some, Run_condM_true, Run_ret]
    exact ⟨rfl, f12.trans f3 λ _ _ => id⟩
  ·simp only [binV_int, intBin_neq, e1, decide_false, Bool.not_false, Run_bindO_some, Run_bind, Run_guardM_tf, pickV_bool, cond_true, Run_condM_true, Run_ret]
   exact ⟨rfl, f12.trans f3 λ _ _ => id⟩
 have hil' : (i : Int) < m.fs.length:=by omega
 obtain ⟨f, hf⟩ : ∃ f, m.fs[i]? = some f:=⟨_, List.getElem?_eq_getElem hil⟩
 have hfm:=List.mem_of_getElem? hf
 obtain ⟨q, q1, q2⟩:=(hv2.fr0 f3).rdA (by decide) (i:=i) (e:=f.row) (by simp [hf]) .i64
 have q1' : idxA 4 v (.int .i64 (i : Int)) = some q:=q1
 obtain ⟨pv, hpz, hpv⟩ : ∃ pv, (prs none m.fs)[i]? = some (pv, f) /\ ((i = 0 /\ pv = none) ∨ ∃ g, 0 < i /\ m.fs[i - 1]? = some g /\ pv = some g.nm):=by
  cases i with
  | zero => exact ⟨_, prs_zero none hf, .inl ⟨rfl, rfl⟩⟩
  | succ j =>
   obtain ⟨g, hg⟩ : ∃ g, m.fs[j]? = some g:=⟨_, List.getElem?_eq_getElem (by omega)⟩
   exact ⟨_, prs_succ none hg hf, .inr ⟨g, by omega, by simpa using hg, rfl⟩⟩
 have hbadF : okP (pv, f) = false -> holdsF m = 42:=λ h => by
  rw [hF, filesOk_bad hpz h, if_neg (by simp)]
 have hfok : f.ok = false -> okP (pv, f) = false:=λ h => by unfold okP; rw [h, Bool.false_and]
 rw [decide_eq_true hil', Run_condM_true]
 simp only [Run_bindO_some, Run_bind, Run_rdM]
 refine ⟨_, c3 hx3, ?_⟩
 rw [q1', Run_bindO_some]
 simp only [Run_bind, Run_rdM]
 refine ⟨_, q2, ?_⟩
 refine Run_new λ y w4 hy hyw f4 hyle => ?_
 rw [Run_stA (n:=4) ⟨⟨⟨_, hy, by simp⟩, hyw⟩, rfl, f.row_cell⟩]
 have hyb:=bk_sto_same (o:=0) hy f.row
 have ey : setL #[Value.string ByteArray.empty, Value.int IntKind.i64 0, Value.int IntKind.i64 0, Value.string ByteArray.empty].toList 0 f.row = f.row:=rfl
 rw [ey] at hyb
 rw [show f.row.toArray.toList = f.row from rfl]
 have f45 : Fr (λ _ => False) w3 (sto w4 y 0 f.row):=f4.sto (.inr hyle) _ _
 generalize sto w4 y 0 f.row = w5 at *
 have f25:=f3.trans f45 λ _ _ => id
 have d0 : ∀ {u : World}, Fr (λ _ => False) w5 u -> ld1 (.pointer (some ⟨y, 0 + 0, none⟩)) u = some (.string (sb f.nm)):=λ h => by rw [ld1_ptr, h.bk_some hyb id]; rfl
 have d1 : ∀ {u : World}, Fr (λ _ => False) w5 u -> ld1 (.pointer (some ⟨y, 0 + 1, none⟩)) u = some (.int .i64 f.sz):=λ h => by rw [ld1_ptr, h.bk_some hyb id]; rfl
 have d2 : ∀ {u : World}, Fr (λ _ => False) w5 u -> ld1 (.pointer (some ⟨y, 0 + 2, none⟩)) u = some (.int .i64 f.crc):=λ h => by rw [ld1_ptr, h.bk_some hyb id]; rfl
 have d3 : ∀ {u : World}, Fr (λ _ => False) w5 u -> ld1 (.pointer (some ⟨y, 0 + 3, none⟩)) u = some (.string (sb f.md)):=λ h => by rw [ld1_ptr, h.bk_some hyb id]; rfl
 simp only [fieldA_ptr, Run_bindO_some, Run_bind, Run_rdM]
 refine ⟨_, d0 (Fr.refl _ _), ?_⟩
 refine (rnamed_run f.nm (by have:=(hm.fs f hfm).1; omega)).mono ?_
 rintro _ w6 ⟨rfl, hw6⟩
 have f6 : Fr (λ _ => False) w5 w6:=by rw [hw6]; exact Fr.refl _ _
 have f26:=f25.trans f6 λ _ _ => id
 have fw6:=f12.trans f26 λ _ _ => id
 rw [nv, Run_bindO_some]
 cases hfp : fileP f.nm with
 | false =>
  have hb:=hbadF (hfok (by unfold Fl.ok; rw [hfp]; rfl))
  simp only [Bool.not_false, Run_bind, Run_guardM_tf, pickV_bool, cond_true, Run_bindO_some, Run_condM_true, Run_ret, outK_ret]
  exact ⟨by rw [hb], fw6⟩
 | true =>
 simp only [Bool.not_true, Run_bind, Run_guardM_ff, Run_ret, Run_optM_some, Run_rdM]
 refine ⟨_, d1 f6, ?_⟩
 rw [Run_in]
 by_cases s1 : 0 <= f.sz /\ f.sz <= 1073741824
 case neg =>
  have hb:=hbadF (hfok (by unfold Fl.ok; rw [decide_eq_false s1]; simp))
  rw [decide_eq_false s1]
  simp only [nv, Bool.not_false, Run_optM_some, Run_bind, Run_guardM_tf, pickV_bool, cond_false, cond_true, Run_bindO_some, Run_condM_true, Run_ret, outK_ret]
  exact ⟨by rw [hb], fw6⟩
 rw [decide_eq_true s1]
 simp only [nv, Bool.not_true, Run_optM_some, Run_bind, Run_guardM_ff, Run_ret, pickV_bool, cond_false, Run_bindO_some, Run_rdM]
 refine ⟨_, d2 f6, ?_⟩
 rw [Run_in]
 by_cases k1 : 0 <= f.crc /\ f.crc <= 4294967295
 case neg =>
  have hb:=hbadF (hfok (by unfold Fl.ok; rw [decide_eq_false k1]; simp))
  rw [decide_eq_false k1, nv]
  simp only [Bool.not_false, Run_optM_some, Run_bind, Run_guardM_tf, pickV_bool, cond_false, cond_true, Run_bindO_some, Run_condM_true, Run_ret, outK_ret]
  exact ⟨by rw [hb], fw6⟩
 rw [decide_eq_true k1, nv]
 simp only [Bool.not_true, Run_optM_some, pickV_bool, cond_false, Run_bindO_some, Run_bind, Run_guardM_ff, Run_ret, Run_rdM]
 refine ⟨_, d3 f6, ?_⟩
 by_cases m1 : f.md.length = 16
 case neg =>
  have m1' : ¬ ((f.md.length : Nat) : Int) = 16:=by omega
  have hb:=hbadF (hfok (by unfold Fl.ok; rw [decide_eq_false m1]; simp))
  simp only [lenS_string, sb_size, Run_optM_some, binV_int, intBin_neq, m1', decide_false, Bool.not_false, pickV_bool, cond_false, Run_bindO_some, Run_condM_true, Run_ret, outK_ret]
  exact ⟨by rw [hb], fw6⟩
 have m1' : ((f.md.length : Nat) : Int) = 16:=by omega
 have hfo : f.ok = true:=Fl.ok_iff.2 ⟨hfp, s1, k1, m1⟩
 simp only [lenS_string, sb_size, Run_optM_some, binV_int, intBin_neq, m1', decide_true, Bool.not_true, pickV_bool, cond_false, Run_bindO_some, Run_condM_false, Run_drewM]
 have f6d : Fr (λ _ => False) w5 w6.drew:=f6.drew
 have f26d : Fr (λ _ => False) w2 w6.drew:=f26.drew
 have fw6d:=f12.trans f26d λ _ _ => id
 have hx7:=f26d.bk_some hx2 id
 have hv7:=hv2.fr0 f26d
 generalize w6.drew = w7 at *
 have cont : okP (pv, f) = true -> ∀ {K : Out -> World -> Prop}, (∀ w', Fr (λ _ => False) w2 w' -> K (.norm [.int .i64 ((totF (m.fs.take (i + 1)) : Nat) : Int), .int .i64 ((whoF (m.fs.take (i + 1)) : Nat) : Int), .int .i64 ((i + 1 : Nat) : Int)]) w') -> Run (M.bind (rdM (ld1 (.pointer (some ⟨y, 0 + 1, none⟩)))) λ x83 =>
       bindO (binV BinOp.add (.int .i64 ((totF (m.fs.take i) : Nat) : Int)) x83) λ x84 =>
       M.bind (rdM (ld1 (.pointer (some ⟨y, 0 + 2, none⟩)))) λ x86 =>
       M.bind (rdM (ld1 (.pointer (some ⟨y, 0 + 1, none⟩)))) λ x88 =>
       M.bind (F.granaryref2_CRCJoin (.int .i64 ((whoF (m.fs.take i) : Nat) : Int)) x86 x88) λ x89 =>
       bindO (extV 0 x89) λ x90 =>
       bindO (extV 1 x89) λ _ =>
       bindO (binV BinOp.add (.int .i64 (i : Int)) (Value.int IntKind.i64 1)) λ x92 =>
       M.ret (Out.norm [x84, x90, x92])) w7 K:=λ hok {K} hK => by
  obtain ⟨z, hz⟩ : ∃ z : Nat, f.sz = z:=⟨f.sz.toNat, by omega⟩
  obtain ⟨c, hc⟩ : ∃ c : Nat, f.crc = c:=⟨f.crc.toNat, by omega⟩
  have e1:=totF_snoc hf
  have e2:=whoF_snoc hf
  rw [hz, Int.toNat_natCast] at e1 e2
  rw [hc, Int.toNat_natCast] at e2
  have wa : IntKind.i64.wrap (((totF (m.fs.take i) : Nat) : Int) + (z : Int)) = ((totF (m.fs.take (i + 1)) : Nat) : Int):=by
   rw [show ((totF (m.fs.take i) : Nat) : Int) + (z : Int) = ((totF (m.fs.take i) + z : Nat) : Int) by omega, <- e1]
   exact i64W (by omega)
  rw [Run_bind, Run_rdM]
  refine ⟨_, d1 f6d, ?_⟩
  rw [hz, binV_int, intBin_add, wa, Run_bindO_some, Run_bind, Run_rdM]
  refine ⟨_, d2 f6d, ?_⟩
  rw [Run_bind, Run_rdM]
  refine ⟨_, d1 f6d, ?_⟩
  rw [hz, hc, Run_bind]
  refine (rjoin_run (f26d.bk_some hpw2 id) hwl (by omega) (by omega)).mono ?_
  rintro _ w8 ⟨rfl, f8⟩
  rw [<- e2]
  rw [show extV 0 (.tuple #[.int .i64 ((whoF (m.fs.take (i + 1)) : Nat) : Int), .int .i64 0]) = some (.int .i64 ((whoF (m.fs.take (i + 1)) : Nat) : Int)) from rfl, show extV 1 (.tuple #[.int .i64 ((whoF (m.fs.take (i + 1)) : Nat) : Int), .int .i64 0]) = some (.int .i64 0) from rfl, Run_bindO_some, Run_bindO_some, binV_int, intBin_add, wrap_succ' (by omega), Run_bindO_some, Run_ret]
  exact hK _ (f26d.trans f8 λ _ _ => id)
 have fin : okP (pv, f) = true -> ∀ w', Fr (λ _ => False) w2 w' -> (∃ i' : Nat, [Value.int .i64 ((totF (m.fs.take (i + 1)) : Nat) : Int), .int .i64 ((whoF (m.fs.take (i + 1)) : Nat) : Int), .int .i64 ((i + 1 : Nat) : Int)] = [.int .i64 ((totF (m.fs.take i') : Nat) : Int), .int .i64 ((whoF (m.fs.take i') : Nat) : Int), .int .i64 (i' : Int)] /\ i' <= m.fs.length /\ ∀ j z, j < i' -> (prs none m.fs)[j]? = some z -> okP z = true) /\ Fr (λ _ => False) w2 w':=λ hok w' f' => by
  refine ⟨⟨i + 1, rfl, by omega, λ j z hj hz => ?_⟩, f'⟩
  rcases Nat.lt_or_ge j i with h | h
  ·exact hgood j z h hz
  ·have : j = i:=by omega
   subst this
   rw [hpz] at hz
   cases hz
   exact hok
 have meas : m.fs.length - (((i + 1 : Nat) : Int)).toNat < m.fs.length - ((i : Nat) : Int).toNat:=by omega
 rcases hpv with ⟨i0, rfl⟩ | ⟨g, hg0, hg, rfl⟩
 ·have hg : ¬ (i : Int) > 0:=by omega
  have hok : okP (none, f) = true:=by unfold okP; rw [hfo]; rfl
  simp only [binV_int, intBin_gtr, hg, decide_false, Run_bindO_some, Run_bind, Run_guardM_ft, pickV_bool, cond_false, Run_condM_false]
  exact Run_bind.1 (cont hok λ w' f' => ⟨fin hok w' f', meas⟩)
 ·have hg' : (i : Int) > 0:=by omega
  have wi : IntKind.i64.wrap ((i : Int) - 1) = ((i - 1 : Nat) : Int):=by rw [show (i : Int) - 1 = ((i - 1 : Nat) : Int) by omega]; exact i64W (by omega)
  obtain ⟨q', q3, q4⟩:=hv7.rdF (i:=i - 1) (e:=g.row) (by rw [List.getElem?_map, hg]; rfl) .i64
  obtain ⟨q5, q6, q7⟩:=q4 0 (by decide)
  have q3' : idxA 4 v (.int .i64 ((i - 1 : Nat) : Int)) = some q':=q3
  have q7' : ld1 q5 w7 = some (.string (sb g.nm)):=q7
  simp only [binV_int, intBin_gtr, hg', decide_true, Run_bindO_some, Run_bind, Run_guardM_tt, Run_ret, Run_optM_some, fieldA_ptr, Run_rdM]
  refine ⟨_, d0 f6d, _, c3 hx7, ?_⟩
  simp only [binV_int, intBin_sub, wi, Run_optM_some, q3', q6, Run_rdM]
  refine ⟨_, q7', ?_⟩
  rw [sbLeq, Run_optM_some]
  simp only [pickV_bool, cond_true, Run_bindO_some]
  cases hless : Op.bytesLess g.nm f.nm with
  | false =>
   have hb:=hbadF (show okP (some g.nm, f) = false by unfold okP; rw [hfo]; exact hless)
   simp only [Bool.not_false, Run_condM_true, Run_ret, outK_ret]
   exact ⟨by rw [hb], fw6d⟩
  | true =>
   have hok : okP (some g.nm, f) = true:=by unfold okP; rw [hfo]; exact hless
   simp only [Bool.not_true, Run_condM_false]
   exact cont hok λ w' f' => ⟨fin hok w' f', meas⟩
end
def MANI : List UInt8:=[103, 114, 97, 110, 97, 114, 121, 32, 109, 97, 110, 105, 102, 101, 115, 116, 32, 49]
def FILES : List UInt8:=[102, 105, 108, 101, 115]
def FILE : List UInt8:=[102, 105, 108, 101]
def TOTAL : List UInt8:=[116, 111, 116, 97, 108]
def WHOLE : List UInt8:=[119, 104, 111, 108, 101]
def rowL (f : Fl) : List UInt8:=FILE ++ [32] ++ f.nm ++ [32] ++ Lib.decDigits f.sz.toNat ++ [32] ++ eightL f.crc.toNat ++ [32] ++ hexL f.md
def rowsL (fs : List Fl) : List UInt8:=(fs.map λ f => rowL f ++ [10]).flatten
def manH (m : Mf) : List UInt8:=(MANI ++ [10]) ++ (STORE ++ [32] ++ m.st ++ [10]) ++ (VERSION ++ [32] ++ Lib.decDigits m.ver.toNat ++ [10]) ++ (NODE ++ [32] ++ Lib.decDigits m.node.toNat ++ [10]) ++ (FILES ++ [32] ++ Lib.decDigits m.fs.length ++ [10])
def manT (m : Mf) : List UInt8:=(TOTAL ++ [32] ++ Lib.decDigits m.tot.toNat ++ [10]) ++ (WHOLE ++ [32] ++ eightL m.who.toNat ++ [10])
def manL (m : Mf) : List UInt8:=manH m ++ rowsL m.fs ++ manT m
def manO (m : Mf) : Value:=if holdsF m = 0 then .tuple #[.string (sb (closeL (manL m))), .int .i64 0] else .tuple #[.string (sb []), .int .i64 (holdsF m)]
theorem holdsF_ok {m : Mf} (h : holdsF m = 0) : headOk m = true /\ filesOk m.fs = true /\ (totF m.fs : Int) = m.tot /\ (whoF m.fs : Int) = m.who:=by
 unfold holdsF at h
 split at h
 ·rename_i hc
  rw [Bool.and_eq_true] at hc
  split at h
  ·rename_i h2; exact ⟨hc.1, hc.2, h2.1, h2.2⟩
  ·cases h
 ·cases h
structure HeadOk (m : Mf) : Prop where
 st : storeP m.st = true
 ver : 1 <= m.ver /\ m.ver <= 999999
 node : 0 <= m.node /\ m.node <= 15
 n : m.fs.length <= 1025
 tot : 0 <= m.tot /\ m.tot <= 9007199254740992
 who : 0 <= m.who /\ m.who <= 4294967295
theorem headOk_all {m : Mf} (h : headOk m = true) : HeadOk m:=by
 unfold headOk at h
 simp only [Bool.and_eq_true, decide_eq_true_eq] at h
 exact ⟨h.1.1.1.1, h.1.1.1.2, h.1.1.2, h.1.2, h.2.1, h.2.2⟩
theorem row_len {f : Fl} (h : f.ok = true) : (rowL f).length <= 120:=by
 obtain ⟨h1, h2, h3, h4⟩:=Fl.ok_iff.1 h
 have a:=(fileP_mem h1).2.1
 have b:=dec_len (n:=f.sz.toNat) (by omega)
 have c : (eightL f.crc.toNat).length = 8:=lowD_len _ _
 have d:=hexL_len f.md
 have e : FILE.length = 4:=rfl
 simp only [rowL, List.length_append, List.length_singleton, c, d, e]
 omega
theorem rows_len : ∀ {fs : List Fl}, (∀ f ∈ fs, f.ok = true) -> (rowsL fs).length <= fs.length * 121
 | [], _ => by simp [rowsL]
 | f :: r, h => by
  have h1:=row_len (h f (by simp))
  have h2:=rows_len (fs:=r) λ g hg => h g (by simp [hg])
  simp only [rowsL, List.map_cons, List.flatten_cons, List.length_append, List.length_cons, List.length_nil] at h2 ⊢
  omega
theorem rowsL_snoc {fs : List Fl} {i : Nat} {f : Fl} (h : fs[i]? = some f) : rowsL (fs.take (i + 1)) = rowsL (fs.take i) ++ (rowL f ++ [10]):=by
 unfold rowsL
 rw [take_snocP h]
 simp
theorem manH_len {m : Mf} (h : HeadOk m) : (manH m).length <= 1000:=by
 have a:=(storeP_len h.st).2.1
 have b:=dec_len (n:=m.ver.toNat) (by have:=h.ver; omega)
 have c:=dec_len (n:=m.node.toNat) (by have:=h.node; omega)
 have d:=dec_len (n:=m.fs.length) (by have:=h.n; omega)
 simp [manH, MANI, STORE, VERSION, NODE, FILES]
 omega
theorem manT_len {m : Mf} (h : HeadOk m) : (manT m).length <= 1000:=by
 have b:=dec_len (n:=m.tot.toNat) (by have:=h.tot; omega)
 have c : (eightL m.who.toNat).length = 8:=lowD_len _ _
 simp [manT, TOTAL, WHOLE, c]
 omega
theorem man_len {m : Mf} (h : holdsF m = 0) : (manL m).length <= 200000:=by
 obtain ⟨h1, h2, _⟩:=holdsF_ok h
 have hh:=headOk_all h1
 have a:=manH_len hh
 have b:=manT_len hh
 have c:=rows_len (filesOk_at h2)
 have d:=hh.n
 simp only [manL, List.length_append]
 omega
section
variable {w w1 w2 : World}
theorem itoaI (ht : Tb w) {z : Int} (h0 : 0 <= z) (h1 : z < 9223372036854775808) : Run (F.strconv_Itoa (.int .i64 z)) w λ r w' => r = .string (sb (Lib.decDigits z.toNat)) /\ Fr (λ _ => False) w w':=itoa_int ht h0 h1
theorem hex8I (ht : Tb w) {z : Int} (h0 : 0 <= z) (h1 : z <= 4294967295) : Run (F.paper_hex8 (.int .i64 z)) w λ r w' => r = .string (sb (eightL z.toNat)) /\ Fr (λ _ => False) w w':=by
 obtain ⟨n, rfl⟩ : ∃ n : Nat, z = n:=⟨z.toNat, by omega⟩
 exact hex8_run ht.bits (by omega)
theorem eight_int {z : Int} (h0 : 0 <= z) (h1 : z <= 4294967295) : Run (F.granaryref4_eight (.int .i64 z)) w λ r w' => r = .string (sb (eightL z.toNat)) /\ Fr (λ _ => False) w w':=by
 obtain ⟨n, rfl⟩ : ∃ n : Nat, z = n:=⟨z.toNat, by omega⟩
 exact eight_run n (by omega)
theorem line2 {β : Type} {A : Nat -> Prop} {b : Nat} {l : List UInt8} (h : BG A w b l) {a c : List UInt8} (ha : a ≠ []) (hal : a.length <= 100000) (hcl : c.length <= 100000) (hl : l.length <= 536870912) {K : M β} {Q : β -> World -> Prop}
  (q : ∀ w', BG A w' b (l ++ (a ++ [32] ++ c ++ [10])) -> Fr (λ c => ¬ A c) w w' -> Run K w' Q) :
  Run (M.bind (bslM 9 2 (Builtin.zeroCells #[(Value.string ByteArray.empty)] 2) [(0, 1, .string (sb a)), (1, 1, .string (sb c))]) λ r => M.bind (F.paper_line (PtrB b) r) λ _ => K) w Q:=by
 rw [Run_bind]
 refine Run_bsl (k:=1) (vs:=[.string (sb a), .string (sb c)]) (by rfl) (by intro v hv; simp only [List.mem_cons, List.not_mem_nil, or_false] at hv; rcases hv with rfl | rfl <;> rfl) rfl (by kernel_rfl) λ r w2 hr f2 _ => ?_
 rw [Run_bind]
 refine (line_run (h.frm f2) (xs:=[a, c]) hr.1 (by rw [join_two]; simp [ha]) (by simp) (by rw [join_two]; simp only [List.length_append, List.length_singleton]; omega) (by simp only [List.map_cons, List.map_nil, List.sum_cons, List.sum_nil, sb_size]; omega) hl).mono ?_
 rintro _ w3 ⟨h3, f3⟩
 rw [join_two] at h3
 exact q w3 h3 ((f2.mono λ _ h => h.elim).trans f3 λ _ _ h => h)
theorem join_five (a b c d e : List UInt8) : joinL ([a, b, c, d, e].map sb) (sb [32]) = a ++ [32] ++ b ++ [32] ++ c ++ [32] ++ d ++ [32] ++ e:=by simp [joinL, sb]
theorem manprint_run (ht : Tb w) {m : Mf} {v : Value} (hv : Sl 4 w v (m.fs.map Fl.row)) (hm : m.Fit) : Run (F.paper_PrintManifest (.agg (mval m v).toArray)) w λ r w' => r = manO m /\ Fr (λ _ => False) w w':=by
 unfold F.paper_PrintManifest
 have hvl:=hv.lenL
 rw [List.length_map] at hvl
 rw [Run_bind]
 refine Run_new λ x w1 hx hxw f1 hxle => ?_
 have hxa : ldA 6 (.pointer (some ⟨x, 0, none⟩)) w1 = some (.agg (mval m v).toArray):=ldA_bk hx (Nat.le_refl _)
 replace hx : bk w1 x = some (mval m v):=hx
 rw [Run_bind, Run_rdM]
 refine ⟨_, hxa, ?_⟩
 rw [Run_bind]
 refine (holds_run (hv.fr0 f1) hm).mono ?_
 rintro _ w3 ⟨rfl, f3⟩
 have f13:=f1.trans f3 λ _ _ => id
 have e0 : ByteArray.mk #[] = sb []:=rfl
 by_cases hok : holdsF m = 0
 case neg =>
  have hn : (!decide (holdsF m = 0)) = true:=by rw [decide_eq_false hok]; rfl
  rw [binV_int, intBin_neq, hn, Run_bindO_some, Run_condM_true, Run_ret, manO, if_neg hok, e0]
  exact ⟨rfl, f13⟩
 have hn : (!decide (holdsF m = 0)) = false:=by rw [decide_eq_true hok]; rfl
 rw [binV_int, intBin_neq, hn, Run_bindO_some, Run_condM_false, manO, if_pos hok]
 obtain ⟨ho1, ho2, _, _⟩:=holdsF_ok hok
 have hh:=headOk_all ho1
 have hrows:=filesOk_at ho2
 have sl2:=(storeP_len hh.st).2.1
 have hlen:=man_len hok
 have hHl:=manH_len hh
 have hx3:=f3.bk_some hx id
 have lx:=bk_lt hx3
 have low:=tb_low (ht.fr0 f13)
 have t3:=ht.fr0 f13
 have v3:=hv.fr0 f13
 have eL : ByteArray.mk #[103, 114, 97, 110, 97, 114, 121, 32, 109, 97, 110, 105, 102, 101, 115, 116, 32, 49] = sb MANI:=rfl
 have eS : ByteArray.mk #[115, 116, 111, 114, 101] = sb STORE:=rfl
 have eV : ByteArray.mk #[118, 101, 114, 115, 105, 111, 110] = sb VERSION:=rfl
 have eN : ByteArray.mk #[110, 111, 100, 101] = sb NODE:=rfl
 have eF : ByteArray.mk #[102, 105, 108, 101, 115] = sb FILES:=rfl
 have eR : ByteArray.mk #[102, 105, 108, 101] = sb FILE:=rfl
 have eT : ByteArray.mk #[116, 111, 116, 97, 108] = sb TOTAL:=rfl
 have eW : ByteArray.mk #[119, 104, 111, 108, 101] = sb WHOLE:=rfl
 rw [eL, eS, eV, eN, eF, eR, eT, eW]
 have z0 : buildV #[(Value.pointer none), (Value.slice none 0 0)] [] = some (.agg #[(Value.pointer none), (Value.slice none 0 0)]):=rfl
 have c0 : ∀ {u : World}, bk u x = some (mval m v) -> ld1 (.pointer (some ⟨x, 0 + 0, none⟩)) u = some (.string (sb m.st)):=λ h => by rw [ld1_ptr, h]; rfl
 have c1 : ∀ {u : World}, bk u x = some (mval m v) -> ld1 (.pointer (some ⟨x, 0 + 1, none⟩)) u = some (.int .i64 m.ver):=λ h => by rw [ld1_ptr, h]; rfl
 have c2 : ∀ {u : World}, bk u x = some (mval m v) -> ld1 (.pointer (some ⟨x, 0 + 2, none⟩)) u = some (.int .i64 m.node):=λ h => by rw [ld1_ptr, h]; rfl
 have c3 : ∀ {u : World}, bk u x = some (mval m v) -> ld1 (.pointer (some ⟨x, 0 + 3, none⟩)) u = some v:=λ h => by rw [ld1_ptr, h]; rfl
 have c4 : ∀ {u : World}, bk u x = some (mval m v) -> ld1 (.pointer (some ⟨x, 0 + 4, none⟩)) u = some (.int .i64 m.tot):=λ h => by rw [ld1_ptr, h]; rfl
 have c5 : ∀ {u : World}, bk u x = some (mval m v) -> ld1 (.pointer (some ⟨x, 0 + 5, none⟩)) u = some (.int .i64 m.who):=λ h => by rw [ld1_ptr, h]; rfl
 rw [z0, Run_bindO_some, Run_bind]
 refine bgNew λ b w4 hB f4 => ?_
 have keepX : ∀ {u : World}, Fr (λ c => ¬ c < w3.heap.size) w3 u -> bk u x = some (mval m v):=λ f => f.bk_some hx3 λ hn => hn lx
 have keepT : ∀ {u : World}, Fr (λ c => ¬ c < w3.heap.size) w3 u -> Tb u:=λ f => t3.fr f λ c hc hn => hn (by omega)
 have keepV : 0 < m.fs.length -> ∀ {u : World}, Fr (λ c => ¬ c < w3.heap.size) w3 u -> Sl 4 u v (m.fs.map Fl.row):=λ h0 {u} f => v3.fr f λ c hc hn => hn (v3.lt (by rw [List.length_map]; exact h0) hc)
 rw [Run_bind]
 refine Run_bsl (k:=1) (vs:=[.string (sb MANI)]) (by rfl) (by intro v hv; simp only [List.mem_singleton] at hv; subst hv; rfl) rfl (by kernel_rfl) λ r w5 hr f5 _ => ?_
 rw [Run_bind]
 refine (line_run (hB.frm f5) (xs:=[MANI]) hr.1 (by rw [join_one]; decide) (by decide) (by rw [join_one]; decide) (by simp [sb_size]; decide) (by decide)).mono ?_
 rintro _ w6 ⟨hB6, f6⟩
 rw [join_one, List.nil_append] at hB6
 have f36 : Fr (λ c => ¬ c < w3.heap.size) w3 w6:=((f4.trans f5 λ _ _ => id).mono λ _ h => h.elim).trans f6 λ _ _ hc => hc
 simp only [fieldA_ptr]
 rw [Run_bindO_some, Run_bind, Run_rdM]
 refine ⟨_, c0 (keepX f36), ?_⟩
 refine line2 hB6 (by decide) (by decide) (by omega) (by decide) λ w7 hB7 f7 => ?_
 have f37:=f36.trans f7 λ _ _ h => h
 have k7 : ((MANI ++ [10]) ++ (STORE ++ [32] ++ m.st ++ [10])).length <= (manH m).length:=by simp only [manH, List.length_append]; omega
 rw [Run_bindO_some, Run_bind, Run_rdM]
 refine ⟨_, c1 (keepX f37), ?_⟩
 rw [Run_bind]
 refine (itoaI (keepT f37) (by have:=hh.ver; omega) (by have:=hh.ver; omega)).mono ?_
 rintro _ w8 ⟨rfl, f8⟩
 have f38:=f37.trans f8 λ _ _ h => h.elim
 have dv:=dec_len (n:=m.ver.toNat) (by have:=hh.ver; omega)
 refine line2 (hB7.frm f8) (by decide) (by decide) (by omega) (by omega) λ w9 hB9 f9 => ?_
 have f39:=f38.trans f9 λ _ _ h => h
 have k9 : ((MANI ++ [10]) ++ (STORE ++ [32] ++ m.st ++ [10]) ++ (VERSION ++ [32] ++ Lib.decDigits m.ver.toNat ++ [10])).length <= (manH m).length:=by simp only [manH, List.length_append]; omega
 rw [Run_bindO_some, Run_bind, Run_rdM]
 refine ⟨_, c2 (keepX f39), ?_⟩
 rw [Run_bind]
 refine (itoaI (keepT f39) (by have:=hh.node; omega) (by have:=hh.node; omega)).mono ?_
 rintro _ wa ⟨rfl, fa⟩
 have f3a:=f39.trans fa λ _ _ h => h.elim
 have dn:=dec_len (n:=m.node.toNat) (by have:=hh.node; omega)
 refine line2 (hB9.frm fa) (by decide) (by decide) (by omega) (by omega) λ wb hBb fb => ?_
 have f3b:=f3a.trans fb λ _ _ h => h
 have kb : ((MANI ++ [10]) ++ (STORE ++ [32] ++ m.st ++ [10]) ++ (VERSION ++ [32] ++ Lib.decDigits m.ver.toNat ++ [10]) ++ (NODE ++ [32] ++ Lib.decDigits m.node.toNat ++ [10])).length <= (manH m).length:=by simp only [manH, List.length_append]; omega
 rw [Run_bindO_some, Run_bind, Run_rdM]
 refine ⟨_, c3 (keepX f3b), ?_⟩
 rw [hvl, Run_bindO_some, Run_bind]
 refine (itoaI (keepT f3b) (by omega) (by have:=hh.n; omega)).mono ?_
 rintro _ wc ⟨rfl, fc⟩
 rw [Int.toNat_natCast]
 have f3c:=f3b.trans fc λ _ _ h => h.elim
 have df:=dec_len (n:=m.fs.length) (by have:=hh.n; omega)
 refine line2 (hBb.frm fc) (by decide) (by decide) (by omega) (by omega) λ wd hBd fd => ?_
 have f3d:=f3c.trans fd λ _ _ h => h
 have eH : (MANI ++ [10]) ++ (STORE ++ [32] ++ m.st ++ [10]) ++ (VERSION ++ [32] ++ Lib.decDigits m.ver.toNat ++ [10]) ++ (NODE ++ [32] ++ Lib.decDigits m.node.toNat ++ [10]) ++ (FILES ++ [32] ++ Lib.decDigits m.fs.length ++ [10]) = manH m:=rfl
 rw [eH] at hBd
 rw [Run_bindO_some, Run_bind, Run_rdM]
 refine ⟨_, c3 (keepX f3d), ?_⟩
 rw [hvl, Run_bindO_some, Run_bind]
 have rl : ∀ i, (rowsL (m.fs.take i)).length <= 1025 * 121:=λ i => by
  have h1:=rows_len (fs:=m.fs.take i) λ f hf => hrows f (List.mem_of_mem_take hf)
  have h2 : (m.fs.take i).length <= m.fs.length:=List.length_take_le' i m.fs
  have h3:=hh.n
  have h4 : (m.fs.take i).length * 121 <= 1025 * 121:=Nat.mul_le_mul_right _ (by omega)
  omega
 refine Run_for m.fs.length (λ i L w' => L = [.int .i64 (i : Int)] /\ BG (λ c => c < w3.heap.size) w' b (manH m ++ rowsL (m.fs.take i)) /\ Fr (λ c => ¬ c < w3.heap.size) w3 w') ⟨rfl, by simpa [rowsL] using hBd, f3d⟩ ?_ ?_
 ·rintro i L we hi ⟨rfl, hBe, f3e⟩
  obtain ⟨f, hf⟩ : ∃ f, m.fs[i]? = some f:=⟨_, List.getElem?_eq_getElem hi⟩
  have hfm:=List.mem_of_getElem? hf
  have hfo:=hrows f hfm
  obtain ⟨o1, o2, o3, o4⟩:=Fl.ok_iff.1 hfo
  have onl:=(fileP_mem o1).2.1
  have hil : (i : Int) < m.fs.length:=by omega
  have ve:=keepV (by omega) f3e
  obtain ⟨q, q1, q2⟩:=ve.rdA (by decide) (i:=i) (e:=f.row) (by simp [hf]) .i64
  have q1' : idxA 4 v (.int .i64 (i : Int)) = some q:=q1
  rw [getL_zero, lssT hil, Run_bindO_some, Run_condM_true, q1', Run_bindO_some, Run_bind, Run_rdM]
  refine ⟨_, q2, ?_⟩
  rw [Run_bind]
  refine Run_new λ y wf hy hyw ff hyle => ?_
  rw [Run_bind, Run_stA (n:=4) ⟨⟨⟨_, hy, by simp⟩, hyw⟩, rfl, f.row_cell⟩]
  have hyb:=bk_sto_same (o:=0) hy f.row
  have ey : setL #[Value.string ByteArray.empty, Value.int IntKind.i64 0, Value.int IntKind.i64 0, Value.string ByteArray.empty].toList 0 f.row = f.row:=rfl
  rw [ey] at hyb
  rw [show f.row.toArray.toList = f.row from rfl, Run_drewM]
  have feg : Fr (λ _ => False) we (sto wf y 0 f.row).drew:=(ff.sto (.inr hyle) _ _).drew
  have hyd : bk (sto wf y 0 f.row).drew y = some f.row:=hyb
  generalize (sto wf y 0 f.row).drew = wg at *
  have d0 : ∀ {u : World}, Fr (λ _ => False) wg u -> ld1 (.pointer (some ⟨y, 0 + 0, none⟩)) u = some (.string (sb f.nm)):=λ h => by rw [ld1_ptr, h.bk_some hyd id]; rfl
  have d1 : ∀ {u : World}, Fr (λ _ => False) wg u -> ld1 (.pointer (some ⟨y, 0 + 1, none⟩)) u = some (.int .i64 f.sz):=λ h => by rw [ld1_ptr, h.bk_some hyd id]; rfl
  have d2 : ∀ {u : World}, Fr (λ _ => False) wg u -> ld1 (.pointer (some ⟨y, 0 + 2, none⟩)) u = some (.int .i64 f.crc):=λ h => by rw [ld1_ptr, h.bk_some hyd id]; rfl
  have d3 : ∀ {u : World}, Fr (λ _ => False) wg u -> ld1 (.pointer (some ⟨y, 0 + 3, none⟩)) u = some (.string (sb f.md)):=λ h => by rw [ld1_ptr, h.bk_some hyd id]; rfl
  have f3g:=f3e.trans feg λ _ _ h => h.elim
  simp only [fieldA_ptr]
  rw [Run_getM, Run_bindO_some, Run_bind, Run_rdM]
  refine ⟨_, d0 (Fr.refl _ _), ?_⟩
  rw [Run_bindO_some, Run_bind, Run_rdM]
  refine ⟨_, d1 (Fr.refl _ _), ?_⟩
  rw [Run_bind]
  refine (itoaI (keepT f3g) (by omega) (by omega)).mono ?_
  rintro _ wh ⟨rfl, fh⟩
  rw [Run_getM, Run_bindO_some, Run_bind, Run_rdM]
  refine ⟨_, d2 fh, ?_⟩
  have f3h:=f3g.trans fh λ _ _ h => h.elim
  rw [Run_bind]
  refine (hex8I (keepT f3h) o3.1 o3.2).mono ?_
  rintro _ wi ⟨rfl, fi⟩
  have fgi:=fh.trans fi λ _ _ => id
  rw [Run_getM, Run_bindO_some, Run_bind, Run_rdM]
  refine ⟨_, d3 fgi, ?_⟩
  rw [Run_bind]
  refine (hex_run (s:=f.md) (by omega)).mono ?_
  rintro _ wj ⟨rfl, fj⟩
  have fgj:=fgi.trans fj λ _ _ => id
  rw [Run_getM, Run_bind]
  refine Run_bsl (k:=1) (vs:=[.string (sb FILE), .string (sb f.nm), .string (sb (Lib.decDigits f.sz.toNat)), .string (sb (eightL f.crc.toNat)), .string (sb (hexL f.md))]) (by rfl) (by intro v hv; simp only [List.mem_cons, List.not_mem_nil, or_false] at hv; rcases hv with rfl | rfl | rfl | rfl | rfl <;> rfl) rfl (by kernel_rfl) λ r wk hr fk _ => ?_
  have fek:=(feg.trans fgj λ _ _ => id).trans fk λ _ _ => id
  have e8 : (eightL f.crc.toNat).length = 8:=lowD_len _ _
  have ds:=dec_len (n:=f.sz.toNat) (by omega)
  have hhx:=hexL_len f.md
  have hFl : FILE.length = 4:=rfl
  have hrl:=row_len hfo
  have hj : joinL ([FILE, f.nm, Lib.decDigits f.sz.toNat, eightL f.crc.toNat, hexL f.md].map sb) (sb [32]) = rowL f:=join_five _ _ _ _ _
  rw [Run_getM, Run_bind]
  have hrli:=rl i
  refine (line_run (hBe.frm fek) (xs:=[FILE, f.nm, Lib.decDigits f.sz.toNat, eightL f.crc.toNat, hexL f.md]) hr.1 (by rw [hj]; simp [rowL, FILE]) (by simp) (by rw [hj]; omega) (by simp only [List.map_cons, List.map_nil, List.sum_cons, List.sum_nil, sb_size]; omega) (by rw [List.length_append]; omega)).mono ?_
  rintro _ wl ⟨hBl, fl⟩
  rw [hj] at hBl
  rw [Run_getM, Run_reqM, Run_reqM, Run_reqM, Run_reqM, Run_reqM, Run_reqM]
  refine ⟨d0 fh, d0 fgi, d0 fgj, d2 (Fr.refl _ _), d3 (Fr.refl _ _), d3 fh, ?_⟩
  rw [binV_int, intBin_add, wrap_succ' (by have:=hh.n; omega), Run_bindO_some, Run_ret, rowsL_snoc hf]
  refine ⟨rfl, ?_, (f3e.trans fek λ _ _ h => h.elim).trans fl λ _ _ h => h⟩
  rw [List.append_assoc] at hBl
  exact hBl
 ·rintro L we ⟨rfl, hBe, f3e⟩
  rw [List.take_length] at hBe
  have hil : ¬ ((m.fs.length : Nat) : Int) < m.fs.length:=by omega
  have hrl:=rl m.fs.length
  rw [List.take_length] at hrl
  rw [getL_zero, lssF hil, Run_bindO_some, Run_condM_false, Run_ret]
  simp only [outK_exit]
  rw [show Nat.beq 0 0 = true from rfl, cond_true, Run_bindO_some, Run_bind, Run_rdM]
  refine ⟨_, c4 (keepX f3e), ?_⟩
  rw [Run_bind]
  refine (itoaI (keepT f3e) (by have:=hh.tot; omega) (by have:=hh.tot; omega)).mono ?_
  rintro _ wf ⟨rfl, ff⟩
  have f3f:=f3e.trans ff λ _ _ h => h.elim
  have dt:=dec_len (n:=m.tot.toNat) (by have:=hh.tot; omega)
  refine line2 (hBe.frm ff) (by decide) (by decide) (by omega) (by rw [List.length_append]; omega) λ wg hBg fg => ?_
  have f3g:=f3f.trans fg λ _ _ h => h
  rw [Run_bindO_some, Run_bind, Run_rdM]
  refine ⟨_, c5 (keepX f3g), ?_⟩
  rw [Run_bind]
  refine (hex8I (keepT f3g) (by have:=hh.who; omega) (by have:=hh.who; omega)).mono ?_
  rintro _ wh ⟨rfl, fh⟩
  have f3h:=f3g.trans fh λ _ _ h => h.elim
  have e8 : (eightL m.who.toNat).length = 8:=lowD_len _ _
  have hTl : TOTAL.length = 5:=rfl
  refine line2 (hBg.frm fh) (by decide) (by decide) (by omega) (by simp only [List.length_append, List.length_singleton]; omega) λ wi hBi fi => ?_
  have f3i:=f3h.trans fi λ _ _ h => h
  have eM : manH m ++ rowsL m.fs ++ (TOTAL ++ [32] ++ Lib.decDigits m.tot.toNat ++ [10]) ++ (WHOLE ++ [32] ++ eightL m.who.toNat ++ [10]) = manL m:=by
   unfold manL manT
   rw [List.append_assoc (manH m ++ rowsL m.fs)]
  rw [eM] at hBi
  rw [Run_bind]
  refine (closed_run (keepT f3i) hBi (by simp [manL, manH, MANI]) (by omega) (λ c hc => by omega)).mono ?_
  rintro _ wj ⟨rfl, fj⟩
  rw [Run_ret]
  refine ⟨rfl, f13.trans (f3i.trans fj λ _ _ h => h) λ c hc hn => hn ?_⟩
  have:=f13.size
  omega
end
end Go.Proofs.YthlpfhjcdedhgaaGreatDoor
namespace Go.Proofs.YthlpfhjcdedhgaaGreatDoor
open Go.Lift Go.Sort
set_option linter.unusedSimpArgs false
set_option linter.unusedVariables false
set_option maxHeartbeats 4000000
def N0 : List UInt8:=[103, 114, 97, 110, 97, 114, 121, 32, 109, 97, 110, 105, 102, 101, 115, 116, 32, 49, 10, 115, 116, 111, 114, 101, 32]
def N1 : List UInt8:=[10, 118, 101, 114, 115, 105, 111, 110, 32]
def N2 : List UInt8:=[10, 110, 111, 100, 101, 32]
def N3 : List UInt8:=[10, 102, 105, 108, 101, 115, 32]
def R0 : List UInt8:=[102, 105, 108, 101, 32]
def Z0 : List UInt8:=[116, 111, 116, 97, 108, 32]
def Z1 : List UInt8:=[10, 119, 104, 111, 108, 101, 32]
theorem manH_parts (m : Mf) : manH m = N0 ++ m.st ++ N1 ++ Lib.decDigits m.ver.toNat ++ N2 ++ Lib.decDigits m.node.toNat ++ N3 ++ Lib.decDigits m.fs.length ++ [10]:=by
 simp [manH, MANI, STORE, VERSION, NODE, FILES, N0, N1, N2, N3]
theorem rowL_parts (f : Fl) : rowL f ++ [10] = R0 ++ f.nm ++ [32] ++ Lib.decDigits f.sz.toNat ++ [32] ++ eightL f.crc.toNat ++ [32] ++ hexL f.md ++ [10]:=by
 simp [rowL, FILE, R0]
theorem manT_parts (m : Mf) : manT m = Z0 ++ Lib.decDigits m.tot.toNat ++ Z1 ++ eightL m.who.toNat ++ [10]:=by
 simp [manT, TOTAL, WHOLE, Z0, Z1]
section
variable {w w1 w2 : World}
theorem rmanprint_run (ht : Tb w) (hpw : bk w 0 = some powV) {m : Mf} {v : Value} (hv : Sl 4 w v (m.fs.map Fl.row)) (hm : m.Fit) : Run (F.granaryref4_PrintManifest (.agg (mval m v).toArray)) w λ r w' => r = manO m /\ Fr (λ _ => False) w w':=by
 unfold F.granaryref4_PrintManifest
 have hvl:=hv.lenL
 rw [List.length_map] at hvl
 rw [Run_bind]
 refine Run_new λ x w1 hx hxw f1 hxle => ?_
 have hxa : ldA 6 (.pointer (some ⟨x, 0, none⟩)) w1 = some (.agg (mval m v).toArray):=ldA_bk hx (Nat.le_refl _)
 replace hx : bk w1 x = some (mval m v):=hx
 rw [Run_bind, Run_rdM]
 refine ⟨_, hxa, ?_⟩
 rw [Run_bind]
 refine (rholds_run (f1.bk_some hpw id) (hv.fr0 f1) hm).mono ?_
 rintro _ u0 ⟨rfl, f2⟩
 have f0:=f1.trans f2 λ _ _ => id
 have e0 : ByteArray.mk #[] = sb []:=rfl
 by_cases hok : holdsF m = 0
 case neg =>
  have hn : (!decide (holdsF m = 0)) = true:=by rw [decide_eq_false hok]; rfl
  rw [binV_int, intBin_neq, hn, Run_bindO_some, Run_condM_true, Run_ret, manO, if_neg hok, e0]
  exact ⟨rfl, f0⟩
 have hn : (!decide (holdsF m = 0)) = false:=by rw [decide_eq_true hok]; rfl
 rw [binV_int, intBin_neq, hn, Run_bindO_some, Run_condM_false, manO, if_pos hok]
 obtain ⟨ho1, ho2, _, _⟩:=holdsF_ok hok
 have hh:=headOk_all ho1
 have hrows:=filesOk_at ho2
 have hst:=(storeP_len hh.st).2.1
 have hlen:=man_len hok
 have hHl:=manH_len hh
 obtain ⟨hsp, hver, hnode, hn1025, htot, hwho⟩:=hh
 have hx0:=f2.bk_some hx id
 have t0:=ht.fr0 f0
 have lver:=dec_len (n:=m.ver.toNat) (by omega)
 have lnode:=dec_len (n:=m.node.toNat) (by omega)
 have ln:=dec_len (n:=m.fs.length) (by omega)
 have ln' : (Lib.decDigits ((m.fs.length : Int)).toNat).length <= 20:=by rw [Int.toNat_natCast]; exact ln
 have ltot:=dec_len (n:=m.tot.toNat) (by omega)
 have lwho : (eightL m.who.toNat).length = 8:=lowD_len _ _
 have qN0 : N0.length = 25:=rfl
 have qN1 : N1.length = 9:=rfl
 have qN2 : N2.length = 6:=rfl
 have qN3 : N3.length = 7:=rfl
 have qR0 : R0.length = 5:=rfl
 have qZ0 : Z0.length = 6:=rfl
 have qZ1 : Z1.length = 7:=rfl
 have eN0 : ByteArray.mk #[103, 114, 97, 110, 97, 114, 121, 32, 109, 97, 110, 105, 102, 101, 115, 116, 32, 49, 10, 115, 116, 111, 114, 101, 32] = sb N0:=rfl
 have eN1 : ByteArray.mk #[10, 118, 101, 114, 115, 105, 111, 110, 32] = sb N1:=rfl
 have eN2 : ByteArray.mk #[10, 110, 111, 100, 101, 32] = sb N2:=rfl
 have eN3 : ByteArray.mk #[10, 102, 105, 108, 101, 115, 32] = sb N3:=rfl
 have eR0 : ByteArray.mk #[102, 105, 108, 101, 32] = sb R0:=rfl
 have eZ0 : ByteArray.mk #[116, 111, 116, 97, 108, 32] = sb Z0:=rfl
 have eZ1 : ByteArray.mk #[10, 119, 104, 111, 108, 101, 32] = sb Z1:=rfl
 have e10 : ByteArray.mk #[10] = sb [10]:=rfl
 have e32 : ByteArray.mk #[32] = sb [32]:=rfl
 have lc0 : ∀ {u : World}, bk u x = some (mval m v) -> ld1 (.pointer (some ⟨x, 0 + 0, none⟩)) u = some (.string (sb m.st)):=λ h => by rw [ld1_ptr, h]; rfl
 have lc1 : ∀ {u : World}, bk u x = some (mval m v) -> ld1 (.pointer (some ⟨x, 0 + 1, none⟩)) u = some (.int .i64 m.ver):=λ h => by rw [ld1_ptr, h]; rfl
 have lc2 : ∀ {u : World}, bk u x = some (mval m v) -> ld1 (.pointer (some ⟨x, 0 + 2, none⟩)) u = some (.int .i64 m.node):=λ h => by rw [ld1_ptr, h]; rfl
 have lc3 : ∀ {u : World}, bk u x = some (mval m v) -> ld1 (.pointer (some ⟨x, 0 + 3, none⟩)) u = some (v):=λ h => by rw [ld1_ptr, h]; rfl
 have lc4 : ∀ {u : World}, bk u x = some (mval m v) -> ld1 (.pointer (some ⟨x, 0 + 4, none⟩)) u = some (.int .i64 m.tot):=λ h => by rw [ld1_ptr, h]; rfl
 have lc5 : ∀ {u : World}, bk u x = some (mval m v) -> ld1 (.pointer (some ⟨x, 0 + 5, none⟩)) u = some (.int .i64 m.who):=λ h => by rw [ld1_ptr, h]; rfl
 rw [eN0, eN1, eN2, eN3, eR0, eZ0, eZ1, e10, e32]
 rw [Run_drewM]
 have hx1 : bk u0.drew _ = some _:=hx0
 have t1:=t0.fr0 (show Fr (λ _ => False) u0 u0.drew from (Fr.refl _ _).drew)
 have f1:=f0.drew
 generalize u0.drew = u1 at *
 rw [Run_getM]
 first | rw [fieldA_ptr, Run_bindO_some] | rw [Run_bindO_some]
 rw [Run_bind, Run_rdM]
 refine ⟨_, lc0 hx1, ?_⟩
 rw [sbAdd (a:=N0) (c:=m.st) (by first | omega | (simp only [List.length_append, List.length_singleton]; omega)), Run_bindO_some]
 rw [sbAdd (a:=N0 ++ m.st) (c:=N1) (by first | omega | (simp only [List.length_append, List.length_singleton]; omega)), Run_bindO_some]
 first | rw [fieldA_ptr, Run_bindO_some] | rw [Run_bindO_some]
 rw [Run_bind, Run_rdM]
 refine ⟨_, lc1 hx1, ?_⟩
 rw [Run_bind]
 refine (itoa_int t1 (by omega) (by omega)).mono ?_
 rintro _ u2 ⟨rfl, g2⟩
 have hx2:=g2.bk_some hx1 id
 have t2:=t1.fr0 g2
 have f2:=f1.trans g2 λ _ _ => id
 rw [Run_getM]
 rw [sbAdd (a:=N0 ++ m.st ++ N1) (c:=Lib.decDigits (m.ver).toNat) (by first | omega | (simp only [List.length_append, List.length_singleton]; omega)), Run_bindO_some]
 rw [sbAdd (a:=N0 ++ m.st ++ N1 ++ Lib.decDigits (m.ver).toNat) (c:=N2) (by first | omega | (simp only [List.length_append, List.length_singleton]; omega)), Run_bindO_some]
 first | rw [fieldA_ptr, Run_bindO_some] | rw [Run_bindO_some]
 rw [Run_bind, Run_rdM]
 refine ⟨_, lc2 hx2, ?_⟩
 rw [Run_bind]
 refine (itoa_int t2 (by omega) (by omega)).mono ?_
 rintro _ u3 ⟨rfl, g3⟩
 have hx3:=g3.bk_some hx2 id
 have t3:=t2.fr0 g3
 have f3:=f2.trans g3 λ _ _ => id
 rw [Run_getM]
 rw [sbAdd (a:=N0 ++ m.st ++ N1 ++ Lib.decDigits (m.ver).toNat ++ N2) (c:=Lib.decDigits (m.node).toNat) (by first | omega | (simp only [List.length_append, List.length_singleton]; omega)), Run_bindO_some]
 rw [Run_reqM]
 refine ⟨lc0 hx2, ?_⟩
 rw [Run_reqM]
 refine ⟨lc0 hx3, ?_⟩
 rw [Run_reqM]
 refine ⟨lc2 hx1, ?_⟩
 rw [sbAdd (a:=N0 ++ m.st ++ N1 ++ Lib.decDigits (m.ver).toNat ++ N2 ++ Lib.decDigits (m.node).toNat) (c:=N3) (by first | omega | (simp only [List.length_append, List.length_singleton]; omega)), Run_bindO_some]
 first | rw [fieldA_ptr, Run_bindO_some] | rw [Run_bindO_some]
 rw [Run_bind, Run_rdM]
 refine ⟨_, lc3 hx3, ?_⟩
 rw [hvl, Run_bindO_some]
 rw [Run_bind]
 refine (itoa_int t3 (by omega) (by omega)).mono ?_
 rintro _ u4 ⟨rfl, g4⟩
 have hx4:=g4.bk_some hx3 id
 have t4:=t3.fr0 g4
 have f4:=f3.trans g4 λ _ _ => id
 rw [sbAdd (a:=N0 ++ m.st ++ N1 ++ Lib.decDigits (m.ver).toNat ++ N2 ++ Lib.decDigits (m.node).toNat ++ N3) (c:=Lib.decDigits ((m.fs.length : Int)).toNat) (by first | omega | (simp only [List.length_append, List.length_singleton]; omega)), Run_bindO_some]
 rw [sbAdd (a:=N0 ++ m.st ++ N1 ++ Lib.decDigits (m.ver).toNat ++ N2 ++ Lib.decDigits (m.node).toNat ++ N3 ++ Lib.decDigits ((m.fs.length : Int)).toNat) (c:=[10]) (by first | omega | (simp only [List.length_append, List.length_singleton]; omega)), Run_bindO_some]
 rw [Run_bind]
 have eH : N0 ++ m.st ++ N1 ++ Lib.decDigits m.ver.toNat ++ N2 ++ Lib.decDigits m.node.toNat ++ N3 ++ Lib.decDigits ((m.fs.length : Int)).toNat ++ [10] = manH m:=by rw [manH_parts, Int.toNat_natCast]
 rw [eH]
 have rl : ∀ i, (rowsL (m.fs.take i)).length <= 1025 * 121:=λ i => by
  have h1:=rows_len (fs:=m.fs.take i) λ f hf => hrows f (List.mem_of_mem_take hf)
  have h2 : (m.fs.take i).length <= m.fs.length:=List.length_take_le' i m.fs
  have h4 : (m.fs.take i).length * 121 <= 1025 * 121:=Nat.mul_le_mul_right _ (by omega)
  omega
 have hvU:=hv.fr0 f4
 refine Run_for m.fs.length (λ i L w' => L = [.string (sb (manH m ++ rowsL (m.fs.take i))), .int .i64 (i : Int)] /\ Fr (λ _ => False) u4 w') ⟨by simp [rowsL], Fr.refl _ _⟩ ?_ ?_
 ·rintro i L we hi ⟨rfl, fe⟩
  obtain ⟨f, hf⟩ : ∃ f, m.fs[i]? = some f:=⟨_, List.getElem?_eq_getElem hi⟩
  have hfm:=List.mem_of_getElem? hf
  have hfo:=hrows f hfm
  obtain ⟨o1, o2, o3, o4⟩:=Fl.ok_iff.1 hfo
  have onl:=(fileP_mem o1).2.1
  have hil : (i : Int) < m.fs.length:=by omega
  obtain ⟨q, q1, q2⟩:=(hvU.fr0 fe).rdA (by decide) (i:=i) (e:=f.row) (by simp [hf]) .i64
  have q1' : idxA 4 v (.int .i64 (i : Int)) = some q:=q1
  have hxe:=fe.bk_some hx4 id
  simp only [getL_zero, getL_succ]
  first | rw [fieldA_ptr, Run_bindO_some] | rw [Run_bindO_some]
  rw [Run_bind, Run_rdM]
  refine ⟨_, lc3 hxe, ?_⟩
  rw [hvl, Run_bindO_some, lssT hil, Run_bindO_some, Run_condM_true]
  first | rw [fieldA_ptr, Run_bindO_some] | rw [Run_bindO_some]
  rw [Run_bind, Run_rdM]
  refine ⟨_, lc3 hxe, ?_⟩
  rw [q1', Run_bindO_some, Run_bind, Run_rdM]
  refine ⟨_, q2, ?_⟩
  rw [Run_bind]
  refine Run_new λ y wf hy hyw ff hyle => ?_
  rw [Run_bind, Run_stA (n:=4) ⟨⟨⟨_, hy, by simp⟩, hyw⟩, rfl, f.row_cell⟩]
  have hyb:=bk_sto_same (o:=0) hy f.row
  have ey : setL #[Value.string ByteArray.empty, Value.int IntKind.i64 0, Value.int IntKind.i64 0, Value.string ByteArray.empty].toList 0 f.row = f.row:=rfl
  rw [ey] at hyb
  rw [show f.row.toArray.toList = f.row from rfl]
  have g0 : Fr (λ _ => False) we (sto wf y 0 f.row):=ff.sto (.inr hyle) _ _
  generalize hu : sto wf y 0 f.row = r0 at *
  have s0:=(t4.fr0 fe).fr0 g0
  have lsz:=dec_len (n:=f.sz.toNat) (by omega)
  have lcrc : (eightL f.crc.toNat).length = 8:=lowD_len _ _
  have lmd:=hexL_len f.md
  have hri:=rl i
  have hri2 : (manH m ++ rowsL (m.fs.take i)).length <= 1000 + 1025 * 121:=by rw [List.length_append]; omega
  have lr0 : ∀ {u : World}, bk u y = some f.row -> ld1 (.pointer (some ⟨y, 0 + 0, none⟩)) u = some (.string (sb f.nm)):=λ h => by rw [ld1_ptr, h]; rfl
  have lr1 : ∀ {u : World}, bk u y = some f.row -> ld1 (.pointer (some ⟨y, 0 + 1, none⟩)) u = some (.int .i64 f.sz):=λ h => by rw [ld1_ptr, h]; rfl
  have lr2 : ∀ {u : World}, bk u y = some f.row -> ld1 (.pointer (some ⟨y, 0 + 2, none⟩)) u = some (.int .i64 f.crc):=λ h => by rw [ld1_ptr, h]; rfl
  have lr3 : ∀ {u : World}, bk u y = some f.row -> ld1 (.pointer (some ⟨y, 0 + 3, none⟩)) u = some (.string (sb f.md)):=λ h => by rw [ld1_ptr, h]; rfl
  have hyb0:=hyb
  rw [Run_drewM]
  have hyb1 : bk r0.drew _ = some _:=hyb0
  have s1:=s0.fr0 (show Fr (λ _ => False) r0 r0.drew from (Fr.refl _ _).drew)
  have g1:=g0.drew
  generalize r0.drew = r1 at *
  rw [Run_getM]
  rw [sbAdd (a:=manH m ++ rowsL (m.fs.take i)) (c:=R0) (by first | omega | (simp only [List.length_append, List.length_singleton]; omega)), Run_bindO_some]
  first | rw [fieldA_ptr, Run_bindO_some] | rw [Run_bindO_some]
  rw [Run_bind, Run_rdM]
  refine ⟨_, lr0 hyb1, ?_⟩
  rw [sbAdd (a:=manH m ++ rowsL (m.fs.take i) ++ R0) (c:=f.nm) (by first | omega | (simp only [List.length_append, List.length_singleton]; omega)), Run_bindO_some]
  rw [sbAdd (a:=manH m ++ rowsL (m.fs.take i) ++ R0 ++ f.nm) (c:=[32]) (by first | omega | (simp only [List.length_append, List.length_singleton]; omega)), Run_bindO_some]
  first | rw [fieldA_ptr, Run_bindO_some] | rw [Run_bindO_some]
  rw [Run_bind, Run_rdM]
  refine ⟨_, lr1 hyb1, ?_⟩
  rw [Run_bind]
  refine (itoa_int s1 (by omega) (by omega)).mono ?_
  rintro _ r2 ⟨rfl, p2⟩
  have hyb2:=p2.bk_some hyb1 id
  have s2:=s1.fr0 p2
  have g2:=g1.trans p2 λ _ _ => id
  rw [Run_getM]
  rw [sbAdd (a:=manH m ++ rowsL (m.fs.take i) ++ R0 ++ f.nm ++ [32]) (c:=Lib.decDigits (f.sz).toNat) (by first | omega | (simp only [List.length_append, List.length_singleton]; omega)), Run_bindO_some]
  rw [sbAdd (a:=manH m ++ rowsL (m.fs.take i) ++ R0 ++ f.nm ++ [32] ++ Lib.decDigits (f.sz).toNat) (c:=[32]) (by first | omega | (simp only [List.length_append, List.length_singleton]; omega)), Run_bindO_some]
  first | rw [fieldA_ptr, Run_bindO_some] | rw [Run_bindO_some]
  rw [Run_bind, Run_rdM]
  refine ⟨_, lr2 hyb2, ?_⟩
  rw [Run_bind]
  refine (eight_int (by omega) (by omega)).mono ?_
  rintro _ r3 ⟨rfl, p3⟩
  have hyb3:=p3.bk_some hyb2 id
  have s3:=s2.fr0 p3
  have g3:=g2.trans p3 λ _ _ => id
  rw [Run_getM]
  rw [sbAdd (a:=manH m ++ rowsL (m.fs.take i) ++ R0 ++ f.nm ++ [32] ++ Lib.decDigits (f.sz).toNat ++ [32]) (c:=eightL (f.crc).toNat) (by first | omega | (simp only [List.length_append, List.length_singleton]; omega)), Run_bindO_some]
  rw [sbAdd (a:=manH m ++ rowsL (m.fs.take i) ++ R0 ++ f.nm ++ [32] ++ Lib.decDigits (f.sz).toNat ++ [32] ++ eightL (f.crc).toNat) (c:=[32]) (by first | omega | (simp only [List.length_append, List.length_singleton]; omega)), Run_bindO_some]
  first | rw [fieldA_ptr, Run_bindO_some] | rw [Run_bindO_some]
  rw [Run_bind, Run_rdM]
  refine ⟨_, lr3 hyb3, ?_⟩
  rw [Run_bind]
  refine (rhex_run (s:=f.md) (by omega)).mono ?_
  rintro _ r4 ⟨rfl, p4⟩
  have hyb4:=p4.bk_some hyb3 id
  have s4:=s3.fr0 p4
  have g4:=g3.trans p4 λ _ _ => id
  rw [Run_getM]
  rw [sbAdd (a:=manH m ++ rowsL (m.fs.take i) ++ R0 ++ f.nm ++ [32] ++ Lib.decDigits (f.sz).toNat ++ [32] ++ eightL (f.crc).toNat ++ [32]) (c:=hexL (f.md)) (by first | omega | (simp only [List.length_append, List.length_singleton]; omega)), Run_bindO_some]
  rw [sbAdd (a:=manH m ++ rowsL (m.fs.take i) ++ R0 ++ f.nm ++ [32] ++ Lib.decDigits (f.sz).toNat ++ [32] ++ eightL (f.crc).toNat ++ [32] ++ hexL (f.md)) (c:=[10]) (by first | omega | (simp only [List.length_append, List.length_singleton]; omega)), Run_bindO_some]
  rw [Run_reqM]
  refine ⟨lr0 hyb2, ?_⟩
  rw [Run_reqM]
  refine ⟨lr0 hyb3, ?_⟩
  rw [Run_reqM]
  refine ⟨lr0 hyb4, ?_⟩
  rw [Run_reqM]
  refine ⟨lr2 hyb1, ?_⟩
  rw [Run_reqM]
  refine ⟨lr3 hyb1, ?_⟩
  rw [Run_reqM]
  refine ⟨lr3 hyb2, ?_⟩
  rw [binV_int, intBin_add, wrap_succ' (by omega), Run_bindO_some, Run_ret, rowsL_snoc hf, rowL_parts]
  refine ⟨?_, fe.trans g4 λ _ _ => id⟩
  simp only [List.append_assoc]
 ·rintro L we ⟨rfl, fe⟩
  rw [List.take_length]
  have hil : ¬ ((m.fs.length : Nat) : Int) < m.fs.length:=by omega
  have hrl:=rl m.fs.length
  rw [List.take_length] at hrl
  have hxe:=fe.bk_some hx4 id
  simp only [getL_zero, getL_succ]
  first | rw [fieldA_ptr, Run_bindO_some] | rw [Run_bindO_some]
  rw [Run_bind, Run_rdM]
  refine ⟨_, lc3 hxe, ?_⟩
  rw [hvl, Run_bindO_some, lssF hil, Run_bindO_some, Run_condM_false, Run_ret]
  simp only [outK_exit, getL_zero]
  rw [show Nat.beq 0 0 = true from rfl, cond_true]
  have f5:=f4.trans fe λ _ _ => id
  have t5:=t4.fr0 fe
  have hx5:=hxe
  have hri2 : (manH m ++ rowsL m.fs).length <= 1000 + 1025 * 121:=by rw [List.length_append]; omega
  rw [Run_drewM]
  have hx6 : bk we.drew _ = some _:=hx5
  have t6:=t5.fr0 (show Fr (λ _ => False) we we.drew from (Fr.refl _ _).drew)
  have f6:=f5.drew
  generalize we.drew = u6 at *
  rw [Run_getM]
  rw [sbAdd (a:=manH m ++ rowsL m.fs) (c:=Z0) (by first | omega | (simp only [List.length_append, List.length_singleton]; omega)), Run_bindO_some]
  first | rw [fieldA_ptr, Run_bindO_some] | rw [Run_bindO_some]
  rw [Run_bind, Run_rdM]
  refine ⟨_, lc4 hx6, ?_⟩
  rw [Run_bind]
  refine (itoa_int t6 (by omega) (by omega)).mono ?_
  rintro _ u7 ⟨rfl, g7⟩
  have hx7:=g7.bk_some hx6 id
  have t7:=t6.fr0 g7
  have f7:=f6.trans g7 λ _ _ => id
  rw [Run_getM]
  rw [sbAdd (a:=manH m ++ rowsL m.fs ++ Z0) (c:=Lib.decDigits (m.tot).toNat) (by first | omega | (simp only [List.length_append, List.length_singleton]; omega)), Run_bindO_some]
  rw [sbAdd (a:=manH m ++ rowsL m.fs ++ Z0 ++ Lib.decDigits (m.tot).toNat) (c:=Z1) (by first | omega | (simp only [List.length_append, List.length_singleton]; omega)), Run_bindO_some]
  first | rw [fieldA_ptr, Run_bindO_some] | rw [Run_bindO_some]
  rw [Run_bind, Run_rdM]
  refine ⟨_, lc5 hx7, ?_⟩
  rw [Run_bind]
  refine (eight_int (by omega) (by omega)).mono ?_
  rintro _ u8 ⟨rfl, g8⟩
  have hx8:=g8.bk_some hx7 id
  have t8:=t7.fr0 g8
  have f8:=f7.trans g8 λ _ _ => id
  rw [Run_getM]
  rw [sbAdd (a:=manH m ++ rowsL m.fs ++ Z0 ++ Lib.decDigits (m.tot).toNat ++ Z1) (c:=eightL (m.who).toNat) (by first | omega | (simp only [List.length_append, List.length_singleton]; omega)), Run_bindO_some]
  rw [sbAdd (a:=manH m ++ rowsL m.fs ++ Z0 ++ Lib.decDigits (m.tot).toNat ++ Z1 ++ eightL (m.who).toNat) (c:=[10]) (by first | omega | (simp only [List.length_append, List.length_singleton]; omega)), Run_bindO_some]
  rw [Run_reqM]
  refine ⟨lc5 hx6, ?_⟩
  have eM : manH m ++ rowsL m.fs ++ Z0 ++ Lib.decDigits m.tot.toNat ++ Z1 ++ eightL m.who.toNat ++ [10] = manL m:=by
   unfold manL
   rw [manT_parts]
   simp only [List.append_assoc]
  rw [eM, Run_bind]
  refine (rclosed_run _ (by omega)).mono ?_
  rintro _ z ⟨rfl, g⟩
  rw [Run_ret]
  exact ⟨rfl, f8.trans g λ _ _ => id⟩
end
theorem pairs_appN {e r : List UInt8} : ∀ {n : Nat}, 2 * n <= e.length -> pairsF (e ++ r) n = pairsF e n
 | 0, _ => rfl
 | n + 1, h => by
  have ih:=pairs_appN (e:=e) (r:=r) (n:=n) (by omega)
  have hp : pairV (e ++ r) n = pairV e n:=by
   unfold pairV
   rw [List.getElem?_append_left (by omega), List.getElem?_append_left (by omega)]
  unfold pairsF
  rw [ih, hp]
theorem pairs_longN {l : List UInt8} : ∀ {n : Nat} {bs : List UInt8}, pairsF l n = some bs -> 2 * n <= l.length
 | 0, _, _ => by omega
 | n + 1, bs, h => Nat.not_lt.1 λ hl => by
  have : pairV l n = none:=by
   unfold pairV
   rw [show l[2 * n + 1]? = none from List.getElem?_eq_none (by omega)]
   split <;> simp_all
  rw [pairsF_bad this (n:=n + 1) (by omega)] at h
  cases h
theorem pairs_no10 {e : List UInt8} {n : Nat} {bs : List UInt8} {c : UInt8} (hc : hvN c.toNat = none) (hl : e.length = 2 * n) (h : pairsF e n = some bs) : c ∉ e:=λ hm => by
 obtain ⟨j, hj⟩:=List.getElem?_of_mem hm
 have hjl:=(List.getElem?_eq_some_iff.1 hj).1
 have hp : pairV e (j / 2) = none:=by
  unfold pairV
  rcases Nat.mod_two_eq_zero_or_one j with h0 | h1
  ·rw [show 2 * (j / 2) = j by omega, hj]
   split
   ·rename_i a b h1 h2
    cases h1
    rw [hc]
   ·rfl
  ·rw [show 2 * (j / 2) + 1 = j by omega, hj]
   split
   ·rename_i a b h1 h2
    cases h2
    rw [hc]
    split <;> simp_all
   ·rfl
 rw [pairsF_bad hp (n:=n) (by omega)] at h
 cases h
section
variable {w w1 w2 : World}
section
variable {β : Type} {w0 : World} {b p : Nat} {l : List UInt8} {bad : Bool} {x6 : Nat} {l6 : List Value}
theorem RQ.sumA (h : RQ w0 w b l p bad x6 l6) (hl : l.length <= 4611686018427387904) {K : Value -> M β} {Q : β -> World -> Prop}
  (q : ∀ w' p' bad' (z : Int), RQ w0 w' b l p' bad' x6 l6 -> (bad' = false -> bad = false /\ ∃ e s, sumF e = some s /\ z = (s : Int) /\ l.drop p = e ++ l.drop p') -> Run (K (.int .i64 z)) w' Q) :
  Run (M.bind (F.granaryref4_Reader_sum (.pointer (some ⟨b, 0, none⟩))) K) w Q:=by
 rw [Run_bind]
 refine (rsum_run h.rs h.hp hl).mono ?_
 rintro _ w2 ⟨rfl, ⟨p', rs, hp', hq⟩, f⟩
 refine q w2 p' _ _ (h.call f rs hp') λ hb => ?_
 cases bad with
 | true => simp at hb
 | false =>
  simp only [Bool.false_eq_true, if_false] at hb hq ⊢
  cases hpp : pairsF (l.drop p) 4 with
  | none => rw [hpp] at hb; simp at hb
  | some bs =>
   rw [hpp] at hq
   have e2:=hq rfl
   have h8:=pairs_longN hpp
   have ht8 : ((l.drop p).take 8).length = 8:=by rw [List.length_take]; omega
   refine ⟨trivial, (l.drop p).take 8, valB bs, ?_, rfl, ?_⟩
   ·unfold sumF
    rw [if_pos ht8, <- pairs_appN (r:=(l.drop p).drop 8) (by omega), List.take_append_drop, hpp]
    rfl
   ·rw [e2, <- List.drop_drop, List.take_append_drop]
theorem RQ.sumG (h : RQ w0 w b l p false x6 l6) (hl : l.length <= 4611686018427387904) {e r : List UInt8} {s : Nat} (hd : l.drop p = e ++ r) (hs : sumF e = some s) {K : Value -> M β} {Q : β -> World -> Prop}
  (q : ∀ w' p', RQ w0 w' b l p' false x6 l6 -> l.drop p' = r -> Run (K (.int .i64 (s : Int))) w' Q) :
  Run (M.bind (F.granaryref4_Reader_sum (.pointer (some ⟨b, 0, none⟩))) K) w Q:=by
 rw [Run_bind]
 refine (rsum_run h.rs h.hp hl).mono ?_
 rintro _ w2 ⟨rfl, ⟨p', rs, hp', hq⟩, f⟩
 have he8:=(sum_no10 hs).2
 have hp : (pairsF (l.drop p) 4).map valB = some s:=by
  rw [hd, pairs_appN (by omega)]
  unfold sumF at hs
  rw [if_pos he8] at hs
  exact hs
 simp only [Bool.false_eq_true, if_false, hp] at rs hq ⊢
 have e2:=hq rfl
 exact q w2 p' (h.call f rs hp') (by rw [e2, <- List.drop_drop, hd, <- he8, List.drop_left])
theorem RQ.bytA {n : Nat} (h : RQ w0 w b l p bad x6 l6) (hl : l.length <= 4611686018427387904) (h0 : 0 < n) (hn : n <= 1048576) {K : Value -> M β} {Q : β -> World -> Prop}
  (q : ∀ w' p' bad' s, RQ w0 w' b l p' bad' x6 l6 -> (bad' = false -> bad = false /\ ∃ e, e.length = 2 * n /\ pairsF e n = some s /\ l.drop p = e ++ l.drop p') -> Run (K (.string (sb s))) w' Q) :
  Run (M.bind (F.granaryref4_Reader_bytes (.pointer (some ⟨b, 0, none⟩)) (.int .i64 (n : Int))) K) w Q:=by
 rw [Run_bind]
 refine (rbytes_run h.rs h.hp hl h0 hn).mono ?_
 rintro _ w2 ⟨rfl, ⟨p', rs, hp', hq⟩, f⟩
 refine q w2 p' _ _ (h.call f rs hp') λ hb => ?_
 cases bad with
 | true => simp at hb
 | false =>
  simp only [Bool.false_eq_true, if_false] at hb hq ⊢
  cases hpp : pairsF (l.drop p) n with
  | none => rw [hpp] at hb; simp at hb
  | some bs =>
   rw [hpp] at hq
   have e2:=hq rfl
   have h8:=pairs_longN hpp
   have ht8 : ((l.drop p).take (2 * n)).length = 2 * n:=by rw [List.length_take]; omega
   refine ⟨trivial, (l.drop p).take (2 * n), ht8, ?_, ?_⟩
   ·rw [<- pairs_appN (r:=(l.drop p).drop (2 * n)) (by omega), List.take_append_drop, hpp]
    rfl
   ·rw [e2, <- List.drop_drop, List.take_append_drop]
theorem RQ.bytG {n : Nat} (h : RQ w0 w b l p false x6 l6) (hl : l.length <= 4611686018427387904) (h0 : 0 < n) (hn : n <= 1048576) {e r s : List UInt8} (hd : l.drop p = e ++ r) (he : e.length = 2 * n) (hs : pairsF e n = some s) {K : Value -> M β} {Q : β -> World -> Prop}
  (q : ∀ w' p', RQ w0 w' b l p' false x6 l6 -> l.drop p' = r -> Run (K (.string (sb s))) w' Q) :
  Run (M.bind (F.granaryref4_Reader_bytes (.pointer (some ⟨b, 0, none⟩)) (.int .i64 (n : Int))) K) w Q:=by
 rw [Run_bind]
 refine (rbytes_run h.rs h.hp hl h0 hn).mono ?_
 rintro _ w2 ⟨rfl, ⟨p', rs, hp', hq⟩, f⟩
 have hp : pairsF (l.drop p) n = some s:=by rw [hd, pairs_appN (by omega)]; exact hs
 simp only [Bool.false_eq_true, if_false, hp] at rs hq ⊢
 have e2:=hq rfl
 exact q w2 p' (h.call f rs hp') (by rw [e2, <- List.drop_drop, hd, <- he, List.drop_left])
end
structure RowF (t : List UInt8) (f : Fl) (dz ec eh : List UInt8) : Prop where
 txt : t = R0 ++ (f.nm ++ ([32] ++ (dz ++ ([32] ++ (ec ++ ([32] ++ eh))))))
 nm0 : f.nm ≠ []
 nm32 : (32 : UInt8) ∉ f.nm
 nm10 : (10 : UInt8) ∉ f.nm
 sz : ∃ z : Nat, numF dz = some z /\ f.sz = z
 crc : ∃ c : Nat, sumF ec = some c /\ f.crc = c
 md : eh.length = 32 /\ pairsF eh 16 = some f.md
def rowF (t : List UInt8) (f : Fl) : Prop:=∃ dz ec eh, RowF t f dz ec eh
end
def zFl : Fl:=⟨[], 0, 0, []⟩
section
variable {w w1 w2 : World}
theorem wd32 : ∀ (r : List UInt8) (c : UInt8), ([32] ++ r : List UInt8).head? = some c -> isD c = false /\ wdC c = false:=by
 intro r c hc
 simp only [List.singleton_append, List.head?_cons, Option.some.injEq] at hc
 subst hc
 exact ⟨rfl, rfl⟩
theorem file_start {b p : Nat} {l : List UInt8} {bad : Bool} (h : RS w b l p bad) (hp : p <= l.length) {β : Type} {K : Value -> Value -> M β} {Q : β -> World -> Prop}
  (q : ∀ x y wa w', bk wa x = some zFl.row -> wr wa x = true -> x ≠ b -> x ≠ y -> w.heap.size <= x -> w.heap.size <= y -> Fr (λ _ => False) w wa -> RQ wa w' b l p bad y zFl.row -> Run (K (.pointer (some ⟨x, 0, none⟩)) (.pointer (some ⟨y, 0, none⟩))) w' Q) :
  Run (M.bind (newM 75 #[(Value.string ByteArray.empty), (Value.int IntKind.i64 0), (Value.int IntKind.i64 0), (Value.string ByteArray.empty)]) λ x1 =>
 bindO (buildV #[(Value.string ByteArray.empty), (Value.int IntKind.i64 0), (Value.int IntKind.i64 0), (Value.string ByteArray.empty)] []) λ x2 =>
 M.bind (newM 75 #[(Value.string ByteArray.empty), (Value.int IntKind.i64 0), (Value.int IntKind.i64 0), (Value.string ByteArray.empty)]) λ x3 =>
 M.bind (stM 4 x3 x2) λ _ => K x1 x3) w Q:=by
 have z0 : buildV #[(Value.string ByteArray.empty), (Value.int IntKind.i64 0), (Value.int IntKind.i64 0), (Value.string ByteArray.empty)] [] = some (.agg zFl.row.toArray):=rfl
 rw [Run_bind]
 refine Run_new λ x w1 hx hxw f1 hxle => ?_
 replace hx : bk w1 x = some zFl.row:=hx
 rw [z0, Run_bindO_some, Run_bind]
 refine Run_new λ y w2 hy hyw f2 hyle => ?_
 rw [Run_bind, Run_stA (n:=4) ⟨⟨⟨_, hy, by simp⟩, hyw⟩, rfl, zFl.row_cell⟩]
 have hlb:=bk_lt h.1
 have lx:=bk_lt hx
 have ly:=bk_lt hy
 have s1:=f1.size
 have s2:=f2.size
 have f : Fr (λ c => c = y) w2 (sto w2 y 0 zFl.row):=(show Fr (λ c => c = y) w2 w2 from Fr.refl _ _).sto (.inl rfl) _ _
 have hyb : bk (sto w2 y 0 zFl.row) y = some zFl.row:=by rw [bk_sto_same hy]; rfl
 rw [show zFl.row.toArray.toList = zFl.row from rfl]
 refine q x y w2 (sto w2 y 0 zFl.row) (f2.bk_some hx id) (by rw [f2.wr lx id]; exact hxw) (by omega) (by omega) hxle (by omega) (f1.trans f2 λ _ _ => id) ?_
 refine ⟨⟨f.bk_some (f2.bk_some (f1.bk_some h.1 id) id) (by omega), by rw [wr_sto, f2.wr (by omega) id, f1.wr hlb id]; exact h.2⟩, hp, hyb, by rw [wr_sto]; exact hyw, by omega, f.mono λ _ h => .inr h⟩
theorem file_end {b p : Nat} {l : List UInt8} {bad : Bool} {x y : Nat} {wa : World} {f : Fl} (h : RQ wa w b l p bad y f.row) (hx : bk w x = some zFl.row) (hw : wr w x = true) {Q : Value -> World -> Prop}
  (q : ∀ w', Fr (λ c => c = x) w w' -> Q (.agg f.row.toArray) w') :
  Run (M.bind (rdM (ldA 4 (.pointer (some ⟨y, 0, none⟩)))) λ x22 =>
 M.bind (stM 4 (.pointer (some ⟨x, 0, none⟩)) x22) λ _ =>
 M.bind (rdM (ldA 4 (.pointer (some ⟨x, 0, none⟩)))) λ x24 =>
 M.ret x24) w Q:=by
 rw [Run_bind, Run_rdM]
 refine ⟨.agg f.row.toArray, ldA_bk h.b6 (Nat.le_refl _), ?_⟩
 simp only [Run_bind]
 refine finN_run hx hw f.row.toArray rfl rfl f.row_cell λ w' fw => ?_
 rw [Run_ret]
 exact q w' fw
theorem rfile_G {b p : Nat} {l : List UInt8} (h : RS w b l p false) (hp : p <= l.length) (hl : l.length <= 4611686018427387904) {t r : List UInt8} {f : Fl} (hd : l.drop p = t ++ ([10] ++ r)) (hf : rowF t f) :
  Run (F.granaryref4_Reader_file (.pointer (some ⟨b, 0, none⟩))) w λ v w' => v = .agg f.row.toArray /\ (∃ p', RS w' b l p' false /\ p' <= l.length /\ l.drop p' = r) /\ Fr (λ c => c = b) w w':=by
 obtain ⟨dz, ec, eh, hf⟩:=hf
 obtain ⟨z, hz, hz'⟩:=hf.sz
 obtain ⟨c, hc, hc'⟩:=hf.crc
 obtain ⟨m1, m2⟩:=hf.md
 have hd0 : l.drop p = R0 ++ (f.nm ++ ([32] ++ (dz ++ ([32] ++ (ec ++ ([32] ++ (eh ++ ([10] ++ r)))))))):=by
  rw [hd, hf.txt]
  simp only [List.append_assoc]
 unfold F.granaryref4_Reader_file
 have eR : ByteArray.mk #[102, 105, 108, 101, 32] = sb R0:=rfl
 have e32 : ByteArray.mk #[32] = sb [32]:=rfl
 have e10 : ByteArray.mk #[10] = sb [10]:=rfl
 rw [eR, e32, e10]
 refine file_start h hp λ x y wa w0 hx hxw hxb hxy hxle hyle fa n0 => ?_
 refine n0.litG hl (by decide) hd0 λ ws p1 n1 hd1 => ?_
 refine n1.wordG hl hd1 hf.nm0 hf.nm32 hf.nm10 (λ c hc => (wd32 _ c hc).2) λ ws p2 n2 hd2 => ?_
 refine n2.put (i:=0) (by simp [zFl, Fl.row]) rfl λ ws n2 => ?_
 refine n2.litG hl (by decide) hd2 λ ws p3 n3 hd3 => ?_
 refine n3.numG hl hd3 hz (λ c hc => (wd32 _ c hc).1) λ ws p4 n4 hd4 => ?_
 refine n4.put (i:=1) (by simp [zFl, Fl.row]) rfl λ ws n4 => ?_
 refine n4.litG hl (by decide) hd4 λ ws p5 n5 hd5 => ?_
 refine n5.sumG hl hd5 hc λ ws p6 n6 hd6 => ?_
 refine n6.put (i:=2) (by simp [zFl, Fl.row]) rfl λ ws n6 => ?_
 refine n6.litG hl (by decide) hd6 λ ws p7 n7 hd7 => ?_
 refine n7.bytG (n:=16) hl (by decide) (by decide) hd7 (by omega) m2 λ ws p8 n8 hd8 => ?_
 refine n8.put (i:=3) (by simp [zFl, Fl.row]) rfl λ ws n8 => ?_
 refine n8.litG hl (by decide) hd8 λ ws p9 n9 hd9 => ?_
 have hrow : (((zFl.row.set 0 (.string (sb f.nm))).set 1 (.int .i64 (z : Int))).set 2 (.int .i64 (c : Int))).set 3 (.string (sb f.md)) = f.row:=by
  rw [<- hz', <- hc']; rfl
 rw [hrow] at n9
 have hne : ¬ (x = b ∨ x = y):=λ h => h.elim hxb hxy
 refine file_end n9 (n9.fr.bk_some hx hne) (by rw [n9.fr.wr (bk_lt hx) hne]; exact hxw) λ w' fw => ⟨rfl, ⟨p9, ?_, n9.hp, hd9⟩, ?_⟩
 ·exact ⟨fw.bk_some n9.rs.1 λ e => hxb e.symm, by rw [fw.wr (bk_lt n9.rs.1) λ e => hxb e.symm]; exact n9.rs.2⟩
 ·refine (fa.mono λ _ h => h.elim).trans ((n9.fr.mono λ c hc => (show c = b ∨ c = x ∨ c = y from hc.elim .inl λ h => .inr (.inr h))).trans fw λ _ _ h => .inr (.inl h)) λ c hc h => ?_
  rcases h with h | h | h
  ·exact h
  ·omega
  ·omega
theorem rfile_A {b p : Nat} {l : List UInt8} {bad : Bool} (h : RS w b l p bad) (hp : p <= l.length) (hl : l.length <= 4611686018427387904) :
  Run (F.granaryref4_Reader_file (.pointer (some ⟨b, 0, none⟩))) w λ v w' => (∃ f p' bad', v = .agg f.row.toArray /\ RS w' b l p' bad' /\ p' <= l.length /\ (bad' = false -> bad = false /\ ∃ t, rowF t f /\ l.drop p = t ++ ([10] ++ l.drop p'))) /\ Fr (λ c => c = b) w w':=by
 unfold F.granaryref4_Reader_file
 have eR : ByteArray.mk #[102, 105, 108, 101, 32] = sb R0:=rfl
 have e32 : ByteArray.mk #[32] = sb [32]:=rfl
 have e10 : ByteArray.mk #[10] = sb [10]:=rfl
 rw [eR, e32, e10]
 refine file_start h hp λ x y wa w0 hx hxw hxb hxy hxle hyle fa n0 => ?_
 refine n0.litA hl (by decide) λ ws p1 b1 n1 k1 => ?_
 refine n1.wordA hl λ ws p2 b2 nm n2 k2 => ?_
 refine n2.put (i:=0) (by simp [zFl, Fl.row]) rfl λ ws n2 => ?_
 refine n2.litA hl (by decide) λ ws p3 b3 n3 k3 => ?_
 refine n3.numA hl λ ws p4 b4 z n4 k4 => ?_
 refine n4.put (i:=1) (by simp [zFl, Fl.row]) rfl λ ws n4 => ?_
 refine n4.litA hl (by decide) λ ws p5 b5 n5 k5 => ?_
 refine n5.sumA hl λ ws p6 b6 c n6 k6 => ?_
 refine n6.put (i:=2) (by simp [zFl, Fl.row]) rfl λ ws n6 => ?_
 refine n6.litA hl (by decide) λ ws p7 b7 n7 k7 => ?_
 refine n7.bytA (n:=16) hl (by decide) (by decide) λ ws p8 b8 md n8 k8 => ?_
 refine n8.put (i:=3) (by simp [zFl, Fl.row]) rfl λ ws n8 => ?_
 refine n8.litA hl (by decide) λ ws p9 b9 n9 k9 => ?_
 have hrow : (((zFl.row.set 0 (.string (sb nm))).set 1 (.int .i64 z)).set 2 (.int .i64 c)).set 3 (.string (sb md)) = Fl.row ⟨nm, z, c, md⟩:=rfl
 rw [hrow] at n9
 have hne : ¬ (x = b ∨ x = y):=λ h => h.elim hxb hxy
 refine file_end n9 (n9.fr.bk_some hx hne) (by rw [n9.fr.wr (bk_lt hx) hne]; exact hxw) λ w' fw => ⟨⟨⟨nm, z, c, md⟩, p9, b9, rfl, ?_, n9.hp, λ hb => ?_⟩, ?_⟩
 ·exact ⟨fw.bk_some n9.rs.1 λ e => hxb e.symm, by rw [fw.wr (bk_lt n9.rs.1) λ e => hxb e.symm]; exact n9.rs.2⟩
 ·obtain ⟨a8, y9⟩:=k9 hb
  obtain ⟨a7, eh, m1, m2, y8⟩:=k8 a8
  obtain ⟨a6, y7⟩:=k7 a7
  obtain ⟨a5, ec, s, s1, s2, y6⟩:=k6 a6
  obtain ⟨a4, y5⟩:=k5 a5
  obtain ⟨a3, dz, v, v1, v2, y4⟩:=k4 a4
  obtain ⟨a2, y3⟩:=k3 a3
  obtain ⟨a1, nm0, nm32, nm10, y2⟩:=k2 a2
  obtain ⟨a0, y1⟩:=k1 a1
  refine ⟨a0, _, ⟨dz, ec, eh, ⟨rfl, nm0, nm32, nm10, ⟨v, v1, v2⟩, ⟨s, s1, s2⟩, m1, m2⟩⟩, ?_⟩
  rw [y1, y2, y3, y4, y5, y6, y7, y8, y9]
  simp only [List.append_assoc]
 ·refine (fa.mono λ _ h => h.elim).trans ((n9.fr.mono λ c hc => (show c = b ∨ c = x ∨ c = y from hc.elim .inl λ h => .inr (.inr h))).trans fw λ _ _ h => .inr (.inl h)) λ c hc h => ?_
  rcases h with h | h | h
  ·exact h
  ·omega
  ·omega
end
def lnsL (ls : List (List UInt8)) : List UInt8:=(ls.map (· ++ [10])).flatten
structure MaForm (t : List UInt8) (m : Mf) (sm : Nat) (ls : List (List UInt8)) (d1 d2 d3 d4 e1 e : List UInt8) : Prop where
 txt : t = N0 ++ (m.st ++ (N1 ++ (d1 ++ (N2 ++ (d2 ++ (N3 ++ (d3 ++ ([10] ++ (lnsL ls ++ (Z0 ++ (d4 ++ (Z1 ++ (e1 ++ ([10] ++ (SUM ++ e ++ [10])))))))))))))))
 st0 : m.st ≠ []
 st32 : (32 : UInt8) ∉ m.st
 st10 : (10 : UInt8) ∉ m.st
 ver : ∃ v : Nat, numF d1 = some v /\ m.ver = v
 node : ∃ v : Nat, numF d2 = some v /\ m.node = v
 cnt : numF d3 = some m.fs.length
 tot : ∃ v : Nat, numF d4 = some v /\ m.tot = v
 who : ∃ v : Nat, sumF e1 = some v /\ m.who = v
 sum : sumF e = some sm
 len : ls.length = m.fs.length
 rows : ∀ (i : Nat) (t : List UInt8) (f : Fl), ls[i]? = some t -> m.fs[i]? = some f -> rowF t f
def maform (t : List UInt8) (m : Mf) (sm : Nat) : Prop:=∃ ls d1 d2 d3 d4 e1 e, MaForm t m sm ls d1 d2 d3 d4 e1 e
def zMf : Mf:=⟨[], 0, 0, [], 0, 0⟩
def codeM (t : List UInt8) (m : Mf) (sm : Nat) : Int:=if sm = crcF (sb (t.take (t.length - 13))) then holdsF m else 41
def resM (t : List UInt8) (m : Mf) (sm : Nat) : Mf:=if codeM t m sm = 0 then m else zMf
theorem lns_mem : ∀ {ls : List (List UInt8)} {x : List UInt8}, x ∈ ls -> x.length + 1 <= (lnsL ls).length
 | y :: ls, x, h => by
  have e : (lnsL (y :: ls)).length = y.length + 1 + (lnsL ls).length:=by simp [lnsL]; omega
  rcases List.mem_cons.1 h with rfl | h
  ·omega
  ·have:=lns_mem h; omega
theorem lns_cnt : ∀ (ls : List (List UInt8)), ls.length <= (lnsL ls).length
 | [] => by simp [lnsL]
 | y :: ls => by
  have e : (lnsL (y :: ls)).length = y.length + 1 + (lnsL ls).length:=by simp [lnsL]; omega
  have:=lns_cnt ls
  rw [List.length_cons]; omega
theorem rowF_len {t : List UInt8} {f : Fl} (h : rowF t f) : f.nm.length <= t.length /\ f.md.length = 16:=by
 obtain ⟨dz, ec, eh, h⟩:=h
 have e:=congrArg List.length h.txt
 simp only [List.length_append] at e
 exact ⟨by omega, pairsF_len h.md.2⟩
theorem maform_fit {t : List UInt8} {m : Mf} {sm : Nat} (h : maform t m sm) (hl : t.length <= 4294960000) : m.Fit:=by
 obtain ⟨ls, d1, d2, d3, d4, e1, e, h⟩:=h
 have ht:=congrArg List.length h.txt
 simp only [List.length_append] at ht
 refine ⟨by omega, λ f hf => ?_, ?_⟩
 ·obtain ⟨i, hi⟩:=List.getElem?_of_mem hf
  have hil : i < ls.length:=by rw [h.len]; exact (List.getElem?_eq_some_iff.1 hi).1
  have hr:=rowF_len (h.rows i _ f (List.getElem?_eq_getElem hil) hi)
  have:=lns_mem (List.getElem_mem hil)
  omega
 ·have:=lns_cnt ls
  rw [<- h.len]; omega
section
variable {w w1 w2 : World}
def ParM (w w' : World) (m : Mf) (c : Int) (r : Value) : Prop:=∃ v, r = .tuple #[.agg (mval m v).toArray, .int .i64 c] /\ SlW 4 w' v (m.fs.map Fl.row) /\ (∀ b, inB v b -> w.heap.size <= b /\ b < w'.heap.size) /\ Fr (λ _ => False) w w'
structure OwnR (w0 w : World) (v : Value) (fs : List Fl) : Prop where
 sl : SlW 4 w v (fs.map Fl.row)
 fresh : ∀ c, inB v c -> w0.heap.size <= c /\ c < w.heap.size
theorem OwnR.nil (w0 w : World) : OwnR w0 w (.slice none 0 0) []:=⟨SlW.nil _ _, λ _ h => h.elim⟩
theorem OwnR.frm {w0 : World} {v : Value} {fs : List Fl} {F : Nat -> Prop} (h : OwnR w0 w v fs) (f : Fr F w w2) (hF : ∀ c, F c -> c < w0.heap.size) : OwnR w0 w2 v fs :=
 ⟨h.sl.fr f λ c hc hf => by have:=(h.fresh c hc).1; have:=hF c hf; omega, λ c hc => ⟨(h.fresh c hc).1, Nat.lt_of_lt_of_le (h.fresh c hc).2 f.size⟩⟩
theorem mval_cell (m : Mf) {v : Value} (hv : isCell v = true) : (mval m v).toArray.toList.all isCell = true:=by
 simp [mval, hv]
theorem push_run {w0 : World} {x5 y : Nat} {l5 zs : List Value} {v : Value} {fs : List Fl} (h5 : bk w x5 = some l5) (hw5 : wr w x5 = true) (h3 : l5[3]? = some v) (h6 : l5.length = 6) (hx0 : x5 < w0.heap.size) (h0 : w0.heap.size <= w.heap.size)
  (hy : bk w y = some zs) (hyw : wr w y = true) (hzs : zs.length = 4) (hy0 : w0.heap.size <= y) (hyv : ¬ inB v y) (hO : OwnR w0 w v fs) (hn : fs.length <= 4294967296) (f : Fl) {β : Type} {K : M β} {Q : β -> World -> Prop}
  (q : ∀ w' r, bk w' x5 = some (l5.set 3 r) -> wr w' x5 = true -> isCell r = true -> OwnR w0 w' r (fs ++ [f]) -> Fr (λ c => c = x5 ∨ w0.heap.size <= c) w w' -> Run K w' Q) :
  Run (M.bind (stM 4 (.pointer (some ⟨y, 0, none⟩)) (.agg f.row.toArray)) λ _ =>
   bindO (fieldA 3 (.pointer (some ⟨x5, 0, none⟩))) λ x33 =>
   M.bind (rdM (ld1 x33)) λ x34 =>
   M.bind (rdM (ldA 4 (.pointer (some ⟨y, 0, none⟩)))) λ x35 =>
   M.bind (bslM 75 1 (Builtin.zeroCells #[(Value.string ByteArray.empty), (Value.int IntKind.i64 0), (Value.int IntKind.i64 0), (Value.string ByteArray.empty)] 1) [(0, 4, x35)]) λ x36 =>
   M.bind (appM 75 4 48 #[(Value.string ByteArray.empty), (Value.int IntKind.i64 0), (Value.int IntKind.i64 0), (Value.string ByteArray.empty)] x34 x36) λ x37 =>
   bindO (fieldA 3 (.pointer (some ⟨x5, 0, none⟩))) λ x38 =>
   M.bind (stM 1 x38 x37) λ _ => K) w Q:=by
 rw [Run_bind, Run_stA (n:=4) ⟨⟨⟨_, hy, by omega⟩, hyw⟩, rfl, f.row_cell⟩]
 rw [show f.row.toArray.toList = f.row from rfl]
 have lx:=bk_lt h5
 have fy : Fr (λ c => c = y) w (sto w y 0 f.row):=(show Fr (λ c => c = y) w w from Fr.refl _ _).sto (.inl rfl) _ _
 have hyb : bk (sto w y 0 f.row) y = some f.row:=by
  rw [bk_sto_same hy, setL_eq _ _ _ (by simp [Fl.row]; omega), List.drop_of_length_le (by simp [Fl.row]; omega)]
  simp
 have h5y:=fy.bk_some h5 (by omega)
 have hw5y : wr (sto w y 0 f.row) x5 = true:=by rw [wr_sto]; exact hw5
 have hOy : OwnR w0 (sto w y 0 f.row) v fs:=⟨hO.sl.fr fy λ c hc he => hyv (he ▸ hc), λ c hc => ⟨(hO.fresh c hc).1, by rw [size_sto]; exact (hO.fresh c hc).2⟩⟩
 have fy' : Fr (λ c => c = x5 ∨ w0.heap.size <= c) w (sto w y 0 f.row):=fy.mono λ c hc => .inr (by omega)
 generalize sto w y 0 f.row = w3 at *
 have ld : ld1 (.pointer (some ⟨x5, 0 + 3, none⟩)) w3 = some v:=by rw [ld1_ptr, h5y]; exact h3
 rw [fieldA_ptr, Run_bindO_some, Run_bind, Run_rdM]
 refine ⟨_, ld, ?_⟩
 rw [Run_bind, Run_rdM]
 refine ⟨.agg f.row.toArray, ldA_bk hyb (Nat.le_refl _), ?_⟩
 simp only [Run_bind]
 refine Run_app1 (k:=4) (y:=.agg f.row.toArray) (K:=λ _ r w' => Run (bindO (some (Value.pointer (some ⟨x5, 0 + 3, none⟩))) λ x38 => M.bind (stM 1 x38 r) λ _ => K) w' Q) rfl hOy.sl (by decide) rfl (by decide) f.row_cell (by simp only [List.length_map]; omega) λ r w4 hr f4 hin _ _ => ?_
 have lx3:=bk_lt h5y
 have nv5 : ¬ inB v x5:=λ h => by have:=(hOy.fresh _ h).1; omega
 have h54:=f4.bk_some h5y nv5
 have hw54 : wr w4 x5 = true:=by rw [f4.wr lx3 nv5]; exact hw5y
 have hrc:=hr.1.isCell
 rw [Run_bindO_some, Run_bind, Run_st1 ⟨⟨⟨_, h54, by omega⟩, hw54⟩, hrc⟩, Nat.zero_add]
 have f5 : Fr (λ c => c = x5) w4 (sto w4 x5 3 [r]):=(show Fr (λ c => c = x5) w4 w4 from Fr.refl _ _).sto (.inl rfl) _ _
 have s4:=f4.size
 have s3:=fy'.size
 have fresh4 : ∀ c, inB r c -> w0.heap.size <= c /\ c < w4.heap.size:=λ c hc => by
  rcases hin c hc with h | h
  ·have:=hOy.fresh c h; omega
  ·omega
 refine q _ r (by rw [bk_sto_same h54]; simp only [setL_cons, setL_nil]) (by rw [wr_sto]; exact hw54) hrc ⟨?_, λ c hc => by rw [size_sto]; exact fresh4 c hc⟩ ((fy'.trans (f4.mono λ c hc => (show c = x5 ∨ w0.heap.size <= c from .inr (hOy.fresh c hc).1)) λ _ _ h => h).trans f5 λ c _ hc => .inl hc)
 have hr' : SlW 4 w4 r ((fs ++ [f]).map Fl.row):=by
  rw [List.map_append]
  exact hr
 exact hr'.fr f5 λ c hc he => by have:=(fresh4 c hc).1; omega
end
abbrev nilS : Value:=.slice none 0 0
section
variable {w w1 w2 : World}
theorem RQ.oth {w0 : World} {b p : Nat} {l : List UInt8} {bad : Bool} {x6 : Nat} {l6 l7 : List Value} (h : RQ w0 w b l p bad x6 l6) (f : Fr (λ c => c = x6 ∨ w0.heap.size <= c) w w2) (hb : b < w0.heap.size) (h7 : bk w2 x6 = some l7) (hw : wr w2 x6 = true) : RQ w0 w2 b l p bad x6 l7:=by
 have hne : ¬ (b = x6 ∨ w0.heap.size <= b):=λ h' => by rcases h' with h' | h'; exact h.ne h'.symm; omega
 exact ⟨⟨f.bk_some h.rs.1 hne, by rw [f.wr (bk_lt h.rs.1) hne]; exact h.rs.2⟩, h.hp, h7, hw, h.ne, h.fr.trans f λ c hc he => he.elim .inr λ he => by omega⟩
theorem manend_run (hpw : bk w 0 = some powV) {x1 x6 : Nat} {m : Mf} {v : Value} {w0 : World} (h1 : bk w x1 = some (mval zMf nilS)) (hw1 : wr w x1 = true) (h6 : bk w x6 = some (mval m v)) (hO : OwnR w0 w v m.fs) (c : Int) (hm : c = 0 -> m.Fit)
  (hx1 : x1 < w0.heap.size) {Q : Value -> World -> Prop}
  (q : ∀ m' c' r w', ((c = 0 /\ holdsF m = 0 /\ m' = m /\ c' = 0) ∨ (¬ (c = 0 /\ holdsF m = 0) /\ m' = zMf /\ c' = if c = 0 then holdsF m else c)) -> (∃ v', r = .tuple #[.agg (mval m' v').toArray, .int .i64 c'] /\ OwnR w0 w' v' m'.fs) -> Fr (λ c => c = x1) w w' -> Q r w') :
  Run (M.bind (
    bindO (binV BinOp.eql (.int .i64 c) (Value.int IntKind.i64 0)) λ x55 =>
    condM x55 (
     M.bind (rdM (ldA 6 (.pointer (some ⟨x6, 0, none⟩)))) λ x56 =>
     M.bind (F.granaryref4_manifestFields x56) λ x57 =>
     M.ret (Out.norm [x57])) (
     M.ret (Out.norm [.int .i64 c]))) λ o59 =>
   outK o59 (λ l58 =>
    bindO (binV BinOp.neq (getL l58 0) (Value.int IntKind.i64 0)) λ x62 =>
    condM x62 (
     bindO (buildV #[(Value.string ByteArray.empty), (Value.int IntKind.i64 0), (Value.int IntKind.i64 0), (Value.slice none 0 0), (Value.int IntKind.i64 0), (Value.int IntKind.i64 0)] []) λ x63 =>
     M.bind (stM 6 (.pointer (some ⟨x1, 0, none⟩)) x63) λ _ =>
     M.bind (rdM (ldA 6 (.pointer (some ⟨x1, 0, none⟩)))) λ x65 =>
     M.ret (Value.tuple #[x65, (getL l58 0)])) (
     M.bind (rdM (ldA 6 (.pointer (some ⟨x6, 0, none⟩)))) λ x66 =>
     M.bind (stM 6 (.pointer (some ⟨x1, 0, none⟩)) x66) λ _ =>
     M.bind (rdM (ldA 6 (.pointer (some ⟨x1, 0, none⟩)))) λ x68 =>
     M.ret (Value.tuple #[x68, (Value.int IntKind.i64 0)]))) (λ _ _ =>
    M.fail) (λ r61 => M.ret r61)) w Q:=by
 have z0 : buildV #[(Value.string ByteArray.empty), (Value.int IntKind.i64 0), (Value.int IntKind.i64 0), (Value.slice none 0 0), (Value.int IntKind.i64 0), (Value.int IntKind.i64 0)] [] = some (.agg (mval zMf nilS).toArray):=rfl
 have bad : ∀ (d : Int) {w2 : World}, Fr (λ _ => False) w w2 -> ¬ d = 0 -> (∀ w', Fr (λ c => c = x1) w w' -> Q (.tuple #[.agg (mval zMf nilS).toArray, .int .i64 d]) w') -> Run (bindO (binV BinOp.neq (getL [.int .i64 d] 0) (Value.int IntKind.i64 0)) λ x62 =>
    condM x62 (
     bindO (buildV #[(Value.string ByteArray.empty), (Value.int IntKind.i64 0), (Value.int IntKind.i64 0), (Value.slice none 0 0), (Value.int IntKind.i64 0), (Value.int IntKind.i64 0)] []) λ x63 =>
     M.bind (stM 6 (.pointer (some ⟨x1, 0, none⟩)) x63) λ _ =>
     M.bind (rdM (ldA 6 (.pointer (some ⟨x1, 0, none⟩)))) λ x65 =>
     M.ret (Value.tuple #[x65, (getL [.int .i64 d] 0)])) (
     M.bind (rdM (ldA 6 (.pointer (some ⟨x6, 0, none⟩)))) λ x66 =>
     M.bind (stM 6 (.pointer (some ⟨x1, 0, none⟩)) x66) λ _ =>
     M.bind (rdM (ldA 6 (.pointer (some ⟨x1, 0, none⟩)))) λ x68 =>
     M.ret (Value.tuple #[x68, (Value.int IntKind.i64 0)]))) w2 Q:=λ d {w2} f hd hq => by
  rw [getL_zero, binV_int, intBin_neq, decide_eq_false hd, Bool.not_false, Run_bindO_some, Run_condM_true, z0, Run_bindO_some]
  simp only [Run_bind]
  refine finN_run (f.bk_some h1 id) (by rw [f.wr (bk_lt h1) id]; exact hw1) (mval zMf nilS).toArray rfl rfl (mval_cell _ rfl) λ w3 f3 => ?_
  rw [Run_ret]
  exact hq w3 ((f.mono λ _ h => h.elim).trans f3 λ _ _ h => h)
 have l6 : ∀ {u : World}, Fr (λ _ => False) w u -> ldA 6 (.pointer (some ⟨x6, 0, none⟩)) u = some (.agg (mval m v).toArray):=λ f => ldA_bk (f.bk_some h6 id) (Nat.le_refl _)
 rw [Run_bind, binV_int, intBin_eql, Run_bindO_some]
 by_cases hc : c = 0
 ·rw [decide_eq_true hc, Run_condM_true, Run_bind, Run_rdM]
  refine ⟨_, l6 (Fr.refl _ _), ?_⟩
  rw [Run_bind]
  refine (rholds_run hpw hO.sl.1 (hm hc)).mono ?_
  rintro _ w2 ⟨rfl, f2⟩
  rw [Run_ret, outK_norm]
  by_cases hk : holdsF m = 0
  ·have h00 : (!decide ((0 : Int) = 0)) = false:=by decide
   rw [hk, getL_zero, binV_int, intBin_neq, h00, Run_bindO_some, Run_condM_false, Run_bind, Run_rdM]
   refine ⟨_, l6 f2, ?_⟩
   simp only [Run_bind]
   refine finN_run (f2.bk_some h1 id) (by rw [f2.wr (bk_lt h1) id]; exact hw1) (mval m v).toArray rfl rfl (mval_cell _ hO.sl.1.isCell) λ w3 f3 => ?_
   rw [Run_ret]
   refine q m 0 _ w3 (.inl ⟨hc, hk, rfl, rfl⟩) ⟨v, rfl, ?_⟩ ((f2.mono λ _ h => h.elim).trans f3 λ _ _ h => h)
   exact (hO.frm f2 λ _ h => h.elim).frm f3 λ c hc => hc ▸ hx1
  ·exact bad _ f2 hk λ w' f' => q zMf (holdsF m) _ w' (.inr ⟨λ h => hk h.2, rfl, by rw [if_pos hc]⟩) ⟨nilS, rfl, OwnR.nil _ _⟩ f'
 ·rw [decide_eq_false hc, Run_condM_false, Run_ret, outK_norm]
  exact bad c (Fr.refl _ _) hc λ w' f' => q zMf c _ w' (.inr ⟨λ h => hc h.1, rfl, by rw [if_neg hc]⟩) ⟨nilS, rfl, OwnR.nil _ _⟩ f'
theorem man_start {l : List UInt8} {β : Type} {K : Value -> Value -> Value -> M β} {Q : β -> World -> Prop}
  (q : ∀ x1 b x6 wc w', bk wc x1 = some (mval zMf nilS) -> wr wc x1 = true -> x1 ≠ b -> x1 ≠ x6 -> w.heap.size <= x1 -> w.heap.size <= b -> w.heap.size <= x6 -> Fr (λ _ => False) w wc -> b < wc.heap.size -> x6 < wc.heap.size -> RQ wc w' b l 0 false x6 (mval zMf nilS) -> Run (K (.pointer (some ⟨x1, 0, none⟩)) (.pointer (some ⟨b, 0, none⟩)) (.pointer (some ⟨x6, 0, none⟩))) w' Q) :
  Run (M.bind (newM 34 #[(Value.string ByteArray.empty), (Value.int IntKind.i64 0), (Value.int IntKind.i64 0), (Value.slice none 0 0), (Value.int IntKind.i64 0), (Value.int IntKind.i64 0)]) λ x1 =>
 bindO (buildV #[(Value.string ByteArray.empty), (Value.int IntKind.i64 0), (Value.bool false)] [(0, 1, .string (sb l))]) λ x2 =>
 M.bind (newM 130 (Value.cells x2)) λ x3 =>
 bindO (buildV #[(Value.string ByteArray.empty), (Value.int IntKind.i64 0), (Value.int IntKind.i64 0), (Value.slice none 0 0), (Value.int IntKind.i64 0), (Value.int IntKind.i64 0)] []) λ x4 =>
 M.bind (newM 34 #[(Value.string ByteArray.empty), (Value.int IntKind.i64 0), (Value.int IntKind.i64 0), (Value.slice none 0 0), (Value.int IntKind.i64 0), (Value.int IntKind.i64 0)]) λ x5 =>
 M.bind (stM 6 x5 x4) λ _ => K x1 x3 x5) w Q:=by
 have z0 : buildV #[(Value.string ByteArray.empty), (Value.int IntKind.i64 0), (Value.int IntKind.i64 0), (Value.slice none 0 0), (Value.int IntKind.i64 0), (Value.int IntKind.i64 0)] [] = some (.agg (mval zMf nilS).toArray):=rfl
 have bld : buildV #[(Value.string ByteArray.empty), (Value.int IntKind.i64 0), (Value.bool false)] [(0, 1, .string (sb l))] = some (.agg #[.string (sb l), .int .i64 0, .bool false]):=rfl
 rw [Run_bind]
 refine Run_new λ x1 wa hx1 hw1 fa hx1le => ?_
 replace hx1 : bk wa x1 = some (mval zMf nilS):=hx1
 rw [bld, Run_bindO_some, Run_bind]
 refine Run_new λ b wb hb hwb fb hble => ?_
 rw [z0, Run_bindO_some, Run_bind]
 refine Run_new λ x6 wc hx6 hw6 fc hx6le => ?_
 rw [Run_bind, Run_stA (n:=6) ⟨⟨⟨_, hx6, by simp⟩, hw6⟩, rfl, mval_cell zMf rfl⟩]
 have l1:=bk_lt hx1
 have lb:=bk_lt hb
 have l6:=bk_lt hx6
 have s1:=fb.size
 have s2:=fc.size
 have sa:=fa.size
 rw [show (mval zMf nilS).toArray.toList = mval zMf nilS from rfl]
 have f : Fr (λ c => c = x6) wc (sto wc x6 0 (mval zMf nilS)):=(show Fr (λ c => c = x6) wc wc from Fr.refl _ _).sto (.inl rfl) _ _
 refine q x1 b x6 wc _ (fc.bk_some (fb.bk_some hx1 id) id) (by rw [fc.wr (bk_lt (fb.bk_some hx1 id)) id, fb.wr l1 id]; exact hw1) (by omega) (by omega) (by omega) (by omega) (by omega) ((fa.trans fb λ _ _ => id).trans fc λ _ _ => id) (by omega) l6 ?_
 exact ⟨⟨f.bk_some (fc.bk_some hb id) λ e => by omega, by rw [wr_sto, fc.wr lb id]; exact hwb⟩, by omega, by rw [bk_sto_same hx6]; rfl, by rw [wr_sto]; exact hw6, by omega, f.mono λ _ h => .inr h⟩
theorem hdg10 : ∀ (y r : List UInt8), y.head? = some 10 -> ∀ c, (y ++ r).head? = some c -> isD c = false /\ wdC c = false:=by
 intro y r hy c hc
 cases y with
 | nil => cases hy
 | cons z y =>
  simp only [List.head?_cons, Option.some.injEq, List.cons_append] at hy hc
  rw [<- hc, hy]; exact ⟨rfl, rfl⟩
theorem rmanparse_yes (hpw : bk w 0 = some powV) {l : List UInt8} {m : Mf} {sm : Nat} (hl : l.length <= 4294960000) (hf : maform l m sm) : Run (F.granaryref4_ParseManifest (.string (sb l))) w λ r w' => ParM w w' (resM l m sm) (codeM l m sm) r:=by
 have hfit:=maform_fit hf hl
 obtain ⟨ls, d1, d2, d3, d4, e1, e, hf⟩:=hf
 obtain ⟨v1, g1, r1⟩:=hf.ver
 obtain ⟨v2, g2, r2⟩:=hf.node
 have g3:=hf.cnt
 obtain ⟨v4, g4, r4⟩:=hf.tot
 obtain ⟨v5, g5, r5⟩:=hf.who
 have hee:=hf.sum
 have hll:=hf.len
 have hrows:=hf.rows
 unfold F.granaryref4_ParseManifest
 have eN0 : ByteArray.mk #[103, 114, 97, 110, 97, 114, 121, 32, 109, 97, 110, 105, 102, 101, 115, 116, 32, 49, 10, 115, 116, 111, 114, 101, 32] = sb N0:=rfl
 have eN1 : ByteArray.mk #[10, 118, 101, 114, 115, 105, 111, 110, 32] = sb N1:=rfl
 have eN2 : ByteArray.mk #[10, 110, 111, 100, 101, 32] = sb N2:=rfl
 have eN3 : ByteArray.mk #[10, 102, 105, 108, 101, 115, 32] = sb N3:=rfl
 have eZ0 : ByteArray.mk #[116, 111, 116, 97, 108, 32] = sb Z0:=rfl
 have eZ1 : ByteArray.mk #[10, 119, 104, 111, 108, 101, 32] = sb Z1:=rfl
 have e10 : ByteArray.mk #[10] = sb [10]:=rfl
 rw [eN0, eN1, eN2, eN3, eZ0, eZ1, e10]
 refine man_start λ x1 b x6 wc w0 hx1 hw1 h1b h16 hx1le hble hx6le fac hbc h6c n0 => ?_
 have lw:=fac.size
 have lx1:=bk_lt hx1
 have hpc:=fac.bk_some hpw id
 have hpl:=bk_lt hpw
 have hd0:=hf.txt
 rw [<- List.drop_zero (l:=l)] at hd0
 have htx:=congrArg List.length hf.txt
 simp only [List.length_append] at htx
 refine n0.litG (by omega) (by decide) hd0 λ ws p1 n1 hd1 => ?_
 refine n1.wordG (by omega) hd1 hf.st0 hf.st32 hf.st10 (λ c hc => (hdg10 N1 _ rfl c hc).2) λ ws p2 n2 hd2 => ?_
 refine n2.put (i:=0) (by simp [zMf, mval]) rfl λ ws n2 => ?_
 refine n2.litG (by omega) (by decide) hd2 λ ws p3 n3 hd3 => ?_
 refine n3.numG (by omega) hd3 g1 (λ c hc => (hdg10 N2 _ rfl c hc).1) λ ws p4 n4 hd4 => ?_
 refine n4.put (i:=1) (by simp [zMf, mval]) rfl λ ws n4 => ?_
 refine n4.litG (by omega) (by decide) hd4 λ ws p5 n5 hd5 => ?_
 refine n5.numG (by omega) hd5 g2 (λ c hc => (hdg10 N3 _ rfl c hc).1) λ ws p6 n6 hd6 => ?_
 refine n6.put (i:=2) (by simp [zMf, mval]) rfl λ ws n6 => ?_
 refine n6.litG (by omega) (by decide) hd6 λ ws p7 n7 hd7 => ?_
 refine n7.numG (by omega) hd7 g3 (λ c hc => (hdg10 [10] _ rfl c hc).1) λ ws p8 n8 hd8 => ?_
 refine n8.litG (by omega) (by decide) hd8 λ ws p9 n9 hd9 => ?_
 have hcnt:=lns_cnt ls
 rw [Run_bind]
 have e6 : ((((mval zMf nilS).set 0 (.string (sb m.st))).set 1 (.int .i64 (v1 : Int))).set 2 (.int .i64 (v2 : Int))) = mval ⟨m.st, v1, v2, [], 0, 0⟩ nilS:=rfl
 rw [e6] at n9
 have ldb : ∀ {u : World} {p' : Nat} {bad : Bool} {l6 : List Value}, RQ wc u b l p' bad x6 l6 -> ld1 (.pointer (some ⟨b, 0 + 2, none⟩)) u = some (.bool bad):=λ h => by rw [ld1_ptr, h.rs.1]; rfl
 have nv : ∀ b, notV (.bool b) = some (.bool !b):=λ _ => rfl
 refine Run_for m.fs.length (λ i L w' => L = [.int .i64 (i : Int)] /\ ∃ p v, RQ wc w' b l p false x6 (mval ⟨m.st, v1, v2, [], 0, 0⟩ v) /\ l.drop p = lnsL (ls.drop i) ++ (Z0 ++ (d4 ++ (Z1 ++ (e1 ++ ([10] ++ (SUM ++ e ++ [10])))))) /\ OwnR wc w' v (m.fs.take i)) ⟨rfl, p9, nilS, n9, hd9, OwnR.nil _ _⟩ ?_ ?_
 ·rintro i L wd hi ⟨rfl, p, v, n, hd, hO⟩
  obtain ⟨f, hfi⟩ : ∃ f, m.fs[i]? = some f:=⟨_, List.getElem?_eq_getElem hi⟩
  have hil : i < ls.length:=by omega
  obtain ⟨t, hti⟩ : ∃ t, ls[i]? = some t:=⟨_, List.getElem?_eq_getElem hil⟩
  have hdl : ls.drop i = t :: ls.drop (i + 1):=by
   obtain ⟨h1, h2⟩:=List.getElem?_eq_some_iff.1 hti
   rw [<- h2, List.getElem_cons_drop]
  have hdl2 : lnsL (ls.drop i) = t ++ ([10] ++ lnsL (ls.drop (i + 1))):=by rw [hdl]; simp [lnsL]
  rw [hdl2, List.append_assoc, List.append_assoc] at hd
  have hint : (i : Int) < (m.fs.length : Nat):=by omega
  have fb2 : fieldA 2 (.pointer (some ⟨b, 0, none⟩)) = some (.pointer (some ⟨b, 0 + 2, none⟩)):=fieldA_ptr 2 b 0
  rw [getL_zero, lssT hint, Run_bindO_some]
  simp only [Run_bind, Run_guardM_tt, Run_ret, nilChk_ptr, Run_optM_some, fb2, Run_rdM]
  refine ⟨_, ldb n, ?_⟩
  rw [nv, Run_optM_some]
  simp only [Bool.not_false, pickV_bool, cond_true, Run_bindO_some, Run_condM_true, Run_bind]
  refine (rfile_G n.rs n.hp (by omega) hd (hrows i t f hti hfi)).mono ?_
  rintro _ we ⟨rfl, ⟨p', rs', hp', hd'⟩, fe⟩
  have ne:=n.call fe rs' hp'
  have hOe : OwnR wc we v (m.fs.take i):=hO.frm fe λ c hc => hc ▸ hbc
  refine Run_new λ y wf hy hyw ff hyle => ?_
  have sff:=ff.size
  have sne:=n.fr.size
  have sfe:=fe.size
  have nf : RQ wc wf b l p' false x6 _:=ne.oth (ff.mono λ _ h => h.elim) hbc (ff.bk_some ne.b6 id) (by rw [ff.wr (bk_lt ne.b6) id]; exact ne.w6)
  have hOf:=hOe.frm ff λ _ h => h.elim
  refine Run_bind.1 (push_run nf.b6 nf.w6 (v:=v) rfl rfl h6c (by omega) hy hyw rfl (by omega) (λ h => by have:=(hOe.fresh _ h).2; omega) hOf (by rw [List.length_take]; omega) f λ w' r hb6 hw6 hrc hOr fr => ?_)
  rw [binV_int, intBin_add, wrap_succ' (by omega), Run_bindO_some, Run_ret]
  refine ⟨rfl, p', r, nf.oth fr hbc hb6 hw6, hd', ?_⟩
  rw [take_snocP hfi]
  exact hOr
 ·rintro L wd ⟨rfl, p, v, n, hd, hO⟩
  have hint : ¬ ((m.fs.length : Nat) : Int) < (m.fs.length : Nat):=by omega
  rw [List.take_length] at hO
  rw [show ls.drop m.fs.length = [] from List.drop_of_length_le (by omega), show lnsL [] = [] from rfl, List.nil_append] at hd
  rw [getL_zero, lssF hint, Run_bindO_some]
  simp only [Run_bind, Run_guardM_ft, pickV_bool, cond_false, Run_bindO_some, Run_condM_false, Run_ret, outK_exit]
  rw [show Nat.beq 0 0 = true from rfl, cond_true]
  have k0 : RQ wd wd b l p false x6 (mval ⟨m.st, v1, v2, [], 0, 0⟩ v):=⟨n.rs, n.hp, n.b6, n.w6, n.ne, Fr.refl _ _⟩
  have hvc:=hO.sl.1.isCell
  refine k0.litG (by omega) (by decide) hd λ we q1 k1 hd1 => ?_
  refine k1.numG (by omega) hd1 g4 (λ c hc => (hdg10 Z1 _ rfl c hc).1) λ we q2 k2 hd2 => ?_
  refine k2.put (i:=4) (by simp [mval]) rfl λ we k2 => ?_
  refine k2.litG (by omega) (by decide) hd2 λ we q3 k3 hd3 => ?_
  refine k3.sumG (by omega) hd3 g5 λ we q4 k4 hd4 => ?_
  refine k4.put (i:=5) (by simp [mval]) rfl λ we k4 => ?_
  refine k4.litG (by omega) (by decide) hd4 λ we q5 k5 hd5 => ?_
  rw [Run_bind]
  refine (last_run k5.rs k5.hp (by omega)).mono ?_
  rintro r wf ⟨hyes, hno, ff⟩
  have f0 : Fr (λ c => c = b ∨ c = x6) wd wf:=k5.fr.trans ff λ _ _ h => .inl h
  have f1 : Fr (λ c => c = b ∨ c = x6) wc wf:=n.fr.trans f0 λ _ _ h => h
  have hrow : bk wf x6 = some (mval m v):=by
   rw [ff.bk_some k5.b6 k5.ne]
   obtain ⟨st, a, bb, fs, d, e'⟩:=m
   simp only at r1 r2 r4 r5
   rw [r1, r2, r4, r5]
   rfl
  have hr:=hyes e sm rfl hd5 hee
  have hp5 : q5 = l.length - 13:=by
   have h1:=congrArg List.length hd5
   have h2:=(sum_no10 hee).2
   have h3 : SUM.length = 4:=rfl
   have h4:=k5.hp
   rw [List.length_drop, List.length_append, List.length_append, List.length_singleton] at h1
   omega
  rw [hp5] at hr
  subst hr
  have hne : ¬ (x1 = b ∨ x1 = x6):=λ h => h.elim h1b h16
  have hOf : OwnR wc wf v m.fs:=hO.frm f0 λ c hc => hc.elim (λ h => h ▸ hbc) λ h => h ▸ h6c
  refine manend_run (f1.bk_some hpc (by omega)) (f1.bk_some hx1 hne) (by rw [f1.wr lx1 hne]; exact hw1) hrow hOf _ (λ _ => hfit) lx1 λ m' c' r w' hcase hval fr => ?_
  have fin : Fr (λ _ => False) w w':=fac.new ((f1.mono λ c hc => (show c = b ∨ c = x6 ∨ c = x1 from hc.elim .inl λ h => .inr (.inl h))).trans fr λ _ _ h => .inr (.inr h)) λ c hc => by omega
  have key : m' = resM l m sm /\ c' = codeM l m sm:=by
   unfold resM codeM
   by_cases hcrc : sm = crcF (sb (l.take (l.length - 13)))
   ·rw [if_pos hcrc] at hcase ⊢
    rcases hcase with ⟨_, h2, rfl, rfl⟩ | ⟨h2, rfl, rfl⟩
    ·rw [if_pos h2, h2]; exact ⟨rfl, rfl⟩
    ·rw [if_neg λ h => h2 ⟨rfl, h⟩, if_pos rfl]; exact ⟨rfl, rfl⟩
   ·rw [if_neg hcrc] at hcase ⊢
    rcases hcase with ⟨h1, _⟩ | ⟨h2, rfl, rfl⟩
    ·exact absurd h1 (by decide)
    ·rw [if_neg (by decide), if_neg (by decide)]; exact ⟨rfl, rfl⟩
  obtain ⟨v', rfl, hO'⟩:=hval
  rw [<- key.1, <- key.2]
  exact ⟨v', rfl, hO'.sl, λ c hc => ⟨Nat.le_trans lw (hO'.fresh c hc).1, (hO'.fresh c hc).2⟩, fin⟩
theorem rmanparse_no (hpw : bk w 0 = some powV) {l : List UInt8} (hl : l.length <= 4294960000) (hf : ∀ m sm, ¬ maform l m sm) : Run (F.granaryref4_ParseManifest (.string (sb l))) w λ r w' => ParM w w' zMf 40 r:=by
 unfold F.granaryref4_ParseManifest
 have eN0 : ByteArray.mk #[103, 114, 97, 110, 97, 114, 121, 32, 109, 97, 110, 105, 102, 101, 115, 116, 32, 49, 10, 115, 116, 111, 114, 101, 32] = sb N0:=rfl
 have eN1 : ByteArray.mk #[10, 118, 101, 114, 115, 105, 111, 110, 32] = sb N1:=rfl
 have eN2 : ByteArray.mk #[10, 110, 111, 100, 101, 32] = sb N2:=rfl
 have eN3 : ByteArray.mk #[10, 102, 105, 108, 101, 115, 32] = sb N3:=rfl
 have eZ0 : ByteArray.mk #[116, 111, 116, 97, 108, 32] = sb Z0:=rfl
 have eZ1 : ByteArray.mk #[10, 119, 104, 111, 108, 101, 32] = sb Z1:=rfl
 have e10 : ByteArray.mk #[10] = sb [10]:=rfl
 rw [eN0, eN1, eN2, eN3, eZ0, eZ1, e10]
 refine man_start λ x1 b x6 wc w0 hx1 hw1 h1b h16 hx1le hble hx6le fac hbc h6c n0 => ?_
 have lw:=fac.size
 have lx1:=bk_lt hx1
 have hpc:=fac.bk_some hpw id
 have hpl:=bk_lt hpw
 refine n0.litA (by omega) (by decide) λ ws p1 b1 n1 k1 => ?_
 refine n1.wordA (by omega) λ ws p2 b2 st n2 k2 => ?_
 refine n2.put (i:=0) (by simp [zMf, mval]) rfl λ ws n2 => ?_
 refine n2.litA (by omega) (by decide) λ ws p3 b3 n3 k3 => ?_
 refine n3.numA (by omega) λ ws p4 b4 v1 n4 k4 => ?_
 refine n4.put (i:=1) (by simp [zMf, mval]) rfl λ ws n4 => ?_
 refine n4.litA (by omega) (by decide) λ ws p5 b5 n5 k5 => ?_
 refine n5.numA (by omega) λ ws p6 b6 v2 n6 k6 => ?_
 refine n6.put (i:=2) (by simp [zMf, mval]) rfl λ ws n6 => ?_
 refine n6.litA (by omega) (by decide) λ ws p7 b7 n7 k7 => ?_
 refine n7.numA (by omega) λ ws p8 b8 v3 n8 k8 => ?_
 refine n8.litA (by omega) (by decide) λ ws p9 b9 n9 k9 => ?_
 have e6 : ((((mval zMf nilS).set 0 (.string (sb st))).set 1 (.int .i64 v1)).set 2 (.int .i64 v2)) = mval ⟨st, v1, v2, [], 0, 0⟩ nilS:=rfl
 rw [e6] at n9
 have ldb : ∀ {u : World} {p' : Nat} {bad : Bool} {l6 : List Value}, RQ wc u b l p' bad x6 l6 -> ld1 (.pointer (some ⟨b, 0 + 2, none⟩)) u = some (.bool bad):=λ h => by rw [ld1_ptr, h.rs.1]; rfl
 have nv : ∀ b, notV (.bool b) = some (.bool !b):=λ _ => rfl
 have fb2 : fieldA 2 (.pointer (some ⟨b, 0, none⟩)) = some (.pointer (some ⟨b, 0 + 2, none⟩)):=fieldA_ptr 2 b 0
 rw [Run_bind]
 refine Run_loopM (λ L w' => ∃ (i : Nat) (p : Nat) (bad : Bool) (v : Value) (ls : List (List UInt8)) (fs : List Fl), L = [.int .i64 (i : Int)] /\ RQ wc w' b l p bad x6 (mval ⟨st, v1, v2, [], 0, 0⟩ v) /\ OwnR wc w' v fs /\ fs.length = i /\ i <= l.length + 1 /\
   (bad = false -> b9 = false /\ (i : Int) <= v3 /\ l.drop p9 = lnsL ls ++ l.drop p /\ ls.length = fs.length /\ i + p9 <= p /\ ∀ (i : Nat) (t : List UInt8) (f : Fl), ls[i]? = some t -> fs[i]? = some f -> rowF t f)) (λ L _ => l.length + 2 - (match getL L 0 with | .int _ z => z.toNat | _ => 0)) ?_ ⟨0, p9, b9, nilS, [], [], rfl, n9, OwnR.nil _ _, rfl, Nat.zero_le _, λ hb => ⟨hb, ?_, rfl, rfl, by omega, λ i t f h => by simp at h⟩⟩
 case refine_2 =>
  obtain ⟨a8, _⟩:=k9 hb
  obtain ⟨_, d, v, _, rfl, _⟩:=k8 a8
  omega
 rintro L wd ⟨i, p, bad, v, ls, fs, rfl, n, hO, hfi, hil, hk⟩
 have stop : ∀ {u : World}, u = wd -> (¬ (i : Int) < v3 ∨ bad = true) -> Run (M.bind (F.granaryref4_Reader_lit (.pointer (some ⟨b, 0, none⟩)) (.string (sb Z0))) λ _ =>
   M.bind (F.granaryref4_Reader_number (.pointer (some ⟨b, 0, none⟩))) λ x46 =>
   bindO (fieldA 4 (.pointer (some ⟨x6, 0, none⟩))) λ x47 =>
   M.bind (stM 1 x47 x46) λ _ =>
   M.bind (F.granaryref4_Reader_lit (.pointer (some ⟨b, 0, none⟩)) (.string (sb Z1))) λ _ =>
   M.bind (F.granaryref4_Reader_sum (.pointer (some ⟨b, 0, none⟩))) λ x50 =>
   bindO (fieldA 5 (.pointer (some ⟨x6, 0, none⟩))) λ x51 =>
   M.bind (stM 1 x51 x50) λ _ =>
   M.bind (F.granaryref4_Reader_lit (.pointer (some ⟨b, 0, none⟩)) (.string (sb [10]))) λ _ =>
   M.bind (F.granaryref4_Reader_last (.pointer (some ⟨b, 0, none⟩))) λ x54 =>
   M.bind (
    bindO (binV BinOp.eql x54 (Value.int IntKind.i64 0)) λ x55 =>
    condM x55 (
     M.bind (rdM (ldA 6 (.pointer (some ⟨x6, 0, none⟩)))) λ x56 =>
     M.bind (F.granaryref4_manifestFields x56) λ x57 =>
     M.ret (Out.norm [x57])) (
     M.ret (Out.norm [x54]))) λ o59 =>
   outK o59 (λ l58 =>
    bindO (binV BinOp.neq (getL l58 0) (Value.int IntKind.i64 0)) λ x62 =>
    condM x62 (
     bindO (buildV #[(Value.string ByteArray.empty), (Value.int IntKind.i64 0), (Value.int IntKind.i64 0), (Value.slice none 0 0), (Value.int IntKind.i64 0), (Value.int IntKind.i64 0)] []) λ x63 =>
     M.bind (stM 6 (.pointer (some ⟨x1, 0, none⟩)) x63) λ _ =>
     M.bind (rdM (ldA 6 (.pointer (some ⟨x1, 0, none⟩)))) λ x65 =>
     M.ret (Value.tuple #[x65, (getL l58 0)])) (
     M.bind (rdM (ldA 6 (.pointer (some ⟨x6, 0, none⟩)))) λ x66 =>
     M.bind (stM 6 (.pointer (some ⟨x1, 0, none⟩)) x66) λ _ =>
     M.bind (rdM (ldA 6 (.pointer (some ⟨x1, 0, none⟩)))) λ x68 =>
     M.ret (Value.tuple #[x68, (Value.int IntKind.i64 0)]))) (λ _ _ =>
    M.fail) (λ r61 => M.ret r61)) u λ r w' => ParM w w' zMf 40 r:=λ {u} hu hst => by
  subst hu
  have j0 : RQ u u b l p bad x6 (mval ⟨st, v1, v2, [], 0, 0⟩ v):=⟨n.rs, n.hp, n.b6, n.w6, n.ne, Fr.refl _ _⟩
  refine j0.litA (by omega) (by decide) λ we q1 c1 j1 i1 => ?_
  refine j1.numA (by omega) λ we q2 c2 v4 j2 i2 => ?_
  refine j2.put (i:=4) (by simp [mval]) rfl λ we j2 => ?_
  refine j2.litA (by omega) (by decide) λ we q3 c3 j3 i3 => ?_
  refine j3.sumA (by omega) λ we q4 c4 v5 j4 i4 => ?_
  refine j4.put (i:=5) (by simp [mval]) rfl λ we j4 => ?_
  refine j4.litA (by omega) (by decide) λ we q5 c5 j5 i5 => ?_
  rw [Run_bind]
  refine (last_run j5.rs j5.hp (by omega)).mono ?_
  rintro r wf ⟨hyes, hno, ff⟩
  have f0 : Fr (λ c => c = b ∨ c = x6) u wf:=j5.fr.trans ff λ _ _ h => .inl h
  have f1 : Fr (λ c => c = b ∨ c = x6) wc wf:=n.fr.trans f0 λ _ _ h => h
  have hr : r = .int .i64 40:=by
   refine hno ?_
   cases hb : c5 with
   | true => exact .inl rfl
   | false =>
    refine .inr λ e sm he hs => ?_
    obtain ⟨a4, y5⟩:=i5 hb
    obtain ⟨a3, e1, s5, g5, r5, y4⟩:=i4 a4
    obtain ⟨a2, y3⟩:=i3 a3
    obtain ⟨a1, d4, s4, g4, r4, y2⟩:=i2 a2
    obtain ⟨a0, y1⟩:=i1 a1
    obtain ⟨z9, hiv, yl, hll, _, hrows⟩:=hk a0
    obtain ⟨z8, y9⟩:=k9 z9
    obtain ⟨z7, d3, s3, g3, r3, y8⟩:=k8 z8
    obtain ⟨z6, y7⟩:=k7 z7
    obtain ⟨z5, d2, s2, g2, r2, y6⟩:=k6 z6
    obtain ⟨z4, y5'⟩:=k5 z5
    obtain ⟨z3, d1, s1, g1, r1, y4'⟩:=k4 z4
    obtain ⟨z2, y3'⟩:=k3 z3
    obtain ⟨z1, st0, st32, st10, y2'⟩:=k2 z2
    obtain ⟨_, y1'⟩:=k1 z1
    have hcnt : s3 = fs.length:=by
     rcases hst with h | h
     ·omega
     ·rw [a0] at h; cases h
    rw [List.drop_zero] at y1'
    refine hf ⟨st, v1, v2, fs, v4, v5⟩ sm ⟨ls, d1, d2, d3, d4, e1, e, ?_, st0, st32, st10, ⟨s1, g1, r1⟩, ⟨s2, g2, r2⟩, by rw [g3, hcnt], ⟨s4, g4, r4⟩, ⟨s5, g5, r5⟩, hs, hll, hrows⟩
    rw [y2', y3', y4', y5', y6, y7, y8, y9, yl, y1, y2, y3, y4, y5, he] at y1'
    exact y1'
  subst hr
  have hrow:=ff.bk_some j5.b6 j5.ne
  have hrow' : bk wf x6 = some (mval ⟨st, v1, v2, fs, v4, v5⟩ v):=hrow
  have hne : ¬ (x1 = b ∨ x1 = x6):=λ h => h.elim h1b h16
  have hOf : OwnR wc wf v fs:=hO.frm f0 λ c hc => hc.elim (λ h => h ▸ hbc) λ h => h ▸ h6c
  refine manend_run (f1.bk_some hpc (by omega)) (f1.bk_some hx1 hne) (by rw [f1.wr lx1 hne]; exact hw1) hrow' hOf 40 (λ h => absurd h (by decide)) lx1 λ m' c' r w' hcase hval fr => ?_
  have fin : Fr (λ _ => False) w w':=fac.new ((f1.mono λ c hc => (show c = b ∨ c = x6 ∨ c = x1 from hc.elim .inl λ h => .inr (.inl h))).trans fr λ _ _ h => .inr (.inr h)) λ c hc => by omega
  rcases hcase with ⟨h1, _⟩ | ⟨h2, rfl, rfl⟩
  ·exact absurd h1 (by decide)
  obtain ⟨v', rfl, hO'⟩:=hval
  rw [if_neg (by decide)]
  exact ⟨v', rfl, hO'.sl, λ c hc => ⟨Nat.le_trans lw (hO'.fresh c hc).1, (hO'.fresh c hc).2⟩, fin⟩
 rw [getL_zero, binV_int, intBin_lss, Run_bindO_some]
 by_cases hint : (i : Int) < v3
 case neg =>
  rw [decide_eq_false hint]
  simp only [Run_bind, Run_guardM_ft, pickV_bool, cond_false, Run_bindO_some, Run_condM_false, Run_ret, outK_exit]
  rw [show Nat.beq 0 0 = true from rfl, cond_true]
  exact stop rfl (.inl hint)
 rw [decide_eq_true hint]
 simp only [Run_bind, Run_guardM_tt, Run_ret, nilChk_ptr, Run_optM_some, fb2, Run_rdM]
 refine ⟨_, ldb n, ?_⟩
 rw [nv, Run_optM_some]
 cases hbad : bad with
 | true =>
  simp only [Bool.not_true, pickV_bool, cond_true, Run_bindO_some, Run_condM_false, Run_ret, outK_exit]
  rw [show Nat.beq 0 0 = true from rfl, cond_true]
  exact stop rfl (.inr hbad)
 | false =>
 have hk':=hk hbad
 have hple:=n.hp
 simp only [Bool.not_false, pickV_bool, cond_true, Run_bindO_some, Run_condM_true, Run_bind]
 refine (rfile_A n.rs n.hp (by omega)).mono ?_
 rintro _ we ⟨⟨f, p', bad', rfl, rs', hp', hstep⟩, fe⟩
 have ne:=n.call fe rs' hp'
 have hOe : OwnR wc we v fs:=hO.frm fe λ c hc => hc ▸ hbc
 refine Run_new λ y wf hy hyw ff hyle => ?_
 have sff:=ff.size
 have sne:=n.fr.size
 have sfe:=fe.size
 have nf : RQ wc wf b l p' bad' x6 _:=ne.oth (ff.mono λ _ h => h.elim) hbc (ff.bk_some ne.b6 id) (by rw [ff.wr (bk_lt ne.b6) id]; exact ne.w6)
 have hOf:=hOe.frm ff λ _ h => h.elim
 refine Run_bind.1 (push_run nf.b6 nf.w6 (v:=v) rfl rfl h6c (by omega) hy hyw rfl (by omega) (λ h => by have:=(hOe.fresh _ h).2; omega) hOf (by omega) f λ w' r hb6 hw6 hrc hOr fr => ?_)
 rw [binV_int, intBin_add, wrap_succ' (by omega), Run_bindO_some, Run_ret]
 refine ⟨⟨i + 1, p', bad', r, ?_⟩, ?_⟩
 ·by_cases hb' : bad' = false
  ·obtain ⟨_, t, ht, hdt⟩:=hstep hb'
   have hlen:=congrArg List.length hdt
   rw [List.length_append, List.length_append, List.length_drop, List.length_drop, List.length_singleton] at hlen
   obtain ⟨z9, hiv, yl, hll, hip, hrows⟩:=hk'
   refine ⟨ls ++ [t], fs ++ [f], rfl, nf.oth fr hbc hb6 hw6, hOr, by rw [List.length_append, hfi]; rfl, by omega, λ _ => ⟨z9, by omega, ?_, by rw [List.length_append, List.length_append, hll]; rfl, by omega, ?_⟩⟩
   ·rw [yl, hdt]
    simp [lnsL]
   ·intro j t' f' h1 h2
    by_cases hj : j < ls.length
    ·rw [List.getElem?_append_left hj] at h1
     rw [List.getElem?_append_left (by omega)] at h2
     exact hrows j t' f' h1 h2
    ·rw [List.getElem?_append_right (by omega)] at h1
     rw [List.getElem?_append_right (by omega)] at h2
     have hj1:=(List.getElem?_eq_some_iff.1 h1).1
     rw [List.length_singleton] at hj1
     have e1 : j - ls.length = 0:=by omega
     have e2 : j - fs.length = 0:=by omega
     rw [e1] at h1
     rw [e2] at h2
     simp only [List.getElem?_cons_zero, Option.some.injEq] at h1 h2
     subst h1; subst h2
     exact ht
  ·obtain ⟨z9, hiv, yl, hll, hip, hrows⟩:=hk'
   exact ⟨ls, fs ++ [f], rfl, nf.oth fr hbc hb6 hw6, hOr, by rw [List.length_append, hfi]; rfl, by omega, λ h => absurd h hb'⟩
 ·show l.length + 2 - (((i + 1 : Nat) : Int)).toNat < l.length + 2 - ((i : Nat) : Int).toNat
  obtain ⟨z9, hiv, yl, hll, hip, hrows⟩:=hk'
  omega
end
theorem num_no {d : List UInt8} {v : Nat} {c : UInt8} (hc : isD c = false) (h : numF d = some v) : c ∉ d:=λ hm => by
 have:=List.all_eq_true.1 (num_all h).1 c hm
 rw [hc] at this; cases this
theorem sum_no {e : List UInt8} {v : Nat} {c : UInt8} (hc : hvN c.toNat = none) (h : sumF e = some v) : c ∉ e:=by
 have hl:=(sum_no10 h).2
 unfold sumF at h
 rw [if_pos hl] at h
 cases hp : pairsF e 4 with
 | none => rw [hp] at h; cases h
 | some bs => exact pairs_no10 hc (n:=4) (by omega) hp
theorem row_words {s : List UInt8} {f : Fl} {dz ec eh : List UInt8} (h : RowF s f dz ec eh) : spl 32 s = [FILE, f.nm, dz, ec, eh]:=by
 have hs : s = jn 32 [FILE, f.nm, dz, ec, eh]:=by
  rw [h.txt]
  simp [jn, R0, FILE]
 obtain ⟨z, hz, _⟩:=h.sz
 obtain ⟨c, hc, _⟩:=h.crc
 rw [hs]
 refine spl_of 32 (by simp) λ x hx => ?_
 simp only [List.mem_cons, List.not_mem_nil, or_false] at hx
 rcases hx with rfl | rfl | rfl | rfl | rfl
 ·decide
 ·exact h.nm32
 ·exact num_no (by decide) hz
 ·exact sum_no (by decide) hc
 ·exact pairs_no10 (by decide) (n:=16) (by have:=h.md.1; omega) h.md.2
def rowC (N : List (List UInt8)) (f : Fl) : Prop:=∃ dz ec eh, N = [FILE, f.nm, dz, ec, eh] /\ f.nm ≠ [] /\ (∃ z : Nat, numF dz = some z /\ f.sz = z) /\ (∃ c : Nat, sumF ec = some c /\ f.crc = c) /\ eh.length = 32 /\ pairsF eh 16 = some f.md
theorem rowC_iff {s : List UInt8} (h10 : (10 : UInt8) ∉ s) {f : Fl} : rowF s f ↔ rowC (spl 32 s) f:=by
 constructor
 ·rintro ⟨dz, ec, eh, h⟩
  exact ⟨dz, ec, eh, row_words h, h.nm0, h.sz, h.crc, h.md.1, h.md.2⟩
 ·rintro ⟨dz, ec, eh, hN, h0, hz, hc, h1, h2⟩
  obtain ⟨hj, hno⟩:=spl_jn 32 s
  rw [hN] at hj hno
  refine ⟨dz, ec, eh, ?_, h0, hno f.nm (by simp), λ hm => h10 ?_, hz, hc, h1, h2⟩
  ·rw [<- hj]; simp [jn, R0, FILE]
  ·rw [<- hj]; simp [jn, hm]
section
variable {w w1 w2 : World}
theorem row_run (ht : Tb w) {s : List UInt8} (hs : s.length <= 4294967000) (h10 : (10 : UInt8) ∉ s) : Run (F.paper_row (.string (sb s))) w λ r w' => (∃ f b, r = .tuple #[.agg f.row.toArray, .bool b] /\ (b = true -> rowF s f) /\ ∀ f', rowF s f' -> b = true /\ f = f') /\ Fr (λ _ => False) w w':=by
 unfold F.paper_row
 have z0 : buildV #[(Value.string ByteArray.empty), (Value.int IntKind.i64 0), (Value.int IntKind.i64 0), (Value.string ByteArray.empty)] [] = some (.agg zFl.row.toArray):=rfl
 have e32 : ByteArray.mk #[32] = sb [32]:=rfl
 have e0 : ByteArray.mk #[] = sb []:=rfl
 have eF : ByteArray.mk #[102, 105, 108, 101] = sb FILE:=rfl
 have y0 : ∀ v x, extV 0 (.tuple #[v, x]) = some v:=λ _ _ => rfl
 have y1 : ∀ v x, extV 1 (.tuple #[v, x]) = some x:=λ _ _ => rfl
 rw [e32, e0, eF, Run_bind]
 refine Run_new λ x w1 hx hxw f1 hxle => ?_
 replace hx : bk w1 x = some zFl.row:=hx
 rw [Run_bind]
 refine (split_run (ht.fr0 f1) s 32 (by omega)).mono ?_
 rintro v w2 ⟨hv, f2, hn2⟩
 have f12:=f1.trans f2 λ _ _ => id
 have hiff:=λ f => rowC_iff (f:=f) h10
 have hjn:=spl_jn 32 s
 generalize spl 32 s = N at *
 have hlv:=hv.1.lenL
 rw [List.length_map] at hlv
 have hlen : ∀ y ∈ N, y.length <= s.length:=λ y hy => by
  have : ∀ (N : List (List UInt8)), y ∈ N -> y.length <= (jn 32 N).length:=λ N => by
   induction N with
   | nil => intro h; cases h
   | cons z r ih =>
    intro h
    by_cases hr : r = []
    ·subst hr; simp at h; subst h; simp [jn]
    ·rw [jn_cons 32 hr, List.length_append, List.length_append]
     rcases List.mem_cons.1 h with rfl | h
     ·omega
     ·have:=ih h; omega
  have:=this N hy
  rwa [hjn.1] at this
 have no : (∀ f, ¬ rowC N f) -> ∀ {u : World}, Fr (λ _ => False) w1 u -> Run (bindO (some (Value.agg zFl.row.toArray)) λ x15 =>
  M.bind (stM 4 (.pointer (some ⟨x, 0, none⟩)) x15) λ _ =>
  M.bind (rdM (ldA 4 (.pointer (some ⟨x, 0, none⟩)))) λ x17 =>
  M.ret (Value.tuple #[x17, (Value.bool false)])) u λ r w' => (∃ f b, r = .tuple #[.agg f.row.toArray, .bool b] /\ (b = true -> rowF s f) /\ ∀ f', rowF s f' -> b = true /\ f = f') /\ Fr (λ _ => False) w w':=λ hno {u} f => by
  rw [Run_bindO_some]
  simp only [Run_bind]
  refine finN_run (f.bk_some hx id) (by rw [f.wr (bk_lt hx) id]; exact hxw) zFl.row.toArray rfl rfl zFl.row_cell λ w3 f3 => ?_
  rw [Run_ret]
  exact ⟨⟨zFl, false, rfl, λ h => Bool.noConfusion h, λ f' hf => absurd ((hiff f').1 hf) (hno f')⟩, (f1.trans f λ _ _ => id).new f3 λ c hc => hc ▸ hxle⟩
 rw [hlv, Run_bindO_some, binV_int, intBin_neq, Run_bindO_some]
 by_cases h5 : N.length = 5
 case neg =>
  have h5' : ¬ ((N.length : Nat) : Int) = 5:=by omega
  rw [decide_eq_false h5', Bool.not_false]
  simp only [Run_bind, Run_guardM_tf, pickV_bool, cond_true, Run_bindO_some, Run_condM_true]
  rw [z0]
  have:=no (λ f hc => by obtain ⟨_, _, _, hN, _⟩:=hc; rw [hN] at h5; exact h5 rfl) f2
  simp only [Run_bindO_some, Run_bind] at this ⊢
  exact this
 obtain ⟨x0, x1, x2, x3, x4, rfl⟩ : ∃ x0 x1 x2 x3 x4, N = [x0, x1, x2, x3, x4]:=by
  match N, h5 with
  | [x0, x1, x2, x3, x4], _ => exact ⟨_, _, _, _, _, rfl⟩
 have e5 : (!decide (((([x0, x1, x2, x3, x4] : List (List UInt8)).length : Nat) : Int) = 5)) = false:=rfl
 rw [e5]
 obtain ⟨q0, a0, b0⟩:=hv.1.rd1 (i:=0) (y:=.string (sb x0)) rfl .i64
 obtain ⟨q1, a1, b1⟩:=hv.1.rd1 (i:=1) (y:=.string (sb x1)) rfl .i64
 have a0' : idxA 1 v (.int .i64 0) = some q0:=a0
 have a1' : idxA 1 v (.int .i64 1) = some q1:=a1
 simp only [Run_bind, Run_guardM_ff, Run_ret, a0', Run_optM_some, Run_rdM]
 refine ⟨_, b0, ?_⟩
 rw [sbNe, Run_optM_some]
 simp only [pickV_bool, cond_false, Run_bindO_some]
 by_cases hF : x0 = FILE
 case neg =>
  rw [decide_eq_false hF, Bool.not_false]
  simp only [Run_bind, Run_guardM_tf, pickV_bool, cond_true, Run_bindO_some, Run_condM_true]
  rw [z0]
  have:=no (λ f hc => by obtain ⟨_, _, _, hN, _⟩:=hc; simp only [List.cons.injEq] at hN; exact hF hN.1) f2
  simp only [Run_bindO_some, Run_bind] at this ⊢
  exact this
 rw [decide_eq_true hF, Bool.not_true]
 simp only [Run_bind, Run_guardM_ff, Run_ret, a1', Run_optM_some, Run_rdM]
 refine ⟨_, b1, ?_⟩
 rw [sbEq, Run_optM_some]
 simp only [pickV_bool, cond_false, Run_bindO_some]
 by_cases h0 : x1 = []
 case pos =>
  rw [decide_eq_true h0, Run_condM_true, z0]
  have:=no (λ f hc => by obtain ⟨_, _, _, hN, hne, _⟩:=hc; simp only [List.cons.injEq] at hN; exact hne (by rw [<- hN.2.1]; exact h0)) f2
  simp only [Run_bindO_some, Run_bind] at this ⊢
  exact this
 rw [decide_eq_false h0, Run_condM_false]
 obtain ⟨q2, a2, b2⟩:=hv.1.rd1 (i:=2) (y:=.string (sb x2)) rfl .i64
 have a2' : idxA 1 v (.int .i64 2) = some q2:=a2
 rw [a2', Run_bindO_some, Run_bind, Run_rdM]
 refine ⟨_, b2, ?_⟩
 rw [Run_bind]
 refine (number_run x2 (by have:=hlen x2 (by simp); omega)).mono ?_
 rintro _ w3 ⟨rfl, f3⟩
 have e : ∀ o, extV 0 (numV o) = some (.int .i64 ((o.getD 0 : Nat) : Int)):=λ _ => rfl
 have e' : ∀ o, extV 1 (numV o) = some (.bool o.isSome):=λ _ => rfl
 have hv3:=hv.1.fr0 f3
 obtain ⟨q3, a3, b3⟩:=hv3.rd1 (i:=3) (y:=.string (sb x3)) rfl .i64
 have a3' : idxA 1 v (.int .i64 3) = some q3:=a3
 rw [e, Run_bindO_some, e', Run_bindO_some, a3', Run_bindO_some, Run_bind, Run_rdM]
 refine ⟨_, b3, ?_⟩
 rw [Run_bind]
 refine (sumOf_run (by have:=hlen x3 (by simp); omega)).mono ?_
 rintro _ w4 ⟨rfl, f4⟩
 have hv4:=hv3.fr0 f4
 obtain ⟨q4, a4, b4⟩:=hv4.rd1 (i:=4) (y:=.string (sb x4)) rfl .i64
 have a4' : idxA 1 v (.int .i64 4) = some q4:=a4
 rw [e, Run_bindO_some, e', Run_bindO_some, a4', Run_bindO_some, Run_bind, Run_rdM]
 refine ⟨_, b4, ?_⟩
 rw [Run_bind]
 refine (punhex_run (n:=16) (by decide) (by have:=hlen x4 (by simp); omega)).mono ?_
 rintro r5 w5 ⟨hr5, f5⟩
 have hv5:=hv4.fr0 f5
 obtain ⟨q1', a1'', b1'⟩:=hv5.rd1 (i:=1) (y:=.string (sb x1)) rfl .i64
 have a15 : idxA 1 v (.int .i64 1) = some q1':=a1''
 obtain rfl : q1' = q1:=Option.some.inj (a15.symm.trans a1')
 have f25:=((f2.trans f3 λ _ _ => id).trans f4 λ _ _ => id).trans f5 λ _ _ => id
 obtain ⟨md, hmd⟩ : ∃ md : List UInt8, r5 = .tuple #[.string (sb md), .bool (if x4.length = 2 * 16 then pairsF x4 16 else none).isSome] /\ ((if x4.length = 2 * 16 then pairsF x4 16 else none).isSome = true -> x4.length = 32 /\ pairsF x4 16 = some md):=by
  by_cases h32 : x4.length = 2 * 16
  ·rw [if_pos h32] at hr5 ⊢
   cases hp : pairsF x4 16 with
   | some b => rw [hp] at hr5; exact ⟨b, hr5, λ _ => ⟨by omega, rfl⟩⟩
   | none => rw [hp] at hr5; exact ⟨[], hr5, λ h => Bool.noConfusion h⟩
  ·rw [if_neg h32] at hr5 ⊢
   exact ⟨[], hr5, λ h => Bool.noConfusion h⟩
 rw [hmd.1, y0, Run_bindO_some, y1, Run_bindO_some, Run_bindO_some, Run_bind, Run_rdM]
 refine ⟨_, b1', ?_⟩
 have hb : buildV #[(Value.string ByteArray.empty), (Value.int IntKind.i64 0), (Value.int IntKind.i64 0), (Value.string ByteArray.empty)] [(0, 1, .string (sb x1)), (1, 1, .int .i64 (((numF x2).getD 0 : Nat) : Int)), (2, 1, .int .i64 (((sumF x3).getD 0 : Nat) : Int)), (3, 1, .string (sb md))] = some (.agg (Fl.row ⟨x1, (((numF x2).getD 0 : Nat) : Int), (((sumF x3).getD 0 : Nat) : Int), md⟩).toArray):=rfl
 rw [hb, Run_bindO_some]
 have fin : ∀ B : Bool, B = ((numF x2).isSome && ((sumF x3).isSome && (if x4.length = 2 * 16 then pairsF x4 16 else none).isSome)) -> Run (M.bind (stM 4 (.pointer (some ⟨x, 0, none⟩)) (.agg (Fl.row ⟨x1, (((numF x2).getD 0 : Nat) : Int), (((sumF x3).getD 0 : Nat) : Int), md⟩).toArray)) λ _ =>
  M.bind (rdM (ldA 4 (.pointer (some ⟨x, 0, none⟩)))) λ x41 =>
  M.ret (Value.tuple #[x41, .bool B])) w5 λ r w' => (∃ f b, r = .tuple #[.agg f.row.toArray, .bool b] /\ (b = true -> rowF s f) /\ ∀ f', rowF s f' -> b = true /\ f = f') /\ Fr (λ _ => False) w w':=λ B hB => by
  simp only [Run_bind]
  refine finN_run (f25.bk_some hx id) (by rw [f25.wr (bk_lt hx) id]; exact hxw) _ rfl rfl (Fl.row_cell _) λ w6 f6 => ?_
  rw [Run_ret]
  refine ⟨⟨_, B, rfl, λ hBt => ?_, λ f' hf => ?_⟩, (f1.trans f25 λ _ _ => id).new f6 λ c hc => hc ▸ hxle⟩
  ·rw [hB] at hBt
   simp only [Bool.and_eq_true] at hBt
   obtain ⟨h1, h2, h3⟩:=hBt
   obtain ⟨z, hz⟩:=Option.isSome_iff_exists.1 h1
   obtain ⟨c, hc⟩:=Option.isSome_iff_exists.1 h2
   obtain ⟨m1, m2⟩:=hmd.2 h3
   refine (hiff _).2 ⟨x2, x3, x4, by rw [hF], h0, ⟨z, hz, by rw [hz]; rfl⟩, ⟨c, hc, by rw [hc]; rfl⟩, m1, m2⟩
  ·have hc:=(hiff f').1 hf
   obtain ⟨dz, ec, eh, hN, _, ⟨z, a1, a2⟩, ⟨c, b1, b2⟩, m1, m2⟩:=hc
   simp only [List.cons.injEq, and_true] at hN
   obtain ⟨_, rfl, rfl, rfl, rfl⟩:=hN
   have h32 : x4.length = 2 * 16:=by omega
   have hBt : B = true:=by
    rw [hB, a1, b1, if_pos h32, m2]; rfl
   have hmm:=hmd.2 (by rw [if_pos h32, m2]; rfl)
   have hmd' : md = f'.md:=by rw [m2] at hmm; exact (Option.some.inj hmm.2).symm
   refine ⟨hBt, ?_⟩
   rw [a1, b1, hmd']
   show (⟨f'.nm, (z : Int), (c : Int), f'.md⟩ : Fl) = f'
   rw [<- a2, <- b2]
 cases hn : (numF x2).isSome with
 | false =>
  simp only [Run_bind, Run_guardM_ft, pickV_bool, cond_false, Run_bindO_some]
  have:=fin false (by rw [hn]; rfl)
  simp only [Run_bind, Run_ret] at this
  try simp only [Run_bind, Run_ret]
  exact this
 | true =>
  simp only [Run_bind, Run_guardM_tt, Run_ret, pickV_bool, cond_true, Run_bindO_some]
  cases hs2 : (sumF x3).isSome with
  | false =>
   simp only [Run_bind, Run_guardM_ft, pickV_bool, cond_false, Run_bindO_some]
   have:=fin false (by rw [hn, hs2]; rfl)
   simp only [Run_bind, Run_ret] at this
   try simp only [Run_bind, Run_ret]
   exact this
  | true =>
   simp only [Run_bind, Run_guardM_tt, Run_ret, pickV_bool, cond_true, Run_bindO_some]
   have:=fin _ (by rw [hn, hs2, Bool.true_and, Bool.true_and])
   simp only [Run_bind, Run_ret] at this
   try simp only [Run_bind, Run_ret]
   exact this
end
def wdF (word : List UInt8) : Fd:=⟨word, 0, 0, 0, .nilFunc⟩
def WH6 : List UInt8:=[119, 104, 111, 108, 101, 32]
def whoO (l : List UInt8) : Option Nat:=if WH6 <+: l then sumF (l.drop 6) else none
def headF (N : List (List UInt8)) (m : Mf) (ls : List (List UInt8)) : Prop:=∃ x0 x1 x2 x3 y0 y1, ∃ v1 v2 v4 v5 : Nat, N = x0 :: x1 :: x2 :: x3 :: (ls ++ [y0, y1]) /\ nameF STORE x0 = some m.st /\ (fldO (wdF VERSION) x1 = some v1 /\ m.ver = v1) /\ (fldO (wdF NODE) x2 = some v2 /\ m.node = v2) /\ fldO (wdF FILES) x3 = some ls.length /\ (fldO (wdF TOTAL) y0 = some v4 /\ m.tot = v4) /\ (whoO y1 = some v5 /\ m.who = v5)
theorem split_ends {N : List (List UInt8)} (h : 6 <= N.length) : ∃ x0 x1 x2 x3 ls y0 y1, N = x0 :: x1 :: x2 :: x3 :: (ls ++ [y0, y1]):=by
 match N, h with
 | x0 :: x1 :: x2 :: x3 :: R, h =>
  rcases List.eq_nil_or_concat R with rfl | ⟨R1, y1, rfl⟩
  ·simp at h
  rcases List.eq_nil_or_concat R1 with rfl | ⟨R2, y0, rfl⟩
  ·simp at h
  exact ⟨x0, x1, x2, x3, R2, y0, y1, by simp⟩
structure HS (w0 w : World) (v : Value) (N : List (List UInt8)) (x2 x4 : Nat) (l2 l4 : List Value) : Prop where
 sl : Sl 1 w v (N.map λ s => [.string (sb s)])
 b2 : bk w x2 = some l2
 w2 : wr w x2 = true
 b4 : bk w x4 = some l4
 w4 : wr w x4 = true
 n2 : l2.length = 6
 n4 : l4.length = 6
 ne : x2 ≠ x4
 v2 : ¬ inB v x2
 v4 : ¬ inB v x4
 fr : Fr (λ c => c = x2 ∨ c = x4) w0 w
section
variable {w w1 w2 : World}
section
variable {w0 : World} {v : Value} {N : List (List UInt8)} {x2 x4 : Nat} {l2 l4 : List Value} {β : Type}
theorem HS.frm (h : HS w0 w v N x2 x4 l2 l4) (f : Fr (λ _ => False) w w2) : HS w0 w2 v N x2 x4 l2 l4 :=
 ⟨h.sl.fr0 f, f.bk_some h.b2 id, by rw [f.wr (bk_lt h.b2) id]; exact h.w2, f.bk_some h.b4 id, by rw [f.wr (bk_lt h.b4) id]; exact h.w4, h.n2, h.n4, h.ne, h.v2, h.v4, h.fr.trans f λ _ _ h => h.elim⟩
theorem HS.set2 (h : HS w0 w v N x2 x4 l2 l4) {i : Nat} (hi : i < 6) {y : Value} (hy : isCell y = true) {K : M β} {Q : β -> World -> Prop} (q : ∀ w', HS w0 w' v N x2 x4 (l2.set i y) l4 -> Run K w' Q) :
  Run (bindO (nilChk (.pointer (some ⟨x2, 0, none⟩))) λ x10 => bindO (fieldA i x10) λ x11 => M.bind (stM 1 x11 y) λ _ => K) w Q:=by
 rw [nilChk_ptr, Run_bindO_some, fieldA_ptr, Run_bindO_some, Run_bind, Run_st1 ⟨⟨⟨l2, h.b2, by rw [h.n2]; omega⟩, h.w2⟩, hy⟩, Nat.zero_add]
 have f : Fr (λ c => c = x2) w (sto w x2 i [y]):=(show Fr (λ c => c = x2) w w from Fr.refl _ _).sto (.inl rfl) _ _
 exact q _ ⟨h.sl.fr f λ c hc he => h.v2 (he ▸ hc), by rw [bk_sto_same h.b2]; simp only [setL_cons, setL_nil], by rw [wr_sto]; exact h.w2, f.bk_some h.b4 λ e => h.ne e.symm, by rw [wr_sto]; exact h.w4, by rw [List.length_set]; exact h.n2, h.n4, h.ne, h.v2, h.v4, h.fr.trans f λ _ _ h => .inl h⟩
theorem HS.set4 (h : HS w0 w v N x2 x4 l2 l4) {i : Nat} (hi : i < 6) {y : Bool} {K : M β} {Q : β -> World -> Prop} (q : ∀ w', HS w0 w' v N x2 x4 l2 (l4.set i (.bool y)) -> Run K w' Q) :
  Run (bindO (idxR 6 1 (.pointer (some ⟨x4, 0, none⟩)) (.int .i64 (i : Int))) λ x13 => M.bind (stM 1 x13 (.bool y)) λ _ => K) w Q:=by
 have hix : idxR 6 1 (.pointer (some ⟨x4, 0, none⟩)) (.int .i64 (i : Int)) = some (.pointer (some ⟨x4, i, none⟩)):=by
  have h2 : (i : Int) < 6:=by omega
  simp [h2]
 rw [hix, Run_bindO_some, Run_bind, Run_st1 ⟨⟨⟨l4, h.b4, by rw [h.n4]; omega⟩, h.w4⟩, rfl⟩]
 have f : Fr (λ c => c = x4) w (sto w x4 i [.bool y]):=(show Fr (λ c => c = x4) w w from Fr.refl _ _).sto (.inl rfl) _ _
 exact q _ ⟨h.sl.fr f λ c hc he => h.v4 (he ▸ hc), f.bk_some h.b2 h.ne, by rw [wr_sto]; exact h.w2, by rw [bk_sto_same h.b4]; simp only [setL_cons, setL_nil], by rw [wr_sto]; exact h.w4, h.n2, by rw [List.length_set]; exact h.n4, h.ne, h.v2, h.v4, h.fr.trans f λ _ _ h => .inr h⟩
theorem HS.num (h : HS w0 w v N x2 x4 l2 l4) {j : Nat} {s word : List UInt8} (hj : N[j]? = some s) (hs : s.length <= 4611686018427387904) (hw : word.length <= 100) {K : Value -> Value -> M β} {Q : β -> World -> Prop} (q : ∀ w', HS w0 w' v N x2 x4 l2 l4 -> Run (K (.int .i64 (((fldO (wdF word) s).getD 0 : Nat) : Int)) (.bool (fldO (wdF word) s).isSome)) w' Q) :
  Run (bindO (idxA 1 v (.int .i64 (j : Int))) λ x15 => M.bind (rdM (ld1 x15)) λ x16 => M.bind (F.paper_numberOf x16 (.string (sb word))) λ x17 => bindO (extV 0 x17) λ x18 => bindO (extV 1 x17) λ x19 => K x18 x19) w Q:=by
 obtain ⟨p, p1, p2⟩:=h.sl.rd1 (i:=j) (y:=.string (sb s)) (by simp [hj]) .i64
 have p1' : idxA 1 v (.int .i64 (j : Int)) = some p:=p1
 have e : ∀ o, extV 0 (numV o) = some (.int .i64 ((o.getD 0 : Nat) : Int)):=λ _ => rfl
 have e' : ∀ o, extV 1 (numV o) = some (.bool o.isSome):=λ _ => rfl
 rw [p1', Run_bindO_some, Run_bind, Run_rdM]
 refine ⟨_, p2, ?_⟩
 rw [Run_bind]
 refine (numberOf_run (f:=wdF word) hs hw).mono ?_
 rintro _ w' ⟨rfl, f⟩
 rw [e, Run_bindO_some, e', Run_bindO_some]
 exact q w' (h.frm f)
end
theorem head_run {v : Value} {N : List (List UInt8)} (hv : Sl 1 w v (N.map λ s => [.string (sb s)])) {x2 : Nat} (h2 : bk w x2 = some (mval zMf nilS)) (hw2 : wr w x2 = true) (hv2 : ¬ inB v x2) (hN : N.length <= 4611686018427387904) (hNl : ∀ s ∈ N, s.length <= 4611686018427387904) (hvw : ∀ c, inB v c -> c < w.heap.size) :
  Run (F.paper_head v (.pointer (some ⟨x2, 0, none⟩))) w λ r w' => (∃ v' ok m0, r = .tuple #[v', .bool ok] /\ bk w' x2 = some (mval m0 nilS) /\ wr w' x2 = true /\ m0.fs = [] /\
   (ok = true -> ∃ ls, headF N m0 ls /\ Sl 1 w' v' (ls.map λ s => [.string (sb s)]) /\ ∀ c, inB v' c -> inB v c) /\ ∀ m ls, headF N m ls -> ok = true /\ m0 = { m with fs:=[] }) /\ Fr (λ c => c = x2) w w':=by
 unfold F.paper_head
 have hvl:=hv.lenL
 rw [List.length_map] at hvl
 rw [hvl, Run_bindO_some, binV_int, intBin_lss, Run_bindO_some]
 by_cases h6 : 6 <= N.length
 case neg =>
  have h6' : ((N.length : Nat) : Int) < 6:=by omega
  rw [decide_eq_true h6', Run_condM_true, Run_ret]
  refine ⟨⟨_, false, zMf, rfl, h2, hw2, rfl, λ h => Bool.noConfusion h, λ m ls hh => ?_⟩, Fr.refl _ _⟩
  obtain ⟨x0, x1, x2, x3, y0, y1, v1, v2, v4, v5, rfl, _⟩:=hh
  simp at h6
 have h6' : ¬ ((N.length : Nat) : Int) < 6:=by omega
 obtain ⟨x0, x1, x2', x3, ls, y0, y1, rfl⟩:=split_ends h6
 have eS : ByteArray.mk #[115, 116, 111, 114, 101] = sb STORE:=rfl
 have eV : ByteArray.mk #[118, 101, 114, 115, 105, 111, 110] = sb VERSION:=rfl
 have eN : ByteArray.mk #[110, 111, 100, 101] = sb NODE:=rfl
 have eF : ByteArray.mk #[102, 105, 108, 101, 115] = sb FILES:=rfl
 have eT : ByteArray.mk #[116, 111, 116, 97, 108] = sb TOTAL:=rfl
 have eW : ByteArray.mk #[119, 104, 111, 108, 101, 32] = sb WH6:=rfl
 have p0 : ∀ v x, extV 0 (.tuple #[v, x]) = some v:=λ _ _ => rfl
 have p1 : ∀ v x, extV 1 (.tuple #[v, x]) = some x:=λ _ _ => rfl
 rw [decide_eq_false h6', Run_condM_false, eS, eV, eN, eF, eT, eW, Run_bindO_some, Run_bind]
 refine Run_new λ x4 w1 hx4 hw4 f1 hx4le => ?_
 have lx2:=bk_lt h2
 have n0 : HS w1 w1 v (x0 :: x1 :: x2' :: x3 :: (ls ++ [y0, y1])) x2 x4 (mval zMf nilS) [.bool false, .bool false, .bool false, .bool false, .bool false, .bool false] :=
  ⟨hv.fr0 f1, f1.bk_some h2 id, by rw [f1.wr lx2 id]; exact hw2, hx4, hw4, rfl, rfl, by omega, hv2, λ h => by have:=hvw _ h; omega, Fr.refl _ _⟩
 obtain ⟨q0, a0, b0⟩:=n0.sl.rd1 (i:=0) (y:=.string (sb x0)) rfl .i64
 have a0' : idxA 1 v (.int .i64 0) = some q0:=a0
 rw [a0', Run_bindO_some, Run_bind, Run_rdM]
 refine ⟨_, b0, ?_⟩
 rw [Run_bind]
 refine (nameOf_run (by decide)).mono ?_
 rintro _ wz ⟨rfl, hwz⟩
 rw [hwz, p0, Run_bindO_some, p1, Run_bindO_some]
 refine n0.set2 (i:=0) (by decide) rfl λ ws n1 => ?_
 refine n1.set4 (i:=0) (by decide) λ ws n1 => ?_
 refine n1.num (j:=1) rfl (hNl _ (by simp)) (by decide) λ ws n2 => ?_
 refine n2.set2 (i:=1) (by decide) rfl λ ws n2 => ?_
 refine n2.set4 (i:=1) (by decide) λ ws n2 => ?_
 refine n2.num (j:=2) rfl (hNl _ (by simp)) (by decide) λ ws n3 => ?_
 refine n3.set2 (i:=2) (by decide) rfl λ ws n3 => ?_
 refine n3.set4 (i:=2) (by decide) λ ws n3 => ?_
 refine n3.num (j:=3) rfl (hNl _ (by simp)) (by decide) λ ws n4 => ?_
 refine n4.set4 (i:=3) (by decide) λ ws n4 => ?_
 have hlen : (x0 :: x1 :: x2' :: x3 :: (ls ++ [y0, y1])).length = ls.length + 6:=by simp
 rw [hlen] at hvl hN ⊢
 have wa : IntKind.i64.wrap (((ls.length + 6 : Nat) : Int) - 2) = ((ls.length + 4 : Nat) : Int):=by rw [show ((ls.length + 6 : Nat) : Int) - 2 = ((ls.length + 4 : Nat) : Int) by omega]; exact i64W (by omega)
 have wb : IntKind.i64.wrap (((ls.length + 6 : Nat) : Int) - 1) = ((ls.length + 5 : Nat) : Int):=by rw [show ((ls.length + 6 : Nat) : Int) - 1 = ((ls.length + 5 : Nat) : Int) by omega]; exact i64W (by omega)
 have wc : IntKind.i64.wrap (((ls.length + 6 : Nat) : Int) - 6) = ((ls.length : Nat) : Int):=by rw [show ((ls.length + 6 : Nat) : Int) - 6 = ((ls.length : Nat) : Int) by omega]; exact i64W (by omega)
 have gy0 : (x0 :: x1 :: x2' :: x3 :: (ls ++ [y0, y1]))[ls.length + 4]? = some y0:=by
  simp
 have gy1 : (x0 :: x1 :: x2' :: x3 :: (ls ++ [y0, y1]))[ls.length + 5]? = some y1:=by
  simp
 rw [binV_int, intBin_sub, wa, Run_bindO_some]
 refine n4.num (j:=ls.length + 4) gy0 (hNl _ (by simp)) (by decide) λ ws n5 => ?_
 refine n5.set2 (i:=4) (by decide) rfl λ ws n5 => ?_
 refine n5.set4 (i:=4) (by decide) λ ws n5 => ?_
 obtain ⟨q5, a5, b5⟩:=n5.sl.rd1 (i:=ls.length + 5) (y:=.string (sb y1)) (by rw [List.getElem?_map, gy1]; rfl) .i64
 have a5' : idxA 1 v (.int .i64 ((ls.length + 5 : Nat) : Int)) = some q5:=a5
 rw [binV_int, intBin_sub, wb, Run_bindO_some, a5', Run_bindO_some, Run_bind, Run_rdM]
 refine ⟨_, b5, ?_⟩
 rw [Run_bind]
 refine ⟨_, _, cutp_run y1 WH6, ?_⟩
 show Run (bindO (extV 0 (.tuple #[.string (sb (Lib.trimPrefix y1 WH6)), .bool (decide (WH6 <+: y1))])) _) ws _
 have hy1l:=hNl y1 (by simp)
 have htl : (Lib.trimPrefix y1 WH6).length <= 4611686018427387904:=by
  unfold Lib.trimPrefix
  split
  ·rw [List.length_drop]; omega
  ·omega
 have e : ∀ o, extV 0 (numV o) = some (.int .i64 ((o.getD 0 : Nat) : Int)):=λ _ => rfl
 have e' : ∀ o, extV 1 (numV o) = some (.bool o.isSome):=λ _ => rfl
 rw [p0, Run_bindO_some, p1, Run_bindO_some, Run_bind]
 refine (sumOf_run htl).mono ?_
 rintro _ wt ⟨rfl, ft⟩
 have n6:=n5.frm ft
 rw [e, Run_bindO_some, e', Run_bindO_some]
 refine n6.set2 (i:=5) (by decide) rfl λ wu n7 => ?_
 refine n7.set4 (i:=5) (by decide) λ wu n7 => ?_
 rw [Run_drewM]
 have n8:=n7.frm (show Fr (λ _ => False) wu wu.drew from (Fr.refl _ _).drew)
 generalize wu.drew = wv at *
 obtain ⟨vm, m1, m2, m3⟩:=sl_mid n8.sl (a:=4) (b:=ls.length + 4) (by omega) (by rw [List.length_map, hlen]; omega) .i64
 have m1' : sliceV 1 v (some (.int .i64 4)) (some (.int .i64 ((ls.length + 4 : Nat) : Int))) = some vm:=m1
 have m2' : Sl 1 wv vm (ls.map λ s => [.string (sb s)]):=by
  have e2 : ((((x0 :: x1 :: x2' :: x3 :: (ls ++ [y0, y1])).map λ s => [Value.string (sb s)]).take (ls.length + 4)).drop 4) = ls.map λ s => [Value.string (sb s)]:=by
   simp
  rwa [e2] at m2
 have hfr : Fr (λ c => c = x2) w wv:=(f1.mono λ _ h => h.elim).trans n8.fr λ c hc h => h.elim id λ h => by omega
 rw [Run_bindO_some, m1', Run_bindO_some]
 obtain ⟨b0, hb0⟩ : ∃ b, (nameF STORE x0).isSome = b:=⟨_, rfl⟩
 obtain ⟨b1, hb1⟩ : ∃ b, (fldO (wdF VERSION) x1).isSome = b:=⟨_, rfl⟩
 obtain ⟨b2, hb2⟩ : ∃ b, (fldO (wdF NODE) x2').isSome = b:=⟨_, rfl⟩
 obtain ⟨b3, hb3⟩ : ∃ b, (fldO (wdF FILES) x3).isSome = b:=⟨_, rfl⟩
 obtain ⟨b4, hb4⟩ : ∃ b, (fldO (wdF TOTAL) y0).isSome = b:=⟨_, rfl⟩
 obtain ⟨b5', hb5⟩ : ∃ b, (sumF (Lib.trimPrefix y1 WH6)).isSome = b:=⟨_, rfl⟩
 have fin : ∀ B : Bool, B = (decide (WH6 <+: y1) && (decide ((fldO (wdF FILES) x3).getD 0 = ls.length) && (b0 && b1 && b2 && b3 && b4 && b5'))) -> (∃ v' ok m0, (Value.tuple #[vm, .bool B]) = .tuple #[v', .bool ok] /\ bk wv x2 = some (mval m0 nilS) /\ wr wv x2 = true /\ m0.fs = [] /\
   (ok = true -> ∃ ls', headF (x0 :: x1 :: x2' :: x3 :: (ls ++ [y0, y1])) m0 ls' /\ Sl 1 wv v' (ls'.map λ s => [.string (sb s)]) /\ ∀ c, inB v' c -> inB v c) /\ ∀ m ls', headF (x0 :: x1 :: x2' :: x3 :: (ls ++ [y0, y1])) m ls' -> ok = true /\ m0 = { m with fs:=[] }) /\ Fr (λ c => c = x2) w wv:=λ B hB => by
  refine ⟨⟨vm, B, ⟨Lib.trimPrefix x0 (STORE ++ [32]), (((fldO (wdF VERSION) x1).getD 0 : Nat) : Int), (((fldO (wdF NODE) x2').getD 0 : Nat) : Int), [], (((fldO (wdF TOTAL) y0).getD 0 : Nat) : Int), (((sumF (Lib.trimPrefix y1 WH6)).getD 0 : Nat) : Int)⟩, rfl, n8.b2, n8.w2, rfl, λ hBt => ?_, λ m ls' hh => ?_⟩, hfr⟩
  ·rw [hB] at hBt
   simp only [Bool.and_eq_true, decide_eq_true_eq] at hBt
   obtain ⟨hW, hcnt, ⟨⟨⟨⟨h0, h1⟩, h2⟩, h3⟩, h4⟩, h5⟩:=hBt
   subst h0; subst h1; subst h2; subst h3; subst h4; subst h5
   obtain ⟨st, hst⟩:=Option.isSome_iff_exists.1 hb0
   obtain ⟨v1, g1⟩:=Option.isSome_iff_exists.1 hb1
   obtain ⟨v2, g2⟩:=Option.isSome_iff_exists.1 hb2
   obtain ⟨v3, g3⟩:=Option.isSome_iff_exists.1 hb3
   obtain ⟨v4, g4⟩:=Option.isSome_iff_exists.1 hb4
   obtain ⟨v5, g5⟩:=Option.isSome_iff_exists.1 hb5
   rw [g3] at hcnt
   have hx0:=(nameF_some hst).1
   refine ⟨ls, ⟨x0, x1, x2', x3, y0, y1, v1, v2, v4, v5, rfl, ?_, ⟨g1, by rw [g1]; rfl⟩, ⟨g2, by rw [g2]; rfl⟩, by rw [g3, <- hcnt]; rfl, ⟨g4, by rw [g4]; rfl⟩, ?_, by rw [g5]; rfl⟩, m2', m3⟩
   ·rw [hst]
    show some st = some (Lib.trimPrefix x0 (STORE ++ [32]))
    rw [hx0, trim_of (List.prefix_append _ _), List.drop_left]
   ·unfold whoO
    rw [if_pos hW]
    rw [trim_of hW] at g5
    exact g5
  ·obtain ⟨a0, a1, a2, a3, c0, c1, v1, v2, v4, v5, hN', q0, ⟨q1, r1⟩, ⟨q2, r2⟩, q3, ⟨q4, r4⟩, q5, r5⟩:=hh
   simp only [List.cons.injEq] at hN'
   obtain ⟨rfl, rfl, rfl, rfl, hR⟩:=hN'
   obtain ⟨rfl, hT⟩:=List.append_inj' hR rfl
   simp only [List.cons.injEq, and_true] at hT
   obtain ⟨rfl, rfl⟩:=hT
   have hx0:=(nameF_some q0).1
   have hW : WH6 <+: y1 /\ sumF (Lib.trimPrefix y1 WH6) = some v5:=by
    unfold whoO at q5
    split at q5
    ·rename_i hp
     exact ⟨hp, by rw [trim_of hp]; exact q5⟩
    ·cases q5
   have hBt : B = true:=by
    rw [hB, <- hb0, <- hb1, <- hb2, <- hb3, <- hb4, <- hb5, q0, q1, q2, q3, q4, hW.2, decide_eq_true hW.1]
    simp
   refine ⟨hBt, ?_⟩
   rw [q1, q2, q4, hW.2]
   obtain ⟨mst, mv, mn, mf, mt, mw⟩:=m
   simp only at q0 r1 r2 r4 r5 hx0
   rw [r1, r2, r4, r5, hx0, trim_of (List.prefix_append _ _), List.drop_left]
   rfl
 by_cases hW : WH6 <+: y1
 case neg =>
  rw [decide_eq_false hW]
  simp only [Run_bind, Run_guardM_ft, pickV_bool, cond_false, Run_bindO_some, Run_ret]
  exact fin false (by rw [decide_eq_false hW, Bool.false_and])
 rw [decide_eq_true hW]
 simp only [Run_bind, Run_guardM_tt, Run_ret, binV_int, intBin_sub, wc, Run_optM_some, intBin_eql, pickV_bool, cond_true, Run_bindO_some]
 by_cases hcnt : (fldO (wdF FILES) x3).getD 0 = ls.length
 case neg =>
  have hci : ¬ (((fldO (wdF FILES) x3).getD 0 : Nat) : Int) = ((ls.length : Nat) : Int):=by omega
  rw [decide_eq_false hci]
  simp only [Run_bind, Run_guardM_ft, pickV_bool, cond_false, Run_bindO_some, Run_ret]
  exact fin false (by rw [decide_eq_false hcnt, Bool.false_and, Bool.and_false])
 have hci : (((fldO (wdF FILES) x3).getD 0 : Nat) : Int) = ((ls.length : Nat) : Int):=by omega
 have l6 : ldA 6 (.pointer (some ⟨x4, 0, none⟩)) wv = some (.agg #[.bool b0, .bool b1, .bool b2, .bool b3, .bool b4, .bool b5']):=by
  have h:=n8.b4
  rw [hb0, hb1, hb2, hb3, hb4, hb5] at h
  exact ldA_bk h (Nat.le_refl _)
 have bl : buildV #[(Value.bool false), (Value.bool false), (Value.bool false), (Value.bool false), (Value.bool false), (Value.bool false)] [(0, 1, (Value.bool true)), (1, 1, (Value.bool true)), (2, 1, (Value.bool true)), (3, 1, (Value.bool true)), (4, 1, (Value.bool true)), (5, 1, (Value.bool true))] = some (.agg #[.bool true, .bool true, .bool true, .bool true, .bool true, .bool true]):=rfl
 have eq6 : eqV (EqSh.offs [(EqK.bool, 0), (EqK.bool, 1), (EqK.bool, 2), (EqK.bool, 3), (EqK.bool, 4), (EqK.bool, 5)]) (.agg #[.bool b0, .bool b1, .bool b2, .bool b3, .bool b4, .bool b5']) (.agg #[.bool true, .bool true, .bool true, .bool true, .bool true, .bool true]) = some (.bool (b0 && b1 && b2 && b3 && b4 && b5')):=by
  cases b0 <;> cases b1 <;> cases b2 <;> cases b3 <;> cases b4 <;> cases b5' <;> rfl
 rw [decide_eq_true hci]
 simp only [Run_bind, Run_guardM_tt, Run_rdM]
 refine ⟨_, l6, ?_⟩
 rw [bl, Run_optM_some, eq6, Run_optM_some]
 simp only [pickV_bool, cond_true, Run_bindO_some, Run_ret]
 exact fin _ (by rw [decide_eq_true hW, decide_eq_true hcnt, Bool.true_and, Bool.true_and])
end
theorem jn_lns : ∀ {N : List (List UInt8)}, N ≠ [] -> jn 10 N ++ [10] = lnsL N
 | [], h => absurd rfl h
 | [x], _ => by simp [jn, lnsL]
 | x :: y :: r, _ => by
  have ih:=jn_lns (N:=y :: r) (by simp)
  rw [jn_cons 10 (by simp)]
  have e : lnsL (x :: y :: r) = x ++ [10] ++ lnsL (y :: r):=by simp [lnsL]
  rw [e, <- ih]
  simp
theorem rowF_no10 {t : List UInt8} {f : Fl} (h : rowF t f) : (10 : UInt8) ∉ t:=by
 obtain ⟨dz, ec, eh, h⟩:=h
 obtain ⟨z, hz, _⟩:=h.sz
 obtain ⟨c, hc, _⟩:=h.crc
 rw [h.txt]
 simp only [List.mem_append, not_or]
 exact ⟨by decide, h.nm10, by decide, num_no10 hz, by decide, (sum_no10 hc).1, by decide, pairs_no10 (by decide) (n:=16) (by have:=h.md.1; omega) h.md.2⟩
theorem maform_lines {s : List UInt8} {m : Mf} {sm : Nat} {ls : List (List UInt8)} {d1 d2 d3 d4 e1 e : List UInt8} (h : MaForm (s ++ [10]) m sm ls d1 d2 d3 d4 e1 e) :
  spl 10 s = MANI :: (STORE ++ [32] ++ m.st) :: (VERSION ++ [32] ++ d1) :: (NODE ++ [32] ++ d2) :: (FILES ++ [32] ++ d3) :: (ls ++ [TOTAL ++ [32] ++ d4, WHOLE ++ [32] ++ e1, SUM ++ e]):=by
 have hs : s = jn 10 (MANI :: (STORE ++ [32] ++ m.st) :: (VERSION ++ [32] ++ d1) :: (NODE ++ [32] ++ d2) :: (FILES ++ [32] ++ d3) :: (ls ++ [TOTAL ++ [32] ++ d4, WHOLE ++ [32] ++ e1, SUM ++ e])):=by
  have h1 : s ++ [10] = jn 10 (MANI :: (STORE ++ [32] ++ m.st) :: (VERSION ++ [32] ++ d1) :: (NODE ++ [32] ++ d2) :: (FILES ++ [32] ++ d3) :: (ls ++ [TOTAL ++ [32] ++ d4, WHOLE ++ [32] ++ e1, SUM ++ e])) ++ [10]:=by
   rw [jn_lns (by simp), h.txt]
   have e2 : lnsL (MANI :: (STORE ++ [32] ++ m.st) :: (VERSION ++ [32] ++ d1) :: (NODE ++ [32] ++ d2) :: (FILES ++ [32] ++ d3) :: (ls ++ [TOTAL ++ [32] ++ d4, WHOLE ++ [32] ++ e1, SUM ++ e])) = MANI ++ [10] ++ (STORE ++ [32] ++ m.st ++ [10]) ++ (VERSION ++ [32] ++ d1 ++ [10]) ++ (NODE ++ [32] ++ d2 ++ [10]) ++ (FILES ++ [32] ++ d3 ++ [10]) ++ lnsL ls ++ (TOTAL ++ [32] ++ d4 ++ [10]) ++ (WHOLE ++ [32] ++ e1 ++ [10]) ++ (SUM ++ e ++ [10]):=by
    simp [lnsL]
   rw [e2]
   simp [N0, N1, N2, N3, Z0, Z1, MANI, STORE, VERSION, NODE, FILES, TOTAL, WHOLE]
  exact List.append_cancel_right h1
 obtain ⟨_, g1, _⟩:=h.ver
 obtain ⟨_, g2, _⟩:=h.node
 obtain ⟨_, g4, _⟩:=h.tot
 obtain ⟨_, g5, _⟩:=h.who
 have k1:=num_no10 g1
 have k2:=num_no10 g2
 have k3:=num_no10 h.cnt
 have k4:=num_no10 g4
 have k5:=(sum_no10 g5).1
 have k6:=(sum_no10 h.sum).1
 have ks:=h.st10
 rw [hs]
 refine spl_of 10 (by simp) λ x hx => ?_
 simp only [List.mem_cons, List.mem_append, List.not_mem_nil, or_false] at hx
 rcases hx with rfl | rfl | rfl | rfl | rfl | hx | rfl | rfl | rfl
 ·decide
 ·simp only [List.mem_append, not_or]; exact ⟨⟨by decide, by decide⟩, ks⟩
 ·simp only [List.mem_append, not_or]; exact ⟨⟨by decide, by decide⟩, k1⟩
 ·simp only [List.mem_append, not_or]; exact ⟨⟨by decide, by decide⟩, k2⟩
 ·simp only [List.mem_append, not_or]; exact ⟨⟨by decide, by decide⟩, k3⟩
 ·obtain ⟨i, hi⟩:=List.getElem?_of_mem hx
  have hil : i < m.fs.length:=by rw [<- h.len]; exact (List.getElem?_eq_some_iff.1 hi).1
  exact rowF_no10 (h.rows i x _ hi (List.getElem?_eq_getElem hil))
 ·simp only [List.mem_append, not_or]; exact ⟨⟨by decide, by decide⟩, k4⟩
 ·simp only [List.mem_append, not_or]; exact ⟨⟨by decide, by decide⟩, k5⟩
 ·simp only [List.mem_append, not_or]; exact ⟨by decide, k6⟩
theorem fldO_word {word d : List UInt8} : fldO (wdF word) (word ++ [32] ++ d) = numF d:=fldO_of (f:=wdF word)
theorem maform_yes {s : List UInt8} {m : Mf} {sm : Nat} {ls : List (List UInt8)} {d1 d2 d3 d4 e1 e : List UInt8} (h : MaForm (s ++ [10]) m sm ls d1 d2 d3 d4 e1 e) : okF s MANI = true /\ headF (midL s) m ls /\ sumF ((lastL s).drop 4) = some sm:=by
 have hN:=maform_lines h
 have hm : midL s = (STORE ++ [32] ++ m.st) :: (VERSION ++ [32] ++ d1) :: (NODE ++ [32] ++ d2) :: (FILES ++ [32] ++ d3) :: (ls ++ [TOTAL ++ [32] ++ d4, WHOLE ++ [32] ++ e1]):=by
  unfold midL
  rw [hN]
  have e2 : MANI :: (STORE ++ [32] ++ m.st) :: (VERSION ++ [32] ++ d1) :: (NODE ++ [32] ++ d2) :: (FILES ++ [32] ++ d3) :: (ls ++ [TOTAL ++ [32] ++ d4, WHOLE ++ [32] ++ e1, SUM ++ e]) = (MANI :: (STORE ++ [32] ++ m.st) :: (VERSION ++ [32] ++ d1) :: (NODE ++ [32] ++ d2) :: (FILES ++ [32] ++ d3) :: (ls ++ [TOTAL ++ [32] ++ d4, WHOLE ++ [32] ++ e1])) ++ [SUM ++ e]:=by simp
  rw [e2, List.length_append, List.length_singleton, Nat.add_sub_cancel, List.take_left]
  rfl
 have hl : lastL s = SUM ++ e:=by
  unfold lastL
  rw [hN]
  have e2 : MANI :: (STORE ++ [32] ++ m.st) :: (VERSION ++ [32] ++ d1) :: (NODE ++ [32] ++ d2) :: (FILES ++ [32] ++ d3) :: (ls ++ [TOTAL ++ [32] ++ d4, WHOLE ++ [32] ++ e1, SUM ++ e]) = (MANI :: (STORE ++ [32] ++ m.st) :: (VERSION ++ [32] ++ d1) :: (NODE ++ [32] ++ d2) :: (FILES ++ [32] ++ d3) :: (ls ++ [TOTAL ++ [32] ++ d4, WHOLE ++ [32] ++ e1])) ++ [SUM ++ e]:=by simp
  rw [e2, List.getLast?_append]
  rfl
 have hd4 : (SUM ++ e).drop 4 = e:=List.drop_left (l₁:=SUM)
 obtain ⟨v1, g1, r1⟩:=h.ver
 obtain ⟨v2, g2, r2⟩:=h.node
 obtain ⟨v4, g4, r4⟩:=h.tot
 obtain ⟨v5, g5, r5⟩:=h.who
 refine ⟨?_, ?_, by rw [hl, hd4]; exact h.sum⟩
 ·unfold okF
  have e1' : ((spl 10 s).getLast?).getD [] = SUM ++ e:=hl
  rw [e1', hd4, h.sum, hN, decide_eq_true (List.prefix_append SUM e)]
  simp
 ·rw [hm]
  refine ⟨_, _, _, _, _, _, v1, v2, v4, v5, rfl, nameF_of h.st0 h.st32, ⟨by rw [fldO_word]; exact g1, r1⟩, ⟨by rw [fldO_word]; exact g2, r2⟩, by rw [fldO_word, h.cnt, h.len], ⟨by rw [fldO_word]; exact g4, r4⟩, ?_, r5⟩
  unfold whoO
  have hw : WHOLE ++ [32] ++ e1 = WH6 ++ e1:=rfl
  rw [hw, if_pos (List.prefix_append _ _)]
  exact g5
theorem maform_no {s : List UInt8} {m : Mf} {ls : List (List UInt8)} (hok : okF s MANI = true) (hh : headF (midL s) m ls) {fs : List Fl} (hlen : ls.length = fs.length) (hrows : ∀ (i : Nat) (t : List UInt8) (f : Fl), ls[i]? = some t -> fs[i]? = some f -> rowF t f) : ∃ sm, maform (s ++ [10]) { m with fs:=fs } sm:=by
 obtain ⟨x0, x1, x2, x3, y0, y1, v1, v2, v4, v5, hmid, q0, ⟨q1, r1⟩, ⟨q2, r2⟩, q3, ⟨q4, r4⟩, q5, r5⟩:=hh
 obtain ⟨hjn, hno⟩:=spl_jn 10 s
 have hne:=spl_ne 10 s
 unfold okF at hok
 unfold midL at hmid
 generalize spl 10 s = N at *
 simp only [Bool.and_eq_true, decide_eq_true_eq] at hok
 obtain ⟨⟨hp, hsm⟩, hhd⟩:=hok
 obtain ⟨a, R, rfl⟩:=List.exists_cons_of_ne_nil hne
 simp only [List.head?_cons, Option.some.injEq] at hhd
 subst hhd
 rcases List.eq_nil_or_concat R with rfl | ⟨M, z, rfl⟩
 ·simp at hmid
 rw [List.concat_eq_append] at *
 have hgl : ((MANI :: (M ++ [z])).getLast?).getD [] = z:=by
  rw [show MANI :: (M ++ [z]) = (MANI :: M) ++ [z] from rfl, List.getLast?_append]
  rfl
 rw [hgl] at hp hsm
 have hM : M = x0 :: x1 :: x2 :: x3 :: (ls ++ [y0, y1]):=by
  have e2 : ((MANI :: (M ++ [z])).take ((MANI :: (M ++ [z])).length - 1)).drop 1 = M:=by
   rw [show MANI :: (M ++ [z]) = (MANI :: M) ++ [z] from rfl, List.length_append, List.length_singleton, Nat.add_sub_cancel, List.take_left]
   rfl
  rw [<- e2]
  exact hmid
 obtain ⟨e, rfl⟩:=hp
 have hd4 : (SUM ++ e).drop 4 = e:=List.drop_left (l₁:=SUM)
 rw [hd4] at hsm
 obtain ⟨sm, hsm⟩:=Option.isSome_iff_exists.1 hsm
 obtain ⟨rfl, st0, st32⟩:=nameF_some q0
 obtain ⟨d1, w1, rfl, g1⟩:=fldO_some (by rw [q1]; rfl)
 obtain ⟨d2, w2, rfl, g2⟩:=fldO_some (by rw [q2]; rfl)
 obtain ⟨d3, w3, rfl, g3⟩:=fldO_some (by rw [q3]; rfl)
 obtain ⟨d4, w4, rfl, g4⟩:=fldO_some (by rw [q4]; rfl)
 have f1 : fldO (wdF VERSION) ((wdF VERSION).word ++ [32] ++ d1) = numF d1:=fldO_word
 have f2 : fldO (wdF NODE) ((wdF NODE).word ++ [32] ++ d2) = numF d2:=fldO_word
 have f3 : fldO (wdF FILES) ((wdF FILES).word ++ [32] ++ d3) = numF d3:=fldO_word
 have f4 : fldO (wdF TOTAL) ((wdF TOTAL).word ++ [32] ++ d4) = numF d4:=fldO_word
 rw [f1] at q1
 rw [f2] at q2
 rw [f3] at q3
 rw [f4] at q4
 obtain ⟨e1, rfl, g5⟩ : ∃ e1, y1 = WH6 ++ e1 /\ sumF e1 = some v5:=by
  unfold whoO at q5
  split at q5
  ·rename_i hp
   obtain ⟨t, rfl⟩:=hp
   refine ⟨t, rfl, ?_⟩
   have : (WH6 ++ t).drop 6 = t:=List.drop_left (l₁:=WH6)
   rwa [this] at q5
  ·cases q5
 have st10 : (10 : UInt8) ∉ m.st:=λ hc => hno (STORE ++ [32] ++ m.st) (by rw [hM]; simp) (by simp [hc])
 refine ⟨sm, ls, d1, d2, d3, d4, e1, e, ?_, st0, st32, st10, ⟨v1, q1, r1⟩, ⟨v2, q2, r2⟩, by rw [q3, hlen], ⟨v4, q4, r4⟩, ⟨v5, g5, r5⟩, hsm, hlen, hrows⟩
 rw [<- hjn, jn_lns (by simp), hM]
 have e2 : lnsL (MANI :: ((STORE ++ [32] ++ m.st) :: ((wdF VERSION).word ++ [32] ++ d1) :: ((wdF NODE).word ++ [32] ++ d2) :: ((wdF FILES).word ++ [32] ++ d3) :: (ls ++ [(wdF TOTAL).word ++ [32] ++ d4, WH6 ++ e1]) ++ [SUM ++ e])) = MANI ++ [10] ++ (STORE ++ [32] ++ m.st ++ [10]) ++ (VERSION ++ [32] ++ d1 ++ [10]) ++ (NODE ++ [32] ++ d2 ++ [10]) ++ (FILES ++ [32] ++ d3 ++ [10]) ++ lnsL ls ++ (TOTAL ++ [32] ++ d4 ++ [10]) ++ (WH6 ++ e1 ++ [10]) ++ (SUM ++ e ++ [10]):=by
  simp [lnsL, wdF]
 rw [e2]
 simp [N0, N1, N2, N3, Z0, Z1, MANI, STORE, VERSION, NODE, FILES, TOTAL, WH6]
theorem headF_ls {N : List (List UInt8)} {m m' : Mf} {ls ls' : List (List UInt8)} (h : headF N m ls) (h' : headF N m' ls') : ls = ls':=by
 obtain ⟨a0, a1, a2, a3, c0, c1, v1, v2, v4, v5, hN, _⟩:=h
 obtain ⟨b0, b1, b2, b3, e0, e1, u1, u2, u4, u5, hN', _⟩:=h'
 rw [hN] at hN'
 simp only [List.cons.injEq] at hN'
 exact (List.append_inj' hN'.2.2.2.2 rfl).1
section
variable {w w1 w2 : World}
theorem manparse_yes (ht : Tb w) {t : List UInt8} {m : Mf} {sm : Nat} (hl : t.length <= 4294960000) (hf : maform t m sm) : Run (F.paper_ParseManifest (.string (sb t))) w λ r w' => ParM w w' (resM t m sm) (codeM t m sm) r:=by
 have hfit:=maform_fit hf hl
 obtain ⟨ls, d1, d2, d3, d4, e1, e, hf⟩:=hf
 have hsuf : [10] <:+ t:=by
  rw [hf.txt]
  simp only [<- List.append_assoc]
  exact List.suffix_append _ _
 unfold F.paper_ParseManifest
 have eL : ByteArray.mk #[103, 114, 97, 110, 97, 114, 121, 32, 109, 97, 110, 105, 102, 101, 115, 116, 32, 49] = sb MANI:=rfl
 have z0 : buildV #[(Value.string ByteArray.empty), (Value.int IntKind.i64 0), (Value.int IntKind.i64 0), (Value.slice none 0 0), (Value.int IntKind.i64 0), (Value.int IntKind.i64 0)] [] = some (.agg (mval zMf nilS).toArray):=rfl
 have hnv : ∀ b, notV (.bool b) = some (.bool !b):=λ _ => rfl
 have y0 : ∀ v x z, extV 0 (.tuple #[v, x, z]) = some v:=λ _ _ _ => rfl
 have y1 : ∀ v x z, extV 1 (.tuple #[v, x, z]) = some x:=λ _ _ _ => rfl
 have y2 : ∀ v x z, extV 2 (.tuple #[v, x, z]) = some z:=λ _ _ _ => rfl
 have p0 : ∀ v x, extV 0 (.tuple #[v, x]) = some v:=λ _ _ => rfl
 have p1 : ∀ v x, extV 1 (.tuple #[v, x]) = some x:=λ _ _ => rfl
 rw [z0, Run_bind]
 refine Run_new λ x1 wa hx1 hw1 fa hx1le => ?_
 replace hx1 : bk wa x1 = some (mval zMf nilS):=hx1
 rw [Run_bind]
 refine Run_new λ x2 wb hx2 hw2 fb hx2le => ?_
 replace hx2 : bk wb x2 = some (mval zMf nilS):=hx2
 have fab:=fa.trans fb λ _ _ => id
 have tb:=ht.fr0 fab
 have l1:=bk_lt hx1
 have l2:=bk_lt hx2
 have sa:=fa.size
 have sab:=fb.size
 have hx1b:=fb.bk_some hx1 id
 have hw1b : wr wb x1 = true:=by rw [fb.wr l1 id]; exact hw1
 rw [eL, Run_bind]
 have bad : ∀ (c : Int) {u : World}, Fr (λ c => c = x2) wb u -> Run (bindO (some (Value.agg (mval zMf nilS).toArray)) λ x8 =>
  M.bind (stM 6 (.pointer (some ⟨x1, 0, none⟩)) x8) λ _ =>
  M.bind (rdM (ldA 6 (.pointer (some ⟨x1, 0, none⟩)))) λ x10 =>
  M.ret (Value.tuple #[x10, .int .i64 c])) u λ r w' => ParM w w' zMf c r:=λ c {u} f => by
  have hne : ¬ x1 = x2:=by omega
  rw [Run_bindO_some]
  simp only [Run_bind]
  refine finN_run (f.bk_some hx1b hne) (by rw [f.wr (bk_lt hx1b) hne]; exact hw1b) (mval zMf nilS).toArray rfl rfl (mval_cell _ rfl) λ w3 f3 => ?_
  rw [Run_ret]
  exact ⟨nilS, rfl, SlW.nil _ _, λ _ h => h.elim, fab.new ((f.mono λ c hc => (show c = x1 ∨ c = x2 from .inr hc)).trans f3 λ _ _ h => .inl h) λ c hc => by rcases hc with h | h <;> omega⟩
 obtain ⟨s, rfl⟩:=hsuf
 have hsl : s.length <= 4294960000:=by rw [List.length_append] at hl; omega
 refine (open_yes tb (s:=s) (title:=MANI) (by decide) hsl).mono ?_
 rintro _ wc ⟨⟨v, right, rfl, hv⟩, fc⟩
 rw [y0, Run_bindO_some, y1, Run_bindO_some, y2, Run_bindO_some, hnv, Run_bindO_some]
 have hx2c:=fc.bk_some hx2 id
 have hw2c : wr wc x2 = true:=by rw [fc.wr l2 id]; exact hw2
 have sc:=fc.size
 obtain ⟨hok, hhead, hsm⟩:=maform_yes hf
 rw [hok]
 obtain ⟨hright, hvs, hvn⟩:=hv hok
 have hvs' : Sl 1 wc v ((midL s).map λ x => [.string (sb x)]):=hvs
 have hml : ∀ x ∈ midL s, x.length <= s.length /\ (10 : UInt8) ∉ x:=λ x hx => by
  have hm:=List.mem_of_mem_take (List.mem_of_mem_drop hx)
  have : ∀ (N : List (List UInt8)), x ∈ N -> x.length <= (jn 10 N).length:=λ N => by
   induction N with
   | nil => intro h; cases h
   | cons y r ih =>
    intro h
    by_cases hr : r = []
    ·subst hr; simp at h; subst h; simp [jn]
    ·rw [jn_cons 10 hr, List.length_append, List.length_append]
     rcases List.mem_cons.1 h with rfl | h
     ·omega
     ·have:=ih h; omega
  have:=this _ hm
  rw [(spl_jn 10 s).1] at this
  exact ⟨by omega, (spl_jn 10 s).2 x hm⟩
 have hmN : (midL s).length <= s.length + 1:=by
  have h1:=jn_count 10 _ (spl_ne 10 s) (spl_jn 10 s).2
  have h2 : (jn 10 (spl 10 s)).count 10 <= (jn 10 (spl 10 s)).length:=List.count_le_length
  rw [(spl_jn 10 s).1] at h1 h2
  unfold midL
  rw [List.length_drop, List.length_take]
  omega
 rw [Bool.not_true, Run_condM_false, Run_bind]
 refine (head_run hvs' hx2c hw2c (λ h => by have:=(hvn _ h).1; omega) (by omega) (λ x hx => by have:=(hml x hx).1; omega) (λ c hc => (hvn c hc).2)).mono ?_
 rintro _ wd ⟨⟨v', ok, m0, rfl, hb2, hbw2, hfs0, hyes, hno⟩, fd⟩
 have sd:=fd.size
 have fbd : Fr (λ c => c = x2) wb wd:=(fc.mono λ _ h => h.elim).trans fd λ _ _ h => h
 rw [p0, Run_bindO_some, p1, Run_bindO_some, Run_bind]
 obtain ⟨rfl, hm0⟩:=hno m ls hhead
 obtain ⟨ls', hh', hsl', hin'⟩:=hyes rfl
 obtain rfl:=headF_ls hhead hh'
 have hlsl : ls.length <= (midL s).length:=by
  obtain ⟨x0, x1, x2, x3, y0, y1, v1, v2, v4, v5, hN, _⟩:=hhead
  rw [hN]; simp; omega
 have hlsm : ∀ x ∈ ls, x ∈ midL s:=λ x hx => by
  obtain ⟨x0, x1, x2, x3, y0, y1, v1, v2, v4, v5, hN, _⟩:=hhead
  rw [hN]; simp [hx]
 have hlv:=hsl'.lenL
 rw [List.length_map] at hlv
 have hll:=hf.len
 refine Run_for ls.length (λ i L w' => L = [.bool true, .int .i64 (i : Int)] /\ ∃ u, bk w' x2 = some (mval { m with fs:=[] } u) /\ wr w' x2 = true /\ OwnR wd w' u (m.fs.take i) /\ Fr (λ c => c = x2) wd w') ⟨rfl, nilS, by rw [<- hm0]; exact hb2, hbw2, OwnR.nil _ _, Fr.refl _ _⟩ ?_ ?_
 ·rintro i L we hi ⟨rfl, u, hbe, hwe, hO, fe⟩
  obtain ⟨f, hfi⟩ : ∃ f, m.fs[i]? = some f:=⟨_, List.getElem?_eq_getElem (by omega)⟩
  obtain ⟨tl, hti⟩ : ∃ tl, ls[i]? = some tl:=⟨_, List.getElem?_eq_getElem hi⟩
  have htm:=hml tl (hlsm tl (List.mem_of_getElem? hti))
  have hint : (i : Int) < (ls.length : Nat):=by omega
  simp only [getL_zero, getL_succ, Run_bind, Run_guardM_tt, Run_ret, hlv, Run_optM_some]
  rw [lssT hint, Run_optM_some]
  simp only [pickV_bool, cond_true, Run_bindO_some, Run_condM_true, Run_bind]
  refine Run_new λ y wf hy hyw ff hyle => ?_
  have sl' : Sl 1 wf v' (ls.map λ x => [.string (sb x)]):=(hsl'.fr fe λ c hc he => by have:=(hvn c (hin' c hc)).1; omega).fr0 ff
  obtain ⟨q, q1, q2⟩:=sl'.rd1 (i:=i) (y:=.string (sb tl)) (by simp [hti]) .i64
  have q1' : idxA 1 v' (.int .i64 (i : Int)) = some q:=q1
  rw [q1', Run_bindO_some]
  simp only [Run_bind, Run_rdM]
  refine ⟨_, q2, ?_⟩
  have tf : Tb wf:=((tb.fr fbd λ c hc he => by have:=tb_low ht; omega).fr fe λ c hc he => by have:=tb_low ht; omega).fr0 ff
  refine (row_run tf (s:=tl) (by omega) htm.2).mono ?_
  rintro _ wg ⟨⟨f', b, rfl, hb, hu⟩, fg⟩
  obtain ⟨rfl, rfl⟩:=hu f (hf.rows i tl f hti hfi)
  rw [p0, Run_bindO_some, p1, Run_bindO_some]
  have sff:=ff.size
  have sfe:=fe.size
  have sfg:=fg.size
  have ffg:=ff.trans fg λ _ _ => id
  have hbf : bk wg x2 = _:=ffg.bk_some hbe id
  have hwf : wr wg x2 = true:=by rw [ffg.wr (bk_lt hbe) id]; exact hwe
  have hyg:=fg.bk_some hy id
  have hywg : wr wg y = true:=by rw [fg.wr (bk_lt hy) id]; exact hyw
  have hOf:=hO.frm ffg λ _ h => h.elim
  refine push_run hbf hwf (v:=u) rfl rfl (by omega) (by omega) hyg hywg rfl (by omega) (λ h => by have:=(hO.fresh _ h).2; omega) hOf (by rw [List.length_take]; omega) f' λ w' r hb6 hw6 hrc hOr fr => ?_
  rw [binV_int, intBin_add, wrap_succ' (by omega), Run_bindO_some, Run_ret]
  refine ⟨rfl, r, hb6, hw6, ?_, (fe.trans ffg λ _ _ h => h.elim).trans fr λ c hc h => h.elim id λ h => by omega⟩
  rw [take_snocP hfi]
  exact hOr
 ·rintro L we ⟨rfl, u, hbe, hwe, hO, fe⟩
  have hint : ¬ ((ls.length : Nat) : Int) < (ls.length : Nat):=by omega
  rw [hll, List.take_length] at hO
  simp only [getL_zero, getL_succ, Run_bind, Run_guardM_tt, Run_ret, hlv, Run_optM_some]
  rw [lssF hint, Run_optM_some]
  simp only [pickV_bool, cond_true, Run_bindO_some, Run_condM_false, Run_ret, outK_exit, getL_zero, hnv, Bool.not_true]
  rw [show Nat.beq 0 0 = true from rfl, cond_true, Run_bindO_some, Run_condM_false, Run_bindO_some]
  have fbe : Fr (λ c => c = x2) wb we:=fbd.trans fe λ _ _ h => h
  have sfe:=fe.size
  have hsm' : sumF ((((spl 10 s).getLast?).getD []).drop 4) = some sm:=hsm
  have hr2 : right = decide (sm = crcF (sb ((s ++ [10]).take ((s ++ [10]).length - 13)))):=by
   rw [hright]
   refine decide_eq_decide.2 ?_
   rw [hsm']
   simp
  rw [hr2]
  by_cases hcrc : sm = crcF (sb ((s ++ [10]).take ((s ++ [10]).length - 13)))
  case neg =>
   rw [decide_eq_false hcrc, Bool.not_false, Run_condM_true]
   have hc : codeM (s ++ [10]) m sm = 41:=by unfold codeM; rw [if_neg hcrc]
   have hres : resM (s ++ [10]) m sm = zMf:=by unfold resM; rw [hc, if_neg (by decide)]
   rw [hc, hres]
   exact bad 41 fbe
  have hc : codeM (s ++ [10]) m sm = holdsF m:=by unfold codeM; rw [if_pos hcrc]
  have hbm : bk we x2 = some (mval m u):=hbe
  have l6 : ∀ {z : World}, Fr (λ _ => False) we z -> ldA 6 (.pointer (some ⟨x2, 0, none⟩)) z = some (.agg (mval m u).toArray):=λ f => ldA_bk (f.bk_some hbm id) (Nat.le_refl _)
  rw [decide_eq_true hcrc, Bool.not_true, Run_condM_false, Run_bind, Run_rdM]
  refine ⟨_, l6 (Fr.refl _ _), ?_⟩
  rw [Run_bind]
  refine (holds_run hO.sl.1 hfit).mono ?_
  rintro _ wf ⟨rfl, ff⟩
  have fbf : Fr (λ c => c = x2) wb wf:=fbe.trans ff λ _ _ h => h.elim
  rw [binV_int, intBin_neq, Run_bindO_some]
  by_cases hk : holdsF m = 0
  ·have hres : resM (s ++ [10]) m sm = m:=by unfold resM; rw [hc, if_pos hk]
   have hn : (!decide (holdsF m = 0)) = false:=by rw [decide_eq_true hk]; rfl
   rw [hn, Run_condM_false, Run_bind, Run_rdM]
   refine ⟨_, l6 ff, ?_⟩
   simp only [Run_bind]
   have hne : ¬ x1 = x2:=by omega
   refine finN_run (fbf.bk_some hx1b hne) (by rw [fbf.wr (bk_lt hx1b) hne]; exact hw1b) (mval m u).toArray rfl rfl (mval_cell _ hO.sl.1.isCell) λ w3 f3 => ?_
   rw [Run_ret, hc, hres, hk]
   have hO3:=(hO.frm ff λ _ h => h.elim).frm f3 λ c hc => by omega
   exact ⟨u, rfl, hO3.sl, λ c hc => ⟨by have:=(hO3.fresh c hc).1; omega, (hO3.fresh c hc).2⟩, fab.new ((fbf.mono λ c hc => (show c = x1 ∨ c = x2 from .inr hc)).trans f3 λ _ _ h => .inl h) λ c hc => by rcases hc with h | h <;> omega⟩
  ·have hres : resM (s ++ [10]) m sm = zMf:=by unfold resM; rw [hc, if_neg hk]
   have hn : (!decide (holdsF m = 0)) = true:=by rw [decide_eq_false hk]; rfl
   rw [hn, Run_condM_true, hc, hres]
   exact bad _ fbf
theorem manparse_no (ht : Tb w) {t : List UInt8} (hl : t.length <= 4294960000) (hf : ∀ m sm, ¬ maform t m sm) : Run (F.paper_ParseManifest (.string (sb t))) w λ r w' => ParM w w' zMf 40 r:=by
 unfold F.paper_ParseManifest
 have eL : ByteArray.mk #[103, 114, 97, 110, 97, 114, 121, 32, 109, 97, 110, 105, 102, 101, 115, 116, 32, 49] = sb MANI:=rfl
 have z0 : buildV #[(Value.string ByteArray.empty), (Value.int IntKind.i64 0), (Value.int IntKind.i64 0), (Value.slice none 0 0), (Value.int IntKind.i64 0), (Value.int IntKind.i64 0)] [] = some (.agg (mval zMf nilS).toArray):=rfl
 have hnv : ∀ b, notV (.bool b) = some (.bool !b):=λ _ => rfl
 have y0 : ∀ v x z, extV 0 (.tuple #[v, x, z]) = some v:=λ _ _ _ => rfl
 have y1 : ∀ v x z, extV 1 (.tuple #[v, x, z]) = some x:=λ _ _ _ => rfl
 have y2 : ∀ v x z, extV 2 (.tuple #[v, x, z]) = some z:=λ _ _ _ => rfl
 have p0 : ∀ v x, extV 0 (.tuple #[v, x]) = some v:=λ _ _ => rfl
 have p1 : ∀ v x, extV 1 (.tuple #[v, x]) = some x:=λ _ _ => rfl
 rw [z0, Run_bind]
 refine Run_new λ x1 wa hx1 hw1 fa hx1le => ?_
 replace hx1 : bk wa x1 = some (mval zMf nilS):=hx1
 rw [Run_bind]
 refine Run_new λ x2 wb hx2 hw2 fb hx2le => ?_
 replace hx2 : bk wb x2 = some (mval zMf nilS):=hx2
 have fab:=fa.trans fb λ _ _ => id
 have tb:=ht.fr0 fab
 have l1:=bk_lt hx1
 have l2:=bk_lt hx2
 have sa:=fa.size
 have sab:=fb.size
 have hx1b:=fb.bk_some hx1 id
 have hw1b : wr wb x1 = true:=by rw [fb.wr l1 id]; exact hw1
 rw [eL, Run_bind]
 have bad : ∀ (c : Int) {u : World}, Fr (λ c => c = x2) wb u -> Run (bindO (some (Value.agg (mval zMf nilS).toArray)) λ x8 =>
  M.bind (stM 6 (.pointer (some ⟨x1, 0, none⟩)) x8) λ _ =>
  M.bind (rdM (ldA 6 (.pointer (some ⟨x1, 0, none⟩)))) λ x10 =>
  M.ret (Value.tuple #[x10, .int .i64 c])) u λ r w' => ParM w w' zMf c r:=λ c {u} f => by
  have hne : ¬ x1 = x2:=by omega
  rw [Run_bindO_some]
  simp only [Run_bind]
  refine finN_run (f.bk_some hx1b hne) (by rw [f.wr (bk_lt hx1b) hne]; exact hw1b) (mval zMf nilS).toArray rfl rfl (mval_cell _ rfl) λ w3 f3 => ?_
  rw [Run_ret]
  exact ⟨nilS, rfl, SlW.nil _ _, λ _ h => h.elim, fab.new ((f.mono λ c hc => (show c = x1 ∨ c = x2 from .inr hc)).trans f3 λ _ _ h => .inl h) λ c hc => by rcases hc with h | h <;> omega⟩
 by_cases hsuf : [10] <:+ t
 case neg =>
  refine (open_no hsuf hl).mono ?_
  rintro _ wz ⟨rfl, hwz⟩
  rw [hwz, y0, Run_bindO_some, y1, Run_bindO_some, y2, Run_bindO_some, hnv, Run_bindO_some, Bool.not_false, Run_condM_true]
  exact bad 40 (Fr.refl _ _)
 obtain ⟨s, rfl⟩:=hsuf
 have hsl : s.length <= 4294960000:=by rw [List.length_append] at hl; omega
 refine (open_yes tb (s:=s) (title:=MANI) (by decide) hsl).mono ?_
 rintro _ wc ⟨⟨v, right, rfl, hv⟩, fc⟩
 rw [y0, Run_bindO_some, y1, Run_bindO_some, y2, Run_bindO_some, hnv, Run_bindO_some]
 have hx2c:=fc.bk_some hx2 id
 have hw2c : wr wc x2 = true:=by rw [fc.wr l2 id]; exact hw2
 have sc:=fc.size
 cases hok : okF s MANI with
 | false =>
  rw [Bool.not_false, Run_condM_true]
  exact bad 40 (fc.mono λ _ h => h.elim)
 | true =>
 obtain ⟨hright, hvs, hvn⟩:=hv hok
 have hvs' : Sl 1 wc v ((midL s).map λ x => [.string (sb x)]):=hvs
 have hml : ∀ x ∈ midL s, x.length <= s.length /\ (10 : UInt8) ∉ x:=λ x hx => by
  have hm:=List.mem_of_mem_take (List.mem_of_mem_drop hx)
  have : ∀ (N : List (List UInt8)), x ∈ N -> x.length <= (jn 10 N).length:=λ N => by
   induction N with
   | nil => intro h; cases h
   | cons y r ih =>
    intro h
    by_cases hr : r = []
    ·subst hr; simp at h; subst h; simp [jn]
    ·rw [jn_cons 10 hr, List.length_append, List.length_append]
     rcases List.mem_cons.1 h with rfl | h
     ·omega
     ·have:=ih h; omega
  have:=this _ hm
  rw [(spl_jn 10 s).1] at this
  exact ⟨by omega, (spl_jn 10 s).2 x hm⟩
 have hmN : (midL s).length <= s.length + 1:=by
  have h1:=jn_count 10 _ (spl_ne 10 s) (spl_jn 10 s).2
  have h2 : (jn 10 (spl 10 s)).count 10 <= (jn 10 (spl 10 s)).length:=List.count_le_length
  rw [(spl_jn 10 s).1] at h1 h2
  unfold midL
  rw [List.length_drop, List.length_take]
  omega
 rw [Bool.not_true, Run_condM_false, Run_bind]
 refine (head_run hvs' hx2c hw2c (λ h => by have:=(hvn _ h).1; omega) (by omega) (λ x hx => by have:=(hml x hx).1; omega) (λ c hc => (hvn c hc).2)).mono ?_
 rintro _ wd ⟨⟨v', ok, m0, rfl, hb2, hbw2, hfs0, hyes, hno⟩, fd⟩
 have sd:=fd.size
 have fbd : Fr (λ c => c = x2) wb wd:=(fc.mono λ _ h => h.elim).trans fd λ _ _ h => h
 rw [p0, Run_bindO_some, p1, Run_bindO_some, Run_bind]
 cases ok with
 | false =>
  refine Run_for 0 (λ i L w' => L = [.bool false, .int .i64 0] /\ w' = wd) ⟨rfl, rfl⟩ (λ i L w' hi => absurd hi (Nat.not_lt_zero i)) ?_
  rintro L we ⟨rfl, rfl⟩
  simp only [getL_zero, getL_succ, Run_bind, Run_guardM_ft, pickV_bool, cond_false, Run_bindO_some, Run_condM_false, Run_ret, outK_exit, hnv, Bool.not_false, Run_condM_true]
  rw [show Nat.beq 0 0 = true from rfl, cond_true, Run_bindO_some, Run_condM_true]
  exact bad 40 fbd
 | true =>
 obtain ⟨ls, hhead, hsl', hin'⟩:=hyes rfl
 have hlsl : ls.length <= (midL s).length:=by
  obtain ⟨x0, x1, x2, x3, y0, y1, v1, v2, v4, v5, hN, _⟩:=hhead
  rw [hN]; simp; omega
 have hlsm : ∀ x ∈ ls, x ∈ midL s:=λ x hx => by
  obtain ⟨x0, x1, x2, x3, y0, y1, v1, v2, v4, v5, hN, _⟩:=hhead
  rw [hN]; simp [hx]
 have hlv:=hsl'.lenL
 rw [List.length_map] at hlv
 have hm0 : mval m0 nilS = mval { m0 with fs:=[] } nilS:=rfl
 rw [hm0] at hb2
 refine Run_loopM (λ L w' => ∃ (i : Nat) (ok : Bool) (u : Value) (fs : List Fl), L = [.bool ok, .int .i64 (i : Int)] /\ bk w' x2 = some (mval { m0 with fs:=[] } u) /\ wr w' x2 = true /\ OwnR wd w' u fs /\ fs.length = i /\ i <= ls.length /\ Fr (λ c => c = x2) wd w' /\
   (ok = true -> ∀ (i : Nat) (t : List UInt8) (f : Fl), ls[i]? = some t -> fs[i]? = some f -> rowF t f)) (λ L _ => ls.length - (match getL L 1 with | .int _ z => z.toNat | _ => 0)) ?_ ⟨0, true, nilS, [], rfl, hb2, hbw2, OwnR.nil _ _, rfl, Nat.zero_le _, Fr.refl _ _, λ _ i t f _ h => by simp at h⟩
 rintro L we ⟨i, ok, u, fs, rfl, hbe, hwe, hO, hfi, hil, fe, hk⟩
 have fbe : Fr (λ c => c = x2) wb we:=fbd.trans fe λ _ _ h => h
 have sfe:=fe.size
 cases ok with
 | false =>
  simp only [getL_zero, getL_succ, Run_bind, Run_guardM_ft, pickV_bool, cond_false, Run_bindO_some, Run_condM_false, Run_ret, outK_exit, hnv, Bool.not_false, Run_condM_true]
  rw [show Nat.beq 0 0 = true from rfl, cond_true, Run_bindO_some, Run_condM_true]
  exact bad 40 fbe
 | true =>
 simp only [getL_zero, getL_succ, Run_bind, Run_guardM_tt, Run_ret, hlv, Run_optM_some]
 by_cases hin : i < ls.length
 case neg =>
  obtain ⟨sm, hfm⟩:=maform_no hok hhead (fs:=fs) (by omega) (hk rfl)
  exact absurd hfm (hf _ sm)
 obtain ⟨tl, hti⟩ : ∃ tl, ls[i]? = some tl:=⟨_, List.getElem?_eq_getElem hin⟩
 have htm:=hml tl (hlsm tl (List.mem_of_getElem? hti))
 have hint : (i : Int) < (ls.length : Nat):=by omega
 rw [lssT hint, Run_optM_some]
 simp only [pickV_bool, cond_true, Run_bindO_some, Run_condM_true, Run_bind]
 refine Run_new λ y wf hy hyw ff hyle => ?_
 have sl' : Sl 1 wf v' (ls.map λ x => [.string (sb x)]):=(hsl'.fr fe λ c hc he => by have:=(hvn c (hin' c hc)).1; omega).fr0 ff
 obtain ⟨q, q1, q2⟩:=sl'.rd1 (i:=i) (y:=.string (sb tl)) (by simp [hti]) .i64
 have q1' : idxA 1 v' (.int .i64 (i : Int)) = some q:=q1
 rw [q1', Run_bindO_some]
 simp only [Run_bind, Run_rdM]
 refine ⟨_, q2, ?_⟩
 have tf : Tb wf:=((tb.fr fbd λ c hc he => by have:=tb_low ht; omega).fr fe λ c hc he => by have:=tb_low ht; omega).fr0 ff
 refine (row_run tf (s:=tl) (by omega) htm.2).mono ?_
 rintro _ wg ⟨⟨f', b, rfl, hb, hu⟩, fg⟩
 rw [p0, Run_bindO_some, p1, Run_bindO_some]
 have sff:=ff.size
 have sfg:=fg.size
 have ffg:=ff.trans fg λ _ _ => id
 have hbf : bk wg x2 = _:=ffg.bk_some hbe id
 have hwf : wr wg x2 = true:=by rw [ffg.wr (bk_lt hbe) id]; exact hwe
 have hyg:=fg.bk_some hy id
 have hywg : wr wg y = true:=by rw [fg.wr (bk_lt hy) id]; exact hyw
 have hOf:=hO.frm ffg λ _ h => h.elim
 refine push_run hbf hwf (v:=u) rfl rfl (by omega) (by omega) hyg hywg rfl (by omega) (λ h => by have:=(hO.fresh _ h).2; omega) hOf (by omega) f' λ w' r hb6 hw6 hrc hOr fr => ?_
 rw [binV_int, intBin_add, wrap_succ' (by omega), Run_bindO_some, Run_ret]
 refine ⟨⟨i + 1, b, r, fs ++ [f'], rfl, hb6, hw6, hOr, by rw [List.length_append, hfi]; rfl, by omega, (fe.trans ffg λ _ _ h => h.elim).trans fr λ c hc h => h.elim id λ h => by omega, λ hbt j t f h1 h2 => ?_⟩, ?_⟩
 ·by_cases hj : j < fs.length
  ·rw [List.getElem?_append_left hj] at h2
   exact hk rfl j t f h1 h2
  ·rw [List.getElem?_append_right (by omega)] at h2
   have hj1:=(List.getElem?_eq_some_iff.1 h2).1
   rw [List.length_singleton] at hj1
   have ej : j = i:=by omega
   subst ej
   rw [show j - fs.length = 0 by omega] at h2
   simp only [List.getElem?_cons_zero, Option.some.injEq] at h2
   subst h2
   rw [hti] at h1
   cases h1
   exact hb hbt
 ·show ls.length - (((i + 1 : Nat) : Int)).toNat < ls.length - ((i : Nat) : Int).toNat
  omega
end
section
variable {w w1 w2 : World}
theorem neFl (n : Fl) : neV (EqSh.offs [(EqK.str, 0), (EqK.int, 1), (EqK.int, 2), (EqK.str, 3)]) (.agg n.row.toArray) (.agg n.row.toArray) = some (.bool false):=by
 simp [Fl.row, eqOffs, eqPrim]
theorem sameFiles_run {u v : Value} {ns : List Fl} (hu : Sl 4 w u (ns.map Fl.row)) (hv : Sl 4 w v (ns.map Fl.row)) (hl : ns.length <= 4294967296) : Run (F.granarylaw4_sameFiles u v) w λ r w' => r = .bool true /\ Fr (λ _ => False) w w':=by
 unfold F.granarylaw4_sameFiles
 have lu:=hu.lenL
 have lv:=hv.lenL
 rw [List.length_map] at lu lv
 have hne : (!decide (((ns.length : Nat) : Int) = ns.length)) = false:=by simp
 rw [lu, Run_bindO_some, lv, Run_bindO_some, binV_int, intBin_neq, hne, Run_bindO_some, Run_condM_false, Run_bind]
 refine Run_for ns.length (λ i L w' => L = [.int .i64 (i : Int)] /\ Fr (λ _ => False) w w') ⟨rfl, Fr.refl _ _⟩ ?_ ?_
 ·rintro i L w1 hi ⟨rfl, f1⟩
  obtain ⟨n, hn⟩ : ∃ n, ns[i]? = some n:=⟨_, List.getElem?_eq_getElem hi⟩
  have hil : (i : Int) < ns.length:=by omega
  have f2 : Fr (λ _ => False) w w1.drew:=f1.drew
  obtain ⟨p, p1, p2⟩:=(hu.fr0 f2).rdA (by decide) (i:=i) (e:=n.row) (by simp [hn]) .i64
  obtain ⟨q, q1, q2⟩:=(hv.fr0 f2).rdA (by decide) (i:=i) (e:=n.row) (by simp [hn]) .i64
  have p1' : idxA 4 u (.int .i64 (i : Int)) = some p:=p1
  have q1' : idxA 4 v (.int .i64 (i : Int)) = some q:=q1
  have wi:=wrap_succ' (n:=i) (by omega)
  rw [Run_bindO_some, getL_zero, lssT hil, Run_bindO_some, Run_condM_true, Run_drewM, p1', Run_bindO_some, Run_bind, Run_rdM]
  refine ⟨_, p2, ?_⟩
  rw [q1', Run_bindO_some, Run_bind, Run_rdM]
  refine ⟨_, q2, ?_⟩
  rw [neFl, Run_bindO_some, Run_condM_false, binV_int, intBin_add, wi, Run_bindO_some, Run_ret]
  exact ⟨rfl, f2⟩
 ·rintro L w1 ⟨rfl, f1⟩
  have hn : ¬ ((ns.length : Nat) : Int) < ns.length:=by omega
  rw [Run_bindO_some, getL_zero, lssF hn, Run_bindO_some, Run_condM_false, Run_ret]
  simp only [outK_exit]
  rw [show Nat.beq 0 0 = true from rfl, cond_true, Run_ret]
  exact ⟨rfl, f1⟩
theorem ownR_app {v : Value} {fs : List Fl} (h : OwnR w w1 v fs) (f0 : Fr (λ _ => False) w w1) (n : Fl) {a1 a2 : Nat} (hl : fs.length <= 4294967296) {K : Value -> World -> Prop} (q : ∀ r w2, OwnR w w2 r (fs ++ [n]) -> Fr (λ _ => False) w w2 -> K r w2) :
  Run (bslM a1 1 (Builtin.zeroCells #[(Value.string ByteArray.empty), (Value.int IntKind.i64 0), (Value.int IntKind.i64 0), (Value.string ByteArray.empty)] 1) [(0, 4, .agg n.row.toArray)]) w1 λ a w2 => Run (appM a2 4 48 #[(Value.string ByteArray.empty), (Value.int IntKind.i64 0), (Value.int IntKind.i64 0), (Value.string ByteArray.empty)] v a) w2 λ r w' => K r w':=by
 refine Run_app1 (K:=λ _ r w' => K r w') (k:=4) (y:=.agg n.row.toArray) rfl h.sl (by decide) rfl (by decide) n.row_cell (by simp only [List.length_map]; omega) λ r w2 hr f2 hin w3 f3 => q r w2 ?_ (f0.new f2 λ c hc => (h.fresh c hc).1)
 have s:=f2.size
 refine ⟨by rw [List.map_append]; exact hr, λ c hc => ?_⟩
 have s0:=f0.size
 rcases hin c hc with hc | hc
 ·have:=h.fresh c hc; omega
 ·omega
theorem copied_run {v : Value} {fs : List Fl} (hv : Sl 4 w v (fs.map Fl.row)) (hl : fs.length <= 4294967295) : Run (F.granarylaw4_copied v) w λ r w' => OwnR w w' r fs /\ Fr (λ _ => False) w w':=by
 unfold F.granarylaw4_copied
 have lv:=hv.lenL
 rw [List.length_map] at lv
 rw [Run_bind]
 refine Run_for fs.length (λ i L w' => ∃ u, L = [u, .int .i64 (i : Int)] /\ OwnR w w' u (fs.take i) /\ Fr (λ _ => False) w w') ⟨_, rfl, OwnR.nil _ _, Fr.refl _ _⟩ ?_ ?_
 ·rintro i L w1 hi ⟨u, rfl, hO, f1⟩
  obtain ⟨n, hn⟩ : ∃ n, fs[i]? = some n:=⟨_, List.getElem?_eq_getElem hi⟩
  have hil : (i : Int) < fs.length:=by omega
  obtain ⟨p, p1, p2⟩:=(hv.fr0 f1).rdA (by decide) (i:=i) (e:=n.row) (by simp [hn]) .i64
  have p1' : idxA 4 v (.int .i64 (i : Int)) = some p:=p1
  have wi:=wrap_succ' (n:=i) (by omega)
  rw [lv, Run_bindO_some, getL_succ, getL_zero, lssT hil, Run_bindO_some, Run_condM_true, p1', Run_bindO_some, Run_bind, Run_rdM]
  refine ⟨_, p2, ?_⟩
  simp only [Run_bind]
  refine ownR_app hO f1 n (by rw [List.length_take]; omega) λ r w2 h2 f2 => ?_
  rw [binV_int, intBin_add, wi, Run_bindO_some, Run_ret]
  exact ⟨r, rfl, by rw [take_snocP hn]; exact h2, f2⟩
 ·rintro L w1 ⟨u, rfl, hO, f1⟩
  rw [List.take_length] at hO
  have hn : ¬ ((fs.length : Nat) : Int) < fs.length:=by omega
  rw [lv, Run_bindO_some, getL_succ, getL_zero, lssF hn, Run_bindO_some, Run_condM_false, Run_ret]
  simp only [outK_exit, getL_zero]
  rw [show Nat.beq 0 0 = true from rfl, cond_true, Run_ret]
  exact ⟨hO, f1⟩
theorem sameManifest_run {m : Mf} {u v : Value} (hu : Sl 4 w u (m.fs.map Fl.row)) (hv : Sl 4 w v (m.fs.map Fl.row)) (hl : m.fs.length <= 4294967296) :
  Run (F.granarylaw4_sameManifest (.agg (mval m u).toArray) (.agg (mval m v).toArray)) w λ r w' => r = .bool true /\ Fr (λ _ => False) w w':=by
 unfold F.granarylaw4_sameManifest
 rw [Run_bind]
 refine Run_new λ x1 w1 h1 _ f1 hle1 => ?_
 rw [Run_bind]
 refine Run_new λ x2 w2 h2 _ f2 hle2 => ?_
 replace h1 : bk w2 x1 = some (mval m u):=f2.bk_some h1 id
 replace h2 : bk w2 x2 = some (mval m v):=h2
 have f12:=f1.trans f2 λ _ _ => id
 have c0 : ∀ {x : Nat} {u : Value}, bk w2 x = some (mval m u) -> ld1 (.pointer (some ⟨x, 0 + 0, none⟩)) w2 = some (.string (sb m.st)):=λ h => by rw [ld1_ptr, h]; rfl
 have c1 : ∀ {x : Nat} {u : Value}, bk w2 x = some (mval m u) -> ld1 (.pointer (some ⟨x, 0 + 1, none⟩)) w2 = some (.int .i64 m.ver):=λ h => by rw [ld1_ptr, h]; rfl
 have c2 : ∀ {x : Nat} {u : Value}, bk w2 x = some (mval m u) -> ld1 (.pointer (some ⟨x, 0 + 2, none⟩)) w2 = some (.int .i64 m.node):=λ h => by rw [ld1_ptr, h]; rfl
 have c3 : ∀ {x : Nat} {u : Value}, bk w2 x = some (mval m u) -> ld1 (.pointer (some ⟨x, 0 + 3, none⟩)) w2 = some u:=λ h => by rw [ld1_ptr, h]; rfl
 have c4 : ∀ {x : Nat} {u : Value}, bk w2 x = some (mval m u) -> ld1 (.pointer (some ⟨x, 0 + 4, none⟩)) w2 = some (.int .i64 m.tot):=λ h => by rw [ld1_ptr, h]; rfl
 have c5 : ∀ {x : Nat} {u : Value}, bk w2 x = some (mval m u) -> ld1 (.pointer (some ⟨x, 0 + 5, none⟩)) w2 = some (.int .i64 m.who):=λ h => by rw [ld1_ptr, h]; rfl
 rw [fieldA_ptr, Run_bindO_some, Run_bind, Run_rdM]
 refine ⟨_, c0 h1, ?_⟩
 rw [fieldA_ptr, Run_bindO_some, Run_bind, Run_rdM]
 refine ⟨_, c0 h2, ?_⟩
 rw [sbEq, Run_bindO_some]
 simp only [decide_true, fieldA_ptr, Run_bind, Run_guardM_tt, Run_optM_some, Run_rdM]
 refine ⟨_, c1 h1, _, c1 h2, ?_⟩
 simp only [binV_int, intBin_eql, decide_true, Run_optM_some, pickV_bool, cond_true, Run_bindO_some, Run_bind, Run_guardM_tt, Run_rdM]
 refine ⟨_, c2 h1, _, c2 h2, ?_⟩
 simp only [binV_int, intBin_eql, decide_true, Run_optM_some, pickV_bool, cond_true, Run_bindO_some, Run_bind, Run_guardM_tt, Run_rdM]
 refine ⟨_, c4 h1, _, c4 h2, ?_⟩
 simp only [binV_int, intBin_eql, decide_true, Run_optM_some, pickV_bool, cond_true, Run_bindO_some, Run_bind, Run_guardM_tt, Run_rdM]
 refine ⟨_, c5 h1, _, c5 h2, ?_⟩
 simp only [binV_int, intBin_eql, decide_true, Run_optM_some, pickV_bool, cond_true, Run_bindO_some, Run_bind, Run_guardM_tt, Run_rdM]
 refine ⟨_, c3 h1, _, c3 h2, ?_⟩
 refine (sameFiles_run (hu.fr0 f12) (hv.fr0 f12) hl).mono ?_
 rintro _ w3 ⟨rfl, f3⟩
 simp only [pickV_bool, cond_true, Run_bindO_some, Run_ret]
 exact ⟨trivial, f12.trans f3 λ _ _ => id⟩
theorem man_both (ht : Tb w) (hpw : bk w 0 = some powV) {t : List UInt8} (hl : t.length <= 4294960000) : ∃ (m : Mf) (c : Int), m.fs.length <= 4294967296 /\
  (∀ w1, Fr (λ _ => False) w w1 -> Run (F.paper_ParseManifest (.string (sb t))) w1 λ r w' => ParM w1 w' m c r) /\ (∀ w1, Fr (λ _ => False) w w1 -> Run (F.granaryref4_ParseManifest (.string (sb t))) w1 λ r w' => ParM w1 w' m c r):=by
 by_cases h : ∃ m sm, maform t m sm
 ·obtain ⟨m, sm, h⟩:=h
  refine ⟨resM t m sm, codeM t m sm, ?_, λ w1 f => manparse_yes (ht.fr0 f) hl h, λ w1 f => rmanparse_yes (f.bk_some hpw id) hl h⟩
  unfold resM
  split
  ·exact (maform_fit h hl).n
  ·exact Nat.zero_le _
 ·have h' : ∀ m sm, ¬ maform t m sm:=λ m sm hf => h ⟨m, sm, hf⟩
  exact ⟨zMf, 40, Nat.zero_le _, λ w1 f => manparse_no (ht.fr0 f) hl h', λ w1 f => rmanparse_no (f.bk_some hpw id) hl h'⟩
theorem manAnswers_run (ht : Tb w) (hpw : bk w 0 = some powV) {t : List UInt8} (hl : t.length <= 4294960000) : Run (F.granarylaw4_manifestAnswers (.string (sb t))) w λ r w' => r = .bool true /\ Fr (λ _ => False) w w':=by
 obtain ⟨m, c, hn, hp, hr⟩:=man_both ht hpw hl
 unfold F.granarylaw4_manifestAnswers
 have y0 : ∀ v x, extV 0 (.tuple #[v, x]) = some v:=λ _ _ => rfl
 have y1 : ∀ v x, extV 1 (.tuple #[v, x]) = some x:=λ _ _ => rfl
 rw [Run_bind]
 refine (hp w (Fr.refl _ _)).mono ?_
 rintro _ w1 ⟨u, rfl, hu, hui, f1⟩
 rw [y0, Run_bindO_some, y1, Run_bindO_some, Run_bind]
 refine Run_new λ x4 w2 hx4 hw4 f2 hle4 => ?_
 have huc : isCell u = true:=hu.1.isCell
 rw [Run_bind, Run_stA (n:=6) ⟨⟨⟨_, hx4, by simp⟩, hw4⟩, rfl, mval_cell m huc⟩]
 have b4:=bk_sto_same (o:=0) hx4 (mval m u)
 have f13 : Fr (λ _ => False) w1 (sto w2 x4 0 (mval m u)):=f2.sto (.inr hle4) _ _
 have e4 : ∀ u : Value, setL #[(Value.string ByteArray.empty), (Value.int IntKind.i64 0), (Value.int IntKind.i64 0), (Value.slice none 0 0), (Value.int IntKind.i64 0), (Value.int IntKind.i64 0)].toList 0 (mval m u) = mval m u:=λ _ => rfl
 rw [e4] at b4
 rw [show (mval m u).toArray.toList = mval m u from rfl]
 generalize sto w2 x4 0 (mval m u) = w3 at *
 have f03:=f1.trans f13 λ _ _ => id
 have hu3:=hu.1.fr0 f13
 rw [Run_bind]
 refine (hr w3 f03).mono ?_
 rintro _ w4 ⟨v, rfl, hv, hvi, f4⟩
 have b4':=f4.bk_some b4 id
 have hu4:=hu3.fr0 f4
 rw [y0, Run_bindO_some, y1, Run_bindO_some, Run_bind]
 refine Run_new λ x9 w5 hx9 hw9 f5 hle9 => ?_
 have hvc : isCell v = true:=hv.1.isCell
 rw [Run_bind, Run_stA (n:=6) ⟨⟨⟨_, hx9, by simp⟩, hw9⟩, rfl, mval_cell m hvc⟩]
 have b9:=bk_sto_same (o:=0) hx9 (mval m v)
 rw [e4] at b9
 rw [show (mval m v).toArray.toList = mval m v from rfl]
 have f56 : Fr (λ _ => False) w4 (sto w5 x9 0 (mval m v)):=f5.sto (.inr hle9) _ _
 have b46:=f56.bk_some b4' id
 generalize sto w5 x9 0 (mval m v) = w6 at *
 have l4 : ldA 6 (.pointer (some ⟨x4, 0, none⟩)) w6 = some (.agg (mval m u).toArray):=ldA_bk b46 (Nat.le_refl _)
 have l9 : ldA 6 (.pointer (some ⟨x9, 0, none⟩)) w6 = some (.agg (mval m v).toArray):=ldA_bk b9 (Nat.le_refl _)
 rw [Run_bind, Run_rdM]
 refine ⟨_, l4, ?_⟩
 rw [Run_bind, Run_rdM]
 refine ⟨_, l9, ?_⟩
 rw [Run_bind]
 refine (sameManifest_run (hu4.fr0 f56) (hv.1.fr0 f56) hn).mono ?_
 rintro _ w7 ⟨rfl, f7⟩
 simp only [Run_bind, Run_guardM_tt, Run_ret, F.granarylaw4_num, binV_int, intBin_eql, decide_true, Run_optM_some, pickV_bool, cond_true, Run_bindO_some]
 exact ⟨trivial, ((f03.trans f4 λ _ _ => id).trans f56 λ _ _ => id).trans f7 λ _ _ => id⟩
theorem manO_len (m : Mf) : ∃ (t : List UInt8) (e : Int), manO m = .tuple #[.string (sb t), .int .i64 e] /\ t.length <= 300000:=by
 unfold manO
 by_cases hn : holdsF m = 0
 ·rw [if_pos hn]
  refine ⟨_, _, rfl, ?_⟩
  have h1:=man_len hn
  have h2 : (eightL (crcF (sb (manL m)))).length = 8:=lowD_len _ _
  have h3 : SUM.length = 4:=rfl
  simp only [closeL, List.length_append, h2, h3, List.length_singleton]
  omega
 ·rw [if_neg hn]
  exact ⟨[], _, rfl, by simp⟩
theorem mans_walk (ht : Tb w) (hpw : bk w 0 = some powV) {m : Mf} {v : Value} (hv : Sl 4 w v (m.fs.map Fl.row)) (hm : m.Fit) (hn : m.fs.length <= 4294967295) {l : List UInt8} (hl : l.length <= 4294950000) :
  Run (F.granarylaw4_PaperManifests (.agg (mval m v).toArray) (.string (sb l))) w λ r w' => r = .bool true /\ Fr (λ _ => False) w w':=by
 unfold F.granarylaw4_PaperManifests
 have nv : ∀ b, notV (.bool b) = some (.bool !b):=λ _ => rfl
 rw [Run_bind]
 refine Run_new λ x w1 hx hxw f1 hxle => ?_
 replace hx : bk w1 x = some (mval m v):=hx
 have c3 : ∀ {w2 : World}, Fr (λ _ => False) w1 w2 -> ld1 (.pointer (some ⟨x, 0 + 3, none⟩)) w2 = some v:=λ f => by rw [ld1_ptr, f.bk_some hx id]; rfl
 have cA : ∀ {w2 : World}, Fr (λ _ => False) w1 w2 -> ldA 6 (.pointer (some ⟨x, 0, none⟩)) w2 = some (.agg (mval m v).toArray):=λ f => ldA_bk (f.bk_some hx id) (Nat.le_refl _)
 rw [fieldA_ptr, Run_bindO_some, Run_bind, Run_rdM]
 refine ⟨_, c3 (Fr.refl _ _), ?_⟩
 rw [Run_bind]
 refine (copied_run (hv.fr0 f1) hn).mono ?_
 rintro u w2 ⟨hO, f2⟩
 have f02:=f1.trans f2 λ _ _ => id
 rw [Run_bind, Run_rdM]
 refine ⟨_, cA f2, ?_⟩
 rw [Run_bind]
 refine (manprint_run (ht.fr0 f02) (hv.fr0 f02) hm).mono ?_
 rintro _ w3 ⟨rfl, f3⟩
 have f13:=f2.trans f3 λ _ _ => id
 have f03:=f02.trans f3 λ _ _ => id
 obtain ⟨tx, e, hno, htx⟩:=manO_len m
 have y0 : ∀ v x, extV 0 (.tuple #[v, x]) = some v:=λ _ _ => rfl
 have y1 : ∀ v x, extV 1 (.tuple #[v, x]) = some x:=λ _ _ => rfl
 rw [hno, y0, Run_bindO_some, y1, Run_bindO_some, Run_bindO_some, Run_bind, Run_rdM]
 refine ⟨_, c3 f13, ?_⟩
 rw [Run_bind]
 refine (sameFiles_run (hO.sl.1.fr0 f3) (hv.fr0 f03) (by omega)).mono ?_
 rintro _ w4 ⟨rfl, f4⟩
 have f14:=f13.trans f4 λ _ _ => id
 have f04:=f03.trans f4 λ _ _ => id
 rw [nv, Bool.not_true, Run_bindO_some, Run_condM_false, Run_bind, Run_rdM]
 refine ⟨_, cA f14, ?_⟩
 rw [Run_bind]
 refine (rmanprint_run (ht.fr0 f04) (f04.bk_some hpw id) (hv.fr0 f04) hm).mono ?_
 rintro _ w5 ⟨rfl, f5⟩
 have f05:=f04.trans f5 λ _ _ => id
 rw [hno, y0, Run_bindO_some, y1, Run_bindO_some, sbEq]
 simp only [decide_true, Run_bindO_some, Run_bind, Run_guardM_tt, Run_ret, F.granarylaw4_num, binV_int, intBin_eql, Run_optM_some, pickV_bool, cond_true]
 refine (manAnswers_run (ht.fr0 f05) (f05.bk_some hpw id) (show l.length <= 4294960000 by omega)).mono ?_
 rintro _ w6 ⟨rfl, f6⟩
 have f06:=f05.trans f6 λ _ _ => id
 simp only [pickV_bool, cond_true, Run_bindO_some, Run_bind, Run_guardM_tt, Run_ret]
 refine (manAnswers_run (ht.fr0 f06) (f06.bk_some hpw id) (show tx.length <= 4294960000 by omega)).mono ?_
 rintro _ w7 ⟨rfl, f7⟩
 simp only [pickV_bool, cond_true, Run_bindO_some, Run_ret]
 exact ⟨trivial, f06.trans f7 λ _ _ => id⟩
end
theorem tb_ofN {W : World} (h : laidMetH Tryz.prog Rows.paperManifestsUptoRow.laid W) (hsh : W.ShapedOpen Tryz.prog) : Tb W /\ bk W 0 = some powV:=by
 have h' : laidMet Tryz.prog Rows.paperManifestsUptoRow.laid W:=h
 obtain ⟨ps, hv, _⟩:=h'
 obtain ⟨bp, qp, vp⟩:=tab_step (k:=.i64) (zs:=(List.range 32).map λ i => ((2 ^ i : Nat) : Int)) (g:=0) (t:=gTy 0) (e:=eTy 0) (n:=32) (by kernel_rfl) (by kernel_rfl) (by kernel_rfl) (by kernel_rfl) (by kernel_rfl) (by kernel_rfl) hv
 obtain ⟨b3, q3, v3⟩:=tab_step (k:=.u8) (zs:=deb32) (g:=9) (t:=gTy 9) (e:=eTy 9) (n:=32) (by kernel_rfl) (by kernel_rfl) (by kernel_rfl) (by kernel_rfl) (by kernel_rfl) (by kernel_rfl) vp
 obtain ⟨b4, q4, v4⟩:=tab_step (k:=.u8) (zs:=deb64) (g:=10) (t:=gTy 10) (e:=eTy 10) (n:=64) (by kernel_rfl) (by kernel_rfl) (by kernel_rfl) (by kernel_rfl) (by kernel_rfl) (by kernel_rfl) v3
 obtain ⟨b0, q0, v0⟩:=tab_step (k:=.u32) (zs:=nibZ) (g:=1) (t:=gTy 1) (e:=eTy 1) (n:=16) (by kernel_rfl) (by kernel_rfl) (by kernel_rfl) (by kernel_rfl) (by kernel_rfl) (by kernel_rfl) v4
 obtain ⟨b2, q2, v2⟩:=tab_step (k:=.u64) (zs:=Lib.pow10Tab) (g:=6) (t:=gTy 6) (e:=eTy 6) (n:=20) (by kernel_rfl) (by kernel_rfl) (by kernel_rfl) (by kernel_rfl) (by kernel_rfl) (by kernel_rfl) v0
 exact ⟨⟨b0, ml_of hsh, b2, _, b4, rfl⟩, bp.trans (by rw [List.map_map]; rfl)⟩
abbrev shFl : Shs:=.str (.int .i64 (.int .i64 (.str .nil)))
theorem rdFl {w : World} {c : List Value} {n : Nat} (h : shFl.Rd w c n) : ∃ f : Fl, c = f.row /\ f.nm.length <= n /\ f.md.length <= n:=by
 obtain ⟨s, _, _, h1, k1, a, _, _, h2, _, k2, b, _, _, h3, _, k3, d, _, _, h4, k4, h5⟩:=h
 subst h5; subst h4; subst h3; subst h2
 have e1 : s.data.toList.length = s.size:=Array.length_toList
 have e2 : d.data.toList.length = d.size:=Array.length_toList
 refine ⟨⟨s.data.toList, a, b, d.data.toList⟩, h1, ?_, ?_⟩
 ·show s.data.toList.length <= n
  omega
 ·show d.data.toList.length <= n
  omega
abbrev shMf : Shs:=.str (.int .i64 (.int .i64 (.slice shFl (.int .i64 (.int .i64 .nil)))))
theorem rdMf {w : World} {cs : Array Value} {n : Nat} (h : shMf.Rd w cs.toList n) (hn : n <= 1048576) : ∃ (m : Mf) (v : Value), Value.agg cs = Value.agg (mval m v).toArray /\ Sl 4 w v (m.fs.map Fl.row) /\ m.Fit /\ m.fs.length <= 1048576:=by
 obtain ⟨s, _, m1, h1, k1, a, _, m2, h2, _, k2, b, _, m3, h3, _, k3, v, els, cs4, ns, m4, h4, hsl, hns, hel, k4, c, _, m5, h5, _, k5, d, _, m6, h6, _, k6, h7⟩:=h
 subst h7; subst h6; subst h5; subst h4; subst h3; subst h2
 have e1 : s.data.toList.length = s.size:=Array.length_toList
 have hr : (Shs.slice shFl .nil).Rd w [v] 1048577:=⟨v, els, [], ns, 0, rfl, hsl, hns, hel, by omega, rfl⟩
 obtain ⟨l, g1, g2⟩:=hr.slice1 (T:={ f : Fl // f.nm.length <= 1048577 /\ f.md.length <= 1048577 }) (f:=λ f => f.1.row) λ c k hk hc => by
  obtain ⟨f, rfl, f1, f2⟩:=rdFl hc
  exact ⟨⟨f, by omega, by omega⟩, rfl⟩
 have hlen : els.length <= 1048576:=by
  have : ∀ (els : List (List Value)) (ns : List Nat), ns.length = els.length -> (∀ (i : Nat) (c : List Value) (k : Nat), els[i]? = some c -> ns[i]? = some k -> 1 <= k) -> els.length <= ns.sum:=by
   intro els
   induction els with
   | nil => intro ns _ _; simp
   | cons c els ih =>
    intro ns hl hn
    cases ns with
    | nil => simp at hl
    | cons k ns =>
     have:=ih ns (by simpa using hl) λ i c k hi hk => hn (i + 1) c k (by simpa using hi) (by simpa using hk)
     have:=hn 0 c k rfl rfl
     simp; omega
  have:=this els ns hns λ i c k hi hk => (hel i c k hi hk).1
  omega
 have hlv:=hsl.lenL
 have glv:=g1.lenL
 rw [List.length_map] at glv
 have hll : l.length <= 1048576:=by
  rw [hlv] at glv
  injection glv with glv
  injection glv with _ glv
  omega
 refine ⟨⟨s.data.toList, a, b, l.map (·.1), c, d⟩, v, ?_, by rw [List.map_map]; exact g1, ⟨?_, ?_, ?_⟩, ?_⟩
 ·cases cs
  simp at h1
  rw [h1]
  rfl
 ·show s.data.toList.length <= _
  omega
 ·intro f hf
  obtain ⟨x, _, rfl⟩:=List.mem_map.1 hf
  have:=x.2
  omega
 ·show (l.map (·.1)).length <= _
  rw [List.length_map]; omega
 ·show (l.map (·.1)).length <= _
  rw [List.length_map]; omega
theorem paperManifests_top {W : World} {cs : Array Value} {n : Nat} (hv : (Shs.str (.int .i64 (.int .i64 (.slice (.str (.int .i64 (.int .i64 (.str .nil)))) (.int .i64 (.int .i64 .nil)))))).Rd W cs.toList n) {n0 : Nat} (s : ByteArray) (hs : s.size + 1 <= n0) (hk : n + n0 <= 1048576) (hL : laidMetH Tryz.prog Rows.paperManifestsUptoRow.laid W) (hsh : W.ShapedOpen Tryz.prog) :
  Run (F.granarylaw4_PaperManifests (.agg cs) (.string s)) W λ r w' => r = .bool true /\ Fr (λ _ => False) W w':=by
 obtain ⟨m, v, hm, hsl, hfit, hn⟩:=rdMf hv (by omega)
 rw [hm, sb_self s]
 have hl : s.data.toList.length = s.size:=Array.length_toList
 obtain ⟨t1, t2⟩:=tb_ofN hL hsh
 exact mans_walk t1 t2 hsl hfit (by omega) (by omega)
end Go.Proofs.YthlpfhjcdedhgaaGreatDoor
