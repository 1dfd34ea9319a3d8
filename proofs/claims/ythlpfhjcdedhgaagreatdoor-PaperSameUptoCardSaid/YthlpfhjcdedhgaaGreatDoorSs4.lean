/- What the statement rests on: part 5. -/
import Derived.Test.YthlpfhjcdedhgaaGreatDoorSs3
namespace Go.Proofs.YthlpfhjcdedhgaaGreatDoor
open Go.Lift
set_option linter.unusedSimpArgs false
set_option linter.unusedVariables false
set_option maxHeartbeats 4000000
section
variable {w w1 w2 : World}
theorem printed_form {n : Nt} (h : n.pok = true) : pform (closeL (ptrL n)) n (crcF (sb (ptrL n))):=by
 have hp:=(pok_iff n).1 h
 refine ⟨_, _, _, _, eightL (crcF (sb (ptrL n))), n.k.toNat, n.f.toNat, n.u.toNat, n.c.toNat, ?_, dec_num (n:=n.k.toNat) (by omega), dec_num (n:=n.f.toNat) (by omega), dec_num (n:=n.u.toNat) (by omega), dec_num (n:=n.c.toNat) (by omega), eight_sum (crcF_lt _), ?_⟩
 ·unfold closeL
  generalize crcF (sb (ptrL n)) = q
  rw [ptr_parts]
 ·obtain ⟨k, f, u, c⟩:=n
  simp only at hp
  simp only [Nt.mk.injEq]
  omega
theorem close_take (l : List UInt8) : (closeL l).take ((closeL l).length - 13) = l:=by
 have h8 : (eightL (crcF (sb l))).length = 8:=lowD_len _ _
 have h4 : SUM.length = 4:=rfl
 have hl : (closeL l).length = l.length + 13:=by
  simp only [closeL, List.length_append, h8, h4, List.length_singleton]
 rw [hl, Nat.add_sub_cancel]
 unfold closeL
 rw [List.append_assoc, List.append_assoc, List.take_left]
theorem first_run (ht : Tb w) : Run F.granarylaw4_first w λ r w' => r = .bool true /\ Fr (λ _ => False) w w':=by
 unfold F.granarylaw4_first
 have hb : buildV #[(Value.int IntKind.i64 0), (Value.int IntKind.i64 0), (Value.int IntKind.i64 0), (Value.int IntKind.i64 0)] [(0, 1, (Value.int IntKind.i64 1)), (2, 1, (Value.int IntKind.i64 1)), (3, 1, (Value.int IntKind.i64 1))] = some (Nt.v ⟨1, 0, 1, 1⟩):=by kernel_rfl
 have hp : (⟨1, 0, 1, 1⟩ : Nt).pok = true:=by decide
 have y0 : ∀ v x, extV 0 (.tuple #[v, x]) = some v:=λ _ _ => rfl
 have y1 : ∀ v x, extV 1 (.tuple #[v, x]) = some x:=λ _ _ => rfl
 rw [hb, Run_bindO_some, Run_bind]
 refine (pprint_run ht _).mono ?_
 rintro _ w1 ⟨rfl, f1⟩
 have hl:=ptr_len hp
 have hlc : (closeL (ptrL ⟨1, 0, 1, 1⟩)).length <= 4294960000:=by
  have h8 : (eightL (crcF (sb (ptrL ⟨1, 0, 1, 1⟩)))).length = 8:=lowD_len _ _
  have h4 : SUM.length = 4:=rfl
  simp only [closeL, List.length_append, h8, h4, List.length_singleton]
  omega
 rw [ptrO, if_pos hp, y0, Run_bindO_some, y1, Run_bindO_some, Run_bind]
 refine (pparse_run (ht.fr0 f1) hlc).mono ?_
 rintro r w2 ⟨hr, f2⟩
 have e:=hr.yes _ _ (printed_form hp)
 rw [ansV, close_take, if_pos rfl, if_pos hp] at e
 subst e
 rw [y0, Run_bindO_some, y1, Run_bindO_some, Run_bind]
 refine Run_new λ x8 w3 hx8 hw8 f3 hle8 => ?_
 rw [Run_bind, Run_stM (by rfl) (by rfl) ⟨⟨_, hx8, by simp [Nt.v, Value.cells]⟩, hw8⟩]
 have b8:=bk_sto_same (o:=0) hx8 (Nt.v ⟨1, 0, 1, 1⟩).cells.toList
 have f34 : Fr (λ _ => False) w2 (sto w3 x8 0 (Nt.v ⟨1, 0, 1, 1⟩).cells.toList):=f3.sto (.inr hle8) _ _
 generalize sto w3 x8 0 (Nt.v ⟨1, 0, 1, 1⟩).cells.toList = w4 at *
 have l8 : ldA 4 (.pointer (some ⟨x8, 0, none⟩)) w4 = some (Nt.v ⟨1, 0, 1, 1⟩):=ldA_bk b8 (by first | exact Nat.le_refl _ | simp)
 simp only [F.granarylaw4_num, Run_bind, Run_ret, binV_int, intBin_eql, decide_true, Run_bindO_some, Run_guardM_tt, Run_optM_some, pickV_bool, cond_true, Run_rdM]
 refine ⟨_, l8, ?_⟩
 simp only [hb, Run_optM_some, eqRow, pickV_bool, cond_true, Run_bindO_some]
 exact ⟨trivial, (f1.trans f2 λ _ _ => id).trans f34 λ _ _ => id⟩
end
theorem store_no {l : List UInt8} (h : storeP l = true) : l ≠ [] /\ (32 : UInt8) ∉ l /\ (10 : UInt8) ∉ l:=by
 obtain ⟨h1, _, h3⟩:=storeP_len h
 refine ⟨λ e => by subst e; simp at h1, λ hc => ?_, λ hc => ?_⟩
 ·exact absurd (h3 _ hc) (by decide)
 ·exact absurd (h3 _ hc) (by decide)
theorem mprinted_form {m : Mt} (h : m.mok = true) : MForm (closeL (metaL m)) m (crcF (sb (metaL m))) (Lib.decDigits m.a.toNat) (Lib.decDigits m.b.toNat) (Lib.decDigits m.c.toNat) (Lib.decDigits m.d.toNat) (Lib.decDigits m.e.toNat) (Lib.decDigits m.f.toNat) (Lib.decDigits m.h.toNat) (eightL (crcF (sb (metaL m)))):=by
 have h' : (storeP m.st && m.fok) = true:=h
 rw [Bool.and_eq_true] at h'
 obtain ⟨h1, h2, h3⟩:=store_no h'.1
 have hp:=(mfok_iff m).1 h'.2
 refine ⟨?_, h1, h2, h3, ⟨_, dec_num (by omega), by omega⟩, ⟨_, dec_num (by omega), by omega⟩, ⟨_, dec_num (by omega), by omega⟩, ⟨_, dec_num (by omega), by omega⟩, ⟨_, dec_num (by omega), by omega⟩, ⟨_, dec_num (by omega), by omega⟩, ⟨_, dec_num (by omega), by omega⟩, eight_sum (crcF_lt _)⟩
 unfold closeL
 generalize crcF (sb (metaL m)) = q
 rw [meta_parts]
 simp only [List.append_assoc]
theorem mansV_printed {m : Mt} (h : m.mok = true) : mansV (closeL (metaL m)) m (crcF (sb (metaL m))) = .tuple #[m.v, .int .i64 0]:=by
 rw [mansV, close_take, if_pos rfl, if_pos h]
theorem ansV_printed {n : Nt} (h : n.pok = true) : ansV (closeL (ptrL n)) n (crcF (sb (ptrL n))) = .tuple #[n.v, .int .i64 0]:=by
 rw [ansV, close_take, if_pos rfl, if_pos h]
end Go.Proofs.YthlpfhjcdedhgaaGreatDoor
namespace Go.Proofs.YthlpfhjcdedhgaaGreatDoor
open Go.Lift
set_option linter.unusedSimpArgs false
set_option linter.unusedVariables false
set_option maxHeartbeats 4000000
set_option maxRecDepth 4000
def fiSet : List UInt8:=[97, 98, 99, 100, 101, 102, 103, 104, 105, 106, 107, 108, 109, 110, 111, 112, 113, 114, 115, 116, 117, 118, 119, 120, 121, 122, 48, 49, 50, 51, 52, 53, 54, 55, 56, 57, 45, 95, 46]
theorem fiSet_low : ∀ c ∈ fiSet, c.toNat < 128:=by decide +kernel
def fileP (l : List UInt8) : Bool:=decide (1 <= l.length /\ l.length <= 40 /\ l ≠ [46] /\ l ≠ [46, 46]) && l.all λ c => decide (c ∈ fiSet)
theorem fileP_mem {l : List UInt8} (h : fileP l = true) : 1 <= l.length /\ l.length <= 40 /\ ∀ c ∈ l, c ∈ fiSet:=by
 unfold fileP at h
 simp only [Bool.and_eq_true, decide_eq_true_eq] at h
 exact ⟨h.1.1, h.1.2.1, λ x hx => of_decide_eq_true (List.all_eq_true.1 h.2 x hx)⟩
section
variable {w w1 w2 : World}
theorem fileOK_run (l : List UInt8) (hl : l.length <= 4611686018427387904) : Run (F.paper_fileOK (.string (sb l))) w λ r w' => r = .bool (fileP l) /\ Fr (λ _ => False) w w':=by
 unfold F.paper_fileOK
 have e0 : ByteArray.mk #[] = sb []:=rfl
 have e1 : ByteArray.mk #[46] = sb [46]:=rfl
 have e2 : ByteArray.mk #[46, 46] = sb [46, 46]:=rfl
 have eS : ByteArray.mk #[97, 98, 99, 100, 101, 102, 103, 104, 105, 106, 107, 108, 109, 110, 111, 112, 113, 114, 115, 116, 117, 118, 119, 120, 121, 122, 48, 49, 50, 51, 52, 53, 54, 55, 56, 57, 45, 95, 46] = sb fiSet:=rfl
 have no : ¬ (1 <= l.length /\ l.length <= 40 /\ l ≠ [46] /\ l ≠ [46, 46]) -> fileP l = false:=λ h => by
  unfold fileP
  rw [decide_eq_false h, Bool.false_and]
 rw [e0, e1, e2, eS, sbEq]
 by_cases h0 : l = []
 ·rw [decide_eq_true h0, Run_bindO_some, no λ h => by rw [h0] at h; exact absurd h.1 (by decide)]
  simp only [Run_bind, Run_guardM_tf, pickV_bool, cond_true, Run_bindO_some, Run_condM_true, Run_ret]
  exact ⟨trivial, Fr.refl _ _⟩
 rw [decide_eq_false h0, Run_bindO_some]
 simp only [Run_bind, Run_guardM_ff, Run_ret, lenS_string, sb_size, Run_optM_some, binV_int, intBin_gtr, pickV_bool, cond_false, Run_bindO_some]
 by_cases h40 : l.length <= 40
 case neg =>
  have h1 : ((l.length : Nat) : Int) > 40:=by omega
  rw [decide_eq_true h1, no λ h => h40 h.2.1]
  simp only [Run_bind, Run_guardM_tf, pickV_bool, cond_true, Run_bindO_some, Run_condM_true, Run_ret]
  exact ⟨trivial, Fr.refl _ _⟩
 have h1 : ¬ ((l.length : Nat) : Int) > 40:=by omega
 rw [decide_eq_false h1]
 simp only [Run_bind, Run_guardM_ff, Run_ret, sbEq, Run_optM_some, pickV_bool, cond_false, Run_bindO_some]
 by_cases d1 : l = [46]
 ·rw [decide_eq_true d1, no λ h => h.2.2.1 d1]
  simp only [Run_bind, Run_guardM_tf, pickV_bool, cond_true, Run_bindO_some, Run_condM_true, Run_ret]
  exact ⟨trivial, Fr.refl _ _⟩
 rw [decide_eq_false d1]
 simp only [Run_bind, Run_guardM_ff, Run_ret, sbEq, Run_optM_some, pickV_bool, cond_false, Run_bindO_some]
 by_cases d2 : l = [46, 46]
 ·rw [decide_eq_true d2, no λ h => h.2.2.2 d2]
  simp only [Run_condM_true, Run_ret]
  exact ⟨trivial, Fr.refl _ _⟩
 rw [decide_eq_false d2, Run_condM_false, Run_bind]
 refine (trim_run (l:=l) (cs:=fiSet) h0 hl fiSet_low (by decide) (by decide)).mono ?_
 rintro _ w1 ⟨⟨t, rfl, ht⟩, f1⟩
 rw [sbEq, Run_bindO_some, Run_ret]
 have hl1 : 1 <= l.length:=List.length_pos_iff.2 h0
 have : fileP l = decide (t = []):=by
  unfold fileP
  rw [decide_eq_true ⟨hl1, h40, d1, d2⟩, Bool.true_and, Bool.eq_iff_iff, decide_eq_true_iff, ht, List.all_eq_true]
  simp
 rw [this]
 exact ⟨rfl, f1⟩
end
end Go.Proofs.YthlpfhjcdedhgaaGreatDoor
namespace Go.Proofs.YthlpfhjcdedhgaaGreatDoor
open Go.Lift
set_option linter.unusedSimpArgs false
set_option linter.unusedVariables false
set_option maxHeartbeats 4000000
theorem sbGeq (a c : List UInt8) : binV .geq (.string (sb a)) (.string (sb c)) = some (.bool (!(Op.bytesLess a c))):=by
 show strBin .geq (sb a) (sb c) = _
 simp only [strBin, ByteArray.toList_eq]
 rfl
def hexL (s : List UInt8) : List UInt8:=(s.map λ c => [hexd (c.toNat / 16), hexd (c.toNat % 16)]).flatten
theorem hexL_len : ∀ s : List UInt8, (hexL s).length = 2 * s.length
 | [] => rfl
 | c :: s => by
  have:=hexL_len s
  simp only [hexL, List.map_cons, List.flatten_cons, List.length_append, List.length_cons, List.length_nil] at this ⊢
  omega
theorem hexL_snoc (s : List UInt8) (c : UInt8) : hexL (s ++ [c]) = hexL s ++ [hexd (c.toNat / 16), hexd (c.toNat % 16)]:=by simp [hexL]
section
variable {w w1 w2 : World}
theorem ownB_more {v x : Value} {l s : List UInt8} (h : OwnB w w1 v l) (hx : Sl 1 w1 x (s.map λ b => [by8 b])) {a2 : Nat} (hl : l.length + s.length <= 33554432) {K : Value -> World -> Prop} (q : ∀ r w2, OwnB w w2 r (l ++ s) -> K r w2) :
  Run (appM a2 1 1 #[(Value.int IntKind.u8 0)] v x) w1 λ r w' => K r w':=by
 refine Run_appM (k:=1) h.sl hx (by decide) rfl (by decide) (λ e he => by obtain ⟨b, _, rfl⟩:=List.mem_map.1 he; rfl) (by simp only [List.length_map]; omega) λ r w2 hr f2 hin => q r w2 ?_
 have s2:=f2.size
 have s0:=h.fr.size
 refine ⟨by rw [List.map_append]; exact hr, λ c hc => ?_, h.fr.new f2 λ c hc => (h.fresh c hc).1⟩
 rcases hin c hc with hc | hc
 ·have:=h.fresh c hc; omega
 ·omega
theorem shr8_4 {a : Nat} : shV .shr (.int .u8 (a : Int)) (.int .u64 4) = some (.int .u8 ((a / 16 : Nat) : Int)):=by
 have h : ¬ ((4 : Int) < 0):=by omega
 simp only [shV, h, if_false]
 rw [show (4 : Int).toNat = 4 from rfl, Nat.min_eq_left (by decide), Int.fdiv_eq_ediv_of_nonneg _ (by decide)]
 norm_cast
theorem and8_15 {a : Nat} (ha : a < 256) : intBin .and .u8 (a : Int) 15 = some (.int .u8 ((a % 16 : Nat) : Int)):=by
 have h15 : ((15 : Int)) = ((15 : Nat) : Int):=rfl
 rw [h15]
 simp only [intBin]
 rw [bv_and (n:=IntKind.u8.bits) (show a < 2 ^ 8 from ha) (show 15 < 2 ^ 8 by decide), show (15 : Nat) = 2 ^ 4 - 1 from rfl, Nat.and_two_pow_sub_one_eq_mod, u8W (by omega)]
theorem hex_run {s : List UInt8} (hs : s.length <= 1048576) : Run (F.digest_Hex (.string (sb s))) w λ r w' => r = .string (sb (hexL s)) /\ Fr (λ _ => False) w w':=by
 unfold F.digest_Hex
 have eD : ByteArray.mk #[48, 49, 50, 51, 52, 53, 54, 55, 56, 57, 97, 98, 99, 100, 101, 102] = DIG:=rfl
 have w2' : IntKind.i64.wrap (2 * (s.length : Int)) = ((2 * s.length : Nat) : Int):=by rw [show 2 * (s.length : Int) = ((2 * s.length : Nat) : Int) by omega]; exact i64W (by omega)
 rw [lenS_string, sb_size, Run_bindO_some, binV_int, intBin_mul, w2', Run_bindO_some, Run_bind]
 refine Run_mksM (k:=1) (n:=0) (c:=2 * s.length) rfl (by omega) (by omega) (by omega) λ v w1 hv f1 hn => ?_
 rw [eD, Run_bind]
 refine Run_for s.length (λ i L w' => ∃ v, L = [v, .int .i64 (i : Int)] /\ OwnB w w' v (hexL (s.take i))) ⟨v, rfl, ⟨hv, hn, f1⟩⟩ ?_ ?_
 ·rintro i L w2 hi ⟨v, rfl, hO⟩
  obtain ⟨c, hc⟩ : ∃ c, s[i]? = some c:=⟨_, List.getElem?_eq_getElem hi⟩
  have hil : (i : Int) < s.length:=by omega
  have hct:=c.toNat_lt
  rw [Run_bindO_some, getL_succ, getL_zero, lssT hil, Run_bindO_some, Run_condM_true, Run_drewM]
  have hO2 : OwnB w w2.drew v (hexL (s.take i)):=⟨hO.sl.fr (show Fr (λ _ => False) w2 w2.drew from (Fr.refl _ _).drew) λ _ _ => id, hO.fresh, hO.fr.drew⟩
  generalize w2.drew = w3 at *
  have hix : idxS (.string (sb s)) (.int .i64 (i : Int)) = some (by8 c):=idxSb hc
  rw [hix, Run_bindO_some]
  have b8 : by8 c = .int .u8 ((c.toNat : Nat) : Int):=rfl
  rw [b8, shr8_4, Run_bindO_some, idx_DIG (by omega), Run_bindO_some, Run_bindO_some, binV_int, and8_15 (by omega), Run_bindO_some, idx_DIG (by omega), Run_bindO_some, Run_bind]
  refine Run_bsl (k:=1) (vs:=[by8 (hexd (c.toNat / 16)), by8 (hexd (c.toNat % 16))]) (by rfl) (by intro v hv; simp only [List.mem_cons, List.not_mem_nil, or_false] at hv; rcases hv with rfl | rfl <;> rfl) rfl (by kernel_rfl) λ x w4 hx f4 _ => ?_
  have hO4 : OwnB w w4 v (hexL (s.take i)):=⟨hO2.sl.fr f4 λ _ _ => id, λ c hc => ⟨(hO2.fresh c hc).1, Nat.lt_of_lt_of_le (hO2.fresh c hc).2 f4.size⟩, hO2.fr.trans f4 λ _ _ => id⟩
  have hl:=hexL_len (s.take i)
  have hlt : (s.take i).length <= i:=List.length_take_le i s
  rw [getL_zero, Run_bind]
  refine ownB_more (s:=[hexd (c.toNat / 16), hexd (c.toNat % 16)]) hO4 hx.1 (by simp only [List.length_cons, List.length_nil]; omega) λ r w5 h5 => ?_
  rw [binV_int, intBin_add, wrap_succ' (by omega), Run_bindO_some, Run_ret, take_snocP hc, hexL_snoc]
  exact ⟨r, rfl, h5⟩
 ·rintro L w2 ⟨v, rfl, hO⟩
  have hil : ¬ ((s.length : Nat) : Int) < s.length:=by omega
  rw [List.take_length] at hO
  rw [Run_bindO_some, getL_succ, getL_zero, lssF hil, Run_bindO_some, Run_condM_false, Run_ret]
  simp only [outK_exit, getL_zero]
  rw [show Nat.beq 0 0 = true from rfl, cond_true, Run_bind, Run_rdM]
  refine ⟨_, ownB_text hO.sl.1, ?_⟩
  rw [Run_ret]
  exact ⟨rfl, hO.fr⟩
end
structure Fl where
 nm : List UInt8
 sz : Int
 crc : Int
 md : List UInt8
def Fl.row (f : Fl) : List Value:=[.string (sb f.nm), .int .i64 f.sz, .int .i64 f.crc, .string (sb f.md)]
def Fl.ok (f : Fl) : Bool:=fileP f.nm && decide (0 <= f.sz /\ f.sz <= 1073741824) && decide (0 <= f.crc /\ f.crc <= 4294967295) && decide (f.md.length = 16)
theorem Fl.row_cell (f : Fl) : f.row.toArray.toList.all isCell = true:=by simp [Fl.row]
structure Mf where
 st : List UInt8
 ver : Int
 node : Int
 fs : List Fl
 tot : Int
 who : Int
def mval (m : Mf) (v : Value) : List Value:=[.string (sb m.st), .int .i64 m.ver, .int .i64 m.node, v, .int .i64 m.tot, .int .i64 m.who]
def prs : Option (List UInt8) -> List Fl -> List (Option (List UInt8) × Fl)
 | _, [] => []
 | p, f :: r => (p, f) :: prs (some f.nm) r
def okP (z : Option (List UInt8) × Fl) : Bool:=z.2.ok && (match z.1 with
 | none => true
 | some a => Op.bytesLess a z.2.nm)
def filesOk (fs : List Fl) : Bool:=(prs none fs).all okP
def totF (fs : List Fl) : Nat:=(fs.map λ f => f.sz.toNat).sum
def whoF (fs : List Fl) : Nat:=fs.foldl (λ w f => joinF w f.crc.toNat f.sz.toNat) 0
def headOk (m : Mf) : Bool:=storeP m.st && decide (1 <= m.ver /\ m.ver <= 999999) && decide (0 <= m.node /\ m.node <= 15) && decide (m.fs.length <= 1025) && (decide (0 <= m.tot /\ m.tot <= 9007199254740992) && decide (0 <= m.who /\ m.who <= 4294967295))
def holdsF (m : Mf) : Int:=if (headOk m && filesOk m.fs) = true then (if (totF m.fs : Int) = m.tot /\ (whoF m.fs : Int) = m.who then 0 else 43) else 42
theorem prs_len : ∀ (fs : List Fl) (p : Option (List UInt8)), (prs p fs).length = fs.length
 | [], p => rfl
 | f :: r, p => by show (prs (some f.nm) r).length + 1 = _; rw [prs_len r]; rfl
theorem prs_zero {fs : List Fl} {f : Fl} (p : Option (List UInt8)) (h : fs[0]? = some f) : (prs p fs)[0]? = some (p, f):=by
 cases fs with
 | nil => cases h
 | cons x r => cases h; rfl
theorem prs_succ : ∀ {fs : List Fl} {i : Nat} {f g : Fl} (p : Option (List UInt8)), fs[i]? = some g -> fs[i + 1]? = some f -> (prs p fs)[i + 1]? = some (some g.nm, f)
 | [], i, f, g, p, h, _ => by simp at h
 | x :: r, 0, f, g, p, h, h' => by
  cases h
  exact prs_zero (some _) (by simpa using h')
 | x :: r, i + 1, f, g, p, h, h' => by
  have:=prs_succ (fs:=r) (i:=i) (some x.nm) (by simpa using h) (by simpa using h')
  exact this
theorem Fl.ok_iff {f : Fl} : f.ok = true ↔ fileP f.nm = true /\ (0 <= f.sz /\ f.sz <= 1073741824) /\ (0 <= f.crc /\ f.crc <= 4294967295) /\ f.md.length = 16:=by
 unfold Fl.ok
 simp only [Bool.and_eq_true, decide_eq_true_eq, and_assoc]
theorem filesOk_at {fs : List Fl} (h : filesOk fs = true) : ∀ f ∈ fs, f.ok = true:=by
 have : ∀ (fs : List Fl) (p : Option (List UInt8)), (prs p fs).all okP = true -> ∀ f ∈ fs, f.ok = true:=by
  intro fs
  induction fs with
  | nil => intro _ _ f hf; cases hf
  | cons x r ih =>
   intro p hp f hf
   have hp' : (okP (p, x) && (prs (some x.nm) r).all okP) = true:=hp
   rw [Bool.and_eq_true] at hp'
   rcases List.mem_cons.1 hf with rfl | hf
   ·unfold okP at hp'
    rw [Bool.and_eq_true] at hp'
    exact hp'.1.1
   ·exact ih _ hp'.2 f hf
 exact this fs none h
theorem totF_snoc {fs : List Fl} {i : Nat} {f : Fl} (h : fs[i]? = some f) : totF (fs.take (i + 1)) = totF (fs.take i) + f.sz.toNat:=by
 unfold totF
 rw [take_snocP h]
 simp
theorem whoF_snoc {fs : List Fl} {i : Nat} {f : Fl} (h : fs[i]? = some f) : whoF (fs.take (i + 1)) = joinF (whoF (fs.take i)) f.crc.toNat f.sz.toNat:=by
 unfold whoF
 rw [take_snocP h, List.foldl_append]
 rfl
theorem tot_le : ∀ {fs : List Fl}, (∀ f ∈ fs, f.ok = true) -> totF fs <= fs.length * 1073741824
 | [], _ => by simp [totF]
 | f :: r, h => by
  have h1:=(Fl.ok_iff.1 (h f (by simp))).2.1
  have h2:=tot_le (fs:=r) λ g hg => h g (by simp [hg])
  simp only [totF, List.map_cons, List.sum_cons, List.length_cons] at h2 ⊢
  omega
theorem who_lt {fs : List Fl} (h : ∀ f ∈ fs, f.ok = true) : whoF fs < 4294967296:=by
 have : ∀ (fs : List Fl) (a : Nat), a < 4294967296 -> (∀ f ∈ fs, f.ok = true) -> fs.foldl (λ w f => joinF w f.crc.toNat f.sz.toNat) a < 4294967296:=by
  intro fs
  induction fs with
  | nil => intro a ha _; exact ha
  | cons f r ih =>
   intro a ha hok
   have h1:=(Fl.ok_iff.1 (hok f (by simp))).2.2.1
   exact ih _ (joinF_lt _ ha (by omega)) λ g hg => hok g (by simp [hg])
 exact this fs 0 (by decide) h
structure Mf.Fit (m : Mf) : Prop where
 st : m.st.length <= 4294967296
 fs : ∀ f ∈ m.fs, f.nm.length <= 4294967296 /\ f.md.length <= 4294967296
 n : m.fs.length <= 4294967296
section
variable {w w1 w2 : World}
theorem isSumR {a : Int} : Run (F.paper_isSum (.int .i64 a)) w λ r w' => r = .bool (decide (0 <= a /\ a <= 4294967295)) /\ w' = w:=by
 refine ⟨_, _, isSum_run, ?_, rfl⟩
 congr 1
 exact decide_eq_decide.2 (by omega)
theorem filesOk_bad {fs : List Fl} {i : Nat} {z : Option (List UInt8) × Fl} (h : (prs none fs)[i]? = some z) (hz : okP z = false) : filesOk fs = false:=by
 unfold filesOk
 rw [List.all_eq_false]
 exact ⟨z, List.mem_of_getElem? h, by rw [hz]; simp⟩
theorem filesOk_good {fs : List Fl} (h : ∀ j z, j < fs.length -> (prs none fs)[j]? = some z -> okP z = true) : filesOk fs = true:=by
 unfold filesOk
 rw [List.all_eq_true]
 intro z hz
 obtain ⟨j, hj⟩:=List.getElem?_of_mem hz
 exact h j z (by have:=(List.getElem?_eq_some_iff.1 hj).1; rwa [prs_len] at this) hj
theorem holds_run {m : Mf} {v : Value} (hv : Sl 4 w v (m.fs.map Fl.row)) (hm : m.Fit) : Run (F.paper_holds (.agg (mval m v).toArray)) w λ r w' => r = .int .i64 (holdsF m) /\ Fr (λ _ => False) w w':=by
 unfold F.paper_holds
 have nv : ∀ b, notV (.bool b) = some (.bool !b):=λ _ => rfl
 have bad : headOk m = false -> holdsF m = 42:=λ h => by
  unfold holdsF
  rw [h, Bool.false_and, if_neg (by simp)]
 have hvl:=hv.lenL
 rw [List.length_map] at hvl
 rw [Run_bind]
 refine Run_new λ x w1 hx hxw f1 hxle => ?_
 replace hx : bk w1 x = some (mval m v):=hx
 have lx:=bk_lt hx
 have c0 : ∀ {u : World}, bk u x = some (mval m v) -> ld1 (.pointer (some ⟨x, 0 + 0, none⟩)) u = some (.string (sb m.st)):=λ h => by rw [ld1_ptr, h]; rfl
 have c1 : ∀ {u : World}, bk u x = some (mval m v) -> ld1 (.pointer (some ⟨x, 0 + 1, none⟩)) u = some (.int .i64 m.ver):=λ h => by rw [ld1_ptr, h]; rfl
 have c2 : ∀ {u : World}, bk u x = some (mval m v) -> ld1 (.pointer (some ⟨x, 0 + 2, none⟩)) u = some (.int .i64 m.node):=λ h => by rw [ld1_ptr, h]; rfl
 have c3 : ∀ {u : World}, bk u x = some (mval m v) -> ld1 (.pointer (some ⟨x, 0 + 3, none⟩)) u = some v:=λ h => by rw [ld1_ptr, h]; rfl
 have c4 : ∀ {u : World}, bk u x = some (mval m v) -> ld1 (.pointer (some ⟨x, 0 + 4, none⟩)) u = some (.int .i64 m.tot):=λ h => by rw [ld1_ptr, h]; rfl
 have c5 : ∀ {u : World}, bk u x = some (mval m v) -> ld1 (.pointer (some ⟨x, 0 + 5, none⟩)) u = some (.int .i64 m.who):=λ h => by rw [ld1_ptr, h]; rfl
 simp only [fieldA_ptr, Run_bindO_some]
 rw [Run_bind, Run_rdM]
 refine ⟨_, c0 hx, ?_⟩
 rw [Run_bind]
 refine (storeOK_run m.st (by have:=hm.st; omega)).mono ?_
 rintro _ w2 ⟨rfl, f2⟩
 have hx2:=f2.bk_some hx id
 have f12:=f1.trans f2 λ _ _ => id
 rw [nv, Run_bindO_some]
 cases hs : storeP m.st with
 | false =>
  simp only [Bool.not_false, Run_bind, Run_guardM_tf, pickV_bool, cond_true, Run_bindO_some, Run_condM_true, Run_ret]
  exact ⟨by rw [bad (by unfold headOk; rw [hs]; rfl)], f12⟩
 | true =>
 simp only [Bool.not_true, Run_bind, Run_guardM_ff, Run_ret, Run_optM_some, Run_rdM]
 refine ⟨_, c1 hx2, ?_⟩
 by_cases v1 : m.ver < 1
 ·have hb : headOk m = false:=by unfold headOk; rw [decide_eq_false (p:=1 <= m.ver /\ m.ver <= 999999) (by omega)]; simp
  simp only [binV_int, intBin_lss, v1, decide_true, Run_optM_some, Run_bind, Run_guardM_tf, pickV_bool, cond_false, cond_true, Run_bindO_some, Run_condM_true, Run_ret]
  exact ⟨by rw [bad hb], f12⟩
 simp only [binV_int, intBin_lss, v1, decide_false, Run_optM_some, Run_bind, Run_guardM_ff, Run_ret, pickV_bool, cond_false, Run_bindO_some, Run_rdM]
 refine ⟨_, c1 hx2, ?_⟩
 by_cases v2 : m.ver > 999999
 ·have hb : headOk m = false:=by unfold headOk; rw [decide_eq_false (p:=1 <= m.ver /\ m.ver <= 999999) (by omega)]; simp
  simp only [binV_int, intBin_gtr, v2, decide_true, Run_optM_some, Run_bind, Run_guardM_tf, pickV_bool, cond_false, cond_true, Run_bindO_some, Run_condM_true, Run_ret]
  exact ⟨by rw [bad hb], f12⟩
 simp only [binV_int, intBin_gtr, v2, decide_false, Run_optM_some, Run_bind, Run_guardM_ff, Run_ret, pickV_bool, cond_false, Run_bindO_some, Run_rdM]
 refine ⟨_, c2 hx2, ?_⟩
 by_cases n1 : m.node < 0
 ·have hb : headOk m = false:=by unfold headOk; rw [decide_eq_false (p:=0 <= m.node /\ m.node <= 15) (by omega)]; simp
  simp only [binV_int, intBin_lss, n1, decide_true, Run_optM_some, Run_bind, Run_guardM_tf, pickV_bool, cond_false, cond_true, Run_bindO_some, Run_condM_true, Run_ret]
  exact ⟨by rw [bad hb], f12⟩
 simp only [binV_int, intBin_lss, n1, decide_false, Run_optM_some, Run_bind, Run_guardM_ff, Run_ret, pickV_bool, cond_false, Run_bindO_some, Run_rdM]
 refine ⟨_, c2 hx2, ?_⟩
 by_cases n2 : m.node >= 16
 ·have hb : headOk m = false:=by unfold headOk; rw [decide_eq_false (p:=0 <= m.node /\ m.node <= 15) (by omega)]; simp
  simp only [binV_int, intBin_geq, n2, decide_true, Run_optM_some, Run_bind, Run_guardM_tf, pickV_bool, cond_false, cond_true, Run_bindO_some, Run_condM_true, Run_ret]
  exact ⟨by rw [bad hb], f12⟩
 simp only [binV_int, intBin_geq, n2, decide_false, Run_optM_some, Run_bind, Run_guardM_ff, Run_ret, pickV_bool, cond_false, Run_bindO_some, Run_rdM]
 refine ⟨_, c3 hx2, ?_⟩
 by_cases l1 : m.fs.length <= 1025
 case neg =>
  have l2 : ((m.fs.length : Nat) : Int) > 1025:=by omega
  have hb : headOk m = false:=by unfold headOk; rw [decide_eq_false l1]; simp
  simp only [hvl, Run_optM_some, binV_int, intBin_gtr, l2, decide_true, Run_bind, pickV_bool, cond_false, Run_bindO_some, Run_condM_true, Run_ret]
  exact ⟨by rw [bad hb], f12⟩
 have l2 : ¬ ((m.fs.length : Nat) : Int) > 1025:=by omega
 simp only [hvl, Run_optM_some, binV_int, intBin_gtr, l2, decide_false, Run_bind, pickV_bool, cond_false, Run_bindO_some, Run_condM_false, Run_rdM]
 refine ⟨_, c4 hx2, ?_⟩
 by_cases t1 : m.tot < 0
 ·have hb : headOk m = false:=by unfold headOk; rw [decide_eq_false (p:=0 <= m.tot /\ m.tot <= 9007199254740992) (by omega)]; simp
  simp only [binV_int, intBin_lss, t1, decide_true, Run_optM_some, Run_bind, Run_guardM_tf, pickV_bool, cond_false, cond_true, Run_bindO_some, Run_condM_true, Run_ret]
  exact ⟨by rw [bad hb], f12⟩
 simp only [binV_int, intBin_lss, t1, decide_false, Run_optM_some, Run_bind, Run_guardM_ff, Run_ret, pickV_bool, cond_false, Run_bindO_some, Run_rdM]
 refine ⟨_, c4 hx2, ?_⟩
 by_cases t2 : m.tot > 9007199254740992
 ·have hb : headOk m = false:=by unfold headOk; rw [decide_eq_false (p:=0 <= m.tot /\ m.tot <= 9007199254740992) (by omega)]; simp
  simp only [binV_int, intBin_gtr, t2, decide_true, Run_optM_some, Run_bind, Run_guardM_tf, pickV_bool, cond_false, cond_true, Run_bindO_some, Run_condM_true, Run_ret]
  exact ⟨by rw [bad hb], f12⟩
 simp only [binV_int, intBin_gtr, t2, decide_false, Run_optM_some, Run_bind, Run_guardM_ff, Run_ret, pickV_bool, cond_false, Run_bindO_some, Run_rdM]
 refine ⟨_, c5 hx2, ?_⟩
 refine isSumR.mono ?_
 rintro _ w2 ⟨rfl, rfl⟩
 rw [nv, Run_optM_some]
 by_cases o1 : 0 <= m.who /\ m.who <= 4294967295
 case neg =>
  have hb : headOk m = false:=by unfold headOk; rw [decide_eq_false o1]; simp
  rw [decide_eq_false o1]
  simp only [Bool.not_false, pickV_bool, cond_false, Run_bindO_some, Run_condM_true, Run_ret]
  exact ⟨by rw [bad hb], f12⟩
 rw [decide_eq_true o1]
 have hh : headOk m = true:=by
  unfold headOk
  rw [hs, decide_eq_true (p:=1 <= m.ver /\ m.ver <= 999999) (by omega), decide_eq_true (p:=0 <= m.node /\ m.node <= 15) (by omega), decide_eq_true l1, decide_eq_true (p:=0 <= m.tot /\ m.tot <= 9007199254740992) (by omega), decide_eq_true o1]
  rfl
 have hF : holdsF m = if filesOk m.fs = true then (if (totF m.fs : Int) = m.tot /\ (whoF m.fs : Int) = m.who then 0 else 43) else 42:=by
  unfold holdsF
  rw [hh, Bool.true_and]
 simp only [Bool.not_true, pickV_bool, cond_false, Run_bindO_some, Run_condM_false, Run_bind, Run_rdM]
 refine ⟨_, c3 hx2, ?_⟩
 simp only [hvl, Run_bindO_some, Run_bind]
 have hv2:=hv.fr0 f12
 refine Run_loopM (λ L w' => (∃ i : Nat, L = [.int .i64 ((totF (m.fs.take i) : Nat) : Int), .int .i64 ((whoF (m.fs.take i) : Nat) : Int), .int .i64 (i : Int)] /\ i <= m.fs.length /\ ∀ j z, j < i -> (prs none m.fs)[j]? = some z -> okP z = true) /\ Fr (λ _ => False) w2 w') (λ L _ => m.fs.length - (match getL L 2 with | .int _ z => z.toNat | _ => 0)) ?_ ⟨⟨0, rfl, Nat.zero_le _, λ j z h => absurd h (Nat.not_lt_zero j)⟩, Fr.refl _ _⟩
 rintro L w3 ⟨⟨i, rfl, hi, hgood⟩, f3⟩
 have hx3:=f3.bk_some hx2 id
 have hgf : ∀ f ∈ m.fs.take i, f.ok = true:=λ f hf => by
  obtain ⟨j, hj⟩:=List.getElem?_of_mem hf
  have hji : j < i:=by have:=(List.getElem?_eq_some_iff.1 hj).1; rw [List.length_take] at this; omega
  rw [List.getElem?_take_of_lt hji] at hj
  have hz : ∃ p, (prs none m.fs)[j]? = some (p, f):=by
   cases j with
   | zero => exact ⟨_, prs_zero none hj⟩
   | succ j =>
    obtain ⟨g, hg⟩ : ∃ g, m.fs[j]? = some g:=⟨_, List.getElem?_eq_getElem (by omega)⟩
    exact ⟨_, prs_succ none hg hj⟩
  obtain ⟨p, hp⟩:=hz
  have:=hgood j _ hji hp
  unfold okP at this
  rw [Bool.and_eq_true] at this
  exact this.1
 have htl:=tot_le hgf
 have hwl:=who_lt hgf
 have hlt : (m.fs.take i).length <= i:=List.length_take_le i m.fs
 simp only [getL_succ, getL_zero, binV_int, intBin_lss]
 by_cases hil : i < m.fs.length
 case neg =>
  have hil' : ¬ (i : Int) < m.fs.length:=by omega
  have hin : i = m.fs.length:=by omega
  have hok : filesOk m.fs = true:=filesOk_good λ j z hj hz => hgood j z (by omega) hz
  rw [decide_eq_false hil', Run_bindO_some, Run_condM_false, Run_ret, hin, List.take_length]
  simp only [outK_exit, getL_succ, getL_zero]
  rw [hF, if_pos hok, show Nat.beq 0 0 = true from rfl, cond_true]
  simp only [Run_bindO_some, Run_bind, Run_rdM]
  refine ⟨_, c4 hx3, ?_⟩
  by_cases e1 : (totF m.fs : Int) = m.tot
  ·simp only [binV_int, intBin_neq, e1, decide_true, Bool.not_true, Run_bindO_some, Run_bind, Run_guardM_ff, Run_ret, Run_optM_some, Run_rdM]
   refine ⟨_, c5 hx3, ?_⟩
   by_cases e2 : (whoF m.fs : Int) = m.who
   ·simp only [binV_int, intBin_neq, e2, decide_true, Bool.not_true, Run_optM_some, pickV_bool, cond_false, Run_bindO_some, Run_condM_false, Run_ret]
    exact ⟨rfl, f12.trans f3 λ _ _ => id⟩
   ·simp only [binV_int, intBin_neq, e2, decide_false, Bool.not_false, Run_optM_some, pickV_bool, cond_false, Run_bindO_some, Run_condM_true, Run_ret]
    exact ⟨rfl, f12.trans f3 λ _ _ => id⟩
  ·simp only [binV_int, intBin_neq, e1, decide_false, Bool.not_false, Run_bindO_some, Run_bind, Run_guardM_tf, pickV_bool, cond_true, Run_condM_true, Run_ret]
   exact ⟨rfl, f12.trans f3 λ _ _ => id⟩
 have hil' : (i : Int) < m.fs.length:=by omega
 obtain ⟨f, hf⟩ : ∃ f, m.fs[i]? = some f:=⟨_, List.getElem?_eq_getElem hil⟩
 have hfm:=List.mem_of_getElem? hf
 obtain ⟨q, q1, q2⟩:=(hv2.fr0 f3).rdA (by decide) (i:=i) (e:=f.row) (by simp [hf]) .i64
 have q1' : idxA 4 v (.int .i64 (i : Int)) = some q:=q1
 obtain ⟨pv, hpz, hpv⟩ : ∃ pv, (prs none m.fs)[i]? = some (pv, f) /\ ((i = 0 /\ pv = none) ∨ ∃ g, 0 < i /\ m.fs[i - 1]? = some g /\ pv = some g.nm):=by
  cases i with
  | zero => exact ⟨_, prs_zero none hf, .inl ⟨rfl, rfl⟩⟩
  | succ j =>
   obtain ⟨g, hg⟩ : ∃ g, m.fs[j]? = some g:=⟨_, List.getElem?_eq_getElem (by omega)⟩
   exact ⟨_, prs_succ none hg hf, .inr ⟨g, by omega, by simpa using hg, rfl⟩⟩
 have hbadF : okP (pv, f) = false -> holdsF m = 42:=λ h => by
  rw [hF, filesOk_bad hpz h, if_neg (by simp)]
 have hfok : f.ok = false -> okP (pv, f) = false:=λ h => by unfold okP; rw [h, Bool.false_and]
 rw [decide_eq_true hil', Run_bindO_some, Run_condM_true, q1', Run_bindO_some]
 simp only [Run_bind, Run_rdM]
 refine ⟨_, q2, ?_⟩
 refine Run_new λ y w4 hy hyw f4 hyle => ?_
 rw [Run_stA (n:=4) ⟨⟨⟨_, hy, by simp⟩, hyw⟩, rfl, f.row_cell⟩]
 have hyb:=bk_sto_same (o:=0) hy f.row
 have ey : setL #[Value.string ByteArray.empty, Value.int IntKind.i64 0, Value.int IntKind.i64 0, Value.string ByteArray.empty].toList 0 f.row = f.row:=rfl
 rw [ey] at hyb
 rw [show f.row.toArray.toList = f.row from rfl]
 have f45 : Fr (λ _ => False) w3 (sto w4 y 0 f.row):=f4.sto (.inr hyle) _ _
 generalize sto w4 y 0 f.row = w5 at *
 have f25:=f3.trans f45 λ _ _ => id
 have d0 : ∀ {u : World}, Fr (λ _ => False) w5 u -> ld1 (.pointer (some ⟨y, 0 + 0, none⟩)) u = some (.string (sb f.nm)):=λ h => by rw [ld1_ptr, h.bk_some hyb id]; rfl
 have d1 : ∀ {u : World}, Fr (λ _ => False) w5 u -> ld1 (.pointer (some ⟨y, 0 + 1, none⟩)) u = some (.int .i64 f.sz):=λ h => by rw [ld1_ptr, h.bk_some hyb id]; rfl
 have d2 : ∀ {u : World}, Fr (λ _ => False) w5 u -> ld1 (.pointer (some ⟨y, 0 + 2, none⟩)) u = some (.int .i64 f.crc):=λ h => by rw [ld1_ptr, h.bk_some hyb id]; rfl
 have d3 : ∀ {u : World}, Fr (λ _ => False) w5 u -> ld1 (.pointer (some ⟨y, 0 + 3, none⟩)) u = some (.string (sb f.md)):=λ h => by rw [ld1_ptr, h.bk_some hyb id]; rfl
 simp only [fieldA_ptr, Run_bindO_some, Run_bind, Run_rdM]
 refine ⟨_, d0 (Fr.refl _ _), ?_⟩
 refine (fileOK_run f.nm (by have:=(hm.fs f hfm).1; omega)).mono ?_
 rintro _ w6 ⟨rfl, f6⟩
 have f26:=f25.trans f6 λ _ _ => id
 have fw6:=f12.trans f26 λ _ _ => id
 rw [nv, Run_bindO_some]
 cases hfp : fileP f.nm with
 | false =>
  have hb:=hbadF (hfok (by unfold Fl.ok; rw [hfp]; rfl))
  simp only [Bool.not_false, Run_bind, Run_guardM_tf, pickV_bool, cond_true, Run_bindO_some, Run_condM_true, Run_ret, outK_ret]
  exact ⟨by rw [hb], fw6⟩
 | true =>
 simp only [Bool.not_true, Run_bind, Run_guardM_ff, Run_ret, Run_optM_some, Run_rdM]
 refine ⟨_, d1 f6, ?_⟩
 by_cases s1 : f.sz < 0
 ·have hb:=hbadF (hfok (by unfold Fl.ok; rw [decide_eq_false (p:=0 <= f.sz /\ f.sz <= 1073741824) (by omega)]; simp))
  simp only [binV_int, intBin_lss, s1, decide_true, Run_optM_some, Run_bind, Run_guardM_tf, pickV_bool, cond_false, cond_true, Run_bindO_some, Run_condM_true, Run_ret, outK_ret]
  exact ⟨by rw [hb], fw6⟩
 simp only [binV_int, intBin_lss, s1, decide_false, Run_optM_some, Run_bind, Run_guardM_ff, Run_ret, pickV_bool, cond_false, Run_bindO_some, Run_rdM]
 refine ⟨_, d1 f6, ?_⟩
 by_cases s2 : f.sz > 1073741824
 ·have hb:=hbadF (hfok (by unfold Fl.ok; rw [decide_eq_false (p:=0 <= f.sz /\ f.sz <= 1073741824) (by omega)]; simp))
  simp only [binV_int, intBin_gtr, s2, decide_true, Run_optM_some, Run_bind, Run_guardM_tf, pickV_bool, cond_false, cond_true, Run_bindO_some, Run_condM_true, Run_ret, outK_ret]
  exact ⟨by rw [hb], fw6⟩
 simp only [binV_int, intBin_gtr, s2, decide_false, Run_optM_some, Run_bind, Run_guardM_ff, Run_ret, pickV_bool, cond_false, Run_bindO_some, Run_rdM]
 refine ⟨_, d2 f6, ?_⟩
 refine isSumR.mono ?_
 rintro _ w6 ⟨rfl, rfl⟩
 rw [nv, Run_optM_some]
 by_cases k1 : 0 <= f.crc /\ f.crc <= 4294967295
 case neg =>
  have hb:=hbadF (hfok (by unfold Fl.ok; rw [decide_eq_false k1]; simp))
  rw [decide_eq_false k1]
  simp only [Bool.not_false, Run_bind, Run_guardM_tf, pickV_bool, cond_false, cond_true, Run_bindO_some, Run_condM_true, Run_ret, outK_ret]
  exact ⟨by rw [hb], fw6⟩
 rw [decide_eq_true k1]
 simp only [Bool.not_true, pickV_bool, cond_false, Run_bindO_some, Run_bind, Run_guardM_ff, Run_ret, Run_optM_some, Run_rdM]
 refine ⟨_, d3 f6, ?_⟩
 by_cases m1 : f.md.length = 16
 case neg =>
  have m1' : ¬ ((f.md.length : Nat) : Int) = 16:=by omega
  have hb:=hbadF (hfok (by unfold Fl.ok; rw [decide_eq_false m1]; simp))
  simp only [lenS_string, sb_size, Run_optM_some, binV_int, intBin_neq, m1', decide_false, Bool.not_false, pickV_bool, cond_false, Run_bindO_some, Run_condM_true, Run_ret, outK_ret]
  exact ⟨by rw [hb], fw6⟩
 have m1' : ((f.md.length : Nat) : Int) = 16:=by omega
 have hfo : f.ok = true:=Fl.ok_iff.2 ⟨hfp, by omega, k1, m1⟩
 simp only [lenS_string, sb_size, Run_optM_some, binV_int, intBin_neq, m1', decide_true, Bool.not_true, pickV_bool, cond_false, Run_bindO_some, Run_condM_false, Run_drewM]
 have f6d : Fr (λ _ => False) w5 w6.drew:=f6.drew
 have f26d : Fr (λ _ => False) w2 w6.drew:=f26.drew
 have fw6d:=f12.trans f26d λ _ _ => id
 have hx7:=f26d.bk_some hx2 id
 have hv7:=hv2.fr0 f26d
 generalize w6.drew = w7 at *
 have cont : okP (pv, f) = true -> ∀ {K : Out -> World -> Prop}, (∀ w', Fr (λ _ => False) w2 w' -> K (.norm [.int .i64 ((totF (m.fs.take (i + 1)) : Nat) : Int), .int .i64 ((whoF (m.fs.take (i + 1)) : Nat) : Int), .int .i64 ((i + 1 : Nat) : Int)]) w') -> Run (M.bind (rdM (ld1 (.pointer (some ⟨y, 0 + 1, none⟩)))) λ x83 =>
       bindO (binV BinOp.add (.int .i64 ((totF (m.fs.take i) : Nat) : Int)) x83) λ x84 =>
       M.bind (rdM (ld1 (.pointer (some ⟨y, 0 + 2, none⟩)))) λ x86 =>
       M.bind (rdM (ld1 (.pointer (some ⟨y, 0 + 1, none⟩)))) λ x88 =>
       M.bind (F.digest_CRCJoin (.int .i64 ((whoF (m.fs.take i) : Nat) : Int)) x86 x88) λ x89 =>
       bindO (extV 0 x89) λ x90 =>
       bindO (extV 1 x89) λ _ =>
       bindO (binV BinOp.add (.int .i64 (i : Int)) (Value.int IntKind.i64 1)) λ x92 =>
       M.ret (Out.norm [x84, x90, x92])) w7 K:=λ hok {K} hK => by
  obtain ⟨z, hz⟩ : ∃ z : Nat, f.sz = z:=⟨f.sz.toNat, by omega⟩
  obtain ⟨c, hc⟩ : ∃ c : Nat, f.crc = c:=⟨f.crc.toNat, by omega⟩
  have e1:=totF_snoc hf
  have e2:=whoF_snoc hf
  rw [hz, Int.toNat_natCast] at e1 e2
  rw [hc, Int.toNat_natCast] at e2
  have wa : IntKind.i64.wrap (((totF (m.fs.take i) : Nat) : Int) + (z : Int)) = ((totF (m.fs.take (i + 1)) : Nat) : Int):=by
   rw [show ((totF (m.fs.take i) : Nat) : Int) + (z : Int) = ((totF (m.fs.take i) + z : Nat) : Int) by omega, <- e1]
   exact i64W (by omega)
  rw [Run_bind, Run_rdM]
  refine ⟨_, d1 f6d, ?_⟩
  rw [hz, binV_int, intBin_add, wa, Run_bindO_some, Run_bind, Run_rdM]
  refine ⟨_, d2 f6d, ?_⟩
  rw [Run_bind, Run_rdM]
  refine ⟨_, d1 f6d, ?_⟩
  rw [hz, hc, Run_bind]
  refine (crcjoin_run hwl (by omega) (by omega)).mono ?_
  rintro _ w8 ⟨rfl, rfl⟩
  rw [<- e2]
  rw [show extV 0 (.tuple #[.int .i64 ((whoF (m.fs.take (i + 1)) : Nat) : Int), .int .i64 0]) = some (.int .i64 ((whoF (m.fs.take (i + 1)) : Nat) : Int)) from rfl, show extV 1 (.tuple #[.int .i64 ((whoF (m.fs.take (i + 1)) : Nat) : Int), .int .i64 0]) = some (.int .i64 0) from rfl, Run_bindO_some, Run_bindO_some, binV_int, intBin_add, wrap_succ' (by omega), Run_bindO_some, Run_ret]
  exact hK _ f26d
 have fin : okP (pv, f) = true -> ∀ w', Fr (λ _ => False) w2 w' -> (∃ i' : Nat, [Value.int .i64 ((totF (m.fs.take (i + 1)) : Nat) : Int), .int .i64 ((whoF (m.fs.take (i + 1)) : Nat) : Int), .int .i64 ((i + 1 : Nat) : Int)] = [.int .i64 ((totF (m.fs.take i') : Nat) : Int), .int .i64 ((whoF (m.fs.take i') : Nat) : Int), .int .i64 (i' : Int)] /\ i' <= m.fs.length /\ ∀ j z, j < i' -> (prs none m.fs)[j]? = some z -> okP z = true) /\ Fr (λ _ => False) w2 w':=λ hok w' f' => by
  refine ⟨⟨i + 1, rfl, by omega, λ j z hj hz => ?_⟩, f'⟩
  rcases Nat.lt_or_ge j i with h | h
  ·exact hgood j z h hz
  ·have : j = i:=by omega
   subst this
   rw [hpz] at hz
   cases hz
   exact hok
 have meas : m.fs.length - (((i + 1 : Nat) : Int)).toNat < m.fs.length - ((i : Nat) : Int).toNat:=by omega
 rcases hpv with ⟨i0, rfl⟩ | ⟨g, hg0, hg, rfl⟩
 ·have hg : ¬ (i : Int) > 0:=by omega
  have hok : okP (none, f) = true:=by unfold okP; rw [hfo]; rfl
  simp only [binV_int, intBin_gtr, hg, decide_false, Run_bindO_some, Run_bind, Run_guardM_ft, pickV_bool, cond_false, Run_condM_false]
  exact Run_bind.1 (cont hok λ w' f' => ⟨fin hok w' f', meas⟩)
 ·have hg' : (i : Int) > 0:=by omega
  have wi : IntKind.i64.wrap ((i : Int) - 1) = ((i - 1 : Nat) : Int):=by rw [show (i : Int) - 1 = ((i - 1 : Nat) : Int) by omega]; exact i64W (by omega)
  obtain ⟨q', q3, q4⟩:=hv7.rdF (i:=i - 1) (e:=g.row) (by rw [List.getElem?_map, hg]; rfl) .i64
  obtain ⟨q5, q6, q7⟩:=q4 0 (by decide)
  have q3' : idxA 4 v (.int .i64 ((i - 1 : Nat) : Int)) = some q':=q3
  have q7' : ld1 q5 w7 = some (.string (sb g.nm)):=q7
  simp only [binV_int, intBin_gtr, hg', decide_true, Run_bindO_some, Run_bind, Run_guardM_tt, Run_ret, Run_optM_some, fieldA_ptr, Run_rdM]
  refine ⟨_, c3 hx7, ?_⟩
  simp only [binV_int, intBin_sub, wi, Run_optM_some, q3', q6, Run_rdM]
  refine ⟨_, q7', _, d0 f6d, ?_⟩
  rw [sbGeq, Run_optM_some]
  simp only [pickV_bool, cond_true, Run_bindO_some]
  cases hless : Op.bytesLess g.nm f.nm with
  | false =>
   have hb:=hbadF (show okP (some g.nm, f) = false by unfold okP; rw [hfo]; exact hless)
   simp only [Bool.not_false, Run_condM_true, Run_ret, outK_ret]
   exact ⟨by rw [hb], fw6d⟩
  | true =>
   have hok : okP (some g.nm, f) = true:=by unfold okP; rw [hfo]; exact hless
   simp only [Bool.not_true, Run_condM_false]
   exact cont hok λ w' f' => ⟨fin hok w' f', meas⟩
end
def MANI : List UInt8:=[103, 114, 97, 110, 97, 114, 121, 32, 109, 97, 110, 105, 102, 101, 115, 116, 32, 49]
def FILES : List UInt8:=[102, 105, 108, 101, 115]
def FILE : List UInt8:=[102, 105, 108, 101]
def TOTAL : List UInt8:=[116, 111, 116, 97, 108]
def WHOLE : List UInt8:=[119, 104, 111, 108, 101]
def rowL (f : Fl) : List UInt8:=FILE ++ [32] ++ f.nm ++ [32] ++ Lib.decDigits f.sz.toNat ++ [32] ++ eightL f.crc.toNat ++ [32] ++ hexL f.md
def rowsL (fs : List Fl) : List UInt8:=(fs.map λ f => rowL f ++ [10]).flatten
def manH (m : Mf) : List UInt8:=(MANI ++ [10]) ++ (STORE ++ [32] ++ m.st ++ [10]) ++ (VERSION ++ [32] ++ Lib.decDigits m.ver.toNat ++ [10]) ++ (NODE ++ [32] ++ Lib.decDigits m.node.toNat ++ [10]) ++ (FILES ++ [32] ++ Lib.decDigits m.fs.length ++ [10])
def manT (m : Mf) : List UInt8:=(TOTAL ++ [32] ++ Lib.decDigits m.tot.toNat ++ [10]) ++ (WHOLE ++ [32] ++ eightL m.who.toNat ++ [10])
def manL (m : Mf) : List UInt8:=manH m ++ rowsL m.fs ++ manT m
def manO (m : Mf) : Value:=if holdsF m = 0 then .tuple #[.string (sb (closeL (manL m))), .int .i64 0] else .tuple #[.string (sb []), .int .i64 (holdsF m)]
theorem holdsF_ok {m : Mf} (h : holdsF m = 0) : headOk m = true /\ filesOk m.fs = true /\ (totF m.fs : Int) = m.tot /\ (whoF m.fs : Int) = m.who:=by
 unfold holdsF at h
 split at h
 ·rename_i hc
  rw [Bool.and_eq_true] at hc
  split at h
  ·rename_i h2; exact ⟨hc.1, hc.2, h2.1, h2.2⟩
  ·cases h
 ·cases h
structure HeadOk (m : Mf) : Prop where
 st : storeP m.st = true
 ver : 1 <= m.ver /\ m.ver <= 999999
 node : 0 <= m.node /\ m.node <= 15
 n : m.fs.length <= 1025
 tot : 0 <= m.tot /\ m.tot <= 9007199254740992
 who : 0 <= m.who /\ m.who <= 4294967295
theorem headOk_all {m : Mf} (h : headOk m = true) : HeadOk m:=by
 unfold headOk at h
 simp only [Bool.and_eq_true, decide_eq_true_eq] at h
 exact ⟨h.1.1.1.1, h.1.1.1.2, h.1.1.2, h.1.2, h.2.1, h.2.2⟩
theorem row_len {f : Fl} (h : f.ok = true) : (rowL f).length <= 120:=by
 obtain ⟨h1, h2, h3, h4⟩:=Fl.ok_iff.1 h
 have a:=(fileP_mem h1).2.1
 have b:=dec_len (n:=f.sz.toNat) (by omega)
 have c : (eightL f.crc.toNat).length = 8:=lowD_len _ _
 have d:=hexL_len f.md
 have e : FILE.length = 4:=rfl
 simp only [rowL, List.length_append, List.length_singleton, c, d, e]
 omega
theorem rows_len : ∀ {fs : List Fl}, (∀ f ∈ fs, f.ok = true) -> (rowsL fs).length <= fs.length * 121
 | [], _ => by simp [rowsL]
 | f :: r, h => by
  have h1:=row_len (h f (by simp))
  have h2:=rows_len (fs:=r) λ g hg => h g (by simp [hg])
  simp only [rowsL, List.map_cons, List.flatten_cons, List.length_append, List.length_cons, List.length_nil] at h2 ⊢
  omega
theorem rowsL_snoc {fs : List Fl} {i : Nat} {f : Fl} (h : fs[i]? = some f) : rowsL (fs.take (i + 1)) = rowsL (fs.take i) ++ (rowL f ++ [10]):=by
 unfold rowsL
 rw [take_snocP h]
 simp
theorem manH_len {m : Mf} (h : HeadOk m) : (manH m).length <= 1000:=by
 have a:=(storeP_len h.st).2.1
 have b:=dec_len (n:=m.ver.toNat) (by have:=h.ver; omega)
 have c:=dec_len (n:=m.node.toNat) (by have:=h.node; omega)
 have d:=dec_len (n:=m.fs.length) (by have:=h.n; omega)
 simp [manH, MANI, STORE, VERSION, NODE, FILES]
 omega
theorem manT_len {m : Mf} (h : HeadOk m) : (manT m).length <= 1000:=by
 have b:=dec_len (n:=m.tot.toNat) (by have:=h.tot; omega)
 have c : (eightL m.who.toNat).length = 8:=lowD_len _ _
 simp [manT, TOTAL, WHOLE, c]
 omega
theorem man_len {m : Mf} (h : holdsF m = 0) : (manL m).length <= 200000:=by
 obtain ⟨h1, h2, _⟩:=holdsF_ok h
 have hh:=headOk_all h1
 have a:=manH_len hh
 have b:=manT_len hh
 have c:=rows_len (filesOk_at h2)
 have d:=hh.n
 simp only [manL, List.length_append]
 omega
section
variable {w w1 w2 : World}
theorem itoaI (ht : Tb w) {z : Int} (h0 : 0 <= z) (h1 : z < 9223372036854775808) : Run (F.strconv_Itoa (.int .i64 z)) w λ r w' => r = .string (sb (Lib.decDigits z.toNat)) /\ Fr (λ _ => False) w w':=itoa_int ht h0 h1
theorem hex8I (ht : Tb w) {z : Int} (h0 : 0 <= z) (h1 : z <= 4294967295) : Run (F.paper_hex8 (.int .i64 z)) w λ r w' => r = .string (sb (eightL z.toNat)) /\ Fr (λ _ => False) w w':=by
 obtain ⟨n, rfl⟩ : ∃ n : Nat, z = n:=⟨z.toNat, by omega⟩
 exact hex8_run ht.bits (by omega)
theorem line2 {β : Type} {A : Nat -> Prop} {b : Nat} {l : List UInt8} (h : BG A w b l) {a c : List UInt8} (ha : a ≠ []) (hal : a.length <= 100000) (hcl : c.length <= 100000) (hl : l.length <= 536870912) {K : M β} {Q : β -> World -> Prop}
  (q : ∀ w', BG A w' b (l ++ (a ++ [32] ++ c ++ [10])) -> Fr (λ c => ¬ A c) w w' -> Run K w' Q) :
  Run (M.bind (bslM 9 2 (Builtin.zeroCells #[(Value.string ByteArray.empty)] 2) [(0, 1, .string (sb a)), (1, 1, .string (sb c))]) λ r => M.bind (F.paper_line (PtrB b) r) λ _ => K) w Q:=by
 rw [Run_bind]
 refine Run_bsl (k:=1) (vs:=[.string (sb a), .string (sb c)]) (by rfl) (by intro v hv; simp only [List.mem_cons, List.not_mem_nil, or_false] at hv; rcases hv with rfl | rfl <;> rfl) rfl (by kernel_rfl) λ r w2 hr f2 _ => ?_
 rw [Run_bind]
 refine (line_run (h.frm f2) (xs:=[a, c]) hr.1 (by rw [join_two]; simp [ha]) (by simp) (by rw [join_two]; simp only [List.length_append, List.length_singleton]; omega) (by simp only [List.map_cons, List.map_nil, List.sum_cons, List.sum_nil, sb_size]; omega) hl).mono ?_
 rintro _ w3 ⟨h3, f3⟩
 rw [join_two] at h3
 exact q w3 h3 ((f2.mono λ _ h => h.elim).trans f3 λ _ _ h => h)
theorem join_five (a b c d e : List UInt8) : joinL ([a, b, c, d, e].map sb) (sb [32]) = a ++ [32] ++ b ++ [32] ++ c ++ [32] ++ d ++ [32] ++ e:=by simp [joinL, sb]
theorem manprint_run (ht : Tb w) {m : Mf} {v : Value} (hv : Sl 4 w v (m.fs.map Fl.row)) (hm : m.Fit) : Run (F.paper_PrintManifest (.agg (mval m v).toArray)) w λ r w' => r = manO m /\ Fr (λ _ => False) w w':=by
 unfold F.paper_PrintManifest
 have hvl:=hv.lenL
 rw [List.length_map] at hvl
 rw [Run_bind]
 refine Run_new λ x w1 hx hxw f1 hxle => ?_
 have hxa : ldA 6 (.pointer (some ⟨x, 0, none⟩)) w1 = some (.agg (mval m v).toArray):=ldA_bk hx (Nat.le_refl _)
 replace hx : bk w1 x = some (mval m v):=hx
 rw [Run_bind, Run_rdM]
 refine ⟨_, hxa, ?_⟩
 rw [Run_bind]
 refine (holds_run (hv.fr0 f1) hm).mono ?_
 rintro _ w3 ⟨rfl, f3⟩
 have f13:=f1.trans f3 λ _ _ => id
 have e0 : ByteArray.mk #[] = sb []:=rfl
 by_cases hok : holdsF m = 0
 case neg =>
  have hn : (!decide (holdsF m = 0)) = true:=by rw [decide_eq_false hok]; rfl
  rw [binV_int, intBin_neq, hn, Run_bindO_some, Run_condM_true, Run_ret, manO, if_neg hok, e0]
  exact ⟨rfl, f13⟩
 have hn : (!decide (holdsF m = 0)) = false:=by rw [decide_eq_true hok]; rfl
 rw [binV_int, intBin_neq, hn, Run_bindO_some, Run_condM_false, manO, if_pos hok]
 obtain ⟨ho1, ho2, _, _⟩:=holdsF_ok hok
 have hh:=headOk_all ho1
 have hrows:=filesOk_at ho2
 have sl2:=(storeP_len hh.st).2.1
 have hlen:=man_len hok
 have hHl:=manH_len hh
 have hx3:=f3.bk_some hx id
 have lx:=bk_lt hx3
 have low:=tb_low (ht.fr0 f13)
 have t3:=ht.fr0 f13
 have v3:=hv.fr0 f13
 have eL : ByteArray.mk #[103, 114, 97, 110, 97, 114, 121, 32, 109, 97, 110, 105, 102, 101, 115, 116, 32, 49] = sb MANI:=rfl
 have eS : ByteArray.mk #[115, 116, 111, 114, 101] = sb STORE:=rfl
 have eV : ByteArray.mk #[118, 101, 114, 115, 105, 111, 110] = sb VERSION:=rfl
 have eN : ByteArray.mk #[110, 111, 100, 101] = sb NODE:=rfl
 have eF : ByteArray.mk #[102, 105, 108, 101, 115] = sb FILES:=rfl
 have eR : ByteArray.mk #[102, 105, 108, 101] = sb FILE:=rfl
 have eT : ByteArray.mk #[116, 111, 116, 97, 108] = sb TOTAL:=rfl
 have eW : ByteArray.mk #[119, 104, 111, 108, 101] = sb WHOLE:=rfl
 rw [eL, eS, eV, eN, eF, eR, eT, eW]
 have z0 : buildV #[(Value.pointer none), (Value.slice none 0 0)] [] = some (.agg #[(Value.pointer none), (Value.slice none 0 0)]):=rfl
 have c0 : ∀ {u : World}, bk u x = some (mval m v) -> ld1 (.pointer (some ⟨x, 0 + 0, none⟩)) u = some (.string (sb m.st)):=λ h => by rw [ld1_ptr, h]; rfl
 have c1 : ∀ {u : World}, bk u x = some (mval m v) -> ld1 (.pointer (some ⟨x, 0 + 1, none⟩)) u = some (.int .i64 m.ver):=λ h => by rw [ld1_ptr, h]; rfl
 have c2 : ∀ {u : World}, bk u x = some (mval m v) -> ld1 (.pointer (some ⟨x, 0 + 2, none⟩)) u = some (.int .i64 m.node):=λ h => by rw [ld1_ptr, h]; rfl
 have c3 : ∀ {u : World}, bk u x = some (mval m v) -> ld1 (.pointer (some ⟨x, 0 + 3, none⟩)) u = some v:=λ h => by rw [ld1_ptr, h]; rfl
 have c4 : ∀ {u : World}, bk u x = some (mval m v) -> ld1 (.pointer (some ⟨x, 0 + 4, none⟩)) u = some (.int .i64 m.tot):=λ h => by rw [ld1_ptr, h]; rfl
 have c5 : ∀ {u : World}, bk u x = some (mval m v) -> ld1 (.pointer (some ⟨x, 0 + 5, none⟩)) u = some (.int .i64 m.who):=λ h => by rw [ld1_ptr, h]; rfl
 rw [z0, Run_bindO_some, Run_bind]
 refine bgNew λ b w4 hB f4 => ?_
 have keepX : ∀ {u : World}, Fr (λ c => ¬ c < w3.heap.size) w3 u -> bk u x = some (mval m v):=λ f => f.bk_some hx3 λ hn => hn lx
 have keepT : ∀ {u : World}, Fr (λ c => ¬ c < w3.heap.size) w3 u -> Tb u:=λ f => t3.fr f λ c hc hn => hn (by omega)
 have keepV : 0 < m.fs.length -> ∀ {u : World}, Fr (λ c => ¬ c < w3.heap.size) w3 u -> Sl 4 u v (m.fs.map Fl.row):=λ h0 {u} f => v3.fr f λ c hc hn => hn (v3.lt (by rw [List.length_map]; exact h0) hc)
 rw [Run_bind]
 refine Run_bsl (k:=1) (vs:=[.string (sb MANI)]) (by rfl) (by intro v hv; simp only [List.mem_singleton] at hv; subst hv; rfl) rfl (by kernel_rfl) λ r w5 hr f5 _ => ?_
 rw [Run_bind]
 refine (line_run (hB.frm f5) (xs:=[MANI]) hr.1 (by rw [join_one]; decide) (by decide) (by rw [join_one]; decide) (by simp [sb_size]; decide) (by decide)).mono ?_
 rintro _ w6 ⟨hB6, f6⟩
 rw [join_one, List.nil_append] at hB6
 have f36 : Fr (λ c => ¬ c < w3.heap.size) w3 w6:=((f4.trans f5 λ _ _ => id).mono λ _ h => h.elim).trans f6 λ _ _ hc => hc
 simp only [fieldA_ptr]
 rw [Run_bindO_some, Run_bind, Run_rdM]
 refine ⟨_, c0 (keepX f36), ?_⟩
 refine line2 hB6 (by decide) (by decide) (by omega) (by decide) λ w7 hB7 f7 => ?_
 have f37:=f36.trans f7 λ _ _ h => h
 have k7 : ((MANI ++ [10]) ++ (STORE ++ [32] ++ m.st ++ [10])).length <= (manH m).length:=by simp only [manH, List.length_append]; omega
 rw [Run_bindO_some, Run_bind, Run_rdM]
 refine ⟨_, c1 (keepX f37), ?_⟩
 rw [Run_bind]
 refine (itoaI (keepT f37) (by have:=hh.ver; omega) (by have:=hh.ver; omega)).mono ?_
 rintro _ w8 ⟨rfl, f8⟩
 have f38:=f37.trans f8 λ _ _ h => h.elim
 have dv:=dec_len (n:=m.ver.toNat) (by have:=hh.ver; omega)
 refine line2 (hB7.frm f8) (by decide) (by decide) (by omega) (by omega) λ w9 hB9 f9 => ?_
 have f39:=f38.trans f9 λ _ _ h => h
 have k9 : ((MANI ++ [10]) ++ (STORE ++ [32] ++ m.st ++ [10]) ++ (VERSION ++ [32] ++ Lib.decDigits m.ver.toNat ++ [10])).length <= (manH m).length:=by simp only [manH, List.length_append]; omega
 rw [Run_bindO_some, Run_bind, Run_rdM]
 refine ⟨_, c2 (keepX f39), ?_⟩
 rw [Run_bind]
 refine (itoaI (keepT f39) (by have:=hh.node; omega) (by have:=hh.node; omega)).mono ?_
 rintro _ wa ⟨rfl, fa⟩
 have f3a:=f39.trans fa λ _ _ h => h.elim
 have dn:=dec_len (n:=m.node.toNat) (by have:=hh.node; omega)
 refine line2 (hB9.frm fa) (by decide) (by decide) (by omega) (by omega) λ wb hBb fb => ?_
 have f3b:=f3a.trans fb λ _ _ h => h
 have kb : ((MANI ++ [10]) ++ (STORE ++ [32] ++ m.st ++ [10]) ++ (VERSION ++ [32] ++ Lib.decDigits m.ver.toNat ++ [10]) ++ (NODE ++ [32] ++ Lib.decDigits m.node.toNat ++ [10])).length <= (manH m).length:=by simp only [manH, List.length_append]; omega
 rw [Run_bindO_some, Run_bind, Run_rdM]
 refine ⟨_, c3 (keepX f3b), ?_⟩
 rw [hvl, Run_bindO_some, Run_bind]
 refine (itoaI (keepT f3b) (by omega) (by have:=hh.n; omega)).mono ?_
 rintro _ wc ⟨rfl, fc⟩
 rw [Int.toNat_natCast]
 have f3c:=f3b.trans fc λ _ _ h => h.elim
 have df:=dec_len (n:=m.fs.length) (by have:=hh.n; omega)
 refine line2 (hBb.frm fc) (by decide) (by decide) (by omega) (by omega) λ wd hBd fd => ?_
 have f3d:=f3c.trans fd λ _ _ h => h
 have eH : (MANI ++ [10]) ++ (STORE ++ [32] ++ m.st ++ [10]) ++ (VERSION ++ [32] ++ Lib.decDigits m.ver.toNat ++ [10]) ++ (NODE ++ [32] ++ Lib.decDigits m.node.toNat ++ [10]) ++ (FILES ++ [32] ++ Lib.decDigits m.fs.length ++ [10]) = manH m:=rfl
 rw [eH] at hBd
 rw [Run_bindO_some, Run_bind, Run_rdM]
 refine ⟨_, c3 (keepX f3d), ?_⟩
 rw [hvl, Run_bindO_some, Run_bind]
 have rl : ∀ i, (rowsL (m.fs.take i)).length <= 1025 * 121:=λ i => by
  have h1:=rows_len (fs:=m.fs.take i) λ f hf => hrows f (List.mem_of_mem_take hf)
  have h2 : (m.fs.take i).length <= m.fs.length:=List.length_take_le' i m.fs
  have h3:=hh.n
  have h4 : (m.fs.take i).length * 121 <= 1025 * 121:=Nat.mul_le_mul_right _ (by omega)
  omega
 refine Run_for m.fs.length (λ i L w' => L = [.int .i64 (i : Int)] /\ BG (λ c => c < w3.heap.size) w' b (manH m ++ rowsL (m.fs.take i)) /\ Fr (λ c => ¬ c < w3.heap.size) w3 w') ⟨rfl, by simpa [rowsL] using hBd, f3d⟩ ?_ ?_
 ·rintro i L we hi ⟨rfl, hBe, f3e⟩
  obtain ⟨f, hf⟩ : ∃ f, m.fs[i]? = some f:=⟨_, List.getElem?_eq_getElem hi⟩
  have hfm:=List.mem_of_getElem? hf
  have hfo:=hrows f hfm
  obtain ⟨o1, o2, o3, o4⟩:=Fl.ok_iff.1 hfo
  have onl:=(fileP_mem o1).2.1
  have hil : (i : Int) < m.fs.length:=by omega
  have ve:=keepV (by omega) f3e
  obtain ⟨q, q1, q2⟩:=ve.rdA (by decide) (i:=i) (e:=f.row) (by simp [hf]) .i64
  have q1' : idxA 4 v (.int .i64 (i : Int)) = some q:=q1
  rw [getL_zero, lssT hil, Run_bindO_some, Run_condM_true, q1', Run_bindO_some, Run_bind, Run_rdM]
  refine ⟨_, q2, ?_⟩
  rw [Run_bind]
  refine Run_new λ y wf hy hyw ff hyle => ?_
  rw [Run_bind, Run_stA (n:=4) ⟨⟨⟨_, hy, by simp⟩, hyw⟩, rfl, f.row_cell⟩]
  have hyb:=bk_sto_same (o:=0) hy f.row
  have ey : setL #[Value.string ByteArray.empty, Value.int IntKind.i64 0, Value.int IntKind.i64 0, Value.string ByteArray.empty].toList 0 f.row = f.row:=rfl
  rw [ey] at hyb
  rw [show f.row.toArray.toList = f.row from rfl, Run_drewM]
  have feg : Fr (λ _ => False) we (sto wf y 0 f.row).drew:=(ff.sto (.inr hyle) _ _).drew
  have hyd : bk (sto wf y 0 f.row).drew y = some f.row:=hyb
  generalize (sto wf y 0 f.row).drew = wg at *
  have d0 : ∀ {u : World}, Fr (λ _ => False) wg u -> ld1 (.pointer (some ⟨y, 0 + 0, none⟩)) u = some (.string (sb f.nm)):=λ h => by rw [ld1_ptr, h.bk_some hyd id]; rfl
  have d1 : ∀ {u : World}, Fr (λ _ => False) wg u -> ld1 (.pointer (some ⟨y, 0 + 1, none⟩)) u = some (.int .i64 f.sz):=λ h => by rw [ld1_ptr, h.bk_some hyd id]; rfl
  have d2 : ∀ {u : World}, Fr (λ _ => False) wg u -> ld1 (.pointer (some ⟨y, 0 + 2, none⟩)) u = some (.int .i64 f.crc):=λ h => by rw [ld1_ptr, h.bk_some hyd id]; rfl
  have d3 : ∀ {u : World}, Fr (λ _ => False) wg u -> ld1 (.pointer (some ⟨y, 0 + 3, none⟩)) u = some (.string (sb f.md)):=λ h => by rw [ld1_ptr, h.bk_some hyd id]; rfl
  have f3g:=f3e.trans feg λ _ _ h => h.elim
  simp only [fieldA_ptr]
  rw [Run_getM, Run_bindO_some, Run_bind, Run_rdM]
  refine ⟨_, d0 (Fr.refl _ _), ?_⟩
  rw [Run_bindO_some, Run_bind, Run_rdM]
  refine ⟨_, d1 (Fr.refl _ _), ?_⟩
  rw [Run_bind]
  refine (itoaI (keepT f3g) (by omega) (by omega)).mono ?_
  rintro _ wh ⟨rfl, fh⟩
  rw [Run_getM, Run_bindO_some, Run_bind, Run_rdM]
  refine ⟨_, d2 fh, ?_⟩
  have f3h:=f3g.trans fh λ _ _ h => h.elim
  rw [Run_bind]
  refine (hex8I (keepT f3h) o3.1 o3.2).mono ?_
  rintro _ wi ⟨rfl, fi⟩
  have fgi:=fh.trans fi λ _ _ => id
  rw [Run_getM, Run_bindO_some, Run_bind, Run_rdM]
  refine ⟨_, d3 fgi, ?_⟩
  rw [Run_bind]
  refine (hex_run (s:=f.md) (by omega)).mono ?_
  rintro _ wj ⟨rfl, fj⟩
  have fgj:=fgi.trans fj λ _ _ => id
  rw [Run_getM, Run_bind]
  refine Run_bsl (k:=1) (vs:=[.string (sb FILE), .string (sb f.nm), .string (sb (Lib.decDigits f.sz.toNat)), .string (sb (eightL f.crc.toNat)), .string (sb (hexL f.md))]) (by rfl) (by intro v hv; simp only [List.mem_cons, List.not_mem_nil, or_false] at hv; rcases hv with rfl | rfl | rfl | rfl | rfl <;> rfl) rfl (by kernel_rfl) λ r wk hr fk _ => ?_
  have fek:=(feg.trans fgj λ _ _ => id).trans fk λ _ _ => id
  have e8 : (eightL f.crc.toNat).length = 8:=lowD_len _ _
  have ds:=dec_len (n:=f.sz.toNat) (by omega)
  have hhx:=hexL_len f.md
  have hFl : FILE.length = 4:=rfl
  have hrl:=row_len hfo
  have hj : joinL ([FILE, f.nm, Lib.decDigits f.sz.toNat, eightL f.crc.toNat, hexL f.md].map sb) (sb [32]) = rowL f:=join_five _ _ _ _ _
  rw [Run_getM, Run_bind]
  have hrli:=rl i
  refine (line_run (hBe.frm fek) (xs:=[FILE, f.nm, Lib.decDigits f.sz.toNat, eightL f.crc.toNat, hexL f.md]) hr.1 (by rw [hj]; simp [rowL, FILE]) (by simp) (by rw [hj]; omega) (by simp only [List.map_cons, List.map_nil, List.sum_cons, List.sum_nil, sb_size]; omega) (by rw [List.length_append]; omega)).mono ?_
  rintro _ wl ⟨hBl, fl⟩
  rw [hj] at hBl
  rw [Run_getM, Run_reqM, Run_reqM, Run_reqM, Run_reqM, Run_reqM, Run_reqM]
  refine ⟨d0 fh, d0 fgi, d0 fgj, d2 (Fr.refl _ _), d3 (Fr.refl _ _), d3 fh, ?_⟩
  rw [binV_int, intBin_add, wrap_succ' (by have:=hh.n; omega), Run_bindO_some, Run_ret, rowsL_snoc hf]
  refine ⟨rfl, ?_, (f3e.trans fek λ _ _ h => h.elim).trans fl λ _ _ h => h⟩
  rw [List.append_assoc] at hBl
  exact hBl
 ·rintro L we ⟨rfl, hBe, f3e⟩
  rw [List.take_length] at hBe
  have hil : ¬ ((m.fs.length : Nat) : Int) < m.fs.length:=by omega
  have hrl:=rl m.fs.length
  rw [List.take_length] at hrl
  rw [getL_zero, lssF hil, Run_bindO_some, Run_condM_false, Run_ret]
  simp only [outK_exit]
  rw [show Nat.beq 0 0 = true from rfl, cond_true, Run_bindO_some, Run_bind, Run_rdM]
  refine ⟨_, c4 (keepX f3e), ?_⟩
  rw [Run_bind]
  refine (itoaI (keepT f3e) (by have:=hh.tot; omega) (by have:=hh.tot; omega)).mono ?_
  rintro _ wf ⟨rfl, ff⟩
  have f3f:=f3e.trans ff λ _ _ h => h.elim
  have dt:=dec_len (n:=m.tot.toNat) (by have:=hh.tot; omega)
  refine line2 (hBe.frm ff) (by decide) (by decide) (by omega) (by rw [List.length_append]; omega) λ wg hBg fg => ?_
  have f3g:=f3f.trans fg λ _ _ h => h
  rw [Run_bindO_some, Run_bind, Run_rdM]
  refine ⟨_, c5 (keepX f3g), ?_⟩
  rw [Run_bind]
  refine (hex8I (keepT f3g) (by have:=hh.who; omega) (by have:=hh.who; omega)).mono ?_
  rintro _ wh ⟨rfl, fh⟩
  have f3h:=f3g.trans fh λ _ _ h => h.elim
  have e8 : (eightL m.who.toNat).length = 8:=lowD_len _ _
  have hTl : TOTAL.length = 5:=rfl
  refine line2 (hBg.frm fh) (by decide) (by decide) (by omega) (by simp only [List.length_append, List.length_singleton]; omega) λ wi hBi fi => ?_
  have f3i:=f3h.trans fi λ _ _ h => h
  have eM : manH m ++ rowsL m.fs ++ (TOTAL ++ [32] ++ Lib.decDigits m.tot.toNat ++ [10]) ++ (WHOLE ++ [32] ++ eightL m.who.toNat ++ [10]) = manL m:=by
   unfold manL manT
   rw [List.append_assoc (manH m ++ rowsL m.fs)]
  rw [eM] at hBi
  rw [Run_bind]
  refine (closed_run (keepT f3i) hBi (by simp [manL, manH, MANI]) (by omega) (λ c hc => by omega)).mono ?_
  rintro _ wj ⟨rfl, fj⟩
  rw [Run_ret]
  refine ⟨rfl, f13.trans (f3i.trans fj λ _ _ h => h) λ c hc hn => hn ?_⟩
  have:=f13.size
  omega
end
end Go.Proofs.YthlpfhjcdedhgaaGreatDoor
namespace Go.Proofs.YthlpfhjcdedhgaaGreatDoor
open Go.Lift Go.Sort
set_option linter.unusedSimpArgs false
set_option linter.unusedVariables false
set_option maxHeartbeats 4000000
def N0 : List UInt8:=[103, 114, 97, 110, 97, 114, 121, 32, 109, 97, 110, 105, 102, 101, 115, 116, 32, 49, 10, 115, 116, 111, 114, 101, 32]
def N1 : List UInt8:=[10, 118, 101, 114, 115, 105, 111, 110, 32]
def N2 : List UInt8:=[10, 110, 111, 100, 101, 32]
def N3 : List UInt8:=[10, 102, 105, 108, 101, 115, 32]
def R0 : List UInt8:=[102, 105, 108, 101, 32]
def Z0 : List UInt8:=[116, 111, 116, 97, 108, 32]
def Z1 : List UInt8:=[10, 119, 104, 111, 108, 101, 32]
theorem manH_parts (m : Mf) : manH m = N0 ++ m.st ++ N1 ++ Lib.decDigits m.ver.toNat ++ N2 ++ Lib.decDigits m.node.toNat ++ N3 ++ Lib.decDigits m.fs.length ++ [10]:=by
 simp [manH, MANI, STORE, VERSION, NODE, FILES, N0, N1, N2, N3]
theorem rowL_parts (f : Fl) : rowL f ++ [10] = R0 ++ f.nm ++ [32] ++ Lib.decDigits f.sz.toNat ++ [32] ++ eightL f.crc.toNat ++ [32] ++ hexL f.md ++ [10]:=by
 simp [rowL, FILE, R0]
theorem manT_parts (m : Mf) : manT m = Z0 ++ Lib.decDigits m.tot.toNat ++ Z1 ++ eightL m.who.toNat ++ [10]:=by
 simp [manT, TOTAL, WHOLE, Z0, Z1]
theorem pairs_no10 {e : List UInt8} {n : Nat} {bs : List UInt8} {c : UInt8} (hc : hvN c.toNat = none) (hl : e.length = 2 * n) (h : pairsF e n = some bs) : c ∉ e:=λ hm => by
 obtain ⟨j, hj⟩:=List.getElem?_of_mem hm
 have hjl:=(List.getElem?_eq_some_iff.1 hj).1
 have hp : pairV e (j / 2) = none:=by
  unfold pairV
  rcases Nat.mod_two_eq_zero_or_one j with h0 | h1
  ·rw [show 2 * (j / 2) = j by omega, hj]
   split
   ·rename_i a b h1 h2
    cases h1
    rw [hc]
   ·rfl
  ·rw [show 2 * (j / 2) + 1 = j by omega, hj]
   split
   ·rename_i a b h1 h2
    cases h2
    rw [hc]
    split <;> simp_all
   ·rfl
 rw [pairsF_bad hp (n:=n) (by omega)] at h
 cases h
section
variable {w w1 w2 : World}
structure RowF (t : List UInt8) (f : Fl) (dz ec eh : List UInt8) : Prop where
 txt : t = R0 ++ (f.nm ++ ([32] ++ (dz ++ ([32] ++ (ec ++ ([32] ++ eh))))))
 nm0 : f.nm ≠ []
 nm32 : (32 : UInt8) ∉ f.nm
 nm10 : (10 : UInt8) ∉ f.nm
 sz : ∃ z : Nat, numF dz = some z /\ f.sz = z
 crc : ∃ c : Nat, sumF ec = some c /\ f.crc = c
 md : eh.length = 32 /\ pairsF eh 16 = some f.md
def rowF (t : List UInt8) (f : Fl) : Prop:=∃ dz ec eh, RowF t f dz ec eh
end
def zFl : Fl:=⟨[], 0, 0, []⟩
def lnsL (ls : List (List UInt8)) : List UInt8:=(ls.map (· ++ [10])).flatten
structure MaForm (t : List UInt8) (m : Mf) (sm : Nat) (ls : List (List UInt8)) (d1 d2 d3 d4 e1 e : List UInt8) : Prop where
 txt : t = N0 ++ (m.st ++ (N1 ++ (d1 ++ (N2 ++ (d2 ++ (N3 ++ (d3 ++ ([10] ++ (lnsL ls ++ (Z0 ++ (d4 ++ (Z1 ++ (e1 ++ ([10] ++ (SUM ++ e ++ [10])))))))))))))))
 st0 : m.st ≠ []
 st32 : (32 : UInt8) ∉ m.st
 st10 : (10 : UInt8) ∉ m.st
 ver : ∃ v : Nat, numF d1 = some v /\ m.ver = v
 node : ∃ v : Nat, numF d2 = some v /\ m.node = v
 cnt : numF d3 = some m.fs.length
 tot : ∃ v : Nat, numF d4 = some v /\ m.tot = v
 who : ∃ v : Nat, sumF e1 = some v /\ m.who = v
 sum : sumF e = some sm
 len : ls.length = m.fs.length
 rows : ∀ (i : Nat) (t : List UInt8) (f : Fl), ls[i]? = some t -> m.fs[i]? = some f -> rowF t f
def maform (t : List UInt8) (m : Mf) (sm : Nat) : Prop:=∃ ls d1 d2 d3 d4 e1 e, MaForm t m sm ls d1 d2 d3 d4 e1 e
def zMf : Mf:=⟨[], 0, 0, [], 0, 0⟩
def codeM (t : List UInt8) (m : Mf) (sm : Nat) : Int:=if sm = crcF (sb (t.take (t.length - 13))) then holdsF m else 41
def resM (t : List UInt8) (m : Mf) (sm : Nat) : Mf:=if codeM t m sm = 0 then m else zMf
theorem lns_mem : ∀ {ls : List (List UInt8)} {x : List UInt8}, x ∈ ls -> x.length + 1 <= (lnsL ls).length
 | y :: ls, x, h => by
  have e : (lnsL (y :: ls)).length = y.length + 1 + (lnsL ls).length:=by simp [lnsL]; omega
  rcases List.mem_cons.1 h with rfl | h
  ·omega
  ·have:=lns_mem h; omega
theorem lns_cnt : ∀ (ls : List (List UInt8)), ls.length <= (lnsL ls).length
 | [] => by simp [lnsL]
 | y :: ls => by
  have e : (lnsL (y :: ls)).length = y.length + 1 + (lnsL ls).length:=by simp [lnsL]; omega
  have:=lns_cnt ls
  rw [List.length_cons]; omega
theorem rowF_len {t : List UInt8} {f : Fl} (h : rowF t f) : f.nm.length <= t.length /\ f.md.length = 16:=by
 obtain ⟨dz, ec, eh, h⟩:=h
 have e:=congrArg List.length h.txt
 simp only [List.length_append] at e
 exact ⟨by omega, pairsF_len h.md.2⟩
theorem maform_fit {t : List UInt8} {m : Mf} {sm : Nat} (h : maform t m sm) (hl : t.length <= 4294960000) : m.Fit:=by
 obtain ⟨ls, d1, d2, d3, d4, e1, e, h⟩:=h
 have ht:=congrArg List.length h.txt
 simp only [List.length_append] at ht
 refine ⟨by omega, λ f hf => ?_, ?_⟩
 ·obtain ⟨i, hi⟩:=List.getElem?_of_mem hf
  have hil : i < ls.length:=by rw [h.len]; exact (List.getElem?_eq_some_iff.1 hi).1
  have hr:=rowF_len (h.rows i _ f (List.getElem?_eq_getElem hil) hi)
  have:=lns_mem (List.getElem_mem hil)
  omega
 ·have:=lns_cnt ls
  rw [<- h.len]; omega
section
variable {w w1 w2 : World}
def ParM (w w' : World) (m : Mf) (c : Int) (r : Value) : Prop:=∃ v, r = .tuple #[.agg (mval m v).toArray, .int .i64 c] /\ SlW 4 w' v (m.fs.map Fl.row) /\ (∀ b, inB v b -> w.heap.size <= b /\ b < w'.heap.size) /\ Fr (λ _ => False) w w'
structure OwnR (w0 w : World) (v : Value) (fs : List Fl) : Prop where
 sl : SlW 4 w v (fs.map Fl.row)
 fresh : ∀ c, inB v c -> w0.heap.size <= c /\ c < w.heap.size
theorem OwnR.nil (w0 w : World) : OwnR w0 w (.slice none 0 0) []:=⟨SlW.nil _ _, λ _ h => h.elim⟩
theorem OwnR.frm {w0 : World} {v : Value} {fs : List Fl} {F : Nat -> Prop} (h : OwnR w0 w v fs) (f : Fr F w w2) (hF : ∀ c, F c -> c < w0.heap.size) : OwnR w0 w2 v fs :=
 ⟨h.sl.fr f λ c hc hf => by have:=(h.fresh c hc).1; have:=hF c hf; omega, λ c hc => ⟨(h.fresh c hc).1, Nat.lt_of_lt_of_le (h.fresh c hc).2 f.size⟩⟩
theorem mval_cell (m : Mf) {v : Value} (hv : isCell v = true) : (mval m v).toArray.toList.all isCell = true:=by
 simp [mval, hv]
theorem push_run {w0 : World} {x5 y : Nat} {l5 zs : List Value} {v : Value} {fs : List Fl} (h5 : bk w x5 = some l5) (hw5 : wr w x5 = true) (h3 : l5[3]? = some v) (h6 : l5.length = 6) (hx0 : x5 < w0.heap.size) (h0 : w0.heap.size <= w.heap.size)
  (hy : bk w y = some zs) (hyw : wr w y = true) (hzs : zs.length = 4) (hy0 : w0.heap.size <= y) (hyv : ¬ inB v y) (hO : OwnR w0 w v fs) (hn : fs.length <= 4294967296) (f : Fl) {β : Type} {K : M β} {Q : β -> World -> Prop}
  (q : ∀ w' r, bk w' x5 = some (l5.set 3 r) -> wr w' x5 = true -> isCell r = true -> OwnR w0 w' r (fs ++ [f]) -> Fr (λ c => c = x5 ∨ w0.heap.size <= c) w w' -> Run K w' Q) :
  Run (M.bind (stM 4 (.pointer (some ⟨y, 0, none⟩)) (.agg f.row.toArray)) λ _ =>
   bindO (fieldA 3 (.pointer (some ⟨x5, 0, none⟩))) λ x33 =>
   M.bind (rdM (ld1 x33)) λ x34 =>
   M.bind (rdM (ldA 4 (.pointer (some ⟨y, 0, none⟩)))) λ x35 =>
   M.bind (bslM 75 1 (Builtin.zeroCells #[(Value.string ByteArray.empty), (Value.int IntKind.i64 0), (Value.int IntKind.i64 0), (Value.string ByteArray.empty)] 1) [(0, 4, x35)]) λ x36 =>
   M.bind (appM 75 4 48 #[(Value.string ByteArray.empty), (Value.int IntKind.i64 0), (Value.int IntKind.i64 0), (Value.string ByteArray.empty)] x34 x36) λ x37 =>
   bindO (fieldA 3 (.pointer (some ⟨x5, 0, none⟩))) λ x38 =>
   M.bind (stM 1 x38 x37) λ _ => K) w Q:=by
 rw [Run_bind, Run_stA (n:=4) ⟨⟨⟨_, hy, by omega⟩, hyw⟩, rfl, f.row_cell⟩]
 rw [show f.row.toArray.toList = f.row from rfl]
 have lx:=bk_lt h5
 have fy : Fr (λ c => c = y) w (sto w y 0 f.row):=(show Fr (λ c => c = y) w w from Fr.refl _ _).sto (.inl rfl) _ _
 have hyb : bk (sto w y 0 f.row) y = some f.row:=by
  rw [bk_sto_same hy, setL_eq _ _ _ (by simp [Fl.row]; omega), List.drop_of_length_le (by simp [Fl.row]; omega)]
  simp
 have h5y:=fy.bk_some h5 (by omega)
 have hw5y : wr (sto w y 0 f.row) x5 = true:=by rw [wr_sto]; exact hw5
 have hOy : OwnR w0 (sto w y 0 f.row) v fs:=⟨hO.sl.fr fy λ c hc he => hyv (he ▸ hc), λ c hc => ⟨(hO.fresh c hc).1, by rw [size_sto]; exact (hO.fresh c hc).2⟩⟩
 have fy' : Fr (λ c => c = x5 ∨ w0.heap.size <= c) w (sto w y 0 f.row):=fy.mono λ c hc => .inr (by omega)
 generalize sto w y 0 f.row = w3 at *
 have ld : ld1 (.pointer (some ⟨x5, 0 + 3, none⟩)) w3 = some v:=by rw [ld1_ptr, h5y]; exact h3
 rw [fieldA_ptr, Run_bindO_some, Run_bind, Run_rdM]
 refine ⟨_, ld, ?_⟩
 rw [Run_bind, Run_rdM]
 refine ⟨.agg f.row.toArray, ldA_bk hyb (Nat.le_refl _), ?_⟩
 simp only [Run_bind]
 refine Run_app1 (k:=4) (y:=.agg f.row.toArray) (K:=λ _ r w' => Run (bindO (some (Value.pointer (some ⟨x5, 0 + 3, none⟩))) λ x38 => M.bind (stM 1 x38 r) λ _ => K) w' Q) rfl hOy.sl (by decide) rfl (by decide) f.row_cell (by simp only [List.length_map]; omega) λ r w4 hr f4 hin _ _ => ?_
 have lx3:=bk_lt h5y
 have nv5 : ¬ inB v x5:=λ h => by have:=(hOy.fresh _ h).1; omega
 have h54:=f4.bk_some h5y nv5
 have hw54 : wr w4 x5 = true:=by rw [f4.wr lx3 nv5]; exact hw5y
 have hrc:=hr.1.isCell
 rw [Run_bindO_some, Run_bind, Run_st1 ⟨⟨⟨_, h54, by omega⟩, hw54⟩, hrc⟩, Nat.zero_add]
 have f5 : Fr (λ c => c = x5) w4 (sto w4 x5 3 [r]):=(show Fr (λ c => c = x5) w4 w4 from Fr.refl _ _).sto (.inl rfl) _ _
 have s4:=f4.size
 have s3:=fy'.size
 have fresh4 : ∀ c, inB r c -> w0.heap.size <= c /\ c < w4.heap.size:=λ c hc => by
  rcases hin c hc with h | h
  ·have:=hOy.fresh c h; omega
  ·omega
 refine q _ r (by rw [bk_sto_same h54]; simp only [setL_cons, setL_nil]) (by rw [wr_sto]; exact hw54) hrc ⟨?_, λ c hc => by rw [size_sto]; exact fresh4 c hc⟩ ((fy'.trans (f4.mono λ c hc => (show c = x5 ∨ w0.heap.size <= c from .inr (hOy.fresh c hc).1)) λ _ _ h => h).trans f5 λ c _ hc => .inl hc)
 have hr' : SlW 4 w4 r ((fs ++ [f]).map Fl.row):=by
  rw [List.map_append]
  exact hr
 exact hr'.fr f5 λ c hc he => by have:=(fresh4 c hc).1; omega
end
abbrev nilS : Value:=.slice none 0 0
theorem num_no {d : List UInt8} {v : Nat} {c : UInt8} (hc : isD c = false) (h : numF d = some v) : c ∉ d:=λ hm => by
 have:=List.all_eq_true.1 (num_all h).1 c hm
 rw [hc] at this; cases this
theorem sum_no {e : List UInt8} {v : Nat} {c : UInt8} (hc : hvN c.toNat = none) (h : sumF e = some v) : c ∉ e:=by
 have hl:=(sum_no10 h).2
 unfold sumF at h
 rw [if_pos hl] at h
 cases hp : pairsF e 4 with
 | none => rw [hp] at h; cases h
 | some bs => exact pairs_no10 hc (n:=4) (by omega) hp
theorem row_words {s : List UInt8} {f : Fl} {dz ec eh : List UInt8} (h : RowF s f dz ec eh) : spl 32 s = [FILE, f.nm, dz, ec, eh]:=by
 have hs : s = jn 32 [FILE, f.nm, dz, ec, eh]:=by
  rw [h.txt]
  simp [jn, R0, FILE]
 obtain ⟨z, hz, _⟩:=h.sz
 obtain ⟨c, hc, _⟩:=h.crc
 rw [hs]
 refine spl_of 32 (by simp) λ x hx => ?_
 simp only [List.mem_cons, List.not_mem_nil, or_false] at hx
 rcases hx with rfl | rfl | rfl | rfl | rfl
 ·decide
 ·exact h.nm32
 ·exact num_no (by decide) hz
 ·exact sum_no (by decide) hc
 ·exact pairs_no10 (by decide) (n:=16) (by have:=h.md.1; omega) h.md.2
def rowC (N : List (List UInt8)) (f : Fl) : Prop:=∃ dz ec eh, N = [FILE, f.nm, dz, ec, eh] /\ f.nm ≠ [] /\ (∃ z : Nat, numF dz = some z /\ f.sz = z) /\ (∃ c : Nat, sumF ec = some c /\ f.crc = c) /\ eh.length = 32 /\ pairsF eh 16 = some f.md
theorem rowC_iff {s : List UInt8} (h10 : (10 : UInt8) ∉ s) {f : Fl} : rowF s f ↔ rowC (spl 32 s) f:=by
 constructor
 ·rintro ⟨dz, ec, eh, h⟩
  exact ⟨dz, ec, eh, row_words h, h.nm0, h.sz, h.crc, h.md.1, h.md.2⟩
 ·rintro ⟨dz, ec, eh, hN, h0, hz, hc, h1, h2⟩
  obtain ⟨hj, hno⟩:=spl_jn 32 s
  rw [hN] at hj hno
  refine ⟨dz, ec, eh, ?_, h0, hno f.nm (by simp), λ hm => h10 ?_, hz, hc, h1, h2⟩
  ·rw [<- hj]; simp [jn, R0, FILE]
  ·rw [<- hj]; simp [jn, hm]
section
variable {w w1 w2 : World}
theorem row_run (ht : Tb w) {s : List UInt8} (hs : s.length <= 4294967000) (h10 : (10 : UInt8) ∉ s) : Run (F.paper_row (.string (sb s))) w λ r w' => (∃ f b, r = .tuple #[.agg f.row.toArray, .bool b] /\ (b = true -> rowF s f) /\ ∀ f', rowF s f' -> b = true /\ f = f') /\ Fr (λ _ => False) w w':=by
 unfold F.paper_row
 have z0 : buildV #[(Value.string ByteArray.empty), (Value.int IntKind.i64 0), (Value.int IntKind.i64 0), (Value.string ByteArray.empty)] [] = some (.agg zFl.row.toArray):=rfl
 have e32 : ByteArray.mk #[32] = sb [32]:=rfl
 have e0 : ByteArray.mk #[] = sb []:=rfl
 have eF : ByteArray.mk #[102, 105, 108, 101] = sb FILE:=rfl
 have y0 : ∀ v x, extV 0 (.tuple #[v, x]) = some v:=λ _ _ => rfl
 have y1 : ∀ v x, extV 1 (.tuple #[v, x]) = some x:=λ _ _ => rfl
 rw [e32, e0, eF, Run_bind]
 refine Run_new λ x w1 hx hxw f1 hxle => ?_
 replace hx : bk w1 x = some zFl.row:=hx
 rw [Run_bind]
 refine (split_run (ht.fr0 f1) s 32 (by omega)).mono ?_
 rintro v w2 ⟨hv, f2, hn2⟩
 have f12:=f1.trans f2 λ _ _ => id
 have hiff:=λ f => rowC_iff (f:=f) h10
 have hjn:=spl_jn 32 s
 generalize spl 32 s = N at *
 have hlv:=hv.1.lenL
 rw [List.length_map] at hlv
 have hlen : ∀ y ∈ N, y.length <= s.length:=λ y hy => by
  have : ∀ (N : List (List UInt8)), y ∈ N -> y.length <= (jn 32 N).length:=λ N => by
   induction N with
   | nil => intro h; cases h
   | cons z r ih =>
    intro h
    by_cases hr : r = []
    ·subst hr; simp at h; subst h; simp [jn]
    ·rw [jn_cons 32 hr, List.length_append, List.length_append]
     rcases List.mem_cons.1 h with rfl | h
     ·omega
     ·have:=ih h; omega
  have:=this N hy
  rwa [hjn.1] at this
 have no : (∀ f, ¬ rowC N f) -> ∀ {u : World}, Fr (λ _ => False) w1 u -> Run (bindO (some (Value.agg zFl.row.toArray)) λ x15 =>
  M.bind (stM 4 (.pointer (some ⟨x, 0, none⟩)) x15) λ _ =>
  M.bind (rdM (ldA 4 (.pointer (some ⟨x, 0, none⟩)))) λ x17 =>
  M.ret (Value.tuple #[x17, (Value.bool false)])) u λ r w' => (∃ f b, r = .tuple #[.agg f.row.toArray, .bool b] /\ (b = true -> rowF s f) /\ ∀ f', rowF s f' -> b = true /\ f = f') /\ Fr (λ _ => False) w w':=λ hno {u} f => by
  rw [Run_bindO_some]
  simp only [Run_bind]
  refine finN_run (f.bk_some hx id) (by rw [f.wr (bk_lt hx) id]; exact hxw) zFl.row.toArray rfl rfl zFl.row_cell λ w3 f3 => ?_
  rw [Run_ret]
  exact ⟨⟨zFl, false, rfl, λ h => Bool.noConfusion h, λ f' hf => absurd ((hiff f').1 hf) (hno f')⟩, (f1.trans f λ _ _ => id).new f3 λ c hc => hc ▸ hxle⟩
 rw [hlv, Run_bindO_some, binV_int, intBin_neq, Run_bindO_some]
 by_cases h5 : N.length = 5
 case neg =>
  have h5' : ¬ ((N.length : Nat) : Int) = 5:=by omega
  rw [decide_eq_false h5', Bool.not_false]
  simp only [Run_bind, Run_guardM_tf, pickV_bool, cond_true, Run_bindO_some, Run_condM_true]
  rw [z0]
  have:=no (λ f hc => by obtain ⟨_, _, _, hN, _⟩:=hc; rw [hN] at h5; exact h5 rfl) f2
  simp only [Run_bindO_some, Run_bind] at this ⊢
  exact this
 obtain ⟨x0, x1, x2, x3, x4, rfl⟩ : ∃ x0 x1 x2 x3 x4, N = [x0, x1, x2, x3, x4]:=by
  match N, h5 with
  | [x0, x1, x2, x3, x4], _ => exact ⟨_, _, _, _, _, rfl⟩
 have e5 : (!decide (((([x0, x1, x2, x3, x4] : List (List UInt8)).length : Nat) : Int) = 5)) = false:=rfl
 rw [e5]
 obtain ⟨q0, a0, b0⟩:=hv.1.rd1 (i:=0) (y:=.string (sb x0)) rfl .i64
 obtain ⟨q1, a1, b1⟩:=hv.1.rd1 (i:=1) (y:=.string (sb x1)) rfl .i64
 have a0' : idxA 1 v (.int .i64 0) = some q0:=a0
 have a1' : idxA 1 v (.int .i64 1) = some q1:=a1
 simp only [Run_bind, Run_guardM_ff, Run_ret, a0', Run_optM_some, Run_rdM]
 refine ⟨_, b0, ?_⟩
 rw [sbNe, Run_optM_some]
 simp only [pickV_bool, cond_false, Run_bindO_some]
 by_cases hF : x0 = FILE
 case neg =>
  rw [decide_eq_false hF, Bool.not_false]
  simp only [Run_bind, Run_guardM_tf, pickV_bool, cond_true, Run_bindO_some, Run_condM_true]
  rw [z0]
  have:=no (λ f hc => by obtain ⟨_, _, _, hN, _⟩:=hc; simp only [List.cons.injEq] at hN; exact hF hN.1) f2
  simp only [Run_bindO_some, Run_bind] at this ⊢
  exact this
 rw [decide_eq_true hF, Bool.not_true]
 simp only [Run_bind, Run_guardM_ff, Run_ret, a1', Run_optM_some, Run_rdM]
 refine ⟨_, b1, ?_⟩
 rw [sbEq, Run_optM_some]
 simp only [pickV_bool, cond_false, Run_bindO_some]
 by_cases h0 : x1 = []
 case pos =>
  rw [decide_eq_true h0, Run_condM_true, z0]
  have:=no (λ f hc => by obtain ⟨_, _, _, hN, hne, _⟩:=hc; simp only [List.cons.injEq] at hN; exact hne (by rw [<- hN.2.1]; exact h0)) f2
  simp only [Run_bindO_some, Run_bind] at this ⊢
  exact this
 rw [decide_eq_false h0, Run_condM_false]
 obtain ⟨q2, a2, b2⟩:=hv.1.rd1 (i:=2) (y:=.string (sb x2)) rfl .i64
 have a2' : idxA 1 v (.int .i64 2) = some q2:=a2
 rw [a2', Run_bindO_some, Run_bind, Run_rdM]
 refine ⟨_, b2, ?_⟩
 rw [Run_bind]
 refine (number_run x2 (by have:=hlen x2 (by simp); omega)).mono ?_
 rintro _ w3 ⟨rfl, f3⟩
 have e : ∀ o, extV 0 (numV o) = some (.int .i64 ((o.getD 0 : Nat) : Int)):=λ _ => rfl
 have e' : ∀ o, extV 1 (numV o) = some (.bool o.isSome):=λ _ => rfl
 have hv3:=hv.1.fr0 f3
 obtain ⟨q3, a3, b3⟩:=hv3.rd1 (i:=3) (y:=.string (sb x3)) rfl .i64
 have a3' : idxA 1 v (.int .i64 3) = some q3:=a3
 rw [e, Run_bindO_some, e', Run_bindO_some, a3', Run_bindO_some, Run_bind, Run_rdM]
 refine ⟨_, b3, ?_⟩
 rw [Run_bind]
 refine (sumOf_run (by have:=hlen x3 (by simp); omega)).mono ?_
 rintro _ w4 ⟨rfl, f4⟩
 have hv4:=hv3.fr0 f4
 obtain ⟨q4, a4, b4⟩:=hv4.rd1 (i:=4) (y:=.string (sb x4)) rfl .i64
 have a4' : idxA 1 v (.int .i64 4) = some q4:=a4
 rw [e, Run_bindO_some, e', Run_bindO_some, a4', Run_bindO_some, Run_bind, Run_rdM]
 refine ⟨_, b4, ?_⟩
 rw [Run_bind]
 refine (punhex_run (n:=16) (by decide) (by have:=hlen x4 (by simp); omega)).mono ?_
 rintro r5 w5 ⟨hr5, f5⟩
 have hv5:=hv4.fr0 f5
 obtain ⟨q1', a1'', b1'⟩:=hv5.rd1 (i:=1) (y:=.string (sb x1)) rfl .i64
 have a15 : idxA 1 v (.int .i64 1) = some q1':=a1''
 obtain rfl : q1' = q1:=Option.some.inj (a15.symm.trans a1')
 have f25:=((f2.trans f3 λ _ _ => id).trans f4 λ _ _ => id).trans f5 λ _ _ => id
 obtain ⟨md, hmd⟩ : ∃ md : List UInt8, r5 = .tuple #[.string (sb md), .bool (if x4.length = 2 * 16 then pairsF x4 16 else none).isSome] /\ ((if x4.length = 2 * 16 then pairsF x4 16 else none).isSome = true -> x4.length = 32 /\ pairsF x4 16 = some md):=by
  by_cases h32 : x4.length = 2 * 16
  ·rw [if_pos h32] at hr5 ⊢
   cases hp : pairsF x4 16 with
   | some b => rw [hp] at hr5; exact ⟨b, hr5, λ _ => ⟨by omega, rfl⟩⟩
   | none => rw [hp] at hr5; exact ⟨[], hr5, λ h => Bool.noConfusion h⟩
  ·rw [if_neg h32] at hr5 ⊢
   exact ⟨[], hr5, λ h => Bool.noConfusion h⟩
 rw [hmd.1, y0, Run_bindO_some, y1, Run_bindO_some, Run_bindO_some, Run_bind, Run_rdM]
 refine ⟨_, b1', ?_⟩
 have hb : buildV #[(Value.string ByteArray.empty), (Value.int IntKind.i64 0), (Value.int IntKind.i64 0), (Value.string ByteArray.empty)] [(0, 1, .string (sb x1)), (1, 1, .int .i64 (((numF x2).getD 0 : Nat) : Int)), (2, 1, .int .i64 (((sumF x3).getD 0 : Nat) : Int)), (3, 1, .string (sb md))] = some (.agg (Fl.row ⟨x1, (((numF x2).getD 0 : Nat) : Int), (((sumF x3).getD 0 : Nat) : Int), md⟩).toArray):=rfl
 rw [hb, Run_bindO_some]
 have fin : ∀ B : Bool, B = ((numF x2).isSome && ((sumF x3).isSome && (if x4.length = 2 * 16 then pairsF x4 16 else none).isSome)) -> Run (M.bind (stM 4 (.pointer (some ⟨x, 0, none⟩)) (.agg (Fl.row ⟨x1, (((numF x2).getD 0 : Nat) : Int), (((sumF x3).getD 0 : Nat) : Int), md⟩).toArray)) λ _ =>
  M.bind (rdM (ldA 4 (.pointer (some ⟨x, 0, none⟩)))) λ x41 =>
  M.ret (Value.tuple #[x41, .bool B])) w5 λ r w' => (∃ f b, r = .tuple #[.agg f.row.toArray, .bool b] /\ (b = true -> rowF s f) /\ ∀ f', rowF s f' -> b = true /\ f = f') /\ Fr (λ _ => False) w w':=λ B hB => by
  simp only [Run_bind]
  refine finN_run (f25.bk_some hx id) (by rw [f25.wr (bk_lt hx) id]; exact hxw) _ rfl rfl (Fl.row_cell _) λ w6 f6 => ?_
  rw [Run_ret]
  refine ⟨⟨_, B, rfl, λ hBt => ?_, λ f' hf => ?_⟩, (f1.trans f25 λ _ _ => id).new f6 λ c hc => hc ▸ hxle⟩
  ·rw [hB] at hBt
   simp only [Bool.and_eq_true] at hBt
   obtain ⟨h1, h2, h3⟩:=hBt
   obtain ⟨z, hz⟩:=Option.isSome_iff_exists.1 h1
   obtain ⟨c, hc⟩:=Option.isSome_iff_exists.1 h2
   obtain ⟨m1, m2⟩:=hmd.2 h3
   refine (hiff _).2 ⟨x2, x3, x4, by rw [hF], h0, ⟨z, hz, by rw [hz]; rfl⟩, ⟨c, hc, by rw [hc]; rfl⟩, m1, m2⟩
  ·have hc:=(hiff f').1 hf
   obtain ⟨dz, ec, eh, hN, _, ⟨z, a1, a2⟩, ⟨c, b1, b2⟩, m1, m2⟩:=hc
   simp only [List.cons.injEq, and_true] at hN
   obtain ⟨_, rfl, rfl, rfl, rfl⟩:=hN
   have h32 : x4.length = 2 * 16:=by omega
   have hBt : B = true:=by
    rw [hB, a1, b1, if_pos h32, m2]; rfl
   have hmm:=hmd.2 (by rw [if_pos h32, m2]; rfl)
   have hmd' : md = f'.md:=by rw [m2] at hmm; exact (Option.some.inj hmm.2).symm
   refine ⟨hBt, ?_⟩
   rw [a1, b1, hmd']
   show (⟨f'.nm, (z : Int), (c : Int), f'.md⟩ : Fl) = f'
   rw [<- a2, <- b2]
 cases hn : (numF x2).isSome with
 | false =>
  simp only [Run_bind, Run_guardM_ft, pickV_bool, cond_false, Run_bindO_some]
  have:=fin false (by rw [hn]; rfl)
  simp only [Run_bind, Run_ret] at this
  try simp only [Run_bind, Run_ret]
  exact this
 | true =>
  simp only [Run_bind, Run_guardM_tt, Run_ret, pickV_bool, cond_true, Run_bindO_some]
  cases hs2 : (sumF x3).isSome with
  | false =>
   simp only [Run_bind, Run_guardM_ft, pickV_bool, cond_false, Run_bindO_some]
   have:=fin false (by rw [hn, hs2]; rfl)
   simp only [Run_bind, Run_ret] at this
   try simp only [Run_bind, Run_ret]
   exact this
  | true =>
   simp only [Run_bind, Run_guardM_tt, Run_ret, pickV_bool, cond_true, Run_bindO_some]
   have:=fin _ (by rw [hn, hs2, Bool.true_and, Bool.true_and])
   simp only [Run_bind, Run_ret] at this
   try simp only [Run_bind, Run_ret]
   exact this
end
def wdF (word : List UInt8) : Fd:=⟨word, 0, 0, 0, .nilFunc⟩
def WH6 : List UInt8:=[119, 104, 111, 108, 101, 32]
def whoO (l : List UInt8) : Option Nat:=if WH6 <+: l then sumF (l.drop 6) else none
def headF (N : List (List UInt8)) (m : Mf) (ls : List (List UInt8)) : Prop:=∃ x0 x1 x2 x3 y0 y1, ∃ v1 v2 v4 v5 : Nat, N = x0 :: x1 :: x2 :: x3 :: (ls ++ [y0, y1]) /\ nameF STORE x0 = some m.st /\ (fldO (wdF VERSION) x1 = some v1 /\ m.ver = v1) /\ (fldO (wdF NODE) x2 = some v2 /\ m.node = v2) /\ fldO (wdF FILES) x3 = some ls.length /\ (fldO (wdF TOTAL) y0 = some v4 /\ m.tot = v4) /\ (whoO y1 = some v5 /\ m.who = v5)
theorem split_ends {N : List (List UInt8)} (h : 6 <= N.length) : ∃ x0 x1 x2 x3 ls y0 y1, N = x0 :: x1 :: x2 :: x3 :: (ls ++ [y0, y1]):=by
 match N, h with
 | x0 :: x1 :: x2 :: x3 :: R, h =>
  rcases List.eq_nil_or_concat R with rfl | ⟨R1, y1, rfl⟩
  ·simp at h
  rcases List.eq_nil_or_concat R1 with rfl | ⟨R2, y0, rfl⟩
  ·simp at h
  exact ⟨x0, x1, x2, x3, R2, y0, y1, by simp⟩
structure HS (w0 w : World) (v : Value) (N : List (List UInt8)) (x2 x4 : Nat) (l2 l4 : List Value) : Prop where
 sl : Sl 1 w v (N.map λ s => [.string (sb s)])
 b2 : bk w x2 = some l2
 w2 : wr w x2 = true
 b4 : bk w x4 = some l4
 w4 : wr w x4 = true
 n2 : l2.length = 6
 n4 : l4.length = 6
 ne : x2 ≠ x4
 v2 : ¬ inB v x2
 v4 : ¬ inB v x4
 fr : Fr (λ c => c = x2 ∨ c = x4) w0 w
section
variable {w w1 w2 : World}
section
variable {w0 : World} {v : Value} {N : List (List UInt8)} {x2 x4 : Nat} {l2 l4 : List Value} {β : Type}
theorem HS.frm (h : HS w0 w v N x2 x4 l2 l4) (f : Fr (λ _ => False) w w2) : HS w0 w2 v N x2 x4 l2 l4 :=
 ⟨h.sl.fr0 f, f.bk_some h.b2 id, by rw [f.wr (bk_lt h.b2) id]; exact h.w2, f.bk_some h.b4 id, by rw [f.wr (bk_lt h.b4) id]; exact h.w4, h.n2, h.n4, h.ne, h.v2, h.v4, h.fr.trans f λ _ _ h => h.elim⟩
theorem HS.set2 (h : HS w0 w v N x2 x4 l2 l4) {i : Nat} (hi : i < 6) {y : Value} (hy : isCell y = true) {K : M β} {Q : β -> World -> Prop} (q : ∀ w', HS w0 w' v N x2 x4 (l2.set i y) l4 -> Run K w' Q) :
  Run (bindO (nilChk (.pointer (some ⟨x2, 0, none⟩))) λ x10 => bindO (fieldA i x10) λ x11 => M.bind (stM 1 x11 y) λ _ => K) w Q:=by
 rw [nilChk_ptr, Run_bindO_some, fieldA_ptr, Run_bindO_some, Run_bind, Run_st1 ⟨⟨⟨l2, h.b2, by rw [h.n2]; omega⟩, h.w2⟩, hy⟩, Nat.zero_add]
 have f : Fr (λ c => c = x2) w (sto w x2 i [y]):=(show Fr (λ c => c = x2) w w from Fr.refl _ _).sto (.inl rfl) _ _
 exact q _ ⟨h.sl.fr f λ c hc he => h.v2 (he ▸ hc), by rw [bk_sto_same h.b2]; simp only [setL_cons, setL_nil], by rw [wr_sto]; exact h.w2, f.bk_some h.b4 λ e => h.ne e.symm, by rw [wr_sto]; exact h.w4, by rw [List.length_set]; exact h.n2, h.n4, h.ne, h.v2, h.v4, h.fr.trans f λ _ _ h => .inl h⟩
theorem HS.set4 (h : HS w0 w v N x2 x4 l2 l4) {i : Nat} (hi : i < 6) {y : Bool} {K : M β} {Q : β -> World -> Prop} (q : ∀ w', HS w0 w' v N x2 x4 l2 (l4.set i (.bool y)) -> Run K w' Q) :
  Run (bindO (idxR 6 1 (.pointer (some ⟨x4, 0, none⟩)) (.int .i64 (i : Int))) λ x13 => M.bind (stM 1 x13 (.bool y)) λ _ => K) w Q:=by
 have hix : idxR 6 1 (.pointer (some ⟨x4, 0, none⟩)) (.int .i64 (i : Int)) = some (.pointer (some ⟨x4, i, none⟩)):=by
  have h2 : (i : Int) < 6:=by omega
  simp [h2]
 rw [hix, Run_bindO_some, Run_bind, Run_st1 ⟨⟨⟨l4, h.b4, by rw [h.n4]; omega⟩, h.w4⟩, rfl⟩]
 have f : Fr (λ c => c = x4) w (sto w x4 i [.bool y]):=(show Fr (λ c => c = x4) w w from Fr.refl _ _).sto (.inl rfl) _ _
 exact q _ ⟨h.sl.fr f λ c hc he => h.v4 (he ▸ hc), f.bk_some h.b2 h.ne, by rw [wr_sto]; exact h.w2, by rw [bk_sto_same h.b4]; simp only [setL_cons, setL_nil], by rw [wr_sto]; exact h.w4, h.n2, by rw [List.length_set]; exact h.n4, h.ne, h.v2, h.v4, h.fr.trans f λ _ _ h => .inr h⟩
theorem HS.num (h : HS w0 w v N x2 x4 l2 l4) {j : Nat} {s word : List UInt8} (hj : N[j]? = some s) (hs : s.length <= 4611686018427387904) (hw : word.length <= 100) {K : Value -> Value -> M β} {Q : β -> World -> Prop} (q : ∀ w', HS w0 w' v N x2 x4 l2 l4 -> Run (K (.int .i64 (((fldO (wdF word) s).getD 0 : Nat) : Int)) (.bool (fldO (wdF word) s).isSome)) w' Q) :
  Run (bindO (idxA 1 v (.int .i64 (j : Int))) λ x15 => M.bind (rdM (ld1 x15)) λ x16 => M.bind (F.paper_numberOf x16 (.string (sb word))) λ x17 => bindO (extV 0 x17) λ x18 => bindO (extV 1 x17) λ x19 => K x18 x19) w Q:=by
 obtain ⟨p, p1, p2⟩:=h.sl.rd1 (i:=j) (y:=.string (sb s)) (by simp [hj]) .i64
 have p1' : idxA 1 v (.int .i64 (j : Int)) = some p:=p1
 have e : ∀ o, extV 0 (numV o) = some (.int .i64 ((o.getD 0 : Nat) : Int)):=λ _ => rfl
 have e' : ∀ o, extV 1 (numV o) = some (.bool o.isSome):=λ _ => rfl
 rw [p1', Run_bindO_some, Run_bind, Run_rdM]
 refine ⟨_, p2, ?_⟩
 rw [Run_bind]
 refine (numberOf_run (f:=wdF word) hs hw).mono ?_
 rintro _ w' ⟨rfl, f⟩
 rw [e, Run_bindO_some, e', Run_bindO_some]
 exact q w' (h.frm f)
end
theorem head_run {v : Value} {N : List (List UInt8)} (hv : Sl 1 w v (N.map λ s => [.string (sb s)])) {x2 : Nat} (h2 : bk w x2 = some (mval zMf nilS)) (hw2 : wr w x2 = true) (hv2 : ¬ inB v x2) (hN : N.length <= 4611686018427387904) (hNl : ∀ s ∈ N, s.length <= 4611686018427387904) (hvw : ∀ c, inB v c -> c < w.heap.size) :
  Run (F.paper_head v (.pointer (some ⟨x2, 0, none⟩))) w λ r w' => (∃ v' ok m0, r = .tuple #[v', .bool ok] /\ bk w' x2 = some (mval m0 nilS) /\ wr w' x2 = true /\ m0.fs = [] /\
   (ok = true -> ∃ ls, headF N m0 ls /\ Sl 1 w' v' (ls.map λ s => [.string (sb s)]) /\ ∀ c, inB v' c -> inB v c) /\ ∀ m ls, headF N m ls -> ok = true /\ m0 = { m with fs:=[] }) /\ Fr (λ c => c = x2) w w':=by
 unfold F.paper_head
 have hvl:=hv.lenL
 rw [List.length_map] at hvl
 rw [hvl, Run_bindO_some, binV_int, intBin_lss, Run_bindO_some]
 by_cases h6 : 6 <= N.length
 case neg =>
  have h6' : ((N.length : Nat) : Int) < 6:=by omega
  rw [decide_eq_true h6', Run_condM_true, Run_ret]
  refine ⟨⟨_, false, zMf, rfl, h2, hw2, rfl, λ h => Bool.noConfusion h, λ m ls hh => ?_⟩, Fr.refl _ _⟩
  obtain ⟨x0, x1, x2, x3, y0, y1, v1, v2, v4, v5, rfl, _⟩:=hh
  simp at h6
 have h6' : ¬ ((N.length : Nat) : Int) < 6:=by omega
 obtain ⟨x0, x1, x2', x3, ls, y0, y1, rfl⟩:=split_ends h6
 have eS : ByteArray.mk #[115, 116, 111, 114, 101] = sb STORE:=rfl
 have eV : ByteArray.mk #[118, 101, 114, 115, 105, 111, 110] = sb VERSION:=rfl
 have eN : ByteArray.mk #[110, 111, 100, 101] = sb NODE:=rfl
 have eF : ByteArray.mk #[102, 105, 108, 101, 115] = sb FILES:=rfl
 have eT : ByteArray.mk #[116, 111, 116, 97, 108] = sb TOTAL:=rfl
 have eW : ByteArray.mk #[119, 104, 111, 108, 101, 32] = sb WH6:=rfl
 have p0 : ∀ v x, extV 0 (.tuple #[v, x]) = some v:=λ _ _ => rfl
 have p1 : ∀ v x, extV 1 (.tuple #[v, x]) = some x:=λ _ _ => rfl
 rw [decide_eq_false h6', Run_condM_false, eS, eV, eN, eF, eT, eW, Run_bindO_some, Run_bind]
 refine Run_new λ x4 w1 hx4 hw4 f1 hx4le => ?_
 have lx2:=bk_lt h2
 have n0 : HS w1 w1 v (x0 :: x1 :: x2' :: x3 :: (ls ++ [y0, y1])) x2 x4 (mval zMf nilS) [.bool false, .bool false, .bool false, .bool false, .bool false, .bool false] :=
  ⟨hv.fr0 f1, f1.bk_some h2 id, by rw [f1.wr lx2 id]; exact hw2, hx4, hw4, rfl, rfl, by omega, hv2, λ h => by have:=hvw _ h; omega, Fr.refl _ _⟩
 obtain ⟨q0, a0, b0⟩:=n0.sl.rd1 (i:=0) (y:=.string (sb x0)) rfl .i64
 have a0' : idxA 1 v (.int .i64 0) = some q0:=a0
 rw [a0', Run_bindO_some, Run_bind, Run_rdM]
 refine ⟨_, b0, ?_⟩
 rw [Run_bind]
 refine (nameOf_run (by decide)).mono ?_
 rintro _ wz ⟨rfl, hwz⟩
 rw [hwz, p0, Run_bindO_some, p1, Run_bindO_some]
 refine n0.set2 (i:=0) (by decide) rfl λ ws n1 => ?_
 refine n1.set4 (i:=0) (by decide) λ ws n1 => ?_
 refine n1.num (j:=1) rfl (hNl _ (by simp)) (by decide) λ ws n2 => ?_
 refine n2.set2 (i:=1) (by decide) rfl λ ws n2 => ?_
 refine n2.set4 (i:=1) (by decide) λ ws n2 => ?_
 refine n2.num (j:=2) rfl (hNl _ (by simp)) (by decide) λ ws n3 => ?_
 refine n3.set2 (i:=2) (by decide) rfl λ ws n3 => ?_
 refine n3.set4 (i:=2) (by decide) λ ws n3 => ?_
 refine n3.num (j:=3) rfl (hNl _ (by simp)) (by decide) λ ws n4 => ?_
 refine n4.set4 (i:=3) (by decide) λ ws n4 => ?_
 have hlen : (x0 :: x1 :: x2' :: x3 :: (ls ++ [y0, y1])).length = ls.length + 6:=by simp
 rw [hlen] at hvl hN ⊢
 have wa : IntKind.i64.wrap (((ls.length + 6 : Nat) : Int) - 2) = ((ls.length + 4 : Nat) : Int):=by rw [show ((ls.length + 6 : Nat) : Int) - 2 = ((ls.length + 4 : Nat) : Int) by omega]; exact i64W (by omega)
 have wb : IntKind.i64.wrap (((ls.length + 6 : Nat) : Int) - 1) = ((ls.length + 5 : Nat) : Int):=by rw [show ((ls.length + 6 : Nat) : Int) - 1 = ((ls.length + 5 : Nat) : Int) by omega]; exact i64W (by omega)
 have wc : IntKind.i64.wrap (((ls.length + 6 : Nat) : Int) - 6) = ((ls.length : Nat) : Int):=by rw [show ((ls.length + 6 : Nat) : Int) - 6 = ((ls.length : Nat) : Int) by omega]; exact i64W (by omega)
 have gy0 : (x0 :: x1 :: x2' :: x3 :: (ls ++ [y0, y1]))[ls.length + 4]? = some y0:=by
  simp
 have gy1 : (x0 :: x1 :: x2' :: x3 :: (ls ++ [y0, y1]))[ls.length + 5]? = some y1:=by
  simp
 rw [binV_int, intBin_sub, wa, Run_bindO_some]
 refine n4.num (j:=ls.length + 4) gy0 (hNl _ (by simp)) (by decide) λ ws n5 => ?_
 refine n5.set2 (i:=4) (by decide) rfl λ ws n5 => ?_
 refine n5.set4 (i:=4) (by decide) λ ws n5 => ?_
 obtain ⟨q5, a5, b5⟩:=n5.sl.rd1 (i:=ls.length + 5) (y:=.string (sb y1)) (by rw [List.getElem?_map, gy1]; rfl) .i64
 have a5' : idxA 1 v (.int .i64 ((ls.length + 5 : Nat) : Int)) = some q5:=a5
 rw [binV_int, intBin_sub, wb, Run_bindO_some, a5', Run_bindO_some, Run_bind, Run_rdM]
 refine ⟨_, b5, ?_⟩
 rw [Run_bind]
 refine ⟨_, _, cutp_run y1 WH6, ?_⟩
 show Run (bindO (extV 0 (.tuple #[.string (sb (Lib.trimPrefix y1 WH6)), .bool (decide (WH6 <+: y1))])) _) ws _
 have hy1l:=hNl y1 (by simp)
 have htl : (Lib.trimPrefix y1 WH6).length <= 4611686018427387904:=by
  unfold Lib.trimPrefix
  split
  ·rw [List.length_drop]; omega
  ·omega
 have e : ∀ o, extV 0 (numV o) = some (.int .i64 ((o.getD 0 : Nat) : Int)):=λ _ => rfl
 have e' : ∀ o, extV 1 (numV o) = some (.bool o.isSome):=λ _ => rfl
 rw [p0, Run_bindO_some, p1, Run_bindO_some, Run_bind]
 refine (sumOf_run htl).mono ?_
 rintro _ wt ⟨rfl, ft⟩
 have n6:=n5.frm ft
 rw [e, Run_bindO_some, e', Run_bindO_some]
 refine n6.set2 (i:=5) (by decide) rfl λ wu n7 => ?_
 refine n7.set4 (i:=5) (by decide) λ wu n7 => ?_
 rw [Run_drewM]
 have n8:=n7.frm (show Fr (λ _ => False) wu wu.drew from (Fr.refl _ _).drew)
 generalize wu.drew = wv at *
 obtain ⟨vm, m1, m2, m3⟩:=sl_mid n8.sl (a:=4) (b:=ls.length + 4) (by omega) (by rw [List.length_map, hlen]; omega) .i64
 have m1' : sliceV 1 v (some (.int .i64 4)) (some (.int .i64 ((ls.length + 4 : Nat) : Int))) = some vm:=m1
 have m2' : Sl 1 wv vm (ls.map λ s => [.string (sb s)]):=by
  have e2 : ((((x0 :: x1 :: x2' :: x3 :: (ls ++ [y0, y1])).map λ s => [Value.string (sb s)]).take (ls.length + 4)).drop 4) = ls.map λ s => [Value.string (sb s)]:=by
   simp
  rwa [e2] at m2
 have hfr : Fr (λ c => c = x2) w wv:=(f1.mono λ _ h => h.elim).trans n8.fr λ c hc h => h.elim id λ h => by omega
 rw [Run_bindO_some, m1', Run_bindO_some]
 obtain ⟨b0, hb0⟩ : ∃ b, (nameF STORE x0).isSome = b:=⟨_, rfl⟩
 obtain ⟨b1, hb1⟩ : ∃ b, (fldO (wdF VERSION) x1).isSome = b:=⟨_, rfl⟩
 obtain ⟨b2, hb2⟩ : ∃ b, (fldO (wdF NODE) x2').isSome = b:=⟨_, rfl⟩
 obtain ⟨b3, hb3⟩ : ∃ b, (fldO (wdF FILES) x3).isSome = b:=⟨_, rfl⟩
 obtain ⟨b4, hb4⟩ : ∃ b, (fldO (wdF TOTAL) y0).isSome = b:=⟨_, rfl⟩
 obtain ⟨b5', hb5⟩ : ∃ b, (sumF (Lib.trimPrefix y1 WH6)).isSome = b:=⟨_, rfl⟩
 have fin : ∀ B : Bool, B = (decide (WH6 <+: y1) && (decide ((fldO (wdF FILES) x3).getD 0 = ls.length) && (b0 && b1 && b2 && b3 && b4 && b5'))) -> (∃ v' ok m0, (Value.tuple #[vm, .bool B]) = .tuple #[v', .bool ok] /\ bk wv x2 = some (mval m0 nilS) /\ wr wv x2 = true /\ m0.fs = [] /\
   (ok = true -> ∃ ls', headF (x0 :: x1 :: x2' :: x3 :: (ls ++ [y0, y1])) m0 ls' /\ Sl 1 wv v' (ls'.map λ s => [.string (sb s)]) /\ ∀ c, inB v' c -> inB v c) /\ ∀ m ls', headF (x0 :: x1 :: x2' :: x3 :: (ls ++ [y0, y1])) m ls' -> ok = true /\ m0 = { m with fs:=[] }) /\ Fr (λ c => c = x2) w wv:=λ B hB => by
  refine ⟨⟨vm, B, ⟨Lib.trimPrefix x0 (STORE ++ [32]), (((fldO (wdF VERSION) x1).getD 0 : Nat) : Int), (((fldO (wdF NODE) x2').getD 0 : Nat) : Int), [], (((fldO (wdF TOTAL) y0).getD 0 : Nat) : Int), (((sumF (Lib.trimPrefix y1 WH6)).getD 0 : Nat) : Int)⟩, rfl, n8.b2, n8.w2, rfl, λ hBt => ?_, λ m ls' hh => ?_⟩, hfr⟩
  ·rw [hB] at hBt
   simp only [Bool.and_eq_true, decide_eq_true_eq] at hBt
   obtain ⟨hW, hcnt, ⟨⟨⟨⟨h0, h1⟩, h2⟩, h3⟩, h4⟩, h5⟩:=hBt
   subst h0; subst h1; subst h2; subst h3; subst h4; subst h5
   obtain ⟨st, hst⟩:=Option.isSome_iff_exists.1 hb0
   obtain ⟨v1, g1⟩:=Option.isSome_iff_exists.1 hb1
   obtain ⟨v2, g2⟩:=Option.isSome_iff_exists.1 hb2
   obtain ⟨v3, g3⟩:=Option.isSome_iff_exists.1 hb3
   obtain ⟨v4, g4⟩:=Option.isSome_iff_exists.1 hb4
   obtain ⟨v5, g5⟩:=Option.isSome_iff_exists.1 hb5
   rw [g3] at hcnt
   have hx0:=(nameF_some hst).1
   refine ⟨ls, ⟨x0, x1, x2', x3, y0, y1, v1, v2, v4, v5, rfl, ?_, ⟨g1, by rw [g1]; rfl⟩, ⟨g2, by rw [g2]; rfl⟩, by rw [g3, <- hcnt]; rfl, ⟨g4, by rw [g4]; rfl⟩, ?_, by rw [g5]; rfl⟩, m2', m3⟩
   ·rw [hst]
    show some st = some (Lib.trimPrefix x0 (STORE ++ [32]))
    rw [hx0, trim_of (List.prefix_append _ _), List.drop_left]
   ·unfold whoO
    rw [if_pos hW]
    rw [trim_of hW] at g5
    exact g5
  ·obtain ⟨a0, a1, a2, a3, c0, c1, v1, v2, v4, v5, hN', q0, ⟨q1, r1⟩, ⟨q2, r2⟩, q3, ⟨q4, r4⟩, q5, r5⟩:=hh
   simp only [List.cons.injEq] at hN'
   obtain ⟨rfl, rfl, rfl, rfl, hR⟩:=hN'
   obtain ⟨rfl, hT⟩:=List.append_inj' hR rfl
   simp only [List.cons.injEq, and_true] at hT
   obtain ⟨rfl, rfl⟩:=hT
   have hx0:=(nameF_some q0).1
   have hW : WH6 <+: y1 /\ sumF (Lib.trimPrefix y1 WH6) = some v5:=by
    unfold whoO at q5
    split at q5
    ·rename_i hp
     exact ⟨hp, by rw [trim_of hp]; exact q5⟩
    ·cases q5
   have hBt : B = true:=by
    rw [hB, <- hb0, <- hb1, <- hb2, <- hb3, <- hb4, <- hb5, q0, q1, q2, q3, q4, hW.2, decide_eq_true hW.1]
    simp
   refine ⟨hBt, ?_⟩
   rw [q1, q2, q4, hW.2]
   obtain ⟨mst, mv, mn, mf, mt, mw⟩:=m
   simp only at q0 r1 r2 r4 r5 hx0
   rw [r1, r2, r4, r5, hx0, trim_of (List.prefix_append _ _), List.drop_left]
   rfl
 by_cases hW : WH6 <+: y1
 case neg =>
  rw [decide_eq_false hW]
  simp only [Run_bind, Run_guardM_ft, pickV_bool, cond_false, Run_bindO_some, Run_ret]
  exact fin false (by rw [decide_eq_false hW, Bool.false_and])
 rw [decide_eq_true hW]
 simp only [Run_bind, Run_guardM_tt, Run_ret, binV_int, intBin_sub, wc, Run_optM_some, intBin_eql, pickV_bool, cond_true, Run_bindO_some]
 by_cases hcnt : (fldO (wdF FILES) x3).getD 0 = ls.length
 case neg =>
  have hci : ¬ (((fldO (wdF FILES) x3).getD 0 : Nat) : Int) = ((ls.length : Nat) : Int):=by omega
  rw [decide_eq_false hci]
  simp only [Run_bind, Run_guardM_ft, pickV_bool, cond_false, Run_bindO_some, Run_ret]
  exact fin false (by rw [decide_eq_false hcnt, Bool.false_and, Bool.and_false])
 have hci : (((fldO (wdF FILES) x3).getD 0 : Nat) : Int) = ((ls.length : Nat) : Int):=by omega
 have l6 : ldA 6 (.pointer (some ⟨x4, 0, none⟩)) wv = some (.agg #[.bool b0, .bool b1, .bool b2, .bool b3, .bool b4, .bool b5']):=by
  have h:=n8.b4
  rw [hb0, hb1, hb2, hb3, hb4, hb5] at h
  exact ldA_bk h (Nat.le_refl _)
 have bl : buildV #[(Value.bool false), (Value.bool false), (Value.bool false), (Value.bool false), (Value.bool false), (Value.bool false)] [(0, 1, (Value.bool true)), (1, 1, (Value.bool true)), (2, 1, (Value.bool true)), (3, 1, (Value.bool true)), (4, 1, (Value.bool true)), (5, 1, (Value.bool true))] = some (.agg #[.bool true, .bool true, .bool true, .bool true, .bool true, .bool true]):=rfl
 have eq6 : eqV (EqSh.offs [(EqK.bool, 0), (EqK.bool, 1), (EqK.bool, 2), (EqK.bool, 3), (EqK.bool, 4), (EqK.bool, 5)]) (.agg #[.bool b0, .bool b1, .bool b2, .bool b3, .bool b4, .bool b5']) (.agg #[.bool true, .bool true, .bool true, .bool true, .bool true, .bool true]) = some (.bool (b0 && b1 && b2 && b3 && b4 && b5')):=by
  cases b0 <;> cases b1 <;> cases b2 <;> cases b3 <;> cases b4 <;> cases b5' <;> rfl
 rw [decide_eq_true hci]
 simp only [Run_bind, Run_guardM_tt, Run_rdM]
 refine ⟨_, l6, ?_⟩
 rw [bl, Run_optM_some, eq6, Run_optM_some]
 simp only [pickV_bool, cond_true, Run_bindO_some, Run_ret]
 exact fin _ (by rw [decide_eq_true hW, decide_eq_true hcnt, Bool.true_and, Bool.true_and])
end
theorem jn_lns : ∀ {N : List (List UInt8)}, N ≠ [] -> jn 10 N ++ [10] = lnsL N
 | [], h => absurd rfl h
 | [x], _ => by simp [jn, lnsL]
 | x :: y :: r, _ => by
  have ih:=jn_lns (N:=y :: r) (by simp)
  rw [jn_cons 10 (by simp)]
  have e : lnsL (x :: y :: r) = x ++ [10] ++ lnsL (y :: r):=by simp [lnsL]
  rw [e, <- ih]
  simp
theorem rowF_no10 {t : List UInt8} {f : Fl} (h : rowF t f) : (10 : UInt8) ∉ t:=by
 obtain ⟨dz, ec, eh, h⟩:=h
 obtain ⟨z, hz, _⟩:=h.sz
 obtain ⟨c, hc, _⟩:=h.crc
 rw [h.txt]
 simp only [List.mem_append, not_or]
 exact ⟨by decide, h.nm10, by decide, num_no10 hz, by decide, (sum_no10 hc).1, by decide, pairs_no10 (by decide) (n:=16) (by have:=h.md.1; omega) h.md.2⟩
theorem maform_lines {s : List UInt8} {m : Mf} {sm : Nat} {ls : List (List UInt8)} {d1 d2 d3 d4 e1 e : List UInt8} (h : MaForm (s ++ [10]) m sm ls d1 d2 d3 d4 e1 e) :
  spl 10 s = MANI :: (STORE ++ [32] ++ m.st) :: (VERSION ++ [32] ++ d1) :: (NODE ++ [32] ++ d2) :: (FILES ++ [32] ++ d3) :: (ls ++ [TOTAL ++ [32] ++ d4, WHOLE ++ [32] ++ e1, SUM ++ e]):=by
 have hs : s = jn 10 (MANI :: (STORE ++ [32] ++ m.st) :: (VERSION ++ [32] ++ d1) :: (NODE ++ [32] ++ d2) :: (FILES ++ [32] ++ d3) :: (ls ++ [TOTAL ++ [32] ++ d4, WHOLE ++ [32] ++ e1, SUM ++ e])):=by
  have h1 : s ++ [10] = jn 10 (MANI :: (STORE ++ [32] ++ m.st) :: (VERSION ++ [32] ++ d1) :: (NODE ++ [32] ++ d2) :: (FILES ++ [32] ++ d3) :: (ls ++ [TOTAL ++ [32] ++ d4, WHOLE ++ [32] ++ e1, SUM ++ e])) ++ [10]:=by
   rw [jn_lns (by simp), h.txt]
   have e2 : lnsL (MANI :: (STORE ++ [32] ++ m.st) :: (VERSION ++ [32] ++ d1) :: (NODE ++ [32] ++ d2) :: (FILES ++ [32] ++ d3) :: (ls ++ [TOTAL ++ [32] ++ d4, WHOLE ++ [32] ++ e1, SUM ++ e])) = MANI ++ [10] ++ (STORE ++ [32] ++ m.st ++ [10]) ++ (VERSION ++ [32] ++ d1 ++ [10]) ++ (NODE ++ [32] ++ d2 ++ [10]) ++ (FILES ++ [32] ++ d3 ++ [10]) ++ lnsL ls ++ (TOTAL ++ [32] ++ d4 ++ [10]) ++ (WHOLE ++ [32] ++ e1 ++ [10]) ++ (SUM ++ e ++ [10]):=by
    simp [lnsL]
   rw [e2]
   simp [N0, N1, N2, N3, Z0, Z1, MANI, STORE, VERSION, NODE, FILES, TOTAL, WHOLE]
  exact List.append_cancel_right h1
 obtain ⟨_, g1, _⟩:=h.ver
 obtain ⟨_, g2, _⟩:=h.node
 obtain ⟨_, g4, _⟩:=h.tot
 obtain ⟨_, g5, _⟩:=h.who
 have k1:=num_no10 g1
 have k2:=num_no10 g2
 have k3:=num_no10 h.cnt
 have k4:=num_no10 g4
 have k5:=(sum_no10 g5).1
 have k6:=(sum_no10 h.sum).1
 have ks:=h.st10
 rw [hs]
 refine spl_of 10 (by simp) λ x hx => ?_
 simp only [List.mem_cons, List.mem_append, List.not_mem_nil, or_false] at hx
 rcases hx with rfl | rfl | rfl | rfl | rfl | hx | rfl | rfl | rfl
 ·decide
 ·simp only [List.mem_append, not_or]; exact ⟨⟨by decide, by decide⟩, ks⟩
 ·simp only [List.mem_append, not_or]; exact ⟨⟨by decide, by decide⟩, k1⟩
 ·simp only [List.mem_append, not_or]; exact ⟨⟨by decide, by decide⟩, k2⟩
 ·simp only [List.mem_append, not_or]; exact ⟨⟨by decide, by decide⟩, k3⟩
 ·obtain ⟨i, hi⟩:=List.getElem?_of_mem hx
  have hil : i < m.fs.length:=by rw [<- h.len]; exact (List.getElem?_eq_some_iff.1 hi).1
  exact rowF_no10 (h.rows i x _ hi (List.getElem?_eq_getElem hil))
 ·simp only [List.mem_append, not_or]; exact ⟨⟨by decide, by decide⟩, k4⟩
 ·simp only [List.mem_append, not_or]; exact ⟨⟨by decide, by decide⟩, k5⟩
 ·simp only [List.mem_append, not_or]; exact ⟨by decide, k6⟩
theorem fldO_word {word d : List UInt8} : fldO (wdF word) (word ++ [32] ++ d) = numF d:=fldO_of (f:=wdF word)
theorem maform_yes {s : List UInt8} {m : Mf} {sm : Nat} {ls : List (List UInt8)} {d1 d2 d3 d4 e1 e : List UInt8} (h : MaForm (s ++ [10]) m sm ls d1 d2 d3 d4 e1 e) : okF s MANI = true /\ headF (midL s) m ls /\ sumF ((lastL s).drop 4) = some sm:=by
 have hN:=maform_lines h
 have hm : midL s = (STORE ++ [32] ++ m.st) :: (VERSION ++ [32] ++ d1) :: (NODE ++ [32] ++ d2) :: (FILES ++ [32] ++ d3) :: (ls ++ [TOTAL ++ [32] ++ d4, WHOLE ++ [32] ++ e1]):=by
  unfold midL
  rw [hN]
  have e2 : MANI :: (STORE ++ [32] ++ m.st) :: (VERSION ++ [32] ++ d1) :: (NODE ++ [32] ++ d2) :: (FILES ++ [32] ++ d3) :: (ls ++ [TOTAL ++ [32] ++ d4, WHOLE ++ [32] ++ e1, SUM ++ e]) = (MANI :: (STORE ++ [32] ++ m.st) :: (VERSION ++ [32] ++ d1) :: (NODE ++ [32] ++ d2) :: (FILES ++ [32] ++ d3) :: (ls ++ [TOTAL ++ [32] ++ d4, WHOLE ++ [32] ++ e1])) ++ [SUM ++ e]:=by simp
  rw [e2, List.length_append, List.length_singleton, Nat.add_sub_cancel, List.take_left]
  rfl
 have hl : lastL s = SUM ++ e:=by
  unfold lastL
  rw [hN]
  have e2 : MANI :: (STORE ++ [32] ++ m.st) :: (VERSION ++ [32] ++ d1) :: (NODE ++ [32] ++ d2) :: (FILES ++ [32] ++ d3) :: (ls ++ [TOTAL ++ [32] ++ d4, WHOLE ++ [32] ++ e1, SUM ++ e]) = (MANI :: (STORE ++ [32] ++ m.st) :: (VERSION ++ [32] ++ d1) :: (NODE ++ [32] ++ d2) :: (FILES ++ [32] ++ d3) :: (ls ++ [TOTAL ++ [32] ++ d4, WHOLE ++ [32] ++ e1])) ++ [SUM ++ e]:=by simp
  rw [e2, List.getLast?_append]
  rfl
 have hd4 : (SUM ++ e).drop 4 = e:=List.drop_left (l₁:=SUM)
 obtain ⟨v1, g1, r1⟩:=h.ver
 obtain ⟨v2, g2, r2⟩:=h.node
 obtain ⟨v4, g4, r4⟩:=h.tot
 obtain ⟨v5, g5, r5⟩:=h.who
 refine ⟨?_, ?_, by rw [hl, hd4]; exact h.sum⟩
 ·unfold okF
  have e1' : ((spl 10 s).getLast?).getD [] = SUM ++ e:=hl
  rw [e1', hd4, h.sum, hN, decide_eq_true (List.prefix_append SUM e)]
  simp
 ·rw [hm]
  refine ⟨_, _, _, _, _, _, v1, v2, v4, v5, rfl, nameF_of h.st0 h.st32, ⟨by rw [fldO_word]; exact g1, r1⟩, ⟨by rw [fldO_word]; exact g2, r2⟩, by rw [fldO_word, h.cnt, h.len], ⟨by rw [fldO_word]; exact g4, r4⟩, ?_, r5⟩
  unfold whoO
  have hw : WHOLE ++ [32] ++ e1 = WH6 ++ e1:=rfl
  rw [hw, if_pos (List.prefix_append _ _)]
  exact g5
theorem maform_no {s : List UInt8} {m : Mf} {ls : List (List UInt8)} (hok : okF s MANI = true) (hh : headF (midL s) m ls) {fs : List Fl} (hlen : ls.length = fs.length) (hrows : ∀ (i : Nat) (t : List UInt8) (f : Fl), ls[i]? = some t -> fs[i]? = some f -> rowF t f) : ∃ sm, maform (s ++ [10]) { m with fs:=fs } sm:=by
 obtain ⟨x0, x1, x2, x3, y0, y1, v1, v2, v4, v5, hmid, q0, ⟨q1, r1⟩, ⟨q2, r2⟩, q3, ⟨q4, r4⟩, q5, r5⟩:=hh
 obtain ⟨hjn, hno⟩:=spl_jn 10 s
 have hne:=spl_ne 10 s
 unfold okF at hok
 unfold midL at hmid
 generalize spl 10 s = N at *
 simp only [Bool.and_eq_true, decide_eq_true_eq] at hok
 obtain ⟨⟨hp, hsm⟩, hhd⟩:=hok
 obtain ⟨a, R, rfl⟩:=List.exists_cons_of_ne_nil hne
 simp only [List.head?_cons, Option.some.injEq] at hhd
 subst hhd
 rcases List.eq_nil_or_concat R with rfl | ⟨M, z, rfl⟩
 ·simp at hmid
 rw [List.concat_eq_append] at *
 have hgl : ((MANI :: (M ++ [z])).getLast?).getD [] = z:=by
  rw [show MANI :: (M ++ [z]) = (MANI :: M) ++ [z] from rfl, List.getLast?_append]
  rfl
 rw [hgl] at hp hsm
 have hM : M = x0 :: x1 :: x2 :: x3 :: (ls ++ [y0, y1]):=by
  have e2 : ((MANI :: (M ++ [z])).take ((MANI :: (M ++ [z])).length - 1)).drop 1 = M:=by
   rw [show MANI :: (M ++ [z]) = (MANI :: M) ++ [z] from rfl, List.length_append, List.length_singleton, Nat.add_sub_cancel, List.take_left]
   rfl
  rw [<- e2]
  exact hmid
 obtain ⟨e, rfl⟩:=hp
 have hd4 : (SUM ++ e).drop 4 = e:=List.drop_left (l₁:=SUM)
 rw [hd4] at hsm
 obtain ⟨sm, hsm⟩:=Option.isSome_iff_exists.1 hsm
 obtain ⟨rfl, st0, st32⟩:=nameF_some q0
 obtain ⟨d1, w1, rfl, g1⟩:=fldO_some (by rw [q1]; rfl)
 obtain ⟨d2, w2, rfl, g2⟩:=fldO_some (by rw [q2]; rfl)
 obtain ⟨d3, w3, rfl, g3⟩:=fldO_some (by rw [q3]; rfl)
 obtain ⟨d4, w4, rfl, g4⟩:=fldO_some (by rw [q4]; rfl)
 have f1 : fldO (wdF VERSION) ((wdF VERSION).word ++ [32] ++ d1) = numF d1:=fldO_word
 have f2 : fldO (wdF NODE) ((wdF NODE).word ++ [32] ++ d2) = numF d2:=fldO_word
 have f3 : fldO (wdF FILES) ((wdF FILES).word ++ [32] ++ d3) = numF d3:=fldO_word
 have f4 : fldO (wdF TOTAL) ((wdF TOTAL).word ++ [32] ++ d4) = numF d4:=fldO_word
 rw [f1] at q1
 rw [f2] at q2
 rw [f3] at q3
 rw [f4] at q4
 obtain ⟨e1, rfl, g5⟩ : ∃ e1, y1 = WH6 ++ e1 /\ sumF e1 = some v5:=by
  unfold whoO at q5
  split at q5
  ·rename_i hp
   obtain ⟨t, rfl⟩:=hp
   refine ⟨t, rfl, ?_⟩
   have : (WH6 ++ t).drop 6 = t:=List.drop_left (l₁:=WH6)
   rwa [this] at q5
  ·cases q5
 have st10 : (10 : UInt8) ∉ m.st:=λ hc => hno (STORE ++ [32] ++ m.st) (by rw [hM]; simp) (by simp [hc])
 refine ⟨sm, ls, d1, d2, d3, d4, e1, e, ?_, st0, st32, st10, ⟨v1, q1, r1⟩, ⟨v2, q2, r2⟩, by rw [q3, hlen], ⟨v4, q4, r4⟩, ⟨v5, g5, r5⟩, hsm, hlen, hrows⟩
 rw [<- hjn, jn_lns (by simp), hM]
 have e2 : lnsL (MANI :: ((STORE ++ [32] ++ m.st) :: ((wdF VERSION).word ++ [32] ++ d1) :: ((wdF NODE).word ++ [32] ++ d2) :: ((wdF FILES).word ++ [32] ++ d3) :: (ls ++ [(wdF TOTAL).word ++ [32] ++ d4, WH6 ++ e1]) ++ [SUM ++ e])) = MANI ++ [10] ++ (STORE ++ [32] ++ m.st ++ [10]) ++ (VERSION ++ [32] ++ d1 ++ [10]) ++ (NODE ++ [32] ++ d2 ++ [10]) ++ (FILES ++ [32] ++ d3 ++ [10]) ++ lnsL ls ++ (TOTAL ++ [32] ++ d4 ++ [10]) ++ (WH6 ++ e1 ++ [10]) ++ (SUM ++ e ++ [10]):=by
  simp [lnsL, wdF]
 rw [e2]
 simp [N0, N1, N2, N3, Z0, Z1, MANI, STORE, VERSION, NODE, FILES, TOTAL, WH6]
theorem headF_ls {N : List (List UInt8)} {m m' : Mf} {ls ls' : List (List UInt8)} (h : headF N m ls) (h' : headF N m' ls') : ls = ls':=by
 obtain ⟨a0, a1, a2, a3, c0, c1, v1, v2, v4, v5, hN, _⟩:=h
 obtain ⟨b0, b1, b2, b3, e0, e1, u1, u2, u4, u5, hN', _⟩:=h'
 rw [hN] at hN'
 simp only [List.cons.injEq] at hN'
 exact (List.append_inj' hN'.2.2.2.2 rfl).1
section
variable {w w1 w2 : World}
theorem manparse_yes (ht : Tb w) {t : List UInt8} {m : Mf} {sm : Nat} (hl : t.length <= 4294960000) (hf : maform t m sm) : Run (F.paper_ParseManifest (.string (sb t))) w λ r w' => ParM w w' (resM t m sm) (codeM t m sm) r:=by
 have hfit:=maform_fit hf hl
 obtain ⟨ls, d1, d2, d3, d4, e1, e, hf⟩:=hf
 have hsuf : [10] <:+ t:=by
  rw [hf.txt]
  simp only [<- List.append_assoc]
  exact List.suffix_append _ _
 unfold F.paper_ParseManifest
 have eL : ByteArray.mk #[103, 114, 97, 110, 97, 114, 121, 32, 109, 97, 110, 105, 102, 101, 115, 116, 32, 49] = sb MANI:=rfl
 have z0 : buildV #[(Value.string ByteArray.empty), (Value.int IntKind.i64 0), (Value.int IntKind.i64 0), (Value.slice none 0 0), (Value.int IntKind.i64 0), (Value.int IntKind.i64 0)] [] = some (.agg (mval zMf nilS).toArray):=rfl
 have hnv : ∀ b, notV (.bool b) = some (.bool !b):=λ _ => rfl
 have y0 : ∀ v x z, extV 0 (.tuple #[v, x, z]) = some v:=λ _ _ _ => rfl
 have y1 : ∀ v x z, extV 1 (.tuple #[v, x, z]) = some x:=λ _ _ _ => rfl
 have y2 : ∀ v x z, extV 2 (.tuple #[v, x, z]) = some z:=λ _ _ _ => rfl
 have p0 : ∀ v x, extV 0 (.tuple #[v, x]) = some v:=λ _ _ => rfl
 have p1 : ∀ v x, extV 1 (.tuple #[v, x]) = some x:=λ _ _ => rfl
 rw [z0, Run_bind]
 refine Run_new λ x1 wa hx1 hw1 fa hx1le => ?_
 replace hx1 : bk wa x1 = some (mval zMf nilS):=hx1
 rw [Run_bind]
 refine Run_new λ x2 wb hx2 hw2 fb hx2le => ?_
 replace hx2 : bk wb x2 = some (mval zMf nilS):=hx2
 have fab:=fa.trans fb λ _ _ => id
 have tb:=ht.fr0 fab
 have l1:=bk_lt hx1
 have l2:=bk_lt hx2
 have sa:=fa.size
 have sab:=fb.size
 have hx1b:=fb.bk_some hx1 id
 have hw1b : wr wb x1 = true:=by rw [fb.wr l1 id]; exact hw1
 rw [eL, Run_bind]
 have bad : ∀ (c : Int) {u : World}, Fr (λ c => c = x2) wb u -> Run (bindO (some (Value.agg (mval zMf nilS).toArray)) λ x8 =>
  M.bind (stM 6 (.pointer (some ⟨x1, 0, none⟩)) x8) λ _ =>
  M.bind (rdM (ldA 6 (.pointer (some ⟨x1, 0, none⟩)))) λ x10 =>
  M.ret (Value.tuple #[x10, .int .i64 c])) u λ r w' => ParM w w' zMf c r:=λ c {u} f => by
  have hne : ¬ x1 = x2:=by omega
  rw [Run_bindO_some]
  simp only [Run_bind]
  refine finN_run (f.bk_some hx1b hne) (by rw [f.wr (bk_lt hx1b) hne]; exact hw1b) (mval zMf nilS).toArray rfl rfl (mval_cell _ rfl) λ w3 f3 => ?_
  rw [Run_ret]
  exact ⟨nilS, rfl, SlW.nil _ _, λ _ h => h.elim, fab.new ((f.mono λ c hc => (show c = x1 ∨ c = x2 from .inr hc)).trans f3 λ _ _ h => .inl h) λ c hc => by rcases hc with h | h <;> omega⟩
 obtain ⟨s, rfl⟩:=hsuf
 have hsl : s.length <= 4294960000:=by rw [List.length_append] at hl; omega
 refine (open_yes tb (s:=s) (title:=MANI) (by decide) hsl).mono ?_
 rintro _ wc ⟨⟨v, right, rfl, hv⟩, fc⟩
 rw [y0, Run_bindO_some, y1, Run_bindO_some, y2, Run_bindO_some, hnv, Run_bindO_some]
 have hx2c:=fc.bk_some hx2 id
 have hw2c : wr wc x2 = true:=by rw [fc.wr l2 id]; exact hw2
 have sc:=fc.size
 obtain ⟨hok, hhead, hsm⟩:=maform_yes hf
 rw [hok]
 obtain ⟨hright, hvs, hvn⟩:=hv hok
 have hvs' : Sl 1 wc v ((midL s).map λ x => [.string (sb x)]):=hvs
 have hml : ∀ x ∈ midL s, x.length <= s.length /\ (10 : UInt8) ∉ x:=λ x hx => by
  have hm:=List.mem_of_mem_take (List.mem_of_mem_drop hx)
  have : ∀ (N : List (List UInt8)), x ∈ N -> x.length <= (jn 10 N).length:=λ N => by
   induction N with
   | nil => intro h; cases h
   | cons y r ih =>
    intro h
    by_cases hr : r = []
    ·subst hr; simp at h; subst h; simp [jn]
    ·rw [jn_cons 10 hr, List.length_append, List.length_append]
     rcases List.mem_cons.1 h with rfl | h
     ·omega
     ·have:=ih h; omega
  have:=this _ hm
  rw [(spl_jn 10 s).1] at this
  exact ⟨by omega, (spl_jn 10 s).2 x hm⟩
 have hmN : (midL s).length <= s.length + 1:=by
  have h1:=jn_count 10 _ (spl_ne 10 s) (spl_jn 10 s).2
  have h2 : (jn 10 (spl 10 s)).count 10 <= (jn 10 (spl 10 s)).length:=List.count_le_length
  rw [(spl_jn 10 s).1] at h1 h2
  unfold midL
  rw [List.length_drop, List.length_take]
  omega
 rw [Bool.not_true, Run_condM_false, Run_bind]
 refine (head_run hvs' hx2c hw2c (λ h => by have:=(hvn _ h).1; omega) (by omega) (λ x hx => by have:=(hml x hx).1; omega) (λ c hc => (hvn c hc).2)).mono ?_
 rintro _ wd ⟨⟨v', ok, m0, rfl, hb2, hbw2, hfs0, hyes, hno⟩, fd⟩
 have sd:=fd.size
 have fbd : Fr (λ c => c = x2) wb wd:=(fc.mono λ _ h => h.elim).trans fd λ _ _ h => h
 rw [p0, Run_bindO_some, p1, Run_bindO_some, Run_bind]
 obtain ⟨rfl, hm0⟩:=hno m ls hhead
 obtain ⟨ls', hh', hsl', hin'⟩:=hyes rfl
 obtain rfl:=headF_ls hhead hh'
 have hlsl : ls.length <= (midL s).length:=by
  obtain ⟨x0, x1, x2, x3, y0, y1, v1, v2, v4, v5, hN, _⟩:=hhead
  rw [hN]; simp; omega
 have hlsm : ∀ x ∈ ls, x ∈ midL s:=λ x hx => by
  obtain ⟨x0, x1, x2, x3, y0, y1, v1, v2, v4, v5, hN, _⟩:=hhead
  rw [hN]; simp [hx]
 have hlv:=hsl'.lenL
 rw [List.length_map] at hlv
 have hll:=hf.len
 refine Run_for ls.length (λ i L w' => L = [.bool true, .int .i64 (i : Int)] /\ ∃ u, bk w' x2 = some (mval { m with fs:=[] } u) /\ wr w' x2 = true /\ OwnR wd w' u (m.fs.take i) /\ Fr (λ c => c = x2) wd w') ⟨rfl, nilS, by rw [<- hm0]; exact hb2, hbw2, OwnR.nil _ _, Fr.refl _ _⟩ ?_ ?_
 ·rintro i L we hi ⟨rfl, u, hbe, hwe, hO, fe⟩
  obtain ⟨f, hfi⟩ : ∃ f, m.fs[i]? = some f:=⟨_, List.getElem?_eq_getElem (by omega)⟩
  obtain ⟨tl, hti⟩ : ∃ tl, ls[i]? = some tl:=⟨_, List.getElem?_eq_getElem hi⟩
  have htm:=hml tl (hlsm tl (List.mem_of_getElem? hti))
  have hint : (i : Int) < (ls.length : Nat):=by omega
  simp only [getL_zero, getL_succ, Run_bind, Run_guardM_tt, Run_ret, hlv, Run_optM_some]
  rw [lssT hint, Run_optM_some]
  simp only [pickV_bool, cond_true, Run_bindO_some, Run_condM_true, Run_bind]
  refine Run_new λ y wf hy hyw ff hyle => ?_
  have sl' : Sl 1 wf v' (ls.map λ x => [.string (sb x)]):=(hsl'.fr fe λ c hc he => by have:=(hvn c (hin' c hc)).1; omega).fr0 ff
  obtain ⟨q, q1, q2⟩:=sl'.rd1 (i:=i) (y:=.string (sb tl)) (by simp [hti]) .i64
  have q1' : idxA 1 v' (.int .i64 (i : Int)) = some q:=q1
  rw [q1', Run_bindO_some]
  simp only [Run_bind, Run_rdM]
  refine ⟨_, q2, ?_⟩
  have tf : Tb wf:=((tb.fr fbd λ c hc he => by have:=tb_low ht; omega).fr fe λ c hc he => by have:=tb_low ht; omega).fr0 ff
  refine (row_run tf (s:=tl) (by omega) htm.2).mono ?_
  rintro _ wg ⟨⟨f', b, rfl, hb, hu⟩, fg⟩
  obtain ⟨rfl, rfl⟩:=hu f (hf.rows i tl f hti hfi)
  rw [p0, Run_bindO_some, p1, Run_bindO_some]
  have sff:=ff.size
  have sfe:=fe.size
  have sfg:=fg.size
  have ffg:=ff.trans fg λ _ _ => id
  have hbf : bk wg x2 = _:=ffg.bk_some hbe id
  have hwf : wr wg x2 = true:=by rw [ffg.wr (bk_lt hbe) id]; exact hwe
  have hyg:=fg.bk_some hy id
  have hywg : wr wg y = true:=by rw [fg.wr (bk_lt hy) id]; exact hyw
  have hOf:=hO.frm ffg λ _ h => h.elim
  refine push_run hbf hwf (v:=u) rfl rfl (by omega) (by omega) hyg hywg rfl (by omega) (λ h => by have:=(hO.fresh _ h).2; omega) hOf (by rw [List.length_take]; omega) f' λ w' r hb6 hw6 hrc hOr fr => ?_
  rw [binV_int, intBin_add, wrap_succ' (by omega), Run_bindO_some, Run_ret]
  refine ⟨rfl, r, hb6, hw6, ?_, (fe.trans ffg λ _ _ h => h.elim).trans fr λ c hc h => h.elim id λ h => by omega⟩
  rw [take_snocP hfi]
  exact hOr
 ·rintro L we ⟨rfl, u, hbe, hwe, hO, fe⟩
  have hint : ¬ ((ls.length : Nat) : Int) < (ls.length : Nat):=by omega
  rw [hll, List.take_length] at hO
  simp only [getL_zero, getL_succ, Run_bind, Run_guardM_tt, Run_ret, hlv, Run_optM_some]
  rw [lssF hint, Run_optM_some]
  simp only [pickV_bool, cond_true, Run_bindO_some, Run_condM_false, Run_ret, outK_exit, getL_zero, hnv, Bool.not_true]
  rw [show Nat.beq 0 0 = true from rfl, cond_true, Run_bindO_some, Run_condM_false, Run_bindO_some]
  have fbe : Fr (λ c => c = x2) wb we:=fbd.trans fe λ _ _ h => h
  have sfe:=fe.size
  have hsm' : sumF ((((spl 10 s).getLast?).getD []).drop 4) = some sm:=hsm
  have hr2 : right = decide (sm = crcF (sb ((s ++ [10]).take ((s ++ [10]).length - 13)))):=by
   rw [hright]
   refine decide_eq_decide.2 ?_
   rw [hsm']
   simp
  rw [hr2]
  by_cases hcrc : sm = crcF (sb ((s ++ [10]).take ((s ++ [10]).length - 13)))
  case neg =>
   rw [decide_eq_false hcrc, Bool.not_false, Run_condM_true]
   have hc : codeM (s ++ [10]) m sm = 41:=by unfold codeM; rw [if_neg hcrc]
   have hres : resM (s ++ [10]) m sm = zMf:=by unfold resM; rw [hc, if_neg (by decide)]
   rw [hc, hres]
   exact bad 41 fbe
  have hc : codeM (s ++ [10]) m sm = holdsF m:=by unfold codeM; rw [if_pos hcrc]
  have hbm : bk we x2 = some (mval m u):=hbe
  have l6 : ∀ {z : World}, Fr (λ _ => False) we z -> ldA 6 (.pointer (some ⟨x2, 0, none⟩)) z = some (.agg (mval m u).toArray):=λ f => ldA_bk (f.bk_some hbm id) (Nat.le_refl _)
  rw [decide_eq_true hcrc, Bool.not_true, Run_condM_false, Run_bind, Run_rdM]
  refine ⟨_, l6 (Fr.refl _ _), ?_⟩
  rw [Run_bind]
  refine (holds_run hO.sl.1 hfit).mono ?_
  rintro _ wf ⟨rfl, ff⟩
  have fbf : Fr (λ c => c = x2) wb wf:=fbe.trans ff λ _ _ h => h.elim
  rw [binV_int, intBin_neq, Run_bindO_some]
  by_cases hk : holdsF m = 0
  ·have hres : resM (s ++ [10]) m sm = m:=by unfold resM; rw [hc, if_pos hk]
   have hn : (!decide (holdsF m = 0)) = false:=by rw [decide_eq_true hk]; rfl
   rw [hn, Run_condM_false, Run_bind, Run_rdM]
   refine ⟨_, l6 ff, ?_⟩
   simp only [Run_bind]
   have hne : ¬ x1 = x2:=by omega
   refine finN_run (fbf.bk_some hx1b hne) (by rw [fbf.wr (bk_lt hx1b) hne]; exact hw1b) (mval m u).toArray rfl rfl (mval_cell _ hO.sl.1.isCell) λ w3 f3 => ?_
   rw [Run_ret, hc, hres, hk]
   have hO3:=(hO.frm ff λ _ h => h.elim).frm f3 λ c hc => by omega
   exact ⟨u, rfl, hO3.sl, λ c hc => ⟨by have:=(hO3.fresh c hc).1; omega, (hO3.fresh c hc).2⟩, fab.new ((fbf.mono λ c hc => (show c = x1 ∨ c = x2 from .inr hc)).trans f3 λ _ _ h => .inl h) λ c hc => by rcases hc with h | h <;> omega⟩
  ·have hres : resM (s ++ [10]) m sm = zMf:=by unfold resM; rw [hc, if_neg hk]
   have hn : (!decide (holdsF m = 0)) = true:=by rw [decide_eq_false hk]; rfl
   rw [hn, Run_condM_true, hc, hres]
   exact bad _ fbf
theorem manparse_no (ht : Tb w) {t : List UInt8} (hl : t.length <= 4294960000) (hf : ∀ m sm, ¬ maform t m sm) : Run (F.paper_ParseManifest (.string (sb t))) w λ r w' => ParM w w' zMf 40 r:=by
 unfold F.paper_ParseManifest
 have eL : ByteArray.mk #[103, 114, 97, 110, 97, 114, 121, 32, 109, 97, 110, 105, 102, 101, 115, 116, 32, 49] = sb MANI:=rfl
 have z0 : buildV #[(Value.string ByteArray.empty), (Value.int IntKind.i64 0), (Value.int IntKind.i64 0), (Value.slice none 0 0), (Value.int IntKind.i64 0), (Value.int IntKind.i64 0)] [] = some (.agg (mval zMf nilS).toArray):=rfl
 have hnv : ∀ b, notV (.bool b) = some (.bool !b):=λ _ => rfl
 have y0 : ∀ v x z, extV 0 (.tuple #[v, x, z]) = some v:=λ _ _ _ => rfl
 have y1 : ∀ v x z, extV 1 (.tuple #[v, x, z]) = some x:=λ _ _ _ => rfl
 have y2 : ∀ v x z, extV 2 (.tuple #[v, x, z]) = some z:=λ _ _ _ => rfl
 have p0 : ∀ v x, extV 0 (.tuple #[v, x]) = some v:=λ _ _ => rfl
 have p1 : ∀ v x, extV 1 (.tuple #[v, x]) = some x:=λ _ _ => rfl
 rw [z0, Run_bind]
 refine Run_new λ x1 wa hx1 hw1 fa hx1le => ?_
 replace hx1 : bk wa x1 = some (mval zMf nilS):=hx1
 rw [Run_bind]
 refine Run_new λ x2 wb hx2 hw2 fb hx2le => ?_
 replace hx2 : bk wb x2 = some (mval zMf nilS):=hx2
 have fab:=fa.trans fb λ _ _ => id
 have tb:=ht.fr0 fab
 have l1:=bk_lt hx1
 have l2:=bk_lt hx2
 have sa:=fa.size
 have sab:=fb.size
 have hx1b:=fb.bk_some hx1 id
 have hw1b : wr wb x1 = true:=by rw [fb.wr l1 id]; exact hw1
 rw [eL, Run_bind]
 have bad : ∀ (c : Int) {u : World}, Fr (λ c => c = x2) wb u -> Run (bindO (some (Value.agg (mval zMf nilS).toArray)) λ x8 =>
  M.bind (stM 6 (.pointer (some ⟨x1, 0, none⟩)) x8) λ _ =>
  M.bind (rdM (ldA 6 (.pointer (some ⟨x1, 0, none⟩)))) λ x10 =>
  M.ret (Value.tuple #[x10, .int .i64 c])) u λ r w' => ParM w w' zMf c r:=λ c {u} f => by
  have hne : ¬ x1 = x2:=by omega
  rw [Run_bindO_some]
  simp only [Run_bind]
  refine finN_run (f.bk_some hx1b hne) (by rw [f.wr (bk_lt hx1b) hne]; exact hw1b) (mval zMf nilS).toArray rfl rfl (mval_cell _ rfl) λ w3 f3 => ?_
  rw [Run_ret]
  exact ⟨nilS, rfl, SlW.nil _ _, λ _ h => h.elim, fab.new ((f.mono λ c hc => (show c = x1 ∨ c = x2 from .inr hc)).trans f3 λ _ _ h => .inl h) λ c hc => by rcases hc with h | h <;> omega⟩
 by_cases hsuf : [10] <:+ t
 case neg =>
  refine (open_no hsuf hl).mono ?_
  rintro _ wz ⟨rfl, hwz⟩
  rw [hwz, y0, Run_bindO_some, y1, Run_bindO_some, y2, Run_bindO_some, hnv, Run_bindO_some, Bool.not_false, Run_condM_true]
  exact bad 40 (Fr.refl _ _)
 obtain ⟨s, rfl⟩:=hsuf
 have hsl : s.length <= 4294960000:=by rw [List.length_append] at hl; omega
 refine (open_yes tb (s:=s) (title:=MANI) (by decide) hsl).mono ?_
 rintro _ wc ⟨⟨v, right, rfl, hv⟩, fc⟩
 rw [y0, Run_bindO_some, y1, Run_bindO_some, y2, Run_bindO_some, hnv, Run_bindO_some]
 have hx2c:=fc.bk_some hx2 id
 have hw2c : wr wc x2 = true:=by rw [fc.wr l2 id]; exact hw2
 have sc:=fc.size
 cases hok : okF s MANI with
 | false =>
  rw [Bool.not_false, Run_condM_true]
  exact bad 40 (fc.mono λ _ h => h.elim)
 | true =>
 obtain ⟨hright, hvs, hvn⟩:=hv hok
 have hvs' : Sl 1 wc v ((midL s).map λ x => [.string (sb x)]):=hvs
 have hml : ∀ x ∈ midL s, x.length <= s.length /\ (10 : UInt8) ∉ x:=λ x hx => by
  have hm:=List.mem_of_mem_take (List.mem_of_mem_drop hx)
  have : ∀ (N : List (List UInt8)), x ∈ N -> x.length <= (jn 10 N).length:=λ N => by
   induction N with
   | nil => intro h; cases h
   | cons y r ih =>
    intro h
    by_cases hr : r = []
    ·subst hr; simp at h; subst h; simp [jn]
    ·rw [jn_cons 10 hr, List.length_append, List.length_append]
     rcases List.mem_cons.1 h with rfl | h
     ·omega
     ·have:=ih h; omega
  have:=this _ hm
  rw [(spl_jn 10 s).1] at this
  exact ⟨by omega, (spl_jn 10 s).2 x hm⟩
 have hmN : (midL s).length <= s.length + 1:=by
  have h1:=jn_count 10 _ (spl_ne 10 s) (spl_jn 10 s).2
  have h2 : (jn 10 (spl 10 s)).count 10 <= (jn 10 (spl 10 s)).length:=List.count_le_length
  rw [(spl_jn 10 s).1] at h1 h2
  unfold midL
  rw [List.length_drop, List.length_take]
  omega
 rw [Bool.not_true, Run_condM_false, Run_bind]
 refine (head_run hvs' hx2c hw2c (λ h => by have:=(hvn _ h).1; omega) (by omega) (λ x hx => by have:=(hml x hx).1; omega) (λ c hc => (hvn c hc).2)).mono ?_
 rintro _ wd ⟨⟨v', ok, m0, rfl, hb2, hbw2, hfs0, hyes, hno⟩, fd⟩
 have sd:=fd.size
 have fbd : Fr (λ c => c = x2) wb wd:=(fc.mono λ _ h => h.elim).trans fd λ _ _ h => h
 rw [p0, Run_bindO_some, p1, Run_bindO_some, Run_bind]
 cases ok with
 | false =>
  refine Run_for 0 (λ i L w' => L = [.bool false, .int .i64 0] /\ w' = wd) ⟨rfl, rfl⟩ (λ i L w' hi => absurd hi (Nat.not_lt_zero i)) ?_
  rintro L we ⟨rfl, rfl⟩
  simp only [getL_zero, getL_succ, Run_bind, Run_guardM_ft, pickV_bool, cond_false, Run_bindO_some, Run_condM_false, Run_ret, outK_exit, hnv, Bool.not_false, Run_condM_true]
  rw [show Nat.beq 0 0 = true from rfl, cond_true, Run_bindO_some, Run_condM_true]
  exact bad 40 fbd
 | true =>
 obtain ⟨ls, hhead, hsl', hin'⟩:=hyes rfl
 have hlsl : ls.length <= (midL s).length:=by
  obtain ⟨x0, x1, x2, x3, y0, y1, v1, v2, v4, v5, hN, _⟩:=hhead
  rw [hN]; simp; omega
 have hlsm : ∀ x ∈ ls, x ∈ midL s:=λ x hx => by
  obtain ⟨x0, x1, x2, x3, y0, y1, v1, v2, v4, v5, hN, _⟩:=hhead
  rw [hN]; simp [hx]
 have hlv:=hsl'.lenL
 rw [List.length_map] at hlv
 have hm0 : mval m0 nilS = mval { m0 with fs:=[] } nilS:=rfl
 rw [hm0] at hb2
 refine Run_loopM (λ L w' => ∃ (i : Nat) (ok : Bool) (u : Value) (fs : List Fl), L = [.bool ok, .int .i64 (i : Int)] /\ bk w' x2 = some (mval { m0 with fs:=[] } u) /\ wr w' x2 = true /\ OwnR wd w' u fs /\ fs.length = i /\ i <= ls.length /\ Fr (λ c => c = x2) wd w' /\
   (ok = true -> ∀ (i : Nat) (t : List UInt8) (f : Fl), ls[i]? = some t -> fs[i]? = some f -> rowF t f)) (λ L _ => ls.length - (match getL L 1 with | .int _ z => z.toNat | _ => 0)) ?_ ⟨0, true, nilS, [], rfl, hb2, hbw2, OwnR.nil _ _, rfl, Nat.zero_le _, Fr.refl _ _, λ _ i t f _ h => by simp at h⟩
 rintro L we ⟨i, ok, u, fs, rfl, hbe, hwe, hO, hfi, hil, fe, hk⟩
 have fbe : Fr (λ c => c = x2) wb we:=fbd.trans fe λ _ _ h => h
 have sfe:=fe.size
 cases ok with
 | false =>
  simp only [getL_zero, getL_succ, Run_bind, Run_guardM_ft, pickV_bool, cond_false, Run_bindO_some, Run_condM_false, Run_ret, outK_exit, hnv, Bool.not_false, Run_condM_true]
  rw [show Nat.beq 0 0 = true from rfl, cond_true, Run_bindO_some, Run_condM_true]
  exact bad 40 fbe
 | true =>
 simp only [getL_zero, getL_succ, Run_bind, Run_guardM_tt, Run_ret, hlv, Run_optM_some]
 by_cases hin : i < ls.length
 case neg =>
  obtain ⟨sm, hfm⟩:=maform_no hok hhead (fs:=fs) (by omega) (hk rfl)
  exact absurd hfm (hf _ sm)
 obtain ⟨tl, hti⟩ : ∃ tl, ls[i]? = some tl:=⟨_, List.getElem?_eq_getElem hin⟩
 have htm:=hml tl (hlsm tl (List.mem_of_getElem? hti))
 have hint : (i : Int) < (ls.length : Nat):=by omega
 rw [lssT hint, Run_optM_some]
 simp only [pickV_bool, cond_true, Run_bindO_some, Run_condM_true, Run_bind]
 refine Run_new λ y wf hy hyw ff hyle => ?_
 have sl' : Sl 1 wf v' (ls.map λ x => [.string (sb x)]):=(hsl'.fr fe λ c hc he => by have:=(hvn c (hin' c hc)).1; omega).fr0 ff
 obtain ⟨q, q1, q2⟩:=sl'.rd1 (i:=i) (y:=.string (sb tl)) (by simp [hti]) .i64
 have q1' : idxA 1 v' (.int .i64 (i : Int)) = some q:=q1
 rw [q1', Run_bindO_some]
 simp only [Run_bind, Run_rdM]
 refine ⟨_, q2, ?_⟩
 have tf : Tb wf:=((tb.fr fbd λ c hc he => by have:=tb_low ht; omega).fr fe λ c hc he => by have:=tb_low ht; omega).fr0 ff
 refine (row_run tf (s:=tl) (by omega) htm.2).mono ?_
 rintro _ wg ⟨⟨f', b, rfl, hb, hu⟩, fg⟩
 rw [p0, Run_bindO_some, p1, Run_bindO_some]
 have sff:=ff.size
 have sfg:=fg.size
 have ffg:=ff.trans fg λ _ _ => id
 have hbf : bk wg x2 = _:=ffg.bk_some hbe id
 have hwf : wr wg x2 = true:=by rw [ffg.wr (bk_lt hbe) id]; exact hwe
 have hyg:=fg.bk_some hy id
 have hywg : wr wg y = true:=by rw [fg.wr (bk_lt hy) id]; exact hyw
 have hOf:=hO.frm ffg λ _ h => h.elim
 refine push_run hbf hwf (v:=u) rfl rfl (by omega) (by omega) hyg hywg rfl (by omega) (λ h => by have:=(hO.fresh _ h).2; omega) hOf (by omega) f' λ w' r hb6 hw6 hrc hOr fr => ?_
 rw [binV_int, intBin_add, wrap_succ' (by omega), Run_bindO_some, Run_ret]
 refine ⟨⟨i + 1, b, r, fs ++ [f'], rfl, hb6, hw6, hOr, by rw [List.length_append, hfi]; rfl, by omega, (fe.trans ffg λ _ _ h => h.elim).trans fr λ c hc h => h.elim id λ h => by omega, λ hbt j t f h1 h2 => ?_⟩, ?_⟩
 ·by_cases hj : j < fs.length
  ·rw [List.getElem?_append_left hj] at h2
   exact hk rfl j t f h1 h2
  ·rw [List.getElem?_append_right (by omega)] at h2
   have hj1:=(List.getElem?_eq_some_iff.1 h2).1
   rw [List.length_singleton] at hj1
   have ej : j = i:=by omega
   subst ej
   rw [show j - fs.length = 0 by omega] at h2
   simp only [List.getElem?_cons_zero, Option.some.injEq] at h2
   subst h2
   rw [hti] at h1
   cases h1
   exact hb hbt
 ·show ls.length - (((i + 1 : Nat) : Int)).toNat < ls.length - ((i : Nat) : Int).toNat
  omega
end
theorem dig_self {c : UInt8} (h : isD c = true) : ∃ k, k < 10 /\ c.toNat - 48 = k /\ UInt8.ofNat (48 + k) = c:=by
 have h':=of_decide_eq_true h
 refine ⟨c.toNat - 48, by omega, rfl, ?_⟩
 rw [show 48 + (c.toNat - 48) = c.toNat by omega]
 exact UInt8.ofNat_toNat
theorem dec_of : ∀ (n : Nat) (d : List UInt8), d.length = n + 1 -> d.all isD = true -> (1 < d.length -> d.head? ≠ some 48) -> Lib.decDigits (valL d) = d
 | 0, d, hl, ha, _ => by
  match d, hl with
  | [c], _ =>
   have hc : isD c = true:=by simpa using ha
   obtain ⟨k, hk, e1, e2⟩:=dig_self hc
   have : valL [c] = k:=by show 10 * 0 + (c.toNat - 48) = k; omega
   rw [this, dec_small hk, e2]
 | n + 1, d, hl, ha, hh => by
  obtain ⟨l, c, rfl⟩ : ∃ l c, d = l ++ [c]:=⟨d.dropLast, d.getLast (by intro e; subst e; simp at hl), (List.dropLast_concat_getLast _).symm⟩
  have hll : l.length = n + 1:=by simpa using hl
  rw [List.all_append, Bool.and_eq_true] at ha
  have hc : isD c = true:=by simpa using ha.2
  have hne : l ≠ []:=λ e => by subst e; simp at hll
  have hhl : l.head? ≠ some 48:=by
   have:=hh (by rw [hl]; omega)
   cases l with
   | nil => exact absurd rfl hne
   | cons x r => simpa using this
  have ih:=dec_of n l hll ha.1 λ _ => hhl
  obtain ⟨k, hk, e1, e2⟩:=dig_self hc
  have hpos : valL l ≠ 0:=λ e => by
   rw [e, dec_small (by decide)] at ih
   rw [<- ih] at hhl
   exact hhl rfl
  rw [valL_snoc, e1, dec_big (by omega), show (10 * valL l + k) / 10 = valL l by omega, show (10 * valL l + k) % 10 = k by omega, ih, e2]
theorem num_dec {d : List UInt8} {v : Nat} (h : numF d = some v) : d = Lib.decDigits v:=by
 unfold numF at h
 split at h
 ·cases h
 ·rename_i hn
  injection h with h
  subst h
  have h1 : d ≠ []:=λ e => hn (.inl e)
  have h2 : d.all isD = true:=by
   cases e : d.all isD
   ·exact absurd (.inr (.inr (.inr e))) hn
   ·rfl
  have h3 : 1 < d.length -> d.head? ≠ some 48:=λ hl hh => hn (.inr (.inr (.inl ⟨hl, hh⟩)))
  obtain ⟨n, hlen⟩ : ∃ n, d.length = n + 1:=by
   cases d with
   | nil => exact absurd rfl h1
   | cons x r => exact ⟨r.length, rfl⟩
  exact (dec_of n d hlen h2 h3).symm
theorem hv_all : ∀ m, m < 256 -> ∀ k, k < 16 -> hvN m = some k -> hexd k = UInt8.ofNat m:=by decide +kernel
theorem hv_self {c : UInt8} {k : Nat} (h : hvN c.toNat = some k) : hexd k = c:=by
 rw [hv_all _ c.toNat_lt k (hvN_lt h) h]
 exact UInt8.ofNat_toNat
theorem pairs_hex {eh : List UInt8} : ∀ {n : Nat} {r : List UInt8}, 2 * n <= eh.length -> pairsF eh n = some r -> eh.take (2 * n) = hexL r
 | 0, r, _, h => by cases h; rfl
 | n + 1, r, hl, h => by
  unfold pairsF at h
  cases h1 : pairsF eh n with
  | none => rw [h1] at h; cases h
  | some r1 =>
   cases h2 : pairV eh n with
   | none => rw [h1, h2] at h; cases h
   | some c =>
    rw [h1, h2] at h
    cases h
    have ih:=pairs_hex (n:=n) (by omega) h1
    obtain ⟨a, ha⟩ : ∃ a, eh[2 * n]? = some a:=⟨_, List.getElem?_eq_getElem (by omega)⟩
    obtain ⟨b, hb⟩ : ∃ b, eh[2 * n + 1]? = some b:=⟨_, List.getElem?_eq_getElem (by omega)⟩
    unfold pairV at h2
    rw [ha, hb] at h2
    cases hx : hvN a.toNat with
    | none => simp [hx] at h2
    | some x =>
     cases hy : hvN b.toNat with
     | none => simp [hx, hy] at h2
     | some y =>
      simp only [hx, hy, Option.some.injEq] at h2
      subst h2
      have lx:=hvN_lt hx
      have ly:=hvN_lt hy
      rw [hexL_snoc, ofNat_two x y lx ly, show (16 * x + y) / 16 = x by omega, show (16 * x + y) % 16 = y by omega, hv_self hx, hv_self hy, <- ih]
      rw [show 2 * (n + 1) = 2 * n + 1 + 1 by omega, take_snocP hb, take_snocP ha]
      simp
theorem lowD_snoc (m d : Nat) (hd : d < 16) : ∀ k, lowD (16 * m + d) (k + 1) = lowD m k ++ [hexd d]
 | 0 => by
  show [hexd ((16 * m + d) / 16 ^ 0 % 16)] = _
  rw [Nat.pow_zero, Nat.div_one, show (16 * m + d) % 16 = d by omega]
  rfl
 | k + 1 => by
  have e : (16 * m + d) / 16 ^ (k + 1) = m / 16 ^ k:=by
   rw [Nat.pow_succ, Nat.mul_comm (16 ^ k) 16, <- Nat.div_div_eq_div_mul, show (16 * m + d) / 16 = m by omega]
  show hexd ((16 * m + d) / 16 ^ (k + 1) % 16) :: lowD (16 * m + d) (k + 1) = hexd (m / 16 ^ k % 16) :: lowD m k ++ [hexd d]
  rw [e, lowD_snoc m d hd k]
  rfl
theorem low_hex : ∀ (n : Nat) (r : List UInt8), r.length = n -> lowD (valB r) (2 * n) = hexL r
 | 0, r, h => by
  have : r = []:=List.length_eq_zero_iff.1 h
  subst this; rfl
 | n + 1, r, h => by
  obtain ⟨l, c, rfl⟩ : ∃ l c, r = l ++ [c]:=⟨r.dropLast, r.getLast (by intro e; subst e; simp at h), (List.dropLast_concat_getLast _).symm⟩
  have hl : l.length = n:=by simpa using h
  have hc:=c.toNat_lt
  rw [valB_snoc, hexL_snoc, show 256 * valB l + c.toNat = 16 * (16 * valB l + c.toNat / 16) + c.toNat % 16 by omega, show 2 * (n + 1) = 2 * n + 1 + 1 by omega, lowD_snoc _ _ (by omega), lowD_snoc _ _ (by omega), low_hex n l hl]
  simp
theorem sum_eight {e : List UInt8} {v : Nat} (h : sumF e = some v) : e = eightL v /\ v < 4294967296:=by
 unfold sumF at h
 split at h
 ·rename_i hl
  cases hp : pairsF e 4 with
  | none => rw [hp] at h; cases h
  | some r =>
   rw [hp] at h
   injection h with h
   have hr:=pairsF_len hp
   have h1:=pairs_hex (n:=4) (by omega) hp
   rw [List.take_of_length_le (by omega)] at h1
   have h2:=low_hex 4 r hr
   have h3:=valB_lt r
   rw [hr] at h3
   subst h
   exact ⟨by rw [h1, <- h2]; rfl, by simpa using h3⟩
 ·cases h
theorem hex_of {eh : List UInt8} {n : Nat} {r : List UInt8} (hl : eh.length = 2 * n) (h : pairsF eh n = some r) : eh = hexL r:=by
 have h1:=pairs_hex (n:=n) (by omega) h
 rwa [List.take_of_length_le (by omega)] at h1
theorem row_of {t : List UInt8} {f : Fl} (h : rowF t f) : t = rowL f:=by
 obtain ⟨dz, ec, eh, h⟩:=h
 obtain ⟨z, z1, z2⟩:=h.sz
 obtain ⟨c, c1, c2⟩:=h.crc
 have e:=rowL_parts f
 have e' : rowL f = R0 ++ f.nm ++ [32] ++ Lib.decDigits f.sz.toNat ++ [32] ++ eightL f.crc.toNat ++ [32] ++ hexL f.md:=List.append_cancel_right e
 rw [e', h.txt, z2, c2, Int.toNat_natCast, Int.toNat_natCast, num_dec z1, (sum_eight c1).1, hex_of (n:=16) h.md.1 h.md.2]
 simp only [List.append_assoc]
theorem close_of {t x e : List UInt8} {sm : Nat} (ht : t = x ++ (SUM ++ e ++ [10])) (he : sumF e = some sm) (hs : sm = crcF (sb (t.take (t.length - 13)))) : t = closeL x:=by
 have h8 : e.length = 8:=by
  unfold sumF at he
  split at he
  ·assumption
  ·cases he
 have h4 : SUM.length = 4:=rfl
 have htk : t.take (t.length - 13) = x:=by
  rw [ht]
  have : (x ++ (SUM ++ e ++ [10])).length - 13 = x.length:=by simp [h8, h4]
  rw [this, List.take_left]
 rw [htk] at hs
 have:=(sum_eight he).1
 rw [hs] at this
 unfold closeL
 rw [ht, this]
 simp only [List.append_assoc]
theorem meta_same {t : List UInt8} {m : Mt} {sm : Nat} (h : mform t m sm) (hs : sm = crcF (sb (t.take (t.length - 13)))) : t = closeL (metaL m):=by
 obtain ⟨d1, d2, d3, d4, d5, d6, d7, e, h⟩:=h
 obtain ⟨v1, a1, b1⟩:=h.na
 obtain ⟨v2, a2, b2⟩:=h.nb
 obtain ⟨v3, a3, b3⟩:=h.nc
 obtain ⟨v4, a4, b4⟩:=h.nd
 obtain ⟨v5, a5, b5⟩:=h.ne
 obtain ⟨v6, a6, b6⟩:=h.nf
 obtain ⟨v7, a7, b7⟩:=h.nh
 refine close_of (e:=e) ?_ h.sum hs
 rw [meta_parts, b1, b2, b3, b4, b5, b6, b7]
 simp only [Int.toNat_natCast]
 rw [<- num_dec a1, <- num_dec a2, <- num_dec a3, <- num_dec a4, <- num_dec a5, <- num_dec a6, <- num_dec a7]
 rw [h.txt]
 simp only [List.append_assoc]
theorem ptr_same {t : List UInt8} {n : Nt} {sm : Nat} (h : pform t n sm) (hs : sm = crcF (sb (t.take (t.length - 13)))) : t = closeL (ptrL n):=by
 obtain ⟨d1, d2, d3, d4, e, a, b, c, d, h, h1, h2, h3, h4, h5, rfl⟩:=h
 refine close_of (e:=e) ?_ h5 hs
 rw [ptr_parts]
 simp only [Int.toNat_natCast]
 rw [<- num_dec h1, <- num_dec h2, <- num_dec h3, <- num_dec h4, h]
 simp only [List.append_assoc]
theorem lns_rows : ∀ {ls : List (List UInt8)} {fs : List Fl}, ls.length = fs.length -> (∀ (i : Nat) (t : List UInt8) (f : Fl), ls[i]? = some t -> fs[i]? = some f -> rowF t f) -> lnsL ls = rowsL fs
 | [], [], _, _ => rfl
 | [], _ :: _, h, _ => by simp at h
 | _ :: _, [], h, _ => by simp at h
 | x :: ls, f :: fs, h, hr => by
  have h1:=row_of (hr 0 x f rfl rfl)
  have h2:=lns_rows (ls:=ls) (fs:=fs) (by simpa using h) λ i t g hi hg => hr (i + 1) t g (by simpa using hi) (by simpa using hg)
  unfold lnsL rowsL at *
  simp only [List.map_cons, List.flatten_cons]
  rw [h2, h1]
theorem man_same {t : List UInt8} {m : Mf} {sm : Nat} (h : maform t m sm) (hs : sm = crcF (sb (t.take (t.length - 13)))) : t = closeL (manL m):=by
 obtain ⟨ls, d1, d2, d3, d4, e1, e, h⟩:=h
 obtain ⟨v1, a1, b1⟩:=h.ver
 obtain ⟨v2, a2, b2⟩:=h.node
 obtain ⟨v4, a4, b4⟩:=h.tot
 obtain ⟨v5, a5, b5⟩:=h.who
 refine close_of (e:=e) ?_ h.sum hs
 unfold manL
 rw [manH_parts, manT_parts, b1, b2, b4, b5]
 simp only [Int.toNat_natCast]
 rw [<- num_dec a1, <- num_dec a2, <- num_dec h.cnt, <- num_dec a4, <- (sum_eight a5).1, <- lns_rows h.len h.rows, h.txt]
 simp only [List.append_assoc]
theorem meta_head (m : Mt) : (closeL (metaL m)).take 10 = [103, 114, 97, 110, 97, 114, 121, 32, 109, 101]:=by
 unfold closeL
 rw [meta_parts]
 simp only [List.append_assoc]
 rfl
theorem ptr_head (n : Nt) : (closeL (ptrL n)).take 10 = [103, 114, 97, 110, 97, 114, 121, 32, 108, 97]:=by
 unfold closeL
 rw [ptr_parts]
 simp only [List.append_assoc]
 rfl
theorem man_head (m : Mf) : (closeL (manL m)).take 10 = [103, 114, 97, 110, 97, 114, 121, 32, 109, 97]:=by
 unfold closeL manL
 rw [manH_parts]
 simp only [List.append_assoc]
 rfl
theorem meta_not_ptr {m : Mt} {n : Nt} (h : closeL (metaL m) = closeL (ptrL n)) : False:=by
 have:=(meta_head m).symm.trans ((congrArg (List.take 10) h).trans (ptr_head n))
 exact absurd this (by decide)
theorem meta_not_man {m : Mt} {n : Mf} (h : closeL (metaL m) = closeL (manL n)) : False:=by
 have:=(meta_head m).symm.trans ((congrArg (List.take 10) h).trans (man_head n))
 exact absurd this (by decide)
theorem man_not_ptr {m : Mf} {n : Nt} (h : closeL (manL m) = closeL (ptrL n)) : False:=by
 have:=(man_head m).symm.trans ((congrArg (List.take 10) h).trans (ptr_head n))
 exact absurd this (by decide)
section
variable {w w1 w2 : World}
theorem mread_run (ht : Tb w) {t : List UInt8} (hl : t.length <= 4294960000) : Run (F.paper_ParseMeta (.string (sb t))) w λ r w' => (∃ (m : Mt) (c : Int), r = .tuple #[.agg m.row.toArray, .int .i64 c] /\ (c = 0 -> m.mok = true /\ t = closeL (metaL m)) /\ (∀ m', m'.mok = true -> t = closeL (metaL m') -> c = 0)) /\ Fr (λ _ => False) w w':=by
 refine (mparse_run ht hl).mono ?_
 rintro r w1 ⟨h, f⟩
 refine ⟨?_, f⟩
 by_cases hp : ∃ m sm, mform t m sm
 ·obtain ⟨m, sm, hp⟩:=hp
  have hr:=h.yes m sm hp
  have hall : ∀ m', m'.mok = true -> t = closeL (metaL m') -> r = .tuple #[m'.v, .int .i64 0]:=λ m' h1 h2 => by
   have hf : mform t m' (crcF (sb (metaL m'))):=by rw [h2]; exact ⟨_, _, _, _, _, _, _, _, mprinted_form h1⟩
   rw [h.yes m' _ hf]
   rw [h2]
   exact mansV_printed h1
  unfold mansV at hr
  split at hr
  ·rename_i hs
   split at hr
   ·rename_i hm
    exact ⟨m, 0, hr, λ _ => ⟨hm, meta_same hp hs⟩, λ _ _ _ => rfl⟩
   ·refine ⟨zMt, 42, hr, λ h => absurd h (by decide), λ m' h1 h2 => ?_⟩
    have:=hr.symm.trans (hall m' h1 h2)
    injection this with this
    simp at this
  ·refine ⟨zMt, 41, hr, λ h => absurd h (by decide), λ m' h1 h2 => ?_⟩
   have:=hr.symm.trans (hall m' h1 h2)
   injection this with this
   simp at this
 ·exact ⟨zMt, 40, h.no λ m sm hf => hp ⟨m, sm, hf⟩, λ h => absurd h (by decide), λ m' h1 h2 => absurd ⟨m', _, by rw [h2]; exact ⟨_, _, _, _, _, _, _, _, mprinted_form h1⟩⟩ hp⟩
theorem pread_run (ht : Tb w) {t : List UInt8} (hl : t.length <= 4294960000) : Run (F.paper_ParsePointer (.string (sb t))) w λ r w' => (∃ (m : Nt) (c : Int), r = .tuple #[.agg m.row.toArray, .int .i64 c] /\ (c = 0 -> m.pok = true /\ t = closeL (ptrL m)) /\ (∀ m', m'.pok = true -> t = closeL (ptrL m') -> c = 0)) /\ Fr (λ _ => False) w w':=by
 refine (pparse_run ht hl).mono ?_
 rintro r w1 ⟨h, f⟩
 refine ⟨?_, f⟩
 by_cases hp : ∃ m sm, pform t m sm
 ·obtain ⟨m, sm, hp⟩:=hp
  have hr:=h.yes m sm hp
  have hall : ∀ m', m'.pok = true -> t = closeL (ptrL m') -> r = .tuple #[m'.v, .int .i64 0]:=λ m' h1 h2 => by
   have hf : pform t m' (crcF (sb (ptrL m'))):=by rw [h2]; exact printed_form h1
   rw [h.yes m' _ hf]
   rw [h2]
   exact ansV_printed h1
  unfold ansV at hr
  split at hr
  ·rename_i hs
   split at hr
   ·rename_i hm
    exact ⟨m, 0, hr, λ _ => ⟨hm, ptr_same hp hs⟩, λ _ _ _ => rfl⟩
   ·refine ⟨zNt, 42, hr, λ h => absurd h (by decide), λ m' h1 h2 => ?_⟩
    have:=hr.symm.trans (hall m' h1 h2)
    injection this with this
    simp at this
  ·refine ⟨zNt, 41, hr, λ h => absurd h (by decide), λ m' h1 h2 => ?_⟩
   have:=hr.symm.trans (hall m' h1 h2)
   injection this with this
   simp at this
 ·exact ⟨zNt, 40, h.no λ m sm hf => hp ⟨m, sm, hf⟩, λ h => absurd h (by decide), λ m' h1 h2 => absurd ⟨m', _, by rw [h2]; exact printed_form h1⟩ hp⟩
theorem fread_run (ht : Tb w) {t : List UInt8} (hl : t.length <= 4294960000) : Run (F.paper_ParseManifest (.string (sb t))) w λ r w' => ∃ (m : Mf) (c : Int), ParM w w' m c r /\ m.Fit /\ (c = 0 -> holdsF m = 0 /\ t = closeL (manL m)):=by
 have zfit : zMf.Fit:=⟨Nat.zero_le _, λ f hf => (List.not_mem_nil (show f ∈ ([] : List Fl) from hf)).elim, Nat.zero_le _⟩
 by_cases hp : ∃ m sm, maform t m sm
 ·obtain ⟨m, sm, hp⟩:=hp
  refine (manparse_yes ht hl hp).mono λ r w' hr => ⟨_, _, hr, ?_, λ hc => ?_⟩
  ·unfold resM
   split
   ·exact maform_fit hp hl
   ·exact zfit
  ·have hres : resM t m sm = m:=if_pos hc
   unfold codeM at hc
   split at hc
   ·rename_i hs
    rw [hres]
    exact ⟨hc, man_same hp hs⟩
   ·cases hc
 ·refine (manparse_no ht hl λ m sm hf => hp ⟨m, sm, hf⟩).mono λ r w' hr => ⟨_, _, hr, zfit, λ hc => by cases hc⟩
end
section
variable {w w1 w2 : World}
def oneI (c : Int) : Int:=if c = 0 then 1 else 0
theorem addK {k : Int} (h0 : 0 <= k) (h1 : k <= 2) : binV .add (.int .i64 k) (.int .i64 1) = some (.int .i64 (k + 1)):=by
 obtain ⟨n, rfl⟩ : ∃ n : Nat, k = n:=⟨k.toNat, by omega⟩
 rw [binV_int, intBin_add, wrap_succ' (by omega)]
 rfl
theorem mbody_run (ht : Tb w) {t : List UInt8} {m : Mt} {c : Int} {b : Nat} (hb : bk w b = some m.row) (hs : c = 0 -> m.mok = true /\ t = closeL (metaL m)) {k : Int} (h0 : 0 <= k) (h1 : k <= 2) :
  Run (M.bind (F.granarylaw4_num (.int .i64 c)) λ x6 =>
  bindO (binV BinOp.eql x6 (Value.int IntKind.i64 0)) λ x7 =>
  condM x7 (
   bindO (binV BinOp.add (.int .i64 k) (Value.int IntKind.i64 1)) λ x8 =>
   M.bind (rdM (ldA 8 (.pointer (some ⟨b, 0, none⟩)))) λ x9 =>
   M.bind (F.paper_PrintMeta x9) λ x10 =>
   bindO (extV 0 x10) λ x11 =>
   bindO (extV 1 x10) λ x12 =>
   M.bind (F.granarylaw4_num x12) λ x13 =>
   bindO (binV BinOp.neq x13 (Value.int IntKind.i64 0)) λ x14 =>
   M.bind (guardM x14 false (M.ret x11)) λ x15 =>
   M.bind (guardM x14 false (M.ret (.string (sb t)))) λ x16 =>
   M.bind (guardM x14 false (optM (binV BinOp.neq x15 x16))) λ x17 =>
   bindO (pickV x14 (Value.bool true) x17) λ x18 =>
   condM x18 (
    M.ret (Out.ret (Value.bool false))) (
    M.ret (Out.norm [x8]))) (
   M.ret (Out.norm [.int .i64 k]))) w λ o w' => o = Out.norm [.int .i64 (k + oneI c)] /\ Fr (λ _ => False) w w':=by
 unfold F.granarylaw4_num
 rw [Run_bind, Run_ret, binV_int, intBin_eql, Run_bindO_some]
 by_cases hc : c = 0
 ·obtain ⟨hm, rfl⟩:=hs hc
  have hst : m.st.length <= 4611686018427387904:=by
   have h' : (storeP m.st && m.fok) = true:=hm
   rw [Bool.and_eq_true] at h'
   have:=(storeP_len h'.1).2.1
   omega
  have y0 : ∀ v x, extV 0 (.tuple #[v, x]) = some v:=λ _ _ => rfl
  have y1 : ∀ v x, extV 1 (.tuple #[v, x]) = some x:=λ _ _ => rfl
  have l4 : ldA 8 (.pointer (some ⟨b, 0, none⟩)) w = some m.v:=ldA_bk hb (Nat.le_refl _)
  rw [decide_eq_true hc, Run_condM_true, addK h0 h1, Run_bindO_some, Run_bind, Run_rdM]
  refine ⟨_, l4, ?_⟩
  rw [Run_bind]
  refine (mprint_run ht m hst).mono ?_
  rintro _ w2 ⟨rfl, f2⟩
  unfold metaO
  rw [if_pos hm, y0, Run_bindO_some, y1, Run_bindO_some]
  simp only [Run_bind, Run_ret, binV_int, intBin_neq, decide_true, Bool.not_true, Run_bindO_some, Run_guardM_ff, sbNe, Run_optM_some, pickV_bool, cond_false, Run_condM_false]
  unfold oneI
  rw [if_pos hc]
  exact ⟨rfl, f2⟩
 ·unfold oneI
  rw [decide_eq_false hc, Run_condM_false, Run_ret, if_neg hc, Int.add_zero]
  exact ⟨rfl, Fr.refl _ _⟩
theorem pbody_run (ht : Tb w) {t : List UInt8} {m : Nt} {c : Int} {b : Nat} (hb : bk w b = some m.row) (hs : c = 0 -> m.pok = true /\ t = closeL (ptrL m)) {k : Int} (h0 : 0 <= k) (h1 : k <= 2) :
  Run (M.bind (F.granarylaw4_num (.int .i64 c)) λ x6 =>
  bindO (binV BinOp.eql x6 (Value.int IntKind.i64 0)) λ x7 =>
  condM x7 (
   bindO (binV BinOp.add (.int .i64 k) (Value.int IntKind.i64 1)) λ x8 =>
   M.bind (rdM (ldA 4 (.pointer (some ⟨b, 0, none⟩)))) λ x9 =>
   M.bind (F.paper_PrintPointer x9) λ x10 =>
   bindO (extV 0 x10) λ x11 =>
   bindO (extV 1 x10) λ x12 =>
   M.bind (F.granarylaw4_num x12) λ x13 =>
   bindO (binV BinOp.neq x13 (Value.int IntKind.i64 0)) λ x14 =>
   M.bind (guardM x14 false (M.ret x11)) λ x15 =>
   M.bind (guardM x14 false (M.ret (.string (sb t)))) λ x16 =>
   M.bind (guardM x14 false (optM (binV BinOp.neq x15 x16))) λ x17 =>
   bindO (pickV x14 (Value.bool true) x17) λ x18 =>
   condM x18 (
    M.ret (Out.ret (Value.bool false))) (
    M.ret (Out.norm [x8]))) (
   M.ret (Out.norm [.int .i64 k]))) w λ o w' => o = Out.norm [.int .i64 (k + oneI c)] /\ Fr (λ _ => False) w w':=by
 unfold F.granarylaw4_num
 rw [Run_bind, Run_ret, binV_int, intBin_eql, Run_bindO_some]
 by_cases hc : c = 0
 ·obtain ⟨hm, rfl⟩:=hs hc
  have y0 : ∀ v x, extV 0 (.tuple #[v, x]) = some v:=λ _ _ => rfl
  have y1 : ∀ v x, extV 1 (.tuple #[v, x]) = some x:=λ _ _ => rfl
  have l4 : ldA 4 (.pointer (some ⟨b, 0, none⟩)) w = some m.v:=ldA_bk hb (Nat.le_refl _)
  rw [decide_eq_true hc, Run_condM_true, addK h0 h1, Run_bindO_some, Run_bind, Run_rdM]
  refine ⟨_, l4, ?_⟩
  rw [Run_bind]
  refine (pprint_run ht m).mono ?_
  rintro _ w2 ⟨rfl, f2⟩
  unfold ptrO
  rw [if_pos hm, y0, Run_bindO_some, y1, Run_bindO_some]
  simp only [Run_bind, Run_ret, binV_int, intBin_neq, decide_true, Bool.not_true, Run_bindO_some, Run_guardM_ff, sbNe, Run_optM_some, pickV_bool, cond_false, Run_condM_false]
  unfold oneI
  rw [if_pos hc]
  exact ⟨rfl, f2⟩
 ·unfold oneI
  rw [decide_eq_false hc, Run_condM_false, Run_ret, if_neg hc, Int.add_zero]
  exact ⟨rfl, Fr.refl _ _⟩
theorem fbody_run (ht : Tb w) {t : List UInt8} {m : Mf} {c : Int} {b : Nat} {v : Value} (hb : bk w b = some (mval m v)) (hv : Sl 4 w v (m.fs.map Fl.row)) (hfit : m.Fit) (hs : c = 0 -> holdsF m = 0 /\ t = closeL (manL m)) {k : Int} (h0 : 0 <= k) (h1 : k <= 2) :
  Run (M.bind (F.granarylaw4_num (.int .i64 c)) λ x6 =>
  bindO (binV BinOp.eql x6 (Value.int IntKind.i64 0)) λ x7 =>
  condM x7 (
   bindO (binV BinOp.add (.int .i64 k) (Value.int IntKind.i64 1)) λ x8 =>
   M.bind (rdM (ldA 6 (.pointer (some ⟨b, 0, none⟩)))) λ x9 =>
   M.bind (F.paper_PrintManifest x9) λ x10 =>
   bindO (extV 0 x10) λ x11 =>
   bindO (extV 1 x10) λ x12 =>
   M.bind (F.granarylaw4_num x12) λ x13 =>
   bindO (binV BinOp.neq x13 (Value.int IntKind.i64 0)) λ x14 =>
   M.bind (guardM x14 false (M.ret x11)) λ x15 =>
   M.bind (guardM x14 false (M.ret (.string (sb t)))) λ x16 =>
   M.bind (guardM x14 false (optM (binV BinOp.neq x15 x16))) λ x17 =>
   bindO (pickV x14 (Value.bool true) x17) λ x18 =>
   condM x18 (
    M.ret (Out.ret (Value.bool false))) (
    M.ret (Out.norm [x8]))) (
   M.ret (Out.norm [.int .i64 k]))) w λ o w' => o = Out.norm [.int .i64 (k + oneI c)] /\ Fr (λ _ => False) w w':=by
 unfold F.granarylaw4_num
 rw [Run_bind, Run_ret, binV_int, intBin_eql, Run_bindO_some]
 by_cases hc : c = 0
 ·obtain ⟨hm, rfl⟩:=hs hc
  have y0 : ∀ v x, extV 0 (.tuple #[v, x]) = some v:=λ _ _ => rfl
  have y1 : ∀ v x, extV 1 (.tuple #[v, x]) = some x:=λ _ _ => rfl
  have l4 : ldA 6 (.pointer (some ⟨b, 0, none⟩)) w = some (.agg (mval m v).toArray):=ldA_bk hb (Nat.le_refl _)
  rw [decide_eq_true hc, Run_condM_true, addK h0 h1, Run_bindO_some, Run_bind, Run_rdM]
  refine ⟨_, l4, ?_⟩
  rw [Run_bind]
  refine (manprint_run ht hv hfit).mono ?_
  rintro _ w2 ⟨rfl, f2⟩
  unfold manO
  rw [if_pos hm, y0, Run_bindO_some, y1, Run_bindO_some]
  simp only [Run_bind, Run_ret, binV_int, intBin_neq, decide_true, Bool.not_true, Run_bindO_some, Run_guardM_ff, sbNe, Run_optM_some, pickV_bool, cond_false, Run_condM_false]
  unfold oneI
  rw [if_pos hc]
  exact ⟨rfl, f2⟩
 ·unfold oneI
  rw [decide_eq_false hc, Run_condM_false, Run_ret, if_neg hc, Int.add_zero]
  exact ⟨rfl, Fr.refl _ _⟩
theorem oneI_le (c : Int) : 0 <= oneI c /\ oneI c <= 1:=by
 unfold oneI
 split <;> omega
theorem oneI_one {c : Int} (h : oneI c = 1) : c = 0:=by
 unfold oneI at h
 split at h
 ·assumption
 ·omega
theorem same_walk (ht : Tb w) {t : List UInt8} (hl : t.length <= 4294950000) : Run (F.granarylaw4_PaperSame (.string (sb t))) w λ r w' => r = .bool true /\ Fr (λ _ => False) w w':=by
 unfold F.granarylaw4_PaperSame
 have y0 : ∀ v x, extV 0 (.tuple #[v, x]) = some v:=λ _ _ => rfl
 have y1 : ∀ v x, extV 1 (.tuple #[v, x]) = some x:=λ _ _ => rfl
 rw [Run_bind]
 refine (mread_run ht (t:=t) (by omega)).mono ?_
 rintro _ w1 ⟨⟨m, cm, rfl, hm, _⟩, f1⟩
 rw [y0, Run_bindO_some, y1, Run_bindO_some, Run_bind]
 refine Run_new λ x4 w2 hx4 hw4 f2 hle4 => ?_
 rw [Run_bind, Run_stA (n:=8) ⟨⟨⟨_, hx4, by simp⟩, hw4⟩, rfl, mrow_cell m⟩]
 have b4:=bk_sto_same (o:=0) hx4 m.row
 have f13 : Fr (λ _ => False) w1 (sto w2 x4 0 m.row):=f2.sto (.inr hle4) _ _
 have e4 : setL #[Value.string ByteArray.empty, Value.int IntKind.i64 0, Value.int IntKind.i64 0, Value.int IntKind.i64 0, Value.int IntKind.i64 0, Value.int IntKind.i64 0, Value.int IntKind.i64 0, Value.int IntKind.i64 0].toList 0 m.row = m.row:=rfl
 rw [e4] at b4
 rw [show m.row.toArray.toList = m.row from rfl]
 generalize sto w2 x4 0 m.row = w3 at *
 have f03:=f1.trans f13 λ _ _ => id
 rw [Run_bind]
 refine (mbody_run (ht.fr0 f03) b4 hm (k:=0) (by decide) (by decide)).mono ?_
 rintro _ w4 ⟨rfl, f4⟩
 have f04:=f03.trans f4 λ _ _ => id
 rw [outK_norm, Run_bind, Int.zero_add]
 have k1:=oneI_le cm
 refine (fread_run (ht.fr0 f04) (t:=t) (by omega)).mono ?_
 rintro _ w5 ⟨mf, cf, ⟨v, rfl, hv, hvi, f5⟩, hfit, hf⟩
 have f05:=f04.trans f5 λ _ _ => id
 rw [y0, Run_bindO_some, y1, Run_bindO_some, Run_bind]
 refine Run_new λ x26 w6 hx26 hw26 f6 hle26 => ?_
 have hvc : isCell v = true:=hv.1.isCell
 rw [Run_bind, Run_stA (n:=6) ⟨⟨⟨_, hx26, by simp⟩, hw26⟩, rfl, mval_cell mf hvc⟩]
 have b26:=bk_sto_same (o:=0) hx26 (mval mf v)
 have e26 : setL #[(Value.string ByteArray.empty), (Value.int IntKind.i64 0), (Value.int IntKind.i64 0), (Value.slice none 0 0), (Value.int IntKind.i64 0), (Value.int IntKind.i64 0)].toList 0 (mval mf v) = mval mf v:=rfl
 rw [e26] at b26
 rw [show (mval mf v).toArray.toList = mval mf v from rfl]
 have f57 : Fr (λ _ => False) w5 (sto w6 x26 0 (mval mf v)):=f6.sto (.inr hle26) _ _
 generalize sto w6 x26 0 (mval mf v) = w7 at *
 have f07:=f05.trans f57 λ _ _ => id
 rw [Run_bind, getL_zero]
 refine (fbody_run (ht.fr0 f07) b26 (hv.1.fr0 f57) hfit hf (k:=oneI cm) k1.1 (by omega)).mono ?_
 rintro _ w8 ⟨rfl, f8⟩
 have f08:=f07.trans f8 λ _ _ => id
 rw [outK_norm, Run_bind]
 have k2:=oneI_le cf
 refine (pread_run (ht.fr0 f08) (t:=t) (by omega)).mono ?_
 rintro _ w9 ⟨⟨p, cp, rfl, hp, _⟩, f9⟩
 have f09:=f08.trans f9 λ _ _ => id
 rw [y0, Run_bindO_some, y1, Run_bindO_some, Run_bind]
 refine Run_new λ x48 wa hx48 hw48 fa hle48 => ?_
 rw [Run_bind, Run_stA (n:=4) ⟨⟨⟨_, hx48, by simp⟩, hw48⟩, rfl, by simp [Nt.row]⟩]
 have b48:=bk_sto_same (o:=0) hx48 p.row
 have e48 : setL #[(Value.int IntKind.i64 0), (Value.int IntKind.i64 0), (Value.int IntKind.i64 0), (Value.int IntKind.i64 0)].toList 0 p.row = p.row:=rfl
 rw [e48] at b48
 rw [show p.row.toArray.toList = p.row from rfl]
 have f9b : Fr (λ _ => False) w9 (sto wa x48 0 p.row):=fa.sto (.inr hle48) _ _
 generalize sto wa x48 0 p.row = wb at *
 have f0b:=f09.trans f9b λ _ _ => id
 rw [Run_bind, getL_zero]
 refine (pbody_run (ht.fr0 f0b) b48 hp (k:=oneI cm + oneI cf) (by omega) (by omega)).mono ?_
 rintro _ wc ⟨rfl, fc⟩
 have f0c:=f0b.trans fc λ _ _ => id
 rw [outK_norm, Run_bind]
 have k3:=oneI_le cp
 have hk : oneI cm + oneI cf + oneI cp <= 1:=by
  by_cases a1 : oneI cm = 1
  ·obtain ⟨_, q1⟩:=hm (oneI_one a1)
   have z2 : ¬ oneI cf = 1:=λ a2 => meta_not_man (q1.symm.trans (hf (oneI_one a2)).2)
   have z3 : ¬ oneI cp = 1:=λ a2 => meta_not_ptr (q1.symm.trans (hp (oneI_one a2)).2)
   omega
  ·by_cases a2 : oneI cf = 1
   ·have z3 : ¬ oneI cp = 1:=λ a3 => man_not_ptr ((hf (oneI_one a2)).2.symm.trans (hp (oneI_one a3)).2)
    omega
   ·omega
 obtain ⟨ns, hc⟩:=chain_ex t.length t (Nat.le_refl _)
 refine (parse_run (ht.fr0 f0c) (show t.length <= 4294966000 by omega) hc).mono ?_
 rintro _ wd ⟨u, rfl, hO⟩
 have f0d:=f0c.trans hO.fr λ _ _ => id
 have hcn:=hc.count
 have hpl:=hc.pre.length_le
 rw [y0, Run_bindO_some, y1, Run_bindO_some, Run_bind]
 have hlu:=hO.sl.1.lenL
 rw [List.length_map] at hlu
 have e0 : ByteArray.mk #[] = sb []:=rfl
 rw [e0]
 refine Run_for ns.length (λ i L w' => L = [.string (sb (allL (ns.take i))), .int .i64 (i : Int)] /\ Fr (λ _ => False) wd w') ⟨rfl, Fr.refl _ _⟩ ?_ ?_
 ·rintro i L we hi ⟨rfl, fe⟩
  obtain ⟨n, hn⟩ : ∃ n, ns[i]? = some n:=⟨_, List.getElem?_eq_getElem hi⟩
  obtain ⟨hok, _, hnext, hle⟩:=hc.at hn
  have hil : (i : Int) < ns.length:=by omega
  obtain ⟨q, q1, q2⟩:=(hO.sl.1.fr0 fe).rdA (by decide) (i:=i) (e:=n.row) (by simp [hn]) .i64
  have q1' : idxA 4 u (.int .i64 (i : Int)) = some q:=q1
  rw [hlu, Run_bindO_some, getL_succ, getL_zero, lssT hil, Run_bindO_some, Run_condM_true, q1', Run_bindO_some, Run_bind, Run_rdM]
  refine ⟨_, q2, ?_⟩
  rw [Run_bind]
  refine (print_run (ht.fr0 (f0d.trans fe λ _ _ => id)) n).mono ?_
  rintro _ wf ⟨rfl, ff⟩
  have e1 : noteO n = .tuple #[.string (sb (noteL n)), .int .i64 0]:=if_pos hok
  have ea : binV .add (.string (sb (allL (ns.take i)))) (.string (sb (noteL n))) = some (.string (sb (allL (ns.take i) ++ noteL n))):=by
   rw [strAdd (by rw [sb_size, sb_size]; omega)]
   congr 2
  rw [e1, y0, Run_bindO_some, y1, Run_bindO_some]
  unfold F.granarylaw4_num
  simp only [Run_bind, Run_ret, binV_int, intBin_neq, decide_true, Bool.not_true, Run_bindO_some, Run_condM_false, getL_zero]
  rw [ea, Run_bindO_some, intBin_add, wrap_succ' (by omega), Run_bindO_some, Run_ret]
  exact ⟨by rw [hnext], fe.trans ff λ _ _ => id⟩
 ·rintro L we ⟨rfl, fe⟩
  have hn : ¬ ((ns.length : Nat) : Int) < ns.length:=by omega
  rw [List.take_length, hlu, Run_bindO_some, getL_succ, getL_zero, lssF hn, Run_bindO_some, Run_condM_false, Run_ret]
  simp only [outK_exit]
  have hle1 : binV .leq (.int .i64 (oneI cm + oneI cf + oneI cp)) (.int .i64 1) = some (.bool true):=by
   rw [binV_int, intBin_leq, decide_eq_true hk]
  have hle2 : binV .leq (.int .i64 (((allL ns).length : Nat) : Int)) (.int .i64 ((t.length : Nat) : Int)) = some (.bool true):=by
   rw [binV_int, intBin_leq, decide_eq_true (by omega)]
  have hpre : t.take (allL ns).length = allL ns:=((List.prefix_iff_eq_take).1 hc.pre).symm
  rw [show Nat.beq 0 0 = true from rfl, cond_true, getL_zero, hle1, Run_bindO_some]
  simp only [Run_bind, Run_guardM_tt, Run_ret, getL_zero, lenS_string, sb_size, Run_optM_some, binV_int, intBin_eql, decide_true, pickV_bool, cond_true, Run_bindO_some]
  rw [show intBin .leq .i64 (((allL ns).length : Nat) : Int) ((t.length : Nat) : Int) = some (.bool true) by rw [intBin_leq, decide_eq_true (by omega)]]
  simp only [Run_bind, Run_guardM_tt, Run_ret, Run_optM_some, pickV_bool, cond_true, Run_bindO_some]
  rw [slTo hpl, hpre]
  simp only [Run_optM_some, sbEq, decide_true, pickV_bool, cond_true, Run_bindO_some, Run_bind, Run_guardM_tt, Run_ret]
  have f0e:=f0d.trans fe λ _ _ => id
  refine (first_run (ht.fr0 f0e)).mono ?_
  rintro _ wf ⟨rfl, ff⟩
  simp only [pickV_bool, cond_true, Run_bindO_some, Run_ret]
  exact ⟨trivial, f0e.trans ff λ _ _ => id⟩
end
theorem tb_ofS {W : World} (h : laidMetH Tryz.prog Rows.paperSameUptoRow.laid W) (hsh : W.ShapedOpen Tryz.prog) : Tb W:=tb_ofM h hsh
theorem paperSame_top {W : World} {n0 : Nat} (s : ByteArray) (hs : s.size + 1 <= n0) (hk : n0 <= 1048576) (hL : laidMetH Tryz.prog Rows.paperSameUptoRow.laid W) (hsh : W.ShapedOpen Tryz.prog) :
  Run (F.granarylaw4_PaperSame (.string s)) W λ r w' => r = .bool true /\ Fr (λ _ => False) W w':=by
 rw [sb_self s]
 have hl : s.data.toList.length = s.size:=Array.length_toList
 exact same_walk (tb_ofS hL hsh) (by omega)
end Go.Proofs.YthlpfhjcdedhgaaGreatDoor
