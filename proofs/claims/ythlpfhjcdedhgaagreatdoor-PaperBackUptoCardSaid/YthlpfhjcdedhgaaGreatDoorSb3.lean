/- What the statement rests on: part 4. -/
import Derived.Test.YthlpfhjcdedhgaaGreatDoorSb2
import Derived.ChangeArms
import Derived.Test.YthlpfhjcdedhgaaGreatDoorRows
import Derived.WalkKit
import Derived.ProofKit
import Derived.LaidLaws
import Derived.Lib.LaidTab
namespace Go.Proofs.YthlpfhjcdedhgaaGreatDoor
open Go.Lift Go.Sort
set_option linter.unusedSimpArgs false
set_option linter.unusedVariables false
set_option maxHeartbeats 4000000
section
variable {w w1 w2 : World}
structure NoteP (w w' : World) (s : List UInt8) (r : Value) : Prop where
 val : ∃ m : Nt, ∃ b : Bool, r = .tuple #[m.v, .bool b] /\ (b = true -> m.ok /\ noteL m = s ++ [10]) /\ ∀ n : Nt, n.ok -> noteL n = s ++ [10] -> m = n /\ b = true
 fr : Fr (λ _ => False) w w'
theorem neOk (a b c d e : Bool) : neV (EqSh.offs [(EqK.bool, 0), (EqK.bool, 1), (EqK.bool, 2), (EqK.bool, 3), (EqK.bool, 4)]) (.agg #[.bool a, .bool b, .bool c, .bool d, .bool e]) (.agg #[.bool true, .bool true, .bool true, .bool true, .bool true]) = some (.bool (!(a && b && c && d && e))):=by
 cases a <;> cases b <;> cases c <;> cases d <;> cases e <;> rfl
theorem tb_low (ht : Tb w) : 11 <= w.heap.size:=by
 obtain ⟨l, h, _⟩:=ht.bits
 have:=bk_lt h
 omega
theorem note_run (ht : Tb w) (s : List UInt8) (hs : s.length <= 4294967000) : Run (F.paper_note (.string (sb s))) w λ r w' => NoteP w w' s r:=by
 unfold F.paper_note
 rw [Run_bind]
 refine Run_new λ x1 wa hx1 hw1 fa hx1le => ?_
 have ta:=ht.fr0 fa
 rw [Run_bind]
 refine (split_run ta s 32 (by omega)).mono ?_
 rintro v wb ⟨hv, fb, hvn⟩
 have hlv:=hv.1.lenL
 rw [List.length_map] at hlv
 rw [hlv, Run_bindO_some, binV_int, intBin_neq, Run_bindO_some]
 have hx1b:=fb.bk_some hx1 id
 have hw1b : wr wb x1 = true:=by rw [fb.wr (bk_lt hx1) id]; exact hw1
 have z0 : buildV #[(Value.int IntKind.i64 0), (Value.int IntKind.i64 0), (Value.int IntKind.i64 0), (Value.int IntKind.i64 0)] [] = some (.agg #[(Value.int IntKind.i64 0), (Value.int IntKind.i64 0), (Value.int IntKind.i64 0), (Value.int IntKind.i64 0)]):=rfl
 by_cases h5 : (spl 32 s).length = 5
 case neg =>
  have h5' : ¬ (((spl 32 s).length : Nat) : Int) = 5:=by omega
  have ht : (!decide ((((spl 32 s).length : Nat) : Int) = 5)) = true:=by simp [h5']
  rw [ht, Run_condM_true, z0, Run_bindO_some, Run_bind, Run_stM (by rfl) (by rfl) ⟨⟨_, hx1b, by simp⟩, hw1b⟩, Run_bind, Run_rdM]
  have hb : bk (sto wb x1 0 (Value.agg #[(Value.int IntKind.i64 0), (Value.int IntKind.i64 0), (Value.int IntKind.i64 0), (Value.int IntKind.i64 0)]).cells.toList) x1 = some [.int .i64 0, .int .i64 0, .int .i64 0, .int .i64 0]:=by
   rw [bk_sto_same hx1b]; rfl
  refine ⟨_, ldA_bk hb (by simp), ?_⟩
  rw [Run_ret]
  refine ⟨⟨⟨0, 0, 0, 0⟩, false, rfl, λ h => Bool.noConfusion h, λ n hn he => ?_⟩, (fa.trans fb λ _ _ => id).sto (.inr hx1le) _ _⟩
  have:=line_words he
  rw [this] at h5
  exact absurd rfl h5
 have h5' : (((spl 32 s).length : Nat) : Int) = 5:=by omega
 have hf : (!decide ((((spl 32 s).length : Nat) : Int) = 5)) = false:=by simp [h5']
 rw [hf, Run_condM_false, Run_bind]
 refine Run_new λ x8 wc hx8 hw8 fc hx8le => ?_
 rw [Run_bind]
 refine Run_new λ x9 wd hx9 hw9 fd hx9le => ?_
 obtain ⟨a, b, c, d, e, hN⟩ : ∃ a b c d e, spl 32 s = [a, b, c, d, e]:=by
  match spl 32 s, h5 with
  | [a, b, c, d, e], _ => exact ⟨a, b, c, d, e, rfl⟩
 have hjn:=(spl_jn 32 s).1
 rw [hN] at hjn
 have hlens : a.length <= s.length /\ b.length <= s.length /\ c.length <= s.length /\ d.length <= s.length /\ e.length <= s.length:=by
  rw [<- hjn]
  simp [jn]
  omega
 have s1:=fa.size
 have s2:=fb.size
 have s3:=fc.size
 have s4:=fd.size
 have l1:=bk_lt hx1
 have l8:=bk_lt hx8
 have l9:=bk_lt hx9
 have nd : NS w wd v [a, b, c, d, e] x1 x8 x9 [.int .i64 0, .int .i64 0, .int .i64 0, .int .i64 0] [.bool false, .bool false, .bool false, .bool false, .bool false]:={
  tb:=((ta.fr0 fb).fr0 fc).fr0 fd
  ws:=by rw [<- hN]; exact (hv.1.fr0 fc).fr0 fd
  b1:=fd.bk_some (fc.bk_some hx1b id) id
  w1:=by rw [fd.wr (by omega) id, fc.wr (by omega) id]; exact hw1b
  b8:=fd.bk_some hx8 id
  w8:=by rw [fd.wr l8 id]; exact hw8
  b9:=hx9
  w9:=hw9
  e8:=rfl
  e9:=rfl
  n1:=hx1le
  n8:=by omega
  n9:=by omega
  d8:=⟨by omega, by omega, by omega, λ h => by have:=(hvn _ h).2; omega, λ h => by have:=(hvn _ h).2; omega⟩
  low:=tb_low ht
  fr:=((fa.trans fb λ _ _ => id).trans fc λ _ _ => id).trans fd λ _ _ => id }
 refine nd.word (i:=0) (s:=a) rfl (λ w => number_run a (by omega)) λ we ne => ?_
 refine ne.both (i:=0) (by decide) λ we ne => ?_
 refine ne.word (i:=1) (s:=b) rfl (λ w => number_run b (by omega)) λ we ne => ?_
 refine ne.both (i:=1) (by decide) λ we ne => ?_
 refine ne.word (i:=2) (s:=c) rfl (λ w => number_run c (by omega)) λ we ne => ?_
 refine ne.both (i:=2) (by decide) λ we ne => ?_
 refine ne.word (i:=3) (s:=d) rfl (λ w => sumOf_run (by omega)) λ we ne => ?_
 refine ne.both (i:=3) (by decide) λ we ne => ?_
 refine ne.word (i:=4) (s:=e) rfl (λ w => sumOf_run (by omega)) λ we ne => ?_
 have e0 : extV 0 (numV (sumF e)) = some (.int .i64 (((sumF e).getD 0 : Nat) : Int)):=rfl
 have e1 : extV 1 (numV (sumF e)) = some (.bool (sumF e).isSome):=rfl
 rw [e0, Run_bindO_some, e1, Run_bindO_some]
 have i4:=idxR5 (x:=x9) (k:=4) (by decide)
 have i4' : idxR 5 1 (.pointer (some ⟨x9, 0, none⟩)) (.int .i64 4) = some (.pointer (some ⟨x9, 4, none⟩)):=i4
 rw [i4', Run_bindO_some, Run_bind, Run_stM (by rfl) (by rfl) ⟨⟨_, ne.b9, by rw [ne.e9]; decide⟩, ne.w9⟩]
 replace ne:=ne.put9 4 (.bool (sumF e).isSome)
 have l9e:=ldA_bk (o:=0) (n:=5) ne.b9 (by rw [ne.e9]; decide)
 have l8e:=ldA_bk (o:=0) (n:=4) ne.b8 (by rw [ne.e8]; decide)
 replace l9e : ldA 5 (.pointer (some ⟨x9, 0, none⟩)) (sto we x9 4 [.bool (sumF e).isSome]) = some (.agg #[.bool (numF a).isSome, .bool (numF b).isSome, .bool (numF c).isSome, .bool (sumF d).isSome, .bool (sumF e).isSome]):=l9e
 have bt : buildV #[(Value.bool false), (Value.bool false), (Value.bool false), (Value.bool false), (Value.bool false)] [(0, 1, (Value.bool true)), (1, 1, (Value.bool true)), (2, 1, (Value.bool true)), (3, 1, (Value.bool true)), (4, 1, (Value.bool true))] = some (.agg #[.bool true, .bool true, .bool true, .bool true, .bool true]):=by kernel_rfl
 have hm : ∀ n : Nt, n.ok -> noteL n = s ++ [10] -> numF a = some n.k.toNat /\ numF b = some n.f.toNat /\ numF c = some n.u.toNat /\ sumF d = some n.c.toNat /\ (sumF e).isSome = true:=λ n hn he => by
  have hw:=line_words he
  rw [hN] at hw
  simp only [wordsL, List.cons.injEq, and_true] at hw
  obtain ⟨h1, h2, h3, h4, h5⟩:=hw
  obtain ⟨r1, r2, r3, r4⟩:=ok_read hn
  rw [h1, h2, h3, h4, h5]
  exact ⟨r1, r2, r3, r4, by rw [eight_sum (crcF_lt _)]; rfl⟩
 generalize hnt : (⟨(((numF a).getD 0 : Nat) : Int), (((numF b).getD 0 : Nat) : Int), (((numF c).getD 0 : Nat) : Int), (((sumF d).getD 0 : Nat) : Int)⟩ : Nt) = m
 replace l8e : ldA 4 (.pointer (some ⟨x8, 0, none⟩)) (sto we x9 4 [.bool (sumF e).isSome]) = some m.v:=by rw [<- hnt]; exact l8e
 have hmm : ∀ n : Nt, n.ok -> noteL n = s ++ [10] -> m = n:=λ n hn he => by
  obtain ⟨h1, h2, h3, h4, _⟩:=hm n hn he
  rw [<- hnt, h1, h2, h3, h4]
  exact Nt.cast hn
 show Run _ (sto we x9 4 [.bool (sumF e).isSome]) _
 rw [Run_bind, Run_rdM]
 refine ⟨_, l9e, ?_⟩
 rw [bt, Run_bindO_some, neOk, Run_bindO_some]
 cases hok : ((numF a).isSome && (numF b).isSome && (numF c).isSome && (sumF d).isSome && (sumF e).isSome) with
 | false =>
  rw [Bool.not_false, Run_condM_true, z0, Run_bindO_some, Run_bind, Run_stM (by rfl) (by rfl) ⟨⟨_, ne.b1, by simp⟩, ne.w1⟩, Run_bind, Run_rdM]
  have hb:=bk_sto_same (o:=0) ne.b1 (Value.agg #[(Value.int IntKind.i64 0), (Value.int IntKind.i64 0), (Value.int IntKind.i64 0), (Value.int IntKind.i64 0)]).cells.toList
  refine ⟨_, ldA_bk hb (by first | exact Nat.le_refl _ | simp), ?_⟩
  rw [Run_ret]
  refine ⟨⟨⟨0, 0, 0, 0⟩, false, rfl, λ h => Bool.noConfusion h, λ n hn he => ?_⟩, ne.fr.sto (.inr ne.n1) _ _⟩
  obtain ⟨h1, h2, h3, h4, h5⟩:=hm n hn he
  rw [h1, h2, h3, h4, h5] at hok
  simp at hok
 | true =>
  rw [Bool.not_true, Run_condM_false, Run_bind, Run_rdM]
  refine ⟨_, l8e, ?_⟩
  rw [Run_bind]
  refine (print_run ne.tb m).mono ?_
  rintro _ wf ⟨rfl, ff⟩
  have nf:=ne.frm ff
  have l8f:=ldA_bk (o:=0) (n:=4) nf.b8 (by rw [nf.e8]; decide)
  replace l8f : ldA 4 (.pointer (some ⟨x8, 0, none⟩)) wf = some m.v:=by rw [<- hnt]; exact l8f
  have hst : ∀ y : Bool, (y = true -> m.ok /\ noteL m = s ++ [10]) -> (∀ n : Nt, n.ok -> noteL n = s ++ [10] -> y = true) -> Run (stM 4 (.pointer (some ⟨x1, 0, none⟩)) m.v) wf λ _ w1 => Run (rdM (ldA 4 (.pointer (some ⟨x1, 0, none⟩)))) w1 λ a w' => NoteP w w' s (.tuple #[a, .bool y]):=by
   intro y hy1 hy2
   rw [Run_stM (by rfl) (by rfl) ⟨⟨_, nf.b1, by simp [Nt.v, Value.cells]⟩, nf.w1⟩, Run_rdM]
   have hb:=bk_sto_same (o:=0) nf.b1 m.v.cells.toList
   refine ⟨_, ldA_bk hb (by first | exact Nat.le_refl _ | simp), ?_⟩
   exact ⟨⟨m, y, rfl, hy1, λ n hn he => ⟨hmm n hn he, hy2 n hn he⟩⟩, nf.fr.sto (.inr nf.n1) _ _⟩
  by_cases hmo : m.ok
  ·have e10 : ByteArray.mk #[10] = sb [10]:=rfl
   have ea:=sbAdd (a:=s) (c:=[10]) (by simp; omega)
   have eq:=sbEq (noteL m) (s ++ [10])
   rw [noteO, if_pos hmo]
   have x0 : extV 0 (.tuple #[.string ⟨(noteL m).toArray⟩, .int .i64 0]) = some (.string (sb (noteL m))):=rfl
   have x1' : extV 1 (.tuple #[.string ⟨(noteL m).toArray⟩, .int .i64 0]) = some (.int .i64 0):=rfl
   rw [x0, Run_bindO_some, x1', Run_bindO_some, Run_bind, Run_rdM]
   refine ⟨_, l8f, ?_⟩
   simp only [binV_int, intBin_eql, decide_true, Run_bindO_some, Run_bind, Run_guardM_tt, Run_ret, e10, ea, Run_optM_some, eq, pickV_bool, cond_true]
   refine hst (decide (noteL m = s ++ [10])) (λ h => ⟨hmo, of_decide_eq_true h⟩) λ n hn he => ?_
   rw [hmm n hn he]
   exact decide_eq_true he
  ·rw [noteO, if_neg hmo]
   have x0 : extV 0 (.tuple #[.string (ByteArray.mk #[]), .int .i64 42]) = some (.string (ByteArray.mk #[])):=rfl
   have x1' : extV 1 (.tuple #[.string (ByteArray.mk #[]), .int .i64 42]) = some (.int .i64 42):=rfl
   rw [x0, Run_bindO_some, x1', Run_bindO_some, Run_bind, Run_rdM]
   refine ⟨_, l8f, ?_⟩
   have h42 : ¬ (42 : Int) = 0:=by decide
   simp only [binV_int, intBin_eql, h42, decide_false, Run_bindO_some, Run_bind, Run_guardM_ft, Run_ret, pickV_bool, cond_false]
   refine hst false (λ h => Bool.noConfusion h) λ n hn he => ?_
   exact absurd (hmm n hn he ▸ hn) hmo
end
section
variable {w w1 w2 : World}
structure RN (w0 w : World) (b : Nat) (l : List UInt8) (p : Nat) (bad : Bool) (x1 x6 : Nat) (l6 : List Value) : Prop where
 tb : Tb w
 rs : RS w b l p bad
 hp : p <= l.length
 b1 : bk w x1 = some [.int .i64 0, .int .i64 0, .int .i64 0, .int .i64 0]
 w1 : wr w x1 = true
 b6 : bk w x6 = some l6
 w6 : wr w x6 = true
 e6 : l6.length = 4
 n1 : w0.heap.size <= x1
 n6 : w0.heap.size <= x6
 ne : x1 ≠ x6
 nb : b < w0.heap.size
 b5 : 11 <= b
 fr : Fr (λ c => c = b) w0 w
theorem RN.call {w0 : World} {b p : Nat} {l : List UInt8} {bad : Bool} {x1 x6 : Nat} {l6 : List Value} (h : RN w0 w b l p bad x1 x6 l6) (f : Fr (λ c => c = b) w w2) {p' : Nat} {bad' : Bool} (rs : RS w2 b l p' bad') (hp : p' <= l.length) : RN w0 w2 b l p' bad' x1 x6 l6 where
 tb:=h.tb.fr f λ c hc he => by have:=h.b5; omega
 rs:=rs
 hp:=hp
 b1:=f.bk_some h.b1 λ e => by have:=h.n1; have:=h.nb; omega
 w1:=by rw [f.wr (bk_lt h.b1) λ e => by have:=h.n1; have:=h.nb; omega]; exact h.w1
 b6:=f.bk_some h.b6 λ e => by have:=h.n6; have:=h.nb; omega
 w6:=by rw [f.wr (bk_lt h.b6) λ e => by have:=h.n6; have:=h.nb; omega]; exact h.w6
 e6:=h.e6
 n1:=h.n1
 n6:=h.n6
 ne:=h.ne
 nb:=h.nb
 b5:=h.b5
 fr:=h.fr.trans f λ _ _ he => he
theorem RN.put6 {w0 : World} {b p : Nat} {l : List UInt8} {bad : Bool} {x1 x6 : Nat} {l6 : List Value} (h : RN w0 w b l p bad x1 x6 l6) (i : Nat) (y : Value) : RN w0 (sto w x6 i [y]) b l p bad x1 x6 (l6.set i y):=by
 have f : Fr (λ c => c = x6) w (sto w x6 i [y]):=(show Fr (λ c => c = x6) w w from Fr.refl _ _).sto (.inl rfl) _ _
 have h6:=h.n6
 have hb:=h.nb
 have h5:=h.b5
 exact {
   tb:=h.tb.fr f λ c hc he => by omega
   rs:=⟨f.bk_some h.rs.1 λ e => by omega, by rw [wr_sto]; exact h.rs.2⟩
   hp:=h.hp
   b1:=f.bk_some h.b1 h.ne
   w1:=by rw [wr_sto]; exact h.w1
   b6:=by rw [bk_sto_same h.b6]; simp only [setL_cons, setL_nil]
   w6:=by rw [wr_sto]; exact h.w6
   e6:=by rw [List.length_set]; exact h.e6
   n1:=h.n1, n6:=h.n6, ne:=h.ne, nb:=h.nb, b5:=h.b5
   fr:=h.fr.sto (.inr h.n6) _ _ }
theorem RN.lit {β : Type} {w0 : World} {b p : Nat} {l : List UInt8} {bad : Bool} {x1 x6 : Nat} {l6 : List Value} (h : RN w0 w b l p bad x1 x6 l6) (hl : l.length <= 4611686018427387904) {y : List UInt8} (hy : y.length <= 4611686018427387904) {K : M β} {Q : β -> World -> Prop}
  (q : ∀ w' p', RN w0 w' b l p' (bad || !decide (y <+: l.drop p)) x1 x6 l6 -> (bad = false -> y <+: l.drop p -> p' = p + y.length) -> Run K w' Q) :
  Run (M.bind (F.granaryref4_Reader_lit (.pointer (some ⟨b, 0, none⟩)) (.string (sb y))) λ _ => K) w Q:=by
 rw [Run_bind]
 refine (rlit_run h.rs h.hp hl hy).mono ?_
 rintro _ w2 ⟨⟨p', rs, hp', hh⟩, f⟩
 exact q w2 p' (h.call f rs hp') hh
theorem RN.sum {β : Type} {w0 : World} {b p : Nat} {l : List UInt8} {bad : Bool} {x1 x6 : Nat} {l6 : List Value} (h : RN w0 w b l p bad x1 x6 l6) (hl : l.length <= 4611686018427387904) {i : Nat} (hi : i < 4) {K : M β} {Q : β -> World -> Prop}
  (q : ∀ w' p', RN w0 w' b l p' (if bad then none else (pairsF (l.drop p) 4).map valB).isNone x1 x6 (l6.set i (.int .i64 ((((if bad then none else (pairsF (l.drop p) 4).map valB).getD 0 : Nat)) : Int))) -> Run K w' Q) :
  Run (M.bind (F.granaryref4_Reader_sum (.pointer (some ⟨b, 0, none⟩))) λ x8 => bindO (fieldA i (.pointer (some ⟨x6, 0, none⟩))) λ x9 => M.bind (stM 1 x9 x8) λ _ => K) w Q:=by
 rw [Run_bind]
 refine (rsum_run h.rs h.hp hl).mono ?_
 rintro _ w2 ⟨rfl, ⟨p', rs, hp', _⟩, f⟩
 have h2:=h.call f rs hp'
 generalize (if bad = true then none else (pairsF (l.drop p) 4).map valB) = o at *
 rw [fieldA_ptr, Run_bindO_some, Run_bind, Run_stM (by rfl) (by rfl) ⟨⟨l6, h2.b6, by rw [h2.e6]; show 0 + i + 1 <= 4; omega⟩, h2.w6⟩]
 have h3:=h2.put6 (0 + i) (.int .i64 ((o.getD 0 : Nat) : Int))
 have q2:=q (sto w2 x6 (0 + i) [.int .i64 ((o.getD 0 : Nat) : Int)]) p'
 rw [Nat.zero_add] at h3 q2
 rw [Nat.zero_add]
 exact q2 h3
end
def allL (ns : List Nt) : List UInt8:=(ns.map noteL).flatten
structure Chn (l : List UInt8) (ns : List Nt) : Prop where
 ok : ∀ n ∈ ns, n.ok
 pre : allL ns <+: l
 far : ∀ n : Nt, n.ok -> ¬ noteL n <+: l.drop (allL ns).length
theorem note_len (n : Nt) : 1 <= (noteL n).length:=by simp [noteL]; omega
theorem Chn.at {l : List UInt8} {ns : List Nt} (h : Chn l ns) {i : Nat} {n : Nt} (hi : ns[i]? = some n) : n.ok /\ noteL n <+: l.drop (allL (ns.take i)).length /\ allL (ns.take (i + 1)) = allL (ns.take i) ++ noteL n /\ (allL (ns.take i)).length + (noteL n).length <= l.length:=by
 have e : allL (ns.take (i + 1)) = allL (ns.take i) ++ noteL n:=by
  rw [take_snocP hi]; simp [allL]
 have hsplit : allL ns = allL (ns.take (i + 1)) ++ allL (ns.drop (i + 1)):=by
  unfold allL
  rw [<- List.flatten_append, <- List.map_append, List.take_append_drop]
 obtain ⟨r, hr⟩:=h.pre
 rw [hsplit, e] at hr
 refine ⟨h.ok n (List.mem_of_getElem? hi), ⟨allL (ns.drop (i + 1)) ++ r, ?_⟩, e, ?_⟩
 ·rw [<- hr]; simp
 ·rw [<- hr, List.length_append, List.length_append, List.length_append]; omega
theorem Chn.count {l : List UInt8} {ns : List Nt} (h : Chn l ns) : ns.length <= l.length:=by
 have h1:=h.pre.length_le
 have h2 : ∀ ns : List Nt, ns.length <= (allL ns).length:=λ ns => by
  induction ns with
  | nil => simp
  | cons n ns ih =>
   have:=note_len n
   simp only [allL, List.map_cons, List.flatten_cons, List.length_append, List.length_cons] at ih ⊢
   omega
 have:=h2 ns
 omega
theorem nt_line (n : Nt) : noteL n = jn 32 (wordsL n) ++ 10 :: []:=note_words n
section
variable {w w1 w2 : World}
def Nt.row (n : Nt) : List Value:=[.int .i64 n.k, .int .i64 n.f, .int .i64 n.u, .int .i64 n.c]
structure OwnN (w w1 : World) (v : Value) (ns : List Nt) : Prop where
 sl : SlW 4 w1 v (ns.map Nt.row)
 fresh : ∀ c, inB v c -> w.heap.size <= c /\ c < w1.heap.size
 fr : Fr (λ _ => False) w w1
theorem OwnN.frm {v : Value} {ns : List Nt} (h : OwnN w w1 v ns) (f : Fr (λ _ => False) w1 w2) : OwnN w w2 v ns:=⟨h.sl.fr f λ _ _ => id, λ c hc => ⟨(h.fresh c hc).1, Nat.lt_of_lt_of_le (h.fresh c hc).2 f.size⟩, h.fr.trans f λ _ _ => id⟩
theorem ownN_app {v : Value} {ns : List Nt} (h : OwnN w w1 v ns) (n : Nt) {a1 a2 : Nat} (hl : ns.length <= 4294967296) {K : Value -> World -> Prop} (q : ∀ r w2, OwnN w w2 r (ns ++ [n]) -> Fr (inB v) w1 w2 -> K r w2) :
  Run (bslM a1 1 (Builtin.zeroCells #[(Value.int IntKind.i64 0), (Value.int IntKind.i64 0), (Value.int IntKind.i64 0), (Value.int IntKind.i64 0)] 1) [(0, 4, n.v)]) w1 λ a w2 => Run (appM a2 4 32 #[(Value.int IntKind.i64 0), (Value.int IntKind.i64 0), (Value.int IntKind.i64 0), (Value.int IntKind.i64 0)] v a) w2 λ r w' => K r w':=by
 refine Run_app1 (K:=λ _ r w' => K r w') (k:=4) (y:=n.v) rfl h.sl (by decide) rfl (by decide) rfl (by simp only [List.length_map]; omega) λ r w2 hr f2 hin w3 f3 => q r w2 ?_ f2
 have s:=f2.size
 refine ⟨by rw [List.map_append]; exact hr, λ c hc => ?_, h.fr.new f2 λ c hc => (h.fresh c hc).1⟩
 have s0:=h.fr.size
 rcases hin c hc with hc | hc
 ·have:=h.fresh c hc; omega
 ·omega
theorem parse_run (ht : Tb w) {l : List UInt8} (hl : l.length <= 4294966000) {ns : List Nt} (hc : Chn l ns) : Run (F.paper_ParseNotes (.string (sb l))) w λ r w' => ∃ v, r = .tuple #[v, .int .i64 (((allL ns).length : Nat) : Int)] /\ OwnN w w' v ns:=by
 unfold F.paper_ParseNotes
 rw [Run_bind]
 have hcn:=hc.count
 have e10 : ByteArray.mk #[10] = sb [10]:=rfl
 rw [e10]
 refine Run_for ns.length (λ i L w' => ∃ v, L = [v, .int .i64 (((allL (ns.take i)).length : Nat) : Int)] /\ OwnN w w' v (ns.take i)) ⟨_, rfl, SlW.nil _ _, λ _ h => h.elim, Fr.refl _ _⟩ ?_ ?_
 ·rintro i L w1 hi ⟨v, rfl, hO⟩
  obtain ⟨n, hn⟩ : ∃ n, ns[i]? = some n:=⟨_, List.getElem?_eq_getElem hi⟩
  obtain ⟨hok, ⟨t, ht2⟩, hnext, hle⟩:=hc.at hn
  rw [hnext, List.length_append, take_snocP hn]
  have hcut : cutL 10 (l.drop (allL (ns.take i)).length) = some (jn 32 (wordsL n), t):=by
   rw [<- ht2, nt_line]
   simp only [List.append_assoc, List.cons_append, List.nil_append]
   exact cut_at (no10w n)
  have hnl:=nt_line n
  have hlen : (noteL n).length = (jn 32 (wordsL n)).length + 1:=by rw [hnl]; simp
  generalize (allL (ns.take i)).length = p at *
  have hsl:=slFrom (l:=l) (n:=p) (by omega)
  have hdl : (l.drop p).length <= l.length:=by rw [List.length_drop]; omega
  rw [getL_succ, getL_zero, hsl, Run_bindO_some, Run_bind]
  refine (cut_run (l.drop p) 10 (by omega)).mono ?_
  rintro _ w2 ⟨rfl, f2⟩
  rw [hcut]
  have t2:=(ht.fr0 hO.fr).fr0 f2
  have x0 : extV 0 (.tuple #[.string (sb (jn 32 (wordsL n))), .string (sb t), .bool true]) = some (.string (sb (jn 32 (wordsL n)))):=rfl
  have x1 : extV 1 (.tuple #[.string (sb (jn 32 (wordsL n))), .string (sb t), .bool true]) = some (.string (sb t)):=rfl
  have x2 : extV 2 (.tuple #[.string (sb (jn 32 (wordsL n))), .string (sb t), .bool true]) = some (.bool true):=rfl
  have ec : cutV (l.drop p) (some (jn 32 (wordsL n), t)) = .tuple #[.string (sb (jn 32 (wordsL n))), .string (sb t), .bool true]:=rfl
  rw [ec]
  rw [x0, Run_bindO_some, x1, Run_bindO_some, x2, Run_bindO_some, Run_bind]
  refine (note_run t2 (jn 32 (wordsL n)) (by omega)).mono ?_
  rintro _ w3 ⟨⟨m, b, rfl, hb1, hb2⟩, f3⟩
  obtain ⟨rfl, rfl⟩:=hb2 n hok hnl
  have y0 : extV 0 (.tuple #[m.v, .bool true]) = some m.v:=rfl
  have y1 : extV 1 (.tuple #[m.v, .bool true]) = some (.bool true):=rfl
  rw [y0, Run_bindO_some, y1, Run_bindO_some, Run_bind]
  refine Run_new λ x10 w4 hx10 hw10 f4 hxle => ?_
  rw [Run_bind, Run_stM (by rfl) (by rfl) ⟨⟨_, hx10, by simp [Nt.v, Value.cells]⟩, hw10⟩]
  have hb:=bk_sto_same (o:=0) hx10 m.v.cells.toList
  have f5 : Fr (λ _ => False) w3 (sto w4 x10 0 m.v.cells.toList):=f4.sto (.inr hxle) _ _
  have hO5:=((hO.frm f2).frm f3).frm f5
  have l10 : ldA 4 (.pointer (some ⟨x10, 0, none⟩)) (sto w4 x10 0 m.v.cells.toList) = some m.v:=ldA_bk hb (by first | exact Nat.le_refl _ | simp)
  generalize sto w4 x10 0 m.v.cells.toList = w5 at *
  have nv : notV (.bool true) = some (.bool false):=rfl
  simp only [nv, Run_bindO_some, Run_bind, Run_guardM_ff, Run_ret, Run_optM_some, pickV_bool, cond_false, Run_condM_false, Run_rdM]
  refine ⟨_, l10, ?_⟩
  rw [getL_zero]
  refine ownN_app hO5 m (by rw [List.length_take]; omega) λ r w6 h6 _ => ?_
  have hw1 : IntKind.i64.wrap (((jn 32 (wordsL m)).length : Int) + 1) = (((jn 32 (wordsL m)).length + 1 : Nat) : Int):=wrap_succ' (by omega)
  have hw2 : IntKind.i64.wrap ((p : Int) + (((jn 32 (wordsL m)).length + 1 : Nat) : Int)) = ((p + ((jn 32 (wordsL m)).length + 1) : Nat) : Int):=by rw [show (p : Int) + (((jn 32 (wordsL m)).length + 1 : Nat) : Int) = ((p + ((jn 32 (wordsL m)).length + 1) : Nat) : Int) by omega]; exact i64W (by omega)
  rw [lenS_string, sb_size, Run_bindO_some, binV_int, intBin_add, hw1, Run_bindO_some, binV_int, intBin_add, hw2, Run_bindO_some, Run_ret, hlen]
  exact ⟨r, rfl, h6⟩
 ·rintro L w1 ⟨v, rfl, hO⟩
  rw [List.take_length] at hO ⊢
  have hpl:=hc.pre.length_le
  have hfar:=hc.far
  generalize (allL ns).length = p at *
  have hsl:=slFrom (l:=l) (n:=p) hpl
  have hdl : (l.drop p).length <= l.length:=by rw [List.length_drop]; omega
  rw [getL_succ, getL_zero, hsl, Run_bindO_some, Run_bind]
  refine (cut_run (l.drop p) 10 (by omega)).mono ?_
  rintro _ w2 ⟨rfl, f2⟩
  have t2:=(ht.fr0 hO.fr).fr0 f2
  obtain ⟨s, t, e, hcv, hlen, hgood⟩ : ∃ (s t : List UInt8) (e : Bool), cutV (l.drop p) (cutL 10 (l.drop p)) = .tuple #[.string (sb s), .string (sb t), .bool e] /\ s.length <= l.length /\ (e = true -> l.drop p = s ++ 10 :: t):=by
   cases hcu : cutL 10 (l.drop p) with
   | some q =>
    have:=(cut_some (x:=q.1) (y:=q.2) hcu).1
    refine ⟨q.1, q.2, true, rfl, ?_, λ _ => this⟩
    have h2:=congrArg List.length this
    rw [List.length_append] at h2
    omega
   | none => exact ⟨_, [], false, rfl, hdl, λ h => Bool.noConfusion h⟩
  rw [hcv]
  have x0 : extV 0 (.tuple #[.string (sb s), .string (sb t), .bool e]) = some (.string (sb s)):=rfl
  have x1 : extV 1 (.tuple #[.string (sb s), .string (sb t), .bool e]) = some (.string (sb t)):=rfl
  have x2 : extV 2 (.tuple #[.string (sb s), .string (sb t), .bool e]) = some (.bool e):=rfl
  rw [x0, Run_bindO_some, x1, Run_bindO_some, x2, Run_bindO_some, Run_bind]
  refine (note_run t2 s (by omega)).mono ?_
  rintro _ w3 ⟨⟨m, b, rfl, hb1, hb2⟩, f3⟩
  have heb : (!e || !b) = true:=by
   cases e with
   | false => rfl
   | true =>
    cases b with
    | false => rfl
    | true =>
     obtain ⟨hok, hnl⟩:=hb1 rfl
     exact absurd ⟨t, by rw [hgood rfl, hnl]; simp⟩ (hfar m hok)
  have y0 : extV 0 (.tuple #[m.v, .bool b]) = some m.v:=rfl
  have y1 : extV 1 (.tuple #[m.v, .bool b]) = some (.bool b):=rfl
  rw [y0, Run_bindO_some, y1, Run_bindO_some, Run_bind]
  refine Run_new λ x10 w4 hx10 hw10 f4 hxle => ?_
  rw [Run_bind, Run_stM (by rfl) (by rfl) ⟨⟨_, hx10, by simp [Nt.v, Value.cells]⟩, hw10⟩]
  have f5 : Fr (λ _ => False) w3 (sto w4 x10 0 m.v.cells.toList):=f4.sto (.inr hxle) _ _
  have hO5:=((hO.frm f2).frm f3).frm f5
  generalize sto w4 x10 0 m.v.cells.toList = w5 at *
  have nv : ∀ b, notV (.bool b) = some (.bool !b):=λ _ => rfl
  have hret : ∀ K, Run (condM (.bool true) (M.ret (Out.ret (Value.tuple #[getL [v, .int .i64 (p : Int)] 0, getL [v, .int .i64 (p : Int)] 1]))) K) w5 λ o w' => match o with
    | .norm _ => False
    | o => Run (outK o (λ _ => M.fail) (λ _ _ => M.fail) λ r25 => M.ret r25) w' λ r w' => ∃ v, r = .tuple #[v, .int .i64 (p : Int)] /\ OwnN w w' v ns:=λ K => by
   rw [Run_condM_true, Run_ret]
   simp only [outK_ret, Run_ret, getL_zero, getL_succ]
   exact ⟨v, rfl, hO5⟩
  cases e with
  | false =>
   simp only [nv, Bool.not_false, Run_bindO_some, Run_bind, Run_guardM_tf, pickV_bool, cond_true]
   exact hret _
  | true =>
   cases b with
   | true => simp at heb
   | false =>
    simp only [nv, Bool.not_true, Bool.not_false, Run_bindO_some, Run_bind, Run_guardM_ff, Run_ret, Run_optM_some, pickV_bool, cond_false]
    exact hret _
end
section
variable {w w1 w2 : World}
theorem neRow (n : Nt) : neV (EqSh.offs [(EqK.int, 0), (EqK.int, 1), (EqK.int, 2), (EqK.int, 3)]) (.agg n.row.toArray) (.agg n.row.toArray) = some (.bool false):=by
 simp [Nt.row, eqOffs, eqPrim]
end
section
variable {w w1 w2 : World}
def RowB (A : Nat -> Prop) (w : World) (x : Nat) (v : Value) (l : List UInt8) : Prop:=(l = [] /\ v = .slice none 0 0) ∨
 ∃ (g cap : Nat) (cs : Array Value), v = .slice (some ⟨g, 0, none⟩) l.length cap /\ w.heap[g]? = some (.cells cs 5 (0, 0)) /\ cs.size = cap /\ l.length <= cap /\ (cs.toList.take l.length = l.map λ b => Value.int .u8 b.toNat) /\ ¬ A g /\ x ≠ g
theorem raw_app {A : Nat -> Prop} {x : Nat} {v y : Value} {l s : List UInt8} (h : RowB A w x v l) (hA : ∀ c, A c -> c < w.heap.size) (hx : x < w.heap.size) (hn : lenN y = some s.length) (hf : firstN w 1 s.length y = some (s.map λ b => Value.int .u8 b.toNat))
  (hs : s ≠ []) (hl : l.length + s.length <= 1073741824) : Run (appM 5 1 1 #[.int .u8 0] v y) w λ r w1 => RowB A w1 x r (l ++ s) /\ w1.heap[x]? = w.heap[x]? /\ Fr (λ c => ¬ A c /\ c ≠ x) w w1:=by
 have hs0 : s.length ≠ 0:=by simpa using hs
 have grow : ∀ (cap : Nat) (old : List Value), (∃ a, v = .slice a l.length cap) -> ¬ (l.length + s.length <= cap) -> cap <= 1073741824 -> firstN w 1 l.length v = some old -> old = l.map (λ b => Value.int .u8 b.toNat) -> Run (appM 5 1 1 #[.int .u8 0] v y) w λ r w1 => RowB A w1 x r (l ++ s) /\ w1.heap[x]? = w.heap[x]? /\ Fr (λ c => ¬ A c /\ c ≠ x) w w1:=by
  rintro cap old ⟨a, rfl⟩ hroom hcap ho rfl
  unfold Run appM
  simp only [hn]
  rw [if_neg hroom]
  have hg : Builtin.nextslicecap (l.length + s.length) cap * 1 <= 2 ^ 48:=growslice_fits_wide (by omega) (by omega)
  rw [if_neg (not_or.2 ⟨by decide, Nat.not_lt.2 hg⟩)]
  simp only [ho, hf]
  have hge : l.length + s.length <= (Question.appendCap (l.length + s.length) cap 5).cut (w.tape w.drawn (.appendCap (l.length + s.length) cap 5)):=by simp only [Question.cut]; omega
  generalize (Question.appendCap (l.length + s.length) cap 5).cut (w.tape w.drawn (.appendCap (l.length + s.length) cap 5)) = C at hge
  refine ⟨_, _, rfl, .inr ⟨w.heap.size, C, ((l.map λ b => Value.int .u8 (b.toNat : Int)) ++ s.map λ b => Value.int .u8 (b.toNat : Int)).toArray ++ Builtin.zeroCells #[.int .u8 0] (C - (l.length + s.length)), by rw [List.length_append], ?_, ?_, ?_, ?_, λ h => Nat.lt_irrefl _ (hA _ h), by omega⟩, ?_, ((Fr.refl _ w).drew).alloc _⟩
  ·show (w.heap.push _)[w.heap.size]? = _
   simp
  ·simp [size_zeroCells]
   omega
  ·rw [List.length_append]; exact hge
  ·rw [List.length_append]
   simp only [Array.toList_append]
   rw [List.take_append_of_le_length (by simp), List.take_of_length_le (by simp)]
   simp
  ·show (w.heap.push _)[x]? = _
   rw [Array.getElem?_push, if_neg (by omega)]
 rcases h with ⟨rfl, rfl⟩ | ⟨g, cap, cs, rfl, h1, h2, h3, h4, h5, h6⟩
 ·exact grow 0 [] ⟨_, rfl⟩ (by simp; omega) (by decide) rfl rfl
 ·have hbk : bk w g = some cs.toList:=by unfold bk; rw [h1]
  have hwr : wr w g = true:=by unfold wr; rw [h1]; simp
  have hcl : cs.toList.length = cap:=(Array.length_toList (xs:=cs)).trans h2
  by_cases hroom : l.length + s.length <= cap
  ·unfold Run appM
   simp only [hn]
   rw [if_pos hroom]
   simp only [hf]
   have hst : stN (Addr.add ⟨g, 0, none⟩ (l.length * 1)) (s.map λ b => Value.int .u8 b.toNat) w = some (sto w g l.length (s.map λ b => Value.int .u8 b.toNat)):=by
    simp only [Addr.add_lit, stN, Nat.zero_add, Nat.mul_one]
    rw [if_neg (by simpa using hs)]
    simp only [hbk]
    rw [if_pos ⟨⟨by rw [List.length_map]; omega, byteV_all _⟩, hwr⟩]
   simp only [hst]
   have hfr : Fr (λ c => c = g) w (sto w g l.length (s.map λ b => Value.int .u8 b.toNat)):=(show Fr (λ c => c = g) w w from Fr.refl _ _).sto (.inl rfl) _ _
   refine ⟨_, _, rfl, .inr ⟨g, cap, (setL cs.toList l.length (s.map λ b => Value.int .u8 b.toNat)).toArray, by rw [List.length_append], ?_, ?_, by rw [List.length_append]; exact hroom, ?_, h5, h6⟩, hfr.block x hx h6, hfr.mono λ c hc => hc ▸ ⟨h5, λ e => h6 e.symm⟩⟩
   ·simp only [sto, Array.getElem?_modify, h1, if_true]
    rfl
   ·rw [List.size_toArray, length_setL, hcl]
   ·have:=drop_take_setL (l:=cs.toList) (o:=0) (p:=l.length) (n:=l.length) (vs:=s.map λ b => Value.int .u8 b.toNat) (by rw [List.length_map]; omega) (by omega)
    simp only [List.drop_zero, List.length_map] at this
    rw [List.toList_toArray, List.length_append, this, h4, List.map_append]
  ·by_cases hcap : cap <= 1073741824
   ·refine grow cap _ ⟨_, rfl⟩ hroom hcap ?_ h4
    have:=ldN_bk (o:=0) (n:=l.length) hbk (by omega)
    simp only [firstN, Nat.mul_one]
    rw [this, List.drop_zero]
   ·omega
structure BG (A : Nat -> Prop) (w : World) (x : Nat) (l : List UInt8) : Prop where
 st : (l = [] /\ w.heap[x]? = some (.cells #[.pointer none, .slice none 0 0] 93 (0, 0))) ∨ ∃ v, bk w x = some [PtrB x, v] /\ wr w x = true /\ RowB A w x v l
 new : ¬ A x
 lo : ∀ c, A c -> c < w.heap.size
theorem RowB.frm {A : Nat -> Prop} {x : Nat} {v : Value} {l : List UInt8} (h : RowB A w x v l) (f : Fr (λ _ => False) w w2) : RowB A w2 x v l:=by
 rcases h with h | ⟨g, cap, cs, h1, h2, h3⟩
 ·exact .inl h
 ·exact .inr ⟨g, cap, cs, h1, by rw [f.block g (Array.getElem?_eq_some_iff.1 h2).1 id]; exact h2, h3⟩
theorem BG.frm {A : Nat -> Prop} {x : Nat} {l : List UInt8} (h : BG A w x l) (f : Fr (λ _ => False) w w2) : BG A w2 x l:=by
 refine ⟨?_, h.new, λ c hc => Nat.lt_of_lt_of_le (h.lo c hc) f.size⟩
 rcases h.st with ⟨h1, h2⟩ | ⟨v, h1, h2, h3⟩
 ·exact .inl ⟨h1, by rw [f.block x (Array.getElem?_eq_some_iff.1 h2).1 id]; exact h2⟩
 ·exact .inr ⟨v, f.bk_some h1 id, by rw [f.wr (bk_lt h1) id]; exact h2, h3.frm f⟩
theorem BG.lt {A : Nat -> Prop} {x : Nat} {l : List UInt8} (h : BG A w x l) : x < w.heap.size:=by
 rcases h.st with ⟨h1, h2⟩ | ⟨v, h1, h2, h3⟩
 ·exact (Array.getElem?_eq_some_iff.1 h2).1
 ·exact bk_lt h1
theorem BG.more {A : Nat -> Prop} {x : Nat} {l : List UInt8} (h : BG A w x l) (f : Fr (λ _ => False) w w2) : BG (λ c => A c ∨ (w.heap.size <= c /\ c < w2.heap.size)) w2 x l:=by
 have h2:=h.frm f
 refine ⟨?_, λ hx => hx.elim h.new λ hc => by have:=h.lt; omega, λ c hc => hc.elim (h2.lo c) (·.2)⟩
 rcases h2.st with h1 | ⟨v, h1, h3, h4⟩
 ·exact .inl h1
 ·refine .inr ⟨v, h1, h3, ?_⟩
  have hr : RowB A w x v l:=by
   rcases h.st with ⟨_, e2⟩ | ⟨v', e1, e2, e3⟩
   ·exfalso
    have e3:=f.block x (Array.getElem?_eq_some_iff.1 e2).1 id
    rw [e2] at e3
    unfold bk at h1
    rw [e3] at h1
    simp at h1
   ·have:=f.bk_some e1 id
    rw [h1] at this
    simp only [Option.some.injEq, List.cons.injEq, and_true, true_and] at this
    rw [this]; exact e3
  rcases hr with e | ⟨g, cap, cs, e1, e2, e3, e4, e5, e6, e7⟩
  ·exact .inl e
  ·have hg:=(Array.getElem?_eq_some_iff.1 e2).1
   exact .inr ⟨g, cap, cs, e1, by rw [f.block g hg id]; exact e2, e3, e4, e5, λ hc => hc.elim e6 λ hc => by omega, e7⟩
theorem bgCheck {A : Nat -> Prop} {x : Nat} {l : List UInt8} (h : BG A w x l) {Q : Value -> World -> Prop} (q : ∀ w' v, bk w' x = some [PtrB x, v] -> wr w' x = true -> RowB A w' x v l -> Fr (λ c => ¬ A c) w w' -> Q (.tuple #[]) w') :
  Run (F.strings_Builder_copyCheck (PtrB x)) w Q:=by
 rcases h.st with ⟨rfl, hh⟩ | ⟨v, h1, h2, h3⟩
 ·have h0 : w.cell? ⟨x, 0, none⟩ = some (.pointer none):=by
   unfold World.cell?
   rw [hh]; rfl
  have h1 : w.shape? x = some (93, 2):=by
   unfold World.shape?
   rw [hh]
   rfl
  have h2 : w.frozen? ⟨x, 0, none⟩ = false:=by
   unfold World.frozen?
   rw [hh]
   rfl
  have hlt:=(Array.getElem?_eq_some_iff.1 hh).1
  refine ⟨_, _, ?_, q (w.setCell ⟨x, 0, none⟩ (PtrB x)) (.slice none 0 0) ?_ ?_ (.inl ⟨rfl, rfl⟩) ?_⟩
  ·unfold F.strings_Builder_copyCheck
   simp only [h0, h1, h2, and_self, if_true]
  ·unfold bk World.setCell
   simp only [Array.getElem?_modify, hh, if_true]
   rfl
  ·unfold wr World.setCell
   simp only [Array.getElem?_modify, hh, if_true]
   rfl
  ·have f : Fr (λ c => c = x) w (w.setCell ⟨x, 0, none⟩ (PtrB x)):=by
    refine ⟨rfl, rfl, rfl, ?_, λ b hb hne => ?_⟩
    ·unfold World.setCell
     simp only [Array.size_modify]
     exact Nat.le_refl _
    ·unfold World.setCell
     simp only [Array.getElem?_modify]
     rw [if_neg (λ e => hne e.symm)]
   exact f.mono λ c hc => hc ▸ h.new
 ·exact bldUsed_run h1 (q w v h1 h2 h3 (Fr.refl _ _))
theorem bgStore {A : Nat -> Prop} {x : Nat} {v r : Value} {l : List UInt8} (h1 : bk w x = some [PtrB x, v]) (h2 : wr w x = true) (h3 : RowB A w x r l) (hn : ¬ A x) (hA : ∀ c, A c -> c < w.heap.size) : BG A (sto w x 1 [r]) x l /\ Fr (λ c => c = x) w (sto w x 1 [r]):=by
 have f : Fr (λ c => c = x) w (sto w x 1 [r]):=(show Fr (λ c => c = x) w w from Fr.refl _ _).sto (.inl rfl) _ _
 refine ⟨⟨.inr ⟨r, by rw [bk_sto_same h1]; rfl, by rw [wr_sto]; exact h2, ?_⟩, hn, λ c hc => Nat.lt_of_lt_of_le (hA c hc) f.size⟩, f⟩
 rcases h3 with h | ⟨g, cap, cs, e1, e2, e3, e4, e5, e6, e7⟩
 ·exact .inl h
 ·exact .inr ⟨g, cap, cs, e1, by rw [f.block g (Array.getElem?_eq_some_iff.1 e2).1 (λ e => e7 e.symm)]; exact e2, e3, e4, e5, e6, e7⟩
theorem bk_of_heapEq {x : Nat} (h : w1.heap[x]? = w.heap[x]?) : bk w1 x = bk w x /\ wr w1 x = wr w x:=by
 unfold bk wr
 rw [h]
 exact ⟨rfl, rfl⟩
theorem bgWrite_run {A : Nat -> Prop} {x : Nat} {l s : List UInt8} (h : BG A w x l) (hs : s ≠ []) (hl : l.length + s.length <= 1073741824) :
  Run (F.strings_Builder_WriteString (PtrB x) (.string (sb s))) w λ _ w' => BG A w' x (l ++ s) /\ Fr (λ c => ¬ A c) w w':=by
 unfold F.strings_Builder_WriteString
 rw [Run_bind]
 refine bgCheck h λ w1 v b1 b2 b3 b4 => ?_
 have nck : nilChk (PtrB x) = some (PtrB x):=rfl
 have ld : ld1 (.pointer (some ⟨x, 0 + 1, none⟩)) w1 = some v:=by rw [ld1_ptr, b1]; rfl
 rw [nck, Run_bindO_some, fieldA_ptr, Run_bindO_some, Run_bind, Run_rdM]
 refine ⟨_, ld, ?_⟩
 rw [Run_bind]
 have hf : firstN w1 1 s.length (.string (sb s)) = some (s.map λ b => Value.int .u8 b.toNat):=by
  have he : (sb s).extract 0 s.length = sb s:=by rw [sb_extract, List.take_length, List.drop_zero]
  simp only [firstN, he]
  simp [sb]
 have lo1 : ∀ c, A c -> c < w1.heap.size:=λ c hc => Nat.lt_of_lt_of_le (h.lo c hc) b4.size
 refine (raw_app b3 lo1 (bk_lt b1) (by simp only [lenN, sb_size]) hf hs hl).mono ?_
 rintro r w2 ⟨c1, c2, c3⟩
 obtain ⟨d1, d2⟩:=bk_of_heapEq c2
 rw [b1] at d1
 rw [b2] at d2
 rw [Run_bindO_some, fieldA_ptr, Run_bindO_some, Run_bind]
 have hcell : isCell r = true:=by
  rcases c1 with ⟨_, rfl⟩ | ⟨g, cap, cs, rfl, _⟩ <;> rfl
 have hsz : r.cells = #[r]:=by
  rcases c1 with ⟨_, rfl⟩ | ⟨g, cap, cs, rfl, _⟩ <;> rfl
 rw [Run_stM (by rw [hsz]; rfl) (by rw [hsz]; simp [hcell]) ⟨⟨_, d1, by simp⟩, d2⟩]
 have hst : sto w2 x (0 + 1) r.cells.toList = sto w2 x 1 [r]:=by rw [hsz]
 rw [hst, lenS_string, Run_bindO_some, Run_ret]
 obtain ⟨g1, g2⟩:=bgStore d1 d2 c1 h.new λ c hc => Nat.lt_of_lt_of_le (lo1 c hc) c3.size
 exact ⟨g1, (b4.trans c3 λ _ _ hc => hc.1).trans g2 λ _ _ hc => hc ▸ h.new⟩
theorem bgByte_run {A : Nat -> Prop} {x : Nat} {l : List UInt8} (h : BG A w x l) (c : UInt8) (hl : l.length + 1 <= 1073741824) :
  Run (F.strings_Builder_WriteByte (PtrB x) (by8 c)) w λ _ w' => BG A w' x (l ++ [c]) /\ Fr (λ c => ¬ A c) w w':=by
 unfold F.strings_Builder_WriteByte
 rw [Run_bind]
 refine bgCheck h λ w1 v b1 b2 b3 b4 => ?_
 have nck : nilChk (PtrB x) = some (PtrB x):=rfl
 have ld : ld1 (.pointer (some ⟨x, 0 + 1, none⟩)) w1 = some v:=by rw [ld1_ptr, b1]; rfl
 rw [nck, Run_bindO_some, fieldA_ptr, Run_bindO_some, Run_bind, Run_rdM]
 refine ⟨_, ld, ?_⟩
 rw [Run_bind]
 refine Run_bsl (k:=1) (vs:=[by8 c]) (by rfl) (by intro v hv; simp only [List.mem_singleton] at hv; subst hv; rfl) rfl (by kernel_rfl) λ y w2 hy f2 _ => ?_
 have b3':=b3.frm f2
 have b1':=f2.bk_some b1 id
 have b2' : wr w2 x = true:=by rw [f2.wr (bk_lt b1) id]; exact b2
 have hn : lenN y = some [c].length:=hy.1.lenN
 have hf : firstN w2 1 [c].length y = some ([c].map λ b => Value.int .u8 b.toNat):=by
  have hy1:=hy.1
  obtain ⟨_, a, cp, rfl, _⟩:=hy1
  exact ldN_sl hy.1
 rw [Run_bind]
 have b5 : Fr (λ c => ¬ A c) w w2:=b4.trans f2 λ _ _ hf => hf.elim
 have lo2 : ∀ c, A c -> c < w2.heap.size:=λ c hc => Nat.lt_of_lt_of_le (h.lo c hc) b5.size
 refine (raw_app b3' lo2 (bk_lt b1') hn hf (by simp) (by simp; omega)).mono ?_
 rintro r w3 ⟨c1, c2, c3⟩
 obtain ⟨d1, d2⟩:=bk_of_heapEq c2
 rw [b1'] at d1
 rw [b2'] at d2
 rw [Run_bindO_some, fieldA_ptr, Run_bindO_some, Run_bind]
 have hcell : isCell r = true:=by
  rcases c1 with ⟨_, rfl⟩ | ⟨g, cap, cs, rfl, _⟩ <;> rfl
 have hsz : r.cells = #[r]:=by
  rcases c1 with ⟨_, rfl⟩ | ⟨g, cap, cs, rfl, _⟩ <;> rfl
 rw [Run_stM (by rw [hsz]; rfl) (by rw [hsz]; simp [hcell]) ⟨⟨_, d1, by simp⟩, d2⟩]
 have hst : sto w3 x (0 + 1) r.cells.toList = sto w3 x 1 [r]:=by rw [hsz]
 rw [hst, Run_ret]
 obtain ⟨g1, g2⟩:=bgStore d1 d2 c1 h.new λ c hc => Nat.lt_of_lt_of_le (lo2 c hc) c3.size
 exact ⟨g1, (b5.trans c3 λ _ _ hc => hc.1).trans g2 λ _ _ hc => hc ▸ h.new⟩
theorem bgString_run {A : Nat -> Prop} {x : Nat} {l : List UInt8} (h : BG A w x l) (h0 : l ≠ []) (hl : l.length <= 1073741824) : Run (F.strings_Builder_String (PtrB x)) w λ r w' => r = .string (sb l) /\ Fr (λ c => ¬ A c) w w':=by
 rcases h.st with ⟨h1, _⟩ | ⟨v, h1, h2, h3⟩
 ·exact absurd h1 h0
 rcases h3 with ⟨h3, _⟩ | ⟨g, cap, cs, rfl, e2, e3, e4, e5, e6, e7⟩
 ·exact absurd h3 h0
 refine (bldString_run (cap:=cap) (g:=g) ⟨h1, h2, e7, e4, cs, e2, e3, e5⟩ h0 (by omega)).mono ?_
 rintro _ w' ⟨rfl, f⟩
 exact ⟨rfl, f.mono λ c hc => by rcases hc with rfl | rfl; exact h.new; exact e6⟩
theorem bgNew {Q : Value -> World -> Prop} (q : ∀ x w', BG (λ c => c < w.heap.size) w' x [] -> Fr (λ _ => False) w w' -> Q (PtrB x) w') : Run (newM 93 #[(Value.pointer none), (Value.slice none 0 0)]) w Q:=by
 refine Run_newM.2 (q _ _ ⟨.inl ⟨rfl, ?_⟩, Nat.lt_irrefl _, λ c hc => ?_⟩ ((Fr.refl _ _).alloc _))
 ·show (w.heap.push _)[w.heap.size]? = _
  simp
 ·show c < (w.heap.push _).size
  simp; omega
end
theorem far_ex {α : Type} (p : α -> Bool) : ∀ l : List α, ∃ J, J <= l.length /\ (∀ i a, i < J -> l[i]? = some a -> p a = true) /\ ((J = l.length /\ l.all p = true) ∨ ∃ a, l[J]? = some a /\ p a = false /\ l.all p = false)
 | [] => ⟨0, Nat.le_refl _, λ i a h => absurd h (by omega), .inl ⟨rfl, rfl⟩⟩
 | a :: l => by
  by_cases h : p a = true
  ·obtain ⟨J, h1, h2, h3⟩:=far_ex p l
   refine ⟨J + 1, by rw [List.length_cons]; omega, λ i b hi hb => ?_, ?_⟩
   ·cases i with
    | zero => simp at hb; subst hb; exact h
    | succ i => exact h2 i b (by omega) (by simpa using hb)
   ·rcases h3 with ⟨e, ha⟩ | ⟨b, hb, hp, ha⟩
    ·exact .inl ⟨by rw [List.length_cons, e], by rw [List.all_cons, h, ha]; rfl⟩
    ·exact .inr ⟨b, by simpa using hb, hp, by rw [List.all_cons, ha, Bool.and_false]⟩
  ·exact ⟨0, by omega, λ i b hi => absurd hi (by omega), .inr ⟨a, rfl, by simpa using h, by rw [List.all_cons]; simp [h]⟩⟩
structure Fd where
 word : List UInt8
 lo : Int
 hi : Int
 off : Nat
 fn : Value
def Fd.row (f : Fd) : List Value:=[.string (sb f.word), .int .i64 f.lo, .int .i64 f.hi, f.fn]
def Fd.v (f : Fd) : Value:=.agg #[.string (sb f.word), .int .i64 f.lo, .int .i64 f.hi, f.fn]
structure Fd.Ok (f : Fd) : Prop where
 cls : ∀ (x : Nat) (w : World) (Q : Value -> World -> Prop), Q (.pointer (some ⟨x, f.off, none⟩)) w -> Run (callV F.clos f.fn [.pointer (some ⟨x, 0, none⟩)]) w Q
 cell : f.fn.cells = #[f.fn] /\ isCell f.fn = true
 low : 0 <= f.lo /\ f.hi <= 9007199254740992
 word : f.word ≠ [] /\ f.word.length <= 100 /\ (10 : UInt8) ∉ f.word
def Fd.inR (f : Fd) (g : Nat -> Int) : Bool:=decide (f.lo <= g f.off /\ g f.off <= f.hi)
section
variable {w w1 w2 : World}
theorem Fd.cells {f : Fd} (h : f.Ok) : f.v.cells.size = 4 /\ f.v.cells.toList.all isCell = true /\ f.v.cells.toList = f.row:=by
 have h1:=h.cell.1
 have e : f.v.cells = #[.string (sb f.word), .int .i64 f.lo, .int .i64 f.hi, f.fn]:=rfl
 rw [e]
 refine ⟨rfl, ?_, rfl⟩
 show (true && (true && (true && (isCell f.fn && true)))) = true
 rw [h.cell.2]; rfl
theorem Run_field {β : Type} {t : Value} {fs : List Fd} (ht : Sl 4 w t (fs.map Fd.row)) {i : Nat} {f : Fd} (hf : fs[i]? = some f) (hok : f.Ok) {ty : TypeId} {K : Value -> M β} {Q : β -> World -> Prop}
  (q : ∀ x w', bk w' x = some f.row -> wr w' x = true -> w.heap.size <= x -> Fr (λ _ => False) w w' -> Run (K (.pointer (some ⟨x, 0, none⟩))) w' Q) :
  Run (bindO (idxA 4 t (.int .i64 (i : Int))) λ x4 => M.bind (rdM (ldA 4 x4)) λ x5 => M.bind (newM ty #[(Value.string ByteArray.empty), (Value.int IntKind.i64 0), (Value.int IntKind.i64 0), Value.nilFunc]) λ x6 => M.bind (stM 4 x6 x5) λ _ => K x6) w Q:=by
 obtain ⟨p, p1, p2⟩:=ht.rdA (by decide) (i:=i) (e:=f.row) (by simp [hf]) .i64
 have p1' : idxA 4 t (.int .i64 (i : Int)) = some p:=p1
 rw [p1', Run_bindO_some, Run_bind, Run_rdM]
 refine ⟨_, p2, ?_⟩
 rw [Run_bind]
 refine Run_new λ x w1 hx hw f1 hle => ?_
 obtain ⟨c1, c2, c3⟩:=Fd.cells hok
 have c1' : (Value.agg f.row.toArray).cells.size = 4:=c1
 have c2' : (Value.agg f.row.toArray).cells.toList.all isCell = true:=c2
 rw [Run_bind, Run_stM c1' c2' ⟨⟨_, hx, by simp⟩, hw⟩]
 refine q x _ ?_ (by rw [wr_sto]; exact hw) hle (f1.sto (.inr hle) _ _)
 rw [bk_sto_same hx]
 rfl
theorem ranges_run {t : Value} {fs : List Fd} (ht : Sl 4 w t (fs.map Fd.row)) (hok : ∀ f ∈ fs, f.Ok) {x : Nat} {l : List Value} {g : Nat -> Int} (hx : bk w x = some l) (hg : ∀ f ∈ fs, l[f.off]? = some (.int .i64 (g f.off))) (hn : fs.length <= 1000) :
  Run (F.api_Pointer t (.pointer (some ⟨x, 0, none⟩))) w λ r w' => r = .bool (fs.all λ f => f.inR g) /\ Fr (λ _ => False) w w':=by
 unfold F.api_Pointer
 have hlen:=ht.lenL
 rw [List.length_map] at hlen
 rw [hlen, Run_bindO_some, Run_bind]
 obtain ⟨J, hJ, hgood, hend⟩:=far_ex (λ f : Fd => f.inR g) fs
 have step : ∀ (i : Nat) (f : Fd) (w1 : World), fs[i]? = some f -> Fr (λ _ => False) w w1 -> ∀ {β : Type} {K : Value -> M β} {Q : β -> World -> Prop}, (∀ w', Fr (λ _ => False) w w' -> Run (K (.bool (!f.inR g))) w' Q) ->
   Run (bindO (idxA 4 t (.int .i64 (i : Int))) λ x4 => M.bind (rdM (ldA 4 x4)) λ x5 => M.bind (newM 165 #[(Value.string ByteArray.empty), (Value.int IntKind.i64 0), (Value.int IntKind.i64 0), Value.nilFunc]) λ x6 => M.bind (stM 4 x6 x5) λ _ =>
    bindO (fieldA 3 x6) λ x8 =>
    M.bind (rdM (ld1 x8)) λ x9 =>
    M.bind (callV F.clos x9 [.pointer (some ⟨x, 0, none⟩)]) λ x10 =>
    bindO (nilChk x10) λ x11 =>
    M.bind (rdM (ld1 x11)) λ x12 =>
    bindO (fieldA 1 x6) λ x13 =>
    M.bind (rdM (ld1 x13)) λ x14 =>
    bindO (binV BinOp.lss x12 x14) λ x15 =>
    M.bind (guardM x15 false (M.ret x12)) λ x16 =>
    M.bind (guardM x15 false (optM (fieldA 2 x6))) λ x17 =>
    M.bind (guardM x15 false (rdM (ld1 x17))) λ x18 =>
    M.bind (guardM x15 false (optM (binV BinOp.gtr x16 x18))) λ x19 =>
    bindO (pickV x15 (Value.bool true) x19) K) w1 Q:=by
  intro i f w1 hf f1 β K Q q
  have hfm:=List.mem_of_getElem? hf
  refine Run_field (ht.fr0 f1) hf (hok f hfm) λ y w2 hy hwy hyle f2 => ?_
  have f12:=f1.trans f2 λ _ _ => id
  have hx2:=f12.bk_some hx id
  have ld3 : ld1 (.pointer (some ⟨y, 0 + 3, none⟩)) w2 = some f.fn:=by rw [ld1_ptr, hy]; rfl
  have ld1' : ld1 (.pointer (some ⟨y, 0 + 1, none⟩)) w2 = some (.int .i64 f.lo):=by rw [ld1_ptr, hy]; rfl
  have ld2 : ld1 (.pointer (some ⟨y, 0 + 2, none⟩)) w2 = some (.int .i64 f.hi):=by rw [ld1_ptr, hy]; rfl
  have ldx : ld1 (.pointer (some ⟨x, f.off, none⟩)) w2 = some (.int .i64 (g f.off)):=by rw [ld1_ptr, hx2]; exact hg f hfm
  rw [fieldA_ptr, Run_bindO_some, Run_bind, Run_rdM]
  refine ⟨_, ld3, ?_⟩
  rw [Run_bind]
  refine (hok f hfm).cls x w2 _ ?_
  have nck : nilChk (.pointer (some ⟨x, f.off, none⟩)) = some (.pointer (some ⟨x, f.off, none⟩)):=rfl
  rw [nck, Run_bindO_some, Run_bind, Run_rdM]
  refine ⟨_, ldx, ?_⟩
  rw [fieldA_ptr, Run_bindO_some, Run_bind, Run_rdM]
  refine ⟨_, ld1', ?_⟩
  by_cases h1 : g f.off < f.lo
  ·have hi : f.inR g = false:=by unfold Fd.inR; exact decide_eq_false (by omega)
   rw [hi] at q
   rw [lssT h1, Run_bindO_some]
   simp only [Run_bind, Run_guardM_tf, pickV_bool, cond_true, Run_bindO_some]
   exact q w2 f12
  ·rw [lssF h1, Run_bindO_some]
   simp only [Run_bind, Run_guardM_ff, Run_ret, fieldA_ptr, Run_optM_some, Run_rdM]
   refine ⟨_, ld2, ?_⟩
   by_cases h2 : f.hi < g f.off
   ·have hi : f.inR g = false:=by unfold Fd.inR; exact decide_eq_false (by omega)
    rw [hi] at q
    simp only [binV_int, intBin_gtr, gt_iff_lt, h2, decide_true, Run_optM_some, pickV_bool, cond_false, Run_bindO_some]
    exact q w2 f12
   ·have hi : f.inR g = true:=by unfold Fd.inR; exact decide_eq_true (by omega)
    rw [hi] at q
    simp only [binV_int, intBin_gtr, gt_iff_lt, h2, decide_false, Run_optM_some, pickV_bool, cond_false, Run_bindO_some]
    exact q w2 f12
 refine Run_for J (λ i L w' => L = [.int .i64 (i : Int)] /\ Fr (λ _ => False) w w') ⟨rfl, Fr.refl _ _⟩ ?_ ?_
 ·rintro i L w1 hi ⟨rfl, f1⟩
  obtain ⟨f, hf⟩ : ∃ f, fs[i]? = some f:=⟨_, List.getElem?_eq_getElem (by omega)⟩
  have hil : (i : Int) < fs.length:=by omega
  have wi:=wrap_succ' (n:=i) (by omega)
  rw [getL_zero, lssT hil, Run_bindO_some, Run_condM_true]
  refine step i f w1 hf f1 λ w2 f2 => ?_
  rw [hgood i f hi hf, Bool.not_true, Run_condM_false, binV_int, intBin_add, wi, Run_bindO_some, Run_ret]
  exact ⟨rfl, f2⟩
 ·rintro L w1 ⟨rfl, f1⟩
  rcases hend with ⟨rfl, hall⟩ | ⟨f, hf, hp, hall⟩
  ·have hn : ¬ ((fs.length : Nat) : Int) < fs.length:=by omega
   rw [getL_zero, lssF hn, Run_bindO_some, Run_condM_false, Run_ret]
   simp only [outK_exit]
   rw [show Nat.beq 0 0 = true from rfl, cond_true, Run_ret, hall]
   exact ⟨rfl, f1⟩
  ·have hlt:=(List.getElem?_eq_some_iff.1 hf).1
   have hil : (J : Int) < fs.length:=by omega
   rw [getL_zero, lssT hil, Run_bindO_some, Run_condM_true]
   refine step J f w1 hf f1 λ w2 f2 => ?_
   rw [hp, Bool.not_false, Run_condM_true, Run_ret]
   simp only [outK_ret, Run_ret, hall]
   exact ⟨trivial, f2⟩
end
def SUM : List UInt8:=[115, 117, 109, 32]
def closeL (l : List UInt8) : List UInt8:=l ++ SUM ++ eightL (crcF (sb l)) ++ [10]
def fldL (f : Fd) (n : Nat) : List UInt8:=f.word ++ [32] ++ Lib.decDigits n ++ [10]
def fldsL (fs : List Fd) (g : Nat -> Int) : List UInt8:=(fs.map λ f => fldL f (g f.off).toNat).flatten
section
variable {w w1 w2 : World}
theorem line_run {A : Nat -> Prop} {x : Nat} {l : List UInt8} (h : BG A w x l) {v : Value} {xs : List (List UInt8)} (hv : Sl 1 w v (xs.map λ y => [.string (sb y)])) (hne : joinL (xs.map sb) (sb [32]) ≠ []) (hx : xs.length <= 100) (hs : (joinL (xs.map sb) (sb [32])).length <= 1048576)
  (hsum : ((xs.map sb).map (·.size)).sum <= 1048576) (hl : l.length <= 536870912) :
  Run (F.paper_line (PtrB x) v) w λ _ w' => BG A w' x (l ++ (joinL (xs.map sb) (sb [32]) ++ [10])) /\ Fr (λ c => ¬ A c) w w':=by
 unfold F.paper_line
 have e32 : ByteArray.mk #[32] = sb [32]:=rfl
 rw [e32, Run_bind]
 have hv' : Sl 1 w v ((xs.map sb).map λ y => [.string y]):=by rw [List.map_map]; exact hv
 refine (join2_run hv' (by rw [sb_size]; decide) (by rw [sb_size]; decide) (by omega) (by rw [List.length_map]; omega)).mono ?_
 rintro _ w1 ⟨rfl, f1⟩
 rw [Run_bind]
 refine (bgWrite_run (h.frm f1) hne (by omega)).mono ?_
 rintro _ w2 ⟨h2, f2⟩
 rw [Run_bind]
 have e10 : Value.int IntKind.u8 10 = by8 10:=rfl
 rw [e10]
 refine (bgByte_run h2 10 (by rw [List.length_append]; omega)).mono ?_
 rintro _ w3 ⟨h3, f3⟩
 rw [Run_ret]
 rw [List.append_assoc] at h3
 exact ⟨h3, ((f1.mono λ _ hc => hc.elim).trans f2 λ _ _ hc => hc).trans f3 λ _ _ hc => hc⟩
theorem closed_run {A : Nat -> Prop} {x : Nat} {l : List UInt8} (ht : Tb w) (h : BG A w x l) (h0 : l ≠ []) (hl : l.length <= 536870912) (hA : ∀ c, c < 11 -> A c) :
  Run (F.paper_closed (PtrB x)) w λ r w' => r = .string (sb (closeL l)) /\ Fr (λ c => ¬ A c) w w':=by
 unfold F.paper_closed
 rw [Run_bind]
 refine (bgString_run h h0 (by omega)).mono ?_
 rintro _ w1 ⟨rfl, f1⟩
 have t1:=ht.fr f1 λ c hc hn => hn (hA c hc)
 have eS : ByteArray.mk #[115, 117, 109, 32] = sb SUM:=rfl
 have e10 : ByteArray.mk #[10] = sb [10]:=rfl
 have lS : SUM.length = 4:=rfl
 have a1:=sbAdd (a:=l) (c:=SUM) (by omega)
 rw [eS, a1, Run_bindO_some, Run_bind]
 refine Run_bsl (k:=1) (vs:=[.string (sb l)]) (by rfl) (by intro v hv; simp only [List.mem_singleton] at hv; subst hv; rfl) rfl (by kernel_rfl) λ r w2 hr f2 _ => ?_
 have t2:=t1.fr0 f2
 rw [Run_bind]
 refine (crc_run t2.nib hr.1 (by rw [sb_size]; omega)).mono ?_
 rintro _ w3 ⟨rfl, rfl⟩
 rw [Run_bind]
 refine (hex8_run t2.bits (crcF_lt _)).mono ?_
 rintro _ w4 ⟨rfl, f4⟩
 have l8 : (eightL (crcF (sb l))).length = 8:=lowD_len _ _
 have eE : eightS (crcF (sb l)) = sb (eightL (crcF (sb l))):=rfl
 have a2:=sbAdd (a:=l ++ SUM) (c:=eightL (crcF (sb l))) (by rw [List.length_append]; omega)
 have a3:=sbAdd (a:=l ++ SUM ++ eightL (crcF (sb l))) (c:=[10]) (by rw [List.length_append, List.length_append, List.length_singleton]; omega)
 rw [eE, a2, Run_bindO_some, e10, a3, Run_bindO_some, Run_ret]
 exact ⟨rfl, (f1.trans f2 λ _ _ hc => hc.elim).trans f4 λ _ _ hc => hc.elim⟩
theorem join_two (a b : List UInt8) : joinL ([a, b].map sb) (sb [32]) = a ++ [32] ++ b:=by simp [joinL, sb]
theorem join_one (a : List UInt8) : joinL ([a].map sb) (sb [32]) = a:=by simp [joinL, sb]
theorem write_run {A : Nat -> Prop} {b : Nat} {l0 : List UInt8} {t : Value} {fs : List Fd} (hB : BG A w b l0) (htb : Tb w) (hA : ∀ c, c < 11 -> A c) (htA : ∀ c, inB t c -> A c) (ht : Sl 4 w t (fs.map Fd.row)) (hok : ∀ f ∈ fs, f.Ok) {x : Nat} {l : List Value} {g : Nat -> Int} (hx : bk w x = some l) (hxA : A x) (hg : ∀ f ∈ fs, l[f.off]? = some (.int .i64 (g f.off)))
  (hr : ∀ f ∈ fs, f.inR g = true) (hn : fs.length <= 100) (hl : l0.length <= 1048576) :
  Run (F.api_Pointer_64 (PtrB b) t (.pointer (some ⟨x, 0, none⟩))) w λ _ w' => BG A w' b (l0 ++ fldsL fs g) /\ Fr (λ c => ¬ A c) w w':=by
 unfold F.api_Pointer_64
 have hlen:=ht.lenL
 rw [List.length_map] at hlen
 rw [hlen, Run_bindO_some, Run_bind]
 have hdec : ∀ f ∈ fs, (Lib.decDigits (g f.off).toNat).length <= 20 /\ (fldL f (g f.off).toNat).length <= 122 /\ 0 <= g f.off /\ (g f.off).toNat < 9223372036854775808:=λ f hf => by
  have h1:=hr f hf
  unfold Fd.inR at h1
  have h2:=of_decide_eq_true h1
  have h3:=(hok f hf).low
  have h4:=(hok f hf).word.2.1
  have h5:=dec_len (n:=(g f.off).toNat) (by omega)
  refine ⟨h5, ?_, by omega, by omega⟩
  simp only [fldL, List.length_append, List.length_singleton]
  omega
 have hfl : ∀ i, (fldsL (fs.take i) g).length <= i * 122:=λ i => by
  have : ∀ (l : List Fd), (∀ f ∈ l, f ∈ fs) -> (fldsL l g).length <= l.length * 122:=λ l => by
   induction l with
   | nil => intro _; simp [fldsL]
   | cons f l ih =>
    intro hm
    have h1:=ih λ f hf => hm f (List.mem_cons_of_mem _ hf)
    have h2:=(hdec f (hm f (by simp))).2.1
    simp only [fldsL, List.map_cons, List.flatten_cons, List.length_append, List.length_cons] at h1 ⊢
    omega
  have h1:=this (fs.take i) λ f hf => List.mem_of_mem_take hf
  have h2 : (fs.take i).length * 122 <= i * 122:=Nat.mul_le_mul_right _ (List.length_take_le i fs)
  omega
 refine Run_for fs.length (λ i L w' => L = [.int .i64 (i : Int)] /\ BG A w' b (l0 ++ fldsL (fs.take i) g) /\ Fr (λ c => ¬ A c) w w') ⟨rfl, by simpa [fldsL] using hB, Fr.refl _ _⟩ ?_ ?_
 ·rintro i L w1 hi ⟨rfl, hB1, f1⟩
  have ht1:=ht.fr f1 λ c hc hn => hn (htA c hc)
  have hx1:=f1.bk_some hx λ hn => hn hxA
  have tb1:=htb.fr f1 λ c hc hn => hn (hA c hc)
  obtain ⟨f, hf⟩ : ∃ f, fs[i]? = some f:=⟨_, List.getElem?_eq_getElem (by omega)⟩
  have hfm:=List.mem_of_getElem? hf
  have hil : (i : Int) < fs.length:=by omega
  have wi:=wrap_succ' (n:=i) (by omega)
  obtain ⟨d1, d2, d3, d4⟩:=hdec f hfm
  have hsnoc : fldsL (fs.take (i + 1)) g = fldsL (fs.take i) g ++ fldL f (g f.off).toNat:=by
   rw [take_snocP hf]; simp [fldsL]
  rw [getL_zero, lssT hil, Run_bindO_some, Run_condM_true]
  refine Run_field ht1 hf (hok f hfm) λ y w2 hy hwy hyle f2 => ?_
  rw [Run_drewM, Run_getM, fieldA_ptr, Run_bindO_some, Run_bind, Run_rdM]
  have f2d : Fr (λ _ => False) w1 w2.drew:=f2.drew
  have hyd : bk w2.drew y = some f.row:=hy
  generalize w2.drew = w3 at *
  have ld0 : ld1 (.pointer (some ⟨y, 0 + 0, none⟩)) w3 = some (.string (sb f.word)):=by rw [ld1_ptr, hyd]; rfl
  have ld3 : ld1 (.pointer (some ⟨y, 0 + 3, none⟩)) w3 = some f.fn:=by rw [ld1_ptr, hyd]; rfl
  refine ⟨_, ld0, ?_⟩
  rw [fieldA_ptr, Run_bindO_some, Run_bind, Run_rdM]
  refine ⟨_, ld3, ?_⟩
  rw [Run_bind]
  refine (hok f hfm).cls x w3 _ ?_
  rw [Run_getM]
  have nck : nilChk (.pointer (some ⟨x, f.off, none⟩)) = some (.pointer (some ⟨x, f.off, none⟩)):=rfl
  have ldx : ld1 (.pointer (some ⟨x, f.off, none⟩)) w3 = some (.int .i64 (g f.off)):=by rw [ld1_ptr, f2d.bk_some hx1 id]; exact hg f hfm
  rw [nck, Run_bindO_some, Run_bind, Run_rdM]
  refine ⟨_, ldx, ?_⟩
  have hgn : g f.off = (((g f.off).toNat : Nat) : Int):=(Int.toNat_of_nonneg d3).symm
  rw [Run_bind]
  have hit:=itoa_run (tb1.fr0 f2d) (n:=(g f.off).toNat) d4
  rw [<- hgn] at hit
  refine hit.mono ?_
  rintro _ w4 ⟨rfl, f4⟩
  rw [Run_getM, Run_bind]
  have hy4:=f4.bk_some hyd id
  have ld4 : ld1 (.pointer (some ⟨y, 0 + 0, none⟩)) w4 = some (.string (sb f.word)):=by rw [ld1_ptr, hy4]; rfl
  refine Run_bsl (k:=1) (vs:=[.string (sb f.word), .string (itoaS (g f.off).toNat)]) (by rfl) (by intro v hv; simp only [List.mem_cons, List.not_mem_nil, or_false] at hv; rcases hv with rfl | rfl <;> rfl) rfl (by kernel_rfl) λ r w5 hr f5 _ => ?_
  rw [Run_getM, Run_bind]
  have f15:=(f2d.trans f4 λ _ _ => id).trans f5 λ _ _ => id
  have hB5:=hB1.frm f15
  have hwl:=(hok f hfm).word
  have hi122:=hfl i
  have hjl : (f.word ++ [32] ++ Lib.decDigits (g f.off).toNat).length <= 121:=by simp only [List.length_append, List.length_singleton]; omega
  refine (line_run hB5 (xs:=[f.word, Lib.decDigits (g f.off).toNat]) hr.1 (by rw [join_two]; simp) (by simp) (by rw [join_two]; omega) ?_ ?_).mono ?_
  ·simp only [List.map_cons, List.map_nil, List.sum_cons, List.sum_nil, sb_size]
   omega
  ·rw [List.length_append]
   omega
  ·rintro _ w6 ⟨h6, f6⟩
   rw [Run_getM, Run_reqM, Run_reqM]
   refine ⟨ld0, ld4, ?_⟩
   rw [binV_int, intBin_add, wi, Run_bindO_some, Run_ret]
   rw [join_two] at h6
   rw [hsnoc]
   refine ⟨rfl, ?_, (f1.trans f15 λ _ _ hc => hc.elim).trans f6 λ _ _ hc => hc⟩
   rw [List.append_assoc] at h6
   exact h6
 ·rintro L w1 ⟨rfl, hB1, f1⟩
  rw [List.take_length] at hB1
  have hn : ¬ ((fs.length : Nat) : Int) < fs.length:=by omega
  rw [getL_zero, lssF hn, Run_bindO_some, Run_condM_false, Run_ret]
  simp only [outK_exit]
  rw [show Nat.beq 0 0 = true from rfl, cond_true, Run_ret]
  exact ⟨hB1, f1⟩
end
def CUR : List UInt8:=[99, 117, 114]
def PREV : List UInt8:=[112, 114, 101, 118]
def EPOCH : List UInt8:=[101, 112, 111, 99, 104]
def SEQ : List UInt8:=[115, 101, 113]
def LATEST : List UInt8:=[103, 114, 97, 110, 97, 114, 121, 32, 108, 97, 116, 101, 115, 116, 32, 49]
def ptrF : List Fd:=[⟨CUR, 0, 999999, 0, .func (.func 109) #[] #[]⟩, ⟨PREV, 0, 999999, 1, .func (.func 110) #[] #[]⟩, ⟨EPOCH, 0, 9007199254740992, 2, .func (.func 111) #[] #[]⟩, ⟨SEQ, 0, 9007199254740992, 3, .func (.func 112) #[] #[]⟩]
def Nt.at (n : Nt) (i : Nat) : Int:=match i with
 | 0 => n.k
 | 1 => n.f
 | 2 => n.u
 | _ => n.c
def Nt.pok (n : Nt) : Bool:=ptrF.all λ f => f.inR n.at
def ptrL (n : Nt) : List UInt8:=LATEST ++ [10] ++ fldsL ptrF n.at
def ptrO (n : Nt) : Value:=if n.pok = true then .tuple #[.string (sb (closeL (ptrL n))), .int .i64 0] else .tuple #[.string (sb []), .int .i64 42]
theorem pok_iff (n : Nt) : n.pok = true ↔ (0 <= n.k /\ n.k <= 999999) /\ (0 <= n.f /\ n.f <= 999999) /\ (0 <= n.u /\ n.u <= 9007199254740992) /\ (0 <= n.c /\ n.c <= 9007199254740992):=by
 simp [Nt.pok, ptrF, Fd.inR, Nt.at]
theorem ptr_len {n : Nt} (h : n.pok = true) : (ptrL n).length <= 1000:=by
 have h1:=(pok_iff n).1 h
 have a:=dec_len (n:=n.k.toNat) (by omega)
 have b:=dec_len (n:=n.f.toNat) (by omega)
 have c:=dec_len (n:=n.u.toNat) (by omega)
 have d:=dec_len (n:=n.c.toNat) (by omega)
 simp [ptrL, fldsL, ptrF, fldL, Nt.at, CUR, PREV, EPOCH, SEQ, LATEST]
 omega
section
variable {w w1 w2 : World}
theorem ptrF_ok : ∀ f ∈ ptrF, f.Ok:=by
 intro f hf
 simp only [ptrF, List.mem_cons, List.not_mem_nil, or_false] at hf
 rcases hf with rfl | rfl | rfl | rfl
 ·exact ⟨λ x w Q q => by
   have e : callV F.clos (.func (.func 109) #[] #[]) [.pointer (some ⟨x, 0, none⟩)] = F.paper_pointerFields_1 (.pointer (some ⟨x, 0, none⟩)):=by kernel_rfl
   show Run (callV F.clos (.func (.func 109) #[] #[]) [.pointer (some ⟨x, 0, none⟩)]) w Q
   rw [e]
   unfold F.paper_pointerFields_1
   simp
   exact q, ⟨rfl, rfl⟩, by decide, by decide⟩
 ·exact ⟨λ x w Q q => by
   have e : callV F.clos (.func (.func 110) #[] #[]) [.pointer (some ⟨x, 0, none⟩)] = F.paper_pointerFields_2 (.pointer (some ⟨x, 0, none⟩)):=by kernel_rfl
   show Run (callV F.clos (.func (.func 110) #[] #[]) [.pointer (some ⟨x, 0, none⟩)]) w Q
   rw [e]
   unfold F.paper_pointerFields_2
   simp
   exact q, ⟨rfl, rfl⟩, by decide, by decide⟩
 ·exact ⟨λ x w Q q => by
   have e : callV F.clos (.func (.func 111) #[] #[]) [.pointer (some ⟨x, 0, none⟩)] = F.paper_pointerFields_3 (.pointer (some ⟨x, 0, none⟩)):=by kernel_rfl
   show Run (callV F.clos (.func (.func 111) #[] #[]) [.pointer (some ⟨x, 0, none⟩)]) w Q
   rw [e]
   unfold F.paper_pointerFields_3
   simp
   exact q, ⟨rfl, rfl⟩, by decide, by decide⟩
 ·exact ⟨λ x w Q q => by
   have e : callV F.clos (.func (.func 112) #[] #[]) [.pointer (some ⟨x, 0, none⟩)] = F.paper_pointerFields_4 (.pointer (some ⟨x, 0, none⟩)):=by kernel_rfl
   show Run (callV F.clos (.func (.func 112) #[] #[]) [.pointer (some ⟨x, 0, none⟩)]) w Q
   rw [e]
   unfold F.paper_pointerFields_4
   simp
   exact q, ⟨rfl, rfl⟩, by decide, by decide⟩
theorem ptrF_at (n : Nt) : ∀ f ∈ ptrF, n.row[f.off]? = some (.int .i64 (n.at f.off)):=by
 intro f hf
 simp only [ptrF, List.mem_cons, List.not_mem_nil, or_false] at hf
 rcases hf with rfl | rfl | rfl | rfl <;> rfl
theorem pfields_run : Run F.paper_pointerFields w λ r w' => SlW 4 w' r (ptrF.map Fd.row) /\ Fr (λ _ => False) w w' /\ ∀ c, inB r c -> w.heap.size <= c /\ c < w'.heap.size:=by
 unfold F.paper_pointerFields
 have b1 : buildV #[(Value.string ByteArray.empty), (Value.int IntKind.i64 0), (Value.int IntKind.i64 0), Value.nilFunc] [(0, 1, (Value.string (ByteArray.mk #[99, 117, 114]))), (1, 1, (Value.int IntKind.i64 0)), (2, 1, (Value.int IntKind.i64 999999)), (3, 1, (Value.func (Fn.func 109) #[] #[]))] = some (Fd.v ⟨CUR, 0, 999999, 0, .func (.func 109) #[] #[]⟩):=by kernel_rfl
 have b2 : buildV #[(Value.string ByteArray.empty), (Value.int IntKind.i64 0), (Value.int IntKind.i64 0), Value.nilFunc] [(0, 1, (Value.string (ByteArray.mk #[112, 114, 101, 118]))), (1, 1, (Value.int IntKind.i64 0)), (2, 1, (Value.int IntKind.i64 999999)), (3, 1, (Value.func (Fn.func 110) #[] #[]))] = some (Fd.v ⟨PREV, 0, 999999, 1, .func (.func 110) #[] #[]⟩):=by kernel_rfl
 have b3 : buildV #[(Value.string ByteArray.empty), (Value.int IntKind.i64 0), (Value.int IntKind.i64 0), Value.nilFunc] [(0, 1, (Value.string (ByteArray.mk #[101, 112, 111, 99, 104]))), (1, 1, (Value.int IntKind.i64 0)), (2, 1, (Value.int IntKind.i64 9007199254740992)), (3, 1, (Value.func (Fn.func 111) #[] #[]))] = some (Fd.v ⟨EPOCH, 0, 9007199254740992, 2, .func (.func 111) #[] #[]⟩):=by kernel_rfl
 have b4 : buildV #[(Value.string ByteArray.empty), (Value.int IntKind.i64 0), (Value.int IntKind.i64 0), Value.nilFunc] [(0, 1, (Value.string (ByteArray.mk #[115, 101, 113]))), (1, 1, (Value.int IntKind.i64 0)), (2, 1, (Value.int IntKind.i64 9007199254740992)), (3, 1, (Value.func (Fn.func 112) #[] #[]))] = some (Fd.v ⟨SEQ, 0, 9007199254740992, 3, .func (.func 112) #[] #[]⟩):=by kernel_rfl
 rw [b1, Run_bindO_some, b2, Run_bindO_some, b3, Run_bindO_some, b4, Run_bindO_some, Run_bind]
 refine Run_bsl (k:=4) (vs:=ptrF.map Fd.v) (by kernel_rfl) (by intro v hv; simp only [ptrF, List.map_cons, List.map_nil, List.mem_cons, List.not_mem_nil, or_false] at hv; rcases hv with rfl | rfl | rfl | rfl <;> rfl) rfl (by kernel_rfl) λ r w' hr f hb => ?_
 rw [Run_ret]
 exact ⟨hr, f, λ c hc => ⟨Nat.le_of_eq (hb c hc).1.symm, (hb c hc).2⟩⟩
theorem pprint_run (ht : Tb w) (n : Nt) : Run (F.paper_PrintPointer n.v) w λ r w' => r = ptrO n /\ Fr (λ _ => False) w w':=by
 unfold F.paper_PrintPointer
 rw [Run_bind]
 refine Run_new λ x w1 hx hxw f1 hxle => ?_
 replace hx : bk w1 x = some n.row:=hx
 have e0 : ByteArray.mk #[] = sb []:=rfl
 have eL : ByteArray.mk #[103, 114, 97, 110, 97, 114, 121, 32, 108, 97, 116, 101, 115, 116, 32, 49] = sb LATEST:=rfl
 rw [Run_bind]
 refine pfields_run.mono ?_
 rintro t w2 ⟨ht2, f2, hn2⟩
 rw [Run_bind]
 refine (ranges_run ht2.1 ptrF_ok (f2.bk_some hx id) (ptrF_at n) (by decide)).mono ?_
 rintro _ w3 ⟨rfl, f3⟩
 have f13:=(f1.trans f2 λ _ _ => id).trans f3 λ _ _ => id
 have hx3:=f3.bk_some (f2.bk_some hx id) id
 have hnv : ∀ b, notV (.bool b) = some (.bool !b):=λ _ => rfl
 rw [hnv, Run_bindO_some]
 cases hok : n.pok with
 | false =>
  have hok' : (ptrF.all λ f => f.inR n.at) = false:=hok
  rw [hok', Bool.not_false, Run_condM_true, Run_ret, ptrO, hok]
  exact ⟨by rw [if_neg (by simp), e0], f13⟩
 | true =>
  have hok' : (ptrF.all λ f => f.inR n.at) = true:=hok
  have z0 : buildV #[(Value.pointer none), (Value.slice none 0 0)] [] = some (.agg #[(Value.pointer none), (Value.slice none 0 0)]):=rfl
  rw [hok', Bool.not_true, Run_condM_false, z0, Run_bindO_some, Run_bind]
  refine bgNew λ b w4 hB f4 => ?_
  rw [Run_bind]
  refine Run_bsl (k:=1) (vs:=[.string (sb LATEST)]) (by rfl) (by intro v hv; simp only [List.mem_singleton] at hv; subst hv; rfl) rfl (by kernel_rfl) λ r w5 hr f5 _ => ?_
  rw [Run_bind]
  refine (line_run (hB.frm f5) (xs:=[LATEST]) hr.1 (by rw [join_one]; decide) (by decide) (by rw [join_one]; decide) (by simp [sb_size]; decide) (by decide)).mono ?_
  rintro _ w6 ⟨hB6, f6⟩
  rw [join_one, List.nil_append] at hB6
  rw [Run_bind]
  refine pfields_run.mono ?_
  rintro t2 w7 ⟨ht7, f7, hn7⟩
  have hB7:=hB6.more f7
  have low:=tb_low (ht.fr0 f13)
  have hx4:=bk_lt hx3
  have f37 : Fr (λ c => ¬ c < w3.heap.size) w3 w7:=(((f4.trans f5 λ _ _ => id).mono λ _ h => h.elim).trans f6 λ _ _ hc => hc).trans f7 λ _ _ h => h.elim
  have t7:=(ht.fr0 f13).fr f37 λ c hc hn => hn (by omega)
  rw [Run_bind]
  refine (write_run hB7 t7 (λ c hc => .inl (by omega)) (λ c hc => .inr (hn7 c hc)) ht7.1 ptrF_ok (f37.bk_some hx3 λ hn => hn hx4) (.inl hx4) (ptrF_at n) (λ f hf => List.all_eq_true.1 hok' f hf) (by decide) (by decide)).mono ?_
  rintro _ w8 ⟨hB8, f8⟩
  have t8:=t7.fr f8 λ c hc hn => hn (.inl (by omega))
  have f38 : Fr (λ c => ¬ c < w3.heap.size) w3 w8:=f37.trans f8 λ c _ hc h => hc (.inl h)
  have hpl : (ptrL n).length <= 100000:=by have:=ptr_len hok; omega
  rw [Run_bind]
  refine (closed_run t8 hB8 (by simp [LATEST]) (by
   show (ptrL n).length <= _
   omega) (λ c hc => .inl (by omega))).mono ?_
  rintro _ w9 ⟨rfl, f9⟩
  rw [Run_ret, ptrO, if_pos hok]
  refine ⟨rfl, f13.trans (f38.trans f9 λ c _ hc h => hc (.inl h)) λ c hc hn => hn ?_⟩
  have:=f13.size
  omega
end
section
variable {w w1 w2 : World}
def T1 : List UInt8:=LATEST ++ [10] ++ CUR ++ [32]
def T2 : List UInt8:=[10] ++ PREV ++ [32]
def T3 : List UInt8:=[10] ++ EPOCH ++ [32]
def T4 : List UInt8:=[10] ++ SEQ ++ [32]
theorem ptr_parts (n : Nt) : ptrL n = T1 ++ Lib.decDigits n.k.toNat ++ T2 ++ Lib.decDigits n.f.toNat ++ T3 ++ Lib.decDigits n.u.toNat ++ T4 ++ Lib.decDigits n.c.toNat ++ [10]:=by
 simp [ptrL, fldsL, ptrF, fldL, Nt.at, T1, T2, T3, T4]
end
def fldO (f : Fd) (l : List UInt8) : Option Nat:=if (f.word ++ [32]) <+: l then numF (l.drop (f.word ++ [32]).length) else none
def putF : List (Fd × List UInt8) -> List Value -> List Value
 | [], l => l
 | z :: r, l => putF r (l.set z.1.off (.int .i64 (((fldO z.1 z.2).getD 0 : Nat) : Int)))
theorem putF_snoc : ∀ (a : List (Fd × List UInt8)) (z : Fd × List UInt8) (l : List Value), putF (a ++ [z]) l = (putF a l).set z.1.off (.int .i64 (((fldO z.1 z.2).getD 0 : Nat) : Int))
 | [], z, l => rfl
 | y :: a, z, l => by rw [List.cons_append]; unfold putF; rw [putF_snoc a z]
theorem putF_len : ∀ (a : List (Fd × List UInt8)) (l : List Value), (putF a l).length = l.length
 | [], l => rfl
 | y :: a, l => by unfold putF; rw [putF_len a, List.length_set]
theorem hasPrefix_iff {s p : List UInt8} : Lib.hasPrefix s p = decide (p <+: s):=by
 unfold Lib.hasPrefix
 rw [Bool.eq_iff_iff, List.isPrefixOf_iff_prefix, decide_eq_true_iff]
theorem trim_of {s p : List UInt8} (h : p <+: s) : Lib.trimPrefix s p = s.drop p.length:=by
 unfold Lib.trimPrefix
 rw [hasPrefix_iff, decide_eq_true h, if_pos rfl]
section
variable {w w1 w2 : World}
theorem cutp_run (s p : List UInt8) : F.strings_CutPrefix (.string (sb s)) (.string (sb p)) w = some (.tuple #[.string (sb (Lib.trimPrefix s p)), .bool (decide (p <+: s))], w):=by
 unfold F.strings_CutPrefix
 show some (Value.tuple #[.string (sb (Lib.trimPrefix s p)), .bool (Lib.hasPrefix s p)], w) = _
 rw [hasPrefix_iff]
theorem numberOf_run {f : Fd} {l : List UInt8} (hl : l.length <= 4611686018427387904) (hw : f.word.length <= 100) : Run (F.paper_numberOf (.string (sb l)) (.string (sb f.word))) w λ r w' => r = numV (fldO f l) /\ Fr (λ _ => False) w w':=by
 unfold F.paper_numberOf
 have e32 : ByteArray.mk #[32] = sb [32]:=rfl
 have a1:=sbAdd (a:=f.word) (c:=[32]) (by simp; omega)
 have hnv : ∀ b, notV (.bool b) = some (.bool !b):=λ _ => rfl
 have y0 : ∀ v x, extV 0 (.tuple #[v, x]) = some v:=λ _ _ => rfl
 have y1 : ∀ v x, extV 1 (.tuple #[v, x]) = some x:=λ _ _ => rfl
 rw [e32, a1, Run_bindO_some, Run_bind]
 refine ⟨_, _, cutp_run l (f.word ++ [32]), ?_⟩
 show Run (bindO (extV 0 (.tuple #[.string (sb (Lib.trimPrefix l (f.word ++ [32]))), .bool (decide ((f.word ++ [32]) <+: l))])) _) w _
 rw [y0, Run_bindO_some, y1, Run_bindO_some, hnv, Run_bindO_some]
 unfold fldO
 by_cases h : (f.word ++ [32]) <+: l
 ·rw [decide_eq_true h, Bool.not_true, Run_condM_false, Run_bind, trim_of h, if_pos h]
  refine (number_run _ (by rw [List.length_drop]; omega)).mono ?_
  rintro _ w1 ⟨rfl, f1⟩
  have e : ∀ o, extV 0 (numV o) = some (.int .i64 ((o.getD 0 : Nat) : Int)):=λ _ => rfl
  have e' : ∀ o, extV 1 (numV o) = some (.bool o.isSome):=λ _ => rfl
  rw [e, Run_bindO_some, e', Run_bindO_some, Run_ret]
  exact ⟨rfl, f1⟩
 ·rw [decide_eq_false h, Bool.not_false, Run_condM_true, Run_ret, if_neg h]
  exact ⟨rfl, Fr.refl _ _⟩
theorem parseF_run {t v : Value} {fs : List Fd} {N : List (List UInt8)} (ht : Sl 4 w t (fs.map Fd.row)) (hv : Sl 1 w v (N.map λ s => [.string (sb s)])) (hok : ∀ f ∈ fs, f.Ok) {x : Nat} {l : List Value} (hx : bk w x = some l) (hxw : wr w x = true)
  (hoff : ∀ f ∈ fs, f.off < l.length) (hn : fs.length <= 1000) (hN : N.length <= 4611686018427387904) (hNl : ∀ s ∈ N, s.length <= 4611686018427387904) (htx : ¬ inB t x) (hvx : ¬ inB v x) :
  Run (F.api_Pointer_65 v t (.pointer (some ⟨x, 0, none⟩))) w λ r w' => r = .bool (decide (N.length = fs.length) && (fs.zip N).all λ z => (fldO z.1 z.2).isSome) /\
   (∃ l', bk w' x = some l' /\ wr w' x = true /\ l'.length = l.length /\ ((decide (N.length = fs.length) && (fs.zip N).all λ z => (fldO z.1 z.2).isSome) = true -> l' = putF (fs.zip N) l)) /\ Fr (λ c => c = x) w w':=by
 unfold F.api_Pointer_65
 have hlen:=ht.lenL
 have hlv:=hv.lenL
 rw [List.length_map] at hlen hlv
 rw [hlv, Run_bindO_some, hlen, Run_bindO_some, binV_int, intBin_neq, Run_bindO_some]
 by_cases hlen2 : N.length = fs.length
 case neg =>
  have h' : ¬ ((N.length : Nat) : Int) = fs.length:=by omega
  have hf : (!decide (((N.length : Nat) : Int) = fs.length)) = true:=by simp [h']
  rw [hf, Run_condM_true, Run_ret, decide_eq_false hlen2, Bool.false_and]
  exact ⟨rfl, ⟨l, hx, hxw, rfl, λ h => Bool.noConfusion h⟩, Fr.refl _ _⟩
 have h' : ((N.length : Nat) : Int) = fs.length:=by omega
 have hf : (!decide (((N.length : Nat) : Int) = fs.length)) = false:=by simp [h']
 rw [hf, Run_condM_false, Run_bindO_some, Run_bind, decide_eq_true hlen2, Bool.true_and]
 have hzl : (fs.zip N).length = fs.length:=by rw [List.length_zip]; omega
 obtain ⟨J, hJ, hgood, hend⟩:=far_ex (λ z : Fd × List UInt8 => (fldO z.1 z.2).isSome) (fs.zip N)
 rw [hzl] at hJ
 have step : ∀ (i : Nat) (z : Fd × List UInt8) (w1 : World), (fs.zip N)[i]? = some z -> Fr (λ c => c = x) w w1 -> ∀ {β : Type} {K : Value -> Value -> Value -> M β} {Q : β -> World -> Prop}, (∀ y w', bk w' y = some z.1.row -> Fr (λ _ => False) w1 w' -> Run (K (.int .i64 (((fldO z.1 z.2).getD 0 : Nat) : Int)) (.bool (fldO z.1 z.2).isSome) (.pointer (some ⟨y, 0, none⟩))) w' Q) ->
   Run (bindO (idxA 4 t (.int .i64 (i : Int))) λ x4 => M.bind (rdM (ldA 4 x4)) λ x5 => M.bind (newM 165 #[(Value.string ByteArray.empty), (Value.int IntKind.i64 0), (Value.int IntKind.i64 0), Value.nilFunc]) λ x9 => M.bind (stM 4 x9 x5) λ _ =>
    drewM <|
    bindO (idxA 1 v (.int .i64 (i : Int))) λ x11 =>
    M.bind (rdM (ld1 x11)) λ x12 =>
    bindO (fieldA 0 x9) λ x13 =>
    M.bind (rdM (ld1 x13)) λ x14 =>
    M.bind (F.paper_numberOf x12 x14) λ x15 =>
    bindO (extV 0 x15) λ x16 =>
    bindO (extV 1 x15) λ x17 => K x16 x17 x9) w1 Q:=by
  intro i z w1 hz f1 β K Q q
  obtain ⟨hz1, hz2⟩:=List.getElem?_zip_eq_some.1 hz
  have hfm:=List.mem_of_getElem? hz1
  have hsm:=List.mem_of_getElem? hz2
  refine Run_field (ht.fr f1 λ c hc he => htx (he ▸ hc)) hz1 (hok _ hfm) λ y w2 hy hwy hyle f2 => ?_
  rw [Run_drewM]
  have f2d : Fr (λ _ => False) w1 w2.drew:=f2.drew
  have hyd : bk w2.drew y = some z.1.row:=hy
  generalize w2.drew = w3 at *
  have hv3:=(hv.fr f1 λ c hc he => hvx (he ▸ hc)).fr0 f2d
  obtain ⟨p, p1, p2⟩:=hv3.rd1 (i:=i) (y:=.string (sb z.2)) (by simp [hz2]) .i64
  have p1' : idxA 1 v (.int .i64 (i : Int)) = some p:=p1
  have ld0 : ld1 (.pointer (some ⟨y, 0 + 0, none⟩)) w3 = some (.string (sb z.1.word)):=by rw [ld1_ptr, hyd]; rfl
  rw [p1', Run_bindO_some, Run_bind, Run_rdM]
  refine ⟨_, p2, ?_⟩
  rw [fieldA_ptr, Run_bindO_some, Run_bind, Run_rdM]
  refine ⟨_, ld0, ?_⟩
  rw [Run_bind]
  refine (numberOf_run (hNl _ hsm) (hok _ hfm).word.2.1).mono ?_
  rintro _ w4 ⟨rfl, f4⟩
  have e : ∀ o, extV 0 (numV o) = some (.int .i64 ((o.getD 0 : Nat) : Int)):=λ _ => rfl
  have e' : ∀ o, extV 1 (numV o) = some (.bool o.isSome):=λ _ => rfl
  rw [e, Run_bindO_some, e', Run_bindO_some]
  exact q y w4 (f4.bk_some hyd id) (f2d.trans f4 λ _ _ => id)
 have hnv : ∀ b, notV (.bool b) = some (.bool !b):=λ _ => rfl
 refine Run_for J (λ i L w' => L = [.int .i64 (i : Int)] /\ bk w' x = some (putF ((fs.zip N).take i) l) /\ wr w' x = true /\ Fr (λ c => c = x) w w') ⟨rfl, hx, hxw, Fr.refl _ _⟩ ?_ ?_
 ·rintro i L w1 hi ⟨rfl, hb1, hw1, f1⟩
  obtain ⟨z, hz⟩ : ∃ z, (fs.zip N)[i]? = some z:=⟨_, List.getElem?_eq_getElem (by omega)⟩
  obtain ⟨hz1, hz2⟩:=List.getElem?_zip_eq_some.1 hz
  have hfm:=List.mem_of_getElem? hz1
  have hil : (i : Int) < fs.length:=by omega
  have wi:=wrap_succ' (n:=i) (by omega)
  rw [getL_zero, lssT hil, Run_bindO_some, Run_condM_true]
  refine step i z w1 hz f1 λ y w2 hy f2 => ?_
  have hy3 : ld1 (.pointer (some ⟨y, 0 + 3, none⟩)) w2 = some z.1.fn:=by rw [ld1_ptr, hy]; rfl
  rw [hgood i z hi hz, hnv, Run_bindO_some, Bool.not_true, Run_condM_false, fieldA_ptr, Run_bindO_some, Run_bind, Run_rdM]
  refine ⟨_, hy3, ?_⟩
  rw [Run_bind]
  refine (hok _ hfm).cls x w2 _ ?_
  have nck : nilChk (.pointer (some ⟨x, z.1.off, none⟩)) = some (.pointer (some ⟨x, z.1.off, none⟩)):=rfl
  have hb2:=f2.bk_some hb1 id
  have hw2 : wr w2 x = true:=by rw [f2.wr (bk_lt hb1) id]; exact hw1
  have ho:=hoff _ hfm
  rw [nck, Run_bindO_some, Run_bind, Run_stM (by rfl) (by rfl) ⟨⟨_, hb2, by rw [putF_len]; show z.1.off + 1 <= _; omega⟩, hw2⟩, binV_int, intBin_add, wi, Run_bindO_some, Run_ret]
  refine ⟨rfl, ?_, by rw [wr_sto]; exact hw2, (f1.trans f2 λ _ _ h => h.elim).sto (.inl rfl) _ _⟩
  rw [bk_sto_same hb2, take_snocP hz, putF_snoc]
  rfl
 ·rintro L w1 ⟨rfl, hb1, hw1, f1⟩
  rcases hend with ⟨hJe, hall⟩ | ⟨z, hz, hp, hall⟩
  ·have hJf : J = fs.length:=by omega
   have hn : ¬ (J : Int) < fs.length:=by omega
   rw [getL_zero, lssF hn, Run_bindO_some, Run_condM_false, Run_ret]
   simp only [outK_exit]
   rw [show Nat.beq 0 0 = true from rfl, cond_true, Run_ret]
   rw [hJe, List.take_length] at hb1
   exact ⟨by rw [hall], ⟨_, hb1, hw1, putF_len _ _, λ _ => rfl⟩, f1⟩
  ·have hlt:=(List.getElem?_eq_some_iff.1 hz).1
   have hil : (J : Int) < fs.length:=by omega
   rw [getL_zero, lssT hil, Run_bindO_some, Run_condM_true]
   refine step J z w1 hz f1 λ y w2 hy f2 => ?_
   rw [hp, hnv, Run_bindO_some, Bool.not_false, Run_condM_true, Run_ret]
   simp only [outK_ret, Run_ret]
   exact ⟨by rw [hall], ⟨_, f2.bk_some hb1 id, by rw [f2.wr (bk_lt hb1) id]; exact hw1, putF_len _ _, λ h => by rw [hall] at h; cases h⟩, f1.trans f2 λ _ _ h => h.elim⟩
end
def okF (s title : List UInt8) : Bool:=decide (SUM <+: ((spl 10 s).getLast?).getD []) && (sumF ((((spl 10 s).getLast?).getD []).drop 4)).isSome && decide ((spl 10 s).head? = some title)
section
variable {w w1 w2 : World}
theorem sub13 {q : Nat} (h : 13 <= q) (h2 : q < 9223372036854775808) : IntKind.i64.wrap ((q : Int) - 13) = ((q - 13 : Nat) : Int):=by
 rw [show (q : Int) - 13 = ((q - 13 : Nat) : Int) by omega]
 exact i64W (by omega)
theorem sl_mid {k : Nat} {v : Value} {els : List (List Value)} (h : Sl k w v els) {a b : Nat} (hab : a <= b) (hb : b <= els.length) (kd : IntKind) : ∃ v', sliceV k v (some (.int kd a)) (some (.int kd b)) = some v' /\ Sl k w v' ((els.take b).drop a) /\ ∀ c, inB v' c -> inB v c:=by
 obtain ⟨h1, ad, c, rfl, h2, h3⟩:=h
 have ht : Sl k w (.slice ad (els.take b).length c) (els.take b):=by
  refine ⟨λ x hx => h1 x (List.mem_of_mem_take hx), ad, c, rfl, by rw [List.length_take]; omega, ?_⟩
  rcases h3 with h3 | ⟨bl, o, l, rfl, h4, h5, h6⟩
  ·exact .inl h3
  ·refine .inr ⟨bl, o, l, rfl, h4, h5, ?_⟩
   have hfl:=flat_len h1
   have e : (els.take b).flatten = els.flatten.take (b * k):=by
    have hsp : els.flatten = (els.take b).flatten ++ (els.drop b).flatten:=by rw [<- List.flatten_append, List.take_append_drop]
    have hlt : (els.take b).flatten.length = b * k:=by
     rw [flat_len λ x hx => h1 x (List.mem_of_mem_take hx), List.length_take, Nat.min_eq_left hb]
    rw [hsp, List.take_append_of_le_length (by omega), List.take_of_length_le (Nat.le_of_eq hlt)]
   rw [e, <- h6, List.take_take, List.length_take, Nat.min_eq_left hb, Nat.min_eq_left (Nat.mul_le_mul_right _ hb)]
 obtain ⟨v', e1, e2, e3⟩:=ht.drop (n:=a) (by rw [List.length_take]; omega) kd
 refine ⟨v', ?_, e2, λ c hc => by have:=e3 c hc; cases ad <;> exact this⟩
 rw [<- e1, List.length_take, Nat.min_eq_left hb]
 have hbc : boundV (.int kd (b : Int)) c = some b:=bound_at (by omega)
 simp only [sliceV, highV, hbc]
structure OpenP (w w' : World) (s title : List UInt8) (r : Value) : Prop where
 val : ∃ v right, r = .tuple #[v, .bool right, .bool (okF s title)] /\ (okF s title = true -> right = decide (sumF ((((spl 10 s).getLast?).getD []).drop 4) = some (crcF (sb ((s ++ [10]).take ((s ++ [10]).length - 13))))) /\
  Sl 1 w' v ((((spl 10 s).take ((spl 10 s).length - 1)).drop 1).map λ x => [.string (sb x)]) /\ ∀ c, inB v c -> w.heap.size <= c /\ c < w'.heap.size)
 fr : Fr (λ _ => False) w w'
theorem open_no {t title : List UInt8} (ht : ¬ [10] <:+ t) (hl : t.length <= 4294960000) : Run (F.paper_open (.string (sb t)) (.string (sb title))) w λ r w' => r = .tuple #[.slice none 0 0, .bool false, .bool false] /\ w' = w:=by
 unfold F.paper_open
 have e10 : ByteArray.mk #[10] = sb [10]:=rfl
 have hs : F.strings_HasSuffix (.string (sb t)) (.string (sb [10])) w = some (.bool false, w):=by
  unfold F.strings_HasSuffix
  simp only
  rw [if_pos (by rw [sb_size]; omega)]
  show some (Value.bool (([10] : List UInt8).isSuffixOf t), w) = _
  have : ([10] : List UInt8).isSuffixOf t = false:=by
   rw [Bool.eq_false_iff]
   exact λ h => ht (List.isSuffixOf_iff_suffix.1 h)
  rw [this]
 have hnv : ∀ b, notV (.bool b) = some (.bool !b):=λ _ => rfl
 rw [e10, Run_bind]
 refine ⟨_, _, hs, ?_⟩
 show Run (bindO (notV (.bool false)) _) w _
 rw [hnv, Run_bindO_some, Bool.not_false, Run_condM_true, Run_ret]
 exact ⟨rfl, rfl⟩
theorem open_yes (htb : Tb w) {s title : List UInt8} (hts : ¬ SUM <+: title) (hl : s.length <= 4294960000) : Run (F.paper_open (.string (sb (s ++ [10]))) (.string (sb title))) w λ r w' => OpenP w w' s title r:=by
 unfold F.paper_open
 have e10 : ByteArray.mk #[10] = sb [10]:=rfl
 have eS : ByteArray.mk #[115, 117, 109, 32] = sb SUM:=rfl
 have hs : F.strings_HasSuffix (.string (sb (s ++ [10]))) (.string (sb [10])) w = some (.bool true, w):=by
  unfold F.strings_HasSuffix
  simp only
  rw [if_pos (by rw [sb_size, List.length_append, List.length_singleton]; omega)]
  show some (Value.bool (([10] : List UInt8).isSuffixOf (s ++ [10])), w) = _
  rw [List.isSuffixOf_iff_suffix.2 (List.suffix_append s [10])]
 have hnv : ∀ b, notV (.bool b) = some (.bool !b):=λ _ => rfl
 have y0 : ∀ v x, extV 0 (.tuple #[v, x]) = some v:=λ _ _ => rfl
 have y1 : ∀ v x, extV 1 (.tuple #[v, x]) = some x:=λ _ _ => rfl
 rw [e10, Run_bind]
 refine ⟨_, _, hs, ?_⟩
 show Run (bindO (notV (.bool true)) _) w _
 rw [hnv, Run_bindO_some, Bool.not_true, Run_condM_false]
 have hlen : (s ++ [10]).length = s.length + 1:=by simp
 have ws : IntKind.i64.wrap (((s ++ [10]).length : Int) - 1) = (s.length : Int):=by rw [hlen, show ((s.length + 1 : Nat) : Int) - 1 = (s.length : Int) by omega]; exact i64W (by omega)
 have hsl:=slTo (l:=s ++ [10]) (n:=s.length) (by omega)
 rw [List.take_left' rfl] at hsl
 rw [lenS_string, sb_size, Run_bindO_some, binV_int, intBin_sub, ws, Run_bindO_some, hsl, Run_bindO_some, Run_bind]
 refine (split_run htb s 10 (by omega)).mono ?_
 rintro v w1 ⟨hv, f1, hn1⟩
 have hne:=spl_ne 10 s
 obtain ⟨hjn, hno⟩:=spl_jn 10 s
 generalize hN : spl 10 s = N at *
 have hN0 : 0 < N.length:=List.length_pos_iff.2 hne
 have hNs : N.length <= s.length + 1:=by
  have:=jn_count 10 N hne hno
  have h2 : (jn 10 N).count 10 <= (jn 10 N).length:=List.count_le_length
  rw [hjn] at this h2
  omega
 have hlv:=hv.1.lenL
 rw [List.length_map] at hlv
 have wl : IntKind.i64.wrap ((N.length : Int) - 1) = ((N.length - 1 : Nat) : Int):=by rw [show (N.length : Int) - 1 = ((N.length - 1 : Nat) : Int) by omega]; exact i64W (by omega)
 obtain ⟨last, hlast⟩ : ∃ x, N[N.length - 1]? = some x:=⟨_, List.getElem?_eq_getElem (by omega)⟩
 have hgl : N.getLast? = some last:=by rw [List.getLast?_eq_getElem?]; exact hlast
 obtain ⟨p, p1, p2⟩:=hv.1.rd1 (i:=N.length - 1) (y:=.string (sb last)) (by simp [hlast]) .i64
 have p1' : idxA 1 v (.int .i64 ((N.length - 1 : Nat) : Int)) = some p:=p1
 have hmem : ∀ x ∈ N, x.length <= s.length:=λ x hx => by
  have : ∀ (N : List (List UInt8)), x ∈ N -> x.length <= (jn 10 N).length:=λ N => by
   induction N with
   | nil => intro h; cases h
   | cons y r ih =>
    intro h
    by_cases hr : r = []
    ·subst hr; simp at h; subst h; simp [jn]
    ·rw [jn_cons 10 hr, List.length_append, List.length_append]
     rcases List.mem_cons.1 h with rfl | h
     ·omega
     ·have:=ih h; omega
  have:=this N hx
  rwa [hjn] at this
 have hll:=hmem last (List.mem_of_getElem? hlast)
 rw [hlv, Run_bindO_some, binV_int, intBin_sub, wl, Run_bindO_some, p1', Run_bindO_some, Run_bind, Run_rdM]
 refine ⟨_, p2, ?_⟩
 rw [eS, Run_bind]
 refine ⟨_, _, cutp_run last SUM, ?_⟩
 show Run (bindO (extV 0 (.tuple #[.string (sb (Lib.trimPrefix last SUM)), .bool (decide (SUM <+: last))])) _) w1 _
 rw [y0, Run_bindO_some, y1, Run_bindO_some, Run_bind]
 have htl : (Lib.trimPrefix last SUM).length <= 4611686018427387904:=by
  unfold Lib.trimPrefix
  split
  ·rw [List.length_drop]; omega
  ·omega
 refine (sumOf_run htl).mono ?_
 rintro _ w2 ⟨rfl, f2⟩
 have e : ∀ o, extV 0 (numV o) = some (.int .i64 ((o.getD 0 : Nat) : Int)):=λ _ => rfl
 have e' : ∀ o, extV 1 (numV o) = some (.bool o.isSome):=λ _ => rfl
 have hv2:=hv.1.fr0 f2
 obtain ⟨first, hfirst⟩ : ∃ x, N[0]? = some x:=⟨_, List.getElem?_eq_getElem (by omega)⟩
 have hhd : N.head? = some first:=by rw [List.head?_eq_getElem?]; exact hfirst
 obtain ⟨p0, q1, q2⟩:=hv2.rd1 (i:=0) (y:=.string (sb first)) (by simp [hfirst]) .i64
 have q1' : idxA 1 v (.int .i64 0) = some p0:=q1
 have hokF : okF s title = (decide (SUM <+: last) && (sumF (last.drop 4)).isSome && decide (first = title)):=by
  unfold okF
  rw [hN, hgl, hhd, Option.getD_some]
  simp
 have bad : okF s title = false -> Run (condM (.bool true) (M.ret (Value.tuple #[(Value.slice none 0 0), (Value.bool false), (Value.bool false)])) (M.fail : M Value)) w2 λ r w' => OpenP w w' s title r:=λ hb => by
  rw [Run_condM_true, Run_ret]
  exact ⟨⟨_, false, by rw [hb], λ h => by rw [hb] at h; cases h⟩, f1.trans f2 λ _ _ => id⟩
 have bad' : okF s title = false -> ∀ K, Run (condM (.bool true) (M.ret (Value.tuple #[(Value.slice none 0 0), (Value.bool false), (Value.bool false)])) K) w2 λ r w' => OpenP w w' s title r:=λ hb K => by
  have:=bad hb
  rw [Run_condM_true] at this ⊢
  exact this
 rw [e, Run_bindO_some, e', Run_bindO_some, hnv, Run_bindO_some]
 by_cases c1 : SUM <+: last
 case neg =>
  rw [decide_eq_false c1]
  simp only [Bool.not_false, Run_bind, Run_guardM_tf, pickV_bool, cond_true, Run_bindO_some]
  exact bad' (by rw [hokF, decide_eq_false c1]; rfl) _
 rw [decide_eq_true c1, trim_of c1]
 have hS4 : SUM.length = 4:=rfl
 rw [hS4]
 cases hsm : sumF (last.drop 4) with
 | none =>
  simp only [Bool.not_true, Run_bind, Run_guardM_ff, Run_ret, Option.isSome_none, hnv, Bool.not_false, Run_optM_some, pickV_bool, cond_false, cond_true, Run_bindO_some, Run_guardM_tf]
  exact bad' (by rw [hokF, hsm]; simp) _
 | some n =>
  simp only [Bool.not_true, Run_bind, Run_guardM_ff, Run_ret, Option.isSome_some, hnv, Run_optM_some, pickV_bool, cond_false, Run_bindO_some, q1', Run_rdM]
  refine ⟨_, q2, ?_⟩
  rw [sbNe, Run_optM_some]
  by_cases c3 : first = title
  case neg =>
   rw [decide_eq_false c3, Bool.not_false]
   exact bad' (by rw [hokF, decide_eq_false c3]; simp) _
  have hok : okF s title = true:=by rw [hokF, decide_eq_true c1, hsm, decide_eq_true c3]; rfl
  have hN2 : 2 <= N.length:=Nat.not_lt.1 λ h => by
   have h1 : N.length - 1 = 0:=by omega
   rw [h1, hfirst] at hlast
   rw [<- Option.some.inj hlast, c3] at c1
   exact hts c1
  have hs13 : 13 <= (s ++ [10]).length:=by
   have h8 : (last.drop 4).length = 8:=by
    unfold sumF at hsm
    split at hsm
    ·assumption
    ·cases hsm
   rw [List.length_drop] at h8
   omega
  have w13 : IntKind.i64.wrap (((s ++ [10]).length : Int) - 13) = (((s ++ [10]).length - 13 : Nat) : Int):=sub13 hs13 (by omega)
  obtain ⟨vm, m1, m2, m3⟩:=sl_mid (hv2.fr0 (show Fr (λ _ => False) w2 w2.drew from (Fr.refl _ _).drew)) (a:=1) (b:=N.length - 1) (by omega) (by rw [List.length_map]; omega) .i64
  have m1' : sliceV 1 v (some (.int .i64 1)) (some (.int .i64 ((N.length - 1 : Nat) : Int))) = some vm:=m1
  have hsl2:=slTo (l:=s ++ [10]) (n:=(s ++ [10]).length - 13) (by omega)
  rw [decide_eq_true c3, Bool.not_true, Run_condM_false, Run_drewM, m1', Run_bindO_some, Run_bindO_some, binV_int, intBin_sub, w13, Run_bindO_some, hsl2, Run_bindO_some, Run_bind]
  refine Run_bsl (k:=1) (vs:=[.string (sb ((s ++ [10]).take ((s ++ [10]).length - 13)))]) (by rfl) (by intro v hv; simp only [List.mem_singleton] at hv; subst hv; rfl) rfl (by kernel_rfl) λ r w3 hr f3 _ => ?_
  have fd3 : Fr (λ _ => False) w2 w3:=((Fr.refl _ _).drew).trans f3 λ _ _ => id
  have f13:=(f1.trans f2 λ _ _ => id).trans fd3 λ _ _ => id
  rw [Run_bind]
  refine (crc_run (htb.fr0 f13).nib hr.1 (by rw [sb_size, List.length_take]; omega)).mono ?_
  rintro _ w4 ⟨rfl, rfl⟩
  rw [binV_int, intBin_eql, Run_bindO_some, Run_ret, Option.getD_some]
  refine ⟨⟨vm, _, by rw [hok], λ _ => ⟨?_, ?_, λ c hc => ?_⟩⟩, f13⟩
  ·rw [hN, hgl, Option.getD_some, hsm]
   congr 1
   rw [eq_iff_iff]
   constructor
   ·intro h; rw [Int.ofNat_inj.1 h]
   ·intro h; rw [Option.some.inj h]
  ·rw [hN]
   have:=m2.fr0 f3
   rwa [<- List.map_take, <- List.map_drop] at this
  ·exact ⟨(hn1 c (m3 c hc)).1, Nat.lt_of_lt_of_le (hn1 c (m3 c hc)).2 (f2.trans fd3 λ _ _ => id).size⟩
end
theorem num_all {d : List UInt8} {v : Nat} (h : numF d = some v) : d.all isD = true /\ v = valL d /\ d ≠ [] /\ d.length <= 16:=by
 unfold numF at h
 split at h
 ·cases h
 ·rename_i hn
  simp only [not_or, Option.some.injEq] at hn h
  exact ⟨by simpa using hn.2.2.2, h.symm, hn.1, by omega⟩
theorem num_no10 {d : List UInt8} {v : Nat} (h : numF d = some v) : (10 : UInt8) ∉ d:=λ hm => by
 have:=List.all_eq_true.1 (num_all h).1 10 hm
 exact absurd this (by decide)
theorem sum_no10 {e : List UInt8} {v : Nat} (h : sumF e = some v) : (10 : UInt8) ∉ e /\ e.length = 8:=by
 unfold sumF at h
 split at h
 ·rename_i hl
  refine ⟨λ hm => ?_, hl⟩
  obtain ⟨j, hj⟩:=List.getElem?_of_mem hm
  have hj8 : j < 8:=by have:=(List.getElem?_eq_some_iff.1 hj).1; omega
  have hp : pairV e (j / 2) = none:=by
   unfold pairV
   rcases Nat.mod_two_eq_zero_or_one j with h0 | h1
   ·rw [show 2 * (j / 2) = j by omega, hj]
    have h10 : hvN (10 : UInt8).toNat = none:=by decide
    split
    ·rename_i a b h1 h2
     cases h1
     rw [h10]
    ·rfl
   ·rw [show 2 * (j / 2) + 1 = j by omega, hj]
    have h10 : hvN (10 : UInt8).toNat = none:=by decide
    split
    ·rename_i a b h1 h2
     cases h2
     rw [h10]
     split <;> simp_all
    ·rfl
  rw [pairsF_bad hp (n:=4) (by omega)] at h
  cases h
 ·cases h
def pform (t : List UInt8) (n : Nt) (sm : Nat) : Prop:=∃ d1 d2 d3 d4 e a b c d, t = T1 ++ d1 ++ T2 ++ d2 ++ T3 ++ d3 ++ T4 ++ d4 ++ [10] ++ SUM ++ e ++ [10] /\ numF d1 = some a /\ numF d2 = some b /\ numF d3 = some c /\ numF d4 = some d /\ sumF e = some sm /\ n = ⟨(a : Int), (b : Int), (c : Int), (d : Int)⟩
def zNt : Nt:=⟨0, 0, 0, 0⟩
def ansV (t : List UInt8) (n : Nt) (sm : Nat) : Value:=if sm = crcF (sb (t.take (t.length - 13))) then (if n.pok = true then .tuple #[n.v, .int .i64 0] else .tuple #[zNt.v, .int .i64 42]) else .tuple #[zNt.v, .int .i64 41]
structure PAns (t : List UInt8) (r : Value) : Prop where
 yes : ∀ n sm, pform t n sm -> r = ansV t n sm
 no : (∀ n sm, ¬ pform t n sm) -> r = .tuple #[zNt.v, .int .i64 40]
def midL (s : List UInt8) : List (List UInt8):=((spl 10 s).take ((spl 10 s).length - 1)).drop 1
def lastL (s : List UInt8) : List UInt8:=((spl 10 s).getLast?).getD []
def condF (s : List UInt8) : Bool:=okF s LATEST && (decide ((midL s).length = ptrF.length) && (ptrF.zip (midL s)).all λ z => (fldO z.1 z.2).isSome)
theorem form_lines {s d1 d2 d3 d4 e : List UInt8} {a b c d sm : Nat} (h : s ++ [10] = T1 ++ d1 ++ T2 ++ d2 ++ T3 ++ d3 ++ T4 ++ d4 ++ [10] ++ SUM ++ e ++ [10]) (h1 : numF d1 = some a) (h2 : numF d2 = some b) (h3 : numF d3 = some c) (h4 : numF d4 = some d) (h5 : sumF e = some sm) :
  spl 10 s = [LATEST, CUR ++ [32] ++ d1, PREV ++ [32] ++ d2, EPOCH ++ [32] ++ d3, SEQ ++ [32] ++ d4, SUM ++ e]:=by
 have hs : s = jn 10 [LATEST, CUR ++ [32] ++ d1, PREV ++ [32] ++ d2, EPOCH ++ [32] ++ d3, SEQ ++ [32] ++ d4, SUM ++ e]:=by
  have:=List.append_cancel_right h
  rw [this]
  simp [jn, T1, T2, T3, T4]
 rw [hs]
 refine spl_of 10 (by simp) λ x hx => ?_
 simp only [List.mem_cons, List.not_mem_nil, or_false] at hx
 have k1:=num_no10 h1
 have k2:=num_no10 h2
 have k3:=num_no10 h3
 have k4:=num_no10 h4
 have k5:=(sum_no10 h5).1
 rcases hx with rfl | rfl | rfl | rfl | rfl | rfl
 ·decide
 ·simp only [List.mem_append, not_or]; exact ⟨⟨by decide, by decide⟩, k1⟩
 ·simp only [List.mem_append, not_or]; exact ⟨⟨by decide, by decide⟩, k2⟩
 ·simp only [List.mem_append, not_or]; exact ⟨⟨by decide, by decide⟩, k3⟩
 ·simp only [List.mem_append, not_or]; exact ⟨⟨by decide, by decide⟩, k4⟩
 ·simp only [List.mem_append, not_or]; exact ⟨by decide, k5⟩
theorem fldO_of {f : Fd} {d : List UInt8} : fldO f (f.word ++ [32] ++ d) = numF d:=by
 unfold fldO
 rw [if_pos (List.prefix_append _ _), List.drop_left]
theorem form_yes {s : List UInt8} {n : Nt} {sm : Nat} (h : pform (s ++ [10]) n sm) : condF s = true /\ putF (ptrF.zip (midL s)) [.int .i64 0, .int .i64 0, .int .i64 0, .int .i64 0] = n.row /\ sumF ((lastL s).drop 4) = some sm:=by
 obtain ⟨d1, d2, d3, d4, e, a, b, c, d, ht, h1, h2, h3, h4, h5, rfl⟩:=h
 have hN:=form_lines ht h1 h2 h3 h4 h5
 have hm : midL s = [CUR ++ [32] ++ d1, PREV ++ [32] ++ d2, EPOCH ++ [32] ++ d3, SEQ ++ [32] ++ d4]:=by unfold midL; rw [hN]; rfl
 have hl : lastL s = SUM ++ e:=by unfold lastL; rw [hN]; rfl
 have hd4 : (SUM ++ e).drop 4 = e:=List.drop_left (l₁:=SUM)
 have hok : okF s LATEST = true:=by
  unfold okF
  have e1 : ((spl 10 s).getLast?).getD [] = SUM ++ e:=hl
  rw [e1, hd4, h5, hN, decide_eq_true (List.prefix_append SUM e)]
  simp
 have f1:=fldO_of (f:=⟨CUR, 0, 999999, 0, .func (.func 109) #[] #[]⟩) (d:=d1)
 have f2:=fldO_of (f:=⟨PREV, 0, 999999, 1, .func (.func 110) #[] #[]⟩) (d:=d2)
 have f3:=fldO_of (f:=⟨EPOCH, 0, 9007199254740992, 2, .func (.func 111) #[] #[]⟩) (d:=d3)
 have f4:=fldO_of (f:=⟨SEQ, 0, 9007199254740992, 3, .func (.func 112) #[] #[]⟩) (d:=d4)
 rw [h1] at f1
 rw [h2] at f2
 rw [h3] at f3
 rw [h4] at f4
 refine ⟨?_, ?_, by rw [hl, hd4, h5]⟩
 ·unfold condF
  rw [hok, hm]
  simp only [ptrF, List.zip_cons_cons, List.zip_nil_right, List.all_cons, List.all_nil, f1, f2, f3, f4]
  rfl
 ·rw [hm]
  simp only [ptrF, List.zip_cons_cons, List.zip_nil_right, putF, f1, f2, f3, f4]
  rfl
theorem fldO_some {f : Fd} {l : List UInt8} (h : (fldO f l).isSome = true) : ∃ d v, l = f.word ++ [32] ++ d /\ numF d = some v:=by
 unfold fldO at h
 split at h
 ·rename_i hp
  obtain ⟨d, rfl⟩:=hp
  rw [List.drop_left] at h
  obtain ⟨v, hv⟩:=Option.isSome_iff_exists.1 h
  exact ⟨d, v, rfl, hv⟩
 ·cases h
theorem form_no {s : List UInt8} (h : condF s = true) : ∃ n sm, pform (s ++ [10]) n sm:=by
 unfold condF at h
 simp only [Bool.and_eq_true, decide_eq_true_eq] at h
 obtain ⟨hok, hlen, hall⟩:=h
 obtain ⟨hjn, hno⟩:=spl_jn 10 s
 unfold okF at hok
 unfold midL at hlen hall
 generalize spl 10 s = N at *
 have h4 : ptrF.length = 4:=rfl
 rw [h4, List.length_drop, List.length_take] at hlen
 have hl6 : N.length = 6:=by omega
 obtain ⟨x0, x1, x2, x3, x4, x5, rfl⟩ : ∃ x0 x1 x2 x3 x4 x5, N = [x0, x1, x2, x3, x4, x5]:=by
  match N, hl6 with
  | [x0, x1, x2, x3, x4, x5], _ => exact ⟨_, _, _, _, _, _, rfl⟩
 simp only [Bool.and_eq_true, decide_eq_true_eq, List.getLast?_cons_cons, List.getLast?_singleton, Option.getD_some, List.head?_cons, Option.some.injEq] at hok
 obtain ⟨⟨hp, hsm⟩, rfl⟩:=hok
 obtain ⟨e, rfl⟩:=hp
 have hd4 : (SUM ++ e).drop 4 = e:=List.drop_left (l₁:=SUM)
 rw [hd4] at hsm
 obtain ⟨sm, hsm⟩:=Option.isSome_iff_exists.1 hsm
 have hall' : (ptrF.zip [x1, x2, x3, x4]).all (λ z => (fldO z.1 z.2).isSome) = true:=hall
 simp only [ptrF, List.zip_cons_cons, List.zip_nil_right, List.all_cons, List.all_nil, Bool.and_eq_true, Bool.and_true] at hall'
 obtain ⟨g1, g2, g3, g4⟩:=hall'
 obtain ⟨d1, a, rfl, v1⟩:=fldO_some g1
 obtain ⟨d2, b, rfl, v2⟩:=fldO_some g2
 obtain ⟨d3, c, rfl, v3⟩:=fldO_some g3
 obtain ⟨d4, d, rfl, v4⟩:=fldO_some g4
 refine ⟨_, sm, d1, d2, d3, d4, e, a, b, c, d, ?_, v1, v2, v3, v4, hsm, rfl⟩
 rw [<- hjn]
 simp [jn, T1, T2, T3, T4]
section
variable {w w1 w2 : World}
theorem fin_run {x1 : Nat} (h1 : bk w x1 = some zNt.row) (hw1 : wr w x1 = true) (m : Nt) {K : Value -> World -> Prop} (q : ∀ w', Fr (λ c => c = x1) w w' -> K m.v w') :
  Run (stM 4 (.pointer (some ⟨x1, 0, none⟩)) m.v) w λ _ w' => Run (rdM (ldA 4 (.pointer (some ⟨x1, 0, none⟩)))) w' K:=by
 rw [Run_stM (by rfl) (by rfl) ⟨⟨_, h1, by simp [Nt.v, Value.cells, Nt.row]⟩, hw1⟩, Run_rdM]
 have hb:=bk_sto_same (o:=0) h1 m.v.cells.toList
 exact ⟨_, ldA_bk hb (by first | exact Nat.le_refl _ | simp), q _ ((show Fr (λ c => c = x1) w w from Fr.refl _ _).sto (.inl rfl) _ _)⟩
theorem ptrOff : ∀ f ∈ ptrF, f.off < zNt.row.length:=by
 intro f hf
 simp only [ptrF, List.mem_cons, List.not_mem_nil, or_false] at hf
 rcases hf with rfl | rfl | rfl | rfl <;> decide
theorem pparse_run (ht : Tb w) {t : List UInt8} (hl : t.length <= 4294960000) : Run (F.paper_ParsePointer (.string (sb t))) w λ r w' => PAns t r /\ Fr (λ _ => False) w w':=by
 unfold F.paper_ParsePointer
 have eL : ByteArray.mk #[103, 114, 97, 110, 97, 114, 121, 32, 108, 97, 116, 101, 115, 116, 32, 49] = sb LATEST:=rfl
 have z0 : buildV #[(Value.int IntKind.i64 0), (Value.int IntKind.i64 0), (Value.int IntKind.i64 0), (Value.int IntKind.i64 0)] [] = some zNt.v:=rfl
 have hnv : ∀ b, notV (.bool b) = some (.bool !b):=λ _ => rfl
 have y0 : ∀ v x z, extV 0 (.tuple #[v, x, z]) = some v:=λ _ _ _ => rfl
 have y1 : ∀ v x z, extV 1 (.tuple #[v, x, z]) = some x:=λ _ _ _ => rfl
 have y2 : ∀ v x z, extV 2 (.tuple #[v, x, z]) = some z:=λ _ _ _ => rfl
 rw [Run_bind]
 refine Run_new λ x1 wa hx1 hw1 fa hx1le => ?_
 replace hx1 : bk wa x1 = some zNt.row:=hx1
 have ta:=ht.fr0 fa
 rw [eL, Run_bind]
 by_cases hsuf : [10] <:+ t
 case neg =>
  refine (open_no hsuf hl).mono ?_
  rintro _ wb ⟨rfl, hwb⟩
  rw [hwb, y0, Run_bindO_some, y1, Run_bindO_some, y2, Run_bindO_some, Run_bind]
  refine Run_new λ x6 wc hx6 hw6 fc hx6le => ?_
  rw [hnv, Run_bindO_some]
  simp only [Bool.not_false, Run_bind, Run_guardM_tf, pickV_bool, cond_true, Run_bindO_some, Run_condM_true, z0, Run_ret]
  refine fin_run (fc.bk_some hx1 id) (by rw [fc.wr (bk_lt hx1) id]; exact hw1) zNt λ wd fd => ?_
  refine ⟨⟨λ n sm hp => ?_, λ _ => rfl⟩, (fa.trans fc λ _ _ => id).new fd λ c hc => hc ▸ hx1le⟩
  obtain ⟨d1, d2, d3, d4, e, a, b, c, d, he, _⟩:=hp
  exact absurd ⟨_, he.symm⟩ hsuf
 obtain ⟨s, rfl⟩:=hsuf
 have hsl : s.length <= 4294960000:=by rw [List.length_append] at hl; omega
 refine (open_yes ta (s:=s) (title:=LATEST) (by decide) hsl).mono ?_
 rintro _ wb ⟨⟨v, right, rfl, hv⟩, fb⟩
 rw [y0, Run_bindO_some, y1, Run_bindO_some, y2, Run_bindO_some, Run_bind]
 refine Run_new λ x6 wc hx6 hw6 fc hx6le => ?_
 replace hx6 : bk wc x6 = some zNt.row:=hx6
 have fac:=(fa.trans fb λ _ _ => id).trans fc λ _ _ => id
 have hx1c:=fc.bk_some (fb.bk_some hx1 id) id
 have hw1c : wr wc x1 = true:=by rw [fc.wr (bk_lt (fb.bk_some hx1 id)) id, fb.wr (bk_lt hx1) id]; exact hw1
 have l1:=bk_lt hx1
 have sb1:=fb.size
 have hno : condF s = false -> PAns (s ++ [10]) (.tuple #[zNt.v, .int .i64 40]):=λ hc => ⟨λ n sm hp => by
  rw [(form_yes hp).1] at hc
  exact Bool.noConfusion hc, λ _ => rfl⟩
 rw [hnv, Run_bindO_some]
 cases hok : okF s LATEST with
 | false =>
  simp only [Bool.not_false, Run_bind, Run_guardM_tf, pickV_bool, cond_true, Run_bindO_some, Run_condM_true, z0, Run_ret]
  refine fin_run hx1c hw1c zNt λ wd fd => ⟨hno (by unfold condF; rw [hok]; rfl), fac.new fd λ c hc => hc ▸ hx1le⟩
 | true =>
  obtain ⟨hright, hvs, hvn⟩:=hv hok
  simp only [Bool.not_true, Run_bind, Run_guardM_ff, Run_ret]
  refine pfields_run.mono ?_
  rintro tb wd ⟨htd, fd, hnd⟩
  have sz:=fc.size
  have szd:=fd.size
  have l6:=bk_lt hx6
  have hx6d:=fd.bk_some hx6 id
  have hw6d : wr wd x6 = true:=by rw [fd.wr l6 id]; exact hw6
  have hvs' : Sl 1 wb v ((midL s).map λ x => [.string (sb x)]):=hvs
  have hml : ∀ x ∈ midL s, x.length <= 4611686018427387904:=λ x hx => by
   have hm:=List.mem_of_mem_take (List.mem_of_mem_drop hx)
   have : ∀ (N : List (List UInt8)), x ∈ N -> x.length <= (jn 10 N).length:=λ N => by
    induction N with
    | nil => intro h; cases h
    | cons y r ih =>
     intro h
     by_cases hr : r = []
     ·subst hr; simp at h; subst h; simp [jn]
     ·rw [jn_cons 10 hr, List.length_append, List.length_append]
      rcases List.mem_cons.1 h with rfl | h
      ·omega
      ·have:=ih h; omega
   have:=this _ hm
   rw [(spl_jn 10 s).1] at this
   omega
  have hmN : (midL s).length <= 4611686018427387904:=by
   have h1:=jn_count 10 _ (spl_ne 10 s) (spl_jn 10 s).2
   have h2 : (jn 10 (spl 10 s)).count 10 <= (jn 10 (spl 10 s)).length:=List.count_le_length
   rw [(spl_jn 10 s).1] at h1 h2
   unfold midL
   rw [List.length_drop, List.length_take]
   omega
  have hvx6 : ¬ inB v x6:=λ h => by have:=(hvn _ h).2; omega
  refine (parseF_run htd.1 ((hvs'.fr0 fc).fr0 fd) ptrF_ok hx6d hw6d ptrOff (by decide) hmN hml (λ h => by have:=(hnd _ h).1; omega) hvx6).mono ?_
  rintro _ we ⟨rfl, ⟨l', hb', hwb', hl', hput⟩, fe⟩
  have fde : Fr (λ c => c = x6) wc we:=(fd.mono λ _ h => h.elim).trans fe λ _ _ h => h
  have hx1e:=fde.bk_some hx1c λ e => by omega
  have hw1e : wr we x1 = true:=by rw [fde.wr (bk_lt hx1c) λ e => by omega]; exact hw1c
  have fwe : Fr (λ _ => False) w we:=fac.new fde λ c hc => by omega
  have hcd : condF s = (decide ((midL s).length = ptrF.length) && (ptrF.zip (midL s)).all λ z => (fldO z.1 z.2).isSome):=by unfold condF; rw [hok, Bool.true_and]
  rw [<- hcd] at hput ⊢
  rw [hnv, Run_optM_some]
  simp only [pickV_bool, cond_false, Run_bindO_some]
  cases hc : condF s with
  | false =>
   simp only [Bool.not_false, Run_condM_true, z0, Run_bindO_some, Run_bind, Run_ret]
   exact fin_run hx1e hw1e zNt λ wf ff => ⟨hno hc, fwe.new ff λ c hc => hc ▸ hx1le⟩
  | true =>
   obtain ⟨n, sm, hpf⟩:=form_no hc
   obtain ⟨_, hput2, hsm⟩:=form_yes hpf
   have hl2:=hput hc
   have hz : zNt.row = [.int .i64 0, .int .i64 0, .int .i64 0, .int .i64 0]:=rfl
   rw [hz, hput2] at hl2
   subst hl2
   have hans : ∀ r, r = ansV (s ++ [10]) n sm -> PAns (s ++ [10]) r:=λ r hr => by
    refine ⟨λ n' sm' hp' => ?_, λ hno => absurd hpf (hno n sm)⟩
    obtain ⟨_, e1, e2⟩:=form_yes hp'
    rw [hput2] at e1
    rw [hsm] at e2
    have en : n = n':=by
     obtain ⟨a, b, c, d⟩:=n
     obtain ⟨a', b', c', d'⟩:=n'
     simp only [Nt.row, List.cons.injEq, Value.int.injEq, true_and, and_true] at e1
     obtain ⟨rfl, rfl, rfl, rfl⟩:=e1
     rfl
    rw [hr, en, Option.some.inj e2]
   have hr2 : right = decide (sm = crcF (sb ((s ++ [10]).take ((s ++ [10]).length - 13)))):=by
    have hsm' : sumF ((((spl 10 s).getLast?).getD []).drop 4) = some sm:=hsm
    rw [hright]
    refine decide_eq_decide.2 ?_
    rw [hsm']
    simp
   simp only [Bool.not_true, Run_condM_false, Run_bindO_some, hnv]
   by_cases hcrc : sm = crcF (sb ((s ++ [10]).take ((s ++ [10]).length - 13)))
   case neg =>
    rw [hr2, decide_eq_false hcrc]
    simp only [Bool.not_false, Run_condM_true, z0, Run_bindO_some, Run_bind, Run_ret]
    exact fin_run hx1e hw1e zNt λ wf ff => ⟨hans _ (by rw [ansV, if_neg hcrc]), fwe.new ff λ c hc => hc ▸ hx1le⟩
   rw [hr2, decide_eq_true hcrc, Bool.not_true, Run_condM_false, Run_bind]
   refine pfields_run.mono ?_
   rintro tb2 wf ⟨htf, ff, hnf⟩
   have hx6f:=ff.bk_some hb' id
   rw [Run_bind]
   refine (ranges_run htf.1 ptrF_ok hx6f (ptrF_at n) (by decide)).mono ?_
   rintro _ wg ⟨rfl, fg⟩
   have fwg:=(fwe.trans ff λ _ _ => id).trans fg λ _ _ => id
   have hx1g:=fg.bk_some (ff.bk_some hx1e id) id
   have hw1g : wr wg x1 = true:=by rw [fg.wr (bk_lt (ff.bk_some hx1e id)) id, ff.wr (bk_lt hx1e) id]; exact hw1e
   have hx6g:=fg.bk_some hx6f id
   rw [hnv, Run_bindO_some]
   cases hpk : n.pok with
   | false =>
    have hpk' : (ptrF.all λ f => f.inR n.at) = false:=hpk
    rw [hpk', Bool.not_false, Run_condM_true, z0, Run_bindO_some]
    simp only [Run_bind, Run_ret]
    exact fin_run hx1g hw1g zNt λ wh fh => ⟨hans _ (by rw [ansV, if_pos hcrc, hpk]; rfl), fwg.new fh λ c hc => hc ▸ hx1le⟩
   | true =>
    have hpk' : (ptrF.all λ f => f.inR n.at) = true:=hpk
    have l6g : ldA 4 (.pointer (some ⟨x6, 0, none⟩)) wg = some n.v:=ldA_bk hx6g (Nat.le_refl _)
    rw [hpk', Bool.not_true, Run_condM_false, Run_bind, Run_rdM]
    refine ⟨_, l6g, ?_⟩
    simp only [Run_bind, Run_ret]
    exact fin_run hx1g hw1g n λ wh fh => ⟨hans _ (by rw [ansV, if_pos hcrc, hpk]; rfl), fwg.new fh λ c hc => hc ▸ hx1le⟩
end
section
variable {w w1 w2 : World}
structure RP (w0 w : World) (b : Nat) (l : List UInt8) (p : Nat) (bad : Bool) (x6 : Nat) (l6 : List Value) : Prop where
 rs : RS w b l p bad
 hp : p <= l.length
 b6 : bk w x6 = some l6
 w6 : wr w x6 = true
 e6 : l6.length = 4
 ne : x6 ≠ b
 fr : Fr (λ c => c = b ∨ c = x6) w0 w
theorem RP.call {w0 : World} {b p : Nat} {l : List UInt8} {bad : Bool} {x6 : Nat} {l6 : List Value} (h : RP w0 w b l p bad x6 l6) (f : Fr (λ c => c = b) w w2) {p' : Nat} {bad' : Bool} (rs : RS w2 b l p' bad') (hp : p' <= l.length) : RP w0 w2 b l p' bad' x6 l6 :=
 ⟨rs, hp, f.bk_some h.b6 h.ne, by rw [f.wr (bk_lt h.b6) h.ne]; exact h.w6, h.e6, h.ne, h.fr.trans f λ _ _ he => .inl he⟩
theorem RP.put6 {w0 : World} {b p : Nat} {l : List UInt8} {bad : Bool} {x6 : Nat} {l6 : List Value} (h : RP w0 w b l p bad x6 l6) (i : Nat) (y : Value) : RP w0 (sto w x6 i [y]) b l p bad x6 (l6.set i y):=by
 have f : Fr (λ c => c = x6) w (sto w x6 i [y]):=(show Fr (λ c => c = x6) w w from Fr.refl _ _).sto (.inl rfl) _ _
 exact ⟨⟨f.bk_some h.rs.1 λ e => h.ne e.symm, by rw [wr_sto]; exact h.rs.2⟩, h.hp, by rw [bk_sto_same h.b6]; simp only [setL_cons, setL_nil], by rw [wr_sto]; exact h.w6, by rw [List.length_set]; exact h.e6, h.ne, h.fr.trans f λ _ _ he => .inr he⟩
theorem RP.lit {β : Type} {w0 : World} {b p : Nat} {l : List UInt8} {bad : Bool} {x6 : Nat} {l6 : List Value} (h : RP w0 w b l p bad x6 l6) (hl : l.length <= 4611686018427387904) {y : List UInt8} (hy : y.length <= 4611686018427387904) {K : M β} {Q : β -> World -> Prop}
  (q : ∀ w' p', RP w0 w' b l p' (bad || !decide (y <+: l.drop p)) x6 l6 -> (bad = false -> y <+: l.drop p -> p' = p + y.length) -> Run K w' Q) :
  Run (M.bind (F.granaryref4_Reader_lit (.pointer (some ⟨b, 0, none⟩)) (.string (sb y))) λ _ => K) w Q:=by
 rw [Run_bind]
 refine (rlit_run h.rs h.hp hl hy).mono ?_
 rintro _ w2 ⟨⟨p', rs, hp', hh⟩, f⟩
 exact q w2 p' (h.call f rs hp') hh
end
section
variable {w w1 w2 : World}
theorem eqRow (n : Nt) : eqV (EqSh.offs [(EqK.int, 0), (EqK.int, 1), (EqK.int, 2), (EqK.int, 3)]) n.v n.v = some (.bool true):=by
 simp [Nt.v, eqOffs, eqPrim]
end
end Go.Proofs.YthlpfhjcdedhgaaGreatDoor
namespace Go.Proofs.YthlpfhjcdedhgaaGreatDoor.Me
open Go.Lift Go.Sort
set_option linter.unusedSimpArgs false
set_option linter.unusedVariables false
set_option maxHeartbeats 4000000
section
variable {w w1 w2 : World}
theorem ranges_run {t : Value} {fs : List Fd} (ht : Sl 4 w t (fs.map Fd.row)) (hok : ∀ f ∈ fs, f.Ok) {x : Nat} {l : List Value} {g : Nat -> Int} (hx : bk w x = some l) (hg : ∀ f ∈ fs, l[f.off]? = some (.int .i64 (g f.off))) (hn : fs.length <= 1000) :
  Run (F.api_Meta t (.pointer (some ⟨x, 0, none⟩))) w λ r w' => r = .bool (fs.all λ f => f.inR g) /\ Fr (λ _ => False) w w':=by
 unfold F.api_Meta
 have hlen:=ht.lenL
 rw [List.length_map] at hlen
 rw [hlen, Run_bindO_some, Run_bind]
 obtain ⟨J, hJ, hgood, hend⟩:=far_ex (λ f : Fd => f.inR g) fs
 have step : ∀ (i : Nat) (f : Fd) (w1 : World), fs[i]? = some f -> Fr (λ _ => False) w w1 -> ∀ {β : Type} {K : Value -> M β} {Q : β -> World -> Prop}, (∀ w', Fr (λ _ => False) w w' -> Run (K (.bool (!f.inR g))) w' Q) ->
   Run (bindO (idxA 4 t (.int .i64 (i : Int))) λ x4 => M.bind (rdM (ldA 4 x4)) λ x5 => M.bind (newM 144 #[(Value.string ByteArray.empty), (Value.int IntKind.i64 0), (Value.int IntKind.i64 0), Value.nilFunc]) λ x6 => M.bind (stM 4 x6 x5) λ _ =>
    bindO (fieldA 3 x6) λ x8 =>
    M.bind (rdM (ld1 x8)) λ x9 =>
    M.bind (callV F.clos x9 [.pointer (some ⟨x, 0, none⟩)]) λ x10 =>
    bindO (nilChk x10) λ x11 =>
    M.bind (rdM (ld1 x11)) λ x12 =>
    bindO (fieldA 1 x6) λ x13 =>
    M.bind (rdM (ld1 x13)) λ x14 =>
    bindO (binV BinOp.lss x12 x14) λ x15 =>
    M.bind (guardM x15 false (M.ret x12)) λ x16 =>
    M.bind (guardM x15 false (optM (fieldA 2 x6))) λ x17 =>
    M.bind (guardM x15 false (rdM (ld1 x17))) λ x18 =>
    M.bind (guardM x15 false (optM (binV BinOp.gtr x16 x18))) λ x19 =>
    bindO (pickV x15 (Value.bool true) x19) K) w1 Q:=by
  intro i f w1 hf f1 β K Q q
  have hfm:=List.mem_of_getElem? hf
  refine Run_field (ht.fr0 f1) hf (hok f hfm) λ y w2 hy hwy hyle f2 => ?_
  have f12:=f1.trans f2 λ _ _ => id
  have hx2:=f12.bk_some hx id
  have ld3 : ld1 (.pointer (some ⟨y, 0 + 3, none⟩)) w2 = some f.fn:=by rw [ld1_ptr, hy]; rfl
  have ld1' : ld1 (.pointer (some ⟨y, 0 + 1, none⟩)) w2 = some (.int .i64 f.lo):=by rw [ld1_ptr, hy]; rfl
  have ld2 : ld1 (.pointer (some ⟨y, 0 + 2, none⟩)) w2 = some (.int .i64 f.hi):=by rw [ld1_ptr, hy]; rfl
  have ldx : ld1 (.pointer (some ⟨x, f.off, none⟩)) w2 = some (.int .i64 (g f.off)):=by rw [ld1_ptr, hx2]; exact hg f hfm
  rw [fieldA_ptr, Run_bindO_some, Run_bind, Run_rdM]
  refine ⟨_, ld3, ?_⟩
  rw [Run_bind]
  refine (hok f hfm).cls x w2 _ ?_
  have nck : nilChk (.pointer (some ⟨x, f.off, none⟩)) = some (.pointer (some ⟨x, f.off, none⟩)):=rfl
  rw [nck, Run_bindO_some, Run_bind, Run_rdM]
  refine ⟨_, ldx, ?_⟩
  rw [fieldA_ptr, Run_bindO_some, Run_bind, Run_rdM]
  refine ⟨_, ld1', ?_⟩
  by_cases h1 : g f.off < f.lo
  ·have hi : f.inR g = false:=by unfold Fd.inR; exact decide_eq_false (by omega)
   rw [hi] at q
   rw [lssT h1, Run_bindO_some]
   simp only [Run_bind, Run_guardM_tf, pickV_bool, cond_true, Run_bindO_some]
   exact q w2 f12
  ·rw [lssF h1, Run_bindO_some]
   simp only [Run_bind, Run_guardM_ff, Run_ret, fieldA_ptr, Run_optM_some, Run_rdM]
   refine ⟨_, ld2, ?_⟩
   by_cases h2 : f.hi < g f.off
   ·have hi : f.inR g = false:=by unfold Fd.inR; exact decide_eq_false (by omega)
    rw [hi] at q
    simp only [binV_int, intBin_gtr, gt_iff_lt, h2, decide_true, Run_optM_some, pickV_bool, cond_false, Run_bindO_some]
    exact q w2 f12
   ·have hi : f.inR g = true:=by unfold Fd.inR; exact decide_eq_true (by omega)
    rw [hi] at q
    simp only [binV_int, intBin_gtr, gt_iff_lt, h2, decide_false, Run_optM_some, pickV_bool, cond_false, Run_bindO_some]
    exact q w2 f12
 refine Run_for J (λ i L w' => L = [.int .i64 (i : Int)] /\ Fr (λ _ => False) w w') ⟨rfl, Fr.refl _ _⟩ ?_ ?_
 ·rintro i L w1 hi ⟨rfl, f1⟩
  obtain ⟨f, hf⟩ : ∃ f, fs[i]? = some f:=⟨_, List.getElem?_eq_getElem (by omega)⟩
  have hil : (i : Int) < fs.length:=by omega
  have wi:=wrap_succ' (n:=i) (by omega)
  rw [getL_zero, lssT hil, Run_bindO_some, Run_condM_true]
  refine step i f w1 hf f1 λ w2 f2 => ?_
  rw [hgood i f hi hf, Bool.not_true, Run_condM_false, binV_int, intBin_add, wi, Run_bindO_some, Run_ret]
  exact ⟨rfl, f2⟩
 ·rintro L w1 ⟨rfl, f1⟩
  rcases hend with ⟨rfl, hall⟩ | ⟨f, hf, hp, hall⟩
  ·have hn : ¬ ((fs.length : Nat) : Int) < fs.length:=by omega
   rw [getL_zero, lssF hn, Run_bindO_some, Run_condM_false, Run_ret]
   simp only [outK_exit]
   rw [show Nat.beq 0 0 = true from rfl, cond_true, Run_ret, hall]
   exact ⟨rfl, f1⟩
  ·have hlt:=(List.getElem?_eq_some_iff.1 hf).1
   have hil : (J : Int) < fs.length:=by omega
   rw [getL_zero, lssT hil, Run_bindO_some, Run_condM_true]
   refine step J f w1 hf f1 λ w2 f2 => ?_
   rw [hp, Bool.not_false, Run_condM_true, Run_ret]
   simp only [outK_ret, Run_ret, hall]
   exact ⟨trivial, f2⟩
theorem write_run {A : Nat -> Prop} {b : Nat} {l0 : List UInt8} {t : Value} {fs : List Fd} (hB : BG A w b l0) (htb : Tb w) (hA : ∀ c, c < 11 -> A c) (htA : ∀ c, inB t c -> A c) (ht : Sl 4 w t (fs.map Fd.row)) (hok : ∀ f ∈ fs, f.Ok) {x : Nat} {l : List Value} {g : Nat -> Int} (hx : bk w x = some l) (hxA : A x) (hg : ∀ f ∈ fs, l[f.off]? = some (.int .i64 (g f.off)))
  (hr : ∀ f ∈ fs, f.inR g = true) (hn : fs.length <= 100) (hl : l0.length <= 1048576) :
  Run (F.api_Meta_45 (PtrB b) t (.pointer (some ⟨x, 0, none⟩))) w λ _ w' => BG A w' b (l0 ++ fldsL fs g) /\ Fr (λ c => ¬ A c) w w':=by
 unfold F.api_Meta_45
 have hlen:=ht.lenL
 rw [List.length_map] at hlen
 rw [hlen, Run_bindO_some, Run_bind]
 have hdec : ∀ f ∈ fs, (Lib.decDigits (g f.off).toNat).length <= 20 /\ (fldL f (g f.off).toNat).length <= 122 /\ 0 <= g f.off /\ (g f.off).toNat < 9223372036854775808:=λ f hf => by
  have h1:=hr f hf
  unfold Fd.inR at h1
  have h2:=of_decide_eq_true h1
  have h3:=(hok f hf).low
  have h4:=(hok f hf).word.2.1
  have h5:=dec_len (n:=(g f.off).toNat) (by omega)
  refine ⟨h5, ?_, by omega, by omega⟩
  simp only [fldL, List.length_append, List.length_singleton]
  omega
 have hfl : ∀ i, (fldsL (fs.take i) g).length <= i * 122:=λ i => by
  have : ∀ (l : List Fd), (∀ f ∈ l, f ∈ fs) -> (fldsL l g).length <= l.length * 122:=λ l => by
   induction l with
   | nil => intro _; simp [fldsL]
   | cons f l ih =>
    intro hm
    have h1:=ih λ f hf => hm f (List.mem_cons_of_mem _ hf)
    have h2:=(hdec f (hm f (by simp))).2.1
    simp only [fldsL, List.map_cons, List.flatten_cons, List.length_append, List.length_cons] at h1 ⊢
    omega
  have h1:=this (fs.take i) λ f hf => List.mem_of_mem_take hf
  have h2 : (fs.take i).length * 122 <= i * 122:=Nat.mul_le_mul_right _ (List.length_take_le i fs)
  omega
 refine Run_for fs.length (λ i L w' => L = [.int .i64 (i : Int)] /\ BG A w' b (l0 ++ fldsL (fs.take i) g) /\ Fr (λ c => ¬ A c) w w') ⟨rfl, by simpa [fldsL] using hB, Fr.refl _ _⟩ ?_ ?_
 ·rintro i L w1 hi ⟨rfl, hB1, f1⟩
  have ht1:=ht.fr f1 λ c hc hn => hn (htA c hc)
  have hx1:=f1.bk_some hx λ hn => hn hxA
  have tb1:=htb.fr f1 λ c hc hn => hn (hA c hc)
  obtain ⟨f, hf⟩ : ∃ f, fs[i]? = some f:=⟨_, List.getElem?_eq_getElem (by omega)⟩
  have hfm:=List.mem_of_getElem? hf
  have hil : (i : Int) < fs.length:=by omega
  have wi:=wrap_succ' (n:=i) (by omega)
  obtain ⟨d1, d2, d3, d4⟩:=hdec f hfm
  have hsnoc : fldsL (fs.take (i + 1)) g = fldsL (fs.take i) g ++ fldL f (g f.off).toNat:=by
   rw [take_snocP hf]; simp [fldsL]
  rw [getL_zero, lssT hil, Run_bindO_some, Run_condM_true]
  refine Run_field ht1 hf (hok f hfm) λ y w2 hy hwy hyle f2 => ?_
  rw [Run_drewM, Run_getM, fieldA_ptr, Run_bindO_some, Run_bind, Run_rdM]
  have f2d : Fr (λ _ => False) w1 w2.drew:=f2.drew
  have hyd : bk w2.drew y = some f.row:=hy
  generalize w2.drew = w3 at *
  have ld0 : ld1 (.pointer (some ⟨y, 0 + 0, none⟩)) w3 = some (.string (sb f.word)):=by rw [ld1_ptr, hyd]; rfl
  have ld3 : ld1 (.pointer (some ⟨y, 0 + 3, none⟩)) w3 = some f.fn:=by rw [ld1_ptr, hyd]; rfl
  refine ⟨_, ld0, ?_⟩
  rw [fieldA_ptr, Run_bindO_some, Run_bind, Run_rdM]
  refine ⟨_, ld3, ?_⟩
  rw [Run_bind]
  refine (hok f hfm).cls x w3 _ ?_
  rw [Run_getM]
  have nck : nilChk (.pointer (some ⟨x, f.off, none⟩)) = some (.pointer (some ⟨x, f.off, none⟩)):=rfl
  have ldx : ld1 (.pointer (some ⟨x, f.off, none⟩)) w3 = some (.int .i64 (g f.off)):=by rw [ld1_ptr, f2d.bk_some hx1 id]; exact hg f hfm
  rw [nck, Run_bindO_some, Run_bind, Run_rdM]
  refine ⟨_, ldx, ?_⟩
  have hgn : g f.off = (((g f.off).toNat : Nat) : Int):=(Int.toNat_of_nonneg d3).symm
  rw [Run_bind]
  have hit:=itoa_run (tb1.fr0 f2d) (n:=(g f.off).toNat) d4
  rw [<- hgn] at hit
  refine hit.mono ?_
  rintro _ w4 ⟨rfl, f4⟩
  rw [Run_getM, Run_bind]
  have hy4:=f4.bk_some hyd id
  have ld4 : ld1 (.pointer (some ⟨y, 0 + 0, none⟩)) w4 = some (.string (sb f.word)):=by rw [ld1_ptr, hy4]; rfl
  refine Run_bsl (k:=1) (vs:=[.string (sb f.word), .string (itoaS (g f.off).toNat)]) (by rfl) (by intro v hv; simp only [List.mem_cons, List.not_mem_nil, or_false] at hv; rcases hv with rfl | rfl <;> rfl) rfl (by kernel_rfl) λ r w5 hr f5 _ => ?_
  rw [Run_getM, Run_bind]
  have f15:=(f2d.trans f4 λ _ _ => id).trans f5 λ _ _ => id
  have hB5:=hB1.frm f15
  have hwl:=(hok f hfm).word
  have hi122:=hfl i
  have hjl : (f.word ++ [32] ++ Lib.decDigits (g f.off).toNat).length <= 121:=by simp only [List.length_append, List.length_singleton]; omega
  refine (line_run hB5 (xs:=[f.word, Lib.decDigits (g f.off).toNat]) hr.1 (by rw [join_two]; simp) (by simp) (by rw [join_two]; omega) ?_ ?_).mono ?_
  ·simp only [List.map_cons, List.map_nil, List.sum_cons, List.sum_nil, sb_size]
   omega
  ·rw [List.length_append]
   omega
  ·rintro _ w6 ⟨h6, f6⟩
   rw [Run_getM, Run_reqM, Run_reqM]
   refine ⟨ld0, ld4, ?_⟩
   rw [binV_int, intBin_add, wi, Run_bindO_some, Run_ret]
   rw [join_two] at h6
   rw [hsnoc]
   refine ⟨rfl, ?_, (f1.trans f15 λ _ _ hc => hc.elim).trans f6 λ _ _ hc => hc⟩
   rw [List.append_assoc] at h6
   exact h6
 ·rintro L w1 ⟨rfl, hB1, f1⟩
  rw [List.take_length] at hB1
  have hn : ¬ ((fs.length : Nat) : Int) < fs.length:=by omega
  rw [getL_zero, lssF hn, Run_bindO_some, Run_condM_false, Run_ret]
  simp only [outK_exit]
  rw [show Nat.beq 0 0 = true from rfl, cond_true, Run_ret]
  exact ⟨hB1, f1⟩
theorem parseF_run {t v : Value} {fs : List Fd} {N : List (List UInt8)} (ht : Sl 4 w t (fs.map Fd.row)) (hv : Sl 1 w v (N.map λ s => [.string (sb s)])) (hok : ∀ f ∈ fs, f.Ok) {x : Nat} {l : List Value} (hx : bk w x = some l) (hxw : wr w x = true)
  (hoff : ∀ f ∈ fs, f.off < l.length) (hn : fs.length <= 1000) (hN : N.length <= 4611686018427387904) (hNl : ∀ s ∈ N, s.length <= 4611686018427387904) (htx : ¬ inB t x) (hvx : ¬ inB v x) :
  Run (F.api_Meta_61 v t (.pointer (some ⟨x, 0, none⟩))) w λ r w' => r = .bool (decide (N.length = fs.length) && (fs.zip N).all λ z => (fldO z.1 z.2).isSome) /\
   (∃ l', bk w' x = some l' /\ wr w' x = true /\ l'.length = l.length /\ ((decide (N.length = fs.length) && (fs.zip N).all λ z => (fldO z.1 z.2).isSome) = true -> l' = putF (fs.zip N) l)) /\ Fr (λ c => c = x) w w':=by
 unfold F.api_Meta_61
 have hlen:=ht.lenL
 have hlv:=hv.lenL
 rw [List.length_map] at hlen hlv
 rw [hlv, Run_bindO_some, hlen, Run_bindO_some, binV_int, intBin_neq, Run_bindO_some]
 by_cases hlen2 : N.length = fs.length
 case neg =>
  have h' : ¬ ((N.length : Nat) : Int) = fs.length:=by omega
  have hf : (!decide (((N.length : Nat) : Int) = fs.length)) = true:=by simp [h']
  rw [hf, Run_condM_true, Run_ret, decide_eq_false hlen2, Bool.false_and]
  exact ⟨rfl, ⟨l, hx, hxw, rfl, λ h => Bool.noConfusion h⟩, Fr.refl _ _⟩
 have h' : ((N.length : Nat) : Int) = fs.length:=by omega
 have hf : (!decide (((N.length : Nat) : Int) = fs.length)) = false:=by simp [h']
 rw [hf, Run_condM_false, Run_bindO_some, Run_bind, decide_eq_true hlen2, Bool.true_and]
 have hzl : (fs.zip N).length = fs.length:=by rw [List.length_zip]; omega
 obtain ⟨J, hJ, hgood, hend⟩:=far_ex (λ z : Fd × List UInt8 => (fldO z.1 z.2).isSome) (fs.zip N)
 rw [hzl] at hJ
 have step : ∀ (i : Nat) (z : Fd × List UInt8) (w1 : World), (fs.zip N)[i]? = some z -> Fr (λ c => c = x) w w1 -> ∀ {β : Type} {K : Value -> Value -> Value -> M β} {Q : β -> World -> Prop}, (∀ y w', bk w' y = some z.1.row -> Fr (λ _ => False) w1 w' -> Run (K (.int .i64 (((fldO z.1 z.2).getD 0 : Nat) : Int)) (.bool (fldO z.1 z.2).isSome) (.pointer (some ⟨y, 0, none⟩))) w' Q) ->
   Run (bindO (idxA 4 t (.int .i64 (i : Int))) λ x4 => M.bind (rdM (ldA 4 x4)) λ x5 => M.bind (newM 144 #[(Value.string ByteArray.empty), (Value.int IntKind.i64 0), (Value.int IntKind.i64 0), Value.nilFunc]) λ x9 => M.bind (stM 4 x9 x5) λ _ =>
    drewM <|
    bindO (idxA 1 v (.int .i64 (i : Int))) λ x11 =>
    M.bind (rdM (ld1 x11)) λ x12 =>
    bindO (fieldA 0 x9) λ x13 =>
    M.bind (rdM (ld1 x13)) λ x14 =>
    M.bind (F.paper_numberOf x12 x14) λ x15 =>
    bindO (extV 0 x15) λ x16 =>
    bindO (extV 1 x15) λ x17 => K x16 x17 x9) w1 Q:=by
  intro i z w1 hz f1 β K Q q
  obtain ⟨hz1, hz2⟩:=List.getElem?_zip_eq_some.1 hz
  have hfm:=List.mem_of_getElem? hz1
  have hsm:=List.mem_of_getElem? hz2
  refine Run_field (ht.fr f1 λ c hc he => htx (he ▸ hc)) hz1 (hok _ hfm) λ y w2 hy hwy hyle f2 => ?_
  rw [Run_drewM]
  have f2d : Fr (λ _ => False) w1 w2.drew:=f2.drew
  have hyd : bk w2.drew y = some z.1.row:=hy
  generalize w2.drew = w3 at *
  have hv3:=(hv.fr f1 λ c hc he => hvx (he ▸ hc)).fr0 f2d
  obtain ⟨p, p1, p2⟩:=hv3.rd1 (i:=i) (y:=.string (sb z.2)) (by simp [hz2]) .i64
  have p1' : idxA 1 v (.int .i64 (i : Int)) = some p:=p1
  have ld0 : ld1 (.pointer (some ⟨y, 0 + 0, none⟩)) w3 = some (.string (sb z.1.word)):=by rw [ld1_ptr, hyd]; rfl
  rw [p1', Run_bindO_some, Run_bind, Run_rdM]
  refine ⟨_, p2, ?_⟩
  rw [fieldA_ptr, Run_bindO_some, Run_bind, Run_rdM]
  refine ⟨_, ld0, ?_⟩
  rw [Run_bind]
  refine (numberOf_run (hNl _ hsm) (hok _ hfm).word.2.1).mono ?_
  rintro _ w4 ⟨rfl, f4⟩
  have e : ∀ o, extV 0 (numV o) = some (.int .i64 ((o.getD 0 : Nat) : Int)):=λ _ => rfl
  have e' : ∀ o, extV 1 (numV o) = some (.bool o.isSome):=λ _ => rfl
  rw [e, Run_bindO_some, e', Run_bindO_some]
  exact q y w4 (f4.bk_some hyd id) (f2d.trans f4 λ _ _ => id)
 have hnv : ∀ b, notV (.bool b) = some (.bool !b):=λ _ => rfl
 refine Run_for J (λ i L w' => L = [.int .i64 (i : Int)] /\ bk w' x = some (putF ((fs.zip N).take i) l) /\ wr w' x = true /\ Fr (λ c => c = x) w w') ⟨rfl, hx, hxw, Fr.refl _ _⟩ ?_ ?_
 ·rintro i L w1 hi ⟨rfl, hb1, hw1, f1⟩
  obtain ⟨z, hz⟩ : ∃ z, (fs.zip N)[i]? = some z:=⟨_, List.getElem?_eq_getElem (by omega)⟩
  obtain ⟨hz1, hz2⟩:=List.getElem?_zip_eq_some.1 hz
  have hfm:=List.mem_of_getElem? hz1
  have hil : (i : Int) < fs.length:=by omega
  have wi:=wrap_succ' (n:=i) (by omega)
  rw [getL_zero, lssT hil, Run_bindO_some, Run_condM_true]
  refine step i z w1 hz f1 λ y w2 hy f2 => ?_
  have hy3 : ld1 (.pointer (some ⟨y, 0 + 3, none⟩)) w2 = some z.1.fn:=by rw [ld1_ptr, hy]; rfl
  rw [hgood i z hi hz, hnv, Run_bindO_some, Bool.not_true, Run_condM_false, fieldA_ptr, Run_bindO_some, Run_bind, Run_rdM]
  refine ⟨_, hy3, ?_⟩
  rw [Run_bind]
  refine (hok _ hfm).cls x w2 _ ?_
  have nck : nilChk (.pointer (some ⟨x, z.1.off, none⟩)) = some (.pointer (some ⟨x, z.1.off, none⟩)):=rfl
  have hb2:=f2.bk_some hb1 id
  have hw2 : wr w2 x = true:=by rw [f2.wr (bk_lt hb1) id]; exact hw1
  have ho:=hoff _ hfm
  rw [nck, Run_bindO_some, Run_bind, Run_stM (by rfl) (by rfl) ⟨⟨_, hb2, by rw [putF_len]; show z.1.off + 1 <= _; omega⟩, hw2⟩, binV_int, intBin_add, wi, Run_bindO_some, Run_ret]
  refine ⟨rfl, ?_, by rw [wr_sto]; exact hw2, (f1.trans f2 λ _ _ h => h.elim).sto (.inl rfl) _ _⟩
  rw [bk_sto_same hb2, take_snocP hz, putF_snoc]
  rfl
 ·rintro L w1 ⟨rfl, hb1, hw1, f1⟩
  rcases hend with ⟨hJe, hall⟩ | ⟨z, hz, hp, hall⟩
  ·have hJf : J = fs.length:=by omega
   have hn : ¬ (J : Int) < fs.length:=by omega
   rw [getL_zero, lssF hn, Run_bindO_some, Run_condM_false, Run_ret]
   simp only [outK_exit]
   rw [show Nat.beq 0 0 = true from rfl, cond_true, Run_ret]
   rw [hJe, List.take_length] at hb1
   exact ⟨by rw [hall], ⟨_, hb1, hw1, putF_len _ _, λ _ => rfl⟩, f1⟩
  ·have hlt:=(List.getElem?_eq_some_iff.1 hz).1
   have hil : (J : Int) < fs.length:=by omega
   rw [getL_zero, lssT hil, Run_bindO_some, Run_condM_true]
   refine step J z w1 hz f1 λ y w2 hy f2 => ?_
   rw [hp, hnv, Run_bindO_some, Bool.not_false, Run_condM_true, Run_ret]
   simp only [outK_ret, Run_ret]
   exact ⟨by rw [hall], ⟨_, f2.bk_some hb1 id, by rw [f2.wr (bk_lt hb1) id]; exact hw1, putF_len _ _, λ h => by rw [hall] at h; cases h⟩, f1.trans f2 λ _ _ h => h.elim⟩
end
end Go.Proofs.YthlpfhjcdedhgaaGreatDoor.Me
namespace Go.Proofs.YthlpfhjcdedhgaaGreatDoor
open Go.Lift
set_option linter.unusedSimpArgs false
set_option linter.unusedVariables false
set_option maxHeartbeats 4000000
theorem u8_all {P : UInt8 -> Prop} (h : ∀ n, n < 256 -> P (UInt8.ofNat n)) (c : UInt8) : P c:=by
 have:=h c.toNat c.toNat_lt
 rwa [UInt8.ofNat_toNat] at this
def stSet : List UInt8:=[97, 98, 99, 100, 101, 102, 103, 104, 105, 106, 107, 108, 109, 110, 111, 112, 113, 114, 115, 116, 117, 118, 119, 120, 121, 122, 48, 49, 50, 51, 52, 53, 54, 55, 56, 57, 45]
theorem stSet_iff (c : UInt8) : c ∈ stSet ↔ ((97 <= c.toNat /\ c.toNat <= 122) ∨ (48 <= c.toNat /\ c.toNat <= 57)) ∨ c.toNat = 45:=u8_all (P:=λ c => c ∈ stSet ↔ ((97 <= c.toNat /\ c.toNat <= 122) ∨ (48 <= c.toNat /\ c.toNat <= 57)) ∨ c.toNat = 45) (by decide +kernel) c
theorem stSet_low : ∀ c ∈ stSet, c.toNat < 128:=by decide +kernel
def storeP (l : List UInt8) : Bool:=match l with
 | [] => false
 | c :: r => decide ((c :: r).length <= 40 /\ 97 <= c.toNat /\ c.toNat <= 122) && (c :: r).all λ c => decide (c ∈ stSet)
theorem storeP_no {c : UInt8} {r : List UInt8} (h : ¬ ((c :: r).length <= 40 /\ 97 <= c.toNat /\ c.toNat <= 122)) : storeP (c :: r) = false:=by
 show (decide ((c :: r).length <= 40 /\ 97 <= c.toNat /\ c.toNat <= 122) && (c :: r).all λ c => decide (c ∈ stSet)) = false
 rw [decide_eq_false h, Bool.false_and]
theorem storeP_yes {c : UInt8} {r : List UInt8} (h : (c :: r).length <= 40 /\ 97 <= c.toNat /\ c.toNat <= 122) : storeP (c :: r) = (c :: r).all λ c => decide (c ∈ stSet):=by
 show (decide ((c :: r).length <= 40 /\ 97 <= c.toNat /\ c.toNat <= 122) && (c :: r).all λ c => decide (c ∈ stSet)) = _
 rw [decide_eq_true h, Bool.true_and]
theorem storeP_len {l : List UInt8} (h : storeP l = true) : 1 <= l.length /\ l.length <= 40 /\ ∀ c ∈ l, c ∈ stSet:=by
 cases l with
 | nil => cases h
 | cons c r =>
  simp only [storeP, Bool.and_eq_true, decide_eq_true_eq] at h
  refine ⟨by rw [List.length_cons]; omega, h.1.1, λ x hx => ?_⟩
  have:=List.all_eq_true.1 h.2 x hx
  exact of_decide_eq_true this
section
variable {w w1 w2 : World}
theorem storeOK_run (l : List UInt8) (hl : l.length <= 4611686018427387904) : Run (F.paper_storeOK (.string (sb l))) w λ r w' => r = .bool (storeP l) /\ Fr (λ _ => False) w w':=by
 unfold F.paper_storeOK
 have e0 : ByteArray.mk #[] = sb []:=rfl
 have eS : ByteArray.mk #[97, 98, 99, 100, 101, 102, 103, 104, 105, 106, 107, 108, 109, 110, 111, 112, 113, 114, 115, 116, 117, 118, 119, 120, 121, 122, 48, 49, 50, 51, 52, 53, 54, 55, 56, 57, 45] = sb stSet:=rfl
 rw [e0, eS, sbEq]
 cases l with
 | nil =>
  simp only [decide_true, Run_bindO_some, Run_bind, Run_guardM_tf, pickV_bool, cond_true, Run_condM_true, Run_ret]
  exact ⟨rfl, Fr.refl _ _⟩
 | cons c r =>
  have hix : idxS (.string (sb (c :: r))) (.int .i64 0) = some (by8 c):=idxSb (i:=0) rfl
  have d0 : decide (c :: r = []) = false:=rfl
  simp only [d0, Run_bindO_some, Run_bind, Run_guardM_ff, Run_ret, lenS_string, sb_size, Run_optM_some, binV_int, intBin_gtr, pickV_bool, cond_false]
  by_cases h40 : (c :: r).length <= 40
  case neg =>
   have h1 : (((c :: r).length : Nat) : Int) > 40:=by omega
   have hs : storeP (c :: r) = false:=storeP_no λ h => h40 h.1
   rw [hs, decide_eq_true h1]
   simp only [Run_bindO_some, Run_bind, Run_guardM_tf, pickV_bool, cond_true, Run_condM_true, Run_ret]
   exact ⟨trivial, Fr.refl _ _⟩
  have h1 : ¬ (((c :: r).length : Nat) : Int) > 40:=by omega
  rw [decide_eq_false h1]
  simp only [Run_bindO_some, Run_bind, Run_guardM_ff, Run_ret, hix, Run_optM_some, by8, binV_int, intBin_lss, pickV_bool, cond_false]
  by_cases h97 : 97 <= c.toNat
  case neg =>
   have h2 : (c.toNat : Int) < 97:=by omega
   have hs : storeP (c :: r) = false:=storeP_no λ h => h97 h.2.1
   rw [hs, decide_eq_true h2]
   simp only [Run_bindO_some, Run_bind, Run_guardM_tf, pickV_bool, cond_true, Run_condM_true, Run_ret]
   exact ⟨trivial, Fr.refl _ _⟩
  have h2 : ¬ (c.toNat : Int) < 97:=by omega
  rw [decide_eq_false h2]
  simp only [Run_bindO_some, Run_bind, Run_guardM_ff, Run_ret, hix, Run_optM_some, by8, binV_int, intBin_gtr, pickV_bool, cond_false]
  by_cases h122 : c.toNat <= 122
  case neg =>
   have h3 : (c.toNat : Int) > 122:=by omega
   have hs : storeP (c :: r) = false:=storeP_no λ h => h122 h.2.2
   rw [hs, decide_eq_true h3]
   simp only [Run_bindO_some, Run_condM_true, Run_ret]
   exact ⟨trivial, Fr.refl _ _⟩
  have h3 : ¬ (c.toNat : Int) > 122:=by omega
  rw [decide_eq_false h3]
  simp only [Run_bindO_some, Run_condM_false, Run_bind]
  refine (trim_run (l:=c :: r) (cs:=stSet) (by simp) hl stSet_low (by decide) (by decide)).mono ?_
  rintro _ w1 ⟨⟨t, rfl, ht⟩, f1⟩
  rw [sbEq, Run_bindO_some, Run_ret]
  have : storeP (c :: r) = decide (t = []):=by
   rw [storeP_yes ⟨h40, h97, h122⟩, Bool.eq_iff_iff, decide_eq_true_iff, ht, List.all_eq_true]
   simp
  rw [this]
  exact ⟨rfl, f1⟩
end
end Go.Proofs.YthlpfhjcdedhgaaGreatDoor
namespace Go.Proofs.YthlpfhjcdedhgaaGreatDoor
open Go.Lift Go.Sort
set_option linter.unusedSimpArgs false
set_option linter.unusedVariables false
set_option maxHeartbeats 4000000
def VERSION : List UInt8:=[118, 101, 114, 115, 105, 111, 110]
def NODE : List UInt8:=[110, 111, 100, 101]
def PARTS : List UInt8:=[112, 97, 114, 116, 115]
def REPLICAS : List UInt8:=[114, 101, 112, 108, 105, 99, 97, 115]
def WIDTH : List UInt8:=[119, 105, 100, 116, 104]
def CHUNKS : List UInt8:=[99, 104, 117, 110, 107, 115]
def ROWS : List UInt8:=[114, 111, 119, 115]
def STORE : List UInt8:=[115, 116, 111, 114, 101]
def META : List UInt8:=[103, 114, 97, 110, 97, 114, 121, 32, 109, 101, 116, 97, 32, 49]
def metaF : List Fd:=[⟨VERSION, 1, 999999, 1, .func (.func 83) #[] #[]⟩, ⟨NODE, 0, 15, 2, .func (.func 84) #[] #[]⟩, ⟨PARTS, 1, 64, 3, .func (.func 85) #[] #[]⟩, ⟨REPLICAS, 1, 16, 4, .func (.func 86) #[] #[]⟩, ⟨WIDTH, 1, 16, 5, .func (.func 87) #[] #[]⟩, ⟨CHUNKS, 1, 16, 6, .func (.func 88) #[] #[]⟩, ⟨ROWS, 0, 9007199254740992, 7, .func (.func 89) #[] #[]⟩]
structure Mt where
 st : List UInt8
 a : Int
 b : Int
 c : Int
 d : Int
 e : Int
 f : Int
 h : Int
def Mt.at (m : Mt) (i : Nat) : Int:=match i with
 | 1 => m.a
 | 2 => m.b
 | 3 => m.c
 | 4 => m.d
 | 5 => m.e
 | 6 => m.f
 | _ => m.h
def Mt.row (m : Mt) : List Value:=[.string (sb m.st), .int .i64 m.a, .int .i64 m.b, .int .i64 m.c, .int .i64 m.d, .int .i64 m.e, .int .i64 m.f, .int .i64 m.h]
def Mt.v (m : Mt) : Value:=.agg #[.string (sb m.st), .int .i64 m.a, .int .i64 m.b, .int .i64 m.c, .int .i64 m.d, .int .i64 m.e, .int .i64 m.f, .int .i64 m.h]
def Mt.fok (m : Mt) : Bool:=metaF.all λ f => f.inR m.at
def Mt.mok (m : Mt) : Bool:=storeP m.st && m.fok
def metaL (m : Mt) : List UInt8:=META ++ [10] ++ (STORE ++ [32] ++ m.st) ++ [10] ++ fldsL metaF m.at
def metaO (m : Mt) : Value:=if m.mok = true then .tuple #[.string (sb (closeL (metaL m))), .int .i64 0] else .tuple #[.string (sb []), .int .i64 42]
theorem mfok_iff (m : Mt) : m.fok = true ↔ (1 <= m.a /\ m.a <= 999999) /\ (0 <= m.b /\ m.b <= 15) /\ (1 <= m.c /\ m.c <= 64) /\ (1 <= m.d /\ m.d <= 16) /\ (1 <= m.e /\ m.e <= 16) /\ (1 <= m.f /\ m.f <= 16) /\ (0 <= m.h /\ m.h <= 9007199254740992):=by
 simp [Mt.fok, metaF, Fd.inR, Mt.at]
theorem metaF_at (m : Mt) : ∀ f ∈ metaF, m.row[f.off]? = some (.int .i64 (m.at f.off)):=by
 intro f hf
 simp only [metaF, List.mem_cons, List.not_mem_nil, or_false] at hf
 rcases hf with rfl | rfl | rfl | rfl | rfl | rfl | rfl <;> rfl
theorem metaOff (l : List Value) (h : l.length = 8) : ∀ f ∈ metaF, f.off < l.length:=by
 intro f hf
 simp only [metaF, List.mem_cons, List.not_mem_nil, or_false] at hf
 rw [h]
 rcases hf with rfl | rfl | rfl | rfl | rfl | rfl | rfl <;> decide
theorem metaF_ok : ∀ f ∈ metaF, f.Ok:=by
 intro f hf
 simp only [metaF, List.mem_cons, List.not_mem_nil, or_false] at hf
 rcases hf with rfl | rfl | rfl | rfl | rfl | rfl | rfl
 ·exact ⟨λ x w Q q => by
   have e : callV F.clos (.func (.func 83) #[] #[]) [.pointer (some ⟨x, 0, none⟩)] = F.paper_metaFields_1 (.pointer (some ⟨x, 0, none⟩)):=by kernel_rfl
   show Run (callV F.clos (.func (.func 83) #[] #[]) [.pointer (some ⟨x, 0, none⟩)]) w Q
   rw [e]
   unfold F.paper_metaFields_1
   simp
   exact q, ⟨rfl, rfl⟩, by decide, by decide⟩
 ·exact ⟨λ x w Q q => by
   have e : callV F.clos (.func (.func 84) #[] #[]) [.pointer (some ⟨x, 0, none⟩)] = F.paper_metaFields_2 (.pointer (some ⟨x, 0, none⟩)):=by kernel_rfl
   show Run (callV F.clos (.func (.func 84) #[] #[]) [.pointer (some ⟨x, 0, none⟩)]) w Q
   rw [e]
   unfold F.paper_metaFields_2
   simp
   exact q, ⟨rfl, rfl⟩, by decide, by decide⟩
 ·exact ⟨λ x w Q q => by
   have e : callV F.clos (.func (.func 85) #[] #[]) [.pointer (some ⟨x, 0, none⟩)] = F.paper_metaFields_3 (.pointer (some ⟨x, 0, none⟩)):=by kernel_rfl
   show Run (callV F.clos (.func (.func 85) #[] #[]) [.pointer (some ⟨x, 0, none⟩)]) w Q
   rw [e]
   unfold F.paper_metaFields_3
   simp
   exact q, ⟨rfl, rfl⟩, by decide, by decide⟩
 ·exact ⟨λ x w Q q => by
   have e : callV F.clos (.func (.func 86) #[] #[]) [.pointer (some ⟨x, 0, none⟩)] = F.paper_metaFields_4 (.pointer (some ⟨x, 0, none⟩)):=by kernel_rfl
   show Run (callV F.clos (.func (.func 86) #[] #[]) [.pointer (some ⟨x, 0, none⟩)]) w Q
   rw [e]
   unfold F.paper_metaFields_4
   simp
   exact q, ⟨rfl, rfl⟩, by decide, by decide⟩
 ·exact ⟨λ x w Q q => by
   have e : callV F.clos (.func (.func 87) #[] #[]) [.pointer (some ⟨x, 0, none⟩)] = F.paper_metaFields_5 (.pointer (some ⟨x, 0, none⟩)):=by kernel_rfl
   show Run (callV F.clos (.func (.func 87) #[] #[]) [.pointer (some ⟨x, 0, none⟩)]) w Q
   rw [e]
   unfold F.paper_metaFields_5
   simp
   exact q, ⟨rfl, rfl⟩, by decide, by decide⟩
 ·exact ⟨λ x w Q q => by
   have e : callV F.clos (.func (.func 88) #[] #[]) [.pointer (some ⟨x, 0, none⟩)] = F.paper_metaFields_6 (.pointer (some ⟨x, 0, none⟩)):=by kernel_rfl
   show Run (callV F.clos (.func (.func 88) #[] #[]) [.pointer (some ⟨x, 0, none⟩)]) w Q
   rw [e]
   unfold F.paper_metaFields_6
   simp
   exact q, ⟨rfl, rfl⟩, by decide, by decide⟩
 ·exact ⟨λ x w Q q => by
   have e : callV F.clos (.func (.func 89) #[] #[]) [.pointer (some ⟨x, 0, none⟩)] = F.paper_metaFields_7 (.pointer (some ⟨x, 0, none⟩)):=by kernel_rfl
   show Run (callV F.clos (.func (.func 89) #[] #[]) [.pointer (some ⟨x, 0, none⟩)]) w Q
   rw [e]
   unfold F.paper_metaFields_7
   simp
   exact q, ⟨rfl, rfl⟩, by decide, by decide⟩
section
variable {w w1 w2 : World}
theorem mfields_run : Run F.paper_metaFields w λ r w' => SlW 4 w' r (metaF.map Fd.row) /\ Fr (λ _ => False) w w' /\ ∀ c, inB r c -> w.heap.size <= c /\ c < w'.heap.size:=by
 unfold F.paper_metaFields
 have b1 : buildV #[(Value.string ByteArray.empty), (Value.int IntKind.i64 0), (Value.int IntKind.i64 0), Value.nilFunc] [(0, 1, (Value.string (ByteArray.mk #[118, 101, 114, 115, 105, 111, 110]))), (1, 1, (Value.int IntKind.i64 1)), (2, 1, (Value.int IntKind.i64 999999)), (3, 1, (Value.func (Fn.func 83) #[] #[]))] = some (Fd.v ⟨VERSION, 1, 999999, 1, .func (.func 83) #[] #[]⟩):=by kernel_rfl
 have b2 : buildV #[(Value.string ByteArray.empty), (Value.int IntKind.i64 0), (Value.int IntKind.i64 0), Value.nilFunc] [(0, 1, (Value.string (ByteArray.mk #[110, 111, 100, 101]))), (1, 1, (Value.int IntKind.i64 0)), (2, 1, (Value.int IntKind.i64 15)), (3, 1, (Value.func (Fn.func 84) #[] #[]))] = some (Fd.v ⟨NODE, 0, 15, 2, .func (.func 84) #[] #[]⟩):=by kernel_rfl
 have b3 : buildV #[(Value.string ByteArray.empty), (Value.int IntKind.i64 0), (Value.int IntKind.i64 0), Value.nilFunc] [(0, 1, (Value.string (ByteArray.mk #[112, 97, 114, 116, 115]))), (1, 1, (Value.int IntKind.i64 1)), (2, 1, (Value.int IntKind.i64 64)), (3, 1, (Value.func (Fn.func 85) #[] #[]))] = some (Fd.v ⟨PARTS, 1, 64, 3, .func (.func 85) #[] #[]⟩):=by kernel_rfl
 have b4 : buildV #[(Value.string ByteArray.empty), (Value.int IntKind.i64 0), (Value.int IntKind.i64 0), Value.nilFunc] [(0, 1, (Value.string (ByteArray.mk #[114, 101, 112, 108, 105, 99, 97, 115]))), (1, 1, (Value.int IntKind.i64 1)), (2, 1, (Value.int IntKind.i64 16)), (3, 1, (Value.func (Fn.func 86) #[] #[]))] = some (Fd.v ⟨REPLICAS, 1, 16, 4, .func (.func 86) #[] #[]⟩):=by kernel_rfl
 have b5 : buildV #[(Value.string ByteArray.empty), (Value.int IntKind.i64 0), (Value.int IntKind.i64 0), Value.nilFunc] [(0, 1, (Value.string (ByteArray.mk #[119, 105, 100, 116, 104]))), (1, 1, (Value.int IntKind.i64 1)), (2, 1, (Value.int IntKind.i64 16)), (3, 1, (Value.func (Fn.func 87) #[] #[]))] = some (Fd.v ⟨WIDTH, 1, 16, 5, .func (.func 87) #[] #[]⟩):=by kernel_rfl
 have b6 : buildV #[(Value.string ByteArray.empty), (Value.int IntKind.i64 0), (Value.int IntKind.i64 0), Value.nilFunc] [(0, 1, (Value.string (ByteArray.mk #[99, 104, 117, 110, 107, 115]))), (1, 1, (Value.int IntKind.i64 1)), (2, 1, (Value.int IntKind.i64 16)), (3, 1, (Value.func (Fn.func 88) #[] #[]))] = some (Fd.v ⟨CHUNKS, 1, 16, 6, .func (.func 88) #[] #[]⟩):=by kernel_rfl
 have b7 : buildV #[(Value.string ByteArray.empty), (Value.int IntKind.i64 0), (Value.int IntKind.i64 0), Value.nilFunc] [(0, 1, (Value.string (ByteArray.mk #[114, 111, 119, 115]))), (1, 1, (Value.int IntKind.i64 0)), (2, 1, (Value.int IntKind.i64 9007199254740992)), (3, 1, (Value.func (Fn.func 89) #[] #[]))] = some (Fd.v ⟨ROWS, 0, 9007199254740992, 7, .func (.func 89) #[] #[]⟩):=by kernel_rfl
 rw [b1, Run_bindO_some, b2, Run_bindO_some, b3, Run_bindO_some, b4, Run_bindO_some, b5, Run_bindO_some, b6, Run_bindO_some, b7, Run_bindO_some, Run_bind]
 refine Run_bsl (k:=4) (vs:=metaF.map Fd.v) (by kernel_rfl) (by intro v hv; simp only [metaF, List.map_cons, List.map_nil, List.mem_cons, List.not_mem_nil, or_false] at hv; rcases hv with rfl | rfl | rfl | rfl | rfl | rfl | rfl <;> rfl) rfl (by kernel_rfl) λ r w' hr f hb => ?_
 rw [Run_ret]
 exact ⟨hr, f, λ c hc => ⟨Nat.le_of_eq (hb c hc).1.symm, (hb c hc).2⟩⟩
end
theorem fldsL_len {fs : List Fd} (hok : ∀ f ∈ fs, f.Ok) {g : Nat -> Int} (hr : ∀ f ∈ fs, f.inR g = true) : (fldsL fs g).length <= fs.length * 122:=by
 have : ∀ (l : List Fd), (∀ f ∈ l, f ∈ fs) -> (fldsL l g).length <= l.length * 122:=λ l => by
  induction l with
  | nil => intro _; simp [fldsL]
  | cons f l ih =>
   intro hm
   have hf:=hm f (by simp)
   have h1:=ih λ f hf => hm f (List.mem_cons_of_mem _ hf)
   have r1:=hr f hf
   unfold Fd.inR at r1
   have r2:=of_decide_eq_true r1
   have r3:=(hok f hf).low
   have r4:=(hok f hf).word.2.1
   have h5:=dec_len (n:=(g f.off).toNat) (by omega)
   simp only [fldsL, fldL, List.map_cons, List.flatten_cons, List.length_append, List.length_cons, List.length_singleton, List.length_nil] at h1 ⊢
   omega
 exact this fs λ _ h => h
theorem meta_len {m : Mt} (h : m.mok = true) : (metaL m).length <= 1000:=by
 have h' : (storeP m.st && m.fok) = true:=h
 rw [Bool.and_eq_true] at h'
 have h1:=(storeP_len h'.1).2.1
 have h2:=fldsL_len metaF_ok (g:=m.at) λ f hf => List.all_eq_true.1 h'.2 f hf
 have h3 : metaF.length = 7:=rfl
 have h4 : META.length = 14:=rfl
 have h5 : STORE.length = 5:=rfl
 simp only [metaL, List.length_append, List.length_singleton, h4, h5]
 omega
section
variable {w w1 w2 : World}
theorem mprint_run (ht : Tb w) (n : Mt) (hl : n.st.length <= 4611686018427387904) : Run (F.paper_PrintMeta n.v) w λ r w' => r = metaO n /\ Fr (λ _ => False) w w':=by
 unfold F.paper_PrintMeta
 rw [Run_bind]
 refine Run_new λ x wa hx hxw fa hxle => ?_
 replace hx : bk wa x = some n.row:=hx
 have e0 : ByteArray.mk #[] = sb []:=rfl
 have eL : ByteArray.mk #[103, 114, 97, 110, 97, 114, 121, 32, 109, 101, 116, 97, 32, 49] = sb META:=rfl
 have eS : ByteArray.mk #[115, 116, 111, 114, 101] = sb STORE:=rfl
 have hnv : ∀ b, notV (.bool b) = some (.bool !b):=λ _ => rfl
 have l0 : ∀ {u : World}, bk u x = some n.row -> ld1 (.pointer (some ⟨x, 0 + 0, none⟩)) u = some (.string (sb n.st)):=λ h => by rw [ld1_ptr, h]; rfl
 have hmok : n.mok = (storeP n.st && n.fok):=rfl
 rw [fieldA_ptr, Run_bindO_some, Run_bind, Run_rdM]
 refine ⟨_, l0 hx, ?_⟩
 rw [Run_bind]
 refine (storeOK_run n.st hl).mono ?_
 rintro _ w1 ⟨rfl, f1a⟩
 have f1:=fa.trans f1a λ _ _ => id
 have hx:=f1a.bk_some hx id
 rw [hnv, Run_bindO_some]
 cases hs : storeP n.st with
 | false =>
  simp only [Bool.not_false, Run_bind, Run_guardM_tf, pickV_bool, cond_true, Run_bindO_some, Run_condM_true, Run_ret]
  have hm : n.mok = false:=by rw [hmok, hs, Bool.false_and]
  rw [metaO, hm, e0]
  exact ⟨by rw [if_neg (by simp)], f1⟩
 | true =>
 rw [hs, Bool.true_and] at hmok
 simp only [Bool.not_true, Run_bind, Run_guardM_ff]
 refine mfields_run.mono ?_
 rintro t w2 ⟨ht2, f2, hn2⟩
 refine (Me.ranges_run ht2.1 metaF_ok (f2.bk_some hx id) (metaF_at n) (by decide)).mono ?_
 rintro _ w3 ⟨rfl, f3⟩
 have f13:=(f1.trans f2 λ _ _ => id).trans f3 λ _ _ => id
 have hx3:=f3.bk_some (f2.bk_some hx id) id
 rw [hnv, Run_optM_some]
 simp only [pickV_bool, cond_false, Run_bindO_some]
 cases hok : n.fok with
 | false =>
  have hok' : (metaF.all λ f => f.inR n.at) = false:=hok
  rw [hok', Bool.not_false, Run_condM_true, Run_ret, metaO, hmok, hok]
  exact ⟨by rw [if_neg (by simp), e0], f13⟩
 | true =>
  have hok' : (metaF.all λ f => f.inR n.at) = true:=hok
  have hmt : n.mok = true:=by rw [hmok, hok]
  obtain ⟨sl1, sl2, sl3⟩:=storeP_len hs
  have z0 : buildV #[(Value.pointer none), (Value.slice none 0 0)] [] = some (.agg #[(Value.pointer none), (Value.slice none 0 0)]):=rfl
  rw [hok', Bool.not_true, Run_condM_false, z0, Run_bindO_some, Run_bind]
  refine bgNew λ b w4 hB f4 => ?_
  rw [eL, Run_bind]
  refine Run_bsl (k:=1) (vs:=[.string (sb META)]) (by rfl) (by intro v hv; simp only [List.mem_singleton] at hv; subst hv; rfl) rfl (by kernel_rfl) λ r w5 hr f5 _ => ?_
  rw [Run_bind]
  refine (line_run (hB.frm f5) (xs:=[META]) hr.1 (by rw [join_one]; decide) (by decide) (by rw [join_one]; decide) (by simp [sb_size]; decide) (by decide)).mono ?_
  rintro _ w6 ⟨hB6, f6⟩
  rw [join_one, List.nil_append] at hB6
  have low:=tb_low (ht.fr0 f13)
  have hx4:=bk_lt hx3
  have f36 : Fr (λ c => ¬ c < w3.heap.size) w3 w6:=((f4.trans f5 λ _ _ => id).mono λ _ h => h.elim).trans f6 λ _ _ hc => hc
  have hx6:=f36.bk_some hx3 λ hn => hn hx4
  rw [Run_bindO_some, Run_bind, Run_rdM]
  refine ⟨_, l0 hx6, ?_⟩
  rw [eS, Run_bind]
  refine Run_bsl (k:=1) (vs:=[.string (sb STORE), .string (sb n.st)]) (by rfl) (by intro v hv; simp only [List.mem_cons, List.not_mem_nil, or_false] at hv; rcases hv with rfl | rfl <;> rfl) rfl (by kernel_rfl) λ r2 wb hr2 fb _ => ?_
  have hM : META.length = 14:=rfl
  have hS : STORE.length = 5:=rfl
  rw [Run_bind]
  refine (line_run (hB6.frm fb) (xs:=[STORE, n.st]) hr2.1 (by rw [join_two]; simp [STORE]) (by simp) (by rw [join_two]; simp only [List.length_append, List.length_singleton]; omega) (by simp only [List.map_cons, List.map_nil, List.sum_cons, List.sum_nil, sb_size]; omega) (by decide)).mono ?_
  rintro _ wc ⟨hBc, fc⟩
  rw [join_two] at hBc
  rw [Run_bind]
  refine mfields_run.mono ?_
  rintro t2 w7 ⟨ht7, f7, hn7⟩
  have hB7:=hBc.more f7
  have f37 : Fr (λ c => ¬ c < w3.heap.size) w3 w7:=((f36.trans fb λ _ _ h => h.elim).trans fc λ _ _ hc => hc).trans f7 λ _ _ h => h.elim
  have t7:=(ht.fr0 f13).fr f37 λ c hc hn => hn (by omega)
  rw [Run_bind]
  refine (Me.write_run hB7 t7 (λ c hc => .inl (by omega)) (λ c hc => .inr (hn7 c hc)) ht7.1 metaF_ok (f37.bk_some hx3 λ hn => hn hx4) (.inl hx4) (metaF_at n) (λ f hf => List.all_eq_true.1 hok' f hf) (by decide) (by simp only [List.length_append, List.length_singleton]; omega)).mono ?_
  rintro _ w8 ⟨hB8, f8⟩
  have t8:=t7.fr f8 λ c hc hn => hn (.inl (by omega))
  have f38 : Fr (λ c => ¬ c < w3.heap.size) w3 w8:=f37.trans f8 λ c _ hc h => hc (.inl h)
  have hpl : (metaL n).length <= 100000:=by have:=meta_len hmt; omega
  have ee : META ++ [10] ++ (STORE ++ [32] ++ n.st ++ [10]) ++ fldsL metaF n.at = metaL n:=by simp [metaL]
  rw [Run_bind]
  first
   | rw [ee] at hB8
   | (have ee2 : META ++ [10] ++ (STORE ++ [32] ++ n.st) ++ [10] ++ fldsL metaF n.at = metaL n:=by simp [metaL]
      rw [ee2] at hB8)
  refine (closed_run t8 hB8 (by simp [metaL, META]) (by omega) (λ c hc => .inl (by omega))).mono ?_
  rintro _ w9 ⟨rfl, f9⟩
  rw [Run_ret, metaO, if_pos hmt]
  refine ⟨rfl, f13.trans (f38.trans f9 λ c _ hc h => hc (.inl h)) λ c hc hn => hn ?_⟩
  have:=f13.size
  omega
end
section
variable {w w1 w2 : World}
def U0 : List UInt8:=[103, 114, 97, 110, 97, 114, 121, 32, 109, 101, 116, 97, 32, 49, 10, 115, 116, 111, 114, 101, 32]
def U1 : List UInt8:=[10, 118, 101, 114, 115, 105, 111, 110, 32]
def U2 : List UInt8:=[10, 110, 111, 100, 101, 32]
def U3 : List UInt8:=[10, 112, 97, 114, 116, 115, 32]
def U4 : List UInt8:=[10, 114, 101, 112, 108, 105, 99, 97, 115, 32]
def U5 : List UInt8:=[10, 119, 105, 100, 116, 104, 32]
def U6 : List UInt8:=[10, 99, 104, 117, 110, 107, 115, 32]
def U7 : List UInt8:=[10, 114, 111, 119, 115, 32]
theorem meta_parts (m : Mt) : metaL m = U0 ++ m.st ++ U1 ++ Lib.decDigits m.a.toNat ++ U2 ++ Lib.decDigits m.b.toNat ++ U3 ++ Lib.decDigits m.c.toNat ++ U4 ++ Lib.decDigits m.d.toNat ++ U5 ++ Lib.decDigits m.e.toNat ++ U6 ++ Lib.decDigits m.f.toNat ++ U7 ++ Lib.decDigits m.h.toNat ++ [10]:=by
 simp [metaL, fldsL, metaF, fldL, Mt.at, META, STORE, VERSION, NODE, PARTS, REPLICAS, WIDTH, CHUNKS, ROWS, U0, U1, U2, U3, U4, U5, U6, U7]
end
section
variable {w w1 w2 : World}
structure RQ (w0 w : World) (b : Nat) (l : List UInt8) (p : Nat) (bad : Bool) (x6 : Nat) (l6 : List Value) : Prop where
 rs : RS w b l p bad
 hp : p <= l.length
 b6 : bk w x6 = some l6
 w6 : wr w x6 = true
 ne : x6 ≠ b
 fr : Fr (λ c => c = b ∨ c = x6) w0 w
section
variable {β : Type} {w0 : World} {b p : Nat} {l : List UInt8} {bad : Bool} {x6 : Nat} {l6 : List Value}
theorem RQ.call (h : RQ w0 w b l p bad x6 l6) (f : Fr (λ c => c = b) w w2) {p' : Nat} {bad' : Bool} (rs : RS w2 b l p' bad') (hp : p' <= l.length) : RQ w0 w2 b l p' bad' x6 l6 :=
 ⟨rs, hp, f.bk_some h.b6 h.ne, by rw [f.wr (bk_lt h.b6) h.ne]; exact h.w6, h.ne, h.fr.trans f λ _ _ he => .inl he⟩
theorem RQ.put6 (h : RQ w0 w b l p bad x6 l6) (i : Nat) (y : Value) : RQ w0 (sto w x6 i [y]) b l p bad x6 (l6.set i y):=by
 have f : Fr (λ c => c = x6) w (sto w x6 i [y]):=(show Fr (λ c => c = x6) w w from Fr.refl _ _).sto (.inl rfl) _ _
 exact ⟨⟨f.bk_some h.rs.1 λ e => h.ne e.symm, by rw [wr_sto]; exact h.rs.2⟩, h.hp, by rw [bk_sto_same h.b6]; simp only [setL_cons, setL_nil], by rw [wr_sto]; exact h.w6, h.ne, h.fr.trans f λ _ _ he => .inr he⟩
theorem RQ.put {K : M β} {Q : β -> World -> Prop} (h : RQ w0 w b l p bad x6 l6) {i : Nat} (hi : i < l6.length) {y : Value} (hy : isCell y = true) (q : ∀ w', RQ w0 w' b l p bad x6 (l6.set i y) -> Run K w' Q) :
  Run (bindO (fieldA i (.pointer (some ⟨x6, 0, none⟩))) λ x9 => M.bind (stM 1 x9 y) λ _ => K) w Q:=by
 rw [fieldA_ptr, Run_bindO_some, Run_bind, Run_st1 ⟨⟨⟨l6, h.b6, by omega⟩, h.w6⟩, hy⟩, Nat.zero_add]
 exact q _ (h.put6 i y)
end
end
structure MForm (t : List UInt8) (m : Mt) (sm : Nat) (d1 d2 d3 d4 d5 d6 d7 e : List UInt8) : Prop where
 txt : t = U0 ++ (m.st ++ (U1 ++ (d1 ++ (U2 ++ (d2 ++ (U3 ++ (d3 ++ (U4 ++ (d4 ++ (U5 ++ (d5 ++ (U6 ++ (d6 ++ (U7 ++ (d7 ++ ([10] ++ (SUM ++ e ++ [10])))))))))))))))))
 st0 : m.st ≠ []
 st32 : (32 : UInt8) ∉ m.st
 st10 : (10 : UInt8) ∉ m.st
 na : ∃ v : Nat, numF d1 = some v /\ m.a = v
 nb : ∃ v : Nat, numF d2 = some v /\ m.b = v
 nc : ∃ v : Nat, numF d3 = some v /\ m.c = v
 nd : ∃ v : Nat, numF d4 = some v /\ m.d = v
 ne : ∃ v : Nat, numF d5 = some v /\ m.e = v
 nf : ∃ v : Nat, numF d6 = some v /\ m.f = v
 nh : ∃ v : Nat, numF d7 = some v /\ m.h = v
 sum : sumF e = some sm
def mform (t : List UInt8) (m : Mt) (sm : Nat) : Prop:=∃ d1 d2 d3 d4 d5 d6 d7 e, MForm t m sm d1 d2 d3 d4 d5 d6 d7 e
def zMt : Mt:=⟨[], 0, 0, 0, 0, 0, 0, 0⟩
def mansV (t : List UInt8) (m : Mt) (sm : Nat) : Value:=if sm = crcF (sb (t.take (t.length - 13))) then (if m.mok = true then .tuple #[m.v, .int .i64 0] else .tuple #[zMt.v, .int .i64 42]) else .tuple #[zMt.v, .int .i64 41]
section
variable {w w1 w2 : World}
theorem finN_run {n x1 : Nat} {l1 : List Value} (h1 : bk w x1 = some l1) (hw1 : wr w x1 = true) (cs : Array Value) (hs : cs.size = n + 1) (hl : l1.length = n + 1) (hc : cs.toList.all isCell = true) {K : Value -> World -> Prop} (q : ∀ w', Fr (λ c => c = x1) w w' -> K (.agg cs) w') :
  Run (stM (n + 1) (.pointer (some ⟨x1, 0, none⟩)) (.agg cs)) w λ _ w' => Run (rdM (ldA (n + 1) (.pointer (some ⟨x1, 0, none⟩)))) w' K:=by
 rw [Run_stA ⟨⟨⟨_, h1, by omega⟩, hw1⟩, hs, hc⟩, Run_rdM]
 have hb:=bk_sto_same (o:=0) h1 cs.toList
 have hcl : cs.toList.length = n + 1:=by rw [Array.length_toList, hs]
 have he : setL l1 0 cs.toList = cs.toList:=by
  rw [setL_eq _ _ _ (by omega), List.drop_of_length_le (by omega)]
  simp
 rw [he] at hb
 refine ⟨_, ?_, q _ ((show Fr (λ c => c = x1) w w from Fr.refl _ _).sto (.inl rfl) _ _)⟩
 rw [ldA_bk hb (by omega), List.drop_zero, <- hcl, List.take_length]
theorem mrow_cell (m : Mt) : m.row.toArray.toList.all isCell = true:=by
 simp [Mt.row]
end
def nameF (word l : List UInt8) : Option (List UInt8):=if (word ++ [32]) <+: l /\ l.drop (word ++ [32]).length ≠ [] /\ (32 : UInt8) ∉ l.drop (word ++ [32]).length then some (l.drop (word ++ [32]).length) else none
theorem nameF_of {word d : List UInt8} (h0 : d ≠ []) (h32 : (32 : UInt8) ∉ d) : nameF word (word ++ [32] ++ d) = some d:=by
 unfold nameF
 rw [List.drop_left, if_pos ⟨List.prefix_append _ _, h0, h32⟩]
theorem nameF_some {word l d : List UInt8} (h : nameF word l = some d) : l = word ++ [32] ++ d /\ d ≠ [] /\ (32 : UInt8) ∉ d:=by
 unfold nameF at h
 split at h
 ·rename_i hc
  obtain ⟨⟨t, ht⟩, h2, h3⟩:=hc
  rw [<- ht, List.drop_left] at h h2 h3
  cases h
  exact ⟨ht.symm, h2, h3⟩
 ·cases h
theorem index_in {x : List UInt8} {b : UInt8} : decide (0 <= Lib.indexByte x b) = decide (b ∈ x):=by
 by_cases h : b ∈ x
 ·obtain ⟨y, s, rfl, hy⟩:=List.eq_append_cons_of_mem h
  rw [index_at b hy]
  simp
 ·rw [index_no b h, decide_eq_false h]
  rfl
def zeros7 : List Value:=[.int .i64 0, .int .i64 0, .int .i64 0, .int .i64 0, .int .i64 0, .int .i64 0, .int .i64 0]
def condMt (s : List UInt8) : Bool:=okF s META && (match midL s with
 | [] => false
 | x :: N => (nameF STORE x).isSome && (decide (N.length = metaF.length) && (metaF.zip N).all λ z => (fldO z.1 z.2).isSome))
theorem mform_lines {s : List UInt8} {m : Mt} {sm : Nat} {d1 d2 d3 d4 d5 d6 d7 e : List UInt8} (h : MForm (s ++ [10]) m sm d1 d2 d3 d4 d5 d6 d7 e) : spl 10 s = [META, STORE ++ [32] ++ m.st, VERSION ++ [32] ++ d1, NODE ++ [32] ++ d2, PARTS ++ [32] ++ d3, REPLICAS ++ [32] ++ d4, WIDTH ++ [32] ++ d5, CHUNKS ++ [32] ++ d6, ROWS ++ [32] ++ d7, SUM ++ e]:=by
 have hs : s = jn 10 [META, STORE ++ [32] ++ m.st, VERSION ++ [32] ++ d1, NODE ++ [32] ++ d2, PARTS ++ [32] ++ d3, REPLICAS ++ [32] ++ d4, WIDTH ++ [32] ++ d5, CHUNKS ++ [32] ++ d6, ROWS ++ [32] ++ d7, SUM ++ e]:=by
  have h1 : s ++ [10] = jn 10 [META, STORE ++ [32] ++ m.st, VERSION ++ [32] ++ d1, NODE ++ [32] ++ d2, PARTS ++ [32] ++ d3, REPLICAS ++ [32] ++ d4, WIDTH ++ [32] ++ d5, CHUNKS ++ [32] ++ d6, ROWS ++ [32] ++ d7, SUM ++ e] ++ [10]:=by
   rw [h.txt]
   simp [jn, U0, U1, U2, U3, U4, U5, U6, U7, META, STORE, VERSION, NODE, PARTS, REPLICAS, WIDTH, CHUNKS, ROWS]
  exact List.append_cancel_right h1
 rw [hs]
 refine spl_of 10 (by simp) λ x hx => ?_
 simp only [List.mem_cons, List.not_mem_nil, or_false] at hx
 have ks:=h.st10
 obtain ⟨_, g1, _⟩:=h.na
 have k1:=num_no10 g1
 obtain ⟨_, g2, _⟩:=h.nb
 have k2:=num_no10 g2
 obtain ⟨_, g3, _⟩:=h.nc
 have k3:=num_no10 g3
 obtain ⟨_, g4, _⟩:=h.nd
 have k4:=num_no10 g4
 obtain ⟨_, g5, _⟩:=h.ne
 have k5:=num_no10 g5
 obtain ⟨_, g6, _⟩:=h.nf
 have k6:=num_no10 g6
 obtain ⟨_, g7, _⟩:=h.nh
 have k7:=num_no10 g7
 have k8:=(sum_no10 h.sum).1
 rcases hx with rfl | rfl | rfl | rfl | rfl | rfl | rfl | rfl | rfl | rfl
 ·decide
 ·simp only [List.mem_append, not_or]; exact ⟨⟨by decide, by decide⟩, ks⟩
 ·simp only [List.mem_append, not_or]; exact ⟨⟨by decide, by decide⟩, k1⟩
 ·simp only [List.mem_append, not_or]; exact ⟨⟨by decide, by decide⟩, k2⟩
 ·simp only [List.mem_append, not_or]; exact ⟨⟨by decide, by decide⟩, k3⟩
 ·simp only [List.mem_append, not_or]; exact ⟨⟨by decide, by decide⟩, k4⟩
 ·simp only [List.mem_append, not_or]; exact ⟨⟨by decide, by decide⟩, k5⟩
 ·simp only [List.mem_append, not_or]; exact ⟨⟨by decide, by decide⟩, k6⟩
 ·simp only [List.mem_append, not_or]; exact ⟨⟨by decide, by decide⟩, k7⟩
 ·simp only [List.mem_append, not_or]; exact ⟨by decide, k8⟩
theorem mform_yes {s : List UInt8} {m : Mt} {sm : Nat} (h : mform (s ++ [10]) m sm) : condMt s = true /\ (∃ N, midL s = (STORE ++ [32] ++ m.st) :: N /\ putF (metaF.zip N) (.string (sb m.st) :: zeros7) = m.row) /\ sumF ((lastL s).drop 4) = some sm /\ nameF STORE (STORE ++ [32] ++ m.st) = some m.st:=by
 obtain ⟨d1, d2, d3, d4, d5, d6, d7, e, h⟩:=h
 have hN:=mform_lines h
 have hm : midL s = (STORE ++ [32] ++ m.st) :: [VERSION ++ [32] ++ d1, NODE ++ [32] ++ d2, PARTS ++ [32] ++ d3, REPLICAS ++ [32] ++ d4, WIDTH ++ [32] ++ d5, CHUNKS ++ [32] ++ d6, ROWS ++ [32] ++ d7]:=by unfold midL; rw [hN]; rfl
 have hl : lastL s = SUM ++ e:=by unfold lastL; rw [hN]; rfl
 have hd4 : (SUM ++ e).drop 4 = e:=List.drop_left (l₁:=SUM)
 have hok : okF s META = true:=by
  unfold okF
  have e1 : ((spl 10 s).getLast?).getD [] = SUM ++ e:=hl
  rw [e1, hd4, h.sum, hN, decide_eq_true (List.prefix_append SUM e)]
  simp
 have hnm:=nameF_of (word:=STORE) h.st0 h.st32
 obtain ⟨v1, g1, r1⟩:=h.na
 have f1:=fldO_of (f:=⟨VERSION, 1, 999999, 1, .func (.func 83) #[] #[]⟩) (d:=d1)
 rw [g1] at f1
 obtain ⟨v2, g2, r2⟩:=h.nb
 have f2:=fldO_of (f:=⟨NODE, 0, 15, 2, .func (.func 84) #[] #[]⟩) (d:=d2)
 rw [g2] at f2
 obtain ⟨v3, g3, r3⟩:=h.nc
 have f3:=fldO_of (f:=⟨PARTS, 1, 64, 3, .func (.func 85) #[] #[]⟩) (d:=d3)
 rw [g3] at f3
 obtain ⟨v4, g4, r4⟩:=h.nd
 have f4:=fldO_of (f:=⟨REPLICAS, 1, 16, 4, .func (.func 86) #[] #[]⟩) (d:=d4)
 rw [g4] at f4
 obtain ⟨v5, g5, r5⟩:=h.ne
 have f5:=fldO_of (f:=⟨WIDTH, 1, 16, 5, .func (.func 87) #[] #[]⟩) (d:=d5)
 rw [g5] at f5
 obtain ⟨v6, g6, r6⟩:=h.nf
 have f6:=fldO_of (f:=⟨CHUNKS, 1, 16, 6, .func (.func 88) #[] #[]⟩) (d:=d6)
 rw [g6] at f6
 obtain ⟨v7, g7, r7⟩:=h.nh
 have f7:=fldO_of (f:=⟨ROWS, 0, 9007199254740992, 7, .func (.func 89) #[] #[]⟩) (d:=d7)
 rw [g7] at f7
 refine ⟨?_, ⟨_, hm, ?_⟩, by rw [hl, hd4, h.sum], hnm⟩
 ·unfold condMt
  rw [hok, hm]
  simp only [hnm, metaF, List.zip_cons_cons, List.zip_nil_right, List.all_cons, List.all_nil, f1, f2, f3, f4, f5, f6, f7]
  rfl
 ·simp only [metaF, List.zip_cons_cons, List.zip_nil_right, putF, f1, f2, f3, f4, f5, f6, f7]
  simp only [Mt.row, r1, r2, r3, r4, r5, r6, r7]
  rfl
theorem mform_no {s : List UInt8} (h : condMt s = true) : ∃ m sm, mform (s ++ [10]) m sm:=by
 unfold condMt at h
 rw [Bool.and_eq_true] at h
 obtain ⟨hok, h⟩:=h
 cases hmid : midL s with
 | nil => rw [hmid] at h; cases h
 | cons x N =>
 rw [hmid] at h
 simp only [Bool.and_eq_true, decide_eq_true_eq] at h
 obtain ⟨hnm, hlen, hall⟩:=h
 obtain ⟨hjn, hno⟩:=spl_jn 10 s
 unfold okF at hok
 unfold midL at hmid
 generalize spl 10 s = N0 at *
 have h7 : metaF.length = 7:=rfl
 rw [h7] at hlen
 have hl10 : N0.length = 10:=by
  have:=congrArg List.length hmid
  rw [List.length_drop, List.length_take, List.length_cons] at this
  omega
 obtain ⟨x0, x1, x2, x3, x4, x5, x6, x7, x8, x9, rfl⟩ : ∃ x0 x1 x2 x3 x4 x5 x6 x7 x8 x9, N0 = [x0, x1, x2, x3, x4, x5, x6, x7, x8, x9]:=by
  match N0, hl10 with
  | [x0, x1, x2, x3, x4, x5, x6, x7, x8, x9], _ => exact ⟨_, _, _, _, _, _, _, _, _, _, rfl⟩
 have hmid' : [x1, x2, x3, x4, x5, x6, x7, x8] = x :: N:=hmid
 obtain ⟨rfl, rfl⟩:=List.cons.inj hmid'
 simp only [Bool.and_eq_true, decide_eq_true_eq, List.getLast?_cons_cons, List.getLast?_singleton, Option.getD_some, List.head?_cons, Option.some.injEq] at hok
 obtain ⟨⟨hp, hsm⟩, rfl⟩:=hok
 obtain ⟨e, rfl⟩:=hp
 have hd4 : (SUM ++ e).drop 4 = e:=List.drop_left (l₁:=SUM)
 rw [hd4] at hsm
 obtain ⟨sm, hsm⟩:=Option.isSome_iff_exists.1 hsm
 obtain ⟨st, hst⟩:=Option.isSome_iff_exists.1 hnm
 obtain ⟨rfl, st0, st32⟩:=nameF_some hst
 have st10 : (10 : UInt8) ∉ st:=λ hc => hno (STORE ++ [32] ++ st) (by simp) (by simp [hc])
 simp only [metaF, List.zip_cons_cons, List.zip_nil_right, List.all_cons, List.all_nil, Bool.and_eq_true, Bool.and_true] at hall
 obtain ⟨q1, q2, q3, q4, q5, q6, q7⟩:=hall
 obtain ⟨d1, v1, rfl, g1⟩:=fldO_some q1
 obtain ⟨d2, v2, rfl, g2⟩:=fldO_some q2
 obtain ⟨d3, v3, rfl, g3⟩:=fldO_some q3
 obtain ⟨d4, v4, rfl, g4⟩:=fldO_some q4
 obtain ⟨d5, v5, rfl, g5⟩:=fldO_some q5
 obtain ⟨d6, v6, rfl, g6⟩:=fldO_some q6
 obtain ⟨d7, v7, rfl, g7⟩:=fldO_some q7
 refine ⟨⟨st, (v1 : Int), (v2 : Int), (v3 : Int), (v4 : Int), (v5 : Int), (v6 : Int), (v7 : Int)⟩, sm, d1, d2, d3, d4, d5, d6, d7, e, ?_, st0, st32, st10, ⟨v1, g1, rfl⟩, ⟨v2, g2, rfl⟩, ⟨v3, g3, rfl⟩, ⟨v4, g4, rfl⟩, ⟨v5, g5, rfl⟩, ⟨v6, g6, rfl⟩, ⟨v7, g7, rfl⟩, hsm⟩
 rw [<- hjn]
 simp [jn, U0, U1, U2, U3, U4, U5, U6, U7, META, STORE, VERSION, NODE, PARTS, REPLICAS, WIDTH, CHUNKS, ROWS]
section
variable {w w1 w2 : World}
theorem nameOf_run {word l : List UInt8} (hw : word.length <= 100) : Run (F.paper_nameOf (.string (sb l)) (.string (sb word))) w λ r w' => r = .tuple #[.string (sb (Lib.trimPrefix l (word ++ [32]))), .bool (nameF word l).isSome] /\ w' = w:=by
 unfold F.paper_nameOf
 have e32 : ByteArray.mk #[32] = sb [32]:=rfl
 have e0 : ByteArray.mk #[] = sb []:=rfl
 have a1:=sbAdd (a:=word) (c:=[32]) (by simp; omega)
 have hnv : ∀ b, notV (.bool b) = some (.bool !b):=λ _ => rfl
 have y0 : ∀ v x, extV 0 (.tuple #[v, x]) = some v:=λ _ _ => rfl
 have y1 : ∀ v x, extV 1 (.tuple #[v, x]) = some x:=λ _ _ => rfl
 rw [e32, a1, Run_bindO_some, Run_bind]
 refine ⟨_, _, cutp_run l (word ++ [32]), ?_⟩
 show Run (bindO (extV 0 (.tuple #[.string (sb (Lib.trimPrefix l (word ++ [32]))), .bool (decide ((word ++ [32]) <+: l))])) _) w _
 rw [y0, Run_bindO_some, y1, Run_bindO_some]
 by_cases h : (word ++ [32]) <+: l
 case neg =>
  have hn : nameF word l = none:=by unfold nameF; rw [if_neg λ hc => h hc.1]
  rw [decide_eq_false h, hn]
  simp only [Run_bind, Run_guardM_ft, pickV_bool, cond_false, Run_bindO_some, Run_ret]
  exact ⟨rfl, trivial⟩
 rw [decide_eq_true h, trim_of h, e0]
 simp only [Run_bind, Run_guardM_tt, Run_ret, sbNe, Run_optM_some, pickV_bool, cond_true, Run_bindO_some]
 by_cases h0 : l.drop (word ++ [32]).length = []
 case pos =>
  have hn : nameF word l = none:=by unfold nameF; rw [if_neg λ hc => hc.2.1 h0]
  rw [decide_eq_true h0, hn]
  simp only [Bool.not_true, Run_bind, Run_guardM_ft, pickV_bool, cond_false, Run_bindO_some, Run_ret]
  exact ⟨rfl, trivial⟩
 rw [decide_eq_false h0]
 simp only [Bool.not_false, Run_bind, Run_guardM_tt, Run_ret]
 have hc : F.strings_Contains (.string (sb (l.drop (word ++ [32]).length))) (.string (sb [32])) w = some (.bool (decide ((32 : UInt8) ∈ l.drop (word ++ [32]).length)), w):=by
  unfold F.strings_Contains
  show some (Value.bool (decide (0 <= Lib.indexByte (l.drop (word ++ [32]).length) 32)), w) = _
  rw [index_in]
 refine ⟨_, _, hc, ?_⟩
 show Run (optM (notV (.bool (decide ((32 : UInt8) ∈ l.drop (word ++ [32]).length))))) w _
 rw [hnv, Run_optM_some]
 simp only [pickV_bool, cond_true, Run_bindO_some, Run_ret]
 have hn : (nameF word l).isSome = !decide ((32 : UInt8) ∈ l.drop (word ++ [32]).length):=by
  unfold nameF
  by_cases h32 : (32 : UInt8) ∈ l.drop (word ++ [32]).length
  ·rw [if_neg λ hc => hc.2.2 h32, decide_eq_true h32]; rfl
  ·rw [if_pos ⟨h, h0, h32⟩, decide_eq_false h32]; rfl
 rw [hn]
 exact ⟨rfl, trivial⟩
structure MAns (t : List UInt8) (r : Value) : Prop where
 yes : ∀ m sm, mform t m sm -> r = mansV t m sm
 no : (∀ m sm, ¬ mform t m sm) -> r = .tuple #[zMt.v, .int .i64 40]
theorem mparse_run (ht : Tb w) {t : List UInt8} (hl : t.length <= 4294960000) : Run (F.paper_ParseMeta (.string (sb t))) w λ r w' => MAns t r /\ Fr (λ _ => False) w w':=by
 unfold F.paper_ParseMeta
 have eL : ByteArray.mk #[103, 114, 97, 110, 97, 114, 121, 32, 109, 101, 116, 97, 32, 49] = sb META:=rfl
 have eS : ByteArray.mk #[115, 116, 111, 114, 101] = sb STORE:=rfl
 have z0 : buildV #[(Value.string ByteArray.empty), (Value.int IntKind.i64 0), (Value.int IntKind.i64 0), (Value.int IntKind.i64 0), (Value.int IntKind.i64 0), (Value.int IntKind.i64 0), (Value.int IntKind.i64 0), (Value.int IntKind.i64 0)] [] = some (.agg zMt.row.toArray):=rfl
 have hnv : ∀ b, notV (.bool b) = some (.bool !b):=λ _ => rfl
 have y0 : ∀ v x z, extV 0 (.tuple #[v, x, z]) = some v:=λ _ _ _ => rfl
 have y1 : ∀ v x z, extV 1 (.tuple #[v, x, z]) = some x:=λ _ _ _ => rfl
 have y2 : ∀ v x z, extV 2 (.tuple #[v, x, z]) = some z:=λ _ _ _ => rfl
 have p0 : ∀ v x, extV 0 (.tuple #[v, x]) = some v:=λ _ _ => rfl
 have p1 : ∀ v x, extV 1 (.tuple #[v, x]) = some x:=λ _ _ => rfl
 rw [Run_bind]
 refine Run_new λ x1 wa hx1 hw1 fa hx1le => ?_
 replace hx1 : bk wa x1 = some zMt.row:=hx1
 have ta:=ht.fr0 fa
 rw [eL, eS, Run_bind]
 have bad : ∀ (c : Int) {u : World}, Fr (λ _ => False) wa u -> MAns t (.tuple #[zMt.v, .int .i64 c]) -> Run (bindO (some (Value.agg zMt.row.toArray)) λ x11 =>
  M.bind (stM 8 (.pointer (some ⟨x1, 0, none⟩)) x11) λ _ =>
  M.bind (rdM (ldA 8 (.pointer (some ⟨x1, 0, none⟩)))) λ x13 =>
  M.ret (Value.tuple #[x13, (Value.int IntKind.i64 c)])) u λ r w' => MAns t r /\ Fr (λ _ => False) w w':=λ c {u} f hP => by
  rw [Run_bindO_some, Run_bind]
  simp only [Run_bind]
  refine finN_run (f.bk_some hx1 id) (by rw [f.wr (bk_lt hx1) id]; exact hw1) zMt.row.toArray rfl rfl (mrow_cell zMt) λ w3 f3 => ?_
  rw [Run_ret]
  exact ⟨hP, (fa.trans f λ _ _ => id).new f3 λ c hc => hc ▸ hx1le⟩
 by_cases hsuf : [10] <:+ t
 case neg =>
  refine (open_no hsuf hl).mono ?_
  rintro _ wb ⟨rfl, hwb⟩
  rw [hwb, y0, Run_bindO_some, y1, Run_bindO_some, y2, Run_bindO_some, hnv, Run_bindO_some]
  simp only [Bool.not_false, Run_bind, Run_guardM_tf, pickV_bool, cond_true, Run_bindO_some, Run_condM_true]
  rw [z0]
  exact bad 40 (Fr.refl _ wa) ⟨λ m sm hp => by
   obtain ⟨d1, d2, d3, d4, d5, d6, d7, e, hp⟩:=hp
   refine absurd ?_ hsuf
   rw [hp.txt]
   simp only [<- List.append_assoc]
   exact List.suffix_append _ _, λ _ => rfl⟩
 obtain ⟨s, rfl⟩:=hsuf
 have hsl : s.length <= 4294960000:=by rw [List.length_append] at hl; omega
 refine (open_yes ta (s:=s) (title:=META) (by decide) hsl).mono ?_
 rintro _ wb ⟨⟨v, right, rfl, hv⟩, fb⟩
 rw [y0, Run_bindO_some, y1, Run_bindO_some, y2, Run_bindO_some, hnv, Run_bindO_some]
 have hno : condMt s = false -> MAns (s ++ [10]) (.tuple #[zMt.v, .int .i64 40]):=λ hc => ⟨λ m sm hp => by
  rw [(mform_yes hp).1] at hc
  exact Bool.noConfusion hc, λ _ => rfl⟩
 cases hok : okF s META with
 | false =>
  simp only [Bool.not_false, Run_bind, Run_guardM_tf, pickV_bool, cond_true, Run_bindO_some, Run_condM_true]
  rw [z0]
  exact bad 40 fb (hno (by unfold condMt; rw [hok]; rfl))
 | true =>
 obtain ⟨hright, hvs, hvn⟩:=hv hok
 have hvs' : Sl 1 wb v ((midL s).map λ x => [.string (sb x)]):=hvs
 have hlv:=hvs'.lenL
 rw [List.length_map] at hlv
 simp only [Bool.not_true, Run_bind, Run_guardM_ff, Run_ret, hlv, Run_optM_some, binV_int, intBin_eql, pickV_bool, cond_false, Run_bindO_some]
 cases hmid : midL s with
 | nil =>
  rw [decide_eq_true (show (((([] : List (List UInt8)).length : Nat)) : Int) = 0 from rfl), Run_condM_true, z0]
  exact bad 40 fb (hno (by unfold condMt; rw [hok, hmid]; rfl))
 | cons x N =>
 rw [hmid] at hvs'
 have hcd : condMt s = ((nameF STORE x).isSome && (decide (N.length = metaF.length) && (metaF.zip N).all λ z => (fldO z.1 z.2).isSome)):=by unfold condMt; rw [hok, hmid, Bool.true_and]
 have hc0 : ¬ ((((x :: N).length : Nat)) : Int) = 0:=by rw [List.length_cons]; omega
 rw [decide_eq_false hc0, Run_condM_false, Run_bind]
 refine Run_new λ x6 wc hx6 hw6 fc hx6le => ?_
 replace hx6 : bk wc x6 = some zMt.row:=hx6
 have fac:=(fa.trans fb λ _ _ => id).trans fc λ _ _ => id
 have fbc:=fb.trans fc λ _ _ => id
 have hml : ∀ x ∈ midL s, x.length <= s.length:=λ x hx => by
  have hm:=List.mem_of_mem_take (List.mem_of_mem_drop hx)
  have : ∀ (N : List (List UInt8)), x ∈ N -> x.length <= (jn 10 N).length:=λ N => by
   induction N with
   | nil => intro h; cases h
   | cons y r ih =>
    intro h
    by_cases hr : r = []
    ·subst hr; simp at h; subst h; simp [jn]
    ·rw [jn_cons 10 hr, List.length_append, List.length_append]
     rcases List.mem_cons.1 h with rfl | h
     ·omega
     ·have:=ih h; omega
  have:=this _ hm
  rw [(spl_jn 10 s).1] at this
  omega
 have hmN : (midL s).length <= s.length + 1:=by
  have h1:=jn_count 10 _ (spl_ne 10 s) (spl_jn 10 s).2
  have h2 : (jn 10 (spl 10 s)).count 10 <= (jn 10 (spl 10 s)).length:=List.count_le_length
  rw [(spl_jn 10 s).1] at h1 h2
  unfold midL
  rw [List.length_drop, List.length_take]
  omega
 rw [hmid, List.length_cons] at hmN
 have hxl:=hml x (by rw [hmid]; simp)
 obtain ⟨q, q1, q2⟩:=(hvs'.fr0 fc).rd1 (i:=0) (y:=.string (sb x)) (by simp) .i64
 have q1' : idxA 1 v (.int .i64 0) = some q:=q1
 rw [q1', Run_bindO_some, Run_bind, Run_rdM]
 refine ⟨_, q2, ?_⟩
 rw [Run_bind]
 refine (nameOf_run (by decide)).mono ?_
 rintro _ wz ⟨rfl, hwz⟩
 rw [hwz, p0, Run_bindO_some, p1, Run_bindO_some, fieldA_ptr, Run_bindO_some, Run_bind, Run_st1 ⟨⟨⟨_, hx6, by simp [zMt, Mt.row]⟩, hw6⟩, rfl⟩, Run_drewM]
 have hx6' : bk (sto wc x6 (0 + 0) [.string (sb (Lib.trimPrefix x (STORE ++ [32])))]).drew x6 = some (.string (sb (Lib.trimPrefix x (STORE ++ [32]))) :: zeros7):=by
  rw [bk_drew, bk_sto_same hx6]; rfl
 have hw6' : wr (sto wc x6 (0 + 0) [.string (sb (Lib.trimPrefix x (STORE ++ [32])))]).drew x6 = true:=by rw [wr_drew, wr_sto]; exact hw6
 have l1:=bk_lt hx1
 have sb1:=fb.size
 have fcd : Fr (λ c => c = x6) wc (sto wc x6 (0 + 0) [.string (sb (Lib.trimPrefix x (STORE ++ [32])))]).drew:=((show Fr (λ c => c = x6) wc wc from Fr.refl _ _).sto (.inl rfl) _ _).drew
 generalize (sto wc x6 (0 + 0) [.string (sb (Lib.trimPrefix x (STORE ++ [32])))]).drew = wd at *
 have fbd : Fr (λ _ => False) wa wd:=fbc.new fcd λ c hc => by omega
 rw [hnv, Run_bindO_some]
 cases hnm : nameF STORE x with
 | none =>
  simp only [Option.isSome_none, Bool.not_false, Run_bind, Run_guardM_tf, pickV_bool, cond_true, Run_bindO_some, Run_condM_true]
  rw [z0]
  exact bad 40 fbd (hno (by rw [hcd, hnm]; rfl))
 | some st =>
 obtain ⟨rfl, st0, st32⟩:=nameF_some hnm
 rw [trim_of (List.prefix_append _ _), List.drop_left] at hx6'
 rw [hnm] at hcd
 simp only [Option.isSome_some, Bool.not_true, Bool.true_and] at hcd ⊢
 have hvd : Sl 1 wd v (((STORE ++ [32] ++ st) :: N).map λ x => [.string (sb x)]):=(hvs'.fr0 fc).fr fcd λ c hc he => by have:=(hvn c hc).2; omega
 obtain ⟨v2, s1, s2, s3⟩:=hvd.drop (n:=1) (by simp) .i64
 have s1' : sliceV 1 v (some (.int .i64 1)) none = some v2:=s1
 have s2' : Sl 1 wd v2 (N.map λ x => [.string (sb x)]):=s2
 simp only [Run_bind, Run_guardM_ff, Run_ret, s1', Run_optM_some]
 refine mfields_run.mono ?_
 rintro tb we ⟨htd, fd, hnd⟩
 have l6:=bk_lt hx6'
 have sc:=fc.size
 have sd:=fcd.size
 have hx6d:=fd.bk_some hx6' id
 have hw6d : wr we x6 = true:=by rw [fd.wr l6 id]; exact hw6'
 have hvx6 : ¬ inB v2 x6:=λ h => by have:=(hvn _ (s3 _ h)).2; omega
 refine (Me.parseF_run htd.1 (s2'.fr0 fd) metaF_ok hx6d hw6d (metaOff _ rfl) (by decide) (by omega) (λ y hy => by have:=hml y (by rw [hmid]; simp [hy]); omega) (λ h => by have:=(hnd _ h).1; omega) hvx6).mono ?_
 rintro _ wf ⟨rfl, ⟨l', hb', hwb', hl', hput⟩, fe⟩
 rw [<- hcd] at hput ⊢
 have fde : Fr (λ c => c = x6) wd wf:=(fd.mono λ _ h => h.elim).trans fe λ _ _ h => h
 have faf : Fr (λ _ => False) wa wf:=fbd.new fde λ c hc => by omega
 rw [hnv, Run_optM_some]
 simp only [pickV_bool, cond_false, Run_bindO_some]
 cases hc : condMt s with
 | false =>
  simp only [Bool.not_false, Run_condM_true]
  rw [z0]
  exact bad 40 faf (hno hc)
 | true =>
 obtain ⟨m, sm, hpf⟩:=mform_no hc
 obtain ⟨_, ⟨N', hm1, hput2⟩, hsm, _⟩:=mform_yes hpf
 rw [hmid] at hm1
 obtain ⟨hst, rfl⟩:=List.cons.inj hm1
 have hst2 : st = m.st:=List.append_cancel_left hst
 have hl2:=hput hc
 rw [hst2, hput2] at hl2
 subst hl2
 have hans : ∀ r, r = mansV (s ++ [10]) m sm -> MAns (s ++ [10]) r:=λ r hr => by
  refine ⟨λ m' sm' hp' => ?_, λ hno => absurd hpf (hno m sm)⟩
  obtain ⟨_, ⟨N2, e0, e1⟩, e2, _⟩:=mform_yes hp'
  rw [hmid] at e0
  obtain ⟨e3, rfl⟩:=List.cons.inj e0
  have e4 : m.st = m'.st:=by rw [<- hst2]; exact List.append_cancel_left e3
  rw [<- e4, hput2] at e1
  rw [hsm] at e2
  have en : m = m':=by
   obtain ⟨st1, a, b, c, d, e, f, h⟩:=m
   obtain ⟨st2, a', b', c', d', e', f', h'⟩:=m'
   simp only [Mt.row, List.cons.injEq, Value.int.injEq, true_and, and_true] at e1 e4
   obtain ⟨_, rfl, rfl, rfl, rfl, rfl, rfl, rfl⟩:=e1
   rw [e4]
  rw [hr, en, Option.some.inj e2]
 have hr2 : right = decide (sm = crcF (sb ((s ++ [10]).take ((s ++ [10]).length - 13)))):=by
  have hsm' : sumF ((((spl 10 s).getLast?).getD []).drop 4) = some sm:=hsm
  rw [hright]
  refine decide_eq_decide.2 ?_
  rw [hsm']
  simp
 simp only [Bool.not_true, Run_condM_false, Run_bindO_some, hnv]
 by_cases hcrc : sm = crcF (sb ((s ++ [10]).take ((s ++ [10]).length - 13)))
 case neg =>
  rw [hr2, decide_eq_false hcrc, Bool.not_false, Run_condM_true, z0]
  exact bad 41 faf (hans _ (by rw [mansV, if_neg hcrc]))
 rw [hr2, decide_eq_true hcrc, Bool.not_true, Run_condM_false, Run_bindO_some, Run_bind, Run_rdM]
 have ls : ld1 (.pointer (some ⟨x6, 0 + 0, none⟩)) wf = some (.string (sb m.st)):=by rw [ld1_ptr, hb']; rfl
 refine ⟨_, ls, ?_⟩
 have hstl : m.st.length <= 4611686018427387904:=by
  rw [<- hst2]
  rw [List.length_append, List.length_append] at hxl
  omega
 rw [Run_bind]
 refine (storeOK_run m.st hstl).mono ?_
 rintro _ wg ⟨rfl, fg⟩
 have fag:=faf.trans fg λ _ _ => id
 have hx6g:=fg.bk_some hb' id
 rw [hnv, Run_bindO_some]
 have hmok : m.mok = (storeP m.st && m.fok):=rfl
 cases hsp : storeP m.st with
 | false =>
  simp only [Bool.not_false, Run_bind, Run_guardM_tf, pickV_bool, cond_true, Run_bindO_some, Run_condM_true]
  rw [z0]
  exact bad 42 fag (hans _ (by rw [mansV, if_pos hcrc, hmok, hsp]; rfl))
 | true =>
 rw [hsp, Bool.true_and] at hmok
 simp only [Bool.not_true, Run_bind, Run_guardM_ff]
 refine mfields_run.mono ?_
 rintro tb2 wh ⟨htf, fh, hnf⟩
 refine (Me.ranges_run htf.1 metaF_ok (fh.bk_some hx6g id) (metaF_at m) (by decide)).mono ?_
 rintro _ wi ⟨rfl, fi⟩
 have fai:=(fag.trans fh λ _ _ => id).trans fi λ _ _ => id
 have hx6i:=fi.bk_some (fh.bk_some hx6g id) id
 rw [hnv, Run_optM_some]
 simp only [pickV_bool, cond_false, Run_bindO_some]
 cases hpk : m.fok with
 | false =>
  have hpk' : (metaF.all λ f => f.inR m.at) = false:=hpk
  rw [hpk', Bool.not_false, Run_condM_true, z0]
  exact bad 42 fai (hans _ (by rw [mansV, if_pos hcrc, hmok, hpk]; rfl))
 | true =>
  have hpk' : (metaF.all λ f => f.inR m.at) = true:=hpk
  have l6g : ldA 8 (.pointer (some ⟨x6, 0, none⟩)) wi = some (.agg m.row.toArray):=ldA_bk hx6i (Nat.le_refl _)
  rw [hpk', Bool.not_true, Run_condM_false, Run_bind, Run_rdM]
  refine ⟨_, l6g, ?_⟩
  simp only [Run_bind]
  refine finN_run (fai.bk_some hx1 id) (by rw [fai.wr (bk_lt hx1) id]; exact hw1) m.row.toArray rfl rfl (mrow_cell m) λ wj fj => ?_
  rw [Run_ret]
  exact ⟨hans _ (by rw [mansV, if_pos hcrc, hmok, hpk]; rfl), (fa.trans fai λ _ _ => id).new fj λ c hc => hc ▸ hx1le⟩
end
end Go.Proofs.YthlpfhjcdedhgaaGreatDoor
namespace Go.Lift
section
variable {H : Type} {enc : TypeId × Value -> H} {P : Program} {w : World}
theorem cells_get {base : Nat} {a : Addr} {n : Nat} {cs : List Value} (h : w.cells? base a n = some cs) : cs.length = n /\ ∀ j, j < n -> w.cell? (a.add j) = cs[j]?:=by
 unfold World.cells? at h
 split at h
 ·have hl:=mapM_some_length h
  refine ⟨by simpa using hl, λ j hj => mapM_some_get h j j (by simp [hj])⟩
 ·cases h
theorem cell_some {a : Addr} {v : Value} (h : w.cell? a = some v) : a.spot = none /\ ∃ l, bk w a.block = some l /\ l[a.off]? = some v:=by
 unfold World.cell? at h
 unfold bk
 cases hh : w.heap[a.block]? with
 | none => simp [hh] at h
 | some x =>
  cases x with
  | cells c t m =>
   simp only [hh] at h ⊢
   split at h
   ·cases h
   ·rename_i hs
    refine ⟨?_, c.toList, rfl, by simpa using h⟩
    cases hsp : a.spot with
    | none => rfl
    | some s => rw [hsp] at hs; simp at hs
  | _ => simp [hh] at h
theorem open_sl {t e : TypeId} {fuel k : Nat} {cs : List Value} {x : DataW H × List MemPlace} (ht : P.underlying t = some (.slice e)) (hk : P.cellsOf e = k) (hk0 : 0 < k)
  (h : DataW.trod enc P w 0 (λ _ => true) true fuel t cs = some x) :
  ∃ v els, cs = [v] /\ Sl k w v els /\ ((x.1 = .nil /\ els = []) ∨ ∃ Ds spare, x.1 = .slice Ds spare /\ Ds.length = els.length /\
   ∀ (i : Nat) (c : List Value) (d : DataW H), els[i]? = some c -> Ds[i]? = some d -> ∃ n ps, DataW.trod enc P w 0 (λ _ => true) true n e c = some (d, ps)):=by
 rcases DataW.trod_slice ht h with ⟨rfl, rfl⟩ | ⟨a, len, cap, elems, rest, n, _, rfl, rfl, hb, hl, hm, hlen, hel, hsp, hns⟩
 ·exact ⟨_, [], rfl, Sl.nil k w, .inl ⟨rfl, rfl⟩⟩
 obtain ⟨hrl, hrs⟩:=hsp rfl
 rw [hk] at hel hrs
 have hall : ∀ i, i < cap -> ∃ c' y, w.cells? 0 (a.add (i * k)) k = some c' /\ DataW.trod enc P w 0 (λ _ => true) true n e c' = some y /\ (i < len -> elems[i]? = some y):=by
  intro i hi
  by_cases hil : i < len
  ·have h1:=hel i hil
   rw [List.getElem?_eq_getElem (by omega)] at h1
   obtain ⟨c', h2, h3⟩:=Option.bind_eq_some_iff.1 h1
   exact ⟨c', _, h2, h3, λ _ => List.getElem?_eq_getElem (by omega)⟩
  ·have h1:=hrs (i - len) (by omega)
   rw [show len + (i - len) = i by omega, List.getElem?_eq_getElem (by omega)] at h1
   obtain ⟨c', h2, h3⟩:=Option.bind_eq_some_iff.1 h1
   exact ⟨c', _, h2, h3, λ h => absurd h hil⟩
 by_cases hc0 : cap = 0
 ·have hl0 : len = 0:=by omega
  subst hc0; subst hl0
  refine ⟨_, [], rfl, ⟨by simp, some a, 0, rfl, Nat.le_refl _, .inl rfl⟩, .inr ⟨_, _, rfl, by simp [hlen], λ i c d hi => by simp at hi⟩⟩
 obtain ⟨b, o, sp⟩:=a
 have h00 : w.cell? ⟨b, o, sp⟩ ≠ none:=by
  obtain ⟨c', y, h1, _⟩:=hall 0 (by omega)
  have h2:=(cells_get h1).2 0 hk0
  have h3:=(cells_get h1).1
  have e : ((⟨b, o, sp⟩ : Addr).add (0 * k)).add 0 = ⟨b, o, sp⟩:=by simp [Addr.add]
  rw [e, List.getElem?_eq_getElem (by omega)] at h2
  rw [h2]; simp
 obtain ⟨v0, hv0⟩:=Option.ne_none_iff_exists'.1 h00
 obtain ⟨hsp0, l, hbk, _⟩:=cell_some hv0
 simp only at hsp0 hbk
 subst hsp0
 have hread : ∀ i j, i < cap -> j < k -> ∃ c', w.cells? 0 ((⟨b, o, none⟩ : Addr).add (i * k)) k = some c' /\ l[o + i * k + j]? = c'[j]? /\ o + i * k + j < l.length:=by
  intro i j hi hj
  obtain ⟨c', y, h1, _⟩:=hall i hi
  have h2:=(cells_get h1).2 j hj
  have h3:=(cells_get h1).1
  rw [Addr.add_lit, Addr.add_lit, List.getElem?_eq_getElem (by omega)] at h2
  obtain ⟨_, l', hbk', hg⟩:=cell_some h2
  simp only at hbk' hg
  rw [hbk] at hbk'; cases hbk'
  refine ⟨c', h1, ?_, (List.getElem?_eq_some_iff.1 hg).1⟩
  rw [hg, List.getElem?_eq_getElem (by omega)]
 have hfit : o + cap * k <= l.length:=by
  obtain ⟨_, _, _, h1⟩:=hread (cap - 1) (k - 1) (by omega) (by omega)
  obtain ⟨q, hq⟩ : ∃ q, cap = q + 1:=⟨cap - 1, by omega⟩
  rw [hq, show q + 1 - 1 = q by omega] at h1
  rw [hq, Nat.add_mul]
  omega
 have hels : ∀ m, m <= cap -> ((List.range m).map λ i => (l.drop (o + i * k)).take k).flatten = (l.drop o).take (m * k):=by
  intro m
  induction m with
  | zero => intro _; simp
  | succ m ih =>
   intro hmc
   rw [List.range_succ, List.map_append, List.flatten_append, ih (by omega)]
   simp only [List.map_cons, List.map_nil, List.flatten_cons, List.flatten_nil, List.append_nil]
   rw [Nat.add_mul, Nat.one_mul, List.take_add, List.drop_drop]
 have hlk : len * k <= cap * k:=Nat.mul_le_mul_right _ hl
 refine ⟨_, (List.range len).map λ i => (l.drop (o + i * k)).take k, rfl, ⟨?_, some ⟨b, o, none⟩, cap, by simp, by simpa using hl, .inr ⟨b, o, l, rfl, hbk, hfit, ?_⟩⟩, .inr ⟨_, _, rfl, by simp [hlen], ?_⟩⟩
 ·intro c hc
  obtain ⟨i, hi, rfl⟩:=List.mem_map.1 hc
  have hi' : i < len:=List.mem_range.1 hi
  have : (i + 1) * k <= cap * k:=Nat.mul_le_mul_right _ (by omega)
  rw [Nat.add_mul] at this
  rw [List.length_take, List.length_drop]
  omega
 ·rw [hels len hl]; simp
 ·intro i c d hc hd
  have hil : i < len:=by
   have:=(List.getElem?_eq_some_iff.1 hc).1
   simpa using this
  simp [hil] at hc
  obtain ⟨c', y, h1, h2, h3⟩:=hall i (by omega)
  have he:=h3 hil
  rw [List.getElem?_map, he] at hd
  simp at hd
  subst hd
  refine ⟨n, y.2, ?_⟩
  have hcc : c = c':=by
   have hcl:=(cells_get h1).1
   have : (i + 1) * k <= cap * k:=Nat.mul_le_mul_right _ (by omega)
   rw [Nat.add_mul] at this
   apply List.ext_getElem?
   intro j
   by_cases hj : j < k
   ·obtain ⟨c2, h4, h5, h6⟩:=hread i j (by omega) hj
    rw [h1] at h4; cases h4
    rw [<- h5, <- hc, List.getElem?_take, if_pos hj, List.getElem?_drop]
   ·rw [List.getElem?_eq_none (by rw [<- hc, List.length_take]; omega), List.getElem?_eq_none (by omega)]
  rw [hcc]; exact h2
end
end Go.Lift
namespace Go.Proofs.YthlpfhjcdedhgaaGreatDoor
open Go.Lift
inductive Shs where
 | nil
 | int (k : IntKind) (r : Shs)
 | bool (r : Shs)
 | str (r : Shs)
 | slice (e r : Shs)
def Shs.len : Shs -> Nat
 | .nil => 0
 | .int _ r => r.len + 1
 | .bool r => r.len + 1
 | .str r => r.len + 1
 | .slice _ r => r.len + 1
def Shs.app : Shs -> Shs -> Shs
 | .nil, s => s
 | .int k r, s => .int k (r.app s)
 | .bool r, s => .bool (r.app s)
 | .str r, s => .str (r.app s)
 | .slice e r, s => .slice e (r.app s)
def shFields (sh : TypeId -> Option Shs) : List Field -> Nat -> Option Shs
 | [], _ => some .nil
 | f :: fs, off => if f.offset = off then match sh f.type with
   | some s => match shFields sh fs (off + s.len) with
    | some r => some (s.app r)
    | none => none
   | none => none
  else none
def shOf (P : Program) : Nat -> TypeId -> Option Shs
 | 0, _ => none
 | n + 1, t => match P.underlying t with
  | some (.int k) => some (.int k .nil)
  | some .bool => some (.bool .nil)
  | some .string => some (.str .nil)
  | some (.slice e) => match shOf P n e with
   | some s => if 0 < s.len /\ P.cellsOf e = s.len then some (.slice s .nil) else none
   | none => none
  | some (.struct fs) => match shFields (shOf P n) fs.toList 0 with
   | some s => if P.cellsOf t = s.len then some s else none
   | none => none
  | _ => none
def Shs.Rd (w : World) : Shs -> List Value -> Nat -> Prop
 | .nil, cs, _ => cs = []
 | .int k r, cs, n => ∃ (i : Int) (cs' : List Value) (m : Nat), cs = .int k i :: cs' /\ (Lit.int k i).wf = true /\ m + 1 <= n /\ r.Rd w cs' m
 | .bool r, cs, n => ∃ (b : Bool) (cs' : List Value) (m : Nat), cs = .bool b :: cs' /\ m + 1 <= n /\ r.Rd w cs' m
 | .str r, cs, n => ∃ (s : ByteArray) (cs' : List Value) (m : Nat), cs = .string s :: cs' /\ m + (s.size + 1) <= n /\ r.Rd w cs' m
 | .slice e r, cs, n => ∃ (v : Value) (els : List (List Value)) (cs' : List Value) (ns : List Nat) (m : Nat), cs = v :: cs' /\ Sl e.len w v els /\ ns.length = els.length /\
   (∀ (i : Nat) (c : List Value) (k : Nat), els[i]? = some c -> ns[i]? = some k -> 1 <= k /\ e.Rd w c k) /\ m + (ns.sum + 1) <= n /\ r.Rd w cs' m
theorem Shs.app_len : ∀ a b : Shs, (a.app b).len = a.len + b.len
 | .nil, b => by simp [Shs.app, Shs.len]
 | .int k r, b => by simp only [Shs.app, Shs.len, Shs.app_len r b]; omega
 | .bool r, b => by simp only [Shs.app, Shs.len, Shs.app_len r b]; omega
 | .str r, b => by simp only [Shs.app, Shs.len, Shs.app_len r b]; omega
 | .slice e r, b => by simp only [Shs.app, Shs.len, Shs.app_len r b]; omega
section
variable {w : World}
theorem Shs.Rd.len : ∀ {s : Shs} {cs : List Value} {n : Nat}, s.Rd w cs n -> cs.length = s.len
 | .nil, cs, n, h => by cases h; rfl
 | .int k r, cs, n, ⟨i, cs', m, h1, _, _, h3⟩ => by subst h1; simp [Shs.len, Shs.Rd.len h3]
 | .bool r, cs, n, ⟨i, cs', m, h1, _, h3⟩ => by subst h1; simp [Shs.len, Shs.Rd.len h3]
 | .str r, cs, n, ⟨i, cs', m, h1, _, h3⟩ => by subst h1; simp [Shs.len, Shs.Rd.len h3]
 | .slice e r, cs, n, ⟨v, els, cs', ns, m, h1, _, _, _, _, h3⟩ => by subst h1; simp [Shs.len, Shs.Rd.len h3]
theorem Shs.Rd.mono : ∀ {s : Shs} {cs : List Value} {n n' : Nat}, s.Rd w cs n -> n <= n' -> s.Rd w cs n'
 | .nil, cs, n, n', h, _ => h
 | .int k r, cs, n, n', ⟨i, cs', m, h1, h0, h2, h3⟩, h => ⟨i, cs', m, h1, h0, by omega, h3⟩
 | .bool r, cs, n, n', ⟨i, cs', m, h1, h2, h3⟩, h => ⟨i, cs', m, h1, by omega, h3⟩
 | .str r, cs, n, n', ⟨i, cs', m, h1, h2, h3⟩, h => ⟨i, cs', m, h1, by omega, h3⟩
 | .slice e r, cs, n, n', ⟨v, els, cs', ns, m, h1, h2, h3, h4, h5, h6⟩, h => ⟨v, els, cs', ns, m, h1, h2, h3, h4, by omega, h6⟩
theorem Shs.Rd.app : ∀ {a b : Shs} {cs ds : List Value} {n k : Nat}, a.Rd w cs n -> b.Rd w ds k -> (a.app b).Rd w (cs ++ ds) (n + k)
 | .nil, b, cs, ds, n, k, h, h' => by cases h; exact h'.mono (by omega)
 | .int _ r, b, cs, ds, n, k, ⟨i, cs', m, h1, h0, h2, h3⟩, h' => ⟨i, cs' ++ ds, m + k, by rw [h1]; rfl, h0, by omega, h3.app h'⟩
 | .bool r, b, cs, ds, n, k, ⟨i, cs', m, h1, h2, h3⟩, h' => ⟨i, cs' ++ ds, m + k, by rw [h1]; rfl, by omega, h3.app h'⟩
 | .str r, b, cs, ds, n, k, ⟨i, cs', m, h1, h2, h3⟩, h' => ⟨i, cs' ++ ds, m + k, by rw [h1]; rfl, by omega, h3.app h'⟩
 | .slice e r, b, cs, ds, n, k, ⟨v, els, cs', ns, m, h1, h2, h3, h4, h5, h6⟩, h' => ⟨v, els, cs' ++ ds, ns, m + k, by rw [h1]; rfl, h2, h3, h4, by omega, h6.app h'⟩
end
theorem bulkT_one {H : Type} (d : DataW H) : 1 <= Rows.uptoBulk d:=by
 cases d with
 | lit l => cases l <;> simp [Rows.uptoBulk]
 | nil => simp [Rows.uptoBulk]
 | ptr d => simp [Rows.uptoBulk]
 | slice elems spare => simp [Rows.uptoBulk]
 | agg parts => simp [Rows.uptoBulk]
 | iface t d => simp [Rows.uptoBulk]
 | map entries => simp [Rows.uptoBulk]
 | held h => simp [Rows.uptoBulk]
theorem bulkT_sum {H : Type} : ∀ l : List (DataW H), (l.map Rows.uptoBulk).sum = Rows.uptoBulkAll l
 | [] => by simp [Rows.uptoBulkAll]
 | x :: r => by simp [Rows.uptoBulkAll, bulkT_sum r]
theorem take_of_len {l : List Value} {c k : Nat} (h : (l.take c).length = k) : l.take c = l.take k:=by
 rw [List.length_take] at h
 have : l.take k = (l.take c).take k:=by
  rw [List.take_take]
  by_cases hc : k <= c
  ·rw [Nat.min_eq_left hc]
  ·omega
 exact (this.trans (List.take_of_length_le (by rw [List.length_take]; omega))).symm
section
variable {H : Type} {enc : TypeId × Value -> H} {P : Program} {w : World}
theorem rd_fields {sh : TypeId -> Option Shs} {n : Nat} (ih : ∀ t s cs x, sh t = some s -> DataW.trod enc P w 0 (λ _ => true) true n t cs = some x -> s.Rd w cs (Rows.uptoBulk x.1)) (cs : List Value) :
  ∀ (fs : List Field) (off : Nat) (s : Shs) (xs : List (DataW H × List MemPlace)), shFields sh fs off = some s -> xs.length = fs.length ->
   (∀ (i : Nat) (f : Field), fs[i]? = some f -> DataW.trod enc P w 0 (λ _ => true) true n f.type ((cs.drop f.offset).take (P.cellsOf f.type)) = xs[i]?) ->
   s.Rd w ((cs.drop off).take s.len) (Rows.uptoBulkAll (xs.map (·.1)))
 | [], off, s, xs, h, _, _ => by
  cases h
  simp [Shs.len, Shs.Rd]
 | f :: fs, off, s, xs, h, hl, hf => by
  cases xs with
  | nil => simp at hl
  | cons x xs =>
   unfold shFields at h
   split at h
   ·rename_i hoff
    cases h1 : sh f.type with
    | none => simp [h1] at h
    | some a =>
     simp only [h1] at h
     cases h2 : shFields sh fs (off + a.len) with
     | none => simp [h2] at h
     | some r =>
      simp only [h2, Option.some.injEq] at h
      subst h
      have e0:=hf 0 f rfl
      rw [List.getElem?_cons_zero] at e0
      have r0:=ih _ _ _ _ h1 e0
      have hlen:=r0.len
      rw [take_of_len hlen, hoff] at r0
      have r1:=rd_fields ih cs fs (off + a.len) r xs h2 (by simpa using hl) λ i g hg => by
       have:=hf (i + 1) g (by simpa using hg)
       simpa using this
      have:=r0.app r1
      rw [Shs.app_len, List.take_add, List.drop_drop]
      simp only [List.map_cons, Rows.uptoBulkAll]
      exact this
   ·cases h
theorem rd_of_trod : ∀ (n : Nat) (t : TypeId) (s : Shs) (fuel : Nat) (cs : List Value) (x : DataW H × List MemPlace), shOf P n t = some s -> DataW.trod enc P w 0 (λ _ => true) true fuel t cs = some x -> s.Rd w cs (Rows.uptoBulk x.1)
 | 0, t, s, fuel, cs, x, h, _ => by cases h
 | n + 1, t, s, fuel, cs, x, h, hx => by
  unfold shOf at h
  split at h
  ·rename_i k hu
   cases h
   obtain ⟨i, rfl, rfl, hr⟩:=DataW.trod_int hu hx
   exact ⟨i, [], 0, rfl, hr, bulkT_one _, rfl⟩
  ·rename_i hu
   cases h
   obtain ⟨i, rfl, rfl⟩:=DataW.trod_bool hu hx
   exact ⟨i, [], 0, rfl, bulkT_one _, rfl⟩
  ·rename_i hu
   cases h
   obtain ⟨i, rfl, rfl, _⟩:=DataW.trod_string hu hx
   refine ⟨i, [], 0, rfl, ?_, rfl⟩
   simp only [Rows.uptoBulk, Array.length_toList, Nat.zero_add]
   exact Nat.le_refl _
  ·rename_i e hu
   cases h1 : shOf P n e with
   | none => simp [h1] at h
   | some a =>
    simp only [h1] at h
    split at h
    ·rename_i hc
     cases h
     obtain ⟨v, els, rfl, hs, hcase⟩:=open_sl hu hc.2 hc.1 hx
     rcases hcase with ⟨hn, rfl⟩ | ⟨Ds, spare, hd, hl, hel⟩
     ·refine ⟨v, [], [], [], 0, rfl, hs, rfl, λ i c k hi => by simp at hi, ?_, rfl⟩
      rw [hn]; simp [Rows.uptoBulk]
     ·refine ⟨v, els, [], Ds.map Rows.uptoBulk, 0, rfl, hs, by simpa using hl, λ i c k hi hk => ?_, ?_, rfl⟩
      ·rw [List.getElem?_map] at hk
       cases hd' : Ds[i]? with
       | none => simp [hd'] at hk
       | some d =>
        simp only [hd', Option.map_some, Option.some.injEq] at hk
        subst hk
        obtain ⟨m, ps, hm⟩:=hel i c d hi hd'
        exact ⟨bulkT_one d, rd_of_trod n e a m c (d, ps) h1 hm⟩
      ·rw [hd, bulkT_sum]; simp only [Rows.uptoBulk]; omega
    ·cases h
  ·rename_i fs hu
   cases h1 : shFields (shOf P n) fs.toList 0 with
   | none => simp [h1] at h
   | some a =>
    simp only [h1] at h
    split at h
    ·rename_i hc
     cases h
     obtain ⟨xs, m, _, rfl, hl, hxl, hf⟩:=DataW.trod_struct hu hx
     have:=rd_fields (sh:=shOf P n) (n:=m) (λ t s cs x h h' => rd_of_trod n t s m cs x h h') cs fs.toList 0 s xs h1 (by simpa using hxl) λ i f hi => hf i f (by simpa using hi)
     rw [List.drop_zero, List.take_of_length_le (by omega)] at this
     refine this.mono ?_
     simp only [Rows.uptoBulk]; omega
    ·cases h
  ·cases h
end
end Go.Proofs.YthlpfhjcdedhgaaGreatDoor
namespace Go.Proofs.YthlpfhjcdedhgaaGreatDoor
open Go.Lift
set_option linter.unusedSimpArgs false
set_option linter.unusedVariables false
noncomputable def gTy (g : Nat) : TypeId:=((Tryz.prog.globals[g]?).map (·.type)).getD 0
noncomputable def eTy (g : Nat) : TypeId:=match Tryz.prog.underlying (gTy g) with
 | some (.array _ e) => e
 | _ => 0
theorem bk_of_var {W : World} {name : String} {k : IntKind} {zs : List Int} {g : Nat} (hg : Tryz.prog.globalNamed name = some g) (h : Lib.TabIs Tryz.prog W name k zs) : bk W g = some (zs.map λ z => Value.int k z):=by
 unfold Lib.TabIs World.var? at h
 rw [hg] at h
 simp only [Option.bind_some] at h
 unfold bk
 cases hh : W.heap[g]? with
 | none => rw [hh] at h; cases h
 | some x =>
  rw [hh] at h
  cases x with
  | cells c t m =>
   simp only [Option.some.injEq] at h
   subst h
   simp
  | _ => cases h
theorem tab_step {W : World} {name : String} {k : IntKind} {zs : List Int} {rest : List (String × DataW Unit)} {g : Nat} {t e : TypeId} {n : Nat} {ps : List MemPlace}
  (hg : Tryz.prog.globalNamed name = some g) (hty : (Tryz.prog.globals[g]?).map (·.type) = some t) (ht : Tryz.prog.underlying t = some (.array n e)) (he : Tryz.prog.underlying e = some (.int k)) (hce : Tryz.prog.cellsOf e = 1) (hct : Tryz.prog.cellsOf t = n)
  (h : DataW.LaidVars Tryz.prog W ((name, Lib.tabData k zs) :: rest) ps) : bk W g = some (zs.map λ z => Value.int k z) /\ ∃ q, DataW.LaidVars Tryz.prog W rest q:=by
 obtain ⟨g', t', cs, fuel, p, q, hg', ht', hvar, hd, hr, _⟩:=h
 obtain rfl:=Option.some.inj (hg.symm.trans hg')
 obtain rfl:=Option.some.inj (hty.symm.trans ht')
 refine ⟨bk_of_var hg ?_, q, hr⟩
 unfold Lib.TabIs
 rw [hvar, <- Lib.cells_of_tab ht he hce hct hd]
def nibZ : List Int:=[0, 498536548, 997073096, 651767980, 1994146192, 1802195444, 1303535960, 1342533948, 3988292384, 4027552580, 3604390888, 3412177804, 2607071920, 2262029012, 2685067896, 3183342108]
def deb64 : List Int:=[0,1,56,2,57,49,28,3,61,58,42,50,38,29,17,4,62,47,59,36,45,43,51,22,53,39,33,30,24,18,12,5,63,55,48,27,60,41,37,16,46,35,44,21,52,32,23,11,54,26,40,15,34,20,31,10,25,14,19,9,13,8,7,6]
def deb32 : List Int:=[0,1,28,2,29,14,24,3,30,22,20,15,25,17,4,8,31,27,13,23,21,19,16,7,26,12,18,6,11,5,10,9]
theorem ml_of {W : World} (h : W.ShapedOpen Tryz.prog) : ∃ m : Int, bk W 3 = some [.int .i64 m]:=by
 obtain ⟨cs, hh, hs, _⟩:=h.1 3 #[.int .i64 0] 3 (of_decide_eq_true (by kernel_rfl)) (by kernel_rfl)
 obtain ⟨m, hm⟩:=cell_of_shapedOpen_int (P:=Tryz.prog) (g:=3) (t:=3) (zero:=#[.int .i64 0]) h (of_decide_eq_true (by kernel_rfl)) (by kernel_rfl) rfl (by kernel_rfl) (by kernel_rfl) (show Tryz.prog.underlying 3 = some (.int .i64) by kernel_rfl)
 refine ⟨m, ?_⟩
 unfold World.cell? at hm
 rw [hh] at hm
 simp at hm
 unfold bk
 rw [hh]
 have h1 : cs.size = 1:=hs
 obtain ⟨x, rfl⟩ : ∃ x, cs = #[x]:=by
  obtain ⟨l⟩:=cs
  match l, h1 with
  | [x], _ => exact ⟨x, rfl⟩
 simp at hm
 rw [hm]
theorem rd4 {w : World} {cs : Array Value} {n : Nat} (h : (Shs.int .i64 (.int .i64 (.int .i64 (.int .i64 .nil)))).Rd w cs.toList n) : ∃ m : Nt, .agg cs = m.v:=by
 obtain ⟨a, _, _, h1, _, _, b, _, _, h2, _, _, c, _, _, h3, _, _, d, _, _, h4, _, _, h5⟩:=h
 subst h5; subst h4; subst h3; subst h2
 refine ⟨⟨a, b, c, d⟩, ?_⟩
 cases cs
 simp at h1
 rw [h1]
 rfl
end Go.Proofs.YthlpfhjcdedhgaaGreatDoor
namespace Go.Proofs.YthlpfhjcdedhgaaGreatDoor
open Go.Lift
set_option linter.unusedSimpArgs false
set_option linter.unusedVariables false
set_option maxHeartbeats 4000000
theorem tb_ofM {W : World} (h : laidMetH Tryz.prog Rows.paperMetasUptoRow.laid W) (hsh : W.ShapedOpen Tryz.prog) : Tb W:=by
 have h' : laidMet Tryz.prog Rows.paperMetasUptoRow.laid W:=h
 obtain ⟨ps, hv, _⟩:=h'
 obtain ⟨b3, q3, v3⟩:=tab_step (k:=.u8) (zs:=deb32) (g:=9) (t:=gTy 9) (e:=eTy 9) (n:=32) (by kernel_rfl) (by kernel_rfl) (by kernel_rfl) (by kernel_rfl) (by kernel_rfl) (by kernel_rfl) hv
 obtain ⟨b4, q4, v4⟩:=tab_step (k:=.u8) (zs:=deb64) (g:=10) (t:=gTy 10) (e:=eTy 10) (n:=64) (by kernel_rfl) (by kernel_rfl) (by kernel_rfl) (by kernel_rfl) (by kernel_rfl) (by kernel_rfl) v3
 obtain ⟨b0, q0, v0⟩:=tab_step (k:=.u32) (zs:=nibZ) (g:=1) (t:=gTy 1) (e:=eTy 1) (n:=16) (by kernel_rfl) (by kernel_rfl) (by kernel_rfl) (by kernel_rfl) (by kernel_rfl) (by kernel_rfl) v4
 obtain ⟨b2, q2, v2⟩:=tab_step (k:=.u64) (zs:=Lib.pow10Tab) (g:=6) (t:=gTy 6) (e:=eTy 6) (n:=20) (by kernel_rfl) (by kernel_rfl) (by kernel_rfl) (by kernel_rfl) (by kernel_rfl) (by kernel_rfl) v0
 exact ⟨b0, ml_of hsh, b2, _, b4, rfl⟩
abbrev shMt : Shs:=.str (.int .i64 (.int .i64 (.int .i64 (.int .i64 (.int .i64 (.int .i64 (.int .i64 .nil)))))))
theorem rdMt {w : World} {cs : Array Value} {n : Nat} (h : shMt.Rd w cs.toList n) : ∃ m : Mt, .agg cs = m.v /\ m.st.length <= n:=by
 obtain ⟨s, _, _, h1, k1, a, _, _, h2, _, _, b, _, _, h3, _, _, c, _, _, h4, _, _, d, _, _, h5, _, _, e, _, _, h6, _, _, f, _, _, h7, _, _, g, _, _, h8, _, _, h9⟩:=h
 subst h9; subst h8; subst h7; subst h6; subst h5; subst h4; subst h3; subst h2
 refine ⟨⟨s.data.toList, a, b, c, d, e, f, g⟩, ?_, ?_⟩
 ·cases cs
  simp at h1
  rw [h1]
  rfl
 ·have : s.data.toList.length = s.size:=Array.length_toList
  show s.data.toList.length <= n
  omega
end Go.Proofs.YthlpfhjcdedhgaaGreatDoor
namespace Go.Proofs.YthlpfhjcdedhgaaGreatDoor
open Go.Lift
set_option linter.unusedSimpArgs false
set_option linter.unusedVariables false
theorem chn_of {ns : List Nt} {r : List UInt8} (hok : ∀ n ∈ ns, n.ok) (hr : ∀ n : Nt, n.ok -> ¬ noteL n <+: r) : Chn (allL ns ++ r) ns :=
 ⟨hok, List.prefix_append _ _, λ n hn => by rw [List.drop_left]; exact hr n hn⟩
end Go.Proofs.YthlpfhjcdedhgaaGreatDoor
namespace Go.Proofs.YthlpfhjcdedhgaaGreatDoor
open Go.Lift
set_option linter.unusedSimpArgs false
set_option linter.unusedVariables false
set_option maxHeartbeats 4000000
section
variable {w w1 w2 : World}
theorem lin_run {x a b : Int} : F.granarylaw4_in (.int .i64 x) (.int .i64 a) (.int .i64 b) w = some (.bool (decide (a <= x /\ x <= b)), w):=by
 have : Run (F.granarylaw4_in (.int .i64 x) (.int .i64 a) (.int .i64 b)) w λ r w' => r = .bool (decide (a <= x /\ x <= b)) /\ w' = w:=by
  unfold F.granarylaw4_in
  by_cases h1 : a <= x <;> by_cases h2 : x <= b <;> simp [h1, h2]
 obtain ⟨r, w', e, rfl, rfl⟩:=this
 exact e
theorem Run_lin {x a b : Int} {Q : Value -> World -> Prop} : Run (F.granarylaw4_in (.int .i64 x) (.int .i64 a) (.int .i64 b)) w Q ↔ Q (.bool (decide (a <= x /\ x <= b))) w:=by
 constructor
 ·rintro ⟨r, w', e, q⟩
  rw [lin_run] at e
  cases e
  exact q
 ·exact λ q => ⟨_, _, lin_run, q⟩
theorem goodNote_run (n : Nt) : Run (F.granarylaw4_goodNote n.v) w λ r w' => r = .bool (decide n.ok) /\ Fr (λ _ => False) w w':=by
 unfold F.granarylaw4_goodNote
 rw [Run_bind]
 refine Run_new λ x w1 hx hxw f1 hxle => ?_
 replace hx : bk w1 x = some n.row:=hx
 by_cases h1 : 1 <= n.k /\ n.k <= 4
 case neg =>
  have hn : ¬ n.ok:=λ h => h1 h.1
  simp [-ldA_ptr, hx, Nt.row, Run_lin, h1, hn, f1]
 by_cases h2 : 0 <= n.f /\ n.f <= 9007199254740992
 case neg =>
  have hn : ¬ n.ok:=λ h => h2 h.2.1
  simp [-ldA_ptr, hx, Nt.row, Run_lin, h1, h2, hn, f1]
 by_cases h3 : 0 <= n.u /\ n.u <= 9007199254740992
 case neg =>
  have hn : ¬ n.ok:=λ h => h3 h.2.2.1
  simp [-ldA_ptr, hx, Nt.row, Run_lin, h1, h2, h3, hn, f1]
 by_cases h4 : 0 <= n.c /\ n.c <= 4294967295
 case neg =>
  have hn : ¬ n.ok:=λ h => h4 ⟨h.2.2.2.1, by have:=h.2.2.2.2; omega⟩
  simp [-ldA_ptr, hx, Nt.row, Run_lin, h1, h2, h3, h4, hn, f1]
 have hn : n.ok:=⟨h1, h2, h3, h4.1, by omega⟩
 simp [-ldA_ptr, hx, Nt.row, Run_lin, h1, h2, h3, h4, hn, f1]
theorem printed_form {n : Nt} (h : n.pok = true) : pform (closeL (ptrL n)) n (crcF (sb (ptrL n))):=by
 have hp:=(pok_iff n).1 h
 refine ⟨_, _, _, _, eightL (crcF (sb (ptrL n))), n.k.toNat, n.f.toNat, n.u.toNat, n.c.toNat, ?_, dec_num (n:=n.k.toNat) (by omega), dec_num (n:=n.f.toNat) (by omega), dec_num (n:=n.u.toNat) (by omega), dec_num (n:=n.c.toNat) (by omega), eight_sum (crcF_lt _), ?_⟩
 ·unfold closeL
  generalize crcF (sb (ptrL n)) = q
  rw [ptr_parts]
 ·obtain ⟨k, f, u, c⟩:=n
  simp only at hp
  simp only [Nt.mk.injEq]
  omega
theorem close_take (l : List UInt8) : (closeL l).take ((closeL l).length - 13) = l:=by
 have h8 : (eightL (crcF (sb l))).length = 8:=lowD_len _ _
 have h4 : SUM.length = 4:=rfl
 have hl : (closeL l).length = l.length + 13:=by
  simp only [closeL, List.length_append, h8, h4, List.length_singleton]
 rw [hl, Nat.add_sub_cancel]
 unfold closeL
 rw [List.append_assoc, List.append_assoc, List.take_left]
theorem first_run (ht : Tb w) : Run F.granarylaw4_first w λ r w' => r = .bool true /\ Fr (λ _ => False) w w':=by
 unfold F.granarylaw4_first
 have hb : buildV #[(Value.int IntKind.i64 0), (Value.int IntKind.i64 0), (Value.int IntKind.i64 0), (Value.int IntKind.i64 0)] [(0, 1, (Value.int IntKind.i64 1)), (2, 1, (Value.int IntKind.i64 1)), (3, 1, (Value.int IntKind.i64 1))] = some (Nt.v ⟨1, 0, 1, 1⟩):=by kernel_rfl
 have hp : (⟨1, 0, 1, 1⟩ : Nt).pok = true:=by decide
 have y0 : ∀ v x, extV 0 (.tuple #[v, x]) = some v:=λ _ _ => rfl
 have y1 : ∀ v x, extV 1 (.tuple #[v, x]) = some x:=λ _ _ => rfl
 rw [hb, Run_bindO_some, Run_bind]
 refine (pprint_run ht _).mono ?_
 rintro _ w1 ⟨rfl, f1⟩
 have hl:=ptr_len hp
 have hlc : (closeL (ptrL ⟨1, 0, 1, 1⟩)).length <= 4294960000:=by
  have h8 : (eightL (crcF (sb (ptrL ⟨1, 0, 1, 1⟩)))).length = 8:=lowD_len _ _
  have h4 : SUM.length = 4:=rfl
  simp only [closeL, List.length_append, h8, h4, List.length_singleton]
  omega
 rw [ptrO, if_pos hp, y0, Run_bindO_some, y1, Run_bindO_some, Run_bind]
 refine (pparse_run (ht.fr0 f1) hlc).mono ?_
 rintro r w2 ⟨hr, f2⟩
 have e:=hr.yes _ _ (printed_form hp)
 rw [ansV, close_take, if_pos rfl, if_pos hp] at e
 subst e
 rw [y0, Run_bindO_some, y1, Run_bindO_some, Run_bind]
 refine Run_new λ x8 w3 hx8 hw8 f3 hle8 => ?_
 rw [Run_bind, Run_stM (by rfl) (by rfl) ⟨⟨_, hx8, by simp [Nt.v, Value.cells]⟩, hw8⟩]
 have b8:=bk_sto_same (o:=0) hx8 (Nt.v ⟨1, 0, 1, 1⟩).cells.toList
 have f34 : Fr (λ _ => False) w2 (sto w3 x8 0 (Nt.v ⟨1, 0, 1, 1⟩).cells.toList):=f3.sto (.inr hle8) _ _
 generalize sto w3 x8 0 (Nt.v ⟨1, 0, 1, 1⟩).cells.toList = w4 at *
 have l8 : ldA 4 (.pointer (some ⟨x8, 0, none⟩)) w4 = some (Nt.v ⟨1, 0, 1, 1⟩):=ldA_bk b8 (by first | exact Nat.le_refl _ | simp)
 simp only [F.granarylaw4_num, Run_bind, Run_ret, binV_int, intBin_eql, decide_true, Run_bindO_some, Run_guardM_tt, Run_optM_some, pickV_bool, cond_true, Run_rdM]
 refine ⟨_, l8, ?_⟩
 simp only [hb, Run_optM_some, eqRow, pickV_bool, cond_true, Run_bindO_some]
 exact ⟨trivial, (f1.trans f2 λ _ _ => id).trans f34 λ _ _ => id⟩
end
def lettersP (l : List UInt8) : Bool:=decide (1 <= l.length /\ l.length <= 40) && l.all λ c => decide (97 <= c.toNat /\ c.toNat <= 122)
theorem letters_store {l : List UInt8} (h : lettersP l = true) : storeP l = true:=by
 unfold lettersP at h
 simp only [Bool.and_eq_true, decide_eq_true_eq, List.all_eq_true] at h
 obtain ⟨⟨h1, h2⟩, h3⟩:=h
 cases l with
 | nil => simp at h1
 | cons c r =>
  rw [storeP_yes ⟨h2, h3 c (by simp)⟩, List.all_eq_true]
  intro x hx
  exact decide_eq_true ((stSet_iff x).2 (.inl (.inl (h3 x hx))))
section
variable {w w1 w2 : World}
theorem letters_run (l : List UInt8) (hl : l.length <= 4611686018427387904) : Run (F.granarylaw4_letters (.string (sb l))) w λ r w' => r = .bool (lettersP l) /\ w' = w:=by
 unfold F.granarylaw4_letters
 by_cases h1 : 1 <= l.length
 case neg =>
  have hs : lettersP l = false:=by unfold lettersP; rw [decide_eq_false λ h => h1 h.1, Bool.false_and]
  have h1' : ((l.length : Nat) : Int) < 1:=by omega
  rw [hs]
  simp only [lenS_string, sb_size, binV_int, intBin_lss, h1', decide_true, Run_bindO_some, Run_bind, Run_guardM_tf, pickV_bool, cond_true, Run_condM_true, Run_ret]
  exact ⟨trivial, trivial⟩
 have h1' : ¬ ((l.length : Nat) : Int) < 1:=by omega
 by_cases h40 : l.length <= 40
 case neg =>
  have hs : lettersP l = false:=by unfold lettersP; rw [decide_eq_false λ h => h40 h.2, Bool.false_and]
  have h2 : ((l.length : Nat) : Int) > 40:=by omega
  rw [hs]
  simp only [lenS_string, sb_size, binV_int, intBin_lss, h1', decide_false, Run_bindO_some, Run_bind, Run_guardM_ff, Run_ret, Run_optM_some, intBin_gtr, h2, decide_true, pickV_bool, cond_false, Run_condM_true]
  exact ⟨trivial, trivial⟩
 have h2 : ¬ ((l.length : Nat) : Int) > 40:=by omega
 have hs : lettersP l = l.all λ c => decide (97 <= c.toNat /\ c.toNat <= 122):=by unfold lettersP; rw [decide_eq_true ⟨h1, h40⟩, Bool.true_and]
 rw [hs]
 simp only [lenS_string, sb_size, binV_int, intBin_lss, h1', decide_false, Run_bindO_some, Run_bind, Run_guardM_ff, Run_ret, Run_optM_some, intBin_gtr, h2, pickV_bool, cond_false, Run_condM_false]
 obtain ⟨J, hJ, hgood, hend⟩:=far_ex (λ c : UInt8 => decide (97 <= c.toNat /\ c.toNat <= 122)) l
 have step : ∀ (i : Nat) (x : UInt8), l[i]? = some x -> ∀ {β : Type} {K : Value -> M β} {Q : β -> World -> Prop}, Run (K (.bool (!decide (97 <= x.toNat /\ x.toNat <= 122)))) w Q ->
   Run (bindO (idxS (.string (sb l)) (.int .i64 (i : Int))) λ x10 =>
    bindO (binV BinOp.lss x10 (Value.int IntKind.u8 97)) λ x11 =>
    M.bind (guardM x11 false (M.ret (.string (sb l)))) λ x12 =>
    M.bind (guardM x11 false (M.ret (.int .i64 (i : Int)))) λ x13 =>
    M.bind (guardM x11 false (optM (idxS x12 x13))) λ x14 =>
    M.bind (guardM x11 false (optM (binV BinOp.gtr x14 (Value.int IntKind.u8 122)))) λ x15 =>
    bindO (pickV x11 (Value.bool true) x15) K) w Q:=λ i x hx {β K Q} q => by
  rw [idxSb hx]
  by_cases a1 : 97 <= x.toNat
  ·have b1 : ¬ (x.toNat : Int) < 97:=by omega
   by_cases a2 : x.toNat <= 122
   ·have b2 : ¬ (x.toNat : Int) > 122:=by omega
    rw [decide_eq_true ⟨a1, a2⟩] at q
    simp only [Run_bindO_some, by8, binV_int, intBin_lss, b1, decide_false, Run_bind, Run_guardM_ff, Run_ret, idxSb hx, Run_optM_some, intBin_gtr, b2, pickV_bool, cond_false]
    exact q
   ·have b2 : (x.toNat : Int) > 122:=by omega
    rw [decide_eq_false λ h => a2 h.2] at q
    simp only [Run_bindO_some, by8, binV_int, intBin_lss, b1, decide_false, Run_bind, Run_guardM_ff, Run_ret, idxSb hx, Run_optM_some, intBin_gtr, b2, decide_true, pickV_bool, cond_false]
    exact q
  ·have b1 : (x.toNat : Int) < 97:=by omega
   rw [decide_eq_false λ h => a1 h.1] at q
   simp only [Run_bindO_some, by8, binV_int, intBin_lss, b1, decide_true, Run_bind, Run_guardM_tf, pickV_bool, cond_true]
   exact q
 refine Run_for J (λ i L w' => L = [.int .i64 (i : Int)] /\ w' = w) ⟨rfl, rfl⟩ ?_ ?_
 ·rintro i L w1 hi ⟨rfl, rfl⟩
  obtain ⟨x, hx⟩ : ∃ x, l[i]? = some x:=⟨_, List.getElem?_eq_getElem (by omega)⟩
  have hil : (i : Int) < l.length:=by omega
  rw [getL_zero, Run_bindO_some, lssT hil, Run_bindO_some, Run_condM_true]
  refine step i x hx ?_
  rw [hgood i x hi hx, Bool.not_true, Run_condM_false, binV_int, intBin_add, wrap_succ' (by omega), Run_bindO_some, Run_ret]
  exact ⟨rfl, rfl⟩
 ·rintro L w1 ⟨rfl, rfl⟩
  rcases hend with ⟨rfl, hall⟩ | ⟨x, hx, hp, hall⟩
  ·have hil : ¬ ((l.length : Nat) : Int) < l.length:=by omega
   rw [getL_zero, Run_bindO_some, lssF hil, Run_bindO_some, Run_condM_false, Run_ret, hall]
   simp only [outK_exit]
   rw [show Nat.beq 0 0 = true from rfl, cond_true, Run_ret]
   exact ⟨rfl, rfl⟩
  ·have hil : (J : Int) < l.length:=by have:=(List.getElem?_eq_some_iff.1 hx).1; omega
   rw [getL_zero, Run_bindO_some, lssT hil, Run_bindO_some, Run_condM_true]
   refine step J x hx ?_
   rw [hp, Bool.not_false, Run_condM_true, Run_ret, hall]
   simp only [outK_ret, Run_ret]
   exact ⟨trivial, trivial⟩
theorem goodMeta_run (m : Mt) (hl : m.st.length <= 4611686018427387904) : Run (F.granarylaw4_goodMeta m.v) w λ r w' => (∃ b, r = .bool b /\ (b = true -> m.mok = true)) /\ Fr (λ _ => False) w w':=by
 unfold F.granarylaw4_goodMeta
 rw [Run_bind]
 refine Run_new λ x w1 hx hxw f1 hxle => ?_
 replace hx : bk w1 x = some m.row:=hx
 have l0 : ld1 (.pointer (some ⟨x, 0 + 0, none⟩)) w1 = some (.string (sb m.st)):=by rw [ld1_ptr, hx]; rfl
 rw [fieldA_ptr, Run_bindO_some, Run_bind, Run_rdM]
 refine ⟨_, l0, ?_⟩
 rw [Run_bind]
 refine (letters_run m.st hl).mono ?_
 rintro _ w2 ⟨rfl, rfl⟩
 have hp:=mfok_iff m
 have hmok : m.mok = (storeP m.st && m.fok):=rfl
 cases hs : lettersP m.st with
 | false =>
  simp [f1]
 | true =>
  rw [hmok, letters_store hs, Bool.true_and]
  clear hmok l0
  by_cases h1 : 1 <= m.a /\ m.a <= 999999
  case neg => simp [-ldA_ptr, hx, Mt.row, Run_lin, h1, f1]
  by_cases h2 : 0 <= m.b /\ m.b <= 15
  case neg => simp [-ldA_ptr, hx, Mt.row, Run_lin, h1, h2, f1]
  by_cases h3 : 1 <= m.c /\ m.c <= 64
  case neg => simp [-ldA_ptr, hx, Mt.row, Run_lin, h1, h2, h3, f1]
  by_cases h4 : 1 <= m.d /\ m.d <= 16
  case neg => simp [-ldA_ptr, hx, Mt.row, Run_lin, h1, h2, h3, h4, f1]
  by_cases h5 : 1 <= m.e /\ m.e <= 16
  case neg => simp [-ldA_ptr, hx, Mt.row, Run_lin, h1, h2, h3, h4, h5, f1]
  by_cases h6 : 1 <= m.f /\ m.f <= 16
  case neg => simp [-ldA_ptr, hx, Mt.row, Run_lin, h1, h2, h3, h4, h5, h6, f1]
  by_cases h7 : 0 <= m.h /\ m.h <= 9007199254740992
  case neg => simp [-ldA_ptr, hx, Mt.row, Run_lin, h1, h2, h3, h4, h5, h6, h7, f1]
  have hn : m.fok = true:=hp.2 ⟨h1, h2, h3, h4, h5, h6, h7⟩
  simp [-ldA_ptr, hx, Mt.row, Run_lin, h1, h2, h3, h4, h5, h6, h7, hn, f1]
theorem goodPtr_run (n : Nt) : Run (F.granarylaw4_goodPointer n.v) w λ r w' => r = .bool n.pok /\ Fr (λ _ => False) w w':=by
 unfold F.granarylaw4_goodPointer
 rw [Run_bind]
 refine Run_new λ x w1 hx hxw f1 hxle => ?_
 replace hx : bk w1 x = some n.row:=hx
 have hp:=pok_iff n
 by_cases h1 : 0 <= n.k /\ n.k <= 999999
 case neg =>
  have hn : n.pok = false:=by by_cases h : n.pok = true; exact absurd (hp.1 h).1 h1; simpa using h
  simp [-ldA_ptr, hx, Nt.row, Run_lin, h1, hn, f1]
 by_cases h2 : 0 <= n.f /\ n.f <= 999999
 case neg =>
  have hn : n.pok = false:=by by_cases h : n.pok = true; exact absurd (hp.1 h).2.1 h2; simpa using h
  simp [-ldA_ptr, hx, Nt.row, Run_lin, h1, h2, hn, f1]
 by_cases h3 : 0 <= n.u /\ n.u <= 9007199254740992
 case neg =>
  have hn : n.pok = false:=by by_cases h : n.pok = true; exact absurd (hp.1 h).2.2.1 h3; simpa using h
  simp [-ldA_ptr, hx, Nt.row, Run_lin, h1, h2, h3, hn, f1]
 by_cases h4 : 0 <= n.c /\ n.c <= 9007199254740992
 case neg =>
  have hn : n.pok = false:=by by_cases h : n.pok = true; exact absurd (hp.1 h).2.2.2 h4; simpa using h
  simp [-ldA_ptr, hx, Nt.row, Run_lin, h1, h2, h3, h4, hn, f1]
 have hn : n.pok = true:=hp.2 ⟨h1, h2, h3, h4⟩
 simp [-ldA_ptr, hx, Nt.row, Run_lin, h1, h2, h3, h4, hn, f1]
end
theorem store_no {l : List UInt8} (h : storeP l = true) : l ≠ [] /\ (32 : UInt8) ∉ l /\ (10 : UInt8) ∉ l:=by
 obtain ⟨h1, _, h3⟩:=storeP_len h
 refine ⟨λ e => by subst e; simp at h1, λ hc => ?_, λ hc => ?_⟩
 ·exact absurd (h3 _ hc) (by decide)
 ·exact absurd (h3 _ hc) (by decide)
theorem mprinted_form {m : Mt} (h : m.mok = true) : MForm (closeL (metaL m)) m (crcF (sb (metaL m))) (Lib.decDigits m.a.toNat) (Lib.decDigits m.b.toNat) (Lib.decDigits m.c.toNat) (Lib.decDigits m.d.toNat) (Lib.decDigits m.e.toNat) (Lib.decDigits m.f.toNat) (Lib.decDigits m.h.toNat) (eightL (crcF (sb (metaL m)))):=by
 have h' : (storeP m.st && m.fok) = true:=h
 rw [Bool.and_eq_true] at h'
 obtain ⟨h1, h2, h3⟩:=store_no h'.1
 have hp:=(mfok_iff m).1 h'.2
 refine ⟨?_, h1, h2, h3, ⟨_, dec_num (by omega), by omega⟩, ⟨_, dec_num (by omega), by omega⟩, ⟨_, dec_num (by omega), by omega⟩, ⟨_, dec_num (by omega), by omega⟩, ⟨_, dec_num (by omega), by omega⟩, ⟨_, dec_num (by omega), by omega⟩, ⟨_, dec_num (by omega), by omega⟩, eight_sum (crcF_lt _)⟩
 unfold closeL
 generalize crcF (sb (metaL m)) = q
 rw [meta_parts]
 simp only [List.append_assoc]
theorem mansV_printed {m : Mt} (h : m.mok = true) : mansV (closeL (metaL m)) m (crcF (sb (metaL m))) = .tuple #[m.v, .int .i64 0]:=by
 rw [mansV, close_take, if_pos rfl, if_pos h]
theorem ansV_printed {n : Nt} (h : n.pok = true) : ansV (closeL (ptrL n)) n (crcF (sb (ptrL n))) = .tuple #[n.v, .int .i64 0]:=by
 rw [ansV, close_take, if_pos rfl, if_pos h]
theorem close_len (l : List UInt8) : (closeL l).length = l.length + 13:=by
 have h8 : (eightL (crcF (sb l))).length = 8:=lowD_len _ _
 have h4 : SUM.length = 4:=rfl
 simp only [closeL, List.length_append, h8, h4, List.length_singleton]
theorem neMt (n : Mt) : neV (EqSh.offs [(EqK.str, 0), (EqK.int, 1), (EqK.int, 2), (EqK.int, 3), (EqK.int, 4), (EqK.int, 5), (EqK.int, 6), (EqK.int, 7)]) (.agg n.row.toArray) (.agg n.row.toArray) = some (.bool false):=by
 simp [Mt.row, eqOffs, eqPrim]
section
variable {w w1 w2 : World}
theorem back_walk (ht : Tb w) (m : Mt) (hm : m.st.length <= 4294950000) (p n : Nt) : Run (F.granarylaw4_PaperBack m.v p.v n.v) w λ r w' => r = .bool true /\ Fr (λ _ => False) w w':=by
 unfold F.granarylaw4_PaperBack
 have y0 : ∀ v x, extV 0 (.tuple #[v, x]) = some v:=λ _ _ => rfl
 have y1 : ∀ v x, extV 1 (.tuple #[v, x]) = some x:=λ _ _ => rfl
 have n00 : (!decide ((0 : Int) = 0)) = false:=by decide
 rw [Run_bind]
 refine Run_new λ xm wa hxm hxmw fa hxmle => ?_
 rw [Run_bind]
 refine Run_new λ xp wb hxp hxpw fb hxple => ?_
 rw [Run_bind]
 refine Run_new λ xn wc hxn hxnw fc hxnle => ?_
 have f0:=(fa.trans fb λ _ _ => id).trans fc λ _ _ => id
 have bm : bk wc xm = some m.row:=fc.bk_some (fb.bk_some hxm id) id
 have bp : bk wc xp = some p.row:=fc.bk_some hxp id
 have bn : bk wc xn = some n.row:=hxn
 have lm : ∀ {u : World}, Fr (λ _ => False) wc u -> ldA 8 (.pointer (some ⟨xm, 0, none⟩)) u = some (.agg m.row.toArray):=λ f => ldA_bk (f.bk_some bm id) (Nat.le_refl _)
 have lp : ∀ {u : World}, Fr (λ _ => False) wc u -> ldA 4 (.pointer (some ⟨xp, 0, none⟩)) u = some p.v:=λ f => ldA_bk (f.bk_some bp id) (Nat.le_refl _)
 have ln : ∀ {u : World}, Fr (λ _ => False) wc u -> ldA 4 (.pointer (some ⟨xn, 0, none⟩)) u = some n.v:=λ f => ldA_bk (f.bk_some bn id) (Nat.le_refl _)
 have tc:=ht.fr0 f0
 clear hxm hxp hxn hxmw hxpw hxnw
 rw [Run_bind]
 refine Run.mono (Q:=λ o w' => o = .norm [] /\ Fr (λ _ => False) wc w') ?_ ?_
 ·rw [Run_bind, Run_rdM]
  refine ⟨_, lm (Fr.refl _ _), ?_⟩
  rw [Run_bind]
  refine (goodMeta_run m (by omega)).mono ?_
  rintro _ w1 ⟨⟨b, rfl, hb⟩, f1⟩
  cases b with
  | false => rw [Run_condM_false, Run_ret]; exact ⟨rfl, f1⟩
  | true =>
  have hok:=hb rfl
  rw [Run_condM_true, Run_bind, Run_rdM]
  refine ⟨_, lm f1, ?_⟩
  rw [Run_bind]
  refine (mprint_run (tc.fr0 f1) m (by omega)).mono ?_
  rintro _ w2 ⟨rfl, f2⟩
  have f12:=f1.trans f2 λ _ _ => id
  have hlen:=meta_len hok
  have hcl:=close_len (metaL m)
  rw [metaO, if_pos hok, y0, Run_bindO_some, y1, Run_bindO_some, Run_bind]
  refine (mparse_run (tc.fr0 f12) (by omega)).mono ?_
  rintro r w3 ⟨hr, f3⟩
  obtain rfl:=hr.yes m _ ⟨_, _, _, _, _, _, _, _, mprinted_form hok⟩
  have f13:=f12.trans f3 λ _ _ => id
  rw [mansV_printed hok, y0, Run_bindO_some, y1, Run_bindO_some, Run_bind]
  refine Run_new λ x8 w4 hx8 hw8 f4 hle8 => ?_
  have hv : m.v = .agg m.row.toArray:=rfl
  rw [hv, Run_bind, Run_stA (n:=8) ⟨⟨⟨_, hx8, by simp⟩, hw8⟩, rfl, mrow_cell m⟩]
  have b8:=bk_sto_same (o:=0) hx8 m.row
  have e8 : setL #[Value.string ByteArray.empty, Value.int IntKind.i64 0, Value.int IntKind.i64 0, Value.int IntKind.i64 0, Value.int IntKind.i64 0, Value.int IntKind.i64 0, Value.int IntKind.i64 0, Value.int IntKind.i64 0].toList 0 m.row = m.row:=rfl
  rw [e8] at b8
  rw [show m.row.toArray.toList = m.row from rfl]
  have f34 : Fr (λ _ => False) w3 (sto w4 x8 0 m.row):=f4.sto (.inr hle8) _ _
  generalize sto w4 x8 0 m.row = w5 at *
  have f15:=f13.trans f34 λ _ _ => id
  have l8 : ldA 8 (.pointer (some ⟨x8, 0, none⟩)) w5 = some (.agg m.row.toArray):=ldA_bk b8 (Nat.le_refl _)
  simp only [F.granarylaw4_num, Run_bind, Run_ret, binV_int, intBin_neq, n00, decide_true, Bool.not_true, Run_bindO_some, Run_guardM_ff, Run_optM_some, pickV_bool, cond_false, Run_rdM]
  refine ⟨_, l8, _, lm f15, ?_⟩
  rw [neMt, Run_optM_some]
  simp only [pickV_bool, cond_false, Run_bindO_some, Run_condM_false, Run_ret]
  exact ⟨trivial, f15⟩
 rintro _ wd ⟨rfl, fd⟩
 rw [outK_norm, Run_bind]
 refine Run.mono (Q:=λ o w' => o = .norm [] /\ Fr (λ _ => False) wc w') ?_ ?_
 ·rw [Run_bind, Run_rdM]
  refine ⟨_, lp fd, ?_⟩
  rw [Run_bind]
  refine (goodPtr_run p).mono ?_
  rintro _ w1 ⟨rfl, f1⟩
  have f1:=fd.trans f1 λ _ _ => id
  cases hok : p.pok with
  | false => rw [Run_condM_false, Run_ret]; exact ⟨rfl, f1⟩
  | true =>
  rw [Run_condM_true, Run_bind, Run_rdM]
  refine ⟨_, lp f1, ?_⟩
  rw [Run_bind]
  refine (pprint_run (tc.fr0 f1) p).mono ?_
  rintro _ w2 ⟨rfl, f2⟩
  have f12:=f1.trans f2 λ _ _ => id
  have hlen:=ptr_len hok
  have hcl:=close_len (ptrL p)
  rw [ptrO, if_pos hok, y0, Run_bindO_some, y1, Run_bindO_some, Run_bind]
  refine (pparse_run (tc.fr0 f12) (by omega)).mono ?_
  rintro r w3 ⟨hr, f3⟩
  obtain rfl:=hr.yes p _ (printed_form hok)
  have f13:=f12.trans f3 λ _ _ => id
  rw [ansV_printed hok, y0, Run_bindO_some, y1, Run_bindO_some, Run_bind]
  refine Run_new λ x8 w4 hx8 hw8 f4 hle8 => ?_
  rw [Run_bind, Run_stM (by rfl) (by rfl) ⟨⟨_, hx8, by simp [Nt.v, Value.cells]⟩, hw8⟩]
  have b8:=bk_sto_same (o:=0) hx8 p.v.cells.toList
  have f34 : Fr (λ _ => False) w3 (sto w4 x8 0 p.v.cells.toList):=f4.sto (.inr hle8) _ _
  generalize sto w4 x8 0 p.v.cells.toList = w5 at *
  have f15:=f13.trans f34 λ _ _ => id
  have l8 : ldA 4 (.pointer (some ⟨x8, 0, none⟩)) w5 = some p.v:=ldA_bk b8 (by first | exact Nat.le_refl _ | simp)
  simp only [F.granarylaw4_num, Run_bind, Run_ret, binV_int, intBin_neq, n00, decide_true, Bool.not_true, Run_bindO_some, Run_guardM_ff, Run_optM_some, pickV_bool, cond_false, Run_rdM]
  refine ⟨_, l8, _, lp f15, ?_⟩
  have hne:=neRow p
  have hv : p.v = .agg p.row.toArray:=rfl
  rw [hv, hne, Run_optM_some]
  simp only [pickV_bool, cond_false, Run_bindO_some, Run_condM_false, Run_ret]
  exact ⟨trivial, f15⟩
 rintro _ we ⟨rfl, fe⟩
 rw [outK_norm, Run_bind]
 refine Run.mono (Q:=λ o w' => o = .norm [] /\ Fr (λ _ => False) wc w') ?_ ?_
 ·rw [Run_bind, Run_rdM]
  refine ⟨_, ln fe, ?_⟩
  rw [Run_bind]
  refine (goodNote_run n).mono ?_
  rintro _ w1 ⟨rfl, f1⟩
  have f1:=fe.trans f1 λ _ _ => id
  by_cases hok : n.ok
  case neg => rw [decide_eq_false hok, Run_condM_false, Run_ret]; exact ⟨rfl, f1⟩
  rw [decide_eq_true hok, Run_condM_true, Run_bind, Run_rdM]
  refine ⟨_, ln f1, ?_⟩
  rw [Run_bind]
  refine (print_run (tc.fr0 f1) n).mono ?_
  rintro _ w2 ⟨rfl, f2⟩
  have f12:=f1.trans f2 λ _ _ => id
  have no : noteO n = .tuple #[.string (sb (noteL n)), .int .i64 0]:=by unfold noteO; rw [if_pos hok]; rfl
  have hch : Chn (noteL n) [n]:=by
   have:=chn_of (ns:=[n]) (r:=[]) (λ x hx => by rw [List.mem_singleton] at hx; subst hx; exact hok) λ x hx hp => by
    have h1:=hp.length_le
    have h2:=note_len x
    rw [List.length_nil] at h1
    omega
   have e : allL [n] ++ [] = noteL n:=by simp [allL]
   rwa [e] at this
  have hal : (allL [n]).length = (noteL n).length:=by simp [allL]
  have h1:=pre_len n hok
  have h2 : (eightL (crcF ⟨(preL n).toArray⟩)).length = 8:=lowD_len _ _
  have hnl : (noteL n).length <= 200:=by
   simp only [noteL, List.length_append, h2, List.length_singleton]
   omega
  rw [no, y0, Run_bindO_some, y1, Run_bindO_some, Run_bind]
  refine (parse_run (tc.fr0 f12) (by omega) hch).mono ?_
  rintro _ w3 ⟨v, rfl, h3⟩
  rw [hal, y0, Run_bindO_some, y1, Run_bindO_some, Run_drewM]
  have f13:=(f12.trans h3.fr λ _ _ => id).drew
  have h3d : SlW 4 w3.drew v ([n].map Nt.row):=h3.sl.fr (show Fr (λ _ => False) w3 w3.drew from (Fr.refl _ _).drew) λ _ _ => id
  generalize w3.drew = w4 at *
  have hlv:=h3d.1.lenL
  obtain ⟨q, q1, q2⟩:=h3d.1.rdA (by decide) (i:=0) (e:=n.row) (by simp) .i64
  have q1' : idxA 4 v (.int .i64 0) = some q:=q1
  have hne0 : ∀ x : Int, (!decide (x = x)) = false:=λ x => by simp
  have e1 : (!decide (((([n].map Nt.row).length : Nat) : Int) = 1)) = false:=by simp
  simp only [F.granarylaw4_num, Run_bind, Run_ret, binV_int, intBin_neq, n00, decide_true, Bool.not_true, Run_bindO_some, Run_guardM_ff, Run_optM_some, lenS_string, sb_size, hne0, pickV_bool, cond_false, hlv, e1, q1', Run_rdM]
  refine ⟨_, q2, _, ln f13, ?_⟩
  have hne:=neRow n
  have hv : n.v = .agg n.row.toArray:=rfl
  rw [hv, hne, Run_optM_some]
  simp only [pickV_bool, cond_false, Run_bindO_some, Run_condM_false, Run_ret]
  exact ⟨trivial, f13⟩
 rintro _ wf ⟨rfl, ff⟩
 rw [outK_norm, Run_bind]
 refine (first_run (tc.fr0 ff)).mono ?_
 rintro _ wg ⟨rfl, fg⟩
 rw [Run_ret]
 exact ⟨rfl, (f0.trans ff λ _ _ => id).trans fg λ _ _ => id⟩
end
theorem paperBack_top {W : World} {cs : Array Value} {n : Nat} (hv : (Shs.str (.int .i64 (.int .i64 (.int .i64 (.int .i64 (.int .i64 (.int .i64 (.int .i64 .nil)))))))).Rd W cs.toList n) {cs1 : Array Value} {n1 : Nat} (hv1 : (Shs.int .i64 (.int .i64 (.int .i64 (.int .i64 .nil)))).Rd W cs1.toList n1) {cs2 : Array Value} {n2 : Nat} (hv2 : (Shs.int .i64 (.int .i64 (.int .i64 (.int .i64 .nil)))).Rd W cs2.toList n2)
  (hk : n + n1 + n2 <= 1048576) (hL : laidMetH Tryz.prog Rows.paperBackUptoRow.laid W) (hsh : W.ShapedOpen Tryz.prog) :
  Run (F.granarylaw4_PaperBack (.agg cs) (.agg cs1) (.agg cs2)) W λ r w' => r = .bool true /\ Fr (λ _ => False) W w':=by
 obtain ⟨m, hm, hml⟩:=rdMt hv
 obtain ⟨a, ha⟩:=rd4 hv1
 obtain ⟨b, hb⟩:=rd4 hv2
 rw [hm, ha, hb]
 exact back_walk (tb_ofM hL hsh) m (by omega) a b
end Go.Proofs.YthlpfhjcdedhgaaGreatDoor
