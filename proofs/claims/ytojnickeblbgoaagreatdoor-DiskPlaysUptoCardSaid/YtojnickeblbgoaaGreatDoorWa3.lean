/- What the statement rests on: part 4. -/
import Derived.Test.YtojnickeblbgoaaGreatDoorWa2
import Derived.Lib.MakeNoZero
import Derived.Lib.UnsafeStr
import Derived.Lib.IndexLaws
import Derived.Lib.IndexBytes
import Derived.ChangeArms
import Derived.Test.YtojnickeblbgoaaGreatDoorRows
import Derived.Shelf.Vars
import Derived.WalkKit
import Derived.ProofKit
import Derived.LaidLaws
import Derived.Lib.SplitLaws
namespace Go.Proofs.YtojnickeblbgoaaGreatDoor
open Go.Lift
set_option linter.unusedSimpArgs false
set_option linter.unusedVariables false
set_option maxHeartbeats 4000000
abbrev PtrB (b : Nat) : Value:=.pointer (some ⟨b, 0, none⟩)
theorem ba_ext0 {a b : ByteArray} (h : a.data.toList = b.data.toList) : a = b:=by
 rcases a with ⟨⟨a⟩⟩
 rcases b with ⟨⟨b⟩⟩
 simp at h
 subst h
 rfl
structure Bld (w : World) (x g cap : Nat) (l : List UInt8) : Prop where
 hb : bk w x = some [PtrB x, .slice (some ⟨g, 0, none⟩) l.length cap]
 hw : wr w x = true
 ne : x ≠ g
 le : l.length <= cap
 buf : ∃ cs : Array Value, w.heap[g]? = some (.cells cs 5 (0, 0)) /\ cs.size = cap /\ cs.toList.take l.length = l.map λ b => Value.int .u8 b.toNat
section
variable {w w' : World} {x g cap : Nat} {l : List UInt8}
theorem bldSliceT : Tryz.prog.underlying 125 = some (.slice 5):=by kernel_rfl
theorem bldPtrT : Tryz.prog.underlying 157 = some (.pointer 5):=by kernel_rfl
theorem u8C : Tryz.prog.cellsOf 5 = 1:=by kernel_rfl
theorem cell0 {v : Value} {r : List Value} (h : bk w x = some (v :: r)) : w.cell? ⟨x, 0, none⟩ = some v:=by
 unfold bk at h
 unfold World.cell?
 split at h
 ·rename_i c t fz hh
  simp only [Option.some.injEq] at h
  rw [hh]
  simp
  rw [<- Array.getElem?_toList, h]
  rfl
 ·cases h
theorem bldUsed_run {v : Value} (h : bk w x = some [PtrB x, v]) {Q : Value -> World -> Prop} (q : Q (.tuple #[]) w) : Run (F.strings_Builder_copyCheck (PtrB x)) w Q:=by
 refine ⟨_, _, ?_, q⟩
 unfold F.strings_Builder_copyCheck
 simp only [cell0 h, if_true]
theorem bldFirst_run {Q : Value -> World -> Prop} (q : ∀ w', bk w' w.heap.size = some [PtrB w.heap.size, .slice none 0 0] -> wr w' w.heap.size = true -> w'.heap.size = w.heap.size + 1 -> Fr (λ _ => False) w w' -> Q (.tuple #[]) w') :
  Run (F.strings_Builder_copyCheck (PtrB w.heap.size)) (w.alloc (.cells #[.pointer none, .slice none 0 0] 127)) Q:=by
 have hh : (w.alloc (.cells #[.pointer none, .slice none 0 0] 127)).heap[w.heap.size]? = some (.cells #[.pointer none, .slice none 0 0] 127 (0, 0)):=by
  show (w.heap.push _)[w.heap.size]? = _
  simp
 have h0:=cell0 (bk_alloc_at (w:=w) rfl #[.pointer none, .slice none 0 0] 127)
 have h1 : (w.alloc (.cells #[.pointer none, .slice none 0 0] 127)).shape? w.heap.size = some (127, 2):=by
  unfold World.shape?
  rw [hh]
  rfl
 have h2 : (w.alloc (.cells #[.pointer none, .slice none 0 0] 127)).frozen? ⟨w.heap.size, 0, none⟩ = false:=by
  unfold World.frozen?
  rw [hh]
  rfl
 refine ⟨_, _, ?_, q ((w.alloc (.cells #[.pointer none, .slice none 0 0] 127)).setCell ⟨w.heap.size, 0, none⟩ (PtrB w.heap.size)) ?_ ?_ ?_ ?_⟩
 ·unfold F.strings_Builder_copyCheck
  simp only [h0, h1, h2, and_self, if_true]
 ·unfold bk World.setCell
  simp only [Array.getElem?_modify, hh, if_true]
  rfl
 ·unfold wr World.setCell
  simp only [Array.getElem?_modify, hh, if_true]
  rfl
 ·unfold World.setCell
  simp only [Array.size_modify]
  show (w.heap.push _).size = _
  simp
 ·refine ⟨rfl, rfl, rfl, ?_, λ b hb _ => ?_⟩
  ·unfold World.setCell
   simp only [Array.size_modify]
   show _ <= (w.heap.push _).size
   simp
  ·unfold World.setCell
   simp only [Array.getElem?_modify]
   rw [if_neg (by omega)]
   show (w.heap.push _)[b]? = _
   rw [Array.getElem?_push]
   rw [if_neg (by omega)]
theorem Bld.fr {F : Nat -> Prop} (h : Bld w x g cap l) (f : Fr F w w') (hx : ¬ F x) (hg : ¬ F g) : Bld w' x g cap l:=by
 obtain ⟨cs, h1, h2, h3⟩:=h.buf
 exact ⟨f.bk_some h.hb hx, by rw [f.wr (bk_lt h.hb) hx]; exact h.hw, h.ne, h.le, cs, by rw [f.block g (Array.getElem?_eq_some_iff.1 h1).1 hg]; exact h1, h2, h3⟩
theorem bldGrow_run {n : Nat} (h1 : 1 <= n) (hn : n <= 281474976710656) {β : Type} {K : Value -> M β} {Q : β -> World -> Prop} (q : ∀ x g cap w', Bld w' x g cap [] -> n <= cap -> w.heap.size <= x -> w.heap.size <= g -> Fr (λ _ => False) w w' -> Run (K (PtrB x)) w' Q) :
  Run (M.bind (newM 127 #[.pointer none, .slice none 0 0]) λ x49 => M.bind (F.strings_Builder_Grow x49 (.int .i64 n)) λ _ => K x49) w Q:=by
 simp only [Run_bind, Run_newM]
 unfold F.strings_Builder_Grow
 simp only [Run_bind]
 refine bldFirst_run λ w2 hb hw hs f => ?_
 generalize hx : w.heap.size = x at *
 have hneg : ¬ ((n : Nat) : Int) < 0:=by omega
 have hlt : 0 < n:=by omega
 have wz : IntKind.i64.wrap 0 = 0:=by decide
 have wn' : IntKind.i64.wrap ((n : Int)) = n:=by simp [IntKind.wrap, IntKind.bits, IntKind.signed]; omega
 simp [hneg, hb, capV, hlt, wz]
 unfold F.strings_Builder_grow
 simp [hb, capV, wz, wn']
 obtain ⟨cs, hr, hle, _⟩:=Lib.run_makeNoZero (P:=Tryz.prog) (w:=w2.drew.drew) #[3] 125 5 bldSliceT n hn
 have hg : (w2.drew.drew).heap.size = x + 1:=hs
 rw [hg] at hr
 have hrun : Run (F.bytealg_MakeNoZero (.int .i64 n)) w2.drew.drew λ r w3 => r = .slice (some ⟨x + 1, 0, none⟩) n cs.size /\ w3 = (w2.drew.drew).drew.drew.alloc (.cells cs 5):=by
  have e : F.bytealg_MakeNoZero (.int .i64 n) w2.drew.drew = some (.slice (some ⟨x + 1, 0, none⟩) n cs.size, (w2.drew.drew).drew.drew.alloc (.cells cs 5)):=by
   unfold F.bytealg_MakeNoZero
   simp only [hr]
  exact ⟨_, _, e, rfl, rfl⟩
 refine hrun.mono ?_
 rintro _ w3 ⟨rfl, rfl⟩
 have hh : ((w2.drew.drew).drew.drew.alloc (.cells cs 5)).heap[x + 1]? = some (.cells cs 5 (0, 0)):=by
  show (w2.heap.push _)[x + 1]? = _
  rw [<- hs]
  simp
 have f3 : Fr (λ _ => False) w2 ((w2.drew.drew).drew.drew.alloc (.cells cs 5)):=(Fr.refl (λ _ => False) w2).drew.drew.drew.drew.alloc _
 generalize (w2.drew.drew).drew.drew.alloc (.cells cs 5) = w3 at *
 have hb3:=f3.bk_some hb id
 have hw3 : wr w3 x = true:=by rw [f3.wr (bk_lt hb) id]; exact hw
 have hsl : sliceV 1 (.slice (some ⟨x + 1, 0, none⟩) n cs.size) none (some (.int .i64 0)) = some (.slice (some ⟨x + 1, 0, none⟩) 0 cs.size):=by
  have hc : cs.size ≠ 0:=by omega
  simp [sliceV, highV, lowV, boundV, hc]
  rfl
 simp [hb3, hsl, hb]
 have hc : Run (cpyM 1 (.slice (some ⟨x + 1, 0, none⟩) 0 cs.size) (.slice none 0 0)) w3 λ r w4 => w4 = w3:=by
  refine ⟨.int .i64 0, w3, ?_, rfl⟩
  unfold cpyM
  simp [lenN, firstN, stN]
  try rfl
 refine hc.mono ?_
 rintro r w4 rfl
 simp [hb3, hw3]
 have fs : Fr (λ c => c = x) w4 (sto w4 x 1 [.slice (some ⟨x + 1, 0, none⟩) 0 cs.size]):=(Fr.refl (λ c => c = x) w4).sto (.inl rfl) _ _
 refine q x (x + 1) cs.size _ ⟨?_, by simpa using hw3, by omega, by simp, cs, ?_, rfl, by simp⟩ hle (by omega) (by omega) ?_
 ·rw [bk_sto_eq, hb3]; rfl
 ·rw [fs.block (x + 1) (Array.getElem?_eq_some_iff.1 hh).1 (by omega)]; exact hh
 ·exact (f.trans f3 λ _ _ => id).new fs λ c hc => by omega
theorem byteV_all (l : List UInt8) : (l.map λ b => Value.int .u8 (b.toNat : Int)).all isCell = true:=by simp [List.all_eq_true]
theorem bldWrite_run (h : Bld w x g cap l) (s : ByteArray) (hroom : l.length + s.size <= cap) : Run (F.strings_Builder_WriteString (PtrB x) (.string s)) w λ _ w' => Bld w' x g cap (l ++ s.data.toList) /\ Fr (λ c => c = x ∨ c = g) w w':=by
 unfold F.strings_Builder_WriteString
 simp only [Run_bind]
 have hb:=h.hb
 refine bldUsed_run hb ?_
 obtain ⟨cs, c1, c2, c3⟩:=h.buf
 have hne:=h.ne
 simp [hb]
 have happ : Run (appM 5 1 1 #[.int .u8 0] (.slice (some ⟨g, 0, none⟩) l.length cap) (.string s)) w λ r w1 => r = .slice (some ⟨g, 0, none⟩) (l ++ s.data.toList).length cap /\ bk w1 x = bk w x /\ wr w1 x = wr w x /\ Fr (λ c => c = g) w w1 /\
   ∃ cs' : Array Value, w1.heap[g]? = some (.cells cs' 5 (0, 0)) /\ cs'.size = cap /\ cs'.toList.take (l ++ s.data.toList).length = (l ++ s.data.toList).map λ b => Value.int .u8 b.toNat:=by
  have hlen : (l ++ s.data.toList).length = l.length + s.size:=by rw [List.length_append]; rfl
  have hext : s.extract 0 s.size = s:=by apply ba_ext0; simp
  have hnew : firstN w 1 s.size (.string s) = some (s.data.toList.map λ b => Value.int .u8 b.toNat):=by
   simp only [firstN, hext]
   simp
  have hcl : cs.toList.length = cap:=(Array.length_toList (xs:=cs)).trans c2
  have hsl : s.data.toList.length = s.size:=rfl
  by_cases he : s.data.toList = []
  ·refine ⟨_, w, ?_, rfl, rfl, rfl, Fr.refl _ _, cs, c1, c2, by rw [he, List.append_nil]; exact c3⟩
   unfold appM
   simp only [lenN]
   rw [if_pos hroom, hnew]
   have h0 : s.size = 0:=by
    have : s.data.toList.length = s.size:=rfl
    rw [he] at this
    exact this.symm
   simp [he, stN, h0]
  ·have hbg : bk w g = some cs.toList:=by unfold bk; rw [c1]
   have hwg : wr w g = true:=by unfold wr; rw [c1]; simp
   have hst : stN (Addr.add ⟨g, 0, none⟩ (l.length * 1)) (s.data.toList.map λ b => Value.int .u8 b.toNat) w = some (sto w g l.length (s.data.toList.map λ b => Value.int .u8 b.toNat)):=by
    simp only [Addr.add_lit, stN, Nat.zero_add, Nat.mul_one]
    rw [if_neg (by simpa using he)]
    simp only [hbg]
    have hc : l.length + (s.data.toList.map λ b => Value.int .u8 (b.toNat : Int)).length <= cs.toList.length:=by rw [List.length_map]; omega
    rw [if_pos ⟨⟨hc, byteV_all _⟩, hwg⟩]
   refine ⟨_, sto w g l.length (s.data.toList.map λ b => Value.int .u8 b.toNat), ?_, rfl, bk_sto_ne hne _ _, wr_sto _ _ _ _ _, (Fr.refl (λ c => c = g) w).sto (.inl rfl) _ _, (setL cs.toList l.length (s.data.toList.map λ b => Value.int .u8 b.toNat)).toArray, ?_, ?_, ?_⟩
   ·unfold appM
    simp only [lenN]
    rw [if_pos hroom, hnew]
    simp only [hst, hlen]
   ·simp only [sto, Array.getElem?_modify, c1, if_true]
    rfl
   ·rw [List.size_toArray, length_setL, Array.length_toList, c2]
   ·have:=drop_take_setL (l:=cs.toList) (o:=0) (p:=l.length) (n:=l.length) (vs:=s.data.toList.map λ b => Value.int .u8 b.toNat) (by rw [List.length_map]; omega) (by omega)
    simp only [List.drop_zero, List.length_map] at this
    rw [List.toList_toArray, List.length_append, this, c3, List.map_append]
 refine happ.mono ?_
 rintro _ w1 ⟨rfl, e1, e2, f1, hbuf⟩
 rw [hb] at e1
 have hw1 : wr w1 x = true:=by rw [e2]; exact h.hw
 simp [e1, hw1]
 have fs : Fr (λ c => c = x) w1 (sto w1 x 1 [.slice (some ⟨g, 0, none⟩) (l.length + s.size) cap]):=(Fr.refl (λ c => c = x) w1).sto (.inl rfl) _ _
 obtain ⟨cs', d1, d2, d3⟩:=hbuf
 have hlen : (l ++ s.data.toList).length = l.length + s.size:=by rw [List.length_append]; rfl
 refine ⟨⟨?_, by simpa using hw1, hne, by rw [hlen]; exact hroom, cs', by rw [fs.block g (Array.getElem?_eq_some_iff.1 d1).1 (Ne.symm hne)]; exact d1, d2, d3⟩, (f1.mono λ c hc => Or.inr hc).trans fs λ c _ hc => .inl hc⟩
 rw [bk_sto_eq, e1, hlen]
 rfl
theorem bldString_run (h : Bld w x g cap l) (h0 : l ≠ []) (h63 : l.length <= 281474976710656) : Run (F.strings_Builder_String (PtrB x)) w λ r w' => r = .string ⟨l.toArray⟩ /\ Fr (λ c => c = x ∨ c = g) w w':=by
 unfold F.strings_Builder_String
 have hb:=h.hb
 obtain ⟨cs, c1, c2, c3⟩:=h.buf
 have hne:=h.ne
 have hle:=h.le
 have hl0 : l.length ≠ 0:=by simpa using h0
 have hcap : cap ≠ 0:=by omega
 simp [hb, sdV, hcap]
 have hsh : w.drew.shape? g = some (5, cap):=by
  unfold World.shape?
  have : w.drew.heap[g]? = some (.cells cs 5 (0, 0)):=c1
  rw [this]
  simp [c2]
 have hcell : ∀ j y, l[j]? = some y -> w.drew.cell? ((⟨g, 0, none⟩ : Addr).add j) = some (.int .u8 y.toNat):=by
  intro j y hy
  have hj:=(List.getElem?_eq_some_iff.1 hy).1
  have h1 : (cs.toList.take l.length)[j]? = some (.int .u8 y.toNat):=by rw [c3, List.getElem?_map, hy]; rfl
  rw [List.getElem?_take_of_lt hj] at h1
  have h2 : cs[j]? = some (.int .u8 y.toNat):=by rw [<- Array.getElem?_toList]; exact h1
  have h3 : w.drew.heap[g]? = some (.cells cs 5 (0, 0)):=c1
  unfold World.cell?
  simp only [Addr.add_lit, h3, Nat.zero_add]
  exact h2
 have hr:=Lib.run_unsafeString_row (P:=Tryz.prog) (w:=w.drew) 157 3 0 5 bldPtrT u8C g cap hsh l h0 hle (by omega) hcell
 have hrun : Run (usM Tryz.prog [157, 3] (.pointer (some ⟨g, 0, none⟩)) (.int .i64 l.length)) w.drew λ r w1 => r = .string ⟨l.toArray⟩ /\ w1 = w.drew.freeze ⟨g, 0, none⟩ l.length:=by
  have e : usM Tryz.prog [157, 3] (.pointer (some ⟨g, 0, none⟩)) (.int .i64 l.length) w.drew = some (.string ⟨l.toArray⟩, w.drew.freeze ⟨g, 0, none⟩ l.length):=by
   unfold usM
   simp only [hr]
  exact ⟨_, _, e, rfl, rfl⟩
 refine hrun.mono ?_
 rintro _ w1 ⟨rfl, rfl⟩
 simp [hb]
 unfold World.freeze
 rw [if_neg hl0]
 refine ⟨rfl, rfl, rfl, by simp, λ b hb hf => ?_⟩
 simp only [Array.getElem?_modify]
 rw [if_neg (by omega)]
 rfl
end
def joinL (xs : List ByteArray) (sep : ByteArray) : List UInt8:=match xs with
 | [] => []
 | x :: r => x.data.toList ++ (r.map λ y => sep.data.toList ++ y.data.toList).flatten
theorem wrap_succ' {n : Nat} (h : n + 1 < 9223372036854775808) : IntKind.i64.wrap ((n : Int) + 1) = ((n + 1 : Nat) : Int):=by simp [IntKind.wrap, IntKind.bits, IntKind.signed]; omega
theorem quo_big {k : Nat} (h1 : 1 <= k) (h2 : k <= 16777216) : ∃ q, intBin .quo .i64 9223372036854775807 (k : Int) = some (.int .i64 q) /\ 1048576 <= q:=by
 have hk : ¬ (k : Int) = 0:=by omega
 have hd : (9223372036854775807 : Int).tdiv k = ((9223372036854775807 / k : Nat) : Int):=by
  rw [show (9223372036854775807 : Int) = ((9223372036854775807 : Nat) : Int) from rfl, Int.ofNat_tdiv]
 have hb : 9223372036854775807 / 16777216 <= 9223372036854775807 / k:=Nat.div_le_div_left h2 h1
 have hb2 : 9223372036854775807 / k <= 9223372036854775807:=Nat.div_le_self _ _
 refine ⟨((9223372036854775807 / k : Nat) : Int), ?_, by omega⟩
 simp only [intBin]
 rw [if_neg hk, hd]
 congr 2
 generalize 9223372036854775807 / k = z at *
 simp [IntKind.wrap, IntKind.bits, IntKind.signed]; omega
theorem bldSum_all : ∀ {l : List ByteArray}, (∀ x ∈ l, x.size <= 4294967296) -> (l.map (·.size)).sum <= l.length * 4294967296
 | [], _ => by simp
 | y :: l, h => by
  have:=bldSum_all (l:=l) λ x hx => h x (by simp [hx])
  have:=h y (by simp)
  simp only [List.map_cons, List.sum_cons, List.length_cons]; omega
def accL (x0 sep : ByteArray) (l : List ByteArray) : List UInt8:=x0.data.toList ++ (l.map λ y => sep.data.toList ++ y.data.toList).flatten
theorem acc_snoc (x0 sep : ByteArray) (l : List ByteArray) (y : ByteArray) : accL x0 sep (l ++ [y]) = accL x0 sep l ++ (sep.data.toList ++ y.data.toList):=by simp [accL]
theorem acc_full (x0 sep : ByteArray) : ∀ l : List ByteArray, (accL x0 sep l).length = x0.size + l.length * sep.size + (l.map (·.size)).sum
 | [] => by simp [accL]
 | y :: l => by
  have ih:=acc_full x0 sep l
  have hss : sep.data.toList.length = sep.size:=rfl
  have hys : y.data.toList.length = y.size:=rfl
  simp only [accL, List.length_append, List.map_cons, List.flatten_cons, List.sum_cons, List.length_cons, hss, hys, Nat.add_mul] at ih ⊢
  omega
theorem sum_take_le : ∀ (l : List ByteArray) (i : Nat), ((l.take i).map (·.size)).sum <= (l.map (·.size)).sum
 | [], _ => by simp
 | y :: l, 0 => by simp
 | y :: l, i + 1 => by have:=sum_take_le l i; simp only [List.take_succ_cons, List.map_cons, List.sum_cons]; omega
theorem acc_len (x0 sep : ByteArray) {l : List ByteArray} {i : Nat} : (accL x0 sep (l.take i)).length <= x0.size + l.length * sep.size + (l.map (·.size)).sum:=by
 rw [acc_full]
 have h1:=sum_take_le l i
 have h2 : (l.take i).length * sep.size <= l.length * sep.size:=Nat.mul_le_mul_right _ (List.length_take_le' i l)
 omega
theorem join2_run {w : World} {v : Value} {xs : List ByteArray} {sep : ByteArray} (hv : Sl 1 w v (xs.map λ x => [.string x])) (h1 : 1 <= sep.size) (h2 : sep.size <= 1024) (hx : (xs.map (·.size)).sum <= 140737488355328) (hl : xs.length <= 16777216) :
  Run (F.strings_Join v (.string sep)) w λ r w' => r = .string ⟨(joinL xs sep).toArray⟩ /\ Fr (λ _ => False) w w':=by
 unfold F.strings_Join
 have hlen:=hv.lenL
 rw [List.length_map] at hlen
 match xs, hv, hx, hl, hlen with
 | [], hv, hx, hl, hlen =>
  simp at hlen
  simp [hlen, joinL]
  exact Fr.refl _ _
 | [x], hv, hx, hl, hlen =>
  simp at hlen
  obtain ⟨q, q1, q2⟩:=hv.rd1 (i:=0) (y:=.string x) rfl .i64
  have q1' : idxA 1 v (.int .i64 0) = some q:=q1
  simp [hlen, q1', q2, joinL]
  exact Fr.refl _ _
 | x0 :: x1 :: r, hv, hx, hl, hlen =>
  obtain ⟨m, hm⟩ : ∃ m : Nat, (x0 :: x1 :: r).length = m + 2:=⟨r.length, rfl⟩
  generalize hxs : x0 :: x1 :: r = xs at *
  rw [hm] at hlen
  have e0 : ¬ ((m + 2 : Nat) : Int) = 0:=by omega
  have e1 : ¬ ((m + 2 : Nat) : Int) = 1:=by omega
  have e2 : IntKind.i64.wrap (((m + 2 : Nat) : Int) - 1) = ((m + 1 : Nat) : Int):=by simp [IntKind.wrap, IntKind.bits, IntKind.signed]; omega
  have hpos : (0 : Int) < sep.size:=by omega
  obtain ⟨qq, hq, hqg⟩:=quo_big (k:=m + 1) (by omega) (by omega)
  have hge : ¬ (sep.size : Int) >= qq:=by omega
  have hmul : sep.size * (m + 1) <= 1024 * 16777216:=Nat.mul_le_mul h2 (by omega)
  have e3 : IntKind.i64.wrap ((sep.size : Int) * ((m + 1 : Nat) : Int)) = ((sep.size * (m + 1) : Nat) : Int):=by
   rw [<- Int.natCast_mul]
   generalize sep.size * (m + 1) = z at *
   simp [IntKind.wrap, IntKind.bits, IntKind.signed]; omega
  have e4 : IntKind.i64.wrap (0 + ((sep.size * (m + 1) : Nat) : Int)) = ((sep.size * (m + 1) : Nat) : Int):=by
   generalize sep.size * (m + 1) = z at *
   simp [IntKind.wrap, IntKind.bits, IntKind.signed]; omega
  simp only [hlen, Run_bindO_some, binV_int, intBin_eql, e0, e1, decide_false, Run_condM_false, Run_bind, lenS, intBin_gtr, hpos, decide_true, Run_condM_true, intBin_sub, e2, hq, intBin_geq, hge, Run_ret, outK_norm, intBin_mul, e3, intBin_add, e4, getL_zero]
  obtain ⟨base, hbase⟩ : ∃ base, base = sep.size * (m + 1):=⟨_, rfl⟩
  rw [<- hbase] at hmul ⊢
  have hsum : ∀ i, ((xs.take i).map (·.size)).sum <= 140737488355328:=λ i => Nat.le_trans (sum_take_le xs i) hx
  refine Run_for xs.length (λ i l w' => l = [.int .i64 ((base + ((xs.take i).map (·.size)).sum : Nat) : Int), .int .i64 i] /\ w' = w) ⟨by simp, rfl⟩ ?_ ?_
  ·intro i l w' hi hI
   obtain ⟨hl1, hl2⟩:=hI
   subst hl1
   subst hl2
   have ei : xs[i]? = some xs[i]:=List.getElem?_eq_getElem hi
   have et : xs.take (i + 1) = xs.take i ++ [xs[i]]:=by rw [List.take_add_one, ei]; rfl
   have hxi : xs[i].size <= 140737488355328:=by have:=hsum (i + 1); rw [et, List.map_append, List.sum_append, List.map_singleton, List.sum_singleton] at this; omega
   rw [et]
   generalize xs[i] = y at ei hxi
   have hs:=hsum i
   obtain ⟨p, p1, p2⟩:=hv.rd1 (i:=i) (y:=.string y) (by simp [ei]) .i64
   have hi' : (i : Int) < ((m + 2 : Nat) : Int):=by omega
   have wi:=wrap_succ' (n:=i) (by omega)
   rw [List.map_append, List.sum_append, List.map_singleton, List.sum_singleton]
   generalize ((xs.take i).map (·.size)).sum = S at *
   have w1 : IntKind.i64.wrap (9223372036854775807 - ((base + S : Nat) : Int)) = 9223372036854775807 - ((base + S : Nat) : Int):=by simp [IntKind.wrap, IntKind.bits, IntKind.signed]; omega
   have w2 : IntKind.i64.wrap (((base + S : Nat) : Int) + (y.size : Int)) = ((base + (S + y.size) : Nat) : Int):=by simp [IntKind.wrap, IntKind.bits, IntKind.signed]; omega
   have hng : ¬ (y.size : Int) > 9223372036854775807 - ((base + S : Nat) : Int):=by omega
   simp only [getL_zero, getL_succ, binV_int, intBin_lss, hi', decide_true, Run_bindO_some, Run_condM_true, Run_bind, p1, Run_rdM, p2, Option.some.injEq, exists_eq_left', intBin_sub, w1, intBin_gtr, hng, decide_false, Run_condM_false, Run_ret, outK_norm, intBin_add, w2, wi]
   exact ⟨trivial, trivial⟩
  ·rintro l w' ⟨rfl, rfl⟩
   rw [List.take_length]
   have hs:=hsum xs.length
   rw [List.take_length] at hs
   have hni : ¬ (xs.length : Int) < ((m + 2 : Nat) : Int):=by omega
   simp only [getL_zero, getL_succ, binV_int, intBin_lss, hni, decide_false, Run_bindO_some, Run_condM_false, Run_ret, outK_exit]
   obtain ⟨N, hN⟩ : ∃ N, N = base + (xs.map (·.size)).sum:=⟨_, rfl⟩
   rw [<- hN]
   have hb1 : 1 <= base:=by
    rw [hbase]
    exact Nat.mul_le_mul h1 (show 1 <= m + 1 by omega)
   simp only [show Nat.beq 1 1 = true from rfl, cond_true]
   have hm1 : xs.length - 1 = m + 1:=by omega
   have hx0 : xs[0]? = some x0:=by rw [<- hxs]; rfl
   have hN1 : 1 <= N:=by omega
   have hN2 : N <= 281474976710656:=by omega
   refine bldGrow_run hN1 hN2 λ x g cap w1 hB hle hxw hgw f1 => ?_
   obtain ⟨p, p1, p2⟩:=(hv.fr0 f1).rd1 (i:=0) (y:=.string x0) (by simp [hx0]) .i64
   have p1' : idxA 1 v (.int .i64 0) = some p:=p1
   simp only [p1', Run_bindO_some, Run_bind, Run_rdM, p2, Option.some.injEq, exists_eq_left']
   have hS : (xs.map (·.size)).sum = x0.size + ((x1 :: r).map (·.size)).sum:=by rw [<- hxs]; simp
   have hrl : (x1 :: r).length = m + 1:=by rw [<- hxs] at hm; simpa using hm
   have hb0 : base = (m + 1) * sep.size:=by rw [hbase]; exact Nat.mul_comm _ _
   have hacc:=λ i => acc_len x0 sep (l:=x1 :: r) (i:=i)
   rw [hrl] at hacc
   have hd : xs.drop 1 = x1 :: r:=by rw [<- hxs]; rfl
   refine (bldWrite_run hB x0 (by simp only [List.length_nil]; omega)).mono ?_
   rintro _ w2 ⟨hB2, f2⟩
   have f2' : Fr (λ _ => False) w' w2:=f1.new f2 λ c hc => by omega
   obtain ⟨u, u1, u2, _⟩:=(hv.fr0 f2').drop (n:=1) (by rw [List.length_map]; omega) .i64
   have u1' : sliceV 1 v (some (.int .i64 1)) none = some u:=u1
   have u2' : Sl 1 w2 u ((x1 :: r).map λ x => [.string x]):=by
    rw [<- List.map_drop, hd] at u2
    exact u2
   have ul:=u2'.lenL
   rw [List.length_map, hrl] at ul
   simp only [u1', ul, Run_bindO_some, Run_bind]
   have z1:=f1.size
   have z2:=f2.size
   refine Run_for (m + 1) (λ i l w3 => l = [.int .i64 i] /\ Bld w3 x g cap (accL x0 sep ((x1 :: r).take i)) /\ Fr (λ c => c = x ∨ c = g) w2 w3) ⟨rfl, by simpa [accL] using hB2, Fr.refl _ _⟩ ?_ ?_
   ·rintro i l w3 hi ⟨rfl, hB3, f3⟩
    have hil : i < (x1 :: r).length:=by omega
    have ei : (x1 :: r)[i]? = some (x1 :: r)[i]:=List.getElem?_eq_getElem hil
    have et : (x1 :: r).take (i + 1) = (x1 :: r).take i ++ [(x1 :: r)[i]]:=by rw [List.take_add_one, ei]; rfl
    have hai:=hacc (i + 1)
    rw [et] at hai ⊢
    generalize (x1 :: r)[i] = y at *
    have f23 : Fr (λ _ => False) w' w3:=f2'.new f3 λ c hc => by omega
    obtain ⟨u', e1, e2, _⟩:=(hv.fr0 f23).drop (n:=1) (by rw [List.length_map]; omega) .i64
    have huu : u' = u:=Option.some.inj (e1.symm.trans u1)
    subst huu
    rw [<- List.map_drop, hd] at e2
    obtain ⟨p, p1, p2⟩:=e2.rd1 (i:=i) (y:=.string y) (by rw [List.getElem?_map, ei]; rfl) .i64
    have hi' : (i : Int) < ((m + 1 : Nat) : Int):=by omega
    have wi:=wrap_succ' (n:=i) (by omega)
    rw [acc_snoc] at hai ⊢
    rw [List.length_append, List.length_append] at hai
    have hss : sep.data.toList.length = sep.size:=rfl
    have hys : y.data.toList.length = y.size:=rfl
    simp only [getL_zero, getL_succ, binV_int, intBin_lss, hi', decide_true, Run_bindO_some, Run_condM_true, Run_bind, p1, Run_rdM, p2, Option.some.injEq, exists_eq_left']
    refine (bldWrite_run hB3 sep (by omega)).mono ?_
    rintro _ w4 ⟨hB4, f4⟩
    refine (bldWrite_run hB4 y (by rw [List.length_append]; omega)).mono ?_
    rintro _ w5 ⟨hB5, f5⟩
    simp only [intBin_add, wi, Run_bindO_some, Run_ret]
    refine ⟨trivial, ?_, (f3.trans f4 λ _ _ h => h).trans f5 λ _ _ h => h⟩
    rw [<- List.append_assoc]
    exact hB5
   ·rintro l w3 ⟨rfl, hB3, f3⟩
    have hni : ¬ ((m + 1 : Nat) : Int) < ((m + 1 : Nat) : Int):=by omega
    rw [List.take_of_length_le (by omega)] at hB3
    have f23 : Fr (λ _ => False) w' w3:=f2'.new f3 λ c hc => by omega
    simp only [getL_zero, getL_succ, binV_int, intBin_lss, hni, decide_false, Run_bindO_some, Run_condM_false, Run_ret, outK_exit, show Nat.beq 3 3 = true from rfl, cond_true, Run_bind]
    have hfull:=acc_full x0 sep (x1 :: r)
    rw [hrl] at hfull
    have hne : accL x0 sep (x1 :: r) ≠ []:=λ he => by
     rw [he, List.length_nil] at hfull
     omega
    refine (bldString_run hB3 hne (by omega)).mono ?_
    rintro _ w4 ⟨rfl, f4⟩
    refine ⟨?_, f23.new f4 λ c hc => by omega⟩
    rw [<- hxs]
    rfl
theorem join_run {w : World} {v : Value} {xs : List ByteArray} {sep : ByteArray} (hv : Sl 1 w v (xs.map λ x => [.string x])) (h1 : 1 <= sep.size) (h2 : sep.size <= 1024) (hx : ∀ x ∈ xs, x.size <= 4294967296) (hl : xs.length <= 4096) :
  Run (F.strings_Join v (.string sep)) w λ r w' => r = .string ⟨(joinL xs sep).toArray⟩ /\ Fr (λ _ => False) w w' :=
 join2_run hv h1 h2 (by have:=bldSum_all hx; omega) (by omega)
end Go.Proofs.YtojnickeblbgoaaGreatDoor
namespace Go.Proofs.YtojnickeblbgoaaGreatDoor
open Go.Lift
set_option linter.unusedSimpArgs false
set_option maxHeartbeats 4000000
section
variable {w w' w'' : World} {b : Nat} {d d' : Dk} {v : DV} {tag : Nat -> Nat}
def newD (cap : Int) : Dk:=⟨cap, 0, 0, false, 0, false, [⟨1, e0, e0⟩], λ _ => none, λ _ => none, []⟩
end
end Go.Proofs.YtojnickeblbgoaaGreatDoor
namespace Go.Proofs.YtojnickeblbgoaaGreatDoor
open Go.Lift
set_option linter.unusedSimpArgs false
set_option linter.unusedVariables false
set_option maxHeartbeats 8000000
structure Reached (d d' : Dk) : Prop where
 same : d'.cap = d.cap /\ d'.acts = d.acts /\ d'.reads = d.reads
 off : d'.armed = false /\ d'.down = false /\ d'.pending = []
 eq : ∀ k, d'.kept k = d'.seen k
 sub : ∀ s k, d'.seen s = some k -> d.kept s = some k
 root : ∀ n k, d.kept (0, n) = some k -> d'.seen (0, n) = some k
 closed : ∀ s x, d'.seen s = some x -> (d.nd x).kind = 1 -> ∀ n k, d.kept (x, n) = some k -> d'.seen (x, n) = some k
 len : d'.nodes.length = d.nodes.length
 each : ∀ (i : Nat) nd, d.nodes[i]? = some nd -> d'.nodes[i]? = some nd ∨ d'.nodes[i]? = some { nd with seen:=nd.kept }
 got : ∀ s k, d'.seen s = some k -> ∀ nd, d.nodes[k.toNat]? = some nd -> d'.nodes[k.toNat]? = some { nd with seen:=nd.kept }
 up : ∀ s k, d'.seen s = some k -> s.1 = 0 ∨ ∃ t, d'.seen t = some s.1
structure Tree (d : Dk) : Prop where
 rng : ∀ s k, d.kept s = some k -> 1 <= k /\ k < d.nodes.length
 inj : ∀ s t k, d.kept s = some k -> d.kept t = some k -> s = t
structure Book (d : Dk) (lk : List (Slt × Int)) (V R : List Int) (L : List (Slt × Int)) : Prop where
 mem : ∀ p, p ∈ L ↔ p ∈ lk /\ p.1.1 ∈ V
 nod : (V ++ R).Nodup
 org : ∀ x ∈ V ++ R, x = 0 ∨ ∃ s, (s, x) ∈ L
 all : ∀ p ∈ L, (d.nd p.2).kind = 1 -> p.2 ∈ V ++ R
 zero : (0 : Int) ∈ V ++ R
structure Book2 (d : Dk) (lk : List (Slt × Int)) (V : List Int) (cur : Int) (R : List Int) (js : List Nat) (L : List (Slt × Int)) : Prop where
 mem : ∀ p, p ∈ L ↔ (p ∈ lk /\ p.1.1 ∈ V) ∨ (p.1.1 = cur /\ ∃ j ∈ js, lk[j]? = some p)
 nod : (V ++ cur :: R).Nodup
 org : ∀ x ∈ V ++ cur :: R, x = 0 ∨ ∃ s, (s, x) ∈ L
 all : ∀ p ∈ L, (d.nd p.2).kind = 1 -> p.2 ∈ V ++ cur :: R
 zero : (0 : Int) ∈ V ++ cur :: R
theorem key_one {l : List (Slt × Int)} (hn : (l.map (·.1)).Nodup) {p q : Slt × Int} (hp : p ∈ l) (hq : q ∈ l) (h : p.1 = q.1) : p = q:=by
 have h1:=getK_of_mem hn (show (p.1, p.2) ∈ l from hp)
 have h2:=getK_of_mem hn (show (q.1, q.2) ∈ l from hq)
 rw [h, h2] at h1
 injection h1 with h1
 exact Prod.ext h h1.symm
theorem at_one {l : List (Slt × Int)} (hn : (l.map (·.1)).Nodup) {i j : Nat} {p : Slt × Int} (hi : l[i]? = some p) (hj : l[j]? = some p) : i = j:=by
 obtain ⟨b1, c1⟩:=List.getElem?_eq_some_iff.1 (show (l.map (·.1))[i]? = some p.1 by rw [List.getElem?_map, hi]; rfl)
 obtain ⟨b2, c2⟩:=List.getElem?_eq_some_iff.1 (show (l.map (·.1))[j]? = some p.1 by rw [List.getElem?_map, hj]; rfl)
 have h:=List.pairwise_iff_getElem.1 hn
 rcases Nat.lt_trichotomy i j with h1 | h1 | h1
 ·exact absurd (c1.trans c2.symm) (h i j b1 b2 h1)
 ·exact h1
 ·exact absurd (c2.trans c1.symm) (h j i b2 b1 h1)
section
variable {d : Dk} {lk L : List (Slt × Int)} {V R : List Int} {cur : Int} {js : List Nat}
theorem Book.start (h : Book d lk V (cur :: R) L) : Book2 d lk V cur R [] L:=⟨λ p => by rw [h.mem]; simp, h.nod, h.org, h.all, h.zero⟩
theorem Book2.over (h : Book2 d lk V cur R js L) (hj : js.Perm (List.range lk.length)) : Book d lk (V ++ [cur]) R L:=by
 have e : V ++ [cur] ++ R = V ++ cur :: R:=by simp
 refine ⟨λ p => ?_, by rw [e]; exact h.nod, by rw [e]; exact h.org, by rw [e]; exact h.all, by rw [e]; exact h.zero⟩
 rw [h.mem]
 constructor
 ·rintro (⟨h1, h2⟩ | ⟨h1, j, hj', h2⟩)
  ·exact ⟨h1, List.mem_append_left _ h2⟩
  ·exact ⟨List.mem_of_getElem? h2, by simp [h1]⟩
 ·rintro ⟨h1, h2⟩
  rcases List.mem_append.1 h2 with h2 | h2
  ·exact .inl ⟨h1, h2⟩
  ·obtain ⟨j, hj'⟩:=List.getElem?_of_mem h1
   exact .inr ⟨by simpa using h2, j, hj.mem_iff.2 (List.mem_range.2 (List.getElem?_eq_some_iff.1 hj').1), hj'⟩
theorem Book2.skip (h : Book2 d lk V cur R js L) {j : Nat} {p : Slt × Int} (hp : lk[j]? = some p) (hne : p.1.1 ≠ cur) : Book2 d lk V cur R (js ++ [j]) L:=by
 refine ⟨λ q => ?_, h.nod, h.org, h.all, h.zero⟩
 rw [h.mem]
 constructor
 ·rintro (h1 | ⟨h1, i, hi, h2⟩)
  ·exact .inl h1
  ·exact .inr ⟨h1, i, by simp [hi], h2⟩
 ·rintro (h1 | ⟨h1, i, hi, h2⟩)
  ·exact .inl h1
  ·rcases List.mem_append.1 hi with hi | hi
   ·exact .inr ⟨h1, i, hi, h2⟩
   ·obtain rfl:=List.mem_singleton.1 hi
    rw [hp] at h2; cases h2
    exact absurd h1 hne
theorem Book2.fresh (h : Book2 d lk V cur R js L) (hn : (lk.map (·.1)).Nodup) {j : Nat} {p : Slt × Int} (hp : lk[j]? = some p) (hj : j ∉ js) (he : p.1.1 = cur) : getK p.1 L = none:=by
 rw [getK_none]
 intro q hq heq
 have hpl:=List.mem_of_getElem? hp
 have hcV : cur ∉ V:=λ hc => by
  have:=List.nodup_append.1 h.nod
  exact this.2.2 cur hc cur (by simp) rfl
 rcases (h.mem q).1 hq with ⟨h1, h2⟩ | ⟨h1, i, hi, h2⟩
 ·rw [<- heq, he] at h2
  exact hcV h2
 ·have:=key_one hn hpl (List.mem_of_getElem? h2) heq
  rw [<- this] at h2
  exact hj (at_one hn hp h2 ▸ hi)
theorem Book2.take (h : Book2 d lk V cur R js L) (hn : (lk.map (·.1)).Nodup) (ht : Tree d) (hE : Eqm lk d.kept) {j : Nat} {p : Slt × Int} (hp : lk[j]? = some p) (hj : j ∉ js) (he : p.1.1 = cur) :
  ((d.nd p.2).kind = 1 -> Book2 d lk V cur (R ++ [p.2]) (js ++ [j]) (L ++ [p])) /\ (¬ (d.nd p.2).kind = 1 -> Book2 d lk V cur R (js ++ [j]) (L ++ [p])):=by
 have hmem : ∀ q, q ∈ L ++ [p] ↔ (q ∈ lk /\ q.1.1 ∈ V) ∨ (q.1.1 = cur /\ ∃ i ∈ js ++ [j], lk[i]? = some q):=by
  intro q
  rw [List.mem_append, h.mem]
  constructor
  ·rintro ((h1 | ⟨h1, i, hi, h2⟩) | h1)
   ·exact .inl h1
   ·exact .inr ⟨h1, i, by simp [hi], h2⟩
   ·obtain rfl:=List.mem_singleton.1 h1
    exact .inr ⟨he, j, by simp, hp⟩
  ·rintro (h1 | ⟨h1, i, hi, h2⟩)
   ·exact .inl (.inl h1)
   ·rcases List.mem_append.1 hi with hi | hi
    ·exact .inl (.inr ⟨h1, i, hi, h2⟩)
    ·obtain rfl:=List.mem_singleton.1 hi
     rw [hp] at h2; cases h2
     exact .inr (by simp)
 have hpl:=List.mem_of_getElem? hp
 have hkp : d.kept p.1 = some p.2:=by rw [<- hE p.1]; exact getK_of_mem hn hpl
 have hfr:=h.fresh hn hp hj he
 rw [getK_none] at hfr
 have hnew : p.2 ∉ V ++ cur :: R:=λ hx => by
  rcases h.org p.2 hx with h0 | ⟨s, hs⟩
  ·have:=(ht.rng _ _ hkp).1; omega
  ·have hsl : (s, p.2) ∈ lk:=by
    rcases (h.mem _).1 hs with h1 | ⟨_, i, _, h2⟩
    ·exact h1.1
    ·exact List.mem_of_getElem? h2
   have hks : d.kept s = some p.2:=by rw [<- hE s]; exact getK_of_mem hn hsl
   exact hfr _ hs (ht.inj _ _ _ hkp hks)
 refine ⟨λ hk => ⟨hmem, ?_, λ x hx => ?_, λ q hq hqk => ?_, ?_⟩, λ hk => ⟨hmem, h.nod, λ x hx => ?_, λ q hq hqk => ?_, h.zero⟩⟩
 ·have e : V ++ cur :: (R ++ [p.2]) = (V ++ cur :: R) ++ [p.2]:=by simp
  rw [e]
  exact List.nodup_append.2 ⟨h.nod, by simp, λ a ha b hb hab => by
   obtain rfl:=List.mem_singleton.1 hb
   exact hnew (hab ▸ ha)⟩
 ·have e : V ++ cur :: (R ++ [p.2]) = (V ++ cur :: R) ++ [p.2]:=by simp
  rw [e] at hx
  rcases List.mem_append.1 hx with hx | hx
  ·exact (h.org x hx).imp id λ ⟨s, hs⟩ => ⟨s, List.mem_append_left _ hs⟩
  ·obtain rfl:=List.mem_singleton.1 hx
   exact .inr ⟨p.1, by simp⟩
 ·have e : V ++ cur :: (R ++ [p.2]) = (V ++ cur :: R) ++ [p.2]:=by simp
  rw [e]
  rcases List.mem_append.1 hq with hq | hq
  ·exact List.mem_append_left _ (h.all q hq hqk)
  ·obtain rfl:=List.mem_singleton.1 hq
   simp
 ·have e : V ++ cur :: (R ++ [p.2]) = (V ++ cur :: R) ++ [p.2]:=by simp
  rw [e]
  exact List.mem_append_left _ h.zero
 ·exact (h.org x hx).imp id λ ⟨s, hs⟩ => ⟨s, List.mem_append_left _ hs⟩
 ·rcases List.mem_append.1 hq with hq | hq
  ·exact h.all q hq hqk
  ·obtain rfl:=List.mem_singleton.1 hq
   exact absurd hqk hk
theorem len_bound {xs : List Int} (hx : xs.Nodup) (ho : ∀ x ∈ xs, x = 0 ∨ ∃ s, (s, x) ∈ L) (hL : ∀ p ∈ L, p ∈ lk) : xs.length <= lk.length + 1:=by
 have key : ∀ (xs ys : List Int), xs.Nodup -> (∀ x ∈ xs, x ∈ ys) -> xs.length <= ys.length:=by
  intro xs
  induction xs with
  | nil => intro ys _ _; simp
  | cons x xs ih =>
   intro ys hx hs
   simp only [List.nodup_cons] at hx
   have hxy:=hs x (by simp)
   have:=ih (ys.erase x) hx.2 λ y hy => by
    have hne : y ≠ x:=λ he => hx.1 (by rw [<- he]; exact hy)
    exact (List.mem_erase_of_ne hne).2 (hs y (by simp [hy]))
   rw [List.length_erase_of_mem hxy] at this
   have:=List.length_pos_of_mem hxy
   simp only [List.length_cons]; omega
 have:=key xs (0 :: lk.map (·.2)) hx λ x hx => by
  rcases ho x hx with h0 | ⟨s, hs⟩
  ·simp [h0]
  ·exact List.mem_cons_of_mem _ (List.mem_map.2 ⟨_, hL _ hs, rfl⟩)
 simpa using this
theorem Book.bound (h : Book d lk V R L) : (V ++ R).length <= lk.length + 1:=len_bound h.nod h.org λ p hp => ((h.mem p).1 hp).1
theorem Book2.bound (h : Book2 d lk V cur R js L) : (V ++ cur :: R).length <= lk.length + 1:=len_bound h.nod h.org λ p hp => by
 rcases (h.mem p).1 hp with h1 | ⟨_, i, _, h2⟩
 ·exact h1.1
 ·exact List.mem_of_getElem? h2
theorem Book.first : Book d lk [] [0] []:=⟨λ p => by simp, by simp, λ x hx => .inl (by simpa using hx), λ p hp => by simp at hp, by simp⟩
end
section
variable {w w' w'' : World} {b : Nat} {d d' : Dk} {v : DV} {tag : Nat -> Nat}
def dkR (d : Dk) (N : List Nd) (L : List (Slt × Int)) : Dk:={ d with armed:=false, down:=false, pending:=[], nodes:=N, seen:=λ k => getK k L, kept:=λ k => getK k L }
def dvR (v : DV) (m1 m2 : Nat) (L : List (Slt × Int)) : DV:=⟨v.nv, .slice none 0 0, m1, m2, L, L⟩
theorem dkR_cells (d : Dk) (N : List Nd) (L : List (Slt × Int)) (v : DV) (m1 m2 : Nat) : (dkR d N L).cells (dvR v m1 m2 L) = [.int .i64 d.cap, .int .i64 d.acts, .int .i64 d.reads, .bool false, .int .i64 d.left, .bool false, v.nv, .map (some m1), .map (some m2), .slice none 0 0]:=rfl
theorem it_lt {r b : Nat} {l : List (Slt × Int)} {js : List Nat} {w : World} (h : ItAt slv idv w r b l js) : r < w.heap.size:=by
 obtain ⟨_, _, _, es, c, _, h2, _⟩:=h
 exact (Array.getElem?_eq_some_iff.1 h2).1
structure RSt (w : World) (b : Nat) (d : Dk) (v : DV) (tag tag0 : Nat -> Nat) (m1 m2 : Nat) (w' : World) (rv : Value) (R : List Int) (N : List Nd) (L : List (Slt × Int)) : Prop where
 q : SlW 1 w' rv (R.map λ x => [.int .i64 x])
 qn : ∀ c, inB rv c -> w.heap.size <= c /\ c < w'.heap.size /\ tag0 c = 0
 ren : Renewed d N L
 da : DA w' b (dkR d N L) (dvR v m1 m2 L) tag0
 fr : Fr (λ c => c = b ∨ tag c = 4 ∨ w.heap.size <= c) w w'
theorem RSt.fr' {tag0 : Nat -> Nat} {m1 m2 : Nat} {rv : Value} {R : List Int} {N : List Nd} {L : List (Slt × Int)} {w1 w2 : World} {F : Nat -> Prop} (h : RSt w b d v tag tag0 m1 m2 w1 rv R N L) (f : Fr F w1 w2) (h0 : 0 < w.heap.size) (hF : ∀ c, F c -> tag0 c = 0 /\ w.heap.size <= c /\ ¬ inB rv c) : RSt w b d v tag tag0 m1 m2 w2 rv R N L:=by
 have s:=f.size
 refine ⟨h.q.fr f λ c hc hf => (hF c hf).2.2 hc, λ c hc => ?_, h.ren, h.da.fr f λ c hc => ⟨(hF c hc).1, by have:=(hF c hc).2.1; omega⟩, h.fr.trans f λ c _ hf => .inr (.inr (hF c hf).2.1)⟩
 have:=h.qn c hc
 exact ⟨this.1, by omega, this.2.2⟩
theorem restart2_run (h : DA w b d v tag) (ht : Tree d) (hlk : v.lk.length <= 16777216) : Run (F.d_restart (Ptr b)) w λ _ w' => ∃ d', Reached d d' /\ DDid w w' b tag d':=by
 unfold F.d_restart
 have hb:=h.blk
 have hw:=h.wr
 have hbl:=bk_lt hb
 simp [-ldA_ptr, hb, hw, Dk.cells]
 obtain ⟨w1, hw1⟩ : ∃ w1, w1 = sto (sto (sto w b 9 [.slice none 0 0]) b 3 [.bool false]) b 5 [.bool false]:=⟨_, rfl⟩
 rw [<- hw1]
 have hb1 : bk w1 b = some [.int .i64 d.cap, .int .i64 d.acts, .int .i64 d.reads, .bool false, .int .i64 d.left, .bool false, v.nv, .map (some v.bs), .map (some v.bk), .slice none 0 0]:=by
  rw [hw1]; simp [hb, Dk.cells]
 have hwr1 : wr w1 b = true:=by rw [hw1]; simpa using hw
 have f1 : Fr (λ c => c = b) w w1:=by
  rw [hw1]
  exact (((Fr.refl (λ c => c = b) w).sto (.inl rfl) _ _).sto (.inl rfl) _ _).sto (.inl rfl) _ _
 clear hw1
 refine Run_mkmM (kv:=slv) (vv:=idv) λ w2 m1 hm1 f2 hm1le => ?_
 refine Run_mkmM (kv:=slv) (vv:=idv) λ w3 m2 hm2 f3 hm2le => ?_
 have hb3:=f3.bk_some (f2.bk_some hb1 id) id
 have hwr3 : wr w3 b = true:=by rw [f3.wr (bk_lt (f2.bk_some hb1 id)) id, f2.wr (bk_lt hb1) id]; exact hwr1
 simp [-ldA_ptr, hb3, hwr3]
 have z1:=f1.size
 have z2:=f2.size
 have z3:=f3.size
 have hmm : m1 ≠ m2:=by have:=hm1.lt; omega
 have hm1l:=hm1.lt
 have hm2l:=hm2.lt
 obtain ⟨w4, hw4⟩ : ∃ w4, w4 = sto (sto w3 b 7 [.map (some m1)]) b 8 [.map (some m2)]:=⟨_, rfl⟩
 rw [<- hw4]
 have hb4 : bk w4 b = some [.int .i64 d.cap, .int .i64 d.acts, .int .i64 d.reads, .bool false, .int .i64 d.left, .bool false, v.nv, .map (some m1), .map (some m2), .slice none 0 0]:=by
  rw [hw4]; simp [hb3]
 have hwr4 : wr w4 b = true:=by rw [hw4]; simpa using hwr3
 have f34 : Fr (λ c => c = b) w3 w4:=by
  rw [hw4]
  exact ((Fr.refl (λ c => c = b) w3).sto (.inl rfl) _ _).sto (.inl rfl) _ _
 have z4:=f34.size
 clear hw4
 refine Run_bsl (k:=1) (n:=1) (vs:=[.int .i64 0]) rfl (by simp) rfl (by simp [size_zeroCells]) λ rv w5 hrv f5 hrvn => ?_
 have z5:=f5.size
 have f05 : Fr (λ c => c = b) w w5:=((((f1.trans f2 λ _ _ h => h.elim).trans f3 λ _ _ h => h.elim).trans f34 λ _ _ h => h).trans f5 λ _ _ h => h.elim)
 have hb5:=f5.bk_some hb4 id
 have hwr5 : wr w5 b = true:=by rw [f5.wr (bk_lt hb4) id]; exact hwr4
 have nb1 : ∀ c, tag c ≠ 1 -> ¬ c = b:=λ c hc he => hc (by rw [he]; exact h.tb)
 have hm15 : MapAt slv idv w5 m1 ([] : List (Slt × Int)):=((hm1.fr f3 id).fr f34 (by omega)).fr f5 id
 have hm25 : MapAt slv idv w5 m2 ([] : List (Slt × Int)):=(hm2.fr f34 (by omega)).fr f5 id
 have hbk:=h.bound v.bk (by rw [h.tk]; decide)
 obtain ⟨ml, hml⟩:=h.ml
 obtain ⟨tag0, t1, t2, t3, t4⟩ : ∃ tag0 : Nat -> Nat, tag0 m1 = 2 /\ tag0 m2 = 3 /\ (∀ c, c < w.heap.size -> tag0 c = tag c) /\ ∀ c, tag0 c ≠ 0 -> tag c ≠ 0 ∨ c = m1 ∨ c = m2:=by
  refine ⟨λ c => if c = m1 then 2 else if c = m2 then 3 else tag c, by simp, by simp [Ne.symm hmm], λ c hc => ?_, λ c hc => ?_⟩
  ·have h1 : c ≠ m1:=by omega
   have h2 : c ≠ m2:=by omega
   simp [h1, h2]
  ·by_cases h1 : c = m1
   ·exact .inr (.inl h1)
   ·by_cases h2 : c = m2
    ·exact .inr (.inr h2)
    ·simp [h1, h2] at hc; exact .inl hc
 have told : ∀ c, tag c ≠ 0 -> tag0 c = tag c:=λ c hc => t3 c (h.bound c hc)
 have tz : ∀ c, w.heap.size <= c -> c ≠ m1 -> c ≠ m2 -> tag0 c = 0:=λ c hc n1 n2 => Classical.byContradiction λ h0 => by
  rcases t4 c h0 with h' | h' | h'
  ·have:=h.bound c h'; omega
  ·exact n1 h'
  ·exact n2 h'
 have f05' : Fr (λ c => c = b ∨ tag c = 4 ∨ w.heap.size <= c) w w5:=f05.mono λ c hc => Or.inl hc
 have start : RSt w b d v tag tag0 m1 m2 w5 rv [0] d.nodes []:=by
  have s:=f05.size
  refine ⟨hrv, λ c hc => ?_, ⟨rfl, λ i nd h => .inl h, λ p hp => by simp at hp⟩, ⟨hb5, hwr5, h.nodes.fr f05 λ c hc => nb1 c (by rw [h.tn c hc]; decide), hm15, λ _ => rfl, hm25, λ _ => rfl, SlW.nil 7 w5, by rw [told b (by rw [h.tb]; decide)]; exact h.tb, t1, t2, λ c hc => by rw [told c (by rw [h.tn c hc]; decide)]; exact h.tn c hc, λ c hc => hc.elim, by rw [t3 0 (bk_lt hml)]; exact h.t0, ⟨ml, f05.bk_some hml (nb1 0 (by rw [h.t0]; decide))⟩, λ c hc => ?_⟩, f05'⟩
  ·have:=hrvn c hc
   exact ⟨by omega, by omega, tz c (by omega) (by omega) (by omega)⟩
  ·rcases t4 c hc with h' | h' | h'
   ·have:=h.bound c h'; omega
   ·omega
   ·omega
 have hkmap : ∀ w', Fr (λ c => c = b ∨ tag c = 4 ∨ w.heap.size <= c) w w' -> MapAt slv idv w' v.bk v.lk:=λ w' f => h.kept.fr f λ hc => by
  rcases hc with h' | h' | h'
  ·exact nb1 _ (by rw [h.tk]; decide) h'
  ·rw [h.tk] at h'; cases h'
  ·omega
 have hnk:=h.kept.nodup
 refine Run_for (v.lk.length + 2) (λ i l w' => ∃ rv V R N L, l = [rv] /\ V.length = i /\ RSt w b d v tag tag0 m1 m2 w' rv R N L /\ Book d v.lk V R L) ⟨rv, [], [0], d.nodes, [], rfl, rfl, start, Book.first⟩ ?_ ?_
 ·rintro i l w6 hi ⟨rv6, V, R, N, L, rfl, hV, hS, hB⟩
  have hrl:=hS.q.1.lenL
  rw [List.length_map] at hrl
  cases R with
  | nil =>
   simp at hrl
   simp [-ldA_ptr, hrl]
   have hn:=hS.da.seen.nodup
   have hLk : ∀ s k, getK s L = some k -> (s, k) ∈ L:=λ s k hs => getK_mem hs
   have hin : ∀ s k, d.kept s = some k -> s.1 ∈ V -> getK s L = some k:=λ s k hs hv => by
    refine getK_of_mem hn ((hB.mem (s, k)).2 ⟨?_, hv⟩)
    rw [<- h.keptE s] at hs
    exact getK_mem hs
   have hV0:=hB.zero
   rw [List.append_nil] at hV0
   refine ⟨dkR d N L, ⟨⟨rfl, rfl, rfl⟩, ⟨rfl, rfl, rfl⟩, λ _ => rfl, λ s k hs => ?_, λ n k hs => hin _ _ hs hV0, λ s x hs hx n k hk => hin _ _ hk ?_, hS.ren.1, hS.ren.2.1, λ s k hs nd hnd => hS.ren.2.2 (s, k) (hLk s k hs) nd hnd, λ s k hs => ((hB.org s.1 (List.mem_append_left _ ((hB.mem (s, k)).1 (hLk s k hs)).2)).imp id λ ⟨t, ht⟩ => ⟨t, getK_of_mem hn ht⟩)⟩, (Fr.refl (λ c => tag c ≠ 0) w).trans hS.fr λ c hc hf => ?_, _, tag0, hS.da, λ c hc => ?_⟩
   ·rw [<- h.keptE s]
    exact getK_of_mem hnk ((hB.mem (s, k)).1 (hLk s k hs)).1
   ·have:=hB.all (s, x) (hLk s x hs) hx
    rwa [List.append_nil] at this
   ·rcases hf with h' | h' | h'
    ·rw [h', h.tb]; decide
    ·rw [h']; decide
    ·omega
   ·rcases t4 c hc with h' | h' | h'
    ·exact .inl h'
    ·exact .inr (by omega)
    ·exact .inr (by omega)
  | cons cur R =>
   obtain ⟨q, q1, q2⟩:=hS.q.1.rd1 (i:=0) (y:=.int .i64 cur) rfl .i64
   obtain ⟨rv2, k1, k2, k3⟩:=hS.q.drop (n:=1) (by simp) .i64
   have k2l:=k2.1.lenL
   have q1' : idxA 1 rv6 (.int .i64 0) = some q:=q1
   have k1' : sliceV 1 rv6 (some (.int .i64 1)) none = some rv2:=k1
   have hpos : (0 : Int) < ((cur :: R).length : Nat):=by simp only [List.length_cons]; omega
   simp [-ldA_ptr, hrl, q1', q2, k1']
   have hw0 : 0 < w.heap.size:=by have:=bk_lt hml; omega
   refine Run_rngM (hkmap w6 hS.fr) λ w7 r hit f7 hr => ?_
   have z67:=f7.size
   have z06:=hS.fr.size
   have hSi : RSt w b d v tag tag0 m1 m2 w6 rv2 R N L:=⟨k2, λ c hc => hS.qn c (k3 c hc), hS.ren, hS.da, hS.fr⟩
   have hS7:=hSi.fr' f7 hw0 λ c hc => hc.elim
   have hrz : tag0 r = 0 /\ w.heap.size <= r:=by
    have b1:=hS.da.bound m1 (by rw [t1]; decide)
    have b2:=hS.da.bound m2 (by rw [t2]; decide)
    exact ⟨tz r (by omega) (by omega) (by omega), by omega⟩
   refine Run_range (k:=λ _ _ => _) (λ x => rfl) (λ js x w' => ∃ rv' R' N' L', x = [rv'] /\ RSt w b d v tag tag0 m1 m2 w' rv' R' N' L' /\ Book2 d v.lk V cur R' js L' /\ (∀ c, inB rv' c -> c ≠ r) /\ r < w'.heap.size) ⟨rv2, R, N, L, rfl, hS7, hB.start, λ c hc he => ?_, it_lt hit⟩ hit ?_ ?_
   ·have:=(hSi.qn c hc).2.1
    omega
   ·rintro js j p x wa wb hp hj ⟨rv', R', N', L', rfl, hSa, hBa, hra, hrl'⟩ hitb fb sb
    have hSb:=hSa.fr' fb hw0 λ c hc => by rw [hc]; exact ⟨hrz.1, hrz.2, λ hi => hra r hi rfl⟩
    have he:=hitb.entry hp
    have hpm:=List.mem_of_getElem? hp
    have hgp:=getK_of_mem hnk (show (p.1, p.2) ∈ v.lk from hpm)
    rw [h.keptE p.1] at hgp
    obtain ⟨ppos, plt⟩:=ht.rng _ _ hgp
    have zb : w.heap.size <= wb.heap.size:=hSb.fr.size
    have m1b:=hSb.da.bound m1 (by rw [t1]; decide)
    have m2b:=hSb.da.bound m2 (by rw [t2]; decide)
    have hskip:=λ hne => hBa.skip hp (j:=j) (p:=p) hne
    have hfresh:=λ he => hBa.fresh hnk hp hj (p:=p) he
    have htake:=λ he => hBa.take hnk ht h.keptE hp hj (p:=p) he
    have hbound:=hBa.bound
    rw [List.length_append, List.length_cons] at hbound
    obtain ⟨⟨pd, pn⟩, pk⟩:=p
    simp only at ppos plt hgp hskip hfresh htake
    simp [-ldA_ptr, he, slv]
    refine Run_newSt (cs:=#[.int .i64 pd, .string pn]) rfl rfl (by simp) λ x wc hx hxw fc hxle => ?_
    have zbc:=fc.size
    have hSc:=hSb.fr' fc hw0 λ c hc => hc.elim
    have hx' : bk wc x = some [.int .i64 pd, .string pn]:=hx
    by_cases hpd : pd = cur
    ·subst hpd
     have hno:=hfresh rfl
     have hdc:=hSc.da
     have hbc:=hdc.blk
     rw [dkR_cells] at hbc
     have hl2 : ∀ w', bk w' x = some [.int .i64 pd, .string pn] -> ldA 2 (Ptr x) w' = some (slv (pd, pn)):=λ w' hh => by rw [ldA_bk hh (by simp)]; rfl
     simp [-ldA_ptr, hx', hbc, hl2 wc hx']
     have fdr : Fr (λ _ => False) wc wc.drew:=(Fr.refl (λ _ => False) wc).drew
     have hdd:=hdc.fr0 fdr
     have hxm1 : x ≠ m1:=by omega
     have hxm2 : x ≠ m2:=by omega
     refine Run_mentM (kv:=slv) (vv:=idv) keyS hdd.seen hno λ wd cd hh1 fd1 sd1 => ?_
     have hxd : bk wd x = some [.int .i64 pd, .string pn]:=fd1.bk_some (w:=wc.drew) hx' hxm1
     simp only [extV_tuple, List.getElem?_toArray, List.getElem?_cons_succ, List.getElem?_cons_zero, Run_bindO_some, Run_bind]
     refine Run_estM hh1 pk λ we hme fe1 se1 => ?_
     have hxe : bk we x = some [.int .i64 pd, .string pn]:=fe1.bk_some hxd hxm1
     simp only [Run_getM, Run_bind]
     have fm1 : Fr (λ c => c = m1) wc.drew we:=fd1.trans fe1 λ _ _ h => h
     have hde:=hdd.seenSet (m:=λ k => getK k (L' ++ [((pd, pn), pk)])) fm1 hme λ _ => rfl
     refine Run_mentM (kv:=slv) (vv:=idv) keyS hde.kept hno λ wf cf hh2 ff1 sf1 => ?_
     simp only [extV_tuple, List.getElem?_toArray, List.getElem?_cons_succ, List.getElem?_cons_zero, Run_getM, Run_bindO_some, Run_bind]
     refine Run_estM hh2 pk λ wg hmg fg1 sg1 => ?_
     have fm2 : Fr (λ c => c = m2) we wg:=ff1.trans fg1 λ _ _ h => h
     have hdg:=hde.keptSet (m:=λ k => getK k (L' ++ [((pd, pn), pk)])) fm2 hmg λ _ => rfl
     obtain ⟨i0, hi0⟩ : ∃ i : Nat, pk = i:=⟨pk.toNat, by omega⟩
     have hi0l : i0 < d.nodes.length:=by omega
     have hnd0 : d.nodes[i0]? = some d.nodes[i0]:=List.getElem?_eq_getElem hi0l
     generalize d.nodes[i0] = nd0 at hnd0
     have hndd : d.nd pk = nd0:=by simp [Dk.nd, hi0, hnd0]
     obtain ⟨nd, hnd, hke⟩ : ∃ nd, N'[i0]? = some nd /\ nd.kind = nd0.kind:=by
      rcases hSc.ren.2.1 _ nd0 hnd0 with h' | h'
      ·exact ⟨_, h', rfl⟩
      ·exact ⟨_, h', rfl⟩
     obtain ⟨b0, o, l0, i1, t40, i2, q0, qq1, qq2, hset⟩:=hdg.setNode hnd
     have i1' : idxA 3 v.nv (idv pk) = some (.pointer (some ⟨b0, o, none⟩)):=by rw [hi0]; exact i1
     have hbg:=hdg.blk
     have hbg' : bk wg b = some [.int .i64 d.cap, .int .i64 d.acts, .int .i64 d.reads, .bool false, .int .i64 d.left, .bool false, v.nv, .map (some m1), .map (some m2), .slice none 0 0]:=hbg
     simp [-ldA_ptr, hl2 wd hxd, hl2 we hxe, hbg', i1', i2, qq2]
     obtain ⟨y1, y2⟩:=(hset wg.drew _ _ (hdg.fr0 (Fr.refl (λ _ => False) wg).drew) rfl rfl).1 nd.kept
     have hb0w : b0 < w.heap.size:=by
      rcases t4 b0 (by rw [t40]; decide) with h' | h' | h'
      ·exact h.bound b0 h'
      ·rw [h', t1] at t40; cases t40
      ·rw [h', t2] at t40; cases t40
     have hb0b : b0 ≠ b:=λ he => by
      rw [he, told b (by rw [h.tb]; decide), h.tb] at t40; cases t40
     have hb0bk : v.bk ≠ b0:=λ he => by
      rw [<- he, told v.bk (by rw [h.tk]; decide), h.tk] at t40; cases t40
     have zm1:=fm1.size
     have zm2:=fm2.size
     have zd : wc.drew.heap.size = wc.heap.size:=rfl
     obtain ⟨⟨l', hl', hle⟩, hwrb⟩:=y1
     have hll : l' = l0:=by
      have h2 : bk wg b0 = some l':=hl'
      rw [i2] at h2
      cases h2; rfl
     rw [hll] at hle
     have hblk2 : bk (sto wg.drew b0 (o + 1) [.string nd.kept]) b = some [.int .i64 d.cap, .int .i64 d.acts, .int .i64 d.reads, .bool false, .int .i64 d.left, .bool false, v.nv, .map (some m1), .map (some m2), .slice none 0 0]:=y2.blk
     refine ⟨hle, hwrb, v.nv, by rw [hblk2]; rfl, ?_⟩
     have hk0 : bk (sto wg.drew b0 (o + 1) [.string nd.kept]) b0 = some (l0.set (o + 1) (.string nd.kept)):=by rw [bk_sto_eq, bk_drew, i2]; rfl
     have hk1 : (l0.set (o + 1) (.string nd.kept))[o]? = some (.int .i64 nd.kind):=by rw [List.getElem?_set_ne (by omega)]; exact q0
     have t4b : tag b0 = 4:=by rw [<- t3 b0 hb0w]; exact t40
     have fbz : Fr (λ c => c = m1 ∨ c = m2 ∨ c = b0) wc (sto wg.drew b0 (o + 1) [.string nd.kept]):=by
      refine Fr.sto (b:=b0) (Fr.drew ?_) (.inl (.inr (.inr rfl))) _ _
      refine (((fdr.mono λ _ h => h.elim).trans fm1 λ c _ hc => ?_).trans fm2 λ c _ hc => ?_)
      ·exact .inl hc
      ·exact .inr (.inl hc)
     obtain ⟨wz, hwz⟩ : ∃ wz, wz = sto wg.drew b0 (o + 1) [.string nd.kept]:=⟨_, rfl⟩
     rw [<- hwz] at y2 hk0 fbz hblk2 ⊢
     clear hwz
     have hst:=hSc.ren.step (p:=((pd, pn), pk)) (i:=i0) hi0 hnd0 hnd
     have hqz : SlW 1 wz rv' (R'.map λ x => [.int .i64 x]):=hSc.q.fr fbz λ c hc hf => by
      have:=(hSc.qn c hc).2.2
      rcases hf with h' | h' | h'
      ·rw [h', t1] at this; cases this
      ·rw [h', t2] at this; cases this
      ·rw [h', t40] at this; cases this
     have zcz:=fbz.size
     have fz : Fr (λ c => c = b ∨ tag c = 4 ∨ w.heap.size <= c) w wz:=hSc.fr.trans fbz λ c _ hf => by
      rcases hf with h' | h' | h'
      ·exact .inr (.inr (by omega))
      ·exact .inr (.inr (by omega))
      ·rw [h']; exact .inr (.inl t4b)
     have hSz : RSt w b d v tag tag0 m1 m2 wz rv' R' (N'.set i0 { nd with seen:=nd.kept }) (L' ++ [((pd, pn), pk)]):=⟨hqz, λ c hc => by
      have:=hSc.qn c hc
      exact ⟨this.1, by omega, this.2.2⟩, hst, y2, fz⟩
     have hitz : ItAt slv idv wz r v.bk v.lk (js ++ [j]):=(hitb.fr fc id id).fr fbz (λ hc => by
      rcases hc with h' | h' | h'
      ·omega
      ·omega
      ·exact hb0bk h') (λ hc => by
      have:=hrz
      rcases hc with h' | h' | h'
      ·rw [h', t1] at this; cases this.1
      ·rw [h', t2] at this; cases this.1
      ·rw [h', t40] at this; cases this.1)
     by_cases hk1k : nd.kind = 1
     ·simp [i1', hk0, hk1, hk1k, hblk2]
      refine Run_app1 (k:=1) (y:=.int .i64 pk) (by simp) hqz (by decide) rfl (by decide) (by simp) (by simp only [List.length_map]; omega) λ r2 wy hr2 fy hin wx fx => ?_
      have hyz:=fy.size
      have hB2:=(htake rfl).1 (by rw [hndd, <- hke]; exact hk1k)
      have hr2' : SlW 1 wy r2 ((R' ++ [pk]).map λ x => [.int .i64 x]):=by simpa using hr2
      have hSy : RSt w b d v tag tag0 m1 m2 wy r2 (R' ++ [pk]) (N'.set i0 { nd with seen:=nd.kept }) (L' ++ [((pd, pn), pk)]):=by
       refine ⟨hr2', λ c hc => ?_, hst, y2.fr fy λ c hc => ?_, fz.trans fy λ c _ hc => .inr (.inr (hSz.qn c hc).1)⟩
       ·rcases hin c hc with h' | h'
        ·have:=hSz.qn c h'
         exact ⟨this.1, by omega, this.2.2⟩
        ·exact ⟨by omega, h'.2, tz c (by omega) (by omega) (by omega)⟩
       ·have:=hSz.qn c hc
        exact ⟨this.2.2, by omega⟩
      refine ⟨⟨R' ++ [pk], _, _, hSy, hB2, λ c hc => ?_, by have:=it_lt hitb; omega⟩, hitz.fr fy (λ hc => ?_) (λ hc => hra r hc rfl)⟩
      ·rcases hin c hc with h' | h'
       ·exact hra c h'
       ·have:=it_lt hitb; omega
      ·have:=(hSz.qn _ hc).1
       omega
     ·simp [i1', hk0, hk1, hk1k, hblk2]
      have hB2:=(htake rfl).2 (by rw [hndd, <- hke]; exact hk1k)
      exact ⟨⟨R', _, _, hSz, hB2, hra, by have:=it_lt hitb; omega⟩, hitz⟩
    ·simp [-ldA_ptr, hx', hpd]
     exact ⟨⟨R', N', L', hSc, hskip hpd, hra, by omega⟩, hitb.fr fc id id⟩
   ·rintro js x wa wb hperm ⟨rv', R', N', L', rfl, hSa, hBa, hra, hrl'⟩ hitb fb sb
    have hSb:=hSa.fr' fb hw0 λ c hc => hc.elim
    simp
    exact ⟨V ++ [cur], by simp [hV], R', N', L', hSb, hBa.over hperm⟩
 ·rintro l w6 ⟨rv6, V, R, N, L, rfl, hV, hS, hB⟩
  have:=hB.bound
  rw [List.length_append] at this
  omega
end
theorem pigeon {α : Type} [DecidableEq α] : ∀ (xs ys : List α), xs.Nodup -> (∀ x ∈ xs, x ∈ ys) -> xs.length <= ys.length:=by
 intro xs
 induction xs with
 | nil => intro ys _ _; simp
 | cons x xs ih =>
  intro ys hx hs
  simp only [List.nodup_cons] at hx
  have hxy:=hs x (by simp)
  have:=ih (ys.erase x) hx.2 λ y hy => by
   have hne : y ≠ x:=λ he => hx.1 (by rw [<- he]; exact hy)
   exact (List.mem_erase_of_ne hne).2 (hs y (by simp [hy]))
  rw [List.length_erase_of_mem hxy] at this
  have:=List.length_pos_of_mem hxy
  simp only [List.length_cons]; omega
theorem map_len {n : Nat} {m : Slt -> Option Int} {l : List (Slt × Int)} (rng : ∀ s k, m s = some k -> 1 <= k /\ k < n) (inj : ∀ s t k, m s = some k -> m t = some k -> s = t) (hn : (l.map (·.1)).Nodup) (hE : Eqm l m) : l.length <= n:=by
 have hm : ∀ p ∈ l, m p.1 = some p.2:=λ p hp => by rw [<- hE p.1]; exact getK_of_mem hn (show (p.1, p.2) ∈ l from hp)
 have hv : (l.map (·.2)).Nodup:=by
  have : ∀ l : List (Slt × Int), (l.map (·.1)).Nodup -> (∀ p ∈ l, m p.1 = some p.2) -> (l.map (·.2)).Nodup:=by
   intro l
   induction l with
   | nil => intro _ _; simp
   | cons p l ih =>
    intro hn hm
    simp only [List.map_cons, List.nodup_cons] at hn ⊢
    refine ⟨λ hx => ?_, ih hn.2 λ q hq => hm q (by simp [hq])⟩
    obtain ⟨q, hq, he⟩:=List.mem_map.1 hx
    have h1:=hm p (by simp)
    have h2:=hm q (by simp [hq])
    rw [he] at h2
    exact hn.1 (List.mem_map.2 ⟨q, hq, (inj _ _ _ h1 h2).symm⟩)
  exact this l hn hm
 have:=pigeon (l.map (·.2)) ((List.range n).map Int.ofNat) hv λ x hx => by
  obtain ⟨p, hp, rfl⟩:=List.mem_map.1 hx
  have:=rng _ _ (hm p hp)
  exact List.mem_map.2 ⟨p.2.toNat, List.mem_range.2 (by omega), show ((p.2.toNat : Nat) : Int) = p.2 by omega⟩
 simpa using this
theorem lk_len {d : Dk} {lk : List (Slt × Int)} (ht : Tree d) (hn : (lk.map (·.1)).Nodup) (hE : Eqm lk d.kept) : lk.length <= d.nodes.length:=map_len ht.rng ht.inj hn hE
theorem cFold_len' : ∀ (L : List Chg) (st : CSt), (L.foldl cStep st).1.length = st.1.length
 | [], st => rfl
 | c :: L, st => by
  rw [List.foldl_cons, cFold_len' L]
  simp [cStep]
section
variable {w w' w'' : World} {b : Nat} {d d' : Dk} {v : DV} {tag : Nat -> Nat}
theorem crash2_run (h : DA w b d v tag) {keep torn : Int} (hpl : d.pending.length <= 1048576) (hok : crashOk (d.nodes, d.kept) (crashL d.pending keep torn)) (hnl : d.nodes.length <= 16777216) (hTr : Tree { d with nodes:=((crashL d.pending keep torn).foldl cStep (d.nodes, d.kept)).1, kept:=((crashL d.pending keep torn).foldl cStep (d.nodes, d.kept)).2 }) :
  Run (F.d_Crash (Ptr b) (.int .i64 keep) (.int .i64 torn)) w λ r w' => r = .int .i64 ((d.pending.length : Int) - (clampN keep d.pending.length : Nat)) /\ ∃ d', Reached { d with nodes:=((crashL d.pending keep torn).foldl cStep (d.nodes, d.kept)).1, kept:=((crashL d.pending keep torn).foldl cStep (d.nodes, d.kept)).2 } d' /\ DDid w w' b tag d':=by
 have hlk : ∀ {w3 : World} {v3 : DV}, DA w3 b { d with nodes:=((crashL d.pending keep torn).foldl cStep (d.nodes, d.kept)).1, kept:=((crashL d.pending keep torn).foldl cStep (d.nodes, d.kept)).2 } v3 tag -> v3.lk.length <= 16777216:=λ h3 => by
  have h1:=lk_len hTr h3.kept.nodup h3.keptE
  have h2 : ((crashL d.pending keep torn).foldl cStep (d.nodes, d.kept)).1.length = d.nodes.length:=cFold_len' _ _
  simp only at h1
  omega
 unfold F.d_Crash
 have hb:=h.blk
 have hpv:=h.pend.1.lenL
 rw [List.length_map] at hpv
 simp [-ldA_ptr, hb, Dk.cells, hpv]
 refine clamp_run keep d.pending.length ?_
 have hkle:=clamp_le keep d.pending.length
 obtain ⟨k, hk⟩ : ∃ k, k = clampN keep d.pending.length:=⟨_, rfl⟩
 have hL : crashL d.pending keep torn = d.pending.take k ++ (match d.pending[k]? with
  | some c => if c.what = 0 then [{ c with data:=c.data.extract 0 (clampN torn c.data.size) }] else []
  | none => []):=by rw [hk]; rfl
 rw [<- hk] at hkle ⊢
 have fd : Fr (λ _ => False) w w.drew:=(Fr.refl (λ _ => False) w).drew
 have hd:=h.fr0 fd
 obtain ⟨sv, k1, k2, k3⟩:=hd.pend.1.take (n:=k) (by simpa using hkle) .i64
 have ws : IntKind.i64.wrap ((d.pending.length : Int) - k) = (d.pending.length : Int) - k:=wrap_int (by omega) (by omega)
 simp [-ldA_ptr, hb, Dk.cells, hpv, k1, ws]
 have hLlen : (crashL d.pending keep torn).length <= 16777216:=by
  rw [hL, List.length_append, List.length_take]
  have : (match d.pending[k]? with
   | some c => if c.what = 0 then [{ c with data:=c.data.extract 0 (clampN torn c.data.size) }] else []
   | none => []).length <= 1:=by
   split
   ·split <;> simp
   ·simp
  omega
 have k2' : Sl 7 w.drew sv ((d.pending.take k).map Chg.cells):=by rw [List.map_take]; exact k2
 have ksv : ∀ c, inB sv c -> tag c ≠ 3 /\ tag c ≠ 4:=λ c hc => by
  have:=h.tp c (k3 c hc)
  omega
 have tnew : ∀ (w1 : World) (x : Value), New w w1 x -> ∀ c, inB x c -> tag c ≠ 3 /\ tag c ≠ 4:=λ w1 x hx c hc => by
  have h1:=hx c hc
  by_cases h0 : tag c = 0
  ·omega
  ·have:=h.bound c h0; omega
 by_cases hlt : k < d.pending.length
 ·have ek : d.pending[k]? = some d.pending[k]:=List.getElem?_eq_getElem hlt
  generalize d.pending[k] = c at ek
  rw [ek] at hL
  simp only at hL
  obtain ⟨qb, qo, ql, q1, q2, q3, q4, _⟩:=hd.pend.1.rd (i:=k) (e:=c.cells) (by decide) (by simp [ek]) .i64
  have qk : ql[qo]? = some (.int .i64 c.what):=take_get0 q4 (by decide)
  have q2' : bk w qb = some ql:=q2
  have qA : ldA 7 (.pointer (some ⟨qb, qo, none⟩)) w.drew = some c.val:=by rw [ldA_bk q2 q3, q4]; rfl
  by_cases hw : c.what = 0
  ·rw [if_pos hw] at hL
   simp [-ldA_ptr, hlt, hb, Dk.cells, q1, q2', qk, hw, qA]
   refine Run_newSt (cs:=c.cells.toArray) rfl rfl (by simpa using c.all) λ y w2 hy hyw f2 hyle => ?_
   have hy2 : bk w2 y = some c.cells:=by simpa using hy
   simp [-ldA_ptr, hy2, Chg.cells]
   refine clamp_run torn c.data.size ?_
   have htle:=clamp_le torn c.data.size
   obtain ⟨t, ht⟩ : ∃ t, t = clampN torn c.data.size:=⟨_, rfl⟩
   rw [<- ht] at htle hL ⊢
   have hsl : sliceS (.string c.data) none (some (.int .i64 t)) = some (.string (c.data.extract 0 t)):=by
    simp [sliceS, highV, lowV, boundV, htle]
   simp [-ldA_ptr, hsl, hy2, hyw, Chg.cells]
   obtain ⟨c', hc'⟩ : ∃ c' : Chg, c' = { c with data:=c.data.extract 0 t }:=⟨_, rfl⟩
   rw [<- hc'] at hL
   have hy3 : bk (sto w2 y 2 [.string (c.data.extract 0 t)]) y = some c'.cells:=by rw [bk_sto_eq, hy2, hc']; rfl
   have f3 : Fr (λ _ => False) w (sto w2 y 2 [.string (c.data.extract 0 t)]):=(fd.trans f2 λ _ _ => id).sto (.inr hyle) _ _
   have f3d : Fr (λ _ => False) w.drew (sto w2 y 2 [.string (c.data.extract 0 t)]):=f2.sto (.inr hyle) _ _
   generalize sto w2 y 2 [.string (c.data.extract 0 t)] = w3 at *
   obtain ⟨Q4, q4'⟩ : ∃ Q4 : List Value -> World -> Prop, ∀ a w', Q4 a w' ↔ ∃ x, a = [x] /\ SlW 7 w' x ((crashL d.pending keep torn).map Chg.cells) /\ New w w' x /\ Fr (λ _ => False) w w':=⟨_, λ _ _ => Iff.rfl⟩
   have hval : c'.val.cells.toList = c'.cells:=by simp [Chg.val]
   refine Run.mono (Q:=Q4) (Run_altM (by simp) λ z hz => ?_) ?_
   ·have hs3 : Sl 7 w3.drew sv ((d.pending.take k).map Chg.cells):=(k2'.fr0 f3d).fr0 (Fr.refl (λ _ => False) w3).drew
    have hy3d : bk w3.drew y = some c'.cells:=hy3
    have zk : (d.pending.take k).length <= 1048576:=by rw [List.length_take]; omega
    have z3:=f3.size
    have zd : w3.drew.heap.size = w3.heap.size:=rfl
    simp only [List.mem_cons, List.not_mem_nil, or_false] at hz
    rcases hz with rfl | rfl
    ·simp [-ldA_ptr]
     refine (clone_run hs3 (by omega)).mono ?_
     rintro r w5 ⟨hr, hrn, f5⟩
     have e7:=ld7 (f5.bk_some (w:=w3.drew) hy3d id)
     have z5:=f5.size
     simp [-ldA_ptr, e7]
     refine Run_app1 (k:=7) (by simp [Chg.val, Chg.cells]) hr (by decide) rfl (by decide) (by simpa [Chg.val] using c'.all) (by simp only [List.length_map]; omega) λ r2 w6 hr2 f6 hin w7 f7 => ?_
     have z6:=f6.size
     simp [-ldA_ptr, ld7 hy3]
     refine (q4' _ _).2 ⟨r2, rfl, by rw [hL]; simpa [Chg.val] using hr2, λ x hx => ?_, ((f3.drew).trans f5 λ _ _ => id).new f6 λ x hx => by have:=hrn x hx; omega⟩
     rcases hin x hx with h' | h'
     ·have:=hrn x h'; omega
     ·omega
    ·simp [-ldA_ptr, ld7 hy3d]
     refine Run_bsl (k:=7) (n:=1) (vs:=[c'.val]) rfl (by simp [Chg.val, Chg.cells]) rfl (by simp [size_zeroCells]) λ a w5 hra f5 hran => ?_
     have z5:=f5.size
     have hra' : SlW 7 w5 a [c'.cells]:=by simpa [Chg.val] using hra
     refine (clone_run (hs3.fr0 f5) (by omega)).mono ?_
     rintro r w6 ⟨hr, hrn, f6⟩
     have z6:=f6.size
     refine Run_appM (fls:=[c'.cells]) hr (hra'.1.fr0 f6) (by decide) rfl (by decide) (λ e he => by obtain rfl:=List.mem_singleton.1 he; exact c'.all) (by simp only [List.length_map, List.length_cons, List.length_nil]; omega) λ r2 w7 hr2 f7 hin => ?_
     have z7:=f7.size
     refine (q4' _ _).2 ⟨r2, rfl, by rw [hL]; simpa using hr2, λ x hx => ?_, (((f3.drew).trans f5 λ _ _ => id).trans f6 λ _ _ => id).new f7 λ x hx => by have:=hrn x hx; omega⟩
     rcases hin x hx with h' | h'
     ·have:=hrn x h'; omega
     ·omega
   rintro a w6 ha
   obtain ⟨x6, rfl, hx6, hn6, f6⟩:=(q4' _ _).1 ha
   have hsl6:=hx6.1.lenL
   rw [List.length_map] at hsl6
   simp only [Run_ret, outK_norm, getL_zero, hsl6, Run_bindO_some, Run_bind]
   refine crash_loop (L:=crashL d.pending keep torn) (h.fr0 f6) hx6.1 (tnew _ _ hn6) hLlen hok (λ l => rfl) λ w3 v3 h3 f3 => ?_
   simp
   refine (restart2_run h3 hTr (hlk h3)).mono ?_
   rintro r w4 ⟨d', e1, e2⟩
   exact ⟨d', e1, DDid.trans h.bound ((f6.mono λ _ h => h.elim).trans f3 λ _ _ h => h) (λ _ h => .inl h) e2⟩
  ·rw [if_neg hw, List.append_nil] at hL
   simp [-ldA_ptr, hlt, hb, Dk.cells, q1, q2', qk, hw]
   have hsl:=k2'.lenL
   rw [List.length_map, <- hL] at hsl
   simp only [hsl, Run_bindO_some, Run_bind]
   refine crash_loop (L:=crashL d.pending keep torn) hd (by rw [hL]; exact k2') ksv hLlen hok (λ l => rfl) λ w3 v3 h3 f3 => ?_
   simp
   refine (restart2_run h3 hTr (hlk h3)).mono ?_
   rintro r w4 ⟨d', e1, e2⟩
   exact ⟨d', e1, DDid.trans h.bound ((fd.mono λ _ h => h.elim).trans f3 λ _ _ h => h) (λ _ h => .inl h) e2⟩
 ·have ekn : d.pending[k]? = none:=List.getElem?_eq_none (by omega)
  rw [ekn] at hL
  simp only [List.append_nil] at hL
  simp [-ldA_ptr, hlt]
  have hsl:=k2'.lenL
  rw [List.length_map, <- hL] at hsl
  simp only [hsl, Run_bindO_some, Run_bind]
  refine crash_loop (L:=crashL d.pending keep torn) hd (by rw [hL]; exact k2') ksv hLlen hok (λ l => rfl) λ w3 v3 h3 f3 => ?_
  simp
  refine (restart2_run h3 hTr (hlk h3)).mono ?_
  rintro r w4 ⟨d', e1, e2⟩
  exact ⟨d', e1, DDid.trans h.bound ((fd.mono λ _ h => h.elim).trans f3 λ _ _ h => h) (λ _ h => .inl h) e2⟩
end
end Go.Proofs.YtojnickeblbgoaaGreatDoor
namespace Go.Proofs.YtojnickeblbgoaaGreatDoor
open Go.Lift
set_option linter.unusedSimpArgs false
set_option linter.unusedVariables false
set_option maxHeartbeats 4000000
def jl : List (List UInt8) -> List UInt8
 | [] => []
 | x :: r => x ++ (r.map λ y => [47] ++ y).flatten
theorem jl_cons {x : List UInt8} {l : List (List UInt8)} (h : l ≠ []) : jl (x :: l) = x ++ [47] ++ jl l:=by
 cases l with
 | nil => exact absurd rfl h
 | cons y r => simp [jl]
theorem splitK_ne (sep : List UInt8) (save k : Nat) (s : List UInt8) : Lib.splitK sep save k s ≠ []:=by
 cases k with
 | zero => simp [Lib.splitK]
 | succ k => unfold Lib.splitK; split <;> simp
theorem jl_split : ∀ (k : Nat) (s : List UInt8), jl (Lib.splitK [47] 0 k s) = s
 | 0, s => by simp [Lib.splitK, jl]
 | k + 1, s => by
  unfold Lib.splitK
  by_cases h : Lib.index s [47] == -1
  ·rw [if_pos h]; simp [jl]
  ·rw [if_neg h]
   have hge:=Lib.index_ge s [47]
   obtain ⟨i, hi⟩ : ∃ i : Nat, Lib.index s [47] = i:=⟨(Lib.index s [47]).toNat, by
    have : Lib.index s [47] ≠ -1:=by simpa using h
    omega⟩
   rw [hi, jl_cons (splitK_ne _ _ _ _), jl_split k]
   rw [Lib.index_one] at hi
   have h1:=(Lib.indexByte_some hi).1
   have h2:=(List.getElem?_eq_some_iff.1 h1).1
   have e1 : (i : Int).toNat + 0 = i:=by omega
   have e2 : (i : Int).toNat + [47].length = i + 1:=by simp
   rw [e1]
   have e3 : s.drop i = 47 :: s.drop (i + 1):=by
    rw [List.drop_eq_getElem_cons h2]
    congr 1
    have:=(List.getElem?_eq_some_iff.1 h1).2
    exact this
   conv => rhs; rw [<- List.take_append_drop i s, e3]
   simp
theorem parts_jl (s : ByteArray) : jl ((partsF s).map (·.data.toList)) = s.data.toList:=by
 unfold partsF
 rw [Lib.splitB_data]
 exact jl_split _ _
theorem parse_jl {s : ByteArray} {names : List ByteArray} (h : parseF s = some names) : jl (names.map (·.data.toList)) = s.data.toList:=by
 unfold parseF at h
 split at h
 ·cases h
  rename_i he
  rw [he]; rfl
 ·split at h
  ·cases h
  ·split at h
   ·cases h; exact parts_jl s
   ·cases h
theorem parse_small {s : ByteArray} {names : List ByteArray} (h : parseF s = some names) : (∀ x ∈ names, x.size <= 40) /\ names.length <= 8:=by
 unfold parseF at h
 split at h
 ·cases h; simp
 ·split at h
  ·cases h
  ·rename_i hcnt
   split at h
   ·rename_i hall
    cases h
    refine ⟨λ x hx => ?_, ?_⟩
    ·have:=List.all_eq_true.1 hall x hx
     simp only [nameF, Bool.and_eq_true, decide_eq_true_eq] at this
     exact this.1.1.1.2
    ·have h47 : (1 : Nat) <= slash.size:=by decide
     have hlen : (partsF s).length = Lib.countB s slash + 1:=Lib.splitB_all slash h47 0 _ s rfl
     have hc : Lib.countB s slash = Lib.countByte s.data.toList 47:=Lib.count_one 47 s.data.toList
     omega
   ·cases h
theorem parse_nil {s : ByteArray} (h : parseF s = some []) : s = E0:=by
 have:=parse_jl h
 exact ba_ext (this.symm.trans rfl)
def pathF (l : List ByteArray) : ByteArray:=⟨(joinL l slash).toArray⟩
section
variable {w w' w'' : World} {b : Nat} {d d' : Dk} {v : DV} {tag : Nat -> Nat}
theorem path2_run {u : Value} {l : List ByteArray} (hu : Sl 1 w u (l.map λ x => [.string x])) (hs : ∀ x ∈ l, x.size <= 40) (hl : l.length <= 8) : Run (F.dd_Path u) w λ r w' => r = .string (pathF l) /\ Fr (λ _ => False) w w':=by
 unfold F.dd_Path
 simp only [Run_bind]
 refine (join_run hu (sep:=slash) (by decide) (by decide) (λ x hx => by have:=hs x hx; omega) (by omega)).mono ?_
 rintro _ w1 ⟨rfl, f1⟩
 exact Run_ret.2 ⟨rfl, f1⟩
def truncF (d : Dk) (path : ByteArray) (size : Int) : Int × Dk:=if d.down then (10, d) else if (parseF path).isSome = false then (11, d) else if size < 0 then (1, d) else
 if (d.findF path 2).1 ≠ 0 then ((d.findF path 2).1, d) else if ((d.nd (d.findF path 2).2.2).seen.size : Int) < size then (16, d) else
 doF d ⟨1, (d.findF path 2).2.2, e0, size, e0, e0, 0⟩ (d.findF path 2).2.2.toNat (d.nd (d.findF path 2).2.2)
theorem build_cut (a n z : Int) : buildV #[.int .i64 0, .int .i64 0, .string ByteArray.empty, .int .i64 0, .string ByteArray.empty, .string ByteArray.empty, .int .i64 0] [(0, 1, .int .i64 a), (1, 1, .int .i64 n), (3, 1, .int .i64 z)] = some (Chg.val ⟨a, n, e0, z, e0, e0, 0⟩):=by simp [buildV, fillV, Chg.val, Chg.cells]
theorem trunc_run (h : DA w b d v tag) (g : Good d) {path : ByteArray} (hs : path.size < 4294967281) (size : Int) (hn : ∀ nd ∈ d.nodes, nd.seen.size <= 2305843009213693952) (hpl : d.pending.length <= 16777216) :
  Run (F.d_Truncate (Ptr b) (.string path) (.int .i64 size)) w λ r w' => r = .int .i64 (truncF d path size).1 /\ DDid w w' b tag (truncF d path size).2:=by
 unfold F.d_Truncate
 simp only [Run_bind]
 refine ready_run h ?_
 unfold truncF
 by_cases hd : d.down = true
 ·simp [hd]
  exact h.did (Fr.refl _ _)
 ·simp [-ldA_ptr, hd]
  obtain ⟨m, hm⟩:=h.ml
  refine (parse_run path hs hm).mono ?_
  rintro _ w2 ⟨nv, rfl, f2, hnames⟩
  have h2:=h.fr0 f2
  cases hp : (parseF path).isSome with
  | false =>
   have hpn : parseF path = none:=by simpa using hp
   simp [hp, hpn]
   exact h2.did (f2.mono λ _ h => h.elim)
  | true =>
   have hpn : ¬ parseF path = none:=λ he => by rw [he] at hp; cases hp
   by_cases hz : size < 0
   ·simp [hp, hpn, hz]
    exact h2.did (f2.mono λ _ h => h.elim)
   simp [-ldA_ptr, hp, hpn, hz]
   refine (find_run h2 g hs 2).mono ?_
   rintro _ w1 ⟨rfl, f1⟩
   have hlt:=find_lt g path 2
   have hpos:=find_pos (d:=d) (path:=path) (kind:=2)
   generalize d.findF path 2 = s at *
   obtain ⟨e, ⟨a1, a2⟩, node⟩:=s
   simp only at hlt hpos
   simp [-ldA_ptr, spotV]
   refine spot_mem λ x w3 hx _ f3 hxle => ?_
   have f03 : Fr (λ _ => False) w w3:=(f2.trans f1 λ _ _ => id).trans f3 λ _ _ => id
   have h3:=h.fr0 f03
   by_cases k1 : e = 0
   ·have hnn:=(hpos k1).1
    obtain ⟨j, hj⟩ : ∃ j : Nat, node = j:=⟨node.toNat, by omega⟩
    have hjl : j < d.nodes.length:=by omega
    have hjn : d.nodes[j]? = some d.nodes[j]:=List.getElem?_eq_getElem hjl
    generalize d.nodes[j] = nd at hjn
    have hnd : d.nd node = nd:=by simp [Dk.nd, hj, hjn]
    have hnds:=hn nd (List.mem_of_getElem? hjn)
    obtain ⟨b0, o, l0, i1, t4, i2, _, q1, _, _⟩:=h3.setNode hjn
    have i1' : idxA 3 v.nv (.int .i64 node) = some (.pointer (some ⟨b0, o, none⟩)):=by rw [hj]; exact i1
    have hb3:=h3.blk
    by_cases k2 : (nd.seen.size : Int) < size
    ·simp [-ldA_ptr, k1, hx, hb3, Dk.cells, i1', i2, q1, k2, hnd]
     exact h3.did (f03.mono λ _ h => h.elim) |>.post (Fr.refl (λ _ => False) w3).drew
    ·simp [-ldA_ptr, k1, hx, hb3, Dk.cells, i1', i2, q1, k2, hnd, build_cut]
     have fd : Fr (λ _ => False) w3 w3.drew:=(Fr.refl (λ _ => False) w3).drew
     refine (do_run (h3.fr0 fd) ⟨1, node, e0, size, e0, e0, 0⟩ hjn hj ⟨λ h => by simp at h, λ _ => by simp only; omega⟩ hpl).mono ?_
     rintro _ w4 ⟨rfl, h4⟩
     rw [show node.toNat = j by omega]
     exact ⟨rfl, h4.pre (f03.trans fd λ _ _ => id)⟩
   ·simp [-ldA_ptr, k1]
    exact h3.did (f03.mono λ _ h => h.elim)
end
theorem walkGo_err {d : Dk} : ∀ (names : List ByteArray) (a : Slt) (node : Int), (d.walkGo a node names).1 ≠ 0 -> (d.walkGo a node names).2 = ((0, e0), 0)
 | [], a, node, h => absurd rfl h
 | n :: rest, a, node, h => by
  unfold Dk.walkGo at h ⊢
  split
  ·rfl
  ·rename_i h1
   rw [if_neg h1] at h
   split
   ·rfl
   ·rename_i h2
    rw [if_neg h2] at h
    split
    ·rfl
    ·rename_i h3
     rw [if_neg h3] at h
     exact walkGo_err rest _ _ h
theorem walk_err {d : Dk} (names : List ByteArray) (h : (d.walkF names).1 ≠ 0) : (d.walkF names).2 = ((0, e0), 0):=walkGo_err names _ _ h
def FA : ByteArray:=ByteArray.mk #[97]
def FF : ByteArray:=ByteArray.mk #[97, 47, 102]
def nF : ByteArray:=ByteArray.mk #[102]
abbrev sA : Slt:=(0, FA)
abbrev sF : Slt:=(1, nF)
def entG (m : Slt -> Option Int) (c : Chg) : Slt -> Option Int:=(applyF c e0 m).2
theorem app_map (c : Chg) (x : ByteArray) (m : Slt -> Option Int) : (applyF c x m).2 = entG m c:=by
 unfold entG applyF
 repeat' split
 all_goals rfl
theorem app_byte (c : Chg) (x : ByteArray) (m m' : Slt -> Option Int) : (applyF c x m).1 = (applyF c x m').1:=by
 unfold applyF
 repeat' split
 all_goals rfl
theorem entG_cases (m : Slt -> Option Int) (c : Chg) : entG m c = if c.what = 2 then fput m (c.node, c.src) c.target else if c.what = 3 then fdel m (c.node, c.src) else if c.what = 4 then fput (fdel m (c.node, c.src)) (c.node, c.dst) ((m (c.node, c.src)).getD 0) else m:=by
 unfold entG applyF
 by_cases h0 : c.what = 0
 ·simp [h0]
 by_cases h1 : c.what = 1
 ·simp [h1]
 by_cases h2 : c.what = 2
 ·simp [h2]
 by_cases h3 : c.what = 3
 ·simp [h3]
 by_cases h4 : c.what = 4
 ·simp [h4]
 simp [h0, h1, h2, h3, h4]
structure Prot (n : Nat) (m : Slt -> Option Int) : Prop where
 top : m sA = some 1
 fil : m sF = some 2
 rng : ∀ s k, m s = some k -> 1 <= k /\ k < n
 inj : ∀ s t k, m s = some k -> m t = some k -> s = t
structure Sc (n : Nat) (c : Chg) : Prop where
 node : 0 <= c.node /\ c.node < n
 byte : c.what = 0 ∨ c.what = 1 -> c.node ≠ 2
 ent : c.what = 2 ∨ c.what = 3 ∨ c.what = 4 -> (c.node, c.src) ≠ sA /\ (c.node, c.src) ≠ sF
 mov : c.what = 4 -> (c.node, c.dst) ≠ sA /\ (c.node, c.dst) ≠ sF
 tgt : c.what = 2 -> 1 <= c.target /\ c.target < n
theorem Sc.mono {n n' : Nat} {c : Chg} (h : Sc n c) (hn : n <= n') : Sc n' c:=⟨by have:=h.node; omega, h.byte, h.ent, h.mov, λ h' => by have:=h.tgt h'; omega⟩
theorem Prot.mono {n n' : Nat} {m : Slt -> Option Int} (h : Prot n m) (hn : n <= n') : Prot n' m:=⟨h.top, h.fil, λ s k hs => by have:=h.rng s k hs; omega, h.inj⟩
def Src (m : Slt -> Option Int) (L : List Chg) : Prop:=∀ L1 c L2, L = L1 ++ c :: L2 -> c.what = 4 -> L1.foldl entG m (c.node, c.src) ≠ none
def Apart (L : List Chg) : Prop:=L.Pairwise λ c c' => c.what = 2 -> c'.what = 2 -> c.target ≠ c'.target
structure Fresh (m : Slt -> Option Int) (L : List Chg) : Prop where
 out : ∀ c ∈ L, c.what = 2 -> ∀ s, m s ≠ some c.target
 apart : Apart L
section
variable {n : Nat} {m m' : Slt -> Option Int} {c : Chg} {L : List Chg}
theorem ent_val {s : Slt} {k : Int} (h : entG m c s = some k) : (∃ t, m t = some k) ∨ (c.what = 2 /\ k = c.target) ∨ k = 0:=by
 rw [entG_cases] at h
 split at h
 ·rename_i h2
  simp only [fput] at h
  split at h
  ·cases h; exact .inr (.inl ⟨h2, rfl⟩)
  ·exact .inl ⟨_, h⟩
 ·split at h
  ·simp only [fdel] at h
   split at h
   ·cases h
   ·exact .inl ⟨_, h⟩
  ·split at h
   ·simp only [fput] at h
    split at h
    ·cases hm : m (c.node, c.src) with
     | none => rw [hm] at h; cases h; exact .inr (.inr rfl)
     | some y => rw [hm] at h; cases h; exact .inl ⟨_, hm⟩
    ·simp only [fdel] at h
     split at h
     ·cases h
     ·exact .inl ⟨_, h⟩
   ·exact .inl ⟨_, h⟩
theorem Prot.step (h : Prot n m) (hc : Sc n c) (h4 : c.what = 4 -> m (c.node, c.src) ≠ none) (h2 : c.what = 2 -> ∀ s, m s ≠ some c.target) : Prot n (entG m c):=by
 rw [entG_cases]
 split
 ·rename_i hw
  have hs:=hc.ent (.inl hw)
  have ht:=hc.tgt hw
  have hf:=h2 hw
  refine ⟨?_, ?_, λ s k hk => ?_, λ s t k hk hk' => ?_⟩
  ·simp only [fput, if_neg (Ne.symm hs.1)]; exact h.top
  ·simp only [fput, if_neg (Ne.symm hs.2)]; exact h.fil
  ·simp only [fput] at hk
   split at hk
   ·cases hk; exact ht
   ·exact h.rng s k hk
  ·simp only [fput] at hk hk'
   split at hk
   ·rename_i e1
    cases hk
    split at hk'
    ·rename_i e2; rw [e1, e2]
    ·exact absurd hk' (hf t)
   ·split at hk'
    ·cases hk'
     exact absurd hk (hf s)
    ·exact h.inj s t k hk hk'
 ·split
  ·rename_i hw
   have hs:=hc.ent (.inr (.inl hw))
   refine ⟨?_, ?_, λ s k hk => ?_, λ s t k hk hk' => ?_⟩
   ·simp only [fdel, if_neg (Ne.symm hs.1)]; exact h.top
   ·simp only [fdel, if_neg (Ne.symm hs.2)]; exact h.fil
   ·simp only [fdel] at hk
    split at hk
    ·cases hk
    ·exact h.rng s k hk
   ·simp only [fdel] at hk hk'
    split at hk
    ·cases hk
    ·split at hk'
     ·cases hk'
     ·exact h.inj s t k hk hk'
  ·split
   ·rename_i hw
    have hs:=hc.ent (.inr (.inr hw))
    have hd:=hc.mov hw
    obtain ⟨k0, hk0⟩:=Option.ne_none_iff_exists'.1 (h4 hw)
    rw [hk0]
    simp only [Option.getD_some]
    refine ⟨?_, ?_, λ s k hk => ?_, λ s t k hk hk' => ?_⟩
    ·simp only [fput, if_neg (Ne.symm hd.1), fdel, if_neg (Ne.symm hs.1)]; exact h.top
    ·simp only [fput, if_neg (Ne.symm hd.2), fdel, if_neg (Ne.symm hs.2)]; exact h.fil
    ·simp only [fput] at hk
     split at hk
     ·cases hk; exact h.rng _ _ hk0
     ·simp only [fdel] at hk
      split at hk
      ·cases hk
      ·exact h.rng s k hk
    ·simp only [fput, fdel] at hk hk'
     split at hk
     ·rename_i e1
      cases hk
      split at hk'
      ·rename_i e2; rw [e1, e2]
      ·split at hk'
       ·cases hk'
       ·rename_i e3
        exact absurd (h.inj _ _ _ hk' hk0) e3
     ·split at hk
      ·cases hk
      ·rename_i e3
       split at hk'
       ·cases hk'
        exact absurd (h.inj _ _ _ hk hk0) e3
       ·split at hk'
        ·cases hk'
        ·exact h.inj s t k hk hk'
   ·exact h
theorem Src.cons (h : Src m (c :: L)) : Src (entG m c) L:=λ L1 x L2 e hx => h (c :: L1) x L2 (by rw [e]; rfl) hx
theorem Src.pre {L' : List Chg} (h : Src m (L ++ L')) : Src m L:=λ L1 x L2 e hx => h L1 x (L2 ++ L') (by rw [e]; simp) hx
theorem Src.snoc (h : Src m L) (hc : c.what = 4 -> L.foldl entG m (c.node, c.src) ≠ none) : Src m (L ++ [c]):=by
 intro L1 x L2 e hx
 rcases List.eq_nil_or_concat L2 with rfl | ⟨L2', y, rfl⟩
 ·have:=List.append_inj' e rfl
  have h2 : c = x:=by simpa using this.2
  rw [<- this.1, <- h2]
  exact hc (h2 ▸ hx)
 ·have e' : L ++ [c] = (L1 ++ x :: L2') ++ [y]:=by rw [e]; simp
  have:=List.append_inj' e' rfl
  exact h L1 x L2' this.1 hx
theorem Fresh.cons (h : Fresh m (c :: L)) (hs : ∀ x ∈ L, Sc n x) : Fresh (entG m c) L:=by
 have hp:=List.pairwise_cons.1 h.apart
 refine ⟨λ x hx hw s he => ?_, hp.2⟩
 rcases ent_val he with ⟨t, ht⟩ | ⟨h2, hk⟩ | h0
 ·exact h.out x (by simp [hx]) hw t ht
 ·exact hp.1 x hx h2 hw hk.symm
 ·have:=(hs x hx).tgt hw
  omega
theorem Fresh.pre {L' : List Chg} (h : Fresh m (L ++ L')) : Fresh m L:=⟨λ x hx => h.out x (by simp [hx]), (List.pairwise_append.1 h.apart).1⟩
theorem Prot.fold : ∀ {L : List Chg} {m : Slt -> Option Int}, Prot n m -> (∀ x ∈ L, Sc n x) -> Src m L -> Fresh m L -> Prot n (L.foldl entG m)
 | [], m, h, _, _, _ => h
 | c :: L, m, h, hs, hr, hf => by
  rw [List.foldl_cons]
  exact Prot.fold (h.step (hs c (by simp)) (λ h4 => hr [] c L rfl h4) (λ h2 => hf.out c (by simp) h2)) (λ x hx => hs x (by simp [hx])) hr.cons (hf.cons λ x hx => hs x (by simp [hx]))
def Ag (j : Int) (m m' : Slt -> Option Int) : Prop:=∀ x, m (j, x) = m' (j, x)
theorem Ag.refl (j : Int) (m : Slt -> Option Int) : Ag j m m:=λ _ => rfl
theorem ag_same {j : Int} (h : Ag j m m') (hc : c.node = j) : Ag j (entG m c) (entG m' c):=by
 intro x
 subst hc
 rw [entG_cases, entG_cases]
 split
 ·simp only [fput, h x]
 ·split
  ·simp only [fdel, h x]
  ·split
   ·simp only [fput, fdel, h x, h c.src]
   ·exact h x
theorem ag_other {j : Int} (hc : c.node ≠ j) : Ag j (entG m c) m:=by
 intro x
 have hne : ∀ y : ByteArray, (j, x) ≠ (c.node, y):=λ y he => hc (by injection he with h1 _; exact h1.symm)
 rw [entG_cases]
 split
 ·simp only [fput, if_neg (hne _)]
 ·split
  ·simp only [fdel, if_neg (hne _)]
  ·split
   ·simp only [fput, fdel, if_neg (hne _)]
   ·rfl
def onD (j : Int) (L : List Chg) : List Chg:=L.filter λ c => decide (c.node = j)
theorem fold_ag {j : Int} : ∀ (L : List Chg) {m m' : Slt -> Option Int}, Ag j m m' -> Ag j (L.foldl entG m) ((onD j L).foldl entG m')
 | [], m, m', h => h
 | c :: L, m, m', h => by
  by_cases hc : c.node = j
  ·have e : onD j (c :: L) = c :: onD j L:=by simp [onD, hc]
   rw [e, List.foldl_cons, List.foldl_cons]
   exact fold_ag L (ag_same h hc)
  ·have e : onD j (c :: L) = onD j L:=by simp [onD, hc]
   rw [e, List.foldl_cons]
   exact fold_ag L λ x => (ag_other hc x).trans (h x)
theorem fold_off {j : Int} : ∀ {L : List Chg} {m : Slt -> Option Int}, (∀ c ∈ L, c.node ≠ j) -> Ag j (L.foldl entG m) m
 | [], m, _ => Ag.refl j m
 | c :: L, m, h => by
  rw [List.foldl_cons]
  exact λ x => (fold_off (λ c hc => h c (by simp [hc])) x).trans (ag_other (h c (by simp)) x)
theorem on_rest {i j : Int} (h : j ≠ i) (L : List Chg) : onD j (restOf i L) = onD j L:=by
 unfold onD restOf
 rw [List.filter_filter]
 apply List.filter_congr
 intro c _
 by_cases hc : c.node = j
 ·have : c.node ≠ i:=by rw [hc]; exact h
  simp [hc, h]
 ·simp [hc]
theorem settle_eq (i : Int) (L : List Chg) (m : Slt -> Option Int) : (restOf i L).foldl entG ((onD i L).foldl entG m) = L.foldl entG m:=by
 funext ⟨j, x⟩
 by_cases hj : j = i
 ·subst hj
  rw [fold_off (L:=restOf j L) (λ c hc => by simpa [restOf] using (List.mem_filter.1 hc).2) x]
  exact (fold_ag L (Ag.refl j m) x).symm
 ·have h1 : Ag j ((onD i L).foldl entG m) m:=fold_off λ c hc => by
   have : c.node = i:=by simpa [onD] using (List.mem_filter.1 hc).2
   rw [this]; exact Ne.symm hj
  rw [fold_ag (restOf i L) h1 x, on_rest hj, fold_ag L (Ag.refl j m) x]
theorem filter_split {p : Chg -> Bool} {c : Chg} : ∀ {L A1 A2 : List Chg}, L.filter p = A1 ++ c :: A2 -> ∃ L1 L2, L = L1 ++ c :: L2 /\ L1.filter p = A1
 | [], A1, A2, h => by simp at h
 | x :: L, A1, A2, h => by
  by_cases hp : p x = true
  ·rw [List.filter_cons_of_pos hp] at h
   cases A1 with
   | nil =>
    simp only [List.nil_append, List.cons.injEq] at h
    exact ⟨[], L, by rw [h.1]; rfl, rfl⟩
   | cons y A1 =>
    simp only [List.cons_append, List.cons.injEq] at h
    obtain ⟨L1, L2, e1, e2⟩:=filter_split h.2
    exact ⟨x :: L1, L2, by rw [e1]; rfl, by rw [List.filter_cons_of_pos hp, e2, h.1]⟩
  ·rw [List.filter_cons_of_neg hp] at h
   obtain ⟨L1, L2, e1, e2⟩:=filter_split h
   exact ⟨x :: L1, L2, by rw [e1]; rfl, by rw [List.filter_cons_of_neg hp, e2]⟩
theorem Src.on (h : Src m L) (i : Int) : Src m (onD i L):=by
 intro A1 c A2 e hc
 have hci : c.node = i:=by
  have : c ∈ onD i L:=by rw [e]; simp
  simpa [onD] using (List.mem_filter.1 this).2
 obtain ⟨L1, L2, e1, e2⟩:=filter_split e
 have:=h L1 c L2 e1 hc
 rw [hci] at this ⊢
 have h3:=fold_ag (j:=i) L1 (Ag.refl i m) c.src
 rw [h3] at this
 have e3 : onD i L1 = A1:=e2
 rw [e3] at this
 exact this
theorem Src.rest (h : Src m L) (i : Int) : Src ((onD i L).foldl entG m) (restOf i L):=by
 intro A1 c A2 e hc
 have hci : c.node ≠ i:=by
  have : c ∈ restOf i L:=by rw [e]; simp
  simpa [restOf] using (List.mem_filter.1 this).2
 obtain ⟨L1, L2, e1, e2⟩:=filter_split e
 have:=h L1 c L2 e1 hc
 have h1 : Ag c.node ((onD i L).foldl entG m) m:=fold_off λ x hx => by
  have : x.node = i:=by simpa [onD] using (List.mem_filter.1 hx).2
  rw [this]; exact Ne.symm hci
 have e3 : restOf i L1 = A1:=e2
 rw [fold_ag A1 h1 c.src, <- e3, on_rest hci]
 rw [fold_ag L1 (Ag.refl c.node m) c.src] at this
 exact this
theorem fold_val : ∀ {L : List Chg} {m : Slt -> Option Int} {s : Slt} {k : Int}, L.foldl entG m s = some k -> (∃ t, m t = some k) ∨ (∃ c ∈ L, c.what = 2 /\ k = c.target) ∨ k = 0
 | [], m, s, k, h => .inl ⟨s, h⟩
 | c :: L, m, s, k, h => by
  rw [List.foldl_cons] at h
  rcases fold_val h with ⟨t, ht⟩ | ⟨x, hx, h2⟩ | h0
  ·rcases ent_val ht with h1 | h2 | h0
   ·exact .inl h1
   ·exact .inr (.inl ⟨c, by simp, h2⟩)
   ·exact .inr (.inr h0)
  ·exact .inr (.inl ⟨x, by simp [hx], h2⟩)
  ·exact .inr (.inr h0)
theorem Fresh.on (h : Fresh m L) (i : Int) : Fresh m (onD i L):=⟨λ c hc => h.out c (List.mem_filter.1 hc).1, h.apart.filter _⟩
theorem apart_ne (h : Apart L) {x y : Chg} (hx : x ∈ L) (hy : y ∈ L) (hne : x.node ≠ y.node) (h2 : x.what = 2) (h2' : y.what = 2) : x.target ≠ y.target:=by
 obtain ⟨i, hi, e1⟩:=List.getElem_of_mem hx
 obtain ⟨j, hj, e2⟩:=List.getElem_of_mem hy
 have hp:=List.pairwise_iff_getElem.1 h
 rcases Nat.lt_trichotomy i j with h' | h' | h'
 ·have:=hp i j hi hj h'
  rw [e1, e2] at this
  exact this h2 h2'
 ·subst h'
  rw [e1] at e2
  exact absurd (by rw [e2]) hne
 ·have:=hp j i hj hi h'
  rw [e1, e2] at this
  exact Ne.symm (this h2' h2)
theorem Fresh.rest (h : Fresh m L) (hs : ∀ x ∈ L, Sc n x) (i : Int) : Fresh ((onD i L).foldl entG m) (restOf i L):=by
 refine ⟨λ c hc h2 s he => ?_, h.apart.filter _⟩
 have hcL:=(List.mem_filter.1 hc).1
 have hci : c.node ≠ i:=by simpa [restOf] using (List.mem_filter.1 hc).2
 rcases fold_val he with ⟨t, ht⟩ | ⟨x, hx, h2', hk⟩ | h0
 ·exact h.out c hcL h2 t ht
 ·have hxi : x.node = i:=by simpa [onD] using (List.mem_filter.1 hx).2
  exact apart_ne h.apart hcL (List.mem_filter.1 hx).1 (by rw [hxi]; exact hci) h2 h2' hk
 ·have:=(hs c hcL).tgt h2
  omega
end
def bstep (i : Int) (x : ByteArray) (c : Chg) : ByteArray:=if c.node = i then (applyF c x λ _ => none).1 else x
def bfold (i : Int) (x : ByteArray) (L : List Chg) : ByteArray:=L.foldl (bstep i) x
def bOk (i : Int) : ByteArray -> List Chg -> Prop
 | _, [] => True
 | x, c :: r => (c.node = i -> c.fits x) /\ bOk i (bstep i x c) r
def gsize (i : Int) (c : Chg) : Nat:=if c.node = i /\ c.what = 0 then c.data.size else 0
def grows (i : Int) (L : List Chg) : Nat:=(L.map (gsize i)).sum
section
variable {i j : Int} {x : ByteArray} {m : Slt -> Option Int} {L : List Chg} {c : Chg}
theorem byte_other (h0 : c.what ≠ 0) (h1 : c.what ≠ 1) (x : ByteArray) (m : Slt -> Option Int) : (applyF c x m).1 = x:=by
 unfold applyF
 rw [if_neg h0, if_neg h1]
 repeat' split
 all_goals rfl
theorem fits_other (h0 : c.what ≠ 0) (h1 : c.what ≠ 1) (x : ByteArray) : c.fits x:=⟨λ h => absurd h h0, λ h => absurd h h1⟩
theorem app_size (c : Chg) (x : ByteArray) (m : Slt -> Option Int) : (applyF c x m).1.size <= x.size + (if c.what = 0 then c.data.size else 0):=by
 by_cases h0 : c.what = 0
 ·simp [applyF, h0]
 by_cases h1 : c.what = 1
 ·simp [applyF, h1]
  omega
 rw [byte_other h0 h1]
 omega
theorem settle_fold : ∀ (L : List Chg) (x : ByteArray) (m : Slt -> Option Int), L.foldl (settleStep i) (x, m) = (bfold i x L, (onD i L).foldl entG m)
 | [], x, m => rfl
 | c :: L, x, m => by
  rw [List.foldl_cons]
  by_cases hc : c.node = i
  ·have e1 : settleStep i (x, m) c = (bstep i x c, entG m c):=by
    simp only [settleStep, bstep, if_pos hc]
    exact Prod.ext (app_byte c x m _) (app_map c x m)
   have e2 : onD i (c :: L) = c :: onD i L:=by simp [onD, hc]
   rw [e1, settle_fold L, e2]
   rfl
  ·have e1 : settleStep i (x, m) c = (bstep i x c, m):=by simp only [settleStep, bstep, if_neg hc]
   have e2 : onD i (c :: L) = onD i L:=by simp [onD, hc]
   rw [e1, settle_fold L, e2]
   rfl
theorem foldOk_bOk : ∀ {L : List Chg} {x : ByteArray} {m : Slt -> Option Int}, bOk i x L -> foldOk i (x, m) L
 | [], x, m, _ => trivial
 | c :: L, x, m, h => by
  refine ⟨h.1, ?_⟩
  by_cases hc : c.node = i
  ·have e1 : settleStep i (x, m) c = (bstep i x c, entG m c):=by
    simp only [settleStep, bstep, if_pos hc]
    exact Prod.ext (app_byte c x m _) (app_map c x m)
   rw [e1]; exact foldOk_bOk h.2
  ·have e1 : settleStep i (x, m) c = (bstep i x c, m):=by simp only [settleStep, bstep, if_neg hc]
   rw [e1]; exact foldOk_bOk h.2
theorem bstep_size (i : Int) (x : ByteArray) (c : Chg) : (bstep i x c).size <= x.size + gsize i c:=by
 unfold bstep gsize
 by_cases hc : c.node = i
 ·have:=app_size c x (λ _ => none)
  simp only [hc, if_true, true_and]
  exact this
 ·simp [hc]
theorem bfold_size : ∀ (L : List Chg) (x : ByteArray), (bfold i x L).size <= x.size + grows i L
 | [], x => by simp [bfold, grows]
 | c :: L, x => by
  have h1:=bfold_size L (bstep i x c)
  have h2:=bstep_size i x c
  simp only [bfold, grows, List.foldl_cons, List.map_cons, List.sum_cons] at h1 ⊢
  omega
theorem grows_app (L L' : List Chg) : grows i (L ++ L') = grows i L + grows i L':=by simp [grows]
theorem bfold_snoc : bfold i x (L ++ [c]) = bstep i (bfold i x L) c:=by simp [bfold]
theorem bOk_snoc : ∀ {L : List Chg} {x : ByteArray}, bOk i x L -> (c.node = i -> c.fits (bfold i x L)) -> bOk i x (L ++ [c])
 | [], x, _, h => ⟨h, trivial⟩
 | y :: L, x, h, h' => ⟨h.1, bOk_snoc h.2 h'⟩
theorem bOk_pre : ∀ {L L' : List Chg} {x : ByteArray}, bOk i x (L ++ L') -> bOk i x L
 | [], L', x, _ => trivial
 | y :: L, L', x, h => ⟨h.1, bOk_pre h.2⟩
theorem bOk_at : ∀ {L L' : List Chg} {x : ByteArray}, bOk i x (L ++ c :: L') -> c.node = i -> c.fits (bfold i x L)
 | [], L', x, h, hc => h.1 hc
 | y :: L, L', x, h, hc => bOk_at (L:=L) h.2 hc
theorem bfold_rest (hj : j ≠ i) : ∀ (L : List Chg) (x : ByteArray), bfold j x (restOf i L) = bfold j x L /\ (bOk j x L -> bOk j x (restOf i L)) /\ grows j (restOf i L) = grows j L
 | [], x => ⟨rfl, λ h => h, rfl⟩
 | c :: L, x => by
  by_cases hc : c.node = i
  ·have e : restOf i (c :: L) = restOf i L:=by simp [restOf, hc]
   have hcj : c.node ≠ j:=by rw [hc]; exact Ne.symm hj
   have e2 : bstep j x c = x:=by simp [bstep, hcj]
   have e3 : gsize j c = 0:=by simp [gsize, hcj]
   obtain ⟨i1, i2, i3⟩:=bfold_rest hj L x
   rw [e]
   refine ⟨?_, λ h => ?_, ?_⟩
   ·rw [i1]; simp only [bfold, List.foldl_cons, e2]
   ·exact i2 (by have:=h.2; rw [e2] at this; exact this)
   ·rw [i3]; simp only [grows, List.map_cons, List.sum_cons, e3, Nat.zero_add]
  ·have e : restOf i (c :: L) = c :: restOf i L:=by simp [restOf, hc]
   obtain ⟨i1, i2, i3⟩:=bfold_rest hj L (bstep j x c)
   rw [e]
   refine ⟨?_, λ h => ⟨h.1, i2 h.2⟩, ?_⟩
   ·simp only [bfold, List.foldl_cons] at i1 ⊢; exact i1
   ·simp only [grows, List.map_cons, List.sum_cons] at i3 ⊢; rw [i3]
theorem bfold_none : ∀ {L : List Chg} (h : ∀ c ∈ L, c.node = j -> c.what ≠ 0 /\ c.what ≠ 1) (x : ByteArray), bfold j x L = x /\ bOk j x L /\ grows j L = 0
 | [], _, x => ⟨rfl, trivial, rfl⟩
 | c :: L, h, x => by
  have e2 : bstep j x c = x:=by
   unfold bstep
   split
   ·rename_i hc
    have:=h c (by simp) hc
    exact byte_other this.1 this.2 _ _
   ·rfl
  have e3 : gsize j c = 0:=by
   unfold gsize
   split
   ·rename_i hc
    exact absurd hc.2 (h c (by simp) hc.1).1
   ·rfl
  obtain ⟨i1, i2, i3⟩:=bfold_none (L:=L) (λ c hc => h c (by simp [hc])) x
  refine ⟨?_, ⟨λ hc => ?_, ?_⟩, ?_⟩
  ·simp only [bfold, List.foldl_cons, e2] at i1 ⊢; exact i1
  ·have:=h c (by simp) hc
   exact fits_other this.1 this.2 _
  ·rw [e2]; exact i2
  ·simp only [grows, List.map_cons, List.sum_cons, e3, Nat.zero_add] at i3 ⊢; exact i3
theorem rest_off (i : Int) (L : List Chg) : ∀ c ∈ restOf i L, c.node = i -> c.what ≠ 0 /\ c.what ≠ 1:=λ c hc h => by
 have : c.node ≠ i:=by simpa [restOf] using (List.mem_filter.1 hc).2
 exact absurd h this
theorem cStep_at {N : List Nd} {K : Slt -> Option Int} {i : Nat} {ni : Nd} (hi : c.node = i) (hin : N[i]? = some ni) : cStep (N, K) c = (N.set i { ni with kept:=bstep i ni.kept c }, entG K c):=by
 have hnd : ndAt N c.node = ni:=by simp [ndAt, hi, hin]
 unfold cStep
 rw [hnd]
 refine Prod.ext ?_ (app_map c _ _)
 have e : bstep i ni.kept c = (applyF c ni.kept K).1:=by
  unfold bstep
  rw [if_pos hi]
  exact app_byte c _ _ _
 rw [e, hi, Int.toNat_natCast]
theorem cFold_at : ∀ (L : List Chg) (N : List Nd) (K : Slt -> Option Int), (∀ c ∈ L, 0 <= c.node /\ c.node < N.length) ->
  (L.foldl cStep (N, K)).2 = L.foldl entG K /\ ∀ (j : Nat) nd, N[j]? = some nd -> (L.foldl cStep (N, K)).1[j]? = some { nd with kept:=bfold j nd.kept L }
 | [], N, K, _ => ⟨rfl, λ j nd h => h⟩
 | c :: L, N, K, h => by
  obtain ⟨h0, h1⟩:=h c (by simp)
  obtain ⟨i, hi⟩ : ∃ i : Nat, c.node = i:=⟨c.node.toNat, by omega⟩
  have hil : i < N.length:=by omega
  have hin : N[i]? = some N[i]:=List.getElem?_eq_getElem hil
  generalize N[i] = ni at hin
  have hnd : ndAt N c.node = ni:=by simp [ndAt, hi, hin]
  have e:=cStep_at (K:=K) hi hin
  have ih:=cFold_at L (N.set i { ni with kept:=bstep i ni.kept c }) (entG K c) λ x hx => by
   rw [List.length_set]; exact h x (by simp [hx])
  rw [List.foldl_cons, e]
  refine ⟨ih.1, λ j nd hj => ?_⟩
  by_cases hji : i = j
  ·subst hji
   rw [hin] at hj
   cases hj
   have:=ih.2 i _ (List.getElem?_set_self hil)
   rw [this]
   rfl
  ·have:=ih.2 j nd (by rw [List.getElem?_set_ne hji]; exact hj)
   rw [this]
   have hcj : c.node ≠ (j : Int):=by rw [hi]; omega
   simp only [bfold, List.foldl_cons]
   rw [show bstep j nd.kept c = nd.kept by simp [bstep, hcj]]
theorem cOk_of : ∀ (L : List Chg) (N : List Nd) (K : Slt -> Option Int), (∀ c ∈ L, 0 <= c.node /\ c.node < N.length) -> (∀ (j : Nat) nd, N[j]? = some nd -> bOk j nd.kept L) -> crashOk (N, K) L
 | [], N, K, _, _ => trivial
 | c :: L, N, K, h, hb => by
  obtain ⟨h0, h1⟩:=h c (by simp)
  obtain ⟨i, hi⟩ : ∃ i : Nat, c.node = i:=⟨c.node.toNat, by omega⟩
  have hil : i < N.length:=by omega
  have hin : N[i]? = some N[i]:=List.getElem?_eq_getElem hil
  generalize N[i] = ni at hin
  have hnd : ndAt N c.node = ni:=by simp [ndAt, hi, hin]
  have e:=cStep_at (K:=K) hi hin
  refine ⟨⟨h0, h1, by rw [hnd]; exact (hb i ni hin).1 hi⟩, ?_⟩
  rw [e]
  refine cOk_of L _ _ (λ x hx => by rw [List.length_set]; exact h x (by simp [hx])) λ j nd hj => ?_
  by_cases hji : i = j
  ·subst hji
   rw [List.getElem?_set_self hil] at hj
   cases hj
   exact (hb i ni hin).2
  ·rw [List.getElem?_set_ne hji] at hj
   have:=(hb j nd hj).2
   have hcj : c.node ≠ (j : Int):=by rw [hi]; omega
   rw [show bstep j nd.kept c = nd.kept by simp [bstep, hcj]] at this
   exact this
end
theorem crash_any (P : List Chg) (keep torn : Int) : ∃ k, crashL P keep torn = P.take k ∨ ∃ c x, P[k]? = some c /\ c.what = 0 /\ x.size <= c.data.size /\ crashL P keep torn = P.take k ++ [{ c with data:=x }]:=by
 refine ⟨clampN keep P.length, ?_⟩
 unfold crashL
 cases hk : P[clampN keep P.length]? with
 | none => left; simp
 | some c =>
  by_cases h0 : c.what = 0
  ·right
   refine ⟨c, c.data.extract 0 (clampN torn c.data.size), rfl, h0, ?_, by simp [h0]⟩
   have:=clamp_le torn c.data.size
   rw [ByteArray.size_extract]; omega
  ·left; simp [h0]
structure NodeOk (A : Nat) (S : Slt -> Option Int) (P : List Chg) (j : Nat) (nd : Nd) : Prop where
 ok : bOk j nd.kept P
 eq : (∃ s, S s = some (j : Int)) -> bfold j nd.kept P = nd.seen
 seen : nd.seen.size <= A
 kept : nd.kept.size + grows j P <= A
structure Inv1 (A M : Nat) (data : ByteArray) (d : Dk) : Prop where
 n0 : ∃ nd, d.nodes[0]? = some nd /\ nd.kind = 1
 n1 : ∃ nd, d.nodes[1]? = some nd /\ nd.kind = 1
 n2 : d.nodes[2]? = some ⟨2, data, data⟩
 prot : Prot d.nodes.length d.kept
 sc : ∀ c ∈ d.pending, Sc d.nodes.length c
 src : Src d.kept d.pending
 fr : Fresh d.kept d.pending
 eq : d.pending.foldl entG d.kept = d.seen
 node : ∀ (j : Nat) nd, d.nodes[j]? = some nd -> NodeOk A d.seen d.pending j nd
 len : d.nodes.length <= M
 plen : d.pending.length <= M
section
variable {A M : Nat} {data : ByteArray} {d d' : Dk}
theorem Inv1.pseen (h : Inv1 A M data d) : Prot d.nodes.length d.seen:=by
 rw [<- h.eq]; exact h.prot.fold h.sc h.src h.fr
theorem Inv1.congr (h : Inv1 A M data d) {A' M' : Nat} (h1 : d'.nodes = d.nodes) (h2 : d'.seen = d.seen) (h3 : d'.kept = d.kept) (h4 : d'.pending = d.pending) (hA : A <= A') (hM : M <= M') : Inv1 A' M' data d':=by
 refine ⟨by rw [h1]; exact h.n0, by rw [h1]; exact h.n1, by rw [h1]; exact h.n2, by rw [h1, h3]; exact h.prot, by rw [h1, h4]; exact h.sc, by rw [h3, h4]; exact h.src, by rw [h3, h4]; exact h.fr, by rw [h2, h3, h4]; exact h.eq, λ j nd hj => ?_, by rw [h1]; have:=h.len; omega, by rw [h4]; have:=h.plen; omega⟩
 rw [h1] at hj
 rw [h2, h4]
 have t:=h.node j nd hj
 exact ⟨t.ok, t.eq, by have:=t.seen; omega, by have:=t.kept; omega⟩
theorem Inv1.good (h : Inv1 A M data d) : Good d:=⟨λ s k hs => (h.pseen.rng s k hs).2, by
 obtain ⟨nd, h1, _⟩:=h.n0
 exact (List.getElem?_eq_some_iff.1 h1).1⟩
theorem Inv1.addNode (h : Inv1 A M data d) (kind : Int) : Inv1 A (M + 1) data (d.addNode kind):=by
 have hl : ∀ (i : Nat) a, d.nodes[i]? = some a -> (d.nodes ++ [(⟨kind, e0, e0⟩ : Nd)])[i]? = some a:=λ i a ha => by rw [List.getElem?_append_left (List.getElem?_eq_some_iff.1 ha).1]; exact ha
 have hle : d.nodes.length <= (d.nodes ++ [(⟨kind, e0, e0⟩ : Nd)]).length:=by simp
 obtain ⟨a0, b0, c0⟩:=h.n0
 obtain ⟨a1, b1, c1⟩:=h.n1
 refine ⟨⟨a0, hl _ _ b0, c0⟩, ⟨a1, hl _ _ b1, c1⟩, hl _ _ h.n2, h.prot.mono hle, λ c hc => (h.sc c hc).mono hle, h.src, h.fr, h.eq, λ j nd hj => ?_, by
  have:=h.len
  show (d.nodes ++ [(⟨kind, e0, e0⟩ : Nd)]).length <= M + 1
  simp; omega, by have:=h.plen; show d.pending.length <= M + 1; omega⟩
 have hj' : (d.nodes ++ [(⟨kind, e0, e0⟩ : Nd)])[j]? = some nd:=hj
 by_cases hjl : j < d.nodes.length
 ·rw [List.getElem?_append_left hjl] at hj'
  exact h.node j nd hj'
 ·rw [List.getElem?_append_right (by omega)] at hj'
  have hjn : j - d.nodes.length = 0:=by
   have:=(List.getElem?_eq_some_iff.1 hj').1
   simp at this; omega
  rw [hjn] at hj'
  have : nd = ⟨kind, e0, e0⟩:=by simpa using hj'.symm
  subst this
  obtain ⟨i1, i2, i3⟩:=bfold_none (j:=(j : Int)) (L:=d.pending) (λ c hc hcj => by
   have:=(h.sc c hc).node
   omega) e0
  exact ⟨i2, λ _ => i1, Nat.zero_le _, by show e0.size + grows j d.pending <= A; rw [i3]; exact Nat.zero_le _⟩
theorem Inv1.act (h : Inv1 A M data d) : Inv1 A M data d.actF.2:=by
 obtain ⟨e1, e2, e3, e4⟩:=actF_same d
 exact h.congr e1 e2 e3 e4 (Nat.le_refl _) (Nat.le_refl _)
theorem Inv1.do' (h : Inv1 A M data d) {c : Chg} {i : Nat} {nd : Nd} (hi : d.nodes[i]? = some nd) (hn : c.node = i) (hsc : Sc d.nodes.length c) (h4 : c.what = 4 -> d.seen (c.node, c.src) ≠ none)
  (h2 : c.what = 2 -> (∀ s, d.kept s ≠ some c.target) /\ (∀ x ∈ d.pending, x.what = 2 -> x.target ≠ c.target) /\ ∀ (t : Nat) nd', c.target = t -> d.nodes[t]? = some nd' -> bfold t nd'.kept d.pending = nd'.seen)
  (hb : c.what = 0 ∨ c.what = 1 -> ∃ s, d.seen s = some (i : Int)) (hf : c.fits nd.seen) : Inv1 (A + c.data.size) (M + 1) data (doF d c i nd).2:=by
 unfold doF
 obtain ⟨e1, e2, e3, e4⟩:=actF_same d
 split
 ·exact (h.act).congr rfl rfl rfl rfl (by omega) (by omega)
 have hil:=(List.getElem?_eq_some_iff.1 hi).1
 have hprot' : Prot d.nodes.length (entG d.seen c):=h.pseen.step hsc h4 (λ hw s hs => by
  obtain ⟨q1, q2, _⟩:=h2 hw
  rw [<- h.eq] at hs
  rcases fold_val hs with ⟨t, ht⟩ | ⟨x, hx, hx2, hk⟩ | h0
  ·exact q1 t ht
  ·exact q2 x hx hx2 hk.symm
  ·have:=hsc.tgt hw; omega)
 have hlen : (d.nodes.set i { nd with seen:=(applyF c nd.seen d.seen).1 }).length = d.nodes.length:=List.length_set
 have hset : ∀ (j : Nat) a, d.nodes[j]? = some a -> ∃ b, (d.nodes.set i { nd with seen:=(applyF c nd.seen d.seen).1 })[j]? = some b /\ b.kind = a.kind /\ b.kept = a.kept:=λ j a ha => by
  by_cases hji : i = j
  ·subst hji
   rw [hi] at ha; cases ha
   exact ⟨_, List.getElem?_set_self hil, rfl, rfl⟩
  ·exact ⟨a, by rw [List.getElem?_set_ne hji]; exact ha, rfl, rfl⟩
 have hfold : (d.pending ++ [c]).foldl entG d.kept = entG d.seen c:=by rw [List.foldl_append, h.eq]; rfl
 have halive : ∀ (j : Nat) x, d.nodes[j]? = some x -> (∃ s, entG d.seen c s = some (j : Int)) -> bfold j x.kept d.pending = x.seen:=by
  rintro j x hx ⟨s, hs⟩
  have hr:=hprot'.rng s _ hs
  rcases ent_val hs with ht | ⟨hw, hk⟩ | h0
  ·exact (h.node j x hx).eq ht
  ·exact (h2 hw).2.2 j x hk.symm hx
  ·omega
 refine ⟨?_, ?_, ?_, ?_, ?_, ?_, ?_, ?_, ?_, ?_, ?_⟩
 ·obtain ⟨a0, b0, c0⟩:=h.n0
  obtain ⟨x, x1, x2, _⟩:=hset 0 a0 b0
  exact ⟨x, x1, by rw [x2]; exact c0⟩
 ·obtain ⟨a0, b0, c0⟩:=h.n1
  obtain ⟨x, x1, x2, _⟩:=hset 1 a0 b0
  exact ⟨x, x1, by rw [x2]; exact c0⟩
 ·show (d.nodes.set i _)[2]? = _
  by_cases hi2 : i = 2
  ·subst hi2
   have hw:=hsc.byte
   rw [hn] at hw
   have h0 : c.what ≠ 0:=λ he => hw (.inl he) rfl
   have h1 : c.what ≠ 1:=λ he => hw (.inr he) rfl
   rw [byte_other h0 h1, List.getElem?_set_self hil]
   have:=h.n2
   rw [hi] at this
   cases this
   rfl
  ·rw [List.getElem?_set_ne hi2]; exact h.n2
 ·show Prot (d.nodes.set i _).length d.actF.2.kept
  rw [hlen, e3]; exact h.prot
 ·show ∀ x ∈ d.pending ++ [c], Sc (d.nodes.set i _).length x
  rw [hlen]
  intro x hx
  rcases List.mem_append.1 hx with hx | hx
  ·exact h.sc x hx
  ·obtain rfl:=List.mem_singleton.1 hx; exact hsc
 ·show Src d.actF.2.kept (d.pending ++ [c])
  rw [e3]
  exact h.src.snoc λ hw => by rw [h.eq]; exact h4 hw
 ·show Fresh d.actF.2.kept (d.pending ++ [c])
  rw [e3]
  refine ⟨λ x hx hw => ?_, List.pairwise_append.2 ⟨h.fr.apart, by simp, λ x hx y hy hx2 hy2 => ?_⟩⟩
  ·rcases List.mem_append.1 hx with hx | hx
   ·exact h.fr.out x hx hw
   ·obtain rfl:=List.mem_singleton.1 hx; exact (h2 hw).1
  ·obtain rfl:=List.mem_singleton.1 hy
   exact (h2 hy2).2.1 x hx hx2
 ·show (d.pending ++ [c]).foldl entG d.actF.2.kept = (applyF c nd.seen d.seen).2
  rw [e3, hfold, app_map]
 ·intro j x hj
  have hj' : (d.nodes.set i { nd with seen:=(applyF c nd.seen d.seen).1 })[j]? = some x:=hj
  show NodeOk _ (applyF c nd.seen d.seen).2 (d.pending ++ [c]) j x
  rw [app_map]
  have hgs : gsize j c <= c.data.size:=by unfold gsize; split <;> omega
  have hg1 : grows j (d.pending ++ [c]) = grows j d.pending + gsize j c:=by rw [grows_app]; simp [grows]
  by_cases hji : i = j
  ·subst hji
   rw [List.getElem?_set_self hil] at hj'
   cases hj'
   have t:=h.node i nd hi
   have hal:=halive i nd hi
   refine ⟨bOk_snoc t.ok λ _ => ?_, λ ha => ?_, ?_, ?_⟩
   ·by_cases hw : c.what = 0 ∨ c.what = 1
    ·rw [t.eq (hb hw)]; exact hf
    ·rw [not_or] at hw; exact fits_other hw.1 hw.2 _
   ·rw [bfold_snoc]
    have e : bfold i nd.kept d.pending = nd.seen:=by
     by_cases hw : c.what = 0 ∨ c.what = 1
     ·exact t.eq (hb hw)
     ·exact hal ha
    show bstep i (bfold i nd.kept d.pending) c = _
    rw [e]
    unfold bstep
    rw [if_pos hn]
    exact app_byte c _ _ _
   ·have h1:=app_size c nd.seen d.seen
    have h2:=t.seen
    show (applyF c nd.seen d.seen).1.size <= _
    split at h1 <;> omega
   ·have h2:=t.kept
    show nd.kept.size + _ <= _
    omega
  ·rw [List.getElem?_set_ne hji] at hj'
   have t:=h.node j x hj'
   have hcj : c.node ≠ (j : Int):=by rw [hn]; omega
   refine ⟨bOk_snoc t.ok λ he => absurd he hcj, λ ha => ?_, by have:=t.seen; omega, by have:=t.kept; omega⟩
   rw [bfold_snoc, show bstep j (bfold j x.kept d.pending) c = bfold j x.kept d.pending by simp [bstep, hcj]]
   exact halive j x hj' ha
 ·show (d.nodes.set i _).length <= M + 1
  rw [hlen]; have:=h.len; omega
 ·show (d.pending ++ [c]).length <= M + 1
  have:=h.plen
  simp; omega
theorem Inv1.settle (h : Inv1 A M data d) {i : Nat} {nd : Nd} (hi : d.nodes[i]? = some nd) : Inv1 A M data (settleF d i nd).2:=by
 unfold settleF
 obtain ⟨e1, e2, e3, e4⟩:=actF_same d
 split
 ·exact h.act
 rw [settle_fold]
 have hil:=(List.getElem?_eq_some_iff.1 hi).1
 have hscr : ∀ x ∈ restOf i d.pending, Sc d.nodes.length x:=λ x hx => h.sc x (List.mem_filter.1 hx).1
 have hsco : ∀ x ∈ onD i d.pending, Sc d.nodes.length x:=λ x hx => h.sc x (List.mem_filter.1 hx).1
 have hlen : (d.nodes.set i { nd with kept:=bfold i nd.kept d.pending }).length = d.nodes.length:=List.length_set
 have hset : ∀ (j : Nat) a, d.nodes[j]? = some a -> ∃ b, (d.nodes.set i { nd with kept:=bfold i nd.kept d.pending })[j]? = some b /\ b.kind = a.kind /\ b.seen = a.seen:=λ j a ha => by
  by_cases hji : i = j
  ·subst hji
   rw [hi] at ha; cases ha
   exact ⟨_, List.getElem?_set_self hil, rfl, rfl⟩
  ·exact ⟨a, by rw [List.getElem?_set_ne hji]; exact ha, rfl, rfl⟩
 have hplr : (restOf i d.pending).length <= d.pending.length:=List.length_filter_le _ _
 refine ⟨?_, ?_, ?_, ?_, ?_, ?_, ?_, ?_, ?_, ?_, ?_⟩
 ·obtain ⟨a0, b0, c0⟩:=h.n0
  obtain ⟨x, x1, x2, _⟩:=hset 0 a0 b0
  exact ⟨x, x1, by rw [x2]; exact c0⟩
 ·obtain ⟨a0, b0, c0⟩:=h.n1
  obtain ⟨x, x1, x2, _⟩:=hset 1 a0 b0
  exact ⟨x, x1, by rw [x2]; exact c0⟩
 ·show (d.nodes.set i _)[2]? = _
  by_cases hi2 : i = 2
  ·subst hi2
   have hb:=(bfold_none (j:=((2 : Nat) : Int)) (L:=d.pending) (λ c hc hcj => by
    have:=(h.sc c hc).byte
    rw [hcj] at this
    exact ⟨λ he => this (.inl he) rfl, λ he => this (.inr he) rfl⟩) nd.kept).1
   rw [hb, List.getElem?_set_self hil]
   have:=h.n2
   rw [hi] at this
   cases this
   rfl
  ·rw [List.getElem?_set_ne hi2]; exact h.n2
 ·show Prot (d.nodes.set i _).length ((onD i d.pending).foldl entG d.kept)
  rw [hlen]
  exact h.prot.fold hsco (h.src.on i) (h.fr.on i)
 ·show ∀ x ∈ restOf i d.pending, Sc (d.nodes.set i _).length x
  rw [hlen]; exact hscr
 ·exact h.src.rest i
 ·exact h.fr.rest h.sc i
 ·show (restOf i d.pending).foldl entG ((onD i d.pending).foldl entG d.kept) = d.actF.2.seen
  rw [settle_eq, e2]; exact h.eq
 ·intro j x hj
  have hj' : (d.nodes.set i { nd with kept:=bfold i nd.kept d.pending })[j]? = some x:=hj
  show NodeOk A d.actF.2.seen (restOf i d.pending) j x
  rw [e2]
  by_cases hji : i = j
  ·subst hji
   rw [List.getElem?_set_self hil] at hj'
   cases hj'
   have t:=h.node i nd hi
   obtain ⟨q1, q2, q3⟩:=bfold_none (j:=(i : Int)) (L:=restOf i d.pending) (rest_off i d.pending) (bfold i nd.kept d.pending)
   refine ⟨q2, λ ha => ?_, t.seen, ?_⟩
   ·show bfold i (bfold i nd.kept d.pending) (restOf i d.pending) = nd.seen
    rw [q1]; exact t.eq ha
   ·show (bfold i nd.kept d.pending).size + grows i (restOf i d.pending) <= A
    rw [q3]
    have:=bfold_size (i:=(i : Int)) d.pending nd.kept
    have:=t.kept
    omega
  ·rw [List.getElem?_set_ne hji] at hj'
   have t:=h.node j x hj'
   obtain ⟨q1, q2, q3⟩:=bfold_rest (j:=(j : Int)) (i:=(i : Int)) (by omega) d.pending x.kept
   exact ⟨q2 t.ok, λ ha => by rw [q1]; exact t.eq ha, t.seen, by rw [q3]; exact t.kept⟩
 ·show (d.nodes.set i _).length <= M
  rw [hlen]; exact h.len
 ·show (restOf i d.pending).length <= M
  have:=h.plen; omega
theorem crash_list (h : Inv1 A M data d) (keep torn : Int) (hA : A <= 2305843009213693952) : (∀ c ∈ crashL d.pending keep torn, Sc d.nodes.length c) /\ Src d.kept (crashL d.pending keep torn) /\ Fresh d.kept (crashL d.pending keep torn) /\
  ∀ (j : Nat) nd, d.nodes[j]? = some nd -> bOk j nd.kept (crashL d.pending keep torn) /\ (bfold j nd.kept (crashL d.pending keep torn)).size <= A:=by
 obtain ⟨k, hk⟩:=crash_any d.pending keep torn
 have hsplit : d.pending = d.pending.take k ++ d.pending.drop k:=(List.take_append_drop k _).symm
 have hs:=h.src
 have hf:=h.fr
 have pre : ∀ (j : Nat) nd, d.nodes[j]? = some nd -> bOk j nd.kept (d.pending.take k) /\ nd.kept.size + grows j (d.pending.take k) <= A:=λ j nd hj => by
  have t:=h.node j nd hj
  have t1:=t.ok
  have t2:=t.kept
  rw [hsplit] at t1 t2
  rw [grows_app] at t2
  exact ⟨bOk_pre t1, by omega⟩
 rw [hsplit] at hs hf
 rcases hk with e | ⟨c, x, hc, hw, hx, e⟩
 ·rw [e]
  refine ⟨λ c hc => h.sc c (List.mem_of_mem_take hc), hs.pre, hf.pre, λ j nd hj => ?_⟩
  obtain ⟨p1, p2⟩:=pre j nd hj
  have:=bfold_size (i:=(j : Int)) (d.pending.take k) nd.kept
  exact ⟨p1, by omega⟩
 ·rw [e]
  have hcs:=h.sc c (List.mem_of_getElem? hc)
  have hkl:=(List.getElem?_eq_some_iff.1 hc).1
  have hdrop : d.pending.drop k = c :: d.pending.drop (k + 1):=by
   rw [List.drop_eq_getElem_cons hkl]
   congr 1
   exact (List.getElem?_eq_some_iff.1 hc).2
  refine ⟨λ y hy => ?_, hs.pre.snoc λ h4 => ?_, ⟨λ y hy h2 => ?_, List.pairwise_append.2 ⟨hf.pre.apart, by simp, λ y hy z hz h2 h2' => ?_⟩⟩, λ j nd hj => ?_⟩
  ·rcases List.mem_append.1 hy with hy | hy
   ·exact h.sc y (List.mem_of_mem_take hy)
   ·obtain rfl:=List.mem_singleton.1 hy
    exact ⟨hcs.node, hcs.byte, hcs.ent, hcs.mov, hcs.tgt⟩
  ·simp only [hw] at h4; exact absurd h4 (by decide)
  ·rcases List.mem_append.1 hy with hy | hy
   ·exact hf.pre.out y hy h2
   ·obtain rfl:=List.mem_singleton.1 hy
    simp only [hw] at h2; exact absurd h2 (by decide)
  ·obtain rfl:=List.mem_singleton.1 hz
   simp only [hw] at h2'; exact absurd h2' (by decide)
  ·obtain ⟨p1, p2⟩:=pre j nd hj
   have hb:=bfold_size (i:=(j : Int)) (d.pending.take k) nd.kept
   have t:=h.node j nd hj
   have t1:=t.ok
   have t2:=t.kept
   rw [hsplit, hdrop] at t1 t2
   rw [grows_app] at t2
   have hg : gsize j c <= grows j (c :: d.pending.drop (k + 1)):=by simp [grows]
   refine ⟨bOk_snoc p1 λ hcj => ⟨λ _ => ?_, λ h1 => by simp only [hw] at h1; exact absurd h1 (by decide)⟩, ?_⟩
   ·have:=(bOk_at t1 hcj).1 hw
    show (bfold j nd.kept (d.pending.take k)).size + x.size <= _
    omega
   ·rw [bfold_snoc]
    have h1:=bstep_size j (bfold j nd.kept (d.pending.take k)) { c with data:=x }
    have h2 : gsize j { c with data:=x } <= gsize j c:=by
     unfold gsize
     simp only
     split
     ·exact hx
     ·exact Nat.le_refl _
    omega
theorem Inv1.crash (h : Inv1 A M data d) (keep torn : Int) (hA : A <= 2305843009213693952) :
  crashOk (d.nodes, d.kept) (crashL d.pending keep torn) /\ Tree { d with nodes:=((crashL d.pending keep torn).foldl cStep (d.nodes, d.kept)).1, kept:=((crashL d.pending keep torn).foldl cStep (d.nodes, d.kept)).2 } /\
  ∀ d', Reached { d with nodes:=((crashL d.pending keep torn).foldl cStep (d.nodes, d.kept)).1, kept:=((crashL d.pending keep torn).foldl cStep (d.nodes, d.kept)).2 } d' -> Inv1 A M data d' /\ d'.down = false:=by
 obtain ⟨l1, l2, l3, l4⟩:=crash_list h keep torn hA
 generalize crashL d.pending keep torn = L at *
 obtain ⟨f1, f2⟩:=cFold_at L d.nodes d.kept λ c hc => (l1 c hc).node
 have hlen:=cFold_len' L (d.nodes, d.kept)
 have hp : Prot d.nodes.length (L.foldl entG d.kept):=h.prot.fold l1 l2 l3
 generalize hst : L.foldl cStep (d.nodes, d.kept) = st at *
 simp only at hlen
 refine ⟨cOk_of L d.nodes d.kept (λ c hc => (l1 c hc).node) λ j nd hj => (l4 j nd hj).1, ⟨λ s k hs => ?_, λ s t k hs ht => ?_⟩, λ d' hr => ⟨?_, hr.off.2.1⟩⟩
 ·simp only at hs ⊢
  rw [f1] at hs
  rw [hlen]
  exact hp.rng s k hs
 ·simp only at hs ht
  rw [f1] at hs ht
  exact hp.inj s t k hs ht
 ·have hsub : ∀ s k, d'.seen s = some k -> L.foldl entG d.kept s = some k:=λ s k hs => by
   have:=hr.sub s k hs
   simp only at this
   rw [f1] at this
   exact this
  have hkept : d'.kept = d'.seen:=funext hr.eq
  have hpend : d'.pending = []:=hr.off.2.2
  have hdl : d'.nodes.length = d.nodes.length:=by rw [hr.len]; exact hlen
  have hat : ∀ (j : Nat) nd, d.nodes[j]? = some nd -> ∃ x, d'.nodes[j]? = some x /\ x.kind = nd.kind /\ x.kept = bfold j nd.kept L /\ (x.seen = nd.seen ∨ x.seen = bfold j nd.kept L) /\ ((∃ s, d'.seen s = some (j : Int)) -> x.seen = x.kept):=λ j nd hj => by
   have e:=f2 j nd hj
   have hgot : (∃ s, d'.seen s = some (j : Int)) -> d'.nodes[j]? = some ⟨nd.kind, bfold j nd.kept L, bfold j nd.kept L⟩:=λ ⟨s, hs⟩ => by
    have:=hr.got s j hs _ (by simpa using e)
    simpa using this
   rcases hr.each j _ e with h' | h'
   ·refine ⟨_, h', rfl, rfl, .inl rfl, λ ha => ?_⟩
    have:=hgot ha
    rw [h'] at this
    injection this with this
    rw [this]
   ·exact ⟨_, h', rfl, rfl, .inr rfl, λ _ => rfl⟩
  have htop : d'.seen sA = some 1:=hr.root FA 1 (by simp only; rw [f1]; exact hp.top)
  have hfil : d'.seen sF = some 2:=by
   refine hr.closed sA 1 htop ?_ nF 2 (by simp only; rw [f1]; exact hp.fil)
   obtain ⟨a1, b1, c1⟩:=h.n1
   have e:=f2 1 a1 b1
   simp only [Dk.nd]
   rw [show (1 : Int).toNat = 1 from rfl, e]
   exact c1
  have hprot : Prot d.nodes.length d'.seen:=⟨htop, hfil, λ s k hs => hp.rng s k (hsub s k hs), λ s t k hs ht => hp.inj s t k (hsub s k hs) (hsub t k ht)⟩
  have h2b : bfold ((2 : Nat) : Int) data L = data:=(bfold_none (j:=((2 : Nat) : Int)) (L:=L) (λ c hc hcj => by
    have:=(l1 c hc).byte
    rw [hcj] at this
    exact ⟨λ he => this (.inl he) rfl, λ he => this (.inr he) rfl⟩) data).1
  refine ⟨?_, ?_, ?_, ?_, ?_, ?_, ?_, ?_, ?_, ?_, ?_⟩
  ·obtain ⟨a0, b0, c0⟩:=h.n0
   obtain ⟨x, x1, x2, _⟩:=hat 0 a0 b0
   exact ⟨x, x1, by rw [x2]; exact c0⟩
  ·obtain ⟨a0, b0, c0⟩:=h.n1
   obtain ⟨x, x1, x2, _⟩:=hat 1 a0 b0
   exact ⟨x, x1, by rw [x2]; exact c0⟩
  ·obtain ⟨x, x1, x2, x3, x4, _⟩:=hat 2 _ h.n2
   rw [x1]
   simp only at x2 x3 x4
   rw [h2b] at x3 x4
   obtain ⟨xk, xs, xe⟩:=x
   simp only at x2 x3 x4
   subst x2
   subst x3
   rcases x4 with x4 | x4 <;> rw [x4]
  ·rw [hdl, hkept]; exact hprot
  ·rw [hpend]; intro c hc; cases hc
  ·rw [hpend]; intro L1 c L2 e _; exact absurd e (by simp)
  ·rw [hpend]; exact ⟨λ c hc => (by cases hc), List.Pairwise.nil⟩
  ·rw [hpend, hkept]; rfl
  ·intro j x hj
   rw [hpend]
   have hjl : j < d.nodes.length:=by rw [<- hdl]; exact (List.getElem?_eq_some_iff.1 hj).1
   obtain ⟨y, y1, y2, y3, y4, y5⟩:=hat j _ (List.getElem?_eq_getElem hjl)
   rw [hj] at y1
   cases y1
   have t:=h.node j _ (List.getElem?_eq_getElem hjl)
   have t2:=(l4 j _ (List.getElem?_eq_getElem hjl)).2
   refine ⟨trivial, λ ha => (y5 ha).symm, ?_, ?_⟩
   ·rcases y4 with y4 | y4
    ·rw [y4]; exact t.seen
    ·rw [y4]; exact t2
   ·rw [y3]
    have : grows (j : Int) [] = 0:=rfl
    rw [this]; exact t2
  ·rw [hdl]; exact h.len
  ·rw [hpend]; exact Nat.zero_le _
end
inductive Rt (m : Slt -> Option Int) : Int -> List ByteArray -> Prop
 | root : Rt m 0 []
 | step {D k : Int} {n : ByteArray} {pre : List ByteArray} (h : Rt m D pre) (hk : m (D, n) = some k) : Rt m k (pre ++ [n])
section
variable {A M n : Nat} {data : ByteArray} {d d' : Dk} {m : Slt -> Option Int}
theorem walkGo_res : ∀ (rest : List ByteArray) (a : Slt) (node : Int) (done : List ByteArray), Rt d.seen node done -> (d.walkGo a node rest).1 = 0 -> rest ≠ [] ->
  ∃ D pre last, done ++ rest = pre ++ [last] /\ Rt d.seen D pre /\ (d.walkGo a node rest).2.1 = (D, last) /\ (d.walkGo a node rest).2.2 = (d.seen (D, last)).getD (-1)
 | [], a, node, done, _, _, h => absurd rfl h
 | x :: rest, a, node, done, hr, h, _ => by
  unfold Dk.walkGo at h ⊢
  by_cases h1 : node < 0
  ·rw [if_pos h1] at h; cases h
  rw [if_neg h1] at h ⊢
  by_cases h2 : (d.nd node).kind ≠ 1
  ·rw [if_pos h2] at h; cases h
  rw [if_neg h2] at h ⊢
  by_cases h3 : (d.seen (node, x)).getD (-1) < 0 /\ rest ≠ []
  ·rw [if_pos h3] at h; cases h
  rw [if_neg h3] at h ⊢
  by_cases hre : rest = []
  ·subst hre
   exact ⟨node, done, x, rfl, hr, rfl, rfl⟩
  ·cases hs : d.seen (node, x) with
   | none => exact absurd ⟨by rw [hs]; decide, hre⟩ h3
   | some k =>
    rw [hs] at h
    obtain ⟨D, pre, last, e1, e2⟩:=walkGo_res rest _ _ (done ++ [x]) (Rt.step hr hs) h hre
    exact ⟨D, pre, last, by rw [<- e1]; simp, e2⟩
theorem walk_res {names : List ByteArray} (h : (d.walkF names).1 = 0) (hn : names ≠ []) : ∃ D pre last, names = pre ++ [last] /\ Rt d.seen D pre /\ (d.walkF names).2.1 = (D, last) /\ (d.walkF names).2.2 = (d.seen (D, last)).getD (-1):=by
 obtain ⟨D, pre, last, e1, e2⟩:=walkGo_res names _ _ [] Rt.root h hn
 exact ⟨D, pre, last, by simpa using e1, e2⟩
theorem find_res {p : ByteArray} {kind : Int} (h : (d.findF p kind).1 = 0) : ∃ names, parseF p = some names /\ (d.walkF names).1 = 0 /\ d.findF p kind = d.walkF names /\ 0 <= (d.walkF names).2.2 /\ (kind ≠ 0 -> (d.nd (d.walkF names).2.2).kind = kind):=by
 unfold Dk.findF at h ⊢
 split at h
 ·cases h
 rename_i hd
 split at h
 ·cases h
 rename_i names hn
 split at h
 ·rename_i h1; exact absurd h h1
 rename_i h1
 split at h
 ·cases h
 rename_i h2
 split at h
 ·cases h
 rename_i h3
 refine ⟨names, hn, by simpa using h1, ?_, by omega, λ hk => Classical.byContradiction λ hne => h3 ⟨hk, hne⟩⟩
 simp only [hn, if_neg hd, if_neg h1, if_neg h2, if_neg h3]
theorem nd_at (d : Dk) {k : Int} (h0 : 0 <= k) (h1 : k < d.nodes.length) : d.nodes[k.toNat]? = some (d.nd k):=by
 have hl : k.toNat < d.nodes.length:=by omega
 simp [Dk.nd, List.getElem?_eq_getElem hl]
theorem nd_of' {d : Dk} {i : Nat} {nd : Nd} (h : d.nodes[i]? = some nd) {k : Int} (hk : k = i) : d.nd k = nd:=by simp [Dk.nd, hk, h]
theorem Inv1.more (h : Inv1 A M data d) {A' M' : Nat} (hA : A <= A') (hM : M <= M') : Inv1 A' M' data d:=h.congr rfl rfl rfl rfl hA hM
theorem Inv1.k0 (h : Inv1 A M data d) : (d.nd 0).kind = 1:=by
 obtain ⟨a0, b0, c0⟩:=h.n0
 have : d.nd 0 = a0:=nd_of' (i:=0) b0 rfl
 rw [this]; exact c0
end
structure Ents (n : Nat) (kd : Int -> Prop) (dep : Int -> Nat) (m : Slt -> Option Int) : Prop where
 rng : ∀ s k, m s = some k -> 1 <= k /\ k < n
 inj : ∀ s t k, m s = some k -> m t = some k -> s = t
 dir : ∀ s k, m s = some k -> 0 <= s.1 /\ s.1 < n /\ kd s.1
 nam : ∀ s k, m s = some k -> nameF s.2 = true
 dpt : ∀ s k, m s = some k -> dep k = dep s.1 + 1 /\ dep k <= 8
structure Sg (n : Nat) (kd : Int -> Prop) (dep : Int -> Nat) (c : Chg) : Prop where
 node : 0 <= c.node /\ c.node < n
 what : 0 <= c.what /\ c.what <= 4
 ent : c.what = 2 ∨ c.what = 3 ∨ c.what = 4 -> kd c.node /\ nameF c.src = true
 mov : c.what = 4 -> nameF c.dst = true
 tgt : c.what = 2 -> 1 <= c.target /\ c.target < n /\ dep c.target = dep c.node + 1 /\ dep c.target <= 8
section
variable {n : Nat} {kd kd' : Int -> Prop} {dep dep' : Int -> Nat} {m m' : Slt -> Option Int} {c : Chg} {L : List Chg}
theorem Sg.mono {n' : Nat} (h : Sg n kd dep c) (hn : n <= n') (hk : ∀ i : Int, 0 <= i -> i < n -> kd i -> kd' i) (hd : ∀ i : Int, 0 <= i -> i < n -> dep' i = dep i) : Sg n' kd' dep' c :=
 ⟨by have:=h.node; omega, h.what, λ hw => ⟨hk _ h.node.1 h.node.2 (h.ent hw).1, (h.ent hw).2⟩, h.mov, λ hw => by
  have t:=h.tgt hw
  rw [hd _ (by omega) t.2.1, hd _ h.node.1 h.node.2]
  exact ⟨t.1, by omega, t.2.2⟩⟩
theorem Ents.mono {n' : Nat} (h : Ents n kd dep m) (hn : n <= n') (hk : ∀ i : Int, 0 <= i -> i < n -> kd i -> kd' i) (hd : ∀ i : Int, 0 <= i -> i < n -> dep' i = dep i) : Ents n' kd' dep' m :=
 ⟨λ s k hs => by have:=h.rng s k hs; omega, h.inj, λ s k hs => by
  have t:=h.dir s k hs
  exact ⟨t.1, by omega, hk _ t.1 t.2.1 t.2.2⟩, h.nam, λ s k hs => by
  have t:=h.dir s k hs
  have r:=h.rng s k hs
  rw [hd k (by omega) r.2, hd s.1 t.1 t.2.1]
  exact h.dpt s k hs⟩
theorem Ents.empty : Ents n kd dep (λ _ : Slt => (none : Option Int)):=⟨λ s k h => (by cases h), λ s t k h => (by cases h), λ s k h => (by cases h), λ s k h => (by cases h), λ s k h => (by cases h)⟩
theorem Ents.sub (h : Ents n kd dep m) (hs : ∀ s k, m' s = some k -> m s = some k) : Ents n kd dep m' :=
 ⟨λ s k hk => h.rng s k (hs s k hk), λ s t k h1 h2 => h.inj s t k (hs s k h1) (hs t k h2), λ s k hk => h.dir s k (hs s k hk), λ s k hk => h.nam s k (hs s k hk), λ s k hk => h.dpt s k (hs s k hk)⟩
theorem Ents.put (h : Ents n kd dep m) {s : Slt} {k : Int} (hf : ∀ t, t ≠ s -> m t ≠ some k) (h1 : 1 <= k /\ k < n) (h2 : 0 <= s.1 /\ s.1 < n /\ kd s.1) (h3 : nameF s.2 = true) (h4 : dep k = dep s.1 + 1 /\ dep k <= 8) : Ents n kd dep (fput m s k):=by
 have key : ∀ t x, fput m s k t = some x -> (t = s /\ x = k) ∨ (t ≠ s /\ m t = some x):=λ t x ht => by
  simp only [fput] at ht
  split at ht
  ·rename_i e; exact .inl ⟨e, by simpa using ht.symm⟩
  ·rename_i e; exact .inr ⟨e, ht⟩
 refine ⟨λ t x ht => ?_, λ t u x ht hu => ?_, λ t x ht => ?_, λ t x ht => ?_, λ t x ht => ?_⟩
 ·rcases key t x ht with ⟨rfl, rfl⟩ | ⟨_, ht⟩
  ·exact h1
  ·exact h.rng t x ht
 ·rcases key t x ht with ⟨e1, ex⟩ | ⟨e1, ht'⟩
  ·rcases key u x hu with ⟨e2, _⟩ | ⟨e2, hu'⟩
   ·rw [e1, e2]
   ·exact absurd (ex ▸ hu') (hf u e2)
  ·rcases key u x hu with ⟨e2, ex⟩ | ⟨e2, hu'⟩
   ·exact absurd (ex ▸ ht') (hf t e1)
   ·exact h.inj t u x ht' hu'
 ·rcases key t x ht with ⟨rfl, rfl⟩ | ⟨_, ht⟩
  ·exact h2
  ·exact h.dir t x ht
 ·rcases key t x ht with ⟨rfl, rfl⟩ | ⟨_, ht⟩
  ·exact h3
  ·exact h.nam t x ht
 ·rcases key t x ht with ⟨rfl, rfl⟩ | ⟨_, ht⟩
  ·exact h4
  ·exact h.dpt t x ht
theorem fdel_some {s t : Slt} {k : Int} (h : fdel m s t = some k) : t ≠ s /\ m t = some k:=by
 simp only [fdel] at h
 split at h
 ·cases h
 ·rename_i e; exact ⟨e, h⟩
theorem Ents.del (h : Ents n kd dep m) (s : Slt) : Ents n kd dep (fdel m s):=h.sub λ t k ht => (fdel_some ht).2
theorem Ents.step (h : Ents n kd dep m) (hc : Sg n kd dep c) (h4 : c.what = 4 -> m (c.node, c.src) ≠ none) (h2 : c.what = 2 -> ∀ s, m s ≠ some c.target) : Ents n kd dep (entG m c):=by
 rw [entG_cases]
 split
 ·rename_i hw
  have t:=hc.tgt hw
  have e:=hc.ent (.inl hw)
  exact h.put (λ s _ => h2 hw s) ⟨t.1, t.2.1⟩ ⟨hc.node.1, hc.node.2, e.1⟩ e.2 t.2.2
 ·split
  ·exact h.del _
  ·split
   ·rename_i hw
    obtain ⟨k0, hk0⟩:=Option.ne_none_iff_exists'.1 (h4 hw)
    rw [hk0]
    simp only [Option.getD_some]
    have d:=h.dir _ _ hk0
    have dp:=h.dpt _ _ hk0
    refine (h.del _).put (λ t ht htk => ?_) (h.rng _ _ hk0) ⟨d.1, d.2.1, d.2.2⟩ (hc.mov hw) dp
    obtain ⟨q1, q2⟩:=fdel_some htk
    exact q1 (h.inj _ _ _ q2 hk0)
   ·exact h
theorem Fresh.cons' (h : Fresh m (c :: L)) (hs : ∀ x ∈ L, Sg n kd dep x) : Fresh (entG m c) L:=by
 have hp:=List.pairwise_cons.1 h.apart
 refine ⟨λ x hx h2 s he => ?_, hp.2⟩
 rcases ent_val he with ⟨t, ht⟩ | ⟨hw, hk⟩ | h0
 ·exact h.out x (by simp [hx]) h2 t ht
 ·exact hp.1 x hx hw h2 hk.symm
 ·have:=(hs x hx).tgt h2
  omega
theorem Ents.fold : ∀ {L : List Chg} {m : Slt -> Option Int}, Ents n kd dep m -> (∀ x ∈ L, Sg n kd dep x) -> Src m L -> Fresh m L -> Ents n kd dep (L.foldl entG m)
 | [], m, h, _, _, _ => h
 | c :: L, m, h, hs, hr, hf => by
  rw [List.foldl_cons]
  exact Ents.fold (h.step (hs c (by simp)) (λ h4 => hr [] c L rfl h4) (λ h2 => hf.out c (by simp) h2)) (λ x hx => hs x (by simp [hx])) hr.cons (hf.cons' λ x hx => hs x (by simp [hx]))
theorem Fresh.rest' (h : Fresh m L) (hs : ∀ x ∈ L, Sg n kd dep x) (i : Int) : Fresh ((onD i L).foldl entG m) (restOf i L):=by
 refine ⟨λ c hc h2 s he => ?_, h.apart.filter _⟩
 have hcL:=(List.mem_filter.1 hc).1
 have hci : c.node ≠ i:=by simpa [restOf] using (List.mem_filter.1 hc).2
 rcases fold_val he with ⟨t, ht⟩ | ⟨x, hx, h2', hk⟩ | h0
 ·exact h.out c hcL h2 t ht
 ·have hxi : x.node = i:=by simpa [onD] using (List.mem_filter.1 hx).2
  exact apart_ne h.apart hcL (List.mem_filter.1 hx).1 (by rw [hxi]; exact hci) h2 h2' hk
 ·have:=(hs c hcL).tgt h2
  omega
end
def Dk.isD (d : Dk) (i : Int) : Prop:=(d.nd i).kind = 1
structure GI (A M : Nat) (dep : Int -> Nat) (d : Dk) : Prop where
 n0 : ∃ nd, d.nodes[0]? = some nd /\ nd.kind = 1
 kinds : ∀ nd ∈ d.nodes, nd.kind = 1 ∨ nd.kind = 2
 ents : Ents d.nodes.length d.isD dep d.kept
 sc : ∀ c ∈ d.pending, Sg d.nodes.length d.isD dep c
 src : Src d.kept d.pending
 fr : Fresh d.kept d.pending
 eq : d.pending.foldl entG d.kept = d.seen
 node : ∀ (j : Nat) nd, d.nodes[j]? = some nd -> NodeOk A d.seen d.pending j nd
 up : ∀ s k, d.seen s = some k -> s.1 = 0 ∨ ∃ t, d.seen t = some s.1
 dep0 : dep 0 = 0
 len : d.nodes.length <= M
 plen : d.pending.length <= M
section
variable {A M : Nat} {dep : Int -> Nat} {d d' : Dk}
theorem isD_congr (h : d'.nodes = d.nodes) : d'.isD = d.isD:=by funext i; simp [Dk.isD, Dk.nd, h]
theorem GI.pseen (h : GI A M dep d) : Ents d.nodes.length d.isD dep d.seen:=by
 rw [<- h.eq]; exact h.ents.fold h.sc h.src h.fr
theorem GI.congr (h : GI A M dep d) {A' M' : Nat} (h1 : d'.nodes = d.nodes) (h2 : d'.seen = d.seen) (h3 : d'.kept = d.kept) (h4 : d'.pending = d.pending) (hA : A <= A') (hM : M <= M') : GI A' M' dep d':=by
 refine ⟨by rw [h1]; exact h.n0, by rw [h1]; exact h.kinds, by rw [isD_congr h1, h1, h3]; exact h.ents, by rw [isD_congr h1, h1, h4]; exact h.sc, by rw [h3, h4]; exact h.src, by rw [h3, h4]; exact h.fr, by rw [h2, h3, h4]; exact h.eq, λ j nd hj => ?_, by rw [h2]; exact h.up, h.dep0, by rw [h1]; have:=h.len; omega, by rw [h4]; have:=h.plen; omega⟩
 rw [h1] at hj
 rw [h2, h4]
 have t:=h.node j nd hj
 exact ⟨t.ok, t.eq, by have:=t.seen; omega, by have:=t.kept; omega⟩
theorem GI.more (h : GI A M dep d) {A' M' : Nat} (hA : A <= A') (hM : M <= M') : GI A' M' dep d:=h.congr rfl rfl rfl rfl hA hM
theorem GI.pos (h : GI A M dep d) : 0 < d.nodes.length:=by
 obtain ⟨nd, h1, _⟩:=h.n0
 exact (List.getElem?_eq_some_iff.1 h1).1
theorem GI.good (h : GI A M dep d) : Good d:=⟨λ s k hs => (h.pseen.rng s k hs).2, h.pos⟩
theorem GI.k0 (h : GI A M dep d) : (d.nd 0).kind = 1:=by
 obtain ⟨a0, b0, c0⟩:=h.n0
 have : d.nd 0 = a0:=by simp [Dk.nd, b0]
 rw [this]; exact c0
theorem GI.fold (h : GI A M dep d) : ∀ (i : Nat) nd, d.nodes[i]? = some nd -> foldOk i (nd.kept, d.kept) d.pending:=λ i nd hi => foldOk_bOk (h.node i nd hi).ok
theorem nd_add (d : Dk) (kind : Int) {i : Int} (h0 : 0 <= i) (h1 : i < d.nodes.length) : (d.addNode kind).nd i = d.nd i:=by
 show ((d.nodes ++ [_])[i.toNat]?).getD _ = _
 rw [List.getElem?_append_left (by omega)]
 rfl
def depN (dep : Int -> Nat) (n : Nat) (x : Nat) : Int -> Nat:=λ i => if i = n then x else dep i
theorem GI.addNode (h : GI A M dep d) {kind : Int} (hk : kind = 1 ∨ kind = 2) (x : Nat) : GI A (M + 1) (depN dep d.nodes.length x) (d.addNode kind):=by
 have hl : ∀ (i : Nat) a, d.nodes[i]? = some a -> (d.nodes ++ [(⟨kind, e0, e0⟩ : Nd)])[i]? = some a:=λ i a ha => by rw [List.getElem?_append_left (List.getElem?_eq_some_iff.1 ha).1]; exact ha
 have hle : d.nodes.length <= (d.nodes ++ [(⟨kind, e0, e0⟩ : Nd)]).length:=by simp
 have hkd : ∀ i : Int, 0 <= i -> i < d.nodes.length -> d.isD i -> (d.addNode kind).isD i:=λ i h0 h1 hd => by
  unfold Dk.isD at hd ⊢
  rw [nd_add d kind h0 h1]; exact hd
 have hdp : ∀ i : Int, 0 <= i -> i < d.nodes.length -> depN dep d.nodes.length x i = dep i:=λ i h0 h1 => by
  unfold depN
  rw [if_neg (by omega)]
 obtain ⟨a0, b0, c0⟩:=h.n0
 have hp:=h.pos
 refine ⟨⟨a0, hl _ _ b0, c0⟩, λ nd hnd => ?_, h.ents.mono hle hkd hdp, λ c hc => (h.sc c hc).mono hle hkd hdp, h.src, h.fr, h.eq, λ j nd hj => ?_, h.up, by
  unfold depN
  rw [if_neg (by omega)]; exact h.dep0, by
  have:=h.len
  show (d.nodes ++ [(⟨kind, e0, e0⟩ : Nd)]).length <= M + 1
  simp; omega, by have:=h.plen; show d.pending.length <= M + 1; omega⟩
 ·rcases List.mem_append.1 (show nd ∈ d.nodes ++ [_] from hnd) with hm | hm
  ·exact h.kinds nd hm
  ·obtain rfl:=List.mem_singleton.1 hm; exact hk
 have hj' : (d.nodes ++ [(⟨kind, e0, e0⟩ : Nd)])[j]? = some nd:=hj
 by_cases hjl : j < d.nodes.length
 ·rw [List.getElem?_append_left hjl] at hj'
  exact h.node j nd hj'
 ·rw [List.getElem?_append_right (by omega)] at hj'
  have hjn : j - d.nodes.length = 0:=by
   have:=(List.getElem?_eq_some_iff.1 hj').1
   simp at this; omega
  rw [hjn] at hj'
  have : nd = ⟨kind, e0, e0⟩:=by simpa using hj'.symm
  subst this
  obtain ⟨i1, i2, i3⟩:=bfold_none (j:=(j : Int)) (L:=d.pending) (λ c hc hcj => by
   have:=(h.sc c hc).node
   omega) e0
  exact ⟨i2, λ _ => i1, Nat.zero_le _, by show e0.size + grows j d.pending <= A; rw [i3]; exact Nat.zero_le _⟩
theorem GI.act (h : GI A M dep d) : GI A M dep d.actF.2:=by
 obtain ⟨e1, e2, e3, e4⟩:=actF_same d
 exact h.congr e1 e2 e3 e4 (Nat.le_refl _) (Nat.le_refl _)
theorem isD_set {N : List Nd} {i : Nat} {nd nd' : Nd} (hN : d'.nodes = d.nodes.set i nd') (hi : d.nodes[i]? = some nd) (hk : nd'.kind = nd.kind) : d'.isD = d.isD:=by
 funext j
 unfold Dk.isD Dk.nd
 rw [hN]
 by_cases hij : i = j.toNat
 ·rw [<- hij, List.getElem?_set_self (List.getElem?_eq_some_iff.1 hi).1, hi]
  simp [hk]
 ·rw [List.getElem?_set_ne hij]
theorem GI.do' (h : GI A M dep d) {c : Chg} {i : Nat} {nd : Nd} (hi : d.nodes[i]? = some nd) (hn : c.node = i) (hsc : Sg d.nodes.length d.isD dep c) (h4 : c.what = 4 -> d.seen (c.node, c.src) ≠ none)
  (h2 : c.what = 2 -> (∀ s, d.kept s ≠ some c.target) /\ (∀ x ∈ d.pending, x.what = 2 -> x.target ≠ c.target) /\ ∀ (t : Nat) nd', c.target = t -> d.nodes[t]? = some nd' -> bfold t nd'.kept d.pending = nd'.seen)
  (hb : c.what = 0 ∨ c.what = 1 -> ∃ s, d.seen s = some (i : Int)) (hup : ∀ s k, entG d.seen c s = some k -> s.1 = 0 ∨ ∃ t, entG d.seen c t = some s.1)
  (hf : c.fits nd.seen) : GI (A + c.data.size) (M + 1) dep (doF d c i nd).2:=by
 unfold doF
 obtain ⟨e1, e2, e3, e4⟩:=actF_same d
 split
 ·exact (h.act).congr rfl rfl rfl rfl (by omega) (by omega)
 have hil:=(List.getElem?_eq_some_iff.1 hi).1
 have hents' : Ents d.nodes.length d.isD dep (entG d.seen c):=h.pseen.step hsc h4 (λ hw s hs => by
  obtain ⟨q1, q2, _⟩:=h2 hw
  rw [<- h.eq] at hs
  rcases fold_val hs with ⟨t, ht⟩ | ⟨x, hx, hx2, hk⟩ | h0
  ·exact q1 t ht
  ·exact q2 x hx hx2 hk.symm
  ·have:=hsc.tgt hw; omega)
 have hlen : (d.nodes.set i { nd with seen:=(applyF c nd.seen d.seen).1 }).length = d.nodes.length:=List.length_set
 have hfold : (d.pending ++ [c]).foldl entG d.kept = entG d.seen c:=by rw [List.foldl_append, h.eq]; rfl
 have halive : ∀ (j : Nat) x, d.nodes[j]? = some x -> (∃ s, entG d.seen c s = some (j : Int)) -> bfold j x.kept d.pending = x.seen:=by
  rintro j x hx ⟨s, hs⟩
  have hr:=hents'.rng s _ hs
  rcases ent_val hs with ht | ⟨hw, hk⟩ | h0
  ·exact (h.node j x hx).eq ht
  ·exact (h2 hw).2.2 j x hk.symm hx
  ·omega
 obtain ⟨D, hD⟩ : ∃ D : Dk, D = { d.actF.2 with nodes:=d.nodes.set i { nd with seen:=(applyF c nd.seen d.seen).1 }, seen:=(applyF c nd.seen d.seen).2, pending:=d.pending ++ [c] }:=⟨_, rfl⟩
 have hDn : D.nodes = d.nodes.set i { nd with seen:=(applyF c nd.seen d.seen).1 }:=by rw [hD]
 have hDd : D.isD = d.isD:=isD_set (N:=[]) hDn hi rfl
 have hDl : D.nodes.length = d.nodes.length:=by rw [hDn, hlen]
 show GI _ _ _ { d.actF.2 with nodes:=d.nodes.set i { nd with seen:=(applyF c nd.seen d.seen).1 }, seen:=(applyF c nd.seen d.seen).2, pending:=d.pending ++ [c] }
 rw [<- hD]
 have hDk : D.kept = d.kept:=by rw [hD]; exact e3
 have hDs : D.seen = entG d.seen c:=by rw [hD]; exact app_map _ _ _
 have hDp : D.pending = d.pending ++ [c]:=by rw [hD]
 refine ⟨?_, ?_, ?_, ?_, ?_, ?_, ?_, ?_, ?_, h.dep0, ?_, ?_⟩
 ·obtain ⟨a0, b0, c0⟩:=h.n0
  rw [hDn]
  by_cases hji : i = 0
  ·subst hji
   rw [hi] at b0; cases b0
   exact ⟨_, List.getElem?_set_self hil, c0⟩
  ·exact ⟨a0, by rw [List.getElem?_set_ne hji]; exact b0, c0⟩
 ·rw [hDn]
  intro x hx
  rcases List.mem_or_eq_of_mem_set hx with hx | rfl
  ·exact h.kinds x hx
  ·exact h.kinds nd (List.mem_of_getElem? hi)
 ·rw [hDd, hDl, hDk]; exact h.ents
 ·rw [hDd, hDl, hDp]
  intro x hx
  rcases List.mem_append.1 hx with hx | hx
  ·exact h.sc x hx
  ·obtain rfl:=List.mem_singleton.1 hx; exact hsc
 ·rw [hDk, hDp]
  exact h.src.snoc λ hw => by rw [h.eq]; exact h4 hw
 ·rw [hDk, hDp]
  refine ⟨λ x hx hw => ?_, List.pairwise_append.2 ⟨h.fr.apart, by simp, λ x hx y hy hx2 hy2 => ?_⟩⟩
  ·rcases List.mem_append.1 hx with hx | hx
   ·exact h.fr.out x hx hw
   ·obtain rfl:=List.mem_singleton.1 hx; exact (h2 hw).1
  ·obtain rfl:=List.mem_singleton.1 hy
   exact (h2 hy2).2.1 x hx hx2
 ·rw [hDk, hDp, hDs, hfold]
 ·intro j x hj
  rw [hDn] at hj
  have hj':=hj
  rw [hDs, hDp]
  have hgs : gsize j c <= c.data.size:=by unfold gsize; split <;> omega
  have hg1 : grows j (d.pending ++ [c]) = grows j d.pending + gsize j c:=by rw [grows_app]; simp [grows]
  by_cases hji : i = j
  ·subst hji
   rw [List.getElem?_set_self hil] at hj'
   cases hj'
   have t:=h.node i nd hi
   have hal:=halive i nd hi
   refine ⟨bOk_snoc t.ok λ _ => ?_, λ ha => ?_, ?_, ?_⟩
   ·by_cases hw : c.what = 0 ∨ c.what = 1
    ·rw [t.eq (hb hw)]; exact hf
    ·rw [not_or] at hw; exact fits_other hw.1 hw.2 _
   ·rw [bfold_snoc]
    have e : bfold i nd.kept d.pending = nd.seen:=by
     by_cases hw : c.what = 0 ∨ c.what = 1
     ·exact t.eq (hb hw)
     ·exact hal ha
    show bstep i (bfold i nd.kept d.pending) c = _
    rw [e]
    unfold bstep
    rw [if_pos hn]
    exact app_byte c _ _ _
   ·have h1:=app_size c nd.seen d.seen
    have h2:=t.seen
    show (applyF c nd.seen d.seen).1.size <= _
    split at h1 <;> omega
   ·have h2:=t.kept
    show nd.kept.size + _ <= _
    omega
  ·rw [List.getElem?_set_ne hji] at hj'
   have t:=h.node j x hj'
   have hcj : c.node ≠ (j : Int):=by rw [hn]; omega
   refine ⟨bOk_snoc t.ok λ he => absurd he hcj, λ ha => ?_, by have:=t.seen; omega, by have:=t.kept; omega⟩
   rw [bfold_snoc, show bstep j (bfold j x.kept d.pending) c = bfold j x.kept d.pending by simp [bstep, hcj]]
   exact halive j x hj' ha
 ·rw [hDs]
  exact hup
 ·rw [hDl]; have:=h.len; omega
 ·rw [hDp]
  have:=h.plen
  simp; omega
theorem GI.settle (h : GI A M dep d) {i : Nat} {nd : Nd} (hi : d.nodes[i]? = some nd) : GI A M dep (settleF d i nd).2:=by
 unfold settleF
 obtain ⟨e1, e2, e3, e4⟩:=actF_same d
 split
 ·exact h.act
 rw [settle_fold]
 have hil:=(List.getElem?_eq_some_iff.1 hi).1
 have hlen : (d.nodes.set i { nd with kept:=bfold i nd.kept d.pending }).length = d.nodes.length:=List.length_set
 have hplr : (restOf i d.pending).length <= d.pending.length:=List.length_filter_le _ _
 obtain ⟨D, hD⟩ : ∃ D : Dk, D = { d.actF.2 with nodes:=d.nodes.set i { nd with kept:=bfold i nd.kept d.pending }, kept:=(onD i d.pending).foldl entG d.kept, pending:=restOf i d.pending }:=⟨_, rfl⟩
 show GI A M dep { d.actF.2 with nodes:=d.nodes.set i { nd with kept:=bfold i nd.kept d.pending }, kept:=(onD i d.pending).foldl entG d.kept, pending:=restOf i d.pending }
 rw [<- hD]
 have hDn : D.nodes = d.nodes.set i { nd with kept:=bfold i nd.kept d.pending }:=by rw [hD]
 have hDd : D.isD = d.isD:=isD_set (N:=[]) hDn hi rfl
 have hDl : D.nodes.length = d.nodes.length:=by rw [hDn, hlen]
 have hDk : D.kept = (onD i d.pending).foldl entG d.kept:=by rw [hD]
 have hDs : D.seen = d.seen:=by rw [hD]; exact e2
 have hDp : D.pending = restOf i d.pending:=by rw [hD]
 refine ⟨?_, ?_, ?_, ?_, ?_, ?_, ?_, ?_, ?_, h.dep0, ?_, ?_⟩
 ·obtain ⟨a0, b0, c0⟩:=h.n0
  rw [hDn]
  by_cases hji : i = 0
  ·subst hji
   rw [hi] at b0; cases b0
   exact ⟨_, List.getElem?_set_self hil, c0⟩
  ·exact ⟨a0, by rw [List.getElem?_set_ne hji]; exact b0, c0⟩
 ·rw [hDn]
  intro x hx
  rcases List.mem_or_eq_of_mem_set hx with hx | rfl
  ·exact h.kinds x hx
  ·exact h.kinds nd (List.mem_of_getElem? hi)
 ·rw [hDd, hDl, hDk]
  exact h.ents.fold (λ x hx => h.sc x (List.mem_filter.1 hx).1) (h.src.on i) (h.fr.on i)
 ·rw [hDd, hDl, hDp]
  exact λ x hx => h.sc x (List.mem_filter.1 hx).1
 ·rw [hDk, hDp]; exact h.src.rest i
 ·rw [hDk, hDp]; exact h.fr.rest' h.sc i
 ·rw [hDk, hDp, hDs, settle_eq]; exact h.eq
 ·intro j x hj
  rw [hDn] at hj
  have hj':=hj
  rw [hDs, hDp]
  by_cases hji : i = j
  ·subst hji
   rw [List.getElem?_set_self hil] at hj'
   cases hj'
   have t:=h.node i nd hi
   obtain ⟨q1, q2, q3⟩:=bfold_none (j:=(i : Int)) (L:=restOf i d.pending) (rest_off i d.pending) (bfold i nd.kept d.pending)
   refine ⟨q2, λ ha => ?_, t.seen, ?_⟩
   ·show bfold i (bfold i nd.kept d.pending) (restOf i d.pending) = nd.seen
    rw [q1]; exact t.eq ha
   ·show (bfold i nd.kept d.pending).size + grows i (restOf i d.pending) <= A
    rw [q3]
    have:=bfold_size (i:=(i : Int)) d.pending nd.kept
    have:=t.kept
    omega
  ·rw [List.getElem?_set_ne hji] at hj'
   have t:=h.node j x hj'
   obtain ⟨q1, q2, q3⟩:=bfold_rest (j:=(j : Int)) (i:=(i : Int)) (by omega) d.pending x.kept
   exact ⟨q2 t.ok, λ ha => by rw [q1]; exact t.eq ha, t.seen, by rw [q3]; exact t.kept⟩
 ·rw [hDs]; exact h.up
 ·rw [hDl]; exact h.len
 ·rw [hDp]
  have:=h.plen
  omega
theorem GI.crash_list (h : GI A M dep d) (keep torn : Int) (hA : A <= 2305843009213693952) : (∀ c ∈ crashL d.pending keep torn, Sg d.nodes.length d.isD dep c) /\ Src d.kept (crashL d.pending keep torn) /\ Fresh d.kept (crashL d.pending keep torn) /\
  ∀ (j : Nat) nd, d.nodes[j]? = some nd -> bOk j nd.kept (crashL d.pending keep torn) /\ (bfold j nd.kept (crashL d.pending keep torn)).size <= A:=by
 obtain ⟨k, hk⟩:=crash_any d.pending keep torn
 have hsplit : d.pending = d.pending.take k ++ d.pending.drop k:=(List.take_append_drop k _).symm
 have hs:=h.src
 have hf:=h.fr
 have pre : ∀ (j : Nat) nd, d.nodes[j]? = some nd -> bOk j nd.kept (d.pending.take k) /\ nd.kept.size + grows j (d.pending.take k) <= A:=λ j nd hj => by
  have t:=h.node j nd hj
  have t1:=t.ok
  have t2:=t.kept
  rw [hsplit] at t1 t2
  rw [grows_app] at t2
  exact ⟨bOk_pre t1, by omega⟩
 rw [hsplit] at hs hf
 rcases hk with e | ⟨c, x, hc, hw, hx, e⟩
 ·rw [e]
  refine ⟨λ c hc => h.sc c (List.mem_of_mem_take hc), hs.pre, hf.pre, λ j nd hj => ?_⟩
  obtain ⟨p1, p2⟩:=pre j nd hj
  have:=bfold_size (i:=(j : Int)) (d.pending.take k) nd.kept
  exact ⟨p1, by omega⟩
 ·rw [e]
  have hcs:=h.sc c (List.mem_of_getElem? hc)
  have hkl:=(List.getElem?_eq_some_iff.1 hc).1
  have hdrop : d.pending.drop k = c :: d.pending.drop (k + 1):=by
   rw [List.drop_eq_getElem_cons hkl]
   congr 1
   exact (List.getElem?_eq_some_iff.1 hc).2
  refine ⟨λ y hy => ?_, hs.pre.snoc λ h4 => ?_, ⟨λ y hy h2 => ?_, List.pairwise_append.2 ⟨hf.pre.apart, by simp, λ y hy z hz h2 h2' => ?_⟩⟩, λ j nd hj => ?_⟩
  ·rcases List.mem_append.1 hy with hy | hy
   ·exact h.sc y (List.mem_of_mem_take hy)
   ·obtain rfl:=List.mem_singleton.1 hy
    exact ⟨hcs.node, hcs.what, hcs.ent, hcs.mov, hcs.tgt⟩
  ·simp only [hw] at h4; exact absurd h4 (by decide)
  ·rcases List.mem_append.1 hy with hy | hy
   ·exact hf.pre.out y hy h2
   ·obtain rfl:=List.mem_singleton.1 hy
    simp only [hw] at h2; exact absurd h2 (by decide)
  ·obtain rfl:=List.mem_singleton.1 hz
   simp only [hw] at h2'; exact absurd h2' (by decide)
  ·obtain ⟨p1, p2⟩:=pre j nd hj
   have hb:=bfold_size (i:=(j : Int)) (d.pending.take k) nd.kept
   have t:=h.node j nd hj
   have t1:=t.ok
   have t2:=t.kept
   rw [hsplit, hdrop] at t1 t2
   rw [grows_app] at t2
   have hg : gsize j c <= grows j (c :: d.pending.drop (k + 1)):=by simp [grows]
   refine ⟨bOk_snoc p1 λ hcj => ⟨λ _ => ?_, λ h1 => by simp only [hw] at h1; exact absurd h1 (by decide)⟩, ?_⟩
   ·have:=(bOk_at t1 hcj).1 hw
    show (bfold j nd.kept (d.pending.take k)).size + x.size <= _
    omega
   ·rw [bfold_snoc]
    have h1:=bstep_size j (bfold j nd.kept (d.pending.take k)) { c with data:=x }
    have h2 : gsize j { c with data:=x } <= gsize j c:=by
     unfold gsize
     simp only
     split
     ·exact hx
     ·exact Nat.le_refl _
    omega
structure Crashed (d : Dk) (keep torn : Int) (d' : Dk) : Prop where
 same : d'.cap = d.cap /\ d'.acts = d.acts /\ d'.reads = d.reads
 off : d'.armed = false /\ d'.down = false /\ d'.pending = []
 eq : d'.kept = d'.seen
 len : d'.nodes.length = d.nodes.length
 sub : ∀ s k, d'.seen s = some k -> (crashL d.pending keep torn).foldl entG d.kept s = some k
 root : ∀ n k, (crashL d.pending keep torn).foldl entG d.kept (0, n) = some k -> d'.seen (0, n) = some k
 closed : ∀ s x, d'.seen s = some x -> d.isD x -> ∀ n k, (crashL d.pending keep torn).foldl entG d.kept (x, n) = some k -> d'.seen (x, n) = some k
 kept : ∀ (j : Nat) nd, d.nodes[j]? = some nd -> ∃ x, d'.nodes[j]? = some x /\ x.kind = nd.kind /\ x.kept = bfold j nd.kept (crashL d.pending keep torn) /\ ((∃ s, d'.seen s = some (j : Int)) -> x.seen = x.kept)
theorem GI.crash (h : GI A M dep d) (keep torn : Int) (hA : A <= 2305843009213693952) :
  crashOk (d.nodes, d.kept) (crashL d.pending keep torn) /\ Tree { d with nodes:=((crashL d.pending keep torn).foldl cStep (d.nodes, d.kept)).1, kept:=((crashL d.pending keep torn).foldl cStep (d.nodes, d.kept)).2 } /\
  ∀ d', Reached { d with nodes:=((crashL d.pending keep torn).foldl cStep (d.nodes, d.kept)).1, kept:=((crashL d.pending keep torn).foldl cStep (d.nodes, d.kept)).2 } d' -> GI A M dep d' /\ Crashed d keep torn d':=by
 obtain ⟨l1, l2, l3, l4⟩:=h.crash_list keep torn hA
 have hcr : ∀ d', Reached { d with nodes:=((crashL d.pending keep torn).foldl cStep (d.nodes, d.kept)).1, kept:=((crashL d.pending keep torn).foldl cStep (d.nodes, d.kept)).2 } d' -> Crashed d keep torn d' /\ ∀ (j : Nat) nd, d.nodes[j]? = some nd -> ∃ x, d'.nodes[j]? = some x /\ (x.seen = nd.seen ∨ x.seen = bfold j nd.kept (crashL d.pending keep torn)):=by
  intro d' hr
  obtain ⟨f1, f2⟩:=cFold_at (crashL d.pending keep torn) d.nodes d.kept λ c hc => (l1 c hc).node
  have hlen:=cFold_len' (crashL d.pending keep torn) (d.nodes, d.kept)
  generalize hL : crashL d.pending keep torn = L at *
  generalize hst : L.foldl cStep (d.nodes, d.kept) = st at *
  simp only at hlen
  have hat : ∀ (j : Nat) nd, d.nodes[j]? = some nd -> ∃ x, d'.nodes[j]? = some x /\ x.kind = nd.kind /\ x.kept = bfold j nd.kept L /\ (x.seen = nd.seen ∨ x.seen = bfold j nd.kept L) /\ ((∃ s, d'.seen s = some (j : Int)) -> x.seen = x.kept):=λ j nd hj => by
   have e:=f2 j nd hj
   have hgot : (∃ s, d'.seen s = some (j : Int)) -> d'.nodes[j]? = some ⟨nd.kind, bfold j nd.kept L, bfold j nd.kept L⟩:=λ ⟨s, hs⟩ => by
    have:=hr.got s j hs _ (by simpa using e)
    simpa using this
   rcases hr.each j _ e with h' | h'
   ·refine ⟨_, h', rfl, rfl, .inl rfl, λ ha => ?_⟩
    have:=hgot ha
    rw [h'] at this
    injection this with this
    rw [this]
   ·exact ⟨_, h', rfl, rfl, .inr rfl, λ _ => rfl⟩
  have hkd : ∀ x s, d'.seen s = some x -> d.isD x -> (({ d with nodes:=st.1, kept:=st.2 } : Dk).nd x).kind = 1:=λ x s hs hd => by
   have hx:=hr.sub s x hs
   have hr2:=(h.ents.fold l1 l2 l3).rng s x (by rw [<- f1]; exact hx)
   obtain ⟨j, hj⟩ : ∃ j : Nat, x = j:=⟨x.toNat, by omega⟩
   subst hj
   have hjl : j < d.nodes.length:=by omega
   have e:=f2 j _ (List.getElem?_eq_getElem hjl)
   unfold Dk.isD at hd
   simp only [Dk.nd, Int.toNat_natCast] at hd ⊢
   rw [e]
   rw [List.getElem?_eq_getElem hjl] at hd
   exact hd
  refine ⟨⟨hr.same, hr.off, funext hr.eq, by rw [hr.len]; exact hlen, λ s k hs => by rw [hL, <- f1]; exact hr.sub s k hs, λ n k hk => hr.root n k (by rw [hL, <- f1] at hk; exact hk), λ s x hs hd n k hk => hr.closed s x hs (hkd x s hs hd) n k (by rw [hL, <- f1] at hk; exact hk), λ j nd hj => ?_⟩, λ j nd hj => ?_⟩
  ·obtain ⟨x, x1, x2, x3, _, x5⟩:=hat j nd hj
   exact ⟨x, x1, x2, by rw [hL]; exact x3, x5⟩
  ·obtain ⟨x, x1, _, _, x4, _⟩:=hat j nd hj
   exact ⟨x, x1, x4⟩
 have hp : Ents d.nodes.length d.isD dep ((crashL d.pending keep torn).foldl entG d.kept):=h.ents.fold l1 l2 l3
 refine ⟨cOk_of _ d.nodes d.kept (λ c hc => (l1 c hc).node) λ j nd hj => (l4 j nd hj).1, ⟨λ s k hs => ?_, λ s t k hs ht => ?_⟩, λ d' hr => ?_⟩
 ·have f1:=(cFold_at (crashL d.pending keep torn) d.nodes d.kept λ c hc => (l1 c hc).node).1
  have hlen:=cFold_len' (crashL d.pending keep torn) (d.nodes, d.kept)
  simp only at hs hlen ⊢
  rw [f1] at hs
  rw [hlen]
  exact hp.rng s k hs
 ·have f1:=(cFold_at (crashL d.pending keep torn) d.nodes d.kept λ c hc => (l1 c hc).node).1
  simp only at hs ht
  rw [f1] at hs ht
  exact hp.inj s t k hs ht
 ·obtain ⟨c, hc4⟩:=hcr d' hr
  refine ⟨?_, c⟩
  have hdD : ∀ i : Int, 0 <= i -> i < d.nodes.length -> d.isD i -> d'.isD i:=λ i h0 h1 hd => by
   obtain ⟨j, rfl⟩ : ∃ j : Nat, i = j:=⟨i.toNat, by omega⟩
   have hjl : j < d.nodes.length:=by omega
   obtain ⟨x, x1, x2, _⟩:=c.kept j _ (List.getElem?_eq_getElem hjl)
   unfold Dk.isD at hd ⊢
   simp only [Dk.nd, Int.toNat_natCast] at hd ⊢
   rw [x1]
   rw [List.getElem?_eq_getElem hjl] at hd
   show x.kind = 1
   rw [x2]; exact hd
  refine ⟨?_, ?_, ?_, (by rw [c.off.2.2]; intro x hx; cases hx), (by rw [c.off.2.2]; intro L1 x L2 e; simp at e), by rw [c.off.2.2]; exact ⟨λ x hx => (by cases hx), List.Pairwise.nil⟩, by rw [c.off.2.2, c.eq]; rfl, ?_, ?_, h.dep0, by rw [c.len]; exact h.len, by rw [c.off.2.2]; exact Nat.zero_le _⟩
  ·obtain ⟨a0, b0, c0⟩:=h.n0
   obtain ⟨x, x1, x2, _⟩:=c.kept 0 a0 b0
   exact ⟨x, x1, by rw [x2]; exact c0⟩
  ·intro x hx
   obtain ⟨j, hj⟩:=List.getElem?_of_mem hx
   have hjl : j < d.nodes.length:=by rw [<- c.len]; exact (List.getElem?_eq_some_iff.1 hj).1
   obtain ⟨y, y1, y2, _⟩:=c.kept j _ (List.getElem?_eq_getElem hjl)
   rw [hj] at y1
   cases y1
   rw [y2]
   exact h.kinds _ (List.getElem_mem hjl)
  ·rw [c.eq]
   exact (hp.sub c.sub).mono (by rw [c.len]; exact Nat.le_refl _) (λ i h0 h1 hd => hdD i h0 h1 hd) λ _ _ _ => rfl
  ·intro j x hj
   rw [c.off.2.2]
   have hjl : j < d.nodes.length:=by rw [<- c.len]; exact (List.getElem?_eq_some_iff.1 hj).1
   obtain ⟨y, y1, y2, y3, y5⟩:=c.kept j _ (List.getElem?_eq_getElem hjl)
   obtain ⟨z, z1, z4⟩:=hc4 j _ (List.getElem?_eq_getElem hjl)
   rw [hj] at y1 z1
   cases y1
   cases z1
   have t:=h.node j _ (List.getElem?_eq_getElem hjl)
   have t2:=(l4 j _ (List.getElem?_eq_getElem hjl)).2
   refine ⟨trivial, λ ha => (y5 ha).symm, ?_, ?_⟩
   ·rcases z4 with z4 | z4
    ·rw [z4]; exact t.seen
    ·rw [z4]; exact t2
   ·rw [y3]
    have : grows (j : Int) [] = 0:=rfl
    rw [this]; exact t2
  ·exact hr.up
end
end Go.Proofs.YtojnickeblbgoaaGreatDoor
namespace Go.Proofs.YtojnickeblbgoaaGreatDoor
open Go.Lift
set_option linter.unusedSimpArgs false
set_option linter.unusedVariables false
set_option maxHeartbeats 4000000
open Classical in
noncomputable def removeX (d : Dk) (p : ByteArray) : Int × Dk:=if p = E0 /\ ((d.findF p 0).1 = 0 ∨ (d.findF p 0).1 = 12) then (11, d) else if (d.findF p 0).1 ≠ 0 then ((d.findF p 0).1, d) else
 if ∃ n k, d.seen ((d.findF p 0).2.2, n) = some k then (17, d) else removeF d p
def renW (d : Dk) (s t : Spot) : Int × Dk:=if s.1 ≠ 0 then (s.1, d) else if s.2.2 < 0 then (12, d) else if 0 <= t.2.2 /\ (t.2.1 = s.2.1 ∨ (d.nd s.2.2).kind ≠ 2 ∨ (d.nd t.2.2).kind ≠ 2) then (13, d) else
 doF d ⟨4, s.2.1.1, e0, 0, s.2.1.2, t.2.1.2, 0⟩ s.2.1.1.toNat (d.nd s.2.1.1)
def renameX (d : Dk) (p q : ByteArray) : Int × Dk:=if d.down then (10, d) else match parseF p, parseF q with
 | some a, some c => if p = E0 ∨ q = E0 then (11, d) else if pathF (a.take (a.length - 1)) ≠ pathF (c.take (c.length - 1)) ∨ a.length ≠ c.length then (18, d) else renW d (d.walkF a) (d.walkF c)
 | _, _ => (11, d)
section
variable {w w' w'' : World} {b : Nat} {d d' : Dk} {v : DV} {tag : Nat -> Nat}
theorem remove3_run (h : DA w b d v tag) (g : Good d) {path : ByteArray} (hs : path.size < 4294967281) (hpl : d.pending.length <= 16777216) :
  Run (F.d_Remove (Ptr b) (.string path)) w λ r w' => r = .int .i64 (removeX d path).1 /\ DDid w w' b tag (removeX d path).2:=by
 obtain ⟨R, hR⟩ : ∃ R, R = removeX d path:=⟨_, rfl⟩
 rw [<- hR]
 obtain ⟨Q, hQ⟩ : ∃ Q : Value -> World -> Prop, ∀ r w', Q r w' ↔ (r = .int .i64 R.1 /\ DDid w w' b tag R.2):=⟨_, λ _ _ => Iff.rfl⟩
 refine Run.mono (Q:=Q) ?_ λ r w' h => (hQ _ _).1 h
 have qs : ∀ e w', R = (e, d) -> DDid w w' b tag d -> Q (.int .i64 e) w':=λ e w' hX hd => (hQ _ _).2 ⟨by rw [hX], by rw [hX]; exact hd⟩
 unfold removeX removeF at hR
 unfold F.d_Remove
 have eE : ByteArray.mk #[] = E0:=rfl
 rw [eE]
 simp only [Run_bind]
 refine (find_run h g hs 0).mono ?_
 rintro _ w1 ⟨rfl, f1⟩
 have hdir:=λ hp => find_dir (path:=path) (kind:=0) g hp
 generalize d.findF path 0 = s at *
 obtain ⟨e, ⟨a1, a2⟩, node⟩:=s
 simp only at hdir hR
 simp [-ldA_ptr, spotV]
 refine spot_mem λ x w2 hx _ f2 _ => ?_
 have f02 : Fr (λ _ => False) w w2:=f1.trans f2 λ _ _ => id
 have h2:=h.fr0 f02
 have hb2:=h2.blk
 have same : ∀ w', Fr (λ _ => False) w w' -> DDid w w' b tag d:=λ w' f => (h.fr0 f).did (f.mono λ _ h => h.elim)
 by_cases hp : path = E0
 ·by_cases k1 : e = 0
  ·simp [-ldA_ptr, k1, ba_eq, hp]
   exact qs _ _ (by rw [hR, if_pos ⟨hp, .inl k1⟩]) (same _ f02)
  ·by_cases k2 : e = 12
   ·simp [-ldA_ptr, k2, ba_eq, hp]
    exact qs _ _ (by rw [hR, if_pos ⟨hp, .inr k2⟩]) (same _ f02)
   ·simp [-ldA_ptr, k1, k2, ba_eq, hp]
    exact qs _ _ (by rw [hR, if_neg (λ h => h.2.elim k1 k2), if_pos k1]) (same _ f02)
 rw [if_neg (λ h => hp h.1)] at hR
 by_cases k1 : e = 0
 ·rw [if_neg (by simp [k1])] at hR
  obtain ⟨n1, n2⟩:=hdir hp k1
  obtain ⟨j, hj⟩ : ∃ j : Nat, a1 = j:=⟨a1.toNat, by omega⟩
  have hjl : j < d.nodes.length:=by omega
  have hjn : d.nodes[j]? = some d.nodes[j]:=List.getElem?_eq_getElem hjl
  generalize d.nodes[j] = nd at hjn
  have hnd : d.nd a1 = nd:=by simp [Dk.nd, hj, hjn]
  simp [-ldA_ptr, k1, hx, ba_eq, hp, hb2, Dk.cells]
  refine Run_rngM h2.seen λ w3 r hit f3 hr => ?_
  refine Run_range (k:=λ _ _ => _) (λ x => rfl) (λ js x w' => x = [] /\ Fr (λ c => c = r) w3 w' /\ ∀ j ∈ js, ∀ p, v.ls[j]? = some p -> p.1.1 ≠ node) ⟨rfl, Fr.refl _ _, λ j hj => (by cases hj)⟩ hit ?_ ?_
  ·rintro js i p y wa wb hpi hj' ⟨rfl, fa, hno⟩ hitb fb sb
   have he:=hitb.entry hpi
   obtain ⟨⟨pd, pn⟩, pk⟩:=p
   simp [-ldA_ptr, he, slv]
   refine Run_newSt (cs:=#[.int .i64 pd, .string pn]) rfl rfl (by simp) λ z wc hz hzw fc hzle => ?_
   have hz' : bk wc z = some [.int .i64 pd, .string pn]:=hz
   have hxr : x ≠ r:=by
    have:=bk_lt hx
    omega
   have hxc : bk wc x = some [.int .i64 a1, .string a2, .int .i64 node]:=fc.bk_some (fb.bk_some (fa.bk_some (f3.bk_some hx id) hxr) hxr) id
   by_cases hne : pd = node
   ·simp [hz', hxc, hne]
    refine qs _ _ (by rw [hR, if_pos ⟨pn, pk, ?_⟩]) (same _ ((f02.trans (f3.new ((fa.trans fb λ _ _ h => h).trans fc λ _ _ h => h.elim) λ c hc => by omega) λ _ _ => id)))
    rw [<- h2.seenE, <- hne]
    exact getK_of_mem h2.seen.nodup (List.mem_of_getElem? hpi)
   ·simp [hz', hxc, hne]
    refine ⟨⟨(fa.trans fb λ _ _ h => h).trans fc λ _ _ h => h.elim, λ j hj x y z hq => ?_⟩, hitb.fr fc id id⟩
    rcases hj with hj | hj
    ·exact hno j hj _ hq
    ·subst hj
     rw [hpi] at hq
     cases hq
     exact hne
  ·rintro js y wa wb hperm ⟨rfl, fa, hno⟩ hitb fb sb
   have hnf : ¬ ∃ n k, d.seen (node, n) = some k:=λ ⟨n, k, hk⟩ => by
    rw [<- h2.seenE] at hk
    obtain ⟨j, hj⟩:=List.getElem?_of_mem (getK_mem hk)
    have hjl:=(List.getElem?_eq_some_iff.1 hj).1
    exact hno j (hperm.mem_iff.2 (List.mem_range.2 hjl)) _ hj rfl
   have hxr : x ≠ r:=by
    have:=bk_lt hx
    omega
   have hxb : bk wb x = some [.int .i64 a1, .string a2, .int .i64 node]:=fb.bk_some (fa.bk_some (f3.bk_some hx id) hxr) id
   have f0b : Fr (λ _ => False) w wb:=(f02.trans (f3.new fa λ c hc => by omega) λ _ _ => id).trans fb λ _ _ => id
   simp [hxb, build_gone]
   refine (do_run (h.fr0 f0b) ⟨3, a1, e0, 0, a2, e0, 0⟩ hjn hj ⟨λ h => by simp at h, λ h => by simp at h⟩ hpl).mono ?_
   rintro r w4 ⟨rfl, h4⟩
   rw [if_neg hnf, if_neg (by simp [k1]), hnd, show a1.toNat = j by omega] at hR
   exact (hQ _ _).2 ⟨by rw [hR], by rw [hR]; exact h4.pre f0b⟩
 ·simp [-ldA_ptr, k1, ba_eq, hp]
  exact qs _ _ (by rw [hR, if_pos k1]) (same _ f02)
theorem rename3_run (h : DA w b d v tag) (g : Good d) (hk0 : (d.nd 0).kind = 1) {p q : ByteArray} (hps : p.size < 4294967281) (hqs : q.size < 4294967281) (hpl : d.pending.length <= 16777216) :
  Run (F.d_Rename (Ptr b) (.string p) (.string q)) w λ r w' => r = .int .i64 (renameX d p q).1 /\ DDid w w' b tag (renameX d p q).2:=by
 obtain ⟨R, hR⟩ : ∃ R, R = renameX d p q:=⟨_, rfl⟩
 rw [<- hR]
 obtain ⟨Q, hQ⟩ : ∃ Q : Value -> World -> Prop, ∀ r w', Q r w' ↔ (r = .int .i64 R.1 /\ DDid w w' b tag R.2):=⟨_, λ _ _ => Iff.rfl⟩
 refine Run.mono (Q:=Q) ?_ λ r w' h => (hQ _ _).1 h
 have qs : ∀ e w', R = (e, d) -> DDid w w' b tag d -> Q (.int .i64 e) w':=λ e w' hX hd => (hQ _ _).2 ⟨by rw [hX], by rw [hX]; exact hd⟩
 unfold renameX at hR
 unfold F.d_Rename
 have eE : ByteArray.mk #[] = E0:=rfl
 have same : ∀ w', Fr (λ _ => False) w w' -> DDid w w' b tag d:=λ w' f => (h.fr0 f).did (f.mono λ _ h => h.elim)
 simp only [Run_bind]
 refine ready_run h ?_
 by_cases hd : d.down = true
 ·simp [hd]
  exact qs _ _ (by rw [hR, if_pos hd]) (same _ (Fr.refl _ _))
 rw [if_neg hd] at hR
 obtain ⟨m, hm⟩:=h.ml
 simp [-ldA_ptr, hd]
 refine (parse_run p hps hm).mono ?_
 rintro _ w2 ⟨nv, rfl, f2, hn⟩
 obtain ⟨m2, hm2⟩:=(h.fr0 f2).ml
 simp [-ldA_ptr]
 refine (parse_run q hqs hm2).mono ?_
 rintro _ w3 ⟨nw, rfl, f3, hn'⟩
 have f03 : Fr (λ _ => False) w w3:=f2.trans f3 λ _ _ => id
 cases hp : parseF p with
 | none =>
  rw [hp] at hR
  simp [-ldA_ptr, eE]
  exact qs _ _ hR (same _ f03)
 | some a =>
  cases hq : parseF q with
  | none =>
   rw [hp, hq] at hR
   simp [-ldA_ptr, eE]
   exact qs _ _ hR (same _ f03)
  | some c =>
   rw [hp, hq] at hR
   simp only at hR
   by_cases hp0 : p = E0
   ·simp [-ldA_ptr, eE, ba_eq, hp0]
    exact qs _ _ (by rw [hR, if_pos (.inl hp0)]) (same _ f03)
   by_cases hq0 : q = E0
   ·simp [-ldA_ptr, eE, ba_eq, hp0, hq0]
    exact qs _ _ (by rw [hR, if_pos (.inr hq0)]) (same _ f03)
   rw [if_neg (λ h => h.elim hp0 hq0)] at hR
   obtain ⟨hn1, _⟩:=hn _ hp
   obtain ⟨hn2, _⟩:=hn' _ hq
   obtain ⟨pa1, pa2⟩:=parse_small hp
   obtain ⟨pc1, pc2⟩:=parse_small hq
   have ha0 : a ≠ []:=λ he => hp0 (parse_nil (he ▸ hp))
   have hc0 : c ≠ []:=λ he => hq0 (parse_nil (he ▸ hq))
   have la:=List.length_pos_iff.2 ha0
   have lc:=List.length_pos_iff.2 hc0
   have hn1':=hn1.fr0 f3
   have fd : Fr (λ _ => False) w3 w3.drew:=(Fr.refl (λ _ => False) w3).drew
   have n1d:=hn1'.fr0 fd
   have n2d:=hn2.fr0 fd
   have l1:=n1d.lenL
   have l2:=n2d.lenL
   rw [List.length_map] at l1 l2
   have wa : IntKind.i64.wrap ((a.length : Int) - 1) = ((a.length - 1 : Nat) : Int):=by rw [wrap_int (by omega) (by omega)]; omega
   have wc : IntKind.i64.wrap ((c.length : Int) - 1) = ((c.length - 1 : Nat) : Int):=by rw [wrap_int (by omega) (by omega)]; omega
   obtain ⟨u1, s1, s2, _⟩:=n1d.take (n:=a.length - 1) (by rw [List.length_map]; omega) .i64
   rw [<- List.map_take] at s2
   simp [-ldA_ptr, eE, ba_eq, hp0, hq0, l1, l2, wa, s1]
   refine (path2_run s2 (λ x hx => pa1 x (List.mem_of_mem_take hx)) (by rw [List.length_take]; omega)).mono ?_
   rintro _ w4 ⟨rfl, f4⟩
   obtain ⟨u2, t1, t2, _⟩:=(n2d.fr0 f4).take (n:=c.length - 1) (by rw [List.length_map]; omega) .i64
   rw [<- List.map_take] at t2
   simp [-ldA_ptr, l2, wc, t1]
   refine (path2_run t2 (λ x hx => pc1 x (List.mem_of_mem_take hx)) (by rw [List.length_take]; omega)).mono ?_
   rintro _ w5 ⟨rfl, f5⟩
   have f35 : Fr (λ _ => False) w3 w5:=(fd.trans f4 λ _ _ => id).trans f5 λ _ _ => id
   have f05 : Fr (λ _ => False) w w5:=f03.trans f35 λ _ _ => id
   by_cases hpe : pathF (a.take (a.length - 1)) = pathF (c.take (c.length - 1))
   ·by_cases hle : a.length = c.length
    ·have l2' : lenL nw = some (.int .i64 c.length):=l2
     have hle' : ((a.length : Nat) : Int) = c.length:=by omega
     have hpe' : pathF (List.take (c.length - 1) a) = pathF (List.take (c.length - 1) c):=by rw [<- hle]; rw [hle]; rw [hle] at hpe; exact hpe
     simp [-ldA_ptr, ba_eq, hpe, hpe', l1, l2, hle]
     have h5:=h.fr0 f05
     refine (walk_run h5 g (hn1'.fr0 f35) (by omega)).mono ?_
     rintro _ w6 ⟨rfl, f6⟩
     have h6:=h5.fr0 f6
     have f06 : Fr (λ _ => False) w w6:=f05.trans f6 λ _ _ => id
     rw [if_neg (λ h => h.elim (λ h => h hpe) (λ h => h hle))] at hR
     have hda:=walk_dir g ha0
     have hlta:=walk_lt g a
     generalize d.walkF a = s at *
     obtain ⟨e, ⟨a1, a2⟩, node⟩:=s
     simp only at hda hlta
     simp [-ldA_ptr, spotV]
     refine spot_mem λ z6 w7 hz7 _ f7 _ => ?_
     have h7:=h6.fr0 f7
     have f07 : Fr (λ _ => False) w w7:=f06.trans f7 λ _ _ => id
     by_cases k1 : e = 0
     ·by_cases k2 : node < 0
      ·simp [-ldA_ptr, k1, hz7, k2]
       exact qs _ _ (by rw [hR]; unfold renW; rw [if_neg (by simp [k1]), if_pos k2]) (same _ f07)
      simp [-ldA_ptr, k1, hz7, k2]
      refine (walk_run h7 g (((hn2.fr0 f35).fr0 f6).fr0 f7) (by omega)).mono ?_
      rintro _ w8 ⟨rfl, f8⟩
      have h8:=h7.fr0 f8
      have herr : (d.walkF c).1 ≠ 0 -> (d.walkF c).2 = ((0, e0), 0):=walk_err c
      have hltc:=walk_lt g c
      generalize d.walkF c = t at *
      obtain ⟨et, ⟨t1', t2'⟩, tnode⟩:=t
      simp only at herr hltc
      simp [-ldA_ptr, spotV]
      refine spot_mem λ z9 w9 hz9 _ f9 _ => ?_
      have h9:=h8.fr0 f9
      have hz79 : bk w9 z6 = some [.int .i64 a1, .string a2, .int .i64 node]:=f9.bk_some (f8.bk_some hz7 id) id
      have hl7 : ldA 2 (Ptr z6) w9.drew = some (.agg #[.int .i64 a1, .string a2]):=by rw [ldA_bk (w:=w9.drew) (l:=[.int .i64 a1, .string a2, .int .i64 node]) hz79 (by simp)]; rfl
      have hl9 : ldA 2 (Ptr z9) w9.drew = some (.agg #[.int .i64 t1', .string t2']):=by rw [ldA_bk (w:=w9.drew) (l:=[.int .i64 t1', .string t2', .int .i64 tnode]) hz9 (by simp)]; rfl
      have f09 : Fr (λ _ => False) w w9.drew:=((f07.trans f8 λ _ _ => id).trans f9 λ _ _ => id).drew
      have hb9:=h9.blk
      obtain ⟨n1, n2⟩:=hda k1
      have fin : ¬ (0 <= tnode /\ ((t1', t2') = (a1, a2) ∨ (d.nd node).kind ≠ 2 ∨ (d.nd tnode).kind ≠ 2)) -> Run (F.d_do (Ptr b) (Chg.val ⟨4, a1, e0, 0, a2, t2', 0⟩)) w9.drew Q:=by
       intro het
       unfold renW at hR
       simp only at hR
       rw [if_neg (by simp [k1]), if_neg k2, if_neg het] at hR
       obtain ⟨j, hj⟩ : ∃ j : Nat, a1 = j:=⟨a1.toNat, by omega⟩
       have hjl : j < d.nodes.length:=by omega
       have hjn : d.nodes[j]? = some d.nodes[j]:=List.getElem?_eq_getElem hjl
       generalize d.nodes[j] = nd at hjn
       have hnd : d.nd a1 = nd:=by simp [Dk.nd, hj, hjn]
       refine (do_run (h.fr0 f09) ⟨4, a1, e0, 0, a2, t2', 0⟩ hjn hj ⟨λ h => by simp at h, λ h => by simp at h⟩ hpl).mono ?_
       rintro _ wz ⟨rfl, hz⟩
       rw [hnd, show a1.toNat = j by omega] at hR
       exact (hQ _ _).2 ⟨by rw [hR], by rw [hR]; exact hz.pre f09⟩
      obtain ⟨i0, hi0⟩ : ∃ i : Nat, node = i:=⟨node.toNat, by omega⟩
      have hi0l : i0 < d.nodes.length:=by omega
      have hin : d.nodes[i0]? = some d.nodes[i0]:=List.getElem?_eq_getElem hi0l
      generalize d.nodes[i0] = ni at hin
      obtain ⟨b0, o, ll, i1, t4, i2, q0, _, _, _⟩:=h9.setNode hin
      have i1' : idxA 3 v.nv (.int .i64 node) = some (.pointer (some ⟨b0, o, none⟩)):=by rw [hi0]; exact i1
      by_cases k3 : tnode < 0
      ·have het : et = 0:=Classical.byContradiction λ hn => by
        have:=herr hn
        simp only [Prod.mk.injEq] at this
        omega
       have k3' : ¬ 0 <= tnode:=by omega
       simp [-ldA_ptr, hz79, hz9, k3']
       rw [build_move]
       simp only [Run_bindO_some, Run_bind, Run_ret]
       exact fin (λ h => k3' h.1)
      have k3' : 0 <= tnode:=by omega
      obtain ⟨j0, hj0⟩ : ∃ i : Nat, tnode = i:=⟨tnode.toNat, by omega⟩
      have hj0l : j0 < d.nodes.length:=by omega
      have hjn0 : d.nodes[j0]? = some d.nodes[j0]:=List.getElem?_eq_getElem hj0l
      generalize hnj : d.nodes[j0] = nj at hjn0
      obtain ⟨b1, o1, ll1, j1, t41, j2, q1, _, _, _⟩:=h9.setNode hjn0
      have j1' : idxA 3 v.nv (.int .i64 tnode) = some (.pointer (some ⟨b1, o1, none⟩)):=by rw [hj0]; exact j1
      have hni : d.nd node = ni:=by simp [Dk.nd, hi0, hin]
      have hnj' : d.nd tnode = nj:=by simp [Dk.nd, hj0, hjn0]
      have bad : ((t1', t2') = (a1, a2) ∨ (d.nd node).kind ≠ 2 ∨ (d.nd tnode).kind ≠ 2) -> R = (13, d):=λ hb => by rw [hR]; unfold renW; simp only; rw [if_neg (by simp [k1]), if_neg k2, if_pos ⟨k3', hb⟩]
      by_cases ks : t1' = a1 /\ t2' = a2
      ·simp [-ldA_ptr, hz79, hz9, k3', hl7, hl9, ba_eq, ks.1, ks.2]
       exact qs _ _ (bad (.inl (by rw [ks.1, ks.2]))) (same _ f09)
      have ks' : (decide (t1' = a1) && decide (t2' = a2)) = false:=by simpa using ks
      by_cases k4 : ni.kind = 2
      ·by_cases k5 : nj.kind = 2
       ·simp [-ldA_ptr, hz79, hz9, k3', hl7, hl9, ba_eq, ks', hb9, Dk.cells, i1', i2, q0, j1', j2, q1, k4, k5]
        rw [build_move]
        simp only [Run_bindO_some, Run_bind, Run_ret]
        exact fin (λ h => h.2.elim (λ h => ks (by simpa using h)) λ h => h.elim (λ h => h (by rw [hni]; exact k4)) λ h => h (by rw [hnj']; exact k5))
       ·simp [-ldA_ptr, hz79, hz9, k3', hl7, hl9, ba_eq, ks', hb9, Dk.cells, i1', i2, q0, j1', j2, q1, k4, k5]
        exact qs _ _ (bad (.inr (.inr (by rw [hnj']; exact k5)))) (same _ f09)
      ·simp [-ldA_ptr, hz79, hz9, k3', hl7, hl9, ba_eq, ks', hb9, Dk.cells, i1', i2, q0, j1', j2, q1, k4]
       exact qs _ _ (bad (.inr (.inl (by rw [hni]; exact k4)))) (same _ f09)
     ·simp [-ldA_ptr, k1]
      exact qs _ _ (by rw [hR]; unfold renW; rw [if_pos k1]) (same _ f07)
    ·have hle' : ¬ ((a.length : Nat) : Int) = c.length:=by omega
     simp [-ldA_ptr, ba_eq, hpe, l1, l2, hle, hle']
     exact qs _ _ (by rw [hR, if_pos (.inr hle)]) (same _ f05)
   ·simp [-ldA_ptr, ba_eq, hpe]
    exact qs _ _ (by rw [hR, if_pos (.inl hpe)]) (same _ f05)
end
end Go.Proofs.YtojnickeblbgoaaGreatDoor
namespace Go.Proofs.YtojnickeblbgoaaGreatDoor
open Go.Lift
set_option linter.unusedSimpArgs false
set_option linter.unusedVariables false
set_option maxHeartbeats 4000000
theorem parse_ok {s : ByteArray} {names : List ByteArray} (h : parseF s = some names) : ∀ x ∈ names, nameF x = true:=by
 unfold parseF at h
 split at h
 ·cases h; intro x hx; cases hx
 ·split at h
  ·cases h
  ·split at h
   ·rename_i ha
    cases h
    exact List.all_eq_true.1 ha
   ·cases h
theorem name_no {x : ByteArray} (h : nameF x = true) : (47 : UInt8) ∉ x.data.toList /\ x.data.toList ≠ []:=by
 simp only [nameF, Bool.and_eq_true, List.all_eq_true, Bool.not_eq_true', decide_eq_false_iff_not] at h
 refine ⟨λ hm => ?_, λ hn => h.1.1.1.1 (ba_ext (by rw [hn]; rfl))⟩
 have:=h.2 _ hm
 exact absurd this (by decide)
theorem cut_inj : ∀ {x y r s : List UInt8}, (47 : UInt8) ∉ x -> (47 : UInt8) ∉ y -> x ++ 47 :: r = y ++ 47 :: s -> x = y /\ r = s
 | [], [], r, s, _, _, h => ⟨rfl, by simpa using h⟩
 | [], b :: y, r, s, _, hy, h => by
  simp only [List.nil_append, List.cons_append, List.cons.injEq] at h
  exact absurd (by simp [<- h.1]) hy
 | a :: x, [], r, s, hx, _, h => by
  simp only [List.nil_append, List.cons_append, List.cons.injEq] at h
  exact absurd (by simp [h.1]) hx
 | a :: x, b :: y, r, s, hx, hy, h => by
  simp only [List.cons_append, List.cons.injEq] at h
  obtain ⟨e1, e2⟩:=cut_inj (λ hm => hx (by simp [hm])) (λ hm => hy (by simp [hm])) h.2
  exact ⟨by rw [h.1, e1], e2⟩
theorem jl_inj : ∀ {l l' : List (List UInt8)}, (∀ x ∈ l, (47 : UInt8) ∉ x /\ x ≠ []) -> (∀ x ∈ l', (47 : UInt8) ∉ x /\ x ≠ []) -> jl l = jl l' -> l = l'
 | [], [], _, _, _ => rfl
 | [], [y], _, hy, h => by simp [jl] at h; exact absurd h (hy y (by simp)).2
 | [], y :: z :: r, _, hy, h => by simp [jl] at h
 | [x], [], hx, _, h => by simp [jl] at h; exact absurd h (hx x (by simp)).2
 | x :: z :: r, [], _, _, h => by simp [jl] at h
 | [x], [y], _, _, h => by simp [jl] at h; rw [h]
 | [x], y :: z :: r, hx, _, h => by
  rw [jl_cons (x:=y) (by simp)] at h
  simp [jl] at h
  exact absurd (by rw [h]; simp) (hx x (by simp)).1
 | x :: z :: r, [y], _, hy, h => by
  rw [jl_cons (x:=x) (by simp)] at h
  simp [jl] at h
  exact absurd (by rw [<- h]; simp) (hy y (by simp)).1
 | x :: z :: r, y :: z' :: r', hx, hy, h => by
  rw [jl_cons (x:=x) (by simp), jl_cons (x:=y) (by simp)] at h
  simp only [List.append_assoc, List.singleton_append] at h
  obtain ⟨e1, e2⟩:=cut_inj (hx x (by simp)).1 (hy y (by simp)).1 h
  have e3:=jl_inj (l:=z :: r) (l':=z' :: r') (λ a ha => hx a (List.mem_cons_of_mem _ ha)) (λ a ha => hy a (List.mem_cons_of_mem _ ha)) e2
  rw [e1, e3]
theorem join_jl : ∀ (l : List ByteArray), joinL l slash = jl (l.map (·.data.toList))
 | [] => rfl
 | x :: r => by
  simp only [joinL, jl, List.map_cons, List.map_map]
  rfl
theorem path_inj {l l' : List ByteArray} (h : ∀ x ∈ l, nameF x = true) (h' : ∀ x ∈ l', nameF x = true) (he : pathF l = pathF l') : l = l':=by
 have e : joinL l slash = joinL l' slash:=by
  have:=congrArg (λ b : ByteArray => b.data.toList) he
  simpa [pathF] using this
 rw [join_jl, join_jl] at e
 have:=jl_inj (λ x hx => by obtain ⟨y, hy, rfl⟩:=List.mem_map.1 hx; exact name_no (h y hy)) (λ x hx => by obtain ⟨y, hy, rfl⟩:=List.mem_map.1 hx; exact name_no (h' y hy)) e
 have key : ∀ {l l' : List ByteArray}, l.map (·.data.toList) = l'.map (·.data.toList) -> l = l':=by
  intro l
  induction l with
  | nil => intro l' h; cases l' with
   | nil => rfl
   | cons y r => simp at h
  | cons x r ih => intro l' h; cases l' with
   | nil => simp at h
   | cons y r' =>
    simp only [List.map_cons, List.cons.injEq] at h
    rw [ba_ext h.1, ih h.2]
 exact key this
theorem rt_fun {m : Slt -> Option Int} {D D' : Int} {pre : List ByteArray} (h : Rt m D pre) (h' : Rt m D' pre) : D = D':=by
 induction h generalizing D' with
 | root =>
  generalize hp : ([] : List ByteArray) = pre at h'
  cases h' with
  | root => rfl
  | step _ _ => simp at hp
 | step hr hk ih =>
  rename_i n pre
  generalize hp : pre ++ [n] = pp at h'
  cases h' with
  | root => simp at hp
  | step hr' hk' =>
   obtain ⟨e1, e2⟩:=List.append_inj' hp rfl
   subst e1
   have:=ih hr'
   subst this
   simp only [List.cons.injEq, and_true] at e2
   subst e2
   rw [hk] at hk'
   exact Option.some.inj hk'
section
variable {A M n : Nat} {dep : Int -> Nat} {kd : Int -> Prop} {d d' : Dk} {m : Slt -> Option Int}
theorem rt_dep (h : Ents n kd dep m) (h0 : dep 0 = 0) {D : Int} {pre : List ByteArray} (hr : Rt m D pre) : dep D = pre.length:=by
 induction hr with
 | root => exact h0
 | step hr hk ih =>
  have:=(h.dpt _ _ hk).1
  simp only at this
  rw [this, ih]; simp
theorem rt_up {D : Int} {pre : List ByteArray} (hr : Rt m D pre) : D = 0 ∨ ∃ t, m t = some D:=by
 cases hr with
 | root => exact .inl rfl
 | step hr hk => exact .inr ⟨_, hk⟩
theorem GI.con (h : GI A M dep d) : ∀ (n : Nat) (s : Slt) (k : Int), dep k <= n -> d.seen s = some k -> ∃ pre, Rt d.seen s.1 pre:=by
 intro n
 induction n with
 | zero => intro s k hn hs; have:=(h.pseen.dpt s k hs).1; omega
 | succ n ih =>
  intro s k hn hs
  rcases h.up s k hs with h0 | ⟨t, ht⟩
  ·rw [h0]; exact ⟨[], .root⟩
  ·have h1:=(h.pseen.dpt s k hs).1
   obtain ⟨pre, hr⟩:=ih t s.1 (by omega) ht
   exact ⟨pre ++ [t.2], .step hr ht⟩
theorem GI.rt (h : GI A M dep d) {s : Slt} {k : Int} (hs : d.seen s = some k) : ∃ pre, Rt d.seen s.1 pre /\ Rt d.seen k (pre ++ [s.2]):=by
 obtain ⟨pre, hr⟩:=h.con _ s k (Nat.le_refl _) hs
 exact ⟨pre, hr, .step hr hs⟩
structure Place (d : Dk) (names : List ByteArray) : Prop where
 ex : ∃ D pre last, names = pre ++ [last] /\ Rt d.seen D pre /\ d.walkF names = (0, (D, last), (d.seen (D, last)).getD (-1)) /\ 0 <= D /\ D < d.nodes.length /\ d.isD D
theorem walkGo_kind {d : Dk} : ∀ (names : List ByteArray) (a : Slt) (node : Int), (d.walkGo a node names).1 = 0 -> names ≠ [] -> d.isD (d.walkGo a node names).2.1.1
 | [], a, node, _, h => absurd rfl h
 | x :: rest, a, node, h, _ => by
  unfold Dk.walkGo at h ⊢
  by_cases h1 : node < 0
  ·rw [if_pos h1] at h; cases h
  rw [if_neg h1] at h ⊢
  by_cases h2 : (d.nd node).kind ≠ 1
  ·rw [if_pos h2] at h; cases h
  rw [if_neg h2] at h ⊢
  by_cases h3 : (d.seen (node, x)).getD (-1) < 0 /\ rest ≠ []
  ·rw [if_pos h3] at h; cases h
  rw [if_neg h3] at h ⊢
  by_cases hre : rest = []
  ·subst hre
   have : (d.nd node).kind = 1:=Classical.byContradiction h2
   exact this
  ·exact walkGo_kind rest _ _ h hre
theorem GI.place (h : GI A M dep d) {names : List ByteArray} (hn : names ≠ []) (hw : (d.walkF names).1 = 0) : Place d names:=by
 obtain ⟨D, pre, last, e1, e2, e3, e4⟩:=walk_res hw hn
 obtain ⟨q1, q2⟩:=walk_dir h.good hn hw
 have hk:=walkGo_kind names (-1, e0) 0 hw hn
 have e5 : d.walkF names = ((d.walkF names).1, (d.walkF names).2.1, (d.walkF names).2.2):=rfl
 rw [hw, e3, e4] at e5
 rw [e3] at q1 q2
 have hk' : d.isD (d.walkF names).2.1.1:=hk
 rw [e3] at hk'
 exact ⟨D, pre, last, e1, e2, e5, q1, q2, hk'⟩
theorem gi_create (h : GI A M dep d) (p : ByteArray) {kind : Int} (hk : kind = 1 ∨ kind = 2) : ∃ dep', GI A (M + 2) dep' (createF d p kind).2:=by
 have same : GI A (M + 2) dep d:=h.more (Nat.le_refl _) (by omega)
 unfold createF
 split
 ·exact ⟨dep, same⟩
 split
 ·exact ⟨dep, same⟩
 rename_i names hpn
 split
 ·exact ⟨dep, same⟩
 rename_i hw
 have hw0 : (d.walkF names).1 = 0:=by simpa using hw
 split
 ·exact ⟨dep, same⟩
 rename_i hneg
 have hn : names ≠ []:=λ he => by rw [he] at hneg; exact hneg (show (0 : Int) <= 0 by omega)
 obtain ⟨D, pre, last, e1, e2, e3, q1, q2, hkD⟩:=(h.place hn hw0).ex
 rw [e3] at hneg ⊢
 simp only at hneg ⊢
 have hno : d.seen (D, last) = none:=by
  cases hs : d.seen (D, last) with
  | none => rfl
  | some k =>
   rw [hs] at hneg
   have:=h.pseen.rng _ _ hs
   exact absurd (show (0 : Int) <= k by omega) hneg
 have hlast : nameF last = true:=parse_ok hpn last (by rw [e1]; simp)
 have hdD:=rt_dep h.pseen h.dep0 e2
 have hlen:=(parse_small hpn).2
 have hpl : pre.length + 1 <= 8:=by rw [e1] at hlen; simpa using hlen
 refine ⟨depN dep d.nodes.length (pre.length + 1), ?_⟩
 have hN:=h.addNode hk (pre.length + 1)
 have hnl : (d.addNode kind).nodes.length = d.nodes.length + 1:=by show (d.nodes ++ [_]).length = _; simp
 have hi : (d.addNode kind).nodes[D.toNat]? = some (d.nd D):=by
  show (d.nodes ++ [_])[D.toNat]? = _
  rw [List.getElem?_append_left (by omega)]
  exact nd_at d q1 q2
 have hpos : 0 < d.nodes.length:=h.pos
 have hd1 : depN dep d.nodes.length (pre.length + 1) D = pre.length:=by unfold depN; rw [if_neg (by omega)]; exact hdD
 have hd2 : depN dep d.nodes.length (pre.length + 1) (d.nodes.length : Int) = pre.length + 1:=by unfold depN; rw [if_pos rfl]
 have t:=hN.do' (c:=⟨2, D, e0, 0, last, e0, d.nodes.length⟩) (i:=D.toNat) hi (show D = _ by omega) ⟨by rw [hnl]; simp only; omega, by simp, λ _ => ⟨by unfold Dk.isD; rw [nd_add d kind q1 q2]; exact hkD, hlast⟩, λ hc => by simp at hc, λ _ => by rw [hnl]; simp only; rw [hd1, hd2]; omega⟩
  (λ hc => by simp at hc) (λ _ => ⟨λ s hks => ?_, λ x hx hx2 => ?_, λ t nd' ht hnd' => ?_⟩) (λ hc => by rcases hc with hc | hc <;> simp at hc) ?_ ⟨λ hc => by simp at hc, λ hc => by simp at hc⟩
 ·have e : A + (Chg.mk 2 D e0 0 last e0 d.nodes.length).data.size = A:=rfl
  rw [e] at t
  exact t
 ·have:=(h.ents.rng s _ hks).2
  simp only at this; omega
 ·have:=(h.sc x hx).tgt hx2
  simp only; omega
 ·have ht' : t = d.nodes.length:=by simp only at ht; omega
  subst ht'
  have hnd : nd' = ⟨kind, e0, e0⟩:=by
   have : (d.nodes ++ [(⟨kind, e0, e0⟩ : Nd)])[d.nodes.length]? = some nd':=hnd'
   simpa using this.symm
  subst hnd
  exact (bfold_none (j:=((d.nodes.length : Nat) : Int)) (L:=d.pending) (λ c hc hcj => by
   have:=(h.sc c hc).node
   omega) e0).1
 ·intro s k hs
  have e : entG (d.addNode kind).seen ⟨2, D, e0, 0, last, e0, d.nodes.length⟩ = fput d.seen (D, last) d.nodes.length:=by rw [entG_cases]; rfl
  rw [e] at hs ⊢
  have keep : ∀ p : Int, (p = 0 ∨ ∃ t, d.seen t = some p) -> p = 0 ∨ ∃ t, fput d.seen (D, last) d.nodes.length t = some p:=λ p hp => hp.imp id λ ⟨t, ht⟩ => ⟨t, by
   simp only [fput]
   rw [if_neg (λ he => by rw [he, hno] at ht; cases ht)]
   exact ht⟩
  simp only [fput] at hs
  split at hs
  ·rename_i he
   rw [he]
   exact keep _ (rt_up e2)
  ·exact keep _ (h.up s k hs)
theorem gi_byte (h : GI A M dep d) {p : ByteArray} (hf : (d.findF p 2).1 = 0) {c : Chg} (hn : c.node = (d.findF p 2).2.2) (hw : c.what = 0 ∨ c.what = 1) (hfit : c.fits (d.nd (d.findF p 2).2.2).seen) :
  GI (A + c.data.size) (M + 1) dep (doF d c (d.findF p 2).2.2.toNat (d.nd (d.findF p 2).2.2)).2:=by
 have hlt:=find_lt h.good p 2
 obtain ⟨names, hpn, hw0, he, hge, hkind⟩:=find_res hf
 rw [he] at hn hfit hlt ⊢
 have hne : names ≠ []:=λ hnil => by
  have hk:=hkind (by decide)
  rw [hnil] at hk
  have e : (d.walkF []).2.2 = 0:=rfl
  rw [e, h.k0] at hk
  exact absurd hk (by decide)
 obtain ⟨D, pre, last, e1, e2, e3, q1, q2, hkD⟩:=(h.place hne hw0).ex
 have hs : ∃ s, d.seen s = some (d.walkF names).2.2:=by
  rw [e3] at hge ⊢
  simp only at hge ⊢
  cases hs : d.seen (D, last) with
  | none => rw [hs] at hge; exact absurd hge (by decide)
  | some k => exact ⟨_, by rw [hs]; rfl⟩
 have hi:=nd_at d hge hlt
 have nw : c.what ≠ 2 /\ c.what ≠ 3 /\ c.what ≠ 4:=by rcases hw with hw | hw <;> rw [hw] <;> decide
 have hent : entG d.seen c = d.seen:=by rw [entG_cases, if_neg nw.1, if_neg nw.2.1, if_neg nw.2.2]
 refine h.do' (c:=c) (i:=(d.walkF names).2.2.toNat) hi (by rw [hn]; omega) ⟨by rw [hn]; omega, by omega, λ hc => ?_, λ hc => absurd hc nw.2.2, λ hc => absurd hc nw.1⟩ (λ hc => absurd hc nw.2.2) (λ hc => absurd hc nw.1) (λ _ => ?_) (by rw [hent]; exact h.up) hfit
 ·rcases hc with hc | hc | hc
  ·exact absurd hc nw.1
  ·exact absurd hc nw.2.1
  ·exact absurd hc nw.2.2
 ·obtain ⟨s, hs⟩:=hs
  exact ⟨s, by rw [hs]; congr 1; omega⟩
theorem gi_remove (h : GI A M dep d) (p : ByteArray) : GI A (M + 1) dep (removeX d p).2:=by
 have same : GI A (M + 1) dep d:=h.more (Nat.le_refl _) (by omega)
 unfold removeX
 split
 ·exact same
 rename_i h1
 split
 ·exact same
 rename_i h2
 have hf : (d.findF p 0).1 = 0:=by simpa using h2
 have h0 : p ≠ E0:=λ he => h1 ⟨he, .inl hf⟩
 split
 ·exact same
 rename_i hfull
 unfold removeF
 rw [if_neg (by simp [hf])]
 obtain ⟨names, hpn, hw0, he, hge, _⟩:=find_res hf
 rw [he] at hfull ⊢
 have hne : names ≠ []:=λ hnil => h0 (parse_nil (hnil ▸ hpn))
 obtain ⟨D, pre, last, e1, e2, e3, q1, q2, hkD⟩:=(h.place hne hw0).ex
 rw [e3] at hge hfull ⊢
 simp only at hge hfull ⊢
 obtain ⟨k, hk⟩ : ∃ k, d.seen (D, last) = some k:=by
  cases hs : d.seen (D, last) with
  | none => rw [hs] at hge; exact absurd hge (by decide)
  | some k => exact ⟨k, rfl⟩
 rw [hk] at hfull
 simp only [Option.getD_some] at hfull
 have t:=h.do' (c:=⟨3, D, e0, 0, last, e0, 0⟩) (i:=D.toNat) (nd_at d q1 q2) (show D = _ by omega) ⟨⟨q1, q2⟩, by simp, λ _ => ⟨hkD, parse_ok hpn last (by rw [e1]; simp)⟩, λ hc => by simp at hc, λ hc => by simp at hc⟩
  (λ hc => by simp at hc) (λ hc => by simp at hc) (λ hc => by rcases hc with hc | hc <;> simp at hc) ?_ ⟨λ hc => by simp at hc, λ hc => by simp at hc⟩
 ·have e : A + (Chg.mk 3 D e0 0 last e0 0).data.size = A:=rfl
  rw [e] at t
  exact t
 ·intro s x hs
  have e : entG d.seen ⟨3, D, e0, 0, last, e0, 0⟩ = fdel d.seen (D, last):=by rw [entG_cases]; rfl
  rw [e] at hs ⊢
  obtain ⟨s1, s2⟩:=fdel_some hs
  rcases h.up s x s2 with h0 | ⟨t, ht⟩
  ·exact .inl h0
  ·right
   refine ⟨t, ?_⟩
   simp only [fdel]
   rw [if_neg]
   ·exact ht
   ·intro hte
    rw [hte, hk] at ht
    cases ht
    exact hfull ⟨s.2, x, s2⟩
theorem gi_rename (h : GI A M dep d) (p q : ByteArray) : GI A (M + 1) dep (renameX d p q).2:=by
 have same : GI A (M + 1) dep d:=h.more (Nat.le_refl _) (by omega)
 unfold renameX
 split
 ·exact same
 split
 ·rename_i a c hpa hqc
  split
  ·exact same
  rename_i hE
  split
  ·exact same
  rename_i hP
  have hna : a ≠ []:=λ hnil => hE (.inl (parse_nil (hnil ▸ hpa)))
  have hnc : c ≠ []:=λ hnil => hE (.inr (parse_nil (hnil ▸ hqc)))
  unfold renW
  split
  ·exact same
  rename_i hw
  have hw0 : (d.walkF a).1 = 0:=by simpa using hw
  split
  ·exact same
  rename_i hge
  split
  ·exact same
  rename_i hbad
  obtain ⟨D, pre, last, e1, e2, e3, q1, q2, hkD⟩:=(h.place hna hw0).ex
  have hwc : (d.walkF c).1 = 0:=Classical.byContradiction λ hn => by
   have:=walk_err c hn
   rw [this] at hbad
   exact hbad ⟨Int.le_refl _, .inr (.inr (by rw [h.k0]; decide))⟩
  obtain ⟨D', pre', last', f1, f2, f3, r1, r2, hkD'⟩:=(h.place hnc hwc).ex
  rw [e3] at hge hbad ⊢
  rw [f3] at hbad ⊢
  simp only at hge hbad ⊢
  obtain ⟨k, hk⟩ : ∃ k, d.seen (D, last) = some k:=by
   cases hs : d.seen (D, last) with
   | none => rw [hs] at hge; exact absurd (show (-1 : Int) < 0 by decide) hge
   | some k => exact ⟨k, rfl⟩
  have hlast' : nameF last' = true:=parse_ok hqc last' (by rw [f1]; simp)
  have hDD : D' = D:=by
   have hlen : a.length = c.length:=Classical.byContradiction λ hn => hP (.inr hn)
   have hpath : pathF (a.take (a.length - 1)) = pathF (c.take (c.length - 1)):=Classical.byContradiction λ hn => hP (.inl hn)
   rw [e1, f1] at hpath
   simp only [List.length_append, List.length_cons, List.length_nil, Nat.zero_add, Nat.add_sub_cancel, List.take_left] at hpath
   have hpp : pre = pre':=path_inj (λ x hx => parse_ok hpa x (by rw [e1]; simp [hx])) (λ x hx => parse_ok hqc x (by rw [f1]; simp [hx])) hpath
   subst hpp
   exact rt_fun f2 e2
  subst hDD
  have t:=h.do' (c:=⟨4, D', e0, 0, last, last', 0⟩) (i:=D'.toNat) (nd_at d q1 q2) (show D' = _ by omega) ⟨⟨q1, q2⟩, by simp, λ _ => ⟨hkD, parse_ok hpa last (by rw [e1]; simp)⟩, λ _ => hlast', λ hc => by simp at hc⟩
   (λ _ => by show d.seen (D', last) ≠ none; rw [hk]; simp) (λ hc => by simp at hc) (λ hc => by rcases hc with hc | hc <;> simp at hc) ?_ ⟨λ hc => by simp at hc, λ hc => by simp at hc⟩
  ·have e : A + (Chg.mk 4 D' e0 0 last last' 0).data.size = A:=rfl
   rw [e] at t
   exact t
  ·intro s x hs
   have e : entG d.seen ⟨4, D', e0, 0, last, last', 0⟩ = fput (fdel d.seen (D', last)) (D', last') k:=by rw [entG_cases]; simp [hk]
   rw [e] at hs ⊢
   have dk:=(h.pseen.dpt _ _ hk).1
   simp only at dk
   have keep : ∀ p : Int, (p = 0 ∨ ∃ t, d.seen t = some p) -> (d.seen (D', last') = some p -> False) -> p = 0 ∨ ∃ t, fput (fdel d.seen (D', last)) (D', last') k t = some p:=λ p hp hno => by
    rcases hp with h0 | ⟨t, ht⟩
    ·exact .inl h0
    ·right
     by_cases h1 : t = (D', last)
     ·rw [h1, hk] at ht
      cases ht
      exact ⟨(D', last'), by simp [fput]⟩
     ·refine ⟨t, ?_⟩
      simp only [fput, fdel]
      rw [if_neg (λ he => hno (by rw [<- he]; exact ht)), if_neg h1]
      exact ht
   simp only [fput] at hs
   split at hs
   ·rename_i he
    rw [he]
    refine keep _ (rt_up e2) λ hx => ?_
    have:=(h.pseen.dpt _ _ hx).1
    simp only at this
    omega
   ·obtain ⟨s1, s2⟩:=fdel_some hs
    refine keep _ (h.up s x s2) λ hx => ?_
    have hd:=(h.pseen.dir s x s2).2.2
    refine hbad ⟨?_, .inr (.inr ?_)⟩
    ·rw [hx]
     have:=h.pseen.rng _ _ hx
     simp only [Option.getD_some]; omega
    ·rw [hx]
     show (d.nd s.1).kind ≠ 2
     have : (d.nd s.1).kind = 1:=hd
     rw [this]; decide
 ·exact same
theorem gi_sync (h : GI A M dep d) (p : ByteArray) (kind : Int) : GI A M dep (syncF d p kind).2:=by
 unfold syncF
 split
 ·exact h
 rename_i hf
 have hf0 : (d.findF p kind).1 = 0:=by simpa using hf
 have hlt:=find_lt h.good p kind
 obtain ⟨names, hpn, hw0, he, hge, _⟩:=find_res hf0
 rw [he] at hlt ⊢
 exact h.settle (nd_at d hge hlt)
end
section
variable {w w' w'' : World} {b : Nat} {d d' : Dk} {v : DV} {tag : Nat -> Nat} {A B : Nat} {dep : Int -> Nat}
theorem new2_run {w : World} {cap : Int} (hc0 : 0 <= cap) (hc1 : cap <= 1073741824) (hm : ∃ m : Int, bk w 0 = some [.int .i64 m]) :
  Run (F.dd_New (.int .i64 cap)) w λ r w' => ∃ b, r = .tuple #[Ptr b, .int .i64 0] /\ ∃ v tag, DA w' b (newD cap) v tag /\ (∀ c, tag c ≠ 0 -> w.heap.size <= c) /\ Fr (λ _ => False) w w':=by
 unfold F.dd_New
 have hn0 : ¬ cap < 0:=by omega
 have hn1 : ¬ (1073741824 : Int) < cap:=by omega
 simp [-ldA_ptr, build_node, hn0, hn1]
 refine Run_bsl (k:=3) (n:=1) (vs:=[.agg #[.int .i64 1, .string ByteArray.empty, .string ByteArray.empty]]) rfl (by simp) rfl (by simp [size_zeroCells]) λ r w1 hr f1 hrn => ?_
 have s1:=f1.size
 refine Run_mkmM (kv:=slv) (vv:=idv) λ w2 b2 hm2 f2 hb2 => ?_
 refine Run_mkmM (kv:=slv) (vv:=idv) λ w3 b3 hm3 f3 hb3 => ?_
 have l2:=hm2.lt
 have l3:=hm3.lt
 have s2:=f2.size
 have s3:=f3.size
 have hr2 : SlW 3 w3 r ((newD cap).nodes.map Nd.cells):=(hr.fr f2 λ _ _ h => h).fr f3 λ _ _ h => h
 have e : buildV #[.int .i64 0, .int .i64 0, .int .i64 0, .bool false, .int .i64 0, .bool false, .slice none 0 0, .map none, .map none, .slice none 0 0]
   [(0, 1, .int .i64 cap), (6, 1, r), (7, 1, .map (some b2)), (8, 1, .map (some b3))] = some (.agg ((newD cap).cells ⟨r, .slice none 0 0, b2, b3, [], []⟩).toArray):=by
  obtain ⟨_, a, c, rfl, _⟩:=hr2.1
  simp [buildV, fillV, Dk.cells, newD]
 rw [e]
 simp only [Run_bindO_some, Run_bind]
 refine Run_new λ b w4 hb hw f4 hble => ?_
 have f04 : Fr (λ _ => False) w w4:=((f1.trans f2 λ _ _ => id).trans f3 λ _ _ => id).trans f4 λ _ _ => id
 have s4:=f4.size
 have hbl:=bk_lt hb
 obtain ⟨m, hm0⟩:=hm
 have hz:=bk_lt hm0
 have hr4:=hr2.fr f4 λ _ _ h => h
 simp only [Run_ret]
 obtain ⟨tag, htag⟩ : ∃ tag : Nat -> Nat, tag = λ c => if c = b then 1 else if c = b2 then 2 else if c = b3 then 3 else if c = w.heap.size /\ c < w1.heap.size then 4 else 0:=⟨_, rfl⟩
 have t1 : tag b = 1:=by rw [htag]; simp
 have t2 : tag b2 = 2:=by rw [htag]; simp only; rw [if_neg (by omega), if_pos trivial]
 have t3 : tag b3 = 3:=by rw [htag]; simp only; rw [if_neg (by omega), if_neg (by omega), if_pos trivial]
 have t4 : ∀ c, inB r c -> tag c = 4:=λ c hc => by
  have:=hrn c hc
  rw [htag]; simp only; rw [if_neg (by omega), if_neg (by omega), if_neg (by omega), if_pos this]
 have tle : ∀ c, tag c ≠ 0 -> w.heap.size <= c /\ c < w4.heap.size:=λ c hc => by
  rw [htag] at hc
  simp only at hc
  split at hc
  ·omega
  ·split at hc
   ·omega
   ·split at hc
    ·omega
    ·split at hc
     ·omega
     ·exact absurd rfl hc
 have t0 : tag 0 = 0:=Classical.byContradiction λ h => by have:=tle 0 h; omega
 exact ⟨b, rfl, ⟨r, .slice none 0 0, b2, b3, [], []⟩, tag, ⟨hb, hw, hr4, (hm2.fr f3 id).fr f4 id, λ _ => rfl, hm3.fr f4 id, λ _ => rfl, SlW.nil _ _, t1, t2, t3, t4, λ c hc => hc.elim, t0, ⟨m, f04.bk_some hm0 id⟩, λ c hc => (tle c hc).2⟩, λ c hc => (tle c hc).1, f04⟩
theorem new_bad {cap : Int} (h : ¬ (0 <= cap /\ cap <= 1073741824)) : Run (F.dd_New (.int .i64 cap)) w λ r w' => r = .tuple #[.pointer none, .int .i64 1] /\ w' = w:=by
 unfold F.dd_New
 by_cases h0 : cap < 0
 ·simp [h0]
 ·have h1 : (1073741824 : Int) < cap:=by omega
  simp [h0, h1]
theorem newD_gi (cap : Int) : GI 0 1 (λ _ => 0) (newD cap):=by
 have hk : ∀ nd, nd ∈ (newD cap).nodes -> nd = ⟨1, e0, e0⟩:=λ nd h => by simpa [newD] using h
 refine ⟨⟨_, rfl, rfl⟩, λ nd h => .inl (by rw [hk nd h]), Ents.empty, λ c hc => by simp [newD] at hc, λ L1 c L2 e => by simp [newD] at e, ⟨λ c hc => by simp [newD] at hc, List.Pairwise.nil⟩, rfl, λ j nd hj => ?_, λ s k hs => by simp [newD] at hs, rfl, Nat.le_refl _, Nat.zero_le _⟩
 have:=hk nd (List.mem_of_getElem? hj)
 subst this
 exact ⟨trivial, λ _ => rfl, Nat.le_refl _, Nat.le_refl _⟩
theorem mkdirG (a p : Value) {Q : Value -> World -> Prop} : Run (F.d_Mkdir a p) w Q ↔ Run (F.d_add a p (.int .i64 1)) w Q:=by
 unfold F.d_Mkdir
 simp only [Run_bind, Run_ret]
theorem createG (a p : Value) {Q : Value -> World -> Prop} : Run (F.d_Create a p) w Q ↔ Run (F.d_add a p (.int .i64 2)) w Q:=by
 unfold F.d_Create
 simp only [Run_bind, Run_ret]
end
end Go.Proofs.YtojnickeblbgoaaGreatDoor
namespace Go.Lift
section
variable {H : Type} {enc : TypeId × Value -> H} {P : Program} {w : World}
theorem cells_get {base : Nat} {a : Addr} {n : Nat} {cs : List Value} (h : w.cells? base a n = some cs) : cs.length = n /\ ∀ j, j < n -> w.cell? (a.add j) = cs[j]?:=by
 unfold World.cells? at h
 split at h
 ·have hl:=mapM_some_length h
  refine ⟨by simpa using hl, λ j hj => mapM_some_get h j j (by simp [hj])⟩
 ·cases h
theorem cell_some {a : Addr} {v : Value} (h : w.cell? a = some v) : a.spot = none /\ ∃ l, bk w a.block = some l /\ l[a.off]? = some v:=by
 unfold World.cell? at h
 unfold bk
 cases hh : w.heap[a.block]? with
 | none => simp [hh] at h
 | some x =>
  cases x with
  | cells c t m =>
   simp only [hh] at h ⊢
   split at h
   ·cases h
   ·rename_i hs
    refine ⟨?_, c.toList, rfl, by simpa using h⟩
    cases hsp : a.spot with
    | none => rfl
    | some s => rw [hsp] at hs; simp at hs
  | _ => simp [hh] at h
theorem open_sl {t e : TypeId} {fuel k : Nat} {cs : List Value} {x : DataW H × List MemPlace} (ht : P.underlying t = some (.slice e)) (hk : P.cellsOf e = k) (hk0 : 0 < k)
  (h : DataW.trod enc P w 0 (λ _ => true) true fuel t cs = some x) :
  ∃ v els, cs = [v] /\ Sl k w v els /\ ((x.1 = .nil /\ els = []) ∨ ∃ Ds spare, x.1 = .slice Ds spare /\ Ds.length = els.length /\
   ∀ (i : Nat) (c : List Value) (d : DataW H), els[i]? = some c -> Ds[i]? = some d -> ∃ n ps, DataW.trod enc P w 0 (λ _ => true) true n e c = some (d, ps)):=by
 rcases DataW.trod_slice ht h with ⟨rfl, rfl⟩ | ⟨a, len, cap, elems, rest, n, _, rfl, rfl, hb, hl, hm, hlen, hel, hsp, hns⟩
 ·exact ⟨_, [], rfl, Sl.nil k w, .inl ⟨rfl, rfl⟩⟩
 obtain ⟨hrl, hrs⟩:=hsp rfl
 rw [hk] at hel hrs
 have hall : ∀ i, i < cap -> ∃ c' y, w.cells? 0 (a.add (i * k)) k = some c' /\ DataW.trod enc P w 0 (λ _ => true) true n e c' = some y /\ (i < len -> elems[i]? = some y):=by
  intro i hi
  by_cases hil : i < len
  ·have h1:=hel i hil
   rw [List.getElem?_eq_getElem (by omega)] at h1
   obtain ⟨c', h2, h3⟩:=Option.bind_eq_some_iff.1 h1
   exact ⟨c', _, h2, h3, λ _ => List.getElem?_eq_getElem (by omega)⟩
  ·have h1:=hrs (i - len) (by omega)
   rw [show len + (i - len) = i by omega, List.getElem?_eq_getElem (by omega)] at h1
   obtain ⟨c', h2, h3⟩:=Option.bind_eq_some_iff.1 h1
   exact ⟨c', _, h2, h3, λ h => absurd h hil⟩
 by_cases hc0 : cap = 0
 ·have hl0 : len = 0:=by omega
  subst hc0; subst hl0
  refine ⟨_, [], rfl, ⟨by simp, some a, 0, rfl, Nat.le_refl _, .inl rfl⟩, .inr ⟨_, _, rfl, by simp [hlen], λ i c d hi => by simp at hi⟩⟩
 obtain ⟨b, o, sp⟩:=a
 have h00 : w.cell? ⟨b, o, sp⟩ ≠ none:=by
  obtain ⟨c', y, h1, _⟩:=hall 0 (by omega)
  have h2:=(cells_get h1).2 0 hk0
  have h3:=(cells_get h1).1
  have e : ((⟨b, o, sp⟩ : Addr).add (0 * k)).add 0 = ⟨b, o, sp⟩:=by simp [Addr.add]
  rw [e, List.getElem?_eq_getElem (by omega)] at h2
  rw [h2]; simp
 obtain ⟨v0, hv0⟩:=Option.ne_none_iff_exists'.1 h00
 obtain ⟨hsp0, l, hbk, _⟩:=cell_some hv0
 simp only at hsp0 hbk
 subst hsp0
 have hread : ∀ i j, i < cap -> j < k -> ∃ c', w.cells? 0 ((⟨b, o, none⟩ : Addr).add (i * k)) k = some c' /\ l[o + i * k + j]? = c'[j]? /\ o + i * k + j < l.length:=by
  intro i j hi hj
  obtain ⟨c', y, h1, _⟩:=hall i hi
  have h2:=(cells_get h1).2 j hj
  have h3:=(cells_get h1).1
  rw [Addr.add_lit, Addr.add_lit, List.getElem?_eq_getElem (by omega)] at h2
  obtain ⟨_, l', hbk', hg⟩:=cell_some h2
  simp only at hbk' hg
  rw [hbk] at hbk'; cases hbk'
  refine ⟨c', h1, ?_, (List.getElem?_eq_some_iff.1 hg).1⟩
  rw [hg, List.getElem?_eq_getElem (by omega)]
 have hfit : o + cap * k <= l.length:=by
  obtain ⟨_, _, _, h1⟩:=hread (cap - 1) (k - 1) (by omega) (by omega)
  obtain ⟨q, hq⟩ : ∃ q, cap = q + 1:=⟨cap - 1, by omega⟩
  rw [hq, show q + 1 - 1 = q by omega] at h1
  rw [hq, Nat.add_mul]
  omega
 have hels : ∀ m, m <= cap -> ((List.range m).map λ i => (l.drop (o + i * k)).take k).flatten = (l.drop o).take (m * k):=by
  intro m
  induction m with
  | zero => intro _; simp
  | succ m ih =>
   intro hmc
   rw [List.range_succ, List.map_append, List.flatten_append, ih (by omega)]
   simp only [List.map_cons, List.map_nil, List.flatten_cons, List.flatten_nil, List.append_nil]
   rw [Nat.add_mul, Nat.one_mul, List.take_add, List.drop_drop]
 have hlk : len * k <= cap * k:=Nat.mul_le_mul_right _ hl
 refine ⟨_, (List.range len).map λ i => (l.drop (o + i * k)).take k, rfl, ⟨?_, some ⟨b, o, none⟩, cap, by simp, by simpa using hl, .inr ⟨b, o, l, rfl, hbk, hfit, ?_⟩⟩, .inr ⟨_, _, rfl, by simp [hlen], ?_⟩⟩
 ·intro c hc
  obtain ⟨i, hi, rfl⟩:=List.mem_map.1 hc
  have hi' : i < len:=List.mem_range.1 hi
  have : (i + 1) * k <= cap * k:=Nat.mul_le_mul_right _ (by omega)
  rw [Nat.add_mul] at this
  rw [List.length_take, List.length_drop]
  omega
 ·rw [hels len hl]; simp
 ·intro i c d hc hd
  have hil : i < len:=by
   have:=(List.getElem?_eq_some_iff.1 hc).1
   simpa using this
  simp [hil] at hc
  obtain ⟨c', y, h1, h2, h3⟩:=hall i (by omega)
  have he:=h3 hil
  rw [List.getElem?_map, he] at hd
  simp at hd
  subst hd
  refine ⟨n, y.2, ?_⟩
  have hcc : c = c':=by
   have hcl:=(cells_get h1).1
   have : (i + 1) * k <= cap * k:=Nat.mul_le_mul_right _ (by omega)
   rw [Nat.add_mul] at this
   apply List.ext_getElem?
   intro j
   by_cases hj : j < k
   ·obtain ⟨c2, h4, h5, h6⟩:=hread i j (by omega) hj
    rw [h1] at h4; cases h4
    rw [<- h5, <- hc, List.getElem?_take, if_pos hj, List.getElem?_drop]
   ·rw [List.getElem?_eq_none (by rw [<- hc, List.length_take]; omega), List.getElem?_eq_none (by omega)]
  rw [hcc]; exact h2
end
end Go.Lift
namespace Go.Proofs.YtojnickeblbgoaaGreatDoor
open Go.Lift
inductive Shs where
 | nil
 | int (k : IntKind) (r : Shs)
 | bool (r : Shs)
 | str (r : Shs)
 | slice (e r : Shs)
def Shs.len : Shs -> Nat
 | .nil => 0
 | .int _ r => r.len + 1
 | .bool r => r.len + 1
 | .str r => r.len + 1
 | .slice _ r => r.len + 1
def Shs.app : Shs -> Shs -> Shs
 | .nil, s => s
 | .int k r, s => .int k (r.app s)
 | .bool r, s => .bool (r.app s)
 | .str r, s => .str (r.app s)
 | .slice e r, s => .slice e (r.app s)
def shFields (sh : TypeId -> Option Shs) : List Field -> Nat -> Option Shs
 | [], _ => some .nil
 | f :: fs, off => if f.offset = off then match sh f.type with
   | some s => match shFields sh fs (off + s.len) with
    | some r => some (s.app r)
    | none => none
   | none => none
  else none
def shOf (P : Program) : Nat -> TypeId -> Option Shs
 | 0, _ => none
 | n + 1, t => match P.underlying t with
  | some (.int k) => some (.int k .nil)
  | some .bool => some (.bool .nil)
  | some .string => some (.str .nil)
  | some (.slice e) => match shOf P n e with
   | some s => if 0 < s.len /\ P.cellsOf e = s.len then some (.slice s .nil) else none
   | none => none
  | some (.struct fs) => match shFields (shOf P n) fs.toList 0 with
   | some s => if P.cellsOf t = s.len then some s else none
   | none => none
  | _ => none
def Shs.Rd (w : World) : Shs -> List Value -> Nat -> Prop
 | .nil, cs, _ => cs = []
 | .int k r, cs, n => ∃ (i : Int) (cs' : List Value) (m : Nat), cs = .int k i :: cs' /\ (Lit.int k i).wf = true /\ m + 1 <= n /\ r.Rd w cs' m
 | .bool r, cs, n => ∃ (b : Bool) (cs' : List Value) (m : Nat), cs = .bool b :: cs' /\ m + 1 <= n /\ r.Rd w cs' m
 | .str r, cs, n => ∃ (s : ByteArray) (cs' : List Value) (m : Nat), cs = .string s :: cs' /\ m + (s.size + 1) <= n /\ r.Rd w cs' m
 | .slice e r, cs, n => ∃ (v : Value) (els : List (List Value)) (cs' : List Value) (ns : List Nat) (m : Nat), cs = v :: cs' /\ Sl e.len w v els /\ ns.length = els.length /\
   (∀ (i : Nat) (c : List Value) (k : Nat), els[i]? = some c -> ns[i]? = some k -> 1 <= k /\ e.Rd w c k) /\ m + (ns.sum + 1) <= n /\ r.Rd w cs' m
theorem Shs.app_len : ∀ a b : Shs, (a.app b).len = a.len + b.len
 | .nil, b => by simp [Shs.app, Shs.len]
 | .int k r, b => by simp only [Shs.app, Shs.len, Shs.app_len r b]; omega
 | .bool r, b => by simp only [Shs.app, Shs.len, Shs.app_len r b]; omega
 | .str r, b => by simp only [Shs.app, Shs.len, Shs.app_len r b]; omega
 | .slice e r, b => by simp only [Shs.app, Shs.len, Shs.app_len r b]; omega
section
variable {w : World}
theorem Shs.Rd.len : ∀ {s : Shs} {cs : List Value} {n : Nat}, s.Rd w cs n -> cs.length = s.len
 | .nil, cs, n, h => by cases h; rfl
 | .int k r, cs, n, ⟨i, cs', m, h1, _, _, h3⟩ => by subst h1; simp [Shs.len, Shs.Rd.len h3]
 | .bool r, cs, n, ⟨i, cs', m, h1, _, h3⟩ => by subst h1; simp [Shs.len, Shs.Rd.len h3]
 | .str r, cs, n, ⟨i, cs', m, h1, _, h3⟩ => by subst h1; simp [Shs.len, Shs.Rd.len h3]
 | .slice e r, cs, n, ⟨v, els, cs', ns, m, h1, _, _, _, _, h3⟩ => by subst h1; simp [Shs.len, Shs.Rd.len h3]
theorem Shs.Rd.mono : ∀ {s : Shs} {cs : List Value} {n n' : Nat}, s.Rd w cs n -> n <= n' -> s.Rd w cs n'
 | .nil, cs, n, n', h, _ => h
 | .int k r, cs, n, n', ⟨i, cs', m, h1, h0, h2, h3⟩, h => ⟨i, cs', m, h1, h0, by omega, h3⟩
 | .bool r, cs, n, n', ⟨i, cs', m, h1, h2, h3⟩, h => ⟨i, cs', m, h1, by omega, h3⟩
 | .str r, cs, n, n', ⟨i, cs', m, h1, h2, h3⟩, h => ⟨i, cs', m, h1, by omega, h3⟩
 | .slice e r, cs, n, n', ⟨v, els, cs', ns, m, h1, h2, h3, h4, h5, h6⟩, h => ⟨v, els, cs', ns, m, h1, h2, h3, h4, by omega, h6⟩
theorem Shs.Rd.app : ∀ {a b : Shs} {cs ds : List Value} {n k : Nat}, a.Rd w cs n -> b.Rd w ds k -> (a.app b).Rd w (cs ++ ds) (n + k)
 | .nil, b, cs, ds, n, k, h, h' => by cases h; exact h'.mono (by omega)
 | .int _ r, b, cs, ds, n, k, ⟨i, cs', m, h1, h0, h2, h3⟩, h' => ⟨i, cs' ++ ds, m + k, by rw [h1]; rfl, h0, by omega, h3.app h'⟩
 | .bool r, b, cs, ds, n, k, ⟨i, cs', m, h1, h2, h3⟩, h' => ⟨i, cs' ++ ds, m + k, by rw [h1]; rfl, by omega, h3.app h'⟩
 | .str r, b, cs, ds, n, k, ⟨i, cs', m, h1, h2, h3⟩, h' => ⟨i, cs' ++ ds, m + k, by rw [h1]; rfl, by omega, h3.app h'⟩
 | .slice e r, b, cs, ds, n, k, ⟨v, els, cs', ns, m, h1, h2, h3, h4, h5, h6⟩, h' => ⟨v, els, cs' ++ ds, ns, m + k, by rw [h1]; rfl, h2, h3, h4, by omega, h6.app h'⟩
end
theorem bulkT_one {H : Type} (d : DataW H) : 1 <= Rows.uptoBulk d:=by
 cases d with
 | lit l => cases l <;> simp [Rows.uptoBulk]
 | nil => simp [Rows.uptoBulk]
 | ptr d => simp [Rows.uptoBulk]
 | slice elems spare => simp [Rows.uptoBulk]
 | agg parts => simp [Rows.uptoBulk]
 | iface t d => simp [Rows.uptoBulk]
 | map entries => simp [Rows.uptoBulk]
 | held h => simp [Rows.uptoBulk]
theorem bulkT_sum {H : Type} : ∀ l : List (DataW H), (l.map Rows.uptoBulk).sum = Rows.uptoBulkAll l
 | [] => by simp [Rows.uptoBulkAll]
 | x :: r => by simp [Rows.uptoBulkAll, bulkT_sum r]
theorem take_of_len {l : List Value} {c k : Nat} (h : (l.take c).length = k) : l.take c = l.take k:=by
 rw [List.length_take] at h
 have : l.take k = (l.take c).take k:=by
  rw [List.take_take]
  by_cases hc : k <= c
  ·rw [Nat.min_eq_left hc]
  ·omega
 exact (this.trans (List.take_of_length_le (by rw [List.length_take]; omega))).symm
section
variable {H : Type} {enc : TypeId × Value -> H} {P : Program} {w : World}
theorem rd_fields {sh : TypeId -> Option Shs} {n : Nat} (ih : ∀ t s cs x, sh t = some s -> DataW.trod enc P w 0 (λ _ => true) true n t cs = some x -> s.Rd w cs (Rows.uptoBulk x.1)) (cs : List Value) :
  ∀ (fs : List Field) (off : Nat) (s : Shs) (xs : List (DataW H × List MemPlace)), shFields sh fs off = some s -> xs.length = fs.length ->
   (∀ (i : Nat) (f : Field), fs[i]? = some f -> DataW.trod enc P w 0 (λ _ => true) true n f.type ((cs.drop f.offset).take (P.cellsOf f.type)) = xs[i]?) ->
   s.Rd w ((cs.drop off).take s.len) (Rows.uptoBulkAll (xs.map (·.1)))
 | [], off, s, xs, h, _, _ => by
  cases h
  simp [Shs.len, Shs.Rd]
 | f :: fs, off, s, xs, h, hl, hf => by
  cases xs with
  | nil => simp at hl
  | cons x xs =>
   unfold shFields at h
   split at h
   ·rename_i hoff
    cases h1 : sh f.type with
    | none => simp [h1] at h
    | some a =>
     simp only [h1] at h
     cases h2 : shFields sh fs (off + a.len) with
     | none => simp [h2] at h
     | some r =>
      simp only [h2, Option.some.injEq] at h
      subst h
      have e0:=hf 0 f rfl
      rw [List.getElem?_cons_zero] at e0
      have r0:=ih _ _ _ _ h1 e0
      have hlen:=r0.len
      rw [take_of_len hlen, hoff] at r0
      have r1:=rd_fields ih cs fs (off + a.len) r xs h2 (by simpa using hl) λ i g hg => by
       have:=hf (i + 1) g (by simpa using hg)
       simpa using this
      have:=r0.app r1
      rw [Shs.app_len, List.take_add, List.drop_drop]
      simp only [List.map_cons, Rows.uptoBulkAll]
      exact this
   ·cases h
theorem rd_of_trod : ∀ (n : Nat) (t : TypeId) (s : Shs) (fuel : Nat) (cs : List Value) (x : DataW H × List MemPlace), shOf P n t = some s -> DataW.trod enc P w 0 (λ _ => true) true fuel t cs = some x -> s.Rd w cs (Rows.uptoBulk x.1)
 | 0, t, s, fuel, cs, x, h, _ => by cases h
 | n + 1, t, s, fuel, cs, x, h, hx => by
  unfold shOf at h
  split at h
  ·rename_i k hu
   cases h
   obtain ⟨i, rfl, rfl, hr⟩:=DataW.trod_int hu hx
   exact ⟨i, [], 0, rfl, hr, bulkT_one _, rfl⟩
  ·rename_i hu
   cases h
   obtain ⟨i, rfl, rfl⟩:=DataW.trod_bool hu hx
   exact ⟨i, [], 0, rfl, bulkT_one _, rfl⟩
  ·rename_i hu
   cases h
   obtain ⟨i, rfl, rfl, _⟩:=DataW.trod_string hu hx
   refine ⟨i, [], 0, rfl, ?_, rfl⟩
   simp only [Rows.uptoBulk, Array.length_toList, Nat.zero_add]
   exact Nat.le_refl _
  ·rename_i e hu
   cases h1 : shOf P n e with
   | none => simp [h1] at h
   | some a =>
    simp only [h1] at h
    split at h
    ·rename_i hc
     cases h
     obtain ⟨v, els, rfl, hs, hcase⟩:=open_sl hu hc.2 hc.1 hx
     rcases hcase with ⟨hn, rfl⟩ | ⟨Ds, spare, hd, hl, hel⟩
     ·refine ⟨v, [], [], [], 0, rfl, hs, rfl, λ i c k hi => by simp at hi, ?_, rfl⟩
      rw [hn]; simp [Rows.uptoBulk]
     ·refine ⟨v, els, [], Ds.map Rows.uptoBulk, 0, rfl, hs, by simpa using hl, λ i c k hi hk => ?_, ?_, rfl⟩
      ·rw [List.getElem?_map] at hk
       cases hd' : Ds[i]? with
       | none => simp [hd'] at hk
       | some d =>
        simp only [hd', Option.map_some, Option.some.injEq] at hk
        subst hk
        obtain ⟨m, ps, hm⟩:=hel i c d hi hd'
        exact ⟨bulkT_one d, rd_of_trod n e a m c (d, ps) h1 hm⟩
      ·rw [hd, bulkT_sum]; simp only [Rows.uptoBulk]; omega
    ·cases h
  ·rename_i fs hu
   cases h1 : shFields (shOf P n) fs.toList 0 with
   | none => simp [h1] at h
   | some a =>
    simp only [h1] at h
    split at h
    ·rename_i hc
     cases h
     obtain ⟨xs, m, _, rfl, hl, hxl, hf⟩:=DataW.trod_struct hu hx
     have:=rd_fields (sh:=shOf P n) (n:=m) (λ t s cs x h h' => rd_of_trod n t s m cs x h h') cs fs.toList 0 s xs h1 (by simpa using hxl) λ i f hi => hf i f (by simpa using hi)
     rw [List.drop_zero, List.take_of_length_le (by omega)] at this
     refine this.mono ?_
     simp only [Rows.uptoBulk]; omega
    ·cases h
  ·cases h
end
theorem le_sum_of_mem : ∀ {l : List Nat} {k : Nat}, k ∈ l -> k <= l.sum
 | x :: l, k, h => by
  rcases List.mem_cons.1 h with rfl | h
  ·simp
  ·have:=le_sum_of_mem h; simp; omega
end Go.Proofs.YtojnickeblbgoaaGreatDoor
namespace Go.Proofs.YtojnickeblbgoaaGreatDoor
open Go.Lift
set_option linter.unusedSimpArgs false
set_option linter.unusedVariables false
set_option maxHeartbeats 4000000
theorem Shs.Rd.slice2 {T : Type} {f : T -> List Value} {g : T -> Nat} {w : World} {e : Shs} {v : Value} {n : Nat} (h : (Shs.slice e .nil).Rd w [v] n) (hf : ∀ c k, k <= n -> e.Rd w c k -> ∃ a : T, c = f a /\ g a <= k) :
  ∃ l : List T, Sl e.len w v (l.map f) /\ (l.map g).sum <= n:=by
 obtain ⟨v', els, cs', ns, m, h1, h2, h3, h4, h5, h6⟩:=h
 cases h1
 have key : ∀ (els : List (List Value)) (ns : List Nat), ns.length = els.length -> (∀ (i : Nat) (c : List Value) (k : Nat), els[i]? = some c -> ns[i]? = some k -> ∃ a : T, c = f a /\ g a <= k) -> ∃ l : List T, els = l.map f /\ (l.map g).sum <= ns.sum:=by
  intro els
  induction els with
  | nil => intro ns _ _; exact ⟨[], rfl, by simp⟩
  | cons c els ih =>
   intro ns hl hn
   cases ns with
   | nil => simp at hl
   | cons k ns =>
    obtain ⟨a, ha, hk⟩:=hn 0 c k rfl rfl
    obtain ⟨l, h1, h2⟩:=ih ns (by simpa using hl) λ i c k hc hk => hn (i + 1) c k (by simpa using hc) (by simpa using hk)
    exact ⟨a :: l, by rw [ha, h1]; rfl, by simp only [List.map_cons, List.sum_cons]; omega⟩
 obtain ⟨l, rfl, hl⟩:=key els ns h3 λ i c k hc hk => by
  have:=le_sum_of_mem (List.mem_of_getElem? hk)
  exact hf c k (by omega) (h4 i c k hc hk).2
 exact ⟨l, h2, by omega⟩
structure Dop where
 kind : Int
 pos : Int
 n : Int
 m : Int
 p : ByteArray
 q : ByteArray
def Dop.cells (o : Dop) : List Value:=[.int .i64 o.kind, .int .i64 o.pos, .int .i64 o.n, .int .i64 o.m, .string o.p, .string o.q]
def Dop.val (o : Dop) : Value:=.agg o.cells.toArray
theorem Dop.all (o : Dop) : o.cells.all isCell = true:=by simp [Dop.cells]
def AtW (w : World) (b : Nat) (w' : World) (d : Dk) : Prop:=Fr (λ _ => False) w w' /\ ∃ v tag, DA w' b d v tag /\ ∀ c, tag c ≠ 0 -> w.heap.size <= c
theorem AtW.go {w w1 w2 : World} {b : Nat} {d : Dk} {tag : Nat -> Nat} (f : Fr (λ _ => False) w w1) (ht : ∀ c, tag c ≠ 0 -> w.heap.size <= c) (h : DDid w1 w2 b tag d) : AtW w b w2 d:=by
 obtain ⟨f2, v2, tag2, h2, t2⟩:=h
 have s:=f.size
 exact ⟨f.new f2 λ c hc => ht c hc, v2, tag2, h2, λ c hc => (t2 c hc).elim (ht c) λ h => by omega⟩
theorem AtW.fr0 {w w1 w2 : World} {b : Nat} {d : Dk} (h : AtW w b w1 d) (f : Fr (λ _ => False) w1 w2) : AtW w b w2 d:=by
 obtain ⟨f1, v, tag, h1, t1⟩:=h
 exact ⟨f1.trans f λ _ _ => id, v, tag, h1.fr0 f, t1⟩
def Dop.bulk (o : Dop) : Nat:=o.p.size + o.q.size + 6
def qsum (l : List Dop) : Nat:=(l.map λ o => o.q.size).sum
theorem qsum_le (l : List Dop) : qsum l + 6 * l.length <= (l.map Dop.bulk).sum:=by
 induction l with
 | nil => simp [qsum]
 | cons o l ih =>
  simp only [qsum, Dop.bulk, List.map_cons, List.sum_cons, List.length_cons] at ih ⊢
  omega
theorem qsum_take (l : List Dop) (i : Nat) {o : Dop} (h : l[i]? = some o) : qsum (l.take (i + 1)) = qsum (l.take i) + o.q.size:=by
 rw [List.take_add_one, h]
 simp [qsum]
theorem qsum_take_le (l : List Dop) (i : Nat) : qsum (l.take i) <= qsum l:=by
 have : qsum l = qsum (l.take i) + qsum (l.drop i):=by
  unfold qsum
  rw [<- List.sum_append, <- List.map_append, List.take_append_drop]
 omega
theorem bulk_mem {l : List Dop} {o : Dop} (h : o ∈ l) : o.bulk <= (l.map Dop.bulk).sum:=le_sum_of_mem (List.mem_map_of_mem h)
theorem ml_of {W : World} (h : W.ShapedOpen Tryz.prog) : ∃ m : Int, bk W 0 = some [.int .i64 m]:=by
 obtain ⟨cs, hh, hs, _⟩:=h.1 0 #[.int .i64 0] 3 (of_decide_eq_true (by kernel_rfl)) (by kernel_rfl)
 obtain ⟨m, hm⟩:=cell_of_shapedOpen_int (P:=Tryz.prog) (g:=0) (t:=3) (zero:=#[.int .i64 0]) h (of_decide_eq_true (by kernel_rfl)) (by kernel_rfl) rfl (by kernel_rfl) (by kernel_rfl) (show Tryz.prog.underlying 3 = some (.int .i64) by kernel_rfl)
 refine ⟨m, ?_⟩
 unfold World.cell? at hm
 rw [hh] at hm
 simp at hm
 unfold bk
 rw [hh]
 have h1 : cs.size = 1:=hs
 obtain ⟨x, rfl⟩ : ∃ x, cs = #[x]:=by
  obtain ⟨l⟩:=cs
  match l, h1 with
  | [x], _ => exact ⟨x, rfl⟩
 simp at hm
 rw [hm]
abbrev dopSh : Shs:=.slice (.int .i64 (.int .i64 (.int .i64 (.int .i64 (.str (.str .nil)))))) .nil
abbrev RSl:=List (ByteArray × Int)
def slC (e : ByteArray × Int) : List Value:=[.string e.1, .int .i64 e.2]
def findL : RSl -> ByteArray -> Int
 | [], _ => -1
 | e :: l, x => if e.1 = x then e.2 else findL l x
theorem findL_drop (l : RSl) (x : ByteArray) {i : Nat} {e : ByteArray × Int} (he : l[i]? = some e) : findL (l.drop i) x = if e.1 = x then e.2 else findL (l.drop (i + 1)) x:=by
 have : l.drop i = e :: l.drop (i + 1):=by
  obtain ⟨h, rfl⟩:=List.getElem?_eq_some_iff.1 he
  exact List.drop_eq_getElem_cons h
 rw [this]; rfl
theorem rfind_run {w : World} {sv : Value} {l : RSl} (hs : Sl 2 w sv (l.map slC)) (x : ByteArray) (hl : l.length <= 4611686018427387904) :
  Run (F.rr_find sv (.string x)) w λ r w' => r = .int .i64 (findL l x) /\ w' = w:=by
 unfold F.rr_find
 have hlen:=hs.lenL
 rw [List.length_map] at hlen
 simp only [Run_bind]
 refine Run_for l.length (λ i L w' => L = [.int .i64 i] /\ w' = w /\ findL l x = findL (l.drop i) x) ⟨rfl, rfl, rfl⟩ ?_ ?_
 ·rintro i L w1 hi ⟨rfl, hw, hI⟩
  rw [hw]
  have hi' : (i : Int) < l.length:=by omega
  have ei : l[i]? = some l[i]:=List.getElem?_eq_getElem hi
  generalize l[i] = e at ei
  rw [findL_drop l x ei] at hI
  obtain ⟨p, q1, q2⟩:=hs.rdF (i:=i) (e:=slC e) (by simp [ei]) .i64
  obtain ⟨f0, g0, g1⟩:=q2 0 (by decide)
  obtain ⟨f1, g2, g3⟩:=q2 1 (by decide)
  have g1 : ld1 f0 w = some (.string e.1):=g1
  have g3 : ld1 f1 w = some (.int .i64 e.2):=g3
  have wi:=wrap_succ (n:=i) (by omega)
  by_cases he : e.1 = x
  ·simp [hlen, hi', q1, g0, g1, g2, g3, ba_eq, he]
   rw [hI, if_pos he]
  ·simp [hlen, hi', q1, g0, g1, ba_eq, he, wi]
   rw [hI, if_neg he]
 ·rintro L w1 ⟨rfl, hw, hI⟩
  rw [hw]
  simp [hlen]
  rw [hI, List.drop_length]; rfl
def ltB (a b : ByteArray) : Bool:=Op.bytesLess a.toList b.toList
@[simp] theorem strBin_geq {a b : ByteArray} : strBin .geq a b = some (.bool !(ltB a b)):=rfl
structure Own (w w' : World) (v : Value) (l : RSl) : Prop where
 sl : SlW 2 w' v (l.map slC)
 fresh : ∀ c, inB v c -> w.heap.size <= c /\ c < w'.heap.size
 fr : Fr (λ _ => False) w w'
theorem Own.nil (w : World) : Own w w (.slice none 0 0) []:=⟨SlW.nil _ _, λ _ h => h.elim, Fr.refl _ _⟩
theorem Own.fr0 {w w1 w2 : World} {v : Value} {l : RSl} (h : Own w w1 v l) (f : Fr (λ _ => False) w1 w2) : Own w w2 v l :=
 ⟨h.sl.fr f λ _ _ => id, λ c hc => by have:=h.fresh c hc; have:=f.size; omega, h.fr.trans f λ _ _ => id⟩
def slV (e : ByteArray × Int) : Value:=.agg (slC e).toArray
theorem own_app {w w1 : World} {v : Value} {l : RSl} (h : Own w w1 v l) (e : ByteArray × Int) {a1 a2 : Nat} (hl : l.length <= 33554432) {K : Value -> World -> Prop} (q : ∀ r w2, Own w w2 r (l ++ [e]) -> K r w2) :
  Run (bslM a1 1 (Builtin.zeroCells #[(Value.string ByteArray.empty), (Value.int IntKind.i64 0)] 1) [(0, 2, slV e)]) w1 λ a w2 => Run (appM a2 2 24 #[(Value.string ByteArray.empty), (Value.int IntKind.i64 0)] v a) w2 λ r w' => K r w':=by
 refine Run_app1 (K:=λ _ r w' => K r w') (k:=2) (y:=slV e) (by simp [slV, slC]) h.sl (by decide) rfl (by decide) (by simp [slV, slC]) (by simp only [List.length_map]; omega) λ r w2 hr f2 hin w3 f3 => q r w2 ?_
 have s:=f2.size
 refine ⟨by simpa [slV] using hr, λ c hc => ?_, h.fr.new f2 λ c hc => (h.fresh c hc).1⟩
 have s0:=h.fr.size
 rcases hin c hc with hc | hc
 ·have:=h.fresh c hc; omega
 ·omega
theorem build_sl (x : ByteArray) (k : Int) : buildV #[.string ByteArray.empty, .int .i64 0] [(0, 1, .string x), (1, 1, .int .i64 k)] = some (slV (x, k)):=by simp [buildV, fillV, slV, slC]
theorem take_snoc {α : Type} {l : List α} {i : Nat} {e : α} (he : l[i]? = some e) : l.take (i + 1) = l.take i ++ [e]:=by rw [List.take_add_one, he]; rfl
def withoutL (l : RSl) (x : ByteArray) : RSl:=l.filter λ e => !decide (e.1 = x)
theorem rwithout_run {w : World} {sv : Value} {l : RSl} (hs : Sl 2 w sv (l.map slC)) (x : ByteArray) (hl : l.length <= 16777216) :
  Run (F.rr_without sv (.string x)) w λ r w' => Own w w' r (withoutL l x):=by
 unfold F.rr_without
 have hlen:=hs.lenL
 rw [List.length_map] at hlen
 simp only [Run_bind]
 refine Run_for l.length (λ i L w' => ∃ m, L = [m, .int .i64 i] /\ Own w w' m (withoutL (l.take i) x)) ⟨_, rfl, Own.nil w⟩ ?_ ?_
 ·rintro i L w1 hi ⟨m, rfl, hI⟩
  have hi' : (i : Int) < l.length:=by omega
  have ei : l[i]? = some l[i]:=List.getElem?_eq_getElem hi
  generalize l[i] = e at ei
  have et : withoutL (l.take (i + 1)) x = withoutL (l.take i) x ++ (if e.1 = x then [] else [e]):=by
   unfold withoutL
   rw [take_snoc ei, List.filter_append]
   by_cases h : e.1 = x <;> simp [h]
  rw [et]
  obtain ⟨p, q1, q2⟩:=(hs.fr0 hI.fr).rdF (i:=i) (e:=slC e) (by simp [ei]) .i64
  obtain ⟨f0, g0, g1⟩:=q2 0 (by decide)
  have g1 : ld1 f0 w1 = some (.string e.1):=g1
  obtain ⟨p', q3, q4⟩:=(hs.fr0 hI.fr).rdA (i:=i) (e:=slC e) (by decide) (by simp [ei]) .i64
  rw [q1] at q3; cases q3
  have q4 : ldA 2 p w1 = some (slV e):=q4
  have wi:=wrap_succ (n:=i) (by omega)
  have hle : (withoutL (l.take i) x).length <= 33554432:=by
   have:=List.length_filter_le (λ e : ByteArray × Int => !decide (e.1 = x)) (l.take i)
   have h2:=List.length_take_le i l
   unfold withoutL; omega
  by_cases he : e.1 = x
  ·simp [-ldA_ptr, hlen, hi', q1, g0, g1, ba_eq, he, wi]
   exact hI
  ·simp [-ldA_ptr, hlen, hi', q1, g0, g1, ba_eq, he, q4]
   refine own_app hI e hle λ r w2 h2 => ?_
   simp [wi]
   exact h2
 ·rintro L w1 ⟨m, rfl, hI⟩
  rw [List.take_length] at hI
  simp [hlen]
  exact hI
def hvStep (x : ByteArray) (k : Int) (st : RSl × Bool) (e : ByteArray × Int) : RSl × Bool :=
 let s1:=if st.2 = false /\ ltB e.1 x = false then (st.1 ++ [(x, k)], true) else st
 if e.1 = x then s1 else (s1.1 ++ [e], s1.2)
def havingL (l : RSl) (x : ByteArray) (k : Int) : RSl:=let st:=l.foldl (hvStep x k) ([], false); if st.2 then st.1 else st.1 ++ [(x, k)]
theorem hv_len (x : ByteArray) (k : Int) : ∀ (l : RSl) (st : RSl × Bool), (l.foldl (hvStep x k) st).1.length <= st.1.length + 2 * l.length
 | [], st => by simp
 | e :: l, st => by
  have:=hv_len x k l (hvStep x k st e)
  have h2 : (hvStep x k st e).1.length <= st.1.length + 2:=by
   unfold hvStep
   simp only
   split <;> split <;> simp
  simp only [List.foldl_cons, List.length_cons]; omega
theorem rhaving_run {w : World} {sv : Value} {l : RSl} (hs : Sl 2 w sv (l.map slC)) (x : ByteArray) (k : Int) (hl : l.length <= 8388608) :
  Run (F.rr_having sv (.string x) (.int .i64 k)) w λ r w' => Own w w' r (havingL l x k):=by
 unfold F.rr_having
 have hlen:=hs.lenL
 rw [List.length_map] at hlen
 simp only [Run_bind]
 refine Run_for l.length (λ i L w' => ∃ m, L = [m, .bool ((l.take i).foldl (hvStep x k) ([], false)).2, .int .i64 i] /\ Own w w' m ((l.take i).foldl (hvStep x k) ([], false)).1) ⟨_, rfl, Own.nil w⟩ ?_ ?_
 ·rintro i L w1 hi ⟨m, rfl, hI⟩
  have hi' : (i : Int) < l.length:=by omega
  have ei : l[i]? = some l[i]:=List.getElem?_eq_getElem hi
  generalize l[i] = e at ei
  rw [take_snoc ei, List.foldl_append, List.foldl_cons, List.foldl_nil]
  have hle:=hv_len x k (l.take i) ([], false)
  have h2:=List.length_take_le i l
  simp only [List.length_nil] at hle
  generalize (l.take i).foldl (hvStep x k) ([], false) = st at hI hle
  obtain ⟨p, q1, q2⟩:=(hs.fr0 hI.fr).rdF (i:=i) (e:=slC e) (by simp [ei]) .i64
  obtain ⟨f0, g0, g1⟩:=q2 0 (by decide)
  have g1 : ld1 f0 w1 = some (.string e.1):=g1
  have wi:=wrap_succ (n:=i) (by omega)
  have second : ∀ {m' : Value} {w2 : World} {s1 : RSl × Bool}, Own w w2 m' s1.1 -> s1.1.length <= 33554432 -> ∃ p', idxA 2 sv (.int .i64 i) = some p' /\ p' = p /\ ld1 f0 w2 = some (.string e.1) /\ ldA 2 p w2 = some (slV e):=λ h2 _ => by
   obtain ⟨p2, a1, a2⟩:=(hs.fr0 h2.fr).rdF (i:=i) (e:=slC e) (by simp [ei]) .i64
   rw [q1] at a1; cases a1
   obtain ⟨f1, b0, b1⟩:=a2 0 (by decide)
   rw [g0] at b0; cases b0
   obtain ⟨p', q3, q4⟩:=(hs.fr0 h2.fr).rdA (i:=i) (e:=slC e) (by decide) (by simp [ei]) .i64
   rw [q1] at q3; cases q3
   exact ⟨p, q1, rfl, b1, q4⟩
  unfold hvStep
  simp only
  by_cases c1 : st.2 = false /\ ltB e.1 x = false
  ·rw [if_pos c1]
   simp [-ldA_ptr, hlen, hi', q1, g0, g1, c1.1, c1.2, build_sl]
   refine own_app hI (x, k) (by omega) λ r w2 h2 => ?_
   obtain ⟨_, _, _, g1', q4⟩:=second (s1:=(st.1 ++ [(x, k)], true)) h2 (by simp; omega)
   by_cases he : e.1 = x
   ·simp [-ldA_ptr, q1, g0, g1', ba_eq, he, wi]
    exact h2
   ·simp [-ldA_ptr, q1, g0, g1', ba_eq, he, q4]
    refine own_app h2 e (by simp; omega) λ r w3 h3 => ?_
    simp [wi]
    simpa using h3
  ·rw [if_neg c1]
   have hcond : (st.2 = true) ∨ (st.2 = false /\ ltB e.1 x = true):=by
    cases h : st.2 <;> cases h' : ltB e.1 x <;> simp_all
   obtain ⟨_, _, _, g1', q4⟩:=second (s1:=st) hI (by omega)
   rcases hcond with hc | ⟨hc, hc'⟩
   ·by_cases he : e.1 = x
    ·simp [-ldA_ptr, hlen, hi', q1, g0, g1', hc, ba_eq, he, wi]
     exact hI
    ·simp [-ldA_ptr, hlen, hi', q1, g0, g1', hc, ba_eq, he, q4]
     refine own_app hI e (by omega) λ r w3 h3 => ?_
     simp [wi]
     exact h3
   ·by_cases he : e.1 = x
    ·rw [he] at hc'
     simp [-ldA_ptr, hlen, hi', q1, g0, g1', hc, hc', ba_eq, he, wi]
     exact hI
    ·simp [-ldA_ptr, hlen, hi', q1, g0, g1', hc, hc', ba_eq, he, q4]
     refine own_app hI e (by omega) λ r w3 h3 => ?_
     simp [wi]
     exact h3
 ·rintro L w1 ⟨m, rfl, hI⟩
  have hle:=hv_len x k l ([], false)
  simp only [List.length_nil] at hle
  rw [List.take_length] at hI ⊢
  unfold havingL
  simp only
  generalize l.foldl (hvStep x k) ([], false) = st at hI hle
  cases hst : st.2
  ·simp [hlen, hst, build_sl]
   refine own_app hI (x, k) (by omega) λ r w2 h2 => ?_
   exact h2
  ·simp [hlen, hst]
   exact hI
structure Sd where
 data : ByteArray
 slots : RSl
structure Th where
 kind : Int
 seen : Sd
 kept : Sd
structure Rc where
 thing : Int
 what : Int
 n : Int
 a : ByteArray
 b : ByteArray
 data : ByteArray
def Rc.cells (c : Rc) : List Value:=[.int .i64 c.thing, .int .i64 c.what, .int .i64 c.n, .string c.a, .string c.b, .string c.data]
def Rc.val (c : Rc) : Value:=.agg c.cells.toArray
theorem Rc.all (c : Rc) : c.cells.all isCell = true:=by simp [Rc.cells]
structure Rk where
 cap : Int
 acts : Int
 reads : Int
 left : Int
 down : Bool
 things : List Th
 line : List Rc
abbrev TV:=Th × Value × Value
def thC (t : TV) : List Value:=[.int .i64 t.1.kind, .string t.1.seen.data, t.2.1, .string t.1.kept.data, t.2.2]
structure RV where
 tv : Value
 lv : Value
 ts : List TV
def Rk.cells (r : Rk) (v : RV) : List Value:=[.int .i64 r.cap, .int .i64 r.acts, .int .i64 r.reads, .int .i64 r.left, .bool r.down, v.tv, v.lv]
def SlA (w : World) (tag : Nat -> Nat) (l : RSl) (sv : Value) : Prop:=Sl 2 w sv (l.map slC) /\ ∀ c, inB sv c -> tag c = 4
structure RA (w : World) (b : Nat) (r : Rk) (v : RV) (tag : Nat -> Nat) : Prop where
 blk : Go.Lift.bk w b = some (r.cells v)
 wr : Go.Lift.wr w b = true
 tE : v.ts.map (·.1) = r.things
 things : SlW 5 w v.tv (v.ts.map thC)
 slots : ∀ t ∈ v.ts, SlA w tag t.1.seen.slots t.2.1 /\ SlA w tag t.1.kept.slots t.2.2
 line : SlW 6 w v.lv (r.line.map Rc.cells)
 tb : tag b = 1
 tt : ∀ c, inB v.tv c -> tag c = 2
 tl : ∀ c, inB v.lv c -> tag c = 3
 t0 : tag 0 = 0
 bound : ∀ c, tag c ≠ 0 -> c < w.heap.size
section
variable {w w' w'' : World} {b : Nat} {r r' : Rk} {v : RV} {tag tag' : Nat -> Nat}
theorem SlA.fr {F : Nat -> Prop} {l : RSl} {sv : Value} (h : SlA w tag l sv) (f : Fr F w w') (hF : ∀ c, F c -> tag c ≠ 4) : SlA w' tag l sv:=⟨h.1.fr f λ c hc hf => hF c hf (h.2 c hc), h.2⟩
theorem RA.fr {F : Nat -> Prop} (h : RA w b r v tag) (f : Fr F w w') (hF : ∀ c, F c -> tag c = 0) : RA w' b r v tag:=by
 have s:=f.size
 have nb : ∀ c, tag c ≠ 0 -> ¬ F c:=λ c hc hf => hc (hF c hf)
 have b1 : ¬ F b:=nb b (by rw [h.tb]; decide)
 exact ⟨f.bk_some h.blk b1, by rw [f.wr (bk_lt h.blk) b1]; exact h.wr, h.tE, h.things.fr f λ c hc => nb c (by rw [h.tt c hc]; decide),
  λ t ht => ⟨(h.slots t ht).1.fr f λ c hc => by rw [hF c hc]; decide, (h.slots t ht).2.fr f λ c hc => by rw [hF c hc]; decide⟩,
  h.line.fr f λ c hc => nb c (by rw [h.tl c hc]; decide), h.tb, h.tt, h.tl, h.t0, λ c hc => Nat.lt_of_lt_of_le (h.bound c hc) s⟩
theorem RA.fr0 (h : RA w b r v tag) (f : Fr (λ _ => False) w w') : RA w' b r v tag:=h.fr f λ _ h => h.elim
theorem RA.put (h : RA w b r v tag) {i : Nat} {x : Value} (hc : (r.cells v).set i x = r'.cells v) (h1 : r'.things = r.things) (h2 : r'.line = r.line) : RA (sto w b i [x]) b r' v tag:=by
 have f : Fr (λ c => c = b) w (sto w b i [x]):=(Fr.refl (λ c => c = b) w).sto (.inl rfl) _ _
 have nb : ∀ c, tag c ≠ 1 -> ¬ c = b:=λ c hc he => hc (by rw [he]; exact h.tb)
 refine ⟨?_, by rw [wr_sto]; exact h.wr, by rw [h1]; exact h.tE, h.things.fr f λ c hc => nb c (by rw [h.tt c hc]; decide),
  λ t ht => ⟨(h.slots t ht).1.fr f λ c hc => by rw [hc, h.tb]; decide, (h.slots t ht).2.fr f λ c hc => by rw [hc, h.tb]; decide⟩, ?_, h.tb, h.tt, h.tl, h.t0, λ c hc => by rw [size_sto]; exact h.bound c hc⟩
 ·rw [bk_sto_eq, h.blk]
  simp [hc]
 ·rw [h2]; exact h.line.fr f λ c hc => nb c (by rw [h.tl c hc]; decide)
def Rk.actF (r : Rk) : Int × Rk:=if r.left = 0 then (10, { r with down:=true }) else (0, { r with left:=if 0 < r.left then IntKind.i64.wrap (r.left - 1) else r.left, acts:=IntKind.i64.wrap (r.acts + 1) })
theorem ract_run (h : RA w b r v tag) : Run (F.r_act (Ptr b)) w λ x w' => x = .int .i64 r.actF.1 /\ RA w' b r.actF.2 v tag /\ Fr (λ c => c = b) w w':=by
 unfold F.r_act
 have hb:=h.blk
 have hw:=h.wr
 unfold Rk.actF
 by_cases h0 : r.left = 0
 ·simp [hb, hw, Rk.cells, h0]
  exact ⟨h.put (by simp [Rk.cells, h0]) rfl rfl, (Fr.refl (λ c => c = b) w).sto (.inl rfl) _ _⟩
 ·by_cases h1 : 0 < r.left
  ·have t1 : RA (sto w b 3 [.int .i64 (IntKind.i64.wrap (r.left - 1))]) b { r with left:=IntKind.i64.wrap (r.left - 1) } v tag:=h.put rfl rfl rfl
   simp [hb, hw, Rk.cells, h0, h1]
   exact ⟨t1.put (by simp [Rk.cells]) rfl rfl, ((Fr.refl (λ c => c = b) w).sto (.inl rfl) _ _).sto (.inl rfl) _ _⟩
  ·simp [hb, hw, Rk.cells, h0, h1]
   exact ⟨h.put (by simp [Rk.cells]) rfl rfl, (Fr.refl (λ c => c = b) w).sto (.inl rfl) _ _⟩
def RDid (w w' : World) (b : Nat) (tag : Nat -> Nat) (r' : Rk) : Prop:=Fr (λ c => tag c ≠ 0) w w' /\ ∃ v' tag', RA w' b r' v' tag' /\ ∀ c, tag' c ≠ 0 -> tag c ≠ 0 ∨ w.heap.size <= c
theorem RA.did (h : RA w' b r' v tag) (f : Fr (λ c => tag c ≠ 0) w w') : RDid w w' b tag r':=⟨f, v, tag, h, λ _ h => .inl h⟩
theorem RDid.pre (f : Fr (λ _ => False) w w') (h : RDid w' w'' b tag r') : RDid w w'' b tag r':=by
 obtain ⟨f', v', tag', h1, h2⟩:=h
 have s:=f.size
 exact ⟨(f.mono λ _ h => h.elim).trans f' λ _ _ h => h, v', tag', h1, λ c hc => (h2 c hc).imp id λ h => by omega⟩
theorem RDid.post (h : RDid w w' b tag r') (f : Fr (λ _ => False) w' w'') : RDid w w'' b tag r':=by
 obtain ⟨f', v', tag', h1, h2⟩:=h
 exact ⟨f'.trans f λ _ _ h => h.elim, v', tag', h1.fr0 f, h2⟩
theorem RDid.trans {r'' : Rk} (f : Fr (λ c => tag c ≠ 0) w w') (ht : ∀ c, tag' c ≠ 0 -> tag c ≠ 0 ∨ w.heap.size <= c) (h : RDid w' w'' b tag' r'') : RDid w w'' b tag r'':=by
 obtain ⟨f', v'', tag'', h1, h2⟩:=h
 have s:=f.size
 exact ⟨f.trans f' λ c hc h => (ht c h).elim id λ h' => by omega, v'', tag'', h1, λ c hc => (h2 c hc).elim (ht c) λ h => .inr (by omega)⟩
theorem RA.newLine (h : RA w b r v tag) (f0 : Fr (inB v.lv) w w') {x : Value} {l : List Rc} (hr : SlW 6 w' x (l.map Rc.cells)) (hin : ∀ c, inB x c -> inB v.lv c ∨ (w.heap.size <= c /\ c < w'.heap.size)) :
  Go.Lift.bk w' b = some (r.cells v) /\ Go.Lift.wr w' b = true /\ ∃ tag', RA (sto w' b 6 [x]) b { r with line:=l } { v with lv:=x } tag' /\ Fr (λ c => tag c ≠ 0) w (sto w' b 6 [x]) /\ ∀ c, tag' c ≠ 0 -> tag c ≠ 0 ∨ w.heap.size <= c:=by
 classical
 have s:=f0.size
 have told : ∀ c, inB v.lv c -> tag c = 3:=h.tl
 have nv : ∀ c, tag c ≠ 3 -> ¬ inB v.lv c:=λ c hc hi => hc (told c hi)
 have hb:=h.blk
 have hb' : Go.Lift.bk w' b = some (r.cells v):=f0.bk_some hb (nv b (by rw [h.tb]; decide))
 have hw' : Go.Lift.wr w' b = true:=by rw [f0.wr (bk_lt hb) (nv b (by rw [h.tb]; decide))]; exact h.wr
 have f : Fr (λ c => inB v.lv c ∨ c = b) w (sto w' b 6 [x]):=by
  refine Fr.sto (b:=b) (f0.mono λ c hc => ?_) (.inl ?_) _ _
  ·exact Or.inl hc
  ·exact Or.inr rfl
 have nb : ∀ c, tag c ≠ 1 -> tag c ≠ 3 -> ¬ (inB v.lv c ∨ c = b):=λ c h1 h4 hc => hc.elim (nv c h4) λ he => h1 (by rw [he]; exact h.tb)
 have nr : ∀ c, tag c ≠ 0 -> tag c ≠ 3 -> ¬ inB x c:=λ c h0 h5 hi => by
  rcases hin c hi with h' | h'
  ·exact nv c h5 h'
  ·have:=h.bound c h0; omega
 have hrb : ∀ c, inB x c -> ¬ c = b:=λ c hc he => nr b (by rw [h.tb]; decide) (by rw [h.tb]; decide) (he ▸ hc)
 have hr':=hr.fr ((Fr.refl (λ c => c = b) w').sto (.inl rfl) 6 [x]) hrb
 obtain ⟨tag', tpos, tneg, tboth⟩ : ∃ tag' : Nat -> Nat, (∀ c, inB x c -> tag' c = 3) /\ (∀ c, tag c ≠ 0 -> tag c ≠ 3 -> tag' c = tag c) /\ (∀ c, ¬ inB x c -> tag' c = tag c) :=
  ⟨λ c => if inB x c then 3 else tag c, λ c hc => if_pos hc, λ c h0 h5 => if_neg (nr c h0 h5), λ c hc => if_neg hc⟩
 have sla : ∀ {l : RSl} {sv : Value}, SlA w tag l sv -> SlA (sto w' b 6 [x]) tag' l sv:=λ q => ⟨q.1.fr f λ c hc => nb c (by rw [q.2 c hc]; decide) (by rw [q.2 c hc]; decide), λ c hc => by rw [tneg c (by rw [q.2 c hc]; decide) (by rw [q.2 c hc]; decide)]; exact q.2 c hc⟩
 refine ⟨hb', hw', tag', ⟨?_, by rw [wr_sto]; exact hw', h.tE, h.things.fr f λ c hc => nb c (by rw [h.tt c hc]; decide) (by rw [h.tt c hc]; decide), λ t ht => ⟨sla (h.slots t ht).1, sla (h.slots t ht).2⟩, hr', ?_, λ c hc => by rw [tneg c (by rw [h.tt c hc]; decide) (by rw [h.tt c hc]; decide)]; exact h.tt c hc, tpos, ?_, ?_⟩, f.mono ?_, ?_⟩
 ·rw [bk_sto_eq, hb']
  simp [Rk.cells]
 ·rw [tneg b (by rw [h.tb]; decide) (by rw [h.tb]; decide)]; exact h.tb
 ·rw [tboth 0 λ hi => ?_]
  ·exact h.t0
  ·rcases hin 0 hi with h' | h'
   ·have:=told 0 h'; rw [h.t0] at this; cases this
   ·have:=bk_lt hb; omega
 ·intro c hc
  rw [size_sto]
  by_cases hi : inB x c
  ·rcases hin c hi with h' | h'
   ·have:=h.bound c (by rw [told c h']; decide); omega
   ·exact h'.2
  ·rw [tboth c hi] at hc
   have:=h.bound c hc; omega
 ·rintro c (hc | hc)
  ·rw [told c hc]; decide
  ·rw [hc, h.tb]; decide
 ·intro c hc
  by_cases hi : inB x c
  ·rcases hin c hi with h' | h'
   ·exact .inl (by rw [told c h']; decide)
   ·exact .inr h'.1
  ·rw [tboth c hi] at hc; exact .inl hc
theorem RA.newThings (h : RA w b r v tag) (f0 : Fr (inB v.tv) w w') {x : Value} {l : List TV} (hs : ∀ t ∈ l, SlA w tag t.1.seen.slots t.2.1 /\ SlA w tag t.1.kept.slots t.2.2) (hr : SlW 5 w' x (l.map thC)) (hin : ∀ c, inB x c -> inB v.tv c ∨ (w.heap.size <= c /\ c < w'.heap.size)) :
  Go.Lift.bk w' b = some (r.cells v) /\ Go.Lift.wr w' b = true /\ ∃ tag', RA (sto w' b 5 [x]) b { r with things:=l.map (·.1) } { v with tv:=x, ts:=l } tag' /\ Fr (λ c => tag c ≠ 0) w (sto w' b 5 [x]) /\ ∀ c, tag' c ≠ 0 -> tag c ≠ 0 ∨ w.heap.size <= c:=by
 classical
 have s:=f0.size
 have told : ∀ c, inB v.tv c -> tag c = 2:=h.tt
 have nv : ∀ c, tag c ≠ 2 -> ¬ inB v.tv c:=λ c hc hi => hc (told c hi)
 have hb:=h.blk
 have hb' : Go.Lift.bk w' b = some (r.cells v):=f0.bk_some hb (nv b (by rw [h.tb]; decide))
 have hw' : Go.Lift.wr w' b = true:=by rw [f0.wr (bk_lt hb) (nv b (by rw [h.tb]; decide))]; exact h.wr
 have f : Fr (λ c => inB v.tv c ∨ c = b) w (sto w' b 5 [x]):=by
  refine Fr.sto (b:=b) (f0.mono λ c hc => ?_) (.inl ?_) _ _
  ·exact Or.inl hc
  ·exact Or.inr rfl
 have nb : ∀ c, tag c ≠ 1 -> tag c ≠ 2 -> ¬ (inB v.tv c ∨ c = b):=λ c h1 h4 hc => hc.elim (nv c h4) λ he => h1 (by rw [he]; exact h.tb)
 have nr : ∀ c, tag c ≠ 0 -> tag c ≠ 2 -> ¬ inB x c:=λ c h0 h5 hi => by
  rcases hin c hi with h' | h'
  ·exact nv c h5 h'
  ·have:=h.bound c h0; omega
 have hrb : ∀ c, inB x c -> ¬ c = b:=λ c hc he => nr b (by rw [h.tb]; decide) (by rw [h.tb]; decide) (he ▸ hc)
 have hr':=hr.fr ((Fr.refl (λ c => c = b) w').sto (.inl rfl) 5 [x]) hrb
 obtain ⟨tag', tpos, tneg, tboth⟩ : ∃ tag' : Nat -> Nat, (∀ c, inB x c -> tag' c = 2) /\ (∀ c, tag c ≠ 0 -> tag c ≠ 2 -> tag' c = tag c) /\ (∀ c, ¬ inB x c -> tag' c = tag c) :=
  ⟨λ c => if inB x c then 2 else tag c, λ c hc => if_pos hc, λ c h0 h5 => if_neg (nr c h0 h5), λ c hc => if_neg hc⟩
 have sla : ∀ {l : RSl} {sv : Value}, SlA w tag l sv -> SlA (sto w' b 5 [x]) tag' l sv:=λ q => ⟨q.1.fr f λ c hc => nb c (by rw [q.2 c hc]; decide) (by rw [q.2 c hc]; decide), λ c hc => by rw [tneg c (by rw [q.2 c hc]; decide) (by rw [q.2 c hc]; decide)]; exact q.2 c hc⟩
 refine ⟨hb', hw', tag', ⟨?_, by rw [wr_sto]; exact hw', rfl, hr', λ t ht => ⟨sla (hs t ht).1, sla (hs t ht).2⟩, h.line.fr f λ c hc => nb c (by rw [h.tl c hc]; decide) (by rw [h.tl c hc]; decide), ?_, tpos, λ c hc => by rw [tneg c (by rw [h.tl c hc]; decide) (by rw [h.tl c hc]; decide)]; exact h.tl c hc, ?_, ?_⟩, f.mono ?_, ?_⟩
 ·rw [bk_sto_eq, hb']
  simp [Rk.cells]
 ·rw [tneg b (by rw [h.tb]; decide) (by rw [h.tb]; decide)]; exact h.tb
 ·rw [tboth 0 λ hi => ?_]
  ·exact h.t0
  ·rcases hin 0 hi with h' | h'
   ·have:=told 0 h'; rw [h.t0] at this; cases this
   ·have:=bk_lt hb; omega
 ·intro c hc
  rw [size_sto]
  by_cases hi : inB x c
  ·rcases hin c hi with h' | h'
   ·have:=h.bound c (by rw [told c h']; decide); omega
   ·exact h'.2
  ·rw [tboth c hi] at hc
   have:=h.bound c hc; omega
 ·rintro c (hc | hc)
  ·rw [told c hc]; decide
  ·rw [hc, h.tb]; decide
 ·intro c hc
  by_cases hi : inB x c
  ·rcases hin c hi with h' | h'
   ·exact .inl (by rw [told c h']; decide)
   ·exact .inr h'.1
  ·rw [tboth c hi] at hc; exact .inl hc
end
def sideF (s : Sd) (c : Rc) : Sd:=if c.what = 1 then { s with data:=s.data ++ c.data } else if c.what = 2 then { s with data:=s.data.extract 0 c.n.toNat } else
 if c.what = 3 then { s with slots:=havingL s.slots c.a c.n } else if c.what = 4 then { s with slots:=withoutL s.slots c.a } else if c.what = 5 then { s with slots:=havingL (withoutL s.slots c.a) c.b (findL s.slots c.a) } else s
structure Rc.fits (c : Rc) (s : Sd) : Prop where
 add : c.what = 1 -> s.data.size + c.data.size <= 9223372036854775807
 cut : c.what = 2 -> 0 <= c.n /\ c.n <= s.data.size
 few : s.slots.length <= 8388608
section
variable {w w' : World} {b : Nat} {r r' : Rk} {v : RV} {tag : Nat -> Nat}
theorem back2 {x : Nat} {l : List Value} (hx : bk w x = some l) (hl : l.length = 2) (p q : Value) : ldA 2 (Ptr x) (sto w x 0 [p, q]) = some (.agg #[p, q]):=by
 obtain ⟨a, b, rfl⟩ : ∃ a b, l = [a, b]:=by
  match l, hl with
  | [a, b], _ => exact ⟨a, b, rfl⟩
 rw [ldA_bk (l:=[p, q]) (by rw [bk_sto_eq, hx]; rfl) (by simp)]; rfl
theorem rdone_run {sv : Value} {s : Sd} (hs : Sl 2 w sv (s.slots.map slC)) (hb : ∀ k, inB sv k -> k < w.heap.size) (c : Rc) (hf : c.fits s) :
  Run (F.rr_done (.agg #[.string s.data, sv]) c.val) w λ x w' => ∃ sv', x = .agg #[.string (sideF s c).data, sv'] /\ Sl 2 w' sv' ((sideF s c).slots.map slC) /\ Fr (λ _ => False) w w' /\ ∀ k, inB sv' k -> inB sv k ∨ (w.heap.size <= k /\ k < w'.heap.size):=by
 obtain ⟨Q, hQ⟩ : ∃ Q : Value -> World -> Prop, ∀ x w', Q x w' ↔ ∃ sv', x = .agg #[.string (sideF s c).data, sv'] /\ Sl 2 w' sv' ((sideF s c).slots.map slC) /\ Fr (λ _ => False) w w' /\ ∀ k, inB sv' k -> inB sv k ∨ (w.heap.size <= k /\ k < w'.heap.size):=⟨_, λ _ _ => Iff.rfl⟩
 refine Run.mono (Q:=Q) ?_ λ x w' h => (hQ _ _).1 h
 unfold F.rr_done
 rw [Run_bind]
 refine Run_new λ x w1 hx hxw f1 hxle => ?_
 have hx : bk w1 x = some [.string s.data, sv]:=hx
 rw [Run_bind]
 refine Run_new λ y w2 hy _ f2 hyle => ?_
 have hy : bk w2 y = some c.cells:=hy
 rw [Run_bind]
 refine Run_new λ z w3 hz hzw f3 hzle => ?_
 have hz : bk w3 z = some [.string e0, .slice none 0 0]:=hz
 have s1:=f1.size
 have s2:=f2.size
 have s3:=f3.size
 have lx:=bk_lt hx
 have ly:=bk_lt hy
 have hx3 : bk w3 x = some [.string s.data, sv]:=f3.bk_some (f2.bk_some hx id) id
 have hy3 : bk w3 y = some c.cells:=f3.bk_some hy id
 have hxw3 : wr w3 x = true:=by rw [f3.wr (by omega) id, f2.wr lx id]; exact hxw
 have f03 : Fr (λ _ => False) w w3:=(f1.trans f2 λ _ _ => id).trans f3 λ _ _ => id
 have hs3:=hs.fr0 f03
 have hsc:=hs.isCell
 rw [Run_bind]
 obtain ⟨P, hP⟩ : ∃ P : Out -> World -> Prop, ∀ o w', P o w' ↔ o = Out.norm [] /\ ∃ sv', bk w' x = some [.string (sideF s c).data, sv'] /\ Sl 2 w' sv' ((sideF s c).slots.map slC) /\ bk w' z = some [.string e0, .slice none 0 0] /\ wr w' z = true /\ Fr (λ _ => False) w w' /\ (∀ k, inB sv' k -> inB sv k ∨ (w.heap.size <= k /\ k < w'.heap.size)) /\ ∀ k, inB sv' k -> k ≠ z:=⟨λ _ _ => _, λ _ _ => Iff.rfl⟩
 refine Run.mono (Q:=P) ?_ ?_
 ·have put : ∀ {w4 : World} (i : Nat) (u d' sv' : Value), Fr (λ _ => False) w3 w4 -> [Value.string s.data, sv].set i u = [d', sv'] -> d' = .string (sideF s c).data -> Sl 2 w4 sv' ((sideF s c).slots.map slC) -> (∀ k, inB sv' k -> inB sv k ∨ (w.heap.size <= k /\ k < w4.heap.size)) -> (∀ k, inB sv' k -> k ≠ x /\ k ≠ z) -> P (Out.norm []) (sto w4 x i [u]):=λ {w4} i u d' sv' f4 he hd hsl hin hne => by
   have s4:=f4.size
   have hx4 : bk w4 x = some [.string s.data, sv]:=f4.bk_some hx3 id
   refine (hP _ _).2 ⟨rfl, sv', ?_, hsl.fr ((Fr.refl (λ k => k = x) w4).sto (.inl rfl) _ _) (λ k hk => (hne k hk).1), ?_, ?_, (f03.trans f4 λ _ _ => id).sto (.inr hxle) _ _, λ k hk => by rw [size_sto]; exact hin k hk, λ k hk => (hne k hk).2⟩
   ·rw [bk_sto_eq, hx4, <- hd, <- he]; rfl
   ·rw [bk_sto_ne (by omega)]; exact f4.bk_some hz id
   ·rw [wr_sto, f4.wr (bk_lt hz) id]; exact hzw
  have lz:=bk_lt hz
  have svx : ∀ k, inB sv k -> k ≠ x /\ k ≠ z:=λ k hk => by have:=hb k hk; omega
  have xw : ∀ {w4}, Fr (λ _ => False) w3 w4 -> bk w4 x = some [.string s.data, sv] /\ wr w4 x = true /\ bk w4 y = some c.cells:=λ f4 => ⟨f4.bk_some hx3 id, by rw [f4.wr (by omega) id]; exact hxw3, f4.bk_some hy3 id⟩
  have stay : P (Out.norm []) w3 -> Run (M.ret (Out.norm [])) w3 P:=λ h => by simpa using h
  by_cases c1 : c.what = 1
  ·have hsz:=hf.add c1
   have hadd : strBin .add s.data c.data = some (.string (s.data ++ c.data)):=by
    simp only [strBin]
    rw [if_neg]
    simp [IntKind.max, IntKind.bits, IntKind.signed]; omega
   simp [-ldA_ptr, hx3, hy3, hxw3, Rc.cells, c1, hadd]
   exact put 0 _ _ sv (Fr.refl _ _) rfl (by simp [sideF, c1]) (by simpa [sideF, c1] using hs3) (λ k hk => .inl hk) svx
  by_cases c2 : c.what = 2
  ·obtain ⟨n, hn⟩ : ∃ n : Nat, c.n = n:=⟨c.n.toNat, by have:=(hf.cut c2).1; omega⟩
   have hnl : n <= s.data.size:=by have:=(hf.cut c2).2; omega
   have hsl : sliceS (.string s.data) none (some (.int .i64 n)) = some (.string (s.data.extract 0 n)):=by
    simp [sliceS, highV, lowV, boundV, hnl]
   simp [-ldA_ptr, hx3, hy3, hxw3, Rc.cells, c1, c2, hn, hsl]
   exact put 0 _ _ sv (Fr.refl _ _) rfl (by simp [sideF, c1, c2, hn]) (by simpa [sideF, c1, c2] using hs3) (λ k hk => .inl hk) svx
  by_cases c3 : c.what = 3
  ·simp [-ldA_ptr, hx3, hy3, hxw3, Rc.cells, c1, c2, c3]
   refine (rhaving_run hs3 c.a c.n hf.few).mono ?_
   rintro u w4 ho
   obtain ⟨e1, e2, e3⟩:=xw ho.fr
   have huc:=ho.sl.1.isCell
   have s4:=ho.fr.size
   simp [-ldA_ptr, e1, e2, huc, cells_isCell huc]
   exact put 1 u _ u ho.fr rfl (by simp [sideF, c1, c2, c3]) (by simpa [sideF, c1, c2, c3] using ho.sl.1) (λ k hk => .inr (by have:=ho.fresh k hk; omega)) (λ k hk => by have:=ho.fresh k hk; omega)
  by_cases c4 : c.what = 4
  ·simp [-ldA_ptr, hx3, hy3, hxw3, Rc.cells, c1, c2, c3, c4]
   refine (rwithout_run hs3 c.a (by have:=hf.few; omega)).mono ?_
   rintro u w4 ho
   obtain ⟨e1, e2, e3⟩:=xw ho.fr
   have huc:=ho.sl.1.isCell
   have s4:=ho.fr.size
   simp [-ldA_ptr, e1, e2, huc, cells_isCell huc]
   exact put 1 u _ u ho.fr rfl (by simp [sideF, c1, c2, c3, c4]) (by simpa [sideF, c1, c2, c3, c4] using ho.sl.1) (λ k hk => .inr (by have:=ho.fresh k hk; omega)) (λ k hk => by have:=ho.fresh k hk; omega)
  by_cases c5 : c.what = 5
  ·simp [-ldA_ptr, hx3, hy3, hxw3, Rc.cells, c1, c2, c3, c4, c5]
   refine (rfind_run hs3 c.a (by have:=hf.few; omega)).mono ?_
   rintro _ w4 ⟨rfl, hw4⟩
   rw [hw4]
   simp [-ldA_ptr, hx3, hy3, hxw3, Rc.cells]
   refine (rwithout_run hs3 c.a (by have:=hf.few; omega)).mono ?_
   rintro u1 w4 ho1
   obtain ⟨e1, e2, e3⟩:=xw ho1.fr
   simp [-ldA_ptr, e3, Rc.cells]
   have hlw : (withoutL s.slots c.a).length <= s.slots.length:=List.length_filter_le _ _
   refine (rhaving_run ho1.sl.1 c.b (findL s.slots c.a) (by have:=hf.few; omega)).mono ?_
   rintro u w5 ho
   have f35:=ho1.fr.trans ho.fr λ _ _ => id
   obtain ⟨e1, e2, e3⟩:=xw f35
   have huc:=ho.sl.1.isCell
   have s4:=ho1.fr.size
   have s5:=ho.fr.size
   simp [-ldA_ptr, e1, e2, huc, cells_isCell huc]
   exact put 1 u _ u f35 rfl (by simp [sideF, c1, c2, c3, c4, c5]) (by simpa [sideF, c1, c2, c3, c4, c5] using ho.sl.1) (λ k hk => .inr (by have:=ho.fresh k hk; omega)) (λ k hk => by have:=ho.fresh k hk; omega)
  ·simp [-ldA_ptr, hx3, hy3, hxw3, Rc.cells, c1, c2, c3, c4, c5]
   exact (hP _ _).2 ⟨rfl, sv, by rw [hx3]; simp [sideF, c1, c2, c3, c4, c5], by simpa [sideF, c1, c2, c3, c4, c5] using hs3, hz, hzw, f03, λ k hk => .inl hk, λ k hk => (svx k hk).2⟩
 ·rintro o w4 ho
  obtain ⟨rfl, sv', h1, h2, h3, h4, h5, h6, h7⟩:=(hP _ _).1 ho
  have hx4 : ldA 2 (Ptr x) w4 = some (.agg #[.string (sideF s c).data, sv']):=by rw [ldA_bk h1 (by simp)]; rfl
  have hc:=h2.isCell
  have hb:=back2 h3 rfl (.string (sideF s c).data) sv'
  simp [-ldA_ptr, hx4, h3, h4, hc, hb]
  refine ⟨λ i hi => ?_, (hQ _ _).2 ⟨sv', rfl, h2.fr ((Fr.refl (λ k => k = z) w4).sto (.inl rfl) _ _) (λ k hk => h7 k hk), h5.sto (.inr (by omega)) _ _, λ k hk => by rw [size_sto]; exact h6 k hk⟩⟩
  match i, hi with
  | 0, _ => rfl
  | 1, _ => exact hc
end
section
variable {w w' : World} {b : Nat} {r r' : Rk} {v : RV} {tag : Nat -> Nat}
structure ThAt (w : World) (tag : Nat -> Nat) (v : RV) (i : Nat) (t : TV) (q o : Nat) (l : List Value) : Prop where
 at_ : idxA 5 v.tv (.int .i64 i) = some (.pointer (some ⟨q, o, none⟩))
 tg : tag q = 2
 bk : Go.Lift.bk w q = some l
 c0 : l[o]? = some (.int .i64 t.1.kind)
 c1 : l[o + 1]? = some (.string t.1.seen.data)
 c2 : l[o + 2]? = some t.2.1
 c3 : l[o + 3]? = some (.string t.1.kept.data)
 c4 : l[o + 4]? = some t.2.2
 len : o + 5 <= l.length
 cut : (l.drop o).take 5 = thC t
theorem RA.thing (h : RA w b r v tag) {i : Nat} {t : TV} (hi : v.ts[i]? = some t) : ∃ q o l, ThAt w tag v i t q o l:=by
 have he : (v.ts.map thC)[i]? = some (thC t):=by simp [hi]
 obtain ⟨q, o, l, i1, i2, i3, i4, i5⟩:=h.things.1.rd (by decide) he .i64
 exact ⟨q, o, l, i1, h.tt q i5, i2, take_get0 i4 (by decide), take_get (j:=1) i4 (by decide), take_get (j:=2) i4 (by decide), take_get (j:=3) i4 (by decide), take_get (j:=4) i4 (by decide), i3, i4⟩
theorem ThAt.fr0 {i : Nat} {t : TV} {q o : Nat} {l : List Value} (h : ThAt w tag v i t q o l) (f : Fr (λ _ => False) w w') : ThAt w' tag v i t q o l:=⟨h.at_, h.tg, f.bk_some h.bk id, h.c0, h.c1, h.c2, h.c3, h.c4, h.len, h.cut⟩
theorem ThAt.seen {i : Nat} {t : TV} {q o : Nat} {l : List Value} (h : ThAt w tag v i t q o l) : ldA 2 (.pointer (some ⟨q, o + 1, none⟩)) w = some (.agg #[.string t.1.seen.data, t.2.1]):=by
 have hl:=h.len
 rw [ldA_bk h.bk (by omega)]
 have : (l.drop (o + 1)).take 2 = (((l.drop o).take 5).drop 1).take 2:=by
  rw [List.drop_take, List.drop_drop, List.take_take]; simp
 rw [this, h.cut]; rfl
theorem ThAt.kept {i : Nat} {t : TV} {q o : Nat} {l : List Value} (h : ThAt w tag v i t q o l) : ldA 2 (.pointer (some ⟨q, o + 3, none⟩)) w = some (.agg #[.string t.1.kept.data, t.2.2]):=by
 have hl:=h.len
 rw [ldA_bk h.bk (by omega)]
 have : (l.drop (o + 3)).take 2 = (((l.drop o).take 5).drop 3).take 2:=by
  rw [List.drop_take, List.drop_drop, List.take_take]; simp
 rw [this, h.cut]; rfl
theorem RA.setSide (h : RA w b r v tag) {i : Nat} {t : TV} (hi : v.ts[i]? = some t) {q o : Nat} {l : List Value} (hq : ThAt w tag v i t q o l) (s : Sd) (sv : Value) (hsl : Sl 2 w sv (s.slots.map slC)) (hin : ∀ c, inB sv c -> tag c = 4 ∨ (tag c = 0 /\ c < w.heap.size /\ c ≠ 0)) :
  okAt w q (o + 1) 2 /\ okAt w q (o + 3) 2 /\ ∃ tag' : Nat -> Nat, (∀ c, tag' c ≠ 0 -> tag c ≠ 0 ∨ inB sv c) /\
   RA (sto w q (o + 1) [.string s.data, sv]) b { r with things:=r.things.set i { t.1 with seen:=s } } { v with ts:=v.ts.set i ({ t.1 with seen:=s }, sv, t.2.2) } tag' /\
   RA (sto w q (o + 3) [.string s.data, sv]) b { r with things:=r.things.set i { t.1 with kept:=s } } { v with ts:=v.ts.set i ({ t.1 with kept:=s }, t.2.1, sv) } tag':=by
 classical
 have he : (v.ts.map thC)[i]? = some (thC t):=by simp [hi]
 obtain ⟨q1, o1, j1, j2, j3, j4, j5⟩:=h.things.put he .i64
 rw [hq.at_] at j1
 cases j1
 have tgq:=hq.tg
 obtain ⟨tag', tpos, tneg, tboth⟩ : ∃ tag' : Nat -> Nat, (∀ c, inB sv c -> tag' c = 4) /\ (∀ c, tag c ≠ 0 -> tag' c = tag c) /\ (∀ c, ¬ inB sv c -> tag' c = tag c) :=
  ⟨λ c => if inB sv c then 4 else tag c, λ c hc => if_pos hc, λ c h0 => by
   show (if inB sv c then 4 else tag c) = tag c
   by_cases hc : inB sv c
   ·rw [if_pos hc]
    rcases hin c hc with h' | h'
    ·exact h'.symm
    ·exact absurd h'.1 h0
   ·exact if_neg hc, λ c hc => if_neg hc⟩
 have key : ∀ (j : Nat) (t' : TV), j + 2 <= 5 -> setL (thC t) j [.string s.data, sv] = thC t' -> (∀ w1, Fr (λ c => c = q) w w1 -> SlA w1 tag' t'.1.seen.slots t'.2.1 /\ SlA w1 tag' t'.1.kept.slots t'.2.2) ->
   okAt w q (o + j) 2 /\ RA (sto w q (o + j) [.string s.data, sv]) b { r with things:=r.things.set i t'.1 } { v with ts:=v.ts.set i t' } tag':=by
  intro j t' hj hset hss
  obtain ⟨p1, p2⟩:=j5 j [.string s.data, sv] (by simpa using hj)
  have f : Fr (λ c => c = q) w (sto w q (o + j) [.string s.data, sv]):=(Fr.refl (λ c => c = q) w).sto (.inl rfl) _ _
  have nb : ∀ c, tag c ≠ 2 -> ¬ c = q:=λ c hc he => hc (by rw [he]; exact tgq)
  refine ⟨p1, f.bk_some h.blk (nb b (by rw [h.tb]; decide)), by rw [wr_sto]; exact h.wr, ?_, ?_, ?_, h.line.fr f λ c hc => nb c (by rw [h.tl c hc]; decide), by rw [tneg b (by rw [h.tb]; decide)]; exact h.tb, λ c hc => by rw [tneg c (by rw [h.tt c hc]; decide)]; exact h.tt c hc, λ c hc => by rw [tneg c (by rw [h.tl c hc]; decide)]; exact h.tl c hc, ?_, λ c hc => ?_⟩
  ·rw [<- h.tE, List.map_set]
  ·rw [hset] at p2
   show SlW 5 _ v.tv ((v.ts.set i t').map thC)
   rw [List.map_set]
   exact p2
  ·intro u hu
   rcases List.mem_or_eq_of_mem_set hu with hu | rfl
   ·obtain ⟨u1, u2⟩:=h.slots u hu
    exact ⟨⟨u1.1.fr f λ c hc => nb c (by rw [u1.2 c hc]; decide), λ c hc => by rw [tneg c (by rw [u1.2 c hc]; decide)]; exact u1.2 c hc⟩, ⟨u2.1.fr f λ c hc => nb c (by rw [u2.2 c hc]; decide), λ c hc => by rw [tneg c (by rw [u2.2 c hc]; decide)]; exact u2.2 c hc⟩⟩
   ·exact hss _ f
  ·rw [tboth 0 λ h0 => ?_]
   ·exact h.t0
   ·rcases hin 0 h0 with h' | h'
    ·rw [h.t0] at h'; cases h'
    ·exact h'.2.2 rfl
  ·rw [size_sto]
   by_cases hc' : inB sv c
   ·rcases hin c hc' with h' | h'
    ·exact h.bound c (by rw [h']; decide)
    ·exact h'.2.1
   ·rw [tboth c hc'] at hc; exact h.bound c hc
 have nsv : ∀ c, inB sv c -> ¬ c = q:=λ c hc he => by
  rcases hin c hc with h' | h'
  ·rw [he, tgq] at h'; cases h'
  ·rw [he, tgq] at h'; cases h'.1
 have newS : ∀ w1, Fr (λ c => c = q) w w1 -> SlA w1 tag' s.slots sv:=λ w1 f => ⟨hsl.fr f nsv, tpos⟩
 have oldS : ∀ {l : RSl} {u : Value} w1, Fr (λ c => c = q) w w1 -> SlA w tag l u -> SlA w1 tag' l u:=λ w1 f hu => ⟨hu.1.fr f λ c hc he => (by have:=hu.2 c hc; rw [he, tgq] at this; cases this), λ c hc => by rw [tneg c (by rw [hu.2 c hc]; decide)]; exact hu.2 c hc⟩
 have hst:=h.slots t (List.mem_of_getElem? hi)
 obtain ⟨a1, a2⟩:=key 1 ({ t.1 with seen:=s }, sv, t.2.2) (by decide) rfl λ w1 f => ⟨newS w1 f, oldS w1 f hst.2⟩
 obtain ⟨b1, b2⟩:=key 3 ({ t.1 with kept:=s }, t.2.1, sv) (by decide) rfl λ w1 f => ⟨oldS w1 f hst.1, newS w1 f⟩
 refine ⟨a1, b1, tag', λ c hc => ?_, a2, b2⟩
 by_cases hc' : inB sv c
 ·exact .inr hc'
 ·rw [tboth c hc'] at hc; exact .inl hc
def rchF (r : Rk) (c : Rc) (i : Nat) (t : Th) : Int × Rk:=if r.actF.1 ≠ 0 then r.actF else (0, { r.actF.2 with things:=r.things.set i { t with seen:=sideF t.seen c }, line:=r.line ++ [c] })
theorem ract_same (r : Rk) : r.actF.2.things = r.things /\ r.actF.2.line = r.line:=by
 unfold Rk.actF
 split <;> exact ⟨rfl, rfl⟩
theorem rchange_run (h : RA w b r v tag) (c : Rc) {i : Nat} {t : TV} (hi : v.ts[i]? = some t) (hn : c.thing = i) (hf : c.fits t.1.seen) (hp : r.line.length <= 16777216) :
  Run (F.r_change (Ptr b) c.val) w λ x w' => x = .int .i64 (rchF r c i t.1).1 /\ RDid w w' b tag (rchF r c i t.1).2:=by
 unfold F.r_change
 simp only [Run_bind]
 refine Run_new λ x w1 hx _ f1 hxle => ?_
 have hx1 : bk w1 x = some c.cells:=hx
 have h1:=h.fr0 f1
 refine (ract_run h1).mono ?_
 rintro _ w2 ⟨rfl, h2, f2⟩
 obtain ⟨at_, al⟩:=ract_same r
 have tb:=h.tb
 have hxb : x ≠ b:=λ he => by
  have:=h.bound b (by rw [tb]; decide)
  omega
 have f12 : Fr (λ c => tag c ≠ 0) w w2:=(f1.mono λ _ h => h.elim).trans f2 λ c _ hc => by rw [hc, tb]; decide
 have hx2 : bk w2 x = some c.cells:=f2.bk_some hx1 hxb
 unfold rchF
 by_cases ha : r.actF.1 = 0
 ·obtain ⟨q, o, l, ht⟩:=h2.thing hi
  have hb2:=h2.blk
  have e6 : ∀ w3, bk w3 x = some c.cells -> ldA 6 (Ptr x) w3 = some c.val:=λ w3 h => by rw [ldA_bk h (by simp [Rc.cells])]; rfl
  have hsn:=ht.seen
  simp [-ldA_ptr, ha, hb2, Rk.cells, hx2, Rc.cells, hn, ht.at_, e6 w2 hx2, hsn]
  have fd : Fr (λ _ => False) w2 w2.drew:=(Fr.refl (λ _ => False) w2).drew
  have h2d:=h2.fr0 fd
  have hst:=h2d.slots t (List.mem_of_getElem? hi)
  refine (rdone_run hst.1.1 (λ k hk => h2d.bound k (by rw [hst.1.2 k hk]; decide)) c hf).mono ?_
  rintro _ w3 ⟨sv', rfl, hsl', f3, hin'⟩
  have h3:=h2d.fr0 f3
  have s1:=f1.size
  have s2:=f2.size
  have s3:=f3.size
  have sd : w2.drew.heap.size = w2.heap.size:=rfl
  have hpos : 0 < w.heap.size:=by have:=bk_lt h.blk; omega
  obtain ⟨k1, _, tag3, tg3, h4, _⟩:=h3.setSide hi ((ht.fr0 fd).fr0 f3) (sideF t.1.seen c) sv' hsl' (λ k hk => by
   rcases hin' k hk with hk | hk
   ·exact .inl (hst.1.2 k hk)
   ·refine .inr ⟨Classical.byContradiction λ hn => ?_, hk.2, by omega⟩
    have:=h.bound k hn; omega)
  have hc:=hsl'.isCell
  have hb3:=h3.blk
  have hx3 : bk w3 x = some c.cells:=f3.bk_some (w:=w2.drew) hx2 id
  have tgq:=ht.tg
  have hq0:=h.bound q (by rw [tgq]; decide)
  have hx4 : bk (sto w3 q (o + 1) [.string (sideF t.1.seen c).data, sv']) x = some c.cells:=by rw [bk_sto_ne (by omega)]; exact hx3
  rw [show (Value.agg #[Value.string (sideF t.1.seen c).data, sv']).cells = #[Value.string (sideF t.1.seen c).data, sv'] from rfl, show (#[Value.string (sideF t.1.seen c).data, sv'] : Array Value).toList = [Value.string (sideF t.1.seen c).data, sv'] from rfl]
  have f34 : Fr (λ c => c = q) w3 (sto w3 q (o + 1) [.string (sideF t.1.seen c).data, sv']):=(Fr.refl (λ c => c = q) w3).sto (.inl rfl) _ _
  refine ⟨rfl, λ i hi => ?_, k1.1, k1.2, by rw [hb3]; rfl, by rw [hx3]; simp [Rc.cells, hn], ?_⟩
  ·match i, hi with
   | 0, _ => rfl
   | 1, _ => exact hc
  have z4 : (sto w3 q (o + 1) [.string (sideF t.1.seen c).data, sv']).heap.size = w3.heap.size:=size_sto _ _ _ _
  generalize sto w3 q (o + 1) [.string (sideF t.1.seen c).data, sv'] = w4 at *
  have hb4:=h4.blk
  have f04 : Fr (λ c => tag c ≠ 0) w w4:=((f12.trans fd λ _ _ h => h.elim).trans f3 λ _ _ h => h.elim).trans f34 λ c _ hc => by rw [hc, tgq]; decide
  have fd4 : Fr (λ _ => False) w4 w4.drew:=(Fr.refl (λ _ => False) w4).drew
  simp [-ldA_ptr, hb4, Rk.cells, e6 w4 hx4]
  refine Run_app1 (k:=6) (w:=w4.drew) (by simp [Rc.val, Rc.cells]) (h4.fr0 fd4).line (by decide) rfl (by decide) (by simpa [Rc.val] using c.all) (by simp only [List.length_map, al]; omega) λ u w5 hr f5 hin w6 f6 => ?_
  have z5 : w4.drew.heap.size = w4.heap.size:=rfl
  have s5:=f5.size
  have tb4:=h4.tb
  have npv : ∀ c, inB v.lv c -> tag3 c = 3:=h4.tl
  have h5 : bk w5 b = some _:=f5.bk_some (w:=w4.drew) hb4 λ hi => by have:=npv b hi; rw [tb4] at this; cases this
  have hw5 : wr w5 b = true:=by
   rw [f5.wr (w:=w4.drew) (bk_lt (w:=w4.drew) hb4) λ hi => by have:=npv b hi; rw [tb4] at this; cases this]
   exact h4.wr
  have h6 : bk w6 b = some _:=f6.bk_some (w:=w4.drew) hb4 id
  have hrc:=hr.1.isCell
  have hr' : SlW 6 w5 u ((r.line ++ [c]).map Rc.cells):=by
   simp only [al] at hr
   simpa [Rc.val] using hr
  obtain ⟨g1, g2, tag', g3, g4, g5⟩:=(h4.fr0 fd4).newLine f5 hr' hin
  rw [cells_isCell hrc]
  refine ⟨rfl, by simp [hrc], ⟨_, h5, by simp [Rk.cells]⟩, hw5, by rw [h6]; rfl, ?_⟩
  have old : ∀ k, tag3 k ≠ 0 -> tag k ≠ 0 ∨ w.heap.size <= k:=λ k hk => (tg3 k hk).elim .inl λ h' => (hin' k h').elim (λ h' => .inl (by rw [hst.1.2 k h']; decide)) λ h' => .inr (by omega)
  refine ⟨(f04.trans fd4 λ _ _ h => h.elim).trans g4 λ k hk h => (old k h).elim id λ h' => by omega, _, tag', by simp only [at_] at g3; exact g3, λ k hk => (g5 k hk).elim (old k) λ h => .inr (by have:=f04.size; omega)⟩
 ·simp [ha]
  exact ⟨f12, v, tag, h2, λ c hc => .inl hc⟩
end
theorem jl_count : ∀ (N : List (List UInt8)), N ≠ [] -> (∀ x ∈ N, (47 : UInt8) ∉ x) -> (jl N).count 47 + 1 = N.length
 | [], h, _ => absurd rfl h
 | [x], _, h => by simp [jl, List.count_eq_zero_of_not_mem (h x (by simp))]
 | x :: y :: r, _, h => by
  have ih:=jl_count (y :: r) (by simp) λ z hz => h z (List.mem_cons_of_mem _ hz)
  rw [jl_cons (x:=x) (by simp)]
  simp only [List.count_append, List.count_eq_zero_of_not_mem (h x (by simp)), List.length_cons] at ih ⊢
  simp
  omega
theorem index_at {x s : List UInt8} (h : (47 : UInt8) ∉ x) : Lib.index (x ++ 47 :: s) [47] = x.length:=by
 rw [Lib.index_one]
 have hge:=Lib.indexByte_ge (x ++ 47 :: s) 47
 have hat : (x ++ 47 :: s)[x.length]? = some 47:=by simp
 obtain ⟨o, ho⟩ : ∃ o : Nat, Lib.indexByte (x ++ 47 :: s) 47 = o:=by
  by_cases hn : Lib.indexByte (x ++ 47 :: s) 47 = -1
  ·exact absurd hat (Lib.indexByte_none hn _)
  ·exact ⟨(Lib.indexByte (x ++ 47 :: s) 47).toNat, by omega⟩
 obtain ⟨h1, h2⟩:=Lib.indexByte_some ho
 have : o = x.length:=by
  rcases Nat.lt_trichotomy o x.length with hlt | he | hgt
  ·rw [List.getElem?_append_left hlt] at h1
   exact absurd (List.mem_of_getElem? h1) h
  ·exact he
  ·exact absurd hat (h2 _ hgt)
 rw [ho, this]
theorem index_no {x : List UInt8} (h : (47 : UInt8) ∉ x) : Lib.index x [47] = -1:=by
 rw [Lib.index_one]
 have hge:=Lib.indexByte_ge x 47
 refine Classical.byContradiction λ hn => ?_
 obtain ⟨h1, _⟩:=Lib.indexByte_some (o:=(Lib.indexByte x 47).toNat) (show Lib.indexByte x 47 = _ by omega)
 exact h (List.mem_of_getElem? h1)
theorem split_join : ∀ (k : Nat) (N : List (List UInt8)), N ≠ [] -> (∀ x ∈ N, (47 : UInt8) ∉ x) -> N.length <= k + 1 -> Lib.splitK [47] 0 k (jl N) = N
 | _, [], h, _, _ => absurd rfl h
 | 0, [x], _, h, _ => by simp [Lib.splitK, jl]
 | 0, x :: y :: r, _, _, hl => by simp at hl
 | k + 1, [x], _, h, _ => by
  unfold Lib.splitK
  rw [show jl [x] = x by simp [jl], index_no (h x (by simp))]
  rfl
 | k + 1, x :: y :: r, _, h, hl => by
  have ih:=split_join k (y :: r) (by simp) (λ z hz => h z (List.mem_cons_of_mem _ hz)) (by simpa using hl)
  unfold Lib.splitK
  rw [jl_cons (x:=x) (by simp)]
  have e : x ++ [47] ++ jl (y :: r) = x ++ 47 :: jl (y :: r):=by simp
  rw [e, index_at (h x (by simp))]
  have hne : ((x.length : Int) == -1) = false:=by simp
  rw [hne]
  have e1 : (x.length : Int).toNat + 0 = x.length:=by omega
  have e2 : (x.length : Int).toNat + ([47] : List UInt8).length = x.length + 1:=by simp
  rw [e1, e2]
  simp only [Bool.false_eq_true, if_false, List.take_left]
  have e3 : (x ++ 47 :: jl (y :: r)).drop (x.length + 1) = jl (y :: r):=by simp
  rw [e3, ih]
theorem map_inj {l l' : List ByteArray} (h : l.map (·.data.toList) = l'.map (·.data.toList)) : l = l':=by
 induction l generalizing l' with
 | nil => cases l' with
  | nil => rfl
  | cons y r => simp at h
 | cons x r ih => cases l' with
  | nil => simp at h
  | cons y r' =>
   simp only [List.map_cons, List.cons.injEq] at h
   rw [ba_ext h.1, ih h.2]
theorem idxS_at {s : ByteArray} {i : Nat} {c : UInt8} (h : s.data.toList[i]? = some c) : idxS (.string s) (.int .i64 i) = some (.int .u8 c.toNat):=by
 have hlt : i < s.size:=(List.getElem?_eq_some_iff.1 h).1
 have e : s[i]? = some c:=by
  rw [getElem?_pos s i hlt]
  obtain ⟨h1, h2⟩:=List.getElem?_eq_some_iff.1 h
  rw [<- h2]; rfl
 simp [idxS, e]
theorem rnamed_run {w : World} (s : ByteArray) : Run (F.rr_named (.string s)) w λ r w' => r = .bool (nameF s) /\ w' = w:=by
 unfold F.rr_named
 have e2 : ByteArray.mk #[46] = dotS:=rfl
 have e3 : ByteArray.mk #[46, 46] = dotsS:=rfl
 rw [e2, e3]
 by_cases h1 : s = E0
 ·have : nameF s = false:=by simp [nameF, h1]
  have hz : (s.size : Int) < 1:=by rw [h1]; decide
  simp [hz, this]
 have hsz : 0 < s.size:=by
  rcases Nat.eq_zero_or_pos s.size with h | h
  ·refine absurd (ba_ext ?_) h1
   have : s.data.toList.length = 0:=h
   rw [List.length_eq_zero_iff.1 this]; rfl
  ·exact h
 have hz : ¬ (s.size : Int) < 1:=by omega
 by_cases h2 : (40 : Int) < s.size
 ·have : nameF s = false:=by
   have : ¬ s.size <= 40:=by omega
   simp [nameF, this]
  simp [hz, h2, ba_eq, this]
 by_cases h3 : s = dotS
 ·have : nameF s = false:=by simp [nameF, h3]
  subst h3
  simp [hz, h2, ba_eq, this]
 by_cases h4 : s = dotsS
 ·have : nameF s = false:=by simp [nameF, h4]
  subst h4
  simp [hz, h2, h3, ba_eq, this]
 simp [hz, h2, h3, h4, ba_eq]
 have h40 : s.size <= 40:=by omega
 refine Run_for s.size (λ i l w'' => l = [.int .i64 i] /\ w'' = w /\ ∀ j (c : UInt8), j < i -> s.data[j]? = some c -> okB c.toNat = true) ⟨rfl, rfl, λ j c hj => absurd hj (Nat.not_lt_zero _)⟩ ?_ ?_
 ·rintro i l w'' hi ⟨rfl, hw'', ih⟩
  rw [hw'']
  have hc : s.data[i]? = some (s.data[i]'hi):=Array.getElem?_eq_getElem hi
  generalize s.data[i]'hi = c at hc
  have e1:=idxS_at (s:=s) (i:=i) (c:=c) (by simpa using hc)
  have hw:=wrap_succ (n:=i) (by omega)
  have hi' : (i : Int) < s.size:=by omega
  simp [hi, hi', e1, hw]
  have step : okB c.toNat = true -> ∀ (j : Nat) (c : UInt8), j < i + 1 -> s.data[j]? = some c -> okB c.toNat = true:=by
   intro h j c' hj hc'
   by_cases hji : j < i
   ·exact ih j c' hji hc'
   ·obtain rfl : j = i:=by omega
    rw [hc] at hc'; cases hc'
    exact h
  have bad : okB c.toNat = false -> nameF s = false:=λ h => by
   have : s.data.toList.all (λ c => okB c.toNat) = false:=by
    rw [List.all_eq_false]
    exact ⟨c, by simpa using Array.mem_of_getElem? hc, by simp [h]⟩
   simp only [nameF, this, Bool.and_false]
  repeat' ((first | refine Run_guard (λ h => ?_) (λ h => ?_) | refine Run_cond (λ h => ?_) (λ h => ?_)) <;> have h':=h <;> simp only [decide_eq_true_eq, decide_eq_false_iff_not, beq_iff_eq, beq_eq_false_iff_ne, ne_eq, Bool.not_eq_true', Bool.not_eq_false'] at h' <;> simp [*])
  all_goals try first
   | exact bad (by simp [okB]; omega)
   | exact step (by simp [okB]; omega)
   | (exfalso; omega)
 ·rintro l w'' ⟨rfl, hw'', ih⟩
  rw [hw'']
  have hall : s.data.toList.all (λ c => okB c.toNat) = true:=by
   rw [List.all_eq_true]
   intro c hc
   obtain ⟨j, hj⟩:=Array.getElem?_of_mem (show c ∈ s.data by simpa using hc)
   exact ih j c (Array.getElem?_eq_some_iff.1 hj).1 hj
  have : nameF s = true:=by simp only [nameF, hall]; simp [h1, h3, h4, h40]
  simp [this]
def pcs : List UInt8 -> List (List UInt8)
 | [] => [[]]
 | c :: r => if c = 47 then [] :: pcs r else match pcs r with
  | p :: ps => (c :: p) :: ps
  | [] => [[c]]
theorem pcs_ne : ∀ r, pcs r ≠ []
 | [] => by simp [pcs]
 | c :: r => by
  unfold pcs
  split
  ·simp
  ·split <;> simp
theorem pcs_jl : ∀ r, jl (pcs r) = r /\ ∀ x ∈ pcs r, (47 : UInt8) ∉ x
 | [] => by simp [pcs, jl]
 | c :: r => by
  obtain ⟨h1, h2⟩:=pcs_jl r
  have hne:=pcs_ne r
  unfold pcs
  by_cases hc : c = 47
  ·rw [if_pos hc, jl_cons hne, h1]
   refine ⟨by simp [hc], λ x hx => ?_⟩
   rcases List.mem_cons.1 hx with rfl | hx
   ·simp
   ·exact h2 x hx
  ·rw [if_neg hc]
   cases hp : pcs r with
   | nil => exact absurd hp hne
   | cons p ps =>
    rw [hp] at h1 h2
    simp only
    refine ⟨?_, λ x hx => ?_⟩
    ·cases ps with
     | nil => simp [jl] at h1 ⊢; rw [h1]
     | cons q t =>
      rw [jl_cons (by simp)] at h1 ⊢
      rw [<- h1]; simp
    ·rcases List.mem_cons.1 hx with rfl | hx
     ·have:=h2 p (by simp)
      simp only [List.mem_cons, not_or]
      exact ⟨λ h => hc h.symm, this⟩
     ·exact h2 x (List.mem_cons_of_mem _ hx)
def pcsB (s : ByteArray) : List ByteArray:=(pcs s.data.toList).map λ l => ⟨l.toArray⟩
theorem pcsB_map (s : ByteArray) : (pcsB s).map (·.data.toList) = pcs s.data.toList:=by
 unfold pcsB
 rw [List.map_map]
 have : ((λ x : ByteArray => x.data.toList) ∘ λ l : List UInt8 => (⟨l.toArray⟩ : ByteArray)) = id:=by funext l; rfl
 rw [this, List.map_id]
theorem parse_pcs {s : ByteArray} (h0 : s ≠ E0) : parseF s = if (pcsB s).length <= 8 /\ (pcsB s).all nameF = true then some (pcsB s) else none:=by
 obtain ⟨hj, hno⟩:=pcs_jl s.data.toList
 have hne:=pcs_ne s.data.toList
 have hc:=jl_count _ hne hno
 rw [hj] at hc
 have hl : (pcsB s).length = (pcs s.data.toList).length:=by unfold pcsB; rw [List.length_map]
 have hparts : partsF s = pcsB s:=by
  apply map_inj
  rw [pcsB_map]
  unfold partsF
  rw [Lib.splitB_data]
  have hcb : Lib.countB s slash = s.data.toList.count 47:=by
   show Lib.count s.data.toList [47] = _
   rw [Lib.count_one]
  rw [hcb]
  conv => lhs; rw [<- hj]
  rw [hj]
  have:=split_join (s.data.toList.count 47) _ hne hno (by omega)
  rw [hj] at this
  exact this
 unfold parseF
 rw [if_neg h0, hparts]
 have hcc : Lib.countByte s.data.toList 47 = s.data.toList.count 47:=rfl
 rw [hcc]
 by_cases h8 : 8 <= s.data.toList.count 47
 ·rw [if_pos h8, if_neg (by omega)]
 ·rw [if_neg h8]
  by_cases hall : (pcsB s).all nameF = true
  ·rw [if_pos hall, if_pos ⟨by omega, hall⟩]
  ·rw [if_neg hall, if_neg (λ h => hall h.2)]
end Go.Proofs.YtojnickeblbgoaaGreatDoor
