/- What the statement rests on: part 4. -/
import Derived.Test.YthlpfhjcdedhgaaGreatDoorSm2
import Derived.ChangeArms
import Derived.Test.YthlpfhjcdedhgaaGreatDoorRows
import Derived.WalkKit
import Derived.ProofKit
import Derived.LaidLaws
import Derived.Lib.LaidTab
namespace Go.Proofs.YthlpfhjcdedhgaaGreatDoor
open Go.Lift Go.Sort
set_option linter.unusedSimpArgs false
set_option linter.unusedVariables false
set_option maxHeartbeats 4000000
section
variable {w w1 w2 : World}
def RowB (A : Nat -> Prop) (w : World) (x : Nat) (v : Value) (l : List UInt8) : Prop:=(l = [] /\ v = .slice none 0 0) ∨
 ∃ (g cap : Nat) (cs : Array Value), v = .slice (some ⟨g, 0, none⟩) l.length cap /\ w.heap[g]? = some (.cells cs 5 (0, 0)) /\ cs.size = cap /\ l.length <= cap /\ (cs.toList.take l.length = l.map λ b => Value.int .u8 b.toNat) /\ ¬ A g /\ x ≠ g
theorem raw_app {A : Nat -> Prop} {x : Nat} {v y : Value} {l s : List UInt8} (h : RowB A w x v l) (hA : ∀ c, A c -> c < w.heap.size) (hx : x < w.heap.size) (hn : lenN y = some s.length) (hf : firstN w 1 s.length y = some (s.map λ b => Value.int .u8 b.toNat))
  (hs : s ≠ []) (hl : l.length + s.length <= 1073741824) : Run (appM 5 1 1 #[.int .u8 0] v y) w λ r w1 => RowB A w1 x r (l ++ s) /\ w1.heap[x]? = w.heap[x]? /\ Fr (λ c => ¬ A c /\ c ≠ x) w w1:=by
 have hs0 : s.length ≠ 0:=by simpa using hs
 have grow : ∀ (cap : Nat) (old : List Value), (∃ a, v = .slice a l.length cap) -> ¬ (l.length + s.length <= cap) -> cap <= 1073741824 -> firstN w 1 l.length v = some old -> old = l.map (λ b => Value.int .u8 b.toNat) -> Run (appM 5 1 1 #[.int .u8 0] v y) w λ r w1 => RowB A w1 x r (l ++ s) /\ w1.heap[x]? = w.heap[x]? /\ Fr (λ c => ¬ A c /\ c ≠ x) w w1:=by
  rintro cap old ⟨a, rfl⟩ hroom hcap ho rfl
  unfold Run appM
  simp only [hn]
  rw [if_neg hroom]
  have hg : Builtin.nextslicecap (l.length + s.length) cap * 1 <= 2 ^ 48:=growslice_fits_wide (by omega) (by omega)
  rw [if_neg (not_or.2 ⟨by decide, Nat.not_lt.2 hg⟩)]
  simp only [ho, hf]
  have hge : l.length + s.length <= (Question.appendCap (l.length + s.length) cap 5).cut (w.tape w.drawn (.appendCap (l.length + s.length) cap 5)):=by simp only [Question.cut]; omega
  generalize (Question.appendCap (l.length + s.length) cap 5).cut (w.tape w.drawn (.appendCap (l.length + s.length) cap 5)) = C at hge
  refine ⟨_, _, rfl, .inr ⟨w.heap.size, C, ((l.map λ b => Value.int .u8 (b.toNat : Int)) ++ s.map λ b => Value.int .u8 (b.toNat : Int)).toArray ++ Builtin.zeroCells #[.int .u8 0] (C - (l.length + s.length)), by rw [List.length_append], ?_, ?_, ?_, ?_, λ h => Nat.lt_irrefl _ (hA _ h), by omega⟩, ?_, ((Fr.refl _ w).drew).alloc _⟩
  ·show (w.heap.push _)[w.heap.size]? = _
   simp
  ·simp [size_zeroCells]
   omega
  ·rw [List.length_append]; exact hge
  ·rw [List.length_append]
   simp only [Array.toList_append]
   rw [List.take_append_of_le_length (by simp), List.take_of_length_le (by simp)]
   simp
  ·show (w.heap.push _)[x]? = _
   rw [Array.getElem?_push, if_neg (by omega)]
 rcases h with ⟨rfl, rfl⟩ | ⟨g, cap, cs, rfl, h1, h2, h3, h4, h5, h6⟩
 ·exact grow 0 [] ⟨_, rfl⟩ (by simp; omega) (by decide) rfl rfl
 ·have hbk : bk w g = some cs.toList:=by unfold bk; rw [h1]
  have hwr : wr w g = true:=by unfold wr; rw [h1]; simp
  have hcl : cs.toList.length = cap:=(Array.length_toList (xs:=cs)).trans h2
  by_cases hroom : l.length + s.length <= cap
  ·unfold Run appM
   simp only [hn]
   rw [if_pos hroom]
   simp only [hf]
   have hst : stN (Addr.add ⟨g, 0, none⟩ (l.length * 1)) (s.map λ b => Value.int .u8 b.toNat) w = some (sto w g l.length (s.map λ b => Value.int .u8 b.toNat)):=by
    simp only [Addr.add_lit, stN, Nat.zero_add, Nat.mul_one]
    rw [if_neg (by simpa using hs)]
    simp only [hbk]
    rw [if_pos ⟨⟨by rw [List.length_map]; omega, byteV_all _⟩, hwr⟩]
   simp only [hst]
   have hfr : Fr (λ c => c = g) w (sto w g l.length (s.map λ b => Value.int .u8 b.toNat)):=(show Fr (λ c => c = g) w w from Fr.refl _ _).sto (.inl rfl) _ _
   refine ⟨_, _, rfl, .inr ⟨g, cap, (setL cs.toList l.length (s.map λ b => Value.int .u8 b.toNat)).toArray, by rw [List.length_append], ?_, ?_, by rw [List.length_append]; exact hroom, ?_, h5, h6⟩, hfr.block x hx h6, hfr.mono λ c hc => hc ▸ ⟨h5, λ e => h6 e.symm⟩⟩
   ·simp only [sto, Array.getElem?_modify, h1, if_true]
    rfl
   ·rw [List.size_toArray, length_setL, hcl]
   ·have:=drop_take_setL (l:=cs.toList) (o:=0) (p:=l.length) (n:=l.length) (vs:=s.map λ b => Value.int .u8 b.toNat) (by rw [List.length_map]; omega) (by omega)
    simp only [List.drop_zero, List.length_map] at this
    rw [List.toList_toArray, List.length_append, this, h4, List.map_append]
  ·by_cases hcap : cap <= 1073741824
   ·refine grow cap _ ⟨_, rfl⟩ hroom hcap ?_ h4
    have:=ldN_bk (o:=0) (n:=l.length) hbk (by omega)
    simp only [firstN, Nat.mul_one]
    rw [this, List.drop_zero]
   ·omega
structure BG (A : Nat -> Prop) (w : World) (x : Nat) (l : List UInt8) : Prop where
 st : (l = [] /\ w.heap[x]? = some (.cells #[.pointer none, .slice none 0 0] 93 (0, 0))) ∨ ∃ v, bk w x = some [PtrB x, v] /\ wr w x = true /\ RowB A w x v l
 new : ¬ A x
 lo : ∀ c, A c -> c < w.heap.size
theorem RowB.frm {A : Nat -> Prop} {x : Nat} {v : Value} {l : List UInt8} (h : RowB A w x v l) (f : Fr (λ _ => False) w w2) : RowB A w2 x v l:=by
 rcases h with h | ⟨g, cap, cs, h1, h2, h3⟩
 ·exact .inl h
 ·exact .inr ⟨g, cap, cs, h1, by rw [f.block g (Array.getElem?_eq_some_iff.1 h2).1 id]; exact h2, h3⟩
theorem BG.frm {A : Nat -> Prop} {x : Nat} {l : List UInt8} (h : BG A w x l) (f : Fr (λ _ => False) w w2) : BG A w2 x l:=by
 refine ⟨?_, h.new, λ c hc => Nat.lt_of_lt_of_le (h.lo c hc) f.size⟩
 rcases h.st with ⟨h1, h2⟩ | ⟨v, h1, h2, h3⟩
 ·exact .inl ⟨h1, by rw [f.block x (Array.getElem?_eq_some_iff.1 h2).1 id]; exact h2⟩
 ·exact .inr ⟨v, f.bk_some h1 id, by rw [f.wr (bk_lt h1) id]; exact h2, h3.frm f⟩
theorem BG.lt {A : Nat -> Prop} {x : Nat} {l : List UInt8} (h : BG A w x l) : x < w.heap.size:=by
 rcases h.st with ⟨h1, h2⟩ | ⟨v, h1, h2, h3⟩
 ·exact (Array.getElem?_eq_some_iff.1 h2).1
 ·exact bk_lt h1
theorem BG.more {A : Nat -> Prop} {x : Nat} {l : List UInt8} (h : BG A w x l) (f : Fr (λ _ => False) w w2) : BG (λ c => A c ∨ (w.heap.size <= c /\ c < w2.heap.size)) w2 x l:=by
 have h2:=h.frm f
 refine ⟨?_, λ hx => hx.elim h.new λ hc => by have:=h.lt; omega, λ c hc => hc.elim (h2.lo c) (·.2)⟩
 rcases h2.st with h1 | ⟨v, h1, h3, h4⟩
 ·exact .inl h1
 ·refine .inr ⟨v, h1, h3, ?_⟩
  have hr : RowB A w x v l:=by
   rcases h.st with ⟨_, e2⟩ | ⟨v', e1, e2, e3⟩
   ·exfalso
    have e3:=f.block x (Array.getElem?_eq_some_iff.1 e2).1 id
    rw [e2] at e3
    unfold bk at h1
    rw [e3] at h1
    simp at h1
   ·have:=f.bk_some e1 id
    rw [h1] at this
    simp only [Option.some.injEq, List.cons.injEq, and_true, true_and] at this
    rw [this]; exact e3
  rcases hr with e | ⟨g, cap, cs, e1, e2, e3, e4, e5, e6, e7⟩
  ·exact .inl e
  ·have hg:=(Array.getElem?_eq_some_iff.1 e2).1
   exact .inr ⟨g, cap, cs, e1, by rw [f.block g hg id]; exact e2, e3, e4, e5, λ hc => hc.elim e6 λ hc => by omega, e7⟩
theorem bgCheck {A : Nat -> Prop} {x : Nat} {l : List UInt8} (h : BG A w x l) {Q : Value -> World -> Prop} (q : ∀ w' v, bk w' x = some [PtrB x, v] -> wr w' x = true -> RowB A w' x v l -> Fr (λ c => ¬ A c) w w' -> Q (.tuple #[]) w') :
  Run (F.strings_Builder_copyCheck (PtrB x)) w Q:=by
 rcases h.st with ⟨rfl, hh⟩ | ⟨v, h1, h2, h3⟩
 ·have h0 : w.cell? ⟨x, 0, none⟩ = some (.pointer none):=by
   unfold World.cell?
   rw [hh]; rfl
  have h1 : w.shape? x = some (93, 2):=by
   unfold World.shape?
   rw [hh]
   rfl
  have h2 : w.frozen? ⟨x, 0, none⟩ = false:=by
   unfold World.frozen?
   rw [hh]
   rfl
  have hlt:=(Array.getElem?_eq_some_iff.1 hh).1
  refine ⟨_, _, ?_, q (w.setCell ⟨x, 0, none⟩ (PtrB x)) (.slice none 0 0) ?_ ?_ (.inl ⟨rfl, rfl⟩) ?_⟩
  ·unfold F.strings_Builder_copyCheck
   simp only [h0, h1, h2, and_self, if_true]
  ·unfold bk World.setCell
   simp only [Array.getElem?_modify, hh, if_true]
   rfl
  ·unfold wr World.setCell
   simp only [Array.getElem?_modify, hh, if_true]
   rfl
  ·have f : Fr (λ c => c = x) w (w.setCell ⟨x, 0, none⟩ (PtrB x)):=by
    refine ⟨rfl, rfl, rfl, ?_, λ b hb hne => ?_⟩
    ·unfold World.setCell
     simp only [Array.size_modify]
     exact Nat.le_refl _
    ·unfold World.setCell
     simp only [Array.getElem?_modify]
     rw [if_neg (λ e => hne e.symm)]
   exact f.mono λ c hc => hc ▸ h.new
 ·exact bldUsed_run h1 (q w v h1 h2 h3 (Fr.refl _ _))
theorem bgStore {A : Nat -> Prop} {x : Nat} {v r : Value} {l : List UInt8} (h1 : bk w x = some [PtrB x, v]) (h2 : wr w x = true) (h3 : RowB A w x r l) (hn : ¬ A x) (hA : ∀ c, A c -> c < w.heap.size) : BG A (sto w x 1 [r]) x l /\ Fr (λ c => c = x) w (sto w x 1 [r]):=by
 have f : Fr (λ c => c = x) w (sto w x 1 [r]):=(show Fr (λ c => c = x) w w from Fr.refl _ _).sto (.inl rfl) _ _
 refine ⟨⟨.inr ⟨r, by rw [bk_sto_same h1]; rfl, by rw [wr_sto]; exact h2, ?_⟩, hn, λ c hc => Nat.lt_of_lt_of_le (hA c hc) f.size⟩, f⟩
 rcases h3 with h | ⟨g, cap, cs, e1, e2, e3, e4, e5, e6, e7⟩
 ·exact .inl h
 ·exact .inr ⟨g, cap, cs, e1, by rw [f.block g (Array.getElem?_eq_some_iff.1 e2).1 (λ e => e7 e.symm)]; exact e2, e3, e4, e5, e6, e7⟩
theorem bk_of_heapEq {x : Nat} (h : w1.heap[x]? = w.heap[x]?) : bk w1 x = bk w x /\ wr w1 x = wr w x:=by
 unfold bk wr
 rw [h]
 exact ⟨rfl, rfl⟩
theorem bgWrite_run {A : Nat -> Prop} {x : Nat} {l s : List UInt8} (h : BG A w x l) (hs : s ≠ []) (hl : l.length + s.length <= 1073741824) :
  Run (F.strings_Builder_WriteString (PtrB x) (.string (sb s))) w λ _ w' => BG A w' x (l ++ s) /\ Fr (λ c => ¬ A c) w w':=by
 unfold F.strings_Builder_WriteString
 rw [Run_bind]
 refine bgCheck h λ w1 v b1 b2 b3 b4 => ?_
 have nck : nilChk (PtrB x) = some (PtrB x):=rfl
 have ld : ld1 (.pointer (some ⟨x, 0 + 1, none⟩)) w1 = some v:=by rw [ld1_ptr, b1]; rfl
 rw [nck, Run_bindO_some, fieldA_ptr, Run_bindO_some, Run_bind, Run_rdM]
 refine ⟨_, ld, ?_⟩
 rw [Run_bind]
 have hf : firstN w1 1 s.length (.string (sb s)) = some (s.map λ b => Value.int .u8 b.toNat):=by
  have he : (sb s).extract 0 s.length = sb s:=by rw [sb_extract, List.take_length, List.drop_zero]
  simp only [firstN, he]
  simp [sb]
 have lo1 : ∀ c, A c -> c < w1.heap.size:=λ c hc => Nat.lt_of_lt_of_le (h.lo c hc) b4.size
 refine (raw_app b3 lo1 (bk_lt b1) (by simp only [lenN, sb_size]) hf hs hl).mono ?_
 rintro r w2 ⟨c1, c2, c3⟩
 obtain ⟨d1, d2⟩:=bk_of_heapEq c2
 rw [b1] at d1
 rw [b2] at d2
 rw [Run_bindO_some, fieldA_ptr, Run_bindO_some, Run_bind]
 have hcell : isCell r = true:=by
  rcases c1 with ⟨_, rfl⟩ | ⟨g, cap, cs, rfl, _⟩ <;> rfl
 have hsz : r.cells = #[r]:=by
  rcases c1 with ⟨_, rfl⟩ | ⟨g, cap, cs, rfl, _⟩ <;> rfl
 rw [Run_stM (by rw [hsz]; rfl) (by rw [hsz]; simp [hcell]) ⟨⟨_, d1, by simp⟩, d2⟩]
 have hst : sto w2 x (0 + 1) r.cells.toList = sto w2 x 1 [r]:=by rw [hsz]
 rw [hst, lenS_string, Run_bindO_some, Run_ret]
 obtain ⟨g1, g2⟩:=bgStore d1 d2 c1 h.new λ c hc => Nat.lt_of_lt_of_le (lo1 c hc) c3.size
 exact ⟨g1, (b4.trans c3 λ _ _ hc => hc.1).trans g2 λ _ _ hc => hc ▸ h.new⟩
theorem bgByte_run {A : Nat -> Prop} {x : Nat} {l : List UInt8} (h : BG A w x l) (c : UInt8) (hl : l.length + 1 <= 1073741824) :
  Run (F.strings_Builder_WriteByte (PtrB x) (by8 c)) w λ _ w' => BG A w' x (l ++ [c]) /\ Fr (λ c => ¬ A c) w w':=by
 unfold F.strings_Builder_WriteByte
 rw [Run_bind]
 refine bgCheck h λ w1 v b1 b2 b3 b4 => ?_
 have nck : nilChk (PtrB x) = some (PtrB x):=rfl
 have ld : ld1 (.pointer (some ⟨x, 0 + 1, none⟩)) w1 = some v:=by rw [ld1_ptr, b1]; rfl
 rw [nck, Run_bindO_some, fieldA_ptr, Run_bindO_some, Run_bind, Run_rdM]
 refine ⟨_, ld, ?_⟩
 rw [Run_bind]
 refine Run_bsl (k:=1) (vs:=[by8 c]) (by rfl) (by intro v hv; simp only [List.mem_singleton] at hv; subst hv; rfl) rfl (by kernel_rfl) λ y w2 hy f2 _ => ?_
 have b3':=b3.frm f2
 have b1':=f2.bk_some b1 id
 have b2' : wr w2 x = true:=by rw [f2.wr (bk_lt b1) id]; exact b2
 have hn : lenN y = some [c].length:=hy.1.lenN
 have hf : firstN w2 1 [c].length y = some ([c].map λ b => Value.int .u8 b.toNat):=by
  have hy1:=hy.1
  obtain ⟨_, a, cp, rfl, _⟩:=hy1
  exact ldN_sl hy.1
 rw [Run_bind]
 have b5 : Fr (λ c => ¬ A c) w w2:=b4.trans f2 λ _ _ hf => hf.elim
 have lo2 : ∀ c, A c -> c < w2.heap.size:=λ c hc => Nat.lt_of_lt_of_le (h.lo c hc) b5.size
 refine (raw_app b3' lo2 (bk_lt b1') hn hf (by simp) (by simp; omega)).mono ?_
 rintro r w3 ⟨c1, c2, c3⟩
 obtain ⟨d1, d2⟩:=bk_of_heapEq c2
 rw [b1'] at d1
 rw [b2'] at d2
 rw [Run_bindO_some, fieldA_ptr, Run_bindO_some, Run_bind]
 have hcell : isCell r = true:=by
  rcases c1 with ⟨_, rfl⟩ | ⟨g, cap, cs, rfl, _⟩ <;> rfl
 have hsz : r.cells = #[r]:=by
  rcases c1 with ⟨_, rfl⟩ | ⟨g, cap, cs, rfl, _⟩ <;> rfl
 rw [Run_stM (by rw [hsz]; rfl) (by rw [hsz]; simp [hcell]) ⟨⟨_, d1, by simp⟩, d2⟩]
 have hst : sto w3 x (0 + 1) r.cells.toList = sto w3 x 1 [r]:=by rw [hsz]
 rw [hst, Run_ret]
 obtain ⟨g1, g2⟩:=bgStore d1 d2 c1 h.new λ c hc => Nat.lt_of_lt_of_le (lo2 c hc) c3.size
 exact ⟨g1, (b5.trans c3 λ _ _ hc => hc.1).trans g2 λ _ _ hc => hc ▸ h.new⟩
theorem bgString_run {A : Nat -> Prop} {x : Nat} {l : List UInt8} (h : BG A w x l) (h0 : l ≠ []) (hl : l.length <= 1073741824) : Run (F.strings_Builder_String (PtrB x)) w λ r w' => r = .string (sb l) /\ Fr (λ c => ¬ A c) w w':=by
 rcases h.st with ⟨h1, _⟩ | ⟨v, h1, h2, h3⟩
 ·exact absurd h1 h0
 rcases h3 with ⟨h3, _⟩ | ⟨g, cap, cs, rfl, e2, e3, e4, e5, e6, e7⟩
 ·exact absurd h3 h0
 refine (bldString_run (cap:=cap) (g:=g) ⟨h1, h2, e7, e4, cs, e2, e3, e5⟩ h0 (by omega)).mono ?_
 rintro _ w' ⟨rfl, f⟩
 exact ⟨rfl, f.mono λ c hc => by rcases hc with rfl | rfl; exact h.new; exact e6⟩
theorem bgNew {Q : Value -> World -> Prop} (q : ∀ x w', BG (λ c => c < w.heap.size) w' x [] -> Fr (λ _ => False) w w' -> Q (PtrB x) w') : Run (newM 93 #[(Value.pointer none), (Value.slice none 0 0)]) w Q:=by
 refine Run_newM.2 (q _ _ ⟨.inl ⟨rfl, ?_⟩, Nat.lt_irrefl _, λ c hc => ?_⟩ ((Fr.refl _ _).alloc _))
 ·show (w.heap.push _)[w.heap.size]? = _
  simp
 ·show c < (w.heap.push _).size
  simp; omega
end
theorem far_ex {α : Type} (p : α -> Bool) : ∀ l : List α, ∃ J, J <= l.length /\ (∀ i a, i < J -> l[i]? = some a -> p a = true) /\ ((J = l.length /\ l.all p = true) ∨ ∃ a, l[J]? = some a /\ p a = false /\ l.all p = false)
 | [] => ⟨0, Nat.le_refl _, λ i a h => absurd h (by omega), .inl ⟨rfl, rfl⟩⟩
 | a :: l => by
  by_cases h : p a = true
  ·obtain ⟨J, h1, h2, h3⟩:=far_ex p l
   refine ⟨J + 1, by rw [List.length_cons]; omega, λ i b hi hb => ?_, ?_⟩
   ·cases i with
    | zero => simp at hb; subst hb; exact h
    | succ i => exact h2 i b (by omega) (by simpa using hb)
   ·rcases h3 with ⟨e, ha⟩ | ⟨b, hb, hp, ha⟩
    ·exact .inl ⟨by rw [List.length_cons, e], by rw [List.all_cons, h, ha]; rfl⟩
    ·exact .inr ⟨b, by simpa using hb, hp, by rw [List.all_cons, ha, Bool.and_false]⟩
  ·exact ⟨0, by omega, λ i b hi => absurd hi (by omega), .inr ⟨a, rfl, by simpa using h, by rw [List.all_cons]; simp [h]⟩⟩
structure Fd where
 word : List UInt8
 lo : Int
 hi : Int
 off : Nat
 fn : Value
def Fd.row (f : Fd) : List Value:=[.string (sb f.word), .int .i64 f.lo, .int .i64 f.hi, f.fn]
def Fd.v (f : Fd) : Value:=.agg #[.string (sb f.word), .int .i64 f.lo, .int .i64 f.hi, f.fn]
structure Fd.Ok (f : Fd) : Prop where
 cls : ∀ (x : Nat) (w : World) (Q : Value -> World -> Prop), Q (.pointer (some ⟨x, f.off, none⟩)) w -> Run (callV F.clos f.fn [.pointer (some ⟨x, 0, none⟩)]) w Q
 cell : f.fn.cells = #[f.fn] /\ isCell f.fn = true
 low : 0 <= f.lo /\ f.hi <= 9007199254740992
 word : f.word ≠ [] /\ f.word.length <= 100 /\ (10 : UInt8) ∉ f.word
def Fd.inR (f : Fd) (g : Nat -> Int) : Bool:=decide (f.lo <= g f.off /\ g f.off <= f.hi)
section
variable {w w1 w2 : World}
theorem Fd.cells {f : Fd} (h : f.Ok) : f.v.cells.size = 4 /\ f.v.cells.toList.all isCell = true /\ f.v.cells.toList = f.row:=by
 have h1:=h.cell.1
 have e : f.v.cells = #[.string (sb f.word), .int .i64 f.lo, .int .i64 f.hi, f.fn]:=rfl
 rw [e]
 refine ⟨rfl, ?_, rfl⟩
 show (true && (true && (true && (isCell f.fn && true)))) = true
 rw [h.cell.2]; rfl
theorem Run_field {β : Type} {t : Value} {fs : List Fd} (ht : Sl 4 w t (fs.map Fd.row)) {i : Nat} {f : Fd} (hf : fs[i]? = some f) (hok : f.Ok) {ty : TypeId} {K : Value -> M β} {Q : β -> World -> Prop}
  (q : ∀ x w', bk w' x = some f.row -> wr w' x = true -> w.heap.size <= x -> Fr (λ _ => False) w w' -> Run (K (.pointer (some ⟨x, 0, none⟩))) w' Q) :
  Run (bindO (idxA 4 t (.int .i64 (i : Int))) λ x4 => M.bind (rdM (ldA 4 x4)) λ x5 => M.bind (newM ty #[(Value.string ByteArray.empty), (Value.int IntKind.i64 0), (Value.int IntKind.i64 0), Value.nilFunc]) λ x6 => M.bind (stM 4 x6 x5) λ _ => K x6) w Q:=by
 obtain ⟨p, p1, p2⟩:=ht.rdA (by decide) (i:=i) (e:=f.row) (by simp [hf]) .i64
 have p1' : idxA 4 t (.int .i64 (i : Int)) = some p:=p1
 rw [p1', Run_bindO_some, Run_bind, Run_rdM]
 refine ⟨_, p2, ?_⟩
 rw [Run_bind]
 refine Run_new λ x w1 hx hw f1 hle => ?_
 obtain ⟨c1, c2, c3⟩:=Fd.cells hok
 have c1' : (Value.agg f.row.toArray).cells.size = 4:=c1
 have c2' : (Value.agg f.row.toArray).cells.toList.all isCell = true:=c2
 rw [Run_bind, Run_stM c1' c2' ⟨⟨_, hx, by simp⟩, hw⟩]
 refine q x _ ?_ (by rw [wr_sto]; exact hw) hle (f1.sto (.inr hle) _ _)
 rw [bk_sto_same hx]
 rfl
theorem ranges_run {t : Value} {fs : List Fd} (ht : Sl 4 w t (fs.map Fd.row)) (hok : ∀ f ∈ fs, f.Ok) {x : Nat} {l : List Value} {g : Nat -> Int} (hx : bk w x = some l) (hg : ∀ f ∈ fs, l[f.off]? = some (.int .i64 (g f.off))) (hn : fs.length <= 1000) :
  Run (F.api_Pointer t (.pointer (some ⟨x, 0, none⟩))) w λ r w' => r = .bool (fs.all λ f => f.inR g) /\ Fr (λ _ => False) w w':=by
 unfold F.api_Pointer
 have hlen:=ht.lenL
 rw [List.length_map] at hlen
 rw [hlen, Run_bindO_some, Run_bind]
 obtain ⟨J, hJ, hgood, hend⟩:=far_ex (λ f : Fd => f.inR g) fs
 have step : ∀ (i : Nat) (f : Fd) (w1 : World), fs[i]? = some f -> Fr (λ _ => False) w w1 -> ∀ {β : Type} {K : Value -> M β} {Q : β -> World -> Prop}, (∀ w', Fr (λ _ => False) w w' -> Run (K (.bool (!f.inR g))) w' Q) ->
   Run (bindO (idxA 4 t (.int .i64 (i : Int))) λ x4 => M.bind (rdM (ldA 4 x4)) λ x5 => M.bind (newM 165 #[(Value.string ByteArray.empty), (Value.int IntKind.i64 0), (Value.int IntKind.i64 0), Value.nilFunc]) λ x6 => M.bind (stM 4 x6 x5) λ _ =>
    bindO (fieldA 3 x6) λ x8 =>
    M.bind (rdM (ld1 x8)) λ x9 =>
    M.bind (callV F.clos x9 [.pointer (some ⟨x, 0, none⟩)]) λ x10 =>
    bindO (nilChk x10) λ x11 =>
    M.bind (rdM (ld1 x11)) λ x12 =>
    bindO (fieldA 1 x6) λ x13 =>
    M.bind (rdM (ld1 x13)) λ x14 =>
    bindO (binV BinOp.lss x12 x14) λ x15 =>
    M.bind (guardM x15 false (M.ret x12)) λ x16 =>
    M.bind (guardM x15 false (optM (fieldA 2 x6))) λ x17 =>
    M.bind (guardM x15 false (rdM (ld1 x17))) λ x18 =>
    M.bind (guardM x15 false (optM (binV BinOp.gtr x16 x18))) λ x19 =>
    bindO (pickV x15 (Value.bool true) x19) K) w1 Q:=by
  intro i f w1 hf f1 β K Q q
  have hfm:=List.mem_of_getElem? hf
  refine Run_field (ht.fr0 f1) hf (hok f hfm) λ y w2 hy hwy hyle f2 => ?_
  have f12:=f1.trans f2 λ _ _ => id
  have hx2:=f12.bk_some hx id
  have ld3 : ld1 (.pointer (some ⟨y, 0 + 3, none⟩)) w2 = some f.fn:=by rw [ld1_ptr, hy]; rfl
  have ld1' : ld1 (.pointer (some ⟨y, 0 + 1, none⟩)) w2 = some (.int .i64 f.lo):=by rw [ld1_ptr, hy]; rfl
  have ld2 : ld1 (.pointer (some ⟨y, 0 + 2, none⟩)) w2 = some (.int .i64 f.hi):=by rw [ld1_ptr, hy]; rfl
  have ldx : ld1 (.pointer (some ⟨x, f.off, none⟩)) w2 = some (.int .i64 (g f.off)):=by rw [ld1_ptr, hx2]; exact hg f hfm
  rw [fieldA_ptr, Run_bindO_some, Run_bind, Run_rdM]
  refine ⟨_, ld3, ?_⟩
  rw [Run_bind]
  refine (hok f hfm).cls x w2 _ ?_
  have nck : nilChk (.pointer (some ⟨x, f.off, none⟩)) = some (.pointer (some ⟨x, f.off, none⟩)):=rfl
  rw [nck, Run_bindO_some, Run_bind, Run_rdM]
  refine ⟨_, ldx, ?_⟩
  rw [fieldA_ptr, Run_bindO_some, Run_bind, Run_rdM]
  refine ⟨_, ld1', ?_⟩
  by_cases h1 : g f.off < f.lo
  ·have hi : f.inR g = false:=by unfold Fd.inR; exact decide_eq_false (by omega)
   rw [hi] at q
   rw [lssT h1, Run_bindO_some]
   simp only [Run_bind, Run_guardM_tf, pickV_bool, cond_true, Run_bindO_some]
   exact q w2 f12
  ·rw [lssF h1, Run_bindO_some]
   simp only [Run_bind, Run_guardM_ff, Run_ret, fieldA_ptr, Run_optM_some, Run_rdM]
   refine ⟨_, ld2, ?_⟩
   by_cases h2 : f.hi < g f.off
   ·have hi : f.inR g = false:=by unfold Fd.inR; exact decide_eq_false (by omega)
    rw [hi] at q
    simp only [binV_int, intBin_gtr, gt_iff_lt, h2, decide_true, Run_optM_some, pickV_bool, cond_false, Run_bindO_some]
    exact q w2 f12
   ·have hi : f.inR g = true:=by unfold Fd.inR; exact decide_eq_true (by omega)
    rw [hi] at q
    simp only [binV_int, intBin_gtr, gt_iff_lt, h2, decide_false, Run_optM_some, pickV_bool, cond_false, Run_bindO_some]
    exact q w2 f12
 refine Run_for J (λ i L w' => L = [.int .i64 (i : Int)] /\ Fr (λ _ => False) w w') ⟨rfl, Fr.refl _ _⟩ ?_ ?_
 ·rintro i L w1 hi ⟨rfl, f1⟩
  obtain ⟨f, hf⟩ : ∃ f, fs[i]? = some f:=⟨_, List.getElem?_eq_getElem (by omega)⟩
  have hil : (i : Int) < fs.length:=by omega
  have wi:=wrap_succ' (n:=i) (by omega)
  rw [getL_zero, lssT hil, Run_bindO_some, Run_condM_true]
  refine step i f w1 hf f1 λ w2 f2 => ?_
  rw [hgood i f hi hf, Bool.not_true, Run_condM_false, binV_int, intBin_add, wi, Run_bindO_some, Run_ret]
  exact ⟨rfl, f2⟩
 ·rintro L w1 ⟨rfl, f1⟩
  rcases hend with ⟨rfl, hall⟩ | ⟨f, hf, hp, hall⟩
  ·have hn : ¬ ((fs.length : Nat) : Int) < fs.length:=by omega
   rw [getL_zero, lssF hn, Run_bindO_some, Run_condM_false, Run_ret]
   simp only [outK_exit]
   rw [show Nat.beq 0 0 = true from rfl, cond_true, Run_ret, hall]
   exact ⟨rfl, f1⟩
  ·have hlt:=(List.getElem?_eq_some_iff.1 hf).1
   have hil : (J : Int) < fs.length:=by omega
   rw [getL_zero, lssT hil, Run_bindO_some, Run_condM_true]
   refine step J f w1 hf f1 λ w2 f2 => ?_
   rw [hp, Bool.not_false, Run_condM_true, Run_ret]
   simp only [outK_ret, Run_ret, hall]
   exact ⟨trivial, f2⟩
end
def SUM : List UInt8:=[115, 117, 109, 32]
def closeL (l : List UInt8) : List UInt8:=l ++ SUM ++ eightL (crcF (sb l)) ++ [10]
def fldL (f : Fd) (n : Nat) : List UInt8:=f.word ++ [32] ++ Lib.decDigits n ++ [10]
def fldsL (fs : List Fd) (g : Nat -> Int) : List UInt8:=(fs.map λ f => fldL f (g f.off).toNat).flatten
section
variable {w w1 w2 : World}
theorem line_run {A : Nat -> Prop} {x : Nat} {l : List UInt8} (h : BG A w x l) {v : Value} {xs : List (List UInt8)} (hv : Sl 1 w v (xs.map λ y => [.string (sb y)])) (hne : joinL (xs.map sb) (sb [32]) ≠ []) (hx : xs.length <= 100) (hs : (joinL (xs.map sb) (sb [32])).length <= 1048576)
  (hsum : ((xs.map sb).map (·.size)).sum <= 1048576) (hl : l.length <= 536870912) :
  Run (F.paper_line (PtrB x) v) w λ _ w' => BG A w' x (l ++ (joinL (xs.map sb) (sb [32]) ++ [10])) /\ Fr (λ c => ¬ A c) w w':=by
 unfold F.paper_line
 have e32 : ByteArray.mk #[32] = sb [32]:=rfl
 rw [e32, Run_bind]
 have hv' : Sl 1 w v ((xs.map sb).map λ y => [.string y]):=by rw [List.map_map]; exact hv
 refine (join2_run hv' (by rw [sb_size]; decide) (by rw [sb_size]; decide) (by omega) (by rw [List.length_map]; omega)).mono ?_
 rintro _ w1 ⟨rfl, f1⟩
 rw [Run_bind]
 refine (bgWrite_run (h.frm f1) hne (by omega)).mono ?_
 rintro _ w2 ⟨h2, f2⟩
 rw [Run_bind]
 have e10 : Value.int IntKind.u8 10 = by8 10:=rfl
 rw [e10]
 refine (bgByte_run h2 10 (by rw [List.length_append]; omega)).mono ?_
 rintro _ w3 ⟨h3, f3⟩
 rw [Run_ret]
 rw [List.append_assoc] at h3
 exact ⟨h3, ((f1.mono λ _ hc => hc.elim).trans f2 λ _ _ hc => hc).trans f3 λ _ _ hc => hc⟩
theorem closed_run {A : Nat -> Prop} {x : Nat} {l : List UInt8} (ht : Tb w) (h : BG A w x l) (h0 : l ≠ []) (hl : l.length <= 536870912) (hA : ∀ c, c < 11 -> A c) :
  Run (F.paper_closed (PtrB x)) w λ r w' => r = .string (sb (closeL l)) /\ Fr (λ c => ¬ A c) w w':=by
 unfold F.paper_closed
 rw [Run_bind]
 refine (bgString_run h h0 (by omega)).mono ?_
 rintro _ w1 ⟨rfl, f1⟩
 have t1:=ht.fr f1 λ c hc hn => hn (hA c hc)
 have eS : ByteArray.mk #[115, 117, 109, 32] = sb SUM:=rfl
 have e10 : ByteArray.mk #[10] = sb [10]:=rfl
 have lS : SUM.length = 4:=rfl
 have a1:=sbAdd (a:=l) (c:=SUM) (by omega)
 rw [eS, a1, Run_bindO_some, Run_bind]
 refine Run_bsl (k:=1) (vs:=[.string (sb l)]) (by rfl) (by intro v hv; simp only [List.mem_singleton] at hv; subst hv; rfl) rfl (by kernel_rfl) λ r w2 hr f2 _ => ?_
 have t2:=t1.fr0 f2
 rw [Run_bind]
 refine (crc_run t2.nib hr.1 (by rw [sb_size]; omega)).mono ?_
 rintro _ w3 ⟨rfl, rfl⟩
 rw [Run_bind]
 refine (hex8_run t2.bits (crcF_lt _)).mono ?_
 rintro _ w4 ⟨rfl, f4⟩
 have l8 : (eightL (crcF (sb l))).length = 8:=lowD_len _ _
 have eE : eightS (crcF (sb l)) = sb (eightL (crcF (sb l))):=rfl
 have a2:=sbAdd (a:=l ++ SUM) (c:=eightL (crcF (sb l))) (by rw [List.length_append]; omega)
 have a3:=sbAdd (a:=l ++ SUM ++ eightL (crcF (sb l))) (c:=[10]) (by rw [List.length_append, List.length_append, List.length_singleton]; omega)
 rw [eE, a2, Run_bindO_some, e10, a3, Run_bindO_some, Run_ret]
 exact ⟨rfl, (f1.trans f2 λ _ _ hc => hc.elim).trans f4 λ _ _ hc => hc.elim⟩
theorem join_two (a b : List UInt8) : joinL ([a, b].map sb) (sb [32]) = a ++ [32] ++ b:=by simp [joinL, sb]
theorem join_one (a : List UInt8) : joinL ([a].map sb) (sb [32]) = a:=by simp [joinL, sb]
theorem write_run {A : Nat -> Prop} {b : Nat} {l0 : List UInt8} {t : Value} {fs : List Fd} (hB : BG A w b l0) (htb : Tb w) (hA : ∀ c, c < 11 -> A c) (htA : ∀ c, inB t c -> A c) (ht : Sl 4 w t (fs.map Fd.row)) (hok : ∀ f ∈ fs, f.Ok) {x : Nat} {l : List Value} {g : Nat -> Int} (hx : bk w x = some l) (hxA : A x) (hg : ∀ f ∈ fs, l[f.off]? = some (.int .i64 (g f.off)))
  (hr : ∀ f ∈ fs, f.inR g = true) (hn : fs.length <= 100) (hl : l0.length <= 1048576) :
  Run (F.api_Pointer_64 (PtrB b) t (.pointer (some ⟨x, 0, none⟩))) w λ _ w' => BG A w' b (l0 ++ fldsL fs g) /\ Fr (λ c => ¬ A c) w w':=by
 unfold F.api_Pointer_64
 have hlen:=ht.lenL
 rw [List.length_map] at hlen
 rw [hlen, Run_bindO_some, Run_bind]
 have hdec : ∀ f ∈ fs, (Lib.decDigits (g f.off).toNat).length <= 20 /\ (fldL f (g f.off).toNat).length <= 122 /\ 0 <= g f.off /\ (g f.off).toNat < 9223372036854775808:=λ f hf => by
  have h1:=hr f hf
  unfold Fd.inR at h1
  have h2:=of_decide_eq_true h1
  have h3:=(hok f hf).low
  have h4:=(hok f hf).word.2.1
  have h5:=dec_len (n:=(g f.off).toNat) (by omega)
  refine ⟨h5, ?_, by omega, by omega⟩
  simp only [fldL, List.length_append, List.length_singleton]
  omega
 have hfl : ∀ i, (fldsL (fs.take i) g).length <= i * 122:=λ i => by
  have : ∀ (l : List Fd), (∀ f ∈ l, f ∈ fs) -> (fldsL l g).length <= l.length * 122:=λ l => by
   induction l with
   | nil => intro _; simp [fldsL]
   | cons f l ih =>
    intro hm
    have h1:=ih λ f hf => hm f (List.mem_cons_of_mem _ hf)
    have h2:=(hdec f (hm f (by simp))).2.1
    simp only [fldsL, List.map_cons, List.flatten_cons, List.length_append, List.length_cons] at h1 ⊢
    omega
  have h1:=this (fs.take i) λ f hf => List.mem_of_mem_take hf
  have h2 : (fs.take i).length * 122 <= i * 122:=Nat.mul_le_mul_right _ (List.length_take_le i fs)
  omega
 refine Run_for fs.length (λ i L w' => L = [.int .i64 (i : Int)] /\ BG A w' b (l0 ++ fldsL (fs.take i) g) /\ Fr (λ c => ¬ A c) w w') ⟨rfl, by simpa [fldsL] using hB, Fr.refl _ _⟩ ?_ ?_
 ·rintro i L w1 hi ⟨rfl, hB1, f1⟩
  have ht1:=ht.fr f1 λ c hc hn => hn (htA c hc)
  have hx1:=f1.bk_some hx λ hn => hn hxA
  have tb1:=htb.fr f1 λ c hc hn => hn (hA c hc)
  obtain ⟨f, hf⟩ : ∃ f, fs[i]? = some f:=⟨_, List.getElem?_eq_getElem (by omega)⟩
  have hfm:=List.mem_of_getElem? hf
  have hil : (i : Int) < fs.length:=by omega
  have wi:=wrap_succ' (n:=i) (by omega)
  obtain ⟨d1, d2, d3, d4⟩:=hdec f hfm
  have hsnoc : fldsL (fs.take (i + 1)) g = fldsL (fs.take i) g ++ fldL f (g f.off).toNat:=by
   rw [take_snocP hf]; simp [fldsL]
  rw [getL_zero, lssT hil, Run_bindO_some, Run_condM_true]
  refine Run_field ht1 hf (hok f hfm) λ y w2 hy hwy hyle f2 => ?_
  rw [Run_drewM, Run_getM, fieldA_ptr, Run_bindO_some, Run_bind, Run_rdM]
  have f2d : Fr (λ _ => False) w1 w2.drew:=f2.drew
  have hyd : bk w2.drew y = some f.row:=hy
  generalize w2.drew = w3 at *
  have ld0 : ld1 (.pointer (some ⟨y, 0 + 0, none⟩)) w3 = some (.string (sb f.word)):=by rw [ld1_ptr, hyd]; rfl
  have ld3 : ld1 (.pointer (some ⟨y, 0 + 3, none⟩)) w3 = some f.fn:=by rw [ld1_ptr, hyd]; rfl
  refine ⟨_, ld0, ?_⟩
  rw [fieldA_ptr, Run_bindO_some, Run_bind, Run_rdM]
  refine ⟨_, ld3, ?_⟩
  rw [Run_bind]
  refine (hok f hfm).cls x w3 _ ?_
  rw [Run_getM]
  have nck : nilChk (.pointer (some ⟨x, f.off, none⟩)) = some (.pointer (some ⟨x, f.off, none⟩)):=rfl
  have ldx : ld1 (.pointer (some ⟨x, f.off, none⟩)) w3 = some (.int .i64 (g f.off)):=by rw [ld1_ptr, f2d.bk_some hx1 id]; exact hg f hfm
  rw [nck, Run_bindO_some, Run_bind, Run_rdM]
  refine ⟨_, ldx, ?_⟩
  have hgn : g f.off = (((g f.off).toNat : Nat) : Int):=(Int.toNat_of_nonneg d3).symm
  rw [Run_bind]
  have hit:=itoa_run (tb1.fr0 f2d) (n:=(g f.off).toNat) d4
  rw [<- hgn] at hit
  refine hit.mono ?_
  rintro _ w4 ⟨rfl, f4⟩
  rw [Run_getM, Run_bind]
  have hy4:=f4.bk_some hyd id
  have ld4 : ld1 (.pointer (some ⟨y, 0 + 0, none⟩)) w4 = some (.string (sb f.word)):=by rw [ld1_ptr, hy4]; rfl
  refine Run_bsl (k:=1) (vs:=[.string (sb f.word), .string (itoaS (g f.off).toNat)]) (by rfl) (by intro v hv; simp only [List.mem_cons, List.not_mem_nil, or_false] at hv; rcases hv with rfl | rfl <;> rfl) rfl (by kernel_rfl) λ r w5 hr f5 _ => ?_
  rw [Run_getM, Run_bind]
  have f15:=(f2d.trans f4 λ _ _ => id).trans f5 λ _ _ => id
  have hB5:=hB1.frm f15
  have hwl:=(hok f hfm).word
  have hi122:=hfl i
  have hjl : (f.word ++ [32] ++ Lib.decDigits (g f.off).toNat).length <= 121:=by simp only [List.length_append, List.length_singleton]; omega
  refine (line_run hB5 (xs:=[f.word, Lib.decDigits (g f.off).toNat]) hr.1 (by rw [join_two]; simp) (by simp) (by rw [join_two]; omega) ?_ ?_).mono ?_
  ·simp only [List.map_cons, List.map_nil, List.sum_cons, List.sum_nil, sb_size]
   omega
  ·rw [List.length_append]
   omega
  ·rintro _ w6 ⟨h6, f6⟩
   rw [Run_getM, Run_reqM, Run_reqM]
   refine ⟨ld0, ld4, ?_⟩
   rw [binV_int, intBin_add, wi, Run_bindO_some, Run_ret]
   rw [join_two] at h6
   rw [hsnoc]
   refine ⟨rfl, ?_, (f1.trans f15 λ _ _ hc => hc.elim).trans f6 λ _ _ hc => hc⟩
   rw [List.append_assoc] at h6
   exact h6
 ·rintro L w1 ⟨rfl, hB1, f1⟩
  rw [List.take_length] at hB1
  have hn : ¬ ((fs.length : Nat) : Int) < fs.length:=by omega
  rw [getL_zero, lssF hn, Run_bindO_some, Run_condM_false, Run_ret]
  simp only [outK_exit]
  rw [show Nat.beq 0 0 = true from rfl, cond_true, Run_ret]
  exact ⟨hB1, f1⟩
end
def Nt.at (n : Nt) (i : Nat) : Int:=match i with
 | 0 => n.k
 | 1 => n.f
 | 2 => n.u
 | _ => n.c
section
variable {w w1 w2 : World}
theorem rclosed_run (l : List UInt8) (hl : l.length <= 1073741824) : Run (F.granaryref4_closed (.string (sb l))) w λ r w' => r = .string (sb (closeL l)) /\ Fr (λ _ => False) w w':=by
 unfold F.granaryref4_closed
 have eS : ByteArray.mk #[115, 117, 109, 32] = sb SUM:=rfl
 have e10 : ByteArray.mk #[10] = sb [10]:=rfl
 have lS : SUM.length = 4:=rfl
 have a1:=sbAdd (a:=l) (c:=SUM) (by omega)
 rw [eS, a1, Run_bindO_some, Run_bind]
 refine (rcrc_run (sb l) (by rw [sb_size]; omega)).mono ?_
 rintro _ w1 ⟨rfl, rfl⟩
 rw [Run_bind]
 refine (eight_run _ (crcF_lt _)).mono ?_
 rintro _ w2 ⟨rfl, f2⟩
 have l8 : (eightL (crcF (sb l))).length = 8:=lowD_len _ _
 have eE : eightS (crcF (sb l)) = sb (eightL (crcF (sb l))):=rfl
 have a2:=sbAdd (a:=l ++ SUM) (c:=eightL (crcF (sb l))) (by rw [List.length_append]; omega)
 have a3:=sbAdd (a:=l ++ SUM ++ eightL (crcF (sb l))) (c:=[10]) (by rw [List.length_append, List.length_append, List.length_singleton]; omega)
 rw [eE, a2, Run_bindO_some, e10, a3, Run_bindO_some, Run_ret]
 exact ⟨rfl, f2⟩
end
def fldO (f : Fd) (l : List UInt8) : Option Nat:=if (f.word ++ [32]) <+: l then numF (l.drop (f.word ++ [32]).length) else none
def putF : List (Fd × List UInt8) -> List Value -> List Value
 | [], l => l
 | z :: r, l => putF r (l.set z.1.off (.int .i64 (((fldO z.1 z.2).getD 0 : Nat) : Int)))
theorem putF_snoc : ∀ (a : List (Fd × List UInt8)) (z : Fd × List UInt8) (l : List Value), putF (a ++ [z]) l = (putF a l).set z.1.off (.int .i64 (((fldO z.1 z.2).getD 0 : Nat) : Int))
 | [], z, l => rfl
 | y :: a, z, l => by rw [List.cons_append]; unfold putF; rw [putF_snoc a z]
theorem putF_len : ∀ (a : List (Fd × List UInt8)) (l : List Value), (putF a l).length = l.length
 | [], l => rfl
 | y :: a, l => by unfold putF; rw [putF_len a, List.length_set]
theorem hasPrefix_iff {s p : List UInt8} : Lib.hasPrefix s p = decide (p <+: s):=by
 unfold Lib.hasPrefix
 rw [Bool.eq_iff_iff, List.isPrefixOf_iff_prefix, decide_eq_true_iff]
theorem trim_of {s p : List UInt8} (h : p <+: s) : Lib.trimPrefix s p = s.drop p.length:=by
 unfold Lib.trimPrefix
 rw [hasPrefix_iff, decide_eq_true h, if_pos rfl]
section
variable {w w1 w2 : World}
theorem cutp_run (s p : List UInt8) : F.strings_CutPrefix (.string (sb s)) (.string (sb p)) w = some (.tuple #[.string (sb (Lib.trimPrefix s p)), .bool (decide (p <+: s))], w):=by
 unfold F.strings_CutPrefix
 show some (Value.tuple #[.string (sb (Lib.trimPrefix s p)), .bool (Lib.hasPrefix s p)], w) = _
 rw [hasPrefix_iff]
theorem numberOf_run {f : Fd} {l : List UInt8} (hl : l.length <= 4611686018427387904) (hw : f.word.length <= 100) : Run (F.paper_numberOf (.string (sb l)) (.string (sb f.word))) w λ r w' => r = numV (fldO f l) /\ Fr (λ _ => False) w w':=by
 unfold F.paper_numberOf
 have e32 : ByteArray.mk #[32] = sb [32]:=rfl
 have a1:=sbAdd (a:=f.word) (c:=[32]) (by simp; omega)
 have hnv : ∀ b, notV (.bool b) = some (.bool !b):=λ _ => rfl
 have y0 : ∀ v x, extV 0 (.tuple #[v, x]) = some v:=λ _ _ => rfl
 have y1 : ∀ v x, extV 1 (.tuple #[v, x]) = some x:=λ _ _ => rfl
 rw [e32, a1, Run_bindO_some, Run_bind]
 refine ⟨_, _, cutp_run l (f.word ++ [32]), ?_⟩
 show Run (bindO (extV 0 (.tuple #[.string (sb (Lib.trimPrefix l (f.word ++ [32]))), .bool (decide ((f.word ++ [32]) <+: l))])) _) w _
 rw [y0, Run_bindO_some, y1, Run_bindO_some, hnv, Run_bindO_some]
 unfold fldO
 by_cases h : (f.word ++ [32]) <+: l
 ·rw [decide_eq_true h, Bool.not_true, Run_condM_false, Run_bind, trim_of h, if_pos h]
  refine (number_run _ (by rw [List.length_drop]; omega)).mono ?_
  rintro _ w1 ⟨rfl, f1⟩
  have e : ∀ o, extV 0 (numV o) = some (.int .i64 ((o.getD 0 : Nat) : Int)):=λ _ => rfl
  have e' : ∀ o, extV 1 (numV o) = some (.bool o.isSome):=λ _ => rfl
  rw [e, Run_bindO_some, e', Run_bindO_some, Run_ret]
  exact ⟨rfl, f1⟩
 ·rw [decide_eq_false h, Bool.not_false, Run_condM_true, Run_ret, if_neg h]
  exact ⟨rfl, Fr.refl _ _⟩
theorem parseF_run {t v : Value} {fs : List Fd} {N : List (List UInt8)} (ht : Sl 4 w t (fs.map Fd.row)) (hv : Sl 1 w v (N.map λ s => [.string (sb s)])) (hok : ∀ f ∈ fs, f.Ok) {x : Nat} {l : List Value} (hx : bk w x = some l) (hxw : wr w x = true)
  (hoff : ∀ f ∈ fs, f.off < l.length) (hn : fs.length <= 1000) (hN : N.length <= 4611686018427387904) (hNl : ∀ s ∈ N, s.length <= 4611686018427387904) (htx : ¬ inB t x) (hvx : ¬ inB v x) :
  Run (F.api_Pointer_65 v t (.pointer (some ⟨x, 0, none⟩))) w λ r w' => r = .bool (decide (N.length = fs.length) && (fs.zip N).all λ z => (fldO z.1 z.2).isSome) /\
   (∃ l', bk w' x = some l' /\ wr w' x = true /\ l'.length = l.length /\ ((decide (N.length = fs.length) && (fs.zip N).all λ z => (fldO z.1 z.2).isSome) = true -> l' = putF (fs.zip N) l)) /\ Fr (λ c => c = x) w w':=by
 unfold F.api_Pointer_65
 have hlen:=ht.lenL
 have hlv:=hv.lenL
 rw [List.length_map] at hlen hlv
 rw [hlv, Run_bindO_some, hlen, Run_bindO_some, binV_int, intBin_neq, Run_bindO_some]
 by_cases hlen2 : N.length = fs.length
 case neg =>
  have h' : ¬ ((N.length : Nat) : Int) = fs.length:=by omega
  have hf : (!decide (((N.length : Nat) : Int) = fs.length)) = true:=by simp [h']
  rw [hf, Run_condM_true, Run_ret, decide_eq_false hlen2, Bool.false_and]
  exact ⟨rfl, ⟨l, hx, hxw, rfl, λ h => Bool.noConfusion h⟩, Fr.refl _ _⟩
 have h' : ((N.length : Nat) : Int) = fs.length:=by omega
 have hf : (!decide (((N.length : Nat) : Int) = fs.length)) = false:=by simp [h']
 rw [hf, Run_condM_false, Run_bindO_some, Run_bind, decide_eq_true hlen2, Bool.true_and]
 have hzl : (fs.zip N).length = fs.length:=by rw [List.length_zip]; omega
 obtain ⟨J, hJ, hgood, hend⟩:=far_ex (λ z : Fd × List UInt8 => (fldO z.1 z.2).isSome) (fs.zip N)
 rw [hzl] at hJ
 have step : ∀ (i : Nat) (z : Fd × List UInt8) (w1 : World), (fs.zip N)[i]? = some z -> Fr (λ c => c = x) w w1 -> ∀ {β : Type} {K : Value -> Value -> Value -> M β} {Q : β -> World -> Prop}, (∀ y w', bk w' y = some z.1.row -> Fr (λ _ => False) w1 w' -> Run (K (.int .i64 (((fldO z.1 z.2).getD 0 : Nat) : Int)) (.bool (fldO z.1 z.2).isSome) (.pointer (some ⟨y, 0, none⟩))) w' Q) ->
   Run (bindO (idxA 4 t (.int .i64 (i : Int))) λ x4 => M.bind (rdM (ldA 4 x4)) λ x5 => M.bind (newM 165 #[(Value.string ByteArray.empty), (Value.int IntKind.i64 0), (Value.int IntKind.i64 0), Value.nilFunc]) λ x9 => M.bind (stM 4 x9 x5) λ _ =>
    drewM <|
    bindO (idxA 1 v (.int .i64 (i : Int))) λ x11 =>
    M.bind (rdM (ld1 x11)) λ x12 =>
    bindO (fieldA 0 x9) λ x13 =>
    M.bind (rdM (ld1 x13)) λ x14 =>
    M.bind (F.paper_numberOf x12 x14) λ x15 =>
    bindO (extV 0 x15) λ x16 =>
    bindO (extV 1 x15) λ x17 => K x16 x17 x9) w1 Q:=by
  intro i z w1 hz f1 β K Q q
  obtain ⟨hz1, hz2⟩:=List.getElem?_zip_eq_some.1 hz
  have hfm:=List.mem_of_getElem? hz1
  have hsm:=List.mem_of_getElem? hz2
  refine Run_field (ht.fr f1 λ c hc he => htx (he ▸ hc)) hz1 (hok _ hfm) λ y w2 hy hwy hyle f2 => ?_
  rw [Run_drewM]
  have f2d : Fr (λ _ => False) w1 w2.drew:=f2.drew
  have hyd : bk w2.drew y = some z.1.row:=hy
  generalize w2.drew = w3 at *
  have hv3:=(hv.fr f1 λ c hc he => hvx (he ▸ hc)).fr0 f2d
  obtain ⟨p, p1, p2⟩:=hv3.rd1 (i:=i) (y:=.string (sb z.2)) (by simp [hz2]) .i64
  have p1' : idxA 1 v (.int .i64 (i : Int)) = some p:=p1
  have ld0 : ld1 (.pointer (some ⟨y, 0 + 0, none⟩)) w3 = some (.string (sb z.1.word)):=by rw [ld1_ptr, hyd]; rfl
  rw [p1', Run_bindO_some, Run_bind, Run_rdM]
  refine ⟨_, p2, ?_⟩
  rw [fieldA_ptr, Run_bindO_some, Run_bind, Run_rdM]
  refine ⟨_, ld0, ?_⟩
  rw [Run_bind]
  refine (numberOf_run (hNl _ hsm) (hok _ hfm).word.2.1).mono ?_
  rintro _ w4 ⟨rfl, f4⟩
  have e : ∀ o, extV 0 (numV o) = some (.int .i64 ((o.getD 0 : Nat) : Int)):=λ _ => rfl
  have e' : ∀ o, extV 1 (numV o) = some (.bool o.isSome):=λ _ => rfl
  rw [e, Run_bindO_some, e', Run_bindO_some]
  exact q y w4 (f4.bk_some hyd id) (f2d.trans f4 λ _ _ => id)
 have hnv : ∀ b, notV (.bool b) = some (.bool !b):=λ _ => rfl
 refine Run_for J (λ i L w' => L = [.int .i64 (i : Int)] /\ bk w' x = some (putF ((fs.zip N).take i) l) /\ wr w' x = true /\ Fr (λ c => c = x) w w') ⟨rfl, hx, hxw, Fr.refl _ _⟩ ?_ ?_
 ·rintro i L w1 hi ⟨rfl, hb1, hw1, f1⟩
  obtain ⟨z, hz⟩ : ∃ z, (fs.zip N)[i]? = some z:=⟨_, List.getElem?_eq_getElem (by omega)⟩
  obtain ⟨hz1, hz2⟩:=List.getElem?_zip_eq_some.1 hz
  have hfm:=List.mem_of_getElem? hz1
  have hil : (i : Int) < fs.length:=by omega
  have wi:=wrap_succ' (n:=i) (by omega)
  rw [getL_zero, lssT hil, Run_bindO_some, Run_condM_true]
  refine step i z w1 hz f1 λ y w2 hy f2 => ?_
  have hy3 : ld1 (.pointer (some ⟨y, 0 + 3, none⟩)) w2 = some z.1.fn:=by rw [ld1_ptr, hy]; rfl
  rw [hgood i z hi hz, hnv, Run_bindO_some, Bool.not_true, Run_condM_false, fieldA_ptr, Run_bindO_some, Run_bind, Run_rdM]
  refine ⟨_, hy3, ?_⟩
  rw [Run_bind]
  refine (hok _ hfm).cls x w2 _ ?_
  have nck : nilChk (.pointer (some ⟨x, z.1.off, none⟩)) = some (.pointer (some ⟨x, z.1.off, none⟩)):=rfl
  have hb2:=f2.bk_some hb1 id
  have hw2 : wr w2 x = true:=by rw [f2.wr (bk_lt hb1) id]; exact hw1
  have ho:=hoff _ hfm
  rw [nck, Run_bindO_some, Run_bind, Run_stM (by rfl) (by rfl) ⟨⟨_, hb2, by rw [putF_len]; show z.1.off + 1 <= _; omega⟩, hw2⟩, binV_int, intBin_add, wi, Run_bindO_some, Run_ret]
  refine ⟨rfl, ?_, by rw [wr_sto]; exact hw2, (f1.trans f2 λ _ _ h => h.elim).sto (.inl rfl) _ _⟩
  rw [bk_sto_same hb2, take_snocP hz, putF_snoc]
  rfl
 ·rintro L w1 ⟨rfl, hb1, hw1, f1⟩
  rcases hend with ⟨hJe, hall⟩ | ⟨z, hz, hp, hall⟩
  ·have hJf : J = fs.length:=by omega
   have hn : ¬ (J : Int) < fs.length:=by omega
   rw [getL_zero, lssF hn, Run_bindO_some, Run_condM_false, Run_ret]
   simp only [outK_exit]
   rw [show Nat.beq 0 0 = true from rfl, cond_true, Run_ret]
   rw [hJe, List.take_length] at hb1
   exact ⟨by rw [hall], ⟨_, hb1, hw1, putF_len _ _, λ _ => rfl⟩, f1⟩
  ·have hlt:=(List.getElem?_eq_some_iff.1 hz).1
   have hil : (J : Int) < fs.length:=by omega
   rw [getL_zero, lssT hil, Run_bindO_some, Run_condM_true]
   refine step J z w1 hz f1 λ y w2 hy f2 => ?_
   rw [hp, hnv, Run_bindO_some, Bool.not_false, Run_condM_true, Run_ret]
   simp only [outK_ret, Run_ret]
   exact ⟨by rw [hall], ⟨_, f2.bk_some hb1 id, by rw [f2.wr (bk_lt hb1) id]; exact hw1, putF_len _ _, λ h => by rw [hall] at h; cases h⟩, f1.trans f2 λ _ _ h => h.elim⟩
end
def okF (s title : List UInt8) : Bool:=decide (SUM <+: ((spl 10 s).getLast?).getD []) && (sumF ((((spl 10 s).getLast?).getD []).drop 4)).isSome && decide ((spl 10 s).head? = some title)
section
variable {w w1 w2 : World}
theorem sub13 {q : Nat} (h : 13 <= q) (h2 : q < 9223372036854775808) : IntKind.i64.wrap ((q : Int) - 13) = ((q - 13 : Nat) : Int):=by
 rw [show (q : Int) - 13 = ((q - 13 : Nat) : Int) by omega]
 exact i64W (by omega)
theorem sl_mid {k : Nat} {v : Value} {els : List (List Value)} (h : Sl k w v els) {a b : Nat} (hab : a <= b) (hb : b <= els.length) (kd : IntKind) : ∃ v', sliceV k v (some (.int kd a)) (some (.int kd b)) = some v' /\ Sl k w v' ((els.take b).drop a) /\ ∀ c, inB v' c -> inB v c:=by
 obtain ⟨h1, ad, c, rfl, h2, h3⟩:=h
 have ht : Sl k w (.slice ad (els.take b).length c) (els.take b):=by
  refine ⟨λ x hx => h1 x (List.mem_of_mem_take hx), ad, c, rfl, by rw [List.length_take]; omega, ?_⟩
  rcases h3 with h3 | ⟨bl, o, l, rfl, h4, h5, h6⟩
  ·exact .inl h3
  ·refine .inr ⟨bl, o, l, rfl, h4, h5, ?_⟩
   have hfl:=flat_len h1
   have e : (els.take b).flatten = els.flatten.take (b * k):=by
    have hsp : els.flatten = (els.take b).flatten ++ (els.drop b).flatten:=by rw [<- List.flatten_append, List.take_append_drop]
    have hlt : (els.take b).flatten.length = b * k:=by
     rw [flat_len λ x hx => h1 x (List.mem_of_mem_take hx), List.length_take, Nat.min_eq_left hb]
    rw [hsp, List.take_append_of_le_length (by omega), List.take_of_length_le (Nat.le_of_eq hlt)]
   rw [e, <- h6, List.take_take, List.length_take, Nat.min_eq_left hb, Nat.min_eq_left (Nat.mul_le_mul_right _ hb)]
 obtain ⟨v', e1, e2, e3⟩:=ht.drop (n:=a) (by rw [List.length_take]; omega) kd
 refine ⟨v', ?_, e2, λ c hc => by have:=e3 c hc; cases ad <;> exact this⟩
 rw [<- e1, List.length_take, Nat.min_eq_left hb]
 have hbc : boundV (.int kd (b : Int)) c = some b:=bound_at (by omega)
 simp only [sliceV, highV, hbc]
structure OpenP (w w' : World) (s title : List UInt8) (r : Value) : Prop where
 val : ∃ v right, r = .tuple #[v, .bool right, .bool (okF s title)] /\ (okF s title = true -> right = decide (sumF ((((spl 10 s).getLast?).getD []).drop 4) = some (crcF (sb ((s ++ [10]).take ((s ++ [10]).length - 13))))) /\
  Sl 1 w' v ((((spl 10 s).take ((spl 10 s).length - 1)).drop 1).map λ x => [.string (sb x)]) /\ ∀ c, inB v c -> w.heap.size <= c /\ c < w'.heap.size)
 fr : Fr (λ _ => False) w w'
theorem open_no {t title : List UInt8} (ht : ¬ [10] <:+ t) (hl : t.length <= 4294960000) : Run (F.paper_open (.string (sb t)) (.string (sb title))) w λ r w' => r = .tuple #[.slice none 0 0, .bool false, .bool false] /\ w' = w:=by
 unfold F.paper_open
 have e10 : ByteArray.mk #[10] = sb [10]:=rfl
 have hs : F.strings_HasSuffix (.string (sb t)) (.string (sb [10])) w = some (.bool false, w):=by
  unfold F.strings_HasSuffix
  simp only
  rw [if_pos (by rw [sb_size]; omega)]
  show some (Value.bool (([10] : List UInt8).isSuffixOf t), w) = _
  have : ([10] : List UInt8).isSuffixOf t = false:=by
   rw [Bool.eq_false_iff]
   exact λ h => ht (List.isSuffixOf_iff_suffix.1 h)
  rw [this]
 have hnv : ∀ b, notV (.bool b) = some (.bool !b):=λ _ => rfl
 rw [e10, Run_bind]
 refine ⟨_, _, hs, ?_⟩
 show Run (bindO (notV (.bool false)) _) w _
 rw [hnv, Run_bindO_some, Bool.not_false, Run_condM_true, Run_ret]
 exact ⟨rfl, rfl⟩
theorem open_yes (htb : Tb w) {s title : List UInt8} (hts : ¬ SUM <+: title) (hl : s.length <= 4294960000) : Run (F.paper_open (.string (sb (s ++ [10]))) (.string (sb title))) w λ r w' => OpenP w w' s title r:=by
 unfold F.paper_open
 have e10 : ByteArray.mk #[10] = sb [10]:=rfl
 have eS : ByteArray.mk #[115, 117, 109, 32] = sb SUM:=rfl
 have hs : F.strings_HasSuffix (.string (sb (s ++ [10]))) (.string (sb [10])) w = some (.bool true, w):=by
  unfold F.strings_HasSuffix
  simp only
  rw [if_pos (by rw [sb_size, List.length_append, List.length_singleton]; omega)]
  show some (Value.bool (([10] : List UInt8).isSuffixOf (s ++ [10])), w) = _
  rw [List.isSuffixOf_iff_suffix.2 (List.suffix_append s [10])]
 have hnv : ∀ b, notV (.bool b) = some (.bool !b):=λ _ => rfl
 have y0 : ∀ v x, extV 0 (.tuple #[v, x]) = some v:=λ _ _ => rfl
 have y1 : ∀ v x, extV 1 (.tuple #[v, x]) = some x:=λ _ _ => rfl
 rw [e10, Run_bind]
 refine ⟨_, _, hs, ?_⟩
 show Run (bindO (notV (.bool true)) _) w _
 rw [hnv, Run_bindO_some, Bool.not_true, Run_condM_false]
 have hlen : (s ++ [10]).length = s.length + 1:=by simp
 have ws : IntKind.i64.wrap (((s ++ [10]).length : Int) - 1) = (s.length : Int):=by rw [hlen, show ((s.length + 1 : Nat) : Int) - 1 = (s.length : Int) by omega]; exact i64W (by omega)
 have hsl:=slTo (l:=s ++ [10]) (n:=s.length) (by omega)
 rw [List.take_left' rfl] at hsl
 rw [lenS_string, sb_size, Run_bindO_some, binV_int, intBin_sub, ws, Run_bindO_some, hsl, Run_bindO_some, Run_bind]
 refine (split_run htb s 10 (by omega)).mono ?_
 rintro v w1 ⟨hv, f1, hn1⟩
 have hne:=spl_ne 10 s
 obtain ⟨hjn, hno⟩:=spl_jn 10 s
 generalize hN : spl 10 s = N at *
 have hN0 : 0 < N.length:=List.length_pos_iff.2 hne
 have hNs : N.length <= s.length + 1:=by
  have:=jn_count 10 N hne hno
  have h2 : (jn 10 N).count 10 <= (jn 10 N).length:=List.count_le_length
  rw [hjn] at this h2
  omega
 have hlv:=hv.1.lenL
 rw [List.length_map] at hlv
 have wl : IntKind.i64.wrap ((N.length : Int) - 1) = ((N.length - 1 : Nat) : Int):=by rw [show (N.length : Int) - 1 = ((N.length - 1 : Nat) : Int) by omega]; exact i64W (by omega)
 obtain ⟨last, hlast⟩ : ∃ x, N[N.length - 1]? = some x:=⟨_, List.getElem?_eq_getElem (by omega)⟩
 have hgl : N.getLast? = some last:=by rw [List.getLast?_eq_getElem?]; exact hlast
 obtain ⟨p, p1, p2⟩:=hv.1.rd1 (i:=N.length - 1) (y:=.string (sb last)) (by simp [hlast]) .i64
 have p1' : idxA 1 v (.int .i64 ((N.length - 1 : Nat) : Int)) = some p:=p1
 have hmem : ∀ x ∈ N, x.length <= s.length:=λ x hx => by
  have : ∀ (N : List (List UInt8)), x ∈ N -> x.length <= (jn 10 N).length:=λ N => by
   induction N with
   | nil => intro h; cases h
   | cons y r ih =>
    intro h
    by_cases hr : r = []
    ·subst hr; simp at h; subst h; simp [jn]
    ·rw [jn_cons 10 hr, List.length_append, List.length_append]
     rcases List.mem_cons.1 h with rfl | h
     ·omega
     ·have:=ih h; omega
  have:=this N hx
  rwa [hjn] at this
 have hll:=hmem last (List.mem_of_getElem? hlast)
 rw [hlv, Run_bindO_some, binV_int, intBin_sub, wl, Run_bindO_some, p1', Run_bindO_some, Run_bind, Run_rdM]
 refine ⟨_, p2, ?_⟩
 rw [eS, Run_bind]
 refine ⟨_, _, cutp_run last SUM, ?_⟩
 show Run (bindO (extV 0 (.tuple #[.string (sb (Lib.trimPrefix last SUM)), .bool (decide (SUM <+: last))])) _) w1 _
 rw [y0, Run_bindO_some, y1, Run_bindO_some, Run_bind]
 have htl : (Lib.trimPrefix last SUM).length <= 4611686018427387904:=by
  unfold Lib.trimPrefix
  split
  ·rw [List.length_drop]; omega
  ·omega
 refine (sumOf_run htl).mono ?_
 rintro _ w2 ⟨rfl, f2⟩
 have e : ∀ o, extV 0 (numV o) = some (.int .i64 ((o.getD 0 : Nat) : Int)):=λ _ => rfl
 have e' : ∀ o, extV 1 (numV o) = some (.bool o.isSome):=λ _ => rfl
 have hv2:=hv.1.fr0 f2
 obtain ⟨first, hfirst⟩ : ∃ x, N[0]? = some x:=⟨_, List.getElem?_eq_getElem (by omega)⟩
 have hhd : N.head? = some first:=by rw [List.head?_eq_getElem?]; exact hfirst
 obtain ⟨p0, q1, q2⟩:=hv2.rd1 (i:=0) (y:=.string (sb first)) (by simp [hfirst]) .i64
 have q1' : idxA 1 v (.int .i64 0) = some p0:=q1
 have hokF : okF s title = (decide (SUM <+: last) && (sumF (last.drop 4)).isSome && decide (first = title)):=by
  unfold okF
  rw [hN, hgl, hhd, Option.getD_some]
  simp
 have bad : okF s title = false -> Run (condM (.bool true) (M.ret (Value.tuple #[(Value.slice none 0 0), (Value.bool false), (Value.bool false)])) (M.fail : M Value)) w2 λ r w' => OpenP w w' s title r:=λ hb => by
  rw [Run_condM_true, Run_ret]
  exact ⟨⟨_, false, by rw [hb], λ h => by rw [hb] at h; cases h⟩, f1.trans f2 λ _ _ => id⟩
 have bad' : okF s title = false -> ∀ K, Run (condM (.bool true) (M.ret (Value.tuple #[(Value.slice none 0 0), (Value.bool false), (Value.bool false)])) K) w2 λ r w' => OpenP w w' s title r:=λ hb K => by
  have:=bad hb
  rw [Run_condM_true] at this ⊢
  exact this
 rw [e, Run_bindO_some, e', Run_bindO_some, hnv, Run_bindO_some]
 by_cases c1 : SUM <+: last
 case neg =>
  rw [decide_eq_false c1]
  simp only [Bool.not_false, Run_bind, Run_guardM_tf, pickV_bool, cond_true, Run_bindO_some]
  exact bad' (by rw [hokF, decide_eq_false c1]; rfl) _
 rw [decide_eq_true c1, trim_of c1]
 have hS4 : SUM.length = 4:=rfl
 rw [hS4]
 cases hsm : sumF (last.drop 4) with
 | none =>
  simp only [Bool.not_true, Run_bind, Run_guardM_ff, Run_ret, Option.isSome_none, hnv, Bool.not_false, Run_optM_some, pickV_bool, cond_false, cond_true, Run_bindO_some, Run_guardM_tf]
  exact bad' (by rw [hokF, hsm]; simp) _
 | some n =>
  simp only [Bool.not_true, Run_bind, Run_guardM_ff, Run_ret, Option.isSome_some, hnv, Run_optM_some, pickV_bool, cond_false, Run_bindO_some, q1', Run_rdM]
  refine ⟨_, q2, ?_⟩
  rw [sbNe, Run_optM_some]
  by_cases c3 : first = title
  case neg =>
   rw [decide_eq_false c3, Bool.not_false]
   exact bad' (by rw [hokF, decide_eq_false c3]; simp) _
  have hok : okF s title = true:=by rw [hokF, decide_eq_true c1, hsm, decide_eq_true c3]; rfl
  have hN2 : 2 <= N.length:=Nat.not_lt.1 λ h => by
   have h1 : N.length - 1 = 0:=by omega
   rw [h1, hfirst] at hlast
   rw [<- Option.some.inj hlast, c3] at c1
   exact hts c1
  have hs13 : 13 <= (s ++ [10]).length:=by
   have h8 : (last.drop 4).length = 8:=by
    unfold sumF at hsm
    split at hsm
    ·assumption
    ·cases hsm
   rw [List.length_drop] at h8
   omega
  have w13 : IntKind.i64.wrap (((s ++ [10]).length : Int) - 13) = (((s ++ [10]).length - 13 : Nat) : Int):=sub13 hs13 (by omega)
  obtain ⟨vm, m1, m2, m3⟩:=sl_mid (hv2.fr0 (show Fr (λ _ => False) w2 w2.drew from (Fr.refl _ _).drew)) (a:=1) (b:=N.length - 1) (by omega) (by rw [List.length_map]; omega) .i64
  have m1' : sliceV 1 v (some (.int .i64 1)) (some (.int .i64 ((N.length - 1 : Nat) : Int))) = some vm:=m1
  have hsl2:=slTo (l:=s ++ [10]) (n:=(s ++ [10]).length - 13) (by omega)
  rw [decide_eq_true c3, Bool.not_true, Run_condM_false, Run_drewM, m1', Run_bindO_some, Run_bindO_some, binV_int, intBin_sub, w13, Run_bindO_some, hsl2, Run_bindO_some, Run_bind]
  refine Run_bsl (k:=1) (vs:=[.string (sb ((s ++ [10]).take ((s ++ [10]).length - 13)))]) (by rfl) (by intro v hv; simp only [List.mem_singleton] at hv; subst hv; rfl) rfl (by kernel_rfl) λ r w3 hr f3 _ => ?_
  have fd3 : Fr (λ _ => False) w2 w3:=((Fr.refl _ _).drew).trans f3 λ _ _ => id
  have f13:=(f1.trans f2 λ _ _ => id).trans fd3 λ _ _ => id
  rw [Run_bind]
  refine (crc_run (htb.fr0 f13).nib hr.1 (by rw [sb_size, List.length_take]; omega)).mono ?_
  rintro _ w4 ⟨rfl, rfl⟩
  rw [binV_int, intBin_eql, Run_bindO_some, Run_ret, Option.getD_some]
  refine ⟨⟨vm, _, by rw [hok], λ _ => ⟨?_, ?_, λ c hc => ?_⟩⟩, f13⟩
  ·rw [hN, hgl, Option.getD_some, hsm]
   congr 1
   rw [eq_iff_iff]
   constructor
   ·intro h; rw [Int.ofNat_inj.1 h]
   ·intro h; rw [Option.some.inj h]
  ·rw [hN]
   have:=m2.fr0 f3
   rwa [<- List.map_take, <- List.map_drop] at this
  ·exact ⟨(hn1 c (m3 c hc)).1, Nat.lt_of_lt_of_le (hn1 c (m3 c hc)).2 (f2.trans fd3 λ _ _ => id).size⟩
end
theorem num_all {d : List UInt8} {v : Nat} (h : numF d = some v) : d.all isD = true /\ v = valL d /\ d ≠ [] /\ d.length <= 16:=by
 unfold numF at h
 split at h
 ·cases h
 ·rename_i hn
  simp only [not_or, Option.some.injEq] at hn h
  exact ⟨by simpa using hn.2.2.2, h.symm, hn.1, by omega⟩
theorem num_no10 {d : List UInt8} {v : Nat} (h : numF d = some v) : (10 : UInt8) ∉ d:=λ hm => by
 have:=List.all_eq_true.1 (num_all h).1 10 hm
 exact absurd this (by decide)
theorem sum_no10 {e : List UInt8} {v : Nat} (h : sumF e = some v) : (10 : UInt8) ∉ e /\ e.length = 8:=by
 unfold sumF at h
 split at h
 ·rename_i hl
  refine ⟨λ hm => ?_, hl⟩
  obtain ⟨j, hj⟩:=List.getElem?_of_mem hm
  have hj8 : j < 8:=by have:=(List.getElem?_eq_some_iff.1 hj).1; omega
  have hp : pairV e (j / 2) = none:=by
   unfold pairV
   rcases Nat.mod_two_eq_zero_or_one j with h0 | h1
   ·rw [show 2 * (j / 2) = j by omega, hj]
    have h10 : hvN (10 : UInt8).toNat = none:=by decide
    split
    ·rename_i a b h1 h2
     cases h1
     rw [h10]
    ·rfl
   ·rw [show 2 * (j / 2) + 1 = j by omega, hj]
    have h10 : hvN (10 : UInt8).toNat = none:=by decide
    split
    ·rename_i a b h1 h2
     cases h2
     rw [h10]
     split <;> simp_all
    ·rfl
  rw [pairsF_bad hp (n:=4) (by omega)] at h
  cases h
 ·cases h
def midL (s : List UInt8) : List (List UInt8):=((spl 10 s).take ((spl 10 s).length - 1)).drop 1
def lastL (s : List UInt8) : List UInt8:=((spl 10 s).getLast?).getD []
theorem fldO_of {f : Fd} {d : List UInt8} : fldO f (f.word ++ [32] ++ d) = numF d:=by
 unfold fldO
 rw [if_pos (List.prefix_append _ _), List.drop_left]
theorem fldO_some {f : Fd} {l : List UInt8} (h : (fldO f l).isSome = true) : ∃ d v, l = f.word ++ [32] ++ d /\ numF d = some v:=by
 unfold fldO at h
 split at h
 ·rename_i hp
  obtain ⟨d, rfl⟩:=hp
  rw [List.drop_left] at h
  obtain ⟨v, hv⟩:=Option.isSome_iff_exists.1 h
  exact ⟨d, v, rfl, hv⟩
 ·cases h
theorem pairs_app {e r : List UInt8} (he : e.length = 8) : pairsF (e ++ r) 4 = pairsF e 4:=by
 have hp : ∀ i, i < 4 -> pairV (e ++ r) i = pairV e i:=λ i hi => by
  unfold pairV
  rw [List.getElem?_append_left (by omega), List.getElem?_append_left (by omega)]
 simp only [pairsF, hp 0 (by decide), hp 1 (by decide), hp 2 (by decide), hp 3 (by decide)]
theorem pairs_long {l bs : List UInt8} (h : pairsF l 4 = some bs) : 8 <= l.length:=Nat.not_lt.1 λ hl => by
 have : pairV l 3 = none:=by
  unfold pairV
  rw [show l[2 * 3 + 1]? = none from List.getElem?_eq_none (by omega)]
  split <;> simp_all
 rw [pairsF_bad this (n:=4) (by decide)] at h
 cases h
section
variable {w w1 w2 : World}
structure LastP (w w' : World) (b : Nat) (l : List UInt8) (p : Nat) (bad : Bool) (r : Value) : Prop where
 yes : ∀ e sm, bad = false -> l.drop p = SUM ++ e ++ [10] -> sumF e = some sm -> r = .int .i64 (if sm = crcF (sb (l.take p)) then 0 else 41)
 no : (bad = true ∨ ∀ e sm, l.drop p = SUM ++ e ++ [10] -> sumF e ≠ some sm) -> r = .int .i64 40
 fr : Fr (λ c => c = b) w w'
theorem last_run {b p : Nat} {l : List UInt8} {bad : Bool} (h : RS w b l p bad) (hp : p <= l.length) (hl : l.length <= 4611686018427387000) :
  Run (F.granaryref4_Reader_last (.pointer (some ⟨b, 0, none⟩))) w λ r w' => LastP w w' b l p bad r:=by
 unfold F.granaryref4_Reader_last
 have nck : nilChk (.pointer (some ⟨b, 0, none⟩)) = some (.pointer (some ⟨b, 0, none⟩)):=rfl
 have la : ld1 (.pointer (some ⟨b, 0 + 1, none⟩)) w = some (.int .i64 (p : Int)):=by rw [ld1_ptr, h.1]; rfl
 have eS : ByteArray.mk #[115, 117, 109, 32] = sb SUM:=rfl
 have e10 : ByteArray.mk #[10] = sb [10]:=rfl
 rw [nck, Run_bindO_some, fieldA_ptr, Run_bindO_some, Run_bind, Run_rdM]
 refine ⟨_, la, ?_⟩
 rw [eS, Run_bind]
 refine (rlit_run h hp (by omega) (by decide)).mono ?_
 rintro _ w1 ⟨⟨p1, rs1, hp1, hq1⟩, f1⟩
 rw [Run_bind]
 refine (rsum_run rs1 hp1 (by omega)).mono ?_
 rintro _ w2 ⟨rfl, ⟨p2, rs2, hp2, hq2⟩, f2⟩
 rw [e10, Run_bind]
 refine (rlit_run rs2 hp2 (by omega) (by decide)).mono ?_
 rintro _ w3 ⟨⟨p3, rs3, hp3, hq3⟩, f3⟩
 have f13 : Fr (λ c => c = b) w w3:=(f1.trans f2 λ _ _ h => h).trans f3 λ _ _ h => h
 have fd : Fr (λ c => c = b) w w3.drew:=f13.drew
 have key : ((((if (bad || !decide (SUM <+: l.drop p)) = true then none else (pairsF (l.drop p1) 4).map valB).isNone || !decide ([10] <+: l.drop p2)) = false /\ p3 = l.length) -> ∃ e sm, bad = false /\ l.drop p = SUM ++ e ++ [10] /\ sumF e = some sm /\ (if (bad || !decide (SUM <+: l.drop p)) = true then none else (pairsF (l.drop p1) 4).map valB) = some sm):=by
  rintro ⟨hb, hp3l⟩
  simp only [Bool.or_eq_false_iff, Bool.not_eq_false', decide_eq_true_eq] at hb
  obtain ⟨hb1, hb2⟩:=hb
  cases hbb : (bad || !decide (SUM <+: l.drop p)) with
  | true => rw [hbb] at hb1; simp at hb1
  | false =>
   rw [hbb] at hb1 hq2 rs2 hq3
   simp only [Bool.or_eq_false_iff, Bool.not_eq_false', decide_eq_true_eq] at hbb
   obtain ⟨hbad, hS⟩:=hbb
   have e1:=hq1 hbad hS
   cases hpp : pairsF (l.drop p1) 4 with
   | none => rw [hpp] at hb1; simp at hb1
   | some bs =>
    have e2:=hq2 (by rw [hpp]; rfl)
    rw [hpp] at hq3
    have e3:=hq3 rfl hb2
    obtain ⟨t1, ht1⟩:=hS
    have d1 : l.drop p1 = t1:=by rw [e1]; exact drop_more ht1.symm
    rw [d1] at hpp
    have hl8:=pairs_long hpp
    have d2 : l.drop p2 = t1.drop 8:=by rw [e2, <- d1, List.drop_drop]
    obtain ⟨t2, ht2⟩:=hb2
    have ht2' : t2 = []:=by
     have h1:=congrArg List.length ht2
     have h2 : (l.drop p2).length = l.length - p2:=List.length_drop
     rw [List.length_append] at h1
     apply List.eq_nil_of_length_eq_zero
     have h3 : ([10] : List UInt8).length = 1:=rfl
     omega
    rw [ht2', List.append_nil, d2] at ht2
    have ht8 : (t1.take 8).length = 8:=by rw [List.length_take]; omega
    have hpe : pairsF (t1.take 8) 4 = some bs:=by
     rw [<- pairs_app (r:=t1.drop 8) ht8, List.take_append_drop]; exact hpp
    refine ⟨t1.take 8, valB bs, hbad, ?_, ?_, ?_⟩
    ·rw [<- ht1, List.append_assoc, ht2, List.take_append_drop]
    ·unfold sumF; rw [if_pos ht8, hpe]; rfl
    ·simp [d1, hpp]
 have comp : ∀ e sm, bad = false -> l.drop p = SUM ++ e ++ [10] -> sumF e = some sm -> (((if (bad || !decide (SUM <+: l.drop p)) = true then none else (pairsF (l.drop p1) 4).map valB).isNone || !decide ([10] <+: l.drop p2)) = false /\ p3 = l.length) /\ (if (bad || !decide (SUM <+: l.drop p)) = true then none else (pairsF (l.drop p1) 4).map valB) = some sm:=by
  intro e sm hbad hd hsm
  rw [List.append_assoc] at hd
  have he8:=(sum_no10 hsm).2
  have hS : SUM <+: l.drop p:=⟨_, hd.symm⟩
  have e1:=hq1 hbad hS
  have d1 : l.drop p1 = e ++ [10]:=by rw [e1]; exact drop_more hd
  have hbb : (bad || !decide (SUM <+: l.drop p)) = false:=by rw [hbad, decide_eq_true hS]; rfl
  have hps : (pairsF (l.drop p1) 4).map valB = some sm:=by
   rw [d1, pairs_app he8]
   unfold sumF at hsm
   rw [if_pos he8] at hsm
   exact hsm
  rw [hbb] at hq2 hq3 ⊢
  simp only [Bool.false_eq_true, if_false, hps] at hq2 hq3 ⊢
  have e2:=hq2 rfl
  have d2 : l.drop p2 = [10]:=by
   have:=drop_more (a:=e) d1
   rw [e2, <- he8]
   exact this
  have hT : [10] <+: l.drop p2:=by rw [d2]; exact List.prefix_refl _
  have e3:=hq3 rfl hT
  refine ⟨⟨by rw [decide_eq_true hT]; rfl, ?_⟩, trivial⟩
  have h2:=congrArg List.length d2
  rw [List.length_drop] at h2
  have h3 : ([10] : List UInt8).length = 1:=rfl
  omega
 generalize ho : (if (bad || !decide (SUM <+: l.drop p)) = true then none else (pairsF (l.drop p1) 4).map valB) = o at *
 generalize hB : (o.isNone || !decide ([10] <+: l.drop p2)) = B at *
 have hb3:=rs3.1
 have fail : ¬ (B = false /\ p3 = l.length) -> LastP w w3.drew b l p bad (.int .i64 40):=λ hn => ⟨λ e sm h1 h2 h3 => absurd (comp e sm h1 h2 h3).1 hn, λ _ => rfl, fd⟩
 have hlen : (sb l).size = l.length:=sb_size l
 by_cases c1 : B = true
 ·subst c1
  simp [-ldA_ptr, hb3]
  exact fail λ h => Bool.noConfusion h.1
 have c1' : B = false:=by simpa using c1
 by_cases c2 : p3 = l.length
 case neg =>
  have c2' : ¬ (p3 : Int) = l.length:=by omega
  rw [c1'] at hb3
  simp [-ldA_ptr, hb3, hlen, c2', c2]
  exact fail λ h => c2 h.2
 obtain ⟨e, sm, h1, h2, h3, h4⟩:=key ⟨c1', c2⟩
 have ok : LastP w w3.drew b l p bad (.int .i64 (if sm = crcF (sb (l.take p)) then 0 else 41)):=by
  refine ⟨λ e' sm' g1 g2 g3 => ?_, λ hn => ?_, fd⟩
  ·have:=(comp e' sm' g1 g2 g3).2
   rw [h4] at this
   rw [Option.some.inj this]
  ·rcases hn with hn | hn
   ·rw [h1] at hn; cases hn
   ·exact absurd h3 (hn e sm h2)
 have hsl:=slTo (l:=l) (n:=p) hp
 rw [c1'] at hb3
 rw [c2] at hb3
 simp [-ldA_ptr, hb3, hlen, hsl]
 refine (rcrc_run (sb (l.take p)) (by rw [sb_size, List.length_take]; omega)).mono ?_
 rintro _ w4 ⟨rfl, hw4⟩
 rw [hw4, h4]
 by_cases c3 : sm = crcF (sb (l.take p))
 ·rw [if_pos c3] at ok
  simp [c3]
  exact ok
 ·rw [if_neg c3] at ok
  have c3' : ¬ (sm : Int) = (crcF (sb (l.take p)) : Int):=by omega
  simp [c3', c3]
  exact ok
end
section
variable {w w1 w2 : World}
structure RP (w0 w : World) (b : Nat) (l : List UInt8) (p : Nat) (bad : Bool) (x6 : Nat) (l6 : List Value) : Prop where
 rs : RS w b l p bad
 hp : p <= l.length
 b6 : bk w x6 = some l6
 w6 : wr w x6 = true
 e6 : l6.length = 4
 ne : x6 ≠ b
 fr : Fr (λ c => c = b ∨ c = x6) w0 w
theorem RP.call {w0 : World} {b p : Nat} {l : List UInt8} {bad : Bool} {x6 : Nat} {l6 : List Value} (h : RP w0 w b l p bad x6 l6) (f : Fr (λ c => c = b) w w2) {p' : Nat} {bad' : Bool} (rs : RS w2 b l p' bad') (hp : p' <= l.length) : RP w0 w2 b l p' bad' x6 l6 :=
 ⟨rs, hp, f.bk_some h.b6 h.ne, by rw [f.wr (bk_lt h.b6) h.ne]; exact h.w6, h.e6, h.ne, h.fr.trans f λ _ _ he => .inl he⟩
theorem RP.put6 {w0 : World} {b p : Nat} {l : List UInt8} {bad : Bool} {x6 : Nat} {l6 : List Value} (h : RP w0 w b l p bad x6 l6) (i : Nat) (y : Value) : RP w0 (sto w x6 i [y]) b l p bad x6 (l6.set i y):=by
 have f : Fr (λ c => c = x6) w (sto w x6 i [y]):=(show Fr (λ c => c = x6) w w from Fr.refl _ _).sto (.inl rfl) _ _
 exact ⟨⟨f.bk_some h.rs.1 λ e => h.ne e.symm, by rw [wr_sto]; exact h.rs.2⟩, h.hp, by rw [bk_sto_same h.b6]; simp only [setL_cons, setL_nil], by rw [wr_sto]; exact h.w6, by rw [List.length_set]; exact h.e6, h.ne, h.fr.trans f λ _ _ he => .inr he⟩
theorem RP.lit {β : Type} {w0 : World} {b p : Nat} {l : List UInt8} {bad : Bool} {x6 : Nat} {l6 : List Value} (h : RP w0 w b l p bad x6 l6) (hl : l.length <= 4611686018427387904) {y : List UInt8} (hy : y.length <= 4611686018427387904) {K : M β} {Q : β -> World -> Prop}
  (q : ∀ w' p', RP w0 w' b l p' (bad || !decide (y <+: l.drop p)) x6 l6 -> (bad = false -> y <+: l.drop p -> p' = p + y.length) -> Run K w' Q) :
  Run (M.bind (F.granaryref4_Reader_lit (.pointer (some ⟨b, 0, none⟩)) (.string (sb y))) λ _ => K) w Q:=by
 rw [Run_bind]
 refine (rlit_run h.rs h.hp hl hy).mono ?_
 rintro _ w2 ⟨⟨p', rs, hp', hh⟩, f⟩
 exact q w2 p' (h.call f rs hp') hh
theorem lit_good {bad : Bool} {l y : List UInt8} {p p' : Nat} (h : (bad || !decide (y <+: l.drop p)) = false) (hq : bad = false -> y <+: l.drop p -> p' = p + y.length) : bad = false /\ l.drop p = y ++ l.drop p':=by
 simp only [Bool.or_eq_false_iff, Bool.not_eq_false', decide_eq_true_eq] at h
 obtain ⟨t, ht⟩:=h.2
 have e:=hq h.1 h.2
 have d:=drop_more (p:=p) ht.symm
 rw [<- e] at d
 exact ⟨h.1, by rw [d]; exact ht.symm⟩
theorem num_good {bad : Bool} {l : List UInt8} {p : Nat} (h : (bad || (numF (rdD l p)).isNone) = false) : bad = false /\ (∃ v, numF (rdD l p) = some v) /\ l.drop p = rdD l p ++ l.drop (p + (rdD l p).length):=by
 simp only [Bool.or_eq_false_iff] at h
 refine ⟨h.1, ?_, ?_⟩
 ·cases hn : numF (rdD l p) with
  | none => rw [hn] at h; simp at h
  | some v => exact ⟨v, rfl⟩
 ·have h1:=runD_take ((l.drop p).take 17)
  have h2 : rdD l p = runD ((l.drop p).take 17):=rfl
  rw [<- h2, List.take_take, Nat.min_eq_left (rdD_len l p).1] at h1
  rw [<- List.drop_drop]
  conv => lhs; rw [<- List.take_append_drop (rdD l p).length (l.drop p)]
  rw [h1]
theorem num_at {l d r : List UInt8} {p v : Nat} (hd : numF d = some v) (h : l.drop p = d ++ r) (hr : ∀ c, r.head? = some c -> isD c = false) : rdD l p = d /\ l.drop (p + (rdD l p).length) = r:=by
 obtain ⟨h1, _, _, h16⟩:=num_all hd
 have e : rdD l p = d:=by
  unfold rdD
  rw [h, List.take_append, List.take_of_length_le (by omega)]
  refine runD_app h1 λ c hc => hr c ?_
  cases r with
  | nil => simp at hc
  | cons x r =>
   cases hk : 17 - d.length with
   | zero => omega
   | succ k => rw [hk, List.take_succ_cons] at hc; exact hc
 rw [e]
 exact ⟨rfl, drop_more h⟩
end
end Go.Proofs.YthlpfhjcdedhgaaGreatDoor
namespace Go.Proofs.YthlpfhjcdedhgaaGreatDoor.Me
open Go.Lift Go.Sort
set_option linter.unusedSimpArgs false
set_option linter.unusedVariables false
set_option maxHeartbeats 4000000
section
variable {w w1 w2 : World}
theorem ranges_run {t : Value} {fs : List Fd} (ht : Sl 4 w t (fs.map Fd.row)) (hok : ∀ f ∈ fs, f.Ok) {x : Nat} {l : List Value} {g : Nat -> Int} (hx : bk w x = some l) (hg : ∀ f ∈ fs, l[f.off]? = some (.int .i64 (g f.off))) (hn : fs.length <= 1000) :
  Run (F.api_Meta t (.pointer (some ⟨x, 0, none⟩))) w λ r w' => r = .bool (fs.all λ f => f.inR g) /\ Fr (λ _ => False) w w':=by
 unfold F.api_Meta
 have hlen:=ht.lenL
 rw [List.length_map] at hlen
 rw [hlen, Run_bindO_some, Run_bind]
 obtain ⟨J, hJ, hgood, hend⟩:=far_ex (λ f : Fd => f.inR g) fs
 have step : ∀ (i : Nat) (f : Fd) (w1 : World), fs[i]? = some f -> Fr (λ _ => False) w w1 -> ∀ {β : Type} {K : Value -> M β} {Q : β -> World -> Prop}, (∀ w', Fr (λ _ => False) w w' -> Run (K (.bool (!f.inR g))) w' Q) ->
   Run (bindO (idxA 4 t (.int .i64 (i : Int))) λ x4 => M.bind (rdM (ldA 4 x4)) λ x5 => M.bind (newM 144 #[(Value.string ByteArray.empty), (Value.int IntKind.i64 0), (Value.int IntKind.i64 0), Value.nilFunc]) λ x6 => M.bind (stM 4 x6 x5) λ _ =>
    bindO (fieldA 3 x6) λ x8 =>
    M.bind (rdM (ld1 x8)) λ x9 =>
    M.bind (callV F.clos x9 [.pointer (some ⟨x, 0, none⟩)]) λ x10 =>
    bindO (nilChk x10) λ x11 =>
    M.bind (rdM (ld1 x11)) λ x12 =>
    bindO (fieldA 1 x6) λ x13 =>
    M.bind (rdM (ld1 x13)) λ x14 =>
    bindO (binV BinOp.lss x12 x14) λ x15 =>
    M.bind (guardM x15 false (M.ret x12)) λ x16 =>
    M.bind (guardM x15 false (optM (fieldA 2 x6))) λ x17 =>
    M.bind (guardM x15 false (rdM (ld1 x17))) λ x18 =>
    M.bind (guardM x15 false (optM (binV BinOp.gtr x16 x18))) λ x19 =>
    bindO (pickV x15 (Value.bool true) x19) K) w1 Q:=by
  intro i f w1 hf f1 β K Q q
  have hfm:=List.mem_of_getElem? hf
  refine Run_field (ht.fr0 f1) hf (hok f hfm) λ y w2 hy hwy hyle f2 => ?_
  have f12:=f1.trans f2 λ _ _ => id
  have hx2:=f12.bk_some hx id
  have ld3 : ld1 (.pointer (some ⟨y, 0 + 3, none⟩)) w2 = some f.fn:=by rw [ld1_ptr, hy]; rfl
  have ld1' : ld1 (.pointer (some ⟨y, 0 + 1, none⟩)) w2 = some (.int .i64 f.lo):=by rw [ld1_ptr, hy]; rfl
  have ld2 : ld1 (.pointer (some ⟨y, 0 + 2, none⟩)) w2 = some (.int .i64 f.hi):=by rw [ld1_ptr, hy]; rfl
  have ldx : ld1 (.pointer (some ⟨x, f.off, none⟩)) w2 = some (.int .i64 (g f.off)):=by rw [ld1_ptr, hx2]; exact hg f hfm
  rw [fieldA_ptr, Run_bindO_some, Run_bind, Run_rdM]
  refine ⟨_, ld3, ?_⟩
  rw [Run_bind]
  refine (hok f hfm).cls x w2 _ ?_
  have nck : nilChk (.pointer (some ⟨x, f.off, none⟩)) = some (.pointer (some ⟨x, f.off, none⟩)):=rfl
  rw [nck, Run_bindO_some, Run_bind, Run_rdM]
  refine ⟨_, ldx, ?_⟩
  rw [fieldA_ptr, Run_bindO_some, Run_bind, Run_rdM]
  refine ⟨_, ld1', ?_⟩
  by_cases h1 : g f.off < f.lo
  ·have hi : f.inR g = false:=by unfold Fd.inR; exact decide_eq_false (by omega)
   rw [hi] at q
   rw [lssT h1, Run_bindO_some]
   simp only [Run_bind, Run_guardM_tf, pickV_bool, cond_true, Run_bindO_some]
   exact q w2 f12
  ·rw [lssF h1, Run_bindO_some]
   simp only [Run_bind, Run_guardM_ff, Run_ret, fieldA_ptr, Run_optM_some, Run_rdM]
   refine ⟨_, ld2, ?_⟩
   by_cases h2 : f.hi < g f.off
   ·have hi : f.inR g = false:=by unfold Fd.inR; exact decide_eq_false (by omega)
    rw [hi] at q
    simp only [binV_int, intBin_gtr, gt_iff_lt, h2, decide_true, Run_optM_some, pickV_bool, cond_false, Run_bindO_some]
    exact q w2 f12
   ·have hi : f.inR g = true:=by unfold Fd.inR; exact decide_eq_true (by omega)
    rw [hi] at q
    simp only [binV_int, intBin_gtr, gt_iff_lt, h2, decide_false, Run_optM_some, pickV_bool, cond_false, Run_bindO_some]
    exact q w2 f12
 refine Run_for J (λ i L w' => L = [.int .i64 (i : Int)] /\ Fr (λ _ => False) w w') ⟨rfl, Fr.refl _ _⟩ ?_ ?_
 ·rintro i L w1 hi ⟨rfl, f1⟩
  obtain ⟨f, hf⟩ : ∃ f, fs[i]? = some f:=⟨_, List.getElem?_eq_getElem (by omega)⟩
  have hil : (i : Int) < fs.length:=by omega
  have wi:=wrap_succ' (n:=i) (by omega)
  rw [getL_zero, lssT hil, Run_bindO_some, Run_condM_true]
  refine step i f w1 hf f1 λ w2 f2 => ?_
  rw [hgood i f hi hf, Bool.not_true, Run_condM_false, binV_int, intBin_add, wi, Run_bindO_some, Run_ret]
  exact ⟨rfl, f2⟩
 ·rintro L w1 ⟨rfl, f1⟩
  rcases hend with ⟨rfl, hall⟩ | ⟨f, hf, hp, hall⟩
  ·have hn : ¬ ((fs.length : Nat) : Int) < fs.length:=by omega
   rw [getL_zero, lssF hn, Run_bindO_some, Run_condM_false, Run_ret]
   simp only [outK_exit]
   rw [show Nat.beq 0 0 = true from rfl, cond_true, Run_ret, hall]
   exact ⟨rfl, f1⟩
  ·have hlt:=(List.getElem?_eq_some_iff.1 hf).1
   have hil : (J : Int) < fs.length:=by omega
   rw [getL_zero, lssT hil, Run_bindO_some, Run_condM_true]
   refine step J f w1 hf f1 λ w2 f2 => ?_
   rw [hp, Bool.not_false, Run_condM_true, Run_ret]
   simp only [outK_ret, Run_ret, hall]
   exact ⟨trivial, f2⟩
theorem write_run {A : Nat -> Prop} {b : Nat} {l0 : List UInt8} {t : Value} {fs : List Fd} (hB : BG A w b l0) (htb : Tb w) (hA : ∀ c, c < 11 -> A c) (htA : ∀ c, inB t c -> A c) (ht : Sl 4 w t (fs.map Fd.row)) (hok : ∀ f ∈ fs, f.Ok) {x : Nat} {l : List Value} {g : Nat -> Int} (hx : bk w x = some l) (hxA : A x) (hg : ∀ f ∈ fs, l[f.off]? = some (.int .i64 (g f.off)))
  (hr : ∀ f ∈ fs, f.inR g = true) (hn : fs.length <= 100) (hl : l0.length <= 1048576) :
  Run (F.api_Meta_45 (PtrB b) t (.pointer (some ⟨x, 0, none⟩))) w λ _ w' => BG A w' b (l0 ++ fldsL fs g) /\ Fr (λ c => ¬ A c) w w':=by
 unfold F.api_Meta_45
 have hlen:=ht.lenL
 rw [List.length_map] at hlen
 rw [hlen, Run_bindO_some, Run_bind]
 have hdec : ∀ f ∈ fs, (Lib.decDigits (g f.off).toNat).length <= 20 /\ (fldL f (g f.off).toNat).length <= 122 /\ 0 <= g f.off /\ (g f.off).toNat < 9223372036854775808:=λ f hf => by
  have h1:=hr f hf
  unfold Fd.inR at h1
  have h2:=of_decide_eq_true h1
  have h3:=(hok f hf).low
  have h4:=(hok f hf).word.2.1
  have h5:=dec_len (n:=(g f.off).toNat) (by omega)
  refine ⟨h5, ?_, by omega, by omega⟩
  simp only [fldL, List.length_append, List.length_singleton]
  omega
 have hfl : ∀ i, (fldsL (fs.take i) g).length <= i * 122:=λ i => by
  have : ∀ (l : List Fd), (∀ f ∈ l, f ∈ fs) -> (fldsL l g).length <= l.length * 122:=λ l => by
   induction l with
   | nil => intro _; simp [fldsL]
   | cons f l ih =>
    intro hm
    have h1:=ih λ f hf => hm f (List.mem_cons_of_mem _ hf)
    have h2:=(hdec f (hm f (by simp))).2.1
    simp only [fldsL, List.map_cons, List.flatten_cons, List.length_append, List.length_cons] at h1 ⊢
    omega
  have h1:=this (fs.take i) λ f hf => List.mem_of_mem_take hf
  have h2 : (fs.take i).length * 122 <= i * 122:=Nat.mul_le_mul_right _ (List.length_take_le i fs)
  omega
 refine Run_for fs.length (λ i L w' => L = [.int .i64 (i : Int)] /\ BG A w' b (l0 ++ fldsL (fs.take i) g) /\ Fr (λ c => ¬ A c) w w') ⟨rfl, by simpa [fldsL] using hB, Fr.refl _ _⟩ ?_ ?_
 ·rintro i L w1 hi ⟨rfl, hB1, f1⟩
  have ht1:=ht.fr f1 λ c hc hn => hn (htA c hc)
  have hx1:=f1.bk_some hx λ hn => hn hxA
  have tb1:=htb.fr f1 λ c hc hn => hn (hA c hc)
  obtain ⟨f, hf⟩ : ∃ f, fs[i]? = some f:=⟨_, List.getElem?_eq_getElem (by omega)⟩
  have hfm:=List.mem_of_getElem? hf
  have hil : (i : Int) < fs.length:=by omega
  have wi:=wrap_succ' (n:=i) (by omega)
  obtain ⟨d1, d2, d3, d4⟩:=hdec f hfm
  have hsnoc : fldsL (fs.take (i + 1)) g = fldsL (fs.take i) g ++ fldL f (g f.off).toNat:=by
   rw [take_snocP hf]; simp [fldsL]
  rw [getL_zero, lssT hil, Run_bindO_some, Run_condM_true]
  refine Run_field ht1 hf (hok f hfm) λ y w2 hy hwy hyle f2 => ?_
  rw [Run_drewM, Run_getM, fieldA_ptr, Run_bindO_some, Run_bind, Run_rdM]
  have f2d : Fr (λ _ => False) w1 w2.drew:=f2.drew
  have hyd : bk w2.drew y = some f.row:=hy
  generalize w2.drew = w3 at *
  have ld0 : ld1 (.pointer (some ⟨y, 0 + 0, none⟩)) w3 = some (.string (sb f.word)):=by rw [ld1_ptr, hyd]; rfl
  have ld3 : ld1 (.pointer (some ⟨y, 0 + 3, none⟩)) w3 = some f.fn:=by rw [ld1_ptr, hyd]; rfl
  refine ⟨_, ld0, ?_⟩
  rw [fieldA_ptr, Run_bindO_some, Run_bind, Run_rdM]
  refine ⟨_, ld3, ?_⟩
  rw [Run_bind]
  refine (hok f hfm).cls x w3 _ ?_
  rw [Run_getM]
  have nck : nilChk (.pointer (some ⟨x, f.off, none⟩)) = some (.pointer (some ⟨x, f.off, none⟩)):=rfl
  have ldx : ld1 (.pointer (some ⟨x, f.off, none⟩)) w3 = some (.int .i64 (g f.off)):=by rw [ld1_ptr, f2d.bk_some hx1 id]; exact hg f hfm
  rw [nck, Run_bindO_some, Run_bind, Run_rdM]
  refine ⟨_, ldx, ?_⟩
  have hgn : g f.off = (((g f.off).toNat : Nat) : Int):=(Int.toNat_of_nonneg d3).symm
  rw [Run_bind]
  have hit:=itoa_run (tb1.fr0 f2d) (n:=(g f.off).toNat) d4
  rw [<- hgn] at hit
  refine hit.mono ?_
  rintro _ w4 ⟨rfl, f4⟩
  rw [Run_getM, Run_bind]
  have hy4:=f4.bk_some hyd id
  have ld4 : ld1 (.pointer (some ⟨y, 0 + 0, none⟩)) w4 = some (.string (sb f.word)):=by rw [ld1_ptr, hy4]; rfl
  refine Run_bsl (k:=1) (vs:=[.string (sb f.word), .string (itoaS (g f.off).toNat)]) (by rfl) (by intro v hv; simp only [List.mem_cons, List.not_mem_nil, or_false] at hv; rcases hv with rfl | rfl <;> rfl) rfl (by kernel_rfl) λ r w5 hr f5 _ => ?_
  rw [Run_getM, Run_bind]
  have f15:=(f2d.trans f4 λ _ _ => id).trans f5 λ _ _ => id
  have hB5:=hB1.frm f15
  have hwl:=(hok f hfm).word
  have hi122:=hfl i
  have hjl : (f.word ++ [32] ++ Lib.decDigits (g f.off).toNat).length <= 121:=by simp only [List.length_append, List.length_singleton]; omega
  refine (line_run hB5 (xs:=[f.word, Lib.decDigits (g f.off).toNat]) hr.1 (by rw [join_two]; simp) (by simp) (by rw [join_two]; omega) ?_ ?_).mono ?_
  ·simp only [List.map_cons, List.map_nil, List.sum_cons, List.sum_nil, sb_size]
   omega
  ·rw [List.length_append]
   omega
  ·rintro _ w6 ⟨h6, f6⟩
   rw [Run_getM, Run_reqM, Run_reqM]
   refine ⟨ld0, ld4, ?_⟩
   rw [binV_int, intBin_add, wi, Run_bindO_some, Run_ret]
   rw [join_two] at h6
   rw [hsnoc]
   refine ⟨rfl, ?_, (f1.trans f15 λ _ _ hc => hc.elim).trans f6 λ _ _ hc => hc⟩
   rw [List.append_assoc] at h6
   exact h6
 ·rintro L w1 ⟨rfl, hB1, f1⟩
  rw [List.take_length] at hB1
  have hn : ¬ ((fs.length : Nat) : Int) < fs.length:=by omega
  rw [getL_zero, lssF hn, Run_bindO_some, Run_condM_false, Run_ret]
  simp only [outK_exit]
  rw [show Nat.beq 0 0 = true from rfl, cond_true, Run_ret]
  exact ⟨hB1, f1⟩
theorem parseF_run {t v : Value} {fs : List Fd} {N : List (List UInt8)} (ht : Sl 4 w t (fs.map Fd.row)) (hv : Sl 1 w v (N.map λ s => [.string (sb s)])) (hok : ∀ f ∈ fs, f.Ok) {x : Nat} {l : List Value} (hx : bk w x = some l) (hxw : wr w x = true)
  (hoff : ∀ f ∈ fs, f.off < l.length) (hn : fs.length <= 1000) (hN : N.length <= 4611686018427387904) (hNl : ∀ s ∈ N, s.length <= 4611686018427387904) (htx : ¬ inB t x) (hvx : ¬ inB v x) :
  Run (F.api_Meta_61 v t (.pointer (some ⟨x, 0, none⟩))) w λ r w' => r = .bool (decide (N.length = fs.length) && (fs.zip N).all λ z => (fldO z.1 z.2).isSome) /\
   (∃ l', bk w' x = some l' /\ wr w' x = true /\ l'.length = l.length /\ ((decide (N.length = fs.length) && (fs.zip N).all λ z => (fldO z.1 z.2).isSome) = true -> l' = putF (fs.zip N) l)) /\ Fr (λ c => c = x) w w':=by
 unfold F.api_Meta_61
 have hlen:=ht.lenL
 have hlv:=hv.lenL
 rw [List.length_map] at hlen hlv
 rw [hlv, Run_bindO_some, hlen, Run_bindO_some, binV_int, intBin_neq, Run_bindO_some]
 by_cases hlen2 : N.length = fs.length
 case neg =>
  have h' : ¬ ((N.length : Nat) : Int) = fs.length:=by omega
  have hf : (!decide (((N.length : Nat) : Int) = fs.length)) = true:=by simp [h']
  rw [hf, Run_condM_true, Run_ret, decide_eq_false hlen2, Bool.false_and]
  exact ⟨rfl, ⟨l, hx, hxw, rfl, λ h => Bool.noConfusion h⟩, Fr.refl _ _⟩
 have h' : ((N.length : Nat) : Int) = fs.length:=by omega
 have hf : (!decide (((N.length : Nat) : Int) = fs.length)) = false:=by simp [h']
 rw [hf, Run_condM_false, Run_bindO_some, Run_bind, decide_eq_true hlen2, Bool.true_and]
 have hzl : (fs.zip N).length = fs.length:=by rw [List.length_zip]; omega
 obtain ⟨J, hJ, hgood, hend⟩:=far_ex (λ z : Fd × List UInt8 => (fldO z.1 z.2).isSome) (fs.zip N)
 rw [hzl] at hJ
 have step : ∀ (i : Nat) (z : Fd × List UInt8) (w1 : World), (fs.zip N)[i]? = some z -> Fr (λ c => c = x) w w1 -> ∀ {β : Type} {K : Value -> Value -> Value -> M β} {Q : β -> World -> Prop}, (∀ y w', bk w' y = some z.1.row -> Fr (λ _ => False) w1 w' -> Run (K (.int .i64 (((fldO z.1 z.2).getD 0 : Nat) : Int)) (.bool (fldO z.1 z.2).isSome) (.pointer (some ⟨y, 0, none⟩))) w' Q) ->
   Run (bindO (idxA 4 t (.int .i64 (i : Int))) λ x4 => M.bind (rdM (ldA 4 x4)) λ x5 => M.bind (newM 144 #[(Value.string ByteArray.empty), (Value.int IntKind.i64 0), (Value.int IntKind.i64 0), Value.nilFunc]) λ x9 => M.bind (stM 4 x9 x5) λ _ =>
    drewM <|
    bindO (idxA 1 v (.int .i64 (i : Int))) λ x11 =>
    M.bind (rdM (ld1 x11)) λ x12 =>
    bindO (fieldA 0 x9) λ x13 =>
    M.bind (rdM (ld1 x13)) λ x14 =>
    M.bind (F.paper_numberOf x12 x14) λ x15 =>
    bindO (extV 0 x15) λ x16 =>
    bindO (extV 1 x15) λ x17 => K x16 x17 x9) w1 Q:=by
  intro i z w1 hz f1 β K Q q
  obtain ⟨hz1, hz2⟩:=List.getElem?_zip_eq_some.1 hz
  have hfm:=List.mem_of_getElem? hz1
  have hsm:=List.mem_of_getElem? hz2
  refine Run_field (ht.fr f1 λ c hc he => htx (he ▸ hc)) hz1 (hok _ hfm) λ y w2 hy hwy hyle f2 => ?_
  rw [Run_drewM]
  have f2d : Fr (λ _ => False) w1 w2.drew:=f2.drew
  have hyd : bk w2.drew y = some z.1.row:=hy
  generalize w2.drew = w3 at *
  have hv3:=(hv.fr f1 λ c hc he => hvx (he ▸ hc)).fr0 f2d
  obtain ⟨p, p1, p2⟩:=hv3.rd1 (i:=i) (y:=.string (sb z.2)) (by simp [hz2]) .i64
  have p1' : idxA 1 v (.int .i64 (i : Int)) = some p:=p1
  have ld0 : ld1 (.pointer (some ⟨y, 0 + 0, none⟩)) w3 = some (.string (sb z.1.word)):=by rw [ld1_ptr, hyd]; rfl
  rw [p1', Run_bindO_some, Run_bind, Run_rdM]
  refine ⟨_, p2, ?_⟩
  rw [fieldA_ptr, Run_bindO_some, Run_bind, Run_rdM]
  refine ⟨_, ld0, ?_⟩
  rw [Run_bind]
  refine (numberOf_run (hNl _ hsm) (hok _ hfm).word.2.1).mono ?_
  rintro _ w4 ⟨rfl, f4⟩
  have e : ∀ o, extV 0 (numV o) = some (.int .i64 ((o.getD 0 : Nat) : Int)):=λ _ => rfl
  have e' : ∀ o, extV 1 (numV o) = some (.bool o.isSome):=λ _ => rfl
  rw [e, Run_bindO_some, e', Run_bindO_some]
  exact q y w4 (f4.bk_some hyd id) (f2d.trans f4 λ _ _ => id)
 have hnv : ∀ b, notV (.bool b) = some (.bool !b):=λ _ => rfl
 refine Run_for J (λ i L w' => L = [.int .i64 (i : Int)] /\ bk w' x = some (putF ((fs.zip N).take i) l) /\ wr w' x = true /\ Fr (λ c => c = x) w w') ⟨rfl, hx, hxw, Fr.refl _ _⟩ ?_ ?_
 ·rintro i L w1 hi ⟨rfl, hb1, hw1, f1⟩
  obtain ⟨z, hz⟩ : ∃ z, (fs.zip N)[i]? = some z:=⟨_, List.getElem?_eq_getElem (by omega)⟩
  obtain ⟨hz1, hz2⟩:=List.getElem?_zip_eq_some.1 hz
  have hfm:=List.mem_of_getElem? hz1
  have hil : (i : Int) < fs.length:=by omega
  have wi:=wrap_succ' (n:=i) (by omega)
  rw [getL_zero, lssT hil, Run_bindO_some, Run_condM_true]
  refine step i z w1 hz f1 λ y w2 hy f2 => ?_
  have hy3 : ld1 (.pointer (some ⟨y, 0 + 3, none⟩)) w2 = some z.1.fn:=by rw [ld1_ptr, hy]; rfl
  rw [hgood i z hi hz, hnv, Run_bindO_some, Bool.not_true, Run_condM_false, fieldA_ptr, Run_bindO_some, Run_bind, Run_rdM]
  refine ⟨_, hy3, ?_⟩
  rw [Run_bind]
  refine (hok _ hfm).cls x w2 _ ?_
  have nck : nilChk (.pointer (some ⟨x, z.1.off, none⟩)) = some (.pointer (some ⟨x, z.1.off, none⟩)):=rfl
  have hb2:=f2.bk_some hb1 id
  have hw2 : wr w2 x = true:=by rw [f2.wr (bk_lt hb1) id]; exact hw1
  have ho:=hoff _ hfm
  rw [nck, Run_bindO_some, Run_bind, Run_stM (by rfl) (by rfl) ⟨⟨_, hb2, by rw [putF_len]; show z.1.off + 1 <= _; omega⟩, hw2⟩, binV_int, intBin_add, wi, Run_bindO_some, Run_ret]
  refine ⟨rfl, ?_, by rw [wr_sto]; exact hw2, (f1.trans f2 λ _ _ h => h.elim).sto (.inl rfl) _ _⟩
  rw [bk_sto_same hb2, take_snocP hz, putF_snoc]
  rfl
 ·rintro L w1 ⟨rfl, hb1, hw1, f1⟩
  rcases hend with ⟨hJe, hall⟩ | ⟨z, hz, hp, hall⟩
  ·have hJf : J = fs.length:=by omega
   have hn : ¬ (J : Int) < fs.length:=by omega
   rw [getL_zero, lssF hn, Run_bindO_some, Run_condM_false, Run_ret]
   simp only [outK_exit]
   rw [show Nat.beq 0 0 = true from rfl, cond_true, Run_ret]
   rw [hJe, List.take_length] at hb1
   exact ⟨by rw [hall], ⟨_, hb1, hw1, putF_len _ _, λ _ => rfl⟩, f1⟩
  ·have hlt:=(List.getElem?_eq_some_iff.1 hz).1
   have hil : (J : Int) < fs.length:=by omega
   rw [getL_zero, lssT hil, Run_bindO_some, Run_condM_true]
   refine step J z w1 hz f1 λ y w2 hy f2 => ?_
   rw [hp, hnv, Run_bindO_some, Bool.not_false, Run_condM_true, Run_ret]
   simp only [outK_ret, Run_ret]
   exact ⟨by rw [hall], ⟨_, f2.bk_some hb1 id, by rw [f2.wr (bk_lt hb1) id]; exact hw1, putF_len _ _, λ h => by rw [hall] at h; cases h⟩, f1.trans f2 λ _ _ h => h.elim⟩
end
end Go.Proofs.YthlpfhjcdedhgaaGreatDoor.Me
namespace Go.Proofs.YthlpfhjcdedhgaaGreatDoor
open Go.Lift
set_option linter.unusedSimpArgs false
set_option linter.unusedVariables false
set_option maxHeartbeats 4000000
theorem u8_all {P : UInt8 -> Prop} (h : ∀ n, n < 256 -> P (UInt8.ofNat n)) (c : UInt8) : P c:=by
 have:=h c.toNat c.toNat_lt
 rwa [UInt8.ofNat_toNat] at this
def stSet : List UInt8:=[97, 98, 99, 100, 101, 102, 103, 104, 105, 106, 107, 108, 109, 110, 111, 112, 113, 114, 115, 116, 117, 118, 119, 120, 121, 122, 48, 49, 50, 51, 52, 53, 54, 55, 56, 57, 45]
theorem stSet_iff (c : UInt8) : c ∈ stSet ↔ ((97 <= c.toNat /\ c.toNat <= 122) ∨ (48 <= c.toNat /\ c.toNat <= 57)) ∨ c.toNat = 45:=u8_all (P:=λ c => c ∈ stSet ↔ ((97 <= c.toNat /\ c.toNat <= 122) ∨ (48 <= c.toNat /\ c.toNat <= 57)) ∨ c.toNat = 45) (by decide +kernel) c
theorem stSet_low : ∀ c ∈ stSet, c.toNat < 128:=by decide +kernel
def storeP (l : List UInt8) : Bool:=match l with
 | [] => false
 | c :: r => decide ((c :: r).length <= 40 /\ 97 <= c.toNat /\ c.toNat <= 122) && (c :: r).all λ c => decide (c ∈ stSet)
theorem storeP_no {c : UInt8} {r : List UInt8} (h : ¬ ((c :: r).length <= 40 /\ 97 <= c.toNat /\ c.toNat <= 122)) : storeP (c :: r) = false:=by
 show (decide ((c :: r).length <= 40 /\ 97 <= c.toNat /\ c.toNat <= 122) && (c :: r).all λ c => decide (c ∈ stSet)) = false
 rw [decide_eq_false h, Bool.false_and]
theorem storeP_yes {c : UInt8} {r : List UInt8} (h : (c :: r).length <= 40 /\ 97 <= c.toNat /\ c.toNat <= 122) : storeP (c :: r) = (c :: r).all λ c => decide (c ∈ stSet):=by
 show (decide ((c :: r).length <= 40 /\ 97 <= c.toNat /\ c.toNat <= 122) && (c :: r).all λ c => decide (c ∈ stSet)) = _
 rw [decide_eq_true h, Bool.true_and]
theorem storeP_len {l : List UInt8} (h : storeP l = true) : 1 <= l.length /\ l.length <= 40 /\ ∀ c ∈ l, c ∈ stSet:=by
 cases l with
 | nil => cases h
 | cons c r =>
  simp only [storeP, Bool.and_eq_true, decide_eq_true_eq] at h
  refine ⟨by rw [List.length_cons]; omega, h.1.1, λ x hx => ?_⟩
  have:=List.all_eq_true.1 h.2 x hx
  exact of_decide_eq_true this
section
variable {w w1 w2 : World}
theorem storeOK_run (l : List UInt8) (hl : l.length <= 4611686018427387904) : Run (F.paper_storeOK (.string (sb l))) w λ r w' => r = .bool (storeP l) /\ Fr (λ _ => False) w w':=by
 unfold F.paper_storeOK
 have e0 : ByteArray.mk #[] = sb []:=rfl
 have eS : ByteArray.mk #[97, 98, 99, 100, 101, 102, 103, 104, 105, 106, 107, 108, 109, 110, 111, 112, 113, 114, 115, 116, 117, 118, 119, 120, 121, 122, 48, 49, 50, 51, 52, 53, 54, 55, 56, 57, 45] = sb stSet:=rfl
 rw [e0, eS, sbEq]
 cases l with
 | nil =>
  simp only [decide_true, Run_bindO_some, Run_bind, Run_guardM_tf, pickV_bool, cond_true, Run_condM_true, Run_ret]
  exact ⟨rfl, Fr.refl _ _⟩
 | cons c r =>
  have hix : idxS (.string (sb (c :: r))) (.int .i64 0) = some (by8 c):=idxSb (i:=0) rfl
  have d0 : decide (c :: r = []) = false:=rfl
  simp only [d0, Run_bindO_some, Run_bind, Run_guardM_ff, Run_ret, lenS_string, sb_size, Run_optM_some, binV_int, intBin_gtr, pickV_bool, cond_false]
  by_cases h40 : (c :: r).length <= 40
  case neg =>
   have h1 : (((c :: r).length : Nat) : Int) > 40:=by omega
   have hs : storeP (c :: r) = false:=storeP_no λ h => h40 h.1
   rw [hs, decide_eq_true h1]
   simp only [Run_bindO_some, Run_bind, Run_guardM_tf, pickV_bool, cond_true, Run_condM_true, Run_ret]
   exact ⟨trivial, Fr.refl _ _⟩
  have h1 : ¬ (((c :: r).length : Nat) : Int) > 40:=by omega
  rw [decide_eq_false h1]
  simp only [Run_bindO_some, Run_bind, Run_guardM_ff, Run_ret, hix, Run_optM_some, by8, binV_int, intBin_lss, pickV_bool, cond_false]
  by_cases h97 : 97 <= c.toNat
  case neg =>
   have h2 : (c.toNat : Int) < 97:=by omega
   have hs : storeP (c :: r) = false:=storeP_no λ h => h97 h.2.1
   rw [hs, decide_eq_true h2]
   simp only [Run_bindO_some, Run_bind, Run_guardM_tf, pickV_bool, cond_true, Run_condM_true, Run_ret]
   exact ⟨trivial, Fr.refl _ _⟩
  have h2 : ¬ (c.toNat : Int) < 97:=by omega
  rw [decide_eq_false h2]
  simp only [Run_bindO_some, Run_bind, Run_guardM_ff, Run_ret, hix, Run_optM_some, by8, binV_int, intBin_gtr, pickV_bool, cond_false]
  by_cases h122 : c.toNat <= 122
  case neg =>
   have h3 : (c.toNat : Int) > 122:=by omega
   have hs : storeP (c :: r) = false:=storeP_no λ h => h122 h.2.2
   rw [hs, decide_eq_true h3]
   simp only [Run_bindO_some, Run_condM_true, Run_ret]
   exact ⟨trivial, Fr.refl _ _⟩
  have h3 : ¬ (c.toNat : Int) > 122:=by omega
  rw [decide_eq_false h3]
  simp only [Run_bindO_some, Run_condM_false, Run_bind]
  refine (trim_run (l:=c :: r) (cs:=stSet) (by simp) hl stSet_low (by decide) (by decide)).mono ?_
  rintro _ w1 ⟨⟨t, rfl, ht⟩, f1⟩
  rw [sbEq, Run_bindO_some, Run_ret]
  have : storeP (c :: r) = decide (t = []):=by
   rw [storeP_yes ⟨h40, h97, h122⟩, Bool.eq_iff_iff, decide_eq_true_iff, ht, List.all_eq_true]
   simp
  rw [this]
  exact ⟨rfl, f1⟩
theorem rstore_run (l : List UInt8) (hl : l.length <= 4611686018427387904) : Run (F.granaryref4_store (.string (sb l))) w λ r w' => r = .bool (storeP l) /\ w' = w:=by
 unfold F.granaryref4_store
 cases l with
 | nil =>
  have h1 : (((([] : List UInt8).length : Nat)) : Int) < 1:=by decide
  simp only [lenS_string, sb_size, binV_int, intBin_lss, h1, decide_true, Run_bindO_some, Run_bind, Run_guardM_tf, pickV_bool, cond_true, Run_condM_true, Run_ret]
  exact ⟨rfl, trivial⟩
 | cons c r =>
  have hix : idxS (.string (sb (c :: r))) (.int .i64 0) = some (by8 c):=idxSb (i:=0) rfl
  have h0 : ¬ (((c :: r).length : Nat) : Int) < 1:=by rw [List.length_cons]; omega
  simp only [lenS_string, sb_size, binV_int, intBin_lss, h0, decide_false, Run_bindO_some, Run_bind, Run_guardM_ff, Run_ret, Run_optM_some, intBin_gtr, pickV_bool, cond_false]
  by_cases h40 : (c :: r).length <= 40
  case neg =>
   have h1 : (((c :: r).length : Nat) : Int) > 40:=by omega
   have hs : storeP (c :: r) = false:=storeP_no λ h => h40 h.1
   rw [hs, decide_eq_true h1]
   simp only [Run_bindO_some, Run_bind, Run_guardM_tf, pickV_bool, cond_true, Run_condM_true, Run_ret]
   exact ⟨trivial, trivial⟩
  have h1 : ¬ (((c :: r).length : Nat) : Int) > 40:=by omega
  rw [decide_eq_false h1]
  simp only [Run_bindO_some, Run_bind, Run_guardM_ff, Run_ret, hix, Run_optM_some, by8, binV_int, intBin_lss, pickV_bool, cond_false]
  by_cases h97 : 97 <= c.toNat
  case neg =>
   have h2 : (c.toNat : Int) < 97:=by omega
   have hs : storeP (c :: r) = false:=storeP_no λ h => h97 h.2.1
   rw [hs, decide_eq_true h2]
   simp only [Run_bindO_some, Run_bind, Run_guardM_tf, pickV_bool, cond_true, Run_condM_true, Run_ret]
   exact ⟨trivial, trivial⟩
  have h2 : ¬ (c.toNat : Int) < 97:=by omega
  rw [decide_eq_false h2]
  simp only [Run_bindO_some, Run_bind, Run_guardM_ff, Run_ret, hix, Run_optM_some, by8, binV_int, intBin_gtr, pickV_bool, cond_false]
  by_cases h122 : c.toNat <= 122
  case neg =>
   have h3 : (c.toNat : Int) > 122:=by omega
   have hs : storeP (c :: r) = false:=storeP_no λ h => h122 h.2.2
   rw [hs, decide_eq_true h3]
   simp only [Run_bindO_some, Run_condM_true, Run_ret]
   exact ⟨trivial, trivial⟩
  have h3 : ¬ (c.toNat : Int) > 122:=by omega
  have hsp : storeP (c :: r) = (c :: r).all λ c => decide (c ∈ stSet):=storeP_yes ⟨h40, h97, h122⟩
  rw [decide_eq_false h3, hsp]
  simp only [Run_bindO_some, Run_condM_false, Run_bind]
  clear hix h0 h1 h2 h3 h97 h122 h40 hsp
  generalize c :: r = l at *
  obtain ⟨J, hJ, hgood, hend⟩:=far_ex (λ c : UInt8 => decide (c ∈ stSet)) l
  have step : ∀ (i : Nat) (x : UInt8), l[i]? = some x -> ∀ {β : Type} {K : Value -> M β} {Q : β -> World -> Prop}, Run (K (.bool (decide (x ∈ stSet)))) w Q ->
    Run (bindO (idxS (.string (sb l)) (.int .i64 (i : Int))) λ x18 =>
    bindO (binV BinOp.geq x18 (Value.int IntKind.u8 97)) λ x19 =>
    M.bind (guardM x19 true (M.ret x18)) λ x20 =>
    M.bind (guardM x19 true (optM (binV BinOp.leq x20 (Value.int IntKind.u8 122)))) λ x21 =>
    bindO (pickV x19 x21 (Value.bool false)) λ x22 =>
    M.bind (guardM x22 false (M.ret x18)) λ x23 =>
    M.bind (guardM x22 false (optM (binV BinOp.geq x23 (Value.int IntKind.u8 48)))) λ x24 =>
    M.bind (guardM x22 false (M.ret x24)) λ x25 =>
    M.bind (guardM x25 true (M.ret x18)) λ x26 =>
    M.bind (guardM x25 true (optM (binV BinOp.leq x26 (Value.int IntKind.u8 57)))) λ x27 =>
    M.bind (guardM x22 false (optM (pickV x25 x27 (Value.bool false)))) λ x28 =>
    bindO (pickV x22 (Value.bool true) x28) λ x29 =>
    M.bind (guardM x29 false (M.ret x18)) λ x30 =>
    M.bind (guardM x29 false (optM (binV BinOp.eql x30 (Value.int IntKind.u8 45)))) λ x31 =>
    bindO (pickV x29 (Value.bool true) x31) K) w Q:=λ i x hx {β K Q} q => by
   have hiff:=stSet_iff x
   rw [idxSb hx]
   by_cases a1 : 97 <= x.toNat
   ·have b1 : (x.toNat : Int) >= 97:=by omega
    by_cases a2 : x.toNat <= 122
    ·have b2 : (x.toNat : Int) <= 122:=by omega
     rw [decide_eq_true (hiff.2 (.inl (.inl ⟨a1, a2⟩)))] at q
     simp [by8, b1, b2]
     exact q
    ·have b2 : ¬ (x.toNat : Int) <= 122:=by omega
     have b3 : (x.toNat : Int) >= 48:=by omega
     have b4 : ¬ (x.toNat : Int) <= 57:=by omega
     have b5 : ¬ (x.toNat : Int) = 45:=by omega
     rw [decide_eq_false λ h => by have:=hiff.1 h; omega] at q
     simp [by8, b1, b2, b3, b4, b5]
     exact q
   ·have b1 : ¬ (x.toNat : Int) >= 97:=by omega
    by_cases a3 : 48 <= x.toNat
    ·have b3 : (x.toNat : Int) >= 48:=by omega
     by_cases a4 : x.toNat <= 57
     ·have b4 : (x.toNat : Int) <= 57:=by omega
      rw [decide_eq_true (hiff.2 (.inl (.inr ⟨a3, a4⟩)))] at q
      simp [by8, b1, b3, b4]
      exact q
     ·have b4 : ¬ (x.toNat : Int) <= 57:=by omega
      have b5 : ¬ (x.toNat : Int) = 45:=by omega
      rw [decide_eq_false λ h => by have:=hiff.1 h; omega] at q
      simp [by8, b1, b3, b4, b5]
      exact q
    ·have b3 : ¬ (x.toNat : Int) >= 48:=by omega
     by_cases a5 : x.toNat = 45
     ·have b5 : (x.toNat : Int) = 45:=by omega
      rw [decide_eq_true (hiff.2 (.inr a5))] at q
      simp [by8, b1, b3, b5]
      exact q
     ·have b5 : ¬ (x.toNat : Int) = 45:=by omega
      rw [decide_eq_false λ h => by have:=hiff.1 h; omega] at q
      simp [by8, b1, b3, b5]
      exact q
  have n1 : ∀ b, notV (.bool b) = some (.bool !b):=λ _ => rfl
  refine Run_for J (λ i L w' => L = [.int .i64 (i : Int)] /\ w' = w) ⟨rfl, rfl⟩ ?_ ?_
  ·rintro i L w1 hi ⟨rfl, rfl⟩
   obtain ⟨x, hx⟩ : ∃ x, l[i]? = some x:=⟨_, List.getElem?_eq_getElem (by omega)⟩
   have hil : (i : Int) < l.length:=by omega
   rw [getL_zero, Run_bindO_some, lssT hil, Run_bindO_some, Run_condM_true]
   refine step i x hx ?_
   rw [hgood i x hi hx, n1, Run_bindO_some, Bool.not_true, Run_condM_false, binV_int, intBin_add, wrap_succ' (by omega), Run_bindO_some, Run_ret]
   exact ⟨rfl, rfl⟩
  ·rintro L w1 ⟨rfl, rfl⟩
   rcases hend with ⟨rfl, hall⟩ | ⟨x, hx, hp, hall⟩
   ·have hil : ¬ ((l.length : Nat) : Int) < l.length:=by omega
    rw [getL_zero, Run_bindO_some, lssF hil, Run_bindO_some, Run_condM_false, Run_ret, hall]
    simp only [outK_exit]
    rw [show Nat.beq 0 0 = true from rfl, cond_true, Run_ret]
    exact ⟨rfl, rfl⟩
   ·have hil : (J : Int) < l.length:=by have:=(List.getElem?_eq_some_iff.1 hx).1; omega
    rw [getL_zero, Run_bindO_some, lssT hil, Run_bindO_some, Run_condM_true]
    refine step J x hx ?_
    rw [hp, n1, Run_bindO_some, Bool.not_false, Run_condM_true, Run_ret, hall]
    simp only [outK_ret, Run_ret]
    exact ⟨trivial, trivial⟩
end
end Go.Proofs.YthlpfhjcdedhgaaGreatDoor
namespace Go.Proofs.YthlpfhjcdedhgaaGreatDoor
open Go.Lift Go.Sort
set_option linter.unusedSimpArgs false
set_option linter.unusedVariables false
set_option maxHeartbeats 4000000
def VERSION : List UInt8:=[118, 101, 114, 115, 105, 111, 110]
def NODE : List UInt8:=[110, 111, 100, 101]
def PARTS : List UInt8:=[112, 97, 114, 116, 115]
def REPLICAS : List UInt8:=[114, 101, 112, 108, 105, 99, 97, 115]
def WIDTH : List UInt8:=[119, 105, 100, 116, 104]
def CHUNKS : List UInt8:=[99, 104, 117, 110, 107, 115]
def ROWS : List UInt8:=[114, 111, 119, 115]
def STORE : List UInt8:=[115, 116, 111, 114, 101]
def META : List UInt8:=[103, 114, 97, 110, 97, 114, 121, 32, 109, 101, 116, 97, 32, 49]
def metaF : List Fd:=[⟨VERSION, 1, 999999, 1, .func (.func 83) #[] #[]⟩, ⟨NODE, 0, 15, 2, .func (.func 84) #[] #[]⟩, ⟨PARTS, 1, 64, 3, .func (.func 85) #[] #[]⟩, ⟨REPLICAS, 1, 16, 4, .func (.func 86) #[] #[]⟩, ⟨WIDTH, 1, 16, 5, .func (.func 87) #[] #[]⟩, ⟨CHUNKS, 1, 16, 6, .func (.func 88) #[] #[]⟩, ⟨ROWS, 0, 9007199254740992, 7, .func (.func 89) #[] #[]⟩]
structure Mt where
 st : List UInt8
 a : Int
 b : Int
 c : Int
 d : Int
 e : Int
 f : Int
 h : Int
def Mt.at (m : Mt) (i : Nat) : Int:=match i with
 | 1 => m.a
 | 2 => m.b
 | 3 => m.c
 | 4 => m.d
 | 5 => m.e
 | 6 => m.f
 | _ => m.h
def Mt.row (m : Mt) : List Value:=[.string (sb m.st), .int .i64 m.a, .int .i64 m.b, .int .i64 m.c, .int .i64 m.d, .int .i64 m.e, .int .i64 m.f, .int .i64 m.h]
def Mt.v (m : Mt) : Value:=.agg #[.string (sb m.st), .int .i64 m.a, .int .i64 m.b, .int .i64 m.c, .int .i64 m.d, .int .i64 m.e, .int .i64 m.f, .int .i64 m.h]
def Mt.fok (m : Mt) : Bool:=metaF.all λ f => f.inR m.at
def Mt.mok (m : Mt) : Bool:=storeP m.st && m.fok
def metaL (m : Mt) : List UInt8:=META ++ [10] ++ (STORE ++ [32] ++ m.st) ++ [10] ++ fldsL metaF m.at
def metaO (m : Mt) : Value:=if m.mok = true then .tuple #[.string (sb (closeL (metaL m))), .int .i64 0] else .tuple #[.string (sb []), .int .i64 42]
theorem mfok_iff (m : Mt) : m.fok = true ↔ (1 <= m.a /\ m.a <= 999999) /\ (0 <= m.b /\ m.b <= 15) /\ (1 <= m.c /\ m.c <= 64) /\ (1 <= m.d /\ m.d <= 16) /\ (1 <= m.e /\ m.e <= 16) /\ (1 <= m.f /\ m.f <= 16) /\ (0 <= m.h /\ m.h <= 9007199254740992):=by
 simp [Mt.fok, metaF, Fd.inR, Mt.at]
theorem metaF_at (m : Mt) : ∀ f ∈ metaF, m.row[f.off]? = some (.int .i64 (m.at f.off)):=by
 intro f hf
 simp only [metaF, List.mem_cons, List.not_mem_nil, or_false] at hf
 rcases hf with rfl | rfl | rfl | rfl | rfl | rfl | rfl <;> rfl
theorem metaOff (l : List Value) (h : l.length = 8) : ∀ f ∈ metaF, f.off < l.length:=by
 intro f hf
 simp only [metaF, List.mem_cons, List.not_mem_nil, or_false] at hf
 rw [h]
 rcases hf with rfl | rfl | rfl | rfl | rfl | rfl | rfl <;> decide
theorem metaF_ok : ∀ f ∈ metaF, f.Ok:=by
 intro f hf
 simp only [metaF, List.mem_cons, List.not_mem_nil, or_false] at hf
 rcases hf with rfl | rfl | rfl | rfl | rfl | rfl | rfl
 ·exact ⟨λ x w Q q => by
   have e : callV F.clos (.func (.func 83) #[] #[]) [.pointer (some ⟨x, 0, none⟩)] = F.paper_metaFields_1 (.pointer (some ⟨x, 0, none⟩)):=by kernel_rfl
   show Run (callV F.clos (.func (.func 83) #[] #[]) [.pointer (some ⟨x, 0, none⟩)]) w Q
   rw [e]
   unfold F.paper_metaFields_1
   simp
   exact q, ⟨rfl, rfl⟩, by decide, by decide⟩
 ·exact ⟨λ x w Q q => by
   have e : callV F.clos (.func (.func 84) #[] #[]) [.pointer (some ⟨x, 0, none⟩)] = F.paper_metaFields_2 (.pointer (some ⟨x, 0, none⟩)):=by kernel_rfl
   show Run (callV F.clos (.func (.func 84) #[] #[]) [.pointer (some ⟨x, 0, none⟩)]) w Q
   rw [e]
   unfold F.paper_metaFields_2
   simp
   exact q, ⟨rfl, rfl⟩, by decide, by decide⟩
 ·exact ⟨λ x w Q q => by
   have e : callV F.clos (.func (.func 85) #[] #[]) [.pointer (some ⟨x, 0, none⟩)] = F.paper_metaFields_3 (.pointer (some ⟨x, 0, none⟩)):=by kernel_rfl
   show Run (callV F.clos (.func (.func 85) #[] #[]) [.pointer (some ⟨x, 0, none⟩)]) w Q
   rw [e]
   unfold F.paper_metaFields_3
   simp
   exact q, ⟨rfl, rfl⟩, by decide, by decide⟩
 ·exact ⟨λ x w Q q => by
   have e : callV F.clos (.func (.func 86) #[] #[]) [.pointer (some ⟨x, 0, none⟩)] = F.paper_metaFields_4 (.pointer (some ⟨x, 0, none⟩)):=by kernel_rfl
   show Run (callV F.clos (.func (.func 86) #[] #[]) [.pointer (some ⟨x, 0, none⟩)]) w Q
   rw [e]
   unfold F.paper_metaFields_4
   simp
   exact q, ⟨rfl, rfl⟩, by decide, by decide⟩
 ·exact ⟨λ x w Q q => by
   have e : callV F.clos (.func (.func 87) #[] #[]) [.pointer (some ⟨x, 0, none⟩)] = F.paper_metaFields_5 (.pointer (some ⟨x, 0, none⟩)):=by kernel_rfl
   show Run (callV F.clos (.func (.func 87) #[] #[]) [.pointer (some ⟨x, 0, none⟩)]) w Q
   rw [e]
   unfold F.paper_metaFields_5
   simp
   exact q, ⟨rfl, rfl⟩, by decide, by decide⟩
 ·exact ⟨λ x w Q q => by
   have e : callV F.clos (.func (.func 88) #[] #[]) [.pointer (some ⟨x, 0, none⟩)] = F.paper_metaFields_6 (.pointer (some ⟨x, 0, none⟩)):=by kernel_rfl
   show Run (callV F.clos (.func (.func 88) #[] #[]) [.pointer (some ⟨x, 0, none⟩)]) w Q
   rw [e]
   unfold F.paper_metaFields_6
   simp
   exact q, ⟨rfl, rfl⟩, by decide, by decide⟩
 ·exact ⟨λ x w Q q => by
   have e : callV F.clos (.func (.func 89) #[] #[]) [.pointer (some ⟨x, 0, none⟩)] = F.paper_metaFields_7 (.pointer (some ⟨x, 0, none⟩)):=by kernel_rfl
   show Run (callV F.clos (.func (.func 89) #[] #[]) [.pointer (some ⟨x, 0, none⟩)]) w Q
   rw [e]
   unfold F.paper_metaFields_7
   simp
   exact q, ⟨rfl, rfl⟩, by decide, by decide⟩
section
variable {w w1 w2 : World}
theorem mfields_run : Run F.paper_metaFields w λ r w' => SlW 4 w' r (metaF.map Fd.row) /\ Fr (λ _ => False) w w' /\ ∀ c, inB r c -> w.heap.size <= c /\ c < w'.heap.size:=by
 unfold F.paper_metaFields
 have b1 : buildV #[(Value.string ByteArray.empty), (Value.int IntKind.i64 0), (Value.int IntKind.i64 0), Value.nilFunc] [(0, 1, (Value.string (ByteArray.mk #[118, 101, 114, 115, 105, 111, 110]))), (1, 1, (Value.int IntKind.i64 1)), (2, 1, (Value.int IntKind.i64 999999)), (3, 1, (Value.func (Fn.func 83) #[] #[]))] = some (Fd.v ⟨VERSION, 1, 999999, 1, .func (.func 83) #[] #[]⟩):=by kernel_rfl
 have b2 : buildV #[(Value.string ByteArray.empty), (Value.int IntKind.i64 0), (Value.int IntKind.i64 0), Value.nilFunc] [(0, 1, (Value.string (ByteArray.mk #[110, 111, 100, 101]))), (1, 1, (Value.int IntKind.i64 0)), (2, 1, (Value.int IntKind.i64 15)), (3, 1, (Value.func (Fn.func 84) #[] #[]))] = some (Fd.v ⟨NODE, 0, 15, 2, .func (.func 84) #[] #[]⟩):=by kernel_rfl
 have b3 : buildV #[(Value.string ByteArray.empty), (Value.int IntKind.i64 0), (Value.int IntKind.i64 0), Value.nilFunc] [(0, 1, (Value.string (ByteArray.mk #[112, 97, 114, 116, 115]))), (1, 1, (Value.int IntKind.i64 1)), (2, 1, (Value.int IntKind.i64 64)), (3, 1, (Value.func (Fn.func 85) #[] #[]))] = some (Fd.v ⟨PARTS, 1, 64, 3, .func (.func 85) #[] #[]⟩):=by kernel_rfl
 have b4 : buildV #[(Value.string ByteArray.empty), (Value.int IntKind.i64 0), (Value.int IntKind.i64 0), Value.nilFunc] [(0, 1, (Value.string (ByteArray.mk #[114, 101, 112, 108, 105, 99, 97, 115]))), (1, 1, (Value.int IntKind.i64 1)), (2, 1, (Value.int IntKind.i64 16)), (3, 1, (Value.func (Fn.func 86) #[] #[]))] = some (Fd.v ⟨REPLICAS, 1, 16, 4, .func (.func 86) #[] #[]⟩):=by kernel_rfl
 have b5 : buildV #[(Value.string ByteArray.empty), (Value.int IntKind.i64 0), (Value.int IntKind.i64 0), Value.nilFunc] [(0, 1, (Value.string (ByteArray.mk #[119, 105, 100, 116, 104]))), (1, 1, (Value.int IntKind.i64 1)), (2, 1, (Value.int IntKind.i64 16)), (3, 1, (Value.func (Fn.func 87) #[] #[]))] = some (Fd.v ⟨WIDTH, 1, 16, 5, .func (.func 87) #[] #[]⟩):=by kernel_rfl
 have b6 : buildV #[(Value.string ByteArray.empty), (Value.int IntKind.i64 0), (Value.int IntKind.i64 0), Value.nilFunc] [(0, 1, (Value.string (ByteArray.mk #[99, 104, 117, 110, 107, 115]))), (1, 1, (Value.int IntKind.i64 1)), (2, 1, (Value.int IntKind.i64 16)), (3, 1, (Value.func (Fn.func 88) #[] #[]))] = some (Fd.v ⟨CHUNKS, 1, 16, 6, .func (.func 88) #[] #[]⟩):=by kernel_rfl
 have b7 : buildV #[(Value.string ByteArray.empty), (Value.int IntKind.i64 0), (Value.int IntKind.i64 0), Value.nilFunc] [(0, 1, (Value.string (ByteArray.mk #[114, 111, 119, 115]))), (1, 1, (Value.int IntKind.i64 0)), (2, 1, (Value.int IntKind.i64 9007199254740992)), (3, 1, (Value.func (Fn.func 89) #[] #[]))] = some (Fd.v ⟨ROWS, 0, 9007199254740992, 7, .func (.func 89) #[] #[]⟩):=by kernel_rfl
 rw [b1, Run_bindO_some, b2, Run_bindO_some, b3, Run_bindO_some, b4, Run_bindO_some, b5, Run_bindO_some, b6, Run_bindO_some, b7, Run_bindO_some, Run_bind]
 refine Run_bsl (k:=4) (vs:=metaF.map Fd.v) (by kernel_rfl) (by intro v hv; simp only [metaF, List.map_cons, List.map_nil, List.mem_cons, List.not_mem_nil, or_false] at hv; rcases hv with rfl | rfl | rfl | rfl | rfl | rfl | rfl <;> rfl) rfl (by kernel_rfl) λ r w' hr f hb => ?_
 rw [Run_ret]
 exact ⟨hr, f, λ c hc => ⟨Nat.le_of_eq (hb c hc).1.symm, (hb c hc).2⟩⟩
theorem rmf_run (m : Mt) (hl : m.st.length <= 4611686018427387904) : Run (F.granaryref4_metaFields m.v) w λ r w' => r = .int .i64 (if m.mok = true then 0 else 42) /\ Fr (λ _ => False) w w':=by
 unfold F.granaryref4_metaFields
 rw [Run_bind]
 refine Run_new λ x w1 hx hxw f1 hxle => ?_
 replace hx : bk w1 x = some m.row:=hx
 have l0 : ld1 (.pointer (some ⟨x, 0 + 0, none⟩)) w1 = some (.string (sb m.st)):=by rw [ld1_ptr, hx]; rfl
 rw [fieldA_ptr, Run_bindO_some, Run_bind, Run_rdM]
 refine ⟨_, l0, ?_⟩
 rw [Run_bind]
 refine (rstore_run m.st hl).mono ?_
 rintro _ w2 ⟨rfl, rfl⟩
 have hp:=mfok_iff m
 have hmok : m.mok = (storeP m.st && m.fok):=rfl
 cases hs : storeP m.st with
 | false =>
  rw [hmok, hs, Bool.false_and]
  simp [f1]
 | true =>
  rw [hmok, hs, Bool.true_and]
  clear hmok l0
  by_cases h1 : 1 <= m.a /\ m.a <= 999999
  case neg =>
   have hn : ¬ m.fok = true:=λ h => h1 (hp.1 h).1
   simp [-ldA_ptr, hx, Mt.row, Run_in, h1, hn, f1]
  by_cases h2 : 0 <= m.b /\ m.b <= 15
  case neg =>
   have hn : ¬ m.fok = true:=λ h => h2 (hp.1 h).2.1
   simp [-ldA_ptr, hx, Mt.row, Run_in, h1, h2, hn, f1]
  by_cases h3 : 1 <= m.c /\ m.c <= 64
  case neg =>
   have hn : ¬ m.fok = true:=λ h => h3 (hp.1 h).2.2.1
   simp [-ldA_ptr, hx, Mt.row, Run_in, h1, h2, h3, hn, f1]
  by_cases h4 : 1 <= m.d /\ m.d <= 16
  case neg =>
   have hn : ¬ m.fok = true:=λ h => h4 (hp.1 h).2.2.2.1
   simp [-ldA_ptr, hx, Mt.row, Run_in, h1, h2, h3, h4, hn, f1]
  by_cases h5 : 1 <= m.e /\ m.e <= 16
  case neg =>
   have hn : ¬ m.fok = true:=λ h => h5 (hp.1 h).2.2.2.2.1
   simp [-ldA_ptr, hx, Mt.row, Run_in, h1, h2, h3, h4, h5, hn, f1]
  by_cases h6 : 1 <= m.f /\ m.f <= 16
  case neg =>
   have hn : ¬ m.fok = true:=λ h => h6 (hp.1 h).2.2.2.2.2.1
   simp [-ldA_ptr, hx, Mt.row, Run_in, h1, h2, h3, h4, h5, h6, hn, f1]
  by_cases h7 : 0 <= m.h /\ m.h <= 9007199254740992
  case neg =>
   have hn : ¬ m.fok = true:=λ h => h7 (hp.1 h).2.2.2.2.2.2
   simp [-ldA_ptr, hx, Mt.row, Run_in, h1, h2, h3, h4, h5, h6, h7, hn, f1]
  have hn : m.fok = true:=hp.2 ⟨h1, h2, h3, h4, h5, h6, h7⟩
  simp [-ldA_ptr, hx, Mt.row, Run_in, h1, h2, h3, h4, h5, h6, h7, hn, f1]
end
theorem fldsL_len {fs : List Fd} (hok : ∀ f ∈ fs, f.Ok) {g : Nat -> Int} (hr : ∀ f ∈ fs, f.inR g = true) : (fldsL fs g).length <= fs.length * 122:=by
 have : ∀ (l : List Fd), (∀ f ∈ l, f ∈ fs) -> (fldsL l g).length <= l.length * 122:=λ l => by
  induction l with
  | nil => intro _; simp [fldsL]
  | cons f l ih =>
   intro hm
   have hf:=hm f (by simp)
   have h1:=ih λ f hf => hm f (List.mem_cons_of_mem _ hf)
   have r1:=hr f hf
   unfold Fd.inR at r1
   have r2:=of_decide_eq_true r1
   have r3:=(hok f hf).low
   have r4:=(hok f hf).word.2.1
   have h5:=dec_len (n:=(g f.off).toNat) (by omega)
   simp only [fldsL, fldL, List.map_cons, List.flatten_cons, List.length_append, List.length_cons, List.length_singleton, List.length_nil] at h1 ⊢
   omega
 exact this fs λ _ h => h
theorem meta_len {m : Mt} (h : m.mok = true) : (metaL m).length <= 1000:=by
 have h' : (storeP m.st && m.fok) = true:=h
 rw [Bool.and_eq_true] at h'
 have h1:=(storeP_len h'.1).2.1
 have h2:=fldsL_len metaF_ok (g:=m.at) λ f hf => List.all_eq_true.1 h'.2 f hf
 have h3 : metaF.length = 7:=rfl
 have h4 : META.length = 14:=rfl
 have h5 : STORE.length = 5:=rfl
 simp only [metaL, List.length_append, List.length_singleton, h4, h5]
 omega
section
variable {w w1 w2 : World}
theorem mprint_run (ht : Tb w) (n : Mt) (hl : n.st.length <= 4611686018427387904) : Run (F.paper_PrintMeta n.v) w λ r w' => r = metaO n /\ Fr (λ _ => False) w w':=by
 unfold F.paper_PrintMeta
 rw [Run_bind]
 refine Run_new λ x wa hx hxw fa hxle => ?_
 replace hx : bk wa x = some n.row:=hx
 have e0 : ByteArray.mk #[] = sb []:=rfl
 have eL : ByteArray.mk #[103, 114, 97, 110, 97, 114, 121, 32, 109, 101, 116, 97, 32, 49] = sb META:=rfl
 have eS : ByteArray.mk #[115, 116, 111, 114, 101] = sb STORE:=rfl
 have hnv : ∀ b, notV (.bool b) = some (.bool !b):=λ _ => rfl
 have l0 : ∀ {u : World}, bk u x = some n.row -> ld1 (.pointer (some ⟨x, 0 + 0, none⟩)) u = some (.string (sb n.st)):=λ h => by rw [ld1_ptr, h]; rfl
 have hmok : n.mok = (storeP n.st && n.fok):=rfl
 rw [fieldA_ptr, Run_bindO_some, Run_bind, Run_rdM]
 refine ⟨_, l0 hx, ?_⟩
 rw [Run_bind]
 refine (storeOK_run n.st hl).mono ?_
 rintro _ w1 ⟨rfl, f1a⟩
 have f1:=fa.trans f1a λ _ _ => id
 have hx:=f1a.bk_some hx id
 rw [hnv, Run_bindO_some]
 cases hs : storeP n.st with
 | false =>
  simp only [Bool.not_false, Run_bind, Run_guardM_tf, pickV_bool, cond_true, Run_bindO_some, Run_condM_true, Run_ret]
  have hm : n.mok = false:=by rw [hmok, hs, Bool.false_and]
  rw [metaO, hm, e0]
  exact ⟨by rw [if_neg (by simp)], f1⟩
 | true =>
 rw [hs, Bool.true_and] at hmok
 simp only [Bool.not_true, Run_bind, Run_guardM_ff]
 refine mfields_run.mono ?_
 rintro t w2 ⟨ht2, f2, hn2⟩
 refine (Me.ranges_run ht2.1 metaF_ok (f2.bk_some hx id) (metaF_at n) (by decide)).mono ?_
 rintro _ w3 ⟨rfl, f3⟩
 have f13:=(f1.trans f2 λ _ _ => id).trans f3 λ _ _ => id
 have hx3:=f3.bk_some (f2.bk_some hx id) id
 rw [hnv, Run_optM_some]
 simp only [pickV_bool, cond_false, Run_bindO_some]
 cases hok : n.fok with
 | false =>
  have hok' : (metaF.all λ f => f.inR n.at) = false:=hok
  rw [hok', Bool.not_false, Run_condM_true, Run_ret, metaO, hmok, hok]
  exact ⟨by rw [if_neg (by simp), e0], f13⟩
 | true =>
  have hok' : (metaF.all λ f => f.inR n.at) = true:=hok
  have hmt : n.mok = true:=by rw [hmok, hok]
  obtain ⟨sl1, sl2, sl3⟩:=storeP_len hs
  have z0 : buildV #[(Value.pointer none), (Value.slice none 0 0)] [] = some (.agg #[(Value.pointer none), (Value.slice none 0 0)]):=rfl
  rw [hok', Bool.not_true, Run_condM_false, z0, Run_bindO_some, Run_bind]
  refine bgNew λ b w4 hB f4 => ?_
  rw [eL, Run_bind]
  refine Run_bsl (k:=1) (vs:=[.string (sb META)]) (by rfl) (by intro v hv; simp only [List.mem_singleton] at hv; subst hv; rfl) rfl (by kernel_rfl) λ r w5 hr f5 _ => ?_
  rw [Run_bind]
  refine (line_run (hB.frm f5) (xs:=[META]) hr.1 (by rw [join_one]; decide) (by decide) (by rw [join_one]; decide) (by simp [sb_size]; decide) (by decide)).mono ?_
  rintro _ w6 ⟨hB6, f6⟩
  rw [join_one, List.nil_append] at hB6
  have low:=tb_low (ht.fr0 f13)
  have hx4:=bk_lt hx3
  have f36 : Fr (λ c => ¬ c < w3.heap.size) w3 w6:=((f4.trans f5 λ _ _ => id).mono λ _ h => h.elim).trans f6 λ _ _ hc => hc
  have hx6:=f36.bk_some hx3 λ hn => hn hx4
  rw [Run_bindO_some, Run_bind, Run_rdM]
  refine ⟨_, l0 hx6, ?_⟩
  rw [eS, Run_bind]
  refine Run_bsl (k:=1) (vs:=[.string (sb STORE), .string (sb n.st)]) (by rfl) (by intro v hv; simp only [List.mem_cons, List.not_mem_nil, or_false] at hv; rcases hv with rfl | rfl <;> rfl) rfl (by kernel_rfl) λ r2 wb hr2 fb _ => ?_
  have hM : META.length = 14:=rfl
  have hS : STORE.length = 5:=rfl
  rw [Run_bind]
  refine (line_run (hB6.frm fb) (xs:=[STORE, n.st]) hr2.1 (by rw [join_two]; simp [STORE]) (by simp) (by rw [join_two]; simp only [List.length_append, List.length_singleton]; omega) (by simp only [List.map_cons, List.map_nil, List.sum_cons, List.sum_nil, sb_size]; omega) (by decide)).mono ?_
  rintro _ wc ⟨hBc, fc⟩
  rw [join_two] at hBc
  rw [Run_bind]
  refine mfields_run.mono ?_
  rintro t2 w7 ⟨ht7, f7, hn7⟩
  have hB7:=hBc.more f7
  have f37 : Fr (λ c => ¬ c < w3.heap.size) w3 w7:=((f36.trans fb λ _ _ h => h.elim).trans fc λ _ _ hc => hc).trans f7 λ _ _ h => h.elim
  have t7:=(ht.fr0 f13).fr f37 λ c hc hn => hn (by omega)
  rw [Run_bind]
  refine (Me.write_run hB7 t7 (λ c hc => .inl (by omega)) (λ c hc => .inr (hn7 c hc)) ht7.1 metaF_ok (f37.bk_some hx3 λ hn => hn hx4) (.inl hx4) (metaF_at n) (λ f hf => List.all_eq_true.1 hok' f hf) (by decide) (by simp only [List.length_append, List.length_singleton]; omega)).mono ?_
  rintro _ w8 ⟨hB8, f8⟩
  have t8:=t7.fr f8 λ c hc hn => hn (.inl (by omega))
  have f38 : Fr (λ c => ¬ c < w3.heap.size) w3 w8:=f37.trans f8 λ c _ hc h => hc (.inl h)
  have hpl : (metaL n).length <= 100000:=by have:=meta_len hmt; omega
  have ee : META ++ [10] ++ (STORE ++ [32] ++ n.st ++ [10]) ++ fldsL metaF n.at = metaL n:=by simp [metaL]
  rw [Run_bind]
  first
   | rw [ee] at hB8
   | (have ee2 : META ++ [10] ++ (STORE ++ [32] ++ n.st) ++ [10] ++ fldsL metaF n.at = metaL n:=by simp [metaL]
      rw [ee2] at hB8)
  refine (closed_run t8 hB8 (by simp [metaL, META]) (by omega) (λ c hc => .inl (by omega))).mono ?_
  rintro _ w9 ⟨rfl, f9⟩
  rw [Run_ret, metaO, if_pos hmt]
  refine ⟨rfl, f13.trans (f38.trans f9 λ c _ hc h => hc (.inl h)) λ c hc hn => hn ?_⟩
  have:=f13.size
  omega
end
section
variable {w w1 w2 : World}
theorem itoa_int (ht : Tb w) {z : Int} (h0 : 0 <= z) (h1 : z < 9223372036854775808) : Run (F.strconv_Itoa (.int .i64 z)) w λ r w' => r = .string (sb (Lib.decDigits z.toNat)) /\ Fr (λ _ => False) w w':=by
 obtain ⟨n, rfl⟩ : ∃ n : Nat, z = n:=⟨z.toNat, by omega⟩
 exact itoa_run ht (by omega)
def U0 : List UInt8:=[103, 114, 97, 110, 97, 114, 121, 32, 109, 101, 116, 97, 32, 49, 10, 115, 116, 111, 114, 101, 32]
def U1 : List UInt8:=[10, 118, 101, 114, 115, 105, 111, 110, 32]
def U2 : List UInt8:=[10, 110, 111, 100, 101, 32]
def U3 : List UInt8:=[10, 112, 97, 114, 116, 115, 32]
def U4 : List UInt8:=[10, 114, 101, 112, 108, 105, 99, 97, 115, 32]
def U5 : List UInt8:=[10, 119, 105, 100, 116, 104, 32]
def U6 : List UInt8:=[10, 99, 104, 117, 110, 107, 115, 32]
def U7 : List UInt8:=[10, 114, 111, 119, 115, 32]
theorem meta_parts (m : Mt) : metaL m = U0 ++ m.st ++ U1 ++ Lib.decDigits m.a.toNat ++ U2 ++ Lib.decDigits m.b.toNat ++ U3 ++ Lib.decDigits m.c.toNat ++ U4 ++ Lib.decDigits m.d.toNat ++ U5 ++ Lib.decDigits m.e.toNat ++ U6 ++ Lib.decDigits m.f.toNat ++ U7 ++ Lib.decDigits m.h.toNat ++ [10]:=by
 simp [metaL, fldsL, metaF, fldL, Mt.at, META, STORE, VERSION, NODE, PARTS, REPLICAS, WIDTH, CHUNKS, ROWS, U0, U1, U2, U3, U4, U5, U6, U7]
theorem rmprint_run (ht : Tb w) (n : Mt) (hl : n.st.length <= 4611686018427387904) : Run (F.granaryref4_PrintMeta n.v) w λ r w' => r = metaO n /\ Fr (λ _ => False) w w':=by
 unfold F.granaryref4_PrintMeta
 rw [Run_bind]
 refine Run_new λ x w1 hx hxw f1 hxle => ?_
 have hxa : ldA 8 (.pointer (some ⟨x, 0, none⟩)) w1 = some n.v:=ldA_bk hx (Nat.le_refl _)
 replace hx : bk w1 x = some n.row:=hx
 rw [Run_bind, Run_rdM]
 refine ⟨_, hxa, ?_⟩
 rw [Run_bind]
 refine (rmf_run n hl).mono ?_
 rintro _ u0 ⟨rfl, f2⟩
 have e0 : ByteArray.mk #[] = sb []:=rfl
 by_cases hok : n.mok = true
 case neg =>
  rw [if_neg hok]
  have h42 : (!decide ((42 : Int) = 0)) = true:=by decide
  rw [binV_int, intBin_neq, h42, Run_bindO_some, Run_condM_true, Run_ret, metaO, if_neg hok, e0]
  exact ⟨rfl, f1.trans f2 λ _ _ => id⟩
 rw [if_pos hok]
 have h00 : (!decide ((0 : Int) = 0)) = false:=by decide
 rw [binV_int, intBin_neq, h00, Run_bindO_some, Run_condM_false, metaO, if_pos hok]
 have hok' : (storeP n.st && n.fok) = true:=hok
 rw [Bool.and_eq_true] at hok'
 have hlen:=meta_len hok
 have hpp:=meta_parts n
 have hst:=(storeP_len hok'.1).2.1
 have hp:=(mfok_iff n).1 hok'.2
 have hx0:=f2.bk_some hx id
 have f0:=f1.trans f2 λ _ _ => id
 have t0:=ht.fr0 f0
 clear hxa hx
 obtain ⟨st, a, b, c, d, e, f, h⟩:=n
 simp only at hp hst
 obtain ⟨hpa, hpb, hpc, hpd, hpe, hpf, hph⟩:=hp
 have la:=dec_len (n:=a.toNat) (by omega)
 have lb:=dec_len (n:=b.toNat) (by omega)
 have lc:=dec_len (n:=c.toNat) (by omega)
 have ld:=dec_len (n:=d.toNat) (by omega)
 have le:=dec_len (n:=e.toNat) (by omega)
 have lf:=dec_len (n:=f.toNat) (by omega)
 have lh:=dec_len (n:=h.toNat) (by omega)
 have qU0 : U0.length = 21:=rfl
 have qU1 : U1.length = 9:=rfl
 have qU2 : U2.length = 6:=rfl
 have qU3 : U3.length = 7:=rfl
 have qU4 : U4.length = 10:=rfl
 have qU5 : U5.length = 7:=rfl
 have qU6 : U6.length = 8:=rfl
 have qU7 : U7.length = 6:=rfl
 have eU0 : ByteArray.mk #[103, 114, 97, 110, 97, 114, 121, 32, 109, 101, 116, 97, 32, 49, 10, 115, 116, 111, 114, 101, 32] = sb U0:=rfl
 have eU1 : ByteArray.mk #[10, 118, 101, 114, 115, 105, 111, 110, 32] = sb U1:=rfl
 have eU2 : ByteArray.mk #[10, 110, 111, 100, 101, 32] = sb U2:=rfl
 have eU3 : ByteArray.mk #[10, 112, 97, 114, 116, 115, 32] = sb U3:=rfl
 have eU4 : ByteArray.mk #[10, 114, 101, 112, 108, 105, 99, 97, 115, 32] = sb U4:=rfl
 have eU5 : ByteArray.mk #[10, 119, 105, 100, 116, 104, 32] = sb U5:=rfl
 have eU6 : ByteArray.mk #[10, 99, 104, 117, 110, 107, 115, 32] = sb U6:=rfl
 have eU7 : ByteArray.mk #[10, 114, 111, 119, 115, 32] = sb U7:=rfl
 have eN : ByteArray.mk #[10] = sb [10]:=rfl
 have lc0 : ∀ {u : World}, bk u x = some (Mt.row ⟨st, a, b, c, d, e, f, h⟩) -> ld1 (.pointer (some ⟨x, 0 + 0, none⟩)) u = some (.string (sb st)):=λ h => by rw [ld1_ptr, h]; rfl
 have lc1 : ∀ {u : World}, bk u x = some (Mt.row ⟨st, a, b, c, d, e, f, h⟩) -> ld1 (.pointer (some ⟨x, 0 + 1, none⟩)) u = some (.int .i64 a):=λ h => by rw [ld1_ptr, h]; rfl
 have lc2 : ∀ {u : World}, bk u x = some (Mt.row ⟨st, a, b, c, d, e, f, h⟩) -> ld1 (.pointer (some ⟨x, 0 + 2, none⟩)) u = some (.int .i64 b):=λ h => by rw [ld1_ptr, h]; rfl
 have lc3 : ∀ {u : World}, bk u x = some (Mt.row ⟨st, a, b, c, d, e, f, h⟩) -> ld1 (.pointer (some ⟨x, 0 + 3, none⟩)) u = some (.int .i64 c):=λ h => by rw [ld1_ptr, h]; rfl
 have lc4 : ∀ {u : World}, bk u x = some (Mt.row ⟨st, a, b, c, d, e, f, h⟩) -> ld1 (.pointer (some ⟨x, 0 + 4, none⟩)) u = some (.int .i64 d):=λ h => by rw [ld1_ptr, h]; rfl
 have lc5 : ∀ {u : World}, bk u x = some (Mt.row ⟨st, a, b, c, d, e, f, h⟩) -> ld1 (.pointer (some ⟨x, 0 + 5, none⟩)) u = some (.int .i64 e):=λ h => by rw [ld1_ptr, h]; rfl
 have lc6 : ∀ {u : World}, bk u x = some (Mt.row ⟨st, a, b, c, d, e, f, h⟩) -> ld1 (.pointer (some ⟨x, 0 + 6, none⟩)) u = some (.int .i64 f):=λ h => by rw [ld1_ptr, h]; rfl
 have lc7 : ∀ {u : World}, bk u x = some (Mt.row ⟨st, a, b, c, d, e, f, h⟩) -> ld1 (.pointer (some ⟨x, 0 + 7, none⟩)) u = some (.int .i64 h):=λ h => by rw [ld1_ptr, h]; rfl
 rw [eU0, eU1, eU2, eU3, eU4, eU5, eU6, eU7, eN]
 rw [Run_drewM]
 have hx1 : bk u0.drew x = some _:=hx0
 have t1:=t0.fr0 (show Fr (λ _ => False) u0 u0.drew from (Fr.refl _ _).drew)
 have f1:=f0.drew
 generalize u0.drew = u1 at *
 rw [Run_getM]
 first | rw [fieldA_ptr, Run_bindO_some] | rw [Run_bindO_some]
 rw [Run_bind, Run_rdM]
 refine ⟨_, lc0 hx1, ?_⟩
 rw [sbAdd (a:=U0) (c:=st) (by first | omega | (simp only [List.length_append, List.length_singleton]; omega)), Run_bindO_some]
 rw [sbAdd (a:=U0 ++ st) (c:=U1) (by first | omega | (simp only [List.length_append, List.length_singleton]; omega)), Run_bindO_some]
 first | rw [fieldA_ptr, Run_bindO_some] | rw [Run_bindO_some]
 rw [Run_bind, Run_rdM]
 refine ⟨_, lc1 hx1, ?_⟩
 rw [Run_bind]
 refine (itoa_int t1 (by omega) (by omega)).mono ?_
 rintro _ u2 ⟨rfl, g2⟩
 have hx2:=g2.bk_some hx1 id
 have t2:=t1.fr0 g2
 have f2:=f1.trans g2 λ _ _ => id
 rw [Run_getM]
 rw [sbAdd (a:=U0 ++ st ++ U1) (c:=Lib.decDigits (a).toNat) (by first | omega | (simp only [List.length_append, List.length_singleton]; omega)), Run_bindO_some]
 rw [sbAdd (a:=U0 ++ st ++ U1 ++ Lib.decDigits (a).toNat) (c:=U2) (by first | omega | (simp only [List.length_append, List.length_singleton]; omega)), Run_bindO_some]
 first | rw [fieldA_ptr, Run_bindO_some] | rw [Run_bindO_some]
 rw [Run_bind, Run_rdM]
 refine ⟨_, lc2 hx2, ?_⟩
 rw [Run_bind]
 refine (itoa_int t2 (by omega) (by omega)).mono ?_
 rintro _ u3 ⟨rfl, g3⟩
 have hx3:=g3.bk_some hx2 id
 have t3:=t2.fr0 g3
 have f3:=f2.trans g3 λ _ _ => id
 rw [Run_getM]
 rw [sbAdd (a:=U0 ++ st ++ U1 ++ Lib.decDigits (a).toNat ++ U2) (c:=Lib.decDigits (b).toNat) (by first | omega | (simp only [List.length_append, List.length_singleton]; omega)), Run_bindO_some]
 rw [Run_reqM]
 refine ⟨lc0 hx2, ?_⟩
 rw [Run_reqM]
 refine ⟨lc0 hx3, ?_⟩
 rw [Run_reqM]
 refine ⟨lc2 hx1, ?_⟩
 rw [Run_drewM]
 have hx4 : bk u3.drew x = some _:=hx3
 have t4:=t3.fr0 (show Fr (λ _ => False) u3 u3.drew from (Fr.refl _ _).drew)
 have f4:=f3.drew
 generalize u3.drew = u4 at *
 rw [Run_getM]
 rw [sbAdd (a:=U0 ++ st ++ U1 ++ Lib.decDigits (a).toNat ++ U2 ++ Lib.decDigits (b).toNat) (c:=U3) (by first | omega | (simp only [List.length_append, List.length_singleton]; omega)), Run_bindO_some]
 first | rw [fieldA_ptr, Run_bindO_some] | rw [Run_bindO_some]
 rw [Run_bind, Run_rdM]
 refine ⟨_, lc3 hx4, ?_⟩
 rw [Run_bind]
 refine (itoa_int t4 (by omega) (by omega)).mono ?_
 rintro _ u5 ⟨rfl, g5⟩
 have hx5:=g5.bk_some hx4 id
 have t5:=t4.fr0 g5
 have f5:=f4.trans g5 λ _ _ => id
 rw [Run_getM]
 rw [sbAdd (a:=U0 ++ st ++ U1 ++ Lib.decDigits (a).toNat ++ U2 ++ Lib.decDigits (b).toNat ++ U3) (c:=Lib.decDigits (c).toNat) (by first | omega | (simp only [List.length_append, List.length_singleton]; omega)), Run_bindO_some]
 rw [sbAdd (a:=U0 ++ st ++ U1 ++ Lib.decDigits (a).toNat ++ U2 ++ Lib.decDigits (b).toNat ++ U3 ++ Lib.decDigits (c).toNat) (c:=U4) (by first | omega | (simp only [List.length_append, List.length_singleton]; omega)), Run_bindO_some]
 first | rw [fieldA_ptr, Run_bindO_some] | rw [Run_bindO_some]
 rw [Run_bind, Run_rdM]
 refine ⟨_, lc4 hx5, ?_⟩
 rw [Run_bind]
 refine (itoa_int t5 (by omega) (by omega)).mono ?_
 rintro _ u6 ⟨rfl, g6⟩
 have hx6:=g6.bk_some hx5 id
 have t6:=t5.fr0 g6
 have f6:=f5.trans g6 λ _ _ => id
 rw [Run_getM]
 rw [sbAdd (a:=U0 ++ st ++ U1 ++ Lib.decDigits (a).toNat ++ U2 ++ Lib.decDigits (b).toNat ++ U3 ++ Lib.decDigits (c).toNat ++ U4) (c:=Lib.decDigits (d).toNat) (by first | omega | (simp only [List.length_append, List.length_singleton]; omega)), Run_bindO_some]
 rw [sbAdd (a:=U0 ++ st ++ U1 ++ Lib.decDigits (a).toNat ++ U2 ++ Lib.decDigits (b).toNat ++ U3 ++ Lib.decDigits (c).toNat ++ U4 ++ Lib.decDigits (d).toNat) (c:=U5) (by first | omega | (simp only [List.length_append, List.length_singleton]; omega)), Run_bindO_some]
 first | rw [fieldA_ptr, Run_bindO_some] | rw [Run_bindO_some]
 rw [Run_bind, Run_rdM]
 refine ⟨_, lc5 hx6, ?_⟩
 rw [Run_bind]
 refine (itoa_int t6 (by omega) (by omega)).mono ?_
 rintro _ u7 ⟨rfl, g7⟩
 have hx7:=g7.bk_some hx6 id
 have t7:=t6.fr0 g7
 have f7:=f6.trans g7 λ _ _ => id
 rw [Run_getM]
 rw [sbAdd (a:=U0 ++ st ++ U1 ++ Lib.decDigits (a).toNat ++ U2 ++ Lib.decDigits (b).toNat ++ U3 ++ Lib.decDigits (c).toNat ++ U4 ++ Lib.decDigits (d).toNat ++ U5) (c:=Lib.decDigits (e).toNat) (by first | omega | (simp only [List.length_append, List.length_singleton]; omega)), Run_bindO_some]
 rw [Run_reqM]
 refine ⟨lc4 hx4, ?_⟩
 rw [Run_reqM]
 refine ⟨lc5 hx4, ?_⟩
 rw [Run_reqM]
 refine ⟨lc5 hx5, ?_⟩
 rw [Run_drewM]
 have hx8 : bk u7.drew x = some _:=hx7
 have t8:=t7.fr0 (show Fr (λ _ => False) u7 u7.drew from (Fr.refl _ _).drew)
 have f8:=f7.drew
 generalize u7.drew = u8 at *
 rw [Run_getM]
 rw [sbAdd (a:=U0 ++ st ++ U1 ++ Lib.decDigits (a).toNat ++ U2 ++ Lib.decDigits (b).toNat ++ U3 ++ Lib.decDigits (c).toNat ++ U4 ++ Lib.decDigits (d).toNat ++ U5 ++ Lib.decDigits (e).toNat) (c:=U6) (by first | omega | (simp only [List.length_append, List.length_singleton]; omega)), Run_bindO_some]
 first | rw [fieldA_ptr, Run_bindO_some] | rw [Run_bindO_some]
 rw [Run_bind, Run_rdM]
 refine ⟨_, lc6 hx8, ?_⟩
 rw [Run_bind]
 refine (itoa_int t8 (by omega) (by omega)).mono ?_
 rintro _ u9 ⟨rfl, g9⟩
 have hx9:=g9.bk_some hx8 id
 have t9:=t8.fr0 g9
 have f9:=f8.trans g9 λ _ _ => id
 rw [Run_getM]
 rw [sbAdd (a:=U0 ++ st ++ U1 ++ Lib.decDigits (a).toNat ++ U2 ++ Lib.decDigits (b).toNat ++ U3 ++ Lib.decDigits (c).toNat ++ U4 ++ Lib.decDigits (d).toNat ++ U5 ++ Lib.decDigits (e).toNat ++ U6) (c:=Lib.decDigits (f).toNat) (by first | omega | (simp only [List.length_append, List.length_singleton]; omega)), Run_bindO_some]
 rw [sbAdd (a:=U0 ++ st ++ U1 ++ Lib.decDigits (a).toNat ++ U2 ++ Lib.decDigits (b).toNat ++ U3 ++ Lib.decDigits (c).toNat ++ U4 ++ Lib.decDigits (d).toNat ++ U5 ++ Lib.decDigits (e).toNat ++ U6 ++ Lib.decDigits (f).toNat) (c:=U7) (by first | omega | (simp only [List.length_append, List.length_singleton]; omega)), Run_bindO_some]
 first | rw [fieldA_ptr, Run_bindO_some] | rw [Run_bindO_some]
 rw [Run_bind, Run_rdM]
 refine ⟨_, lc7 hx9, ?_⟩
 rw [Run_bind]
 refine (itoa_int t9 (by omega) (by omega)).mono ?_
 rintro _ u10 ⟨rfl, g10⟩
 have hx10:=g10.bk_some hx9 id
 have t10:=t9.fr0 g10
 have f10:=f9.trans g10 λ _ _ => id
 rw [Run_getM]
 rw [sbAdd (a:=U0 ++ st ++ U1 ++ Lib.decDigits (a).toNat ++ U2 ++ Lib.decDigits (b).toNat ++ U3 ++ Lib.decDigits (c).toNat ++ U4 ++ Lib.decDigits (d).toNat ++ U5 ++ Lib.decDigits (e).toNat ++ U6 ++ Lib.decDigits (f).toNat ++ U7) (c:=Lib.decDigits (h).toNat) (by first | omega | (simp only [List.length_append, List.length_singleton]; omega)), Run_bindO_some]
 rw [sbAdd (a:=U0 ++ st ++ U1 ++ Lib.decDigits (a).toNat ++ U2 ++ Lib.decDigits (b).toNat ++ U3 ++ Lib.decDigits (c).toNat ++ U4 ++ Lib.decDigits (d).toNat ++ U5 ++ Lib.decDigits (e).toNat ++ U6 ++ Lib.decDigits (f).toNat ++ U7 ++ Lib.decDigits (h).toNat) (c:=[10]) (by first | omega | (simp only [List.length_append, List.length_singleton]; omega)), Run_bindO_some]
 rw [Run_reqM]
 refine ⟨lc7 hx8, ?_⟩
 rw [Run_bind]
 refine (rclosed_run _ (by simp only [List.length_append, List.length_singleton]; omega)).mono ?_
 rintro _ v ⟨rfl, g⟩
 rw [Run_ret, hpp]
 exact ⟨rfl, f10.trans g λ _ _ => id⟩
end
theorem tw_at {P : UInt8 -> Bool} : ∀ (l : List UInt8) (i : Nat), i < (l.takeWhile P).length -> ∃ c, l[i]? = some c /\ P c = true
 | [], i, h => absurd h (by simp)
 | x :: l, i, h => by
  rw [List.takeWhile_cons] at h
  split at h
  ·rename_i hx
   cases i with
   | zero => exact ⟨x, rfl, hx⟩
   | succ i =>
    obtain ⟨c, h1, h2⟩:=tw_at l i (by simpa using h)
    exact ⟨c, by simpa using h1, h2⟩
  ·simp at h
theorem tw_end {P : UInt8 -> Bool} : ∀ (l : List UInt8) (c : UInt8), l[(l.takeWhile P).length]? = some c -> P c = false
 | [], c, h => by simp at h
 | x :: l, c, h => by
  rw [List.takeWhile_cons] at h
  split at h
  ·rename_i hx
   exact tw_end l c (by simpa using h)
  ·rename_i hx
   simp at h
   subst h
   simpa using hx
theorem tw_app {P : UInt8 -> Bool} {d r : List UInt8} (hd : ∀ c ∈ d, P c = true) (hr : ∀ c, r.head? = some c -> P c = false) : (d ++ r).takeWhile P = d:=by
 induction d with
 | nil =>
  cases r with
  | nil => rfl
  | cons x r =>
   have:=hr x rfl
   simp [List.takeWhile_cons, this]
 | cons x d ih =>
  have:=hd x (by simp)
  rw [List.cons_append, List.takeWhile_cons, this]
  simp only [if_true]
  rw [ih λ c hc => hd c (by simp [hc])]
def wdC (c : UInt8) : Bool:=decide (c ≠ 32) && decide (c ≠ 10)
def wdD (l : List UInt8) (p : Nat) : List UInt8:=(l.drop p).takeWhile wdC
theorem wdD_le (l : List UInt8) (p : Nat) : (wdD l p).length <= l.length - p:=by
 unfold wdD
 have:=(List.takeWhile_prefix (p:=wdC) (l:=l.drop p)).length_le
 rwa [List.length_drop] at this
theorem wdC_iff {c : UInt8} : wdC c = true ↔ ¬ (c.toNat : Int) = 32 /\ ¬ (c.toNat : Int) = 10:=by
 have e : ∀ k : UInt8, c = k ↔ (c.toNat : Int) = (k.toNat : Nat):=λ k => by
  rw [<- UInt8.toNat_inj]; omega
 unfold wdC
 simp only [Bool.and_eq_true, decide_eq_true_eq, ne_eq, e]
 exact Iff.rfl
theorem wd_pre (l : List UInt8) (p : Nat) : l.drop p = wdD l p ++ l.drop (p + (wdD l p).length):=by
 have h:=List.takeWhile_prefix (p:=wdC) (l:=l.drop p)
 obtain ⟨t, ht⟩:=h
 have ht' : wdD l p ++ t = l.drop p:=ht
 rw [<- List.drop_drop, <- ht', List.drop_left]
theorem wd_mem {l : List UInt8} {p : Nat} : (32 : UInt8) ∉ wdD l p /\ (10 : UInt8) ∉ wdD l p:=by
 have h : ∀ c ∈ wdD l p, wdC c = true:=λ c hc => by
  obtain ⟨i, hi⟩:=List.getElem?_of_mem hc
  have hil:=(List.getElem?_eq_some_iff.1 hi).1
  obtain ⟨c', h1, h2⟩:=tw_at (l.drop p) i hil
  have h3:=List.takeWhile_prefix (p:=wdC) (l:=l.drop p)
  obtain ⟨t, ht⟩:=h3
  have ht' : wdD l p ++ t = l.drop p:=ht
  rw [<- ht', List.getElem?_append_left hil, hi] at h1
  rw [Option.some.inj h1]; exact h2
 exact ⟨λ hc => absurd (h _ hc) (by decide), λ hc => absurd (h _ hc) (by decide)⟩
section
variable {w w1 w2 : World}
theorem rword_run {b p : Nat} {l : List UInt8} {bad : Bool} (h : RS w b l p bad) (hp : p <= l.length) (hl : l.length <= 4611686018427387904) :
  Run (F.granaryref4_Reader_word (.pointer (some ⟨b, 0, none⟩))) w λ r w' => r = .string (sb (wdD l p)) /\ RS w' b l (p + (wdD l p).length) (bad || decide (wdD l p = [])) /\ Fr (λ c => c = b) w w':=by
 unfold F.granaryref4_Reader_word
 obtain ⟨hb, hw⟩:=id h
 have la : ld1 (.pointer (some ⟨b, 0 + 1, none⟩)) w = some (.int .i64 (p : Int)):=by rw [ld1_ptr, hb]; rfl
 have hwd:=wdD_le l p
 rw [nilChk_ptr, Run_bindO_some, fieldA_ptr, Run_bindO_some, Run_bind, Run_rdM]
 refine ⟨_, la, ?_⟩
 rw [Run_bind]
 have hlen : (sb l).size = l.length:=sb_size l
 refine Run_for (wdD l p).length (λ i L w' => L = [] /\ RS w' b l (p + i) bad /\ Fr (λ c => c = b) w w') ⟨rfl, h, Fr.refl _ _⟩ ?_ ?_
 ·rintro i L w1 hi ⟨rfl, ⟨hb1, hw1⟩, f1⟩
  obtain ⟨c, hc, hP⟩:=tw_at (l.drop p) i hi
  rw [List.getElem?_drop] at hc
  obtain ⟨n32, n10⟩:=wdC_iff.1 hP
  have hlt:=(List.getElem?_eq_some_iff.1 hc).1
  have ix:=idxSb (kd:=.i64) hc
  have wq:=wrap_succ' (n:=p + i) (by omega)
  rw [show p + (i + 1) = p + i + 1 by omega]
  generalize p + i = q at *
  have h1 : (q : Int) < l.length:=by omega
  simp [-ldA_ptr, hb1, hlen, h1, ix, by8, n32, n10, wq, hw1]
  have hR : RS w1.drew b l q bad:=⟨hb1, hw1⟩
  exact ⟨hR.at (q + 1), (f1.drew).sto (.inl rfl) _ _⟩
 ·rintro L w1 ⟨rfl, ⟨hb1, hw1⟩, f1⟩
  have hend:=tw_end (P:=wdC) (l.drop p)
  have hde : wdD l p = (l.drop p).takeWhile wdC:=rfl
  rw [<- hde] at hend
  have htk : (l.drop p).take (wdD l p).length = wdD l p:=by
   obtain ⟨t, ht⟩:=List.takeWhile_prefix (p:=wdC) (l:=l.drop p)
   have ht' : wdD l p ++ t = l.drop p:=ht
   rw [<- ht', List.take_left]
  refine Run.mono (Q:=λ o w' => o = .exit 0 [] /\ RS w' b l (p + (wdD l p).length) bad /\ Fr (λ c => c = b) w w') ?_ ?_
  ·have hR : RS w1.drew b l (p + (wdD l p).length) bad:=⟨hb1, hw1⟩
   by_cases e1 : p + (wdD l p).length < l.length
   ·obtain ⟨c, hc⟩ : ∃ c, l[p + (wdD l p).length]? = some c:=⟨_, List.getElem?_eq_getElem e1⟩
    have hng:=hend c (by rw [List.getElem?_drop]; exact hc)
    have ix:=idxSb (kd:=.i64) hc
    have h1 : ((p + (wdD l p).length : Nat) : Int) < l.length:=by omega
    generalize p + (wdD l p).length = q at *
    by_cases e3 : (c.toNat : Int) = 32
    ·simp [-ldA_ptr, hb1, hlen, h1, ix, by8, e3, hR, f1.drew]
    ·have e4 : (c.toNat : Int) = 10:=by
      by_cases e4 : (c.toNat : Int) = 10
      ·exact e4
      ·rw [wdC_iff.2 ⟨e3, e4⟩] at hng; cases hng
     simp [-ldA_ptr, hb1, hlen, h1, ix, by8, e4, hR, f1.drew]
   ·have h1 : ¬ ((p + (wdD l p).length : Nat) : Int) < l.length:=by omega
    generalize p + (wdD l p).length = q at *
    simp [-ldA_ptr, hb1, hlen, h1, hR, f1.drew]
  ·rintro _ w2 ⟨rfl, hR2, f2⟩
   clear hw1 hb1 f1
   obtain ⟨hb2, hw2⟩:=hR2
   have hR2 : RS w2 b l (p + (wdD l p).length) bad:=⟨hb2, hw2⟩
   have hsl : sliceS (.string (sb l)) (some (.int .i64 (p : Int))) (some (.int .i64 ((p + (wdD l p).length : Nat) : Int))) = some (.string (sb (wdD l p))):=by
    have h3 : (l.take (p + (wdD l p).length)).drop p = wdD l p:=by rw [List.drop_take, Nat.add_sub_cancel_left, htk]
    rw [slBoth (by omega) (by omega), h3]
   by_cases hz : wdD l p = []
   ·have hz0 : (wdD l p).length = 0:=by rw [hz]; rfl
    have he : (((p + (wdD l p).length : Nat) : Int) = p):=by omega
    have hbadR:=hR2.bad
    have hbadF : Fr (λ c => c = b) w (sto w2 b 2 [.bool true]):=f2.sto (.inl rfl) _ _
    rw [decide_eq_true hz, Bool.or_true]
    generalize p + (wdD l p).length = q at *
    simp [-ldA_ptr, hb2, he, hw2, hsl]
    rw [he] at hsl
    simp [hsl]
    exact ⟨hbadR, hbadF.drew⟩
   ·have hz0 : (wdD l p).length ≠ 0:=by simpa using hz
    have he : ¬ (((p + (wdD l p).length : Nat) : Int) = p):=by omega
    rw [decide_eq_false hz, Bool.or_false]
    generalize p + (wdD l p).length = q at *
    simp [-ldA_ptr, hb2, he, hw2, hsl]
    exact ⟨hR2, f2.drew⟩
structure RQ (w0 w : World) (b : Nat) (l : List UInt8) (p : Nat) (bad : Bool) (x6 : Nat) (l6 : List Value) : Prop where
 rs : RS w b l p bad
 hp : p <= l.length
 b6 : bk w x6 = some l6
 w6 : wr w x6 = true
 ne : x6 ≠ b
 fr : Fr (λ c => c = b ∨ c = x6) w0 w
section
variable {β : Type} {w0 : World} {b p : Nat} {l : List UInt8} {bad : Bool} {x6 : Nat} {l6 : List Value}
theorem RQ.call (h : RQ w0 w b l p bad x6 l6) (f : Fr (λ c => c = b) w w2) {p' : Nat} {bad' : Bool} (rs : RS w2 b l p' bad') (hp : p' <= l.length) : RQ w0 w2 b l p' bad' x6 l6 :=
 ⟨rs, hp, f.bk_some h.b6 h.ne, by rw [f.wr (bk_lt h.b6) h.ne]; exact h.w6, h.ne, h.fr.trans f λ _ _ he => .inl he⟩
theorem RQ.put6 (h : RQ w0 w b l p bad x6 l6) (i : Nat) (y : Value) : RQ w0 (sto w x6 i [y]) b l p bad x6 (l6.set i y):=by
 have f : Fr (λ c => c = x6) w (sto w x6 i [y]):=(show Fr (λ c => c = x6) w w from Fr.refl _ _).sto (.inl rfl) _ _
 exact ⟨⟨f.bk_some h.rs.1 λ e => h.ne e.symm, by rw [wr_sto]; exact h.rs.2⟩, h.hp, by rw [bk_sto_same h.b6]; simp only [setL_cons, setL_nil], by rw [wr_sto]; exact h.w6, h.ne, h.fr.trans f λ _ _ he => .inr he⟩
theorem RQ.put {K : M β} {Q : β -> World -> Prop} (h : RQ w0 w b l p bad x6 l6) {i : Nat} (hi : i < l6.length) {y : Value} (hy : isCell y = true) (q : ∀ w', RQ w0 w' b l p bad x6 (l6.set i y) -> Run K w' Q) :
  Run (bindO (fieldA i (.pointer (some ⟨x6, 0, none⟩))) λ x9 => M.bind (stM 1 x9 y) λ _ => K) w Q:=by
 rw [fieldA_ptr, Run_bindO_some, Run_bind, Run_st1 ⟨⟨⟨l6, h.b6, by omega⟩, h.w6⟩, hy⟩, Nat.zero_add]
 exact q _ (h.put6 i y)
theorem RQ.litA (h : RQ w0 w b l p bad x6 l6) (hl : l.length <= 4611686018427387904) {y : List UInt8} (hy : y.length <= 4611686018427387904) {K : M β} {Q : β -> World -> Prop}
  (q : ∀ w' p' bad', RQ w0 w' b l p' bad' x6 l6 -> (bad' = false -> bad = false /\ l.drop p = y ++ l.drop p') -> Run K w' Q) :
  Run (M.bind (F.granaryref4_Reader_lit (.pointer (some ⟨b, 0, none⟩)) (.string (sb y))) λ _ => K) w Q:=by
 rw [Run_bind]
 refine (rlit_run h.rs h.hp hl hy).mono ?_
 rintro _ w2 ⟨⟨p', rs, hp', hh⟩, f⟩
 exact q w2 p' _ (h.call f rs hp') λ hb => lit_good hb hh
theorem RQ.litG (h : RQ w0 w b l p false x6 l6) (hl : l.length <= 4611686018427387904) {y r : List UInt8} (hy : y.length <= 4611686018427387904) (hd : l.drop p = y ++ r) {K : M β} {Q : β -> World -> Prop}
  (q : ∀ w' p', RQ w0 w' b l p' false x6 l6 -> l.drop p' = r -> Run K w' Q) :
  Run (M.bind (F.granaryref4_Reader_lit (.pointer (some ⟨b, 0, none⟩)) (.string (sb y))) λ _ => K) w Q:=by
 rw [Run_bind]
 refine (rlit_run h.rs h.hp hl hy).mono ?_
 rintro _ w2 ⟨⟨p', rs, hp', hh⟩, f⟩
 obtain ⟨h1, h2⟩:=lit_step hd
 rw [decide_eq_true h1] at rs
 have e:=hh rfl h1
 exact q w2 p' (h.call f rs hp') (by rw [e]; exact h2)
theorem RQ.numA (h : RQ w0 w b l p bad x6 l6) (hl : l.length <= 4611686018427387904) {K : Value -> M β} {Q : β -> World -> Prop}
  (q : ∀ w' p' bad' (z : Int), RQ w0 w' b l p' bad' x6 l6 -> (bad' = false -> bad = false /\ ∃ d v, numF d = some v /\ z = (v : Int) /\ l.drop p = d ++ l.drop p') -> Run (K (.int .i64 z)) w' Q) :
  Run (M.bind (F.granaryref4_Reader_number (.pointer (some ⟨b, 0, none⟩))) K) w Q:=by
 rw [Run_bind]
 refine (rnum_run h.rs h.hp hl).mono ?_
 rintro _ w2 ⟨rfl, rs, f⟩
 have hd:=rdD_len l p
 have hple:=h.hp
 refine q w2 _ _ _ (h.call f rs (by omega)) λ hb => ?_
 obtain ⟨h1, ⟨v, hv⟩, h3⟩:=num_good hb
 exact ⟨h1, rdD l p, v, hv, by rw [hv]; rfl, h3⟩
theorem RQ.numG (h : RQ w0 w b l p false x6 l6) (hl : l.length <= 4611686018427387904) {d r : List UInt8} {v : Nat} (hd : l.drop p = d ++ r) (hn : numF d = some v) (hr : ∀ c, r.head? = some c -> isD c = false) {K : Value -> M β} {Q : β -> World -> Prop}
  (q : ∀ w' p', RQ w0 w' b l p' false x6 l6 -> l.drop p' = r -> Run (K (.int .i64 (v : Int))) w' Q) :
  Run (M.bind (F.granaryref4_Reader_number (.pointer (some ⟨b, 0, none⟩))) K) w Q:=by
 rw [Run_bind]
 refine (rnum_run h.rs h.hp hl).mono ?_
 rintro _ w2 ⟨rfl, rs, f⟩
 have hle:=rdD_len l p
 have hple:=h.hp
 obtain ⟨e1, e2⟩:=num_at hn hd hr
 rw [e1] at rs e2 hle ⊢
 rw [hn] at rs ⊢
 exact q w2 _ (h.call f rs (by omega)) e2
theorem RQ.wordA (h : RQ w0 w b l p bad x6 l6) (hl : l.length <= 4611686018427387904) {K : Value -> M β} {Q : β -> World -> Prop}
  (q : ∀ w' p' bad' s, RQ w0 w' b l p' bad' x6 l6 -> (bad' = false -> bad = false /\ s ≠ [] /\ (32 : UInt8) ∉ s /\ (10 : UInt8) ∉ s /\ l.drop p = s ++ l.drop p') -> Run (K (.string (sb s))) w' Q) :
  Run (M.bind (F.granaryref4_Reader_word (.pointer (some ⟨b, 0, none⟩))) K) w Q:=by
 rw [Run_bind]
 refine (rword_run h.rs h.hp hl).mono ?_
 rintro _ w2 ⟨rfl, rs, f⟩
 have hle:=wdD_le l p
 have hple:=h.hp
 refine q w2 _ _ _ (h.call f rs (by omega)) λ hb => ?_
 simp only [Bool.or_eq_false_iff, decide_eq_false_iff_not] at hb
 exact ⟨hb.1, hb.2, wd_mem.1, wd_mem.2, wd_pre l p⟩
theorem RQ.wordG (h : RQ w0 w b l p false x6 l6) (hl : l.length <= 4611686018427387904) {d r : List UInt8} (hd : l.drop p = d ++ r) (h0 : d ≠ []) (h32 : (32 : UInt8) ∉ d) (h10 : (10 : UInt8) ∉ d) (hr : ∀ c, r.head? = some c -> wdC c = false) {K : Value -> M β} {Q : β -> World -> Prop}
  (q : ∀ w' p', RQ w0 w' b l p' false x6 l6 -> l.drop p' = r -> Run (K (.string (sb d))) w' Q) :
  Run (M.bind (F.granaryref4_Reader_word (.pointer (some ⟨b, 0, none⟩))) K) w Q:=by
 rw [Run_bind]
 refine (rword_run h.rs h.hp hl).mono ?_
 rintro _ w2 ⟨rfl, rs, f⟩
 have hle:=wdD_le l p
 have hple:=h.hp
 have e1 : wdD l p = d:=by
  unfold wdD
  rw [hd]
  refine tw_app (λ c hc => ?_) hr
  have n1 : c ≠ 32:=λ e => h32 (e ▸ hc)
  have n2 : c ≠ 10:=λ e => h10 (e ▸ hc)
  unfold wdC
  rw [decide_eq_true n1, decide_eq_true n2]; rfl
 have e2:=wd_pre l p
 rw [e1] at rs e2 hle ⊢
 rw [decide_eq_false h0] at rs
 rw [hd] at e2
 exact q w2 _ (h.call f rs (by omega)) (List.append_cancel_left e2).symm
end
end
structure MForm (t : List UInt8) (m : Mt) (sm : Nat) (d1 d2 d3 d4 d5 d6 d7 e : List UInt8) : Prop where
 txt : t = U0 ++ (m.st ++ (U1 ++ (d1 ++ (U2 ++ (d2 ++ (U3 ++ (d3 ++ (U4 ++ (d4 ++ (U5 ++ (d5 ++ (U6 ++ (d6 ++ (U7 ++ (d7 ++ ([10] ++ (SUM ++ e ++ [10])))))))))))))))))
 st0 : m.st ≠ []
 st32 : (32 : UInt8) ∉ m.st
 st10 : (10 : UInt8) ∉ m.st
 na : ∃ v : Nat, numF d1 = some v /\ m.a = v
 nb : ∃ v : Nat, numF d2 = some v /\ m.b = v
 nc : ∃ v : Nat, numF d3 = some v /\ m.c = v
 nd : ∃ v : Nat, numF d4 = some v /\ m.d = v
 ne : ∃ v : Nat, numF d5 = some v /\ m.e = v
 nf : ∃ v : Nat, numF d6 = some v /\ m.f = v
 nh : ∃ v : Nat, numF d7 = some v /\ m.h = v
 sum : sumF e = some sm
def mform (t : List UInt8) (m : Mt) (sm : Nat) : Prop:=∃ d1 d2 d3 d4 d5 d6 d7 e, MForm t m sm d1 d2 d3 d4 d5 d6 d7 e
def zMt : Mt:=⟨[], 0, 0, 0, 0, 0, 0, 0⟩
def mansV (t : List UInt8) (m : Mt) (sm : Nat) : Value:=if sm = crcF (sb (t.take (t.length - 13))) then (if m.mok = true then .tuple #[m.v, .int .i64 0] else .tuple #[zMt.v, .int .i64 42]) else .tuple #[zMt.v, .int .i64 41]
section
variable {w w1 w2 : World}
theorem finN_run {n x1 : Nat} {l1 : List Value} (h1 : bk w x1 = some l1) (hw1 : wr w x1 = true) (cs : Array Value) (hs : cs.size = n + 1) (hl : l1.length = n + 1) (hc : cs.toList.all isCell = true) {K : Value -> World -> Prop} (q : ∀ w', Fr (λ c => c = x1) w w' -> K (.agg cs) w') :
  Run (stM (n + 1) (.pointer (some ⟨x1, 0, none⟩)) (.agg cs)) w λ _ w' => Run (rdM (ldA (n + 1) (.pointer (some ⟨x1, 0, none⟩)))) w' K:=by
 rw [Run_stA ⟨⟨⟨_, h1, by omega⟩, hw1⟩, hs, hc⟩, Run_rdM]
 have hb:=bk_sto_same (o:=0) h1 cs.toList
 have hcl : cs.toList.length = n + 1:=by rw [Array.length_toList, hs]
 have he : setL l1 0 cs.toList = cs.toList:=by
  rw [setL_eq _ _ _ (by omega), List.drop_of_length_le (by omega)]
  simp
 rw [he] at hb
 refine ⟨_, ?_, q _ ((show Fr (λ c => c = x1) w w from Fr.refl _ _).sto (.inl rfl) _ _)⟩
 rw [ldA_bk hb (by omega), List.drop_zero, <- hcl, List.take_length]
theorem mrow_cell (m : Mt) : m.row.toArray.toList.all isCell = true:=by
 simp [Mt.row]
theorem rmend_run {x1 x6 : Nat} (h1 : bk w x1 = some zMt.row) (hw1 : wr w x1 = true) {m : Mt} (h6 : bk w x6 = some m.row) (c : Int) (hm : c = 0 -> m.st.length <= 4611686018427387904) {Q : Value -> World -> Prop}
  (q : ∀ w', Fr (λ c => c = x1) w w' -> Q (if c = 0 then (if m.mok = true then .tuple #[m.v, .int .i64 0] else .tuple #[zMt.v, .int .i64 42]) else .tuple #[zMt.v, .int .i64 c]) w') :
  Run (M.bind (
  bindO (binV BinOp.eql (.int .i64 c) (Value.int IntKind.i64 0)) λ x41 =>
  condM x41 (
   M.bind (rdM (ldA 8 (.pointer (some ⟨x6, 0, none⟩)))) λ x42 =>
   M.bind (F.granaryref4_metaFields x42) λ x43 =>
   M.ret (Out.norm [x43])) (
   M.ret (Out.norm [.int .i64 c]))) λ o45 =>
 outK o45 (λ l44 =>
  bindO (binV BinOp.neq (getL l44 0) (Value.int IntKind.i64 0)) λ x48 =>
  condM x48 (
   bindO (buildV #[(Value.string ByteArray.empty), (Value.int IntKind.i64 0), (Value.int IntKind.i64 0), (Value.int IntKind.i64 0), (Value.int IntKind.i64 0), (Value.int IntKind.i64 0), (Value.int IntKind.i64 0), (Value.int IntKind.i64 0)] []) λ x49 =>
   M.bind (stM 8 (.pointer (some ⟨x1, 0, none⟩)) x49) λ _ =>
   M.bind (rdM (ldA 8 (.pointer (some ⟨x1, 0, none⟩)))) λ x51 =>
   M.ret (Value.tuple #[x51, (getL l44 0)])) (
   M.bind (rdM (ldA 8 (.pointer (some ⟨x6, 0, none⟩)))) λ x52 =>
   M.bind (stM 8 (.pointer (some ⟨x1, 0, none⟩)) x52) λ _ =>
   M.bind (rdM (ldA 8 (.pointer (some ⟨x1, 0, none⟩)))) λ x54 =>
   M.ret (Value.tuple #[x54, (Value.int IntKind.i64 0)]))) (λ _ _ =>
  M.fail) (λ r47 => M.ret r47)) w Q:=by
 have z0 : buildV #[(Value.string ByteArray.empty), (Value.int IntKind.i64 0), (Value.int IntKind.i64 0), (Value.int IntKind.i64 0), (Value.int IntKind.i64 0), (Value.int IntKind.i64 0), (Value.int IntKind.i64 0), (Value.int IntKind.i64 0)] [] = some (.agg zMt.row.toArray):=rfl
 have bad : ∀ (d : Int) {w2 : World}, Fr (λ _ => False) w w2 -> ¬ d = 0 -> (∀ w', Fr (λ c => c = x1) w w' -> Q (.tuple #[zMt.v, .int .i64 d]) w') -> Run (bindO (binV BinOp.neq (getL [.int .i64 d] 0) (Value.int IntKind.i64 0)) λ x48 =>
  condM x48 (
   bindO (buildV #[(Value.string ByteArray.empty), (Value.int IntKind.i64 0), (Value.int IntKind.i64 0), (Value.int IntKind.i64 0), (Value.int IntKind.i64 0), (Value.int IntKind.i64 0), (Value.int IntKind.i64 0), (Value.int IntKind.i64 0)] []) λ x49 =>
   M.bind (stM 8 (.pointer (some ⟨x1, 0, none⟩)) x49) λ _ =>
   M.bind (rdM (ldA 8 (.pointer (some ⟨x1, 0, none⟩)))) λ x51 =>
   M.ret (Value.tuple #[x51, (getL [.int .i64 d] 0)])) (
   M.bind (rdM (ldA 8 (.pointer (some ⟨x6, 0, none⟩)))) λ x52 =>
   M.bind (stM 8 (.pointer (some ⟨x1, 0, none⟩)) x52) λ _ =>
   M.bind (rdM (ldA 8 (.pointer (some ⟨x1, 0, none⟩)))) λ x54 =>
   M.ret (Value.tuple #[x54, (Value.int IntKind.i64 0)]))) w2 Q:=λ d {w2} f hd hq => by
  rw [getL_zero, binV_int, intBin_neq, decide_eq_false hd, Bool.not_false, Run_bindO_some, Run_condM_true, z0, Run_bindO_some]
  simp only [Run_bind]
  refine finN_run (f.bk_some h1 id) (by rw [f.wr (bk_lt h1) id]; exact hw1) zMt.row.toArray rfl rfl (mrow_cell zMt) λ w3 f3 => ?_
  rw [Run_ret]
  exact hq w3 ((f.mono λ _ h => h.elim).trans f3 λ _ _ h => h)
 rw [Run_bind, binV_int, intBin_eql, Run_bindO_some]
 by_cases hc : c = 0
 ·have l6 : ldA 8 (.pointer (some ⟨x6, 0, none⟩)) w = some m.v:=ldA_bk h6 (Nat.le_refl _)
  rw [decide_eq_true hc, Run_condM_true, Run_bind, Run_rdM]
  refine ⟨_, l6, ?_⟩
  rw [Run_bind]
  refine (rmf_run m (hm hc)).mono ?_
  rintro _ w2 ⟨rfl, f2⟩
  rw [if_pos hc] at q
  rw [Run_ret, outK_norm]
  by_cases hk : m.mok = true
  ·rw [if_pos hk] at q ⊢
   have l6g : ldA 8 (.pointer (some ⟨x6, 0, none⟩)) w2 = some (.agg m.row.toArray):=ldA_bk (f2.bk_some h6 id) (Nat.le_refl _)
   have h00 : (!decide ((0 : Int) = 0)) = false:=by decide
   rw [getL_zero, binV_int, intBin_neq, h00, Run_bindO_some, Run_condM_false, Run_bind, Run_rdM]
   refine ⟨_, l6g, ?_⟩
   simp only [Run_bind]
   refine finN_run (f2.bk_some h1 id) (by rw [f2.wr (bk_lt h1) id]; exact hw1) m.row.toArray rfl rfl (mrow_cell m) λ w3 f3 => ?_
   rw [Run_ret]
   exact q w3 ((f2.mono λ _ h => h.elim).trans f3 λ _ _ h => h)
  ·rw [if_neg hk] at q ⊢
   exact bad 42 f2 (by decide) q
 ·rw [decide_eq_false hc, Run_condM_false, Run_ret, outK_norm]
  rw [if_neg hc] at q
  exact bad c (Fr.refl _ _) hc q
theorem rmparse_yes {l : List UInt8} {m : Mt} {sm : Nat} (hl : l.length <= 4294960000) (hf : mform l m sm) : Run (F.granaryref4_ParseMeta (.string (sb l))) w λ r w' => r = mansV l m sm /\ Fr (λ _ => False) w w':=by
 obtain ⟨d1, d2, d3, d4, d5, d6, d7, e, hf⟩:=hf
 have hdg : ∀ (y r : List UInt8), y.head? = some 10 -> ∀ c, (y ++ r).head? = some c -> isD c = false /\ wdC c = false:=by
  intro y r hy c hc
  cases y with
  | nil => cases hy
  | cons z y =>
   simp only [List.head?_cons, Option.some.injEq, List.cons_append] at hy hc
   rw [<- hc, hy]; exact ⟨rfl, rfl⟩
 obtain ⟨v1, g1, r1⟩:=hf.na
 obtain ⟨v2, g2, r2⟩:=hf.nb
 obtain ⟨v3, g3, r3⟩:=hf.nc
 obtain ⟨v4, g4, r4⟩:=hf.nd
 obtain ⟨v5, g5, r5⟩:=hf.ne
 obtain ⟨v6, g6, r6⟩:=hf.nf
 obtain ⟨v7, g7, r7⟩:=hf.nh
 unfold F.granaryref4_ParseMeta
 have z0 : buildV #[(Value.string ByteArray.empty), (Value.int IntKind.i64 0), (Value.int IntKind.i64 0), (Value.int IntKind.i64 0), (Value.int IntKind.i64 0), (Value.int IntKind.i64 0), (Value.int IntKind.i64 0), (Value.int IntKind.i64 0)] [] = some (.agg zMt.row.toArray):=rfl
 have bld : buildV #[(Value.string ByteArray.empty), (Value.int IntKind.i64 0), (Value.bool false)] [(0, 1, .string (sb l))] = some (.agg #[.string (sb l), .int .i64 0, .bool false]):=rfl
 have eU0 : ByteArray.mk #[103, 114, 97, 110, 97, 114, 121, 32, 109, 101, 116, 97, 32, 49, 10, 115, 116, 111, 114, 101, 32] = sb U0:=rfl
 have eU1 : ByteArray.mk #[10, 118, 101, 114, 115, 105, 111, 110, 32] = sb U1:=rfl
 have eU2 : ByteArray.mk #[10, 110, 111, 100, 101, 32] = sb U2:=rfl
 have eU3 : ByteArray.mk #[10, 112, 97, 114, 116, 115, 32] = sb U3:=rfl
 have eU4 : ByteArray.mk #[10, 114, 101, 112, 108, 105, 99, 97, 115, 32] = sb U4:=rfl
 have eU5 : ByteArray.mk #[10, 119, 105, 100, 116, 104, 32] = sb U5:=rfl
 have eU6 : ByteArray.mk #[10, 99, 104, 117, 110, 107, 115, 32] = sb U6:=rfl
 have eU7 : ByteArray.mk #[10, 114, 111, 119, 115, 32] = sb U7:=rfl
 have e10 : ByteArray.mk #[10] = sb [10]:=rfl
 rw [Run_bind]
 refine Run_new λ x1 wa hx1 hw1 fa hx1le => ?_
 replace hx1 : bk wa x1 = some zMt.row:=hx1
 rw [bld, Run_bindO_some, Run_bind]
 refine Run_new λ b wb hb hwb fb hble => ?_
 rw [z0, Run_bindO_some, Run_bind]
 refine Run_new λ x6 wc hx6 hw6 fc hx6le => ?_
 rw [Run_bind, Run_stA (n:=8) ⟨⟨⟨_, hx6, by simp⟩, hw6⟩, rfl, mrow_cell zMt⟩]
 have l1:=bk_lt hx1
 have lb:=bk_lt hb
 have s1:=fb.size
 have s2:=fc.size
 have sa:=fa.size
 have n0 : RQ wc (sto wc x6 0 zMt.row) b l 0 false x6 zMt.row:=by
  have f : Fr (λ c => c = x6) wc (sto wc x6 0 zMt.row):=(show Fr (λ c => c = x6) wc wc from Fr.refl _ _).sto (.inl rfl) _ _
  exact ⟨⟨f.bk_some (fc.bk_some hb id) λ e => by omega, by rw [wr_sto, fc.wr lb id]; exact hwb⟩, by omega, by rw [bk_sto_same hx6]; rfl, by rw [wr_sto]; exact hw6, by omega, f.mono λ _ h => .inr h⟩
 have hx1c : bk wc x1 = some zMt.row:=fc.bk_some (fb.bk_some hx1 id) id
 have hw1c : wr wc x1 = true:=by rw [fc.wr (bk_lt (fb.bk_some hx1 id)) id, fb.wr l1 id]; exact hw1
 have fac : Fr (λ _ => False) w wc:=(fa.trans fb λ _ _ => id).trans fc λ _ _ => id
 have hne : ¬ (x1 = b ∨ x1 = x6):=by omega
 rw [eU0, eU1, eU2, eU3, eU4, eU5, eU6, eU7, e10]
 have hd0 : l.drop 0 = U0 ++ (m.st ++ (U1 ++ (d1 ++ (U2 ++ (d2 ++ (U3 ++ (d3 ++ (U4 ++ (d4 ++ (U5 ++ (d5 ++ (U6 ++ (d6 ++ (U7 ++ (d7 ++ ([10] ++ (SUM ++ e ++ [10]))))))))))))))))):=by rw [List.drop_zero]; exact hf.txt
 have hst0:=hf.st0
 have hst32:=hf.st32
 have hst10:=hf.st10
 have hee:=hf.sum
 have htx:=hf.txt
 clear hf
 refine n0.litG (by omega) (by decide) hd0 λ ws p1 n1 hd1 => ?_
 refine n1.wordG (by omega) hd1 hst0 hst32 hst10 (λ c hc => (hdg U1 _ rfl c hc).2) λ ws p2 n2 hd2 => ?_
 refine n2.put (i:=0) (by simp [zMt, Mt.row]) rfl λ ws n3 => ?_
 have hd3:=hd2
 refine n3.litG (by omega) (by decide) hd3 λ ws p4 n4 hd4 => ?_
 refine n4.numG (by omega) hd4 g1 (λ c hc => (hdg U2 _ rfl c hc).1) λ ws p5 n5 hd5 => ?_
 refine n5.put (i:=1) (by simp [zMt, Mt.row]) rfl λ ws n6 => ?_
 have hd6:=hd5
 refine n6.litG (by omega) (by decide) hd6 λ ws p7 n7 hd7 => ?_
 refine n7.numG (by omega) hd7 g2 (λ c hc => (hdg U3 _ rfl c hc).1) λ ws p8 n8 hd8 => ?_
 refine n8.put (i:=2) (by simp [zMt, Mt.row]) rfl λ ws n9 => ?_
 have hd9:=hd8
 refine n9.litG (by omega) (by decide) hd9 λ ws p10 n10 hd10 => ?_
 refine n10.numG (by omega) hd10 g3 (λ c hc => (hdg U4 _ rfl c hc).1) λ ws p11 n11 hd11 => ?_
 refine n11.put (i:=3) (by simp [zMt, Mt.row]) rfl λ ws n12 => ?_
 have hd12:=hd11
 refine n12.litG (by omega) (by decide) hd12 λ ws p13 n13 hd13 => ?_
 refine n13.numG (by omega) hd13 g4 (λ c hc => (hdg U5 _ rfl c hc).1) λ ws p14 n14 hd14 => ?_
 refine n14.put (i:=4) (by simp [zMt, Mt.row]) rfl λ ws n15 => ?_
 have hd15:=hd14
 refine n15.litG (by omega) (by decide) hd15 λ ws p16 n16 hd16 => ?_
 refine n16.numG (by omega) hd16 g5 (λ c hc => (hdg U6 _ rfl c hc).1) λ ws p17 n17 hd17 => ?_
 refine n17.put (i:=5) (by simp [zMt, Mt.row]) rfl λ ws n18 => ?_
 have hd18:=hd17
 refine n18.litG (by omega) (by decide) hd18 λ ws p19 n19 hd19 => ?_
 refine n19.numG (by omega) hd19 g6 (λ c hc => (hdg U7 _ rfl c hc).1) λ ws p20 n20 hd20 => ?_
 refine n20.put (i:=6) (by simp [zMt, Mt.row]) rfl λ ws n21 => ?_
 have hd21:=hd20
 refine n21.litG (by omega) (by decide) hd21 λ ws p22 n22 hd22 => ?_
 refine n22.numG (by omega) hd22 g7 (λ c hc => (hdg [10] _ rfl c hc).1) λ ws p23 n23 hd23 => ?_
 refine n23.put (i:=7) (by simp [zMt, Mt.row]) rfl λ ws n24 => ?_
 have hd24:=hd23
 refine n24.litG (by omega) (by decide) hd24 λ ws p25 n25 hd25 => ?_
 rw [Run_bind]
 refine (last_run n25.rs n25.hp (by omega)).mono ?_
 rintro r wf ⟨hyes, hno, ff⟩
 have f0 : Fr (λ c => c = b ∨ c = x6) wc wf:=n25.fr.trans ff λ _ _ h => .inl h
 have hrow : bk wf x6 = some m.row:=by
  rw [ff.bk_some n25.b6 n25.ne]
  obtain ⟨st, a, bb, c, d, e', f, h⟩:=m
  simp only at r1 r2 r3 r4 r5 r6 r7
  rw [r1, r2, r3, r4, r5, r6, r7]
  rfl
 have hr:=hyes e sm rfl hd25 hee
 have hp5 : p25 = l.length - 13:=by
  have h1:=congrArg List.length hd25
  have h2:=(sum_no10 hee).2
  have h3 : SUM.length = 4:=rfl
  have h4:=n25.hp
  rw [List.length_drop, List.length_append, List.length_append, List.length_singleton] at h1
  omega
 rw [hp5] at hr
 subst hr
 have hst : m.st.length <= 4611686018427387904:=by
  have:=congrArg List.length htx
  simp only [List.length_append] at this
  omega
 refine rmend_run (f0.bk_some hx1c hne) (by rw [f0.wr (bk_lt hx1c) hne]; exact hw1c) hrow _ (λ _ => hst) λ wg fg => ⟨?_, fac.new ((f0.mono λ c hc => (show c = b ∨ c = x6 ∨ c = x1 from hc.elim .inl λ h => .inr (.inl h))).trans fg λ _ _ h => .inr (.inr h)) λ c hc => by omega⟩
 unfold mansV
 by_cases hcrc : sm = crcF (sb (l.take (l.length - 13)))
 ·rw [if_pos hcrc, if_pos hcrc, if_pos rfl]
 ·rw [if_neg hcrc, if_neg hcrc, if_neg (by decide)]
theorem rmparse_no {l : List UInt8} (hl : l.length <= 4294960000) (hf : ∀ m sm, ¬ mform l m sm) : Run (F.granaryref4_ParseMeta (.string (sb l))) w λ r w' => r = .tuple #[zMt.v, .int .i64 40] /\ Fr (λ _ => False) w w':=by
 unfold F.granaryref4_ParseMeta
 have z0 : buildV #[(Value.string ByteArray.empty), (Value.int IntKind.i64 0), (Value.int IntKind.i64 0), (Value.int IntKind.i64 0), (Value.int IntKind.i64 0), (Value.int IntKind.i64 0), (Value.int IntKind.i64 0), (Value.int IntKind.i64 0)] [] = some (.agg zMt.row.toArray):=rfl
 have bld : buildV #[(Value.string ByteArray.empty), (Value.int IntKind.i64 0), (Value.bool false)] [(0, 1, .string (sb l))] = some (.agg #[.string (sb l), .int .i64 0, .bool false]):=rfl
 have eU0 : ByteArray.mk #[103, 114, 97, 110, 97, 114, 121, 32, 109, 101, 116, 97, 32, 49, 10, 115, 116, 111, 114, 101, 32] = sb U0:=rfl
 have eU1 : ByteArray.mk #[10, 118, 101, 114, 115, 105, 111, 110, 32] = sb U1:=rfl
 have eU2 : ByteArray.mk #[10, 110, 111, 100, 101, 32] = sb U2:=rfl
 have eU3 : ByteArray.mk #[10, 112, 97, 114, 116, 115, 32] = sb U3:=rfl
 have eU4 : ByteArray.mk #[10, 114, 101, 112, 108, 105, 99, 97, 115, 32] = sb U4:=rfl
 have eU5 : ByteArray.mk #[10, 119, 105, 100, 116, 104, 32] = sb U5:=rfl
 have eU6 : ByteArray.mk #[10, 99, 104, 117, 110, 107, 115, 32] = sb U6:=rfl
 have eU7 : ByteArray.mk #[10, 114, 111, 119, 115, 32] = sb U7:=rfl
 have e10 : ByteArray.mk #[10] = sb [10]:=rfl
 rw [Run_bind]
 refine Run_new λ x1 wa hx1 hw1 fa hx1le => ?_
 replace hx1 : bk wa x1 = some zMt.row:=hx1
 rw [bld, Run_bindO_some, Run_bind]
 refine Run_new λ b wb hb hwb fb hble => ?_
 rw [z0, Run_bindO_some, Run_bind]
 refine Run_new λ x6 wc hx6 hw6 fc hx6le => ?_
 rw [Run_bind, Run_stA (n:=8) ⟨⟨⟨_, hx6, by simp⟩, hw6⟩, rfl, mrow_cell zMt⟩]
 have l1:=bk_lt hx1
 have lb:=bk_lt hb
 have s1:=fb.size
 have s2:=fc.size
 have sa:=fa.size
 have n0 : RQ wc (sto wc x6 0 zMt.row) b l 0 false x6 zMt.row:=by
  have f : Fr (λ c => c = x6) wc (sto wc x6 0 zMt.row):=(show Fr (λ c => c = x6) wc wc from Fr.refl _ _).sto (.inl rfl) _ _
  exact ⟨⟨f.bk_some (fc.bk_some hb id) λ e => by omega, by rw [wr_sto, fc.wr lb id]; exact hwb⟩, by omega, by rw [bk_sto_same hx6]; rfl, by rw [wr_sto]; exact hw6, by omega, f.mono λ _ h => .inr h⟩
 have hx1c : bk wc x1 = some zMt.row:=fc.bk_some (fb.bk_some hx1 id) id
 have hw1c : wr wc x1 = true:=by rw [fc.wr (bk_lt (fb.bk_some hx1 id)) id, fb.wr l1 id]; exact hw1
 have fac : Fr (λ _ => False) w wc:=(fa.trans fb λ _ _ => id).trans fc λ _ _ => id
 have hne : ¬ (x1 = b ∨ x1 = x6):=by omega
 rw [eU0, eU1, eU2, eU3, eU4, eU5, eU6, eU7, e10]
 refine n0.litA (by omega) (by decide) λ ws p1 b1 n1 k1 => ?_
 refine n1.wordA (by omega) λ ws p2 b2 st n2 k2 => ?_
 refine n2.put (i:=0) (by simp [zMt, Mt.row]) rfl λ ws n2 => ?_
 refine n2.litA (by omega) (by decide) λ ws p3 b3 n3 k3 => ?_
 refine n3.numA (by omega) λ ws p4 b4 z1 n4 k4 => ?_
 refine n4.put (i:=1) (by simp [zMt, Mt.row]) rfl λ ws n4 => ?_
 refine n4.litA (by omega) (by decide) λ ws p5 b5 n5 k5 => ?_
 refine n5.numA (by omega) λ ws p6 b6 z2 n6 k6 => ?_
 refine n6.put (i:=2) (by simp [zMt, Mt.row]) rfl λ ws n6 => ?_
 refine n6.litA (by omega) (by decide) λ ws p7 b7 n7 k7 => ?_
 refine n7.numA (by omega) λ ws p8 b8 z3 n8 k8 => ?_
 refine n8.put (i:=3) (by simp [zMt, Mt.row]) rfl λ ws n8 => ?_
 refine n8.litA (by omega) (by decide) λ ws p9 b9 n9 k9 => ?_
 refine n9.numA (by omega) λ ws p10 b10 z4 n10 k10 => ?_
 refine n10.put (i:=4) (by simp [zMt, Mt.row]) rfl λ ws n10 => ?_
 refine n10.litA (by omega) (by decide) λ ws p11 b11 n11 k11 => ?_
 refine n11.numA (by omega) λ ws p12 b12 z5 n12 k12 => ?_
 refine n12.put (i:=5) (by simp [zMt, Mt.row]) rfl λ ws n12 => ?_
 refine n12.litA (by omega) (by decide) λ ws p13 b13 n13 k13 => ?_
 refine n13.numA (by omega) λ ws p14 b14 z6 n14 k14 => ?_
 refine n14.put (i:=6) (by simp [zMt, Mt.row]) rfl λ ws n14 => ?_
 refine n14.litA (by omega) (by decide) λ ws p15 b15 n15 k15 => ?_
 refine n15.numA (by omega) λ ws p16 b16 z7 n16 k16 => ?_
 refine n16.put (i:=7) (by simp [zMt, Mt.row]) rfl λ ws n16 => ?_
 refine n16.litA (by omega) (by decide) λ ws p17 b17 n17 k17 => ?_
 rw [Run_bind]
 refine (last_run n17.rs n17.hp (by omega)).mono ?_
 rintro r wf ⟨hyes, hno, ff⟩
 have f0 : Fr (λ c => c = b ∨ c = x6) wc wf:=n17.fr.trans ff λ _ _ h => .inl h
 have hr : r = .int .i64 40:=by
  refine hno ?_
  cases hb : b17 with
  | true => exact .inl rfl
  | false =>
   refine .inr λ e sm he hs => ?_
   obtain ⟨a17, y17⟩:=k17 hb
   obtain ⟨a16, d7, v7, g7, r7, y16⟩:=k16 a17
   obtain ⟨a15, y15⟩:=k15 a16
   obtain ⟨a14, d6, v6, g6, r6, y14⟩:=k14 a15
   obtain ⟨a13, y13⟩:=k13 a14
   obtain ⟨a12, d5, v5, g5, r5, y12⟩:=k12 a13
   obtain ⟨a11, y11⟩:=k11 a12
   obtain ⟨a10, d4, v4, g4, r4, y10⟩:=k10 a11
   obtain ⟨a9, y9⟩:=k9 a10
   obtain ⟨a8, d3, v3, g3, r3, y8⟩:=k8 a9
   obtain ⟨a7, y7⟩:=k7 a8
   obtain ⟨a6, d2, v2, g2, r2, y6⟩:=k6 a7
   obtain ⟨a5, y5⟩:=k5 a6
   obtain ⟨a4, d1, v1, g1, r1, y4⟩:=k4 a5
   obtain ⟨a3, y3⟩:=k3 a4
   obtain ⟨a2, st0, st32, st10, y2⟩:=k2 a3
   obtain ⟨a1, y1⟩:=k1 a2
   refine hf ⟨st, z1, z2, z3, z4, z5, z6, z7⟩ sm ⟨d1, d2, d3, d4, d5, d6, d7, e, ?_, st0, st32, st10, ⟨v1, g1, r1⟩, ⟨v2, g2, r2⟩, ⟨v3, g3, r3⟩, ⟨v4, g4, r4⟩, ⟨v5, g5, r5⟩, ⟨v6, g6, r6⟩, ⟨v7, g7, r7⟩, hs⟩
   rw [List.drop_zero] at y1
   rw [y2, y3, y4, y5, y6, y7, y8, y9, y10, y11, y12, y13, y14, y15, y16, y17, he] at y1
   exact y1
 subst hr
 have hrow:=ff.bk_some n17.b6 n17.ne
 have hrow' : bk wf x6 = some (Mt.row ⟨st, z1, z2, z3, z4, z5, z6, z7⟩):=hrow
 refine rmend_run (f0.bk_some hx1c hne) (by rw [f0.wr (bk_lt hx1c) hne]; exact hw1c) hrow' 40 (λ h => absurd h (by decide)) λ wg fg => ⟨?_, fac.new ((f0.mono λ c hc => (show c = b ∨ c = x6 ∨ c = x1 from hc.elim .inl λ h => .inr (.inl h))).trans fg λ _ _ h => .inr (.inr h)) λ c hc => by omega⟩
 rw [if_neg (by decide)]
end
def nameF (word l : List UInt8) : Option (List UInt8):=if (word ++ [32]) <+: l /\ l.drop (word ++ [32]).length ≠ [] /\ (32 : UInt8) ∉ l.drop (word ++ [32]).length then some (l.drop (word ++ [32]).length) else none
theorem nameF_of {word d : List UInt8} (h0 : d ≠ []) (h32 : (32 : UInt8) ∉ d) : nameF word (word ++ [32] ++ d) = some d:=by
 unfold nameF
 rw [List.drop_left, if_pos ⟨List.prefix_append _ _, h0, h32⟩]
theorem nameF_some {word l d : List UInt8} (h : nameF word l = some d) : l = word ++ [32] ++ d /\ d ≠ [] /\ (32 : UInt8) ∉ d:=by
 unfold nameF at h
 split at h
 ·rename_i hc
  obtain ⟨⟨t, ht⟩, h2, h3⟩:=hc
  rw [<- ht, List.drop_left] at h h2 h3
  cases h
  exact ⟨ht.symm, h2, h3⟩
 ·cases h
theorem index_in {x : List UInt8} {b : UInt8} : decide (0 <= Lib.indexByte x b) = decide (b ∈ x):=by
 by_cases h : b ∈ x
 ·obtain ⟨y, s, rfl, hy⟩:=List.eq_append_cons_of_mem h
  rw [index_at b hy]
  simp
 ·rw [index_no b h, decide_eq_false h]
  rfl
def zeros7 : List Value:=[.int .i64 0, .int .i64 0, .int .i64 0, .int .i64 0, .int .i64 0, .int .i64 0, .int .i64 0]
def condM (s : List UInt8) : Bool:=okF s META && (match midL s with
 | [] => false
 | x :: N => (nameF STORE x).isSome && (decide (N.length = metaF.length) && (metaF.zip N).all λ z => (fldO z.1 z.2).isSome))
theorem mform_lines {s : List UInt8} {m : Mt} {sm : Nat} {d1 d2 d3 d4 d5 d6 d7 e : List UInt8} (h : MForm (s ++ [10]) m sm d1 d2 d3 d4 d5 d6 d7 e) : spl 10 s = [META, STORE ++ [32] ++ m.st, VERSION ++ [32] ++ d1, NODE ++ [32] ++ d2, PARTS ++ [32] ++ d3, REPLICAS ++ [32] ++ d4, WIDTH ++ [32] ++ d5, CHUNKS ++ [32] ++ d6, ROWS ++ [32] ++ d7, SUM ++ e]:=by
 have hs : s = jn 10 [META, STORE ++ [32] ++ m.st, VERSION ++ [32] ++ d1, NODE ++ [32] ++ d2, PARTS ++ [32] ++ d3, REPLICAS ++ [32] ++ d4, WIDTH ++ [32] ++ d5, CHUNKS ++ [32] ++ d6, ROWS ++ [32] ++ d7, SUM ++ e]:=by
  have h1 : s ++ [10] = jn 10 [META, STORE ++ [32] ++ m.st, VERSION ++ [32] ++ d1, NODE ++ [32] ++ d2, PARTS ++ [32] ++ d3, REPLICAS ++ [32] ++ d4, WIDTH ++ [32] ++ d5, CHUNKS ++ [32] ++ d6, ROWS ++ [32] ++ d7, SUM ++ e] ++ [10]:=by
   rw [h.txt]
   simp [jn, U0, U1, U2, U3, U4, U5, U6, U7, META, STORE, VERSION, NODE, PARTS, REPLICAS, WIDTH, CHUNKS, ROWS]
  exact List.append_cancel_right h1
 rw [hs]
 refine spl_of 10 (by simp) λ x hx => ?_
 simp only [List.mem_cons, List.not_mem_nil, or_false] at hx
 have ks:=h.st10
 obtain ⟨_, g1, _⟩:=h.na
 have k1:=num_no10 g1
 obtain ⟨_, g2, _⟩:=h.nb
 have k2:=num_no10 g2
 obtain ⟨_, g3, _⟩:=h.nc
 have k3:=num_no10 g3
 obtain ⟨_, g4, _⟩:=h.nd
 have k4:=num_no10 g4
 obtain ⟨_, g5, _⟩:=h.ne
 have k5:=num_no10 g5
 obtain ⟨_, g6, _⟩:=h.nf
 have k6:=num_no10 g6
 obtain ⟨_, g7, _⟩:=h.nh
 have k7:=num_no10 g7
 have k8:=(sum_no10 h.sum).1
 rcases hx with rfl | rfl | rfl | rfl | rfl | rfl | rfl | rfl | rfl | rfl
 ·decide
 ·simp only [List.mem_append, not_or]; exact ⟨⟨by decide, by decide⟩, ks⟩
 ·simp only [List.mem_append, not_or]; exact ⟨⟨by decide, by decide⟩, k1⟩
 ·simp only [List.mem_append, not_or]; exact ⟨⟨by decide, by decide⟩, k2⟩
 ·simp only [List.mem_append, not_or]; exact ⟨⟨by decide, by decide⟩, k3⟩
 ·simp only [List.mem_append, not_or]; exact ⟨⟨by decide, by decide⟩, k4⟩
 ·simp only [List.mem_append, not_or]; exact ⟨⟨by decide, by decide⟩, k5⟩
 ·simp only [List.mem_append, not_or]; exact ⟨⟨by decide, by decide⟩, k6⟩
 ·simp only [List.mem_append, not_or]; exact ⟨⟨by decide, by decide⟩, k7⟩
 ·simp only [List.mem_append, not_or]; exact ⟨by decide, k8⟩
theorem mform_yes {s : List UInt8} {m : Mt} {sm : Nat} (h : mform (s ++ [10]) m sm) : condM s = true /\ (∃ N, midL s = (STORE ++ [32] ++ m.st) :: N /\ putF (metaF.zip N) (.string (sb m.st) :: zeros7) = m.row) /\ sumF ((lastL s).drop 4) = some sm /\ nameF STORE (STORE ++ [32] ++ m.st) = some m.st:=by
 obtain ⟨d1, d2, d3, d4, d5, d6, d7, e, h⟩:=h
 have hN:=mform_lines h
 have hm : midL s = (STORE ++ [32] ++ m.st) :: [VERSION ++ [32] ++ d1, NODE ++ [32] ++ d2, PARTS ++ [32] ++ d3, REPLICAS ++ [32] ++ d4, WIDTH ++ [32] ++ d5, CHUNKS ++ [32] ++ d6, ROWS ++ [32] ++ d7]:=by unfold midL; rw [hN]; rfl
 have hl : lastL s = SUM ++ e:=by unfold lastL; rw [hN]; rfl
 have hd4 : (SUM ++ e).drop 4 = e:=List.drop_left (l₁:=SUM)
 have hok : okF s META = true:=by
  unfold okF
  have e1 : ((spl 10 s).getLast?).getD [] = SUM ++ e:=hl
  rw [e1, hd4, h.sum, hN, decide_eq_true (List.prefix_append SUM e)]
  simp
 have hnm:=nameF_of (word:=STORE) h.st0 h.st32
 obtain ⟨v1, g1, r1⟩:=h.na
 have f1:=fldO_of (f:=⟨VERSION, 1, 999999, 1, .func (.func 83) #[] #[]⟩) (d:=d1)
 rw [g1] at f1
 obtain ⟨v2, g2, r2⟩:=h.nb
 have f2:=fldO_of (f:=⟨NODE, 0, 15, 2, .func (.func 84) #[] #[]⟩) (d:=d2)
 rw [g2] at f2
 obtain ⟨v3, g3, r3⟩:=h.nc
 have f3:=fldO_of (f:=⟨PARTS, 1, 64, 3, .func (.func 85) #[] #[]⟩) (d:=d3)
 rw [g3] at f3
 obtain ⟨v4, g4, r4⟩:=h.nd
 have f4:=fldO_of (f:=⟨REPLICAS, 1, 16, 4, .func (.func 86) #[] #[]⟩) (d:=d4)
 rw [g4] at f4
 obtain ⟨v5, g5, r5⟩:=h.ne
 have f5:=fldO_of (f:=⟨WIDTH, 1, 16, 5, .func (.func 87) #[] #[]⟩) (d:=d5)
 rw [g5] at f5
 obtain ⟨v6, g6, r6⟩:=h.nf
 have f6:=fldO_of (f:=⟨CHUNKS, 1, 16, 6, .func (.func 88) #[] #[]⟩) (d:=d6)
 rw [g6] at f6
 obtain ⟨v7, g7, r7⟩:=h.nh
 have f7:=fldO_of (f:=⟨ROWS, 0, 9007199254740992, 7, .func (.func 89) #[] #[]⟩) (d:=d7)
 rw [g7] at f7
 refine ⟨?_, ⟨_, hm, ?_⟩, by rw [hl, hd4, h.sum], hnm⟩
 ·unfold condM
  rw [hok, hm]
  simp only [hnm, metaF, List.zip_cons_cons, List.zip_nil_right, List.all_cons, List.all_nil, f1, f2, f3, f4, f5, f6, f7]
  rfl
 ·simp only [metaF, List.zip_cons_cons, List.zip_nil_right, putF, f1, f2, f3, f4, f5, f6, f7]
  simp only [Mt.row, r1, r2, r3, r4, r5, r6, r7]
  rfl
theorem mform_no {s : List UInt8} (h : condM s = true) : ∃ m sm, mform (s ++ [10]) m sm:=by
 unfold condM at h
 rw [Bool.and_eq_true] at h
 obtain ⟨hok, h⟩:=h
 cases hmid : midL s with
 | nil => rw [hmid] at h; cases h
 | cons x N =>
 rw [hmid] at h
 simp only [Bool.and_eq_true, decide_eq_true_eq] at h
 obtain ⟨hnm, hlen, hall⟩:=h
 obtain ⟨hjn, hno⟩:=spl_jn 10 s
 unfold okF at hok
 unfold midL at hmid
 generalize spl 10 s = N0 at *
 have h7 : metaF.length = 7:=rfl
 rw [h7] at hlen
 have hl10 : N0.length = 10:=by
  have:=congrArg List.length hmid
  rw [List.length_drop, List.length_take, List.length_cons] at this
  omega
 obtain ⟨x0, x1, x2, x3, x4, x5, x6, x7, x8, x9, rfl⟩ : ∃ x0 x1 x2 x3 x4 x5 x6 x7 x8 x9, N0 = [x0, x1, x2, x3, x4, x5, x6, x7, x8, x9]:=by
  match N0, hl10 with
  | [x0, x1, x2, x3, x4, x5, x6, x7, x8, x9], _ => exact ⟨_, _, _, _, _, _, _, _, _, _, rfl⟩
 have hmid' : [x1, x2, x3, x4, x5, x6, x7, x8] = x :: N:=hmid
 obtain ⟨rfl, rfl⟩:=List.cons.inj hmid'
 simp only [Bool.and_eq_true, decide_eq_true_eq, List.getLast?_cons_cons, List.getLast?_singleton, Option.getD_some, List.head?_cons, Option.some.injEq] at hok
 obtain ⟨⟨hp, hsm⟩, rfl⟩:=hok
 obtain ⟨e, rfl⟩:=hp
 have hd4 : (SUM ++ e).drop 4 = e:=List.drop_left (l₁:=SUM)
 rw [hd4] at hsm
 obtain ⟨sm, hsm⟩:=Option.isSome_iff_exists.1 hsm
 obtain ⟨st, hst⟩:=Option.isSome_iff_exists.1 hnm
 obtain ⟨rfl, st0, st32⟩:=nameF_some hst
 have st10 : (10 : UInt8) ∉ st:=λ hc => hno (STORE ++ [32] ++ st) (by simp) (by simp [hc])
 simp only [metaF, List.zip_cons_cons, List.zip_nil_right, List.all_cons, List.all_nil, Bool.and_eq_true, Bool.and_true] at hall
 obtain ⟨q1, q2, q3, q4, q5, q6, q7⟩:=hall
 obtain ⟨d1, v1, rfl, g1⟩:=fldO_some q1
 obtain ⟨d2, v2, rfl, g2⟩:=fldO_some q2
 obtain ⟨d3, v3, rfl, g3⟩:=fldO_some q3
 obtain ⟨d4, v4, rfl, g4⟩:=fldO_some q4
 obtain ⟨d5, v5, rfl, g5⟩:=fldO_some q5
 obtain ⟨d6, v6, rfl, g6⟩:=fldO_some q6
 obtain ⟨d7, v7, rfl, g7⟩:=fldO_some q7
 refine ⟨⟨st, (v1 : Int), (v2 : Int), (v3 : Int), (v4 : Int), (v5 : Int), (v6 : Int), (v7 : Int)⟩, sm, d1, d2, d3, d4, d5, d6, d7, e, ?_, st0, st32, st10, ⟨v1, g1, rfl⟩, ⟨v2, g2, rfl⟩, ⟨v3, g3, rfl⟩, ⟨v4, g4, rfl⟩, ⟨v5, g5, rfl⟩, ⟨v6, g6, rfl⟩, ⟨v7, g7, rfl⟩, hsm⟩
 rw [<- hjn]
 simp [jn, U0, U1, U2, U3, U4, U5, U6, U7, META, STORE, VERSION, NODE, PARTS, REPLICAS, WIDTH, CHUNKS, ROWS]
section
variable {w w1 w2 : World}
theorem nameOf_run {word l : List UInt8} (hw : word.length <= 100) : Run (F.paper_nameOf (.string (sb l)) (.string (sb word))) w λ r w' => r = .tuple #[.string (sb (Lib.trimPrefix l (word ++ [32]))), .bool (nameF word l).isSome] /\ w' = w:=by
 unfold F.paper_nameOf
 have e32 : ByteArray.mk #[32] = sb [32]:=rfl
 have e0 : ByteArray.mk #[] = sb []:=rfl
 have a1:=sbAdd (a:=word) (c:=[32]) (by simp; omega)
 have hnv : ∀ b, notV (.bool b) = some (.bool !b):=λ _ => rfl
 have y0 : ∀ v x, extV 0 (.tuple #[v, x]) = some v:=λ _ _ => rfl
 have y1 : ∀ v x, extV 1 (.tuple #[v, x]) = some x:=λ _ _ => rfl
 rw [e32, a1, Run_bindO_some, Run_bind]
 refine ⟨_, _, cutp_run l (word ++ [32]), ?_⟩
 show Run (bindO (extV 0 (.tuple #[.string (sb (Lib.trimPrefix l (word ++ [32]))), .bool (decide ((word ++ [32]) <+: l))])) _) w _
 rw [y0, Run_bindO_some, y1, Run_bindO_some]
 by_cases h : (word ++ [32]) <+: l
 case neg =>
  have hn : nameF word l = none:=by unfold nameF; rw [if_neg λ hc => h hc.1]
  rw [decide_eq_false h, hn]
  simp only [Run_bind, Run_guardM_ft, pickV_bool, cond_false, Run_bindO_some, Run_ret]
  exact ⟨rfl, trivial⟩
 rw [decide_eq_true h, trim_of h, e0]
 simp only [Run_bind, Run_guardM_tt, Run_ret, sbNe, Run_optM_some, pickV_bool, cond_true, Run_bindO_some]
 by_cases h0 : l.drop (word ++ [32]).length = []
 case pos =>
  have hn : nameF word l = none:=by unfold nameF; rw [if_neg λ hc => hc.2.1 h0]
  rw [decide_eq_true h0, hn]
  simp only [Bool.not_true, Run_bind, Run_guardM_ft, pickV_bool, cond_false, Run_bindO_some, Run_ret]
  exact ⟨rfl, trivial⟩
 rw [decide_eq_false h0]
 simp only [Bool.not_false, Run_bind, Run_guardM_tt, Run_ret]
 have hc : F.strings_Contains (.string (sb (l.drop (word ++ [32]).length))) (.string (sb [32])) w = some (.bool (decide ((32 : UInt8) ∈ l.drop (word ++ [32]).length)), w):=by
  unfold F.strings_Contains
  show some (Value.bool (decide (0 <= Lib.indexByte (l.drop (word ++ [32]).length) 32)), w) = _
  rw [index_in]
 refine ⟨_, _, hc, ?_⟩
 show Run (optM (notV (.bool (decide ((32 : UInt8) ∈ l.drop (word ++ [32]).length))))) w _
 rw [hnv, Run_optM_some]
 simp only [pickV_bool, cond_true, Run_bindO_some, Run_ret]
 have hn : (nameF word l).isSome = !decide ((32 : UInt8) ∈ l.drop (word ++ [32]).length):=by
  unfold nameF
  by_cases h32 : (32 : UInt8) ∈ l.drop (word ++ [32]).length
  ·rw [if_neg λ hc => hc.2.2 h32, decide_eq_true h32]; rfl
  ·rw [if_pos ⟨h, h0, h32⟩, decide_eq_false h32]; rfl
 rw [hn]
 exact ⟨rfl, trivial⟩
structure MAns (t : List UInt8) (r : Value) : Prop where
 yes : ∀ m sm, mform t m sm -> r = mansV t m sm
 no : (∀ m sm, ¬ mform t m sm) -> r = .tuple #[zMt.v, .int .i64 40]
theorem mparse_run (ht : Tb w) {t : List UInt8} (hl : t.length <= 4294960000) : Run (F.paper_ParseMeta (.string (sb t))) w λ r w' => MAns t r /\ Fr (λ _ => False) w w':=by
 unfold F.paper_ParseMeta
 have eL : ByteArray.mk #[103, 114, 97, 110, 97, 114, 121, 32, 109, 101, 116, 97, 32, 49] = sb META:=rfl
 have eS : ByteArray.mk #[115, 116, 111, 114, 101] = sb STORE:=rfl
 have z0 : buildV #[(Value.string ByteArray.empty), (Value.int IntKind.i64 0), (Value.int IntKind.i64 0), (Value.int IntKind.i64 0), (Value.int IntKind.i64 0), (Value.int IntKind.i64 0), (Value.int IntKind.i64 0), (Value.int IntKind.i64 0)] [] = some (.agg zMt.row.toArray):=rfl
 have hnv : ∀ b, notV (.bool b) = some (.bool !b):=λ _ => rfl
 have y0 : ∀ v x z, extV 0 (.tuple #[v, x, z]) = some v:=λ _ _ _ => rfl
 have y1 : ∀ v x z, extV 1 (.tuple #[v, x, z]) = some x:=λ _ _ _ => rfl
 have y2 : ∀ v x z, extV 2 (.tuple #[v, x, z]) = some z:=λ _ _ _ => rfl
 have p0 : ∀ v x, extV 0 (.tuple #[v, x]) = some v:=λ _ _ => rfl
 have p1 : ∀ v x, extV 1 (.tuple #[v, x]) = some x:=λ _ _ => rfl
 rw [Run_bind]
 refine Run_new λ x1 wa hx1 hw1 fa hx1le => ?_
 replace hx1 : bk wa x1 = some zMt.row:=hx1
 have ta:=ht.fr0 fa
 rw [eL, eS, Run_bind]
 have bad : ∀ (c : Int) {u : World}, Fr (λ _ => False) wa u -> MAns t (.tuple #[zMt.v, .int .i64 c]) -> Run (bindO (some (Value.agg zMt.row.toArray)) λ x11 =>
  M.bind (stM 8 (.pointer (some ⟨x1, 0, none⟩)) x11) λ _ =>
  M.bind (rdM (ldA 8 (.pointer (some ⟨x1, 0, none⟩)))) λ x13 =>
  M.ret (Value.tuple #[x13, (Value.int IntKind.i64 c)])) u λ r w' => MAns t r /\ Fr (λ _ => False) w w':=λ c {u} f hP => by
  rw [Run_bindO_some, Run_bind]
  simp only [Run_bind]
  refine finN_run (f.bk_some hx1 id) (by rw [f.wr (bk_lt hx1) id]; exact hw1) zMt.row.toArray rfl rfl (mrow_cell zMt) λ w3 f3 => ?_
  rw [Run_ret]
  exact ⟨hP, (fa.trans f λ _ _ => id).new f3 λ c hc => hc ▸ hx1le⟩
 by_cases hsuf : [10] <:+ t
 case neg =>
  refine (open_no hsuf hl).mono ?_
  rintro _ wb ⟨rfl, hwb⟩
  rw [hwb, y0, Run_bindO_some, y1, Run_bindO_some, y2, Run_bindO_some, hnv, Run_bindO_some]
  simp only [Bool.not_false, Run_bind, Run_guardM_tf, pickV_bool, cond_true, Run_bindO_some, Run_condM_true]
  rw [z0]
  exact bad 40 (Fr.refl _ wa) ⟨λ m sm hp => by
   obtain ⟨d1, d2, d3, d4, d5, d6, d7, e, hp⟩:=hp
   refine absurd ?_ hsuf
   rw [hp.txt]
   simp only [<- List.append_assoc]
   exact List.suffix_append _ _, λ _ => rfl⟩
 obtain ⟨s, rfl⟩:=hsuf
 have hsl : s.length <= 4294960000:=by rw [List.length_append] at hl; omega
 refine (open_yes ta (s:=s) (title:=META) (by decide) hsl).mono ?_
 rintro _ wb ⟨⟨v, right, rfl, hv⟩, fb⟩
 rw [y0, Run_bindO_some, y1, Run_bindO_some, y2, Run_bindO_some, hnv, Run_bindO_some]
 have hno : condM s = false -> MAns (s ++ [10]) (.tuple #[zMt.v, .int .i64 40]):=λ hc => ⟨λ m sm hp => by
  rw [(mform_yes hp).1] at hc
  exact Bool.noConfusion hc, λ _ => rfl⟩
 cases hok : okF s META with
 | false =>
  simp only [Bool.not_false, Run_bind, Run_guardM_tf, pickV_bool, cond_true, Run_bindO_some, Run_condM_true]
  rw [z0]
  exact bad 40 fb (hno (by unfold condM; rw [hok]; rfl))
 | true =>
 obtain ⟨hright, hvs, hvn⟩:=hv hok
 have hvs' : Sl 1 wb v ((midL s).map λ x => [.string (sb x)]):=hvs
 have hlv:=hvs'.lenL
 rw [List.length_map] at hlv
 simp only [Bool.not_true, Run_bind, Run_guardM_ff, Run_ret, hlv, Run_optM_some, binV_int, intBin_eql, pickV_bool, cond_false, Run_bindO_some]
 cases hmid : midL s with
 | nil =>
  rw [decide_eq_true (show (((([] : List (List UInt8)).length : Nat)) : Int) = 0 from rfl), Run_condM_true, z0]
  exact bad 40 fb (hno (by unfold condM; rw [hok, hmid]; rfl))
 | cons x N =>
 rw [hmid] at hvs'
 have hcd : condM s = ((nameF STORE x).isSome && (decide (N.length = metaF.length) && (metaF.zip N).all λ z => (fldO z.1 z.2).isSome)):=by unfold condM; rw [hok, hmid, Bool.true_and]
 have hc0 : ¬ ((((x :: N).length : Nat)) : Int) = 0:=by rw [List.length_cons]; omega
 rw [decide_eq_false hc0, Run_condM_false, Run_bind]
 refine Run_new λ x6 wc hx6 hw6 fc hx6le => ?_
 replace hx6 : bk wc x6 = some zMt.row:=hx6
 have fac:=(fa.trans fb λ _ _ => id).trans fc λ _ _ => id
 have fbc:=fb.trans fc λ _ _ => id
 have hml : ∀ x ∈ midL s, x.length <= s.length:=λ x hx => by
  have hm:=List.mem_of_mem_take (List.mem_of_mem_drop hx)
  have : ∀ (N : List (List UInt8)), x ∈ N -> x.length <= (jn 10 N).length:=λ N => by
   induction N with
   | nil => intro h; cases h
   | cons y r ih =>
    intro h
    by_cases hr : r = []
    ·subst hr; simp at h; subst h; simp [jn]
    ·rw [jn_cons 10 hr, List.length_append, List.length_append]
     rcases List.mem_cons.1 h with rfl | h
     ·omega
     ·have:=ih h; omega
  have:=this _ hm
  rw [(spl_jn 10 s).1] at this
  omega
 have hmN : (midL s).length <= s.length + 1:=by
  have h1:=jn_count 10 _ (spl_ne 10 s) (spl_jn 10 s).2
  have h2 : (jn 10 (spl 10 s)).count 10 <= (jn 10 (spl 10 s)).length:=List.count_le_length
  rw [(spl_jn 10 s).1] at h1 h2
  unfold midL
  rw [List.length_drop, List.length_take]
  omega
 rw [hmid, List.length_cons] at hmN
 have hxl:=hml x (by rw [hmid]; simp)
 obtain ⟨q, q1, q2⟩:=(hvs'.fr0 fc).rd1 (i:=0) (y:=.string (sb x)) (by simp) .i64
 have q1' : idxA 1 v (.int .i64 0) = some q:=q1
 rw [q1', Run_bindO_some, Run_bind, Run_rdM]
 refine ⟨_, q2, ?_⟩
 rw [Run_bind]
 refine (nameOf_run (by decide)).mono ?_
 rintro _ wz ⟨rfl, hwz⟩
 rw [hwz, p0, Run_bindO_some, p1, Run_bindO_some, fieldA_ptr, Run_bindO_some, Run_bind, Run_st1 ⟨⟨⟨_, hx6, by simp [zMt, Mt.row]⟩, hw6⟩, rfl⟩, Run_drewM]
 have hx6' : bk (sto wc x6 (0 + 0) [.string (sb (Lib.trimPrefix x (STORE ++ [32])))]).drew x6 = some (.string (sb (Lib.trimPrefix x (STORE ++ [32]))) :: zeros7):=by
  rw [bk_drew, bk_sto_same hx6]; rfl
 have hw6' : wr (sto wc x6 (0 + 0) [.string (sb (Lib.trimPrefix x (STORE ++ [32])))]).drew x6 = true:=by rw [wr_drew, wr_sto]; exact hw6
 have l1:=bk_lt hx1
 have sb1:=fb.size
 have fcd : Fr (λ c => c = x6) wc (sto wc x6 (0 + 0) [.string (sb (Lib.trimPrefix x (STORE ++ [32])))]).drew:=((show Fr (λ c => c = x6) wc wc from Fr.refl _ _).sto (.inl rfl) _ _).drew
 generalize (sto wc x6 (0 + 0) [.string (sb (Lib.trimPrefix x (STORE ++ [32])))]).drew = wd at *
 have fbd : Fr (λ _ => False) wa wd:=fbc.new fcd λ c hc => by omega
 rw [hnv, Run_bindO_some]
 cases hnm : nameF STORE x with
 | none =>
  simp only [Option.isSome_none, Bool.not_false, Run_bind, Run_guardM_tf, pickV_bool, cond_true, Run_bindO_some, Run_condM_true]
  rw [z0]
  exact bad 40 fbd (hno (by rw [hcd, hnm]; rfl))
 | some st =>
 obtain ⟨rfl, st0, st32⟩:=nameF_some hnm
 rw [trim_of (List.prefix_append _ _), List.drop_left] at hx6'
 rw [hnm] at hcd
 simp only [Option.isSome_some, Bool.not_true, Bool.true_and] at hcd ⊢
 have hvd : Sl 1 wd v (((STORE ++ [32] ++ st) :: N).map λ x => [.string (sb x)]):=(hvs'.fr0 fc).fr fcd λ c hc he => by have:=(hvn c hc).2; omega
 obtain ⟨v2, s1, s2, s3⟩:=hvd.drop (n:=1) (by simp) .i64
 have s1' : sliceV 1 v (some (.int .i64 1)) none = some v2:=s1
 have s2' : Sl 1 wd v2 (N.map λ x => [.string (sb x)]):=s2
 simp only [Run_bind, Run_guardM_ff, Run_ret, s1', Run_optM_some]
 refine mfields_run.mono ?_
 rintro tb we ⟨htd, fd, hnd⟩
 have l6:=bk_lt hx6'
 have sc:=fc.size
 have sd:=fcd.size
 have hx6d:=fd.bk_some hx6' id
 have hw6d : wr we x6 = true:=by rw [fd.wr l6 id]; exact hw6'
 have hvx6 : ¬ inB v2 x6:=λ h => by have:=(hvn _ (s3 _ h)).2; omega
 refine (Me.parseF_run htd.1 (s2'.fr0 fd) metaF_ok hx6d hw6d (metaOff _ rfl) (by decide) (by omega) (λ y hy => by have:=hml y (by rw [hmid]; simp [hy]); omega) (λ h => by have:=(hnd _ h).1; omega) hvx6).mono ?_
 rintro _ wf ⟨rfl, ⟨l', hb', hwb', hl', hput⟩, fe⟩
 rw [<- hcd] at hput ⊢
 have fde : Fr (λ c => c = x6) wd wf:=(fd.mono λ _ h => h.elim).trans fe λ _ _ h => h
 have faf : Fr (λ _ => False) wa wf:=fbd.new fde λ c hc => by omega
 rw [hnv, Run_optM_some]
 simp only [pickV_bool, cond_false, Run_bindO_some]
 cases hc : condM s with
 | false =>
  simp only [Bool.not_false, Run_condM_true]
  rw [z0]
  exact bad 40 faf (hno hc)
 | true =>
 obtain ⟨m, sm, hpf⟩:=mform_no hc
 obtain ⟨_, ⟨N', hm1, hput2⟩, hsm, _⟩:=mform_yes hpf
 rw [hmid] at hm1
 obtain ⟨hst, rfl⟩:=List.cons.inj hm1
 have hst2 : st = m.st:=List.append_cancel_left hst
 have hl2:=hput hc
 rw [hst2, hput2] at hl2
 subst hl2
 have hans : ∀ r, r = mansV (s ++ [10]) m sm -> MAns (s ++ [10]) r:=λ r hr => by
  refine ⟨λ m' sm' hp' => ?_, λ hno => absurd hpf (hno m sm)⟩
  obtain ⟨_, ⟨N2, e0, e1⟩, e2, _⟩:=mform_yes hp'
  rw [hmid] at e0
  obtain ⟨e3, rfl⟩:=List.cons.inj e0
  have e4 : m.st = m'.st:=by rw [<- hst2]; exact List.append_cancel_left e3
  rw [<- e4, hput2] at e1
  rw [hsm] at e2
  have en : m = m':=by
   obtain ⟨st1, a, b, c, d, e, f, h⟩:=m
   obtain ⟨st2, a', b', c', d', e', f', h'⟩:=m'
   simp only [Mt.row, List.cons.injEq, Value.int.injEq, true_and, and_true] at e1 e4
   obtain ⟨_, rfl, rfl, rfl, rfl, rfl, rfl, rfl⟩:=e1
   rw [e4]
  rw [hr, en, Option.some.inj e2]
 have hr2 : right = decide (sm = crcF (sb ((s ++ [10]).take ((s ++ [10]).length - 13)))):=by
  have hsm' : sumF ((((spl 10 s).getLast?).getD []).drop 4) = some sm:=hsm
  rw [hright]
  refine decide_eq_decide.2 ?_
  rw [hsm']
  simp
 simp only [Bool.not_true, Run_condM_false, Run_bindO_some, hnv]
 by_cases hcrc : sm = crcF (sb ((s ++ [10]).take ((s ++ [10]).length - 13)))
 case neg =>
  rw [hr2, decide_eq_false hcrc, Bool.not_false, Run_condM_true, z0]
  exact bad 41 faf (hans _ (by rw [mansV, if_neg hcrc]))
 rw [hr2, decide_eq_true hcrc, Bool.not_true, Run_condM_false, Run_bindO_some, Run_bind, Run_rdM]
 have ls : ld1 (.pointer (some ⟨x6, 0 + 0, none⟩)) wf = some (.string (sb m.st)):=by rw [ld1_ptr, hb']; rfl
 refine ⟨_, ls, ?_⟩
 have hstl : m.st.length <= 4611686018427387904:=by
  rw [<- hst2]
  rw [List.length_append, List.length_append] at hxl
  omega
 rw [Run_bind]
 refine (storeOK_run m.st hstl).mono ?_
 rintro _ wg ⟨rfl, fg⟩
 have fag:=faf.trans fg λ _ _ => id
 have hx6g:=fg.bk_some hb' id
 rw [hnv, Run_bindO_some]
 have hmok : m.mok = (storeP m.st && m.fok):=rfl
 cases hsp : storeP m.st with
 | false =>
  simp only [Bool.not_false, Run_bind, Run_guardM_tf, pickV_bool, cond_true, Run_bindO_some, Run_condM_true]
  rw [z0]
  exact bad 42 fag (hans _ (by rw [mansV, if_pos hcrc, hmok, hsp]; rfl))
 | true =>
 rw [hsp, Bool.true_and] at hmok
 simp only [Bool.not_true, Run_bind, Run_guardM_ff]
 refine mfields_run.mono ?_
 rintro tb2 wh ⟨htf, fh, hnf⟩
 refine (Me.ranges_run htf.1 metaF_ok (fh.bk_some hx6g id) (metaF_at m) (by decide)).mono ?_
 rintro _ wi ⟨rfl, fi⟩
 have fai:=(fag.trans fh λ _ _ => id).trans fi λ _ _ => id
 have hx6i:=fi.bk_some (fh.bk_some hx6g id) id
 rw [hnv, Run_optM_some]
 simp only [pickV_bool, cond_false, Run_bindO_some]
 cases hpk : m.fok with
 | false =>
  have hpk' : (metaF.all λ f => f.inR m.at) = false:=hpk
  rw [hpk', Bool.not_false, Run_condM_true, z0]
  exact bad 42 fai (hans _ (by rw [mansV, if_pos hcrc, hmok, hpk]; rfl))
 | true =>
  have hpk' : (metaF.all λ f => f.inR m.at) = true:=hpk
  have l6g : ldA 8 (.pointer (some ⟨x6, 0, none⟩)) wi = some (.agg m.row.toArray):=ldA_bk hx6i (Nat.le_refl _)
  rw [hpk', Bool.not_true, Run_condM_false, Run_bind, Run_rdM]
  refine ⟨_, l6g, ?_⟩
  simp only [Run_bind]
  refine finN_run (fai.bk_some hx1 id) (by rw [fai.wr (bk_lt hx1) id]; exact hw1) m.row.toArray rfl rfl (mrow_cell m) λ wj fj => ?_
  rw [Run_ret]
  exact ⟨hans _ (by rw [mansV, if_pos hcrc, hmok, hpk]; rfl), (fa.trans fai λ _ _ => id).new fj λ c hc => hc ▸ hx1le⟩
end
end Go.Proofs.YthlpfhjcdedhgaaGreatDoor
namespace Go.Lift
section
variable {H : Type} {enc : TypeId × Value -> H} {P : Program} {w : World}
theorem cells_get {base : Nat} {a : Addr} {n : Nat} {cs : List Value} (h : w.cells? base a n = some cs) : cs.length = n /\ ∀ j, j < n -> w.cell? (a.add j) = cs[j]?:=by
 unfold World.cells? at h
 split at h
 ·have hl:=mapM_some_length h
  refine ⟨by simpa using hl, λ j hj => mapM_some_get h j j (by simp [hj])⟩
 ·cases h
theorem cell_some {a : Addr} {v : Value} (h : w.cell? a = some v) : a.spot = none /\ ∃ l, bk w a.block = some l /\ l[a.off]? = some v:=by
 unfold World.cell? at h
 unfold bk
 cases hh : w.heap[a.block]? with
 | none => simp [hh] at h
 | some x =>
  cases x with
  | cells c t m =>
   simp only [hh] at h ⊢
   split at h
   ·cases h
   ·rename_i hs
    refine ⟨?_, c.toList, rfl, by simpa using h⟩
    cases hsp : a.spot with
    | none => rfl
    | some s => rw [hsp] at hs; simp at hs
  | _ => simp [hh] at h
theorem open_sl {t e : TypeId} {fuel k : Nat} {cs : List Value} {x : DataW H × List MemPlace} (ht : P.underlying t = some (.slice e)) (hk : P.cellsOf e = k) (hk0 : 0 < k)
  (h : DataW.trod enc P w 0 (λ _ => true) true fuel t cs = some x) :
  ∃ v els, cs = [v] /\ Sl k w v els /\ ((x.1 = .nil /\ els = []) ∨ ∃ Ds spare, x.1 = .slice Ds spare /\ Ds.length = els.length /\
   ∀ (i : Nat) (c : List Value) (d : DataW H), els[i]? = some c -> Ds[i]? = some d -> ∃ n ps, DataW.trod enc P w 0 (λ _ => true) true n e c = some (d, ps)):=by
 rcases DataW.trod_slice ht h with ⟨rfl, rfl⟩ | ⟨a, len, cap, elems, rest, n, _, rfl, rfl, hb, hl, hm, hlen, hel, hsp, hns⟩
 ·exact ⟨_, [], rfl, Sl.nil k w, .inl ⟨rfl, rfl⟩⟩
 obtain ⟨hrl, hrs⟩:=hsp rfl
 rw [hk] at hel hrs
 have hall : ∀ i, i < cap -> ∃ c' y, w.cells? 0 (a.add (i * k)) k = some c' /\ DataW.trod enc P w 0 (λ _ => true) true n e c' = some y /\ (i < len -> elems[i]? = some y):=by
  intro i hi
  by_cases hil : i < len
  ·have h1:=hel i hil
   rw [List.getElem?_eq_getElem (by omega)] at h1
   obtain ⟨c', h2, h3⟩:=Option.bind_eq_some_iff.1 h1
   exact ⟨c', _, h2, h3, λ _ => List.getElem?_eq_getElem (by omega)⟩
  ·have h1:=hrs (i - len) (by omega)
   rw [show len + (i - len) = i by omega, List.getElem?_eq_getElem (by omega)] at h1
   obtain ⟨c', h2, h3⟩:=Option.bind_eq_some_iff.1 h1
   exact ⟨c', _, h2, h3, λ h => absurd h hil⟩
 by_cases hc0 : cap = 0
 ·have hl0 : len = 0:=by omega
  subst hc0; subst hl0
  refine ⟨_, [], rfl, ⟨by simp, some a, 0, rfl, Nat.le_refl _, .inl rfl⟩, .inr ⟨_, _, rfl, by simp [hlen], λ i c d hi => by simp at hi⟩⟩
 obtain ⟨b, o, sp⟩:=a
 have h00 : w.cell? ⟨b, o, sp⟩ ≠ none:=by
  obtain ⟨c', y, h1, _⟩:=hall 0 (by omega)
  have h2:=(cells_get h1).2 0 hk0
  have h3:=(cells_get h1).1
  have e : ((⟨b, o, sp⟩ : Addr).add (0 * k)).add 0 = ⟨b, o, sp⟩:=by simp [Addr.add]
  rw [e, List.getElem?_eq_getElem (by omega)] at h2
  rw [h2]; simp
 obtain ⟨v0, hv0⟩:=Option.ne_none_iff_exists'.1 h00
 obtain ⟨hsp0, l, hbk, _⟩:=cell_some hv0
 simp only at hsp0 hbk
 subst hsp0
 have hread : ∀ i j, i < cap -> j < k -> ∃ c', w.cells? 0 ((⟨b, o, none⟩ : Addr).add (i * k)) k = some c' /\ l[o + i * k + j]? = c'[j]? /\ o + i * k + j < l.length:=by
  intro i j hi hj
  obtain ⟨c', y, h1, _⟩:=hall i hi
  have h2:=(cells_get h1).2 j hj
  have h3:=(cells_get h1).1
  rw [Addr.add_lit, Addr.add_lit, List.getElem?_eq_getElem (by omega)] at h2
  obtain ⟨_, l', hbk', hg⟩:=cell_some h2
  simp only at hbk' hg
  rw [hbk] at hbk'; cases hbk'
  refine ⟨c', h1, ?_, (List.getElem?_eq_some_iff.1 hg).1⟩
  rw [hg, List.getElem?_eq_getElem (by omega)]
 have hfit : o + cap * k <= l.length:=by
  obtain ⟨_, _, _, h1⟩:=hread (cap - 1) (k - 1) (by omega) (by omega)
  obtain ⟨q, hq⟩ : ∃ q, cap = q + 1:=⟨cap - 1, by omega⟩
  rw [hq, show q + 1 - 1 = q by omega] at h1
  rw [hq, Nat.add_mul]
  omega
 have hels : ∀ m, m <= cap -> ((List.range m).map λ i => (l.drop (o + i * k)).take k).flatten = (l.drop o).take (m * k):=by
  intro m
  induction m with
  | zero => intro _; simp
  | succ m ih =>
   intro hmc
   rw [List.range_succ, List.map_append, List.flatten_append, ih (by omega)]
   simp only [List.map_cons, List.map_nil, List.flatten_cons, List.flatten_nil, List.append_nil]
   rw [Nat.add_mul, Nat.one_mul, List.take_add, List.drop_drop]
 have hlk : len * k <= cap * k:=Nat.mul_le_mul_right _ hl
 refine ⟨_, (List.range len).map λ i => (l.drop (o + i * k)).take k, rfl, ⟨?_, some ⟨b, o, none⟩, cap, by simp, by simpa using hl, .inr ⟨b, o, l, rfl, hbk, hfit, ?_⟩⟩, .inr ⟨_, _, rfl, by simp [hlen], ?_⟩⟩
 ·intro c hc
  obtain ⟨i, hi, rfl⟩:=List.mem_map.1 hc
  have hi' : i < len:=List.mem_range.1 hi
  have : (i + 1) * k <= cap * k:=Nat.mul_le_mul_right _ (by omega)
  rw [Nat.add_mul] at this
  rw [List.length_take, List.length_drop]
  omega
 ·rw [hels len hl]; simp
 ·intro i c d hc hd
  have hil : i < len:=by
   have:=(List.getElem?_eq_some_iff.1 hc).1
   simpa using this
  simp [hil] at hc
  obtain ⟨c', y, h1, h2, h3⟩:=hall i (by omega)
  have he:=h3 hil
  rw [List.getElem?_map, he] at hd
  simp at hd
  subst hd
  refine ⟨n, y.2, ?_⟩
  have hcc : c = c':=by
   have hcl:=(cells_get h1).1
   have : (i + 1) * k <= cap * k:=Nat.mul_le_mul_right _ (by omega)
   rw [Nat.add_mul] at this
   apply List.ext_getElem?
   intro j
   by_cases hj : j < k
   ·obtain ⟨c2, h4, h5, h6⟩:=hread i j (by omega) hj
    rw [h1] at h4; cases h4
    rw [<- h5, <- hc, List.getElem?_take, if_pos hj, List.getElem?_drop]
   ·rw [List.getElem?_eq_none (by rw [<- hc, List.length_take]; omega), List.getElem?_eq_none (by omega)]
  rw [hcc]; exact h2
end
end Go.Lift
namespace Go.Proofs.YthlpfhjcdedhgaaGreatDoor
open Go.Lift
inductive Shs where
 | nil
 | int (k : IntKind) (r : Shs)
 | bool (r : Shs)
 | str (r : Shs)
 | slice (e r : Shs)
def Shs.len : Shs -> Nat
 | .nil => 0
 | .int _ r => r.len + 1
 | .bool r => r.len + 1
 | .str r => r.len + 1
 | .slice _ r => r.len + 1
def Shs.app : Shs -> Shs -> Shs
 | .nil, s => s
 | .int k r, s => .int k (r.app s)
 | .bool r, s => .bool (r.app s)
 | .str r, s => .str (r.app s)
 | .slice e r, s => .slice e (r.app s)
def shFields (sh : TypeId -> Option Shs) : List Field -> Nat -> Option Shs
 | [], _ => some .nil
 | f :: fs, off => if f.offset = off then match sh f.type with
   | some s => match shFields sh fs (off + s.len) with
    | some r => some (s.app r)
    | none => none
   | none => none
  else none
def shOf (P : Program) : Nat -> TypeId -> Option Shs
 | 0, _ => none
 | n + 1, t => match P.underlying t with
  | some (.int k) => some (.int k .nil)
  | some .bool => some (.bool .nil)
  | some .string => some (.str .nil)
  | some (.slice e) => match shOf P n e with
   | some s => if 0 < s.len /\ P.cellsOf e = s.len then some (.slice s .nil) else none
   | none => none
  | some (.struct fs) => match shFields (shOf P n) fs.toList 0 with
   | some s => if P.cellsOf t = s.len then some s else none
   | none => none
  | _ => none
def Shs.Rd (w : World) : Shs -> List Value -> Nat -> Prop
 | .nil, cs, _ => cs = []
 | .int k r, cs, n => ∃ (i : Int) (cs' : List Value) (m : Nat), cs = .int k i :: cs' /\ (Lit.int k i).wf = true /\ m + 1 <= n /\ r.Rd w cs' m
 | .bool r, cs, n => ∃ (b : Bool) (cs' : List Value) (m : Nat), cs = .bool b :: cs' /\ m + 1 <= n /\ r.Rd w cs' m
 | .str r, cs, n => ∃ (s : ByteArray) (cs' : List Value) (m : Nat), cs = .string s :: cs' /\ m + (s.size + 1) <= n /\ r.Rd w cs' m
 | .slice e r, cs, n => ∃ (v : Value) (els : List (List Value)) (cs' : List Value) (ns : List Nat) (m : Nat), cs = v :: cs' /\ Sl e.len w v els /\ ns.length = els.length /\
   (∀ (i : Nat) (c : List Value) (k : Nat), els[i]? = some c -> ns[i]? = some k -> 1 <= k /\ e.Rd w c k) /\ m + (ns.sum + 1) <= n /\ r.Rd w cs' m
theorem Shs.app_len : ∀ a b : Shs, (a.app b).len = a.len + b.len
 | .nil, b => by simp [Shs.app, Shs.len]
 | .int k r, b => by simp only [Shs.app, Shs.len, Shs.app_len r b]; omega
 | .bool r, b => by simp only [Shs.app, Shs.len, Shs.app_len r b]; omega
 | .str r, b => by simp only [Shs.app, Shs.len, Shs.app_len r b]; omega
 | .slice e r, b => by simp only [Shs.app, Shs.len, Shs.app_len r b]; omega
section
variable {w : World}
theorem Shs.Rd.len : ∀ {s : Shs} {cs : List Value} {n : Nat}, s.Rd w cs n -> cs.length = s.len
 | .nil, cs, n, h => by cases h; rfl
 | .int k r, cs, n, ⟨i, cs', m, h1, _, _, h3⟩ => by subst h1; simp [Shs.len, Shs.Rd.len h3]
 | .bool r, cs, n, ⟨i, cs', m, h1, _, h3⟩ => by subst h1; simp [Shs.len, Shs.Rd.len h3]
 | .str r, cs, n, ⟨i, cs', m, h1, _, h3⟩ => by subst h1; simp [Shs.len, Shs.Rd.len h3]
 | .slice e r, cs, n, ⟨v, els, cs', ns, m, h1, _, _, _, _, h3⟩ => by subst h1; simp [Shs.len, Shs.Rd.len h3]
theorem Shs.Rd.mono : ∀ {s : Shs} {cs : List Value} {n n' : Nat}, s.Rd w cs n -> n <= n' -> s.Rd w cs n'
 | .nil, cs, n, n', h, _ => h
 | .int k r, cs, n, n', ⟨i, cs', m, h1, h0, h2, h3⟩, h => ⟨i, cs', m, h1, h0, by omega, h3⟩
 | .bool r, cs, n, n', ⟨i, cs', m, h1, h2, h3⟩, h => ⟨i, cs', m, h1, by omega, h3⟩
 | .str r, cs, n, n', ⟨i, cs', m, h1, h2, h3⟩, h => ⟨i, cs', m, h1, by omega, h3⟩
 | .slice e r, cs, n, n', ⟨v, els, cs', ns, m, h1, h2, h3, h4, h5, h6⟩, h => ⟨v, els, cs', ns, m, h1, h2, h3, h4, by omega, h6⟩
theorem Shs.Rd.app : ∀ {a b : Shs} {cs ds : List Value} {n k : Nat}, a.Rd w cs n -> b.Rd w ds k -> (a.app b).Rd w (cs ++ ds) (n + k)
 | .nil, b, cs, ds, n, k, h, h' => by cases h; exact h'.mono (by omega)
 | .int _ r, b, cs, ds, n, k, ⟨i, cs', m, h1, h0, h2, h3⟩, h' => ⟨i, cs' ++ ds, m + k, by rw [h1]; rfl, h0, by omega, h3.app h'⟩
 | .bool r, b, cs, ds, n, k, ⟨i, cs', m, h1, h2, h3⟩, h' => ⟨i, cs' ++ ds, m + k, by rw [h1]; rfl, by omega, h3.app h'⟩
 | .str r, b, cs, ds, n, k, ⟨i, cs', m, h1, h2, h3⟩, h' => ⟨i, cs' ++ ds, m + k, by rw [h1]; rfl, by omega, h3.app h'⟩
 | .slice e r, b, cs, ds, n, k, ⟨v, els, cs', ns, m, h1, h2, h3, h4, h5, h6⟩, h' => ⟨v, els, cs' ++ ds, ns, m + k, by rw [h1]; rfl, h2, h3, h4, by omega, h6.app h'⟩
end
theorem bulkT_one {H : Type} (d : DataW H) : 1 <= Rows.uptoBulk d:=by
 cases d with
 | lit l => cases l <;> simp [Rows.uptoBulk]
 | nil => simp [Rows.uptoBulk]
 | ptr d => simp [Rows.uptoBulk]
 | slice elems spare => simp [Rows.uptoBulk]
 | agg parts => simp [Rows.uptoBulk]
 | iface t d => simp [Rows.uptoBulk]
 | map entries => simp [Rows.uptoBulk]
 | held h => simp [Rows.uptoBulk]
theorem bulkT_sum {H : Type} : ∀ l : List (DataW H), (l.map Rows.uptoBulk).sum = Rows.uptoBulkAll l
 | [] => by simp [Rows.uptoBulkAll]
 | x :: r => by simp [Rows.uptoBulkAll, bulkT_sum r]
theorem take_of_len {l : List Value} {c k : Nat} (h : (l.take c).length = k) : l.take c = l.take k:=by
 rw [List.length_take] at h
 have : l.take k = (l.take c).take k:=by
  rw [List.take_take]
  by_cases hc : k <= c
  ·rw [Nat.min_eq_left hc]
  ·omega
 exact (this.trans (List.take_of_length_le (by rw [List.length_take]; omega))).symm
section
variable {H : Type} {enc : TypeId × Value -> H} {P : Program} {w : World}
theorem rd_fields {sh : TypeId -> Option Shs} {n : Nat} (ih : ∀ t s cs x, sh t = some s -> DataW.trod enc P w 0 (λ _ => true) true n t cs = some x -> s.Rd w cs (Rows.uptoBulk x.1)) (cs : List Value) :
  ∀ (fs : List Field) (off : Nat) (s : Shs) (xs : List (DataW H × List MemPlace)), shFields sh fs off = some s -> xs.length = fs.length ->
   (∀ (i : Nat) (f : Field), fs[i]? = some f -> DataW.trod enc P w 0 (λ _ => true) true n f.type ((cs.drop f.offset).take (P.cellsOf f.type)) = xs[i]?) ->
   s.Rd w ((cs.drop off).take s.len) (Rows.uptoBulkAll (xs.map (·.1)))
 | [], off, s, xs, h, _, _ => by
  cases h
  simp [Shs.len, Shs.Rd]
 | f :: fs, off, s, xs, h, hl, hf => by
  cases xs with
  | nil => simp at hl
  | cons x xs =>
   unfold shFields at h
   split at h
   ·rename_i hoff
    cases h1 : sh f.type with
    | none => simp [h1] at h
    | some a =>
     simp only [h1] at h
     cases h2 : shFields sh fs (off + a.len) with
     | none => simp [h2] at h
     | some r =>
      simp only [h2, Option.some.injEq] at h
      subst h
      have e0:=hf 0 f rfl
      rw [List.getElem?_cons_zero] at e0
      have r0:=ih _ _ _ _ h1 e0
      have hlen:=r0.len
      rw [take_of_len hlen, hoff] at r0
      have r1:=rd_fields ih cs fs (off + a.len) r xs h2 (by simpa using hl) λ i g hg => by
       have:=hf (i + 1) g (by simpa using hg)
       simpa using this
      have:=r0.app r1
      rw [Shs.app_len, List.take_add, List.drop_drop]
      simp only [List.map_cons, Rows.uptoBulkAll]
      exact this
   ·cases h
theorem rd_of_trod : ∀ (n : Nat) (t : TypeId) (s : Shs) (fuel : Nat) (cs : List Value) (x : DataW H × List MemPlace), shOf P n t = some s -> DataW.trod enc P w 0 (λ _ => true) true fuel t cs = some x -> s.Rd w cs (Rows.uptoBulk x.1)
 | 0, t, s, fuel, cs, x, h, _ => by cases h
 | n + 1, t, s, fuel, cs, x, h, hx => by
  unfold shOf at h
  split at h
  ·rename_i k hu
   cases h
   obtain ⟨i, rfl, rfl, hr⟩:=DataW.trod_int hu hx
   exact ⟨i, [], 0, rfl, hr, bulkT_one _, rfl⟩
  ·rename_i hu
   cases h
   obtain ⟨i, rfl, rfl⟩:=DataW.trod_bool hu hx
   exact ⟨i, [], 0, rfl, bulkT_one _, rfl⟩
  ·rename_i hu
   cases h
   obtain ⟨i, rfl, rfl, _⟩:=DataW.trod_string hu hx
   refine ⟨i, [], 0, rfl, ?_, rfl⟩
   simp only [Rows.uptoBulk, Array.length_toList, Nat.zero_add]
   exact Nat.le_refl _
  ·rename_i e hu
   cases h1 : shOf P n e with
   | none => simp [h1] at h
   | some a =>
    simp only [h1] at h
    split at h
    ·rename_i hc
     cases h
     obtain ⟨v, els, rfl, hs, hcase⟩:=open_sl hu hc.2 hc.1 hx
     rcases hcase with ⟨hn, rfl⟩ | ⟨Ds, spare, hd, hl, hel⟩
     ·refine ⟨v, [], [], [], 0, rfl, hs, rfl, λ i c k hi => by simp at hi, ?_, rfl⟩
      rw [hn]; simp [Rows.uptoBulk]
     ·refine ⟨v, els, [], Ds.map Rows.uptoBulk, 0, rfl, hs, by simpa using hl, λ i c k hi hk => ?_, ?_, rfl⟩
      ·rw [List.getElem?_map] at hk
       cases hd' : Ds[i]? with
       | none => simp [hd'] at hk
       | some d =>
        simp only [hd', Option.map_some, Option.some.injEq] at hk
        subst hk
        obtain ⟨m, ps, hm⟩:=hel i c d hi hd'
        exact ⟨bulkT_one d, rd_of_trod n e a m c (d, ps) h1 hm⟩
      ·rw [hd, bulkT_sum]; simp only [Rows.uptoBulk]; omega
    ·cases h
  ·rename_i fs hu
   cases h1 : shFields (shOf P n) fs.toList 0 with
   | none => simp [h1] at h
   | some a =>
    simp only [h1] at h
    split at h
    ·rename_i hc
     cases h
     obtain ⟨xs, m, _, rfl, hl, hxl, hf⟩:=DataW.trod_struct hu hx
     have:=rd_fields (sh:=shOf P n) (n:=m) (λ t s cs x h h' => rd_of_trod n t s m cs x h h') cs fs.toList 0 s xs h1 (by simpa using hxl) λ i f hi => hf i f (by simpa using hi)
     rw [List.drop_zero, List.take_of_length_le (by omega)] at this
     refine this.mono ?_
     simp only [Rows.uptoBulk]; omega
    ·cases h
  ·cases h
end
end Go.Proofs.YthlpfhjcdedhgaaGreatDoor
namespace Go.Proofs.YthlpfhjcdedhgaaGreatDoor
open Go.Lift
set_option linter.unusedSimpArgs false
set_option linter.unusedVariables false
noncomputable def gTy (g : Nat) : TypeId:=((Tryz.prog.globals[g]?).map (·.type)).getD 0
noncomputable def eTy (g : Nat) : TypeId:=match Tryz.prog.underlying (gTy g) with
 | some (.array _ e) => e
 | _ => 0
theorem bk_of_var {W : World} {name : String} {k : IntKind} {zs : List Int} {g : Nat} (hg : Tryz.prog.globalNamed name = some g) (h : Lib.TabIs Tryz.prog W name k zs) : bk W g = some (zs.map λ z => Value.int k z):=by
 unfold Lib.TabIs World.var? at h
 rw [hg] at h
 simp only [Option.bind_some] at h
 unfold bk
 cases hh : W.heap[g]? with
 | none => rw [hh] at h; cases h
 | some x =>
  rw [hh] at h
  cases x with
  | cells c t m =>
   simp only [Option.some.injEq] at h
   subst h
   simp
  | _ => cases h
theorem tab_step {W : World} {name : String} {k : IntKind} {zs : List Int} {rest : List (String × DataW Unit)} {g : Nat} {t e : TypeId} {n : Nat} {ps : List MemPlace}
  (hg : Tryz.prog.globalNamed name = some g) (hty : (Tryz.prog.globals[g]?).map (·.type) = some t) (ht : Tryz.prog.underlying t = some (.array n e)) (he : Tryz.prog.underlying e = some (.int k)) (hce : Tryz.prog.cellsOf e = 1) (hct : Tryz.prog.cellsOf t = n)
  (h : DataW.LaidVars Tryz.prog W ((name, Lib.tabData k zs) :: rest) ps) : bk W g = some (zs.map λ z => Value.int k z) /\ ∃ q, DataW.LaidVars Tryz.prog W rest q:=by
 obtain ⟨g', t', cs, fuel, p, q, hg', ht', hvar, hd, hr, _⟩:=h
 obtain rfl:=Option.some.inj (hg.symm.trans hg')
 obtain rfl:=Option.some.inj (hty.symm.trans ht')
 refine ⟨bk_of_var hg ?_, q, hr⟩
 unfold Lib.TabIs
 rw [hvar, <- Lib.cells_of_tab ht he hce hct hd]
def nibZ : List Int:=[0, 498536548, 997073096, 651767980, 1994146192, 1802195444, 1303535960, 1342533948, 3988292384, 4027552580, 3604390888, 3412177804, 2607071920, 2262029012, 2685067896, 3183342108]
def deb64 : List Int:=[0,1,56,2,57,49,28,3,61,58,42,50,38,29,17,4,62,47,59,36,45,43,51,22,53,39,33,30,24,18,12,5,63,55,48,27,60,41,37,16,46,35,44,21,52,32,23,11,54,26,40,15,34,20,31,10,25,14,19,9,13,8,7,6]
def deb32 : List Int:=[0,1,28,2,29,14,24,3,30,22,20,15,25,17,4,8,31,27,13,23,21,19,16,7,26,12,18,6,11,5,10,9]
theorem ml_of {W : World} (h : W.ShapedOpen Tryz.prog) : ∃ m : Int, bk W 3 = some [.int .i64 m]:=by
 obtain ⟨cs, hh, hs, _⟩:=h.1 3 #[.int .i64 0] 3 (of_decide_eq_true (by kernel_rfl)) (by kernel_rfl)
 obtain ⟨m, hm⟩:=cell_of_shapedOpen_int (P:=Tryz.prog) (g:=3) (t:=3) (zero:=#[.int .i64 0]) h (of_decide_eq_true (by kernel_rfl)) (by kernel_rfl) rfl (by kernel_rfl) (by kernel_rfl) (show Tryz.prog.underlying 3 = some (.int .i64) by kernel_rfl)
 refine ⟨m, ?_⟩
 unfold World.cell? at hm
 rw [hh] at hm
 simp at hm
 unfold bk
 rw [hh]
 have h1 : cs.size = 1:=hs
 obtain ⟨x, rfl⟩ : ∃ x, cs = #[x]:=by
  obtain ⟨l⟩:=cs
  match l, h1 with
  | [x], _ => exact ⟨x, rfl⟩
 simp at hm
 rw [hm]
theorem sb_self (s : ByteArray) : s = sb s.data.toList:=rfl
end Go.Proofs.YthlpfhjcdedhgaaGreatDoor
namespace Go.Proofs.YthlpfhjcdedhgaaGreatDoor
open Go.Lift
set_option linter.unusedSimpArgs false
set_option linter.unusedVariables false
set_option maxHeartbeats 4000000
theorem tb_ofM {W : World} (h : laidMetH Tryz.prog Rows.paperMetasUptoRow.laid W) (hsh : W.ShapedOpen Tryz.prog) : Tb W:=by
 have h' : laidMet Tryz.prog Rows.paperMetasUptoRow.laid W:=h
 obtain ⟨ps, hv, _⟩:=h'
 obtain ⟨b3, q3, v3⟩:=tab_step (k:=.u8) (zs:=deb32) (g:=9) (t:=gTy 9) (e:=eTy 9) (n:=32) (by kernel_rfl) (by kernel_rfl) (by kernel_rfl) (by kernel_rfl) (by kernel_rfl) (by kernel_rfl) hv
 obtain ⟨b4, q4, v4⟩:=tab_step (k:=.u8) (zs:=deb64) (g:=10) (t:=gTy 10) (e:=eTy 10) (n:=64) (by kernel_rfl) (by kernel_rfl) (by kernel_rfl) (by kernel_rfl) (by kernel_rfl) (by kernel_rfl) v3
 obtain ⟨b0, q0, v0⟩:=tab_step (k:=.u32) (zs:=nibZ) (g:=1) (t:=gTy 1) (e:=eTy 1) (n:=16) (by kernel_rfl) (by kernel_rfl) (by kernel_rfl) (by kernel_rfl) (by kernel_rfl) (by kernel_rfl) v4
 obtain ⟨b2, q2, v2⟩:=tab_step (k:=.u64) (zs:=Lib.pow10Tab) (g:=6) (t:=gTy 6) (e:=eTy 6) (n:=20) (by kernel_rfl) (by kernel_rfl) (by kernel_rfl) (by kernel_rfl) (by kernel_rfl) (by kernel_rfl) v0
 exact ⟨b0, ml_of hsh, b2, _, b4, rfl⟩
section
variable {w w1 w2 : World}
theorem eqMt (n : Mt) : eqV (EqSh.offs [(EqK.str, 0), (EqK.int, 1), (EqK.int, 2), (EqK.int, 3), (EqK.int, 4), (EqK.int, 5), (EqK.int, 6), (EqK.int, 7)]) (.agg n.row.toArray) (.agg n.row.toArray) = some (.bool true):=by
 simp [Mt.row, eqOffs, eqPrim]
theorem mboth {t : List UInt8} : (∃ m c, mform t m c) ∨ (∀ m c, ¬ mform t m c):=by
 by_cases h : ∃ m c, mform t m c
 ·exact .inl h
 ·exact .inr λ m c hp => h ⟨m, c, hp⟩
theorem mans_ex {t : List UInt8} : ∃ r, (∀ r' : Value, MAns t r' -> r' = r) /\ (∃ (m : Mt) (c : Int), r = .tuple #[.agg m.row.toArray, .int .i64 c]) /\ ∀ (w : World), t.length <= 4294960000 -> Run (F.granaryref4_ParseMeta (.string (sb t))) w λ r' w' => r' = r /\ Fr (λ _ => False) w w':=by
 rcases mboth (t:=t) with ⟨m, c, hp⟩ | hno
 ·refine ⟨mansV t m c, λ r' h => h.yes m c hp, ?_, λ w hl => rmparse_yes hl hp⟩
  unfold mansV
  split
  ·split
   ·exact ⟨_, _, rfl⟩
   ·exact ⟨_, _, rfl⟩
  ·exact ⟨_, _, rfl⟩
 ·exact ⟨_, λ r' h => h.no hno, ⟨zMt, 40, rfl⟩, λ w hl => rmparse_no hl hno⟩
theorem manswer_run (ht : Tb w) {l : List UInt8} (hl : l.length <= 4294960000) : Run (F.granarylaw4_metaAnswers (.string (sb l))) w λ r w' => r = .bool true /\ Fr (λ _ => False) w w':=by
 unfold F.granarylaw4_metaAnswers
 have y0 : ∀ v x, extV 0 (.tuple #[v, x]) = some v:=λ _ _ => rfl
 have y1 : ∀ v x, extV 1 (.tuple #[v, x]) = some x:=λ _ _ => rfl
 obtain ⟨r, hr, ⟨m, c, rfl⟩, hrun⟩:=mans_ex (t:=l)
 rw [Run_bind]
 refine (mparse_run ht hl).mono ?_
 rintro r1 w1 ⟨h1, f1⟩
 obtain rfl:=hr r1 h1
 rw [y0, Run_bindO_some, y1, Run_bindO_some, Run_bind]
 refine Run_new λ x4 w2 hx4 hw4 f2 hle4 => ?_
 rw [Run_bind, Run_stA (n:=8) ⟨⟨⟨_, hx4, by simp⟩, hw4⟩, rfl, mrow_cell m⟩]
 have b4:=bk_sto_same (o:=0) hx4 m.row
 have f13 : Fr (λ _ => False) w (sto w2 x4 0 m.row):=f1.trans (f2.sto (.inr hle4) _ _) λ _ _ => id
 have e4 : setL #[Value.string ByteArray.empty, Value.int IntKind.i64 0, Value.int IntKind.i64 0, Value.int IntKind.i64 0, Value.int IntKind.i64 0, Value.int IntKind.i64 0, Value.int IntKind.i64 0, Value.int IntKind.i64 0].toList 0 m.row = m.row:=rfl
 rw [e4] at b4
 rw [show m.row.toArray.toList = m.row from rfl]
 generalize sto w2 x4 0 m.row = w3 at *
 rw [Run_bind]
 refine (hrun w3 hl).mono ?_
 rintro _ w4 ⟨rfl, f4⟩
 have b4':=f4.bk_some b4 id
 rw [y0, Run_bindO_some, y1, Run_bindO_some, Run_bind]
 refine Run_new λ x9 w5 hx9 hw9 f5 hle9 => ?_
 rw [Run_bind, Run_stA (n:=8) ⟨⟨⟨_, hx9, by simp⟩, hw9⟩, rfl, mrow_cell m⟩]
 have b9:=bk_sto_same (o:=0) hx9 m.row
 rw [e4] at b9
 rw [show m.row.toArray.toList = m.row from rfl]
 have f56 : Fr (λ _ => False) w4 (sto w5 x9 0 m.row):=f5.sto (.inr hle9) _ _
 have b46:=f56.bk_some b4' id
 generalize sto w5 x9 0 m.row = w6 at *
 have l4 : ldA 8 (.pointer (some ⟨x4, 0, none⟩)) w6 = some (.agg m.row.toArray):=ldA_bk b46 (Nat.le_refl _)
 have l9 : ldA 8 (.pointer (some ⟨x9, 0, none⟩)) w6 = some (.agg m.row.toArray):=ldA_bk b9 (Nat.le_refl _)
 rw [Run_bind, Run_rdM]
 refine ⟨_, l4, ?_⟩
 rw [Run_bind, Run_rdM]
 refine ⟨_, l9, ?_⟩
 rw [eqMt, Run_bindO_some]
 simp only [Run_bind, Run_guardM_tt, Run_ret, F.granarylaw4_num, binV_int, intBin_eql, decide_true, Run_optM_some, pickV_bool, cond_true, Run_bindO_some]
 exact ⟨trivial, (f13.trans f4 λ _ _ => id).trans f56 λ _ _ => id⟩
theorem metaO_len (n : Mt) : ∃ (t : List UInt8) (e : Int), metaO n = .tuple #[.string (sb t), .int .i64 e] /\ t.length <= 2000:=by
 unfold metaO
 by_cases hn : n.mok = true
 ·rw [if_pos hn]
  refine ⟨_, _, rfl, ?_⟩
  have h1:=meta_len hn
  have h2 : (eightL (crcF (sb (metaL n)))).length = 8:=lowD_len _ _
  have h3 : SUM.length = 4:=rfl
  simp only [closeL, List.length_append, h2, h3, List.length_singleton]
  omega
 ·rw [if_neg hn]
  exact ⟨[], _, rfl, by simp⟩
theorem metas_walk (ht : Tb w) (n : Mt) (hn : n.st.length <= 4611686018427387904) {l : List UInt8} (hl : l.length <= 4294950000) : Run (F.granarylaw4_PaperMetas n.v (.string (sb l))) w λ r w' => r = .bool true /\ Fr (λ _ => False) w w':=by
 unfold F.granarylaw4_PaperMetas
 rw [Run_bind]
 refine Run_new λ x w1 hx hxw f1 hxle => ?_
 have hx1 : ldA 8 (.pointer (some ⟨x, 0, none⟩)) w1 = some n.v:=ldA_bk hx (Nat.le_refl _)
 have t1:=ht.fr0 f1
 rw [Run_bind, Run_rdM]
 refine ⟨_, hx1, ?_⟩
 rw [Run_bind]
 refine (mprint_run t1 n hn).mono ?_
 rintro _ w2 ⟨rfl, f2⟩
 have t2:=t1.fr0 f2
 have hx2 : ldA 8 (.pointer (some ⟨x, 0, none⟩)) w2 = some n.v:=ldA_bk (f2.bk_some hx id) (Nat.le_refl _)
 obtain ⟨tx, e, hno, htx⟩:=metaO_len n
 have y0 : ∀ v x, extV 0 (.tuple #[v, x]) = some v:=λ _ _ => rfl
 have y1 : ∀ v x, extV 1 (.tuple #[v, x]) = some x:=λ _ _ => rfl
 rw [hno, y0, Run_bindO_some, y1, Run_bindO_some, Run_bind, Run_rdM]
 refine ⟨_, hx2, ?_⟩
 rw [Run_bind]
 refine (rmprint_run t2 n hn).mono ?_
 rintro _ w3 ⟨rfl, f3⟩
 have t3:=t2.fr0 f3
 rw [hno, y0, Run_bindO_some, y1, Run_bindO_some, sbEq]
 simp only [decide_true, Run_bindO_some, Run_bind, Run_guardM_tt, Run_ret, F.granarylaw4_num, binV_int, intBin_eql, Run_optM_some, pickV_bool, cond_true]
 refine (manswer_run t3 (show l.length <= 4294960000 by omega)).mono ?_
 rintro _ w4 ⟨rfl, f4⟩
 have t4:=t3.fr0 f4
 simp only [pickV_bool, cond_true, Run_bindO_some, Run_bind, Run_guardM_tt, Run_ret]
 refine (manswer_run t4 (show tx.length <= 4294960000 by omega)).mono ?_
 rintro _ w5 ⟨rfl, f5⟩
 simp only [pickV_bool, cond_true, Run_bindO_some, Run_ret]
 exact ⟨trivial, (((f1.trans f2 λ _ _ => id).trans f3 λ _ _ => id).trans f4 λ _ _ => id).trans f5 λ _ _ => id⟩
end
abbrev shMt : Shs:=.str (.int .i64 (.int .i64 (.int .i64 (.int .i64 (.int .i64 (.int .i64 (.int .i64 .nil)))))))
theorem rdMt {w : World} {cs : Array Value} {n : Nat} (h : shMt.Rd w cs.toList n) : ∃ m : Mt, .agg cs = m.v /\ m.st.length <= n:=by
 obtain ⟨s, _, _, h1, k1, a, _, _, h2, _, _, b, _, _, h3, _, _, c, _, _, h4, _, _, d, _, _, h5, _, _, e, _, _, h6, _, _, f, _, _, h7, _, _, g, _, _, h8, _, _, h9⟩:=h
 subst h9; subst h8; subst h7; subst h6; subst h5; subst h4; subst h3; subst h2
 refine ⟨⟨s.data.toList, a, b, c, d, e, f, g⟩, ?_, ?_⟩
 ·cases cs
  simp at h1
  rw [h1]
  rfl
 ·have : s.data.toList.length = s.size:=Array.length_toList
  show s.data.toList.length <= n
  omega
theorem paperMetas_top {W : World} {cs : Array Value} {n : Nat} (hv : (Shs.str (.int .i64 (.int .i64 (.int .i64 (.int .i64 (.int .i64 (.int .i64 (.int .i64 .nil)))))))).Rd W cs.toList n) {n0 : Nat} (s : ByteArray) (hs : s.size + 1 <= n0) (hk : n + n0 <= 1048576) (hL : laidMetH Tryz.prog Rows.paperMetasUptoRow.laid W) (hsh : W.ShapedOpen Tryz.prog) :
  Run (F.granarylaw4_PaperMetas (.agg cs) (.string s)) W λ r w' => r = .bool true /\ Fr (λ _ => False) W w':=by
 obtain ⟨m, hm, hml⟩:=rdMt hv
 rw [hm, sb_self s]
 have hl : s.data.toList.length = s.size:=Array.length_toList
 exact metas_walk (tb_ofM hL hsh) m (by omega) (by omega)
end Go.Proofs.YthlpfhjcdedhgaaGreatDoor
