import Derived.Test.YtiggkhmopnhfaaaDoorLiftS
import Derived.Test.YtiggkhmopnhfaaaDoorGZ
import Derived.Test.YtiggkhmopnhfaaaDoorDeskK
/-
  THE LIFT, part U: parts of slices.
-/
namespace Go.Lift

section
variable {k : Nat} {w w' : World} {v x : Value} {els fls : List (List Value)}
theorem flat_take : ∀ {els : List (List Value)} (n : Nat), (∀ e ∈ els, e.length = k) → els.flatten.take (n * k) = (els.take n).flatten
  | [], n, _ => by simp
  | e :: els, 0, _ => by simp
  | e :: els, n + 1, h => by
    have he : e.length = k := h e (by simp)
    have ih := flat_take n fun x hx => h x (List.mem_cons_of_mem _ hx)
    simp only [List.flatten_cons, List.take_succ_cons, List.flatten_cons]
    rw [List.take_append, he, List.take_of_length_le (by rw [he, Nat.add_mul]; omega), show (n + 1) * k - k = n * k by rw [Nat.add_mul]; omega, ih]
/-- The first n elements of a slice. -/
theorem Sl.take (h : Sl k w v els) {n : Nat} (hn : n ≤ els.length) (kd : IntKind) : ∃ v', sliceV k v none (some (.int kd n)) = some v' ∧ Sl k w v' (els.take n) ∧ ∀ b, inB v' b → inB v b := by
  obtain ⟨h1, a, c, rfl, h2, h3⟩ := h
  have hnc : n ≤ c := by omega
  have e : sliceV k (.slice a els.length c) none (some (.int kd n)) = some (.slice (if c = 0 then a else a.map (·.add (0 * k))) n c) := by
    simp [sliceV, highV, lowV, boundV, hnc]
  have hlt : (els.take n).length = n := by rw [List.length_take]; omega
  refine ⟨_, e, ⟨fun x hx => h1 x (List.mem_of_mem_take hx), (if c = 0 then a else a.map (·.add (0 * k))), c, by rw [hlt], by rw [hlt]; omega, ?_⟩, ?_⟩
  · by_cases hc : c = 0
    · exact .inl hc
    · rcases h3 with h3 | ⟨b, o, l, rfl, h4, h5, h6⟩
      · exact .inl h3
      · refine .inr ⟨b, o, l, by rw [if_neg hc]; simp [Addr.add_lit], h4, h5, ?_⟩
        rw [hlt]
        have hfl := flat_take n h1
        rw [← hfl, ← h6, List.take_take]
        congr 1
        have : n * k ≤ els.length * k := Nat.mul_le_mul_right _ hn
        omega
  · intro b hb
    cases a with
    | none => simp at hb
    | some a =>
      by_cases hc : c = 0
      · simpa [hc] using hb
      · simp only [hc, if_false, Option.map_some] at hb
        simp only [inB_slice] at hb ⊢
        rw [← hb]
        unfold Addr.add
        split <;> rfl
/-- A part of a slice that may be written, from element n on. -/
theorem SlW.drop (h : SlW k w v els) {n : Nat} (hn : n ≤ els.length) (kd : IntKind) : ∃ v', sliceV k v (some (.int kd n)) none = some v' ∧ SlW k w v' (els.drop n) ∧ ∀ b, inB v' b → inB v b := by
  obtain ⟨v', e1, e2, e3⟩ := h.1.drop hn kd
  refine ⟨v', e1, ⟨e2, fun b hb hc => h.2 b (e3 b hb) fun hz => hc ?_⟩, e3⟩
  obtain ⟨⟨h1, a, c, rfl, h2, h3⟩, _⟩ := h
  simp [capV] at hz
  subst hz
  obtain ⟨_, a', c', rfl, _, _⟩ := e2
  simp [sliceV, highV, lowV, boundV, hn] at e1
  simp [capV]
  omega
/-- The beginning of a slice, with the same address. -/
theorem Sl.pre {a : Option Addr} {n m c : Nat} (h : Sl k w (.slice a m c) els) (hn : n ≤ m) : Sl k w (.slice a n c) (els.take n) := by
  obtain ⟨h1, a', c', he, h2, h3⟩ := h
  cases he
  have hlt : (els.take n).length = n := by rw [List.length_take]; omega
  refine ⟨fun x hx => h1 x (List.mem_of_mem_take hx), a, c, by rw [hlt], by rw [hlt]; omega, ?_⟩
  rcases h3 with h3 | ⟨b, o, l, rfl, h4, h5, h6⟩
  · exact .inl h3
  · refine .inr ⟨b, o, l, rfl, h4, h5, ?_⟩
    rw [hlt]
    have hfl := flat_take n h1
    rw [← hfl, ← h6, List.take_take]
    congr 1
    have : n * k ≤ els.length * k := Nat.mul_le_mul_right _ hn
    omega
/-- append, in place or not. -/
theorem Run_appG {bytes e : Nat} {zero : Array Value} {s : Value} {Q : Value → World → Prop} (hs : SlW k w s els) (hx : Sl k w x fls) (hk : k ≠ 0) (hz : zero.size = k) (hb : bytes ≠ 0)
    (hc : ∀ e ∈ fls, e.all isCell = true) (small : (els.length + fls.length + (els.length + fls.length) / 4 + 192) * bytes ≤ 281474976710656)
    (q : ∀ r w', SlW k w' r (els ++ fls) → Fr (inB s) w w' → (∀ b, inB r b → inB s b ∨ (w.heap.size ≤ b ∧ b < w'.heap.size)) → ((∃ a c, s = .slice a els.length c ∧ r = .slice a (els.length + fls.length) c) ∨ (Fr (fun _ => False) w w' ∧ ∀ b, inB r b → w.heap.size ≤ b)) → Q r w') : Run (appM e k bytes zero s x) w Q := by
  have hs' := hs.1
  obtain ⟨⟨h1, a, c, rfl, h2, h3⟩, hw⟩ := hs
  have hxl := hx.lenN
  have hx1 := hx.1
  have hfl := flat_len h1
  have hfx := flat_len hx1
  have hall : ∀ e ∈ els ++ fls, e.length = k := fun e he => (List.mem_append.1 he).elim (h1 e) (hx1 e)
  have hcf : fls.flatten.all isCell = true := by
    rw [List.all_eq_true]
    intro y hy
    obtain ⟨e, he, hye⟩ := List.mem_flatten.1 hy
    exact List.all_eq_true.1 (hc e he) y hye
  have hnew : firstN w k fls.length x = some fls.flatten := by
    have hx' := hx
    obtain ⟨_, a', c', rfl, _⟩ := hx'
    exact ldN_sl hx
  unfold Run appM
  simp only [hxl]
  by_cases hroom : els.length + fls.length ≤ c
  · rw [if_pos hroom]
    simp only [hnew]
    cases a with
    | none =>
      rcases h3 with h3 | ⟨b, o, l, h4, _⟩
      · have he : els = [] := List.eq_nil_of_length_eq_zero (by omega)
        have hf : fls = [] := List.eq_nil_of_length_eq_zero (by omega)
        subst he; subst hf; subst h3
        exact ⟨_, _, rfl, q _ _ (SlW.nil k w) (Fr.refl _ _) (by simp) (.inl ⟨_, _, rfl, rfl⟩)⟩
      · cases h4
    | some a =>
      simp only []
      by_cases hf : fls.flatten = []
      · have hf0 : fls = [] := by
          apply List.eq_nil_of_length_eq_zero
          rw [hf] at hfx
          simp only [List.length_nil] at hfx
          rcases Nat.mul_eq_zero.1 hfx.symm with h | h
          · exact h
          · exact absurd h hk
        subst hf0
        simp only [List.flatten_nil, stN, if_true]
        refine ⟨_, _, rfl, q _ _ ?_ (Fr.refl _ _) (fun b hb => .inl hb) (.inl ⟨_, _, rfl, by simp⟩)⟩
        simp only [List.append_nil, List.length_nil, Nat.add_zero]
        exact ⟨hs', hw⟩
      · rcases h3 with h3 | ⟨b, o, l, h4, h5, h6, h7⟩
        · have hf : fls = [] := List.eq_nil_of_length_eq_zero (by omega)
          subst hf; simp at hf
        · cases h4
          have hf1 : fls.length ≠ 0 := fun h0 => hf (by rw [List.eq_nil_of_length_eq_zero h0]; rfl)
          have hwb := hw b rfl (by simp; omega)
          have hcc : (els.length + fls.length) * k ≤ c * k := Nat.mul_le_mul_right _ hroom
          rw [Nat.add_mul] at hcc
          simp only [Addr.add_lit, stN]
          rw [if_neg hf]
          simp only [h5]
          rw [if_pos ⟨⟨by omega, hcf⟩, hwb⟩]
          refine ⟨_, _, rfl, q _ _ ⟨⟨hall, _, c, by rw [List.length_append], by rw [List.length_append]; omega, .inr ⟨b, o, setL l (o + els.length * k) fls.flatten, rfl, by rw [bk_sto_eq, h5]; rfl, by rw [length_setL]; omega, ?_⟩⟩, ?_⟩ ?_ (fun b hb => .inl hb) (.inl ⟨_, _, rfl, rfl⟩)⟩
          · rw [List.length_append, Nat.add_mul, ← hfx, drop_take_setL (by omega) rfl, h7, List.flatten_append]
          · intro b' hb' _
            simp only [inB_slice] at hb'
            subst hb'
            simpa using hwb
          · exact (Fr.refl _ _).sto (.inl rfl) _ _
  · rw [if_neg hroom]
    have hg : Builtin.nextslicecap (els.length + fls.length) c * bytes ≤ 2 ^ 48 := growslice_fits_wide (by omega) small
    rw [if_neg (not_or.2 ⟨hb, Nat.not_lt.2 hg⟩)]
    simp only [ldN_sl hs', hnew]
    refine ⟨_, _, rfl, q _ _ ⟨⟨hall, some ⟨w.heap.size, 0, none⟩, _, by rw [List.length_append], ?_, .inr ⟨w.heap.size, 0, _, rfl, bk_alloc_at rfl _ _, ?_, ?_⟩⟩, ?_⟩ ((Fr.refl _ _).drew.alloc _) (fun b hb => .inr ?_) (.inr ⟨(Fr.refl _ _).drew.alloc _, fun b hb => by simp only [inB_slice] at hb; subst hb; simp⟩)⟩
    · rw [List.length_append]; simp only [Question.cut]; omega
    · have hge : els.length + fls.length ≤ (Question.appendCap (els.length + fls.length) c e).cut (w.tape w.drawn (.appendCap (els.length + fls.length) c e)) := by simp only [Question.cut]; omega
      generalize (Question.appendCap (els.length + fls.length) c e).cut (w.tape w.drawn (.appendCap (els.length + fls.length) c e)) = C at hge
      simp only [Array.toList_append, List.length_append, Array.length_toList, size_zeroCells, hz, hfl, hfx]
      rw [← Nat.add_mul, ← Nat.add_mul]
      rw [show els.length + fls.length + (C - (els.length + fls.length)) = C by omega]
      omega
    · simp only [Array.toList_append, List.drop_zero]
      rw [List.length_append, Nat.add_mul, ← hfl, ← hfx, List.flatten_append, ← List.length_append, List.take_left]
    · intro b' hb' _
      simp only [inB_slice] at hb'
      subst hb'
      exact wr_alloc_at (by simp) _ _
    · simp only [inB_slice] at hb
      subst hb
      simp
/-- append of one element, in place or not. -/
theorem Run_app1G {e e' bytes : Nat} {zero : Array Value} {s y : Value} {K : World → Value → World → Prop} (hes : y.cells.size = k) (hs : SlW k w s els) (hk : k ≠ 0) (hz : zero.size = k) (hb : bytes ≠ 0)
    (hc : y.cells.toList.all isCell = true) (small : (els.length + 1 + (els.length + 1) / 4 + 192) * bytes ≤ 281474976710656)
    (q : ∀ r w', SlW k w' r (els ++ [y.cells.toList]) → Fr (inB s) w w' → (∀ b, inB r b → inB s b ∨ (w.heap.size ≤ b ∧ b < w'.heap.size)) → ((∃ a c, s = .slice a els.length c ∧ r = .slice a (els.length + 1) c) ∨ (Fr (fun _ => False) w w' ∧ ∀ b, inB r b → w.heap.size ≤ b)) → ∀ w1, Fr (fun _ => False) w w1 → K w1 r w') :
    Run (bslM e' 1 (Builtin.zeroCells zero 1) [(0, k, y)]) w fun a w1 => Run (appM e k bytes zero s a) w1 fun r w' => K w1 r w' := by
  have hf : fillV (Builtin.zeroCells zero 1) [(0, k, y)] = some y.cells := by
    have := fillV_parts (k := k) [y] 0 (Builtin.zeroCells zero 1) (by simpa using hes) (by simp [size_zeroCells, hz])
    rw [show [(0, k, y)] = partsL k 0 [y] from rfl, this, setL_eq _ _ _ (by simp [size_zeroCells, hz, hes])]
    simp [hes]
    rw [List.drop_of_length_le (by simp [size_zeroCells, hz])]
    simp
  generalize y.cells = es at *
  have fr : Fr (fun _ => False) w (w.alloc (.cells es e')) := (Fr.refl _ _).alloc _
  refine ⟨_, _, by unfold bslM; rw [hf], ?_⟩
  have hx : Sl k (w.alloc (.cells es e')) (.slice (some ⟨w.heap.size, 0, none⟩) 1 1) [es.toList] :=
    ⟨by simp [hes], _, 1, rfl, Nat.le_refl _, .inr ⟨_, _, _, rfl, bk_alloc_at rfl _ _, by simp [hes], by simp [← hes, List.take_of_length_le]⟩⟩
  refine Run_appG (hs.fr fr fun _ _ => id) hx hk hz hb (fun e he => by obtain rfl := List.mem_singleton.1 he; exact hc) (by simpa using small) fun r w' h1 h2 h3 h4 => q r w' h1 (fr.mono (fun _ h => h.elim) |>.trans h2 fun _ _ h => h) (fun b hb => ?_) (h4.imp (fun ⟨a, c, e1, e2⟩ => ⟨a, c, e1, e2⟩) fun ⟨g1, g2⟩ => ⟨fr.trans g1 fun _ _ => id, fun b hb => Nat.le_trans fr.size (g2 b hb)⟩) _ fr
  rcases h3 b hb with h | h
  · exact .inl h
  · have := fr.size; exact .inr ⟨by simp at h; omega, h.2⟩

end
end Go.Lift

/-
  The exact laws of layer 21, own lists, part I: the text of a small negative number (strconv.Itoa's own code): the same for the same number.
-/
namespace Go.Proofs.YtiggkhmopnhfaaaDoor
open Go.Lift
set_option linter.unusedSimpArgs false
set_option maxHeartbeats 2000000

def by8 (b : UInt8) : Value := .int .u8 b.toNat
theorem bytesV_by8 : ∀ (l : List UInt8), bytesV (l.map by8) = some l
  | [] => rfl
  | b :: l => by
    have ih := bytesV_by8 l
    show bytesV (Value.int .u8 (b.toNat : Int) :: l.map by8) = _
    unfold bytesV
    simp [ih]
def SM : ByteArray := ByteArray.mk #[48, 48, 48, 49, 48, 50, 48, 51, 48, 52, 48, 53, 48, 54, 48, 55, 48, 56, 48, 57, 49, 48, 49, 49, 49, 50, 49, 51, 49, 52, 49, 53, 49, 54, 49, 55, 49, 56, 49, 57, 50, 48, 50, 49, 50, 50, 50, 51, 50, 52, 50, 53, 50, 54, 50, 55, 50, 56, 50, 57, 51, 48, 51, 49, 51, 50, 51, 51, 51, 52, 51, 53, 51, 54, 51, 55, 51, 56, 51, 57, 52, 48, 52, 49, 52, 50, 52, 51, 52, 52, 52, 53, 52, 54, 52, 55, 52, 56, 52, 57, 53, 48, 53, 49, 53, 50, 53, 51, 53, 52, 53, 53, 53, 54, 53, 55, 53, 56, 53, 57, 54, 48, 54, 49, 54, 50, 54, 51, 54, 52, 54, 53, 54, 54, 54, 55, 54, 56, 54, 57, 55, 48, 55, 49, 55, 50, 55, 51, 55, 52, 55, 53, 55, 54, 55, 55, 55, 56, 55, 57, 56, 48, 56, 49, 56, 50, 56, 51, 56, 52, 56, 53, 56, 54, 56, 55, 56, 56, 56, 57, 57, 48, 57, 49, 57, 50, 57, 51, 57, 52, 57, 53, 57, 54, 57, 55, 57, 56, 57, 57]
theorem SM_def : SM = ByteArray.mk #[48, 48, 48, 49, 48, 50, 48, 51, 48, 52, 48, 53, 48, 54, 48, 55, 48, 56, 48, 57, 49, 48, 49, 49, 49, 50, 49, 51, 49, 52, 49, 53, 49, 54, 49, 55, 49, 56, 49, 57, 50, 48, 50, 49, 50, 50, 50, 51, 50, 52, 50, 53, 50, 54, 50, 55, 50, 56, 50, 57, 51, 48, 51, 49, 51, 50, 51, 51, 51, 52, 51, 53, 51, 54, 51, 55, 51, 56, 51, 57, 52, 48, 52, 49, 52, 50, 52, 51, 52, 52, 52, 53, 52, 54, 52, 55, 52, 56, 52, 57, 53, 48, 53, 49, 53, 50, 53, 51, 53, 52, 53, 53, 53, 54, 53, 55, 53, 56, 53, 57, 54, 48, 54, 49, 54, 50, 54, 51, 54, 52, 54, 53, 54, 54, 54, 55, 54, 56, 54, 57, 55, 48, 55, 49, 55, 50, 55, 51, 55, 52, 55, 53, 55, 54, 55, 55, 55, 56, 55, 57, 56, 48, 56, 49, 56, 50, 56, 51, 56, 52, 56, 53, 56, 54, 56, 55, 56, 56, 56, 57, 57, 48, 57, 49, 57, 50, 57, 51, 57, 52, 57, 53, 57, 54, 57, 55, 57, 56, 57, 57] := rfl
def sq (i : Nat) : UInt8 := (SM[i]?).getD 0
theorem idx_SM {k : IntKind} {i : Nat} (h : i < 200) : idxS (.string SM) (.int k i) = some (by8 (sq i)) := by
  have hs : SM.size = 200 := by decide +kernel
  have h' : i < SM.size := by omega
  simp [idxS, sq, by8, h']

def l8 (n : Nat) : UInt8 := UInt8.ofNat (48 + n)
def d2 (n : Nat) : List UInt8 := [sq (n * 2), sq (n * 2 + 1)]
/-- The text's digits, nd of them. -/
def dgs (nd u : Nat) : List UInt8 := match nd with
  | 1 => [l8 u]
  | 2 => d2 (u % 100)
  | 3 => l8 (u / 100) :: d2 (u % 100)
  | 4 => d2 (u % 10000 / 100) ++ d2 (u % 10000 % 100)
  | 5 => l8 (u / 10000) :: (d2 (u % 10000 / 100) ++ d2 (u % 10000 % 100))
  | 6 => d2 (u / 10000 % 100) ++ (d2 (u % 10000 / 100) ++ d2 (u % 10000 % 100))
  | 7 => l8 (u / 10000 / 100) :: (d2 (u / 10000 % 100) ++ (d2 (u % 10000 / 100) ++ d2 (u % 10000 % 100)))
  | _ => []
theorem u32_small {n : Nat} (h : n < 4294967296) : IntKind.u32.wrap (n : Int) = n := by simp [IntKind.wrap, IntKind.bits, IntKind.signed]; omega
def uv (n : Nat) : Value := .int .u32 (n : Int)
theorem rem100 (n : Nat) : binV .rem (uv n) (.int .u32 100) = some (uv (n % 100)) := by
  unfold uv; rw [binV_int]; simp only [intBin]; rw [if_neg (by decide), Int.tmod_eq_emod_of_nonneg (by omega)]; rfl
theorem rem10000 (n : Nat) : binV .rem (uv n) (.int .u32 10000) = some (uv (n % 10000)) := by
  unfold uv; rw [binV_int]; simp only [intBin]; rw [if_neg (by decide), Int.tmod_eq_emod_of_nonneg (by omega)]; rfl
theorem quo100 {n : Nat} (h : n < 4294967296) : binV .quo (uv n) (.int .u32 100) = some (uv (n / 100)) := by
  have : (n : Int).tdiv 100 = ((n / 100 : Nat) : Int) := by rw [Int.tdiv_eq_ediv_of_nonneg (by omega)]; rfl
  unfold uv; rw [binV_int]; simp only [intBin]; rw [if_neg (by decide), this, u32_small (by omega)]
theorem quo10000 {n : Nat} (h : n < 4294967296) : binV .quo (uv n) (.int .u32 10000) = some (uv (n / 10000)) := by
  have : (n : Int).tdiv 10000 = ((n / 10000 : Nat) : Int) := by rw [Int.tdiv_eq_ediv_of_nonneg (by omega)]; rfl
  unfold uv; rw [binV_int]; simp only [intBin]; rw [if_neg (by decide), this, u32_small (by omega)]
theorem mul2 {n : Nat} (h : n < 2147483648) : binV .mul (uv n) (.int .u32 2) = some (uv (n * 2)) := by
  have : (n : Int) * 2 = ((n * 2 : Nat) : Int) := by omega
  unfold uv; rw [binV_int]; simp only [intBin]; rw [this, u32_small (by omega)]
theorem add1 {n : Nat} (h : n < 4294967295) : binV .add (uv n) (.int .u32 1) = some (uv (n + 1)) := by
  have : (n : Int) + 1 = ((n + 1 : Nat) : Int) := by omega
  unfold uv; rw [binV_int]; simp only [intBin]; rw [this, u32_small (by omega)]
theorem add48 {n : Nat} (h : n < 4294967200) : binV .add (.int .u32 48) (uv n) = some (uv (48 + n)) := by
  have : (48 : Int) + (n : Int) = ((48 + n : Nat) : Int) := by omega
  unfold uv; rw [binV_int]; simp only [intBin]; rw [this, u32_small (by omega)]
theorem cvt8 (n : Nat) : cvtI .u8 (uv n) = some (by8 (UInt8.ofNat n)) := by
  simp only [cvtI, uv, by8, Option.some.injEq]
  congr 1
theorem cvt32 {n : Nat} (h : n < 4294967296) : cvtI .u32 (.int .u64 (n : Int)) = some (uv n) := by
  simp only [cvtI, uv]
  rw [u32_small h]
theorem idx_uv {i : Nat} (h : i < 200) : idxS (.string SM) (uv i) = some (by8 (sq i)) := idx_SM h
theorem by8_cell (b : UInt8) : isCell (by8 b) = true := rfl
theorem by8_cells (b : UInt8) : Value.cells (by8 b) = #[by8 b] := rfl


set_option maxHeartbeats 8000000 in
theorem format_1 {w : World} {b u : Nat} (hb : bk w b = some ((List.replicate 24 (0 : UInt8)).map by8)) (hw : wr w b = true) (hu : u < 10000000) :
    Run (F.strconv_formatBase10 (.slice (some ⟨b, 1, none⟩) 1 23) (.int .u64 u)) w fun _ w' => bk w' b = some ((0 :: (dgs 1 u ++ List.replicate 22 0)).map by8) ∧ wr w' b = true ∧ Fr (fun c => c = b) w w' := by
  unfold F.strconv_formatBase10
  rw [← SM_def]
  have b0 : u < 4294967296 := by omega
  have b1 : u / 10000 < 4294967296 := by omega
  have b2 : u % 10000 < 4294967296 := by omega
  have b3 : u % 10000 / 100 < 2147483648 := by omega
  have b4 : u % 10000 % 100 < 2147483648 := by omega
  have b5 : u / 10000 % 100 < 2147483648 := by omega
  have b6 : u % 100 < 2147483648 := by omega
  have c1 : u % 10000 / 100 * 2 < 4294967295 := by omega
  have c2 : u % 10000 % 100 * 2 < 4294967295 := by omega
  have c3 : u / 10000 % 100 * 2 < 4294967295 := by omega
  have c4 : u % 100 * 2 < 4294967295 := by omega
  have i1 : u % 10000 / 100 * 2 < 200 := by omega
  have i2 : u % 10000 % 100 * 2 < 200 := by omega
  have i3 : u / 10000 % 100 * 2 < 200 := by omega
  have i4 : u % 100 * 2 < 200 := by omega
  have j1 : u % 10000 / 100 * 2 + 1 < 200 := by omega
  have j2 : u % 10000 % 100 * 2 + 1 < 200 := by omega
  have j3 : u / 10000 % 100 * 2 + 1 < 200 := by omega
  have j4 : u % 100 * 2 + 1 < 200 := by omega
  have k1 : u < 4294967200 := by omega
  have k2 : u / 10000 < 4294967200 := by omega
  have k3 : u / 100 < 4294967200 := by omega
  have k4 : u / 10000 / 100 < 4294967200 := by omega
  have v0 : IntKind.i64.wrap 0 = 0 := by decide
  have v1 : IntKind.i64.wrap 1 = 1 := by decide
  have v2 : IntKind.i64.wrap 2 = 2 := by decide
  have v3 : IntKind.i64.wrap 3 = 3 := by decide
  have v4 : IntKind.i64.wrap 4 = 4 := by decide
  have v5 : IntKind.i64.wrap 5 = 5 := by decide
  have v6 : IntKind.i64.wrap 6 = 6 := by decide
  simp only [lenL_slice, Run_bind, Run_bindO_some]
  refine Run_for 0 (fun i l w1 => l = [.int .u64 u, .int .i64 1] ∧ w1 = w) ⟨rfl, rfl⟩ (fun i l w1 hi => by omega) ?_
  rintro _ _ ⟨rfl, rfl⟩
  have hs : ∀ (w1 : World) (i : Nat) (v : Value), bk (sto w1 b i [v]) b = (bk w1 b).map (fun l => l.set i v) := by
    intro w1 i v
    rw [bk_sto_eq]
    cases bk w1 b <;> simp
  simp only [List.replicate, List.map_cons, List.map_nil] at hb
  simp [-cvtI_int, v0, v1, v2, v3, v4, v5, v6, cvt32, rem100, rem10000, quo100, quo10000, mul2, add1, add48, cvt8, idx_uv, Addr.add_lit, by8_cell, by8_cells, hb, hw, hs, dgs, d2, l8, b0, b1, b2, b3, b4, b5, b6, c1, c2, c3, c4, i1, i2, i3, i4, j1, j2, j3, j4, k1, k2, k3, k4]
  exact (Fr.refl (fun c => c = b) _).sto (.inl rfl) _ _

set_option maxHeartbeats 8000000 in
theorem format_2 {w : World} {b u : Nat} (hb : bk w b = some ((List.replicate 24 (0 : UInt8)).map by8)) (hw : wr w b = true) (hu : u < 10000000) :
    Run (F.strconv_formatBase10 (.slice (some ⟨b, 1, none⟩) 2 23) (.int .u64 u)) w fun _ w' => bk w' b = some ((0 :: (dgs 2 u ++ List.replicate 21 0)).map by8) ∧ wr w' b = true ∧ Fr (fun c => c = b) w w' := by
  unfold F.strconv_formatBase10
  rw [← SM_def]
  have b0 : u < 4294967296 := by omega
  have b1 : u / 10000 < 4294967296 := by omega
  have b2 : u % 10000 < 4294967296 := by omega
  have b3 : u % 10000 / 100 < 2147483648 := by omega
  have b4 : u % 10000 % 100 < 2147483648 := by omega
  have b5 : u / 10000 % 100 < 2147483648 := by omega
  have b6 : u % 100 < 2147483648 := by omega
  have c1 : u % 10000 / 100 * 2 < 4294967295 := by omega
  have c2 : u % 10000 % 100 * 2 < 4294967295 := by omega
  have c3 : u / 10000 % 100 * 2 < 4294967295 := by omega
  have c4 : u % 100 * 2 < 4294967295 := by omega
  have i1 : u % 10000 / 100 * 2 < 200 := by omega
  have i2 : u % 10000 % 100 * 2 < 200 := by omega
  have i3 : u / 10000 % 100 * 2 < 200 := by omega
  have i4 : u % 100 * 2 < 200 := by omega
  have j1 : u % 10000 / 100 * 2 + 1 < 200 := by omega
  have j2 : u % 10000 % 100 * 2 + 1 < 200 := by omega
  have j3 : u / 10000 % 100 * 2 + 1 < 200 := by omega
  have j4 : u % 100 * 2 + 1 < 200 := by omega
  have k1 : u < 4294967200 := by omega
  have k2 : u / 10000 < 4294967200 := by omega
  have k3 : u / 100 < 4294967200 := by omega
  have k4 : u / 10000 / 100 < 4294967200 := by omega
  have v0 : IntKind.i64.wrap 0 = 0 := by decide
  have v1 : IntKind.i64.wrap 1 = 1 := by decide
  have v2 : IntKind.i64.wrap 2 = 2 := by decide
  have v3 : IntKind.i64.wrap 3 = 3 := by decide
  have v4 : IntKind.i64.wrap 4 = 4 := by decide
  have v5 : IntKind.i64.wrap 5 = 5 := by decide
  have v6 : IntKind.i64.wrap 6 = 6 := by decide
  simp only [lenL_slice, Run_bind, Run_bindO_some]
  refine Run_for 0 (fun i l w1 => l = [.int .u64 u, .int .i64 2] ∧ w1 = w) ⟨rfl, rfl⟩ (fun i l w1 hi => by omega) ?_
  rintro _ _ ⟨rfl, rfl⟩
  have hs : ∀ (w1 : World) (i : Nat) (v : Value), bk (sto w1 b i [v]) b = (bk w1 b).map (fun l => l.set i v) := by
    intro w1 i v
    rw [bk_sto_eq]
    cases bk w1 b <;> simp
  simp only [List.replicate, List.map_cons, List.map_nil] at hb
  simp [-cvtI_int, v0, v1, v2, v3, v4, v5, v6, cvt32, rem100, rem10000, quo100, quo10000, mul2, add1, add48, cvt8, idx_uv, Addr.add_lit, by8_cell, by8_cells, hb, hw, hs, dgs, d2, l8, b0, b1, b2, b3, b4, b5, b6, c1, c2, c3, c4, i1, i2, i3, i4, j1, j2, j3, j4, k1, k2, k3, k4]
  exact (((Fr.refl (fun c => c = b) _).drew).sto (.inl rfl) _ _).sto (.inl rfl) _ _

set_option maxHeartbeats 8000000 in
theorem format_3 {w : World} {b u : Nat} (hb : bk w b = some ((List.replicate 24 (0 : UInt8)).map by8)) (hw : wr w b = true) (hu : u < 10000000) :
    Run (F.strconv_formatBase10 (.slice (some ⟨b, 1, none⟩) 3 23) (.int .u64 u)) w fun _ w' => bk w' b = some ((0 :: (dgs 3 u ++ List.replicate 20 0)).map by8) ∧ wr w' b = true ∧ Fr (fun c => c = b) w w' := by
  unfold F.strconv_formatBase10
  rw [← SM_def]
  have b0 : u < 4294967296 := by omega
  have b1 : u / 10000 < 4294967296 := by omega
  have b2 : u % 10000 < 4294967296 := by omega
  have b3 : u % 10000 / 100 < 2147483648 := by omega
  have b4 : u % 10000 % 100 < 2147483648 := by omega
  have b5 : u / 10000 % 100 < 2147483648 := by omega
  have b6 : u % 100 < 2147483648 := by omega
  have c1 : u % 10000 / 100 * 2 < 4294967295 := by omega
  have c2 : u % 10000 % 100 * 2 < 4294967295 := by omega
  have c3 : u / 10000 % 100 * 2 < 4294967295 := by omega
  have c4 : u % 100 * 2 < 4294967295 := by omega
  have i1 : u % 10000 / 100 * 2 < 200 := by omega
  have i2 : u % 10000 % 100 * 2 < 200 := by omega
  have i3 : u / 10000 % 100 * 2 < 200 := by omega
  have i4 : u % 100 * 2 < 200 := by omega
  have j1 : u % 10000 / 100 * 2 + 1 < 200 := by omega
  have j2 : u % 10000 % 100 * 2 + 1 < 200 := by omega
  have j3 : u / 10000 % 100 * 2 + 1 < 200 := by omega
  have j4 : u % 100 * 2 + 1 < 200 := by omega
  have k1 : u < 4294967200 := by omega
  have k2 : u / 10000 < 4294967200 := by omega
  have k3 : u / 100 < 4294967200 := by omega
  have k4 : u / 10000 / 100 < 4294967200 := by omega
  have v0 : IntKind.i64.wrap 0 = 0 := by decide
  have v1 : IntKind.i64.wrap 1 = 1 := by decide
  have v2 : IntKind.i64.wrap 2 = 2 := by decide
  have v3 : IntKind.i64.wrap 3 = 3 := by decide
  have v4 : IntKind.i64.wrap 4 = 4 := by decide
  have v5 : IntKind.i64.wrap 5 = 5 := by decide
  have v6 : IntKind.i64.wrap 6 = 6 := by decide
  simp only [lenL_slice, Run_bind, Run_bindO_some]
  refine Run_for 0 (fun i l w1 => l = [.int .u64 u, .int .i64 3] ∧ w1 = w) ⟨rfl, rfl⟩ (fun i l w1 hi => by omega) ?_
  rintro _ _ ⟨rfl, rfl⟩
  have hs : ∀ (w1 : World) (i : Nat) (v : Value), bk (sto w1 b i [v]) b = (bk w1 b).map (fun l => l.set i v) := by
    intro w1 i v
    rw [bk_sto_eq]
    cases bk w1 b <;> simp
  simp only [List.replicate, List.map_cons, List.map_nil] at hb
  simp [-cvtI_int, v0, v1, v2, v3, v4, v5, v6, cvt32, rem100, rem10000, quo100, quo10000, mul2, add1, add48, cvt8, idx_uv, Addr.add_lit, by8_cell, by8_cells, hb, hw, hs, dgs, d2, l8, b0, b1, b2, b3, b4, b5, b6, c1, c2, c3, c4, i1, i2, i3, i4, j1, j2, j3, j4, k1, k2, k3, k4]
  exact ((((Fr.refl (fun c => c = b) _).drew).sto (.inl rfl) _ _).sto (.inl rfl) _ _).sto (.inl rfl) _ _

set_option maxHeartbeats 8000000 in
theorem format_4 {w : World} {b u : Nat} (hb : bk w b = some ((List.replicate 24 (0 : UInt8)).map by8)) (hw : wr w b = true) (hu : u < 10000000) :
    Run (F.strconv_formatBase10 (.slice (some ⟨b, 1, none⟩) 4 23) (.int .u64 u)) w fun _ w' => bk w' b = some ((0 :: (dgs 4 u ++ List.replicate 19 0)).map by8) ∧ wr w' b = true ∧ Fr (fun c => c = b) w w' := by
  unfold F.strconv_formatBase10
  rw [← SM_def]
  have b0 : u < 4294967296 := by omega
  have b1 : u / 10000 < 4294967296 := by omega
  have b2 : u % 10000 < 4294967296 := by omega
  have b3 : u % 10000 / 100 < 2147483648 := by omega
  have b4 : u % 10000 % 100 < 2147483648 := by omega
  have b5 : u / 10000 % 100 < 2147483648 := by omega
  have b6 : u % 100 < 2147483648 := by omega
  have c1 : u % 10000 / 100 * 2 < 4294967295 := by omega
  have c2 : u % 10000 % 100 * 2 < 4294967295 := by omega
  have c3 : u / 10000 % 100 * 2 < 4294967295 := by omega
  have c4 : u % 100 * 2 < 4294967295 := by omega
  have i1 : u % 10000 / 100 * 2 < 200 := by omega
  have i2 : u % 10000 % 100 * 2 < 200 := by omega
  have i3 : u / 10000 % 100 * 2 < 200 := by omega
  have i4 : u % 100 * 2 < 200 := by omega
  have j1 : u % 10000 / 100 * 2 + 1 < 200 := by omega
  have j2 : u % 10000 % 100 * 2 + 1 < 200 := by omega
  have j3 : u / 10000 % 100 * 2 + 1 < 200 := by omega
  have j4 : u % 100 * 2 + 1 < 200 := by omega
  have k1 : u < 4294967200 := by omega
  have k2 : u / 10000 < 4294967200 := by omega
  have k3 : u / 100 < 4294967200 := by omega
  have k4 : u / 10000 / 100 < 4294967200 := by omega
  have v0 : IntKind.i64.wrap 0 = 0 := by decide
  have v1 : IntKind.i64.wrap 1 = 1 := by decide
  have v2 : IntKind.i64.wrap 2 = 2 := by decide
  have v3 : IntKind.i64.wrap 3 = 3 := by decide
  have v4 : IntKind.i64.wrap 4 = 4 := by decide
  have v5 : IntKind.i64.wrap 5 = 5 := by decide
  have v6 : IntKind.i64.wrap 6 = 6 := by decide
  simp only [lenL_slice, Run_bind, Run_bindO_some]
  refine Run_for 0 (fun i l w1 => l = [.int .u64 u, .int .i64 4] ∧ w1 = w) ⟨rfl, rfl⟩ (fun i l w1 hi => by omega) ?_
  rintro _ _ ⟨rfl, rfl⟩
  have hs : ∀ (w1 : World) (i : Nat) (v : Value), bk (sto w1 b i [v]) b = (bk w1 b).map (fun l => l.set i v) := by
    intro w1 i v
    rw [bk_sto_eq]
    cases bk w1 b <;> simp
  simp only [List.replicate, List.map_cons, List.map_nil] at hb
  simp [-cvtI_int, v0, v1, v2, v3, v4, v5, v6, cvt32, rem100, rem10000, quo100, quo10000, mul2, add1, add48, cvt8, idx_uv, Addr.add_lit, by8_cell, by8_cells, hb, hw, hs, dgs, d2, l8, b0, b1, b2, b3, b4, b5, b6, c1, c2, c3, c4, i1, i2, i3, i4, j1, j2, j3, j4, k1, k2, k3, k4]
  exact ((((((Fr.refl (fun c => c = b) _).drew).sto (.inl rfl) _ _).sto (.inl rfl) _ _).drew).sto (.inl rfl) _ _).sto (.inl rfl) _ _

set_option maxHeartbeats 8000000 in
theorem format_5 {w : World} {b u : Nat} (hb : bk w b = some ((List.replicate 24 (0 : UInt8)).map by8)) (hw : wr w b = true) (hu : u < 10000000) :
    Run (F.strconv_formatBase10 (.slice (some ⟨b, 1, none⟩) 5 23) (.int .u64 u)) w fun _ w' => bk w' b = some ((0 :: (dgs 5 u ++ List.replicate 18 0)).map by8) ∧ wr w' b = true ∧ Fr (fun c => c = b) w w' := by
  unfold F.strconv_formatBase10
  rw [← SM_def]
  have b0 : u < 4294967296 := by omega
  have b1 : u / 10000 < 4294967296 := by omega
  have b2 : u % 10000 < 4294967296 := by omega
  have b3 : u % 10000 / 100 < 2147483648 := by omega
  have b4 : u % 10000 % 100 < 2147483648 := by omega
  have b5 : u / 10000 % 100 < 2147483648 := by omega
  have b6 : u % 100 < 2147483648 := by omega
  have c1 : u % 10000 / 100 * 2 < 4294967295 := by omega
  have c2 : u % 10000 % 100 * 2 < 4294967295 := by omega
  have c3 : u / 10000 % 100 * 2 < 4294967295 := by omega
  have c4 : u % 100 * 2 < 4294967295 := by omega
  have i1 : u % 10000 / 100 * 2 < 200 := by omega
  have i2 : u % 10000 % 100 * 2 < 200 := by omega
  have i3 : u / 10000 % 100 * 2 < 200 := by omega
  have i4 : u % 100 * 2 < 200 := by omega
  have j1 : u % 10000 / 100 * 2 + 1 < 200 := by omega
  have j2 : u % 10000 % 100 * 2 + 1 < 200 := by omega
  have j3 : u / 10000 % 100 * 2 + 1 < 200 := by omega
  have j4 : u % 100 * 2 + 1 < 200 := by omega
  have k1 : u < 4294967200 := by omega
  have k2 : u / 10000 < 4294967200 := by omega
  have k3 : u / 100 < 4294967200 := by omega
  have k4 : u / 10000 / 100 < 4294967200 := by omega
  have v0 : IntKind.i64.wrap 0 = 0 := by decide
  have v1 : IntKind.i64.wrap 1 = 1 := by decide
  have v2 : IntKind.i64.wrap 2 = 2 := by decide
  have v3 : IntKind.i64.wrap 3 = 3 := by decide
  have v4 : IntKind.i64.wrap 4 = 4 := by decide
  have v5 : IntKind.i64.wrap 5 = 5 := by decide
  have v6 : IntKind.i64.wrap 6 = 6 := by decide
  simp only [lenL_slice, Run_bind, Run_bindO_some]
  refine Run_for 0 (fun i l w1 => l = [.int .u64 u, .int .i64 5] ∧ w1 = w) ⟨rfl, rfl⟩ (fun i l w1 hi => by omega) ?_
  rintro _ _ ⟨rfl, rfl⟩
  have hs : ∀ (w1 : World) (i : Nat) (v : Value), bk (sto w1 b i [v]) b = (bk w1 b).map (fun l => l.set i v) := by
    intro w1 i v
    rw [bk_sto_eq]
    cases bk w1 b <;> simp
  simp only [List.replicate, List.map_cons, List.map_nil] at hb
  simp [-cvtI_int, v0, v1, v2, v3, v4, v5, v6, cvt32, rem100, rem10000, quo100, quo10000, mul2, add1, add48, cvt8, idx_uv, Addr.add_lit, by8_cell, by8_cells, hb, hw, hs, dgs, d2, l8, b0, b1, b2, b3, b4, b5, b6, c1, c2, c3, c4, i1, i2, i3, i4, j1, j2, j3, j4, k1, k2, k3, k4]
  exact (((((((Fr.refl (fun c => c = b) _).drew).sto (.inl rfl) _ _).sto (.inl rfl) _ _).drew).sto (.inl rfl) _ _).sto (.inl rfl) _ _).sto (.inl rfl) _ _

set_option maxHeartbeats 8000000 in
theorem format_6 {w : World} {b u : Nat} (hb : bk w b = some ((List.replicate 24 (0 : UInt8)).map by8)) (hw : wr w b = true) (hu : u < 10000000) :
    Run (F.strconv_formatBase10 (.slice (some ⟨b, 1, none⟩) 6 23) (.int .u64 u)) w fun _ w' => bk w' b = some ((0 :: (dgs 6 u ++ List.replicate 17 0)).map by8) ∧ wr w' b = true ∧ Fr (fun c => c = b) w w' := by
  unfold F.strconv_formatBase10
  rw [← SM_def]
  have b0 : u < 4294967296 := by omega
  have b1 : u / 10000 < 4294967296 := by omega
  have b2 : u % 10000 < 4294967296 := by omega
  have b3 : u % 10000 / 100 < 2147483648 := by omega
  have b4 : u % 10000 % 100 < 2147483648 := by omega
  have b5 : u / 10000 % 100 < 2147483648 := by omega
  have b6 : u % 100 < 2147483648 := by omega
  have c1 : u % 10000 / 100 * 2 < 4294967295 := by omega
  have c2 : u % 10000 % 100 * 2 < 4294967295 := by omega
  have c3 : u / 10000 % 100 * 2 < 4294967295 := by omega
  have c4 : u % 100 * 2 < 4294967295 := by omega
  have i1 : u % 10000 / 100 * 2 < 200 := by omega
  have i2 : u % 10000 % 100 * 2 < 200 := by omega
  have i3 : u / 10000 % 100 * 2 < 200 := by omega
  have i4 : u % 100 * 2 < 200 := by omega
  have j1 : u % 10000 / 100 * 2 + 1 < 200 := by omega
  have j2 : u % 10000 % 100 * 2 + 1 < 200 := by omega
  have j3 : u / 10000 % 100 * 2 + 1 < 200 := by omega
  have j4 : u % 100 * 2 + 1 < 200 := by omega
  have k1 : u < 4294967200 := by omega
  have k2 : u / 10000 < 4294967200 := by omega
  have k3 : u / 100 < 4294967200 := by omega
  have k4 : u / 10000 / 100 < 4294967200 := by omega
  have v0 : IntKind.i64.wrap 0 = 0 := by decide
  have v1 : IntKind.i64.wrap 1 = 1 := by decide
  have v2 : IntKind.i64.wrap 2 = 2 := by decide
  have v3 : IntKind.i64.wrap 3 = 3 := by decide
  have v4 : IntKind.i64.wrap 4 = 4 := by decide
  have v5 : IntKind.i64.wrap 5 = 5 := by decide
  have v6 : IntKind.i64.wrap 6 = 6 := by decide
  simp only [lenL_slice, Run_bind, Run_bindO_some]
  refine Run_for 0 (fun i l w1 => l = [.int .u64 u, .int .i64 6] ∧ w1 = w) ⟨rfl, rfl⟩ (fun i l w1 hi => by omega) ?_
  rintro _ _ ⟨rfl, rfl⟩
  have hs : ∀ (w1 : World) (i : Nat) (v : Value), bk (sto w1 b i [v]) b = (bk w1 b).map (fun l => l.set i v) := by
    intro w1 i v
    rw [bk_sto_eq]
    cases bk w1 b <;> simp
  simp only [List.replicate, List.map_cons, List.map_nil] at hb
  simp [-cvtI_int, v0, v1, v2, v3, v4, v5, v6, cvt32, rem100, rem10000, quo100, quo10000, mul2, add1, add48, cvt8, idx_uv, Addr.add_lit, by8_cell, by8_cells, hb, hw, hs, dgs, d2, l8, b0, b1, b2, b3, b4, b5, b6, c1, c2, c3, c4, i1, i2, i3, i4, j1, j2, j3, j4, k1, k2, k3, k4]
  exact (((((((((Fr.refl (fun c => c = b) _).drew).sto (.inl rfl) _ _).sto (.inl rfl) _ _).drew).sto (.inl rfl) _ _).sto (.inl rfl) _ _).drew).sto (.inl rfl) _ _).sto (.inl rfl) _ _

set_option maxHeartbeats 8000000 in
theorem format_7 {w : World} {b u : Nat} (hb : bk w b = some ((List.replicate 24 (0 : UInt8)).map by8)) (hw : wr w b = true) (hu : u < 10000000) :
    Run (F.strconv_formatBase10 (.slice (some ⟨b, 1, none⟩) 7 23) (.int .u64 u)) w fun _ w' => bk w' b = some ((0 :: (dgs 7 u ++ List.replicate 16 0)).map by8) ∧ wr w' b = true ∧ Fr (fun c => c = b) w w' := by
  unfold F.strconv_formatBase10
  rw [← SM_def]
  have b0 : u < 4294967296 := by omega
  have b1 : u / 10000 < 4294967296 := by omega
  have b2 : u % 10000 < 4294967296 := by omega
  have b3 : u % 10000 / 100 < 2147483648 := by omega
  have b4 : u % 10000 % 100 < 2147483648 := by omega
  have b5 : u / 10000 % 100 < 2147483648 := by omega
  have b6 : u % 100 < 2147483648 := by omega
  have c1 : u % 10000 / 100 * 2 < 4294967295 := by omega
  have c2 : u % 10000 % 100 * 2 < 4294967295 := by omega
  have c3 : u / 10000 % 100 * 2 < 4294967295 := by omega
  have c4 : u % 100 * 2 < 4294967295 := by omega
  have i1 : u % 10000 / 100 * 2 < 200 := by omega
  have i2 : u % 10000 % 100 * 2 < 200 := by omega
  have i3 : u / 10000 % 100 * 2 < 200 := by omega
  have i4 : u % 100 * 2 < 200 := by omega
  have j1 : u % 10000 / 100 * 2 + 1 < 200 := by omega
  have j2 : u % 10000 % 100 * 2 + 1 < 200 := by omega
  have j3 : u / 10000 % 100 * 2 + 1 < 200 := by omega
  have j4 : u % 100 * 2 + 1 < 200 := by omega
  have k1 : u < 4294967200 := by omega
  have k2 : u / 10000 < 4294967200 := by omega
  have k3 : u / 100 < 4294967200 := by omega
  have k4 : u / 10000 / 100 < 4294967200 := by omega
  have v0 : IntKind.i64.wrap 0 = 0 := by decide
  have v1 : IntKind.i64.wrap 1 = 1 := by decide
  have v2 : IntKind.i64.wrap 2 = 2 := by decide
  have v3 : IntKind.i64.wrap 3 = 3 := by decide
  have v4 : IntKind.i64.wrap 4 = 4 := by decide
  have v5 : IntKind.i64.wrap 5 = 5 := by decide
  have v6 : IntKind.i64.wrap 6 = 6 := by decide
  simp only [lenL_slice, Run_bind, Run_bindO_some]
  refine Run_for 0 (fun i l w1 => l = [.int .u64 u, .int .i64 7] ∧ w1 = w) ⟨rfl, rfl⟩ (fun i l w1 hi => by omega) ?_
  rintro _ _ ⟨rfl, rfl⟩
  have hs : ∀ (w1 : World) (i : Nat) (v : Value), bk (sto w1 b i [v]) b = (bk w1 b).map (fun l => l.set i v) := by
    intro w1 i v
    rw [bk_sto_eq]
    cases bk w1 b <;> simp
  simp only [List.replicate, List.map_cons, List.map_nil] at hb
  simp [-cvtI_int, v0, v1, v2, v3, v4, v5, v6, cvt32, rem100, rem10000, quo100, quo10000, mul2, add1, add48, cvt8, idx_uv, Addr.add_lit, by8_cell, by8_cells, hb, hw, hs, dgs, d2, l8, b0, b1, b2, b3, b4, b5, b6, c1, c2, c3, c4, i1, i2, i3, i4, j1, j2, j3, j4, k1, k2, k3, k4]
  exact ((((((((((Fr.refl (fun c => c = b) _).drew).sto (.inl rfl) _ _).sto (.inl rfl) _ _).drew).sto (.inl rfl) _ _).sto (.inl rfl) _ _).drew).sto (.inl rfl) _ _).sto (.inl rfl) _ _).sto (.inl rfl) _ _


theorem format_run {w : World} {b nd u : Nat} (hb : bk w b = some ((List.replicate 24 (0 : UInt8)).map by8)) (hw : wr w b = true) (h1 : 1 ≤ nd) (h7 : nd ≤ 7) (hu : u < 10000000) :
    Run (F.strconv_formatBase10 (.slice (some ⟨b, 1, none⟩) nd 23) (.int .u64 u)) w fun _ w' => bk w' b = some ((0 :: (dgs nd u ++ List.replicate (23 - nd) 0)).map by8) ∧ wr w' b = true ∧ Fr (fun c => c = b) w w' := by
  have hcase : nd = 1 ∨ nd = 2 ∨ nd = 3 ∨ nd = 4 ∨ nd = 5 ∨ nd = 6 ∨ nd = 7 := by omega
  rcases hcase with rfl | rfl | rfl | rfl | rfl | rfl | rfl
  · exact format_1 hb hw hu
  · exact format_2 hb hw hu
  · exact format_3 hb hw hu
  · exact format_4 hb hw hu
  · exact format_5 hb hw hu
  · exact format_6 hb hw hu
  · exact format_7 hb hw hu

end Go.Proofs.YtiggkhmopnhfaaaDoor

/-
  The exact laws of layer 21, own lists, part J: the text of a small negative number: the same in every world.
-/
namespace Go.Proofs.YtiggkhmopnhfaaaDoor
open Go.Lift
set_option linter.unusedSimpArgs false
set_option maxHeartbeats 2000000

def LT : ByteArray := ByteArray.mk #[0, 1, 2, 2, 3, 3, 3, 3, 4, 4, 4, 4, 4, 4, 4, 4, 5, 5, 5, 5, 5, 5, 5, 5, 5, 5, 5, 5, 5, 5, 5, 5, 6, 6, 6, 6, 6, 6, 6, 6, 6, 6, 6, 6, 6, 6, 6, 6, 6, 6, 6, 6, 6, 6, 6, 6, 6, 6, 6, 6, 6, 6, 6, 6, 7, 7, 7, 7, 7, 7, 7, 7, 7, 7, 7, 7, 7, 7, 7, 7, 7, 7, 7, 7, 7, 7, 7, 7, 7, 7, 7, 7, 7, 7, 7, 7, 7, 7, 7, 7, 7, 7, 7, 7, 7, 7, 7, 7, 7, 7, 7, 7, 7, 7, 7, 7, 7, 7, 7, 7, 7, 7, 7, 7, 7, 7, 7, 7, 8, 8, 8, 8, 8, 8, 8, 8, 8, 8, 8, 8, 8, 8, 8, 8, 8, 8, 8, 8, 8, 8, 8, 8, 8, 8, 8, 8, 8, 8, 8, 8, 8, 8, 8, 8, 8, 8, 8, 8, 8, 8, 8, 8, 8, 8, 8, 8, 8, 8, 8, 8, 8, 8, 8, 8, 8, 8, 8, 8, 8, 8, 8, 8, 8, 8, 8, 8, 8, 8, 8, 8, 8, 8, 8, 8, 8, 8, 8, 8, 8, 8, 8, 8, 8, 8, 8, 8, 8, 8, 8, 8, 8, 8, 8, 8, 8, 8, 8, 8, 8, 8, 8, 8, 8, 8, 8, 8, 8, 8, 8, 8, 8, 8, 8, 8, 8, 8, 8, 8, 8, 8, 8, 8, 8, 8, 8, 8]
theorem LT_def : LT = ByteArray.mk #[0, 1, 2, 2, 3, 3, 3, 3, 4, 4, 4, 4, 4, 4, 4, 4, 5, 5, 5, 5, 5, 5, 5, 5, 5, 5, 5, 5, 5, 5, 5, 5, 6, 6, 6, 6, 6, 6, 6, 6, 6, 6, 6, 6, 6, 6, 6, 6, 6, 6, 6, 6, 6, 6, 6, 6, 6, 6, 6, 6, 6, 6, 6, 6, 7, 7, 7, 7, 7, 7, 7, 7, 7, 7, 7, 7, 7, 7, 7, 7, 7, 7, 7, 7, 7, 7, 7, 7, 7, 7, 7, 7, 7, 7, 7, 7, 7, 7, 7, 7, 7, 7, 7, 7, 7, 7, 7, 7, 7, 7, 7, 7, 7, 7, 7, 7, 7, 7, 7, 7, 7, 7, 7, 7, 7, 7, 7, 7, 8, 8, 8, 8, 8, 8, 8, 8, 8, 8, 8, 8, 8, 8, 8, 8, 8, 8, 8, 8, 8, 8, 8, 8, 8, 8, 8, 8, 8, 8, 8, 8, 8, 8, 8, 8, 8, 8, 8, 8, 8, 8, 8, 8, 8, 8, 8, 8, 8, 8, 8, 8, 8, 8, 8, 8, 8, 8, 8, 8, 8, 8, 8, 8, 8, 8, 8, 8, 8, 8, 8, 8, 8, 8, 8, 8, 8, 8, 8, 8, 8, 8, 8, 8, 8, 8, 8, 8, 8, 8, 8, 8, 8, 8, 8, 8, 8, 8, 8, 8, 8, 8, 8, 8, 8, 8, 8, 8, 8, 8, 8, 8, 8, 8, 8, 8, 8, 8, 8, 8, 8, 8, 8, 8, 8, 8, 8, 8] := rfl
def lq (i : Nat) : Nat := ((LT[i]?).getD 0).toNat
theorem lq_le (i : Nat) : lq i ≤ 8 := by
  by_cases h : i < 256
  · have : ∀ i < 256, lq i ≤ 8 := by decide +kernel
    exact this i h
  · have hs : LT.size = 256 := by decide +kernel
    unfold lq
    rw [getElem?_neg LT i (by omega)]
    decide
theorem idx_LT {i : Nat} (h : i < 256) : idxS (.string LT) (.int .u8 i) = some (.int .u8 (lq i)) := by
  have hs : LT.size = 256 := by decide +kernel
  have h' : i < LT.size := by omega
  simp [idxS, lq, h']
theorem u8_small {n : Nat} (h : n < 256) : IntKind.u8.wrap (n : Int) = n := by simp [IntKind.wrap, IntKind.bits, IntKind.signed]; omega
theorem u64_small {n : Nat} (h : n < 4294967296) : IntKind.u64.wrap (n : Int) = n := by simp [IntKind.wrap, IntKind.bits, IntKind.signed]; omega
theorem i64_small {n : Nat} (h : n < 4294967296) : IntKind.i64.wrap (n : Int) = n := by simp [IntKind.wrap, IntKind.bits, IntKind.signed]; omega
theorem shr_small (k : IntKind) (n j : Nat) (hj : j ≤ k.bits) : shV .shr (.int k n) (.int .u64 j) = some (.int k ((n / 2 ^ j : Nat) : Int)) := by
  have h : ¬ ((j : Int) < 0) := by omega
  simp only [shV, h, if_false, Int.toNat_natCast]
  rw [Nat.min_eq_left hj, Int.fdiv_eq_ediv_of_nonneg _ (by exact_mod_cast Nat.zero_le _)]
  norm_cast
theorem len_run {u : Nat} (hu : u < 10000000) : ∃ L : Nat, L ≤ 24 ∧ ∀ w, Run (F.bits_Len64 (.int .u64 u)) w fun r w' => r = .int .i64 L ∧ w' = w := by
  have h32 : ¬ (u : Int) ≥ 4294967296 := by omega
  have wz : IntKind.i64.wrap 0 = 0 := by decide
  have s16 := shr_small .u64 u 16 (by decide)
  have s8 := shr_small .u64 u 8 (by decide)
  by_cases h1 : u < 256
  · have a1 : ¬ (u : Int) ≥ 65536 := by omega
    have a2 : ¬ (u : Int) ≥ 256 := by omega
    refine ⟨lq u, by have := lq_le u; omega, fun w => ?_⟩
    unfold F.bits_Len64
    rw [← LT_def]
    have := lq_le u
    simp [h32, a1, a2, u8_small h1, idx_LT h1, i64_small (n := lq u) (by omega)]
  by_cases h2 : u < 65536
  · have a1 : ¬ (u : Int) ≥ 65536 := by omega
    have a2 : (u : Int) ≥ 256 := by omega
    have a3 : u / 256 < 256 := by omega
    refine ⟨8 + lq (u / 256), by have := lq_le (u / 256); omega, fun w => ?_⟩
    unfold F.bits_Len64
    rw [← LT_def]
    have := lq_le (u / 256)
    have e8 : shV .shr (.int .u64 u) (.int .u64 8) = some (.int .u64 ((u / 256 : Nat) : Int)) := s8
    generalize u / 256 = q at *
    have e : IntKind.i64.wrap (8 + (lq q : Int)) = 8 + (lq q : Int) := i64_small (n := 8 + lq q) (by omega)
    have e0 : IntKind.i64.wrap 8 = 8 := by decide
    simp [h32, a1, a2, e8, u8_small a3, idx_LT a3, i64_small (n := lq q) (by omega), e, e0]
  · have a1 : (u : Int) ≥ 65536 := by omega
    have a2 : ¬ ((u / 65536 : Nat) : Int) ≥ 256 := by omega
    have a3 : u / 65536 < 256 := by omega
    refine ⟨16 + lq (u / 65536), by have := lq_le (u / 65536); omega, fun w => ?_⟩
    unfold F.bits_Len64
    rw [← LT_def]
    have := lq_le (u / 65536)
    have e16 : shV .shr (.int .u64 u) (.int .u64 16) = some (.int .u64 ((u / 65536 : Nat) : Int)) := s16
    generalize u / 65536 = q at *
    have e : IntKind.i64.wrap (16 + (lq q : Int)) = 16 + (lq q : Int) := i64_small (n := 16 + lq q) (by omega)
    have e0 : IntKind.i64.wrap 16 = 16 := by decide
    simp [h32, a1, a2, e16, u8_small a3, idx_LT a3, i64_small (n := lq q) (by omega), e, e0]

def pows : List Nat := [1, 10, 100, 1000, 10000, 100000, 1000000, 10000000, 100000000, 1000000000, 10000000000, 100000000000, 1000000000000, 10000000000000, 100000000000000, 1000000000000000, 10000000000000000, 100000000000000000, 1000000000000000000, 10000000000000000000]
def powV : List Value := pows.map fun n : Nat => Value.int .u64 (n : Int)
theorem digits_run {u : Nat} (hu : u < 10000000) (h1 : 1 ≤ u) : ∃ nd : Nat, (1 ≤ nd ∧ nd ≤ 7) ∧ ∀ w, bk w 1 = some powV → Run (F.strconv_numDigits (.int .u64 u)) w fun r w' => r = .int .i64 nd ∧ w' = w := by
  obtain ⟨L, hL, hrun⟩ := len_run hu
  have ht : L * 78913 / 262144 ≤ 7 := by omega
  obtain ⟨p, hp, hp0, hp7⟩ : ∃ p : Nat, powV[L * 78913 / 262144]? = some (.int .u64 p) ∧ (L * 78913 / 262144 = 0 → p = 1) ∧ (L * 78913 / 262144 = 7 → p = 10000000) := by
    have : ∀ t ≤ 7, ∃ p : Nat, powV[t]? = some (.int .u64 p) ∧ (t = 0 → p = 1) ∧ (t = 7 → p = 10000000) := by
      intro t ht
      have : t = 0 ∨ t = 1 ∨ t = 2 ∨ t = 3 ∨ t = 4 ∨ t = 5 ∨ t = 6 ∨ t = 7 := by omega
      rcases this with rfl | rfl | rfl | rfl | rfl | rfl | rfl | rfl <;> exact ⟨_, rfl, by omega, by omega⟩
    exact this _ ht
  generalize hT : L * 78913 / 262144 = t at *
  have hsh : shV .shr (.int .i64 ((L : Int) * 78913)) (.int .u64 18) = some (.int .i64 (t : Int)) := by
    rw [← hT]; exact shr_small .i64 (L * 78913) 18 (by decide)
  have hm : IntKind.i64.wrap ((L : Int) * 78913) = (L : Int) * 78913 := i64_small (n := L * 78913) (by omega)
  have ht20 : (t : Int) < 20 := by omega
  refine ⟨t + (if p ≤ u then 1 else 0), ⟨?_, ?_⟩, fun w hw => ?_⟩
  · split
    · omega
    · by_cases h0 : t = 0
      · have := hp0 h0; omega
      · omega
  · split
    · by_cases h7 : t = 7
      · have := hp7 h7; omega
      · omega
    · omega
  · unfold F.strconv_numDigits
    simp
    refine (hrun w).mono ?_
    rintro _ _ ⟨rfl, rfl⟩
    unfold F.strconv_log10Pow2
    simp [hm, hsh, ht20, hw, hp]
    unfold F.strconv_bool2_inst
    by_cases hpu : p ≤ u
    · have e : IntKind.i64.wrap ((t : Int) + 1) = t + 1 := i64_small (n := t + 1) (by omega)
      simp [hpu, e]
    · have e : IntKind.i64.wrap (t : Int) = t := i64_small (n := t) (by omega)
      simp [hpu, e]
theorem dgs_len {nd u : Nat} (h1 : 1 ≤ nd) (h7 : nd ≤ 7) : (dgs nd u).length = nd := by
  have hcase : nd = 1 ∨ nd = 2 ∨ nd = 3 ∨ nd = 4 ∨ nd = 5 ∨ nd = 6 ∨ nd = 7 := by omega
  rcases hcase with rfl | rfl | rfl | rfl | rfl | rfl | rfl <;> rfl

theorem itoa_run {u : Nat} (hu : u < 10000000) (h1 : 1 ≤ u) : ∃ s : ByteArray, s.size ≤ 8 ∧ ∀ w, bk w 1 = some powV → Run (F.strconv_Itoa (.int .i64 (-(u : Int)))) w fun r w' => r = .string s ∧ Fr (fun _ => False) w w' := by
  obtain ⟨nd, ⟨hn1, hn7⟩, hrun⟩ := digits_run hu h1
  refine ⟨⟨(45 :: dgs nd u).toArray⟩, ?_, fun w hw => ?_⟩
  · show (45 :: dgs nd u).toArray.size ≤ 8
    simp [dgs_len hn1 hn7]; omega
  unfold F.strconv_Itoa
  simp only [Run_bind]
  unfold F.strconv_Itoa_61
  simp only [Run_bind]
  unfold F.strconv_FormatInt
  have n0 : ¬ (0 : Int) ≤ -(u : Int) := by omega
  have n1 : -(u : Int) < 0 := by omega
  have hu0 : ¬ u = 0 := by omega
  simp [n0, n1, hu0]
  refine Run_new fun b w1 hb hbw f1 hle => ?_
  have hneg : IntKind.u64.wrap (0 - IntKind.u64.wrap (-(u : Int))) = u := by simp [IntKind.wrap, IntKind.bits, IntKind.signed]; omega
  have hneg' : IntKind.u64.wrap (-IntKind.u64.wrap (-(u : Int))) = u := by simpa using hneg
  have hu1 : 0 < u := h1
  simp [hneg', hu1]
  refine (hrun w1 (f1.bk_some hw id)).mono ?_
  rintro _ _ ⟨rfl, rfl⟩
  have e1 : IntKind.i64.wrap (1 + (nd : Int)) = ((1 + nd : Nat) : Int) := i64_small (n := 1 + nd) (by omega)
  have b1 : boundV (.int .i64 ((1 + nd : Nat) : Int)) 24 = some (1 + nd) := by
    unfold boundV
    simp only
    rw [if_pos (by omega)]
    congr 1
  have b2 : boundV (.int .i64 1) (1 + nd) = some 1 := by
    unfold boundV
    simp only
    rw [if_pos (by omega)]
    rfl
  have s1 : sliceR 24 1 (.pointer (some ⟨b, 0, none⟩)) (some (.int .i64 1)) (some (.int .i64 ((1 + nd : Nat) : Int))) = some (.slice (some ⟨b, 1, none⟩) nd 23) := by
    simp only [sliceR, highV, lowV, b1, b2]
    rw [if_neg (by decide)]
    simp [Addr.add_lit]
  have s2 : sliceR 24 1 (.pointer (some ⟨b, 0, none⟩)) none (some (.int .i64 ((1 + nd : Nat) : Int))) = some (.slice (some ⟨b, 0, none⟩) (1 + nd) 24) := by
    simp only [sliceR, highV, lowV, b1]
    rw [if_neg (by decide)]
    simp [Addr.add_lit]
  simp only [e1, s1, binV_int, intBin_add, Run_bindO_some, Run_bind]
  refine (format_run (nd := nd) (u := u) (by rw [hb]; rfl) hbw hn1 hn7 hu).mono ?_
  rintro _ w2 ⟨hb2, hbw2, f2⟩
  have hl := dgs_len (u := u) hn1 hn7
  have hlen : 0 < ((0 :: (dgs nd u ++ List.replicate (23 - nd) 0)).map by8).length := by simp
  have hb2' : bk w2 b = some (by8 0 :: (dgs nd u ++ List.replicate (23 - nd) 0).map by8) := hb2
  simp only [n1, decide_true, intBin_lss, Run_condM_true, idxR_ptr]
  have s2' := s2
  rw [show ((1 + nd : Nat) : Int) = 1 + (nd : Int) by omega] at s2'
  simp [hb2', hbw2]
  have hb3 : bk (sto w2 b 0 [.int .u8 45]) b = some ((45 :: (dgs nd u ++ List.replicate (23 - nd) 0)).map by8) := by
    rw [bk_sto_eq, hb2']
    rfl
  have f3 : Fr (fun _ => False) w (sto w2 b 0 [.int .u8 45]) := f1.new (f2.sto (.inl rfl) _ _) fun c hc => by rw [hc]; exact hle
  have hld : ldN (sto w2 b 0 [.int .u8 45]) ⟨b, 0, none⟩ (1 + nd) = some ((45 :: dgs nd u).map by8) := by
    rw [ldN_bk hb3 (by simp [hl]; omega)]
    rw [List.drop_zero, ← List.map_take]
    congr 2
    rw [show 1 + nd = nd + 1 by omega, List.take_succ_cons]
    congr 1
    exact List.take_left' hl
  rw [Run_bindO s2']
  have hbr : bsR (.slice (some ⟨b, 0, none⟩) (1 + nd) 24) (sto w2 b 0 [.int .u8 45]) = some (.string ⟨(45 :: dgs nd u).toArray⟩) := by
    simp only [bsR, hld, bytesV_by8]
  generalize (ByteArray.mk (45 :: dgs nd u).toArray) = z at *
  simp [hbr]
  exact f3

def hash : ByteArray := ByteArray.mk #[35]
theorem own_ex {m : Int} (h : m < 0 ∧ -10000000 < m) : ∃ s : ByteArray, ∀ w, bk w 1 = some powV → Run (F.granarylaw21_own (.int .i64 m)) w fun r w' => r = .agg #[.string s, .string hash] ∧ Fr (fun _ => False) w w' := by
  obtain ⟨u, rfl⟩ : ∃ u : Nat, m = -(u : Int) := ⟨m.natAbs, by omega⟩
  obtain ⟨s, hs, hrun⟩ := itoa_run (u := u) (by omega) (by omega)
  refine ⟨hash ++ s, fun w hw => ?_⟩
  unfold F.granarylaw21_own
  simp only [Run_bind]
  refine Run_new fun b w1 hb hbw f1 hle => ?_
  refine (hrun w1 (f1.bk_some hw id)).mono ?_
  rintro _ w2 ⟨rfl, f2⟩
  have hb2 := f2.bk_some hb id
  have hbw2 : wr w2 b = true := by rw [f2.wr (bk_lt hb) id]; exact hbw
  have hadd : strBin .add (ByteArray.mk #[35]) s = some (.string (hash ++ s)) := by
    have h0 : (ByteArray.mk #[35]).size = 1 := rfl
    simp only [strBin]
    rw [if_neg (by
      have : IntKind.i64.max = 9223372036854775807 := by decide
      rw [this, h0]
      omega)]
    rfl
  have hbv : buildV #[.string ByteArray.empty, .string ByteArray.empty] [(0, 1, .string (hash ++ s)), (1, 1, .string (ByteArray.mk #[35]))] = some (.agg #[.string (hash ++ s), .string hash]) := by
    simp [buildV, fillV]
    rfl
  generalize hash ++ s = t at *
  simp only [binV_str, hadd, Run_bindO_some, hbv]
  simp [hb2, hbw2]
  exact (f1.trans f2 fun _ _ => id).sto (.inr hle) _ _
open Classical in
noncomputable def ownS (m : Int) : ByteArray := if h : m < 0 ∧ -10000000 < m then Classical.choose (own_ex h) else ByteArray.empty
theorem own_run {m : Int} (h : m < 0 ∧ -10000000 < m) {w : World} (hw : bk w 1 = some powV) : Run (F.granarylaw21_own (.int .i64 m)) w fun r w' => r = .agg #[.string (ownS m), .string hash] ∧ Fr (fun _ => False) w w' := by
  unfold ownS
  rw [dif_pos h]
  exact Classical.choose_spec (own_ex h) w hw

end Go.Proofs.YtiggkhmopnhfaaaDoor

/-
  The exact laws of layer 21, own lists, part A: lists written full with a mark; looked at again.
-/
namespace Go.Proofs.YtiggkhmopnhfaaaDoor
open Go.Lift
set_option linter.unusedSimpArgs false
set_option maxHeartbeats 2000000

def cM (m : Int) : List Value := [.int .i64 m, .int .i64 0, .int .i64 0, .int .i64 0, .int .i64 0, .int .i64 0, .int .i64 0, .int .i64 0, .int .i64 0, .string ByteArray.empty, .string ByteArray.empty]
noncomputable def cP (m : Int) : List Value := [.string (ownS m), .string hash]
def cI (m : Int) : List Value := [.int .i64 m]
/-- e is, in w, what a caller keeps of three lists that it wrote full; all of it lies in G. -/
structure HeldAt (w : World) (e : List Value) (m : Int) (G : Nat → Prop) : Prop where
  ex : ∃ (M N P Q I J : Value) (lm ln lp lq li lj : Nat), e = [M, N, P, Q, I, J, .int .i64 m] ∧
    Sl 11 w M (List.replicate lm (cM m)) ∧ Sl 11 w N (List.replicate ln (cM m)) ∧ Sl 2 w P (List.replicate lp (cP m)) ∧ Sl 2 w Q (List.replicate lq (cP m)) ∧ Sl 1 w I (List.replicate li (cI m)) ∧ Sl 1 w J (List.replicate lj (cI m)) ∧
    (lm ≤ 2097152 ∧ ln ≤ 2097152 ∧ lp ≤ 2097152 ∧ lq ≤ 2097152 ∧ li ≤ 2097152 ∧ lj ≤ 2097152) ∧
    ∀ c, (inB M c ∨ inB N c ∨ inB P c ∨ inB Q c ∨ inB I c ∨ inB J c) → G c
theorem HeldAt.fr {w w' : World} {e : List Value} {m : Int} {G F' : Nat → Prop} (h : HeldAt w e m G) (f : Fr F' w w') (hd : ∀ c, G c → ¬ F' c) : HeldAt w' e m G := by
  obtain ⟨M, N, P, Q, I, J, lm, ln, lp, lq, li, lj, he, h1, h2, h3, h4, h5, h6, hl, hG⟩ := h
  refine ⟨M, N, P, Q, I, J, lm, ln, lp, lq, li, lj, he, h1.fr f fun c hc => hd c (hG c ?_), h2.fr f fun c hc => hd c (hG c ?_), h3.fr f fun c hc => hd c (hG c ?_), h4.fr f fun c hc => hd c (hG c ?_), h5.fr f fun c hc => hd c (hG c ?_), h6.fr f fun c hc => hd c (hG c ?_), hl, hG⟩ <;> simp [hc]
theorem HeldAt.len {w : World} {e : List Value} {m : Int} {G : Nat → Prop} (h : HeldAt w e m G) : e.length = 7 := by
  obtain ⟨M, N, P, Q, I, J, lm, ln, lp, lq, li, lj, rfl, _⟩ := h
  rfl
theorem HeldAt.cells {w : World} {e : List Value} {m : Int} {G : Nat → Prop} (h : HeldAt w e m G) : e.all isCell = true := by
  obtain ⟨M, N, P, Q, I, J, lm, ln, lp, lq, li, lj, rfl, h1, h2, h3, h4, h5, h6, _⟩ := h
  simp [h1.isCell, h2.isCell, h3.isCell, h4.isCell, h5.isCell, h6.isCell]
theorem HeldAt.mono {w : World} {e : List Value} {m : Int} {G G' : Nat → Prop} (h : HeldAt w e m G) (hG : ∀ c, G c → G' c) : HeldAt w e m G' := by
  obtain ⟨M, N, P, Q, I, J, lm, ln, lp, lq, li, lj, he, h1, h2, h3, h4, h5, h6, hl, hG'⟩ := h
  exact ⟨M, N, P, Q, I, J, lm, ln, lp, lq, li, lj, he, h1, h2, h3, h4, h5, h6, hl, fun c hc => hG c (hG' c hc)⟩
theorem rep_get {α : Type} {n i : Nat} (h : i < n) (c : α) : (List.replicate n c)[i]? = some c := by simp [h]

theorem still_run {w : World} {e : List Value} {m : Int} {G : Nat → Prop} (h : HeldAt w e m G) (hm : m < 0 ∧ -10000000 < m) (hpow : bk w 1 = some powV) :
    Run (F.granarylaw21_Held_still (.agg e.toArray)) w fun r w' => r = .bool true ∧ Fr (fun _ => False) w w' := by
  obtain ⟨M, N, P, Q, I, J, lm, ln, lp, lq, li, lj, rfl, h1, h2, h3, h4, h5, h6, ⟨b1, b2, b3, b4, b5, b6⟩, _⟩ := h
  unfold F.granarylaw21_Held_still
  simp only [Run_bind]
  refine Run_new fun d w0 hd _ f0 _ => ?_
  have hd0 : bk w0 d = some [M, N, P, Q, I, J, .int .i64 m] := hd
  have hpw : ∀ w1, Fr (fun _ => False) w0 w1 → bk w1 1 = some powV := fun w1 f1 => f1.bk_some (f0.bk_some hpow id) id
  have hdr : ∀ w1, Fr (fun _ => False) w0 w1 → bk w1 d = some [M, N, P, Q, I, J, .int .i64 m] := fun w1 f1 => f1.bk_some hd0 id
  replace h1 := h1.fr0 f0
  replace h2 := h2.fr0 f0
  replace h3 := h3.fr0 f0
  replace h4 := h4.fr0 f0
  replace h5 := h5.fr0 f0
  replace h6 := h6.fr0 f0
  clear hd hd0 hpow
  simp only [fieldA_ptr, Run_bindO_some]
  refine Run_for lm (fun i l w' => l = [.bool true, .int .i64 i] ∧ Fr (fun _ => False) w0 w') ⟨rfl, Fr.refl _ _⟩ ?_ ?_
  · rintro i l w1 hi ⟨rfl, f1⟩
    have hd1 := hdr w1 f1
    have hs := h1.fr0 f1
    have hl := hs.lenL
    rw [List.length_replicate] at hl
    have wi := wrap_succ (n := i) (by omega)
    have hi' : (i : Int) < lm := by omega
    obtain ⟨p, p1, p2⟩ := hs.rdA (by decide) (rep_get hi (cM m)) .i64
    simp [-ldA_ptr, hd1, hl, hi, hi', p1, p2, wi, buildV, fillV, cM]
    exact f1.drew
  rintro l wc ⟨rfl, fc⟩
  have hd1 := hdr wc fc
  have hs := h1.fr0 fc
  have hl := hs.lenL
  rw [List.length_replicate] at hl
  simp [-ldA_ptr, hd1, hl]
  refine Run_for ln (fun i l w' => l = [.bool true, .int .i64 i] ∧ Fr (fun _ => False) w0 w') ⟨rfl, fc⟩ ?_ ?_
  · rintro i l w1 hi ⟨rfl, f1⟩
    have hd1 := hdr w1 f1
    have hs := h2.fr0 f1
    have hl := hs.lenL
    rw [List.length_replicate] at hl
    have wi := wrap_succ (n := i) (by omega)
    have hi' : (i : Int) < ln := by omega
    obtain ⟨p, p1, p2⟩ := hs.rdA (by decide) (rep_get hi (cM m)) .i64
    simp [-ldA_ptr, hd1, hl, hi, hi', p1, p2, wi, buildV, fillV, cM]
    exact f1.drew
  rintro l wc ⟨rfl, fc⟩
  have hd1 := hdr wc fc
  have hs := h2.fr0 fc
  have hl := hs.lenL
  rw [List.length_replicate] at hl
  simp [-ldA_ptr, hd1, hl]
  refine Run_for lp (fun i l w' => l = [.bool true, .int .i64 i] ∧ Fr (fun _ => False) w0 w') ⟨rfl, fc⟩ ?_ ?_
  · rintro i l w1 hi ⟨rfl, f1⟩
    have hd1 := hdr w1 f1
    have hs := h3.fr0 f1
    have hl := hs.lenL
    rw [List.length_replicate] at hl
    have wi := wrap_succ (n := i) (by omega)
    have hi' : (i : Int) < lp := by omega
    obtain ⟨p, p1, p2⟩ := hs.rdA (by decide) (rep_get hi (cP m)) .i64
    simp [-ldA_ptr, hd1, hl, hi, hi', p1, p2, wi]
    refine (own_run (w := w1.drew) hm (hpw w1 f1)).mono ?_
    rintro _ w2 ⟨rfl, f2⟩
    simp [cP, wi]
    have f12 : Fr (fun _ => False) w0 w2 := f1.drew.trans f2 fun _ _ => id
    have hd2 := hdr w2 f12
    obtain ⟨p', q1, q2⟩ := (hs.fr0 (w' := w2) ((Fr.refl (fun _ => False) w1).drew.trans f2 fun _ _ => id)).rdA (by decide) (rep_get hi (cP m)) .i64
    rw [p1] at q1
    cases q1
    exact ⟨by rw [hd2]; rfl, q2, f12⟩
  rintro l wc ⟨rfl, fc⟩
  have hd1 := hdr wc fc
  have hs := h3.fr0 fc
  have hl := hs.lenL
  rw [List.length_replicate] at hl
  simp [-ldA_ptr, hd1, hl]
  refine Run_for lq (fun i l w' => l = [.bool true, .int .i64 i] ∧ Fr (fun _ => False) w0 w') ⟨rfl, fc⟩ ?_ ?_
  · rintro i l w1 hi ⟨rfl, f1⟩
    have hd1 := hdr w1 f1
    have hs := h4.fr0 f1
    have hl := hs.lenL
    rw [List.length_replicate] at hl
    have wi := wrap_succ (n := i) (by omega)
    have hi' : (i : Int) < lq := by omega
    obtain ⟨p, p1, p2⟩ := hs.rdA (by decide) (rep_get hi (cP m)) .i64
    simp [-ldA_ptr, hd1, hl, hi, hi', p1, p2, wi]
    refine (own_run (w := w1.drew) hm (hpw w1 f1)).mono ?_
    rintro _ w2 ⟨rfl, f2⟩
    simp [cP, wi]
    have f12 : Fr (fun _ => False) w0 w2 := f1.drew.trans f2 fun _ _ => id
    have hd2 := hdr w2 f12
    obtain ⟨p', q1, q2⟩ := (hs.fr0 (w' := w2) ((Fr.refl (fun _ => False) w1).drew.trans f2 fun _ _ => id)).rdA (by decide) (rep_get hi (cP m)) .i64
    rw [p1] at q1
    cases q1
    exact ⟨by rw [hd2]; rfl, q2, f12⟩
  rintro l wc ⟨rfl, fc⟩
  have hd1 := hdr wc fc
  have hs := h4.fr0 fc
  have hl := hs.lenL
  rw [List.length_replicate] at hl
  simp [-ldA_ptr, hd1, hl]
  refine Run_for li (fun i l w' => l = [.bool true, .int .i64 i] ∧ Fr (fun _ => False) w0 w') ⟨rfl, fc⟩ ?_ ?_
  · rintro i l w1 hi ⟨rfl, f1⟩
    have hd1 := hdr w1 f1
    have hs := h5.fr0 f1
    have hl := hs.lenL
    rw [List.length_replicate] at hl
    have wi := wrap_succ (n := i) (by omega)
    have hi' : (i : Int) < li := by omega
    obtain ⟨p, p1, p2⟩ := hs.rd1 (rep_get hi (cI m)) .i64
    simp [-ldA_ptr, hd1, hl, hi, hi', p1, p2, wi]
    exact f1.drew
  rintro l wc ⟨rfl, fc⟩
  have hd1 := hdr wc fc
  have hs := h5.fr0 fc
  have hl := hs.lenL
  rw [List.length_replicate] at hl
  simp [-ldA_ptr, hd1, hl]
  refine Run_for lj (fun i l w' => l = [.bool true, .int .i64 i] ∧ Fr (fun _ => False) w0 w') ⟨rfl, fc⟩ ?_ ?_
  · rintro i l w1 hi ⟨rfl, f1⟩
    have hd1 := hdr w1 f1
    have hs := h6.fr0 f1
    have hl := hs.lenL
    rw [List.length_replicate] at hl
    have wi := wrap_succ (n := i) (by omega)
    have hi' : (i : Int) < lj := by omega
    obtain ⟨p, p1, p2⟩ := hs.rd1 (rep_get hi (cI m)) .i64
    simp [-ldA_ptr, hd1, hl, hi, hi', p1, p2, wi]
    exact f1.drew
  rintro l wc ⟨rfl, fc⟩
  have hd1 := hdr wc fc
  have hs := h6.fr0 fc
  have hl := hs.lenL
  rw [List.length_replicate] at hl
  simp [hd1, hl]
  exact f0.trans fc fun _ _ => id

end Go.Proofs.YtiggkhmopnhfaaaDoor

/-
  The exact laws of layer 21, own lists, part B: three lists are written full with a mark, and behind their ends.
-/
namespace Go.Proofs.YtiggkhmopnhfaaaDoor
open Go.Lift
set_option linter.unusedSimpArgs false
set_option maxHeartbeats 2000000
set_option maxRecDepth 100000

def ZM : Array Value := #[(Value.int IntKind.i64 0), (Value.int IntKind.i64 0), (Value.int IntKind.i64 0), (Value.int IntKind.i64 0), (Value.int IntKind.i64 0), (Value.int IntKind.i64 0), (Value.int IntKind.i64 0), (Value.int IntKind.i64 0), (Value.int IntKind.i64 0), (Value.string ByteArray.empty), (Value.string ByteArray.empty), (Value.int IntKind.i64 0), (Value.int IntKind.i64 0), (Value.int IntKind.i64 0), (Value.int IntKind.i64 0), (Value.int IntKind.i64 0), (Value.int IntKind.i64 0), (Value.int IntKind.i64 0), (Value.int IntKind.i64 0), (Value.int IntKind.i64 0), (Value.string ByteArray.empty), (Value.string ByteArray.empty), (Value.int IntKind.i64 0), (Value.int IntKind.i64 0), (Value.int IntKind.i64 0), (Value.int IntKind.i64 0), (Value.int IntKind.i64 0), (Value.int IntKind.i64 0), (Value.int IntKind.i64 0), (Value.int IntKind.i64 0), (Value.int IntKind.i64 0), (Value.string ByteArray.empty), (Value.string ByteArray.empty), (Value.int IntKind.i64 0), (Value.int IntKind.i64 0), (Value.int IntKind.i64 0), (Value.int IntKind.i64 0), (Value.int IntKind.i64 0), (Value.int IntKind.i64 0), (Value.int IntKind.i64 0), (Value.int IntKind.i64 0), (Value.int IntKind.i64 0), (Value.string ByteArray.empty), (Value.string ByteArray.empty), (Value.int IntKind.i64 0), (Value.int IntKind.i64 0), (Value.int IntKind.i64 0), (Value.int IntKind.i64 0), (Value.int IntKind.i64 0), (Value.int IntKind.i64 0), (Value.int IntKind.i64 0), (Value.int IntKind.i64 0), (Value.int IntKind.i64 0), (Value.string ByteArray.empty), (Value.string ByteArray.empty), (Value.int IntKind.i64 0), (Value.int IntKind.i64 0), (Value.int IntKind.i64 0), (Value.int IntKind.i64 0), (Value.int IntKind.i64 0), (Value.int IntKind.i64 0), (Value.int IntKind.i64 0), (Value.int IntKind.i64 0), (Value.int IntKind.i64 0), (Value.string ByteArray.empty), (Value.string ByteArray.empty), (Value.int IntKind.i64 0), (Value.int IntKind.i64 0), (Value.int IntKind.i64 0), (Value.int IntKind.i64 0), (Value.int IntKind.i64 0), (Value.int IntKind.i64 0), (Value.int IntKind.i64 0), (Value.int IntKind.i64 0), (Value.int IntKind.i64 0), (Value.string ByteArray.empty), (Value.string ByteArray.empty), (Value.int IntKind.i64 0), (Value.int IntKind.i64 0), (Value.int IntKind.i64 0), (Value.int IntKind.i64 0), (Value.int IntKind.i64 0), (Value.int IntKind.i64 0), (Value.int IntKind.i64 0), (Value.int IntKind.i64 0), (Value.int IntKind.i64 0), (Value.string ByteArray.empty), (Value.string ByteArray.empty), (Value.int IntKind.i64 0), (Value.int IntKind.i64 0), (Value.int IntKind.i64 0), (Value.int IntKind.i64 0), (Value.int IntKind.i64 0), (Value.int IntKind.i64 0), (Value.int IntKind.i64 0), (Value.int IntKind.i64 0), (Value.int IntKind.i64 0), (Value.string ByteArray.empty), (Value.string ByteArray.empty), (Value.int IntKind.i64 0), (Value.int IntKind.i64 0), (Value.int IntKind.i64 0), (Value.int IntKind.i64 0), (Value.int IntKind.i64 0), (Value.int IntKind.i64 0), (Value.int IntKind.i64 0), (Value.int IntKind.i64 0), (Value.int IntKind.i64 0), (Value.string ByteArray.empty), (Value.string ByteArray.empty), (Value.int IntKind.i64 0), (Value.int IntKind.i64 0), (Value.int IntKind.i64 0), (Value.int IntKind.i64 0), (Value.int IntKind.i64 0), (Value.int IntKind.i64 0), (Value.int IntKind.i64 0), (Value.int IntKind.i64 0), (Value.int IntKind.i64 0), (Value.string ByteArray.empty), (Value.string ByteArray.empty), (Value.int IntKind.i64 0), (Value.int IntKind.i64 0), (Value.int IntKind.i64 0), (Value.int IntKind.i64 0), (Value.int IntKind.i64 0), (Value.int IntKind.i64 0), (Value.int IntKind.i64 0), (Value.int IntKind.i64 0), (Value.int IntKind.i64 0), (Value.string ByteArray.empty), (Value.string ByteArray.empty), (Value.int IntKind.i64 0), (Value.int IntKind.i64 0), (Value.int IntKind.i64 0), (Value.int IntKind.i64 0), (Value.int IntKind.i64 0), (Value.int IntKind.i64 0), (Value.int IntKind.i64 0), (Value.int IntKind.i64 0), (Value.int IntKind.i64 0), (Value.string ByteArray.empty), (Value.string ByteArray.empty), (Value.int IntKind.i64 0), (Value.int IntKind.i64 0), (Value.int IntKind.i64 0), (Value.int IntKind.i64 0), (Value.int IntKind.i64 0), (Value.int IntKind.i64 0), (Value.int IntKind.i64 0), (Value.int IntKind.i64 0), (Value.int IntKind.i64 0), (Value.string ByteArray.empty), (Value.string ByteArray.empty), (Value.int IntKind.i64 0), (Value.int IntKind.i64 0), (Value.int IntKind.i64 0), (Value.int IntKind.i64 0), (Value.int IntKind.i64 0), (Value.int IntKind.i64 0), (Value.int IntKind.i64 0), (Value.int IntKind.i64 0), (Value.int IntKind.i64 0), (Value.string ByteArray.empty), (Value.string ByteArray.empty), (Value.int IntKind.i64 0), (Value.int IntKind.i64 0), (Value.int IntKind.i64 0), (Value.int IntKind.i64 0), (Value.int IntKind.i64 0), (Value.int IntKind.i64 0), (Value.int IntKind.i64 0), (Value.int IntKind.i64 0), (Value.int IntKind.i64 0), (Value.string ByteArray.empty), (Value.string ByteArray.empty), (Value.int IntKind.i64 0), (Value.int IntKind.i64 0), (Value.int IntKind.i64 0), (Value.int IntKind.i64 0), (Value.int IntKind.i64 0), (Value.int IntKind.i64 0), (Value.int IntKind.i64 0), (Value.int IntKind.i64 0), (Value.int IntKind.i64 0), (Value.string ByteArray.empty), (Value.string ByteArray.empty), (Value.int IntKind.i64 0), (Value.int IntKind.i64 0), (Value.int IntKind.i64 0), (Value.int IntKind.i64 0), (Value.int IntKind.i64 0), (Value.int IntKind.i64 0), (Value.int IntKind.i64 0), (Value.int IntKind.i64 0), (Value.int IntKind.i64 0), (Value.string ByteArray.empty), (Value.string ByteArray.empty), (Value.int IntKind.i64 0), (Value.int IntKind.i64 0), (Value.int IntKind.i64 0), (Value.int IntKind.i64 0), (Value.int IntKind.i64 0), (Value.int IntKind.i64 0), (Value.int IntKind.i64 0), (Value.int IntKind.i64 0), (Value.int IntKind.i64 0), (Value.string ByteArray.empty), (Value.string ByteArray.empty), (Value.int IntKind.i64 0), (Value.int IntKind.i64 0), (Value.int IntKind.i64 0), (Value.int IntKind.i64 0), (Value.int IntKind.i64 0), (Value.int IntKind.i64 0), (Value.int IntKind.i64 0), (Value.int IntKind.i64 0), (Value.int IntKind.i64 0), (Value.string ByteArray.empty), (Value.string ByteArray.empty), (Value.int IntKind.i64 0), (Value.int IntKind.i64 0), (Value.int IntKind.i64 0), (Value.int IntKind.i64 0), (Value.int IntKind.i64 0), (Value.int IntKind.i64 0), (Value.int IntKind.i64 0), (Value.int IntKind.i64 0), (Value.int IntKind.i64 0), (Value.string ByteArray.empty), (Value.string ByteArray.empty), (Value.int IntKind.i64 0), (Value.int IntKind.i64 0), (Value.int IntKind.i64 0), (Value.int IntKind.i64 0), (Value.int IntKind.i64 0), (Value.int IntKind.i64 0), (Value.int IntKind.i64 0), (Value.int IntKind.i64 0), (Value.int IntKind.i64 0), (Value.string ByteArray.empty), (Value.string ByteArray.empty), (Value.int IntKind.i64 0), (Value.int IntKind.i64 0), (Value.int IntKind.i64 0), (Value.int IntKind.i64 0), (Value.int IntKind.i64 0), (Value.int IntKind.i64 0), (Value.int IntKind.i64 0), (Value.int IntKind.i64 0), (Value.int IntKind.i64 0), (Value.string ByteArray.empty), (Value.string ByteArray.empty), (Value.int IntKind.i64 0), (Value.int IntKind.i64 0), (Value.int IntKind.i64 0), (Value.int IntKind.i64 0), (Value.int IntKind.i64 0), (Value.int IntKind.i64 0), (Value.int IntKind.i64 0), (Value.int IntKind.i64 0), (Value.int IntKind.i64 0), (Value.string ByteArray.empty), (Value.string ByteArray.empty), (Value.int IntKind.i64 0), (Value.int IntKind.i64 0), (Value.int IntKind.i64 0), (Value.int IntKind.i64 0), (Value.int IntKind.i64 0), (Value.int IntKind.i64 0), (Value.int IntKind.i64 0), (Value.int IntKind.i64 0), (Value.int IntKind.i64 0), (Value.string ByteArray.empty), (Value.string ByteArray.empty), (Value.int IntKind.i64 0), (Value.int IntKind.i64 0), (Value.int IntKind.i64 0), (Value.int IntKind.i64 0), (Value.int IntKind.i64 0), (Value.int IntKind.i64 0), (Value.int IntKind.i64 0), (Value.int IntKind.i64 0), (Value.int IntKind.i64 0), (Value.string ByteArray.empty), (Value.string ByteArray.empty), (Value.int IntKind.i64 0), (Value.int IntKind.i64 0), (Value.int IntKind.i64 0), (Value.int IntKind.i64 0), (Value.int IntKind.i64 0), (Value.int IntKind.i64 0), (Value.int IntKind.i64 0), (Value.int IntKind.i64 0), (Value.int IntKind.i64 0), (Value.string ByteArray.empty), (Value.string ByteArray.empty), (Value.int IntKind.i64 0), (Value.int IntKind.i64 0), (Value.int IntKind.i64 0), (Value.int IntKind.i64 0), (Value.int IntKind.i64 0), (Value.int IntKind.i64 0), (Value.int IntKind.i64 0), (Value.int IntKind.i64 0), (Value.int IntKind.i64 0), (Value.string ByteArray.empty), (Value.string ByteArray.empty), (Value.int IntKind.i64 0), (Value.int IntKind.i64 0), (Value.int IntKind.i64 0), (Value.int IntKind.i64 0), (Value.int IntKind.i64 0), (Value.int IntKind.i64 0), (Value.int IntKind.i64 0), (Value.int IntKind.i64 0), (Value.int IntKind.i64 0), (Value.string ByteArray.empty), (Value.string ByteArray.empty), (Value.int IntKind.i64 0), (Value.int IntKind.i64 0), (Value.int IntKind.i64 0), (Value.int IntKind.i64 0), (Value.int IntKind.i64 0), (Value.int IntKind.i64 0), (Value.int IntKind.i64 0), (Value.int IntKind.i64 0), (Value.int IntKind.i64 0), (Value.string ByteArray.empty), (Value.string ByteArray.empty), (Value.int IntKind.i64 0), (Value.int IntKind.i64 0), (Value.int IntKind.i64 0), (Value.int IntKind.i64 0), (Value.int IntKind.i64 0), (Value.int IntKind.i64 0), (Value.int IntKind.i64 0), (Value.int IntKind.i64 0), (Value.int IntKind.i64 0), (Value.string ByteArray.empty), (Value.string ByteArray.empty), (Value.int IntKind.i64 0), (Value.int IntKind.i64 0), (Value.int IntKind.i64 0), (Value.int IntKind.i64 0), (Value.int IntKind.i64 0), (Value.int IntKind.i64 0), (Value.int IntKind.i64 0), (Value.int IntKind.i64 0), (Value.int IntKind.i64 0), (Value.string ByteArray.empty), (Value.string ByteArray.empty), (Value.int IntKind.i64 0), (Value.int IntKind.i64 0), (Value.int IntKind.i64 0), (Value.int IntKind.i64 0), (Value.int IntKind.i64 0), (Value.int IntKind.i64 0), (Value.int IntKind.i64 0), (Value.int IntKind.i64 0), (Value.int IntKind.i64 0), (Value.string ByteArray.empty), (Value.string ByteArray.empty), (Value.int IntKind.i64 0), (Value.int IntKind.i64 0), (Value.int IntKind.i64 0), (Value.int IntKind.i64 0), (Value.int IntKind.i64 0), (Value.int IntKind.i64 0), (Value.int IntKind.i64 0), (Value.int IntKind.i64 0), (Value.int IntKind.i64 0), (Value.string ByteArray.empty), (Value.string ByteArray.empty), (Value.int IntKind.i64 0), (Value.int IntKind.i64 0), (Value.int IntKind.i64 0), (Value.int IntKind.i64 0), (Value.int IntKind.i64 0), (Value.int IntKind.i64 0), (Value.int IntKind.i64 0), (Value.int IntKind.i64 0), (Value.int IntKind.i64 0), (Value.string ByteArray.empty), (Value.string ByteArray.empty), (Value.int IntKind.i64 0), (Value.int IntKind.i64 0), (Value.int IntKind.i64 0), (Value.int IntKind.i64 0), (Value.int IntKind.i64 0), (Value.int IntKind.i64 0), (Value.int IntKind.i64 0), (Value.int IntKind.i64 0), (Value.int IntKind.i64 0), (Value.string ByteArray.empty), (Value.string ByteArray.empty), (Value.int IntKind.i64 0), (Value.int IntKind.i64 0), (Value.int IntKind.i64 0), (Value.int IntKind.i64 0), (Value.int IntKind.i64 0), (Value.int IntKind.i64 0), (Value.int IntKind.i64 0), (Value.int IntKind.i64 0), (Value.int IntKind.i64 0), (Value.string ByteArray.empty), (Value.string ByteArray.empty), (Value.int IntKind.i64 0), (Value.int IntKind.i64 0), (Value.int IntKind.i64 0), (Value.int IntKind.i64 0), (Value.int IntKind.i64 0), (Value.int IntKind.i64 0), (Value.int IntKind.i64 0), (Value.int IntKind.i64 0), (Value.int IntKind.i64 0), (Value.string ByteArray.empty), (Value.string ByteArray.empty), (Value.int IntKind.i64 0), (Value.int IntKind.i64 0), (Value.int IntKind.i64 0), (Value.int IntKind.i64 0), (Value.int IntKind.i64 0), (Value.int IntKind.i64 0), (Value.int IntKind.i64 0), (Value.int IntKind.i64 0), (Value.int IntKind.i64 0), (Value.string ByteArray.empty), (Value.string ByteArray.empty), (Value.int IntKind.i64 0), (Value.int IntKind.i64 0), (Value.int IntKind.i64 0), (Value.int IntKind.i64 0), (Value.int IntKind.i64 0), (Value.int IntKind.i64 0), (Value.int IntKind.i64 0), (Value.int IntKind.i64 0), (Value.int IntKind.i64 0), (Value.string ByteArray.empty), (Value.string ByteArray.empty), (Value.int IntKind.i64 0), (Value.int IntKind.i64 0), (Value.int IntKind.i64 0), (Value.int IntKind.i64 0), (Value.int IntKind.i64 0), (Value.int IntKind.i64 0), (Value.int IntKind.i64 0), (Value.int IntKind.i64 0), (Value.int IntKind.i64 0), (Value.string ByteArray.empty), (Value.string ByteArray.empty), (Value.int IntKind.i64 0), (Value.int IntKind.i64 0), (Value.int IntKind.i64 0), (Value.int IntKind.i64 0), (Value.int IntKind.i64 0), (Value.int IntKind.i64 0), (Value.int IntKind.i64 0), (Value.int IntKind.i64 0), (Value.int IntKind.i64 0), (Value.string ByteArray.empty), (Value.string ByteArray.empty), (Value.int IntKind.i64 0), (Value.int IntKind.i64 0), (Value.int IntKind.i64 0), (Value.int IntKind.i64 0), (Value.int IntKind.i64 0), (Value.int IntKind.i64 0), (Value.int IntKind.i64 0), (Value.int IntKind.i64 0), (Value.int IntKind.i64 0), (Value.string ByteArray.empty), (Value.string ByteArray.empty), (Value.int IntKind.i64 0), (Value.int IntKind.i64 0), (Value.int IntKind.i64 0), (Value.int IntKind.i64 0), (Value.int IntKind.i64 0), (Value.int IntKind.i64 0), (Value.int IntKind.i64 0), (Value.int IntKind.i64 0), (Value.int IntKind.i64 0), (Value.string ByteArray.empty), (Value.string ByteArray.empty), (Value.int IntKind.i64 0), (Value.int IntKind.i64 0), (Value.int IntKind.i64 0), (Value.int IntKind.i64 0), (Value.int IntKind.i64 0), (Value.int IntKind.i64 0), (Value.int IntKind.i64 0), (Value.int IntKind.i64 0), (Value.int IntKind.i64 0), (Value.string ByteArray.empty), (Value.string ByteArray.empty), (Value.int IntKind.i64 0), (Value.int IntKind.i64 0), (Value.int IntKind.i64 0), (Value.int IntKind.i64 0), (Value.int IntKind.i64 0), (Value.int IntKind.i64 0), (Value.int IntKind.i64 0), (Value.int IntKind.i64 0), (Value.int IntKind.i64 0), (Value.string ByteArray.empty), (Value.string ByteArray.empty), (Value.int IntKind.i64 0), (Value.int IntKind.i64 0), (Value.int IntKind.i64 0), (Value.int IntKind.i64 0), (Value.int IntKind.i64 0), (Value.int IntKind.i64 0), (Value.int IntKind.i64 0), (Value.int IntKind.i64 0), (Value.int IntKind.i64 0), (Value.string ByteArray.empty), (Value.string ByteArray.empty), (Value.int IntKind.i64 0), (Value.int IntKind.i64 0), (Value.int IntKind.i64 0), (Value.int IntKind.i64 0), (Value.int IntKind.i64 0), (Value.int IntKind.i64 0), (Value.int IntKind.i64 0), (Value.int IntKind.i64 0), (Value.int IntKind.i64 0), (Value.string ByteArray.empty), (Value.string ByteArray.empty), (Value.int IntKind.i64 0), (Value.int IntKind.i64 0), (Value.int IntKind.i64 0), (Value.int IntKind.i64 0), (Value.int IntKind.i64 0), (Value.int IntKind.i64 0), (Value.int IntKind.i64 0), (Value.int IntKind.i64 0), (Value.int IntKind.i64 0), (Value.string ByteArray.empty), (Value.string ByteArray.empty), (Value.int IntKind.i64 0), (Value.int IntKind.i64 0), (Value.int IntKind.i64 0), (Value.int IntKind.i64 0), (Value.int IntKind.i64 0), (Value.int IntKind.i64 0), (Value.int IntKind.i64 0), (Value.int IntKind.i64 0), (Value.int IntKind.i64 0), (Value.string ByteArray.empty), (Value.string ByteArray.empty), (Value.int IntKind.i64 0), (Value.int IntKind.i64 0), (Value.int IntKind.i64 0), (Value.int IntKind.i64 0), (Value.int IntKind.i64 0), (Value.int IntKind.i64 0), (Value.int IntKind.i64 0), (Value.int IntKind.i64 0), (Value.int IntKind.i64 0), (Value.string ByteArray.empty), (Value.string ByteArray.empty), (Value.int IntKind.i64 0), (Value.int IntKind.i64 0), (Value.int IntKind.i64 0), (Value.int IntKind.i64 0), (Value.int IntKind.i64 0), (Value.int IntKind.i64 0), (Value.int IntKind.i64 0), (Value.int IntKind.i64 0), (Value.int IntKind.i64 0), (Value.string ByteArray.empty), (Value.string ByteArray.empty), (Value.int IntKind.i64 0), (Value.int IntKind.i64 0), (Value.int IntKind.i64 0), (Value.int IntKind.i64 0), (Value.int IntKind.i64 0), (Value.int IntKind.i64 0), (Value.int IntKind.i64 0), (Value.int IntKind.i64 0), (Value.int IntKind.i64 0), (Value.string ByteArray.empty), (Value.string ByteArray.empty), (Value.int IntKind.i64 0), (Value.int IntKind.i64 0), (Value.int IntKind.i64 0), (Value.int IntKind.i64 0), (Value.int IntKind.i64 0), (Value.int IntKind.i64 0), (Value.int IntKind.i64 0), (Value.int IntKind.i64 0), (Value.int IntKind.i64 0), (Value.string ByteArray.empty), (Value.string ByteArray.empty), (Value.int IntKind.i64 0), (Value.int IntKind.i64 0), (Value.int IntKind.i64 0), (Value.int IntKind.i64 0), (Value.int IntKind.i64 0), (Value.int IntKind.i64 0), (Value.int IntKind.i64 0), (Value.int IntKind.i64 0), (Value.int IntKind.i64 0), (Value.string ByteArray.empty), (Value.string ByteArray.empty), (Value.int IntKind.i64 0), (Value.int IntKind.i64 0), (Value.int IntKind.i64 0), (Value.int IntKind.i64 0), (Value.int IntKind.i64 0), (Value.int IntKind.i64 0), (Value.int IntKind.i64 0), (Value.int IntKind.i64 0), (Value.int IntKind.i64 0), (Value.string ByteArray.empty), (Value.string ByteArray.empty), (Value.int IntKind.i64 0), (Value.int IntKind.i64 0), (Value.int IntKind.i64 0), (Value.int IntKind.i64 0), (Value.int IntKind.i64 0), (Value.int IntKind.i64 0), (Value.int IntKind.i64 0), (Value.int IntKind.i64 0), (Value.int IntKind.i64 0), (Value.string ByteArray.empty), (Value.string ByteArray.empty), (Value.int IntKind.i64 0), (Value.int IntKind.i64 0), (Value.int IntKind.i64 0), (Value.int IntKind.i64 0), (Value.int IntKind.i64 0), (Value.int IntKind.i64 0), (Value.int IntKind.i64 0), (Value.int IntKind.i64 0), (Value.int IntKind.i64 0), (Value.string ByteArray.empty), (Value.string ByteArray.empty), (Value.int IntKind.i64 0), (Value.int IntKind.i64 0), (Value.int IntKind.i64 0), (Value.int IntKind.i64 0), (Value.int IntKind.i64 0), (Value.int IntKind.i64 0), (Value.int IntKind.i64 0), (Value.int IntKind.i64 0), (Value.int IntKind.i64 0), (Value.string ByteArray.empty), (Value.string ByteArray.empty), (Value.int IntKind.i64 0), (Value.int IntKind.i64 0), (Value.int IntKind.i64 0), (Value.int IntKind.i64 0), (Value.int IntKind.i64 0), (Value.int IntKind.i64 0), (Value.int IntKind.i64 0), (Value.int IntKind.i64 0), (Value.int IntKind.i64 0), (Value.string ByteArray.empty), (Value.string ByteArray.empty), (Value.int IntKind.i64 0), (Value.int IntKind.i64 0), (Value.int IntKind.i64 0), (Value.int IntKind.i64 0), (Value.int IntKind.i64 0), (Value.int IntKind.i64 0), (Value.int IntKind.i64 0), (Value.int IntKind.i64 0), (Value.int IntKind.i64 0), (Value.string ByteArray.empty), (Value.string ByteArray.empty), (Value.int IntKind.i64 0), (Value.int IntKind.i64 0), (Value.int IntKind.i64 0), (Value.int IntKind.i64 0), (Value.int IntKind.i64 0), (Value.int IntKind.i64 0), (Value.int IntKind.i64 0), (Value.int IntKind.i64 0), (Value.int IntKind.i64 0), (Value.string ByteArray.empty), (Value.string ByteArray.empty), (Value.int IntKind.i64 0), (Value.int IntKind.i64 0), (Value.int IntKind.i64 0), (Value.int IntKind.i64 0), (Value.int IntKind.i64 0), (Value.int IntKind.i64 0), (Value.int IntKind.i64 0), (Value.int IntKind.i64 0), (Value.int IntKind.i64 0), (Value.string ByteArray.empty), (Value.string ByteArray.empty), (Value.int IntKind.i64 0), (Value.int IntKind.i64 0), (Value.int IntKind.i64 0), (Value.int IntKind.i64 0), (Value.int IntKind.i64 0), (Value.int IntKind.i64 0), (Value.int IntKind.i64 0), (Value.int IntKind.i64 0), (Value.int IntKind.i64 0), (Value.string ByteArray.empty), (Value.string ByteArray.empty)]
theorem ZM_def : ZM = #[(Value.int IntKind.i64 0), (Value.int IntKind.i64 0), (Value.int IntKind.i64 0), (Value.int IntKind.i64 0), (Value.int IntKind.i64 0), (Value.int IntKind.i64 0), (Value.int IntKind.i64 0), (Value.int IntKind.i64 0), (Value.int IntKind.i64 0), (Value.string ByteArray.empty), (Value.string ByteArray.empty), (Value.int IntKind.i64 0), (Value.int IntKind.i64 0), (Value.int IntKind.i64 0), (Value.int IntKind.i64 0), (Value.int IntKind.i64 0), (Value.int IntKind.i64 0), (Value.int IntKind.i64 0), (Value.int IntKind.i64 0), (Value.int IntKind.i64 0), (Value.string ByteArray.empty), (Value.string ByteArray.empty), (Value.int IntKind.i64 0), (Value.int IntKind.i64 0), (Value.int IntKind.i64 0), (Value.int IntKind.i64 0), (Value.int IntKind.i64 0), (Value.int IntKind.i64 0), (Value.int IntKind.i64 0), (Value.int IntKind.i64 0), (Value.int IntKind.i64 0), (Value.string ByteArray.empty), (Value.string ByteArray.empty), (Value.int IntKind.i64 0), (Value.int IntKind.i64 0), (Value.int IntKind.i64 0), (Value.int IntKind.i64 0), (Value.int IntKind.i64 0), (Value.int IntKind.i64 0), (Value.int IntKind.i64 0), (Value.int IntKind.i64 0), (Value.int IntKind.i64 0), (Value.string ByteArray.empty), (Value.string ByteArray.empty), (Value.int IntKind.i64 0), (Value.int IntKind.i64 0), (Value.int IntKind.i64 0), (Value.int IntKind.i64 0), (Value.int IntKind.i64 0), (Value.int IntKind.i64 0), (Value.int IntKind.i64 0), (Value.int IntKind.i64 0), (Value.int IntKind.i64 0), (Value.string ByteArray.empty), (Value.string ByteArray.empty), (Value.int IntKind.i64 0), (Value.int IntKind.i64 0), (Value.int IntKind.i64 0), (Value.int IntKind.i64 0), (Value.int IntKind.i64 0), (Value.int IntKind.i64 0), (Value.int IntKind.i64 0), (Value.int IntKind.i64 0), (Value.int IntKind.i64 0), (Value.string ByteArray.empty), (Value.string ByteArray.empty), (Value.int IntKind.i64 0), (Value.int IntKind.i64 0), (Value.int IntKind.i64 0), (Value.int IntKind.i64 0), (Value.int IntKind.i64 0), (Value.int IntKind.i64 0), (Value.int IntKind.i64 0), (Value.int IntKind.i64 0), (Value.int IntKind.i64 0), (Value.string ByteArray.empty), (Value.string ByteArray.empty), (Value.int IntKind.i64 0), (Value.int IntKind.i64 0), (Value.int IntKind.i64 0), (Value.int IntKind.i64 0), (Value.int IntKind.i64 0), (Value.int IntKind.i64 0), (Value.int IntKind.i64 0), (Value.int IntKind.i64 0), (Value.int IntKind.i64 0), (Value.string ByteArray.empty), (Value.string ByteArray.empty), (Value.int IntKind.i64 0), (Value.int IntKind.i64 0), (Value.int IntKind.i64 0), (Value.int IntKind.i64 0), (Value.int IntKind.i64 0), (Value.int IntKind.i64 0), (Value.int IntKind.i64 0), (Value.int IntKind.i64 0), (Value.int IntKind.i64 0), (Value.string ByteArray.empty), (Value.string ByteArray.empty), (Value.int IntKind.i64 0), (Value.int IntKind.i64 0), (Value.int IntKind.i64 0), (Value.int IntKind.i64 0), (Value.int IntKind.i64 0), (Value.int IntKind.i64 0), (Value.int IntKind.i64 0), (Value.int IntKind.i64 0), (Value.int IntKind.i64 0), (Value.string ByteArray.empty), (Value.string ByteArray.empty), (Value.int IntKind.i64 0), (Value.int IntKind.i64 0), (Value.int IntKind.i64 0), (Value.int IntKind.i64 0), (Value.int IntKind.i64 0), (Value.int IntKind.i64 0), (Value.int IntKind.i64 0), (Value.int IntKind.i64 0), (Value.int IntKind.i64 0), (Value.string ByteArray.empty), (Value.string ByteArray.empty), (Value.int IntKind.i64 0), (Value.int IntKind.i64 0), (Value.int IntKind.i64 0), (Value.int IntKind.i64 0), (Value.int IntKind.i64 0), (Value.int IntKind.i64 0), (Value.int IntKind.i64 0), (Value.int IntKind.i64 0), (Value.int IntKind.i64 0), (Value.string ByteArray.empty), (Value.string ByteArray.empty), (Value.int IntKind.i64 0), (Value.int IntKind.i64 0), (Value.int IntKind.i64 0), (Value.int IntKind.i64 0), (Value.int IntKind.i64 0), (Value.int IntKind.i64 0), (Value.int IntKind.i64 0), (Value.int IntKind.i64 0), (Value.int IntKind.i64 0), (Value.string ByteArray.empty), (Value.string ByteArray.empty), (Value.int IntKind.i64 0), (Value.int IntKind.i64 0), (Value.int IntKind.i64 0), (Value.int IntKind.i64 0), (Value.int IntKind.i64 0), (Value.int IntKind.i64 0), (Value.int IntKind.i64 0), (Value.int IntKind.i64 0), (Value.int IntKind.i64 0), (Value.string ByteArray.empty), (Value.string ByteArray.empty), (Value.int IntKind.i64 0), (Value.int IntKind.i64 0), (Value.int IntKind.i64 0), (Value.int IntKind.i64 0), (Value.int IntKind.i64 0), (Value.int IntKind.i64 0), (Value.int IntKind.i64 0), (Value.int IntKind.i64 0), (Value.int IntKind.i64 0), (Value.string ByteArray.empty), (Value.string ByteArray.empty), (Value.int IntKind.i64 0), (Value.int IntKind.i64 0), (Value.int IntKind.i64 0), (Value.int IntKind.i64 0), (Value.int IntKind.i64 0), (Value.int IntKind.i64 0), (Value.int IntKind.i64 0), (Value.int IntKind.i64 0), (Value.int IntKind.i64 0), (Value.string ByteArray.empty), (Value.string ByteArray.empty), (Value.int IntKind.i64 0), (Value.int IntKind.i64 0), (Value.int IntKind.i64 0), (Value.int IntKind.i64 0), (Value.int IntKind.i64 0), (Value.int IntKind.i64 0), (Value.int IntKind.i64 0), (Value.int IntKind.i64 0), (Value.int IntKind.i64 0), (Value.string ByteArray.empty), (Value.string ByteArray.empty), (Value.int IntKind.i64 0), (Value.int IntKind.i64 0), (Value.int IntKind.i64 0), (Value.int IntKind.i64 0), (Value.int IntKind.i64 0), (Value.int IntKind.i64 0), (Value.int IntKind.i64 0), (Value.int IntKind.i64 0), (Value.int IntKind.i64 0), (Value.string ByteArray.empty), (Value.string ByteArray.empty), (Value.int IntKind.i64 0), (Value.int IntKind.i64 0), (Value.int IntKind.i64 0), (Value.int IntKind.i64 0), (Value.int IntKind.i64 0), (Value.int IntKind.i64 0), (Value.int IntKind.i64 0), (Value.int IntKind.i64 0), (Value.int IntKind.i64 0), (Value.string ByteArray.empty), (Value.string ByteArray.empty), (Value.int IntKind.i64 0), (Value.int IntKind.i64 0), (Value.int IntKind.i64 0), (Value.int IntKind.i64 0), (Value.int IntKind.i64 0), (Value.int IntKind.i64 0), (Value.int IntKind.i64 0), (Value.int IntKind.i64 0), (Value.int IntKind.i64 0), (Value.string ByteArray.empty), (Value.string ByteArray.empty), (Value.int IntKind.i64 0), (Value.int IntKind.i64 0), (Value.int IntKind.i64 0), (Value.int IntKind.i64 0), (Value.int IntKind.i64 0), (Value.int IntKind.i64 0), (Value.int IntKind.i64 0), (Value.int IntKind.i64 0), (Value.int IntKind.i64 0), (Value.string ByteArray.empty), (Value.string ByteArray.empty), (Value.int IntKind.i64 0), (Value.int IntKind.i64 0), (Value.int IntKind.i64 0), (Value.int IntKind.i64 0), (Value.int IntKind.i64 0), (Value.int IntKind.i64 0), (Value.int IntKind.i64 0), (Value.int IntKind.i64 0), (Value.int IntKind.i64 0), (Value.string ByteArray.empty), (Value.string ByteArray.empty), (Value.int IntKind.i64 0), (Value.int IntKind.i64 0), (Value.int IntKind.i64 0), (Value.int IntKind.i64 0), (Value.int IntKind.i64 0), (Value.int IntKind.i64 0), (Value.int IntKind.i64 0), (Value.int IntKind.i64 0), (Value.int IntKind.i64 0), (Value.string ByteArray.empty), (Value.string ByteArray.empty), (Value.int IntKind.i64 0), (Value.int IntKind.i64 0), (Value.int IntKind.i64 0), (Value.int IntKind.i64 0), (Value.int IntKind.i64 0), (Value.int IntKind.i64 0), (Value.int IntKind.i64 0), (Value.int IntKind.i64 0), (Value.int IntKind.i64 0), (Value.string ByteArray.empty), (Value.string ByteArray.empty), (Value.int IntKind.i64 0), (Value.int IntKind.i64 0), (Value.int IntKind.i64 0), (Value.int IntKind.i64 0), (Value.int IntKind.i64 0), (Value.int IntKind.i64 0), (Value.int IntKind.i64 0), (Value.int IntKind.i64 0), (Value.int IntKind.i64 0), (Value.string ByteArray.empty), (Value.string ByteArray.empty), (Value.int IntKind.i64 0), (Value.int IntKind.i64 0), (Value.int IntKind.i64 0), (Value.int IntKind.i64 0), (Value.int IntKind.i64 0), (Value.int IntKind.i64 0), (Value.int IntKind.i64 0), (Value.int IntKind.i64 0), (Value.int IntKind.i64 0), (Value.string ByteArray.empty), (Value.string ByteArray.empty), (Value.int IntKind.i64 0), (Value.int IntKind.i64 0), (Value.int IntKind.i64 0), (Value.int IntKind.i64 0), (Value.int IntKind.i64 0), (Value.int IntKind.i64 0), (Value.int IntKind.i64 0), (Value.int IntKind.i64 0), (Value.int IntKind.i64 0), (Value.string ByteArray.empty), (Value.string ByteArray.empty), (Value.int IntKind.i64 0), (Value.int IntKind.i64 0), (Value.int IntKind.i64 0), (Value.int IntKind.i64 0), (Value.int IntKind.i64 0), (Value.int IntKind.i64 0), (Value.int IntKind.i64 0), (Value.int IntKind.i64 0), (Value.int IntKind.i64 0), (Value.string ByteArray.empty), (Value.string ByteArray.empty), (Value.int IntKind.i64 0), (Value.int IntKind.i64 0), (Value.int IntKind.i64 0), (Value.int IntKind.i64 0), (Value.int IntKind.i64 0), (Value.int IntKind.i64 0), (Value.int IntKind.i64 0), (Value.int IntKind.i64 0), (Value.int IntKind.i64 0), (Value.string ByteArray.empty), (Value.string ByteArray.empty), (Value.int IntKind.i64 0), (Value.int IntKind.i64 0), (Value.int IntKind.i64 0), (Value.int IntKind.i64 0), (Value.int IntKind.i64 0), (Value.int IntKind.i64 0), (Value.int IntKind.i64 0), (Value.int IntKind.i64 0), (Value.int IntKind.i64 0), (Value.string ByteArray.empty), (Value.string ByteArray.empty), (Value.int IntKind.i64 0), (Value.int IntKind.i64 0), (Value.int IntKind.i64 0), (Value.int IntKind.i64 0), (Value.int IntKind.i64 0), (Value.int IntKind.i64 0), (Value.int IntKind.i64 0), (Value.int IntKind.i64 0), (Value.int IntKind.i64 0), (Value.string ByteArray.empty), (Value.string ByteArray.empty), (Value.int IntKind.i64 0), (Value.int IntKind.i64 0), (Value.int IntKind.i64 0), (Value.int IntKind.i64 0), (Value.int IntKind.i64 0), (Value.int IntKind.i64 0), (Value.int IntKind.i64 0), (Value.int IntKind.i64 0), (Value.int IntKind.i64 0), (Value.string ByteArray.empty), (Value.string ByteArray.empty), (Value.int IntKind.i64 0), (Value.int IntKind.i64 0), (Value.int IntKind.i64 0), (Value.int IntKind.i64 0), (Value.int IntKind.i64 0), (Value.int IntKind.i64 0), (Value.int IntKind.i64 0), (Value.int IntKind.i64 0), (Value.int IntKind.i64 0), (Value.string ByteArray.empty), (Value.string ByteArray.empty), (Value.int IntKind.i64 0), (Value.int IntKind.i64 0), (Value.int IntKind.i64 0), (Value.int IntKind.i64 0), (Value.int IntKind.i64 0), (Value.int IntKind.i64 0), (Value.int IntKind.i64 0), (Value.int IntKind.i64 0), (Value.int IntKind.i64 0), (Value.string ByteArray.empty), (Value.string ByteArray.empty), (Value.int IntKind.i64 0), (Value.int IntKind.i64 0), (Value.int IntKind.i64 0), (Value.int IntKind.i64 0), (Value.int IntKind.i64 0), (Value.int IntKind.i64 0), (Value.int IntKind.i64 0), (Value.int IntKind.i64 0), (Value.int IntKind.i64 0), (Value.string ByteArray.empty), (Value.string ByteArray.empty), (Value.int IntKind.i64 0), (Value.int IntKind.i64 0), (Value.int IntKind.i64 0), (Value.int IntKind.i64 0), (Value.int IntKind.i64 0), (Value.int IntKind.i64 0), (Value.int IntKind.i64 0), (Value.int IntKind.i64 0), (Value.int IntKind.i64 0), (Value.string ByteArray.empty), (Value.string ByteArray.empty), (Value.int IntKind.i64 0), (Value.int IntKind.i64 0), (Value.int IntKind.i64 0), (Value.int IntKind.i64 0), (Value.int IntKind.i64 0), (Value.int IntKind.i64 0), (Value.int IntKind.i64 0), (Value.int IntKind.i64 0), (Value.int IntKind.i64 0), (Value.string ByteArray.empty), (Value.string ByteArray.empty), (Value.int IntKind.i64 0), (Value.int IntKind.i64 0), (Value.int IntKind.i64 0), (Value.int IntKind.i64 0), (Value.int IntKind.i64 0), (Value.int IntKind.i64 0), (Value.int IntKind.i64 0), (Value.int IntKind.i64 0), (Value.int IntKind.i64 0), (Value.string ByteArray.empty), (Value.string ByteArray.empty), (Value.int IntKind.i64 0), (Value.int IntKind.i64 0), (Value.int IntKind.i64 0), (Value.int IntKind.i64 0), (Value.int IntKind.i64 0), (Value.int IntKind.i64 0), (Value.int IntKind.i64 0), (Value.int IntKind.i64 0), (Value.int IntKind.i64 0), (Value.string ByteArray.empty), (Value.string ByteArray.empty), (Value.int IntKind.i64 0), (Value.int IntKind.i64 0), (Value.int IntKind.i64 0), (Value.int IntKind.i64 0), (Value.int IntKind.i64 0), (Value.int IntKind.i64 0), (Value.int IntKind.i64 0), (Value.int IntKind.i64 0), (Value.int IntKind.i64 0), (Value.string ByteArray.empty), (Value.string ByteArray.empty), (Value.int IntKind.i64 0), (Value.int IntKind.i64 0), (Value.int IntKind.i64 0), (Value.int IntKind.i64 0), (Value.int IntKind.i64 0), (Value.int IntKind.i64 0), (Value.int IntKind.i64 0), (Value.int IntKind.i64 0), (Value.int IntKind.i64 0), (Value.string ByteArray.empty), (Value.string ByteArray.empty), (Value.int IntKind.i64 0), (Value.int IntKind.i64 0), (Value.int IntKind.i64 0), (Value.int IntKind.i64 0), (Value.int IntKind.i64 0), (Value.int IntKind.i64 0), (Value.int IntKind.i64 0), (Value.int IntKind.i64 0), (Value.int IntKind.i64 0), (Value.string ByteArray.empty), (Value.string ByteArray.empty), (Value.int IntKind.i64 0), (Value.int IntKind.i64 0), (Value.int IntKind.i64 0), (Value.int IntKind.i64 0), (Value.int IntKind.i64 0), (Value.int IntKind.i64 0), (Value.int IntKind.i64 0), (Value.int IntKind.i64 0), (Value.int IntKind.i64 0), (Value.string ByteArray.empty), (Value.string ByteArray.empty), (Value.int IntKind.i64 0), (Value.int IntKind.i64 0), (Value.int IntKind.i64 0), (Value.int IntKind.i64 0), (Value.int IntKind.i64 0), (Value.int IntKind.i64 0), (Value.int IntKind.i64 0), (Value.int IntKind.i64 0), (Value.int IntKind.i64 0), (Value.string ByteArray.empty), (Value.string ByteArray.empty), (Value.int IntKind.i64 0), (Value.int IntKind.i64 0), (Value.int IntKind.i64 0), (Value.int IntKind.i64 0), (Value.int IntKind.i64 0), (Value.int IntKind.i64 0), (Value.int IntKind.i64 0), (Value.int IntKind.i64 0), (Value.int IntKind.i64 0), (Value.string ByteArray.empty), (Value.string ByteArray.empty), (Value.int IntKind.i64 0), (Value.int IntKind.i64 0), (Value.int IntKind.i64 0), (Value.int IntKind.i64 0), (Value.int IntKind.i64 0), (Value.int IntKind.i64 0), (Value.int IntKind.i64 0), (Value.int IntKind.i64 0), (Value.int IntKind.i64 0), (Value.string ByteArray.empty), (Value.string ByteArray.empty), (Value.int IntKind.i64 0), (Value.int IntKind.i64 0), (Value.int IntKind.i64 0), (Value.int IntKind.i64 0), (Value.int IntKind.i64 0), (Value.int IntKind.i64 0), (Value.int IntKind.i64 0), (Value.int IntKind.i64 0), (Value.int IntKind.i64 0), (Value.string ByteArray.empty), (Value.string ByteArray.empty), (Value.int IntKind.i64 0), (Value.int IntKind.i64 0), (Value.int IntKind.i64 0), (Value.int IntKind.i64 0), (Value.int IntKind.i64 0), (Value.int IntKind.i64 0), (Value.int IntKind.i64 0), (Value.int IntKind.i64 0), (Value.int IntKind.i64 0), (Value.string ByteArray.empty), (Value.string ByteArray.empty), (Value.int IntKind.i64 0), (Value.int IntKind.i64 0), (Value.int IntKind.i64 0), (Value.int IntKind.i64 0), (Value.int IntKind.i64 0), (Value.int IntKind.i64 0), (Value.int IntKind.i64 0), (Value.int IntKind.i64 0), (Value.int IntKind.i64 0), (Value.string ByteArray.empty), (Value.string ByteArray.empty), (Value.int IntKind.i64 0), (Value.int IntKind.i64 0), (Value.int IntKind.i64 0), (Value.int IntKind.i64 0), (Value.int IntKind.i64 0), (Value.int IntKind.i64 0), (Value.int IntKind.i64 0), (Value.int IntKind.i64 0), (Value.int IntKind.i64 0), (Value.string ByteArray.empty), (Value.string ByteArray.empty), (Value.int IntKind.i64 0), (Value.int IntKind.i64 0), (Value.int IntKind.i64 0), (Value.int IntKind.i64 0), (Value.int IntKind.i64 0), (Value.int IntKind.i64 0), (Value.int IntKind.i64 0), (Value.int IntKind.i64 0), (Value.int IntKind.i64 0), (Value.string ByteArray.empty), (Value.string ByteArray.empty), (Value.int IntKind.i64 0), (Value.int IntKind.i64 0), (Value.int IntKind.i64 0), (Value.int IntKind.i64 0), (Value.int IntKind.i64 0), (Value.int IntKind.i64 0), (Value.int IntKind.i64 0), (Value.int IntKind.i64 0), (Value.int IntKind.i64 0), (Value.string ByteArray.empty), (Value.string ByteArray.empty), (Value.int IntKind.i64 0), (Value.int IntKind.i64 0), (Value.int IntKind.i64 0), (Value.int IntKind.i64 0), (Value.int IntKind.i64 0), (Value.int IntKind.i64 0), (Value.int IntKind.i64 0), (Value.int IntKind.i64 0), (Value.int IntKind.i64 0), (Value.string ByteArray.empty), (Value.string ByteArray.empty), (Value.int IntKind.i64 0), (Value.int IntKind.i64 0), (Value.int IntKind.i64 0), (Value.int IntKind.i64 0), (Value.int IntKind.i64 0), (Value.int IntKind.i64 0), (Value.int IntKind.i64 0), (Value.int IntKind.i64 0), (Value.int IntKind.i64 0), (Value.string ByteArray.empty), (Value.string ByteArray.empty), (Value.int IntKind.i64 0), (Value.int IntKind.i64 0), (Value.int IntKind.i64 0), (Value.int IntKind.i64 0), (Value.int IntKind.i64 0), (Value.int IntKind.i64 0), (Value.int IntKind.i64 0), (Value.int IntKind.i64 0), (Value.int IntKind.i64 0), (Value.string ByteArray.empty), (Value.string ByteArray.empty), (Value.int IntKind.i64 0), (Value.int IntKind.i64 0), (Value.int IntKind.i64 0), (Value.int IntKind.i64 0), (Value.int IntKind.i64 0), (Value.int IntKind.i64 0), (Value.int IntKind.i64 0), (Value.int IntKind.i64 0), (Value.int IntKind.i64 0), (Value.string ByteArray.empty), (Value.string ByteArray.empty), (Value.int IntKind.i64 0), (Value.int IntKind.i64 0), (Value.int IntKind.i64 0), (Value.int IntKind.i64 0), (Value.int IntKind.i64 0), (Value.int IntKind.i64 0), (Value.int IntKind.i64 0), (Value.int IntKind.i64 0), (Value.int IntKind.i64 0), (Value.string ByteArray.empty), (Value.string ByteArray.empty), (Value.int IntKind.i64 0), (Value.int IntKind.i64 0), (Value.int IntKind.i64 0), (Value.int IntKind.i64 0), (Value.int IntKind.i64 0), (Value.int IntKind.i64 0), (Value.int IntKind.i64 0), (Value.int IntKind.i64 0), (Value.int IntKind.i64 0), (Value.string ByteArray.empty), (Value.string ByteArray.empty), (Value.int IntKind.i64 0), (Value.int IntKind.i64 0), (Value.int IntKind.i64 0), (Value.int IntKind.i64 0), (Value.int IntKind.i64 0), (Value.int IntKind.i64 0), (Value.int IntKind.i64 0), (Value.int IntKind.i64 0), (Value.int IntKind.i64 0), (Value.string ByteArray.empty), (Value.string ByteArray.empty), (Value.int IntKind.i64 0), (Value.int IntKind.i64 0), (Value.int IntKind.i64 0), (Value.int IntKind.i64 0), (Value.int IntKind.i64 0), (Value.int IntKind.i64 0), (Value.int IntKind.i64 0), (Value.int IntKind.i64 0), (Value.int IntKind.i64 0), (Value.string ByteArray.empty), (Value.string ByteArray.empty), (Value.int IntKind.i64 0), (Value.int IntKind.i64 0), (Value.int IntKind.i64 0), (Value.int IntKind.i64 0), (Value.int IntKind.i64 0), (Value.int IntKind.i64 0), (Value.int IntKind.i64 0), (Value.int IntKind.i64 0), (Value.int IntKind.i64 0), (Value.string ByteArray.empty), (Value.string ByteArray.empty), (Value.int IntKind.i64 0), (Value.int IntKind.i64 0), (Value.int IntKind.i64 0), (Value.int IntKind.i64 0), (Value.int IntKind.i64 0), (Value.int IntKind.i64 0), (Value.int IntKind.i64 0), (Value.int IntKind.i64 0), (Value.int IntKind.i64 0), (Value.string ByteArray.empty), (Value.string ByteArray.empty), (Value.int IntKind.i64 0), (Value.int IntKind.i64 0), (Value.int IntKind.i64 0), (Value.int IntKind.i64 0), (Value.int IntKind.i64 0), (Value.int IntKind.i64 0), (Value.int IntKind.i64 0), (Value.int IntKind.i64 0), (Value.int IntKind.i64 0), (Value.string ByteArray.empty), (Value.string ByteArray.empty), (Value.int IntKind.i64 0), (Value.int IntKind.i64 0), (Value.int IntKind.i64 0), (Value.int IntKind.i64 0), (Value.int IntKind.i64 0), (Value.int IntKind.i64 0), (Value.int IntKind.i64 0), (Value.int IntKind.i64 0), (Value.int IntKind.i64 0), (Value.string ByteArray.empty), (Value.string ByteArray.empty)] := rfl
def ZP : Array Value := #[(Value.string ByteArray.empty), (Value.string ByteArray.empty), (Value.string ByteArray.empty), (Value.string ByteArray.empty), (Value.string ByteArray.empty), (Value.string ByteArray.empty), (Value.string ByteArray.empty), (Value.string ByteArray.empty), (Value.string ByteArray.empty), (Value.string ByteArray.empty), (Value.string ByteArray.empty), (Value.string ByteArray.empty), (Value.string ByteArray.empty), (Value.string ByteArray.empty), (Value.string ByteArray.empty), (Value.string ByteArray.empty), (Value.string ByteArray.empty), (Value.string ByteArray.empty), (Value.string ByteArray.empty), (Value.string ByteArray.empty), (Value.string ByteArray.empty), (Value.string ByteArray.empty), (Value.string ByteArray.empty), (Value.string ByteArray.empty), (Value.string ByteArray.empty), (Value.string ByteArray.empty), (Value.string ByteArray.empty), (Value.string ByteArray.empty), (Value.string ByteArray.empty), (Value.string ByteArray.empty), (Value.string ByteArray.empty), (Value.string ByteArray.empty), (Value.string ByteArray.empty), (Value.string ByteArray.empty), (Value.string ByteArray.empty), (Value.string ByteArray.empty), (Value.string ByteArray.empty), (Value.string ByteArray.empty), (Value.string ByteArray.empty), (Value.string ByteArray.empty), (Value.string ByteArray.empty), (Value.string ByteArray.empty), (Value.string ByteArray.empty), (Value.string ByteArray.empty), (Value.string ByteArray.empty), (Value.string ByteArray.empty), (Value.string ByteArray.empty), (Value.string ByteArray.empty), (Value.string ByteArray.empty), (Value.string ByteArray.empty), (Value.string ByteArray.empty), (Value.string ByteArray.empty), (Value.string ByteArray.empty), (Value.string ByteArray.empty), (Value.string ByteArray.empty), (Value.string ByteArray.empty), (Value.string ByteArray.empty), (Value.string ByteArray.empty), (Value.string ByteArray.empty), (Value.string ByteArray.empty), (Value.string ByteArray.empty), (Value.string ByteArray.empty), (Value.string ByteArray.empty), (Value.string ByteArray.empty), (Value.string ByteArray.empty), (Value.string ByteArray.empty), (Value.string ByteArray.empty), (Value.string ByteArray.empty), (Value.string ByteArray.empty), (Value.string ByteArray.empty), (Value.string ByteArray.empty), (Value.string ByteArray.empty), (Value.string ByteArray.empty), (Value.string ByteArray.empty), (Value.string ByteArray.empty), (Value.string ByteArray.empty), (Value.string ByteArray.empty), (Value.string ByteArray.empty), (Value.string ByteArray.empty), (Value.string ByteArray.empty), (Value.string ByteArray.empty), (Value.string ByteArray.empty), (Value.string ByteArray.empty), (Value.string ByteArray.empty), (Value.string ByteArray.empty), (Value.string ByteArray.empty), (Value.string ByteArray.empty), (Value.string ByteArray.empty), (Value.string ByteArray.empty), (Value.string ByteArray.empty), (Value.string ByteArray.empty), (Value.string ByteArray.empty), (Value.string ByteArray.empty), (Value.string ByteArray.empty), (Value.string ByteArray.empty), (Value.string ByteArray.empty), (Value.string ByteArray.empty), (Value.string ByteArray.empty), (Value.string ByteArray.empty), (Value.string ByteArray.empty), (Value.string ByteArray.empty), (Value.string ByteArray.empty), (Value.string ByteArray.empty), (Value.string ByteArray.empty), (Value.string ByteArray.empty), (Value.string ByteArray.empty), (Value.string ByteArray.empty), (Value.string ByteArray.empty), (Value.string ByteArray.empty), (Value.string ByteArray.empty), (Value.string ByteArray.empty), (Value.string ByteArray.empty), (Value.string ByteArray.empty), (Value.string ByteArray.empty), (Value.string ByteArray.empty), (Value.string ByteArray.empty), (Value.string ByteArray.empty), (Value.string ByteArray.empty), (Value.string ByteArray.empty), (Value.string ByteArray.empty), (Value.string ByteArray.empty), (Value.string ByteArray.empty), (Value.string ByteArray.empty), (Value.string ByteArray.empty), (Value.string ByteArray.empty), (Value.string ByteArray.empty), (Value.string ByteArray.empty), (Value.string ByteArray.empty)]
theorem ZP_def : ZP = #[(Value.string ByteArray.empty), (Value.string ByteArray.empty), (Value.string ByteArray.empty), (Value.string ByteArray.empty), (Value.string ByteArray.empty), (Value.string ByteArray.empty), (Value.string ByteArray.empty), (Value.string ByteArray.empty), (Value.string ByteArray.empty), (Value.string ByteArray.empty), (Value.string ByteArray.empty), (Value.string ByteArray.empty), (Value.string ByteArray.empty), (Value.string ByteArray.empty), (Value.string ByteArray.empty), (Value.string ByteArray.empty), (Value.string ByteArray.empty), (Value.string ByteArray.empty), (Value.string ByteArray.empty), (Value.string ByteArray.empty), (Value.string ByteArray.empty), (Value.string ByteArray.empty), (Value.string ByteArray.empty), (Value.string ByteArray.empty), (Value.string ByteArray.empty), (Value.string ByteArray.empty), (Value.string ByteArray.empty), (Value.string ByteArray.empty), (Value.string ByteArray.empty), (Value.string ByteArray.empty), (Value.string ByteArray.empty), (Value.string ByteArray.empty), (Value.string ByteArray.empty), (Value.string ByteArray.empty), (Value.string ByteArray.empty), (Value.string ByteArray.empty), (Value.string ByteArray.empty), (Value.string ByteArray.empty), (Value.string ByteArray.empty), (Value.string ByteArray.empty), (Value.string ByteArray.empty), (Value.string ByteArray.empty), (Value.string ByteArray.empty), (Value.string ByteArray.empty), (Value.string ByteArray.empty), (Value.string ByteArray.empty), (Value.string ByteArray.empty), (Value.string ByteArray.empty), (Value.string ByteArray.empty), (Value.string ByteArray.empty), (Value.string ByteArray.empty), (Value.string ByteArray.empty), (Value.string ByteArray.empty), (Value.string ByteArray.empty), (Value.string ByteArray.empty), (Value.string ByteArray.empty), (Value.string ByteArray.empty), (Value.string ByteArray.empty), (Value.string ByteArray.empty), (Value.string ByteArray.empty), (Value.string ByteArray.empty), (Value.string ByteArray.empty), (Value.string ByteArray.empty), (Value.string ByteArray.empty), (Value.string ByteArray.empty), (Value.string ByteArray.empty), (Value.string ByteArray.empty), (Value.string ByteArray.empty), (Value.string ByteArray.empty), (Value.string ByteArray.empty), (Value.string ByteArray.empty), (Value.string ByteArray.empty), (Value.string ByteArray.empty), (Value.string ByteArray.empty), (Value.string ByteArray.empty), (Value.string ByteArray.empty), (Value.string ByteArray.empty), (Value.string ByteArray.empty), (Value.string ByteArray.empty), (Value.string ByteArray.empty), (Value.string ByteArray.empty), (Value.string ByteArray.empty), (Value.string ByteArray.empty), (Value.string ByteArray.empty), (Value.string ByteArray.empty), (Value.string ByteArray.empty), (Value.string ByteArray.empty), (Value.string ByteArray.empty), (Value.string ByteArray.empty), (Value.string ByteArray.empty), (Value.string ByteArray.empty), (Value.string ByteArray.empty), (Value.string ByteArray.empty), (Value.string ByteArray.empty), (Value.string ByteArray.empty), (Value.string ByteArray.empty), (Value.string ByteArray.empty), (Value.string ByteArray.empty), (Value.string ByteArray.empty), (Value.string ByteArray.empty), (Value.string ByteArray.empty), (Value.string ByteArray.empty), (Value.string ByteArray.empty), (Value.string ByteArray.empty), (Value.string ByteArray.empty), (Value.string ByteArray.empty), (Value.string ByteArray.empty), (Value.string ByteArray.empty), (Value.string ByteArray.empty), (Value.string ByteArray.empty), (Value.string ByteArray.empty), (Value.string ByteArray.empty), (Value.string ByteArray.empty), (Value.string ByteArray.empty), (Value.string ByteArray.empty), (Value.string ByteArray.empty), (Value.string ByteArray.empty), (Value.string ByteArray.empty), (Value.string ByteArray.empty), (Value.string ByteArray.empty), (Value.string ByteArray.empty), (Value.string ByteArray.empty), (Value.string ByteArray.empty), (Value.string ByteArray.empty), (Value.string ByteArray.empty), (Value.string ByteArray.empty), (Value.string ByteArray.empty), (Value.string ByteArray.empty)] := rfl
def ZI : Array Value := #[(Value.int IntKind.i64 0), (Value.int IntKind.i64 0), (Value.int IntKind.i64 0), (Value.int IntKind.i64 0), (Value.int IntKind.i64 0), (Value.int IntKind.i64 0), (Value.int IntKind.i64 0), (Value.int IntKind.i64 0), (Value.int IntKind.i64 0), (Value.int IntKind.i64 0), (Value.int IntKind.i64 0), (Value.int IntKind.i64 0), (Value.int IntKind.i64 0), (Value.int IntKind.i64 0), (Value.int IntKind.i64 0), (Value.int IntKind.i64 0), (Value.int IntKind.i64 0), (Value.int IntKind.i64 0), (Value.int IntKind.i64 0), (Value.int IntKind.i64 0), (Value.int IntKind.i64 0), (Value.int IntKind.i64 0), (Value.int IntKind.i64 0), (Value.int IntKind.i64 0), (Value.int IntKind.i64 0), (Value.int IntKind.i64 0), (Value.int IntKind.i64 0), (Value.int IntKind.i64 0), (Value.int IntKind.i64 0), (Value.int IntKind.i64 0), (Value.int IntKind.i64 0), (Value.int IntKind.i64 0), (Value.int IntKind.i64 0), (Value.int IntKind.i64 0), (Value.int IntKind.i64 0), (Value.int IntKind.i64 0), (Value.int IntKind.i64 0), (Value.int IntKind.i64 0), (Value.int IntKind.i64 0), (Value.int IntKind.i64 0), (Value.int IntKind.i64 0), (Value.int IntKind.i64 0), (Value.int IntKind.i64 0), (Value.int IntKind.i64 0), (Value.int IntKind.i64 0), (Value.int IntKind.i64 0), (Value.int IntKind.i64 0), (Value.int IntKind.i64 0), (Value.int IntKind.i64 0), (Value.int IntKind.i64 0), (Value.int IntKind.i64 0), (Value.int IntKind.i64 0), (Value.int IntKind.i64 0), (Value.int IntKind.i64 0), (Value.int IntKind.i64 0), (Value.int IntKind.i64 0), (Value.int IntKind.i64 0), (Value.int IntKind.i64 0), (Value.int IntKind.i64 0), (Value.int IntKind.i64 0), (Value.int IntKind.i64 0), (Value.int IntKind.i64 0), (Value.int IntKind.i64 0), (Value.int IntKind.i64 0)]
theorem ZI_def : ZI = #[(Value.int IntKind.i64 0), (Value.int IntKind.i64 0), (Value.int IntKind.i64 0), (Value.int IntKind.i64 0), (Value.int IntKind.i64 0), (Value.int IntKind.i64 0), (Value.int IntKind.i64 0), (Value.int IntKind.i64 0), (Value.int IntKind.i64 0), (Value.int IntKind.i64 0), (Value.int IntKind.i64 0), (Value.int IntKind.i64 0), (Value.int IntKind.i64 0), (Value.int IntKind.i64 0), (Value.int IntKind.i64 0), (Value.int IntKind.i64 0), (Value.int IntKind.i64 0), (Value.int IntKind.i64 0), (Value.int IntKind.i64 0), (Value.int IntKind.i64 0), (Value.int IntKind.i64 0), (Value.int IntKind.i64 0), (Value.int IntKind.i64 0), (Value.int IntKind.i64 0), (Value.int IntKind.i64 0), (Value.int IntKind.i64 0), (Value.int IntKind.i64 0), (Value.int IntKind.i64 0), (Value.int IntKind.i64 0), (Value.int IntKind.i64 0), (Value.int IntKind.i64 0), (Value.int IntKind.i64 0), (Value.int IntKind.i64 0), (Value.int IntKind.i64 0), (Value.int IntKind.i64 0), (Value.int IntKind.i64 0), (Value.int IntKind.i64 0), (Value.int IntKind.i64 0), (Value.int IntKind.i64 0), (Value.int IntKind.i64 0), (Value.int IntKind.i64 0), (Value.int IntKind.i64 0), (Value.int IntKind.i64 0), (Value.int IntKind.i64 0), (Value.int IntKind.i64 0), (Value.int IntKind.i64 0), (Value.int IntKind.i64 0), (Value.int IntKind.i64 0), (Value.int IntKind.i64 0), (Value.int IntKind.i64 0), (Value.int IntKind.i64 0), (Value.int IntKind.i64 0), (Value.int IntKind.i64 0), (Value.int IntKind.i64 0), (Value.int IntKind.i64 0), (Value.int IntKind.i64 0), (Value.int IntKind.i64 0), (Value.int IntKind.i64 0), (Value.int IntKind.i64 0), (Value.int IntKind.i64 0), (Value.int IntKind.i64 0), (Value.int IntKind.i64 0), (Value.int IntKind.i64 0), (Value.int IntKind.i64 0)] := rfl
theorem ZM_list : ZM.toList = (List.replicate 64 (cM 0)).flatten := by kernel_rfl
theorem ZP_list : ZP.toList = (List.replicate 64 [Value.string ByteArray.empty, .string ByteArray.empty]).flatten := by kernel_rfl
theorem ZI_list : ZI.toList = (List.replicate 64 (cI 0)).flatten := by kernel_rfl

section
variable {k : Nat} {w w' : World} {v : Value} {els : List (List Value)} {c : List Value}
/-- One element more is written. -/
theorem fillAt {i : Nat} (h : SlW k w v (List.replicate i c ++ els.drop i)) (hi : i < els.length) (hc : c.length = k) (he : ∀ e ∈ els, e.length = k) (kd : IntKind) :
    ∃ b o, idxA k v (.int kd i) = some (.pointer (some ⟨b, o, none⟩)) ∧ inB v b ∧ okAt w b o k ∧ SlW k (sto w b o c) v (List.replicate (i + 1) c ++ els.drop (i + 1)) := by
  have hg : (List.replicate i c ++ els.drop i)[i]? = some els[i] := by
    rw [List.getElem?_append_right (by simp)]
    simp [hi]
  obtain ⟨b, o, h1, h2, h3, h4, h5⟩ := h.put hg kd
  obtain ⟨_, h6⟩ := h5 0 c (by omega)
  refine ⟨b, o, h1, h2, h4, ?_⟩
  have hel := he _ (List.getElem_mem hi)
  have e1 : setL els[i] 0 c = c := by
    rw [setL_eq _ _ _ (by omega)]
    simp [hc, hel]
  rw [e1] at h6
  have e2 : (List.replicate i c ++ els.drop i).set i c = List.replicate (i + 1) c ++ els.drop (i + 1) := by
    rw [List.set_append_right _ _ (by simp)]
    rw [List.length_replicate, Nat.sub_self, List.drop_eq_getElem_cons hi, List.set_cons_zero, List.replicate_succ', List.append_assoc]
    rfl
  rw [e2] at h6
  exact h6
theorem room_sl {b n : Nat} {cs : Array Value} (hb : bk w b = some cs.toList) (hw : wr w b = true) (hcs : cs.toList = (List.replicate n c).flatten) (hc : c.length = k) : SlW k w (.slice (some ⟨b, 0, none⟩) n n) (List.replicate n c) := by
  refine ⟨⟨fun e he => by rw [List.eq_of_mem_replicate he, hc], some ⟨b, 0, none⟩, n, by simp, by simp, .inr ⟨b, 0, cs.toList, rfl, hb, ?_, ?_⟩⟩, fun b' hb' _ => by cases hb'; exact hw⟩
  · rw [hcs, flat_len (k := k) fun e he => by rw [List.eq_of_mem_replicate he, hc]]
    simp
  · have : ((List.replicate n c).flatten).length = (List.replicate n c).length * k := flat_len (k := k) fun e he => by rw [List.eq_of_mem_replicate he, hc]
    rw [List.drop_zero, hcs, List.take_of_length_le (by omega)]
theorem idxR_view {b n i : Nat} (hi : i < n) (kd : IntKind) : idxR n k (.pointer (some ⟨b, 0, none⟩)) (.int kd i) = idxA k (.slice (some ⟨b, 0, none⟩) n n) (.int kd i) := by
  simp [hi]
theorem sliceR_view {b n : Nat} (hn : n ≠ 0) : sliceR n k (.pointer (some ⟨b, 0, none⟩)) none none = some (.slice (some ⟨b, 0, none⟩) n n) := by
  simp only [sliceR, highV, lowV]
  rw [if_neg hn]
  simp [Addr.add_lit]
/-- Behind an append the list itself is as it was. -/
theorem after_app {s r : Value} {els fls : List (List Value)} (hs : SlW k w s els) (h1 : SlW k w' r (els ++ fls)) (h4 : (∃ a c, s = .slice a els.length c ∧ r = .slice a (els.length + fls.length) c) ∨ (Fr (fun _ => False) w w' ∧ ∀ b, inB r b → w.heap.size ≤ b)) : Sl k w' s els := by
  rcases h4 with ⟨a, c, rfl, rfl⟩ | ⟨f, _⟩
  · have := h1.1.pre (n := els.length) (by omega)
    rwa [List.take_left' rfl] at this
  · exact hs.1.fr0 f
end

theorem buildM (m : Int) : buildV #[(Value.int IntKind.i64 0), (Value.int IntKind.i64 0), (Value.int IntKind.i64 0), (Value.int IntKind.i64 0), (Value.int IntKind.i64 0), (Value.int IntKind.i64 0), (Value.int IntKind.i64 0), (Value.int IntKind.i64 0), (Value.int IntKind.i64 0), (Value.string ByteArray.empty), (Value.string ByteArray.empty)] [(0, 1, (.int .i64 m))] = some (.agg (cM m).toArray) := by
  simp [buildV, fillV, cM]
theorem cM_all (m : Int) : (cM m).all isCell = true := by simp [cM]
theorem cP_all (m : Int) : (cP m).all isCell = true := by simp [cP]
theorem cI_all (m : Int) : (cI m).all isCell = true := by simp [cI]

theorem marked_run {w : World} {a0 a1 a2 : Value} {ms ps is : List (List Value)} {m : Int} (h0 : SlW 11 w a0 ms) (h1 : SlW 2 w a1 ps) (h2 : SlW 1 w a2 is) (hlm : ms.length ≤ 1048576) (hlp : ps.length ≤ 1048576) (hli : is.length ≤ 1048576)
    (hd01 : ∀ c, inB a0 c → ¬ inB a1 c) (hd02 : ∀ c, inB a0 c → ¬ inB a2 c) (hd12 : ∀ c, inB a1 c → ¬ inB a2 c) (hold : ∀ c, (inB a0 c ∨ inB a1 c ∨ inB a2 c) → 1 < c ∧ c < w.heap.size)
    (hm : m < 0 ∧ -10000000 < m) (hpow : bk w 1 = some powV) :
    Run (F.granarylaw21_marked a0 a1 a2 (.int .i64 m)) w fun r w' => ∃ e, r = .agg e.toArray ∧ HeldAt w' e m (fun c => (inB a0 c ∨ inB a1 c ∨ inB a2 c) ∨ (w.heap.size ≤ c ∧ c < w'.heap.size)) ∧ Fr (fun c => inB a0 c ∨ inB a1 c ∨ inB a2 c) w w' := by
  unfold F.granarylaw21_marked
  rw [← ZM_def, ← ZP_def, ← ZI_def]
  have c0 := h0.1.isCell
  have c1 := h1.1.isCell
  have c2 := h2.1.isCell
  have p1 := bk_lt hpow
  simp only [Run_bind, buildM, Run_bindO_some]
  refine Run_new fun d w1 hd hdw f1 hdle => ?_
  obtain ⟨V, hV⟩ : ∃ V : Nat → Prop, ∀ c, V c ↔ (inB a0 c ∨ inB a1 c ∨ inB a2 c) := ⟨_, fun _ => Iff.rfl⟩
  have hVold : ∀ c, V c → 1 < c ∧ c < w.heap.size := fun c hc => hold c ((hV c).1 hc)
  have k11 : ∀ e ∈ ms, e.length = 11 := h0.1.1
  have k2 : ∀ e ∈ ps, e.length = 2 := h1.1.1
  have k1 : ∀ e ∈ is, e.length = 1 := h2.1.1
  have g1 : Fr V w w1 := f1.mono fun _ h => h.elim
  have dpow : ∀ w', Fr V w w' → bk w' 1 = some powV := fun w' f => f.bk_some hpow fun hc => by have := (hVold 1 hc).1; omega
  -- the messages
  refine Run_for ms.length (fun i l w' => l = [.int .i64 i] ∧ SlW 11 w' a0 (List.replicate i (cM m) ++ ms.drop i) ∧ Fr (inB a0) w1 w') ⟨rfl, by simpa using h0.fr f1 fun _ _ => id, Fr.refl _ _⟩ ?_ ?_
  · rintro i l w2 hi ⟨rfl, hs, f2⟩
    have hl := hs.1.lenL
    simp only [List.length_append, List.length_replicate, List.length_drop, show i + (ms.length - i) = ms.length by omega] at hl
    obtain ⟨b, o, q1, q2, q3, q4⟩ := fillAt hs hi rfl k11 .i64
    have wi := wrap_succ (n := i) (by omega)
    have hi' : (i : Int) < ms.length := by omega
    simp only [hl, Run_bindO_some, getL_zero, binV_int, intBin_lss, hi', decide_true, Run_condM_true, q1, Run_bind]
    rw [Run_stA (cs := (cM m).toArray) ⟨q3, rfl, by simpa using cM_all m⟩]
    simp only [intBin_add, Run_bindO_some, Run_ret, wi]
    exact ⟨by trivial, by simpa using q4, f2.sto (.inl q2) _ _⟩
  rintro l w2 ⟨rfl, hs0, f2⟩
  have hl0 := hs0.1.lenL
  simp only [List.drop_length, List.append_nil] at hs0 hl0
  rw [List.length_replicate] at hl0
  have g2 : Fr V w w2 := g1.trans f2 fun c _ hc => (hV c).2 (.inl hc)
  have h1' : SlW 2 w2 a1 ps := (h1.fr f1 fun _ _ => id).fr f2 fun c hc hc' => hd01 c hc' hc
  have h2' : SlW 1 w2 a2 is := (h2.fr f1 fun _ _ => id).fr f2 fun c hc hc' => hd02 c hc' hc
  have s2 := g2.size
  simp only [hl0, Run_bindO_some, getL_zero, binV_int, intBin_lss, Int.lt_irrefl, decide_false, Run_condM_false, Run_ret, outK_exit, natBeq, decide_true, cond_true, Run_bind]
  -- the pairs
  refine Run_for ps.length (fun i l w' => l = [.int .i64 i] ∧ SlW 2 w' a1 (List.replicate i (cP m) ++ ps.drop i) ∧ Fr (inB a1) w2 w') ⟨rfl, by simpa using h1', Fr.refl _ _⟩ ?_ ?_
  · rintro i l w3 hi ⟨rfl, hs, f3⟩
    have hl := hs.1.lenL
    simp only [List.length_append, List.length_replicate, List.length_drop, show i + (ps.length - i) = ps.length by omega] at hl
    have wi := wrap_succ (n := i) (by omega)
    have hi' : (i : Int) < ps.length := by omega
    simp only [hl, Run_bindO_some, getL_zero, binV_int, intBin_lss, hi', decide_true, Run_condM_true, Run_bind]
    refine (own_run hm (dpow w3 (g2.trans f3 fun c _ hc => (hV c).2 (.inr (.inl hc))))).mono ?_
    rintro _ w4 ⟨rfl, f4⟩
    obtain ⟨b, o, q1, q2, q3, q4⟩ := fillAt (hs.fr f4 fun _ _ => id) hi rfl k2 .i64
    simp only [q1, Run_bindO_some, Run_bind]
    rw [Run_stA (cs := #[.string (ownS m), .string hash]) ⟨q3, rfl, by simp⟩]
    simp only [intBin_add, Run_bindO_some, Run_ret, wi]
    exact ⟨by trivial, q4, (f3.trans f4 fun _ _ h => h.elim).sto (.inl q2) _ _⟩
  rintro l w3 ⟨rfl, hs1, f3⟩
  have hl1 := hs1.1.lenL
  simp only [List.drop_length, List.append_nil] at hs1 hl1
  rw [List.length_replicate] at hl1
  have g3 : Fr V w w3 := g2.trans f3 fun c _ hc => (hV c).2 (.inr (.inl hc))
  replace hs0 : SlW 11 w3 a0 (List.replicate ms.length (cM m)) := hs0.fr f3 fun c hc hc' => hd01 c hc hc'
  replace h2' : SlW 1 w3 a2 is := h2'.fr f3 fun c hc hc' => hd12 c hc' hc
  simp only [hl1, Run_bindO_some, getL_zero, binV_int, intBin_lss, Int.lt_irrefl, decide_false, Run_condM_false, Run_ret, outK_exit, natBeq, decide_true, cond_true, Run_bind]
  -- the numbers
  refine Run_for is.length (fun i l w' => l = [.int .i64 i] ∧ SlW 1 w' a2 (List.replicate i (cI m) ++ is.drop i) ∧ Fr (inB a2) w3 w') ⟨rfl, by simpa using h2', Fr.refl _ _⟩ ?_ ?_
  · rintro i l w4 hi ⟨rfl, hs, f4⟩
    have hl := hs.1.lenL
    simp only [List.length_append, List.length_replicate, List.length_drop, show i + (is.length - i) = is.length by omega] at hl
    have wi := wrap_succ (n := i) (by omega)
    have hi' : (i : Int) < is.length := by omega
    obtain ⟨b, o, q1, q2, q3, q4⟩ := fillAt hs hi rfl k1 .i64
    simp only [hl, Run_bindO_some, getL_zero, binV_int, intBin_lss, hi', decide_true, Run_condM_true, Run_bind, q1]
    rw [Run_st1 ⟨q3, isCell_int _ _⟩]
    simp only [intBin_add, Run_bindO_some, Run_ret, wi]
    exact ⟨by trivial, q4, f4.sto (.inl q2) _ _⟩
  rintro l w4 ⟨rfl, hs2, f4⟩
  have hl2 := hs2.1.lenL
  simp only [List.drop_length, List.append_nil] at hs2 hl2
  rw [List.length_replicate] at hl2
  have g4 : Fr V w w4 := g3.trans f4 fun c _ hc => (hV c).2 (.inr (.inr hc))
  replace hs0 : SlW 11 w4 a0 (List.replicate ms.length (cM m)) := hs0.fr f4 fun c hc hc' => hd02 c hc hc'
  replace hs1 : SlW 2 w4 a1 (List.replicate ps.length (cP m)) := hs1.fr f4 fun c hc hc' => hd12 c hc hc'
  simp only [hl2, Run_bindO_some, getL_zero, binV_int, intBin_lss, Int.lt_irrefl, decide_false, Run_condM_false, Run_ret, outK_exit, natBeq, decide_true, cond_true, Run_bind]
  have z7 : buildV #[(Value.slice none 0 0), (Value.slice none 0 0), (Value.slice none 0 0), (Value.slice none 0 0), (Value.slice none 0 0), (Value.slice none 0 0), (Value.int IntKind.i64 0)] [(0, 1, a0), (2, 1, a1), (4, 1, a2), (6, 1, Value.int IntKind.i64 m)] = some (.agg #[a0, .slice none 0 0, a1, .slice none 0 0, a2, .slice none 0 0, .int .i64 m]) := by
    simp [buildV, fillV_cell, c0, c1, c2]
  simp only [z7, Run_bindO_some, Run_bind]
  refine Run_newSt (cs := #[a0, .slice none 0 0, a1, .slice none 0 0, a2, .slice none 0 0, .int .i64 m]) rfl rfl (by simp [c0, c1, c2]) fun e w5 he hew f5 hele => ?_
  refine Run_new fun bu w6 hbu hbuw f6 hule => ?_
  refine Run_new fun bv w7 hbv hbvw f7 hvle => ?_
  refine Run_new fun bw w8 hbw hbww f8 hwle => ?_
  have s4 := g4.size
  have le := bk_lt he
  have lu := bk_lt hbu
  have lv := bk_lt hbv
  have lw := bk_lt hbw
  have sz1 := f1.size
  have hdlt := bk_lt hd
  have s12 := f2.size
  have s23 := f3.size
  have s34 := f4.size
  have s56 := f6.size
  have s67 := f7.size
  have s78 := f8.size
  have hde : d ≠ e := by omega
  have ru : SlW 11 w8 (.slice (some ⟨bu, 0, none⟩) 64 64) (List.replicate 64 (cM 0)) := ((room_sl hbu hbuw ZM_list rfl).fr f7 fun _ _ => id).fr f8 fun _ _ => id
  have rv : SlW 2 w8 (.slice (some ⟨bv, 0, none⟩) 64 64) (List.replicate 64 [Value.string ByteArray.empty, .string ByteArray.empty]) := (room_sl hbv hbvw ZP_list rfl).fr f8 fun _ _ => id
  have rw' : SlW 1 w8 (.slice (some ⟨bw, 0, none⟩) 64 64) (List.replicate 64 (cI 0)) := room_sl hbw hbww ZI_list rfl
  have f48 : Fr (fun _ => False) w4 w8 := ((f5.trans f6 fun _ _ => id).trans f7 fun _ _ => id).trans f8 fun _ _ => id
  have g8 : Fr V w w8 := g4.trans f48 fun _ _ h => h.elim
  refine Run_for 64 (fun i l w' => l = [.int .i64 i] ∧ SlW 11 w' (.slice (some ⟨bu, 0, none⟩) 64 64) (List.replicate i (cM m) ++ (List.replicate 64 (cM 0)).drop i) ∧ SlW 2 w' (.slice (some ⟨bv, 0, none⟩) 64 64) (List.replicate i (cP m) ++ (List.replicate 64 [Value.string ByteArray.empty, .string ByteArray.empty]).drop i) ∧ SlW 1 w' (.slice (some ⟨bw, 0, none⟩) 64 64) (List.replicate i (cI m) ++ (List.replicate 64 (cI 0)).drop i) ∧ Fr (fun c => c = bu ∨ c = bv ∨ c = bw) w8 w') ⟨rfl, by simpa using ru, by simpa using rv, by simpa using rw', Fr.refl _ _⟩ ?_ ?_
  · rintro i l w9 hi ⟨rfl, hu, hv, hw, f9⟩
    have wi := wrap_succ (n := i) (by omega)
    have hi' : (i : Int) < 64 := by omega
    obtain ⟨b, o, q1, q2, q3, q4⟩ := fillAt hu (by rw [List.length_replicate]; exact hi) rfl (fun e he => by rw [List.eq_of_mem_replicate he]; rfl) .i64
    cases q2
    simp only [Run_bindO_some, getL_zero, binV_int, intBin_lss, hi', decide_true, Run_condM_true, Run_bind, idxR_view hi, q1]
    rw [Run_stA (cs := (cM m).toArray) ⟨q3, rfl, by simpa using cM_all m⟩]
    have k9 : Fr (fun c => c = bu) w9 (sto w9 bu o (cM m)) := (Fr.refl (fun c => c = bu) w9).sto (.inl rfl) _ _
    have t9 : (sto w9 bu o (cM m)).heap.size = w9.heap.size := size_sto _ _ _ _
    generalize sto w9 bu o (cM m) = w10 at *
    have gx : Fr V w w10 := (g8.trans f9 fun c hc hx => by omega).trans k9 fun c hc hx => by omega
    refine (own_run hm (dpow w10 gx)).mono ?_
    rintro _ w11 ⟨rfl, f11⟩
    replace hv := (hv.fr k9 fun c hc hx => by cases hc; simp only at hx; omega).fr f11 fun _ _ => id
    obtain ⟨b, o', q1', q2', q3', q4'⟩ := fillAt hv (by rw [List.length_replicate]; exact hi) rfl (fun e he => by rw [List.eq_of_mem_replicate he]; rfl) .i64
    cases q2'
    simp only [Run_bindO_some, q1', Run_bind]
    rw [Run_stA (cs := #[.string (ownS m), .string hash]) ⟨q3', rfl, by simp⟩]
    have k12 : Fr (fun c => c = bv) w11 (sto w11 bv o' (cP m)) := (Fr.refl (fun c => c = bv) w11).sto (.inl rfl) _ _
    have e12 : sto w11 bv o' #[Value.string (ownS m), Value.string hash].toList = sto w11 bv o' (cP m) := rfl
    rw [e12]
    generalize sto w11 bv o' (cP m) = w12 at *
    replace hw := ((hw.fr k9 fun c hc hx => by cases hc; simp only at hx; omega).fr f11 fun _ _ => id).fr k12 fun c hc hx => by cases hc; simp only at hx; omega
    obtain ⟨b, o'', q1'', q2'', q3'', q4''⟩ := fillAt hw (by rw [List.length_replicate]; exact hi) rfl (fun e he => by rw [List.eq_of_mem_replicate he]; rfl) .i64
    cases q2''
    simp only [Run_bindO_some, q1'', Run_bind]
    rw [Run_st1 ⟨q3'', isCell_int _ _⟩]
    simp only [intBin_add, Run_bindO_some, Run_ret, wi]
    have k13 : Fr (fun c => c = bw) w12 (sto w12 bw o'' (cI m)) := (Fr.refl (fun c => c = bw) w12).sto (.inl rfl) _ _
    have e13 : sto w12 bw o'' [Value.int .i64 m] = sto w12 bw o'' (cI m) := rfl
    rw [e13]
    generalize sto w12 bw o'' (cI m) = w13 at *
    refine ⟨by trivial, ((q4.fr f11 fun _ _ => id).fr k12 fun c hc hx => by cases hc; simp only at hx; omega).fr k13 fun c hc hx => by cases hc; simp only at hx; omega, q4'.fr k13 fun c hc hx => by cases hc; simp only at hx; omega, q4'', ?_⟩
    exact (((f9.trans k9 fun c _ hc => .inl hc).trans f11 fun _ _ h => h.elim).trans k12 fun c _ hc => .inr (.inl hc)).trans k13 fun c _ hc => .inr (.inr hc)
  rintro l w9 ⟨rfl, hu, hv, hw, f9⟩
  have hlt : ¬ ((64 : Nat) : Int) < 64 := by decide
  have s89 := f9.size
  have f49 : Fr (fun _ => False) w4 w9 := f48.new f9 fun c hc => by omega
  have g9 : Fr V w w9 := g4.trans f49 fun _ _ h => h.elim
  replace hu : Sl 11 w9 (.slice (some ⟨bu, 0, none⟩) 64 64) (List.replicate 64 (cM m)) := by simpa using hu.1
  replace hv : Sl 2 w9 (.slice (some ⟨bv, 0, none⟩) 64 64) (List.replicate 64 (cP m)) := by simpa using hv.1
  replace hw : Sl 1 w9 (.slice (some ⟨bw, 0, none⟩) 64 64) (List.replicate 64 (cI m)) := by simpa using hw.1
  replace hs0 := hs0.fr f49 fun _ _ => id
  replace hs1 := hs1.fr f49 fun _ _ => id
  replace hs2 := hs2.fr f49 fun _ _ => id
  have he9 : bk w9 e = some [a0, .slice none 0 0, a1, .slice none 0 0, a2, .slice none 0 0, .int .i64 m] := f9.bk_some (f8.bk_some (f7.bk_some (f6.bk_some he id) id) id) (by omega)
  have hew9 : wr w9 e = true := by
    rw [f9.wr (by omega) (by omega), f8.wr (by omega) id, f7.wr (by omega) id, f6.wr (by omega) id]; exact hew
  simp only [Run_bindO_some, getL_zero, binV_int, intBin_lss, hlt, decide_false, Run_condM_false, Run_ret, outK_exit, natBeq, decide_true, cond_true, Run_bind, sliceR_view (k := 11) (n := 64) (by decide), sliceR_view (k := 2) (n := 64) (by decide), sliceR_view (k := 1) (n := 64) (by decide)]
  have hV0 : ∀ c, inB a0 c → c < w.heap.size := fun c hc => (hold c (.inl hc)).2
  have hV1 : ∀ c, inB a1 c → c < w.heap.size := fun c hc => (hold c (.inr (.inl hc))).2
  have hV2 : ∀ c, inB a2 c → c < w.heap.size := fun c hc => (hold c (.inr (.inr hc))).2
  refine Run_appG hs0 hu (by decide) rfl (by decide) (fun x hx => by rw [List.eq_of_mem_replicate hx]; exact cM_all m) (by simp only [List.length_replicate]; omega) fun r0 w10 n0 fr0 nb0 ip0 => ?_
  have t0 := fr0.size
  have he10 := fr0.bk_some he9 fun h => by have := hV0 e h; omega
  have hew10 : wr w10 e = true := by rw [fr0.wr (bk_lt he9) fun h => by have := hV0 e h; omega]; exact hew9
  have m0 := after_app hs0 n0 ip0
  rw [List.replicate_append_replicate] at n0
  replace hs1 := hs1.fr fr0 fun c hc h => hd01 c h hc
  replace hs2 := hs2.fr fr0 fun c hc h => hd02 c h hc
  replace hv := hv.fr fr0 fun c hc h => by cases hc; have := hV0 bv h; omega
  replace hw := hw.fr fr0 fun c hc h => by cases hc; have := hV0 bw h; omega
  have cr0 := n0.1.isCell
  simp only [fieldA_ptr, Run_bindO_some, Run_bind]
  rw [Run_st1 ⟨⟨⟨_, he10, by simp⟩, hew10⟩, cr0⟩]
  have x10 : Fr (fun c => c = e) w10 (sto w10 e (0 + 1) [r0]) := (Fr.refl (fun c => c = e) w10).sto (.inl rfl) _ _
  have he11 : bk (sto w10 e (0 + 1) [r0]) e = some [a0, r0, a1, .slice none 0 0, a2, .slice none 0 0, .int .i64 m] := by rw [bk_sto_eq, he10]; rfl
  have hew11 : wr (sto w10 e (0 + 1) [r0]) e = true := by rw [wr_sto]; exact hew10
  have y10 : (sto w10 e (0 + 1) [r0]).heap.size = w10.heap.size := size_sto _ _ _ _
  generalize sto w10 e (0 + 1) [r0] = w11 at *
  have hne : ∀ c, c < w.heap.size → ¬ c = e := fun c hc h => by omega
  have nb0' : ∀ c, inB r0 c → V c ∨ (w9.heap.size ≤ c ∧ c < w10.heap.size) := fun c hc => (nb0 c hc).imp (fun h => (hV c).2 (.inl h)) id
  replace m0 := m0.fr x10 fun c hc => hne c (hV0 c hc)
  have l0 := n0.1.fr x10 fun c hc h => by
    rcases nb0 c hc with h' | h'
    · exact hne c (hV0 c h') h
    · omega
  replace hs1 := hs1.fr x10 fun c hc => hne c (hV1 c hc)
  replace hs2 := hs2.fr x10 fun c hc => hne c (hV2 c hc)
  replace hv := hv.fr x10 fun c hc h => by cases hc; simp only at h; omega
  replace hw := hw.fr x10 fun c hc h => by cases hc; simp only at h; omega
  have g11 : Fr V w w11 := (g9.trans fr0 fun c _ hc => (hV c).2 (.inl hc)).trans x10 fun c hc h => by omega
  refine Run_appG hs1 hv (by decide) rfl (by decide) (fun x hx => by rw [List.eq_of_mem_replicate hx]; exact cP_all m) (by simp only [List.length_replicate]; omega) fun r1 w12 n1 fr1 nb1 ip1 => ?_
  have t1 := fr1.size
  have he12 := fr1.bk_some he11 fun h => by have := hV1 e h; omega
  have hew12 : wr w12 e = true := by rw [fr1.wr (bk_lt he11) fun h => by have := hV1 e h; omega]; exact hew11
  have m1 := after_app hs1 n1 ip1
  rw [List.replicate_append_replicate] at n1
  replace hs2 := hs2.fr fr1 fun c hc h => hd12 c h hc
  replace hw := hw.fr fr1 fun c hc h => by cases hc; have := hV1 bw h; omega
  replace m0 := m0.fr fr1 fun c hc h => hd01 c hc h
  replace l0 := l0.fr fr1 fun c hc h => by
    rcases nb0 c hc with h' | h'
    · exact hd01 c h' h
    · have := hV1 c h; omega
  have cr1 := n1.1.isCell
  rw [Run_st1 ⟨⟨⟨_, he12, by simp⟩, hew12⟩, cr1⟩]
  have x12 : Fr (fun c => c = e) w12 (sto w12 e (0 + 3) [r1]) := (Fr.refl (fun c => c = e) w12).sto (.inl rfl) _ _
  have he13 : bk (sto w12 e (0 + 3) [r1]) e = some [a0, r0, a1, r1, a2, .slice none 0 0, .int .i64 m] := by rw [bk_sto_eq, he12]; rfl
  have hew13 : wr (sto w12 e (0 + 3) [r1]) e = true := by rw [wr_sto]; exact hew12
  have y12 : (sto w12 e (0 + 3) [r1]).heap.size = w12.heap.size := size_sto _ _ _ _
  generalize sto w12 e (0 + 3) [r1] = w13 at *
  replace m0 := m0.fr x12 fun c hc => hne c (hV0 c hc)
  replace m1 := m1.fr x12 fun c hc => hne c (hV1 c hc)
  replace l0 := l0.fr x12 fun c hc h => by
    rcases nb0 c hc with h' | h'
    · exact hne c (hV0 c h') h
    · omega
  have l1 := n1.1.fr x12 fun c hc h => by
    rcases nb1 c hc with h' | h'
    · exact hne c (hV1 c h') h
    · omega
  replace hs2 := hs2.fr x12 fun c hc => hne c (hV2 c hc)
  replace hw := hw.fr x12 fun c hc h => by cases hc; simp only at h; omega
  have g13 : Fr V w w13 := (g11.trans fr1 fun c _ hc => (hV c).2 (.inr (.inl hc))).trans x12 fun c hc h => by omega
  refine Run_appG hs2 hw (by decide) rfl (by decide) (fun x hx => by rw [List.eq_of_mem_replicate hx]; exact cI_all m) (by simp only [List.length_replicate]; omega) fun r2 w14 n2 fr2 nb2 ip2 => ?_
  have t2 := fr2.size
  have he14 := fr2.bk_some he13 fun h => by have := hV2 e h; omega
  have hew14 : wr w14 e = true := by rw [fr2.wr (bk_lt he13) fun h => by have := hV2 e h; omega]; exact hew13
  have m2 := after_app hs2 n2 ip2
  rw [List.replicate_append_replicate] at n2
  replace m0 := m0.fr fr2 fun c hc h => hd02 c hc h
  replace m1 := m1.fr fr2 fun c hc h => hd12 c hc h
  replace l0 := l0.fr fr2 fun c hc h => by
    rcases nb0 c hc with h' | h'
    · exact hd02 c h' h
    · have := hV2 c h; omega
  replace l1 := l1.fr fr2 fun c hc h => by
    rcases nb1 c hc with h' | h'
    · exact hd12 c h' h
    · have := hV2 c h; omega
  have cr2 := n2.1.isCell
  rw [Run_st1 ⟨⟨⟨_, he14, by simp⟩, hew14⟩, cr2⟩]
  have x14 : Fr (fun c => c = e) w14 (sto w14 e (0 + 5) [r2]) := (Fr.refl (fun c => c = e) w14).sto (.inl rfl) _ _
  have he15 : bk (sto w14 e (0 + 5) [r2]) e = some [a0, r0, a1, r1, a2, r2, .int .i64 m] := by rw [bk_sto_eq, he14]; rfl
  have y14 : (sto w14 e (0 + 5) [r2]).heap.size = w14.heap.size := size_sto _ _ _ _
  generalize sto w14 e (0 + 5) [r2] = w15 at *
  replace m0 := m0.fr x14 fun c hc => hne c (hV0 c hc)
  replace m1 := m1.fr x14 fun c hc => hne c (hV1 c hc)
  replace m2 := m2.fr x14 fun c hc => hne c (hV2 c hc)
  replace l0 := l0.fr x14 fun c hc h => by
    rcases nb0 c hc with h' | h'
    · exact hne c (hV0 c h') h
    · omega
  replace l1 := l1.fr x14 fun c hc h => by
    rcases nb1 c hc with h' | h'
    · exact hne c (hV1 c h') h
    · omega
  have l2 := n2.1.fr x14 fun c hc h => by
    rcases nb2 c hc with h' | h'
    · exact hne c (hV2 c h') h
    · omega
  have g15 : Fr V w w15 := (g13.trans fr2 fun c _ hc => (hV c).2 (.inr (.inr hc))).trans x14 fun c hc h => by omega
  have hd1 : bk w1 d = some [.slice none 0 0, .slice none 0 0, .slice none 0 0, .slice none 0 0, .slice none 0 0, .slice none 0 0, .int .i64 0] := hd
  have A0 : ∀ c, inB a0 c → c ≠ d := fun c hc => by have := hV0 c hc; omega
  have A1 : ∀ c, inB a1 c → c ≠ d := fun c hc => by have := hV1 c hc; omega
  have A2 : ∀ c, inB a2 c → c ≠ d := fun c hc => by have := hV2 c hc; omega
  have E : ∀ c, c = e → c ≠ d := fun c hc => by rw [hc]; exact Ne.symm hde
  have gd : Fr (fun c => c ≠ d) w1 w15 := (((((((((f2.mono A0).trans (f3.mono A1) fun _ _ h => h).trans (f4.mono A2) fun _ _ h => h).trans (f49.mono fun _ h => h.elim) fun _ _ h => h).trans (fr0.mono A0) fun _ _ h => h).trans (x10.mono E) fun _ _ h => h).trans (fr1.mono A1) fun _ _ h => h).trans (x12.mono E) fun _ _ h => h).trans (fr2.mono A2) fun _ _ h => h).trans (x14.mono E) fun _ _ h => h
  have hd15 := gd.bk_some hd1 fun h => h rfl
  have hdw15 : wr w15 d = true := by rw [gd.wr (bk_lt hd1) fun h => h rfl]; exact hdw
  have call : (#[a0, r0, a1, r1, a2, r2, .int .i64 m] : Array Value).toList.all isCell = true := by simp [c0, c1, c2, cr0, cr1, cr2]
  rw [Run_rdM]
  refine ⟨_, ldA_bk he15 (by simp), ?_⟩
  have etk : (List.take 7 (List.drop 0 [a0, r0, a1, r1, a2, r2, .int .i64 m])).toArray = #[a0, r0, a1, r1, a2, r2, .int .i64 m] := rfl
  rw [etk, Run_stA (n := 7) ⟨⟨⟨_, hd15, by simp⟩, hdw15⟩, rfl, call⟩]
  have hd16 : bk (sto w15 d 0 #[a0, r0, a1, r1, a2, r2, .int .i64 m].toList) d = some [a0, r0, a1, r1, a2, r2, .int .i64 m] := by rw [bk_sto_eq, hd15]; rfl
  have x15 : Fr (fun c => c = d) w15 (sto w15 d 0 #[a0, r0, a1, r1, a2, r2, .int .i64 m].toList) := (Fr.refl (fun c => c = d) w15).sto (.inl rfl) _ _
  generalize sto w15 d 0 #[a0, r0, a1, r1, a2, r2, .int .i64 m].toList = w16 at *
  rw [Run_rdM]
  refine ⟨_, ldA_bk hd16 (by simp), ?_⟩
  rw [etk, Run_ret]
  have t16 := x15.size
  have gsz := gd.size
  refine ⟨[a0, r0, a1, r1, a2, r2, .int .i64 m], rfl, ⟨a0, r0, a1, r1, a2, r2, _, _, _, _, _, _, rfl, m0.fr x15 A0, l0.fr x15 fun c hc h => ?_, m1.fr x15 A1, l1.fr x15 fun c hc h => ?_, m2.fr x15 A2, l2.fr x15 fun c hc h => ?_, ⟨by omega, by omega, by omega, by omega, by omega, by omega⟩, ?_⟩, ?_⟩
  · rcases nb0 c hc with h' | h'
    · exact A0 c h' h
    · omega
  · rcases nb1 c hc with h' | h'
    · exact A1 c h' h
    · omega
  · rcases nb2 c hc with h' | h'
    · exact A2 c h' h
    · omega
  · have q0 := g9.size
    have q1 := x10.size
    have q2 := x12.size
    have q3 := x14.size
    rintro c (hc | hc | hc | hc | hc | hc)
    · exact .inl (.inl hc)
    · rcases nb0 c hc with h' | h'
      · exact .inl (.inl h')
      · exact .inr (by omega)
    · exact .inl (.inr (.inl hc))
    · rcases nb1 c hc with h' | h'
      · exact .inl (.inr (.inl h'))
      · exact .inr (by omega)
    · exact .inl (.inr (.inr hc))
    · rcases nb2 c hc with h' | h'
      · exact .inl (.inr (.inr h'))
      · exact .inr (by omega)
  · exact (g15.trans x15 fun c hc h => by omega).mono fun c hc => (hV c).1 hc

end Go.Proofs.YtiggkhmopnhfaaaDoor

/-
  The exact laws of layer 21, own lists, part C: answers that are kept as they are.
-/
namespace Go.Proofs.YtiggkhmopnhfaaaDoor
open Go.Lift
set_option linter.unusedSimpArgs false
set_option maxHeartbeats 2000000

section
variable {w w' : World}
theorem messages_run {v : Value} {l : List Ms} (h : Sl 11 w v (elMR l)) (hl : l.length ≤ 1048576) (hm : ∀ m ∈ l, m.fine) : Run (F.granarylaw21_messages v) w fun r w' => SlW 11 w' r (elMR l) ∧ New w w' r ∧ Fr (fun _ => False) w w' := by
  unfold F.granarylaw21_messages
  have hvl := h.lenL
  simp only [elMR_len] at hvl
  simp only [Run_bind]
  refine Run_for l.length (fun i s w' => ∃ r, s = [r, .int .i64 i] ∧ SlW 11 w' r (elMR (l.take i)) ∧ New w w' r ∧ Fr (fun _ => False) w w') ⟨_, rfl, by simpa [elMR] using SlW.nil 11 w, fun c hc => hc.elim, Fr.refl _ _⟩ ?_ ?_
  · rintro i s w1 hi ⟨r, rfl, hr, hn, f1⟩
    have ei : l[i]? = some l[i] := List.getElem?_eq_getElem hi
    generalize l[i] = m at ei
    have hmf := hm m (List.mem_of_getElem? ei)
    obtain ⟨p, p1, p2⟩ := (h.fr0 f1).rdA (by decide) (elMR_some ei) .i64
    have p2' : ldA 11 p w1 = some m.val := p2
    have wi := wrap_succ (n := i) (by omega)
    have hi' : (i : Int) < l.length := by omega
    simp only [getL_zero, getL_succ, hvl, binV_int, intBin_lss, hi', decide_true, Run_bindO_some, Run_condM_true, Run_bind, p1, Run_rdM, p2', Option.some.injEq, exists_eq_left']
    refine Run_app1 (k := 11) (by simp [Ms.val, Ms.cells]) hr (by decide) rfl (by decide) (by simpa [Ms.val] using Ms.cells_all6 hmf) (by simp; omega) fun r2 w2 hr2 f2 hin _ _ => ?_
    simp only [intBin_add, Run_bindO_some, Run_ret, wi]
    have s1 := f1.size
    refine ⟨r2, by trivial, ?_, fun c hc => ?_, f1.new f2 fun c hc => (hn c hc).1⟩
    · rw [List.take_add_one, ei]
      rw [show l.take i ++ (some m).toList = l.take i ++ [m] by simp, ← elMR_app]
      exact hr2
    · have := f2.size
      rcases hin c hc with h' | h'
      · have := hn c h'; omega
      · omega
  · rintro s w1 ⟨r, rfl, hr, hn, f1⟩
    rw [List.take_length] at hr
    simp [hvl]
    exact ⟨hr, hn, f1⟩
theorem elP_some {l : List Pr} {i : Nat} {m : Pr} (h : l[i]? = some m) : (elP l)[i]? = some [m.1, m.2] := by simp [elP, h]
theorem pairs_run {v : Value} {l : List Pr} (h : Sl 2 w v (elP l)) (hl : l.length ≤ 1048576) (hm : ∀ m ∈ l, StrP m) : Run (F.granarylaw21_pairs v) w fun r w' => SlW 2 w' r (elP l) ∧ New w w' r ∧ Fr (fun _ => False) w w' := by
  unfold F.granarylaw21_pairs
  have hvl := h.lenL
  simp only [elP_len] at hvl
  simp only [Run_bind]
  refine Run_for l.length (fun i s w' => ∃ r, s = [r, .int .i64 i] ∧ SlW 2 w' r (elP (l.take i)) ∧ New w w' r ∧ Fr (fun _ => False) w w') ⟨_, rfl, by simpa [elP] using SlW.nil 2 w, fun c hc => hc.elim, Fr.refl _ _⟩ ?_ ?_
  · rintro i s w1 hi ⟨r, rfl, hr, hn, f1⟩
    have ei : l[i]? = some l[i] := List.getElem?_eq_getElem hi
    generalize l[i] = m at ei
    have hmf := (hm m (List.mem_of_getElem? ei)).cell
    obtain ⟨p, p1, p2⟩ := (h.fr0 f1).rdA (by decide) (elP_some ei) .i64
    have p2' : ldA 2 p w1 = some (.agg #[m.1, m.2]) := p2
    have wi := wrap_succ (n := i) (by omega)
    have hi' : (i : Int) < l.length := by omega
    simp only [getL_zero, getL_succ, hvl, binV_int, intBin_lss, hi', decide_true, Run_bindO_some, Run_condM_true, Run_bind, p1, Run_rdM, p2', Option.some.injEq, exists_eq_left']
    refine Run_app1 (k := 2) (by simp) hr (by decide) rfl (by decide) (by simp [hmf.1, hmf.2]) (by simp; omega) fun r2 w2 hr2 f2 hin _ _ => ?_
    simp only [intBin_add, Run_bindO_some, Run_ret, wi]
    have s1 := f1.size
    refine ⟨r2, by trivial, ?_, fun c hc => ?_, f1.new f2 fun c hc => (hn c hc).1⟩
    · rw [List.take_add_one, ei]
      have : elP (l.take i ++ (some m).toList) = elP (l.take i) ++ [[m.1, m.2]] := by simp [elP]
      rw [this]
      exact hr2
    · have := f2.size
      rcases hin c hc with h' | h'
      · have := hn c h'; omega
      · omega
  · rintro s w1 ⟨r, rfl, hr, hn, f1⟩
    rw [List.take_length] at hr
    simp [hvl]
    exact ⟨hr, hn, f1⟩
theorem numbers_run {v : Value} {l : List Int} (h : Sl 1 w v (elI l)) (hl : l.length ≤ 1048576) : Run (F.granarylaw21_numbers v) w fun r w' => SlW 1 w' r (elI l) ∧ New w w' r ∧ Fr (fun _ => False) w w' := by
  unfold F.granarylaw21_numbers
  have hvl := h.lenL
  simp only [elI_len] at hvl
  simp only [Run_bind]
  refine Run_for l.length (fun i s w' => ∃ r, s = [r, .int .i64 i] ∧ SlW 1 w' r (elI (l.take i)) ∧ New w w' r ∧ Fr (fun _ => False) w w') ⟨_, rfl, by simpa [elI] using SlW.nil 1 w, fun c hc => hc.elim, Fr.refl _ _⟩ ?_ ?_
  · rintro i s w1 hi ⟨r, rfl, hr, hn, f1⟩
    have ei : l[i]? = some l[i] := List.getElem?_eq_getElem hi
    generalize l[i] = m at ei
    obtain ⟨p, p1, p2⟩ := (h.fr0 f1).rd1 (i := i) (y := .int .i64 m) (by simp [ei]) .i64
    have wi := wrap_succ (n := i) (by omega)
    have hi' : (i : Int) < l.length := by omega
    simp only [getL_zero, getL_succ, hvl, binV_int, intBin_lss, hi', decide_true, Run_bindO_some, Run_condM_true, Run_bind, p1, Run_rdM, p2, Option.some.injEq, exists_eq_left']
    refine Run_app1 (k := 1) (by simp) hr (by decide) rfl (by decide) (by simp) (by simp; omega) fun r2 w2 hr2 f2 hin _ _ => ?_
    simp only [intBin_add, Run_bindO_some, Run_ret, wi]
    have s1 := f1.size
    refine ⟨r2, by trivial, ?_, fun c hc => ?_, f1.new f2 fun c hc => (hn c hc).1⟩
    · rw [List.take_add_one, ei]
      have : elI (l.take i ++ (some m).toList) = elI (l.take i) ++ [[.int .i64 m]] := by simp [elI]
      rw [this]
      exact hr2
    · have := f2.size
      rcases hin c hc with h' | h'
      · have := hn c h'; omega
      · omega
  · rintro s w1 ⟨r, rfl, hr, hn, f1⟩
    rw [List.take_length] at hr
    simp [hvl]
    exact ⟨hr, hn, f1⟩

/-- e is, in w, what is kept of a call's answers, beside what they were; the k-th such, its blocks numbered. -/
structure LeftAt (w : World) (e : List Value) (k : Nat) (bt : Nat → Nat) : Prop where
  ex : ∃ (M WM P WP I WI : Value) (lm : List Ms) (lp : List Pr) (li : List Int), e = [M, WM, P, WP, I, WI] ∧
    SlW 11 w M (elMR lm) ∧ Sl 11 w WM (elMR lm) ∧ SlW 2 w P (elP lp) ∧ Sl 2 w WP (elP lp) ∧ SlW 1 w I (elI li) ∧ Sl 1 w WI (elI li) ∧
    (lm.length ≤ 1048576 ∧ lp.length ≤ 1048576 ∧ li.length ≤ 1048576) ∧ (∀ m ∈ lm, MStr m) ∧ (∀ p ∈ lp, StrP p) ∧
    (∀ c, inB M c → bt c = 4 * k + 1) ∧ (∀ c, inB P c → bt c = 4 * k + 2) ∧ (∀ c, inB I c → bt c = 4 * k + 3) ∧ (∀ c, (inB WM c ∨ inB WP c ∨ inB WI c) → bt c = 4 * k + 4)
def LeftsAt (w : World) (els : List (List Value)) (bt : Nat → Nat) : Prop := ∀ k e, els[k]? = some e → LeftAt w e k bt
theorem LeftAt.fr {e : List Value} {k : Nat} {bt : Nat → Nat} {F' : Nat → Prop} (h : LeftAt w e k bt) (f : Fr F' w w') (hd : ∀ c, 4 * k < bt c → bt c ≤ 4 * k + 4 → ¬ F' c) : LeftAt w' e k bt := by
  obtain ⟨M, WM, P, WP, I, WI, lm, lp, li, he, h1, h2, h3, h4, h5, h6, hl, hm, hp, b1, b2, b3, b4⟩ := h
  refine ⟨M, WM, P, WP, I, WI, lm, lp, li, he, h1.fr f fun c hc => hd c ?_ ?_, h2.fr f fun c hc => hd c ?_ ?_, h3.fr f fun c hc => hd c ?_ ?_, h4.fr f fun c hc => hd c ?_ ?_, h5.fr f fun c hc => hd c ?_ ?_, h6.fr f fun c hc => hd c ?_ ?_, hl, hm, hp, b1, b2, b3, b4⟩
  all_goals first
    | (rw [b1 c hc]; omega)
    | (rw [b2 c hc]; omega)
    | (rw [b3 c hc]; omega)
    | (rw [b4 c (.inl hc)]; omega)
    | (rw [b4 c (.inr (.inl hc))]; omega)
    | (rw [b4 c (.inr (.inr hc))]; omega)
theorem LeftsAt.fr {els : List (List Value)} {bt : Nat → Nat} {F' : Nat → Prop} (h : LeftsAt w els bt) (f : Fr F' w w') (hd : ∀ c, bt c ≠ 0 → ¬ F' c) : LeftsAt w' els bt := fun k e he => (h k e he).fr f fun c h1 _ => hd c (by omega)
theorem LeftAt.tag {e : List Value} {k j : Nat} {bt bt' : Nat → Nat} (h : LeftAt w e k bt) (hb : ∀ c, bt c ≠ 0 → bt' c = bt c + 4 * j) : LeftAt w e (k + j) bt' := by
  obtain ⟨M, WM, P, WP, I, WI, lm, lp, li, he, h1, h2, h3, h4, h5, h6, hl, hm, hp, b1, b2, b3, b4⟩ := h
  refine ⟨M, WM, P, WP, I, WI, lm, lp, li, he, h1, h2, h3, h4, h5, h6, hl, hm, hp, fun c hc => ?_, fun c hc => ?_, fun c hc => ?_, fun c hc => ?_⟩
  · have := b1 c hc; rw [hb c (by omega)]; omega
  · have := b2 c hc; rw [hb c (by omega)]; omega
  · have := b3 c hc; rw [hb c (by omega)]; omega
  · have := b4 c hc; rw [hb c (by omega)]; omega
theorem LeftAt.cells {e : List Value} {k : Nat} {bt : Nat → Nat} (h : LeftAt w e k bt) : e.length = 6 ∧ e.all isCell = true := by
  obtain ⟨M, WM, P, WP, I, WI, lm, lp, li, rfl, h1, h2, h3, h4, h5, h6, _⟩ := h
  exact ⟨rfl, by simp [h1.1.isCell, h2.isCell, h3.1.isCell, h4.isCell, h5.1.isCell, h6.isCell]⟩
/-- Two lists of such answers, one behind the other. -/
theorem LeftsAt.join {els fls : List (List Value)} {bt tg : Nat → Nat} (h : LeftsAt w els bt) (h' : LeftsAt w fls tg) (hd : ∀ c, tg c ≠ 0 → bt c = 0) :
    ∃ bt', LeftsAt w (els ++ fls) bt' ∧ ∀ c, bt' c ≠ 0 → bt c ≠ 0 ∨ tg c ≠ 0 := by
  refine ⟨fun c => if bt c ≠ 0 then bt c else if tg c ≠ 0 then tg c + 4 * els.length else 0, fun k e he => ?_, fun c hc => ?_⟩
  · by_cases hk : k < els.length
    · rw [List.getElem?_append_left hk] at he
      exact (h k e he).tag (j := 0) fun c hc => by simp [hc]
    · rw [List.getElem?_append_right (by omega)] at he
      have := (h' _ e he).tag (j := els.length) (bt' := fun c => if bt c ≠ 0 then bt c else if tg c ≠ 0 then tg c + 4 * els.length else 0) fun c hc => by simp [hc, hd c hc]
      rwa [show k - els.length + els.length = k by omega] at this
  · simp only at hc
    split at hc
    · rename_i h1; exact .inl h1
    · split at hc
      · rename_i h2; exact .inr h2
      · exact absurd rfl hc

theorem same_run {e : List Value} {k : Nat} {bt : Nat → Nat} (h : LeftAt w e k bt) : Run (F.granarylaw21_Left_same (.agg e.toArray)) w fun r w' => r = .bool true ∧ Fr (fun _ => False) w w' := by
  obtain ⟨M, WM, P, WP, I, WI, lm, lp, li, rfl, h1, h2, h3, h4, h5, h6, ⟨l1, l2, l3⟩, hm, hp, _⟩ := h
  unfold F.granarylaw21_Left_same
  simp only [Run_bind]
  refine Run_new fun d w1 hd _ f1 _ => ?_
  have hd1 : bk w1 d = some [M, WM, P, WP, I, WI] := hd
  simp [hd1]
  refine (sameMsgs_run (h1.1.fr0 f1) (h2.fr0 f1) l1 hm).mono ?_
  rintro _ w2 ⟨rfl, f2⟩
  have hd2 := f2.bk_some hd1 id
  have f02 : Fr (fun _ => False) w w2 := f1.trans f2 fun _ _ => id
  simp [hd2]
  refine (samePairs_run (h3.1.fr0 f02) (h4.fr0 f02) l2 hp).mono ?_
  rintro _ w3 ⟨rfl, f3⟩
  have hd3 := f3.bk_some hd2 id
  have f03 : Fr (fun _ => False) w w3 := f02.trans f3 fun _ _ => id
  simp [hd3]
  refine (sameInts_run (h5.1.fr0 f03) (h6.fr0 f03) l3).mono ?_
  rintro _ w4 ⟨rfl, f4⟩
  simp
  exact f03.trans f4 fun _ _ => id
end

end Go.Proofs.YtiggkhmopnhfaaaDoor

/-
  The exact laws of layer 21, own lists, part D: a step whose answers are kept.
-/
namespace Go.Proofs.YtiggkhmopnhfaaaDoor
open Go.Lift
set_option linter.unusedSimpArgs false
set_option maxHeartbeats 2000000

section
variable {rows : List (List Int)} {R : Nat} {wt n : Int} {w0 w w' w'' : World} {D o : Nat} {l : List Value} {st : Option (XS × RS)} {sent : List Ms} {ov rv sv : Value} {F' X : Nat → Prop}
/-- What a step on a desk comes to; X: what was handed out. -/
def Stepped (rows : List (List Int)) (wt n : Int) (w0 w w' : World) (D o : Nat) (l : List Value) (ov rv sv : Value) (F' X : Nat → Prop) : Prop :=
  ∃ l' st' sent' sv' F'', DK rows wt n w0 w' D o l' st' sent' ov rv sv' F'' ∧ l'.length = l.length ∧ (∀ j, (j < o ∨ o + 4 ≤ j) → l'[j]? = l[j]?) ∧ Fr (fun c => c = D ∨ F' c ∨ inB sv c) w w' ∧ (∀ c, F'' c → F' c ∨ w.heap.size ≤ c) ∧ (∀ c, inB sv' c → inB sv c ∨ w.heap.size ≤ c) ∧
    ∀ c, X c → w.heap.size ≤ c ∧ c < w'.heap.size ∧ ¬ F'' c ∧ ¬ inB sv' c
theorem Stepped.more {G X' : Nat → Prop} (h : Stepped rows wt n w0 w w' D o l ov rv sv F' X) (f : Fr G w' w'') (hG : ∀ c, G c → X c) (hX : ∀ c, X' c → X c ∨ (w'.heap.size ≤ c ∧ c < w''.heap.size)) (hDw : D < w.heap.size) : Stepped rows wt n w0 w w'' D o l ov rv sv F' X' := by
  obtain ⟨l', st', sent', sv', F'', h1, h2, h3, h4, h5, h6, h7⟩ := h
  have s := f.size
  have s4 := h4.size
  have hD : ¬ G D := fun hg => by
    have := h7 D (hG D hg)
    omega
  refine ⟨l', st', sent', sv', F'', h1.fr f hD (fun c hc => (h7 c (hG c hc)).2.2.1) (fun c hc => (h7 c (hG c hc)).2.2.2), h2, h3, h4.trans f fun c hc hg => by have := h7 c (hG c hg); omega, h5, h6, fun c hc => ?_⟩
  rcases hX c hc with h' | h'
  · obtain ⟨a1, a2, a3, a4⟩ := h7 c h'
    exact ⟨a1, by omega, a3, a4⟩
  · refine ⟨by omega, h'.2, fun hf => ?_, fun hi => ?_⟩
    · have := (h1.fb c hf).2.1; omega
    · have := (h1.sb c hi).2.1; omega
theorem left_one {M WM P WP I WI : Value} {lm : List Ms} {lp : List Pr} {li : List Int} (h1 : SlW 11 w M (elMR lm)) (h2 : Sl 11 w WM (elMR lm)) (h3 : SlW 2 w P (elP lp)) (h4 : Sl 2 w WP (elP lp)) (h5 : SlW 1 w I (elI li)) (h6 : Sl 1 w WI (elI li))
    (hl : lm.length ≤ 1048576 ∧ lp.length ≤ 1048576 ∧ li.length ≤ 1048576) (hm : ∀ m ∈ lm, MStr m) (hp : ∀ p ∈ lp, StrP p) (dMP : ∀ c, inB M c → ¬ inB P c) (dMI : ∀ c, inB M c → ¬ inB I c) (dPI : ∀ c, inB P c → ¬ inB I c)
    (dW : ∀ c, (inB WM c ∨ inB WP c ∨ inB WI c) → ¬ inB M c ∧ ¬ inB P c ∧ ¬ inB I c) :
    ∃ tg, LeftsAt w [[M, WM, P, WP, I, WI]] tg ∧ ∀ c, tg c ≠ 0 → (inB M c ∨ inB P c ∨ inB I c) ∨ (inB WM c ∨ inB WP c ∨ inB WI c) := by
  classical
  refine ⟨fun c => if inB M c then 1 else if inB P c then 2 else if inB I c then 3 else if (inB WM c ∨ inB WP c ∨ inB WI c) then 4 else 0, ?_, ?_⟩
  · intro k e he
    have hk : k = 0 := by
      have := (List.getElem?_eq_some_iff.1 he).1
      simp at this
      exact this
    subst hk
    simp only [List.getElem?_cons_zero, Option.some.injEq] at he
    subst he
    refine ⟨M, WM, P, WP, I, WI, lm, lp, li, rfl, h1, h2, h3, h4, h5, h6, hl, hm, hp, fun c hc => ?_, fun c hc => ?_, fun c hc => ?_, fun c hc => ?_⟩
    · simp [hc]
    · have : ¬ inB M c := fun h => dMP c h hc
      simp [hc, this]
    · have a1 : ¬ inB M c := fun h => dMI c h hc
      have a2 : ¬ inB P c := fun h => dPI c h hc
      simp [hc, a1, a2]
    · obtain ⟨a1, a2, a3⟩ := dW c hc
      simp [hc, a1, a2, a3]
  · intro c hc
    by_cases a1 : inB M c
    · exact .inl (.inl a1)
    by_cases a2 : inB P c
    · exact .inl (.inr (.inl a2))
    by_cases a3 : inB I c
    · exact .inl (.inr (.inr a3))
    by_cases a4 : (inB WM c ∨ inB WP c ∨ inB WI c)
    · exact .inr a4
    · simp [a1, a2, a3, a4] at hc

def LeftPost (rows : List (List Int)) (wt n : Int) (w0 w : World) (D o : Nat) (l : List Value) (ov rv sv : Value) (F' : Nat → Prop) (r : Value) (w' : World) : Prop :=
  ∃ lv els tg, r = .tuple #[lv, .bool true] ∧ SlW 6 w' lv els ∧ els.length ≤ 2 ∧ LeftsAt w' els tg ∧ (∀ c, inB lv c → tg c = 0) ∧ Stepped rows wt n w0 w w' D o l ov rv sv F' (fun c => inB lv c ∨ tg c ≠ 0)
theorem Stepped.same (h : DK rows wt n w0 w D o l st sent ov rv sv F') (f : Fr (fun _ => False) w w') (hX : ∀ c, X c → w.heap.size ≤ c ∧ c < w'.heap.size) : Stepped rows wt n w0 w w' D o l ov rv sv F' X :=
  ⟨l, st, sent, sv, F', h.fr0 f, rfl, fun _ _ => rfl, f.mono fun _ h => h.elim, fun c hc => .inl hc, fun c hc => .inl hc, fun c hc => ⟨(hX c hc).1, (hX c hc).2, fun hf => by have := (h.fb c hf).2.1; have := (hX c hc).1; omega, fun hi => by have := (h.sb c hi).2.1; have := (hX c hc).1; omega⟩⟩
theorem Stepped.pre (f : Fr (fun _ => False) w w') (h : Stepped rows wt n w0 w' w'' D o l ov rv sv F' X) : Stepped rows wt n w0 w w'' D o l ov rv sv F' X := by
  obtain ⟨l', st', sent', sv', F'', h1, h2, h3, h4, h5, h6, h7⟩ := h
  have s := f.size
  exact ⟨l', st', sent', sv', F'', h1, h2, h3, (f.mono fun _ h => h.elim).trans h4 fun _ _ h => h, fun c hc => (h5 c hc).imp id fun h => by omega, fun c hc => (h6 c hc).imp id fun h => by omega, fun c hc => by have := h7 c hc; exact ⟨by omega, this.2⟩⟩
theorem Stepped.mono {m : Int} (h : Stepped rows wt n w0 w w' D o l ov rv sv F' X) (hm : n ≤ m) : Stepped rows wt m w0 w w' D o l ov rv sv F' X := by
  obtain ⟨l', st', sent', sv', F'', h1, h2⟩ := h
  exact ⟨l', st', sent', sv', F'', h1.mono hm, h2⟩
theorem Turned.stepped (h : Turned rows wt n w0 w w' D o l ov rv sv F') : ∃ xv lst, SlW 11 w' xv (elMR lst) ∧ lst.length ≤ 1 ∧ (∀ m ∈ lst, MStr m) ∧ New w w' xv ∧ (∃ l', bk w' D = some l' ∧ l'[o + 3]? = some xv) ∧ Stepped rows wt n w0 w w' D o l ov rv sv F' (inB xv) := by
  obtain ⟨st', sent', sv', xv, F'', d2, f2, g3, g4, ⟨⟨lst, v1, v2, v3⟩, v4, v5⟩⟩ := h
  have lx := d2.lx
  simp only [List.length_set] at lx
  refine ⟨xv, lst, v1, v2, v3, v4, ⟨_, d2.blk, by rw [List.getElem?_set_ne (by omega), List.getElem?_set_self (by omega)]⟩, _, st', sent', sv', F'', d2, by simp, fun j hj => ?_, f2, g3, g4, fun c hc => ⟨(v4 c hc).1, (v4 c hc).2, v5 c hc⟩⟩
  rw [List.getElem?_set_ne (by omega), List.getElem?_set_ne (by omega)]

theorem left_run (cfg : Cfg rows R wt) (hn : n + 1 ≤ 4194304) (h : DK rows wt n w0 w D o l st sent ov rv sv F') (op : Op) (hop : MStr op.m) :
    Run (F.granarylaw21_desk_left (.pointer (some ⟨D, o, none⟩)) op.val) w fun r w' => LeftPost rows wt (n + 1) w0 w D o l ov rv sv F' r w' := by
  unfold F.granarylaw21_desk_left
  have hof := hop.fine
  simp [-ldA_ptr, Op.val, Op.cells, hof.1, hof.2]
  refine Run_new fun c w1 hc _ f1 hcle => ?_
  have hc1 : bk w1 c = some op.cells := by simpa [Op.cells] using hc
  have h1 := h.fr0 f1
  have lx := h.lx
  have hDl := bk_lt h.blk
  simp [-ldA_ptr, hc1, Op.cells]
  by_cases k5 : op.kind = 5
  · simp [-ldA_ptr, k5]
    refine Run_for 2 (fun i s w' => ∃ lv els tg, s = [lv, .int .i64 i] ∧ SlW 6 w' lv els ∧ els.length = i ∧ LeftsAt w' els tg ∧ (∀ c, inB lv c → tg c = 0) ∧ (∀ c, (inB lv c ∨ tg c ≠ 0) → w1.heap.size ≤ c ∧ c < w'.heap.size) ∧ Fr (fun _ => False) w1 w') ⟨_, [], fun _ => 0, rfl, SlW.nil _ _, rfl, fun k e he => by simp at he, fun c hc => hc.elim, fun c hc => hc.elim (fun h => h.elim) fun h => absurd rfl h, Fr.refl _ _⟩ ?_ ?_
    · rintro i s w2 hi ⟨lv, els, tg, rfl, hlv, hel, hle, hlt, hnew, f2⟩
      have h2 := h1.fr0 f2
      have hb2 := h2.blk
      have hl0 := h2.lo
      have hl1 := h2.lr
      obtain ⟨j, vn, e, ps, ms, b1, b2, b3, rr⟩ := two_report cfg h2.dx
      have hi' : (i : Int) < 2 := by omega
      have ws := wrap_succ (n := i) (by omega)
      simp [-ldA_ptr, hi', hi, hb2, hl0]
      refine rr.mono ?_
      rintro _ w3 ⟨f3, pv, mv', rfl, hp, hm, np, nm, dpm, cont⟩
      have hpc := hp.1.isCell
      have hmc := hm.1.isCell
      simp [-ldA_ptr]
      refine Run_newSt (cs := #[.int .i64 j, .int .i64 vn, pv, mv']) rfl rfl (by simp [hpc, hmc]) fun a w4 ha haw f4 hale => ?_
      have hb4 : bk w4 D = some l := f4.bk_some (f3.bk_some hb2 id) id
      simp [-ldA_ptr, hb4, hl1]
      refine (cont w4 f4).mono ?_
      rintro _ w5 ⟨f5, pv', mv2, rfl, hp', hm'⟩
      have hpc' := hp'.isCell
      have hmc' := hm'.isCell
      simp [-ldA_ptr]
      refine Run_newSt (cs := #[.int .i64 j, .int .i64 vn, pv', mv2]) rfl rfl (by simp [hpc', hmc']) fun a' w6 ha' haw' f6 _ => ?_
      have ha6 : bk w6 a = _ := f6.bk_some (f5.bk_some ha id) id
      have f36 : Fr (fun _ => False) w3 w6 := (f4.trans f5 fun _ _ => id).trans f6 fun _ _ => id
      simp [ha6, ha']
      refine (sameReport_run (hp.1.fr0 f36) (hm.1.fr0 f36) (hp'.fr0 f6) (hm'.fr0 f6) b1 b2 b3).mono ?_
      rintro _ w7 ⟨rfl, f7⟩
      have f37 : Fr (fun _ => False) w3 w7 := f36.trans f7 fun _ _ => id
      have ha7 : bk w7 a = some [.int .i64 j, .int .i64 vn, pv, mv'] := f7.bk_some ha6 id
      simp [num_run, ha7]
      refine (pairs_run (w := w7.drew) (hp.1.fr0 f37.drew) b1 b3).mono ?_
      rintro wpv w8 ⟨hwp, nwp, f8⟩
      have f38 : Fr (fun _ => False) w3 w8 := f37.drew.trans f8 fun _ _ => id
      have ha8 : bk w8 a = some [.int .i64 j, .int .i64 vn, pv, mv'] := f8.bk_some (w := w7.drew) ha7 id
      simp [ha8]
      refine (numbers_run (hm.1.fr0 f38) b2).mono ?_
      rintro wmv w9 ⟨hwm, nwm, f9⟩
      have f39 : Fr (fun _ => False) w3 w9 := f38.trans f9 fun _ _ => id
      have ha9 : bk w9 a = some [.int .i64 j, .int .i64 vn, pv, mv'] := f9.bk_some ha8 id
      have cwp := hwp.1.isCell
      have cwm := hwm.1.isCell
      simp [buildV, fillV_cell, hpc, hmc, cwp, cwm]
      have s3 := f3.size
      have s38 := f38.size
      have s9 := f9.size
      have s12 := f2.size
      have s37 := f37.size
      have s2' : Fr (fun _ => False) w2 w9 := f3.trans f39 fun _ _ => id
      have t7 : w7.drew.heap.size = w7.heap.size := rfl
      obtain ⟨tg1, q1, q2⟩ := left_one (w := w9) (lm := []) (SlW.nil 11 w9) (Sl.nil 11 w9) (hp.fr f39 fun _ _ => id) (hwp.1.fr0 f9) (hm.fr f39 fun _ _ => id) hwm.1 ⟨by simp, b1, b2⟩ (by simp) b3 (fun c hc => hc.elim) (fun c hc => hc.elim) dpm (fun c hc => ⟨id, fun hi => by have := np c hi; rcases hc with hc | hc | hc; exact hc.elim; (have := nwp c hc; omega); (have := nwm c hc; omega), fun hi => by have := nm c hi; rcases hc with hc | hc | hc; exact hc.elim; (have := nwp c hc; omega); (have := nwm c hc; omega)⟩)
      have q3 : ∀ c, tg1 c ≠ 0 → w2.heap.size ≤ c ∧ c < w9.heap.size := by
        intro c hc
        rcases q2 c hc with (h' | h' | h') | (h' | h' | h')
        · exact h'.elim
        · have := np c h'; omega
        · have := nm c h'; omega
        · exact h'.elim
        · have := nwp c h'; omega
        · have := nwm c h'; omega
      obtain ⟨bt, p1, p2⟩ := (hle.fr s2' fun _ _ => id).join q1 fun c hc => by
        by_cases h0 : tg c = 0
        · exact h0
        · have := hnew c (.inr h0); have := q3 c hc; omega
      have ec := (q1 0 _ rfl).cells
      refine Run_app1 (k := 6) (by simp) (hlv.fr s2' fun _ _ => id) (by decide) rfl (by decide) (by simp [hpc, hmc, cwp, cwm]) (by omega) fun lv' w10 hlv' f10 hin _ _ => ?_
      have s10 := f10.size
      have hla : ¬ inB lv a := fun hi => by
        have := hnew a (.inl hi)
        have := f4.size
        omega
      simp [ha9, ws]
      have hbt : ∀ c, bt c ≠ 0 → ¬ inB lv c := fun c hc hi => by
        rcases p2 c hc with h' | h'
        · exact h' (hlt c hi)
        · have := q3 c h'; have := hnew c (.inl hi); omega
      have s29 := s2'.size
      refine ⟨els ++ [[.slice none 0 0, .slice none 0 0, pv, wpv, mv', wmv]], hlv', by simp [hel], bt, p1.fr f10 hbt, fun c hc => ?_, fun c hc => ?_, (f2.trans s2' fun _ _ => id).new f10 fun c hc => (hnew c (.inl hc)).1⟩
      · by_cases h0 : bt c = 0
        · exact h0
        · rcases hin c hc with h' | h'
          · exact absurd h' (hbt c h0)
          · rcases p2 c h0 with h'' | h''
            · have := hnew c (.inr h''); omega
            · have := q3 c h''; omega
      · rcases hc with hc | hc
        · rcases hin c hc with h' | h'
          · have := hnew c (.inl h'); omega
          · omega
        · rcases p2 c hc with h'' | h''
          · have := hnew c (.inr h''); omega
          · have := q3 c h''; omega
    · rintro s w2 ⟨lv, els, tg, rfl, hlv, hel, hle, hlt, hnew, f2⟩
      simp
      exact ⟨lv, els, tg, rfl, hlv, by omega, hle, hlt, (Stepped.same (h1.mono (by omega)) f2 hnew).pre f1⟩
  · simp [-ldA_ptr, k5, Op.ldA hc1]
    refine (plays_run cfg hn h1 op hop).mono ?_
    rintro _ w2 ⟨rfl, ht⟩
    obtain ⟨xv, lst, v1, v2, v3, v4, ⟨l', hb2, hx⟩, hst⟩ := ht.stepped
    simp [-ldA_ptr, hb2, hx]
    have fd : Fr (fun _ => False) w2 w2.drew := (Fr.refl (fun _ => False) w2).drew
    refine (messages_run (w := w2.drew) (v1.1.fr0 fd) (by omega) fun m hm => (v3 m hm).fine).mono ?_
    rintro wv w3 ⟨hwv, nwv, f3⟩
    have f23 : Fr (fun _ => False) w2 w3 := fd.trans f3 fun _ _ => id
    have cx := v1.1.isCell
    have cw := hwv.1.isCell
    have hb3 : bk w3 D = some l' := f23.bk_some hb2 id
    simp [buildV, fillV_cell, cx, cw]
    refine Run_bsl (k := 6) (n := 1) (vs := [.agg #[xv, wv, .slice none 0 0, .slice none 0 0, .slice none 0 0, .slice none 0 0]]) rfl (by simp) rfl (by simp [size_zeroCells]) fun lv w4 hlv f4 nlv => ?_
    have hb4 : bk w4 D = some l' := f4.bk_some hb3 id
    simp [hb3, hx]
    have s23 := f23.size
    have s4 := f4.size
    have t2 : w2.drew.heap.size = w2.heap.size := rfl
    obtain ⟨tg, q1, q2⟩ := left_one (w := w4) (lm := lst) (lp := []) (li := []) ((v1.fr f23 fun _ _ => id).fr f4 fun _ _ => id) (hwv.1.fr0 f4) (SlW.nil 2 w4) (Sl.nil 2 w4) (SlW.nil 1 w4) (Sl.nil 1 w4) ⟨by omega, by simp, by simp⟩ v3 (by simp) (fun c _ h => h.elim) (fun c _ h => h.elim) (fun c _ h => h.elim)
      (fun c hc => ⟨fun hi => by rcases hc with hc | hc | hc; (have := nwv c hc; have := v4 c hi; omega); exact hc.elim; exact hc.elim, fun h => h.elim, fun h => h.elim⟩)
    have q3 : ∀ c, tg c ≠ 0 → inB xv c ∨ (w2.heap.size ≤ c ∧ c < w3.heap.size) := by
      intro c hc
      rcases q2 c hc with (h' | h' | h') | (h' | h' | h')
      · exact .inl h'
      · exact h'.elim
      · exact h'.elim
      · have := nwv c h'; exact .inr (by omega)
      · exact h'.elim
      · exact h'.elim
    refine ⟨lv, _, tg, rfl, hlv, by simp, q1, fun c hc => ?_, (hst.more (f23.trans f4 fun _ _ => id) (fun _ h => h.elim) (fun c hc => ?_) (bk_lt h1.blk)).pre f1⟩
    · by_cases h0 : tg c = 0
      · exact h0
      · have := nlv c hc
        rcases q3 c h0 with h' | h'
        · have := v4 c h'; omega
        · omega
    · rcases hc with hc | hc
      · have := nlv c hc; exact .inr (by omega)
      · rcases q3 c hc with h' | h'
        · exact .inl h'
        · exact .inr (by omega)
end

end Go.Proofs.YtiggkhmopnhfaaaDoor

/-
  The exact laws of layer 21, own lists, part E: two desks, and lists that were handed out.
-/
namespace Go.Proofs.YtiggkhmopnhfaaaDoor
open Go.Lift
set_option linter.unusedSimpArgs false
set_option maxHeartbeats 2000000

section
variable {rows : List (List Int)} {R : Nat} {wt n : Int} {w0 w w' w'' : World} {D o0 o1 : Nat} {G X : Nat → Prop}
/-- Two desks in a block; G: what was handed out. -/
def D2o (rows : List (List Int)) (wt n : Int) (w0 w : World) (D o0 o1 : Nat) (G : Nat → Prop) : Prop :=
  Fr (fun _ => False) w0 w ∧ (o0 + 4 ≤ o1 ∨ o1 + 4 ≤ o0) ∧ ∃ l st0 sent0 ov0 rv0 sv0 F0 st1 sent1 ov1 rv1 sv1 F1, DK rows wt n w0 w D o0 l st0 sent0 ov0 rv0 sv0 F0 ∧ DK rows wt n w0 w D o1 l st1 sent1 ov1 rv1 sv1 F1 ∧ (∀ c, (F0 c ∨ inB sv0 c) → ¬ (F1 c ∨ inB sv1 c)) ∧
    ∀ c, G c → w0.heap.size ≤ c ∧ c < w.heap.size ∧ c ≠ D ∧ ¬ (F0 c ∨ inB sv0 c) ∧ ¬ (F1 c ∨ inB sv1 c)
theorem D2.o (h : D2 rows wt n w0 w D) : D2o rows wt n w0 w D 0 4 (fun _ => False) := by
  obtain ⟨h0, l, st0, sent0, ov0, rv0, sv0, F0, st1, sent1, ov1, rv1, sv1, F1, _, h2, h3, h4⟩ := h
  exact ⟨h0, by omega, l, st0, sent0, ov0, rv0, sv0, F0, st1, sent1, ov1, rv1, sv1, F1, h2, h3, h4, fun _ h => h.elim⟩
theorem D2o.symm (h : D2o rows wt n w0 w D o0 o1 G) : D2o rows wt n w0 w D o1 o0 G := by
  obtain ⟨h0, ho, l, st0, sent0, ov0, rv0, sv0, F0, st1, sent1, ov1, rv1, sv1, F1, h2, h3, h4, h5⟩ := h
  exact ⟨h0, ho.symm, l, st1, sent1, ov1, rv1, sv1, F1, st0, sent0, ov0, rv0, sv0, F0, h3, h2, fun c h1 h2 => h4 c h2 h1, fun c hc => by obtain ⟨a, b, d, e, f⟩ := h5 c hc; exact ⟨a, b, d, f, e⟩⟩
theorem D2o.sub {G' : Nat → Prop} (h : D2o rows wt n w0 w D o0 o1 G) (hG : ∀ c, G' c → G c) : D2o rows wt n w0 w D o0 o1 G' := by
  obtain ⟨h0, ho, l, st0, sent0, ov0, rv0, sv0, F0, st1, sent1, ov1, rv1, sv1, F1, h2, h3, h4, h5⟩ := h
  exact ⟨h0, ho, l, st0, sent0, ov0, rv0, sv0, F0, st1, sent1, ov1, rv1, sv1, F1, h2, h3, h4, fun c hc => h5 c (hG c hc)⟩
theorem D2o.grow {F' : Nat → Prop} (h : D2o rows wt n w0 w D o0 o1 G) (f : Fr F' w w') (hF : ∀ c, F' c → G c) : D2o rows wt n w0 w' D o0 o1 (fun c => G c ∨ (w.heap.size ≤ c ∧ c < w'.heap.size)) := by
  obtain ⟨h0, ho, l, st0, sent0, ov0, rv0, sv0, F0, st1, sent1, ov1, rv1, sv1, F1, h2, h3, h4, h5⟩ := h
  have s := f.size
  have s0 := h0.size
  have a := fun c hc => h5 c (hF c hc)
  have hDl := bk_lt h2.blk
  refine ⟨h0.new f fun c hc => (a c hc).1, ho, l, st0, sent0, ov0, rv0, sv0, F0, st1, sent1, ov1, rv1, sv1, F1,
    h2.fr f (fun h => (a D h).2.2.1 rfl) (fun c hc hf => (a c hc).2.2.2.1 (.inl hf)) (fun c hc hf => (a c hc).2.2.2.1 (.inr hf)),
    h3.fr f (fun h => (a D h).2.2.1 rfl) (fun c hc hf => (a c hc).2.2.2.2 (.inl hf)) (fun c hc hf => (a c hc).2.2.2.2 (.inr hf)), h4, fun c hc => ?_⟩
  rcases hc with hc | hc
  · obtain ⟨b1, b2, b3⟩ := h5 c hc
    exact ⟨b1, by omega, b3⟩
  · refine ⟨by omega, hc.2, by omega, ?_, ?_⟩
    · rintro (hf | hf)
      · have := (h2.fb c hf).2.1; omega
      · have := (h2.sb c hf).2.1; omega
    · rintro (hf | hf)
      · have := (h3.fb c hf).2.1; omega
      · have := (h3.sb c hf).2.1; omega
theorem D2o.new (h : D2o rows wt n w0 w D o0 o1 G) {c : Nat} (hc : G c) : w0.heap.size ≤ c ∧ c < w.heap.size := by
  obtain ⟨h0, ho, l, st0, sent0, ov0, rv0, sv0, F0, st1, sent1, ov1, rv1, sv1, F1, h2, h3, h4, h5⟩ := h
  exact ⟨(h5 c hc).1, (h5 c hc).2.1⟩
theorem step_two {m : Int} {l : List Value} {st0 st1 : Option (XS × RS)} {sent0 sent1 : List Ms} {ov0 rv0 sv0 ov1 rv1 sv1 : Value} {F0 F1 : Nat → Prop} (h0 : Fr (fun _ => False) w0 w) (ho : o0 + 4 ≤ o1 ∨ o1 + 4 ≤ o0) (h2 : DK rows wt n w0 w D o0 l st0 sent0 ov0 rv0 sv0 F0) (h3 : DK rows wt n w0 w D o1 l st1 sent1 ov1 rv1 sv1 F1) (h4 : ∀ c, (F0 c ∨ inB sv0 c) → ¬ (F1 c ∨ inB sv1 c))
    (h5 : ∀ c, G c → w0.heap.size ≤ c ∧ c < w.heap.size ∧ c ≠ D ∧ ¬ (F0 c ∨ inB sv0 c) ∧ ¬ (F1 c ∨ inB sv1 c)) (hs : Stepped rows wt m w0 w w' D o0 l ov0 rv0 sv0 F0 X) (hm : n ≤ m) :
    D2o rows wt m w0 w' D o0 o1 (fun c => G c ∨ X c) ∧ Fr (fun c => ¬ G c) w w' := by
  obtain ⟨l', st', sent', sv', F'', g1, g2, g3, g4, g5, g6, g7⟩ := hs
  have s := g4.size
  have s0 := h0.size
  have hDl := bk_lt h2.blk
  have lx := h3.lx
  refine ⟨⟨h0.new g4 ?_, ho, l', st', sent', ov0, rv0, sv', F'', st1, sent1, ov1, rv1, sv1, F1, g1, ?_, ?_, ?_⟩, g4.mono ?_⟩
  · rintro c (hc | hc | hc)
    · rw [hc]; exact h2.dlo
    · exact (h2.fb c hc).1
    · exact (h2.sb c hc).1
  · refine DK.mono (h3.other g4 g1.blk g1.wr g2 (g3 _ (by omega)) (g3 _ (by omega)) (g3 _ (by omega)) ?_) hm
    rintro c (hc | hc | hc)
    · exact ⟨fun hf => (h3.fb c hf).2.2 hc, fun hf => (h3.sb c hf).2.2.1 hc⟩
    · have := h4 c (.inl hc)
      exact ⟨fun hf => this (.inl hf), fun hf => this (.inr hf)⟩
    · have := h4 c (.inr hc)
      exact ⟨fun hf => this (.inl hf), fun hf => this (.inr hf)⟩
  · rintro c (hc | hc)
    · rcases g5 c hc with h | h
      · exact h4 c (.inl h)
      · rintro (hf | hf)
        · have := (h3.fb c hf).2.1; omega
        · have := (h3.sb c hf).2.1; omega
    · rcases g6 c hc with h | h
      · exact h4 c (.inr h)
      · rintro (hf | hf)
        · have := (h3.fb c hf).2.1; omega
        · have := (h3.sb c hf).2.1; omega
  · rintro c (hc | hc)
    · obtain ⟨a1, a2, a3, a4, a5⟩ := h5 c hc
      refine ⟨a1, by omega, a3, ?_, a5⟩
      rintro (hf | hf)
      · rcases g5 c hf with h | h
        · exact a4 (.inl h)
        · omega
      · rcases g6 c hf with h | h
        · exact a4 (.inr h)
        · omega
    · obtain ⟨a1, a2, a3, a4⟩ := g7 c hc
      refine ⟨by omega, a2, by omega, ?_, ?_⟩
      · rintro (hf | hf)
        · exact a3 hf
        · exact a4 hf
      · rintro (hf | hf)
        · have := (h3.fb c hf).2.1; omega
        · have := (h3.sb c hf).2.1; omega
  · rintro c (hc | hc | hc) hg
    · exact (h5 c hg).2.2.1 hc
    · exact (h5 c hg).2.2.2.1 (.inl hc)
    · exact (h5 c hg).2.2.2.1 (.inr hc)
theorem D2o.plays (cfg : Cfg rows R wt) (hn : n + 1 ≤ 4194304) (h : D2o rows wt n w0 w D o0 o1 G) (op : Op) (hop : MStr op.m) :
    Run (F.granarylaw21_desk_plays (.pointer (some ⟨D, o0, none⟩)) op.val) w fun r w' => r = .bool true ∧ D2o rows wt (n + 1) w0 w' D o0 o1 G ∧ Fr (fun c => ¬ G c) w w' := by
  obtain ⟨h0, ho, l, st0, sent0, ov0, rv0, sv0, F0, st1, sent1, ov1, rv1, sv1, F1, h2, h3, h4, h5⟩ := h
  refine (plays_run cfg hn h2 op hop).mono ?_
  rintro r w1 ⟨rfl, ht⟩
  obtain ⟨xv, lst, v1, v2, v3, v4, _, hst⟩ := ht.stepped
  obtain ⟨a, b⟩ := step_two h0 ho h2 h3 h4 h5 hst (by omega)
  exact ⟨rfl, a.sub fun c hc => .inl hc, b⟩
theorem D2o.left (cfg : Cfg rows R wt) (hn : n + 1 ≤ 4194304) (h : D2o rows wt n w0 w D o0 o1 G) (op : Op) (hop : MStr op.m) :
    Run (F.granarylaw21_desk_left (.pointer (some ⟨D, o0, none⟩)) op.val) w fun r w' => ∃ lv els tg, r = .tuple #[lv, .bool true] ∧ SlW 6 w' lv els ∧ els.length ≤ 2 ∧ LeftsAt w' els tg ∧ (∀ c, inB lv c → tg c = 0) ∧ (∀ c, (inB lv c ∨ tg c ≠ 0) → w.heap.size ≤ c ∧ c < w'.heap.size) ∧
      D2o rows wt (n + 1) w0 w' D o0 o1 (fun c => G c ∨ (inB lv c ∨ tg c ≠ 0)) ∧ Fr (fun c => ¬ G c) w w' := by
  obtain ⟨h0, ho, l, st0, sent0, ov0, rv0, sv0, F0, st1, sent1, ov1, rv1, sv1, F1, h2, h3, h4, h5⟩ := h
  refine (left_run cfg hn h2 op hop).mono ?_
  rintro r w1 ⟨lv, els, tg, rfl, e1, e2, e3, e4, hst⟩
  obtain ⟨a, b⟩ := step_two h0 ho h2 h3 h4 h5 hst (by omega)
  obtain ⟨l', st', sent', sv', F'', _, _, _, _, _, _, g7⟩ := hst
  exact ⟨lv, els, tg, rfl, e1, e2, e3, e4, fun c hc => ⟨(g7 c hc).1, (g7 c hc).2.1⟩, a, b⟩

/-- All that was kept. -/
structure AllOk (w : World) (v : Value) (els : List (List Value)) (bt : Nat → Nat) : Prop where
  sl : SlW 6 w v els
  lefts : LeftsAt w els bt
  off : ∀ c, inB v c → bt c = 0
theorem AllOk.fr {v : Value} {els : List (List Value)} {bt : Nat → Nat} {F' : Nat → Prop} (h : AllOk w v els bt) (f : Fr F' w w') (hd : ∀ c, (inB v c ∨ bt c ≠ 0) → ¬ F' c) : AllOk w' v els bt :=
  ⟨h.sl.fr f fun c hc => hd c (.inl hc), h.lefts.fr f fun c hc => hd c (.inr hc), h.off⟩

/-- One op, at both desks: the answers are kept. -/
theorem both_run (cfg : Cfg rows R wt) {i : Nat} (hi : i ≤ 1048576) {sv iv : Value} {op : Op} {p : Value} (hp1 : idxA 14 sv iv = some p) (hp2 : ∀ w', Fr (fun _ => False) w0 w' → ldA 14 p w' = some op.val) (hop : MStr op.m) {v : Value} {els : List (List Value)} {bt : Nat → Nat} (ha : AllOk w v els bt) (hl : els.length ≤ 4 * i)
    (h : D2o rows wt ((2 * i : Nat) : Int) w0 w D 0 4 (fun c => inB v c ∨ bt c ≠ 0)) {Q : Out → World → Prop} {step : List Value → M Out}
    (hstep : ∀ l, step l = bindO (binV BinOp.lss (getL l 1) (Value.int IntKind.i64 2)) fun x17 =>
          condM x17 (
            drewM <|
            bindO (idxR 2 4 (.pointer (some ⟨D, 0, none⟩)) (getL l 1)) fun x18 =>
            bindO (idxA 14 sv iv) fun x19 =>
            M.bind (rdM (ldA 14 x19)) fun x20 =>
            M.bind (F.granarylaw21_desk_left x18 x20) fun x21 =>
            bindO (extV 0 x21) fun x22 =>
            bindO (extV 1 x21) fun x23 =>
            bindO (notV x23) fun x24 =>
            condM x24 (
              M.ret (Out.ret (Value.bool false))) (
              M.bind (appM 71 6 144 #[(Value.slice none 0 0), (Value.slice none 0 0), (Value.slice none 0 0), (Value.slice none 0 0), (Value.slice none 0 0), (Value.slice none 0 0)] (getL l 0) x22) fun x25 =>
              bindO (binV BinOp.add (getL l 1) (Value.int IntKind.i64 1)) fun x26 =>
              M.ret (Out.norm [x25, x26]))) (
            M.ret (Out.exit 2 [(getL l 0), (getL l 1)])))
    (q : ∀ v' els' bt' w', AllOk w' v' els' bt' → els'.length ≤ 4 * (i + 1) → D2o rows wt ((2 * (i + 1) : Nat) : Int) w0 w' D 0 4 (fun c => inB v' c ∨ bt' c ≠ 0) → Q (.exit 2 [v', .int .i64 2]) w') : Run (loopM step [v, .int .i64 0]) w Q := by
  refine Run_for 2 (fun k s w' => ∃ v els bt, s = [v, .int .i64 k] ∧ AllOk w' v els bt ∧ els.length ≤ 4 * i + 2 * k ∧ D2o rows wt ((2 * i + k : Nat) : Int) w0 w' D 0 4 (fun c => inB v c ∨ bt c ≠ 0)) ⟨v, els, bt, rfl, ha, by omega, h⟩ ?_ ?_
  · rintro k s w1 hk ⟨v, els, bt, rfl, ha, hl, h⟩
    rw [hstep]
    have fd : Fr (fun _ => False) w1 w1.drew := (Fr.refl (fun _ => False) w1).drew
    have h1 : D2o rows wt ((2 * i + k : Nat) : Int) w0 w1.drew D (k * 4) (4 - k * 4) (fun c => inB v c ∨ bt c ≠ 0) := by
      have := (h.grow fd fun _ h => h.elim).sub (G' := fun c => inB v c ∨ bt c ≠ 0) fun c hc => .inl hc
      have hk' : k = 0 ∨ k = 1 := by omega
      rcases hk' with rfl | rfl
      · exact this
      · exact this.symm
    have ha1 := ha.fr fd fun _ _ => id
    have hk' : (k : Int) < 2 := by omega
    have ws := wrap_succ (n := k) (by omega)
    have hpd := hp2 w1.drew h1.1
    simp [-ldA_ptr, hk', hk, hp1, hpd]
    refine (h1.left cfg (by omega) op hop).mono ?_
    rintro _ w2 ⟨lv, els', tg, rfl, e1, e2, e3, e4, e5, d2, f2⟩
    simp
    have ha2 := ha1.fr f2 fun c hc hn => hn hc
    have hcell : ∀ e ∈ els', e.all isCell = true := fun e he => by
      obtain ⟨j, hj⟩ := List.getElem?_of_mem he
      exact (e3 j e hj).cells.2
    refine Run_appM ha2.sl e1.1 (by decide) rfl (by decide) hcell (by omega) fun r w3 hr f3 hin => ?_
    simp [ws]
    have d3 := d2.grow f3 fun c hc => .inl (.inl hc)
    have s2 := f2.size
    have t1 : w1.drew.heap.size = w1.heap.size := rfl
    obtain ⟨bt', p1, p2⟩ := (ha2.lefts.fr f3 fun c hc hi => hc (ha2.off c hi)).join (e3.fr f3 fun c hc hi => by have := (e5 c (.inr hc)).1; have := (h1.new (.inl hi)).2; omega) fun c hc => by
      by_cases h0 : bt c = 0
      · exact h0
      · have := (e5 c (.inr hc)).1; have := (h1.new (.inr h0)).2; omega
    refine ⟨els ++ els', ⟨bt', ⟨hr, p1, fun c hc => ?_⟩, ?_⟩⟩
    · by_cases h0 : bt' c = 0
      · exact h0
      · rcases hin c hc with h' | h'
        · rcases p2 c h0 with h'' | h''
          · exact absurd (ha2.off c h') h''
          · have := (e5 c (.inr h'')).1; have := (h1.new (.inl h')).2; omega
        · rcases p2 c h0 with h'' | h''
          · have := (d2.new (.inl (.inr h''))).2; omega
          · have := (e5 c (.inr h'')).2; omega
    · refine ⟨by simp; omega, ?_⟩
      have e : ((2 * i + (k + 1) : Nat) : Int) = ((2 * i + k : Nat) : Int) + 1 := by omega
      have d4 : D2o rows wt (((2 * i + k : Nat) : Int) + 1) w0 w3 D (k * 4) (4 - k * 4) (fun c => inB r c ∨ bt' c ≠ 0) := d3.sub fun c hc => by
        rcases hc with hc | hc
        · rcases hin c hc with h' | h'
          · exact .inl (.inl (.inl h'))
          · exact .inr h'
        · rcases p2 c hc with h' | h'
          · exact .inl (.inl (.inr h'))
          · exact .inl (.inr (.inr h'))
      have d5 : D2o rows wt (((2 * i + k : Nat) : Int) + 1) w0 w3 D 0 4 (fun c => inB r c ∨ bt' c ≠ 0) := by
        have hk' : k = 0 ∨ k = 1 := by omega
        rcases hk' with rfl | rfl
        · exact d4
        · exact d4.symm
      first
        | (rw [e]; exact d5)
        | (have e' := e; push_cast at d5 e' ⊢; exact d5)
        | done
  · rintro s w1 ⟨v, els, bt, rfl, ha, hl, h⟩
    rw [hstep]
    simp
    exact q v els bt w1 ha (by omega) h
end

end Go.Proofs.YtiggkhmopnhfaaaDoor

/-
  The exact laws of layer 21, own lists, part F: two exporters' answers stay as they are; each is the caller's own.
-/
namespace Go.Proofs.YtiggkhmopnhfaaaDoor
open Go.Lift
set_option linter.unusedSimpArgs false
set_option maxHeartbeats 4000000

section
variable {rows : List (List Int)} {R : Nat} {wt n : Int} {w0 w w' w'' : World} {D o0 o1 : Nat} {G X : Nat → Prop}
/-- A book of what a caller wrote full. -/
structure BookOk (w : World) (v : Value) (hels : List (List Value)) (H : Nat → Prop) : Prop where
  sl : SlW 7 w v hels
  held : ∀ (j : Nat) (e : List Value), hels[j]? = some e → HeldAt w e (-1 - (j : Int)) H
  off : ∀ c, inB v c → ¬ H c
theorem BookOk.fr {v : Value} {hels : List (List Value)} {H F' : Nat → Prop} (h : BookOk w v hels H) (f : Fr F' w w') (hd : ∀ c, (inB v c ∨ H c) → ¬ F' c) : BookOk w' v hels H :=
  ⟨h.sl.fr f fun c hc => hd c (.inl hc), fun j e he => (h.held j e he).fr f fun c hc => hd c (.inr hc), h.off⟩
theorem BookOk.nil (w : World) : BookOk w (.slice none 0 0) [] (fun _ => False) := ⟨SlW.nil _ _, fun j e he => by simp at he, fun c hc => hc.elim⟩
/-- One more. -/
theorem BookOk.push {v : Value} {hels : List (List Value)} {H K : Nat → Prop} (h : BookOk w v hels H) {e : List Value} (he : HeldAt w e (-1 - (hels.length : Int)) K) (hK : ∀ c, K c → ¬ inB v c) (hKl : ∀ c, (K c ∨ H c) → c < w.heap.size) (hl : hels.length ≤ 16777216) {P : World → Value → World → Prop} {te te' : TypeId}
    (q : ∀ r w', BookOk w' r (hels ++ [e]) (fun c => H c ∨ K c) → Fr (inB v) w w' → (∀ c, inB r c → inB v c ∨ (w.heap.size ≤ c ∧ c < w'.heap.size)) → ∀ w1, P w1 r w') :
    Run (bslM te' 1 (Builtin.zeroCells #[(Value.slice none 0 0), (Value.slice none 0 0), (Value.slice none 0 0), (Value.slice none 0 0), (Value.slice none 0 0), (Value.slice none 0 0), (Value.int IntKind.i64 0)] 1) [(0, 7, .agg e.toArray)]) w fun a w1 => Run (appM te 7 152 #[(Value.slice none 0 0), (Value.slice none 0 0), (Value.slice none 0 0), (Value.slice none 0 0), (Value.slice none 0 0), (Value.slice none 0 0), (Value.int IntKind.i64 0)] v a) w1 fun r w' => P w1 r w' := by
  refine Run_app1 (k := 7) (by simp [he.len]) h.sl (by decide) rfl (by decide) (by simpa using he.cells) (by omega) fun r w1 hr f hin w2 _ => q r w1 ⟨by simpa using hr, fun j e' hj => ?_, fun c hc => ?_⟩ f hin w2
  · by_cases hjl : j < hels.length
    · rw [List.getElem?_append_left hjl] at hj
      exact ((h.held j e' hj).fr f fun c hc hi => h.off c hi hc).mono fun c hc => .inl hc
    · have := (List.getElem?_eq_some_iff.1 hj).1
      simp at this
      have hj' : j = hels.length := by omega
      subst hj'
      simp at hj
      subst hj
      exact (he.fr f fun c hc hi => hK c hc hi).mono fun c hc => .inr hc
  · rcases hin c hc with h' | h'
    · rintro (h'' | h'')
      · exact h.off c h' h''
      · exact hK c h'' h'
    · intro h''
      have := hKl c h''.symm
      omega

theorem untouched_run {C : Clu} {nv sv : Value} {pvs : List Value} {ops : List Op} (hN : Nodes w nv C.nodes pvs) (hF : Fits C) (hG : bk w 0 = some greatV) (hpow : bk w 1 = some powV) (hs : Sl 14 w sv (elO ops)) (hm : ∀ op ∈ ops, MStr op.m) (hl : ops.length ≤ 1048576) :
    Run (F.granarylaw21_untouched (C.val nv) sv) w fun r w' => r = .bool true ∧ Fr (fun _ => False) w w' := by
  unfold F.granarylaw21_untouched
  have hsl := hs.lenL
  simp at hsl
  have hnvc := hN.sl.isCell
  have hw1 := bk_lt hpow
  simp [Clu.val]
  refine Run_new fun b1 w1 hb1 _ f1 _ => ?_
  have hb1' : bk w1 b1 = some (C.cells nv) := by simpa using hb1
  refine Run_new fun D w2 hD hDw f2 hDle => ?_
  have hD2 : bk w2 D = some [.pointer none, .pointer none, .slice none 0 0, .slice none 0 0, .pointer none, .pointer none, .slice none 0 0, .slice none 0 0] := by simpa using hD
  have hb2 : bk w2 b1 = some (C.cells nv) := f2.bk_some hb1' id
  have s1 := f1.size
  have f02 : Fr (fun _ => False) w w2 := f1.trans f2 fun _ _ => id
  have hbl := bk_lt hb1'
  simp [-ldA_ptr, Clu.ldA6 hb2]
  refine (two_begins hN hF hG f02 hD2 hDw (by omega) hb2 (by omega)).mono ?_
  rintro _ w3 ⟨rfl, hb3, hrun⟩
  simp [-ldA_ptr, Clu.ldA6 hb3]
  refine hrun.mono ?_
  rintro _ w4 ⟨rfl, rows, R, wt, cfg, d4⟩
  simp [-ldA_ptr]
  refine Run_for ops.length (fun i s w' => ∃ v els bt, s = [v, .int .i64 i] ∧ AllOk w' v els bt ∧ els.length ≤ 4 * i ∧ D2o rows wt ((2 * i : Nat) : Int) w w' D 0 4 (fun c => inB v c ∨ bt c ≠ 0)) ⟨.slice none 0 0, [], fun _ => 0, rfl, ⟨SlW.nil _ _, fun k e he => by simp at he, fun c hc => rfl⟩, by simp, d4.o.sub fun c hc => hc.elim (fun h => h.elim) fun h => h rfl⟩ ?_ ?_
  · rintro i s w5 hi ⟨v, els, bt, rfl, ha, hel, d5⟩
    have ei : ops[i]? = some ops[i] := List.getElem?_eq_getElem hi
    generalize ops[i] = op at ei
    have hop := hm op (List.mem_of_getElem? ei)
    obtain ⟨bo, oo, lo, i1, i2, i3, i4, i5⟩ := hs.rd (by decide) (elO_some ei) .i64
    have gA : ∀ w', Fr (fun _ => False) w w' → ldA 14 (.pointer (some ⟨bo, oo, none⟩)) w' = some op.val := fun w' f => by rw [ldA_bk (f.bk_some i2 id) i3, i4]; rfl
    have hi' : (i : Int) < ops.length := by omega
    have ws := wrap_succ (n := i) (by omega)
    simp only [getL_zero, getL_succ, hsl, binV_int, intBin_lss, hi', decide_true, Run_bindO_some, Run_condM_true, Run_bind]
    refine both_run cfg (by omega) i1 gA hop ha hel d5 (fun l => rfl) ?_
    intro v' els' bt' w6 ha6 hel6 d6
    have hvl := ha6.sl.1.lenL
    simp only [outK_exit, natBeq, decide_true, cond_true, Run_bind, getL_zero]
    refine Run_for els'.length (fun k s w' => s = [.int .i64 k] ∧ Fr (fun _ => False) w6 w') ⟨rfl, Fr.refl _ _⟩ ?_ ?_
    · rintro k s w7 hk ⟨rfl, f7⟩
      have ek : els'[k]? = some els'[k] := List.getElem?_eq_getElem hk
      generalize els'[k] = e at ek
      have ha7 := ha6.fr f7 fun _ _ => id
      obtain ⟨p, p1, p2⟩ := ha7.sl.1.rdA (by decide) ek .i64
      have hk' : (k : Int) < els'.length := by omega
      have wk := wrap_succ (n := k) (by omega)
      simp [-ldA_ptr, hvl, hk, hk', p1, p2]
      refine (same_run (ha7.lefts k e ek)).mono ?_
      rintro _ w8 ⟨rfl, f8⟩
      simp [wk]
      exact f7.trans f8 fun _ _ => id
    rintro s w7 ⟨rfl, f7⟩
    simp [hvl, ws]
    refine ⟨els', bt', ha6.fr f7 fun _ _ => id, by omega, ?_⟩
    have d7 := (d6.grow f7 fun _ h => h.elim).sub (G' := fun c => inB v' c ∨ bt' c ≠ 0) fun c hc => .inl hc
    have e : ((2 * (i + 1) : Nat) : Int) = 2 * ((i : Int) + 1) := by omega
    rw [e] at d7
    exact d7
  rintro s w5 ⟨v, els, bt, rfl, ha, hel, d5⟩
  have hvl := ha.sl.1.lenL
  simp [hsl]
  refine Run_for els.length (fun k s w' => ∃ bv hels H, s = [bv, .int .i64 k] ∧ BookOk w' bv hels H ∧ hels.length = k ∧ SlW 6 w' v els ∧ (∀ j e, k ≤ j → els[j]? = some e → LeftAt w' e j bt) ∧ (∀ c, H c → bt c ≤ 4 * k ∧ ¬ inB v c) ∧ (∀ c, inB bv c → bt c = 0 ∧ ¬ inB v c) ∧
    D2o rows wt ((2 * ops.length : Nat) : Int) w w' D 0 4 (fun c => (inB v c ∨ bt c ≠ 0) ∨ (inB bv c ∨ H c))) ⟨_, [], fun _ => False, rfl, BookOk.nil _, rfl, ha.sl, fun j e _ he => ha.lefts j e he, fun c hc => hc.elim, fun c hc => hc.elim, d5.sub fun c hc => hc.elim id fun h => h.elim (fun h => h.elim) fun h => h.elim⟩ ?_ ?_
  · rintro k s w6 hk ⟨bv, hels, H, rfl, hb, hlen, hsl6, hleft, hH, hbv, d6⟩
    have ek : els[k]? = some els[k] := List.getElem?_eq_getElem hk
    generalize els[k] = e at ek
    obtain ⟨M, WM, P, WP, I, WI, lm, lp, li, rfl, a1, a2, a3, a4, a5, a6, ⟨l1, l2, l3⟩, hms, hps, t1, t2, t3, t4⟩ := hleft k e (Nat.le_refl _) ek
    obtain ⟨p, p1, p2⟩ := hsl6.1.rdF ek .i64
    obtain ⟨q0, x0, y0⟩ := p2 0 (by decide)
    obtain ⟨q2, x2, y2⟩ := p2 2 (by decide)
    obtain ⟨q4, x4, y4⟩ := p2 4 (by decide)
    simp only [List.getElem?_cons_zero, List.getElem?_cons_succ] at y0 y2 y4
    have y0' : ld1 q0 w6.drew = some M := y0
    have y2' : ld1 q2 w6.drew = some P := y2
    have y4' : ld1 q4 w6.drew = some I := y4
    have hk' : (k : Int) < els.length := by omega
    have wk := wrap_succ (n := k) (by omega)
    have wm : IntKind.i64.wrap (-1 - (k : Int)) = -1 - (k : Int) := wrap_small (by omega) (by omega)
    simp only [getL_zero, getL_succ, hvl, binV_int, intBin_lss, hk', decide_true, Run_bindO_some, Run_condM_true, Run_bind, Run_drewM, p1, x0, x2, x4, Run_rdM, y0', y2', y4', Option.some.injEq, exists_eq_left', intBin_sub, wm]
    have fd : Fr (fun _ => False) w6 w6.drew := (Fr.refl (fun _ => False) w6).drew
    have d6d : D2o rows wt ((2 * ops.length : Nat) : Int) w w6.drew D 0 4 (fun c => (inB v c ∨ bt c ≠ 0) ∨ (inB bv c ∨ H c)) := (d6.grow fd fun _ h => h.elim).sub fun c hc => .inl hc
    have hold : ∀ c, (inB M c ∨ inB P c ∨ inB I c) → bt c ≠ 0 ∧ 4 * k < bt c ∧ bt c ≤ 4 * (k + 1) := by
      rintro c (hc | hc | hc)
      · have := t1 c hc; omega
      · have := t2 c hc; omega
      · have := t3 c hc; omega
    have hz : w6.drew.heap.size = w6.heap.size := rfl
    refine (marked_run (w := w6.drew) (a1.fr fd fun _ _ => id) (a3.fr fd fun _ _ => id) (a5.fr fd fun _ _ => id) (by simpa using l1) (by simpa using l2) (by simpa using l3) (fun c h1 h2 => by have := t1 c h1; have := t2 c h2; omega) (fun c h1 h2 => by have := t1 c h1; have := t3 c h2; omega) (fun c h1 h2 => by have := t2 c h1; have := t3 c h2; omega)
      (fun c hc => by have := d6d.new (.inl (.inr (hold c hc).1)); omega) ⟨by omega, by omega⟩ (d6d.1.bk_some hpow id)).mono ?_
    rintro _ w7 ⟨e', rfl, he', f7⟩
    have s7 := f7.size
    have hb7 : BookOk w7 bv hels H := (hb.fr fd fun _ _ => id).fr f7 fun c hc hf => by
      have := hold c hf
      rcases hc with hc | hc
      · have := (hbv c hc).1; omega
      · have := (hH c hc).1; omega
    have hv7 : SlW 6 w7 v els := (hsl6.fr fd fun _ _ => id).fr f7 fun c hc hf => by
      have := hold c hf
      have := ha.off c hc
      omega
    have d7 := d6d.grow f7 fun c hc => .inl (.inr (hold c hc).1)
    rw [← hlen] at he'
    refine hb7.push he' (fun c hc hi => ?_) (fun c hc => ?_) (by omega) fun r w8 hb8 f8 hin _ => ?_
    · rcases hc with hc | hc
      · have := hold c hc; have := (hbv c hi).1; omega
      · have := (d6d.new (.inr (.inl hi))).2; omega
    · rcases hc with (hc | hc) | hc
      · have := (d6d.new (.inl (.inr (hold c hc).1))).2; omega
      · exact hc.2
      · have := (d6d.new (.inr (.inr hc))).2; omega
    simp only [intBin_add, Run_bindO_some, Run_ret, wk]
    have s8 := f8.size
    refine ⟨r, _, _, by trivial, hb8, by simp [hlen], hv7.fr f8 fun c hc hi => (hbv c hi).2 hc, fun j x hj hx => ?_, ?_, fun c hc => ?_, ?_⟩
    · refine (((hleft j x (by omega) hx).fr fd fun _ _ _ => id).fr f7 fun c hc1 hc2 hf => ?_).fr f8 fun c hc1 hc2 hi => ?_
      · have := hold c hf; omega
      · have := (hbv c hi).1; omega
    · rintro c (hc | hc | hc)
      · have := hH c hc; exact ⟨by omega, this.2⟩
      · have := hold c hc
        exact ⟨by omega, fun hi => by have := ha.off c hi; omega⟩
      · refine ⟨?_, fun hi => ?_⟩
        · by_cases h0 : bt c = 0
          · omega
          · have := (d6d.new (.inl (.inr h0))).2; omega
        · have := (d6d.new (.inl (.inl hi))).2; omega
    · rcases hin c hc with h' | h'
      · exact hbv c h'
      · refine ⟨?_, fun hi => ?_⟩
        · by_cases h0 : bt c = 0
          · omega
          · have := (d6d.new (.inl (.inr h0))).2; omega
        · have := (d6d.new (.inl (.inl hi))).2; omega
    · refine (d7.grow f8 fun c hc => .inl (.inr (.inl hc))).sub fun c hc => ?_
      rcases hc with hc | hc | hc | hc | hc
      · exact .inl (.inl (.inl hc))
      · rcases hin c hc with h' | h'
        · exact .inl (.inl (.inr (.inl h')))
        · exact .inr h'
      · exact .inl (.inl (.inr (.inr hc)))
      · exact .inl (.inl (.inl (.inr (hold c hc).1)))
      · exact .inl (.inr hc)
  rintro s w6 ⟨bv, hels, H, rfl, hb, hlen, hsl6, hleft, hH, hbv, d6⟩
  simp [hvl, buildV, fillV_cell]
  refine (d6.plays cfg (by omega) ⟨5, 0, 0, Zm⟩ Zm_str).mono ?_
  rintro _ w7 ⟨rfl, d7, f7⟩
  try simp
  refine (d7.symm.plays cfg (by omega) ⟨5, 0, 0, Zm⟩ Zm_str).mono ?_
  rintro _ w8 ⟨rfl, d8, f8⟩
  try simp
  have hb8 : BookOk w8 bv hels H := (hb.fr f7 fun c hc hn => hn (.inr hc)).fr f8 fun c hc hn => hn (.inr hc)
  have hbl := hb8.sl.1.lenL
  have p8 := d8.1.bk_some hpow id
  refine Run_for hels.length (fun k s w' => s = [.bool true, .int .i64 k] ∧ Fr (fun _ => False) w8 w') ⟨rfl, Fr.refl _ _⟩ ?_ ?_
  · rintro k s w9 hk ⟨rfl, f9⟩
    have ek : hels[k]? = some hels[k] := List.getElem?_eq_getElem hk
    generalize hels[k] = e at ek
    have hb9 := hb8.fr f9 fun _ _ => id
    obtain ⟨p, p1, p2⟩ := hb9.sl.1.rdA (by decide) ek .i64
    have hk' : (k : Int) < hels.length := by omega
    have wk := wrap_succ (n := k) (by omega)
    simp [-ldA_ptr, hbl, hk, hk', p1, p2]
    refine (still_run (hb9.held k e ek) ⟨by omega, by omega⟩ (f9.bk_some p8 id)).mono ?_
    rintro _ w10 ⟨rfl, f10⟩
    simp [wk]
    exact f9.trans f10 fun _ _ => id
  rintro s w9 ⟨rfl, f9⟩
  simp [hbl]
  exact d8.1.trans f9 fun _ _ => id
end

end Go.Proofs.YtiggkhmopnhfaaaDoor

/-
  The exact laws of layer 21, own lists, part G: the law's walk.
-/
namespace Go.Proofs.YtiggkhmopnhfaaaDoor
open Go.Lift
set_option linter.unusedSimpArgs false
set_option maxHeartbeats 4000000

section
variable {rows : List (List Int)} {R : Nat} {wt n : Int} {w0 w w' w'' : World} {D : Nat} {G X : Nat → Prop}
/-- One desk; G: what was handed out. -/
def D1o (rows : List (List Int)) (wt n : Int) (w0 w : World) (D : Nat) (G : Nat → Prop) : Prop :=
  Fr (fun _ => False) w0 w ∧ ∃ l st sent ov rv sv F', DK rows wt n w0 w D 0 l st sent ov rv sv F' ∧ ∀ c, G c → w0.heap.size ≤ c ∧ c < w.heap.size ∧ c ≠ D ∧ ¬ (F' c ∨ inB sv c)
theorem D1o.sub {G' : Nat → Prop} (h : D1o rows wt n w0 w D G) (hG : ∀ c, G' c → G c) : D1o rows wt n w0 w D G' := by
  obtain ⟨h0, l, st, sent, ov, rv, sv, F', h2, h5⟩ := h
  exact ⟨h0, l, st, sent, ov, rv, sv, F', h2, fun c hc => h5 c (hG c hc)⟩
theorem D1o.mono {m : Int} (h : D1o rows wt n w0 w D G) (hm : n ≤ m) : D1o rows wt m w0 w D G := by
  obtain ⟨h0, l, st, sent, ov, rv, sv, F', h2, h5⟩ := h
  exact ⟨h0, l, st, sent, ov, rv, sv, F', h2.mono hm, h5⟩
theorem D1o.grow {F' : Nat → Prop} (h : D1o rows wt n w0 w D G) (f : Fr F' w w') (hF : ∀ c, F' c → G c) : D1o rows wt n w0 w' D (fun c => G c ∨ (w.heap.size ≤ c ∧ c < w'.heap.size)) := by
  obtain ⟨h0, l, st, sent, ov, rv, sv, F1, h2, h5⟩ := h
  have s := f.size
  have s0 := h0.size
  have a := fun c hc => h5 c (hF c hc)
  have hDl := bk_lt h2.blk
  refine ⟨h0.new f fun c hc => (a c hc).1, l, st, sent, ov, rv, sv, F1,
    h2.fr f (fun h => (a D h).2.2.1 rfl) (fun c hc hf => (a c hc).2.2.2 (.inl hf)) (fun c hc hf => (a c hc).2.2.2 (.inr hf)), fun c hc => ?_⟩
  rcases hc with hc | hc
  · obtain ⟨b1, b2, b3⟩ := h5 c hc
    exact ⟨b1, by omega, b3⟩
  · refine ⟨by omega, hc.2, by omega, ?_⟩
    rintro (hf | hf)
    · have := (h2.fb c hf).2.1; omega
    · have := (h2.sb c hf).2.1; omega
theorem D1o.new (h : D1o rows wt n w0 w D G) {c : Nat} (hc : G c) : w0.heap.size ≤ c ∧ c < w.heap.size := by
  obtain ⟨h0, l, st, sent, ov, rv, sv, F', h2, h5⟩ := h
  exact ⟨(h5 c hc).1, (h5 c hc).2.1⟩
theorem D1o.plays (cfg : Cfg rows R wt) (hn : n + 1 ≤ 4194304) (h : D1o rows wt n w0 w D G) (op : Op) (hop : MStr op.m) :
    Run (F.granarylaw21_desk_plays (.pointer (some ⟨D, 0, none⟩)) op.val) w fun r w' => r = .bool true ∧ ∃ xv lst l', SlW 11 w' xv (elMR lst) ∧ lst.length ≤ 1 ∧ New w w' xv ∧ bk w' D = some l' ∧ l'[3]? = some xv ∧ D1o rows wt (n + 1) w0 w' D (fun c => G c ∨ inB xv c) ∧ Fr (fun c => ¬ G c) w w' := by
  obtain ⟨h0, l, st, sent, ov, rv, sv, F1, h2, h5⟩ := h
  refine (plays_run cfg hn h2 op hop).mono ?_
  rintro r w1 ⟨rfl, ht⟩
  obtain ⟨xv, lst, v1, v2, v3, v4, ⟨l', u1, u2⟩, hst⟩ := ht.stepped
  obtain ⟨l'', st', sent', sv', F'', g1, g2, g3, g4, g5, g6, g7⟩ := hst
  have s := g4.size
  have s0 := h0.size
  have hDl := bk_lt h2.blk
  refine ⟨rfl, xv, lst, l', v1, v2, v4, u1, by simpa using u2, ⟨h0.new g4 ?_, l'', st', sent', ov, rv, sv', F'', g1, ?_⟩, g4.mono ?_⟩
  · rintro c (hc | hc | hc)
    · rw [hc]; exact h2.dlo
    · exact (h2.fb c hc).1
    · exact (h2.sb c hc).1
  · rintro c (hc | hc)
    · obtain ⟨a1, a2, a3, a4⟩ := h5 c hc
      refine ⟨a1, by omega, a3, ?_⟩
      rintro (hf | hf)
      · rcases g5 c hf with h | h
        · exact a4 (.inl h)
        · omega
      · rcases g6 c hf with h | h
        · exact a4 (.inr h)
        · omega
    · obtain ⟨a1, a2, a3, a4⟩ := g7 c hc
      refine ⟨by omega, a2, by omega, ?_⟩
      rintro (hf | hf)
      · exact a3 hf
      · exact a4 hf
  · rintro c (hc | hc | hc) hg
    · exact (h5 c hg).2.2.1 hc
    · exact (h5 c hg).2.2.2 (.inl hc)
    · exact (h5 c hg).2.2.2 (.inr hc)

theorem mark_push {bv a0 a1 a2 : Value} {hels : List (List Value)} {H : Nat → Prop} {ms ps is : List (List Value)} (hb : BookOk w bv hels H) (d : D1o rows wt n w0 w D (fun c => (inB bv c ∨ H c) ∨ X c)) (h0 : SlW 11 w a0 ms) (h1 : SlW 2 w a1 ps) (h2 : SlW 1 w a2 is) (hlm : ms.length ≤ 1048576) (hlp : ps.length ≤ 1048576) (hli : is.length ≤ 1048576)
    (hd01 : ∀ c, inB a0 c → ¬ inB a1 c) (hd02 : ∀ c, inB a0 c → ¬ inB a2 c) (hd12 : ∀ c, inB a1 c → ¬ inB a2 c) (hx : ∀ c, (inB a0 c ∨ inB a1 c ∨ inB a2 c) → X c) (hxo : ∀ c, X c → ¬ inB bv c ∧ ¬ H c) (hpow : bk w0 1 = some powV) (hl : hels.length ≤ 1048576) {P : Value → World → Prop} {te te' : TypeId}
    (q : ∀ bv' e H' w', BookOk w' bv' (hels ++ [e]) H' → D1o rows wt n w0 w' D (fun c => inB bv' c ∨ H' c) → P bv' w') :
    Run (F.granarylaw21_marked a0 a1 a2 (.int .i64 (-1 - (hels.length : Int)))) w fun a w1 => Run (bslM te' 1 (Builtin.zeroCells #[(Value.slice none 0 0), (Value.slice none 0 0), (Value.slice none 0 0), (Value.slice none 0 0), (Value.slice none 0 0), (Value.slice none 0 0), (Value.int IntKind.i64 0)] 1) [(0, 7, a)]) w1 fun a w1 => Run (appM te 7 152 #[(Value.slice none 0 0), (Value.slice none 0 0), (Value.slice none 0 0), (Value.slice none 0 0), (Value.slice none 0 0), (Value.slice none 0 0), (Value.int IntKind.i64 0)] bv a) w1 fun r w' => P r w' := by
  have hw1 := bk_lt hpow
  refine (marked_run h0 h1 h2 hlm hlp hli hd01 hd02 hd12 (fun c hc => by have := d.new (.inr (hx c hc)); omega) ⟨by omega, by omega⟩ (d.1.bk_some hpow id)).mono ?_
  rintro _ w7 ⟨e', rfl, he', f7⟩
  have s7 := f7.size
  have hb7 : BookOk w7 bv hels H := hb.fr f7 fun c hc hf => by
    have := hxo c (hx c hf)
    rcases hc with hc | hc
    · exact this.1 hc
    · exact this.2 hc
  have d7 := d.grow f7 fun c hc => .inr (hx c hc)
  refine hb7.push he' (fun c hc hi => ?_) (fun c hc => ?_) (by omega) fun r w8 hb8 f8 hin _ => ?_
  · rcases hc with hc | hc
    · exact (hxo c (hx c hc)).1 hi
    · have := (d.new (.inl (.inl hi))).2; omega
  · rcases hc with (hc | hc) | hc
    · have := (d.new (.inr (hx c hc))).2; omega
    · exact hc.2
    · have := (d.new (.inl (.inr hc))).2; omega
  refine q r e' _ w8 hb8 ((d7.grow f8 fun c hc => .inl (.inl (.inl hc))).sub fun c hc => ?_)
  rcases hc with hc | hc | hc | hc
  · rcases hin c hc with h' | h'
    · exact .inl (.inl (.inl (.inl h')))
    · exact .inr h'
  · exact .inl (.inl (.inl (.inr hc)))
  · exact .inl (.inl (.inr (hx c hc)))
  · exact .inl (.inr hc)

theorem ownlists_top {C : Clu} {nv sv : Value} {pvs : List Value} {ops : List Op} (hN : Nodes w nv C.nodes pvs) (hF : Fits C) (hG : bk w 0 = some greatV) (hpow : bk w 1 = some powV) (hs : Sl 14 w sv (elO ops)) (hm : ∀ op ∈ ops, MStr op.m) (hl : ops.length ≤ 1048576) :
    Run (F.granarylaw21_ExportOwnLists (C.val nv) sv) w fun r w' => r = .bool true ∧ Fr (fun _ => False) w w' := by
  unfold F.granarylaw21_ExportOwnLists
  have hsl := hs.lenL
  simp at hsl
  have hby : ops.length ≤ 2147483647 := by omega
  have hnvc := hN.sl.isCell
  have hw1 := bk_lt hpow
  simp [Clu.val]
  refine Run_new fun b1 w1 hb1 _ f1 _ => ?_
  have hb1' : bk w1 b1 = some (C.cells nv) := by simpa using hb1
  simp [-ldA_ptr, hsl, beyond_run hby]
  refine Run_new fun D w2 hD hDw f2 hDle => ?_
  have hD2 : bk w2 D = some [.pointer none, .pointer none, .slice none 0 0, .slice none 0 0] := by simpa using hD
  have hb2 : bk w2 b1 = some (C.cells nv) := f2.bk_some hb1' id
  have s1 := f1.size
  have f02 : Fr (fun _ => False) w w2 := f1.trans f2 fun _ _ => id
  have hbl := bk_lt hb1'
  have h00 : 0 < w.heap.size := bk_lt hG
  simp [-ldA_ptr, Clu.ldA6 hb2]
  refine (begins_run (w0 := w) (hN.fr0 f02) hF (f02.bk_some hG id) f02 hD2 hDw (by omega) h00 (by simp) rfl).mono ?_
  rintro r w3 ⟨rfl, f3, st0, ov0, rv0, F0, g0, ⟨c0, c1⟩, k0⟩
  have hb3 : bk w3 b1 = some (C.cells nv) := f3.bk_some hb2 (by omega)
  have f03 : Fr (fun _ => False) w w3 := f02.new f3 fun c hc => by rw [hc]; omega
  obtain ⟨rows, R, wt, cfg, hrw⟩ : ∃ rows R wt, Cfg rows R wt ∧ (checkF C = 0 → rows = rowsF C ∧ wt = C.getwait) := by
    by_cases hc : checkF C = 0
    · obtain ⟨hset, hc1, hc2⟩ := checkF_ok hc
      have hRb := hset 0 _ _ rfl rfl
      have hwb := hset 17 _ _ rfl rfl
      simp only [Clu.nums] at hRb hwb
      obtain ⟨R, hRr⟩ : ∃ R : Nat, C.replicas = R := ⟨C.replicas.toNat, by omega⟩
      exact ⟨rowsF C, R, C.getwait, ⟨fun r hr => by have := rowsF_row hc hr; omega, by have := hRb.1; omega, by have := hRb.2; omega, by rw [rowsF_len]; exact hc1, hwb⟩, fun _ => ⟨rfl, rfl⟩⟩
    · exact ⟨[[0]], 1, 1, ⟨by simp, by decide, by decide, by decide, by decide⟩, fun h => absurd h hc⟩
  have d3 := k0 rows wt hrw
  simp [-ldA_ptr, Clu.ldA6 hb3]
  refine (untouched_run (hN.fr0 f03) hF (f03.bk_some hG id) (f03.bk_some hpow id) (hs.fr0 f03) hm hl).mono ?_
  rintro _ w4 ⟨rfl, f4⟩
  simp [-ldA_ptr]
  have d4 : D1o rows wt ((0 : Nat) : Int) w w4 D (fun _ => False) := ⟨f03.trans f4 fun _ _ => id, _, st0, [], ov0, rv0, .slice none 0 0, F0, d3.fr0 f4, fun _ h => h.elim⟩
  refine Run_for ops.length (fun i s w' => ∃ bv hels H, s = [bv, .int .i64 i] ∧ BookOk w' bv hels H ∧ hels.length = i ∧ D1o rows wt (i : Int) w w' D (fun c => inB bv c ∨ H c)) ⟨.slice none 0 0, [], fun _ => False, rfl, BookOk.nil _, rfl, d4.sub fun c hc => hc.elim (fun h => h.elim) id⟩ ?_ ?_
  · rintro i s w5 hi ⟨bv, hels, H, rfl, hb, hlen, d5⟩
    have ei : ops[i]? = some ops[i] := List.getElem?_eq_getElem hi
    generalize ops[i] = op at ei
    have hop := hm op (List.mem_of_getElem? ei)
    have hs5 := hs.fr0 d5.1
    obtain ⟨bo, oo, lo, i1, i2, i3, i4, i5⟩ := hs5.rd (by decide) (elO_some ei) .i64
    have g0 : lo[oo]? = some (.int .i64 op.kind) := take_get (j := 0) i4 (by decide)
    have gA : ldA 14 (.pointer (some ⟨bo, oo, none⟩)) w5 = some op.val := by rw [ldA_bk i2 i3, i4]; rfl
    have hi' : (i : Int) < ops.length := by omega
    have ws := wrap_succ (n := i) (by omega)
    have wm : IntKind.i64.wrap (-1 - (i : Int)) = -1 - (i : Int) := wrap_small (by omega) (by omega)
    obtain ⟨Q1, q1⟩ : ∃ Q1 : Out → World → Prop, ∀ a w', Q1 a w' ↔ ∃ bv' hels' H', a = .norm [bv'] ∧ BookOk w' bv' hels' H' ∧ hels'.length = i + 1 ∧ D1o rows wt ((i + 1 : Nat) : Int) w w' D (fun c => inB bv' c ∨ H' c) := ⟨_, fun _ _ => Iff.rfl⟩
    simp only [getL_zero, getL_succ, hsl, binV_int, intBin_lss, hi', decide_true, Run_bindO_some, Run_condM_true, Run_bind]
    refine Run.mono (Q := Q1) ?_ ?_
    · by_cases k5 : op.kind = 5
      · obtain ⟨_, l, st, sent, ov, rv, sv', F1, dk, _⟩ := id d5
        have hb5 := dk.blk
        have hl0 := dk.lo
        have hl1 := dk.lr
        obtain ⟨j, vn, e, ps, ms, b1, b2, b3, rr⟩ := two_report cfg dk.dx
        simp [-ldA_ptr, i1, i2, g0, k5, hb5, hl0]
        refine rr.mono ?_
        rintro _ w6 ⟨f6, pv, mv', rfl, hp, hmv, np, nm, dpm, cont⟩
        have hpc := hp.1.isCell
        have hmc := hmv.1.isCell
        simp [-ldA_ptr]
        refine Run_newSt (cs := #[.int .i64 j, .int .i64 vn, pv, mv']) rfl rfl (by simp [hpc, hmc]) fun a w7 ha haw f7 hale => ?_
        have hb7 : bk w7 D = some l := f7.bk_some (f6.bk_some hb5 id) id
        simp [-ldA_ptr, hb7, hl1]
        refine (cont w7 f7).mono ?_
        rintro _ w8 ⟨f8, pv', mv2, rfl, hp', hm'⟩
        have hpc' := hp'.isCell
        have hmc' := hm'.isCell
        simp [-ldA_ptr]
        refine Run_newSt (cs := #[.int .i64 j, .int .i64 vn, pv', mv2]) rfl rfl (by simp [hpc', hmc']) fun a' w9 ha' haw' f9 _ => ?_
        have ha9 : bk w9 a = _ := f9.bk_some (f8.bk_some ha id) id
        have f69 : Fr (fun _ => False) w6 w9 := (f7.trans f8 fun _ _ => id).trans f9 fun _ _ => id
        simp [ha9, ha']
        refine (sameReport_run (hp.1.fr0 f69) (hmv.1.fr0 f69) (hp'.fr0 f9) (hm'.fr0 f9) b1 b2 b3).mono ?_
        rintro _ w10 ⟨rfl, f10⟩
        have f610 : Fr (fun _ => False) w6 w10 := f69.trans f10 fun _ _ => id
        have f510 : Fr (fun _ => False) w5 w10 := f6.trans f610 fun _ _ => id
        have ha10 : bk w10 a = some [.int .i64 j, .int .i64 vn, pv, mv'] := f10.bk_some ha9 id
        have s610 := f610.size
        simp [num_run, ha10, wm]
        rw [← hlen]
        refine mark_push (X := fun c => w5.heap.size ≤ c ∧ c < w10.heap.size) (hb.fr f510 fun _ _ => id) (d5.grow f510 fun _ h => h.elim) (ms := []) (SlW.nil 11 _) (hp.fr f610 fun _ _ => id) (hmv.fr f610 fun _ _ => id) (by simp) (by simpa using b1) (by simpa using b2) (fun _ h => h.elim) (fun _ h => h.elim) dpm (fun c hc => ?_) (fun c hc => ⟨fun hi => ?_, fun hi => ?_⟩) hpow (by omega) fun bv' e' H' w' hb' d' => (q1 _ _).2 ⟨bv', _, H', rfl, hb', by simp [hlen], d'.mono (by omega)⟩
        · rcases hc with hc | hc | hc
          · exact hc.elim
          · have := np c hc; omega
          · have := nm c hc; omega
        · have := (d5.new (.inl hi)).2; omega
        · have := (d5.new (.inr hi)).2; omega
      · simp [-ldA_ptr, i1, i2, g0, k5, gA]
        refine (d5.plays cfg (by omega) op hop).mono ?_
        rintro _ w6 ⟨rfl, xv, lst, l', v1, v2, v3, u1, u2, d6, f6⟩
        simp [-ldA_ptr, u1, u2, wm]
        rw [← hlen]
        refine mark_push (X := inB xv) (hb.fr f6 fun c hc hn => hn hc) d6 v1 (ps := []) (SlW.nil 2 _) (is := []) (SlW.nil 1 _) (by simp; omega) (by simp) (by simp) (fun _ _ h => h.elim) (fun _ _ h => h.elim) (fun _ _ h => h.elim) (fun c hc => hc.elim id fun h => h.elim (fun h => h.elim) fun h => h.elim) (fun c hc => ⟨fun hi => ?_, fun hi => ?_⟩) hpow (by omega) fun bv' e' H' w' hb' d' => (q1 _ _).2 ⟨bv', _, H', rfl, hb', by simp [hlen], d'.mono (by omega)⟩
        · have := (d5.new (.inl hi)).2; have := v3 c hc; omega
        · have := (d5.new (.inr hi)).2; have := v3 c hc; omega
    rintro a w6 ha
    obtain ⟨bv', hels', H', rfl, hb6, hlen6, d6⟩ := (q1 _ _).1 ha
    have hbl := hb6.sl.1.lenL
    simp only [outK_norm, getL_zero, Run_bind]
    refine Run_for hels'.length (fun k s w' => s = [.int .i64 k] ∧ Fr (fun _ => False) w6 w') ⟨rfl, Fr.refl _ _⟩ ?_ ?_
    · rintro k s w7 hk ⟨rfl, f7⟩
      have ek : hels'[k]? = some hels'[k] := List.getElem?_eq_getElem hk
      generalize hels'[k] = e at ek
      have hb7 := hb6.fr f7 fun _ _ => id
      obtain ⟨p, p1, p2⟩ := hb7.sl.1.rdA (by decide) ek .i64
      have hk' : (k : Int) < hels'.length := by omega
      have wk := wrap_succ (n := k) (by omega)
      simp [-ldA_ptr, hbl, hk, hk', p1, p2]
      refine (still_run (hb7.held k e ek) ⟨by omega, by omega⟩ ((d6.1.trans f7 fun _ _ => id).bk_some hpow id)).mono ?_
      rintro _ w8 ⟨rfl, f8⟩
      simp [wk]
      exact f7.trans f8 fun _ _ => id
    rintro s w7 ⟨rfl, f7⟩
    simp [hbl, ws]
    have d7 := (d6.grow f7 fun _ h => h.elim).sub (G' := fun c => inB bv' c ∨ H' c) fun c hc => .inl hc
    refine ⟨hels', H', hb6.fr f7 fun _ _ => id, hlen6, d7⟩
  · rintro s w5 ⟨bv, hels, H, rfl, hb, hlen, d5⟩
    simp [hsl, buildV, fillV_cell]
    refine (d5.plays cfg (by omega) ⟨5, 0, 0, Zm⟩ Zm_str).mono ?_
    rintro _ w6 ⟨rfl, _, _, _, _, _, _, _, _, d6, _⟩
    try simp
    refine (d6.plays cfg (by omega) ⟨1, 0, 3, Zm⟩ Zm_str).mono ?_
    rintro _ w7 ⟨rfl, _, _, _, _, _, _, _, _, d7, _⟩
    simp
    exact d7.1
end

end Go.Proofs.YtiggkhmopnhfaaaDoor
