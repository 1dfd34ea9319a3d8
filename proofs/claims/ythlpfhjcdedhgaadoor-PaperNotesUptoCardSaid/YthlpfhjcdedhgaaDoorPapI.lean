/-
  Layer 4 (paper): part I: the document's note, printed.
-/
import Derived.Test.YthlpfhjcdedhgaaDoorPapH
namespace Go.Proofs.YthlpfhjcdedhgaaDoor
open Go.Lift Go.Sort
set_option linter.unusedSimpArgs false
set_option linter.unusedVariables false
set_option maxHeartbeats 4000000
section
variable {w w1 w2 : World}
def sb (l : List UInt8) : ByteArray := ⟨l.toArray⟩
theorem sb_size (l : List UInt8) : (sb l).size = l.length := by
  show l.toArray.size = _
  rw [List.size_toArray]
theorem sbAdd {a c : List UInt8} (h : a.length + c.length ≤ 9223372036854775807) : binV .add (.string (sb a)) (.string (sb c)) = some (.string (sb (a ++ c))) := by
  rw [strAdd (by rw [sb_size, sb_size]; exact h)]
  have e : sb a ++ sb c = sb (a ++ c) := by
    apply ByteArray.ext
    rw [ByteArray.data_append]
    show a.toArray ++ c.toArray = (a ++ c).toArray
    simp
  rw [e]
theorem rprint_run (ht : Tb w) (n : Nt) : Run (F.granaryref4_PrintNote n.v) w fun r w' => r = noteO n ∧ Fr (fun _ => False) w w' := by
  unfold F.granaryref4_PrintNote
  rw [Run_bind]
  refine Run_new fun x w1 hx hxw f1 hxle => ?_
  replace hx : bk w1 x = some [.int .i64 n.k, .int .i64 n.f, .int .i64 n.u, .int .i64 n.c] := hx
  have ht1 := ht.fr0 f1
  have hno : ∀ {p : Prop}, p → (p → ¬ n.ok) → noteO n = .tuple #[.string (ByteArray.mk #[]), .int .i64 42] := fun hp h => by rw [noteO, if_neg (h hp)]
  by_cases h1 : 1 ≤ n.k ∧ n.k ≤ 4
  case neg => simp [-ldA_ptr, hx, Run_in, h1, hno h1 fun h hn => h hn.1, f1]
  by_cases h2 : 0 ≤ n.f ∧ n.f ≤ 9007199254740992
  case neg => simp [-ldA_ptr, hx, Run_in, h1, h2, hno h2 fun h hn => h hn.2.1, f1]
  by_cases h3 : 0 ≤ n.u ∧ n.u ≤ 9007199254740992
  case neg => simp [-ldA_ptr, hx, Run_in, h1, h2, h3, hno h3 fun h hn => h hn.2.2.1, f1]
  by_cases h4 : 0 ≤ n.c ∧ n.c ≤ 4294967295
  case neg => simp [-ldA_ptr, hx, Run_in, h1, h2, h3, h4, hno h4 fun h hn => h ⟨hn.2.2.2.1, by have := hn.2.2.2.2; omega⟩, f1]
  have hok : n.ok := ⟨h1, h2, h3, h4.1, by omega⟩
  rw [noteO, if_pos hok]
  obtain ⟨k, f, u, c⟩ := n
  simp only at h1 h2 h3 h4 hx
  obtain ⟨k, rfl⟩ : ∃ n : Nat, k = n := ⟨k.toNat, by omega⟩
  obtain ⟨f, rfl⟩ : ∃ n : Nat, f = n := ⟨f.toNat, by omega⟩
  obtain ⟨u, rfl⟩ : ∃ n : Nat, u = n := ⟨u.toNat, by omega⟩
  obtain ⟨c, rfl⟩ : ∃ n : Nat, c = n := ⟨c.toNat, by omega⟩
  simp [-ldA_ptr, hx, Run_in, h1, h2, h3, h4]
  have fd : Fr (fun _ => False) w1 w1.drew := (Fr.refl _ _).drew
  have td := ht1.fr0 fd
  have hxd : bk w1.drew x = some [.int .i64 (k : Int), .int .i64 (f : Int), .int .i64 (u : Int), .int .i64 (c : Int)] := hx
  generalize w1.drew = w2 at *
  have l1 := dec_len (n := k) (by omega)
  have l2 := dec_len (n := f) (by omega)
  have l3 := dec_len (n := u) (by omega)
  have l4 : (eightL c).length = 8 := lowD_len _ _
  have eB : ByteArray.mk #[32] = sb [32] := rfl
  have eI : ∀ n, itoaS n = sb (Lib.decDigits n) := fun _ => rfl
  have eE : ∀ n, eightS n = sb (eightL n) := fun _ => rfl
  refine (itoa_run td (n := k) (by omega)).mono ?_
  rintro _ w3 ⟨rfl, f3⟩
  have hx3 := f3.bk_some hxd id
  have t3 := td.fr0 f3
  have a1 := sbAdd (a := Lib.decDigits k) (c := [32]) (by simp; omega)
  rw [eI, eB, a1]
  generalize hA : Lib.decDigits k ++ [32] = A at *
  have lA : A.length ≤ 21 := by rw [← hA]; simp; omega
  simp [-ldA_ptr, hx3, -binV_str]
  refine (itoa_run t3 (n := f) (by omega)).mono ?_
  rintro _ w4 ⟨rfl, f4⟩
  have hx4 := f4.bk_some hx3 id
  have t4 := t3.fr0 f4
  have a2 := sbAdd (a := A) (c := Lib.decDigits f) (by omega)
  rw [eI, a2, Run_bindO_some]
  have a3 := sbAdd (a := A ++ Lib.decDigits f) (c := [32]) (by simp; omega)
  rw [a3]
  generalize hB : A ++ Lib.decDigits f ++ [32] = B at *
  have lB : B.length ≤ 42 := by rw [← hB]; simp; omega
  simp [-ldA_ptr, hx4, -binV_str]
  refine (itoa_run t4 (n := u) (by omega)).mono ?_
  rintro _ w5 ⟨rfl, f5⟩
  have hx5 := f5.bk_some hx4 id
  have t5 := t4.fr0 f5
  have a4 := sbAdd (a := B) (c := Lib.decDigits u) (by omega)
  rw [eI, a4, Run_bindO_some]
  have a5 := sbAdd (a := B ++ Lib.decDigits u) (c := [32]) (by simp; omega)
  rw [a5]
  generalize hC : B ++ Lib.decDigits u ++ [32] = C at *
  have lC : C.length ≤ 63 := by rw [← hC]; simp; omega
  simp [-ldA_ptr, hx5, -binV_str]
  refine (eight_run c (by omega)).mono ?_
  rintro _ w6 ⟨rfl, f6⟩
  have t6 := t5.fr0 f6
  have a6 := sbAdd (a := C) (c := eightL c) (by omega)
  rw [eE, a6, Run_bindO_some]
  have a7 := sbAdd (a := C ++ eightL c) (c := [32]) (by simp; omega)
  rw [a7]
  have eP : C ++ eightL c ++ [32] = preL ⟨k, f, u, c⟩ := by
    rw [← hC, ← hB, ← hA]
    simp [preL]
  rw [eP]
  have hp := pre_len ⟨k, f, u, c⟩ hok
  simp [-ldA_ptr, hx, hx3, hx4, hx5, hxd, -binV_str]
  refine (rcrc_run (sb (preL ⟨k, f, u, c⟩)) (by rw [sb_size]; omega)).mono ?_
  rintro _ w10 ⟨rfl, rfl⟩
  refine (eight_run _ (crcF_lt _)).mono ?_
  rintro _ w11 ⟨rfl, f11⟩
  have l5 : (eightL (crcF (sb (preL ⟨k, f, u, c⟩)))).length = 8 := lowD_len _ _
  have a8 := sbAdd (a := preL ⟨k, f, u, c⟩) (c := eightL (crcF (sb (preL ⟨k, f, u, c⟩)))) (by omega)
  have a9 := sbAdd (a := preL ⟨k, f, u, c⟩ ++ eightL (crcF (sb (preL ⟨k, f, u, c⟩)))) (c := [10]) (by simp; omega)
  rw [eE, a8, Run_bindO_some]
  have eN : ByteArray.mk #[10] = sb [10] := rfl
  rw [eN, a9, Run_bindO_some, Run_ret]
  exact ⟨rfl, (((((f1.trans fd fun _ _ => id).trans f3 fun _ _ => id).trans f4 fun _ _ => id).trans f5 fun _ _ => id).trans f6 fun _ _ => id).trans f11 fun _ _ => id⟩
end
end Go.Proofs.YthlpfhjcdedhgaaDoor
