/- What the statement rests on: part 5. -/
import Derived.Test.YthlpfhjcdedhgaaGreatDoorSf3
namespace Go.Proofs.YthlpfhjcdedhgaaGreatDoor
open Go.Lift
set_option linter.unusedSimpArgs false
set_option linter.unusedVariables false
set_option maxHeartbeats 4000000
def MANI : List UInt8:=[103, 114, 97, 110, 97, 114, 121, 32, 109, 97, 110, 105, 102, 101, 115, 116, 32, 49]
def FILES : List UInt8:=[102, 105, 108, 101, 115]
def FILE : List UInt8:=[102, 105, 108, 101]
def TOTAL : List UInt8:=[116, 111, 116, 97, 108]
def WHOLE : List UInt8:=[119, 104, 111, 108, 101]
def rowL (f : Fl) : List UInt8:=FILE ++ [32] ++ f.nm ++ [32] ++ Lib.decDigits f.sz.toNat ++ [32] ++ eightL f.crc.toNat ++ [32] ++ hexL f.md
def rowsL (fs : List Fl) : List UInt8:=(fs.map λ f => rowL f ++ [10]).flatten
def manH (m : Mf) : List UInt8:=(MANI ++ [10]) ++ (STORE ++ [32] ++ m.st ++ [10]) ++ (VERSION ++ [32] ++ Lib.decDigits m.ver.toNat ++ [10]) ++ (NODE ++ [32] ++ Lib.decDigits m.node.toNat ++ [10]) ++ (FILES ++ [32] ++ Lib.decDigits m.fs.length ++ [10])
def manT (m : Mf) : List UInt8:=(TOTAL ++ [32] ++ Lib.decDigits m.tot.toNat ++ [10]) ++ (WHOLE ++ [32] ++ eightL m.who.toNat ++ [10])
def manL (m : Mf) : List UInt8:=manH m ++ rowsL m.fs ++ manT m
def manO (m : Mf) : Value:=if holdsF m = 0 then .tuple #[.string (sb (closeL (manL m))), .int .i64 0] else .tuple #[.string (sb []), .int .i64 (holdsF m)]
theorem holdsF_ok {m : Mf} (h : holdsF m = 0) : headOk m = true /\ filesOk m.fs = true /\ (totF m.fs : Int) = m.tot /\ (whoF m.fs : Int) = m.who:=by
 unfold holdsF at h
 split at h
 ·rename_i hc
  rw [Bool.and_eq_true] at hc
  split at h
  ·rename_i h2; exact ⟨hc.1, hc.2, h2.1, h2.2⟩
  ·cases h
 ·cases h
structure HeadOk (m : Mf) : Prop where
 st : storeP m.st = true
 ver : 1 <= m.ver /\ m.ver <= 999999
 node : 0 <= m.node /\ m.node <= 15
 n : m.fs.length <= 1025
 tot : 0 <= m.tot /\ m.tot <= 9007199254740992
 who : 0 <= m.who /\ m.who <= 4294967295
theorem headOk_all {m : Mf} (h : headOk m = true) : HeadOk m:=by
 unfold headOk at h
 simp only [Bool.and_eq_true, decide_eq_true_eq] at h
 exact ⟨h.1.1.1.1, h.1.1.1.2, h.1.1.2, h.1.2, h.2.1, h.2.2⟩
theorem row_len {f : Fl} (h : f.ok = true) : (rowL f).length <= 120:=by
 obtain ⟨h1, h2, h3, h4⟩:=Fl.ok_iff.1 h
 have a:=(fileP_mem h1).2.1
 have b:=dec_len (n:=f.sz.toNat) (by omega)
 have c : (eightL f.crc.toNat).length = 8:=lowD_len _ _
 have d:=hexL_len f.md
 have e : FILE.length = 4:=rfl
 simp only [rowL, List.length_append, List.length_singleton, c, d, e]
 omega
theorem rows_len : ∀ {fs : List Fl}, (∀ f ∈ fs, f.ok = true) -> (rowsL fs).length <= fs.length * 121
 | [], _ => by simp [rowsL]
 | f :: r, h => by
  have h1:=row_len (h f (by simp))
  have h2:=rows_len (fs:=r) λ g hg => h g (by simp [hg])
  simp only [rowsL, List.map_cons, List.flatten_cons, List.length_append, List.length_cons, List.length_nil] at h2 ⊢
  omega
theorem rowsL_snoc {fs : List Fl} {i : Nat} {f : Fl} (h : fs[i]? = some f) : rowsL (fs.take (i + 1)) = rowsL (fs.take i) ++ (rowL f ++ [10]):=by
 unfold rowsL
 rw [take_snocP h]
 simp
theorem manH_len {m : Mf} (h : HeadOk m) : (manH m).length <= 1000:=by
 have a:=(storeP_len h.st).2.1
 have b:=dec_len (n:=m.ver.toNat) (by have:=h.ver; omega)
 have c:=dec_len (n:=m.node.toNat) (by have:=h.node; omega)
 have d:=dec_len (n:=m.fs.length) (by have:=h.n; omega)
 simp [manH, MANI, STORE, VERSION, NODE, FILES]
 omega
theorem manT_len {m : Mf} (h : HeadOk m) : (manT m).length <= 1000:=by
 have b:=dec_len (n:=m.tot.toNat) (by have:=h.tot; omega)
 have c : (eightL m.who.toNat).length = 8:=lowD_len _ _
 simp [manT, TOTAL, WHOLE, c]
 omega
theorem man_len {m : Mf} (h : holdsF m = 0) : (manL m).length <= 200000:=by
 obtain ⟨h1, h2, _⟩:=holdsF_ok h
 have hh:=headOk_all h1
 have a:=manH_len hh
 have b:=manT_len hh
 have c:=rows_len (filesOk_at h2)
 have d:=hh.n
 simp only [manL, List.length_append]
 omega
section
variable {w w1 w2 : World}
theorem itoaI (ht : Tb w) {z : Int} (h0 : 0 <= z) (h1 : z < 9223372036854775808) : Run (F.strconv_Itoa (.int .i64 z)) w λ r w' => r = .string (sb (Lib.decDigits z.toNat)) /\ Fr (λ _ => False) w w':=itoa_int ht h0 h1
theorem hex8I (ht : Tb w) {z : Int} (h0 : 0 <= z) (h1 : z <= 4294967295) : Run (F.paper_hex8 (.int .i64 z)) w λ r w' => r = .string (sb (eightL z.toNat)) /\ Fr (λ _ => False) w w':=by
 obtain ⟨n, rfl⟩ : ∃ n : Nat, z = n:=⟨z.toNat, by omega⟩
 exact hex8_run ht.bits (by omega)
theorem line2 {β : Type} {A : Nat -> Prop} {b : Nat} {l : List UInt8} (h : BG A w b l) {a c : List UInt8} (ha : a ≠ []) (hal : a.length <= 100000) (hcl : c.length <= 100000) (hl : l.length <= 536870912) {K : M β} {Q : β -> World -> Prop}
  (q : ∀ w', BG A w' b (l ++ (a ++ [32] ++ c ++ [10])) -> Fr (λ c => ¬ A c) w w' -> Run K w' Q) :
  Run (M.bind (bslM 9 2 (Builtin.zeroCells #[(Value.string ByteArray.empty)] 2) [(0, 1, .string (sb a)), (1, 1, .string (sb c))]) λ r => M.bind (F.paper_line (PtrB b) r) λ _ => K) w Q:=by
 rw [Run_bind]
 refine Run_bsl (k:=1) (vs:=[.string (sb a), .string (sb c)]) (by rfl) (by intro v hv; simp only [List.mem_cons, List.not_mem_nil, or_false] at hv; rcases hv with rfl | rfl <;> rfl) rfl (by kernel_rfl) λ r w2 hr f2 _ => ?_
 rw [Run_bind]
 refine (line_run (h.frm f2) (xs:=[a, c]) hr.1 (by rw [join_two]; simp [ha]) (by simp) (by rw [join_two]; simp only [List.length_append, List.length_singleton]; omega) (by simp only [List.map_cons, List.map_nil, List.sum_cons, List.sum_nil, sb_size]; omega) hl).mono ?_
 rintro _ w3 ⟨h3, f3⟩
 rw [join_two] at h3
 exact q w3 h3 ((f2.mono λ _ h => h.elim).trans f3 λ _ _ h => h)
theorem join_five (a b c d e : List UInt8) : joinL ([a, b, c, d, e].map sb) (sb [32]) = a ++ [32] ++ b ++ [32] ++ c ++ [32] ++ d ++ [32] ++ e:=by simp [joinL, sb]
theorem manprint_run (ht : Tb w) {m : Mf} {v : Value} (hv : Sl 4 w v (m.fs.map Fl.row)) (hm : m.Fit) : Run (F.paper_PrintManifest (.agg (mval m v).toArray)) w λ r w' => r = manO m /\ Fr (λ _ => False) w w':=by
 unfold F.paper_PrintManifest
 have hvl:=hv.lenL
 rw [List.length_map] at hvl
 rw [Run_bind]
 refine Run_new λ x w1 hx hxw f1 hxle => ?_
 have hxa : ldA 6 (.pointer (some ⟨x, 0, none⟩)) w1 = some (.agg (mval m v).toArray):=ldA_bk hx (Nat.le_refl _)
 replace hx : bk w1 x = some (mval m v):=hx
 rw [Run_bind, Run_rdM]
 refine ⟨_, hxa, ?_⟩
 rw [Run_bind]
 refine (holds_run (hv.fr0 f1) hm).mono ?_
 rintro _ w3 ⟨rfl, f3⟩
 have f13:=f1.trans f3 λ _ _ => id
 have e0 : ByteArray.mk #[] = sb []:=rfl
 by_cases hok : holdsF m = 0
 case neg =>
  have hn : (!decide (holdsF m = 0)) = true:=by rw [decide_eq_false hok]; rfl
  rw [binV_int, intBin_neq, hn, Run_bindO_some, Run_condM_true, Run_ret, manO, if_neg hok, e0]
  exact ⟨rfl, f13⟩
 have hn : (!decide (holdsF m = 0)) = false:=by rw [decide_eq_true hok]; rfl
 rw [binV_int, intBin_neq, hn, Run_bindO_some, Run_condM_false, manO, if_pos hok]
 obtain ⟨ho1, ho2, _, _⟩:=holdsF_ok hok
 have hh:=headOk_all ho1
 have hrows:=filesOk_at ho2
 have sl2:=(storeP_len hh.st).2.1
 have hlen:=man_len hok
 have hHl:=manH_len hh
 have hx3:=f3.bk_some hx id
 have lx:=bk_lt hx3
 have low:=tb_low (ht.fr0 f13)
 have t3:=ht.fr0 f13
 have v3:=hv.fr0 f13
 have eL : ByteArray.mk #[103, 114, 97, 110, 97, 114, 121, 32, 109, 97, 110, 105, 102, 101, 115, 116, 32, 49] = sb MANI:=rfl
 have eS : ByteArray.mk #[115, 116, 111, 114, 101] = sb STORE:=rfl
 have eV : ByteArray.mk #[118, 101, 114, 115, 105, 111, 110] = sb VERSION:=rfl
 have eN : ByteArray.mk #[110, 111, 100, 101] = sb NODE:=rfl
 have eF : ByteArray.mk #[102, 105, 108, 101, 115] = sb FILES:=rfl
 have eR : ByteArray.mk #[102, 105, 108, 101] = sb FILE:=rfl
 have eT : ByteArray.mk #[116, 111, 116, 97, 108] = sb TOTAL:=rfl
 have eW : ByteArray.mk #[119, 104, 111, 108, 101] = sb WHOLE:=rfl
 rw [eL, eS, eV, eN, eF, eR, eT, eW]
 have z0 : buildV #[(Value.pointer none), (Value.slice none 0 0)] [] = some (.agg #[(Value.pointer none), (Value.slice none 0 0)]):=rfl
 have c0 : ∀ {u : World}, bk u x = some (mval m v) -> ld1 (.pointer (some ⟨x, 0 + 0, none⟩)) u = some (.string (sb m.st)):=λ h => by rw [ld1_ptr, h]; rfl
 have c1 : ∀ {u : World}, bk u x = some (mval m v) -> ld1 (.pointer (some ⟨x, 0 + 1, none⟩)) u = some (.int .i64 m.ver):=λ h => by rw [ld1_ptr, h]; rfl
 have c2 : ∀ {u : World}, bk u x = some (mval m v) -> ld1 (.pointer (some ⟨x, 0 + 2, none⟩)) u = some (.int .i64 m.node):=λ h => by rw [ld1_ptr, h]; rfl
 have c3 : ∀ {u : World}, bk u x = some (mval m v) -> ld1 (.pointer (some ⟨x, 0 + 3, none⟩)) u = some v:=λ h => by rw [ld1_ptr, h]; rfl
 have c4 : ∀ {u : World}, bk u x = some (mval m v) -> ld1 (.pointer (some ⟨x, 0 + 4, none⟩)) u = some (.int .i64 m.tot):=λ h => by rw [ld1_ptr, h]; rfl
 have c5 : ∀ {u : World}, bk u x = some (mval m v) -> ld1 (.pointer (some ⟨x, 0 + 5, none⟩)) u = some (.int .i64 m.who):=λ h => by rw [ld1_ptr, h]; rfl
 rw [z0, Run_bindO_some, Run_bind]
 refine bgNew λ b w4 hB f4 => ?_
 have keepX : ∀ {u : World}, Fr (λ c => ¬ c < w3.heap.size) w3 u -> bk u x = some (mval m v):=λ f => f.bk_some hx3 λ hn => hn lx
 have keepT : ∀ {u : World}, Fr (λ c => ¬ c < w3.heap.size) w3 u -> Tb u:=λ f => t3.fr f λ c hc hn => hn (by omega)
 have keepV : 0 < m.fs.length -> ∀ {u : World}, Fr (λ c => ¬ c < w3.heap.size) w3 u -> Sl 4 u v (m.fs.map Fl.row):=λ h0 {u} f => v3.fr f λ c hc hn => hn (v3.lt (by rw [List.length_map]; exact h0) hc)
 rw [Run_bind]
 refine Run_bsl (k:=1) (vs:=[.string (sb MANI)]) (by rfl) (by intro v hv; simp only [List.mem_singleton] at hv; subst hv; rfl) rfl (by kernel_rfl) λ r w5 hr f5 _ => ?_
 rw [Run_bind]
 refine (line_run (hB.frm f5) (xs:=[MANI]) hr.1 (by rw [join_one]; decide) (by decide) (by rw [join_one]; decide) (by simp [sb_size]; decide) (by decide)).mono ?_
 rintro _ w6 ⟨hB6, f6⟩
 rw [join_one, List.nil_append] at hB6
 have f36 : Fr (λ c => ¬ c < w3.heap.size) w3 w6:=((f4.trans f5 λ _ _ => id).mono λ _ h => h.elim).trans f6 λ _ _ hc => hc
 simp only [fieldA_ptr]
 rw [Run_bindO_some, Run_bind, Run_rdM]
 refine ⟨_, c0 (keepX f36), ?_⟩
 refine line2 hB6 (by decide) (by decide) (by omega) (by decide) λ w7 hB7 f7 => ?_
 have f37:=f36.trans f7 λ _ _ h => h
 have k7 : ((MANI ++ [10]) ++ (STORE ++ [32] ++ m.st ++ [10])).length <= (manH m).length:=by simp only [manH, List.length_append]; omega
 rw [Run_bindO_some, Run_bind, Run_rdM]
 refine ⟨_, c1 (keepX f37), ?_⟩
 rw [Run_bind]
 refine (itoaI (keepT f37) (by have:=hh.ver; omega) (by have:=hh.ver; omega)).mono ?_
 rintro _ w8 ⟨rfl, f8⟩
 have f38:=f37.trans f8 λ _ _ h => h.elim
 have dv:=dec_len (n:=m.ver.toNat) (by have:=hh.ver; omega)
 refine line2 (hB7.frm f8) (by decide) (by decide) (by omega) (by omega) λ w9 hB9 f9 => ?_
 have f39:=f38.trans f9 λ _ _ h => h
 have k9 : ((MANI ++ [10]) ++ (STORE ++ [32] ++ m.st ++ [10]) ++ (VERSION ++ [32] ++ Lib.decDigits m.ver.toNat ++ [10])).length <= (manH m).length:=by simp only [manH, List.length_append]; omega
 rw [Run_bindO_some, Run_bind, Run_rdM]
 refine ⟨_, c2 (keepX f39), ?_⟩
 rw [Run_bind]
 refine (itoaI (keepT f39) (by have:=hh.node; omega) (by have:=hh.node; omega)).mono ?_
 rintro _ wa ⟨rfl, fa⟩
 have f3a:=f39.trans fa λ _ _ h => h.elim
 have dn:=dec_len (n:=m.node.toNat) (by have:=hh.node; omega)
 refine line2 (hB9.frm fa) (by decide) (by decide) (by omega) (by omega) λ wb hBb fb => ?_
 have f3b:=f3a.trans fb λ _ _ h => h
 have kb : ((MANI ++ [10]) ++ (STORE ++ [32] ++ m.st ++ [10]) ++ (VERSION ++ [32] ++ Lib.decDigits m.ver.toNat ++ [10]) ++ (NODE ++ [32] ++ Lib.decDigits m.node.toNat ++ [10])).length <= (manH m).length:=by simp only [manH, List.length_append]; omega
 rw [Run_bindO_some, Run_bind, Run_rdM]
 refine ⟨_, c3 (keepX f3b), ?_⟩
 rw [hvl, Run_bindO_some, Run_bind]
 refine (itoaI (keepT f3b) (by omega) (by have:=hh.n; omega)).mono ?_
 rintro _ wc ⟨rfl, fc⟩
 rw [Int.toNat_natCast]
 have f3c:=f3b.trans fc λ _ _ h => h.elim
 have df:=dec_len (n:=m.fs.length) (by have:=hh.n; omega)
 refine line2 (hBb.frm fc) (by decide) (by decide) (by omega) (by omega) λ wd hBd fd => ?_
 have f3d:=f3c.trans fd λ _ _ h => h
 have eH : (MANI ++ [10]) ++ (STORE ++ [32] ++ m.st ++ [10]) ++ (VERSION ++ [32] ++ Lib.decDigits m.ver.toNat ++ [10]) ++ (NODE ++ [32] ++ Lib.decDigits m.node.toNat ++ [10]) ++ (FILES ++ [32] ++ Lib.decDigits m.fs.length ++ [10]) = manH m:=rfl
 rw [eH] at hBd
 rw [Run_bindO_some, Run_bind, Run_rdM]
 refine ⟨_, c3 (keepX f3d), ?_⟩
 rw [hvl, Run_bindO_some, Run_bind]
 have rl : ∀ i, (rowsL (m.fs.take i)).length <= 1025 * 121:=λ i => by
  have h1:=rows_len (fs:=m.fs.take i) λ f hf => hrows f (List.mem_of_mem_take hf)
  have h2 : (m.fs.take i).length <= m.fs.length:=List.length_take_le' i m.fs
  have h3:=hh.n
  have h4 : (m.fs.take i).length * 121 <= 1025 * 121:=Nat.mul_le_mul_right _ (by omega)
  omega
 refine Run_for m.fs.length (λ i L w' => L = [.int .i64 (i : Int)] /\ BG (λ c => c < w3.heap.size) w' b (manH m ++ rowsL (m.fs.take i)) /\ Fr (λ c => ¬ c < w3.heap.size) w3 w') ⟨rfl, by simpa [rowsL] using hBd, f3d⟩ ?_ ?_
 ·rintro i L we hi ⟨rfl, hBe, f3e⟩
  obtain ⟨f, hf⟩ : ∃ f, m.fs[i]? = some f:=⟨_, List.getElem?_eq_getElem hi⟩
  have hfm:=List.mem_of_getElem? hf
  have hfo:=hrows f hfm
  obtain ⟨o1, o2, o3, o4⟩:=Fl.ok_iff.1 hfo
  have onl:=(fileP_mem o1).2.1
  have hil : (i : Int) < m.fs.length:=by omega
  have ve:=keepV (by omega) f3e
  obtain ⟨q, q1, q2⟩:=ve.rdA (by decide) (i:=i) (e:=f.row) (by simp [hf]) .i64
  have q1' : idxA 4 v (.int .i64 (i : Int)) = some q:=q1
  rw [getL_zero, lssT hil, Run_bindO_some, Run_condM_true, q1', Run_bindO_some, Run_bind, Run_rdM]
  refine ⟨_, q2, ?_⟩
  rw [Run_bind]
  refine Run_new λ y wf hy hyw ff hyle => ?_
  rw [Run_bind, Run_stA (n:=4) ⟨⟨⟨_, hy, by simp⟩, hyw⟩, rfl, f.row_cell⟩]
  have hyb:=bk_sto_same (o:=0) hy f.row
  have ey : setL #[Value.string ByteArray.empty, Value.int IntKind.i64 0, Value.int IntKind.i64 0, Value.string ByteArray.empty].toList 0 f.row = f.row:=rfl
  rw [ey] at hyb
  rw [show f.row.toArray.toList = f.row from rfl, Run_drewM]
  have feg : Fr (λ _ => False) we (sto wf y 0 f.row).drew:=(ff.sto (.inr hyle) _ _).drew
  have hyd : bk (sto wf y 0 f.row).drew y = some f.row:=hyb
  generalize (sto wf y 0 f.row).drew = wg at *
  have d0 : ∀ {u : World}, Fr (λ _ => False) wg u -> ld1 (.pointer (some ⟨y, 0 + 0, none⟩)) u = some (.string (sb f.nm)):=λ h => by rw [ld1_ptr, h.bk_some hyd id]; rfl
  have d1 : ∀ {u : World}, Fr (λ _ => False) wg u -> ld1 (.pointer (some ⟨y, 0 + 1, none⟩)) u = some (.int .i64 f.sz):=λ h => by rw [ld1_ptr, h.bk_some hyd id]; rfl
  have d2 : ∀ {u : World}, Fr (λ _ => False) wg u -> ld1 (.pointer (some ⟨y, 0 + 2, none⟩)) u = some (.int .i64 f.crc):=λ h => by rw [ld1_ptr, h.bk_some hyd id]; rfl
  have d3 : ∀ {u : World}, Fr (λ _ => False) wg u -> ld1 (.pointer (some ⟨y, 0 + 3, none⟩)) u = some (.string (sb f.md)):=λ h => by rw [ld1_ptr, h.bk_some hyd id]; rfl
  have f3g:=f3e.trans feg λ _ _ h => h.elim
  simp only [fieldA_ptr]
  rw [Run_getM, Run_bindO_some, Run_bind, Run_rdM]
  refine ⟨_, d0 (Fr.refl _ _), ?_⟩
  rw [Run_bindO_some, Run_bind, Run_rdM]
  refine ⟨_, d1 (Fr.refl _ _), ?_⟩
  rw [Run_bind]
  refine (itoaI (keepT f3g) (by omega) (by omega)).mono ?_
  rintro _ wh ⟨rfl, fh⟩
  rw [Run_getM, Run_bindO_some, Run_bind, Run_rdM]
  refine ⟨_, d2 fh, ?_⟩
  have f3h:=f3g.trans fh λ _ _ h => h.elim
  rw [Run_bind]
  refine (hex8I (keepT f3h) o3.1 o3.2).mono ?_
  rintro _ wi ⟨rfl, fi⟩
  have fgi:=fh.trans fi λ _ _ => id
  rw [Run_getM, Run_bindO_some, Run_bind, Run_rdM]
  refine ⟨_, d3 fgi, ?_⟩
  rw [Run_bind]
  refine (hex_run (s:=f.md) (by omega)).mono ?_
  rintro _ wj ⟨rfl, fj⟩
  have fgj:=fgi.trans fj λ _ _ => id
  rw [Run_getM, Run_bind]
  refine Run_bsl (k:=1) (vs:=[.string (sb FILE), .string (sb f.nm), .string (sb (Lib.decDigits f.sz.toNat)), .string (sb (eightL f.crc.toNat)), .string (sb (hexL f.md))]) (by rfl) (by intro v hv; simp only [List.mem_cons, List.not_mem_nil, or_false] at hv; rcases hv with rfl | rfl | rfl | rfl | rfl <;> rfl) rfl (by kernel_rfl) λ r wk hr fk _ => ?_
  have fek:=(feg.trans fgj λ _ _ => id).trans fk λ _ _ => id
  have e8 : (eightL f.crc.toNat).length = 8:=lowD_len _ _
  have ds:=dec_len (n:=f.sz.toNat) (by omega)
  have hhx:=hexL_len f.md
  have hFl : FILE.length = 4:=rfl
  have hrl:=row_len hfo
  have hj : joinL ([FILE, f.nm, Lib.decDigits f.sz.toNat, eightL f.crc.toNat, hexL f.md].map sb) (sb [32]) = rowL f:=join_five _ _ _ _ _
  rw [Run_getM, Run_bind]
  have hrli:=rl i
  refine (line_run (hBe.frm fek) (xs:=[FILE, f.nm, Lib.decDigits f.sz.toNat, eightL f.crc.toNat, hexL f.md]) hr.1 (by rw [hj]; simp [rowL, FILE]) (by simp) (by rw [hj]; omega) (by simp only [List.map_cons, List.map_nil, List.sum_cons, List.sum_nil, sb_size]; omega) (by rw [List.length_append]; omega)).mono ?_
  rintro _ wl ⟨hBl, fl⟩
  rw [hj] at hBl
  rw [Run_getM, Run_reqM, Run_reqM, Run_reqM, Run_reqM, Run_reqM, Run_reqM]
  refine ⟨d0 fh, d0 fgi, d0 fgj, d2 (Fr.refl _ _), d3 (Fr.refl _ _), d3 fh, ?_⟩
  rw [binV_int, intBin_add, wrap_succ' (by have:=hh.n; omega), Run_bindO_some, Run_ret, rowsL_snoc hf]
  refine ⟨rfl, ?_, (f3e.trans fek λ _ _ h => h.elim).trans fl λ _ _ h => h⟩
  rw [List.append_assoc] at hBl
  exact hBl
 ·rintro L we ⟨rfl, hBe, f3e⟩
  rw [List.take_length] at hBe
  have hil : ¬ ((m.fs.length : Nat) : Int) < m.fs.length:=by omega
  have hrl:=rl m.fs.length
  rw [List.take_length] at hrl
  rw [getL_zero, lssF hil, Run_bindO_some, Run_condM_false, Run_ret]
  simp only [outK_exit]
  rw [show Nat.beq 0 0 = true from rfl, cond_true, Run_bindO_some, Run_bind, Run_rdM]
  refine ⟨_, c4 (keepX f3e), ?_⟩
  rw [Run_bind]
  refine (itoaI (keepT f3e) (by have:=hh.tot; omega) (by have:=hh.tot; omega)).mono ?_
  rintro _ wf ⟨rfl, ff⟩
  have f3f:=f3e.trans ff λ _ _ h => h.elim
  have dt:=dec_len (n:=m.tot.toNat) (by have:=hh.tot; omega)
  refine line2 (hBe.frm ff) (by decide) (by decide) (by omega) (by rw [List.length_append]; omega) λ wg hBg fg => ?_
  have f3g:=f3f.trans fg λ _ _ h => h
  rw [Run_bindO_some, Run_bind, Run_rdM]
  refine ⟨_, c5 (keepX f3g), ?_⟩
  rw [Run_bind]
  refine (hex8I (keepT f3g) (by have:=hh.who; omega) (by have:=hh.who; omega)).mono ?_
  rintro _ wh ⟨rfl, fh⟩
  have f3h:=f3g.trans fh λ _ _ h => h.elim
  have e8 : (eightL m.who.toNat).length = 8:=lowD_len _ _
  have hTl : TOTAL.length = 5:=rfl
  refine line2 (hBg.frm fh) (by decide) (by decide) (by omega) (by simp only [List.length_append, List.length_singleton]; omega) λ wi hBi fi => ?_
  have f3i:=f3h.trans fi λ _ _ h => h
  have eM : manH m ++ rowsL m.fs ++ (TOTAL ++ [32] ++ Lib.decDigits m.tot.toNat ++ [10]) ++ (WHOLE ++ [32] ++ eightL m.who.toNat ++ [10]) = manL m:=by
   unfold manL manT
   rw [List.append_assoc (manH m ++ rowsL m.fs)]
  rw [eM] at hBi
  rw [Run_bind]
  refine (closed_run (keepT f3i) hBi (by simp [manL, manH, MANI]) (by omega) (λ c hc => by omega)).mono ?_
  rintro _ wj ⟨rfl, fj⟩
  rw [Run_ret]
  refine ⟨rfl, f13.trans (f3i.trans fj λ _ _ h => h) λ c hc hn => hn ?_⟩
  have:=f13.size
  omega
end
end Go.Proofs.YthlpfhjcdedhgaaGreatDoor
namespace Go.Proofs.YthlpfhjcdedhgaaGreatDoor
open Go.Lift Go.Sort
set_option linter.unusedSimpArgs false
set_option linter.unusedVariables false
set_option maxHeartbeats 4000000
def N0 : List UInt8:=[103, 114, 97, 110, 97, 114, 121, 32, 109, 97, 110, 105, 102, 101, 115, 116, 32, 49, 10, 115, 116, 111, 114, 101, 32]
def N1 : List UInt8:=[10, 118, 101, 114, 115, 105, 111, 110, 32]
def N2 : List UInt8:=[10, 110, 111, 100, 101, 32]
def N3 : List UInt8:=[10, 102, 105, 108, 101, 115, 32]
def R0 : List UInt8:=[102, 105, 108, 101, 32]
def Z0 : List UInt8:=[116, 111, 116, 97, 108, 32]
def Z1 : List UInt8:=[10, 119, 104, 111, 108, 101, 32]
theorem manH_parts (m : Mf) : manH m = N0 ++ m.st ++ N1 ++ Lib.decDigits m.ver.toNat ++ N2 ++ Lib.decDigits m.node.toNat ++ N3 ++ Lib.decDigits m.fs.length ++ [10]:=by
 simp [manH, MANI, STORE, VERSION, NODE, FILES, N0, N1, N2, N3]
theorem rowL_parts (f : Fl) : rowL f ++ [10] = R0 ++ f.nm ++ [32] ++ Lib.decDigits f.sz.toNat ++ [32] ++ eightL f.crc.toNat ++ [32] ++ hexL f.md ++ [10]:=by
 simp [rowL, FILE, R0]
theorem manT_parts (m : Mf) : manT m = Z0 ++ Lib.decDigits m.tot.toNat ++ Z1 ++ eightL m.who.toNat ++ [10]:=by
 simp [manT, TOTAL, WHOLE, Z0, Z1]
theorem pairs_no10 {e : List UInt8} {n : Nat} {bs : List UInt8} {c : UInt8} (hc : hvN c.toNat = none) (hl : e.length = 2 * n) (h : pairsF e n = some bs) : c ∉ e:=λ hm => by
 obtain ⟨j, hj⟩:=List.getElem?_of_mem hm
 have hjl:=(List.getElem?_eq_some_iff.1 hj).1
 have hp : pairV e (j / 2) = none:=by
  unfold pairV
  rcases Nat.mod_two_eq_zero_or_one j with h0 | h1
  ·rw [show 2 * (j / 2) = j by omega, hj]
   split
   ·rename_i a b h1 h2
    cases h1
    rw [hc]
   ·rfl
  ·rw [show 2 * (j / 2) + 1 = j by omega, hj]
   split
   ·rename_i a b h1 h2
    cases h2
    rw [hc]
    split <;> simp_all
   ·rfl
 rw [pairsF_bad hp (n:=n) (by omega)] at h
 cases h
section
variable {w w1 w2 : World}
structure RowF (t : List UInt8) (f : Fl) (dz ec eh : List UInt8) : Prop where
 txt : t = R0 ++ (f.nm ++ ([32] ++ (dz ++ ([32] ++ (ec ++ ([32] ++ eh))))))
 nm0 : f.nm ≠ []
 nm32 : (32 : UInt8) ∉ f.nm
 nm10 : (10 : UInt8) ∉ f.nm
 sz : ∃ z : Nat, numF dz = some z /\ f.sz = z
 crc : ∃ c : Nat, sumF ec = some c /\ f.crc = c
 md : eh.length = 32 /\ pairsF eh 16 = some f.md
def rowF (t : List UInt8) (f : Fl) : Prop:=∃ dz ec eh, RowF t f dz ec eh
end
def zFl : Fl:=⟨[], 0, 0, []⟩
def lnsL (ls : List (List UInt8)) : List UInt8:=(ls.map (· ++ [10])).flatten
structure MaForm (t : List UInt8) (m : Mf) (sm : Nat) (ls : List (List UInt8)) (d1 d2 d3 d4 e1 e : List UInt8) : Prop where
 txt : t = N0 ++ (m.st ++ (N1 ++ (d1 ++ (N2 ++ (d2 ++ (N3 ++ (d3 ++ ([10] ++ (lnsL ls ++ (Z0 ++ (d4 ++ (Z1 ++ (e1 ++ ([10] ++ (SUM ++ e ++ [10])))))))))))))))
 st0 : m.st ≠ []
 st32 : (32 : UInt8) ∉ m.st
 st10 : (10 : UInt8) ∉ m.st
 ver : ∃ v : Nat, numF d1 = some v /\ m.ver = v
 node : ∃ v : Nat, numF d2 = some v /\ m.node = v
 cnt : numF d3 = some m.fs.length
 tot : ∃ v : Nat, numF d4 = some v /\ m.tot = v
 who : ∃ v : Nat, sumF e1 = some v /\ m.who = v
 sum : sumF e = some sm
 len : ls.length = m.fs.length
 rows : ∀ (i : Nat) (t : List UInt8) (f : Fl), ls[i]? = some t -> m.fs[i]? = some f -> rowF t f
def maform (t : List UInt8) (m : Mf) (sm : Nat) : Prop:=∃ ls d1 d2 d3 d4 e1 e, MaForm t m sm ls d1 d2 d3 d4 e1 e
def zMf : Mf:=⟨[], 0, 0, [], 0, 0⟩
def codeM (t : List UInt8) (m : Mf) (sm : Nat) : Int:=if sm = crcF (sb (t.take (t.length - 13))) then holdsF m else 41
def resM (t : List UInt8) (m : Mf) (sm : Nat) : Mf:=if codeM t m sm = 0 then m else zMf
theorem lns_mem : ∀ {ls : List (List UInt8)} {x : List UInt8}, x ∈ ls -> x.length + 1 <= (lnsL ls).length
 | y :: ls, x, h => by
  have e : (lnsL (y :: ls)).length = y.length + 1 + (lnsL ls).length:=by simp [lnsL]; omega
  rcases List.mem_cons.1 h with rfl | h
  ·omega
  ·have:=lns_mem h; omega
theorem lns_cnt : ∀ (ls : List (List UInt8)), ls.length <= (lnsL ls).length
 | [] => by simp [lnsL]
 | y :: ls => by
  have e : (lnsL (y :: ls)).length = y.length + 1 + (lnsL ls).length:=by simp [lnsL]; omega
  have:=lns_cnt ls
  rw [List.length_cons]; omega
theorem rowF_len {t : List UInt8} {f : Fl} (h : rowF t f) : f.nm.length <= t.length /\ f.md.length = 16:=by
 obtain ⟨dz, ec, eh, h⟩:=h
 have e:=congrArg List.length h.txt
 simp only [List.length_append] at e
 exact ⟨by omega, pairsF_len h.md.2⟩
theorem maform_fit {t : List UInt8} {m : Mf} {sm : Nat} (h : maform t m sm) (hl : t.length <= 4294960000) : m.Fit:=by
 obtain ⟨ls, d1, d2, d3, d4, e1, e, h⟩:=h
 have ht:=congrArg List.length h.txt
 simp only [List.length_append] at ht
 refine ⟨by omega, λ f hf => ?_, ?_⟩
 ·obtain ⟨i, hi⟩:=List.getElem?_of_mem hf
  have hil : i < ls.length:=by rw [h.len]; exact (List.getElem?_eq_some_iff.1 hi).1
  have hr:=rowF_len (h.rows i _ f (List.getElem?_eq_getElem hil) hi)
  have:=lns_mem (List.getElem_mem hil)
  omega
 ·have:=lns_cnt ls
  rw [<- h.len]; omega
section
variable {w w1 w2 : World}
def ParM (w w' : World) (m : Mf) (c : Int) (r : Value) : Prop:=∃ v, r = .tuple #[.agg (mval m v).toArray, .int .i64 c] /\ SlW 4 w' v (m.fs.map Fl.row) /\ (∀ b, inB v b -> w.heap.size <= b /\ b < w'.heap.size) /\ Fr (λ _ => False) w w'
structure OwnR (w0 w : World) (v : Value) (fs : List Fl) : Prop where
 sl : SlW 4 w v (fs.map Fl.row)
 fresh : ∀ c, inB v c -> w0.heap.size <= c /\ c < w.heap.size
theorem OwnR.nil (w0 w : World) : OwnR w0 w (.slice none 0 0) []:=⟨SlW.nil _ _, λ _ h => h.elim⟩
theorem OwnR.frm {w0 : World} {v : Value} {fs : List Fl} {F : Nat -> Prop} (h : OwnR w0 w v fs) (f : Fr F w w2) (hF : ∀ c, F c -> c < w0.heap.size) : OwnR w0 w2 v fs :=
 ⟨h.sl.fr f λ c hc hf => by have:=(h.fresh c hc).1; have:=hF c hf; omega, λ c hc => ⟨(h.fresh c hc).1, Nat.lt_of_lt_of_le (h.fresh c hc).2 f.size⟩⟩
theorem mval_cell (m : Mf) {v : Value} (hv : isCell v = true) : (mval m v).toArray.toList.all isCell = true:=by
 simp [mval, hv]
theorem push_run {w0 : World} {x5 y : Nat} {l5 zs : List Value} {v : Value} {fs : List Fl} (h5 : bk w x5 = some l5) (hw5 : wr w x5 = true) (h3 : l5[3]? = some v) (h6 : l5.length = 6) (hx0 : x5 < w0.heap.size) (h0 : w0.heap.size <= w.heap.size)
  (hy : bk w y = some zs) (hyw : wr w y = true) (hzs : zs.length = 4) (hy0 : w0.heap.size <= y) (hyv : ¬ inB v y) (hO : OwnR w0 w v fs) (hn : fs.length <= 4294967296) (f : Fl) {β : Type} {K : M β} {Q : β -> World -> Prop}
  (q : ∀ w' r, bk w' x5 = some (l5.set 3 r) -> wr w' x5 = true -> isCell r = true -> OwnR w0 w' r (fs ++ [f]) -> Fr (λ c => c = x5 ∨ w0.heap.size <= c) w w' -> Run K w' Q) :
  Run (M.bind (stM 4 (.pointer (some ⟨y, 0, none⟩)) (.agg f.row.toArray)) λ _ =>
   bindO (fieldA 3 (.pointer (some ⟨x5, 0, none⟩))) λ x33 =>
   M.bind (rdM (ld1 x33)) λ x34 =>
   M.bind (rdM (ldA 4 (.pointer (some ⟨y, 0, none⟩)))) λ x35 =>
   M.bind (bslM 75 1 (Builtin.zeroCells #[(Value.string ByteArray.empty), (Value.int IntKind.i64 0), (Value.int IntKind.i64 0), (Value.string ByteArray.empty)] 1) [(0, 4, x35)]) λ x36 =>
   M.bind (appM 75 4 48 #[(Value.string ByteArray.empty), (Value.int IntKind.i64 0), (Value.int IntKind.i64 0), (Value.string ByteArray.empty)] x34 x36) λ x37 =>
   bindO (fieldA 3 (.pointer (some ⟨x5, 0, none⟩))) λ x38 =>
   M.bind (stM 1 x38 x37) λ _ => K) w Q:=by
 rw [Run_bind, Run_stA (n:=4) ⟨⟨⟨_, hy, by omega⟩, hyw⟩, rfl, f.row_cell⟩]
 rw [show f.row.toArray.toList = f.row from rfl]
 have lx:=bk_lt h5
 have fy : Fr (λ c => c = y) w (sto w y 0 f.row):=(show Fr (λ c => c = y) w w from Fr.refl _ _).sto (.inl rfl) _ _
 have hyb : bk (sto w y 0 f.row) y = some f.row:=by
  rw [bk_sto_same hy, setL_eq _ _ _ (by simp [Fl.row]; omega), List.drop_of_length_le (by simp [Fl.row]; omega)]
  simp
 have h5y:=fy.bk_some h5 (by omega)
 have hw5y : wr (sto w y 0 f.row) x5 = true:=by rw [wr_sto]; exact hw5
 have hOy : OwnR w0 (sto w y 0 f.row) v fs:=⟨hO.sl.fr fy λ c hc he => hyv (he ▸ hc), λ c hc => ⟨(hO.fresh c hc).1, by rw [size_sto]; exact (hO.fresh c hc).2⟩⟩
 have fy' : Fr (λ c => c = x5 ∨ w0.heap.size <= c) w (sto w y 0 f.row):=fy.mono λ c hc => .inr (by omega)
 generalize sto w y 0 f.row = w3 at *
 have ld : ld1 (.pointer (some ⟨x5, 0 + 3, none⟩)) w3 = some v:=by rw [ld1_ptr, h5y]; exact h3
 rw [fieldA_ptr, Run_bindO_some, Run_bind, Run_rdM]
 refine ⟨_, ld, ?_⟩
 rw [Run_bind, Run_rdM]
 refine ⟨.agg f.row.toArray, ldA_bk hyb (Nat.le_refl _), ?_⟩
 simp only [Run_bind]
 refine Run_app1 (k:=4) (y:=.agg f.row.toArray) (K:=λ _ r w' => Run (bindO (some (Value.pointer (some ⟨x5, 0 + 3, none⟩))) λ x38 => M.bind (stM 1 x38 r) λ _ => K) w' Q) rfl hOy.sl (by decide) rfl (by decide) f.row_cell (by simp only [List.length_map]; omega) λ r w4 hr f4 hin _ _ => ?_
 have lx3:=bk_lt h5y
 have nv5 : ¬ inB v x5:=λ h => by have:=(hOy.fresh _ h).1; omega
 have h54:=f4.bk_some h5y nv5
 have hw54 : wr w4 x5 = true:=by rw [f4.wr lx3 nv5]; exact hw5y
 have hrc:=hr.1.isCell
 rw [Run_bindO_some, Run_bind, Run_st1 ⟨⟨⟨_, h54, by omega⟩, hw54⟩, hrc⟩, Nat.zero_add]
 have f5 : Fr (λ c => c = x5) w4 (sto w4 x5 3 [r]):=(show Fr (λ c => c = x5) w4 w4 from Fr.refl _ _).sto (.inl rfl) _ _
 have s4:=f4.size
 have s3:=fy'.size
 have fresh4 : ∀ c, inB r c -> w0.heap.size <= c /\ c < w4.heap.size:=λ c hc => by
  rcases hin c hc with h | h
  ·have:=hOy.fresh c h; omega
  ·omega
 refine q _ r (by rw [bk_sto_same h54]; simp only [setL_cons, setL_nil]) (by rw [wr_sto]; exact hw54) hrc ⟨?_, λ c hc => by rw [size_sto]; exact fresh4 c hc⟩ ((fy'.trans (f4.mono λ c hc => (show c = x5 ∨ w0.heap.size <= c from .inr (hOy.fresh c hc).1)) λ _ _ h => h).trans f5 λ c _ hc => .inl hc)
 have hr' : SlW 4 w4 r ((fs ++ [f]).map Fl.row):=by
  rw [List.map_append]
  exact hr
 exact hr'.fr f5 λ c hc he => by have:=(fresh4 c hc).1; omega
end
abbrev nilS : Value:=.slice none 0 0
theorem num_no {d : List UInt8} {v : Nat} {c : UInt8} (hc : isD c = false) (h : numF d = some v) : c ∉ d:=λ hm => by
 have:=List.all_eq_true.1 (num_all h).1 c hm
 rw [hc] at this; cases this
theorem sum_no {e : List UInt8} {v : Nat} {c : UInt8} (hc : hvN c.toNat = none) (h : sumF e = some v) : c ∉ e:=by
 have hl:=(sum_no10 h).2
 unfold sumF at h
 rw [if_pos hl] at h
 cases hp : pairsF e 4 with
 | none => rw [hp] at h; cases h
 | some bs => exact pairs_no10 hc (n:=4) (by omega) hp
theorem row_words {s : List UInt8} {f : Fl} {dz ec eh : List UInt8} (h : RowF s f dz ec eh) : spl 32 s = [FILE, f.nm, dz, ec, eh]:=by
 have hs : s = jn 32 [FILE, f.nm, dz, ec, eh]:=by
  rw [h.txt]
  simp [jn, R0, FILE]
 obtain ⟨z, hz, _⟩:=h.sz
 obtain ⟨c, hc, _⟩:=h.crc
 rw [hs]
 refine spl_of 32 (by simp) λ x hx => ?_
 simp only [List.mem_cons, List.not_mem_nil, or_false] at hx
 rcases hx with rfl | rfl | rfl | rfl | rfl
 ·decide
 ·exact h.nm32
 ·exact num_no (by decide) hz
 ·exact sum_no (by decide) hc
 ·exact pairs_no10 (by decide) (n:=16) (by have:=h.md.1; omega) h.md.2
def rowC (N : List (List UInt8)) (f : Fl) : Prop:=∃ dz ec eh, N = [FILE, f.nm, dz, ec, eh] /\ f.nm ≠ [] /\ (∃ z : Nat, numF dz = some z /\ f.sz = z) /\ (∃ c : Nat, sumF ec = some c /\ f.crc = c) /\ eh.length = 32 /\ pairsF eh 16 = some f.md
theorem rowC_iff {s : List UInt8} (h10 : (10 : UInt8) ∉ s) {f : Fl} : rowF s f ↔ rowC (spl 32 s) f:=by
 constructor
 ·rintro ⟨dz, ec, eh, h⟩
  exact ⟨dz, ec, eh, row_words h, h.nm0, h.sz, h.crc, h.md.1, h.md.2⟩
 ·rintro ⟨dz, ec, eh, hN, h0, hz, hc, h1, h2⟩
  obtain ⟨hj, hno⟩:=spl_jn 32 s
  rw [hN] at hj hno
  refine ⟨dz, ec, eh, ?_, h0, hno f.nm (by simp), λ hm => h10 ?_, hz, hc, h1, h2⟩
  ·rw [<- hj]; simp [jn, R0, FILE]
  ·rw [<- hj]; simp [jn, hm]
section
variable {w w1 w2 : World}
theorem row_run (ht : Tb w) {s : List UInt8} (hs : s.length <= 4294967000) (h10 : (10 : UInt8) ∉ s) : Run (F.paper_row (.string (sb s))) w λ r w' => (∃ f b, r = .tuple #[.agg f.row.toArray, .bool b] /\ (b = true -> rowF s f) /\ ∀ f', rowF s f' -> b = true /\ f = f') /\ Fr (λ _ => False) w w':=by
 unfold F.paper_row
 have z0 : buildV #[(Value.string ByteArray.empty), (Value.int IntKind.i64 0), (Value.int IntKind.i64 0), (Value.string ByteArray.empty)] [] = some (.agg zFl.row.toArray):=rfl
 have e32 : ByteArray.mk #[32] = sb [32]:=rfl
 have e0 : ByteArray.mk #[] = sb []:=rfl
 have eF : ByteArray.mk #[102, 105, 108, 101] = sb FILE:=rfl
 have y0 : ∀ v x, extV 0 (.tuple #[v, x]) = some v:=λ _ _ => rfl
 have y1 : ∀ v x, extV 1 (.tuple #[v, x]) = some x:=λ _ _ => rfl
 rw [e32, e0, eF, Run_bind]
 refine Run_new λ x w1 hx hxw f1 hxle => ?_
 replace hx : bk w1 x = some zFl.row:=hx
 rw [Run_bind]
 refine (split_run (ht.fr0 f1) s 32 (by omega)).mono ?_
 rintro v w2 ⟨hv, f2, hn2⟩
 have f12:=f1.trans f2 λ _ _ => id
 have hiff:=λ f => rowC_iff (f:=f) h10
 have hjn:=spl_jn 32 s
 generalize spl 32 s = N at *
 have hlv:=hv.1.lenL
 rw [List.length_map] at hlv
 have hlen : ∀ y ∈ N, y.length <= s.length:=λ y hy => by
  have : ∀ (N : List (List UInt8)), y ∈ N -> y.length <= (jn 32 N).length:=λ N => by
   induction N with
   | nil => intro h; cases h
   | cons z r ih =>
    intro h
    by_cases hr : r = []
    ·subst hr; simp at h; subst h; simp [jn]
    ·rw [jn_cons 32 hr, List.length_append, List.length_append]
     rcases List.mem_cons.1 h with rfl | h
     ·omega
     ·have:=ih h; omega
  have:=this N hy
  rwa [hjn.1] at this
 have no : (∀ f, ¬ rowC N f) -> ∀ {u : World}, Fr (λ _ => False) w1 u -> Run (bindO (some (Value.agg zFl.row.toArray)) λ x15 =>
  M.bind (stM 4 (.pointer (some ⟨x, 0, none⟩)) x15) λ _ =>
  M.bind (rdM (ldA 4 (.pointer (some ⟨x, 0, none⟩)))) λ x17 =>
  M.ret (Value.tuple #[x17, (Value.bool false)])) u λ r w' => (∃ f b, r = .tuple #[.agg f.row.toArray, .bool b] /\ (b = true -> rowF s f) /\ ∀ f', rowF s f' -> b = true /\ f = f') /\ Fr (λ _ => False) w w':=λ hno {u} f => by
  rw [Run_bindO_some]
  simp only [Run_bind]
  refine finN_run (f.bk_some hx id) (by rw [f.wr (bk_lt hx) id]; exact hxw) zFl.row.toArray rfl rfl zFl.row_cell λ w3 f3 => ?_
  rw [Run_ret]
  exact ⟨⟨zFl, false, rfl, λ h => Bool.noConfusion h, λ f' hf => absurd ((hiff f').1 hf) (hno f')⟩, (f1.trans f λ _ _ => id).new f3 λ c hc => hc ▸ hxle⟩
 rw [hlv, Run_bindO_some, binV_int, intBin_neq, Run_bindO_some]
 by_cases h5 : N.length = 5
 case neg =>
  have h5' : ¬ ((N.length : Nat) : Int) = 5:=by omega
  rw [decide_eq_false h5', Bool.not_false]
  simp only [Run_bind, Run_guardM_tf, pickV_bool, cond_true, Run_bindO_some, Run_condM_true]
  rw [z0]
  have:=no (λ f hc => by obtain ⟨_, _, _, hN, _⟩:=hc; rw [hN] at h5; exact h5 rfl) f2
  simp only [Run_bindO_some, Run_bind] at this ⊢
  exact this
 obtain ⟨x0, x1, x2, x3, x4, rfl⟩ : ∃ x0 x1 x2 x3 x4, N = [x0, x1, x2, x3, x4]:=by
  match N, h5 with
  | [x0, x1, x2, x3, x4], _ => exact ⟨_, _, _, _, _, rfl⟩
 have e5 : (!decide (((([x0, x1, x2, x3, x4] : List (List UInt8)).length : Nat) : Int) = 5)) = false:=rfl
 rw [e5]
 obtain ⟨q0, a0, b0⟩:=hv.1.rd1 (i:=0) (y:=.string (sb x0)) rfl .i64
 obtain ⟨q1, a1, b1⟩:=hv.1.rd1 (i:=1) (y:=.string (sb x1)) rfl .i64
 have a0' : idxA 1 v (.int .i64 0) = some q0:=a0
 have a1' : idxA 1 v (.int .i64 1) = some q1:=a1
 simp only [Run_bind, Run_guardM_ff, Run_ret, a0', Run_optM_some, Run_rdM]
 refine ⟨_, b0, ?_⟩
 rw [sbNe, Run_optM_some]
 simp only [pickV_bool, cond_false, Run_bindO_some]
 by_cases hF : x0 = FILE
 case neg =>
  rw [decide_eq_false hF, Bool.not_false]
  simp only [Run_bind, Run_guardM_tf, pickV_bool, cond_true, Run_bindO_some, Run_condM_true]
  rw [z0]
  have:=no (λ f hc => by obtain ⟨_, _, _, hN, _⟩:=hc; simp only [List.cons.injEq] at hN; exact hF hN.1) f2
  simp only [Run_bindO_some, Run_bind] at this ⊢
  exact this
 rw [decide_eq_true hF, Bool.not_true]
 simp only [Run_bind, Run_guardM_ff, Run_ret, a1', Run_optM_some, Run_rdM]
 refine ⟨_, b1, ?_⟩
 rw [sbEq, Run_optM_some]
 simp only [pickV_bool, cond_false, Run_bindO_some]
 by_cases h0 : x1 = []
 case pos =>
  rw [decide_eq_true h0, Run_condM_true, z0]
  have:=no (λ f hc => by obtain ⟨_, _, _, hN, hne, _⟩:=hc; simp only [List.cons.injEq] at hN; exact hne (by rw [<- hN.2.1]; exact h0)) f2
  simp only [Run_bindO_some, Run_bind] at this ⊢
  exact this
 rw [decide_eq_false h0, Run_condM_false]
 obtain ⟨q2, a2, b2⟩:=hv.1.rd1 (i:=2) (y:=.string (sb x2)) rfl .i64
 have a2' : idxA 1 v (.int .i64 2) = some q2:=a2
 rw [a2', Run_bindO_some, Run_bind, Run_rdM]
 refine ⟨_, b2, ?_⟩
 rw [Run_bind]
 refine (number_run x2 (by have:=hlen x2 (by simp); omega)).mono ?_
 rintro _ w3 ⟨rfl, f3⟩
 have e : ∀ o, extV 0 (numV o) = some (.int .i64 ((o.getD 0 : Nat) : Int)):=λ _ => rfl
 have e' : ∀ o, extV 1 (numV o) = some (.bool o.isSome):=λ _ => rfl
 have hv3:=hv.1.fr0 f3
 obtain ⟨q3, a3, b3⟩:=hv3.rd1 (i:=3) (y:=.string (sb x3)) rfl .i64
 have a3' : idxA 1 v (.int .i64 3) = some q3:=a3
 rw [e, Run_bindO_some, e', Run_bindO_some, a3', Run_bindO_some, Run_bind, Run_rdM]
 refine ⟨_, b3, ?_⟩
 rw [Run_bind]
 refine (sumOf_run (by have:=hlen x3 (by simp); omega)).mono ?_
 rintro _ w4 ⟨rfl, f4⟩
 have hv4:=hv3.fr0 f4
 obtain ⟨q4, a4, b4⟩:=hv4.rd1 (i:=4) (y:=.string (sb x4)) rfl .i64
 have a4' : idxA 1 v (.int .i64 4) = some q4:=a4
 rw [e, Run_bindO_some, e', Run_bindO_some, a4', Run_bindO_some, Run_bind, Run_rdM]
 refine ⟨_, b4, ?_⟩
 rw [Run_bind]
 refine (punhex_run (n:=16) (by decide) (by have:=hlen x4 (by simp); omega)).mono ?_
 rintro r5 w5 ⟨hr5, f5⟩
 have hv5:=hv4.fr0 f5
 obtain ⟨q1', a1'', b1'⟩:=hv5.rd1 (i:=1) (y:=.string (sb x1)) rfl .i64
 have a15 : idxA 1 v (.int .i64 1) = some q1':=a1''
 obtain rfl : q1' = q1:=Option.some.inj (a15.symm.trans a1')
 have f25:=((f2.trans f3 λ _ _ => id).trans f4 λ _ _ => id).trans f5 λ _ _ => id
 obtain ⟨md, hmd⟩ : ∃ md : List UInt8, r5 = .tuple #[.string (sb md), .bool (if x4.length = 2 * 16 then pairsF x4 16 else none).isSome] /\ ((if x4.length = 2 * 16 then pairsF x4 16 else none).isSome = true -> x4.length = 32 /\ pairsF x4 16 = some md):=by
  by_cases h32 : x4.length = 2 * 16
  ·rw [if_pos h32] at hr5 ⊢
   cases hp : pairsF x4 16 with
   | some b => rw [hp] at hr5; exact ⟨b, hr5, λ _ => ⟨by omega, rfl⟩⟩
   | none => rw [hp] at hr5; exact ⟨[], hr5, λ h => Bool.noConfusion h⟩
  ·rw [if_neg h32] at hr5 ⊢
   exact ⟨[], hr5, λ h => Bool.noConfusion h⟩
 rw [hmd.1, y0, Run_bindO_some, y1, Run_bindO_some, Run_bindO_some, Run_bind, Run_rdM]
 refine ⟨_, b1', ?_⟩
 have hb : buildV #[(Value.string ByteArray.empty), (Value.int IntKind.i64 0), (Value.int IntKind.i64 0), (Value.string ByteArray.empty)] [(0, 1, .string (sb x1)), (1, 1, .int .i64 (((numF x2).getD 0 : Nat) : Int)), (2, 1, .int .i64 (((sumF x3).getD 0 : Nat) : Int)), (3, 1, .string (sb md))] = some (.agg (Fl.row ⟨x1, (((numF x2).getD 0 : Nat) : Int), (((sumF x3).getD 0 : Nat) : Int), md⟩).toArray):=rfl
 rw [hb, Run_bindO_some]
 have fin : ∀ B : Bool, B = ((numF x2).isSome && ((sumF x3).isSome && (if x4.length = 2 * 16 then pairsF x4 16 else none).isSome)) -> Run (M.bind (stM 4 (.pointer (some ⟨x, 0, none⟩)) (.agg (Fl.row ⟨x1, (((numF x2).getD 0 : Nat) : Int), (((sumF x3).getD 0 : Nat) : Int), md⟩).toArray)) λ _ =>
  M.bind (rdM (ldA 4 (.pointer (some ⟨x, 0, none⟩)))) λ x41 =>
  M.ret (Value.tuple #[x41, .bool B])) w5 λ r w' => (∃ f b, r = .tuple #[.agg f.row.toArray, .bool b] /\ (b = true -> rowF s f) /\ ∀ f', rowF s f' -> b = true /\ f = f') /\ Fr (λ _ => False) w w':=λ B hB => by
  simp only [Run_bind]
  refine finN_run (f25.bk_some hx id) (by rw [f25.wr (bk_lt hx) id]; exact hxw) _ rfl rfl (Fl.row_cell _) λ w6 f6 => ?_
  rw [Run_ret]
  refine ⟨⟨_, B, rfl, λ hBt => ?_, λ f' hf => ?_⟩, (f1.trans f25 λ _ _ => id).new f6 λ c hc => hc ▸ hxle⟩
  ·rw [hB] at hBt
   simp only [Bool.and_eq_true] at hBt
   obtain ⟨h1, h2, h3⟩:=hBt
   obtain ⟨z, hz⟩:=Option.isSome_iff_exists.1 h1
   obtain ⟨c, hc⟩:=Option.isSome_iff_exists.1 h2
   obtain ⟨m1, m2⟩:=hmd.2 h3
   refine (hiff _).2 ⟨x2, x3, x4, by rw [hF], h0, ⟨z, hz, by rw [hz]; rfl⟩, ⟨c, hc, by rw [hc]; rfl⟩, m1, m2⟩
  ·have hc:=(hiff f').1 hf
   obtain ⟨dz, ec, eh, hN, _, ⟨z, a1, a2⟩, ⟨c, b1, b2⟩, m1, m2⟩:=hc
   simp only [List.cons.injEq, and_true] at hN
   obtain ⟨_, rfl, rfl, rfl, rfl⟩:=hN
   have h32 : x4.length = 2 * 16:=by omega
   have hBt : B = true:=by
    rw [hB, a1, b1, if_pos h32, m2]; rfl
   have hmm:=hmd.2 (by rw [if_pos h32, m2]; rfl)
   have hmd' : md = f'.md:=by rw [m2] at hmm; exact (Option.some.inj hmm.2).symm
   refine ⟨hBt, ?_⟩
   rw [a1, b1, hmd']
   show (⟨f'.nm, (z : Int), (c : Int), f'.md⟩ : Fl) = f'
   rw [<- a2, <- b2]
 cases hn : (numF x2).isSome with
 | false =>
  simp only [Run_bind, Run_guardM_ft, pickV_bool, cond_false, Run_bindO_some]
  have:=fin false (by rw [hn]; rfl)
  simp only [Run_bind, Run_ret] at this
  try simp only [Run_bind, Run_ret]
  exact this
 | true =>
  simp only [Run_bind, Run_guardM_tt, Run_ret, pickV_bool, cond_true, Run_bindO_some]
  cases hs2 : (sumF x3).isSome with
  | false =>
   simp only [Run_bind, Run_guardM_ft, pickV_bool, cond_false, Run_bindO_some]
   have:=fin false (by rw [hn, hs2]; rfl)
   simp only [Run_bind, Run_ret] at this
   try simp only [Run_bind, Run_ret]
   exact this
  | true =>
   simp only [Run_bind, Run_guardM_tt, Run_ret, pickV_bool, cond_true, Run_bindO_some]
   have:=fin _ (by rw [hn, hs2, Bool.true_and, Bool.true_and])
   simp only [Run_bind, Run_ret] at this
   try simp only [Run_bind, Run_ret]
   exact this
end
def wdF (word : List UInt8) : Fd:=⟨word, 0, 0, 0, .nilFunc⟩
def WH6 : List UInt8:=[119, 104, 111, 108, 101, 32]
def whoO (l : List UInt8) : Option Nat:=if WH6 <+: l then sumF (l.drop 6) else none
def headF (N : List (List UInt8)) (m : Mf) (ls : List (List UInt8)) : Prop:=∃ x0 x1 x2 x3 y0 y1, ∃ v1 v2 v4 v5 : Nat, N = x0 :: x1 :: x2 :: x3 :: (ls ++ [y0, y1]) /\ nameF STORE x0 = some m.st /\ (fldO (wdF VERSION) x1 = some v1 /\ m.ver = v1) /\ (fldO (wdF NODE) x2 = some v2 /\ m.node = v2) /\ fldO (wdF FILES) x3 = some ls.length /\ (fldO (wdF TOTAL) y0 = some v4 /\ m.tot = v4) /\ (whoO y1 = some v5 /\ m.who = v5)
theorem split_ends {N : List (List UInt8)} (h : 6 <= N.length) : ∃ x0 x1 x2 x3 ls y0 y1, N = x0 :: x1 :: x2 :: x3 :: (ls ++ [y0, y1]):=by
 match N, h with
 | x0 :: x1 :: x2 :: x3 :: R, h =>
  rcases List.eq_nil_or_concat R with rfl | ⟨R1, y1, rfl⟩
  ·simp at h
  rcases List.eq_nil_or_concat R1 with rfl | ⟨R2, y0, rfl⟩
  ·simp at h
  exact ⟨x0, x1, x2, x3, R2, y0, y1, by simp⟩
structure HS (w0 w : World) (v : Value) (N : List (List UInt8)) (x2 x4 : Nat) (l2 l4 : List Value) : Prop where
 sl : Sl 1 w v (N.map λ s => [.string (sb s)])
 b2 : bk w x2 = some l2
 w2 : wr w x2 = true
 b4 : bk w x4 = some l4
 w4 : wr w x4 = true
 n2 : l2.length = 6
 n4 : l4.length = 6
 ne : x2 ≠ x4
 v2 : ¬ inB v x2
 v4 : ¬ inB v x4
 fr : Fr (λ c => c = x2 ∨ c = x4) w0 w
section
variable {w w1 w2 : World}
section
variable {w0 : World} {v : Value} {N : List (List UInt8)} {x2 x4 : Nat} {l2 l4 : List Value} {β : Type}
theorem HS.frm (h : HS w0 w v N x2 x4 l2 l4) (f : Fr (λ _ => False) w w2) : HS w0 w2 v N x2 x4 l2 l4 :=
 ⟨h.sl.fr0 f, f.bk_some h.b2 id, by rw [f.wr (bk_lt h.b2) id]; exact h.w2, f.bk_some h.b4 id, by rw [f.wr (bk_lt h.b4) id]; exact h.w4, h.n2, h.n4, h.ne, h.v2, h.v4, h.fr.trans f λ _ _ h => h.elim⟩
theorem HS.set2 (h : HS w0 w v N x2 x4 l2 l4) {i : Nat} (hi : i < 6) {y : Value} (hy : isCell y = true) {K : M β} {Q : β -> World -> Prop} (q : ∀ w', HS w0 w' v N x2 x4 (l2.set i y) l4 -> Run K w' Q) :
  Run (bindO (nilChk (.pointer (some ⟨x2, 0, none⟩))) λ x10 => bindO (fieldA i x10) λ x11 => M.bind (stM 1 x11 y) λ _ => K) w Q:=by
 rw [nilChk_ptr, Run_bindO_some, fieldA_ptr, Run_bindO_some, Run_bind, Run_st1 ⟨⟨⟨l2, h.b2, by rw [h.n2]; omega⟩, h.w2⟩, hy⟩, Nat.zero_add]
 have f : Fr (λ c => c = x2) w (sto w x2 i [y]):=(show Fr (λ c => c = x2) w w from Fr.refl _ _).sto (.inl rfl) _ _
 exact q _ ⟨h.sl.fr f λ c hc he => h.v2 (he ▸ hc), by rw [bk_sto_same h.b2]; simp only [setL_cons, setL_nil], by rw [wr_sto]; exact h.w2, f.bk_some h.b4 λ e => h.ne e.symm, by rw [wr_sto]; exact h.w4, by rw [List.length_set]; exact h.n2, h.n4, h.ne, h.v2, h.v4, h.fr.trans f λ _ _ h => .inl h⟩
theorem HS.set4 (h : HS w0 w v N x2 x4 l2 l4) {i : Nat} (hi : i < 6) {y : Bool} {K : M β} {Q : β -> World -> Prop} (q : ∀ w', HS w0 w' v N x2 x4 l2 (l4.set i (.bool y)) -> Run K w' Q) :
  Run (bindO (idxR 6 1 (.pointer (some ⟨x4, 0, none⟩)) (.int .i64 (i : Int))) λ x13 => M.bind (stM 1 x13 (.bool y)) λ _ => K) w Q:=by
 have hix : idxR 6 1 (.pointer (some ⟨x4, 0, none⟩)) (.int .i64 (i : Int)) = some (.pointer (some ⟨x4, i, none⟩)):=by
  have h2 : (i : Int) < 6:=by omega
  simp [h2]
 rw [hix, Run_bindO_some, Run_bind, Run_st1 ⟨⟨⟨l4, h.b4, by rw [h.n4]; omega⟩, h.w4⟩, rfl⟩]
 have f : Fr (λ c => c = x4) w (sto w x4 i [.bool y]):=(show Fr (λ c => c = x4) w w from Fr.refl _ _).sto (.inl rfl) _ _
 exact q _ ⟨h.sl.fr f λ c hc he => h.v4 (he ▸ hc), f.bk_some h.b2 h.ne, by rw [wr_sto]; exact h.w2, by rw [bk_sto_same h.b4]; simp only [setL_cons, setL_nil], by rw [wr_sto]; exact h.w4, h.n2, by rw [List.length_set]; exact h.n4, h.ne, h.v2, h.v4, h.fr.trans f λ _ _ h => .inr h⟩
theorem HS.num (h : HS w0 w v N x2 x4 l2 l4) {j : Nat} {s word : List UInt8} (hj : N[j]? = some s) (hs : s.length <= 4611686018427387904) (hw : word.length <= 100) {K : Value -> Value -> M β} {Q : β -> World -> Prop} (q : ∀ w', HS w0 w' v N x2 x4 l2 l4 -> Run (K (.int .i64 (((fldO (wdF word) s).getD 0 : Nat) : Int)) (.bool (fldO (wdF word) s).isSome)) w' Q) :
  Run (bindO (idxA 1 v (.int .i64 (j : Int))) λ x15 => M.bind (rdM (ld1 x15)) λ x16 => M.bind (F.paper_numberOf x16 (.string (sb word))) λ x17 => bindO (extV 0 x17) λ x18 => bindO (extV 1 x17) λ x19 => K x18 x19) w Q:=by
 obtain ⟨p, p1, p2⟩:=h.sl.rd1 (i:=j) (y:=.string (sb s)) (by simp [hj]) .i64
 have p1' : idxA 1 v (.int .i64 (j : Int)) = some p:=p1
 have e : ∀ o, extV 0 (numV o) = some (.int .i64 ((o.getD 0 : Nat) : Int)):=λ _ => rfl
 have e' : ∀ o, extV 1 (numV o) = some (.bool o.isSome):=λ _ => rfl
 rw [p1', Run_bindO_some, Run_bind, Run_rdM]
 refine ⟨_, p2, ?_⟩
 rw [Run_bind]
 refine (numberOf_run (f:=wdF word) hs hw).mono ?_
 rintro _ w' ⟨rfl, f⟩
 rw [e, Run_bindO_some, e', Run_bindO_some]
 exact q w' (h.frm f)
end
theorem head_run {v : Value} {N : List (List UInt8)} (hv : Sl 1 w v (N.map λ s => [.string (sb s)])) {x2 : Nat} (h2 : bk w x2 = some (mval zMf nilS)) (hw2 : wr w x2 = true) (hv2 : ¬ inB v x2) (hN : N.length <= 4611686018427387904) (hNl : ∀ s ∈ N, s.length <= 4611686018427387904) (hvw : ∀ c, inB v c -> c < w.heap.size) :
  Run (F.paper_head v (.pointer (some ⟨x2, 0, none⟩))) w λ r w' => (∃ v' ok m0, r = .tuple #[v', .bool ok] /\ bk w' x2 = some (mval m0 nilS) /\ wr w' x2 = true /\ m0.fs = [] /\
   (ok = true -> ∃ ls, headF N m0 ls /\ Sl 1 w' v' (ls.map λ s => [.string (sb s)]) /\ ∀ c, inB v' c -> inB v c) /\ ∀ m ls, headF N m ls -> ok = true /\ m0 = { m with fs:=[] }) /\ Fr (λ c => c = x2) w w':=by
 unfold F.paper_head
 have hvl:=hv.lenL
 rw [List.length_map] at hvl
 rw [hvl, Run_bindO_some, binV_int, intBin_lss, Run_bindO_some]
 by_cases h6 : 6 <= N.length
 case neg =>
  have h6' : ((N.length : Nat) : Int) < 6:=by omega
  rw [decide_eq_true h6', Run_condM_true, Run_ret]
  refine ⟨⟨_, false, zMf, rfl, h2, hw2, rfl, λ h => Bool.noConfusion h, λ m ls hh => ?_⟩, Fr.refl _ _⟩
  obtain ⟨x0, x1, x2, x3, y0, y1, v1, v2, v4, v5, rfl, _⟩:=hh
  simp at h6
 have h6' : ¬ ((N.length : Nat) : Int) < 6:=by omega
 obtain ⟨x0, x1, x2', x3, ls, y0, y1, rfl⟩:=split_ends h6
 have eS : ByteArray.mk #[115, 116, 111, 114, 101] = sb STORE:=rfl
 have eV : ByteArray.mk #[118, 101, 114, 115, 105, 111, 110] = sb VERSION:=rfl
 have eN : ByteArray.mk #[110, 111, 100, 101] = sb NODE:=rfl
 have eF : ByteArray.mk #[102, 105, 108, 101, 115] = sb FILES:=rfl
 have eT : ByteArray.mk #[116, 111, 116, 97, 108] = sb TOTAL:=rfl
 have eW : ByteArray.mk #[119, 104, 111, 108, 101, 32] = sb WH6:=rfl
 have p0 : ∀ v x, extV 0 (.tuple #[v, x]) = some v:=λ _ _ => rfl
 have p1 : ∀ v x, extV 1 (.tuple #[v, x]) = some x:=λ _ _ => rfl
 rw [decide_eq_false h6', Run_condM_false, eS, eV, eN, eF, eT, eW, Run_bindO_some, Run_bind]
 refine Run_new λ x4 w1 hx4 hw4 f1 hx4le => ?_
 have lx2:=bk_lt h2
 have n0 : HS w1 w1 v (x0 :: x1 :: x2' :: x3 :: (ls ++ [y0, y1])) x2 x4 (mval zMf nilS) [.bool false, .bool false, .bool false, .bool false, .bool false, .bool false] :=
  ⟨hv.fr0 f1, f1.bk_some h2 id, by rw [f1.wr lx2 id]; exact hw2, hx4, hw4, rfl, rfl, by omega, hv2, λ h => by have:=hvw _ h; omega, Fr.refl _ _⟩
 obtain ⟨q0, a0, b0⟩:=n0.sl.rd1 (i:=0) (y:=.string (sb x0)) rfl .i64
 have a0' : idxA 1 v (.int .i64 0) = some q0:=a0
 rw [a0', Run_bindO_some, Run_bind, Run_rdM]
 refine ⟨_, b0, ?_⟩
 rw [Run_bind]
 refine (nameOf_run (by decide)).mono ?_
 rintro _ wz ⟨rfl, hwz⟩
 rw [hwz, p0, Run_bindO_some, p1, Run_bindO_some]
 refine n0.set2 (i:=0) (by decide) rfl λ ws n1 => ?_
 refine n1.set4 (i:=0) (by decide) λ ws n1 => ?_
 refine n1.num (j:=1) rfl (hNl _ (by simp)) (by decide) λ ws n2 => ?_
 refine n2.set2 (i:=1) (by decide) rfl λ ws n2 => ?_
 refine n2.set4 (i:=1) (by decide) λ ws n2 => ?_
 refine n2.num (j:=2) rfl (hNl _ (by simp)) (by decide) λ ws n3 => ?_
 refine n3.set2 (i:=2) (by decide) rfl λ ws n3 => ?_
 refine n3.set4 (i:=2) (by decide) λ ws n3 => ?_
 refine n3.num (j:=3) rfl (hNl _ (by simp)) (by decide) λ ws n4 => ?_
 refine n4.set4 (i:=3) (by decide) λ ws n4 => ?_
 have hlen : (x0 :: x1 :: x2' :: x3 :: (ls ++ [y0, y1])).length = ls.length + 6:=by simp
 rw [hlen] at hvl hN ⊢
 have wa : IntKind.i64.wrap (((ls.length + 6 : Nat) : Int) - 2) = ((ls.length + 4 : Nat) : Int):=by rw [show ((ls.length + 6 : Nat) : Int) - 2 = ((ls.length + 4 : Nat) : Int) by omega]; exact i64W (by omega)
 have wb : IntKind.i64.wrap (((ls.length + 6 : Nat) : Int) - 1) = ((ls.length + 5 : Nat) : Int):=by rw [show ((ls.length + 6 : Nat) : Int) - 1 = ((ls.length + 5 : Nat) : Int) by omega]; exact i64W (by omega)
 have wc : IntKind.i64.wrap (((ls.length + 6 : Nat) : Int) - 6) = ((ls.length : Nat) : Int):=by rw [show ((ls.length + 6 : Nat) : Int) - 6 = ((ls.length : Nat) : Int) by omega]; exact i64W (by omega)
 have gy0 : (x0 :: x1 :: x2' :: x3 :: (ls ++ [y0, y1]))[ls.length + 4]? = some y0:=by
  simp
 have gy1 : (x0 :: x1 :: x2' :: x3 :: (ls ++ [y0, y1]))[ls.length + 5]? = some y1:=by
  simp
 rw [binV_int, intBin_sub, wa, Run_bindO_some]
 refine n4.num (j:=ls.length + 4) gy0 (hNl _ (by simp)) (by decide) λ ws n5 => ?_
 refine n5.set2 (i:=4) (by decide) rfl λ ws n5 => ?_
 refine n5.set4 (i:=4) (by decide) λ ws n5 => ?_
 obtain ⟨q5, a5, b5⟩:=n5.sl.rd1 (i:=ls.length + 5) (y:=.string (sb y1)) (by rw [List.getElem?_map, gy1]; rfl) .i64
 have a5' : idxA 1 v (.int .i64 ((ls.length + 5 : Nat) : Int)) = some q5:=a5
 rw [binV_int, intBin_sub, wb, Run_bindO_some, a5', Run_bindO_some, Run_bind, Run_rdM]
 refine ⟨_, b5, ?_⟩
 rw [Run_bind]
 refine ⟨_, _, cutp_run y1 WH6, ?_⟩
 show Run (bindO (extV 0 (.tuple #[.string (sb (Lib.trimPrefix y1 WH6)), .bool (decide (WH6 <+: y1))])) _) ws _
 have hy1l:=hNl y1 (by simp)
 have htl : (Lib.trimPrefix y1 WH6).length <= 4611686018427387904:=by
  unfold Lib.trimPrefix
  split
  ·rw [List.length_drop]; omega
  ·omega
 have e : ∀ o, extV 0 (numV o) = some (.int .i64 ((o.getD 0 : Nat) : Int)):=λ _ => rfl
 have e' : ∀ o, extV 1 (numV o) = some (.bool o.isSome):=λ _ => rfl
 rw [p0, Run_bindO_some, p1, Run_bindO_some, Run_bind]
 refine (sumOf_run htl).mono ?_
 rintro _ wt ⟨rfl, ft⟩
 have n6:=n5.frm ft
 rw [e, Run_bindO_some, e', Run_bindO_some]
 refine n6.set2 (i:=5) (by decide) rfl λ wu n7 => ?_
 refine n7.set4 (i:=5) (by decide) λ wu n7 => ?_
 rw [Run_drewM]
 have n8:=n7.frm (show Fr (λ _ => False) wu wu.drew from (Fr.refl _ _).drew)
 generalize wu.drew = wv at *
 obtain ⟨vm, m1, m2, m3⟩:=sl_mid n8.sl (a:=4) (b:=ls.length + 4) (by omega) (by rw [List.length_map, hlen]; omega) .i64
 have m1' : sliceV 1 v (some (.int .i64 4)) (some (.int .i64 ((ls.length + 4 : Nat) : Int))) = some vm:=m1
 have m2' : Sl 1 wv vm (ls.map λ s => [.string (sb s)]):=by
  have e2 : ((((x0 :: x1 :: x2' :: x3 :: (ls ++ [y0, y1])).map λ s => [Value.string (sb s)]).take (ls.length + 4)).drop 4) = ls.map λ s => [Value.string (sb s)]:=by
   simp
  rwa [e2] at m2
 have hfr : Fr (λ c => c = x2) w wv:=(f1.mono λ _ h => h.elim).trans n8.fr λ c hc h => h.elim id λ h => by omega
 rw [Run_bindO_some, m1', Run_bindO_some]
 obtain ⟨b0, hb0⟩ : ∃ b, (nameF STORE x0).isSome = b:=⟨_, rfl⟩
 obtain ⟨b1, hb1⟩ : ∃ b, (fldO (wdF VERSION) x1).isSome = b:=⟨_, rfl⟩
 obtain ⟨b2, hb2⟩ : ∃ b, (fldO (wdF NODE) x2').isSome = b:=⟨_, rfl⟩
 obtain ⟨b3, hb3⟩ : ∃ b, (fldO (wdF FILES) x3).isSome = b:=⟨_, rfl⟩
 obtain ⟨b4, hb4⟩ : ∃ b, (fldO (wdF TOTAL) y0).isSome = b:=⟨_, rfl⟩
 obtain ⟨b5', hb5⟩ : ∃ b, (sumF (Lib.trimPrefix y1 WH6)).isSome = b:=⟨_, rfl⟩
 have fin : ∀ B : Bool, B = (decide (WH6 <+: y1) && (decide ((fldO (wdF FILES) x3).getD 0 = ls.length) && (b0 && b1 && b2 && b3 && b4 && b5'))) -> (∃ v' ok m0, (Value.tuple #[vm, .bool B]) = .tuple #[v', .bool ok] /\ bk wv x2 = some (mval m0 nilS) /\ wr wv x2 = true /\ m0.fs = [] /\
   (ok = true -> ∃ ls', headF (x0 :: x1 :: x2' :: x3 :: (ls ++ [y0, y1])) m0 ls' /\ Sl 1 wv v' (ls'.map λ s => [.string (sb s)]) /\ ∀ c, inB v' c -> inB v c) /\ ∀ m ls', headF (x0 :: x1 :: x2' :: x3 :: (ls ++ [y0, y1])) m ls' -> ok = true /\ m0 = { m with fs:=[] }) /\ Fr (λ c => c = x2) w wv:=λ B hB => by
  refine ⟨⟨vm, B, ⟨Lib.trimPrefix x0 (STORE ++ [32]), (((fldO (wdF VERSION) x1).getD 0 : Nat) : Int), (((fldO (wdF NODE) x2').getD 0 : Nat) : Int), [], (((fldO (wdF TOTAL) y0).getD 0 : Nat) : Int), (((sumF (Lib.trimPrefix y1 WH6)).getD 0 : Nat) : Int)⟩, rfl, n8.b2, n8.w2, rfl, λ hBt => ?_, λ m ls' hh => ?_⟩, hfr⟩
  ·rw [hB] at hBt
   simp only [Bool.and_eq_true, decide_eq_true_eq] at hBt
   obtain ⟨hW, hcnt, ⟨⟨⟨⟨h0, h1⟩, h2⟩, h3⟩, h4⟩, h5⟩:=hBt
   subst h0; subst h1; subst h2; subst h3; subst h4; subst h5
   obtain ⟨st, hst⟩:=Option.isSome_iff_exists.1 hb0
   obtain ⟨v1, g1⟩:=Option.isSome_iff_exists.1 hb1
   obtain ⟨v2, g2⟩:=Option.isSome_iff_exists.1 hb2
   obtain ⟨v3, g3⟩:=Option.isSome_iff_exists.1 hb3
   obtain ⟨v4, g4⟩:=Option.isSome_iff_exists.1 hb4
   obtain ⟨v5, g5⟩:=Option.isSome_iff_exists.1 hb5
   rw [g3] at hcnt
   have hx0:=(nameF_some hst).1
   refine ⟨ls, ⟨x0, x1, x2', x3, y0, y1, v1, v2, v4, v5, rfl, ?_, ⟨g1, by rw [g1]; rfl⟩, ⟨g2, by rw [g2]; rfl⟩, by rw [g3, <- hcnt]; rfl, ⟨g4, by rw [g4]; rfl⟩, ?_, by rw [g5]; rfl⟩, m2', m3⟩
   ·rw [hst]
    show some st = some (Lib.trimPrefix x0 (STORE ++ [32]))
    rw [hx0, trim_of (List.prefix_append _ _), List.drop_left]
   ·unfold whoO
    rw [if_pos hW]
    rw [trim_of hW] at g5
    exact g5
  ·obtain ⟨a0, a1, a2, a3, c0, c1, v1, v2, v4, v5, hN', q0, ⟨q1, r1⟩, ⟨q2, r2⟩, q3, ⟨q4, r4⟩, q5, r5⟩:=hh
   simp only [List.cons.injEq] at hN'
   obtain ⟨rfl, rfl, rfl, rfl, hR⟩:=hN'
   obtain ⟨rfl, hT⟩:=List.append_inj' hR rfl
   simp only [List.cons.injEq, and_true] at hT
   obtain ⟨rfl, rfl⟩:=hT
   have hx0:=(nameF_some q0).1
   have hW : WH6 <+: y1 /\ sumF (Lib.trimPrefix y1 WH6) = some v5:=by
    unfold whoO at q5
    split at q5
    ·rename_i hp
     exact ⟨hp, by rw [trim_of hp]; exact q5⟩
    ·cases q5
   have hBt : B = true:=by
    rw [hB, <- hb0, <- hb1, <- hb2, <- hb3, <- hb4, <- hb5, q0, q1, q2, q3, q4, hW.2, decide_eq_true hW.1]
    simp
   refine ⟨hBt, ?_⟩
   rw [q1, q2, q4, hW.2]
   obtain ⟨mst, mv, mn, mf, mt, mw⟩:=m
   simp only at q0 r1 r2 r4 r5 hx0
   rw [r1, r2, r4, r5, hx0, trim_of (List.prefix_append _ _), List.drop_left]
   rfl
 by_cases hW : WH6 <+: y1
 case neg =>
  rw [decide_eq_false hW]
  simp only [Run_bind, Run_guardM_ft, pickV_bool, cond_false, Run_bindO_some, Run_ret]
  exact fin false (by rw [decide_eq_false hW, Bool.false_and])
 rw [decide_eq_true hW]
 simp only [Run_bind, Run_guardM_tt, Run_ret, binV_int, intBin_sub, wc, Run_optM_some, intBin_eql, pickV_bool, cond_true, Run_bindO_some]
 by_cases hcnt : (fldO (wdF FILES) x3).getD 0 = ls.length
 case neg =>
  have hci : ¬ (((fldO (wdF FILES) x3).getD 0 : Nat) : Int) = ((ls.length : Nat) : Int):=by omega
  rw [decide_eq_false hci]
  simp only [Run_bind, Run_guardM_ft, pickV_bool, cond_false, Run_bindO_some, Run_ret]
  exact fin false (by rw [decide_eq_false hcnt, Bool.false_and, Bool.and_false])
 have hci : (((fldO (wdF FILES) x3).getD 0 : Nat) : Int) = ((ls.length : Nat) : Int):=by omega
 have l6 : ldA 6 (.pointer (some ⟨x4, 0, none⟩)) wv = some (.agg #[.bool b0, .bool b1, .bool b2, .bool b3, .bool b4, .bool b5']):=by
  have h:=n8.b4
  rw [hb0, hb1, hb2, hb3, hb4, hb5] at h
  exact ldA_bk h (Nat.le_refl _)
 have bl : buildV #[(Value.bool false), (Value.bool false), (Value.bool false), (Value.bool false), (Value.bool false), (Value.bool false)] [(0, 1, (Value.bool true)), (1, 1, (Value.bool true)), (2, 1, (Value.bool true)), (3, 1, (Value.bool true)), (4, 1, (Value.bool true)), (5, 1, (Value.bool true))] = some (.agg #[.bool true, .bool true, .bool true, .bool true, .bool true, .bool true]):=rfl
 have eq6 : eqV (EqSh.offs [(EqK.bool, 0), (EqK.bool, 1), (EqK.bool, 2), (EqK.bool, 3), (EqK.bool, 4), (EqK.bool, 5)]) (.agg #[.bool b0, .bool b1, .bool b2, .bool b3, .bool b4, .bool b5']) (.agg #[.bool true, .bool true, .bool true, .bool true, .bool true, .bool true]) = some (.bool (b0 && b1 && b2 && b3 && b4 && b5')):=by
  cases b0 <;> cases b1 <;> cases b2 <;> cases b3 <;> cases b4 <;> cases b5' <;> rfl
 rw [decide_eq_true hci]
 simp only [Run_bind, Run_guardM_tt, Run_rdM]
 refine ⟨_, l6, ?_⟩
 rw [bl, Run_optM_some, eq6, Run_optM_some]
 simp only [pickV_bool, cond_true, Run_bindO_some, Run_ret]
 exact fin _ (by rw [decide_eq_true hW, decide_eq_true hcnt, Bool.true_and, Bool.true_and])
end
theorem jn_lns : ∀ {N : List (List UInt8)}, N ≠ [] -> jn 10 N ++ [10] = lnsL N
 | [], h => absurd rfl h
 | [x], _ => by simp [jn, lnsL]
 | x :: y :: r, _ => by
  have ih:=jn_lns (N:=y :: r) (by simp)
  rw [jn_cons 10 (by simp)]
  have e : lnsL (x :: y :: r) = x ++ [10] ++ lnsL (y :: r):=by simp [lnsL]
  rw [e, <- ih]
  simp
theorem rowF_no10 {t : List UInt8} {f : Fl} (h : rowF t f) : (10 : UInt8) ∉ t:=by
 obtain ⟨dz, ec, eh, h⟩:=h
 obtain ⟨z, hz, _⟩:=h.sz
 obtain ⟨c, hc, _⟩:=h.crc
 rw [h.txt]
 simp only [List.mem_append, not_or]
 exact ⟨by decide, h.nm10, by decide, num_no10 hz, by decide, (sum_no10 hc).1, by decide, pairs_no10 (by decide) (n:=16) (by have:=h.md.1; omega) h.md.2⟩
theorem maform_lines {s : List UInt8} {m : Mf} {sm : Nat} {ls : List (List UInt8)} {d1 d2 d3 d4 e1 e : List UInt8} (h : MaForm (s ++ [10]) m sm ls d1 d2 d3 d4 e1 e) :
  spl 10 s = MANI :: (STORE ++ [32] ++ m.st) :: (VERSION ++ [32] ++ d1) :: (NODE ++ [32] ++ d2) :: (FILES ++ [32] ++ d3) :: (ls ++ [TOTAL ++ [32] ++ d4, WHOLE ++ [32] ++ e1, SUM ++ e]):=by
 have hs : s = jn 10 (MANI :: (STORE ++ [32] ++ m.st) :: (VERSION ++ [32] ++ d1) :: (NODE ++ [32] ++ d2) :: (FILES ++ [32] ++ d3) :: (ls ++ [TOTAL ++ [32] ++ d4, WHOLE ++ [32] ++ e1, SUM ++ e])):=by
  have h1 : s ++ [10] = jn 10 (MANI :: (STORE ++ [32] ++ m.st) :: (VERSION ++ [32] ++ d1) :: (NODE ++ [32] ++ d2) :: (FILES ++ [32] ++ d3) :: (ls ++ [TOTAL ++ [32] ++ d4, WHOLE ++ [32] ++ e1, SUM ++ e])) ++ [10]:=by
   rw [jn_lns (by simp), h.txt]
   have e2 : lnsL (MANI :: (STORE ++ [32] ++ m.st) :: (VERSION ++ [32] ++ d1) :: (NODE ++ [32] ++ d2) :: (FILES ++ [32] ++ d3) :: (ls ++ [TOTAL ++ [32] ++ d4, WHOLE ++ [32] ++ e1, SUM ++ e])) = MANI ++ [10] ++ (STORE ++ [32] ++ m.st ++ [10]) ++ (VERSION ++ [32] ++ d1 ++ [10]) ++ (NODE ++ [32] ++ d2 ++ [10]) ++ (FILES ++ [32] ++ d3 ++ [10]) ++ lnsL ls ++ (TOTAL ++ [32] ++ d4 ++ [10]) ++ (WHOLE ++ [32] ++ e1 ++ [10]) ++ (SUM ++ e ++ [10]):=by
    simp [lnsL]
   rw [e2]
   simp [N0, N1, N2, N3, Z0, Z1, MANI, STORE, VERSION, NODE, FILES, TOTAL, WHOLE]
  exact List.append_cancel_right h1
 obtain ⟨_, g1, _⟩:=h.ver
 obtain ⟨_, g2, _⟩:=h.node
 obtain ⟨_, g4, _⟩:=h.tot
 obtain ⟨_, g5, _⟩:=h.who
 have k1:=num_no10 g1
 have k2:=num_no10 g2
 have k3:=num_no10 h.cnt
 have k4:=num_no10 g4
 have k5:=(sum_no10 g5).1
 have k6:=(sum_no10 h.sum).1
 have ks:=h.st10
 rw [hs]
 refine spl_of 10 (by simp) λ x hx => ?_
 simp only [List.mem_cons, List.mem_append, List.not_mem_nil, or_false] at hx
 rcases hx with rfl | rfl | rfl | rfl | rfl | hx | rfl | rfl | rfl
 ·decide
 ·simp only [List.mem_append, not_or]; exact ⟨⟨by decide, by decide⟩, ks⟩
 ·simp only [List.mem_append, not_or]; exact ⟨⟨by decide, by decide⟩, k1⟩
 ·simp only [List.mem_append, not_or]; exact ⟨⟨by decide, by decide⟩, k2⟩
 ·simp only [List.mem_append, not_or]; exact ⟨⟨by decide, by decide⟩, k3⟩
 ·obtain ⟨i, hi⟩:=List.getElem?_of_mem hx
  have hil : i < m.fs.length:=by rw [<- h.len]; exact (List.getElem?_eq_some_iff.1 hi).1
  exact rowF_no10 (h.rows i x _ hi (List.getElem?_eq_getElem hil))
 ·simp only [List.mem_append, not_or]; exact ⟨⟨by decide, by decide⟩, k4⟩
 ·simp only [List.mem_append, not_or]; exact ⟨⟨by decide, by decide⟩, k5⟩
 ·simp only [List.mem_append, not_or]; exact ⟨by decide, k6⟩
theorem fldO_word {word d : List UInt8} : fldO (wdF word) (word ++ [32] ++ d) = numF d:=fldO_of (f:=wdF word)
theorem maform_yes {s : List UInt8} {m : Mf} {sm : Nat} {ls : List (List UInt8)} {d1 d2 d3 d4 e1 e : List UInt8} (h : MaForm (s ++ [10]) m sm ls d1 d2 d3 d4 e1 e) : okF s MANI = true /\ headF (midL s) m ls /\ sumF ((lastL s).drop 4) = some sm:=by
 have hN:=maform_lines h
 have hm : midL s = (STORE ++ [32] ++ m.st) :: (VERSION ++ [32] ++ d1) :: (NODE ++ [32] ++ d2) :: (FILES ++ [32] ++ d3) :: (ls ++ [TOTAL ++ [32] ++ d4, WHOLE ++ [32] ++ e1]):=by
  unfold midL
  rw [hN]
  have e2 : MANI :: (STORE ++ [32] ++ m.st) :: (VERSION ++ [32] ++ d1) :: (NODE ++ [32] ++ d2) :: (FILES ++ [32] ++ d3) :: (ls ++ [TOTAL ++ [32] ++ d4, WHOLE ++ [32] ++ e1, SUM ++ e]) = (MANI :: (STORE ++ [32] ++ m.st) :: (VERSION ++ [32] ++ d1) :: (NODE ++ [32] ++ d2) :: (FILES ++ [32] ++ d3) :: (ls ++ [TOTAL ++ [32] ++ d4, WHOLE ++ [32] ++ e1])) ++ [SUM ++ e]:=by simp
  rw [e2, List.length_append, List.length_singleton, Nat.add_sub_cancel, List.take_left]
  rfl
 have hl : lastL s = SUM ++ e:=by
  unfold lastL
  rw [hN]
  have e2 : MANI :: (STORE ++ [32] ++ m.st) :: (VERSION ++ [32] ++ d1) :: (NODE ++ [32] ++ d2) :: (FILES ++ [32] ++ d3) :: (ls ++ [TOTAL ++ [32] ++ d4, WHOLE ++ [32] ++ e1, SUM ++ e]) = (MANI :: (STORE ++ [32] ++ m.st) :: (VERSION ++ [32] ++ d1) :: (NODE ++ [32] ++ d2) :: (FILES ++ [32] ++ d3) :: (ls ++ [TOTAL ++ [32] ++ d4, WHOLE ++ [32] ++ e1])) ++ [SUM ++ e]:=by simp
  rw [e2, List.getLast?_append]
  rfl
 have hd4 : (SUM ++ e).drop 4 = e:=List.drop_left (l₁:=SUM)
 obtain ⟨v1, g1, r1⟩:=h.ver
 obtain ⟨v2, g2, r2⟩:=h.node
 obtain ⟨v4, g4, r4⟩:=h.tot
 obtain ⟨v5, g5, r5⟩:=h.who
 refine ⟨?_, ?_, by rw [hl, hd4]; exact h.sum⟩
 ·unfold okF
  have e1' : ((spl 10 s).getLast?).getD [] = SUM ++ e:=hl
  rw [e1', hd4, h.sum, hN, decide_eq_true (List.prefix_append SUM e)]
  simp
 ·rw [hm]
  refine ⟨_, _, _, _, _, _, v1, v2, v4, v5, rfl, nameF_of h.st0 h.st32, ⟨by rw [fldO_word]; exact g1, r1⟩, ⟨by rw [fldO_word]; exact g2, r2⟩, by rw [fldO_word, h.cnt, h.len], ⟨by rw [fldO_word]; exact g4, r4⟩, ?_, r5⟩
  unfold whoO
  have hw : WHOLE ++ [32] ++ e1 = WH6 ++ e1:=rfl
  rw [hw, if_pos (List.prefix_append _ _)]
  exact g5
theorem headF_ls {N : List (List UInt8)} {m m' : Mf} {ls ls' : List (List UInt8)} (h : headF N m ls) (h' : headF N m' ls') : ls = ls':=by
 obtain ⟨a0, a1, a2, a3, c0, c1, v1, v2, v4, v5, hN, _⟩:=h
 obtain ⟨b0, b1, b2, b3, e0, e1, u1, u2, u4, u5, hN', _⟩:=h'
 rw [hN] at hN'
 simp only [List.cons.injEq] at hN'
 exact (List.append_inj' hN'.2.2.2.2 rfl).1
section
variable {w w1 w2 : World}
theorem manparse_yes (ht : Tb w) {t : List UInt8} {m : Mf} {sm : Nat} (hl : t.length <= 4294960000) (hf : maform t m sm) : Run (F.paper_ParseManifest (.string (sb t))) w λ r w' => ParM w w' (resM t m sm) (codeM t m sm) r:=by
 have hfit:=maform_fit hf hl
 obtain ⟨ls, d1, d2, d3, d4, e1, e, hf⟩:=hf
 have hsuf : [10] <:+ t:=by
  rw [hf.txt]
  simp only [<- List.append_assoc]
  exact List.suffix_append _ _
 unfold F.paper_ParseManifest
 have eL : ByteArray.mk #[103, 114, 97, 110, 97, 114, 121, 32, 109, 97, 110, 105, 102, 101, 115, 116, 32, 49] = sb MANI:=rfl
 have z0 : buildV #[(Value.string ByteArray.empty), (Value.int IntKind.i64 0), (Value.int IntKind.i64 0), (Value.slice none 0 0), (Value.int IntKind.i64 0), (Value.int IntKind.i64 0)] [] = some (.agg (mval zMf nilS).toArray):=rfl
 have hnv : ∀ b, notV (.bool b) = some (.bool !b):=λ _ => rfl
 have y0 : ∀ v x z, extV 0 (.tuple #[v, x, z]) = some v:=λ _ _ _ => rfl
 have y1 : ∀ v x z, extV 1 (.tuple #[v, x, z]) = some x:=λ _ _ _ => rfl
 have y2 : ∀ v x z, extV 2 (.tuple #[v, x, z]) = some z:=λ _ _ _ => rfl
 have p0 : ∀ v x, extV 0 (.tuple #[v, x]) = some v:=λ _ _ => rfl
 have p1 : ∀ v x, extV 1 (.tuple #[v, x]) = some x:=λ _ _ => rfl
 rw [z0, Run_bind]
 refine Run_new λ x1 wa hx1 hw1 fa hx1le => ?_
 replace hx1 : bk wa x1 = some (mval zMf nilS):=hx1
 rw [Run_bind]
 refine Run_new λ x2 wb hx2 hw2 fb hx2le => ?_
 replace hx2 : bk wb x2 = some (mval zMf nilS):=hx2
 have fab:=fa.trans fb λ _ _ => id
 have tb:=ht.fr0 fab
 have l1:=bk_lt hx1
 have l2:=bk_lt hx2
 have sa:=fa.size
 have sab:=fb.size
 have hx1b:=fb.bk_some hx1 id
 have hw1b : wr wb x1 = true:=by rw [fb.wr l1 id]; exact hw1
 rw [eL, Run_bind]
 have bad : ∀ (c : Int) {u : World}, Fr (λ c => c = x2) wb u -> Run (bindO (some (Value.agg (mval zMf nilS).toArray)) λ x8 =>
  M.bind (stM 6 (.pointer (some ⟨x1, 0, none⟩)) x8) λ _ =>
  M.bind (rdM (ldA 6 (.pointer (some ⟨x1, 0, none⟩)))) λ x10 =>
  M.ret (Value.tuple #[x10, .int .i64 c])) u λ r w' => ParM w w' zMf c r:=λ c {u} f => by
  have hne : ¬ x1 = x2:=by omega
  rw [Run_bindO_some]
  simp only [Run_bind]
  refine finN_run (f.bk_some hx1b hne) (by rw [f.wr (bk_lt hx1b) hne]; exact hw1b) (mval zMf nilS).toArray rfl rfl (mval_cell _ rfl) λ w3 f3 => ?_
  rw [Run_ret]
  exact ⟨nilS, rfl, SlW.nil _ _, λ _ h => h.elim, fab.new ((f.mono λ c hc => (show c = x1 ∨ c = x2 from .inr hc)).trans f3 λ _ _ h => .inl h) λ c hc => by rcases hc with h | h <;> omega⟩
 obtain ⟨s, rfl⟩:=hsuf
 have hsl : s.length <= 4294960000:=by rw [List.length_append] at hl; omega
 refine (open_yes tb (s:=s) (title:=MANI) (by decide) hsl).mono ?_
 rintro _ wc ⟨⟨v, right, rfl, hv⟩, fc⟩
 rw [y0, Run_bindO_some, y1, Run_bindO_some, y2, Run_bindO_some, hnv, Run_bindO_some]
 have hx2c:=fc.bk_some hx2 id
 have hw2c : wr wc x2 = true:=by rw [fc.wr l2 id]; exact hw2
 have sc:=fc.size
 obtain ⟨hok, hhead, hsm⟩:=maform_yes hf
 rw [hok]
 obtain ⟨hright, hvs, hvn⟩:=hv hok
 have hvs' : Sl 1 wc v ((midL s).map λ x => [.string (sb x)]):=hvs
 have hml : ∀ x ∈ midL s, x.length <= s.length /\ (10 : UInt8) ∉ x:=λ x hx => by
  have hm:=List.mem_of_mem_take (List.mem_of_mem_drop hx)
  have : ∀ (N : List (List UInt8)), x ∈ N -> x.length <= (jn 10 N).length:=λ N => by
   induction N with
   | nil => intro h; cases h
   | cons y r ih =>
    intro h
    by_cases hr : r = []
    ·subst hr; simp at h; subst h; simp [jn]
    ·rw [jn_cons 10 hr, List.length_append, List.length_append]
     rcases List.mem_cons.1 h with rfl | h
     ·omega
     ·have:=ih h; omega
  have:=this _ hm
  rw [(spl_jn 10 s).1] at this
  exact ⟨by omega, (spl_jn 10 s).2 x hm⟩
 have hmN : (midL s).length <= s.length + 1:=by
  have h1:=jn_count 10 _ (spl_ne 10 s) (spl_jn 10 s).2
  have h2 : (jn 10 (spl 10 s)).count 10 <= (jn 10 (spl 10 s)).length:=List.count_le_length
  rw [(spl_jn 10 s).1] at h1 h2
  unfold midL
  rw [List.length_drop, List.length_take]
  omega
 rw [Bool.not_true, Run_condM_false, Run_bind]
 refine (head_run hvs' hx2c hw2c (λ h => by have:=(hvn _ h).1; omega) (by omega) (λ x hx => by have:=(hml x hx).1; omega) (λ c hc => (hvn c hc).2)).mono ?_
 rintro _ wd ⟨⟨v', ok, m0, rfl, hb2, hbw2, hfs0, hyes, hno⟩, fd⟩
 have sd:=fd.size
 have fbd : Fr (λ c => c = x2) wb wd:=(fc.mono λ _ h => h.elim).trans fd λ _ _ h => h
 rw [p0, Run_bindO_some, p1, Run_bindO_some, Run_bind]
 obtain ⟨rfl, hm0⟩:=hno m ls hhead
 obtain ⟨ls', hh', hsl', hin'⟩:=hyes rfl
 obtain rfl:=headF_ls hhead hh'
 have hlsl : ls.length <= (midL s).length:=by
  obtain ⟨x0, x1, x2, x3, y0, y1, v1, v2, v4, v5, hN, _⟩:=hhead
  rw [hN]; simp; omega
 have hlsm : ∀ x ∈ ls, x ∈ midL s:=λ x hx => by
  obtain ⟨x0, x1, x2, x3, y0, y1, v1, v2, v4, v5, hN, _⟩:=hhead
  rw [hN]; simp [hx]
 have hlv:=hsl'.lenL
 rw [List.length_map] at hlv
 have hll:=hf.len
 refine Run_for ls.length (λ i L w' => L = [.bool true, .int .i64 (i : Int)] /\ ∃ u, bk w' x2 = some (mval { m with fs:=[] } u) /\ wr w' x2 = true /\ OwnR wd w' u (m.fs.take i) /\ Fr (λ c => c = x2) wd w') ⟨rfl, nilS, by rw [<- hm0]; exact hb2, hbw2, OwnR.nil _ _, Fr.refl _ _⟩ ?_ ?_
 ·rintro i L we hi ⟨rfl, u, hbe, hwe, hO, fe⟩
  obtain ⟨f, hfi⟩ : ∃ f, m.fs[i]? = some f:=⟨_, List.getElem?_eq_getElem (by omega)⟩
  obtain ⟨tl, hti⟩ : ∃ tl, ls[i]? = some tl:=⟨_, List.getElem?_eq_getElem hi⟩
  have htm:=hml tl (hlsm tl (List.mem_of_getElem? hti))
  have hint : (i : Int) < (ls.length : Nat):=by omega
  simp only [getL_zero, getL_succ, Run_bind, Run_guardM_tt, Run_ret, hlv, Run_optM_some]
  rw [lssT hint, Run_optM_some]
  simp only [pickV_bool, cond_true, Run_bindO_some, Run_condM_true, Run_bind]
  refine Run_new λ y wf hy hyw ff hyle => ?_
  have sl' : Sl 1 wf v' (ls.map λ x => [.string (sb x)]):=(hsl'.fr fe λ c hc he => by have:=(hvn c (hin' c hc)).1; omega).fr0 ff
  obtain ⟨q, q1, q2⟩:=sl'.rd1 (i:=i) (y:=.string (sb tl)) (by simp [hti]) .i64
  have q1' : idxA 1 v' (.int .i64 (i : Int)) = some q:=q1
  rw [q1', Run_bindO_some]
  simp only [Run_bind, Run_rdM]
  refine ⟨_, q2, ?_⟩
  have tf : Tb wf:=((tb.fr fbd λ c hc he => by have:=tb_low ht; omega).fr fe λ c hc he => by have:=tb_low ht; omega).fr0 ff
  refine (row_run tf (s:=tl) (by omega) htm.2).mono ?_
  rintro _ wg ⟨⟨f', b, rfl, hb, hu⟩, fg⟩
  obtain ⟨rfl, rfl⟩:=hu f (hf.rows i tl f hti hfi)
  rw [p0, Run_bindO_some, p1, Run_bindO_some]
  have sff:=ff.size
  have sfe:=fe.size
  have sfg:=fg.size
  have ffg:=ff.trans fg λ _ _ => id
  have hbf : bk wg x2 = _:=ffg.bk_some hbe id
  have hwf : wr wg x2 = true:=by rw [ffg.wr (bk_lt hbe) id]; exact hwe
  have hyg:=fg.bk_some hy id
  have hywg : wr wg y = true:=by rw [fg.wr (bk_lt hy) id]; exact hyw
  have hOf:=hO.frm ffg λ _ h => h.elim
  refine push_run hbf hwf (v:=u) rfl rfl (by omega) (by omega) hyg hywg rfl (by omega) (λ h => by have:=(hO.fresh _ h).2; omega) hOf (by rw [List.length_take]; omega) f' λ w' r hb6 hw6 hrc hOr fr => ?_
  rw [binV_int, intBin_add, wrap_succ' (by omega), Run_bindO_some, Run_ret]
  refine ⟨rfl, r, hb6, hw6, ?_, (fe.trans ffg λ _ _ h => h.elim).trans fr λ c hc h => h.elim id λ h => by omega⟩
  rw [take_snocP hfi]
  exact hOr
 ·rintro L we ⟨rfl, u, hbe, hwe, hO, fe⟩
  have hint : ¬ ((ls.length : Nat) : Int) < (ls.length : Nat):=by omega
  rw [hll, List.take_length] at hO
  simp only [getL_zero, getL_succ, Run_bind, Run_guardM_tt, Run_ret, hlv, Run_optM_some]
  rw [lssF hint, Run_optM_some]
  simp only [pickV_bool, cond_true, Run_bindO_some, Run_condM_false, Run_ret, outK_exit, getL_zero, hnv, Bool.not_true]
  rw [show Nat.beq 0 0 = true from rfl, cond_true, Run_bindO_some, Run_condM_false, Run_bindO_some]
  have fbe : Fr (λ c => c = x2) wb we:=fbd.trans fe λ _ _ h => h
  have sfe:=fe.size
  have hsm' : sumF ((((spl 10 s).getLast?).getD []).drop 4) = some sm:=hsm
  have hr2 : right = decide (sm = crcF (sb ((s ++ [10]).take ((s ++ [10]).length - 13)))):=by
   rw [hright]
   refine decide_eq_decide.2 ?_
   rw [hsm']
   simp
  rw [hr2]
  by_cases hcrc : sm = crcF (sb ((s ++ [10]).take ((s ++ [10]).length - 13)))
  case neg =>
   rw [decide_eq_false hcrc, Bool.not_false, Run_condM_true]
   have hc : codeM (s ++ [10]) m sm = 41:=by unfold codeM; rw [if_neg hcrc]
   have hres : resM (s ++ [10]) m sm = zMf:=by unfold resM; rw [hc, if_neg (by decide)]
   rw [hc, hres]
   exact bad 41 fbe
  have hc : codeM (s ++ [10]) m sm = holdsF m:=by unfold codeM; rw [if_pos hcrc]
  have hbm : bk we x2 = some (mval m u):=hbe
  have l6 : ∀ {z : World}, Fr (λ _ => False) we z -> ldA 6 (.pointer (some ⟨x2, 0, none⟩)) z = some (.agg (mval m u).toArray):=λ f => ldA_bk (f.bk_some hbm id) (Nat.le_refl _)
  rw [decide_eq_true hcrc, Bool.not_true, Run_condM_false, Run_bind, Run_rdM]
  refine ⟨_, l6 (Fr.refl _ _), ?_⟩
  rw [Run_bind]
  refine (holds_run hO.sl.1 hfit).mono ?_
  rintro _ wf ⟨rfl, ff⟩
  have fbf : Fr (λ c => c = x2) wb wf:=fbe.trans ff λ _ _ h => h.elim
  rw [binV_int, intBin_neq, Run_bindO_some]
  by_cases hk : holdsF m = 0
  ·have hres : resM (s ++ [10]) m sm = m:=by unfold resM; rw [hc, if_pos hk]
   have hn : (!decide (holdsF m = 0)) = false:=by rw [decide_eq_true hk]; rfl
   rw [hn, Run_condM_false, Run_bind, Run_rdM]
   refine ⟨_, l6 ff, ?_⟩
   simp only [Run_bind]
   have hne : ¬ x1 = x2:=by omega
   refine finN_run (fbf.bk_some hx1b hne) (by rw [fbf.wr (bk_lt hx1b) hne]; exact hw1b) (mval m u).toArray rfl rfl (mval_cell _ hO.sl.1.isCell) λ w3 f3 => ?_
   rw [Run_ret, hc, hres, hk]
   have hO3:=(hO.frm ff λ _ h => h.elim).frm f3 λ c hc => by omega
   exact ⟨u, rfl, hO3.sl, λ c hc => ⟨by have:=(hO3.fresh c hc).1; omega, (hO3.fresh c hc).2⟩, fab.new ((fbf.mono λ c hc => (show c = x1 ∨ c = x2 from .inr hc)).trans f3 λ _ _ h => .inl h) λ c hc => by rcases hc with h | h <;> omega⟩
  ·have hres : resM (s ++ [10]) m sm = zMf:=by unfold resM; rw [hc, if_neg hk]
   have hn : (!decide (holdsF m = 0)) = true:=by rw [decide_eq_false hk]; rfl
   rw [hn, Run_condM_true, hc, hres]
   exact bad _ fbf
end
section
variable {w w1 w2 : World}
theorem neFl (n : Fl) : neV (EqSh.offs [(EqK.str, 0), (EqK.int, 1), (EqK.int, 2), (EqK.str, 3)]) (.agg n.row.toArray) (.agg n.row.toArray) = some (.bool false):=by
 simp [Fl.row, eqOffs, eqPrim]
theorem sameFiles_run {u v : Value} {ns : List Fl} (hu : Sl 4 w u (ns.map Fl.row)) (hv : Sl 4 w v (ns.map Fl.row)) (hl : ns.length <= 4294967296) : Run (F.granarylaw4_sameFiles u v) w λ r w' => r = .bool true /\ Fr (λ _ => False) w w':=by
 unfold F.granarylaw4_sameFiles
 have lu:=hu.lenL
 have lv:=hv.lenL
 rw [List.length_map] at lu lv
 have hne : (!decide (((ns.length : Nat) : Int) = ns.length)) = false:=by simp
 rw [lu, Run_bindO_some, lv, Run_bindO_some, binV_int, intBin_neq, hne, Run_bindO_some, Run_condM_false, Run_bind]
 refine Run_for ns.length (λ i L w' => L = [.int .i64 (i : Int)] /\ Fr (λ _ => False) w w') ⟨rfl, Fr.refl _ _⟩ ?_ ?_
 ·rintro i L w1 hi ⟨rfl, f1⟩
  obtain ⟨n, hn⟩ : ∃ n, ns[i]? = some n:=⟨_, List.getElem?_eq_getElem hi⟩
  have hil : (i : Int) < ns.length:=by omega
  have f2 : Fr (λ _ => False) w w1.drew:=f1.drew
  obtain ⟨p, p1, p2⟩:=(hu.fr0 f2).rdA (by decide) (i:=i) (e:=n.row) (by simp [hn]) .i64
  obtain ⟨q, q1, q2⟩:=(hv.fr0 f2).rdA (by decide) (i:=i) (e:=n.row) (by simp [hn]) .i64
  have p1' : idxA 4 u (.int .i64 (i : Int)) = some p:=p1
  have q1' : idxA 4 v (.int .i64 (i : Int)) = some q:=q1
  have wi:=wrap_succ' (n:=i) (by omega)
  rw [Run_bindO_some, getL_zero, lssT hil, Run_bindO_some, Run_condM_true, Run_drewM, p1', Run_bindO_some, Run_bind, Run_rdM]
  refine ⟨_, p2, ?_⟩
  rw [q1', Run_bindO_some, Run_bind, Run_rdM]
  refine ⟨_, q2, ?_⟩
  rw [neFl, Run_bindO_some, Run_condM_false, binV_int, intBin_add, wi, Run_bindO_some, Run_ret]
  exact ⟨rfl, f2⟩
 ·rintro L w1 ⟨rfl, f1⟩
  have hn : ¬ ((ns.length : Nat) : Int) < ns.length:=by omega
  rw [Run_bindO_some, getL_zero, lssF hn, Run_bindO_some, Run_condM_false, Run_ret]
  simp only [outK_exit]
  rw [show Nat.beq 0 0 = true from rfl, cond_true, Run_ret]
  exact ⟨rfl, f1⟩
theorem sameManifest_run {m : Mf} {u v : Value} (hu : Sl 4 w u (m.fs.map Fl.row)) (hv : Sl 4 w v (m.fs.map Fl.row)) (hl : m.fs.length <= 4294967296) :
  Run (F.granarylaw4_sameManifest (.agg (mval m u).toArray) (.agg (mval m v).toArray)) w λ r w' => r = .bool true /\ Fr (λ _ => False) w w':=by
 unfold F.granarylaw4_sameManifest
 rw [Run_bind]
 refine Run_new λ x1 w1 h1 _ f1 hle1 => ?_
 rw [Run_bind]
 refine Run_new λ x2 w2 h2 _ f2 hle2 => ?_
 replace h1 : bk w2 x1 = some (mval m u):=f2.bk_some h1 id
 replace h2 : bk w2 x2 = some (mval m v):=h2
 have f12:=f1.trans f2 λ _ _ => id
 have c0 : ∀ {x : Nat} {u : Value}, bk w2 x = some (mval m u) -> ld1 (.pointer (some ⟨x, 0 + 0, none⟩)) w2 = some (.string (sb m.st)):=λ h => by rw [ld1_ptr, h]; rfl
 have c1 : ∀ {x : Nat} {u : Value}, bk w2 x = some (mval m u) -> ld1 (.pointer (some ⟨x, 0 + 1, none⟩)) w2 = some (.int .i64 m.ver):=λ h => by rw [ld1_ptr, h]; rfl
 have c2 : ∀ {x : Nat} {u : Value}, bk w2 x = some (mval m u) -> ld1 (.pointer (some ⟨x, 0 + 2, none⟩)) w2 = some (.int .i64 m.node):=λ h => by rw [ld1_ptr, h]; rfl
 have c3 : ∀ {x : Nat} {u : Value}, bk w2 x = some (mval m u) -> ld1 (.pointer (some ⟨x, 0 + 3, none⟩)) w2 = some u:=λ h => by rw [ld1_ptr, h]; rfl
 have c4 : ∀ {x : Nat} {u : Value}, bk w2 x = some (mval m u) -> ld1 (.pointer (some ⟨x, 0 + 4, none⟩)) w2 = some (.int .i64 m.tot):=λ h => by rw [ld1_ptr, h]; rfl
 have c5 : ∀ {x : Nat} {u : Value}, bk w2 x = some (mval m u) -> ld1 (.pointer (some ⟨x, 0 + 5, none⟩)) w2 = some (.int .i64 m.who):=λ h => by rw [ld1_ptr, h]; rfl
 rw [fieldA_ptr, Run_bindO_some, Run_bind, Run_rdM]
 refine ⟨_, c0 h1, ?_⟩
 rw [fieldA_ptr, Run_bindO_some, Run_bind, Run_rdM]
 refine ⟨_, c0 h2, ?_⟩
 rw [sbEq, Run_bindO_some]
 simp only [decide_true, fieldA_ptr, Run_bind, Run_guardM_tt, Run_optM_some, Run_rdM]
 refine ⟨_, c1 h1, _, c1 h2, ?_⟩
 simp only [binV_int, intBin_eql, decide_true, Run_optM_some, pickV_bool, cond_true, Run_bindO_some, Run_bind, Run_guardM_tt, Run_rdM]
 refine ⟨_, c2 h1, _, c2 h2, ?_⟩
 simp only [binV_int, intBin_eql, decide_true, Run_optM_some, pickV_bool, cond_true, Run_bindO_some, Run_bind, Run_guardM_tt, Run_rdM]
 refine ⟨_, c4 h1, _, c4 h2, ?_⟩
 simp only [binV_int, intBin_eql, decide_true, Run_optM_some, pickV_bool, cond_true, Run_bindO_some, Run_bind, Run_guardM_tt, Run_rdM]
 refine ⟨_, c5 h1, _, c5 h2, ?_⟩
 simp only [binV_int, intBin_eql, decide_true, Run_optM_some, pickV_bool, cond_true, Run_bindO_some, Run_bind, Run_guardM_tt, Run_rdM]
 refine ⟨_, c3 h1, _, c3 h2, ?_⟩
 refine (sameFiles_run (hu.fr0 f12) (hv.fr0 f12) hl).mono ?_
 rintro _ w3 ⟨rfl, f3⟩
 simp only [pickV_bool, cond_true, Run_bindO_some, Run_ret]
 exact ⟨trivial, f12.trans f3 λ _ _ => id⟩
end
theorem add32 (a b : Int) : ∃ z : Int, binV .add (.int .u32 a) (.int .u32 b) = some (.int .u32 z):=⟨_, by rw [binV_int]; rfl⟩
theorem and32 (a b : Int) : ∃ z : Int, binV .and (.int .u32 a) (.int .u32 b) = some (.int .u32 z):=⟨_, by rw [binV_int]; rfl⟩
theorem or32 (a b : Int) : ∃ z : Int, binV .or (.int .u32 a) (.int .u32 b) = some (.int .u32 z):=⟨_, by rw [binV_int]; rfl⟩
theorem xor32 (a b : Int) : ∃ z : Int, binV .xor (.int .u32 a) (.int .u32 b) = some (.int .u32 z):=⟨_, by rw [binV_int]; rfl⟩
theorem cplW (a : Int) : ∃ z : Int, cplV (.int .u32 a) = some (.int .u32 z):=⟨_, rfl⟩
theorem shl32 (a : Int) {j : IntKind} {b : Int} (hb : 0 <= b) : ∃ z : Int, shV .shl (.int .u32 a) (.int j b) = some (.int .u32 z):=⟨_, by
 unfold shV
 simp only
 rw [if_neg (by omega)]⟩
theorem shr32 (a : Int) {j : IntKind} {b : Int} (hb : 0 <= b) : ∃ z : Int, shV .shr (.int .u32 a) (.int j b) = some (.int .u32 z):=⟨_, by
 unfold shV
 simp only
 rw [if_neg (by omega)]⟩
theorem wrap64_nn (x : Int) : 0 <= IntKind.u64.wrap x:=by
 simp [IntKind.wrap, IntKind.bits, IntKind.signed]
 omega
theorem and64 (a b : Int) : ∃ z : Int, 0 <= z /\ binV .and (.int .u64 a) (.int .u64 b) = some (.int .u64 z):=⟨_, wrap64_nn _, by rw [binV_int]; rfl⟩
theorem sub64 (a b : Int) : ∃ z : Int, 0 <= z /\ binV .sub (.int .u64 a) (.int .u64 b) = some (.int .u64 z):=⟨_, wrap64_nn _, by rw [binV_int]; rfl⟩
theorem mulN {a b : Nat} (h : a * b < 9223372036854775808) : binV .mul (.int .i64 (a : Int)) (.int .i64 (b : Int)) = some (.int .i64 ((a * b : Nat) : Int)):=by
 rw [binV_int]
 show some (Value.int .i64 (IntKind.i64.wrap ((a : Int) * b))) = _
 rw [show (a : Int) * b = ((a * b : Nat) : Int) by omega, i64W h]
theorem addN {a b : Nat} (h : a + b < 9223372036854775808) : binV .add (.int .i64 (a : Int)) (.int .i64 (b : Int)) = some (.int .i64 ((a + b : Nat) : Int)):=by
 rw [binV_int]
 show some (Value.int .i64 (IntKind.i64.wrap ((a : Int) + b))) = _
 rw [show (a : Int) + b = ((a + b : Nat) : Int) by omega, i64W h]
theorem quoN {a b : Nat} (hb : b ≠ 0) (h : a < 9223372036854775808) : binV .quo (.int .i64 (a : Int)) (.int .i64 (b : Int)) = some (.int .i64 ((a / b : Nat) : Int)):=by
 rw [binV_int]
 show (if (b : Int) = 0 then none else some (Value.int .i64 (IntKind.i64.wrap ((a : Int).tdiv b)))) = _
 have:=Nat.div_le_self a b
 rw [if_neg (by omega), show (a : Int).tdiv b = ((a / b : Nat) : Int) from rfl, i64W (by omega)]
theorem remN {a b : Nat} (hb : b ≠ 0) : binV .rem (.int .i64 (a : Int)) (.int .i64 (b : Int)) = some (.int .i64 ((a % b : Nat) : Int)):=by
 rw [binV_int]
 show (if (b : Int) = 0 then none else some (Value.int .i64 ((a : Int).tmod b))) = _
 rw [if_neg (by omega), show (a : Int).tmod b = ((a % b : Nat) : Int) from rfl]
structure Tm (w : World) : Prop where
 ini : ∃ a b c d : Int, bk w 2 = some [.int .u32 a, .int .u32 b, .int .u32 c, .int .u32 d]
 sin : ∃ zs : List Int, zs.length = 64 /\ bk w 4 = some (zs.map λ z => .int .u32 z)
 trn : ∃ zs : List Int, zs.length = 16 /\ bk w 5 = some (zs.map λ z => .int .i64 z)
section
variable {w w1 w2 : World}
theorem Tm.fr {F : Nat -> Prop} (h : Tm w) (f : Fr F w w1) (hF : ∀ b, b < 11 -> ¬ F b) : Tm w1 where
 ini:=by obtain ⟨a, b, c, d, h⟩:=h.ini; exact ⟨a, b, c, d, f.bk_some h (hF 2 (by decide))⟩
 sin:=by obtain ⟨z, h1, h⟩:=h.sin; exact ⟨z, h1, f.bk_some h (hF 4 (by decide))⟩
 trn:=by obtain ⟨z, h1, h⟩:=h.trn; exact ⟨z, h1, f.bk_some h (hF 5 (by decide))⟩
theorem Tm.fr0 (h : Tm w) (f : Fr (λ _ => False) w w1) : Tm w1:=h.fr f λ _ _ => id
theorem rot_run (a b : Int) : Run (F.bits_RotateLeft32 (.int .u32 a) (.int .i64 b)) w λ r w' => (∃ z : Int, r = .int .u32 z) /\ w' = w:=by
 unfold F.bits_RotateLeft32
 obtain ⟨x2, h2, e2⟩:=and64 (IntKind.u64.wrap b) 31
 obtain ⟨x3, e3⟩:=shl32 a (j:=.u64) h2
 obtain ⟨x4, h4, e4⟩:=sub64 32 x2
 obtain ⟨x5, e5⟩:=shr32 a (j:=.u64) h4
 obtain ⟨x6, e6⟩:=or32 x3 x5
 rw [show cvtI IntKind.u64 (.int .i64 b) = some (.int .u64 (IntKind.u64.wrap b)) from rfl, Run_bindO_some, e2, Run_bindO_some, e3, Run_bindO_some, e4, Run_bindO_some, e5, Run_bindO_some, e6, Run_bindO_some, Run_ret]
 exact ⟨⟨_, rfl⟩, rfl⟩
theorem little_run {s : List UInt8} (hs : s.length = 4) : Run (F.digest_little (.string (sb s))) w λ r w' => (∃ z : Int, r = .int .u32 z) /\ w' = w.drew:=by
 unfold F.digest_little
 match s, hs with
 | [a, b, c, d], _ =>
  have cv : ∀ x : UInt8, cvtI IntKind.u32 (by8 x) = some (.int .u32 (IntKind.u32.wrap x.toNat)):=λ _ => rfl
  have i0 : idxS (.string (sb [a, b, c, d])) (.int .i64 0) = some (by8 a):=idxSb (l:=[a, b, c, d]) (i:=0) rfl
  have i1 : idxS (.string (sb [a, b, c, d])) (.int .i64 1) = some (by8 b):=idxSb (l:=[a, b, c, d]) (i:=1) rfl
  have i2 : idxS (.string (sb [a, b, c, d])) (.int .i64 2) = some (by8 c):=idxSb (l:=[a, b, c, d]) (i:=2) rfl
  have i3 : idxS (.string (sb [a, b, c, d])) (.int .i64 3) = some (by8 d):=idxSb (l:=[a, b, c, d]) (i:=3) rfl
  obtain ⟨x5, e5⟩:=shl32 (IntKind.u32.wrap b.toNat) (j:=.u64) (b:=8) (by decide)
  obtain ⟨x6, e6⟩:=or32 (IntKind.u32.wrap a.toNat) x5
  obtain ⟨x9, e9⟩:=shl32 (IntKind.u32.wrap c.toNat) (j:=.u64) (b:=16) (by decide)
  obtain ⟨x10, e10⟩:=or32 x6 x9
  obtain ⟨x13, e13⟩:=shl32 (IntKind.u32.wrap d.toNat) (j:=.u64) (b:=24) (by decide)
  obtain ⟨x14, e14⟩:=or32 x10 x13
  rw [Run_drewM, i0, Run_bindO_some, cv, Run_bindO_some, i1, Run_bindO_some, cv, Run_bindO_some, e5, Run_bindO_some, e6, Run_bindO_some, i2, Run_bindO_some, cv, Run_bindO_some, e9, Run_bindO_some, e10, Run_bindO_some, i3, Run_bindO_some, cv, Run_bindO_some, e13, Run_bindO_some, e14, Run_bindO_some, Run_ret]
  exact ⟨⟨_, rfl⟩, rfl⟩
theorem sl64 {x i j : Nat} (h : i <= j) (hj : j <= 64) (hi : i < 64) : sliceR 64 1 (.pointer (some ⟨x, 0, none⟩)) (some (.int .i64 (i : Int))) (some (.int .i64 (j : Int))) = some (.slice (some ⟨x, i, none⟩) (j - i) (64 - i)):=by
 simp only [sliceR, highV, lowV, bound_at h, bound_at hj]
 rw [if_neg (by omega)]
 simp [Addr.add_lit]
theorem bs64 {x i j : Nat} {bs : List UInt8} (hb : bk w x = some (bs.map by8)) (hi : i + j <= bs.length) {c : Nat} : bsR (.slice (some ⟨x, i, none⟩) j c) w = some (.string (sb ((bs.drop i).take j))):=by
 have e : ldN w ⟨x, i, none⟩ j = some (((bs.drop i).take j).map by8):=by
  rw [ldN_bk hb (by rw [List.length_map]; exact hi), <- List.map_drop, <- List.map_take]
 simp only [bsR, e, bytesV_by8]
 rfl
theorem mapset {ws : List Int} {i : Nat} {z : Int} : setL (ws.map λ z => Value.int .u32 z) i [.int .u32 z] = (ws.set i z).map λ z => Value.int .u32 z:=by
 rw [setL_cons, setL_nil, List.map_set]
theorem mix_run (ht : Tm w) (low : 10 < w.heap.size) {a b c d : Int} {bs : List UInt8} (hbs : bs.length = 64) :
  Run (F.digest_mix (.agg #[.int .u32 a, .int .u32 b, .int .u32 c, .int .u32 d]) (.agg (bs.map by8).toArray)) w λ r w' => (∃ a b c d : Int, r = .agg #[.int .u32 a, .int .u32 b, .int .u32 c, .int .u32 d]) /\ Fr (λ _ => False) w w':=by
 unfold F.digest_mix
 rw [Run_bind]
 refine Run_new λ x1 w1 h1 hw1 f1 hle1 => ?_
 rw [Run_bind]
 refine Run_new λ x2 w2 h2 hw2 f2 hle2 => ?_
 rw [Run_bind]
 refine Run_new λ x3 w3 h3 hw3 f3 hle3 => ?_
 rw [Run_bind]
 refine Run_new λ x4 w4 h4 hw4 f4 hle4 => ?_
 replace h1 : bk w1 x1 = some [.int .u32 a, .int .u32 b, .int .u32 c, .int .u32 d]:=h1
 replace h2 : bk w2 x2 = some (bs.map by8):=h2
 replace h3 : bk w3 x3 = some [.int .u32 0, .int .u32 0, .int .u32 0, .int .u32 0]:=h3
 replace h4 : bk w4 x4 = some ((List.replicate 16 (0 : Int)).map λ z => .int .u32 z):=h4
 have l1:=bk_lt h1
 have l2:=bk_lt h2
 have l3:=bk_lt h3
 have s1:=f1.size
 have s2:=f2.size
 have s3:=f3.size
 have s4:=f4.size
 have f24:=f3.trans f4 λ _ _ => id
 have f14:=f2.trans f24 λ _ _ => id
 have f04:=f1.trans f14 λ _ _ => id
 have t4:=ht.fr0 f04
 have g1:=f14.bk_some h1 id
 have g2:=f24.bk_some h2 id
 have g3:=f4.bk_some h3 id
 have gw3 : wr w4 x3 = true:=by rw [f4.wr l3 id]; exact hw3
 rw [Run_bind]
 refine Run_for 16 (λ i L w' => L = [.int .i64 (i : Int)] /\ (∃ ws : List Int, ws.length = 16 /\ bk w' x4 = some (ws.map λ z => .int .u32 z)) /\ wr w' x4 = true /\ Fr (λ c => c = x4) w4 w') ⟨rfl, ⟨_, by simp, h4⟩, hw4, Fr.refl _ _⟩ ?_ ?_
 ·rintro i L w5 hi ⟨rfl, ⟨ws, hws, hb⟩, hw, f5⟩
  have hil : (i : Int) < 16:=by omega
  have hb2:=f5.bk_some g2 (show ¬ x2 = x4 by omega)
  have e7 : binV .mul (.int .i64 4) (.int .i64 (i : Int)) = some (.int .i64 ((4 * i : Nat) : Int)):=mulN (a:=4) (b:=i) (by omega)
  have e9 : binV .add (.int .i64 ((4 * i : Nat) : Int)) (.int .i64 4) = some (.int .i64 ((4 * i + 4 : Nat) : Int)):=addN (a:=4 * i) (b:=4) (by omega)
  have e10:=sl64 (x:=x2) (i:=4 * i) (j:=4 * i + 4) (by omega) (by omega) (by omega)
  have e13 : idxR 16 1 (.pointer (some ⟨x4, 0, none⟩)) (.int .i64 (i : Int)) = some (.pointer (some ⟨x4, i, none⟩)):=by
   rw [idxR_ptr, if_pos (by omega)]; simp
  rw [getL_zero, lssT hil, Run_bindO_some, Run_condM_true, e7, Run_bindO_some, Run_bindO_some, e9, Run_bindO_some, e10, Run_bindO_some, Run_bind, Run_rdM]
  refine ⟨_, bs64 hb2 (by omega), ?_⟩
  rw [Run_bind]
  refine (little_run (by rw [List.length_take, List.length_drop]; omega)).mono ?_
  rintro _ w6 ⟨⟨z, rfl⟩, rfl⟩
  have f6 : Fr (λ c => c = x4) w4 w5.drew:=f5.drew
  have hb' : bk w5.drew x4 = some (ws.map λ z => .int .u32 z):=hb
  have hw' : wr w5.drew x4 = true:=hw
  rw [e13, Run_bindO_some, Run_bind, Run_st1 ⟨⟨⟨_, hb', by rw [List.length_map]; omega⟩, hw'⟩, rfl⟩, binV_int, intBin_add, wrap_succ' (by omega), Run_bindO_some, Run_ret]
  refine ⟨rfl, ⟨ws.set i z, by rw [List.length_set]; exact hws, ?_⟩, by rw [wr_sto]; exact hw', f6.sto (.inl rfl) _ _⟩
  rw [bk_sto_same hb', mapset]
 ·rintro L w5 ⟨rfl, ⟨ws, hws, hb⟩, hw, f5⟩
  have hil : ¬ ((16 : Nat) : Int) < 16:=by omega
  rw [getL_zero, lssF hil, Run_bindO_some, Run_condM_false, Run_ret]
  simp only [outK_exit]
  rw [show Nat.beq 0 0 = true from rfl, cond_true, Run_drewM]
  have f6 : Fr (λ c => c = x4) w4 w5.drew:=f5.drew
  replace hb : bk w5.drew x4 = some (ws.map λ z => .int .u32 z):=hb
  replace g1:=f6.bk_some g1 (show ¬ x1 = x4 by omega)
  replace g3:=f6.bk_some g3 (show ¬ x3 = x4 by omega)
  have gw3' : wr w5.drew x3 = true:=by rw [f6.wr (by omega) (show ¬ x3 = x4 by omega)]; exact gw3
  have t6:=t4.fr f6 λ b hb hc => by omega
  have f06 : Fr (λ _ => False) w w5.drew:=f04.new f6 λ c hc => by omega
  generalize w5.drew = w6 at *
  obtain ⟨sn, hsn, hs⟩:=t6.sin
  obtain ⟨tn, htn, htt⟩:=t6.trn
  have i0 : ∀ k : Nat, k < 4 -> idxR 4 1 (.pointer (some ⟨x1, 0, none⟩)) (.int .i64 (k : Int)) = some (.pointer (some ⟨x1, k, none⟩)):=λ k hk => by
   rw [idxR_ptr, if_pos (by omega)]; simp
  have d0 : ∀ (k : Nat) (w7 : World) (z : Value), bk w7 x1 = some [.int .u32 a, .int .u32 b, .int .u32 c, .int .u32 d] -> [Value.int .u32 a, .int .u32 b, .int .u32 c, .int .u32 d][k]? = some z -> ld1 (.pointer (some ⟨x1, k, none⟩)) w7 = some z:=λ k w7 z h hz => by
   rw [ld1_ptr, h]; exact hz
  have j0 : idxR 4 1 (.pointer (some ⟨x1, 0, none⟩)) (.int .i64 0) = some (.pointer (some ⟨x1, 0, none⟩)):=i0 0 (by decide)
  have j1 : idxR 4 1 (.pointer (some ⟨x1, 0, none⟩)) (.int .i64 1) = some (.pointer (some ⟨x1, 1, none⟩)):=i0 1 (by decide)
  have j2 : idxR 4 1 (.pointer (some ⟨x1, 0, none⟩)) (.int .i64 2) = some (.pointer (some ⟨x1, 2, none⟩)):=i0 2 (by decide)
  have j3 : idxR 4 1 (.pointer (some ⟨x1, 0, none⟩)) (.int .i64 3) = some (.pointer (some ⟨x1, 3, none⟩)):=i0 3 (by decide)
  rw [j0, Run_bindO_some, Run_bind, Run_rdM]
  refine ⟨_, d0 0 _ _ g1 rfl, ?_⟩
  rw [j1, Run_bindO_some, Run_bind, Run_rdM]
  refine ⟨_, d0 1 _ _ g1 rfl, ?_⟩
  rw [j2, Run_bindO_some, Run_bind, Run_rdM]
  refine ⟨_, d0 2 _ _ g1 rfl, ?_⟩
  rw [j3, Run_bindO_some, Run_bind, Run_rdM]
  refine ⟨_, d0 3 _ _ g1 rfl, ?_⟩
  rw [Run_bind, Run_rdM]
  refine ⟨_, ldA_bk hs (by rw [List.length_map]; omega), ?_⟩
  rw [List.drop_zero, List.take_of_length_le (by rw [List.length_map]; omega), Run_bind]
  refine Run_for 64 (λ i L w' => (∃ a b c d : Int, L = [.int .u32 a, .int .u32 b, .int .u32 c, .int .u32 d, .int .i64 (i : Int)]) /\ Fr (λ _ => False) w6 w') ⟨⟨_, _, _, _, rfl⟩, Fr.refl _ _⟩ ?_ ?_
  ·rintro i L w7 hi ⟨⟨a', b', c', d', rfl⟩, f7⟩
   have hil : (i : Int) < 64:=by omega
   obtain ⟨sz, hsz⟩ : ∃ sz, sn[i]? = some sz:=⟨_, List.getElem?_eq_getElem (by omega)⟩
   have e31 : idxG none 64 1 (.agg (sn.map λ z => Value.int .u32 z).toArray) (.int .i64 (i : Int)) = some (.int .u32 sz):=by
    unfold idxG
    simp only
    rw [if_pos (by omega)]
    simp [partV, hsz]
   have eq16 : binV .quo (.int .i64 (i : Int)) (.int .i64 16) = some (.int .i64 ((i / 16 : Nat) : Int)):=quoN (b:=16) (by decide) (by omega)
   have er4 : binV .rem (.int .i64 (i : Int)) (.int .i64 4) = some (.int .i64 ((i % 4 : Nat) : Int)):=remN (b:=4) (by decide)
   simp only [getL_zero, getL_succ]
   rw [lssT hil, Run_bindO_some, Run_condM_true, e31, Run_bindO_some, Run_bind, eq16, Run_bindO_some]
   have rest : ∀ (x : Int) (g : Nat), g < 16 -> Run (outK (.norm [.int .u32 x, .int .i64 (g : Int)]) (λ l57 =>
      drewM <|
      bindO (binV BinOp.add (.int .u32 a') (getL l57 0)) λ x61 =>
      bindO (binV BinOp.add x61 (.int .u32 sz)) λ x62 =>
      bindO (idxR 16 1 (.pointer (some ⟨x4, 0, none⟩)) (getL l57 1)) λ x63 =>
      M.bind (rdM (ld1 x63)) λ x64 =>
      bindO (binV BinOp.add x62 x64) λ x65 =>
      bindO (some (.int .i64 ((i / 16 : Nat) : Int))) λ x66 =>
      bindO (binV BinOp.rem (.int .i64 (i : Int)) (Value.int IntKind.i64 4)) λ x67 =>
      bindO (idxR 4 4 (Value.pointer (some { block:=5, off:=0, spot:=none })) x66) λ x68 =>
      bindO (idxR 4 1 x68 x67) λ x69 =>
      M.bind (rdM (ld1 x69)) λ x70 =>
      M.bind (F.bits_RotateLeft32 x65 x70) λ x71 =>
      bindO (binV BinOp.add (.int .u32 b') x71) λ x72 =>
      bindO (binV BinOp.add (.int .i64 (i : Int)) (Value.int IntKind.i64 1)) λ x73 =>
      M.ret (Out.norm [.int .u32 d', x72, .int .u32 b', .int .u32 c', x73])) (λ _ _ =>
      M.fail) (λ r60 => M.ret (Out.ret r60))) w7 λ o w' => ∃ a b c d : Int, o = .norm [.int .u32 a, .int .u32 b, .int .u32 c, .int .u32 d, .int .i64 ((i + 1 : Nat) : Int)] /\ Fr (λ _ => False) w6 w':=λ x g hg => by
    have f8 : Fr (λ _ => False) w6 w7.drew:=f7.drew
    have hb8:=f8.bk_some hb id
    have ht8:=f8.bk_some htt id
    obtain ⟨wz, hwz⟩ : ∃ wz, ws[g]? = some wz:=⟨_, List.getElem?_eq_getElem (by omega)⟩
    have e63 : idxR 16 1 (.pointer (some ⟨x4, 0, none⟩)) (.int .i64 (g : Int)) = some (.pointer (some ⟨x4, g, none⟩)):=by
     rw [idxR_ptr, if_pos (by omega)]; simp
    have q1 : ld1 (.pointer (some ⟨x4, g, none⟩)) w7.drew = some (.int .u32 wz):=by rw [ld1_ptr, hb8]; simp [hwz]
    have h16 : i / 16 < 4:=by omega
    have h4' : i % 4 < 4:=by omega
    have e68 : idxR 4 4 (.pointer (some ⟨5, 0, none⟩)) (.int .i64 ((i / 16 : Nat) : Int)) = some (.pointer (some ⟨5, i / 16 * 4, none⟩)):=by
     rw [idxR_ptr, if_pos (by omega), Int.toNat_natCast, Nat.zero_add]
    have e69 : idxR 4 1 (.pointer (some ⟨5, i / 16 * 4, none⟩)) (.int .i64 ((i % 4 : Nat) : Int)) = some (.pointer (some ⟨5, i / 16 * 4 + i % 4, none⟩)):=by
     rw [idxR_ptr, if_pos (by omega), Int.toNat_natCast, Nat.mul_one]
    obtain ⟨tz, htz⟩ : ∃ tz, tn[i / 16 * 4 + i % 4]? = some tz:=⟨_, List.getElem?_eq_getElem (by omega)⟩
    have q2 : ld1 (.pointer (some ⟨5, i / 16 * 4 + i % 4, none⟩)) w7.drew = some (.int .i64 tz):=by rw [ld1_ptr, ht8]; simp [htz]
    obtain ⟨x61, e61⟩:=add32 a' x
    obtain ⟨x62, e62⟩:=add32 x61 sz
    obtain ⟨x65, e65⟩:=add32 x62 wz
    rw [outK_norm, getL_zero, getL_succ, getL_zero, Run_drewM, e61, Run_bindO_some, e62, Run_bindO_some, e63, Run_bindO_some, Run_bind, Run_rdM]
    refine ⟨_, q1, ?_⟩
    rw [e65, Run_bindO_some, Run_bindO_some, er4, Run_bindO_some, e68, Run_bindO_some, e69, Run_bindO_some, Run_bind, Run_rdM]
    refine ⟨_, q2, ?_⟩
    rw [Run_bind]
    refine (rot_run x65 tz).mono ?_
    rintro _ w9 ⟨⟨y, rfl⟩, rfl⟩
    obtain ⟨x72, e72⟩:=add32 b' y
    rw [e72, Run_bindO_some, binV_int, intBin_add, wrap_succ' (by omega), Run_bindO_some, Run_ret]
    exact ⟨_, _, _, _, rfl, f8⟩
   have fin : ∀ (x : Int) (g : Nat), g < 16 -> _:=λ x g hg => (rest x g hg)
   have eE : ∀ k : Int, binV .eql (.int .i64 ((i / 16 : Nat) : Int)) (.int .i64 k) = some (.bool (decide (((i / 16 : Nat) : Int) = k))):=λ k => by rw [binV_int, intBin_eql]
   have m5 : binV .mul (.int .i64 5) (.int .i64 (i : Int)) = some (.int .i64 ((5 * i : Nat) : Int)):=mulN (a:=5) (b:=i) (by omega)
   have m3 : binV .mul (.int .i64 3) (.int .i64 (i : Int)) = some (.int .i64 ((3 * i : Nat) : Int)):=mulN (a:=3) (b:=i) (by omega)
   have m7 : binV .mul (.int .i64 7) (.int .i64 (i : Int)) = some (.int .i64 ((7 * i : Nat) : Int)):=mulN (a:=7) (b:=i) (by omega)
   have p1 : binV .add (.int .i64 ((5 * i : Nat) : Int)) (.int .i64 1) = some (.int .i64 ((5 * i + 1 : Nat) : Int)):=addN (a:=5 * i) (b:=1) (by omega)
   have p5 : binV .add (.int .i64 ((3 * i : Nat) : Int)) (.int .i64 5) = some (.int .i64 ((3 * i + 5 : Nat) : Int)):=addN (a:=3 * i) (b:=5) (by omega)
   have rm : ∀ n : Nat, binV .rem (.int .i64 (n : Int)) (.int .i64 16) = some (.int .i64 ((n % 16 : Nat) : Int)):=λ n => remN (a:=n) (b:=16) (by decide)
   rw [eE 0, Run_bindO_some]
   by_cases c0 : ((i / 16 : Nat) : Int) = 0
   ·obtain ⟨x34, e34⟩:=and32 b' c'
    obtain ⟨x35, e35⟩:=cplW b'
    obtain ⟨x36, e36⟩:=and32 x35 d'
    obtain ⟨x37, e37⟩:=or32 x34 x36
    rw [decide_eq_true c0, Run_condM_true, e34, Run_bindO_some, e35, Run_bindO_some, e36, Run_bindO_some, e37, Run_bindO_some, Run_ret]
    have h16 : i < 16:=by omega
    refine (rest x37 i h16).mono ?_
    rintro _ w8 ⟨_, _, _, _, rfl, f8⟩
    exact ⟨⟨_, _, _, _, rfl⟩, f8⟩
   rw [decide_eq_false c0, Run_condM_false, eE 1, Run_bindO_some]
   by_cases c1 : ((i / 16 : Nat) : Int) = 1
   ·obtain ⟨x34, e34⟩:=and32 d' b'
    obtain ⟨x35, e35⟩:=cplW d'
    obtain ⟨x36, e36⟩:=and32 x35 c'
    obtain ⟨x37, e37⟩:=or32 x34 x36
    rw [decide_eq_true c1, Run_condM_true, e34, Run_bindO_some, e35, Run_bindO_some, e36, Run_bindO_some, e37, Run_bindO_some, m5, Run_bindO_some, p1, Run_bindO_some, rm, Run_bindO_some, Run_ret]
    refine (rest x37 _ (Nat.mod_lt _ (by decide))).mono ?_
    rintro _ w8 ⟨_, _, _, _, rfl, f8⟩
    exact ⟨⟨_, _, _, _, rfl⟩, f8⟩
   rw [decide_eq_false c1, Run_condM_false, eE 2, Run_bindO_some]
   by_cases c2 : ((i / 16 : Nat) : Int) = 2
   ·obtain ⟨x34, e34⟩:=xor32 b' c'
    obtain ⟨x37, e37⟩:=xor32 x34 d'
    rw [decide_eq_true c2, Run_condM_true, e34, Run_bindO_some, e37, Run_bindO_some, m3, Run_bindO_some, p5, Run_bindO_some, rm, Run_bindO_some, Run_ret]
    refine (rest x37 _ (Nat.mod_lt _ (by decide))).mono ?_
    rintro _ w8 ⟨_, _, _, _, rfl, f8⟩
    exact ⟨⟨_, _, _, _, rfl⟩, f8⟩
   ·obtain ⟨x34, e34⟩:=cplW d'
    obtain ⟨x35, e35⟩:=or32 b' x34
    obtain ⟨x37, e37⟩:=xor32 c' x35
    rw [decide_eq_false c2, Run_condM_false, e34, Run_bindO_some, e35, Run_bindO_some, e37, Run_bindO_some, m7, Run_bindO_some, rm, Run_bindO_some, Run_ret]
    refine (rest x37 _ (Nat.mod_lt _ (by decide))).mono ?_
    rintro _ w8 ⟨_, _, _, _, rfl, f8⟩
    exact ⟨⟨_, _, _, _, rfl⟩, f8⟩
  ·rintro L w7 ⟨⟨a', b', c', d', rfl⟩, f7⟩
   have hil : ¬ ((64 : Nat) : Int) < 64:=by omega
   have k1:=f7.bk_some g1 id
   have k3:=f7.bk_some g3 id
   have kw3 : wr w7 x3 = true:=by rw [f7.wr (bk_lt g3) id]; exact gw3'
   simp only [getL_zero, getL_succ]
   rw [lssF hil, Run_bindO_some, Run_condM_false, Run_ret]
   simp only [outK_exit, getL_zero, getL_succ]
   obtain ⟨y0, e0⟩:=add32 a a'
   obtain ⟨y1, e1⟩:=add32 b b'
   obtain ⟨y2, e2⟩:=add32 c c'
   obtain ⟨y3, e3⟩:=add32 d d'
   rw [show Nat.beq 2 2 = true from rfl, cond_true, Run_bindO_some, Run_bind, Run_rdM]
   refine ⟨_, d0 0 _ _ k1 rfl, ?_⟩
   rw [e0, Run_bindO_some, Run_bindO_some, Run_bind, Run_rdM]
   refine ⟨_, d0 1 _ _ k1 rfl, ?_⟩
   rw [e1, Run_bindO_some, Run_bindO_some, Run_bind, Run_rdM]
   refine ⟨_, d0 2 _ _ k1 rfl, ?_⟩
   rw [e2, Run_bindO_some, Run_bindO_some, Run_bind, Run_rdM]
   refine ⟨_, d0 3 _ _ k1 rfl, ?_⟩
   have eb : buildV #[(Value.int IntKind.u32 0), (Value.int IntKind.u32 0), (Value.int IntKind.u32 0), (Value.int IntKind.u32 0)] [(0, 1, .int .u32 y0), (1, 1, .int .u32 y1), (2, 1, .int .u32 y2), (3, 1, .int .u32 y3)] = some (.agg #[.int .u32 y0, .int .u32 y1, .int .u32 y2, .int .u32 y3]):=rfl
   rw [e3, Run_bindO_some, eb, Run_bindO_some, Run_bind, Run_stA (n:=4) ⟨⟨⟨_, k3, by simp⟩, kw3⟩, rfl, rfl⟩, Run_bind, Run_rdM]
   have hb3:=bk_sto_same (o:=0) k3 [.int .u32 y0, .int .u32 y1, .int .u32 y2, .int .u32 y3]
   have hl3 : ldA 4 (.pointer (some ⟨x3, 0, none⟩)) (sto w7 x3 0 [.int .u32 y0, .int .u32 y1, .int .u32 y2, .int .u32 y3]) = some (.agg #[.int .u32 y0, .int .u32 y1, .int .u32 y2, .int .u32 y3]):=ldA_bk hb3 (by simp)
   refine ⟨_, hl3, ?_⟩
   rw [Run_ret]
   exact ⟨⟨_, _, _, _, rfl⟩, (f06.trans f7 λ _ _ => id).sto (.inr (by omega)) _ _⟩
end
def hsL (a b c d : Int) (bs : List UInt8) (z : Int) (n : Nat) : List Value:=.int .u32 a :: .int .u32 b :: .int .u32 c :: .int .u32 d :: (bs.map by8 ++ [.int .u32 z, .int .i64 (n : Int)])
section
variable {w w1 w2 : World}
theorem hsL_len {a b c d z : Int} {bs : List UInt8} {n : Nat} (h : bs.length = 64) : (hsL a b c d bs z n).length = 70:=by simp [hsL, h]
theorem hsL_n {a b c d z : Int} {bs : List UInt8} {n : Nat} (h : bs.length = 64) : (hsL a b c d bs z n)[69]? = some (.int .i64 (n : Int)):=by
 simp [hsL, List.getElem?_append, h]
theorem hsL_setn {a b c d z : Int} {bs : List UInt8} {n m : Nat} (h : bs.length = 64) : setL (hsL a b c d bs z n) 69 [.int .i64 (m : Int)] = hsL a b c d bs z m:=by
 rw [setL_cons, setL_nil]
 simp [hsL, List.set_append, h]
theorem hsL_st {a b c d z : Int} {bs : List UInt8} {n : Nat} : ((hsL a b c d bs z n).drop 0).take 4 = [.int .u32 a, .int .u32 b, .int .u32 c, .int .u32 d]:=rfl
theorem hsL_bs {a b c d z : Int} {bs : List UInt8} {n : Nat} (h : bs.length = 64) : ((hsL a b c d bs z n).drop 4).take 64 = bs.map by8:=by
 show (bs.map by8 ++ _).take 64 = _
 rw [List.take_append_of_le_length (by rw [List.length_map]; omega), List.take_of_length_le (by rw [List.length_map]; omega)]
theorem hsL_put {a b c d z : Int} {bs s : List UInt8} {n k : Nat} (h : bs.length = 64) (hk : k + s.length <= 64) : setL (hsL a b c d bs z n) (4 + k) (s.map by8) = hsL a b c d (bs.take k ++ s ++ bs.drop (k + s.length)) z n:=by
 rw [setL_eq _ _ _ (by rw [hsL_len h, List.length_map]; omega), List.length_map]
 have e1 : (hsL a b c d bs z n).take (4 + k) = .int .u32 a :: .int .u32 b :: .int .u32 c :: .int .u32 d :: (bs.take k).map by8:=by
  rw [Nat.add_comm]
  show _ :: _ :: _ :: _ :: (bs.map by8 ++ _).take k = _
  rw [List.take_append_of_le_length (by rw [List.length_map]; omega), List.map_take]
 have e2 : (hsL a b c d bs z n).drop (4 + k + s.length) = (bs.drop (k + s.length)).map by8 ++ [.int .u32 z, .int .i64 (n : Int)]:=by
  rw [show 4 + k + s.length = k + s.length + 4 by omega]
  show (bs.map by8 ++ _).drop (k + s.length) = _
  rw [List.drop_append_of_le_length (by rw [List.length_map]; omega), List.map_drop]
 rw [e1, e2]
 simp [hsL]
structure Hs (w : World) (x n : Nat) : Prop where
 blk : ∃ (a b c d z : Int) (bs : List UInt8), bs.length = 64 /\ bk w x = some (hsL a b c d bs z n)
 wr : wr w x = true
theorem Run_cpyS {b o dl dc : Nat} {L : List Value} {s : List UInt8} (hb : bk w b = some L) (hw : wr w b = true) (hl : o + dl <= L.length) (h1 : 1 <= s.length) (h2 : 1 <= dl) {Q : Value -> World -> Prop}
  (q : Q (.int .i64 ((min s.length dl : Nat) : Int)) (sto w b o ((s.take (min s.length dl)).map by8))) : Run (cpyM 1 (.slice (some ⟨b, o, none⟩) dl dc) (.string (sb s))) w Q:=by
 have e1 : firstN w 1 (Nat.min s.length dl) (.string (sb s)) = some ((s.take (min s.length dl)).map by8):=by
  show some (Array.map (λ b : UInt8 => Value.int .u8 b.toNat) ((sb s).extract 0 (min s.length dl)).data).toList = _
  rw [sb_extract, List.drop_zero]
  simp only [Array.toList_map]
  rfl
 have e2 : stN ⟨b, o, none⟩ ((s.take (min s.length dl)).map by8) w = some (sto w b o ((s.take (min s.length dl)).map by8)):=by
  have hlen : ((s.take (min s.length dl)).map by8).length = min s.length dl:=by rw [List.length_map, List.length_take]; omega
  unfold stN
  rw [if_neg (λ e => by rw [e] at hlen; simp at hlen; omega)]
  simp only [hb]
  rw [if_pos ⟨⟨by rw [hlen]; omega, List.all_eq_true.2 λ v hv => by obtain ⟨c, _, rfl⟩:=List.mem_map.1 hv; rfl⟩, hw⟩]
 refine ⟨_, _, ?_, q⟩
 unfold cpyM
 simp only [lenN, sb_size, e1, e2]
theorem sl64o {x k : Nat} (hk : k < 64) : sliceR 64 1 (.pointer (some ⟨x, 0 + 4, none⟩)) (some (.int .i64 (k : Int))) none = some (.slice (some ⟨x, 4 + k, none⟩) (64 - k) (64 - k)):=by
 simp only [sliceR, highV, lowV, bound_at (show k <= 64 by omega)]
 rw [if_neg (by omega)]
 simp [Addr.add_lit]
theorem take_run (ht : Tm w) {x n : Nat} (hx : 10 < x) (h : Hs w x n) {l : List UInt8} (hl : n + l.length <= 4611686018427387904) :
  Run (F.digest_Hasher_take (.pointer (some ⟨x, 0, none⟩)) (.string (sb l))) w λ r w' => Hs w' x (n + l.length) /\ Fr (λ c => c = x) w w':=by
 unfold F.digest_Hasher_take
 obtain ⟨⟨a, b, c, d, z, bs, hbs, hb⟩, hw⟩:=h
 have nc : nilChk (.pointer (some ⟨x, 0, none⟩)) = some (.pointer (some ⟨x, 0, none⟩)):=rfl
 have ln : ld1 (.pointer (some ⟨x, 0 + 69, none⟩)) w = some (.int .i64 (n : Int)):=by rw [ld1_ptr, hb]; exact hsL_n hbs
 rw [nc]
 simp only [Run_bindO_some, fieldA_ptr, Run_bind, Run_rdM]
 refine ⟨_, ln, ?_⟩
 have er : binV .rem (.int .i64 (n : Int)) (.int .i64 64) = some (.int .i64 ((n % 64 : Nat) : Int)):=remN (b:=64) (by decide)
 rw [er, Run_bindO_some]
 simp only [Run_bindO_some, fieldA_ptr, Run_bind, Run_rdM]
 refine ⟨_, ln, ?_⟩
 have lx:=bk_lt hb
 rw [lenS_string, sb_size, Run_bindO_some, addN (by omega), Run_bindO_some, Run_bindO_some, fieldA_ptr, Run_bindO_some, Run_bind, Run_st1 ⟨⟨⟨_, hb, by rw [hsL_len hbs]; decide⟩, hw⟩, rfl⟩]
 have hb1 : bk (sto w x 69 [.int .i64 ((n + l.length : Nat) : Int)]) x = some (hsL a b c d bs z (n + l.length)):=by rw [bk_sto_same hb, hsL_setn hbs]
 have hw1 : wr (sto w x 69 [.int .i64 ((n + l.length : Nat) : Int)]) x = true:=by rw [wr_sto]; exact hw
 have f1 : Fr (λ c => c = x) w (sto w x 69 [.int .i64 ((n + l.length : Nat) : Int)]):=(show Fr (λ c => c = x) w w from Fr.refl _ _).sto (.inl rfl) _ _
 rw [show 0 + 69 = 69 from rfl, Run_bind]
 generalize sto w x 69 [.int .i64 ((n + l.length : Nat) : Int)] = w1 at *
 have hll : l.length <= 4611686018427387904:=by omega
 generalize n + l.length = N at *
 refine Run_loopM (λ L w' => ∃ (s : List UInt8) (k : Nat), L = [.string (sb s), .int .i64 (k : Int)] /\ k < 64 /\ s.length <= 4611686018427387904 /\ Hs w' x N /\ Fr (λ c => c = x) w w') (λ L _ => match L with | .string s :: _ => s.size | _ => 0) ?_ ⟨l, n % 64, rfl, Nat.mod_lt _ (by decide), hll, ⟨⟨a, b, c, d, z, bs, hbs, hb1⟩, hw1⟩, f1⟩
 rintro L w2 ⟨s, k, rfl, hk, hsl, ⟨⟨a, b, c, d, z, bs, hbs, hb⟩, hw⟩, f2⟩
 simp only [getL_zero, getL_succ]
 rw [lenS_string, sb_size, Run_bindO_some]
 by_cases h0 : s.length = 0
 ·have hg : binV .gtr (.int .i64 ((s.length : Nat) : Int)) (.int .i64 0) = some (.bool false):=by rw [binV_int, intBin_gtr, decide_eq_false (by omega)]
  rw [hg, Run_bindO_some, Run_condM_false, Run_ret]
  simp only [outK_exit]
  rw [show Nat.beq 0 0 = true from rfl, cond_true, Run_ret]
  exact ⟨⟨⟨a, b, c, d, z, bs, hbs, hb⟩, hw⟩, f2⟩
 ·have hg : binV .gtr (.int .i64 ((s.length : Nat) : Int)) (.int .i64 0) = some (.bool true):=by rw [binV_int, intBin_gtr, decide_eq_true (by omega)]
  rw [hg, Run_bindO_some, Run_condM_true, Run_bindO_some, fieldA_ptr, Run_bindO_some, sl64o hk]
  simp only [Run_bindO_some, Run_bind]
  refine Run_cpyS hb hw (by rw [hsL_len hbs]; omega) (by omega) (by omega) ?_
  have hm1 : 1 <= min s.length (64 - k):=by omega
  have hm2 : min s.length (64 - k) <= s.length:=by omega
  have hm3 : k + min s.length (64 - k) <= 64:=by omega
  generalize min s.length (64 - k) = m at *
  have hml : (s.take m).length = m:=by rw [List.length_take]; omega
  have hb3 : bk (sto w2 x (4 + k) ((s.take m).map by8)) x = some (hsL a b c d (bs.take k ++ s.take m ++ bs.drop (k + m)) z N):=by rw [bk_sto_same hb, hsL_put hbs (by rw [hml]; exact hm3), hml]
  have hbs3 : (bs.take k ++ s.take m ++ bs.drop (k + m)).length = 64:=by
   simp only [List.length_append, List.length_take, List.length_drop]; omega
  have hw3 : wr (sto w2 x (4 + k) ((s.take m).map by8)) x = true:=by rw [wr_sto]; exact hw
  have f3 : Fr (λ c => c = x) w (sto w2 x (4 + k) ((s.take m).map by8)):=f2.sto (.inl rfl) _ _
  generalize sto w2 x (4 + k) ((s.take m).map by8) = w3 at *
  generalize bs.take k ++ s.take m ++ bs.drop (k + m) = bs3 at *
  have hmu : (sb (s.drop m)).size < (sb s).size:=by rw [sb_size, sb_size, List.length_drop]; omega
  have hdl : (s.drop m).length <= 4611686018427387904:=by rw [List.length_drop]; omega
  rw [addN (by omega), Run_bindO_some, slFrom hm2, Run_bindO_some, binV_int, intBin_eql, Run_bindO_some]
  by_cases hf : k + m = 64
  ·have hf' : ((k + m : Nat) : Int) = 64:=by omega
   rw [decide_eq_true hf', Run_condM_true, Run_drewM]
   have f4 : Fr (λ c => c = x) w w3.drew:=f3.drew
   have hb4 : bk w3.drew x = some (hsL a b c d bs3 z N):=hb3
   have hw4 : wr w3.drew x = true:=hw3
   have lx3:=bk_lt hb4
   generalize w3.drew = w4 at *
   simp only [Run_bindO_some, fieldA_ptr, Run_bind, Run_rdM]
   refine ⟨_, ldA_bk hb4 (by rw [hsL_len hbs3]; omega), ?_⟩
   refine ⟨_, ldA_bk hb4 (by rw [hsL_len hbs3]; omega), ?_⟩
   rw [show 0 + 0 = 0 from rfl, show 0 + 4 = 4 from rfl, hsL_st, hsL_bs hbs3]
   refine (mix_run (ht.fr f4 λ b hb hc => by omega) (by omega) hbs3).mono ?_
   rintro _ w5 ⟨⟨a', b', c', d', rfl⟩, f5⟩
   have hb5:=f5.bk_some hb4 id
   have hw5 : wr w5 x = true:=by rw [f5.wr lx3 id]; exact hw4
   rw [Run_stA (n:=4) ⟨⟨⟨_, hb5, by rw [hsL_len hbs3]; omega⟩, hw5⟩, rfl, rfl⟩, Run_ret]
   refine ⟨⟨s.drop m, 0, rfl, by decide, hdl, ⟨⟨a', b', c', d', z, bs3, hbs3, ?_⟩, by rw [wr_sto]; exact hw5⟩, (f4.trans f5 λ _ _ h => h.elim).sto (.inl rfl) _ _⟩, hmu⟩
   rw [bk_sto_same hb5]
   rfl
  ·have hf' : ¬ ((k + m : Nat) : Int) = 64:=by omega
   rw [decide_eq_false hf', Run_condM_false, Run_ret]
   exact ⟨⟨s.drop m, k + m, rfl, by omega, hdl, ⟨⟨a, b, c, d, z, bs3, hbs3, hb3⟩, hw3⟩, f3⟩, hmu⟩
theorem u8by8 (z : Int) (k : IntKind) : ∃ b : UInt8, cvtI IntKind.u8 (.int k z) = some (by8 b):=by
 have h1 : 0 <= IntKind.u8.wrap z /\ IntKind.u8.wrap z < 256:=by
  simp [IntKind.wrap, IntKind.bits, IntKind.signed]
  omega
 refine ⟨UInt8.ofNat (IntKind.u8.wrap z).toNat, ?_⟩
 rw [by8_of (by omega), Int.toNat_of_nonneg h1.1]
 rfl
theorem ownB_app4 {v : Value} {l : List UInt8} (h : OwnB w w1 v l) (b0 b1 b2 b3 : UInt8) {a1 a2 : Nat} (hl : l.length <= 33554432) {K : Value -> World -> Prop} (q : ∀ r w2, OwnB w w2 r (l ++ [b0, b1, b2, b3]) -> K r w2) :
  Run (bslM a1 4 (Builtin.zeroCells #[(Value.int IntKind.u8 0)] 4) [(0, 1, by8 b0), (1, 1, by8 b1), (2, 1, by8 b2), (3, 1, by8 b3)]) w1 λ a w2 => Run (appM a2 1 1 #[(Value.int IntKind.u8 0)] v a) w2 λ r w' => K r w':=by
 refine Run_bsl (k:=1) (vs:=[by8 b0, by8 b1, by8 b2, by8 b3]) (by rfl) (by intro v hv; simp only [List.mem_cons, List.not_mem_nil, or_false] at hv; rcases hv with rfl | rfl | rfl | rfl <;> rfl) rfl (by kernel_rfl) λ r w2 hr f2 hin => ?_
 have s2:=f2.size
 have h2 : SlW 1 w2 v (l.map λ b => [by8 b]):=h.sl.fr f2 λ _ _ => id
 refine Run_appM (k:=1) h2 hr.1 (by decide) rfl (by decide) (by intro e he; simp only [List.map_cons, List.map_nil, List.mem_cons, List.not_mem_nil, or_false] at he; rcases he with rfl | rfl | rfl | rfl <;> rfl) (by simp only [List.length_map, List.length_cons, List.length_nil]; omega) λ r3 w3 h3 f3 hin3 => q r3 w3 ?_
 have s3:=f3.size
 have s0:=h.fr.size
 have f12:=h.fr.trans f2 λ _ _ => id
 refine ⟨by rw [List.map_append]; exact h3, λ c hc => ?_, f12.new f3 λ c hc => (h.fresh c hc).1⟩
 rcases hin3 c hc with hc | hc
 ·have:=h.fresh c hc; omega
 ·omega
theorem words_run (a b c d : Int) : Run (F.digest_words (.agg #[.int .u32 a, .int .u32 b, .int .u32 c, .int .u32 d])) w λ r w' => (∃ t : List UInt8, t.length = 16 /\ r = .string (sb t)) /\ Fr (λ _ => False) w w':=by
 unfold F.digest_words
 rw [Run_bind]
 refine Run_new λ x1 w1 h1 hw1 f1 hle1 => ?_
 replace h1 : bk w1 x1 = some [.int .u32 a, .int .u32 b, .int .u32 c, .int .u32 d]:=h1
 rw [Run_bind]
 refine Run_mksM (k:=1) (n:=0) (c:=16) rfl (by decide) (by decide) (by decide) λ v w2 hv f2 hin => ?_
 rw [Run_bind, Run_rdM]
 refine ⟨_, ldA_bk (f2.bk_some h1 id) (Nat.le_refl _), ?_⟩
 have hO : OwnB w1 w2 v []:=⟨hv, hin, f2⟩
 rw [Run_bind]
 refine Run_for 4 (λ i L w' => ∃ (u : Value) (l : List UInt8), L = [u, .int .i64 (i : Int)] /\ l.length = 4 * i /\ OwnB w1 w' u l) ⟨v, [], rfl, rfl, hO⟩ ?_ ?_
 ·rintro i L w3 hi ⟨u, l, rfl, hl, hO⟩
  have hil : (i : Int) < 4:=by omega
  simp only [getL_zero, getL_succ]
  obtain ⟨y, hy⟩ : ∃ y : Int, idxG none 4 1 (.agg (([Value.int .u32 a, .int .u32 b, .int .u32 c, .int .u32 d].drop 0).take 4).toArray) (.int .i64 (i : Int)) = some (.int .u32 y):=by
   match i, hi with
   | 0, _ => exact ⟨a, rfl⟩
   | 1, _ => exact ⟨b, rfl⟩
   | 2, _ => exact ⟨c, rfl⟩
   | 3, _ => exact ⟨d, rfl⟩
  obtain ⟨b0, e0⟩:=u8by8 y .u32
  obtain ⟨y1, e1⟩:=shr32 y (j:=.u64) (b:=8) (by decide)
  obtain ⟨b1, e1'⟩:=u8by8 y1 .u32
  obtain ⟨y2, e2⟩:=shr32 y (j:=.u64) (b:=16) (by decide)
  obtain ⟨b2, e2'⟩:=u8by8 y2 .u32
  obtain ⟨y3, e3⟩:=shr32 y (j:=.u64) (b:=24) (by decide)
  obtain ⟨b3, e3'⟩:=u8by8 y3 .u32
  rw [lssT hil, Run_bindO_some, Run_condM_true, hy, Run_bindO_some, e0, Run_bindO_some, e1, Run_bindO_some, e1', Run_bindO_some, e2, Run_bindO_some, e2', Run_bindO_some, e3, Run_bindO_some, e3', Run_bindO_some]
  simp only [Run_bind]
  refine ownB_app4 hO b0 b1 b2 b3 (by omega) λ r w4 h4 => ?_
  rw [binV_int, intBin_add, wrap_succ' (by omega), Run_bindO_some, Run_ret]
  exact ⟨r, _, rfl, by rw [List.length_append, hl]; simp; omega, h4⟩
 ·rintro L w3 ⟨u, l, rfl, hl, hO⟩
  have hil : ¬ ((4 : Nat) : Int) < 4:=by omega
  simp only [getL_zero, getL_succ]
  rw [lssF hil, Run_bindO_some, Run_condM_false, Run_ret]
  simp only [outK_exit, getL_zero]
  rw [show Nat.beq 0 0 = true from rfl, cond_true, Run_bind, Run_rdM]
  refine ⟨_, ownB_text hO.sl.1, ?_⟩
  rw [Run_ret]
  exact ⟨⟨l, by omega, rfl⟩, f1.trans hO.fr λ _ _ => id⟩
end
section
variable {w w1 w2 : World}
theorem hs_new : #[(Value.int IntKind.u32 0), (Value.int IntKind.u32 0), (Value.int IntKind.u32 0), (Value.int IntKind.u32 0), (Value.int IntKind.u8 0), (Value.int IntKind.u8 0), (Value.int IntKind.u8 0), (Value.int IntKind.u8 0), (Value.int IntKind.u8 0), (Value.int IntKind.u8 0), (Value.int IntKind.u8 0), (Value.int IntKind.u8 0), (Value.int IntKind.u8 0), (Value.int IntKind.u8 0), (Value.int IntKind.u8 0), (Value.int IntKind.u8 0), (Value.int IntKind.u8 0), (Value.int IntKind.u8 0), (Value.int IntKind.u8 0), (Value.int IntKind.u8 0), (Value.int IntKind.u8 0), (Value.int IntKind.u8 0), (Value.int IntKind.u8 0), (Value.int IntKind.u8 0), (Value.int IntKind.u8 0), (Value.int IntKind.u8 0), (Value.int IntKind.u8 0), (Value.int IntKind.u8 0), (Value.int IntKind.u8 0), (Value.int IntKind.u8 0), (Value.int IntKind.u8 0), (Value.int IntKind.u8 0), (Value.int IntKind.u8 0), (Value.int IntKind.u8 0), (Value.int IntKind.u8 0), (Value.int IntKind.u8 0), (Value.int IntKind.u8 0), (Value.int IntKind.u8 0), (Value.int IntKind.u8 0), (Value.int IntKind.u8 0), (Value.int IntKind.u8 0), (Value.int IntKind.u8 0), (Value.int IntKind.u8 0), (Value.int IntKind.u8 0), (Value.int IntKind.u8 0), (Value.int IntKind.u8 0), (Value.int IntKind.u8 0), (Value.int IntKind.u8 0), (Value.int IntKind.u8 0), (Value.int IntKind.u8 0), (Value.int IntKind.u8 0), (Value.int IntKind.u8 0), (Value.int IntKind.u8 0), (Value.int IntKind.u8 0), (Value.int IntKind.u8 0), (Value.int IntKind.u8 0), (Value.int IntKind.u8 0), (Value.int IntKind.u8 0), (Value.int IntKind.u8 0), (Value.int IntKind.u8 0), (Value.int IntKind.u8 0), (Value.int IntKind.u8 0), (Value.int IntKind.u8 0), (Value.int IntKind.u8 0), (Value.int IntKind.u8 0), (Value.int IntKind.u8 0), (Value.int IntKind.u8 0), (Value.int IntKind.u8 0), (Value.int IntKind.u32 0), (Value.int IntKind.i64 0)] = (hsL 0 0 0 0 (List.replicate 64 0) 0 0).toArray:=by kernel_rfl
theorem hs_ini (a b c d : Int) : buildV #[(Value.int IntKind.u32 0), (Value.int IntKind.u32 0), (Value.int IntKind.u32 0), (Value.int IntKind.u32 0), (Value.int IntKind.u8 0), (Value.int IntKind.u8 0), (Value.int IntKind.u8 0), (Value.int IntKind.u8 0), (Value.int IntKind.u8 0), (Value.int IntKind.u8 0), (Value.int IntKind.u8 0), (Value.int IntKind.u8 0), (Value.int IntKind.u8 0), (Value.int IntKind.u8 0), (Value.int IntKind.u8 0), (Value.int IntKind.u8 0), (Value.int IntKind.u8 0), (Value.int IntKind.u8 0), (Value.int IntKind.u8 0), (Value.int IntKind.u8 0), (Value.int IntKind.u8 0), (Value.int IntKind.u8 0), (Value.int IntKind.u8 0), (Value.int IntKind.u8 0), (Value.int IntKind.u8 0), (Value.int IntKind.u8 0), (Value.int IntKind.u8 0), (Value.int IntKind.u8 0), (Value.int IntKind.u8 0), (Value.int IntKind.u8 0), (Value.int IntKind.u8 0), (Value.int IntKind.u8 0), (Value.int IntKind.u8 0), (Value.int IntKind.u8 0), (Value.int IntKind.u8 0), (Value.int IntKind.u8 0), (Value.int IntKind.u8 0), (Value.int IntKind.u8 0), (Value.int IntKind.u8 0), (Value.int IntKind.u8 0), (Value.int IntKind.u8 0), (Value.int IntKind.u8 0), (Value.int IntKind.u8 0), (Value.int IntKind.u8 0), (Value.int IntKind.u8 0), (Value.int IntKind.u8 0), (Value.int IntKind.u8 0), (Value.int IntKind.u8 0), (Value.int IntKind.u8 0), (Value.int IntKind.u8 0), (Value.int IntKind.u8 0), (Value.int IntKind.u8 0), (Value.int IntKind.u8 0), (Value.int IntKind.u8 0), (Value.int IntKind.u8 0), (Value.int IntKind.u8 0), (Value.int IntKind.u8 0), (Value.int IntKind.u8 0), (Value.int IntKind.u8 0), (Value.int IntKind.u8 0), (Value.int IntKind.u8 0), (Value.int IntKind.u8 0), (Value.int IntKind.u8 0), (Value.int IntKind.u8 0), (Value.int IntKind.u8 0), (Value.int IntKind.u8 0), (Value.int IntKind.u8 0), (Value.int IntKind.u8 0), (Value.int IntKind.u32 0), (Value.int IntKind.i64 0)] [(0, 4, .agg #[.int .u32 a, .int .u32 b, .int .u32 c, .int .u32 d])] = some (.agg (hsL a b c d (List.replicate 64 0) 0 0).toArray):=by kernel_rfl
theorem hsL_cell {a b c d z : Int} {bs : List UInt8} {n : Nat} : (hsL a b c d bs z n).toArray.toList.all isCell = true:=by
 rw [List.all_eq_true]
 intro v hv
 simp only [hsL, List.mem_cons, List.mem_append, List.mem_map, List.not_mem_nil, or_false] at hv
 rcases hv with rfl | rfl | rfl | rfl | ⟨_, _, rfl⟩ | rfl | rfl <;> rfl
theorem newHasher_run (ht : Tm w) : Run (F.digest_NewHasher) w λ r w' => ∃ x, r = .pointer (some ⟨x, 0, none⟩) /\ w.heap.size <= x /\ Hs w' x 0 /\ Fr (λ _ => False) w w':=by
 unfold F.digest_NewHasher
 obtain ⟨a, b, c, d, h⟩:=ht.ini
 rw [Run_bind, Run_rdM]
 refine ⟨_, ldA_bk h (Nat.le_refl _), ?_⟩
 rw [show (([Value.int .u32 a, .int .u32 b, .int .u32 c, .int .u32 d].drop 0).take 4).toArray = #[.int .u32 a, .int .u32 b, .int .u32 c, .int .u32 d] from rfl, hs_ini, Run_bindO_some, Run_bind]
 refine Run_new λ x w1 hx hxw f1 hxle => ?_
 rw [Run_ret]
 exact ⟨x, rfl, hxle, ⟨⟨a, b, c, d, 0, List.replicate 64 0, by simp, hx⟩, hxw⟩, f1⟩
theorem rep0 (n : Nat) : List.replicate n (#[(Value.int IntKind.u8 0)] : Array Value).toList = (List.replicate n (0 : UInt8)).map λ b => [by8 b]:=by
 rw [List.map_replicate]
 rfl
theorem hmd5_run (ht : Tm w) {x n : Nat} (h : Hs w x n) (hx : 10 < x) (hn : n <= 4611686018427380000) : Run (F.digest_Hasher_MD5 (.pointer (some ⟨x, 0, none⟩))) w λ r w' => (∃ t : List UInt8, t.length = 16 /\ r = .string (sb t)) /\ Fr (λ _ => False) w w':=by
 unfold F.digest_Hasher_MD5
 have lx : x < w.heap.size:=by obtain ⟨a, b, c, d, z, bs, hbs, hb⟩:=h.blk; exact bk_lt hb
 obtain ⟨⟨a, b, c, d, z, bs, hbs, hb⟩, hw⟩:=h
 have nc : nilChk (.pointer (some ⟨x, 0, none⟩)) = some (.pointer (some ⟨x, 0, none⟩)):=rfl
 have ne : eqV (EqSh.one EqK.ptr) (.pointer (some ⟨x, 0, none⟩)) (.pointer none) = some (.bool false):=rfl
 rw [ne, Run_bindO_some, Run_condM_false, nc, Run_bindO_some, Run_bind, Run_rdM]
 refine ⟨_, ldA_bk hb (by rw [hsL_len hbs]; decide), ?_⟩
 rw [List.drop_zero, List.take_of_length_le (by rw [hsL_len hbs]; exact Nat.le_refl _), hs_new, Run_bind]
 refine Run_new λ y w1 hy hyw f1 hyle => ?_
 rw [Run_bind, Run_stA (n:=70) ⟨⟨⟨_, hy, by rw [List.toList_toArray, hsL_len (by simp)]; decide⟩, hyw⟩, by rw [List.size_toArray, hsL_len hbs], hsL_cell⟩]
 have hb1:=f1.bk_some hb id
 have hy1 : bk (sto w1 y 0 (hsL a b c d bs z n).toArray.toList) y = some (hsL a b c d bs z n):=by
  rw [bk_sto_same hy, setL_eq _ _ _ (by simp only [List.toList_toArray]; rw [hsL_len hbs, hsL_len (by simp)]; decide)]
  simp only [List.toList_toArray, List.take_zero, List.nil_append]
  rw [List.drop_of_length_le (by rw [hsL_len (by simp), hsL_len hbs]; decide), List.append_nil]
 have f2 : Fr (λ _ => False) w (sto w1 y 0 (hsL a b c d bs z n).toArray.toList):=f1.sto (.inr hyle) _ _
 have hyw2 : wr (sto w1 y 0 (hsL a b c d bs z n).toArray.toList) y = true:=by rw [wr_sto]; exact hyw
 generalize sto w1 y 0 (hsL a b c d bs z n).toArray.toList = w2 at *
 have ly:=bk_lt hy1
 have s2:=f2.size
 have hb2:=f2.bk_some hb id
 have ln : ld1 (.pointer (some ⟨x, 0 + 69, none⟩)) w2 = some (.int .i64 (n : Int)):=by rw [ld1_ptr, hb2]; exact hsL_n hbs
 simp only [Run_bindO_some, fieldA_ptr, Run_bind, Run_rdM]
 refine ⟨_, ln, ?_⟩
 obtain ⟨q, hq⟩ : ∃ q : Int, shV .shl (.int .u64 (IntKind.u64.wrap (n : Int))) (.int .u64 3) = some (.int .u64 q):=⟨_, by
  unfold shV
  simp only
  rw [if_neg (by omega)]⟩
 have e64 : cvtI IntKind.u64 (.int .i64 (n : Int)) = some (.int .u64 (IntKind.u64.wrap (n : Int))):=rfl
 have er : binV .rem (.int .i64 (n : Int)) (.int .i64 64) = some (.int .i64 ((n % 64 : Nat) : Int)):=remN (b:=64) (by decide)
 have es : binV .sub (.int .i64 119) (.int .i64 ((n % 64 : Nat) : Int)) = some (.int .i64 ((119 - n % 64 : Nat) : Int)):=by
  rw [binV_int]
  show some (Value.int .i64 (IntKind.i64.wrap ((119 : Int) - ((n % 64 : Nat) : Int)))) = _
  rw [show (119 : Int) - ((n % 64 : Nat) : Int) = ((119 - n % 64 : Nat) : Int) by omega, i64W (by omega)]
 have er2 : binV .rem (.int .i64 ((119 - n % 64 : Nat) : Int)) (.int .i64 64) = some (.int .i64 (((119 - n % 64) % 64 : Nat) : Int)):=remN (b:=64) (by decide)
 have hp : (119 - n % 64) % 64 < 64:=Nat.mod_lt _ (by decide)
 generalize (119 - n % 64) % 64 = p at *
 have ea1 : binV .add (.int .i64 1) (.int .i64 (p : Int)) = some (.int .i64 ((1 + p : Nat) : Int)):=addN (a:=1) (b:=p) (by omega)
 have ea2 : binV .add (.int .i64 ((1 + p : Nat) : Int)) (.int .i64 8) = some (.int .i64 ((1 + p + 8 : Nat) : Int)):=addN (a:=1 + p) (b:=8) (by omega)
 rw [e64, Run_bindO_some, hq]
 simp only [Run_bindO_some, fieldA_ptr, Run_bind, Run_rdM]
 refine ⟨_, ln, ?_⟩
 rw [er, Run_bindO_some, es, Run_bindO_some, er2, Run_bindO_some, ea1, Run_bindO_some, Run_bindO_some, ea2, Run_bindO_some, Run_bind]
 refine Run_mksM (k:=1) (n:=1 + p) (c:=1 + p + 8) rfl (by omega) (by omega) (by omega) λ v w3 hv f3 hin => ?_
 rw [rep0] at hv
 have hv0 : ((List.replicate (1 + p) (0 : UInt8)).map λ b => [by8 b])[0]? = some [by8 0]:=by rw [Nat.add_comm]; rfl
 obtain ⟨vb, vo, e1, e2, e3, e4, e5⟩:=hv.put hv0 .i64
 obtain ⟨e6, e7⟩:=e5 0 [by8 128] (by decide)
 have e1' : idxA 1 v (.int .i64 0) = some (.pointer (some ⟨vb, vo, none⟩)):=e1
 have hvb:=hin vb e2
 have s3:=f3.size
 rw [e1', Run_bindO_some, Run_bind, Run_st1 ⟨e4, rfl⟩]
 have f3' : Fr (λ _ => False) w2 (sto w3 vb (vo + 0) [by8 128]):=f3.sto (.inr (by omega)) _ _
 have hsl : SlW 1 (sto w3 vb (vo + 0) [by8 128]) v (((List.replicate (1 + p) (0 : UInt8)).set 0 128).map λ b => [by8 b]):=by
  rw [List.map_set]
  exact e7
 have hO : OwnB w2 (sto w3 vb (vo + 0) [by8 128]) v ((List.replicate (1 + p) (0 : UInt8)).set 0 128):=⟨hsl, λ c hc => by rw [size_sto]; exact hin c hc, f3'⟩
 rw [show vo + 0 = vo from rfl] at hO
 have hl0 : ((List.replicate (1 + p) (0 : UInt8)).set 0 128).length = 1 + p:=by simp
 have e128 : Value.int IntKind.u8 128 = by8 128:=rfl
 rw [e128]
 generalize (List.replicate (1 + p) (0 : UInt8)).set 0 128 = l0 at *
 generalize sto w3 vb vo [by8 128] = w4 at *
 rw [Run_bind]
 refine Run_for 8 (λ i L w' => ∃ (u : Value) (l : List UInt8), L = [u, .int .i64 (i : Int)] /\ l.length = 1 + p + i /\ OwnB w2 w' u l) ⟨v, l0, rfl, hl0, hO⟩ ?_ ?_
 ·rintro i L w5 hi ⟨u, l, rfl, hl, hO⟩
  have hil : (i : Int) < 8:=by omega
  simp only [getL_zero, getL_succ]
  have em : binV .mul (.int .i64 8) (.int .i64 (i : Int)) = some (.int .i64 ((8 * i : Nat) : Int)):=mulN (a:=8) (b:=i) (by omega)
  obtain ⟨q2, hq2⟩ : ∃ q2 : Int, shV .shr (.int .u64 q) (.int .i64 ((8 * i : Nat) : Int)) = some (.int .u64 q2):=⟨_, by
   unfold shV
   simp only
   rw [if_neg (by omega)]⟩
  obtain ⟨b0, e0⟩:=u8by8 q2 .u64
  rw [lssT hil, Run_bindO_some, Run_condM_true, em, Run_bindO_some, hq2, Run_bindO_some, e0, Run_bindO_some]
  simp only [Run_bind]
  refine ownB_app hO b0 (by omega) λ r w6 h6 => ?_
  rw [binV_int, intBin_add, wrap_succ' (by omega), Run_bindO_some, Run_ret]
  exact ⟨r, _, rfl, by rw [List.length_append, hl]; simp; omega, h6⟩
 ·rintro L w5 ⟨u, l, rfl, hl, hO⟩
  have hil : ¬ ((8 : Nat) : Int) < 8:=by omega
  simp only [getL_zero, getL_succ]
  rw [lssF hil, Run_bindO_some, Run_condM_false, Run_ret]
  simp only [outK_exit, getL_zero]
  rw [show Nat.beq 0 0 = true from rfl, cond_true, Run_bind, Run_rdM]
  refine ⟨_, ownB_text hO.sl.1, ?_⟩
  have f5:=hO.fr
  have f05:=f2.trans f5 λ _ _ => id
  have hy5:=f5.bk_some hy1 id
  have hyw5 : wr w5 y = true:=by rw [f5.wr ly id]; exact hyw2
  rw [Run_bind]
  refine (take_run (ht.fr0 f05) (x:=y) (n:=n) (by omega) ⟨⟨a, b, c, d, z, bs, hbs, hy5⟩, hyw5⟩ (l:=l) (by omega)).mono ?_
  rintro _ w6 ⟨⟨⟨a', b', c', d', z', bs', hbs', hy6⟩, hyw6⟩, f6⟩
  have f06 : Fr (λ _ => False) w w6:=f05.new f6 λ c hc => by omega
  rw [Run_bindO_some, Run_bind, Run_rdM]
  refine ⟨_, ldA_bk hy6 (by rw [hsL_len hbs']; decide), ?_⟩
  rw [show 0 + 0 = 0 from rfl, hsL_st, Run_bind]
  refine (words_run a' b' c' d').mono ?_
  rintro _ w7 ⟨⟨t, ht, rfl⟩, f7⟩
  rw [Run_ret]
  exact ⟨⟨t, ht, rfl⟩, f06.trans f7 λ _ _ => id⟩
theorem md5_run (ht : Tm w) (low : 10 < w.heap.size) {v : Value} {l : List UInt8} (hv : Sl 1 w v [[.string (sb l)]]) (hl : l.length <= 4611686018427380000) : Run (F.digest_MD5 v) w λ r w' => (∃ t : List UInt8, t.length = 16 /\ r = .string (sb t)) /\ Fr (λ _ => False) w w':=by
 unfold F.digest_MD5
 rw [Run_bind]
 refine (newHasher_run ht).mono ?_
 rintro _ w1 ⟨x, rfl, hx, h0, f1⟩
 have lv:=hv.lenL
 rw [lv, Run_bindO_some, Run_bind]
 refine Run_for 1 (λ i L w' => L = [.int .i64 (i : Int)] /\ Hs w' x (if i = 0 then 0 else l.length) /\ Fr (λ _ => False) w w') ⟨rfl, h0, f1⟩ ?_ ?_
 ·rintro i L w2 hi ⟨rfl, h, f2⟩
  obtain rfl : i = 0:=by omega
  obtain ⟨q, q1, q2⟩:=(hv.fr0 f2).rd1 (i:=0) (y:=.string (sb l)) rfl .i64
  have q1' : idxA 1 v (.int .i64 0) = some q:=q1
  simp only [getL_zero]
  rw [show binV .lss (.int .i64 ((0 : Nat) : Int)) (.int .i64 (([[Value.string (sb l)]].length : Nat) : Int)) = some (.bool true) from rfl, Run_bindO_some, Run_condM_true, show (((0 : Nat) : Int)) = 0 from rfl, q1', Run_bindO_some, Run_bind, Run_rdM]
  refine ⟨_, q2, ?_⟩
  rw [Run_bind]
  refine (take_run (ht.fr0 f2) (n:=0) (by omega) h (l:=l) (by omega)).mono ?_
  rintro _ w3 ⟨h3, f3⟩
  rw [show binV .add (.int .i64 0) (.int .i64 1) = some (.int .i64 1) from rfl, Run_bindO_some, Run_ret]
  refine ⟨rfl, ?_, f2.new f3 λ c hc => by omega⟩
  rw [if_neg (by decide)]
  rwa [Nat.zero_add] at h3
 ·rintro L w2 ⟨rfl, h, f2⟩
  simp only [getL_zero]
  rw [show binV .lss (.int .i64 ((1 : Nat) : Int)) (.int .i64 (([[Value.string (sb l)]].length : Nat) : Int)) = some (.bool false) from rfl, Run_bindO_some, Run_condM_false, Run_ret]
  simp only [outK_exit]
  rw [if_neg (by decide)] at h
  rw [show Nat.beq 0 0 = true from rfl, cond_true, Run_bind]
  refine (hmd5_run (ht.fr0 f2) h (by omega) hl).mono ?_
  rintro _ w3 ⟨h3, f3⟩
  rw [Run_ret]
  exact ⟨h3, f2.trans f3 λ _ _ => id⟩
end
structure Gf where
 nm : List UInt8
 tx : List UInt8
def Gf.row (g : Gf) : List Value:=[.string (sb g.nm), .string (sb g.tx)]
def allT (gs : List Gf) : List UInt8:=(gs.map λ g => g.tx).flatten
def FsOf (gs : List Gf) (fs : List Fl) : Prop:=fs.map (λ f => (f.nm, f.sz, f.crc)) = gs.map (λ g => (g.nm, ((g.tx.length : Nat) : Int), ((crcF (sb g.tx) : Nat) : Int))) /\ ∀ f ∈ fs, f.md.length = 16
def okL (z : Option (List UInt8) × Fl) : Bool:=lettersP z.2.nm && (match z.1 with
 | none => true
 | some a => Op.bytesLess a z.2.nm)
theorem FsOf.len {gs : List Gf} {fs : List Fl} (h : FsOf gs fs) : fs.length = gs.length:=by
 have:=congrArg List.length h.1
 simpa using this
theorem FsOf.snoc {gs : List Gf} {fs : List Fl} (h : FsOf gs fs) (g : Gf) {t : List UInt8} (ht : t.length = 16) : FsOf (gs ++ [g]) (fs ++ [⟨g.nm, (g.tx.length : Nat), (crcF (sb g.tx) : Nat), t⟩]):=by
 refine ⟨by rw [List.map_append, List.map_append, h.1]; rfl, λ f hf => ?_⟩
 rcases List.mem_append.1 hf with hf | hf
 ·exact h.2 f hf
 ·obtain rfl:=List.mem_singleton.1 hf; exact ht
theorem prs_snoc : ∀ (fs : List Fl) (p : Option (List UInt8)) (f : Fl), prs p (fs ++ [f]) = prs p fs ++ [((match fs.getLast? with | none => p | some g => some g.nm), f)]
 | [], p, f => rfl
 | [x], p, f => rfl
 | x :: y :: r, p, f => by
  have ih:=prs_snoc (y :: r) (some x.nm) f
  show (p, x) :: prs (some x.nm) ((y :: r) ++ [f]) = (p, x) :: prs (some x.nm) (y :: r) ++ _
  rw [ih]
  have e : (x :: y :: r).getLast? = (y :: r).getLast?:=List.getLast?_cons_cons
  rw [e]
  cases hz : (y :: r).getLast? with
  | none => simp at hz
  | some g => rfl
theorem letters_file {l : List UInt8} (h : lettersP l = true) : fileP l = true:=by
 unfold lettersP at h
 simp only [Bool.and_eq_true, decide_eq_true_eq, List.all_eq_true] at h
 obtain ⟨⟨h1, h2⟩, h3⟩:=h
 unfold fileP
 simp only [Bool.and_eq_true, decide_eq_true_eq, List.all_eq_true]
 have h46 : ∀ c ∈ l, c ≠ 46:=λ c hc e => by
  have:=h3 c hc
  subst e
  exact absurd this.1 (by decide)
 refine ⟨⟨h1, h2, λ e => ?_, λ e => ?_⟩, λ c hc => ?_⟩
 ·subst e; exact h46 46 (by simp) rfl
 ·subst e; exact h46 46 (by simp) rfl
 ·have h':=h3 c hc
  have key : ∀ n : Nat, 97 <= n -> n <= 122 -> UInt8.ofNat n ∈ fiSet:=by
   intro n a b
   have : ∀ k : Fin 26, UInt8.ofNat (97 + k.val) ∈ fiSet:=by decide +kernel
   have:=this ⟨n - 97, by omega⟩
   rwa [show 97 + (n - 97) = n by omega] at this
  have:=key c.toNat h'.1 h'.2
  rwa [UInt8.ofNat_toNat] at this
theorem tot_ofN : ∀ (n : Nat) {gs : List Gf} {fs : List Fl}, gs.length = n -> FsOf gs fs -> totF fs = (allT gs).length /\ whoF fs = crcF (sb (allT gs))
 | 0, gs, fs, hn, h => by
  have h1 : gs = []:=List.length_eq_zero_iff.1 hn
  have : fs = []:=List.length_eq_zero_iff.1 (h.len.trans hn)
  subst this
  subst h1
  exact ⟨rfl, by decide +kernel⟩
 | n + 1, gs0, fs, hn, h => by
  obtain ⟨fs', f, rfl⟩ : ∃ fs' f, fs = fs' ++ [f]:=by
   have hl:=h.len
   exact ⟨fs.dropLast, fs.getLast (by intro e; subst e; simp at hl; omega), (List.dropLast_concat_getLast _).symm⟩
  obtain ⟨gs, g, rfl⟩ : ∃ gs g, gs0 = gs ++ [g]:=⟨gs0.dropLast, gs0.getLast (by intro e; subst e; simp at hn), (List.dropLast_concat_getLast _).symm⟩
  have hn' : gs.length = n:=by simpa using hn
  obtain ⟨h1, h2⟩:=h
  rw [List.map_append, List.map_append] at h1
  obtain ⟨h3, h4⟩:=List.append_inj' h1 rfl
  have hf : (f.nm, f.sz, f.crc) = (g.nm, ((g.tx.length : Nat) : Int), ((crcF (sb g.tx) : Nat) : Int)):=by
   injection h4
  injection hf with e1 e2
  injection e2 with e2 e3
  obtain ⟨i1, i2⟩:=tot_ofN n hn' ⟨h3, λ f hf => h2 f (by simp [hf])⟩
  have ea : allT (gs ++ [g]) = allT gs ++ g.tx:=by simp [allT]
  constructor
  ·rw [ea, List.length_append, <- i1]
   unfold totF
   rw [List.map_append, List.sum_append]
   simp [e2]
  ·rw [ea, crc_join, <- i2]
   unfold whoF
   rw [List.foldl_append]
   simp [e2, e3]
theorem tot_of {gs : List Gf} {fs : List Fl} (h : FsOf gs fs) : totF fs = (allT gs).length /\ whoF fs = crcF (sb (allT gs)):=tot_ofN _ rfl h
structure ToldP (s0 : List UInt8) (gs : List Gf) (m : Mf) (ok : Bool) : Prop where
 st : m.st = s0
 ver : m.ver = 7
 node : m.node = 3
 fs : FsOf gs m.fs
 tot : m.tot = ((allT gs).length : Nat)
 who : m.who = (crcF (sb (allT gs)) : Nat)
 good : ok = true -> lettersP s0 = true /\ gs.length <= 1025 /\ (prs none m.fs).all okL = true
theorem files_ok {fs : List Fl} (h : (prs none fs).all okL = true) (hr : ∀ f ∈ fs, (0 <= f.sz /\ f.sz <= 1073741824) /\ (0 <= f.crc /\ f.crc <= 4294967295) /\ f.md.length = 16) : filesOk fs = true:=by
 unfold filesOk
 rw [List.all_eq_true] at h ⊢
 intro z hz
 have h':=h z hz
 have hm : z.2 ∈ fs:=by
  have : ∀ (fs : List Fl) (p : Option (List UInt8)), z ∈ prs p fs -> z.2 ∈ fs:=by
   intro fs
   induction fs with
   | nil => intro p h; cases h
   | cons x r ih =>
    intro p h
    rcases List.mem_cons.1 h with rfl | h
    ·simp
    ·exact List.mem_cons_of_mem _ (ih _ h)
  exact this fs none hz
 obtain ⟨r1, r2, r3⟩:=hr _ hm
 unfold okL at h'
 rw [Bool.and_eq_true] at h'
 unfold okP
 rw [Bool.and_eq_true]
 exact ⟨Fl.ok_iff.2 ⟨letters_file h'.1, r1, r2, r3⟩, h'.2⟩
theorem told_holds {st : List UInt8} {gs : List Gf} {m : Mf} (h : ToldP st gs m true) (hs : ∀ g ∈ gs, g.tx.length <= 1073741824) (hall : (allT gs).length <= 9007199254740992) : holdsF m = 0:=by
 obtain ⟨h1, h2, h3⟩:=h.good rfl
 have hfs : ∀ f ∈ m.fs, (0 <= f.sz /\ f.sz <= 1073741824) /\ (0 <= f.crc /\ f.crc <= 4294967295) /\ f.md.length = 16:=λ f hf => by
  have hm : (f.nm, f.sz, f.crc) ∈ m.fs.map λ f => (f.nm, f.sz, f.crc):=List.mem_map_of_mem hf
  rw [h.fs.1] at hm
  obtain ⟨g, hg, e⟩:=List.mem_map.1 hm
  injection e with _ e
  injection e with e1 e2
  have:=crcF_lt (sb g.tx)
  have:=hs g hg
  exact ⟨by omega, by omega, h.fs.2 f hf⟩
 have hok:=files_ok h3 hfs
 obtain ⟨t1, t2⟩:=tot_of h.fs
 have hw:=crcF_lt (sb (allT gs))
 have hhead : headOk m = true:=by
  unfold headOk
  rw [h.st, h.ver, h.node, h.fs.len, h.tot, h.who, letters_store h1]
  simp only [Bool.true_and, Bool.and_eq_true, decide_eq_true_eq]
  omega
 unfold holdsF
 rw [hhead, hok, Bool.true_and, if_pos rfl, if_pos ⟨by rw [t1, h.tot], by rw [t2, h.who]⟩]
section
variable {w w1 w2 : World}
theorem file_tail {w0 : World} {x3 : Nat} {m : Mf} {u : Value} (h3 : bk w x3 = some (mval m u)) (hw3 : wr w x3 = true) (hO : OwnR w0 w u m.fs) (hx0 : x3 < w0.heap.size) (h0 : w0.heap.size <= w.heap.size) (hn : m.fs.length <= 4294967296) (f : Fl) {β : Type} {K : World -> M β} {Q : β -> World -> Prop}
  (q : ∀ W w' r, Fr (λ _ => False) w W -> bk w' x3 = some (mval { m with fs:=m.fs ++ [f] } r) -> wr w' x3 = true -> OwnR w0 w' r (m.fs ++ [f]) -> Fr (λ c => c = x3 ∨ inB u c) w w' -> Run (K W) w' Q) :
  Run (bindO (buildV #[(Value.string ByteArray.empty), (Value.int IntKind.i64 0), (Value.int IntKind.i64 0), (Value.string ByteArray.empty)] [(0, 1, .string (sb f.nm)), (1, 1, .int .i64 f.sz), (2, 1, .int .i64 f.crc), (3, 1, .string (sb f.md))]) λ x56 =>
     M.bind (bslM 75 1 (Builtin.zeroCells #[(Value.string ByteArray.empty), (Value.int IntKind.i64 0), (Value.int IntKind.i64 0), (Value.string ByteArray.empty)] 1) [(0, 4, x56)]) λ x57 =>
     getM λ W58 =>
     M.bind (appM 75 4 48 #[(Value.string ByteArray.empty), (Value.int IntKind.i64 0), (Value.int IntKind.i64 0), (Value.string ByteArray.empty)] u x57) λ x59 =>
     getM λ _ =>
     bindO (some (.pointer (some ⟨x3, 0 + 3, none⟩))) λ x61 =>
     M.bind (stM 1 x61 x59) λ _ =>
     getM λ _ => K W58) w Q:=by
 have eb : buildV #[(Value.string ByteArray.empty), (Value.int IntKind.i64 0), (Value.int IntKind.i64 0), (Value.string ByteArray.empty)] [(0, 1, .string (sb f.nm)), (1, 1, .int .i64 f.sz), (2, 1, .int .i64 f.crc), (3, 1, .string (sb f.md))] = some (.agg f.row.toArray):=rfl
 have lx:=bk_lt h3
 rw [eb, Run_bindO_some]
 simp only [Run_bind, Run_getM]
 refine Run_app1 (K:=λ W r w' => Run (bindO (some (Value.pointer (some ⟨x3, 0 + 3, none⟩))) λ x61 => M.bind (stM 1 x61 r) λ _ => getM λ _ => K W) w' Q) (k:=4) (y:=.agg f.row.toArray) rfl hO.sl (by decide) rfl (by decide) f.row_cell (by simp only [List.length_map]; omega) λ r w4 hr f4 hin W fW => ?_
 have h34:=f4.bk_some h3 (λ h => by have:=(hO.fresh _ h).1; omega)
 have hw34 : wr w4 x3 = true:=by rw [f4.wr lx (λ h => by have:=(hO.fresh _ h).1; omega)]; exact hw3
 have s4:=f4.size
 have hrc : isCell r = true:=hr.1.isCell
 rw [Run_bindO_some, Run_bind, Run_st1 ⟨⟨⟨_, h34, by simp [mval]⟩, hw34⟩, hrc⟩, Run_getM]
 have hb5 : bk (sto w4 x3 (0 + 3) [r]) x3 = some (mval { m with fs:=m.fs ++ [f] } r):=by rw [bk_sto_same h34]; rfl
 have hrO : OwnR w0 w4 r (m.fs ++ [f]):=⟨by rw [List.map_append]; exact hr, λ c hc => by
  rcases hin c hc with hc | hc
  ·have:=hO.fresh c hc; omega
  ·omega⟩
 have hO5 : OwnR w0 (sto w4 x3 (0 + 3) [r]) r (m.fs ++ [f]):=⟨hrO.sl.fr ((show Fr (λ c => c = x3) w4 w4 from Fr.refl _ _).sto (.inl rfl) _ _) λ c hc he => by have:=(hrO.fresh c hc).1; omega, λ c hc => by rw [size_sto]; exact hrO.fresh c hc⟩
 refine q W _ r fW hb5 (by rw [wr_sto]; exact hw34) hO5 ?_
 exact Fr.sto (f4.mono λ c hc => .inr hc) (.inl (.inl rfl)) _ _
end
theorem sbGtr (a c : List UInt8) : binV .gtr (.string (sb a)) (.string (sb c)) = some (.bool (Op.bytesLess c a)):=by
 have h' : strBin .leq (sb a) (sb c) = some (.bool (!(Op.bytesLess c a))):=sbLeq a c
 show strBin .gtr (sb a) (sb c) = _
 simp only [strBin] at h' ⊢
 injection h' with h'
 injection h' with h'
 rw [h', Bool.not_not]
section
variable {w w1 w2 : World}
theorem bsl1_run (s : ByteArray) {Q : Value -> World -> Prop} (q : ∀ r w', Sl 1 w' r [[.string s]] -> Fr (λ _ => False) w w' -> Q r w') : Run (bslM 9 1 (Builtin.zeroCells #[(Value.string ByteArray.empty)] 1) [(0, 1, .string s)]) w Q :=
 Run_bsl (k:=1) (vs:=[.string s]) (by rfl) (by intro v hv; simp only [List.mem_singleton] at hv; subst hv; rfl) rfl (by kernel_rfl) λ r w2 hr f2 _ => q r w2 hr.1 f2
theorem tcond_run {v : Value} {gs : List Gf} (hv : Sl 2 w v (gs.map Gf.row)) {x15 i : Nat} {g : Gf} (h15 : bk w x15 = some g.row) (hi : gs[i]? = some g) (hnm : g.nm.length <= 4611686018427387904) (hil : i <= 4294967296) (ok : Bool) {β : Type} {K : Value -> M β} {Q : β -> World -> Prop}
  (q : ∀ ok', (ok' = true -> ok = true /\ lettersP g.nm = true /\ (i = 0 ∨ ∃ p, gs[i - 1]? = some p /\ Op.bytesLess p.nm g.nm = true)) -> Run (K (.bool ok')) w Q) :
  Run (M.bind (guardM (.bool ok) true (optM (fieldA 0 (.pointer (some ⟨x15, 0, none⟩))))) λ x17 =>
   M.bind (guardM (.bool ok) true (rdM (ld1 x17))) λ x18 =>
   M.bind (guardM (.bool ok) true (F.granarylaw4_letters x18)) λ x19 =>
   bindO (pickV (.bool ok) x19 (Value.bool false)) λ x20 =>
   M.bind (guardM x20 true (M.ret (.int .i64 (i : Int)))) λ x21 =>
   M.bind (guardM x20 true (optM (binV BinOp.eql x21 (Value.int IntKind.i64 0)))) λ x22 =>
   M.bind (guardM x20 true (M.ret x22)) λ x23 =>
   M.bind (guardM x23 false (optM (fieldA 0 (.pointer (some ⟨x15, 0, none⟩))))) λ x24 =>
   M.bind (guardM x23 false (rdM (ld1 x24))) λ x25 =>
   M.bind (guardM x23 false (M.ret v)) λ x26 =>
   M.bind (guardM x23 false (M.ret (.int .i64 (i : Int)))) λ x27 =>
   M.bind (guardM x23 false (optM (binV BinOp.sub x27 (Value.int IntKind.i64 1)))) λ x28 =>
   M.bind (guardM x23 false (optM (idxA 2 x26 x28))) λ x29 =>
   M.bind (guardM x23 false (optM (fieldA 0 x29))) λ x30 =>
   M.bind (guardM x23 false (rdM (ld1 x30))) λ x31 =>
   M.bind (guardM x23 false (optM (binV BinOp.gtr x25 x31))) λ x32 =>
   M.bind (guardM x20 true (optM (pickV x23 (Value.bool true) x32))) λ x33 =>
   bindO (pickV x20 x33 (Value.bool false)) K) w Q:=by
 have l0 : ld1 (.pointer (some ⟨x15, 0 + 0, none⟩)) w = some (.string (sb g.nm)):=by rw [ld1_ptr, h15]; rfl
 cases ok with
 | false =>
  simp only [Run_bind, Run_guardM_ft, Run_guardM_undef, pickV_bool, cond_false, Run_bindO_some]
  exact q false λ h => by cases h
 | true =>
  simp only [Run_bind, Run_guardM_tt, fieldA_ptr, Run_optM_some, Run_rdM]
  refine ⟨_, l0, ?_⟩
  refine (letters_run g.nm hnm).mono ?_
  rintro _ _ ⟨rfl, rfl⟩
  cases hlt : lettersP g.nm with
  | false =>
   simp only [Run_bind, Run_guardM_ft, Run_guardM_undef, pickV_bool, cond_false, cond_true, Run_bindO_some]
   exact q false λ h => by cases h
  | true =>
   rw [pickV_bool, cond_true, Run_bindO_some]
   simp only [Run_bind, Run_guardM_tt, Run_ret, binV_int, intBin_eql, Run_optM_some]
   by_cases h0 : i = 0
   ·have h0' : (i : Int) = 0:=by omega
    simp only [h0', decide_true, Run_guardM_tf, Run_guardM_tt, pickV_bool, cond_true, Run_optM_some, Run_bindO_some]
    exact q true λ _ => ⟨rfl, hlt, .inl h0⟩
   ·have h0' : ¬ (i : Int) = 0:=by omega
    obtain ⟨p, hp⟩ : ∃ p, gs[i - 1]? = some p:=⟨_, List.getElem?_eq_getElem (by have:=(List.getElem?_eq_some_iff.1 hi).1; omega)⟩
    have es : intBin .sub .i64 (i : Int) 1 = some (.int .i64 ((i - 1 : Nat) : Int)):=by
     show some (Value.int .i64 (IntKind.i64.wrap ((i : Int) - 1))) = _
     rw [show (i : Int) - 1 = ((i - 1 : Nat) : Int) by omega, i64W (by omega)]
    obtain ⟨pp, e1, e2⟩:=hv.rdF (i:=i - 1) (e:=p.row) (by simp [hp]) .i64
    have e1' : idxA 2 v (.int .i64 ((i - 1 : Nat) : Int)) = some pp:=e1
    obtain ⟨pq, e3, e4⟩:=e2 0 (by decide)
    simp only [h0', decide_false, Run_guardM_ff, Run_optM_some, Run_rdM]
    refine ⟨_, l0, ?_⟩
    simp only [Run_ret, binV_int, es, Run_optM_some, e1', e3]
    refine ⟨_, e4.trans (show p.row[0]? = some (.string (sb p.nm)) from rfl), ?_⟩
    simp only [sbGtr, Run_optM_some, Run_guardM_tt, pickV_bool, cond_false, cond_true, Run_bindO_some]
    exact q _ λ h => ⟨rfl, hlt, .inr ⟨p, hp, h⟩⟩
def Gf.fl (g : Gf) (t : List UInt8) : Fl:=⟨g.nm, (g.tx.length : Nat), (crcF (sb g.tx) : Nat), t⟩
end
structure GsFit (gs : List Gf) : Prop where
 nm : ∀ g ∈ gs, g.nm.length <= 4294967296
 tx : ∀ g ∈ gs, g.tx.length <= 1073741824
 n : gs.length <= 4294967295
 all : (allT gs).length <= 1099511627776
theorem allT_take {gs : List Gf} {i : Nat} {g : Gf} (h : gs[i]? = some g) : allT (gs.take (i + 1)) = allT (gs.take i) ++ g.tx:=by
 unfold allT
 rw [take_snocP h]
 simp
theorem allT_le (gs : List Gf) (i : Nat) : (allT (gs.take i)).length <= (allT gs).length:=by
 have : allT gs = allT (gs.take i) ++ allT (gs.drop i):=by
  unfold allT
  rw [<- List.flatten_append, <- List.map_append, List.take_append_drop]
 rw [this, List.length_append]
 omega
theorem prs_last {gs : List Gf} {fs : List Fl} {i : Nat} (h : FsOf (gs.take i) fs) (hi : i <= gs.length) {z : Option (List UInt8)} (hz : (match fs.getLast? with | none => none | some g => some g.nm) = z) :
  (i = 0 -> z = none) /\ ∀ p, i ≠ 0 -> gs[i - 1]? = some p -> z = some p.nm:=by
 have hl:=h.len
 rw [List.length_take] at hl
 constructor
 ·intro h0
  have : fs = []:=List.length_eq_zero_iff.1 (by omega)
  subst this
  exact hz.symm
 ·intro p h0 hp
  have h1:=congrArg (λ l => l[i - 1]?) h.1
  simp only [List.getElem?_map, List.getElem?_take] at h1
  rw [if_pos (by omega), hp] at h1
  rw [List.getLast?_eq_getElem?, show fs.length - 1 = i - 1 by omega] at hz
  cases hf : fs[i - 1]? with
  | none => rw [hf] at h1; simp at h1
  | some f =>
   rw [hf] at h1 hz
   simp only [Option.map_some, Option.some.injEq, Prod.mk.injEq] at h1
   rw [<- hz]
   show some f.nm = some p.nm
   rw [h1.1]
section
variable {w w1 w2 : World}
theorem told_run (ht : Tb w) (tm : Tm w) {s0 : List UInt8} {gs : List Gf} {v : Value} (hv : Sl 2 w v (gs.map Gf.row)) (hs0 : s0.length <= 4294967296) (hfit : GsFit gs) :
  Run (F.granarylaw4_told (.string (sb s0)) v) w λ r w' => ∃ (m : Mf) (u : Value) (ok : Bool), r = .tuple #[.agg (mval m u).toArray, .string (sb (allT gs)), .bool ok] /\ OwnR w w' u m.fs /\ ToldP s0 gs m ok /\ Fr (λ _ => False) w w':=by
 unfold F.granarylaw4_told
 have hvl:=hv.lenL
 rw [List.length_map] at hvl
 have e2 : buildV #[(Value.string ByteArray.empty), (Value.int IntKind.i64 0), (Value.int IntKind.i64 0), (Value.slice none 0 0), (Value.int IntKind.i64 0), (Value.int IntKind.i64 0)] [(0, 1, .string (sb s0)), (1, 1, (Value.int IntKind.i64 7)), (2, 1, (Value.int IntKind.i64 3))] = some (.agg (mval ⟨s0, 7, 3, [], 0, 0⟩ nilS).toArray):=rfl
 rw [Run_bind]
 refine Run_new λ x1 w1 h1 hw1 f1 hle1 => ?_
 replace h1 : bk w1 x1 = some (mval zMf nilS):=h1
 rw [e2, Run_bindO_some, Run_bind]
 refine Run_new λ x3 w2 h3 hw3 f2 hle3 => ?_
 replace h3 : bk w2 x3 = some (mval zMf nilS):=h3
 rw [Run_bind, Run_stA (n:=6) ⟨⟨⟨_, h3, by simp [mval]⟩, hw3⟩, rfl, mval_cell _ rfl⟩]
 have b3 : bk (sto w2 x3 0 (mval ⟨s0, 7, 3, [], 0, 0⟩ nilS)) x3 = some (mval ⟨s0, 7, 3, [], 0, 0⟩ nilS):=by rw [bk_sto_same h3]; rfl
 have bw3 : wr (sto w2 x3 0 (mval ⟨s0, 7, 3, [], 0, 0⟩ nilS)) x3 = true:=by rw [wr_sto]; exact hw3
 have f3 : Fr (λ _ => False) w1 (sto w2 x3 0 (mval ⟨s0, 7, 3, [], 0, 0⟩ nilS)):=f2.sto (.inr hle3) _ _
 rw [show (mval ⟨s0, 7, 3, [], 0, 0⟩ nilS).toArray.toList = mval ⟨s0, 7, 3, [], 0, 0⟩ nilS from rfl]
 generalize sto w2 x3 0 (mval ⟨s0, 7, 3, [], 0, 0⟩ nilS) = w3 at *
 have h1':=f3.bk_some h1 id
 have hw1' : wr w3 x1 = true:=by rw [f3.wr (bk_lt h1) id]; exact hw1
 have l1:=bk_lt h1
 have l3:=bk_lt b3
 have l13:=bk_lt h1'
 have ne13 : x1 ≠ x3:=by omega
 have f03:=f1.trans f3 λ _ _ => id
 have s3:=f03.size
 rw [Run_bind]
 refine (letters_run s0 (by omega)).mono λ r w' h => ?_
 obtain ⟨rfl, hw'⟩:=h
 rw [hw']
 have start : ∀ {β : Type} {K : Value -> M β} {Q : β -> World -> Prop}, (∀ ok, (ok = true -> lettersP s0 = true /\ gs.length <= 1025) -> Run (K (.bool ok)) w3 Q) ->
   Run (M.bind (guardM (.bool (lettersP s0)) true (M.ret v)) λ x6 =>
 M.bind (guardM (.bool (lettersP s0)) true (optM (lenL x6))) λ x7 =>
 M.bind (guardM (.bool (lettersP s0)) true (optM (binV BinOp.leq x7 (Value.int IntKind.i64 1025)))) λ x8 =>
 bindO (pickV (.bool (lettersP s0)) x8 (Value.bool false)) K) w3 Q:=λ q => by
  cases hl : lettersP s0 with
  | false =>
   simp only [Run_bind, Run_guardM_ft, Run_guardM_undef, pickV_bool, cond_false, Run_bindO_some]
   exact q false λ h => by cases h
  | true =>
   simp only [Run_bind, Run_guardM_tt, Run_ret, hvl, Run_optM_some, binV_int, intBin_leq, pickV_bool, cond_true, Run_bindO_some]
   exact q _ λ h => ⟨hl, by have:=of_decide_eq_true h; omega⟩
 refine start λ ok0 hok0 => ?_
 have e0 : ByteArray.mk #[] = sb []:=rfl
 rw [e0, Run_bind]
 refine Run_for gs.length (λ i L w' => ∃ (ok : Bool) (fs : List Fl) (u : Value), L = [.string (sb (allT (gs.take i))), .bool ok, .int .i64 (i : Int)] /\ bk w' x3 = some (mval ⟨s0, 7, 3, fs, ((allT (gs.take i)).length : Nat), 0⟩ u) /\ wr w' x3 = true /\ OwnR w3 w' u fs /\ FsOf (gs.take i) fs /\
   (ok = true -> lettersP s0 = true /\ gs.length <= 1025 /\ (prs none fs).all okL = true) /\ Fr (λ c => c = x3) w3 w')
  ⟨ok0, [], nilS, rfl, b3, bw3, OwnR.nil _ _, ⟨rfl, λ f hf => by cases hf⟩, λ h => ⟨(hok0 h).1, (hok0 h).2, rfl⟩, Fr.refl _ _⟩ ?_ ?_
 ·rintro i L w4 hi ⟨ok, fs, u, rfl, b4, bw4, hO, hfs, hok, f4⟩
  obtain ⟨g, hg⟩ : ∃ g, gs[i]? = some g:=⟨_, List.getElem?_eq_getElem hi⟩
  have hgm:=List.mem_of_getElem? hg
  have htx:=hfit.tx g hgm
  have hnm:=hfit.nm g hgm
  have hn:=hfit.n
  have hall:=hfit.all
  have hle:=allT_le gs (i + 1)
  have hnext:=allT_take hg
  rw [hnext, List.length_append] at hle
  have hil : (i : Int) < gs.length:=by omega
  have s4:=f4.size
  have f04 : Fr (λ _ => False) w w4:=f03.new f4 λ c hc => by omega
  obtain ⟨p, p1, p2⟩:=(hv.fr0 f04).rdA (by decide) (i:=i) (e:=g.row) (by simp [hg]) .i64
  have p1' : idxA 2 v (.int .i64 (i : Int)) = some p:=p1
  simp only [getL_zero, getL_succ]
  rw [hvl, Run_bindO_some, lssT hil, Run_bindO_some, Run_condM_true, p1', Run_bindO_some, Run_bind, Run_rdM]
  refine ⟨_, p2, ?_⟩
  rw [Run_bind]
  refine Run_new λ x15 w5 h15 hw15 f5 hle15 => ?_
  rw [Run_bind, Run_stA (n:=2) ⟨⟨⟨_, h15, by simp⟩, hw15⟩, rfl, by simp [Gf.row]⟩]
  have b15 : bk (sto w5 x15 0 g.row) x15 = some g.row:=by rw [bk_sto_same h15]; rfl
  have f6 : Fr (λ _ => False) w4 (sto w5 x15 0 g.row):=f5.sto (.inr hle15) _ _
  rw [show g.row.toArray.toList = g.row from rfl, Run_drewM]
  have f6d : Fr (λ _ => False) w4 (sto w5 x15 0 g.row).drew:=f6.drew
  replace b15 : bk (sto w5 x15 0 g.row).drew x15 = some g.row:=b15
  generalize (sto w5 x15 0 g.row).drew = w6 at *
  have f06:=f04.trans f6d λ _ _ => id
  refine tcond_run (hv.fr0 f06) b15 hg (by omega) (by omega) ok λ ok' hok' => ?_
  have u15 : ∀ c, inB u c -> c ≠ x15:=λ c hc e => by have:=hO.fresh c hc; omega
  have b6:=f6d.bk_some b4 id
  have bw6 : wr w6 x3 = true:=by rw [f6d.wr (bk_lt b4) id]; exact bw4
  have hO6 : OwnR w3 w6 u fs:=hO.frm f6d λ _ h => h.elim
  have s6:=f6d.size
  have fd : Fr (λ _ => False) w6 w6.drew:=(Fr.refl _ _).drew
  have tb6:=(ht.fr0 f06).fr0 fd
  have tm6:=(tm.fr0 f06).fr0 fd
  have lowT:=tb_low (ht.fr0 f06)
  have c3 : ∀ w', Fr (λ _ => False) w6.drew w' -> ld1 (.pointer (some ⟨x3, 0 + 3, none⟩)) w' = some u:=λ w' f => by rw [ld1_ptr, f.bk_some (fd.bk_some b6 id) id]; rfl
  have cn : ∀ w', Fr (λ _ => False) w6.drew w' -> ld1 (.pointer (some ⟨x15, 0 + 0, none⟩)) w' = some (.string (sb g.nm)):=λ w' f => by rw [ld1_ptr, f.bk_some (fd.bk_some b15 id) id]; rfl
  have ct : ∀ w', Fr (λ _ => False) w6.drew w' -> ld1 (.pointer (some ⟨x15, 0 + 1, none⟩)) w' = some (.string (sb g.tx)):=λ w' f => by rw [ld1_ptr, f.bk_some (fd.bk_some b15 id) id]; rfl
  have hfl : fs.length <= 4294967296:=by
   have:=hfs.len
   rw [List.length_take] at this
   omega
  rw [Run_bind]
  refine Run.mono (Q:=λ _ w' => ∃ (r : Value) (t : List UInt8), t.length = 16 /\ bk w' x3 = some (mval ⟨s0, 7, 3, fs ++ [g.fl t], ((allT (gs.take i)).length : Nat), 0⟩ r) /\ wr w' x3 = true /\ OwnR w3 w' r (fs ++ [g.fl t]) /\ Fr (λ c => c = x3 ∨ inB u c) w6.drew w') (Run_altM (List.cons_ne_nil _ _) ?_) ?_
  ·have tail : ∀ (w7 : World) (t : List UInt8), t.length = 16 -> Fr (λ _ => False) w6.drew w7 -> ∀ {K : World -> M (List Value)},
     (∀ W w', Fr (λ _ => False) w7 W -> (∃ (r : Value) (t : List UInt8), t.length = 16 /\ bk w' x3 = some (mval ⟨s0, 7, 3, fs ++ [g.fl t], ((allT (gs.take i)).length : Nat), 0⟩ r) /\ wr w' x3 = true /\ OwnR w3 w' r (fs ++ [g.fl t]) /\ Fr (λ c => c = x3 ∨ inB u c) w6.drew w') -> Run (K W) w' λ _ w' => ∃ (r : Value) (t : List UInt8), t.length = 16 /\ bk w' x3 = some (mval ⟨s0, 7, 3, fs ++ [g.fl t], ((allT (gs.take i)).length : Nat), 0⟩ r) /\ wr w' x3 = true /\ OwnR w3 w' r (fs ++ [g.fl t]) /\ Fr (λ c => c = x3 ∨ inB u c) w6.drew w') ->
     Run (bindO (buildV #[(Value.string ByteArray.empty), (Value.int IntKind.i64 0), (Value.int IntKind.i64 0), (Value.string ByteArray.empty)] [(0, 1, .string (sb g.nm)), (1, 1, .int .i64 ((g.tx.length : Nat) : Int)), (2, 1, .int .i64 ((crcF (sb g.tx) : Nat) : Int)), (3, 1, .string (sb t))]) λ x56 =>
     M.bind (bslM 75 1 (Builtin.zeroCells #[(Value.string ByteArray.empty), (Value.int IntKind.i64 0), (Value.int IntKind.i64 0), (Value.string ByteArray.empty)] 1) [(0, 4, x56)]) λ x57 =>
     getM λ W58 =>
     M.bind (appM 75 4 48 #[(Value.string ByteArray.empty), (Value.int IntKind.i64 0), (Value.int IntKind.i64 0), (Value.string ByteArray.empty)] u x57) λ x59 =>
     getM λ _ =>
     bindO (some (.pointer (some ⟨x3, 0 + 3, none⟩))) λ x61 =>
     M.bind (stM 1 x61 x59) λ _ =>
     getM λ _ => K W58) w7 λ _ w' => ∃ (r : Value) (t : List UInt8), t.length = 16 /\ bk w' x3 = some (mval ⟨s0, 7, 3, fs ++ [g.fl t], ((allT (gs.take i)).length : Nat), 0⟩ r) /\ wr w' x3 = true /\ OwnR w3 w' r (fs ++ [g.fl t]) /\ Fr (λ c => c = x3 ∨ inB u c) w6.drew w':=λ w7 t ht16 f7 {K} q => by
    have s7:=f7.size
    have sd:=fd.size
    refine file_tail (m:=⟨s0, 7, 3, fs, ((allT (gs.take i)).length : Nat), 0⟩) (f:=g.fl t) (f7.bk_some (fd.bk_some b6 id) id) (by rw [f7.wr (bk_lt (fd.bk_some b6 id)) id]; exact bw6) ((hO6.frm fd λ _ h => h.elim).frm f7 λ _ h => h.elim) l3 (by omega) hfl λ W w' r fW hb hw hO' fr => q W w' fW ⟨r, t, ht16, hb, hw, hO', (f7.mono λ _ h => h.elim).trans fr λ _ _ h => h⟩
   have hcs : (sb g.tx).size <= 4611686018427387904:=by rw [sb_size]; omega
   intro x hx
   simp only [List.mem_cons, List.not_mem_nil, or_false] at hx
   rcases hx with rfl | rfl | rfl
   ·simp only [fieldA_ptr]
    rw [Run_getM, Run_bindO_some, Run_bind, Run_rdM]
    refine ⟨_, c3 _ (Fr.refl _ _), ?_⟩
    rw [Run_bindO_some, Run_bind, Run_rdM]
    refine ⟨_, cn _ (Fr.refl _ _), ?_⟩
    rw [Run_bindO_some, Run_bind, Run_rdM]
    refine ⟨_, ct _ (Fr.refl _ _), ?_⟩
    rw [lenS_string, sb_size, Run_bindO_some, Run_bindO_some, Run_bind, Run_rdM]
    refine ⟨_, ct _ (Fr.refl _ _), ?_⟩
    rw [Run_bind]
    refine bsl1_run _ λ r1 wB hr1 fB => ?_
    rw [Run_getM, Run_bind]
    refine (crc_run (fB.bk_some tb6.nib id) hr1 hcs).mono ?_
    rintro _ _ ⟨rfl, rfl⟩
    rw [Run_getM, Run_bindO_some, Run_bind, Run_rdM]
    refine ⟨_, ct _ fB, ?_⟩
    rw [Run_bind]
    refine bsl1_run _ λ r2 wC hr2 fC => ?_
    have fBC:=fB.trans fC λ _ _ => id
    have sz:=fBC.size
    have sd:=fd.size
    rw [Run_getM, Run_bind]
    refine (md5_run (tm6.fr0 fBC) (by omega) hr2 (by omega)).mono ?_
    rintro _ wD ⟨⟨t, ht16, rfl⟩, fD⟩
    have fBD:=fBC.trans fD λ _ _ => id
    rw [Run_getM]
    refine tail wD t ht16 fBD λ W w' fW post => ?_
    have fBW:=fBD.trans fW λ _ _ => id
    simp only [Run_reqM, Run_ret]
    exact ⟨c3 _ fB, c3 _ fB, c3 _ fBC, c3 _ fBD, c3 _ fBW, cn _ fB, cn _ fB, cn _ fBC, cn _ fBD, ct _ fB, ct _ fB, ct _ fBC, ct _ fBD, ct _ (Fr.refl _ _), ct _ fB, post⟩
   ·simp only [fieldA_ptr]
    rw [Run_getM, Run_bindO_some, Run_bind, Run_rdM]
    refine ⟨_, c3 _ (Fr.refl _ _), ?_⟩
    rw [Run_bindO_some, Run_bind, Run_rdM]
    refine ⟨_, cn _ (Fr.refl _ _), ?_⟩
    rw [Run_bindO_some, Run_bind, Run_rdM]
    refine ⟨_, ct _ (Fr.refl _ _), ?_⟩
    rw [lenS_string, sb_size, Run_bindO_some, Run_bindO_some, Run_bind, Run_rdM]
    refine ⟨_, ct _ (Fr.refl _ _), ?_⟩
    rw [Run_bind]
    refine bsl1_run _ λ r1 wB hr1 fB => ?_
    rw [Run_getM, Run_bindO_some, Run_bind, Run_rdM]
    refine ⟨_, ct _ fB, ?_⟩
    rw [Run_bind]
    refine bsl1_run _ λ r2 wC hr2 fC => ?_
    have fBC:=fB.trans fC λ _ _ => id
    have sz:=fBC.size
    have sd:=fd.size
    rw [Run_getM, Run_bind]
    refine (crc_run (fBC.bk_some tb6.nib id) (hr1.fr0 fC) hcs).mono ?_
    rintro _ _ ⟨rfl, rfl⟩
    rw [Run_getM, Run_bind]
    refine (md5_run (tm6.fr0 fBC) (by omega) hr2 (by omega)).mono ?_
    rintro _ wD ⟨⟨t, ht16, rfl⟩, fD⟩
    have fBD:=fBC.trans fD λ _ _ => id
    rw [Run_getM]
    refine tail wD t ht16 fBD λ W w' fW post => ?_
    have fBW:=fBD.trans fW λ _ _ => id
    simp only [Run_reqM, Run_ret]
    exact ⟨c3 _ fB, c3 _ fBC, c3 _ fBC, c3 _ fBD, c3 _ fBW, cn _ fB, cn _ fBC, cn _ fBC, cn _ fBD, ct _ fB, ct _ fBC, ct _ fBC, ct _ fBD, ct _ (Fr.refl _ _), post⟩
   ·simp only [fieldA_ptr]
    rw [Run_getM, Run_bindO_some, Run_bind, Run_rdM]
    refine ⟨_, c3 _ (Fr.refl _ _), ?_⟩
    rw [Run_bindO_some, Run_bind, Run_rdM]
    refine ⟨_, cn _ (Fr.refl _ _), ?_⟩
    rw [Run_bindO_some, Run_bind, Run_rdM]
    refine ⟨_, ct _ (Fr.refl _ _), ?_⟩
    rw [lenS_string, sb_size, Run_bindO_some, Run_bindO_some, Run_bind, Run_rdM]
    refine ⟨_, ct _ (Fr.refl _ _), ?_⟩
    rw [Run_bindO_some, Run_bind, Run_rdM]
    refine ⟨_, ct _ (Fr.refl _ _), ?_⟩
    rw [Run_bind]
    refine bsl1_run _ λ r2 wB hr2 fB => ?_
    rw [Run_getM, Run_bind]
    refine bsl1_run _ λ r1 wC hr1 fC => ?_
    have fBC:=fB.trans fC λ _ _ => id
    have sz:=fBC.size
    have sd:=fd.size
    rw [Run_getM, Run_bind]
    refine (crc_run (fBC.bk_some tb6.nib id) hr1 hcs).mono ?_
    rintro _ _ ⟨rfl, rfl⟩
    rw [Run_getM, Run_bind]
    refine (md5_run (tm6.fr0 fBC) (by omega) (hr2.fr0 fC) (by omega)).mono ?_
    rintro _ wD ⟨⟨t, ht16, rfl⟩, fD⟩
    have fBD:=fBC.trans fD λ _ _ => id
    rw [Run_getM]
    refine tail wD t ht16 fBD λ W w' fW post => ?_
    have fBW:=fBD.trans fW λ _ _ => id
    simp only [Run_reqM, Run_ret]
    exact ⟨c3 _ fB, c3 _ fBC, c3 _ fBC, c3 _ fBD, c3 _ fBW, cn _ fB, cn _ fBC, cn _ fBC, cn _ fBD, ct _ fB, ct _ fBC, ct _ fBC, ct _ fBD, ct _ fB, post⟩
  ·rintro _ w7 ⟨r, t, ht16, b7, bw7, hO7, f7⟩
   have n15 : ¬ (x15 = x3 ∨ inB u x15):=λ h => by
    rcases h with h | h
    ·have:=bk_lt b4; omega
    ·exact u15 _ h rfl
   have g15 : bk w7 x15 = some g.row:=f7.bk_some (fd.bk_some b15 id) n15
   have l4 : ld1 (.pointer (some ⟨x3, 0 + 4, none⟩)) w7 = some (.int .i64 (((allT (gs.take i)).length : Nat) : Int)):=by rw [ld1_ptr, b7]; rfl
   have lt7 : ld1 (.pointer (some ⟨x15, 0 + 1, none⟩)) w7 = some (.string (sb g.tx)):=by rw [ld1_ptr, g15]; rfl
   simp only [fieldA_ptr]
   rw [Run_bindO_some, Run_bind, Run_rdM]
   refine ⟨_, l4, ?_⟩
   rw [Run_bindO_some, Run_bind, Run_rdM]
   refine ⟨_, lt7, ?_⟩
   rw [lenS_string, sb_size, Run_bindO_some, addN (by omega), Run_bindO_some, Run_bindO_some, Run_bind, Run_st1 ⟨⟨⟨_, b7, by simp [mval]⟩, bw7⟩, rfl⟩]
   have b8 : bk (sto w7 x3 (0 + 4) [.int .i64 (((allT (gs.take i)).length + g.tx.length : Nat) : Int)]) x3 = some (mval ⟨s0, 7, 3, fs ++ [g.fl t], (((allT (gs.take i)).length + g.tx.length : Nat) : Int), 0⟩ r):=by rw [bk_sto_same b7]; rfl
   have bw8 : wr (sto w7 x3 (0 + 4) [.int .i64 (((allT (gs.take i)).length + g.tx.length : Nat) : Int)]) x3 = true:=by rw [wr_sto]; exact bw7
   have f8 : Fr (λ c => c = x3) w7 (sto w7 x3 (0 + 4) [.int .i64 (((allT (gs.take i)).length + g.tx.length : Nat) : Int)]):=(show Fr (λ c => c = x3) w7 w7 from Fr.refl _ _).sto (.inl rfl) _ _
   have hO8 : OwnR w3 (sto w7 x3 (0 + 4) [.int .i64 (((allT (gs.take i)).length + g.tx.length : Nat) : Int)]) r (fs ++ [g.fl t]):=hO7.frm f8 λ c hc => by omega
   generalize sto w7 x3 (0 + 4) [.int .i64 (((allT (gs.take i)).length + g.tx.length : Nat) : Int)] = w8 at *
   have lt8 : ld1 (.pointer (some ⟨x15, 0 + 1, none⟩)) w8 = some (.string (sb g.tx)):=by rw [ld1_ptr, f8.bk_some g15 (λ h => n15 (.inl h))]; rfl
   rw [Run_bindO_some, Run_bind, Run_rdM]
   refine ⟨_, lt8, ?_⟩
   have ea : binV .add (.string (sb (allT (gs.take i)))) (.string (sb g.tx)) = some (.string (sb (allT (gs.take i) ++ g.tx))):=by
    rw [strAdd (by rw [sb_size, sb_size]; omega)]
    congr 2
   rw [ea, Run_bindO_some, binV_int, intBin_add, wrap_succ' (by omega), Run_bindO_some, Run_ret]
   have hfs' : FsOf (gs.take (i + 1)) (fs ++ [g.fl t]):=by rw [take_snocP hg]; exact hfs.snoc g ht16
   refine ⟨ok', fs ++ [g.fl t], r, by rw [hnext], by rw [hnext, List.length_append]; exact b8, bw8, hO8, hfs', λ h => ?_, ?_⟩
   ·obtain ⟨q1, q2, q3⟩:=hok' h
    obtain ⟨q4, q5, q6⟩:=hok q1
    refine ⟨q4, q5, ?_⟩
    rw [prs_snoc, List.all_append, q6, Bool.true_and]
    have hz:=prs_last hfs (by omega) rfl
    simp only [List.all_cons, List.all_nil, Bool.and_true]
    unfold okL
    rw [Bool.and_eq_true]
    refine ⟨q2, ?_⟩
    cases hq : fs.getLast? with
    | none => rfl
    | some x =>
     rw [hq] at hz
     rcases q3 with h0 | ⟨p, hp, hlt⟩
     ·have:=hz.1 h0
      cases this
     ·by_cases h0 : i = 0
      ·have:=hz.1 h0
       cases this
      ·have hx : some x.nm = some p.nm:=hz.2 p h0 hp
       injection hx with hx
       show Op.bytesLess x.nm g.nm = true
       rw [hx]; exact hlt
   ·exact ((f4.trans (f6d.trans fd λ _ _ => id) λ _ _ h => h.elim).trans f7 λ c hc h => h.elim id λ h => by have:=(hO.fresh c h).1; omega).trans f8 λ _ _ h => h
 ·rintro L w4 ⟨ok, fs, u, rfl, b4, bw4, hO, hfs, hok, f4⟩
  have hn:=hfit.n
  have hall:=hfit.all
  have hil : ¬ ((gs.length : Nat) : Int) < gs.length:=by omega
  rw [List.take_length] at b4 hfs
  rw [List.take_length]
  simp only [getL_zero, getL_succ]
  rw [hvl, Run_bindO_some, lssF hil, Run_bindO_some, Run_condM_false, Run_ret]
  simp only [outK_exit, getL_zero, getL_succ]
  rw [show Nat.beq 0 0 = true from rfl, cond_true, Run_bind]
  refine bsl1_run _ λ r1 w5 hr1 f5 => ?_
  have s4:=f4.size
  have s5:=f5.size
  have f04 : Fr (λ _ => False) w w4:=f03.new f4 λ c hc => by omega
  have f05:=f04.trans f5 λ _ _ => id
  rw [Run_bind]
  refine (crc_run (f05.bk_some ht.nib id) hr1 (by rw [sb_size]; omega)).mono λ r w' h => ?_
  obtain ⟨rfl, hw'⟩:=h
  rw [hw']
  have b5:=f5.bk_some b4 id
  have bw5 : wr w5 x3 = true:=by rw [f5.wr (bk_lt b4) id]; exact bw4
  have hO5 : OwnR w3 w5 u fs:=hO.frm f5 λ _ h => h.elim
  have x15 : bk w5 x1 = some (mval zMf nilS):=f5.bk_some (f4.bk_some h1' ne13) id
  have xw5 : wr w5 x1 = true:=by rw [f5.wr (bk_lt (f4.bk_some h1' ne13)) id, f4.wr l13 ne13]; exact hw1'
  rw [fieldA_ptr, Run_bindO_some, Run_bind, Run_st1 ⟨⟨⟨_, b5, by simp [mval]⟩, bw5⟩, rfl⟩]
  have b6 : bk (sto w5 x3 (0 + 5) [.int .i64 ((crcF (sb (allT gs)) : Nat) : Int)]) x3 = some (mval ⟨s0, 7, 3, fs, ((allT gs).length : Nat), ((crcF (sb (allT gs)) : Nat) : Int)⟩ u):=by rw [bk_sto_same b5]; rfl
  have f6 : Fr (λ c => c = x3) w5 (sto w5 x3 (0 + 5) [.int .i64 ((crcF (sb (allT gs)) : Nat) : Int)]):=(show Fr (λ c => c = x3) w5 w5 from Fr.refl _ _).sto (.inl rfl) _ _
  generalize sto w5 x3 (0 + 5) [.int .i64 ((crcF (sb (allT gs)) : Nat) : Int)] = w6 at *
  have hO6 : OwnR w3 w6 u fs:=hO5.frm f6 λ c hc => by omega
  have x16:=f6.bk_some x15 ne13
  have xw6 : wr w6 x1 = true:=by rw [f6.wr (bk_lt x15) ne13]; exact xw5
  have huc : isCell u = true:=hO6.sl.1.isCell
  have l6 : ldA 6 (.pointer (some ⟨x3, 0, none⟩)) w6 = some (.agg (mval ⟨s0, 7, 3, fs, ((allT gs).length : Nat), ((crcF (sb (allT gs)) : Nat) : Int)⟩ u).toArray):=ldA_bk b6 (Nat.le_refl _)
  rw [Run_bind, Run_rdM]
  refine ⟨_, l6, ?_⟩
  rw [Run_bind, Run_stA (n:=6) ⟨⟨⟨_, x16, by simp [mval]⟩, xw6⟩, rfl, mval_cell _ huc⟩]
  rw [show (mval ⟨s0, 7, 3, fs, ((allT gs).length : Nat), ((crcF (sb (allT gs)) : Nat) : Int)⟩ u).toArray.toList = mval ⟨s0, 7, 3, fs, ((allT gs).length : Nat), ((crcF (sb (allT gs)) : Nat) : Int)⟩ u from rfl]
  have b7 : bk (sto w6 x1 0 (mval ⟨s0, 7, 3, fs, ((allT gs).length : Nat), ((crcF (sb (allT gs)) : Nat) : Int)⟩ u)) x1 = some (mval ⟨s0, 7, 3, fs, ((allT gs).length : Nat), ((crcF (sb (allT gs)) : Nat) : Int)⟩ u):=by rw [bk_sto_same x16]; rfl
  have f7 : Fr (λ c => c = x1) w6 (sto w6 x1 0 (mval ⟨s0, 7, 3, fs, ((allT gs).length : Nat), ((crcF (sb (allT gs)) : Nat) : Int)⟩ u)):=(show Fr (λ c => c = x1) w6 w6 from Fr.refl _ _).sto (.inl rfl) _ _
  generalize sto w6 x1 0 (mval ⟨s0, 7, 3, fs, ((allT gs).length : Nat), ((crcF (sb (allT gs)) : Nat) : Int)⟩ u) = w7 at *
  have hO7 : OwnR w3 w7 u fs:=hO6.frm f7 λ c hc => by omega
  have l7 : ldA 6 (.pointer (some ⟨x1, 0, none⟩)) w7 = some (.agg (mval ⟨s0, 7, 3, fs, ((allT gs).length : Nat), ((crcF (sb (allT gs)) : Nat) : Int)⟩ u).toArray):=ldA_bk b7 (Nat.le_refl _)
  rw [Run_bind, Run_rdM]
  refine ⟨_, l7, ?_⟩
  rw [Run_ret]
  have s6:=f6.size
  exact ⟨⟨s0, 7, 3, fs, ((allT gs).length : Nat), ((crcF (sb (allT gs)) : Nat) : Int)⟩, u, ok, rfl, ⟨hO7.sl, λ c hc => ⟨by have:=(hO7.fresh c hc).1; omega, (hO7.fresh c hc).2⟩⟩, ⟨rfl, rfl, rfl, hfs, rfl, rfl, hok⟩, (f05.new f6 λ c hc => by omega).new f7 λ c hc => by omega⟩
end
theorem pairs_ext {l l' : List UInt8} : ∀ {n : Nat}, (∀ i, i < n -> pairV l i = pairV l' i) -> pairsF l n = pairsF l' n
 | 0, _ => rfl
 | n + 1, h => by
  unfold pairsF
  rw [pairs_ext (n:=n) λ i hi => h i (by omega), h n (by omega)]
theorem pairs_hexL : ∀ (n : Nat) {s : List UInt8}, s.length = n -> pairsF (hexL s) n = some s
 | 0, s, h => by
  have : s = []:=List.length_eq_zero_iff.1 h
  subst this; rfl
 | n + 1, s, h => by
  obtain ⟨l, c, rfl⟩ : ∃ l c, s = l ++ [c]:=⟨s.dropLast, s.getLast (by intro e; subst e; simp at h), (List.dropLast_concat_getLast _).symm⟩
  have hl : l.length = n:=by simpa using h
  have hx:=hexL_len l
  have ih:=pairs_hexL n hl
  have e1 : pairsF (hexL (l ++ [c])) n = some l:=by
   rw [<- ih]
   refine pairs_ext λ i hi => ?_
   unfold pairV
   rw [hexL_snoc, List.getElem?_append_left (by omega), List.getElem?_append_left (by omega)]
  have e2 : pairV (hexL (l ++ [c])) n = some c:=by
   have hc:=c.toNat_lt
   unfold pairV
   rw [hexL_snoc, List.getElem?_append_right (by omega), List.getElem?_append_right (by omega), hx, hl, show 2 * n - 2 * n = 0 by omega, show 2 * n + 1 - 2 * n = 1 by omega]
   simp only [List.getElem?_cons_zero, List.getElem?_cons_succ, hvN_hexd _ (show c.toNat / 16 < 16 by omega), hvN_hexd _ (show c.toNat % 16 < 16 by omega)]
   rw [show 16 * (c.toNat / 16) + c.toNat % 16 = c.toNat by omega, UInt8.ofNat_toNat]
  unfold pairsF
  rw [e1, e2]
theorem file_no {l : List UInt8} (h : fileP l = true) : l ≠ [] /\ (32 : UInt8) ∉ l /\ (10 : UInt8) ∉ l:=by
 obtain ⟨h1, _, h3⟩:=fileP_mem h
 refine ⟨λ e => by subst e; simp at h1, λ hc => ?_, λ hc => ?_⟩
 ·exact absurd (h3 _ hc) (by decide +kernel)
 ·exact absurd (h3 _ hc) (by decide +kernel)
theorem row_form {f : Fl} (h : f.ok = true) : rowF (rowL f) f:=by
 obtain ⟨h1, h2, h3, h4⟩:=Fl.ok_iff.1 h
 obtain ⟨n0, n1, n2⟩:=file_no h1
 refine ⟨Lib.decDigits f.sz.toNat, eightL f.crc.toNat, hexL f.md, ?_, n0, n1, n2, ⟨_, dec_num (by omega), by omega⟩, ⟨_, eight_sum (by omega), by omega⟩, by rw [hexL_len, h4], pairs_hexL 16 h4⟩
 have e' : rowL f = R0 ++ f.nm ++ [32] ++ Lib.decDigits f.sz.toNat ++ [32] ++ eightL f.crc.toNat ++ [32] ++ hexL f.md:=List.append_cancel_right (rowL_parts f)
 rw [e']
 simp only [List.append_assoc]
theorem man_form {m : Mf} (h : holdsF m = 0) : maform (closeL (manL m)) m (crcF (sb (manL m))):=by
 obtain ⟨h1, h2, _⟩:=holdsF_ok h
 have hh:=headOk_all h1
 have hf:=filesOk_at h2
 obtain ⟨n0, n1, n2⟩:=store_no hh.st
 have a:=hh.ver
 have b:=hh.node
 have c:=hh.n
 have d:=hh.tot
 have e:=hh.who
 refine ⟨m.fs.map rowL, Lib.decDigits m.ver.toNat, Lib.decDigits m.node.toNat, Lib.decDigits m.fs.length, Lib.decDigits m.tot.toNat, eightL m.who.toNat, eightL (crcF (sb (manL m))), ?_, n0, n1, n2, ⟨_, dec_num (by omega), by omega⟩, ⟨_, dec_num (by omega), by omega⟩, dec_num (by omega), ⟨_, dec_num (by omega), by omega⟩, ⟨_, eight_sum (by omega), by omega⟩, eight_sum (crcF_lt _), by rw [List.length_map], λ i t f ht hfi => ?_⟩
 ·have er : lnsL (m.fs.map rowL) = rowsL m.fs:=by
   unfold lnsL rowsL
   rw [List.map_map]
   rfl
  unfold closeL
  generalize crcF (sb (manL m)) = q
  unfold manL
  rw [manH_parts, manT_parts, er]
  simp only [List.append_assoc]
 ·rw [List.getElem?_map, hfi] at ht
  injection ht with ht
  rw [<- ht]
  exact row_form (hf f (List.mem_of_getElem? hfi))
theorem man_code {m : Mf} (h : holdsF m = 0) : codeM (closeL (manL m)) m (crcF (sb (manL m))) = 0 /\ resM (closeL (manL m)) m (crcF (sb (manL m))) = m:=by
 have e : codeM (closeL (manL m)) m (crcF (sb (manL m))) = 0:=by
  unfold codeM
  rw [close_take, if_pos rfl, h]
 exact ⟨e, if_pos e⟩
theorem holds_43 {m m' : Mf} (h : holdsF m = 0) (h1 : headOk m' = true) (h2 : m'.fs = m.fs) (h3 : ¬ (m'.tot = m.tot /\ m'.who = m.who)) : holdsF m' = 43:=by
 obtain ⟨_, q2, q3, q4⟩:=holdsF_ok h
 unfold holdsF
 rw [h2, h1, q2, Bool.true_and, if_pos rfl, if_neg]
 rintro ⟨e1, e2⟩
 exact h3 ⟨by omega, by omega⟩
theorem xor1 {a : Nat} (h : a < 4294967296) : binV .xor (.int .i64 (a : Int)) (.int .i64 1) = some (.int .i64 ((a ^^^ 1 : Nat) : Int)) /\ a ^^^ 1 < 4294967296 /\ a ^^^ 1 ≠ a:=by
 have hlt : a ^^^ 1 < 4294967296:=Nat.xor_lt_two_pow (n:=32) h (by decide)
 refine ⟨?_, hlt, λ e => ?_⟩
 ·rw [binV_int]
  show some (Value.int .i64 (IntKind.i64.wrap ((BitVec.ofInt 64 (a : Int) ^^^ BitVec.ofInt 64 ((1 : Nat) : Int)).toNat : Int))) = _
  rw [BitVec.toNat_xor, BitVec.ofInt_natCast, BitVec.ofInt_natCast, BitVec.toNat_ofNat, BitVec.toNat_ofNat, Nat.mod_eq_of_lt (by omega), Nat.mod_eq_of_lt (by omega), i64W (by omega)]
 ·have : (a ^^^ 1) ^^^ a = 0:=by rw [e, Nat.xor_self]
  rw [Nat.xor_comm, <- Nat.xor_assoc, Nat.xor_self] at this
  simp at this
section
variable {w w1 w2 : World}
theorem manO_yes {m : Mf} (h : holdsF m = 0) : manO m = .tuple #[.string (sb (closeL (manL m))), .int .i64 0]:=if_pos h
theorem manO_43 {m : Mf} (h : holdsF m = 43) : manO m = .tuple #[.string (sb []), .int .i64 43]:=by
 unfold manO
 rw [if_neg (by rw [h]; decide), h]
theorem files_walk (ht : Tb w) (tm : Tm w) {s0 : List UInt8} {gs : List Gf} {v : Value} (hv : Sl 2 w v (gs.map Gf.row)) (hs0 : s0.length <= 4294967296) (hfit : GsFit gs) :
  Run (F.granarylaw4_PaperFiles (.string (sb s0)) v) w λ r w' => r = .bool true /\ Fr (λ _ => False) w w':=by
 unfold F.granarylaw4_PaperFiles
 have hvl:=hv.lenL
 rw [List.length_map] at hvl
 have hn:=hfit.n
 have nv : ∀ b, notV (.bool b) = some (.bool !b):=λ _ => rfl
 rw [Run_bind]
 refine Run_for gs.length (λ i L w' => L = [.int .i64 (i : Int)] /\ w' = w) ⟨rfl, rfl⟩ ?_ ?_
 ·rintro i L w1 hi ⟨rfl, rfl⟩
  obtain ⟨g, hg⟩ : ∃ g, gs[i]? = some g:=⟨_, List.getElem?_eq_getElem hi⟩
  have htx:=hfit.tx g (List.mem_of_getElem? hg)
  have hil : (i : Int) < gs.length:=by omega
  obtain ⟨pp, e1, e2⟩:=hv.rdF (i:=i) (e:=g.row) (by simp [hg]) .i64
  have e1' : idxA 2 v (.int .i64 (i : Int)) = some pp:=e1
  obtain ⟨pq, e3, e4⟩:=e2 1 (by decide)
  have hgt : binV .gtr (.int .i64 ((g.tx.length : Nat) : Int)) (.int .i64 1073741824) = some (.bool false):=by rw [binV_int, intBin_gtr, decide_eq_false (by omega)]
  rw [getL_zero, hvl, Run_bindO_some, lssT hil, Run_bindO_some, Run_condM_true, e1', Run_bindO_some, e3, Run_bindO_some, Run_bind, Run_rdM]
  refine ⟨_, e4.trans (show g.row[1]? = some (.string (sb g.tx)) from rfl), ?_⟩
  rw [lenS_string, sb_size, Run_bindO_some, hgt, Run_bindO_some, Run_condM_false, binV_int, intBin_add, wrap_succ' (by omega), Run_bindO_some, Run_ret]
  exact ⟨rfl, rfl⟩
 ·rintro L w1 ⟨rfl, hw1⟩
  rw [hw1]
  have hil : ¬ ((gs.length : Nat) : Int) < gs.length:=by omega
  rw [getL_zero, hvl, Run_bindO_some, lssF hil, Run_bindO_some, Run_condM_false, Run_ret]
  simp only [outK_exit]
  rw [show Nat.beq 0 0 = true from rfl, cond_true, Run_bind]
  refine (told_run ht tm hv hs0 hfit).mono ?_
  rintro _ w2 ⟨m, u, ok, rfl, hO, hm, f2⟩
  have y0 : ∀ v x z, extV 0 (.tuple #[v, x, z]) = some v:=λ _ _ _ => rfl
  have y1 : ∀ v x z, extV 1 (.tuple #[v, x, z]) = some x:=λ _ _ _ => rfl
  have y2 : ∀ v x z, extV 2 (.tuple #[v, x, z]) = some z:=λ _ _ _ => rfl
  have p0 : ∀ v x, extV 0 (.tuple #[v, x]) = some v:=λ _ _ => rfl
  have p1 : ∀ v x, extV 1 (.tuple #[v, x]) = some x:=λ _ _ => rfl
  rw [y0, Run_bindO_some, y1, Run_bindO_some, y2, Run_bindO_some, Run_bind]
  refine Run_new λ x w3 hx hxw f3 hxle => ?_
  have huc : isCell u = true:=hO.sl.1.isCell
  rw [Run_bind, Run_stA (n:=6) ⟨⟨⟨_, hx, by simp⟩, hxw⟩, rfl, mval_cell m huc⟩]
  have bx : bk (sto w3 x 0 (mval m u)) x = some (mval m u):=by rw [bk_sto_same hx]; rfl
  have wx : wr (sto w3 x 0 (mval m u)) x = true:=by rw [wr_sto]; exact hxw
  have f4 : Fr (λ _ => False) w2 (sto w3 x 0 (mval m u)):=f3.sto (.inr hxle) _ _
  rw [show (mval m u).toArray.toList = mval m u from rfl]
  generalize sto w3 x 0 (mval m u) = w4 at *
  have f04:=f2.trans f4 λ _ _ => id
  have s2:=f2.size
  rw [nv, Run_bindO_some]
  cases ok with
  | false =>
   rw [Bool.not_false, Run_condM_true, Run_bind]
   refine (first_run (ht.fr0 f04)).mono ?_
   rintro _ w5 ⟨rfl, f5⟩
   rw [Run_ret]
   exact ⟨rfl, f04.trans f5 λ _ _ => id⟩
  | true =>
   have h0:=told_holds hm hfit.tx (by have:=hfit.all; omega)
   obtain ⟨g1, g2, g3⟩:=hm.good rfl
   have hmfit : m.Fit:=⟨by rw [hm.st]; omega, λ f hf => by
    have hok:=(Fl.ok_iff.1 (filesOk_at (holdsF_ok h0).2.1 f hf))
    have:=(fileP_mem hok.1).2.1
    have:=hok.2.2.2
    omega, by rw [hm.fs.len]; omega⟩
   have hul:=hO.sl.1.fr0 f4
   have xu : ∀ c, inB u c -> c < w2.heap.size:=λ c hc => (hO.fresh c hc).2
   have cA : ∀ {m : Mf} {w' : World}, bk w' x = some (mval m u) -> ldA 6 (.pointer (some ⟨x, 0, none⟩)) w' = some (.agg (mval m u).toArray):=λ h => ldA_bk h (Nat.le_refl _)
   rw [Bool.not_true, Run_condM_false, Run_bind, Run_rdM]
   refine ⟨_, cA bx, ?_⟩
   rw [Run_bind]
   refine (manprint_run (ht.fr0 f04) hul hmfit).mono ?_
   rintro _ w5 ⟨rfl, f5⟩
   have f05:=f04.trans f5 λ _ _ => id
   have hlen : (closeL (manL m)).length <= 4294960000:=by rw [close_len]; have:=man_len h0; omega
   rw [manO_yes h0, p0, Run_bindO_some, p1, Run_bindO_some, Run_bind]
   refine (manparse_yes (ht.fr0 f05) hlen (man_form h0)).mono ?_
   rw [(man_code h0).1, (man_code h0).2]
   rintro _ w6 ⟨u2, rfl, hu2, hu2i, f6⟩
   have f46:=f5.trans f6 λ _ _ => id
   have f06:=f04.trans f46 λ _ _ => id
   rw [p0, Run_bindO_some, p1, Run_bindO_some, Run_bind]
   refine Run_new λ y w7 hy hyw f7 hyle => ?_
   have hu2c : isCell u2 = true:=hu2.1.isCell
   rw [Run_bind, Run_stA (n:=6) ⟨⟨⟨_, hy, by simp⟩, hyw⟩, rfl, mval_cell m hu2c⟩]
   have by8' : bk (sto w7 y 0 (mval m u2)) y = some (mval m u2):=by rw [bk_sto_same hy]; rfl
   have f8 : Fr (λ _ => False) w6 (sto w7 y 0 (mval m u2)):=f7.sto (.inr hyle) _ _
   rw [show (mval m u2).toArray.toList = mval m u2 from rfl]
   generalize sto w7 y 0 (mval m u2) = w8 at *
   have f48:=f46.trans f8 λ _ _ => id
   have f08:=f06.trans f8 λ _ _ => id
   have bx8:=f48.bk_some bx id
   have wx8 : wr w8 x = true:=by rw [f48.wr (bk_lt bx) id]; exact wx
   have ly : ldA 6 (.pointer (some ⟨y, 0, none⟩)) w8 = some (.agg (mval m u2).toArray):=ldA_bk by8' (Nat.le_refl _)
   unfold F.granarylaw4_num
   rw [Run_bind, Run_ret, binV_int, intBin_neq, Run_bindO_some]
   simp only [decide_true, Bool.not_true, Run_bind, Run_guardM_ff, Run_ret, binV_int, intBin_neq, Run_optM_some, pickV_bool, cond_false, Run_bindO_some, Run_rdM]
   refine ⟨_, cA bx8, _, ly, ?_⟩
   refine (sameManifest_run (hul.fr0 f48) (hu2.1.fr0 f8) (by rw [hm.fs.len]; omega)).mono ?_
   rintro _ w9 ⟨rfl, f9⟩
   have f49:=f48.trans f9 λ _ _ => id
   have f09:=f08.trans f9 λ _ _ => id
   have bx9:=f9.bk_some bx8 id
   have wx9 : wr w9 x = true:=by rw [f9.wr (bk_lt bx8) id]; exact wx8
   have ul9:=hul.fr0 f49
   have sz:=f49.size
   have xlow:=hxle
   simp only [nv, Bool.not_true, Run_optM_some, pickV_bool, cond_false, Run_bindO_some, Run_condM_false, fieldA_ptr]
   have hT:=hm.tot
   have hW:=hm.who
   have hall:=hfit.all
   have hcl:=crcF_lt (sb (allT gs))
   generalize (allT gs).length = T at *
   generalize crcF (sb (allT gs)) = C at *
   have l4 : ld1 (.pointer (some ⟨x, 0 + 4, none⟩)) w9 = some (.int .i64 ((T : Nat) : Int)):=by rw [ld1_ptr, bx9, <- hT]; rfl
   rw [Run_bind, Run_rdM]
   refine ⟨_, l4, ?_⟩
   have ea : binV .add (.int .i64 ((T : Nat) : Int)) (.int .i64 1) = some (.int .i64 ((T + 1 : Nat) : Int)):=addN (b:=1) (by omega)
   rw [ea, Run_bindO_some, Run_bindO_some, Run_bind, Run_st1 ⟨⟨⟨_, bx9, by simp [mval]⟩, wx9⟩, rfl⟩]
   have bxA : bk (sto w9 x (0 + 4) [.int .i64 ((T + 1 : Nat) : Int)]) x = some (mval { m with tot:=((T + 1 : Nat) : Int) } u):=by rw [bk_sto_same bx9]; rfl
   have wxA : wr (sto w9 x (0 + 4) [.int .i64 ((T + 1 : Nat) : Int)]) x = true:=by rw [wr_sto]; exact wx9
   have fA : Fr (λ c => c = x) w9 (sto w9 x (0 + 4) [.int .i64 ((T + 1 : Nat) : Int)]):=(show Fr (λ c => c = x) w9 w9 from Fr.refl _ _).sto (.inl rfl) _ _
   generalize sto w9 x (0 + 4) [.int .i64 ((T + 1 : Nat) : Int)] = wA at *
   have f0A : Fr (λ _ => False) w wA:=f09.new fA λ c hc => by omega
   have xnu : ∀ c, inB u c -> ¬ c = x:=λ c hc e => by have:=xu c hc; omega
   have ulA:=ul9.fr fA xnu
   rw [Run_bind, Run_rdM]
   refine ⟨_, cA bxA, ?_⟩
   have hh:=headOk_all (holdsF_ok h0).1
   have hhead : ∀ m' : Mf, m'.st = m.st -> m'.ver = m.ver -> m'.node = m.node -> m'.fs = m.fs -> (0 <= m'.tot /\ m'.tot <= 9007199254740992) -> (0 <= m'.who /\ m'.who <= 4294967295) -> headOk m' = true:=λ m' a1 a2 a3 a4 a5 a6 => by
    unfold headOk
    rw [a1, a2, a3, a4, hh.st]
    have b1:=hh.ver
    have b2:=hh.node
    have b3:=hh.n
    simp only [Bool.true_and, Bool.and_eq_true, decide_eq_true_eq]
    exact ⟨⟨⟨b1, b2⟩, b3⟩, a5, a6⟩
   have k1 : holdsF { m with tot:=((T + 1 : Nat) : Int) } = 43:=holds_43 h0 (hhead _ rfl rfl rfl rfl (by simp only; omega) hh.who) rfl (λ h => by
    have:=h.1
    simp only at this
    omega)
   rw [Run_bind]
   refine (manprint_run (m:={ m with tot:=((T + 1 : Nat) : Int) }) (ht.fr0 f0A) ulA ⟨hmfit.st, hmfit.fs, hmfit.n⟩).mono ?_
   rintro _ wB ⟨rfl, fB⟩
   have f0B:=f0A.trans fB λ _ _ => id
   have bxB:=fB.bk_some bxA id
   have wxB : wr wB x = true:=by rw [fB.wr (bk_lt bxA) id]; exact wxA
   have ulB:=ulA.fr0 fB
   rw [manO_43 k1, p0, Run_bindO_some, p1, Run_bindO_some, Run_bindO_some, Run_bind, Run_rdM]
   have l4B : ld1 (.pointer (some ⟨x, 0 + 4, none⟩)) wB = some (.int .i64 ((T + 1 : Nat) : Int)):=by rw [ld1_ptr, bxB]; rfl
   refine ⟨_, l4B, ?_⟩
   have es : binV .sub (.int .i64 ((T + 1 : Nat) : Int)) (.int .i64 1) = some (.int .i64 ((T : Nat) : Int)):=by
    rw [binV_int]
    show some (Value.int .i64 (IntKind.i64.wrap (((T + 1 : Nat) : Int) - 1))) = _
    rw [show ((T + 1 : Nat) : Int) - 1 = ((T : Nat) : Int) by omega, i64W (by omega)]
   rw [es, Run_bindO_some, Run_bindO_some, Run_bind, Run_st1 ⟨⟨⟨_, bxB, by simp [mval]⟩, wxB⟩, rfl⟩]
   have bxC : bk (sto wB x (0 + 4) [.int .i64 ((T : Nat) : Int)]) x = some (mval { m with tot:=((T : Nat) : Int) } u):=by rw [bk_sto_same bxB]; rfl
   have wxC : wr (sto wB x (0 + 4) [.int .i64 ((T : Nat) : Int)]) x = true:=by rw [wr_sto]; exact wxB
   have fC : Fr (λ c => c = x) wB (sto wB x (0 + 4) [.int .i64 ((T : Nat) : Int)]):=(show Fr (λ c => c = x) wB wB from Fr.refl _ _).sto (.inl rfl) _ _
   generalize sto wB x (0 + 4) [.int .i64 ((T : Nat) : Int)] = wC at *
   have f0C : Fr (λ _ => False) w wC:=f0B.new fC λ c hc => by omega
   have ulC:=ulB.fr fC xnu
   have l5C : ld1 (.pointer (some ⟨x, 0 + 5, none⟩)) wC = some (.int .i64 ((C : Nat) : Int)):=by rw [ld1_ptr, bxC, <- hW]; rfl
   obtain ⟨x1, x2, x3⟩:=xor1 (a:=C) hcl
   generalize C ^^^ 1 = D at *
   rw [Run_bindO_some, Run_bind, Run_rdM]
   refine ⟨_, l5C, ?_⟩
   rw [x1, Run_bindO_some, Run_bindO_some, Run_bind, Run_st1 ⟨⟨⟨_, bxC, by simp [mval]⟩, wxC⟩, rfl⟩]
   have bxD : bk (sto wC x (0 + 5) [.int .i64 ((D : Nat) : Int)]) x = some (mval { m with tot:=((T : Nat) : Int), who:=((D : Nat) : Int) } u):=by rw [bk_sto_same bxC]; rfl
   have fD : Fr (λ c => c = x) wC (sto wC x (0 + 5) [.int .i64 ((D : Nat) : Int)]):=(show Fr (λ c => c = x) wC wC from Fr.refl _ _).sto (.inl rfl) _ _
   generalize sto wC x (0 + 5) [.int .i64 ((D : Nat) : Int)] = wD at *
   have f0D : Fr (λ _ => False) w wD:=f0C.new fD λ c hc => by omega
   have ulD:=ulC.fr fD xnu
   have k2 : holdsF { m with tot:=((T : Nat) : Int), who:=((D : Nat) : Int) } = 43:=holds_43 h0 (hhead _ rfl rfl rfl rfl (by simp only; omega) (by simp only; omega)) rfl (λ h => by
    have:=h.2
    simp only at this
    omega)
   rw [Run_bind, Run_rdM]
   refine ⟨_, cA bxD, ?_⟩
   rw [Run_bind]
   refine (manprint_run (m:={ m with tot:=((T : Nat) : Int), who:=((D : Nat) : Int) }) (ht.fr0 f0D) ulD ⟨hmfit.st, hmfit.fs, hmfit.n⟩).mono ?_
   rintro _ wE ⟨rfl, fE⟩
   rw [manO_43 k2, p0, Run_bindO_some, p1, Run_bindO_some]
   simp only [Run_bind, Run_ret, binV_int, intBin_eql, decide_true, Run_bindO_some, Run_guardM_tt, Run_optM_some, pickV_bool, cond_true]
   exact ⟨trivial, f0D.trans fE λ _ _ => id⟩
end
theorem rdGf {w : World} {c : List Value} {n : Nat} (h : (Shs.str (.str .nil)).Rd w c n) : ∃ g : Gf, c = g.row /\ g.nm.length <= n /\ g.tx.length <= n:=by
 obtain ⟨s, _, _, h1, k1, d, _, _, h2, k2, h3⟩:=h
 subst h3; subst h2
 have e1 : s.data.toList.length = s.size:=Array.length_toList
 have e2 : d.data.toList.length = d.size:=Array.length_toList
 refine ⟨⟨s.data.toList, d.data.toList⟩, h1, ?_, ?_⟩
 ·show s.data.toList.length <= n
  omega
 ·show d.data.toList.length <= n
  omega
theorem allT_bound {gs : List Gf} {B : Nat} (h : ∀ g ∈ gs, g.tx.length <= B) : (allT gs).length <= gs.length * B:=by
 induction gs with
 | nil => simp [allT]
 | cons g r ih =>
  have h1:=ih λ x hx => h x (by simp [hx])
  have h2:=h g (by simp)
  have e : allT (g :: r) = g.tx ++ allT r:=rfl
  rw [e, List.length_append, List.length_cons, Nat.succ_mul]
  omega
theorem rd_files {w : World} {v : Value} {n : Nat} (h : (Shs.slice (.str (.str .nil)) .nil).Rd w [v] n) (hn : n <= 1048576) : ∃ gs : List Gf, Sl 2 w v (gs.map Gf.row) /\ GsFit gs:=by
 obtain ⟨l, h1, h2⟩:=h.slice1 (T:={ g : Gf // g.nm.length <= 1048576 /\ g.tx.length <= 1048576 }) (f:=λ g => g.1.row) λ c k hk hc => by
  obtain ⟨g, rfl, g1, g2⟩:=rdGf hc
  exact ⟨⟨g, by omega, by omega⟩, rfl⟩
 have hb : ∀ g ∈ l.map (·.1), g.nm.length <= 1048576 /\ g.tx.length <= 1048576:=λ g hg => by
  obtain ⟨x, _, rfl⟩:=List.mem_map.1 hg
  exact x.2
 refine ⟨l.map (·.1), by rw [List.map_map]; exact h1, λ g hg => by have:=hb g hg; omega, λ g hg => by have:=hb g hg; omega, by rw [List.length_map]; omega, ?_⟩
 have:=allT_bound λ g hg => (hb g hg).2
 rw [List.length_map] at this
 have h3 : l.length * 1048576 <= 1048576 * 1048576:=Nat.mul_le_mul_right _ (by omega)
 omega
theorem cells_of_tab2 {H : Type} {enc : TypeId × Value -> H} {P : Program} {w : World} {base : Nat} {sp : Nat -> Bool} {held : Bool} {fuel : Nat} {t e1 e : TypeId} {m n : Nat} {k : IntKind} {cs : List Value} {zss : List (List Int)} {p : List MemPlace}
  (hn : 0 < n) (ht : P.underlying t = some (.array m e1)) (ht1 : P.underlying e1 = some (.array n e)) (he : P.underlying e = some (.int k)) (hce : P.cellsOf e = 1) (hce1 : P.cellsOf e1 = n) (hct : P.cellsOf t = m * n) (hz : ∀ zs ∈ zss, zs.length = n)
  (h : DataW.trod enc P w base sp held fuel t cs = some (.agg (zss.map λ zs => Lib.tabData k zs), p)) : ∃ zs : List Int, zs.length = m * n /\ cs = zs.map λ z => Value.int k z:=by
 cases fuel with
 | zero => simp [DataW.trod] at h
 | succ fuel =>
  simp only [DataW.trod, ht, hce1] at h
  split at h
  ·rename_i hl
   obtain ⟨xs, hm, hx⟩:=Option.map_eq_some_iff.1 h
   have hxs : xs.map (·.1) = zss.map λ zs => (Lib.tabData k zs : DataW H):=by
    have:=congrArg Prod.fst hx
    simpa using this
   have hxl : xs.length = m:=by simpa using Lib.mapM_length hm
   have hel : ∀ j, j < m * n -> ∃ z : Int, cs[j]? = some (.int k z):=λ j hj => by
    have hi : j / n < m:=(Nat.div_lt_iff_lt_mul hn).2 hj
    obtain ⟨b, hb, hf⟩:=Lib.mapM_at hm (j / n) (j / n) (by simp [hi])
    have h2 : (xs.map (·.1))[j / n]? = some b.1:=by simp [hb]
    rw [hxs, List.getElem?_map] at h2
    obtain ⟨zs, hzs, hbz⟩:=Option.map_eq_some_iff.1 h2
    have hlz:=hz zs (List.mem_of_getElem? hzs)
    have hf' : DataW.trod enc P w base sp held fuel e1 ((cs.drop (j / n * n)).take n) = some (Lib.tabData k zs, b.2):=by rw [hbz]; exact hf
    have hc:=Lib.cells_of_tab ht1 he hce hce1 hf'
    have hr : j % n < n:=Nat.mod_lt _ hn
    have h3:=congrArg (λ l => l[j % n]?) hc
    simp only [List.getElem?_take, List.getElem?_drop, List.getElem?_map] at h3
    rw [if_pos hr, show j / n * n + j % n = j by rw [Nat.mul_comm]; exact Nat.div_add_mod j n] at h3
    rw [h3, List.getElem?_eq_getElem (show j % n < zs.length by omega)]
    exact ⟨_, rfl⟩
   have hlen : cs.length = m * n:=hl.trans hct
   have key : ∀ (cs : List Value), (∀ j, j < cs.length -> ∃ z : Int, cs[j]? = some (.int k z)) -> ∃ zs : List Int, cs = zs.map λ z => Value.int k z:=λ cs => by
    induction cs with
    | nil => intro _; exact ⟨[], rfl⟩
    | cons c r ih =>
     intro h
     obtain ⟨z, hz⟩:=h 0 (by simp)
     obtain ⟨zs, hzs⟩:=ih λ j hj => by simpa using h (j + 1) (by simpa using hj)
     refine ⟨z :: zs, ?_⟩
     rw [hzs]
     simp at hz
     rw [hz]
     rfl
   obtain ⟨zs, hzs⟩:=key cs λ j hj => hel j (by omega)
   refine ⟨zs, ?_, hzs⟩
   have:=congrArg List.length hzs
   rw [List.length_map] at this
   omega
  ·cases h
theorem tab2_step {W : World} {name : String} {k : IntKind} {zss : List (List Int)} {rest : List (String × DataW Unit)} {g : Nat} {t e1 e : TypeId} {m n : Nat} {ps : List MemPlace}
  (hn : 0 < n) (hg : Tryz.prog.globalNamed name = some g) (hty : (Tryz.prog.globals[g]?).map (·.type) = some t) (ht : Tryz.prog.underlying t = some (.array m e1)) (ht1 : Tryz.prog.underlying e1 = some (.array n e)) (he : Tryz.prog.underlying e = some (.int k)) (hce : Tryz.prog.cellsOf e = 1) (hce1 : Tryz.prog.cellsOf e1 = n) (hct : Tryz.prog.cellsOf t = m * n) (hz : ∀ zs ∈ zss, zs.length = n)
  (h : DataW.LaidVars Tryz.prog W ((name, .agg (zss.map λ zs => Lib.tabData k zs)) :: rest) ps) : (∃ zs : List Int, zs.length = m * n /\ bk W g = some (zs.map λ z => Value.int k z)) /\ ∃ q, DataW.LaidVars Tryz.prog W rest q:=by
 obtain ⟨g', t', cs, fuel, p, q, hg', ht', hvar, hd, hr, _⟩:=h
 obtain rfl:=Option.some.inj (hg.symm.trans hg')
 obtain rfl:=Option.some.inj (hty.symm.trans ht')
 obtain ⟨zs, h1, h2⟩:=cells_of_tab2 hn ht ht1 he hce hce1 hct hz hd
 refine ⟨⟨zs, h1, bk_of_var hg ?_⟩, q, hr⟩
 unfold Lib.TabIs
 rw [hvar, <- h2]
noncomputable def eTy2 (g : Nat) : TypeId:=match Tryz.prog.underlying (eTy g) with
 | some (.array _ e) => e
 | _ => 0
def trnZ : List (List Int):=[[7, 12, 17, 22], [5, 9, 14, 20], [4, 11, 16, 23], [6, 10, 15, 21]]
def sinZ : List Int:=[3614090360, 3905402710, 606105819, 3250441966, 4118548399, 1200080426, 2821735955, 4249261313, 1770035416, 2336552879, 4294925233, 2304563134, 1804603682, 4254626195, 2792965006, 1236535329, 4129170786, 3225465664, 643717713, 3921069994, 3593408605, 38016083, 3634488961, 3889429448, 568446438, 3275163606, 4107603335, 1163531501, 2850285829, 4243563512, 1735328473, 2368359562, 4294588738, 2272392833, 1839030562, 4259657740, 2763975236, 1272893353, 4139469664, 3200236656, 681279174, 3936430074, 3572445317, 76029189, 3654602809, 3873151461, 530742520, 3299628645, 4096336452, 1126891415, 2878612391, 4237533241, 1700485571, 2399980690, 4293915773, 2240044497, 1873313359, 4264355552, 2734768916, 1309151649, 4149444226, 3174756917, 718787259, 3951481745]
theorem tb_ofF {W : World} (h : laidMetH Tryz.prog Rows.paperFilesUptoRow.laid W) (hsh : W.ShapedOpen Tryz.prog) : Tb W /\ Tm W:=by
 have h' : laidMet Tryz.prog Rows.paperFilesUptoRow.laid W:=h
 obtain ⟨ps, hv, _⟩:=h'
 obtain ⟨b3, q3, v3⟩:=tab_step (k:=.u8) (zs:=deb32) (g:=9) (t:=gTy 9) (e:=eTy 9) (n:=32) (by kernel_rfl) (by kernel_rfl) (by kernel_rfl) (by kernel_rfl) (by kernel_rfl) (by kernel_rfl) hv
 obtain ⟨b4, q4, v4⟩:=tab_step (k:=.u8) (zs:=deb64) (g:=10) (t:=gTy 10) (e:=eTy 10) (n:=64) (by kernel_rfl) (by kernel_rfl) (by kernel_rfl) (by kernel_rfl) (by kernel_rfl) (by kernel_rfl) v3
 obtain ⟨b0, q0, v0⟩:=tab_step (k:=.u32) (zs:=nibZ) (g:=1) (t:=gTy 1) (e:=eTy 1) (n:=16) (by kernel_rfl) (by kernel_rfl) (by kernel_rfl) (by kernel_rfl) (by kernel_rfl) (by kernel_rfl) v4
 obtain ⟨b5, q5, v5⟩:=tab_step (k:=.u32) (zs:=[1732584193, 4023233417, 2562383102, 271733878]) (g:=2) (t:=gTy 2) (e:=eTy 2) (n:=4) (by kernel_rfl) (by kernel_rfl) (by kernel_rfl) (by kernel_rfl) (by kernel_rfl) (by kernel_rfl) v0
 obtain ⟨b6, q6, v6⟩:=tab_step (k:=.u32) (zs:=sinZ) (g:=4) (t:=gTy 4) (e:=eTy 4) (n:=64) (by kernel_rfl) (by kernel_rfl) (by kernel_rfl) (by kernel_rfl) (by kernel_rfl) (by kernel_rfl) v5
 obtain ⟨⟨tz, b7, b8⟩, q7, v7⟩:=tab2_step (k:=.i64) (zss:=trnZ) (g:=5) (t:=gTy 5) (e1:=eTy 5) (e:=eTy2 5) (m:=4) (n:=4) (by decide) (by kernel_rfl) (by kernel_rfl) (by kernel_rfl) (by kernel_rfl) (by kernel_rfl) (by kernel_rfl) (by kernel_rfl) (by kernel_rfl) (by decide) v6
 obtain ⟨b2, q2, v2⟩:=tab_step (k:=.u64) (zs:=Lib.pow10Tab) (g:=6) (t:=gTy 6) (e:=eTy 6) (n:=20) (by kernel_rfl) (by kernel_rfl) (by kernel_rfl) (by kernel_rfl) (by kernel_rfl) (by kernel_rfl) v7
 exact ⟨⟨b0, ml_of hsh, b2, _, b4, rfl⟩, ⟨_, _, _, _, b5⟩, ⟨_, rfl, b6⟩, ⟨tz, b7, b8⟩⟩
theorem paperFiles_top {W : World} {n0 : Nat} (s : ByteArray) (hs : s.size + 1 <= n0) {v : Value} {n : Nat} (hv : (Shs.slice (.str (.str .nil)) .nil).Rd W [v] n) (hk : n0 + n <= 1048576) (hL : laidMetH Tryz.prog Rows.paperFilesUptoRow.laid W) (hsh : W.ShapedOpen Tryz.prog) :
  Run (F.granarylaw4_PaperFiles (.string s) v) W λ r w' => r = .bool true /\ Fr (λ _ => False) W w':=by
 obtain ⟨gs, g1, g2⟩:=rd_files hv (by omega)
 rw [sb_self s]
 have hl : s.data.toList.length = s.size:=Array.length_toList
 obtain ⟨t1, t2⟩:=tb_ofF hL hsh
 exact files_walk t1 t2 g1 (by omega) g2
end Go.Proofs.YthlpfhjcdedhgaaGreatDoor
