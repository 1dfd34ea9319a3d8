/-
  Layer 1 (disk), DiskKeeps, part H: how the script begins, and what is read at its end.
-/
import Derived.Test.YtojnickeblbgoaaDoorKeepG
import Derived.Test.YtojnickeblbgoaaDoorDiskR
import Derived.Test.YtojnickeblbgoaaDoorLiftV
namespace Go.Proofs.YtojnickeblbgoaaDoor
open Go.Lift
set_option linter.unusedSimpArgs false
set_option linter.unusedVariables false
set_option maxHeartbeats 4000000

/-- A slice of such elements, with their bulks. -/
theorem Shs.Rd.slice2 {T : Type} {f : T → List Value} {g : T → Nat} {w : World} {e : Shs} {v : Value} {n : Nat} (h : (Shs.slice e .nil).Rd w [v] n) (hf : ∀ c k, k ≤ n → e.Rd w c k → ∃ a : T, c = f a ∧ g a ≤ k) :
    ∃ l : List T, Sl e.len w v (l.map f) ∧ (l.map g).sum ≤ n := by
  obtain ⟨v', els, cs', ns, m, h1, h2, h3, h4, h5, h6⟩ := h
  cases h1
  have key : ∀ (els : List (List Value)) (ns : List Nat), ns.length = els.length → (∀ (i : Nat) (c : List Value) (k : Nat), els[i]? = some c → ns[i]? = some k → ∃ a : T, c = f a ∧ g a ≤ k) → ∃ l : List T, els = l.map f ∧ (l.map g).sum ≤ ns.sum := by
    intro els
    induction els with
    | nil => intro ns _ _; exact ⟨[], rfl, by simp⟩
    | cons c els ih =>
      intro ns hl hn
      cases ns with
      | nil => simp at hl
      | cons k ns =>
        obtain ⟨a, ha, hk⟩ := hn 0 c k rfl rfl
        obtain ⟨l, h1, h2⟩ := ih ns (by simpa using hl) fun i c k hc hk => hn (i + 1) c k (by simpa using hc) (by simpa using hk)
        exact ⟨a :: l, by rw [ha, h1]; rfl, by simp only [List.map_cons, List.sum_cons]; omega⟩
  obtain ⟨l, rfl, hl⟩ := key els ns h3 fun i c k hc hk => by
    have := le_sum_of_mem (List.mem_of_getElem? hk)
    exact hf c k (by omega) (h4 i c k hc hk).2
  exact ⟨l, h2, by omega⟩

def nD : Nd := ⟨1, e0, e0⟩
def m0 : Slt → Option Int := fun _ => none
def mA : Slt → Option Int := fput m0 sA 1
def mF : Slt → Option Int := fput mA sF 2
def cF : Chg := ⟨2, 1, e0, 0, nF, e0, 2⟩
def k1 : Stage := ⟨[nD, nD], mA, m0, [cLink FA 1]⟩
def k2 : Stage := ⟨[nD, nD], mA, mA, []⟩
def k3 : Stage := ⟨[nD, nD, ⟨2, e0, e0⟩], mF, mA, [cF]⟩
def k4 (data : ByteArray) : Stage := ⟨[nD, nD, ⟨2, data, e0⟩], mF, mA, [cF, cGrow 2 data]⟩
def k5 (data : ByteArray) : Stage := ⟨[nD, nD, ⟨2, data, data⟩], mF, mA, [cF]⟩
def k6 (data : ByteArray) : Stage := ⟨[nD, nD, ⟨2, data, data⟩], mF, mF, []⟩
theorem mA_val {s : Slt} {k : Int} (h : mA s = some k) : s = sA ∧ k = 1 := by
  unfold mA fput m0 at h
  split at h
  · rename_i e; exact ⟨e, by simpa using h.symm⟩
  · cases h
theorem mF_val {s : Slt} {k : Int} (h : mF s = some k) : (s = sF ∧ k = 2) ∨ (s = sA ∧ k = 1) := by
  unfold mF fput at h
  split at h
  · rename_i e; exact .inl ⟨e, by simpa using h.symm⟩
  · exact .inr (mA_val h)
theorem mA_A : mA sA = some 1 := by unfold mA fput; rw [if_pos rfl]
theorem mF_A : mF sA = some 1 := by unfold mF fput; rw [if_neg sAF]; exact mA_A
theorem mF_F : mF sF = some 2 := by unfold mF fput; rw [if_pos rfl]
theorem mA_F : mA sF = none := by unfold mA fput; rw [if_neg (Ne.symm sAF)]; rfl
section
variable {w w' w'' : World} {b : Nat} {d d' : Dk} {v : DV} {tag : Nat → Nat} {data : ByteArray}
theorem walk_FF (h0 : (d.nd 0).kind = 1) (hs : d.seen sA = some 1) (h1 : (d.nd 1).kind = 1) : d.walkF [FA, nF] = (0, sF, (d.seen sF).getD (-1)) := by
  simp [Dk.walkF, Dk.walkGo, h0, hs, h1]
theorem walk_FA (h0 : (d.nd 0).kind = 1) : d.walkF [FA] = (0, sA, (d.seen sA).getD (-1)) := by
  simp [Dk.walkF, Dk.walkGo, h0]
theorem good_k {n : Nat} {N : List Nd} {S : Slt → Option Int} (hN : d.nodes = N) (hS : d.seen = S) (hn : N.length = n) (h : ∀ s k, S s = some k → k < n) (h0 : 0 < n) : Good d :=
  ⟨fun s k hk => by rw [hS] at hk; rw [hN, hn]; exact h s k hk, by rw [hN, hn]; exact h0⟩
theorem mkdir_def (a p : Value) {Q : Value → World → Prop} : Run (F.disk_Disk_Mkdir a p) w Q ↔ Run (F.disk_Disk_add a p (.int .i64 1)) w Q := by
  unfold F.disk_Disk_Mkdir
  simp [Run_bind]
/-- A call that changes the disk from one stage to the next. -/
def Goes (w : World) (b : Nat) (tag : Nat → Nat) (m : M Value) (s : Stage) : Prop := Run m w fun x w' => x = .int .i64 0 ∧ ∃ d', DDid w w' b tag d' ∧ At d' none s
theorem goes_of {m : M Value} {x : Int × Dk} {s s' : Stage} (h : Run m w fun r w' => r = .int .i64 x.1 ∧ DDid w w' b tag x.2) (ha : Act none x s s') : Goes w b tag m s' := by
  refine h.mono ?_
  rintro _ w' ⟨rfl, h'⟩
  obtain ⟨e, a⟩ := ha.2 (by simp)
  exact ⟨by rw [e], _, h', a⟩
theorem keeps1 (h : DA w b d v tag) (ha : At d none st0) : Goes w b tag (F.disk_Disk_Mkdir (Ptr b) (.string FA)) k1 := by
  have hg : Good d := good_k (n := 1) ha.nodes ha.seen rfl (fun s k hk => by cases hk) (by decide)
  have hn : d.nodes.length = 1 := by rw [ha.nodes]; rfl
  have hp : d.pending.length = 0 := by rw [ha.pend]; rfl
  have hc := create_at (kind := 1) (p := FA) (x := FA) (h := (ha : At d none ⟨[nD], m0, m0, []⟩)) parse_FA ⟨nD, rfl, rfl⟩ rfl
  refine (mkdir_def _ _).2 ?_
  exact goes_of (create_run h hg (path := FA) (by decide) 1 (by omega) (by omega)) hc
theorem keeps2 (h : DA w b d v tag) (ha : At d none k1) : Goes w b tag (F.disk_Disk_SyncDir (Ptr b) (.string E0)) k2 := by
  have hg : Good d := good_k (n := 2) ha.nodes ha.seen rfl (fun s k hk => by rw [(mA_val hk).2]; decide) (by decide)
  have hp : d.pending.length = 1 := by rw [ha.pend]; rfl
  have hc := syncdir_at (p := E0) (h := ha) parse_E0 ⟨nD, rfl, rfl⟩ (fun c hc => by rw [List.mem_singleton.1 hc]; exact link_ent _ _)
  have e : ([cLink FA 1].foldl entF m0) = mA := rfl
  rw [e] at hc
  refine goes_of (syncdir_run h hg (by decide) (fun i nd hi => ?_) (by omega)) hc
  rw [ha.pend]
  exact foldOk_ents (fun c hc => by rw [List.mem_singleton.1 hc]; exact link_ent _ _) _ _
theorem keeps3 (h : DA w b d v tag) (ha : At d none k2) : Goes w b tag (F.disk_Disk_Create (Ptr b) (.string FF)) k3 := by
  have hg : Good d := good_k (n := 2) ha.nodes ha.seen rfl (fun s k hk => by rw [(mA_val hk).2]; decide) (by decide)
  have hn : d.nodes.length = 2 := by rw [ha.nodes]; rfl
  have hp : d.pending.length = 0 := by rw [ha.pend]; rfl
  have n0 : d.nd 0 = nD := nd_of (i := 0) (by rw [ha.nodes]; rfl) rfl
  have n1 : d.nd 1 = nD := nd_of (i := 1) (by rw [ha.nodes]; rfl) rfl
  have sA' : d.seen sA = some 1 := by rw [ha.seen]; exact mA_A
  have sF' : d.seen sF = none := by rw [ha.seen]; exact mA_F
  have e : createF d FF 2 = doF (d.addNode 2) cF 1 nD := by
    simp only [createF, ha.up, parse_FF, walk_FF (by rw [n0]; rfl) sA' (by rw [n1]; rfl), sF', Option.getD_none, n1, hn]
    rw [if_neg (by decide), if_neg (by simp), if_neg (by decide)]
    rfl
  have ha2 : At (d.addNode 2) none ⟨[nD, nD, ⟨2, e0, e0⟩], mA, mA, []⟩ := ⟨ha.cap, ha.up, ha.arm, ha.left, by show d.nodes ++ _ = _; rw [ha.nodes]; rfl, ha.seen, ha.kept, ha.pend⟩
  refine (create_def _ _).2 ?_
  refine goes_of (s := ⟨[nD, nD, ⟨2, e0, e0⟩], mA, mA, []⟩) (create_run h hg (path := FF) (by decide) 2 (by omega) (by omega)) ?_
  rw [e]
  exact do_at ha2 cF 1 nD
theorem keeps4 (hd : data.size ≤ 1048576) (h : DA w b d v tag) (ha : At d none k3) : Goes w b tag (F.disk_Disk_Append (Ptr b) (.string FF) (.string data)) (k4 data) := by
  have hg : Good d := good_k (n := 3) ha.nodes ha.seen rfl (fun s k hk => by rcases mF_val hk with h | h <;> rw [h.2] <;> decide) (by decide)
  have hp : d.pending.length = 1 := by rw [ha.pend]; rfl
  have n0 : d.nd 0 = nD := nd_of (i := 0) (by rw [ha.nodes]; rfl) rfl
  have n1 : d.nd 1 = nD := nd_of (i := 1) (by rw [ha.nodes]; rfl) rfl
  have n2 : d.nd 2 = ⟨2, e0, e0⟩ := nd_of (i := 2) (by rw [ha.nodes]; rfl) rfl
  have sA' : d.seen sA = some 1 := by rw [ha.seen]; exact mF_A
  have sF' : d.seen sF = some 2 := by rw [ha.seen]; exact mF_F
  have hf : d.findF FF 2 = (0, sF, 2) := by
    simp only [Dk.findF, ha.up, parse_FF, walk_FF (by rw [n0]; rfl) sA' (by rw [n1]; rfl), sF', Option.getD_some, n2]
    rw [if_neg (by decide), if_neg (by simp), if_neg (by decide), if_neg (by simp)]
  have hns : ∀ nd ∈ d.nodes, nd.seen.size ≤ 0 := fun nd hnd => by
    rw [ha.nodes] at hnd
    simp [k3, nD] at hnd
    rcases hnd with rfl | rfl <;> decide
  have hU : ∀ ls : List (Slt × Int), sumF d ls = 0 := fun ls => by
    have := sumF_le (B := 0) hns ls
    omega
  have key : ∀ U : Nat, U = 0 → Act none (appendF d FF data U) k3 (k4 data) := fun U hU => by
    have e : appendF d FF data U = doF d (cGrow 2 data) 2 ⟨2, e0, e0⟩ := by
      simp only [appendF, hf, ha.cap, n2, hU]
      rw [if_neg (by simp), if_neg (by simp; omega)]
      rfl
    rw [e]
    have t := do_at ha (cGrow 2 data) 2 ⟨2, e0, e0⟩
    have e2 : (applyF (cGrow 2 data) e0 k3.S).1 = data := e0_append data
    rw [show (⟨2, e0, e0⟩ : Nd).seen = e0 from rfl, e2] at t
    exact t
  refine Run.mono (append_run h hg (fun s k hk => by rw [ha.seen] at hk; rcases mF_val hk with h | h <;> rw [h.2] <;> decide) (by decide) (by omega) (fun ls _ _ => by rw [hU]; decide) (fun nd hnd => by have := hns nd hnd; omega) (by omega)) ?_
  rintro _ w' ⟨ls, _, _, rfl, h'⟩
  obtain ⟨e, a⟩ := (key _ (hU ls)).2 (by simp)
  exact ⟨by rw [e], _, h', a⟩
theorem findFF (hup : d.down = false) (n0 : (d.nd 0).kind = 1) (n1 : (d.nd 1).kind = 1) (n2 : (d.nd 2).kind = 2) (h1 : d.seen sA = some 1) (h2 : d.seen sF = some 2) : d.findF FF 2 = (0, sF, 2) := by
  simp only [Dk.findF, hup, parse_FF, walk_FF n0 h1 n1, h2, Option.getD_some, n2]
  rw [if_neg (by decide), if_neg (by simp), if_neg (by decide), if_neg (by simp)]
theorem keeps5 (hd : data.size ≤ 1048576) (h : DA w b d v tag) (ha : At d none (k4 data)) : Goes w b tag (F.disk_Disk_Sync (Ptr b) (.string FF)) (k5 data) := by
  have hg : Good d := good_k (n := 3) ha.nodes ha.seen rfl (fun s k hk => by rcases mF_val hk with h | h <;> rw [h.2] <;> decide) (by decide)
  have hp : d.pending.length = 2 := by rw [ha.pend]; rfl
  have n0 : d.nd 0 = nD := nd_of (i := 0) (by rw [ha.nodes]; rfl) rfl
  have n1 : d.nd 1 = nD := nd_of (i := 1) (by rw [ha.nodes]; rfl) rfl
  have n2 : d.nd 2 = ⟨2, data, e0⟩ := nd_of (i := 2) (by rw [ha.nodes]; rfl) rfl
  have hf := findFF ha.up (by rw [n0]; rfl) (by rw [n1]; rfl) (by rw [n2]) (by rw [ha.seen]; exact mF_A) (by rw [ha.seen]; exact mF_F)
  have e : syncF d FF 2 = settleF d 2 ⟨2, data, e0⟩ := by
    simp only [syncF, hf, n2]
    rw [if_neg (by simp)]
    rfl
  have hok : ∀ (i : Nat) nd, d.nodes[i]? = some nd → foldOk i (nd.kept, d.kept) d.pending := fun i nd hi => by
    rw [ha.pend]
    have hk : nd.kept.size = 0 := by
      rw [ha.nodes] at hi
      have := List.mem_of_getElem? hi
      simp [k4, nD] at this
      rcases this with rfl | rfl <;> rfl
    have hs := bstep_size i nd.kept cF
    have hz : gsize i cF = 0 := by unfold gsize; rw [if_neg (fun h => absurd h.2 (by decide))]
    refine foldOk_bOk (L := [cF, cGrow 2 data]) ⟨fun _ => fits_other (by decide) (by decide) _, fun _ => ⟨fun _ => ?_, fun h => absurd (show (0 : Int) = 1 from h) (by decide)⟩, trivial⟩
    show (bstep i nd.kept cF).size + data.size ≤ _
    omega
  have t := settle_at ha 2 ⟨2, data, e0⟩
  have e1 : (k4 data).P.foldl (settleStep ((2 : Nat) : Int)) ((⟨2, data, e0⟩ : Nd).kept, (k4 data).K) = (data, mA) := by simp [k4, settleStep, cF, cGrow, applyF, e0_append]
  have e2 : restOf ((2 : Nat) : Int) (k4 data).P = [cF] := by simp [k4, restOf, cF, cGrow]
  rw [e1, e2] at t
  refine goes_of (s := k4 data) (sync_run h hg (by decide) hok (by omega)) ?_
  rw [e]
  exact t
theorem keeps6 (hd : data.size ≤ 1048576) (h : DA w b d v tag) (ha : At d none (k5 data)) : Goes w b tag (F.disk_Disk_SyncDir (Ptr b) (.string FA)) (k6 data) := by
  have hg : Good d := good_k (n := 3) ha.nodes ha.seen rfl (fun s k hk => by rcases mF_val hk with h | h <;> rw [h.2] <;> decide) (by decide)
  have hp : d.pending.length = 1 := by rw [ha.pend]; rfl
  have n0 : d.nd 0 = nD := nd_of (i := 0) (by rw [ha.nodes]; rfl) rfl
  have n1 : d.nd 1 = nD := nd_of (i := 1) (by rw [ha.nodes]; rfl) rfl
  have sA' : d.seen sA = some 1 := by rw [ha.seen]; exact mF_A
  have hf : d.findF FA 1 = (0, sA, 1) := by
    simp only [Dk.findF, ha.up, parse_FA, walk_FA (by rw [n0]; rfl), sA', Option.getD_some, n1]
    rw [if_neg (by decide), if_neg (by simp), if_neg (by decide), if_neg (by simp [nD])]
  have e : syncF d FA 1 = settleF d 1 nD := by
    simp only [syncF, hf, n1]
    rw [if_neg (by simp)]
    rfl
  have hok : ∀ (i : Nat) nd, d.nodes[i]? = some nd → foldOk i (nd.kept, d.kept) d.pending := fun i nd hi => by
    rw [ha.pend]
    exact foldOk_bOk (L := [cF]) ⟨fun _ => fits_other (by decide) (by decide) _, trivial⟩
  have t := settle_at ha 1 nD
  have e1 : (k5 data).P.foldl (settleStep ((1 : Nat) : Int)) (nD.kept, (k5 data).K) = (e0, mF) := by
    simp only [k5, List.foldl_cons, List.foldl_nil, settleStep]
    rw [if_pos (by rfl)]
    rfl
  have e2 : restOf ((1 : Nat) : Int) (k5 data).P = [] := by simp [k5, restOf, cF]
  rw [e1, e2] at t
  refine goes_of (s := k5 data) (syncdir_run h hg (by decide) hok (by omega)) ?_
  rw [e]
  exact t
theorem keep_inv {A : Nat} (hd : data.size ≤ A) (ha : At d none (k6 data)) : Inv1 A 3 data d := by
  have e1 : d.nodes = [nD, nD, ⟨2, data, data⟩] := ha.nodes
  have e2 : d.seen = mF := ha.seen
  have e3 : d.kept = mF := ha.kept
  have e4 : d.pending = [] := ha.pend
  refine ⟨⟨nD, by rw [e1]; rfl, rfl⟩, ⟨nD, by rw [e1]; rfl, rfl⟩, by rw [e1]; rfl, ?_, by rw [e4]; simp, ?_, ?_, by rw [e4, e2, e3]; rfl, ?_, by rw [e1]; exact Nat.le_refl 3, by rw [e4]; decide⟩
  · rw [e1, e3]
    refine ⟨mF_A, mF_F, fun s k hk => ?_, fun s t k hs ht => ?_⟩
    · have e : (([nD, nD, ⟨2, data, data⟩] : List Nd).length : Int) = 3 := rfl
      rw [e]
      rcases mF_val hk with h | h <;> rw [h.2] <;> decide
    · rcases mF_val hs with h | h <;> rcases mF_val ht with h' | h'
      · rw [h.1, h'.1]
      · omega
      · omega
      · rw [h.1, h'.1]
  · rw [e4]
    intro L1 c L2 h
    simp at h
  · rw [e4]
    exact ⟨fun c hc => by simp at hc, List.Pairwise.nil⟩
  · intro j nd hj
    rw [e1] at hj
    rw [e4]
    have : nd = nD ∨ nd = ⟨2, data, data⟩ := by
      have := List.mem_of_getElem? hj
      simpa using this
    have h0 : nD.seen.size = 0 := rfl
    have h1 : nD.kept.size = 0 := rfl
    rcases this with rfl | rfl
    · exact ⟨trivial, fun _ => rfl, by omega, by rw [h1]; show 0 + 0 ≤ A; omega⟩
    · exact ⟨trivial, fun _ => rfl, hd, by show data.size + 0 ≤ A; omega⟩
/-- What is read at the end. -/
theorem keep_read {A M : Nat} (h : DA w b d v tag) (hI : Inv1 A M data d) (hup : d.down = false) (hd : data.size ≤ 1048576) :
    Run (F.granarylaw1_whole (Ptr b) (.string FF)) w fun r w' => r = .tuple #[.string data, .bool true] ∧ DDid w w' b tag { d with reads := IntKind.i64.wrap (d.reads + 1) } := by
  obtain ⟨x0, h0, k0⟩ := hI.n0
  obtain ⟨x1, h1, k1⟩ := hI.n1
  have n0 : d.nd 0 = x0 := nd_of (i := 0) h0 rfl
  have n1 : d.nd 1 = x1 := nd_of (i := 1) h1 rfl
  have n2 : d.nd 2 = ⟨2, data, data⟩ := nd_of (i := 2) hI.n2 rfl
  have hf := findFF hup (by rw [n0]; exact k0) (by rw [n1]; exact k1) (by rw [n2]) hI.pseen.top hI.pseen.fil
  exact whole_run h hI.good (by decide) hup (by rw [parse_FF]; rfl) (by rw [hf]) (nd := ⟨2, data, data⟩) (by rw [hf]; exact n2) (by simp only; omega)
end
end Go.Proofs.YtojnickeblbgoaaDoor
