/-
  Layer 1 (disk), part B: a disk as plain data, and in memory; an act; a change applied.
-/
import Derived.Test.YtojnickeblbgoaaDoorDiskA
namespace Go.Proofs.YtojnickeblbgoaaDoor
open Go.Lift
set_option linter.unusedSimpArgs false
set_option maxHeartbeats 2000000

abbrev Ptr (b : Nat) : Value := .pointer (some ⟨b, 0, none⟩)
structure Nd where
  kind : Int
  seen : ByteArray
  kept : ByteArray
structure Chg where
  what : Int
  node : Int
  data : ByteArray
  size : Int
  src : ByteArray
  dst : ByteArray
  target : Int
structure Dk where
  cap : Int
  acts : Int
  reads : Int
  armed : Bool
  left : Int
  down : Bool
  nodes : List Nd
  seen : Slt → Option Int
  kept : Slt → Option Int
  pending : List Chg
def Nd.cells (n : Nd) : List Value := [.int .i64 n.kind, .string n.seen, .string n.kept]
def Chg.cells (c : Chg) : List Value := [.int .i64 c.what, .int .i64 c.node, .string c.data, .int .i64 c.size, .string c.src, .string c.dst, .int .i64 c.target]
def Chg.val (c : Chg) : Value := .agg c.cells.toArray
structure DV where
  nv : Value
  pv : Value
  bs : Nat
  bk : Nat
  ls : List (Slt × Int)
  lk : List (Slt × Int)
def Dk.cells (d : Dk) (v : DV) : List Value := [.int .i64 d.cap, .int .i64 d.acts, .int .i64 d.reads, .bool d.armed, .int .i64 d.left, .bool d.down, v.nv, .map (some v.bs), .map (some v.bk), v.pv]
/-- A list of entries as a function. -/
def Eqm (l : List (Slt × Int)) (m : Slt → Option Int) : Prop := ∀ k, getK k l = m k
/-- A disk in memory: block b; what else is its own is numbered. -/
structure DA (w : World) (b : Nat) (d : Dk) (v : DV) (tag : Nat → Nat) : Prop where
  blk : Go.Lift.bk w b = some (d.cells v)
  wr : Go.Lift.wr w b = true
  nodes : SlW 3 w v.nv (d.nodes.map Nd.cells)
  seen : MapAt slv idv w v.bs v.ls
  seenE : Eqm v.ls d.seen
  kept : MapAt slv idv w v.bk v.lk
  keptE : Eqm v.lk d.kept
  pend : SlW 7 w v.pv (d.pending.map Chg.cells)
  tb : tag b = 1
  ts : tag v.bs = 2
  tk : tag v.bk = 3
  tn : ∀ c, inB v.nv c → tag c = 4
  tp : ∀ c, inB v.pv c → tag c = 5
  t0 : tag 0 = 0
  ml : ∃ m : Int, Go.Lift.bk w 0 = some [.int .i64 m]
  bound : ∀ c, tag c ≠ 0 → c < w.heap.size

section
variable {w w' : World} {b : Nat} {d : Dk} {v : DV} {tag : Nat → Nat}
theorem DA.fr {F : Nat → Prop} (h : DA w b d v tag) (f : Fr F w w') (hF : ∀ c, F c → tag c = 0 ∧ c ≠ 0) : DA w' b d v tag := by
  have s := f.size
  obtain ⟨m, hm⟩ := h.ml
  have nb : ∀ c, tag c ≠ 0 → ¬ F c := fun c hc hf => hc (hF c hf).1
  have b1 : ¬ F b := nb b (by rw [h.tb]; decide)
  exact ⟨f.bk_some h.blk b1, by rw [f.wr (bk_lt h.blk) b1]; exact h.wr, h.nodes.fr f fun c hc => nb c (by rw [h.tn c hc]; decide), h.seen.fr f (nb _ (by rw [h.ts]; decide)), h.seenE, h.kept.fr f (nb _ (by rw [h.tk]; decide)), h.keptE,
    h.pend.fr f fun c hc => nb c (by rw [h.tp c hc]; decide), h.tb, h.ts, h.tk, h.tn, h.tp, h.t0, ⟨m, f.bk_some hm fun hf => (hF 0 hf).2 rfl⟩, fun c hc => Nat.lt_of_lt_of_le (h.bound c hc) s⟩
theorem DA.fr0 (h : DA w b d v tag) (f : Fr (fun _ => False) w w') : DA w' b d v tag := h.fr f fun _ h => h.elim
/-- A field of its own block is written. -/
theorem DA.put (h : DA w b d v tag) {i : Nat} {x : Value} {d' : Dk} (hc : (d.cells v).set i x = d'.cells v) (h1 : d'.nodes = d.nodes) (h2 : d'.seen = d.seen) (h3 : d'.kept = d.kept) (h4 : d'.pending = d.pending) : DA (sto w b i [x]) b d' v tag := by
  have f : Fr (fun c => c = b) w (sto w b i [x]) := (Fr.refl (fun c => c = b) w).sto (.inl rfl) _ _
  have nb : ∀ c, tag c ≠ 1 → ¬ c = b := fun c hc he => hc (by rw [he]; exact h.tb)
  obtain ⟨m, hm⟩ := h.ml
  refine ⟨?_, by rw [wr_sto]; exact h.wr, ?_, h.seen.fr f (nb _ (by rw [h.ts]; decide)), by rw [h2]; exact h.seenE, h.kept.fr f (nb _ (by rw [h.tk]; decide)), by rw [h3]; exact h.keptE, ?_, h.tb, h.ts, h.tk, h.tn, h.tp, h.t0, ⟨m, f.bk_some hm (nb 0 (by rw [h.t0]; decide))⟩, fun c hc => by rw [size_sto]; exact h.bound c hc⟩
  · rw [bk_sto_eq, h.blk]
    simp [hc]
  · rw [h1]; exact h.nodes.fr f fun c hc => nb c (by rw [h.tn c hc]; decide)
  · rw [h4]; exact h.pend.fr f fun c hc => nb c (by rw [h.tp c hc]; decide)

def Dk.actF (d : Dk) : Int × Dk := if d.armed then if d.left = 0 then (10, { d with down := true }) else (0, { d with left := IntKind.i64.wrap (d.left - 1), acts := IntKind.i64.wrap (d.acts + 1) }) else (0, { d with acts := IntKind.i64.wrap (d.acts + 1) })
theorem actF_same (d : Dk) : d.actF.2.nodes = d.nodes ∧ d.actF.2.seen = d.seen ∧ d.actF.2.kept = d.kept ∧ d.actF.2.pending = d.pending := by
  unfold Dk.actF
  split
  · split <;> exact ⟨rfl, rfl, rfl, rfl⟩
  · exact ⟨rfl, rfl, rfl, rfl⟩
theorem ready_run (h : DA w b d v tag) {Q : Value → World → Prop} (q : Q (.int .i64 (if d.down then 10 else 0)) w) : Run (F.disk_Disk_ready (Ptr b)) w Q := by
  unfold F.disk_Disk_ready
  have hb := h.blk
  cases hd : d.down
  · rw [hd] at q
    simpa [hb, Dk.cells, hd] using q
  · rw [hd] at q
    simpa [hb, Dk.cells, hd] using q
theorem act_run (h : DA w b d v tag) : Run (F.disk_Disk_act (Ptr b)) w fun r w' => r = .int .i64 d.actF.1 ∧ DA w' b d.actF.2 v tag ∧ Fr (fun c => c = b) w w' := by
  unfold F.disk_Disk_act
  have hb := h.blk
  have hw := h.wr
  cases ha : d.armed
  · have e : d.actF = (0, { d with acts := IntKind.i64.wrap (d.acts + 1) }) := by simp [Dk.actF, ha]
    simp [hb, hw, Dk.cells, ha, e]
    exact ⟨h.put (by simp [Dk.cells, ha]) rfl rfl rfl rfl, (Fr.refl (fun c => c = b) w).sto (.inl rfl) _ _⟩
  · by_cases hl : d.left = 0
    · have e : d.actF = (10, { d with down := true }) := by simp [Dk.actF, ha, hl]
      simp [hb, hw, Dk.cells, ha, hl, e]
      exact ⟨h.put (by simp [Dk.cells, ha]; exact hl) rfl rfl rfl rfl, (Fr.refl (fun c => c = b) w).sto (.inl rfl) _ _⟩
    · have e : d.actF = (0, { d with left := IntKind.i64.wrap (d.left - 1), acts := IntKind.i64.wrap (d.acts + 1) }) := by simp [Dk.actF, ha, hl]
      have h1 : DA (sto w b 4 [.int .i64 (IntKind.i64.wrap (d.left - 1))]) b { d with left := IntKind.i64.wrap (d.left - 1) } v tag := h.put rfl rfl rfl rfl rfl
      simp [hb, hw, Dk.cells, ha, hl, e]
      exact ⟨h1.put (by simp [Dk.cells, ha]) rfl rfl rfl rfl, ((Fr.refl (fun c => c = b) w).sto (.inl rfl) _ _).sto (.inl rfl) _ _⟩

def fput (m : Slt → Option Int) (k : Slt) (v : Int) : Slt → Option Int := fun x => if x = k then some v else m x
def fdel (m : Slt → Option Int) (k : Slt) : Slt → Option Int := fun x => if x = k then none else m x
def applyF (c : Chg) (data : ByteArray) (m : Slt → Option Int) : ByteArray × (Slt → Option Int) :=
  if c.what = 0 then (data ++ c.data, m)
  else if c.what = 1 then (data.extract 0 c.size.toNat, m)
  else if c.what = 2 then (data, fput m (c.node, c.src) c.target)
  else if c.what = 3 then (data, fdel m (c.node, c.src))
  else if c.what = 4 then (data, fput (fdel m (c.node, c.src)) (c.node, c.dst) ((m (c.node, c.src)).getD 0))
  else (data, m)
def Chg.fits (c : Chg) (data : ByteArray) : Prop := (c.what = 0 → data.size + c.data.size ≤ 4611686018427387904) ∧ (c.what = 1 → 0 ≤ c.size ∧ c.size ≤ data.size)
theorem apply_run {bm : Nat} {l : List (Slt × Int)} {m : Slt → Option Int} {data : ByteArray} {c : Chg} (hm : MapAt slv idv w bm l) (hl : Eqm l m) (hf : c.fits data) :
    Run (F.disk_apply c.val (.string data) (.map (some bm))) w fun r w' => r = .string (applyF c data m).1 ∧ (∃ l', MapAt slv idv w' bm l' ∧ Eqm l' (applyF c data m).2) ∧ Fr (fun c => c = bm) w w' := by
  unfold F.disk_apply
  simp only [Run_bind]
  refine Run_new fun e w1 he _ f1 hele => ?_
  have he1 : bk w1 e = some c.cells := he
  have hm1 := hm.fr f1 id
  have g1 : Fr (fun c => c = bm) w w1 := f1.mono fun _ h => h.elim
  have hlt := hm.lt
  have heb : e ≠ bm := by omega
  by_cases k0 : c.what = 0
  · have hs := hf.1 k0
    have hmax : IntKind.i64.max = 9223372036854775807 := by decide
    have hadd : strBin .add data c.data = some (.string (data ++ c.data)) := by
      simp only [strBin]
      rw [if_neg (by rw [hmax]; omega)]
    simp [he1, Chg.cells, k0, hadd, applyF]
    exact ⟨⟨l, hm1, hl⟩, g1⟩
  by_cases k1 : c.what = 1
  · obtain ⟨h1, h2⟩ := hf.2 k1
    obtain ⟨n, hn⟩ : ∃ n : Nat, c.size = n := ⟨c.size.toNat, by omega⟩
    have hsl : sliceS (.string data) none (some (.int .i64 c.size)) = some (.string (data.extract 0 c.size.toNat)) := by
      rw [hn]
      have : n ≤ data.size := by omega
      simp [sliceS, highV, lowV, boundV, this]
    simp [he1, Chg.cells, k0, k1, hsl, applyF]
    exact ⟨⟨l, hm1, hl⟩, g1⟩
  by_cases k2 : c.what = 2
  · simp [he1, Chg.cells, k0, k1, k2, buildV, fillV]
    refine Run_updM (kv := slv) (vv := idv) keyS hm1 (c.node, c.src) c.target fun w2 hm2 f2 _ => ?_
    simp [applyF, k0, k1, k2]
    exact ⟨⟨_, hm2, fun k => by rw [getK_putK]; simp only [fput, hl k]⟩, g1.trans f2 fun _ _ h => h⟩
  by_cases k3 : c.what = 3
  · simp [he1, Chg.cells, k0, k1, k2, k3, buildV, fillV]
    refine Run_delM (kv := slv) (vv := idv) keyS hm1 (c.node, c.src) fun w2 hm2 f2 _ => ?_
    simp [applyF, k0, k1, k2, k3]
    exact ⟨⟨_, hm2, fun k => by rw [getK_delK hm.nodup]; simp only [fdel, hl k]⟩, g1.trans f2 fun _ _ h => h⟩
  by_cases k4 : c.what = 4
  · have hlook := hm1.look keyS (c.node, c.src) (.int .i64 0) false
    simp [he1, Chg.cells, k0, k1, k2, k3, k4, buildV, fillV]
    refine ⟨_, hlook, ?_⟩
    refine Run_delM (kv := slv) (vv := idv) keyS hm1 (c.node, c.src) fun w2 hm2 f2 _ => ?_
    have he2 : bk w2 e = some c.cells := f2.bk_some he1 heb
    simp [he2, Chg.cells]
    have hv : ((getK (c.node, c.src) l).map idv).getD (.int .i64 0) = idv ((m (c.node, c.src)).getD 0) := by
      rw [hl (c.node, c.src)]
      cases m (c.node, c.src) <;> rfl
    simp [hv]
    refine Run_updM (kv := slv) (vv := idv) keyS hm2 (c.node, c.dst) ((m (c.node, c.src)).getD 0) fun w3 hm3 f3 _ => ?_
    simp [applyF, k0, k1, k2, k3, k4]
    exact ⟨⟨_, hm3, fun k => by rw [getK_putK, getK_delK hm.nodup]; simp only [fput, fdel, hl k]⟩, (g1.trans f2 fun _ _ h => h).trans f3 fun _ _ h => h⟩
  · simp [he1, Chg.cells, k0, k1, k2, k3, k4, applyF]
    exact ⟨⟨l, hm1, hl⟩, g1⟩
end
end Go.Proofs.YtojnickeblbgoaaDoor
