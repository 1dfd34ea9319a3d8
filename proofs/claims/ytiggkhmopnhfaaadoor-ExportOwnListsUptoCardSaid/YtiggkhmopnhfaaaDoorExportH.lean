/-
  Layer 21 (export), part H: the plain law: an exporter that is asked nothing more.
-/
import Derived.Test.YtiggkhmopnhfaaaDoorExportGa
import Derived.Test.YtiggkhmopnhfaaaDoorRingQ
namespace Go.Proofs.YtiggkhmopnhfaaaDoor
open Go.Lift

theorem rowF_len {C : Clu} (h : checkF C = 0) {p : Nat} (hp : p < C.count) : ((rowF C p).length : Int) = C.replicas := by
  rw [← owners_len h hp]
  unfold rowF
  rw [List.length_append]
  have : ∀ (l : List Int), (l.filter (atHome C)).length + (l.filter fun n => !atHome C n).length = l.length := by
    intro l
    induction l with
    | nil => rfl
    | cons a l ih =>
      simp only [List.filter_cons]
      cases atHome C a <;> simp <;> omega
  have := this (ownersF C p).1
  omega

/-- What a right definition gives. -/
theorem checkF_ok {C : Clu} (h : checkF C = 0) : settingP C ∧ 1 ≤ C.count ∧ C.count ≤ 64 := by
  have hk := h
  unfold checkF at hk
  split at hk
  · cases hk
  split at hk
  · cases hk
  rename_i hset
  split at hk
  · cases hk
  split at hk
  · cases hk
  split at hk
  · cases hk
  cases hh : homesF C with
  | none => rw [hh] at hk; cases hk
  | some home => exact ⟨Classical.not_not.1 hset, (homesF_len hh).2⟩

theorem rowsF_len (C : Clu) : (rowsF C).length = C.count := by simp [rowsF]
theorem rowsF_row {C : Clu} (h : checkF C = 0) {r : List Int} (hr : r ∈ rowsF C) : (r.length : Int) = C.replicas := by
  unfold rowsF at hr
  obtain ⟨p, hp, rfl⟩ := List.mem_map.1 hr
  exact rowF_len h (List.mem_range.1 hp)

theorem XOk.new {C : Clu} (h : checkF C = 0) : XOk (XS.new C) where
  rl := by obtain ⟨_, _, h2⟩ := checkF_ok h; show (rowsF C).length ≤ 64; rw [rowsF_len]; exact h2
  ne := by
    intro r hr hn
    have h1 := rowsF_row h hr
    have h2 := ((checkF_ok h).1 0 _ _ rfl rfl).1
    rw [hn] at h1
    simp at h1
    simp at h2
    omega
  busy := fun h => by cases h
  lp := by simp [XS.new]
  lm := by simp [XS.new]
  pc := by simp [XS.new]
  ac := by simp [XS.new]
  lc := by simp [XS.new]

/-- The time of an exporter: all owners' rows are of R owners. -/
structure XT (rs : List (List Int)) (R : Nat) (wt n : Int) (x : XS) : Prop where
  rows : x.rows = rs
  wait : x.wait = wt
  now : 0 ≤ x.now ∧ x.now ≤ n
  busy : x.busy = true → x.now < x.due ∧ x.due ≤ x.now + wt ∧ 1 ≤ x.left.length ∧ x.left.length ≤ R ∧ 0 ≤ x.part ∧ x.part < rs.length

section
variable {rows : List (List Int)} {R : Nat} {wt n : Int} {x : XS}
theorem XT.mono (h : XT rows R wt n x) {m : Int} (hm : n ≤ m) : XT rows R wt m x := ⟨h.rows, h.wait, ⟨h.now.1, by have := h.now.2; omega⟩, h.busy⟩
theorem XT.ask (hr : x.rows = rows) (hw : x.wait = wt) (hn : 0 ≤ x.now ∧ x.now ≤ n) (hwt : 1 ≤ wt ∧ wt ≤ 1024) (hn' : n ≤ 1073741824) (hl : 1 ≤ x.left.length ∧ x.left.length ≤ R) (hp : 0 ≤ x.part ∧ x.part < rows.length) :
    XT rows R wt n x.askS ∧ x.askS.due = x.now + wt := by
  have hd : x.askS.due = x.now + wt := by
    show IntKind.i64.wrap (x.now + x.wait) = _
    rw [hw, wrap_small (by omega) (by omega)]
  exact ⟨⟨hr, hw, hn, fun _ => ⟨by rw [hd]; show x.now < _; omega, by rw [hd]; show _ ≤ x.now + wt; omega, hl.1, hl.2, hp.1, hp.2⟩⟩, hd⟩
theorem XT.takeS (hR : ∀ r ∈ rows, r.length = R) (hR1 : 1 ≤ R) (hr : x.rows = rows) (hw : x.wait = wt) (hn : 0 ≤ x.now ∧ x.now ≤ n) (hwt : 1 ≤ wt ∧ wt ≤ 1024) (hn' : n ≤ 1073741824) {part : Int} (h1 : 0 ≤ part) (h2 : part ≤ rows.length) :
    XT rows R wt n (x.takeS part).1 := by
  unfold XS.takeS
  split
  · exact ⟨hr, hw, hn, fun h => by cases h⟩
  · rename_i h
    rw [hr] at h
    obtain ⟨m, rfl⟩ : ∃ m : Nat, part = m := ⟨part.toNat, by omega⟩
    have hm : m < rows.length := by omega
    have hl := hR _ (List.getElem_mem hm)
    obtain ⟨to, rest, hx⟩ : ∃ to rest, rows[m] = to :: rest := by
      cases hx : rows[m] with
      | nil => rw [hx] at hl; simp at hl; omega
      | cons to rest => exact ⟨to, rest, rfl⟩
    have e : x.rows[m]? = some (to :: rest) := by rw [hr, List.getElem?_eq_getElem hm, hx]
    simp only [Int.toNat_natCast, e]
    rw [hx] at hl
    exact (XT.ask (x := { x with part := m, pairs := [], left := to :: rest }) hr hw hn hwt hn' ⟨by simp, by show (to :: rest).length ≤ R; omega⟩ ⟨h1, by show (m : Int) < rows.length; omega⟩).1
theorem XT.leaveS (hR : ∀ r ∈ rows, r.length = R) (hR1 : 1 ≤ R) (hwt : 1 ≤ wt ∧ wt ≤ 1024) (hn' : n ≤ 1073741824) (hr : x.rows = rows) (hw : x.wait = wt) (hn : 0 ≤ x.now ∧ x.now ≤ n) (hl : 1 ≤ x.left.length ∧ x.left.length ≤ R) (hp : 0 ≤ x.part ∧ x.part < rows.length) : XT rows R wt n x.leaveS.1 := by
  unfold XS.leaveS
  cases hx : x.left.tail with
  | cons to rest =>
    have : (to :: rest).length = x.left.length - 1 := by rw [← hx]; simp
    exact (XT.ask (x := { x with left := to :: rest }) hr hw hn hwt hn' ⟨by simp, by show (to :: rest).length ≤ R; omega⟩ hp).1
  | nil => exact XT.takeS (x := { x with missing := x.missing ++ [x.part], left := [] }) hR hR1 hr hw hn hwt hn' (by omega) (by omega)
theorem XT.beginS (hR : ∀ r ∈ rows, r.length = R) (hR1 : 1 ≤ R) (hwt : 1 ≤ wt ∧ wt ≤ 1024) (hn' : n ≤ 1073741824) (h : XT rows R wt n x) (v : Int) : XT rows R wt n (x.beginS v).x := by
  unfold XS.beginS
  split
  · exact h
  · split
    · exact h
    · exact XT.takeS (x := { x with busy := true, job := IntKind.i64.wrap (x.job + 1), version := v, all := [], missing := [] }) hR hR1 h.rows h.wait h.now hwt hn' (Int.le_refl 0) (by omega)
theorem XT.tellS (hR : ∀ r ∈ rows, r.length = R) (hR1 : 1 ≤ R) (hwt : 1 ≤ wt ∧ wt ≤ 1024) (hn' : n ≤ 1073741824) (h : XT rows R wt n x) (m : Ms) : XT rows R wt n (x.tellS m).1 := by
  unfold XS.tellS
  split
  · exact h
  · rename_i hb
    obtain ⟨h1, h2, h3, h4, h5, h6⟩ := h.busy (Classical.not_not.1 hb).1
    split
    · exact XT.takeS (x := { x with all := x.all ++ x.pairs }) hR hR1 h.rows h.wait h.now hwt hn' (by omega) (by omega)
    · split
      · exact XT.leaveS hR hR1 hwt hn' h.rows h.wait h.now ⟨h3, h4⟩ ⟨h5, h6⟩
      · exact (XT.ask (x := { x with pairs := x.pairs ++ [(m.key, m.value)] }) h.rows h.wait h.now hwt hn' ⟨h3, h4⟩ ⟨h5, h6⟩).1
theorem XT.tickS (hR : ∀ r ∈ rows, r.length = R) (hR1 : 1 ≤ R) (hwt : 1 ≤ wt ∧ wt ≤ 1024) (hn' : n + 1 ≤ 1073741824) (h : XT rows R wt n x) : XT rows R wt (n + 1) x.tickS.1 := by
  have hnow := h.now
  have hw1 : IntKind.i64.wrap (x.now + 1) = x.now + 1 := wrap_small (by omega) (by omega)
  unfold XS.tickS
  rw [hw1]
  split
  · rename_i hb
    obtain ⟨h1, h2, h3, h4, h5, h6⟩ := h.busy hb.1
    exact XT.leaveS (x := { x with now := x.now + 1 }) hR hR1 hwt hn' h.rows h.wait ⟨by show 0 ≤ x.now + 1; omega, by show x.now + 1 ≤ _; omega⟩ ⟨h3, h4⟩ ⟨h5, h6⟩
  · rename_i hb
    refine ⟨h.rows, h.wait, ⟨by show 0 ≤ x.now + 1; omega, by show x.now + 1 ≤ _; omega⟩, fun hbu => ?_⟩
    obtain ⟨h1, h2, h3, h4, h5, h6⟩ := h.busy hbu
    have : x.now + 1 ≠ x.due := fun he => hb ⟨hbu, he⟩
    exact ⟨by show x.now + 1 < x.due; omega, by show x.due ≤ x.now + 1 + wt; omega, h3, h4, h5, h6⟩
end

/-- How many questions are still to come. -/
def XS.togo (x : XS) (R : Nat) : Nat := (x.left.length - 1) + R * (x.rows.length - x.part.toNat - 1)
/-- d ticks till the owner of now is left, and k owners behind it. -/
structure XAt (x : XS) (R : Nat) (d : Int) (k : Nat) : Prop where
  busy : x.busy = true
  due : x.due = x.now + d
  togo : x.togo R = k

section
variable {rows : List (List Int)} {R : Nat} {wt n : Int} {x : XS}
theorem XAt.of (h : XT rows R wt n x) (hb : x.busy = true) : ∃ d k, XAt x R d k ∧ 1 ≤ d ∧ d ≤ wt ∧ k + 1 ≤ R * rows.length := by
  obtain ⟨h1, h2, h3, h4, h5, h6⟩ := h.busy hb
  refine ⟨x.due - x.now, _, ⟨hb, by omega, rfl⟩, by omega, by omega, ?_⟩
  unfold XS.togo
  rw [h.rows]
  obtain ⟨m, hm⟩ : ∃ m : Nat, x.part = m := ⟨x.part.toNat, by omega⟩
  rw [hm, Int.toNat_natCast]
  obtain ⟨j, hj⟩ : ∃ j, rows.length = j + 1 := ⟨rows.length - 1, by omega⟩
  rw [hj]
  have : R * (j + 1 - m - 1) ≤ R * j := Nat.mul_le_mul_left _ (by omega)
  rw [Nat.mul_add]
  omega
/-- A tick: the three cases. -/
theorem XAt.tick (hR : ∀ r ∈ rows, r.length = R) (hR1 : 1 ≤ R) (hwt : 1 ≤ wt ∧ wt ≤ 1024) (hn' : n + 1 ≤ 1073741824) (h : XT rows R wt n x) {d : Int} {k : Nat} (ha : XAt x R d k) (hd : 1 ≤ d) :
    (1 < d ∧ XAt x.tickS.1 R (d - 1) k ∧ x.tickS = ({ x with now := x.now + 1 }, [])) ∨
    (d = 1 ∧ 1 ≤ k ∧ XAt x.tickS.1 R wt (k - 1) ∧ x.tickS = ({ x with now := x.now + 1 } : XS).leaveS ∧ x.tickS.2.length = 1 ∧ x.tickS.1.all = x.all ∧ ((x.tickS.1.part = x.part ∧ x.tickS.1.missing = x.missing) ∨ (x.tickS.1.part = x.part + 1 ∧ x.tickS.1.missing = x.missing ++ [x.part]))) ∨
    (d = 1 ∧ k = 0 ∧ x.tickS.1.busy = false ∧ x.tickS.2 = [] ∧ x.part + 1 = rows.length ∧ x.left.length = 1 ∧ x.tickS.1.ended = true ∧ x.tickS.1.lp = x.all ∧ x.tickS.1.lm = x.missing ++ [x.part]) := by
  have hnow := h.now
  have hw1 : IntKind.i64.wrap (x.now + 1) = x.now + 1 := wrap_small (by omega) (by omega)
  obtain ⟨h1, h2, h3, h4, h5, h6⟩ := h.busy ha.busy
  have hdue := ha.due
  by_cases h1d : 1 < d
  · left
    have ht : x.tickS = ({ x with now := x.now + 1 }, []) := by
      unfold XS.tickS
      rw [hw1, if_neg (by rintro ⟨_, he⟩; omega)]
    refine ⟨h1d, ?_, ht⟩
    rw [ht]
    exact ⟨ha.busy, by show x.due = x.now + 1 + (d - 1); omega, ha.togo⟩
  right
  have hd1 : d = 1 := by omega
  have ht : x.tickS = ({ x with now := x.now + 1 } : XS).leaveS := by
    unfold XS.tickS
    rw [hw1, if_pos ⟨ha.busy, by omega⟩]
  rw [ht]
  have hk := ha.togo
  unfold XS.togo at hk
  rw [h.rows] at hk
  obtain ⟨m, hm⟩ : ∃ m : Nat, x.part = m := ⟨x.part.toNat, by omega⟩
  rw [hm, Int.toNat_natCast] at hk
  have hml : m < rows.length := by omega
  unfold XS.leaveS
  cases hx : x.left.tail with
  | cons to rest =>
    left
    have hl : (to :: rest).length = x.left.length - 1 := by rw [← hx]; simp
    simp only [List.length_cons] at hl
    refine ⟨hd1, by omega, ?_, rfl, rfl, rfl, .inl ⟨rfl, rfl⟩⟩
    obtain ⟨_, hdue'⟩ := XT.ask (x := { x with now := x.now + 1, left := to :: rest }) (n := n + 1) (wt := wt) (R := R) (rows := rows) h.rows h.wait ⟨by show 0 ≤ x.now + 1; omega, by show x.now + 1 ≤ _; omega⟩ hwt hn' ⟨by simp, by show (to :: rest).length ≤ R; simp; omega⟩ ⟨h5, h6⟩
    refine ⟨ha.busy, hdue', ?_⟩
    show (to :: rest).length - 1 + R * (x.rows.length - x.part.toNat - 1) = k - 1
    rw [h.rows, hm, Int.toNat_natCast]
    simp only [List.length_cons]
    omega
  | nil =>
    have hl : x.left.length = 1 := by
      have : x.left.tail.length = 0 := by rw [hx]; rfl
      simp at this
      omega
    rw [hl] at hk
    show _ ∨ _
    by_cases hlast : x.part + 1 = rows.length
    · right
      have hk0 : k = 0 := by
        have e0 : rows.length - m - 1 = 0 := by omega
        rw [e0] at hk
        simp at hk
        exact hk.symm
      have htk : ({ x with now := x.now + 1, missing := x.missing ++ [x.part], left := [] } : XS).takeS (x.part + 1) = ({ x with now := x.now + 1, missing := x.missing ++ [x.part], left := [], part := x.part + 1, pairs := [], busy := false, ended := true, lj := x.job, lv := x.version, lp := x.all, lm := x.missing ++ [x.part] }, []) := by
        unfold XS.takeS
        rw [if_pos (by show x.part + 1 = x.rows.length; rw [h.rows]; exact hlast)]
      show _ ∧ _ ∧ (XS.takeS { x with now := x.now + 1, missing := x.missing ++ [x.part], left := [] } (x.part + 1)).1.busy = false ∧ _
      refine ⟨hd1, hk0, ?_⟩
      rw [htk]
      exact ⟨rfl, rfl, hlast, hl, rfl, rfl, rfl⟩
    · left
      have hm1 : m + 1 < rows.length := by omega
      have e := List.getElem?_eq_getElem hm1
      have hrl := hR _ (List.getElem_mem hm1)
      obtain ⟨to, rest, hrow⟩ : ∃ to rest, rows[m + 1] = to :: rest := by
        cases hx : rows[m + 1] with
        | nil => rw [hx] at hrl; simp at hrl; omega
        | cons to rest => exact ⟨to, rest, rfl⟩
      rw [hrow] at e hrl
      have htk : ({ x with now := x.now + 1, missing := x.missing ++ [x.part], left := [] } : XS).takeS (x.part + 1) =
          (({ x with now := x.now + 1, missing := x.missing ++ [x.part], part := x.part + 1, pairs := [], left := to :: rest } : XS).askS, [qMsg to { x with now := x.now + 1, missing := x.missing ++ [x.part], part := x.part + 1, pairs := [], left := to :: rest }]) := by
        unfold XS.takeS
        rw [if_neg (by show ¬ x.part + 1 = x.rows.length; rw [h.rows]; exact hlast)]
        have : (x.part + 1).toNat = m + 1 := by omega
        simp only [this, h.rows, e]
      obtain ⟨_, hdue'⟩ := XT.ask (x := { x with now := x.now + 1, missing := x.missing ++ [x.part], part := x.part + 1, pairs := [], left := to :: rest }) (n := n + 1) (wt := wt) (R := R) (rows := rows) h.rows h.wait ⟨by show 0 ≤ x.now + 1; omega, by show x.now + 1 ≤ _; omega⟩ hwt hn' ⟨by simp, by show (to :: rest).length ≤ R; omega⟩ ⟨by show 0 ≤ x.part + 1; omega, by show x.part + 1 < rows.length; omega⟩
      have e1 : rows.length - m - 1 = (rows.length - (m + 1) - 1) + 1 := by omega
      rw [e1, Nat.mul_add] at hk
      show _ ∧ _ ∧ XAt (XS.takeS { x with now := x.now + 1, missing := x.missing ++ [x.part], left := [] } (x.part + 1)).1 R wt (k - 1) ∧ _ ∧ (XS.takeS { x with now := x.now + 1, missing := x.missing ++ [x.part], left := [] } (x.part + 1)).2.length = 1 ∧ (XS.takeS { x with now := x.now + 1, missing := x.missing ++ [x.part], left := [] } (x.part + 1)).1.all = x.all ∧ (((XS.takeS { x with now := x.now + 1, missing := x.missing ++ [x.part], left := [] } (x.part + 1)).1.part = x.part ∧ (XS.takeS { x with now := x.now + 1, missing := x.missing ++ [x.part], left := [] } (x.part + 1)).1.missing = x.missing) ∨ ((XS.takeS { x with now := x.now + 1, missing := x.missing ++ [x.part], left := [] } (x.part + 1)).1.part = x.part + 1 ∧ (XS.takeS { x with now := x.now + 1, missing := x.missing ++ [x.part], left := [] } (x.part + 1)).1.missing = x.missing ++ [x.part]))
      rw [htk]
      refine ⟨hd1, by omega, ⟨ha.busy, hdue', ?_⟩, rfl, rfl, rfl, .inr ⟨rfl, rfl⟩⟩
      show (to :: rest).length - 1 + R * (x.rows.length - (x.part + 1).toNat - 1) = k - 1
      rw [h.rows, hrl]
      have : (x.part + 1).toNat = m + 1 := by omega
      rw [this]
      omega
end

end Go.Proofs.YtiggkhmopnhfaaaDoor
