/- The operations that only compute, second part: structs, slices, addresses, strings, calls of len, max, min. -/
import Derived.Test.YtemfpnlpnmglfaaA4
set_option linter.unusedVariables false
set_option linter.unusedSimpArgs false
namespace Go.Am
open Go Go.RowKit

section ops
variable {P : Program} {C : Cfg} {κ : Kn}

/-! ### lists of cells -/

theorem VRl.get {κ : Kn} : ∀ {l : List AV} {vs : List Value} {i : Nat} {x : AV}, VRl κ l vs → l[i]? = some x → ∃ v, vs[i]? = some v ∧ VR κ x v
  | [], _, i, x, _, h => by simp at h
  | y :: l, vs, 0, x, h, hx => by
    simp only [VRl] at h
    obtain ⟨u, us, rfl, h1, h2⟩ := h
    simp at hx
    subst hx
    exact ⟨u, rfl, h1⟩
  | y :: l, vs, i + 1, x, h, hx => by
    simp only [VRl] at h
    obtain ⟨u, us, rfl, h1, h2⟩ := h
    simpa using VRl.get h2 (by simpa using hx)

theorem VRl.take {κ : Kn} : ∀ {l : List AV} {vs : List Value} (n : Nat), VRl κ l vs → VRl κ (l.take n) (vs.take n)
  | [], vs, n, h => by simp only [VRl] at h; simp [h, VRl]
  | _ :: _, vs, 0, h => by simp [VRl]
  | y :: l, vs, n + 1, h => by
    simp only [VRl] at h
    obtain ⟨u, us, rfl, h1, h2⟩ := h
    simp only [List.take_succ_cons, VRl]
    exact ⟨u, _, rfl, h1, VRl.take n h2⟩

theorem VRl.drop {κ : Kn} : ∀ {l : List AV} {vs : List Value} (n : Nat), VRl κ l vs → VRl κ (l.drop n) (vs.drop n)
  | [], vs, n, h => by simp only [VRl] at h; simp [h, VRl]
  | _ :: _, vs, 0, h => by simpa using h
  | y :: l, vs, n + 1, h => by
    simp only [VRl] at h
    obtain ⟨u, us, rfl, h1, h2⟩ := h
    simpa using VRl.drop n h2

theorem Ones.take {vs : List Value} (n : Nat) (h : Ones vs) : Ones (vs.take n) := fun u hu => h u (List.mem_of_mem_take hu)
theorem Ones.drop {vs : List Value} (n : Nat) (h : Ones vs) : Ones (vs.drop n) := fun u hu => h u (List.mem_of_mem_drop hu)
theorem Ones.append {a b : List Value} (h : Ones a) (k : Ones b) : Ones (a ++ b) := fun u hu => (List.mem_append.1 hu).elim (h u) (k u)

/-- a value's cells -/
theorem VR.cells {x : AV} {v : Value} (h : VR κ x v) : VRl κ x.cells v.cells.toList := by
  cases x <;> simp only [VR] at h
  case agg l => obtain ⟨vs, h1, h2, rfl⟩ := h; simpa [AV.cells, Value.cells] using h1
  case bool => subst h; exact ⟨_, [], rfl, rfl, rfl⟩
  case int => subst h; exact ⟨_, [], rfl, rfl, rfl⟩
  case str => obtain ⟨x, h1, rfl⟩ := h; exact ⟨_, [], rfl, ⟨x, h1, rfl⟩, rfl⟩
  case tup => obtain ⟨vs, h1, rfl⟩ := h; exact ⟨_, [], rfl, ⟨vs, h1, rfl⟩, rfl⟩
  case nils => subst h; exact ⟨_, [], rfl, rfl, rfl⟩
  case sl l => obtain ⟨a, n, c, sz, vs, rfl, h⟩ := h; exact ⟨_, [], rfl, by simp only [VR]; exact ⟨a, n, c, sz, vs, rfl, h⟩, rfl⟩
  case nilp => subst h; exact ⟨_, [], rfl, rfl, rfl⟩
  case cp l => obtain ⟨a, vs, rfl, h⟩ := h; exact ⟨_, [], rfl, by simp only [VR]; exact ⟨a, vs, rfl, h⟩, rfl⟩
  case vp => obtain ⟨b, h1, rfl⟩ := h; exact ⟨_, [], rfl, ⟨b, h1, rfl⟩, rfl⟩
  case nilf => subst h; exact ⟨_, [], rfl, rfl, rfl⟩
  case fn => obtain ⟨vs, h1, rfl⟩ := h; exact ⟨_, [], rfl, ⟨vs, h1, rfl⟩, rfl⟩
  case yld => obtain ⟨b, h1, rfl⟩ := h; exact ⟨_, [], rfl, ⟨b, h1, rfl⟩, rfl⟩
  case nilm => subst h; exact ⟨_, [], rfl, rfl, rfl⟩
  case mp => obtain ⟨b, h1, rfl⟩ := h; exact ⟨_, [], rfl, ⟨b, h1, rfl⟩, rfl⟩
  case nili => subst h; exact ⟨_, [], rfl, rfl, rfl⟩
  case ifc => obtain ⟨u, h1, rfl⟩ := h; exact ⟨_, [], rfl, ⟨u, h1, rfl⟩, rfl⟩

theorem VR.ones {x : AV} {v : Value} (h : VR κ x v) (hx : x.isTup = false) : Ones v.cells.toList := by
  cases x <;> simp only [VR] at h
  case agg l => obtain ⟨vs, h1, h2, rfl⟩ := h; simpa [Value.cells] using h2
  case tup => simp [AV.isTup] at hx
  all_goals
    first
      | (subst h; intro u hu; simp [Value.cells] at hu; subst hu; rfl)
      | (obtain ⟨_, _, rfl⟩ := h; intro u hu; simp [Value.cells] at hu; subst hu; rfl)
      | (obtain ⟨_, _, rfl, _⟩ := h; intro u hu; simp [Value.cells] at hu; subst hu; rfl)
      | (obtain ⟨_, _, _, _, _, rfl, _⟩ := h; intro u hu; simp [Value.cells] at hu; subst hu; rfl)

theorem VR.size {x : AV} {v : Value} (h : VR κ x v) : v.cells.size = x.cells.length := by
  have := h.cells.length
  simpa using this.symm

/-! ### pick, extract, interfaces -/

theorem pick_sim (w : World) {sc sa sb sl : Slot} {c a b : Value} (hc : SR κ sc c) (ha : SR κ sa a) (hb : SR κ sb b) (h : pickS sc sa sb = some sl) :
    ∃ z, (do pure (.value (if ← asBool c then a else b)) : Sem Next).run P w = .ok (.value z) w ∧ SR κ sl z := by
  unfold pickS at h
  split at h
  · rename_i t
    cases h
    simp only [SR, VR] at hc
    subst hc
    cases t
    · exact ⟨b, rfl, hb⟩
    · exact ⟨a, rfl, ha⟩
  · cases h

theorem extract_sim (w : World) {sx sl : Slot} {u : Value} {i : Nat} (hx : SR κ sx u) (h : extractS sx i = some sl) : ∃ z, (Instr.extract u i).run P w = .ok z w ∧ SR κ sl z := by
  unfold extractS at h
  split at h
  · rename_i l
    split at h
    · rename_i x hi
      cases h
      simp only [SR, VR] at hx
      obtain ⟨vs, h1, rfl⟩ := hx
      obtain ⟨v, hv, hr⟩ := h1.get hi
      exact ⟨v, by simp [Instr.extract, hv], hr⟩
    · cases h
  · cases h

theorem SR.list {s : Slot} {v : Value} {l : List AV} (h : SR κ s v) (hl : s.list? = some l) : ∃ a n c, v = .slice a n c ∧ l.length = n ∧ n ≤ c ∧ (∀ b, a = some b → SlA κ l b n c) ∧ (a = none → l = []) := by
  cases s <;> simp only [Slot.list?] at hl
  case und => cases hl
  case no => cases hl
  case val x =>
    cases x <;> simp only [] at hl
    case nils => cases hl; simp only [SR, VR] at h; subst h; exact ⟨none, 0, 0, rfl, rfl, Nat.le_refl _, (by intro b hb; cases hb), fun _ => rfl⟩
    case sl m =>
      cases hl
      obtain ⟨a, n, c, rfl, hs⟩ := VR_sl.1 h
      exact ⟨some a, n, c, rfl, hs.1, hs.2.1, (by intro b hb; cases hb; exact hs), by intro h; cases h⟩
    all_goals cases hl
  case own k e m =>
    cases hl
    obtain ⟨⟨a, n, c, rfl, hs⟩, _⟩ := h
    exact ⟨some a, n, c, rfl, hs.1, hs.2.1, (by intro b hb; cases hb; exact hs), by intro h; cases h⟩
  case full m =>
    cases hl
    obtain ⟨a, n, rfl, hs⟩ := h
    exact ⟨some a, n, n, rfl, hs.1, hs.2.1, (by intro b hb; cases hb; exact hs), by intro h; cases h⟩

theorem len_sim (hT : ∀ t, TyOK P C t) (t ty : TypeId) (w : World) {sx sl : Slot} {u : Value} (hx : SR κ sx u) (h : lenS (C.ti t) sx = some sl) :
    ∃ z, (Builtin.len_ #[t] ty #[u]).run P w = .ok z w ∧ SR κ sl z := by
  have hK := (hT t).kind
  unfold lenS at h
  split at h
  · rename_i hk
    rw [hk] at hK; simp only [KOk] at hK
    split at h
    · rename_i l
      cases h
      simp only [SR, VR] at hx
      obtain ⟨x, h1, rfl⟩ := hx
      have hl : l.length = x.size := by rw [← h1]; simp
      exact ⟨goInt x.size, by simp [Builtin.len_, run_underlying hK], by simp [SR, VR, goInt, hl]⟩
    · cases h
  · rename_i e hk
    rw [hk] at hK; simp only [KOk] at hK
    split at h
    · rename_i l hl
      cases h
      obtain ⟨a, n, c, rfl, h1, _⟩ := hx.list hl
      exact ⟨goInt n, by simp [Builtin.len_, run_underlying hK], by simp [SR, VR, goInt, h1]⟩
    · cases h
  · cases h

theorem max2_sim (w : World) {sx sy sl : Slot} {u v : Value} (hx : SR κ sx u) (hy : SR κ sy v) (h : max2 sx sy = some sl) : ∃ z, (Builtin.max2 u v).run P w = .ok z w ∧ SR κ sl z := by
  unfold max2 at h
  split at h
  · cases h
    simp only [SR, VR] at hx hy
    subst hx; subst hy
    exact ⟨_, rfl, by simp [SR, VR]⟩
  · cases h
theorem min2_sim (w : World) {sx sy sl : Slot} {u v : Value} (hx : SR κ sx u) (hy : SR κ sy v) (h : min2 sx sy = some sl) : ∃ z, (Builtin.min2 u v).run P w = .ok z w ∧ SR κ sl z := by
  unfold min2 at h
  split at h
  · cases h
    simp only [SR, VR] at hx hy
    subst hx; subst hy
    exact ⟨_, rfl, by simp [SR, VR]⟩
  · cases h

/-! ### addresses -/

theorem add_plain (b o j : Nat) : (⟨b, o, none⟩ : Addr).add j = ⟨b, o + j, none⟩ := by unfold Addr.add; split <;> simp_all

theorem Held.drop {a : Addr} {vs : List Value} (ha : a.spot = none) (h : Held κ a vs) (n : Nat) : Held κ (a.add n) (vs.drop n) := by
  obtain ⟨b, o, sp⟩ := a
  simp only at ha
  subst ha
  rw [add_plain]
  intro j u hu
  rw [List.getElem?_drop] at hu
  have := h (n + j) u hu
  simpa [Nat.add_assoc] using this

theorem faV_sim {off : Nat} {sx sl : Slot} {u : Value} (hx : SR κ sx u) (h : faV off sx = some sl) : ∃ a : Addr, u = .pointer (some a) ∧ SR κ sl (.pointer (some (a.add off))) := by
  unfold faV at h
  split at h
  · cases h
    simp only [SR, VR] at hx
    obtain ⟨a, vs, rfl, h1, h2, h3, h4⟩ := hx
    refine ⟨a, rfl, ?_⟩
    simp only [SR, VR]
    refine ⟨a.add off, vs.drop off, rfl, ?_, h2.drop h1 off, h3.drop off, h4.drop off⟩
    obtain ⟨b, o, sp⟩ := a
    simp only at h1
    subst h1
    rw [add_plain]
  · cases h
    simp only [SR, VR] at hx
    obtain ⟨b, h1, rfl⟩ := hx
    refine ⟨_, rfl, ?_⟩
    simp only [SR, VR]
    exact ⟨b, h1, by rw [add_plain]⟩
  · cases h

theorem nilCheckV_sim {sx sl : Slot} {u : Value} (hx : SR κ sx u) (h : nilCheckV sx = some sl) : ∃ a : Addr, u = .pointer (some a) ∧ SR κ sl u := by
  unfold nilCheckV at h
  split at h
  · cases h
    have hx' := hx
    simp only [SR, VR] at hx
    obtain ⟨a, vs, rfl, _⟩ := hx
    exact ⟨a, rfl, hx'⟩
  · cases h
    have hx' := hx
    simp only [SR, VR] at hx
    obtain ⟨b, h1, rfl⟩ := hx
    exact ⟨_, rfl, hx'⟩
  · cases h

/-- the field of a struct type -/
theorem field_of (hT : ∀ t, TyOK P C t) {t : TypeId} {f off : Nat} {ft : TypeId} (h : structField (C.ti t) f = some (off, ft)) : ∃ fields : Array Field, ∃ g, P.underlying t = some (.struct fields) ∧ fields[f]? = some g ∧ g.offset = off ∧ g.type = ft := by
  have hK := (hT t).kind
  unfold structField at h
  split at h
  · rename_i fs hk
    rw [hk] at hK
    obtain ⟨fields, h1, h2⟩ := hK
    rw [← h2, List.getElem?_map] at h
    obtain ⟨g, hg, he⟩ := Option.map_eq_some_iff.1 h
    injection he with e1 e2
    exact ⟨fields, g, h1, by simpa using hg, e1, e2⟩
  · cases h

theorem run_sizeOf' (hT : ∀ t, TyOK P C t) {t : TypeId} (hk : (C.ti t).k ≠ .bad) (w : World) : (sizeOf t).run P w = .ok (C.ti t).size w := by
  obtain ⟨i, z, h1, h2, _⟩ := (hT t).info hk
  simp [sizeOf, typeInfo, h1, h2]

theorem fieldAt_sim (hT : ∀ t, TyOK P C t) {t : TypeId} {f off : Nat} {ft : TypeId} (h : structField (C.ti t) f = some (off, ft)) (h0 : (C.ti ft).size ≠ 0) (hb : (C.ti ft).k ≠ .bad) (a : Addr) (w : World) :
    (Instr.fieldAt t (.pointer (some a)) f).run P w = .ok (.pointer (some (a.add off))) w := by
  obtain ⟨fields, g, h1, h2, h3, h4⟩ := field_of hT h
  have hs := run_sizeOf' (P := P) hT hb w
  subst h4; subst h3
  simp [Instr.fieldAt, run_underlying h1, h2, Instr.sureAddr, fieldPlace, hs, h0]

end ops
end Go.Am
