/- Memory: what is read, what is stored, new variables. -/
import Derived.Test.YtemfpnlpnmglfaaA9
set_option linter.unusedVariables false
set_option linter.unusedSimpArgs false
namespace Go.Am
open Go Go.RowKit

theorem Env.get_cons (d i : Nat) (v : Ent) (e : Env) : Env.get ((d, v) :: e) i = if d = i then v else e.get i := by
  simp only [Env.get]
  by_cases h : d = i
  · subst h; simp
  · have : Nat.beq d i = false := by
      cases hb : Nat.beq d i with
      | false => rfl
      | true => exact absurd (Nat.eq_of_beq_eq_true hb) h
    simp [this, h]

section
variable {κ : Kn}

theorem SRs.take : ∀ {l : List Slot} {vs : List Value} (n : Nat), SRs κ l vs → SRs κ (l.take n) (vs.take n)
  | [], vs, n, h => by simp only [SRs] at h; simp [h, SRs]
  | _ :: _, vs, 0, h => by simp [SRs]
  | y :: l, vs, n + 1, h => by
    obtain ⟨u, us, rfl, h1, h2⟩ := h
    simp only [List.take_succ_cons, SRs]
    exact ⟨u, _, rfl, h1, SRs.take n h2⟩

theorem SRs.drop : ∀ {l : List Slot} {vs : List Value} (n : Nat), SRs κ l vs → SRs κ (l.drop n) (vs.drop n)
  | [], vs, n, h => by simp only [SRs] at h; simp [h, SRs]
  | _ :: _, vs, 0, h => by simpa using h
  | y :: l, vs, n + 1, h => by
    obtain ⟨u, us, rfl, h1, h2⟩ := h
    simpa using SRs.drop n h2

theorem SRs.append : ∀ {l m : List Slot} {us vs : List Value}, SRs κ l us → SRs κ m vs → SRs κ (l ++ m) (us ++ vs)
  | [], m, us, vs, h, k => by simp only [SRs] at h; subst h; simpa using k
  | x :: l, m, us, vs, ⟨u, us', h1, h2, h3⟩, k => by subst h1; exact ⟨u, us' ++ vs, rfl, h2, SRs.append h3 k⟩

theorem SRs.vals : ∀ {l : List AV} {vs : List Value}, VRl κ l vs → SRs κ (l.map .val) vs
  | [], vs, h => by simp only [VRl] at h; subst h; rfl
  | x :: l, vs, h => by
    simp only [VRl] at h
    obtain ⟨u, us, rfl, h1, h2⟩ := h
    exact ⟨u, us, rfl, h1, SRs.vals h2⟩

theorem SRs.get : ∀ {l : List Slot} {vs : List Value} {i : Nat} {x : Slot}, SRs κ l vs → l[i]? = some x → ∃ v, vs[i]? = some v ∧ SR κ x v
  | [], _, i, x, _, h => by simp at h
  | y :: l, vs, 0, x, ⟨u, us, h1, h2, h3⟩, hx => by subst h1; simp at hx; subst hx; exact ⟨u, rfl, h2⟩
  | y :: l, vs, i + 1, x, ⟨u, us, h1, h2, h3⟩, hx => by subst h1; simpa using SRs.get h3 (by simpa using hx)

theorem putAt_SRs {l cs l' : List Slot} {vs us : List Value} {off : Nat} (hl : SRs κ l vs) (hc : SRs κ cs us) (h : putAt l off cs = some l') : off + us.length ≤ vs.length ∧ SRs κ l' (vs.take off ++ (us ++ vs.drop (off + us.length))) := by
  unfold putAt at h
  have e1 := hl.length
  have e2 := hc.length
  split at h
  · cases h
    refine ⟨by omega, (hl.take off).append (hc.append ?_)⟩
    rw [e2]
    exact hl.drop _
  · cases h

end

section
variable {P : Program} {C : Cfg} {κ : Kn} {B B' N : Nat} {s : St} {w : World} {e : Env} {a : Act} {β : Nat → Option Nat} {δ : List Nat}

theorem run_load_cell {p : Addr} {v : Value} (h : w.cell? p = some v) : (load p).run P w = .ok v w := by simp [h]

theorem loadAt_cells (hT : ∀ t, TyOK P C t) {t : TypeId} (hb : (C.ti t).k ≠ .bad) {p : Addr} {vs : List Value} (hlen : (C.ti t).isAgg = true → vs.length = (C.ti t).size) (hc : ∀ j v, vs[j]? = some v → w.cell? (p.add j) = some v) :
    ((C.ti t).isAgg = true → (Instr.loadAt t (.pointer (some p))).run P w = .ok (.agg vs.toArray) w) ∧ ((C.ti t).isAgg = false → ∀ v, vs = [v] → p.add 0 = p → (Instr.loadAt t (.pointer (some p))).run P w = .ok v w) := by
  have ha := isAgg_run (P := P) hT hb w
  have hs := run_sizeOf' (P := P) hT hb w
  constructor
  · intro hag
    have hl := run_loadCells_list (P := P) w p vs hc
    rw [hlen hag] at hl
    simp [Instr.loadAt, Instr.sureAddr, loadVar, ha, hag, hs, hl]
  · intro hag v hv hp
    have := hc 0 v (by rw [hv]; rfl)
    rw [hp] at this
    have hl := run_load_cell (P := P) this
    simp only [Instr.loadAt, Instr.sureAddr, loadVar, Sem.run_bind, Sem.run_pure, Result.andThen_ok, ha, hag]
    simpa using hl

theorem ofSlots_good (hT : ∀ t, TyOK P C t) {t : TypeId} {cs : List Slot} {sl : Slot} (h : ofSlots (C.ti t) (cs.take (C.ti t).size) = some sl) : (C.ti t).k ≠ .bad := fun hk => by
  have hs := (hT t).bad hk
  have ha : (C.ti t).isAgg = false := by simp [TI.isAgg, hk]
  rw [hs] at h
  simp [ofSlots, ha] at h

theorem ofCells_good (hT : ∀ t, TyOK P C t) {t : TypeId} {cs : List AV} {v : AV} (h : ofCells (C.ti t) (cs.take (C.ti t).size) = some v) : (C.ti t).k ≠ .bad := fun hk => by
  have hs := (hT t).bad hk
  have ha : (C.ti t).isAgg = false := by simp [TI.isAgg, hk]
  rw [hs] at h
  simp [ofCells, ha] at h

theorem loadSlots (hT : ∀ t, TyOK P C t) {t : TypeId} {b off : Nat} {cs : List Slot} {vs : List Value} (h : SRs κ cs vs) (ho : Ones vs) (hc : ∀ j v, vs[j]? = some v → w.cell? ⟨b, off + j, none⟩ = some v) {sl : Slot} (hs : ofSlots (C.ti t) (cs.take (C.ti t).size) = some sl) :
    ∃ z, (Instr.loadAt t (.pointer (some ⟨b, off, none⟩))).run P w = .ok z w ∧ SR κ sl z := by
  have hb := ofSlots_good hT hs
  have hc' : ∀ j v, (vs.take (C.ti t).size)[j]? = some v → w.cell? ((⟨b, off, none⟩ : Addr).add j) = some v := fun j v hj => by
    rw [add_plain]
    rw [List.getElem?_take] at hj
    split at hj
    · exact hc j v hj
    · cases hj
  have h' := h.take (C.ti t).size
  have ho' := ho.take (C.ti t).size
  unfold ofSlots at hs
  cases hag : (C.ti t).isAgg with
  | true =>
    rw [hag] at hs
    simp only [cond_true] at hs
    split at hs
    · rename_i l hl
      split at hs
      · rename_i hlen
        cases hs
        have hv := avs_sim h' hl
        refine ⟨_, (loadAt_cells (P := P) hT hb (fun _ => by rw [← hv.length]; exact hlen) hc').1 hag, ?_⟩
        simp only [SR, VR]
        exact ⟨_, hv, ho', rfl⟩
      · cases hs
    · cases hs
  | false =>
    rw [hag] at hs
    simp only [cond_false] at hs
    split at hs
    · rename_i x hx
      cases hs
      rw [hx] at h'
      obtain ⟨u, us, h1, h2, h3⟩ := h'
      simp only [SRs] at h3
      subst h3
      exact ⟨u, (loadAt_cells (P := P) hT hb (fun h => by rw [hag] at h; cases h) hc').2 hag u h1 (by rw [add_plain]; rfl), h2⟩
    · cases hs

theorem loadConst (hT : ∀ t, TyOK P C t) (hI : Inv C κ B s w) {t : TypeId} {p : Addr} (hp : p.spot = none) {cs : List AV} {vs : List Value} (h : VRl κ cs vs) (ho : Ones vs) (hh : Held κ p vs) {v : AV} (hs : ofCells (C.ti t) (cs.take (C.ti t).size) = some v) :
    ∃ z, (Instr.loadAt t (.pointer (some p))).run P w = .ok z w ∧ VR κ v z := by
  have hb := ofCells_good hT hs
  obtain ⟨b, off, sp⟩ := p
  simp only at hp
  subst hp
  have hc' : ∀ j v, (vs.take (C.ti t).size)[j]? = some v → w.cell? ((⟨b, off, none⟩ : Addr).add j) = some v := fun j v hj => by
    rw [add_plain]
    exact hI.im _ _ _ (hh.take _ j v hj)
  rcases ofCells_VR (h.take (C.ti t).size) (ho.take _) hs with ⟨h1, h2, h3⟩ | ⟨h1, u, h2, h3⟩
  · exact ⟨_, (loadAt_cells (P := P) hT hb (fun _ => h2) hc').1 h1, h3⟩
  · exact ⟨u, (loadAt_cells (P := P) hT hb (fun h => by rw [h1] at h; cases h) hc').2 h1 u h2 (by rw [add_plain]; rfl), h3⟩

theorem var_cells {b : Nat} {cs : Array Value} {t : TypeId} (h : w.heap[b]? = some (.cells cs t (0, 0))) (off : Nat) : ∀ j v, (cs.toList.drop off)[j]? = some v → w.cell? ⟨b, off + j, none⟩ = some v := fun j v hj => by
  rw [cell_of_row w b (off + j) cs t (0, 0) h]
  rw [List.getElem?_drop] at hj
  simpa using hj

theorem load_sim (hT : ∀ t, TyOK P C t) (hG : GlobOK C κ) (hf : FrameR κ B' w N e a β δ) (hI : Inv C κ B s w) {t : TypeId} {r : Bool} {rt : Root} {x : Operand} {sl : Slot} (h : ldS (C.ti t) r rt (Operand.tmp? x) e s (ent C e x) = some sl) :
    ∃ z, (Instr.loadAt t (a.eval x)).run P w = .ok z w ∧ SR κ sl z := by
  unfold ldS at h
  cases hr : rootOk rt (Operand.tmp? x) (ent C e x) with
  | false => rw [hr] at h; cases h
  | true =>
    rw [hr] at h
    simp only [cond_true] at h
    split at h
    · rename_i cs he
      obtain ⟨d, rfl, hd⟩ := ent_var he
      have := hf.ent d
      rw [hd] at this
      obtain ⟨b, cs', t', h1, h2, h3, h4, h5⟩ := this
      have h2' : a.eval (.tmp d) = .pointer (some ⟨b, 0, none⟩) := h2
      rw [h2']
      exact loadSlots hT h4 h5 (by simpa using var_cells h3 0) h
    · rename_i g d off he
      have hp := ent_ptr hf he
      split at h
      · rename_i cs hd
        cases g with
        | false => cases h
        | true =>
          obtain ⟨b, hb, hv⟩ := hp.1 rfl
          have := hf.ent d
          rw [hd] at this
          obtain ⟨b', cs', t', h1, h2, h3, h4, h5⟩ := this
          rw [hb] at h1
          cases h1
          rw [hv]
          exact loadSlots hT (h4.drop off) (h5.drop off) (var_cells h3 off) h
      · cases h
    · rename_i v he
      have hv := ent_s hf hG he
      unfold ldV at h
      split at h
      · rename_i l
        split at h
        · rename_i v' hv'
          cases h
          simp only [SR, VR] at hv
          obtain ⟨p, vs, hp, h1, h2, h3, h4⟩ := hv
          rw [hp]
          exact loadConst hT hI h1 h4 h3 h2 hv'
        · cases h
      · rename_i loc off
        cases r with
        | true => cases h
        | false =>
          simp only [cond_false] at h
          split at h
          · rename_i cs hl
            simp only [SR, VR] at hv
            obtain ⟨b, hb, hv⟩ := hv
            obtain ⟨b', o, h1, _, h3, h4⟩ := hI.locs _ _ hl
            rw [hb] at h1
            cases h1
            obtain ⟨cs', t', rfl, h5, h6⟩ := h4
            rw [hv]
            exact loadSlots hT (h5.drop off) (h6.drop off) (var_cells h3 off) h
          · cases h
      · cases h
    · cases h

/-! ### stores -/

theorem box_sim (hT : ∀ t, TyOK P C t) {t : TypeId} {x : Slot} {u : Value} {cs : List Slot} (hx : SR κ x u) (h : boxCells (C.ti t) x = some cs) : (C.ti t).k ≠ .bad ∧ u.cells.size = (C.ti t).size ∧ SRs κ cs u.cells.toList ∧ Ones u.cells.toList := by
  unfold boxCells at h
  cases hag : (C.ti t).isAgg with
  | true =>
    rw [hag] at h
    simp only [cond_true] at h
    split at h
    · rename_i l
      split at h
      · rename_i hl
        cases h
        simp only [SR, VR] at hx
        obtain ⟨vs, h1, h2, rfl⟩ := hx
        refine ⟨fun hk => by simp [TI.isAgg, hk] at hag, by rw [← hl, h1.length]; simp [Value.cells], by simpa [Value.cells] using SRs.vals h1, by simpa [Value.cells] using h2⟩
      · cases h
    · cases h
  | false =>
    rw [hag] at h
    simp only [cond_false] at h
    cases hc : x.cellOk && (C.ti t).isGood with
    | false => rw [hc] at h; cases h
    | true =>
      rw [hc] at h
      simp only [cond_true] at h
      cases h
      rw [Bool.and_eq_true] at hc
      have hb : (C.ti t).k ≠ .bad := fun hk => by simp [TI.isGood, hk] at hc
      obtain ⟨_, _, _, _, _, _, _, _, _, _, hone⟩ := (hT t).info hb
      have hsz := (hone hag).2
      have hu : u.cells = #[u] ∧ u.oneCell' = true := by
        cases x with
        | und => simp [Slot.cellOk] at hc
        | no => simp [Slot.cellOk] at hc
        | own k e l => obtain ⟨⟨a, n, c, rfl, _⟩, _⟩ := hx; exact ⟨rfl, rfl⟩
        | full l => obtain ⟨a, n, rfl, _⟩ := hx; exact ⟨rfl, rfl⟩
        | val v =>
          cases v <;> simp [Slot.cellOk] at hc <;> simp only [SR, VR] at hx <;> first
            | (subst hx; exact ⟨rfl, rfl⟩)
            | (obtain ⟨_, rfl, _⟩ := hx; exact ⟨rfl, rfl⟩)
            | (obtain ⟨_, _, rfl⟩ := hx; exact ⟨rfl, rfl⟩)
            | (obtain ⟨_, _, rfl, _⟩ := hx; exact ⟨rfl, rfl⟩)
            | (obtain ⟨_, _, _, _, _, rfl, _⟩ := hx; exact ⟨rfl, rfl⟩)
      rw [hu.1]
      exact ⟨hb, hsz.symm, ⟨u, [], rfl, hx, rfl⟩, fun v hv => by simp at hv; subst hv; exact hu.2⟩

/-- a store into a block, from an offset on -/
theorem storeAt_run (hT : ∀ t, TyOK P C t) {t : TypeId} (hb : (C.ti t).k ≠ .bad) {b off : Nat} {cur : Array Value} {t' : TypeId} (hg : w.heap[b]? = some (.cells cur t' (0, 0))) {u : Value} (hu : u.cells.size = (C.ti t).size) (ho : Ones u.cells.toList) (hle : off + u.cells.toList.length ≤ cur.toList.length) :
    (Instr.storeAt t (.pointer (some ⟨b, off, none⟩)) u).run P w = .ok () (w.setRow b (cur.toList.take off ++ (u.cells.toList ++ cur.toList.drop (off + u.cells.toList.length))).toArray) := by
  have hs := run_sizeOf' (P := P) hT hb w
  have := run_storeCells_at P b off t' u.cells.toList 0 cur w hg (by simpa using hle) (fun v hv => ho v hv)
  simp only [Nat.add_zero, List.append_assoc] at this
  simp [Instr.storeAt, Instr.sureAddr, storeVar, hs, hu, this]

/-! ### a world in which one block was written -/

theorem Inv.setPriv (h : Inv C κ B s w) {b : Nat} (hw : ¬ Wr κ b) (hi : ∀ o, κ.im b o = none) (cs : Array Value) : Inv C κ B s (w.setRow b cs) := by
  refine ⟨fun b' o v k => ?_, fun l x hx => ?_, h.locn, fun k L hk => ?_, h.tokn, h.locinj, h.tokinj, h.loctok, h.locim⟩
  · have : b' ≠ b := fun e => by subst e; rw [hi o] at k; cases k
    rw [cell_setRow_other w b cs ⟨b', o, none⟩ this]
    exact h.im b' o v k
  · obtain ⟨b', o, h1, h2, h3, h4⟩ := h.locs l x hx
    have : b' ≠ b := fun e => by subst e; exact hw (.inl ⟨l, h1⟩)
    exact ⟨b', o, h1, h2, by rw [setRow_other w b b' cs this]; exact h3, h4⟩
  · obtain ⟨e, v, xs, g, h1, h2, h3, h4⟩ := h.toks k L hk
    have hne : g ≠ b := fun e' => by subst e'; exact hw (.inr ⟨k, L, e, v, h1, h3⟩)
    refine ⟨e, v, xs, g, h1, ?_, h3, h4⟩
    refine h2.kept (row := some b) ⟨rfl, rfl, rfl, by simp, fun i hi hne => setRow_other w b i cs (fun e => hne (by rw [e]))⟩ (.inr ?_)
    rw [h3]
    intro e
    cases e
    exact hne rfl

end
end Go.Am
