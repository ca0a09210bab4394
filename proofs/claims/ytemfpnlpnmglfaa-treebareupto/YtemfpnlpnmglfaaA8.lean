/- New blocks of memory; struct and slice literals; functions and interfaces. -/
import Derived.Test.YtemfpnlpnmglfaaA7
set_option linter.unusedVariables false
set_option linter.unusedSimpArgs false
namespace Go.Am
open Go Go.RowKit

/-! ### new blocks -/

def Kn.block (κ : Kn) (n : Nat) (vs : List Value) : Kn := { κ with im := fun b o => if b = n then vs[o]? else κ.im b o }

section
variable {C : Cfg} {κ : Kn} {B : Nat} {s : St} {w w' : World}

theorem Inv.grown (h : Inv C κ B s w) (hg : w.grownBy w' none) : Inv C κ B s w' := by
  refine ⟨fun b o v k => hg.cell (h.im b o v k) (by simp), fun l x hx => ?_, h.locn, fun k L hk => ?_, h.tokn, h.locinj, h.tokinj, h.loctok, h.locim⟩
  · obtain ⟨b, o, h1, h2, h3, h4⟩ := h.locs l x hx
    exact ⟨b, o, h1, h2, by rw [hg.block b (Array.getElem?_eq_some_iff.1 h3).1 (by simp)]; exact h3, h4⟩
  · obtain ⟨e, v, xs, g, h1, h2, h3⟩ := h.toks k L hk
    exact ⟨e, v, xs, g, h1, h2.kept hg (by cases v.ownBlock <;> simp), h3⟩

theorem Mv.grown (κ : Kn) (hg : w.grownBy w' none) : Mv κ κ w w' :=
  ⟨.refl κ, hg.os, hg.tape, hg.output, hg.size, fun b hb _ => hg.block b hb (by simp), fun _ h => .inl h, fun _ _ _ h _ _ => h⟩

theorem Inv.const_le (h : Inv C κ B s w) {n : Nat} (hn : w.heap.size ≤ n) (vs : List Value) : LE κ (κ.block n vs) :=
  ⟨fun b o v k => by
    have : b ≠ n := by have := h.im_lt k; omega
    simp only [Kn.block, this, if_false]
    exact k, fun _ _ k => k, fun _ L _ v k => ⟨L, v, k, Nat.le_refl _, fun _ => rfl⟩⟩

theorem Inv.const (h : Inv C κ B s w) {n : Nat} (hn : w.heap.size ≤ n) {vs : List Value} (hc : ∀ j u, vs[j]? = some u → w'.cell? ⟨n, j, none⟩ = some u) (hg : w.grownBy w' none) : Inv C (κ.block n vs) B s w' := by
  have hle := h.const_le hn vs
  have h' := h.grown hg
  refine ⟨fun b o v k => ?_, fun l x hx => ?_, h'.locn, fun k L hk => ?_, h'.tokn, h'.locinj, h'.tokinj, h'.loctok, fun l b o hl => ?_⟩
  · simp only [Kn.block] at k
    split at k
    · rename_i e; subst e; exact hc o v k
    · exact h'.im b o v k
  · obtain ⟨b, o, h1, h2, h3, h4⟩ := h'.locs l x hx
    exact ⟨b, o, h1, h2, h3, h4.mono hle⟩
  · obtain ⟨e, v, xs, g, h1, h2, h3, h4, h5, h6, h7⟩ := h'.toks k L hk
    obtain ⟨e2, v2, xs2, g2, k1, k2, k3, _⟩ := h.toks k L hk
    rw [h1] at k1
    cases k1
    rw [h3] at k3
    cases k3
    have hg2 : g ≠ n := by have := (k2.lt g h3).2; omega
    refine ⟨e, v, xs, g, h1, h2, h3, h4, h5, fun j u hj => hle.im _ _ _ (h6 j u hj), fun o ho => ?_⟩
    simp only [Kn.block, hg2, if_false]
    exact h7 o ho
  · have : b ≠ n := by
      have hlt := h.locn l b hl
      obtain ⟨b', o', h1, _, h3, _⟩ := h.locs l _ (List.getElem?_eq_getElem hlt)
      have hl' : κ.loc l = some b := hl
      rw [hl'] at h1; cases h1
      have := (Array.getElem?_eq_some_iff.1 h3).1
      omega
    simp only [Kn.block, this, if_false]
    exact h.locim l b o hl

theorem Inv.const_Mv (h : Inv C κ B s w) {n : Nat} (hn : w.heap.size ≤ n) (vs : List Value) (hg : w.grownBy w' none) : Mv κ (κ.block n vs) w w' :=
  ⟨h.const_le hn vs, hg.os, hg.tape, hg.output, hg.size, fun b hb _ => hg.block b hb (by simp), fun _ h => .inl h, fun b o v k hb _ => by
    have : b ≠ n := by omega
    simpa only [Kn.block, this, if_false] using k⟩

theorem Kn.block_held (κ : Kn) (n : Nat) (vs : List Value) : Held (κ.block n vs) ⟨n, 0, none⟩ vs := fun j u hu => by
  simpa [Kn.block] using hu

/-- a block of constants -/
theorem Inv.constBlock (h : Inv C κ B s w) (vs : List Value) (t : TypeId) : Inv C (κ.block w.heap.size vs) B s (w.alloc (.cells vs.toArray t)) ∧ Mv κ (κ.block w.heap.size vs) w (w.alloc (.cells vs.toArray t)) := by
  have hg := World.grownBy_alloc w (.cells vs.toArray t) none
  refine ⟨h.const (Nat.le_refl _) (fun j u hj => ?_) hg, h.const_Mv (Nat.le_refl _) vs hg⟩
  rw [cell_of_row _ w.heap.size j _ t (0, 0) (heap_alloc_new w _)]
  simpa using hj

end

section ops
variable {P : Program} {C : Cfg} {κ : Kn}

/-! ### functions, interfaces -/

theorem avs_sim : ∀ {xs : List Slot} {vs : List Value} {l : List AV}, SRs κ xs vs → avs xs = some l → VRl κ l vs
  | [], vs, l, h, hl => by simp only [avs] at hl; cases hl; simpa only [VRl, SRs] using h
  | x :: xs, vs, l, h, hl => by
    obtain ⟨u, us, rfl, h1, h2⟩ := h
    simp only [avs] at hl
    split at hl
    · rename_i v hv
      split at hl
      · rename_i l' hl'
        cases hl
        exact ⟨u, us, rfl, h1.av hv, avs_sim h2 hl'⟩
      · cases hl
    · cases hl

theorem fn_sim {f : FuncId} {xs : List Slot} {vs : List Value} {sl : Slot} (h : SRs κ xs vs) (hs : fnS f xs = some sl) : SR κ sl (.func (.func f) #[] vs.toArray) := by
  unfold fnS at hs
  split at hs
  · rename_i l hl
    cases hs
    simp only [SR, VR]
    exact ⟨vs, avs_sim h hl, rfl⟩
  · cases hs

theorem ifc_sim (hT : ∀ t, TyOK P C t) {t : TypeId} (hk1 : (C.ti t).k ≠ .bad) (hk2 : (C.ti t).k ≠ .iface) (w : World) {x sl : Slot} {u : Value} (hx : SR κ x u) (h : ifcS t x = some sl) : ∃ z, (Instr.makeInterface t u).run P w = .ok z w ∧ SR κ sl z := by
  unfold ifcS at h
  split at h
  · rename_i v hv
    cases h
    refine ⟨.iface t u, ?_, by simp only [SR, VR]; exact ⟨u, hx.av hv, rfl⟩⟩
    have hK := (hT t).kind
    cases hk : (C.ti t).k <;> rw [hk] at hK <;> simp only [KOk] at hK
    case bad => exact absurd hk hk1
    case iface => exact absurd hk hk2
    all_goals
      first
        | simp [Instr.makeInterface, run_underlying hK]
        | (obtain ⟨_, hK⟩ := hK; simp [Instr.makeInterface, run_underlying hK])
        | (obtain ⟨_, hK, _⟩ := hK; simp [Instr.makeInterface, run_underlying hK])
        | (obtain ⟨_, _, _, hK⟩ := hK; simp [Instr.makeInterface, run_underlying hK])
  · cases h

/-! ### struct literals -/

theorem setAt_VRl {l cs l' : List AV} {vs us : List Value} {off : Nat} (hl : VRl κ l vs) (hc : VRl κ cs us) (h : setAt l off cs = some l') : off + us.length ≤ vs.length ∧ VRl κ l' (vs.take off ++ (us ++ vs.drop (off + us.length))) := by
  unfold setAt at h
  have e1 := hl.length
  have e2 := hc.length
  split at h
  · rename_i hle
    cases h
    refine ⟨by omega, VRl.append.2 ⟨_, _, rfl, hl.take off, VRl.append.2 ⟨_, _, rfl, hc, ?_⟩⟩⟩
    rw [e2]
    exact hl.drop _
  · cases h

theorem fold_set (vs us : List Value) (off : Nat) (h : off + us.length ≤ vs.length) :
    us.toArray.zipIdx.foldl (fun cs (x : Value × Nat) => cs.setIfInBounds (off + x.2) x.1) vs.toArray = (vs.take off ++ (us ++ vs.drop (off + us.length))).toArray := by
  obtain ⟨g1, g2⟩ := Great.foldl_set off us 0 vs.toArray
  rw [← Array.foldl_toList, Array.toList_zipIdx]
  apply Array.ext_getElem?
  intro k
  rw [g2 k]
  simp only [Nat.add_zero, List.size_toArray, List.getElem?_toArray]
  by_cases h1 : k < off
  · rw [if_neg (by omega), List.getElem?_append_left (by simp; omega), List.getElem?_take_of_lt h1]
  · rw [List.getElem?_append_right (by simp; omega), List.length_take, Nat.min_eq_left (by omega)]
    by_cases h2 : k < off + us.length
    · rw [if_pos ⟨by omega, h2, by omega⟩, List.getElem?_append_left (by omega)]
    · rw [if_neg (by omega), List.getElem?_append_right (by omega), List.getElem?_drop]
      congr 1
      omega

def PartsR (κ : Kn) (pl : Nat → Option (Nat × Nat)) : List (Nat × Nat × Slot) → List (Nat × Value) → Prop
  | [], ps => ps = []
  | (off, size, x) :: r, ps => ∃ i u us, ps = (i, u) :: us ∧ pl i = some (off, size) ∧ SR κ x u ∧ PartsR κ pl r us

theorem fill_sim (pl : Nat → Option (Nat × Nat)) : ∀ {ps : List (Nat × Nat × Slot)} {parts : List (Nat × Value)} {l l' : List AV} {vs : List Value}, PartsR κ pl ps parts → VRl κ l vs → Ones vs → fillS l ps = some l' →
    ∃ vs', Instr.fill pl vs.toArray parts = some vs'.toArray ∧ VRl κ l' vs' ∧ Ones vs'
  | [], parts, l, l', vs, hp, hl, ho, h => by
    simp only [PartsR] at hp
    subst hp
    simp only [fillS] at h
    cases h
    exact ⟨vs, rfl, hl, ho⟩
  | (off, size, x) :: r, parts, l, l', vs, hp, hl, ho, h => by
    obtain ⟨i, u, us, rfl, h1, h2, h3⟩ := hp
    simp only [fillS] at h
    split at h
    · rename_i v hv
      split at h
      · rename_i hs
        split at h
        · rename_i l1 hl1
          have hu := h2.av hv
          obtain ⟨e1, e2⟩ := setAt_VRl hl hu.cells hl1
          have hones := hu.ones hs.2
          have hsz : u.cells.size = size := by rw [hu.size]; exact hs.1
          obtain ⟨vs', k1, k2, k3⟩ := fill_sim pl h3 e2 ((ho.take off).append (hones.append (ho.drop _))) h
          refine ⟨vs', ?_, k2, k3⟩
          unfold Instr.fill
          simp only [h1]
          have e1' : off + u.cells.size ≤ vs.length := by simpa using e1
          rw [if_neg (by simp [hsz]; omega)]
          rw [← k1]
          congr 1
          have := fold_set vs u.cells.toList off (by simpa using e1')
          simpa using this
        · cases h
      · cases h
    · cases h

/-- the parts' places -/
theorem places_sim (hT : ∀ t, TyOK P C t) {e : Env} {ev : Operand → Value} (hev : ∀ x, SR κ (opnd C e x) (ev x)) {t : TypeId} {pl : Nat → Option (Nat × Nat)}
    (hpl : ∀ i off size, size ≠ 0 → (match (C.ti t).k with
      | .struct fs => (match fs[i]? with | some (off, ft) => some (off, (C.ti ft).size) | none => none)
      | .array _ et => some (i * (C.ti et).size, (C.ti et).size)
      | _ => none) = some (off, size) → pl i = some (off, size)) : ∀ {ps : List (Nat × Operand)} {l : List (Nat × Nat × Slot)}, places C e (C.ti t) ps = some l → PartsR κ pl l (ps.map fun (i, x) => (i, ev x))
  | [], l, h => by simp only [places] at h; cases h; rfl
  | (i, x) :: r, l, h => by
    simp only [places] at h
    split at h
    · rename_i off size hs
      cases h0 : Nat.beq size 0 with
      | true => rw [h0] at h; cases h
      | false =>
        rw [h0] at h
        simp only [cond_false] at h
        split at h
        · rename_i l' hl'
          cases h
          exact ⟨i, ev x, _, rfl, hpl i off size (by intro e; subst e; cases h0) hs, hev x, places_sim hT hev hpl hl'⟩
        · cases h
    · cases h

theorem size_info (hT : ∀ t, TyOK P C t) {t : TypeId} (h : (C.ti t).size ≠ 0) {i : TypeInfo} (hi : P.info? t = some i) : i.size = (C.ti t).size := by
  obtain ⟨i', z, h1, h2, _⟩ := (hT t).info (nbad hT h)
  rw [hi] at h1
  cases h1
  exact h2

theorem build_sim (hT : ∀ t, TyOK P C t) {e : Env} {ev : Operand → Value} (hev : ∀ x, SR κ (opnd C e x) (ev x)) {t : TypeId} {ps : Array (Nat × Operand)} {l : List (Nat × Nat × Slot)} {sl : Slot} (hp : places C e (C.ti t) ps.toList = some l) (h : buildS (C.ti t).zero l = some sl) (hk : ∃ fs, (C.ti t).k = .struct fs ∨ ∃ n et, (C.ti t).k = .array n et ∧ (C.ti et).size ≠ 0) (w : World) :
    ∃ z, (Instr.build t (ps.map fun (i, x) => (i, ev x))).run P w = .ok z w ∧ SR κ sl z := by
  have hb : (C.ti t).k ≠ .bad := by rcases hk with ⟨fs, h | ⟨n, et, h, _⟩⟩ <;> rw [h] <;> simp
  obtain ⟨i, z, h1, h2, h3, h4, h5, h6, h7, _⟩ := (hT t).info hb
  have hK := (hT t).kind
  unfold buildS at h
  split at h
  · rename_i l' hl'
    cases h
    have hparts : (ps.map fun (i, x) => (i, ev x)).toList = ps.toList.map fun (i, x) => (i, ev x) := by simp
    rcases hk with ⟨fs, hk | ⟨n, et, hk, hne⟩⟩
    · rw [hk] at hK
      obtain ⟨fields, hf1, hf2⟩ := hK
      have hfl := (hT t).flds fields hf1 hb
      obtain ⟨places, hpl⟩ : ∃ places, fields.toList.mapM (fun f => (P.info? f.type).map fun i => (f.offset, i.size)) = some places ∧ ∀ (i off size : Nat), size ≠ 0 → (match fs[i]? with | some (off, ft) => some (off, (C.ti ft).size) | none => none) = some (off, size) → places[i]? = some (off, size) := by
        rw [← hf2]
        clear hf1 hf2 hk
        revert hfl
        generalize fields.toList = fl
        intro hfl
        induction fl with
        | nil => exact ⟨[], rfl, by intro i off size _ h; simp at h⟩
        | cons f fl ih =>
          obtain ⟨pl, hp1, hp2⟩ := ih (fun g hg => hfl g (List.mem_cons_of_mem _ hg))
          obtain ⟨i, hi⟩ := Option.isSome_iff_exists.1 (hfl f List.mem_cons_self)
          refine ⟨(f.offset, i.size) :: pl, by simp [List.mapM_cons, hi, hp1], fun j off size h0 hj => ?_⟩
          cases j with
          | zero =>
            simp at hj
            obtain ⟨rfl, rfl⟩ := hj
            simp [size_info hT h0 hi]
          | succ j => simpa using hp2 j off size h0 (by simpa using hj)
      obtain ⟨vs', k1, k2, k3⟩ := fill_sim (fun i => places.toArray[i]?) (places_sim (P := P) hT hev (t := t) (pl := fun i => places.toArray[i]?) (by rw [hk]; intro i off size h0 hs; simpa using hpl.2 i off size h0 hs) hp) (h6 κ) h7 hl'
      have hbt : P.built t (ps.map fun (i, x) => (i, ev x)).toList = some vs'.toArray := by
        unfold Program.built
        simp only [h1, hf1, h4, hpl.1]
        rw [hparts]
        simpa using k1
      exact ⟨_, run_build w t _ _ hbt, by simp only [SR, VR]; exact ⟨vs', k2, k3, rfl⟩⟩
    · rw [hk] at hK; simp only [KOk] at hK
      obtain ⟨ie, ze, g1, g2, _⟩ := (hT et).info (nbad hT hne)
      obtain ⟨vs', k1, k2, k3⟩ := fill_sim (fun i => some (i * ie.size, ie.size)) (places_sim (P := P) hT hev (t := t) (pl := fun i => some (i * ie.size, ie.size)) (by rw [hk]; intro i off size h0 hs; rw [g2]; exact hs) hp) (h6 κ) h7 hl'
      have hbt : P.built t (ps.map fun (i, x) => (i, ev x)).toList = some vs'.toArray := by
        unfold Program.built
        simp only [h1, hK, h4, g1]
        rw [hparts]
        simpa using k1
      exact ⟨_, run_build w t _ _ hbt, by simp only [SR, VR]; exact ⟨vs', k2, k3, rfl⟩⟩
  · cases h

/-! ### slice literals -/

theorem bsl_sim {size : Nat} : ∀ {xs : List Slot} {l : List AV} {vs : List Value}, SRs κ xs vs → bslS size xs = some l → (∀ x ∈ l, x.cells.length = size) ∧ l.length = vs.length ∧ (∀ v ∈ vs, v.cells.size = size) ∧ VRl κ (flat l) (vs.flatMap fun v => v.cells.toList) ∧ Ones (vs.flatMap fun v => v.cells.toList)
  | [], l, vs, h, hl => by
    simp only [bslS] at hl
    cases hl
    simp only [SRs] at h
    subst h
    exact ⟨by simp, rfl, by simp, by simp [flat, VRl], by intro u hu; simp at hu⟩
  | x :: xs, l, vs, h, hl => by
    obtain ⟨u, us, rfl, h1, h2⟩ := h
    simp only [bslS] at hl
    split at hl
    · rename_i v hv
      split at hl
      · rename_i hs
        split at hl
        · rename_i l' hl'
          cases hl
          obtain ⟨k1, k2, k3, k4, k5⟩ := bsl_sim h2 hl'
          have hu := h1.av hv
          refine ⟨fun y hy => ?_, by simp [k2], fun y hy => ?_, ?_, ?_⟩
          · rcases List.mem_cons.1 hy with rfl | hy
            · exact hs.1
            · exact k1 y hy
          · rcases List.mem_cons.1 hy with rfl | hy
            · rw [hu.size]; exact hs.1
            · exact k3 y hy
          · simp only [flat, List.flatMap_cons] at k4 ⊢
            exact VRl.append.2 ⟨_, _, rfl, hu.cells, k4⟩
          · simp only [List.flatMap_cons]
            exact (hu.ones hs.2).append k5
        · cases hl
      · cases hl
    · cases hl

theorem inOrder_zip {ev : Operand → Value} : ∀ {n : Nat} {ps : List (Nat × Operand)}, inOrder n ps = true → ps.map (fun (i, x) => (i, ev x)) = ((ps.map fun p => ev p.2).zipIdx n).map fun x => (x.2, x.1)
  | n, [], _ => rfl
  | n, (i, x) :: r, h => by
    simp only [inOrder, Bool.and_eq_true] at h
    have := Nat.eq_of_beq_eq_true h.1
    subst this
    simp [inOrder_zip h.2]

theorem buildSlice_sim (hT : ∀ t, TyOK P C t) {B : Nat} {s : St} {w : World} (hI : Inv C κ B s w) {e : Env} {ev : Operand → Value} (hev : ∀ x, SR κ (opnd C e x) (ev x)) {t et : TypeId} (hk : (C.ti t).k = .slice et) (h0 : (C.ti et).size ≠ 0) {n : Nat} {ps : Array (Nat × Operand)} (hin : inOrder 0 ps.toList = true) (hn : ps.toList.length = n) (hsm : n * (C.ti et).size ≤ 16777216) {sl : Slot} (h : bslF (C.ti et).size (ps.toList.map fun p => opnd C e p.2) = some sl) :
    ∃ z κ' w', (Instr.buildSlice t n (ps.map fun (i, x) => (i, ev x))).run P w = .ok z w' ∧ Mv κ κ' w w' ∧ Inv C κ' B s w' ∧ SR κ' sl z := by
  have hK := (hT t).kind
  rw [hk] at hK; simp only [KOk] at hK
  obtain ⟨ie, ze, g1, g2, g3, g4, g5, _⟩ := (hT et).info (nbad hT h0)
  unfold bslF at h
  split at h
  · rename_i l hl
    cases h
    have hsr : SRs κ (ps.toList.map fun p => opnd C e p.2) (ps.toList.map fun p => ev p.2) := by
      clear hin hn hsm hl
      induction ps.toList with
      | nil => rfl
      | cons p r ih => exact ⟨_, _, rfl, hev p.2, ih⟩
    obtain ⟨k1, k2, k3, k4, k5⟩ := bsl_sim hsr hl
    have hlen : l.length = n := by rw [k2]; simpa using hn
    obtain ⟨hI', hM⟩ := hI.constBlock ((ps.toList.map fun p => ev p.2).flatMap fun v => v.cells.toList) et
    refine ⟨.slice (some ⟨w.heap.size, 0, none⟩) n n, _, _, ?_, hM, hI', _, _, rfl, hlen, Nat.le_refl _, fun _ => rfl, (C.ti et).size, _, k1, Kn.block_held _ _ _, k5, VRl.mono hM.le _ _ k4⟩
    have hparts : (ps.map fun (i, x) => (i, ev x)).toList = ((ps.toList.map fun p => ev p.2).zipIdx 0).map fun x => (x.2, x.1) := by
      rw [Array.toList_map]
      exact inOrder_zip hin
    by_cases hz : n * ie.size = 0
    · have hn0 : n = 0 := by
        rcases Nat.mul_eq_zero.1 hz with h | h
        · exact h
        · rw [g2] at h; exact absurd h h0
      subst hn0
      have hps : ps.toList = [] := List.length_eq_zero_iff.1 hn
      have hps' : ps = #[] := Array.toList_inj.1 hps
      subst hps'
      have hr : Array.range 0 = #[] := Array.eq_empty_of_size_eq_zero (by simp)
      simp [Instr.buildSlice, run_underlying hK, sizeOf, typeInfo, g1, newRow, Instr.fill, hr]
    · refine run_buildSlice w t et n _ _ ie ze hK g1 g4 (by rw [g2]; omega) hz ?_
      rw [hparts, g2]
      refine Great.fill_whole (by omega) _ _ k3 ?_
      rw [Array.size_map, Array.size_range, ← hn]
      simp
  · cases h

end ops
end Go.Am
