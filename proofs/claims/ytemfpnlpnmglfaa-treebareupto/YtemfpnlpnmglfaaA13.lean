/- The operations that turn the state, but for calls. -/
import Derived.Test.YtemfpnlpnmglfaaA12
import Derived.Laws.OwnMore
set_option linter.unusedVariables false
set_option linter.unusedSimpArgs false
namespace Go.Am
open Go Go.RowKit

section
variable {P : Program} {C : Cfg} {κ κ' κ0 : Kn} {B B' N : Nat} {s s' : St} {w w' w0 : World} {e : Env} {a : Act} {β : Nat → Option Nat} {δ : List Nat}

theorem VRl.of_get : ∀ {l : List AV} {vs : List Value}, l.length = vs.length → (∀ (i : Nat) x v, l[i]? = some x → vs[i]? = some v → VR κ x v) → VRl κ l vs
  | [], vs, h, _ => by simp only [VRl]; exact List.length_eq_zero_iff.1 h.symm
  | x :: l, [], h, _ => by simp at h
  | x :: l, v :: vs, h, k => ⟨v, vs, rfl, k 0 x v rfl rfl, VRl.of_get (by simpa using h) (fun i x v h1 h2 => k (i + 1) x v (by simpa using h1) (by simpa using h2))⟩

theorem flat_replicate_get {z : AV} {sz : Nat} (h : z.cells.length = sz) (h0 : 0 < sz) : ∀ (n i : Nat), i < n * sz → (flat (List.replicate n z))[i]? = z.cells[i % sz]?
  | 0, i, hi => by omega
  | n + 1, i, hi => by
    rw [List.replicate_succ]
    simp only [flat, List.flatMap_cons]
    by_cases hlt : i < sz
    · rw [List.getElem?_append_left (by omega), Nat.mod_eq_of_lt hlt]
    · rw [List.getElem?_append_right (by omega), h]
      have := flat_replicate_get h h0 n (i - sz) (by rw [Nat.add_mul] at hi; omega)
      simp only [flat] at this
      rw [this, ← Nat.mod_eq_sub_mod (by omega)]

theorem makeS_sim (hT : ∀ t, TyOK P C t) (hI : Inv C κ B s w) (hB : B ≤ w.heap.size) {t et : TypeId} (hk : (C.ti t).k = .slice et) {l c : Slot} {u v : Value} (hl : SR κ l u) (hc : SR κ c v) {sl : Slot} (h : makeS et (C.ti et) s l c = some (sl, s')) :
    ∃ z κ' w', (Instr.makeSlice t u v).run P w = .ok z w' ∧ Mv κ κ' w w' ∧ Inv C κ' B s' w' ∧ SR κ' sl z := by
  have hK := (hT t).kind
  rw [hk] at hK; simp only [KOk] at hK
  unfold makeS at h
  split at h
  · rename_i a b
    split at h
    · rename_i hcond
      obtain ⟨h1, h2, h3, h4, h5⟩ := hcond
      split at h
      · rename_i z hz
        cases h
        simp only [SR, VR] at hl hc
        subst hl; subst hc
        have hne0 : (C.ti et).size ≠ 0 := by omega
        obtain ⟨ie, ze, g1, g2, g3, g4, g5, g6, g7, g8, g9⟩ := (hT et).info (nbad hT hne0)
        have hby : (ie.bytes : Int) * b ≤ 281474976710656 := by rw [g3, Int.mul_comm]; omega
        have hr := run_make (P := P) w t et ie ze hK g1 g4 .i64 .i64 a b h1 h2 hby (by omega)
        rw [g2] at hr
        have hzc : z.cells = (C.ti et).zero ∧ z.cells.length = (C.ti et).size := by
          have hzl : (C.ti et).zero.length = (C.ti et).size := by rw [(g6 κ).length]; simpa using g5
          unfold ofCells at hz
          cases hag : (C.ti et).isAgg with
          | true =>
            rw [hag] at hz
            simp only [cond_true] at hz
            rw [if_pos hzl] at hz
            cases hz
            exact ⟨rfl, hzl⟩
          | false =>
            rw [hag] at hz
            simp only [cond_false] at hz
            split at hz
            · rename_i y hy
              cases hz
              have := one_cells (g6 κ) g7 z (by rw [hy]; exact List.mem_cons_self)
              rw [this, hy]
              rw [hy] at hzl
              exact ⟨rfl, hzl⟩
            · cases hz
        have hsize : (madeCells ze.cells (b.toNat * (C.ti et).size)).size = b.toNat * (C.ti et).size := by simp [madeCells]
        have hle : a.toNat * (C.ti et).size ≤ b.toNat * (C.ti et).size := Nat.mul_le_mul_right _ (by omega)
        have hget : ∀ (j : Nat) (x : Value), ((madeCells ze.cells (b.toNat * (C.ti et).size)).toList.take (a.toNat * (C.ti et).size))[j]? = some x → j < a.toNat * (C.ti et).size ∧ ze.cells.toList[j % (C.ti et).size]? = some x := fun j x hx => by
          rw [List.getElem?_take] at hx
          split at hx
          · rename_i hj
            refine ⟨hj, ?_⟩
            have hjb : j < b.toNat * (C.ti et).size := by omega
            have hm : j % (C.ti et).size < ze.cells.size := by rw [g5]; exact Nat.mod_lt _ h4
            simp [madeCells, hjb, g5] at hx
            rw [Array.getElem?_toList, Array.getElem?_eq_getElem hm, ← hx]
            simp [hm]
          · cases hx
        obtain ⟨κ', r1, r2, r3⟩ := hI.fresh_tok (l' := List.replicate a.toNat z) (et := et) (World.grownBy_alloc w (.cells (madeCells ze.cells (b.toNat * (C.ti et).size)) et) none) (v' := .slice (some ⟨w.heap.size, 0, none⟩) a.toNat b.toNat) (zs := (madeCells ze.cells (b.toNat * (C.ti et).size)).toList.take (a.toNat * (C.ti et).size)) rfl (Nat.le_refl _)
          ⟨by simp [hsize, hle], .inr ⟨w.heap.size, b.toNat, _, by simp, hB, heap_alloc_new w _, by simp; omega, by simp only [maxLen]; omega, hsize, by simp⟩⟩ h4
          (fun x hx => by
            obtain ⟨j, hj⟩ := List.mem_iff_getElem?.1 hx
            obtain ⟨_, h2⟩ := hget j x hj
            exact g7 x (List.mem_of_getElem? h2))
          (VRl.of_get (by rw [flat_length (sz := (C.ti et).size) (fun x hx => by rw [List.eq_of_mem_replicate hx]; exact hzc.2)]; simp [hsize, hle]) (fun i x y hx hy => by
            obtain ⟨hi, hy2⟩ := hget i y hy
            rw [flat_replicate_get hzc.2 h4 _ _ hi, hzc.1] at hx
            obtain ⟨y', hy3, hvr⟩ := (g6 κ).get hx
            rw [hy2] at hy3
            cases hy3
            exact hvr))
          (fun x hx => by rw [List.eq_of_mem_replicate hx]; exact hzc.2)
        simp only [List.length_replicate] at r2
        exact ⟨_, κ', _, hr, r1, r2, r3⟩
      · cases h
    · cases h
  · cases h

/-- what an operation does that turns the state -/
def Does (P : Program) (C : Cfg) (κ0 : Kn) (w0 : World) (B N : Nat) (dst : Option Tmp) (a : Act) (w : World) (m : Sem Next) (k : Ent → Env → St → Res) (R : Out × St) : Prop :=
  ∃ v w' x e' s', (m.run P w = .ok (.value v) w' ∨ (m.run P w = .ok .skip w' ∧ v = undef)) ∧ k x e' s' = some R ∧ OkX C κ0 w0 B N (put dst x e') s' (a.put dst v) w'

theorem Ok.value (h : Ok C κ0 w0 B N e s a w κ β δ) {dst : Option Tmp} (hd : ∀ d, dst = some d → d < N) {m : Sem Value} {k : Ent → Env → St → Res} {R : Out × St} {sl : Slot} {z : Value}
    (hr : m.run P w = .ok z w') (hm : Mv κ κ' w w') (hi : Inv C κ' B s' w') (hs : SR κ' sl z) (hk : k (.s sl) e s' = some R) : Does P C κ0 w0 B N dst a w (do pure (.value (← m))) k R :=
  ⟨z, w', .s sl, e, s', .inl (by simp only [Sem.run_bind, hr, Result.andThen_ok, Sem.run_pure]), hk, h.step hm hi dst hd (v := z) hs⟩

/-- a new variable, of whatever mode -/
theorem new_sim (h : Ok C κ0 w0 B N e s a w κ β δ) (hB : B ≤ w0.heap.size) {f : FuncId} {o : Oper} (hd : ∀ d, o.dst = some d → d < N) {cs : List Slot} {vs : List Value} (hc : SRs κ cs vs) (ho : Ones vs) {t : TypeId} {m : Sem Value}
    (hr : m.run P w = .ok (.pointer (some ⟨w.heap.size, 0, none⟩)) (w.alloc (.cells vs.toArray t))) {k : Ent → Env → St → Res} {R : Out × St} (hk : newS (dstMode C f o) cs (dstOld e o) s (fun v s => k v e s) = some R) :
    Does P C κ0 w0 B N o.dst a w (do pure (.value (← m))) k R := by
  have hBw : B ≤ w.heap.size := Nat.le_trans hB h.mv.size
  have hr' : (do pure (.value (← m)) : Sem Next).run P w = .ok (.value (.pointer (some ⟨w.heap.size, 0, none⟩))) (w.alloc (.cells vs.toArray t)) := by simp only [Sem.run_bind, hr, Result.andThen_ok, Sem.run_pure]
  cases hm : dstMode C f o with
  | var =>
    rw [hm] at hk
    simp only [newS] at hk
    cases hdst : o.dst with
    | none => simp [dstMode, hdst] at hm
    | some d =>
      simp only [dstOld, hdst] at hk
      cases hold : e.get d with
      | none =>
        rw [hold] at hk
        exact ⟨_, _, .var cs, e, s, .inl hr', hk, h.newVar (hd d hdst) hold hc ho t⟩
      | s v => rw [hold] at hk; cases hk
      | var c => rw [hold] at hk; cases hk
      | ptr g d' off => rw [hold] at hk; cases hk
  | con =>
    rw [hm] at hk
    simp only [newS] at hk
    cases hl : avs cs with
    | none => rw [hl] at hk; cases hk
    | some l =>
      rw [hl] at hk
      obtain ⟨hI', hM⟩ := h.inv.constBlock vs t
      refine ⟨_, _, _, e, s, .inl hr', hk, h.step hM hI' _ hd ?_⟩
      simp only [PutR, SR, VR]
      exact ⟨⟨w.heap.size, 0, none⟩, vs, rfl, rfl, Kn.block_held _ _ _, ho, VRl.mono hM.le _ _ (avs_sim hc hl)⟩
  | loc =>
    rw [hm] at hk
    simp only [newS] at hk
    obtain ⟨hI', hM⟩ := h.inv.addLoc hBw (x := .var cs) (o := .cells vs.toArray t) (by
      refine ⟨vs.toArray, t, rfl, ?_, by simpa using ho⟩
      have hle : LE κ (κ.addLoc s.locs.length w.heap.size) := ⟨fun _ _ _ k => k, fun l b hl => by
        have := h.inv.locn l b hl
        have : l ≠ s.locs.length := by omega
        simp only [Kn.addLoc, this, if_false]; exact hl, fun _ L _ v k => ⟨L, v, k, Nat.le_refl _, fun _ => rfl⟩⟩
      simpa using hc.mono hle)
    refine ⟨_, _, _, e, _, .inl hr', hk, h.step hM hI' _ hd ?_⟩
    simp only [PutR, SR, VR]
    exact ⟨w.heap.size, by simp [Kn.addLoc], rfl⟩

theorem store_sim (hT : ∀ t, TyOK P C t) (hG : GlobOK C κ) (h : Ok C κ0 w0 B N e s a w κ β δ) {dst : Option Tmp} (hd : ∀ d, dst = some d → d < N) {t : TypeId} {x y : Operand} {rt : Root} {cs : List Slot} (hc : boxCells (C.ti t) (opnd C e y) = some cs) {k : Ent → Env → St → Res} {R : Out × St}
    (hk : stS rt (Operand.tmp? x) e s (ent C e x) cs (fun e s => k (.s .no) e s) = some R) : Does P C κ0 w0 B N dst a w (do Instr.storeAt t (a.eval x) (a.eval y); pure .skip) k R := by
  obtain ⟨hb, hsz, hcs, ho⟩ := box_sim hT (opnd_SR h.fr hG y) hc
  have fin : ∀ {w' : World} {e' : Env} {s' : St}, (Instr.storeAt t (a.eval x) (a.eval y)).run P w = .ok () w' → k (.s .no) e' s' = some R → (∃ κ' β' δ', Ok C κ0 w0 B N e' s' a w' κ' β' δ') → Does P C κ0 w0 B N dst a w (do Instr.storeAt t (a.eval x) (a.eval y); pure .skip) k R := by
    intro w' e' s' h1 h2 ⟨κ', β', δ', h3⟩
    refine ⟨undef, w', .s .no, e', s', .inr ⟨by simp only [Sem.run_bind, h1, Result.andThen_ok, Sem.run_pure], rfl⟩, h2, h3.step (.refl _ _) h3.inv dst hd ?_⟩
    show SR κ' .no undef
    rfl
  unfold stS at hk
  cases hr : rootOk rt (Operand.tmp? x) (ent C e x) with
  | false => rw [hr] at hk; cases hk
  | true =>
    rw [hr] at hk
    simp only [cond_true] at hk
    have own : ∀ {d off b : Nat} {l l' : List Slot} {g : Bool}, e.get d = .var l → β d = some b → a.eval x = .pointer (some ⟨b, off, none⟩) → putAt l off cs = some l' → k (.s .no) ((d, .var l') :: e) s = some R → Does P C κ0 w0 B N dst a w (do Instr.storeAt t (a.eval x) (a.eval y); pure .skip) k R := by
      intro d off b l l' g hd' hb' hx hp hk'
      have := h.fr.ent d
      rw [hd'] at this
      obtain ⟨b2, cs2, t2, h1, h2, h3, h4, h5⟩ := this
      rw [hb'] at h1
      cases h1
      obtain ⟨hle, hnew⟩ := putAt_SRs h4 hcs hp
      have hrun := storeAt_run (P := P) hT hb h3 (off := off) hsz ho hle
      rw [← hx] at hrun
      exact fin hrun hk' ⟨κ, β, δ, h.setVar hd' hb' hnew (((h5.take _).append (ho.append (h5.drop _))))⟩
    split at hk
    · rename_i l he
      obtain ⟨d, rfl, hd'⟩ := ent_var he
      simp only [Operand.tmp?] at hk
      cases hp : putAt l 0 cs with
      | none => rw [hp] at hk; cases hk
      | some l' =>
        rw [hp] at hk
        have := h.fr.ent d
        rw [hd'] at this
        obtain ⟨b, cs', t', h1, h2, _⟩ := this
        exact own (g := true) hd' h1 h2 hp hk
    · rename_i g d off he
      have hp' := ent_ptr h.fr he
      split at hk
      · rename_i l hd'
        cases g with
        | false => cases hk
        | true =>
          obtain ⟨b, hb', hv⟩ := hp'.1 rfl
          simp only [cond_true] at hk
          cases hp : putAt l off cs with
          | none => rw [hp] at hk; cases hk
          | some l' =>
            rw [hp] at hk
            exact own (g := true) hd' hb' hv hp hk
      · cases hk
    · rename_i v he
      have hv := ent_s h.fr hG he
      unfold stV at hk
      split at hk
      · rename_i loc off
        split at hk
        · rename_i l hl
          cases hp : putAt l off cs with
          | none => rw [hp] at hk; cases hk
          | some l' =>
            rw [hp] at hk
            simp only [bindS] at hk
            simp only [SR, VR] at hv
            obtain ⟨b, hb', hx⟩ := hv
            obtain ⟨b2, o, h1, h2, h3, h4⟩ := h.inv.locs loc _ hl
            rw [hb'] at h1
            cases h1
            obtain ⟨cs2, t2, rfl, h5, h6⟩ := h4
            obtain ⟨hle, hnew⟩ := putAt_SRs h5 hcs hp
            have hrun := storeAt_run (P := P) hT hb h3 (off := off) hsz ho hle
            rw [← hx] at hrun
            obtain ⟨hI', hM⟩ := h.inv.setLoc (w' := w.setRow b (cs2.toList.take off ++ ((a.eval y).cells.toList ++ cs2.toList.drop (off + (a.eval y).cells.toList.length))).toArray) hb' (x := .var l') ⟨_, t2, rfl, by simpa using hnew, by simpa using ((h6.take _).append (ho.append (h6.drop _)))⟩ (setRow_heap w b cs2 _ t2 (0, 0) h3)
              ⟨rfl, rfl, rfl, by simp, fun i hi hne => setRow_other w b i _ (fun e => hne (by rw [e]))⟩
            exact fin hrun hk ⟨κ, β, δ, h.turn hM hI'⟩
        · cases hk
      · cases hk
    · cases hk

end
end Go.Am
