/- Functions: what the abstract machine computes, the program does. -/
import Derived.Test.YtemfpnlpnmglfaaA19
import Derived.RangeFuncLeaves
set_option linter.unusedVariables false
set_option linter.unusedSimpArgs false
namespace Go.Am
open Go Go.RowKit

structure CodeOK (P : Program) (C : Cfg) : Prop where
  ty : ∀ t, TyOK P C t
  code : ∀ f fn, C.code f = some fn → P.funcs[f]? = some fn ∧ (fn.name == "runtime.NumGoroutine") = false ∧ ∀ b, fn.body = some b → okCode C f fn.ntmps b = true
  ext : ∀ f g l v, C.ext f = some g → g l = some v → ∀ κ B s w vs, Inv C κ B s w → GlobOK C κ → B ≤ w.heap.size → VRl κ l vs → Called P f vs.toArray w (CPost C κ B w (.ret (.val v)) s)

section
variable {P : Program} {C : Cfg} {κ κ' κ0 : Kn} {B B' N : Nat} {s s' : St} {w w' w0 : World} {e : Env} {a : Act} {β : Nat → Option Nat} {δ : List Nat} {cl : CallFn} {F : Fence}

/-! ### results -/

theorem asAddr_load {t : TypeId} {v z : Value} (h : (Instr.loadAt t v).run P w = .ok z w) : (do loadVar t (← asAddr v) : Sem Value).run P w = .ok z w := by
  unfold Instr.loadAt Instr.sureAddr at h
  split at h
  · simpa [asAddr] using h
  · simp [Sem.run_bind, Result.andThen] at h

def resG (tmps : Array Value) : ResultVar → Sem Value
  | .tmp t => pure (tmps.getD t undef)
  | .cell x t => do loadVar t (← asAddr (tmps.getD x undef))

theorem results_eq (fn : Func) (tmps : Array Value) : results fn tmps = (do
    let vs ← fn.results.mapM (resG tmps)
    pure (if h : vs.size = 1 then vs[0] else .tuple vs)) := by
  unfold results
  congr 2

theorem resVar_sim (hT : ∀ t, TyOK P C t) (hG : GlobOK C κ) (hf : FrameR κ B' w N e a β δ) (hI : Inv C κ B s w) (r : ResultVar) {sl : Slot} (h : resVar C e s r = some sl) :
    ∃ z, (resG a.tmps r).run P w = .ok z w ∧ SR κ sl z := by
  cases r with
  | tmp t =>
    simp only [resVar] at h
    cases h
    exact ⟨_, rfl, Ent.slot_SR (hf.ent t)⟩
  | cell x t =>
    simp only [resVar] at h
    have h' : ldS (C.ti t) false .free (Operand.tmp? (.tmp x)) e s (ent C e (.tmp x)) = some sl := h
    obtain ⟨z, h1, h2⟩ := load_sim hT hG hf hI h'
    exact ⟨z, asAddr_load h1, h2⟩

theorem resList_sim (hT : ∀ t, TyOK P C t) (hG : GlobOK C κ) (hf : FrameR κ B' w N e a β δ) (hI : Inv C κ B s w) : ∀ (rs : List ResultVar) {l : List AV}, avsO (rs.map (resVar C e s)) = some l →
    ∃ vs, (rs.mapM (resG a.tmps)).run P w = .ok vs w ∧ VRl κ l vs
  | [], l, h => by
    simp only [List.map_nil, avsO] at h
    cases h
    exact ⟨[], by simp, rfl⟩
  | r :: rs, l, h => by
    simp only [List.map_cons, avsO] at h
    split at h
    · rename_i sl hsl
      split at h
      · rename_i x hx
        split at h
        · rename_i l' hl'
          cases h
          obtain ⟨z, h1, h2⟩ := resVar_sim hT hG hf hI r hsl
          obtain ⟨vs, h3, h4⟩ := resList_sim hT hG hf hI rs hl'
          refine ⟨z :: vs, ?_, z, vs, rfl, h2.av hx, h4⟩
          simp only [List.mapM_cons, Sem.run_bind, h1, Result.andThen_ok, h3, Sem.run_pure]
        · cases h
      · cases h
    · cases h

theorem resS_sim (hT : ∀ t, TyOK P C t) (hG : GlobOK C κ) (hf : FrameR κ B' w N e a β δ) (hI : Inv C κ B s w) {fn : Func} {sl : Slot} (h : resS C e s fn.results.toList = some sl) : ∃ z, (results fn a.tmps).run P w = .ok z w ∧ SR κ sl z := by
  rw [results_eq]
  simp only [Array.mapM_eq_mapM_toList]
  generalize fn.results.toList = rs at h
  unfold resS at h
  split at h
  · rename_i r
    obtain ⟨z, h1, h2⟩ := resVar_sim hT hG hf hI r h
    refine ⟨z, ?_, h2⟩
    simp only [List.mapM_cons, List.mapM_nil, Sem.run_bind, Sem.run_map, h1, Result.andThen_ok, Sem.run_pure]
    simp
  · rename_i hne
    unfold tupS at h
    split at h
    · rename_i l hl
      cases h
      obtain ⟨vs, h1, h2⟩ := resList_sim hT hG hf hI rs hl
      refine ⟨.tuple vs.toArray, ?_, ?_⟩
      · simp only [Sem.run_bind, Sem.run_map, h1, Result.andThen_ok, Sem.run_pure]
        have hlen : vs.length = rs.length := by
          rw [← h2.length]
          have : ∀ (os : List (Option Slot)) (l : List AV), avsO os = some l → l.length = os.length := by
            intro os
            induction os with
            | nil => intro l h; simp only [avsO] at h; cases h; rfl
            | cons o os ih =>
              intro l h
              simp only [avsO] at h
              split at h
              · split at h
                · split at h
                  · rename_i hl'; cases h; simp [ih _ hl']
                  · cases h
                · cases h
              · cases h
          simpa using this _ _ hl
        have hn1 : vs.length ≠ 1 := by
          rw [hlen]
          intro h1
          obtain ⟨r, hr⟩ := List.length_eq_one_iff.1 h1
          exact hne r hr
        simp [hn1]
      · simp only [SR, VR]
        exact ⟨vs, h2, rfl⟩
    · cases h

/-! ### leaving -/

theorem Ok.undefer {r : Nat} {δ : List Nat} (h : Ok C κ0 w0 B N e s a w κ β (r :: δ)) : Ok C κ0 w0 B N e s { a with defers := δ.map mark } (w.putObj r (.deferred none)) κ β δ := by
  obtain ⟨h1, h2, h3, h4, h5⟩ := h.fr.dpriv r List.mem_cons_self
  have hlt := (Array.getElem?_eq_some_iff.1 h2).1
  have hg := grownBy_putObj w r (.deferred none)
  have hoth : ∀ b, b ≠ r → (w.putObj r (.deferred none)).heap[b]? = w.heap[b]? := fun b hb => World.putObj_heap_other hb
  have hnd := List.nodup_cons.1 h.fr.dnodup
  refine ⟨⟨h.mv.le, h.mv.os, h.mv.tape, h.mv.output, by simpa using h.mv.size, fun b hb hw => ?_, h.mv.newW, h.mv.newim⟩, ⟨fun b o v k => ?_, fun l x hx => ?_, h.inv.locn, fun k L hk => ?_, h.inv.tokn, h.inv.locinj, h.inv.tokinj, h.inv.loctok, h.inv.locim⟩, ⟨h.fr.size, fun i => ?_, h.fr.ptr, fun i b hb => ?_, h.fr.inj, rfl, fun x hx => ?_, hnd.2⟩⟩
  · rw [hoth b (by omega)]; exact h.mv.frame b hb hw
  · have : b ≠ r := fun e => by subst e; rw [h4 o] at k; cases k
    exact hg.cell (h.inv.im b o v k) (fun e => this (by cases e; rfl))
  · obtain ⟨b, o, k1, k2, k3, k4⟩ := h.inv.locs l x hx
    have : b ≠ r := fun e => by subst e; exact h3 (.inl ⟨l, k1⟩)
    exact ⟨b, o, k1, k2, by rw [hoth b this]; exact k3, k4⟩
  · obtain ⟨e, v, xs, g, k1, k2, k3, k4⟩ := h.inv.toks k L hk
    refine ⟨e, v, xs, g, k1, k2.kept hg (.inr fun e' => ?_), k3, k4⟩
    exact h3 (.inr ⟨k, L, e, v, k1, e'⟩)
  · have := h.fr.ent i
    cases hx : e.get i with
    | none => trivial
    | s v => rw [hx] at this; exact this
    | ptr g d off => rw [hx] at this; exact this
    | var cs =>
      rw [hx] at this
      obtain ⟨b, cs', t, k1, k2, k3, k4⟩ := this
      have : b ≠ r := fun e => by subst e; exact h5 i k1
      exact ⟨b, cs', t, k1, k2, by rw [hoth b this]; exact k3, k4⟩
  · obtain ⟨k1, k2, k3⟩ := h.fr.priv i b hb
    exact ⟨k1, by simpa using k2, k3⟩
  · obtain ⟨k1, k2, k3⟩ := h.fr.dpriv x (List.mem_cons_of_mem _ hx)
    have : x ≠ r := fun e => by subst e; exact hnd.1 hx
    exact ⟨k1, by rw [hoth x this]; exact k2, k3⟩

theorem leaves_sim {fn : Func} {R : Ending → World → Prop} {u : FrameMode} (hu : u ≠ .run) {tmps : Array Value} (fin : ∀ a w, Ok C κ0 w0 B N e s a w κ β [] → a.tmps = tmps → LeavesIn Fence.wide 0 P fn tmps R [] u w) :
    ∀ (δ : List Nat) (a : Act) (w : World), Ok C κ0 w0 B N e s a w κ β δ → a.tmps = tmps → LeavesInM Fence.wide 0 P fn tmps R (δ.map mark) u w
  | [], a, w, h, ht => fin a w h ht
  | r :: δ, a, w, h, ht => by
    obtain ⟨h1, h2, _⟩ := h.fr.dpriv r List.mem_cons_self
    exact ⟨hu, .inl ⟨r, _, rfl, run_takeDeferred h2, leaves_sim hu fin δ _ _ h.undefer ht⟩⟩

/-! ### the arguments -/

theorem argE_get : ∀ (n : Nat) (l : List AV) (i : Nat), (argE n l).get i = if n ≤ i then (match l[i - n]? with | some v => .s (.val v) | none => .none) else .none
  | n, [], i => by simp [argE, Env.get]
  | n, v :: l, i => by
    rw [argE, Env.get_cons, argE_get (n + 1) l i]
    by_cases h : n = i
    · subst h; simp
    · rw [if_neg h]
      by_cases h2 : n ≤ i
      · rw [if_pos h2, if_pos (by omega)]
        have : i - n = (i - (n + 1)) + 1 := by omega
        rw [this, List.getElem?_cons_succ]
      · rw [if_neg h2, if_neg (by omega)]

theorem start_ok (hI : Inv C κ B s w) {l : List AV} {vs : List Value} (hv : VRl κ l vs) {N : Nat} (hN : l.length ≤ N) : Ok C κ w B N (argE 0 l) s { tmps := vs.toArray ++ Array.replicate (N - vs.toArray.size) undef, defers := [] } w κ (fun _ => none) [] := by
  have hlen := hv.length
  refine ⟨.refl _ _, hI, ⟨by simp; omega, fun i => ?_, fun i g d off hi => ?_, fun i b hb => (by cases hb), fun i j b hb => (by cases hb), rfl, by simp, .nil⟩⟩
  · rw [argE_get]
    simp only [Nat.zero_le, if_true, Nat.sub_zero]
    cases hl : l[i]? with
    | none => trivial
    | some v =>
      obtain ⟨u, hu, hr⟩ := hv.get hl
      have hi : i < vs.length := (List.getElem?_eq_some_iff.1 hu).1
      show VR κ v _
      rw [Array.getD_eq_getD_getElem?, Array.getElem?_append_left (by simpa using hi)]
      simp only [List.getElem?_toArray, hu, Option.getD_some]
      exact hr
  · rw [argE_get] at hi
    simp only [Nat.zero_le, if_true, Nat.sub_zero] at hi
    cases hl : l[i]? <;> rw [hl] at hi <;> cases hi

end
end Go.Am
