/- An activation on its way: what holds after each kind of step. -/
import Derived.Test.YtemfpnlpnmglfaaA10
set_option linter.unusedVariables false
set_option linter.unusedSimpArgs false
namespace Go.Am
open Go Go.RowKit

theorem get_put (d i : Nat) (v : Ent) (e : Env) : (put (some d) v e).get i = if d = i then v else e.get i := Env.get_cons d i v e

/-- what holds of an activation that began at w0 -/
structure Ok (C : Cfg) (κ0 : Kn) (w0 : World) (B N : Nat) (e : Env) (s : St) (a : Act) (w : World) (κ : Kn) (β : Nat → Option Nat) (δ : List Nat) : Prop where
  mv : Mv κ0 κ w0 w
  inv : Inv C κ B s w
  fr : FrameR κ w0.heap.size w N e a β δ

def OkX (C : Cfg) (κ0 : Kn) (w0 : World) (B N : Nat) (e : Env) (s : St) (a : Act) (w : World) : Prop := ∃ κ β δ, Ok C κ0 w0 B N e s a w κ β δ

section
variable {P : Program} {C : Cfg} {κ κ' κ0 : Kn} {B B' N : Nat} {s s' : St} {w w' w0 : World} {e : Env} {a : Act} {β : Nat → Option Nat} {δ : List Nat}

theorem FrameR.setE (h : FrameR κ B w N e a β δ) (dst : Option Tmp) (hd : ∀ d, dst = some d → d < N) {x : Ent} {v : Value} (hv : PutR κ e β x v) : FrameR κ B w N (put dst x e) (a.put dst v) β δ := by
  cases dst with
  | none => exact h
  | some d =>
    have hlt : d < a.tmps.size := by rw [h.size]; exact hd d rfl
    refine ⟨by simp [Act.put, h.size], fun i => ?_, fun i g d' off hi => ?_, h.priv, h.inj, h.defers, h.dpriv, h.dnodup⟩
    · rw [get_put]
      by_cases hi : d = i
      · subst hi
        simp only [if_true, Act.put, Array.getD_eq_getD_getElem?, Array.getElem?_setIfInBounds_self, hlt, if_true, Option.getD_some]
        cases x with
        | none => exact hv.elim
        | var cs => exact hv.elim
        | s sl => exact hv
        | ptr g d' off => exact hv.1
      · simp only [hi, if_false]
        have := h.ent i
        simp only [Act.put, Array.getD_eq_getD_getElem?, Array.getElem?_setIfInBounds_ne hi] at this ⊢
        exact this
    · rw [get_put] at hi ⊢
      by_cases hi' : d = i
      · rw [if_pos hi'] at hi
        subst hi
        by_cases hd' : d = d'
        · simp [hd']
        · simp only [hd', if_false]
          exact hv.2
      · rw [if_neg hi'] at hi
        by_cases hd' : d = d'
        · subst hd'
          rw [if_pos rfl]
          intro hx
          subst hx
          exact hv.elim
        · simp only [hd', if_false]
          exact h.ptr i g d' off hi

theorem Ok.step (h : Ok C κ0 w0 B N e s a w κ β δ) (hm : Mv κ κ' w w') (hi : Inv C κ' B s' w') (dst : Option Tmp) (hd : ∀ d, dst = some d → d < N) {x : Ent} {v : Value} (hv : PutR κ' e β x v) : OkX C κ0 w0 B N (put dst x e) s' (a.put dst v) w' :=
  ⟨κ', β, δ, h.mv.trans hm, hi, (h.fr.move hm).setE dst hd hv⟩

/-- only the state turned -/
theorem Ok.turn (h : Ok C κ0 w0 B N e s a w κ β δ) (hm : Mv κ κ' w w') (hi : Inv C κ' B s' w') : Ok C κ0 w0 B N e s' a w' κ' β δ :=
  ⟨h.mv.trans hm, hi, h.fr.move hm⟩

/-- a new variable of the activation's own -/
theorem Ok.newVar (h : Ok C κ0 w0 B N e s a w κ β δ) {d : Nat} (hd : d < N) (hold : e.get d = .none) {cs : List Slot} {vs : List Value} (hc : SRs κ cs vs) (ho : Ones vs) (t : TypeId) :
    OkX C κ0 w0 B N (put (some d) (.var cs) e) s (a.put (some d) (.pointer (some ⟨w.heap.size, 0, none⟩))) (w.alloc (.cells vs.toArray t)) := by
  have hg := World.grownBy_alloc w (.cells vs.toArray t) none
  have hm := Mv.grown κ hg
  have hf := h.fr.move hm
  have hlt : d < a.tmps.size := by rw [h.fr.size]; exact hd
  have hnw : ¬ Wr κ w.heap.size := fun hw => by have := (h.inv.wr_lt hw).2; omega
  refine ⟨κ, fun i => if i = d then some w.heap.size else β i, δ, h.mv.trans hm, h.inv.grown hg, ?_⟩
  refine ⟨by simp [Act.put, hf.size], fun i => ?_, fun i g d' off hi => ?_, fun i b hb => ?_, fun i j b hi hj => ?_, hf.defers, fun r hr => ?_, hf.dnodup⟩
  · rw [get_put]
    by_cases hi : d = i
    · subst hi
      simp only [if_true, Act.put, Array.getD_eq_getD_getElem?, Array.getElem?_setIfInBounds_self, hlt, if_true, Option.getD_some]
      exact ⟨w.heap.size, vs.toArray, t, by simp, rfl, heap_alloc_new w _, by simpa using hc, by simpa using ho⟩
    · simp only [hi, if_false]
      have := hf.ent i
      have hg2 : ((a.put (some d) (.pointer (some ⟨w.heap.size, 0, none⟩))).tmps.getD i undef) = a.tmps.getD i undef := by
        simp only [Act.put, Array.getD_eq_getD_getElem?, Array.getElem?_setIfInBounds_ne hi]
      rw [hg2]
      cases hx : e.get i with
      | none => trivial
      | s v => rw [hx] at this; exact this
      | var cs' =>
        rw [hx] at this
        obtain ⟨b, cs2, t2, h1, h2⟩ := this
        exact ⟨b, cs2, t2, by simp only [Ne.symm hi, if_false]; exact h1, h2⟩
      | ptr g d' off =>
        rw [hx] at this
        intro hgt
        obtain ⟨b, h1, h2⟩ := this hgt
        have hne : d' ≠ d := fun e' => by
          subst e'
          exact h.fr.ptr i g d' off hx hold
        exact ⟨b, by simp only [hne, if_false]; exact h1, h2⟩
  · rw [get_put] at hi ⊢
    by_cases hi' : d = i
    · rw [if_pos hi'] at hi; cases hi
    · rw [if_neg hi'] at hi
      by_cases hd' : d = d'
      · rw [if_pos hd']; simp
      · rw [if_neg hd']; exact hf.ptr i g d' off hi
  · by_cases hi : i = d
    · simp only [hi, if_true, Option.some.injEq] at hb
      subst hb
      refine ⟨h.mv.size, by simp, hnw, fun o => ?_⟩
      cases ho : κ.im w.heap.size o with
      | none => rfl
      | some v => have := h.inv.im_lt ho; omega
    · simp only [hi, if_false] at hb
      exact hf.priv i b hb
  · by_cases h1 : i = d
    · by_cases h2 : j = d
      · rw [h1, h2]
      · simp only [h1, if_true, Option.some.injEq] at hi
        simp only [h2, if_false] at hj
        have := (h.fr.priv j b hj).2.1
        omega
    · simp only [h1, if_false] at hi
      by_cases h2 : j = d
      · simp only [h2, if_true, Option.some.injEq] at hj
        have := (h.fr.priv i b hi).2.1
        omega
      · simp only [h2, if_false] at hj
        exact hf.inj i j b hi hj
  · obtain ⟨h1, h2, h3, h4, h5⟩ := hf.dpriv r hr
    refine ⟨h1, h2, h3, h4, fun i => ?_⟩
    by_cases hi : i = d
    · simp only [hi, if_true]
      intro he
      have hlt := (Array.getElem?_eq_some_iff.1 (h.fr.dpriv r hr).2.1).1
      simp only [Option.some.injEq] at he
      omega
    · simp only [hi, if_false]
      exact h5 i

/-- a store into a variable of the activation's own -/
theorem Ok.setVar (h : Ok C κ0 w0 B N e s a w κ β δ) {d b : Nat} {old cs : List Slot} (hd : e.get d = .var old) (hb : β d = some b) {vs : List Value} (hc : SRs κ cs vs) (ho : Ones vs) :
    Ok C κ0 w0 B N ((d, .var cs) :: e) s a (w.setRow b vs.toArray) κ β δ := by
  obtain ⟨hb1, hb2, hb3, hb4⟩ := h.fr.priv d b hb
  obtain ⟨b', cs', t', g1, g2, g3, _⟩ := (by have := h.fr.ent d; rw [hd] at this; exact this : EntR κ w β d (.var old) _)
  rw [hb] at g1
  cases g1
  refine ⟨⟨h.mv.le, h.mv.os, h.mv.tape, h.mv.output, by simpa using h.mv.size, fun x hx hw => ?_, h.mv.newW, h.mv.newim⟩, h.inv.setPriv hb3 hb4 _, ?_⟩
  · rw [setRow_other w b x _ (by omega)]
    exact h.mv.frame x hx hw
  · refine ⟨h.fr.size, fun i => ?_, fun i g d' off hi => ?_, fun i x hx => ?_, h.fr.inj, h.fr.defers, fun r hr => ?_, h.fr.dnodup⟩
    · rw [Env.get_cons]
      by_cases hi : d = i
      · subst hi
        rw [if_pos rfl]
        exact ⟨b, vs.toArray, t', hb, g2, setRow_heap w b cs' _ t' (0, 0) g3, by simpa using hc, by simpa using ho⟩
      · rw [if_neg hi]
        have := h.fr.ent i
        cases hx : e.get i with
        | none => trivial
        | s v => rw [hx] at this; exact this
        | var cs' =>
          rw [hx] at this
          obtain ⟨b2, cs2, t2, h1, h2, h3, h4⟩ := this
          have hne : b2 ≠ b := fun e' => by subst e'; exact hi (h.fr.inj d i b2 hb h1)
          exact ⟨b2, cs2, t2, h1, h2, by rw [setRow_other w b b2 _ hne]; exact h3, h4⟩
        | ptr g d' off => rw [hx] at this; exact this
    · rw [Env.get_cons] at hi ⊢
      by_cases hi' : d = i
      · rw [if_pos hi'] at hi; cases hi
      · rw [if_neg hi'] at hi
        by_cases hd' : d = d'
        · rw [if_pos hd']; simp
        · rw [if_neg hd']; exact h.fr.ptr i g d' off hi
    · obtain ⟨h1, h2, h3⟩ := h.fr.priv i x hx
      exact ⟨h1, by simpa using h2, h3⟩
    · obtain ⟨h1, h2, h3, h4, h5⟩ := h.fr.dpriv r hr
      have hne : r ≠ b := fun e' => by subst e'; exact h5 d hb
      exact ⟨h1, by rw [setRow_other w b r _ hne]; exact h2, h3, h4, h5⟩

/-! ### what is known of new shared variables -/

def Kn.addLoc (κ : Kn) (l n : Nat) : Kn := { κ with loc := fun i => if i = l then some n else κ.loc i }

theorem ObjR.ext {o : Go.Obj} {x : Obj} (h : ObjR C κ o x) (hle : LE κ κ') : ObjR C κ' o x := h.mono hle

theorem Inv.addLoc (h : Inv C κ B s w) (hB : B ≤ w.heap.size) {o : Go.Obj} {x : Obj} (hx : ObjR C (κ.addLoc s.locs.length w.heap.size) o x) :
    Inv C (κ.addLoc s.locs.length w.heap.size) B (s.addLoc x) (w.alloc o) ∧ Mv κ (κ.addLoc s.locs.length w.heap.size) w (w.alloc o) := by
  have hg := World.grownBy_alloc w o none
  have h' := h.grown hg
  have hnl : ∀ l b, κ.loc l = some b → l ≠ s.locs.length := fun l b hl => by have := h.locn l b hl; omega
  have hbl : ∀ l b, κ.loc l = some b → b ≠ w.heap.size := fun l b hl => by have := (h.wr_lt (.inl ⟨l, hl⟩)).2; omega
  have hle : LE κ (κ.addLoc s.locs.length w.heap.size) :=
    ⟨fun _ _ _ k => k, fun l b hl => by simp only [Kn.addLoc, hnl l b hl, if_false]; exact hl, fun _ L _ v k => ⟨L, v, k, Nat.le_refl _, fun _ => rfl⟩⟩
  have hloc : ∀ l b, (κ.addLoc s.locs.length w.heap.size).loc l = some b → (l = s.locs.length ∧ b = w.heap.size) ∨ κ.loc l = some b := fun l b hl => by
    simp only [Kn.addLoc] at hl
    split at hl
    · rename_i e; cases hl; exact .inl ⟨e, rfl⟩
    · exact .inr hl
  refine ⟨⟨h'.im, fun l y hy => ?_, fun l b hl => ?_, ?_, h'.tokn, ?_, h'.tokinj, ?_, ?_⟩, ⟨hle, hg.os, hg.tape, hg.output, hg.size, fun b hb _ => hg.block b hb (by simp), fun b hb => ?_, fun _ _ _ k _ _ => k⟩⟩
  · simp only [St.addLoc] at hy
    by_cases hl : l < s.locs.length
    · rw [List.getElem?_append_left hl] at hy
      obtain ⟨b, o', h1, h2, h3, h4⟩ := h'.locs l y hy
      exact ⟨b, o', hle.loc l b h1, h2, h3, h4.mono hle⟩
    · rw [List.getElem?_append_right (by omega)] at hy
      obtain ⟨hl', rfl⟩ : l = s.locs.length ∧ y = x := by
        cases hq : l - s.locs.length with
        | zero => rw [hq] at hy; simp at hy; exact ⟨by omega, hy.symm⟩
        | succ n => rw [hq] at hy; simp at hy
      exact ⟨w.heap.size, o, by simp [Kn.addLoc, hl'], hB, heap_alloc_new w o, hx⟩
  · simp only [St.addLoc, List.length_append, List.length_singleton]
    rcases hloc l b hl with ⟨rfl, _⟩ | hl
    · omega
    · have := h.locn l b hl; omega
  · intro k L hk
    obtain ⟨e, v, xs, g, h1, h2⟩ := h'.toks k L hk
    exact ⟨e, v, xs, g, h1, h2⟩
  · intro i j b hi hj
    rcases hloc i b hi with ⟨rfl, rfl⟩ | hi <;> rcases hloc j _ hj with ⟨rfl, hb⟩ | hj
    · rfl
    · exact absurd rfl (hbl j _ hj)
    · exact absurd hb (hbl i _ hi)
    · exact h.locinj i j b hi hj
  · intro l b k L e v hl hk
    rcases hloc l b hl with ⟨rfl, rfl⟩ | hl
    · intro hv
      have := (h.wr_lt (.inr ⟨k, L, e, v, hk, hv⟩)).2
      omega
    · exact h.loctok l b k L e v hl hk
  · intro l b o' hl
    rcases hloc l b hl with ⟨rfl, rfl⟩ | hl
    · cases ho : κ.im w.heap.size o' with
      | none => exact ho
      | some v => have := h.im_lt ho; omega
    · exact h.locim l b o' hl
  · rcases hb with ⟨l, hl⟩ | ht
    · rcases hloc l b hl with ⟨rfl, rfl⟩ | hl
      · exact .inr (Nat.le_refl _)
      · exact .inl (.inl ⟨l, hl⟩)
    · exact .inl (.inr ht)

/-- a shared variable's object is another -/
theorem Inv.setLoc (h : Inv C κ B s w) {l b : Nat} (hl : κ.loc l = some b) {x : Obj} {o : Go.Obj} (hx : ObjR C κ o x) (hw : w'.heap[b]? = some o) (hg : w.grownBy w' (some b)) :
    Inv C κ B { s with locs := s.locs.set l x } w' ∧ Mv κ κ w w' := by
  have hll := h.locn l b hl
  refine ⟨⟨fun b' o' v k => ?_, fun i y hy => ?_, fun i b' hi => by simpa using h.locn i b' hi, fun k L hk => ?_, h.tokn, h.locinj, h.tokinj, h.loctok, h.locim⟩,
    ⟨.refl κ, hg.os, hg.tape, hg.output, hg.size, fun x hx hnw => hg.block x hx (fun e => by cases e; exact hnw (.inl ⟨l, hl⟩)), fun _ hb => .inl hb, fun _ _ _ k _ _ => k⟩⟩
  · have hne : b' ≠ b := fun e => by subst e; rw [h.locim l b' o' hl] at k; cases k
    exact hg.cell (h.im b' o' v k) (fun e => hne (by cases e; rfl))
  · by_cases hil : l = i
    · subst hil
      rw [List.getElem?_set_self hll] at hy
      cases hy
      obtain ⟨b', o', h1, h2, _⟩ := h.locs l _ (List.getElem?_eq_getElem hll)
      rw [hl] at h1
      cases h1
      exact ⟨b, o, hl, h2, hw, hx⟩
    · rw [List.getElem?_set_ne hil] at hy
      obtain ⟨b', o', h1, h2, h3, h4⟩ := h.locs i y hy
      have hne : b' ≠ b := fun e => by subst e; exact hil (h.locinj l i b' hl h1)
      exact ⟨b', o', h1, h2, by rw [hg.block b' (Array.getElem?_eq_some_iff.1 h3).1 (fun e => hne (by cases e; rfl))]; exact h3, h4⟩
  · obtain ⟨e, v, xs, g, h1, h2, h3, h4⟩ := h.toks k L hk
    refine ⟨e, v, xs, g, h1, h2.kept hg (.inr (fun e' => ?_)), h3, h4⟩
    exact h.loctok l b k L e v hl h1 e'

end
end Go.Am
